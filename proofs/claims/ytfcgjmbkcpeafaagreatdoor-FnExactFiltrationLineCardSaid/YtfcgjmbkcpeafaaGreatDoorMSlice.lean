/- PROVED: for every input the law FnExactFiltrationLine returns true and each argument reads afterwards as it read before (the statement 'FnExactFiltrationLineCardSaid' of the given Rows).
Conditions: none beyond those which the given statement itself names. This text is one part of the proof. -/
import Derived.Test.YtfcgjmbkcpeafaaGreatDoorMAddr

/- The abstract machine: slice expressions, sources of appends, conversions, lengths. -/
namespace Go.Qv
open Go Go.RowKit

section
variable {P : Program} {A : Nat → Prop} {c : Ctx} {d : Nat} {H : Nat → Option Blk} {n : Nat} {T : TT}

theorem natK_ok {x : AV} {u : Value} (hx : RA c d x u) {K : Nat → Prop} (hk : natK x K) : ∃ (kk : IntKind) (k : Nat), u = .int kk (k : Int) ∧ K k := by
  unfold natK at hk
  split at hk
  · obtain ⟨k, rfl, hk⟩ := hk
    exact ⟨_, k, hx.int', hk⟩
  · exact hk.elim

theorem run_sliceBound {kk : IntKind} {k y : Nat} (h : k ≤ y) (code : BoundsCode) : (Instr.sliceBound (.int kk (k : Int)) y code).run P c.w = .ok k c.w := by
  have h1 : (0 : Int) ≤ (k : Int) ∧ (k : Int) ≤ (y : Int) := by omega
  simp [Instr.sliceBound, asIntOf, h1]

theorem run_sliceBounds {isS : Bool} {len cap : Nat} {lo hi : Option Value} {l h : Nat} (hlo : (lo = none ∧ l = 0) ∨ ∃ kk, lo = some (.int kk (l : Int))) (hhi : (hi = none ∧ h = len) ∨ ∃ kk, hi = some (.int kk (h : Int)) ∧ h ≤ cap) (hlh : l ≤ h) :
    (Instr.sliceBounds isS len cap lo hi none).run P c.w = .ok (l, h, cap) c.w := by
  rcases hlo with ⟨rfl, rfl⟩ | ⟨kk, rfl⟩ <;> rcases hhi with ⟨rfl, rfl⟩ | ⟨kk', rfl, hc⟩ <;> simp [Instr.sliceBounds, run_sliceBound, *]

/-- The address behind a cut. -/
theorem run_slice_slice {t e : TypeId} (hu : P.underlying t = some (.slice e)) {sz : Nat} (hs : (sizeOf e).run P c.w = .ok sz c.w) {a : Option Addr} {len cap : Nat} {lo hi : Option Value} {l h : Nat}
    (hlo : (lo = none ∧ l = 0) ∨ ∃ kk, lo = some (.int kk (l : Int))) (hhi : (hi = none ∧ h = len) ∨ ∃ kk, hi = some (.int kk (h : Int)) ∧ h ≤ cap) (hlh : l ≤ h) :
    (Instr.sliceAt t (.slice a len cap) lo hi none).run P c.w = .ok (.slice (if cap = l then a else a.map (·.add (l * sz))) (h - l) (cap - l)) c.w := by
  have hb := run_sliceBounds (P := P) (c := c) (isS := true) (len := len) (cap := cap) hlo hhi hlh
  simp [Instr.sliceAt, Instr.slice, run_underlying hu, hb, hs]

theorem run_slice_str {t : TypeId} (hu : P.underlying t = some .string) {s : List UInt8} {lo hi : Option Value} {l h : Nat}
    (hlo : (lo = none ∧ l = 0) ∨ ∃ kk, lo = some (.int kk (l : Int))) (hhi : (hi = none ∧ h = s.length) ∨ ∃ kk, hi = some (.int kk (h : Int)) ∧ h ≤ s.length) (hlh : l ≤ h) :
    (Instr.sliceAt t (.string ⟨s.toArray⟩) lo hi none).run P c.w = .ok (.string ⟨((s.take h).drop l).toArray⟩) c.w := by
  have hsz : (ByteArray.mk s.toArray).size = s.length := by simp [ByteArray.size]
  have hb := run_sliceBounds (P := P) (c := c) (isS := false) (len := s.length) (cap := s.length) hlo hhi hlh
  have he : (ByteArray.mk s.toArray).extract l h = ⟨((s.take h).drop l).toArray⟩ := by
    apply ByteArray.ext
    rw [ByteArray.data_extract]
    apply Array.ext'
    simp [List.extract_eq_take_drop, List.drop_take]
  simp [Instr.sliceAt, Instr.slice, run_underlying hu, hsz, hb, he]

theorem RD.cut {S : Nat → Prop} {w : World} {cs : List D} {len cap l h sz : Nat} {a : Option Addr} (hx : RD S w d (.sl cs len) (.slice a len cap)) (hlh : l ≤ h) (hh : h ≤ len) {cs' : List D}
    (hcs : ∀ (i : Nat) (x : D), cs'[i]? = some x → cs[l * sz + i]? = some x) (h0 : h - l = 0 → cs' = []) : RD S w d (.sl cs' (h - l)) (.slice (if cap = l then a else a.map (·.add (l * sz))) (h - l) (cap - l)) := by
  cases d with
  | zero => exact hx.elim
  | succ d =>
    obtain ⟨a', cap', e, h1, h2, h3⟩ := hx
    cases e
    refine ⟨_, _, rfl, by omega, by omega, ?_⟩
    by_cases hz : h - l = 0
    · exact .inl ⟨hz, h0 hz⟩
    · rcases h3 with ⟨h3, _⟩ | ⟨_, b, o, rfl, hc⟩
      · omega
      · refine .inr ⟨hz, b, o + l * sz, ?_, ?_⟩
        · rw [if_neg (by omega)]; simp [add_none]
        · obtain ⟨hS, arr, e, fr, hw, hall⟩ := hc
          refine ⟨hS, arr, e, fr, hw, fun i x hx => ?_⟩
          obtain ⟨u, hu, hr⟩ := hall _ x (hcs i x hx)
          exact ⟨u, by rw [Nat.add_assoc]; exact hu, hr⟩

theorem ROS.cut {r : Own} {off len cap l h : Nat} {a : Option Addr} (hx : ROS r off len (.slice a len cap)) (hlh : l ≤ h) (hh : h ≤ len) : ROS r (off + l * r.sz) (h - l) (.slice (if cap = l then a else a.map (·.add (l * r.sz))) (h - l) (cap - l)) := by
  obtain ⟨a', cap', e, h1, h2, h3⟩ := hx
  cases e
  refine ⟨_, _, rfl, by omega, by omega, ?_⟩
  by_cases hz : h - l = 0
  · exact .inl hz
  · rcases h3 with h3 | ⟨hv, rfl, h4⟩
    · omega
    · refine .inr ⟨hv, ?_, ?_⟩
      · rw [if_neg (by omega)]; simp [add_none]
      · have : l ≤ cap := by omega
        rw [Nat.add_assoc, ← Nat.add_mul]
        rw [show l + (cap - l) = cap by omega]; exact h4

theorem RO.ros {r : Own} {len : Nat} {u : Value} (h : RO r len u) : ROS r 0 len u := by
  rcases h with ⟨_, rfl, a, rfl⟩ | ⟨hv, cap, rfl, h1, h2, h3⟩
  · exact ⟨a, 0, rfl, Nat.le_refl _, Nat.zero_le _, .inl rfl⟩
  · exact ⟨_, cap, rfl, h2, h3, .inr ⟨hv, rfl, by omega⟩⟩

/-- The optional bound of a slice expression, abstract and concrete. -/
def ROpt (c : Ctx) (d : Nat) : Option AV → Option Value → Prop
  | none, none => True
  | some x, some v => RA c d x v
  | _, _ => False

theorem HeapOk.sz (h : HeapOk P A c d H n) {id : Nat} {e : TypeId} {m : Bool} {cs : List D} (hb : H id = some (.row e m cs)) : ∃ r, c.ρ id = some r ∧ r.sz = P.cellsOf e := by
  obtain ⟨r, h1, h2, _⟩ := h.blk id _ hb
  exact ⟨r, h1, h2.1⟩


theorem elemT_spec (hT : TOk P T) {t e : TypeId} {i : TI} (h : elemT T t = some (e, i)) : P.underlying t = some (.slice e) ∧ ∃ ti td z, TyOk P e i ti td z := by
  unfold elemT at h
  split at h
  · rename_i e' _ _ _ hl
    obtain ⟨ti, td, z, ht⟩ := hT.ty hl
    split at h
    · rename_i i' hl'
      simp only [Option.some.injEq, Prod.mk.injEq] at h
      obtain ⟨rfl, rfl⟩ := h
      exact ⟨ht.slice rfl, hT.ty hl'⟩
    · cases h
  · cases h

theorem TyOk.cellsOf {t : TypeId} {i : TI} {ti : TypeInfo} {td : TypeDesc} {z : Value} (h : TyOk P t i ti td z) : P.cellsOf t = i.size := by
  simp [Program.cellsOf, h.info, h.size]

theorem rowOf_spec (h : HeapOk P A c d H n) {id : Nat} {e : TypeId} (hr : rowOf H id e = true) : ∃ r, c.ρ id = some r ∧ r.sz = P.cellsOf e := by
  unfold rowOf at hr
  split at hr
  · rename_i e2 m cs hb
    have := Nat.eq_of_beq_eq_true hr; subst this
    exact h.sz hb
  · cases hr

theorem run_slice_zero {t e : TypeId} (hu : P.underlying t = some (.slice e)) {sz : Nat} (hs : (sizeOf e).run P c.w = .ok sz c.w) {a : Option Addr} {len cap : Nat} {k1 k2 : IntKind} :
    (Instr.sliceAt t (.slice a len cap) none (some (.int k1 0)) (some (.int k2 0))).run P c.w = .ok (.slice a 0 0) c.w := by
  simp [Instr.sliceAt, Instr.slice, Instr.sliceBounds, Instr.sliceBound, asIntOf, run_underlying hu, hs]

theorem RD.empty {S : Nat → Prop} {w : World} (a : Option Addr) : RD S w (d + 1) (.sl [] 0) (.slice a 0 0) := ⟨a, 0, rfl, Nat.le_refl _, Nat.zero_le _, .inl ⟨rfl, rfl⟩⟩

theorem sub_take_drop {cs : List D} {l h sz : Nat} (i : Nat) (x : D) (hx : ((cs.take (mulS h sz)).drop (mulS l sz))[i]? = some x) : cs[l * sz + i]? = some x := by
  rw [mulS_eq, mulS_eq, List.getElem?_drop, List.getElem?_take] at hx
  split at hx
  · exact hx
  · cases hx
theorem sub_drop {cs : List D} {l sz : Nat} (i : Nat) (x : D) (hx : (cs.drop (mulS l sz))[i]? = some x) : cs[l * sz + i]? = some x := by
  rw [mulS_eq, List.getElem?_drop] at hx; exact hx
theorem sub_take {cs : List D} {h sz : Nat} (i : Nat) (x : D) (hx : (cs.take (mulS h sz))[i]? = some x) : cs[0 * sz + i]? = some x := by
  rw [mulS_eq, List.getElem?_take] at hx
  split at hx
  · simpa using hx
  · cases hx

theorem sliceK_ok (hT : TOk P T) (hH : HeapOk P A c d H n) {t : TypeId} {x : AV} {u : Value} {lo hi mx : Option AV} {lo' hi' mx' : Option Value} (hx : RA c d x u) (hlo : ROpt c d lo lo') (hhi : ROpt c d hi hi') (hmx : ROpt c d mx mx') {K : AV → Prop} (hk : sliceK T H t x lo hi mx K) :
    ∃ r v, K r ∧ (Instr.sliceAt t u lo' hi' mx').run P c.w = .ok v c.w ∧ RA c (d + 1) r v := by
  unfold sliceK at hk
  split at hk
  · split at hk
    · exact hk.elim
    · rename_i ei he
      obtain ⟨e, i⟩ := ei
      obtain ⟨hu, ti, td, z, ht⟩ := elemT_spec hT he
      have hs := ht.run_size (w := c.w)
      split at hk
      · cases lo' <;> cases hi' <;> cases mx' <;> simp only [ROpt] at hlo hhi hmx
        have := hhi.int'; subst this
        have := hmx.int'; subst this
        obtain ⟨hrd, _⟩ := hx.rs
        cases d with
        | zero => exact hrd.elim
        | succ d =>
          obtain ⟨a, cap, rfl, _⟩ := hrd
          exact ⟨_, _, hk, run_slice_zero hu hs, ⟨RD.empty a, fun _ => ⟨a, rfl⟩⟩⟩
      · cases lo' <;> cases hi' <;> cases mx' <;> simp only [ROpt] at hlo hhi hmx
        have := hhi.int'; subst this
        have := hmx.int'; subst this
        obtain ⟨r, _, _, hro⟩ := hx.ow
        obtain ⟨a, cap, rfl, _⟩ := hro.ros
        exact ⟨_, _, hk, run_slice_zero hu hs, ⟨RD.empty a, fun _ => ⟨a, rfl⟩⟩⟩
      · cases lo' <;> cases hi' <;> cases mx' <;> simp only [ROpt] at hlo hhi hmx
        have := hhi.int'; subst this
        have := hmx.int'; subst this
        have : u = .slice none 0 0 := by cases d <;> exact hx
        subst this
        exact ⟨_, _, hk, run_slice_zero hu hs, ⟨RD.empty none, fun _ => ⟨none, rfl⟩⟩⟩
      · exact hk.elim
  · have hmx0 : mx' = none := by cases mx' <;> simp_all [ROpt]
    subst hmx0
    split at hk
    · -- a string
      rename_i s
      have := hx.str'; subst this
      split at hk
      · rename_i hl
        obtain ⟨ti, td, zz, ht⟩ := hT.ty hl
        have hu := ht.str rfl
        split at hk
        · cases lo' <;> cases hi' <;> simp only [ROpt] at hlo hhi
          refine ⟨_, _, hk, run_slice_str hu (.inl ⟨rfl, rfl⟩) (.inl ⟨rfl, rfl⟩) (Nat.zero_le _), ?_⟩
          simp [RA]
        · cases lo' <;> cases hi' <;> simp only [ROpt] at hlo hhi
          obtain ⟨kk, l, rfl, hl, hk⟩ := natK_ok hlo hk
          refine ⟨_, _, hk, run_slice_str hu (.inr ⟨_, rfl⟩) (.inl ⟨rfl, rfl⟩) hl, ?_⟩
          simp [RA]
        · cases lo' <;> cases hi' <;> simp only [ROpt] at hlo hhi
          obtain ⟨kk, h, rfl, hh, hk⟩ := natK_ok hhi hk
          refine ⟨_, _, hk, run_slice_str hu (.inl ⟨rfl, rfl⟩) (.inr ⟨_, rfl, hh⟩) (Nat.zero_le _), ?_⟩
          simp [RA]
        · cases lo' <;> cases hi' <;> simp only [ROpt] at hlo hhi
          obtain ⟨kk, h, rfl, hh, hk⟩ := natK_ok hhi hk
          obtain ⟨kk', l, rfl, hl, hk⟩ := natK_ok hlo hk
          refine ⟨_, _, hk, run_slice_str hu (.inr ⟨_, rfl⟩) (.inr ⟨_, rfl, hh⟩) hl, ?_⟩
          simp [RA]
      · exact hk.elim
    · -- read-only
      rename_i m _ cs len
      split at hk
      · exact hk.elim
      · rename_i e i he
        obtain ⟨hu, ti, td, z, ht⟩ := elemT_spec hT he
        have hs := ht.run_size (w := c.w)
        obtain ⟨hrd, _⟩ := hx.rs
        have hsl : ∃ a cap, u = .slice a len cap ∧ len ≤ cap ∧ (len = 0 → cs = []) := by
          cases d with
          | zero => exact hrd.elim
          | succ d => obtain ⟨a, cap, h1, h2, _, h3⟩ := hrd; exact ⟨a, cap, h1, h2, fun h0 => h3.elim (·.2) fun h => absurd h0 h.1⟩
        obtain ⟨a, cap, rfl, hcap, hnil⟩ := hsl
        split at hk
        · cases lo' <;> cases hi' <;> simp only [ROpt] at hlo hhi
          refine ⟨_, _, hk, run_slice_slice hu hs (.inl ⟨rfl, rfl⟩) (.inl ⟨rfl, rfl⟩) (Nat.zero_le _), RA.up _ _ _ (RA.mk_rs ?_)⟩
          exact RD.cut (sz := i.size) hrd (Nat.zero_le len) (Nat.le_refl _) (cs' := cs) (fun i x hx => by simpa using hx) hnil
        · cases lo' <;> cases hi' <;> simp only [ROpt] at hlo hhi
          obtain ⟨kk, l, rfl, hl, hlen, hk⟩ := natK_ok hlo hk
          refine ⟨_, _, hk, run_slice_slice hu hs (.inr ⟨_, rfl⟩) (.inl ⟨rfl, rfl⟩) hl, RA.up _ _ _ (RA.mk_rs ?_)⟩
          refine RD.cut (sz := i.size) hrd hl (Nat.le_refl _) sub_drop fun h0 => ?_
          have : l = len := by omega
          subst this
          rw [← hlen]; simp
        · cases lo' <;> cases hi' <;> simp only [ROpt] at hlo hhi
          obtain ⟨kk, h, rfl, hh, hk⟩ := natK_ok hhi hk
          refine ⟨_, _, hk, run_slice_slice hu hs (.inl ⟨rfl, rfl⟩) (.inr ⟨_, rfl, by omega⟩) (Nat.zero_le _), RA.up _ _ _ (RA.mk_rs ?_)⟩
          refine RD.cut (sz := i.size) hrd (Nat.zero_le h) hh sub_take fun h0 => ?_
          have : h = 0 := by omega
          subst this
          simp [mulS_eq]
        · cases lo' <;> cases hi' <;> simp only [ROpt] at hlo hhi
          obtain ⟨kk, h, rfl, hh, hk⟩ := natK_ok hhi hk
          obtain ⟨kk', l, rfl, hl, hk⟩ := natK_ok hlo hk
          refine ⟨_, _, hk, run_slice_slice hu hs (.inr ⟨_, rfl⟩) (.inr ⟨_, rfl, by omega⟩) hl, RA.up _ _ _ (RA.mk_rs ?_)⟩
          refine RD.cut (sz := i.size) hrd hl hh sub_take_drop fun h0 => ?_
          have : l = h := by omega
          subst this
          rw [List.drop_eq_nil_iff]; simp [mulS_eq]; omega
    · -- one's own, whole
      rename_i id len
      split at hk
      · exact hk.elim
      · rename_i e i he
        obtain ⟨hu, ti, td, z, ht⟩ := elemT_spec hT he
        have hs := ht.run_size (w := c.w)
        cases hro : rowOf H id e with
        | false => rw [hro] at hk; exact hk.elim
        | true =>
          rw [hro] at hk
          simp only [cond_true] at hk
          obtain ⟨r, hr, hrn, hro'⟩ := hx.ow
          obtain ⟨r', e', hsz⟩ := rowOf_spec hH hro
          rw [hr] at e'; cases e'
          rw [ht.cellsOf] at hsz
          have hros := hro'.ros
          have hsl : ∃ a cap, u = .slice a len cap ∧ len ≤ cap := by obtain ⟨a, cap, h1, h2, _⟩ := hros; exact ⟨a, cap, h1, h2⟩
          obtain ⟨a, cap, rfl, hcap⟩ := hsl
          split at hk
          · cases lo' <;> cases hi' <;> simp only [ROpt] at hlo hhi
            refine ⟨_, _, hk, run_slice_slice hu hs (.inl ⟨rfl, rfl⟩) (.inl ⟨rfl, rfl⟩) (Nat.zero_le _), RA.up _ _ _ (RA.mk_ow hr hrn ?_)⟩
            have e1 : (if cap = 0 then a else Option.map (fun x => x.add (0 * i.size)) a) = a := by
              split
              · rfl
              · cases a <;> simp [Addr.add]
            rw [e1]; exact hro'
          · cases lo' <;> cases hi' <;> simp only [ROpt] at hlo hhi
            obtain ⟨kk, l, rfl, hl, hk⟩ := natK_ok hlo hk
            refine ⟨_, _, hk, run_slice_slice hu hs (.inr ⟨_, rfl⟩) (.inl ⟨rfl, rfl⟩) hl, RA.up _ _ _ (RA.mk_os hr ?_)⟩
            have := hros.cut (l := l) (h := len) hl (Nat.le_refl _)
            rw [hsz, Nat.zero_add, ← mulS_eq] at this
            rw [← mulS_eq]; exact this
          · cases lo' <;> cases hi' <;> simp only [ROpt] at hlo hhi
            obtain ⟨kk, h, rfl, hh, hk⟩ := natK_ok hhi hk
            refine ⟨_, _, hk, run_slice_slice hu hs (.inl ⟨rfl, rfl⟩) (.inr ⟨_, rfl, by omega⟩) (Nat.zero_le _), RA.up _ _ _ (RA.mk_os hr ?_)⟩
            have := hros.cut (l := 0) (h := h) (Nat.zero_le _) hh
            rw [hsz] at this
            simpa using this
          · cases lo' <;> cases hi' <;> simp only [ROpt] at hlo hhi
            obtain ⟨kk, h, rfl, hh, hk⟩ := natK_ok hhi hk
            obtain ⟨kk', l, rfl, hl, hk⟩ := natK_ok hlo hk
            refine ⟨_, _, hk, run_slice_slice hu hs (.inr ⟨_, rfl⟩) (.inr ⟨_, rfl, by omega⟩) hl, RA.up _ _ _ (RA.mk_os hr ?_)⟩
            have := hros.cut (l := l) (h := h) hl hh
            rw [hsz, Nat.zero_add, ← mulS_eq] at this
            rw [← mulS_eq]; exact this
    · -- one's own, a part
      rename_i id off len
      split at hk
      · exact hk.elim
      · rename_i e i he
        obtain ⟨hu, ti, td, z, ht⟩ := elemT_spec hT he
        have hs := ht.run_size (w := c.w)
        cases hro : rowOf H id e with
        | false => rw [hro] at hk; exact hk.elim
        | true =>
          rw [hro] at hk
          simp only [cond_true] at hk
          obtain ⟨r, hr, hros⟩ := hx.os
          obtain ⟨r', e', hsz⟩ := rowOf_spec hH hro
          rw [hr] at e'; cases e'
          rw [ht.cellsOf] at hsz
          have hsl : ∃ a cap, u = .slice a len cap ∧ len ≤ cap := by obtain ⟨a, cap, h1, h2, _⟩ := hros; exact ⟨a, cap, h1, h2⟩
          obtain ⟨a, cap, rfl, hcap⟩ := hsl
          split at hk
          · cases lo' <;> cases hi' <;> simp only [ROpt] at hlo hhi
            refine ⟨_, _, hk, run_slice_slice hu hs (.inl ⟨rfl, rfl⟩) (.inl ⟨rfl, rfl⟩) (Nat.zero_le _), RA.up _ _ _ (RA.mk_os hr ?_)⟩
            have := hros.cut (l := 0) (h := len) (Nat.zero_le _) (Nat.le_refl _)
            rw [hsz] at this
            simpa using this
          · cases lo' <;> cases hi' <;> simp only [ROpt] at hlo hhi
            obtain ⟨kk, l, rfl, hl, hk⟩ := natK_ok hlo hk
            refine ⟨_, _, hk, run_slice_slice hu hs (.inr ⟨_, rfl⟩) (.inl ⟨rfl, rfl⟩) hl, RA.up _ _ _ (RA.mk_os hr ?_)⟩
            have := hros.cut (l := l) (h := len) hl (Nat.le_refl _)
            rw [hsz, ← mulS_eq] at this
            rw [← mulS_eq]; exact this
          · cases lo' <;> cases hi' <;> simp only [ROpt] at hlo hhi
            obtain ⟨kk, h, rfl, hh, hk⟩ := natK_ok hhi hk
            refine ⟨_, _, hk, run_slice_slice hu hs (.inl ⟨rfl, rfl⟩) (.inr ⟨_, rfl, by omega⟩) (Nat.zero_le _), RA.up _ _ _ (RA.mk_os hr ?_)⟩
            have := hros.cut (l := 0) (h := h) (Nat.zero_le _) hh
            rw [hsz] at this
            simpa using this
          · cases lo' <;> cases hi' <;> simp only [ROpt] at hlo hhi
            obtain ⟨kk, h, rfl, hh, hk⟩ := natK_ok hhi hk
            obtain ⟨kk', l, rfl, hl, hk⟩ := natK_ok hlo hk
            refine ⟨_, _, hk, run_slice_slice hu hs (.inr ⟨_, rfl⟩) (.inr ⟨_, rfl, by omega⟩) hl, RA.up _ _ _ (RA.mk_os hr ?_)⟩
            have := hros.cut (l := l) (h := h) hl hh
            rw [hsz, ← mulS_eq] at this
            rw [← mulS_eq]; exact this
    · -- nil
      have : u = .slice none 0 0 := by cases d <;> exact hx
      subst this
      split at hk
      · exact hk.elim
      · rename_i ei he
        obtain ⟨e, i⟩ := ei
        obtain ⟨hu, ti, td, z, ht⟩ := elemT_spec hT he
        have hs := ht.run_size (w := c.w)
        split at hk
        · cases lo' <;> cases hi' <;> simp only [ROpt] at hlo hhi
          refine ⟨_, _, hk, run_slice_slice hu hs (.inl ⟨rfl, rfl⟩) (.inl ⟨rfl, rfl⟩) (Nat.zero_le _), ?_⟩
          simp [RA]
        · cases lo' <;> cases hi' <;> simp only [ROpt] at hlo hhi
          have := hhi.int'; subst this
          refine ⟨_, _, hk, run_slice_slice (h := 0) hu hs (.inl ⟨rfl, rfl⟩) (.inr ⟨_, rfl, Nat.le_refl _⟩) (Nat.zero_le _), ?_⟩
          exact RA.mk_rs (RD.empty _)
        · exact hk.elim
    · exact hk.elim
end

end Go.Qv
