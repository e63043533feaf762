/- PROVED: for every input the law FnExactFiltrationLine returns true and each argument reads afterwards as it read before (the statement 'FnExactFiltrationLineCardSaid' of the given Rows).
Conditions: none beyond those which the given statement itself names. This text is one part of the proof. -/
import Derived.Test.YtfcgjmbkcpeafaaGreatDoorMApp
import Derived.Laws.MakeOwn

/- The abstract machine: append, make. -/
namespace Go.Qv
open Go Go.RowKit

section
variable {P : Program} {A : Nat → Prop} {c : Ctx} {d : Nat} {H : Nat → Option Blk} {n : Nat} {T : TT}

theorem hup_same {b : Option Blk} {id : Nat} : hup H id b id = b := by simp [hup]
theorem hup_ne {b : Option Blk} {id j : Nat} (h : j ≠ id) : hup H id b j = H j := by
  have hbq : Nat.beq j id = false := by cases hq : Nat.beq j id; rfl; exact absurd (Nat.eq_of_beq_eq_true hq) h
  simp [hup, hbq]
theorem memB_one {i j : Nat} : memB i [j] = false → i ≠ j := by
  intro h e; subst e; simp [memB] at h

def Ctx.at (c : Ctx) (w : World) (id : Nat) (r : Own) : Ctx := ⟨w, c.S0, c.S1, fun i => if i = id then some r else c.ρ i⟩

/-- A block of one's own gives way to another, of the same number. -/
theorem Out.renew (h : HeapOk P A c d H n) (hA : ∀ b, c.w.heap.size ≤ b → A b) {id : Nat} {b b' : Blk} {r r' : Own} {w' : World} (hb : H id = some b) (hr : c.ρ id = some r) (hk : Keeps A c.w w')
    (hold : ∀ k, k < c.w.heap.size → (r.virt = false → k ≠ r.g) → w'.heap[k]? = c.w.heap[k]?) (hg' : r'.virt = false → (r.virt = false ∧ r'.g = r.g) ∨ (c.w.heap.size ≤ r'.g ∧ r'.g < w'.heap.size)) (hkb : killB [id] b' = b') {d' : Nat} (hd : d ≤ d')
    (hbr : BR P (c.at w' id r') d' r' b') {av : AV} {u : Value} (hav : RA (c.at w' id r') d' av u) : Out P A c d (hup H id (some b')) n [id] av u w' := by
  obtain ⟨r0, e0, _, hg⟩ := h.blk id b hb
  rw [hr] at e0; cases e0
  have hle : c.Le (c.at w' id r') [id] := by
    refine ⟨fun _ h => h, fun _ h => h, fun k hk' => hold k (h.S_lt hA hk') fun hv e => ?_, fun j rj hj hm => ?_⟩
    · subst e
      rcases hk' with hk' | hk'
      · exact h.s0 _ hk' (hg hv).1
      · exact (hg hv).2.2 hk'
    · simp [Ctx.at, memB_one hm, hj]
  refine ⟨hk, d', c.S1, _, hle, hd, ?_, hav⟩
  refine h.step hle rfl hd hk.size (fun k hk' => ⟨(h.s1 k hk').1, Nat.lt_of_lt_of_le (h.s1 k hk').2 hk.size⟩) (fun j hj => ?_) fun j bj hj => ?_
  · have hne : j ≠ id := fun e => by have := (h.top j hj).2; rw [e, hb] at this; cases this
    exact ⟨by simp [hne, (h.top j hj).1], by simp [hup_ne hne, (h.top j hj).2]⟩
  · by_cases hid : j = id
    · subst hid
      simp only [hup_same, Option.map_some, Option.some.injEq, hkb] at hj
      subst hj
      refine .inr ⟨r', by simp, hbr, fun hv' => ?_⟩
      rcases hg' hv' with ⟨hv, e⟩ | ⟨h1, h2⟩
      · refine ⟨by rw [e]; exact (hg hv).1, by rw [e]; exact Nat.lt_of_lt_of_le (hg hv).2.1 hk.size, by rw [e]; exact (hg hv).2.2, fun k bk rk hk' hbk hrk hvk => ?_⟩
        rw [hup_ne hk'] at hbk
        simp only [Option.map_eq_some_iff] at hbk
        obtain ⟨bk', hbk, _⟩ := hbk
        simp [hk'] at hrk
        rw [e]
        exact h.inj k j bk' b rk r hk' hbk hb hrk hr hvk hv
      · refine ⟨hA _ h1, h2, fun hs => by have := (h.s1 _ hs).2; omega, fun k bk rk hk' hbk hrk hvk => ?_⟩
        rw [hup_ne hk'] at hbk
        simp only [Option.map_eq_some_iff] at hbk
        obtain ⟨bk', hbk, _⟩ := hbk
        simp [hk'] at hrk
        obtain ⟨rk', e, _, hgk⟩ := h.blk k bk' hbk
        rw [hrk] at e; cases e
        have := (hgk hvk).2.1
        omega
    · rw [hup_ne hid] at hj
      simp only [Option.map_eq_some_iff] at hj
      obtain ⟨bj', hbj, rfl⟩ := hj
      obtain ⟨rj, h1, _, h3⟩ := h.blk j bj' hbj
      refine .inl ⟨bj', rj, hbj, rfl, h1, by simp [hid, h1], fun hv' => ⟨hold _ (h3 hv').2.1 fun hv => ?_, (h3 hv').2.2⟩⟩
      exact h.inj j id bj' b rj r hid hbj hb h1 hr hv' hv

/-- A draw turns nothing. -/
def Ctx.drew (c : Ctx) : Ctx := ⟨c.w.drew, c.S0, c.S1, c.ρ⟩
theorem Ctx.Le.drew (c : Ctx) : c.Le c.drew [] := ⟨fun _ h => h, fun _ h => h, fun _ _ => rfl, fun _ _ h _ => h⟩
theorem HeapOk.drew (h : HeapOk P A c d H n) : HeapOk P A c.drew d H n := by
  refine h.step (Ctx.Le.drew c) rfl (Nat.le_refl _) (Nat.le_refl _) h.s1 h.top fun id b hb => ?_
  obtain ⟨r, h1, _, h3⟩ := h.blk id b hb
  exact .inl ⟨b, r, hb, (killB_nil b).symm, h1, h1, fun hv => ⟨rfl, (h3 hv).2.2⟩⟩
theorem Ctx.Le.trans {c1 c2 c3 : Ctx} {ks : List Nat} (h1 : c1.Le c2 []) (h2 : c2.Le c3 ks) : c1.Le c3 ks :=
  ⟨fun b h => h2.s0 b (h1.s0 b h), fun b h => h2.s1 b (h1.s1 b h), fun b h => (h2.heap b (Or.imp (h1.s0 b) (h1.s1 b) h)).trans (h1.heap b h), fun id r h hm => h2.ρ id r (h1.ρ id r h rfl) hm⟩
theorem Out.of_drew {H' : Nat → Option Blk} {n' : Nat} {ks : List Nat} {av : AV} {u : Value} {w' : World} (h : Out P A c.drew d H' n' ks av u w') : Out P A c d H' n' ks av u w' := by
  obtain ⟨hk, d', S1', ρ', h1, h2, h3, h4⟩ := h
  exact ⟨(Keeps.refl A c.w).drew.trans hk, d', S1', ρ', (Ctx.Le.drew c).trans h1, h2, h3, h4⟩

theorem RD.okM {S0 S1 : Nat → Prop} {w : World} {m' m : Bool} {cs : List D} (h : Qv.okM m' m cs) {x : D} (hx : x ∈ cs) {v : Value} (hr : RD (Sm S0 S1 m) w d x v) : RD (Sm S0 S1 m') w d x v := by
  rcases h with rfl | rfl | h
  · exact RD.imp (fun b hb => Or.imp (fun hh => ⟨rfl, hh.2⟩) id hb) (fun _ _ => rfl) d x v hr
  · exact RD.imp (fun b hb => Or.inr (hb.elim (fun hh => by cases hh.1) id)) (fun _ _ => rfl) d x v hr
  · have := h x hx
    cases x <;> cases d <;> first | exact hr | (simp [scD] at this)

/-- A new row of one's own. -/
theorem Out.newRow (h : HeapOk P A c d H n) (hA : ∀ b, c.w.heap.size ≤ b → A b) {e : TypeId} {m : Bool} {content : List D} {arr : Array Value} {N cap sz : Nat} (hsz : sz = P.cellsOf e) (hlen : content.length = N * sz) (hcap : arr.size = cap * sz) (hN : N ≤ cap) (hm : cap ≤ maxLen)
    (hall : ∀ (i : Nat) (x : D), content[i]? = some x → ∃ u, arr[i]? = some u ∧ RD (Sm c.S0 c.S1 m) c.w d x u) :
    Out P A c d (hup H n (some (.row e m content))) (n + 1) [] (.ow n N) (.slice (some ⟨c.w.heap.size, 0, none⟩) N cap) (c.w.alloc (.cells arr e)) := by
  have hle : c.Le ⟨c.w.alloc (.cells arr e), c.S0, c.S1, fun i => if i = n then some ⟨c.w.heap.size, cap * sz, sz, N, false⟩ else c.ρ i⟩ [] := by
    refine ⟨fun _ h => h, fun _ h => h, fun b hb => heap_alloc_lt _ _ (h.S_lt hA hb), fun id r' hr' _ => ?_⟩
    have : id ≠ n := fun e => by have := (h.top id (by omega)).1; rw [this] at hr'; cases hr'
    simp [this, hr']
  refine Out.alloc h hA (.cells arr e) ⟨c.w.heap.size, cap * sz, sz, N, false⟩ (.row e m content) rfl ⟨hsz, hlen, .inr ⟨rfl, arr, heap_alloc_new _ _, hcap, ?_, fun i x hx => ?_⟩⟩ _ _ ?_
  · rw [hlen, hcap]; exact Nat.mul_le_mul_right _ hN
  · obtain ⟨u, hu, hr⟩ := hall i x hx
    exact ⟨u, hu, RD.ctx hle hr⟩
  · exact RA.mk_ow (r := ⟨c.w.heap.size, cap * sz, sz, N, false⟩) (by simp) rfl (.inr ⟨rfl, cap, rfl, rfl, hN, hm⟩)

/-- An empty row, without a block. -/
theorem Out.virtRow (h : HeapOk P A c d H n) {e : TypeId} {m : Bool} {a : Option Addr} : Out P A c d (hup H n (some (.row e m []))) (n + 1) [] (.ow n 0) (.slice a 0 0) c.w := by
  have hle : c.Le (c.at c.w n ⟨0, 0, P.cellsOf e, 0, true⟩) [] := by
    refine ⟨fun _ h => h, fun _ h => h, fun _ _ => rfl, fun id r' hr' _ => ?_⟩
    have : id ≠ n := fun e => by have := (h.top id (by omega)).1; rw [this] at hr'; cases hr'
    simp [Ctx.at, this, hr']
  refine ⟨Keeps.refl _ _, d, c.S1, _, hle, Nat.le_refl _, ?_, RA.mk_ow (r := ⟨0, 0, P.cellsOf e, 0, true⟩) (by simp) rfl (.inl ⟨rfl, rfl, a, rfl⟩)⟩
  rw [map_killB_nil]
  refine h.step hle rfl (Nat.le_refl _) (Nat.le_refl _) h.s1 (fun j hj => ?_) fun j bj hj => ?_
  · have hne : j ≠ n := by omega
    exact ⟨by simp [hne, (h.top j (by omega)).1], by simp [hup_ne hne, (h.top j (by omega)).2]⟩
  · by_cases hid : j = n
    · subst hid
      rw [hup_same] at hj; cases hj
      exact .inr ⟨⟨0, 0, P.cellsOf e, 0, true⟩, by simp, ⟨rfl, by simp, .inl ⟨rfl, rfl⟩⟩, fun hv => by cases hv⟩
    · rw [hup_ne hid] at hj
      obtain ⟨rj, h1, _, h3⟩ := h.blk j bj hj
      exact .inl ⟨bj, rj, hj, (killB_nil bj).symm, h1, by simp [hid, h1], fun hv => ⟨rfl, (h3 hv).2.2⟩⟩

theorem All2.idx {α : Type} {R : α → Value → Prop} {xs : List α} {vs : List Value} (h : All2 R xs vs) (i : Nat) (x : α) (hx : xs[i]? = some x) : ∃ v, vs[i]? = some v ∧ R x v := All2.get xs vs i x h hx

/-- The arm of append that makes a new row. -/
theorem append_new (h : HeapOk P A c d H n) (hA : ∀ b, c.w.heap.size ≤ b → A b) {t tx e : TypeId} {i : TI} {ti : TypeInfo} {td : TypeDesc} {z : Value} (ht : P.underlying t = some (.slice e)) (hti : TyOk P e i ti td z) (hz : z.cells.size = i.size) {ty : TypeId}
    {base : Option Addr} {sLen sCap : Nat} {olds news : List Value} (hold : (Builtin.firstCells i.size sLen (.slice base sLen sCap)).run P c.w.drew = .ok olds.toArray c.w.drew) (hol : olds.length = sLen * i.size) {x : Value} {k : Nat} (hs : Src P i.size tx x k news c.w)
    (hg : sCap < sLen + k) (hb : (sLen + k) * i.bytes ≤ sizeLim) (hm : sLen + k ≤ intLim) {m : Bool} {content : List D} (hc : All2 (RD (Sm c.S0 c.S1 m) c.w d) content (olds ++ news)) :
    ∃ u w', (Builtin.append_ #[t, tx] ty #[.slice base sLen sCap, x]).run P c.w = .ok u w' ∧ Out P A c d (hup H n (some (.row e m content))) (n + 1) [] (.ow n (sLen + k)) u w' := by
  have hi63 := intLim_eq hm
  have hrun := run_append_grow_src (P := P) c.w t tx ty e ti z ht hti.info hti.zero base sLen sCap olds (by rw [hti.size]; exact hold) x k news (by rw [hti.size]; exact hs) hg (by simp only [maxLen] at hi63; omega) (by rw [hti.bytes]; exact growslice_ok hg hb)
  refine ⟨_, _, hrun, Out.of_drew ?_⟩
  have hge := grownCap_ge c.w (sLen + k) sCap e
  refine Out.newRow (c := c.drew) h.drew hA hti.cellsOf.symm ?_ ?_ hge (grownCap_le_maxLen c.w (sLen + k) sCap e hi63) fun j x hx => ?_
  · have := All2.length _ _ hc
    rw [← this, List.length_append, hol, hs.newsLen, Nat.add_mul]
  · simp only [Array.size_append, List.size_toArray, size_zeroCells, List.length_append, hol, hs.newsLen, hz, ← Nat.add_mul]
    congr 1
    omega
  · obtain ⟨v, hv, hr⟩ := hc.idx j x hx
    refine ⟨v, ?_, RD.ctx (Ctx.Le.drew c) hr⟩
    have hlt := (List.getElem?_eq_some_iff.1 hv).1
    rw [Array.getElem?_append_left (by simpa using hlt)]
    simpa using hv

theorem All2.mono {α : Type} {R R' : α → Value → Prop} {xs : List α} {vs : List Value} (h : All2 R xs vs) (hh : ∀ x ∈ xs, ∀ v, R x v → R' x v) : All2 R' xs vs := by
  induction xs generalizing vs with
  | nil => cases vs with
    | nil => trivial
    | cons _ _ => exact h.elim
  | cons x xs ih => cases vs with
    | nil => exact h.elim
    | cons v vs => exact ⟨hh x (by simp) v h.1, ih h.2 fun y hy => hh y (by simp [hy])⟩

theorem All2.rdM {S0 S1 : Nat → Prop} {w : World} {m' m : Bool} {cs : List D} {vs : List Value} (h : Qv.okM m' m cs) (h2 : All2 (RD (Sm S0 S1 m) w d) cs vs) : All2 (RD (Sm S0 S1 m') w d) cs vs :=
  h2.mono fun _ hx _ hr => RD.okM h hx hr

theorem firstCells_row {sz k cap b o : Nat} {vs : List Value} (hl : vs.length = k * sz) (h : ∀ (j : Nat) (x : Value), vs[j]? = some x → c.w.cell? ((⟨b, o, none⟩ : Addr).add j) = some x) :
    (Builtin.firstCells sz k (.slice (some ⟨b, o, none⟩) k cap)).run P c.w.drew = .ok vs.toArray c.w.drew :=
  run_firstCells_some c.w.drew sz k ⟨b, o, none⟩ k cap vs hl (by simpa using h)

theorem zeroSize {e : TypeId} {i : TI} {ti : TypeInfo} {td : TypeDesc} {z : Value} (hti : TyOk P e i ti td z) (hz : i.zero.length = i.size) : z.cells.size = i.size := by
  have := congrArg List.length hti.zs
  simp at this
  omega

/-- The arm of append that makes a new row in the place of an old one. -/
theorem append_renew (h : HeapOk P A c d H n) (hA : ∀ b, c.w.heap.size ≤ b → A b) {t tx e : TypeId} {i : TI} {ti : TypeInfo} {td : TypeDesc} {z : Value} (ht : P.underlying t = some (.slice e)) (hti : TyOk P e i ti td z) (hz : z.cells.size = i.size) {ty : TypeId} {id : Nat} {b : Blk} {r : Own} (hb' : H id = some b) (hr : c.ρ id = some r)
    {base : Option Addr} {sLen sCap : Nat} {olds news : List Value} (hold : (Builtin.firstCells i.size sLen (.slice base sLen sCap)).run P c.w.drew = .ok olds.toArray c.w.drew) (hol : olds.length = sLen * i.size) {x : Value} {k : Nat} (hs : Src P i.size tx x k news c.w)
    (hg : sCap < sLen + k) (hb : (sLen + k) * i.bytes ≤ sizeLim) (hm : sLen + k ≤ intLim) {m : Bool} {content : List D} (hc : All2 (RD (Sm c.S0 c.S1 m) c.w d) content (olds ++ news)) :
    ∃ u w', (Builtin.append_ #[t, tx] ty #[.slice base sLen sCap, x]).run P c.w = .ok u w' ∧ Out P A c d (hup H id (some (.row e m content))) n [id] (.ow id (sLen + k)) u w' := by
  have hi63 := intLim_eq hm
  have hrun := run_append_grow_src (P := P) c.w t tx ty e ti z ht hti.info hti.zero base sLen sCap olds (by rw [hti.size]; exact hold) x k news (by rw [hti.size]; exact hs) hg (by simp only [maxLen] at hi63; omega) (by rw [hti.bytes]; exact growslice_ok hg hb)
  refine ⟨_, _, hrun, Out.of_drew ?_⟩
  have hge := grownCap_ge c.w (sLen + k) sCap e
  have hlen : content.length = (sLen + k) * i.size := by
    have := All2.length _ _ hc
    rw [← this, List.length_append, hol, hs.newsLen, Nat.add_mul]
  have hlt : ∀ k', k' < c.drew.w.heap.size → (c.w.drew.alloc (.cells ((olds ++ news).toArray ++ Builtin.zeroCells z.cells (grownCap c.w (sLen + k) sCap e - (sLen + k))) e)).heap[k']? = c.drew.w.heap[k']? := fun k' hk' => heap_alloc_lt _ _ hk'
  refine Out.renew (c := c.drew) (r' := ⟨c.w.heap.size, grownCap c.w (sLen + k) sCap e * i.size, i.size, sLen + k, false⟩) (d' := d) h.drew hA hb' hr ((Keeps.refl A _).alloc _ (hA _ (Nat.le_refl _))) (fun k' hk' _ => hlt k' hk') (fun _ => .inr ⟨Nat.le_refl _, by rw [World.size_alloc]; exact Nat.lt_succ_self _⟩) (by simp [killB]) (Nat.le_refl _) ?_ ?_
  · refine ⟨hti.cellsOf.symm, hlen, .inr ⟨rfl, _, heap_alloc_new _ _, ?_, ?_, fun j x hx => ?_⟩⟩
    · simp only [Array.size_append, List.size_toArray, size_zeroCells, List.length_append, hol, hs.newsLen, hz, ← Nat.add_mul]
      congr 1
      omega
    · simp only [Array.size_append, List.size_toArray, List.length_append, hol, hs.newsLen, ← Nat.add_mul, hlen]
      omega
    · obtain ⟨v, hv, hrr⟩ := hc.idx j x hx
      refine ⟨v, ?_, RD.imp (fun _ hb => hb) (fun b hb => ?_) _ _ _ hrr⟩
      · have hlt := (List.getElem?_eq_some_iff.1 hv).1
        rw [Array.getElem?_append_left (by simpa using hlt)]
        simpa using hv
      · exact hlt b (h.S_lt hA (Or.imp (fun x => x.2) (fun x => x) hb))
  · exact RA.mk_ow (r := ⟨c.w.heap.size, grownCap c.w (sLen + k) sCap e * i.size, i.size, sLen + k, false⟩) (by simp [Ctx.at]) rfl (.inr ⟨rfl, _, rfl, rfl, hge, grownCap_le_maxLen c.w (sLen + k) sCap e hi63⟩)

theorem appendK_ok (hH : HeapOk P A c d H n) (hA : ∀ b, c.w.heap.size ≤ b → A b) (hT : TOk P T) (hZ : ∀ t i, look T t = some i → i.zero.length = i.size) {t tx ty : TypeId} {s x : AV} {us ux : Value} (hs : RA c d s us) (hx : RA c d x ux)
    (hk : (∃ e', P.underlying tx = some (.slice e') ∧ ∀ s, x ≠ .str s) ∨ (P.underlying tx = some .string ∧ (∃ s, x = .str s) ∧ ∀ e i, elemT T t = some (e, i) → i.size = 1)) {K : Kont} (h : appendK T H n t s x K) :
    ∃ r H' n' ks u w', K r H' n' ks ∧ (Builtin.append_ #[t, tx] ty #[us, ux]).run P c.w = .ok u w' ∧ Out P A c d H' n' ks r u w' := by
  unfold appendK at h
  split at h
  · rename_i e i cs2 m2 n2 he hsrc
    obtain ⟨hu, ti, td, z, hti⟩ := elemT_spec hT he
    have hzs : z.cells.size = i.size := by
      unfold elemT at he
      split at he
      · split at he
        · rename_i i' hl'
          simp only [Option.some.injEq, Prod.mk.injEq] at he
          obtain ⟨rfl, rfl⟩ := he
          exact zeroSize hti (hZ _ _ hl')
        · cases he
      · cases he
    have hsr : cs2.length = mulS n2 i.size → ∃ news : List Value, Src P i.size tx ux n2 news c.w ∧ All2 (RD (Sm c.S0 c.S1 m2) c.w d) cs2 news := fun hl => by
      rw [mulS_eq] at hl
      refine srcA_ok hH hx hsrc hl ?_
      rcases hk with hk | ⟨h1, h2, h3⟩
      · exact .inl hk
      · exact .inr ⟨h1, h3 e i he, h2⟩
    split at h
    · -- nil
      obtain ⟨m', ho, hl, hb, hm, hK⟩ := h
      obtain ⟨news, hsrc', hall⟩ := hsr hl
      have : us = .slice none 0 0 := by cases d <;> exact hs
      subst this
      rcases Nat.eq_zero_or_pos n2 with h0 | h0
      · subst h0
        have hn : news = [] := List.eq_nil_of_length_eq_zero (by simpa using hsrc'.newsLen)
        subst hn
        have hc : cs2 = [] := List.eq_nil_of_length_eq_zero (by simpa [mulS_eq] using hl)
        subst hc
        exact ⟨_, _, _, _, _, _, hK, run_append_nothing c.w t tx ty e ti hu hti.info none 0 0 (Nat.le_refl _) ux (by rw [hti.size]; exact hsrc'), Out.virtRow hH⟩
      · obtain ⟨u, w', h1, h2⟩ := append_new (base := none) (sLen := 0) (sCap := 0) (olds := []) (ty := ty) (m := m') (content := cs2) hH hA hu hti hzs (run_firstCells_none c.w.drew i.size 0 0 0) (by simp) hsrc' (by omega) (by simpa using hb) (by simpa using hm) (by simpa using hall.rdM ho)
        rw [Nat.zero_add] at h2
        exact ⟨_, _, _, _, _, _, hK, h1, h2⟩
    · -- a literal
      rename_i m cs k
      obtain ⟨m', ho1, ho2, hn0, hl1, hl2, hb, hm, hK⟩ := h
      obtain ⟨news, hsrc', hall⟩ := hsr hl2
      obtain ⟨hrd, hex⟩ := hs.rs
      obtain ⟨a, rfl⟩ := hex rfl
      rw [mulS_eq] at hl1
      cases d with
      | zero => exact hrd.elim
      | succ d =>
        obtain ⟨a', cap', e', _, _, h4⟩ := hrd
        cases e'
        by_cases hz : k = 0 ∧ n2 = 0
        · obtain ⟨rfl, rfl⟩ := hz
          have hn : news = [] := List.eq_nil_of_length_eq_zero (by simpa using hsrc'.newsLen)
          subst hn
          have hc : cs2 = [] := List.eq_nil_of_length_eq_zero (by simpa [mulS_eq] using hl2)
          subst hc
          have hc : cs = [] := List.eq_nil_of_length_eq_zero (by simpa using hl1)
          subst hc
          exact ⟨_, _, _, _, _, _, hK, run_append_nothing c.w t tx ty e ti hu hti.info a 0 0 (Nat.le_refl _) ux (by rw [hti.size]; exact hsrc'), Out.virtRow hH⟩
        · have hpos : 0 < n2 := by omega
          have holds : ∃ olds : List Value, (Builtin.firstCells i.size k (.slice a k k)).run P c.w.drew = .ok olds.toArray c.w.drew ∧ All2 (RD (Sm c.S0 c.S1 m) c.w (d + 1)) cs olds := by
            rcases h4 with ⟨rfl, rfl⟩ | ⟨_, b, o, rfl, _, arr, e', fr, hw, hh⟩
            · refine ⟨[], ?_, trivial⟩
              cases a with
              | none => exact run_firstCells_none c.w.drew i.size 0 0 0
              | some a => exact run_firstCells_some c.w.drew i.size 0 a 0 0 [] (by simp) (fun j u h => by simp at h)
            · obtain ⟨vs, h1, h3, h5⟩ := cellsAll hw hh
              exact ⟨vs, firstCells_row (by rw [h1, hl1]) h5, h3.mono fun x _ v hr => RD.up _ _ _ hr⟩
          obtain ⟨olds, ho, hoa⟩ := holds
          obtain ⟨u, w', h1, h2⟩ := append_new (base := a) (sLen := k) (sCap := k) (olds := olds) (ty := ty) (m := m') (content := cs ++ cs2) hH hA hu hti hzs ho (by rw [All2.length _ _ hoa, hl1]) hsrc' (by omega) hb hm (All2.append (hoa.rdM ho1) (hall.rdM ho2))
          exact ⟨_, _, _, _, _, _, hK, h1, h2⟩
    · -- one's own
      rename_i id k
      split at h
      · rename_i e2 m cs hbk
        cases hee : Nat.beq e e2 with
        | false => rw [hee] at h; exact h.elim
        | true =>
          rw [hee] at h
          simp only [cond_true] at h
          have := Nat.eq_of_beq_eq_true hee; subst this
          obtain ⟨m', ho1, ho2, hl2, hb, hm, hK⟩ := h
          obtain ⟨news, hsrc', hall⟩ := hsr hl2
          rw [mulS_eq] at hl2
          obtain ⟨r, hr, hrn, hro⟩ := hs.ow
          obtain ⟨r', e', hbr, hg⟩ := hH.blk id _ hbk
          rw [hr] at e'; cases e'
          obtain ⟨hsz, hlen, hbr⟩ := hbr
          rw [hti.cellsOf] at hsz
          rw [hsz, hrn] at hlen
          rcases hro with ⟨hv, h0, a, rfl⟩ | ⟨hv, cap, rfl, hcap, hkc, hcm⟩
          · -- no block yet
            subst h0
            have hc : cs = [] := List.eq_nil_of_length_eq_zero (by simpa using hlen)
            subst hc
            rcases Nat.eq_zero_or_pos n2 with h0 | h0
            · subst h0
              have hn : news = [] := List.eq_nil_of_length_eq_zero (by simpa using hsrc'.newsLen)
              subst hn
              have hc : cs2 = [] := List.eq_nil_of_length_eq_zero (by simpa using hl2)
              subst hc
              refine ⟨_, _, _, _, _, _, hK, run_append_nothing c.w t tx ty e ti hu hti.info a 0 0 (Nat.le_refl _) ux (by rw [hti.size]; exact hsrc'), ?_⟩
              refine Out.renew (b' := .row e m' ([] ++ [])) (r' := r) (d' := d) hH hA hbk hr (Keeps.refl _ _) (fun _ _ _ => rfl) (fun hv' => by rw [hv] at hv'; cases hv') (by simp [killB]) (Nat.le_refl _) ⟨by rw [hsz, hti.cellsOf], by simp [hrn], .inl ⟨hv, rfl⟩⟩ ?_
              exact RA.mk_ow (r := r) (by simp [Ctx.at]) hrn (.inl ⟨hv, rfl, a, rfl⟩)
            · have hold : (Builtin.firstCells i.size 0 (.slice a 0 0)).run P c.w.drew = .ok ([] : List Value).toArray c.w.drew := by
                cases a with
                | none => exact run_firstCells_none c.w.drew i.size 0 0 0
                | some a => exact run_firstCells_some c.w.drew i.size 0 a 0 0 [] (by simp) (fun j u h => by simp at h)
              obtain ⟨u, w', h1, h2⟩ := append_renew (base := a) (sLen := 0) (sCap := 0) (olds := []) (ty := ty) (m := m') (content := [] ++ cs2) hH hA hu hti hzs hbk hr hold (by simp) hsrc' (by omega) hb hm (by simpa using hall.rdM ho2)
              exact ⟨_, _, _, _, _, _, hK, h1, h2⟩
          · rcases hbr with ⟨hv', _⟩ | ⟨_, arr, hw, hasz, hle, hcells⟩
            · rw [hv] at hv'; cases hv'
            have hcells' : ∀ (i : Nat) (x : D), cs[i]? = some x → ∃ u, arr[0 + i]? = some u ∧ RD (Sm c.S0 c.S1 m) c.w d x u := by simpa using hcells
            by_cases hroom : k + n2 ≤ cap
            · have hfit : k * i.size + news.length ≤ arr.size := by
                rw [hsrc'.newsLen, hasz, ← hcap, hsz, ← Nat.add_mul]; exact Nat.mul_le_mul_right _ hroom
              have hrun := run_append_room_row c.w t tx ty e ti hu hti.info r.g k cap arr e hw ux n2 news (by rw [hti.size]; exact hsrc') hroom (by rw [hti.size]; exact hfit)
              rw [hti.size] at hrun
              refine ⟨_, _, _, _, _, _, hK, hrun, ?_⟩
              have hlen3 : (arr.toList.take (k * i.size) ++ news ++ arr.toList.drop (k * i.size + news.length)).length = arr.size := by
                simp only [List.length_append, List.length_take, List.length_drop, Array.length_toList]; omega
              have hother : ∀ k', k' ≠ r.g → (c.w.setRow r.g (arr.toList.take (k * i.size) ++ news ++ arr.toList.drop (k * i.size + news.length)).toArray).heap[k']? = c.w.heap[k']? := fun k' hk' => setRow_other _ _ _ _ hk'
              have hSne : ∀ b, c.S0 b ∨ c.S1 b → b ≠ r.g := fun b hb e => by
                subst e
                rcases hb with hb | hb
                · exact hH.s0 _ hb (hg hv).1
                · exact (hg hv).2.2 hb
              refine Out.renew (r' := ⟨r.g, r.asz, r.sz, k + n2, false⟩) (d' := d) hH hA hbk hr ((Keeps.refl _ _).setRow _ (hg hv).1) (fun k' _ hne => hother k' (hne hv)) (fun _ => .inl ⟨hv, rfl⟩) (by simp [killB]) (Nat.le_refl _) ?_ ?_
              · refine ⟨by rw [hsz, hti.cellsOf], by simp only [List.length_append, hlen, hl2, hsz, Nat.add_mul], .inr ⟨rfl, _, setRow_heap _ _ _ _ _ _ hw, by simpa [hasz] using hlen3, ?_, fun j x hx => ?_⟩⟩
                · simp only [List.size_toArray, hlen3, List.length_append, hlen, hl2]; rw [← hsrc'.newsLen]; exact hfit
                · have hrd : ∀ (m0 : Bool), okM m' m0 [x] → ∀ v, RD (Sm c.S0 c.S1 m0) c.w d x v → RD (Sm (c.at (c.w.setRow r.g (arr.toList.take (k * i.size) ++ news ++ arr.toList.drop (k * i.size + news.length)).toArray) id ⟨r.g, r.asz, r.sz, k + n2, false⟩).S0 c.S1 m') (c.w.setRow r.g (arr.toList.take (k * i.size) ++ news ++ arr.toList.drop (k * i.size + news.length)).toArray) d x v := fun m0 ho v hr' =>
                    RD.imp (fun _ hb => hb) (fun b hb => hother b (hSne b (Or.imp (fun x => x.2) (fun x => x) hb))) _ _ _ (RD.okM ho (by simp) hr')
                  rcases Nat.lt_or_ge j cs.length with hj | hj
                  · rw [List.getElem?_append_left hj] at hx
                    obtain ⟨v, hv', hr'⟩ := hcells j x hx
                    refine ⟨v, ?_, hrd m ?_ v hr'⟩
                    · have hj2 : j < k * i.size := by omega
                      have hja : j < arr.size := (Array.getElem?_eq_some_iff.1 hv').1
                      simp only [List.getElem?_toArray]
                      rw [List.append_assoc, List.getElem?_append_left (by simp; omega), List.getElem?_take_of_lt hj2, Array.getElem?_toList]
                      exact hv'
                    · rcases ho1 with h | h | h
                      · exact .inl h
                      · exact .inr (.inl h)
                      · exact .inr (.inr fun y hy => by simp at hy; subst hy; exact h _ (List.mem_of_getElem? hx))
                  · rw [List.getElem?_append_right hj] at hx
                    obtain ⟨v, hv', hr'⟩ := hall.idx _ x hx
                    refine ⟨v, ?_, hrd m2 ?_ v hr'⟩
                    · have hjn : j - cs.length < news.length := (List.getElem?_eq_some_iff.1 hv').1
                      have htk : (arr.toList.take (k * i.size)).length = cs.length := by
                        simp only [List.length_take, Array.length_toList]; omega
                      simp only [List.getElem?_toArray]
                      rw [List.append_assoc, List.getElem?_append_right (by omega), htk, List.getElem?_append_left hjn]
                      exact hv'
                    · rcases ho2 with h | h | h
                      · exact .inl h
                      · exact .inr (.inl h)
                      · exact .inr (.inr fun y hy => by simp at hy; subst hy; exact h _ (List.mem_of_getElem? hx))
              · exact RA.mk_ow (r := ⟨r.g, r.asz, r.sz, k + n2, false⟩) (by simp [Ctx.at]) rfl (.inr ⟨rfl, cap, rfl, hcap, hroom, hcm⟩)
            · obtain ⟨vs, h1, h3, h5⟩ := cellsAll hw hcells'
              obtain ⟨u, w', h1, h2⟩ := append_renew (base := some ⟨r.g, 0, none⟩) (sLen := k) (sCap := cap) (olds := vs) (ty := ty) (m := m') (content := cs ++ cs2) hH hA hu hti hzs hbk hr (run_firstCells_some c.w.drew i.size k ⟨r.g, 0, none⟩ k cap vs (by rw [h1, hlen]) (by simpa using h5)) (by rw [h1, hlen]) hsrc' (by omega) hb hm (All2.append (h3.rdM ho1) (hall.rdM ho2))
              exact ⟨_, _, _, _, _, _, hK, h1, h2⟩
      · exact h.elim
    · exact h.elim
  · exact h.elim
end

end Go.Qv
