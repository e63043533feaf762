/- PROVED: for every input the law FnExactFiltrationLine returns true and each argument reads afterwards as it read before (the statement 'FnExactFiltrationLineCardSaid' of the given Rows).
Conditions: none beyond those which the given statement itself names. This text is one part of the proof. -/
import Derived.Test.YtfcgjmbkcpeafaaGreatDoorMLoop

/- The abstract machine: functions. -/
namespace Go.Qv
open Go Go.RowKit

/-! ### Lengths -/
mutual
def lensD : D → Prop
  | .sl cs n => n ≤ intLim ∧ lensDs cs
  | _ => True
def lensDs : List D → Prop
  | [] => True
  | x :: r => lensD x ∧ lensDs r
end
mutual
def lensV : AV → Prop
  | .rs _ _ cs n => n ≤ intLim ∧ lensDs cs
  | .rp _ cs _ => lensDs cs
  | .agg cs | .tup cs | .fn _ cs => lensVs cs
  | _ => True
def lensVs : List AV → Prop
  | [] => True
  | x :: r => lensV x ∧ lensVs r
end

theorem lensDs_all : ∀ {cs : List D}, (∀ (i : Nat) (x : D), cs[i]? = some x → lensD x) → lensDs cs
  | [], _ => by simp [lensDs]
  | x :: r, h => by
    simp only [lensDs]
    exact ⟨h 0 x (by simp), lensDs_all fun i y hy => h (i + 1) y (by simpa using hy)⟩

theorem intLim_of {k : Nat} (h : k ≤ maxLen) : k ≤ intLim := by unfold intLim; exact h

theorem RD.lens {S : Nat → Prop} {w : World} : ∀ (d : Nat) (x : D) (v : Value), RD S w d x v → lensD x
  | d, .bool b, v, _ => by simp [lensD]
  | d, .int k n, v, _ => by simp [lensD]
  | d, .str s, v, _ => by simp [lensD]
  | d, .nilp, v, _ => by simp [lensD]
  | 0, .sl _ _, v, h => h.elim
  | d + 1, .sl cs n, v, h => by
    obtain ⟨a, cap, h1, h2, h3, h4⟩ := h
    simp only [lensD]
    refine ⟨intLim_of (Nat.le_trans h2 h3), ?_⟩
    rcases h4 with ⟨_, rfl⟩ | ⟨_, b, o, _, _, arr, e, fr, _, hc⟩
    · simp [lensDs]
    · exact lensDs_all fun i x hx => by obtain ⟨u, _, hr⟩ := hc i x hx; exact RD.lens d x u hr

theorem All2.lens {R : AV → Value → Prop} (h : ∀ x v, R x v → lensV x) : ∀ {xs : List AV} {vs : List Value}, All2 R xs vs → lensVs xs
  | [], [], _ => by simp [lensVs]
  | x :: xs, v :: vs, ⟨h1, h2⟩ => by simp only [lensVs]; exact ⟨h x v h1, All2.lens h h2⟩

theorem RA.lens {c : Ctx} : ∀ (d : Nat) (x : AV) (v : Value), RA c d x v → lensV x := by
  intro d
  induction d with
  | zero =>
    intro x v h
    cases x <;> simp only [lensV] <;> simp only [RA] at h
    case rs m x cs n => exact by have := RD.lens _ _ _ h.1; simpa [lensD] using this
    case rp m cs off => obtain ⟨b, o, _, _, arr, e, fr, _, hc⟩ := h; exact lensDs_all fun i x hx => by obtain ⟨u, _, hr⟩ := hc i x hx; exact RD.lens _ x u hr
  | succ d ih =>
    intro x v h
    cases x <;> simp only [lensV] <;> simp only [RA] at h
    case rs m x cs n => exact by have := RD.lens _ _ _ h.1; simpa [lensD] using this
    case rp m cs off => obtain ⟨b, o, _, _, arr, e, fr, _, hc⟩ := h; exact lensDs_all fun i x hx => by obtain ⟨u, _, hr⟩ := hc i x hx; exact RD.lens _ x u hr
    case agg cs => obtain ⟨vs, _, h2⟩ := h; exact All2.lens ih h2
    case tup cs => obtain ⟨vs, _, h2⟩ := h; exact All2.lens ih h2
    case fn g cs => obtain ⟨vs, _, h2⟩ := h; exact All2.lens ih h2

/-! ### Results -/

def resK (T : TT) (f : Nat → AV) (H : Heap) : List ResultVar → (List AV → Prop) → Prop
  | [], K => K []
  | .tmp t :: r, K => resK T f H r fun l => K (f t :: l)
  | .cell a ty :: r, K => match f a with
    | .op id off => loadK T H ty (.op id off) fun v => resK T f H r fun l => K (v :: l)
    | _ => False

/-- Own rows, handed out. -/
def fzS (T : TT) (H : Heap) : AV → Option AV
  | .ow id n => match H id with
    | some (.row e m cs) => some (.fs e m cs n)
    | _ => none
  | .os id off n => match H id with
    | some (.row e m cs) => match look T e with
      | some i => some (.rs m false ((cs.drop off).take (mulS n i.size)) n)
      | none => none
    | _ => none
  | .tup _ => none
  | v => bif idsLt 0 v then some v else none
def fzL (T : TT) (H : Heap) : List AV → Option (List AV)
  | [] => some []
  | v :: r => match fzS T H v with
    | some x => match fzL T H r with | some l => some (x :: l) | none => none
    | none => none
def fz1 (T : TT) (H : Heap) : AV → Option AV
  | .agg cs => match fzL T H cs with | some l => some (.agg l) | none => none
  | v => fzS T H v
def fz1L (T : TT) (H : Heap) : List AV → Option (List AV)
  | [] => some []
  | v :: r => match fz1 T H v with
    | some x => match fz1L T H r with | some l => some (x :: l) | none => none
    | none => none
def idsS : AV → List Nat
  | .ow id _ => [id]
  | _ => []
def idsSL : List AV → List Nat
  | [] => []
  | v :: r => idsS v ++ idsSL r
def ids1 : AV → List Nat
  | .agg cs => idsSL cs
  | v => idsS v
def ids1L : List AV → List Nat
  | [] => []
  | v :: r => ids1 v ++ ids1L r
def noDup : List Nat → Bool
  | [] => true
  | x :: r => bif memB x r then false else noDup r
def oS : AV → List Nat
  | .os id _ _ => [id]
  | _ => []
def oSL : List AV → List Nat
  | [] => []
  | v :: r => oS v ++ oSL r
def o1 : AV → List Nat
  | .agg cs => oSL cs
  | v => oS v
def o1L : List AV → List Nat
  | [] => []
  | v :: r => o1 v ++ o1L r
def disjB : List Nat → List Nat → Bool
  | [], _ => true
  | x :: r, l => bif memB x l then false else disjB r l
def pack : List AV → AV
  | [x] => x
  | l => .tup l

/-- What a function ends with: its results read as r. -/
def finK (T : TT) (res : List ResultVar) (r : AV) (e : Ex) (st : ASt) : Prop :=
  match e with
  | .exit _ => False
  | _ => resK T st.tmps st.heap res fun rs => match fz1L T st.heap rs with
    | some l => (noDup (ids1L rs) && disjB (o1L rs) (ids1L rs)) = true ∧ pack l = r
    | none => False

def startF (args : List AV) (t : Nat) : AV := match nth args t with | some v => v | none => .und

section
variable {P : Program} {A : Nat → Prop} {c : Ctx} {d : Nat} {H : Heap} {n : Nat} {T : TT}

def gOf (c : Ctx) (id : Nat) : List Nat := match c.ρ id with | some r => bif r.virt then [] else [r.g] | none => []
def gsOf (c : Ctx) : List Nat → List Nat
  | [] => []
  | i :: r => gOf c i ++ gsOf c r
theorem gsOf_append (c : Ctx) : ∀ a b : List Nat, gsOf c (a ++ b) = gsOf c a ++ gsOf c b
  | [], _ => rfl
  | x :: a, b => by simp only [List.cons_append, gsOf]; rw [gsOf_append c a b, List.append_assoc]

def Ctx.bare (c : Ctx) (G : Nat → Prop) : Ctx := ⟨c.w, c.S0, fun b => c.S1 b ∨ G b, fun _ => none⟩

theorem RA.bare {G : Nat → Prop} {v : AV} {u : Value} (h : RA c d v u) (hv : idsLt 0 v = true) : RA (c.bare G) d v u := by
  have h1 := RA.trim (c := c) (c' := ⟨c.w, c.S0, c.S1, fun _ => none⟩) (k := 0) rfl rfl rfl (fun id r h => by omega) d v u hv h
  exact RA.ctx (c := ⟨c.w, c.S0, c.S1, fun _ => none⟩) (c' := c.bare G) ⟨fun _ h => h, fun _ h => .inl h, fun _ _ => rfl, fun _ _ h _ => by cases h⟩ d v u h1

/-- The blocks that are handed out to be read. -/
def OutIn (c : Ctx) (G : Nat → Prop) (ids : List Nat) : Prop := ∀ id ∈ ids, ∀ r, c.ρ id = some r → r.virt = false → G r.g
theorem RD.bare {G : Nat → Prop} {m : Bool} {x : D} {u : Value} (h : RD (Sm c.S0 c.S1 m) c.w d x u) : RD (Sm (c.bare G).S0 (c.bare G).S1 m) (c.bare G).w d x u :=
  RD.imp (Sm.imp (fun _ h => h) (fun _ h => .inl h) m) (fun _ _ => rfl) _ _ _ h

theorem fzS_ok {G : Nat → Prop} (hH : HeapOk P A c d H n) {v v' : AV} {u : Value} (h : RA c d v u) (hf : fzS T H v = some v') (hG : OutIn c G (oS v)) : RFs P (c.bare G) (d + 1) v' u (gsOf c (idsS v)) ∧ ∀ id ∈ idsS v, ∃ b, H id = some b := by
  unfold fzS at hf
  split at hf
  · rename_i id k
    split at hf
    · rename_i e m cs hb
      simp only [Option.some.injEq] at hf
      subst hf
      obtain ⟨r, hr, hn, hro⟩ : ∃ r, c.ρ id = some r ∧ r.n = k ∧ RO r k u := by cases d <;> exact h
      obtain ⟨r', hr', hbr, _⟩ := hH.blk id _ hb
      rw [hr] at hr'; cases hr'
      obtain ⟨hsz, hlen, hbr⟩ := hbr
      refine ⟨⟨by rw [hlen, hn, hsz], ?_⟩, fun i hi => ⟨_, by simp only [idsS, List.mem_singleton] at hi; subst hi; exact hb⟩⟩
      simp only [idsS, gsOf, gOf, hr, List.append_nil]
      rcases hro with ⟨hv, h0, a, hu⟩ | ⟨hv, cap, hu, hcap, hkc, hcm⟩
      · left
        rcases hbr with ⟨_, hcs⟩ | ⟨hv', _⟩
        · exact ⟨by simp [hv], h0, hcs, a, by rw [hu]⟩
        · rw [hv] at hv'; cases hv'
      · right
        rcases hbr with ⟨hv', _⟩ | ⟨_, arr, hw, has, _, hall⟩
        · rw [hv] at hv'; cases hv'
        · exact ⟨r.g, cap, arr, by simp [hv], hu, hkc, hcm, hw, by rw [has, ← hcap, hsz], fun i x hx => let ⟨u, hu, hr⟩ := hall i x hx; ⟨u, hu, RD.up _ _ _ (RD.bare hr)⟩⟩
    · cases hf
  · rename_i id off k
    split at hf
    · rename_i e m cs hb
      split at hf
      · rename_i i hl
        simp only [Option.some.injEq] at hf
        subst hf
        obtain ⟨r, hr, a, cap, rfl, hkc, hcm, h4⟩ := h.os
        obtain ⟨r', e', hbr, _⟩ := hH.blk id _ hb
        rw [hr] at e'; cases e'
        obtain ⟨_, hlen, hbr⟩ := hbr
        refine ⟨⟨⟨⟨a, cap, rfl, hkc, hcm, ?_⟩, fun h => by cases h⟩, rfl⟩, fun i hi => by cases hi⟩
        by_cases hk : k = 0
        · subst hk; exact .inl ⟨rfl, by simp [mulS_eq]⟩
        · rcases h4 with h0 | ⟨hv, rfl, _⟩
          · exact absurd h0 hk
          · rcases hbr with ⟨hv', _⟩ | ⟨_, arr, hw, _, _, hall⟩
            · rw [hv] at hv'; cases hv'
            · refine .inr ⟨hk, r.g, off, rfl, .inr (.inr (hG id (by simp [oS]) r hr hv)), arr, e, (0, 0), hw, fun i x hx => ?_⟩
              rw [List.getElem?_take] at hx
              split at hx
              · rw [List.getElem?_drop] at hx
                obtain ⟨u, hu, hrd⟩ := hall _ x hx
                exact ⟨u, hu, RD.bare hrd⟩
              · cases hx
      · cases hf
    · cases hf
  · cases hf
  · rename_i h1 h2 h3
    cases hi : idsLt 0 v with
    | false => rw [hi] at hf; cases hf
    | true =>
      rw [hi] at hf
      simp only [cond_true, Option.some.injEq] at hf
      subst hf
      have hb := RA.up _ _ _ (h.bare (G := G) hi)
      cases v <;> first
        | exact absurd rfl (h1 _ _)
        | exact absurd rfl (h2 _ _ _)
        | exact ⟨⟨hb, rfl⟩, fun i hi => by cases hi⟩
        | exact hb.elim

theorem fzL_ok {G : Nat → Prop} (hH : HeapOk P A c d H n) : ∀ {vs vs' : List AV} {us : List Value}, All2 (RA c d) vs us → fzL T H vs = some vs' → OutIn c G (oSL vs) → RFl (RFs P (c.bare G) (d + 1)) vs' us (gsOf c (idsSL vs)) ∧ ∀ id ∈ idsSL vs, ∃ b, H id = some b
  | [], vs', [], _, hf, _ => by simp only [fzL, Option.some.injEq] at hf; subst hf; exact ⟨rfl, fun i hi => by cases hi⟩
  | v :: vs, vs', u :: us, ⟨h1, h2⟩, hf, hG => by
    simp only [fzL] at hf
    split at hf
    · rename_i x hx
      split at hf
      · rename_i l hl
        simp only [Option.some.injEq] at hf
        subst hf
        obtain ⟨a1, a2⟩ := fzS_ok hH h1 hx fun id hi => hG id (by simp only [oSL, List.mem_append]; exact .inl hi)
        obtain ⟨b1, b2⟩ := fzL_ok hH h2 hl fun id hi => hG id (by simp only [oSL, List.mem_append]; exact .inr hi)
        refine ⟨⟨_, _, by simp only [idsSL]; exact gsOf_append c _ _, a1, b1⟩, fun i hi => ?_⟩
        simp only [idsSL, List.mem_append] at hi
        exact hi.elim (a2 i) (b2 i)
      · cases hf
    · cases hf

theorem fz1_ok {G : Nat → Prop} (hH : HeapOk P A c d H n) {v v' : AV} {u : Value} (h : RA c d v u) (hf : fz1 T H v = some v') (hG : OutIn c G (o1 v)) : RF1 P (c.bare G) (d + 1) v' u (gsOf c (ids1 v)) ∧ (∀ id ∈ ids1 v, ∃ b, H id = some b) ∧ ∀ l, v' ≠ .tup l := by
  unfold fz1 at hf
  split at hf
  · rename_i cs
    split at hf
    · rename_i l hl
      simp only [Option.some.injEq] at hf
      subst hf
      cases d with
      | zero => exact h.elim
      | succ d =>
        obtain ⟨vs, hu, hall⟩ := h
        have hall' : All2 (RA c (d + 1)) cs vs := All2.imp (fun x v hx => RA.up _ _ _ hx) _ _ hall
        obtain ⟨a1, a2⟩ := fzL_ok hH hall' hl hG
        exact ⟨⟨vs, hu, a1⟩, a2, fun l e => by cases e⟩
    · cases hf
  · rename_i hna
    have hid : ids1 v = idsS v := by cases v <;> first | rfl | exact absurd rfl (hna _)
    have ho : o1 v = oS v := by cases v <;> first | rfl | exact absurd rfl (hna _)
    rw [ho] at hG
    obtain ⟨a1, a2⟩ := fzS_ok hH h hf hG
    rw [hid]
    have hnot : (∀ l, v' ≠ .agg l) ∧ ∀ l, v' ≠ .tup l := by
      unfold fzS at hf
      split at hf
      · split at hf
        · simp only [Option.some.injEq] at hf; subst hf; exact ⟨fun l e => (by cases e), fun l e => by cases e⟩
        · cases hf
      · split at hf
        · split at hf
          · simp only [Option.some.injEq] at hf; subst hf; exact ⟨fun l e => (by cases e), fun l e => by cases e⟩
          · cases hf
        · cases hf
      · cases hf
      · rename_i h1 h2 h3
        cases hi : idsLt 0 v with
        | false => rw [hi] at hf; cases hf
        | true => rw [hi] at hf; simp only [cond_true, Option.some.injEq] at hf; subst hf; exact ⟨hna, h3⟩
    refine ⟨?_, a2, hnot.2⟩
    cases v' <;> first | exact a1 | exact absurd rfl (hnot.1 _)

theorem fz1L_ok {G : Nat → Prop} (hH : HeapOk P A c d H n) : ∀ {vs vs' : List AV} {us : List Value}, All2 (RA c d) vs us → fz1L T H vs = some vs' → OutIn c G (o1L vs) → RFl (RF1 P (c.bare G) (d + 1)) vs' us (gsOf c (ids1L vs)) ∧ (∀ id ∈ ids1L vs, ∃ b, H id = some b) ∧ ∀ x ∈ vs', ∀ l, x ≠ .tup l
  | [], vs', [], _, hf, _ => by simp only [fz1L, Option.some.injEq] at hf; subst hf; exact ⟨rfl, fun i hi => (by cases hi), fun x hx => by cases hx⟩
  | v :: vs, vs', u :: us, ⟨h1, h2⟩, hf, hG => by
    simp only [fz1L] at hf
    split at hf
    · rename_i x hx
      split at hf
      · rename_i l hl
        simp only [Option.some.injEq] at hf
        subst hf
        obtain ⟨a1, a2, a3⟩ := fz1_ok hH h1 hx fun id hi => hG id (by simp only [o1L, List.mem_append]; exact .inl hi)
        obtain ⟨b1, b2, b3⟩ := fz1L_ok hH h2 hl fun id hi => hG id (by simp only [o1L, List.mem_append]; exact .inr hi)
        refine ⟨⟨_, _, by simp only [ids1L]; exact gsOf_append c _ _, a1, b1⟩, fun i hi => ?_, fun y hy => ?_⟩
        · simp only [ids1L, List.mem_append] at hi
          exact hi.elim (a2 i) (b2 i)
        · rcases List.mem_cons.1 hy with rfl | hy
          · exact a3
          · exact b3 y hy
      · cases hf
    · cases hf

theorem memB_mem {i : Nat} : ∀ {l : List Nat}, memB i l = false → i ∉ l
  | [], _ => by simp
  | j :: r, h => by
    simp only [memB] at h
    cases hb : Nat.beq i j with
    | true => rw [hb] at h; cases h
    | false =>
      rw [hb] at h
      simp only [List.mem_cons, not_or]
      exact ⟨Nat.ne_of_beq_eq_false hb, memB_mem h⟩

theorem gOf_mem (hH : HeapOk P A c d H n) {id g : Nat} (hid : ∃ b, H id = some b) (hg : g ∈ gOf c id) : ∃ r, c.ρ id = some r ∧ r.virt = false ∧ r.g = g ∧ A g ∧ g < c.w.heap.size ∧ ¬ c.S1 g := by
  obtain ⟨b, hb⟩ := hid
  obtain ⟨r, hr, _, hv⟩ := hH.blk id b hb
  simp only [gOf, hr] at hg
  cases hvirt : r.virt with
  | true => rw [hvirt] at hg; cases hg
  | false =>
    rw [hvirt] at hg
    simp only [cond_false, List.mem_singleton] at hg
    subst hg
    exact ⟨r, hr, hvirt, rfl, hv hvirt⟩

theorem gsOf_mem (hH : HeapOk P A c d H n) {g : Nat} : ∀ {ids : List Nat}, (∀ id ∈ ids, ∃ b, H id = some b) → g ∈ gsOf c ids → ∃ id ∈ ids, ∃ r, c.ρ id = some r ∧ r.virt = false ∧ r.g = g ∧ A g ∧ g < c.w.heap.size ∧ ¬ c.S1 g
  | [], _, h => by cases h
  | i :: r, hid, h => by
    simp only [gsOf, List.mem_append] at h
    rcases h with h | h
    · exact ⟨i, by simp, gOf_mem hH (hid i (by simp)) h⟩
    · obtain ⟨j, hj, hh⟩ := gsOf_mem hH (fun id hi => hid id (by simp [hi])) h
      exact ⟨j, by simp [hj], hh⟩

theorem gsOf_nodup (hH : HeapOk P A c d H n) : ∀ {ids : List Nat}, (∀ id ∈ ids, ∃ b, H id = some b) → noDup ids = true → (gsOf c ids).Nodup
  | [], _, _ => by simp [gsOf]
  | i :: r, hid, h => by
    simp only [noDup] at h
    cases hm : memB i r with
    | true => rw [hm] at h; cases h
    | false =>
      rw [hm] at h
      have hi := memB_mem hm
      simp only [gsOf]
      rw [List.nodup_append]
      refine ⟨?_, gsOf_nodup hH (fun id hi => hid id (by simp [hi])) h, fun x hx y hy e => ?_⟩
      · unfold gOf
        split
        · rename_i r' _; cases r'.virt <;> simp
        · simp
      · subst e
        obtain ⟨r1, h1, v1, g1, _⟩ := gOf_mem hH (hid i (by simp)) hx
        obtain ⟨j, hj, r2, h2, v2, g2, _⟩ := gsOf_mem hH (fun id hi => hid id (by simp [hi])) hy
        have hne : i ≠ j := fun e => hi (e ▸ hj)
        obtain ⟨b1, hb1⟩ := hid i (by simp)
        obtain ⟨b2, hb2⟩ := hid j (by simp [hj])
        exact hH.inj i j b1 b2 r1 r2 hne hb1 hb2 h1 h2 v1 v2 (g1.trans g2.symm)

theorem disjB_spec {x : Nat} : ∀ {a b : List Nat}, disjB a b = true → x ∈ a → x ∈ b → False
  | y :: r, b, h, hx, hb => by
    simp only [disjB] at h
    cases hm : memB y b with
    | true => rw [hm] at h; cases h
    | false =>
      rw [hm] at h
      rcases List.mem_cons.1 hx with rfl | hx
      · exact memB_mem hm hb
      · exact disjB_spec h hx hb

theorem oS_ok {v v' : AV} (hf : fzS T H v = some v') : ∀ id ∈ oS v, ∃ b, H id = some b := by
  intro id hid
  cases v <;> simp only [oS] at hid <;> try (cases hid; done)
  simp only [List.mem_singleton] at hid
  subst hid
  simp only [fzS] at hf
  split at hf
  · exact ⟨_, by assumption⟩
  · cases hf
theorem oSL_ok : ∀ {vs vs' : List AV}, fzL T H vs = some vs' → ∀ id ∈ oSL vs, ∃ b, H id = some b
  | [], _, _, _, hid => by cases hid
  | v :: vs, vs', hf, id, hid => by
    simp only [fzL] at hf
    simp only [oSL, List.mem_append] at hid
    split at hf
    · rename_i x hx
      split at hf
      · rename_i l hl
        exact hid.elim (oS_ok hx id) (oSL_ok hl id)
      · cases hf
    · cases hf
theorem o1_ok {v v' : AV} (hf : fz1 T H v = some v') : ∀ id ∈ o1 v, ∃ b, H id = some b := by
  unfold fz1 at hf
  split at hf
  · split at hf
    · rename_i hl; exact oSL_ok hl
    · cases hf
  · rename_i hna
    have ho : o1 v = oS v := by cases v <;> first | rfl | exact absurd rfl (hna _)
    rw [ho]; exact oS_ok hf
theorem o1L_ok : ∀ {vs vs' : List AV}, fz1L T H vs = some vs' → ∀ id ∈ o1L vs, ∃ b, H id = some b
  | [], _, _, _, hid => by cases hid
  | v :: vs, vs', hf, id, hid => by
    simp only [fz1L] at hf
    simp only [o1L, List.mem_append] at hid
    split at hf
    · rename_i x hx
      split at hf
      · rename_i l hl
        exact hid.elim (o1_ok hx id) (o1L_ok hl id)
      · cases hf
    · cases hf

/-- Reading the results. -/
def readRes (tmps : Array Value) : ResultVar → Sem Value
  | .tmp t => pure (tmps.getD t undef)
  | .cell a t => do loadVar t (← asAddr (tmps.getD a undef))

theorem results_eq (fn : Func) (tmps : Array Value) : results fn tmps = (fn.results.mapM (readRes tmps) >>= fun vs => pure (if h : vs.size = 1 then vs[0] else .tuple vs)) := by
  unfold results
  congr 1

theorem resK_ok (hT : TOk P T) (hH : HeapOk P A c d H n) {f : Nat → AV} {tmps : Array Value} (ht : ∀ t, RA c d (f t) (tmps.getD t undef)) : ∀ {l : List ResultVar} {K : List AV → Prop}, resK T f H l K →
    ∃ rs vs, K rs ∧ (l.mapM (readRes tmps)).run P c.w = .ok vs c.w ∧ All2 (RA c (d + 1)) rs vs
  | [], K, h => ⟨[], [], h, by simp, trivial⟩
  | .tmp t :: r, K, h => by
    obtain ⟨rs, vs, h1, h2, h3⟩ := resK_ok hT hH ht (l := r) (K := fun l => K (f t :: l)) h
    refine ⟨_, tmps.getD t undef :: vs, h1, ?_, RA.up _ _ _ (ht t), h3⟩
    simp only [List.mapM_cons, readRes, Sem.run_bind, Sem.run_pure, Result.andThen_ok, h2]
  | .cell a ty :: r, K, h => by
    simp only [resK] at h
    split at h
    · rename_i id off ha
      have hx := ht a
      rw [ha] at hx
      obtain ⟨v, u, h1, h2, h3⟩ := loadK_ok hT hH hx h
      obtain ⟨rs, vs, k1, k2, k3⟩ := resK_ok hT hH ht (l := r) (K := fun l => K (v :: l)) h1
      refine ⟨_, u :: vs, k1, ?_, h3, k3⟩
      obtain ⟨ro, _, _, hp⟩ := hx.op
      rw [hp] at h2
      have h2' : (loadVar ty ⟨ro.g, off, none⟩).run P c.w = .ok u c.w := by simpa [Instr.loadAt, Instr.sureAddr] using h2
      have hget : tmps.getD a undef = .pointer (some ⟨ro.g, off, none⟩) := hp
      simp only [List.mapM_cons, readRes, hget, asAddr, Sem.run_bind, Sem.run_pure, Result.andThen_ok, h2', k2]
    · exact h.elim
end

theorem start_ok {c : Ctx} {d N : Nat} {args : List AV} {vs : List Value} (hargs : All2 (RA c d) args vs) (t : Nat) : RA c d (startF args t) ((vs.toArray ++ Array.replicate (N - vs.toArray.size) undef).getD t undef) := by
  have hlen := All2.length _ _ hargs
  unfold startF
  rw [nth_eq]
  cases hx : args[t]? with
  | some x =>
    obtain ⟨v, hv, hr⟩ := All2.get _ _ _ _ hargs hx
    have hlt : t < vs.length := (List.getElem?_eq_some_iff.1 hv).1
    have e : (vs.toArray ++ Array.replicate (N - vs.toArray.size) undef).getD t undef = v := by
      simp [Array.getElem?_append_left, hlt]
      have := (List.getElem?_eq_some_iff.1 hv).2
      exact this
    rw [e]; exact hr
  | none =>
    have hge : vs.length ≤ t := by rw [hlen]; exact List.getElem?_eq_none_iff.1 hx
    have e : (vs.toArray ++ Array.replicate (N - vs.toArray.size) undef).getD t undef = undef := by
      rw [Array.getD_eq_getD_getElem?, Array.getElem?_append_right (by simpa using hge)]
      simp only [Array.getElem?_replicate]
      split <;> rfl
    rw [e]; cases d <;> rfl

/-- **A function keeps its contract.** -/
theorem AC_of_awp {E : Env} (hE : EnvOk E) (hm : E.P.follows .mixedOrders = true) {f : FuncId} {fn : Func} {code : Code} (hen : Enters E.P f) (hf : E.P.funcs[f]? = some fn) (hb : fn.body = some code) (hN : fn.ntmps = E.N) (hdr : drawsB code = true)
    {args : List AV} (hna : args.length ≤ E.N) {r : AV} (h : lensVs args → awp E code (finK E.T fn.results.toList r) ⟨startF args, fun _ => none, 0⟩) : AC E.P f args r := by
  refine ⟨hen, fun w S0 d vs hS0 hargs => ?_⟩
  have hlen := All2.length _ _ hargs
  refine calls_of_wp hf hb ?_
  have hL := h (All2.lens (fun x v => RA.lens d x v) hargs)
  let A : Nat → Prop := fun b => w.heap.size ≤ b
  refine awp_ok (A := A) (S0 := S0) (w0 := w) (ρ0 := fun _ => none) hE hm (fun b hb => hb) code _ _ ⟨startF args, fun _ => none, 0⟩ _ w hdr ?_ (fun e st a w' hq hg => ?_) hL
  · refine ⟨Keeps.refl _ _, ?_, rfl, d, fun _ => False, fun _ => none, ⟨fun b hb hA => ?_, fun b hb => hb.elim, fun _ _ => ⟨rfl, rfl⟩, fun id b hb => (by cases hb), fun i j bi bj ri rj _ hi => by cases hi⟩, fun t => ?_, fun id r _ h0 => by cases h0⟩
    · simp only [Array.size_append, List.size_toArray, Array.size_replicate, hN]; omega
    · have := hS0 b hb
      have hA' : w.heap.size ≤ b := hA
      omega
    · show RA _ d (startF args t) _
      unfold startF
      rw [nth_eq]
      cases hx : args[t]? with
      | some x =>
        obtain ⟨v, hv, hr⟩ := All2.get _ _ _ _ hargs hx
        have hlt : t < vs.length := (List.getElem?_eq_some_iff.1 hv).1
        have e : (vs.toArray ++ Array.replicate (fn.ntmps - vs.toArray.size) undef).getD t undef = v := by
          simp [Array.getElem?_append_left, hlt]
          have := (List.getElem?_eq_some_iff.1 hv).2
          exact this
        show RA _ d x ((vs.toArray ++ Array.replicate (fn.ntmps - vs.toArray.size) undef).getD t undef)
        rw [e]; exact hr
      | none =>
        have hge : vs.length ≤ t := by rw [hlen]; exact List.getElem?_eq_none_iff.1 hx
        have e : (vs.toArray ++ Array.replicate (fn.ntmps - vs.toArray.size) undef).getD t undef = undef := by
          rw [Array.getD_eq_getD_getElem?, Array.getElem?_append_right (by simpa using hge)]
          simp only [Array.getElem?_replicate]
          split <;> rfl
        show RA _ d .und ((vs.toArray ++ Array.replicate (fn.ntmps - vs.toArray.size) undef).getD t undef)
        rw [e]; cases d <;> rfl
  · obtain ⟨hk, hs, hd, d', S1, ρ, hok, ht, _⟩ := hg
    have fin : resK E.T st.tmps st.heap fn.results.toList (fun rs => match fz1L E.T st.heap rs with | some l => (noDup (ids1L rs) && disjB (o1L rs) (ids1L rs)) = true ∧ pack l = r | none => False) →
        ∃ v, (results fn a.tmps).run E.P w' = .ok v w' ∧ (∃ v', (Ending.returned v) = .returned v' ∧ Below w.heap.size w w' ∧ RES E.P w.heap.size S0 w' r v') := fun hr => by
      obtain ⟨rs, vs', hfz, hrun, hall⟩ := resK_ok hE.T hok ht hr
      split at hfz
      · rename_i l hl
        obtain ⟨hnd, hpack⟩ := hfz
        rw [Bool.and_eq_true] at hnd
        obtain ⟨hnd, hdj⟩ := hnd
        let G : Nat → Prop := fun g => ∃ id ∈ o1L rs, ∃ b r0, st.heap id = some b ∧ ρ id = some r0 ∧ r0.virt = false ∧ r0.g = g
        have hOG : OutIn ⟨w', S0, S1, ρ⟩ G (o1L rs) := fun id hid r0 hr0 hv => by
          have hex : ∃ b, st.heap id = some b := o1L_ok hl id hid
          obtain ⟨b, hb⟩ := hex
          exact ⟨id, hid, b, r0, hb, hr0, hv, rfl⟩
        obtain ⟨h1, h2, h3⟩ := fz1L_ok (G := G) (hok.le (Nat.le_succ d')) hall hl hOG
        have hsz : l.length = vs'.length := by
          have : ∀ (R : AV → Value → List Nat → Prop) (xs : List AV) (us : List Value) (gs : List Nat), RFl R xs us gs → xs.length = us.length := by
            intro R xs
            induction xs with
            | nil => intro us gs h; cases us with
              | nil => rfl
              | cons => exact h.elim
            | cons x xs ih => intro us gs h; cases us with
              | nil => exact h.elim
              | cons u us => obtain ⟨_, g2, _, _, hh⟩ := h; simp [ih us g2 hh]
          exact this _ _ _ _ h1
        have hB : Below w.heap.size w w' := ⟨hk.os, hk.tape, hk.output, hk.size, fun k hk' => hk.block k (fun hA => by have hA' : w.heap.size ≤ k := hA; omega)⟩
        refine ⟨if h : vs'.toArray.size = 1 then vs'.toArray[0] else .tuple vs'.toArray, ?_, _, rfl, hB, d' + 2, fun b => S1 b ∨ G b, gsOf ⟨w', S0, S1, ρ⟩ (ids1L rs), fun b hb => ?_, ?_, gsOf_nodup hok h2 hnd, fun g hg => ?_⟩
        · rw [results_eq]
          have e : fn.results.mapM (readRes a.tmps) = List.toArray <$> fn.results.toList.mapM (readRes a.tmps) := Array.mapM_eq_mapM_toList
          rw [e, map_eq_pure_bind]
          simp only [Sem.run_bind, hrun, Result.andThen_ok, Sem.run_pure]
        · rcases hb with hb | ⟨id, _, b0, r0, hb0, hr0, hv0, rfl⟩
          · obtain ⟨hA, hlt⟩ := hok.s1 b hb
            exact ⟨hA, hlt⟩
          · obtain ⟨r0', e, _, hg⟩ := hok.blk id b0 hb0
            have hr0' : ρ id = some r0' := e
            rw [hr0] at hr0'; cases hr0'
            exact ⟨(hg hv0).1, (hg hv0).2.1⟩
        · subst hpack
          match l, vs', hsz, h1, h3 with
          | [x], [u], _, h1, h3 =>
            obtain ⟨g1, g2, hg, hx, hg2⟩ := h1
            have hg2' : g2 = [] := hg2
            subst hg2'
            rw [List.append_nil] at hg
            have hne := h3 x (by simp)
            simp only [pack]
            rw [hg]
            have : RF E.P (Ctx.bare ⟨w', S0, S1, ρ⟩ G) (d' + 2) x u g1 := by
              cases x <;> first | exact hx | exact absurd rfl (hne _)
            exact this
          | [], [], _, h1, _ => exact ⟨[], rfl, h1⟩
          | x :: y :: l, u :: v :: us, _, h1, _ =>
            have : (⟨u :: v :: us⟩ : Array Value).size ≠ 1 := by simp
            simp only [pack]
            rw [dif_neg this]
            exact ⟨u :: v :: us, rfl, h1⟩
        · obtain ⟨id, hid, r0, hr0, hv0, hg0, hA, hlt, hns⟩ := gsOf_mem hok h2 hg
          refine ⟨hA, hlt, fun hs => ?_⟩
          rcases hs with hs | ⟨id', hid', b', r', hb', hr', hv', hg'⟩
          · exact hns hs
          · obtain ⟨b0, hb0⟩ := h2 id hid
            refine hok.inj id' id b' b0 r' r0 (fun e => ?_) hb' hb0 hr' hr0 hv' hv0 (hg'.trans hg0.symm)
            subst e
            exact disjB_spec hdj hid' hid
      · exact hfz.elim
    cases e with
    | exit i => exact hq.elim
    | normal =>
      obtain ⟨v, hv, hR⟩ := fin hq
      exact ⟨hd, v, hv, hR⟩
    | ret =>
      obtain ⟨v, hv, hR⟩ := fin hq
      exact ⟨hd, v, hv, hR⟩

/-- What a function that works on a row of its caller's ends with. -/
def finIO (T : TT) (res : List ResultVar) (e : TypeId) (r : AV) (m' : Bool) (cs' : List D) (en : Ex) (st : ASt) : Prop :=
  match en with
  | .exit _ => False
  | _ => resK T st.tmps st.heap res fun rs => pack rs = r ∧ idsLt 1 (pack rs) = true ∧ st.heap 0 = some (.row e m' cs')

def rowH (e : TypeId) (cs : List D) : Heap := fun i => match i with | 0 => some (.row e true cs) | _ => none

theorem pack_ok {c : Ctx} {d : Nat} : ∀ {rs : List AV} {vs : List Value}, All2 (RA c d) rs vs → RA c (d + 1) (pack rs) (if h : vs.toArray.size = 1 then vs.toArray[0] else .tuple vs.toArray)
  | [x], [u], ⟨h, _⟩ => by
    have : RA c (d + 1) x u := RA.up _ _ _ h
    simpa [pack] using this
  | [], [], _ => ⟨[], rfl, trivial⟩
  | x :: y :: l, u :: v :: us, h => by
    have : (⟨u :: v :: us⟩ : Array Value).size ≠ 1 := by simp
    simp only [pack]
    rw [dif_neg this]
    exact ⟨u :: v :: us, rfl, h⟩

theorem AIO_of_awp {E : Env} (hE : EnvOk E) (hm : E.P.follows .mixedOrders = true) {f : FuncId} {fn : Func} {code : Code} (hen : Enters E.P f) (hf : E.P.funcs[f]? = some fn) (hb : fn.body = some code) (hN : fn.ntmps = E.N) (hdr : drawsB code = true)
    {args : List AV} (hna : args.length ≤ E.N) {kept : Bool} (hfix : kept = true → E.fix = 1) {e : TypeId} {cs : List D} {r : AV} {m' : Bool} {cs' : List D}
    (h : lensVs args → lensDs cs → awp E code (finIO E.T fn.results.toList e r m' cs') ⟨startF args, rowH e cs, 1⟩) : AIO E.P f kept args e cs r m' cs' := by
  refine ⟨hen, fun w S0 d vs r0 hS0 hg0 hbr hargs => ?_⟩
  have hlen := All2.length _ _ hargs
  refine calls_of_wp hf hb ?_
  have hldc : lensDs cs := by
    obtain ⟨_, _, hb⟩ := hbr
    rcases hb with ⟨_, rfl⟩ | ⟨_, arr, _, _, _, hall⟩
    · simp [lensDs]
    · exact lensDs_all fun i x hx => by obtain ⟨u, _, hr⟩ := hall i x hx; exact RD.lens _ x u hr
  have hL := h (All2.lens (fun x v => RA.lens d x v) hargs) hldc
  let A : Nat → Prop := fun b => w.heap.size ≤ b ∨ (r0.virt = false ∧ b = r0.g)
  refine awp_ok (A := A) (S0 := S0) (w0 := w) (ρ0 := One r0) hE hm (fun b hb => .inl hb) code _ _ ⟨startF args, rowH e cs, 1⟩ _ w hdr ?_ (fun en st a w' hq hg => ?_) hL
  · refine ⟨Keeps.refl _ _, ?_, rfl, d, fun _ => False, One r0, ⟨fun b hb hA => ?_, fun b hb => hb.elim, fun id hid => ?_, fun id b hb => ?_, fun i j bi bj ri rj hij hi hj => ?_⟩, fun t => start_ok hargs t, fun id r _ h0 => h0⟩
    · simp only [Array.size_append, List.size_toArray, Array.size_replicate, hN]; omega
    · rcases hA with hA | ⟨hv, e⟩
      · have := (hS0 b hb).1; have hA' : w.heap.size ≤ b := hA; omega
      · exact (hS0 b hb).2 hv e
    · cases id with
      | zero => exact absurd hid (by show ¬ (1 ≤ 0); omega)
      | succ id => exact ⟨rfl, rfl⟩
    · cases id with
      | zero =>
        have hb' : some (Blk.row e true cs) = some b := hb
        cases hb'
        exact ⟨r0, rfl, hbr, fun hv => ⟨.inr ⟨hv, rfl⟩, hg0 hv, fun hs => hs⟩⟩
      | succ id => cases hb
    · cases i with
      | zero => cases j with
        | zero => exact absurd rfl hij
        | succ j => cases hj
      | succ i => cases hi
  · obtain ⟨hk, hs, hd, d', S1, ρ, hok, ht, hfx⟩ := hg
    have fin : resK E.T st.tmps st.heap fn.results.toList (fun rs => pack rs = r ∧ idsLt 1 (pack rs) = true ∧ st.heap 0 = some (.row e m' cs')) →
        ∃ v, (results fn a.tmps).run E.P w' = .ok v w' ∧ (∃ v', (Ending.returned v) = .returned v' ∧ Keeps A w w' ∧ ∃ d' S1 r1, (kept = true → r1 = r0) ∧ (r1.virt = false → (r0.virt = false ∧ r1.g = r0.g) ∨ (w.heap.size ≤ r1.g ∧ r1.g < w'.heap.size)) ∧
          (∀ b, S1 b → (w.heap.size ≤ b ∨ (r0.virt = false ∧ b = r0.g)) ∧ b < w'.heap.size ∧ (r1.virt = false → b ≠ r1.g)) ∧ BR E.P ⟨w', S0, S1, One r1⟩ d' r1 (.row e m' cs') ∧ RA ⟨w', S0, S1, One r1⟩ d' r v') := fun hr => by
      obtain ⟨rs, vs', ⟨hpack, hids, hrow⟩, hrun, hall⟩ := resK_ok hE.T hok ht hr
      obtain ⟨r1, hr1, hbr1, hgr⟩ := hok.blk 0 _ hrow
      refine ⟨if h : vs'.toArray.size = 1 then vs'.toArray[0] else .tuple vs'.toArray, ?_, _, rfl, hk, d' + 2, S1, r1, fun hkp => ?_, fun hv => ?_, fun b hb => ?_, ?_, ?_⟩
      · rw [results_eq]
        have e : fn.results.mapM (readRes a.tmps) = List.toArray <$> fn.results.toList.mapM (readRes a.tmps) := Array.mapM_eq_mapM_toList
        rw [e, map_eq_pure_bind]
        simp only [Sem.run_bind, hrun, Result.andThen_ok, Sem.run_pure]
      · have h1 := hfx 0 r0 (by rw [hfix hkp]; exact Nat.one_pos) rfl
        have h2 : ρ 0 = some r1 := hr1
        rw [h1] at h2; cases h2; rfl
      · rcases (hgr hv).1 with hA | ⟨hv0, e⟩
        · exact .inr ⟨hA, (hgr hv).2.1⟩
        · exact .inl ⟨hv0, e⟩
      · exact ⟨(hok.s1 b hb).1, (hok.s1 b hb).2, fun hv e => (hgr hv).2.2 (e ▸ hb)⟩
      · obtain ⟨b1, b2, b3⟩ := hbr1
        refine ⟨b1, b2, b3.imp (fun h => h) ?_⟩
        rintro ⟨a1, arr, a2, a3, a4, a5⟩
        exact ⟨a1, arr, a2, a3, a4, fun i x hx => let ⟨u, hu, hr⟩ := a5 i x hx; ⟨u, hu, RD.le (by omega) hr⟩⟩
      · rw [← hpack]
        refine RA.trim (c := ⟨w', S0, S1, ρ⟩) (c' := ⟨w', S0, S1, One r1⟩) (k := 1) rfl rfl rfl (fun id r hid h0 => ?_) (d' + 2) _ _ hids (pack_ok hall)
        have : id = 0 := by omega
        subst this
        have h2 : ρ 0 = some r1 := hr1
        have h3 : ρ 0 = some r := h0
        rw [h2] at h3; cases h3; rfl
    cases en with
    | exit i => exact hq.elim
    | normal =>
      obtain ⟨v, hv, hR⟩ := fin hq
      exact ⟨hd, v, hv, hR⟩
    | ret =>
      obtain ⟨v, hv, hR⟩ := fin hq
      exact ⟨hd, v, hv, hR⟩
end Go.Qv
