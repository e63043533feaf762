/- PROVED: for every input the law FnExactFiltrationLine returns true and each argument reads afterwards as it read before (the statement 'FnExactFiltrationLineCardSaid' of the given Rows).
Conditions: none beyond those which the given statement itself names. This text is one part of the proof. -/
import Derived.Test.YtfcgjmbkcpeafaaGreatDoorMPure

/- The abstract machine: the blocks of one's own, kept over the steps that change memory. -/
namespace Go.Qv
open Go Go.RowKit

theorem All2.append {α : Type} {R : α → Value → Prop} : ∀ {xs : List α} {vs : List Value} {ys : List α} {us : List Value}, All2 R xs vs → All2 R ys us → All2 R (xs ++ ys) (vs ++ us)
  | [], [], _, _, _, h => h
  | _ :: _, _ :: _, _, _, ⟨h1, h2⟩, h => ⟨h1, All2.append h2 h⟩

theorem BR.old {P : Program} {c c' : Ctx} {d d' : Nat} {r : Own} {b : Blk} {ks : List Nat} (h : BR P c d r b) (hle : c.Le c' ks) (hd : d ≤ d') (hb : r.virt = false → c'.w.heap[r.g]? = c.w.heap[r.g]?) : BR P c' d' r (killB ks b) := by
  cases b with
  | var t cs =>
    obtain ⟨hv, vs, h1, h2⟩ := h
    exact ⟨hv, vs, by rw [hb hv]; exact h1, All2.killL (fun x v hx => RA.le hd (RA.killed hle _ _ _ hx)) _ _ h2⟩
  | row e m cs =>
    obtain ⟨hs, hl, h⟩ := h
    refine ⟨hs, hl, h.imp id ?_⟩
    rintro ⟨hv, arr, h1, h2, h3, h4⟩
    refine ⟨hv, arr, by rw [hb hv]; exact h1, h2, h3, fun i x hx => ?_⟩
    obtain ⟨u, hu, hr⟩ := h4 i x hx
    exact ⟨u, hu, RD.le hd (RD.ctx hle hr)⟩

/-- The step from one heap to the next. -/
theorem HeapOk.step {P : Program} {A : Nat → Prop} {c c' : Ctx} {d d' : Nat} {H H' : Nat → Option Blk} {n n' : Nat} {ks : List Nat} (h : HeapOk P A c d H n) (hle : c.Le c' ks) (hS0 : c'.S0 = c.S0) (hd : d ≤ d')
    (hsz : c.w.heap.size ≤ c'.w.heap.size) (hs1 : ∀ b, c'.S1 b → A b ∧ b < c'.w.heap.size) (htop : ∀ id, n' ≤ id → c'.ρ id = none ∧ H' id = none)
    (hall : ∀ id b', H' id = some b' →
      (∃ b r, H id = some b ∧ b' = killB ks b ∧ c.ρ id = some r ∧ c'.ρ id = some r ∧ (r.virt = false → c'.w.heap[r.g]? = c.w.heap[r.g]? ∧ ¬ c'.S1 r.g)) ∨
      (∃ r, c'.ρ id = some r ∧ BR P c' d' r b' ∧ (r.virt = false → A r.g ∧ r.g < c'.w.heap.size ∧ ¬ c'.S1 r.g ∧ ∀ j bj rj, j ≠ id → H' j = some bj → c'.ρ j = some rj → rj.virt = false → rj.g ≠ r.g))) :
    HeapOk P A c' d' H' n' := by
  refine ⟨by rw [hS0]; exact h.s0, hs1, htop, fun id b' hb => ?_, fun i j bi bj ri rj hij hi hj hri hrj hvi hvj => ?_⟩
  · rcases hall id b' hb with ⟨b, r, h1, rfl, h2, h3, h4⟩ | ⟨r, h1, h2, h3⟩
    · obtain ⟨r', e, hbr, hg⟩ := h.blk id b h1
      rw [h2] at e; cases e
      exact ⟨r, h3, hbr.old hle hd (fun hv => (h4 hv).1), fun hv => ⟨(hg hv).1, Nat.lt_of_lt_of_le (hg hv).2.1 hsz, (h4 hv).2⟩⟩
    · exact ⟨r, h1, h2, fun hv => ⟨(h3 hv).1, (h3 hv).2.1, (h3 hv).2.2.1⟩⟩
  · rcases hall i bi hi with ⟨b, r, h1, _, h2, h3, _⟩ | ⟨r, h1, _, h3⟩
    · rw [h3] at hri; cases hri
      rcases hall j bj hj with ⟨b', r', h1', _, h2', h3', _⟩ | ⟨r', h1', _, h3'⟩
      · rw [h3'] at hrj; cases hrj
        exact h.inj i j b b' ri rj hij h1 h1' h2 h2' hvi hvj
      · rw [h1'] at hrj; cases hrj
        exact (h3' hvj).2.2.2 i bi ri hij hi h3 hvi
    · rw [h1] at hri; cases hri
      exact Ne.symm ((h3 hvi).2.2.2 j bj rj (Ne.symm hij) hj hrj hvj)

theorem Ctx.Le.refl (c : Ctx) : c.Le c [] := ⟨fun _ h => h, fun _ h => h, fun _ _ => rfl, fun _ _ h _ => h⟩

theorem HeapOk.le {P : Program} {A : Nat → Prop} {c : Ctx} {d d' : Nat} {H : Nat → Option Blk} {n : Nat} (h : HeapOk P A c d H n) (hd : d ≤ d') : HeapOk P A c d' H n := by
  refine h.step (Ctx.Le.refl c) rfl hd (Nat.le_refl _) h.s1 h.top fun id b hb => ?_
  obtain ⟨r, h1, _, h3⟩ := h.blk id b hb
  exact .inl ⟨b, r, hb, (killB_nil b).symm, h1, h1, fun hv => ⟨rfl, (h3 hv).2.2⟩⟩

/-- What an operation leaves. -/
structure Out (P : Program) (A : Nat → Prop) (c : Ctx) (d : Nat) (H' : Nat → Option Blk) (n' : Nat) (ks : List Nat) (r : AV) (u : Value) (w' : World) : Prop where
  keeps : Keeps A c.w w'
  ex : ∃ d' S1' ρ', c.Le ⟨w', c.S0, S1', ρ'⟩ ks ∧ d ≤ d' ∧ HeapOk P A ⟨w', c.S0, S1', ρ'⟩ d' (fun i => (H' i).map (killB ks)) n' ∧ RA ⟨w', c.S0, S1', ρ'⟩ d' r u

theorem map_killB_nil (H : Nat → Option Blk) : (fun i => (H i).map (killB [])) = H := by
  funext i
  cases H i <;> simp [killB_nil]

theorem Out.pure {P : Program} {A : Nat → Prop} {c : Ctx} {d d' : Nat} {H : Nat → Option Blk} {n : Nat} {r : AV} {u : Value} (h : HeapOk P A c d H n) (hd : d ≤ d') (hr : RA c d' r u) : Out P A c d H n [] r u c.w :=
  ⟨Keeps.refl _ _, d', c.S1, c.ρ, Ctx.Le.refl c, hd, by rw [map_killB_nil]; exact h.le hd, hr⟩

/-! ### New blocks -/

theorem heap_alloc_lt (w : World) (o : Obj) {k : Nat} (h : k < w.heap.size) : (w.alloc o).heap[k]? = w.heap[k]? := Below.heap_alloc w o k h

theorem Keeps.alloc {A : Nat → Prop} {w0 w : World} (h : Keeps A w0 w) (o : Obj) (hA : A w.heap.size) : Keeps A w0 (w.alloc o) := by
  refine h.trans ⟨rfl, rfl, rfl, by simp, fun k hk => ?_⟩
  rcases Nat.lt_or_ge k w.heap.size with hlt | hge
  · exact heap_alloc_lt w o hlt
  · have hne : k ≠ w.heap.size := fun e => hk (e ▸ hA)
    rw [Array.getElem?_eq_none (by simp; omega), Array.getElem?_eq_none (by omega)]

theorem Keeps.drew {A : Nat → Prop} {w0 w : World} (h : Keeps A w0 w) : Keeps A w0 w.drew := h.trans ⟨rfl, rfl, rfl, Nat.le_refl _, fun _ _ => rfl⟩

theorem Keeps.setRow {A : Nat → Prop} {w0 w : World} (h : Keeps A w0 w) {g : Nat} (cs : Array Value) (hA : A g) : Keeps A w0 (w.setRow g cs) :=
  h.trans ⟨rfl, rfl, rfl, by simp, fun k hk => setRow_other w g k cs (fun e => hk (e ▸ hA))⟩

section
variable {P : Program} {A : Nat → Prop} {c : Ctx} {d : Nat} {H : Nat → Option Blk} {n : Nat}

theorem HeapOk.S_lt (h : HeapOk P A c d H n) (hA : ∀ b, c.w.heap.size ≤ b → A b) {b : Nat} (hb : c.S0 b ∨ c.S1 b) : b < c.w.heap.size := by
  rcases hb with hb | hb
  · rcases Nat.lt_or_ge b c.w.heap.size with h' | h'
    · exact h'
    · exact absurd (hA b h') (h.s0 b hb)
  · exact (h.s1 b hb).2

/-- A new block of one's own, number n. -/
theorem Out.alloc (h : HeapOk P A c d H n) (hA : ∀ b, c.w.heap.size ≤ b → A b) (o : Obj) (r : Own) (b : Blk) (hg : r.g = c.w.heap.size)
    (hbr : BR P ⟨c.w.alloc o, c.S0, c.S1, fun i => if i = n then some r else c.ρ i⟩ d r b) (av : AV) (u : Value)
    (hr : RA ⟨c.w.alloc o, c.S0, c.S1, fun i => if i = n then some r else c.ρ i⟩ d av u) : Out P A c d (hup H n (some b)) (n + 1) [] av u (c.w.alloc o) := by
  have hle : c.Le ⟨c.w.alloc o, c.S0, c.S1, fun i => if i = n then some r else c.ρ i⟩ [] := by
    refine ⟨fun _ h => h, fun _ h => h, fun b hb => heap_alloc_lt _ _ (h.S_lt hA hb), fun id r' hr' _ => ?_⟩
    have : id ≠ n := fun e => by have := (h.top id (by omega)).1; rw [this] at hr'; cases hr'
    simp [this, hr']
  refine ⟨(Keeps.refl _ _).alloc _ (hA _ (Nat.le_refl _)), d, c.S1, _, hle, Nat.le_refl _, ?_, hr⟩
  rw [map_killB_nil]
  refine h.step hle rfl (Nat.le_refl _) (by simp) (fun b hb => ⟨(h.s1 b hb).1, by have := (h.s1 b hb).2; simp; omega⟩) (fun id hid => ?_) fun id b' hb' => ?_
  · have hne : id ≠ n := by omega
    have hbq : Nat.beq id n = false := by cases hq : Nat.beq id n; rfl; exact absurd (Nat.eq_of_beq_eq_true hq) hne
    exact ⟨by simp [hne, (h.top id (by omega)).1], by simp [hup, hbq, (h.top id (by omega)).2]⟩
  · by_cases hid : id = n
    · subst hid
      simp [hup] at hb'
      subst hb'
      refine .inr ⟨r, by simp, hbr, fun _ => ⟨hA _ (by rw [hg]; exact Nat.le_refl _), by rw [hg]; simp, fun hs => ?_, fun j bj rj hj hbj hrj hvj => ?_⟩⟩
      · have := (h.s1 _ hs).2; omega
      · have hbq : Nat.beq j id = false := by cases hq : Nat.beq j id; rfl; exact absurd (Nat.eq_of_beq_eq_true hq) hj
        simp [hup, hbq] at hbj
        simp [hj] at hrj
        obtain ⟨r', e, _, hg'⟩ := h.blk j bj hbj
        rw [hrj] at e; cases e
        have := (hg' hvj).2.1
        omega
    · have hbq : Nat.beq id n = false := by cases hq : Nat.beq id n; rfl; exact absurd (Nat.eq_of_beq_eq_true hq) hid
      simp [hup, hbq] at hb'
      obtain ⟨r', h1, _, h3⟩ := h.blk id b' hb'
      exact .inl ⟨b', r', hb', (killB_nil b').symm, h1, by simp [hid, h1], fun hv' => ⟨heap_alloc_lt _ _ (h3 hv').2.1, (h3 hv').2.2⟩⟩

/-- Memory of one's own that is only read from here on: the blocks from the old size on. -/
theorem Out.ro (h : HeapOk P A c d H n) (hA : ∀ b, c.w.heap.size ≤ b → A b) (w' : World) (hk : Keeps A c.w w') (hold : ∀ k, k < c.w.heap.size → w'.heap[k]? = c.w.heap[k]?) (T : Nat → Prop) (hT : ∀ b, T b → c.w.heap.size ≤ b ∧ b < w'.heap.size) (av : AV) (u : Value) (d' : Nat) (hd : d ≤ d')
    (hr : RA ⟨w', c.S0, fun b => c.S1 b ∨ T b, c.ρ⟩ d' av u) : Out P A c d H n [] av u w' := by
  have hle : c.Le ⟨w', c.S0, fun b => c.S1 b ∨ T b, c.ρ⟩ [] := ⟨fun _ h => h, fun _ h => .inl h, fun b hb => hold b (h.S_lt hA hb), fun _ _ h _ => h⟩
  refine ⟨hk, d', _, c.ρ, hle, hd, ?_, hr⟩
  rw [map_killB_nil]
  refine h.step hle rfl hd hk.size (fun b hb => ?_) h.top fun id b hb => ?_
  · rcases hb with hb | hb
    · exact ⟨(h.s1 b hb).1, Nat.lt_of_lt_of_le (h.s1 b hb).2 hk.size⟩
    · exact ⟨hA b (hT b hb).1, (hT b hb).2⟩
  · obtain ⟨r, h1, _, h3⟩ := h.blk id b hb
    refine .inl ⟨b, r, hb, (killB_nil b).symm, h1, h1, fun hv => ⟨hold _ (h3 hv).2.1, fun hs => ?_⟩⟩
    rcases hs with hs | hs
    · exact (h3 hv).2.2 hs
    · have := (hT _ hs).1; have := (h3 hv).2.1; omega

/-- A block of one's own is written: same size, same place. -/
theorem Out.write (h : HeapOk P A c d H n) {id : Nat} {b b' : Blk} {r : Own} (hb : H id = some b) (hr : c.ρ id = some r) (hv : r.virt = false) (arr : Array Value) (d' : Nat) (hd : d ≤ d')
    (hbr : BR P ⟨c.w.setRow r.g arr, c.S0, c.S1, c.ρ⟩ d' r b') (av : AV) (u : Value) (hav : RA ⟨c.w.setRow r.g arr, c.S0, c.S1, c.ρ⟩ d' av u) : Out P A c d (hup H id (some b')) n [] av u (c.w.setRow r.g arr) := by
  obtain ⟨r0, e0, _, hg⟩ := h.blk id b hb
  rw [hr] at e0; cases e0
  obtain ⟨hAg, hlt, hns⟩ := hg hv
  have hle : c.Le ⟨c.w.setRow r.g arr, c.S0, c.S1, c.ρ⟩ [] := by
    refine ⟨fun _ h => h, fun _ h => h, fun k hk => setRow_other _ _ _ _ fun e => ?_, fun _ _ h _ => h⟩
    subst e
    rcases hk with hk | hk
    · exact h.s0 _ hk hAg
    · exact hns hk
  refine ⟨(Keeps.refl _ _).setRow _ hAg, d', c.S1, c.ρ, hle, hd, ?_, hav⟩
  rw [map_killB_nil]
  refine h.step hle rfl hd (by simp) (fun k hk => ⟨(h.s1 k hk).1, by simpa using (h.s1 k hk).2⟩) (fun i hi => ⟨(h.top i hi).1, ?_⟩) fun i bi hi => ?_
  · have hne : i ≠ id := fun e => by have := (h.top i hi).2; rw [e, hb] at this; cases this
    have hbq : Nat.beq i id = false := by cases hq : Nat.beq i id; rfl; exact absurd (Nat.eq_of_beq_eq_true hq) hne
    simp [hup, hbq, (h.top i hi).2]
  · by_cases hid : i = id
    · subst hid
      simp [hup] at hi
      subst hi
      refine .inr ⟨r, hr, hbr, fun _ => ⟨hAg, by simpa using hlt, hns, fun j bj rj hj hbj hrj hvj => ?_⟩⟩
      have hbq : Nat.beq j i = false := by cases hq : Nat.beq j i; rfl; exact absurd (Nat.eq_of_beq_eq_true hq) hj
      simp [hup, hbq] at hbj
      exact h.inj j i bj b rj r hj hbj hb hrj hr hvj hv
    · have hbq : Nat.beq i id = false := by cases hq : Nat.beq i id; rfl; exact absurd (Nat.eq_of_beq_eq_true hq) hid
      simp [hup, hbq] at hi
      obtain ⟨r', h1, _, h3⟩ := h.blk i bi hi
      refine .inl ⟨bi, r', hi, (killB_nil bi).symm, h1, h1, fun hv' => ⟨setRow_other _ _ _ _ ?_, (h3 hv').2.2⟩⟩
      exact h.inj i id bi b r' r hid hi hb h1 hr hv' hv
end

end Go.Qv
