/- PROVED: for every input the law FnExactFiltrationLine returns true and each argument reads afterwards as it read before (the statement 'FnExactFiltrationLineCardSaid' of the given Rows).
Conditions: none beyond those which the given statement itself names. This text is one part of the proof. -/
import Derived.Test.YtfcgjmbkcpeafaaGreatDoorFxPlain

namespace Go.Qt
open Go Go.Qv Go.Proofs

set_option maxRecDepth 100000
/-! ### The stable sort, by stages -/
def atS (l : List (List Int)) (t : Nat) : List (List Int) := l.filter fun e => stg e == (t : Int)
theorem flatMap_same {α β : Type} {f g : α → List β} : ∀ {l : List α}, (∀ t ∈ l, f t = g t) → l.flatMap f = l.flatMap g
  | [], _ => rfl
  | x :: r, h => by rw [List.flatMap_cons, List.flatMap_cons, h x (by simp), flatMap_same fun t ht => h t (by simp [ht])]
def byStage (S : Nat) (l : List (List Int)) : List (List Int) := (List.range S).flatMap (atS l)
theorem getD_mid {α : Type} (A R : List α) (x d : α) : (A ++ x :: R).getD A.length d = x := by simp
theorem getD_mid2 {α : Type} (A R : List α) (x y d : α) : (A ++ y :: x :: R).getD (A.length + 1) d = x := by
  have : A ++ y :: x :: R = (A ++ [y]) ++ x :: R := by simp
  rw [this]
  have e : A.length + 1 = (A ++ [y]).length := by simp
  rw [e]; exact getD_mid _ _ _ _
theorem swapAt_mid {α : Type} (A R : List α) (x y d : α) : swapAt d (A ++ y :: x :: R) A.length = A ++ x :: y :: R := by
  rw [swapAt, getD_mid, getD_mid2, List.set_append_right _ _ (by omega), List.set_append_right _ _ (by omega)]
  simp
/-- An element put in from behind. -/
theorem sink_split {lo : List (List Int)} {x : List Int} (h2 : ∀ y ∈ lo, ltE x y = false) : ∀ (h : List (List Int)), (∀ y ∈ h, ltE x y = true) →
    ∀ R, sink ltE [] (lo ++ h.reverse ++ x :: R) (lo ++ h.reverse).length = lo ++ x :: h.reverse ++ R
  | [], _, R => by
    simp only [List.reverse_nil, List.append_nil]
    cases hl : lo.length with
    | zero =>
      have : lo = [] := List.eq_nil_of_length_eq_zero hl
      subst this; simp [sink]
    | succ k =>
      have e1 : (lo ++ x :: R).getD (k + 1) [] = x := by rw [← hl]; exact getD_mid _ _ _ _
      have e2 : (lo ++ x :: R).getD k [] ∈ lo := by
        rw [List.getD_eq_getElem?_getD, List.getElem?_append_left (by omega), List.getElem?_eq_getElem (by omega)]
        exact List.getElem_mem _
      rw [sink, e1, h2 _ e2]; simp
  | y :: r, h1, R => by
    have hy := h1 y (by simp)
    have e0 : lo ++ (y :: r).reverse ++ x :: R = (lo ++ r.reverse) ++ y :: x :: R := by simp
    have e1 : (lo ++ (y :: r).reverse).length = (lo ++ r.reverse).length + 1 := by simp; omega
    rw [e0, e1, sink, getD_mid, getD_mid2, hy, if_pos rfl, swapAt_mid, sink_split h2 r (fun z hz => h1 z (by simp [hz])) (y :: R)]
    simp
theorem sink_in {lo hi : List (List Int)} {x : List Int} (h2 : ∀ y ∈ lo, ltE x y = false) (h1 : ∀ y ∈ hi, ltE x y = true) (R : List (List Int)) :
    sink ltE [] (lo ++ hi ++ x :: R) (lo ++ hi).length = lo ++ x :: hi ++ R := by
  have := sink_split h2 hi.reverse (fun y hy => h1 y (by simpa using hy)) R
  rwa [List.reverse_reverse] at this
theorem byStage_len (S : Nat) (l : List (List Int)) (h : ∀ e ∈ l, 0 ≤ stg e ∧ stg e < S) : (byStage S l).length = l.length := by
  induction l with
  | nil =>
    have e : ∀ m : Nat, ((List.range m).flatMap (atS [])) = [] := fun m => by
      rw [List.flatMap_eq_nil_iff]; intro t _; rfl
    rw [byStage, e]
  | cons x r ih =>
    have ihr := ih fun e he => h e (by simp [he])
    obtain ⟨h0, h1⟩ := h x (by simp)
    obtain ⟨z, hz⟩ : ∃ z : Nat, stg x = (z : Int) := ⟨(stg x).toNat, by omega⟩
    have hzS : z < S := by omega
    have e1 : ∀ m : Nat, ((List.range m).flatMap (atS (x :: r))).length = ((List.range m).flatMap (atS r)).length + if z < m then 1 else 0 := fun m => by
      induction m with
      | zero => simp
      | succ m ihm =>
        simp only [List.range_succ, List.flatMap_append, List.flatMap_cons, List.flatMap_nil, List.append_nil, List.length_append, ihm, atS, List.filter_cons, hz]
        by_cases hm : z = m
        · subst hm; simp; omega
        · have : ((z : Int) == (m : Int)) = false := by rw [beq_eq_false_iff_ne]; omega
          rw [this]
          simp only [Bool.false_eq_true, if_false]
          by_cases h3 : z < m
          · rw [if_pos h3, if_pos (by omega)]; omega
          · rw [if_neg h3, if_neg (by omega)]; omega
    have := e1 S
    rw [if_pos hzS] at this
    simp only [byStage] at ihr ⊢
    rw [this, ihr]; simp
theorem range_split {z S : Nat} (h : z < S) : List.range S = List.range z ++ z :: (List.range (S - (z + 1))).map fun i => z + 1 + i := by
  have e : S = (z + 1) + (S - (z + 1)) := by omega
  conv => lhs; rw [e, List.range_add]
  rw [List.range_succ]
  simp
theorem byStage_snoc (S : Nat) (l : List (List Int)) (x : List Int) (hx : 0 ≤ stg x ∧ stg x < S) : ∃ lo hi, byStage S l = lo ++ hi ∧ (∀ y ∈ lo, ltE x y = false) ∧ (∀ y ∈ hi, ltE x y = true) ∧ byStage S (l ++ [x]) = lo ++ x :: hi := by
  obtain ⟨z, hz⟩ : ∃ z : Nat, stg x = (z : Int) := ⟨(stg x).toNat, by omega⟩
  have hzS : z < S := by omega
  have hr := range_split hzS
  refine ⟨((List.range z).flatMap (atS l)) ++ atS l z, ((List.range (S - (z + 1))).map fun i => z + 1 + i).flatMap (atS l), ?_, ?_, ?_, ?_⟩
  · rw [byStage, hr, List.flatMap_append, List.flatMap_cons, List.append_assoc]
  · intro y hy
    rcases List.mem_append.1 hy with h | h
    · obtain ⟨t, ht, hy⟩ := List.mem_flatMap.1 h
      have hy := (List.mem_filter.1 hy).2
      simp only [beq_iff_eq] at hy
      simp only [List.mem_range] at ht
      unfold ltE
      rw [hz, hy]
      exact decide_eq_false (by omega)
    · have hy := (List.mem_filter.1 h).2
      simp only [beq_iff_eq] at hy
      unfold ltE
      rw [hz, hy]
      exact decide_eq_false (by omega)
  · intro y hy
    obtain ⟨t, ht, hy⟩ := List.mem_flatMap.1 hy
    have hy := (List.mem_filter.1 hy).2
    simp only [beq_iff_eq] at hy
    obtain ⟨i, _, rfl⟩ := List.mem_map.1 ht
    unfold ltE
    rw [hz, hy]
    exact decide_eq_true (by omega)
  · have f1 : ∀ t : Nat, t ≠ z → atS (l ++ [x]) t = atS l t := fun t ht => by
      rw [atS, List.filter_append]
      have : (stg x == (t : Int)) = false := by rw [hz, beq_eq_false_iff_ne]; omega
      simp [atS, this]
    have f2 : atS (l ++ [x]) z = atS l z ++ [x] := by
      rw [atS, List.filter_append]
      have : (stg x == (z : Int)) = true := by rw [hz]; simp
      simp [atS, this]
    have f3 : ((List.range z).flatMap (atS (l ++ [x]))) = (List.range z).flatMap (atS l) := by
      apply flatMap_same
      intro t ht
      exact f1 t (by simp only [List.mem_range] at ht; omega)
    have f4 : (((List.range (S - (z + 1))).map fun i => z + 1 + i).flatMap (atS (l ++ [x]))) = ((List.range (S - (z + 1))).map fun i => z + 1 + i).flatMap (atS l) := by
      apply flatMap_same
      intro t ht
      obtain ⟨i, _, rfl⟩ := List.mem_map.1 ht
      exact f1 _ (by omega)
    rw [byStage, hr, List.flatMap_append, List.flatMap_cons, f3, f2, f4]
    simp
theorem sinks_by (S : Nat) (l : List (List Int)) (h : ∀ e ∈ l, 0 ≤ stg e ∧ stg e < S) : ∀ k, k < l.length → sinks ltE [] l k = byStage S (l.take (k + 1)) ++ l.drop (k + 1)
  | 0, hk => by
    match l, hk, h with
    | x :: r, _, h =>
      obtain ⟨lo, hi, e1, _, _, e2⟩ := byStage_snoc S [] x (h x (by simp))
      have e3 : byStage S [] = [] := by simp [byStage, atS]
      rw [e3] at e1
      have e4 := List.append_eq_nil_iff.1 e1.symm
      rw [e4.1, e4.2] at e2
      have e5 : byStage S [x] = [x] := e2
      show x :: r = byStage S ((x :: r).take 1) ++ (x :: r).drop 1
      rw [List.take_succ_cons, List.take_zero, e5]; rfl
  | k + 1, hk => by
    have ih := sinks_by S l h k (by omega)
    have hx : l.drop (k + 1) = l[k + 1] :: l.drop (k + 2) := List.drop_eq_getElem_cons hk
    have ht : l.take (k + 2) = l.take (k + 1) ++ [l[k + 1]] := by rw [List.take_add_one]; simp [hk]
    obtain ⟨lo, hi, e1, h1, h2, e2⟩ := byStage_snoc S (l.take (k + 1)) l[k + 1] (h _ (List.getElem_mem hk))
    have hlen : (lo ++ hi).length = k + 1 := by
      rw [← e1, byStage_len S _ fun e he => h e (List.mem_of_mem_take he)]; simp; omega
    have hs := sink_in h1 h2 (l.drop (k + 2))
    rw [hlen] at hs
    rw [sinks, ih, hx, e1, hs, ht, e2]
theorem esort_by (S : Nat) (l : List (List Int)) (h : ∀ e ∈ l, 0 ≤ stg e ∧ stg e < S) : esort l = byStage S l := by
  cases hl : l.length with
  | zero =>
    have : l = [] := List.eq_nil_of_length_eq_zero hl
    subst this; simp [esort, sinks, byStage, atS]
  | succ k =>
    rw [esort, hl, Nat.add_sub_cancel, sinks_by S l h k (by omega), ← hl, List.take_length, List.drop_length, List.append_nil]
end Go.Qt

namespace Go.Qt
open Go Go.Qv Go.Proofs
set_option maxRecDepth 100000

/-! ### Bars: two ways of counting -/
def keyB (v w : Nat) (x : Bar) : Bool := x.1 == v && x.2.1 == w
def cntK (l : List Bar) (v w : Nat) : Nat := l.countP (keyB v w)
def deadP (b : List Int) (h : List Nat) (last : List Int) (v w i : Nat) : Bool := decide (h.getD i 0 ≠ i) && (b.getD i 0 == (v : Int)) && (last.getD i 0 == (w : Int)) && decide (b.getD i 0 ≤ last.getD i 0)
structure Rel (s : Int) (b : List Int) (h : List Nat) (last : List Int) (out : List Bar) : Prop where
  hl : h.length = b.length
  ll : last.length = b.length
  lt : ∀ i, i < b.length → h.getD i 0 < b.length
  head : ∀ i, i < b.length → h.getD (h.getD i 0) 0 = h.getD i 0
  alive : ∀ i, i < b.length → h.getD i 0 = i → last.getD i 0 = s - 1
  le : ∀ i, i < b.length → last.getD i 0 ≤ s - 1
  cnt : ∀ v w, cntK out v w = (List.range b.length).countP (deadP b h last v w)

theorem countP_update (p p' : Nat → Bool) (n c : Nat) (hc : c < n) (h0 : p c = false) (h : ∀ i, i < n → i ≠ c → p' i = p i) : (List.range n).countP p' = (List.range n).countP p + if p' c then 1 else 0 := by
  induction n with
  | zero => omega
  | succ n ih =>
    rw [List.range_succ, List.countP_append, List.countP_append, List.countP_singleton, List.countP_singleton]
    by_cases hcn : c = n
    · subst hcn
      have e : (List.range c).countP p' = (List.range c).countP p := by
        apply List.countP_congr
        intro i hi
        rw [h i (by simp at hi; omega) (by simp at hi; omega)]
      rw [e, h0]; simp
    · rw [ih (by omega) fun i hi hne => h i (by omega) hne, h n (by omega) (by omega)]
      omega
theorem ren_get {a c : Nat} {h : List Nat} {i : Nat} (hi : i < h.length) : (ren a c h).getD i 0 = if h.getD i 0 = c then a else h.getD i 0 := by
  simp [ren, hi]
theorem kill {s : Int} {b : List Int} {h : List Nat} {last : List Int} {out : List Bar} (hb : ∀ k, k < b.length → 0 ≤ b.getD k 0 ∧ b.getD k 0 ≤ s - 1) (R : Rel s b h last out) {a c : Nat} (ha : a < b.length) (hc : c < b.length) (haa : h.getD a 0 = a) (hcc : h.getD c 0 = c) (hne : a ≠ c) {z : Int} (hz : z ≤ s - 1) :
    Rel s b (ren a c h) (last.set c (z - 1)) (die b z c out) := by
  have hg : ∀ i, i < b.length → (ren a c h).getD i 0 = if h.getD i 0 = c then a else h.getD i 0 := fun i hi => ren_get (by rw [R.hl]; exact hi)
  have hset : ∀ i, i ≠ c → (last.set c (z - 1)).getD i 0 = last.getD i 0 := fun i hi => getD_set_ne (Ne.symm hi)
  have hsetc : (last.set c (z - 1)).getD c 0 = z - 1 := getD_set_self (by rw [R.ll]; exact hc)
  have hself : ∀ i, i < b.length → i ≠ c → ((ren a c h).getD i 0 = i ↔ h.getD i 0 = i) := fun i hi hic => by
    rw [hg i hi]
    by_cases h1 : h.getD i 0 = c
    · rw [if_pos h1]
      constructor
      · intro e; subst e; rw [haa] at h1; exact absurd h1 hne
      · intro e; rw [e] at h1; exact absurd h1 hic
    · rw [if_neg h1]
  refine ⟨by rw [ren_len, R.hl], by simp [R.ll], fun i hi => ?_, fun i hi => ?_, fun i hi hh => ?_, fun i hi => ?_, fun v w => ?_⟩
  · rw [hg i hi]; split
    · exact ha
    · exact R.lt i hi
  · rw [hg i hi]
    by_cases h1 : h.getD i 0 = c
    · rw [if_pos h1, hg a ha, haa, if_neg hne]
    · rw [if_neg h1, hg _ (R.lt i hi), R.head i hi, if_neg h1]
  · by_cases hic : i = c
    · subst hic
      rw [hg i hi, if_pos hcc] at hh
      exact absurd hh hne
    · rw [hset i hic]
      exact R.alive i hi ((hself i hi hic).1 hh)
  · by_cases hic : i = c
    · subst hic; rw [hsetc]; omega
    · rw [hset i hic]; exact R.le i hi
  · have hup := countP_update (deadP b h last v w) (deadP b (ren a c h) (last.set c (z - 1)) v w) b.length c hc (by simp only [deadP, hcc, ne_eq, not_true_eq_false, decide_false, Bool.false_and]) (fun i hi hic => by
      simp only [deadP, hset i hic]
      congr 3
      have := hself i hi hic
      by_cases h1 : h.getD i 0 = i
      · simp only [h1, this.2 h1, ne_eq, not_true_eq_false]
      · have h2 : ¬ (ren a c h).getD i 0 = i := fun e => h1 (this.1 e)
        simp only [h1, h2, ne_eq, not_false_eq_true])
    rw [hup, ← R.cnt v w]
    have hbc := hb c hc
    have hdc : deadP b (ren a c h) (last.set c (z - 1)) v w c = (decide (b.getD c 0 ≤ z - 1) && keyB v w ((b.getD c 0).toNat, (z - 1).toNat, 0)) := by
      have e1 : (ren a c h).getD c 0 = a := by rw [hg c hc, if_pos hcc]
      simp only [deadP, e1, hsetc, keyB]
      have e2 : decide (a ≠ c) = true := decide_eq_true hne
      rw [e2, Bool.true_and]
      by_cases hd : b.getD c 0 ≤ z - 1
      · have e3 : (b.getD c 0 == (v : Int)) = ((b.getD c 0).toNat == v) := by rw [Bool.eq_iff_iff, beq_iff_eq, beq_iff_eq]; omega
        have e4 : (z - 1 == (w : Int)) = ((z - 1).toNat == w) := by rw [Bool.eq_iff_iff, beq_iff_eq, beq_iff_eq]; omega
        rw [e3, e4, decide_eq_true hd, Bool.and_true, Bool.true_and]
      · rw [decide_eq_false hd, Bool.and_false, Bool.false_and]
    rw [hdc]
    unfold die
    by_cases hd : b.getD c 0 ≤ z - 1
    · rw [if_pos hd, decide_eq_true hd, Bool.true_and, cntK, List.countP_append, List.countP_singleton]; rfl
    · rw [if_neg hd, decide_eq_false hd, Bool.false_and]; rfl
/-- One edge, both ways. -/
theorem step_rel {s : Int} {b : List Int} {h : List Nat} {last : List Int} {out : List Bar} (hb : ∀ k, k < b.length → 0 ≤ b.getD k 0 ∧ b.getD k 0 ≤ s - 1) (R : Rel s b h last out) {e : List Int} (he : EdgF b s e) {t : Int} (ht : stg e = t) :
    ∃ h' last' out', unite b t (h, last) e = (h', last') ∧ istep b (h, out) e = (h', out') ∧ Rel s b h' last' out' := by
  obtain ⟨x, y, z, rfl, hx, hy, _, _, _, hz⟩ := he
  have ht : z = t := ht
  subst ht
  simp only [unite, istep, Int.toNat_natCast, ne_eq, not_true_eq_false, if_false]
  by_cases hac : h.getD x 0 = h.getD y 0
  · rw [if_pos hac, if_pos hac]; exact ⟨_, _, _, rfl, rfl, R⟩
  · rw [if_neg hac, if_neg hac]
    have ha := R.lt x hx
    have hc := R.lt y hy
    have haa := R.head x hx
    have hcc := R.head y hy
    by_cases hs : swapB b (h.getD x 0) (h.getD y 0) = true
    · rw [if_pos hs, if_pos hs]
      exact ⟨_, _, _, rfl, rfl, kill hb R hc ha hcc haa (Ne.symm hac) hz⟩
    · rw [if_neg hs, if_neg hs]
      exact ⟨_, _, _, rfl, rfl, kill hb R ha hc haa hcc hac hz⟩
theorem unite_other {b : List Int} {t : Int} {st : List Nat × List Int} {e : List Int} (h : (stg e == t) = false) : unite b t st e = st := by
  unfold unite
  split
  · rename_i x y z
    have : z ≠ t := by
      have h : (z == t) = false := h
      simpa using h
    rw [if_pos this]
  · rfl
theorem fold_filter {b : List Int} {t : Nat} : ∀ {es : List (List Int)} {st : List Nat × List Int}, es.foldl (unite b (t : Int)) st = (atS es t).foldl (unite b (t : Int)) st
  | [], _ => rfl
  | e :: r, st => by
    simp only [List.foldl_cons, atS, List.filter_cons]
    cases h : stg e == (t : Int) with
    | true => rw [if_pos rfl, List.foldl_cons]; exact fold_filter (es := r)
    | false => rw [unite_other h]; exact fold_filter (es := r)
theorem block_rel {s : Int} {b : List Int} (hb : ∀ k, k < b.length → 0 ≤ b.getD k 0 ∧ b.getD k 0 ≤ s - 1) {t : Int} : ∀ {L : List (List Int)}, (∀ e ∈ L, EdgF b s e ∧ stg e = t) → ∀ {h : List Nat} {last : List Int} {out : List Bar}, Rel s b h last out →
    ∃ h' last' out', L.foldl (unite b t) (h, last) = (h', last') ∧ L.foldl (istep b) (h, out) = (h', out') ∧ Rel s b h' last' out'
  | [], _, h, last, out, R => ⟨h, last, out, rfl, rfl, R⟩
  | e :: r, hL, h, last, out, R => by
    obtain ⟨h1, l1, o1, e1, e2, R1⟩ := step_rel hb R (hL e (by simp)).1 (hL e (by simp)).2
    obtain ⟨h2, l2, o2, e3, e4, R2⟩ := block_rel hb (L := r) (fun e' h => hL e' (by simp [h])) R1
    exact ⟨h2, l2, o2, by rw [List.foldl_cons, e1, e3], by rw [List.foldl_cons, e2, e4], R2⟩
theorem init_rel (s : Int) (b : List Int) : Rel s b (List.range b.length) (List.replicate b.length (s - 1)) [] := by
  have h1 : ∀ i, i < b.length → (List.range b.length).getD i 0 = i := fun i hi => by simp [hi]
  have h2 : ∀ i, i < b.length → (List.replicate b.length (s - 1)).getD i 0 = s - 1 := fun i hi => by simp [hi]
  refine ⟨by simp, by simp, fun i hi => by rw [h1 i hi]; exact hi, fun i hi => by rw [h1 i hi, h1 i hi], fun i hi _ => h2 i hi, fun i hi => by rw [h2 i hi]; omega, fun v w => ?_⟩
  rw [show cntK [] v w = 0 from rfl, eq_comm, List.countP_eq_zero]
  intro i hi
  simp only [List.mem_range] at hi
  simp [deadP, hi]
theorem stages_rel {s : Int} {b : List Int} {es : List (List Int)} (hb : ∀ k, k < b.length → 0 ≤ b.getD k 0 ∧ b.getD k 0 ≤ s - 1) (hE : ∀ e ∈ es, EdgF b s e) : ∀ k : Nat,
    ∃ h last out, stages s b es k = (h, last) ∧ (byStage k es).foldl (istep b) (List.range b.length, []) = (h, out) ∧ Rel s b h last out
  | 0 => ⟨_, _, _, rfl, rfl, init_rel s b⟩
  | k + 1 => by
    obtain ⟨h, last, out, e1, e2, R⟩ := stages_rel hb hE k
    obtain ⟨h', l', o', e3, e4, R'⟩ := block_rel hb (t := (k : Int)) (L := atS es k) (fun e he => by
      have := List.mem_filter.1 he
      exact ⟨hE e this.1, by simpa using this.2⟩) R
    refine ⟨h', l', o', ?_, ?_, R'⟩
    · rw [stages_succ, e1, fold_filter, e3]
    · have : byStage (k + 1) es = byStage k es ++ atS es k := by simp [byStage, List.range_succ]
      rw [this, List.foldl_append, e2, e4]
end Go.Qt

namespace Go.Qt
open Go Go.Qv Go.Proofs
set_option maxRecDepth 100000

/-! ### Rows of bars that are in order are told by their members -/
theorem sorted_ext : ∀ {l1 l2 : List Bar}, SortedB l1 → SortedB l2 → (∀ x, x ∈ l1 ↔ x ∈ l2) → l1 = l2
  | [], [], _, _, _ => rfl
  | [], y :: r, _, _, h => by have := (h y).2 (by simp); cases this
  | x :: r, [], _, _, h => by have := (h x).1 (by simp); cases this
  | x :: r, y :: q, h1, h2, h => by
    have s1 := h1
    have s2 := h2
    rw [SortedB, List.pairwise_cons] at h1 h2
    have hxy : x = y := by
      rcases List.mem_cons.1 ((h x).1 (by simp)) with e | hx
      · exact e
      · rcases List.mem_cons.1 ((h y).2 (by simp)) with e | hy
        · exact e.symm
        · have k1 := h2.1 x hx
          have k2 := h1.1 y hy
          rw [cmpB_lt] at k1 k2
          omega
    subst hxy
    have : r = q := sorted_ext h1.2 h2.2 fun z => by
      have hz := h z
      constructor
      · intro hr
        rcases List.mem_cons.1 (hz.1 (by simp [hr])) with e | hq
        · subst e
          have := h1.1 z hr
          rw [cmpB_lt] at this; omega
        · exact hq
      · intro hq
        rcases List.mem_cons.1 (hz.2 (by simp [hq])) with e | hr
        · subst e
          have := h2.1 z hq
          rw [cmpB_lt] at this; omega
        · exact hr
    rw [this]
def sumK : List Bar → Nat → Nat → Nat
  | [], _, _ => 0
  | x :: r, v, w => (if keyB v w x then x.2.2 else 0) + sumK r v w
theorem keyB_iff {v w : Nat} {x : Bar} : keyB v w x = true ↔ x.1 = v ∧ x.2.1 = w := by simp [keyB]
theorem cstep_sum (b : Bar) (v w : Nat) : ∀ out : List Bar, sumK (cstep out b) v w = sumK out v w + if keyB v w b then 1 else 0
  | [] => by simp only [cstep, sumK, Nat.zero_add, Nat.add_zero]; rfl
  | x :: r => by
    unfold cstep
    split
    · simp only [sumK, cstep_sum b v w r]; omega
    · split
      · rename_i h0
        rw [cmpB_eq] at h0
        have e : keyB v w (incB x) = keyB v w x := rfl
        have e2 : keyB v w b = keyB v w x := by simp only [keyB, h0.1, h0.2]
        simp only [sumK, e, e2]
        split
        · show x.2.2 + 1 + _ = _; omega
        · omega
      · simp only [sumK]
        have e : keyB v w (b.1, b.2.1, 1) = keyB v w b := rfl
        rw [e]; omega
theorem cstep_pos (b : Bar) : ∀ {out : List Bar}, (∀ x ∈ out, 0 < x.2.2) → ∀ x ∈ cstep out b, 0 < x.2.2
  | [], _, x, hx => by
    simp only [cstep, List.mem_singleton] at hx
    subst hx; exact Nat.one_pos
  | y :: r, h, x, hx => by
    unfold cstep at hx
    split at hx
    · rcases List.mem_cons.1 hx with rfl | hx
      · exact h _ (by simp)
      · exact cstep_pos b (fun z hz => h z (by simp [hz])) x hx
    · split at hx
      · rcases List.mem_cons.1 hx with rfl | hx
        · exact Nat.succ_pos _
        · exact h x (by simp [hx])
      · rcases List.mem_cons.1 hx with rfl | hx
        · exact Nat.one_pos
        · exact h x hx
theorem fold_count (v w : Nat) : ∀ (l out : List Bar), SortedB out → (∀ x ∈ out, 0 < x.2.2) → SortedB (l.foldl cstep out) ∧ (∀ x ∈ l.foldl cstep out, 0 < x.2.2) ∧ sumK (l.foldl cstep out) v w = sumK out v w + cntK l v w
  | [], out, h1, h2 => ⟨h1, h2, by simp [cntK]⟩
  | b :: r, out, h1, h2 => by
    obtain ⟨k1, k2, k3⟩ := fold_count v w r (cstep out b) (cstep_sorted b h1) (cstep_pos b h2)
    refine ⟨k1, k2, ?_⟩
    rw [List.foldl_cons, k3, cstep_sum, cntK, cntK, List.countP_cons]
    omega
theorem sumK_zero {v w : Nat} : ∀ {l : List Bar}, (∀ x ∈ l, keyB v w x = false) → sumK l v w = 0
  | [], _ => rfl
  | x :: r, h => by rw [sumK, h x (by simp), sumK_zero fun z hz => h z (by simp [hz])]; rfl
theorem sumK_mem : ∀ {l : List Bar}, SortedB l → ∀ x ∈ l, sumK l x.1 x.2.1 = x.2.2
  | y :: r, h, x, hx => by
    rw [SortedB, List.pairwise_cons] at h
    rcases List.mem_cons.1 hx with rfl | hx
    · have : sumK r x.1 x.2.1 = 0 := sumK_zero fun z hz => by
        have := h.1 z hz
        rw [cmpB_lt] at this
        cases hk : keyB x.1 x.2.1 z with
        | false => rfl
        | true => rw [keyB_iff] at hk; omega
      rw [sumK, keyB_iff.2 ⟨rfl, rfl⟩, if_pos rfl, this]; rfl
    · have hk : keyB x.1 x.2.1 y = false := by
        have := h.1 x hx
        rw [cmpB_lt] at this
        cases hk : keyB x.1 x.2.1 y with
        | false => rfl
        | true => rw [keyB_iff] at hk; omega
      rw [sumK, hk, sumK_mem h.2 x hx]; simp
theorem sumK_ex {v w : Nat} : ∀ {l : List Bar}, 0 < sumK l v w → ∃ x ∈ l, x.1 = v ∧ x.2.1 = w
  | x :: r, h => by
    cases hk : keyB v w x with
    | true => rw [keyB_iff] at hk; exact ⟨x, by simp, hk⟩
    | false =>
      rw [sumK, hk] at h
      obtain ⟨y, hy, h2⟩ := sumK_ex (l := r) (by simpa using h)
      exact ⟨y, by simp [hy], h2⟩
theorem countL_mem (l : List Bar) (x : Bar) : x ∈ countL l ↔ x.2.2 = cntK l x.1 x.2.1 ∧ 0 < x.2.2 := by
  have hf := fun v w => fold_count v w l [] (by simp [SortedB]) (fun _ h => by cases h)
  constructor
  · intro hx
    obtain ⟨h1, h2, h3⟩ := hf x.1 x.2.1
    have h4 := sumK_mem h1 x hx
    refine ⟨?_, h2 x hx⟩
    rw [← h4, h3]; simp [sumK]
  · rintro ⟨h5, h6⟩
    obtain ⟨h1, h2, h3⟩ := hf x.1 x.2.1
    have h7 : sumK (l.foldl cstep []) x.1 x.2.1 = x.2.2 := by rw [h3, h5]; simp [sumK]
    obtain ⟨y, hy, e1, e2⟩ := sumK_ex (l := l.foldl cstep []) (v := x.1) (w := x.2.1) (by omega)
    have h8 := sumK_mem h1 y hy
    rw [e1, e2, h7] at h8
    have : x = y := by
      obtain ⟨x1, x2, x3⟩ := x
      obtain ⟨y1, y2, y3⟩ := y
      simp only at e1 e2 h8
      subst e1 e2 h8; rfl
    rw [this]; exact hy
theorem countL_sorted (l : List Bar) : SortedB (countL l) := (fold_count 0 0 l [] (by simp [SortedB]) (fun _ h => by cases h)).1

/-! ### spec's list of bars -/
theorem barRow_mem (b L : List Int) (v w0 w1 : Nat) (x : Bar) : x ∈ barRow b L v w0 w1 ↔ x.1 = v ∧ w0 ≤ x.2.1 ∧ x.2.1 < w1 ∧ x.2.2 = countB b L v (x.2.1 : Int) b.length ∧ 0 < x.2.2 := by
  simp only [barRow, List.mem_filter, List.mem_map, List.mem_range, decide_eq_true_eq, gt_iff_lt]
  constructor
  · rintro ⟨⟨i, hi, rfl⟩, h⟩
    exact ⟨rfl, by show w0 ≤ w0 + i; omega, by show w0 + i < w1; omega, rfl, h⟩
  · rintro ⟨h1, h2, h3, h4, h5⟩
    refine ⟨⟨x.2.1 - w0, by omega, ?_⟩, h5⟩
    obtain ⟨x1, x2, x3⟩ := x
    simp only at h1 h2 h3 h4
    have e : w0 + (x2 - w0) = x2 := by omega
    subst h1
    rw [e, ← h4]
theorem barsTo_mem (b L : List Int) (s v : Nat) (x : Bar) : x ∈ barsTo b L s v ↔ x.1 < v ∧ x.1 ≤ x.2.1 ∧ x.2.1 < s ∧ x.2.2 = countB b L (x.1 : Int) (x.2.1 : Int) b.length ∧ 0 < x.2.2 := by
  simp only [barsTo, List.mem_flatMap, List.mem_range, barRow_mem]
  constructor
  · rintro ⟨i, hi, rfl, h⟩
    exact ⟨hi, h⟩
  · rintro ⟨h1, h⟩
    exact ⟨x.1, h1, rfl, h⟩
theorem barRow_sorted (b L : List Int) (v w0 w1 : Nat) : SortedB (barRow b L v w0 w1) := by
  unfold barRow SortedB
  apply List.Pairwise.filter
  rw [List.pairwise_map]
  refine List.Pairwise.imp ?_ (List.pairwise_lt_range)
  intro i j hij
  rw [cmpB_lt]
  right
  exact ⟨rfl, by show w0 + i < w0 + j; omega⟩
theorem barsTo_sorted (b L : List Int) (s : Nat) : ∀ v, SortedB (barsTo b L s v)
  | 0 => by simp [barsTo, SortedB]
  | v + 1 => by
    rw [barsTo_succ, SortedB, List.pairwise_append]
    refine ⟨barsTo_sorted b L s v, barRow_sorted b L v v s, fun x hx y hy => ?_⟩
    rw [barsTo_mem] at hx
    rw [barRow_mem] at hy
    rw [cmpB_lt]
    omega
theorem elder_eq {s : Int} {b : List Int} {es : List (List Int)} (hf : isFil s b es = true) : elder s b es = ielder s b es := by
  obtain ⟨hs, hb, he, hbr, hedge⟩ := fil_bounds hf
  have hbn : ∀ k, k < b.length → 0 ≤ b.getD k 0 ∧ b.getD k 0 ≤ s - 1 := fun k hk => by
    have e : b.getD k 0 = b[k] := by simp [hk]
    rw [e]; exact hbr _ (List.getElem_mem hk)
  have hE : ∀ e ∈ es, EdgF b s e := hedge
  have hstg : ∀ e ∈ es, 0 ≤ stg e ∧ stg e < (s.toNat : Int) := fun e hm => by
    obtain ⟨x, y, z, rfl, h2, h3, _, h4, h5, h6⟩ := hedge e hm
    have := hbn x h2
    show 0 ≤ z ∧ z < _
    omega
  obtain ⟨h, last, out, e1, e2, R⟩ := stages_rel hbn hE s.toNat
  have hist : ist b (esort es) = (h, out) := by rw [ist, esort_by s.toNat es hstg]; exact e2
  have hL : (stages s b es s.toNat).2 = last := by rw [e1]
  have hsing : isingle s b es = out ++ lastTo s b h b.length := by rw [isingle, hist]
  -- how many singles of a kind
  have hlast : ∀ (v w : Nat) k, k ≤ b.length → cntK (lastTo s b h k) v w = (List.range k).countP (fun i => decide (h.getD i 0 = i) && (b.getD i 0 == (v : Int)) && (s - 1 == (w : Int))) := fun v w k => by
    induction k with
    | zero => intro _; rfl
    | succ k ih =>
      intro hk
      have := ih (by omega)
      have hbk := hbn k (by omega)
      rw [lastTo_succ, List.range_succ, List.countP_append, List.countP_singleton, ← this]
      by_cases hh : h.getD k 0 = k
      · rw [if_pos hh, cntK, List.countP_append, List.countP_singleton]
        have e3 : keyB v w ((b.getD k 0).toNat, (s - 1).toNat, 0) = (decide (h.getD k 0 = k) && (b.getD k 0 == (v : Int)) && (s - 1 == (w : Int))) := by
          rw [decide_eq_true hh, Bool.true_and]
          have e4 : (b.getD k 0 == (v : Int)) = ((b.getD k 0).toNat == v) := by rw [Bool.eq_iff_iff, beq_iff_eq, beq_iff_eq]; omega
          have e5 : (s - 1 == (w : Int)) = ((s - 1).toNat == w) := by rw [Bool.eq_iff_iff, beq_iff_eq, beq_iff_eq]; omega
          rw [e4, e5]; rfl
        rw [e3]; rfl
      · rw [if_neg hh, decide_eq_false hh]; simp
  have hall : ∀ v w : Nat, v ≤ w → cntK (isingle s b es) v w = countB b last (v : Int) (w : Int) b.length := fun v w hvw => by
    rw [hsing, cntK, List.countP_append]
    have h1 := R.cnt v w
    have h2 := hlast v w b.length (Nat.le_refl _)
    rw [cntK] at h1 h2
    rw [h1, h2]
    have h3 : countB b last (v : Int) (w : Int) b.length = (List.range b.length).countP (fun i => b.getD i 0 == (v : Int) && last.getD i 0 == (w : Int)) := by
      rw [countB, List.countP_eq_length_filter]
    rw [h3]
    have key : ∀ n, n ≤ b.length → (List.range n).countP (deadP b h last v w) + (List.range n).countP (fun i => decide (h.getD i 0 = i) && (b.getD i 0 == (v : Int)) && (s - 1 == (w : Int))) = (List.range n).countP (fun i => b.getD i 0 == (v : Int) && last.getD i 0 == (w : Int)) := fun n => by
      induction n with
      | zero => intro _; rfl
      | succ n ih =>
        intro hn
        have ih := ih (by omega)
        rw [List.range_succ, List.countP_append, List.countP_append, List.countP_append, List.countP_singleton, List.countP_singleton, List.countP_singleton]
        have hx : (if deadP b h last v w n then 1 else 0) + (if (decide (h.getD n 0 = n) && (b.getD n 0 == (v : Int)) && (s - 1 == (w : Int))) then 1 else 0) = if (b.getD n 0 == (v : Int) && last.getD n 0 == (w : Int)) then 1 else 0 := by
          by_cases hh : h.getD n 0 = n
          · have ha := R.alive n (by omega) hh
            have e3 : deadP b h last v w n = false := by simp only [deadP, hh, ne_eq, not_true_eq_false, decide_false, Bool.false_and]
            rw [e3, decide_eq_true hh, Bool.true_and, ha]; simp
          · have e3 : deadP b h last v w n = (b.getD n 0 == (v : Int) && last.getD n 0 == (w : Int)) := by
              simp only [deadP]
              rw [decide_eq_true hh, Bool.true_and]
              cases k1 : b.getD n 0 == (v : Int) with
              | false => rfl
              | true =>
                cases k2 : last.getD n 0 == (w : Int) with
                | false => rfl
                | true =>
                  simp only [beq_iff_eq] at k1 k2
                  rw [decide_eq_true (by omega)]; rfl
            rw [e3, decide_eq_false hh]; simp
        omega
    exact key _ (Nat.le_refl _)
  refine sorted_ext (barsTo_sorted _ _ _ _) (countL_sorted _) fun x => ?_
  rw [elder, ielder, barsTo_mem, countL_mem, hL]
  constructor
  · rintro ⟨h1, h2, h3, h4, h5⟩
    exact ⟨by rw [hall _ _ h2]; exact h4, h5⟩
  · rintro ⟨h4, h5⟩
    -- a single of this kind
    have hpos : 0 < cntK (isingle s b es) x.1 x.2.1 := by omega
    rw [cntK, List.countP_pos_iff] at hpos
    obtain ⟨y, hy, hk⟩ := hpos
    rw [keyB_iff] at hk
    have hyb : y.1 ≤ y.2.1 ∧ y.2.1 < s.toNat := by
      rw [hsing] at hy
      rcases List.mem_append.1 hy with hy | hy
      · have hc : 0 < cntK out y.1 y.2.1 := by rw [cntK, List.countP_pos_iff]; exact ⟨y, hy, keyB_iff.2 ⟨rfl, rfl⟩⟩
        rw [R.cnt, List.countP_pos_iff] at hc
        obtain ⟨i, hi, hd⟩ := hc
        simp only [List.mem_range] at hi
        simp only [deadP, Bool.and_eq_true, decide_eq_true_eq, beq_iff_eq] at hd
        have := R.le i hi
        omega
      · simp only [lastTo, List.mem_map, List.mem_filter, List.mem_range] at hy
        obtain ⟨i, ⟨hi, _⟩, rfl⟩ := hy
        have := hbn i hi
        show (b.getD i 0).toNat ≤ (s - 1).toNat ∧ (s - 1).toNat < s.toNat
        omega
    have h2 : x.1 ≤ x.2.1 := by omega
    exact ⟨by omega, h2, by omega, by rw [← hall _ _ h2]; exact h4, h5⟩
end Go.Qt

namespace Go.Qt
open Go Go.Qv Go.Proofs
set_option maxRecDepth 100000

theorem join_snoc (sep y : List UInt8) : ∀ l : List (List UInt8), l ≠ [] → Lib.join (l ++ [y]) sep = Lib.join l sep ++ sep ++ y
  | [], h => absurd rfl h
  | x :: r, _ => by
    rw [List.cons_append, Lib.join_cons, Lib.join_cons]
    simp [Lib.joinTail]
theorem textTo_join (l : List Bar) : ∀ k, k ≤ l.length → textTo l k = Lib.join ((l.take k).map barText) sp
  | 0, _ => by simp [textTo, Lib.join_nil]
  | k + 1, hk => by
    have ih := textTo_join l k (by omega)
    have ht : l.take (k + 1) = l.take k ++ [l.getD k (0, 0, 0)] := by
      rw [List.take_add_one]; simp [show k < l.length by omega]
    rw [ht, List.map_append, textTo]
    by_cases h0 : k = 0
    · subst h0
      rw [if_pos rfl, List.take_zero]
      simp [Lib.join_one]
    · rw [if_neg h0, ih, List.map_cons, List.map_nil, join_snoc]
      · rfl
      · intro e
        have := congrArg List.length e
        simp at this
        rcases this with h | h
        · exact h0 h
        · rw [h] at hk; simp at hk
theorem barsText_eq (l : List Bar) : barsText l = ibarsText l := by
  unfold barsText ibarsText
  split
  · rfl
  · rw [textTo_join l _ (Nat.le_refl _), List.take_length]
theorem plain : Plain := fun s b es hf => by
  obtain ⟨hs, hb, he, _, _⟩ := fil_bounds hf
  have hel := elder_eq hf
  have hlen := ielder_len (s := s) (es := es) hb.2 he
  have hst : ∀ k : Nat, (k : Int) < s → hasStage s b es (k : Int) = true := fun k hk => by
    rw [hasStage, hf, Bool.true_and]; exact decide_eq_true (by omega)
  have hcyc : ∀ k : Nat, (k : Int) < s → cyc s b es (k : Int) = (cycN s b es k : Int) ∧ cycN s b es k ≤ 9 := fun k hk => by
    obtain ⟨_, _, h1, h2⟩ := counts (hst k hk)
    unfold cycN
    omega
  refine ⟨?_, by rw [hel]; omega, hcyc⟩
  have hp : ∀ k : Nat, (k : Int) ≤ s → (partsTo s b es k).map digI = catTo (fun i => parts s b es (i : Int)) k := fun k => by
    induction k with
    | zero => intro _; rfl
    | succ k ih =>
      intro hk
      obtain ⟨h1, _⟩ := counts (hst k (by omega))
      have h4 := parts_small s b es (k : Int)
      rw [partsTo_succ, catTo_succ, List.map_append, ih (by omega), ← h1]
      congr 1
      exact digI_nat (by omega)
  have hc : ∀ k : Nat, (k : Int) ≤ s → (cycsTo s b es k).map digI = catTo (cycN s b es) k := fun k => by
    induction k with
    | zero => intro _; rfl
    | succ k ih =>
      intro hk
      obtain ⟨_, h1, _⟩ := counts (hst k (by omega))
      obtain ⟨h2, h3⟩ := hcyc k (by omega)
      rw [cycsTo_succ, catTo_succ, List.map_append, ih (by omega), ← h1, h2]
      congr 1
      exact digI_nat h3
  rw [sline, iline, iwords, hp _ (by omega), hc _ (by omega), hel, barsText_eq, Lib.join_cons]
  simp only [Lib.joinTail, List.map_cons, List.map_nil, List.flatten_cons, List.flatten_nil, List.append_nil]
  have e1 : cStages = sStages ++ sp := rfl
  have e2 : cParts = sp ++ (sParts ++ sp) := rfl
  have e3 : cCycles = sp ++ (sCycles ++ sp) := rfl
  have e4 : cBars = sp ++ (sBars ++ sp) := rfl
  rw [e1, e2, e3, e4]
  simp only [List.append_assoc]
end Go.Qt
