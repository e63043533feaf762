/- PROVED: for every input the law FnExactFiltrationLine returns true and each argument reads afterwards as it read before (the statement 'FnExactFiltrationLineCardSaid' of the given Rows).
Conditions: none beyond those which the given statement itself names. This text is one part of the proof. -/
import Derived.Test.YtfcgjmbkcpeafaaGreatDoorFuLine

namespace Go.Qt
open Go Go.Qv Go.Proofs
set_option maxRecDepth 100000

/-- A graph on four points, by its six pairs. -/
def gr (a b c d e f : Bool) (u v : Nat) : Bool :=
  match u, v with
  | 0, 1 | 1, 0 => a
  | 0, 2 | 2, 0 => b
  | 0, 3 | 3, 0 => c
  | 1, 2 | 2, 1 => d
  | 1, 3 | 3, 1 => e
  | 2, 3 | 3, 2 => f
  | _, _ => false
def pick (g : Nat → Nat → Bool) (B : List Nat) (v : Nat) (m u : Nat) : Nat := if g u v && decide (B.getD u 0 < m) then B.getD u 0 else m
def bst (g : Nat → Nat → Bool) (B : List Nat) : List Nat := (List.range 4).map fun v => (List.range 4).foldl (pick g B v) (B.getD v 0)
def bk (g : Nat → Nat → Bool) : Nat → List Nat
  | 0 => [0, 1, 2, 3]
  | k + 1 => bst g (bk g k)
def least4 (g : Nat → Nat → Bool) (v : Nat) : Nat := (bk g 4).getD v 0

theorem fact1 : ∀ a b c d e f : Bool, (∀ u, u < 4 → ∀ v, v < 4 → gr a b c d e f u v = true → least4 (gr a b c d e f) u = least4 (gr a b c d e f) v) ∧ ∀ v, v < 4 → least4 (gr a b c d e f) v ≤ v := by decide +kernel
def allB (f : Bool → Bool) : Bool := f true && f false
theorem allB_spec {f : Bool → Bool} (h : allB f = true) : ∀ x, f x = true := fun x => by
  simp only [allB, Bool.and_eq_true] at h
  cases x
  · exact h.2
  · exact h.1
def all4 (f : Nat → Bool) : Bool := f 0 && f 1 && f 2 && f 3
theorem all4_spec {f : Nat → Bool} (h : all4 f = true) : ∀ v, v < 4 → f v = true := fun v hv => by
  simp only [all4, Bool.and_eq_true] at h
  match v, hv with
  | 0, _ => exact h.1.1.1
  | 1, _ => exact h.1.1.2
  | 2, _ => exact h.1.2
  | 3, _ => exact h.2
theorem all4_mk {f : Nat → Bool} (h : ∀ v, v < 4 → f v = true) : all4 f = true := by
  simp only [all4, Bool.and_eq_true]
  exact ⟨⟨⟨h 0 (by omega), h 1 (by omega)⟩, h 2 (by omega)⟩, h 3 (by omega)⟩
def inN (g : Nat → Nat → Bool) (n : Nat) : Bool := all4 fun u => all4 fun v => !g u v || (decide (u < n) && decide (v < n))
def chk2 (g : Nat → Nat → Bool) (n : Nat) : Bool := !inN g n || all4 fun v => (bk g n).getD v 0 == least4 g v
theorem fact2b : (allB fun a => allB fun b => allB fun c => allB fun d => allB fun e => allB fun f => all4 fun m => chk2 (gr a b c d e f) (m + 1)) = true := by decide +kernel
theorem inN_mk {g : Nat → Nat → Bool} {n : Nat} (h : ∀ u, u < 4 → ∀ v, v < 4 → g u v = true → u < n ∧ v < n) : inN g n = true := by
  refine all4_mk fun u hu => all4_mk fun v hv => ?_
  cases hg : g u v with
  | false => rfl
  | true => obtain ⟨h1, h2⟩ := h u hu v hv hg; simp [h1, h2]
theorem fact2 (a b c d e f : Bool) (n : Nat) (hn : n < 5) (h1 : 1 ≤ n) (h : ∀ u, u < 4 → ∀ v, v < 4 → gr a b c d e f u v = true → u < n ∧ v < n) : ∀ v, v < 4 → (bk (gr a b c d e f) n).getD v 0 = least4 (gr a b c d e f) v := fun v hv => by
  have h2 := all4_spec (allB_spec (allB_spec (allB_spec (allB_spec (allB_spec (allB_spec fact2b a) b) c) d) e) f) (n - 1) (by omega)
  rw [show n - 1 + 1 = n by omega, chk2, inN_mk h] at h2
  simp only [Bool.not_true, Bool.false_or] at h2
  exact eq_of_beq (all4_spec h2 v hv)
def pr (p q r s : Bool) (v : Nat) : Bool := match v with | 0 => p | 1 => q | 2 => r | 3 => s | _ => false
def cfin (n : Nat) (g : Nat → Nat → Bool) (p : Nat → Bool) : List Int := (List.range n).map fun v => if p v then (least4 g v : Int) else -1
def inP (g : Nat → Nat → Bool) (p : Nat → Bool) : Bool := all4 fun u => all4 fun v => !g u v || (p u && p v)
theorem inP_mk {g : Nat → Nat → Bool} {p : Nat → Bool} (h : ∀ u, u < 4 → ∀ v, v < 4 → g u v = true → p u = true ∧ p v = true) : inP g p = true := by
  refine all4_mk fun u hu => all4_mk fun v hv => ?_
  cases hg : g u v with
  | false => rfl
  | true => obtain ⟨h1, h2⟩ := h u hu v hv hg; simp [h1, h2]
def chk3 (g : Nat → Nat → Bool) (p : Nat → Bool) (ec n : Nat) : Bool := !inN g n || !inP g p ||
  ((roots (cfin n g p)).length == least (cfin n g p) && decide ((roots (cfin n g p)).length ≤ (List.range n).countP p) && decide ((List.range n).countP p ≤ (roots (cfin n g p)).length + ec) && cnt born (cfin n g p) n == (List.range n).countP p)
theorem fact3b : (allB fun a => allB fun b => allB fun c => allB fun d => allB fun e => allB fun f => allB fun p => allB fun q => allB fun r => allB fun s => all4 fun m => chk3 (gr a b c d e f) (pr p q r s) ([a, b, c, d, e, f].countP id) (m + 1)) = true := by decide +kernel
theorem fact3 (a b c d e f p q r s : Bool) (n : Nat) (hn : n < 5) (h1 : 1 ≤ n) (h : ∀ u, u < 4 → ∀ v, v < 4 → gr a b c d e f u v = true → u < n ∧ v < n) (hp : ∀ u, u < 4 → ∀ v, v < 4 → gr a b c d e f u v = true → pr p q r s u = true ∧ pr p q r s v = true) :
    (roots (cfin n (gr a b c d e f) (pr p q r s))).length = least (cfin n (gr a b c d e f) (pr p q r s)) ∧
    (roots (cfin n (gr a b c d e f) (pr p q r s))).length ≤ (List.range n).countP (pr p q r s) ∧
    (List.range n).countP (pr p q r s) ≤ (roots (cfin n (gr a b c d e f) (pr p q r s))).length + [a, b, c, d, e, f].countP id ∧
    cnt born (cfin n (gr a b c d e f) (pr p q r s)) n = (List.range n).countP (pr p q r s) := by
  have h2 := all4_spec (allB_spec (allB_spec (allB_spec (allB_spec (allB_spec (allB_spec (allB_spec (allB_spec (allB_spec (allB_spec fact3b a) b) c) d) e) f) p) q) r) s) (n - 1) (by omega)
  rw [show n - 1 + 1 = n by omega, chk3, inN_mk h, inP_mk hp] at h2
  simp only [Bool.not_true, Bool.false_or, Bool.and_eq_true, beq_iff_eq, decide_eq_true_eq] at h2
  exact ⟨h2.1.1.1, h2.1.1.2, h2.1.2, h2.2⟩
end Go.Qt

namespace Go.Qt
open Go Go.Qv Go.Proofs
set_option maxRecDepth 100000

/-- An edge that has come, as a filtration's. -/
def EdgT (n : Nat) (b : List Int) (t : Int) (e : List Int) : Prop := ∃ (x y : Nat) (z : Int), e = [(x : Int), (y : Int), z] ∧ x < n ∧ y < n ∧ x ≠ y ∧ (z ≤ t → b.getD x 0 ≤ t ∧ b.getD y 0 ≤ t)
def linkE (t : Int) (u v : Nat) (e : List Int) : Bool := decide (e.getD 2 0 ≤ t) && ((e.getD 0 0 == (u : Int) && e.getD 1 0 == (v : Int)) || (e.getD 0 0 == (v : Int) && e.getD 1 0 == (u : Int)))
def link (t : Int) (es : List (List Int)) (u v : Nat) : Bool := es.any (linkE t u v)
theorem linkE_symm (t : Int) (u v : Nat) (e : List Int) : linkE t u v e = linkE t v u e := by
  simp only [linkE]; congr 1; exact Bool.or_comm _ _
theorem link_symm (t : Int) (es : List (List Int)) (u v : Nat) : link t es u v = link t es v u := by
  simp only [link]; congr 1; funext e; exact linkE_symm t u v e
/-- The graph of the edges that have come. -/
def G (t : Int) (es : List (List Int)) : Nat → Nat → Bool := gr (link t es 0 1) (link t es 0 2) (link t es 0 3) (link t es 1 2) (link t es 1 3) (link t es 2 3)
theorem G_link {t : Int} {es : List (List Int)} {u v : Nat} (hu : u < 4) (hv : v < 4) (hne : u ≠ v) : G t es u v = link t es u v := by
  match u, v, hu, hv, hne with
  | 0, 1, _, _, _ | 0, 2, _, _, _ | 0, 3, _, _, _ | 1, 2, _, _, _ | 1, 3, _, _, _ | 2, 3, _, _, _ => rfl
  | 1, 0, _, _, _ => exact link_symm t es 0 1
  | 2, 0, _, _, _ => exact link_symm t es 0 2
  | 3, 0, _, _, _ => exact link_symm t es 0 3
  | 2, 1, _, _, _ => exact link_symm t es 1 2
  | 3, 1, _, _, _ => exact link_symm t es 1 3
  | 3, 2, _, _, _ => exact link_symm t es 2 3
  | 0, 0, _, _, h | 1, 1, _, _, h | 2, 2, _, _, h | 3, 3, _, _, h => exact absurd rfl h
theorem G_self {t : Int} {es : List (List Int)} {u : Nat} (hu : u < 4) : G t es u u = false := by
  match u, hu with
  | 0, _ | 1, _ | 2, _ | 3, _ => rfl
theorem G_of {t : Int} {es : List (List Int)} {x y : Nat} {z : Int} (h : [(x : Int), (y : Int), z] ∈ es) (hz : z ≤ t) (hx : x < 4) (hy : y < 4) (hne : x ≠ y) : G t es x y = true := by
  rw [G_link hx hy hne, link, List.any_eq_true]
  exact ⟨_, h, by simp [linkE, hz]⟩
theorem G_edge {n : Nat} {b : List Int} {t : Int} {es : List (List Int)} (hE : ∀ e ∈ es, EdgT n b t e) {u v : Nat} (hu : u < 4) (hv : v < 4) (h : G t es u v = true) :
    ∃ z, z ≤ t ∧ u < n ∧ v < n ∧ b.getD u 0 ≤ t ∧ b.getD v 0 ≤ t ∧ ([(u : Int), (v : Int), z] ∈ es ∨ [(v : Int), (u : Int), z] ∈ es) := by
  have hne : u ≠ v := fun e => by subst e; rw [G_self hu] at h; cases h
  rw [G_link hu hv hne, link, List.any_eq_true] at h
  obtain ⟨e, he, hl⟩ := h
  obtain ⟨x, y, z, rfl, hx, hy, _, hb⟩ := hE e he
  simp only [linkE, Bool.and_eq_true, Bool.or_eq_true, decide_eq_true_eq, beq_iff_eq] at hl
  obtain ⟨hz, hl⟩ := hl
  have hz : z ≤ t := hz
  rcases hl with ⟨h1, h2⟩ | ⟨h1, h2⟩
  · have h1 : (x : Int) = u := h1
    have h2 : (y : Int) = v := h2
    obtain rfl : x = u := by omega
    obtain rfl : y = v := by omega
    exact ⟨z, hz, hx, hy, (hb hz).1, (hb hz).2, .inl he⟩
  · have h1 : (x : Int) = v := h1
    have h2 : (y : Int) = u := h2
    obtain rfl : x = v := by omega
    obtain rfl : y = u := by omega
    exact ⟨z, hz, hy, hx, (hb hz).2, (hb hz).1, .inr he⟩

/-! ### Sweeps -/
theorem getD_set_self {c : List Int} {k : Nat} {v : Int} (h : k < c.length) : (c.set k v).getD k 0 = v := by simp [h]
theorem getD_set_ne {c : List Int} {k i : Nat} {v : Int} (h : k ≠ i) : (c.set k v).getD i 0 = c.getD i 0 := by
  rw [List.getD_eq_getElem?_getD, List.getElem?_set_ne h, ← List.getD_eq_getElem?_getD]
theorem imin_le (a b : Int) : imin a b ≤ a ∧ imin a b ≤ b ∧ (imin a b = a ∨ imin a b = b) := by
  unfold imin; split <;> omega
theorem relax_get {t : Int} {c : List Int} {x y : Nat} {z : Int} (hx : x < c.length) (hy : y < c.length) (i : Nat) :
    (relax t c [(x : Int), (y : Int), z]).getD i 0 = if z ≤ t ∧ (i = x ∨ i = y) then imin (c.getD x 0) (c.getD y 0) else c.getD i 0 := by
  simp only [relax, Int.toNat_natCast]
  by_cases hz : z > t
  · rw [if_pos hz, if_neg (by omega)]
  · rw [if_neg hz]
    by_cases h1 : i = y
    · subst h1; rw [getD_set_self (by simpa using hy), if_pos ⟨by omega, .inr rfl⟩]
    · rw [getD_set_ne (Ne.symm h1)]
      by_cases h2 : i = x
      · subst h2; rw [getD_set_self hx, if_pos ⟨by omega, .inl rfl⟩]
      · rw [getD_set_ne (Ne.symm h2), if_neg (by omega)]
theorem relax_le {n : Nat} {b : List Int} {t : Int} {c e : List Int} (hl : c.length = n) (he : EdgT n b t e) (i : Nat) : (relax t c e).getD i 0 ≤ c.getD i 0 := by
  obtain ⟨x, y, z, rfl, hx, hy, _, _⟩ := he
  rw [relax_get (by omega) (by omega)]
  have := imin_le (c.getD x 0) (c.getD y 0)
  split
  · rename_i h
    rcases h.2 with rfl | rfl <;> omega
  · omega
theorem round_le {n : Nat} {b : List Int} {t : Int} : ∀ {es : List (List Int)} {c : List Int}, c.length = n → (∀ e ∈ es, EdgT n b t e) → ∀ i, (es.foldl (relax t) c).getD i 0 ≤ c.getD i 0
  | [], _, _, _, _ => Int.le_refl _
  | e :: r, c, hl, hE, i => by
    have h1 := round_le (es := r) (c := relax t c e) (by rw [relax_len, hl]) (fun e' h => hE e' (by simp [h])) i
    have h2 := relax_le hl (hE e (by simp)) i
    exact Int.le_trans h1 h2
theorem round_edge {n : Nat} {b : List Int} {t : Int} : ∀ {es : List (List Int)} {c : List Int}, c.length = n → (∀ e ∈ es, EdgT n b t e) → ∀ {x y : Nat} {z : Int}, [(x : Int), (y : Int), z] ∈ es → x < n → y < n → z ≤ t →
    (es.foldl (relax t) c).getD x 0 ≤ c.getD y 0 ∧ (es.foldl (relax t) c).getD y 0 ≤ c.getD x 0
  | e :: r, c, hl, hE, x, y, z, hm, hx, hy, hz => by
    have hl2 : (relax t c e).length = n := by rw [relax_len, hl]
    have hr : ∀ e' ∈ r, EdgT n b t e' := fun e' h => hE e' (by simp [h])
    rcases List.mem_cons.1 hm with rfl | hm
    · have h1 := round_le (es := r) hl2 hr x
      have h2 := round_le (es := r) hl2 hr y
      rw [relax_get (by omega) (by omega), if_pos ⟨hz, .inl rfl⟩] at h1
      rw [relax_get (by omega) (by omega), if_pos ⟨hz, .inr rfl⟩] at h2
      have := imin_le (c.getD x 0) (c.getD y 0)
      simp only [List.foldl_cons]
      omega
    · have h1 := round_edge (es := r) hl2 hr hm hx hy hz
      have h2 := relax_le hl (hE e (by simp)) x
      have h3 := relax_le hl (hE e (by simp)) y
      simp only [List.foldl_cons]
      omega
/-- What a sweep keeps: each value is a point of the same part. -/
def Inv (n : Nat) (b : List Int) (t : Int) (F : Nat → Nat) (c : List Int) : Prop := c.length = n ∧ ∀ v, v < n → (b.getD v 0 ≤ t → ∃ m : Nat, m < n ∧ c.getD v 0 = (m : Int) ∧ b.getD m 0 ≤ t ∧ F m = F v) ∧ (¬ b.getD v 0 ≤ t → c.getD v 0 = -1)
theorem relax_inv {n : Nat} {b : List Int} {t : Int} {F : Nat → Nat} {c e : List Int} (h : Inv n b t F c) (he : EdgT n b t e) (hF : ∀ (x y : Nat) (z : Int), e = [(x : Int), (y : Int), z] → z ≤ t → F x = F y) : Inv n b t F (relax t c e) := by
  obtain ⟨hl, hv⟩ := h
  obtain ⟨x, y, z, rfl, hx, hy, _, hb⟩ := he
  refine ⟨by rw [relax_len, hl], fun v hvn => ?_⟩
  rw [relax_get (by omega) (by omega)]
  by_cases hc : z ≤ t ∧ (v = x ∨ v = y)
  · rw [if_pos hc]
    obtain ⟨hbx, hby⟩ := hb hc.1
    have hxy := hF x y z rfl hc.1
    obtain ⟨m1, k1, k2, k3, k4⟩ := (hv x hx).1 hbx
    obtain ⟨m2, j1, j2, j3, j4⟩ := (hv y hy).1 hby
    have hFv : F v = F x := by
      rcases hc.2 with rfl | rfl
      · rfl
      · exact hxy.symm
    have hbv : b.getD v 0 ≤ t := by
      rcases hc.2 with rfl | rfl <;> assumption
    refine ⟨fun _ => ?_, fun h => absurd hbv h⟩
    rcases (imin_le (c.getD x 0) (c.getD y 0)).2.2 with h | h
    · exact ⟨m1, k1, by rw [h, k2], k3, by rw [k4, hFv]⟩
    · exact ⟨m2, j1, by rw [h, j2], j3, by rw [j4, hFv, hxy]⟩
  · rw [if_neg hc]; exact hv v hvn
theorem round_inv {n : Nat} {b : List Int} {t : Int} {F : Nat → Nat} : ∀ {es : List (List Int)} {c : List Int}, Inv n b t F c → (∀ e ∈ es, EdgT n b t e) → (∀ e ∈ es, ∀ (x y : Nat) (z : Int), e = [(x : Int), (y : Int), z] → z ≤ t → F x = F y) → Inv n b t F (es.foldl (relax t) c)
  | [], _, h, _, _ => h
  | e :: r, c, h, hE, hF => round_inv (es := r) (relax_inv h (hE e (by simp)) (hF e (by simp))) (fun e' h' => hE e' (by simp [h'])) (fun e' h' => hF e' (by simp [h']))
theorem rounds_inv {n : Nat} {b : List Int} {t : Int} {F : Nat → Nat} {es : List (List Int)} {c : List Int} (h : Inv n b t F c) (hE : ∀ e ∈ es, EdgT n b t e) (hF : ∀ e ∈ es, ∀ (x y : Nat) (z : Int), e = [(x : Int), (y : Int), z] → z ≤ t → F x = F y) : ∀ k, Inv n b t F (rounds t es c k)
  | 0 => h
  | k + 1 => round_inv (rounds_inv h hE hF k) hE hF

theorem pick_cases (g : Nat → Nat → Bool) (B : List Nat) (v : Nat) : ∀ (l : List Nat) (m : Nat), l.foldl (pick g B v) m = m ∨ ∃ u ∈ l, g u v = true ∧ l.foldl (pick g B v) m = B.getD u 0
  | [], m => .inl rfl
  | u :: r, m => by
    simp only [List.foldl_cons]
    rcases pick_cases g B v r (pick g B v m u) with h | ⟨w, hw, hg, h⟩
    · rw [h]
      unfold pick
      split
      · rename_i hh
        simp only [Bool.and_eq_true] at hh
        exact .inr ⟨u, by simp, hh.1, rfl⟩
      · exact .inl rfl
    · exact .inr ⟨w, by simp [hw], hg, h⟩
theorem bst_get (g : Nat → Nat → Bool) (B : List Nat) {v : Nat} (hv : v < 4) : (bst g B).getD v 0 = B.getD v 0 ∨ ∃ u, u < 4 ∧ g u v = true ∧ (bst g B).getD v 0 = B.getD u 0 := by
  have e : (bst g B).getD v 0 = (List.range 4).foldl (pick g B v) (B.getD v 0) := by
    simp [bst, hv]
  rw [e]
  rcases pick_cases g B v (List.range 4) (B.getD v 0) with h | ⟨u, hu, hg, h⟩
  · exact .inl h
  · exact .inr ⟨u, by simpa using hu, hg, h⟩
/-- After k sweeps no value is above the least within k steps. -/
theorem rounds_le {n : Nat} {b : List Int} {t : Int} {es : List (List Int)} {c : List Int} (hn : n ≤ 4) (hl : c.length = n) (hE : ∀ e ∈ es, EdgT n b t e) (h0 : ∀ v, v < n → b.getD v 0 ≤ t → c.getD v 0 = (v : Int)) :
    ∀ k v, v < n → b.getD v 0 ≤ t → (rounds t es c k).getD v 0 ≤ ((bk (G t es) k).getD v 0 : Int)
  | 0, v, hv, hb => by
    rw [show rounds t es c 0 = c from rfl, h0 v hv hb]
    match v, (show v < 4 by omega) with
    | 0, _ | 1, _ | 2, _ | 3, _ => exact Int.le_refl _
  | k + 1, v, hv, hb => by
    have hlk : (rounds t es c k).length = n := by rw [rounds_len, hl]
    show (es.foldl (relax t) (rounds t es c k)).getD v 0 ≤ ((bst (G t es) (bk (G t es) k)).getD v 0 : Int)
    rcases bst_get (G t es) (bk (G t es) k) (show v < 4 by omega) with h | ⟨u, hu, hg, h⟩
    · rw [h]
      exact Int.le_trans (round_le hlk hE v) (rounds_le hn hl hE h0 k v hv hb)
    · rw [h]
      obtain ⟨z, hz, hun, hvn, hbu, hbv, hm⟩ := G_edge hE hu (by omega) hg
      have ih := rounds_le hn hl hE h0 k u hun hbu
      rcases hm with hm | hm
      · have := (round_edge hlk hE hm hun hvn hz).2
        omega
      · have := (round_edge hlk hE hm hvn hun hz).1
        omega
end Go.Qt

namespace Go.Qt
open Go Go.Qv Go.Proofs
set_option maxRecDepth 100000

def bornB (b : List Int) (t : Int) (v : Nat) : Bool := decide (v < b.length) && decide (b.getD v 0 ≤ t)
def prB (b : List Int) (t : Int) : Nat → Bool := pr (bornB b t 0) (bornB b t 1) (bornB b t 2) (bornB b t 3)
theorem prB_eq {b : List Int} {t : Int} {v : Nat} (hv : v < 4) : prB b t v = bornB b t v := by
  match v, hv with
  | 0, _ | 1, _ | 2, _ | 3, _ => rfl
theorem edges_T {s : Int} {b : List Int} {es : List (List Int)} (hf : isFil s b es = true) (t : Int) : ∀ e ∈ es, EdgT b.length b t e := fun e he => by
  obtain ⟨x, y, z, h1, h2, h3, h4, h5, h6, _⟩ := (fil_bounds hf).2.2.2.2 e he
  exact ⟨x, y, z, h1, h2, h3, h4, fun hz => by omega⟩
theorem start_get (b : List Int) (t : Int) {v : Nat} (hv : v < b.length) : (start b t b.length).getD v 0 = if b.getD v 0 ≤ t then (v : Int) else -1 := by
  simp [start, hv]
theorem comps_fin {s : Int} {b : List Int} {es : List (List Int)} {t : Int} (hv : hasStage s b es t = true) : comps s b es t = cfin b.length (G t es) (prB b t) := by
  have hf : isFil s b es = true := by simp only [hasStage, Bool.and_eq_true] at hv; exact hv.1
  obtain ⟨_, hb, _, _, _⟩ := fil_bounds hf
  have hE := edges_T hf t
  have hF : ∀ e ∈ es, ∀ (x y : Nat) (z : Int), e = [(x : Int), (y : Int), z] → z ≤ t → least4 (G t es) x = least4 (G t es) y := fun e he x y z hxyz hz => by
    obtain ⟨x', y', z', h1, h2, h3, h4, _⟩ := hE e he
    rw [hxyz] at h1
    simp only [List.cons.injEq, and_true] at h1
    obtain ⟨e1, e2, e3⟩ := h1
    obtain rfl : x = x' := by omega
    obtain rfl : y = y' := by omega
    rw [hxyz] at he
    exact (fact1 _ _ _ _ _ _).1 x (by omega) y (by omega) (G_of he hz (by omega) (by omega) h4)
  have h0 : Inv b.length b t (least4 (G t es)) (start b t b.length) := ⟨start_len _ _ _, fun v hv => ⟨fun h => ⟨v, hv, by rw [start_get b t hv, if_pos h], h, rfl⟩, fun h => by rw [start_get b t hv, if_neg h]⟩⟩
  have hI := rounds_inv h0 hE hF b.length
  have hL := rounds_le (c := start b t b.length) hb.2 (start_len _ _ _) hE (fun v hv h => by rw [start_get b t hv, if_pos h]) b.length
  have h2 := fact2 (link t es 0 1) (link t es 0 2) (link t es 0 3) (link t es 1 2) (link t es 1 3) (link t es 2 3) b.length (by omega) hb.1 (fun u hu v hv h => by
    obtain ⟨_, _, h1, h2, _⟩ := G_edge hE hu hv h
    exact ⟨h1, h2⟩)
  rw [comps, hv]
  show rounds t es (start b t b.length) b.length = _
  apply List.ext_getElem
  · rw [hI.1]; simp [cfin]
  · intro v h1 h3
    have hvn : v < b.length := by rw [hI.1] at h1; exact h1
    have hg : (rounds t es (start b t b.length) b.length).getD v 0 = (rounds t es (start b t b.length) b.length)[v] := by simp [h1]
    rw [← hg]
    simp only [cfin, List.getElem_map, List.getElem_range]
    rw [prB_eq (by omega), bornB]
    by_cases hbt : b.getD v 0 ≤ t
    · rw [if_pos (by simp only [Bool.and_eq_true, decide_eq_true_eq]; exact ⟨hvn, hbt⟩)]
      obtain ⟨m, hm, hcm, _, hFm⟩ := (hI.2 v hvn).1 hbt
      have hle := hL v hvn hbt
      have h2v := h2 v (by omega)
      have h1m := (fact1 (link t es 0 1) (link t es 0 2) (link t es 0 3) (link t es 1 2) (link t es 1 3) (link t es 2 3)).2 m (by omega)
      have e1 : (bk (G t es) b.length).getD v 0 = least4 (G t es) v := h2v
      have e2 : least4 (G t es) m ≤ m := h1m
      rw [e1] at hle
      rw [hcm] at hle ⊢
      omega
    · rw [if_neg (by simp only [Bool.and_eq_true, decide_eq_true_eq]; exact fun h => hbt h.2)]
      exact (hI.2 v hvn).2 hbt

/-! ### Counting pairs -/
theorem countP_or {α : Type} (p q : α → Bool) : ∀ l : List α, l.countP (fun x => p x || q x) ≤ l.countP p + l.countP q
  | [] => by simp
  | x :: r => by
    have := countP_or p q r
    simp only [List.countP_cons]
    cases p x <;> cases q x <;> simp <;> omega
def pairs : List (Nat × Nat) := [(0, 1), (0, 2), (0, 3), (1, 2), (1, 3), (2, 3)]
theorem pairs_one (x y : Nat) (z t : Int) : pairs.countP (fun p => linkE t p.1 p.2 [(x : Int), (y : Int), z]) ≤ if z ≤ t then 1 else 0 := by
  by_cases hz : z ≤ t
  · rw [if_pos hz]
    have key : ∀ p : Nat × Nat, linkE t p.1 p.2 [(x : Int), (y : Int), z] = ((x == p.1 && y == p.2) || (x == p.2 && y == p.1)) := fun p => by
      simp only [linkE, List.getD_cons_zero, List.getD_cons_succ]
      rw [show decide (z ≤ t) = true from decide_eq_true hz, Bool.true_and]
      have e : ∀ a c : Nat, ((a : Int) == (c : Int)) = (a == c) := fun a c => by
        rw [Bool.eq_iff_iff]; simp only [beq_iff_eq]; omega
      rw [e, e, e, e]
    simp only [key]
    by_cases hx : x < 4
    · by_cases hy : y < 4
      · match x, hx, y, hy with
        | 0, _, 0, _ | 0, _, 1, _ | 0, _, 2, _ | 0, _, 3, _ | 1, _, 0, _ | 1, _, 1, _ | 1, _, 2, _ | 1, _, 3, _ | 2, _, 0, _ | 2, _, 1, _ | 2, _, 2, _ | 2, _, 3, _ | 3, _, 0, _ | 3, _, 1, _ | 3, _, 2, _ | 3, _, 3, _ => decide
      · have : pairs.countP (fun p => (x == p.1 && y == p.2) || (x == p.2 && y == p.1)) = 0 := by
          rw [List.countP_eq_zero]
          intro p hp
          simp only [pairs, List.mem_cons, List.not_mem_nil, or_false] at hp
          rcases hp with rfl | rfl | rfl | rfl | rfl | rfl <;> simp <;> omega
        omega
    · have : pairs.countP (fun p => (x == p.1 && y == p.2) || (x == p.2 && y == p.1)) = 0 := by
        rw [List.countP_eq_zero]
        intro p hp
        simp only [pairs, List.mem_cons, List.not_mem_nil, or_false] at hp
        rcases hp with rfl | rfl | rfl | rfl | rfl | rfl <;> simp <;> omega
      omega
  · rw [if_neg hz, Nat.le_zero, List.countP_eq_zero]
    intro p _
    simp [linkE, hz]
theorem pairs_le {n : Nat} {b : List Int} {t : Int} : ∀ {es : List (List Int)}, (∀ e ∈ es, EdgT n b t e) → pairs.countP (fun p => link t es p.1 p.2) ≤ es.countP (came t)
  | [], _ => by simp [link]
  | e :: r, hE => by
    have ih := pairs_le (es := r) fun e' h => hE e' (by simp [h])
    have h1 := countP_or (fun p : Nat × Nat => linkE t p.1 p.2 e) (fun p => link t r p.1 p.2) pairs
    obtain ⟨x, y, z, rfl, _⟩ := hE e (by simp)
    have h2 := pairs_one x y z t
    have h3 : (fun p : Nat × Nat => link t ([(x : Int), (y : Int), z] :: r) p.1 p.2) = fun p => linkE t p.1 p.2 [(x : Int), (y : Int), z] || link t r p.1 p.2 := by
      funext p; simp [link]
    rw [h3, List.countP_cons]
    have h4 : came t [(x : Int), (y : Int), z] = decide (z ≤ t) := rfl
    rw [h4]
    by_cases hz : z ≤ t
    · rw [if_pos hz] at h2; simp only [hz, decide_true, if_true]; omega
    · rw [if_neg hz] at h2; simp only [hz, decide_false]; simp; omega
theorem cnt_born (b : List Int) (t : Int) (hb : b.length ≤ 4) : (List.range b.length).countP (prB b t) = cnt (isB t) b b.length := by
  match b, hb with
  | [], _ => rfl
  | [x], _ => simp [cnt, prB, pr, bornB, isB, List.range_succ, List.countP_cons]
  | [x, y], _ => simp [cnt, prB, pr, bornB, isB, List.range_succ, List.countP_cons]
  | [x, y, z], _ => simp [cnt, prB, pr, bornB, isB, List.range_succ, List.countP_cons]
  | [x, y, z, u], _ => simp [cnt, prB, pr, bornB, isB, List.range_succ, List.countP_cons]
/-- What the two programs count. -/
theorem counts {s : Int} {b : List Int} {es : List (List Int)} {t : Int} (hv : hasStage s b es t = true) :
    parts s b es t = cparts s b es t ∧ cyc s b es t = icyc s b es t ∧ 0 ≤ cyc s b es t ∧ cyc s b es t ≤ 9 := by
  have hf : isFil s b es = true := by simp only [hasStage, Bool.and_eq_true] at hv; exact hv.1
  obtain ⟨_, hb, he, _, _⟩ := fil_bounds hf
  have hE := edges_T hf t
  have hc := comps_fin hv
  have hcl : (comps s b es t).length = b.length := by rw [hc]; simp [cfin]
  obtain ⟨f1, f2, f3, f4⟩ := fact3 (link t es 0 1) (link t es 0 2) (link t es 0 3) (link t es 1 2) (link t es 1 3) (link t es 2 3) (bornB b t 0) (bornB b t 1) (bornB b t 2) (bornB b t 3) b.length (by omega) hb.1
    (fun u hu v hv h => by
      obtain ⟨_, _, h1, h2, _⟩ := G_edge hE hu hv h
      exact ⟨h1, h2⟩)
    (fun u hu v hv h => by
      obtain ⟨_, _, h1, h2, h3, h4, _⟩ := G_edge hE hu hv h
      have e1 : prB b t u = bornB b t u := prB_eq hu
      have e2 : prB b t v = bornB b t v := prB_eq hv
      refine ⟨?_, ?_⟩
      · show prB b t u = true
        rw [e1, bornB]; simp only [Bool.and_eq_true, decide_eq_true_eq]; exact ⟨h1, h3⟩
      · show prB b t v = true
        rw [e2, bornB]; simp only [Bool.and_eq_true, decide_eq_true_eq]; exact ⟨h2, h4⟩)
  have hcb := cnt_born b t hb.2
  have hpl := pairs_le hE
  have hp1 : pairs.countP (fun p => link t es p.1 p.2) = [link t es 0 1, link t es 0 2, link t es 0 3, link t es 1 2, link t es 1 3, link t es 2 3].countP id := by
    simp only [pairs, List.countP_cons, List.countP_nil, id]
  have hcc : es.countP (came t) = cnt (came t) es es.length := by rw [cnt, List.take_length]
  have hcel := cnt_le (came t) es es.length
  have e0 : cfin b.length (gr (link t es 0 1) (link t es 0 2) (link t es 0 3) (link t es 1 2) (link t es 1 3) (link t es 2 3)) (pr (bornB b t 0) (bornB b t 1) (bornB b t 2) (bornB b t 3)) = comps s b es t := hc.symm
  rw [e0] at f1 f2 f3 f4
  have e1 : (List.range b.length).countP (pr (bornB b t 0) (bornB b t 1) (bornB b t 2) (bornB b t 3)) = cnt (isB t) b b.length := hcb
  rw [e1] at f2 f3 f4
  have hp : parts s b es t = (roots (comps s b es t)).length := rfl
  have hq : cparts s b es t = least (comps s b es t) := rfl
  have hcyc : cyc s b es t = (parts s b es t : Int) - (cnt (isB t) b b.length : Nat) + (cnt (came t) es es.length : Nat) := by
    rw [cyc, hcl, f4, hv, if_pos rfl]
  have hic : icyc s b es t = (cparts s b es t : Int) + (cnt (came t) es es.length : Nat) - (cnt (isB t) b b.length : Nat) := rfl
  refine ⟨by rw [hp, hq, f1], by rw [hcyc, hic, hp, hq, f1]; omega, ?_, ?_⟩
  · rw [hcyc, hp]; omega
  · rw [hcyc, hp]; omega
end Go.Qt
