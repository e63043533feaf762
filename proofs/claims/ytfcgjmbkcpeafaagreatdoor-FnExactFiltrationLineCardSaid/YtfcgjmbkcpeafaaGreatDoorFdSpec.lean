/- PROVED: for every input the law FnExactFiltrationLine returns true and each argument reads afterwards as it read before (the statement 'FnExactFiltrationLineCardSaid' of the given Rows).
Conditions: none beyond those which the given statement itself names. This text is one part of the proof. -/
import Derived.Test.YtfcgjmbkcpeafaaGreatDoorFcSpec

namespace Go.Qt
open Go Go.Qv Go.Proofs
noncomputable def body11 : Code := match Tryz.f11.body with | some b => b | none => .skip
set_option maxHeartbeats 4000000

/-! ### The elder rule, as spec reckons it -/

def nats (h : List Nat) : List D := ints (h.map Int.ofNat)
theorem nats_len (h : List Nat) : (nats h).length = h.length := by simp [nats, ints]
theorem nats_get {h : List Nat} {k : Nat} (hk : k < h.length) : (nats h)[k]? = some (D.int .i64 (h[k] : Int)) := by simp [nats, ints, hk]
theorem nats_set {h : List Nat} {k v : Nat} (hk : k < h.length) : setND (nats h) k [D.int .i64 (v : Int)] = nats (h.set k v) := by
  rw [nats, ints_set (by simpa using hk), nats, List.map_set]; rfl
theorem nats_append (a b : List Nat) : nats (a ++ b) = nats a ++ nats b := by simp [nats, ints]

/-- Elder at a, younger at c: does c come before a. -/
def swapB (b : List Int) (a c : Nat) : Bool := decide (b.getD a 0 > b.getD c 0) || (b.getD a 0 == b.getD c 0 && decide ((a : Int) > (c : Int)))
def renTo (a c : Nat) (h : List Nat) (k : Nat) : List Nat := (h.take k).map (fun m => if m = c then a else m) ++ h.drop k
def ren (a c : Nat) (h : List Nat) : List Nat := h.map fun m => if m = c then a else m
theorem renTo_zero (a c : Nat) (h : List Nat) : renTo a c h 0 = h := by simp [renTo]
theorem renTo_full (a c : Nat) (h : List Nat) : renTo a c h h.length = ren a c h := by simp [renTo, ren]
theorem renTo_len (a c : Nat) (h : List Nat) (k : Nat) (hk : k ≤ h.length) : (renTo a c h k).length = h.length := by simp [renTo]; omega
theorem renTo_get (a c : Nat) (h : List Nat) (k : Nat) (hk : k < h.length) : (renTo a c h k)[k]? = some h[k] := by
  rw [renTo, List.getElem?_append_right (by simp; omega)]
  simp [Nat.min_eq_left (Nat.le_of_lt hk), hk]
theorem renTo_succ (a c : Nat) (h : List Nat) (k : Nat) (hk : k < h.length) : renTo a c h (k + 1) = (renTo a c h k).set k (if h[k] = c then a else h[k]) := by
  apply List.ext_getElem?
  intro i
  rw [List.getElem?_set]
  by_cases h1 : i < k
  · have h2 : k ≠ i := by omega
    rw [if_neg h2, renTo, renTo, List.getElem?_append_left (by simp; omega), List.getElem?_append_left (by simp; omega)]
    simp [h1, show i < k + 1 by omega]
  · by_cases h2 : k = i
    · subst h2
      rw [if_pos rfl, renTo_len a c h k (by omega), if_pos hk, renTo, List.getElem?_append_left (by simp; omega)]
      simp [hk]
    · rw [if_neg h2, renTo, renTo, List.getElem?_append_right (by simp; omega), List.getElem?_append_right (by simp; omega)]
      simp only [List.length_map, List.length_take, List.getElem?_drop]
      congr 1
      omega

/-- One edge. -/
def unite (b : List Int) (t : Int) (st : List Nat × List Int) : List Int → List Nat × List Int
  | [x, y, z] => if z ≠ t then st else
      let a := st.1.getD x.toNat 0
      let c := st.1.getD y.toNat 0
      if a = c then st else
        if swapB b a c then (ren c a st.1, st.2.set a (t - 1)) else (ren a c st.1, st.2.set c (t - 1))
  | _ => st
def stage (b : List Int) (es : List (List Int)) (st : List Nat × List Int) (t : Nat) : List Nat × List Int := es.foldl (unite b (t : Int)) st
def stages (s : Int) (b : List Int) (es : List (List Int)) (k : Nat) : List Nat × List Int :=
  (List.range k).foldl (stage b es) (List.range b.length, List.replicate b.length (s - 1))
def countB (b : List Int) (l : List Int) (v w : Int) (k : Nat) : Nat := ((List.range k).filter fun (i : Nat) => b.getD i 0 == v && l.getD i 0 == w).length
def barRow (b : List Int) (l : List Int) (v : Nat) (w0 w1 : Nat) : List Bar :=
  ((List.range (w1 - w0)).map fun (i : Nat) => (v, w0 + i, countB b l v ((w0 + i : Nat) : Int) b.length)).filter fun x => decide (x.2.2 > 0)
def barsTo (b : List Int) (l : List Int) (s : Nat) (v : Nat) : List Bar := (List.range v).flatMap fun (i : Nat) => barRow b l i i s
def elder (s : Int) (b : List Int) (es : List (List Int)) : List Bar := barsTo b (stages s b es s.toNat).2 s.toNat s.toNat
end Go.Qt

namespace Go.Qt
open Go Go.Qv Go.Proofs
set_option maxHeartbeats 8000000

theorem ren_len (a c : Nat) (h : List Nat) : (ren a c h).length = h.length := by simp [ren]
theorem ren_lt {a c n : Nat} {h : List Nat} (ha : a < n) (hh : ∀ x ∈ h, x < n) : ∀ x ∈ ren a c h, x < n := by
  intro x hx
  simp only [ren, List.mem_map] at hx
  obtain ⟨y, hy, rfl⟩ := hx
  split
  · exact ha
  · exact hh y hy
/-- The state holds: two rows of n, heads below n. -/
def StOk (n : Nat) (st : List Nat × List Int) : Prop := st.1.length = n ∧ st.2.length = n ∧ ∀ x ∈ st.1, x < n
theorem getD_lt {n : Nat} {h : List Nat} {k : Nat} (hl : h.length = n) (hh : ∀ x ∈ h, x < n) (hk : k < n) : h.getD k 0 < n := by
  have : h.getD k 0 = h[k]'(by omega) := by simp [show k < h.length by omega]
  rw [this]; exact hh _ (List.getElem_mem _)
theorem unite_ok {b : List Int} {t : Int} {n : Nat} {st : List Nat × List Int} (h : StOk n st) {e : List Int} (he : ∃ (x y : Nat) (z : Int), e = [(x : Int), (y : Int), z] ∧ x < n ∧ y < n) : StOk n (unite b t st e) := by
  obtain ⟨x, y, z, rfl, hx, hy⟩ := he
  obtain ⟨h1, h2, h3⟩ := h
  have ha := getD_lt h1 h3 hx
  have hc := getD_lt h1 h3 hy
  simp only [unite, Int.toNat_natCast]
  split
  · exact ⟨h1, h2, h3⟩
  · split
    · exact ⟨h1, h2, h3⟩
    · split
      · exact ⟨by rw [ren_len, h1], by simp [h2], ren_lt hc h3⟩
      · exact ⟨by rw [ren_len, h1], by simp [h2], ren_lt ha h3⟩
theorem fold_ok {b : List Int} {t : Int} {n : Nat} : ∀ {es : List (List Int)} {st : List Nat × List Int}, StOk n st → (∀ e ∈ es, ∃ (x y : Nat) (z : Int), e = [(x : Int), (y : Int), z] ∧ x < n ∧ y < n) → StOk n (es.foldl (unite b t) st)
  | [], _, h, _ => h
  | e :: r, st, h, he => fold_ok (es := r) (unite_ok h (he e (by simp))) fun e' h' => he e' (by simp [h'])
theorem stages_succ (s : Int) (b : List Int) (es : List (List Int)) (k : Nat) : stages s b es (k + 1) = es.foldl (unite b (k : Int)) (stages s b es k) := by
  simp only [stages, List.range_succ, List.foldl_append, List.foldl_cons, List.foldl_nil, stage]
theorem stages_ok {s : Int} {b : List Int} {es : List (List Int)} (he : ∀ e ∈ es, ∃ (x y : Nat) (z : Int), e = [(x : Int), (y : Int), z] ∧ x < b.length ∧ y < b.length) : ∀ k, StOk b.length (stages s b es k)
  | 0 => ⟨by simp [stages], by simp [stages], fun x hx => by simp [stages] at hx; exact hx⟩
  | k + 1 => by rw [stages_succ]; exact fold_ok (stages_ok he k) he
theorem unite_take {b : List Int} {t : Int} {es : List (List Int)} {st : List Nat × List Int} {j : Nat} (h : j < es.length) : (es.take (j + 1)).foldl (unite b t) st = unite b t ((es.take j).foldl (unite b t) st) es[j] := by
  rw [List.take_add_one, List.foldl_append]; simp [h]
end Go.Qt

namespace Go.Qt
open Go Go.Qv Go.Proofs
theorem countB_succ (b l : List Int) (v w : Int) (k : Nat) : countB b l v w (k + 1) = countB b l v w k + (if (b.getD k 0 == v && l.getD k 0 == w) = true then 1 else 0) := by
  simp only [countB, List.range_succ, List.filter_append, List.length_append, List.filter_cons, List.filter_nil]
  split <;> rfl
theorem countB_le (b l : List Int) (v w : Int) (k : Nat) : countB b l v w k ≤ k := by
  simp only [countB]
  exact Nat.le_trans (List.length_filter_le _ _) (by simp)
theorem barRow_succ (b l : List Int) (v w0 w1 : Nat) (h : w0 ≤ w1) : barRow b l v w0 (w1 + 1) = barRow b l v w0 w1 ++ (if countB b l v ((w1 : Nat) : Int) b.length > 0 then [(v, w1, countB b l v ((w1 : Nat) : Int) b.length)] else []) := by
  have e : w1 + 1 - w0 = (w1 - w0) + 1 := by omega
  have e2 : w0 + (w1 - w0) = w1 := by omega
  simp only [barRow, e, List.range_succ, List.map_append, List.filter_append, List.map_cons, List.map_nil, e2, List.filter_cons, List.filter_nil, decide_eq_true_eq]
theorem barsTo_succ (b l : List Int) (s v : Nat) : barsTo b l s (v + 1) = barsTo b l s v ++ barRow b l v v s := by
  simp only [barsTo, List.range_succ, List.flatMap_append, List.flatMap_cons, List.flatMap_nil, List.append_nil]
theorem barRow_len (b l : List Int) (v w0 w1 : Nat) : (barRow b l v w0 w1).length ≤ w1 - w0 := by
  simp only [barRow]
  exact Nat.le_trans (List.length_filter_le _ _) (by simp)
theorem barsTo_len (b l : List Int) (s v : Nat) : (barsTo b l s v).length ≤ v * s := by
  induction v with
  | zero => simp [barsTo]
  | succ v ih => rw [barsTo_succ, List.length_append, Nat.succ_mul]; have := barRow_len b l v v s; omega
theorem barsD_append (a b : List Bar) : barsD (a ++ b) = barsD a ++ barsD b := by simp [barsD]
end Go.Qt
