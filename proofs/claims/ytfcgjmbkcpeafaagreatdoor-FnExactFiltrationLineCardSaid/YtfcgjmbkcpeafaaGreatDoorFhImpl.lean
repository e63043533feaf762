/- PROVED: for every input the law FnExactFiltrationLine returns true and each argument reads afterwards as it read before (the statement 'FnExactFiltrationLineCardSaid' of the given Rows).
Conditions: none beyond those which the given statement itself names. This text is one part of the proof. -/
import Derived.Test.YtfcgjmbkcpeafaaGreatDoorFgImpl

namespace Go.Qt
open Go Go.Qv Go.Proofs
noncomputable def body53 : Code := match Tryz.f53.body with | some b => b | none => .skip
noncomputable def body51 : Code := match Tryz.f51.body with | some b => b | none => .skip
set_option maxHeartbeats 4000000
def negB (x : Int) : Bool := decide (x < 0)
theorem ac53 (x : Int) : AC Tryz.prog 53 [.int .i64 x] (.bool (negB x)) := by
  refine AC_of_awp (E := env 5 [] [] 0) (env_ok _ _ _ _) mixed Tryz.call53 Tryz.func53 (code := body53) rfl rfl (by kernel_rfl) (Nat.le_of_ble_eq_true rfl) fun hl => ?_
  conv => whnf
  clear hl
  exact ⟨rfl, rfl⟩
def firstNeg (xs : List Int) : Int := match xs.findIdx? (negB) with | some k => (k : Int) | none => -1
theorem ac68n (xs : List Int) : AC Tryz.prog 68 [.rs true false (ints xs) xs.length, .fn 53 []] (.int .i64 (firstNeg xs)) := by
  refine AC_of_awp (E := env 19 [] [] 0) (env_ok _ _ _ _) mixed Tryz.call68 Tryz.func68 (code := body68) rfl rfl (by kernel_rfl) (Nat.le_of_ble_eq_true rfl) fun hl => ?_
  conv => whnf
  have hx : xs.length ≤ 9223372036854775807 := lim_le hl.1.1
  clear hl
  refine ⟨Nat, [], [0, 1, 7, 8], fun k => [.rs true false (ints xs) xs.length, .fn 53 [], .int .i64 xs.length, .int .i64 k], fun _ => [], fun k => k ≤ xs.length ∧ ∀ x ∈ xs.take k, negB x = false, fun k => xs.length - k, 0, fun _ => rfl, rfl,
      ⟨_, 0, rfl, ⟨Nat.zero_le _, by simp⟩, rfl, rfl, rfl, rfl⟩, fun k hk => ?_⟩
  obtain ⟨hk1, hk2⟩ := hk
  conv => whnf
  refine Bc_intro (fun hb => ?_) (fun hb => ?_)
  · have hb : (k : Int) < xs.length := of_decide_eq_true hb
    conv => whnf
    repeat (first
      | (refine ⟨_, ints_m rfl (by first | omega | (dsimp only; omega)), ?_⟩; conv => whnf)
      | (refine ⟨_, ints_p rfl (by first | omega | (dsimp only; omega)), ?_⟩; conv => whnf)
      | (refine ⟨_, rows_m rfl (by first | omega | (dsimp only; omega)), ?_⟩; conv => whnf)
      | (refine ⟨(D.int .i64 _ : D), rfl, ?_⟩; conv => whnf)
      | (refine ⟨(_ : Nat), rfl, (show (_ : Nat) < _ by first | omega | (dsimp only; omega)), ?_⟩; conv => whnf)
      | (refine ⟨(_ : Nat), rfl, (show (_ : Nat) ≤ _ by first | omega | (dsimp only; omega)), ?_⟩; conv => whnf)
      | (refine ⟨(_ : Nat), wrap_pred (by omega), (show (_ : Nat) < _ by first | omega | (dsimp only; omega)), ?_⟩; conv => whnf)
      | (refine ⟨(0 : Nat), rfl, Nat.le_of_ble_eq_true rfl, ?_⟩; conv => whnf)
      | (refine ⟨(1 : Nat), rfl, Nat.le_of_ble_eq_true rfl, ?_⟩; conv => whnf)
      | (refine ⟨(2 : Nat), rfl, Nat.le_of_ble_eq_true rfl, ?_⟩; conv => whnf))
    refine ⟨_, ac53 _, rfl, ?_⟩
    conv => whnf
    refine Bc_intro (fun hq => ?_) (fun hq => ?_)
    · have hq : negB (xs.getD k 0) = true := hq
      conv => whnf
      refine ⟨rfl, ?_⟩
      show AV.int .i64 (k : Int) = _
      rw [firstNeg, findIdx_at 0 (by omega) hk2 hq]
    · have hq : negB (xs.getD k 0) = false := hq
      conv => whnf
      refine ⟨k + 1, ⟨by omega, fun x hx => ?_⟩, (by show xs.length - (k + 1) < xs.length - k; omega), ?_, rfl, rfl, rfl⟩
      · rw [take_snoc 0 (by omega)] at hx
        rcases List.mem_append.1 hx with h1 | h1
        · exact hk2 x h1
        · rw [List.mem_singleton] at h1; rw [h1]; exact hq
      · exact V4 (wrap_succ (k := k) (n := 9223372036854775807) (by omega) (by omega))
  · have hb : ¬ (k : Int) < xs.length := of_decide_eq_false hb
    conv => whnf
    refine ⟨rfl, ?_⟩
    have : k = xs.length := by omega
    subst this
    rw [List.take_length] at hk2
    have : xs.findIdx? (negB) = none := List.findIdx?_eq_none_iff.2 (by simpa using hk2)
    rw [firstNeg, this]; rfl


def nn (p : List Int) : List Int := p.filter fun x => !negB x
theorem drop_getD {c d : List Int} {j : Nat} (h : c.drop j = d.drop j) (i : Nat) (hi : j ≤ i) : c.getD i 0 = d.getD i 0 := by
  have e : c[i]? = d[i]? := by
    have h1 : (c.drop j)[i - j]? = (d.drop j)[i - j]? := by rw [h]
    rw [List.getElem?_drop, List.getElem?_drop] at h1
    have : j + (i - j) = i := by omega
    rw [this] at h1; exact h1
  rw [List.getD_eq_getElem?_getD, List.getD_eq_getElem?_getD, e]
theorem drop_more {c d : List Int} {j k : Nat} (h : c.drop j = d.drop j) (hk : j ≤ k) : c.drop k = d.drop k := by
  have e : ∀ x : List Int, x.drop k = (x.drop j).drop (k - j) := fun x => by rw [List.drop_drop]; congr 1; omega
  rw [e c, e d, h]
theorem nn_id {p : List Int} (h : ∀ x ∈ p, negB x = false) : nn p = p := by
  rw [nn, List.filter_eq_self]; intro x hx; rw [h x hx]; rfl
theorem nn_le (p : List Int) : (nn p).length ≤ p.length := List.length_filter_le _ _
theorem nn_snoc (p : List Int) (x : Int) : nn (p ++ [x]) = if negB x = true then nn p else nn p ++ [x] := by
  simp only [nn, List.filter_append, List.filter_cons, List.filter_nil]
  cases negB x <;> simp
theorem clear_mid {c : List Int} {i m : Nat} (hi : i ≤ m) : setND (ints c) i (List.replicate (m - i) (D.int .i64 0)) = ints (c.take i ++ List.replicate (m - i) 0 ++ c.drop m) := by
  rw [setND, List.length_replicate]
  have : i + (m - i) = m := by omega
  rw [this]
  simp [ints, List.map_take, List.map_drop]
theorem VV2 {x y : AV} {k k' : IntKind} {a b a' b' : Int} (h : a = b) (h' : a' = b') : [x, y, AV.int k a, AV.int k' a'] = [x, y, AV.int k b, AV.int k' b'] := by rw [h, h']

theorem aio51a (p : List Int) (hn : p.length ≤ 1048576) :
    ((∀ x ∈ p, negB x = false) ∧ AIO Tryz.prog 51 true [.ow 0 p.length, .fn 53 []] 3 (ints (p)) (.ow 0 p.length) true (ints (p))) ∨
    (AIO Tryz.prog 51 true [.ow 0 p.length, .fn 53 []] 3 (ints (p)) (.os 0 0 (nn p).length) true (ints (nn p ++ List.replicate (p.length - (nn p).length) 0 ++ []))) := by
  have hA := ac68n p
  cases hf : p.findIdx? negB with
  | none =>
    have hnone : ∀ x ∈ p, negB x = false := List.findIdx?_eq_none_iff.1 hf
    refine .inl ⟨hnone, ?_⟩
    have hfi : firstNeg p = -1 := by rw [firstNeg, hf]
    rw [hfi] at hA
    refine AIO_of_awp (E := env 42 [] [] 1) (env_ok _ _ _ _) mixed Tryz.call51 Tryz.func51 (code := body51) rfl rfl (by kernel_rfl) (Nat.le_of_ble_eq_true rfl) (fun _ => rfl) fun hl hlc => ?_
    conv => whnf
    clear hl hlc
    
    refine ⟨_, hA, rfl, ?_⟩
    conv => whnf
    exact ⟨rfl, rfl, rfl⟩
  | some k =>
    refine .inr ?_
    have hfi : firstNeg p = (k : Int) := by rw [firstNeg, hf]
    rw [hfi] at hA
    obtain ⟨hk, hkn, hkb⟩ := List.findIdx?_eq_some_iff_getElem.1 hf
    have htk : nn (p.take k) = p.take k := nn_id fun x hx => by
      obtain ⟨i, hi, rfl⟩ := List.mem_iff_getElem.1 hx
      have hi2 : i < k := by simp at hi; omega
      have := hkb i hi2
      rw [List.getElem_take]
      cases hq : negB p[i]
      · rfl
      · exact absurd hq this
    have hgk : p.getD k 0 = p[k] := by simp [hk]
    refine AIO_of_awp (E := env 42 [] [] 1) (env_ok _ _ _ _) mixed Tryz.call51 Tryz.func51 (code := body51) rfl rfl (by kernel_rfl) (Nat.le_of_ble_eq_true rfl) (fun _ => rfl) fun hl hlc => ?_
    conv => whnf
    clear hl hlc
    
    refine ⟨_, hA, rfl, ?_⟩
    conv => whnf
    have hpre : (p.take (k + 1)).length = k + 1 := by simp; omega
    refine ⟨Nat × Nat × List Int, [], [0, 1, 5, 6], fun a => [.ow 0 p.length, .fn 53 [], .int .i64 (a.1 : Int), .int .i64 (a.2.1 : Int)], fun a => [some (.row 3 true (ints a.2.2))],
      fun a => a.1 ≤ a.2.1 ∧ a.2.1 ≤ p.length ∧ a.1 < a.2.1 ∧ a.2.2.length = (p).length ∧ a.2.2.take a.1 = nn (p.take a.2.1) ∧ a.1 = (nn (p.take a.2.1)).length ∧ a.2.2.drop a.2.1 = (p).drop a.2.1,
      fun a => p.length - a.2.1, 1, fun _ => rfl, rfl,
      ⟨_, (k, k + 1, p), rfl, ⟨by show k ≤ k + 1; omega, by show k + 1 ≤ p.length; omega, by show k < k + 1; omega, rfl, ?_, ?_, rfl⟩, ?_, rfl, rfl, rfl⟩, fun a ha => ?_⟩
    · show (p).take k = nn (p.take (k + 1))
      rw [take_getD hk, nn_snoc, hgk, if_pos hkn, htk]
      
    · show k = (nn (p.take (k + 1))).length
      rw [take_getD hk, nn_snoc, hgk, if_pos hkn, htk, List.length_take]; omega
    · exact V4 (wrap_succ (k := k) (n := 9223372036854775807) (by omega) (by omega))
    obtain ⟨i, j, c⟩ := a
    obtain ⟨i1, i2, i3, i4, i5, i6, i7⟩ := ha
    simp only at i1 i2 i3 i4 i5 i6 i7
    
    conv => whnf
    refine Bc_intro (fun h => ?_) (fun h => ?_)
    · have h : (j : Int) < (p.length : Int) := of_decide_eq_true h
      have hrd : c.getD j 0 = p.getD j 0 := by
        rw [drop_getD i7 j (Nat.le_refl _)]
        
      have hts := take_getD (c := p) (k := j) (by omega)
      have hns := nn_snoc (p.take j) (p.getD j 0)
      rw [← hts] at hns
      conv => whnf
      repeat (first
        | (refine ⟨_, ints_m rfl (by first | omega | (dsimp only; omega)), ?_⟩; conv => whnf)
        | (refine ⟨_, ints_p rfl (by first | omega | (dsimp only; omega)), ?_⟩; conv => whnf)
        | (refine ⟨_, rows_m rfl (by first | omega | (dsimp only; omega)), ?_⟩; conv => whnf)
        | (refine ⟨(D.int .i64 _ : D), rfl, ?_⟩; conv => whnf)
        | (refine ⟨(_ : Nat), rfl, (show (_ : Nat) < _ by first | omega | (dsimp only; omega)), ?_⟩; conv => whnf)
        | (refine ⟨(_ : Nat), rfl, (show (_ : Nat) ≤ _ by first | omega | (dsimp only; omega)), ?_⟩; conv => whnf)
        | (refine ⟨(_ : Nat), wrap_pred (by omega), (show (_ : Nat) < _ by first | omega | (dsimp only; omega)), ?_⟩; conv => whnf)
        | (refine ⟨(0 : Nat), rfl, Nat.le_of_ble_eq_true rfl, ?_⟩; conv => whnf)
        | (refine ⟨(1 : Nat), rfl, Nat.le_of_ble_eq_true rfl, ?_⟩; conv => whnf)
        | (refine ⟨(2 : Nat), rfl, Nat.le_of_ble_eq_true rfl, ?_⟩; conv => whnf))
      refine ⟨_, ac53 (c.getD j 0), rfl, ?_⟩
      conv => whnf
      refine Bc_intro (fun hq => ?_) (fun hq => ?_)
      · have hq : negB (p.getD j 0) = false := by rw [← hrd]; exact not_t hq
        rw [hq] at hns
        have hns : nn (p.take (j + 1)) = nn (p.take j) ++ [p.getD j 0] := hns
        conv => whnf
        repeat (first
          | (refine ⟨_, ints_m rfl (by first | omega | (dsimp only; omega)), ?_⟩; conv => whnf)
          | (refine ⟨_, ints_p rfl (by first | omega | (dsimp only; omega)), ?_⟩; conv => whnf)
          | (refine ⟨_, rows_m rfl (by first | omega | (dsimp only; omega)), ?_⟩; conv => whnf)
          | (refine ⟨(D.int .i64 _ : D), rfl, ?_⟩; conv => whnf)
          | (refine ⟨(_ : Nat), rfl, (show (_ : Nat) < _ by first | omega | (dsimp only; omega)), ?_⟩; conv => whnf)
          | (refine ⟨(_ : Nat), rfl, (show (_ : Nat) ≤ _ by first | omega | (dsimp only; omega)), ?_⟩; conv => whnf)
          | (refine ⟨(_ : Nat), wrap_pred (by omega), (show (_ : Nat) < _ by first | omega | (dsimp only; omega)), ?_⟩; conv => whnf)
          | (refine ⟨(0 : Nat), rfl, Nat.le_of_ble_eq_true rfl, ?_⟩; conv => whnf)
          | (refine ⟨(1 : Nat), rfl, Nat.le_of_ble_eq_true rfl, ?_⟩; conv => whnf)
          | (refine ⟨(2 : Nat), rfl, Nat.le_of_ble_eq_true rfl, ?_⟩; conv => whnf))
        refine ⟨(show i + 1 ≤ (ints c).length by rw [ints_len]; omega), ?_⟩
        conv => whnf
        refine ⟨(i + 1, j + 1, c.set i (c.getD j 0)), ⟨by show i + 1 ≤ j + 1; omega, by show j + 1 ≤ p.length; omega, by show i + 1 < j + 1; omega, ?_, ?_, ?_, ?_⟩, (by show p.length - (j + 1) < p.length - j; omega), ?_, ?_, rfl, rfl⟩
        · show (c.set i _).length = _
          simp [i4]
        · show (c.set i _).take (i + 1) = _
          rw [take_set (by omega), i5, hns, hrd]
        · show i + 1 = (nn (p.take (j + 1))).length
          rw [hns, List.length_append, ← i6]; rfl
        · show (c.set i _).drop (j + 1) = _
          rw [List.drop_set_of_lt (by omega)]
          exact drop_more i7 (by omega)
        · exact VV2 (wrap_succ (k := i) (n := 9223372036854775807) (by omega) (by omega)) (wrap_succ (k := j) (n := 9223372036854775807) (by omega) (by omega))
        · have e : setND (ints c) i [D.int .i64 (c.getD j 0)] = ints (c.set i (c.getD j 0)) := ints_set (by omega)
          exact row1 e
      · have hq : negB (p.getD j 0) = true := by rw [← hrd]; exact not_f hq
        rw [hq, if_pos rfl] at hns
        conv => whnf
        refine ⟨(i, j + 1, c), ⟨by show i ≤ j + 1; omega, by show j + 1 ≤ p.length; omega, by show i < j + 1; omega, ?_, ?_, ?_, ?_⟩, (by show p.length - (j + 1) < p.length - j; omega), ?_, rfl, rfl, rfl⟩
        · show c.length = _
          simpa using i4
        · show c.take i = _
          rw [i5, hns]
        · show i = (nn (p.take (j + 1))).length
          rw [hns, ← i6]
        · exact drop_more i7 (show j ≤ j + 1 by omega)
        · exact V4 (wrap_succ (k := j) (n := 9223372036854775807) (show j < 9223372036854775807 by omega) (by omega))
    · have h : ¬ (j : Int) < (p.length : Int) := of_decide_eq_false h
      have : j = p.length := by omega
      subst this
      rw [List.take_length] at i5 i6
      conv => whnf
      repeat (first
        | (refine ⟨_, ints_m rfl (by first | omega | (dsimp only; omega)), ?_⟩; conv => whnf)
        | (refine ⟨_, ints_p rfl (by first | omega | (dsimp only; omega)), ?_⟩; conv => whnf)
        | (refine ⟨_, rows_m rfl (by first | omega | (dsimp only; omega)), ?_⟩; conv => whnf)
        | (refine ⟨(D.int .i64 _ : D), rfl, ?_⟩; conv => whnf)
        | (refine ⟨(_ : Nat), rfl, (show (_ : Nat) < _ by first | omega | (dsimp only; omega)), ?_⟩; conv => whnf)
        | (refine ⟨(_ : Nat), rfl, (show (_ : Nat) ≤ _ by first | omega | (dsimp only; omega)), ?_⟩; conv => whnf)
        | (refine ⟨(_ : Nat), wrap_pred (by omega), (show (_ : Nat) < _ by first | omega | (dsimp only; omega)), ?_⟩; conv => whnf)
        | (refine ⟨(0 : Nat), rfl, Nat.le_of_ble_eq_true rfl, ?_⟩; conv => whnf)
        | (refine ⟨(1 : Nat), rfl, Nat.le_of_ble_eq_true rfl, ?_⟩; conv => whnf)
        | (refine ⟨(2 : Nat), rfl, Nat.le_of_ble_eq_true rfl, ?_⟩; conv => whnf))
      refine ⟨(show i + (List.replicate (p.length - i) (D.int .i64 0)).length ≤ (ints c).length by rw [ints_len, List.length_replicate]; omega), ?_⟩
      conv => whnf
      repeat (first
        | (refine ⟨_, ints_m rfl (by first | omega | (dsimp only; omega)), ?_⟩; conv => whnf)
        | (refine ⟨_, ints_p rfl (by first | omega | (dsimp only; omega)), ?_⟩; conv => whnf)
        | (refine ⟨_, rows_m rfl (by first | omega | (dsimp only; omega)), ?_⟩; conv => whnf)
        | (refine ⟨(D.int .i64 _ : D), rfl, ?_⟩; conv => whnf)
        | (refine ⟨(_ : Nat), rfl, (show (_ : Nat) < _ by first | omega | (dsimp only; omega)), ?_⟩; conv => whnf)
        | (refine ⟨(_ : Nat), rfl, (show (_ : Nat) ≤ _ by first | omega | (dsimp only; omega)), ?_⟩; conv => whnf)
        | (refine ⟨(_ : Nat), wrap_pred (by omega), (show (_ : Nat) < _ by first | omega | (dsimp only; omega)), ?_⟩; conv => whnf)
        | (refine ⟨(0 : Nat), rfl, Nat.le_of_ble_eq_true rfl, ?_⟩; conv => whnf)
        | (refine ⟨(1 : Nat), rfl, Nat.le_of_ble_eq_true rfl, ?_⟩; conv => whnf)
        | (refine ⟨(2 : Nat), rfl, Nat.le_of_ble_eq_true rfl, ?_⟩; conv => whnf))
      refine ⟨?_, rfl, ?_⟩
      · show AV.os 0 0 i = _
        rw [i6]
      · show some (Blk.row 3 true (setND (ints c) i (List.replicate (p.length - i) (D.int .i64 0)))) = _
        rw [clear_mid (by omega), i5, i7, ← i6]
        rw [List.drop_length]

theorem aio51b (p q : List Int) (hn : p.length + q.length ≤ 1048576) :
    ((∀ x ∈ p, negB x = false) ∧ AIO Tryz.prog 51 true [.os 0 0 p.length, .fn 53 []] 3 (ints (p ++ q)) (.os 0 0 p.length) true (ints (p ++ q))) ∨
    (AIO Tryz.prog 51 true [.os 0 0 p.length, .fn 53 []] 3 (ints (p ++ q)) (.os 0 0 (nn p).length) true (ints (nn p ++ List.replicate (p.length - (nn p).length) 0 ++ q))) := by
  have hce : ((ints (p ++ q)).drop 0).take (mulS p.length 1) = ints p := by
    show (ints (p ++ q)).take p.length = _
    rw [ints_append, ← ints_len (xs := p), List.take_left]
  have hA := ac68n p
  cases hf : p.findIdx? negB with
  | none =>
    have hnone : ∀ x ∈ p, negB x = false := List.findIdx?_eq_none_iff.1 hf
    refine .inl ⟨hnone, ?_⟩
    have hfi : firstNeg p = -1 := by rw [firstNeg, hf]
    rw [hfi] at hA
    refine AIO_of_awp (E := env 42 [] [] 1) (env_ok _ _ _ _) mixed Tryz.call51 Tryz.func51 (code := body51) rfl rfl (by kernel_rfl) (Nat.le_of_ble_eq_true rfl) (fun _ => rfl) fun hl hlc => ?_
    conv => whnf
    clear hl hlc
    rw [← hce] at hA
    refine ⟨_, hA, rfl, ?_⟩
    conv => whnf
    exact ⟨rfl, rfl, rfl⟩
  | some k =>
    refine .inr ?_
    have hfi : firstNeg p = (k : Int) := by rw [firstNeg, hf]
    rw [hfi] at hA
    obtain ⟨hk, hkn, hkb⟩ := List.findIdx?_eq_some_iff_getElem.1 hf
    have htk : nn (p.take k) = p.take k := nn_id fun x hx => by
      obtain ⟨i, hi, rfl⟩ := List.mem_iff_getElem.1 hx
      have hi2 : i < k := by simp at hi; omega
      have := hkb i hi2
      rw [List.getElem_take]
      cases hq : negB p[i]
      · rfl
      · exact absurd hq this
    have hgk : p.getD k 0 = p[k] := by simp [hk]
    refine AIO_of_awp (E := env 42 [] [] 1) (env_ok _ _ _ _) mixed Tryz.call51 Tryz.func51 (code := body51) rfl rfl (by kernel_rfl) (Nat.le_of_ble_eq_true rfl) (fun _ => rfl) fun hl hlc => ?_
    conv => whnf
    clear hl hlc
    rw [← hce] at hA
    refine ⟨_, hA, rfl, ?_⟩
    conv => whnf
    have hpre : (p.take (k + 1)).length = k + 1 := by simp; omega
    refine ⟨Nat × Nat × List Int, [], [0, 1, 5, 6], fun a => [.os 0 0 p.length, .fn 53 [], .int .i64 (a.1 : Int), .int .i64 (a.2.1 : Int)], fun a => [some (.row 3 true (ints a.2.2))],
      fun a => a.1 ≤ a.2.1 ∧ a.2.1 ≤ p.length ∧ a.1 < a.2.1 ∧ a.2.2.length = (p ++ q).length ∧ a.2.2.take a.1 = nn (p.take a.2.1) ∧ a.1 = (nn (p.take a.2.1)).length ∧ a.2.2.drop a.2.1 = (p ++ q).drop a.2.1,
      fun a => p.length - a.2.1, 1, fun _ => rfl, rfl,
      ⟨_, (k, k + 1, p ++ q), rfl, ⟨by show k ≤ k + 1; omega, by show k + 1 ≤ p.length; omega, by show k < k + 1; omega, rfl, ?_, ?_, rfl⟩, ?_, rfl, rfl, rfl⟩, fun a ha => ?_⟩
    · show (p ++ q).take k = nn (p.take (k + 1))
      rw [take_getD hk, nn_snoc, hgk, if_pos hkn, htk]
      rw [List.take_append_of_le_length (by omega)]
    · show k = (nn (p.take (k + 1))).length
      rw [take_getD hk, nn_snoc, hgk, if_pos hkn, htk, List.length_take]; omega
    · exact V4 (wrap_succ (k := k) (n := 9223372036854775807) (by omega) (by omega))
    obtain ⟨i, j, c⟩ := a
    obtain ⟨i1, i2, i3, i4, i5, i6, i7⟩ := ha
    simp only at i1 i2 i3 i4 i5 i6 i7
    rw [List.length_append] at i4
    conv => whnf
    refine Bc_intro (fun h => ?_) (fun h => ?_)
    · have h : (j : Int) < (p.length : Int) := of_decide_eq_true h
      have hrd : c.getD (0 + j) 0 = p.getD j 0 := by
        rw [Nat.zero_add, drop_getD i7 j (Nat.le_refl _)]
        rw [List.getD_eq_getElem?_getD, List.getD_eq_getElem?_getD, List.getElem?_append_left (by omega)]
      have hts := take_getD (c := p) (k := j) (by omega)
      have hns := nn_snoc (p.take j) (p.getD j 0)
      rw [← hts] at hns
      conv => whnf
      repeat (first
        | (refine ⟨_, ints_m rfl (by first | omega | (dsimp only; omega)), ?_⟩; conv => whnf)
        | (refine ⟨_, ints_p rfl (by first | omega | (dsimp only; omega)), ?_⟩; conv => whnf)
        | (refine ⟨_, rows_m rfl (by first | omega | (dsimp only; omega)), ?_⟩; conv => whnf)
        | (refine ⟨(D.int .i64 _ : D), rfl, ?_⟩; conv => whnf)
        | (refine ⟨(_ : Nat), rfl, (show (_ : Nat) < _ by first | omega | (dsimp only; omega)), ?_⟩; conv => whnf)
        | (refine ⟨(_ : Nat), rfl, (show (_ : Nat) ≤ _ by first | omega | (dsimp only; omega)), ?_⟩; conv => whnf)
        | (refine ⟨(_ : Nat), wrap_pred (by omega), (show (_ : Nat) < _ by first | omega | (dsimp only; omega)), ?_⟩; conv => whnf)
        | (refine ⟨(0 : Nat), rfl, Nat.le_of_ble_eq_true rfl, ?_⟩; conv => whnf)
        | (refine ⟨(1 : Nat), rfl, Nat.le_of_ble_eq_true rfl, ?_⟩; conv => whnf)
        | (refine ⟨(2 : Nat), rfl, Nat.le_of_ble_eq_true rfl, ?_⟩; conv => whnf))
      refine ⟨_, ac53 (c.getD (0 + j) 0), rfl, ?_⟩
      conv => whnf
      refine Bc_intro (fun hq => ?_) (fun hq => ?_)
      · have hq : negB (p.getD j 0) = false := by rw [← hrd]; exact not_t hq
        rw [hq] at hns
        have hns : nn (p.take (j + 1)) = nn (p.take j) ++ [p.getD j 0] := hns
        conv => whnf
        repeat (first
          | (refine ⟨_, ints_m rfl (by first | omega | (dsimp only; omega)), ?_⟩; conv => whnf)
          | (refine ⟨_, ints_p rfl (by first | omega | (dsimp only; omega)), ?_⟩; conv => whnf)
          | (refine ⟨_, rows_m rfl (by first | omega | (dsimp only; omega)), ?_⟩; conv => whnf)
          | (refine ⟨(D.int .i64 _ : D), rfl, ?_⟩; conv => whnf)
          | (refine ⟨(_ : Nat), rfl, (show (_ : Nat) < _ by first | omega | (dsimp only; omega)), ?_⟩; conv => whnf)
          | (refine ⟨(_ : Nat), rfl, (show (_ : Nat) ≤ _ by first | omega | (dsimp only; omega)), ?_⟩; conv => whnf)
          | (refine ⟨(_ : Nat), wrap_pred (by omega), (show (_ : Nat) < _ by first | omega | (dsimp only; omega)), ?_⟩; conv => whnf)
          | (refine ⟨(0 : Nat), rfl, Nat.le_of_ble_eq_true rfl, ?_⟩; conv => whnf)
          | (refine ⟨(1 : Nat), rfl, Nat.le_of_ble_eq_true rfl, ?_⟩; conv => whnf)
          | (refine ⟨(2 : Nat), rfl, Nat.le_of_ble_eq_true rfl, ?_⟩; conv => whnf))
        refine ⟨(show (0 + i) + 1 ≤ (ints c).length by rw [ints_len]; omega), ?_⟩
        conv => whnf
        refine ⟨(i + 1, j + 1, c.set i (c.getD (0 + j) 0)), ⟨by show i + 1 ≤ j + 1; omega, by show j + 1 ≤ p.length; omega, by show i + 1 < j + 1; omega, ?_, ?_, ?_, ?_⟩, (by show p.length - (j + 1) < p.length - j; omega), ?_, ?_, rfl, rfl⟩
        · show (c.set i _).length = _
          simp [i4]
        · show (c.set i _).take (i + 1) = _
          rw [take_set (by omega), i5, hns, hrd]
        · show i + 1 = (nn (p.take (j + 1))).length
          rw [hns, List.length_append, ← i6]; rfl
        · show (c.set i _).drop (j + 1) = _
          rw [List.drop_set_of_lt (by omega)]
          exact drop_more i7 (by omega)
        · exact VV2 (wrap_succ (k := i) (n := 9223372036854775807) (by omega) (by omega)) (wrap_succ (k := j) (n := 9223372036854775807) (by omega) (by omega))
        · have e : setND (ints c) (0 + i) [D.int .i64 (c.getD (0 + j) 0)] = ints (c.set i (c.getD (0 + j) 0)) := by rw [Nat.zero_add i]; exact ints_set (by omega)
          exact row1 e
      · have hq : negB (p.getD j 0) = true := by rw [← hrd]; exact not_f hq
        rw [hq, if_pos rfl] at hns
        conv => whnf
        refine ⟨(i, j + 1, c), ⟨by show i ≤ j + 1; omega, by show j + 1 ≤ p.length; omega, by show i < j + 1; omega, ?_, ?_, ?_, ?_⟩, (by show p.length - (j + 1) < p.length - j; omega), ?_, rfl, rfl, rfl⟩
        · show c.length = _
          simpa using i4
        · show c.take i = _
          rw [i5, hns]
        · show i = (nn (p.take (j + 1))).length
          rw [hns, ← i6]
        · exact drop_more i7 (show j ≤ j + 1 by omega)
        · exact V4 (wrap_succ (k := j) (n := 9223372036854775807) (show j < 9223372036854775807 by omega) (by omega))
    · have h : ¬ (j : Int) < (p.length : Int) := of_decide_eq_false h
      have : j = p.length := by omega
      subst this
      rw [List.take_length] at i5 i6
      conv => whnf
      repeat (first
        | (refine ⟨_, ints_m rfl (by first | omega | (dsimp only; omega)), ?_⟩; conv => whnf)
        | (refine ⟨_, ints_p rfl (by first | omega | (dsimp only; omega)), ?_⟩; conv => whnf)
        | (refine ⟨_, rows_m rfl (by first | omega | (dsimp only; omega)), ?_⟩; conv => whnf)
        | (refine ⟨(D.int .i64 _ : D), rfl, ?_⟩; conv => whnf)
        | (refine ⟨(_ : Nat), rfl, (show (_ : Nat) < _ by first | omega | (dsimp only; omega)), ?_⟩; conv => whnf)
        | (refine ⟨(_ : Nat), rfl, (show (_ : Nat) ≤ _ by first | omega | (dsimp only; omega)), ?_⟩; conv => whnf)
        | (refine ⟨(_ : Nat), wrap_pred (by omega), (show (_ : Nat) < _ by first | omega | (dsimp only; omega)), ?_⟩; conv => whnf)
        | (refine ⟨(0 : Nat), rfl, Nat.le_of_ble_eq_true rfl, ?_⟩; conv => whnf)
        | (refine ⟨(1 : Nat), rfl, Nat.le_of_ble_eq_true rfl, ?_⟩; conv => whnf)
        | (refine ⟨(2 : Nat), rfl, Nat.le_of_ble_eq_true rfl, ?_⟩; conv => whnf))
      refine ⟨(show 0 + i + (List.replicate (p.length - i) (D.int .i64 0)).length ≤ (ints c).length by rw [ints_len, List.length_replicate]; omega), ?_⟩
      conv => whnf
      repeat (first
        | (refine ⟨_, ints_m rfl (by first | omega | (dsimp only; omega)), ?_⟩; conv => whnf)
        | (refine ⟨_, ints_p rfl (by first | omega | (dsimp only; omega)), ?_⟩; conv => whnf)
        | (refine ⟨_, rows_m rfl (by first | omega | (dsimp only; omega)), ?_⟩; conv => whnf)
        | (refine ⟨(D.int .i64 _ : D), rfl, ?_⟩; conv => whnf)
        | (refine ⟨(_ : Nat), rfl, (show (_ : Nat) < _ by first | omega | (dsimp only; omega)), ?_⟩; conv => whnf)
        | (refine ⟨(_ : Nat), rfl, (show (_ : Nat) ≤ _ by first | omega | (dsimp only; omega)), ?_⟩; conv => whnf)
        | (refine ⟨(_ : Nat), wrap_pred (by omega), (show (_ : Nat) < _ by first | omega | (dsimp only; omega)), ?_⟩; conv => whnf)
        | (refine ⟨(0 : Nat), rfl, Nat.le_of_ble_eq_true rfl, ?_⟩; conv => whnf)
        | (refine ⟨(1 : Nat), rfl, Nat.le_of_ble_eq_true rfl, ?_⟩; conv => whnf)
        | (refine ⟨(2 : Nat), rfl, Nat.le_of_ble_eq_true rfl, ?_⟩; conv => whnf))
      refine ⟨?_, rfl, ?_⟩
      · show AV.os 0 0 i = _
        rw [i6]
      · show some (Blk.row 3 true (setND (ints c) (0 + i) (List.replicate (p.length - i) (D.int .i64 0)))) = _
        rw [Nat.zero_add i, clear_mid (by omega), i5, i7, ← i6]
        rw [List.drop_left]
end Go.Qt
