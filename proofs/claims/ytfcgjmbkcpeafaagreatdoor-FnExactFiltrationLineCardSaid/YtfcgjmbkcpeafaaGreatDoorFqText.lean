/- PROVED: for every input the law FnExactFiltrationLine returns true and each argument reads afterwards as it read before (the statement 'FnExactFiltrationLineCardSaid' of the given Rows).
Conditions: none beyond those which the given statement itself names. This text is one part of the proof. -/
import Derived.Test.YtfcgjmbkcpeafaaGreatDoorFpText

namespace Go.Qt
open Go Go.Qv Go.Proofs
noncomputable def body24 : Code := match Tryz.f24.body with | some b => b | none => .skip
set_option maxHeartbeats 4000000
set_option maxRecDepth 100000

def strs (xs : List (List UInt8)) : List D := xs.map D.str
theorem strs_len {xs : List (List UInt8)} : (strs xs).length = xs.length := by simp [strs]
theorem strs_append (a b : List (List UInt8)) : strs (a ++ b) = strs a ++ strs b := by simp [strs]
def sp : List UInt8 := [32]
theorem digI_nat {n : Nat} (h : n ≤ 9) : [digI (n : Int)] = dig n := by
  rw [digI, clampI_nat h, dig]
  congr 2
theorem dig_len (n : Nat) : (dig n).length = 1 := rfl
theorem barText_len (x : Bar) : (barText x).length = 5 := by simp [barText, dig]
theorem clampI_cl (n : Nat) : clampI n = cl n := by
  unfold clampI cl imin imax
  split <;> split <;> omega
theorem ac23n (n : Nat) : AC Tryz.prog 23 [.rs true false [D.int .i64 (n : Int)] 1] (.str (dig (cl n))) := by
  have := ac23 [(n : Int)] (Nat.le_of_ble_eq_true rfl)
  have e : [(n : Int)].map digI = dig (cl n) := by
    show [digI (n : Int)] = _
    rw [digI, clampI_cl, dig]
    congr 2
  rw [e] at this
  exact this
theorem V5o {x y : AV} {i n m : Nat} {k : IntKind} {a b : Int} (h : n = m) (h' : a = b) : [AV.ow i n, x, y, AV.int k a] = [AV.ow i m, x, y, AV.int k b] := by rw [h, h']
theorem ac24 (l : List Bar) (hn : l.length ≤ 20) (txt : List UInt8) (hj : l ≠ [] → AC Tryz.prog 21 [.rs true false (strs (l.map barText)) (l.map barText).length, .str sp] (.str txt)) (ht : l = [] → txt = [110, 111, 110, 101]) :
    AC Tryz.prog 24 [.rs true false (barsD l) l.length] (.str txt) := by
  refine AC_of_awp (E := env 38 [] [] 0) (env_ok _ _ _ _) mixed Tryz.call24 Tryz.func24 (code := body24) rfl rfl (by kernel_rfl) (Nat.le_of_ble_eq_true rfl) fun hl => ?_
  conv => whnf
  refine ⟨_, ac42 _ _ _, rfl, ?_⟩
  conv => whnf
  refine Bc_intro (fun h => ?_) (fun h => ?_)
  · have h : decide (1 ≤ (l.length : Int) ∧ (l.length : Int) ≤ 20) = false := not_t h
    have h0 : l = [] := by
      have : ¬ (1 ≤ (l.length : Int) ∧ (l.length : Int) ≤ 20) := of_decide_eq_false h
      exact List.eq_nil_of_length_eq_zero (by omega)
    conv => whnf
    refine ⟨rfl, ?_⟩
    rw [ht h0]; rfl
  have h : 1 ≤ (l.length : Int) ∧ (l.length : Int) ≤ 20 := of_decide_eq_true (not_f h)
  have hne : l ≠ [] := by intro e; subst e; simp at h
  conv => whnf
  refine ⟨Nat, [.slot 3 9 false], [3, 10, 11, 12], fun k => [.ow 0 k, .rs true false (barsD l) l.length, .int .i64 l.length, .int .i64 (k : Int)], fun k => [some (.row 9 false (strs ((l.take k).map barText)))], fun k => k ≤ l.length, fun k => l.length - k, 1, fun _ => rfl, rfl,
      ⟨_, 0, rfl, Nat.zero_le _, rfl, rfl, rfl, rfl⟩, fun k hk => ?_⟩
  have hk : k ≤ l.length := hk
  conv => whnf
  refine Bc_intro (fun hkb => ?_) (fun hkb => ?_)
  · have hkb : (k : Int) < l.length := of_decide_eq_true hkb
    have hlt : k < l.length := by omega
    have htk : l.take (k + 1) = l.take k ++ [l.getD k (0, 0, 0)] := by rw [List.take_add_one]; simp [hlt]
    conv => whnf
    repeat (first
      | (refine ⟨_, ints_m rfl (by first | omega | (dsimp only; omega)), ?_⟩; conv => whnf)
      | (refine ⟨_, ints_p rfl (by first | omega | (dsimp only; omega)), ?_⟩; conv => whnf)
      | (refine ⟨_, rows_m rfl (by first | omega | (dsimp only; omega)), ?_⟩; conv => whnf)
      | (refine ⟨(D.int .i64 _ : D), rfl, ?_⟩; conv => whnf)
      | (refine ⟨(_ : Nat), rfl, (show (_ : Nat) < _ by first | omega | (dsimp only; omega)), ?_⟩; conv => whnf)
      | (refine ⟨(_ : Nat), rfl, (show (_ : Nat) ≤ _ by first | omega | (dsimp only; omega)), ?_⟩; conv => whnf)
      | (refine ⟨(_ : Nat), wrap_pred (by omega), (show (_ : Nat) < _ by first | omega | (dsimp only; omega)), ?_⟩; conv => whnf)
      | (refine ⟨(0 : Nat), rfl, Nat.le_of_ble_eq_true rfl, ?_⟩; conv => whnf)
      | (refine ⟨(1 : Nat), rfl, Nat.le_of_ble_eq_true rfl, ?_⟩; conv => whnf)
      | (refine ⟨(2 : Nat), rfl, Nat.le_of_ble_eq_true rfl, ?_⟩; conv => whnf))
    refine ⟨_, bars_getN (k := k) hlt, ?_⟩
    conv => whnf
    refine ⟨_, ac23n _, rfl, ?_⟩
    conv => whnf
    refine ⟨intLim_of' (show 1 + 1 ≤ 9223372036854775807 by omega), ?_⟩
    conv => whnf
    refine ⟨_, ac23n _, rfl, ?_⟩
    conv => whnf
    refine ⟨intLim_of' (show 2 + 1 ≤ 9223372036854775807 by omega), ?_⟩
    conv => whnf
    refine ⟨intLim_of' (show 3 + 1 ≤ 9223372036854775807 by omega), ?_⟩
    conv => whnf
    refine ⟨_, ac23n _, rfl, ?_⟩
    conv => whnf
    refine ⟨intLim_of' (show 4 + 1 ≤ 9223372036854775807 by omega), ?_⟩
    conv => whnf
    refine ⟨false, .inr (.inl rfl), .inr (.inl rfl), rfl, sizeLim_of (show (k + 1) * 16 ≤ _ by omega), intLim_of' (show k + 1 ≤ 9223372036854775807 by omega), ?_⟩
    conv => whnf
    refine ⟨k + 1, hlt, (by show l.length - (k + 1) < l.length - k; omega), ?_, ?_, rfl, rfl⟩
    · exact V5o rfl (wrap_succ (k := k) (n := 9223372036854775807) (by omega) (by omega))
    · have e : strs ((l.take k).map barText) ++ [D.str (barText (l.getD k (0, 0, 0)))] = strs ((l.take (k + 1)).map barText) := by
        rw [htk, List.map_append, strs_append]; rfl
      exact row1 e
  · have hkb : ¬ (k : Int) < l.length := of_decide_eq_false hkb
    have : k = l.length := by omega
    subst this
    conv => whnf
    have hj := hj hne
    rw [List.length_map] at hj
    have e : strs ((l.take l.length).map barText) = strs (l.map barText) := by rw [List.take_length]
    rw [← e] at hj
    refine ⟨_, hj, rfl, ?_⟩
    conv => whnf
    exact ⟨rfl, rfl⟩
end Go.Qt
