/- PROVED: for every input the law FnExactFiltrationLine returns true and each argument reads afterwards as it read before (the statement 'FnExactFiltrationLineCardSaid' of the given Rows).
Conditions: none beyond those which the given statement itself names. This text is one part of the proof. -/
import Derived.Test.YtfcgjmbkcpeafaaGreatDoorFoBars

namespace Go.Qt
open Go Go.Qv Go.Proofs
noncomputable def body86 : Code := match Tryz.f86.body with | some b => b | none => .skip
noncomputable def body71 : Code := match Tryz.f71.body with | some b => b | none => .skip
noncomputable def body57 : Code := match Tryz.f57.body with | some b => b | none => .skip
noncomputable def body41 : Code := match Tryz.f41.body with | some b => b | none => .skip
noncomputable def body22 : Code := match Tryz.f22.body with | some b => b | none => .skip
noncomputable def body23 : Code := match Tryz.f23.body with | some b => b | none => .skip
set_option maxHeartbeats 4000000
set_option maxRecDepth 100000

theorem ac18_out (s : Int) (b : List Int) (es : List (List Int)) (hf : isFil s b es = false) : AC Tryz.prog 18 [flA s b es] (.tup [.nils, .bool false]) := by
  refine AC_of_awp (E := env 154 [] [] 0) (env_ok _ _ _ _) mixed Tryz.call18 Tryz.func18 (code := body18) rfl rfl (by kernel_rfl) (Nat.le_of_ble_eq_true rfl) fun hl => ?_
  conv => whnf
  clear hl
  refine ⟨_, ac30 s b es, rfl, ?_⟩
  conv => whnf
  refine Bc_intro (fun h => ?_) (fun h => ?_)
  · clear h
    conv => whnf
    exact ⟨rfl, rfl⟩
  · rw [hf] at h; cases h

theorem ac86 (n : Nat) (h : n ≤ 9) : AC Tryz.prog 86 [.int .i64 (n : Int)] (.str (dig n)) := by
  refine AC_of_awp (E := env 15 [] [] 0) (env_ok _ _ _ _) mixed Tryz.call86 Tryz.func86 (code := body86) rfl rfl (by kernel_rfl) (Nat.le_of_ble_eq_true rfl) fun hl => ?_
  clear hl
  have h10 : n = 0 ∨ n = 1 ∨ n = 2 ∨ n = 3 ∨ n = 4 ∨ n = 5 ∨ n = 6 ∨ n = 7 ∨ n = 8 ∨ n = 9 := by omega
  rcases h10 with rfl | rfl | rfl | rfl | rfl | rfl | rfl | rfl | rfl | rfl
  all_goals
    conv => whnf
  · refine ⟨1, rfl, Nat.le_of_ble_eq_true rfl, 0, rfl, Nat.le_of_ble_eq_true rfl, ?_⟩
    conv => whnf
    exact ⟨rfl, rfl⟩
  · refine ⟨2, rfl, Nat.le_of_ble_eq_true rfl, 1, rfl, Nat.le_of_ble_eq_true rfl, ?_⟩
    conv => whnf
    exact ⟨rfl, rfl⟩
  · refine ⟨3, rfl, Nat.le_of_ble_eq_true rfl, 2, rfl, Nat.le_of_ble_eq_true rfl, ?_⟩
    conv => whnf
    exact ⟨rfl, rfl⟩
  · refine ⟨4, rfl, Nat.le_of_ble_eq_true rfl, 3, rfl, Nat.le_of_ble_eq_true rfl, ?_⟩
    conv => whnf
    exact ⟨rfl, rfl⟩
  · refine ⟨5, rfl, Nat.le_of_ble_eq_true rfl, 4, rfl, Nat.le_of_ble_eq_true rfl, ?_⟩
    conv => whnf
    exact ⟨rfl, rfl⟩
  · refine ⟨6, rfl, Nat.le_of_ble_eq_true rfl, 5, rfl, Nat.le_of_ble_eq_true rfl, ?_⟩
    conv => whnf
    exact ⟨rfl, rfl⟩
  · refine ⟨7, rfl, Nat.le_of_ble_eq_true rfl, 6, rfl, Nat.le_of_ble_eq_true rfl, ?_⟩
    conv => whnf
    exact ⟨rfl, rfl⟩
  · refine ⟨8, rfl, Nat.le_of_ble_eq_true rfl, 7, rfl, Nat.le_of_ble_eq_true rfl, ?_⟩
    conv => whnf
    exact ⟨rfl, rfl⟩
  · refine ⟨9, rfl, Nat.le_of_ble_eq_true rfl, 8, rfl, Nat.le_of_ble_eq_true rfl, ?_⟩
    conv => whnf
    exact ⟨rfl, rfl⟩
  · refine ⟨10, rfl, Nat.le_of_ble_eq_true rfl, 9, rfl, Nat.le_of_ble_eq_true rfl, ?_⟩
    conv => whnf
    exact ⟨rfl, rfl⟩
theorem ac71 (n : Nat) (h : n ≤ 9) : AC Tryz.prog 71 [.int .i64 (n : Int), .int .i64 10] (.str (dig n)) := by
  refine AC_of_awp (E := env 54 [] [] 0) (env_ok _ _ _ _) mixed Tryz.call71 Tryz.func71 (code := body71) rfl rfl (by kernel_rfl) (Nat.le_of_ble_eq_true rfl) fun hl => ?_
  conv => whnf
  clear hl
  refine Bc_intro (fun h2 => ?_) (fun h2 => ?_)
  · conv => whnf
    refine ⟨_, ac86 n h, rfl, ?_⟩
    conv => whnf
    exact ⟨rfl, rfl⟩
  · have h2 : ¬ (n : Int) < 100 := of_decide_eq_false h2
    omega
theorem ac57 (n : Nat) (h : n ≤ 9) : AC Tryz.prog 57 [.int .i64 (n : Int)] (.str (dig n)) := by
  refine AC_of_awp (E := env 5 [] [] 0) (env_ok _ _ _ _) mixed Tryz.call57 Tryz.func57 (code := body57) rfl rfl (by kernel_rfl) (Nat.le_of_ble_eq_true rfl) fun hl => ?_
  conv => whnf
  refine ⟨_, ac71 n h, rfl, ?_⟩
  conv => whnf
  exact ⟨rfl, rfl⟩
theorem ac41 (n : Nat) (h : n ≤ 9) : AC Tryz.prog 41 [.int .i64 (n : Int)] (.str (dig n)) := by
  refine AC_of_awp (E := env 5 [] [] 0) (env_ok _ _ _ _) mixed Tryz.call41 Tryz.func41 (code := body41) rfl rfl (by kernel_rfl) (Nat.le_of_ble_eq_true rfl) fun hl => ?_
  conv => whnf
  refine ⟨_, ac57 n h, rfl, ?_⟩
  conv => whnf
  exact ⟨rfl, rfl⟩
theorem ac22 (n : Nat) (h : n ≤ 9) : AC Tryz.prog 22 [.int .i64 (n : Int)] (.str (dig n)) := by
  refine AC_of_awp (E := env 5 [] [] 0) (env_ok _ _ _ _) mixed Tryz.call22 Tryz.func22 (code := body22) rfl rfl (by kernel_rfl) (Nat.le_of_ble_eq_true rfl) fun hl => ?_
  conv => whnf
  refine ⟨_, ac41 n h, rfl, ?_⟩
  conv => whnf
  exact ⟨rfl, rfl⟩

/-! ### Digits -/
def clampI (n : Int) : Int := imin (imax n 0) 9
theorem clampI_bd (n : Int) : 0 ≤ clampI n ∧ clampI n ≤ 9 := by
  unfold clampI imin imax
  split <;> split <;> omega
theorem clampI_nat {n : Nat} (h : n ≤ 9) : clampI n = n := by
  unfold clampI imin imax
  split <;> split <;> omega
def digI (n : Int) : UInt8 := UInt8.ofNat (48 + clampI n).toNat
def digsD (xs : List Int) : List D := xs.map fun n => D.int .u8 (48 + clampI n)
def fillD (xs : List Int) (k : Nat) : List D := digsD (xs.take k) ++ List.replicate (xs.length - k) (D.int .u8 0)
theorem fillD_len {xs : List Int} {k : Nat} (h : k ≤ xs.length) : (fillD xs k).length = xs.length := by simp [fillD, digsD]; omega
theorem fillD_set {xs : List Int} {k : Nat} (h : k < xs.length) : setND (fillD xs k) k [D.int .u8 (48 + clampI (xs.getD k 0))] = fillD xs (k + 1) := by
  have e1 : (digsD (xs.take k)).length = k := by simp [digsD]; omega
  have e2 : xs.length - k = (xs.length - (k + 1)) + 1 := by omega
  have := setND_push (digsD (xs.take k)) (D.int .u8 0) (D.int .u8 (48 + clampI (xs.getD k 0))) (xs.length - (k + 1))
  rw [e1] at this
  rw [fillD, e2, this, fillD, take_getD h]
  simp [digsD]
theorem digs_bytes : ∀ xs : List Int, bytesOf (digsD xs) = some (xs.map digI)
  | [] => rfl
  | x :: r => by
    have ih := digs_bytes r
    simp only [digsD] at ih
    simp only [digsD, List.map_cons, bytesOf, byteD, ih, digI]
theorem wrap_u8 {n : Int} (h : 0 ≤ n) (h2 : n ≤ 255) : IntKind.u8.wrap n = n := by
  rw [IntKind.wrap_u8]; omega
theorem ac23 (xs : List Int) (hn : xs.length ≤ 1048576) : AC Tryz.prog 23 [.rs true false (ints xs) xs.length] (.str (xs.map digI)) := by
  refine AC_of_awp (E := env 27 [] [] 0) (env_ok _ _ _ _) mixed Tryz.call23 Tryz.func23 (code := body23) rfl rfl (by kernel_rfl) (Nat.le_of_ble_eq_true rfl) fun hl => ?_
  conv => whnf
  clear hl
  refine ⟨xs.length, rfl, xs.length, rfl, Nat.le_refl _, sizeLim_of (by show xs.length * 1 ≤ _; omega), intLim_of' (by omega), ?_⟩
  conv => whnf
  refine ⟨Nat, [], [0, 3, 9, 10, 11], fun k => [.rs true false (ints xs) xs.length, .ow 0 xs.length, .rs true false (ints xs) xs.length, .int .i64 xs.length, .int .i64 (k : Int)], fun k => [some (.row 5 false (fillD xs k))], fun k => k ≤ xs.length, fun k => xs.length - k, 1, fun _ => rfl, rfl,
      ⟨_, 0, rfl, Nat.zero_le _, rfl, ?_, rfl, rfl⟩, fun k hk => ?_⟩
  · have e : List.replicate xs.length (D.int .u8 0) = fillD xs 0 := by simp [fillD, digsD]
    exact row1 e
  have hk : k ≤ xs.length := hk
  conv => whnf
  refine Bc_intro (fun h => ?_) (fun h => ?_)
  · have h : (k : Int) < xs.length := of_decide_eq_true h
    have hlt : k < xs.length := by omega
    have hfl := fillD_len hk
    have hcb := clampI_bd (xs.getD k 0)
    conv => whnf
    repeat (first
      | (refine ⟨_, ints_m rfl (by first | omega | (dsimp only; omega)), ?_⟩; conv => whnf)
      | (refine ⟨_, ints_p rfl (by first | omega | (dsimp only; omega)), ?_⟩; conv => whnf)
      | (refine ⟨_, rows_m rfl (by first | omega | (dsimp only; omega)), ?_⟩; conv => whnf)
      | (refine ⟨(D.int .i64 _ : D), rfl, ?_⟩; conv => whnf)
      | (refine ⟨(_ : Nat), rfl, (show (_ : Nat) < _ by first | omega | (dsimp only; omega)), ?_⟩; conv => whnf)
      | (refine ⟨(_ : Nat), rfl, (show (_ : Nat) ≤ _ by first | omega | (dsimp only; omega)), ?_⟩; conv => whnf)
      | (refine ⟨(_ : Nat), wrap_pred (by omega), (show (_ : Nat) < _ by first | omega | (dsimp only; omega)), ?_⟩; conv => whnf)
      | (refine ⟨(0 : Nat), rfl, Nat.le_of_ble_eq_true rfl, ?_⟩; conv => whnf)
      | (refine ⟨(1 : Nat), rfl, Nat.le_of_ble_eq_true rfl, ?_⟩; conv => whnf)
      | (refine ⟨(2 : Nat), rfl, Nat.le_of_ble_eq_true rfl, ?_⟩; conv => whnf))
    refine ⟨(show k + 1 ≤ (fillD xs k).length by omega), ?_⟩
    conv => whnf
    refine ⟨k + 1, hlt, (by show xs.length - (k + 1) < xs.length - k; omega), ?_, ?_, rfl, rfl⟩
    · exact V5 (wrap_succ (k := k) (n := 9223372036854775807) (by omega) (by omega))
    · have e : setND (fillD xs k) k [D.int .u8 (IntKind.u8.wrap (IntKind.i64.wrap (48 + imin (imax (xs.getD k 0) 0) 9)))] = fillD xs (k + 1) := by
        have e2 : imin (imax (xs.getD k 0) 0) 9 = clampI (xs.getD k 0) := rfl
        rw [e2, wrap_id (by omega) (by omega), wrap_u8 (by omega) (by omega), fillD_set hlt]
      exact row1 e
  · have h : ¬ (k : Int) < xs.length := of_decide_eq_false h
    have : k = xs.length := by omega
    subst this
    have e : fillD xs xs.length = digsD xs := by simp [fillD]
    conv => whnf
    refine ⟨xs.map digI, (by rw [← digs_bytes, ← e]), (by simp), ?_⟩
    conv => whnf
    exact ⟨rfl, rfl⟩
end Go.Qt
