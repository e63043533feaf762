/- PROVED: for every input the law FnExactFiltrationLine returns true and each argument reads afterwards as it read before (the statement 'FnExactFiltrationLineCardSaid' of the given Rows).
Conditions: none beyond those which the given statement itself names. This text is one part of the proof. -/
import Derived.Test.YtfcgjmbkcpeafaaGreatDoorFiImpl

namespace Go.Qt
open Go Go.Qv Go.Proofs
noncomputable def body62 : Code := match Tryz.f62.body with | some b => b | none => .skip
noncomputable def body63 : Code := match Tryz.f63.body with | some b => b | none => .skip
noncomputable def body47 : Code := match Tryz.f47.body with | some b => b | none => .skip
noncomputable def body46 : Code := match Tryz.f46.body with | some b => b | none => .skip
set_option maxHeartbeats 4000000
def cmpI (x y : Int) : Int := if x < y then -1 else if x > y then 1 else 0
theorem ac63 (x y : Int) : AC Tryz.prog 63 [.int .i64 x, .int .i64 y] (.int .i64 (cmpI x y)) := by
  refine AC_of_awp (E := env 20 [] [] 0) (env_ok _ _ _ _) mixed Tryz.call63 Tryz.func63 (code := body63) rfl rfl (by kernel_rfl) (Nat.le_of_ble_eq_true rfl) fun hl => ?_
  conv => whnf
  clear hl
  refine ⟨_, ac73 x, rfl, ?_⟩
  conv => whnf
  refine ⟨_, ac73 y, rfl, ?_⟩
  conv => whnf
  refine Bc_intro (fun h => ?_) (fun h => ?_)
  · have h : x < y := of_decide_eq_true h
    conv => whnf
    refine ⟨rfl, ?_⟩
    rw [cmpI, if_pos h]; rfl
  · have h : ¬ x < y := of_decide_eq_false h
    conv => whnf
    refine Bc_intro (fun h2 => ?_) (fun h2 => ?_)
    · have h2 : x > y := of_decide_eq_true h2
      conv => whnf
      refine ⟨rfl, ?_⟩
      rw [cmpI, if_neg h, if_pos h2]; rfl
    · have h2 : ¬ x > y := of_decide_eq_false h2
      conv => whnf
      refine ⟨rfl, ?_⟩
      rw [cmpI, if_neg h, if_neg h2]; rfl
def orI (x y : Int) : Int := if x ≠ 0 then x else y
theorem ac62 (x y : Int) : AC Tryz.prog 62 [.rs true false (ints [x, y]) 2] (.int .i64 (orI x y)) := by
  refine AC_of_awp (E := env 18 [] [] 0) (env_ok _ _ _ _) mixed Tryz.call62 Tryz.func62 (code := body62) rfl rfl (by kernel_rfl) (Nat.le_of_ble_eq_true rfl) fun hl => ?_
  conv => whnf
  clear hl
  refine ⟨Nat, [], [3, 6, 7, 8], fun k => [.int .i64 0, .rs true false (ints [x, y]) 2, .int .i64 2, .int .i64 (k : Int)], fun _ => [], fun k => k = 0 ∨ (k = 1 ∧ x = 0) ∨ (k = 2 ∧ x = 0 ∧ y = 0), fun k => 2 - k, 0, fun _ => rfl, rfl,
      ⟨_, 0, rfl, .inl rfl, rfl, rfl, rfl, rfl⟩, fun k hk => ?_⟩
  have hk : k = 0 ∨ (k = 1 ∧ x = 0) ∨ (k = 2 ∧ x = 0 ∧ y = 0) := hk
  rcases hk with rfl | ⟨rfl, h0⟩ | ⟨rfl, h0, h1⟩
  · conv => whnf
    repeat (first
      | (refine ⟨_, ints_m rfl (by first | omega | (dsimp only; omega)), ?_⟩; conv => whnf)
      | (refine ⟨_, ints_p rfl (by first | omega | (dsimp only; omega)), ?_⟩; conv => whnf)
      | (refine ⟨_, rows_m rfl (by first | omega | (dsimp only; omega)), ?_⟩; conv => whnf)
      | (refine ⟨(D.int .i64 _ : D), rfl, ?_⟩; conv => whnf)
      | (refine ⟨(_ : Nat), rfl, (show (_ : Nat) < _ by first | omega | (dsimp only; omega)), ?_⟩; conv => whnf)
      | (refine ⟨(_ : Nat), rfl, (show (_ : Nat) ≤ _ by first | omega | (dsimp only; omega)), ?_⟩; conv => whnf)
      | (refine ⟨(_ : Nat), wrap_pred (by omega), (show (_ : Nat) < _ by first | omega | (dsimp only; omega)), ?_⟩; conv => whnf)
      | (refine ⟨(0 : Nat), rfl, Nat.le_of_ble_eq_true rfl, ?_⟩; conv => whnf)
      | (refine ⟨(1 : Nat), rfl, Nat.le_of_ble_eq_true rfl, ?_⟩; conv => whnf)
      | (refine ⟨(2 : Nat), rfl, Nat.le_of_ble_eq_true rfl, ?_⟩; conv => whnf))
    refine Bc_intro (fun h => ?_) (fun h => ?_)
    · have h : x ≠ 0 := by simpa using (show (x != 0) = true from h)
      conv => whnf
      refine ⟨rfl, ?_⟩
      rw [orI, if_pos h]; rfl
    · have h : x = 0 := by simpa using (show (x != 0) = false from h)
      conv => whnf
      exact ⟨1, .inr (.inl ⟨rfl, h⟩), Nat.le_of_ble_eq_true rfl, rfl, rfl, rfl, rfl⟩
  · subst h0
    conv => whnf
    repeat (first
      | (refine ⟨_, ints_m rfl (by first | omega | (dsimp only; omega)), ?_⟩; conv => whnf)
      | (refine ⟨_, ints_p rfl (by first | omega | (dsimp only; omega)), ?_⟩; conv => whnf)
      | (refine ⟨_, rows_m rfl (by first | omega | (dsimp only; omega)), ?_⟩; conv => whnf)
      | (refine ⟨(D.int .i64 _ : D), rfl, ?_⟩; conv => whnf)
      | (refine ⟨(_ : Nat), rfl, (show (_ : Nat) < _ by first | omega | (dsimp only; omega)), ?_⟩; conv => whnf)
      | (refine ⟨(_ : Nat), rfl, (show (_ : Nat) ≤ _ by first | omega | (dsimp only; omega)), ?_⟩; conv => whnf)
      | (refine ⟨(_ : Nat), wrap_pred (by omega), (show (_ : Nat) < _ by first | omega | (dsimp only; omega)), ?_⟩; conv => whnf)
      | (refine ⟨(0 : Nat), rfl, Nat.le_of_ble_eq_true rfl, ?_⟩; conv => whnf)
      | (refine ⟨(1 : Nat), rfl, Nat.le_of_ble_eq_true rfl, ?_⟩; conv => whnf)
      | (refine ⟨(2 : Nat), rfl, Nat.le_of_ble_eq_true rfl, ?_⟩; conv => whnf))
    refine Bc_intro (fun h => ?_) (fun h => ?_)
    · have h : y ≠ 0 := by simpa using (show (y != 0) = true from h)
      conv => whnf
      exact ⟨rfl, rfl⟩
    · have h : y = 0 := by simpa using (show (y != 0) = false from h)
      conv => whnf
      exact ⟨2, .inr (.inr ⟨rfl, rfl, h⟩), Nat.le_of_ble_eq_true rfl, rfl, rfl, rfl, rfl⟩
  · subst h0 h1
    conv => whnf
    exact ⟨rfl, rfl⟩

def barA (x : Bar) : AV := .agg [.int .i64 (x.1 : Int), .int .i64 (x.2.1 : Int), .int .i64 (x.2.2 : Int)]
def cmpB (x y : Bar) : Int := orI (cmpI x.1 y.1) (cmpI x.2.1 y.2.1)
theorem ac47 (x y : Bar) : AC Tryz.prog 47 [barA x, barA y] (.int .i64 (cmpB x y)) := by
  refine AC_of_awp (E := env 17 [] [] 0) (env_ok _ _ _ _) mixed Tryz.call47 Tryz.func47 (code := body47) rfl rfl (by kernel_rfl) (Nat.le_of_ble_eq_true rfl) fun hl => ?_
  conv => whnf
  clear hl
  refine ⟨_, ac63 _ _, rfl, ?_⟩
  conv => whnf
  refine ⟨_, ac63 _ _, rfl, ?_⟩
  conv => whnf
  refine ⟨_, ac62 _ _, rfl, ?_⟩
  conv => whnf
  exact ⟨rfl, rfl⟩

theorem half_eq (i j : Nat) (h : i + j < 9223372036854775807) : IntKind.i64.wrap ((IntKind.u64.wrap (IntKind.i64.wrap ((i : Int) + (j : Int)))).fdiv (2 ^ (min (1 : Int).toNat IntKind.u64.bits))) = (((i + j) / 2 : Nat) : Int) := by
  rw [wrap_id (n := (i : Int) + j) (by omega) (by omega), IntKind.wrap_u64, Int.fdiv_eq_ediv_of_nonneg _ (by decide)]
  have e : (2 : Int) ^ (min (1 : Int).toNat IntKind.u64.bits) = 2 := rfl
  rw [e, Int.emod_eq_of_lt (by omega) (by omega), wrap_id (by omega) (by omega)]
  omega
theorem bars_getN : ∀ {L : List Bar} {k : Nat}, k < L.length → getN (barsD L) (k * 3) 3 = some (barD (L.getD k (0, 0, 0)))
  | x :: r, 0, _ => by
    simp [getN, barsD, barD]
  | x :: r, k + 1, h => by
    have ih := bars_getN (L := r) (k := k) (by simpa using h)
    have e : barsD (x :: r) = barD x ++ barsD r := by simp [barsD]
    have e2 : (k + 1) * 3 = (barD x).length + k * 3 := by simp [barD]; omega
    have e3 : (x :: r).getD (k + 1) (0, 0, 0) = r.getD k (0, 0, 0) := by simp
    rw [e3, e, e2]
    unfold getN at ih ⊢
    rw [List.length_append]
    by_cases hc : k * 3 + 3 ≤ (barsD r).length
    · rw [if_pos hc] at ih
      rw [if_pos (by omega), ← List.drop_drop, List.drop_left, ih]
    · rw [if_neg hc] at ih
      cases ih
theorem X6 {x y z u v : AV} {k : IntKind} {a b : Int} (h : a = b) : [x, y, z, u, AV.int k a, v] = [x, y, z, u, AV.int k b, v] := by rw [h]
/-- The search in a row of bars: those before a come before. -/
theorem ac46L (L : List Bar) (a : Nat) (b : Bar) (fnd : Bool) (hn : L.length ≤ 1048576) (hle : a ≤ L.length) (hlt : ∀ k, k < L.length → k < a → cmpB (L.getD k (0, 0, 0)) b < 0) (hge : ∀ k, k < L.length → a ≤ k → ¬ cmpB (L.getD k (0, 0, 0)) b < 0)
    (hat : a < L.length → fnd = (cmpB (L.getD a (0, 0, 0)) b == 0)) (hno : ¬ a < L.length → fnd = false) :
    AC Tryz.prog 46 [.rs true false (barsD L) L.length, barA b, .fn 47 []] (.tup [.int .i64 (a : Int), .bool fnd]) := by
  refine AC_of_awp (E := env 49 [] [] 0) (env_ok _ _ _ _) mixed Tryz.call46 Tryz.func46 (code := body46) rfl rfl (by kernel_rfl) (Nat.le_of_ble_eq_true rfl) fun hl => ?_
  conv => whnf
  clear hl
  refine ⟨Nat × Nat, [], [0, 2, 4, 8, 9, 10], fun a => [.rs true false (barsD L) L.length, .fn 47 [], .op 0 0, .int .i64 L.length, .int .i64 (a.1 : Int), .int .i64 (a.2 : Int)], fun _ => [some (.var 49 [.int .i64 (b.1 : Int), .int .i64 (b.2.1 : Int), .int .i64 (b.2.2 : Int)])], fun q => q.1 ≤ a ∧ a ≤ q.2 ∧ q.2 ≤ L.length, fun q => q.2 - q.1, 1, fun _ => rfl, rfl,
      ⟨_, (0, L.length), rfl, ⟨Nat.zero_le _, hle, Nat.le_refl _⟩, rfl, rfl, rfl, rfl⟩, fun q hq => ?_⟩
  obtain ⟨i, j⟩ := q
  obtain ⟨h1, h2, h3⟩ := hq
  simp only at h1 h2 h3
  conv => whnf
  refine Bc_intro (fun h => ?_) (fun h => ?_)
  · have h : (i : Int) < (j : Int) := of_decide_eq_true h
    conv => whnf
    refine ⟨by decide, ?_⟩
    conv => whnf
    have hhalf := half_eq i j (by omega)
    refine ⟨(i + j) / 2, hhalf, (show (i + j) / 2 < L.length by omega), ?_⟩
    conv => whnf
    have hm : (i + j) / 2 < L.length := by omega
    refine ⟨_, bars_getN (k := (i + j) / 2) hm, ?_⟩
    conv => whnf
    refine ⟨_, ac47 _ _, rfl, ?_⟩
    conv => whnf
    have hw : IntKind.i64.wrap (IntKind.i64.wrap ((IntKind.u64.wrap (IntKind.i64.wrap ((i : Int) + (j : Int)))).fdiv (2 ^ (min (1 : Int).toNat IntKind.u64.bits))) + 1) = (((i + j) / 2 + 1 : Nat) : Int) := by
      rw [hhalf]; exact wrap_succ (k := (i + j) / 2) (n := 9223372036854775807) (by omega) (by omega)
    refine Bc_intro (fun hq => ?_) (fun hq => ?_)
    · have hq : cmpB (L.getD ((i + j) / 2) (0, 0, 0)) b < 0 := of_decide_eq_true hq
      have hma : (i + j) / 2 < a := by
        rcases Nat.lt_or_ge ((i + j) / 2) a with h | h
        · exact h
        · exact absurd hq (hge _ hm h)
      conv => whnf
      refine ⟨((i + j) / 2 + 1, j), ⟨by show (i + j) / 2 + 1 ≤ a; omega, h2, h3⟩, (by show j - ((i + j) / 2 + 1) < j - i; omega), ?_, rfl, rfl, rfl⟩
      exact X6 hw
    · have hq : ¬ cmpB (L.getD ((i + j) / 2) (0, 0, 0)) b < 0 := of_decide_eq_false hq
      have hma : a ≤ (i + j) / 2 := by
        rcases Nat.lt_or_ge ((i + j) / 2) a with h | h
        · exact absurd (hlt _ hm h) hq
        · exact h
      conv => whnf
      refine ⟨(i, (i + j) / 2), ⟨h1, by show a ≤ (i + j) / 2; omega, by show (i + j) / 2 ≤ _; omega⟩, (by show (i + j) / 2 - i < j - i; omega), ?_, rfl, rfl, rfl⟩
      exact V6 hhalf
  · have h : ¬ (i : Int) < (j : Int) := of_decide_eq_false h
    have hia : i = a := by omega
    subst hia
    conv => whnf
    refine Bc_intro (fun h4 => ?_) (fun h4 => ?_)
    · have h4 : i < L.length := by have : (i : Int) < L.length := of_decide_eq_true h4
                                   omega
      conv => whnf
      repeat (first
        | (refine ⟨_, ints_m rfl (by first | omega | (dsimp only; omega)), ?_⟩; conv => whnf)
        | (refine ⟨_, ints_p rfl (by first | omega | (dsimp only; omega)), ?_⟩; conv => whnf)
        | (refine ⟨_, rows_m rfl (by first | omega | (dsimp only; omega)), ?_⟩; conv => whnf)
        | (refine ⟨(D.int .i64 _ : D), rfl, ?_⟩; conv => whnf)
        | (refine ⟨(_ : Nat), rfl, (show (_ : Nat) < _ by first | omega | (dsimp only; omega)), ?_⟩; conv => whnf)
        | (refine ⟨(_ : Nat), rfl, (show (_ : Nat) ≤ _ by first | omega | (dsimp only; omega)), ?_⟩; conv => whnf)
        | (refine ⟨(_ : Nat), wrap_pred (by omega), (show (_ : Nat) < _ by first | omega | (dsimp only; omega)), ?_⟩; conv => whnf)
        | (refine ⟨(0 : Nat), rfl, Nat.le_of_ble_eq_true rfl, ?_⟩; conv => whnf)
        | (refine ⟨(1 : Nat), rfl, Nat.le_of_ble_eq_true rfl, ?_⟩; conv => whnf)
        | (refine ⟨(2 : Nat), rfl, Nat.le_of_ble_eq_true rfl, ?_⟩; conv => whnf))
      refine ⟨_, bars_getN (k := i) h4, ?_⟩
      conv => whnf
      refine ⟨_, ac47 _ _, rfl, ?_⟩
      conv => whnf
      refine ⟨rfl, ?_⟩
      rw [hat h4]; rfl
    · have h4 : ¬ i < L.length := by have : ¬ (i : Int) < L.length := of_decide_eq_false h4
                                     omega
      conv => whnf
      refine ⟨rfl, ?_⟩
      rw [hno h4]; rfl

def fndB (b : Bar) : List Bar → Bool
  | [] => false
  | c :: _ => cmpB c b == 0
/-- The search in a row of bars: A comes before, C does not. -/
theorem ac46 (A C : List Bar) (b : Bar) (hn : (A ++ C).length ≤ 1048576) (hA : ∀ x ∈ A, cmpB x b < 0) (hC : ∀ x ∈ C, ¬ cmpB x b < 0) :
    AC Tryz.prog 46 [.rs true false (barsD (A ++ C)) (A ++ C).length, barA b, .fn 47 []] (.tup [.int .i64 (A.length : Int), .bool (fndB b C)]) := by
  refine ac46L (A ++ C) A.length b _ hn (by simp) (fun k h hk => ?_) (fun k h hk => ?_) (fun h => ?_) (fun h => ?_)
  · have : (A ++ C).getD k (0, 0, 0) = A[k] := by simp [List.getElem?_append_left hk, hk]
    rw [this]; exact hA _ (List.getElem_mem _)
  · have h5 : k - A.length < C.length := by rw [List.length_append] at h; omega
    have : (A ++ C).getD k (0, 0, 0) = C[k - A.length] := by simp [List.getElem?_append_right hk, h5]
    rw [this]; exact hC _ (List.getElem_mem _)
  · cases C with
    | nil => simp at h
    | cons c r => simp [fndB]
  · cases C with
    | nil => rfl
    | cons c r => simp at h
end Go.Qt
