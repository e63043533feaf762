/- PROVED: for every input the law FnExactFiltrationLine returns true and each argument reads afterwards as it read before (the statement 'FnExactFiltrationLineCardSaid' of the given Rows).
Conditions: none beyond those which the given statement itself names. This text is one part of the proof. -/
import Derived.Test.YtfcgjmbkcpeafaaGreatDoorFmIns

namespace Go.Qt
open Go Go.Qv Go.Proofs
noncomputable def body34 : Code := match Tryz.f34.body with | some b => b | none => .skip
set_option maxHeartbeats 4000000

theorem cmpB_lt (x y : Bar) : cmpB x y < 0 ↔ x.1 < y.1 ∨ x.1 = y.1 ∧ x.2.1 < y.2.1 := by
  unfold cmpB orI cmpI
  split <;> split <;> (try split) <;> (try split) <;> omega
theorem cmpB_eq (x y : Bar) : cmpB x y = 0 ↔ x.1 = y.1 ∧ x.2.1 = y.2.1 := by
  unfold cmpB orI cmpI
  split <;> split <;> (try split) <;> (try split) <;> omega
def incB (x : Bar) : Bar := (x.1, x.2.1, x.2.2 + 1)
def cstep : List Bar → Bar → List Bar
  | [], b => [(b.1, b.2.1, 1)]
  | x :: r, b => if cmpB x b < 0 then x :: cstep r b else if cmpB x b = 0 then incB x :: r else (b.1, b.2.1, 1) :: x :: r
def countL (l : List Bar) : List Bar := l.foldl cstep []
/-- In order, each once. -/
def SortedB (l : List Bar) : Prop := l.Pairwise fun x y => cmpB x y < 0
/-- Where b belongs. -/
theorem split_at : ∀ {out : List Bar} (b : Bar), SortedB out → ∃ A C, out = A ++ C ∧ (∀ x ∈ A, cmpB x b < 0) ∧ (∀ x ∈ C, ¬ cmpB x b < 0) ∧
    cstep out b = A ++ (match C with | [] => [(b.1, b.2.1, 1)] | c :: r => if cmpB c b = 0 then incB c :: r else (b.1, b.2.1, 1) :: c :: r)
  | [], b, _ => ⟨[], [], rfl, (fun _ h => by cases h), (fun _ h => by cases h), rfl⟩
  | x :: r, b, hs => by
    rw [SortedB, List.pairwise_cons] at hs
    by_cases h : cmpB x b < 0
    · obtain ⟨A, C, h1, h2, h3, h4⟩ := split_at (out := r) b hs.2
      refine ⟨x :: A, C, by rw [h1]; rfl, fun y hy => ?_, h3, ?_⟩
      · rcases List.mem_cons.1 hy with rfl | hy
        · exact h
        · exact h2 y hy
      · rw [cstep, if_pos h, h4]; rfl
    · refine ⟨[], x :: r, rfl, fun _ h => (by cases h), fun y hy => ?_, ?_⟩
      · rcases List.mem_cons.1 hy with rfl | hy
        · exact h
        · have h1 := hs.1 y hy
          rw [cmpB_lt] at h h1 ⊢
          omega
      · rw [cstep, if_neg h]; rfl
theorem cstep_mem {b : Bar} : ∀ {out : List Bar} {y : Bar}, y ∈ cstep out b → (y.1 = b.1 ∧ y.2.1 = b.2.1) ∨ y ∈ out
  | [], y, h => by
    simp only [cstep, List.mem_singleton] at h
    subst h; exact .inl ⟨rfl, rfl⟩
  | x :: r, y, h => by
    unfold cstep at h
    split at h
    · rcases List.mem_cons.1 h with rfl | h
      · exact .inr (by simp)
      · rcases cstep_mem h with h | h
        · exact .inl h
        · exact .inr (by simp [h])
    · split at h
      · rename_i h0
        rw [cmpB_eq] at h0
        rcases List.mem_cons.1 h with rfl | h
        · exact .inl h0
        · exact .inr (by simp [h])
      · rcases List.mem_cons.1 h with rfl | h
        · exact .inl ⟨rfl, rfl⟩
        · exact .inr h
theorem cstep_sorted (b : Bar) : ∀ {out : List Bar}, SortedB out → SortedB (cstep out b)
  | [], _ => by simp [cstep, SortedB]
  | x :: r, hs => by
    have hs0 := hs
    rw [SortedB, List.pairwise_cons] at hs
    unfold cstep
    split
    · rename_i h
      rw [SortedB, List.pairwise_cons]
      refine ⟨fun y hy => ?_, cstep_sorted b hs.2⟩
      rcases cstep_mem hy with ⟨h1, h2⟩ | h1
      · rw [cmpB_lt] at h ⊢; omega
      · exact hs.1 y h1
    · split
      · rw [SortedB, List.pairwise_cons]
        refine ⟨fun y hy => ?_, hs.2⟩
        have := hs.1 y hy
        rw [cmpB_lt] at this ⊢
        exact this
      · rename_i h1 h2
        rw [SortedB, List.pairwise_cons]
        refine ⟨fun y hy => ?_, hs0⟩
        rw [cmpB_lt] at h1
        rw [cmpB_eq] at h2
        rw [cmpB_lt]
        show b.1 < y.1 ∨ b.1 = y.1 ∧ b.2.1 < y.2.1
        rcases List.mem_cons.1 hy with rfl | hy
        · omega
        · have := hs.1 y hy
          rw [cmpB_lt] at this
          omega
theorem cstep_len (b : Bar) : ∀ (out : List Bar), (cstep out b).length ≤ out.length + 1
  | [] => by simp [cstep]
  | x :: r => by
    unfold cstep
    have := cstep_len b r
    split
    · simp only [List.length_cons]; omega
    · split <;> simp
theorem cstep_cnt (b : Bar) {k : Nat} : ∀ {out : List Bar}, (∀ x ∈ out, x.2.2 ≤ k) → ∀ x ∈ cstep out b, x.2.2 ≤ k + 1
  | [], _, x, hx => by
    simp only [cstep, List.mem_singleton] at hx
    subst hx; show 1 ≤ k + 1; omega
  | y :: r, h, x, hx => by
    have hr : ∀ x ∈ r, x.2.2 ≤ k := fun z hz => h z (by simp [hz])
    have hy := h y (by simp)
    unfold cstep at hx
    split at hx
    · rcases List.mem_cons.1 hx with rfl | hx
      · omega
      · exact cstep_cnt b hr x hx
    · split at hx
      · rcases List.mem_cons.1 hx with rfl | hx
        · show y.2.2 + 1 ≤ k + 1; omega
        · have := hr x hx; omega
      · rcases List.mem_cons.1 hx with rfl | hx
        · show 1 ≤ k + 1; omega
        · have := h x hx; omega
theorem countL_take {l : List Bar} {k : Nat} (h : k < l.length) : countL (l.take (k + 1)) = cstep (countL (l.take k)) (l.getD k (0, 0, 0)) := by
  have e : l.take (k + 1) = l.take k ++ [l.getD k (0, 0, 0)] := by rw [List.take_add_one]; simp [h]
  rw [e, countL, List.foldl_append]; rfl
theorem countL_ok (l : List Bar) : ∀ k, k ≤ l.length → SortedB (countL (l.take k)) ∧ (countL (l.take k)).length ≤ k ∧ ∀ x ∈ countL (l.take k), x.2.2 ≤ k
  | 0, _ => by simp [countL, SortedB]
  | k + 1, h => by
    obtain ⟨h1, h2, h3⟩ := countL_ok l k (by omega)
    rw [countL_take (by omega)]
    exact ⟨cstep_sorted _ h1, by have := cstep_len (l.getD k (0, 0, 0)) (countL (l.take k)); omega, cstep_cnt _ h3⟩
theorem bars_inc (A r : List Bar) (x : Bar) : setND (barsD (A ++ x :: r)) (A.length * 3 + 2) [D.int .i64 ((x.2.2 + 1 : Nat) : Int)] = barsD (A ++ incB x :: r) := by
  rw [barsD_append, barsD_append, barsD_cons, barsD_cons]
  have h := barsD_len A
  rw [← h]
  simp only [setND, List.length_cons, List.length_nil, Nat.zero_add, Nat.add_assoc]
  rw [List.take_length_add_append, List.append_assoc, List.append_assoc, ← List.drop_drop, List.drop_left]
  simp [barD, incB]

theorem allSc_bars (L : List Bar) : AllSc (barsD L) := fun x hx => by
  obtain ⟨z, rfl⟩ := bars_allI L x hx
  rfl
theorem V4o {x y : AV} {k : IntKind} {n m : Nat} {a b : Int} (h : n = m) (h' : a = b) : [AV.ow 0 n, x, y, AV.int k a] = [AV.ow 0 m, x, y, AV.int k b] := by rw [h, h']
theorem insB_split (A C : List Bar) (b : Bar) : insB (A ++ C) A.length b = A ++ b :: C := by
  rw [insB, List.take_left, List.drop_left]; simp
theorem bars_cnt (A r : List Bar) (x : Bar) : (barsD (A ++ x :: r))[A.length * 3 + 2]? = some (D.int .i64 (x.2.2 : Int)) := by
  rw [barsD_append, barsD_cons, List.getElem?_append_right (by rw [barsD_len]; omega), barsD_len, Nat.add_sub_cancel_left]
  rfl
theorem ac34 (l : List Bar) (hn : l.length ≤ 1048576) (h0 : ∀ x ∈ l, x.2.2 = 0) : AC Tryz.prog 34 [.rs true false (barsD l) l.length] (.fs 49 false (barsD (countL l)) (countL l).length) := by
  refine AC_of_awp (E := env 41 [] [30] 0) (env_ok _ _ _ _) mixed Tryz.call34 Tryz.func34 (code := body34) rfl rfl (by kernel_rfl) (Nat.le_of_ble_eq_true rfl) fun hl => ?_
  conv => whnf
  clear hl
  refine ⟨Nat, [.slot 3 49 false], [3, 8, 9, 10], fun k => [.ow 0 (countL (l.take k)).length, .rs true false (barsD l) l.length, .int .i64 l.length, .int .i64 (k : Int)], fun k => [some (.row 49 false (barsD (countL (l.take k))))], fun k => k ≤ l.length, fun k => l.length - k, 1, fun _ => rfl, rfl,
      ⟨_, 0, rfl, Nat.zero_le _, rfl, rfl, rfl, rfl⟩, fun k hk => ?_⟩
  have hk : k ≤ l.length := hk
  obtain ⟨hs, hol, hoc⟩ := countL_ok l k hk
  conv => whnf
  refine Bc_intro (fun h => ?_) (fun h => ?_)
  · have h : (k : Int) < l.length := of_decide_eq_true h
    have hlt : k < l.length := by omega
    have hct := countL_take hlt
    have hb0 : (l.getD k (0, 0, 0)).2.2 = 0 := by
      have e : l.getD k (0, 0, 0) = l[k] := by simp [hlt]
      rw [e]; exact h0 _ (List.getElem_mem hlt)
    obtain ⟨A, C, hAC, hA, hC, hcs⟩ := split_at (l.getD k (0, 0, 0)) hs
    conv => whnf
    repeat (first
      | (refine ⟨_, ints_m rfl (by first | omega | (dsimp only; omega)), ?_⟩; conv => whnf)
      | (refine ⟨_, ints_p rfl (by first | omega | (dsimp only; omega)), ?_⟩; conv => whnf)
      | (refine ⟨_, rows_m rfl (by first | omega | (dsimp only; omega)), ?_⟩; conv => whnf)
      | (refine ⟨(D.int .i64 _ : D), rfl, ?_⟩; conv => whnf)
      | (refine ⟨(_ : Nat), rfl, (show (_ : Nat) < _ by first | omega | (dsimp only; omega)), ?_⟩; conv => whnf)
      | (refine ⟨(_ : Nat), rfl, (show (_ : Nat) ≤ _ by first | omega | (dsimp only; omega)), ?_⟩; conv => whnf)
      | (refine ⟨(_ : Nat), wrap_pred (by omega), (show (_ : Nat) < _ by first | omega | (dsimp only; omega)), ?_⟩; conv => whnf)
      | (refine ⟨(0 : Nat), rfl, Nat.le_of_ble_eq_true rfl, ?_⟩; conv => whnf)
      | (refine ⟨(1 : Nat), rfl, Nat.le_of_ble_eq_true rfl, ?_⟩; conv => whnf)
      | (refine ⟨(2 : Nat), rfl, Nat.le_of_ble_eq_true rfl, ?_⟩; conv => whnf))
    refine ⟨_, bars_getN (k := k) hlt, ?_⟩
    conv => whnf
    have hS := ac46 A C (l.getD k (0, 0, 0)) (by rw [← hAC]; omega) hA hC
    rw [← hAC] at hS
    have hAl : A.length ≤ (countL (l.take k)).length := by rw [hAC]; simp
    rcases C with _ | ⟨c, r⟩
    · refine ⟨_, hS, rfl, ?_⟩
      have hins : insB (countL (l.take k)) A.length ((l.getD k (0, 0, 0)).1, (l.getD k (0, 0, 0)).2.1, 0) = A ++ ((l.getD k (0, 0, 0)).1, (l.getD k (0, 0, 0)).2.1, 0) :: [] := by rw [hAC]; exact insB_split _ _ _
      have hlen : (countL (l.take k)).length + 1 = (countL (l.take (k + 1))).length := by rw [hct, hcs, hAC]; simp
      conv => whnf
      refine ⟨0, false, _, true, _, false, aio48 (countL (l.take k)) A.length ((l.getD k (0, 0, 0)).1, (l.getD k (0, 0, 0)).2.1, 0) hAl (by omega), .inr (.inr (allSc_bars _)), ?_⟩
      conv => whnf
      repeat (first
        | (refine ⟨_, ints_m rfl (by first | omega | (dsimp only; omega)), ?_⟩; conv => whnf)
        | (refine ⟨_, ints_p rfl (by first | omega | (dsimp only; omega)), ?_⟩; conv => whnf)
        | (refine ⟨_, rows_m rfl (by first | omega | (dsimp only; omega)), ?_⟩; conv => whnf)
        | (refine ⟨(D.int .i64 _ : D), rfl, ?_⟩; conv => whnf)
        | (refine ⟨(_ : Nat), rfl, (show (_ : Nat) < _ by first | omega | (dsimp only; omega)), ?_⟩; conv => whnf)
        | (refine ⟨(_ : Nat), rfl, (show (_ : Nat) ≤ _ by first | omega | (dsimp only; omega)), ?_⟩; conv => whnf)
        | (refine ⟨(_ : Nat), wrap_pred (by omega), (show (_ : Nat) < _ by first | omega | (dsimp only; omega)), ?_⟩; conv => whnf)
        | (refine ⟨(0 : Nat), rfl, Nat.le_of_ble_eq_true rfl, ?_⟩; conv => whnf)
        | (refine ⟨(1 : Nat), rfl, Nat.le_of_ble_eq_true rfl, ?_⟩; conv => whnf)
        | (refine ⟨(2 : Nat), rfl, Nat.le_of_ble_eq_true rfl, ?_⟩; conv => whnf))
      refine ⟨D.int .i64 ((0 : Nat) : Int), (show (barsD (insB (countL (l.take k)) A.length ((l.getD k (0, 0, 0)).1, (l.getD k (0, 0, 0)).2.1, 0)))[A.length * 3 + 2]? = _ by rw [hins]; exact bars_cnt _ _ _), ?_⟩
      conv => whnf
      repeat (first
        | (refine ⟨_, ints_m rfl (by first | omega | (dsimp only; omega)), ?_⟩; conv => whnf)
        | (refine ⟨_, ints_p rfl (by first | omega | (dsimp only; omega)), ?_⟩; conv => whnf)
        | (refine ⟨_, rows_m rfl (by first | omega | (dsimp only; omega)), ?_⟩; conv => whnf)
        | (refine ⟨(D.int .i64 _ : D), rfl, ?_⟩; conv => whnf)
        | (refine ⟨(_ : Nat), rfl, (show (_ : Nat) < _ by first | omega | (dsimp only; omega)), ?_⟩; conv => whnf)
        | (refine ⟨(_ : Nat), rfl, (show (_ : Nat) ≤ _ by first | omega | (dsimp only; omega)), ?_⟩; conv => whnf)
        | (refine ⟨(_ : Nat), wrap_pred (by omega), (show (_ : Nat) < _ by first | omega | (dsimp only; omega)), ?_⟩; conv => whnf)
        | (refine ⟨(0 : Nat), rfl, Nat.le_of_ble_eq_true rfl, ?_⟩; conv => whnf)
        | (refine ⟨(1 : Nat), rfl, Nat.le_of_ble_eq_true rfl, ?_⟩; conv => whnf)
        | (refine ⟨(2 : Nat), rfl, Nat.le_of_ble_eq_true rfl, ?_⟩; conv => whnf))
      refine ⟨(show A.length * 3 + 2 + 1 ≤ (barsD (insB (countL (l.take k)) A.length ((l.getD k (0, 0, 0)).1, (l.getD k (0, 0, 0)).2.1, 0))).length by rw [barsD_len, insB_len _ _ _ hAl]; omega), ?_⟩
      conv => whnf
      refine ⟨k + 1, hlt, (by show l.length - (k + 1) < l.length - k; omega), ?_, ?_, rfl, rfl⟩
      · exact V4o hlen (wrap_succ (k := k) (n := 9223372036854775807) (by omega) (by omega))
      · have e : setND (barsD (insB (countL (l.take k)) A.length ((l.getD k (0, 0, 0)).1, (l.getD k (0, 0, 0)).2.1, 0))) (A.length * 3 + 2) [D.int .i64 (IntKind.i64.wrap (((0 : Nat) : Int) + 1))] = barsD (countL (l.take (k + 1))) := by
          rw [hins, hct, hcs, wrap_succ (k := 0) (n := 1) (by omega) (by omega)]
          exact bars_inc A _ ((l.getD k (0, 0, 0)).1, (l.getD k (0, 0, 0)).2.1, 0)
        exact row1 e
    · have hcm : c ∈ countL (l.take k) := by rw [hAC]; simp
      have hcc := hoc c hcm
      by_cases hce : cmpB c (l.getD k (0, 0, 0)) = 0
      · have hf : fndB (l.getD k (0, 0, 0)) (c :: r) = true := by rw [fndB, hce]; rfl
        rw [hf] at hS
        simp only [if_pos hce] at hcs
        refine ⟨_, hS, rfl, ?_⟩
        have hlt2 : A.length < (countL (l.take k)).length := by rw [hAC]; simp
        have hlen : (countL (l.take k)).length = (countL (l.take (k + 1))).length := by rw [hct, hcs, hAC]; simp
        conv => whnf
        repeat (first
          | (refine ⟨_, ints_m rfl (by first | omega | (dsimp only; omega)), ?_⟩; conv => whnf)
          | (refine ⟨_, ints_p rfl (by first | omega | (dsimp only; omega)), ?_⟩; conv => whnf)
          | (refine ⟨_, rows_m rfl (by first | omega | (dsimp only; omega)), ?_⟩; conv => whnf)
          | (refine ⟨(D.int .i64 _ : D), rfl, ?_⟩; conv => whnf)
          | (refine ⟨(_ : Nat), rfl, (show (_ : Nat) < _ by first | omega | (dsimp only; omega)), ?_⟩; conv => whnf)
          | (refine ⟨(_ : Nat), rfl, (show (_ : Nat) ≤ _ by first | omega | (dsimp only; omega)), ?_⟩; conv => whnf)
          | (refine ⟨(_ : Nat), wrap_pred (by omega), (show (_ : Nat) < _ by first | omega | (dsimp only; omega)), ?_⟩; conv => whnf)
          | (refine ⟨(0 : Nat), rfl, Nat.le_of_ble_eq_true rfl, ?_⟩; conv => whnf)
          | (refine ⟨(1 : Nat), rfl, Nat.le_of_ble_eq_true rfl, ?_⟩; conv => whnf)
          | (refine ⟨(2 : Nat), rfl, Nat.le_of_ble_eq_true rfl, ?_⟩; conv => whnf))
        refine ⟨D.int .i64 (c.2.2 : Int), (show (barsD (countL (l.take k)))[A.length * 3 + 2]? = _ by rw [hAC]; exact bars_cnt _ _ _), ?_⟩
        conv => whnf
        repeat (first
          | (refine ⟨_, ints_m rfl (by first | omega | (dsimp only; omega)), ?_⟩; conv => whnf)
          | (refine ⟨_, ints_p rfl (by first | omega | (dsimp only; omega)), ?_⟩; conv => whnf)
          | (refine ⟨_, rows_m rfl (by first | omega | (dsimp only; omega)), ?_⟩; conv => whnf)
          | (refine ⟨(D.int .i64 _ : D), rfl, ?_⟩; conv => whnf)
          | (refine ⟨(_ : Nat), rfl, (show (_ : Nat) < _ by first | omega | (dsimp only; omega)), ?_⟩; conv => whnf)
          | (refine ⟨(_ : Nat), rfl, (show (_ : Nat) ≤ _ by first | omega | (dsimp only; omega)), ?_⟩; conv => whnf)
          | (refine ⟨(_ : Nat), wrap_pred (by omega), (show (_ : Nat) < _ by first | omega | (dsimp only; omega)), ?_⟩; conv => whnf)
          | (refine ⟨(0 : Nat), rfl, Nat.le_of_ble_eq_true rfl, ?_⟩; conv => whnf)
          | (refine ⟨(1 : Nat), rfl, Nat.le_of_ble_eq_true rfl, ?_⟩; conv => whnf)
          | (refine ⟨(2 : Nat), rfl, Nat.le_of_ble_eq_true rfl, ?_⟩; conv => whnf))
        refine ⟨(show A.length * 3 + 2 + 1 ≤ (barsD (countL (l.take k))).length by rw [barsD_len]; omega), ?_⟩
        conv => whnf
        refine ⟨k + 1, hlt, (by show l.length - (k + 1) < l.length - k; omega), ?_, ?_, rfl, rfl⟩
        · exact V4o hlen (wrap_succ (k := k) (n := 9223372036854775807) (by omega) (by omega))
        · have e : setND (barsD (countL (l.take k))) (A.length * 3 + 2) [D.int .i64 (IntKind.i64.wrap ((c.2.2 : Int) + 1))] = barsD (countL (l.take (k + 1))) := by
            rw [hct, hcs, hAC, wrap_succ (k := c.2.2) (n := 9223372036854775807) (by omega) (by omega)]
            exact bars_inc A r c
          exact row1 e
      · have hf : fndB (l.getD k (0, 0, 0)) (c :: r) = false := by rw [fndB]; exact beq_eq_false_iff_ne.2 hce
        rw [hf] at hS
        simp only [if_neg hce] at hcs
        refine ⟨_, hS, rfl, ?_⟩
        have hins : insB (countL (l.take k)) A.length ((l.getD k (0, 0, 0)).1, (l.getD k (0, 0, 0)).2.1, 0) = A ++ ((l.getD k (0, 0, 0)).1, (l.getD k (0, 0, 0)).2.1, 0) :: (c :: r) := by rw [hAC]; exact insB_split _ _ _
        have hlen : (countL (l.take k)).length + 1 = (countL (l.take (k + 1))).length := by rw [hct, hcs, hAC]; simp only [List.length_append, List.length_cons]; omega
        conv => whnf
        refine ⟨0, false, _, true, _, false, aio48 (countL (l.take k)) A.length ((l.getD k (0, 0, 0)).1, (l.getD k (0, 0, 0)).2.1, 0) hAl (by omega), .inr (.inr (allSc_bars _)), ?_⟩
        conv => whnf
        repeat (first
          | (refine ⟨_, ints_m rfl (by first | omega | (dsimp only; omega)), ?_⟩; conv => whnf)
          | (refine ⟨_, ints_p rfl (by first | omega | (dsimp only; omega)), ?_⟩; conv => whnf)
          | (refine ⟨_, rows_m rfl (by first | omega | (dsimp only; omega)), ?_⟩; conv => whnf)
          | (refine ⟨(D.int .i64 _ : D), rfl, ?_⟩; conv => whnf)
          | (refine ⟨(_ : Nat), rfl, (show (_ : Nat) < _ by first | omega | (dsimp only; omega)), ?_⟩; conv => whnf)
          | (refine ⟨(_ : Nat), rfl, (show (_ : Nat) ≤ _ by first | omega | (dsimp only; omega)), ?_⟩; conv => whnf)
          | (refine ⟨(_ : Nat), wrap_pred (by omega), (show (_ : Nat) < _ by first | omega | (dsimp only; omega)), ?_⟩; conv => whnf)
          | (refine ⟨(0 : Nat), rfl, Nat.le_of_ble_eq_true rfl, ?_⟩; conv => whnf)
          | (refine ⟨(1 : Nat), rfl, Nat.le_of_ble_eq_true rfl, ?_⟩; conv => whnf)
          | (refine ⟨(2 : Nat), rfl, Nat.le_of_ble_eq_true rfl, ?_⟩; conv => whnf))
        refine ⟨D.int .i64 ((0 : Nat) : Int), (show (barsD (insB (countL (l.take k)) A.length ((l.getD k (0, 0, 0)).1, (l.getD k (0, 0, 0)).2.1, 0)))[A.length * 3 + 2]? = _ by rw [hins]; exact bars_cnt _ _ _), ?_⟩
        conv => whnf
        repeat (first
          | (refine ⟨_, ints_m rfl (by first | omega | (dsimp only; omega)), ?_⟩; conv => whnf)
          | (refine ⟨_, ints_p rfl (by first | omega | (dsimp only; omega)), ?_⟩; conv => whnf)
          | (refine ⟨_, rows_m rfl (by first | omega | (dsimp only; omega)), ?_⟩; conv => whnf)
          | (refine ⟨(D.int .i64 _ : D), rfl, ?_⟩; conv => whnf)
          | (refine ⟨(_ : Nat), rfl, (show (_ : Nat) < _ by first | omega | (dsimp only; omega)), ?_⟩; conv => whnf)
          | (refine ⟨(_ : Nat), rfl, (show (_ : Nat) ≤ _ by first | omega | (dsimp only; omega)), ?_⟩; conv => whnf)
          | (refine ⟨(_ : Nat), wrap_pred (by omega), (show (_ : Nat) < _ by first | omega | (dsimp only; omega)), ?_⟩; conv => whnf)
          | (refine ⟨(0 : Nat), rfl, Nat.le_of_ble_eq_true rfl, ?_⟩; conv => whnf)
          | (refine ⟨(1 : Nat), rfl, Nat.le_of_ble_eq_true rfl, ?_⟩; conv => whnf)
          | (refine ⟨(2 : Nat), rfl, Nat.le_of_ble_eq_true rfl, ?_⟩; conv => whnf))
        refine ⟨(show A.length * 3 + 2 + 1 ≤ (barsD (insB (countL (l.take k)) A.length ((l.getD k (0, 0, 0)).1, (l.getD k (0, 0, 0)).2.1, 0))).length by rw [barsD_len, insB_len _ _ _ hAl]; omega), ?_⟩
        conv => whnf
        refine ⟨k + 1, hlt, (by show l.length - (k + 1) < l.length - k; omega), ?_, ?_, rfl, rfl⟩
        · exact V4o hlen (wrap_succ (k := k) (n := 9223372036854775807) (by omega) (by omega))
        · have e : setND (barsD (insB (countL (l.take k)) A.length ((l.getD k (0, 0, 0)).1, (l.getD k (0, 0, 0)).2.1, 0))) (A.length * 3 + 2) [D.int .i64 (IntKind.i64.wrap (((0 : Nat) : Int) + 1))] = barsD (countL (l.take (k + 1))) := by
            rw [hins, hct, hcs, wrap_succ (k := 0) (n := 1) (by omega) (by omega)]
            exact bars_inc A _ ((l.getD k (0, 0, 0)).1, (l.getD k (0, 0, 0)).2.1, 0)
          exact row1 e
  
  · have h : ¬ (k : Int) < l.length := of_decide_eq_false h
    have : k = l.length := by omega
    subst this
    conv => whnf
    refine ⟨rfl, ?_⟩
    show AV.fs 49 false (barsD (countL (l.take l.length))) (countL (l.take l.length)).length = _
    rw [List.take_length]
end Go.Qt
