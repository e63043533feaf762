/- PROVED: for every input the law FnExactFiltrationLine returns true and each argument reads afterwards as it read before (the statement 'FnExactFiltrationLineCardSaid' of the given Rows).
Conditions: none beyond those which the given statement itself names. This text is one part of the proof. -/
import Derived.Test.YtfcgjmbkcpeafaaGreatDoorFfImpl

namespace Go.Qt
open Go Go.Qv Go.Proofs
noncomputable def body52 : Code := match Tryz.f52.body with | some b => b | none => .skip
set_option maxHeartbeats 4000000

/-- Neighbours that are alike, once. -/
def adjTo (l : List Int) : Nat → List Int
  | 0 => []
  | k + 1 => if k ≠ 0 ∧ l.getD k 0 = l.getD (k - 1) 0 then adjTo l k else adjTo l k ++ [l.getD k 0]
theorem adjTo_le (l : List Int) : ∀ k, (adjTo l k).length ≤ k
  | 0 => Nat.le_refl _
  | k + 1 => by
    have := adjTo_le l k
    simp only [adjTo]
    split
    · omega
    · simp; omega
def adj (l : List Int) : List Int := adjTo l l.length
theorem take_getD {c : List Int} {k : Nat} (h : k < c.length) : c.take (k + 1) = c.take k ++ [c.getD k 0] := by
  rw [List.take_add_one]; simp [h]
theorem take_set {c : List Int} {k : Nat} {v : Int} (h : k < c.length) : (c.set k v).take (k + 1) = c.take k ++ [v] := by
  rw [take_getD (by simpa using h), List.take_set_of_le (Nat.le_refl k)]
  simp [h]

theorem adj_full {l : List Int} (h : adj l = l) (k : Nat) (hk : k + 1 < l.length) : l.getD (k + 1) 0 ≠ l.getD k 0 := by
  intro he
  have key : ∀ m, k + 2 + m ≤ l.length → (adjTo l (k + 2 + m)).length ≤ k + 1 + m := by
    intro m
    induction m with
    | zero =>
      intro _
      have e : adjTo l (k + 2) = adjTo l (k + 1) := by
        show (if k + 1 ≠ 0 ∧ l.getD (k + 1) 0 = l.getD (k + 1 - 1) 0 then adjTo l (k + 1) else adjTo l (k + 1) ++ [l.getD (k + 1) 0]) = _
        rw [if_pos ⟨by omega, he⟩]
      show (adjTo l (k + 2)).length ≤ _
      rw [e]; exact adjTo_le l (k + 1)
    | succ m ih =>
      intro hm
      have := ih (by omega)
      show (adjTo l ((k + 2 + m) + 1)).length ≤ _
      simp only [adjTo]
      split
      · omega
      · simp; omega
  have := key (l.length - (k + 2)) (by omega)
  have e2 : k + 2 + (l.length - (k + 2)) = l.length := by omega
  rw [e2] at this
  have h3 : (adjTo l l.length).length = l.length := congrArg List.length h
  omega
theorem clear_tail {c : List Int} {k n : Nat} (hl : c.length = n) (hk : k ≤ n) : setND (ints c) k (List.replicate (n - k) (D.int .i64 0)) = ints (c.take k ++ List.replicate (n - k) 0) := by
  have e1 : (ints c).drop (k + (List.replicate (n - k) (D.int .i64 0)).length) = [] := by
    rw [List.length_replicate]; apply List.drop_of_length_le; rw [ints_len]; omega
  rw [setND, e1, List.append_nil]
  simp [ints, List.map_take]
theorem VV4 {x y : AV} {k k' : IntKind} {a b a' b' : Int} (h : a = b) (h' : a' = b') : [x, AV.int k a, y, AV.int k' a'] = [x, AV.int k b, y, AV.int k' b'] := by rw [h, h']
theorem aio52 (l : List Int) (hn : l.length ≤ 1048576) (h1 : 1 ≤ l.length) :
    ((adj l).length = l.length ∧ adj l = l ∧ AIO Tryz.prog 52 true [.ow 0 l.length] 3 (ints l) (.ow 0 l.length) true (ints l)) ∨
    (∃ q, q.length ≤ l.length ∧ AIO Tryz.prog 52 true [.ow 0 l.length] 3 (ints l) (.os 0 0 (adj l).length) true (ints (adj l ++ q))) := by
  by_cases hd : adj l = l
  · refine .inl ⟨by rw [hd], hd, ?_⟩
    refine AIO_of_awp (E := env 61 [] [] 1) (env_ok _ _ _ _) mixed Tryz.call52 Tryz.func52 (code := body52) rfl rfl (by kernel_rfl) (Nat.le_of_ble_eq_true rfl) (fun _ => rfl) fun hl hlc => ?_
    conv => whnf
    clear hl hlc
    refine Bc_intro (fun h => ?_) (fun h => ?_)
    · conv => whnf
      exact ⟨rfl, rfl, rfl⟩
    conv => whnf
    clear h
    refine ⟨Nat, [], [0, 3], fun k => [.ow 0 l.length, .int .i64 ((k + 1 : Nat) : Int)], fun _ => [some (.row 3 true (ints l))], fun k => k + 1 ≤ l.length, fun k => l.length - k, 1, fun _ => rfl, rfl,
      ⟨_, 0, rfl, h1, rfl, rfl, rfl, rfl⟩, fun k hk => ?_⟩
    conv => whnf
    refine Bc_intro (fun h => ?_) (fun h => ?_)
    · have h : ((k + 1 : Nat) : Int) < l.length := of_decide_eq_true h
      conv => whnf
      repeat (first
        | (refine ⟨_, ints_m rfl (by first | omega | (dsimp only; omega)), ?_⟩; conv => whnf)
        | (refine ⟨_, ints_p rfl (by first | omega | (dsimp only; omega)), ?_⟩; conv => whnf)
        | (refine ⟨_, rows_m rfl (by first | omega | (dsimp only; omega)), ?_⟩; conv => whnf)
        | (refine ⟨(D.int .i64 _ : D), rfl, ?_⟩; conv => whnf)
        | (refine ⟨(_ : Nat), rfl, (show (_ : Nat) < _ by first | omega | (dsimp only; omega)), ?_⟩; conv => whnf)
        | (refine ⟨(_ : Nat), rfl, (show (_ : Nat) ≤ _ by first | omega | (dsimp only; omega)), ?_⟩; conv => whnf)
        | (refine ⟨(_ : Nat), wrap_pred (by omega), (show (_ : Nat) < _ by first | omega | (dsimp only; omega)), ?_⟩; conv => whnf)
        | (refine ⟨(0 : Nat), rfl, Nat.le_of_ble_eq_true rfl, ?_⟩; conv => whnf)
        | (refine ⟨(1 : Nat), rfl, Nat.le_of_ble_eq_true rfl, ?_⟩; conv => whnf)
        | (refine ⟨(2 : Nat), rfl, Nat.le_of_ble_eq_true rfl, ?_⟩; conv => whnf))
      refine Bc_intro (fun hq => ?_) (fun hq => ?_)
      · have hq : l.getD (k + 1) 0 = l.getD k 0 := eq_of_beq hq
        exact absurd hq (adj_full hd k (by omega))
      · conv => whnf
        refine ⟨k + 1, (by show k + 1 + 1 ≤ l.length; omega), (by show l.length - (k + 1) < l.length - k; omega), ?_, rfl, rfl, rfl⟩
        exact V2 (wrap_succ (k := (k + 1)) (n := 9223372036854775807) (by omega) (by omega))
    · conv => whnf
      exact ⟨rfl, rfl, rfl⟩
  · refine .inr ⟨List.replicate (l.length - (adj l).length) 0, by simp, ?_⟩
    have h2 : 2 ≤ l.length := by
      rcases Nat.lt_or_ge 1 l.length with h | h
      · exact h
      · exfalso; apply hd
        match l, h1, h with
        | [x], _, _ => rfl
    refine AIO_of_awp (E := env 61 [] [] 1) (env_ok _ _ _ _) mixed Tryz.call52 Tryz.func52 (code := body52) rfl rfl (by kernel_rfl) (Nat.le_of_ble_eq_true rfl) (fun _ => rfl) fun hl hlc => ?_
    conv => whnf
    clear hl hlc
    refine Bc_intro (fun h => ?_) (fun h => ?_)
    · have h : (l.length : Int) < 2 := of_decide_eq_true h
      omega
    conv => whnf
    clear h
    refine ⟨Nat, [], [0, 3], fun k => [.ow 0 l.length, .int .i64 ((k + 1 : Nat) : Int)], fun _ => [some (.row 3 true (ints l))], fun k => k + 1 ≤ l.length ∧ adjTo l (k + 1) = l.take (k + 1), fun k => l.length - k, 1, fun _ => rfl, rfl,
      ⟨_, 0, rfl, ⟨h1, by simp [adjTo, take_getD (show 0 < l.length by omega)]⟩, rfl, rfl, rfl, rfl⟩, fun k hk => ?_⟩
    obtain ⟨hk, ha⟩ := hk
    conv => whnf
    refine Bc_intro (fun h => ?_) (fun h => ?_)
    · have h : ((k + 1 : Nat) : Int) < l.length := of_decide_eq_true h
      conv => whnf
      repeat (first
        | (refine ⟨_, ints_m rfl (by first | omega | (dsimp only; omega)), ?_⟩; conv => whnf)
        | (refine ⟨_, ints_p rfl (by first | omega | (dsimp only; omega)), ?_⟩; conv => whnf)
        | (refine ⟨_, rows_m rfl (by first | omega | (dsimp only; omega)), ?_⟩; conv => whnf)
        | (refine ⟨(D.int .i64 _ : D), rfl, ?_⟩; conv => whnf)
        | (refine ⟨(_ : Nat), rfl, (show (_ : Nat) < _ by first | omega | (dsimp only; omega)), ?_⟩; conv => whnf)
        | (refine ⟨(_ : Nat), rfl, (show (_ : Nat) ≤ _ by first | omega | (dsimp only; omega)), ?_⟩; conv => whnf)
        | (refine ⟨(_ : Nat), wrap_pred (by omega), (show (_ : Nat) < _ by first | omega | (dsimp only; omega)), ?_⟩; conv => whnf)
        | (refine ⟨(0 : Nat), rfl, Nat.le_of_ble_eq_true rfl, ?_⟩; conv => whnf)
        | (refine ⟨(1 : Nat), rfl, Nat.le_of_ble_eq_true rfl, ?_⟩; conv => whnf)
        | (refine ⟨(2 : Nat), rfl, Nat.le_of_ble_eq_true rfl, ?_⟩; conv => whnf))
      refine Bc_intro (fun hq => ?_) (fun hq => ?_)
      · have hq : l.getD (k + 1) 0 = l.getD k 0 := eq_of_beq hq
        conv => whnf
        repeat (first
          | (refine ⟨_, ints_m rfl (by first | omega | (dsimp only; omega)), ?_⟩; conv => whnf)
          | (refine ⟨_, ints_p rfl (by first | omega | (dsimp only; omega)), ?_⟩; conv => whnf)
          | (refine ⟨_, rows_m rfl (by first | omega | (dsimp only; omega)), ?_⟩; conv => whnf)
          | (refine ⟨(D.int .i64 _ : D), rfl, ?_⟩; conv => whnf)
          | (refine ⟨(_ : Nat), rfl, (show (_ : Nat) < _ by first | omega | (dsimp only; omega)), ?_⟩; conv => whnf)
          | (refine ⟨(_ : Nat), rfl, (show (_ : Nat) ≤ _ by first | omega | (dsimp only; omega)), ?_⟩; conv => whnf)
          | (refine ⟨(_ : Nat), wrap_pred (by omega), (show (_ : Nat) < _ by first | omega | (dsimp only; omega)), ?_⟩; conv => whnf)
          | (refine ⟨(0 : Nat), rfl, Nat.le_of_ble_eq_true rfl, ?_⟩; conv => whnf)
          | (refine ⟨(1 : Nat), rfl, Nat.le_of_ble_eq_true rfl, ?_⟩; conv => whnf)
          | (refine ⟨(2 : Nat), rfl, Nat.le_of_ble_eq_true rfl, ?_⟩; conv => whnf))
        refine ⟨Nat × Nat × List Int, [], [0, 3, 4, 5], fun a => [.ow 0 l.length, .int .i64 (a.2.1 : Int), .os 0 (k + 1) (l.length - (k + 1)), .int .i64 ((a.1 + 1 : Nat) : Int)], fun a => [some (.row 3 true (ints a.2.2))],
          fun a => (k + 1) + (a.1 + 1) ≤ l.length ∧ a.2.2.length = l.length ∧ a.2.1 = (adjTo l (k + 1 + (a.1 + 1))).length ∧ a.2.2.take a.2.1 = adjTo l (k + 1 + (a.1 + 1)) ∧ a.2.1 ≤ k + 1 + a.1 ∧ ∀ i, k + 1 + a.1 ≤ i → a.2.2.getD i 0 = l.getD i 0,
          fun a => l.length - a.1, 1, fun _ => rfl, rfl,
          ⟨_, (0, k + 1, l), rfl, ⟨by show k + 1 + 1 ≤ _; omega, rfl, ?_, ?_, Nat.le_refl _, fun _ _ => rfl⟩, rfl, rfl, rfl, rfl⟩, fun a ha => ?_⟩
        · show k + 1 = (adjTo l (k + 2)).length
          rw [adjTo, if_pos ⟨by omega, hq⟩, ha, List.length_take]; omega
        · show l.take (k + 1) = adjTo l (k + 2)
          rw [adjTo, if_pos ⟨by omega, hq⟩, ha]
        obtain ⟨m, kk, c⟩ := a
        obtain ⟨i1, i2, i3, i4, i5, i6⟩ := ha
        simp only at i1 i2 i3 i4 i5 i6
        conv => whnf
        refine Bc_intro (fun h => ?_) (fun h => ?_)
        · have h : ((m + 1 : Nat) : Int) < ((l.length - (k + 1) : Nat) : Int) := of_decide_eq_true h
          conv => whnf
          repeat (first
            | (refine ⟨_, ints_m rfl (by first | omega | (dsimp only; omega)), ?_⟩; conv => whnf)
            | (refine ⟨_, ints_p rfl (by first | omega | (dsimp only; omega)), ?_⟩; conv => whnf)
            | (refine ⟨_, rows_m rfl (by first | omega | (dsimp only; omega)), ?_⟩; conv => whnf)
            | (refine ⟨(D.int .i64 _ : D), rfl, ?_⟩; conv => whnf)
            | (refine ⟨(_ : Nat), rfl, (show (_ : Nat) < _ by first | omega | (dsimp only; omega)), ?_⟩; conv => whnf)
            | (refine ⟨(_ : Nat), rfl, (show (_ : Nat) ≤ _ by first | omega | (dsimp only; omega)), ?_⟩; conv => whnf)
            | (refine ⟨(_ : Nat), wrap_pred (by omega), (show (_ : Nat) < _ by first | omega | (dsimp only; omega)), ?_⟩; conv => whnf)
            | (refine ⟨(0 : Nat), rfl, Nat.le_of_ble_eq_true rfl, ?_⟩; conv => whnf)
            | (refine ⟨(1 : Nat), rfl, Nat.le_of_ble_eq_true rfl, ?_⟩; conv => whnf)
            | (refine ⟨(2 : Nat), rfl, Nat.le_of_ble_eq_true rfl, ?_⟩; conv => whnf))
          have e1 : c.getD (k + 1 + (m + 1)) 0 = l.getD (k + 1 + (m + 1)) 0 := i6 _ (by omega)
          have e2 : c.getD (k + 1 + m) 0 = l.getD (k + 1 + m) 0 := i6 _ (by omega)
          have e3 : k + 1 + (m + 1) - 1 = k + 1 + m := by omega
          have e4 : adjTo l (k + 1 + (m + 1 + 1)) = if k + 1 + (m + 1) ≠ 0 ∧ l.getD (k + 1 + (m + 1)) 0 = l.getD (k + 1 + (m + 1) - 1) 0 then adjTo l (k + 1 + (m + 1)) else adjTo l (k + 1 + (m + 1)) ++ [l.getD (k + 1 + (m + 1)) 0] := rfl
          rw [e3] at e4
          refine Bc_intro (fun hne => ?_) (fun hne => ?_)
          · have hne : l.getD (k + 1 + (m + 1)) 0 ≠ l.getD (k + 1 + m) 0 := by
              have : (c.getD (k + 1 + (m + 1)) 0 != c.getD (k + 1 + m) 0) = true := hne
              rw [e1, e2] at this
              simpa using this
            rw [if_neg (fun hh => hne hh.2)] at e4
            conv => whnf
            repeat (first
              | (refine ⟨_, ints_m rfl (by first | omega | (dsimp only; omega)), ?_⟩; conv => whnf)
              | (refine ⟨_, ints_p rfl (by first | omega | (dsimp only; omega)), ?_⟩; conv => whnf)
              | (refine ⟨_, rows_m rfl (by first | omega | (dsimp only; omega)), ?_⟩; conv => whnf)
              | (refine ⟨(D.int .i64 _ : D), rfl, ?_⟩; conv => whnf)
              | (refine ⟨(_ : Nat), rfl, (show (_ : Nat) < _ by first | omega | (dsimp only; omega)), ?_⟩; conv => whnf)
              | (refine ⟨(_ : Nat), rfl, (show (_ : Nat) ≤ _ by first | omega | (dsimp only; omega)), ?_⟩; conv => whnf)
              | (refine ⟨(_ : Nat), wrap_pred (by omega), (show (_ : Nat) < _ by first | omega | (dsimp only; omega)), ?_⟩; conv => whnf)
              | (refine ⟨(0 : Nat), rfl, Nat.le_of_ble_eq_true rfl, ?_⟩; conv => whnf)
              | (refine ⟨(1 : Nat), rfl, Nat.le_of_ble_eq_true rfl, ?_⟩; conv => whnf)
              | (refine ⟨(2 : Nat), rfl, Nat.le_of_ble_eq_true rfl, ?_⟩; conv => whnf))
            refine ⟨(show kk + 1 ≤ (ints c).length by rw [ints_len]; omega), ?_⟩
            conv => whnf
            refine ⟨(m + 1, kk + 1, c.set kk (c.getD (k + 1 + (m + 1)) 0)), ⟨by show k + 1 + (m + 1 + 1) ≤ _; omega, by show (c.set _ _).length = _; simp [i2], ?_, ?_, by show kk + 1 ≤ k + 1 + (m + 1); omega, ?_⟩, (by show l.length - (m + 1) < l.length - m; omega), ?_, ?_, rfl, rfl⟩
            · show kk + 1 = (adjTo l (k + 1 + (m + 1 + 1))).length
              rw [e4, List.length_append, ← i3]; rfl
            · show (c.set kk _).take (kk + 1) = adjTo l (k + 1 + (m + 1 + 1))
              rw [take_set (by omega), i4, e4, e1]
            · intro i hi
              have hi : k + 1 + (m + 1) ≤ i := hi
              show (c.set kk _).getD i 0 = _
              rw [List.getD_eq_getElem?_getD, List.getElem?_set_ne (by omega), ← List.getD_eq_getElem?_getD]
              exact i6 i (by omega)
            · exact VV4 (wrap_succ (k := kk) (n := 9223372036854775807) (by omega) (by omega)) (wrap_succ (k := m + 1) (n := 9223372036854775807) (by omega) (by omega))
            · have e : setND (ints c) kk [D.int .i64 (c.getD (k + 1 + (m + 1)) 0)] = ints (c.set kk (c.getD (k + 1 + (m + 1)) 0)) := ints_set (by omega)
              exact row1 e
          · have hne : l.getD (k + 1 + (m + 1)) 0 = l.getD (k + 1 + m) 0 := by
              have : (c.getD (k + 1 + (m + 1)) 0 != c.getD (k + 1 + m) 0) = false := hne
              rw [e1, e2] at this
              simpa using this
            rw [if_pos ⟨by omega, hne⟩] at e4
            conv => whnf
            refine ⟨(m + 1, kk, c), ⟨by show k + 1 + (m + 1 + 1) ≤ _; omega, i2, ?_, ?_, by show kk ≤ k + 1 + (m + 1); omega, ?_⟩, (by show l.length - (m + 1) < l.length - m; omega), ?_, rfl, rfl, rfl⟩
            · show kk = (adjTo l (k + 1 + (m + 1 + 1))).length
              rw [e4, ← i3]
            · show c.take kk = adjTo l (k + 1 + (m + 1 + 1))
              rw [e4, i4]
            · intro i hi
              exact i6 i (by have hi : k + 1 + (m + 1) ≤ i := hi; omega)
            · exact V4 (wrap_succ (k := (m + 1)) (n := 9223372036854775807) (by omega) (by omega))
        · have h : ¬ ((m + 1 : Nat) : Int) < ((l.length - (k + 1) : Nat) : Int) := of_decide_eq_false h
          have en : k + 1 + (m + 1) = l.length := by omega
          rw [en] at i3 i4
          conv => whnf
          repeat (first
            | (refine ⟨_, ints_m rfl (by first | omega | (dsimp only; omega)), ?_⟩; conv => whnf)
            | (refine ⟨_, ints_p rfl (by first | omega | (dsimp only; omega)), ?_⟩; conv => whnf)
            | (refine ⟨_, rows_m rfl (by first | omega | (dsimp only; omega)), ?_⟩; conv => whnf)
            | (refine ⟨(D.int .i64 _ : D), rfl, ?_⟩; conv => whnf)
            | (refine ⟨(_ : Nat), rfl, (show (_ : Nat) < _ by first | omega | (dsimp only; omega)), ?_⟩; conv => whnf)
            | (refine ⟨(_ : Nat), rfl, (show (_ : Nat) ≤ _ by first | omega | (dsimp only; omega)), ?_⟩; conv => whnf)
            | (refine ⟨(_ : Nat), wrap_pred (by omega), (show (_ : Nat) < _ by first | omega | (dsimp only; omega)), ?_⟩; conv => whnf)
            | (refine ⟨(0 : Nat), rfl, Nat.le_of_ble_eq_true rfl, ?_⟩; conv => whnf)
            | (refine ⟨(1 : Nat), rfl, Nat.le_of_ble_eq_true rfl, ?_⟩; conv => whnf)
            | (refine ⟨(2 : Nat), rfl, Nat.le_of_ble_eq_true rfl, ?_⟩; conv => whnf))
          refine ⟨(show kk + (List.replicate (l.length - kk) (D.int .i64 0)).length ≤ (ints c).length by rw [ints_len, List.length_replicate]; omega), ?_⟩
          conv => whnf
          repeat (first
            | (refine ⟨_, ints_m rfl (by first | omega | (dsimp only; omega)), ?_⟩; conv => whnf)
            | (refine ⟨_, ints_p rfl (by first | omega | (dsimp only; omega)), ?_⟩; conv => whnf)
            | (refine ⟨_, rows_m rfl (by first | omega | (dsimp only; omega)), ?_⟩; conv => whnf)
            | (refine ⟨(D.int .i64 _ : D), rfl, ?_⟩; conv => whnf)
            | (refine ⟨(_ : Nat), rfl, (show (_ : Nat) < _ by first | omega | (dsimp only; omega)), ?_⟩; conv => whnf)
            | (refine ⟨(_ : Nat), rfl, (show (_ : Nat) ≤ _ by first | omega | (dsimp only; omega)), ?_⟩; conv => whnf)
            | (refine ⟨(_ : Nat), wrap_pred (by omega), (show (_ : Nat) < _ by first | omega | (dsimp only; omega)), ?_⟩; conv => whnf)
            | (refine ⟨(0 : Nat), rfl, Nat.le_of_ble_eq_true rfl, ?_⟩; conv => whnf)
            | (refine ⟨(1 : Nat), rfl, Nat.le_of_ble_eq_true rfl, ?_⟩; conv => whnf)
            | (refine ⟨(2 : Nat), rfl, Nat.le_of_ble_eq_true rfl, ?_⟩; conv => whnf))
          refine ⟨?_, rfl, ?_⟩
          · show AV.os 0 0 kk = AV.os 0 0 (adj l).length
            rw [i3]; rfl
          · show some (Blk.row 3 true (setND (ints c) kk (List.replicate (l.length - kk) (D.int .i64 0)))) = _
            rw [clear_tail i2 (by omega), i4, i3]; rfl
      · have hq : l.getD (k + 1) 0 ≠ l.getD k 0 := fun e => by
          have : (l.getD (k + 1) 0 == l.getD k 0) = false := hq
          rw [e] at this; simp at this
        conv => whnf
        refine ⟨k + 1, ⟨by omega, ?_⟩, (by show l.length - (k + 1) < l.length - k; omega), ?_, rfl, rfl, rfl⟩
        · rw [adjTo, if_neg (fun hh => hq hh.2), ha, take_getD (k := k + 1) (by omega)]
        · exact V2 (wrap_succ (k := (k + 1)) (n := 9223372036854775807) (by omega) (by omega))
    · have h : ¬ ((k + 1 : Nat) : Int) < l.length := of_decide_eq_false h
      have : k + 1 = l.length := by omega
      rw [this, List.take_length] at ha
      exact absurd ha hd
end Go.Qt
