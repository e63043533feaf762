/- PROVED: for every input the law FnExactFiltrationLine returns true and each argument reads afterwards as it read before (the statement 'FnExactFiltrationLineCardSaid' of the given Rows).
Conditions: none beyond those which the given statement itself names. This text is one part of the proof. -/
import Derived.Test.YtfcgjmbkcpeafaaGreatDoorFdSpec

namespace Go.Qt
open Go Go.Qv Go.Proofs
noncomputable def body59 : Code := match Tryz.f59.body with | some b => b | none => .skip
noncomputable def body68 : Code := match Tryz.f68.body with | some b => b | none => .skip
noncomputable def body58 : Code := match Tryz.f58.body with | some b => b | none => .skip
noncomputable def body44 : Code := match Tryz.f44.body with | some b => b | none => .skip
noncomputable def body37 : Code := match Tryz.f37.body with | some b => b | none => .skip
set_option maxHeartbeats 2000000

theorem ints_at {xs : List Int} {k : Nat} (h : k < xs.length) : (ints xs)[k]? = some (D.int .i64 (xs.getD k 0)) := by
  have e : xs.getD k 0 = xs[k] := by simp [h]
  rw [e]; exact ints_get h
theorem rows_at {es : List (List Int)} {k : Nat} (h : k < es.length) : (rows es)[k]? = some (D.sl (ints (es.getD k [])) (es.getD k []).length) := by
  have e : es.getD k [] = es[k] := by simp [h]
  rw [e]; exact rows_get h

theorem ints_m {xs : List Int} {k s : Nat} (hs : s = 1) (h : k < xs.length) : (ints xs)[mulS k s]? = some (D.int .i64 (xs.getD k 0)) := by
  subst hs; exact ints_at h
theorem ints_p {xs : List Int} {o k s : Nat} (hs : s = 1) (h : o + k < xs.length) : (ints xs)[o + mulS k s]? = some (D.int .i64 (xs.getD (o + k) 0)) := by
  subst hs; exact ints_at h
theorem rows_m {es : List (List Int)} {k s : Nat} (hs : s = 1) (h : k < es.length) : (rows es)[mulS k s]? = some (D.sl (ints (es.getD k [])) (es.getD k []).length) := by
  subst hs; exact rows_at h
theorem V1 {k : IntKind} {a b : Int} (h : a = b) : [AV.int k a] = [AV.int k b] := by rw [h]
theorem V2 {x0 : AV} {k : IntKind} {a b : Int} (h : a = b) : [x0, AV.int k a] = [x0, AV.int k b] := by rw [h]
theorem V3 {x0 x1 : AV} {k : IntKind} {a b : Int} (h : a = b) : [x0, x1, AV.int k a] = [x0, x1, AV.int k b] := by rw [h]
theorem V4 {x0 x1 x2 : AV} {k : IntKind} {a b : Int} (h : a = b) : [x0, x1, x2, AV.int k a] = [x0, x1, x2, AV.int k b] := by rw [h]
theorem V5 {x0 x1 x2 x3 : AV} {k : IntKind} {a b : Int} (h : a = b) : [x0, x1, x2, x3, AV.int k a] = [x0, x1, x2, x3, AV.int k b] := by rw [h]
theorem V6 {x0 x1 x2 x3 x4 : AV} {k : IntKind} {a b : Int} (h : a = b) : [x0, x1, x2, x3, x4, AV.int k a] = [x0, x1, x2, x3, x4, AV.int k b] := by rw [h]
theorem V7 {x0 x1 x2 x3 x4 x5 : AV} {k : IntKind} {a b : Int} (h : a = b) : [x0, x1, x2, x3, x4, x5, AV.int k a] = [x0, x1, x2, x3, x4, x5, AV.int k b] := by rw [h]
theorem V8 {x0 x1 x2 x3 x4 x5 x6 : AV} {k : IntKind} {a b : Int} (h : a = b) : [x0, x1, x2, x3, x4, x5, x6, AV.int k a] = [x0, x1, x2, x3, x4, x5, x6, AV.int k b] := by rw [h]
theorem V9 {x0 x1 x2 x3 x4 x5 x6 x7 : AV} {k : IntKind} {a b : Int} (h : a = b) : [x0, x1, x2, x3, x4, x5, x6, x7, AV.int k a] = [x0, x1, x2, x3, x4, x5, x6, x7, AV.int k b] := by rw [h]
theorem V10 {x0 x1 x2 x3 x4 x5 x6 x7 x8 : AV} {k : IntKind} {a b : Int} (h : a = b) : [x0, x1, x2, x3, x4, x5, x6, x7, x8, AV.int k a] = [x0, x1, x2, x3, x4, x5, x6, x7, x8, AV.int k b] := by rw [h]
theorem V11 {x0 x1 x2 x3 x4 x5 x6 x7 x8 x9 : AV} {k : IntKind} {a b : Int} (h : a = b) : [x0, x1, x2, x3, x4, x5, x6, x7, x8, x9, AV.int k a] = [x0, x1, x2, x3, x4, x5, x6, x7, x8, x9, AV.int k b] := by rw [h]
theorem V12 {x0 x1 x2 x3 x4 x5 x6 x7 x8 x9 x10 : AV} {k : IntKind} {a b : Int} (h : a = b) : [x0, x1, x2, x3, x4, x5, x6, x7, x8, x9, x10, AV.int k a] = [x0, x1, x2, x3, x4, x5, x6, x7, x8, x9, x10, AV.int k b] := by rw [h]
theorem V13 {x0 x1 x2 x3 x4 x5 x6 x7 x8 x9 x10 x11 : AV} {k : IntKind} {a b : Int} (h : a = b) : [x0, x1, x2, x3, x4, x5, x6, x7, x8, x9, x10, x11, AV.int k a] = [x0, x1, x2, x3, x4, x5, x6, x7, x8, x9, x10, x11, AV.int k b] := by rw [h]
theorem V14 {x0 x1 x2 x3 x4 x5 x6 x7 x8 x9 x10 x11 x12 : AV} {k : IntKind} {a b : Int} (h : a = b) : [x0, x1, x2, x3, x4, x5, x6, x7, x8, x9, x10, x11, x12, AV.int k a] = [x0, x1, x2, x3, x4, x5, x6, x7, x8, x9, x10, x11, x12, AV.int k b] := by rw [h]
theorem V15 {x0 x1 x2 x3 x4 x5 x6 x7 x8 x9 x10 x11 x12 x13 : AV} {k : IntKind} {a b : Int} (h : a = b) : [x0, x1, x2, x3, x4, x5, x6, x7, x8, x9, x10, x11, x12, x13, AV.int k a] = [x0, x1, x2, x3, x4, x5, x6, x7, x8, x9, x10, x11, x12, x13, AV.int k b] := by rw [h]
theorem wrap_pred {j : Nat} (h : j < 9223372036854775807) : IntKind.i64.wrap (((j + 1 : Nat) : Int) - 1) = (j : Int) := by rw [wrap_id (by omega) (by omega)]; omega

def outB (l h x : Int) : Bool := !decide (l ≤ x ∧ x ≤ h)
theorem ac59 (x l h : Int) : AC Tryz.prog 59 [.int .i64 x, .rp true [.int .i64 l] 0, .rp true [.int .i64 h] 0] (.bool (outB l h x)) := by
  refine AC_of_awp (E := env 10 [] [] 0) (env_ok _ _ _ _) mixed Tryz.call59 Tryz.func59 (code := body59) rfl rfl (by kernel_rfl) (Nat.le_of_ble_eq_true rfl) fun hl => ?_
  conv => whnf
  refine ⟨_, rfl, ?_⟩
  conv => whnf
  refine ⟨_, rfl, ?_⟩
  conv => whnf
  refine ⟨_, ac42 x l h, rfl, ?_⟩
  conv => whnf
  exact ⟨rfl, rfl⟩

def firstOut (l h : Int) (xs : List Int) : Int := match xs.findIdx? (outB l h) with | some k => (k : Int) | none => -1
theorem findIdx_at {α : Type} [Inhabited α] {p : α → Bool} {xs : List α} {k : Nat} (d : α) (h : k < xs.length) (hp : ∀ x ∈ xs.take k, p x = false) (hk : p (xs.getD k d) = true) : xs.findIdx? p = some k := by
  have e : xs.getD k d = xs[k] := by simp [h]
  rw [e] at hk
  rw [List.findIdx?_eq_some_iff_getElem]
  refine ⟨h, hk, fun j hj => ?_⟩
  rw [hp]; simp
  exact List.mem_iff_getElem.2 ⟨j, by simp; omega, by simp⟩
theorem take_snoc {α : Type} {xs : List α} {k : Nat} (d : α) (h : k < xs.length) : xs.take (k + 1) = xs.take k ++ [xs.getD k d] := by
  rw [List.take_add_one]; simp [h]
theorem ac68 (xs : List Int) (l h : Int) : AC Tryz.prog 68 [.rs true false (ints xs) xs.length, .fn 59 [.rp true [.int .i64 l] 0, .rp true [.int .i64 h] 0]] (.int .i64 (firstOut l h xs)) := by
  refine AC_of_awp (E := env 19 [] [] 0) (env_ok _ _ _ _) mixed Tryz.call68 Tryz.func68 (code := body68) rfl rfl (by kernel_rfl) (Nat.le_of_ble_eq_true rfl) fun hl => ?_
  conv => whnf
  have hx : xs.length ≤ 9223372036854775807 := lim_le hl.1.1
  clear hl
  refine ⟨Nat, [], [0, 1, 7, 8], fun k => [.rs true false (ints xs) xs.length, .fn 59 [.rp true [.int .i64 l] 0, .rp true [.int .i64 h] 0], .int .i64 xs.length, .int .i64 k], fun _ => [], fun k => k ≤ xs.length ∧ ∀ x ∈ xs.take k, outB l h x = false, fun k => xs.length - k, 0, fun _ => rfl, rfl,
      ⟨_, 0, rfl, ⟨Nat.zero_le _, by simp⟩, rfl, rfl, rfl, rfl⟩, fun k hk => ?_⟩
  obtain ⟨hk1, hk2⟩ := hk
  conv => whnf
  refine Bc_intro (fun hb => ?_) (fun hb => ?_)
  · have hb : (k : Int) < xs.length := of_decide_eq_true hb
    conv => whnf
    repeat (first
      | (refine ⟨_, ints_m rfl (by first | omega | (dsimp only; omega)), ?_⟩; conv => whnf)
      | (refine ⟨_, ints_p rfl (by first | omega | (dsimp only; omega)), ?_⟩; conv => whnf)
      | (refine ⟨_, rows_m rfl (by first | omega | (dsimp only; omega)), ?_⟩; conv => whnf)
      | (refine ⟨(D.int .i64 _ : D), rfl, ?_⟩; conv => whnf)
      | (refine ⟨(_ : Nat), rfl, (show (_ : Nat) < _ by omega), ?_⟩; conv => whnf)
      | (refine ⟨(_ : Nat), rfl, (show (_ : Nat) ≤ _ by omega), ?_⟩; conv => whnf)
      | (refine ⟨(_ : Nat), wrap_pred (by omega), (show (_ : Nat) < _ by omega), ?_⟩; conv => whnf)
      | (refine ⟨(0 : Nat), rfl, Nat.le_of_ble_eq_true rfl, ?_⟩; conv => whnf)
      | (refine ⟨(1 : Nat), rfl, Nat.le_of_ble_eq_true rfl, ?_⟩; conv => whnf)
      | (refine ⟨(2 : Nat), rfl, Nat.le_of_ble_eq_true rfl, ?_⟩; conv => whnf))
    refine ⟨_, ac59 _ _ _, rfl, ?_⟩
    conv => whnf
    refine Bc_intro (fun hq => ?_) (fun hq => ?_)
    · have hq : outB l h (xs.getD k 0) = true := hq
      conv => whnf
      refine ⟨rfl, ?_⟩
      show AV.int .i64 (k : Int) = _
      rw [firstOut, findIdx_at 0 (by omega) hk2 hq]
    · have hq : outB l h (xs.getD k 0) = false := hq
      conv => whnf
      refine ⟨k + 1, ⟨by omega, fun x hx => ?_⟩, (by show xs.length - (k + 1) < xs.length - k; omega), ?_, rfl, rfl, rfl⟩
      · rw [take_snoc 0 (by omega)] at hx
        rcases List.mem_append.1 hx with h1 | h1
        · exact hk2 x h1
        · rw [List.mem_singleton] at h1; rw [h1]; exact hq
      · exact V4 (wrap_succ (k := k) (n := 9223372036854775807) (by omega) (by omega))
  · have hb : ¬ (k : Int) < xs.length := of_decide_eq_false hb
    conv => whnf
    refine ⟨rfl, ?_⟩
    have : k = xs.length := by omega
    subst this
    rw [List.take_length] at hk2
    have : xs.findIdx? (outB l h) = none := List.findIdx?_eq_none_iff.2 (by simpa using hk2)
    rw [firstOut, this]; rfl

def allIn (l h : Int) (xs : List Int) : Bool := xs.all fun x => decide (l ≤ x ∧ x ≤ h)
theorem firstOut_ge (l h : Int) (xs : List Int) : decide (firstOut l h xs ≥ 0) = !allIn l h xs := by
  unfold firstOut allIn
  cases hf : xs.findIdx? (outB l h) with
  | some k =>
    rw [List.findIdx?_eq_some_iff_getElem] at hf
    obtain ⟨h1, h2, _⟩ := hf
    have : (xs.all fun x => decide (l ≤ x ∧ x ≤ h)) = false := by
      rw [List.all_eq_false]
      refine ⟨xs[k], List.getElem_mem h1, ?_⟩
      unfold outB at h2
      cases hd : decide (l ≤ xs[k] ∧ xs[k] ≤ h)
      · simp
      · rw [hd] at h2; cases h2
    rw [this]
    simp only [Bool.not_false, decide_eq_true_eq]; omega
  | none =>
    rw [List.findIdx?_eq_none_iff] at hf
    have : (xs.all fun x => decide (l ≤ x ∧ x ≤ h)) = true := by
      rw [List.all_eq_true]
      intro x hx
      have := hf x hx
      unfold outB at this
      cases hd : decide (l ≤ x ∧ x ≤ h)
      · rw [hd] at this; cases this
      · rfl
    rw [this]; rfl
theorem ac58 (xs : List Int) (l h : Int) : AC Tryz.prog 58 [.rs true false (ints xs) xs.length, .fn 59 [.rp true [.int .i64 l] 0, .rp true [.int .i64 h] 0]] (.bool (!allIn l h xs)) := by
  refine AC_of_awp (E := env 9 [] [] 0) (env_ok _ _ _ _) mixed Tryz.call58 Tryz.func58 (code := body58) rfl rfl (by kernel_rfl) (Nat.le_of_ble_eq_true rfl) fun hl => ?_
  conv => whnf
  refine ⟨_, ac68 _ _ _, rfl, ?_⟩
  conv => whnf
  refine ⟨rfl, ?_⟩
  show AV.bool (decide (firstOut l h xs ≥ 0)) = _
  rw [firstOut_ge]
theorem ac44 (xs : List Int) (l h : Int) : AC Tryz.prog 44 [.rs true false (ints xs) xs.length, .int .i64 l, .int .i64 h] (.bool (allIn l h xs)) := by
  refine AC_of_awp (E := env 11 [] [] 0) (env_ok _ _ _ _) mixed Tryz.call44 Tryz.func44 (code := body44) rfl rfl (by kernel_rfl) (Nat.le_of_ble_eq_true rfl) fun hl => ?_
  conv => whnf
  refine ⟨_, ac58 _ _ _, rfl, ?_⟩
  conv => whnf
  refine ⟨rfl, ?_⟩
  show AV.bool (!(!allIn l h xs)) = _
  rw [Bool.not_not]

/-! ### impl.IsFiltration -/
noncomputable def body30 : Code := match Tryz.f30.body with | some b => b | none => .skip
theorem edge_in (s : Int) (b : List Int) (x y z : Int) : edgeOk s b [x, y, z] = (allIn 0 ((b.length : Int) - 1) [x, y] && !(x == y) && decide (imax (b.getD x.toNat 0) (b.getD y.toNat 0) ≤ z ∧ z ≤ s - 1)) := by
  simp [edgeOk, allIn]
theorem ac30 (s : Int) (b : List Int) (es : List (List Int)) : AC Tryz.prog 30 [flA s b es] (.bool (isFil s b es)) := by
  refine AC_of_awp (E := env 86 [] [] 0) (env_ok _ _ _ _) mixed Tryz.call30 Tryz.func30 (code := body30) rfl rfl (by kernel_rfl) (Nat.le_of_ble_eq_true rfl) fun hl => ?_
  conv => whnf
  refine ⟨_, ac42 _ _ _, rfl, ?_⟩
  conv => whnf
  refine Bc_intro (fun h1 => ?_) (fun h1 => ?_)
  · have h1 : decide (1 ≤ s ∧ s ≤ 5) = false := not_t h1
    conv => whnf
    refine ⟨rfl, ?_⟩
    show AV.bool false = _
    rw [isFil, h1]; rfl
  have h1 : decide (1 ≤ s ∧ s ≤ 5) = true := not_f h1
  conv => whnf
  refine ⟨_, ac42 _ _ _, rfl, ?_⟩
  conv => whnf
  refine Bc_intro (fun h2 => ?_) (fun h2 => ?_)
  · have h2 : decide (1 ≤ (b.length : Int) ∧ (b.length : Int) ≤ 4) = false := not_t h2
    conv => whnf
    refine ⟨rfl, ?_⟩
    show AV.bool false = _
    rw [isFil, h1, h2]; rfl
  have h2 : decide (1 ≤ (b.length : Int) ∧ (b.length : Int) ≤ 4) = true := not_f h2
  have hs : 1 ≤ s ∧ s ≤ 5 := by simpa using h1
  have hb : 1 ≤ b.length ∧ b.length ≤ 4 := by have : 1 ≤ (b.length : Int) ∧ (b.length : Int) ≤ 4 := by simpa using h2
                                              omega
  have hw : IntKind.i64.wrap (s - 1) = s - 1 := wrap_id (by omega) (by omega)
  conv => whnf
  refine ⟨_, ac44 _ _ _, rfl, ?_⟩
  conv => whnf
  refine Bc_intro (fun h4 => ?_) (fun h4 => ?_)
  · have h4 : allIn 0 (IntKind.i64.wrap (s - 1)) b = false := not_t h4
    rw [hw] at h4
    conv => whnf
    refine ⟨rfl, ?_⟩
    show AV.bool false = _
    have h4 : b.all (fun x => decide (0 ≤ x ∧ x ≤ s - 1)) = false := h4
    rw [isFil, h4]; simp
  have h4 : allIn 0 (IntKind.i64.wrap (s - 1)) b = true := not_f h4
  rw [hw] at h4
  have h4 : b.all (fun x => decide (0 ≤ x ∧ x ≤ s - 1)) = true := h4
  conv => whnf
  refine Bc_intro (fun h3 => ?_) (fun h3 => ?_)
  · have h3 : decide ((es.length : Int) > 8) = true := h3
    conv => whnf
    refine ⟨rfl, ?_⟩
    show AV.bool false = _
    rw [isFil, h1, h2, h3]; rfl
  have h3 : decide ((es.length : Int) > 8) = false := h3
  have he : es.length ≤ 8 := by have : ¬ (es.length : Int) > 8 := by simpa using h3
                                omega
  clear hl
  conv => whnf
  refine ⟨Nat, [], [1, 32, 33, 34], fun k => [.op 0 0, .rs true false (rows es) es.length, .int .i64 es.length, .int .i64 k], fun _ => [some (.var 28 [.int .i64 s, .rs true false (ints b) b.length, .rs true false (rows es) es.length])], fun k => k ≤ es.length ∧ (es.drop k).all (edgeOk s b) = es.all (edgeOk s b), fun k => es.length - k, 1, fun _ => rfl, rfl,
      ⟨_, 0, rfl, ⟨Nat.zero_le _, rfl⟩, rfl, rfl, rfl, rfl⟩, fun k hk => ?_⟩
  obtain ⟨hk1, hk2⟩ := hk
  conv => whnf
  refine Bc_intro (fun h => ?_) (fun h => ?_)
  · have h : (k : Int) < es.length := of_decide_eq_true h
    have hlt : k < es.length := by omega
    rw [all_drop hlt] at hk2
    have out : edgeOk s b es[k] = false → AV.bool false = .bool (isFil s b es) := fun hf => by
      rw [hf, Bool.false_and] at hk2
      have h4 : b.all (fun x => decide (0 ≤ x ∧ x ≤ s - 1)) = true := h4
      rw [isFil, h1, h2, h3, h4, ← hk2]; rfl
    have cont : edgeOk s b es[k] = true → (es.drop (k + 1)).all (edgeOk s b) = es.all (edgeOk s b) := fun hf => by
      rw [hf, Bool.true_and] at hk2; exact hk2
    have hget := rows_get (k := k) hlt
    generalize es[k] = e at *
    conv => whnf
    refine ⟨k, rfl, hlt, ?_⟩
    conv => whnf
    refine ⟨_, hget, ?_⟩
    conv => whnf
    refine Bc_intro (fun h5 => ?_) (fun h5 => ?_)
    · have h5 : (e.length : Int) ≠ 3 := by simpa using (show ((e.length : Int) != 3) = true from h5)
      conv => whnf
      refine ⟨rfl, out ?_⟩
      unfold edgeOk
      split
      · simp at h5
      · rfl
    have h5 : (e.length : Int) = 3 := by simpa using (show ((e.length : Int) != 3) = false from h5)
    obtain ⟨x, y, z, rfl⟩ := len3 h5
    conv => whnf
    repeat (first
      | (refine ⟨_, ints_m rfl (by first | omega | (dsimp only; omega)), ?_⟩; conv => whnf)
      | (refine ⟨_, ints_p rfl (by first | omega | (dsimp only; omega)), ?_⟩; conv => whnf)
      | (refine ⟨_, rows_m rfl (by first | omega | (dsimp only; omega)), ?_⟩; conv => whnf)
      | (refine ⟨(D.int .i64 _ : D), rfl, ?_⟩; conv => whnf)
      | (refine ⟨(_ : Nat), rfl, (show (_ : Nat) < _ by omega), ?_⟩; conv => whnf)
      | (refine ⟨(_ : Nat), rfl, (show (_ : Nat) ≤ _ by omega), ?_⟩; conv => whnf)
      | (refine ⟨(_ : Nat), wrap_pred (by omega), (show (_ : Nat) < _ by omega), ?_⟩; conv => whnf)
      | (refine ⟨(0 : Nat), rfl, Nat.le_of_ble_eq_true rfl, ?_⟩; conv => whnf)
      | (refine ⟨(1 : Nat), rfl, Nat.le_of_ble_eq_true rfl, ?_⟩; conv => whnf)
      | (refine ⟨(2 : Nat), rfl, Nat.le_of_ble_eq_true rfl, ?_⟩; conv => whnf))
    have hw1 : IntKind.i64.wrap ((b.length : Int) - 1) = (b.length : Int) - 1 := wrap_id (by omega) (by omega)
    have hsp := edge_in s b x y z
    refine ⟨_, ac44 [x, y] 0 _, rfl, ?_⟩
    conv => whnf
    refine Bc_intro (fun h6 => ?_) (fun h6 => ?_)
    · have h6 : allIn 0 (IntKind.i64.wrap ((b.length : Int) - 1)) [x, y] = false := not_t h6
      rw [hw1] at h6
      conv => whnf
      refine ⟨rfl, out ?_⟩
      rw [hsp, h6]; rfl
    have h6 : allIn 0 (IntKind.i64.wrap ((b.length : Int) - 1)) [x, y] = true := not_f h6
    rw [hw1] at h6
    conv => whnf
    repeat (first
      | (refine ⟨_, ints_m rfl (by first | omega | (dsimp only; omega)), ?_⟩; conv => whnf)
      | (refine ⟨_, ints_p rfl (by first | omega | (dsimp only; omega)), ?_⟩; conv => whnf)
      | (refine ⟨_, rows_m rfl (by first | omega | (dsimp only; omega)), ?_⟩; conv => whnf)
      | (refine ⟨(D.int .i64 _ : D), rfl, ?_⟩; conv => whnf)
      | (refine ⟨(_ : Nat), rfl, (show (_ : Nat) < _ by omega), ?_⟩; conv => whnf)
      | (refine ⟨(_ : Nat), rfl, (show (_ : Nat) ≤ _ by omega), ?_⟩; conv => whnf)
      | (refine ⟨(_ : Nat), wrap_pred (by omega), (show (_ : Nat) < _ by omega), ?_⟩; conv => whnf)
      | (refine ⟨(0 : Nat), rfl, Nat.le_of_ble_eq_true rfl, ?_⟩; conv => whnf)
      | (refine ⟨(1 : Nat), rfl, Nat.le_of_ble_eq_true rfl, ?_⟩; conv => whnf)
      | (refine ⟨(2 : Nat), rfl, Nat.le_of_ble_eq_true rfl, ?_⟩; conv => whnf))
    refine Bc_intro (fun h8 => ?_) (fun h8 => ?_)
    · have h8 : (x == y) = true := h8
      conv => whnf
      refine ⟨rfl, out ?_⟩
      rw [hsp, h6, h8]; rfl
    have h8 : (x == y) = false := h8
    have hxy : (0 ≤ x ∧ x ≤ (b.length : Int) - 1) ∧ (0 ≤ y ∧ y ≤ (b.length : Int) - 1) := by simpa [allIn] using h6
    obtain ⟨xi, rfl⟩ : ∃ xi : Nat, x = xi := ⟨x.toNat, by omega⟩
    obtain ⟨yi, rfl⟩ : ∃ yi : Nat, y = yi := ⟨y.toNat, by omega⟩
    conv => whnf
    repeat (first
      | (refine ⟨_, ints_m rfl (by first | omega | (dsimp only; omega)), ?_⟩; conv => whnf)
      | (refine ⟨_, ints_p rfl (by first | omega | (dsimp only; omega)), ?_⟩; conv => whnf)
      | (refine ⟨_, rows_m rfl (by first | omega | (dsimp only; omega)), ?_⟩; conv => whnf)
      | (refine ⟨(D.int .i64 _ : D), rfl, ?_⟩; conv => whnf)
      | (refine ⟨(_ : Nat), rfl, (show (_ : Nat) < _ by omega), ?_⟩; conv => whnf)
      | (refine ⟨(_ : Nat), rfl, (show (_ : Nat) ≤ _ by omega), ?_⟩; conv => whnf)
      | (refine ⟨(_ : Nat), wrap_pred (by omega), (show (_ : Nat) < _ by omega), ?_⟩; conv => whnf)
      | (refine ⟨(0 : Nat), rfl, Nat.le_of_ble_eq_true rfl, ?_⟩; conv => whnf)
      | (refine ⟨(1 : Nat), rfl, Nat.le_of_ble_eq_true rfl, ?_⟩; conv => whnf)
      | (refine ⟨(2 : Nat), rfl, Nat.le_of_ble_eq_true rfl, ?_⟩; conv => whnf))
    refine ⟨_, ac42 z (imax (b.getD xi 0) (b.getD yi 0)) _, rfl, ?_⟩
    conv => whnf
    refine Bc_intro (fun h9 => ?_) (fun h9 => ?_)
    · have h9 : decide (imax (b.getD xi 0) (b.getD yi 0) ≤ z ∧ z ≤ IntKind.i64.wrap (s - 1)) = false := not_t h9
      rw [hw] at h9
      conv => whnf
      refine ⟨rfl, out ?_⟩
      rw [hsp, h6, h8]
      simp only [Int.toNat_natCast, h9]; rfl
    · have h9 : decide (imax (b.getD xi 0) (b.getD yi 0) ≤ z ∧ z ≤ IntKind.i64.wrap (s - 1)) = true := not_f h9
      rw [hw] at h9
      conv => whnf
      refine ⟨k + 1, ⟨hlt, cont ?_⟩, (by show es.length - (k + 1) < es.length - k; omega), ?_, rfl, rfl, rfl⟩
      · rw [hsp, h6, h8]
        simp only [Int.toNat_natCast, h9]; rfl
      · exact V4 (wrap_succ (k := k) (n := 9223372036854775807) (by omega) (by omega))
  · have h : ¬ (k : Int) < es.length := of_decide_eq_false h
    conv => whnf
    have : k = es.length := by omega
    subst this
    simp only [List.drop_length, List.all_nil] at hk2
    refine ⟨rfl, ?_⟩
    show AV.bool true = _
    have h4 : b.all (fun x => decide (0 ≤ x ∧ x ≤ s - 1)) = true := h4
    rw [isFil, h1, h2, h3, h4, ← hk2]; rfl

theorem ac37 (s : Int) (b : List Int) (es : List (List Int)) (t : Int) : AC Tryz.prog 37 [flA s b es, .int .i64 t] (.bool (hasStage s b es t)) := by
  refine AC_of_awp (E := env 14 [] [] 0) (env_ok _ _ _ _) mixed Tryz.call37 Tryz.func37 (code := body37) rfl rfl (by kernel_rfl) (Nat.le_of_ble_eq_true rfl) fun hl => ?_
  conv => whnf
  refine ⟨_, ac30 s b es, rfl, ?_⟩
  conv => whnf
  refine Bc_intro (fun h1 => ?_) (fun h1 => ?_)
  · have h1 : isFil s b es = true := h1
    obtain ⟨hs, hb, _⟩ := fil_bounds h1
    have hw : IntKind.i64.wrap (s - 1) = s - 1 := wrap_id (by omega) (by omega)
    conv => whnf
    refine ⟨_, ac42 t 0 _, rfl, ?_⟩
    conv => whnf
    refine ⟨rfl, ?_⟩
    show AV.bool (decide (0 ≤ t ∧ t ≤ IntKind.i64.wrap (s - 1))) = _
    rw [hw, hasStage, h1]; rfl
  · have h1 : isFil s b es = false := h1
    conv => whnf
    refine ⟨rfl, ?_⟩
    rw [hasStage, h1]; rfl
end Go.Qt
