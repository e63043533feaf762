/- PROVED: for every input the law FnExactFiltrationLine returns true and each argument reads afterwards as it read before (the statement 'FnExactFiltrationLineCardSaid' of the given Rows).
Conditions: none beyond those which the given statement itself names. This text is one part of the proof. -/
import Derived.Test.YtfcgjmbkcpeafaaGreatDoorFeImpl

namespace Go.Qt
open Go Go.Qv Go.Proofs
noncomputable def body54 : Code := match Tryz.f54.body with | some b => b | none => .skip
noncomputable def body36 : Code := match Tryz.f36.body with | some b => b | none => .skip
set_option maxHeartbeats 4000000

theorem setND_len1 {cs : List D} {k : Nat} {x : D} (h : k < cs.length) : (setND cs k [x]).length = cs.length := by
  simp [setND]; omega
theorem row1 {e : TypeId} {m : Bool} {p q : List D} (h : p = q) : [some (Blk.row e m p)] = [some (Blk.row e m q)] := by rw [h]
theorem row2 {v : Option Blk} {e : TypeId} {m : Bool} {p q : List D} (h : p = q) : [v, some (Blk.row e m p)] = [v, some (Blk.row e m q)] := by rw [h]
theorem row3 {v : Option Blk} {e e' : TypeId} {m m' : Bool} {p q p' q' : List D} (h : p = q) (h' : p' = q') : [v, some (Blk.row e m p), some (Blk.row e' m' p')] = [v, some (Blk.row e m q), some (Blk.row e' m' q')] := by rw [h, h']
def startF (b : List Int) (t : Int) (k : Nat) : List Int := start b t k ++ List.replicate (b.length - k) 0
theorem startF_len (b : List Int) (t : Int) (k : Nat) (h : k ≤ b.length) : (startF b t k).length = b.length := by simp [startF, start_len]; omega
theorem startF_set (b : List Int) (t : Int) (k : Nat) (h : k < b.length) : (startF b t k).set k (if b.getD k 0 ≤ t then (k : Int) else -1) = startF b t (k + 1) := by
  have e1 : b.length - k = (b.length - (k + 1)) + 1 := by omega
  rw [startF, List.set_append_right _ _ (by rw [start_len]; exact Nat.le_refl _), start_len, Nat.sub_self, e1, List.replicate_succ, List.set_cons_zero, startF, start_succ]
  simp
theorem ac54 (s : Int) (b : List Int) (es : List (List Int)) (t : Int) (hv : hasStage s b es t = true) : AC Tryz.prog 54 [flA s b es, .int .i64 t] (.fs 3 false (ints (comps s b es t)) (comps s b es t).length) := by
  have hv2 := hv
  simp only [hasStage, Bool.and_eq_true] at hv2
  obtain ⟨hfil, hrange⟩ := hv2
  obtain ⟨hs, hb, he, _, hedge⟩ := fil_bounds hfil
  refine AC_of_awp (E := env 78 [] [] 0) (env_ok _ _ _ _) mixed Tryz.call54 Tryz.func54 (code := body54) rfl rfl (by kernel_rfl) (Nat.le_of_ble_eq_true rfl) fun hl => ?_
  conv => whnf
  clear hl
  refine ⟨b.length, rfl, b.length, rfl, Nat.le_refl _, sizeLim_of (by show b.length * 8 ≤ _; omega), intLim_of' (by omega), ?_⟩
  conv => whnf
  refine ⟨Nat, [], [1, 2, 5, 16, 17, 18], fun k => [.int .i64 t, .op 0 0, .ow 1 b.length, .rs true false (ints b) b.length, .int .i64 b.length, .int .i64 k], fun k => [some (.var 28 [.int .i64 s, .rs true false (ints b) b.length, .rs true false (rows es) es.length]), some (.row 3 false (ints (startF b t k)))], fun k => k ≤ b.length, fun k => b.length - k, 2, fun _ => rfl, rfl,
      ⟨_, 0, rfl, Nat.zero_le _, rfl, ?_, rfl, rfl⟩, fun k hk => ?_⟩
  · show [_, some (Blk.row 3 false (List.replicate b.length (D.int .i64 0)))] = _
    simp [startF, start, ints]; rfl
  conv => whnf
  refine Bc_intro (fun h => ?_) (fun h => ?_)
  · have h : (k : Int) < b.length := of_decide_eq_true h
    have hst := startF_len b t k hk
    have hlt : k < b.length := by omega
    have hset := startF_set b t k hlt
    conv => whnf
    repeat (first
      | (refine ⟨_, ints_m rfl (by first | omega | (dsimp only; omega)), ?_⟩; conv => whnf)
      | (refine ⟨_, ints_p rfl (by first | omega | (dsimp only; omega)), ?_⟩; conv => whnf)
      | (refine ⟨_, rows_m rfl (by first | omega | (dsimp only; omega)), ?_⟩; conv => whnf)
      | (refine ⟨(D.int .i64 _ : D), rfl, ?_⟩; conv => whnf)
      | (refine ⟨(_ : Nat), rfl, (show (_ : Nat) < _ by omega), ?_⟩; conv => whnf)
      | (refine ⟨(_ : Nat), rfl, (show (_ : Nat) ≤ _ by omega), ?_⟩; conv => whnf)
      | (refine ⟨(_ : Nat), wrap_pred (by omega), (show (_ : Nat) < _ by omega), ?_⟩; conv => whnf)
      | (refine ⟨(0 : Nat), rfl, Nat.le_of_ble_eq_true rfl, ?_⟩; conv => whnf)
      | (refine ⟨(1 : Nat), rfl, Nat.le_of_ble_eq_true rfl, ?_⟩; conv => whnf)
      | (refine ⟨(2 : Nat), rfl, Nat.le_of_ble_eq_true rfl, ?_⟩; conv => whnf))
    refine ⟨(by rw [ints_len]; show k + 1 ≤ _; omega), ?_⟩
    conv => whnf
    refine Bc_intro (fun h2 => ?_) (fun h2 => ?_)
    · have h2 : b.getD k 0 > t := of_decide_eq_true h2
      conv => whnf
      repeat (first
        | (refine ⟨_, ints_m rfl (by first | omega | (dsimp only; omega)), ?_⟩; conv => whnf)
        | (refine ⟨_, ints_p rfl (by first | omega | (dsimp only; omega)), ?_⟩; conv => whnf)
        | (refine ⟨_, rows_m rfl (by first | omega | (dsimp only; omega)), ?_⟩; conv => whnf)
        | (refine ⟨(D.int .i64 _ : D), rfl, ?_⟩; conv => whnf)
        | (refine ⟨(_ : Nat), rfl, (show (_ : Nat) < _ by omega), ?_⟩; conv => whnf)
        | (refine ⟨(_ : Nat), rfl, (show (_ : Nat) ≤ _ by omega), ?_⟩; conv => whnf)
        | (refine ⟨(_ : Nat), wrap_pred (by omega), (show (_ : Nat) < _ by omega), ?_⟩; conv => whnf)
        | (refine ⟨(0 : Nat), rfl, Nat.le_of_ble_eq_true rfl, ?_⟩; conv => whnf)
        | (refine ⟨(1 : Nat), rfl, Nat.le_of_ble_eq_true rfl, ?_⟩; conv => whnf)
        | (refine ⟨(2 : Nat), rfl, Nat.le_of_ble_eq_true rfl, ?_⟩; conv => whnf))
      refine ⟨(by rw [setND_len1 (by rw [ints_len]; show k < _; omega), ints_len]; show k + 1 ≤ _; omega), ?_⟩
      conv => whnf
      refine ⟨k + 1, hlt, (by show b.length - (k + 1) < b.length - k; omega), ?_, ?_, rfl, rfl⟩
      · exact V6 (wrap_succ (k := k) (n := 9223372036854775807) (by omega) (by omega))
      · have e : setND (setND (ints (startF b t k)) k [D.int .i64 (k : Int)]) k [D.int .i64 (-1)] = ints (startF b t (k + 1)) := by
          rw [ints_set (by omega), ints_set (by simp; omega), List.set_set, ← hset, if_neg (by omega)]
        exact row2 e
    · have h2 : ¬ b.getD k 0 > t := of_decide_eq_false h2
      conv => whnf
      refine ⟨k + 1, hlt, (by show b.length - (k + 1) < b.length - k; omega), ?_, ?_, rfl, rfl⟩
      · exact V6 (wrap_succ (k := k) (n := 9223372036854775807) (by omega) (by omega))
      · have e : setND (ints (startF b t k)) k [D.int .i64 (k : Int)] = ints (startF b t (k + 1)) := by
          rw [ints_set (by omega), ← hset, if_pos (by omega)]
        exact row2 e
  have h : ¬ (k : Int) < b.length := of_decide_eq_false h
  have : k = b.length := by omega
  subst this
  have hfull : startF b t b.length = start b t b.length := by simp [startF]
  have hc0l : (start b t b.length).length = b.length := start_len _ _ _
  generalize hc0 : start b t b.length = c0 at *
  conv => whnf
  refine ⟨Nat, [], [1, 2, 5, 35, 36], fun k => [.int .i64 t, .op 0 0, .ow 1 b.length, .int .i64 b.length, .int .i64 k], fun k => [some (.var 28 [.int .i64 s, .rs true false (ints b) b.length, .rs true false (rows es) es.length]), some (.row 3 false (ints (rounds t es c0 k)))], fun k => k ≤ b.length, fun k => b.length - k, 2, fun _ => rfl, rfl,
      ⟨_, 0, rfl, Nat.zero_le _, rfl, ?_, rfl, rfl⟩, fun r hr => ?_⟩
  · show [_, some (Blk.row 3 false (ints (startF b t b.length)))] = _
    rw [hfull]; rfl
  conv => whnf
  refine Bc_intro (fun h => ?_) (fun h => ?_)
  · have h : (r : Int) < b.length := of_decide_eq_true h
    conv => whnf
    refine ⟨Nat × List Int, [], [1, 2, 5, 35, 36, 39, 40, 41], fun a => [.int .i64 t, .op 0 0, .ow 1 b.length, .int .i64 b.length, .int .i64 r, .rs true false (rows es) es.length, .int .i64 es.length, .int .i64 a.1], fun a => [some (.var 28 [.int .i64 s, .rs true false (ints b) b.length, .rs true false (rows es) es.length]), some (.row 3 false (ints a.2))], fun a => a.1 ≤ es.length ∧ a.2 = (es.take a.1).foldl (relax t) (rounds t es c0 r), fun a => es.length - a.1, 2, fun _ => rfl, rfl,
        ⟨_, (0, rounds t es c0 r), rfl, ⟨Nat.zero_le _, rfl⟩, rfl, rfl, rfl, rfl⟩, fun a ha => ?_⟩
    obtain ⟨j, c⟩ := a
    obtain ⟨hj, hc⟩ := ha
    simp only at hj hc
    have hcl : c.length = b.length := by rw [hc, foldl_relax_len, rounds_len, hc0l]
    conv => whnf
    refine Bc_intro (fun h => ?_) (fun h => ?_)
    · have h : (j : Int) < es.length := of_decide_eq_true h
      have hjlt : j < es.length := by omega
      have hft := foldl_take (t := t) (c := rounds t es c0 r) hjlt
      rw [← hc] at hft
      have hget := rows_get (k := j) hjlt
      obtain ⟨x, y, z, hxyz, hx, hy, _, _, _, _⟩ := hedge _ (mem_get hjlt)
      rw [hxyz] at hget hft
      conv => whnf
      refine ⟨j, rfl, hjlt, ?_⟩
      conv => whnf
      refine ⟨_, hget, ?_⟩
      conv => whnf
      repeat (first
        | (refine ⟨_, ints_m rfl (by first | omega | (dsimp only; omega)), ?_⟩; conv => whnf)
        | (refine ⟨_, ints_p rfl (by first | omega | (dsimp only; omega)), ?_⟩; conv => whnf)
        | (refine ⟨_, rows_m rfl (by first | omega | (dsimp only; omega)), ?_⟩; conv => whnf)
        | (refine ⟨(D.int .i64 _ : D), rfl, ?_⟩; conv => whnf)
        | (refine ⟨(_ : Nat), rfl, (show (_ : Nat) < _ by omega), ?_⟩; conv => whnf)
        | (refine ⟨(_ : Nat), rfl, (show (_ : Nat) ≤ _ by omega), ?_⟩; conv => whnf)
        | (refine ⟨(_ : Nat), wrap_pred (by omega), (show (_ : Nat) < _ by omega), ?_⟩; conv => whnf)
        | (refine ⟨(0 : Nat), rfl, Nat.le_of_ble_eq_true rfl, ?_⟩; conv => whnf)
        | (refine ⟨(1 : Nat), rfl, Nat.le_of_ble_eq_true rfl, ?_⟩; conv => whnf)
        | (refine ⟨(2 : Nat), rfl, Nat.le_of_ble_eq_true rfl, ?_⟩; conv => whnf))
      refine Bc_intro (fun hz => ?_) (fun hz => ?_)
      · have hz : z ≤ t := of_decide_eq_true hz
        conv => whnf
        repeat (first
          | (refine ⟨_, ints_m rfl (by first | omega | (dsimp only; omega)), ?_⟩; conv => whnf)
          | (refine ⟨_, ints_p rfl (by first | omega | (dsimp only; omega)), ?_⟩; conv => whnf)
          | (refine ⟨_, rows_m rfl (by first | omega | (dsimp only; omega)), ?_⟩; conv => whnf)
          | (refine ⟨(D.int .i64 _ : D), rfl, ?_⟩; conv => whnf)
          | (refine ⟨(_ : Nat), rfl, (show (_ : Nat) < _ by omega), ?_⟩; conv => whnf)
          | (refine ⟨(_ : Nat), rfl, (show (_ : Nat) ≤ _ by omega), ?_⟩; conv => whnf)
          | (refine ⟨(_ : Nat), wrap_pred (by omega), (show (_ : Nat) < _ by omega), ?_⟩; conv => whnf)
          | (refine ⟨(0 : Nat), rfl, Nat.le_of_ble_eq_true rfl, ?_⟩; conv => whnf)
          | (refine ⟨(1 : Nat), rfl, Nat.le_of_ble_eq_true rfl, ?_⟩; conv => whnf)
          | (refine ⟨(2 : Nat), rfl, Nat.le_of_ble_eq_true rfl, ?_⟩; conv => whnf))
        refine ⟨(by rw [ints_len]; show x + 1 ≤ c.length; omega), ?_⟩
        conv => whnf
        repeat (first
          | (refine ⟨_, ints_m rfl (by first | omega | (dsimp only; omega)), ?_⟩; conv => whnf)
          | (refine ⟨_, ints_p rfl (by first | omega | (dsimp only; omega)), ?_⟩; conv => whnf)
          | (refine ⟨_, rows_m rfl (by first | omega | (dsimp only; omega)), ?_⟩; conv => whnf)
          | (refine ⟨(D.int .i64 _ : D), rfl, ?_⟩; conv => whnf)
          | (refine ⟨(_ : Nat), rfl, (show (_ : Nat) < _ by omega), ?_⟩; conv => whnf)
          | (refine ⟨(_ : Nat), rfl, (show (_ : Nat) ≤ _ by omega), ?_⟩; conv => whnf)
          | (refine ⟨(_ : Nat), wrap_pred (by omega), (show (_ : Nat) < _ by omega), ?_⟩; conv => whnf)
          | (refine ⟨(0 : Nat), rfl, Nat.le_of_ble_eq_true rfl, ?_⟩; conv => whnf)
          | (refine ⟨(1 : Nat), rfl, Nat.le_of_ble_eq_true rfl, ?_⟩; conv => whnf)
          | (refine ⟨(2 : Nat), rfl, Nat.le_of_ble_eq_true rfl, ?_⟩; conv => whnf))
        refine ⟨(by rw [setND_len1 (by rw [ints_len]; show x < c.length; omega), ints_len]; show y + 1 ≤ c.length; omega), ?_⟩
        conv => whnf
        refine ⟨(j + 1, relax t c [(x : Int), (y : Int), z]), ⟨hjlt, hft.symm⟩, (by show es.length - (j + 1) < es.length - j; omega), ?_, ?_, rfl, rfl⟩
        · exact V8 (wrap_succ (k := j) (n := 9223372036854775807) (by omega) (by omega))
        · have e : setND (setND (ints c) x [D.int .i64 (imin (c.getD x 0) (c.getD y 0))]) y [D.int .i64 (imin (c.getD x 0) (c.getD y 0))] = ints (relax t c [(x : Int), (y : Int), z]) := by
            rw [ints_set (by omega), ints_set (by simp; omega)]
            simp only [relax, Int.toNat_natCast]
            rw [if_neg (by omega)]
          exact row2 e
      · have hz : ¬ z ≤ t := of_decide_eq_false hz
        conv => whnf
        refine ⟨(j + 1, relax t c [(x : Int), (y : Int), z]), ⟨hjlt, hft.symm⟩, (by show es.length - (j + 1) < es.length - j; omega), ?_, ?_, rfl, rfl⟩
        · exact V8 (wrap_succ (k := j) (n := 9223372036854775807) (by omega) (by omega))
        · have e : ints c = ints (relax t c [(x : Int), (y : Int), z]) := by
            simp only [relax]
            rw [if_pos (by omega)]
          exact row2 e
    · have h : ¬ (j : Int) < es.length := of_decide_eq_false h
      have : j = es.length := by omega
      subst this
      rw [List.take_length] at hc
      conv => whnf
      refine ⟨r + 1, (by omega), (by show b.length - (r + 1) < b.length - r; omega), ?_, ?_, rfl, rfl⟩
      · exact V5 (wrap_succ (k := r) (n := 9223372036854775807) (by omega) (by omega))
      · have e : ints c = ints (rounds t es c0 (r + 1)) := by rw [hc]; rfl
        exact row2 e
  · have h : ¬ (r : Int) < b.length := of_decide_eq_false h
    have : r = b.length := by omega
    subst this
    conv => whnf
    refine ⟨rfl, ?_⟩
    have e : comps s b es t = rounds t es c0 b.length := by rw [comps, hv, hc0]; rfl
    rw [e, rounds_len, hc0l]
    rfl
theorem ac36 (s : Int) (b : List Int) (es : List (List Int)) (t : Int) (hv : hasStage s b es t = true) : AC Tryz.prog 36 [flA s b es, .int .i64 t] (.fs 3 false (ints (comps s b es t)) (comps s b es t).length) := by
  refine AC_of_awp (E := env 12 [11] [] 0) (env_ok _ _ _ _) mixed Tryz.call36 Tryz.func36 (code := body36) rfl rfl (by kernel_rfl) (Nat.le_of_ble_eq_true rfl) fun hl => ?_
  conv => whnf
  clear hl
  refine ⟨_, ac37 s b es t, rfl, ?_⟩
  conv => whnf
  refine Bc_intro (fun h => ?_) (fun h => ?_)
  · rw [hv] at h; cases h
  · conv => whnf
    refine ⟨_, ac54 s b es t hv, rfl, ?_⟩
    conv => whnf
    exact ⟨rfl, rfl⟩
end Go.Qt

namespace Go.Qt
open Go Go.Qv Go.Proofs
noncomputable def body73 : Code := match Tryz.f73.body with | some b => b | none => .skip
noncomputable def body81 : Code := match Tryz.f81.body with | some b => b | none => .skip
noncomputable def body75 : Code := match Tryz.f75.body with | some b => b | none => .skip
noncomputable def body67 : Code := match Tryz.f67.body with | some b => b | none => .skip
noncomputable def body85 : Code := match Tryz.f85.body with | some b => b | none => .skip
noncomputable def body66 : Code := match Tryz.f66.body with | some b => b | none => .skip
noncomputable def body50 : Code := match Tryz.f50.body with | some b => b | none => .skip
noncomputable def body49 : Code := match Tryz.f49.body with | some b => b | none => .skip
set_option maxHeartbeats 4000000

theorem ac73 (x : Int) : AC Tryz.prog 73 [.int .i64 x] (.bool false) := by
  refine AC_of_awp (E := env 6 [] [] 0) (env_ok _ _ _ _) mixed Tryz.call73 Tryz.func73 (code := body73) rfl rfl (by kernel_rfl) (Nat.le_of_ble_eq_true rfl) fun hl => ?_
  conv => whnf
  refine ⟨rfl, ?_⟩
  show AV.bool (x != x) = _
  simp
theorem ac81 (x y : Int) : AC Tryz.prog 81 [.int .i64 x, .int .i64 y] (.bool (decide (x < y))) := by
  refine AC_of_awp (E := env 17 [] [] 0) (env_ok _ _ _ _) mixed Tryz.call81 Tryz.func81 (code := body81) rfl rfl (by kernel_rfl) (Nat.le_of_ble_eq_true rfl) fun hl => ?_
  conv => whnf
  refine ⟨_, ac73 x, rfl, ?_⟩
  conv => whnf
  exact ⟨rfl, rfl⟩

/-! ### Insertion sort, as the text goes -/
def swapAt {α : Type} (d : α) (l : List α) (j : Nat) : List α := (l.set (j + 1) (l.getD j d)).set j (l.getD (j + 1) d)
def sink {α : Type} (lt : α → α → Bool) (d : α) (l : List α) : Nat → List α
  | 0 => l
  | j + 1 => if lt (l.getD (j + 1) d) (l.getD j d) then sink lt d (swapAt d l j) j else l
def sinks {α : Type} (lt : α → α → Bool) (d : α) (l : List α) : Nat → List α
  | 0 => l
  | k + 1 => sink lt d (sinks lt d l k) (k + 1)
theorem swapAt_len {α : Type} (d : α) (l : List α) (j : Nat) : (swapAt d l j).length = l.length := by simp [swapAt]
theorem sink_len {α : Type} (lt : α → α → Bool) (d : α) : ∀ (j : Nat) (l : List α), (sink lt d l j).length = l.length
  | 0, _ => rfl
  | j + 1, l => by
    simp only [sink]
    split
    · rw [sink_len lt d j, swapAt_len]
    · rfl
theorem sinks_len {α : Type} (lt : α → α → Bool) (d : α) (l : List α) : ∀ k, (sinks lt d l k).length = l.length
  | 0 => rfl
  | k + 1 => by rw [sinks, sink_len, sinks_len lt d l k]
def ltI (x y : Int) : Bool := decide (x < y)
def isort (l : List Int) : List Int := sinks ltI 0 l (l.length - 1)

theorem aio75 (l : List Int) (hn : l.length ≤ 1048576) (h1 : 1 ≤ l.length) : AIO Tryz.prog 75 true [.ow 0 l.length, .int .i64 0, .int .i64 l.length] 3 (ints l) (.tup []) true (ints (isort l)) := by
  refine AIO_of_awp (E := env 49 [] [] 1) (env_ok _ _ _ _) mixed Tryz.call75 Tryz.func75 (code := body75) rfl rfl (by kernel_rfl) (Nat.le_of_ble_eq_true rfl) (fun _ => rfl) fun hl hlc => ?_
  conv => whnf
  clear hl hlc
  refine ⟨Nat × List Int, [], [0, 1, 2, 6], fun a => [.ow 0 l.length, .int .i64 0, .int .i64 l.length, .int .i64 ((a.1 + 1 : Nat) : Int)], fun a => [some (.row 3 true (ints a.2))], fun a => a.1 + 1 ≤ l.length ∧ a.2 = sinks ltI 0 l a.1, fun a => l.length - a.1, 1, fun _ => rfl, rfl,
      ⟨_, (0, l), rfl, ⟨h1, rfl⟩, rfl, rfl, rfl, rfl⟩, fun a ha => ?_⟩
  obtain ⟨i, c0⟩ := a
  obtain ⟨hi, hc0⟩ := ha
  simp only at hi hc0
  have hc0l : c0.length = l.length := by rw [hc0, sinks_len]
  conv => whnf
  refine Bc_intro (fun h => ?_) (fun h => ?_)
  · have h : ((i + 1 : Nat) : Int) < l.length := of_decide_eq_true h
    conv => whnf
    refine ⟨Nat × List Int, [], [0, 1, 2, 6, 7], fun a => [.ow 0 l.length, .int .i64 0, .int .i64 l.length, .int .i64 ((i + 1 : Nat) : Int), .int .i64 (a.1 : Int)], fun a => [some (.row 3 true (ints a.2))], fun a => a.1 ≤ i + 1 ∧ a.2.length = l.length ∧ sink ltI 0 a.2 a.1 = sink ltI 0 c0 (i + 1), fun a => a.1, 1, fun _ => rfl, rfl,
        ⟨_, (i + 1, c0), rfl, ⟨Nat.le_refl _, hc0l, rfl⟩, rfl, rfl, rfl, rfl⟩, fun a ha => ?_⟩
    obtain ⟨j, c⟩ := a
    obtain ⟨hj, hcl, hsk⟩ := ha
    simp only at hj hcl hsk
    conv => whnf
    refine Bc_intro (fun hp => ?_) (fun hp => ?_)
    · have hp : (j : Int) > 0 := of_decide_eq_true hp
      obtain ⟨j, rfl⟩ : ∃ k, j = k + 1 := ⟨j - 1, by omega⟩
      rw [show sink ltI 0 c (j + 1) = if ltI (c.getD (j + 1) 0) (c.getD j 0) then sink ltI 0 (swapAt 0 c j) j else c from rfl] at hsk
      conv => whnf
      repeat (first
        | (refine ⟨_, ints_m rfl (by first | omega | (dsimp only; omega)), ?_⟩; conv => whnf)
        | (refine ⟨_, ints_p rfl (by first | omega | (dsimp only; omega)), ?_⟩; conv => whnf)
        | (refine ⟨_, rows_m rfl (by first | omega | (dsimp only; omega)), ?_⟩; conv => whnf)
        | (refine ⟨(D.int .i64 _ : D), rfl, ?_⟩; conv => whnf)
        | (refine ⟨(_ : Nat), rfl, (show (_ : Nat) < _ by omega), ?_⟩; conv => whnf)
        | (refine ⟨(_ : Nat), rfl, (show (_ : Nat) ≤ _ by omega), ?_⟩; conv => whnf)
        | (refine ⟨(_ : Nat), wrap_pred (by omega), (show (_ : Nat) < _ by omega), ?_⟩; conv => whnf)
        | (refine ⟨(0 : Nat), rfl, Nat.le_of_ble_eq_true rfl, ?_⟩; conv => whnf)
        | (refine ⟨(1 : Nat), rfl, Nat.le_of_ble_eq_true rfl, ?_⟩; conv => whnf)
        | (refine ⟨(2 : Nat), rfl, Nat.le_of_ble_eq_true rfl, ?_⟩; conv => whnf))
      refine ⟨_, ac81 _ _, rfl, ?_⟩
      conv => whnf
      refine Bc_intro (fun hq => ?_) (fun hq => ?_)
      · have hq : ltI (c.getD (j + 1) 0) (c.getD j 0) = true := hq
        rw [if_pos hq] at hsk
        conv => whnf
        repeat (first
          | (refine ⟨_, ints_m rfl (by first | omega | (dsimp only; omega)), ?_⟩; conv => whnf)
          | (refine ⟨_, ints_p rfl (by first | omega | (dsimp only; omega)), ?_⟩; conv => whnf)
          | (refine ⟨_, rows_m rfl (by first | omega | (dsimp only; omega)), ?_⟩; conv => whnf)
          | (refine ⟨(D.int .i64 _ : D), rfl, ?_⟩; conv => whnf)
          | (refine ⟨(_ : Nat), rfl, (show (_ : Nat) < _ by omega), ?_⟩; conv => whnf)
          | (refine ⟨(_ : Nat), rfl, (show (_ : Nat) ≤ _ by omega), ?_⟩; conv => whnf)
          | (refine ⟨(_ : Nat), wrap_pred (by omega), (show (_ : Nat) < _ by omega), ?_⟩; conv => whnf)
          | (refine ⟨(0 : Nat), rfl, Nat.le_of_ble_eq_true rfl, ?_⟩; conv => whnf)
          | (refine ⟨(1 : Nat), rfl, Nat.le_of_ble_eq_true rfl, ?_⟩; conv => whnf)
          | (refine ⟨(2 : Nat), rfl, Nat.le_of_ble_eq_true rfl, ?_⟩; conv => whnf))
        refine ⟨(show (j + 1) + 1 ≤ (ints c).length by rw [ints_len]; omega), ?_⟩
        conv => whnf
        repeat (first
          | (refine ⟨_, ints_m rfl (by first | omega | (dsimp only; omega)), ?_⟩; conv => whnf)
          | (refine ⟨_, ints_p rfl (by first | omega | (dsimp only; omega)), ?_⟩; conv => whnf)
          | (refine ⟨_, rows_m rfl (by first | omega | (dsimp only; omega)), ?_⟩; conv => whnf)
          | (refine ⟨(D.int .i64 _ : D), rfl, ?_⟩; conv => whnf)
          | (refine ⟨(_ : Nat), rfl, (show (_ : Nat) < _ by omega), ?_⟩; conv => whnf)
          | (refine ⟨(_ : Nat), rfl, (show (_ : Nat) ≤ _ by omega), ?_⟩; conv => whnf)
          | (refine ⟨(_ : Nat), wrap_pred (by omega), (show (_ : Nat) < _ by omega), ?_⟩; conv => whnf)
          | (refine ⟨(0 : Nat), rfl, Nat.le_of_ble_eq_true rfl, ?_⟩; conv => whnf)
          | (refine ⟨(1 : Nat), rfl, Nat.le_of_ble_eq_true rfl, ?_⟩; conv => whnf)
          | (refine ⟨(2 : Nat), rfl, Nat.le_of_ble_eq_true rfl, ?_⟩; conv => whnf))
        refine ⟨(show j + 1 ≤ (setND (ints c) (j + 1) [_]).length by rw [setND_len1 (by rw [ints_len]; omega), ints_len]; omega), ?_⟩
        conv => whnf
        refine ⟨(j, swapAt 0 c j), ⟨by show j ≤ i + 1; omega, by show (swapAt 0 c j).length = _; rw [swapAt_len, hcl], hsk⟩, (by show j < j + 1; omega), ?_, ?_, rfl, rfl⟩
        · exact V5 (wrap_pred (j := j) (by omega))
        · have e : setND (setND (ints c) (j + 1) [D.int .i64 (c.getD j 0)]) j [D.int .i64 (c.getD (j + 1) 0)] = ints (swapAt 0 c j) := by
            rw [ints_set (by omega), ints_set (by simp; omega)]; rfl
          exact row1 e
      · have hq : ltI (c.getD (j + 1) 0) (c.getD j 0) = false := hq
        rw [hq] at hsk
        have hsk : c = sink ltI 0 c0 (i + 1) := hsk
        conv => whnf
        refine ⟨(i + 1, c), ⟨by show i + 1 + 1 ≤ l.length; omega, by show c = _; rw [hsk, hc0]; rfl⟩, (by show l.length - (i + 1) < l.length - i; omega), ?_, rfl, rfl, rfl⟩
        exact V4 (wrap_succ (k := (i + 1)) (n := 9223372036854775807) (by omega) (by omega))
    · have hp : ¬ (j : Int) > 0 := of_decide_eq_false hp
      obtain rfl : j = 0 := by omega
      have hsk : c = sink ltI 0 c0 (i + 1) := hsk
      conv => whnf
      refine ⟨(i + 1, c), ⟨by show i + 1 + 1 ≤ l.length; omega, by show c = _; rw [hsk, hc0]; rfl⟩, (by show l.length - (i + 1) < l.length - i; omega), ?_, rfl, rfl, rfl⟩
      exact V4 (wrap_succ (k := (i + 1)) (n := 9223372036854775807) (by omega) (by omega))
  · have h : ¬ ((i + 1 : Nat) : Int) < l.length := of_decide_eq_false h
    have : i = l.length - 1 := by omega
    subst this
    conv => whnf
    refine ⟨rfl, rfl, ?_⟩
    show some (Blk.row 3 true (ints c0)) = _
    rw [hc0]; rfl

def bl (n : Nat) : Int := Int.ofNat (match n with | 0 => 0 | 1 => 1 | 2 => 2 | 3 => 2 | _ => 3)
theorem ac85 (n : Nat) (h : n ≤ 4) : AC Tryz.prog 85 [.int .u64 (n : Int)] (.int .i64 (bl n)) := by
  refine AC_of_awp (E := env 25 [] [] 0) (env_ok _ _ _ _) mixed Tryz.call85 Tryz.func85 (code := body85) rfl rfl (by kernel_rfl) (Nat.le_of_ble_eq_true rfl) fun hl => ?_
  have h10 : n = 0 ∨ n = 1 ∨ n = 2 ∨ n = 3 ∨ n = 4 := by omega
  rcases h10 with rfl | rfl | rfl | rfl | rfl
  all_goals
    conv => whnf
  · refine ⟨0, 0, rfl, rfl, ?_⟩
    conv => whnf
    exact ⟨rfl, rfl⟩
  · refine ⟨1, 1, rfl, rfl, ?_⟩
    conv => whnf
    exact ⟨rfl, rfl⟩
  · refine ⟨2, 2, rfl, rfl, ?_⟩
    conv => whnf
    exact ⟨rfl, rfl⟩
  · refine ⟨3, 2, rfl, rfl, ?_⟩
    conv => whnf
    exact ⟨rfl, rfl⟩
  · refine ⟨4, 3, rfl, rfl, ?_⟩
    conv => whnf
    exact ⟨rfl, rfl⟩
theorem ac67 (n : Nat) (h : n ≤ 4) : AC Tryz.prog 67 [.int .u64 (n : Int)] (.int .i64 (bl n)) := by
  refine AC_of_awp (E := env 8 [] [] 0) (env_ok _ _ _ _) mixed Tryz.call67 Tryz.func67 (code := body67) rfl rfl (by kernel_rfl) (Nat.le_of_ble_eq_true rfl) fun hl => ?_
  conv => whnf
  refine ⟨_, ac85 n h, rfl, ?_⟩
  conv => whnf
  exact ⟨rfl, rfl⟩
theorem aio66 (l : List Int) (k : Int) (hn : l.length ≤ 4) (h1 : 1 ≤ l.length) : AIO Tryz.prog 66 true [.ow 0 l.length, .int .i64 0, .int .i64 l.length, .int .i64 k] 3 (ints l) (.tup []) true (ints (isort l)) := by
  refine AIO_of_awp (E := env 134 [] [27] 1) (env_ok _ _ _ _) mixed Tryz.call66 Tryz.func66 (code := body66) rfl rfl (by kernel_rfl) (Nat.le_of_ble_eq_true rfl) (fun _ => rfl) fun hl hlc => ?_
  conv => whnf
  clear hl hlc
  refine ⟨Unit, [], [0, 1, 2, 3], fun a => [.ow 0 l.length, .int .i64 0, .int .i64 l.length, .int .i64 k], fun a => [some (.row 3 true (ints l))], fun a => True, fun a => 0, 1, fun _ => rfl, rfl,
      ⟨_, (), rfl, trivial, rfl, rfl, rfl, rfl⟩, fun a ha => ?_⟩
  conv => whnf
  refine Bc_intro (fun h => ?_) (fun h => ?_)
  · conv => whnf
    refine ⟨0, true, _, true, _, true, aio75 l (by omega) h1, .inl rfl, ?_⟩
    conv => whnf
    exact ⟨rfl, rfl, rfl⟩
  · have h : ¬ IntKind.i64.wrap ((l.length : Int) - 0) ≤ 12 := of_decide_eq_false h
    rw [wrap_id (by omega) (by omega)] at h
    omega
theorem aio50 (l : List Int) (hn : l.length ≤ 4) (h1 : 1 ≤ l.length) : AIO Tryz.prog 50 true [.ow 0 l.length] 3 (ints l) (.tup []) true (ints (isort l)) := by
  refine AIO_of_awp (E := env 11 [] [10] 1) (env_ok _ _ _ _) mixed Tryz.call50 Tryz.func50 (code := body50) rfl rfl (by kernel_rfl) (Nat.le_of_ble_eq_true rfl) (fun _ => rfl) fun hl hlc => ?_
  conv => whnf
  have e : IntKind.u64.wrap (l.length : Int) = (l.length : Int) := by
    have h4 : l.length = 0 ∨ l.length = 1 ∨ l.length = 2 ∨ l.length = 3 ∨ l.length = 4 := by omega
    rcases h4 with h | h | h | h | h <;> rw [h] <;> rfl
  have e2 := ac67 l.length hn
  rw [← e] at e2
  refine ⟨_, e2, rfl, ?_⟩
  conv => whnf
  refine ⟨0, true, _, true, _, true, aio66 l _ hn h1, .inl rfl, ?_⟩
  conv => whnf
  exact ⟨rfl, rfl, rfl⟩
theorem allSc_ints (l : List Int) : AllSc (ints l) := fun x hx => by
  simp only [ints, List.mem_map] at hx
  obtain ⟨y, _, rfl⟩ := hx
  rfl
theorem ac49 (l : List Int) (hn : l.length ≤ 1048576) (h1 : 1 ≤ l.length) : AC Tryz.prog 49 [.rs true false (ints l) l.length] (.fs 3 false (ints l) l.length) := by
  refine AC_of_awp (E := env 8 [] [] 0) (env_ok _ _ _ _) mixed Tryz.call49 Tryz.func49 (code := body49) rfl rfl (by kernel_rfl) (Nat.le_of_ble_eq_true rfl) fun hl => ?_
  conv => whnf
  intro nb hnb
  conv => whnf
  refine Bc_intro (fun h => ?_) (fun h => ?_)
  · have := hnb h
    omega
  · conv => whnf
    refine ⟨false, .inr (.inl rfl), .inr (.inr (allSc_ints l)), .inl rfl, rfl, ints_len, sizeLim_of (by show (0 + l.length) * 8 ≤ _; omega), intLim_of' (by omega), ?_⟩
    conv => whnf
    refine ⟨rfl, ?_⟩
    show AV.fs 3 false ([] ++ ints l) (0 + l.length) = _
    rw [Nat.zero_add]; rfl
end Go.Qt
