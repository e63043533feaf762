/- PROVED: for every input the law FnExactFiltrationLine returns true and each argument reads afterwards as it read before (the statement 'FnExactFiltrationLineCardSaid' of the given Rows).
Conditions: none beyond those which the given statement itself names. This text is one part of the proof. -/
import Derived.Test.YtfcgjmbkcpeafaaGreatDoorFaSpec

namespace Go.Qt
open Go Go.Qv Go.Proofs
noncomputable def body27 : Code := match Tryz.f27.body with | some b => b | none => .skip
set_option maxHeartbeats 2000000

/-- An edge of a filtration. -/
def edgeOk (s : Int) (b : List Int) : List Int → Bool
  | [x, y, z] => decide (0 ≤ x ∧ x ≤ (b.length : Int) - 1) && decide (0 ≤ y ∧ y ≤ (b.length : Int) - 1) && !(x == y) && decide (imax (b.getD x.toNat 0) (b.getD y.toNat 0) ≤ z ∧ z ≤ s - 1)
  | _ => false
def isFil (s : Int) (b : List Int) (es : List (List Int)) : Bool :=
  decide (1 ≤ s ∧ s ≤ 5) && decide (1 ≤ (b.length : Int) ∧ (b.length : Int) ≤ 4) && !decide ((es.length : Int) > 8) && b.all (fun x => decide (0 ≤ x ∧ x ≤ s - 1)) && es.all (edgeOk s b)

theorem not_t {x : Bool} (h : (!x) = true) : x = false := by cases x <;> simp_all
theorem not_f {x : Bool} (h : (!x) = false) : x = true := by cases x <;> simp_all
theorem wrap_succ {k n : Nat} (h : k < n) (hn : n ≤ 9223372036854775807) : IntKind.i64.wrap ((k : Int) + 1) = ((k + 1 : Nat) : Int) := by rw [wrap_id (by omega) (by omega)]; rfl
theorem all_drop {α : Type} {p : α → Bool} {l : List α} {k : Nat} (h : k < l.length) : (l.drop k).all p = (p l[k] && (l.drop (k + 1)).all p) := by
  rw [List.drop_eq_getElem_cons h, List.all_cons]

theorem len3 {l : List Int} (h : (l.length : Int) = 3) : ∃ x y z, l = [x, y, z] := by
  match l, h with
  | [x, y, z], _ => exact ⟨x, y, z, rfl⟩
  | [], h => simp at h
  | [_], h => simp at h
  | [_, _], h => simp at h
  | _ :: _ :: _ :: _ :: _, h => simp at h; omega

theorem ac27 (s : Int) (b : List Int) (es : List (List Int)) : AC Tryz.prog 27 [flA s b es] (.bool (isFil s b es)) := by
  refine AC_of_awp (E := env 135 [] [] 0) (env_ok _ _ _ _) mixed Tryz.call27 Tryz.func27 (code := body27) rfl rfl (by kernel_rfl) (Nat.le_of_ble_eq_true rfl) fun hl => ?_
  conv => whnf
  refine ⟨_, ac43 s 1 5, rfl, ?_⟩
  conv => whnf
  refine Bc_intro (fun h1 => ?_) (fun h1 => ?_)
  · conv => whnf
    have h1 : decide (1 ≤ s ∧ s ≤ 5) = false := not_t h1
    refine ⟨rfl, ?_⟩
    show AV.bool false = _
    rw [isFil, h1]; rfl
  have h1 : decide (1 ≤ s ∧ s ≤ 5) = true := not_f h1
  conv => whnf
  refine ⟨_, ac43 b.length 1 4, rfl, ?_⟩
  conv => whnf
  refine Bc_intro (fun h2 => ?_) (fun h2 => ?_)
  · conv => whnf
    have h2 : decide (1 ≤ (b.length : Int) ∧ (b.length : Int) ≤ 4) = false := not_t h2
    refine ⟨rfl, ?_⟩
    show AV.bool false = _
    rw [isFil, h1, h2]; rfl
  have h2 : decide (1 ≤ (b.length : Int) ∧ (b.length : Int) ≤ 4) = true := not_f h2
  conv => whnf
  refine Bc_intro (fun h3 => ?_) (fun h3 => ?_)
  · conv => whnf
    have h3 : decide ((es.length : Int) > 8) = true := h3
    refine ⟨rfl, ?_⟩
    show AV.bool false = _
    rw [isFil, h1, h2, h3]; rfl
  have h3 : decide ((es.length : Int) > 8) = false := h3
  conv => whnf
  have hs : 1 ≤ s ∧ s ≤ 5 := by simpa using h1
  have hb : 1 ≤ b.length ∧ b.length ≤ 4 := by have : 1 ≤ (b.length : Int) ∧ (b.length : Int) ≤ 4 := by simpa using h2
                                              omega
  have he : es.length ≤ 8 := by have : ¬ (es.length : Int) > 8 := by simpa using h3
                                omega
  refine ⟨Nat, [], [1, 3], fun k => [.op 0 0, .int .i64 k], fun _ => [some (.var 28 [.int .i64 s, .rs true false (ints b) b.length, .rs true false (rows es) es.length])], fun k => k ≤ b.length ∧ (b.drop k).all (fun x => decide (0 ≤ x ∧ x ≤ s - 1)) = b.all (fun x => decide (0 ≤ x ∧ x ≤ s - 1)), fun k => b.length - k, 1, fun _ => rfl, rfl,
      ⟨_, 0, rfl, ⟨Nat.zero_le _, rfl⟩, rfl, rfl, rfl, rfl⟩, fun k hk => ?_⟩
  obtain ⟨hk1, hk2⟩ := hk
  conv => whnf
  refine Bc_intro (fun h => ?_) (fun h => ?_)
  · conv => whnf
    have hlt : k < b.length := by simp at h; omega
    refine ⟨k, rfl, hlt, ?_⟩
    conv => whnf
    refine ⟨_, ints_get (k := k) hlt, ?_⟩
    conv => whnf
    refine ⟨_, ac43 b[k] 0 _, rfl, ?_⟩
    conv => whnf
    have hw : IntKind.i64.wrap (s - 1) = s - 1 := wrap_id (by omega) (by omega)
    rw [all_drop hlt] at hk2
    refine Bc_intro (fun h4 => ?_) (fun h4 => ?_)
    · conv => whnf
      have h4 : decide (0 ≤ b[k] ∧ b[k] ≤ IntKind.i64.wrap (s - 1)) = false := not_t h4
      rw [hw] at h4
      rw [h4, Bool.false_and] at hk2
      refine ⟨rfl, ?_⟩
      show AV.bool false = _
      rw [isFil, h1, h2, h3, ← hk2]; rfl
    · conv => whnf
      have h4 : decide (0 ≤ b[k] ∧ b[k] ≤ IntKind.i64.wrap (s - 1)) = true := not_f h4
      rw [hw] at h4
      rw [h4, Bool.true_and] at hk2
      refine ⟨k + 1, ⟨hlt, hk2⟩, (by show b.length - (k + 1) < b.length - k; omega), ?_, rfl, rfl, rfl⟩
      show [AV.op 0 0, AV.int .i64 (IntKind.i64.wrap ((k : Int) + 1))] = [AV.op 0 0, AV.int .i64 ((k + 1 : Nat) : Int)]
      rw [wrap_succ hlt (by omega)]
  · conv => whnf
    have : k = b.length := by simp at h; omega
    subst this
    simp only [List.drop_length, List.all_nil] at hk2
    have h5 : b.all (fun x => decide (0 ≤ x ∧ x ≤ s - 1)) = true := hk2.symm
    clear hk2 hk1 h
    refine ⟨Nat, [], [1, 4], fun k => [.op 0 0, .int .i64 k], fun _ => [some (.var 28 [.int .i64 s, .rs true false (ints b) b.length, .rs true false (rows es) es.length])], fun k => k ≤ es.length ∧ (es.drop k).all (edgeOk s b) = es.all (edgeOk s b), fun k => es.length - k, 1, fun _ => rfl, rfl,
      ⟨_, 0, rfl, ⟨Nat.zero_le _, rfl⟩, rfl, rfl, rfl, rfl⟩, fun k hk => ?_⟩
    obtain ⟨hk1, hk2⟩ := hk
    conv => whnf
    refine Bc_intro (fun h => ?_) (fun h => ?_)
    · conv => whnf
      have hlt : k < es.length := by simp at h; omega
      rw [all_drop hlt] at hk2
      have out : edgeOk s b es[k] = false → AV.bool false = .bool (isFil s b es) := fun hf => by
        rw [hf, Bool.false_and] at hk2
        rw [isFil, h1, h2, h3, h5, ← hk2]; rfl
      have cont : edgeOk s b es[k] = true → (es.drop (k + 1)).all (edgeOk s b) = es.all (edgeOk s b) := fun hf => by
        rw [hf, Bool.true_and] at hk2; exact hk2
      have hget := rows_get (k := k) hlt
      generalize es[k] = e at *
      refine ⟨k, rfl, hlt, ?_⟩
      conv => whnf
      refine ⟨_, hget, ?_⟩
      conv => whnf
      refine Bc_intro (fun h4 => ?_) (fun h4 => ?_)
      · conv => whnf
        refine ⟨rfl, out ?_⟩
        have h4 : (e.length : Int) ≠ 3 := by simpa using h4
        unfold edgeOk
        split
        · simp at h4
        · rfl
      have h4 : (e.length : Int) = 3 := by simpa using h4
      obtain ⟨x, y, z, rfl⟩ := len3 h4
      conv => whnf
      refine ⟨k, rfl, hlt, ?_⟩
      conv => whnf
      refine ⟨_, hget, ?_⟩
      conv => whnf
      refine ⟨0, rfl, (by show 0 < 3; omega), ?_⟩
      conv => whnf
      refine ⟨_, rfl, ?_⟩
      conv => whnf
      refine ⟨_, ac43 x 0 _, rfl, ?_⟩
      conv => whnf
      have hw1 : IntKind.i64.wrap ((b.length : Int) - 1) = (b.length : Int) - 1 := wrap_id (by omega) (by omega)
      refine Bc_intro (fun h6 => ?_) (fun h6 => ?_)
      · conv => whnf
        have h6 : decide (0 ≤ x ∧ x ≤ IntKind.i64.wrap ((b.length : Int) - 1)) = false := not_t h6
        rw [hw1] at h6
        refine ⟨rfl, out ?_⟩
        simp only [edgeOk, h6, Bool.false_and]
      have h6 : decide (0 ≤ x ∧ x ≤ IntKind.i64.wrap ((b.length : Int) - 1)) = true := not_f h6
      rw [hw1] at h6
      conv => whnf
      refine ⟨k, rfl, hlt, ?_⟩
      conv => whnf
      refine ⟨_, hget, ?_⟩
      conv => whnf
      refine ⟨1, rfl, (by show 1 < 3; omega), ?_⟩
      conv => whnf
      refine ⟨_, rfl, ?_⟩
      conv => whnf
      refine ⟨_, ac43 y 0 _, rfl, ?_⟩
      conv => whnf
      refine Bc_intro (fun h7 => ?_) (fun h7 => ?_)
      · conv => whnf
        have h7 : decide (0 ≤ y ∧ y ≤ IntKind.i64.wrap ((b.length : Int) - 1)) = false := not_t h7
        rw [hw1] at h7
        refine ⟨rfl, out ?_⟩
        simp only [edgeOk, h7, Bool.false_and, Bool.and_false]
      have h7 : decide (0 ≤ y ∧ y ≤ IntKind.i64.wrap ((b.length : Int) - 1)) = true := not_f h7
      rw [hw1] at h7
      conv => whnf
      refine ⟨k, rfl, hlt, ?_⟩
      conv => whnf
      refine ⟨_, hget, ?_⟩
      conv => whnf
      refine ⟨0, rfl, (by show 0 < 3; omega), ?_⟩
      conv => whnf
      refine ⟨_, rfl, ?_⟩
      conv => whnf
      refine ⟨k, rfl, hlt, ?_⟩
      conv => whnf
      refine ⟨_, hget, ?_⟩
      conv => whnf
      refine ⟨1, rfl, (by show 1 < 3; omega), ?_⟩
      conv => whnf
      refine ⟨_, rfl, ?_⟩
      conv => whnf
      refine Bc_intro (fun h8 => ?_) (fun h8 => ?_)
      · conv => whnf
        have h8 : (x == y) = true := h8
        refine ⟨rfl, out ?_⟩
        simp only [edgeOk, h8, Bool.not_true, Bool.false_and, Bool.and_false]
      have h8 : (x == y) = false := h8
      have hx : 0 ≤ x ∧ x ≤ (b.length : Int) - 1 := of_decide_eq_true h6
      have hy : 0 ≤ y ∧ y ≤ (b.length : Int) - 1 := of_decide_eq_true h7
      obtain ⟨xi, rfl⟩ : ∃ xi : Nat, x = xi := ⟨x.toNat, by omega⟩
      obtain ⟨yi, rfl⟩ : ∃ yi : Nat, y = yi := ⟨y.toNat, by omega⟩
      have hxl : xi < b.length := by omega
      have hyl : yi < b.length := by omega
      conv => whnf
      refine ⟨k, rfl, hlt, ?_⟩
      conv => whnf
      refine ⟨_, hget, ?_⟩
      conv => whnf
      refine ⟨2, rfl, (by show 2 < 3; omega), ?_⟩
      conv => whnf
      refine ⟨_, rfl, ?_⟩
      conv => whnf
      refine ⟨k, rfl, hlt, ?_⟩
      conv => whnf
      refine ⟨_, hget, ?_⟩
      conv => whnf
      refine ⟨0, rfl, (by show 0 < 3; omega), ?_⟩
      conv => whnf
      refine ⟨_, rfl, ?_⟩
      conv => whnf
      refine ⟨xi, rfl, hxl, ?_⟩
      conv => whnf
      refine ⟨_, ints_get (k := xi) hxl, ?_⟩
      conv => whnf
      refine ⟨k, rfl, hlt, ?_⟩
      conv => whnf
      refine ⟨_, hget, ?_⟩
      conv => whnf
      refine ⟨1, rfl, (by show 1 < 3; omega), ?_⟩
      conv => whnf
      refine ⟨_, rfl, ?_⟩
      conv => whnf
      refine ⟨yi, rfl, hyl, ?_⟩
      conv => whnf
      refine ⟨_, ints_get (k := yi) hyl, ?_⟩
      conv => whnf
      refine ⟨_, ac43 z _ _, rfl, ?_⟩
      conv => whnf
      have hw : IntKind.i64.wrap (s - 1) = s - 1 := wrap_id (by omega) (by omega)
      have hgx : b.getD ((xi : Int)).toNat 0 = b[xi] := by simp [hxl]
      have hgy : b.getD ((yi : Int)).toNat 0 = b[yi] := by simp [hyl]
      refine Bc_intro (fun h9 => ?_) (fun h9 => ?_)
      · conv => whnf
        have h9 : decide (imax b[xi] b[yi] ≤ z ∧ z ≤ IntKind.i64.wrap (s - 1)) = false := not_t h9
        rw [hw] at h9
        refine ⟨rfl, out ?_⟩
        simp only [edgeOk, hgx, hgy, h9, Bool.and_false]
      · conv => whnf
        have h9 : decide (imax b[xi] b[yi] ≤ z ∧ z ≤ IntKind.i64.wrap (s - 1)) = true := not_f h9
        rw [hw] at h9
        refine ⟨k + 1, ⟨hlt, cont ?_⟩, (by show es.length - (k + 1) < es.length - k; omega), ?_, rfl, rfl, rfl⟩
        · simp only [edgeOk, hgx, hgy, h6, h7, h8, h9]; rfl
        · show [AV.op 0 0, AV.int .i64 (IntKind.i64.wrap ((k : Int) + 1))] = [AV.op 0 0, AV.int .i64 ((k + 1 : Nat) : Int)]
          rw [wrap_succ hlt (by omega)]
    · conv => whnf
      have : k = es.length := by simp at h; omega
      subst this
      simp only [List.drop_length, List.all_nil] at hk2
      refine ⟨rfl, ?_⟩
      show AV.bool true = _
      rw [isFil, h1, h2, h3, h5, ← hk2]; rfl
end Go.Qt

namespace Go.Qt
open Go Go.Qv Go.Proofs
noncomputable def body28 : Code := match Tryz.f28.body with | some b => b | none => .skip
noncomputable def body29 : Code := match Tryz.f29.body with | some b => b | none => .skip
set_option maxHeartbeats 2000000

def rootsTo (c : List Int) (k : Nat) : List Int := ((List.range k).filter fun (i : Nat) => c.getD i 0 == Int.ofNat i).map Int.ofNat
def roots (c : List Int) : List Int := rootsTo c c.length
theorem rootsTo_len (c : List Int) (k : Nat) : (rootsTo c k).length ≤ k := by
  simp only [rootsTo, List.length_map]
  exact Nat.le_trans (List.length_filter_le _ _) (by simp)
theorem rootsTo_succ {c : List Int} {k : Nat} : rootsTo c (k + 1) = if c.getD k 0 == (k : Int) then rootsTo c k ++ [(k : Int)] else rootsTo c k := by
  simp only [rootsTo, List.range_succ, List.filter_append, List.map_append, List.filter_cons, List.filter_nil]
  by_cases h : (c.getD k 0 == (k : Int)) = true
  · rw [if_pos (show (c.getD k 0 == Int.ofNat k) = true from h), if_pos h]; rfl
  · rw [if_neg (show ¬ (c.getD k 0 == Int.ofNat k) = true from h), if_neg h]; simp
theorem ints_append (a b : List Int) : ints (a ++ b) = ints a ++ ints b := by simp [ints]

theorem ac28 (c : List Int) (hc : c.length ≤ 1048576) : AC Tryz.prog 28 [.rs true false (ints c) c.length] (.fs 3 false (ints (roots c)) (roots c).length) := by
  refine AC_of_awp (E := env 23 [] [] 0) (env_ok _ _ _ _) mixed Tryz.call28 Tryz.func28 (code := body28) rfl rfl (by kernel_rfl) (Nat.le_of_ble_eq_true rfl) fun hl => ?_
  conv => whnf
  refine ⟨Nat, [.slot 3 3 false], [0, 3, 4], fun k => [.rs true false (ints c) c.length, .ow 0 (rootsTo c k).length, .int .i64 k], fun k => [some (.row 3 false (ints (rootsTo c k)))], fun k => k ≤ c.length, fun k => c.length - k, 1, fun _ => rfl, rfl,
      ⟨_, 0, rfl, Nat.zero_le _, rfl, rfl, rfl, rfl⟩, fun k hk => ?_⟩
  conv => whnf
  refine Bc_intro (fun h => ?_) (fun h => ?_)
  · conv => whnf
    have hlt : k < c.length := by simp at h; omega
    have hk1 := rootsTo_len c k
    refine ⟨k, rfl, hlt, ?_⟩
    conv => whnf
    refine ⟨_, ints_get (k := k) hlt, ?_⟩
    conv => whnf
    have hg : c.getD k 0 = c[k] := by simp [hlt]
    refine Bc_intro (fun h => ?_) (fun h => ?_)
    · conv => whnf
      have h : (c[k] == (k : Int)) = true := h
      refine ⟨false, .inr (.inl rfl), .inr (.inl rfl), rfl, sizeLim_of (by show ((rootsTo c k).length + 1) * 8 ≤ _; omega), intLim_of' (by omega), ?_⟩
      conv => whnf
      have hr : rootsTo c (k + 1) = rootsTo c k ++ [(k : Int)] := by rw [rootsTo_succ, hg, if_pos h]
      refine ⟨k + 1, hlt, (by show c.length - (k + 1) < c.length - k; omega), ?_, ?_, rfl, rfl⟩
      · show [AV.rs true false (ints c) c.length, AV.ow 0 ((rootsTo c k).length + 1), AV.int .i64 (IntKind.i64.wrap ((k : Int) + 1))] = [_, AV.ow 0 (rootsTo c (k + 1)).length, AV.int .i64 ((k + 1 : Nat) : Int)]
        rw [wrap_succ hlt (by omega), hr]
        simp
      · show [some (Blk.row 3 false (ints (rootsTo c k) ++ [D.int .i64 k]))] = [some (Blk.row 3 false (ints (rootsTo c (k + 1))))]
        rw [hr, ints_append]; rfl
    · conv => whnf
      have h : (c[k] == (k : Int)) = false := h
      have hr : rootsTo c (k + 1) = rootsTo c k := by rw [rootsTo_succ, hg, h]; rfl
      refine ⟨k + 1, hlt, (by show c.length - (k + 1) < c.length - k; omega), ?_, ?_, rfl, rfl⟩
      · show [AV.rs true false (ints c) c.length, AV.ow 0 (rootsTo c k).length, AV.int .i64 (IntKind.i64.wrap ((k : Int) + 1))] = [_, AV.ow 0 (rootsTo c (k + 1)).length, AV.int .i64 ((k + 1 : Nat) : Int)]
        rw [wrap_succ hlt (by omega), hr]
      · show [some (Blk.row 3 false (ints (rootsTo c k)))] = [some (Blk.row 3 false (ints (rootsTo c (k + 1))))]
        rw [hr]
  · conv => whnf
    have : k = c.length := by simp at h; omega
    subst this
    exact ⟨rfl, rfl⟩

/-! ### The parts -/

def start (b : List Int) (t : Int) (k : Nat) : List Int := (List.range k).map fun (i : Nat) => if b.getD i 0 ≤ t then (i : Int) else -1
theorem start_len (b : List Int) (t : Int) (k : Nat) : (start b t k).length = k := by simp [start]
theorem start_succ (b : List Int) (t : Int) (k : Nat) : start b t (k + 1) = start b t k ++ [if b.getD k 0 ≤ t then (k : Int) else -1] := by
  simp only [start, List.range_succ, List.map_append, List.map_cons, List.map_nil]
def relax (t : Int) (c : List Int) : List Int → List Int
  | [x, y, z] => if z > t then c else
      let l := imin (c.getD x.toNat 0) (c.getD y.toNat 0)
      (c.set x.toNat l).set y.toNat l
  | _ => c
def round (t : Int) (es : List (List Int)) (c : List Int) : List Int := es.foldl (relax t) c
def rounds (t : Int) (es : List (List Int)) (c : List Int) : Nat → List Int
  | 0 => c
  | n + 1 => round t es (rounds t es c n)
def hasStage (s : Int) (b : List Int) (es : List (List Int)) (t : Int) : Bool := isFil s b es && decide (0 ≤ t ∧ t ≤ s - 1)
def comps (s : Int) (b : List Int) (es : List (List Int)) (t : Int) : List Int := if hasStage s b es t then rounds t es (start b t b.length) b.length else []

theorem relax_len (t : Int) (c e : List Int) : (relax t c e).length = c.length := by
  unfold relax
  split
  · split <;> simp
  · rfl
theorem foldl_relax_len (t : Int) : ∀ (es : List (List Int)) (c : List Int), (es.foldl (relax t) c).length = c.length
  | [], _ => rfl
  | e :: r, c => by simp only [List.foldl_cons]; rw [foldl_relax_len t r, relax_len]
theorem rounds_len (t : Int) (es : List (List Int)) (c : List Int) : ∀ n, (rounds t es c n).length = c.length
  | 0 => rfl
  | n + 1 => by simp only [rounds, round]; rw [foldl_relax_len, rounds_len t es c n]
theorem comps_len (s : Int) (b : List Int) (es : List (List Int)) (t : Int) : (comps s b es t).length ≤ b.length := by
  unfold comps
  split
  · rw [rounds_len, start_len]; exact Nat.le_refl _
  · simp

theorem ints_set {c : List Int} {k : Nat} {v : Int} (h : k < c.length) : setND (ints c) k [D.int .i64 v] = ints (c.set k v) := by
  apply List.ext_getElem?
  intro i
  simp only [setND, ints, List.length_cons, List.length_nil, Nat.zero_add]
  rw [List.append_assoc, List.singleton_append]
  by_cases h1 : i < k
  · rw [List.getElem?_append_left (by simp; omega)]
    simp [h1, Nat.ne_of_gt h1]
  · rw [List.getElem?_append_right (by simp; omega)]
    have hl : ((c.map (D.int .i64)).take k).length = k := by simp; omega
    rw [hl]
    by_cases h2 : i = k
    · subst h2; simp [h]
    · obtain ⟨j, hj⟩ : ∃ j, i - k = j + 1 := ⟨i - k - 1, by omega⟩
      rw [hj, List.getElem?_cons_succ, List.getElem?_drop]
      have : k + 1 + j = i := by omega
      rw [this]
      simp [Ne.symm h2]

/-- What a valid filtration gives. -/
theorem fil_bounds {s : Int} {b : List Int} {es : List (List Int)} (h : isFil s b es = true) : (1 ≤ s ∧ s ≤ 5) ∧ (1 ≤ b.length ∧ b.length ≤ 4) ∧ es.length ≤ 8 ∧ (∀ x ∈ b, 0 ≤ x ∧ x ≤ s - 1) ∧
    ∀ e ∈ es, ∃ (x y : Nat) (z : Int), e = [(x : Int), (y : Int), z] ∧ x < b.length ∧ y < b.length ∧ x ≠ y ∧ b.getD x 0 ≤ z ∧ b.getD y 0 ≤ z ∧ z ≤ s - 1 := by
  simp only [isFil, Bool.and_eq_true, List.all_eq_true, decide_eq_true_eq, Bool.not_eq_true', decide_eq_false_iff_not] at h
  obtain ⟨⟨⟨⟨h1, h2⟩, h3⟩, h4⟩, h5⟩ := h
  refine ⟨h1, by omega, by omega, h4, fun e he => ?_⟩
  have := h5 e he
  unfold edgeOk at this
  split at this
  · rename_i x y z
    simp only [Bool.and_eq_true, decide_eq_true_eq, Bool.not_eq_true', beq_eq_false_iff_ne] at this
    obtain ⟨⟨⟨hx, hy⟩, hxy⟩, hz⟩ := this
    refine ⟨x.toNat, y.toNat, z, ?_, by omega, by omega, by omega, ?_, ?_, hz.2⟩
    · rw [Int.toNat_of_nonneg hx.1, Int.toNat_of_nonneg hy.1]
    · have := hz.1; unfold imax at this; split at this <;> omega
    · have := hz.1; unfold imax at this; split at this <;> omega
  · cases this

theorem mem_get {es : List (List Int)} {j : Nat} (h : j < es.length) : es[j] ∈ es := List.getElem_mem h
theorem foldl_take {t : Int} {es : List (List Int)} {c : List Int} {j : Nat} (h : j < es.length) : (es.take (j + 1)).foldl (relax t) c = relax t ((es.take j).foldl (relax t) c) es[j] := by
  rw [List.take_add_one, List.foldl_append]; simp [h]

theorem ac29_in (s : Int) (b : List Int) (es : List (List Int)) (t : Int) (hv : hasStage s b es t = true) : AC Tryz.prog 29 [flA s b es, .int .i64 t] (.fs 3 false (ints (comps s b es t)) (comps s b es t).length) := by
  have hv2 := hv
  simp only [hasStage, Bool.and_eq_true] at hv2
  obtain ⟨hfil, hrange⟩ := hv2
  obtain ⟨hs, hb, he, _, hedge⟩ := fil_bounds hfil
  refine AC_of_awp (E := env 99 [] [] 0) (env_ok _ _ _ _) mixed Tryz.call29 Tryz.func29 (code := body29) rfl rfl (by kernel_rfl) (Nat.le_of_ble_eq_true rfl) fun hl => ?_
  clear hl
  conv => whnf
  refine ⟨Nat, [.slot 5 3 false], [1, 2, 5, 6], fun k => [.int .i64 t, .op 0 0, .ow 1 k, .int .i64 k], fun k => [some (.var 28 [.int .i64 s, .rs true false (ints b) b.length, .rs true false (rows es) es.length]), some (.row 3 false (ints (start b t k)))], fun k => k ≤ b.length, fun k => b.length - k, 2, fun _ => rfl, rfl,
      ⟨_, 0, rfl, Nat.zero_le _, rfl, rfl, rfl, rfl⟩, fun k hk => ?_⟩
  conv => whnf
  refine Bc_intro (fun h => ?_) (fun h => ?_)
  · have hlt : k < b.length := by simp at h; omega
    conv => whnf
    refine ⟨_, ac27 s b es, rfl, ?_⟩
    conv => whnf
    refine Bc_intro (fun _ => ?_) (fun h2 => ?_)
    · conv => whnf
      refine ⟨_, ac43 t 0 _, rfl, ?_⟩
      have hw : IntKind.i64.wrap (s - 1) = s - 1 := wrap_id (by omega) (by omega)
      conv => whnf
      refine Bc_intro (fun _ => ?_) (fun h2 => ?_)
      · conv => whnf
        refine ⟨k, rfl, hlt, ?_⟩
        conv => whnf
        refine ⟨_, ints_get (k := k) hlt, ?_⟩
        have hg : b.getD k 0 = b[k] := by simp [hlt]
        conv => whnf
        refine Bc_intro (fun h3 => ?_) (fun h3 => ?_)
        · have h3 : b[k] ≤ t := of_decide_eq_true h3
          conv => whnf
          refine ⟨false, .inr (.inl rfl), .inr (.inl rfl), rfl, sizeLim_of (by show (k + 1) * 8 ≤ _; omega), intLim_of' (by omega), ?_⟩
          conv => whnf
          refine ⟨k + 1, hlt, (by show b.length - (k + 1) < b.length - k; omega), ?_, ?_, rfl, rfl⟩
          · show [AV.int .i64 t, AV.op 0 0, AV.ow 1 (k + 1), AV.int .i64 (IntKind.i64.wrap ((k : Int) + 1))] = [_, _, _, AV.int .i64 ((k + 1 : Nat) : Int)]
            rw [wrap_succ hlt (by omega)]
          · show [_, some (Blk.row 3 false (ints (start b t k) ++ [D.int .i64 k]))] = [_, some (Blk.row 3 false (ints (start b t (k + 1))))]
            rw [start_succ, hg, if_pos h3, ints_append]; rfl
        · have h3 : ¬ b[k] ≤ t := of_decide_eq_false h3
          conv => whnf
          refine ⟨false, .inr (.inl rfl), .inr (.inl rfl), rfl, sizeLim_of (by show (k + 1) * 8 ≤ _; omega), intLim_of' (by omega), ?_⟩
          conv => whnf
          refine ⟨k + 1, hlt, (by show b.length - (k + 1) < b.length - k; omega), ?_, ?_, rfl, rfl⟩
          · show [AV.int .i64 t, AV.op 0 0, AV.ow 1 (k + 1), AV.int .i64 (IntKind.i64.wrap ((k : Int) + 1))] = [_, _, _, AV.int .i64 ((k + 1 : Nat) : Int)]
            rw [wrap_succ hlt (by omega)]
          · show [_, some (Blk.row 3 false (ints (start b t k) ++ [D.int .i64 (-1)]))] = [_, some (Blk.row 3 false (ints (start b t (k + 1))))]
            rw [start_succ, hg, if_neg h3, ints_append]; rfl
      · have h2 : decide (0 ≤ t ∧ t ≤ IntKind.i64.wrap (s - 1)) = false := h2
        rw [hw, hrange] at h2; cases h2
    · have h2 : isFil s b es = false := h2
      rw [hfil] at h2; cases h2
  · have : k = b.length := by simp at h; omega
    subst this
    clear h hk
    have hcl : ∀ r, (rounds t es (start b t b.length) r).length = b.length := fun r => by rw [rounds_len, start_len]
    generalize hc0 : start b t b.length = c0 at *
    conv => whnf
    refine ⟨Nat, [], [1, 2, 5, 7], fun k => [.int .i64 t, .op 0 0, .ow 1 b.length, .int .i64 k], fun k => [some (.var 28 [.int .i64 s, .rs true false (ints b) b.length, .rs true false (rows es) es.length]), some (.row 3 false (ints (rounds t es c0 k)))], fun k => k ≤ b.length, fun k => b.length - k, 2, fun _ => rfl, rfl,
      ⟨_, 0, rfl, Nat.zero_le _, rfl, ?_, rfl, rfl⟩, fun r hr => ?_⟩
    · show [_, some (Blk.row 3 false (ints (start b t b.length)))] = _
      rw [hc0]; rfl
    conv => whnf
    refine Bc_intro (fun h => ?_) (fun h => ?_)
    · have hrlt : r < b.length := by simp at h; omega
      conv => whnf
      refine ⟨Nat, [], [1, 2, 5, 7, 8], fun k => [.int .i64 t, .op 0 0, .ow 1 b.length, .int .i64 r, .int .i64 k], fun k => [some (.var 28 [.int .i64 s, .rs true false (ints b) b.length, .rs true false (rows es) es.length]), some (.row 3 false (ints ((es.take k).foldl (relax t) (rounds t es c0 r))))], fun k => k ≤ es.length, fun k => es.length - k, 2, fun _ => rfl, rfl,
        ⟨_, 0, rfl, Nat.zero_le _, rfl, rfl, rfl, rfl⟩, fun j hj => ?_⟩
      conv => whnf
      refine Bc_intro (fun h => ?_) (fun h => ?_)
      · have hjlt : j < es.length := by simp at h; omega
        have hget := rows_get (k := j) hjlt
        have hft := foldl_take (t := t) (c := rounds t es c0 r) hjlt
        have hclen : ((es.take j).foldl (relax t) (rounds t es c0 r)).length = b.length := by rw [foldl_relax_len, hcl]
        obtain ⟨x, y, z, hxyz, hx, hy, _, _, _, _⟩ := hedge _ (mem_get hjlt)
        rw [hxyz] at hget hft
        conv => whnf
        refine ⟨j, rfl, hjlt, ?_⟩
        conv => whnf
        refine ⟨_, hget, ?_⟩
        conv => whnf
        refine ⟨2, rfl, (by show 2 < 3; omega), ?_⟩
        conv => whnf
        refine ⟨_, rfl, ?_⟩
        conv => whnf
        refine Bc_intro (fun hz => ?_) (fun hz => ?_)
        · have hz : z > t := of_decide_eq_true hz
          conv => whnf
          refine ⟨j + 1, hjlt, (by show es.length - (j + 1) < es.length - j; omega), ?_, ?_, rfl, rfl⟩
          · show [AV.int .i64 t, AV.op 0 0, AV.ow 1 b.length, AV.int .i64 r, AV.int .i64 (IntKind.i64.wrap ((j : Int) + 1))] = [_, _, _, _, AV.int .i64 ((j + 1 : Nat) : Int)]
            rw [wrap_succ hjlt (by omega)]
          · show [_, some (Blk.row 3 false (ints ((es.take j).foldl (relax t) (rounds t es c0 r))))] = [_, some (Blk.row 3 false (ints ((es.take (j + 1)).foldl (relax t) (rounds t es c0 r))))]
            rw [hft, relax, if_pos hz]; rfl
        · have hz : ¬ z > t := of_decide_eq_false hz
          conv => whnf
          refine ⟨j, rfl, hjlt, ?_⟩
          conv => whnf
          refine ⟨_, hget, ?_⟩
          conv => whnf
          refine ⟨0, rfl, (by show 0 < 3; omega), ?_⟩
          conv => whnf
          refine ⟨_, rfl, ?_⟩
          conv => whnf
          refine ⟨j, rfl, hjlt, ?_⟩
          conv => whnf
          refine ⟨_, hget, ?_⟩
          conv => whnf
          refine ⟨1, rfl, (by show 1 < 3; omega), ?_⟩
          conv => whnf
          refine ⟨_, rfl, ?_⟩
          conv => whnf
          refine ⟨x, rfl, hx, ?_⟩
          conv => whnf
          refine ⟨_, ints_get (k := x) (by omega), ?_⟩
          conv => whnf
          refine ⟨y, rfl, hy, ?_⟩
          conv => whnf
          refine ⟨_, ints_get (k := y) (by omega), ?_⟩
          conv => whnf
          refine ⟨x, rfl, hx, ?_⟩
          conv => whnf
          refine ⟨(by rw [ints_len]; show x + 1 ≤ _; omega), ?_⟩
          conv => whnf
          refine ⟨y, rfl, hy, ?_⟩
          conv => whnf
          have e1 : setND (ints ((es.take j).foldl (relax t) (rounds t es c0 r))) x [D.int .i64 (imin ((es.take j).foldl (relax t) (rounds t es c0 r))[x] ((es.take j).foldl (relax t) (rounds t es c0 r))[y])] = ints (((es.take j).foldl (relax t) (rounds t es c0 r)).set x (imin ((es.take j).foldl (relax t) (rounds t es c0 r))[x] ((es.take j).foldl (relax t) (rounds t es c0 r))[y])) := ints_set (by omega)
          refine ⟨(by show y + 1 ≤ (setND (ints ((es.take j).foldl (relax t) (rounds t es c0 r))) x [D.int .i64 (imin ((es.take j).foldl (relax t) (rounds t es c0 r))[x] ((es.take j).foldl (relax t) (rounds t es c0 r))[y])]).length; rw [e1, ints_len]; simp; omega), ?_⟩
          conv => whnf
          refine ⟨j + 1, hjlt, (by show es.length - (j + 1) < es.length - j; omega), ?_, ?_, rfl, rfl⟩
          · show [AV.int .i64 t, AV.op 0 0, AV.ow 1 b.length, AV.int .i64 r, AV.int .i64 (IntKind.i64.wrap ((j : Int) + 1))] = [_, _, _, _, AV.int .i64 ((j + 1 : Nat) : Int)]
            rw [wrap_succ hjlt (by omega)]
          · show [_, some (Blk.row 3 false (setND (setND (ints ((es.take j).foldl (relax t) (rounds t es c0 r))) x [D.int .i64 (imin ((es.take j).foldl (relax t) (rounds t es c0 r))[x] ((es.take j).foldl (relax t) (rounds t es c0 r))[y])]) y [D.int .i64 (imin ((es.take j).foldl (relax t) (rounds t es c0 r))[x] ((es.take j).foldl (relax t) (rounds t es c0 r))[y])]))] = [_, some (Blk.row 3 false (ints ((es.take (j + 1)).foldl (relax t) (rounds t es c0 r))))]
            have hgx : ((es.take j).foldl (relax t) (rounds t es c0 r)).getD ((x : Int)).toNat 0 = ((es.take j).foldl (relax t) (rounds t es c0 r))[x] := by simp [show x < ((es.take j).foldl (relax t) (rounds t es c0 r)).length by omega]
            have hgy : ((es.take j).foldl (relax t) (rounds t es c0 r)).getD ((y : Int)).toNat 0 = ((es.take j).foldl (relax t) (rounds t es c0 r))[y] := by simp [show y < ((es.take j).foldl (relax t) (rounds t es c0 r)).length by omega]
            have e2 : setND (setND (ints ((es.take j).foldl (relax t) (rounds t es c0 r))) x [D.int .i64 (imin ((es.take j).foldl (relax t) (rounds t es c0 r))[x] ((es.take j).foldl (relax t) (rounds t es c0 r))[y])]) y [D.int .i64 (imin ((es.take j).foldl (relax t) (rounds t es c0 r))[x] ((es.take j).foldl (relax t) (rounds t es c0 r))[y])] = ints (relax t ((es.take j).foldl (relax t) (rounds t es c0 r)) [(x : Int), (y : Int), z]) := by
              rw [e1, ints_set (by simp; omega), relax, if_neg hz, hgx, hgy]; rfl
            rw [e2, hft]; rfl
      · have : j = es.length := by simp at h; omega
        subst this
        conv => whnf
        refine ⟨r + 1, hrlt, (by show b.length - (r + 1) < b.length - r; omega), ?_, ?_, rfl, rfl⟩
        · show [AV.int .i64 t, AV.op 0 0, AV.ow 1 b.length, AV.int .i64 (IntKind.i64.wrap ((r : Int) + 1))] = [_, _, _, AV.int .i64 ((r + 1 : Nat) : Int)]
          rw [wrap_succ hrlt (by omega)]
        · show [_, some (Blk.row 3 false (ints ((es.take es.length).foldl (relax t) (rounds t es c0 r))))] = _
          rw [List.take_length]; rfl
    · have : r = b.length := by simp at h; omega
      subst this
      conv => whnf
      refine ⟨rfl, ?_⟩
      show AV.fs 3 false (ints (rounds t es c0 b.length)) b.length = _
      have e : comps s b es t = rounds t es c0 b.length := by rw [comps, hv, hc0]; rfl
      rw [e, hcl]
end Go.Qt
