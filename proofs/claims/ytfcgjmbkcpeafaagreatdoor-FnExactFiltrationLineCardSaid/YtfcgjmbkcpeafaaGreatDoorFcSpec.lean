/- PROVED: for every input the law FnExactFiltrationLine returns true and each argument reads afterwards as it read before (the statement 'FnExactFiltrationLineCardSaid' of the given Rows).
Conditions: none beyond those which the given statement itself names. This text is one part of the proof. -/
import Derived.Test.YtfcgjmbkcpeafaaGreatDoorFbSpec

namespace Go.Qt
open Go Go.Qv Go.Proofs
noncomputable def body13 : Code := match Tryz.f13.body with | some b => b | none => .skip
noncomputable def body14 : Code := match Tryz.f14.body with | some b => b | none => .skip
set_option maxHeartbeats 2000000

theorem ac29_out (s : Int) (b : List Int) (es : List (List Int)) (t : Int) (hv : hasStage s b es t = false) : AC Tryz.prog 29 [flA s b es, .int .i64 t] (.fs 3 false (ints (comps s b es t)) (comps s b es t).length) := by
  have hcomps : comps s b es t = [] := by rw [comps, hv]; rfl
  refine AC_of_awp (E := env 99 [] [] 0) (env_ok _ _ _ _) mixed Tryz.call29 Tryz.func29 (code := body29) rfl rfl (by kernel_rfl) (Nat.le_of_ble_eq_true rfl) fun hl => ?_
  clear hl
  conv => whnf
  refine ⟨Nat, [.slot 5 3 false], [1, 2, 5, 6], fun k => [.int .i64 t, .op 0 0, .ow 1 0, .int .i64 k], fun _ => [some (.var 28 [.int .i64 s, .rs true false (ints b) b.length, .rs true false (rows es) es.length]), some (.row 3 false [])], fun k => k = 0, fun k => k, 2, fun _ => rfl, rfl,
      ⟨_, 0, rfl, rfl, rfl, rfl, rfl, rfl⟩, fun k hk => ?_⟩
  have hk : k = 0 := hk
  subst hk
  conv => whnf
  refine Bc_intro (fun h => ?_) (fun h => ?_)
  · conv => whnf
    refine ⟨_, ac27 s b es, rfl, ?_⟩
    conv => whnf
    refine Bc_intro (fun h1 => ?_) (fun h1 => ?_)
    · have h1 : isFil s b es = true := h1
      obtain ⟨hs, _⟩ := fil_bounds h1
      conv => whnf
      refine ⟨_, ac43 t 0 _, rfl, ?_⟩
      have hw : IntKind.i64.wrap (s - 1) = s - 1 := wrap_id (by omega) (by omega)
      conv => whnf
      refine Bc_intro (fun h2 => ?_) (fun h2 => ?_)
      · have h2 : decide (0 ≤ t ∧ t ≤ IntKind.i64.wrap (s - 1)) = true := h2
        rw [hw] at h2
        rw [hasStage, h1, h2] at hv
        cases hv
      · clear h2
        conv => whnf
        refine ⟨Nat, [], [5, 7], fun k => [.ow 1 0, .int .i64 k], fun _ => [some (.var 28 [.int .i64 s, .rs true false (ints b) b.length, .rs true false (rows es) es.length]), some (.row 3 false [])], fun k => k = 0, fun k => k, 2, fun _ => rfl, rfl,
          ⟨_, 0, rfl, rfl, rfl, rfl, rfl, rfl⟩, fun r hr => ?_⟩
        conv => whnf
        refine ⟨rfl, ?_⟩
        rw [hcomps]; rfl
    · clear h1
      conv => whnf
      refine ⟨Nat, [], [5, 7], fun k => [.ow 1 0, .int .i64 k], fun _ => [some (.var 28 [.int .i64 s, .rs true false (ints b) b.length, .rs true false (rows es) es.length]), some (.row 3 false [])], fun k => k = 0, fun k => k, 2, fun _ => rfl, rfl,
        ⟨_, 0, rfl, rfl, rfl, rfl, rfl, rfl⟩, fun r hr => ?_⟩
      conv => whnf
      refine ⟨rfl, ?_⟩
      rw [hcomps]; rfl
  · clear h
    conv => whnf
    refine ⟨Nat, [], [5, 7], fun k => [.ow 1 0, .int .i64 k], fun _ => [some (.var 28 [.int .i64 s, .rs true false (ints b) b.length, .rs true false (rows es) es.length]), some (.row 3 false [])], fun k => k = 0, fun k => k, 2, fun _ => rfl, rfl,
      ⟨_, 0, rfl, rfl, rfl, rfl, rfl, rfl⟩, fun r hr => ?_⟩
    conv => whnf
    refine ⟨rfl, ?_⟩
    rw [hcomps]; rfl

theorem ac29 (s : Int) (b : List Int) (es : List (List Int)) (t : Int) : AC Tryz.prog 29 [flA s b es, .int .i64 t] (.fs 3 false (ints (comps s b es t)) (comps s b es t).length) := by
  cases hv : hasStage s b es t with
  | true => exact ac29_in s b es t hv
  | false => exact ac29_out s b es t hv

theorem comps_small (s : Int) (b : List Int) (es : List (List Int)) (t : Int) : (comps s b es t).length ≤ 4 := by
  cases hv : hasStage s b es t with
  | true =>
    have h := comps_len s b es t
    simp only [hasStage, Bool.and_eq_true] at hv
    have := (fil_bounds hv.1).2.1.2
    omega
  | false => rw [comps, hv]; simp

def parts (s : Int) (b : List Int) (es : List (List Int)) (t : Int) : Nat := (roots (comps s b es t)).length
theorem parts_small (s : Int) (b : List Int) (es : List (List Int)) (t : Int) : parts s b es t ≤ 4 := Nat.le_trans (rootsTo_len _ _) (comps_small s b es t)

theorem ac13 (s : Int) (b : List Int) (es : List (List Int)) (t : Int) : AC Tryz.prog 13 [flA s b es, .int .i64 t] (.int .i64 (parts s b es t)) := by
  refine AC_of_awp (E := env 10 [] [] 0) (env_ok _ _ _ _) mixed Tryz.call13 Tryz.func13 (code := body13) rfl rfl (by kernel_rfl) (Nat.le_of_ble_eq_true rfl) fun hl => ?_
  conv => whnf
  refine ⟨_, ac29 s b es t, rfl, ?_⟩
  conv => whnf
  refine ⟨_, ac28 _ (Nat.le_trans (comps_small s b es t) (by omega)), rfl, ?_⟩
  conv => whnf
  exact ⟨rfl, rfl⟩

def cnt {α : Type} (p : α → Bool) (l : List α) (k : Nat) : Nat := (l.take k).countP p
theorem cnt_succ {α : Type} {p : α → Bool} {l : List α} {k : Nat} (h : k < l.length) : cnt p l (k + 1) = cnt p l k + (if p l[k] then 1 else 0) := by
  simp only [cnt]
  rw [show l.take (k + 1) = l.take k ++ [l[k]] by rw [List.take_add_one]; simp [h], List.countP_append, List.countP_singleton]
theorem cnt_le {α : Type} (p : α → Bool) (l : List α) (k : Nat) : cnt p l k ≤ k := by
  simp only [cnt]
  exact Nat.le_trans List.countP_le_length (by simp; omega)
def born (x : Int) : Bool := decide (x ≥ 0)
def came (t : Int) (e : List Int) : Bool := decide (e.getD 2 0 ≤ t)
def cyc (s : Int) (b : List Int) (es : List (List Int)) (t : Int) : Int :=
  (parts s b es t : Int) - cnt born (comps s b es t) (comps s b es t).length + (if hasStage s b es t then (cnt (came t) es es.length : Int) else 0)

theorem comps_pos {s : Int} {b : List Int} {es : List (List Int)} {t : Int} : 0 < (comps s b es t).length ↔ hasStage s b es t = true := by
  cases hv : hasStage s b es t with
  | true =>
    simp only [iff_true]
    rw [comps, hv]
    simp only [if_true]
    rw [rounds_len, start_len]
    simp only [hasStage, Bool.and_eq_true] at hv
    exact (fil_bounds hv.1).2.1.1
  | false => rw [comps, hv]; simp

theorem ac14 (s : Int) (b : List Int) (es : List (List Int)) (t : Int) (hes : es.length ≤ 1048576) : AC Tryz.prog 14 [flA s b es, .int .i64 t] (.int .i64 (cyc s b es t)) := by
  refine AC_of_awp (E := env 52 [] [] 0) (env_ok _ _ _ _) mixed Tryz.call14 Tryz.func14 (code := body14) rfl rfl (by kernel_rfl) (Nat.le_of_ble_eq_true rfl) fun hl => ?_
  conv => whnf
  refine ⟨_, ac29 s b es t, rfl, ?_⟩
  conv => whnf
  have hcl := comps_small s b es t
  have hps := parts_small s b es t
  refine ⟨_, ac28 _ (Nat.le_trans hcl (by omega)), rfl, ?_⟩
  conv => whnf
  refine ⟨Nat, [], [1, 2, 5, 6, 7], fun k => [.int .i64 t, .op 0 0, .rs false false (ints (comps s b es t)) (comps s b es t).length, .int .i64 ((parts s b es t : Int) - cnt born (comps s b es t) k), .int .i64 k], fun _ => [some (.var 28 [.int .i64 s, .rs true false (ints b) b.length, .rs true false (rows es) es.length])], fun k => k ≤ (comps s b es t).length, fun k => (comps s b es t).length - k, 1, fun _ => rfl, rfl,
      ⟨_, 0, rfl, Nat.zero_le _, ?_, rfl, rfl, rfl⟩, fun k hk => ?_⟩
  · show [_, _, _, AV.int .i64 (parts s b es t : Int), _] = [_, _, _, AV.int .i64 ((parts s b es t : Int) - (cnt born (comps s b es t) 0 : Nat)), _]
    rw [show cnt born (comps s b es t) 0 = 0 from by simp [cnt], Int.ofNat_zero, Int.sub_zero]; rfl
  conv => whnf
  refine Bc_intro (fun h => ?_) (fun h => ?_)
  · have hlt : k < (comps s b es t).length := by simp at h; omega
    have hcs := cnt_succ (p := born) hlt
    have hcb := cnt_le born (comps s b es t) k
    conv => whnf
    refine ⟨k, rfl, hlt, ?_⟩
    conv => whnf
    refine ⟨_, ints_get (k := k) hlt, ?_⟩
    conv => whnf
    refine Bc_intro (fun h2 => ?_) (fun h2 => ?_)
    · have h2 : born (comps s b es t)[k] = true := h2
      rw [h2, if_pos rfl] at hcs
      conv => whnf
      refine ⟨k + 1, hlt, (by show (comps s b es t).length - (k + 1) < (comps s b es t).length - k; omega), ?_, rfl, rfl, rfl⟩
      show [_, _, _, AV.int .i64 (IntKind.i64.wrap ((parts s b es t : Int) - (cnt born (comps s b es t) k : Nat) - 1)), AV.int .i64 (IntKind.i64.wrap ((k : Int) + 1))] = [AV.int .i64 t, AV.op 0 0, AV.rs false false (ints (comps s b es t)) (comps s b es t).length, AV.int .i64 ((parts s b es t : Int) - (cnt born (comps s b es t) (k + 1) : Nat)), AV.int .i64 ((k + 1 : Nat) : Int)]
      have e1 : IntKind.i64.wrap ((parts s b es t : Int) - (cnt born (comps s b es t) k : Nat) - 1) = (parts s b es t : Int) - (cnt born (comps s b es t) (k + 1) : Nat) := by rw [wrap_id (by omega) (by omega), hcs]; omega
      rw [e1, wrap_succ hlt (by omega)]; rfl
    · have h2 : born (comps s b es t)[k] = false := h2
      rw [h2] at hcs
      conv => whnf
      refine ⟨k + 1, hlt, (by show (comps s b es t).length - (k + 1) < (comps s b es t).length - k; omega), ?_, rfl, rfl, rfl⟩
      show [_, _, _, AV.int .i64 ((parts s b es t : Int) - (cnt born (comps s b es t) k : Nat)), AV.int .i64 (IntKind.i64.wrap ((k : Int) + 1))] = [AV.int .i64 t, AV.op 0 0, AV.rs false false (ints (comps s b es t)) (comps s b es t).length, AV.int .i64 ((parts s b es t : Int) - (cnt born (comps s b es t) (k + 1) : Nat)), AV.int .i64 ((k + 1 : Nat) : Int)]
      have e1 : cnt born (comps s b es t) (k + 1) = cnt born (comps s b es t) k := by rw [hcs]; rfl
      rw [e1, wrap_succ hlt (by omega)]; rfl
  · have : k = (comps s b es t).length := by simp at h; omega
    subst this
    have hcb := cnt_le born (comps s b es t) (comps s b es t).length
    clear h hk
    conv => whnf
    refine ⟨Nat, [], [1, 2, 5, 6, 8], fun k => [.int .i64 t, .op 0 0, .rs false false (ints (comps s b es t)) (comps s b es t).length, .int .i64 ((parts s b es t : Int) - cnt born (comps s b es t) (comps s b es t).length + cnt (came t) es k), .int .i64 k], fun _ => [some (.var 28 [.int .i64 s, .rs true false (ints b) b.length, .rs true false (rows es) es.length])], fun k => k ≤ es.length ∧ (0 < k → hasStage s b es t = true), fun k => es.length - k, 1, fun _ => rfl, rfl,
      ⟨_, 0, rfl, ⟨Nat.zero_le _, fun h => absurd h (by omega)⟩, ?_, rfl, rfl, rfl⟩, fun k hk => ?_⟩
    · show [_, _, _, AV.int .i64 ((parts s b es t : Int) - (cnt born (comps s b es t) (comps s b es t).length : Nat)), _] = [_, _, _, AV.int .i64 ((parts s b es t : Int) - (cnt born (comps s b es t) (comps s b es t).length : Nat) + (cnt (came t) es 0 : Nat)), _]
      rw [show cnt (came t) es 0 = 0 from by simp [cnt], Int.ofNat_zero, Int.add_zero]; rfl
    obtain ⟨hk1, hk2⟩ := hk
    have fin : (hasStage s b es t = true → k = es.length) → (hasStage s b es t = false → k = 0) → AV.int .i64 ((parts s b es t : Int) - (cnt born (comps s b es t) (comps s b es t).length : Nat) + (cnt (came t) es k : Nat)) = .int .i64 (cyc s b es t) := fun g1 g2 => by
      unfold cyc
      cases hv : hasStage s b es t with
      | true => rw [g1 hv]; rfl
      | false => rw [g2 hv, show cnt (came t) es 0 = 0 from by simp [cnt]]; rfl
    conv => whnf
    refine Bc_intro (fun h => ?_) (fun h => ?_)
    · have hlt : k < es.length := by simp at h; omega
      have hcs := cnt_succ (p := came t) hlt
      have hcb2 := cnt_le (came t) es k
      conv => whnf
      refine Bc_intro (fun h3 => ?_) (fun h3 => ?_)
      · have h3 : 0 < (comps s b es t).length := by have : (((comps s b es t).length : Nat) : Int) > 0 := of_decide_eq_true h3
                                                    omega
        have hv := comps_pos.1 h3
        have hv2 := hv
        simp only [hasStage, Bool.and_eq_true] at hv2
        obtain ⟨x, y, z, hxyz, _⟩ := (fil_bounds hv2.1).2.2.2.2 _ (mem_get hlt)
        have hget := rows_get (k := k) hlt
        rw [hxyz] at hget hcs
        conv => whnf
        refine ⟨k, rfl, hlt, ?_⟩
        conv => whnf
        refine ⟨_, hget, ?_⟩
        conv => whnf
        refine ⟨2, rfl, (by show 2 < 3; omega), ?_⟩
        conv => whnf
        refine ⟨_, rfl, ?_⟩
        conv => whnf
        refine Bc_intro (fun h2 => ?_) (fun h2 => ?_)
        · have h2 : came t [(x : Int), (y : Int), z] = true := h2
          rw [h2, if_pos rfl] at hcs
          conv => whnf
          refine ⟨k + 1, ⟨hlt, fun _ => hv⟩, (by show es.length - (k + 1) < es.length - k; omega), ?_, rfl, rfl, rfl⟩
          show [_, _, _, AV.int .i64 (IntKind.i64.wrap ((parts s b es t : Int) - (cnt born (comps s b es t) (comps s b es t).length : Nat) + (cnt (came t) es k : Nat) + 1)), AV.int .i64 (IntKind.i64.wrap ((k : Int) + 1))] = [AV.int .i64 t, AV.op 0 0, AV.rs false false (ints (comps s b es t)) (comps s b es t).length, AV.int .i64 ((parts s b es t : Int) - (cnt born (comps s b es t) (comps s b es t).length : Nat) + (cnt (came t) es (k + 1) : Nat)), AV.int .i64 ((k + 1 : Nat) : Int)]
          have e1 : IntKind.i64.wrap ((parts s b es t : Int) - (cnt born (comps s b es t) (comps s b es t).length : Nat) + (cnt (came t) es k : Nat) + 1) = (parts s b es t : Int) - (cnt born (comps s b es t) (comps s b es t).length : Nat) + (cnt (came t) es (k + 1) : Nat) := by rw [wrap_id (by omega) (by omega), hcs]; omega
          rw [e1, wrap_succ hlt (by omega)]; rfl
        · have h2 : came t [(x : Int), (y : Int), z] = false := h2
          rw [h2] at hcs
          conv => whnf
          refine ⟨k + 1, ⟨hlt, fun _ => hv⟩, (by show es.length - (k + 1) < es.length - k; omega), ?_, rfl, rfl, rfl⟩
          show [_, _, _, AV.int .i64 ((parts s b es t : Int) - (cnt born (comps s b es t) (comps s b es t).length : Nat) + (cnt (came t) es k : Nat)), AV.int .i64 (IntKind.i64.wrap ((k : Int) + 1))] = [AV.int .i64 t, AV.op 0 0, AV.rs false false (ints (comps s b es t)) (comps s b es t).length, AV.int .i64 ((parts s b es t : Int) - (cnt born (comps s b es t) (comps s b es t).length : Nat) + (cnt (came t) es (k + 1) : Nat)), AV.int .i64 ((k + 1 : Nat) : Int)]
          have e1 : cnt (came t) es (k + 1) = cnt (came t) es k := by rw [hcs]; rfl
          rw [e1, wrap_succ hlt (by omega)]; rfl
      · have h3 : ¬ 0 < (comps s b es t).length := by have : ¬ (((comps s b es t).length : Nat) : Int) > 0 := of_decide_eq_false h3
                                                      omega
        have hv : hasStage s b es t = false := by cases hv : hasStage s b es t; rfl; exact absurd (comps_pos.2 hv) h3
        conv => whnf
        refine ⟨rfl, fin (fun h => by rw [hv] at h; cases h) fun _ => ?_⟩
        rcases Nat.eq_zero_or_pos k with h0 | h0
        · exact h0
        · have := hk2 h0; rw [hv] at this; cases this
    · have : k = es.length := by simp at h; omega
      subst this
      conv => whnf
      refine ⟨rfl, fin (fun _ => rfl) fun hv => ?_⟩
      rcases Nat.eq_zero_or_pos es.length with h0 | h0
      · exact h0
      · have := hk2 h0; rw [hv] at this; cases this
end Go.Qt

namespace Go.Qt
open Go Go.Qv Go.Proofs
noncomputable def body12 : Code := match Tryz.f12.body with | some b => b | none => .skip
noncomputable def body15 : Code := match Tryz.f15.body with | some b => b | none => .skip
set_option maxHeartbeats 2000000

def dig (n : Nat) : List UInt8 := [UInt8.ofNat (48 + n)]

theorem ac12 (n : Nat) (h : n ≤ 9) : AC Tryz.prog 12 [.int .i64 (n : Int)] (.str (dig n)) := by
  refine AC_of_awp (E := env 31 [] [] 0) (env_ok _ _ _ _) mixed Tryz.call12 Tryz.func12 (code := body12) rfl rfl (by kernel_rfl) (Nat.le_of_ble_eq_true rfl) fun hl => ?_
  have h10 : n = 0 ∨ n = 1 ∨ n = 2 ∨ n = 3 ∨ n = 4 ∨ n = 5 ∨ n = 6 ∨ n = 7 ∨ n = 8 ∨ n = 9 := by omega
  rcases h10 with rfl | h10
  · conv => whnf
    exact ⟨rfl, rfl⟩
  rcases h10 with rfl | rfl | rfl | rfl | rfl | rfl | rfl | rfl | rfl
  · conv => whnf
    refine ⟨Bool, [], [0, 3, 4], fun a => match a with | false => [.int .i64 1, .str [], .bool false] | true => [.int .i64 0, .str [49], .bool false], fun _ => [], fun _ => True, fun a => match a with | false => 1 | true => 0, 0, fun _ => rfl, rfl,
      ⟨_, false, rfl, trivial, rfl, rfl, rfl, rfl⟩, fun a _ => ?_⟩
    cases a
    · conv => whnf
      refine ⟨(by decide), ?_⟩
      conv => whnf
      refine ⟨[49], rfl, rfl, ?_⟩
      conv => whnf
      refine ⟨intLim_of' (by decide), ?_⟩
      conv => whnf
      refine ⟨(by decide), ?_⟩
      conv => whnf
      exact ⟨true, trivial, Nat.one_pos, rfl, rfl, rfl, rfl⟩
    · conv => whnf
      exact ⟨rfl, rfl⟩
  · conv => whnf
    refine ⟨Bool, [], [0, 3, 4], fun a => match a with | false => [.int .i64 2, .str [], .bool false] | true => [.int .i64 0, .str [50], .bool false], fun _ => [], fun _ => True, fun a => match a with | false => 1 | true => 0, 0, fun _ => rfl, rfl,
      ⟨_, false, rfl, trivial, rfl, rfl, rfl, rfl⟩, fun a _ => ?_⟩
    cases a
    · conv => whnf
      refine ⟨(by decide), ?_⟩
      conv => whnf
      refine ⟨[50], rfl, rfl, ?_⟩
      conv => whnf
      refine ⟨intLim_of' (by decide), ?_⟩
      conv => whnf
      refine ⟨(by decide), ?_⟩
      conv => whnf
      exact ⟨true, trivial, Nat.one_pos, rfl, rfl, rfl, rfl⟩
    · conv => whnf
      exact ⟨rfl, rfl⟩
  · conv => whnf
    refine ⟨Bool, [], [0, 3, 4], fun a => match a with | false => [.int .i64 3, .str [], .bool false] | true => [.int .i64 0, .str [51], .bool false], fun _ => [], fun _ => True, fun a => match a with | false => 1 | true => 0, 0, fun _ => rfl, rfl,
      ⟨_, false, rfl, trivial, rfl, rfl, rfl, rfl⟩, fun a _ => ?_⟩
    cases a
    · conv => whnf
      refine ⟨(by decide), ?_⟩
      conv => whnf
      refine ⟨[51], rfl, rfl, ?_⟩
      conv => whnf
      refine ⟨intLim_of' (by decide), ?_⟩
      conv => whnf
      refine ⟨(by decide), ?_⟩
      conv => whnf
      exact ⟨true, trivial, Nat.one_pos, rfl, rfl, rfl, rfl⟩
    · conv => whnf
      exact ⟨rfl, rfl⟩
  · conv => whnf
    refine ⟨Bool, [], [0, 3, 4], fun a => match a with | false => [.int .i64 4, .str [], .bool false] | true => [.int .i64 0, .str [52], .bool false], fun _ => [], fun _ => True, fun a => match a with | false => 1 | true => 0, 0, fun _ => rfl, rfl,
      ⟨_, false, rfl, trivial, rfl, rfl, rfl, rfl⟩, fun a _ => ?_⟩
    cases a
    · conv => whnf
      refine ⟨(by decide), ?_⟩
      conv => whnf
      refine ⟨[52], rfl, rfl, ?_⟩
      conv => whnf
      refine ⟨intLim_of' (by decide), ?_⟩
      conv => whnf
      refine ⟨(by decide), ?_⟩
      conv => whnf
      exact ⟨true, trivial, Nat.one_pos, rfl, rfl, rfl, rfl⟩
    · conv => whnf
      exact ⟨rfl, rfl⟩
  · conv => whnf
    refine ⟨Bool, [], [0, 3, 4], fun a => match a with | false => [.int .i64 5, .str [], .bool false] | true => [.int .i64 0, .str [53], .bool false], fun _ => [], fun _ => True, fun a => match a with | false => 1 | true => 0, 0, fun _ => rfl, rfl,
      ⟨_, false, rfl, trivial, rfl, rfl, rfl, rfl⟩, fun a _ => ?_⟩
    cases a
    · conv => whnf
      refine ⟨(by decide), ?_⟩
      conv => whnf
      refine ⟨[53], rfl, rfl, ?_⟩
      conv => whnf
      refine ⟨intLim_of' (by decide), ?_⟩
      conv => whnf
      refine ⟨(by decide), ?_⟩
      conv => whnf
      exact ⟨true, trivial, Nat.one_pos, rfl, rfl, rfl, rfl⟩
    · conv => whnf
      exact ⟨rfl, rfl⟩
  · conv => whnf
    refine ⟨Bool, [], [0, 3, 4], fun a => match a with | false => [.int .i64 6, .str [], .bool false] | true => [.int .i64 0, .str [54], .bool false], fun _ => [], fun _ => True, fun a => match a with | false => 1 | true => 0, 0, fun _ => rfl, rfl,
      ⟨_, false, rfl, trivial, rfl, rfl, rfl, rfl⟩, fun a _ => ?_⟩
    cases a
    · conv => whnf
      refine ⟨(by decide), ?_⟩
      conv => whnf
      refine ⟨[54], rfl, rfl, ?_⟩
      conv => whnf
      refine ⟨intLim_of' (by decide), ?_⟩
      conv => whnf
      refine ⟨(by decide), ?_⟩
      conv => whnf
      exact ⟨true, trivial, Nat.one_pos, rfl, rfl, rfl, rfl⟩
    · conv => whnf
      exact ⟨rfl, rfl⟩
  · conv => whnf
    refine ⟨Bool, [], [0, 3, 4], fun a => match a with | false => [.int .i64 7, .str [], .bool false] | true => [.int .i64 0, .str [55], .bool false], fun _ => [], fun _ => True, fun a => match a with | false => 1 | true => 0, 0, fun _ => rfl, rfl,
      ⟨_, false, rfl, trivial, rfl, rfl, rfl, rfl⟩, fun a _ => ?_⟩
    cases a
    · conv => whnf
      refine ⟨(by decide), ?_⟩
      conv => whnf
      refine ⟨[55], rfl, rfl, ?_⟩
      conv => whnf
      refine ⟨intLim_of' (by decide), ?_⟩
      conv => whnf
      refine ⟨(by decide), ?_⟩
      conv => whnf
      exact ⟨true, trivial, Nat.one_pos, rfl, rfl, rfl, rfl⟩
    · conv => whnf
      exact ⟨rfl, rfl⟩
  · conv => whnf
    refine ⟨Bool, [], [0, 3, 4], fun a => match a with | false => [.int .i64 8, .str [], .bool false] | true => [.int .i64 0, .str [56], .bool false], fun _ => [], fun _ => True, fun a => match a with | false => 1 | true => 0, 0, fun _ => rfl, rfl,
      ⟨_, false, rfl, trivial, rfl, rfl, rfl, rfl⟩, fun a _ => ?_⟩
    cases a
    · conv => whnf
      refine ⟨(by decide), ?_⟩
      conv => whnf
      refine ⟨[56], rfl, rfl, ?_⟩
      conv => whnf
      refine ⟨intLim_of' (by decide), ?_⟩
      conv => whnf
      refine ⟨(by decide), ?_⟩
      conv => whnf
      exact ⟨true, trivial, Nat.one_pos, rfl, rfl, rfl, rfl⟩
    · conv => whnf
      exact ⟨rfl, rfl⟩
  · conv => whnf
    refine ⟨Bool, [], [0, 3, 4], fun a => match a with | false => [.int .i64 9, .str [], .bool false] | true => [.int .i64 0, .str [57], .bool false], fun _ => [], fun _ => True, fun a => match a with | false => 1 | true => 0, 0, fun _ => rfl, rfl,
      ⟨_, false, rfl, trivial, rfl, rfl, rfl, rfl⟩, fun a _ => ?_⟩
    cases a
    · conv => whnf
      refine ⟨(by decide), ?_⟩
      conv => whnf
      refine ⟨[57], rfl, rfl, ?_⟩
      conv => whnf
      refine ⟨intLim_of' (by decide), ?_⟩
      conv => whnf
      refine ⟨(by decide), ?_⟩
      conv => whnf
      exact ⟨true, trivial, Nat.one_pos, rfl, rfl, rfl, rfl⟩
    · conv => whnf
      exact ⟨rfl, rfl⟩
end Go.Qt

namespace Go.Qt
open Go Go.Qv Go.Proofs
noncomputable def body15' : Code := match Tryz.f15.body with | some b => b | none => .skip
set_option maxHeartbeats 2000000

/-- A bar: first, last, how many. -/
abbrev Bar := Nat × Nat × Nat
def barD (x : Bar) : List D := [.int .i64 (x.1 : Int), .int .i64 (x.2.1 : Int), .int .i64 (x.2.2 : Int)]
def barsD (l : List Bar) : List D := l.flatMap barD
theorem barsD_len (l : List Bar) : (barsD l).length = l.length * 3 := by
  induction l with
  | nil => rfl
  | cons x r ih => simp only [barsD, List.flatMap_cons, List.length_append, List.length_cons] at ih ⊢; rw [ih]; simp [barD]; omega
theorem barsD_get : ∀ {l : List Bar} {k j : Nat} (h : k < l.length), j < 3 → (barsD l)[k * 3 + j]? = (barD l[k])[j]?
  | x :: r, 0, j, h, hj => by
    simp only [barsD, List.flatMap_cons, Nat.zero_mul, Nat.zero_add, List.getElem_cons_zero]
    rw [List.getElem?_append_left (by simp [barD]; omega)]
  | x :: r, k + 1, j, h, hj => by
    simp only [barsD, List.flatMap_cons, List.getElem_cons_succ]
    rw [List.getElem?_append_right (by simp [barD]; omega)]
    have : (k + 1) * 3 + j - (barD x).length = k * 3 + j := by simp [barD]; omega
    rw [this]
    exact barsD_get (by simpa using h) hj
def cl (n : Nat) : Nat := min n 9
def barText (x : Bar) : List UInt8 := dig (cl x.1) ++ [45] ++ dig (cl x.2.1) ++ [120] ++ dig (cl x.2.2)
def textTo (l : List Bar) : Nat → List UInt8
  | 0 => []
  | k + 1 => (if k = 0 then [] else textTo l k ++ [32]) ++ barText (l.getD k (0, 0, 0))
theorem textTo_len (l : List Bar) : ∀ k, (textTo l k).length ≤ 6 * k
  | 0 => by simp [textTo]
  | k + 1 => by
    have := textTo_len l k
    simp only [textTo]
    split <;> simp [barText, dig] <;> omega
def barsText (l : List Bar) : List UInt8 := if l = [] then [110, 111, 110, 101] else textTo l l.length

theorem clamp (f : Nat) : imax 0 (imin 9 (f : Int)) = (cl f : Int) := by
  unfold cl imin imax
  split <;> split <;> omega
theorem ac12c (f : Nat) : AC Tryz.prog 12 [.int .i64 (imax 0 (imin 9 (f : Int)))] (.str (dig (cl f))) := by rw [clamp f]; exact ac12 _ (by unfold cl; omega)

theorem ac15 (l : List Bar) (hn : l.length ≤ 20) : AC Tryz.prog 15 [.rs true false (barsD l) l.length] (.str (barsText l)) := by
  refine AC_of_awp (E := env 53 [] [] 0) (env_ok _ _ _ _) mixed Tryz.call15 Tryz.func15 (code := body15') rfl rfl (by kernel_rfl) (Nat.le_of_ble_eq_true rfl) fun _ => ?_
  conv => whnf
  refine ⟨Nat, [], [0, 3, 4], fun k => [.rs true false (barsD l) l.length, .str (textTo l k), .int .i64 k], fun _ => [], fun k => k ≤ l.length, fun k => l.length - k, 0, fun _ => rfl, rfl,
      ⟨_, 0, rfl, Nat.zero_le _, rfl, rfl, rfl, rfl⟩, fun k hk => ?_⟩
  conv => whnf
  refine Bc_intro (fun h => ?_) (fun h => ?_)
  · have hlt : k < l.length := by simp at h; omega
    have htl := textTo_len l k
    have hgd : l.getD k (0, 0, 0) = l[k] := by simp [hlt]
    have g0 := barsD_get (j := 0) hlt (by omega)
    have g1 := barsD_get (j := 1) hlt (by omega)
    have g2 := barsD_get (j := 2) hlt (by omega)
    conv => whnf
    refine Bc_intro (fun _ => ?_) (fun h' => ?_)
    · conv => whnf
      refine Bc_intro (fun hk0 => ?_) (fun hk0 => ?_)
      · have hk0 : k ≠ 0 := by have : (k : Int) > 0 := of_decide_eq_true hk0
                               omega
        conv => whnf
        refine ⟨intLim_of' (by show _ + 1 ≤ _; omega), ?_⟩
        conv => whnf
        refine ⟨k, rfl, hlt, ?_⟩
        conv => whnf
        refine ⟨_, g0, ?_⟩
        conv => whnf
        refine ⟨_, ac12c _, rfl, ?_⟩
        conv => whnf
        refine ⟨intLim_of' (by show ((textTo l k ++ [32])).length + 1 ≤ 9223372036854775807; simp; omega), ?_⟩
        conv => whnf
        refine ⟨intLim_of' (by show ((textTo l k ++ [32]) ++ dig (cl l[k].1)).length + 1 ≤ 9223372036854775807; simp [dig]; omega), ?_⟩
        conv => whnf
        refine ⟨k, rfl, hlt, ?_⟩
        conv => whnf
        refine ⟨_, g1, ?_⟩
        conv => whnf
        refine ⟨_, ac12c _, rfl, ?_⟩
        conv => whnf
        refine ⟨intLim_of' (by show ((textTo l k ++ [32]) ++ dig (cl l[k].1) ++ [45]).length + 1 ≤ 9223372036854775807; simp [dig]; omega), ?_⟩
        conv => whnf
        refine ⟨intLim_of' (by show ((textTo l k ++ [32]) ++ dig (cl l[k].1) ++ [45] ++ dig (cl l[k].2.1)).length + 1 ≤ 9223372036854775807; simp [dig]; omega), ?_⟩
        conv => whnf
        refine ⟨k, rfl, hlt, ?_⟩
        conv => whnf
        refine ⟨_, g2, ?_⟩
        conv => whnf
        refine ⟨_, ac12c _, rfl, ?_⟩
        conv => whnf
        refine ⟨intLim_of' (by show ((textTo l k ++ [32]) ++ dig (cl l[k].1) ++ [45] ++ dig (cl l[k].2.1) ++ [120]).length + 1 ≤ 9223372036854775807; simp [dig]; omega), ?_⟩
        conv => whnf
        refine ⟨k + 1, hlt, (by show l.length - (k + 1) < l.length - k; omega), ?_, rfl, rfl, rfl⟩
        show [AV.rs true false (barsD l) l.length, AV.str ((textTo l k ++ [32]) ++ dig (cl l[k].1) ++ [45] ++ dig (cl l[k].2.1) ++ [120] ++ dig (cl l[k].2.2)), AV.int .i64 (IntKind.i64.wrap ((k : Int) + 1))] = [AV.rs true false (barsD l) l.length, AV.str (textTo l (k + 1)), AV.int .i64 ((k + 1 : Nat) : Int)]
        have e : (textTo l k ++ [32]) ++ dig (cl l[k].1) ++ [45] ++ dig (cl l[k].2.1) ++ [120] ++ dig (cl l[k].2.2) = textTo l (k + 1) := by simp only [textTo, if_neg hk0, hgd, barText, List.append_assoc]
        rw [e, wrap_succ hlt (by omega)]
      · have hk0 : k = 0 := by have : ¬ (k : Int) > 0 := of_decide_eq_false hk0
                               omega
        conv => whnf
        refine ⟨k, rfl, hlt, ?_⟩
        conv => whnf
        refine ⟨_, g0, ?_⟩
        conv => whnf
        refine ⟨_, ac12c _, rfl, ?_⟩
        conv => whnf
        refine ⟨intLim_of' (by show ((textTo l k)).length + 1 ≤ 9223372036854775807; simp; omega), ?_⟩
        conv => whnf
        refine ⟨intLim_of' (by show ((textTo l k) ++ dig (cl l[k].1)).length + 1 ≤ 9223372036854775807; simp [dig]; omega), ?_⟩
        conv => whnf
        refine ⟨k, rfl, hlt, ?_⟩
        conv => whnf
        refine ⟨_, g1, ?_⟩
        conv => whnf
        refine ⟨_, ac12c _, rfl, ?_⟩
        conv => whnf
        refine ⟨intLim_of' (by show ((textTo l k) ++ dig (cl l[k].1) ++ [45]).length + 1 ≤ 9223372036854775807; simp [dig]; omega), ?_⟩
        conv => whnf
        refine ⟨intLim_of' (by show ((textTo l k) ++ dig (cl l[k].1) ++ [45] ++ dig (cl l[k].2.1)).length + 1 ≤ 9223372036854775807; simp [dig]; omega), ?_⟩
        conv => whnf
        refine ⟨k, rfl, hlt, ?_⟩
        conv => whnf
        refine ⟨_, g2, ?_⟩
        conv => whnf
        refine ⟨_, ac12c _, rfl, ?_⟩
        conv => whnf
        refine ⟨intLim_of' (by show ((textTo l k) ++ dig (cl l[k].1) ++ [45] ++ dig (cl l[k].2.1) ++ [120]).length + 1 ≤ 9223372036854775807; simp [dig]; omega), ?_⟩
        conv => whnf
        refine ⟨k + 1, hlt, (by show l.length - (k + 1) < l.length - k; omega), ?_, rfl, rfl, rfl⟩
        show [AV.rs true false (barsD l) l.length, AV.str ((textTo l k) ++ dig (cl l[k].1) ++ [45] ++ dig (cl l[k].2.1) ++ [120] ++ dig (cl l[k].2.2)), AV.int .i64 (IntKind.i64.wrap ((k : Int) + 1))] = [AV.rs true false (barsD l) l.length, AV.str (textTo l (k + 1)), AV.int .i64 ((k + 1 : Nat) : Int)]
        have e : (textTo l k) ++ dig (cl l[k].1) ++ [45] ++ dig (cl l[k].2.1) ++ [120] ++ dig (cl l[k].2.2) = textTo l (k + 1) := by rw [textTo, if_pos hk0, hgd, barText]; subst hk0; simp only [textTo, List.nil_append, List.append_assoc]
        rw [e, wrap_succ hlt (by omega)]
    · have : ¬ (l.length : Int) ≤ 20 := of_decide_eq_false h'
      omega
  · have : k = l.length := by simp at h; omega
    subst this
    conv => whnf
    refine Bc_intro (fun h0 => ?_) (fun h0 => ?_)
    · conv => whnf
      refine ⟨rfl, ?_⟩
      have h0 : textTo l l.length = [] := by have : (textTo l l.length == []) = true := h0
                                             simpa using this
      have : l = [] := by
        cases l with
        | nil => rfl
        | cons x r => simp [textTo, barText, dig] at h0
      rw [barsText, if_pos this]; rfl
    · conv => whnf
      refine ⟨rfl, ?_⟩
      have h0 : textTo l l.length ≠ [] := by have : (textTo l l.length == []) = false := h0
                                             simpa using this
      have : l ≠ [] := fun e => h0 (by subst e; rfl)
      rw [barsText, if_neg this]; rfl
end Go.Qt
