/- PROVED: for every input the law FnExactFiltrationLine returns true and each argument reads afterwards as it read before (the statement 'FnExactFiltrationLineCardSaid' of the given Rows).
Conditions: none beyond those which the given statement itself names. This text is one part of the proof. -/
import Derived.Test.YtfcgjmbkcpeafaaGreatDoorFsText

namespace Go.Qt
open Go Go.Qv Go.Proofs
set_option maxHeartbeats 8000000

theorem nats_getD {h : List Nat} {k : Nat} (hk : k < h.length) : (nats h)[k]? = some (D.int .i64 ((h.getD k 0 : Nat) : Int)) := by
  have e : h.getD k 0 = h[k] := by simp [hk]
  rw [e]; exact nats_get hk

theorem VJ6 {x y z u v : AV} {i n m : Nat} (h : n = m) : [x, y, z, AV.ow i n, u, v] = [x, y, z, AV.ow i m, u, v] := by rw [h]
theorem VJ6w {x y z u : AV} {i n m : Nat} {k : IntKind} {a b : Int} (h : n = m) (h' : a = b) : [x, y, z, AV.ow i n, u, AV.int k a] = [x, y, z, AV.ow i m, u, AV.int k b] := by rw [h, h']
theorem VJ5 {x y z : AV} {i n m : Nat} {k : IntKind} {a b : Int} (h : n = m) (h' : a = b) : [x, y, z, AV.ow i n, AV.int k a] = [x, y, z, AV.ow i m, AV.int k b] := by rw [h, h']
theorem VJ8 {x y z u v w : AV} {k k' : IntKind} {a b a' b' : Int} (h : a = b) (h' : a' = b') : [x, y, z, u, v, w, AV.int k a, AV.int k' a'] = [x, y, z, u, v, w, AV.int k b, AV.int k' b'] := by rw [h, h']
theorem row4d {v u t : Option Blk} {e : TypeId} {m : Bool} {p q : List D} (h : p = q) : [v, u, t, some (Blk.row e m p)] = [v, u, t, some (Blk.row e m q)] := by rw [h]
theorem ints_getD {c : List Int} {k : Nat} (hk : k < c.length) : (ints c)[k]? = some (D.int .i64 (c.getD k 0)) := by
  have e : c.getD k 0 = c[k] := by simp [hk]
  rw [e]; exact ints_get hk

theorem ac11_in (s : Int) (b : List Int) (es : List (List Int)) (hf : isFil s b es = true) : AC Tryz.prog 11 [flA s b es] (.tup [.fs 49 false (barsD (elder s b es)) (elder s b es).length, .bool true]) := by
  obtain ⟨hs, hb, he, _, hedge⟩ := fil_bounds hf
  have hw : IntKind.i64.wrap (s - 1) = s - 1 := wrap_id (by omega) (by omega)
  have hedge2 : ∀ e ∈ es, ∃ (x y : Nat) (z : Int), e = [(x : Int), (y : Int), z] ∧ x < b.length ∧ y < b.length := fun e h => by
    obtain ⟨x, y, z, h1, h2, h3, _⟩ := hedge e h
    exact ⟨x, y, z, h1, h2, h3⟩
  refine AC_of_awp (E := env 186 [] [] 0) (env_ok _ _ _ _) mixed Tryz.call11 Tryz.func11 (code := body11) rfl rfl (by kernel_rfl) (Nat.le_of_ble_eq_true rfl) fun hl => ?_
  clear hl
  conv => whnf
  refine ⟨_, ac27 s b es, rfl, ?_⟩
  conv => whnf
  refine Bc_intro (fun h => ?_) (fun _ => ?_)
  · have := not_t h
    rw [hf] at this; cases this
  conv => whnf
  refine ⟨Nat, [.slot 5 3 false, .slot 6 3 false], [1, 4, 5, 6, 7], fun k => [.op 0 0, .int .i64 b.length, .ow 1 k, .ow 2 k, .int .i64 k], fun k => [some (.var 28 [.int .i64 s, .rs true false (ints b) b.length, .rs true false (rows es) es.length]), some (.row 3 false (nats (List.range k))), some (.row 3 false (ints (List.replicate k (s - 1))))], fun k => k ≤ b.length, fun k => b.length - k, 3, fun _ => rfl, rfl,
      ⟨_, 0, rfl, Nat.zero_le _, rfl, rfl, rfl, rfl⟩, fun k hk => ?_⟩
  conv => whnf
  refine Bc_intro (fun h => ?_) (fun h => ?_)
  · have hlt : k < b.length := by simp at h; omega
    conv => whnf
    refine ⟨false, .inr (.inl rfl), .inr (.inl rfl), rfl, sizeLim_of (by show (k + 1) * 8 ≤ _; omega), intLim_of' (by omega), ?_⟩
    conv => whnf
    refine ⟨false, .inr (.inl rfl), .inr (.inl rfl), rfl, sizeLim_of (by show (k + 1) * 8 ≤ _; omega), intLim_of' (by omega), ?_⟩
    conv => whnf
    refine ⟨k + 1, hlt, (by show b.length - (k + 1) < b.length - k; omega), ?_, ?_, rfl, rfl⟩
    · show [AV.op 0 0, AV.int .i64 b.length, AV.ow 1 (k + 1), AV.ow 2 (k + 1), AV.int .i64 (IntKind.i64.wrap ((k : Int) + 1))] = [_, _, _, _, AV.int .i64 ((k + 1 : Nat) : Int)]
      rw [wrap_succ hlt (by omega)]
    · show [_, some (Blk.row 3 false (nats (List.range k) ++ [D.int .i64 k])), some (Blk.row 3 false (ints (List.replicate k (s - 1)) ++ [D.int .i64 (IntKind.i64.wrap (s - 1))]))] = [_, some (Blk.row 3 false (nats (List.range (k + 1)))), some (Blk.row 3 false (ints (List.replicate (k + 1) (s - 1))))]
      have e1 : nats (List.range k) ++ [D.int .i64 (k : Int)] = nats (List.range (k + 1)) := by rw [List.range_succ, nats_append]; rfl
      have e2 : ints (List.replicate k (s - 1)) ++ [D.int .i64 (IntKind.i64.wrap (s - 1))] = ints (List.replicate (k + 1) (s - 1)) := by rw [hw, List.replicate_succ', ints_append]; rfl
      rw [e1, e2]; rfl
  · have : k = b.length := by simp at h; omega
    subst this
    clear h hk
    conv => whnf
    refine ⟨Nat, [], [1, 4, 5, 6, 8], fun k => [.op 0 0, .int .i64 b.length, .ow 1 b.length, .ow 2 b.length, .int .i64 k], fun k => [some (.var 28 [.int .i64 s, .rs true false (ints b) b.length, .rs true false (rows es) es.length]), some (.row 3 false (nats (stages s b es k).1)), some (.row 3 false (ints (stages s b es k).2))], fun k => k ≤ s.toNat, fun k => s.toNat - k, 3, fun _ => rfl, rfl,
        ⟨_, 0, rfl, Nat.zero_le _, rfl, rfl, rfl, rfl⟩, fun tk htk => ?_⟩
    conv => whnf
    refine Bc_intro (fun h => ?_) (fun h => ?_)
    · have htlt : tk < s.toNat := by simp at h; omega
      obtain ⟨q1, q2, q3⟩ := stages_ok hedge2 (s := s) tk
      conv => whnf
      refine ⟨Nat, [], [1, 4, 5, 6, 8, 9], fun k => [.op 0 0, .int .i64 b.length, .ow 1 b.length, .ow 2 b.length, .int .i64 tk, .int .i64 k], fun k => [some (.var 28 [.int .i64 s, .rs true false (ints b) b.length, .rs true false (rows es) es.length]), some (.row 3 false (nats ((es.take k).foldl (unite b (tk : Int)) (stages s b es tk)).1)), some (.row 3 false (ints ((es.take k).foldl (unite b (tk : Int)) (stages s b es tk)).2))], fun k => k ≤ es.length, fun k => es.length - k, 3, fun _ => rfl, rfl,
        ⟨_, 0, rfl, Nat.zero_le _, rfl, rfl, rfl, rfl⟩, fun j hj => ?_⟩
      conv => whnf
      refine Bc_intro (fun h => ?_) (fun h => ?_)
      · have hjlt : j < es.length := by simp at h; omega
        have hget := rows_get (k := j) hjlt
        have hft := unite_take (b := b) (t := (tk : Int)) (st := stages s b es tk) hjlt
        obtain ⟨p1, p2, p3⟩ := fold_ok (b := b) (t := (tk : Int)) (es := es.take j) (stages_ok hedge2 (s := s) tk) (fun e he => hedge2 e (List.mem_of_mem_take he))
        obtain ⟨x, y, z, hxyz, hx, hy⟩ := hedge2 _ (mem_get hjlt)
        rw [hxyz] at hget hft
        have ha := getD_lt p1 p3 hx
        have hc := getD_lt p1 p3 hy
        have gx := nats_getD (h := ((es.take j).foldl (unite b (tk : Int)) (stages s b es tk)).1) (k := x) (by omega)
        have gy := nats_getD (h := ((es.take j).foldl (unite b (tk : Int)) (stages s b es tk)).1) (k := y) (by omega)
        conv => whnf
        refine ⟨j, rfl, hjlt, ?_⟩
        conv => whnf
        refine ⟨_, hget, ?_⟩
        conv => whnf
        refine ⟨2, rfl, (by show 2 < 3; omega), ?_⟩
        conv => whnf
        refine ⟨_, rfl, ?_⟩
        conv => whnf
        refine Bc_intro (fun hz => ?_) (fun hz => ?_)
        · have hz : z ≠ (tk : Int) := by simpa using (show (z != (tk : Int)) = true from hz)
          conv => whnf
          refine ⟨j + 1, hjlt, (by show es.length - (j + 1) < es.length - j; omega), ?_, ?_, rfl, rfl⟩
          · show [AV.op 0 0, AV.int .i64 b.length, AV.ow 1 b.length, AV.ow 2 b.length, AV.int .i64 tk, AV.int .i64 (IntKind.i64.wrap ((j : Int) + 1))] = [_, _, _, _, _, AV.int .i64 ((j + 1 : Nat) : Int)]
            rw [wrap_succ hjlt (by omega)]
          · show [_, some (Blk.row 3 false (nats (((es.take j).foldl (unite b (tk : Int)) (stages s b es tk))).1)), some (Blk.row 3 false (ints (((es.take j).foldl (unite b (tk : Int)) (stages s b es tk))).2))] = [_, some (Blk.row 3 false (nats ((es.take (j + 1)).foldl (unite b (tk : Int)) (stages s b es tk)).1)), some (Blk.row 3 false (ints ((es.take (j + 1)).foldl (unite b (tk : Int)) (stages s b es tk)).2))]
            rw [hft, unite, if_pos hz]; rfl
        · have hz : ¬ z ≠ (tk : Int) := by simpa using (show (z != (tk : Int)) = false from hz)
          conv => whnf
          refine ⟨j, rfl, hjlt, ?_⟩
          conv => whnf
          refine ⟨_, hget, ?_⟩
          conv => whnf
          refine ⟨0, rfl, (by show 0 < 3; omega), ?_⟩
          conv => whnf
          refine ⟨_, rfl, ?_⟩
          conv => whnf
          refine ⟨x, rfl, hx, ?_⟩
          conv => whnf
          refine ⟨_, gx, ?_⟩
          conv => whnf
          refine ⟨j, rfl, hjlt, ?_⟩
          conv => whnf
          refine ⟨_, hget, ?_⟩
          conv => whnf
          refine ⟨1, rfl, (by show 1 < 3; omega), ?_⟩
          conv => whnf
          refine ⟨_, rfl, ?_⟩
          conv => whnf
          refine ⟨y, rfl, hy, ?_⟩
          conv => whnf
          refine ⟨_, gy, ?_⟩
          conv => whnf
          refine Bc_intro (fun hac => ?_) (fun hac => ?_)
          · have hac : (((es.take j).foldl (unite b (tk : Int)) (stages s b es tk)).1.getD x 0) = (((es.take j).foldl (unite b (tk : Int)) (stages s b es tk)).1.getD y 0) := by have := eq_of_beq (show ((((((es.take j).foldl (unite b (tk : Int)) (stages s b es tk)).1.getD x 0) : Nat) : Int) == (((((es.take j).foldl (unite b (tk : Int)) (stages s b es tk)).1.getD y 0) : Nat) : Int)) = true from hac); omega
            conv => whnf
            refine ⟨j + 1, hjlt, (by show es.length - (j + 1) < es.length - j; omega), ?_, ?_, rfl, rfl⟩
            · show [AV.op 0 0, AV.int .i64 b.length, AV.ow 1 b.length, AV.ow 2 b.length, AV.int .i64 tk, AV.int .i64 (IntKind.i64.wrap ((j : Int) + 1))] = [_, _, _, _, _, AV.int .i64 ((j + 1 : Nat) : Int)]
              rw [wrap_succ hjlt (by omega)]
            · show [_, some (Blk.row 3 false (nats (((es.take j).foldl (unite b (tk : Int)) (stages s b es tk))).1)), some (Blk.row 3 false (ints (((es.take j).foldl (unite b (tk : Int)) (stages s b es tk))).2))] = [_, some (Blk.row 3 false (nats ((es.take (j + 1)).foldl (unite b (tk : Int)) (stages s b es tk)).1)), some (Blk.row 3 false (ints ((es.take (j + 1)).foldl (unite b (tk : Int)) (stages s b es tk)).2))]
              rw [hft, show unite b (tk : Int) ((es.take j).foldl (unite b (tk : Int)) (stages s b es tk)) [(x : Int), (y : Int), z] = ((es.take j).foldl (unite b (tk : Int)) (stages s b es tk)) from by simp only [unite, Int.toNat_natCast]; rw [if_neg hz, if_pos hac]]; rfl
          have hac : ¬ (((es.take j).foldl (unite b (tk : Int)) (stages s b es tk)).1.getD x 0) = (((es.take j).foldl (unite b (tk : Int)) (stages s b es tk)).1.getD y 0) := fun e => by
            have : ((((((es.take j).foldl (unite b (tk : Int)) (stages s b es tk)).1.getD x 0) : Nat) : Int) == (((((es.take j).foldl (unite b (tk : Int)) (stages s b es tk)).1.getD y 0) : Nat) : Int)) = false := hac
            rw [e] at this; simp at this
          conv => whnf
          refine ⟨(((es.take j).foldl (unite b (tk : Int)) (stages s b es tk)).1.getD x 0), rfl, ha, ?_⟩
          conv => whnf
          refine ⟨_, ints_getD (k := (((es.take j).foldl (unite b (tk : Int)) (stages s b es tk)).1.getD x 0)) ha, ?_⟩
          conv => whnf
          refine ⟨(((es.take j).foldl (unite b (tk : Int)) (stages s b es tk)).1.getD y 0), rfl, hc, ?_⟩
          conv => whnf
          refine ⟨_, ints_getD (k := (((es.take j).foldl (unite b (tk : Int)) (stages s b es tk)).1.getD y 0)) hc, ?_⟩
          conv => whnf
          refine Bc_intro (fun h1 => ?_) (fun h1 => ?_)
          · have h1 : decide (b.getD (((es.take j).foldl (unite b (tk : Int)) (stages s b es tk)).1.getD x 0) 0 > b.getD (((es.take j).foldl (unite b (tk : Int)) (stages s b es tk)).1.getD y 0) 0) = true := h1
            have hsw : swapB b (((es.take j).foldl (unite b (tk : Int)) (stages s b es tk)).1.getD x 0) (((es.take j).foldl (unite b (tk : Int)) (stages s b es tk)).1.getD y 0) = true := by simp only [swapB, h1, Bool.true_or]
            conv => whnf
            refine ⟨(((es.take j).foldl (unite b (tk : Int)) (stages s b es tk)).1.getD x 0), rfl, ha, ?_⟩
            conv => whnf
            refine ⟨(by rw [ints_len]; show (((es.take j).foldl (unite b (tk : Int)) (stages s b es tk)).1.getD x 0) + 1 ≤ _; omega), ?_⟩
            conv => whnf
            have el : setND (ints ((es.take j).foldl (unite b (tk : Int)) (stages s b es tk)).2) (((es.take j).foldl (unite b (tk : Int)) (stages s b es tk)).1.getD x 0) [D.int .i64 (IntKind.i64.wrap ((tk : Int) - 1))] = ints (((es.take j).foldl (unite b (tk : Int)) (stages s b es tk)).2.set (((es.take j).foldl (unite b (tk : Int)) (stages s b es tk)).1.getD x 0) ((tk : Int) - 1)) := by rw [ints_set (by omega), wrap_id (by omega) (by omega)]
            refine ⟨Nat, [], [1, 4, 5, 6, 8, 9, 10, 11, 13], fun k => [.op 0 0, .int .i64 b.length, .ow 1 b.length, .ow 2 b.length, .int .i64 tk, .int .i64 j, .int .i64 ((((es.take j).foldl (unite b (tk : Int)) (stages s b es tk)).1.getD y 0) : Nat), .int .i64 ((((es.take j).foldl (unite b (tk : Int)) (stages s b es tk)).1.getD x 0) : Nat), .int .i64 k], fun k => [some (.var 28 [.int .i64 s, .rs true false (ints b) b.length, .rs true false (rows es) es.length]), some (.row 3 false (nats (renTo (((es.take j).foldl (unite b (tk : Int)) (stages s b es tk)).1.getD y 0) (((es.take j).foldl (unite b (tk : Int)) (stages s b es tk)).1.getD x 0) ((es.take j).foldl (unite b (tk : Int)) (stages s b es tk)).1 k))), some (.row 3 false (ints (((es.take j).foldl (unite b (tk : Int)) (stages s b es tk)).2.set (((es.take j).foldl (unite b (tk : Int)) (stages s b es tk)).1.getD x 0) ((tk : Int) - 1))))], fun k => k ≤ b.length, fun k => b.length - k, 3, fun _ => rfl, rfl,
              ⟨_, 0, rfl, Nat.zero_le _, rfl, ?_, rfl, rfl⟩, fun k hk => ?_⟩
            · show [_, some (Blk.row 3 false (nats ((es.take j).foldl (unite b (tk : Int)) (stages s b es tk)).1)), some (Blk.row 3 false (setND (ints ((es.take j).foldl (unite b (tk : Int)) (stages s b es tk)).2) (((es.take j).foldl (unite b (tk : Int)) (stages s b es tk)).1.getD x 0) [D.int .i64 (IntKind.i64.wrap ((tk : Int) - 1))]))] = [_, some (Blk.row 3 false (nats (renTo (((es.take j).foldl (unite b (tk : Int)) (stages s b es tk)).1.getD y 0) (((es.take j).foldl (unite b (tk : Int)) (stages s b es tk)).1.getD x 0) ((es.take j).foldl (unite b (tk : Int)) (stages s b es tk)).1 0))), some (Blk.row 3 false (ints (((es.take j).foldl (unite b (tk : Int)) (stages s b es tk)).2.set (((es.take j).foldl (unite b (tk : Int)) (stages s b es tk)).1.getD x 0) ((tk : Int) - 1))))]
              rw [renTo_zero, el]; rfl
            conv => whnf
            refine Bc_intro (fun h => ?_) (fun h => ?_)
            · have hklt : k < b.length := by simp at h; omega
              have hkl : k < ((es.take j).foldl (unite b (tk : Int)) (stages s b es tk)).1.length := by omega
              have hrg : (nats (renTo (((es.take j).foldl (unite b (tk : Int)) (stages s b es tk)).1.getD y 0) (((es.take j).foldl (unite b (tk : Int)) (stages s b es tk)).1.getD x 0) ((es.take j).foldl (unite b (tk : Int)) (stages s b es tk)).1 k))[k]? = some (D.int .i64 (((es.take j).foldl (unite b (tk : Int)) (stages s b es tk)).1[k] : Int)) := by
                have := renTo_get (((es.take j).foldl (unite b (tk : Int)) (stages s b es tk)).1.getD y 0) (((es.take j).foldl (unite b (tk : Int)) (stages s b es tk)).1.getD x 0) ((es.take j).foldl (unite b (tk : Int)) (stages s b es tk)).1 k hkl
                simp only [nats, ints, List.getElem?_map, this, Option.map_some]; rfl
              have hrl := renTo_len (((es.take j).foldl (unite b (tk : Int)) (stages s b es tk)).1.getD y 0) (((es.take j).foldl (unite b (tk : Int)) (stages s b es tk)).1.getD x 0) ((es.take j).foldl (unite b (tk : Int)) (stages s b es tk)).1 k (by omega)
              have hrs := renTo_succ (((es.take j).foldl (unite b (tk : Int)) (stages s b es tk)).1.getD y 0) (((es.take j).foldl (unite b (tk : Int)) (stages s b es tk)).1.getD x 0) ((es.take j).foldl (unite b (tk : Int)) (stages s b es tk)).1 k hkl
              conv => whnf
              refine ⟨k, rfl, hklt, ?_⟩
              conv => whnf
              refine ⟨_, hrg, ?_⟩
              conv => whnf
              refine Bc_intro (fun hq => ?_) (fun hq => ?_)
              · have hq : ((es.take j).foldl (unite b (tk : Int)) (stages s b es tk)).1[k] = (((es.take j).foldl (unite b (tk : Int)) (stages s b es tk)).1.getD x 0) := by have := eq_of_beq (show ((((es.take j).foldl (unite b (tk : Int)) (stages s b es tk)).1[k] : Int) == (((((es.take j).foldl (unite b (tk : Int)) (stages s b es tk)).1.getD x 0) : Nat) : Int)) = true from hq); omega
                rw [if_pos hq] at hrs
                conv => whnf
                refine ⟨k, rfl, hklt, ?_⟩
                conv => whnf
                refine ⟨(by rw [nats_len]; show k + 1 ≤ _; omega), ?_⟩
                conv => whnf
                refine ⟨k + 1, hklt, (by show b.length - (k + 1) < b.length - k; omega), ?_, ?_, rfl, rfl⟩
                · show [AV.op 0 0, AV.int .i64 b.length, AV.ow 1 b.length, AV.ow 2 b.length, AV.int .i64 tk, AV.int .i64 j, AV.int .i64 ((((es.take j).foldl (unite b (tk : Int)) (stages s b es tk)).1.getD y 0) : Nat), AV.int .i64 ((((es.take j).foldl (unite b (tk : Int)) (stages s b es tk)).1.getD x 0) : Nat), AV.int .i64 (IntKind.i64.wrap ((k : Int) + 1))] = [_, _, _, _, _, _, _, _, AV.int .i64 ((k + 1 : Nat) : Int)]
                  rw [wrap_succ hklt (by omega)]
                · show [_, some (Blk.row 3 false (setND (nats (renTo (((es.take j).foldl (unite b (tk : Int)) (stages s b es tk)).1.getD y 0) (((es.take j).foldl (unite b (tk : Int)) (stages s b es tk)).1.getD x 0) ((es.take j).foldl (unite b (tk : Int)) (stages s b es tk)).1 k)) k [D.int .i64 (((((es.take j).foldl (unite b (tk : Int)) (stages s b es tk)).1.getD y 0) : Nat) : Int)])), _] = [_, some (Blk.row 3 false (nats (renTo (((es.take j).foldl (unite b (tk : Int)) (stages s b es tk)).1.getD y 0) (((es.take j).foldl (unite b (tk : Int)) (stages s b es tk)).1.getD x 0) ((es.take j).foldl (unite b (tk : Int)) (stages s b es tk)).1 (k + 1)))), _]
                  have en : setND (nats (renTo (((es.take j).foldl (unite b (tk : Int)) (stages s b es tk)).1.getD y 0) (((es.take j).foldl (unite b (tk : Int)) (stages s b es tk)).1.getD x 0) ((es.take j).foldl (unite b (tk : Int)) (stages s b es tk)).1 k)) k [D.int .i64 (((((es.take j).foldl (unite b (tk : Int)) (stages s b es tk)).1.getD y 0) : Nat) : Int)] = nats (renTo (((es.take j).foldl (unite b (tk : Int)) (stages s b es tk)).1.getD y 0) (((es.take j).foldl (unite b (tk : Int)) (stages s b es tk)).1.getD x 0) ((es.take j).foldl (unite b (tk : Int)) (stages s b es tk)).1 (k + 1)) := by rw [nats_set (by omega), hrs]
                  rw [en]; rfl
              · have hq : ((es.take j).foldl (unite b (tk : Int)) (stages s b es tk)).1[k] ≠ (((es.take j).foldl (unite b (tk : Int)) (stages s b es tk)).1.getD x 0) := fun e => by
                  have : ((((es.take j).foldl (unite b (tk : Int)) (stages s b es tk)).1[k] : Int) == (((((es.take j).foldl (unite b (tk : Int)) (stages s b es tk)).1.getD x 0) : Nat) : Int)) = false := hq
                  rw [e] at this; simp at this
                rw [if_neg hq] at hrs
                have hself : (renTo (((es.take j).foldl (unite b (tk : Int)) (stages s b es tk)).1.getD y 0) (((es.take j).foldl (unite b (tk : Int)) (stages s b es tk)).1.getD x 0) ((es.take j).foldl (unite b (tk : Int)) (stages s b es tk)).1 k).set k ((es.take j).foldl (unite b (tk : Int)) (stages s b es tk)).1[k] = renTo (((es.take j).foldl (unite b (tk : Int)) (stages s b es tk)).1.getD y 0) (((es.take j).foldl (unite b (tk : Int)) (stages s b es tk)).1.getD x 0) ((es.take j).foldl (unite b (tk : Int)) (stages s b es tk)).1 k := by
                  apply List.ext_getElem?
                  intro i
                  rw [List.getElem?_set]
                  split
                  · rename_i e; subst e; rw [renTo_get _ _ _ _ hkl, if_pos (by omega)]
                  · rfl
                rw [hself] at hrs
                conv => whnf
                refine ⟨k + 1, hklt, (by show b.length - (k + 1) < b.length - k; omega), ?_, ?_, rfl, rfl⟩
                · show [AV.op 0 0, AV.int .i64 b.length, AV.ow 1 b.length, AV.ow 2 b.length, AV.int .i64 tk, AV.int .i64 j, AV.int .i64 ((((es.take j).foldl (unite b (tk : Int)) (stages s b es tk)).1.getD y 0) : Nat), AV.int .i64 ((((es.take j).foldl (unite b (tk : Int)) (stages s b es tk)).1.getD x 0) : Nat), AV.int .i64 (IntKind.i64.wrap ((k : Int) + 1))] = [_, _, _, _, _, _, _, _, AV.int .i64 ((k + 1 : Nat) : Int)]
                  rw [wrap_succ hklt (by omega)]
                · show [_, some (Blk.row 3 false (nats (renTo (((es.take j).foldl (unite b (tk : Int)) (stages s b es tk)).1.getD y 0) (((es.take j).foldl (unite b (tk : Int)) (stages s b es tk)).1.getD x 0) ((es.take j).foldl (unite b (tk : Int)) (stages s b es tk)).1 k))), _] = [_, some (Blk.row 3 false (nats (renTo (((es.take j).foldl (unite b (tk : Int)) (stages s b es tk)).1.getD y 0) (((es.take j).foldl (unite b (tk : Int)) (stages s b es tk)).1.getD x 0) ((es.take j).foldl (unite b (tk : Int)) (stages s b es tk)).1 (k + 1)))), _]
                  rw [hrs]; rfl
            · have : k = b.length := by simp at h; omega
              subst this
              conv => whnf
              refine ⟨j + 1, hjlt, (by show es.length - (j + 1) < es.length - j; omega), ?_, ?_, rfl, rfl⟩
              · show [AV.op 0 0, AV.int .i64 b.length, AV.ow 1 b.length, AV.ow 2 b.length, AV.int .i64 tk, AV.int .i64 (IntKind.i64.wrap ((j : Int) + 1))] = [_, _, _, _, _, AV.int .i64 ((j + 1 : Nat) : Int)]
                rw [wrap_succ hjlt (by omega)]
              · show [_, some (Blk.row 3 false (nats (renTo (((es.take j).foldl (unite b (tk : Int)) (stages s b es tk)).1.getD y 0) (((es.take j).foldl (unite b (tk : Int)) (stages s b es tk)).1.getD x 0) ((es.take j).foldl (unite b (tk : Int)) (stages s b es tk)).1 b.length))), some (Blk.row 3 false (ints (((es.take j).foldl (unite b (tk : Int)) (stages s b es tk)).2.set (((es.take j).foldl (unite b (tk : Int)) (stages s b es tk)).1.getD x 0) ((tk : Int) - 1))))] = [_, some (Blk.row 3 false (nats ((es.take (j + 1)).foldl (unite b (tk : Int)) (stages s b es tk)).1)), some (Blk.row 3 false (ints ((es.take (j + 1)).foldl (unite b (tk : Int)) (stages s b es tk)).2))]
                have e1 : renTo (((es.take j).foldl (unite b (tk : Int)) (stages s b es tk)).1.getD y 0) (((es.take j).foldl (unite b (tk : Int)) (stages s b es tk)).1.getD x 0) ((es.take j).foldl (unite b (tk : Int)) (stages s b es tk)).1 b.length = ren (((es.take j).foldl (unite b (tk : Int)) (stages s b es tk)).1.getD y 0) (((es.take j).foldl (unite b (tk : Int)) (stages s b es tk)).1.getD x 0) ((es.take j).foldl (unite b (tk : Int)) (stages s b es tk)).1 := by rw [← p1, renTo_full]
                have e2 : unite b (tk : Int) ((es.take j).foldl (unite b (tk : Int)) (stages s b es tk)) [(x : Int), (y : Int), z] = (ren (((es.take j).foldl (unite b (tk : Int)) (stages s b es tk)).1.getD y 0) (((es.take j).foldl (unite b (tk : Int)) (stages s b es tk)).1.getD x 0) ((es.take j).foldl (unite b (tk : Int)) (stages s b es tk)).1, ((es.take j).foldl (unite b (tk : Int)) (stages s b es tk)).2.set (((es.take j).foldl (unite b (tk : Int)) (stages s b es tk)).1.getD x 0) ((tk : Int) - 1)) := by
                  simp only [unite, Int.toNat_natCast]
                  rw [if_neg hz, if_neg hac, if_pos hsw]
                rw [e1, hft, e2]; rfl
          have h1 : decide (b.getD (((es.take j).foldl (unite b (tk : Int)) (stages s b es tk)).1.getD x 0) 0 > b.getD (((es.take j).foldl (unite b (tk : Int)) (stages s b es tk)).1.getD y 0) 0) = false := h1
          conv => whnf
          refine ⟨(((es.take j).foldl (unite b (tk : Int)) (stages s b es tk)).1.getD x 0), rfl, ha, ?_⟩
          conv => whnf
          refine ⟨_, ints_getD (k := (((es.take j).foldl (unite b (tk : Int)) (stages s b es tk)).1.getD x 0)) ha, ?_⟩
          conv => whnf
          refine ⟨(((es.take j).foldl (unite b (tk : Int)) (stages s b es tk)).1.getD y 0), rfl, hc, ?_⟩
          conv => whnf
          refine ⟨_, ints_getD (k := (((es.take j).foldl (unite b (tk : Int)) (stages s b es tk)).1.getD y 0)) hc, ?_⟩
          conv => whnf
          refine Bc_intro (fun h2 => ?_) (fun h2 => ?_)
          · have h2 : (b.getD (((es.take j).foldl (unite b (tk : Int)) (stages s b es tk)).1.getD x 0) 0 == b.getD (((es.take j).foldl (unite b (tk : Int)) (stages s b es tk)).1.getD y 0) 0) = true := h2
            conv => whnf
            refine Bc_intro (fun h3 => ?_) (fun h3 => ?_)
            · have h3 : decide ((((((es.take j).foldl (unite b (tk : Int)) (stages s b es tk)).1.getD x 0) : Nat) : Int) > (((((es.take j).foldl (unite b (tk : Int)) (stages s b es tk)).1.getD y 0) : Nat) : Int)) = true := h3
              have hsw : swapB b (((es.take j).foldl (unite b (tk : Int)) (stages s b es tk)).1.getD x 0) (((es.take j).foldl (unite b (tk : Int)) (stages s b es tk)).1.getD y 0) = true := by simp only [swapB, h1, h2, h3, Bool.false_or, Bool.true_and]
              conv => whnf
              refine ⟨(((es.take j).foldl (unite b (tk : Int)) (stages s b es tk)).1.getD x 0), rfl, ha, ?_⟩
              conv => whnf
              refine ⟨(by rw [ints_len]; show (((es.take j).foldl (unite b (tk : Int)) (stages s b es tk)).1.getD x 0) + 1 ≤ _; omega), ?_⟩
              conv => whnf
              have el : setND (ints ((es.take j).foldl (unite b (tk : Int)) (stages s b es tk)).2) (((es.take j).foldl (unite b (tk : Int)) (stages s b es tk)).1.getD x 0) [D.int .i64 (IntKind.i64.wrap ((tk : Int) - 1))] = ints (((es.take j).foldl (unite b (tk : Int)) (stages s b es tk)).2.set (((es.take j).foldl (unite b (tk : Int)) (stages s b es tk)).1.getD x 0) ((tk : Int) - 1)) := by rw [ints_set (by omega), wrap_id (by omega) (by omega)]
              refine ⟨Nat, [], [1, 4, 5, 6, 8, 9, 10, 11, 13], fun k => [.op 0 0, .int .i64 b.length, .ow 1 b.length, .ow 2 b.length, .int .i64 tk, .int .i64 j, .int .i64 ((((es.take j).foldl (unite b (tk : Int)) (stages s b es tk)).1.getD y 0) : Nat), .int .i64 ((((es.take j).foldl (unite b (tk : Int)) (stages s b es tk)).1.getD x 0) : Nat), .int .i64 k], fun k => [some (.var 28 [.int .i64 s, .rs true false (ints b) b.length, .rs true false (rows es) es.length]), some (.row 3 false (nats (renTo (((es.take j).foldl (unite b (tk : Int)) (stages s b es tk)).1.getD y 0) (((es.take j).foldl (unite b (tk : Int)) (stages s b es tk)).1.getD x 0) ((es.take j).foldl (unite b (tk : Int)) (stages s b es tk)).1 k))), some (.row 3 false (ints (((es.take j).foldl (unite b (tk : Int)) (stages s b es tk)).2.set (((es.take j).foldl (unite b (tk : Int)) (stages s b es tk)).1.getD x 0) ((tk : Int) - 1))))], fun k => k ≤ b.length, fun k => b.length - k, 3, fun _ => rfl, rfl,
                ⟨_, 0, rfl, Nat.zero_le _, rfl, ?_, rfl, rfl⟩, fun k hk => ?_⟩
              · show [_, some (Blk.row 3 false (nats ((es.take j).foldl (unite b (tk : Int)) (stages s b es tk)).1)), some (Blk.row 3 false (setND (ints ((es.take j).foldl (unite b (tk : Int)) (stages s b es tk)).2) (((es.take j).foldl (unite b (tk : Int)) (stages s b es tk)).1.getD x 0) [D.int .i64 (IntKind.i64.wrap ((tk : Int) - 1))]))] = [_, some (Blk.row 3 false (nats (renTo (((es.take j).foldl (unite b (tk : Int)) (stages s b es tk)).1.getD y 0) (((es.take j).foldl (unite b (tk : Int)) (stages s b es tk)).1.getD x 0) ((es.take j).foldl (unite b (tk : Int)) (stages s b es tk)).1 0))), some (Blk.row 3 false (ints (((es.take j).foldl (unite b (tk : Int)) (stages s b es tk)).2.set (((es.take j).foldl (unite b (tk : Int)) (stages s b es tk)).1.getD x 0) ((tk : Int) - 1))))]
                rw [renTo_zero, el]; rfl
              conv => whnf
              refine Bc_intro (fun h => ?_) (fun h => ?_)
              · have hklt : k < b.length := by simp at h; omega
                have hkl : k < ((es.take j).foldl (unite b (tk : Int)) (stages s b es tk)).1.length := by omega
                have hrg : (nats (renTo (((es.take j).foldl (unite b (tk : Int)) (stages s b es tk)).1.getD y 0) (((es.take j).foldl (unite b (tk : Int)) (stages s b es tk)).1.getD x 0) ((es.take j).foldl (unite b (tk : Int)) (stages s b es tk)).1 k))[k]? = some (D.int .i64 (((es.take j).foldl (unite b (tk : Int)) (stages s b es tk)).1[k] : Int)) := by
                  have := renTo_get (((es.take j).foldl (unite b (tk : Int)) (stages s b es tk)).1.getD y 0) (((es.take j).foldl (unite b (tk : Int)) (stages s b es tk)).1.getD x 0) ((es.take j).foldl (unite b (tk : Int)) (stages s b es tk)).1 k hkl
                  simp only [nats, ints, List.getElem?_map, this, Option.map_some]; rfl
                have hrl := renTo_len (((es.take j).foldl (unite b (tk : Int)) (stages s b es tk)).1.getD y 0) (((es.take j).foldl (unite b (tk : Int)) (stages s b es tk)).1.getD x 0) ((es.take j).foldl (unite b (tk : Int)) (stages s b es tk)).1 k (by omega)
                have hrs := renTo_succ (((es.take j).foldl (unite b (tk : Int)) (stages s b es tk)).1.getD y 0) (((es.take j).foldl (unite b (tk : Int)) (stages s b es tk)).1.getD x 0) ((es.take j).foldl (unite b (tk : Int)) (stages s b es tk)).1 k hkl
                conv => whnf
                refine ⟨k, rfl, hklt, ?_⟩
                conv => whnf
                refine ⟨_, hrg, ?_⟩
                conv => whnf
                refine Bc_intro (fun hq => ?_) (fun hq => ?_)
                · have hq : ((es.take j).foldl (unite b (tk : Int)) (stages s b es tk)).1[k] = (((es.take j).foldl (unite b (tk : Int)) (stages s b es tk)).1.getD x 0) := by have := eq_of_beq (show ((((es.take j).foldl (unite b (tk : Int)) (stages s b es tk)).1[k] : Int) == (((((es.take j).foldl (unite b (tk : Int)) (stages s b es tk)).1.getD x 0) : Nat) : Int)) = true from hq); omega
                  rw [if_pos hq] at hrs
                  conv => whnf
                  refine ⟨k, rfl, hklt, ?_⟩
                  conv => whnf
                  refine ⟨(by rw [nats_len]; show k + 1 ≤ _; omega), ?_⟩
                  conv => whnf
                  refine ⟨k + 1, hklt, (by show b.length - (k + 1) < b.length - k; omega), ?_, ?_, rfl, rfl⟩
                  · show [AV.op 0 0, AV.int .i64 b.length, AV.ow 1 b.length, AV.ow 2 b.length, AV.int .i64 tk, AV.int .i64 j, AV.int .i64 ((((es.take j).foldl (unite b (tk : Int)) (stages s b es tk)).1.getD y 0) : Nat), AV.int .i64 ((((es.take j).foldl (unite b (tk : Int)) (stages s b es tk)).1.getD x 0) : Nat), AV.int .i64 (IntKind.i64.wrap ((k : Int) + 1))] = [_, _, _, _, _, _, _, _, AV.int .i64 ((k + 1 : Nat) : Int)]
                    rw [wrap_succ hklt (by omega)]
                  · show [_, some (Blk.row 3 false (setND (nats (renTo (((es.take j).foldl (unite b (tk : Int)) (stages s b es tk)).1.getD y 0) (((es.take j).foldl (unite b (tk : Int)) (stages s b es tk)).1.getD x 0) ((es.take j).foldl (unite b (tk : Int)) (stages s b es tk)).1 k)) k [D.int .i64 (((((es.take j).foldl (unite b (tk : Int)) (stages s b es tk)).1.getD y 0) : Nat) : Int)])), _] = [_, some (Blk.row 3 false (nats (renTo (((es.take j).foldl (unite b (tk : Int)) (stages s b es tk)).1.getD y 0) (((es.take j).foldl (unite b (tk : Int)) (stages s b es tk)).1.getD x 0) ((es.take j).foldl (unite b (tk : Int)) (stages s b es tk)).1 (k + 1)))), _]
                    have en : setND (nats (renTo (((es.take j).foldl (unite b (tk : Int)) (stages s b es tk)).1.getD y 0) (((es.take j).foldl (unite b (tk : Int)) (stages s b es tk)).1.getD x 0) ((es.take j).foldl (unite b (tk : Int)) (stages s b es tk)).1 k)) k [D.int .i64 (((((es.take j).foldl (unite b (tk : Int)) (stages s b es tk)).1.getD y 0) : Nat) : Int)] = nats (renTo (((es.take j).foldl (unite b (tk : Int)) (stages s b es tk)).1.getD y 0) (((es.take j).foldl (unite b (tk : Int)) (stages s b es tk)).1.getD x 0) ((es.take j).foldl (unite b (tk : Int)) (stages s b es tk)).1 (k + 1)) := by rw [nats_set (by omega), hrs]
                    rw [en]; rfl
                · have hq : ((es.take j).foldl (unite b (tk : Int)) (stages s b es tk)).1[k] ≠ (((es.take j).foldl (unite b (tk : Int)) (stages s b es tk)).1.getD x 0) := fun e => by
                    have : ((((es.take j).foldl (unite b (tk : Int)) (stages s b es tk)).1[k] : Int) == (((((es.take j).foldl (unite b (tk : Int)) (stages s b es tk)).1.getD x 0) : Nat) : Int)) = false := hq
                    rw [e] at this; simp at this
                  rw [if_neg hq] at hrs
                  have hself : (renTo (((es.take j).foldl (unite b (tk : Int)) (stages s b es tk)).1.getD y 0) (((es.take j).foldl (unite b (tk : Int)) (stages s b es tk)).1.getD x 0) ((es.take j).foldl (unite b (tk : Int)) (stages s b es tk)).1 k).set k ((es.take j).foldl (unite b (tk : Int)) (stages s b es tk)).1[k] = renTo (((es.take j).foldl (unite b (tk : Int)) (stages s b es tk)).1.getD y 0) (((es.take j).foldl (unite b (tk : Int)) (stages s b es tk)).1.getD x 0) ((es.take j).foldl (unite b (tk : Int)) (stages s b es tk)).1 k := by
                    apply List.ext_getElem?
                    intro i
                    rw [List.getElem?_set]
                    split
                    · rename_i e; subst e; rw [renTo_get _ _ _ _ hkl, if_pos (by omega)]
                    · rfl
                  rw [hself] at hrs
                  conv => whnf
                  refine ⟨k + 1, hklt, (by show b.length - (k + 1) < b.length - k; omega), ?_, ?_, rfl, rfl⟩
                  · show [AV.op 0 0, AV.int .i64 b.length, AV.ow 1 b.length, AV.ow 2 b.length, AV.int .i64 tk, AV.int .i64 j, AV.int .i64 ((((es.take j).foldl (unite b (tk : Int)) (stages s b es tk)).1.getD y 0) : Nat), AV.int .i64 ((((es.take j).foldl (unite b (tk : Int)) (stages s b es tk)).1.getD x 0) : Nat), AV.int .i64 (IntKind.i64.wrap ((k : Int) + 1))] = [_, _, _, _, _, _, _, _, AV.int .i64 ((k + 1 : Nat) : Int)]
                    rw [wrap_succ hklt (by omega)]
                  · show [_, some (Blk.row 3 false (nats (renTo (((es.take j).foldl (unite b (tk : Int)) (stages s b es tk)).1.getD y 0) (((es.take j).foldl (unite b (tk : Int)) (stages s b es tk)).1.getD x 0) ((es.take j).foldl (unite b (tk : Int)) (stages s b es tk)).1 k))), _] = [_, some (Blk.row 3 false (nats (renTo (((es.take j).foldl (unite b (tk : Int)) (stages s b es tk)).1.getD y 0) (((es.take j).foldl (unite b (tk : Int)) (stages s b es tk)).1.getD x 0) ((es.take j).foldl (unite b (tk : Int)) (stages s b es tk)).1 (k + 1)))), _]
                    rw [hrs]; rfl
              · have : k = b.length := by simp at h; omega
                subst this
                conv => whnf
                refine ⟨j + 1, hjlt, (by show es.length - (j + 1) < es.length - j; omega), ?_, ?_, rfl, rfl⟩
                · show [AV.op 0 0, AV.int .i64 b.length, AV.ow 1 b.length, AV.ow 2 b.length, AV.int .i64 tk, AV.int .i64 (IntKind.i64.wrap ((j : Int) + 1))] = [_, _, _, _, _, AV.int .i64 ((j + 1 : Nat) : Int)]
                  rw [wrap_succ hjlt (by omega)]
                · show [_, some (Blk.row 3 false (nats (renTo (((es.take j).foldl (unite b (tk : Int)) (stages s b es tk)).1.getD y 0) (((es.take j).foldl (unite b (tk : Int)) (stages s b es tk)).1.getD x 0) ((es.take j).foldl (unite b (tk : Int)) (stages s b es tk)).1 b.length))), some (Blk.row 3 false (ints (((es.take j).foldl (unite b (tk : Int)) (stages s b es tk)).2.set (((es.take j).foldl (unite b (tk : Int)) (stages s b es tk)).1.getD x 0) ((tk : Int) - 1))))] = [_, some (Blk.row 3 false (nats ((es.take (j + 1)).foldl (unite b (tk : Int)) (stages s b es tk)).1)), some (Blk.row 3 false (ints ((es.take (j + 1)).foldl (unite b (tk : Int)) (stages s b es tk)).2))]
                  have e1 : renTo (((es.take j).foldl (unite b (tk : Int)) (stages s b es tk)).1.getD y 0) (((es.take j).foldl (unite b (tk : Int)) (stages s b es tk)).1.getD x 0) ((es.take j).foldl (unite b (tk : Int)) (stages s b es tk)).1 b.length = ren (((es.take j).foldl (unite b (tk : Int)) (stages s b es tk)).1.getD y 0) (((es.take j).foldl (unite b (tk : Int)) (stages s b es tk)).1.getD x 0) ((es.take j).foldl (unite b (tk : Int)) (stages s b es tk)).1 := by rw [← p1, renTo_full]
                  have e2 : unite b (tk : Int) ((es.take j).foldl (unite b (tk : Int)) (stages s b es tk)) [(x : Int), (y : Int), z] = (ren (((es.take j).foldl (unite b (tk : Int)) (stages s b es tk)).1.getD y 0) (((es.take j).foldl (unite b (tk : Int)) (stages s b es tk)).1.getD x 0) ((es.take j).foldl (unite b (tk : Int)) (stages s b es tk)).1, ((es.take j).foldl (unite b (tk : Int)) (stages s b es tk)).2.set (((es.take j).foldl (unite b (tk : Int)) (stages s b es tk)).1.getD x 0) ((tk : Int) - 1)) := by
                    simp only [unite, Int.toNat_natCast]
                    rw [if_neg hz, if_neg hac, if_pos hsw]
                  rw [e1, hft, e2]; rfl
            · have h3 : decide ((((((es.take j).foldl (unite b (tk : Int)) (stages s b es tk)).1.getD x 0) : Nat) : Int) > (((((es.take j).foldl (unite b (tk : Int)) (stages s b es tk)).1.getD y 0) : Nat) : Int)) = false := h3
              have hsw : swapB b (((es.take j).foldl (unite b (tk : Int)) (stages s b es tk)).1.getD x 0) (((es.take j).foldl (unite b (tk : Int)) (stages s b es tk)).1.getD y 0) = false := by simp only [swapB, h1, h2, h3, Bool.false_or, Bool.true_and]
              conv => whnf
              refine ⟨(((es.take j).foldl (unite b (tk : Int)) (stages s b es tk)).1.getD y 0), rfl, hc, ?_⟩
              conv => whnf
              refine ⟨(by rw [ints_len]; show (((es.take j).foldl (unite b (tk : Int)) (stages s b es tk)).1.getD y 0) + 1 ≤ _; omega), ?_⟩
              conv => whnf
              have el : setND (ints ((es.take j).foldl (unite b (tk : Int)) (stages s b es tk)).2) (((es.take j).foldl (unite b (tk : Int)) (stages s b es tk)).1.getD y 0) [D.int .i64 (IntKind.i64.wrap ((tk : Int) - 1))] = ints (((es.take j).foldl (unite b (tk : Int)) (stages s b es tk)).2.set (((es.take j).foldl (unite b (tk : Int)) (stages s b es tk)).1.getD y 0) ((tk : Int) - 1)) := by rw [ints_set (by omega), wrap_id (by omega) (by omega)]
              refine ⟨Nat, [], [1, 4, 5, 6, 8, 9, 10, 11, 13], fun k => [.op 0 0, .int .i64 b.length, .ow 1 b.length, .ow 2 b.length, .int .i64 tk, .int .i64 j, .int .i64 ((((es.take j).foldl (unite b (tk : Int)) (stages s b es tk)).1.getD x 0) : Nat), .int .i64 ((((es.take j).foldl (unite b (tk : Int)) (stages s b es tk)).1.getD y 0) : Nat), .int .i64 k], fun k => [some (.var 28 [.int .i64 s, .rs true false (ints b) b.length, .rs true false (rows es) es.length]), some (.row 3 false (nats (renTo (((es.take j).foldl (unite b (tk : Int)) (stages s b es tk)).1.getD x 0) (((es.take j).foldl (unite b (tk : Int)) (stages s b es tk)).1.getD y 0) ((es.take j).foldl (unite b (tk : Int)) (stages s b es tk)).1 k))), some (.row 3 false (ints (((es.take j).foldl (unite b (tk : Int)) (stages s b es tk)).2.set (((es.take j).foldl (unite b (tk : Int)) (stages s b es tk)).1.getD y 0) ((tk : Int) - 1))))], fun k => k ≤ b.length, fun k => b.length - k, 3, fun _ => rfl, rfl,
                ⟨_, 0, rfl, Nat.zero_le _, rfl, ?_, rfl, rfl⟩, fun k hk => ?_⟩
              · show [_, some (Blk.row 3 false (nats ((es.take j).foldl (unite b (tk : Int)) (stages s b es tk)).1)), some (Blk.row 3 false (setND (ints ((es.take j).foldl (unite b (tk : Int)) (stages s b es tk)).2) (((es.take j).foldl (unite b (tk : Int)) (stages s b es tk)).1.getD y 0) [D.int .i64 (IntKind.i64.wrap ((tk : Int) - 1))]))] = [_, some (Blk.row 3 false (nats (renTo (((es.take j).foldl (unite b (tk : Int)) (stages s b es tk)).1.getD x 0) (((es.take j).foldl (unite b (tk : Int)) (stages s b es tk)).1.getD y 0) ((es.take j).foldl (unite b (tk : Int)) (stages s b es tk)).1 0))), some (Blk.row 3 false (ints (((es.take j).foldl (unite b (tk : Int)) (stages s b es tk)).2.set (((es.take j).foldl (unite b (tk : Int)) (stages s b es tk)).1.getD y 0) ((tk : Int) - 1))))]
                rw [renTo_zero, el]; rfl
              conv => whnf
              refine Bc_intro (fun h => ?_) (fun h => ?_)
              · have hklt : k < b.length := by simp at h; omega
                have hkl : k < ((es.take j).foldl (unite b (tk : Int)) (stages s b es tk)).1.length := by omega
                have hrg : (nats (renTo (((es.take j).foldl (unite b (tk : Int)) (stages s b es tk)).1.getD x 0) (((es.take j).foldl (unite b (tk : Int)) (stages s b es tk)).1.getD y 0) ((es.take j).foldl (unite b (tk : Int)) (stages s b es tk)).1 k))[k]? = some (D.int .i64 (((es.take j).foldl (unite b (tk : Int)) (stages s b es tk)).1[k] : Int)) := by
                  have := renTo_get (((es.take j).foldl (unite b (tk : Int)) (stages s b es tk)).1.getD x 0) (((es.take j).foldl (unite b (tk : Int)) (stages s b es tk)).1.getD y 0) ((es.take j).foldl (unite b (tk : Int)) (stages s b es tk)).1 k hkl
                  simp only [nats, ints, List.getElem?_map, this, Option.map_some]; rfl
                have hrl := renTo_len (((es.take j).foldl (unite b (tk : Int)) (stages s b es tk)).1.getD x 0) (((es.take j).foldl (unite b (tk : Int)) (stages s b es tk)).1.getD y 0) ((es.take j).foldl (unite b (tk : Int)) (stages s b es tk)).1 k (by omega)
                have hrs := renTo_succ (((es.take j).foldl (unite b (tk : Int)) (stages s b es tk)).1.getD x 0) (((es.take j).foldl (unite b (tk : Int)) (stages s b es tk)).1.getD y 0) ((es.take j).foldl (unite b (tk : Int)) (stages s b es tk)).1 k hkl
                conv => whnf
                refine ⟨k, rfl, hklt, ?_⟩
                conv => whnf
                refine ⟨_, hrg, ?_⟩
                conv => whnf
                refine Bc_intro (fun hq => ?_) (fun hq => ?_)
                · have hq : ((es.take j).foldl (unite b (tk : Int)) (stages s b es tk)).1[k] = (((es.take j).foldl (unite b (tk : Int)) (stages s b es tk)).1.getD y 0) := by have := eq_of_beq (show ((((es.take j).foldl (unite b (tk : Int)) (stages s b es tk)).1[k] : Int) == (((((es.take j).foldl (unite b (tk : Int)) (stages s b es tk)).1.getD y 0) : Nat) : Int)) = true from hq); omega
                  rw [if_pos hq] at hrs
                  conv => whnf
                  refine ⟨k, rfl, hklt, ?_⟩
                  conv => whnf
                  refine ⟨(by rw [nats_len]; show k + 1 ≤ _; omega), ?_⟩
                  conv => whnf
                  refine ⟨k + 1, hklt, (by show b.length - (k + 1) < b.length - k; omega), ?_, ?_, rfl, rfl⟩
                  · show [AV.op 0 0, AV.int .i64 b.length, AV.ow 1 b.length, AV.ow 2 b.length, AV.int .i64 tk, AV.int .i64 j, AV.int .i64 ((((es.take j).foldl (unite b (tk : Int)) (stages s b es tk)).1.getD x 0) : Nat), AV.int .i64 ((((es.take j).foldl (unite b (tk : Int)) (stages s b es tk)).1.getD y 0) : Nat), AV.int .i64 (IntKind.i64.wrap ((k : Int) + 1))] = [_, _, _, _, _, _, _, _, AV.int .i64 ((k + 1 : Nat) : Int)]
                    rw [wrap_succ hklt (by omega)]
                  · show [_, some (Blk.row 3 false (setND (nats (renTo (((es.take j).foldl (unite b (tk : Int)) (stages s b es tk)).1.getD x 0) (((es.take j).foldl (unite b (tk : Int)) (stages s b es tk)).1.getD y 0) ((es.take j).foldl (unite b (tk : Int)) (stages s b es tk)).1 k)) k [D.int .i64 (((((es.take j).foldl (unite b (tk : Int)) (stages s b es tk)).1.getD x 0) : Nat) : Int)])), _] = [_, some (Blk.row 3 false (nats (renTo (((es.take j).foldl (unite b (tk : Int)) (stages s b es tk)).1.getD x 0) (((es.take j).foldl (unite b (tk : Int)) (stages s b es tk)).1.getD y 0) ((es.take j).foldl (unite b (tk : Int)) (stages s b es tk)).1 (k + 1)))), _]
                    have en : setND (nats (renTo (((es.take j).foldl (unite b (tk : Int)) (stages s b es tk)).1.getD x 0) (((es.take j).foldl (unite b (tk : Int)) (stages s b es tk)).1.getD y 0) ((es.take j).foldl (unite b (tk : Int)) (stages s b es tk)).1 k)) k [D.int .i64 (((((es.take j).foldl (unite b (tk : Int)) (stages s b es tk)).1.getD x 0) : Nat) : Int)] = nats (renTo (((es.take j).foldl (unite b (tk : Int)) (stages s b es tk)).1.getD x 0) (((es.take j).foldl (unite b (tk : Int)) (stages s b es tk)).1.getD y 0) ((es.take j).foldl (unite b (tk : Int)) (stages s b es tk)).1 (k + 1)) := by rw [nats_set (by omega), hrs]
                    rw [en]; rfl
                · have hq : ((es.take j).foldl (unite b (tk : Int)) (stages s b es tk)).1[k] ≠ (((es.take j).foldl (unite b (tk : Int)) (stages s b es tk)).1.getD y 0) := fun e => by
                    have : ((((es.take j).foldl (unite b (tk : Int)) (stages s b es tk)).1[k] : Int) == (((((es.take j).foldl (unite b (tk : Int)) (stages s b es tk)).1.getD y 0) : Nat) : Int)) = false := hq
                    rw [e] at this; simp at this
                  rw [if_neg hq] at hrs
                  have hself : (renTo (((es.take j).foldl (unite b (tk : Int)) (stages s b es tk)).1.getD x 0) (((es.take j).foldl (unite b (tk : Int)) (stages s b es tk)).1.getD y 0) ((es.take j).foldl (unite b (tk : Int)) (stages s b es tk)).1 k).set k ((es.take j).foldl (unite b (tk : Int)) (stages s b es tk)).1[k] = renTo (((es.take j).foldl (unite b (tk : Int)) (stages s b es tk)).1.getD x 0) (((es.take j).foldl (unite b (tk : Int)) (stages s b es tk)).1.getD y 0) ((es.take j).foldl (unite b (tk : Int)) (stages s b es tk)).1 k := by
                    apply List.ext_getElem?
                    intro i
                    rw [List.getElem?_set]
                    split
                    · rename_i e; subst e; rw [renTo_get _ _ _ _ hkl, if_pos (by omega)]
                    · rfl
                  rw [hself] at hrs
                  conv => whnf
                  refine ⟨k + 1, hklt, (by show b.length - (k + 1) < b.length - k; omega), ?_, ?_, rfl, rfl⟩
                  · show [AV.op 0 0, AV.int .i64 b.length, AV.ow 1 b.length, AV.ow 2 b.length, AV.int .i64 tk, AV.int .i64 j, AV.int .i64 ((((es.take j).foldl (unite b (tk : Int)) (stages s b es tk)).1.getD x 0) : Nat), AV.int .i64 ((((es.take j).foldl (unite b (tk : Int)) (stages s b es tk)).1.getD y 0) : Nat), AV.int .i64 (IntKind.i64.wrap ((k : Int) + 1))] = [_, _, _, _, _, _, _, _, AV.int .i64 ((k + 1 : Nat) : Int)]
                    rw [wrap_succ hklt (by omega)]
                  · show [_, some (Blk.row 3 false (nats (renTo (((es.take j).foldl (unite b (tk : Int)) (stages s b es tk)).1.getD x 0) (((es.take j).foldl (unite b (tk : Int)) (stages s b es tk)).1.getD y 0) ((es.take j).foldl (unite b (tk : Int)) (stages s b es tk)).1 k))), _] = [_, some (Blk.row 3 false (nats (renTo (((es.take j).foldl (unite b (tk : Int)) (stages s b es tk)).1.getD x 0) (((es.take j).foldl (unite b (tk : Int)) (stages s b es tk)).1.getD y 0) ((es.take j).foldl (unite b (tk : Int)) (stages s b es tk)).1 (k + 1)))), _]
                    rw [hrs]; rfl
              · have : k = b.length := by simp at h; omega
                subst this
                conv => whnf
                refine ⟨j + 1, hjlt, (by show es.length - (j + 1) < es.length - j; omega), ?_, ?_, rfl, rfl⟩
                · show [AV.op 0 0, AV.int .i64 b.length, AV.ow 1 b.length, AV.ow 2 b.length, AV.int .i64 tk, AV.int .i64 (IntKind.i64.wrap ((j : Int) + 1))] = [_, _, _, _, _, AV.int .i64 ((j + 1 : Nat) : Int)]
                  rw [wrap_succ hjlt (by omega)]
                · show [_, some (Blk.row 3 false (nats (renTo (((es.take j).foldl (unite b (tk : Int)) (stages s b es tk)).1.getD x 0) (((es.take j).foldl (unite b (tk : Int)) (stages s b es tk)).1.getD y 0) ((es.take j).foldl (unite b (tk : Int)) (stages s b es tk)).1 b.length))), some (Blk.row 3 false (ints (((es.take j).foldl (unite b (tk : Int)) (stages s b es tk)).2.set (((es.take j).foldl (unite b (tk : Int)) (stages s b es tk)).1.getD y 0) ((tk : Int) - 1))))] = [_, some (Blk.row 3 false (nats ((es.take (j + 1)).foldl (unite b (tk : Int)) (stages s b es tk)).1)), some (Blk.row 3 false (ints ((es.take (j + 1)).foldl (unite b (tk : Int)) (stages s b es tk)).2))]
                  have e1 : renTo (((es.take j).foldl (unite b (tk : Int)) (stages s b es tk)).1.getD x 0) (((es.take j).foldl (unite b (tk : Int)) (stages s b es tk)).1.getD y 0) ((es.take j).foldl (unite b (tk : Int)) (stages s b es tk)).1 b.length = ren (((es.take j).foldl (unite b (tk : Int)) (stages s b es tk)).1.getD x 0) (((es.take j).foldl (unite b (tk : Int)) (stages s b es tk)).1.getD y 0) ((es.take j).foldl (unite b (tk : Int)) (stages s b es tk)).1 := by rw [← p1, renTo_full]
                  have e2 : unite b (tk : Int) ((es.take j).foldl (unite b (tk : Int)) (stages s b es tk)) [(x : Int), (y : Int), z] = (ren (((es.take j).foldl (unite b (tk : Int)) (stages s b es tk)).1.getD x 0) (((es.take j).foldl (unite b (tk : Int)) (stages s b es tk)).1.getD y 0) ((es.take j).foldl (unite b (tk : Int)) (stages s b es tk)).1, ((es.take j).foldl (unite b (tk : Int)) (stages s b es tk)).2.set (((es.take j).foldl (unite b (tk : Int)) (stages s b es tk)).1.getD y 0) ((tk : Int) - 1)) := by
                    simp only [unite, Int.toNat_natCast]
                    rw [if_neg hz, if_neg hac, if_neg (by rw [hsw]; simp)]
                  rw [e1, hft, e2]; rfl
          · have h2 : (b.getD (((es.take j).foldl (unite b (tk : Int)) (stages s b es tk)).1.getD x 0) 0 == b.getD (((es.take j).foldl (unite b (tk : Int)) (stages s b es tk)).1.getD y 0) 0) = false := h2
            have hsw : swapB b (((es.take j).foldl (unite b (tk : Int)) (stages s b es tk)).1.getD x 0) (((es.take j).foldl (unite b (tk : Int)) (stages s b es tk)).1.getD y 0) = false := by simp only [swapB, h1, h2, Bool.false_or, Bool.false_and]
            conv => whnf
            refine ⟨(((es.take j).foldl (unite b (tk : Int)) (stages s b es tk)).1.getD y 0), rfl, hc, ?_⟩
            conv => whnf
            refine ⟨(by rw [ints_len]; show (((es.take j).foldl (unite b (tk : Int)) (stages s b es tk)).1.getD y 0) + 1 ≤ _; omega), ?_⟩
            conv => whnf
            have el : setND (ints ((es.take j).foldl (unite b (tk : Int)) (stages s b es tk)).2) (((es.take j).foldl (unite b (tk : Int)) (stages s b es tk)).1.getD y 0) [D.int .i64 (IntKind.i64.wrap ((tk : Int) - 1))] = ints (((es.take j).foldl (unite b (tk : Int)) (stages s b es tk)).2.set (((es.take j).foldl (unite b (tk : Int)) (stages s b es tk)).1.getD y 0) ((tk : Int) - 1)) := by rw [ints_set (by omega), wrap_id (by omega) (by omega)]
            refine ⟨Nat, [], [1, 4, 5, 6, 8, 9, 10, 11, 13], fun k => [.op 0 0, .int .i64 b.length, .ow 1 b.length, .ow 2 b.length, .int .i64 tk, .int .i64 j, .int .i64 ((((es.take j).foldl (unite b (tk : Int)) (stages s b es tk)).1.getD x 0) : Nat), .int .i64 ((((es.take j).foldl (unite b (tk : Int)) (stages s b es tk)).1.getD y 0) : Nat), .int .i64 k], fun k => [some (.var 28 [.int .i64 s, .rs true false (ints b) b.length, .rs true false (rows es) es.length]), some (.row 3 false (nats (renTo (((es.take j).foldl (unite b (tk : Int)) (stages s b es tk)).1.getD x 0) (((es.take j).foldl (unite b (tk : Int)) (stages s b es tk)).1.getD y 0) ((es.take j).foldl (unite b (tk : Int)) (stages s b es tk)).1 k))), some (.row 3 false (ints (((es.take j).foldl (unite b (tk : Int)) (stages s b es tk)).2.set (((es.take j).foldl (unite b (tk : Int)) (stages s b es tk)).1.getD y 0) ((tk : Int) - 1))))], fun k => k ≤ b.length, fun k => b.length - k, 3, fun _ => rfl, rfl,
              ⟨_, 0, rfl, Nat.zero_le _, rfl, ?_, rfl, rfl⟩, fun k hk => ?_⟩
            · show [_, some (Blk.row 3 false (nats ((es.take j).foldl (unite b (tk : Int)) (stages s b es tk)).1)), some (Blk.row 3 false (setND (ints ((es.take j).foldl (unite b (tk : Int)) (stages s b es tk)).2) (((es.take j).foldl (unite b (tk : Int)) (stages s b es tk)).1.getD y 0) [D.int .i64 (IntKind.i64.wrap ((tk : Int) - 1))]))] = [_, some (Blk.row 3 false (nats (renTo (((es.take j).foldl (unite b (tk : Int)) (stages s b es tk)).1.getD x 0) (((es.take j).foldl (unite b (tk : Int)) (stages s b es tk)).1.getD y 0) ((es.take j).foldl (unite b (tk : Int)) (stages s b es tk)).1 0))), some (Blk.row 3 false (ints (((es.take j).foldl (unite b (tk : Int)) (stages s b es tk)).2.set (((es.take j).foldl (unite b (tk : Int)) (stages s b es tk)).1.getD y 0) ((tk : Int) - 1))))]
              rw [renTo_zero, el]; rfl
            conv => whnf
            refine Bc_intro (fun h => ?_) (fun h => ?_)
            · have hklt : k < b.length := by simp at h; omega
              have hkl : k < ((es.take j).foldl (unite b (tk : Int)) (stages s b es tk)).1.length := by omega
              have hrg : (nats (renTo (((es.take j).foldl (unite b (tk : Int)) (stages s b es tk)).1.getD x 0) (((es.take j).foldl (unite b (tk : Int)) (stages s b es tk)).1.getD y 0) ((es.take j).foldl (unite b (tk : Int)) (stages s b es tk)).1 k))[k]? = some (D.int .i64 (((es.take j).foldl (unite b (tk : Int)) (stages s b es tk)).1[k] : Int)) := by
                have := renTo_get (((es.take j).foldl (unite b (tk : Int)) (stages s b es tk)).1.getD x 0) (((es.take j).foldl (unite b (tk : Int)) (stages s b es tk)).1.getD y 0) ((es.take j).foldl (unite b (tk : Int)) (stages s b es tk)).1 k hkl
                simp only [nats, ints, List.getElem?_map, this, Option.map_some]; rfl
              have hrl := renTo_len (((es.take j).foldl (unite b (tk : Int)) (stages s b es tk)).1.getD x 0) (((es.take j).foldl (unite b (tk : Int)) (stages s b es tk)).1.getD y 0) ((es.take j).foldl (unite b (tk : Int)) (stages s b es tk)).1 k (by omega)
              have hrs := renTo_succ (((es.take j).foldl (unite b (tk : Int)) (stages s b es tk)).1.getD x 0) (((es.take j).foldl (unite b (tk : Int)) (stages s b es tk)).1.getD y 0) ((es.take j).foldl (unite b (tk : Int)) (stages s b es tk)).1 k hkl
              conv => whnf
              refine ⟨k, rfl, hklt, ?_⟩
              conv => whnf
              refine ⟨_, hrg, ?_⟩
              conv => whnf
              refine Bc_intro (fun hq => ?_) (fun hq => ?_)
              · have hq : ((es.take j).foldl (unite b (tk : Int)) (stages s b es tk)).1[k] = (((es.take j).foldl (unite b (tk : Int)) (stages s b es tk)).1.getD y 0) := by have := eq_of_beq (show ((((es.take j).foldl (unite b (tk : Int)) (stages s b es tk)).1[k] : Int) == (((((es.take j).foldl (unite b (tk : Int)) (stages s b es tk)).1.getD y 0) : Nat) : Int)) = true from hq); omega
                rw [if_pos hq] at hrs
                conv => whnf
                refine ⟨k, rfl, hklt, ?_⟩
                conv => whnf
                refine ⟨(by rw [nats_len]; show k + 1 ≤ _; omega), ?_⟩
                conv => whnf
                refine ⟨k + 1, hklt, (by show b.length - (k + 1) < b.length - k; omega), ?_, ?_, rfl, rfl⟩
                · show [AV.op 0 0, AV.int .i64 b.length, AV.ow 1 b.length, AV.ow 2 b.length, AV.int .i64 tk, AV.int .i64 j, AV.int .i64 ((((es.take j).foldl (unite b (tk : Int)) (stages s b es tk)).1.getD x 0) : Nat), AV.int .i64 ((((es.take j).foldl (unite b (tk : Int)) (stages s b es tk)).1.getD y 0) : Nat), AV.int .i64 (IntKind.i64.wrap ((k : Int) + 1))] = [_, _, _, _, _, _, _, _, AV.int .i64 ((k + 1 : Nat) : Int)]
                  rw [wrap_succ hklt (by omega)]
                · show [_, some (Blk.row 3 false (setND (nats (renTo (((es.take j).foldl (unite b (tk : Int)) (stages s b es tk)).1.getD x 0) (((es.take j).foldl (unite b (tk : Int)) (stages s b es tk)).1.getD y 0) ((es.take j).foldl (unite b (tk : Int)) (stages s b es tk)).1 k)) k [D.int .i64 (((((es.take j).foldl (unite b (tk : Int)) (stages s b es tk)).1.getD x 0) : Nat) : Int)])), _] = [_, some (Blk.row 3 false (nats (renTo (((es.take j).foldl (unite b (tk : Int)) (stages s b es tk)).1.getD x 0) (((es.take j).foldl (unite b (tk : Int)) (stages s b es tk)).1.getD y 0) ((es.take j).foldl (unite b (tk : Int)) (stages s b es tk)).1 (k + 1)))), _]
                  have en : setND (nats (renTo (((es.take j).foldl (unite b (tk : Int)) (stages s b es tk)).1.getD x 0) (((es.take j).foldl (unite b (tk : Int)) (stages s b es tk)).1.getD y 0) ((es.take j).foldl (unite b (tk : Int)) (stages s b es tk)).1 k)) k [D.int .i64 (((((es.take j).foldl (unite b (tk : Int)) (stages s b es tk)).1.getD x 0) : Nat) : Int)] = nats (renTo (((es.take j).foldl (unite b (tk : Int)) (stages s b es tk)).1.getD x 0) (((es.take j).foldl (unite b (tk : Int)) (stages s b es tk)).1.getD y 0) ((es.take j).foldl (unite b (tk : Int)) (stages s b es tk)).1 (k + 1)) := by rw [nats_set (by omega), hrs]
                  rw [en]; rfl
              · have hq : ((es.take j).foldl (unite b (tk : Int)) (stages s b es tk)).1[k] ≠ (((es.take j).foldl (unite b (tk : Int)) (stages s b es tk)).1.getD y 0) := fun e => by
                  have : ((((es.take j).foldl (unite b (tk : Int)) (stages s b es tk)).1[k] : Int) == (((((es.take j).foldl (unite b (tk : Int)) (stages s b es tk)).1.getD y 0) : Nat) : Int)) = false := hq
                  rw [e] at this; simp at this
                rw [if_neg hq] at hrs
                have hself : (renTo (((es.take j).foldl (unite b (tk : Int)) (stages s b es tk)).1.getD x 0) (((es.take j).foldl (unite b (tk : Int)) (stages s b es tk)).1.getD y 0) ((es.take j).foldl (unite b (tk : Int)) (stages s b es tk)).1 k).set k ((es.take j).foldl (unite b (tk : Int)) (stages s b es tk)).1[k] = renTo (((es.take j).foldl (unite b (tk : Int)) (stages s b es tk)).1.getD x 0) (((es.take j).foldl (unite b (tk : Int)) (stages s b es tk)).1.getD y 0) ((es.take j).foldl (unite b (tk : Int)) (stages s b es tk)).1 k := by
                  apply List.ext_getElem?
                  intro i
                  rw [List.getElem?_set]
                  split
                  · rename_i e; subst e; rw [renTo_get _ _ _ _ hkl, if_pos (by omega)]
                  · rfl
                rw [hself] at hrs
                conv => whnf
                refine ⟨k + 1, hklt, (by show b.length - (k + 1) < b.length - k; omega), ?_, ?_, rfl, rfl⟩
                · show [AV.op 0 0, AV.int .i64 b.length, AV.ow 1 b.length, AV.ow 2 b.length, AV.int .i64 tk, AV.int .i64 j, AV.int .i64 ((((es.take j).foldl (unite b (tk : Int)) (stages s b es tk)).1.getD x 0) : Nat), AV.int .i64 ((((es.take j).foldl (unite b (tk : Int)) (stages s b es tk)).1.getD y 0) : Nat), AV.int .i64 (IntKind.i64.wrap ((k : Int) + 1))] = [_, _, _, _, _, _, _, _, AV.int .i64 ((k + 1 : Nat) : Int)]
                  rw [wrap_succ hklt (by omega)]
                · show [_, some (Blk.row 3 false (nats (renTo (((es.take j).foldl (unite b (tk : Int)) (stages s b es tk)).1.getD x 0) (((es.take j).foldl (unite b (tk : Int)) (stages s b es tk)).1.getD y 0) ((es.take j).foldl (unite b (tk : Int)) (stages s b es tk)).1 k))), _] = [_, some (Blk.row 3 false (nats (renTo (((es.take j).foldl (unite b (tk : Int)) (stages s b es tk)).1.getD x 0) (((es.take j).foldl (unite b (tk : Int)) (stages s b es tk)).1.getD y 0) ((es.take j).foldl (unite b (tk : Int)) (stages s b es tk)).1 (k + 1)))), _]
                  rw [hrs]; rfl
            · have : k = b.length := by simp at h; omega
              subst this
              conv => whnf
              refine ⟨j + 1, hjlt, (by show es.length - (j + 1) < es.length - j; omega), ?_, ?_, rfl, rfl⟩
              · show [AV.op 0 0, AV.int .i64 b.length, AV.ow 1 b.length, AV.ow 2 b.length, AV.int .i64 tk, AV.int .i64 (IntKind.i64.wrap ((j : Int) + 1))] = [_, _, _, _, _, AV.int .i64 ((j + 1 : Nat) : Int)]
                rw [wrap_succ hjlt (by omega)]
              · show [_, some (Blk.row 3 false (nats (renTo (((es.take j).foldl (unite b (tk : Int)) (stages s b es tk)).1.getD x 0) (((es.take j).foldl (unite b (tk : Int)) (stages s b es tk)).1.getD y 0) ((es.take j).foldl (unite b (tk : Int)) (stages s b es tk)).1 b.length))), some (Blk.row 3 false (ints (((es.take j).foldl (unite b (tk : Int)) (stages s b es tk)).2.set (((es.take j).foldl (unite b (tk : Int)) (stages s b es tk)).1.getD y 0) ((tk : Int) - 1))))] = [_, some (Blk.row 3 false (nats ((es.take (j + 1)).foldl (unite b (tk : Int)) (stages s b es tk)).1)), some (Blk.row 3 false (ints ((es.take (j + 1)).foldl (unite b (tk : Int)) (stages s b es tk)).2))]
                have e1 : renTo (((es.take j).foldl (unite b (tk : Int)) (stages s b es tk)).1.getD x 0) (((es.take j).foldl (unite b (tk : Int)) (stages s b es tk)).1.getD y 0) ((es.take j).foldl (unite b (tk : Int)) (stages s b es tk)).1 b.length = ren (((es.take j).foldl (unite b (tk : Int)) (stages s b es tk)).1.getD x 0) (((es.take j).foldl (unite b (tk : Int)) (stages s b es tk)).1.getD y 0) ((es.take j).foldl (unite b (tk : Int)) (stages s b es tk)).1 := by rw [← p1, renTo_full]
                have e2 : unite b (tk : Int) ((es.take j).foldl (unite b (tk : Int)) (stages s b es tk)) [(x : Int), (y : Int), z] = (ren (((es.take j).foldl (unite b (tk : Int)) (stages s b es tk)).1.getD x 0) (((es.take j).foldl (unite b (tk : Int)) (stages s b es tk)).1.getD y 0) ((es.take j).foldl (unite b (tk : Int)) (stages s b es tk)).1, ((es.take j).foldl (unite b (tk : Int)) (stages s b es tk)).2.set (((es.take j).foldl (unite b (tk : Int)) (stages s b es tk)).1.getD y 0) ((tk : Int) - 1)) := by
                  simp only [unite, Int.toNat_natCast]
                  rw [if_neg hz, if_neg hac, if_neg (by rw [hsw]; simp)]
                rw [e1, hft, e2]; rfl
      · have : j = es.length := by simp at h; omega
        subst this
        conv => whnf
        refine ⟨tk + 1, htlt, (by show s.toNat - (tk + 1) < s.toNat - tk; omega), ?_, ?_, rfl, rfl⟩
        · show [AV.op 0 0, AV.int .i64 b.length, AV.ow 1 b.length, AV.ow 2 b.length, AV.int .i64 (IntKind.i64.wrap ((tk : Int) + 1))] = [_, _, _, _, AV.int .i64 ((tk + 1 : Nat) : Int)]
          rw [wrap_succ htlt (by omega)]
        · show [_, some (Blk.row 3 false (nats ((es.take es.length).foldl (unite b (tk : Int)) (stages s b es tk)).1)), some (Blk.row 3 false (ints ((es.take es.length).foldl (unite b (tk : Int)) (stages s b es tk)).2))] = [_, some (Blk.row 3 false (nats (stages s b es (tk + 1)).1)), some (Blk.row 3 false (ints (stages s b es (tk + 1)).2))]
          rw [List.take_length, stages_succ]; rfl
    · have : tk = s.toNat := by simp at h; omega
      subst this
      obtain ⟨q1, q2, q3⟩ := stages_ok hedge2 (s := s) s.toNat
      generalize hL : (stages s b es s.toNat).2 = L at *
      obtain ⟨sn, hsn⟩ : ∃ sn : Nat, s = (sn : Int) := ⟨s.toNat, by omega⟩
      have hsn2 : s.toNat = sn := by omega
      clear h htk
      conv => whnf
      refine ⟨Nat, [.slot 14 49 false], [1, 4, 6, 14, 15], fun k => [.op 0 0, .int .i64 b.length, .ow 2 b.length, .ow 3 (barsTo b L sn k).length, .int .i64 (k : Int)], fun k => [some (.var 28 [.int .i64 s, .rs true false (ints b) b.length, .rs true false (rows es) es.length]), some (.row 3 false (nats (stages s b es s.toNat).1)), some (.row 3 false (ints L)), some (.row 49 false (barsD (barsTo b L sn k)))], fun k => k ≤ sn, fun k => sn - k, 4, fun _ => rfl, rfl,
          ⟨_, 0, rfl, Nat.zero_le _, rfl, (by rw [← hL]; rfl), rfl, rfl⟩, fun v hv => ?_⟩
      have hv : v ≤ sn := hv
      have hbl := barsTo_len b L sn v
      conv => whnf
      refine Bc_intro (fun h => ?_) (fun h => ?_)
      · have h : (v : Int) < s := of_decide_eq_true h
        have hvs : v * sn ≤ 25 := by
          have h1 : v ≤ 5 := by omega
          have h2 : sn ≤ 5 := by omega
          exact Nat.mul_le_mul h1 h2
        conv => whnf
        refine ⟨Nat, [], [1, 4, 6, 14, 15, 16], fun w => [.op 0 0, .int .i64 b.length, .ow 2 b.length, .ow 3 (barsTo b L sn v ++ barRow b L v v w).length, .int .i64 (v : Int), .int .i64 (w : Int)], fun w => [some (.var 28 [.int .i64 s, .rs true false (ints b) b.length, .rs true false (rows es) es.length]), some (.row 3 false (nats (stages s b es s.toNat).1)), some (.row 3 false (ints L)), some (.row 49 false (barsD (barsTo b L sn v ++ barRow b L v v w)))], fun w => v ≤ w ∧ w ≤ sn, fun w => sn - w, 4, fun _ => rfl, rfl,
            ⟨_, v, rfl, ⟨Nat.le_refl _, hv⟩, ?_, ?_, rfl, rfl⟩, fun w hw => ?_⟩
        · exact VJ6 (by simp [barRow])
        · exact row4d (by simp [barRow])
        obtain ⟨hw1, hw2⟩ := hw
        have hrl := barRow_len b L v v w
        conv => whnf
        refine Bc_intro (fun h => ?_) (fun h => ?_)
        · have h : (w : Int) < s := of_decide_eq_true h
          have hbs := barRow_succ b L v v w hw1
          conv => whnf
          refine ⟨Nat, [], [1, 4, 6, 14, 15, 16, 17, 18], fun i => [.op 0 0, .int .i64 b.length, .ow 2 b.length, .ow 3 (barsTo b L sn v ++ barRow b L v v w).length, .int .i64 (v : Int), .int .i64 (w : Int), .int .i64 (countB b L v w i : Int), .int .i64 (i : Int)], fun _ => [some (.var 28 [.int .i64 s, .rs true false (ints b) b.length, .rs true false (rows es) es.length]), some (.row 3 false (nats (stages s b es s.toNat).1)), some (.row 3 false (ints L)), some (.row 49 false (barsD (barsTo b L sn v ++ barRow b L v v w)))], fun i => i ≤ b.length, fun i => b.length - i, 4, fun _ => rfl, rfl,
              ⟨_, 0, rfl, Nat.zero_le _, rfl, rfl, rfl, rfl⟩, fun i hi => ?_⟩
          have hi : i ≤ b.length := hi
          have hcs := countB_succ b L v w i
          have hcl := countB_le b L v w i
          conv => whnf
          refine Bc_intro (fun h => ?_) (fun h => ?_)
          · have h : (i : Int) < b.length := of_decide_eq_true h
            conv => whnf
            repeat (first
              | (refine ⟨_, ints_m rfl (by first | omega | (dsimp only; omega)), ?_⟩; conv => whnf)
              | (refine ⟨_, ints_p rfl (by first | omega | (dsimp only; omega)), ?_⟩; conv => whnf)
              | (refine ⟨_, rows_m rfl (by first | omega | (dsimp only; omega)), ?_⟩; conv => whnf)
              | (refine ⟨(D.int .i64 _ : D), rfl, ?_⟩; conv => whnf)
              | (refine ⟨(_ : Nat), rfl, (show (_ : Nat) < _ by first | omega | (dsimp only; omega)), ?_⟩; conv => whnf)
              | (refine ⟨(_ : Nat), rfl, (show (_ : Nat) ≤ _ by first | omega | (dsimp only; omega)), ?_⟩; conv => whnf)
              | (refine ⟨(_ : Nat), wrap_pred (by omega), (show (_ : Nat) < _ by first | omega | (dsimp only; omega)), ?_⟩; conv => whnf)
              | (refine ⟨(0 : Nat), rfl, Nat.le_of_ble_eq_true rfl, ?_⟩; conv => whnf)
              | (refine ⟨(1 : Nat), rfl, Nat.le_of_ble_eq_true rfl, ?_⟩; conv => whnf)
              | (refine ⟨(2 : Nat), rfl, Nat.le_of_ble_eq_true rfl, ?_⟩; conv => whnf))
            refine Bc_intro (fun h1 => ?_) (fun h1 => ?_)
            · have h1 : (b.getD i 0 == (v : Int)) = true := h1
              conv => whnf
              repeat (first
                | (refine ⟨_, ints_m rfl (by first | omega | (dsimp only; omega)), ?_⟩; conv => whnf)
                | (refine ⟨_, ints_p rfl (by first | omega | (dsimp only; omega)), ?_⟩; conv => whnf)
                | (refine ⟨_, rows_m rfl (by first | omega | (dsimp only; omega)), ?_⟩; conv => whnf)
                | (refine ⟨(D.int .i64 _ : D), rfl, ?_⟩; conv => whnf)
                | (refine ⟨(_ : Nat), rfl, (show (_ : Nat) < _ by first | omega | (dsimp only; omega)), ?_⟩; conv => whnf)
                | (refine ⟨(_ : Nat), rfl, (show (_ : Nat) ≤ _ by first | omega | (dsimp only; omega)), ?_⟩; conv => whnf)
                | (refine ⟨(_ : Nat), wrap_pred (by omega), (show (_ : Nat) < _ by first | omega | (dsimp only; omega)), ?_⟩; conv => whnf)
                | (refine ⟨(0 : Nat), rfl, Nat.le_of_ble_eq_true rfl, ?_⟩; conv => whnf)
                | (refine ⟨(1 : Nat), rfl, Nat.le_of_ble_eq_true rfl, ?_⟩; conv => whnf)
                | (refine ⟨(2 : Nat), rfl, Nat.le_of_ble_eq_true rfl, ?_⟩; conv => whnf))
              refine Bc_intro (fun h2 => ?_) (fun h2 => ?_)
              · have h2 : (L.getD i 0 == (w : Int)) = true := h2
                rw [h1, h2, Bool.true_and, if_pos rfl] at hcs
                conv => whnf
                refine ⟨i + 1, (by show i + 1 ≤ b.length; omega), (by show b.length - (i + 1) < b.length - i; omega), ?_, rfl, rfl, rfl⟩
                exact VJ8 (by rw [hcs]; exact wrap_succ (k := countB b L v w i) (n := 9223372036854775807) (by omega) (by omega)) (wrap_succ (k := i) (n := 9223372036854775807) (by omega) (by omega))
              · have h2 : (L.getD i 0 == (w : Int)) = false := h2
                rw [h1, h2] at hcs
                conv => whnf
                refine ⟨i + 1, (by show i + 1 ≤ b.length; omega), (by show b.length - (i + 1) < b.length - i; omega), ?_, rfl, rfl, rfl⟩
                exact VJ8 (by rw [hcs]; rfl) (wrap_succ (k := i) (n := 9223372036854775807) (by omega) (by omega))
            · have h1 : (b.getD i 0 == (v : Int)) = false := h1
              rw [h1] at hcs
              conv => whnf
              refine ⟨i + 1, (by show i + 1 ≤ b.length; omega), (by show b.length - (i + 1) < b.length - i; omega), ?_, rfl, rfl, rfl⟩
              exact VJ8 (by rw [hcs]; rfl) (wrap_succ (k := i) (n := 9223372036854775807) (by omega) (by omega))
          · have h : ¬ (i : Int) < b.length := of_decide_eq_false h
            have : i = b.length := by omega
            subst this
            conv => whnf
            refine Bc_intro (fun h3 => ?_) (fun h3 => ?_)
            · have h3 : countB b L v w b.length > 0 := (by have h4 : ((countB b L v w b.length : Nat) : Int) > 0 := of_decide_eq_true h3; omega)
              rw [if_pos h3] at hbs
              conv => whnf
              refine ⟨false, .inr (.inl rfl), .inr (.inr (by intro q hq; simp only [List.mem_cons, List.not_mem_nil, or_false] at hq; rcases hq with rfl | rfl | rfl <;> rfl)), rfl, sizeLim_of (by show ((barsTo b L sn v ++ barRow b L v v w).length + 1) * 24 ≤ _; rw [List.length_append]; omega), intLim_of' (show (barsTo b L sn v ++ barRow b L v v w).length + 1 ≤ 9223372036854775807 by rw [List.length_append]; omega), ?_⟩
              conv => whnf
              refine ⟨w + 1, ⟨by omega, by omega⟩, (by show sn - (w + 1) < sn - w; omega), ?_, ?_, rfl, rfl⟩
              · exact VJ6w (by simp only [hbs, List.length_append, List.length_cons, List.length_nil]; omega) (wrap_succ (k := w) (n := 9223372036854775807) (by omega) (by omega))
              · have e : barsD (barsTo b L sn v ++ barRow b L v v w) ++ barD (v, w, countB b L v w b.length) = barsD (barsTo b L sn v ++ barRow b L v v (w + 1)) := by
                  rw [hbs, ← List.append_assoc, barsD_append _ [_], barsD_one]
                exact row4d e
            · have h3 : ¬ countB b L v w b.length > 0 := (by have h4 : ¬ ((countB b L v w b.length : Nat) : Int) > 0 := of_decide_eq_false h3; omega)
              rw [if_neg h3, List.append_nil] at hbs
              conv => whnf
              refine ⟨w + 1, ⟨by omega, by omega⟩, (by show sn - (w + 1) < sn - w; omega), ?_, ?_, rfl, rfl⟩
              · exact VJ6w (by rw [hbs]) (wrap_succ (k := w) (n := 9223372036854775807) (by omega) (by omega))
              · exact row4d (by rw [hbs])
        · have h : ¬ (w : Int) < s := of_decide_eq_false h
          have : w = sn := by omega
          subst this
          have hts := barsTo_succ b L w v
          conv => whnf
          refine ⟨v + 1, (by show v + 1 ≤ w; omega), (by show w - (v + 1) < w - v; omega), ?_, ?_, rfl, rfl⟩
          · exact VJ5 (by rw [hts]) (wrap_succ (k := v) (n := 9223372036854775807) (by omega) (by omega))
          · exact row4d (by rw [hts])
      · have h : ¬ (v : Int) < s := of_decide_eq_false h
        have : v = sn := by omega
        subst this
        conv => whnf
        refine ⟨rfl, ?_⟩
        rw [elder, hL, hsn2]; rfl

theorem ac11_out (s : Int) (b : List Int) (es : List (List Int)) (hf : isFil s b es = false) : AC Tryz.prog 11 [flA s b es] (.tup [.rs false true [] 0, .bool false]) := by
  refine AC_of_awp (E := env 186 [] [] 0) (env_ok _ _ _ _) mixed Tryz.call11 Tryz.func11 (code := body11) rfl rfl (by kernel_rfl) (Nat.le_of_ble_eq_true rfl) fun hl => ?_
  clear hl
  conv => whnf
  refine ⟨_, ac27 s b es, rfl, ?_⟩
  conv => whnf
  refine Bc_intro (fun h => ?_) (fun h => ?_)
  · conv => whnf
    exact ⟨rfl, rfl⟩
  · rw [hf] at h; cases h
end Go.Qt
