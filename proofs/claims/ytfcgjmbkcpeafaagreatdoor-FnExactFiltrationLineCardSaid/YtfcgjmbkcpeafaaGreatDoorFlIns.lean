/- PROVED: for every input the law FnExactFiltrationLine returns true and each argument reads afterwards as it read before (the statement 'FnExactFiltrationLineCardSaid' of the given Rows).
Conditions: none beyond those which the given statement itself names. This text is one part of the proof. -/
import Derived.Test.YtfcgjmbkcpeafaaGreatDoorFkIns

namespace Go.Qt
open Go Go.Qv Go.Proofs Go.RowKit Go.Lib
set_option linter.unusedVariables false
set_option linter.unusedSimpArgs false
theorem push_setRow (W w : World) (A B : Array Value) (t : TypeId) (fr : Nat × Nat) (h : W.heap = w.heap.push (.cells A t fr)) : (W.setRow w.heap.size B).heap = w.heap.push (.cells B t fr) := by
  apply Array.ext
  · simp [World.setRow, h]
  · intro k h1 h2
    simp only [World.setRow, Array.getElem_modify, h, Array.getElem_push]
    by_cases hk : k < w.heap.size
    · rw [if_neg (by omega), dif_pos hk, dif_pos hk]
    · have : w.heap.size = k := by simp at h2; omega
      rw [if_pos this, dif_neg hk, dif_neg hk]
set_option maxHeartbeats 8000000 in
set_option maxRecDepth 100000 in
theorem ins_grow (g c n i vb vo vc : Nat) (P Q : List Value) (arr : Array Value) (bv : List Value) (arrV : Array Value) (eV : TypeId) (frV : Nat × Nat) (w : World) (hi : i < n) (hnc : n ≤ c) (hroom : c < n + 1) (hbig : (n + 1) * 24 ≤ 140737488355328)
    (hP : P.length = i * 3) (hQ : Q.length = (n - i) * 3) (hb : bv.length = 3)
    (hg : w.heap[g]? = some (.cells arr 49 (0, 0))) (hgc : ∀ (j : Nat) (v : Value), (P ++ Q)[j]? = some v → arr[j]? = some v) (hv : w.heap[vb]? = some (.cells arrV eV frV))
    (hvs : ∀ (j : Nat) (v : Value), bv[j]? = some v → arrV[vo + j]? = some v) (h1Q : ∀ v ∈ Q, v.oneCell' = true) (h1b : ∀ v ∈ bv, v.oneCell' = true) :
    Calls Tryz.prog 48 #[.slice (some ⟨g, 0, none⟩) n c, .int .i64 i, .slice (some ⟨vb, vo, none⟩) 1 vc] w fun e w' => ∃ G tl,
      e = .returned (.slice (some ⟨w.heap.size, 0, none⟩) (n + 1) G) ∧ n + 1 ≤ G ∧ G ≤ maxLen ∧ tl.length + (n + 1) * 3 = G * 3 ∧ w'.heap = w.heap.push (.cells (P ++ bv ++ Q ++ tl).toArray 49 (0, 0)) ∧ w'.os = w.os ∧ w'.tape = w.tape ∧ w'.output = w.output := by
  obtain ⟨i0, hi0, hz0, hzs, hzb⟩ := info_parts i49
  have hz2 : ¬ ((i : Int) = (n : Int)) := by omega
  have hz3 : (c : Int) < (n : Int) + 1 := by omega
  have hkk : (n : Int) + 1 - (i : Int) = ((n + 1 - i : Nat) : Int) := by omega
  have hik : i + (n + 1 - i) = n + 1 := by omega
  have hold : (Builtin.firstCells i0.size i (.slice (some ⟨g, 0, none⟩) i c)).run Tryz.prog w.drew = .ok P.toArray w.drew := by
    rw [hzs]
    refine run_firstCells_rowk 3 w.drew ⟨g, 0, none⟩ i c i P hP (fun j v hj => ?_)
    have hgd : w.drew.heap[g]? = some (.cells arr 49 (0, 0)) := hg
    have hjl : j < P.length := (List.getElem?_eq_some_iff.1 hj).1
    rw [Addr.add_lit]
    simp only [World.cell?, hgd, Nat.zero_add]
    exact hgc j v (by rw [List.getElem?_append_left hjl]; exact hj)
  have hrz : ∀ ty, (Builtin.append_ #[34, 3] ty #[.slice (some ⟨g, 0, none⟩) i c, .int .i64 ((n : Int) + 1 - (i : Int))]).run Tryz.prog w =
      .ok (.slice (some ⟨w.heap.size, 0, none⟩) (n + 1) (grownCap w (n + 1) c 49)) (w.drew.alloc (.cells (P.toArray ++ Builtin.zeroCells (Value.agg #[.int .i64 0, .int .i64 0, .int .i64 0]).cells (n + 1 - i) ++ Builtin.zeroCells (Value.agg #[.int .i64 0, .int .i64 0, .int .i64 0]).cells (grownCap w (n + 1) c 49 - (n + 1))) 49)) := fun ty => by
    have h := Lib.run_append_grow_zeros w 34 3 ty 49 i0 _ .i64 .i64 u34 u3 hi0 hz0 (some ⟨g, 0, none⟩) i c P hold (n + 1 - i) (by omega) (by omega) (by omega) (by omega) (by rw [hzb]; omega) (by rw [hzb, hik]; exact growslice_fits hroom hbig)
    rw [hik] at h
    rw [hkk]
    exact h
  obtain ⟨G, hG⟩ : ∃ G, G = grownCap w (n + 1) c 49 := ⟨_, rfl⟩
  have hGn : n + 1 ≤ G := by rw [hG]; exact grownCap_ge w _ _ _
  have hGm : G ≤ maxLen := by rw [hG]; exact grownCap_le_maxLen w (n + 1) c 49 (by unfold maxLen; omega)
  obtain ⟨Z, hZ⟩ : ∃ Z : List Value, Z = (Builtin.zeroCells (Value.agg #[.int .i64 0, .int .i64 0, .int .i64 0]).cells (n + 1 - i) ++ Builtin.zeroCells (Value.agg #[.int .i64 0, .int .i64 0, .int .i64 0]).cells (G - (n + 1))).toList := ⟨_, rfl⟩
  have hZl : Z.length = (G - i) * 3 := by
    rw [hZ]
    have e1 : (Value.agg #[.int .i64 0, .int .i64 0, .int .i64 0]).cells.size = 3 := rfl
    simp [Builtin.zeroCells, e1]
    omega
  rw [← hG] at hrz
  have hrow : P.toArray ++ Builtin.zeroCells (Value.agg #[.int .i64 0, .int .i64 0, .int .i64 0]).cells (n + 1 - i) ++ Builtin.zeroCells (Value.agg #[.int .i64 0, .int .i64 0, .int .i64 0]).cells (G - (n + 1)) = (P ++ Z).toArray := by
    rw [hZ]
    apply Array.toList_inj.1
    simp
  rw [hrow] at hrz
  clear hrow hold hkk
  obtain ⟨N, hN⟩ : ∃ N, N = w.heap.size := ⟨_, rfl⟩
  have hgN : g ≠ N := by
    intro e; rw [e, hN] at hg
    have := (Array.getElem?_eq_some_iff.1 hg).1
    omega
  have hvN : vb ≠ N := by
    intro e; rw [e, hN] at hv
    have := (Array.getElem?_eq_some_iff.1 hv).1
    omega
  have hWg : ∀ W : World, W.heap = (w.drew.alloc (.cells (P ++ Z).toArray 49)).heap → W.heap[N]? = some (.cells (P ++ Z).toArray 49 (0, 0)) ∧ W.heap[g]? = some (.cells arr 49 (0, 0)) ∧ W.heap[vb]? = some (.cells arrV eV frV) := fun W h => by
    have e : W.heap = w.heap.push (.cells (P ++ Z).toArray 49 (0, 0)) := h
    refine ⟨by rw [e, hN]; simp, ?_, ?_⟩
    · rw [e, Array.getElem?_push, if_neg (by omega)]; exact hg
    · rw [e, Array.getElem?_push, if_neg (by omega)]; exact hv
  have hcA : ∀ W : World, W.heap = (w.drew.alloc (.cells (P ++ Z).toArray 49)).heap → ∀ ty dc, (Builtin.copy_ #[34, 34] ty #[.slice (some ⟨w.heap.size, i * 3, none⟩) (n + 1 - i) dc, .slice (some ⟨vb, vo, none⟩) 1 vc]).run Tryz.prog W = .ok (goInt 1) (W.setRow N (P ++ bv ++ Z.drop 3).toArray) := fun W hW ty dc => by
    obtain ⟨k1, k2, k3⟩ := hWg W hW
    rw [← hN]
    have hmin : Nat.min 1 (n + 1 - i) = 1 := Nat.min_eq_left (by omega)
    have := run_copy_rowk 3 W 34 34 ty 49 N (i * 3) (n + 1 - i) dc ⟨vb, vo, none⟩ 1 vc (P ++ Z).toArray 49 bv u34 z49 k1 (by rw [hmin, hb])
      (fun j v hj => by
        rw [Addr.add_lit]
        simp only [World.cell?, k3]
        exact hvs j v hj)
      (by simp only [List.size_toArray, List.length_append]; omega) h1b
    rw [hmin, List.toList_toArray, ← hP, List.take_left, ← List.drop_drop, List.drop_left, hb] at this
    rw [hP] at this
    exact this
  have hcB : ∀ W : World, W.heap[N]? = some (.cells (P ++ bv ++ Z.drop 3).toArray 49 (0, 0)) → W.heap[g]? = some (.cells arr 49 (0, 0)) → ∀ ty dc sc, (Builtin.copy_ #[34, 34] ty #[.slice (some ⟨w.heap.size, (i + 1) * 3, none⟩) (n - i) dc, .slice (some ⟨g, i * 3, none⟩) (n - i) sc]).run Tryz.prog W = .ok (goInt ((n - i : Nat) : Int)) (W.setRow N (P ++ bv ++ Q ++ (Z.drop 3).drop Q.length).toArray) := fun W k1 k2 ty dc sc => by
    rw [← hN]
    have hmin : Nat.min (n - i) (n - i) = n - i := Nat.min_self _
    have hpb : (P ++ bv).length = (i + 1) * 3 := by rw [List.length_append]; omega
    have := run_copy_rowk 3 W 34 34 ty 49 N ((i + 1) * 3) (n - i) dc ⟨g, i * 3, none⟩ (n - i) sc (P ++ bv ++ Z.drop 3).toArray 49 Q u34 z49 k1 (by rw [hmin, hQ])
      (fun j v hj => by
        rw [Addr.add_lit]
        simp only [World.cell?, k2]
        have := hgc (i * 3 + j) v (by rw [List.getElem?_append_right (by omega), hP, Nat.add_sub_cancel_left]; exact hj)
        exact this)
      (by simp only [List.size_toArray, List.length_append, List.length_drop]; omega) h1Q
    rw [hmin, List.toList_toArray, ← hpb, List.take_left, ← List.drop_drop, List.drop_left] at this
    rw [hpb] at this
    exact this
  have hs1 : ∀ W : World, W.heap = (w.drew.alloc (.cells (P ++ Z).toArray 49)).heap → (W.setRow N (P ++ bv ++ Z.drop 3).toArray).heap[N]? = some (.cells (P ++ bv ++ Z.drop 3).toArray 49 (0, 0)) ∧ (W.setRow N (P ++ bv ++ Z.drop 3).toArray).heap[g]? = some (.cells arr 49 (0, 0)) := fun W hW => by
    obtain ⟨k1, k2, k3⟩ := hWg W hW
    exact ⟨setRow_heap W N _ _ 49 (0, 0) k1, by rw [setRow_other _ _ _ _ hgN]; exact k2⟩
  have hw1 : IntKind.i64.wrap ((i : Int) + 1) = (i : Int) + 1 := by rw [IntKind.wrap_i64]; omega
  have hb1 : (0 : Int) ≤ (i : Int) + 1 := by omega
  have hin : i ≤ n := by omega
  have htn : ((i : Int) + 1).toNat = i + 1 := by omega
  have hG63 : G ≤ 9223372036854775807 := by have := hGm; unfold maxLen at this; omega
  have hGi : ¬ (G = i) := by omega
  have hGim : ¬ (G = i + 1) := by omega
  have hci : ¬ (c = i) := by omega
  have hb3 : (i : Int) ≤ (n : Int) := by omega
  obtain ⟨B1, hB1⟩ : ∃ B1, B1 = (P ++ bv ++ Z.drop 3).toArray := ⟨_, rfl⟩
  obtain ⟨B2, hB2⟩ : ∃ B2, B2 = (P ++ bv ++ Q ++ (Z.drop 3).drop Q.length).toArray := ⟨_, rfl⟩
  rw [← hB1] at hcA hcB hs1
  rw [← hB2] at hcB
  have K2 := Lib.hid hB2; clear hB2
  clear hB1
  have HA := Lib.hid hcA; clear hcA
  have HB := Lib.hid hcB; clear hcB
  have HS := Lib.hid hs1; clear hs1
  have HZ := Lib.hid hrz; clear hrz
  have J1 := Lib.hid hg; clear hg
  have J2 := Lib.hid hv; clear hv
  have J3 := Lib.hid hvs; clear hvs
  have J4 := Lib.hid hgc; clear hgc
  have J5 := Lib.hid hWg; clear hWg
  have J6 := Lib.hid hP; clear hP
  have J7 := Lib.hid hQ; clear hQ
  have J8 := Lib.hid hb; clear hb
  have J9 := Lib.hid hZl; clear hZl
  have K1 := Lib.hid hN; clear hN
  clear hZ
  have K3 := Lib.hid hG; clear hG
  clear hik
  have K5 := Lib.hid hi0; clear hi0
  have K6 := Lib.hid hz0; clear hz0
  clear hzs hzb
  have HT1 : Hid ((((w.alloc (.cells (P ++ Z).toArray 49)).drew.setRow N B1).drew).heap[N]? = some (.cells B1 49 (0, 0))) := Lib.hid (HS.out (w.drew.alloc (.cells (P ++ Z).toArray 49)) rfl).1
  have HT2 : Hid ((((w.alloc (.cells (P ++ Z).toArray 49)).drew.setRow N B1).drew).heap[g]? = some (.cells arr 49 (0, 0))) := Lib.hid (HS.out (w.drew.alloc (.cells (P ++ Z).toArray 49)) rfl).2
  go_enter Tryz.func48, Tryz.ntmps48
  go_wp2_with (first
    | (at_builtin; refine Lib.wpList_append_run _ rfl _ _ _ _ rfl _ _ rfl rfl _ _ (HZ.out _) ?_)
    | (refine wpList_copy_runI _ rfl _ _ 34 34 rfl _ _ rfl rfl (HA.out _ rfl _ _) ?_))
  go_region_law (refine step_copy_runI rfl _ _ 34 34 rfl (.slice (some ⟨w.heap.size, (i + 1) * 3, none⟩) (n - i) (G - (i + 1))) (.slice (some ⟨g, i * 3, none⟩) (n - i) (c - i)) (by simp [Act.eval, Act.put]) (by simp [Act.eval, Act.put]) (HB.out (((w.alloc (.cells (P ++ Z).toArray 49)).drew.setRow N B1).drew) HT1.out HT2.out _ _ _) ?_)
  go_wp2
  go_ret
  have hQ3 := J7.out
  have hZ3 := J9.out
  refine ⟨G, (Z.drop 3).drop Q.length, rfl, hGn, hGm, ?_, ?_, rfl, rfl, rfl⟩
  · simp only [List.length_drop]; omega
  · rw [← K2.out, K1.out]
    exact push_setRow _ w _ _ _ _ (push_setRow _ w _ _ _ _ rfl)
end Go.Qt
