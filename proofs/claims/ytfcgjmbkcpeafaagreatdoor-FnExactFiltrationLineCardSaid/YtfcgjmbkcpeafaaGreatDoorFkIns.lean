/- PROVED: for every input the law FnExactFiltrationLine returns true and each argument reads afterwards as it read before (the statement 'FnExactFiltrationLineCardSaid' of the given Rows).
Conditions: none beyond those which the given statement itself names. This text is one part of the proof. -/
import Derived.Test.YtfcgjmbkcpeafaaGreatDoorFjImpl
import Derived.Lib.Overlaps
import Derived.Lib.AppendZerosOnto
import Derived.Laws.CopyRow
import Derived.Laws.Externs
import Derived.WalkKit
import Derived.Lib.Walk
import Derived.Lib.SliceRun
import Derived.Deep.RegionLaw
import Derived.Lib.Hide
import Derived.Shelf.Spec.SlicesInsert

namespace Go.Qt
open Go Go.Qv Go.Proofs Go.RowKit Go.Lib
set_option linter.unusedVariables false
set_option linter.unusedSimpArgs false

/-- copy, rows of elements of k cells. -/
theorem run_copy_rowk {P : Program} (k : Nat) (w : World) (dT sT ty elem : TypeId) (g o dLen dCap : Nat) (a : Addr) (sLen sCap : Nat) (cur : Array Value) (t : TypeId) (cs : List Value)
    (hu : P.underlying dT = some (.slice elem)) (hs : (P.info? elem).map (·.size) = some k)
    (hg : w.heap[g]? = some (.cells cur t (0, 0))) (hn : cs.length = Nat.min sLen dLen * k)
    (hsrc : ∀ j v, cs[j]? = some v → w.cell? (a.add j) = some v) (hfit : o + cs.length ≤ cur.size) (h1 : ∀ v ∈ cs, v.oneCell' = true) :
    (Builtin.copy_ #[dT, sT] ty #[.slice (some ⟨g, o, none⟩) dLen dCap, .slice (some a) sLen sCap]).run P w =
      .ok (goInt (Nat.min sLen dLen)) (w.setRow g (cur.toList.take o ++ cs ++ cur.toList.drop (o + cs.length)).toArray) := by
  have hl := run_loadCells_list (P := P) w a cs hsrc
  have hst := run_storeCells_at P g o t cs 0 cur w hg (by simpa using hfit) h1
  cases hq : P.info? elem with
  | none => simp [hq] at hs
  | some i =>
    have hi : i.size = k := by simpa [hq] using hs
    simp [Builtin.copy_, run_underlying hu, Builtin.lenOf, Builtin.firstCells, sizeOf, typeInfo, hq, hi, ← hn, hl, hst]

/-- overlaps, where the second lies in a block that is no string's. -/
theorem run_overlaps_row {P : Program} (w : World) (tS tR e : TypeId) (ht : P.underlying tS = some (.slice e)) (size : Nat) (hz : ∀ w, (Go.sizeOf e).run P w = .ok size w)
    (a b : Addr) (la ca lb cb : Nat) (hne : a.block ≠ b.block) (arrA arrB : Array Value) (eA eB : TypeId) (frA : Nat × Nat)
    (hA : w.heap[a.block]? = some (.cells arrA eA frA)) (hB : w.heap[b.block]? = some (.cells arrB eB (0, 0))) (hkA : arrA.size ≠ 0) (hk : arrB.size ≠ 0) :
    (Extern.SlicesOverlaps.overlaps #[tS, tS] #[tR] #[.slice (some a) la ca, .slice (some b) lb cb]).run P w = .ok (.bool false) w := by
  have hnb : (a.block != b.block) = true := by simpa using hne
  have hnb' : (a.block == b.block) = false := by simpa using hne
  have hsa : w.shape? a.block = some (eA, arrA.size) := by simp [World.shape?, hA]
  have hsb : w.shape? b.block = some (eB, arrB.size) := by simp [World.shape?, hB]
  have hfb : ∀ o s, w.frozen? ⟨b.block, o, s⟩ = false := fun o s => by simp [World.frozen?, hB]
  have hfb' : w.frozen? b = false := by simp [World.frozen?, hB]
  change Sem.run P (α := Value) (do
    let some t := (#[tS, tS] : Array TypeId)[0]? | stuck "slices.overlaps: no parameter types"
    let .slice elem ← underlying t | stuck "slices.overlaps: slice type expected"
    let size ← sizeOf elem
    match (some a : Option Addr), (some b : Option Addr) with
    | some a, some b =>
      if la = 0 ∨ lb = 0 ∨ size = 0 then pure (Value.bool false)
      else if a.block != b.block && (← frozen a) && (← frozen b) then unsupported .addressObserved
      else do
        if a.block != b.block then do
          noView a; noView b
          if ← mayBeOne a b then return Value.bool ((← choose (.extern "sameAddr.stringBytes" 2)) == 1)
        pure (Value.bool (a.block == b.block && a.off < b.off + lb * size && b.off < a.off + la * size))
    | _, _ => pure (Value.bool false)) w = _
  by_cases h0 : la = 0 ∨ lb = 0 ∨ size = 0
  · simp [run_underlying ht, hz, h0]
  · obtain ⟨kB, hkB⟩ : ∃ k, arrB.size = k + 1 := ⟨arrB.size - 1, by omega⟩
    obtain ⟨kA, hkA2⟩ : ∃ k, arrA.size = k + 1 := ⟨arrA.size - 1, by omega⟩
    rw [hkB] at hsb
    rw [hkA2] at hsa
    cases hfa : w.frozen? a <;> cases hfe : w.frozen? ⟨a.block, kA + 1, none⟩ <;>
      simp [run_underlying ht, hz, h0, hnb, hnb', frozen, noView, viewAt, mayBeOne, stringish, shape, Sem.run, hsa, hsb, hfa, hfe, hfb, hfb']

theorem u34 : Tryz.prog.underlying 34 = some (.slice 49) := by kernel_rfl
theorem u3 : Tryz.prog.underlying 3 = some (.int .i64) := by kernel_rfl
theorem z49 : (Tryz.prog.info? 49).map (·.size) = some 3 := by kernel_rfl
theorem so49 (w : World) : (Go.sizeOf 49).run Tryz.prog w = .ok 3 w := by
  have h := z49
  cases hq : Tryz.prog.info? 49 with
  | none => simp [hq] at h
  | some i =>
    have : i.size = 3 := by simpa [hq] using h
    simp [sizeOf, typeInfo, hq, this]

theorem ov64 (w : World) (a b : Addr) (la ca lb cb : Nat) (hne : a.block ≠ b.block) (arrA arrB : Array Value) (eA eB : TypeId) (frA : Nat × Nat)
    (hA : w.heap[a.block]? = some (.cells arrA eA frA)) (hB : w.heap[b.block]? = some (.cells arrB eB (0, 0))) (hkA : arrA.size ≠ 0) (hk : arrB.size ≠ 0) :
    (callFunc 64 #[.slice (some a) la ca, .slice (some b) lb cb]).run Tryz.prog w = .ok (.value (.bool false)) w := by
  rw [run_callFunc_extern Tryz.func64 (by kernel_rfl) (by kernel_rfl) (by kernel_rfl) (e := Extern.SlicesOverlaps.overlaps #[34, 34] #[4]) (by kernel_rfl),
    run_overlaps_row w 34 4 49 u34 3 so49 a b la ca lb cb hne arrA arrB eA eB frA hA hB hkA hk]
  rfl
set_option maxHeartbeats 4000000 in
set_option maxRecDepth 100000 in
theorem ins_room (g c n i vb vo vc : Nat) (P Q R bv : List Value) (arrV : Array Value) (eV : TypeId) (frV : Nat × Nat) (w : World) (hi : i < n) (hroom : n + 1 ≤ c) (hc63 : c ≤ 9223372036854775807) (hvb : vb ≠ g)
    (hP : P.length = i * 3) (hQ : Q.length = (n - i) * 3) (hR : R.length = (c - n) * 3) (hb : bv.length = 3)
    (hg : w.heap[g]? = some (.cells (P ++ Q ++ R).toArray 49 (0, 0))) (hv : w.heap[vb]? = some (.cells arrV eV frV))
    (hvs : ∀ j v, bv[j]? = some v → arrV[vo + j]? = some v) (h1Q : ∀ v ∈ Q, v.oneCell' = true) (h1b : ∀ v ∈ bv, v.oneCell' = true) :
    Calls Tryz.prog 48 #[.slice (some ⟨g, 0, none⟩) n c, .int .i64 i, .slice (some ⟨vb, vo, none⟩) 1 vc] w fun e w' =>
      e = .returned (.slice (some ⟨g, 0, none⟩) (n + 1) c) ∧ w' = w.drew.setRow g (P ++ bv ++ Q ++ R.drop 3).toArray := by
  have hz2 : ¬ ((i : Int) = (n : Int)) := by omega
  have hav : arrV.size ≠ 0 := by
    intro h0
    have := hvs 0 bv[0] (List.getElem?_eq_getElem (by omega))
    rw [Array.getElem?_eq_none (by omega)] at this
    cases this
  have hov : ∀ o lb cb, (callFunc 64 #[.slice (some ⟨vb, vo, none⟩) 1 vc, .slice (some ⟨g, o, none⟩) lb cb]).run Tryz.prog w = .ok (.value (.bool false)) w := fun o lb cb =>
    ov64 w _ _ 1 vc lb cb hvb arrV _ eV 49 frV hv hg hav (by simp only [List.size_toArray, List.length_append]; omega)
  have hw1 : IntKind.i64.wrap ((i : Int) + 1) = (i : Int) + 1 := by rw [IntKind.wrap_i64]; omega
  have hb1 : (0 : Int) ≤ (i : Int) + 1 := by omega
  have hin : i ≤ n := by omega
  have htn : ((i : Int) + 1).toNat = i + 1 := by omega
  have hb2 : ¬ (c = i + 1) := by omega
  have hb3 : (i : Int) ≤ (n : Int) + 1 := by omega
  have hb4 : ¬ (c = i) := by omega
  obtain ⟨A1, hA1⟩ : ∃ A1, A1 = ((P ++ Q ++ R).take ((i + 1) * 3) ++ Q ++ (P ++ Q ++ R).drop ((i + 1) * 3 + Q.length)).toArray := ⟨_, rfl⟩
  have hA1' : A1 = ((P ++ Q).take ((i + 1) * 3) ++ Q ++ R.drop 3).toArray := by
    rw [hA1]
    congr 2
    · congr 1
      rw [List.take_append_of_le_length (by simp only [List.length_append]; omega)]
    · have : (i + 1) * 3 + Q.length = (P ++ Q).length + 3 := by rw [List.length_append]; omega
      rw [this, ← List.drop_drop, List.drop_left]
  have hgd : w.drew.heap[g]? = some (.cells (P ++ Q ++ R).toArray 49 (0, 0)) := hg
  have hcp1 : ∀ ty dc sc, (Builtin.copy_ #[34, 34] ty #[.slice (some ⟨g, (i + 1) * 3, none⟩) (n - i) dc, .slice (some ⟨g, i * 3, none⟩) (n + 1 - i) sc]).run Tryz.prog w.drew = .ok (goInt ((n - i : Nat) : Int)) (w.drew.setRow g A1) := fun ty dc sc => by
    have hmin : Nat.min (n + 1 - i) (n - i) = n - i := by simp only [Nat.min_def]; split <;> omega
    have := run_copy_rowk 3 w.drew 34 34 ty 49 g ((i + 1) * 3) (n - i) dc ⟨g, i * 3, none⟩ (n + 1 - i) sc (P ++ Q ++ R).toArray 49 Q u34 z49 hgd (by rw [hmin, hQ])
      (fun j v hj => by
        rw [Addr.add_lit]
        have hjl : j < Q.length := (List.getElem?_eq_some_iff.1 hj).1
        simp only [World.cell?, hgd]
        show (P ++ Q ++ R).toArray[i * 3 + j]? = some v
        rw [List.getElem?_toArray, List.append_assoc, List.getElem?_append_right (by omega), hP, Nat.add_sub_cancel_left, List.getElem?_append_left hjl]; exact hj)
      (by simp only [List.size_toArray, List.length_append]; omega) h1Q
    rw [hmin, List.toList_toArray, ← hA1] at this
    exact this
  have hA1l : A1.toList.length = c * 3 := by
    rw [hA1', List.toList_toArray]; simp only [List.length_append, List.length_take, List.length_drop]; omega
  have hrow1 : (w.drew.setRow g A1).heap[g]? = some (.cells A1 49 (0, 0)) := setRow_heap w.drew g _ A1 49 (0, 0) hgd
  have hcp2 : ∀ (W : World), W.heap[g]? = some (.cells A1 49 (0, 0)) → W.heap[vb]? = some (.cells arrV eV frV) → ∀ ty dc, (Builtin.copy_ #[34, 34] ty #[.slice (some ⟨g, i * 3, none⟩) (n + 1 - i) dc, .slice (some ⟨vb, vo, none⟩) 1 vc]).run Tryz.prog W = .ok (goInt 1) (W.setRow g (P ++ bv ++ Q ++ R.drop 3).toArray) := fun W hW hWv ty dc => by
    have hmin : Nat.min 1 (n + 1 - i) = 1 := Nat.min_eq_left (by omega)
    have := run_copy_rowk 3 W 34 34 ty 49 g (i * 3) (n + 1 - i) dc ⟨vb, vo, none⟩ 1 vc A1 49 bv u34 z49 hW (by rw [hmin, hb])
      (fun j v hj => by
        rw [Addr.add_lit]
        simp only [World.cell?, hWv]
        exact hvs j v hj)
      (by rw [← Array.length_toList, hA1l]; omega) h1b
    rw [hmin, hA1', List.toList_toArray] at this
    have e1 : ((P ++ Q).take ((i + 1) * 3) ++ Q ++ R.drop 3).take (i * 3) = P := by
      rw [List.append_assoc, List.take_append_of_le_length (by simp only [List.length_take, List.length_append]; omega), List.take_take, List.take_append_of_le_length (by omega)]
      rw [show min (i * 3) ((i + 1) * 3) = i * 3 by omega, ← hP, List.take_length]
    have e2 : ((P ++ Q).take ((i + 1) * 3) ++ Q ++ R.drop 3).drop (i * 3 + bv.length) = Q ++ R.drop 3 := by
      have e3 : i * 3 + bv.length = ((P ++ Q).take ((i + 1) * 3)).length := by simp only [List.length_take, List.length_append]; omega
      rw [e3, List.append_assoc, List.drop_left]
    rw [e1, e2] at this
    rw [this, List.append_assoc, List.append_assoc, List.append_assoc]
    rfl
  have hrow1v : (w.drew.setRow g A1).heap[vb]? = some (.cells arrV eV frV) := by rw [setRow_other _ _ _ _ hvb]; exact hv
  have hcp3 := hcp2 _ hrow1 hrow1v
  rw [setRow_setRow] at hcp3
  clear hcp2 hA1' hA1 hA1l
  have HC1 := Lib.hid hcp1; clear hcp1
  have HC3 := Lib.hid hcp3; clear hcp3
  clear hrow1 hrow1v hgd
  have HG := Lib.hid hg; clear hg
  have HV := Lib.hid hv; clear hv
  have HS := Lib.hid hvs; clear hvs
  have H1 := Lib.hid hP; clear hP
  have H2 := Lib.hid hQ; clear hQ
  have H3 := Lib.hid hR; clear hR
  have H4 := Lib.hid hb; clear hb
  go_enter Tryz.func48, Tryz.ntmps48
  go_wp2_with (simp only [hov])
  go_region_law (refine step_copy_runI rfl _ _ 34 34 rfl (.slice (some ⟨g, (i + 1) * 3, none⟩) (n - i) (c - (i + 1))) (.slice (some ⟨g, i * 3, none⟩) (n + 1 - i) (c - i)) (by simp [Act.eval, Act.put]) (by simp [Act.eval, Act.put]) (HC1.out _ _ _) ?_)
  have hc3 := HC3.out
  go_wp2
  go_ret
  exact ⟨rfl, by simp only [List.append_assoc]⟩

theorem i49 : (Tryz.prog.info? 49).map (fun i => (i.zero, i.size, i.bytes)) = some (some (.agg #[.int .i64 0, .int .i64 0, .int .i64 0]), 3, 24) := by kernel_rfl
theorem run_firstCells_rowk {P : Program} (k : Nat) (w : World) (a : Addr) (n c sz : Nat) (cs : List Value) (hl : cs.length = n * k) (h : ∀ j v, cs[j]? = some v → w.cell? (a.add j) = some v) :
    (Builtin.firstCells k n (.slice (some a) sz c)).run P w = .ok cs.toArray w := by
  have hl2 := run_loadCells_list (P := P) w a cs h
  simp [Builtin.firstCells, ← hl, hl2]
end Go.Qt
