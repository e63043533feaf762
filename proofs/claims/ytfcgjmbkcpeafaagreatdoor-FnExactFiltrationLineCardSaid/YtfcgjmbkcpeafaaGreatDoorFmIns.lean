/- PROVED: for every input the law FnExactFiltrationLine returns true and each argument reads afterwards as it read before (the statement 'FnExactFiltrationLineCardSaid' of the given Rows).
Conditions: none beyond those which the given statement itself names. This text is one part of the proof. -/
import Derived.Test.YtfcgjmbkcpeafaaGreatDoorFlIns

namespace Go.Qt
open Go Go.Qv Go.Proofs
noncomputable def body48 : Code := match Tryz.f48.body with | some b => b | none => .skip
set_option maxHeartbeats 4000000
set_option linter.unusedVariables false
def insB (L : List Bar) (k : Nat) (b : Bar) : List Bar := L.take k ++ [b] ++ L.drop k
theorem barsD_cons (x : Bar) (r : List Bar) : barsD (x :: r) = barD x ++ barsD r := by simp [barsD]
theorem barsD_one (x : Bar) : barsD [x] = barD x := by simp [barsD]

/-- At the end. -/
theorem aio48e (L : List Bar) (b : Bar) (hn : L.length ≤ 1048576) : AIO Tryz.prog 48 false [.ow 0 L.length, .int .i64 (L.length : Int), .rs true true (barD b) 1] 49 (barsD L) (.ow 0 (L.length + 1)) true (barsD (insB L L.length b)) := by
  refine AIO_of_awp (E := env 95 [] [] 0) (env_ok _ _ _ _) mixed Tryz.call48 Tryz.func48 (code := body48) rfl rfl (by kernel_rfl) (Nat.le_of_ble_eq_true rfl) (fun h => by cases h) fun hl hlc => ?_
  clear hl hlc
  conv => whnf
  repeat (first
    | (refine ⟨_, ints_m rfl (by first | omega | (dsimp only; omega)), ?_⟩; conv => whnf)
    | (refine ⟨_, ints_p rfl (by first | omega | (dsimp only; omega)), ?_⟩; conv => whnf)
    | (refine ⟨_, rows_m rfl (by first | omega | (dsimp only; omega)), ?_⟩; conv => whnf)
    | (refine ⟨(D.int .i64 _ : D), rfl, ?_⟩; conv => whnf)
    | (refine ⟨(_ : Nat), rfl, (show (_ : Nat) < _ by first | omega | (dsimp only; omega)), ?_⟩; conv => whnf)
    | (refine ⟨(_ : Nat), rfl, (show (_ : Nat) ≤ _ by first | omega | (dsimp only; omega)), ?_⟩; conv => whnf)
    | (refine ⟨(_ : Nat), wrap_pred (by omega), (show (_ : Nat) < _ by first | omega | (dsimp only; omega)), ?_⟩; conv => whnf)
    | (refine ⟨(0 : Nat), rfl, Nat.le_of_ble_eq_true rfl, ?_⟩; conv => whnf)
    | (refine ⟨(1 : Nat), rfl, Nat.le_of_ble_eq_true rfl, ?_⟩; conv => whnf)
    | (refine ⟨(2 : Nat), rfl, Nat.le_of_ble_eq_true rfl, ?_⟩; conv => whnf))
  refine Bc_intro (fun h => ?_) (fun h => ?_)
  · conv => whnf
    refine ⟨true, .inl rfl, .inl rfl, rfl, sizeLim_of (by show (L.length + 1) * 24 ≤ _; omega), intLim_of' (by omega), ?_⟩
    conv => whnf
    refine ⟨rfl, rfl, ?_⟩
    show some (Blk.row 49 true (barsD L ++ barD b)) = _
    rw [insB, List.take_length, List.drop_length, List.append_nil, barsD_append, barsD_one]
  · have : ((L.length : Int) == (L.length : Int)) = false := h
    simp at this

def dv : D → Value
  | .int k n => .int k n
  | _ => undef
def AllI (cs : List D) : Prop := ∀ x ∈ cs, ∃ z, x = D.int .i64 z
theorem barD_allI (b : Bar) : AllI (barD b) := fun x hx => by
  simp only [barD, List.mem_cons, List.not_mem_nil, or_false] at hx
  rcases hx with rfl | rfl | rfl <;> exact ⟨_, rfl⟩
theorem bars_allI (L : List Bar) : AllI (barsD L) := fun x hx => by
  simp only [barsD, List.mem_flatMap] at hx
  obtain ⟨b, _, hb⟩ := hx
  exact barD_allI b x hb
theorem RD_dv {S : Nat → Prop} {w : World} {d : Nat} {x : D} {u : Value} (hx : ∃ z, x = D.int .i64 z) : RD S w d x u ↔ u = dv x := by
  obtain ⟨z, rfl⟩ := hx
  cases d <;> exact Iff.rfl
theorem dv_one {cs : List D} (h : AllI cs) : ∀ v ∈ cs.map dv, v.oneCell' = true := fun v hv => by
  obtain ⟨x, hx, rfl⟩ := List.mem_map.1 hv
  obtain ⟨z, rfl⟩ := h x hx
  rfl
theorem toList_dv {S : Nat → Prop} {w : World} {d : Nat} {arr : Array Value} {cs : List D} (hI : AllI cs) (hl : cs.length ≤ arr.size) (h : ∀ (i : Nat) (x : D), cs[i]? = some x → ∃ u, arr[i]? = some u ∧ RD S w d x u) : arr.toList.take cs.length = cs.map dv := by
  apply List.ext_getElem?
  intro i
  rw [List.getElem?_take]
  by_cases hi : i < cs.length
  · rw [if_pos hi]
    obtain ⟨u, hu, hr⟩ := h i cs[i] (List.getElem?_eq_getElem hi)
    rw [RD_dv (hI _ (List.getElem_mem hi))] at hr
    rw [Array.getElem?_toList, hu, hr]
    simp [hi]
  · rw [if_neg hi, List.getElem?_eq_none (by rw [List.length_map]; omega)]

theorem bars_take (L : List Bar) (k : Nat) : barsD (L.take k) = (barsD L).take (k * 3) := by
  induction L generalizing k with
  | nil => simp [barsD]
  | cons x r ih =>
    cases k with
    | zero => simp [barsD]
    | succ k =>
      rw [List.take_succ_cons, barsD_cons, barsD_cons, ih]
      have : (k + 1) * 3 = (barD x).length + k * 3 := by simp [barD]; omega
      rw [this, List.take_length_add_append]
theorem bars_drop (L : List Bar) (k : Nat) : barsD (L.drop k) = (barsD L).drop (k * 3) := by
  induction L generalizing k with
  | nil => simp [barsD]
  | cons x r ih =>
    cases k with
    | zero => simp
    | succ k =>
      rw [List.drop_succ_cons, barsD_cons, ih]
      have : (k + 1) * 3 = (barD x).length + k * 3 := by simp [barD]; omega
      rw [this, ← List.drop_drop, List.drop_left]
theorem insB_len (L : List Bar) (k : Nat) (b : Bar) (h : k ≤ L.length) : (insB L k b).length = L.length + 1 := by simp [insB]; omega
theorem insB_D (L : List Bar) (k : Nat) (b : Bar) : (barsD (insB L k b)).map dv = ((barsD L).map dv).take (k * 3) ++ (barD b).map dv ++ ((barsD L).map dv).drop (k * 3) := by
  rw [insB, barsD_append, barsD_append, barsD_one, bars_take, bars_drop, List.map_append, List.map_append, List.map_take, List.map_drop]
/-- What the row holds behind an insertion. -/
theorem row_dv {S : Nat → Prop} {w : World} {d : Nat} {cs : List D} {tl : List Value} (hI : AllI cs) : ∀ (i : Nat) (x : D), cs[i]? = some x → ∃ u, (cs.map dv ++ tl).toArray[i]? = some u ∧ RD S w d x u := fun i x hx => by
  have hi : i < cs.length := (List.getElem?_eq_some_iff.1 hx).1
  refine ⟨dv x, ?_, (RD_dv (hI x (List.mem_of_getElem? hx))).2 rfl⟩
  rw [List.getElem?_toArray, List.getElem?_append_left (by simpa using hi), List.getElem?_map, hx]; rfl

theorem c49 : Tryz.prog.cellsOf 49 = 3 := by kernel_rfl
theorem aio48i (L : List Bar) (k : Nat) (b : Bar) (hk : k < L.length) (hn : L.length ≤ 1048576) : AIO Tryz.prog 48 false [.ow 0 L.length, .int .i64 (k : Int), .rs true true (barD b) 1] 49 (barsD L) (.ow 0 (L.length + 1)) true (barsD (insB L k b)) := by
  refine ⟨Tryz.call48, fun w S0 d vs r0 hS0 hg0 hbr hargs => ?_⟩
  obtain ⟨hsz, hcl, hrow⟩ := hbr
  rw [c49] at hsz
  have hbl := barsD_len L
  rcases hrow with ⟨_, h0⟩ | ⟨hv, arr, hg, hasz, hle, hall⟩
  · have h0 : barsD L = [] := h0
    rw [h0] at hbl
    simp at hbl
    omega
  match vs, hargs with
  | [v0, v1, v2], ⟨a0, a1, a2, _⟩ =>
  obtain ⟨r, hr, hrn, hro⟩ : ∃ r, One r0 0 = some r ∧ r.n = L.length ∧ RO r L.length v0 := by cases d <;> exact a0
  have hr : r = r0 := by cases hr; rfl
  subst hr
  have a1 : v1 = .int .i64 (k : Int) := by cases d <;> exact a1
  subst a1
  rcases hro with ⟨hv', _⟩ | ⟨_, cap, rfl, hcap, hnc, hcm⟩
  · rw [hv] at hv'; cases hv'
  obtain ⟨dd, hrd⟩ : ∃ dd, RD (Sm S0 (fun _ => False) true) w (dd + 1) (.sl (barD b) 1) v2 := by
    cases d with
    | zero => exact a2.1.elim
    | succ d => exact ⟨d, a2.1⟩
  obtain ⟨va, vc, rfl, _, _, hvc⟩ := hrd
  rcases hvc with ⟨h0, _⟩ | ⟨_, vb, vo, rfl, hS, arrV, eV, frV, hgv, hvall⟩
  · cases h0
  have hne : vb ≠ r.g := by
    rcases hS with ⟨_, hS⟩ | hS
    · exact (hS0 vb hS).2 hv
    · exact hS.elim
  have hasz3 : arr.size = cap * 3 := by rw [hasz, ← hcap, hsz]
  have hvals := toList_dv (bars_allI L) hle hall
  have hvs : ∀ (j : Nat) (v : Value), ((barD b).map dv)[j]? = some v → arrV[vo + j]? = some v := fun j v hj => by
    rw [List.getElem?_map] at hj
    cases hx : (barD b)[j]? with
    | none => rw [hx] at hj; cases hj
    | some x =>
      rw [hx] at hj
      obtain ⟨u, hu, hr⟩ := hvall j x hx
      rw [RD_dv (barD_allI b x (List.mem_of_getElem? hx))] at hr
      rw [hu, hr]; exact hj
  have hvl : ((barsD L).map dv).length = L.length * 3 := by rw [List.length_map, hbl]
  have hP : (((barsD L).map dv).take (k * 3)).length = k * 3 := by rw [List.length_take, hvl]; omega
  have hQ : (((barsD L).map dv).drop (k * 3)).length = (L.length - k) * 3 := by rw [List.length_drop, hvl]; omega
  have hR : (arr.toList.drop (L.length * 3)).length = (cap - L.length) * 3 := by rw [List.length_drop, Array.length_toList, hasz3]; omega
  have hb3 : ((barD b).map dv).length = 3 := rfl
  have hsplit : arr = (((barsD L).map dv).take (k * 3) ++ ((barsD L).map dv).drop (k * 3) ++ arr.toList.drop (L.length * 3)).toArray := by
    apply Array.toList_inj.1
    rw [List.toList_toArray, List.take_append_drop, ← hvals, hbl, List.take_append_drop]
  have h1Q : ∀ v ∈ ((barsD L).map dv).drop (k * 3), v.oneCell' = true := fun v hv => dv_one (bars_allI L) v (List.mem_of_mem_drop hv)
  have h1b := dv_one (barD_allI b)
  have hnew : ∀ tl : List Value, ((barsD L).map dv).take (k * 3) ++ (barD b).map dv ++ ((barsD L).map dv).drop (k * 3) ++ tl = (barsD (insB L k b)).map dv ++ tl := fun tl => by rw [insB_D]
  have hnl := barsD_len (insB L k b)
  rw [insB_len L k b (by omega)] at hnl
  by_cases hroom : L.length + 1 ≤ cap
  · have hc63 : cap ≤ 9223372036854775807 := by unfold maxLen at hcm; omega
    rw [hsplit] at hg
    refine (ins_room r.g cap L.length k vb vo vc _ _ _ _ arrV eV frV w hk hroom hc63 hne hP hQ hR hb3 hg hgv hvs h1Q h1b).mono ?_
    rintro e w' ⟨rfl, rfl⟩
    rw [hnew]
    refine ⟨_, rfl, ⟨rfl, rfl, rfl, by simp, fun q hq => setRow_other _ _ _ _ fun e => hq (.inr ⟨hv, e⟩)⟩, d, fun _ => False, { r with n := L.length + 1 }, (fun h => by cases h), fun _ => .inl ⟨hv, rfl⟩, fun _ h => h.elim, ⟨by rw [c49]; exact hsz, by show _ = (L.length + 1) * r.sz; rw [hnl, hsz], .inr ⟨hv, _, setRow_heap w.drew r.g _ _ 49 (0, 0) hg, ?_, ?_, row_dv (bars_allI _)⟩⟩, ?_⟩
    · show _ = r.asz
      rw [← hasz, hasz3]
      simp only [List.size_toArray, List.length_append, List.length_map, hnl, List.length_drop, Array.length_toList, hasz3]
      omega
    · simp only [List.size_toArray, List.length_append, List.length_map]; omega
    · have : RO { r with n := L.length + 1 } (L.length + 1) (.slice (some ⟨r.g, 0, none⟩) (L.length + 1) cap) := .inr ⟨hv, cap, rfl, hcap, hroom, hcm⟩
      cases d <;> exact ⟨_, rfl, rfl, this⟩
  · refine (ins_grow r.g cap L.length k vb vo vc _ _ arr _ arrV eV frV w hk hnc (by omega) (by omega) hP hQ hb3 hg (fun j v hj => ?_) hgv hvs h1Q h1b).mono ?_
    · rw [List.take_append_drop] at hj
      rw [← Array.getElem?_toList, hsplit, List.toList_toArray, List.take_append_drop, List.getElem?_append_left (List.getElem?_eq_some_iff.1 hj).1]; exact hj
    rintro e w' ⟨G, tl, rfl, hG1, hG2, htl, hheap, hos, htape, hout⟩
    rw [hnew] at hheap
    refine ⟨_, rfl, ⟨hos, htape, hout, by rw [hheap]; simp, fun q hq => ?_⟩, d, fun _ => False, ⟨w.heap.size, G * 3, 3, L.length + 1, false⟩, (fun h => by cases h), fun _ => .inr ⟨Nat.le_refl _, by show w.heap.size < _; rw [hheap]; simp⟩, fun _ h => h.elim, ⟨c49.symm, hnl, .inr ⟨rfl, ((barsD (insB L k b)).map dv ++ tl).toArray, ?_, ?_, ?_, row_dv (bars_allI _)⟩⟩, ?_⟩
    · have hq' : q < w.heap.size := Nat.lt_of_not_le fun h => hq (.inl h)
      rw [hheap, Array.getElem?_push, if_neg (by omega)]
    · show w'.heap[w.heap.size]? = _
      rw [hheap]; simp
    · show _ = G * 3
      simp only [List.size_toArray, List.length_append, List.length_map, hnl]; omega
    · simp only [List.size_toArray, List.length_append, List.length_map]; omega
    · have : RO ⟨w.heap.size, G * 3, 3, L.length + 1, false⟩ (L.length + 1) (.slice (some ⟨w.heap.size, 0, none⟩) (L.length + 1) G) := .inr ⟨rfl, G, rfl, rfl, hG1, hG2⟩
      cases d <;> exact ⟨_, rfl, rfl, this⟩
theorem aio48 (L : List Bar) (k : Nat) (b : Bar) (hk : k ≤ L.length) (hn : L.length ≤ 1048576) : AIO Tryz.prog 48 false [.ow 0 L.length, .int .i64 (k : Int), .rs true true (barD b) 1] 49 (barsD L) (.ow 0 (L.length + 1)) true (barsD (insB L k b)) := by
  rcases Nat.lt_or_ge k L.length with h | h
  · exact aio48i L k b h hn
  · have : k = L.length := by omega
    subst this
    exact aio48e L b hn
end Go.Qt
