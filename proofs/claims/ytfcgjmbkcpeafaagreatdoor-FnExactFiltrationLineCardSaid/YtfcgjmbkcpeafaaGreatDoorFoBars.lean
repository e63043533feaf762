/- PROVED: for every input the law FnExactFiltrationLine returns true and each argument reads afterwards as it read before (the statement 'FnExactFiltrationLineCardSaid' of the given Rows).
Conditions: none beyond those which the given statement itself names. This text is one part of the proof. -/
import Derived.Test.YtfcgjmbkcpeafaaGreatDoorFnBars

namespace Go.Qt
open Go Go.Qv Go.Proofs
noncomputable def body18 : Code := match Tryz.f18.body with | some b => b | none => .skip
set_option maxHeartbeats 4000000

theorem nats_m {h : List Nat} {k s : Nat} (hs : s = 1) (hk : k < h.length) : (nats h)[mulS k s]? = some (D.int .i64 ((h.getD k 0 : Nat) : Int)) := by
  subst hs
  have e : h.getD k 0 = h[k] := by simp [hk]
  rw [e]; exact nats_get hk
/-- One edge, as the program goes. -/
def die (b : List Int) (z : Int) (c : Nat) (out : List Bar) : List Bar := if b.getD c 0 ≤ z - 1 then out ++ [((b.getD c 0).toNat, (z - 1).toNat, 0)] else out
def istep (b : List Int) (st : List Nat × List Bar) : List Int → List Nat × List Bar
  | [x, y, z] =>
      let a := st.1.getD x.toNat 0
      let c := st.1.getD y.toNat 0
      if a = c then st else
        if swapB b a c then (ren c a st.1, die b z a st.2) else (ren a c st.1, die b z c st.2)
  | _ => st
def ist (b : List Int) (es : List (List Int)) : List Nat × List Bar := es.foldl (istep b) (List.range b.length, [])
def lastTo (s : Int) (b : List Int) (h : List Nat) (k : Nat) : List Bar := ((List.range k).filter fun (i : Nat) => h.getD i 0 == i).map fun (i : Nat) => ((b.getD i 0).toNat, (s - 1).toNat, 0)
def isingle (s : Int) (b : List Int) (es : List (List Int)) : List Bar := (ist b (esort es)).2 ++ lastTo s b (ist b (esort es)).1 b.length
def ielder (s : Int) (b : List Int) (es : List (List Int)) : List Bar := countL (isingle s b es)

/-- An edge of a filtration. -/
def EdgF (b : List Int) (s : Int) (e : List Int) : Prop := ∃ (x y : Nat) (z : Int), e = [(x : Int), (y : Int), z] ∧ x < b.length ∧ y < b.length ∧ x ≠ y ∧ b.getD x 0 ≤ z ∧ b.getD y 0 ≤ z ∧ z ≤ s - 1

def fillN (n k : Nat) : List Int := (List.range k).map Int.ofNat ++ List.replicate (n - k) 0
theorem fillN_len {n k : Nat} (h : k ≤ n) : (fillN n k).length = n := by simp [fillN]; omega
theorem fillN_set {n k : Nat} (h : k < n) : (fillN n k).set k (k : Int) = fillN n (k + 1) := by
  have e1 : n - k = (n - (k + 1)) + 1 := by omega
  rw [fillN, List.set_append_right _ _ (by simp), List.length_map, List.length_range, Nat.sub_self, e1, List.replicate_succ, List.set_cons_zero, fillN, List.range_succ, List.map_append]
  simp
theorem row3r {v u : Option Blk} {e : TypeId} {m : Bool} {p q : List D} (h : p = q) : [v, u, some (Blk.row e m p)] = [v, u, some (Blk.row e m q)] := by rw [h]
theorem row4c {v u t : Option Blk} {e : TypeId} {m : Bool} {p q : List D} (h : p = q) : [v, u, some (Blk.row e m p), t] = [v, u, some (Blk.row e m q), t] := by rw [h]
theorem row4 {v u : Option Blk} {e e' : TypeId} {m m' : Bool} {p q p' q' : List D} (h : p = q) (h' : p' = q') : [v, u, some (Blk.row e m p), some (Blk.row e' m' p')] = [v, u, some (Blk.row e m q), some (Blk.row e' m' q')] := by rw [h, h']
theorem VO5 {x y z : AV} {i n m : Nat} {k : IntKind} {a b : Int} (h : n = m) (h' : a = b) : [x, AV.ow i n, y, z, AV.int k a] = [x, AV.ow i m, y, z, AV.int k b] := by rw [h, h']
theorem lastTo_succ (s : Int) (b : List Int) (h : List Nat) (k : Nat) : lastTo s b h (k + 1) = if h.getD k 0 = k then lastTo s b h k ++ [((b.getD k 0).toNat, (s - 1).toNat, 0)] else lastTo s b h k := by
  simp only [lastTo, List.range_succ, List.filter_append, List.filter_cons, List.filter_nil]
  by_cases e : h.getD k 0 = k
  · rw [if_pos e, if_pos (by rw [e]; simp)]; simp
  · rw [if_neg e, if_neg (by simpa using e)]; simp
theorem lastTo_len (s : Int) (b : List Int) (h : List Nat) (k : Nat) : (lastTo s b h k).length ≤ k := by
  simp only [lastTo, List.length_map]
  exact Nat.le_trans (List.length_filter_le _ _) (by simp)
theorem istep_zero {b : List Int} {st : List Nat × List Bar} {e : List Int} (h : ∀ x ∈ st.2, x.2.2 = 0) : ∀ x ∈ (istep b st e).2, x.2.2 = 0 := by
  have hd : ∀ z c, ∀ x ∈ die b z c st.2, x.2.2 = 0 := fun z c x hx => by
    unfold die at hx
    split at hx
    · rcases List.mem_append.1 hx with h1 | h1
      · exact h x h1
      · rw [List.mem_singleton.1 h1]
    · exact h x hx
  unfold istep
  split
  · dsimp only
    split
    · exact h
    · split
      · exact hd _ _
      · exact hd _ _
  · exact h
theorem ist_zero {b : List Int} : ∀ {es : List (List Int)} {st : List Nat × List Bar}, (∀ x ∈ st.2, x.2.2 = 0) → ∀ x ∈ (es.foldl (istep b) st).2, x.2.2 = 0
  | [], _, h => h
  | _ :: r, _, h => ist_zero (es := r) (istep_zero h)
theorem single_zero (s : Int) (b : List Int) (es : List (List Int)) : ∀ x ∈ isingle s b es, x.2.2 = 0 := fun x hx => by
  rcases List.mem_append.1 hx with h | h
  · exact ist_zero (b := b) (es := esort es) (st := (List.range b.length, [])) (fun _ h => by cases h) x h
  · simp only [lastTo, List.mem_map] at h
    obtain ⟨_, _, rfl⟩ := h
    rfl
theorem die_len (b : List Int) (z : Int) (c : Nat) (out : List Bar) : (die b z c out).length ≤ out.length + 1 := by
  unfold die; split
  · simp
  · omega
theorem VO11 {x y : AV} {i n m : Nat} {r : List AV} (h : n = m) : x :: y :: AV.ow i n :: r = x :: y :: AV.ow i m :: r := by rw [h]
theorem ac18_in (s : Int) (b : List Int) (es : List (List Int)) (hf : isFil s b es = true) : AC Tryz.prog 18 [flA s b es] (.tup [.fs 49 false (barsD (ielder s b es)) (ielder s b es).length, .bool true]) := by
  obtain ⟨hs, hb, he, hbr, hedge⟩ := fil_bounds hf
  have hbn : ∀ k, k < b.length → 0 ≤ b.getD k 0 ∧ b.getD k 0 ≤ s - 1 := fun k hk => by
    have e : b.getD k 0 = b[k] := by simp [hk]
    rw [e]; exact hbr _ (List.getElem_mem hk)
  have hE : ∀ e ∈ es, Edg e := fun e hm => by
    obtain ⟨x, y, z, h1, h2, h3, _, h4, h5, h6⟩ := hedge e hm
    have := hbn x h2
    exact ⟨x, y, z, h1, by omega, by omega⟩
  have hEl : (esort es).length = es.length := by rw [esort, sinks_len]
  have hedge2 : ∀ e ∈ esort es, EdgF b s e := by
    rcases Nat.eq_zero_or_pos es.length with h0 | h0
    · have : es = [] := List.eq_nil_of_length_eq_zero h0
      subst this
      intro e he; cases he
    · exact sinks_mem (P := EdgF b s) hedge _ (by omega)
  have hsort := aio32 es (by omega) hE
  refine AC_of_awp (E := env 154 [21, 153] [23] 0) (env_ok _ _ _ _) mixed Tryz.call18 Tryz.func18 (code := body18) rfl rfl (by kernel_rfl) (Nat.le_of_ble_eq_true rfl) fun hl => ?_
  conv => whnf
  clear hl
  refine ⟨_, ac30 s b es, rfl, ?_⟩
  conv => whnf
  refine Bc_intro (fun h => ?_) (fun h => ?_)
  · rw [hf] at h; cases h
  clear h
  conv => whnf
  refine ⟨_, ac31 es (by omega), rfl, ?_⟩
  conv => whnf
  refine ⟨1, true, _, true, _, true, hsort, .inl rfl, ?_⟩
  conv => whnf
  refine ⟨b.length, rfl, b.length, rfl, Nat.le_refl _, sizeLim_of (by show b.length * 8 ≤ _; omega), intLim_of' (by omega), ?_⟩
  conv => whnf
  refine ⟨Nat, [], [1, 4, 5, 29, 30], fun k => [.op 0 0, .ow 1 es.length, .ow 2 b.length, .int .i64 b.length, .int .i64 (k : Int)], fun k => [some (.var 28 [.int .i64 s, .rs true false (ints b) b.length, .rs true false (rows es) es.length]), some (.row 22 true (rows (esort es))), some (.row 3 false (ints (fillN b.length k)))], fun k => k ≤ b.length, fun k => b.length - k, 3, fun _ => rfl, rfl,
      ⟨_, 0, rfl, Nat.zero_le _, rfl, ?_, rfl, rfl⟩, fun k hk => ?_⟩
  · have e : List.replicate b.length (D.int .i64 0) = ints (fillN b.length 0) := by simp [fillN, ints]
    exact row3r e
  have hk : k ≤ b.length := hk
  conv => whnf
  refine Bc_intro (fun h => ?_) (fun h => ?_)
  · have h : (k : Int) < b.length := of_decide_eq_true h
    have hlt : k < b.length := by omega
    have hfl := fillN_len hk
    conv => whnf
    repeat (first
      | (refine ⟨_, ints_m rfl (by first | omega | (dsimp only; omega)), ?_⟩; conv => whnf)
      | (refine ⟨_, ints_p rfl (by first | omega | (dsimp only; omega)), ?_⟩; conv => whnf)
      | (refine ⟨_, rows_m rfl (by first | omega | (dsimp only; omega)), ?_⟩; conv => whnf)
      | (refine ⟨(D.int .i64 _ : D), rfl, ?_⟩; conv => whnf)
      | (refine ⟨(_ : Nat), rfl, (show (_ : Nat) < _ by first | omega | (dsimp only; omega)), ?_⟩; conv => whnf)
      | (refine ⟨(_ : Nat), rfl, (show (_ : Nat) ≤ _ by first | omega | (dsimp only; omega)), ?_⟩; conv => whnf)
      | (refine ⟨(_ : Nat), wrap_pred (by omega), (show (_ : Nat) < _ by first | omega | (dsimp only; omega)), ?_⟩; conv => whnf)
      | (refine ⟨(0 : Nat), rfl, Nat.le_of_ble_eq_true rfl, ?_⟩; conv => whnf)
      | (refine ⟨(1 : Nat), rfl, Nat.le_of_ble_eq_true rfl, ?_⟩; conv => whnf)
      | (refine ⟨(2 : Nat), rfl, Nat.le_of_ble_eq_true rfl, ?_⟩; conv => whnf))
    refine ⟨(show k + 1 ≤ (ints (fillN b.length k)).length by rw [ints_len, hfl]; omega), ?_⟩
    conv => whnf
    refine ⟨k + 1, hlt, (by show b.length - (k + 1) < b.length - k; omega), ?_, ?_, rfl, rfl⟩
    · exact V5 (wrap_succ (k := k) (n := 9223372036854775807) (by omega) (by omega))
    · have e : setND (ints (fillN b.length k)) k [D.int .i64 (k : Int)] = ints (fillN b.length (k + 1)) := by
        rw [ints_set (by omega), fillN_set hlt]
      exact row3r e
  have h : ¬ (k : Int) < b.length := of_decide_eq_false h
  have : k = b.length := by omega
  subst this
  clear h hk
  conv => whnf
  refine ⟨Nat × List Nat × List Bar, [.slot 7 49 false], [1, 5, 7, 38, 39, 40], fun a => [.op 0 0, .ow 2 b.length, .ow 3 a.2.2.length, .ow 1 es.length, .int .i64 es.length, .int .i64 (a.1 : Int)], fun a => [some (.var 28 [.int .i64 s, .rs true false (ints b) b.length, .rs true false (rows es) es.length]), some (.row 22 true (rows (esort es))), some (.row 3 false (nats a.2.1)), some (.row 49 false (barsD a.2.2))],
      fun a => a.1 ≤ es.length ∧ a.2.1.length = b.length ∧ (∀ x ∈ a.2.1, x < b.length) ∧ a.2.2.length ≤ a.1 ∧ (a.2.1, a.2.2) = ((esort es).take a.1).foldl (istep b) (List.range b.length, []), fun a => es.length - a.1, 4, fun _ => rfl, rfl,
      ⟨_, (0, List.range b.length, []), rfl, ⟨Nat.zero_le _, by simp, fun x hx => by simpa using hx, Nat.le_refl _, rfl⟩, rfl, ?_, rfl, rfl⟩, fun a ha => ?_⟩
  · have e : ints (fillN b.length b.length) = nats (List.range b.length) := by simp [fillN, nats]
    exact row4c e
  obtain ⟨j, h, out⟩ := a
  obtain ⟨i1, i2, i3, i4, i5⟩ := ha
  simp only at i1 i2 i3 i4 i5
  conv => whnf
  refine Bc_intro (fun hj => ?_) (fun hj => ?_)
  · have hj : (j : Int) < es.length := of_decide_eq_true hj
    have hjlt : j < (esort es).length := by omega
    have hget := rows_get (k := j) hjlt
    have hft : ((esort es).take (j + 1)).foldl (istep b) (List.range b.length, []) = istep b (h, out) (esort es)[j] := by
      rw [List.take_add_one, List.foldl_append, ← i5]; simp [hjlt]
    obtain ⟨x, y, z, hxyz, hx, hy, _, hz1, hz2, hz3⟩ := hedge2 _ (List.getElem_mem hjlt)
    rw [hxyz] at hget hft
    have hz0 : 0 ≤ z := by have := hbn x hx; omega
    have ha := getD_lt i2 i3 hx
    have hc := getD_lt i2 i3 hy
    conv => whnf
    refine ⟨j, rfl, (show j < es.length by omega), ?_⟩
    conv => whnf
    refine ⟨_, hget, ?_⟩
    conv => whnf
    repeat (first
      | (refine ⟨_, nats_m rfl (by first | omega | (dsimp only; omega)), ?_⟩; conv => whnf)
      | (refine ⟨_, ints_m rfl (by first | omega | (dsimp only; omega)), ?_⟩; conv => whnf)
      | (refine ⟨_, ints_p rfl (by first | omega | (dsimp only; omega)), ?_⟩; conv => whnf)
      | (refine ⟨_, rows_m rfl (by first | omega | (dsimp only; omega)), ?_⟩; conv => whnf)
      | (refine ⟨(D.int .i64 _ : D), rfl, ?_⟩; conv => whnf)
      | (refine ⟨(_ : Nat), rfl, (show (_ : Nat) < _ by first | omega | (dsimp only; omega)), ?_⟩; conv => whnf)
      | (refine ⟨(_ : Nat), rfl, (show (_ : Nat) ≤ _ by first | omega | (dsimp only; omega)), ?_⟩; conv => whnf)
      | (refine ⟨(_ : Nat), wrap_pred (by omega), (show (_ : Nat) < _ by first | omega | (dsimp only; omega)), ?_⟩; conv => whnf)
      | (refine ⟨(0 : Nat), rfl, Nat.le_of_ble_eq_true rfl, ?_⟩; conv => whnf)
      | (refine ⟨(1 : Nat), rfl, Nat.le_of_ble_eq_true rfl, ?_⟩; conv => whnf)
      | (refine ⟨(2 : Nat), rfl, Nat.le_of_ble_eq_true rfl, ?_⟩; conv => whnf))
    refine Bc_intro (fun hac => ?_) (fun hac => ?_)
    · have hac : (h.getD x 0) = (h.getD y 0) := by have := eq_of_beq (show ((((h.getD x 0) : Nat) : Int) == (((h.getD y 0) : Nat) : Int)) = true from hac); omega
      have hist : istep b (h, out) [(x : Int), (y : Int), z] = (h, out) := by
        simp only [istep, Int.toNat_natCast]
        rw [if_pos hac]
      rw [hist] at hft
      conv => whnf
      refine ⟨(j + 1, h, out), ⟨by show j + 1 ≤ es.length; omega, i2, i3, by show out.length ≤ j + 1; omega, hft.symm⟩, (by show es.length - (j + 1) < es.length - j; omega), ?_, rfl, rfl, rfl⟩
      exact V6 (wrap_succ (k := j) (n := 9223372036854775807) (by omega) (by omega))
    have hac : ¬ (h.getD x 0) = (h.getD y 0) := fun e => by
      have hac : ((((h.getD x 0) : Nat) : Int) == (((h.getD y 0) : Nat) : Int)) = false := hac
      rw [e] at hac; simp at hac
    conv => whnf
    repeat (first
      | (refine ⟨_, nats_m rfl (by first | omega | (dsimp only; omega)), ?_⟩; conv => whnf)
      | (refine ⟨_, ints_m rfl (by first | omega | (dsimp only; omega)), ?_⟩; conv => whnf)
      | (refine ⟨_, ints_p rfl (by first | omega | (dsimp only; omega)), ?_⟩; conv => whnf)
      | (refine ⟨_, rows_m rfl (by first | omega | (dsimp only; omega)), ?_⟩; conv => whnf)
      | (refine ⟨(D.int .i64 _ : D), rfl, ?_⟩; conv => whnf)
      | (refine ⟨(_ : Nat), rfl, (show (_ : Nat) < _ by first | omega | (dsimp only; omega)), ?_⟩; conv => whnf)
      | (refine ⟨(_ : Nat), rfl, (show (_ : Nat) ≤ _ by first | omega | (dsimp only; omega)), ?_⟩; conv => whnf)
      | (refine ⟨(_ : Nat), wrap_pred (by omega), (show (_ : Nat) < _ by first | omega | (dsimp only; omega)), ?_⟩; conv => whnf)
      | (refine ⟨(0 : Nat), rfl, Nat.le_of_ble_eq_true rfl, ?_⟩; conv => whnf)
      | (refine ⟨(1 : Nat), rfl, Nat.le_of_ble_eq_true rfl, ?_⟩; conv => whnf)
      | (refine ⟨(2 : Nat), rfl, Nat.le_of_ble_eq_true rfl, ?_⟩; conv => whnf))
    refine Bc_intro (fun h1 => ?_) (fun h1 => ?_)
    · have h1 : decide (b.getD (h.getD y 0) 0 < b.getD (h.getD x 0) 0) = true := h1
      have hsw : swapB b (h.getD x 0) (h.getD y 0) = true := by simp only [swapB, gt_iff_lt, h1, Bool.true_or]
      have hbc := hbn (h.getD x 0) ha
      have hw : IntKind.i64.wrap (z - 1) = z - 1 := wrap_id (by omega) (by omega)
      conv => whnf
      repeat (first
        | (refine ⟨_, nats_m rfl (by first | omega | (dsimp only; omega)), ?_⟩; conv => whnf)
        | (refine ⟨_, ints_m rfl (by first | omega | (dsimp only; omega)), ?_⟩; conv => whnf)
        | (refine ⟨_, ints_p rfl (by first | omega | (dsimp only; omega)), ?_⟩; conv => whnf)
        | (refine ⟨_, rows_m rfl (by first | omega | (dsimp only; omega)), ?_⟩; conv => whnf)
        | (refine ⟨(D.int .i64 _ : D), rfl, ?_⟩; conv => whnf)
        | (refine ⟨(_ : Nat), rfl, (show (_ : Nat) < _ by first | omega | (dsimp only; omega)), ?_⟩; conv => whnf)
        | (refine ⟨(_ : Nat), rfl, (show (_ : Nat) ≤ _ by first | omega | (dsimp only; omega)), ?_⟩; conv => whnf)
        | (refine ⟨(_ : Nat), wrap_pred (by omega), (show (_ : Nat) < _ by first | omega | (dsimp only; omega)), ?_⟩; conv => whnf)
        | (refine ⟨(0 : Nat), rfl, Nat.le_of_ble_eq_true rfl, ?_⟩; conv => whnf)
        | (refine ⟨(1 : Nat), rfl, Nat.le_of_ble_eq_true rfl, ?_⟩; conv => whnf)
        | (refine ⟨(2 : Nat), rfl, Nat.le_of_ble_eq_true rfl, ?_⟩; conv => whnf))
      refine Bc_intro (fun hd => ?_) (fun hd => ?_)
      · have hd : b.getD (h.getD x 0) 0 ≤ IntKind.i64.wrap (z - 1) := of_decide_eq_true hd
        rw [hw] at hd
        have hdie : die b z (h.getD x 0) out = out ++ [((b.getD (h.getD x 0) 0).toNat, (z - 1).toNat, 0)] := if_pos hd
        have hdl2 : out.length + 1 = (die b z (h.getD x 0) out).length := by rw [hdie]; simp
        have hrow : barsD out ++ [D.int .i64 (b.getD (h.getD x 0) 0), D.int .i64 (IntKind.i64.wrap (z - 1)), D.int .i64 0] = barsD (die b z (h.getD x 0) out) := by
          rw [hdie, barsD_append, barsD_one, hw, barD]
          rw [Int.toNat_of_nonneg hbc.1, Int.toNat_of_nonneg (by omega)]; rfl
        conv => whnf
        repeat (first
          | (refine ⟨_, nats_m rfl (by first | omega | (dsimp only; omega)), ?_⟩; conv => whnf)
          | (refine ⟨_, ints_m rfl (by first | omega | (dsimp only; omega)), ?_⟩; conv => whnf)
          | (refine ⟨_, ints_p rfl (by first | omega | (dsimp only; omega)), ?_⟩; conv => whnf)
          | (refine ⟨_, rows_m rfl (by first | omega | (dsimp only; omega)), ?_⟩; conv => whnf)
          | (refine ⟨(D.int .i64 _ : D), rfl, ?_⟩; conv => whnf)
          | (refine ⟨(_ : Nat), rfl, (show (_ : Nat) < _ by first | omega | (dsimp only; omega)), ?_⟩; conv => whnf)
          | (refine ⟨(_ : Nat), rfl, (show (_ : Nat) ≤ _ by first | omega | (dsimp only; omega)), ?_⟩; conv => whnf)
          | (refine ⟨(_ : Nat), wrap_pred (by omega), (show (_ : Nat) < _ by first | omega | (dsimp only; omega)), ?_⟩; conv => whnf)
          | (refine ⟨(0 : Nat), rfl, Nat.le_of_ble_eq_true rfl, ?_⟩; conv => whnf)
          | (refine ⟨(1 : Nat), rfl, Nat.le_of_ble_eq_true rfl, ?_⟩; conv => whnf)
          | (refine ⟨(2 : Nat), rfl, Nat.le_of_ble_eq_true rfl, ?_⟩; conv => whnf))
        refine ⟨false, .inr (.inl rfl), .inr (.inr (by intro q hq; simp only [List.mem_cons, List.not_mem_nil, or_false] at hq; rcases hq with rfl | rfl | rfl <;> rfl)), rfl, sizeLim_of (by show (out.length + 1) * 24 ≤ _; omega), intLim_of' (show out.length + 1 ≤ 9223372036854775807 by omega), ?_⟩
        conv => whnf
        refine ⟨Nat, [], [1, 5, 7, 10, 11, 38, 39, 40, 113, 114, 115], fun k => [.op 0 0, .ow 2 b.length, .ow 3 (die b z (h.getD x 0) out).length, .int .i64 ((h.getD y 0) : Nat), .int .i64 ((h.getD x 0) : Nat), .ow 1 es.length, .int .i64 es.length, .int .i64 (j : Int), .ow 2 b.length, .int .i64 b.length, .int .i64 (k : Int)], fun k => [some (.var 28 [.int .i64 s, .rs true false (ints b) b.length, .rs true false (rows es) es.length]), some (.row 22 true (rows (esort es))), some (.row 3 false (nats (renTo (h.getD y 0) (h.getD x 0) h k))), some (.row 49 false (barsD (die b z (h.getD x 0) out)))], fun k => k ≤ b.length, fun k => b.length - k, 4, fun _ => rfl, rfl,
          ⟨_, 0, rfl, Nat.zero_le _, ?_, ?_, rfl, rfl⟩, fun k hk => ?_⟩
        · exact VO11 hdl2
        · exact row4 (renTo_zero _ _ _ ▸ rfl) hrow
        have hk : k ≤ b.length := hk
        conv => whnf
        refine Bc_intro (fun hkb => ?_) (fun hkb => ?_)
        · have hkb : (k : Int) < b.length := of_decide_eq_true hkb
          have hkl : k < h.length := by omega
          have hgk : h.getD k 0 = h[k] := by simp [hkl]
          have hrg : (renTo (h.getD y 0) (h.getD x 0) h k).getD k 0 = h[k] := by
            have := renTo_get (h.getD y 0) (h.getD x 0) h k hkl
            rw [List.getD_eq_getElem?_getD, this]; rfl
          have hrl := renTo_len (h.getD y 0) (h.getD x 0) h k (by omega)
          have hrs := renTo_succ (h.getD y 0) (h.getD x 0) h k hkl
          have hdl := die_len b z (h.getD x 0) out
          conv => whnf
          repeat (first
            | (refine ⟨_, nats_m rfl (by first | omega | (dsimp only; omega)), ?_⟩; conv => whnf)
            | (refine ⟨_, ints_m rfl (by first | omega | (dsimp only; omega)), ?_⟩; conv => whnf)
            | (refine ⟨_, ints_p rfl (by first | omega | (dsimp only; omega)), ?_⟩; conv => whnf)
            | (refine ⟨_, rows_m rfl (by first | omega | (dsimp only; omega)), ?_⟩; conv => whnf)
            | (refine ⟨(D.int .i64 _ : D), rfl, ?_⟩; conv => whnf)
            | (refine ⟨(_ : Nat), rfl, (show (_ : Nat) < _ by first | omega | (dsimp only; omega)), ?_⟩; conv => whnf)
            | (refine ⟨(_ : Nat), rfl, (show (_ : Nat) ≤ _ by first | omega | (dsimp only; omega)), ?_⟩; conv => whnf)
            | (refine ⟨(_ : Nat), wrap_pred (by omega), (show (_ : Nat) < _ by first | omega | (dsimp only; omega)), ?_⟩; conv => whnf)
            | (refine ⟨(0 : Nat), rfl, Nat.le_of_ble_eq_true rfl, ?_⟩; conv => whnf)
            | (refine ⟨(1 : Nat), rfl, Nat.le_of_ble_eq_true rfl, ?_⟩; conv => whnf)
            | (refine ⟨(2 : Nat), rfl, Nat.le_of_ble_eq_true rfl, ?_⟩; conv => whnf))
          refine Bc_intro (fun hq => ?_) (fun hq => ?_)
          · have hq : h[k] = (h.getD x 0) := by
              have hq := eq_of_beq (show ((((renTo (h.getD y 0) (h.getD x 0) h k).getD k 0 : Nat) : Int) == (((h.getD x 0) : Nat) : Int)) = true from hq)
              rw [hrg] at hq; omega
            rw [if_pos hq] at hrs
            conv => whnf
            repeat (first
              | (refine ⟨_, nats_m rfl (by first | omega | (dsimp only; omega)), ?_⟩; conv => whnf)
              | (refine ⟨_, ints_m rfl (by first | omega | (dsimp only; omega)), ?_⟩; conv => whnf)
              | (refine ⟨_, ints_p rfl (by first | omega | (dsimp only; omega)), ?_⟩; conv => whnf)
              | (refine ⟨_, rows_m rfl (by first | omega | (dsimp only; omega)), ?_⟩; conv => whnf)
              | (refine ⟨(D.int .i64 _ : D), rfl, ?_⟩; conv => whnf)
              | (refine ⟨(_ : Nat), rfl, (show (_ : Nat) < _ by first | omega | (dsimp only; omega)), ?_⟩; conv => whnf)
              | (refine ⟨(_ : Nat), rfl, (show (_ : Nat) ≤ _ by first | omega | (dsimp only; omega)), ?_⟩; conv => whnf)
              | (refine ⟨(_ : Nat), wrap_pred (by omega), (show (_ : Nat) < _ by first | omega | (dsimp only; omega)), ?_⟩; conv => whnf)
              | (refine ⟨(0 : Nat), rfl, Nat.le_of_ble_eq_true rfl, ?_⟩; conv => whnf)
              | (refine ⟨(1 : Nat), rfl, Nat.le_of_ble_eq_true rfl, ?_⟩; conv => whnf)
              | (refine ⟨(2 : Nat), rfl, Nat.le_of_ble_eq_true rfl, ?_⟩; conv => whnf))
            refine ⟨(show k + 1 ≤ (nats (renTo (h.getD y 0) (h.getD x 0) h k)).length by rw [nats_len, hrl]; omega), ?_⟩
            conv => whnf
            refine ⟨k + 1, (by show k + 1 ≤ b.length; omega), (by show b.length - (k + 1) < b.length - k; omega), ?_, ?_, rfl, rfl⟩
            · exact V11 (wrap_succ (k := k) (n := 9223372036854775807) (by omega) (by omega))
            · have e : setND (nats (renTo (h.getD y 0) (h.getD x 0) h k)) k [D.int .i64 (((h.getD y 0) : Nat) : Int)] = nats (renTo (h.getD y 0) (h.getD x 0) h (k + 1)) := by rw [nats_set (by omega), hrs]
              exact row4c e
          · have hq : h[k] ≠ (h.getD x 0) := fun e => by
              have hq : ((((renTo (h.getD y 0) (h.getD x 0) h k).getD k 0 : Nat) : Int) == (((h.getD x 0) : Nat) : Int)) = false := hq
              rw [hrg, e] at hq; simp at hq
            rw [if_neg hq] at hrs
            have hself : (renTo (h.getD y 0) (h.getD x 0) h k).set k h[k] = renTo (h.getD y 0) (h.getD x 0) h k := by
              apply List.ext_getElem?
              intro i
              rw [List.getElem?_set]
              split
              · rename_i e; subst e; rw [renTo_get _ _ _ _ hkl, if_pos (by omega)]
              · rfl
            rw [hself] at hrs
            conv => whnf
            refine ⟨k + 1, (by show k + 1 ≤ b.length; omega), (by show b.length - (k + 1) < b.length - k; omega), ?_, ?_, rfl, rfl⟩
            · exact V11 (wrap_succ (k := k) (n := 9223372036854775807) (by omega) (by omega))
            · have e : nats (renTo (h.getD y 0) (h.getD x 0) h k) = nats (renTo (h.getD y 0) (h.getD x 0) h (k + 1)) := by rw [hrs]
              exact row4c e
        · have hkb : ¬ (k : Int) < b.length := of_decide_eq_false hkb
          have : k = b.length := by omega
          subst this
          have hdl := die_len b z (h.getD x 0) out
          have hist : istep b (h, out) [(x : Int), (y : Int), z] = (ren (h.getD y 0) (h.getD x 0) h, die b z (h.getD x 0) out) := by
            simp only [istep, Int.toNat_natCast]
            rw [if_neg hac, if_pos hsw]
          rw [hist] at hft
          conv => whnf
          refine ⟨(j + 1, ren (h.getD y 0) (h.getD x 0) h, die b z (h.getD x 0) out), ⟨by show j + 1 ≤ es.length; omega, by show (ren _ _ _).length = _; rw [ren_len, i2], ren_lt hc i3, by show (die _ _ _ _).length ≤ j + 1; omega, hft.symm⟩, (by show es.length - (j + 1) < es.length - j; omega), ?_, ?_, rfl, rfl⟩
          · exact V6 (wrap_succ (k := j) (n := 9223372036854775807) (by omega) (by omega))
          · have e : nats (renTo (h.getD y 0) (h.getD x 0) h b.length) = nats (ren (h.getD y 0) (h.getD x 0) h) := by rw [← i2, renTo_full]
            exact row4c e
      · have hd : ¬ b.getD (h.getD x 0) 0 ≤ IntKind.i64.wrap (z - 1) := of_decide_eq_false hd
        rw [hw] at hd
        have hdie : die b z (h.getD x 0) out = out := if_neg hd
        conv => whnf
        refine ⟨Nat, [], [1, 5, 7, 10, 11, 38, 39, 40, 113, 114, 115], fun k => [.op 0 0, .ow 2 b.length, .ow 3 (die b z (h.getD x 0) out).length, .int .i64 ((h.getD y 0) : Nat), .int .i64 ((h.getD x 0) : Nat), .ow 1 es.length, .int .i64 es.length, .int .i64 (j : Int), .ow 2 b.length, .int .i64 b.length, .int .i64 (k : Int)], fun k => [some (.var 28 [.int .i64 s, .rs true false (ints b) b.length, .rs true false (rows es) es.length]), some (.row 22 true (rows (esort es))), some (.row 3 false (nats (renTo (h.getD y 0) (h.getD x 0) h k))), some (.row 49 false (barsD (die b z (h.getD x 0) out)))], fun k => k ≤ b.length, fun k => b.length - k, 4, fun _ => rfl, rfl,
          ⟨_, 0, rfl, Nat.zero_le _, ?_, ?_, rfl, rfl⟩, fun k hk => ?_⟩
        · exact VO11 (by rw [hdie])
        · exact row4 (by rw [renTo_zero]) (by rw [hdie])
        have hk : k ≤ b.length := hk
        conv => whnf
        refine Bc_intro (fun hkb => ?_) (fun hkb => ?_)
        · have hkb : (k : Int) < b.length := of_decide_eq_true hkb
          have hkl : k < h.length := by omega
          have hgk : h.getD k 0 = h[k] := by simp [hkl]
          have hrg : (renTo (h.getD y 0) (h.getD x 0) h k).getD k 0 = h[k] := by
            have := renTo_get (h.getD y 0) (h.getD x 0) h k hkl
            rw [List.getD_eq_getElem?_getD, this]; rfl
          have hrl := renTo_len (h.getD y 0) (h.getD x 0) h k (by omega)
          have hrs := renTo_succ (h.getD y 0) (h.getD x 0) h k hkl
          have hdl := die_len b z (h.getD x 0) out
          conv => whnf
          repeat (first
            | (refine ⟨_, nats_m rfl (by first | omega | (dsimp only; omega)), ?_⟩; conv => whnf)
            | (refine ⟨_, ints_m rfl (by first | omega | (dsimp only; omega)), ?_⟩; conv => whnf)
            | (refine ⟨_, ints_p rfl (by first | omega | (dsimp only; omega)), ?_⟩; conv => whnf)
            | (refine ⟨_, rows_m rfl (by first | omega | (dsimp only; omega)), ?_⟩; conv => whnf)
            | (refine ⟨(D.int .i64 _ : D), rfl, ?_⟩; conv => whnf)
            | (refine ⟨(_ : Nat), rfl, (show (_ : Nat) < _ by first | omega | (dsimp only; omega)), ?_⟩; conv => whnf)
            | (refine ⟨(_ : Nat), rfl, (show (_ : Nat) ≤ _ by first | omega | (dsimp only; omega)), ?_⟩; conv => whnf)
            | (refine ⟨(_ : Nat), wrap_pred (by omega), (show (_ : Nat) < _ by first | omega | (dsimp only; omega)), ?_⟩; conv => whnf)
            | (refine ⟨(0 : Nat), rfl, Nat.le_of_ble_eq_true rfl, ?_⟩; conv => whnf)
            | (refine ⟨(1 : Nat), rfl, Nat.le_of_ble_eq_true rfl, ?_⟩; conv => whnf)
            | (refine ⟨(2 : Nat), rfl, Nat.le_of_ble_eq_true rfl, ?_⟩; conv => whnf))
          refine Bc_intro (fun hq => ?_) (fun hq => ?_)
          · have hq : h[k] = (h.getD x 0) := by
              have hq := eq_of_beq (show ((((renTo (h.getD y 0) (h.getD x 0) h k).getD k 0 : Nat) : Int) == (((h.getD x 0) : Nat) : Int)) = true from hq)
              rw [hrg] at hq; omega
            rw [if_pos hq] at hrs
            conv => whnf
            repeat (first
              | (refine ⟨_, nats_m rfl (by first | omega | (dsimp only; omega)), ?_⟩; conv => whnf)
              | (refine ⟨_, ints_m rfl (by first | omega | (dsimp only; omega)), ?_⟩; conv => whnf)
              | (refine ⟨_, ints_p rfl (by first | omega | (dsimp only; omega)), ?_⟩; conv => whnf)
              | (refine ⟨_, rows_m rfl (by first | omega | (dsimp only; omega)), ?_⟩; conv => whnf)
              | (refine ⟨(D.int .i64 _ : D), rfl, ?_⟩; conv => whnf)
              | (refine ⟨(_ : Nat), rfl, (show (_ : Nat) < _ by first | omega | (dsimp only; omega)), ?_⟩; conv => whnf)
              | (refine ⟨(_ : Nat), rfl, (show (_ : Nat) ≤ _ by first | omega | (dsimp only; omega)), ?_⟩; conv => whnf)
              | (refine ⟨(_ : Nat), wrap_pred (by omega), (show (_ : Nat) < _ by first | omega | (dsimp only; omega)), ?_⟩; conv => whnf)
              | (refine ⟨(0 : Nat), rfl, Nat.le_of_ble_eq_true rfl, ?_⟩; conv => whnf)
              | (refine ⟨(1 : Nat), rfl, Nat.le_of_ble_eq_true rfl, ?_⟩; conv => whnf)
              | (refine ⟨(2 : Nat), rfl, Nat.le_of_ble_eq_true rfl, ?_⟩; conv => whnf))
            refine ⟨(show k + 1 ≤ (nats (renTo (h.getD y 0) (h.getD x 0) h k)).length by rw [nats_len, hrl]; omega), ?_⟩
            conv => whnf
            refine ⟨k + 1, (by show k + 1 ≤ b.length; omega), (by show b.length - (k + 1) < b.length - k; omega), ?_, ?_, rfl, rfl⟩
            · exact V11 (wrap_succ (k := k) (n := 9223372036854775807) (by omega) (by omega))
            · have e : setND (nats (renTo (h.getD y 0) (h.getD x 0) h k)) k [D.int .i64 (((h.getD y 0) : Nat) : Int)] = nats (renTo (h.getD y 0) (h.getD x 0) h (k + 1)) := by rw [nats_set (by omega), hrs]
              exact row4c e
          · have hq : h[k] ≠ (h.getD x 0) := fun e => by
              have hq : ((((renTo (h.getD y 0) (h.getD x 0) h k).getD k 0 : Nat) : Int) == (((h.getD x 0) : Nat) : Int)) = false := hq
              rw [hrg, e] at hq; simp at hq
            rw [if_neg hq] at hrs
            have hself : (renTo (h.getD y 0) (h.getD x 0) h k).set k h[k] = renTo (h.getD y 0) (h.getD x 0) h k := by
              apply List.ext_getElem?
              intro i
              rw [List.getElem?_set]
              split
              · rename_i e; subst e; rw [renTo_get _ _ _ _ hkl, if_pos (by omega)]
              · rfl
            rw [hself] at hrs
            conv => whnf
            refine ⟨k + 1, (by show k + 1 ≤ b.length; omega), (by show b.length - (k + 1) < b.length - k; omega), ?_, ?_, rfl, rfl⟩
            · exact V11 (wrap_succ (k := k) (n := 9223372036854775807) (by omega) (by omega))
            · have e : nats (renTo (h.getD y 0) (h.getD x 0) h k) = nats (renTo (h.getD y 0) (h.getD x 0) h (k + 1)) := by rw [hrs]
              exact row4c e
        · have hkb : ¬ (k : Int) < b.length := of_decide_eq_false hkb
          have : k = b.length := by omega
          subst this
          have hdl := die_len b z (h.getD x 0) out
          have hist : istep b (h, out) [(x : Int), (y : Int), z] = (ren (h.getD y 0) (h.getD x 0) h, die b z (h.getD x 0) out) := by
            simp only [istep, Int.toNat_natCast]
            rw [if_neg hac, if_pos hsw]
          rw [hist] at hft
          conv => whnf
          refine ⟨(j + 1, ren (h.getD y 0) (h.getD x 0) h, die b z (h.getD x 0) out), ⟨by show j + 1 ≤ es.length; omega, by show (ren _ _ _).length = _; rw [ren_len, i2], ren_lt hc i3, by show (die _ _ _ _).length ≤ j + 1; omega, hft.symm⟩, (by show es.length - (j + 1) < es.length - j; omega), ?_, ?_, rfl, rfl⟩
          · exact V6 (wrap_succ (k := j) (n := 9223372036854775807) (by omega) (by omega))
          · have e : nats (renTo (h.getD y 0) (h.getD x 0) h b.length) = nats (ren (h.getD y 0) (h.getD x 0) h) := by rw [← i2, renTo_full]
            exact row4c e
    have h1 : decide (b.getD (h.getD y 0) 0 < b.getD (h.getD x 0) 0) = false := h1
    conv => whnf
    repeat (first
      | (refine ⟨_, nats_m rfl (by first | omega | (dsimp only; omega)), ?_⟩; conv => whnf)
      | (refine ⟨_, ints_m rfl (by first | omega | (dsimp only; omega)), ?_⟩; conv => whnf)
      | (refine ⟨_, ints_p rfl (by first | omega | (dsimp only; omega)), ?_⟩; conv => whnf)
      | (refine ⟨_, rows_m rfl (by first | omega | (dsimp only; omega)), ?_⟩; conv => whnf)
      | (refine ⟨(D.int .i64 _ : D), rfl, ?_⟩; conv => whnf)
      | (refine ⟨(_ : Nat), rfl, (show (_ : Nat) < _ by first | omega | (dsimp only; omega)), ?_⟩; conv => whnf)
      | (refine ⟨(_ : Nat), rfl, (show (_ : Nat) ≤ _ by first | omega | (dsimp only; omega)), ?_⟩; conv => whnf)
      | (refine ⟨(_ : Nat), wrap_pred (by omega), (show (_ : Nat) < _ by first | omega | (dsimp only; omega)), ?_⟩; conv => whnf)
      | (refine ⟨(0 : Nat), rfl, Nat.le_of_ble_eq_true rfl, ?_⟩; conv => whnf)
      | (refine ⟨(1 : Nat), rfl, Nat.le_of_ble_eq_true rfl, ?_⟩; conv => whnf)
      | (refine ⟨(2 : Nat), rfl, Nat.le_of_ble_eq_true rfl, ?_⟩; conv => whnf))
    refine Bc_intro (fun h2 => ?_) (fun h2 => ?_)
    · have h2 : (b.getD (h.getD y 0) 0 == b.getD (h.getD x 0) 0) = true := h2
      have h2' : (b.getD (h.getD x 0) 0 == b.getD (h.getD y 0) 0) = true := by rw [eq_of_beq h2]; simp
      conv => whnf
      refine Bc_intro (fun h3 => ?_) (fun h3 => ?_)
      · have h3 : decide ((((h.getD y 0) : Nat) : Int) < (((h.getD x 0) : Nat) : Int)) = true := h3
        have hsw : swapB b (h.getD x 0) (h.getD y 0) = true := by simp only [swapB, gt_iff_lt, h1, h2', h3, Bool.false_or, Bool.true_and]
        have hbc := hbn (h.getD x 0) ha
        have hw : IntKind.i64.wrap (z - 1) = z - 1 := wrap_id (by omega) (by omega)
        conv => whnf
        repeat (first
          | (refine ⟨_, nats_m rfl (by first | omega | (dsimp only; omega)), ?_⟩; conv => whnf)
          | (refine ⟨_, ints_m rfl (by first | omega | (dsimp only; omega)), ?_⟩; conv => whnf)
          | (refine ⟨_, ints_p rfl (by first | omega | (dsimp only; omega)), ?_⟩; conv => whnf)
          | (refine ⟨_, rows_m rfl (by first | omega | (dsimp only; omega)), ?_⟩; conv => whnf)
          | (refine ⟨(D.int .i64 _ : D), rfl, ?_⟩; conv => whnf)
          | (refine ⟨(_ : Nat), rfl, (show (_ : Nat) < _ by first | omega | (dsimp only; omega)), ?_⟩; conv => whnf)
          | (refine ⟨(_ : Nat), rfl, (show (_ : Nat) ≤ _ by first | omega | (dsimp only; omega)), ?_⟩; conv => whnf)
          | (refine ⟨(_ : Nat), wrap_pred (by omega), (show (_ : Nat) < _ by first | omega | (dsimp only; omega)), ?_⟩; conv => whnf)
          | (refine ⟨(0 : Nat), rfl, Nat.le_of_ble_eq_true rfl, ?_⟩; conv => whnf)
          | (refine ⟨(1 : Nat), rfl, Nat.le_of_ble_eq_true rfl, ?_⟩; conv => whnf)
          | (refine ⟨(2 : Nat), rfl, Nat.le_of_ble_eq_true rfl, ?_⟩; conv => whnf))
        refine Bc_intro (fun hd => ?_) (fun hd => ?_)
        · have hd : b.getD (h.getD x 0) 0 ≤ IntKind.i64.wrap (z - 1) := of_decide_eq_true hd
          rw [hw] at hd
          have hdie : die b z (h.getD x 0) out = out ++ [((b.getD (h.getD x 0) 0).toNat, (z - 1).toNat, 0)] := if_pos hd
          have hdl2 : out.length + 1 = (die b z (h.getD x 0) out).length := by rw [hdie]; simp
          have hrow : barsD out ++ [D.int .i64 (b.getD (h.getD x 0) 0), D.int .i64 (IntKind.i64.wrap (z - 1)), D.int .i64 0] = barsD (die b z (h.getD x 0) out) := by
            rw [hdie, barsD_append, barsD_one, hw, barD]
            rw [Int.toNat_of_nonneg hbc.1, Int.toNat_of_nonneg (by omega)]; rfl
          conv => whnf
          repeat (first
            | (refine ⟨_, nats_m rfl (by first | omega | (dsimp only; omega)), ?_⟩; conv => whnf)
            | (refine ⟨_, ints_m rfl (by first | omega | (dsimp only; omega)), ?_⟩; conv => whnf)
            | (refine ⟨_, ints_p rfl (by first | omega | (dsimp only; omega)), ?_⟩; conv => whnf)
            | (refine ⟨_, rows_m rfl (by first | omega | (dsimp only; omega)), ?_⟩; conv => whnf)
            | (refine ⟨(D.int .i64 _ : D), rfl, ?_⟩; conv => whnf)
            | (refine ⟨(_ : Nat), rfl, (show (_ : Nat) < _ by first | omega | (dsimp only; omega)), ?_⟩; conv => whnf)
            | (refine ⟨(_ : Nat), rfl, (show (_ : Nat) ≤ _ by first | omega | (dsimp only; omega)), ?_⟩; conv => whnf)
            | (refine ⟨(_ : Nat), wrap_pred (by omega), (show (_ : Nat) < _ by first | omega | (dsimp only; omega)), ?_⟩; conv => whnf)
            | (refine ⟨(0 : Nat), rfl, Nat.le_of_ble_eq_true rfl, ?_⟩; conv => whnf)
            | (refine ⟨(1 : Nat), rfl, Nat.le_of_ble_eq_true rfl, ?_⟩; conv => whnf)
            | (refine ⟨(2 : Nat), rfl, Nat.le_of_ble_eq_true rfl, ?_⟩; conv => whnf))
          refine ⟨false, .inr (.inl rfl), .inr (.inr (by intro q hq; simp only [List.mem_cons, List.not_mem_nil, or_false] at hq; rcases hq with rfl | rfl | rfl <;> rfl)), rfl, sizeLim_of (by show (out.length + 1) * 24 ≤ _; omega), intLim_of' (show out.length + 1 ≤ 9223372036854775807 by omega), ?_⟩
          conv => whnf
          refine ⟨Nat, [], [1, 5, 7, 10, 11, 38, 39, 40, 113, 114, 115], fun k => [.op 0 0, .ow 2 b.length, .ow 3 (die b z (h.getD x 0) out).length, .int .i64 ((h.getD y 0) : Nat), .int .i64 ((h.getD x 0) : Nat), .ow 1 es.length, .int .i64 es.length, .int .i64 (j : Int), .ow 2 b.length, .int .i64 b.length, .int .i64 (k : Int)], fun k => [some (.var 28 [.int .i64 s, .rs true false (ints b) b.length, .rs true false (rows es) es.length]), some (.row 22 true (rows (esort es))), some (.row 3 false (nats (renTo (h.getD y 0) (h.getD x 0) h k))), some (.row 49 false (barsD (die b z (h.getD x 0) out)))], fun k => k ≤ b.length, fun k => b.length - k, 4, fun _ => rfl, rfl,
            ⟨_, 0, rfl, Nat.zero_le _, ?_, ?_, rfl, rfl⟩, fun k hk => ?_⟩
          · exact VO11 hdl2
          · exact row4 (renTo_zero _ _ _ ▸ rfl) hrow
          have hk : k ≤ b.length := hk
          conv => whnf
          refine Bc_intro (fun hkb => ?_) (fun hkb => ?_)
          · have hkb : (k : Int) < b.length := of_decide_eq_true hkb
            have hkl : k < h.length := by omega
            have hgk : h.getD k 0 = h[k] := by simp [hkl]
            have hrg : (renTo (h.getD y 0) (h.getD x 0) h k).getD k 0 = h[k] := by
              have := renTo_get (h.getD y 0) (h.getD x 0) h k hkl
              rw [List.getD_eq_getElem?_getD, this]; rfl
            have hrl := renTo_len (h.getD y 0) (h.getD x 0) h k (by omega)
            have hrs := renTo_succ (h.getD y 0) (h.getD x 0) h k hkl
            have hdl := die_len b z (h.getD x 0) out
            conv => whnf
            repeat (first
              | (refine ⟨_, nats_m rfl (by first | omega | (dsimp only; omega)), ?_⟩; conv => whnf)
              | (refine ⟨_, ints_m rfl (by first | omega | (dsimp only; omega)), ?_⟩; conv => whnf)
              | (refine ⟨_, ints_p rfl (by first | omega | (dsimp only; omega)), ?_⟩; conv => whnf)
              | (refine ⟨_, rows_m rfl (by first | omega | (dsimp only; omega)), ?_⟩; conv => whnf)
              | (refine ⟨(D.int .i64 _ : D), rfl, ?_⟩; conv => whnf)
              | (refine ⟨(_ : Nat), rfl, (show (_ : Nat) < _ by first | omega | (dsimp only; omega)), ?_⟩; conv => whnf)
              | (refine ⟨(_ : Nat), rfl, (show (_ : Nat) ≤ _ by first | omega | (dsimp only; omega)), ?_⟩; conv => whnf)
              | (refine ⟨(_ : Nat), wrap_pred (by omega), (show (_ : Nat) < _ by first | omega | (dsimp only; omega)), ?_⟩; conv => whnf)
              | (refine ⟨(0 : Nat), rfl, Nat.le_of_ble_eq_true rfl, ?_⟩; conv => whnf)
              | (refine ⟨(1 : Nat), rfl, Nat.le_of_ble_eq_true rfl, ?_⟩; conv => whnf)
              | (refine ⟨(2 : Nat), rfl, Nat.le_of_ble_eq_true rfl, ?_⟩; conv => whnf))
            refine Bc_intro (fun hq => ?_) (fun hq => ?_)
            · have hq : h[k] = (h.getD x 0) := by
                have hq := eq_of_beq (show ((((renTo (h.getD y 0) (h.getD x 0) h k).getD k 0 : Nat) : Int) == (((h.getD x 0) : Nat) : Int)) = true from hq)
                rw [hrg] at hq; omega
              rw [if_pos hq] at hrs
              conv => whnf
              repeat (first
                | (refine ⟨_, nats_m rfl (by first | omega | (dsimp only; omega)), ?_⟩; conv => whnf)
                | (refine ⟨_, ints_m rfl (by first | omega | (dsimp only; omega)), ?_⟩; conv => whnf)
                | (refine ⟨_, ints_p rfl (by first | omega | (dsimp only; omega)), ?_⟩; conv => whnf)
                | (refine ⟨_, rows_m rfl (by first | omega | (dsimp only; omega)), ?_⟩; conv => whnf)
                | (refine ⟨(D.int .i64 _ : D), rfl, ?_⟩; conv => whnf)
                | (refine ⟨(_ : Nat), rfl, (show (_ : Nat) < _ by first | omega | (dsimp only; omega)), ?_⟩; conv => whnf)
                | (refine ⟨(_ : Nat), rfl, (show (_ : Nat) ≤ _ by first | omega | (dsimp only; omega)), ?_⟩; conv => whnf)
                | (refine ⟨(_ : Nat), wrap_pred (by omega), (show (_ : Nat) < _ by first | omega | (dsimp only; omega)), ?_⟩; conv => whnf)
                | (refine ⟨(0 : Nat), rfl, Nat.le_of_ble_eq_true rfl, ?_⟩; conv => whnf)
                | (refine ⟨(1 : Nat), rfl, Nat.le_of_ble_eq_true rfl, ?_⟩; conv => whnf)
                | (refine ⟨(2 : Nat), rfl, Nat.le_of_ble_eq_true rfl, ?_⟩; conv => whnf))
              refine ⟨(show k + 1 ≤ (nats (renTo (h.getD y 0) (h.getD x 0) h k)).length by rw [nats_len, hrl]; omega), ?_⟩
              conv => whnf
              refine ⟨k + 1, (by show k + 1 ≤ b.length; omega), (by show b.length - (k + 1) < b.length - k; omega), ?_, ?_, rfl, rfl⟩
              · exact V11 (wrap_succ (k := k) (n := 9223372036854775807) (by omega) (by omega))
              · have e : setND (nats (renTo (h.getD y 0) (h.getD x 0) h k)) k [D.int .i64 (((h.getD y 0) : Nat) : Int)] = nats (renTo (h.getD y 0) (h.getD x 0) h (k + 1)) := by rw [nats_set (by omega), hrs]
                exact row4c e
            · have hq : h[k] ≠ (h.getD x 0) := fun e => by
                have hq : ((((renTo (h.getD y 0) (h.getD x 0) h k).getD k 0 : Nat) : Int) == (((h.getD x 0) : Nat) : Int)) = false := hq
                rw [hrg, e] at hq; simp at hq
              rw [if_neg hq] at hrs
              have hself : (renTo (h.getD y 0) (h.getD x 0) h k).set k h[k] = renTo (h.getD y 0) (h.getD x 0) h k := by
                apply List.ext_getElem?
                intro i
                rw [List.getElem?_set]
                split
                · rename_i e; subst e; rw [renTo_get _ _ _ _ hkl, if_pos (by omega)]
                · rfl
              rw [hself] at hrs
              conv => whnf
              refine ⟨k + 1, (by show k + 1 ≤ b.length; omega), (by show b.length - (k + 1) < b.length - k; omega), ?_, ?_, rfl, rfl⟩
              · exact V11 (wrap_succ (k := k) (n := 9223372036854775807) (by omega) (by omega))
              · have e : nats (renTo (h.getD y 0) (h.getD x 0) h k) = nats (renTo (h.getD y 0) (h.getD x 0) h (k + 1)) := by rw [hrs]
                exact row4c e
          · have hkb : ¬ (k : Int) < b.length := of_decide_eq_false hkb
            have : k = b.length := by omega
            subst this
            have hdl := die_len b z (h.getD x 0) out
            have hist : istep b (h, out) [(x : Int), (y : Int), z] = (ren (h.getD y 0) (h.getD x 0) h, die b z (h.getD x 0) out) := by
              simp only [istep, Int.toNat_natCast]
              rw [if_neg hac, if_pos hsw]
            rw [hist] at hft
            conv => whnf
            refine ⟨(j + 1, ren (h.getD y 0) (h.getD x 0) h, die b z (h.getD x 0) out), ⟨by show j + 1 ≤ es.length; omega, by show (ren _ _ _).length = _; rw [ren_len, i2], ren_lt hc i3, by show (die _ _ _ _).length ≤ j + 1; omega, hft.symm⟩, (by show es.length - (j + 1) < es.length - j; omega), ?_, ?_, rfl, rfl⟩
            · exact V6 (wrap_succ (k := j) (n := 9223372036854775807) (by omega) (by omega))
            · have e : nats (renTo (h.getD y 0) (h.getD x 0) h b.length) = nats (ren (h.getD y 0) (h.getD x 0) h) := by rw [← i2, renTo_full]
              exact row4c e
        · have hd : ¬ b.getD (h.getD x 0) 0 ≤ IntKind.i64.wrap (z - 1) := of_decide_eq_false hd
          rw [hw] at hd
          have hdie : die b z (h.getD x 0) out = out := if_neg hd
          conv => whnf
          refine ⟨Nat, [], [1, 5, 7, 10, 11, 38, 39, 40, 113, 114, 115], fun k => [.op 0 0, .ow 2 b.length, .ow 3 (die b z (h.getD x 0) out).length, .int .i64 ((h.getD y 0) : Nat), .int .i64 ((h.getD x 0) : Nat), .ow 1 es.length, .int .i64 es.length, .int .i64 (j : Int), .ow 2 b.length, .int .i64 b.length, .int .i64 (k : Int)], fun k => [some (.var 28 [.int .i64 s, .rs true false (ints b) b.length, .rs true false (rows es) es.length]), some (.row 22 true (rows (esort es))), some (.row 3 false (nats (renTo (h.getD y 0) (h.getD x 0) h k))), some (.row 49 false (barsD (die b z (h.getD x 0) out)))], fun k => k ≤ b.length, fun k => b.length - k, 4, fun _ => rfl, rfl,
            ⟨_, 0, rfl, Nat.zero_le _, ?_, ?_, rfl, rfl⟩, fun k hk => ?_⟩
          · exact VO11 (by rw [hdie])
          · exact row4 (by rw [renTo_zero]) (by rw [hdie])
          have hk : k ≤ b.length := hk
          conv => whnf
          refine Bc_intro (fun hkb => ?_) (fun hkb => ?_)
          · have hkb : (k : Int) < b.length := of_decide_eq_true hkb
            have hkl : k < h.length := by omega
            have hgk : h.getD k 0 = h[k] := by simp [hkl]
            have hrg : (renTo (h.getD y 0) (h.getD x 0) h k).getD k 0 = h[k] := by
              have := renTo_get (h.getD y 0) (h.getD x 0) h k hkl
              rw [List.getD_eq_getElem?_getD, this]; rfl
            have hrl := renTo_len (h.getD y 0) (h.getD x 0) h k (by omega)
            have hrs := renTo_succ (h.getD y 0) (h.getD x 0) h k hkl
            have hdl := die_len b z (h.getD x 0) out
            conv => whnf
            repeat (first
              | (refine ⟨_, nats_m rfl (by first | omega | (dsimp only; omega)), ?_⟩; conv => whnf)
              | (refine ⟨_, ints_m rfl (by first | omega | (dsimp only; omega)), ?_⟩; conv => whnf)
              | (refine ⟨_, ints_p rfl (by first | omega | (dsimp only; omega)), ?_⟩; conv => whnf)
              | (refine ⟨_, rows_m rfl (by first | omega | (dsimp only; omega)), ?_⟩; conv => whnf)
              | (refine ⟨(D.int .i64 _ : D), rfl, ?_⟩; conv => whnf)
              | (refine ⟨(_ : Nat), rfl, (show (_ : Nat) < _ by first | omega | (dsimp only; omega)), ?_⟩; conv => whnf)
              | (refine ⟨(_ : Nat), rfl, (show (_ : Nat) ≤ _ by first | omega | (dsimp only; omega)), ?_⟩; conv => whnf)
              | (refine ⟨(_ : Nat), wrap_pred (by omega), (show (_ : Nat) < _ by first | omega | (dsimp only; omega)), ?_⟩; conv => whnf)
              | (refine ⟨(0 : Nat), rfl, Nat.le_of_ble_eq_true rfl, ?_⟩; conv => whnf)
              | (refine ⟨(1 : Nat), rfl, Nat.le_of_ble_eq_true rfl, ?_⟩; conv => whnf)
              | (refine ⟨(2 : Nat), rfl, Nat.le_of_ble_eq_true rfl, ?_⟩; conv => whnf))
            refine Bc_intro (fun hq => ?_) (fun hq => ?_)
            · have hq : h[k] = (h.getD x 0) := by
                have hq := eq_of_beq (show ((((renTo (h.getD y 0) (h.getD x 0) h k).getD k 0 : Nat) : Int) == (((h.getD x 0) : Nat) : Int)) = true from hq)
                rw [hrg] at hq; omega
              rw [if_pos hq] at hrs
              conv => whnf
              repeat (first
                | (refine ⟨_, nats_m rfl (by first | omega | (dsimp only; omega)), ?_⟩; conv => whnf)
                | (refine ⟨_, ints_m rfl (by first | omega | (dsimp only; omega)), ?_⟩; conv => whnf)
                | (refine ⟨_, ints_p rfl (by first | omega | (dsimp only; omega)), ?_⟩; conv => whnf)
                | (refine ⟨_, rows_m rfl (by first | omega | (dsimp only; omega)), ?_⟩; conv => whnf)
                | (refine ⟨(D.int .i64 _ : D), rfl, ?_⟩; conv => whnf)
                | (refine ⟨(_ : Nat), rfl, (show (_ : Nat) < _ by first | omega | (dsimp only; omega)), ?_⟩; conv => whnf)
                | (refine ⟨(_ : Nat), rfl, (show (_ : Nat) ≤ _ by first | omega | (dsimp only; omega)), ?_⟩; conv => whnf)
                | (refine ⟨(_ : Nat), wrap_pred (by omega), (show (_ : Nat) < _ by first | omega | (dsimp only; omega)), ?_⟩; conv => whnf)
                | (refine ⟨(0 : Nat), rfl, Nat.le_of_ble_eq_true rfl, ?_⟩; conv => whnf)
                | (refine ⟨(1 : Nat), rfl, Nat.le_of_ble_eq_true rfl, ?_⟩; conv => whnf)
                | (refine ⟨(2 : Nat), rfl, Nat.le_of_ble_eq_true rfl, ?_⟩; conv => whnf))
              refine ⟨(show k + 1 ≤ (nats (renTo (h.getD y 0) (h.getD x 0) h k)).length by rw [nats_len, hrl]; omega), ?_⟩
              conv => whnf
              refine ⟨k + 1, (by show k + 1 ≤ b.length; omega), (by show b.length - (k + 1) < b.length - k; omega), ?_, ?_, rfl, rfl⟩
              · exact V11 (wrap_succ (k := k) (n := 9223372036854775807) (by omega) (by omega))
              · have e : setND (nats (renTo (h.getD y 0) (h.getD x 0) h k)) k [D.int .i64 (((h.getD y 0) : Nat) : Int)] = nats (renTo (h.getD y 0) (h.getD x 0) h (k + 1)) := by rw [nats_set (by omega), hrs]
                exact row4c e
            · have hq : h[k] ≠ (h.getD x 0) := fun e => by
                have hq : ((((renTo (h.getD y 0) (h.getD x 0) h k).getD k 0 : Nat) : Int) == (((h.getD x 0) : Nat) : Int)) = false := hq
                rw [hrg, e] at hq; simp at hq
              rw [if_neg hq] at hrs
              have hself : (renTo (h.getD y 0) (h.getD x 0) h k).set k h[k] = renTo (h.getD y 0) (h.getD x 0) h k := by
                apply List.ext_getElem?
                intro i
                rw [List.getElem?_set]
                split
                · rename_i e; subst e; rw [renTo_get _ _ _ _ hkl, if_pos (by omega)]
                · rfl
              rw [hself] at hrs
              conv => whnf
              refine ⟨k + 1, (by show k + 1 ≤ b.length; omega), (by show b.length - (k + 1) < b.length - k; omega), ?_, ?_, rfl, rfl⟩
              · exact V11 (wrap_succ (k := k) (n := 9223372036854775807) (by omega) (by omega))
              · have e : nats (renTo (h.getD y 0) (h.getD x 0) h k) = nats (renTo (h.getD y 0) (h.getD x 0) h (k + 1)) := by rw [hrs]
                exact row4c e
          · have hkb : ¬ (k : Int) < b.length := of_decide_eq_false hkb
            have : k = b.length := by omega
            subst this
            have hdl := die_len b z (h.getD x 0) out
            have hist : istep b (h, out) [(x : Int), (y : Int), z] = (ren (h.getD y 0) (h.getD x 0) h, die b z (h.getD x 0) out) := by
              simp only [istep, Int.toNat_natCast]
              rw [if_neg hac, if_pos hsw]
            rw [hist] at hft
            conv => whnf
            refine ⟨(j + 1, ren (h.getD y 0) (h.getD x 0) h, die b z (h.getD x 0) out), ⟨by show j + 1 ≤ es.length; omega, by show (ren _ _ _).length = _; rw [ren_len, i2], ren_lt hc i3, by show (die _ _ _ _).length ≤ j + 1; omega, hft.symm⟩, (by show es.length - (j + 1) < es.length - j; omega), ?_, ?_, rfl, rfl⟩
            · exact V6 (wrap_succ (k := j) (n := 9223372036854775807) (by omega) (by omega))
            · have e : nats (renTo (h.getD y 0) (h.getD x 0) h b.length) = nats (ren (h.getD y 0) (h.getD x 0) h) := by rw [← i2, renTo_full]
              exact row4c e
      · have h3 : decide ((((h.getD y 0) : Nat) : Int) < (((h.getD x 0) : Nat) : Int)) = false := h3
        have hsw : swapB b (h.getD x 0) (h.getD y 0) = false := by simp only [swapB, gt_iff_lt, h1, h2', h3, Bool.false_or, Bool.true_and]
        have hbc := hbn (h.getD y 0) hc
        have hw : IntKind.i64.wrap (z - 1) = z - 1 := wrap_id (by omega) (by omega)
        conv => whnf
        repeat (first
          | (refine ⟨_, nats_m rfl (by first | omega | (dsimp only; omega)), ?_⟩; conv => whnf)
          | (refine ⟨_, ints_m rfl (by first | omega | (dsimp only; omega)), ?_⟩; conv => whnf)
          | (refine ⟨_, ints_p rfl (by first | omega | (dsimp only; omega)), ?_⟩; conv => whnf)
          | (refine ⟨_, rows_m rfl (by first | omega | (dsimp only; omega)), ?_⟩; conv => whnf)
          | (refine ⟨(D.int .i64 _ : D), rfl, ?_⟩; conv => whnf)
          | (refine ⟨(_ : Nat), rfl, (show (_ : Nat) < _ by first | omega | (dsimp only; omega)), ?_⟩; conv => whnf)
          | (refine ⟨(_ : Nat), rfl, (show (_ : Nat) ≤ _ by first | omega | (dsimp only; omega)), ?_⟩; conv => whnf)
          | (refine ⟨(_ : Nat), wrap_pred (by omega), (show (_ : Nat) < _ by first | omega | (dsimp only; omega)), ?_⟩; conv => whnf)
          | (refine ⟨(0 : Nat), rfl, Nat.le_of_ble_eq_true rfl, ?_⟩; conv => whnf)
          | (refine ⟨(1 : Nat), rfl, Nat.le_of_ble_eq_true rfl, ?_⟩; conv => whnf)
          | (refine ⟨(2 : Nat), rfl, Nat.le_of_ble_eq_true rfl, ?_⟩; conv => whnf))
        refine Bc_intro (fun hd => ?_) (fun hd => ?_)
        · have hd : b.getD (h.getD y 0) 0 ≤ IntKind.i64.wrap (z - 1) := of_decide_eq_true hd
          rw [hw] at hd
          have hdie : die b z (h.getD y 0) out = out ++ [((b.getD (h.getD y 0) 0).toNat, (z - 1).toNat, 0)] := if_pos hd
          have hdl2 : out.length + 1 = (die b z (h.getD y 0) out).length := by rw [hdie]; simp
          have hrow : barsD out ++ [D.int .i64 (b.getD (h.getD y 0) 0), D.int .i64 (IntKind.i64.wrap (z - 1)), D.int .i64 0] = barsD (die b z (h.getD y 0) out) := by
            rw [hdie, barsD_append, barsD_one, hw, barD]
            rw [Int.toNat_of_nonneg hbc.1, Int.toNat_of_nonneg (by omega)]; rfl
          conv => whnf
          repeat (first
            | (refine ⟨_, nats_m rfl (by first | omega | (dsimp only; omega)), ?_⟩; conv => whnf)
            | (refine ⟨_, ints_m rfl (by first | omega | (dsimp only; omega)), ?_⟩; conv => whnf)
            | (refine ⟨_, ints_p rfl (by first | omega | (dsimp only; omega)), ?_⟩; conv => whnf)
            | (refine ⟨_, rows_m rfl (by first | omega | (dsimp only; omega)), ?_⟩; conv => whnf)
            | (refine ⟨(D.int .i64 _ : D), rfl, ?_⟩; conv => whnf)
            | (refine ⟨(_ : Nat), rfl, (show (_ : Nat) < _ by first | omega | (dsimp only; omega)), ?_⟩; conv => whnf)
            | (refine ⟨(_ : Nat), rfl, (show (_ : Nat) ≤ _ by first | omega | (dsimp only; omega)), ?_⟩; conv => whnf)
            | (refine ⟨(_ : Nat), wrap_pred (by omega), (show (_ : Nat) < _ by first | omega | (dsimp only; omega)), ?_⟩; conv => whnf)
            | (refine ⟨(0 : Nat), rfl, Nat.le_of_ble_eq_true rfl, ?_⟩; conv => whnf)
            | (refine ⟨(1 : Nat), rfl, Nat.le_of_ble_eq_true rfl, ?_⟩; conv => whnf)
            | (refine ⟨(2 : Nat), rfl, Nat.le_of_ble_eq_true rfl, ?_⟩; conv => whnf))
          refine ⟨false, .inr (.inl rfl), .inr (.inr (by intro q hq; simp only [List.mem_cons, List.not_mem_nil, or_false] at hq; rcases hq with rfl | rfl | rfl <;> rfl)), rfl, sizeLim_of (by show (out.length + 1) * 24 ≤ _; omega), intLim_of' (show out.length + 1 ≤ 9223372036854775807 by omega), ?_⟩
          conv => whnf
          refine ⟨Nat, [], [1, 5, 7, 10, 11, 38, 39, 40, 113, 114, 115], fun k => [.op 0 0, .ow 2 b.length, .ow 3 (die b z (h.getD y 0) out).length, .int .i64 ((h.getD x 0) : Nat), .int .i64 ((h.getD y 0) : Nat), .ow 1 es.length, .int .i64 es.length, .int .i64 (j : Int), .ow 2 b.length, .int .i64 b.length, .int .i64 (k : Int)], fun k => [some (.var 28 [.int .i64 s, .rs true false (ints b) b.length, .rs true false (rows es) es.length]), some (.row 22 true (rows (esort es))), some (.row 3 false (nats (renTo (h.getD x 0) (h.getD y 0) h k))), some (.row 49 false (barsD (die b z (h.getD y 0) out)))], fun k => k ≤ b.length, fun k => b.length - k, 4, fun _ => rfl, rfl,
            ⟨_, 0, rfl, Nat.zero_le _, ?_, ?_, rfl, rfl⟩, fun k hk => ?_⟩
          · exact VO11 hdl2
          · exact row4 (renTo_zero _ _ _ ▸ rfl) hrow
          have hk : k ≤ b.length := hk
          conv => whnf
          refine Bc_intro (fun hkb => ?_) (fun hkb => ?_)
          · have hkb : (k : Int) < b.length := of_decide_eq_true hkb
            have hkl : k < h.length := by omega
            have hgk : h.getD k 0 = h[k] := by simp [hkl]
            have hrg : (renTo (h.getD x 0) (h.getD y 0) h k).getD k 0 = h[k] := by
              have := renTo_get (h.getD x 0) (h.getD y 0) h k hkl
              rw [List.getD_eq_getElem?_getD, this]; rfl
            have hrl := renTo_len (h.getD x 0) (h.getD y 0) h k (by omega)
            have hrs := renTo_succ (h.getD x 0) (h.getD y 0) h k hkl
            have hdl := die_len b z (h.getD y 0) out
            conv => whnf
            repeat (first
              | (refine ⟨_, nats_m rfl (by first | omega | (dsimp only; omega)), ?_⟩; conv => whnf)
              | (refine ⟨_, ints_m rfl (by first | omega | (dsimp only; omega)), ?_⟩; conv => whnf)
              | (refine ⟨_, ints_p rfl (by first | omega | (dsimp only; omega)), ?_⟩; conv => whnf)
              | (refine ⟨_, rows_m rfl (by first | omega | (dsimp only; omega)), ?_⟩; conv => whnf)
              | (refine ⟨(D.int .i64 _ : D), rfl, ?_⟩; conv => whnf)
              | (refine ⟨(_ : Nat), rfl, (show (_ : Nat) < _ by first | omega | (dsimp only; omega)), ?_⟩; conv => whnf)
              | (refine ⟨(_ : Nat), rfl, (show (_ : Nat) ≤ _ by first | omega | (dsimp only; omega)), ?_⟩; conv => whnf)
              | (refine ⟨(_ : Nat), wrap_pred (by omega), (show (_ : Nat) < _ by first | omega | (dsimp only; omega)), ?_⟩; conv => whnf)
              | (refine ⟨(0 : Nat), rfl, Nat.le_of_ble_eq_true rfl, ?_⟩; conv => whnf)
              | (refine ⟨(1 : Nat), rfl, Nat.le_of_ble_eq_true rfl, ?_⟩; conv => whnf)
              | (refine ⟨(2 : Nat), rfl, Nat.le_of_ble_eq_true rfl, ?_⟩; conv => whnf))
            refine Bc_intro (fun hq => ?_) (fun hq => ?_)
            · have hq : h[k] = (h.getD y 0) := by
                have hq := eq_of_beq (show ((((renTo (h.getD x 0) (h.getD y 0) h k).getD k 0 : Nat) : Int) == (((h.getD y 0) : Nat) : Int)) = true from hq)
                rw [hrg] at hq; omega
              rw [if_pos hq] at hrs
              conv => whnf
              repeat (first
                | (refine ⟨_, nats_m rfl (by first | omega | (dsimp only; omega)), ?_⟩; conv => whnf)
                | (refine ⟨_, ints_m rfl (by first | omega | (dsimp only; omega)), ?_⟩; conv => whnf)
                | (refine ⟨_, ints_p rfl (by first | omega | (dsimp only; omega)), ?_⟩; conv => whnf)
                | (refine ⟨_, rows_m rfl (by first | omega | (dsimp only; omega)), ?_⟩; conv => whnf)
                | (refine ⟨(D.int .i64 _ : D), rfl, ?_⟩; conv => whnf)
                | (refine ⟨(_ : Nat), rfl, (show (_ : Nat) < _ by first | omega | (dsimp only; omega)), ?_⟩; conv => whnf)
                | (refine ⟨(_ : Nat), rfl, (show (_ : Nat) ≤ _ by first | omega | (dsimp only; omega)), ?_⟩; conv => whnf)
                | (refine ⟨(_ : Nat), wrap_pred (by omega), (show (_ : Nat) < _ by first | omega | (dsimp only; omega)), ?_⟩; conv => whnf)
                | (refine ⟨(0 : Nat), rfl, Nat.le_of_ble_eq_true rfl, ?_⟩; conv => whnf)
                | (refine ⟨(1 : Nat), rfl, Nat.le_of_ble_eq_true rfl, ?_⟩; conv => whnf)
                | (refine ⟨(2 : Nat), rfl, Nat.le_of_ble_eq_true rfl, ?_⟩; conv => whnf))
              refine ⟨(show k + 1 ≤ (nats (renTo (h.getD x 0) (h.getD y 0) h k)).length by rw [nats_len, hrl]; omega), ?_⟩
              conv => whnf
              refine ⟨k + 1, (by show k + 1 ≤ b.length; omega), (by show b.length - (k + 1) < b.length - k; omega), ?_, ?_, rfl, rfl⟩
              · exact V11 (wrap_succ (k := k) (n := 9223372036854775807) (by omega) (by omega))
              · have e : setND (nats (renTo (h.getD x 0) (h.getD y 0) h k)) k [D.int .i64 (((h.getD x 0) : Nat) : Int)] = nats (renTo (h.getD x 0) (h.getD y 0) h (k + 1)) := by rw [nats_set (by omega), hrs]
                exact row4c e
            · have hq : h[k] ≠ (h.getD y 0) := fun e => by
                have hq : ((((renTo (h.getD x 0) (h.getD y 0) h k).getD k 0 : Nat) : Int) == (((h.getD y 0) : Nat) : Int)) = false := hq
                rw [hrg, e] at hq; simp at hq
              rw [if_neg hq] at hrs
              have hself : (renTo (h.getD x 0) (h.getD y 0) h k).set k h[k] = renTo (h.getD x 0) (h.getD y 0) h k := by
                apply List.ext_getElem?
                intro i
                rw [List.getElem?_set]
                split
                · rename_i e; subst e; rw [renTo_get _ _ _ _ hkl, if_pos (by omega)]
                · rfl
              rw [hself] at hrs
              conv => whnf
              refine ⟨k + 1, (by show k + 1 ≤ b.length; omega), (by show b.length - (k + 1) < b.length - k; omega), ?_, ?_, rfl, rfl⟩
              · exact V11 (wrap_succ (k := k) (n := 9223372036854775807) (by omega) (by omega))
              · have e : nats (renTo (h.getD x 0) (h.getD y 0) h k) = nats (renTo (h.getD x 0) (h.getD y 0) h (k + 1)) := by rw [hrs]
                exact row4c e
          · have hkb : ¬ (k : Int) < b.length := of_decide_eq_false hkb
            have : k = b.length := by omega
            subst this
            have hdl := die_len b z (h.getD y 0) out
            have hist : istep b (h, out) [(x : Int), (y : Int), z] = (ren (h.getD x 0) (h.getD y 0) h, die b z (h.getD y 0) out) := by
              simp only [istep, Int.toNat_natCast]
              rw [if_neg hac, if_neg (by rw [hsw]; simp)]
            rw [hist] at hft
            conv => whnf
            refine ⟨(j + 1, ren (h.getD x 0) (h.getD y 0) h, die b z (h.getD y 0) out), ⟨by show j + 1 ≤ es.length; omega, by show (ren _ _ _).length = _; rw [ren_len, i2], ren_lt ha i3, by show (die _ _ _ _).length ≤ j + 1; omega, hft.symm⟩, (by show es.length - (j + 1) < es.length - j; omega), ?_, ?_, rfl, rfl⟩
            · exact V6 (wrap_succ (k := j) (n := 9223372036854775807) (by omega) (by omega))
            · have e : nats (renTo (h.getD x 0) (h.getD y 0) h b.length) = nats (ren (h.getD x 0) (h.getD y 0) h) := by rw [← i2, renTo_full]
              exact row4c e
        · have hd : ¬ b.getD (h.getD y 0) 0 ≤ IntKind.i64.wrap (z - 1) := of_decide_eq_false hd
          rw [hw] at hd
          have hdie : die b z (h.getD y 0) out = out := if_neg hd
          conv => whnf
          refine ⟨Nat, [], [1, 5, 7, 10, 11, 38, 39, 40, 113, 114, 115], fun k => [.op 0 0, .ow 2 b.length, .ow 3 (die b z (h.getD y 0) out).length, .int .i64 ((h.getD x 0) : Nat), .int .i64 ((h.getD y 0) : Nat), .ow 1 es.length, .int .i64 es.length, .int .i64 (j : Int), .ow 2 b.length, .int .i64 b.length, .int .i64 (k : Int)], fun k => [some (.var 28 [.int .i64 s, .rs true false (ints b) b.length, .rs true false (rows es) es.length]), some (.row 22 true (rows (esort es))), some (.row 3 false (nats (renTo (h.getD x 0) (h.getD y 0) h k))), some (.row 49 false (barsD (die b z (h.getD y 0) out)))], fun k => k ≤ b.length, fun k => b.length - k, 4, fun _ => rfl, rfl,
            ⟨_, 0, rfl, Nat.zero_le _, ?_, ?_, rfl, rfl⟩, fun k hk => ?_⟩
          · exact VO11 (by rw [hdie])
          · exact row4 (by rw [renTo_zero]) (by rw [hdie])
          have hk : k ≤ b.length := hk
          conv => whnf
          refine Bc_intro (fun hkb => ?_) (fun hkb => ?_)
          · have hkb : (k : Int) < b.length := of_decide_eq_true hkb
            have hkl : k < h.length := by omega
            have hgk : h.getD k 0 = h[k] := by simp [hkl]
            have hrg : (renTo (h.getD x 0) (h.getD y 0) h k).getD k 0 = h[k] := by
              have := renTo_get (h.getD x 0) (h.getD y 0) h k hkl
              rw [List.getD_eq_getElem?_getD, this]; rfl
            have hrl := renTo_len (h.getD x 0) (h.getD y 0) h k (by omega)
            have hrs := renTo_succ (h.getD x 0) (h.getD y 0) h k hkl
            have hdl := die_len b z (h.getD y 0) out
            conv => whnf
            repeat (first
              | (refine ⟨_, nats_m rfl (by first | omega | (dsimp only; omega)), ?_⟩; conv => whnf)
              | (refine ⟨_, ints_m rfl (by first | omega | (dsimp only; omega)), ?_⟩; conv => whnf)
              | (refine ⟨_, ints_p rfl (by first | omega | (dsimp only; omega)), ?_⟩; conv => whnf)
              | (refine ⟨_, rows_m rfl (by first | omega | (dsimp only; omega)), ?_⟩; conv => whnf)
              | (refine ⟨(D.int .i64 _ : D), rfl, ?_⟩; conv => whnf)
              | (refine ⟨(_ : Nat), rfl, (show (_ : Nat) < _ by first | omega | (dsimp only; omega)), ?_⟩; conv => whnf)
              | (refine ⟨(_ : Nat), rfl, (show (_ : Nat) ≤ _ by first | omega | (dsimp only; omega)), ?_⟩; conv => whnf)
              | (refine ⟨(_ : Nat), wrap_pred (by omega), (show (_ : Nat) < _ by first | omega | (dsimp only; omega)), ?_⟩; conv => whnf)
              | (refine ⟨(0 : Nat), rfl, Nat.le_of_ble_eq_true rfl, ?_⟩; conv => whnf)
              | (refine ⟨(1 : Nat), rfl, Nat.le_of_ble_eq_true rfl, ?_⟩; conv => whnf)
              | (refine ⟨(2 : Nat), rfl, Nat.le_of_ble_eq_true rfl, ?_⟩; conv => whnf))
            refine Bc_intro (fun hq => ?_) (fun hq => ?_)
            · have hq : h[k] = (h.getD y 0) := by
                have hq := eq_of_beq (show ((((renTo (h.getD x 0) (h.getD y 0) h k).getD k 0 : Nat) : Int) == (((h.getD y 0) : Nat) : Int)) = true from hq)
                rw [hrg] at hq; omega
              rw [if_pos hq] at hrs
              conv => whnf
              repeat (first
                | (refine ⟨_, nats_m rfl (by first | omega | (dsimp only; omega)), ?_⟩; conv => whnf)
                | (refine ⟨_, ints_m rfl (by first | omega | (dsimp only; omega)), ?_⟩; conv => whnf)
                | (refine ⟨_, ints_p rfl (by first | omega | (dsimp only; omega)), ?_⟩; conv => whnf)
                | (refine ⟨_, rows_m rfl (by first | omega | (dsimp only; omega)), ?_⟩; conv => whnf)
                | (refine ⟨(D.int .i64 _ : D), rfl, ?_⟩; conv => whnf)
                | (refine ⟨(_ : Nat), rfl, (show (_ : Nat) < _ by first | omega | (dsimp only; omega)), ?_⟩; conv => whnf)
                | (refine ⟨(_ : Nat), rfl, (show (_ : Nat) ≤ _ by first | omega | (dsimp only; omega)), ?_⟩; conv => whnf)
                | (refine ⟨(_ : Nat), wrap_pred (by omega), (show (_ : Nat) < _ by first | omega | (dsimp only; omega)), ?_⟩; conv => whnf)
                | (refine ⟨(0 : Nat), rfl, Nat.le_of_ble_eq_true rfl, ?_⟩; conv => whnf)
                | (refine ⟨(1 : Nat), rfl, Nat.le_of_ble_eq_true rfl, ?_⟩; conv => whnf)
                | (refine ⟨(2 : Nat), rfl, Nat.le_of_ble_eq_true rfl, ?_⟩; conv => whnf))
              refine ⟨(show k + 1 ≤ (nats (renTo (h.getD x 0) (h.getD y 0) h k)).length by rw [nats_len, hrl]; omega), ?_⟩
              conv => whnf
              refine ⟨k + 1, (by show k + 1 ≤ b.length; omega), (by show b.length - (k + 1) < b.length - k; omega), ?_, ?_, rfl, rfl⟩
              · exact V11 (wrap_succ (k := k) (n := 9223372036854775807) (by omega) (by omega))
              · have e : setND (nats (renTo (h.getD x 0) (h.getD y 0) h k)) k [D.int .i64 (((h.getD x 0) : Nat) : Int)] = nats (renTo (h.getD x 0) (h.getD y 0) h (k + 1)) := by rw [nats_set (by omega), hrs]
                exact row4c e
            · have hq : h[k] ≠ (h.getD y 0) := fun e => by
                have hq : ((((renTo (h.getD x 0) (h.getD y 0) h k).getD k 0 : Nat) : Int) == (((h.getD y 0) : Nat) : Int)) = false := hq
                rw [hrg, e] at hq; simp at hq
              rw [if_neg hq] at hrs
              have hself : (renTo (h.getD x 0) (h.getD y 0) h k).set k h[k] = renTo (h.getD x 0) (h.getD y 0) h k := by
                apply List.ext_getElem?
                intro i
                rw [List.getElem?_set]
                split
                · rename_i e; subst e; rw [renTo_get _ _ _ _ hkl, if_pos (by omega)]
                · rfl
              rw [hself] at hrs
              conv => whnf
              refine ⟨k + 1, (by show k + 1 ≤ b.length; omega), (by show b.length - (k + 1) < b.length - k; omega), ?_, ?_, rfl, rfl⟩
              · exact V11 (wrap_succ (k := k) (n := 9223372036854775807) (by omega) (by omega))
              · have e : nats (renTo (h.getD x 0) (h.getD y 0) h k) = nats (renTo (h.getD x 0) (h.getD y 0) h (k + 1)) := by rw [hrs]
                exact row4c e
          · have hkb : ¬ (k : Int) < b.length := of_decide_eq_false hkb
            have : k = b.length := by omega
            subst this
            have hdl := die_len b z (h.getD y 0) out
            have hist : istep b (h, out) [(x : Int), (y : Int), z] = (ren (h.getD x 0) (h.getD y 0) h, die b z (h.getD y 0) out) := by
              simp only [istep, Int.toNat_natCast]
              rw [if_neg hac, if_neg (by rw [hsw]; simp)]
            rw [hist] at hft
            conv => whnf
            refine ⟨(j + 1, ren (h.getD x 0) (h.getD y 0) h, die b z (h.getD y 0) out), ⟨by show j + 1 ≤ es.length; omega, by show (ren _ _ _).length = _; rw [ren_len, i2], ren_lt ha i3, by show (die _ _ _ _).length ≤ j + 1; omega, hft.symm⟩, (by show es.length - (j + 1) < es.length - j; omega), ?_, ?_, rfl, rfl⟩
            · exact V6 (wrap_succ (k := j) (n := 9223372036854775807) (by omega) (by omega))
            · have e : nats (renTo (h.getD x 0) (h.getD y 0) h b.length) = nats (ren (h.getD x 0) (h.getD y 0) h) := by rw [← i2, renTo_full]
              exact row4c e
    · have h2 : (b.getD (h.getD y 0) 0 == b.getD (h.getD x 0) 0) = false := h2
      have h2' : (b.getD (h.getD x 0) 0 == b.getD (h.getD y 0) 0) = false := by
        rw [beq_eq_false_iff_ne] at h2 ⊢; exact fun e => h2 e.symm
      have hsw : swapB b (h.getD x 0) (h.getD y 0) = false := by simp only [swapB, gt_iff_lt, h1, h2', Bool.false_or, Bool.false_and]
      have hbc := hbn (h.getD y 0) hc
      have hw : IntKind.i64.wrap (z - 1) = z - 1 := wrap_id (by omega) (by omega)
      conv => whnf
      repeat (first
        | (refine ⟨_, nats_m rfl (by first | omega | (dsimp only; omega)), ?_⟩; conv => whnf)
        | (refine ⟨_, ints_m rfl (by first | omega | (dsimp only; omega)), ?_⟩; conv => whnf)
        | (refine ⟨_, ints_p rfl (by first | omega | (dsimp only; omega)), ?_⟩; conv => whnf)
        | (refine ⟨_, rows_m rfl (by first | omega | (dsimp only; omega)), ?_⟩; conv => whnf)
        | (refine ⟨(D.int .i64 _ : D), rfl, ?_⟩; conv => whnf)
        | (refine ⟨(_ : Nat), rfl, (show (_ : Nat) < _ by first | omega | (dsimp only; omega)), ?_⟩; conv => whnf)
        | (refine ⟨(_ : Nat), rfl, (show (_ : Nat) ≤ _ by first | omega | (dsimp only; omega)), ?_⟩; conv => whnf)
        | (refine ⟨(_ : Nat), wrap_pred (by omega), (show (_ : Nat) < _ by first | omega | (dsimp only; omega)), ?_⟩; conv => whnf)
        | (refine ⟨(0 : Nat), rfl, Nat.le_of_ble_eq_true rfl, ?_⟩; conv => whnf)
        | (refine ⟨(1 : Nat), rfl, Nat.le_of_ble_eq_true rfl, ?_⟩; conv => whnf)
        | (refine ⟨(2 : Nat), rfl, Nat.le_of_ble_eq_true rfl, ?_⟩; conv => whnf))
      refine Bc_intro (fun hd => ?_) (fun hd => ?_)
      · have hd : b.getD (h.getD y 0) 0 ≤ IntKind.i64.wrap (z - 1) := of_decide_eq_true hd
        rw [hw] at hd
        have hdie : die b z (h.getD y 0) out = out ++ [((b.getD (h.getD y 0) 0).toNat, (z - 1).toNat, 0)] := if_pos hd
        have hdl2 : out.length + 1 = (die b z (h.getD y 0) out).length := by rw [hdie]; simp
        have hrow : barsD out ++ [D.int .i64 (b.getD (h.getD y 0) 0), D.int .i64 (IntKind.i64.wrap (z - 1)), D.int .i64 0] = barsD (die b z (h.getD y 0) out) := by
          rw [hdie, barsD_append, barsD_one, hw, barD]
          rw [Int.toNat_of_nonneg hbc.1, Int.toNat_of_nonneg (by omega)]; rfl
        conv => whnf
        repeat (first
          | (refine ⟨_, nats_m rfl (by first | omega | (dsimp only; omega)), ?_⟩; conv => whnf)
          | (refine ⟨_, ints_m rfl (by first | omega | (dsimp only; omega)), ?_⟩; conv => whnf)
          | (refine ⟨_, ints_p rfl (by first | omega | (dsimp only; omega)), ?_⟩; conv => whnf)
          | (refine ⟨_, rows_m rfl (by first | omega | (dsimp only; omega)), ?_⟩; conv => whnf)
          | (refine ⟨(D.int .i64 _ : D), rfl, ?_⟩; conv => whnf)
          | (refine ⟨(_ : Nat), rfl, (show (_ : Nat) < _ by first | omega | (dsimp only; omega)), ?_⟩; conv => whnf)
          | (refine ⟨(_ : Nat), rfl, (show (_ : Nat) ≤ _ by first | omega | (dsimp only; omega)), ?_⟩; conv => whnf)
          | (refine ⟨(_ : Nat), wrap_pred (by omega), (show (_ : Nat) < _ by first | omega | (dsimp only; omega)), ?_⟩; conv => whnf)
          | (refine ⟨(0 : Nat), rfl, Nat.le_of_ble_eq_true rfl, ?_⟩; conv => whnf)
          | (refine ⟨(1 : Nat), rfl, Nat.le_of_ble_eq_true rfl, ?_⟩; conv => whnf)
          | (refine ⟨(2 : Nat), rfl, Nat.le_of_ble_eq_true rfl, ?_⟩; conv => whnf))
        refine ⟨false, .inr (.inl rfl), .inr (.inr (by intro q hq; simp only [List.mem_cons, List.not_mem_nil, or_false] at hq; rcases hq with rfl | rfl | rfl <;> rfl)), rfl, sizeLim_of (by show (out.length + 1) * 24 ≤ _; omega), intLim_of' (show out.length + 1 ≤ 9223372036854775807 by omega), ?_⟩
        conv => whnf
        refine ⟨Nat, [], [1, 5, 7, 10, 11, 38, 39, 40, 113, 114, 115], fun k => [.op 0 0, .ow 2 b.length, .ow 3 (die b z (h.getD y 0) out).length, .int .i64 ((h.getD x 0) : Nat), .int .i64 ((h.getD y 0) : Nat), .ow 1 es.length, .int .i64 es.length, .int .i64 (j : Int), .ow 2 b.length, .int .i64 b.length, .int .i64 (k : Int)], fun k => [some (.var 28 [.int .i64 s, .rs true false (ints b) b.length, .rs true false (rows es) es.length]), some (.row 22 true (rows (esort es))), some (.row 3 false (nats (renTo (h.getD x 0) (h.getD y 0) h k))), some (.row 49 false (barsD (die b z (h.getD y 0) out)))], fun k => k ≤ b.length, fun k => b.length - k, 4, fun _ => rfl, rfl,
          ⟨_, 0, rfl, Nat.zero_le _, ?_, ?_, rfl, rfl⟩, fun k hk => ?_⟩
        · exact VO11 hdl2
        · exact row4 (renTo_zero _ _ _ ▸ rfl) hrow
        have hk : k ≤ b.length := hk
        conv => whnf
        refine Bc_intro (fun hkb => ?_) (fun hkb => ?_)
        · have hkb : (k : Int) < b.length := of_decide_eq_true hkb
          have hkl : k < h.length := by omega
          have hgk : h.getD k 0 = h[k] := by simp [hkl]
          have hrg : (renTo (h.getD x 0) (h.getD y 0) h k).getD k 0 = h[k] := by
            have := renTo_get (h.getD x 0) (h.getD y 0) h k hkl
            rw [List.getD_eq_getElem?_getD, this]; rfl
          have hrl := renTo_len (h.getD x 0) (h.getD y 0) h k (by omega)
          have hrs := renTo_succ (h.getD x 0) (h.getD y 0) h k hkl
          have hdl := die_len b z (h.getD y 0) out
          conv => whnf
          repeat (first
            | (refine ⟨_, nats_m rfl (by first | omega | (dsimp only; omega)), ?_⟩; conv => whnf)
            | (refine ⟨_, ints_m rfl (by first | omega | (dsimp only; omega)), ?_⟩; conv => whnf)
            | (refine ⟨_, ints_p rfl (by first | omega | (dsimp only; omega)), ?_⟩; conv => whnf)
            | (refine ⟨_, rows_m rfl (by first | omega | (dsimp only; omega)), ?_⟩; conv => whnf)
            | (refine ⟨(D.int .i64 _ : D), rfl, ?_⟩; conv => whnf)
            | (refine ⟨(_ : Nat), rfl, (show (_ : Nat) < _ by first | omega | (dsimp only; omega)), ?_⟩; conv => whnf)
            | (refine ⟨(_ : Nat), rfl, (show (_ : Nat) ≤ _ by first | omega | (dsimp only; omega)), ?_⟩; conv => whnf)
            | (refine ⟨(_ : Nat), wrap_pred (by omega), (show (_ : Nat) < _ by first | omega | (dsimp only; omega)), ?_⟩; conv => whnf)
            | (refine ⟨(0 : Nat), rfl, Nat.le_of_ble_eq_true rfl, ?_⟩; conv => whnf)
            | (refine ⟨(1 : Nat), rfl, Nat.le_of_ble_eq_true rfl, ?_⟩; conv => whnf)
            | (refine ⟨(2 : Nat), rfl, Nat.le_of_ble_eq_true rfl, ?_⟩; conv => whnf))
          refine Bc_intro (fun hq => ?_) (fun hq => ?_)
          · have hq : h[k] = (h.getD y 0) := by
              have hq := eq_of_beq (show ((((renTo (h.getD x 0) (h.getD y 0) h k).getD k 0 : Nat) : Int) == (((h.getD y 0) : Nat) : Int)) = true from hq)
              rw [hrg] at hq; omega
            rw [if_pos hq] at hrs
            conv => whnf
            repeat (first
              | (refine ⟨_, nats_m rfl (by first | omega | (dsimp only; omega)), ?_⟩; conv => whnf)
              | (refine ⟨_, ints_m rfl (by first | omega | (dsimp only; omega)), ?_⟩; conv => whnf)
              | (refine ⟨_, ints_p rfl (by first | omega | (dsimp only; omega)), ?_⟩; conv => whnf)
              | (refine ⟨_, rows_m rfl (by first | omega | (dsimp only; omega)), ?_⟩; conv => whnf)
              | (refine ⟨(D.int .i64 _ : D), rfl, ?_⟩; conv => whnf)
              | (refine ⟨(_ : Nat), rfl, (show (_ : Nat) < _ by first | omega | (dsimp only; omega)), ?_⟩; conv => whnf)
              | (refine ⟨(_ : Nat), rfl, (show (_ : Nat) ≤ _ by first | omega | (dsimp only; omega)), ?_⟩; conv => whnf)
              | (refine ⟨(_ : Nat), wrap_pred (by omega), (show (_ : Nat) < _ by first | omega | (dsimp only; omega)), ?_⟩; conv => whnf)
              | (refine ⟨(0 : Nat), rfl, Nat.le_of_ble_eq_true rfl, ?_⟩; conv => whnf)
              | (refine ⟨(1 : Nat), rfl, Nat.le_of_ble_eq_true rfl, ?_⟩; conv => whnf)
              | (refine ⟨(2 : Nat), rfl, Nat.le_of_ble_eq_true rfl, ?_⟩; conv => whnf))
            refine ⟨(show k + 1 ≤ (nats (renTo (h.getD x 0) (h.getD y 0) h k)).length by rw [nats_len, hrl]; omega), ?_⟩
            conv => whnf
            refine ⟨k + 1, (by show k + 1 ≤ b.length; omega), (by show b.length - (k + 1) < b.length - k; omega), ?_, ?_, rfl, rfl⟩
            · exact V11 (wrap_succ (k := k) (n := 9223372036854775807) (by omega) (by omega))
            · have e : setND (nats (renTo (h.getD x 0) (h.getD y 0) h k)) k [D.int .i64 (((h.getD x 0) : Nat) : Int)] = nats (renTo (h.getD x 0) (h.getD y 0) h (k + 1)) := by rw [nats_set (by omega), hrs]
              exact row4c e
          · have hq : h[k] ≠ (h.getD y 0) := fun e => by
              have hq : ((((renTo (h.getD x 0) (h.getD y 0) h k).getD k 0 : Nat) : Int) == (((h.getD y 0) : Nat) : Int)) = false := hq
              rw [hrg, e] at hq; simp at hq
            rw [if_neg hq] at hrs
            have hself : (renTo (h.getD x 0) (h.getD y 0) h k).set k h[k] = renTo (h.getD x 0) (h.getD y 0) h k := by
              apply List.ext_getElem?
              intro i
              rw [List.getElem?_set]
              split
              · rename_i e; subst e; rw [renTo_get _ _ _ _ hkl, if_pos (by omega)]
              · rfl
            rw [hself] at hrs
            conv => whnf
            refine ⟨k + 1, (by show k + 1 ≤ b.length; omega), (by show b.length - (k + 1) < b.length - k; omega), ?_, ?_, rfl, rfl⟩
            · exact V11 (wrap_succ (k := k) (n := 9223372036854775807) (by omega) (by omega))
            · have e : nats (renTo (h.getD x 0) (h.getD y 0) h k) = nats (renTo (h.getD x 0) (h.getD y 0) h (k + 1)) := by rw [hrs]
              exact row4c e
        · have hkb : ¬ (k : Int) < b.length := of_decide_eq_false hkb
          have : k = b.length := by omega
          subst this
          have hdl := die_len b z (h.getD y 0) out
          have hist : istep b (h, out) [(x : Int), (y : Int), z] = (ren (h.getD x 0) (h.getD y 0) h, die b z (h.getD y 0) out) := by
            simp only [istep, Int.toNat_natCast]
            rw [if_neg hac, if_neg (by rw [hsw]; simp)]
          rw [hist] at hft
          conv => whnf
          refine ⟨(j + 1, ren (h.getD x 0) (h.getD y 0) h, die b z (h.getD y 0) out), ⟨by show j + 1 ≤ es.length; omega, by show (ren _ _ _).length = _; rw [ren_len, i2], ren_lt ha i3, by show (die _ _ _ _).length ≤ j + 1; omega, hft.symm⟩, (by show es.length - (j + 1) < es.length - j; omega), ?_, ?_, rfl, rfl⟩
          · exact V6 (wrap_succ (k := j) (n := 9223372036854775807) (by omega) (by omega))
          · have e : nats (renTo (h.getD x 0) (h.getD y 0) h b.length) = nats (ren (h.getD x 0) (h.getD y 0) h) := by rw [← i2, renTo_full]
            exact row4c e
      · have hd : ¬ b.getD (h.getD y 0) 0 ≤ IntKind.i64.wrap (z - 1) := of_decide_eq_false hd
        rw [hw] at hd
        have hdie : die b z (h.getD y 0) out = out := if_neg hd
        conv => whnf
        refine ⟨Nat, [], [1, 5, 7, 10, 11, 38, 39, 40, 113, 114, 115], fun k => [.op 0 0, .ow 2 b.length, .ow 3 (die b z (h.getD y 0) out).length, .int .i64 ((h.getD x 0) : Nat), .int .i64 ((h.getD y 0) : Nat), .ow 1 es.length, .int .i64 es.length, .int .i64 (j : Int), .ow 2 b.length, .int .i64 b.length, .int .i64 (k : Int)], fun k => [some (.var 28 [.int .i64 s, .rs true false (ints b) b.length, .rs true false (rows es) es.length]), some (.row 22 true (rows (esort es))), some (.row 3 false (nats (renTo (h.getD x 0) (h.getD y 0) h k))), some (.row 49 false (barsD (die b z (h.getD y 0) out)))], fun k => k ≤ b.length, fun k => b.length - k, 4, fun _ => rfl, rfl,
          ⟨_, 0, rfl, Nat.zero_le _, ?_, ?_, rfl, rfl⟩, fun k hk => ?_⟩
        · exact VO11 (by rw [hdie])
        · exact row4 (by rw [renTo_zero]) (by rw [hdie])
        have hk : k ≤ b.length := hk
        conv => whnf
        refine Bc_intro (fun hkb => ?_) (fun hkb => ?_)
        · have hkb : (k : Int) < b.length := of_decide_eq_true hkb
          have hkl : k < h.length := by omega
          have hgk : h.getD k 0 = h[k] := by simp [hkl]
          have hrg : (renTo (h.getD x 0) (h.getD y 0) h k).getD k 0 = h[k] := by
            have := renTo_get (h.getD x 0) (h.getD y 0) h k hkl
            rw [List.getD_eq_getElem?_getD, this]; rfl
          have hrl := renTo_len (h.getD x 0) (h.getD y 0) h k (by omega)
          have hrs := renTo_succ (h.getD x 0) (h.getD y 0) h k hkl
          have hdl := die_len b z (h.getD y 0) out
          conv => whnf
          repeat (first
            | (refine ⟨_, nats_m rfl (by first | omega | (dsimp only; omega)), ?_⟩; conv => whnf)
            | (refine ⟨_, ints_m rfl (by first | omega | (dsimp only; omega)), ?_⟩; conv => whnf)
            | (refine ⟨_, ints_p rfl (by first | omega | (dsimp only; omega)), ?_⟩; conv => whnf)
            | (refine ⟨_, rows_m rfl (by first | omega | (dsimp only; omega)), ?_⟩; conv => whnf)
            | (refine ⟨(D.int .i64 _ : D), rfl, ?_⟩; conv => whnf)
            | (refine ⟨(_ : Nat), rfl, (show (_ : Nat) < _ by first | omega | (dsimp only; omega)), ?_⟩; conv => whnf)
            | (refine ⟨(_ : Nat), rfl, (show (_ : Nat) ≤ _ by first | omega | (dsimp only; omega)), ?_⟩; conv => whnf)
            | (refine ⟨(_ : Nat), wrap_pred (by omega), (show (_ : Nat) < _ by first | omega | (dsimp only; omega)), ?_⟩; conv => whnf)
            | (refine ⟨(0 : Nat), rfl, Nat.le_of_ble_eq_true rfl, ?_⟩; conv => whnf)
            | (refine ⟨(1 : Nat), rfl, Nat.le_of_ble_eq_true rfl, ?_⟩; conv => whnf)
            | (refine ⟨(2 : Nat), rfl, Nat.le_of_ble_eq_true rfl, ?_⟩; conv => whnf))
          refine Bc_intro (fun hq => ?_) (fun hq => ?_)
          · have hq : h[k] = (h.getD y 0) := by
              have hq := eq_of_beq (show ((((renTo (h.getD x 0) (h.getD y 0) h k).getD k 0 : Nat) : Int) == (((h.getD y 0) : Nat) : Int)) = true from hq)
              rw [hrg] at hq; omega
            rw [if_pos hq] at hrs
            conv => whnf
            repeat (first
              | (refine ⟨_, nats_m rfl (by first | omega | (dsimp only; omega)), ?_⟩; conv => whnf)
              | (refine ⟨_, ints_m rfl (by first | omega | (dsimp only; omega)), ?_⟩; conv => whnf)
              | (refine ⟨_, ints_p rfl (by first | omega | (dsimp only; omega)), ?_⟩; conv => whnf)
              | (refine ⟨_, rows_m rfl (by first | omega | (dsimp only; omega)), ?_⟩; conv => whnf)
              | (refine ⟨(D.int .i64 _ : D), rfl, ?_⟩; conv => whnf)
              | (refine ⟨(_ : Nat), rfl, (show (_ : Nat) < _ by first | omega | (dsimp only; omega)), ?_⟩; conv => whnf)
              | (refine ⟨(_ : Nat), rfl, (show (_ : Nat) ≤ _ by first | omega | (dsimp only; omega)), ?_⟩; conv => whnf)
              | (refine ⟨(_ : Nat), wrap_pred (by omega), (show (_ : Nat) < _ by first | omega | (dsimp only; omega)), ?_⟩; conv => whnf)
              | (refine ⟨(0 : Nat), rfl, Nat.le_of_ble_eq_true rfl, ?_⟩; conv => whnf)
              | (refine ⟨(1 : Nat), rfl, Nat.le_of_ble_eq_true rfl, ?_⟩; conv => whnf)
              | (refine ⟨(2 : Nat), rfl, Nat.le_of_ble_eq_true rfl, ?_⟩; conv => whnf))
            refine ⟨(show k + 1 ≤ (nats (renTo (h.getD x 0) (h.getD y 0) h k)).length by rw [nats_len, hrl]; omega), ?_⟩
            conv => whnf
            refine ⟨k + 1, (by show k + 1 ≤ b.length; omega), (by show b.length - (k + 1) < b.length - k; omega), ?_, ?_, rfl, rfl⟩
            · exact V11 (wrap_succ (k := k) (n := 9223372036854775807) (by omega) (by omega))
            · have e : setND (nats (renTo (h.getD x 0) (h.getD y 0) h k)) k [D.int .i64 (((h.getD x 0) : Nat) : Int)] = nats (renTo (h.getD x 0) (h.getD y 0) h (k + 1)) := by rw [nats_set (by omega), hrs]
              exact row4c e
          · have hq : h[k] ≠ (h.getD y 0) := fun e => by
              have hq : ((((renTo (h.getD x 0) (h.getD y 0) h k).getD k 0 : Nat) : Int) == (((h.getD y 0) : Nat) : Int)) = false := hq
              rw [hrg, e] at hq; simp at hq
            rw [if_neg hq] at hrs
            have hself : (renTo (h.getD x 0) (h.getD y 0) h k).set k h[k] = renTo (h.getD x 0) (h.getD y 0) h k := by
              apply List.ext_getElem?
              intro i
              rw [List.getElem?_set]
              split
              · rename_i e; subst e; rw [renTo_get _ _ _ _ hkl, if_pos (by omega)]
              · rfl
            rw [hself] at hrs
            conv => whnf
            refine ⟨k + 1, (by show k + 1 ≤ b.length; omega), (by show b.length - (k + 1) < b.length - k; omega), ?_, ?_, rfl, rfl⟩
            · exact V11 (wrap_succ (k := k) (n := 9223372036854775807) (by omega) (by omega))
            · have e : nats (renTo (h.getD x 0) (h.getD y 0) h k) = nats (renTo (h.getD x 0) (h.getD y 0) h (k + 1)) := by rw [hrs]
              exact row4c e
        · have hkb : ¬ (k : Int) < b.length := of_decide_eq_false hkb
          have : k = b.length := by omega
          subst this
          have hdl := die_len b z (h.getD y 0) out
          have hist : istep b (h, out) [(x : Int), (y : Int), z] = (ren (h.getD x 0) (h.getD y 0) h, die b z (h.getD y 0) out) := by
            simp only [istep, Int.toNat_natCast]
            rw [if_neg hac, if_neg (by rw [hsw]; simp)]
          rw [hist] at hft
          conv => whnf
          refine ⟨(j + 1, ren (h.getD x 0) (h.getD y 0) h, die b z (h.getD y 0) out), ⟨by show j + 1 ≤ es.length; omega, by show (ren _ _ _).length = _; rw [ren_len, i2], ren_lt ha i3, by show (die _ _ _ _).length ≤ j + 1; omega, hft.symm⟩, (by show es.length - (j + 1) < es.length - j; omega), ?_, ?_, rfl, rfl⟩
          · exact V6 (wrap_succ (k := j) (n := 9223372036854775807) (by omega) (by omega))
          · have e : nats (renTo (h.getD x 0) (h.getD y 0) h b.length) = nats (ren (h.getD x 0) (h.getD y 0) h) := by rw [← i2, renTo_full]
            exact row4c e
  · have hj : ¬ (j : Int) < es.length := of_decide_eq_false hj
    have : j = es.length := by omega
    subst this
    rw [← hEl, List.take_length] at i5
    have hist : ist b (esort es) = (h, out) := i5.symm
    clear hj i5
    conv => whnf
    refine ⟨Nat × List Bar, [], [1, 7, 129, 130, 131], fun a => [.op 0 0, .ow 3 a.2.length, .ow 2 b.length, .int .i64 b.length, .int .i64 (a.1 : Int)], fun a => [some (.var 28 [.int .i64 s, .rs true false (ints b) b.length, .rs true false (rows es) es.length]), some (.row 22 true (rows (esort es))), some (.row 3 false (nats h)), some (.row 49 false (barsD a.2))], fun a => a.1 ≤ b.length ∧ a.2 = out ++ lastTo s b h a.1, fun a => b.length - a.1, 4, fun _ => rfl, rfl,
      ⟨_, (0, out), rfl, ⟨Nat.zero_le _, by simp [lastTo]⟩, rfl, rfl, rfl, rfl⟩, fun a ha => ?_⟩
    obtain ⟨k, o⟩ := a
    obtain ⟨hk, ho⟩ := ha
    simp only at hk ho
    have hll := lastTo_len s b h k
    have hol : o.length ≤ es.length + k := by rw [ho, List.length_append]; omega
    conv => whnf
    refine Bc_intro (fun hkb => ?_) (fun hkb => ?_)
    · have hkb : (k : Int) < b.length := of_decide_eq_true hkb
      have hls := lastTo_succ s b h k
      have hbk := hbn k (by omega)
      have hw : IntKind.i64.wrap (s - 1) = s - 1 := wrap_id (by omega) (by omega)
      conv => whnf
      repeat (first
        | (refine ⟨_, nats_m rfl (by first | omega | (dsimp only; omega)), ?_⟩; conv => whnf)
        | (refine ⟨_, ints_m rfl (by first | omega | (dsimp only; omega)), ?_⟩; conv => whnf)
        | (refine ⟨_, ints_p rfl (by first | omega | (dsimp only; omega)), ?_⟩; conv => whnf)
        | (refine ⟨_, rows_m rfl (by first | omega | (dsimp only; omega)), ?_⟩; conv => whnf)
        | (refine ⟨(D.int .i64 _ : D), rfl, ?_⟩; conv => whnf)
        | (refine ⟨(_ : Nat), rfl, (show (_ : Nat) < _ by first | omega | (dsimp only; omega)), ?_⟩; conv => whnf)
        | (refine ⟨(_ : Nat), rfl, (show (_ : Nat) ≤ _ by first | omega | (dsimp only; omega)), ?_⟩; conv => whnf)
        | (refine ⟨(_ : Nat), wrap_pred (by omega), (show (_ : Nat) < _ by first | omega | (dsimp only; omega)), ?_⟩; conv => whnf)
        | (refine ⟨(0 : Nat), rfl, Nat.le_of_ble_eq_true rfl, ?_⟩; conv => whnf)
        | (refine ⟨(1 : Nat), rfl, Nat.le_of_ble_eq_true rfl, ?_⟩; conv => whnf)
        | (refine ⟨(2 : Nat), rfl, Nat.le_of_ble_eq_true rfl, ?_⟩; conv => whnf))
      refine Bc_intro (fun hq => ?_) (fun hq => ?_)
      · have hq : h.getD k 0 = k := by have := eq_of_beq (show (((h.getD k 0 : Nat) : Int) == ((k : Nat) : Int)) = true from hq); omega
        rw [if_pos hq] at hls
        have hdl2 : o.length + 1 = (out ++ lastTo s b h (k + 1)).length := by rw [hls, ho]; simp; omega
        have hrow : barsD o ++ [D.int .i64 (b.getD k 0), D.int .i64 (IntKind.i64.wrap (s - 1)), D.int .i64 0] = barsD (out ++ lastTo s b h (k + 1)) := by
          rw [hls, ← List.append_assoc, ← ho, barsD_append, barsD_one, hw, barD]
          rw [Int.toNat_of_nonneg hbk.1, Int.toNat_of_nonneg (by omega)]; rfl
        conv => whnf
        repeat (first
          | (refine ⟨_, nats_m rfl (by first | omega | (dsimp only; omega)), ?_⟩; conv => whnf)
          | (refine ⟨_, ints_m rfl (by first | omega | (dsimp only; omega)), ?_⟩; conv => whnf)
          | (refine ⟨_, ints_p rfl (by first | omega | (dsimp only; omega)), ?_⟩; conv => whnf)
          | (refine ⟨_, rows_m rfl (by first | omega | (dsimp only; omega)), ?_⟩; conv => whnf)
          | (refine ⟨(D.int .i64 _ : D), rfl, ?_⟩; conv => whnf)
          | (refine ⟨(_ : Nat), rfl, (show (_ : Nat) < _ by first | omega | (dsimp only; omega)), ?_⟩; conv => whnf)
          | (refine ⟨(_ : Nat), rfl, (show (_ : Nat) ≤ _ by first | omega | (dsimp only; omega)), ?_⟩; conv => whnf)
          | (refine ⟨(_ : Nat), wrap_pred (by omega), (show (_ : Nat) < _ by first | omega | (dsimp only; omega)), ?_⟩; conv => whnf)
          | (refine ⟨(0 : Nat), rfl, Nat.le_of_ble_eq_true rfl, ?_⟩; conv => whnf)
          | (refine ⟨(1 : Nat), rfl, Nat.le_of_ble_eq_true rfl, ?_⟩; conv => whnf)
          | (refine ⟨(2 : Nat), rfl, Nat.le_of_ble_eq_true rfl, ?_⟩; conv => whnf))
        refine ⟨false, .inr (.inl rfl), .inr (.inr (by intro q hq; simp only [List.mem_cons, List.not_mem_nil, or_false] at hq; rcases hq with rfl | rfl | rfl <;> rfl)), rfl, sizeLim_of (by show (o.length + 1) * 24 ≤ _; omega), intLim_of' (show o.length + 1 ≤ 9223372036854775807 by omega), ?_⟩
        conv => whnf
        refine ⟨(k + 1, out ++ lastTo s b h (k + 1)), ⟨by show k + 1 ≤ b.length; omega, rfl⟩, (by show b.length - (k + 1) < b.length - k; omega), ?_, ?_, rfl, rfl⟩
        · exact VO5 hdl2 (wrap_succ (k := k) (n := 9223372036854775807) (by omega) (by omega))
        · exact row4 rfl hrow
      · have hq : ¬ h.getD k 0 = k := fun e => by
          have hq : (((h.getD k 0 : Nat) : Int) == ((k : Nat) : Int)) = false := hq
          rw [e] at hq; simp at hq
        rw [if_neg hq] at hls
        conv => whnf
        refine ⟨(k + 1, o), ⟨by show k + 1 ≤ b.length; omega, by show o = _; rw [hls]; exact ho⟩, (by show b.length - (k + 1) < b.length - k; omega), ?_, rfl, rfl, rfl⟩
        exact V5 (wrap_succ (k := k) (n := 9223372036854775807) (by omega) (by omega))
    · have hkb : ¬ (k : Int) < b.length := of_decide_eq_false hkb
      have : k = b.length := by omega
      subst this
      have hsing : isingle s b es = o := by rw [isingle, hist]; exact ho.symm
      have h0 : ∀ x ∈ o, x.2.2 = 0 := by rw [← hsing]; exact single_zero s b es
      conv => whnf
      refine ⟨_, ac34 o (by omega) h0, rfl, ?_⟩
      conv => whnf
      refine ⟨rfl, ?_⟩
      rw [ielder, hsing]; rfl
    
end Go.Qt
