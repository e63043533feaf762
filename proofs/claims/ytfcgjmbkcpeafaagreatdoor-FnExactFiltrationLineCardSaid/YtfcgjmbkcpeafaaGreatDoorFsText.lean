/- PROVED: for every input the law FnExactFiltrationLine returns true and each argument reads afterwards as it read before (the statement 'FnExactFiltrationLineCardSaid' of the given Rows).
Conditions: none beyond those which the given statement itself names. This text is one part of the proof. -/
import Derived.Test.YtfcgjmbkcpeafaaGreatDoorFqText
import Derived.Test.YtfcgjmbkcpeafaaGreatDoorFrShelf

namespace Go.Qt
open Go Go.Qv Go.Proofs Go.RowKit
set_option maxHeartbeats 4000000

def baOf (l : List UInt8) : ByteArray := ⟨l.toArray⟩
theorem baOf_list (xs : List (List UInt8)) : (xs.map baOf).map (·.data.toList) = xs := by
  rw [List.map_map]
  have : ((fun x : ByteArray => x.data.toList) ∘ baOf) = id := by funext l; rfl
  rw [this, List.map_id]
theorem res_str {P : Program} {B : Nat} {S0 : Nat → Prop} {w : World} (t : List UInt8) : RES P B S0 w (.str t) (.string ⟨t.toArray⟩) :=
  ⟨0, fun _ => False, [], fun _ h => h.elim, ⟨rfl, rfl⟩, List.nodup_nil, fun _ h => by cases h⟩
theorem ac21 (xs : List (List UInt8)) (sep : List UInt8) (hN : xs.length ≤ 140737488355328) (hlen : (Lib.join xs sep).length ≤ 140737488355328) :
    AC Tryz.prog 21 [.rs true false (strs xs) xs.length, .str sep] (.str (Lib.join xs sep)) := by
  refine ⟨Tryz.call21, fun w S0 d vs hS0 hargs => ?_⟩
  match vs, hargs with
  | [v0, v1], ⟨a0, a1, _⟩ =>
  have a1 : v1 = .string (baOf sep) := by cases d <;> exact a1
  subst a1
  cases d with
  | zero => exact a0.1.elim
  | succ d =>
  obtain ⟨a, cap, rfl, hc1, hc2, hcs⟩ := a0.1
  rcases hcs with ⟨h0, h1⟩ | ⟨h0, b, o, rfl, hS, arr, e, fr, hg, hall⟩
  · have hx : xs = [] := List.eq_nil_of_length_eq_zero h0
    subst hx
    refine (Tryz.strings_Join_none a cap (baOf sep) w).mono ?_
    rintro e w' ⟨rfl, rfl⟩
    exact ⟨_, rfl, Below.refl _ _, res_str []⟩
  · have hb : b < w.heap.size := by
      rcases hS with ⟨_, hS⟩ | hS
      · exact hS0 b hS
      · exact hS.elim
    have hl : (xs.map baOf).length = xs.length := by simp
    have hJ := Tryz.strings_Join b o cap (xs.map baOf) (baOf sep) w (fun j x hx => ?_) hb (by rw [hl]; exact hN) (by rw [hl]; exact hc1) (by rw [baOf_list]; exact hlen)
    · rw [hl, baOf_list] at hJ
      refine hJ.mono ?_
      rintro e w' ⟨rfl, hw⟩
      exact ⟨_, rfl, hw, res_str _⟩
    · rw [List.getElem?_map] at hx
      cases hxj : xs[j]? with
      | none => rw [hxj] at hx; cases hx
      | some t =>
        rw [hxj] at hx
        cases hx
        obtain ⟨u, hu, hr⟩ := hall j (D.str t) (by simp [strs, hxj])
        have hr : u = .string ⟨t.toArray⟩ := by cases d <;> exact hr
        simp only [World.cell?, hg]
        rw [hr] at hu
        exact hu
def ibarsText (l : List Bar) : List UInt8 := if l = [] then [110, 111, 110, 101] else Lib.join (l.map barText) sp
theorem join_len (sep : List UInt8) : ∀ (l : List (List UInt8)), (Lib.join l sep).length ≤ (l.map fun x => x.length + sep.length).sum
  | [] => by simp [Lib.join_nil]
  | x :: r => by
    rw [Lib.join_cons]
    simp only [Lib.joinTail, List.length_append, List.length_flatten, List.map_map, List.map_cons, List.sum_cons]
    have e : (List.map (List.length ∘ fun x => sep ++ x) r) = List.map (fun x => x.length + sep.length) r := by
      apply List.map_congr_left
      intro y _
      simp only [Function.comp, List.length_append]; omega
    rw [e]; omega
theorem sum_const (l : List Bar) : ((l.map barText).map fun x => x.length + 1).sum = l.length * 6 := by
  induction l with
  | nil => rfl
  | cons x r ih => simp only [List.map_cons, List.sum_cons, ih, barText_len, List.length_cons]; omega
theorem ac24' (l : List Bar) (hn : l.length ≤ 20) : AC Tryz.prog 24 [.rs true false (barsD l) l.length] (.str (ibarsText l)) := by
  refine ac24 l hn _ (fun h => ?_) (fun h => by rw [ibarsText, if_pos h])
  rw [ibarsText, if_neg h]
  refine ac21 _ _ (by simp; omega) ?_
  have h1 := join_len sp (l.map barText)
  have h2 := sum_const l
  have h3 : sp.length = 1 := rfl
  rw [h3] at h1
  omega
end Go.Qt

namespace Go.Qt
open Go Go.Qv Go.Proofs
noncomputable def body7 : Code := match Tryz.f7.body with | some b => b | none => .skip
set_option maxHeartbeats 4000000
set_option maxRecDepth 100000

def sStages : List UInt8 := [115, 116, 97, 103, 101, 115]
def sParts : List UInt8 := [112, 97, 114, 116, 115]
def sCycles : List UInt8 := [99, 121, 99, 108, 101, 115]
def sBars : List UInt8 := [98, 97, 114, 115]
def partsTo (s : Int) (b : List Int) (es : List (List Int)) (k : Nat) : List Int := (List.range k).map fun (i : Nat) => (cparts s b es (i : Int) : Int)
def cycsTo (s : Int) (b : List Int) (es : List (List Int)) (k : Nat) : List Int := (List.range k).map fun (i : Nat) => icyc s b es (i : Int)
def iwords (s : Int) (b : List Int) (es : List (List Int)) : List (List UInt8) :=
  [sStages, dig s.toNat, sParts, (partsTo s b es s.toNat).map digI, sCycles, (cycsTo s b es s.toNat).map digI, sBars, ibarsText (ielder s b es)]
def iline (s : Int) (b : List Int) (es : List (List Int)) : List UInt8 := Lib.join (iwords s b es) sp
theorem partsTo_succ (s : Int) (b : List Int) (es : List (List Int)) (k : Nat) : partsTo s b es (k + 1) = partsTo s b es k ++ [(cparts s b es (k : Int) : Int)] := by
  simp only [partsTo, List.range_succ, List.map_append, List.map_cons, List.map_nil]
theorem cycsTo_succ (s : Int) (b : List Int) (es : List (List Int)) (k : Nat) : cycsTo s b es (k + 1) = cycsTo s b es k ++ [icyc s b es (k : Int)] := by
  simp only [cycsTo, List.range_succ, List.map_append, List.map_cons, List.map_nil]
theorem partsTo_len (s : Int) (b : List Int) (es : List (List Int)) (k : Nat) : (partsTo s b es k).length = k := by simp [partsTo]
theorem cycsTo_len (s : Int) (b : List Int) (es : List (List Int)) (k : Nat) : (cycsTo s b es k).length = k := by simp [cycsTo]
theorem istep_len (b : List Int) (st : List Nat × List Bar) (e : List Int) : (istep b st e).2.length ≤ st.2.length + 1 := by
  unfold istep
  split
  · dsimp only
    split
    · omega
    · split
      · exact die_len _ _ _ _
      · exact die_len _ _ _ _
  · omega
theorem ist_len (b : List Int) : ∀ (es : List (List Int)) (st : List Nat × List Bar), (es.foldl (istep b) st).2.length ≤ st.2.length + es.length
  | [], st => by simp
  | e :: r, st => by
    have h1 := ist_len b r (istep b st e)
    have h2 := istep_len b st e
    simp only [List.foldl_cons, List.length_cons]
    omega
theorem ielder_len {s : Int} {b : List Int} {es : List (List Int)} (hb : b.length ≤ 4) (he : es.length ≤ 8) : (ielder s b es).length ≤ 12 := by
  have h1 := (countL_ok (isingle s b es) _ (Nat.le_refl _)).2.1
  rw [List.take_length] at h1
  have h2 := ist_len b (esort es) (List.range b.length, [])
  have h3 : (esort es).length = es.length := by rw [esort, sinks_len]
  have h4 := lastTo_len s b (ist b (esort es)).1 b.length
  have h5 : (isingle s b es).length ≤ 12 := by
    rw [isingle, List.length_append]
    have h6 : (ist b (esort es)).2.length ≤ es.length := by
      rw [← h3]; simpa [ist] using h2
    omega
  rw [ielder]; omega
theorem ibarsText_len (l : List Bar) (h : l.length ≤ 12) : (ibarsText l).length ≤ 80 := by
  rw [ibarsText]
  split
  · simp
  · have h1 := join_len sp (l.map barText)
    have h2 := sum_const l
    have h3 : sp.length = 1 := rfl
    rw [h3] at h1
    omega
theorem VOO {x y z : AV} {i j n m n' m' : Nat} {k : IntKind} {a b : Int} (h : n = m) (h2 : n' = m') (h' : a = b) : [x, y, AV.ow i n, AV.ow j n', z, AV.int k a] = [x, y, AV.ow i m, AV.ow j m', z, AV.int k b] := by rw [h, h2, h']

theorem ac7_in (s : Int) (b : List Int) (es : List (List Int)) (hf : isFil s b es = true) : AC Tryz.prog 7 [flA s b es] (.str (iline s b es)) := by
  obtain ⟨hs, hb, he, _, _⟩ := fil_bounds hf
  have hil := ielder_len (s := s) (es := es) hb.2 he
  have hst : ∀ k : Nat, (k : Int) < s → hasStage s b es (k : Int) = true := fun k hk => by
    rw [hasStage, hf, Bool.true_and]; exact decide_eq_true (by omega)
  refine AC_of_awp (E := env 44 [] [] 0) (env_ok _ _ _ _) mixed Tryz.call7 Tryz.func7 (code := body7) rfl rfl (by kernel_rfl) (Nat.le_of_ble_eq_true rfl) fun hl => ?_
  conv => whnf
  clear hl
  refine ⟨_, ac18_in s b es hf, rfl, ?_⟩
  conv => whnf
  refine ⟨Nat, [.slot 5 3 false, .slot 6 3 false], [1, 3, 5, 6, 16, 17], fun k => [.op 0 0, .rs false false (barsD (ielder s b es)) (ielder s b es).length, .ow 1 k, .ow 2 k, .int .i64 s, .int .i64 (k : Int)], fun k => [some (.var 28 [.int .i64 s, .rs true false (ints b) b.length, .rs true false (rows es) es.length]), some (.row 3 false (ints (partsTo s b es k))), some (.row 3 false (ints (cycsTo s b es k)))], fun k => (k : Int) ≤ s, fun k => s.toNat - k, 3, fun _ => rfl, rfl,
      ⟨_, 0, rfl, (by show ((0 : Nat) : Int) ≤ s; omega), rfl, rfl, rfl, rfl⟩, fun k hk => ?_⟩
  have hk : (k : Int) ≤ s := hk
  conv => whnf
  refine Bc_intro (fun h => ?_) (fun h => ?_)
  · have h : (k : Int) < s := of_decide_eq_true h
    conv => whnf
    refine ⟨_, ac19 s b es (k : Int) (hst k h), rfl, ?_⟩
    conv => whnf
    refine ⟨false, .inr (.inl rfl), .inr (.inl rfl), rfl, sizeLim_of (show (k + 1) * 8 ≤ _ by omega), intLim_of' (show k + 1 ≤ 9223372036854775807 by omega), ?_⟩
    conv => whnf
    refine ⟨_, ac20 s b es (k : Int) (hst k h), rfl, ?_⟩
    conv => whnf
    refine ⟨false, .inr (.inl rfl), .inr (.inl rfl), rfl, sizeLim_of (show (k + 1) * 8 ≤ _ by omega), intLim_of' (show k + 1 ≤ 9223372036854775807 by omega), ?_⟩
    conv => whnf
    refine ⟨k + 1, (by show ((k + 1 : Nat) : Int) ≤ s; omega), (by show s.toNat - (k + 1) < s.toNat - k; omega), ?_, ?_, rfl, rfl⟩
    · exact VOO rfl rfl (wrap_succ (k := k) (n := 9223372036854775807) (by omega) (by omega))
    · have e1 : ints (partsTo s b es k) ++ [D.int .i64 (cparts s b es (k : Int) : Int)] = ints (partsTo s b es (k + 1)) := by rw [partsTo_succ, ints_append]; rfl
      have e2 : ints (cycsTo s b es k) ++ [D.int .i64 (icyc s b es (k : Int))] = ints (cycsTo s b es (k + 1)) := by rw [cycsTo_succ, ints_append]; rfl
      exact row3 e1 e2
  · have h : ¬ (k : Int) < s := of_decide_eq_false h
    obtain rfl : s = (k : Int) := by omega
    have hp := partsTo_len (k : Int) b es k
    have hc := cycsTo_len (k : Int) b es k
    have h22 := ac22 k (by omega)
    have h23p := ac23 (partsTo (k : Int) b es k) (by omega)
    have h23c := ac23 (cycsTo (k : Int) b es k) (by omega)
    rw [hp] at h23p
    rw [hc] at h23c
    have h24 := ac24' (ielder (k : Int) b es) (by omega)
    have hbt := ibarsText_len (ielder (k : Int) b es) hil
    have h21 := ac21 (iwords (k : Int) b es) sp (by show 8 ≤ _; omega) (by
      have h1 := join_len sp (iwords (k : Int) b es)
      have h2 : ((iwords (k : Int) b es).map fun x => x.length + sp.length).sum ≤ 1000 := by
        simp only [iwords, List.map_cons, List.map_nil, List.sum_cons, List.sum_nil, List.length_map, sStages, sParts, sCycles, sBars, sp, List.length_cons, List.length_nil, partsTo_len, cycsTo_len, dig_len, Int.toNat_natCast]
        omega
      omega)
    conv => whnf
    refine ⟨_, h22, rfl, ?_⟩
    conv => whnf
    refine ⟨_, h23p, rfl, ?_⟩
    conv => whnf
    refine ⟨_, h23c, rfl, ?_⟩
    conv => whnf
    refine ⟨_, h24, rfl, ?_⟩
    conv => whnf
    refine ⟨_, h21, rfl, ?_⟩
    conv => whnf
    exact ⟨rfl, rfl⟩
theorem ac7_out (s : Int) (b : List Int) (es : List (List Int)) (hf : isFil s b es = false) : AC Tryz.prog 7 [flA s b es] (.str []) := by
  refine AC_of_awp (E := env 44 [] [] 0) (env_ok _ _ _ _) mixed Tryz.call7 Tryz.func7 (code := body7) rfl rfl (by kernel_rfl) (Nat.le_of_ble_eq_true rfl) fun hl => ?_
  conv => whnf
  clear hl
  refine ⟨_, ac18_out s b es hf, rfl, ?_⟩
  conv => whnf
  exact ⟨rfl, rfl⟩
end Go.Qt
