/- PROVED: for every input the law FnExactFiltrationLine returns true and each argument reads afterwards as it read before (the statement 'FnExactFiltrationLineCardSaid' of the given Rows).
Conditions: none beyond those which the given statement itself names. This text is one part of the proof. -/
import Derived.Test.YtfcgjmbkcpeafaaGreatDoorFtBars

namespace Go.Qt
open Go Go.Qv Go.Proofs
noncomputable def body5 : Code := match Tryz.f5.body with | some b => b | none => .skip
noncomputable def body3 : Code := match Tryz.f3.body with | some b => b | none => .skip
set_option maxHeartbeats 4000000
set_option maxRecDepth 100000

def catTo (f : Nat → Nat) (k : Nat) : List UInt8 := (List.range k).flatMap fun i => dig (f i)
theorem catTo_succ (f : Nat → Nat) (k : Nat) : catTo f (k + 1) = catTo f k ++ dig (f k) := by
  simp only [catTo, List.range_succ, List.flatMap_append, List.flatMap_cons, List.flatMap_nil, List.append_nil]
theorem catTo_len (f : Nat → Nat) : ∀ k, (catTo f k).length = k
  | 0 => rfl
  | k + 1 => by rw [catTo_succ, List.length_append, catTo_len f k]; rfl
def cStages : List UInt8 := [115, 116, 97, 103, 101, 115, 32]
def cParts : List UInt8 := [32, 112, 97, 114, 116, 115, 32]
def cCycles : List UInt8 := [32, 99, 121, 99, 108, 101, 115, 32]
def cBars : List UInt8 := [32, 98, 97, 114, 115, 32]
def cycN (s : Int) (b : List Int) (es : List (List Int)) (k : Nat) : Nat := (cyc s b es (k : Int)).toNat
def sline (s : Int) (b : List Int) (es : List (List Int)) : List UInt8 :=
  cStages ++ dig s.toNat ++ cParts ++ catTo (fun k => parts s b es (k : Int)) s.toNat ++ cCycles ++ catTo (cycN s b es) s.toNat ++ cBars ++ barsText (elder s b es)
theorem VSS {x y : AV} {t u t' u' : List UInt8} {k : IntKind} {a b : Int} (h : t = u) (h2 : t' = u') (h' : a = b) : [x, y, AV.str t, AV.str t', AV.int k a] = [x, y, AV.str u, AV.str u', AV.int k b] := by rw [h, h2, h']
theorem lim {k : Nat} (h : k ≤ 1000000) : k ≤ intLim := intLim_of' (by omega)
theorem barsText_len (l : List Bar) (h : l.length ≤ 20) : (barsText l).length ≤ 200 := by
  rw [barsText]
  split
  · simp
  · have := textTo_len l l.length
    omega
theorem ac5_in (s : Int) (b : List Int) (es : List (List Int)) (hf : isFil s b es = true) (hes : es.length ≤ 1048576) (hc : ∀ k : Nat, (k : Int) < s → cyc s b es (k : Int) = (cycN s b es k : Int) ∧ cycN s b es k ≤ 9) (hel : (elder s b es).length ≤ 20) : AC Tryz.prog 5 [flA s b es] (.str (sline s b es)) := by
  obtain ⟨hs, hb, he, _, _⟩ := fil_bounds hf
  have hcS : cStages.length = 7 := rfl
  have hcP : cParts.length = 7 := rfl
  have hcC : cCycles.length = 8 := rfl
  have hcB : cBars.length = 6 := rfl
  have hdl : ∀ n, (dig n).length = 1 := fun _ => rfl
  refine AC_of_awp (E := env 46 [] [] 0) (env_ok _ _ _ _) mixed Tryz.call5 Tryz.func5 (code := body5) rfl rfl (by kernel_rfl) (Nat.le_of_ble_eq_true rfl) fun hl => ?_
  conv => whnf
  clear hl
  refine ⟨_, ac11_in s b es hf, rfl, ?_⟩
  conv => whnf
  obtain ⟨sn, rfl⟩ : ∃ sn : Nat, s = (sn : Int) := ⟨s.toNat, by omega⟩
  refine ⟨_, ac12 sn (by omega), rfl, ?_⟩
  conv => whnf
  refine ⟨lim (show cStages.length + (dig sn).length ≤ _ by rw [hcS, hdl]; omega), ?_⟩
  conv => whnf
  refine ⟨lim (show (cStages ++ dig sn).length + cParts.length ≤ _ by rw [List.length_append, hcS, hdl, hcP]; omega), ?_⟩
  conv => whnf
  refine ⟨Nat, [], [1, 3, 5, 6, 7], fun k => [.op 0 0, .rs false false (barsD (elder (sn : Int) b es)) (elder (sn : Int) b es).length, .str (cStages ++ dig sn ++ cParts ++ catTo (fun k => parts (sn : Int) b es (k : Int)) k), .str (catTo (cycN (sn : Int) b es) k), .int .i64 (k : Int)], fun _ => [some (.var 28 [.int .i64 (sn : Int), .rs true false (ints b) b.length, .rs true false (rows es) es.length])], fun k => k ≤ sn, fun k => sn - k, 1, fun _ => rfl, rfl,
      ⟨_, 0, rfl, Nat.zero_le _, ?_, rfl, rfl, rfl⟩, fun k hk => ?_⟩
  · exact VSS (show cStages ++ dig sn ++ cParts = _ by simp [catTo]) rfl rfl
  have hk : k ≤ sn := hk
  have hl1 := catTo_len (fun k => parts (sn : Int) b es (k : Int)) k
  have hl2 := catTo_len (cycN (sn : Int) b es) k
  conv => whnf
  refine Bc_intro (fun h => ?_) (fun h => ?_)
  · have h : (k : Int) < (sn : Int) := of_decide_eq_true h
    have hp4 := parts_small (sn : Int) b es (k : Int)
    obtain ⟨hc1, hc2⟩ := hc k h
    have h14 := ac14 (sn : Int) b es (k : Int) hes
    rw [hc1] at h14
    conv => whnf
    refine ⟨_, ac13 (sn : Int) b es (k : Int), rfl, ?_⟩
    conv => whnf
    refine ⟨_, ac12 (parts (sn : Int) b es (k : Int)) (by omega), rfl, ?_⟩
    conv => whnf
    refine ⟨lim (show (cStages ++ dig sn ++ cParts ++ catTo (fun k => parts (sn : Int) b es (k : Int)) k).length + (dig _).length ≤ _ by simp only [List.length_append, hcS, hdl, hcP, hl1]; omega), ?_⟩
    conv => whnf
    refine ⟨_, h14, rfl, ?_⟩
    conv => whnf
    refine ⟨_, ac12 (cycN (sn : Int) b es k) hc2, rfl, ?_⟩
    conv => whnf
    refine ⟨lim (show (catTo (cycN (sn : Int) b es) k).length + (dig _).length ≤ _ by rw [hl2, hdl]; omega), ?_⟩
    conv => whnf
    refine ⟨k + 1, (by show k + 1 ≤ sn; omega), (by show sn - (k + 1) < sn - k; omega), ?_, rfl, rfl, rfl⟩
    exact VSS (show (cStages ++ dig sn ++ cParts ++ catTo (fun k => parts (sn : Int) b es (k : Int)) k) ++ dig (parts (sn : Int) b es (k : Int)) = _ by rw [catTo_succ, List.append_assoc _ (catTo _ _)]) (show catTo (cycN (sn : Int) b es) k ++ dig (cycN (sn : Int) b es k) = _ by rw [catTo_succ]) (wrap_succ (k := k) (n := 9223372036854775807) (by omega) (by omega))
  · have h : ¬ (k : Int) < (sn : Int) := of_decide_eq_false h
    obtain rfl : k = sn := by omega
    have hbt := barsText_len (elder (k : Int) b es) hel
    conv => whnf
    refine ⟨lim (show (cStages ++ dig k ++ cParts ++ catTo (fun i => parts (k : Int) b es (i : Int)) k).length + cCycles.length ≤ _ by simp only [List.length_append, hcS, hdl, hcP, hl1, hcC]; omega), ?_⟩
    conv => whnf
    refine ⟨lim (show (cStages ++ dig k ++ cParts ++ catTo (fun i => parts (k : Int) b es (i : Int)) k ++ cCycles).length + (catTo (cycN (k : Int) b es) k).length ≤ _ by simp only [List.length_append, hcS, hdl, hcP, hl1, hcC, hl2]; omega), ?_⟩
    conv => whnf
    refine ⟨lim (show (cStages ++ dig k ++ cParts ++ catTo (fun i => parts (k : Int) b es (i : Int)) k ++ cCycles ++ catTo (cycN (k : Int) b es) k).length + cBars.length ≤ _ by simp only [List.length_append, hcS, hdl, hcP, hl1, hcC, hl2, hcB]; omega), ?_⟩
    conv => whnf
    refine ⟨_, ac15 (elder (k : Int) b es) hel, rfl, ?_⟩
    conv => whnf
    refine ⟨lim (show (cStages ++ dig k ++ cParts ++ catTo (fun i => parts (k : Int) b es (i : Int)) k ++ cCycles ++ catTo (cycN (k : Int) b es) k ++ cBars).length + (barsText (elder (k : Int) b es)).length ≤ _ by simp only [List.length_append, hcS, hdl, hcP, hl1, hcC, hl2, hcB]; omega), ?_⟩
    conv => whnf
    exact ⟨rfl, rfl⟩
theorem ac5_out (s : Int) (b : List Int) (es : List (List Int)) (hf : isFil s b es = false) : AC Tryz.prog 5 [flA s b es] (.str []) := by
  refine AC_of_awp (E := env 46 [] [] 0) (env_ok _ _ _ _) mixed Tryz.call5 Tryz.func5 (code := body5) rfl rfl (by kernel_rfl) (Nat.le_of_ble_eq_true rfl) fun hl => ?_
  conv => whnf
  clear hl
  refine ⟨_, ac11_out s b es hf, rfl, ?_⟩
  conv => whnf
  exact ⟨rfl, rfl⟩

/-! ### The law -/
theorem sz_all {es : List (List Int)} : ∀ (l : List (List Int)) (left : Int), 0 ≤ left → left ≤ 1048576 → 0 ≤ szs l left → ∀ e ∈ l, e.length ≤ 1048576
  | [], _, _, _, _ => fun _ h => by cases h
  | x :: r, left, h0, h1, h2 => by
    rw [szs] at h2
    by_cases h3 : sz left x.length < 0
    · rw [if_pos h3] at h2; omega
    · rw [if_neg h3] at h2
      have h4 : 0 ≤ left - x.length := by
        unfold sz at h3
        by_cases h5 : left - (x.length : Int) < 0
        · rw [if_pos h5] at h3; omega
        · omega
      have h5 : sz left x.length = left - x.length := by unfold sz; rw [if_neg (by omega)]
      rw [h5] at h2
      intro e he
      rcases List.mem_cons.1 he with rfl | he
      · omega
      · exact sz_all (es := es) r _ h4 (by omega) h2 e he
theorem sz_bounds {b : List Int} {es : List (List Int)} (h : 0 ≤ sz3 1048576 b es) : b.length ≤ 1048576 ∧ es.length ≤ 1048576 ∧ ∀ e ∈ es, e.length ≤ 1048576 := by
  unfold sz3 at h
  by_cases h1 : sz 1048576 b.length < 0
  · rw [if_pos h1] at h; omega
  rw [if_neg h1] at h
  have hb : sz 1048576 b.length = 1048576 - b.length ∧ (b.length : Int) ≤ 1048576 := by
    unfold sz at h1 ⊢
    by_cases h5 : (1048576 : Int) - b.length < 0
    · rw [if_pos h5] at h1; omega
    · rw [if_neg h5]; exact ⟨rfl, by omega⟩
  by_cases h2 : sz2 (sz 1048576 b.length) es < 0
  · rw [if_pos h2] at h; omega
  rw [if_neg h2] at h
  rw [hb.1] at h
  unfold sz2 at h
  by_cases h3 : (1048576 : Int) - b.length - es.length < 0
  · rw [if_pos h3] at h; omega
  · rw [if_neg h3] at h
    exact ⟨by omega, by omega, sz_all (es := es) es _ (by omega) (by omega) h⟩
/-- What is left to show, with no program in sight. -/
def Plain : Prop := ∀ (s : Int) (b : List Int) (es : List (List Int)), isFil s b es = true → sline s b es = iline s b es ∧ (elder s b es).length ≤ 20 ∧ ∀ k : Nat, (k : Int) < s → cyc s b es (k : Int) = (cycN s b es k : Int) ∧ cycN s b es k ≤ 9
theorem ac3 (hP : Plain) (s : Int) (b : List Int) (es : List (List Int)) : AC Tryz.prog 3 [flA s b es] (.bool true) := by
  refine AC_of_awp (E := env 27 [] [] 0) (env_ok _ _ _ _) mixed Tryz.call3 Tryz.func3 (code := body3) rfl rfl (by kernel_rfl) (Nat.le_of_ble_eq_true rfl) fun hl => ?_
  conv => whnf
  clear hl
  refine ⟨_, ac4 s b es 1048576 (by omega) (by omega), rfl, ?_⟩
  conv => whnf
  refine Bc_intro (fun h => ?_) (fun h => ?_)
  · conv => whnf
    exact ⟨rfl, rfl⟩
  have h : ¬ sz3 1048576 b es < 0 := of_decide_eq_false h
  obtain ⟨hb, he, hee⟩ := sz_bounds (b := b) (es := es) (by omega)
  obtain ⟨t, h5, h7⟩ : ∃ t, AC Tryz.prog 5 [flA s b es] (.str t) ∧ AC Tryz.prog 7 [flA s b es] (.str t) := by
    cases hf : isFil s b es with
    | true =>
      obtain ⟨p1, p2, p3⟩ := hP s b es hf
      have h5 := ac5_in s b es hf he p3 p2
      rw [p1] at h5
      exact ⟨_, h5, ac7_in s b es hf⟩
    | false => exact ⟨_, ac5_out s b es hf, ac7_out s b es hf⟩
  conv => whnf
  refine ⟨_, ac6 s b es hb he hee, rfl, ?_⟩
  conv => whnf
  refine ⟨_, h5, rfl, ?_⟩
  conv => whnf
  refine ⟨_, ac6 s b es hb he hee, rfl, ?_⟩
  conv => whnf
  refine ⟨_, h7, rfl, ?_⟩
  conv => whnf
  refine Bc_intro (fun hne => ?_) (fun hne => ?_)
  · have hne : (!(t == t)) = true := hne
    simp at hne
  clear hne
  conv => whnf
  refine ⟨_, ac6 s b es hb he hee, rfl, ?_⟩
  conv => whnf
  refine ⟨_, ac8 s s b b es es, rfl, ?_⟩
  conv => whnf
  refine Bc_intro (fun hne => ?_) (fun hne => ?_)
  · have hne : decide (s = s ∧ b = b ∧ es = es) = false := not_t hne
    simp at hne
  conv => whnf
  exact ⟨rfl, rfl⟩
end Go.Qt
