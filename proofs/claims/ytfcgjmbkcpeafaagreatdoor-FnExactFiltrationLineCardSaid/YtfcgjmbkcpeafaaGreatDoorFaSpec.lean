/- PROVED: for every input the law FnExactFiltrationLine returns true and each argument reads afterwards as it read before (the statement 'FnExactFiltrationLineCardSaid' of the given Rows).
Conditions: none beyond those which the given statement itself names. This text is one part of the proof. -/
import Derived.Test.YtfcgjmbkcpeafaaGreatDoorMFun
import Derived.KernelRfl
import Derived.Test.YtfcgjmbkcpeafaaGreatDoorProg

/- The program, as the abstract machine reads it. -/
namespace Go.Qt
open Go Go.Qv Go.Proofs

def T : TT := [
  (3, ⟨.int .i64, 1, 8, [.int .i64 0]⟩),
  (4, ⟨.bool, 1, 1, [.bool false]⟩),
  (22, ⟨.slice 3, 1, 24, [.nils]⟩),
  (23, ⟨.slice 22, 1, 24, [.nils]⟩),
  (9, ⟨.str, 1, 16, [.str []]⟩),
  (25, ⟨.struct [(3, 0), (22, 1), (23, 2)], 3, 56, [.int .i64 0, .nils, .nils]⟩),
  (28, ⟨.struct [(3, 0), (22, 1), (23, 2)], 3, 56, [.int .i64 0, .nils, .nils]⟩),
  (24, ⟨.struct [(3, 0), (22, 1), (23, 2)], 3, 56, [.int .i64 0, .nils, .nils]⟩),
  (34, ⟨.slice 49, 1, 24, [.nils]⟩),
  (49, ⟨.struct [(3, 0), (3, 1), (3, 2)], 3, 24, [.int .i64 0, .int .i64 0, .int .i64 0]⟩),
  (48, ⟨.struct [(3, 0), (3, 1), (3, 2)], 3, 24, [.int .i64 0, .int .i64 0, .int .i64 0]⟩),
  (44, ⟨.slice 9, 1, 24, [.nils]⟩),
  (5, ⟨.int .u8, 1, 1, [.int .u8 0]⟩),
  (50, ⟨.slice 5, 1, 24, [.nils]⟩),
  (2, ⟨.int .i64, 1, 8, [.int .i64 0]⟩),
  (21, ⟨.int .i32, 1, 4, [.int .i32 0]⟩),
  (79, ⟨.int .u64, 1, 8, [.int .u64 0]⟩),
  (99, ⟨.int .u32, 1, 4, [.int .u32 0]⟩),
  (101, ⟨.int .u64, 1, 8, [.int .u64 0]⟩),
  (92, ⟨.int .i64, 1, 8, [.int .i64 0]⟩)]

theorem T_ok : TOk Tryz.prog T := by unfold TOk; kernel_rfl
def lensB (T : TT) : Bool := T.all fun (x : Nat × TI) => Nat.beq x.2.zero.length x.2.size
theorem lensB_spec : ∀ {T : TT}, lensB T = true → ∀ t i, Qv.look T t = some i → i.zero.length = i.size
  | [], _, t, i, h => by simp [Qv.look] at h
  | (u, j) :: r, hb, t, i, h => by
    simp only [lensB, List.all_cons, Bool.and_eq_true] at hb
    simp only [Qv.look] at h
    cases hut : Nat.beq u t with
    | true => rw [hut] at h; simp only [cond_true, Option.some.injEq] at h; subst h; exact Nat.eq_of_beq_eq_true hb.1
    | false => rw [hut] at h; exact lensB_spec (by simpa [lensB] using hb.2) t i h
/-- The program, a function of N slots: own: calls whose rows one keeps; io: calls that work on one's rows. -/
noncomputable def env (N : Nat) (own io : List Nat) (fix : Nat) : Env := ⟨Tryz.prog, T, N, fun t => memB t own, fun t => memB t io, fix⟩
theorem env_ok (N : Nat) (own io : List Nat) (fix : Nat) : EnvOk (env N own io fix) := ⟨T_ok, lensB_spec rfl⟩
theorem mixed : Tryz.prog.follows .mixedOrders = true := by kernel_rfl

def ints (xs : List Int) : List D := xs.map (D.int .i64)
theorem ints_get {xs : List Int} {k : Nat} (h : k < xs.length) : (ints xs)[k]? = some (D.int .i64 xs[k]) := by simp [ints, h]
theorem ints_len {xs : List Int} : (ints xs).length = xs.length := by simp [ints]
theorem Bc_intro {X Y : Prop} {b : Bool} (ht : b = true → Y) (hf : b = false → X) : Bool.rec (motive := fun _ => Prop) X Y b := by cases b <;> simp_all
theorem wrap_id {n : Int} (h : -9223372036854775808 ≤ n) (h2 : n ≤ 9223372036854775807) : IntKind.i64.wrap n = n := by
  rw [IntKind.wrap_i64]; omega
theorem lim_le {k : Nat} (h : k ≤ intLim) : k ≤ 9223372036854775807 := by unfold intLim at h; omega
end Go.Qt

namespace Go.Qt
open Go Go.Qv Go.Proofs
noncomputable def body9 : Code := match Tryz.f9.body with | some b => b | none => .skip
noncomputable def body10 : Code := match Tryz.f10.body with | some b => b | none => .skip
noncomputable def body4 : Code := match Tryz.f4.body with | some b => b | none => .skip
noncomputable def body16 : Code := match Tryz.f16.body with | some b => b | none => .skip
noncomputable def body17 : Code := match Tryz.f17.body with | some b => b | none => .skip
noncomputable def body6 : Code := match Tryz.f6.body with | some b => b | none => .skip
set_option maxHeartbeats 1000000

/-- What is left of a size. -/
def sz (left : Int) (n : Nat) : Int := if left - n < 0 then -1 else left - n
theorem ac9 (xs : List Int) (left : Int) (h0 : 0 ≤ left) (h1 : left ≤ 1048576) : AC Tryz.prog 9 [.rs true false (ints xs) xs.length, .int .i64 left] (.int .i64 (sz left xs.length)) := by
  refine AC_of_awp (E := env 12 [] [] 0) (env_ok _ _ _ _) mixed Tryz.call9 Tryz.func9 (code := body9) rfl rfl (by kernel_rfl) (Nat.le_of_ble_eq_true rfl) fun hl => ?_
  have hx : xs.length ≤ 9223372036854775807 := lim_le hl.1.1
  have hw : IntKind.i64.wrap (left - xs.length) = left - xs.length := wrap_id (by omega) (by omega)
  conv => whnf
  refine Bc_intro (fun h => ?_) (fun h => ?_)
  · conv => whnf
    refine ⟨rfl, ?_⟩
    rw [hw] at h
    have h : left - xs.length < 0 := by simpa using h
    show AV.int .i64 (-1) = _
    rw [sz, if_pos h]
  · conv => whnf
    refine ⟨rfl, ?_⟩
    rw [hw] at h
    have h : ¬ (left - xs.length < 0) := by simpa using h
    show AV.int .i64 (IntKind.i64.wrap (left - xs.length)) = _
    rw [sz, if_neg h, hw]

def rows (es : List (List Int)) : List D := es.map fun e => D.sl (ints e) e.length
theorem rows_get {es : List (List Int)} {k : Nat} (h : k < es.length) : (rows es)[k]? = some (D.sl (ints es[k]) es[k].length) := by simp [rows, h]
def szs : List (List Int) → Int → Int
  | [], l => l
  | e :: r, l => if sz l e.length < 0 then -1 else szs r (sz l e.length)
def sz2 (left : Int) (es : List (List Int)) : Int := if left - es.length < 0 then -1 else szs es (left - es.length)

theorem ac10 (es : List (List Int)) (left : Int) (h0 : 0 ≤ left) (h1 : left ≤ 1048576) : AC Tryz.prog 10 [.rs true false (rows es) es.length, .int .i64 left] (.int .i64 (sz2 left es)) := by
  refine AC_of_awp (E := env 27 [] [] 0) (env_ok _ _ _ _) mixed Tryz.call10 Tryz.func10 (code := body10) rfl rfl (by kernel_rfl) (Nat.le_of_ble_eq_true rfl) fun hl => ?_
  have hx : es.length ≤ 9223372036854775807 := lim_le hl.1.1
  have hw : IntKind.i64.wrap (left - es.length) = left - es.length := wrap_id (by omega) (by omega)
  conv => whnf
  refine Bc_intro (fun h => ?_) (fun h => ?_)
  · conv => whnf
    refine ⟨rfl, ?_⟩
    rw [hw] at h
    have h : left - es.length < 0 := by simpa using h
    show AV.int .i64 (-1) = _
    rw [sz2, if_pos h]
  · conv => whnf
    rw [hw] at h
    have h : ¬ (left - es.length < 0) := by simpa using h
    refine ⟨Nat × Int, [], [0, 1, 5], fun a => [.rs true false (rows es) es.length, .int .i64 a.2, .int .i64 a.1], fun _ => [], fun a => a.1 ≤ es.length ∧ 0 ≤ a.2 ∧ a.2 ≤ left ∧ szs (es.drop a.1) a.2 = sz2 left es, fun a => es.length - a.1, 0, fun _ => rfl, rfl,
      ⟨_, (0, left - es.length), rfl, ⟨Nat.zero_le _, by omega, by show left - _ ≤ left; omega, by rw [sz2, if_neg h]; rfl⟩, ?_, rfl, rfl, rfl⟩, fun a ha => ?_⟩
    · show [_, AV.int .i64 (IntKind.i64.wrap (left - es.length)), _] = _
      rw [hw]; rfl
    obtain ⟨k, l⟩ := a
    obtain ⟨hk, hl0, hl1, hs⟩ := ha
    simp only at hk hl0 hl1 hs
    conv => whnf
    refine Bc_intro (fun h => ?_) (fun h => ?_)
    · conv => whnf
      have hlt : k < es.length := by simp at h; omega
      refine ⟨k, rfl, hlt, ?_⟩
      conv => whnf
      refine ⟨_, rows_get (k := k) hlt, ?_⟩
      conv => whnf
      refine ⟨_, ac9 es[k] l hl0 (by omega), rfl, ?_⟩
      conv => whnf
      rw [List.drop_eq_getElem_cons hlt, szs] at hs
      refine Bc_intro (fun h => ?_) (fun h => ?_)
      · conv => whnf
        refine ⟨rfl, ?_⟩
        have h : sz l es[k].length < 0 := by simpa using h
        rw [if_pos h] at hs
        show AV.int .i64 (-1) = _
        rw [hs]
      · conv => whnf
        have h : ¬ (sz l es[k].length < 0) := by simpa using h
        rw [if_neg h] at hs
        refine ⟨(k + 1, sz l es[k].length), ⟨hlt, by show 0 ≤ sz _ _; omega, ?_, hs⟩, (by show es.length - (k + 1) < es.length - k; omega), ?_, rfl, rfl, rfl⟩
        · show sz _ _ ≤ left
          unfold sz; split <;> omega
        · show [_, _, AV.int .i64 (IntKind.i64.wrap (_ + 1))] = _
          rw [wrap_id (by omega) (by omega)]; rfl
    · conv => whnf
      refine ⟨rfl, ?_⟩
      have : k = es.length := by simp at h; omega
      subst this
      simp only [List.drop_length, szs] at hs
      rw [← hs]; rfl

def flA (s : Int) (b : List Int) (e : List (List Int)) : AV := .agg [.int .i64 s, .rs true false (ints b) b.length, .rs true false (rows e) e.length]
def sz3 (left : Int) (b : List Int) (es : List (List Int)) : Int := if sz left b.length < 0 then -1 else if sz2 (sz left b.length) es < 0 then -1 else sz2 (sz left b.length) es

theorem sz_le {left : Int} {n : Nat} (h : 0 ≤ left) : sz left n ≤ left := by unfold sz; split <;> omega

theorem ac4 (s : Int) (b : List Int) (es : List (List Int)) (left : Int) (h0 : 0 ≤ left) (h1 : left ≤ 1048576) : AC Tryz.prog 4 [flA s b es, .int .i64 left] (.int .i64 (sz3 left b es)) := by
  refine AC_of_awp (E := env 18 [] [] 0) (env_ok _ _ _ _) mixed Tryz.call4 Tryz.func4 (code := body4) rfl rfl (by kernel_rfl) (Nat.le_of_ble_eq_true rfl) fun hl => ?_
  conv => whnf
  refine ⟨_, ac9 b left h0 h1, rfl, ?_⟩
  conv => whnf
  refine Bc_intro (fun h => ?_) (fun h => ?_)
  · conv => whnf
    refine ⟨rfl, ?_⟩
    have h : sz left b.length < 0 := by simpa using h
    show AV.int .i64 (-1) = _
    rw [sz3, if_pos h]
  · have h : ¬ (sz left b.length < 0) := by simpa using h
    have hle := sz_le (n := b.length) h0
    conv => whnf
    refine ⟨_, ac10 es (sz left b.length) (by omega) (by omega), rfl, ?_⟩
    conv => whnf
    refine Bc_intro (fun h2 => ?_) (fun h2 => ?_)
    · conv => whnf
      refine ⟨rfl, ?_⟩
      have h2 : sz2 (sz left b.length) es < 0 := by simpa using h2
      show AV.int .i64 (-1) = _
      rw [sz3, if_neg h, if_pos h2]
    · conv => whnf
      refine ⟨rfl, ?_⟩
      have h2 : ¬ (sz2 (sz left b.length) es < 0) := by simpa using h2
      rw [sz3, if_neg h, if_neg h2]; rfl

theorem ints_snoc {xs : List Int} {k : Nat} (h : k < xs.length) : ints (xs.take (k + 1)) = ints (xs.take k) ++ [D.int .i64 xs[k]] := by
  have e : xs.take (k + 1) = xs.take k ++ [xs[k]] := by rw [List.take_add_one]; simp [h]
  rw [e]; simp only [ints, List.map_append, List.map_cons, List.map_nil]
theorem rows_snoc {es : List (List Int)} {k : Nat} (h : k < es.length) : rows (es.take (k + 1)) = rows (es.take k) ++ [D.sl (ints es[k]) es[k].length] := by
  have e : es.take (k + 1) = es.take k ++ [es[k]] := by rw [List.take_add_one]; simp [h]
  rw [e]; simp only [rows, List.map_append, List.map_cons, List.map_nil]
theorem setND_push (A : List D) (z x : D) (m : Nat) : setND (A ++ List.replicate (m + 1) z) A.length [x] = (A ++ [x]) ++ List.replicate m z := by
  simp only [setND, List.length_cons, List.length_nil, Nat.zero_add]
  rw [List.take_left, List.replicate_succ, show A.length + 1 = (A ++ [z]).length by simp, show A ++ z :: List.replicate m z = (A ++ [z]) ++ List.replicate m z by simp, List.drop_left]

/-- A row that is filled from its front. -/
def fillI (xs : List Int) (k : Nat) : List D := ints (xs.take k) ++ List.replicate (xs.length - k) (D.int .i64 0)
theorem fillI_len {xs : List Int} {k : Nat} (h : k ≤ xs.length) : (fillI xs k).length = xs.length := by simp [fillI, ints]; omega
theorem fillI_set {xs : List Int} {k : Nat} (h : k < xs.length) : setND (fillI xs k) k [D.int .i64 xs[k]] = fillI xs (k + 1) := by
  have e1 : (ints (xs.take k)).length = k := by simp [ints]; omega
  have e2 : xs.length - k = (xs.length - (k + 1)) + 1 := by omega
  have := setND_push (ints (xs.take k)) (D.int .i64 0) (D.int .i64 xs[k]) (xs.length - (k + 1))
  rw [e1] at this
  rw [fillI, e2, this, fillI, ints_snoc h]
theorem fillI_full (xs : List Int) : fillI xs xs.length = ints xs := by simp [fillI]

theorem sizeLim_of {k : Nat} (h : k ≤ 140737488355328) : k ≤ sizeLim := by unfold sizeLim; omega
theorem intLim_of' {k : Nat} (h : k ≤ 9223372036854775807) : k ≤ intLim := by unfold intLim; omega

theorem ac16 (xs : List Int) (hs : xs.length ≤ 1048576) : AC Tryz.prog 16 [.rs true false (ints xs) xs.length] (.fs 3 false (ints xs) xs.length) := by
  refine AC_of_awp (E := env 22 [] [] 0) (env_ok _ _ _ _) mixed Tryz.call16 Tryz.func16 (code := body16) rfl rfl (by kernel_rfl) (Nat.le_of_ble_eq_true rfl) fun hl => ?_
  conv => whnf
  refine ⟨xs.length, rfl, xs.length, rfl, Nat.le_refl _, sizeLim_of (by show xs.length * 8 ≤ _; omega), intLim_of' (by omega), ?_⟩
  conv => whnf
  refine ⟨Nat, [], [0, 3, 4], fun k => [.rs true false (ints xs) xs.length, .ow 0 xs.length, .int .i64 k], fun k => [some (.row 3 false (fillI xs k))], fun k => k ≤ xs.length, fun k => xs.length - k, 1, fun _ => rfl, rfl,
      ⟨_, 0, rfl, Nat.zero_le _, rfl, ?_, rfl, rfl⟩, fun k hk => ?_⟩
  · show [some (Blk.row 3 false (List.replicate xs.length (D.int .i64 0)))] = _
    simp [fillI, ints]
  conv => whnf
  refine Bc_intro (fun h => ?_) (fun h => ?_)
  · conv => whnf
    have hlt : k < xs.length := by simp at h; omega
    refine ⟨k, rfl, hlt, ?_⟩
    conv => whnf
    refine ⟨_, ints_get (k := k) hlt, ?_⟩
    conv => whnf
    refine ⟨k, rfl, hlt, ?_⟩
    conv => whnf
    refine ⟨(by rw [fillI_len hk]; show k + 1 ≤ _; omega), ?_⟩
    conv => whnf
    refine ⟨k + 1, hlt, (by show xs.length - (k + 1) < xs.length - k; omega), ?_, ?_, rfl, rfl⟩
    · show [_, _, AV.int .i64 (IntKind.i64.wrap (_ + 1))] = _
      rw [wrap_id (by omega) (by omega)]; rfl
    · show [some (Blk.row 3 (false || false) (setND (fillI xs k) k [D.int .i64 xs[k]]))] = _
      rw [fillI_set hlt]; rfl
  · conv => whnf
    have : k = xs.length := by simp at h; omega
    subst this
    refine ⟨rfl, ?_⟩
    show AV.fs 3 false (fillI xs xs.length) xs.length = _
    rw [fillI_full]

def fillR (es : List (List Int)) (k : Nat) : List D := rows (es.take k) ++ List.replicate (es.length - k) (D.sl [] 0)
theorem fillR_len {es : List (List Int)} {k : Nat} (h : k ≤ es.length) : (fillR es k).length = es.length := by simp [fillR, rows]; omega
theorem fillR_set {es : List (List Int)} {k : Nat} (h : k < es.length) : setND (fillR es k) k [D.sl (ints es[k]) es[k].length] = fillR es (k + 1) := by
  have e1 : (rows (es.take k)).length = k := by simp [rows]; omega
  have e2 : es.length - k = (es.length - (k + 1)) + 1 := by omega
  have := setND_push (rows (es.take k)) (D.sl [] 0) (D.sl (ints es[k]) es[k].length) (es.length - (k + 1))
  rw [e1] at this
  rw [fillR, e2, this, fillR, rows_snoc h]
theorem fillR_full (es : List (List Int)) : fillR es es.length = rows es := by simp [fillR]

theorem ac17 (es : List (List Int)) (hs : es.length ≤ 1048576) (he : ∀ e ∈ es, e.length ≤ 1048576) : AC Tryz.prog 17 [.rs true false (rows es) es.length] (.fs 22 false (rows es) es.length) := by
  refine AC_of_awp (E := env 23 [] [] 0) (env_ok _ _ _ _) mixed Tryz.call17 Tryz.func17 (code := body17) rfl rfl (by kernel_rfl) (Nat.le_of_ble_eq_true rfl) fun hl => ?_
  conv => whnf
  refine ⟨es.length, rfl, es.length, rfl, Nat.le_refl _, sizeLim_of (by show es.length * 24 ≤ _; omega), intLim_of' (by omega), ?_⟩
  conv => whnf
  refine ⟨Nat, [], [0, 3, 4], fun k => [.rs true false (rows es) es.length, .ow 0 es.length, .int .i64 k], fun k => [some (.row 22 false (fillR es k))], fun k => k ≤ es.length, fun k => es.length - k, 1, fun _ => rfl, rfl,
      ⟨_, 0, rfl, Nat.zero_le _, rfl, ?_, rfl, rfl⟩, fun k hk => ?_⟩
  · show [some (Blk.row 22 false (List.replicate es.length (D.sl [] 0)))] = _
    simp [fillR, rows]
  conv => whnf
  refine Bc_intro (fun h => ?_) (fun h => ?_)
  · conv => whnf
    have hlt : k < es.length := by simp at h; omega
    refine ⟨k, rfl, hlt, ?_⟩
    conv => whnf
    refine ⟨_, rows_get (k := k) hlt, ?_⟩
    conv => whnf
    refine ⟨_, ac16 es[k] (he _ (List.getElem_mem hlt)), rfl, ?_⟩
    conv => whnf
    refine ⟨k, rfl, hlt, ?_⟩
    conv => whnf
    refine ⟨(by rw [fillR_len hk]; show k + 1 ≤ _; omega), ?_⟩
    conv => whnf
    refine ⟨k + 1, hlt, (by show es.length - (k + 1) < es.length - k; omega), ?_, ?_, rfl, rfl⟩
    · show [_, _, AV.int .i64 (IntKind.i64.wrap (_ + 1))] = _
      rw [wrap_id (by omega) (by omega)]; rfl
    · show [some (Blk.row 22 (false || false) (setND (fillR es k) k [D.sl (ints es[k]) es[k].length]))] = _
      rw [fillR_set hlt]; rfl
  · conv => whnf
    have : k = es.length := by simp at h; omega
    subst this
    refine ⟨rfl, ?_⟩
    show AV.fs 22 false (fillR es es.length) es.length = _
    rw [fillR_full]

def flF (s : Int) (b : List Int) (e : List (List Int)) : AV := .agg [.int .i64 s, .rs false false (ints b) b.length, .rs false false (rows e) e.length]
theorem ac6 (s : Int) (b : List Int) (es : List (List Int)) (hb : b.length ≤ 1048576) (hs : es.length ≤ 1048576) (he : ∀ e ∈ es, e.length ≤ 1048576) : AC Tryz.prog 6 [flA s b es] (flF s b es) := by
  refine AC_of_awp (E := env 16 [] [] 0) (env_ok _ _ _ _) mixed Tryz.call6 Tryz.func6 (code := body6) rfl rfl (by kernel_rfl) (Nat.le_of_ble_eq_true rfl) fun hl => ?_
  conv => whnf
  refine ⟨_, ac16 b hb, rfl, ?_⟩
  conv => whnf
  refine ⟨_, ac17 es hs he, rfl, ?_⟩
  conv => whnf
  exact ⟨rfl, rfl⟩
end Go.Qt

namespace Go.Qt
open Go Go.Qv Go.Proofs
noncomputable def body25 : Code := match Tryz.f25.body with | some b => b | none => .skip
set_option maxHeartbeats 1000000
theorem ac25 (xs ys : List Int) : AC Tryz.prog 25 [.rs true false (ints xs) xs.length, .rs true false (ints ys) ys.length] (.bool (decide (xs = ys))) := by
  refine AC_of_awp (E := env 26 [] [] 0) (env_ok _ _ _ _) mixed Tryz.call25 Tryz.func25 (code := body25) rfl rfl (by kernel_rfl) (Nat.le_of_ble_eq_true rfl) fun hl => ?_
  have hx : xs.length ≤ 9223372036854775807 := lim_le hl.1.1
  have hy : ys.length ≤ 9223372036854775807 := lim_le hl.2.1.1
  conv => whnf
  refine Bc_intro (fun h => ?_) (fun h => ?_)
  · conv => whnf
    refine ⟨rfl, ?_⟩
    have : xs ≠ ys := by rintro rfl; simp at h
    simp only [this, decide_false]; rfl
  · conv => whnf
    have hl : xs.length = ys.length := by simp at h; omega
    refine ⟨Nat, [], [0, 1, 5], fun k => [.rs true false (ints xs) xs.length, .rs true false (ints ys) ys.length, .int .i64 k], fun _ => [], fun k => k ≤ xs.length ∧ xs.take k = ys.take k, fun k => xs.length - k, 0, fun _ => rfl, rfl,
      ⟨_, 0, rfl, ⟨Nat.zero_le _, rfl⟩, rfl, rfl, rfl, rfl⟩, fun k hk => ?_⟩
    obtain ⟨hk1, hk2⟩ := hk
    conv => whnf
    refine Bc_intro (fun h => ?_) (fun h => ?_)
    · conv => whnf
      have hlt : k < xs.length := by simp at h; omega
      refine ⟨k, rfl, hlt, ?_⟩
      conv => whnf
      refine ⟨_, ints_get (k := k) hlt, ?_⟩
      conv => whnf
      refine ⟨k, rfl, by omega, ?_⟩
      conv => whnf
      refine ⟨_, ints_get (k := k) (by omega), ?_⟩
      conv => whnf
      refine Bc_intro (fun h => ?_) (fun h => ?_)
      · conv => whnf
        refine ⟨rfl, ?_⟩
        have : xs ≠ ys := by rintro rfl; simp at h
        simp only [this, decide_false]; rfl
      · conv => whnf
        refine ⟨k + 1, ⟨hlt, ?_⟩, (by show xs.length - (k + 1) < xs.length - k; omega), ?_, rfl, rfl, rfl⟩
        · rw [List.take_add_one, List.take_add_one, hk2]; simp at h; simp [hlt, h, ← hl]
        · show [_, _, AV.int .i64 (IntKind.i64.wrap (_ + 1))] = _
          rw [wrap_id (by omega) (by omega)]; rfl
    · conv => whnf
      refine ⟨rfl, ?_⟩
      have : k = xs.length := by simp at h; omega
      have : xs = ys := by
        subst this; rw [List.take_length] at hk2; rw [hk2, hl, List.take_length]
      simp only [this, decide_true]; rfl

noncomputable def body26 : Code := match Tryz.f26.body with | some b => b | none => .skip
noncomputable def body8 : Code := match Tryz.f8.body with | some b => b | none => .skip
theorem ac26 (xs ys : List (List Int)) : AC Tryz.prog 26 [.rs true false (rows xs) xs.length, .rs true false (rows ys) ys.length] (.bool (decide (xs = ys))) := by
  refine AC_of_awp (E := env 27 [] [] 0) (env_ok _ _ _ _) mixed Tryz.call26 Tryz.func26 (code := body26) rfl rfl (by kernel_rfl) (Nat.le_of_ble_eq_true rfl) fun hl => ?_
  have hx : xs.length ≤ 9223372036854775807 := lim_le hl.1.1
  have hy : ys.length ≤ 9223372036854775807 := lim_le hl.2.1.1
  conv => whnf
  refine Bc_intro (fun h => ?_) (fun h => ?_)
  · conv => whnf
    refine ⟨rfl, ?_⟩
    have : xs ≠ ys := by rintro rfl; simp at h
    simp only [this, decide_false]; rfl
  · conv => whnf
    have hl : xs.length = ys.length := by simp at h; omega
    refine ⟨Nat, [], [0, 1, 5], fun k => [.rs true false (rows xs) xs.length, .rs true false (rows ys) ys.length, .int .i64 k], fun _ => [], fun k => k ≤ xs.length ∧ xs.take k = ys.take k, fun k => xs.length - k, 0, fun _ => rfl, rfl,
      ⟨_, 0, rfl, ⟨Nat.zero_le _, rfl⟩, rfl, rfl, rfl, rfl⟩, fun k hk => ?_⟩
    obtain ⟨hk1, hk2⟩ := hk
    conv => whnf
    refine Bc_intro (fun h => ?_) (fun h => ?_)
    · conv => whnf
      have hlt : k < xs.length := by simp at h; omega
      refine ⟨k, rfl, hlt, ?_⟩
      conv => whnf
      refine ⟨_, rows_get (k := k) hlt, ?_⟩
      conv => whnf
      refine ⟨k, rfl, by omega, ?_⟩
      conv => whnf
      refine ⟨_, rows_get (k := k) (by omega), ?_⟩
      conv => whnf
      refine ⟨_, ac25 xs[k] ys[k], rfl, ?_⟩
      conv => whnf
      refine Bc_intro (fun h => ?_) (fun h => ?_)
      · conv => whnf
        refine ⟨rfl, ?_⟩
        have : xs ≠ ys := by rintro rfl; simp at h
        simp only [this, decide_false]; rfl
      · conv => whnf
        refine ⟨k + 1, ⟨hlt, ?_⟩, (by show xs.length - (k + 1) < xs.length - k; omega), ?_, rfl, rfl, rfl⟩
        · rw [List.take_add_one, List.take_add_one, hk2]; simp at h; simp [hlt, h, ← hl]
        · show [_, _, AV.int .i64 (IntKind.i64.wrap (_ + 1))] = _
          rw [wrap_id (by omega) (by omega)]; rfl
    · conv => whnf
      refine ⟨rfl, ?_⟩
      have : k = xs.length := by simp at h; omega
      have : xs = ys := by
        subst this; rw [List.take_length] at hk2; rw [hk2, hl, List.take_length]
      simp only [this, decide_true]; rfl

theorem ac8 (s s' : Int) (b b' : List Int) (e e' : List (List Int)) : AC Tryz.prog 8 [flA s b e, flA s' b' e'] (.bool (decide (s = s' ∧ b = b' ∧ e = e'))) := by
  refine AC_of_awp (E := env 22 [] [] 0) (env_ok _ _ _ _) mixed Tryz.call8 Tryz.func8 (code := body8) rfl rfl (by kernel_rfl) (Nat.le_of_ble_eq_true rfl) fun hl => ?_
  conv => whnf
  refine Bc_intro (fun h => ?_) (fun h => ?_)
  · conv => whnf
    refine ⟨rfl, ?_⟩
    have : s ≠ s' := by simpa using h
    simp only [this, false_and, decide_false]; rfl
  · have h1 : s = s' := by simpa using h
    conv => whnf
    refine ⟨_, ac25 b b', rfl, ?_⟩
    conv => whnf
    refine Bc_intro (fun h => ?_) (fun h => ?_)
    · conv => whnf
      refine ⟨rfl, ?_⟩
      have : b ≠ b' := by simpa using h
      simp only [this, false_and, and_false, decide_false]; rfl
    · have h2 : b = b' := by simpa using h
      conv => whnf
      refine ⟨_, ac26 e e', rfl, ?_⟩
      conv => whnf
      refine Bc_intro (fun h => ?_) (fun h => ?_)
      · conv => whnf
        refine ⟨rfl, ?_⟩
        have : e ≠ e' := by simpa using h
        simp only [this, and_false, decide_false]; rfl
      · conv => whnf
        refine ⟨rfl, ?_⟩
        have h3 : e = e' := by simpa using h
        simp only [h1, h2, h3, and_self, decide_true]; rfl

/-! ### Ranges -/
noncomputable def body43 : Code := match Tryz.f43.body with | some b => b | none => .skip
noncomputable def body42 : Code := match Tryz.f42.body with | some b => b | none => .skip
theorem ac43 (x l h : Int) : AC Tryz.prog 43 [.int .i64 x, .int .i64 l, .int .i64 h] (.bool (decide (l ≤ x ∧ x ≤ h))) := by
  refine AC_of_awp (E := env 15 [] [] 0) (env_ok _ _ _ _) mixed Tryz.call43 Tryz.func43 (code := body43) rfl rfl (by kernel_rfl) (Nat.le_of_ble_eq_true rfl) fun hl => ?_
  conv => whnf
  refine Bc_intro (fun hb => ?_) (fun hb => ?_)
  · conv => whnf
    refine ⟨rfl, ?_⟩
    have hb : l ≤ x := by simpa using hb
    show AV.bool (decide (x ≤ h)) = _
    simp only [hb, true_and]
  · conv => whnf
    refine ⟨rfl, ?_⟩
    have hb : ¬ l ≤ x := by simpa using hb
    show AV.bool false = _
    simp only [hb, false_and, decide_false]
theorem ac42 (x l h : Int) : AC Tryz.prog 42 [.int .i64 x, .int .i64 l, .int .i64 h] (.bool (decide (l ≤ x ∧ x ≤ h))) := by
  refine AC_of_awp (E := env 15 [] [] 0) (env_ok _ _ _ _) mixed Tryz.call42 Tryz.func42 (code := body42) rfl rfl (by kernel_rfl) (Nat.le_of_ble_eq_true rfl) fun hl => ?_
  conv => whnf
  refine Bc_intro (fun hb => ?_) (fun hb => ?_)
  · conv => whnf
    refine ⟨rfl, ?_⟩
    have hb : l ≤ x := by simpa using hb
    show AV.bool (decide (x ≤ h)) = _
    simp only [hb, true_and]
  · conv => whnf
    refine ⟨rfl, ?_⟩
    have hb : ¬ l ≤ x := by simpa using hb
    show AV.bool false = _
    simp only [hb, false_and, decide_false]
end Go.Qt
