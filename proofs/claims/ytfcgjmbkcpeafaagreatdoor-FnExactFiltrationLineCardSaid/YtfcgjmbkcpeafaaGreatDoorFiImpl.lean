/- PROVED: for every input the law FnExactFiltrationLine returns true and each argument reads afterwards as it read before (the statement 'FnExactFiltrationLineCardSaid' of the given Rows).
Conditions: none beyond those which the given statement itself names. This text is one part of the proof. -/
import Derived.Test.YtfcgjmbkcpeafaaGreatDoorFhImpl
import Derived.Test.YtfcgjmbkcpeafaaGreatDoorMFunB

namespace Go.Qt
open Go Go.Qv Go.Proofs
noncomputable def body35 : Code := match Tryz.f35.body with | some b => b | none => .skip
noncomputable def body19 : Code := match Tryz.f19.body with | some b => b | none => .skip
noncomputable def body20 : Code := match Tryz.f20.body with | some b => b | none => .skip
set_option maxHeartbeats 4000000
theorem W6 {x y z u v : AV} {k : IntKind} {a b : Int} (h : a = b) : [x, y, AV.int k a, z, u, v] = [x, y, AV.int k b, z, u, v] := by rw [h]
theorem WV6 {x y z u : AV} {k k' : IntKind} {a b a' b' : Int} (h : a = b) (h' : a' = b') : [x, y, AV.int k a, z, u, AV.int k' a'] = [x, y, AV.int k b, z, u, AV.int k' b'] := by rw [h, h']
def least (l : List Int) : Nat := (nn (adj (isort l))).length
theorem ac35 (l : List Int) (hn : l.length ≤ 4) (h1 : 1 ≤ l.length) : ∃ r, AC Tryz.prog 35 [.rs true false (ints l) l.length] r ∧ ∃ m cs, r = .fs 3 m cs (least l) ∨ r = .rs m false cs (least l) := by
  have hsl : (isort l).length = l.length := by rw [isort, sinks_len]
  have hs := aio50 l hn h1
  have hc := aio52 (isort l) (by omega) (by omega)
  rw [hsl] at hc
  have hal : (adj (isort l)).length ≤ l.length := by rw [← hsl]; exact adjTo_le _ _
  rcases hc with ⟨hc1, hc2, hc⟩ | ⟨q, hql, hc⟩
  · have hd := aio51a (isort l) (by omega)
    rw [hsl] at hd
    rcases hd with ⟨hd1, hd⟩ | hd
    · have hk : least l = l.length := by rw [least, hc2, nn_id hd1, hsl]
      refine ⟨.fs 3 true (ints (isort l)) (least l), ?_, true, _, .inl rfl⟩
      rw [hk]
      refine AC_of_awp (E := env 11 [5] [7, 9, 10] 0) (env_ok _ _ _ _) mixed Tryz.call35 Tryz.func35 (code := body35) rfl rfl (by kernel_rfl) (Nat.le_of_ble_eq_true rfl) fun hl => ?_
      conv => whnf
      clear hl
      refine ⟨_, ac49 l (by omega) h1, rfl, ?_⟩
      conv => whnf
      refine ⟨0, true, _, true, _, true, hs, .inl rfl, ?_⟩
      conv => whnf
      refine ⟨0, true, _, true, _, true, hc, .inl rfl, ?_⟩
      conv => whnf
      refine ⟨0, true, _, true, _, true, hd, .inl rfl, ?_⟩
      conv => whnf
      exact ⟨rfl, rfl⟩
    · have hk : least l = (nn (isort l)).length := by rw [least, hc2]
      refine ⟨.rs true false (((ints (nn (isort l) ++ List.replicate (l.length - (nn (isort l)).length) 0 ++ [])).drop 0).take (nn (isort l)).length) (least l), ?_, true, _, .inr rfl⟩
      rw [hk]
      refine AC_of_awp (E := env 11 [5] [7, 9, 10] 0) (env_ok _ _ _ _) mixed Tryz.call35 Tryz.func35 (code := body35) rfl rfl (by kernel_rfl) (Nat.le_of_ble_eq_true rfl) fun hl => ?_
      conv => whnf
      clear hl
      refine ⟨_, ac49 l (by omega) h1, rfl, ?_⟩
      conv => whnf
      refine ⟨0, true, _, true, _, true, hs, .inl rfl, ?_⟩
      conv => whnf
      refine ⟨0, true, _, true, _, true, hc, .inl rfl, ?_⟩
      conv => whnf
      refine ⟨0, true, _, true, _, true, hd, .inl rfl, ?_⟩
      conv => whnf
      exact ⟨rfl, rfl⟩
  · have hd := aio51b (adj (isort l)) q (by omega)
    rcases hd with ⟨hd1, hd⟩ | hd
    · have hk : least l = (adj (isort l)).length := by rw [least, nn_id hd1]
      refine ⟨.rs true false (((ints (adj (isort l) ++ q)).drop 0).take (adj (isort l)).length) (least l), ?_, true, _, .inr rfl⟩
      rw [hk]
      refine AC_of_awp (E := env 11 [5] [7, 9, 10] 0) (env_ok _ _ _ _) mixed Tryz.call35 Tryz.func35 (code := body35) rfl rfl (by kernel_rfl) (Nat.le_of_ble_eq_true rfl) fun hl => ?_
      conv => whnf
      clear hl
      refine ⟨_, ac49 l (by omega) h1, rfl, ?_⟩
      conv => whnf
      refine ⟨0, true, _, true, _, true, hs, .inl rfl, ?_⟩
      conv => whnf
      refine ⟨0, true, _, true, _, true, hc, .inl rfl, ?_⟩
      conv => whnf
      refine ⟨0, true, _, true, _, true, hd, .inl rfl, ?_⟩
      conv => whnf
      exact ⟨rfl, rfl⟩
    · refine ⟨.rs true false (((ints (nn (adj (isort l)) ++ List.replicate ((adj (isort l)).length - (nn (adj (isort l))).length) 0 ++ q)).drop 0).take (nn (adj (isort l))).length) (least l), ?_, true, _, .inr rfl⟩
      have hk : least l = (nn (adj (isort l))).length := rfl
      rw [hk]
      refine AC_of_awp (E := env 11 [5] [7, 9, 10] 0) (env_ok _ _ _ _) mixed Tryz.call35 Tryz.func35 (code := body35) rfl rfl (by kernel_rfl) (Nat.le_of_ble_eq_true rfl) fun hl => ?_
      conv => whnf
      clear hl
      refine ⟨_, ac49 l (by omega) h1, rfl, ?_⟩
      conv => whnf
      refine ⟨0, true, _, true, _, true, hs, .inl rfl, ?_⟩
      conv => whnf
      refine ⟨0, true, _, true, _, true, hc, .inl rfl, ?_⟩
      conv => whnf
      refine ⟨0, true, _, true, _, true, hd, .inl rfl, ?_⟩
      conv => whnf
      exact ⟨rfl, rfl⟩

def cparts (s : Int) (b : List Int) (es : List (List Int)) (t : Int) : Nat := least (comps s b es t)
theorem nn_le' (p : List Int) : (nn p).length ≤ p.length := List.length_filter_le _ _
theorem least_le (l : List Int) : least l ≤ l.length := by
  have h1 := nn_le (adj (isort l))
  have h2 : (adj (isort l)).length ≤ (isort l).length := adjTo_le _ _
  have h3 : (isort l).length = l.length := by rw [isort, sinks_len]
  rw [least]; omega
theorem ac19 (s : Int) (b : List Int) (es : List (List Int)) (t : Int) (hv : hasStage s b es t = true) : AC Tryz.prog 19 [flA s b es, .int .i64 t] (.int .i64 (cparts s b es t)) := by
  obtain ⟨r, hr, m, cs, h⟩ := ac35 (comps s b es t) (comps_small s b es t) (comps_pos.2 hv)
  rcases h with rfl | rfl
  · refine AC_of_awp (E := env 10 [] [] 0) (env_ok _ _ _ _) mixed Tryz.call19 Tryz.func19 (code := body19) rfl rfl (by kernel_rfl) (Nat.le_of_ble_eq_true rfl) fun hl => ?_
    conv => whnf
    clear hl
    refine ⟨_, ac36 s b es t hv, rfl, ?_⟩
    conv => whnf
    refine ⟨_, hr, (by cases m <;> rfl), ?_⟩
    conv => whnf
    exact ⟨rfl, rfl⟩
  · refine AC_of_awp (E := env 10 [] [] 0) (env_ok _ _ _ _) mixed Tryz.call19 Tryz.func19 (code := body19) rfl rfl (by kernel_rfl) (Nat.le_of_ble_eq_true rfl) fun hl => ?_
    conv => whnf
    clear hl
    refine ⟨_, ac36 s b es t hv, rfl, ?_⟩
    conv => whnf
    refine ⟨_, hr, (by cases m <;> rfl), ?_⟩
    conv => whnf
    exact ⟨rfl, rfl⟩

def isB (t x : Int) : Bool := decide (x ≤ t)
def icyc (s : Int) (b : List Int) (es : List (List Int)) (t : Int) : Int := (cparts s b es t : Int) + cnt (came t) es es.length - cnt (isB t) b b.length
theorem ac20 (s : Int) (b : List Int) (es : List (List Int)) (t : Int) (hv : hasStage s b es t = true) : AC Tryz.prog 20 [flA s b es, .int .i64 t] (.int .i64 (icyc s b es t)) := by
  have hv2 := hv
  simp only [hasStage, Bool.and_eq_true] at hv2
  obtain ⟨hfil, hrange⟩ := hv2
  obtain ⟨hs, hb, he, _, hedge⟩ := fil_bounds hfil
  have hcp : cparts s b es t ≤ 4 := Nat.le_trans (least_le _) (comps_small s b es t)
  refine AC_of_awp (E := env 46 [] [] 0) (env_ok _ _ _ _) mixed Tryz.call20 Tryz.func20 (code := body20) rfl rfl (by kernel_rfl) (Nat.le_of_ble_eq_true rfl) fun hl => ?_
  conv => whnf
  clear hl
  refine ⟨_, ac37 s b es t, rfl, ?_⟩
  conv => whnf
  refine Bc_intro (fun h => ?_) (fun h => ?_)
  · rw [hv] at h; cases h
  clear h
  conv => whnf
  refine ⟨_, ac19 s b es t hv, rfl, ?_⟩
  conv => whnf
  refine ⟨Nat, [], [1, 2, 5, 18, 19, 20], fun k => [.int .i64 t, .op 0 0, .int .i64 ((cparts s b es t : Int) + cnt (came t) es k), .rs true false (rows es) es.length, .int .i64 es.length, .int .i64 (k : Int)], fun _ => [some (.var 28 [.int .i64 s, .rs true false (ints b) b.length, .rs true false (rows es) es.length])], fun k => k ≤ es.length, fun k => es.length - k, 1, fun _ => rfl, rfl,
      ⟨_, 0, rfl, Nat.zero_le _, ?_, rfl, rfl, rfl⟩, fun k hk => ?_⟩
  · exact W6 (by simp [cnt])
  conv => whnf
  refine Bc_intro (fun h => ?_) (fun h => ?_)
  · have h : (k : Int) < es.length := of_decide_eq_true h
    have hlt : k < es.length := by omega
    have hcs := cnt_succ (p := came t) hlt
    have hcb := cnt_le (came t) es k
    have hget := rows_get (k := k) hlt
    obtain ⟨x, y, z, hxyz, _⟩ := hedge _ (mem_get hlt)
    rw [hxyz] at hget hcs
    conv => whnf
    refine ⟨k, rfl, hlt, ?_⟩
    conv => whnf
    refine ⟨_, hget, ?_⟩
    conv => whnf
    repeat (first
      | (refine ⟨_, ints_m rfl (by first | omega | (dsimp only; omega)), ?_⟩; conv => whnf)
      | (refine ⟨_, ints_p rfl (by first | omega | (dsimp only; omega)), ?_⟩; conv => whnf)
      | (refine ⟨_, rows_m rfl (by first | omega | (dsimp only; omega)), ?_⟩; conv => whnf)
      | (refine ⟨(D.int .i64 _ : D), rfl, ?_⟩; conv => whnf)
      | (refine ⟨(_ : Nat), rfl, (show (_ : Nat) < _ by first | omega | (dsimp only; omega)), ?_⟩; conv => whnf)
      | (refine ⟨(_ : Nat), rfl, (show (_ : Nat) ≤ _ by first | omega | (dsimp only; omega)), ?_⟩; conv => whnf)
      | (refine ⟨(_ : Nat), wrap_pred (by omega), (show (_ : Nat) < _ by first | omega | (dsimp only; omega)), ?_⟩; conv => whnf)
      | (refine ⟨(0 : Nat), rfl, Nat.le_of_ble_eq_true rfl, ?_⟩; conv => whnf)
      | (refine ⟨(1 : Nat), rfl, Nat.le_of_ble_eq_true rfl, ?_⟩; conv => whnf)
      | (refine ⟨(2 : Nat), rfl, Nat.le_of_ble_eq_true rfl, ?_⟩; conv => whnf))
    refine Bc_intro (fun hz => ?_) (fun hz => ?_)
    · have hz : came t [(x : Int), (y : Int), z] = true := hz
      rw [hz, if_pos rfl] at hcs
      conv => whnf
      refine ⟨k + 1, hlt, (by show es.length - (k + 1) < es.length - k; omega), ?_, rfl, rfl, rfl⟩
      exact WV6 (by rw [wrap_id (by omega) (by omega), hcs]; omega) (wrap_succ (k := k) (n := 9223372036854775807) (by omega) (by omega))
    · have hz : came t [(x : Int), (y : Int), z] = false := hz
      rw [hz] at hcs
      conv => whnf
      refine ⟨k + 1, hlt, (by show es.length - (k + 1) < es.length - k; omega), ?_, rfl, rfl, rfl⟩
      exact WV6 (by rw [hcs]; rfl) (wrap_succ (k := k) (n := 9223372036854775807) (by omega) (by omega))
  have h : ¬ (k : Int) < es.length := of_decide_eq_false h
  have : k = es.length := by omega
  subst this
  clear h hk
  have hcb := cnt_le (came t) es es.length
  conv => whnf
  refine ⟨Nat, [], [1, 2, 5, 33, 34, 35], fun k => [.int .i64 t, .op 0 0, .int .i64 ((cparts s b es t : Int) + cnt (came t) es es.length - cnt (isB t) b k), .rs true false (ints b) b.length, .int .i64 b.length, .int .i64 (k : Int)], fun _ => [some (.var 28 [.int .i64 s, .rs true false (ints b) b.length, .rs true false (rows es) es.length])], fun k => k ≤ b.length, fun k => b.length - k, 1, fun _ => rfl, rfl,
      ⟨_, 0, rfl, Nat.zero_le _, ?_, rfl, rfl, rfl⟩, fun k hk => ?_⟩
  · exact W6 (by simp [cnt])
  conv => whnf
  refine Bc_intro (fun h => ?_) (fun h => ?_)
  · have h : (k : Int) < b.length := of_decide_eq_true h
    have hlt : k < b.length := by omega
    have hcs := cnt_succ (p := isB t) hlt
    have hcb2 := cnt_le (isB t) b k
    have hg : b[k] = b.getD k 0 := by simp [hlt]
    rw [hg] at hcs
    conv => whnf
    repeat (first
      | (refine ⟨_, ints_m rfl (by first | omega | (dsimp only; omega)), ?_⟩; conv => whnf)
      | (refine ⟨_, ints_p rfl (by first | omega | (dsimp only; omega)), ?_⟩; conv => whnf)
      | (refine ⟨_, rows_m rfl (by first | omega | (dsimp only; omega)), ?_⟩; conv => whnf)
      | (refine ⟨(D.int .i64 _ : D), rfl, ?_⟩; conv => whnf)
      | (refine ⟨(_ : Nat), rfl, (show (_ : Nat) < _ by first | omega | (dsimp only; omega)), ?_⟩; conv => whnf)
      | (refine ⟨(_ : Nat), rfl, (show (_ : Nat) ≤ _ by first | omega | (dsimp only; omega)), ?_⟩; conv => whnf)
      | (refine ⟨(_ : Nat), wrap_pred (by omega), (show (_ : Nat) < _ by first | omega | (dsimp only; omega)), ?_⟩; conv => whnf)
      | (refine ⟨(0 : Nat), rfl, Nat.le_of_ble_eq_true rfl, ?_⟩; conv => whnf)
      | (refine ⟨(1 : Nat), rfl, Nat.le_of_ble_eq_true rfl, ?_⟩; conv => whnf)
      | (refine ⟨(2 : Nat), rfl, Nat.le_of_ble_eq_true rfl, ?_⟩; conv => whnf))
    refine Bc_intro (fun hz => ?_) (fun hz => ?_)
    · have hz : isB t (b.getD k 0) = true := hz
      rw [hz, if_pos rfl] at hcs
      conv => whnf
      refine ⟨k + 1, hlt, (by show b.length - (k + 1) < b.length - k; omega), ?_, rfl, rfl, rfl⟩
      exact WV6 (by rw [wrap_id (by omega) (by omega), hcs]; omega) (wrap_succ (k := k) (n := 9223372036854775807) (by omega) (by omega))
    · have hz : isB t (b.getD k 0) = false := hz
      rw [hz] at hcs
      conv => whnf
      refine ⟨k + 1, hlt, (by show b.length - (k + 1) < b.length - k; omega), ?_, rfl, rfl, rfl⟩
      exact WV6 (by rw [hcs]; rfl) (wrap_succ (k := k) (n := 9223372036854775807) (by omega) (by omega))
  · have h : ¬ (k : Int) < b.length := of_decide_eq_false h
    have : k = b.length := by omega
    subst this
    conv => whnf
    exact ⟨rfl, rfl⟩
end Go.Qt

namespace Go.Qt
open Go Go.Qv Go.Proofs
noncomputable def body31 : Code := match Tryz.f31.body with | some b => b | none => .skip
noncomputable def body33 : Code := match Tryz.f33.body with | some b => b | none => .skip
noncomputable def body60 : Code := match Tryz.f60.body with | some b => b | none => .skip
noncomputable def body45 : Code := match Tryz.f45.body with | some b => b | none => .skip
noncomputable def body32 : Code := match Tryz.f32.body with | some b => b | none => .skip
set_option maxHeartbeats 4000000
theorem rows_len {es : List (List Int)} : (rows es).length = es.length := by simp [rows]
theorem ac31 (es : List (List Int)) (hn : es.length ≤ 1048576) : AC Tryz.prog 31 [.rs true false (rows es) es.length] (.fs 22 true (rows es) es.length) := by
  refine AC_of_awp2 (E := env 8 [] [] 0) (env_ok _ _ _ _) mixed Tryz.call31 Tryz.func31 (code := body31) rfl rfl (by kernel_rfl) (Nat.le_of_ble_eq_true rfl) fun hl => ?_
  conv => whnf
  clear hl
  intro nb hnb
  conv => whnf
  refine Bc_intro (fun h => ?_) (fun h => ?_)
  · have h0 : es = [] := List.eq_nil_of_length_eq_zero (hnb h)
    subst h0
    conv => whnf
    exact ⟨rfl, [.fs 22 true [] 0], ⟨.inr ⟨rfl, 22, true, rfl⟩, trivial⟩, rfl⟩
  · conv => whnf
    refine ⟨true, .inl rfl, .inl rfl, .inl rfl, rfl, rows_len, sizeLim_of (by show (0 + es.length) * 24 ≤ _; omega), intLim_of' (by omega), ?_⟩
    conv => whnf
    refine ⟨rfl, [.fs 22 true (rows es) es.length], ⟨.inl ?_, trivial⟩, rfl⟩
    show AV.fs 22 true (rows es) es.length = AV.fs 22 true ([] ++ rows es) (0 + es.length)
    rw [Nat.zero_add]; rfl

/-- The stage of an edge. -/
def stg (e : List Int) : Int := e.getD 2 0
theorem ac33 (x y z x' y' z' : Int) (h : -5 ≤ z - z') (h' : z - z' ≤ 5) : AC Tryz.prog 33 [.rs true false (ints [x, y, z]) 3, .rs true false (ints [x', y', z']) 3] (.int .i64 (z - z')) := by
  refine AC_of_awp (E := env 12 [] [] 0) (env_ok _ _ _ _) mixed Tryz.call33 Tryz.func33 (code := body33) rfl rfl (by kernel_rfl) (Nat.le_of_ble_eq_true rfl) fun hl => ?_
  conv => whnf
  clear hl
  repeat (first
    | (refine ⟨_, ints_m rfl (by first | omega | (dsimp only; omega)), ?_⟩; conv => whnf)
    | (refine ⟨_, ints_p rfl (by first | omega | (dsimp only; omega)), ?_⟩; conv => whnf)
    | (refine ⟨_, rows_m rfl (by first | omega | (dsimp only; omega)), ?_⟩; conv => whnf)
    | (refine ⟨(D.int .i64 _ : D), rfl, ?_⟩; conv => whnf)
    | (refine ⟨(_ : Nat), rfl, (show (_ : Nat) < _ by first | omega | (dsimp only; omega)), ?_⟩; conv => whnf)
    | (refine ⟨(_ : Nat), rfl, (show (_ : Nat) ≤ _ by first | omega | (dsimp only; omega)), ?_⟩; conv => whnf)
    | (refine ⟨(_ : Nat), wrap_pred (by omega), (show (_ : Nat) < _ by first | omega | (dsimp only; omega)), ?_⟩; conv => whnf)
    | (refine ⟨(0 : Nat), rfl, Nat.le_of_ble_eq_true rfl, ?_⟩; conv => whnf)
    | (refine ⟨(1 : Nat), rfl, Nat.le_of_ble_eq_true rfl, ?_⟩; conv => whnf)
    | (refine ⟨(2 : Nat), rfl, Nat.le_of_ble_eq_true rfl, ?_⟩; conv => whnf))
  refine ⟨rfl, ?_⟩
  show AV.int .i64 (IntKind.i64.wrap (z - z')) = _
  rw [wrap_id (by omega) (by omega)]

def Edg (e : List Int) : Prop := ∃ x y z : Int, e = [x, y, z] ∧ 0 ≤ z ∧ z ≤ 4
theorem ac33e (e e' : List Int) (h : Edg e) (h' : Edg e') : AC Tryz.prog 33 [.rs true false (ints e) e.length, .rs true false (ints e') e'.length] (.int .i64 (stg e - stg e')) := by
  obtain ⟨x, y, z, rfl, h1, h2⟩ := h
  obtain ⟨x', y', z', rfl, h3, h4⟩ := h'
  exact ac33 x y z x' y' z' (by omega) (by omega)
def ltE (e e' : List Int) : Bool := decide (stg e - stg e' < 0)
def esort (l : List (List Int)) : List (List Int) := sinks ltE [] l (l.length - 1)
theorem getD_mem {l : List (List Int)} {k : Nat} (h : k < l.length) : l.getD k [] ∈ l := by
  have e : l.getD k [] = l[k] := by simp [h]
  rw [e]; exact List.getElem_mem h
theorem swapAt_mem {l : List (List Int)} {j : Nat} (h : j + 1 < l.length) : ∀ e ∈ swapAt [] l j, e ∈ l := by
  intro e he
  unfold swapAt at he
  rcases List.mem_or_eq_of_mem_set he with h1 | h1
  · rcases List.mem_or_eq_of_mem_set h1 with h2 | h2
    · exact h2
    · rw [h2]; exact getD_mem (by omega)
  · rw [h1]; exact getD_mem (by omega)
theorem sink_mem {P : List Int → Prop} : ∀ (j : Nat) (l : List (List Int)), j < l.length → (∀ e ∈ l, P e) → ∀ e ∈ sink ltE [] l j, P e
  | 0, _, _, h => h
  | j + 1, l, hj, h => by
    simp only [sink]
    split
    · exact sink_mem j _ (by rw [swapAt_len]; omega) fun e he => h e (swapAt_mem hj e he)
    · exact h
theorem sinks_mem {P : List Int → Prop} {l : List (List Int)} (h : ∀ e ∈ l, P e) : ∀ k, k < l.length → ∀ e ∈ sinks ltE [] l k, P e
  | 0, _ => h
  | k + 1, hk => sink_mem (k + 1) _ (by rw [sinks_len]; omega) (sinks_mem h k (by omega))
theorem rows_set {c : List (List Int)} {k : Nat} {v : List Int} (h : k < c.length) : setND (rows c) k [D.sl (ints v) v.length] = rows (c.set k v) := by
  apply List.ext_getElem?
  intro i
  simp only [setND, rows, List.length_cons, List.length_nil, Nat.zero_add]
  rw [List.append_assoc, List.singleton_append]
  by_cases h1 : i < k
  · rw [List.getElem?_append_left (by simp; omega)]
    simp [h1, Nat.ne_of_gt h1]
  · rw [List.getElem?_append_right (by simp; omega)]
    have hl : ((c.map fun e => D.sl (ints e) e.length).take k).length = k := by simp; omega
    rw [hl]
    by_cases h2 : i = k
    · subst h2; simp [h]
    · obtain ⟨j, hj⟩ : ∃ j, i - k = j + 1 := ⟨i - k - 1, by omega⟩
      rw [hj, List.getElem?_cons_succ, List.getElem?_drop]
      have : k + 1 + j = i := by omega
      rw [this]
      simp [Ne.symm h2]

theorem aio60 (l : List (List Int)) (hn : l.length ≤ 1048576) (hE : ∀ e ∈ l, Edg e) : AIO Tryz.prog 60 true [.ow 0 l.length, .int .i64 0, .int .i64 l.length, .fn 33 []] 22 (rows l) (.tup []) true (rows (esort l)) := by
  refine AIO_of_awp (E := env 53 [] [] 1) (env_ok _ _ _ _) mixed Tryz.call60 Tryz.func60 (code := body60) rfl rfl (by kernel_rfl) (Nat.le_of_ble_eq_true rfl) (fun _ => rfl) fun hl hlc => ?_
  conv => whnf
  clear hl hlc
  refine ⟨Nat × List (List Int), [], [0, 1, 2, 3, 8], fun a => [.ow 0 l.length, .int .i64 0, .int .i64 l.length, .fn 33 [], .int .i64 ((a.1 + 1 : Nat) : Int)], fun a => [some (.row 22 true (rows a.2))], fun a => (a.1 + 1 ≤ l.length ∨ l.length = 0 ∧ a.1 = 0) ∧ a.2 = sinks ltE [] l a.1, fun a => l.length - a.1, 1, fun _ => rfl, rfl,
      ⟨_, (0, l), rfl, ⟨by show 0 + 1 ≤ _ ∨ _ ∧ 0 = 0; omega, rfl⟩, rfl, rfl, rfl, rfl⟩, fun a ha => ?_⟩
  obtain ⟨i, c0⟩ := a
  obtain ⟨hi, hc0⟩ := ha
  simp only at hi hc0
  have hc0l : c0.length = l.length := by rw [hc0, sinks_len]
  conv => whnf
  refine Bc_intro (fun h => ?_) (fun h => ?_)
  · have h : ((i + 1 : Nat) : Int) < l.length := of_decide_eq_true h
    have hc0E : ∀ e ∈ c0, Edg e := by rw [hc0]; exact sinks_mem hE i (by omega)
    conv => whnf
    refine ⟨Nat × List (List Int), [], [0, 1, 2, 3, 8, 9], fun a => [.ow 0 l.length, .int .i64 0, .int .i64 l.length, .fn 33 [], .int .i64 ((i + 1 : Nat) : Int), .int .i64 (a.1 : Int)], fun a => [some (.row 22 true (rows a.2))], fun a => a.1 ≤ i + 1 ∧ a.2.length = l.length ∧ (∀ e ∈ a.2, Edg e) ∧ sink ltE [] a.2 a.1 = sink ltE [] c0 (i + 1), fun a => a.1, 1, fun _ => rfl, rfl,
        ⟨_, (i + 1, c0), rfl, ⟨Nat.le_refl _, hc0l, hc0E, rfl⟩, rfl, rfl, rfl, rfl⟩, fun a ha => ?_⟩
    obtain ⟨j, c⟩ := a
    obtain ⟨hj, hcl, hcE, hsk⟩ := ha
    simp only at hj hcl hcE hsk
    conv => whnf
    refine Bc_intro (fun hp => ?_) (fun hp => ?_)
    · have hp : (j : Int) > 0 := of_decide_eq_true hp
      obtain ⟨j, rfl⟩ : ∃ k, j = k + 1 := ⟨j - 1, by omega⟩
      rw [show sink ltE [] c (j + 1) = if ltE (c.getD (j + 1) []) (c.getD j []) then sink ltE [] (swapAt [] c j) j else c from rfl] at hsk
      conv => whnf
      repeat (first
        | (refine ⟨_, ints_m rfl (by first | omega | (dsimp only; omega)), ?_⟩; conv => whnf)
        | (refine ⟨_, ints_p rfl (by first | omega | (dsimp only; omega)), ?_⟩; conv => whnf)
        | (refine ⟨_, rows_m rfl (by first | omega | (dsimp only; omega)), ?_⟩; conv => whnf)
        | (refine ⟨(D.int .i64 _ : D), rfl, ?_⟩; conv => whnf)
        | (refine ⟨(_ : Nat), rfl, (show (_ : Nat) < _ by first | omega | (dsimp only; omega)), ?_⟩; conv => whnf)
        | (refine ⟨(_ : Nat), rfl, (show (_ : Nat) ≤ _ by first | omega | (dsimp only; omega)), ?_⟩; conv => whnf)
        | (refine ⟨(_ : Nat), wrap_pred (by omega), (show (_ : Nat) < _ by first | omega | (dsimp only; omega)), ?_⟩; conv => whnf)
        | (refine ⟨(0 : Nat), rfl, Nat.le_of_ble_eq_true rfl, ?_⟩; conv => whnf)
        | (refine ⟨(1 : Nat), rfl, Nat.le_of_ble_eq_true rfl, ?_⟩; conv => whnf)
        | (refine ⟨(2 : Nat), rfl, Nat.le_of_ble_eq_true rfl, ?_⟩; conv => whnf))
      refine ⟨_, ac33e _ _ (hcE _ (getD_mem (k := j + 1) (by omega))) (hcE _ (getD_mem (k := j) (by omega))), rfl, ?_⟩
      conv => whnf
      refine Bc_intro (fun hq => ?_) (fun hq => ?_)
      · have hq : ltE (c.getD (j + 1) []) (c.getD j []) = true := hq
        rw [if_pos hq] at hsk
        conv => whnf
        repeat (first
          | (refine ⟨_, ints_m rfl (by first | omega | (dsimp only; omega)), ?_⟩; conv => whnf)
          | (refine ⟨_, ints_p rfl (by first | omega | (dsimp only; omega)), ?_⟩; conv => whnf)
          | (refine ⟨_, rows_m rfl (by first | omega | (dsimp only; omega)), ?_⟩; conv => whnf)
          | (refine ⟨(D.int .i64 _ : D), rfl, ?_⟩; conv => whnf)
          | (refine ⟨(_ : Nat), rfl, (show (_ : Nat) < _ by first | omega | (dsimp only; omega)), ?_⟩; conv => whnf)
          | (refine ⟨(_ : Nat), rfl, (show (_ : Nat) ≤ _ by first | omega | (dsimp only; omega)), ?_⟩; conv => whnf)
          | (refine ⟨(_ : Nat), wrap_pred (by omega), (show (_ : Nat) < _ by first | omega | (dsimp only; omega)), ?_⟩; conv => whnf)
          | (refine ⟨(0 : Nat), rfl, Nat.le_of_ble_eq_true rfl, ?_⟩; conv => whnf)
          | (refine ⟨(1 : Nat), rfl, Nat.le_of_ble_eq_true rfl, ?_⟩; conv => whnf)
          | (refine ⟨(2 : Nat), rfl, Nat.le_of_ble_eq_true rfl, ?_⟩; conv => whnf))
        refine ⟨(show (j + 1) + 1 ≤ (rows c).length by rw [rows_len]; omega), ?_⟩
        conv => whnf
        repeat (first
          | (refine ⟨_, ints_m rfl (by first | omega | (dsimp only; omega)), ?_⟩; conv => whnf)
          | (refine ⟨_, ints_p rfl (by first | omega | (dsimp only; omega)), ?_⟩; conv => whnf)
          | (refine ⟨_, rows_m rfl (by first | omega | (dsimp only; omega)), ?_⟩; conv => whnf)
          | (refine ⟨(D.int .i64 _ : D), rfl, ?_⟩; conv => whnf)
          | (refine ⟨(_ : Nat), rfl, (show (_ : Nat) < _ by first | omega | (dsimp only; omega)), ?_⟩; conv => whnf)
          | (refine ⟨(_ : Nat), rfl, (show (_ : Nat) ≤ _ by first | omega | (dsimp only; omega)), ?_⟩; conv => whnf)
          | (refine ⟨(_ : Nat), wrap_pred (by omega), (show (_ : Nat) < _ by first | omega | (dsimp only; omega)), ?_⟩; conv => whnf)
          | (refine ⟨(0 : Nat), rfl, Nat.le_of_ble_eq_true rfl, ?_⟩; conv => whnf)
          | (refine ⟨(1 : Nat), rfl, Nat.le_of_ble_eq_true rfl, ?_⟩; conv => whnf)
          | (refine ⟨(2 : Nat), rfl, Nat.le_of_ble_eq_true rfl, ?_⟩; conv => whnf))
        refine ⟨(show j + 1 ≤ (setND (rows c) (j + 1) [_]).length by rw [setND_len1 (by rw [rows_len]; omega), rows_len]; omega), ?_⟩
        conv => whnf
        refine ⟨(j, swapAt [] c j), ⟨by show j ≤ i + 1; omega, by show (swapAt [] c j).length = _; rw [swapAt_len, hcl], fun e he => hcE e (swapAt_mem (by omega) e he), hsk⟩, (by show j < j + 1; omega), ?_, ?_, rfl, rfl⟩
        · exact V6 (wrap_pred (j := j) (by omega))
        · have e : setND (setND (rows c) (j + 1) [D.sl (ints (c.getD j [])) (c.getD j []).length]) j [D.sl (ints (c.getD (j + 1) [])) (c.getD (j + 1) []).length] = rows (swapAt [] c j) := by
            rw [rows_set (by omega), rows_set (by simp; omega)]; rfl
          exact row1 e
      · have hq : ltE (c.getD (j + 1) []) (c.getD j []) = false := hq
        rw [hq] at hsk
        have hsk : c = sink ltE [] c0 (i + 1) := hsk
        conv => whnf
        refine ⟨(i + 1, c), ⟨by show i + 1 + 1 ≤ l.length ∨ _; omega, by show c = _; rw [hsk, hc0]; rfl⟩, (by show l.length - (i + 1) < l.length - i; omega), ?_, rfl, rfl, rfl⟩
        exact V5 (wrap_succ (k := (i + 1)) (n := 9223372036854775807) (by omega) (by omega))
    · have hp : ¬ (j : Int) > 0 := of_decide_eq_false hp
      obtain rfl : j = 0 := by omega
      have hsk : c = sink ltE [] c0 (i + 1) := hsk
      conv => whnf
      refine ⟨(i + 1, c), ⟨by show i + 1 + 1 ≤ l.length ∨ _; omega, by show c = _; rw [hsk, hc0]; rfl⟩, (by show l.length - (i + 1) < l.length - i; omega), ?_, rfl, rfl, rfl⟩
      exact V5 (wrap_succ (k := (i + 1)) (n := 9223372036854775807) (by omega) (by omega))
  · have h : ¬ ((i + 1 : Nat) : Int) < l.length := of_decide_eq_false h
    have : i = l.length - 1 := by omega
    subst this
    conv => whnf
    refine ⟨rfl, rfl, ?_⟩
    show some (Blk.row 22 true (rows c0)) = _
    rw [hc0]; rfl

theorem aio45 (l : List (List Int)) (hn : l.length ≤ 8) (hE : ∀ e ∈ l, Edg e) : AIO Tryz.prog 45 true [.ow 0 l.length, .int .i64 l.length, .fn 33 []] 22 (rows l) (.tup []) true (rows (esort l)) := by
  refine AIO_of_awp (E := env 63 [] [18, 27, 43, 60] 1) (env_ok _ _ _ _) mixed Tryz.call45 Tryz.func45 (code := body45) rfl rfl (by kernel_rfl) (Nat.le_of_ble_eq_true rfl) (fun _ => rfl) fun hl hlc => ?_
  conv => whnf
  clear hl hlc
  refine ⟨Unit, [], [0, 1, 2, 6, 7, 8], fun _ => [.ow 0 l.length, .int .i64 l.length, .fn 33 [], .int .i64 20, .int .i64 0, .int .i64 20], fun _ => [some (.row 22 true (rows l))], fun _ => True, fun _ => 0, 1, fun _ => rfl, rfl,
      ⟨_, (), rfl, trivial, rfl, rfl, rfl, rfl⟩, fun _ _ => ?_⟩
  conv => whnf
  refine Bc_intro (fun h => ?_) (fun h => ?_)
  · have h : (20 : Int) ≤ l.length := of_decide_eq_true h
    omega
  clear h
  conv => whnf
  refine ⟨0, true, _, true, _, true, aio60 l (by omega) hE, .inl rfl, ?_⟩
  conv => whnf
  refine ⟨Unit, [], [0, 1, 6], fun _ => [.ow 0 l.length, .int .i64 l.length, .int .i64 20], fun _ => [some (.row 22 true (rows (esort l)))], fun _ => True, fun _ => 0, 1, fun _ => rfl, rfl,
      ⟨_, (), rfl, trivial, rfl, rfl, rfl, rfl⟩, fun _ _ => ?_⟩
  conv => whnf
  refine Bc_intro (fun h => ?_) (fun h => ?_)
  · have h : (20 : Int) < l.length := of_decide_eq_true h
    omega
  clear h
  conv => whnf
  exact ⟨rfl, rfl, rfl⟩
theorem aio32 (l : List (List Int)) (hn : l.length ≤ 8) (hE : ∀ e ∈ l, Edg e) : AIO Tryz.prog 32 true [.ow 0 l.length, .fn 33 []] 22 (rows l) (.tup []) true (rows (esort l)) := by
  refine AIO_of_awp (E := env 9 [] [8] 1) (env_ok _ _ _ _) mixed Tryz.call32 Tryz.func32 (code := body32) rfl rfl (by kernel_rfl) (Nat.le_of_ble_eq_true rfl) (fun _ => rfl) fun hl hlc => ?_
  conv => whnf
  clear hl hlc
  refine ⟨0, true, _, true, _, true, aio45 l hn hE, .inl rfl, ?_⟩
  conv => whnf
  exact ⟨rfl, rfl, rfl⟩
end Go.Qt
