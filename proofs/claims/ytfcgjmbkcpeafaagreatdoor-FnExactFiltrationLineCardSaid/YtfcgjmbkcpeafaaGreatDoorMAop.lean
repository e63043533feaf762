/- PROVED: for every input the law FnExactFiltrationLine returns true and each argument reads afterwards as it read before (the statement 'FnExactFiltrationLineCardSaid' of the given Rows).
Conditions: none beyond those which the given statement itself names. This text is one part of the proof. -/
import Derived.Test.YtfcgjmbkcpeafaaGreatDoorMIo

/- The abstract machine: one operation. -/
namespace Go.Qv
open Go Go.RowKit

section
variable {A : Nat → Prop} {c : Ctx} {d : Nat} {H : Nat → Option Blk} {n : Nat}

/-- What an operation comes to, concretely. -/
def Runs (P : Program) (A : Nat → Prop) (c : Ctx) (d : Nat) (H' : Nat → Option Blk) (n' : Nat) (ks : List Nat) (r : AV) : Result Next → Prop
  | .ok (.value u) w' => Out P A c d H' n' ks r u w'
  | .ok .skip w' => Out P A c d H' n' ks r undef w'
  | .ok (.enter g args) w' => w' = c.w ∧ Calls P g args c.w (fun e w'' => ∃ u, e = .returned u ∧ Out P A c d H' n' ks r u w'')
  | _ => False

structure EnvOk (E : Env) : Prop where
  T : TOk E.P E.T
  Z : ∀ t i, look E.T t = some i → i.zero.length = i.size

theorem evL_ok {f : Nat → AV} {a : Act} (h : ∀ t, RA c d (f t) (a.tmps.getD t undef)) : ∀ xs : List Operand, All2 (RA c (d + 1)) (evL f xs) (xs.map a.eval)
  | [] => trivial
  | x :: xs => ⟨RA.ev h x, evL_ok h xs⟩

theorem parts_ok {f : Nat → AV} {a : Act} (h : ∀ t, RA c d (f t) (a.tmps.getD t undef)) (ps : List (Nat × Operand)) : Parts c (d + 1) (partsA f ps) (ps.map fun (i, x) => (i, a.eval x)) := by
  constructor
  · induction ps with
    | nil => rfl
    | cons p ps ih => simp only [partsA, List.length_cons, List.map_cons, ih]
  · induction ps with
    | nil => intro i p p' h1; simp [partsA] at h1
    | cons q ps ih =>
      intro i p p' h1 h2
      obtain ⟨j, x⟩ := q
      cases i with
      | zero =>
        simp only [partsA, List.getElem?_cons_zero, Option.some.injEq, List.map_cons] at h1 h2
        subst h1 h2
        exact ⟨rfl, RA.ev h x⟩
      | succ i =>
        simp only [partsA, List.getElem?_cons_succ, List.map_cons] at h1 h2
        exact ih i p p' h1 h2

theorem opt_ok {f : Nat → AV} {a : Act} (h : ∀ t, RA c d (f t) (a.tmps.getD t undef)) (x : Option Operand) : ROpt c (d + 1) (x.map (evA f)) (x.map a.eval) := by
  cases x with
  | none => trivial
  | some x => exact RA.ev h x

theorem map_toArray {α β : Type} (f : α → β) (a : Array α) : a.map f = (a.toList.map f).toArray := by apply Array.ext'; simp

theorem Bc_ok {b : Bool} {K : Bool → Prop} (h : Bc b K) : K b := by cases b <;> exact h

theorem aopK_ok {E : Env} (hE : EnvOk E) (hH : HeapOk E.P A c d H n) (hA : ∀ b, c.w.heap.size ≤ b → A b) {f : Nat → AV} {a : Act} (ht : ∀ t, RA c d (f t) (a.tmps.getD t undef)) {dr : Bool} {o : Oper} {K : Kont} (h : aopK E dr f H n o K) :
    ∃ r H' n' ks, K r H' n' ks ∧ Runs E.P A c d H' n' ks r ((execOp a.eval o).run E.P c.w) ∧ (dr = true → fence o.op = false → H' = H ∧ n' = n ∧ ks = []) := by
  have hH1 := hH.le (Nat.le_succ d)
  have pure1 : ∀ {r : AV} {u : Value} {d' : Nat}, d ≤ d' → RA c d' r u → ∀ x : Result Next, x = .ok (.value u) c.w → Runs E.P A c d H n [] r x := fun hd hr x hx => by
    rw [hx]; exact Out.pure hH hd hr
  unfold aopK at h
  split at h
  · -- move
    rename_i x ho
    exact ⟨_, _, _, _, h, pure1 (Nat.le_succ d) (RA.ev ht x) _ (by simp [execOp, ho]), fun _ _ => ⟨rfl, rfl, rfl⟩⟩
  · rename_i x ho
    exact ⟨_, _, _, _, h, pure1 (Nat.le_succ d) (RA.ev ht x) _ (by simp [execOp, ho]), fun _ _ => ⟨rfl, rfl, rfl⟩⟩
  · -- pick
    rename_i x y z ho
    split at h
    · rename_i t hx
      have h' := Bc_ok h
      have hcx := RA.ev ht x
      rw [hx] at hcx
      have hv : a.eval x = .bool t := hcx
      cases t with
      | true => exact ⟨_, _, _, _, h', pure1 (Nat.le_succ d) (RA.ev ht y) _ (by simp [execOp, ho, hv, asBool]), fun _ _ => ⟨rfl, rfl, rfl⟩⟩
      | false => exact ⟨_, _, _, _, h', pure1 (Nat.le_succ d) (RA.ev ht z) _ (by simp [execOp, ho, hv, asBool]), fun _ _ => ⟨rfl, rfl, rfl⟩⟩
    · exact h.elim
  · -- alloc
    rename_i e ho
    split at h
    · rename_i i hl
      obtain ⟨v, w', h1, h2⟩ := alloc_ok hH hA hE.T hl
      exact ⟨_, _, _, _, h, by simp [execOp, ho, h1, Runs]; exact h2, fun _ hf => by rw [ho] at hf; cases hf⟩
    · exact h.elim
  · -- box
    rename_i e x ho
    split at h
    · rename_i cs hc
      cases hn : noAny cs with
      | false => rw [hn] at h; exact h.elim
      | true =>
        rw [hn] at h
        simp only [cond_true, forceL_eq] at h
        obtain ⟨v, w', h1, h2⟩ := box_ok (e := e) hH1 hA (RA.ev ht x) hc
        exact ⟨_, _, _, _, h, by simp [execOp, ho, h1, Runs]; exact Out.lower (Nat.le_succ d) h2, fun _ hf => by rw [ho] at hf; cases hf⟩
    · exact h.elim
  · -- build
    rename_i t ps ho
    obtain ⟨r, v, h1, h2, h3⟩ := buildK_ok hE.T (parts_ok ht ps.toList) h
    refine ⟨_, _, _, _, h1, pure1 (by omega) h3 _ ?_, fun _ _ => ⟨rfl, rfl, rfl⟩⟩
    have := map_toArray (fun (x : Nat × Operand) => match x with | (i, x) => (i, a.eval x)) ps
    simp only [execOp, ho, this, Sem.run_bind, h2, Result.andThen_ok, Sem.run_pure]
  · -- buildSlice
    rename_i t k ps ho
    obtain ⟨r, H', n', ks, u, w', h1, h2, h3, h4⟩ := buildSliceK_ok hH1 hA hE.T hE.Z (parts_ok ht ps.toList) h
    refine ⟨r, H', n', ks, h1, ?_, fun hdr _ => h4 ?_⟩
    · have := map_toArray (fun (x : Nat × Operand) => match x with | (i, x) => (i, a.eval x)) ps
      simp only [execOp, ho, this, Sem.run_bind, h2, Result.andThen_ok, Sem.run_pure]
      exact Out.lower (Nat.le_succ d) h3
    · subst hdr; cases o.dst <;> simp
  · -- load
    rename_i t x ho
    obtain ⟨r, v, h1, h2, h3⟩ := loadK_ok hE.T hH1 (RA.ev ht x) h
    exact ⟨_, _, _, _, h1, pure1 (by omega) h3 _ (by simp [execOp, ho, h2]), fun _ _ => ⟨rfl, rfl, rfl⟩⟩
  · -- store
    rename_i t x v ho
    obtain ⟨H', w', h1, h2, h3⟩ := storeK_ok hH1 hE.T (RA.ev ht x) (RA.ev ht v) h
    exact ⟨_, _, _, _, h1, by simp [execOp, ho, h2, Runs]; exact Out.lower (Nat.le_succ d) h3, fun _ hf => by rw [ho] at hf; cases hf⟩
  · -- nilCheck
    rename_i x ho
    have hx := RA.ev ht x
    split at h
    · rename_i id off he
      rw [he] at hx
      obtain ⟨r, hr, hv, e⟩ := hx.op
      exact ⟨_, _, _, _, h, pure1 (Nat.le_succ d) hx _ (by simp [execOp, ho, e]), fun _ _ => ⟨rfl, rfl, rfl⟩⟩
    · rename_i m cs off he
      rw [he] at hx
      obtain ⟨b, o', e, _⟩ := hx.rp
      exact ⟨_, _, _, _, h, pure1 (Nat.le_succ d) hx _ (by simp [execOp, ho, e]), fun _ _ => ⟨rfl, rfl, rfl⟩⟩
    · rename_i g cs he
      rw [he] at hx
      obtain ⟨d', vs, _, e, _⟩ := hx.fn
      exact ⟨_, _, _, _, h, pure1 (Nat.le_succ d) hx _ (by simp [execOp, ho, e]), fun _ _ => ⟨rfl, rfl, rfl⟩⟩
    · exact h.elim
  · -- binOp
    rename_i op t x y yt ho
    cases hn : isNilC y with
    | false =>
      simp only [hn, cond_false] at h
      obtain ⟨r, z, h1, h2, h3⟩ := binK_ok hE.T (RA.ev ht x) (RA.ev ht y) h x y
      refine ⟨_, _, _, _, h1, pure1 (Nat.le_succ d) h3 _ ?_, fun _ _ => ⟨rfl, rfl, rfl⟩⟩
      simp only [execOp, ho]
      rw [Sem.run_bind, h2]
      rfl
    | true =>
      simp only [hn, cond_true] at h
      have hy : a.eval y = .slice none 0 0 := by
        unfold isNilC at hn
        split at hn
        · rfl
        · cases hn
      obtain ⟨r, z, h1, h2, h3⟩ := nilK_ok hE.T (RA.ev ht x) h x y
      refine ⟨_, _, _, _, h1, pure1 (Nat.le_succ d) h3 _ ?_, fun _ _ => ⟨rfl, rfl, rfl⟩⟩
      simp only [execOp, ho, hy]
      rw [Sem.run_bind, h2]
      rfl
  · -- unOp
    rename_i op t x ho
    obtain ⟨r, z, h1, h2, h3⟩ := unK_ok (P := E.P) (RA.ev ht x) h
    exact ⟨_, _, _, _, h1, pure1 (Nat.le_succ d) h3 _ (by simp [execOp, ho, h2]), fun _ _ => ⟨rfl, rfl, rfl⟩⟩
  · -- convert
    rename_i s t x ho
    obtain ⟨r, z, h1, h2, h3⟩ := convK_ok hH1 hE.T (RA.ev ht x) h
    exact ⟨_, _, _, _, h1, pure1 (Nat.le_succ d) h3 _ (by simp [execOp, ho, h2]), fun _ _ => ⟨rfl, rfl, rfl⟩⟩
  · -- makeFunc
    rename_i g fst cs ho
    split at h
    · rename_i hfst
      refine ⟨_, _, _, _, h, pure1 (r := .fn g (evL f cs.toList)) (u := .func (.func g) #[] (cs.toList.map a.eval).toArray) (d' := d + 2) (by omega) ⟨_, rfl, evL_ok ht _⟩ _ ?_, fun _ _ => ⟨rfl, rfl, rfl⟩⟩
      have e1 : fst = #[] := by apply Array.ext'; exact hfst
      have e2 := map_toArray a.eval cs
      have e0 : (#[] : Array Operand).map a.eval = #[] := by apply Array.ext'; simp
      simp only [execOp, ho, Instr.makeFunc, e1, e2, e0, Sem.run_bind, Sem.run_pure, Result.andThen_ok]
    · exact h.elim
  · -- makeSlice
    rename_i t l k ho
    obtain ⟨r, H', n', ks, u, w', h1, h2, h3⟩ := makeSliceK_ok hH1 hA hE.T hE.Z (RA.ev ht l) (RA.ev ht k) h
    exact ⟨r, H', n', ks, h1, by simp [execOp, ho, h2, Runs]; exact Out.lower (Nat.le_succ d) h3, fun _ hf => by rw [ho] at hf; cases hf⟩
  · -- slice
    rename_i t x lo hi mx ho
    obtain ⟨r, v, h1, h2, h3⟩ := sliceK_ok hE.T hH1 (RA.ev ht x) (opt_ok ht lo) (opt_ok ht hi) (opt_ok ht mx) h
    exact ⟨_, _, _, _, h1, pure1 (by omega) h3 _ (by simp [execOp, ho, h2]), fun _ _ => ⟨rfl, rfl, rfl⟩⟩
  · -- fieldAddr
    rename_i t x k ho
    obtain ⟨r, v, h1, h2, h3⟩ := fieldAddrK_ok hE.T (RA.ev ht x) h
    exact ⟨_, _, _, _, h1, pure1 (Nat.le_succ d) h3 _ (by simp [execOp, ho, h2]), fun _ _ => ⟨rfl, rfl, rfl⟩⟩
  · -- field
    rename_i t x k ho
    obtain ⟨r, v, h1, h2, h3⟩ := fieldK_ok hE.T (RA.ev ht x) h
    exact ⟨_, _, _, _, h1, pure1 (by omega) h3 _ (by simp [execOp, ho, h2]), fun _ _ => ⟨rfl, rfl, rfl⟩⟩
  · -- indexAddr
    rename_i t x i ho
    obtain ⟨r, v, h1, h2, h3⟩ := indexAddrK_ok hE.T (RA.ev ht x) (RA.ev ht i) h
    exact ⟨_, _, _, _, h1, pure1 (Nat.le_succ d) h3 _ (by simp [execOp, ho, h2]), fun _ _ => ⟨rfl, rfl, rfl⟩⟩
  · -- index
    rename_i t x i ho
    obtain ⟨r, v, h1, h2, h3⟩ := indexK_ok hE.T (RA.ev ht x) (RA.ev ht i) h
    exact ⟨_, _, _, _, h1, pure1 (by omega) h3 _ (by simp [execOp, ho, h2]), fun _ _ => ⟨rfl, rfl, rfl⟩⟩
  · -- extract
    rename_i x k ho
    have hx := RA.ev ht x
    split at h
    · rename_i vs he
      rw [he] at hx
      obtain ⟨us, e, hall⟩ := hx
      split at h
      · rename_i v hv
        rw [nth_eq] at hv
        obtain ⟨u, hu, hr⟩ := hall.idx _ _ hv
        exact ⟨_, _, _, _, h, pure1 (Nat.le_refl d) hr _ (by simp [execOp, ho, e, Instr.extract, hu]), fun _ _ => ⟨rfl, rfl, rfl⟩⟩
      · exact h.elim
    · exact h.elim
  · -- clear
    rename_i args ts ho
    have hargs := evL_ok ht args.toList
    obtain ⟨H', w', h1, h2, h3⟩ := clearK_ok hH1 hE.T hE.Z hargs h
    refine ⟨_, _, _, _, h1, ?_, fun _ hf => by rw [ho] at hf; cases hf⟩
    have e1 := map_toArray a.eval args
    have h2' : ∀ bs : Array Bool, (builtin .clear ts o.type bs (args.map a.eval)).run E.P c.w = .ok (.value (.tuple #[])) w' := fun bs => by
      have h2 := h2 o.type
      rw [← e1] at h2
      have h2 : (Builtin.clear_ ts o.type (args.map a.eval)).run E.P c.w = .ok (.tuple #[]) w' := by simpa using h2
      simp [builtin, h2]
    simp only [execOp, ho, resolve, Sem.run_bind, Sem.run_pure, Result.andThen_ok, invoke, h2']
    exact Out.lower (Nat.le_succ d) h3
  · -- a builtin
    rename_i b args ts _ ho
    have hargs := evL_ok ht args.toList
    obtain ⟨r, H', n', ks, u, w', h1, h2, h3, h4⟩ := builtinK_ok (ty := o.type) hH1 hA hE.T hE.Z hargs h
    refine ⟨r, H', n', ks, h1, ?_, fun _ hf => h4 fun e => ?_⟩
    · have e1 := map_toArray a.eval args
      have h2' : ∀ bs : Array Bool, (builtin b ts o.type bs (args.map a.eval)).run E.P c.w = .ok (.value u) w' := fun bs => by rw [e1]; exact h2 bs
      simp only [execOp, ho, resolve, Sem.run_bind, Sem.run_pure, Result.andThen_ok, invoke, h2']
      exact Out.lower (Nat.le_succ d) h3
    · subst e; rw [ho] at hf; cases hf
  · -- a call
    rename_i g args ts ho
    have hargs := evL_ok ht args.toList
    have hsplit : (∃ d, o.dst = some d ∧ dr = false ∧ callIO E H n (evA f g) (evL f args.toList) K) ∨ callK E H n (match o.dst with | some d => !dr && E.own d | none => false) (evA f g) (evL f args.toList) K := by
      cases hd : o.dst with
      | none => rw [hd] at h; exact .inr h
      | some d =>
        rw [hd] at h
        cases hio : (!dr && E.io d) with
        | true =>
          simp only [hio, cond_true] at h
          simp only [Bool.and_eq_true, Bool.not_eq_true'] at hio
          exact .inl ⟨d, rfl, hio.1, h⟩
        | false => simp only [hio, cond_false] at h; exact .inr h
    clear h
    rcases hsplit with ⟨_, _, hdr0, h⟩ | h
    · obtain ⟨r, H', n', ks, g', capsV, h1, h2, h3, h4⟩ := callIO_ok hH1 hA (RA.ev ht g) hargs h
      refine ⟨r, H', n', ks, h1, ?_, fun hdr _ => by rw [hdr0] at hdr; cases hdr⟩
      have e1 := map_toArray a.eval args
      rw [← e1] at h4
      simp only [execOp, ho, resolve, h2, Deferred.ofValue, Sem.run_bind, Sem.run_pure, Result.andThen_ok, invoke]
      have e3 : (#[] ++ args.map a.eval : Array Value) = args.map a.eval := by simp
      rw [e3, h3]
      exact ⟨rfl, h4.mono fun e w' ⟨u, he, ho⟩ => ⟨u, he, Out.lower (Nat.le_succ d) ho⟩⟩
    obtain ⟨r, H', n', g', capsV, h1, h2, h3, h4, h5⟩ := callK_ok hH1 hA (RA.ev ht g) hargs h
    refine ⟨r, H', n', [], h1, ?_, fun hdr _ => ?_⟩
    · have e1 := map_toArray a.eval args
      rw [← e1] at h4
      simp only [execOp, ho, resolve, h2, Deferred.ofValue, Sem.run_bind, Sem.run_pure, Result.andThen_ok, invoke]
      have e3 : (#[] ++ args.map a.eval : Array Value) = args.map a.eval := by simp
      rw [e3, h3]
      exact ⟨rfl, h4.mono fun e w' ⟨u, he, ho⟩ => ⟨u, he, Out.lower (Nat.le_succ d) ho⟩⟩
    · have := h5 (by subst hdr; cases o.dst <;> simp)
      exact ⟨this.1, this.2, rfl⟩
  · exact h.elim
end

end Go.Qv
