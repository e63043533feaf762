/- PROVED: for every input the law FnExactFiltrationLine returns true and each argument reads afterwards as it read before (the statement 'FnExactFiltrationLineCardSaid' of the given Rows).
Conditions: none beyond those which the given statement itself names. This text is one part of the proof. -/
import Derived.Test.YtfcgjmbkcpeafaaGreatDoorMFun

/- The abstract machine: results, where nil counts as a row without elements. -/
namespace Go.Qv
open Go Go.RowKit

/-- nil reads as a fresh row without elements. -/
def fitA (x y : AV) : Prop := y = x ∨ (x = .nils ∧ ∃ e m, y = .fs e m [] 0)
def FitL : List AV → List AV → Prop
  | [], [] => True
  | x :: xs, y :: ys => fitA x y ∧ FitL xs ys
  | _, _ => False

def finK2 (T : TT) (res : List ResultVar) (r : AV) (e : Ex) (st : ASt) : Prop :=
  match e with
  | .exit _ => False
  | _ => resK T st.tmps st.heap res fun rs => match fz1L T st.heap rs with
    | some l => (noDup (ids1L rs) && disjB (o1L rs) (ids1L rs)) = true ∧ ∃ l', FitL l l' ∧ pack l' = r
    | none => False

theorem fitA_rf {P : Program} {c : Ctx} {d : Nat} {x y : AV} {u : Value} {gs : List Nat} (h : fitA x y) (hr : RF1 P c d x u gs) : RF1 P c d y u gs := by
  rcases h with rfl | ⟨rfl, e, m, rfl⟩
  · exact hr
  · obtain ⟨h1, h2⟩ : RA c d .nils u ∧ gs = [] := hr
    have h3 : u = .slice none 0 0 := by cases d <;> exact h1
    exact ⟨by simp, .inl ⟨h2, rfl, rfl, none, h3⟩⟩
theorem FitL.rf {P : Program} {c : Ctx} {d : Nat} : ∀ {l l' : List AV} {vs : List Value} {gs : List Nat}, FitL l l' → RFl (RF1 P c d) l vs gs → RFl (RF1 P c d) l' vs gs
  | [], [], _, _, _, h => h
  | _ :: _, _ :: _, [], _, _, h => h.elim
  | _ :: _, _ :: _, _ :: _, _, ⟨h1, h2⟩, ⟨g1, g2, e, h3, h4⟩ => ⟨g1, g2, e, fitA_rf h1 h3, FitL.rf h2 h4⟩
  | [], _ :: _, _, _, h, _ => h.elim
  | _ :: _, [], _, _, h, _ => h.elim
theorem FitL.nt : ∀ {l l' : List AV}, FitL l l' → (∀ x ∈ l, ∀ vs, x ≠ .tup vs) → ∀ x ∈ l', ∀ vs, x ≠ .tup vs
  | [], [], _, _, x, hx, _ => by cases hx
  | _ :: _, _ :: _, ⟨h1, h2⟩, h, x, hx, vs => by
    rcases List.mem_cons.1 hx with rfl | hx
    · rcases h1 with rfl | ⟨_, e, m, rfl⟩
      · exact h _ (by simp) vs
      · intro hh; cases hh
    · exact FitL.nt h2 (fun z hz => h z (by simp [hz])) x hx vs
  | [], _ :: _, h, _, _, _, _ => h.elim
  | _ :: _, [], h, _, _, _, _ => h.elim

/-- **A function keeps its contract.** -/
theorem AC_of_awp2 {E : Env} (hE : EnvOk E) (hm : E.P.follows .mixedOrders = true) {f : FuncId} {fn : Func} {code : Code} (hen : Enters E.P f) (hf : E.P.funcs[f]? = some fn) (hb : fn.body = some code) (hN : fn.ntmps = E.N) (hdr : drawsB code = true)
    {args : List AV} (hna : args.length ≤ E.N) {r : AV} (h : lensVs args → awp E code (finK2 E.T fn.results.toList r) ⟨startF args, fun _ => none, 0⟩) : AC E.P f args r := by
  refine ⟨hen, fun w S0 d vs hS0 hargs => ?_⟩
  have hlen := All2.length _ _ hargs
  refine calls_of_wp hf hb ?_
  have hL := h (All2.lens (fun x v => RA.lens d x v) hargs)
  let A : Nat → Prop := fun b => w.heap.size ≤ b
  refine awp_ok (A := A) (S0 := S0) (w0 := w) (ρ0 := fun _ => none) hE hm (fun b hb => hb) code _ _ ⟨startF args, fun _ => none, 0⟩ _ w hdr ?_ (fun e st a w' hq hg => ?_) hL
  · refine ⟨Keeps.refl _ _, ?_, rfl, d, fun _ => False, fun _ => none, ⟨fun b hb hA => ?_, fun b hb => hb.elim, fun _ _ => ⟨rfl, rfl⟩, fun id b hb => (by cases hb), fun i j bi bj ri rj _ hi => by cases hi⟩, fun t => ?_, fun id r _ h0 => by cases h0⟩
    · simp only [Array.size_append, List.size_toArray, Array.size_replicate, hN]; omega
    · have := hS0 b hb
      have hA' : w.heap.size ≤ b := hA
      omega
    · show RA _ d (startF args t) _
      unfold startF
      rw [nth_eq]
      cases hx : args[t]? with
      | some x =>
        obtain ⟨v, hv, hr⟩ := All2.get _ _ _ _ hargs hx
        have hlt : t < vs.length := (List.getElem?_eq_some_iff.1 hv).1
        have e : (vs.toArray ++ Array.replicate (fn.ntmps - vs.toArray.size) undef).getD t undef = v := by
          simp [Array.getElem?_append_left, hlt]
          have := (List.getElem?_eq_some_iff.1 hv).2
          exact this
        show RA _ d x ((vs.toArray ++ Array.replicate (fn.ntmps - vs.toArray.size) undef).getD t undef)
        rw [e]; exact hr
      | none =>
        have hge : vs.length ≤ t := by rw [hlen]; exact List.getElem?_eq_none_iff.1 hx
        have e : (vs.toArray ++ Array.replicate (fn.ntmps - vs.toArray.size) undef).getD t undef = undef := by
          rw [Array.getD_eq_getD_getElem?, Array.getElem?_append_right (by simpa using hge)]
          simp only [Array.getElem?_replicate]
          split <;> rfl
        show RA _ d .und ((vs.toArray ++ Array.replicate (fn.ntmps - vs.toArray.size) undef).getD t undef)
        rw [e]; cases d <;> rfl
  · obtain ⟨hk, hs, hd, d', S1, ρ, hok, ht, _⟩ := hg
    have fin : resK E.T st.tmps st.heap fn.results.toList (fun rs => match fz1L E.T st.heap rs with | some l => (noDup (ids1L rs) && disjB (o1L rs) (ids1L rs)) = true ∧ ∃ l', FitL l l' ∧ pack l' = r | none => False) →
        ∃ v, (results fn a.tmps).run E.P w' = .ok v w' ∧ (∃ v', (Ending.returned v) = .returned v' ∧ Below w.heap.size w w' ∧ RES E.P w.heap.size S0 w' r v') := fun hr => by
      obtain ⟨rs, vs', hfz, hrun, hall⟩ := resK_ok hE.T hok ht hr
      split at hfz
      · rename_i l hl
        obtain ⟨hnd, l', hfit, hpack⟩ := hfz
        rw [Bool.and_eq_true] at hnd
        obtain ⟨hnd, hdj⟩ := hnd
        let G : Nat → Prop := fun g => ∃ id ∈ o1L rs, ∃ b r0, st.heap id = some b ∧ ρ id = some r0 ∧ r0.virt = false ∧ r0.g = g
        have hOG : OutIn ⟨w', S0, S1, ρ⟩ G (o1L rs) := fun id hid r0 hr0 hv => by
          have hex : ∃ b, st.heap id = some b := o1L_ok hl id hid
          obtain ⟨b, hb⟩ := hex
          exact ⟨id, hid, b, r0, hb, hr0, hv, rfl⟩
        obtain ⟨h1, h2, h3⟩ := fz1L_ok (G := G) (hok.le (Nat.le_succ d')) hall hl hOG
        have h1 := FitL.rf hfit h1
        have h3 := FitL.nt hfit h3
        clear hl hfit
        have hsz : l'.length = vs'.length := by
          have : ∀ (R : AV → Value → List Nat → Prop) (xs : List AV) (us : List Value) (gs : List Nat), RFl R xs us gs → xs.length = us.length := by
            intro R xs
            induction xs with
            | nil => intro us gs h; cases us with
              | nil => rfl
              | cons => exact h.elim
            | cons x xs ih => intro us gs h; cases us with
              | nil => exact h.elim
              | cons u us => obtain ⟨_, g2, _, _, hh⟩ := h; simp [ih us g2 hh]
          exact this _ _ _ _ h1
        have hB : Below w.heap.size w w' := ⟨hk.os, hk.tape, hk.output, hk.size, fun k hk' => hk.block k (fun hA => by have hA' : w.heap.size ≤ k := hA; omega)⟩
        refine ⟨if h : vs'.toArray.size = 1 then vs'.toArray[0] else .tuple vs'.toArray, ?_, _, rfl, hB, d' + 2, fun b => S1 b ∨ G b, gsOf ⟨w', S0, S1, ρ⟩ (ids1L rs), fun b hb => ?_, ?_, gsOf_nodup hok h2 hnd, fun g hg => ?_⟩
        · rw [results_eq]
          have e : fn.results.mapM (readRes a.tmps) = List.toArray <$> fn.results.toList.mapM (readRes a.tmps) := Array.mapM_eq_mapM_toList
          rw [e, map_eq_pure_bind]
          simp only [Sem.run_bind, hrun, Result.andThen_ok, Sem.run_pure]
        · rcases hb with hb | ⟨id, _, b0, r0, hb0, hr0, hv0, rfl⟩
          · obtain ⟨hA, hlt⟩ := hok.s1 b hb
            exact ⟨hA, hlt⟩
          · obtain ⟨r0', e, _, hg⟩ := hok.blk id b0 hb0
            have hr0' : ρ id = some r0' := e
            rw [hr0] at hr0'; cases hr0'
            exact ⟨(hg hv0).1, (hg hv0).2.1⟩
        · subst hpack
          match l', vs', hsz, h1, h3 with
          | [x], [u], _, h1, h3 =>
            obtain ⟨g1, g2, hg, hx, hg2⟩ := h1
            have hg2' : g2 = [] := hg2
            subst hg2'
            rw [List.append_nil] at hg
            have hne := h3 x (by simp)
            simp only [pack]
            rw [hg]
            have : RF E.P (Ctx.bare ⟨w', S0, S1, ρ⟩ G) (d' + 2) x u g1 := by
              cases x <;> first | exact hx | exact absurd rfl (hne _)
            exact this
          | [], [], _, h1, _ => exact ⟨[], rfl, h1⟩
          | x :: y :: l, u :: v :: us, _, h1, _ =>
            have : (⟨u :: v :: us⟩ : Array Value).size ≠ 1 := by simp
            simp only [pack]
            rw [dif_neg this]
            exact ⟨u :: v :: us, rfl, h1⟩
        · obtain ⟨id, hid, r0, hr0, hv0, hg0, hA, hlt, hns⟩ := gsOf_mem hok h2 hg
          refine ⟨hA, hlt, fun hs => ?_⟩
          rcases hs with hs | ⟨id', hid', b', r', hb', hr', hv', hg'⟩
          · exact hns hs
          · obtain ⟨b0, hb0⟩ := h2 id hid
            refine hok.inj id' id b' b0 r' r0 (fun e => ?_) hb' hb0 hr' hr0 hv' hv0 (hg'.trans hg0.symm)
            subst e
            exact disjB_spec hdj hid' hid
      · exact hfz.elim
    cases e with
    | exit i => exact hq.elim
    | normal =>
      obtain ⟨v, hv, hR⟩ := fin hq
      exact ⟨hd, v, hv, hR⟩
    | ret =>
      obtain ⟨v, hv, hR⟩ := fin hq
      exact ⟨hd, v, hv, hR⟩

end Go.Qv
