/- PROVED: for every input the law FnExactFiltrationLine returns true and each argument reads afterwards as it read before (the statement 'FnExactFiltrationLineCardSaid' of the given Rows).
Conditions: none beyond those which the given statement itself names. This text is one part of the proof. -/
import Derived.Test.YtfcgjmbkcpeafaaGreatDoorMImp

/- The abstract machine: the call. -/
namespace Go.Qv
open Go Go.RowKit

section
variable {A : Nat → Prop} {c : Ctx} {d : Nat} {H : Nat → Option Blk} {n : Nat}

/-- Memory has grown; new blocks T are only read. -/
theorem HeapOk.grow {P : Program} (h : HeapOk P A c d H n) (hA : ∀ b, c.w.heap.size ≤ b → A b) (w' : World) (hk : Keeps A c.w w') (hold : ∀ k, k < c.w.heap.size → w'.heap[k]? = c.w.heap[k]?) (T : Nat → Prop) (hT : ∀ b, T b → c.w.heap.size ≤ b ∧ b < w'.heap.size) {d' : Nat} (hd : d ≤ d') :
    HeapOk P A ⟨w', c.S0, fun b => c.S1 b ∨ T b, c.ρ⟩ d' H n ∧ c.Le ⟨w', c.S0, fun b => c.S1 b ∨ T b, c.ρ⟩ [] := by
  have hle : c.Le ⟨w', c.S0, fun b => c.S1 b ∨ T b, c.ρ⟩ [] := ⟨fun _ h => h, fun _ h => .inl h, fun b hb => hold b (h.S_lt hA hb), fun _ _ h _ => h⟩
  refine ⟨h.step hle rfl hd hk.size (fun b hb => ?_) h.top fun id b hb => ?_, hle⟩
  · rcases hb with hb | hb
    · exact ⟨(h.s1 b hb).1, Nat.lt_of_lt_of_le (h.s1 b hb).2 hk.size⟩
    · exact ⟨hA b (hT b hb).1, (hT b hb).2⟩
  · obtain ⟨r, h1, _, h3⟩ := h.blk id b hb
    refine .inl ⟨b, r, hb, (killB_nil b).symm, h1, h1, fun hv => ⟨hold _ (h3 hv).2.1, fun hs => ?_⟩⟩
    rcases hs with hs | hs
    · exact (h3 hv).2.2 hs
    · have := (hT _ hs).1; have := (h3 hv).2.1; omega

theorem RA.fn {g : FuncId} {caps : List AV} {u : Value} (h : RA c d (.fn g caps) u) : ∃ d' vs, d' ≤ d ∧ u = .func (.func g) #[] vs.toArray ∧ All2 (RA c d') caps vs := by
  cases d with
  | zero => exact h.elim
  | succ d => obtain ⟨vs, h1, h2⟩ := h; exact ⟨d, vs, Nat.le_succ d, h1, h2⟩

theorem exL_ok {P : Program} {T : TT} {S : Nat → Prop} (hS : ∀ b, c.S0 b ∨ c.S1 b → S b) (hH : HeapOk P A c d H n) {xs : List AV} {us : List Value} {ys : List AV} (hx : All2 (RA c d) xs us) (h : exL H T xs = some ys) (hO : ownFreeL xs = false → OwnIn c H S) : All2 (RA (c.ro S) (d + d + 1)) ys us :=
  exL_of (c' := c.ro S) (exV_ok hS hH d) hx h hO

theorem appL_eq {α : Type} (a b : List α) : appL a b = a ++ b := by cases b <;> simp [appL]

theorem RFl.imp {R R' : AV → Value → List Nat → Prop} (h : ∀ x v g, R x v g → R' x v g) : ∀ (xs : List AV) (vs : List Value) (gs : List Nat), RFl R xs vs gs → RFl R' xs vs gs
  | [], [], _, hh => hh
  | _ :: xs, _ :: vs, _, ⟨g1, g2, e, h1, h2⟩ => ⟨g1, g2, e, h _ _ _ h1, RFl.imp h xs vs g2 h2⟩
theorem RFs.le {P : Program} {d' : Nat} (hd : d ≤ d') (v : AV) (u : Value) (gs : List Nat) (h : RFs P c d v u gs) : RFs P c d' v u gs := by
  cases v
  case fs e m cs k =>
    obtain ⟨h1, h2⟩ := h
    refine ⟨h1, h2.imp (fun h => h) ?_⟩
    rintro ⟨g, cap, arr, a1, a2, a3, a4, a5, a6, a7⟩
    exact ⟨g, cap, arr, a1, a2, a3, a4, a5, a6, fun i x hx => let ⟨u, hu, hr⟩ := a7 i x hx; ⟨u, hu, RD.le hd hr⟩⟩
  all_goals exact ⟨RA.le hd h.1, h.2⟩
theorem RF1.le {P : Program} {d' : Nat} (hd : d ≤ d') (v : AV) (u : Value) (gs : List Nat) (h : RF1 P c d v u gs) : RF1 P c d' v u gs := by
  cases v
  case agg cs => obtain ⟨vs, h1, h2⟩ := h; exact ⟨vs, h1, RFl.imp (RFs.le hd) _ _ _ h2⟩
  all_goals (simp only [RF1] at h ⊢; exact RFs.le hd _ _ _ h)
theorem RF.le {P : Program} {d' : Nat} (hd : d ≤ d') {v : AV} {u : Value} {gs : List Nat} (h : RF P c d v u gs) : RF P c d' v u gs := by
  cases v
  case tup cs => obtain ⟨vs, h1, h2⟩ := h; exact ⟨vs, h1, RFl.imp (RF1.le hd) _ _ _ h2⟩
  all_goals (simp only [RF] at h ⊢; exact RF1.le hd _ _ _ h)

theorem callK_ok {E : Env} (hH : HeapOk E.P A c d H n) (hA : ∀ b, c.w.heap.size ≤ b → A b) {own : Bool} {f : AV} {uf : Value} {args : List AV} {us : List Value} (hf : RA c d f uf) (hargs : All2 (RA c d) args us) {K : Kont} (h : callK E H n own f args K) :
    ∃ r H' n' g capsV, K r H' n' [] ∧ uf = .func (.func g) #[] capsV ∧ Enters E.P g ∧ Calls E.P g (us.toArray ++ capsV) c.w (fun e w' => ∃ u, e = .returned u ∧ Out E.P A c d H' n' [] r u w') ∧ (own = false → H' = H ∧ n' = n) := by
  unfold callK at h
  split at h
  · rename_i g caps
    split at h
    · rename_i as cs has hcs
      obtain ⟨r, hAC, hcond, hK⟩ := h
      obtain ⟨d', vs, hd', rfl, hcaps⟩ := hf.fn
      have hcaps' : All2 (RA c d) caps vs := All2.imp (fun x v hx => RA.le hd' hx) _ _ hcaps
      obtain ⟨hEnt, hcall⟩ := hAC
      -- what the callee may read
      let F : Bool := !(ownFreeL args && ownFreeL caps)
      let S : Nat → Prop := fun b => b < c.w.heap.size ∧ (F = false → c.S0 b ∨ c.S1 b)
      have hS : ∀ b, c.S0 b ∨ c.S1 b → S b := fun b hb => ⟨hH.S_lt hA hb, fun _ => hb⟩
      have hO : F = true → OwnIn c H S := fun hF id b r' hb hr hv => by
        obtain ⟨r'', e, _, hg⟩ := hH.blk id b hb
        rw [hr] at e; cases e
        exact ⟨(hg hv).2.1, fun hF' => by rw [hF] at hF'; cases hF'⟩
      have h1 := exL_ok hS hH hargs has fun hf => hO (by simp [F, hf])
      have h2 := exL_ok hS hH hcaps' hcs fun hf => hO (by simp [F, hf])
      have h3 : All2 (RA (c.ro S) (d + d + 1)) (appL as cs) (us ++ vs) := by rw [appL_eq]; exact All2.append h1 h2
      have hC := hcall c.w S (d + d + 1) (us ++ vs) (fun b hb => hb.1) h3
      have harr : (us ++ vs).toArray = us.toArray ++ vs.toArray := by simp
      rw [harr] at hC
      have hforF : F = true → forFree r = true := fun hF => by
        simp only [F, Bool.not_eq_true'] at hF
        rw [hF] at hcond
        simpa using hcond
      -- behind the call
      have after : ∀ (w' : World) (u : Value), Below c.w.heap.size c.w w' → RES E.P c.w.heap.size S w' r u →
          Out E.P A c d (impOwn H n r).2.1 (impOwn H n r).2.2 [] (impOwn H n r).1 u w' ∧ Out E.P A c d H n [] (impRoT r) u w' := fun w' u hb hres => by
        obtain ⟨dR, S1R, gs, hs1, hrf, hnd, hgs⟩ := hres
        have hk : Keeps A c.w w' := ⟨hb.os, hb.tape, hb.output, hb.size, fun k hk => by
          rcases Nat.lt_or_ge k c.w.heap.size with h' | h'
          · exact hb.block k h'
          · exact absurd (hA k h') hk⟩
        have hRA : RF E.P ⟨w', S, S1R, fun _ => none⟩ dR r u gs := hrf
        constructor
        · obtain ⟨hg1, hle⟩ := hH.grow hA w' hk hb.block (fun b => (c.w.heap.size ≤ b ∧ b < w'.heap.size) ∧ b ∉ gs) (fun b h => h.1) (d' := d + dR) (Nat.le_add_right _ _)
          have hst : St E.P A ⟨w', c.S0, fun b => c.S1 b ∨ ((c.w.heap.size ≤ b ∧ b < w'.heap.size) ∧ b ∉ gs), c.ρ⟩ (d + dR) H n gs := by
            refine ⟨hg1, fun g hg => ⟨hA g (hgs g hg).1, (hgs g hg).2.1, fun hs => ?_, fun id b r' hb' hr hv => ?_⟩, hnd⟩
            · rcases hs with hs | hs
              · have := (hH.s1 g hs).2; have := (hgs g hg).1; omega
              · exact hs.2 hg
            · obtain ⟨r'', e, _, hg'⟩ := hH.blk id b hb'
              simp only at hr
              rw [hr] at e; cases e
              have := (hg' hv).2.1; have := (hgs g hg).1; omega
          have hview : View ⟨w', S, S1R, fun _ => none⟩ ⟨w', c.S0, fun b => c.S1 b ∨ ((c.w.heap.size ≤ b ∧ b < w'.heap.size) ∧ b ∉ gs), c.ρ⟩ F := by
            refine ⟨fun _ => rfl, rfl, fun m b hm hb' => ?_⟩
            rcases hb' with ⟨hm', hb'⟩ | hb'
            · rcases hb'.2 (hm hm') with hb' | hb'
              · exact .inl ⟨hm', hb'⟩
              · exact .inr (.inl hb')
            · exact .inr (.inr ⟨hs1 b hb', fun hg => (hgs b hg).2.2 hb'⟩)
          have hrf' : RF E.P ⟨w', S, S1R, fun _ => none⟩ (d + dR) r u gs := RF.le (Nat.le_add_left _ _) hRA
          obtain ⟨c', h1, h2, h3, h4, h5, h6⟩ := res_own hview hst hrf' hforF
          have hc' : c' = ⟨w', c.S0, c'.S1, c'.ρ⟩ := by
            cases c'; simp only at h3 h4; rw [h3, h4]
          refine ⟨hk, d + dR + 2, c'.S1, c'.ρ, ?_, by omega, ?_, ?_⟩
          · rw [← hc']; exact hle.trans h2
          · rw [map_killB_nil, ← hc']; exact h1.le (by omega)
          · rw [← hc']; exact h6
        · obtain ⟨hg1, hle⟩ := hH.grow hA w' hk hb.block (fun b => c.w.heap.size ≤ b ∧ b < w'.heap.size) (fun b h => h) (d' := d + dR + 3) (by omega)
          have hview : View ⟨w', S, S1R, fun _ => none⟩ ⟨w', c.S0, fun b => c.S1 b ∨ (c.w.heap.size ≤ b ∧ b < w'.heap.size), c.ρ⟩ F := by
            refine ⟨fun _ => rfl, rfl, fun m b hm hb' => ?_⟩
            rcases hb' with ⟨hm', hb'⟩ | hb'
            · rcases hb'.2 (hm hm') with hb' | hb'
              · exact .inl ⟨hm', hb'⟩
              · exact .inr (.inl hb')
            · exact .inr (.inr (hs1 b hb'))
          have h6 := res_ro hview (fun g hg => .inr ⟨(hgs g hg).1, (hgs g hg).2.1⟩) hRA hforF
          exact ⟨hk, d + dR + 3, _, c.ρ, hle, by omega, by rw [map_killB_nil]; exact hg1, RA.le (by omega) h6⟩
      cases own with
      | true =>
        simp only [cond_true] at hK
        exact ⟨(impOwn H n r).1, (impOwn H n r).2.1, (impOwn H n r).2.2, g, vs.toArray, hK, rfl, hEnt, hC.mono fun e w' ⟨u, he, hb, hres⟩ => ⟨u, he, (after w' u hb hres).1⟩, fun h => by cases h⟩
      | false =>
        simp only [cond_false] at hK
        exact ⟨impRoT r, H, n, g, vs.toArray, hK, rfl, hEnt, hC.mono fun e w' ⟨u, he, hb, hres⟩ => ⟨u, he, (after w' u hb hres).2⟩, fun _ => ⟨rfl, rfl⟩⟩
    · exact h.elim
  · exact h.elim
end

end Go.Qv
