/- PROVED: for every input the law FnExactFiltrationLine returns true and each argument reads afterwards as it read before (the statement 'FnExactFiltrationLineCardSaid' of the given Rows).
Conditions: none beyond those which the given statement itself names. This text is one part of the proof. -/
import Derived.Test.YtfcgjmbkcpeafaaGreatDoorMRegion

/- The abstract machine: steps, regions and code, said of the model. -/
namespace Go.Qv
open Go Go.RowKit

/-- The state reads so. -/
structure Good (P : Program) (A S0 : Nat → Prop) (w0 : World) (N fx : Nat) (ρ0 : Nat → Option Own) (f : Nat → AV) (H : Heap) (n : Nat) (a : Act) (w : World) : Prop where
  keeps : Keeps A w0 w
  size : a.tmps.size = N
  defers : a.defers = []
  ex : ∃ d S1 ρ, HeapOk P A ⟨w, S0, S1, ρ⟩ d H n ∧ (∀ t, RA ⟨w, S0, S1, ρ⟩ d (f t) (a.tmps.getD t undef)) ∧ ∀ id r, id < fx → ρ0 id = some r → ρ id = some r

theorem anyLt_mem {k i : Nat} : ∀ {ks : List Nat}, anyLt k ks = false → i < k → memB i ks = false
  | [], _, _ => rfl
  | j :: r, h, hi => by
    simp only [anyLt] at h
    cases hb : Nat.blt j k with
    | true => rw [hb] at h; cases h
    | false =>
      rw [hb] at h
      have hij : Nat.beq i j = false := by
        cases hq : Nat.beq i j
        · rfl
        · have := Nat.eq_of_beq_eq_true hq
          subst this
          have : Nat.blt i k = true := by simpa [Nat.blt_eq] using hi
          rw [hb] at this; cases this
      simp only [memB, hij, cond_false]
      exact anyLt_mem h hi

theorem put_size (a : Act) (dst : Option Tmp) (u : Value) : (a.put dst u).tmps.size = a.tmps.size := by cases dst <;> simp [Act.put]
theorem put_defers (a : Act) (dst : Option Tmp) (u : Value) : (a.put dst u).defers = a.defers := by cases dst <;> rfl

theorem put_ra {c : Ctx} {d : Nat} {f : Nat → AV} {a : Act} (h : ∀ t, RA c d (f t) (a.tmps.getD t undef)) {dst : Option Tmp} {r : AV} {u : Value} (hr : RA c d r u) (hd : ∀ x, dst = some x → x < a.tmps.size) (t : Nat) :
    RA c d (updO f dst r t) ((a.put dst u).tmps.getD t undef) := by
  cases dst with
  | none => exact h t
  | some x =>
    have hx := hd x rfl
    by_cases ht : t = x
    · subst ht
      have e1 : updO f (some t) r t = r := by simp [updO, upd]
      have e2 : (a.put (some t) u).tmps.getD t undef = u := by simp [Act.put, hx]
      rw [e1, e2]; exact hr
    · have e1 : updO f (some x) r t = f t := upd_ne f ht r
      have e2 : (a.put (some x) u).tmps.getD t undef = a.tmps.getD t undef := by simp [Act.put, Array.getElem?_setIfInBounds_ne (Ne.symm ht)]
      rw [e1, e2]; exact h t

section
variable {E : Env} {A S0 : Nat → Prop} {w0 : World} {ρ0 : Nat → Option Own}

theorem good_after {f : Nat → AV} {H' : Heap} {n' d : Nat} {a : Act} {w w' : World} {S1 : Nat → Prop} {ρ : Nat → Option Own} {ks : List Nat} {r : AV} {u : Value} (hk : Keeps A w0 w) (hs : a.tmps.size = E.N) (hd : a.defers = [])
    (ht : ∀ t, RA ⟨w, S0, S1, ρ⟩ d (f t) (a.tmps.getD t undef)) (hfx : ∀ id r, id < E.fix → ρ0 id = some r → ρ id = some r) (ho : Out E.P A ⟨w, S0, S1, ρ⟩ d H' n' ks r u w') {dst : Option Tmp} {K : KontS} (h : afterK E f dst K r H' n' ks) :
    ∃ f2 H2 n2, K f2 H2 n2 ∧ Good E.P A S0 w0 E.N E.fix ρ0 f2 H2 n2 (a.put dst u) w' := by
  obtain ⟨hk', d', S1', ρ', hle, hdd, hok, hr⟩ := ho
  have key : ∀ t, RA ⟨w', S0, S1', ρ'⟩ d' (killV ks (f t)) (a.tmps.getD t undef) := fun t => RA.le hdd (RA.killed hle _ _ _ (ht t))
  cases ks with
  | nil =>
    obtain ⟨h1, h2⟩ := put_iff.1 (show put E f H' n' dst r K from h)
    refine ⟨_, _, _, h2, hk.trans hk', by rw [put_size, hs], by rw [put_defers, hd], d', S1', ρ', by rw [map_killB_nil] at hok; exact hok, ?_, fun id r hi h0 => hle.ρ id r (hfx id r hi h0) rfl⟩
    exact put_ra (fun t => by have := key t; rw [killV_nil] at this; exact this) hr (fun x hx => by rw [hs]; exact h1 x hx)
  | cons k ks =>
    have hal : anyLt E.fix (k :: ks) = false ∧ put E (fun t => killV (k :: ks) (f t)) (fun i => match H' i with | some b => some (killB (k :: ks) b) | none => none) n' dst r K := by
      simp only [afterK] at h
      cases hb : anyLt E.fix (k :: ks) with
      | true => rw [hb] at h; exact h.elim
      | false => rw [hb] at h; exact ⟨rfl, h⟩
    obtain ⟨h1, h2⟩ := put_iff.1 (show put E (fun t => killV (k :: ks) (f t)) (fun i => match H' i with | some b => some (killB (k :: ks) b) | none => none) n' dst r K from hal.2)
    have e : (fun i => match H' i with | some b => some (killB (k :: ks) b) | none => none) = fun i => (H' i).map (killB (k :: ks)) := by funext i; cases H' i <;> rfl
    refine ⟨_, _, _, h2, hk.trans hk', by rw [put_size, hs], by rw [put_defers, hd], d', S1', ρ', by rw [e]; exact hok, ?_, fun id r hi h0 => hle.ρ id r (hfx id r hi h0) (anyLt_mem hal.1 hi)⟩
    exact put_ra key hr (fun x hx => by rw [hs]; exact h1 x hx)

theorem gval_ok {c : Ctx} {d : Nat} {f : Nat → AV} {a : Act} (ht : ∀ t, RA c d (f t) (a.tmps.getD t undef)) {ops : Array Oper} {o : Oper} {b : Bool} (h : gval ops.toList f o.guard = some b) : Region.wanted o (yielded ops a.tmps) = b := by
  unfold Region.wanted
  cases hg : o.guard with
  | none => rw [hg] at h; simpa [gval] using h
  | some jw =>
    obtain ⟨j, want⟩ := jw
    rw [hg] at h
    simp only [gval] at h
    simp only
    unfold yielded
    rw [dstOf_eq] at h
    cases hd : (ops[j]?).bind (·.dst) with
    | none => rw [hd] at h; simp at h; subst h; simp
    | some x =>
      rw [hd] at h
      simp only at h
      have hx := ht x
      cases hf : f x with
      | bool t =>
        rw [hf] at h hx
        simp only [Option.some.injEq] at h
        have hv : a.tmps.getD x undef = .bool t := by cases d <;> exact hx
        have hv2 : a.tmps[x]? = some (.bool t) := by
          rcases Nat.lt_or_ge x a.tmps.size with h' | h'
          · simp [h'] at hv ⊢; exact hv
          · simp [Array.getElem?_eq_none h', undef] at hv
        simp [hv2, ← h]
      | und =>
        rw [hf] at h hx
        simp only [Option.some.injEq] at h
        subst h
        have hv : a.tmps.getD x undef = undef := by cases d <;> exact hx
        rcases Nat.lt_or_ge x a.tmps.size with h' | h'
        · have hv2 : a.tmps[x]? = some undef := by simp [h'] at hv ⊢; exact hv
          simp [hv2, undef]
        · simp [Array.getElem?_eq_none h']
      | _ => rw [hf] at h; cases h

theorem stepK_ok (hE : EnvOk E) (hA : ∀ b, w0.heap.size ≤ b → A b) {f : Nat → AV} {H : Heap} {n : Nat} {a : Act} {w : World} (hg : Good E.P A S0 w0 E.N E.fix ρ0 f H n a w) {ops : Array Oper} {i : Nat} {o : Oper} (hi : ops[i]? = some o) {dr : Bool}
    {K : KontS} (h : stepK E dr ops.toList o K f H n) {K' : Act → World → Prop} {Q' : Exit → Act → World → Prop} (hK : ∀ f H n a w, K f H n → Good E.P A S0 w0 E.N E.fix ρ0 f H n a w → K' a w) : wpOp E.P ops Q' i K' a w := by
  obtain ⟨hk, hs, hd, d, S1, ρ, hok, ht, hfx⟩ := hg
  have hA' : ∀ b, w.heap.size ≤ b → A b := fun b hb => hA b (Nat.le_trans hk.size hb)
  unfold wpOp
  simp only [hi]
  rcases stepK_iff.1 h with ⟨hgv, ha⟩ | ⟨hgv, ha⟩
  · rw [if_pos (gval_ok ht hgv)]
    refine .inl ?_
    obtain ⟨r, H', n', ks, h1, h2, _⟩ := aopK_ok hE hok hA' ht ha
    unfold Oper.wp
    generalize (execOp a.eval o).run E.P w = R at h2 ⊢
    have fin : ∀ u w', Out E.P A ⟨w, S0, S1, ρ⟩ d H' n' ks r u w' → K' (a.put o.dst u) w' := fun u w' ho => by
      obtain ⟨f2, H2, n2, h3, h4⟩ := good_after hk hs hd ht hfx ho h1
      exact hK _ _ _ _ _ h3 h4
    cases R with
    | ok x w' =>
      cases x <;> simp only [Runs] at h2 <;> simp only [Oper.upon]
      case value u => exact fin u w' h2
      case skip => exact fin undef w' h2
      case enter g args =>
        obtain ⟨rfl, hc⟩ := h2
        exact hc.mono fun e w'' ⟨u, he, ho⟩ => by subst he; exact fin u w'' ho
    | halt x w' => simp only [Runs] at h2
  · rw [if_neg (by rw [gval_ok ht hgv]; simp)]
    obtain ⟨h1, h2⟩ := put_iff.1 ha
    refine hK _ _ _ _ _ h2 ⟨hk, by rw [put_size, hs], by rw [put_defers, hd], d, S1, ρ, hok, ?_, hfx⟩
    exact put_ra ht (by cases d <;> rfl) (fun x hx => by rw [hs]; exact h1 x hx)

theorem opsK_ok (hE : EnvOk E) (hA : ∀ b, w0.heap.size ≤ b → A b) {ops : Array Oper} {dr : Bool} {Q : KontS} {Q' : Exit → Act → World → Prop} (hQ : ∀ f H n a w, Q f H n → Good E.P A S0 w0 E.N E.fix ρ0 f H n a w → Q' .normal a w) :
    ∀ (l : List Oper) (k : Nat) (f : Nat → AV) (H : Heap) (n : Nat) (a : Act) (w : World), (∀ j, l[j]? = ops[k + j]?) → Good E.P A S0 w0 E.N E.fix ρ0 f H n a w → opsK E dr ops.toList l Q f H n → wpOps E.P ops Q' (List.range' k l.length) a w
  | [], _, f, H, n, a, w, _, hg, h => hQ f H n a w h hg
  | o :: l, k, f, H, n, a, w, hl, hg, h => by
    have h0 : ops[k]? = some o := by simpa using (hl 0).symm
    rw [List.length_cons, List.range'_succ, wpOps_cons]
    refine stepK_ok hE hA hg h0 (h : stepK E dr ops.toList o (opsK E dr ops.toList l Q) f H n) fun f H n a w hh hg' => ?_
    exact opsK_ok hE hA hQ l (k + 1) f H n a w (fun j => by have := hl (j + 1); simpa [Nat.add_assoc, Nat.add_comm 1 j] using this) hg' hh

theorem wpAnyA_ok (hE : EnvOk E) (hA : ∀ b, w0.heap.size ≤ b → A b) {ops : Array Oper} {md : Region.Mode} {Q : KontS} {Q' : Exit → Act → World → Prop} (hQ : ∀ f H n a w, Q f H n → Good E.P A S0 w0 E.N E.fix ρ0 f H n a w → Q' .normal a w) :
    ∀ (fuel : Nat) (listed : Array Bool) (f : Nat → AV) (H : Heap) (n : Nat) (a : Act) (w : World), Good E.P A S0 w0 E.N E.fix ρ0 f H n a w → wpAnyA E md ops Q fuel listed f H n → wpAny E.P md ops Q' fuel listed a w
  | 0, _, f, H, n, a, w, hg, h => ⟨h.1, hQ f H n a w h.2 hg⟩
  | fuel + 1, listed, f, H, n, a, w, hg, h => ⟨fun h0 => hQ f H n a w (h.1 h0) hg, fun i hi => by
      have h1 := h.2 i hi
      unfold stA at h1
      cases ho : ops[i]? with
      | none => rw [ho] at h1; simp only [wpOp, ho]; exact wpAnyA_ok hE hA hQ fuel _ f H n a w hg h1
      | some o => rw [ho] at h1; exact stepK_ok hE hA hg ho h1 fun f H n a w hh hg' => wpAnyA_ok hE hA hQ fuel _ f H n a w hg' hh⟩

theorem Good.drew {f : Nat → AV} {H : Heap} {n N fx : Nat} {a : Act} {w : World} {P : Program} (hg : Good P A S0 w0 N fx ρ0 f H n a w) : Good P A S0 w0 N fx ρ0 f H n a { w with drawn := w.drawn + 1 } := by
  obtain ⟨hk, hs, hd, d, S1, ρ, hok, ht, hfx⟩ := hg
  exact ⟨hk.drew, hs, hd, d, S1, ρ, hok.drew, fun t => RA.ctx (Ctx.Le.drew _) _ _ _ (ht t), hfx⟩

/-- A region. -/
theorem region_ok (hE : EnvOk E) (hm : E.P.follows .mixedOrders = true) (hA : ∀ b, w0.heap.size ≤ b → A b) {ops : Array Oper} {id : Nat} {dr : Bool} (hdr : dr = true → textB ops = true) {Q : KontS} {Q' : Exit → Act → World → Prop}
    (hQ : ∀ f H n a w, Q f H n → Good E.P A S0 w0 E.N E.fix ρ0 f H n a w → Q' .normal a w) {f : Nat → AV} {H : Heap} {n : Nat} {a : Act} {w : World} (hg : Good E.P A S0 w0 E.N E.fix ρ0 f H n a w) (h : opsK E dr ops.toList ops.toList Q f H n) :
    (Code.region id ops dr).wp E.P Q' a w := by
  cases dr with
  | false =>
    refine wp_region ?_
    have := opsK_ok hE hA (Q' := Q') hQ ops.toList 0 f H n a w (fun j => by simp) hg h
    rw [List.range_eq_range']
    simpa using this
  | true =>
    have hdr := hdr rfl
    simp only [textB, Bool.and_eq_true] at hdr
    obtain ⟨hB, hF⟩ := hdr
    simp only [fenced, Bool.and_eq_true, List.all_eq_true, List.mem_range] at hF
    refine wp_region_any hm (wpAnyA_ok hE hA hQ _ _ f H n a _ hg.drew ?_)
    have hf : ∀ k o, ops[k]? = some o → behind ops k o = true := fun k o ho => by
      have := hF.2 k (Array.getElem?_eq_some_iff.1 ho).1
      rw [ho] at this
      exact this
    have := wpAnyA_lex (E := E) (ops := ops) (Q := Q) hf hF.1 hB ops.toList 0 (Array.replicate ops.size false) f H n (by simp) (fun k o _ hk => by
      have hlt : k < ops.size := by
        rcases Nat.lt_or_ge k ops.size with h' | h'
        · exact h'
        · simp_all
      simp [hlt] at hk) (fun m hm => by omega) (by simp) (fun m _ hm => by simp [hm]) h
    simpa using this
end
end Go.Qv
