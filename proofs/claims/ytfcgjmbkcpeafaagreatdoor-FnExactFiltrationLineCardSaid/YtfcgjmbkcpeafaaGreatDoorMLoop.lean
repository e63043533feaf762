/- PROVED: for every input the law FnExactFiltrationLine returns true and each argument reads afterwards as it read before (the statement 'FnExactFiltrationLineCardSaid' of the given Rows).
Conditions: none beyond those which the given statement itself names. This text is one part of the proof. -/
import Derived.Test.YtfcgjmbkcpeafaaGreatDoorMCode
import Derived.Scope

/- The abstract machine: loops and code. -/
namespace Go.Qv
open Go Go.RowKit

/-! ### Loops -/

theorem least_nat (p : Nat → Prop) : ∀ n, p n → ∃ m, p m ∧ ∀ k, p k → m ≤ k := by
  intro n
  induction n using Nat.strongRecOn with
  | _ n ih =>
    intro hn
    by_cases h : ∃ k, k < n ∧ p k
    · obtain ⟨k, hk, hp⟩ := h
      exact ih k hk hp
    · exact ⟨n, hn, fun k hp => Nat.le_of_not_lt fun hk => h ⟨k, hk, hp⟩⟩

/-- The loop, with a state of one's own to count down. -/
theorem wp_loop_by {P : Program} {Q : Exit → Act → World → Prop} {a : Act} {w : World} {c : Code} {α : Type} (I : α → Act → World → Prop) (μ : α → Nat) (x0 : α) (h₀ : I x0 a w)
    (round : ∀ x a w, I x a w → c.wp P (Exit.then (fun a' w' => ∃ y, I y a' w' ∧ μ y < μ x) Q) a w) : (Code.loop c).wp P Q a w := by
  let p : Act → World → Nat → Prop := fun a w n => ∃ x, I x a w ∧ μ x = n
  let m : Act → World → Nat := fun a w => Classical.epsilon fun n => p a w n ∧ ∀ k, p a w k → n ≤ k
  have hm : ∀ a w x, I x a w → p a w (m a w) ∧ ∀ k, p a w k → m a w ≤ k := fun a w x hx => by
    obtain ⟨n, hn⟩ := least_nat (p a w) (μ x) ⟨x, hx, rfl⟩
    exact Classical.epsilon_spec (p := fun n => p a w n ∧ ∀ k, p a w k → n ≤ k) ⟨n, hn⟩
  refine wp_loop (fun a w => ∃ x, I x a w) m ⟨x0, h₀⟩ fun a w ⟨x, hx⟩ => ?_
  obtain ⟨⟨x1, hx1, e1⟩, _⟩ := hm a w x hx
  refine wp_mono (round x1 a w hx1) fun e a' w' hq => ?_
  cases e <;> simp only [Exit.then] at hq ⊢
  case normal =>
    obtain ⟨y, hy, hlt⟩ := hq
    exact ⟨⟨y, hy⟩, by rw [← e1]; exact Nat.lt_of_le_of_lt ((hm a' w' y hy).2 _ ⟨y, hy, rfl⟩) hlt⟩
  all_goals exact hq

/-! ### Leaving blocks behind -/

theorem idsLtL_all {k : Nat} : ∀ {l : List AV}, idsLtL k l = true → ∀ x ∈ l, idsLt k x = true
  | [], _, x, hx => by cases hx
  | v :: r, h, x, hx => by
    simp only [idsLtL] at h
    cases hv : idsLt k v with
    | false => rw [hv] at h; cases h
    | true =>
      rw [hv] at h
      rcases List.mem_cons.1 hx with rfl | hx
      · exact hv
      · exact idsLtL_all h x hx

theorem RA.trim {c c' : Ctx} {k : Nat} (hw : c'.w = c.w) (h0 : c'.S0 = c.S0) (h1 : c'.S1 = c.S1) (hρ : ∀ id r, id < k → c.ρ id = some r → c'.ρ id = some r) : ∀ (d : Nat) (x : AV) (v : Value), idsLt k x = true → RA c d x v → RA c' d x v := by
  have hle : ∀ b, Sm c.S0 c.S1 b = Sm c'.S0 c'.S1 b := fun b => by rw [h0, h1]
  intro d
  induction d with
  | zero =>
    intro x v hk hx
    cases x <;> simp only [RA] at hx ⊢
    all_goals first
      | exact hx
      | exact hx.elim
      | (rw [hw, ← hle]; exact hx)
      | (obtain ⟨r, h1, h2⟩ := hx; exact ⟨r, hρ _ _ (by simpa [idsLt, Nat.blt_eq] using hk) h1, h2⟩)
  | succ d ih =>
    intro x v hk hx
    cases x <;> simp only [RA] at hx ⊢
    all_goals first
      | exact hx
      | exact hx.elim
      | (rw [hw, ← hle]; exact hx)
      | (obtain ⟨r, h1, h2⟩ := hx; exact ⟨r, hρ _ _ (by simpa [idsLt, Nat.blt_eq] using hk) h1, h2⟩)
      | (obtain ⟨vs, h1, h2⟩ := hx; exact ⟨vs, h1, h2.mono fun y hy v hr => ih y v (idsLtL_all (by simpa [idsLt] using hk) y hy) hr⟩)

theorem BR.trim {P : Program} {c c' : Ctx} {k d : Nat} (hw : c'.w = c.w) (h0 : c'.S0 = c.S0) (h1 : c'.S1 = c.S1) (hρ : ∀ id r, id < k → c.ρ id = some r → c'.ρ id = some r) {r : Own} {b : Blk} (hb : idsLtB k (some b) = true) (h : BR P c d r b) : BR P c' d r b := by
  cases b with
  | var t cs =>
    obtain ⟨hv, vs, h2, h3⟩ := h
    exact ⟨hv, vs, by rw [hw]; exact h2, h3.mono fun y hy v hr => RA.trim hw h0 h1 hρ d y v (idsLtL_all hb y hy) hr⟩
  | row e m cs =>
    simp only [BR] at h ⊢
    rw [hw, h0, h1]
    exact h

theorem ofH_spec : ∀ (l : List (Option Blk)) (i j : Nat), ofH l i j = (if i ≤ j then l[j - i]?.join else none)
  | [], i, j => by simp [ofH]
  | b :: r, i, j => by
    unfold ofH
    cases h : Nat.beq j i with
    | true =>
      obtain rfl := Nat.eq_of_beq_eq_true h
      simp
    | false =>
      have hne : j ≠ i := fun e => by subst e; simp at h
      simp only [cond_false]
      rw [ofH_spec r (i + 1) j]
      by_cases hij : i ≤ j
      · have h1 : i + 1 ≤ j := by omega
        have h2 : j - i = (j - (i + 1)) + 1 := by omega
        simp [hij, h1, h2]
      · have h1 : ¬ (i + 1 ≤ j) := by omega
        simp [hij, h1]

theorem getsH_get (h : Heap) : ∀ (n i j : Nat), (getsH h i n)[j]? = if j < n then some (h (i + j)) else none
  | 0, i, j => by simp [getsH]
  | n + 1, i, j => by
    cases j with
    | zero => simp [getsH]
    | succ j =>
      simp only [getsH, List.getElem?_cons_succ]
      rw [getsH_get h n (i + 1) j]
      simp [Nat.add_assoc, Nat.add_comm 1 j]

theorem okH_all {k : Nat} : ∀ {l : List (Option Blk)} {i : Nat} {b : Option Blk}, okH k l = true → l[i]? = some b → idsLtB k b = true
  | [], _, _, _, h => by simp at h
  | x :: r, 0, b, h, hi => by
    simp only [List.getElem?_cons_zero, Option.some.injEq] at hi
    subst hi
    simp only [okH] at h
    cases hx : idsLtB k x with
    | true => rfl
    | false => rw [hx] at h; cases h
  | x :: r, i + 1, b, h, hi => by
    simp only [List.getElem?_cons_succ] at hi
    simp only [okH] at h
    cases hx : idsLtB k x with
    | true => rw [hx] at h; exact okH_all h hi
    | false => rw [hx] at h; cases h

theorem ofL_spec (f : Nat → AV) : ∀ (live : List Nat) (t : Nat), ofL live (getsV f live) t = f t ∨ ofL live (getsV f live) t = .any
  | [], t => .inr rfl
  | x :: r, t => by
    simp only [getsV, ofL]
    cases h : Nat.beq t x with
    | true => left; rw [Nat.eq_of_beq_eq_true h]; rfl
    | false => exact ofL_spec f r t

theorem ofL_ids {k : Nat} : ∀ (live : List Nat) (V : List AV) (t : Nat), idsLtL k V = true → idsLt k (ofL live V t) = true
  | [], V, t, _ => rfl
  | _ :: _, [], t, _ => rfl
  | x :: r, v :: vs, t, h => by
    have h1 := idsLtL_all h
    simp only [ofL]
    cases hb : Nat.beq t x with
    | true => exact h1 v (by simp)
    | false =>
      refine ofL_ids r vs t ?_
      simp only [idsLtL, h1 v (by simp), cond_true] at h
      exact h

section
variable {A S0 : Nat → Prop} {w0 : World} {P : Program} {N fx : Nat} {ρ0 : Nat → Option Own}

theorem good_trim {f : Nat → AV} {H : Heap} {n : Nat} {a : Act} {w : World} (hg : Good P A S0 w0 N fx ρ0 f H n a w) {live : List Nat} {V : List AV} {Hs : List (Option Blk)} {k : Nat} (hV : getsV f live = V) (hH : getsH H 0 k = Hs) (hl : Hs.length = k)
    (hi : idsLtL k V = true) (ho : okH k Hs = true) (hfk : fx ≤ k) : Good P A S0 w0 N fx ρ0 (mkSt live V Hs).tmps (mkSt live V Hs).heap (mkSt live V Hs).nid a w := by
  obtain ⟨hk, hs, hd, d, S1, ρ, hok, ht, hfx⟩ := hg
  have hρ : ∀ id r, id < k → ρ id = some r → (fun i => if i < k then ρ i else none) id = some r := fun id r h1 h2 => by simp [h1, h2]
  have hheap : ∀ i, (mkSt live V Hs).heap i = if i < k then H i else none := fun i => by
    show ofH Hs 0 i = _
    rw [ofH_spec]
    simp only [Nat.zero_le, if_true, Nat.sub_zero]
    rw [← hH, getsH_get]
    by_cases hik : i < k <;> simp [hik]
  refine ⟨hk, hs, hd, d, S1, fun i => if i < k then ρ i else none, ⟨hok.s0, hok.s1, fun id hid => ?_, fun id b hb => ?_, fun i j bi bj ri rj hij hi' hj' hri hrj hvi hvj => ?_⟩, fun t => ?_, fun id r h1 h2 => hρ id r (by omega) (hfx id r h1 h2)⟩
  · have : ¬ id < k := by rw [← hl]; exact Nat.not_lt.2 hid
    exact ⟨by simp [this], by rw [hheap]; simp [this]⟩
  · rw [hheap] at hb
    by_cases hik : id < k
    · simp only [hik, if_true] at hb
      obtain ⟨r, h1, h2, h3⟩ := hok.blk id b hb
      refine ⟨r, by simp [hik]; exact h1, ?_, h3⟩
      refine BR.trim (c := ⟨w, S0, S1, ρ⟩) (c' := ⟨w, S0, S1, fun i => if i < k then ρ i else none⟩) (k := k) rfl rfl rfl hρ ?_ h2
      refine okH_all (i := id) ho ?_
      rw [← hH, getsH_get]
      simp [hik, hb]
    · simp [hik] at hb
  · rw [hheap] at hi' hj'
    simp only at hri hrj
    by_cases h1 : i < k <;> by_cases h2 : j < k <;> simp [h1, h2] at hi' hj' hri hrj
    exact hok.inj i j bi bj ri rj hij hi' hj' hri hrj hvi hvj
  · show RA _ d (ofL live V t) _
    have h1 := ofL_spec f live t
    rw [hV] at h1
    rcases h1 with h1 | h1
    · rw [h1]
      refine RA.trim (c := ⟨w, S0, S1, ρ⟩) (c' := ⟨w, S0, S1, fun i => if i < k then ρ i else none⟩) (k := k) rfl rfl rfl hρ d _ _ ?_ (ht t)
      rw [← h1]; exact ofL_ids live V t hi
    · rw [h1]; cases d <;> trivial

/-! ### nil becomes a row of one's own -/

theorem HeapOk.reread {c : Ctx} {d : Nat} {H : Heap} {n id : Nat} {b b' : Blk} (h : HeapOk P A c d H n) (hb : H id = some b) (hr : ∀ r, c.ρ id = some r → BR P c d r b → BR P c d r b') : HeapOk P A c d (hup H id (some b')) n := by
  refine ⟨h.s0, h.s1, fun j hj => ?_, fun j bj hj => ?_, fun i j bi bj ri rj hij hi hj hri hrj hvi hvj => ?_⟩
  · have hne : j ≠ id := fun e => by have := (h.top j hj).2; rw [e, hb] at this; cases this
    exact ⟨(h.top j hj).1, by rw [hup_ne hne]; exact (h.top j hj).2⟩
  · by_cases hji : j = id
    · subst hji
      rw [hup_same] at hj; cases hj
      obtain ⟨r, h1, h2, h3⟩ := h.blk j b hb
      exact ⟨r, h1, hr r h1 h2, h3⟩
    · rw [hup_ne hji] at hj
      exact h.blk j bj hj
  · have : ∀ x bx, hup H id (some b') x = some bx → ∃ b0, H x = some b0 := fun x bx hx => by
      by_cases e : x = id
      · subst e; exact ⟨b, hb⟩
      · rw [hup_ne e] at hx; exact ⟨bx, hx⟩
    obtain ⟨b1, h1⟩ := this i bi hi
    obtain ⟨b2, h2⟩ := this j bj hj
    exact h.inj i j b1 b2 ri rj hij h1 h2 hri hrj hvi hvj

theorem isNils_val {c : Ctx} {d : Nat} {v : AV} {u : Value} (h : RA c d v u) (hn : isNils v = true) : ∃ a, u = .slice a 0 0 := by
  unfold isNils at hn
  split at hn
  · exact ⟨none, by cases d <;> exact h⟩
  · have h2 : ∃ a, u = .slice a 0 0 := by cases d <;> exact h.2 rfl
    exact h2
  · cases hn

theorem fitsB_one : ∀ (off : Nat) (cs : List AV) (v : AV), cs[off]? = some v → fitsB cs off 1 = true
  | 0, [], _, h => by simp at h
  | 0, x :: r, v, _ => by simp [fitsB, getNA, getNA.takeA]
  | o + 1, [], _, h => by simp at h
  | o + 1, x :: r, v, h => by
    have := fitsB_one o r v (by simpa using h)
    simpa [fitsB, getNA] using this

theorem convS_ok : ∀ {cv : List Cv} {st st1 : ASt} {a : Act} {w : World}, convS cv st = some st1 → Good P A S0 w0 N fx ρ0 st.tmps st.heap st.nid a w → Good P A S0 w0 N fx ρ0 st1.tmps st1.heap st1.nid a w
  | [], st, st1, a, w, h, hg => by simp only [convS, Option.some.injEq] at h; subst h; exact hg
  | .slot t e m :: r, st, st1, a, w, h, hg => by
    simp only [convS] at h
    cases hn : isNils (st.tmps t) with
    | false => rw [hn] at h; cases h
    | true =>
      rw [hn] at h
      simp only [cond_true] at h
      refine convS_ok h ?_
      obtain ⟨hk, hs, hd, d, S1, ρ, hok, ht, hfx⟩ := hg
      obtain ⟨p, hp⟩ := isNils_val (ht t) hn
      obtain ⟨_, d', S1', ρ', hle, hdd, hok', hr⟩ := Out.virtRow (P := P) (A := A) hok (e := e) (m := m) (a := p)
      rw [map_killB_nil] at hok'
      refine ⟨hk, hs, hd, d', S1', ρ', hok', fun x => ?_, fun id r h1 h2 => hle.ρ id r (hfx id r h1 h2) rfl⟩
      by_cases hx : x = t
      · subst hx
        rw [hp]
        have : upd st.tmps x (AV.ow st.nid 0) x = AV.ow st.nid 0 := by simp [upd]
        show RA _ _ (upd st.tmps x (AV.ow st.nid 0) x) _
        rw [this]; exact hr
      · show RA _ _ (upd st.tmps t (AV.ow st.nid 0) x) _
        rw [upd_ne _ hx]
        exact RA.le hdd (RA.ctx hle _ _ _ (ht x))
  | .cell id off e m :: r, st, st1, a, w, h, hg => by
    simp only [convS] at h
    split at h
    · rename_i ty cs hb
      split at h
      · rename_i v hv
        cases hn : isNils v with
        | false => rw [hn] at h; cases h
        | true =>
          rw [hn] at h
          simp only [cond_true] at h
          refine convS_ok h ?_
          obtain ⟨hk, hs, hd, d, S1, ρ, hok, ht, hfx⟩ := hg
          obtain ⟨r0, hr0, ⟨_, vs0, hvs0, hall0⟩, _⟩ := hok.blk id _ hb
          rw [nth_eq] at hv
          obtain ⟨u, hu, hru⟩ := hall0.idx off v hv
          obtain ⟨p, rfl⟩ := isNils_val hru hn
          obtain ⟨_, d', S1', ρ', hle, hdd, hok', hr⟩ := Out.virtRow (P := P) (A := A) hok (e := e) (m := m) (a := p)
          rw [map_killB_nil] at hok'
          have hne : id ≠ st.nid := fun e' => by have := (hok.top id (by omega)).2; rw [hb] at this; cases this
          have hb' : hup st.heap st.nid (some (.row e m [])) id = some (.var ty cs) := by rw [hup_ne hne]; exact hb
          refine ⟨hk, hs, hd, d', S1', ρ', hok'.reread hb' fun r' hr' hbr => ?_, fun x => RA.le hdd (RA.ctx hle _ _ _ (ht x)), fun id r h1 h2 => hle.ρ id r (hfx id r h1 h2) rfl⟩
          obtain ⟨hv', vs, h1, h2⟩ := hbr
          refine ⟨hv', vs, h1, ?_⟩
          have e1 : ρ' id = some r0 := hle.ρ id r0 hr0 rfl
          have e2 : r' = r0 := by have e3 : ρ' id = some r' := hr'; rw [e1] at e3; cases e3; rfl
          subst e2
          have e4 : vs = vs0 := by
            have e5 : w.heap[r'.g]? = some (.cells vs.toArray ty (0, 0)) := h1
            have e6 : w.heap[r'.g]? = some (.cells vs0.toArray ty (0, 0)) := hvs0
            rw [e5] at e6
            simpa using e6
          subst e4
          have e7 := setNA_spec (off := off) (vs := [AV.ow st.nid 0]) (us := [.slice p 0 0]) h2 ⟨hr, trivial⟩ (fitsB_one off cs v hv)
          have e8 : vs.take off ++ [Value.slice p 0 0] ++ vs.drop (off + 1) = vs := by
            have hlt : off < vs.length := (List.getElem?_eq_some_iff.1 hu).1
            have hget : vs[off] = .slice p 0 0 := (List.getElem?_eq_some_iff.1 hu).2
            rw [← hget, List.append_assoc, List.singleton_append, ← List.drop_eq_getElem_cons hlt, List.take_append_drop]
          simp only [List.length_cons, List.length_nil, Nat.zero_add] at e7
          rw [e8] at e7
          exact e7
      · cases h
    · cases h
end

/-! ### Code -/

def exOf : Ex → Exit
  | .normal => .normal
  | .exit i => .exit i
  | .ret => .ret

/-- Regions that draw may be walked in the order of the text. -/
def drawsB : Code → Bool
  | .region _ ops dr => !dr || textB ops
  | .seq a b => drawsB a && drawsB b
  | .cond _ a b => drawsB a && drawsB b
  | .block _ a => drawsB a
  | .loop a => drawsB a
  | .scope a => drawsB a
  | _ => true

theorem drawsB_seq {a b : Code} (h : drawsB (.seq a b) = true) : drawsB a = true ∧ drawsB b = true := by simpa [drawsB] using h
theorem drawsB_cond {x : Operand} {a b : Code} (h : drawsB (.cond x a b) = true) : drawsB a = true ∧ drawsB b = true := by simpa [drawsB] using h

section
variable {E : Env} {A S0 : Nat → Prop} {w0 : World} {ρ0 : Nat → Option Own}

theorem awp_ok (hE : EnvOk E) (hm : E.P.follows .mixedOrders = true) (hA : ∀ b, w0.heap.size ≤ b → A b) : ∀ (code : Code) (Q : Ex → ASt → Prop) (Q' : Exit → Act → World → Prop) (st : ASt) (a : Act) (w : World),
    drawsB code = true → Good E.P A S0 w0 E.N E.fix ρ0 st.tmps st.heap st.nid a w → (∀ e st a w, Q e st → Good E.P A S0 w0 E.N E.fix ρ0 st.tmps st.heap st.nid a w → Q' (exOf e) a w) → awp E code Q st → code.wp E.P Q' a w := by
  intro code
  induction code with
  | skip => intro Q Q' st a w _ hg hQ h; exact wp_skip (hQ _ _ _ _ h hg)
  | region id ops dr =>
    intro Q Q' st a w hdr hg hQ h
    refine region_ok hE hm hA (fun e => by subst e; simpa [drawsB] using hdr) (Q := fun f H n => Q .normal ⟨f, H, n⟩) (fun f H n a w hq hg' => hQ _ ⟨f, H, n⟩ _ _ hq hg') hg h
  | seq x y ihx ihy =>
    intro Q Q' st a w hdr hg hQ h
    obtain ⟨d1, d2⟩ := drawsB_seq hdr
    refine wp_seq (ihx (thenK (awp E y Q) Q) _ st a w d1 hg (fun e st a w hq hg' => ?_) h)
    cases e with
    | normal => exact ihy Q Q' st a w d2 hg' hQ hq
    | exit i => exact hQ (.exit i) st a w hq hg'
    | ret => exact hQ .ret st a w hq hg'
  | cond c x y ihx ihy =>
    intro Q Q' st a w hdr hg hQ h
    obtain ⟨d1, d2⟩ := drawsB_cond hdr
    simp only [awp] at h
    split at h
    · rename_i t hc
      have h' := Bc_ok h
      have hv : a.eval c = .bool t := by
        obtain ⟨_, _, _, d, S1, ρ, _, ht, _⟩ := hg
        have := RA.ev ht c
        rw [hc] at this
        exact this
      refine wp_cond hv ?_
      cases t with
      | true => exact ihx Q Q' st a w d1 hg hQ h'
      | false => exact ihy Q Q' st a w d2 hg hQ h'
    · exact h.elim
  | block id x ih =>
    intro Q Q' st a w hdr hg hQ h
    refine wp_block (ih (blockK id Q) _ st a w hdr hg (fun e st a w hq hg' => ?_) h)
    cases e with
    | normal => exact hQ .normal st a w hq hg'
    | exit i =>
      simp only [blockK] at hq
      simp only [exOf, Exit.inBlock]
      cases hb : Nat.beq i id with
      | true =>
        rw [hb] at hq
        rw [if_pos (Nat.eq_of_beq_eq_true hb)]
        exact hQ .normal st a w hq hg'
      | false =>
        rw [hb] at hq
        rw [if_neg (Nat.ne_of_beq_eq_false hb)]
        exact hQ (.exit i) st a w hq hg'
    | ret => exact hQ .ret st a w hq hg'
  | loop x ih =>
    intro Q Q' st a w hdr hg hQ h
    obtain ⟨α, cv, live, V, H, inv, μ, k, hlen, hfk, ⟨st1, x0, hcv, hinv, hV, hH, hi, ho⟩, hround⟩ := h
    have hg1 := convS_ok hcv hg
    refine wp_loop_by (fun (b : {b : α // inv b}) a w => Good E.P A S0 w0 E.N E.fix ρ0 (mkSt live (V b.1) (H b.1)).tmps (mkSt live (V b.1) (H b.1)).heap (mkSt live (V b.1) (H b.1)).nid a w) (fun b => μ b.1) ⟨x0, hinv⟩ (good_trim hg1 hV hH (hlen x0) hi ho (Nat.le_of_ble_eq_true hfk)) fun b a w hgb => ?_
    refine ih _ _ (mkSt live (V b.1) (H b.1)) a w hdr hgb (fun e st2 a2 w2 hq hg2 => ?_) (hround b.1 b.2)
    cases e with
    | normal =>
      obtain ⟨b2, hb2, hlt, hV2, hH2, hi2, ho2⟩ := hq
      exact ⟨⟨b2, hb2⟩, good_trim hg2 hV2 hH2 (hlen b2) hi2 ho2 (Nat.le_of_ble_eq_true hfk), hlt⟩
    | exit i => exact hQ (.exit i) st2 a2 w2 hq hg2
    | ret => exact hQ .ret st2 a2 w2 hq hg2
  | scope x ih =>
    intro Q Q' st a w hdr hg hQ h
    refine wp_scope_straight (ih Q _ st a w hdr hg (fun e st a w hq hg' => ?_) h)
    cases e <;> exact hQ _ st a w hq hg'
  | label l => intro Q Q' st a w _ hg hQ h; exact wp_label (hQ _ _ _ _ h hg)
  | exit id => intro Q Q' st a w _ hg hQ h; exact wp_exit (hQ (.exit id) _ _ _ h hg)
  | ret => intro Q Q' st a w _ hg hQ h; exact wp_ret (hQ .ret _ _ _ h hg)
  | _ => intros; rename_i h; exact h.elim
end
end Go.Qv
