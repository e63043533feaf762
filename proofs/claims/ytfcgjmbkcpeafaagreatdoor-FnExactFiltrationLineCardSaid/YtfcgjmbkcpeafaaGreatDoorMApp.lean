/- PROVED: for every input the law FnExactFiltrationLine returns true and each argument reads afterwards as it read before (the statement 'FnExactFiltrationLineCardSaid' of the given Rows).
Conditions: none beyond those which the given statement itself names. This text is one part of the proof. -/
import Derived.Test.YtfcgjmbkcpeafaaGreatDoorMSlice

/- The abstract machine: append. -/
namespace Go.Qv
open Go Go.RowKit

section
variable {P : Program} {A : Nat → Prop} {c : Ctx} {d : Nat} {H : Nat → Option Blk} {n : Nat} {T : TT}

theorem All2.one {S : Nat → Prop} {w : World} {ds : List D} {vs : List Value} (h : All2 (RD S w d) ds vs) : ∀ v ∈ vs, v.oneCell' = true := by
  induction ds generalizing vs with
  | nil => cases vs with
    | nil => simp
    | cons _ _ => exact h.elim
  | cons x xs ih => cases vs with
    | nil => exact h.elim
    | cons v vs =>
      intro u hu
      rcases List.mem_cons.1 hu with rfl | hu
      · exact RD.one h.1
      · exact ih h.2 u hu

theorem All2.append' {α : Type} {R : α → Value → Prop} {xs : List α} {vs : List Value} {ys : List α} {us : List Value} (h1 : All2 R xs vs) (h2 : All2 R ys us) : All2 R (xs ++ ys) (vs ++ us) := All2.append h1 h2

/-- All cells behind an address, as a list. -/
theorem cellsAll {w : World} {R : D → Value → Prop} {b o : Nat} {cs : List D} {arr : Array Value} {e : TypeId} {fr : Nat × Nat} (hw : w.heap[b]? = some (.cells arr e fr)) (h2 : ∀ (i : Nat) (x : D), cs[i]? = some x → ∃ u, arr[o + i]? = some u ∧ R x u) :
    ∃ vs : List Value, vs.length = cs.length ∧ All2 R cs vs ∧ ∀ (j : Nat) (x : Value), vs[j]? = some x → w.cell? ((⟨b, o, none⟩ : Addr).add j) = some x := by
  obtain ⟨vs, h1, _, h3, h4⟩ := cellsN (cs := cs) (off := 0) (n := cs.length) (ds := cs) hw h2 (by simp [getN])
  exact ⟨vs, h1, h3, fun j x hx => by rw [add_none]; simpa using h4 j x hx⟩

/-- What is appended or copied, as the model reads it. -/
theorem srcA_ok (hH : HeapOk P A c d H n) {x : AV} {u : Value} (hx : RA c d x u) {cs : List D} {m : Bool} {k : Nat} (hs : srcA T H x = some (cs, m, k)) {sz : Nat} {tx : TypeId}
    (hl : cs.length = k * sz) (hk : (∃ e', P.underlying tx = some (.slice e') ∧ ∀ s, x ≠ .str s) ∨ (P.underlying tx = some .string ∧ sz = 1 ∧ ∃ s, x = .str s)) :
    ∃ news : List Value, Src P sz tx u k news c.w ∧ All2 (RD (Sm c.S0 c.S1 m) c.w d) cs news := by
  rcases hk with ⟨e', hu, hns⟩ | ⟨hu, rfl, s, rfl⟩
  · -- a slice
    have hreal : ∀ (b o cap : Nat) (arr : Array Value) (e : TypeId) (fr : Nat × Nat), c.w.heap[b]? = some (.cells arr e fr) → (∀ (i : Nat) (x : D), cs[i]? = some x → ∃ u, arr[o + i]? = some u ∧ RD (Sm c.S0 c.S1 m) c.w d x u) →
        ∃ news : List Value, Src P sz tx (.slice (some ⟨b, o, none⟩) k cap) k news c.w ∧ All2 (RD (Sm c.S0 c.S1 m) c.w d) cs news := fun b o cap arr e fr hw h2 => by
      obtain ⟨vs, h1, h3, h4⟩ := cellsAll hw h2
      exact ⟨vs, Src.ofSlice c.w hu _ _ _ vs (by rw [h1, hl]) h4 (All2.one h3), h3⟩
    have hzero : ∀ (a : Option Addr) (cap : Nat), k = 0 → cs = [] → ∃ news : List Value, Src P sz tx (.slice a k cap) k news c.w ∧ All2 (RD (Sm c.S0 c.S1 m) c.w d) cs news := fun a cap h0 hc => by
      subst h0 hc
      cases a with
      | none => exact ⟨[], Src.ofNil c.w hu cap, trivial⟩
      | some a => exact ⟨[], Src.ofSlice c.w hu a 0 cap [] (by simp) (fun j u h => by simp at h) (fun _ h => by cases h), trivial⟩
    cases x <;> simp only [srcA] at hs
    case nils =>
      cases hs
      have : u = .slice none 0 0 := by cases d <;> exact hx
      subst this
      exact hzero none 0 rfl rfl
    case rs m' x' cs' n' =>
      cases hs
      obtain ⟨hrd, _⟩ := hx.rs
      cases d with
      | zero => exact hrd.elim
      | succ d =>
        obtain ⟨a, cap, rfl, _, _, h4⟩ := hrd
        rcases h4 with ⟨h0, hc⟩ | ⟨_, b, o, rfl, _, arr, e, fr, hw, hall⟩
        · exact hzero a cap h0 hc
        · exact hreal b o cap arr e fr hw fun i x hx => by
            obtain ⟨u, hu, hr⟩ := hall i x hx
            exact ⟨u, hu, RD.up _ _ _ hr⟩
    case ow id n' =>
      split at hs
      · rename_i e m' cs' hb
        cases hs
        obtain ⟨r, hr, hn, hro⟩ := hx.ow
        obtain ⟨r', e', hbr, _⟩ := hH.blk id _ hb
        rw [hr] at e'; cases e'
        obtain ⟨_, hlen, hbr⟩ := hbr
        rcases hro with ⟨hv, h0, a, rfl⟩ | ⟨hv, cap, rfl, _⟩
        · have hc : cs = [] := by rw [hn, h0] at hlen; exact List.eq_nil_of_length_eq_zero (by simpa using hlen)
          subst h0
          exact hzero a 0 rfl hc
        · rcases hbr with ⟨hv', _⟩ | ⟨_, arr, hw, _, _, hall⟩
          · rw [hv] at hv'; cases hv'
          · exact hreal r.g 0 cap arr e (0, 0) hw fun i x hx => by
              obtain ⟨u, hu, hr⟩ := hall i x hx
              exact ⟨u, by simpa using hu, hr⟩
      · cases hs
    case os id off n' =>
      split at hs
      · rename_i e m' cs' hb
        split at hs
        · rename_i i hl'
          cases hs
          obtain ⟨r, hr, a, cap, rfl, _, _, h4⟩ := hx.os
          obtain ⟨r', e', hbr, _⟩ := hH.blk id _ hb
          rw [hr] at e'; cases e'
          obtain ⟨_, hlen, hbr⟩ := hbr
          rcases h4 with h0 | ⟨hv, rfl, _⟩
          · subst h0
            exact hzero a cap rfl (by simp [mulS_eq])
          · rcases hbr with ⟨hv', _⟩ | ⟨_, arr, hw, _, _, hall⟩
            · rw [hv] at hv'; cases hv'
            · refine hreal r.g off cap arr e (0, 0) hw fun i x hx => ?_
              rw [List.getElem?_take] at hx
              split at hx
              · rw [List.getElem?_drop] at hx
                exact hall _ x hx
              · cases hx
        · cases hs
      · cases hs
    case str s => exact absurd rfl (hns s)
    all_goals cases hs
  · simp only [srcA, Option.some.injEq, Prod.mk.injEq] at hs
    obtain ⟨rfl, rfl, rfl⟩ := hs
    have := hx.str'; subst this
    have hsz : (ByteArray.mk s.toArray).size = s.length := by simp [ByteArray.size]
    refine ⟨byteCells (ByteArray.mk s.toArray), by have := Src.ofString c.w hu (ByteArray.mk s.toArray); rwa [hsz] at this, ?_⟩
    simp only [byteCells]
    refine All2.of_get (by simp) fun i x v hx hv => ?_
    simp only [List.getElem?_map, Option.map_eq_some_iff] at hx hv
    obtain ⟨b, hb, rfl⟩ := hx
    obtain ⟨b', hb', rfl⟩ := hv
    rw [hb] at hb'; cases hb'
    cases d <;> simp [RD]

/-- Room is there: the block is written behind the length. -/
theorem run_append_room_row (w : World) (t tx ty e : TypeId) (i : TypeInfo) (ht : P.underlying t = some (.slice e)) (hi : P.info? e = some i) (g sLen sCap : Nat) (cur : Array Value) (e' : TypeId) (hg : w.heap[g]? = some (.cells cur e' (0, 0))) (x : Value) (k : Nat) (news : List Value) (hs : Src P i.size tx x k news w)
    (hroom : sLen + k ≤ sCap) (hfit : sLen * i.size + news.length ≤ cur.size) :
    (Builtin.append_ #[t, tx] ty #[.slice (some ⟨g, 0, none⟩) sLen sCap, x]).run P w = .ok (.slice (some ⟨g, 0, none⟩) (sLen + k) sCap) (w.setRow g (cur.toList.take (sLen * i.size) ++ news ++ cur.toList.drop (sLen * i.size + news.length)).toArray) := by
  have hst := run_storeCells_at P g (sLen * i.size) e' news 0 cur w hg (by simpa using hfit) hs.one
  simp only [Nat.add_zero] at hst
  rcases hs.kind with ⟨e', hk⟩ | hk <;> simp [Builtin.append_, run_underlying ht, run_underlying hk, sizeOf, typeInfo, hi, hs.len, hroom, hs.cells, Addr.add_lit, hst]

theorem run_append_nothing (w : World) (t tx ty e : TypeId) (i : TypeInfo) (ht : P.underlying t = some (.slice e)) (hi : P.info? e = some i) (a : Option Addr) (sLen sCap : Nat) (hcap : sLen ≤ sCap) (x : Value) (hs : Src P i.size tx x 0 [] w) :
    (Builtin.append_ #[t, tx] ty #[.slice a sLen sCap, x]).run P w = .ok (.slice a sLen sCap) w := by
  have hc := hs.cells
  rcases hs.kind with ⟨e', hk⟩ | hk <;> cases a <;> simp [Builtin.append_, run_underlying ht, run_underlying hk, sizeOf, typeInfo, hi, hs.len, hcap, hc, storeCells]

theorem growslice_ok {need old bytes : Nat} (h : old < need) (hb : need * bytes ≤ sizeLim) : Builtin.nextslicecap need old * bytes ≤ 281474976710656 :=
  growslice_fits h (by unfold sizeLim at hb; exact hb)

theorem intLim_eq {k : Nat} (h : k ≤ intLim) : k ≤ maxLen := by unfold intLim at h; exact h
end

end Go.Qv
