/- PROVED: for every input the law FnExactFiltrationLine returns true and each argument reads afterwards as it read before (the statement 'FnExactFiltrationLineCardSaid' of the given Rows).
Conditions: none beyond those which the given statement itself names. This text is one part of the proof. -/
import Derived.Test.YtfcgjmbkcpeafaaGreatDoorMHeap
import Derived.Laws.Cells
import Derived.Laws.BytesString
import Derived.Laws.IdiomStrings

/- The abstract machine: operations that read memory, or only compute addresses. -/
namespace Go.Qv
open Go Go.RowKit

theorem All2.of_get {α : Type} {R : α → Value → Prop} : ∀ {xs : List α} {vs : List Value}, xs.length = vs.length → (∀ (i : Nat) (x : α) (v : Value), xs[i]? = some x → vs[i]? = some v → R x v) → All2 R xs vs
  | [], [], _, _ => trivial
  | _ :: _, [], h, _ => by simp at h
  | [], _ :: _, h, _ => by simp at h
  | x :: xs, v :: vs, h, hh => ⟨hh 0 x v rfl rfl, All2.of_get (by simpa using h) fun i y u hy hu => hh (i + 1) y u (by simpa using hy) (by simpa using hu)⟩

theorem All2.get2 {α : Type} {R : α → Value → Prop} {xs : List α} {vs : List Value} (h : All2 R xs vs) {i : Nat} {x : α} {v : Value} (hx : xs[i]? = some x) (hv : vs[i]? = some v) : R x v := by
  obtain ⟨u, hu, hr⟩ := All2.get xs vs i x h hx
  rw [hv] at hu; cases hu; exact hr

theorem takeA_spec {R : AV → Value → Prop} : ∀ {cs : List AV} {n : Nat} {l : List AV} {vs : List Value}, getNA.takeA cs n = some l → All2 R cs vs → All2 R l (vs.take n) ∧ (vs.take n).length = n
  | cs, 0, l, vs, h, _ => by
    cases cs <;> (simp [getNA.takeA] at h; subst h; simp [All2])
  | [], n + 1, l, vs, h, _ => by simp [getNA.takeA] at h
  | c :: r, n + 1, l, v :: vs, h, ⟨h1, h2⟩ => by
    simp only [getNA.takeA] at h
    split at h
    · rename_i l' hl
      simp at h; subst h
      have := takeA_spec hl h2
      exact ⟨⟨h1, this.1⟩, by simpa using this.2⟩
    · cases h

theorem getNA_spec {R : AV → Value → Prop} : ∀ {cs : List AV} {off n : Nat} {l : List AV} {vs : List Value}, getNA cs off n = some l → All2 R cs vs → All2 R l ((vs.drop off).take n) ∧ ((vs.drop off).take n).length = n
  | cs, 0, n, l, vs, h, h2 => by
    have h' : getNA.takeA cs n = some l := by cases cs <;> simpa [getNA] using h
    simpa using takeA_spec h' h2
  | [], o + 1, n, l, vs, h, _ => by simp [getNA] at h
  | _ :: r, o + 1, n, l, v :: vs, h, ⟨_, h2⟩ => by
    simp only [getNA] at h
    simpa using getNA_spec h h2

theorem lenB_eq {α : Type} : ∀ {l : List α} {n : Nat}, lenB l n = true → l.length = n
  | [], 0, _ => rfl
  | [], n + 1, h => by simp [lenB] at h
  | _ :: _, 0, h => by simp [lenB] at h
  | _ :: r, n + 1, h => by simp [lenB] at h; simp [lenB_eq h]

section
variable {P : Program} {w : World}

theorem cell_of {b o : Nat} {arr : Array Value} {e : TypeId} {fr : Nat × Nat} (h : w.heap[b]? = some (.cells arr e fr)) : w.cell? ⟨b, o, none⟩ = arr[o]? := cell_of_row w b o arr e fr h

theorem add_none (b o k : Nat) : (⟨b, o, none⟩ : Addr).add k = ⟨b, o + k, none⟩ := by
  unfold Addr.add; split <;> simp_all

theorem run_load_cell {a : Addr} {v : Value} (h : w.cell? a = some v) : (load a).run P w = .ok v w := by simp [h]

theorem run_loadVar_one {t : TypeId} {a : Addr} {v : Value} (hg : (isAgg t).run P w = .ok false w) (h : w.cell? a = some v) : (loadVar t a).run P w = .ok v w := by
  simp [loadVar, hg, h]

theorem run_loadVar_agg {t : TypeId} {a : Addr} {vs : List Value} (hg : (isAgg t).run P w = .ok true w) (hs : (sizeOf t).run P w = .ok vs.length w) (h : ∀ (j : Nat) (x : Value), vs[j]? = some x → w.cell? (a.add j) = some x) :
    (loadVar t a).run P w = .ok (.agg vs.toArray) w := by
  simp [loadVar, hg, hs, run_loadCells_list (P := P) w a vs h]
end

theorem RD.get {S : Nat → Prop} {w : World} {R : D → Value → Prop} {b o : Nat} {cs : List D} (h : Cells S w R b o cs) {i : Nat} {x : D} (hx : cs[i]? = some x) : ∃ u, w.cell? ⟨b, o + i, none⟩ = some u ∧ R x u := by
  obtain ⟨_, arr, e, fr, h1, h2⟩ := h
  obtain ⟨u, hu, hr⟩ := h2 i x hx
  exact ⟨u, by rw [cell_of h1]; exact hu, hr⟩

/-- Several cells at once. -/
theorem cellsN {w : World} {R : D → Value → Prop} {b o : Nat} {cs : List D} {arr : Array Value} {e : TypeId} {fr : Nat × Nat} (hw : w.heap[b]? = some (.cells arr e fr)) (h2 : ∀ (i : Nat) (x : D), cs[i]? = some x → ∃ u, arr[o + i]? = some u ∧ R x u) {off n : Nat} {ds : List D} (hd : getN cs off n = some ds) :
    ∃ vs : List Value, vs.length = n ∧ ds.length = n ∧ All2 R ds vs ∧ ∀ (j : Nat) (x : Value), vs[j]? = some x → w.cell? (⟨b, o + off + j, none⟩ : Addr) = some x := by
  unfold getN at hd
  split at hd
  · rename_i hle
    simp only [Option.some.injEq] at hd
    subst hd
    have hget : ∀ j, j < n → ∃ x u, cs[off + j]? = some x ∧ arr[o + off + j]? = some u ∧ R x u := fun j hj => by
      have hlt : off + j < cs.length := by omega
      obtain ⟨u, hu, hr⟩ := h2 (off + j) cs[off + j] (by simp [hlt])
      exact ⟨_, u, by simp [hlt], by rw [← hu, Nat.add_assoc], hr⟩
    have hlen : ((arr.toList.drop (o + off)).take n).length = n := by
      simp only [List.length_take, List.length_drop, Array.length_toList]
      by_cases hn : n = 0
      · omega
      · obtain ⟨_, u, _, hu, _⟩ := hget (n - 1) (by omega)
        have := (Array.getElem?_eq_some_iff.1 hu).1
        omega
    refine ⟨(arr.toList.drop (o + off)).take n, hlen, by simp; omega, All2.of_get (by rw [hlen]; simp; omega) fun i x v hx hv => ?_, fun j x hx => ?_⟩
    · have hi : i < n := by
        have := (List.getElem?_eq_some_iff.1 hv).1; rw [hlen] at this; exact this
      obtain ⟨x', u, h1', h2', h3'⟩ := hget i hi
      rw [List.getElem?_take_of_lt hi, List.getElem?_drop] at hx hv
      rw [h1'] at hx; cases hx
      rw [Array.getElem?_toList, h2'] at hv; cases hv
      exact h3'
    · have hj : j < n := by
        have := (List.getElem?_eq_some_iff.1 hx).1; rw [hlen] at this; exact this
      rw [List.getElem?_take_of_lt hj, List.getElem?_drop, Array.getElem?_toList] at hx
      rw [cell_of hw]; exact hx
  · cases hd

theorem All2.map {R : D → Value → Prop} {R' : AV → Value → Prop} {g : D → AV} (h : ∀ x v, R x v → R' (g x) v) : ∀ {xs : List D} {vs : List Value}, All2 R xs vs → All2 R' (xs.map g) vs
  | [], [], _ => trivial
  | _ :: _, _ :: _, ⟨h1, h2⟩ => ⟨h _ _ h1, All2.map h h2⟩

section
variable {P : Program} {A : Nat → Prop} {c : Ctx} {d : Nat} {H : Nat → Option Blk} {n : Nat} {T : TT}

/-- What a load finds in a block of one's own or of another's. -/
theorem loadK_ok (hT : TOk P T) (h : HeapOk P A c d H n) {t : TypeId} {x : AV} {u : Value} (hx : RA c d x u) {K : AV → Prop} (hk : loadK T H t x K) : ∃ r v, K r ∧ (Instr.loadAt t u).run P c.w = .ok v c.w ∧ RA c (d + 1) r v := by
  unfold loadK at hk
  split at hk
  · exact hk.elim
  · rename_i i hl
    obtain ⟨ti, td, z, ht⟩ := hT.ty hl
    have hag := ht.run_isAgg (w := c.w)
    have hsz := ht.run_size (w := c.w)
    split at hk
    · -- a block of one's own
      rename_i id off
      have hx' : ∃ r, c.ρ id = some r ∧ r.virt = false ∧ u = .pointer (some ⟨r.g, off, none⟩) := by cases d <;> exact hx
      obtain ⟨r, hr, hv, rfl⟩ := hx'
      have hrun : ∀ v, (loadVar t ⟨r.g, off, none⟩).run P c.w = .ok v c.w → (Instr.loadAt t (.pointer (some ⟨r.g, off, none⟩))).run P c.w = .ok v c.w := fun v hv => by
        simp only [Instr.loadAt, Instr.sureAddr, Sem.run_bind, Sem.run_pure, Result.andThen_ok, hv]
      split at hk
      · rename_i ty cs hb
        obtain ⟨r', e, hbr, _⟩ := h.blk id _ hb
        rw [hr] at e; cases e
        obtain ⟨_, vs, hw, hall⟩ := hbr
        cases hgt : isAggT i.d with
        | true =>
          rw [hgt] at hk hag
          simp only [cond_true] at hk
          split at hk
          · rename_i l hl'
            have hsp := getNA_spec hl' hall
            refine ⟨_, _, hk, hrun _ (run_loadVar_agg hag (by rw [hsp.2]; exact hsz) fun j x hx => ?_), ⟨_, rfl, hsp.1⟩⟩
            have hj : j < i.size := by have := (List.getElem?_eq_some_iff.1 hx).1; rw [hsp.2] at this; exact this
            rw [List.getElem?_take_of_lt hj, List.getElem?_drop] at hx
            rw [add_none, cell_of hw]; simpa using hx
          · exact hk.elim
        | false =>
          rw [hgt] at hk hag
          simp only [cond_false] at hk
          split at hk
          · rename_i v hn
            rw [nth_eq] at hn
            obtain ⟨z', hz', hr'⟩ := All2.get _ _ _ _ hall hn
            exact ⟨_, z', hk, hrun _ (run_loadVar_one hag (by rw [cell_of hw]; simpa using hz')), RA.up _ _ _ hr'⟩
          · exact hk.elim
      · rename_i e m cs hb
        obtain ⟨r', e', hbr, _⟩ := h.blk id _ hb
        rw [hr] at e'; cases e'
        obtain ⟨_, _, hbr⟩ := hbr
        rcases hbr with ⟨hv', _⟩ | ⟨_, arr, hw, _, _, hall⟩
        · rw [hv] at hv'; cases hv'
        have hall' : ∀ (i : Nat) (x : D), cs[i]? = some x → ∃ u, arr[0 + i]? = some u ∧ RD (Sm c.S0 c.S1 m) c.w d x u := by simpa using hall
        cases hgt : isAggT i.d with
        | true =>
          rw [hgt] at hk hag
          simp only [cond_true] at hk
          obtain ⟨ds, hds, hk⟩ := hk
          obtain ⟨vs, hvl, hdl, h2, hc⟩ := cellsN hw hall' hds
          exact ⟨_, _, hk, hrun _ (run_loadVar_agg hag (by rw [hvl]; exact hsz) fun j x hx => by rw [add_none]; simpa using hc j x hx), ⟨vs, rfl, All2.map (fun x v hxv => RA.ofD hxv) h2⟩⟩
        | false =>
          rw [hgt] at hk hag
          simp only [cond_false] at hk
          obtain ⟨x, hx, hk⟩ := hk
          obtain ⟨v, hv', hr'⟩ := hall off x hx
          exact ⟨_, v, hk, hrun _ (run_loadVar_one hag (by rw [cell_of hw]; exact hv')), RA.up _ _ _ (RA.ofD hr')⟩
      · exact hk.elim
    · rename_i m cs off
      have hx' : ∃ b o, u = .pointer (some ⟨b, o + off, none⟩) ∧ Cells (Sm c.S0 c.S1 m) c.w (RD (Sm c.S0 c.S1 m) c.w d) b o cs := by cases d <;> exact hx
      obtain ⟨b, o, rfl, hcells⟩ := hx'
      have hrun : ∀ v, (loadVar t ⟨b, o + off, none⟩).run P c.w = .ok v c.w → (Instr.loadAt t (.pointer (some ⟨b, o + off, none⟩))).run P c.w = .ok v c.w := fun v hv => by
        simp only [Instr.loadAt, Instr.sureAddr, Sem.run_bind, Sem.run_pure, Result.andThen_ok, hv]
      have hcells' := hcells
      obtain ⟨_, arr, e, fr, hw, hall⟩ := hcells
      cases hgt : isAggT i.d with
      | true =>
        rw [hgt] at hk hag
        simp only [cond_true] at hk
        obtain ⟨ds, hds, hk⟩ := hk
        obtain ⟨vs, hvl, hdl, h2, hc⟩ := cellsN hw hall hds
        exact ⟨_, _, hk, hrun _ (run_loadVar_agg hag (by rw [hvl]; exact hsz) fun j x hx => by rw [add_none]; exact hc j x hx), ⟨vs, rfl, All2.map (fun x v hxv => RA.ofD hxv) h2⟩⟩
      | false =>
        rw [hgt] at hk hag
        simp only [cond_false] at hk
        obtain ⟨x, hx, hk⟩ := hk
        obtain ⟨v, hv', hr'⟩ := RD.get hcells' hx
        exact ⟨_, v, hk, hrun _ (run_loadVar_one hag hv'), RA.up _ _ _ (RA.ofD hr')⟩
    · exact hk.elim

theorem fieldOff_spec (hT : TOk P T) {s : TypeId} {f : Nat} {t : TypeId} {o : Nat} (h : fieldOff T s f = some (t, o)) : ∃ fl, P.underlying s = some (.struct fl) ∧ ∃ fd, fl[f]? = some fd ∧ fd.type = t ∧ fd.offset = o := by
  unfold fieldOff at h
  split at h
  · rename_i fs _ _ _ hl
    obtain ⟨ti, td, z, ht⟩ := hT.ty hl
    obtain ⟨fl, h1, h2⟩ := ht.struct rfl
    rw [nth_eq, h2, List.getElem?_map] at h
    simp only [Array.getElem?_toList, Option.map_eq_some_iff, Prod.mk.injEq] at h
    obtain ⟨fd, h3, h4, h5⟩ := h
    exact ⟨fl, h1, fd, h3, h4, h5⟩
  · cases h
end

end Go.Qv
