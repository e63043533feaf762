/- PROVED: for every input the law FnExactFiltrationLine returns true and each argument reads afterwards as it read before (the statement 'FnExactFiltrationLineCardSaid' of the given Rows).
Conditions: none beyond those which the given statement itself names. This text is one part of the proof. -/
import Derived.Test.YtfcgjmbkcpeafaaGreatDoorMMem

/- The abstract machine: stores, composites, makes, copies, conversions. -/
namespace Go.Qv
open Go Go.RowKit

section
variable {P : Program} {A : Nat → Prop} {c : Ctx} {d : Nat} {H : Nat → Option Blk} {n : Nat} {T : TT}

theorem toDs_ok : ∀ {vs : List AV} {us : List Value} {ds : List D} {m : Bool}, All2 (RA c d) vs us → toDs vs = some (ds, m) → All2 (RD (Sm c.S0 c.S1 m) c.w (d + 1)) ds us
  | [], [], ds, m, _, h => by simp [toDs] at h; obtain ⟨rfl, rfl⟩ := h; trivial
  | v :: vs, u :: us, ds, m, ⟨h1, h2⟩, h => by
    simp only [toDs] at h
    split at h
    · rename_i x m1 hx
      split at h
      · rename_i xs m2 hxs
        simp only [Option.some.injEq, Prod.mk.injEq] at h
        obtain ⟨rfl, rfl⟩ := h
        have hr : RD (Sm c.S0 c.S1 m1) c.w (d + 1) x u := by
          cases v <;> simp only [toD] at hx <;> try (cases hx)
          case bool b => have : u = .bool b := by cases d <;> exact h1
                         simpa [RD] using this
          case int => have := h1.int'; simpa [RD] using this
          case str => have := h1.str'; simpa [RD] using this
          case nilp => have : u = .pointer none := by cases d <;> exact h1
                       simpa [RD] using this
          case nils => have : u = .slice none 0 0 := by cases d <;> exact h1
                       subst this; exact RD.empty none
          case rs => exact RD.up _ _ _ h1.rs.1
        refine ⟨RD.imp (fun b hb => ?_) (fun _ _ => rfl) _ _ _ hr, (toDs_ok h2 hxs).mono fun y _ v hv => RD.imp (fun b hb => ?_) (fun _ _ => rfl) _ _ _ hv⟩
        · exact Or.imp (fun h => ⟨by simp [h.1], h.2⟩) id hb
        · exact Or.imp (fun h => ⟨by simp [h.1], h.2⟩) id hb
      · cases h
    · cases h

theorem toDs_len : ∀ {vs : List AV} {ds : List D} {m : Bool}, toDs vs = some (ds, m) → ds.length = vs.length
  | [], ds, m, h => by simp [toDs] at h; simp [h.1]
  | v :: vs, ds, m, h => by
    simp only [toDs] at h
    split at h
    · split at h
      · rename_i hxs
        simp only [Option.some.injEq, Prod.mk.injEq] at h
        obtain ⟨rfl, _⟩ := h
        simp [toDs_len hxs]
      · cases h
    · cases h

/-- Cells laid over others, in a row. -/
theorem rowSplice {R : D → Value → Prop} {cs ds : List D} {arr : Array Value} {us : List Value} {off : Nat} (hold : ∀ (i : Nat) (x : D), cs[i]? = some x → ∃ u, arr[i]? = some u ∧ R x u) (hnew : All2 R ds us) (hle : off + ds.length ≤ cs.length) :
    ∀ (i : Nat) (x : D), (setND cs off ds)[i]? = some x → ∃ u, (arr.toList.take off ++ us ++ arr.toList.drop (off + us.length)).toArray[i]? = some u ∧ R x u := by
  intro i x hx
  have hul := All2.length _ _ hnew
  have harr : cs.length ≤ arr.size := by
    rcases Nat.eq_zero_or_pos cs.length with h0 | h0
    · omega
    · obtain ⟨u, hu, _⟩ := hold (cs.length - 1) cs[cs.length - 1] (by simp)
      have := (Array.getElem?_eq_some_iff.1 hu).1
      omega
  have ht : (arr.toList.take off).length = off := by simp; omega
  have htc : (cs.take off).length = off := by simp; omega
  unfold setND at hx
  rw [List.append_assoc] at hx
  simp only [List.getElem?_toArray]
  rw [List.append_assoc]
  rcases Nat.lt_or_ge i off with hi | hi
  · rw [List.getElem?_append_left (by omega), List.getElem?_take_of_lt hi] at hx
    obtain ⟨u, hu, hr⟩ := hold i x hx
    exact ⟨u, by rw [List.getElem?_append_left (by omega), List.getElem?_take_of_lt hi, Array.getElem?_toList]; exact hu, hr⟩
  · rw [List.getElem?_append_right (by omega), htc] at hx
    rw [List.getElem?_append_right (by omega), ht]
    rcases Nat.lt_or_ge (i - off) ds.length with hj | hj
    · rw [List.getElem?_append_left hj] at hx
      obtain ⟨u, hu, hr⟩ := hnew.idx _ x hx
      exact ⟨u, by rw [List.getElem?_append_left (by omega)]; exact hu, hr⟩
    · rw [List.getElem?_append_right hj, List.getElem?_drop] at hx
      obtain ⟨u, hu, hr⟩ := hold _ x hx
      refine ⟨u, ?_, hr⟩
      rw [List.getElem?_append_right (by omega), List.getElem?_drop, Array.getElem?_toList, hul]
      exact hu

theorem setND_len {cs ds : List D} {off : Nat} (hle : off + ds.length ≤ cs.length) : (setND cs off ds).length = cs.length := by
  simp [setND]; omega

theorem RD.setRow (h : HeapOk P A c d H n) {id : Nat} {b : Blk} {r : Own} (hb : H id = some b) (hr : c.ρ id = some r) (hv : r.virt = false) (arr : Array Value) {m : Bool} {d' : Nat} {x : D} {u : Value} (hx : RD (Sm c.S0 c.S1 m) c.w d' x u) : RD (Sm c.S0 c.S1 m) (c.w.setRow r.g arr) d' x u := by
  obtain ⟨r0, e0, _, hg⟩ := h.blk id b hb
  rw [hr] at e0; cases e0
  refine RD.imp (fun _ h => h) (fun b hb => setRow_other _ _ _ _ fun e => ?_) _ _ _ hx
  subst e
  rcases hb with hb | hb
  · exact h.s0 _ hb.2 (hg hv).1
  · exact (hg hv).2.2 hb

theorem storeK_ok (hH : HeapOk P A c d H n) (hT : TOk P T) {t : TypeId} {a v : AV} {ua uv : Value} (ha : RA c d a ua) (hv : RA c d v uv) {K : Kont} (h : storeK T H n t a v K) :
    ∃ H' w', K .und H' n [] ∧ (Instr.storeAt t ua uv).run P c.w = .ok () w' ∧ Out P A c d H' n [] .und undef w' := by
  unfold storeK at h
  split at h
  · rename_i i vs hl hc
    cases hb0 : lenB vs i.size && noAny vs && !Nat.beq i.size 0 with
    | false => rw [hb0] at h; exact h.elim
    | true =>
      rw [hb0] at h
      simp only [cond_true] at h
      simp only [Bool.and_eq_true, Bool.not_eq_true'] at hb0
      obtain ⟨⟨hlen, hno⟩, hz0⟩ := hb0
      have hlen := lenB_eq hlen
      have hpos : i.size ≠ 0 := fun e => by rw [e] at hz0; cases hz0
      obtain ⟨ti, td, z, ht⟩ := hT.ty hl
      have hcells := RA.cells hv hc
      have hone := noAny_one hno hcells
      have hul : uv.cells.size = i.size := by have := All2.length _ _ hcells; simp at this; omega
      split at h
      · rename_i id off
        obtain ⟨r, hr, hvf, rfl⟩ := ha.op
        have hrun : ∀ (g o : Nat) (cur : Array Value) (e : TypeId), c.w.heap[g]? = some (.cells cur e (0, 0)) → o + i.size ≤ cur.size →
            (Instr.storeAt t (.pointer (some ⟨g, o, none⟩)) uv).run P c.w = .ok () (c.w.setRow g (cur.toList.take o ++ uv.cells.toList ++ cur.toList.drop (o + uv.cells.toList.length)).toArray) := fun g o cur e hw hle => by
          have := run_storeCells_at P g o e uv.cells.toList 0 cur c.w hw (by simp [hul]; omega) hone
          simp only [Nat.add_zero] at this
          simp [Instr.storeAt, Instr.sureAddr, storeVar, ht.run_size, hul, this]
        split at h
        · rename_i ty cs hb
          obtain ⟨r', e', hbr, hg⟩ := hH.blk id _ hb
          rw [hr] at e'; cases e'
          obtain ⟨_, arr, hw, hall⟩ := hbr
          cases hf : fitsB cs off i.size with
          | false => rw [hf] at h; exact h.elim
          | true =>
            rw [hf] at h
            simp only [cond_true, forceL_eq] at h
            have hle : off + i.size ≤ arr.length := (fitsB_le hall hf).resolve_right hpos
            refine ⟨_, _, h, hrun r.g off arr.toArray ty hw (by simpa using hle), ?_⟩
            refine Out.write hH hb hr hvf _ d (Nat.le_refl _) (b' := .var ty (setNA cs off vs)) ⟨hvf, _, by rw [setRow_heap _ _ _ _ _ _ hw], ?_⟩ _ _ (by simp [RA])
            have hsp := setNA_spec hall hcells (by rw [hlen]; exact hf)
            refine All2.imp (fun x v hx => RA.ctx ?_ _ _ _ hx) _ _ hsp
            refine ⟨fun _ h => h, fun _ h => h, fun k hk => setRow_other _ _ _ _ fun e => ?_, fun _ _ h _ => h⟩
            subst e
            rcases hk with hk | hk
            · exact hH.s0 _ hk (hg hvf).1
            · exact (hg hvf).2.2 hk
        · rename_i e m cs hb
          obtain ⟨r', e', hbr, hg⟩ := hH.blk id _ hb
          rw [hr] at e'; cases e'
          obtain ⟨hsz, hlr, hbr⟩ := hbr
          rcases hbr with ⟨hv', _⟩ | ⟨_, arr, hw, hasz, hcl, hall⟩
          · rw [hvf] at hv'; cases hv'
          split at h
          · rename_i ds m2 hds
            obtain ⟨hle, h⟩ := h
            have hdl := toDs_len hds
            have hd2 := toDs_ok hcells hds
            refine ⟨_, _, h, hrun r.g off arr e hw (by omega), ?_⟩
            have hl3 : (arr.toList.take off ++ uv.cells.toList ++ arr.toList.drop (off + uv.cells.toList.length)).length = arr.size := by
              simp only [List.length_append, List.length_take, List.length_drop, Array.length_toList]; omega
            refine Out.write hH hb hr hvf _ (d + 1) (Nat.le_succ _) (b' := .row e (m || m2) (setND cs off ds)) ⟨hsz, by rw [setND_len (by omega)]; exact hlr, .inr ⟨hvf, _, setRow_heap _ _ _ _ _ _ hw, by simpa [hasz] using hl3, by rw [setND_len (by omega), List.size_toArray, hl3]; exact hcl, ?_⟩⟩ _ _ (by simp [RA])
            refine rowSplice (fun j x hx => ?_) (hd2.mono fun x _ v hx => ?_) (by omega)
            · obtain ⟨u, hu, hrr⟩ := hall j x hx
              exact ⟨u, hu, RD.setRow hH hb hr hvf _ (RD.up _ _ _ (RD.imp (fun b hb => Or.imp (fun h => ⟨by simp [h.1], h.2⟩) (fun h => h) hb) (fun _ _ => rfl) _ _ _ hrr))⟩
            · exact RD.setRow hH hb hr hvf _ (RD.imp (fun b hb => Or.imp (fun h => ⟨by simp [h.1], h.2⟩) (fun h => h) hb) (fun _ _ => rfl) _ _ _ hx)
          · exact h.elim
        · exact h.elim
      · exact h.elim
  · exact h.elim

/-! ### Composites -/

theorem foldl_put (off : Nat) : ∀ (us : List Value) (k : Nat) (arr : Array Value), off + k + us.length ≤ arr.size →
    ((us.zipIdx k).foldl (fun (cs : Array Value) (x : Value × Nat) => cs.setIfInBounds (off + x.2) x.1) arr).toList = arr.toList.take (off + k) ++ us ++ arr.toList.drop (off + k + us.length)
  | [], k, arr, _ => by simp
  | u :: us, k, arr, h => by
    simp only [List.zipIdx_cons, List.foldl_cons]
    simp only [List.length_cons] at h
    rw [foldl_put off us (k + 1) _ (by simp; omega)]
    have hlt : off + k < arr.toList.length := by simp; omega
    simp only [Array.toList_setIfInBounds, List.length_cons]
    rw [show off + (k + 1) = off + k + 1 by omega, List.take_succ_eq_append_getElem (by simp; omega)]
    rw [List.take_set_of_le (Nat.le_refl _), List.getElem_set_self, List.drop_set_of_lt (by omega)]
    simp
    omega

theorem fill_ok {place : Nat → Option (Nat × Nat)} : ∀ {ps : List (Nat × AV)} {ps' : List (Nat × Value)} {cs cs' : List AV} {arr : Array Value}, All2 (RA c d) cs arr.toList → ps.length = ps'.length → (∀ (i : Nat) (p : Nat × AV) (p' : Nat × Value), ps[i]? = some p → ps'[i]? = some p' → p.1 = p'.1 ∧ RA c d p.2 p'.2) →
    fillA place cs ps = some cs' → ∃ arr', Instr.fill place arr ps' = some arr' ∧ All2 (RA c d) cs' arr'.toList
  | [], [], cs, cs', arr, h, _, _, hf => by simp [fillA] at hf; subst hf; exact ⟨arr, rfl, h⟩
  | (i, v) :: ps, (i', v') :: ps', cs, cs', arr, h, hl, hp, hf => by
    have h0 := hp 0 _ _ rfl rfl
    obtain ⟨rfl, hv⟩ := h0
    simp only [fillA] at hf
    split at hf
    · rename_i off k vs hpl hc
      cases hb : lenB vs k && fitsB cs off k && !Nat.beq k 0 with
      | false => rw [hb] at hf; cases hf
      | true =>
        rw [hb] at hf
        simp only [Bool.and_eq_true, Bool.not_eq_true'] at hb
        simp only [cond_true] at hf
        obtain ⟨hb, hk0⟩ := hb
        have hk0 : k ≠ 0 := fun e => by rw [e] at hk0; cases hk0
        have hlen := lenB_eq hb.1
        have hcells := RA.cells hv hc
        have hul : v'.cells.size = k := by have := All2.length _ _ hcells; simp at this; omega
        have hsp := setNA_spec h hcells (by rw [hlen]; exact hb.2)
        have hfit := fitsB_le h hb.2
        simp only [Instr.fill, hpl]
        have hle : off + v'.cells.size ≤ arr.size := by simpa [hul] using hfit.resolve_right hk0
        have hnot : ¬ (v'.cells.size ≠ k ∨ off + v'.cells.size > arr.size) := by omega
        have hput := foldl_put off v'.cells.toList 0 arr (by simp; omega)
        simp only [Nat.add_zero] at hput
        obtain ⟨arr', h1, h2⟩ := fill_ok (cs := setNA cs off vs) (arr := (v'.cells.toList.zipIdx 0).foldl (fun (cs : Array Value) (x : Value × Nat) => cs.setIfInBounds (off + x.2) x.1) arr) (by rw [hput]; exact hsp) (by simpa using hl) (fun j p p' hj hj' => hp (j + 1) p p' (by simpa using hj) (by simpa using hj')) hf
        refine ⟨arr', ?_, h2⟩
        rw [if_neg (by simpa using hnot), ← Array.foldl_toList]
        simpa using h1
    · cases hf
  | [], _ :: _, _, _, _, _, hl, _, _ => by simp at hl
  | _ :: _, [], _, _, _, _, hl, _, _ => by simp at hl

theorem fillA_congr {p q : Nat → Option (Nat × Nat)} : ∀ {ps : List (Nat × AV)} {cs : List AV}, (∀ i v, (i, v) ∈ ps → p i = q i) → fillA p cs ps = fillA q cs ps
  | [], cs, _ => by simp [fillA]
  | (i, v) :: ps, cs, h => by
    have ih := fun cs => fillA_congr (ps := ps) (cs := cs) fun j u hj => h j u (by simp [hj])
    simp only [fillA, h i v (by simp)]
    split <;> simp [ih]

/-- The parts, abstract and concrete. -/
def Parts (c : Ctx) (d : Nat) (ps : List (Nat × AV)) (ps' : List (Nat × Value)) : Prop :=
  ps.length = ps'.length ∧ ∀ (i : Nat) (p : Nat × AV) (p' : Nat × Value), ps[i]? = some p → ps'[i]? = some p' → p.1 = p'.1 ∧ RA c d p.2 p'.2

theorem placesT_ok (hT : TOk P T) : ∀ {fl : List Field} {pl : List (Nat × Nat)}, placesT T (fl.map fun f => (f.type, f.offset)) = some pl → fl.mapM (fun f => (P.info? f.type).map fun i => (f.offset, i.size)) = some pl
  | [], pl, h => by simp [placesT] at h; subst h; simp
  | f :: fl, pl, h => by
    simp only [List.map_cons, placesT] at h
    split at h
    · rename_i ti hl
      obtain ⟨tinf, td, z, ht⟩ := hT.ty hl
      split at h
      · rename_i l hl'
        cases h
        simp [List.mapM_cons, ht.info, ht.size, placesT_ok hT hl']
      · cases h
    · cases h

theorem buildK_ok (hT : TOk P T) {t : TypeId} {ps : List (Nat × AV)} {ps' : List (Nat × Value)} (hp : Parts c d ps ps') {K : AV → Prop} (h : buildK T t ps K) : ∃ r v, K r ∧ (Instr.build t ps'.toArray).run P c.w = .ok v c.w ∧ RA c (d + 1) r v := by
  unfold buildK at h
  split at h
  · rename_i fs _ _ z hl
    obtain ⟨ti, td, zv, ht⟩ := hT.ty hl
    obtain ⟨fl, hu, hfs⟩ := ht.struct rfl
    have hzs : z = zv.cells.toList.map constA := ht.zs
    split at h
    · rename_i pl hpl
      rw [hfs] at hpl
      have hm := placesT_ok hT hpl
      split at h
      · rename_i cs hf
        rw [fillA_congr (q := fun i => pl.toArray[i]?) (fun i v _ => by rw [nth_eq]; simp)] at hf
        obtain ⟨arr', h1, h2⟩ := fill_ok (arr := zv.cells) (by rw [hzs]; exact All2.cst _) hp.1 hp.2 hf
        refine ⟨_, .agg arr', h, run_build c.w t _ arr' ?_, ⟨arr'.toList, rfl, h2⟩⟩
        simp [Program.built, ht.info, hu, ht.zero, hm]
        simpa using h1
      · exact h.elim
    · exact h.elim
  · rename_i len e _ _ z hl
    obtain ⟨ti, td, zv, ht⟩ := hT.ty hl
    have hu := ht.array rfl
    have hzs : z = zv.cells.toList.map constA := ht.zs
    split at h
    · rename_i te hle
      obtain ⟨ti2, td2, z2, ht2⟩ := hT.ty hle
      split at h
      · rename_i cs hf
        obtain ⟨arr', h1, h2⟩ := fill_ok (arr := zv.cells) (by rw [hzs]; exact All2.cst _) hp.1 hp.2 hf
        refine ⟨_, .agg arr', h, run_build c.w t _ arr' ?_, ⟨arr'.toList, rfl, h2⟩⟩
        simp [Program.built, ht.info, hu, ht.zero, ht2.info, ht2.size]
        simpa using h1
      · exact h.elim
    · exact h.elim
  · exact h.elim

theorem repA_get (zs : List AV) : ∀ (k j : Nat), j < k * zs.length → (repA zs k)[j]? = zs[j % zs.length]?
  | 0, j, h => by simp at h
  | k + 1, j, h => by
    simp only [repA]
    rcases Nat.lt_or_ge j zs.length with hj | hj
    · rw [List.getElem?_append_left hj, Nat.mod_eq_of_lt hj]
    · rw [List.getElem?_append_right hj, repA_get zs k _ (by rw [Nat.add_mul] at h; omega), Nat.mod_eq_sub_mod hj]
theorem repA_len (zs : List AV) : ∀ k, (repA zs k).length = k * zs.length
  | 0 => by simp [repA]
  | k + 1 => by simp [repA, repA_len zs k, Nat.add_mul, Nat.add_comm]

theorem zeros_ok {z : Array Value} {k : Nat} : All2 (RA c d) (repA (z.toList.map constA) k) ((Array.range (k * z.size)).map (z[· % z.size]!)).toList := by
  refine All2.of_get (by simp [repA_len]) fun j x v hx hv => ?_
  have hj : j < k * z.size := by
    have := (List.getElem?_eq_some_iff.1 hv).1; simpa using this
  have hpos : 0 < z.size := by
    rcases Nat.eq_zero_or_pos z.size with h | h
    · rw [h] at hj; simp at hj
    · exact h
  have hm := Nat.mod_lt j hpos
  rw [repA_get _ _ _ (by simpa using hj)] at hx
  simp only [List.length_map, Array.length_toList, List.getElem?_map, Array.getElem?_toList] at hx
  simp only [Array.toList_map, Array.toList_range, List.getElem?_map, List.getElem?_range hj, Option.map_some, Option.some.injEq] at hv
  rw [Array.getElem?_eq_getElem hm, Option.map_some, Option.some.injEq] at hx
  subst hx hv
  rw [getElem!_pos z (j % z.size) hm]
  exact RA.cst _

theorem Out.roRow (hH : HeapOk P A c d H n) (hA : ∀ b, c.w.heap.size ≤ b → A b) {e : TypeId} {arr : Array Value} {m : Bool} {ds : List D} {k : Nat} {d' : Nat} (hd : d ≤ d') (hk : k ≤ maxLen) (h0 : k = 0 → ds = []) (hall : ∀ (i : Nat) (x : D), ds[i]? = some x → ∃ u, arr[i]? = some u ∧ RD (Sm c.S0 c.S1 m) c.w d' x u) :
    Out P A c d H n [] (.rs m true ds k) (.slice (some ⟨c.w.heap.size, 0, none⟩) k k) (c.w.alloc (.cells arr e)) := by
  refine Out.ro hH hA _ ((Keeps.refl _ _).alloc _ (hA _ (Nat.le_refl _))) (fun k' hk' => heap_alloc_lt _ _ hk') (fun b => b = c.w.heap.size) (fun b hb => by subst hb; simp) _ _ (d' + 1) (by omega) ?_
  refine ⟨⟨_, _, rfl, Nat.le_refl _, hk, ?_⟩, fun _ => ⟨_, rfl⟩⟩
  by_cases hz : k = 0
  · exact .inl ⟨hz, h0 hz⟩
  · refine .inr ⟨hz, c.w.heap.size, 0, rfl, .inr (.inr rfl), arr, e, (0, 0), heap_alloc_new _ _, fun i x hx => ?_⟩
    obtain ⟨u, hu, hr⟩ := hall i x hx
    refine ⟨u, by simpa using hu, RD.imp (fun b hb => Or.imp (fun h => h) (fun h => Or.inl h) hb) (fun b hb => heap_alloc_lt _ _ (hH.S_lt hA (Or.imp (fun x => x.2) (fun x => x) hb))) _ _ _ hr⟩

theorem Out.lower {d' : Nat} (hd : d ≤ d') {H' : Nat → Option Blk} {n' : Nat} {ks : List Nat} {r : AV} {u : Value} {w' : World} (h : Out P A c d' H' n' ks r u w') : Out P A c d H' n' ks r u w' := by
  obtain ⟨h1, d2, S1', ρ', h2, h3, h4, h5⟩ := h
  exact ⟨h1, d2, S1', ρ', h2, by omega, h4, h5⟩

theorem foldl_size (off : Nat) : ∀ (us : List (Value × Nat)) (arr : Array Value), (us.foldl (fun (cs : Array Value) (x : Value × Nat) => cs.setIfInBounds (off + x.2) x.1) arr).size = arr.size
  | [], arr => rfl
  | u :: us, arr => by simp only [List.foldl_cons]; rw [foldl_size off us]; simp

theorem fill_size {place : Nat → Option (Nat × Nat)} : ∀ {ps : List (Nat × Value)} {arr arr' : Array Value}, Instr.fill place arr ps = some arr' → arr'.size = arr.size
  | [], arr, arr', h => by simp [Instr.fill] at h; rw [h]
  | (i, v) :: ps, arr, arr', h => by
    simp only [Instr.fill] at h
    split at h
    · cases h
    · rename_i off k _
      split at h
      · cases h
      · have := fill_size h
        rw [this, ← Array.foldl_toList]
        exact foldl_size off _ arr

theorem run_buildSlice {t e : TypeId} {i : TI} {ti : TypeInfo} {td : TypeDesc} {z : Value} (hu : P.underlying t = some (.slice e)) (hti : TyOk P e i ti td z) {k : Nat} (hlim : k * i.size ≤ 16777216) {ps' : List (Nat × Value)} {arr' : Array Value}
    (h1 : Instr.fill (fun j => some (j * i.size, i.size)) ((Array.range (k * i.size)).map (z.cells[· % z.cells.size]!)) ps' = some arr') :
    (Instr.buildSlice t k ps'.toArray).run P c.w = .ok (.slice (some ⟨c.w.heap.size, 0, none⟩) k k) (c.w.alloc (.cells arr' e)) := by
  have hn : ¬ (k * i.size > 16777216) := by omega
  by_cases h0 : k * i.size = 0
  · have hr0 : ∀ f : Nat → Value, (Array.range 0).map f = #[] := fun f => by apply Array.ext'; simp
    rw [h0, hr0] at h1
    simp [Instr.buildSlice, run_underlying hu, hti.run_size, h0, hr0, h1, newRow]
  · simp [Instr.buildSlice, run_underlying hu, hti.run_size, hn, h0, zeroValue, typeInfo, hti.info, hti.zero, h1, newRow]

theorem buildSliceK_ok (hH : HeapOk P A c d H n) (hA : ∀ b, c.w.heap.size ≤ b → A b) (hT : TOk P T) (hZ : ∀ t i, look T t = some i → i.zero.length = i.size) {own : Bool} {t : TypeId} {k : Nat} {ps : List (Nat × AV)} {ps' : List (Nat × Value)} (hp : Parts c d ps ps') {K : Kont} (h : buildSliceK T H n own t k ps K) :
    ∃ r H' n' ks u w', K r H' n' ks ∧ (Instr.buildSlice t k ps'.toArray).run P c.w = .ok u w' ∧ Out P A c d H' n' ks r u w' ∧ (own = false → H' = H ∧ n' = n ∧ ks = []) := by
  unfold buildSliceK at h
  split at h
  · exact h.elim
  · rename_i e i he
    obtain ⟨hu, ti, td, z, hti⟩ := elemT_spec hT he
    have hzl : i.zero.length = i.size := by
      unfold elemT at he
      split at he
      · split at he
        · rename_i i' hl'
          simp only [Option.some.injEq, Prod.mk.injEq] at he
          obtain ⟨rfl, rfl⟩ := he
          exact hZ _ _ hl'
        · cases he
      · cases he
    have hzs := zeroSize hti hzl
    cases hb : Nat.ble (k * i.size) 16777216 && !Nat.beq i.size 0 with
    | false => rw [hb] at h; exact h.elim
    | true =>
      rw [hb] at h
      simp only [cond_true] at h
      simp only [Bool.and_eq_true, Bool.not_eq_true'] at hb
      have hlim : k * i.size ≤ 16777216 := Nat.le_of_ble_eq_true hb.1
      have hpos : i.size ≠ 0 := fun e => by rw [e] at hb; cases hb.2
      split at h
      · rename_i cs hf
        have hz : All2 (RA c d) (repA i.zero k) ((Array.range (k * i.size)).map (z.cells[· % z.cells.size]!)).toList := by
          have := zeros_ok (c := c) (d := d) (z := z.cells) (k := k)
          rw [hzs] at this
          rw [hti.zs, hzs]; exact this
        obtain ⟨arr', h1, h2⟩ := fill_ok hz hp.1 hp.2 hf
        have hal : arr'.size = k * i.size := by rw [fill_size h1]; simp
        have hrun := run_buildSlice (c := c) hu hti hlim h1
        split at h
        · rename_i ds m hds
          have hd2 := toDs_ok h2 hds
          have hcl : ds.length = k * i.size := by
            rw [toDs_len hds]
            have := All2.length _ _ h2
            simp at this; omega
          have hall : ∀ (j : Nat) (x : D), ds[j]? = some x → ∃ u, arr'[j]? = some u ∧ RD (Sm c.S0 c.S1 m) c.w (d + 1) x u := fun j x hx => by
            obtain ⟨u, hu, hr⟩ := hd2.idx j x hx
            exact ⟨u, by simpa using hu, hr⟩
          have hkm : k ≤ maxLen := by
            have := Nat.le_mul_of_pos_right k (Nat.pos_of_ne_zero hpos)
            simp only [maxLen]; omega
          cases own with
          | true =>
            exact ⟨_, _, _, _, _, _, h, hrun, Out.lower (Nat.le_succ d) (Out.newRow (hH.le (Nat.le_succ d)) hA hti.cellsOf.symm hcl hal (Nat.le_refl _) hkm hall), fun hh => by cases hh⟩
          | false =>
            exact ⟨_, _, _, _, _, _, h, hrun, Out.roRow hH hA (Nat.le_succ d) hkm (fun h0 => List.eq_nil_of_length_eq_zero (by rw [hcl, h0, Nat.zero_mul])) hall, fun _ => ⟨rfl, rfl, rfl⟩⟩
        · exact h.elim
      · exact h.elim

/-! ### make, copy, conversions -/

theorem zerosD_ok {e : TypeId} {i : TI} {ti : TypeInfo} {td : TypeDesc} {z : Value} (hl : look T e = some i) (hti : TyOk P e i ti td z) (hzl : i.zero.length = i.size) {k m : Nat} (hkm : k ≤ m) {zs : List D} (h : zerosD T e k = some zs) :
    zs.length = k * i.size ∧ ∀ (j : Nat) (x : D), zs[j]? = some x → ∃ u, (madeCells z.cells (m * i.size))[j]? = some u ∧ RD (Sm c.S0 c.S1 false) c.w (d + 1) x u := by
  have hzs := zeroSize hti hzl
  have key : ∃ zs0, toDs i.zero = some (zs0, false) ∧ zs0.length = i.size ∧ zs = (List.replicate k zs0).flatten := by
    unfold zerosD at h
    rw [hl] at h
    simp only at h
    split at h
    · rename_i z0 hz0
      cases h
      refine ⟨[z0], hz0, by rw [toDs_len hz0, hzl], ?_⟩
      clear hz0
      induction k with
      | zero => rfl
      | succ k ih => simp only [List.replicate_succ, List.flatten_cons]; rw [← ih (by omega)]; rfl
    · rename_i zs0 _ hz0
      cases h
      exact ⟨_, hz0, by rw [toDs_len hz0, hzl], rfl⟩
    · cases h
  obtain ⟨zs0, hz0, hlen0, rfl⟩ := key
  have hall : All2 (RD (Sm c.S0 c.S1 false) c.w (d + 1)) zs0 z.cells.toList := toDs_ok (by rw [hti.zs]; exact All2.cst _) hz0
  have hflat : ∀ (k : Nat), (List.replicate k zs0).flatten.length = k * i.size := fun k => by
    induction k with
    | zero => simp
    | succ k ih => simp only [List.replicate_succ, List.flatten_cons, List.length_append, ih, hlen0, Nat.add_mul, Nat.one_mul]; omega
  refine ⟨hflat k, fun j x hx => ?_⟩
  have hj : j < k * i.size := by rw [← hflat k]; exact (List.getElem?_eq_some_iff.1 hx).1
  have hget : ∀ (k j : Nat), j < k * i.size → (List.replicate k zs0).flatten[j]? = zs0[j % i.size]? := fun k => by
    induction k with
    | zero => intro j hj; simp at hj
    | succ k ih =>
      intro j hj
      simp only [List.replicate_succ, List.flatten_cons]
      rcases Nat.lt_or_ge j i.size with h | h
      · rw [List.getElem?_append_left (by omega), Nat.mod_eq_of_lt h]
      · rw [List.getElem?_append_right (by omega), hlen0, ih _ (by rw [Nat.add_mul] at hj; omega), ← Nat.mod_eq_sub_mod h]
  rw [hget k j hj] at hx
  have hpos : 0 < i.size := by
    rcases Nat.eq_zero_or_pos i.size with h | h
    · rw [h] at hj; simp at hj
    · exact h
  obtain ⟨u, hu, hr⟩ := hall.idx _ x hx
  refine ⟨u, ?_, hr⟩
  have hj' : j < m * i.size := Nat.lt_of_lt_of_le hj (Nat.mul_le_mul_right _ hkm)
  have hlt : j % z.cells.size < z.cells.size := by rw [hzs]; exact Nat.mod_lt _ hpos
  unfold madeCells
  rw [Array.getElem?_map, Array.getElem?_range]
  rw [if_pos hj']
  simp only [Option.map_some, Option.some.injEq]
  rw [getElem!_pos z.cells _ hlt]
  rw [hzs] at hlt
  simp only [hzs]
  rw [Array.getElem?_toList] at hu
  exact (Array.getElem?_eq_some_iff.1 hu).2

theorem makeSliceK_ok (hH : HeapOk P A c d H n) (hA : ∀ b, c.w.heap.size ≤ b → A b) (hT : TOk P T) (hZ : ∀ t i, look T t = some i → i.zero.length = i.size) {t : TypeId} {l m : AV} {ul um : Value} (hl : RA c d l ul) (hm : RA c d m um) {K : Kont} (h : makeSliceK T H n t l m K) :
    ∃ r H' n' ks u w', K r H' n' ks ∧ (Instr.makeSlice t ul um).run P c.w = .ok u w' ∧ Out P A c d H' n' ks r u w' := by
  unfold makeSliceK at h
  split at h
  · exact h.elim
  · rename_i e i he
    have hle : look T e = some i := by
      unfold elemT at he
      split at he
      · split at he
        · rename_i i' hl'
          simp only [Option.some.injEq, Prod.mk.injEq] at he
          obtain ⟨rfl, rfl⟩ := he
          exact hl'
        · cases he
      · cases he
    obtain ⟨hu, _⟩ := elemT_spec hT he
    obtain ⟨ti, td, z, hti⟩ := hT.ty hle
    have hzl := hZ _ _ hle
    have hzs := zeroSize hti hzl
    obtain ⟨kl, kn, rfl, h⟩ := natK_ok hl h
    obtain ⟨km, mn, rfl, h⟩ := natK_ok hm h
    obtain ⟨hlm, hb, hmm, h⟩ := h
    split at h
    · rename_i zs hzd
      have hb' : mn * i.bytes ≤ 140737488355328 := by unfold sizeLim at hb; exact hb
      have hm' := intLim_eq hmm
      have hm2 : mn ≤ 9223372036854775807 := hm'
      have hb2 : (ti.bytes : Int) * (mn : Int) ≤ 281474976710656 := by
        rw [hti.bytes, ← Int.natCast_mul, Nat.mul_comm]; omega
      have hrun := run_make (P := P) c.w t e ti z hu hti.info hti.zero kl km (kn : Int) (mn : Int) (by omega) (by omega) hb2 (by omega)
      rw [hti.size, Int.toNat_natCast, Int.toNat_natCast] at hrun
      obtain ⟨h1, h2⟩ := zerosD_ok (c := c) (d := d) hle hti hzl hlm hzd
      exact ⟨_, _, _, _, _, _, h, hrun, Out.lower (Nat.le_succ d) (Out.newRow (hH.le (Nat.le_succ d)) hA hti.cellsOf.symm h1 (by rw [size_madeCells]) hlm hm' h2)⟩
    · exact h.elim
end

end Go.Qv
