/- PROVED: for every input the law FnExactFiltrationLine returns true and each argument reads afterwards as it read before (the statement 'FnExactFiltrationLineCardSaid' of the given Rows).
Conditions: none beyond those which the given statement itself names. This text is one part of the proof. -/
import Derived.Test.YtfcgjmbkcpeafaaGreatDoorMRead

/- The abstract machine: addresses, parts, slices of slices, conversions. -/
namespace Go.Qv
open Go Go.RowKit

theorem addS_eq (k s : Nat) : addS k s = k + s := by unfold addS; split <;> simp
theorem mulS_eq (k s : Nat) : mulS k s = k * s := by unfold mulS; split <;> simp

section
variable {P : Program} {A : Nat → Prop} {c : Ctx} {d : Nat} {H : Nat → Option Blk} {n : Nat} {T : TT}

theorem RA.op {id off : Nat} {u : Value} (h : RA c d (.op id off) u) : ∃ r, c.ρ id = some r ∧ r.virt = false ∧ u = .pointer (some ⟨r.g, off, none⟩) := by cases d <;> exact h
theorem RA.rp {m : Bool} {cs : List D} {off : Nat} {u : Value} (h : RA c d (.rp m cs off) u) : ∃ b o, u = .pointer (some ⟨b, o + off, none⟩) ∧ Cells (Sm c.S0 c.S1 m) c.w (RD (Sm c.S0 c.S1 m) c.w d) b o cs := by cases d <;> exact h
theorem RA.mk_op {id off : Nat} {r : Own} (h : c.ρ id = some r) (hv : r.virt = false) : RA c d (.op id off) (.pointer (some ⟨r.g, off, none⟩)) := by cases d <;> exact ⟨r, h, hv, rfl⟩
theorem RA.mk_rp {m : Bool} {cs : List D} {b o off : Nat} (h : Cells (Sm c.S0 c.S1 m) c.w (RD (Sm c.S0 c.S1 m) c.w d) b o cs) : RA c d (.rp m cs off) (.pointer (some ⟨b, o + off, none⟩)) := by cases d <;> exact ⟨b, o, rfl, h⟩
theorem RA.int' {k : IntKind} {z : Int} {u : Value} (h : RA c d (.int k z) u) : u = .int k z := by cases d <;> exact h
theorem RA.str' {s : List UInt8} {u : Value} (h : RA c d (.str s) u) : u = .string ⟨s.toArray⟩ := by cases d <;> exact h
theorem RA.ow {id m : Nat} {u : Value} (h : RA c d (.ow id m) u) : ∃ r, c.ρ id = some r ∧ r.n = m ∧ RO r m u := by cases d <;> exact h
theorem RA.os {id off m : Nat} {u : Value} (h : RA c d (.os id off m) u) : ∃ r, c.ρ id = some r ∧ ROS r off m u := by cases d <;> exact h
theorem RA.mk_os {id off m : Nat} {u : Value} {r : Own} (h : c.ρ id = some r) (h2 : ROS r off m u) : RA c d (.os id off m) u := by cases d <;> exact ⟨r, h, h2⟩
theorem RA.mk_ow {id m : Nat} {u : Value} {r : Own} (h : c.ρ id = some r) (hn : r.n = m) (h2 : RO r m u) : RA c d (.ow id m) u := by cases d <;> exact ⟨r, h, hn, h2⟩
theorem RA.rs {m x : Bool} {cs : List D} {k : Nat} {u : Value} (h : RA c d (.rs m x cs k) u) : RD (Sm c.S0 c.S1 m) c.w d (.sl cs k) u ∧ (x = true → ∃ a, u = .slice a k k) := by cases d <;> exact h
theorem RA.mk_rs {m : Bool} {cs : List D} {k : Nat} {u : Value} (h : RD (Sm c.S0 c.S1 m) c.w d (.sl cs k) u) : RA c d (.rs m false cs k) u := by cases d <;> exact ⟨h, fun h => by cases h⟩

theorem fieldAddrK_ok (hT : TOk P T) {s : TypeId} {f : Nat} {x : AV} {u : Value} (hx : RA c d x u) {K : AV → Prop} (hk : fieldAddrK T s x f K) : ∃ r v, K r ∧ (Instr.fieldAt s u f).run P c.w = .ok v c.w ∧ RA c d r v := by
  unfold fieldAddrK at hk
  split at hk
  · exact hk.elim
  · rename_i ty o hf
    split at hk
    · exact hk.elim
    · rename_i i hl
      obtain ⟨fl, hu, fd, hfd, rfl, rfl⟩ := fieldOff_spec hT hf
      obtain ⟨ti, td, z, ht⟩ := hT.ty hl
      cases h0 : Nat.beq i.size 0 with
      | true => rw [h0] at hk; exact hk.elim
      | false =>
        rw [h0] at hk
        have h0' : i.size ≠ 0 := fun e => by rw [e] at h0; cases h0
        have hrun : ∀ b o, (Instr.fieldAt s (.pointer (some ⟨b, o, none⟩)) f).run P c.w = .ok (.pointer (some ⟨b, o + fd.offset, none⟩)) c.w := fun b o => by
          simp [Instr.fieldAt, run_underlying hu, hfd, Instr.sureAddr, fieldPlace, ht.run_size, h0', add_none]
        simp only [cond_false] at hk
        split at hk
        · rename_i id off
          obtain ⟨r, hr, hv, rfl⟩ := hx.op
          exact ⟨_, _, hk, hrun _ _, by rw [addS_eq]; exact RA.mk_op hr hv⟩
        · rename_i m cs off
          obtain ⟨b, o, rfl, hc⟩ := hx.rp
          exact ⟨_, _, hk, hrun _ _, by rw [addS_eq, Nat.add_assoc]; exact RA.mk_rp hc⟩
        · exact hk.elim

theorem partK_ok (hT : TOk P T) {t : TypeId} {cs : List AV} {off : Nat} {vs : List Value} (hx : All2 (RA c d) cs vs) {K : AV → Prop} (hk : partK T t cs off K) : ∃ r v, K r ∧ (part t vs.toArray off).run P c.w = .ok v c.w ∧ RA c (d + 1) r v := by
  unfold partK at hk
  split at hk
  · exact hk.elim
  · rename_i i hl
    obtain ⟨ti, td, z, ht⟩ := hT.ty hl
    have hag := ht.run_isAgg (w := c.w)
    cases hgt : isAggT i.d with
    | true =>
      rw [hgt] at hk hag
      simp only [cond_true] at hk
      split at hk
      · rename_i l hl'
        have hsp := getNA_spec hl' hx
        refine ⟨_, .agg ((vs.drop off).take i.size).toArray, hk, ?_, ⟨_, rfl, hsp.1⟩⟩
        simp only [part, Sem.run_bind, hag, Result.andThen_ok, if_true, ht.run_size, Sem.run_pure]
        congr 2
        apply Array.ext'
        simp [List.extract_eq_take_drop]
      · exact hk.elim
    | false =>
      rw [hgt] at hk hag
      simp only [cond_false] at hk
      split at hk
      · rename_i v hn
        rw [nth_eq] at hn
        obtain ⟨z', hz', hr'⟩ := All2.get _ _ _ _ hx hn
        exact ⟨_, z', hk, by simp [part, hag, hz'], RA.up _ _ _ hr'⟩
      · exact hk.elim

theorem fieldK_ok (hT : TOk P T) {s : TypeId} {f : Nat} {x : AV} {u : Value} (hx : RA c d x u) {K : AV → Prop} (hk : fieldK T s x f K) : ∃ r v, K r ∧ (Instr.field s u f).run P c.w = .ok v c.w ∧ RA c (d + 1) r v := by
  unfold fieldK at hk
  split at hk
  · rename_i t o cs hf
    obtain ⟨fl, hu, fd, hfd, rfl, rfl⟩ := fieldOff_spec hT hf
    cases d with
    | zero => exact hx.elim
    | succ d =>
      obtain ⟨vs, rfl, hall⟩ := hx
      obtain ⟨r, v, h1, h2, h3⟩ := partK_ok hT hall hk
      exact ⟨r, v, h1, by simp [Instr.field, run_underlying hu, hfd, asAgg, h2], RA.up _ _ _ h3⟩
  · exact hk.elim

theorem run_indexAt_slice {t e : TypeId} (hu : P.underlying t = some (.slice e)) {sz : Nat} (hs : (sizeOf e).run P c.w = .ok sz c.w) {b o len cap : Nat} {k : Nat} {kk : IntKind} (hk : k < len) :
    (Instr.indexAt t (.slice (some ⟨b, o, none⟩) len cap) (.int kk (k : Int))).run P c.w = .ok (.pointer (some ⟨b, o + k * sz, none⟩)) c.w := by
  have h1 : (0 : Int) ≤ (k : Int) ∧ (k : Int) < (len : Int) := by omega
  simp [Instr.indexAt, asIntOf, run_underlying hu, h1, hs, add_none]
  intro h; omega

theorem run_indexAt_array {t e : TypeId} {len : Nat} (hu : P.underlying t = some (.array len e)) {sz : Nat} (hs : (sizeOf e).run P c.w = .ok sz c.w) {b o : Nat} {k : Nat} {kk : IntKind} (hk : k < len) :
    (Instr.indexAt t (.pointer (some ⟨b, o, none⟩)) (.int kk (k : Int))).run P c.w = .ok (.pointer (some ⟨b, o + k * sz, none⟩)) c.w := by
  have h1 : (0 : Int) ≤ (k : Int) ∧ (k : Int) < (len : Int) := by omega
  simp [Instr.indexAt, Instr.sureAddr, asIntOf, run_underlying hu, h1, hs, add_none]
  intro h; omega

theorem indexAddrK_ok (hT : TOk P T) {t : TypeId} {x i : AV} {u ui : Value} (hx : RA c d x u) (hi : RA c d i ui) {K : AV → Prop} (hk : indexAddrK T t x i K) : ∃ r v, K r ∧ (Instr.indexAt t u ui).run P c.w = .ok v c.w ∧ RA c d r v := by
  unfold indexAddrK at hk
  split at hk
  · rename_i kk z
    have := hi.int'; subst this
    split at hk
    · rename_i e _ _ _ hl
      obtain ⟨ti, td, zz, ht⟩ := hT.ty hl
      have hu := ht.slice rfl
      split at hk
      · exact hk.elim
      · rename_i te hle
        obtain ⟨ti2, td2, z2, ht2⟩ := hT.ty hle
        have hs := ht2.run_size (w := c.w)
        split at hk
        · rename_i m _ cs len
          obtain ⟨k, rfl, hlt, hk⟩ := hk
          obtain ⟨hrd, _⟩ := hx.rs
          cases d with
          | zero => exact hrd.elim
          | succ d =>
            obtain ⟨a, cap, rfl, _, _, h4⟩ := hrd
            rcases h4 with ⟨h0, _⟩ | ⟨_, b, o, rfl, hc⟩
            · omega
            · refine ⟨_, _, hk, run_indexAt_slice hu hs hlt, ?_⟩
              rw [mulS_eq]
              exact RA.mk_rp (hc.imp (fun _ h => h) (fun _ _ => rfl) fun _ _ => RD.up _ _ _)
        · rename_i id len
          obtain ⟨k, rfl, hlt, hk⟩ := hk
          obtain ⟨r, hr, _, hro⟩ := hx.ow
          rcases hro with ⟨_, h0, _⟩ | ⟨hv, cap, rfl, _⟩
          · omega
          · refine ⟨_, _, hk, run_indexAt_slice hu hs hlt, ?_⟩
            rw [mulS_eq, Nat.zero_add]
            exact RA.mk_op hr hv
        · rename_i id off len
          obtain ⟨k, rfl, hlt, hk⟩ := hk
          obtain ⟨r, hr, a, cap, rfl, _, _, h4⟩ := hx.os
          rcases h4 with h0 | ⟨hv, rfl, _⟩
          · omega
          · refine ⟨_, _, hk, run_indexAt_slice hu hs hlt, ?_⟩
            rw [mulS_eq]
            exact RA.mk_op hr hv
        · exact hk.elim
    · rename_i len e _ _ _ hl
      obtain ⟨ti, td, zz, ht⟩ := hT.ty hl
      have hu := ht.array rfl
      split at hk
      · exact hk.elim
      · rename_i te hle
        obtain ⟨ti2, td2, z2, ht2⟩ := hT.ty hle
        have hs := ht2.run_size (w := c.w)
        cases hb : Nat.ble len 1 with
        | true => rw [hb] at hk; exact hk.elim
        | false =>
          rw [hb] at hk
          simp only [cond_false] at hk
          split at hk
          · obtain ⟨k, rfl, hlt, hk⟩ := hk
            obtain ⟨r, hr, hv, rfl⟩ := hx.op
            refine ⟨_, _, hk, run_indexAt_array hu hs hlt, ?_⟩
            rw [mulS_eq, addS_eq]
            exact RA.mk_op hr hv
          · obtain ⟨k, rfl, hlt, hk⟩ := hk
            obtain ⟨b, o, rfl, hc⟩ := hx.rp
            refine ⟨_, _, hk, run_indexAt_array hu hs hlt, ?_⟩
            rw [mulS_eq, addS_eq, Nat.add_assoc]
            exact RA.mk_rp hc
          · exact hk.elim
    · exact hk.elim
  · exact hk.elim

theorem indexK_ok (hT : TOk P T) {t : TypeId} {x i : AV} {u ui : Value} (hx : RA c d x u) (hi : RA c d i ui) {K : AV → Prop} (hk : indexK T t x i K) : ∃ r v, K r ∧ (Instr.index t u ui).run P c.w = .ok v c.w ∧ RA c (d + 1) r v := by
  unfold indexK at hk
  split at hk
  · rename_i s kk z
    have := hi.int'; subst this
    have := hx.str'; subst this
    split at hk
    · rename_i hl
      obtain ⟨ti, td, zz, ht⟩ := hT.ty hl
      have hu := ht.str rfl
      obtain ⟨k, b, rfl, hb, hk⟩ := hk
      refine ⟨_, .int .u8 b.toNat, hk, ?_, by simp [RA]⟩
      have hlt := (List.getElem?_eq_some_iff.1 hb)
      obtain ⟨hlt, hbb⟩ := hlt
      have h0 : (0 : Int) ≤ (k : Int) := by omega
      have hget : (ByteArray.mk s.toArray)[k]? = some b := by
        rw [getElem?_pos (ByteArray.mk s.toArray) k (by simpa [ByteArray.size] using hlt)]
        exact congrArg some hbb
      simp [Instr.index, asIntOf, run_underlying hu, h0, hget]
    · exact hk.elim
  · rename_i cs kk z
    have := hi.int'; subst this
    split at hk
    · rename_i len e _ _ _ hl
      obtain ⟨ti, td, zz, ht⟩ := hT.ty hl
      have hu := ht.array rfl
      split at hk
      · exact hk.elim
      · rename_i te hle
        obtain ⟨ti2, td2, z2, ht2⟩ := hT.ty hle
        have hs := ht2.run_size (w := c.w)
        obtain ⟨k, rfl, hlt, hk⟩ := hk
        cases d with
        | zero => exact hx.elim
        | succ d =>
          obtain ⟨vs, rfl, hall⟩ := hx
          obtain ⟨r, v, h1, h2, h3⟩ := partK_ok hT hall hk
          rw [mulS_eq] at h2
          have h1' : (0 : Int) ≤ (k : Int) ∧ (k : Int) < (len : Int) := by omega
          exact ⟨r, v, h1, by simp [Instr.index, asIntOf, run_underlying hu, h1', hs, h2]; intro h; omega, RA.up _ _ _ h3⟩
    · exact hk.elim
  · exact hk.elim
end

end Go.Qv
