/- PROVED: for every input the law FnExactFiltrationLine returns true and each argument reads afterwards as it read before (the statement 'FnExactFiltrationLineCardSaid' of the given Rows).
Conditions: none beyond those which the given statement itself names. This text is one part of the proof. -/
import Derived.Test.YtfcgjmbkcpeafaaGreatDoorFuLine
import Derived.Test.YtfcgjmbkcpeafaaGreatDoorRows
import Derived.ProofKit
import Derived.LaidMore
import Derived.OpenShut
import Derived.Stop.Joined
import Derived.Carry
import Derived.Below
import Derived.ChangeSame
import Derived.Deep.Matrix
import Derived.Lib.SmallJoins

namespace Go.Qt
open Go Go.Qv Go.Proofs Go.ChangeShapes Go.WideShapes Go.ChangeAt Go.RowKit
set_option maxRecDepth 100000

theorem own : ownKnob Tryz.prog.godebug = none := by kernel_rfl
theorem laidOut : laidOutB Tryz.prog = true := by kernel_rfl
theorem c3 : Tryz.prog.cellsOf 3 = 1 := by kernel_rfl
theorem c22 : Tryz.prog.cellsOf 22 = 1 := by kernel_rfl
theorem c25 : Tryz.prog.cellsOf 25 = 3 := by kernel_rfl

/-- A cell that is known lies in a block, at no spot. -/
theorem cell_block {w : World} {a : Addr} {v : Value} (h : w.cell? a = some v) : a.spot = none ∧ ∃ arr e fr, w.heap[a.block]? = some (.cells arr e fr) ∧ arr[a.off]? = some v := by
  unfold World.cell? at h
  split at h
  · rename_i c e fr hb
    cases hs : a.spot with
    | none => rw [hs] at h; exact ⟨rfl, c, e, fr, hb, by simpa using h⟩
    | some s => rw [hs] at h; simp at h
  · cases h
theorem spot_none {b o : Nat} {sp : Option Nat} (hs : ((⟨b, o, sp⟩ : Addr).add 0).spot = none) : sp = none := by
  cases sp with
  | none => rfl
  | some s => simp [Addr.add] at hs
theorem rd_ints {S : Nat → Prop} {w : World} {d : Nat} (hS : ∀ b, b < w.heap.size → S b) {a : Option Addr} {len cap : Nat} {zs : List Int} (hl : len ≤ cap) (hm : cap ≤ maxLen) (hz : len ≤ zs.length)
    (h : ∀ a', a = some a' → ∀ i, i < len → w.cell? (a'.add i) = some (.int .i64 (zs.getD i 0))) (hn : a = none → len = 0) : RD S w (d + 1) (.sl (ints (zs.take len)) len) (.slice a len cap) := by
  refine ⟨a, cap, rfl, hl, hm, ?_⟩
  by_cases h0 : len = 0
  · subst h0; exact .inl ⟨rfl, rfl⟩
  · refine .inr ⟨h0, ?_⟩
    cases a with
    | none => exact absurd (hn rfl) h0
    | some a' =>
      obtain ⟨hs, arr, e, fr, hb, h1⟩ := cell_block (h a' rfl 0 (by omega))
      obtain ⟨b, o, sp⟩ := a'
      have hsp : sp = none := by
        exact spot_none hs
      subst hsp
      have hbk : ((⟨b, o, none⟩ : Addr).add 0).block = b := by rw [Addr.add_lit]
      rw [hbk] at hb
      refine ⟨b, o, rfl, hS b (Array.getElem?_eq_some_iff.1 hb).1, arr, e, fr, hb, fun i x hx => ?_⟩
      have hil : i < (zs.take len).length := by
        have := (List.getElem?_eq_some_iff.1 hx).1
        rwa [ints_len] at this
      have hi : i < len := by simp at hil; omega
      have hc := h _ rfl i hi
      rw [Addr.add_lit] at hc
      simp only [World.cell?, hb] at hc
      refine ⟨_, hc, ?_⟩
      rw [ints_get hil] at hx
      cases hx
      have e : (zs.take len)[i] = zs.getD i 0 := by simp [show i < zs.length by omega]
      cases d <;> (show _ = _; rw [e])
theorem ra_arg {H : Type} {enc : TypeId × Value → H} {w : World} {base : Nat} {v : Value} {d : DataW H} {p : List MemPlace} (hv : Value.okWide Tryz.prog w .any base 25 v) (h : DataW.Trod enc Tryz.prog w 0 (fun _ => true) true 25 v d p) :
    ∃ s b es, RA ⟨w, fun b => b < w.heap.size, fun _ => False, fun _ => none⟩ 3 (flA s b es) v := by
  obtain ⟨v0, v1, v2, y0, y1, y2, n, rfl, _, _, h0, h1, h2⟩ := Joins.open_agg3 Tryz.underlying25 (by kernel_rfl) c25 hv h
  obtain ⟨s, e0, _, _⟩ := DataW.trod_int Tryz.underlying3 h0
  cases e0
  have hS : ∀ b, b < w.heap.size → Sm (fun b => b < w.heap.size) (fun _ => False) true b := fun b hb => .inl ⟨rfl, hb⟩
  have hb : ∃ b : List Int, RD (Sm (fun b => b < w.heap.size) (fun _ => False) true) w 2 (.sl (ints b) b.length) v1 := by
    rcases open_ints Tryz.underlying22 Tryz.underlying3 c3 h1 with ⟨e1, _⟩ | ⟨a, len, cap, zs, e1, _, hl, hm, hz, _, hc, _⟩
    · cases e1
      exact ⟨[], none, 0, rfl, Nat.le_refl _, Nat.zero_le _, .inl ⟨rfl, rfl⟩⟩
    · cases e1
      simp only [if_true] at hz
      refine ⟨zs.take len, ?_⟩
      have hlen : (zs.take len).length = len := by rw [List.length_take]; omega
      rw [hlen]
      exact rd_ints (d := 1) hS hl hm (by omega) (fun a' ha i hi => by cases ha; exact hc i (by omega)) (fun ha => by cases ha)
  have he : ∃ es : List (List Int), RD (Sm (fun b => b < w.heap.size) (fun _ => False) true) w 2 (.sl (rows es) es.length) v2 := by
    rcases Deep.open_int_rows Tryz.underlying23 Tryz.underlying22 Tryz.underlying3 c22 c3 h2 with ⟨e1, _⟩ | ⟨a, len, cap, A, L, C, Z, e1, _, hl, hm, _, hc⟩
    · cases e1
      exact ⟨[], none, 0, rfl, Nat.le_refl _, Nat.zero_le _, .inl ⟨rfl, rfl⟩⟩
    · cases e1
      refine ⟨(List.range len).map fun r => (Z r).take (L r), ?_⟩
      rw [List.length_map, List.length_range]
      refine ⟨some a, cap, rfl, hl, hm, ?_⟩
      by_cases h0 : len = 0
      · subst h0; exact .inl ⟨rfl, rfl⟩
      · refine .inr ⟨h0, ?_⟩
        obtain ⟨hs, arr, e, fr, hb, _⟩ := cell_block (hc 0 (by omega)).1
        obtain ⟨b, o, sp⟩ := a
        have hsp : sp = none := by
          exact spot_none hs
        subst hsp
        have hbk : ((⟨b, o, none⟩ : Addr).add 0).block = b := by rw [Addr.add_lit]
        rw [hbk] at hb
        refine ⟨b, o, rfl, hS b (Array.getElem?_eq_some_iff.1 hb).1, arr, e, fr, hb, fun i x hx => ?_⟩
        have hi : i < len := by
          have := (List.getElem?_eq_some_iff.1 hx).1
          simpa [rows] using this
        obtain ⟨k1, k2, k3, k4, k5, k6, k7⟩ := hc i (by omega)
        rw [Addr.add_lit] at k1
        simp only [World.cell?, hb] at k1
        refine ⟨_, k1, ?_⟩
        have hx2 : x = .sl (ints ((Z i).take (L i))) (L i) := by
          simp only [rows, List.map_map, List.getElem?_map, List.getElem?_range hi, Option.map_some, Option.some.injEq] at hx
          rw [← hx]
          show D.sl (ints ((Z i).take (L i))) ((Z i).take (L i)).length = _
          rw [List.length_take]
          congr 1
          omega
        rw [hx2]
        exact rd_ints (d := 0) hS k2 k3 (by omega) (fun a' ha c hcL => (k7 a' ha).2 c (by omega)) (fun ha => by have := k6 ha; omega)
  obtain ⟨b, hb⟩ := hb
  obtain ⟨es, he⟩ := he
  exact ⟨s, b, es, [.int .i64 s, v1, v2], rfl, rfl, ⟨hb, fun h => by cases h⟩, ⟨he, fun h => by cases h⟩, trivial⟩
end Go.Qt
