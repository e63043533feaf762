/- PROVED: for every input the law FnExactFiltrationLine returns true and each argument reads afterwards as it read before (the statement 'FnExactFiltrationLineCardSaid' of the given Rows).
Conditions: none beyond those which the given statement itself names. This text is one part of the proof. -/
import Derived.Test.YtfcgjmbkcpeafaaGreatDoorMWp
import Derived.Tactics2
import Derived.WalkLawsBesides
import Derived.Deep.AppendSrc

/- The abstract machine: operations that leave memory alone do what they say. -/
namespace Go.Qv
open Go Go.RowKit

mutual
theorem killV_nil : ∀ v : AV, killV [] v = v
  | .any | .und | .nils | .nilp | .bool _ | .int _ _ | .str _ | .rs _ _ _ _ | .rp _ _ _ | .fs _ _ _ _ => by simp [killV]
  | .ow _ _ | .os _ _ _ | .op _ _ => by simp [killV, memB]
  | .agg cs => by simp only [killV]; rw [killL_nil cs]
  | .tup cs => by simp only [killV]; rw [killL_nil cs]
  | .fn f cs => by simp only [killV]; rw [killL_nil cs]
theorem killL_nil : ∀ l : List AV, killL [] l = l
  | [] => by simp [killL]
  | v :: r => by simp only [killL]; rw [killV_nil v, killL_nil r]
end

theorem killB_nil (b : Blk) : killB [] b = b := by cases b <;> simp [killB, killL_nil]

theorem RA.cst {c : Ctx} {d : Nat} : ∀ v : Value, RA c d (constA v) v
  | .bool b => by cases d <;> simp [constA, RA]
  | .int k n => by cases d <;> simp [constA, RA]
  | .string s => by cases d <;> simp [constA, RA]
  | .pointer none => by cases d <;> simp [constA, RA]
  | .pointer (some _) => by cases d <;> simp [constA, RA]
  | .slice none 0 0 => by cases d <;> simp [constA, RA]
  | .slice none 0 (n + 1) => by cases d <;> simp [constA, RA]
  | .slice none (n + 1) _ => by cases d <;> simp [constA, RA]
  | .slice (some _) _ _ => by cases d <;> simp [constA, RA]
  | .float _ _ => by cases d <;> simp [constA, RA]
  | .complex _ _ _ => by cases d <;> simp [constA, RA]
  | .map _ => by cases d <;> simp [constA, RA]
  | .chan _ => by cases d <;> simp [constA, RA]
  | .func _ _ _ => by cases d <;> simp [constA, RA]
  | .nilFunc => by cases d <;> simp [constA, RA]
  | .iface _ _ => by cases d <;> simp [constA, RA]
  | .nilIface => by cases d <;> simp [constA, RA]
  | .agg _ => by cases d <;> simp [constA, RA]
  | .tuple _ => by cases d <;> simp [constA, RA]

theorem RA.ev {c : Ctx} {d : Nat} {f : Nat → AV} {a : Act} (h : ∀ t, RA c d (f t) (a.tmps.getD t undef)) (x : Operand) : RA c (d + 1) (evA f x) (a.eval x) := by
  cases x with
  | tmp t => exact RA.up _ _ _ (h t)
  | const v => exact RA.cst v
  | global g => simp [evA, RA]
  | func g => simp only [evA, RA]; exact ⟨[], rfl, trivial⟩

/-! ### The types -/

def toTD : TypeDesc → TD
  | .bool => .bool
  | .int k => .int k
  | .string => .str
  | .pointer e => .ptr e
  | .slice e => .slice e
  | .array n e => .array n e
  | .struct fs => .struct (fs.toList.map fun f => (f.type, f.offset))
  | _ => .other

def tiOf (P : Program) (t : TypeId) : Option TI :=
  match P.info? t, P.underlying t with
  | some ti, some d => (match ti.zero with
    | some z => some ⟨toTD d, ti.size, ti.bytes, z.cells.toList.map constA⟩
    | none => none)
  | _, _ => none

def TOk (P : Program) (T : TT) : Prop := T.map (fun x => tiOf P x.1) = T.map (fun x => some x.2)

theorem TOk.look {P : Program} : ∀ {T : TT} (_ : TOk P T) {t : TypeId} {i : TI}, look T t = some i → tiOf P t = some i
  | [], _, t, i, h => by simp [Qv.look] at h
  | (u, j) :: r, hT, t, i, h => by
    simp only [TOk, List.map_cons, List.cons.injEq] at hT
    simp only [Qv.look] at h
    cases hut : Nat.beq u t with
    | true => simp only [hut, cond_true, Option.some.injEq] at h; rw [← h, ← Nat.eq_of_beq_eq_true hut]; exact hT.1
    | false => simp only [hut, cond_false] at h; exact TOk.look hT.2 h

structure TyOk (P : Program) (t : TypeId) (i : TI) (ti : TypeInfo) (td : TypeDesc) (z : Value) : Prop where
  info : P.info? t = some ti
  und : P.underlying t = some td
  d : i.d = toTD td
  size : ti.size = i.size
  bytes : ti.bytes = i.bytes
  zero : ti.zero = some z
  zs : i.zero = z.cells.toList.map constA

theorem tiOf_spec {P : Program} {t : TypeId} {i : TI} (h : tiOf P t = some i) : ∃ ti td z, TyOk P t i ti td z := by
  unfold tiOf at h
  split at h
  · rename_i ti td h1 h2
    split at h
    · rename_i z h3
      simp only [Option.some.injEq] at h
      subst h
      exact ⟨ti, td, z, h1, h2, rfl, rfl, rfl, h3, rfl⟩
    · cases h
  · cases h

theorem TOk.ty {P : Program} {T : TT} (hT : TOk P T) {t : TypeId} {i : TI} (h : Qv.look T t = some i) : ∃ ti td z, TyOk P t i ti td z := tiOf_spec (hT.look h)

section
variable {P : Program} {w : World} {t : TypeId} {i : TI} {ti : TypeInfo} {td : TypeDesc} {z : Value}
theorem TyOk.run_und (h : TyOk P t i ti td z) : (underlying t).run P w = .ok td w := run_underlying h.und w
theorem TyOk.run_size (h : TyOk P t i ti td z) : (sizeOf t).run P w = .ok i.size w := by simp [sizeOf, typeInfo, h.info, h.size]
theorem TyOk.run_isAgg (h : TyOk P t i ti td z) : (isAgg t).run P w = .ok (isAggT i.d) w := by
  simp only [isAgg, Sem.run_bind, h.run_und, Result.andThen_ok, h.d]
  cases td <;> simp [toTD, isAggT]
theorem TyOk.slice (h : TyOk P t i ti td z) {e : TypeId} (hd : i.d = .slice e) : P.underlying t = some (.slice e) := by
  have := h.d; rw [hd] at this
  cases td <;> simp [toTD] at this
  subst this; exact h.und
theorem TyOk.str (h : TyOk P t i ti td z) (hd : i.d = .str) : P.underlying t = some .string := by
  have := h.d; rw [hd] at this
  cases td <;> simp [toTD] at this
  exact h.und
theorem TyOk.bool (h : TyOk P t i ti td z) (hd : i.d = .bool) : P.underlying t = some .bool := by
  have := h.d; rw [hd] at this
  cases td <;> simp [toTD] at this
  exact h.und
theorem TyOk.int (h : TyOk P t i ti td z) {k : IntKind} (hd : i.d = .int k) : P.underlying t = some (.int k) := by
  have := h.d; rw [hd] at this
  cases td <;> simp [toTD] at this
  subst this; exact h.und
theorem TyOk.array (h : TyOk P t i ti td z) {n : Nat} {e : TypeId} (hd : i.d = .array n e) : P.underlying t = some (.array n e) := by
  have := h.d; rw [hd] at this
  cases td <;> simp [toTD] at this
  obtain ⟨rfl, rfl⟩ := this; exact h.und
theorem TyOk.struct (h : TyOk P t i ti td z) {fs : List (TypeId × Nat)} (hd : i.d = .struct fs) : ∃ fl, P.underlying t = some (.struct fl) ∧ fs = fl.toList.map fun f => (f.type, f.offset) := by
  have := h.d; rw [hd] at this
  cases td <;> simp [toTD] at this
  exact ⟨_, h.und, this⟩
end

/-! ### Numbers, texts, Bools -/

theorem kEq_eq {k k' : IntKind} (h : kEq k k' = true) : k = k' := by cases k <;> cases k' <;> first | rfl | cases h

theorem arithK_ok {c : Ctx} {d : Nat} {P : Program} {op : BinOp} {k : IntKind} {a b : Int} {t : TypeId} {K : AV → Prop} (h : arithK op k a b K) : ∃ r z, K r ∧ (binOp op t (.int k a) (.int k b)).run P c.w = .ok z c.w ∧ RA c d r z := by
  cases op <;> simp only [arithK] at h <;> first
    | exact h.elim
    | (obtain ⟨h0, h⟩ := h; exact ⟨_, _, h, by simp only [binOp, ne_eq, not_true_eq_false, if_false, Op.intDiv, h0]; rfl, by cases d <;> simp only [RA]⟩)
    | (exact ⟨_, _, h, by simp only [binOp, ne_eq, not_true_eq_false, if_false]; rfl, by cases d <;> simp only [RA] <;> rfl⟩)

theorem eqGuard_int {P : Program} {w : World} (op : BinOp) (t : TypeId) (x y : Operand) (k k' : IntKind) (a b : Int) : (eqGuard op t x y (.int k a) (.int k' b)).run P w = .ok () w := by
  cases op <;> simp [eqGuard]
theorem eqGuard_str {P : Program} {w : World} (op : BinOp) (t : TypeId) (x y : Operand) (a b : ByteArray) : (eqGuard op t x y (.string a) (.string b)).run P w = .ok () w := by
  cases op <;> simp [eqGuard]
theorem eqGuard_bool {P : Program} {w : World} (op : BinOp) (t : TypeId) (x y : Operand) (a b : Bool) : (eqGuard op t x y (.bool a) (.bool b)).run P w = .ok () w := by
  cases op <;> simp [eqGuard]

theorem run_equalIn_bool {P : Program} {w : World} {t : TypeId} (hb : P.underlying t = some .bool) (d : Nat) (a b : Bool) : (Op.equalIn (d + 1) t (.bool a) (.bool b)).run P w = .ok (a == b) w := by
  simp [Op.equalIn, run_underlying hb]
theorem run_eql_bool {P : Program} {w : World} {t : TypeId} (hb : P.underlying t = some .bool) (a b : Bool) : (binOp .eql t (.bool a) (.bool b)).run P w = .ok (.bool (a == b)) w := by
  have h := run_equalIn_bool (w := w) hb 9999 a b
  simp only [binOp, Op.equal, Op.maxDepth, Sem.run_bind, h, Result.andThen_ok, Sem.run_pure]
theorem run_neq_bool {P : Program} {w : World} {t : TypeId} (hb : P.underlying t = some .bool) (a b : Bool) : (binOp .neq t (.bool a) (.bool b)).run P w = .ok (.bool !(a == b)) w := by
  have h := run_equalIn_bool (w := w) hb 9999 a b
  simp only [binOp, Op.equal, Op.maxDepth, Sem.run_bind, h, Result.andThen_ok, Sem.run_pure]
theorem run_add_str {P : Program} {w : World} {t : TypeId} (a b : List UInt8) (h : a.length + b.length ≤ intLim) : (binOp .add t (.string ⟨a.toArray⟩) (.string ⟨b.toArray⟩)).run P w = .ok (.string ⟨(a ++ b).toArray⟩) w := by
  have e : IntKind.i64.max = 9223372036854775807 := by decide
  have ha : (ByteArray.mk a.toArray).size = a.length := by simp [ByteArray.size]
  have hb : (ByteArray.mk b.toArray).size = b.length := by simp [ByteArray.size]
  have h1 : ¬ ((((ByteArray.mk a.toArray).size + (ByteArray.mk b.toArray).size : Nat) : Int) > IntKind.i64.max) := by
    rw [e, ha, hb]; unfold intLim at h; omega
  have h2 : ByteArray.mk a.toArray ++ ByteArray.mk b.toArray = ByteArray.mk (a ++ b).toArray := by
    apply ByteArray.ext
    simp [ByteArray.data_append]
  simp only [binOp, Op.stringOp, h1, if_false, Sem.run_pure, h2]

theorem binK_ok {c : Ctx} {d : Nat} {P : Program} {T : TT} (hT : TOk P T) {op : BinOp} {t : TypeId} {x y : AV} {u v : Value} (hx : RA c d x u) (hy : RA c d y v) {K : AV → Prop} (h : binK T op t x y K) (xo yo : Operand) :
    ∃ r z, K r ∧ (do eqGuard op t xo yo u v; binOp op t u v : Sem Value).run P c.w = .ok z c.w ∧ RA c d r z := by
  unfold binK at h
  split at h
  · rename_i k a k2 b
    have hu : u = .int k a := by cases d <;> exact hx
    have hv : v = .int k2 b := by cases d <;> exact hy
    subst hu hv
    simp only [Sem.run_bind, eqGuard_int, Result.andThen_ok]
    split at h
    · obtain ⟨h0, h⟩ := h
      have h0' : ¬ b < 0 := by omega
      exact ⟨_, _, h, by simp only [binOp, Op.shift, h0', if_false]; rfl, by cases d <;> simp only [RA]⟩
    · obtain ⟨h0, h⟩ := h
      have h0' : ¬ b < 0 := by omega
      exact ⟨_, _, h, by simp only [binOp, Op.shift, h0', if_false]; rfl, by cases d <;> simp only [RA]⟩
    · cases hk : kEq k k2 with
      | false => rw [hk] at h; exact h.elim
      | true =>
        rw [hk] at h
        have := kEq_eq hk
        subst this
        exact arithK_ok h
  · rename_i a b
    have hu : u = .string ⟨a.toArray⟩ := by cases d <;> exact hx
    have hv : v = .string ⟨b.toArray⟩ := by cases d <;> exact hy
    subst hu hv
    simp only [Sem.run_bind, eqGuard_str, Result.andThen_ok]
    cases op <;> simp only at h <;> first
      | exact h.elim
      | (obtain ⟨h0, h⟩ := h; exact ⟨_, _, h, run_add_str a b h0, by cases d <;> simp only [RA]⟩)
      | (exact ⟨_, _, h, by simp only [binOp, Op.stringOp, ByteArray.toList_mk]; rfl, by cases d <;> simp only [RA]⟩)
  · rename_i a b
    have hu : u = .bool a := by cases d <;> exact hx
    have hv : v = .bool b := by cases d <;> exact hy
    subst hu hv
    simp only [Sem.run_bind, eqGuard_bool, Result.andThen_ok]
    split at h
    · rename_i s1 s2 s3 hl
      obtain ⟨ti, td, z, ht⟩ := hT.ty hl
      have hb := ht.bool rfl
      split at h
      · exact ⟨_, _, h, run_eql_bool hb a b, by cases d <;> simp only [RA]⟩
      · exact ⟨_, _, h, run_neq_bool hb a b, by cases d <;> simp only [RA]⟩
      · exact h.elim
    · exact h.elim
  · exact h.elim

theorem unK_ok {c : Ctx} {d : Nat} {P : Program} {op : UnOp} {x : AV} {u : Value} (hx : RA c d x u) {K : AV → Prop} (h : unK op x K) : ∃ r z, K r ∧ (Op.unary op u).run P c.w = .ok z c.w ∧ RA c d r z := by
  unfold unK at h
  split at h
  · rename_i k n
    have hu : u = .int k n := by cases d <;> exact hx
    subst hu
    exact ⟨_, _, h, by simp [Op.unary, Op.intArith]; rfl, by cases d <;> simp [RA]⟩
  · rename_i k n
    have hu : u = .int k n := by cases d <;> exact hx
    subst hu
    exact ⟨_, _, h, by simp only [Op.unary, Op.intBits]; rfl, by cases d <;> simp only [RA] <;> rfl⟩
  · rename_i b
    have hu : u = .bool b := by cases d <;> exact hx
    subst hu
    exact ⟨_, _, h, by simp [Op.unary]; rfl, by cases d <;> simp [RA]⟩
  · exact h.elim

end Go.Qv
