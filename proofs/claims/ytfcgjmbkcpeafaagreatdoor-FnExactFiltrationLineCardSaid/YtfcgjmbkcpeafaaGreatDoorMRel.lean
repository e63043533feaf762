/- PROVED: for every input the law FnExactFiltrationLine returns true and each argument reads afterwards as it read before (the statement 'FnExactFiltrationLineCardSaid' of the given Rows).
Conditions: none beyond those which the given statement itself names. This text is one part of the proof. -/
import Derived.Test.YtfcgjmbkcpeafaaGreatDoorMDefs
import Derived.Below
import Derived.Laws.Rows

/- The abstract machine: what abstract data and values say of concrete ones, and how that is kept. -/
namespace Go.Qv
open Go Go.RowKit

/-- Blocks that mode m may read. -/
def Sm (S0 S1 : Nat → Prop) (m : Bool) : Nat → Prop := fun b => (m = true ∧ S0 b) ∨ S1 b

/-- The cells from o on of block b read as cs. -/
def Cells (S : Nat → Prop) (w : World) (R : D → Value → Prop) (b o : Nat) (cs : List D) : Prop :=
  S b ∧ ∃ arr e fr, w.heap[b]? = some (.cells arr e fr) ∧ ∀ (i : Nat) (x : D), cs[i]? = some x → ∃ u, arr[o + i]? = some u ∧ R x u

def RD (S : Nat → Prop) (w : World) : Nat → D → Value → Prop
  | _, .bool b, v => v = .bool b
  | _, .int k n, v => v = .int k n
  | _, .str s, v => v = .string ⟨s.toArray⟩
  | _, .nilp, v => v = .pointer none
  | 0, .sl _ _, _ => False
  | d + 1, .sl cs n, v => ∃ a cap, v = .slice a n cap ∧ n ≤ cap ∧ cap ≤ maxLen ∧
      ((n = 0 ∧ cs = []) ∨ (n ≠ 0 ∧ ∃ b o, a = some ⟨b, o, none⟩ ∧ Cells S w (RD S w d) b o cs))

/-- Where a block of one's own lies. -/
structure Own where
  g : Nat
  asz : Nat
  sz : Nat
  n : Nat
  virt : Bool

def RO (r : Own) (n : Nat) (v : Value) : Prop :=
  (r.virt = true ∧ n = 0 ∧ ∃ a, v = .slice a 0 0) ∨
  (r.virt = false ∧ ∃ cap, v = .slice (some ⟨r.g, 0, none⟩) n cap ∧ cap * r.sz = r.asz ∧ n ≤ cap ∧ cap ≤ maxLen)

def ROS (r : Own) (off n : Nat) (v : Value) : Prop :=
  ∃ a cap, v = .slice a n cap ∧ n ≤ cap ∧ cap ≤ maxLen ∧ (n = 0 ∨ (r.virt = false ∧ a = some ⟨r.g, off, none⟩ ∧ off + cap * r.sz = r.asz))

/-- A list of values, one by one. -/
def All2 {α : Type} (R : α → Value → Prop) : List α → List Value → Prop
  | [], [] => True
  | x :: xs, v :: vs => R x v ∧ All2 R xs vs
  | _, _ => False

structure Ctx where
  w : World
  S0 : Nat → Prop
  S1 : Nat → Prop
  ρ : Nat → Option Own

def RA (c : Ctx) : Nat → AV → Value → Prop
  | _, .any, _ => True
  | _, .und, v => v = undef
  | _, .nils, v => v = .slice none 0 0
  | _, .nilp, v => v = .pointer none
  | _, .bool b, v => v = .bool b
  | _, .int k n, v => v = .int k n
  | _, .str s, v => v = .string ⟨s.toArray⟩
  | d, .rs m x cs n, v => RD (Sm c.S0 c.S1 m) c.w d (.sl cs n) v ∧ (x = true → ∃ a, v = .slice a n n)
  | _, .ow id n, v => ∃ r, c.ρ id = some r ∧ r.n = n ∧ RO r n v
  | _, .os id off n, v => ∃ r, c.ρ id = some r ∧ ROS r off n v
  | _, .op id off, v => ∃ r, c.ρ id = some r ∧ r.virt = false ∧ v = .pointer (some ⟨r.g, off, none⟩)
  | d, .rp m cs off, v => ∃ b o, v = .pointer (some ⟨b, o + off, none⟩) ∧ Cells (Sm c.S0 c.S1 m) c.w (RD (Sm c.S0 c.S1 m) c.w d) b o cs
  | 0, .agg _, _ | 0, .tup _, _ | 0, .fn _ _, _ => False
  | d + 1, .agg cs, v => ∃ vs, v = .agg vs.toArray ∧ All2 (RA c d) cs vs
  | d + 1, .tup cs, v => ∃ vs, v = .tuple vs.toArray ∧ All2 (RA c d) cs vs
  | d + 1, .fn f cs, v => ∃ vs, v = .func (.func f) #[] vs.toArray ∧ All2 (RA c d) cs vs
  | _, .fs _ _ _ _, _ => False

/-- What a block of one's own holds. -/
def BR (P : Program) (c : Ctx) (d : Nat) (r : Own) : Blk → Prop
  | .var t cs => r.virt = false ∧ ∃ vs, c.w.heap[r.g]? = some (.cells vs.toArray t (0, 0)) ∧ All2 (RA c d) cs vs
  | .row e m cs => r.sz = P.cellsOf e ∧ cs.length = r.n * r.sz ∧ ((r.virt = true ∧ cs = []) ∨
      (r.virt = false ∧ ∃ arr, c.w.heap[r.g]? = some (.cells arr e (0, 0)) ∧ arr.size = r.asz ∧ cs.length ≤ arr.size ∧
        ∀ (i : Nat) (x : D), cs[i]? = some x → ∃ u, arr[i]? = some u ∧ RD (Sm c.S0 c.S1 m) c.w d x u))

/-- A: where blocks of one's own may lie. -/
structure HeapOk (P : Program) (A : Nat → Prop) (c : Ctx) (d : Nat) (H : Nat → Option Blk) (nid : Nat) : Prop where
  s0 : ∀ b, c.S0 b → ¬ A b
  s1 : ∀ b, c.S1 b → A b ∧ b < c.w.heap.size
  top : ∀ id, nid ≤ id → c.ρ id = none ∧ H id = none
  blk : ∀ id b, H id = some b → ∃ r, c.ρ id = some r ∧ BR P c d r b ∧ (r.virt = false → A r.g ∧ r.g < c.w.heap.size ∧ ¬ c.S1 r.g)
  inj : ∀ i j bi bj ri rj, i ≠ j → H i = some bi → H j = some bj → c.ρ i = some ri → c.ρ j = some rj → ri.virt = false → rj.virt = false → ri.g ≠ rj.g

/-- Outside A nothing has turned. -/
structure Keeps (A : Nat → Prop) (w w' : World) : Prop where
  os : w'.os = w.os
  tape : w'.tape = w.tape
  output : w'.output = w.output
  size : w.heap.size ≤ w'.heap.size
  block : ∀ k, ¬ A k → w'.heap[k]? = w.heap[k]?

theorem Keeps.refl (A : Nat → Prop) (w : World) : Keeps A w w := ⟨rfl, rfl, rfl, Nat.le_refl _, fun _ _ => rfl⟩
theorem Keeps.trans {A : Nat → Prop} {a b c : World} (h : Keeps A a b) (k : Keeps A b c) : Keeps A a c :=
  ⟨k.os.trans h.os, k.tape.trans h.tape, k.output.trans h.output, Nat.le_trans h.size k.size, fun i hi => (k.block i hi).trans (h.block i hi)⟩
theorem Keeps.mono {A A' : Nat → Prop} {a b : World} (h : Keeps A a b) (hA : ∀ k, A k → A' k) : Keeps A' a b :=
  ⟨h.os, h.tape, h.output, h.size, fun i hi => h.block i fun hh => hi (hA i hh)⟩

/-- A result: rows of their own are told by the blocks that they lie in. -/
def RFs (P : Program) (c : Ctx) (d : Nat) : AV → Value → List Nat → Prop
  | .fs e m cs n, u, gs => cs.length = n * P.cellsOf e ∧
      ((gs = [] ∧ n = 0 ∧ cs = [] ∧ ∃ a, u = .slice a 0 0) ∨
       ∃ g cap arr, gs = [g] ∧ u = .slice (some ⟨g, 0, none⟩) n cap ∧ n ≤ cap ∧ cap ≤ maxLen ∧ c.w.heap[g]? = some (.cells arr e (0, 0)) ∧ arr.size = cap * P.cellsOf e ∧
         ∀ (i : Nat) (x : D), cs[i]? = some x → ∃ u, arr[i]? = some u ∧ RD (Sm c.S0 c.S1 m) c.w d x u)
  | v, u, gs => RA c d v u ∧ gs = []

def RFl (R : AV → Value → List Nat → Prop) : List AV → List Value → List Nat → Prop
  | [], [], gs => gs = []
  | x :: xs, v :: vs, gs => ∃ g1 g2, gs = g1 ++ g2 ∧ R x v g1 ∧ RFl R xs vs g2
  | _, _, _ => False

def RF1 (P : Program) (c : Ctx) (d : Nat) : AV → Value → List Nat → Prop
  | .agg cs, u, gs => ∃ vs, u = .agg vs.toArray ∧ RFl (RFs P c d) cs vs gs
  | v, u, gs => RFs P c d v u gs

def RF (P : Program) (c : Ctx) (d : Nat) : AV → Value → List Nat → Prop
  | .tup rs, u, gs => ∃ us, u = .tuple us.toArray ∧ RFl (RF1 P c d) rs us gs
  | v, u, gs => RF1 P c d v u gs

/-- A result, in fresh memory. -/
def RES (P : Program) (B : Nat) (S0 : Nat → Prop) (w : World) (r : AV) (u : Value) : Prop :=
  ∃ d S1 gs, (∀ b, S1 b → B ≤ b ∧ b < w.heap.size) ∧ RF P ⟨w, S0, S1, fun _ => none⟩ d r u gs ∧ gs.Nodup ∧ ∀ g ∈ gs, B ≤ g ∧ g < w.heap.size ∧ ¬ S1 g

/-- A call comes to the function's own text. -/
def Enters (P : Program) (f : FuncId) : Prop := ∀ (args : Array Value) (w : World), (callFunc f args).run P w = .ok (.enter f args) w

/-- **The contract of a plain function**: handed values that read as 'args', it returns a value that reads as 'r', in memory of its own; nothing that was there has turned. -/
def AC (P : Program) (f : FuncId) (args : List AV) (r : AV) : Prop :=
  Enters P f ∧ ∀ (w : World) (S0 : Nat → Prop) (d : Nat) (vs : List Value), (∀ b, S0 b → b < w.heap.size) → All2 (RA ⟨w, S0, fun _ => False, fun _ => none⟩ d) args vs →
    Calls P f vs.toArray w fun e w' => ∃ v, e = .returned v ∧ Below w.heap.size w w' ∧ RES P w.heap.size S0 w' r v

def One (r : Own) : Nat → Option Own := fun i => match i with | 0 => some r | _ => none

/-- **The contract of a function that works on a row of its caller's**: block 0 held cs, and holds cs' behind it; 'kept': it lies where it lay. -/
def AIO (P : Program) (f : FuncId) (kept : Bool) (args : List AV) (e : TypeId) (cs : List D) (r : AV) (m' : Bool) (cs' : List D) : Prop :=
  Enters P f ∧ ∀ (w : World) (S0 : Nat → Prop) (d : Nat) (vs : List Value) (r0 : Own), (∀ b, S0 b → b < w.heap.size ∧ (r0.virt = false → b ≠ r0.g)) → (r0.virt = false → r0.g < w.heap.size) →
    BR P ⟨w, S0, fun _ => False, One r0⟩ d r0 (.row e true cs) → All2 (RA ⟨w, S0, fun _ => False, One r0⟩ d) args vs →
    Calls P f vs.toArray w fun en w' => ∃ v, en = .returned v ∧ Keeps (fun b => w.heap.size ≤ b ∨ (r0.virt = false ∧ b = r0.g)) w w' ∧
      ∃ d' S1 r1, (kept = true → r1 = r0) ∧ (r1.virt = false → (r0.virt = false ∧ r1.g = r0.g) ∨ (w.heap.size ≤ r1.g ∧ r1.g < w'.heap.size)) ∧
        (∀ b, S1 b → (w.heap.size ≤ b ∨ (r0.virt = false ∧ b = r0.g)) ∧ b < w'.heap.size ∧ (r1.virt = false → b ≠ r1.g)) ∧ BR P ⟨w', S0, S1, One r1⟩ d' r1 (.row e m' cs') ∧ RA ⟨w', S0, S1, One r1⟩ d' r v

/-! ### Keeping -/

theorem All2.imp {α : Type} {R R' : α → Value → Prop} (h : ∀ x v, R x v → R' x v) : ∀ (xs : List α) (vs : List Value), All2 R xs vs → All2 R' xs vs
  | [], [], _ => trivial
  | _ :: xs, _ :: vs, ⟨h1, h2⟩ => ⟨h _ _ h1, All2.imp h xs vs h2⟩

theorem All2.length {α : Type} {R : α → Value → Prop} : ∀ (xs : List α) (vs : List Value), All2 R xs vs → vs.length = xs.length
  | [], [], _ => rfl
  | _ :: xs, _ :: vs, ⟨_, h2⟩ => by simp [All2.length xs vs h2]

theorem All2.get {α : Type} {R : α → Value → Prop} : ∀ (xs : List α) (vs : List Value) (i : Nat) (x : α), All2 R xs vs → xs[i]? = some x → ∃ v, vs[i]? = some v ∧ R x v
  | x :: xs, v :: vs, 0, y, ⟨h1, _⟩, h => by simp at h; subst h; exact ⟨v, rfl, h1⟩
  | _ :: xs, _ :: vs, i + 1, y, ⟨_, h2⟩, h => by
    simp at h
    obtain ⟨v, hv, hr⟩ := All2.get xs vs i y h2 h
    exact ⟨v, by simpa using hv, hr⟩

theorem nth_eq {α : Type} : ∀ (l : List α) (i : Nat), nth l i = l[i]?
  | [], _ => by simp [nth]
  | _ :: _, 0 => by simp [nth]
  | _ :: r, i + 1 => by simp [nth, nth_eq r i]

theorem Cells.imp {S S' : Nat → Prop} {w w' : World} {R R' : D → Value → Prop} {b o : Nat} {cs : List D} (hS : ∀ b, S b → S' b) (hw : ∀ b, S b → w'.heap[b]? = w.heap[b]?) (hR : ∀ x v, R x v → R' x v)
    (h : Cells S w R b o cs) : Cells S' w' R' b o cs := by
  obtain ⟨h1, arr, e, fr, h2, h3⟩ := h
  refine ⟨hS _ h1, arr, e, fr, by rw [hw _ h1]; exact h2, fun i x hx => ?_⟩
  obtain ⟨u, hu, hr⟩ := h3 i x hx
  exact ⟨u, hu, hR _ _ hr⟩

theorem RD.imp {S S' : Nat → Prop} {w w' : World} (hS : ∀ b, S b → S' b) (hw : ∀ b, S b → w'.heap[b]? = w.heap[b]?) : ∀ (d : Nat) (x : D) (v : Value), RD S w d x v → RD S' w' d x v
  | d, .bool b, v, h => by cases d <;> exact h
  | d, .int k n, v, h => by cases d <;> exact h
  | d, .str s, v, h => by cases d <;> exact h
  | d, .nilp, v, h => by cases d <;> exact h
  | 0, .sl _ _, v, h => h
  | d + 1, .sl cs n, v, h => by
    obtain ⟨a, cap, h1, h2, h3, h4⟩ := h
    refine ⟨a, cap, h1, h2, h3, h4.imp id ?_⟩
    rintro ⟨h0, b, o, ha, hc⟩
    exact ⟨h0, b, o, ha, hc.imp hS hw (RD.imp hS hw d)⟩

theorem RD.up {S : Nat → Prop} {w : World} : ∀ (d : Nat) (x : D) (v : Value), RD S w d x v → RD S w (d + 1) x v
  | d, .bool b, v, h => by cases d <;> exact h
  | d, .int k n, v, h => by cases d <;> exact h
  | d, .str s, v, h => by cases d <;> exact h
  | d, .nilp, v, h => by cases d <;> exact h
  | 0, .sl _ _, v, h => h.elim
  | d + 1, .sl cs n, v, h => by
    obtain ⟨a, cap, h1, h2, h3, h4⟩ := h
    refine ⟨a, cap, h1, h2, h3, h4.imp id ?_⟩
    rintro ⟨h0, b, o, ha, hc⟩
    exact ⟨h0, b, o, ha, hc.imp (fun _ h => h) (fun _ _ => rfl) (RD.up d)⟩

theorem RD.le {S : Nat → Prop} {w : World} {d d' : Nat} (hd : d ≤ d') {x : D} {v : Value} (h : RD S w d x v) : RD S w d' x v := by
  induction hd with
  | refl => exact h
  | step _ ih => exact RD.up _ _ _ ih

theorem RD.one {S : Nat → Prop} {w : World} {d : Nat} {x : D} {v : Value} (h : RD S w d x v) : v.oneCell' = true := by
  cases x <;> cases d <;> simp only [RD] at h
  all_goals first
    | (subst h; rfl)
    | exact h.elim
    | (obtain ⟨a, cap, rfl, _⟩ := h; rfl)

theorem Sm.imp {S0 S0' S1 S1' : Nat → Prop} (h0 : ∀ b, S0 b → S0' b) (h1 : ∀ b, S1 b → S1' b) (m : Bool) (b : Nat) (h : Sm S0 S1 m b) : Sm S0' S1' m b :=
  Or.imp (fun ⟨a, c⟩ => ⟨a, h0 _ c⟩) (h1 _) h

/-- c' says at least what c says, but for the blocks given up. -/
structure Ctx.Le (c c' : Ctx) (ks : List Nat) : Prop where
  s0 : ∀ b, c.S0 b → c'.S0 b
  s1 : ∀ b, c.S1 b → c'.S1 b
  heap : ∀ b, c.S0 b ∨ c.S1 b → c'.w.heap[b]? = c.w.heap[b]?
  ρ : ∀ id r, c.ρ id = some r → memB id ks = false → c'.ρ id = some r

theorem Ctx.Le.sm {c c' : Ctx} {ks : List Nat} (h : c.Le c' ks) (m : Bool) : ∀ b, Sm c.S0 c.S1 m b → Sm c'.S0 c'.S1 m b := Sm.imp h.s0 h.s1 m
theorem Ctx.Le.smw {c c' : Ctx} {ks : List Nat} (h : c.Le c' ks) (m : Bool) : ∀ b, Sm c.S0 c.S1 m b → c'.w.heap[b]? = c.w.heap[b]? := fun b hb => h.heap b (Or.imp (fun x => x.2) id hb)

theorem RD.ctx {c c' : Ctx} {ks : List Nat} (h : c.Le c' ks) {m : Bool} {d : Nat} {x : D} {v : Value} (hr : RD (Sm c.S0 c.S1 m) c.w d x v) : RD (Sm c'.S0 c'.S1 m) c'.w d x v :=
  RD.imp (h.sm m) (h.smw m) d x v hr

theorem All2.killL {ks : List Nat} {R R' : AV → Value → Prop} (h : ∀ x v, R x v → R' (killV ks x) v) : ∀ (xs : List AV) (vs : List Value), All2 R xs vs → All2 R' (killL ks xs) vs
  | [], [], _ => by simp [Qv.killL, All2]
  | _ :: xs, _ :: vs, ⟨h1, h2⟩ => by simp only [Qv.killL]; exact ⟨h _ _ h1, All2.killL h xs vs h2⟩

theorem RA.killed {c c' : Ctx} {ks : List Nat} (h : c.Le c' ks) : ∀ (d : Nat) (x : AV) (v : Value), RA c d x v → RA c' d (killV ks x) v := by
  intro d
  induction d with
  | zero =>
    intro x v hx
    cases x <;> simp only [killV] <;> simp only [RA] at hx ⊢
    all_goals first
      | exact hx
      | exact hx.elim
      | exact ⟨RD.ctx h hx.1, hx.2⟩
      | (split <;> first
          | (simp only [RA])
          | (rename_i hk; simp only [RA]; obtain ⟨r, h1, h2⟩ := hx; exact ⟨r, h.ρ _ _ h1 (by simpa using hk), h2⟩))
      | (obtain ⟨b, o, h1, h2⟩ := hx; exact ⟨b, o, h1, h2.imp (h.sm _) (h.smw _) fun _ _ => RD.ctx h⟩)
      | skip
    all_goals (cases hk : memB _ ks <;> simp only [cond_true, cond_false, RA] <;> (obtain ⟨r, h1, h2⟩ := hx; exact ⟨r, h.ρ _ _ h1 hk, h2⟩))
  | succ d ih =>
    intro x v hx
    cases x <;> simp only [killV] <;> simp only [RA] at hx ⊢
    all_goals first
      | exact hx
      | exact hx.elim
      | exact ⟨RD.ctx h hx.1, hx.2⟩
      | (obtain ⟨vs, h1, h2⟩ := hx; exact ⟨vs, h1, All2.killL (ih) _ _ h2⟩)
      | (obtain ⟨b, o, h1, h2⟩ := hx; exact ⟨b, o, h1, h2.imp (h.sm _) (h.smw _) fun _ _ => RD.ctx h⟩)
      | skip
    all_goals (cases hk : memB _ ks <;> simp only [cond_true, cond_false, RA] <;> (obtain ⟨r, h1, h2⟩ := hx; exact ⟨r, h.ρ _ _ h1 hk, h2⟩))

theorem RA.ctx {c c' : Ctx} (h : c.Le c' []) : ∀ (d : Nat) (x : AV) (v : Value), RA c d x v → RA c' d x v := by
  intro d
  induction d with
  | zero =>
    intro x v hx
    cases x <;> simp only [RA] at hx ⊢
    all_goals first
      | exact hx
      | exact hx.elim
      | exact ⟨RD.ctx h hx.1, hx.2⟩
      | (obtain ⟨r, h1, h2⟩ := hx; exact ⟨r, h.ρ _ _ h1 rfl, h2⟩)
      | (obtain ⟨b, o, h1, h2⟩ := hx; exact ⟨b, o, h1, h2.imp (h.sm _) (h.smw _) fun _ _ => RD.ctx h⟩)
  | succ d ih =>
    intro x v hx
    cases x <;> simp only [RA] at hx ⊢
    all_goals first
      | exact hx
      | exact hx.elim
      | exact ⟨RD.ctx h hx.1, hx.2⟩
      | (obtain ⟨r, h1, h2⟩ := hx; exact ⟨r, h.ρ _ _ h1 rfl, h2⟩)
      | (obtain ⟨vs, h1, h2⟩ := hx; exact ⟨vs, h1, All2.imp ih _ _ h2⟩)
      | (obtain ⟨b, o, h1, h2⟩ := hx; exact ⟨b, o, h1, h2.imp (h.sm _) (h.smw _) fun _ _ => RD.ctx h⟩)

theorem RA.up {c : Ctx} : ∀ (d : Nat) (x : AV) (v : Value), RA c d x v → RA c (d + 1) x v := by
  intro d
  induction d with
  | zero =>
    intro x v hx
    cases x <;> simp only [RA] at hx ⊢
    all_goals first
      | exact hx
      | exact hx.elim
      | exact ⟨RD.up _ _ _ hx.1, hx.2⟩
      | (obtain ⟨b, o, h1, h2⟩ := hx; exact ⟨b, o, h1, h2.imp (fun _ h => h) (fun _ _ => rfl) fun _ _ => RD.up _ _ _⟩)
  | succ d ih =>
    intro x v hx
    cases x <;> simp only [RA] at hx ⊢
    all_goals first
      | exact hx
      | exact hx.elim
      | exact ⟨RD.up _ _ _ hx.1, hx.2⟩
      | (obtain ⟨vs, h1, h2⟩ := hx; exact ⟨vs, h1, All2.imp ih _ _ h2⟩)
      | (obtain ⟨b, o, h1, h2⟩ := hx; exact ⟨b, o, h1, h2.imp (fun _ h => h) (fun _ _ => rfl) fun _ _ => RD.up _ _ _⟩)

theorem RA.le {c : Ctx} {d d' : Nat} (hd : d ≤ d') {x : AV} {v : Value} (h : RA c d x v) : RA c d' x v := by
  induction hd with
  | refl => exact h
  | step _ ih => exact RA.up _ _ _ ih

theorem RA.ofD {c : Ctx} {m : Bool} {d : Nat} {x : D} {v : Value} (h : RD (Sm c.S0 c.S1 m) c.w d x v) : RA c d (ofD m x) v := by
  cases x <;> cases d <;> simp only [RD] at h <;> simp only [Qv.ofD, RA] <;> first
    | exact h
    | exact h.elim
    | exact ⟨h, fun hx => by cases hx⟩

end Go.Qv
