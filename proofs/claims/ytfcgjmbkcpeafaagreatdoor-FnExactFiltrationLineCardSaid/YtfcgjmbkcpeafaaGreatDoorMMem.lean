/- PROVED: for every input the law FnExactFiltrationLine returns true and each argument reads afterwards as it read before (the statement 'FnExactFiltrationLineCardSaid' of the given Rows).
Conditions: none beyond those which the given statement itself names. This text is one part of the proof. -/
import Derived.Test.YtfcgjmbkcpeafaaGreatDoorMAppB

/- The abstract machine: new variables and rows, stores, composites, conversions. -/
namespace Go.Qv
open Go Go.RowKit

section
variable {P : Program} {A : Nat → Prop} {c : Ctx} {d : Nat} {H : Nat → Option Blk} {n : Nat} {T : TT}

theorem RA.one {v : AV} {u : Value} (h : RA c d v u) (h1 : oneA v = true) : u.oneCell' = true := by
  cases v <;> cases d <;> simp only [RA] at h <;> first
    | exact h.elim
    | (simp [oneA] at h1; done)
    | (subst h; rfl)
    | (obtain ⟨h, _⟩ := h; exact RD.one h)
    | (obtain ⟨r, _, _, h⟩ := h; rcases h with ⟨_, _, a, rfl⟩ | ⟨_, cap, rfl, _⟩ <;> rfl)
    | (obtain ⟨r, _, a, cap, rfl, _⟩ := h; rfl)
    | (obtain ⟨r, _, _, rfl⟩ := h; rfl)
    | (obtain ⟨b, o, rfl, _⟩ := h; rfl)
    | (obtain ⟨vs, rfl, _⟩ := h; rfl)

theorem RA.cells {v : AV} {u : Value} (h : RA c d v u) {cs : List AV} (hc : cellsA v = some cs) : All2 (RA c d) cs u.cells.toList := by
  cases v <;> simp only [cellsA] at hc <;> try (cases hc)
  case agg =>
    cases d with
    | zero => exact h.elim
    | succ d =>
      obtain ⟨vs, rfl, h⟩ := h
      simpa [Value.cells] using All2.imp (fun x v => RA.up d x v) _ _ h
  all_goals
    have h1 := RA.one h rfl
    have : u.cells = #[u] := by cases u <;> simp [Value.oneCell'] at h1 <;> rfl
    rw [this]
    exact ⟨h, trivial⟩

theorem noAny_one : ∀ {cs : List AV} {vs : List Value}, noAny cs = true → All2 (RA c d) cs vs → ∀ v ∈ vs, v.oneCell' = true
  | [], [], _, _ => by simp
  | x :: cs, v :: vs, hn, ⟨h1, h2⟩ => by
    intro u hu
    have hx : oneA x = true ∧ noAny cs = true := by
      cases hx : oneA x <;> simp_all [noAny]
    rcases List.mem_cons.1 hu with rfl | hu
    · exact RA.one h1 hx.1
    · exact noAny_one hx.2 h2 u hu

theorem All2.cst : ∀ vs : List Value, All2 (RA c d) (vs.map constA) vs
  | [] => trivial
  | v :: vs => ⟨RA.cst v, All2.cst vs⟩

/-- A new variable of one's own. -/
theorem Out.newVar (h : HeapOk P A c d H n) (hA : ∀ b, c.w.heap.size ≤ b → A b) {t : TypeId} {cs : List AV} {arr : Array Value} (hall : All2 (RA c d) cs arr.toList) :
    Out P A c d (hup H n (some (.var t cs))) (n + 1) [] (.op n 0) (.pointer (some ⟨c.w.heap.size, 0, none⟩)) (c.w.alloc (.cells arr t)) := by
  have hle : c.Le ⟨c.w.alloc (.cells arr t), c.S0, c.S1, fun i => if i = n then some ⟨c.w.heap.size, 0, 0, 0, false⟩ else c.ρ i⟩ [] := by
    refine ⟨fun _ h => h, fun _ h => h, fun b hb => heap_alloc_lt _ _ (h.S_lt hA hb), fun id r' hr' _ => ?_⟩
    have : id ≠ n := fun e => by have := (h.top id (by omega)).1; rw [this] at hr'; cases hr'
    simp [this, hr']
  refine Out.alloc h hA (.cells arr t) ⟨c.w.heap.size, 0, 0, 0, false⟩ (.var t cs) rfl ⟨rfl, arr.toList, by simpa using heap_alloc_new c.w (.cells arr t), All2.imp (fun x v hx => RA.ctx hle _ _ _ hx) _ _ hall⟩ _ _ ?_
  exact RA.mk_op (r := ⟨c.w.heap.size, 0, 0, 0, false⟩) (by simp) rfl

theorem box_ok (hH : HeapOk P A c d H n) (hA : ∀ b, c.w.heap.size ≤ b → A b) {e : TypeId} {x : AV} {u : Value} (hx : RA c d x u) {cs : List AV} (hc : cellsA x = some cs) :
    ∃ v w', (Instr.box e u).run P c.w = .ok v w' ∧ Out P A c d (hup H n (some (.var e cs))) (n + 1) [] (.op n 0) v w' := by
  refine ⟨_, _, ?_, Out.newVar hH hA (arr := u.cells) (RA.cells hx hc)⟩
  simp [Instr.box, Go.newVar, newRow]

theorem alloc_ok (hH : HeapOk P A c d H n) (hA : ∀ b, c.w.heap.size ≤ b → A b) (hT : TOk P T) {e : TypeId} {i : TI} (hl : look T e = some i) :
    ∃ v w', (Instr.alloc e true (.tuple #[])).run P c.w = .ok v w' ∧ Out P A c d (hup H n (some (.var e i.zero))) (n + 1) [] (.op n 0) v w' := by
  obtain ⟨ti, td, z, ht⟩ := hT.ty hl
  refine ⟨_, _, ?_, Out.newVar hH hA (arr := z.cells) (by rw [ht.zs]; exact All2.cst _)⟩
  simp [Instr.alloc, zeroValue, typeInfo, ht.info, ht.zero, Go.newVar, newRow]

/-! ### Composites -/

theorem putA_spec {R : AV → Value → Prop} : ∀ {cs vs : List AV} {arr us : List Value}, All2 R cs arr → All2 R vs us → (getNA.takeA cs vs.length).isSome = true → All2 R (setNA.putA cs vs) (us ++ arr.drop us.length)
  | cs, [], arr, [], h, _, _ => by cases cs <;> simpa [setNA.putA] using h
  | [], v :: vs, arr, us, _, _, hf => by simp [getNA.takeA] at hf
  | c :: cs, v :: vs, a :: arr, u :: us, ⟨_, h⟩, ⟨h2, h3⟩, hf => by
    simp only [setNA.putA, List.length_cons, List.drop_succ_cons, List.cons_append]
    refine ⟨h2, putA_spec h h3 ?_⟩
    simp only [List.length_cons, getNA.takeA] at hf
    split at hf
    · rename_i l hl; simp [hl]
    · simp at hf

theorem setNA_spec {R : AV → Value → Prop} : ∀ {off : Nat} {cs vs : List AV} {arr us : List Value}, All2 R cs arr → All2 R vs us → fitsB cs off vs.length = true → All2 R (setNA cs off vs) (arr.take off ++ us ++ arr.drop (off + us.length))
  | 0, cs, vs, arr, us, h, h2, hf => by
    have hf' : (getNA.takeA cs vs.length).isSome = true := by
      unfold fitsB at hf
      cases cs <;> (simp only [getNA] at hf; split at hf <;> simp_all)
    have := putA_spec h h2 hf'
    cases cs <;> simpa [setNA] using this
  | off + 1, [], vs, [], us, _, _, hf => by simp [fitsB, getNA] at hf
  | off + 1, c :: cs, vs, a :: arr, us, ⟨h1, h⟩, h2, hf => by
    have hf' : fitsB cs off vs.length = true := by simpa [fitsB, getNA] using hf
    have := setNA_spec h h2 hf'
    simp only [setNA, List.take_succ_cons, List.cons_append]
    refine ⟨h1, ?_⟩
    rw [show off + 1 + us.length = (off + us.length) + 1 by omega, List.drop_succ_cons]
    exact this

theorem fitsB_le {R : AV → Value → Prop} {cs : List AV} {off k : Nat} {arr : List Value} (h : All2 R cs arr) (hf : fitsB cs off k = true) : off + k ≤ arr.length ∨ k = 0 := by
  unfold fitsB at hf
  split at hf
  · rename_i l hl
    have := (getNA_spec hl h).2
    simp only [List.length_take, List.length_drop] at this
    omega
  · cases hf

end

end Go.Qv
