/- PROVED: for every input the law FnExactFiltrationLine returns true and each argument reads afterwards as it read before (the statement 'FnExactFiltrationLineCardSaid' of the given Rows).
Conditions: none beyond those which the given statement itself names. This text is one part of the proof. -/
import Derived.Test.YtfcgjmbkcpeafaaGreatDoorMConv

/- The abstract machine: a call by its contract. -/
namespace Go.Qv
open Go Go.RowKit

section
variable {P : Program} {A : Nat → Prop} {c : Ctx} {d : Nat} {H : Nat → Option Blk} {n : Nat} {T : TT}

/-- What a callee may read: S. -/
def Ctx.ro (c : Ctx) (S : Nat → Prop) : Ctx := ⟨c.w, S, fun _ => False, fun _ => none⟩

theorem RD.ro {S0 S1 S : Nat → Prop} {w : World} (hS : ∀ b, S0 b ∨ S1 b → S b) {m : Bool} {x : D} {u : Value} (h : RD (Sm S0 S1 m) w d x u) : RD (Sm S (fun _ => False) true) w d x u :=
  RD.imp (fun b hb => .inl ⟨rfl, hS b (Or.imp (fun h => h.2) (fun h => h) hb)⟩) (fun _ _ => rfl) _ _ _ h

/-- The blocks of one's own may be read. -/
def OwnIn (c : Ctx) (H : Nat → Option Blk) (S : Nat → Prop) : Prop := ∀ id b r, H id = some b → c.ρ id = some r → r.virt = false → S r.g

theorem row_ro (hH : HeapOk P A c d H n) {S : Nat → Prop} (hS : ∀ b, c.S0 b ∨ c.S1 b → S b) (hO : OwnIn c H S) {id k : Nat} {u : Value} (hx : RA c d (.ow id k) u) {e : TypeId} {m : Bool} {cs : List D} (hb : H id = some (.row e m cs)) :
    RD (Sm S (fun _ => False) true) c.w (d + 1) (.sl cs k) u := by
  obtain ⟨r, hr, hn, hro⟩ := hx.ow
  obtain ⟨r', e', hbr, _⟩ := hH.blk id _ hb
  rw [hr] at e'; cases e'
  obtain ⟨_, hlen, hbr⟩ := hbr
  rw [hn] at hlen
  rcases hro with ⟨_, rfl, a, rfl⟩ | ⟨hv, cap, rfl, _, hkc, hcm⟩
  · exact ⟨a, 0, rfl, Nat.le_refl _, Nat.zero_le _, .inl ⟨rfl, List.eq_nil_of_length_eq_zero (by simpa using hlen)⟩⟩
  · refine ⟨_, cap, rfl, hkc, hcm, ?_⟩
    by_cases hk : k = 0
    · subst hk
      exact .inl ⟨rfl, List.eq_nil_of_length_eq_zero (by simpa using hlen)⟩
    · rcases hbr with ⟨hv', _⟩ | ⟨_, arr, hw, _, _, hall⟩
      · rw [hv] at hv'; cases hv'
      · refine .inr ⟨hk, r.g, 0, rfl, .inl ⟨rfl, hO id _ r hb hr hv⟩, arr, e, (0, 0), hw, fun i x hx => ?_⟩
        obtain ⟨u, hu, hrd⟩ := hall i x hx
        exact ⟨u, by simpa using hu, RD.ro hS hrd⟩

theorem exD_ok (hH : HeapOk P A c d H n) {S : Nat → Prop} (hS : ∀ b, c.S0 b ∨ c.S1 b → S b) (hO : OwnIn c H S) {x : AV} {u : Value} (hx : RA c d x u) {y : D} (h : exD H x = some y) : RD (Sm S (fun _ => False) true) c.w (d + 1) y u := by
  cases x <;> simp only [exD] at h <;> try (cases h)
  case bool b => have : u = .bool b := by cases d <;> exact hx
                 simpa [RD] using this
  case int => simpa [RD] using hx.int'
  case str => simpa [RD] using hx.str'
  case nilp => have : u = .pointer none := by cases d <;> exact hx
               simpa [RD] using this
  case nils => have : u = .slice none 0 0 := by cases d <;> exact hx
               subst this; exact RD.empty none
  case rs => exact RD.up _ _ _ (RD.ro hS hx.rs.1)
  case ow =>
    split at h
    · rename_i hb
      cases h
      exact row_ro hH hS hO hx hb
    · cases h

theorem exDs_ok (hH : HeapOk P A c d H n) {S : Nat → Prop} (hS : ∀ b, c.S0 b ∨ c.S1 b → S b) (hO : OwnIn c H S) : ∀ {xs : List AV} {us : List Value} {ys : List D}, All2 (RA c d) xs us → exDs H xs = some ys → All2 (RD (Sm S (fun _ => False) true) c.w (d + 1)) ys us
  | [], [], ys, _, h => by simp [exDs] at h; subst h; trivial
  | x :: xs, u :: us, ys, ⟨h1, h2⟩, h => by
    simp only [exDs] at h
    split at h
    · rename_i y hy
      split at h
      · rename_i ys' hys
        cases h
        exact ⟨exD_ok hH hS hO h1 hy, exDs_ok hH hS hO h2 hys⟩
      · cases h
    · cases h

theorem exL_of {c' : Ctx} {d' : Nat} : ∀ {xs : List AV} {us : List Value} {ys : List AV}, (∀ x u y, RA c d x u → exV H T x = some y → (ownFree x = false → OwnIn c H c'.S0) → RA c' d' y u) → All2 (RA c d) xs us → exL H T xs = some ys → (ownFreeL xs = false → OwnIn c H c'.S0) → All2 (RA c' d') ys us
  | [], [], ys, _, _, h, _ => by simp [exL] at h; subst h; trivial
  | x :: xs, u :: us, ys, hh, ⟨h1, h2⟩, h, hO => by
    simp only [exL] at h
    split at h
    · rename_i y hy
      split at h
      · rename_i ys' hys
        cases h
        simp only [ownFreeL] at hO
        refine ⟨hh _ _ _ h1 hy fun hf => hO (by simp [hf]), exL_of hh h2 hys fun hf => hO ?_⟩
        cases ownFree x <;> simp [hf]
      · cases h
    · cases h

theorem exV_ok {S : Nat → Prop} (hS : ∀ b, c.S0 b ∨ c.S1 b → S b) {dh : Nat} (hH0 : HeapOk P A c dh H n) : ∀ (d : Nat) (x : AV) (u : Value) (y : AV), RA c d x u → exV H T x = some y → (ownFree x = false → OwnIn c H S) → RA (c.ro S) (dh + d + 1) y u := by
  have flat : ∀ (d : Nat), HeapOk P A c d H n → ∀ (x : AV) (u : Value) (y : AV), RA c d x u → exV H T x = some y → (ownFree x = false → OwnIn c H S) → (∀ cs, x ≠ .agg cs) → (∀ f cs, x ≠ .fn f cs) → RA (c.ro S) (d + 1) y u := by
    intro d hH x u y hx h hO hna hnf
    cases x <;> simp only [exV] at h <;> try (cases h)
    case bool b => have : u = .bool b := by cases d <;> exact hx
                   simpa [RA] using this
    case int => simpa [RA] using hx.int'
    case str => simpa [RA] using hx.str'
    case nilp => have : u = .pointer none := by cases d <;> exact hx
                 simpa [RA] using this
    case nils => have : u = .slice none 0 0 := by cases d <;> exact hx
                 subst this; exact ⟨RD.empty none, fun h => by cases h⟩
    case rs => exact ⟨RD.up _ _ _ (RD.ro hS hx.rs.1), fun h => by cases h⟩
    case rp m cs off =>
      obtain ⟨b, o, rfl, hc⟩ := hx.rp
      exact ⟨b, o, rfl, hc.imp (fun b hb => .inl ⟨rfl, hS b (Or.imp (fun h => h.2) (fun h => h) hb)⟩) (fun _ _ => rfl) fun _ _ h => RD.up _ _ _ (RD.ro hS h)⟩
    case ow =>
      split at h
      · rename_i hb
        cases h
        exact ⟨row_ro hH hS (hO rfl) hx hb, fun h => by cases h⟩
      · cases h
    case os id off k =>
      split at h
      · rename_i e m cs hb
        split at h
        · rename_i i hl
          cases h
          obtain ⟨r, hr, a, cap, rfl, hkc, hcm, h4⟩ := hx.os
          obtain ⟨r', e', hbr, _⟩ := hH.blk id _ hb
          rw [hr] at e'; cases e'
          obtain ⟨_, hlen, hbr⟩ := hbr
          refine ⟨⟨a, cap, rfl, hkc, hcm, ?_⟩, fun h => by cases h⟩
          by_cases hk : k = 0
          · subst hk; exact .inl ⟨rfl, by simp [mulS_eq]⟩
          · rcases h4 with h0 | ⟨hv, rfl, _⟩
            · exact absurd h0 hk
            · rcases hbr with ⟨hv', _⟩ | ⟨_, arr, hw, _, _, hall⟩
              · rw [hv] at hv'; cases hv'
              · refine .inr ⟨hk, r.g, off, rfl, .inl ⟨rfl, hO rfl id _ r hb hr hv⟩, arr, e, (0, 0), hw, fun i x hx => ?_⟩
                rw [List.getElem?_take] at hx
                split at hx
                · rw [List.getElem?_drop] at hx
                  obtain ⟨u, hu, hrd⟩ := hall _ x hx
                  exact ⟨u, hu, RD.ro hS hrd⟩
                · cases hx
        · cases h
      · cases h
    case op id off =>
      obtain ⟨r, hr, hv, rfl⟩ := hx.op
      split at h
      · rename_i ty cs hb
        split at h
        · rename_i ds hds
          cases h
          obtain ⟨r', e', hbr, _⟩ := hH.blk id _ hb
          rw [hr] at e'; cases e'
          obtain ⟨_, vs, hw, hall⟩ := hbr
          have h2 := exDs_ok hH hS (hO rfl) hall hds
          refine ⟨r.g, 0, by simp, .inl ⟨rfl, hO rfl id _ r hb hr hv⟩, vs.toArray, ty, (0, 0), hw, fun i x hx => ?_⟩
          obtain ⟨u, hu, hrd⟩ := h2.idx i x hx
          exact ⟨u, by simpa using hu, hrd⟩
        · cases h
      · rename_i e m cs hb
        cases h
        obtain ⟨r', e', hbr, _⟩ := hH.blk id _ hb
        rw [hr] at e'; cases e'
        obtain ⟨_, _, hbr⟩ := hbr
        rcases hbr with ⟨hv', _⟩ | ⟨_, arr, hw, _, _, hall⟩
        · rw [hv] at hv'; cases hv'
        · refine ⟨r.g, 0, by simp, .inl ⟨rfl, hO rfl id _ r hb hr hv⟩, arr, e, (0, 0), hw, fun i x hx => ?_⟩
          obtain ⟨u, hu, hrd⟩ := hall i x hx
          exact ⟨u, by simpa using hu, RD.up _ _ _ (RD.ro hS hrd)⟩
      · cases h
    case agg cs => exact absurd rfl (hna cs)
    case fn f cs => exact absurd rfl (hnf f cs)
  have flat' : ∀ (d : Nat) (x : AV) (u : Value) (y : AV), RA c d x u → exV H T x = some y → (ownFree x = false → OwnIn c H S) → (∀ cs, x ≠ .agg cs) → (∀ f cs, x ≠ .fn f cs) → RA (c.ro S) (dh + d + 1) y u := fun d x u y hx h hO h1 h2 =>
    flat (dh + d) (hH0.le (Nat.le_add_right _ _)) x u y (RA.le (Nat.le_add_left _ _) hx) h hO h1 h2
  intro d
  induction d with
  | zero =>
    intro x u y hx h hO
    refine flat' 0 x u y hx h hO (fun cs e => ?_) (fun f cs e => ?_)
    · subst e; exact hx.elim
    · subst e; exact hx.elim
  | succ d ih =>
    intro x u y hx h hO
    by_cases hag : ∃ cs, x = .agg cs
    · obtain ⟨cs, rfl⟩ := hag
      obtain ⟨vs, rfl, hall⟩ := hx
      simp only [exV] at h
      split at h
      · rename_i l hl
        cases h
        exact ⟨vs, rfl, exL_of (c' := c.ro S) (d' := dh + d + 1) ih hall hl (fun hf => hO (by simpa [ownFree] using hf))⟩
      · cases h
    · by_cases hfn : ∃ f cs, x = .fn f cs
      · obtain ⟨f, cs, rfl⟩ := hfn
        obtain ⟨vs, rfl, hall⟩ := hx
        simp only [exV] at h
        split at h
        · rename_i l hl
          cases h
          exact ⟨vs, rfl, exL_of (c' := c.ro S) (d' := dh + d + 1) ih hall hl (fun hf => hO (by simpa [ownFree] using hf))⟩
        · cases h
      · exact flat' (d + 1) x u y hx h hO (fun cs e => hag ⟨cs, e⟩) (fun f cs e => hfn ⟨f, cs, e⟩)

/-! ### Results -/

/-- A value that names no block of one's own, seen from elsewhere. -/
theorem RA.move {c c' : Ctx} {F : Bool} (ho : ∀ id, c.ρ id = none) (hw : c'.w = c.w) (hS : ∀ m b, (m = true → F = false) → Sm c.S0 c.S1 m b → Sm c'.S0 c'.S1 m b) : ∀ (d : Nat) (x : AV) (u : Value), RA c d x u → (F = true → forFree x = true) → RA c' d x u := by
  have hrd : ∀ (m : Bool) (d : Nat) (x : D) (v : Value), (m = true → F = false) → RD (Sm c.S0 c.S1 m) c.w d x v → RD (Sm c'.S0 c'.S1 m) c'.w d x v := fun m d x v hm h => RD.imp (fun b hb => hS m b hm hb) (fun b _ => by rw [hw]) d x v h
  have hlist : ∀ (d : Nat), (∀ (x : AV) (u : Value), RA c d x u → (F = true → forFree x = true) → RA c' d x u) → ∀ (xs : List AV) (us : List Value), All2 (RA c d) xs us → (F = true → forFreeL xs = true) → All2 (RA c' d) xs us := by
    intro d hh xs
    induction xs with
    | nil => intro us h _; cases us with
      | nil => trivial
      | cons _ _ => exact h.elim
    | cons x xs ih => intro us h hf; cases us with
      | nil => exact h.elim
      | cons u us =>
        refine ⟨hh _ _ h.1 fun hF => ?_, ih us h.2 fun hF => ?_⟩
        · have := hf hF; simp only [forFreeL] at this; cases hx : forFree x <;> simp_all
        · have := hf hF; simp only [forFreeL] at this; cases hx : forFree x <;> simp_all
  have hrs : ∀ (d : Nat) (m x : Bool) (cs : List D) (k : Nat) (u : Value), RA c d (.rs m x cs k) u → (F = true → forFree (.rs m x cs k) = true) → RA c' d (.rs m x cs k) u := fun d m x cs k u h hf => by
    have hm : m = true → F = false := fun e => by cases F; rfl; have := hf rfl; simp [forFree, e] at this
    have h' := h.rs
    cases d <;> exact ⟨hrd m _ _ _ hm h'.1, h'.2⟩
  have hrp : ∀ (d : Nat) (m : Bool) (cs : List D) (k : Nat) (u : Value), RA c d (.rp m cs k) u → (F = true → forFree (.rp m cs k) = true) → RA c' d (.rp m cs k) u := fun d m cs k u h hf => by
    have hF : F = false := by cases F; rfl; have := hf rfl; simp [forFree] at this
    obtain ⟨b, o, rfl, hc⟩ := h.rp
    exact RA.mk_rp (hc.imp (fun b hb => hS m b (fun _ => hF) hb) (fun b _ => by rw [hw]) fun x v => hrd m d x v fun _ => hF)
  intro d
  induction d with
  | zero =>
    intro x u h hf
    cases x
    case rs => exact hrs _ _ _ _ _ _ h hf
    case rp => exact hrp _ _ _ _ _ h hf
    case ow => obtain ⟨r, hr, _⟩ := h; rw [ho] at hr; cases hr
    case os => obtain ⟨r, hr, _⟩ := h; rw [ho] at hr; cases hr
    case op => obtain ⟨r, hr, _⟩ := h; rw [ho] at hr; cases hr
    all_goals exact h
  | succ d ih =>
    intro x u h hf
    cases x
    case rs => exact hrs _ _ _ _ _ _ h hf
    case rp => exact hrp _ _ _ _ _ h hf
    case ow => obtain ⟨r, hr, _⟩ := h; rw [ho] at hr; cases hr
    case os => obtain ⟨r, hr, _⟩ := h; rw [ho] at hr; cases hr
    case op => obtain ⟨r, hr, _⟩ := h; rw [ho] at hr; cases hr
    case agg cs => obtain ⟨vs, rfl, hall⟩ := h; exact ⟨vs, rfl, hlist d ih cs vs hall (by simpa [forFree] using hf)⟩
    case tup cs => obtain ⟨vs, rfl, hall⟩ := h; exact ⟨vs, rfl, hlist d ih cs vs hall (by simpa [forFree] using hf)⟩
    case fn f cs => obtain ⟨vs, rfl, hall⟩ := h; exact ⟨vs, rfl, hlist d ih cs vs hall (by simpa [forFree] using hf)⟩
    all_goals exact h
end

end Go.Qv
