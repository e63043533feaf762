/- PROVED: for every input the law FnExactFiltrationLine returns true and each argument reads afterwards as it read before (the statement 'FnExactFiltrationLineCardSaid' of the given Rows).
Conditions: none beyond those which the given statement itself names. This text is one part of the proof. -/
import Derived.Test.YtfcgjmbkcpeafaaGreatDoorMCallB
import Derived.Laws.CopyRow

/- The abstract machine: nil beside a slice, clear, calls that work on a row of the caller's. -/
namespace Go.Qv
open Go Go.RowKit

section
variable {P : Program} {A : Nat → Prop} {c : Ctx} {d : Nat} {H : Nat → Option Blk} {n : Nat} {T : TT}

theorem run_eql_nil {t e : TypeId} {w : World} (ht : P.underlying t = some (.slice e)) (a : Option Addr) (k cap : Nat) : (binOp .eql t (.slice a k cap) (.slice none 0 0)).run P w = .ok (.bool a.isNone) w := by
  have h : (Op.equalIn 10000 t (.slice a k cap) (.slice none 0 0)).run P w = .ok a.isNone w := by
    unfold Op.equalIn
    cases a <;> simp [run_underlying ht]
  simp only [binOp, Op.equal, Op.maxDepth, Sem.run_bind, h, Result.andThen_ok, Sem.run_pure]
theorem run_neq_nil {t e : TypeId} {w : World} (ht : P.underlying t = some (.slice e)) (a : Option Addr) (k cap : Nat) : (binOp .neq t (.slice a k cap) (.slice none 0 0)).run P w = .ok (.bool !a.isNone) w := by
  have h : (Op.equalIn 10000 t (.slice a k cap) (.slice none 0 0)).run P w = .ok a.isNone w := by
    unfold Op.equalIn
    cases a <;> simp [run_underlying ht]
  simp only [binOp, Op.equal, Op.maxDepth, Sem.run_bind, h, Result.andThen_ok, Sem.run_pure]
theorem eqGuard_slice {w : World} (op : BinOp) (t : TypeId) (x y : Operand) (a b : Option Addr) (k cap k2 cap2 : Nat) : (eqGuard op t x y (.slice a k cap) (.slice b k2 cap2)).run P w = .ok () w := by
  cases op <;> simp [eqGuard]

theorem some_of_len {x : AV} {u : Value} (hx : RA c d x u) (hn : notStr x = true) {k : Nat} (h : lenA x = some k) : ∃ a cap, u = .slice a k cap ∧ (a.isNone = true → k = 0) := by
  have hros : ∀ {r : Own} {off m : Nat} {u : Value}, ROS r off m u → ∃ a cap, u = .slice a m cap ∧ (a.isNone = true → m = 0) := fun ⟨a, cap, e, _, _, h4⟩ => ⟨a, cap, e, fun hi => by
    rcases h4 with h4 | ⟨_, rfl, _⟩
    · exact h4
    · cases hi⟩
  cases x <;> simp only [lenA] at h <;> try (cases h)
  case nils => have : u = .slice none 0 0 := by cases d <;> exact hx
               exact ⟨_, _, this, fun _ => rfl⟩
  case str => cases hn
  case rs =>
    obtain ⟨hrd, _⟩ := hx.rs
    cases d with
    | zero => exact hrd.elim
    | succ d =>
      obtain ⟨a, cap, h1, _, _, h4⟩ := hrd
      refine ⟨a, cap, h1, fun hi => ?_⟩
      rcases h4 with h4 | ⟨_, b, o, rfl, _⟩
      · exact h4.1
      · cases hi
  case ow =>
    obtain ⟨r, _, _, hro⟩ := hx.ow
    exact hros hro.ros
  case os =>
    obtain ⟨r, _, hro⟩ := hx.os
    exact hros hro

theorem nilK_ok (hT : TOk P T) {dr : Bool} {op : BinOp} {t : TypeId} {x : AV} {u : Value} (hx : RA c d x u) {K : AV → Prop} (h : nilK T dr op t x K) (xo yo : Operand) :
    ∃ r z, K r ∧ (do eqGuard op t xo yo u (.slice none 0 0); binOp op t u (.slice none 0 0) : Sem Value).run P c.w = .ok z c.w ∧ RA c d r z := by
  unfold nilK at h
  split at h
  · rename_i e s1 s2 s3 hl
    obtain ⟨ti, td, z, ht⟩ := hT.ty hl
    have hu := ht.slice rfl
    cases hns : notStr x with
    | false => rw [hns] at h; exact h.elim
    | true =>
      rw [hns] at h
      simp only [cond_true] at h
      split at h
      · rename_i k hk
        obtain ⟨a, cap, rfl, ha⟩ := some_of_len hx hns hk
        simp only [Sem.run_bind, eqGuard_slice, Result.andThen_ok]
        split at h
        · split at h
          · have e : (Value.slice a k cap) = .slice none 0 0 := by cases d <;> exact hx
            cases e
            exact ⟨_, _, h, run_eql_nil hu none 0 0, by cases d <;> simp [RA]⟩
          · cases dr with
            | true =>
              obtain ⟨h0, h⟩ := h
              have : a.isNone = false := by cases hi : a.isNone; rfl; exact absurd (ha hi) h0
              exact ⟨_, _, h, run_eql_nil hu a k cap, by cases d <;> simp [RA, this]⟩
            | false => exact ⟨_, _, h a.isNone ha, run_eql_nil hu a k cap, by cases d <;> simp [RA]⟩
        · split at h
          · have e : (Value.slice a k cap) = .slice none 0 0 := by cases d <;> exact hx
            cases e
            exact ⟨_, _, h, run_neq_nil hu none 0 0, by cases d <;> simp [RA]⟩
          · cases dr with
            | true =>
              obtain ⟨h0, h⟩ := h
              have : a.isNone = false := by cases hi : a.isNone; rfl; exact absurd (ha hi) h0
              exact ⟨_, _, h, run_neq_nil hu a k cap, by cases d <;> simp [RA, this]⟩
            | false => exact ⟨_, _, h (!a.isNone) (fun hb => ha (by simpa using hb)), run_neq_nil hu a k cap, by cases d <;> simp [RA]⟩
        · exact h.elim
      · exact h.elim
  · exact h.elim

/-! ### clear -/

theorem clearAt_ok (hH : HeapOk P A c d H n) (hT : TOk P T) (hZ : ∀ t i, look T t = some i → i.zero.length = i.size) {t e : TypeId} {i : TI} (he : elemT T t = some (e, i)) {id off k : Nat} {u : Value} {r : Own} (hr : c.ρ id = some r) (hu : ROS r off k u) {K : Kont} (h : clearAt T H n e id off k K) :
    ∃ H' w', K (.tup []) H' n [] ∧ (∀ (ts : Array TypeId) (ty : TypeId), ts[0]? = some t → (Builtin.clear_ ts ty #[u]).run P c.w = .ok (.tuple #[]) w') ∧ Out P A c d H' n [] (.tup []) (.tuple #[]) w' := by
  have hle : look T e = some i := by
    unfold elemT at he
    split at he
    · split at he
      · rename_i i' hl'
        simp only [Option.some.injEq, Prod.mk.injEq] at he
        obtain ⟨rfl, rfl⟩ := he
        exact hl'
      · cases he
    · cases he
  obtain ⟨hund, _⟩ := elemT_spec hT he
  obtain ⟨ti, td, z, hti⟩ := hT.ty hle
  have hzl := hZ _ _ hle
  have hzs := zeroSize hti hzl
  unfold clearAt at h
  split at h
  · rename_i e2 m cs hb
    cases hee : Nat.beq e e2 with
    | false => rw [hee] at h; exact h.elim
    | true =>
      rw [hee] at h
      simp only [cond_true] at h
      have := Nat.eq_of_beq_eq_true hee
      subst this
      split at h
      · rename_i zs hzd
        obtain ⟨hle2, h⟩ := h
        obtain ⟨hz1, hz2⟩ := zerosD_ok (c := c) (d := d) hle hti hzl (Nat.le_refl k) hzd
        obtain ⟨r', e', hbr, hg⟩ := hH.blk id _ hb
        rw [hr] at e'; cases e'
        obtain ⟨hsz, hlr, hbr⟩ := hbr
        obtain ⟨a, cap, rfl, hkc, hcm, h4⟩ := hu
        by_cases hk : k = 0
        · subst hk
          have hz0 : zs = [] := List.eq_nil_of_length_eq_zero (by simpa using hz1)
          subst hz0
          have hcs : setND cs off [] = cs := by simp [setND]
          rw [hcs] at h
          refine ⟨_, c.w, h, fun ts ty h0 => by cases a <;> simp [Builtin.clear_, h0, run_underlying hund], ?_⟩
          have hself : hup H id (some (.row e m cs)) = H := by
            funext j
            by_cases hj : j = id
            · subst hj; rw [hup_same, hb]
            · rw [hup_ne hj]
          rw [hself]
          exact Out.pure hH (Nat.le_succ d) ⟨[], rfl, trivial⟩
        · rcases h4 with h4 | ⟨hv, rfl, hasz2⟩
          · exact absurd h4 hk
          rcases hbr with ⟨hv', _⟩ | ⟨_, arr, hw, hasz, hcl, hall⟩
          · rw [hv] at hv'; cases hv'
          have hzc : Builtin.zeroCells z.cells k = madeCells z.cells (k * i.size) := by simp [Builtin.zeroCells, madeCells, hzs]
          have hzlen : (madeCells z.cells (k * i.size)).toList.length = k * i.size := by simp [size_madeCells]
          have hall2 : All2 (RD (Sm c.S0 c.S1 false) c.w (d + 1)) zs (madeCells z.cells (k * i.size)).toList := by
            have : ∀ (xs : List D) (vs : List Value), xs.length = vs.length → (∀ (j : Nat) (x : D), xs[j]? = some x → ∃ u, vs[j]? = some u ∧ RD (Sm c.S0 c.S1 false) c.w (d + 1) x u) → All2 (RD (Sm c.S0 c.S1 false) c.w (d + 1)) xs vs := by
              intro xs
              induction xs with
              | nil => intro vs hl _; cases vs with
                | nil => trivial
                | cons => simp at hl
              | cons x xs ih => intro vs hl hh; cases vs with
                | nil => simp at hl
                | cons v vs =>
                  refine ⟨?_, ih vs (by simpa using hl) fun j y hy => ?_⟩
                  · obtain ⟨u, hu, hr⟩ := hh 0 x (by simp)
                    simp at hu; subst hu; exact hr
                  · obtain ⟨u, hu, hr⟩ := hh (j + 1) y (by simpa using hy)
                    exact ⟨u, by simpa using hu, hr⟩
            refine this _ _ (by rw [hzlen, hz1]) fun j x hx => ?_
            obtain ⟨u, hu, hr⟩ := hz2 j x hx
            exact ⟨u, by simpa using hu, hr⟩
          have hone : ∀ v ∈ (madeCells z.cells (k * i.size)).toList, v.oneCell' = true := All2.one hall2
          have hst := run_storeCells_at P r.g off e (madeCells z.cells (k * i.size)).toList 0 arr c.w hw (by rw [hzlen]; omega) hone
          simp only [Nat.add_zero] at hst
          refine ⟨_, c.w.setRow r.g (arr.toList.take off ++ (madeCells z.cells (k * i.size)).toList ++ arr.toList.drop (off + (madeCells z.cells (k * i.size)).toList.length)).toArray, h, fun ts ty h0 => ?_, ?_⟩
          · have hk' : ∃ k', k = k' + 1 := ⟨k - 1, by omega⟩
            obtain ⟨k', rfl⟩ := hk'
            simp [Builtin.clear_, h0, run_underlying hund, zeroValue, typeInfo, hti.info, hti.zero, hzc, hst]
          · have hl3 : (arr.toList.take off ++ (madeCells z.cells (k * i.size)).toList ++ arr.toList.drop (off + (madeCells z.cells (k * i.size)).toList.length)).length = arr.size := by
              simp only [List.length_append, List.length_take, List.length_drop, Array.length_toList, hzlen]; omega
            refine Out.write hH hb hr hv _ (d + 1) (Nat.le_succ _) (b' := .row e m (setND cs off zs)) ⟨hsz, by rw [setND_len hle2]; exact hlr, .inr ⟨hv, _, setRow_heap _ _ _ _ _ _ hw, by simpa [hasz] using hl3, by rw [setND_len hle2, List.size_toArray, hl3]; exact hcl, ?_⟩⟩ _ _ ⟨[], rfl, trivial⟩
            refine rowSplice (fun j x hx => ?_) (hall2.mono fun x _ v hx => ?_) hle2
            · obtain ⟨u, hu, hrr⟩ := hall j x hx
              exact ⟨u, hu, RD.setRow hH hb hr hv _ (RD.up _ _ _ hrr)⟩
            · exact RD.setRow hH hb hr hv _ (RD.imp (fun b hb => Or.imp (fun h => by cases h.1) (fun h => h) hb) (fun _ _ => rfl) _ _ _ hx)
      · exact h.elim
  · exact h.elim

theorem clearK_ok (hH : HeapOk P A c d H n) (hT : TOk P T) (hZ : ∀ t i, look T t = some i → i.zero.length = i.size) {ts : List TypeId} {args : List AV} {us : List Value} (hx : All2 (RA c d) args us) {K : Kont} (h : clearK T H n ts args K) :
    ∃ H' w', K (.tup []) H' n [] ∧ (∀ (ty : TypeId), (Builtin.clear_ ts.toArray ty us.toArray).run P c.w = .ok (.tuple #[]) w') ∧ Out P A c d H' n [] (.tup []) (.tuple #[]) w' := by
  unfold clearK at h
  split at h
  · match us, hx with
    | [u], ⟨hx, _⟩ =>
    split at h
    · rename_i he
      split at h
      · obtain ⟨r, hr, _, hro⟩ := hx.ow
        obtain ⟨H', w', h1, h2, h3⟩ := clearAt_ok hH hT hZ he hr hro.ros h
        exact ⟨H', w', h1, fun ty => h2 _ ty (by simp), h3⟩
      · obtain ⟨r, hr, hro⟩ := hx.os
        obtain ⟨H', w', h1, h2, h3⟩ := clearAt_ok hH hT hZ he hr hro h
        exact ⟨H', w', h1, fun ty => h2 _ ty (by simp), h3⟩
      · exact h.elim
    · exact h.elim
  · exact h.elim

/-! ### Calls that work on a row of the caller's -/

theorem rnL_of {c c' : Ctx} {d d' id : Nat} : ∀ {xs : List AV} {us : List Value} {ys : List AV}, (∀ x u y, RA c d x u → rnV id x = some y → RA c' d' y u) → All2 (RA c d) xs us → rnL id xs = some ys → All2 (RA c' d') ys us
  | [], [], ys, _, _, h => by simp [rnL] at h; subst h; trivial
  | x :: xs, u :: us, ys, hh, ⟨h1, h2⟩, h => by
    simp only [rnL] at h
    split at h
    · rename_i y hy
      split at h
      · rename_i ys' hys
        cases h
        exact ⟨hh _ _ _ h1 hy, rnL_of hh h2 hys⟩
      · cases h
    · cases h

def Ctx.one (c : Ctx) (S : Nat → Prop) (r : Own) : Ctx := ⟨c.w, S, fun _ => False, One r⟩

theorem rnV_ok {S : Nat → Prop} (hS : ∀ b, c.S0 b ∨ c.S1 b → S b) {id : Nat} {r : Own} (hr : c.ρ id = some r) : ∀ (d : Nat) (x : AV) (u : Value) (y : AV), RA c d x u → rnV id x = some y → RA (c.one S r) d y u := by
  have flat : ∀ (d : Nat) (x : AV) (u : Value) (y : AV), RA c d x u → rnV id x = some y → (∀ cs, x ≠ .agg cs) → (∀ f cs, x ≠ .fn f cs) → RA (c.one S r) d y u := by
    intro d x u y hx h hna hnf
    have own : ∀ {i : Nat} {y y' : AV}, (bif Nat.beq i id then some y else none) = some y' → i = id ∧ y' = y := fun {i y y'} h => by
      cases hb : Nat.beq i id with
      | true => rw [hb] at h; cases h; exact ⟨Nat.eq_of_beq_eq_true hb, rfl⟩
      | false => rw [hb] at h; cases h
    cases x <;> simp only [rnV] at h <;> try (cases h)
    case bool b => cases d <;> exact hx
    case int => cases d <;> exact hx
    case str => cases d <;> exact hx
    case nilp => cases d <;> exact hx
    case nils => cases d <;> exact hx
    case rs =>
      have h1 := RD.ro hS hx.rs.1
      cases d <;> exact ⟨h1, hx.rs.2⟩
    case rp m cs off =>
      obtain ⟨b, o, rfl, hc⟩ := hx.rp
      exact RA.mk_rp (hc.imp (fun b hb => .inl ⟨rfl, hS b (Or.imp (fun h => h.2) (fun h => h) hb)⟩) (fun _ _ => rfl) fun _ _ h => RD.ro hS h)
    case ow =>
      obtain ⟨rfl, rfl⟩ := own h
      obtain ⟨r', e, hn, hro⟩ := hx.ow
      rw [hr] at e; cases e
      exact RA.mk_ow rfl hn hro
    case os =>
      obtain ⟨rfl, rfl⟩ := own h
      obtain ⟨r', e, hro⟩ := hx.os
      rw [hr] at e; cases e
      exact RA.mk_os rfl hro
    case op =>
      obtain ⟨rfl, rfl⟩ := own h
      obtain ⟨r', e, hv, rfl⟩ := hx.op
      rw [hr] at e; cases e
      cases d <;> exact ⟨r, rfl, hv, rfl⟩
    case agg cs => exact absurd rfl (hna cs)
    case fn f cs => exact absurd rfl (hnf f cs)
  intro d
  induction d with
  | zero =>
    intro x u y hx h
    refine flat 0 x u y hx h (fun cs e => ?_) (fun f cs e => ?_)
    · subst e; exact hx.elim
    · subst e; exact hx.elim
  | succ d ih =>
    intro x u y hx h
    by_cases hag : ∃ cs, x = .agg cs
    · obtain ⟨cs, rfl⟩ := hag
      obtain ⟨vs, rfl, hall⟩ := hx
      simp only [rnV] at h
      split at h
      · rename_i l hl
        cases h
        exact ⟨vs, rfl, rnL_of ih hall hl⟩
      · cases h
    · by_cases hfn : ∃ f cs, x = .fn f cs
      · obtain ⟨f, cs, rfl⟩ := hfn
        obtain ⟨vs, rfl, hall⟩ := hx
        simp only [rnV] at h
        split at h
        · rename_i l hl
          cases h
          exact ⟨vs, rfl, rnL_of ih hall hl⟩
        · cases h
      · exact flat (d + 1) x u y hx h (fun cs e => hag ⟨cs, e⟩) (fun f cs e => hfn ⟨f, cs, e⟩)

theorem unV_ok {c c' : Ctx} {id : Nat} {r : Own} (hw : c'.w = c.w) (hS : ∀ m b, Sm c.S0 c.S1 m b → Sm c'.S0 c'.S1 m b) (hρ : c.ρ = One r) (hr : c'.ρ id = some r) : ∀ (d : Nat) (x : AV) (u : Value), RA c d x u → RA c' d (unV id x) u := by
  have hone : ∀ {i : Nat} {r' : Own}, c.ρ i = some r' → r' = r := fun {i r'} h => by
    rw [hρ] at h
    cases i with
    | zero => cases h; rfl
    | succ => cases h
  have hrd : ∀ {m : Bool} {d : Nat} {x : D} {v : Value}, RD (Sm c.S0 c.S1 m) c.w d x v → RD (Sm c'.S0 c'.S1 m) c'.w d x v := fun h => RD.imp (hS _) (fun b _ => by rw [hw]) _ _ _ h
  have flat : ∀ (d : Nat) (x : AV) (u : Value), RA c d x u → (∀ cs, x ≠ .agg cs) → (∀ f cs, x ≠ .fn f cs) → (∀ cs, x ≠ .tup cs) → RA c' d (unV id x) u := by
    intro d x u hx h1 h2 h3
    cases x <;> simp only [unV]
    case rs => have := hx.rs; cases d <;> exact ⟨hrd this.1, this.2⟩
    case rp => obtain ⟨b, o, rfl, hc⟩ := hx.rp; exact RA.mk_rp (hc.imp (hS _) (fun b _ => by rw [hw]) fun _ _ h => hrd h)
    case ow => obtain ⟨r', e, hn, hro⟩ := hx.ow; have := hone e; subst this; exact RA.mk_ow hr hn hro
    case os => obtain ⟨r', e, hro⟩ := hx.os; have := hone e; subst this; exact RA.mk_os hr hro
    case op => obtain ⟨r', e, hv, rfl⟩ := hx.op; have := hone e; subst this; cases d <;> exact ⟨r', hr, hv, rfl⟩
    case agg cs => exact absurd rfl (h1 cs)
    case fn f cs => exact absurd rfl (h2 f cs)
    case tup cs => exact absurd rfl (h3 cs)
    all_goals (cases d <;> exact hx)
  have hlist : ∀ (d : Nat), (∀ (x : AV) (u : Value), RA c d x u → RA c' d (unV id x) u) → ∀ (xs : List AV) (us : List Value), All2 (RA c d) xs us → All2 (RA c' d) (unL id xs) us := by
    intro d hh xs
    induction xs with
    | nil => intro us h; cases us with
      | nil => trivial
      | cons _ _ => exact h.elim
    | cons x xs ih => intro us h; cases us with
      | nil => exact h.elim
      | cons u us => exact ⟨hh _ _ h.1, ih us h.2⟩
  intro d
  induction d with
  | zero =>
    intro x u hx
    refine flat 0 x u hx (fun cs e => ?_) (fun f cs e => ?_) (fun cs e => ?_)
    all_goals (subst e; exact hx.elim)
  | succ d ih =>
    intro x u hx
    cases x
    case agg cs => obtain ⟨vs, rfl, hall⟩ := hx; exact ⟨vs, rfl, hlist d ih cs vs hall⟩
    case tup cs => obtain ⟨vs, rfl, hall⟩ := hx; exact ⟨vs, rfl, hlist d ih cs vs hall⟩
    case fn f cs => obtain ⟨vs, rfl, hall⟩ := hx; exact ⟨vs, rfl, hlist d ih cs vs hall⟩
    all_goals exact flat (d + 1) _ u hx (fun cs e => by cases e) (fun f cs e => by cases e) (fun cs e => by cases e)

theorem callIO_ok {E : Env} (hH : HeapOk E.P A c d H n) (hA : ∀ b, c.w.heap.size ≤ b → A b) {f : AV} {uf : Value} {args : List AV} {us : List Value} (hf : RA c d f uf) (hargs : All2 (RA c d) args us) {K : Kont} (h : callIO E H n f args K) :
    ∃ r H' n' ks g capsV, K r H' n' ks ∧ uf = .func (.func g) #[] capsV ∧ Enters E.P g ∧ Calls E.P g (us.toArray ++ capsV) c.w (fun e w' => ∃ u, e = .returned u ∧ Out E.P A c d H' n' ks r u w') := by
  unfold callIO at h
  split at h
  · rename_i g caps
    obtain ⟨id, h⟩ := h
    split at h
    · rename_i e m cs hb
      split at h
      · rename_i as ks' has hks
        obtain ⟨kept, r, m', cs', m2, hAC, hok, hK⟩ := h
        obtain ⟨d', vs, hd', rfl, hcaps⟩ := hf.fn
        have hcaps' : All2 (RA c d) caps vs := All2.imp (fun x v hx => RA.le hd' hx) _ _ hcaps
        obtain ⟨hEnt, hcall⟩ := hAC
        obtain ⟨r0, hr0, hbr, hg⟩ := hH.blk id _ hb
        let S : Nat → Prop := fun b => c.S0 b ∨ c.S1 b
        have h1 := rnL_of (rnV_ok (S := S) (fun b hb => hb) hr0 d) hargs has
        have h2 := rnL_of (rnV_ok (S := S) (fun b hb => hb) hr0 d) hcaps' hks
        have h3 : All2 (RA (c.one S r0) d) (appL as ks') (us ++ vs) := by rw [appL_eq]; exact All2.append h1 h2
        have hS : ∀ b, S b → b < c.w.heap.size ∧ (r0.virt = false → b ≠ r0.g) := fun b hb => ⟨hH.S_lt hA hb, fun hv e => by
          subst e
          rcases hb with hb | hb
          · exact hH.s0 _ hb (hg hv).1
          · exact (hg hv).2.2 hb⟩
        have hbr' : BR E.P (c.one S r0) d r0 (.row e true cs) := by
          obtain ⟨b1, b2, b3⟩ := hbr
          refine ⟨b1, b2, b3.imp (fun h => h) ?_⟩
          rintro ⟨a1, arr, a2, a3, a4, a5⟩
          exact ⟨a1, arr, a2, a3, a4, fun i x hx => let ⟨u, hu, hr⟩ := a5 i x hx; ⟨u, hu, RD.ro (fun b hb => hb) hr⟩⟩
        have hC := hcall c.w S d (us ++ vs) r0 hS (fun hv => (hg hv).2.1) hbr' h3
        have harr : (us ++ vs).toArray = us.toArray ++ vs.toArray := by simp
        rw [harr] at hC
        refine ⟨_, _, _, _, g, vs.toArray, hK, rfl, hEnt, hC.mono fun en w' => ?_⟩
        rintro ⟨v, rfl, hkeep, dR, S1R, r1, hkept, hg1, hs1, hbr1, hres⟩
        refine ⟨v, rfl, ?_⟩
        have hk : Keeps A c.w w' := hkeep.mono fun b hb => by
          rcases hb with hb | ⟨hv, rfl⟩
          · exact hA b hb
          · exact (hg hv).1
        let c' : Ctx := ⟨w', c.S0, fun b => c.S1 b ∨ S1R b, fun i => if i = id then some r1 else c.ρ i⟩
        have hold : ∀ k, k < c.w.heap.size → (r0.virt = false → k ≠ r0.g) → w'.heap[k]? = c.w.heap[k]? := fun k hlt hne => hkeep.block k fun hb => by
          rcases hb with hb | ⟨hv, rfl⟩
          · omega
          · exact hne hv rfl
        have hle : c.Le c' (bif kept then [] else [id]) := by
          refine ⟨fun _ h => h, fun _ h => .inl h, fun b hb => hold b (hH.S_lt hA hb) (hS b hb).2, fun j rj hj hm => ?_⟩
          by_cases hji : j = id
          · subst hji
            cases kept with
            | true =>
              have := hkept rfl
              subst this
              rw [hr0] at hj; cases hj
              simp [c']
            | false => exact absurd rfl (memB_one hm)
          · simp [c', hji, hj]
        have hSm : ∀ m b, Sm S S1R m b → Sm c'.S0 c'.S1 m b := fun m b hb => by
          rcases hb with ⟨hm, hb | hb⟩ | hb
          · exact .inl ⟨hm, hb⟩
          · exact .inr (.inl hb)
          · exact .inr (.inr hb)
        refine ⟨hk, d + dR, c'.S1, c'.ρ, hle, by omega, ?_, ?_⟩
        · have hg0 : r1.virt = false → A r1.g ∧ r1.g < w'.heap.size ∧ ¬ c.S1 r1.g ∧ ∀ k bk rk, k ≠ id → H k = some bk → c.ρ k = some rk → rk.virt = false → rk.g ≠ r1.g := fun hv1 => by
            rcases hg1 hv1 with ⟨hv, e1⟩ | ⟨a1, a2⟩
            · rw [e1]
              exact ⟨(hg hv).1, Nat.lt_of_lt_of_le (hg hv).2.1 hk.size, (hg hv).2.2, fun k bk rk hne hbk hrk hvk => hH.inj k id bk _ rk r0 hne hbk hb hrk hr0 hvk hv⟩
            · refine ⟨hA _ a1, a2, fun hs => by have := (hH.s1 _ hs).2; omega, fun k bk rk hne hbk hrk hvk e => ?_⟩
              obtain ⟨rk', e', _, hgk⟩ := hH.blk k bk hbk
              rw [hrk] at e'; cases e'
              have := (hgk hvk).2.1
              omega
          refine hH.step hle rfl (Nat.le_add_right _ _) hk.size (fun b hb => ?_) (fun j hj => ?_) fun j bj hj => ?_
          · rcases hb with hb | hb
            · exact ⟨(hH.s1 b hb).1, Nat.lt_of_lt_of_le (hH.s1 b hb).2 hk.size⟩
            · refine ⟨?_, (hs1 b hb).2.1⟩
              rcases (hs1 b hb).1 with h' | ⟨hv, rfl⟩
              · exact hA b h'
              · exact (hg hv).1
          · have hne : j ≠ id := fun e => by have := (hH.top j hj).2; rw [e, hb] at this; cases this
            exact ⟨by simp [c', hne, (hH.top j hj).1], by simp [hup_ne hne, (hH.top j hj).2]⟩
          · by_cases hid : j = id
            · subst hid
              simp only [hup_same, Option.map_some, Option.some.injEq] at hj
              subst hj
              refine .inr ⟨r1, by simp [c'], ?_, fun hv1 => ⟨(hg0 hv1).1, (hg0 hv1).2.1, fun hs => ?_, fun k bk rk hne hbk hrk hvk => ?_⟩⟩
              · obtain ⟨b1, b2, b3⟩ := hbr1
                refine ⟨b1, b2, b3.imp (fun h => h) ?_⟩
                rintro ⟨a1, arr, a2, a3, a4, a5⟩
                refine ⟨a1, arr, a2, a3, a4, fun i x hx => ?_⟩
                obtain ⟨u, hu, hr⟩ := a5 i x hx
                exact ⟨u, hu, RD.le (Nat.le_add_left _ _) (RD.imp (hSm m2) (fun _ _ => rfl) _ _ _ (RD.okM hok (List.mem_of_getElem? hx) hr))⟩
              · rcases hs with hs | hs
                · exact (hg0 hv1).2.2.1 hs
                · exact (hs1 _ hs).2.2 hv1 rfl
              · rw [hup_ne hne] at hbk
                simp only [Option.map_eq_some_iff] at hbk
                obtain ⟨bk', hbk, _⟩ := hbk
                simp [c', hne] at hrk
                exact (hg0 hv1).2.2.2 k bk' rk hne hbk hrk hvk
            · rw [hup_ne hid] at hj
              simp only [Option.map_eq_some_iff] at hj
              obtain ⟨bj', hbj, rfl⟩ := hj
              obtain ⟨rj, e1, _, e3⟩ := hH.blk j bj' hbj
              refine .inl ⟨bj', rj, hbj, rfl, e1, by simp [c', hid, e1], fun hv => ⟨hold _ (e3 hv).2.1 fun hv0 => hH.inj j id bj' _ rj r0 hid hbj hb e1 hr0 hv hv0, fun hs => ?_⟩⟩
              rcases hs with hs | hs
              · exact (e3 hv).2.2 hs
              · rcases (hs1 _ hs).1 with h' | ⟨hv0, e⟩
                · have := (e3 hv).2.1; omega
                · exact hH.inj j id bj' _ rj r0 hid hbj hb e1 hr0 hv hv0 e
        · exact RA.le (Nat.le_add_left _ _) (unV_ok (c := ⟨w', S, S1R, One r1⟩) (c' := c') rfl hSm rfl (by simp [c']) dR r v hres)
      · exact h.elim
    · exact h.elim
  · exact h.elim
end
end Go.Qv
