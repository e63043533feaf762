/- PROVED: for every input the law FnExactFiltrationLine returns true and each argument reads afterwards as it read before (the statement 'FnExactFiltrationLineCardSaid' of the given Rows).
Conditions: none beyond those which the given statement itself names. This text is one part of the proof. -/
import Derived.Test.YtfcgjmbkcpeafaaGreatDoorMEx

/- The abstract machine: regions. -/
namespace Go.Qv
open Go Go.RowKit

theorem aopK_congr {E : Env} {dr : Bool} {f f' : Nat → AV} {H : Heap} {n : Nat} (o : Oper) (h : ∀ x ∈ o.op.operands, evA f x = evA f' x) (K : Kont) :
    aopK E dr f H n o K = aopK E dr f' H n o K := by
  obtain ⟨dst, op, type, pos, after, guard⟩ := o
  cases op <;> simp only [Op.operands] at h <;> simp only [aopK]
  case build t ps => rw [partsA_congr ps.toList fun x hx => h x.2 (by simp only [List.mem_toArray, List.mem_map]; exact ⟨x, hx, rfl⟩)]
  case buildSlice t n ps => rw [partsA_congr ps.toList fun x hx => h x.2 (by simp only [List.mem_toArray, List.mem_map]; exact ⟨x, hx, rfl⟩)]
  case makeFunc fn first captured =>
    cases fn <;> simp only
    rw [evL_congr captured.toList fun x hx => h x (by simp at hx; simp [hx])]
  case call c =>
    obtain ⟨callee, args, ts⟩ := c
    have ha : evL f args.toList = evL f' args.toList := evL_congr _ fun x hx => h x (by simp at hx; simp [Call.operands, hx])
    cases callee with
    | value g => simp only; rw [ha, h g (by simp [Call.operands])]
    | invoke r m => rfl
    | builtin b => cases b <;> simp only [ha]
  case slice t x lo hi mx => cases lo <;> cases hi <;> cases mx <;> simp_all
  all_goals (first | rfl | (simp_all; done))

/-! ### One step -/

def gval (ops : List Oper) (f : Nat → AV) : Option (Nat × Bool) → Option Bool
  | none => some true
  | some (j, want) => match dstOf ops j with
    | none => some false
    | some d => match f d with
      | .bool b => some (b == want)
      | .und => some false
      | _ => none

theorem upd_same (f : Nat → AV) (d : Nat) : upd f d (f d) = f := by
  funext t
  unfold upd
  cases h : Nat.beq t d
  · rfl
  · rw [Nat.eq_of_beq_eq_true h]; rfl

theorem guardK_iff {ops : List Oper} {f : Nat → AV} {g : Option (Nat × Bool)} {run skip : (Nat → AV) → Prop} :
    guardK ops f g run skip ↔ (gval ops f g = some true ∧ run f) ∨ (gval ops f g = some false ∧ skip f) := by
  unfold guardK gval
  cases g with
  | none => simp
  | some jw =>
    obtain ⟨j, want⟩ := jw
    simp only
    cases dstOf ops j with
    | none => simp
    | some d =>
      simp only
      cases hf : f d with
      | bool b =>
        simp only
        have e : upd f d (.bool b) = f := by rw [← hf]; exact upd_same f d
        have e2 : (Bc b fun b => bif b == want then run (upd f d (.bool b)) else skip (upd f d (.bool b))) = (bif b == want then run (upd f d (.bool b)) else skip (upd f d (.bool b))) := by cases b <;> rfl
        rw [e2, e]
        cases hb : (b == want) <;> simp
      | und => simp
      | _ => simp

theorem stepK_iff {E : Env} {dr : Bool} {ops : List Oper} {o : Oper} {K : KontS} {f : Nat → AV} {H : Heap} {n : Nat} :
    stepK E dr ops o K f H n ↔ (gval ops f o.guard = some true ∧ aopK E dr f H n o (afterK E f o.dst K)) ∨ (gval ops f o.guard = some false ∧ put E f H n o.dst .und K) := guardK_iff

/-! ### Any order -/

def updO (f : Nat → AV) (dst : Option Tmp) (v : AV) : Nat → AV := match dst with | none => f | some d => upd f d v
def dOk (E : Env) (dst : Option Tmp) : Prop := ∀ d, dst = some d → d < E.N

theorem put_iff {E : Env} {f : Nat → AV} {H : Heap} {n : Nat} {dst : Option Tmp} {v : AV} {K : KontS} : put E f H n dst v K ↔ dOk E dst ∧ K (updO f dst v) H n := by
  unfold put updO dOk
  simp only [forceV_eq]
  cases dst with
  | none => simp
  | some d =>
    simp only [Option.some.injEq, forall_eq']
    cases h : Nat.blt d E.N
    · simp only [cond_false, false_iff, not_and]
      intro h2
      have : Nat.blt d E.N = true := by simpa [Nat.blt_eq] using h2
      rw [h] at this; cases this
    · simp only [cond_true]
      have : d < E.N := by simpa [Nat.blt_eq] using h
      exact ⟨fun k => ⟨this, k⟩, fun k => k.2⟩

theorem upd_comm (f : Nat → AV) {d e : Nat} (h : d ≠ e) (v u : AV) : upd (upd f d v) e u = upd (upd f e u) d v := by
  funext t
  simp only [upd]
  cases h1 : Nat.beq t d <;> cases h2 : Nat.beq t e <;> simp only [cond_true, cond_false]
  exact absurd ((Nat.eq_of_beq_eq_true h1).symm.trans (Nat.eq_of_beq_eq_true h2)) h

theorem updO_comm (f : Nat → AV) {x y : Option Tmp} (v u : AV) (h : ∀ d, x = some d → y ≠ some d) : updO (updO f x v) y u = updO (updO f y u) x v := by
  cases x with
  | none => rfl
  | some d => cases y with
    | none => rfl
    | some e => exact upd_comm f (fun he => h d rfl (congrArg some he.symm)) v u

theorem upd_ne (f : Nat → AV) {d t : Nat} (h : t ≠ d) (v : AV) : upd f d v t = f t := by
  unfold upd
  cases hb : Nat.beq t d
  · rfl
  · exact absurd (Nat.eq_of_beq_eq_true hb) h

section
variable {E : Env} {ops : Array Oper} {md : Region.Mode}

/-- Slots that an operation doesn't look at don't turn it. -/
theorem aopK_put {dr : Bool} {f : Nat → AV} {H : Heap} {n : Nat} (o : Oper) (dst : Option Tmp) (v : AV) (h : ∀ d, dst = some d → d ∉ o.looksAt ops) (K : Kont) :
    aopK E dr (updO f dst v) H n o K = aopK E dr f H n o K := by
  refine aopK_congr o (fun x hx => ?_) K
  cases dst with
  | none => rfl
  | some d =>
    cases x with
    | tmp t =>
      have : t ≠ d := fun e => h d rfl (by subst e; exact List.mem_append_left _ (List.mem_filterMap.2 ⟨.tmp t, by simpa using hx, rfl⟩))
      exact upd_ne f this v
    | const v => rfl
    | global g => rfl
    | func g => rfl

theorem dstOf_eq (ops : Array Oper) (j : Nat) : dstOf ops.toList j = (ops[j]?).bind (·.dst) := by
  unfold dstOf
  rw [nth_eq]
  simp only [Array.getElem?_toList]
  cases ops[j]? <;> rfl

theorem gval_put {f : Nat → AV} (o : Oper) (dst : Option Tmp) (v : AV) (h : ∀ d, dst = some d → d ∉ o.looksAt ops) :
    gval ops.toList (updO f dst v) o.guard = gval ops.toList f o.guard := by
  cases dst with
  | none => rfl
  | some d =>
    cases hg : o.guard with
    | none => rfl
    | some jw =>
      obtain ⟨j, want⟩ := jw
      simp only [gval]
      cases hd : dstOf ops.toList j with
      | none => rfl
      | some t =>
        have hne : t ≠ d := fun e => h d rfl (by
          subst e
          rw [dstOf_eq] at hd
          unfold Oper.looksAt
          simp [hg, hd])
        simp only [updO, upd_ne f hne v]

/-- The operation yields v and leaves the heap. -/
def YA (E : Env) (ops : Array Oper) (o : Oper) (v : AV) (f : Nat → AV) (H : Heap) (n : Nat) : Prop :=
  dOk E o.dst ∧ ((gval ops.toList f o.guard = some true ∧ ∀ K : Kont, K v H n [] → aopK E true f H n o K) ∨ (gval ops.toList f o.guard = some false ∧ v = .und))

theorem YA.step {o : Oper} {v : AV} {f : Nat → AV} {H : Heap} {n : Nat} (h : YA E ops o v f H n) {K : KontS} (hk : K (updO f o.dst v) H n) : stepK E true ops.toList o K f H n := by
  obtain ⟨hd, ⟨hg, ha⟩ | ⟨hg, rfl⟩⟩ := h
  · exact stepK_iff.2 (.inl ⟨hg, ha _ (put_iff.2 ⟨hd, hk⟩)⟩)
  · exact stepK_iff.2 (.inr ⟨hg, put_iff.2 ⟨hd, hk⟩⟩)

/-- What one step comes to. -/
theorem step_out {o : Oper} {f : Nat → AV} {H : Heap} {n : Nat} {K : KontS} (h : stepK E true ops.toList o K f H n) (hf : fence o.op = false) : ∃ v, YA E ops o v f H n ∧ K (updO f o.dst v) H n := by
  rcases stepK_iff.1 h with ⟨hg, ha⟩ | ⟨hg, ha⟩
  · obtain ⟨r, H', n', ks, ⟨h1, h2⟩, h3, h4⟩ := aopK_ex _ ha
    have hna : isAppend o.op = false := by
      cases hx : isAppend o.op with
      | false => rfl
      | true =>
        unfold isAppend at hx
        split at hx
        · rename_i e; rw [e] at hf; cases hf
        · cases hx
    obtain rfl := h1 hna
    obtain ⟨rfl, rfl⟩ := h2 hf
    obtain ⟨hd, hk⟩ := put_iff.1 h3
    exact ⟨r, ⟨hd, .inl ⟨hg, h4⟩⟩, hk⟩
  · obtain ⟨hd, hk⟩ := put_iff.1 ha
    exact ⟨.und, ⟨hd, .inr ⟨hg, rfl⟩⟩, hk⟩

theorem YA.of_put {o : Oper} {v : AV} {f : Nat → AV} {H H' : Heap} {n n' : Nat} (h : YA E ops o v f H n) (dst : Option Tmp) (u : AV) (hl : ∀ d, dst = some d → d ∉ o.looksAt ops)
    (hH : (H' = H ∧ n' = n) ∨ light o.op = true) : YA E ops o v (updO f dst u) H' n' := by
  obtain ⟨hd, h⟩ := h
  refine ⟨hd, ?_⟩
  rw [gval_put o dst u hl]
  refine h.imp (fun ⟨hg, ha⟩ => ⟨hg, fun K hk => ?_⟩) id
  rw [aopK_put o dst u hl]
  rcases hH with ⟨rfl, rfl⟩ | hlt
  · exact ha K hk
  · obtain ⟨F, hF⟩ := light_ex (E := E) (f := f) (o := o) hlt
    have := ha (fun x _ _ _ => K x H' n' []) hk
    rw [hF] at this ⊢
    exact this

/-- An operation that waits for none of it goes past another. -/
theorem step_past {oi oj : Oper} {v : AV} {f : Nat → AV} {H : Heap} {n : Nat} {K : KontS} (hap : oi.apart ops oj = true) (hj : fence oj.op = false ∨ (light oi.op = true ∧ isAppend oj.op = false))
    (hy : YA E ops oi v f H n) (h : stepK E true ops.toList oj K (updO f oi.dst v) H n) :
    stepK E true ops.toList oj (fun f' H' n' => YA E ops oi v f' H' n' ∧ K (updO f' oi.dst v) H' n') f H n := by
  obtain ⟨h1, h2, h3⟩ := Oper.apart_spec hap
  rw [stepK_iff, gval_put oj oi.dst v h1] at h
  rw [stepK_iff]
  refine h.imp (fun ⟨hg, ha⟩ => ⟨hg, ?_⟩) fun ⟨hg, ha⟩ => ⟨hg, ?_⟩
  · rw [aopK_put oj oi.dst v h1] at ha
    obtain ⟨r, H', n', ks, ⟨e1, e2⟩, e3, e4⟩ := aopK_ex _ ha
    have hks : ks = [] := by
      refine e1 ?_
      rcases hj with hf | hf
      · cases hx : isAppend oj.op with
        | false => rfl
        | true =>
          unfold isAppend at hx
          split at hx
          · rename_i e; rw [e] at hf; cases hf
          · cases hx
      · exact hf.2
    subst hks
    obtain ⟨hd, hk⟩ := put_iff.1 e3
    have hk2 : put E f H' n' oj.dst r (fun f' H' n' => YA E ops oi v f' H' n' ∧ K (updO f' oi.dst v) H' n') := by
      refine put_iff.2 ⟨hd, hy.of_put _ _ h3 (hj.imp (fun hf => e2 hf) fun hf => hf.1), ?_⟩
      rw [← updO_comm f v r h2]
      exact hk
    exact e4 _ hk2
  · obtain ⟨hd, hk⟩ := put_iff.1 ha
    refine put_iff.2 ⟨hd, hy.of_put _ _ h3 (.inl ⟨rfl, rfl⟩), ?_⟩
    rw [← updO_comm f v _ h2]
    exact hk

theorem stepK_mono {dr : Bool} {l : List Oper} {o : Oper} {f : Nat → AV} {H : Heap} {n : Nat} {K K' : KontS} (hk : ∀ f H n, K f H n → K' f H n) (hd : dr = true) (h : stepK E dr l o K f H n) : stepK E dr l o K' f H n := by
  subst hd
  rw [stepK_iff] at h ⊢
  have hput : ∀ (f : Nat → AV) (H : Heap) (n : Nat) (v : AV), put E f H n o.dst v K → put E f H n o.dst v K' := fun f H n v hp => by
    obtain ⟨h1, h2⟩ := put_iff.1 hp
    exact put_iff.2 ⟨h1, hk _ _ _ h2⟩
  refine h.imp (fun ⟨hg, ha⟩ => ⟨hg, ?_⟩) fun ⟨hg, ha⟩ => ⟨hg, hput _ _ _ _ ha⟩
  obtain ⟨r, H', n', ks, _, e3, e4⟩ := aopK_ex _ ha
  refine e4 _ ?_
  unfold afterK at e3 ⊢
  cases ks with
  | nil => exact hput _ _ _ _ e3
  | cons k ks =>
    simp only at e3 ⊢
    cases hfx : anyLt E.fix (k :: ks) with
    | true => rw [hfx] at e3; exact e3.elim
    | false =>
      rw [hfx] at e3
      exact hput _ _ _ _ e3

def stA (E : Env) (ops : Array Oper) (i : Nat) (K : KontS) (f : Nat → AV) (H : Heap) (n : Nat) : Prop :=
  match ops[i]? with
  | none => K f H n
  | some o => stepK E true ops.toList o K f H n

theorem stA_mono {i : Nat} {f : Nat → AV} {H : Heap} {n : Nat} {K K' : KontS} (hk : ∀ f H n, K f H n → K' f H n) (h : stA E ops i K f H n) : stA E ops i K' f H n := by
  unfold stA at h ⊢
  split
  · rename_i ho; rw [ho] at h; exact hk _ _ _ h
  · rename_i o ho; rw [ho] at h; exact stepK_mono hk rfl h

def wpAnyA (E : Env) (md : Region.Mode) (ops : Array Oper) (Q : KontS) : Nat → Array Bool → KontS
  | 0, listed, f, H, n => Region.ready md ops listed = [] ∧ Q f H n
  | fuel + 1, listed, f, H, n =>
    (Region.ready md ops listed = [] → Q f H n) ∧
    ∀ i ∈ Region.ready md ops listed, stA E ops i (wpAnyA E md ops Q fuel (listed.setIfInBounds i true)) f H n

/-- Whatever is listed, what it waits for is listed. -/
def Closed (md : Region.Mode) (ops : Array Oper) (listed : Array Bool) : Prop :=
  ∀ k o, ops[k]? = some o → listed.getD k true = true → ∀ e ∈ o.after, Region.binds md e = true → listed.getD e.on false = true

theorem Closed.step {listed : Array Bool} {i : Nat} (h : Closed md ops listed) (hi : i ∈ Region.ready md ops listed) : Closed md ops (listed.setIfInBounds i true) := by
  intro k o ho hk e he hb
  obtain ⟨hun, oi, hoi, hall⟩ := mem_ready.1 hi
  by_cases hki : k = i
  · subst hki
    rw [hoi] at ho; cases ho
    exact getD_set_true (hall e he hb)
  · rw [getD_set_ne true (Ne.symm hki)] at hk
    exact getD_set_true (h k o ho hk e he hb)

/-- All before k that is not light is waited for, on some way. -/
def ancs (ops : Array Oper) : Nat → List Nat → List Nat
  | 0, l => l
  | m + 1, l => if l.any fun k => match ops[k]? with | some o => waitsFor m o | none => false then ancs ops m (m :: l) else ancs ops m l
def behind (ops : Array Oper) (k : Nat) (o : Oper) : Bool :=
  !fence o.op || (List.range k).all fun m => (ancs ops k [k]).contains m || ((match ops[m]? with | some om => light om.op | none => false) && !isAppend o.op)
def fenced (ops : Array Oper) : Bool := fenceFrom 0 ops.toList && (List.range ops.size).all fun k => match ops[k]? with | some o => behind ops k o | none => true

theorem getD_ft {listed : Array Bool} {k : Nat} (h : listed.getD k false = true) : listed.getD k true = true := by
  rcases Nat.lt_or_ge k listed.size with h' | h'
  · simpa [h'] using h
  · simp [Array.getElem?_eq_none h'] at h

theorem waits_listed {listed : Array Bool} {m : Nat} {o : Oper} (hw : waitsFor m o = true) (hall : ∀ e ∈ o.after, Region.binds .any e = true → listed.getD e.on false = true) : listed.getD m false = true := by
  unfold waitsFor at hw
  obtain ⟨e, he, hb⟩ := Array.any_eq_true'.1 hw
  simp only [Bool.and_eq_true, beq_iff_eq] at hb
  rw [← hb.2]
  exact hall e he hb.1

theorem ancs_spec {listed : Array Bool} {k : Nat} (hc : Closed .any ops listed) (hk : k ∈ Region.ready .any ops listed) : ∀ (m : Nat) (l : List Nat), (∀ x ∈ l, x = k ∨ listed.getD x false = true) →
    ∀ x ∈ ancs ops m l, x = k ∨ listed.getD x false = true
  | 0, l, h, x, hx => h x hx
  | m + 1, l, h, x, hx => by
    unfold ancs at hx
    split at hx
    · rename_i ha
      refine ancs_spec hc hk m _ (fun y hy => ?_) x hx
      rcases List.mem_cons.1 hy with rfl | hy
      · refine .inr ?_
        obtain ⟨z, hz, hw⟩ := List.any_eq_true.1 ha
        cases ho : ops[z]? with
        | none => rw [ho] at hw; cases hw
        | some o =>
          rw [ho] at hw
          simp only at hw
          rcases h z hz with rfl | hl
          · obtain ⟨_, o', ho', hall⟩ := mem_ready.1 hk
            rw [ho] at ho'; cases ho'
            exact waits_listed hw hall
          · exact waits_listed hw (hc z o ho (getD_ft hl))
      · exact h y hy
    · exact ancs_spec hc hk m _ h x hx

theorem behind_spec {listed : Array Bool} {i k : Nat} {oi ok : Oper} (hc : Closed .any ops listed) (hk : k ∈ Region.ready .any ops listed) (hok : ops[k]? = some ok) (hoi : ops[i]? = some oi) (hik : i < k)
    (hun : listed.getD i true = false) (h : behind ops k ok = true) : fence ok.op = false ∨ (light oi.op = true ∧ isAppend ok.op = false) := by
  unfold behind at h
  simp only [Bool.or_eq_true, Bool.not_eq_true', List.all_eq_true, List.mem_range, Bool.and_eq_true] at h
  rcases h with h | h
  · exact .inl h
  · right
    rcases h i hik with h | h
    · have hm : i ∈ ancs ops k [k] := by simpa using h
      rcases ancs_spec hc hk k [k] (fun x hx => .inl (by simpa using hx)) i hm with rfl | hl
      · omega
      · have := getD_ft hl
        rw [hun] at this; cases this
    · rw [hoi] at h
      exact h

theorem fenceFrom_spec (l : List Oper) : ∀ (k i j : Nat) (oi oj : Oper), fenceFrom k l = true → l[i]? = some oi → l[j]? = some oj → i < j → fence oi.op = true → waitsFor (k + i) oj = true := by
  induction l with
  | nil => intro k i j oi oj h hi; simp at hi
  | cons o l ih =>
    intro k i j oi oj h hi hj hij hf
    cases j with
    | zero => omega
    | succ j =>
      simp only [List.getElem?_cons_succ] at hj
      rw [fenceFrom, Bool.and_eq_true] at h
      cases i with
      | zero =>
        simp only [List.getElem?_cons_zero, Option.some.injEq] at hi
        subst hi
        have h1 := h.1
        rw [hf] at h1
        simp only [Bool.not_true, Bool.false_or, List.all_eq_true] at h1
        exact h1 oj (List.mem_of_getElem? hj)
      | succ i =>
        simp only [List.getElem?_cons_succ] at hi
        have := ih (k + 1) i j oi oj h.2 hi hj (by omega) hf
        rw [show k + (i + 1) = k + 1 + i by omega]
        exact this

theorem wpAnyA_first {Q : KontS} {i : Nat} {oi : Oper} {v : AV} (hi : ops[i]? = some oi) (hfen : ∀ k o, ops[k]? = some o → behind ops k o = true) :
    ∀ (fuel : Nat) (listed : Array Bool) (f : Nat → AV) (H : Heap) (n : Nat),
      Closed .any ops listed → (∀ m < i, listed.getD m true = true) →
      (∀ j oj, ops[j]? = some oj → j ≠ i → listed.getD j true = false → (∀ e ∈ oj.after, Region.binds .any e = true → e.on ≠ i) → oi.apart ops oj = true) →
      i ∈ Region.ready .any ops listed → YA E ops oi v f H n →
      wpAnyA E .any ops Q fuel (listed.setIfInBounds i true) (updO f oi.dst v) H n → wpAnyA E .any ops Q (fuel + 1) listed f H n := by
  intro fuel
  induction fuel with
  | zero =>
    intro listed f H n _ _ _ hr hy hw
    refine ⟨fun h => (by rw [h] at hr; cases hr), fun j hj => ?_⟩
    by_cases hji : j = i
    · subst hji; unfold stA; rw [hi]; exact hy.step hw
    · have := ready_mono hj hji
      rw [hw.1] at this
      cases this
  | succ fuel ih =>
    intro listed f H n hc hlow hfree hr hy hw
    refine ⟨fun h => (by rw [h] at hr; cases hr), fun j hj => ?_⟩
    by_cases hji : j = i
    · subst hji; unfold stA; rw [hi]; exact hy.step hw
    · have h1 := hw.2 j (ready_mono hj hji)
      obtain ⟨hjun, oj, hoj, hall⟩ := mem_ready.1 hj
      have hiun := (mem_ready.1 hr).1
      have hnot : ∀ e ∈ oj.after, Region.binds .any e = true → e.on ≠ i := fun e he hb heq => by
        have h1 := hall e he hb
        rw [heq] at h1
        have := getD_ft h1
        rw [hiun] at this; cases this
      have hij : i < j := by
        rcases Nat.lt_or_ge j i with hlt | hge
        · have := hlow j hlt
          rw [hjun] at this; cases this
        · omega
      unfold stA at h1 ⊢
      rw [hoj] at h1 ⊢
      have h2 := step_past (hfree j oj hoj hji hjun hnot) (behind_spec hc hj hoj hi hij hiun (hfen j oj hoj)) hy h1
      refine stepK_mono (fun f' H' n' h3 => ?_) rfl h2
      refine ih (listed.setIfInBounds j true) f' H' n' (hc.step hj) (fun m hm => ?_) (fun k ok hk hki hun hno => ?_) (ready_mono hr (Ne.symm hji)) h3.1 ?_
      · rw [getD_set_ne true (by omega)]; exact hlow m hm
      · refine hfree k ok hk hki ?_ hno
        by_cases hjk : j = k
        · subst hjk; exact hjun
        · rw [getD_set_ne true hjk] at hun; exact hun
      · rw [Array.setIfInBounds_comm _ _ hji]
        exact h3.2

/-! ### The order of the text -/

abbrev Info := Option Tmp × List Tmp × List Nat
def waitsL : List Edge → List Nat
  | [] => []
  | e :: r => bif Region.binds .any e then e.on :: waitsL r else waitsL r
def infoOf (ops : Array Oper) (o : Oper) : Info := (o.dst, o.looksAt ops, waitsL o.after.toList)
def apartI (x y : Info) : Bool :=
  (match x.1 with
    | some d => !memB d y.2.1 && (match y.1 with | some e => !Nat.beq e d | none => true)
    | none => true) &&
  (match y.1 with | some e => !memB e x.2.1 | none => true)
def belowB (k : Nat) : List Nat → Bool
  | [] => true
  | i :: r => bif Nat.blt i k then belowB k r else false
def passB (k : Nat) (x : Info) : List Info → Bool
  | [] => true
  | y :: r => bif memB k y.2.2 || apartI x y then passB k x r else false
def lexI : Nat → List Info → Bool
  | _, [] => true
  | k, x :: r => bif belowB k x.2.2 && passB k x r then lexI (k + 1) r else false
/-- The region may be walked in the order of its text. -/
def textB (ops : Array Oper) : Bool := lexI 0 (ops.toList.map (infoOf ops)) && fenced ops

theorem memB_true {i : Nat} : ∀ {l : List Nat}, i ∈ l → memB i l = true
  | j :: r, h => by
    simp only [memB]
    cases hb : Nat.beq i j with
    | true => rfl
    | false =>
      rcases List.mem_cons.1 h with rfl | h
      · simp at hb
      · exact memB_true h

theorem mem_of_memB {i : Nat} : ∀ {l : List Nat}, memB i l = true → i ∈ l
  | [], h => by cases h
  | j :: r, h => by
    simp only [memB] at h
    cases hb : Nat.beq i j with
    | true => rw [Nat.eq_of_beq_eq_true hb]; simp
    | false => rw [hb] at h; simp [mem_of_memB h]

theorem mem_waitsL {e : Edge} : ∀ {l : List Edge}, e ∈ l → Region.binds .any e = true → e.on ∈ waitsL l
  | x :: r, h, hb => by
    simp only [waitsL]
    rcases List.mem_cons.1 h with rfl | h
    · rw [hb]; simp
    · have := mem_waitsL h hb
      cases Region.binds .any x <;> simp [this]

theorem waitsL_mem {i : Nat} : ∀ {l : List Edge}, i ∈ waitsL l → ∃ e ∈ l, Region.binds .any e = true ∧ e.on = i
  | x :: r, h => by
    simp only [waitsL] at h
    cases hb : Region.binds .any x with
    | true =>
      rw [hb] at h
      rcases List.mem_cons.1 h with rfl | h
      · exact ⟨x, by simp, hb, rfl⟩
      · obtain ⟨e, he, h2⟩ := waitsL_mem h
        exact ⟨e, by simp [he], h2⟩
    | false =>
      rw [hb] at h
      obtain ⟨e, he, h2⟩ := waitsL_mem h
      exact ⟨e, by simp [he], h2⟩

theorem belowB_all {k : Nat} : ∀ {l : List Nat}, belowB k l = true → ∀ i ∈ l, i < k
  | [], _, i, hi => by cases hi
  | j :: r, h, i, hi => by
    simp only [belowB] at h
    cases hb : Nat.blt j k with
    | false => rw [hb] at h; cases h
    | true =>
      rw [hb] at h
      rcases List.mem_cons.1 hi with rfl | hi
      · simpa [Nat.blt_eq] using hb
      · exact belowB_all h i hi

theorem passB_all {k : Nat} {x : Info} : ∀ {l : List Info}, passB k x l = true → ∀ y ∈ l, (memB k y.2.2 || apartI x y) = true
  | [], _, y, hy => by cases hy
  | z :: r, h, y, hy => by
    simp only [passB] at h
    cases hb : (memB k z.2.2 || apartI x z) with
    | false => rw [hb] at h; cases h
    | true =>
      rw [hb] at h
      rcases List.mem_cons.1 hy with rfl | hy
      · exact hb
      · exact passB_all h y hy

theorem lexI_spec : ∀ {l : List Info} {k i : Nat} {x : Info}, lexI k l = true → l[i]? = some x → (∀ m ∈ x.2.2, m < k + i) ∧ ∀ j y, i < j → l[j]? = some y → (memB (k + i) y.2.2 || apartI x y) = true
  | [], _, _, _, _, h => by simp at h
  | z :: r, k, i, x, h, hi => by
    simp only [lexI] at h
    cases hb : (belowB k z.2.2 && passB k z r) with
    | false => rw [hb] at h; cases h
    | true =>
      rw [hb] at h
      simp only [Bool.and_eq_true] at hb
      cases i with
      | zero =>
        simp only [List.getElem?_cons_zero, Option.some.injEq] at hi
        subst hi
        refine ⟨belowB_all hb.1, fun j y hj hy => ?_⟩
        cases j with
        | zero => omega
        | succ j => exact passB_all hb.2 y (List.mem_of_getElem? (by simpa using hy))
      | succ i =>
        simp only [List.getElem?_cons_succ] at hi
        obtain ⟨h1, h2⟩ := lexI_spec h hi
        rw [show k + (i + 1) = k + 1 + i by omega]
        refine ⟨h1, fun j y hj hy => ?_⟩
        cases j with
        | zero => omega
        | succ j => exact h2 j y (by omega) (by simpa using hy)

theorem apartI_spec {ox oy : Oper} (h : apartI (infoOf ops ox) (infoOf ops oy) = true) : ox.apart ops oy = true := by
  have nm : ∀ {i : Nat} {l : List Nat}, memB i l = false → l.contains i = false := fun {i l} h => by
    cases hc : l.contains i
    · rfl
    · have := memB_true (List.contains_iff_mem.1 hc)
      rw [h] at this; cases this
  unfold apartI infoOf at h
  simp only [Bool.and_eq_true] at h
  unfold Oper.apart
  rw [Bool.and_eq_true]
  constructor
  · cases hd : ox.dst with
    | none => rfl
    | some d =>
      rw [hd] at h
      have h1 := h.1
      simp only [Bool.and_eq_true, Bool.not_eq_true'] at h1
      simp only [nm h1.1, Bool.not_false, Bool.true_and]
      cases he : oy.dst with
      | none => rfl
      | some e =>
        rw [he] at h1
        have h2 := h1.2
        simp only [Bool.not_eq_true'] at h2
        have : e ≠ d := Nat.ne_of_beq_eq_false h2
        simp [this]
  · cases he : oy.dst with
    | none => rfl
    | some e =>
      rw [he] at h
      have h2 := h.2
      simp only [Bool.not_eq_true'] at h2
      simp only [nm h2, Bool.not_false]

/-- What the check of the text's order says. -/
theorem lex_free {k : Nat} {ok : Oper} (h : lexI 0 (ops.toList.map (infoOf ops)) = true) (hk : ops[k]? = some ok) :
    (∀ e ∈ ok.after, Region.binds .any e = true → e.on < k) ∧ ∀ j oj, k < j → ops[j]? = some oj → (∀ e ∈ oj.after, Region.binds .any e = true → e.on ≠ k) → ok.apart ops oj = true := by
  have hk' : (ops.toList.map (infoOf ops))[k]? = some (infoOf ops ok) := by simp [hk]
  obtain ⟨h1, h2⟩ := lexI_spec h hk'
  rw [Nat.zero_add] at h1 h2
  refine ⟨fun e he hb => h1 e.on (mem_waitsL (by simpa using he) hb), fun j oj hj hoj hno => ?_⟩
  have hj' : (ops.toList.map (infoOf ops))[j]? = some (infoOf ops oj) := by simp [hoj]
  have := h2 j _ hj hj'
  rw [Bool.or_eq_true] at this
  rcases this with h3 | h3
  · obtain ⟨e, he, hb, hon⟩ := waitsL_mem (mem_of_memB h3)
    exact absurd hon (hno e (by simpa using he) hb)
  · exact apartI_spec h3

theorem wpAnyA_lex {Q : KontS} (hfen : ∀ k o, ops[k]? = some o → behind ops k o = true) (hff : fenceFrom 0 ops.toList = true) (hlex : lexI 0 (ops.toList.map (infoOf ops)) = true) : ∀ (l : List Oper) (k : Nat) (listed : Array Bool) (f : Nat → AV) (H : Heap) (n : Nat),
    (∀ j, l[j]? = ops[k + j]?) → Closed .any ops listed → (∀ m < k, listed.getD m true = true) → listed.size = ops.size → (∀ m, k ≤ m → m < ops.size → listed.getD m true = false) →
    opsK E true ops.toList l Q f H n → wpAnyA E .any ops Q l.length listed f H n
  | [], k, listed, _, _, _, hl, _, hlow, hsz, _, h => by
    refine ⟨?_, h⟩
    cases hr : Region.ready .any ops listed with
    | nil => rfl
    | cons j r =>
      have hj : j ∈ Region.ready .any ops listed := by rw [hr]; simp
      obtain ⟨h1, o, ho, _⟩ := mem_ready.1 hj
      have hk : ops[k]? = none := by simpa using (hl 0).symm
      have hlt := (Array.getElem?_eq_some_iff.1 ho).1
      have hge : ops.size ≤ k := by simpa using hk
      rw [hlow j (by omega)] at h1
      cases h1
  | o :: l, k, listed, f, H, n, hl, hc, hlow, hsz, hup, h => by
    have h0 : ops[k]? = some o := by simpa using (hl 0).symm
    have hklt := (Array.getElem?_eq_some_iff.1 h0).1
    obtain ⟨hbel, hfree⟩ := lex_free hlex h0
    have hr' : k ∈ Region.ready .any ops listed := mem_ready.2 ⟨hup k (Nat.le_refl k) hklt, o, h0, fun e he hb => by
      have hlt := hbel e he hb
      have := hlow e.on hlt
      have hs : e.on < listed.size := by omega
      simpa [hs] using this⟩
    have hl' : ∀ j, l[j]? = ops[k + 1 + j]? := fun j => by have := hl (j + 1); simpa [Nat.add_assoc, Nat.add_comm 1 j] using this
    have hlow' : ∀ m < k + 1, (listed.setIfInBounds k true).getD m true = true := fun m hm => by
      by_cases hmk : k = m
      · subst hmk
        rcases Nat.lt_or_ge k listed.size with h' | h'
        · simp [h']
        · simp [h']
      · rw [getD_set_ne true hmk]; exact hlow m (by omega)
    have again := fun f H n (hh : opsK E true ops.toList l Q f H n) => wpAnyA_lex (Q := Q) hfen hff hlex l (k + 1) (listed.setIfInBounds k true) f H n hl' (hc.step hr') hlow' (by simpa using hsz)
      (fun m hm hms => by rw [getD_set_ne true (by omega)]; exact hup m (by omega) hms) hh
    have hfr : ∀ j oj, ops[j]? = some oj → j ≠ k → listed.getD j true = false → (∀ e ∈ oj.after, Region.binds .any e = true → e.on ≠ k) → o.apart ops oj = true := fun j oj hj hne hun hno => by
      refine hfree j oj ?_ hj hno
      rcases Nat.lt_or_ge j k with hlt | hge
      · rw [hlow j hlt] at hun; cases hun
      · omega
    cases hfo : fence o.op with
    | false =>
      obtain ⟨v, hy, hK⟩ := step_out (H := H) (n := n) (h : stepK E true ops.toList o (opsK E true ops.toList l Q) f H n) hfo
      exact wpAnyA_first h0 hfen l.length listed f H n hc hlow hfr hr' hy (again _ _ _ hK)
    | true =>
      refine ⟨fun h => (by rw [h] at hr'; cases hr'), fun j hj => ?_⟩
      by_cases hjk : j = k
      · subst hjk
        unfold stA
        rw [h0]
        exact stepK_mono again rfl h
      · obtain ⟨hjun, oj, hoj, hall⟩ := mem_ready.1 hj
        have hkj : k < j := by
          rcases Nat.lt_or_ge j k with hlt | hge
          · have := hlow j hlt
            rw [hjun] at this; cases this
          · omega
        have hw := fenceFrom_spec ops.toList 0 k j o oj hff (by simpa using h0) (by simpa using hoj) hkj hfo
        rw [Nat.zero_add] at hw
        have := getD_ft (waits_listed hw hall)
        rw [(mem_ready.1 hr').1] at this
        cases this
end
end Go.Qv
