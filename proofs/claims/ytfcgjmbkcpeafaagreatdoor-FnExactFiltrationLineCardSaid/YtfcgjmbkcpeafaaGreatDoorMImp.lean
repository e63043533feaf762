/- PROVED: for every input the law FnExactFiltrationLine returns true and each argument reads afterwards as it read before (the statement 'FnExactFiltrationLineCardSaid' of the given Rows).
Conditions: none beyond those which the given statement itself names. This text is one part of the proof. -/
import Derived.Test.YtfcgjmbkcpeafaaGreatDoorMCall

/- The abstract machine: a call's result taken over, and the call. -/
namespace Go.Qv
open Go Go.RowKit

section
variable {P : Program} {A : Nat → Prop} {c : Ctx} {d : Nat} {H : Nat → Option Blk} {n : Nat} {T : TT}

/-- Fresh blocks, not yet named. -/
structure St (P : Program) (A : Nat → Prop) (c : Ctx) (d : Nat) (H : Nat → Option Blk) (n : Nat) (gs : List Nat) : Prop where
  ok : HeapOk P A c d H n
  fresh : ∀ g ∈ gs, A g ∧ g < c.w.heap.size ∧ ¬ c.S1 g ∧ ∀ id b r, H id = some b → c.ρ id = some r → r.virt = false → r.g ≠ g
  nd : gs.Nodup

theorem at_le {h : HeapOk P A c d H n} {r : Own} : c.Le (c.at c.w n r) [] := by
  refine ⟨fun _ h => h, fun _ h => h, fun _ _ => rfl, fun id r' hr' _ => ?_⟩
  have : id ≠ n := fun e => by have := (h.top id (by omega)).1; rw [this] at hr'; cases hr'
  simp [Ctx.at, this, hr']

/-- A block comes by a number. -/
theorem adopt_ok (h : HeapOk P A c d H n) {r : Own} {b : Blk} (hbr : BR P (c.at c.w n r) d r b) (hf : r.virt = false → A r.g ∧ r.g < c.w.heap.size ∧ ¬ c.S1 r.g ∧ ∀ id b r', H id = some b → c.ρ id = some r' → r'.virt = false → r'.g ≠ r.g) :
    HeapOk P A (c.at c.w n r) d (hup H n (some b)) (n + 1) := by
  refine h.step (at_le (h := h)) rfl (Nat.le_refl _) (Nat.le_refl _) h.s1 (fun j hj => ?_) fun j bj hj => ?_
  · have hne : j ≠ n := by omega
    exact ⟨by simp [Ctx.at, hne, (h.top j (by omega)).1], by simp [hup_ne hne, (h.top j (by omega)).2]⟩
  · by_cases hid : j = n
    · subst hid
      rw [hup_same] at hj; cases hj
      refine .inr ⟨r, by simp [Ctx.at], hbr, fun hv => ⟨(hf hv).1, (hf hv).2.1, (hf hv).2.2.1, fun k bk rk hk hbk hrk hvk => ?_⟩⟩
      rw [hup_ne hk] at hbk
      simp [Ctx.at, hk] at hrk
      exact (hf hv).2.2.2 k bk rk hbk hrk hvk
    · rw [hup_ne hid] at hj
      obtain ⟨rj, h1, _, h3⟩ := h.blk j bj hj
      exact .inl ⟨bj, rj, hj, (killB_nil bj).symm, h1, by simp [Ctx.at, hid, h1], fun hv => ⟨rfl, (h3 hv).2.2⟩⟩

theorem St.adopt {g : Nat} {gs : List Nat} (h : St P A c d H n (g :: gs)) {r : Own} {b : Blk} (hg : r.g = g) (hbr : BR P (c.at c.w n r) d r b) : St P A (c.at c.w n r) d (hup H n (some b)) (n + 1) gs := by
  have hfg := h.fresh g (by simp)
  have hnd := List.nodup_cons.1 h.nd
  refine ⟨adopt_ok h.ok hbr fun _ => by rw [hg]; exact hfg, fun g' hg' => ?_, hnd.2⟩
  have hf := h.fresh g' (by simp [hg'])
  refine ⟨hf.1, hf.2.1, hf.2.2.1, fun id b' r' hb' hr' hv' => ?_⟩
  by_cases hid : id = n
  · subst hid
    simp [Ctx.at] at hr'
    subst hr'
    rw [hg]; rintro rfl; exact hnd.1 hg'
  · rw [hup_ne hid] at hb'
    simp [Ctx.at, hid] at hr'
    exact hf.2.2.2 id b' r' hb' hr' hv'

theorem St.adoptV {gs : List Nat} (h : St P A c d H n gs) {r : Own} {b : Blk} (hv : r.virt = true) (hbr : BR P (c.at c.w n r) d r b) : St P A (c.at c.w n r) d (hup H n (some b)) (n + 1) gs := by
  refine ⟨adopt_ok h.ok hbr fun hv' => (by rw [hv] at hv'; cases hv'), fun g' hg' => ?_, h.nd⟩
  have hf := h.fresh g' hg'
  refine ⟨hf.1, hf.2.1, hf.2.2.1, fun id b' r' hb' hr' hv' => ?_⟩
  by_cases hid : id = n
  · subst hid
    simp [Ctx.at] at hr'
    subst hr'
    rw [hv] at hv'; cases hv'
  · rw [hup_ne hid] at hb'
    simp [Ctx.at, hid] at hr'
    exact hf.2.2.2 id b' r' hb' hr' hv'

/-- How the callee's world is seen from the caller. -/
structure View (cR c : Ctx) (F : Bool) : Prop where
  own : ∀ id, cR.ρ id = none
  w : c.w = cR.w
  sm : ∀ m b, (m = true → F = false) → Sm cR.S0 cR.S1 m b → Sm c.S0 c.S1 m b

theorem View.at {cR : Ctx} {F : Bool} (h : View cR c F) (r : Own) : View cR (c.at c.w n r) F := ⟨h.own, h.w, h.sm⟩

theorem View.rd {cR : Ctx} {F : Bool} (h : View cR c F) {m : Bool} {x : D} {u : Value} (hm : m = true → F = false) (hr : RD (Sm cR.S0 cR.S1 m) cR.w d x u) : RD (Sm c.S0 c.S1 m) c.w d x u :=
  RD.imp (fun b hb => h.sm m b hm hb) (fun b _ => by rw [h.w]) _ _ _ hr

/-- One part of a result. -/
theorem leaf_own {cR : Ctx} {F : Bool} (hv : View cR c F) {v : AV} {u : Value} {g1 gs : List Nat} (h : St P A c d H n (g1 ++ gs)) (hr : RFs P cR d v u g1) (hf : F = true → forFree v = true) :
    ∃ c', St P A c' d (match v with | .fs e m cs _ => hup H n (some (.row e m cs)) | _ => H) (match v with | .fs _ _ _ _ => n + 1 | _ => n) gs ∧ c.Le c' [] ∧ c'.w = c.w ∧ c'.S0 = c.S0 ∧ c'.S1 = c.S1 ∧ RA c' d (match v with | .fs _ _ _ k => .ow n k | v => v) u := by
  have plain : ∀ v, (match v with | AV.fs _ _ _ _ => False | _ => True) → RFs P cR d v u g1 → (F = true → forFree v = true) → g1 = [] ∧ RA c d v u := fun v hv' hr hf => by
    cases v <;> simp only [RFs] at hr <;> first
      | exact hv'.elim
      | exact ⟨hr.2, RA.move hv.own hv.w hv.sm _ _ _ hr.1 hf⟩
  cases v
  case fs e m cs k =>
    obtain ⟨hlen, hr⟩ := hr
    have hm : m = true → F = false := fun e => by cases F; rfl; have := hf rfl; simp [forFree, e] at this
    rcases hr with ⟨rfl, rfl, rfl, a, rfl⟩ | ⟨g, cap, arr, rfl, rfl, hkc, hcm, hw, has, hall⟩
    · refine ⟨c.at c.w n ⟨0, 0, P.cellsOf e, 0, true⟩, St.adoptV (by simpa using h) rfl ⟨rfl, by simp, .inl ⟨rfl, rfl⟩⟩, at_le (h := h.ok), rfl, rfl, rfl, ?_⟩
      exact RA.mk_ow (r := ⟨0, 0, P.cellsOf e, 0, true⟩) (by simp [Ctx.at]) rfl (.inl ⟨rfl, rfl, a, rfl⟩)
    · refine ⟨c.at c.w n ⟨g, cap * P.cellsOf e, P.cellsOf e, k, false⟩, St.adopt (by simpa using h) rfl ⟨rfl, hlen, .inr ⟨rfl, arr, by show c.w.heap[g]? = _; rw [hv.w]; exact hw, has, ?_, fun i x hx => ?_⟩⟩, at_le (h := h.ok), rfl, rfl, rfl, ?_⟩
      · rw [hlen, has]; exact Nat.mul_le_mul_right _ hkc
      · obtain ⟨u, hu, hrd⟩ := hall i x hx
        exact ⟨u, hu, hv.rd hm hrd⟩
      · exact RA.mk_ow (r := ⟨g, cap * P.cellsOf e, P.cellsOf e, k, false⟩) (by simp [Ctx.at]) rfl (.inr ⟨rfl, cap, rfl, rfl, hkc, hcm⟩)
  all_goals
    obtain ⟨rfl, hra⟩ := plain _ trivial hr hf
    exact ⟨c, by simpa using h, Ctx.Le.refl c, rfl, rfl, rfl, hra⟩

theorem View.same {cR c' : Ctx} {F : Bool} (h : View cR c F) (hw : c'.w = c.w) (h0 : c'.S0 = c.S0) (h1 : c'.S1 = c.S1) : View cR c' F :=
  ⟨h.own, hw.trans h.w, fun m b hm hb => by rw [h0, h1]; exact h.sm m b hm hb⟩

theorem cells_own {cR : Ctx} {F : Bool} : ∀ {vs : List AV} {us : List Value} {c : Ctx} {H : Nat → Option Blk} {n : Nat} {g1 gs : List Nat}, View cR c F → St P A c d H n (g1 ++ gs) → RFl (RFs P cR d) vs us g1 → (F = true → forFreeL vs = true) →
    ∃ c', St P A c' d (impCells H n vs).2.1 (impCells H n vs).2.2 gs ∧ c.Le c' [] ∧ c'.w = c.w ∧ c'.S0 = c.S0 ∧ c'.S1 = c.S1 ∧ All2 (RA c' d) (impCells H n vs).1 us
  | [], [], c, H, n, g1, gs, _, h, hr, _ => by
    simp only [RFl] at hr; subst hr
    exact ⟨c, by simpa [impCells] using h, Ctx.Le.refl c, rfl, rfl, rfl, by simp [impCells, All2]⟩
  | v :: vs, u :: us, c, H, n, g1, gs, hv, h, hr, hf => by
    obtain ⟨ga, gb, rfl, h1, h2⟩ := hr
    have hf1 : F = true → forFree v = true ∧ forFreeL vs = true := fun hF => by
      have := hf hF; simp only [forFreeL] at this; cases hx : forFree v <;> simp_all
    rw [List.append_assoc] at h
    obtain ⟨c1, hs1, hle1, hw1, h01, h11, hra⟩ := leaf_own hv h h1 fun hF => (hf1 hF).1
    obtain ⟨c2, hs2, hle2, hw2, h02, h12, hra2⟩ := cells_own (hv.same hw1 h01 h11) hs1 h2 fun hF => (hf1 hF).2
    refine ⟨c2, ?_, hle1.trans hle2, hw2.trans hw1, h02.trans h01, h12.trans h11, ?_⟩
    · cases v <;> simpa [impCells] using hs2
    · cases v <;> simp only [impCells, All2] <;> exact ⟨RA.ctx hle2 _ _ _ hra, hra2⟩
  | [], _ :: _, _, _, _, _, _, _, _, hr, _ => hr.elim
  | _ :: _, [], _, _, _, _, _, _, _, hr, _ => hr.elim

theorem val_own {cR : Ctx} {F : Bool} {v : AV} {u : Value} {g1 gs : List Nat} (hv : View cR c F) (h : St P A c d H n (g1 ++ gs)) (hr : RF1 P cR d v u g1) (hf : F = true → forFree v = true) :
    ∃ c', St P A c' d (impV H n v).2.1 (impV H n v).2.2 gs ∧ c.Le c' [] ∧ c'.w = c.w ∧ c'.S0 = c.S0 ∧ c'.S1 = c.S1 ∧ RA c' (d + 1) (impV H n v).1 u := by
  by_cases hag : ∃ cs, v = .agg cs
  · obtain ⟨cs, rfl⟩ := hag
    obtain ⟨vs, rfl, hl⟩ := hr
    obtain ⟨c', h1, h2, h3, h4, h5, h6⟩ := cells_own hv h hl (by simpa [forFree] using hf)
    exact ⟨c', h1, h2, h3, h4, h5, ⟨vs, rfl, h6⟩⟩
  · have hr' : RFs P cR d v u g1 := by cases v <;> first | exact hr | exact absurd ⟨_, rfl⟩ hag
    obtain ⟨c', h1, h2, h3, h4, h5, h6⟩ := leaf_own hv h hr' hf
    refine ⟨c', ?_, h2, h3, h4, h5, RA.up _ _ _ ?_⟩
    · cases v <;> first | exact h1 | exact absurd ⟨_, rfl⟩ hag
    · cases v <;> first | exact h6 | exact absurd ⟨_, rfl⟩ hag

theorem vals_own {cR : Ctx} {F : Bool} : ∀ {vs : List AV} {us : List Value} {c : Ctx} {H : Nat → Option Blk} {n : Nat} {g1 gs : List Nat}, View cR c F → St P A c d H n (g1 ++ gs) → RFl (RF1 P cR d) vs us g1 → (F = true → forFreeL vs = true) →
    ∃ c', St P A c' d (impVs H n vs).2.1 (impVs H n vs).2.2 gs ∧ c.Le c' [] ∧ c'.w = c.w ∧ c'.S0 = c.S0 ∧ c'.S1 = c.S1 ∧ All2 (RA c' (d + 1)) (impVs H n vs).1 us
  | [], [], c, H, n, g1, gs, _, h, hr, _ => by
    simp only [RFl] at hr; subst hr
    exact ⟨c, by simpa [impVs] using h, Ctx.Le.refl c, rfl, rfl, rfl, by simp [impVs, All2]⟩
  | v :: vs, u :: us, c, H, n, g1, gs, hv, h, hr, hf => by
    obtain ⟨ga, gb, rfl, h1, h2⟩ := hr
    have hf1 : F = true → forFree v = true ∧ forFreeL vs = true := fun hF => by
      have := hf hF; simp only [forFreeL] at this; cases hx : forFree v <;> simp_all
    rw [List.append_assoc] at h
    obtain ⟨c1, hs1, hle1, hw1, h01, h11, hra⟩ := val_own hv h h1 fun hF => (hf1 hF).1
    obtain ⟨c2, hs2, hle2, hw2, h02, h12, hra2⟩ := vals_own (hv.same hw1 h01 h11) hs1 h2 fun hF => (hf1 hF).2
    exact ⟨c2, hs2, hle1.trans hle2, hw2.trans hw1, h02.trans h01, h12.trans h11, ⟨RA.ctx hle2 _ _ _ hra, hra2⟩⟩
  | [], _ :: _, _, _, _, _, _, _, _, hr, _ => hr.elim
  | _ :: _, [], _, _, _, _, _, _, _, hr, _ => hr.elim

theorem res_own {cR : Ctx} {F : Bool} {v : AV} {u : Value} {gs : List Nat} (hv : View cR c F) (h : St P A c d H n gs) (hr : RF P cR d v u gs) (hf : F = true → forFree v = true) :
    ∃ c', HeapOk P A c' d (impOwn H n v).2.1 (impOwn H n v).2.2 ∧ c.Le c' [] ∧ c'.w = c.w ∧ c'.S0 = c.S0 ∧ c'.S1 = c.S1 ∧ RA c' (d + 2) (impOwn H n v).1 u := by
  have h' : St P A c d H n (gs ++ []) := by simpa using h
  by_cases hag : ∃ cs, v = .tup cs
  · obtain ⟨cs, rfl⟩ := hag
    obtain ⟨vs, rfl, hl⟩ := hr
    obtain ⟨c', h1, h2, h3, h4, h5, h6⟩ := vals_own hv h' hl (by simpa [forFree] using hf)
    exact ⟨c', h1.ok, h2, h3, h4, h5, ⟨vs, rfl, h6⟩⟩
  · have hr' : RF1 P cR d v u gs := by cases v <;> first | exact hr | exact absurd ⟨_, rfl⟩ hag
    obtain ⟨c', h1, h2, h3, h4, h5, h6⟩ := val_own hv h' hr' hf
    refine ⟨c', ?_, h2, h3, h4, h5, RA.up _ _ _ ?_⟩
    · cases v <;> first | exact h1.ok | exact absurd ⟨_, rfl⟩ hag
    · cases v <;> first | exact h6 | exact absurd ⟨_, rfl⟩ hag

/-! Read-only. -/

theorem leaf_ro {cR : Ctx} {F : Bool} (hv : View cR c F) {v : AV} {u : Value} {g1 : List Nat} (hg : ∀ g ∈ g1, c.S1 g) (hr : RFs P cR d v u g1) (hf : F = true → forFree v = true) : RA c (d + 1) (roS v) u := by
  have plain : ∀ v, (match v with | AV.fs _ _ _ _ => False | _ => True) → RFs P cR d v u g1 → (F = true → forFree v = true) → RA c d v u := fun v hv' hr hf => by
    cases v <;> simp only [RFs] at hr <;> first
      | exact hv'.elim
      | exact RA.move hv.own hv.w hv.sm _ _ _ hr.1 hf
  cases v
  case fs e m cs k =>
    obtain ⟨hlen, hr⟩ := hr
    have hm : m = true → F = false := fun e => by cases F; rfl; have := hf rfl; simp [forFree, e] at this
    rcases hr with ⟨rfl, rfl, rfl, a, rfl⟩ | ⟨g, cap, arr, rfl, rfl, hkc, hcm, hw, has, hall⟩
    · exact ⟨RD.empty a, fun h => by cases h⟩
    · refine ⟨⟨_, cap, rfl, hkc, hcm, ?_⟩, fun h => by cases h⟩
      by_cases hk : k = 0
      · subst hk; exact .inl ⟨rfl, List.eq_nil_of_length_eq_zero (by simpa using hlen)⟩
      · refine .inr ⟨hk, g, 0, rfl, .inr (hg g (by simp)), arr, e, (0, 0), by rw [hv.w]; exact hw, fun i x hx => ?_⟩
        obtain ⟨u, hu, hrd⟩ := hall i x hx
        exact ⟨u, by simpa using hu, hv.rd hm hrd⟩
  all_goals exact RA.up _ _ _ (plain _ trivial hr hf)

theorem cells_ro {cR : Ctx} {F : Bool} (hv : View cR c F) : ∀ {vs : List AV} {us : List Value} {g1 : List Nat}, (∀ g ∈ g1, c.S1 g) → RFl (RFs P cR d) vs us g1 → (F = true → forFreeL vs = true) → All2 (RA c (d + 1)) (roL vs) us
  | [], [], _, _, _, _ => by simp [roL, All2]
  | v :: vs, u :: us, g1, hg, hr, hf => by
    obtain ⟨ga, gb, rfl, h1, h2⟩ := hr
    have hf1 : F = true → forFree v = true ∧ forFreeL vs = true := fun hF => by
      have := hf hF; simp only [forFreeL] at this; cases hx : forFree v <;> simp_all
    exact ⟨leaf_ro hv (fun g h => hg g (by simp [h])) h1 fun hF => (hf1 hF).1, cells_ro hv (fun g h => hg g (by simp [h])) h2 fun hF => (hf1 hF).2⟩
  | [], _ :: _, _, _, hr, _ => hr.elim
  | _ :: _, [], _, _, hr, _ => hr.elim

theorem val_ro {cR : Ctx} {F : Bool} (hv : View cR c F) {v : AV} {u : Value} {g1 : List Nat} (hg : ∀ g ∈ g1, c.S1 g) (hr : RF1 P cR d v u g1) (hf : F = true → forFree v = true) : RA c (d + 2) (ro1 v) u := by
  by_cases hag : ∃ cs, v = .agg cs
  · obtain ⟨cs, rfl⟩ := hag
    obtain ⟨vs, rfl, hl⟩ := hr
    exact ⟨vs, rfl, cells_ro hv hg hl (by simpa [forFree] using hf)⟩
  · have hr' : RFs P cR d v u g1 := by cases v <;> first | exact hr | exact absurd ⟨_, rfl⟩ hag
    have := leaf_ro hv hg hr' hf
    cases v <;> first | exact RA.up _ _ _ this | exact absurd ⟨_, rfl⟩ hag

theorem vals_ro {cR : Ctx} {F : Bool} (hv : View cR c F) : ∀ {vs : List AV} {us : List Value} {g1 : List Nat}, (∀ g ∈ g1, c.S1 g) → RFl (RF1 P cR d) vs us g1 → (F = true → forFreeL vs = true) → All2 (RA c (d + 2)) (ro1L vs) us
  | [], [], _, _, _, _ => by simp [ro1L, All2]
  | v :: vs, u :: us, g1, hg, hr, hf => by
    obtain ⟨ga, gb, rfl, h1, h2⟩ := hr
    have hf1 : F = true → forFree v = true ∧ forFreeL vs = true := fun hF => by
      have := hf hF; simp only [forFreeL] at this; cases hx : forFree v <;> simp_all
    exact ⟨val_ro hv (fun g h => hg g (by simp [h])) h1 fun hF => (hf1 hF).1, vals_ro hv (fun g h => hg g (by simp [h])) h2 fun hF => (hf1 hF).2⟩
  | [], _ :: _, _, _, hr, _ => hr.elim
  | _ :: _, [], _, _, hr, _ => hr.elim

theorem res_ro {cR : Ctx} {F : Bool} (hv : View cR c F) {v : AV} {u : Value} {gs : List Nat} (hg : ∀ g ∈ gs, c.S1 g) (hr : RF P cR d v u gs) (hf : F = true → forFree v = true) : RA c (d + 3) (impRoT v) u := by
  by_cases hag : ∃ cs, v = .tup cs
  · obtain ⟨cs, rfl⟩ := hag
    obtain ⟨vs, rfl, hl⟩ := hr
    exact ⟨vs, rfl, vals_ro hv hg hl (by simpa [forFree] using hf)⟩
  · have hr' : RF1 P cR d v u gs := by cases v <;> first | exact hr | exact absurd ⟨_, rfl⟩ hag
    have := val_ro hv hg hr' hf
    cases v <;> first | exact RA.up _ _ _ this | exact absurd ⟨_, rfl⟩ hag
end

end Go.Qv
