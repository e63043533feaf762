/- PROVED: for every input the law FnExactFiltrationLine returns true and each argument reads afterwards as it read before (the statement 'FnExactFiltrationLineCardSaid' of the given Rows).
Conditions: none beyond those which the given statement itself names. This text is one part of the proof. -/
import Derived.Test.YtfcgjmbkcpeafaaGreatDoorMAop

/- The abstract machine: an operation comes to one outcome, and looks at its operands alone. -/
namespace Go.Qv
open Go
variable {T : TT} {H : Heap} {n : Nat}
def Ex1 (F : (AV → Prop) → Prop) : Prop := ∀ K, F K → ∃ r, K r ∧ ∀ K' : AV → Prop, K' r → F K'
theorem Ex1.k (r : AV) : Ex1 (fun K => K r) := fun _ h => ⟨r, h, fun _ h => h⟩
theorem Ex1.f : Ex1 (fun _ => False) := fun _ h => h.elim
theorem Ex1.a {p : Prop} {F : (AV → Prop) → Prop} (h : Ex1 F) : Ex1 (fun K => p ∧ F K) := fun K ⟨hp, hk⟩ => let ⟨r, h1, h2⟩ := h K hk; ⟨r, h1, fun K' h' => ⟨hp, h2 K' h'⟩⟩
theorem Ex1.e {α : Sort _} {F : α → (AV → Prop) → Prop} (h : ∀ a, Ex1 (F a)) : Ex1 (fun K => ∃ a, F a K) := fun K ⟨a, hk⟩ => let ⟨r, h1, h2⟩ := h a K hk; ⟨r, h1, fun K' h' => ⟨a, h2 K' h'⟩⟩
theorem Ex1.c {b : Bool} {F G : (AV → Prop) → Prop} (h : Ex1 F) (g : Ex1 G) : Ex1 (fun K => bif b then F K else G K) := by cases b <;> assumption

theorem arithK_ex {op : BinOp} {k : IntKind} {a b : Int} : Ex1 (arithK op k a b) := by
  unfold arithK
  repeat' first
    | exact Ex1.f | exact Ex1.k _ | apply Ex1.c | apply Ex1.a | (refine Ex1.e fun _ => ?_) | split
theorem binK_ex {op : BinOp} {t : TypeId} {x y : AV} : Ex1 (binK T op t x y) := by
  unfold binK
  repeat' first
    | exact arithK_ex | exact Ex1.f | exact Ex1.k _ | apply Ex1.c | apply Ex1.a | (refine Ex1.e fun _ => ?_) | split
theorem unK_ex {op : UnOp} {x : AV} : Ex1 (unK op x) := by
  unfold unK
  repeat' first
    | exact Ex1.f | exact Ex1.k _ | apply Ex1.c | apply Ex1.a | (refine Ex1.e fun _ => ?_) | split
theorem convK_ex {s d : TypeId} {x : AV} : Ex1 (convK T H s d x) := by
  unfold convK
  repeat' first
    | exact Ex1.f | exact Ex1.k _ | apply Ex1.c | apply Ex1.a | (refine Ex1.e fun _ => ?_) | split
theorem nilK_ex {op : BinOp} {t : TypeId} {x : AV} : Ex1 (nilK T true op t x) := by
  unfold nilK
  simp only [cond_true]
  repeat' first
    | exact Ex1.f | exact Ex1.k _ | apply Ex1.c | apply Ex1.a | (refine Ex1.e fun _ => ?_) | split
theorem natK_ex {x : AV} {F : Nat → (AV → Prop) → Prop} (h : ∀ k, Ex1 (F k)) : Ex1 (fun K => natK x fun k => F k K) := by
  unfold natK
  split
  · exact Ex1.e fun k => Ex1.a (h k)
  · exact Ex1.f
theorem sliceK_ex {t : TypeId} {x : AV} {lo hi mx : Option AV} : Ex1 (sliceK T H t x lo hi mx) := by
  unfold sliceK
  repeat' first
    | exact Ex1.f | exact Ex1.k _ | apply Ex1.c | apply Ex1.a | (refine Ex1.e fun _ => ?_) | (refine natK_ex fun _ => ?_) | split
theorem fieldAddrK_ex {s : TypeId} {x : AV} {f : Nat} : Ex1 (fieldAddrK T s x f) := by
  unfold fieldAddrK
  repeat' first
    | exact Ex1.f | exact Ex1.k _ | apply Ex1.c | apply Ex1.a | (refine Ex1.e fun _ => ?_) | split
theorem partK_ex {t : TypeId} {cs : List AV} {off : Nat} : Ex1 (partK T t cs off) := by
  unfold partK
  repeat' first
    | exact Ex1.f | exact Ex1.k _ | apply Ex1.c | apply Ex1.a | (refine Ex1.e fun _ => ?_) | split
theorem fieldK_ex {s : TypeId} {x : AV} {f : Nat} : Ex1 (fieldK T s x f) := by
  unfold fieldK
  repeat' first
    | exact partK_ex | exact Ex1.f | exact Ex1.k _ | apply Ex1.c | apply Ex1.a | (refine Ex1.e fun _ => ?_) | split
theorem indexAddrK_ex {t : TypeId} {x i : AV} : Ex1 (indexAddrK T t x i) := by
  unfold indexAddrK
  repeat' first
    | exact Ex1.f | exact Ex1.k _ | apply Ex1.c | apply Ex1.a | (refine Ex1.e fun _ => ?_) | split
theorem indexK_ex {t : TypeId} {x i : AV} : Ex1 (indexK T t x i) := by
  unfold indexK
  repeat' first
    | exact partK_ex | exact Ex1.f | exact Ex1.k _ | apply Ex1.c | apply Ex1.a | (refine Ex1.e fun _ => ?_) | split
theorem loadK_ex {t : TypeId} {a : AV} : Ex1 (loadK T H t a) := by
  unfold loadK
  repeat' first
    | exact Ex1.f | exact Ex1.k _ | apply Ex1.c | apply Ex1.a | (refine Ex1.e fun _ => ?_) | split
theorem buildK_ex {t : TypeId} {ps : List (Nat × AV)} : Ex1 (buildK T t ps) := by
  unfold buildK
  repeat' first
    | exact Ex1.f | exact Ex1.k _ | apply Ex1.c | apply Ex1.a | (refine Ex1.e fun _ => ?_) | split
theorem minmaxK_ex {f : Int → Int → Int} {xs : List AV} : Ex1 (minmaxK f xs) := fun K h => by
  unfold minmaxK at h
  split at h
  · rename_i k a k2 b
    cases hk : kEq k k2 with
    | false => rw [hk] at h; exact h.elim
    | true => rw [hk] at h; exact ⟨_, h, fun K' h' => by simp only [minmaxK, hk, cond_true]; exact h'⟩
  · exact h.elim

/-- One outcome: a value, the heap after it, the blocks given up, of which R tells. -/
def Ex4 (R : Heap → Nat → List Nat → Prop) (F : Kont → Prop) : Prop := ∀ K, F K → ∃ r H' n' ks, R H' n' ks ∧ K r H' n' ks ∧ ∀ K' : Kont, K' r H' n' ks → F K'
variable {R : Heap → Nat → List Nat → Prop}
theorem Ex4.k (r : AV) {H' : Heap} {n' : Nat} {ks : List Nat} (hR : R H' n' ks) : Ex4 R (fun K => K r H' n' ks) := fun _ h => ⟨r, H', n', ks, hR, h, fun _ h => h⟩
theorem Ex4.f : Ex4 R (fun _ => False) := fun _ h => h.elim
theorem Ex4.a {p : Prop} {F : Kont → Prop} (h : Ex4 R F) : Ex4 R (fun K => p ∧ F K) := fun K ⟨hp, hk⟩ => let ⟨r, a, b, c, h0, h1, h2⟩ := h K hk; ⟨r, a, b, c, h0, h1, fun K' h' => ⟨hp, h2 K' h'⟩⟩
theorem Ex4.e {α : Sort _} {F : α → Kont → Prop} (h : ∀ a, Ex4 R (F a)) : Ex4 R (fun K => ∃ a, F a K) := fun K ⟨a, hk⟩ => let ⟨r, x, b, c, h0, h1, h2⟩ := h a K hk; ⟨r, x, b, c, h0, h1, fun K' h' => ⟨a, h2 K' h'⟩⟩
theorem Ex4.c {b : Bool} {F G : Kont → Prop} (h : Ex4 R F) (g : Ex4 R G) : Ex4 R (fun K => bif b then F K else G K) := by cases b <;> assumption
theorem Ex4.of1 {F : (AV → Prop) → Prop} {H' : Heap} {n' : Nat} {ks : List Nat} (hR : R H' n' ks) (h : Ex1 F) : Ex4 R (fun K => F fun v => K v H' n' ks) := fun K hk => by
  obtain ⟨r, h1, h2⟩ := h _ hk
  exact ⟨r, H', n', ks, hR, h1, fun K' h' => h2 _ h'⟩
theorem Ex4.nat {x : AV} {F : Nat → Kont → Prop} (h : ∀ k, Ex4 R (F k)) : Ex4 R (fun K => natK x fun k => F k K) := by
  unfold natK
  split
  · exact Ex4.e fun k => Ex4.a (h k)
  · exact Ex4.f
theorem Ex4.mono {R' : Heap → Nat → List Nat → Prop} {F : Kont → Prop} (hR : ∀ a b c, R a b c → R' a b c) (h : Ex4 R F) : Ex4 R' F := fun K hk => let ⟨r, a, b, c, h0, h1, h2⟩ := h K hk; ⟨r, a, b, c, hR _ _ _ h0, h1, h2⟩

def noKs : Heap → Nat → List Nat → Prop := fun _ _ ks => ks = []
def sameH (H : Heap) (n : Nat) : Heap → Nat → List Nat → Prop := fun H' n' ks => H' = H ∧ n' = n ∧ ks = []

theorem storeK_ex {t : TypeId} {a v : AV} : Ex4 noKs (storeK T H n t a v) := by
  unfold storeK
  simp only [forceL_eq]
  repeat' first
    | exact Ex4.f | exact Ex4.k _ rfl | apply Ex4.c | apply Ex4.a | (refine Ex4.e fun _ => ?_) | split
theorem clearAt_ex {e : TypeId} {id off k : Nat} : Ex4 noKs (clearAt T H n e id off k) := by
  unfold clearAt
  repeat' first
    | exact Ex4.f | exact Ex4.k _ rfl | apply Ex4.c | apply Ex4.a | (refine Ex4.e fun _ => ?_) | split
theorem clearK_ex {ts : List TypeId} {args : List AV} : Ex4 noKs (clearK T H n ts args) := by
  unfold clearK
  repeat' first
    | exact clearAt_ex | exact Ex4.f | exact Ex4.k _ rfl | apply Ex4.c | apply Ex4.a | (refine Ex4.e fun _ => ?_) | split
theorem makeSliceK_ex {t : TypeId} {l c : AV} : Ex4 noKs (makeSliceK T H n t l c) := by
  unfold makeSliceK
  repeat' first
    | exact Ex4.f | exact Ex4.k _ rfl | apply Ex4.c | apply Ex4.a | (refine Ex4.e fun _ => ?_) | (refine Ex4.nat fun _ => ?_) | split
theorem buildSliceK_ex {t : TypeId} {k : Nat} {ps : List (Nat × AV)} : Ex4 (sameH H n) (buildSliceK T H n false t k ps) := by
  unfold buildSliceK
  repeat' first
    | exact Ex4.f | exact Ex4.k _ ⟨rfl, rfl, rfl⟩ | (simp only [cond_false]; exact Ex4.k _ ⟨rfl, rfl, rfl⟩) | apply Ex4.c | apply Ex4.a | (refine Ex4.e fun _ => ?_) | split
theorem appendK_ex {t : TypeId} {s x : AV} : Ex4 (fun _ _ _ => True) (appendK T H n t s x) := by
  unfold appendK
  repeat' first
    | exact Ex4.f | exact Ex4.k _ trivial | apply Ex4.c | apply Ex4.a | (refine Ex4.e fun _ => ?_) | split
theorem builtinK_ex {b : Builtin} {ts : List TypeId} {args : List AV} : Ex4 (fun H' n' ks => b ≠ .append → sameH H n H' n' ks) (builtinK T H n b ts args) := by
  unfold builtinK
  repeat' first
    | exact Ex4.f | exact Ex4.k _ (fun _ => ⟨rfl, rfl, rfl⟩) | exact Ex4.mono (fun _ _ _ _ h => absurd rfl h) appendK_ex | exact Ex4.of1 (fun _ => ⟨rfl, rfl, rfl⟩) minmaxK_ex | apply Ex4.c | apply Ex4.a | (refine Ex4.e fun _ => ?_) | split
theorem callK_ex {E : Env} {f : AV} {args : List AV} : Ex4 (sameH H n) (callK E H n false f args) := by
  unfold callK
  repeat' first
    | exact Ex4.f | exact Ex4.k _ ⟨rfl, rfl, rfl⟩ | (simp only [cond_false]; exact Ex4.k _ ⟨rfl, rfl, rfl⟩) | apply Ex4.a | (refine Ex4.e fun _ => ?_) | split

def isAppend : Op → Bool
  | .call ⟨.builtin .append, _, _⟩ => true
  | _ => false
/-- What comes of an operation in a region that draws. -/
def OutR (o : Op) (H : Heap) (n : Nat) : Heap → Nat → List Nat → Prop := fun H' n' ks => (isAppend o = false → ks = []) ∧ (fence o = false → H' = H ∧ n' = n)
theorem sameH.out {o : Op} {H' : Heap} {n' : Nat} {ks : List Nat} (h : sameH H n H' n' ks) : OutR o H n H' n' ks := ⟨fun _ => h.2.2, fun _ => ⟨h.1, h.2.1⟩⟩

theorem Bc_ex {b : Bool} {F G : Kont → Prop} (h : Ex4 R F) (g : Ex4 R G) : Ex4 R (fun K => Bc b fun t => bif t then F K else G K) := by cases b <;> assumption

theorem aopK_ex {E : Env} {f : Nat → AV} {o : Oper} : Ex4 (OutR o.op H n) (aopK E true f H n o) := by
  unfold aopK
  split
  all_goals rename_i ho
  all_goals first
    | exact Ex4.k _ (sameH.out ⟨rfl, rfl, rfl⟩)
    | exact Ex4.of1 (sameH.out ⟨rfl, rfl, rfl⟩) buildK_ex
    | exact Ex4.of1 (sameH.out ⟨rfl, rfl, rfl⟩) loadK_ex
    | exact Ex4.of1 (sameH.out ⟨rfl, rfl, rfl⟩) binK_ex
    | exact Ex4.of1 (sameH.out ⟨rfl, rfl, rfl⟩) unK_ex
    | exact Ex4.of1 (sameH.out ⟨rfl, rfl, rfl⟩) convK_ex
    | exact Ex4.of1 (sameH.out ⟨rfl, rfl, rfl⟩) sliceK_ex
    | exact Ex4.of1 (sameH.out ⟨rfl, rfl, rfl⟩) fieldAddrK_ex
    | exact Ex4.of1 (sameH.out ⟨rfl, rfl, rfl⟩) fieldK_ex
    | exact Ex4.of1 (sameH.out ⟨rfl, rfl, rfl⟩) indexAddrK_ex
    | exact Ex4.of1 (sameH.out ⟨rfl, rfl, rfl⟩) indexK_ex
    | exact Ex4.mono (fun _ _ _ h => ⟨fun _ => h, fun hf => by rw [ho] at hf; cases hf⟩) storeK_ex
    | exact Ex4.mono (fun _ _ _ h => ⟨fun _ => h, fun hf => by rw [ho] at hf; cases hf⟩) makeSliceK_ex
    | exact Ex4.mono (fun _ _ _ h => ⟨fun _ => h, fun hf => by rw [ho] at hf; cases hf⟩) clearK_ex
    | exact Ex4.c (Ex4.of1 (sameH.out ⟨rfl, rfl, rfl⟩) nilK_ex) (Ex4.of1 (sameH.out ⟨rfl, rfl, rfl⟩) binK_ex)
    | exact Ex4.mono (fun _ _ _ h => ⟨fun hf => (h (fun e => by subst e; rw [ho] at hf; cases hf)).2.2, fun hf => by have := h (fun e => by subst e; rw [ho] at hf; cases hf); exact ⟨this.1, this.2.1⟩⟩) builtinK_ex
    | (cases hd : o.dst <;> simp only [Bool.not_true, Bool.false_and, cond_false] <;> exact Ex4.mono (fun _ _ _ => sameH.out) callK_ex)
    | (simp only [forceL_eq]; split <;> first
        | exact Ex4.f
        | exact Ex4.c (Ex4.k _ ⟨fun _ => rfl, fun hf => by rw [ho] at hf; cases hf⟩) Ex4.f)
    | (repeat' first
        | exact Ex4.f | exact Ex4.k _ (sameH.out ⟨rfl, rfl, rfl⟩)
        | exact Ex4.k _ ⟨fun _ => rfl, fun hf => by rw [ho] at hf; cases hf⟩
        | exact Ex4.mono (fun _ _ _ => sameH.out) buildSliceK_ex
        | apply Bc_ex | apply Ex4.c | apply Ex4.a | (refine Ex4.e fun _ => ?_) | split)

theorem evL_congr {f f' : Nat → AV} : ∀ xs : List Operand, (∀ x ∈ xs, evA f x = evA f' x) → evL f xs = evL f' xs
  | [], _ => rfl
  | x :: xs, h => by simp only [evL]; rw [h x (by simp), evL_congr xs fun y hy => h y (by simp [hy])]
theorem partsA_congr {f f' : Nat → AV} : ∀ xs : List (Nat × Operand), (∀ x ∈ xs, evA f x.2 = evA f' x.2) → partsA f xs = partsA f' xs
  | [], _ => rfl
  | (i, x) :: xs, h => by simp only [partsA]; rw [h (i, x) (by simp), partsA_congr xs fun y hy => h y (by simp [hy])]

/-- An operation whose outcome no memory turns. -/
def light : Op → Bool
  | .move _ | .assign _ | .binOp _ _ _ _ _ | .unOp _ _ _ => true
  | _ => false
theorem light_ex {E : Env} {f : Nat → AV} {o : Oper} (hl : light o.op = true) : ∃ F : (AV → Prop) → Prop, ∀ H n K, aopK E true f H n o K = F fun v => K v H n [] := by
  unfold light at hl
  split at hl
  · rename_i x h; exact ⟨fun K => K (evA f x), fun H n K => by simp [aopK, h]⟩
  · rename_i x h; exact ⟨fun K => K (evA f x), fun H n K => by simp [aopK, h]⟩
  · rename_i op t x y yt h; exact ⟨fun K => bif isNilC y then nilK E.T true op t (evA f x) K else binK E.T op t (evA f x) (evA f y) K, fun H n K => by simp [aopK, h]⟩
  · rename_i op t x h; exact ⟨fun K => unK op (evA f x) K, fun H n K => by simp [aopK, h]⟩
  · cases hl
end Go.Qv
