/- PROVED: for every input the law FnExactFiltrationLine returns true and each argument reads afterwards as it read before (the statement 'FnExactFiltrationLineCardSaid' of the given Rows).
Conditions: none beyond those which the given statement itself names. This text is one part of the proof. -/
import Derived.Test.YtfcgjmbkcpeafaaGreatDoorMMemB

/- The abstract machine: conversions, lengths, exports to a callee. -/
namespace Go.Qv
open Go Go.RowKit

section
variable {P : Program} {A : Nat → Prop} {c : Ctx} {d : Nat} {H : Nat → Option Blk} {n : Nat} {T : TT}

theorem byteD_spec {x : D} {b : UInt8} (h : byteD x = some b) : ∃ z, x = .int .u8 z ∧ b = UInt8.ofNat z.toNat := by
  cases x <;> try (simp [byteD] at h; done)
  case int k z =>
    cases k <;> simp [byteD] at h
    exact ⟨z, rfl, h.symm⟩

theorem bytesOf_spec {S : Nat → Prop} {w : World} : ∀ {cs : List D} {s : List UInt8} {us : List Value}, bytesOf cs = some s → All2 (RD S w d) cs us → ∃ ns : List Int, us = ns.map (Value.int .u8) ∧ s = ns.map (fun n => UInt8.ofNat n.toNat)
  | [], s, [], h, _ => by simp [bytesOf] at h; exact ⟨[], rfl, h⟩
  | x :: cs, s, u :: us, h, ⟨h1, h2⟩ => by
    simp only [bytesOf] at h
    split at h
    · rename_i b hb
      obtain ⟨z, rfl, rfl⟩ := byteD_spec hb
      split at h
      · rename_i l hl
        cases h
        obtain ⟨ns, rfl, rfl⟩ := bytesOf_spec hl h2
        have : u = .int .u8 z := by cases d <;> exact h1
        subst this
        exact ⟨z :: ns, rfl, rfl⟩
      · cases h
    · cases h
  | [], _, _ :: _, _, h => h.elim
  | _ :: _, _, [], _, h => h.elim

theorem bytesOf_len : ∀ {cs : List D} {s : List UInt8}, bytesOf cs = some s → s.length = cs.length
  | [], s, h => by simp [bytesOf] at h; simp [h]
  | x :: cs, s, h => by
    simp only [bytesOf] at h
    split at h
    · split at h
      · rename_i l hl
        cases h
        simp [bytesOf_len hl]
      · cases h
    · cases h

theorem notStr_spec {x : AV} (h : notStr x = true) : ∀ s, x ≠ .str s := by
  rintro s rfl; cases h

theorem srcA_slice {x : AV} {u : Value} (hx : RA c d x u) (hn : notStr x = true) {cs : List D} {m : Bool} {k : Nat} (hsrc : srcA T H x = some (cs, m, k)) : ∃ a cap, u = .slice a k cap := by
  cases x <;> simp only [srcA] at hsrc <;> try (cases hsrc)
  case nils => have : u = .slice none 0 0 := by cases d <;> exact hx
               exact ⟨_, _, this⟩
  case rs =>
    obtain ⟨hrd, _⟩ := hx.rs
    cases d with
    | zero => exact hrd.elim
    | succ d => obtain ⟨a, cap, h1, _⟩ := hrd; exact ⟨a, cap, h1⟩
  case ow =>
    split at hsrc
    · cases hsrc
      obtain ⟨r, _, _, hro⟩ := hx.ow
      obtain ⟨a, cap, h1, _⟩ := hro.ros
      exact ⟨a, cap, h1⟩
    · cases hsrc
  case os =>
    split at hsrc
    · split at hsrc
      · cases hsrc
        obtain ⟨r, _, a, cap, h1, _⟩ := hx.os
        exact ⟨a, cap, h1⟩
      · cases hsrc
    · cases hsrc
  case str => cases hn

theorem convK_ok (hH : HeapOk P A c d H n) (hT : TOk P T) {src dst : TypeId} {x : AV} {u : Value} (hx : RA c d x u) {K : AV → Prop} (h : convK T H src dst x K) : ∃ r v, K r ∧ (convert src dst u).run P c.w = .ok v c.w ∧ RA c d r v := by
  unfold convK at h
  split at h
  · rename_i si di hl1 hl2
    obtain ⟨ti1, td1, z1, ht1⟩ := hT.ty hl1
    obtain ⟨ti2, td2, z2, ht2⟩ := hT.ty hl2
    split at h
    · rename_i k hd2
      have hu := ht2.int hd2
      split at h
      · rename_i kk z
        have := hx.int'; subst this
        refine ⟨_, .int k (k.wrap z), h, ?_, by cases d <;> simp only [RA]⟩
        simp only [convert, Sem.run_bind, ht1.run_und, run_underlying hu, Result.andThen_ok]
        simp [Conv.intToInt]
      · exact h.elim
    · rename_i hd1 hd2
      have hu1 := ht1.str hd1
      have hu2 := ht2.str hd2
      split at h
      · have := hx.str'; subst this
        exact ⟨_, _, h, by simp [convert, run_underlying hu1, run_underlying hu2]; rfl, by cases d <;> simp only [RA]⟩
      · exact h.elim
    · rename_i e hd1 hd2
      have hu1 := ht1.slice hd1
      have hu2 := ht2.str hd2
      split at h
      · rename_i hl3
        obtain ⟨ti3, td3, z3, ht3⟩ := hT.ty hl3
        have hu3 := ht3.int rfl
        cases hns : notStr x with
        | false => rw [hns] at h; exact h.elim
        | true =>
          rw [hns] at h
          simp only [cond_true] at h
          split at h
          · rename_i cs m k hsrc
            obtain ⟨s, hb, hlen, h⟩ := h
            have hcl : cs.length = k * 1 := by rw [← bytesOf_len hb, hlen, Nat.mul_one]
            obtain ⟨news, hs, hall⟩ := srcA_ok (sz := 1) hH hx hsrc hcl (.inl ⟨e, hu1, notStr_spec hns⟩)
            obtain ⟨ns, rfl, rfl⟩ := bytesOf_spec hb hall
            refine ⟨_, .string ⟨(ns.map fun n => UInt8.ofNat n.toNat).toArray⟩, h, ?_, by cases d <;> simp only [RA]⟩
            obtain ⟨a, cap, rfl⟩ := srcA_slice hx hns hsrc
            rw [run_convert_bytes_string c.w src dst e a k cap hu1 hu3 hu2]
            cases a with
            | none =>
              have hc := hs.cells
              simp [Builtin.firstCells] at hc
              have : ns = [] := by simpa using hc
              subst this
              simp [Conv.bytesToString]
              rfl
            | some a =>
              have hc := hs.cells
              simp only [Builtin.firstCells, Nat.mul_one] at hc
              rw [run_bytesToString c.w a k cap ns hc, foldl_push_bytes]
              have he0 : ByteArray.empty.data = #[] := rfl
              rw [he0]
              simp
          · exact h.elim
      · exact h.elim
    · exact h.elim
  · exact h.elim

theorem lenA_ok {x : AV} {u : Value} (hx : RA c d x u) (hn : notStr x = true) {k : Nat} (h : lenA x = some k) : ∃ a cap, u = .slice a k cap := by
  cases x <;> simp only [lenA] at h <;> try (cases h)
  case nils => have : u = .slice none 0 0 := by cases d <;> exact hx
               exact ⟨_, _, this⟩
  case str => cases hn
  case rs =>
    obtain ⟨hrd, _⟩ := hx.rs
    cases d with
    | zero => exact hrd.elim
    | succ d => obtain ⟨a, cap, h1, _⟩ := hrd; exact ⟨a, cap, h1⟩
  case ow =>
    obtain ⟨r, _, _, hro⟩ := hx.ow
    obtain ⟨a, cap, h1, _⟩ := hro.ros
    exact ⟨a, cap, h1⟩
  case os =>
    obtain ⟨r, _, a, cap, h1, _⟩ := hx.os
    exact ⟨a, cap, h1⟩

theorem builtinK_ok (hH : HeapOk P A c d H n) (hA : ∀ b, c.w.heap.size ≤ b → A b) (hT : TOk P T) (hZ : ∀ t i, look T t = some i → i.zero.length = i.size) {b : Builtin} {ts : List TypeId} {ty : TypeId} {args : List AV} {us : List Value} (hx : All2 (RA c d) args us) {K : Kont} (h : builtinK T H n b ts args K) :
    ∃ r H' n' ks u w', K r H' n' ks ∧ (∀ bs : Array Bool, (builtin b ts.toArray ty bs us.toArray).run P c.w = .ok (.value u) w') ∧ Out P A c d H' n' ks r u w' ∧ (b ≠ .append → H' = H ∧ n' = n ∧ ks = []) := by
  unfold builtinK at h
  split at h
  · match us, hx with
    | [u], ⟨hx, _⟩ =>
    split at h
    · rename_i hl
      obtain ⟨ti, td, z, ht⟩ := hT.ty hl
      split at h
      · rename_i hd
        have hu := ht.str hd
        split at h
        · rename_i s _
          have := hx.str'; subst this
          have hsz : (ByteArray.mk s.toArray).size = s.length := by simp [ByteArray.size]
          exact ⟨_, _, _, _, .int .i64 s.length, _, h, by intro bs; simp [builtin, Builtin.len_, run_underlying hu, goInt, hsz], Out.pure hH (Nat.le_refl _) (by cases d <;> simp [RA]), fun _ => ⟨rfl, rfl, rfl⟩⟩
        · exact h.elim
      · rename_i hd
        have hu := ht.slice hd
        cases hns : notStr _ with
        | false => rw [hns] at h; exact h.elim
        | true =>
          rw [hns] at h
          simp only [cond_true] at h
          split at h
          · rename_i k hk
            obtain ⟨a, cap, rfl⟩ := lenA_ok hx hns hk
            exact ⟨_, _, _, _, .int .i64 k, _, h, by intro bs; simp [builtin, Builtin.len_, run_underlying hu, goInt], Out.pure hH (Nat.le_refl _) (by cases d <;> simp [RA]), fun _ => ⟨rfl, rfl, rfl⟩⟩
          · exact h.elim
      · exact h.elim
    · exact h.elim
  · match us, hx with
    | [us0, ux], ⟨hs, hx, _⟩ =>
    split at h
    · rename_i hl
      obtain ⟨ti, td, z, ht⟩ := hT.ty hl
      split at h
      · rename_i e' hd
        have hu := ht.slice hd
        cases hns : notStr _ with
        | false => rw [hns] at h; exact h.elim
        | true =>
          rw [hns] at h
          simp only [cond_true] at h
          obtain ⟨r, H', n', ks, u, w', h1, h2, h3⟩ := appendK_ok (ty := ty) hH hA hT hZ hs hx (.inl ⟨e', hu, notStr_spec hns⟩) h
          exact ⟨r, H', n', ks, u, w', h1, by intro bs; simp [builtin, h2], h3, fun hh => absurd rfl hh⟩
      · rename_i hd
        have hu := ht.str hd
        split at h
        · rename_i s0 e0 sz0 b0 z0 he0 _
          obtain ⟨r, H', n', ks, u, w', h1, h2, h3⟩ := appendK_ok (ty := ty) hH hA hT hZ hs hx (.inr ⟨hu, ⟨s0, rfl⟩, fun e i hei => by rw [he0] at hei; cases hei; rfl⟩) h
          exact ⟨r, H', n', ks, u, w', h1, by intro bs; simp [builtin, h2], h3, fun hh => absurd rfl hh⟩
        · exact h.elim
      · exact h.elim
    · exact h.elim
  · unfold minmaxK at h
    split at h
    · rename_i k a k2 b
      match us, hx with
      | [u1, u2], ⟨hx1, hx2, _⟩ =>
      have e1 := hx1.int'; subst e1
      have e2 := hx2.int'; subst e2
      cases hk : kEq k k2 with
      | false => rw [hk] at h; exact h.elim
      | true =>
        rw [hk] at h
        have := kEq_eq hk; subst this
        exact ⟨_, _, _, _, .int k (imax a b), _, h, by intro bs; simp [builtin, Builtin.max_, Builtin.max2, imax], Out.pure hH (Nat.le_refl _) (by cases d <;> simp [RA]), fun _ => ⟨rfl, rfl, rfl⟩⟩
    · exact h.elim
  · unfold minmaxK at h
    split at h
    · rename_i k a k2 b
      match us, hx with
      | [u1, u2], ⟨hx1, hx2, _⟩ =>
      have e1 := hx1.int'; subst e1
      have e2 := hx2.int'; subst e2
      cases hk : kEq k k2 with
      | false => rw [hk] at h; exact h.elim
      | true =>
        rw [hk] at h
        have := kEq_eq hk; subst this
        exact ⟨_, _, _, _, .int k (imin a b), _, h, by intro bs; simp [builtin, Builtin.min_, Builtin.min2, imin], Out.pure hH (Nat.le_refl _) (by cases d <;> simp [RA]), fun _ => ⟨rfl, rfl, rfl⟩⟩
    · exact h.elim
  · exact h.elim
end

end Go.Qv
