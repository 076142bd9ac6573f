/- Layer 1, plain: a burst that is turned is told. -/
import Derived.Test.YtaidlahjngmenaaDoorLSeal
set_option linter.unusedVariables false
set_option linter.unusedSimpArgs false
namespace Go.Proofs.YtaidlahjngmenaaDoor.X
open Go Go.RowKit Go.Proofs.YtaidlahjngmenaaDoor.SX
/-- One bit of a row of bytes is turned. -/
def flip (x : List UInt8) (p : Nat) : List UInt8 := x.set (p / 8) (x.getD (p / 8) 0 ^^^ UInt8.ofNat (2 ^ (p % 8)))
theorem flip_len (x : List UInt8) (p : Nat) : (flip x p).length = x.length := by simp [flip]
theorem crc_flip (x : List UInt8) (p s : Nat) (hp : p < 8 * x.length) : crcN s (flip x p) = crcN s x ^^^ TI (8 * x.length - p) 1 := by
  have h : p / 8 < x.length := by omega
  have e1 : x = x.take (p / 8) ++ x.getD (p / 8) 0 :: x.drop (p / 8 + 1) := by
    rw [List.getD_eq_getElem?_getD, List.getElem?_eq_getElem h, Option.getD_some, ← drop_cons h, List.take_append_drop]
  have e2 : flip x p = x.take (p / 8) ++ (x.getD (p / 8) 0 ^^^ UInt8.ofNat (2 ^ (p % 8))) :: x.drop (p / 8 + 1) := by
    unfold flip
    rw [List.set_eq_take_append_cons_drop, if_pos h]
  have h3 := crcN_bit (x.take (p / 8)) (x.drop (p / 8 + 1)) (x.getD (p / 8) 0) (p % 8) s (Nat.mod_lt _ (by decide))
  rw [e2, h3, ← e1]
  congr 2
  rw [List.length_drop]
  omega
/-- The bits of the mask that were turned among the first i. -/
def low (M : Nat) (room : Nat) : Nat → Nat
  | 0 => 0
  | i + 1 => if M.testBit i = true ∧ i < room then low M room i + 2 ^ i else low M room i
theorem low_lt (M room : Nat) : ∀ i, low M room i < 2 ^ i
  | 0 => by simp [low]
  | i + 1 => by
    have h := low_lt M room i
    unfold low
    rw [Nat.pow_succ]
    split <;> omega
theorem low_xor (M room i : Nat) : low M room i + 2 ^ i = low M room i ^^^ 2 ^ i := by
  have h := low_lt M room i
  have h1 := Nat.two_pow_add_eq_or_of_lt h 1
  rw [Nat.mul_one] at h1
  rw [Nat.add_comm, h1]
  apply Nat.eq_of_testBit_eq
  intro j
  rw [Nat.testBit_xor, Nat.testBit_or, Nat.testBit_two_pow]
  by_cases hj : i = j
  · subst hj
    rw [Nat.testBit_lt_two_pow h]
    simp
  · simp [hj]
theorem low_zero (M room : Nat) : ∀ i, low M room i = 0 ↔ ∀ j, j < i → ¬ (M.testBit j = true ∧ j < room)
  | 0 => by simp [low]
  | i + 1 => by
    have ih := low_zero M room i
    have hp := Nat.two_pow_pos i
    unfold low
    split
    · rename_i h
      constructor
      · intro h0; omega
      · intro h0; exact absurd h (h0 i (by omega))
    · rename_i h
      rw [ih]
      constructor
      · intro h0 j hj
        rcases Nat.lt_or_ge j i with h1 | h1
        · exact h0 j h1
        · have : j = i := by omega
          subst this; exact h
      · intro h0 j hj; exact h0 j (by omega)
theorem low_step (M room i : Nat) (L k s : Nat) (x x0 : List UInt8) (hL : x.length = L) (hroom : room = 8 * L - k) (hi : i < 32) (hk : k + i < 8 * L) (hb : M.testBit i = true) (hx : crcN s x = crcN s x0 ^^^ TI (8 * L - k) (low M room i)) :
    crcN s (flip x (k + i)) = crcN s x0 ^^^ TI (8 * L - k) (low M room (i + 1)) := by
  rw [crc_flip x (k + i) s (by omega), hx, Nat.xor_assoc, hL]
  congr 1
  rw [show low M room (i + 1) = low M room i ^^^ 2 ^ i from by rw [← low_xor]; unfold low; rw [if_pos ⟨hb, by omega⟩]; cases i <;> rfl, TI_lin]
  congr 1
  have h := TI_pow ⟨i, hi⟩
  simp only at h
  rw [← h, ← TI_add]
  congr 1
  omega
theorem ofI64_small (n : Nat) (h : n < 18446744073709551616) : (ofI64 (n : Int)).toNat = n := by have := ofI64_nat (n : Int); omega
theorem mask_bit (M : UInt32) (i : Nat) (hi : i < 32) : ((shr32 M ((ofI64 (i : Int)).toNat) &&& (1 : UInt32)) == (1 : UInt32)) = M.toNat.testBit i := by
  rw [ofI64_small i (by omega)]
  have hM := M.toNat_lt
  have hd : M.toNat / 2 ^ i < 2 ^ 32 := Nat.lt_of_le_of_lt (Nat.div_le_self _ _) hM
  unfold shr32
  rw [low1 _ hd, Nat.testBit_eq_decide_div_mod_eq]
theorem bit8 (p : Nat) : shl8 (1 : UInt8) ((ofI64 (((p : Nat) : Int).tmod 8)).toNat) = UInt8.ofNat (2 ^ (p % 8)) := by
  rw [show ((p : Nat) : Int).tmod 8 = ((p % 8 : Nat) : Int) from by rw [Int.tmod_eq_emod_of_nonneg (by omega)]; omega, ofI64_small _ (by omega)]
  unfold shl8
  rw [show (1 : UInt8).toNat = 1 from rfl, Nat.one_mul]
theorem burst_l1 (K : Nat) (a1 : Int) (M : UInt32) (z : List UInt8) (k : Nat) (hz : z.length ≤ 100000000) (hk : k < 8 * z.length) (hk1 : wrap64 (((ofI64 a1) % (ofI64 (wrap64 (8 * (z.length : Int))))).toNat : Int) = (k : Int)) :
    ∀ (d n i : Nat) (x : List UInt8) (t : Bool), i + d = 32 → d < n → x.length = z.length → crcN F32 x = crcN F32 z ^^^ TI (8 * z.length - k) (low M.toNat (8 * z.length - k) i) → t = !(low M.toNat (8 * z.length - k) i == 0) → (t = false → x = z) →
    ∃ x' t' i', i' ≤ 32 ∧ dictumlaw01_OctetBurst.l1 K a1 M z n x t (i : Int) = some (x', t') ∧ x'.length = z.length ∧ crcN F32 x' = crcN F32 z ^^^ TI (8 * z.length - k) (low M.toNat (8 * z.length - k) i') ∧ t' = (!(low M.toNat (8 * z.length - k) i' == 0)) ∧ (t' = false → x' = z) := by
  intro d
  induction d with
  | zero =>
    intro n i x t hi hn hx hc ht h0
    obtain ⟨n, rfl⟩ : ∃ m, n = m + 1 := ⟨n - 1, by omega⟩
    rw [dictumlaw01_OctetBurst.l1.eq_2, decide_eq_false (by omega)]
    exact ⟨x, t, i, by omega, rfl, hx, hc, ht, h0⟩
  | succ d ih =>
    intro n i x t hi hn hx hc ht h0
    obtain ⟨n, rfl⟩ : ∃ m, n = m + 1 := ⟨n - 1, by omega⟩
    have e1 : wrap64 ((k : Int) + (i : Int)) = ((k + i : Nat) : Int) := by rw [w64 (by omega) (by omega)]; omega
    have e2 : wrap64 (8 * (x.length : Int)) = ((8 * x.length : Nat) : Int) := by rw [w64 (by omega) (by omega)]; omega
    rw [dictumlaw01_OctetBurst.l1.eq_2, decide_eq_true (show (i : Int) < 32 by clear e1 e2 hk1; omega), cond_true, hk1, e1, e2, bind_some']
    clear e1 e2
    by_cases hin : k + i < 8 * z.length
    · rw [decide_eq_true (show ((k + i : Nat) : Int) < ((8 * x.length : Nat) : Int) by clear hk1; omega), cond_true, mask_bit M i (by clear hk1; omega), wsucc i (by clear hk1; omega)]
      have e3 : wrap64 (((k + i : Nat) : Int).tdiv 8) = (((k + i) / 8 : Nat) : Int) := by
        rw [Int.tdiv_eq_ediv_of_nonneg (by omega)]
        clear hk1
        rw [w64 (by omega) (by omega)]
        omega
      rw [e3]
      clear e3
      cases hb : M.toNat.testBit i with
      | false =>
        rw [cond_false, bind_some']
        dsimp only
        have hl : low M.toNat (8 * z.length - k) (i + 1) = low M.toNat (8 * z.length - k) i := by
          show (if _ then _ else _) = _
          rw [if_neg (by rw [hb]; simp)]
        exact ih n (i + 1) x t (by omega) (by omega) hx (by rw [hl]; exact hc) (by rw [hl]; exact ht) h0
      | true =>
        have hq : (k + i) / 8 < x.length := by clear hk1; omega
        rw [cond_true, ix_nat, List.getElem?_eq_getElem hq, bind_some', bind_some', Int.toNat_natCast, bit8, bind_some']
        dsimp only
        have hf : x.set ((k + i) / 8) (x[(k + i) / 8] ^^^ UInt8.ofNat (2 ^ ((k + i) % 8))) = flip x (k + i) := by
          unfold flip
          rw [List.getD_eq_getElem?_getD, List.getElem?_eq_getElem hq, Option.getD_some]
        rw [hf]
        have hnz : low M.toNat (8 * z.length - k) (i + 1) ≠ 0 := by
          intro h
          exact (low_zero _ _ _).1 h i (by omega) ⟨hb, by clear hk1; omega⟩
        exact ih n (i + 1) (flip x (k + i)) true (by clear hk1; omega) (by clear hk1; omega) (by rw [flip_len]; exact hx) (low_step _ _ i z.length k F32 x z hx rfl (by clear hk1; omega) hin hb hc) (by rw [show (low M.toNat (8 * z.length - k) (i + 1) == 0) = false from by rw [← Bool.not_eq_true, beq_iff_eq]; exact hnz]; rfl) (fun h => by cases h)
    · rw [decide_eq_false (show ¬ ((k + i : Nat) : Int) < ((8 * x.length : Nat) : Int) by clear hk1; omega), cond_false]
      exact ⟨x, t, i, by clear hk1; omega, rfl, hx, hc, ht, h0⟩
theorem OctetBurst_pure : ∀ (x0 : (List UInt8)) (x1 : Int) (x2 : UInt32), (bulkL bulk1) x0 + bulk1 x1 + bulk1 x2 ≤ 1048576 → (okL okT) x0 → (okI .i64) x1 → okT x2 → ∃ k, dictumlaw01_OctetBurst.f k x0 x1 x2 = some true := by
  intro x0 x1 x2 hb _ _ _
  have h0 := len_le_bulk (bulk1 : UInt8 → Nat) (fun _ => Nat.le_refl _) x0
  simp only [bulkL] at hb
  have l0 : x0.length ≤ 1048576 := by omega
  clear hb h0
  obtain ⟨k0, hk0⟩ := heads_ev
  refine ⟨max k0 10000020, ?_⟩
  have hk : k0 ≤ max k0 10000020 ∧ 10000020 ≤ max k0 10000020 := by omega
  generalize max k0 10000020 = K at hk
  unfold dictumlaw01_OctetBurst.f
  have hs : (seal4 x0).length = x0.length + 4 := seal4_len x0
  have hsealed : crcN F32 (seal4 x0) = TI 32 F32 := (sealed_iff x0 (le4 (sumN x0)) rfl).1 rfl
  have hopen := openE_seal x0
  rw [seal_f x0 K (by omega) (by omega), bind_some']
  generalize seal4 x0 = z at hs hsealed hopen
  have e8 : (ofI64 (wrap64 (8 * (z.length : Int)))).toNat = 8 * z.length := by
    rw [show wrap64 (8 * (z.length : Int)) = ((8 * z.length : Nat) : Int) from by rw [w64 (by omega) (by omega)]; omega]
    exact ofI64_small _ (by omega)
  have hne : (!(ofI64 (wrap64 (8 * (z.length : Int))) == 0)) = true := by
    rw [Bool.not_eq_true', ← Bool.not_eq_true, beq_iff_eq]
    intro h
    rw [h] at e8
    simp at e8
    omega
  have hcut : ∃ q : Nat, q < 8 * z.length ∧ wrap64 (((ofI64 x1) % (ofI64 (wrap64 (8 * (z.length : Int))))).toNat : Int) = (q : Int) := by
    have h3 : ((ofI64 x1) % (ofI64 (wrap64 (8 * (z.length : Int))))).toNat < 8 * z.length := by
      rw [UInt64.toNat_mod, e8]
      exact Nat.mod_lt _ (by omega)
    refine ⟨_, h3, ?_⟩
    clear e8 hne
    exact w64 (by omega) (by omega)
  obtain ⟨q, hq, hw⟩ := hcut
  rw [show ((z.length : Int) != wrap64 ((x0.length : Int) + 4)) = false from by rw [w64 (by omega) (by omega), show (x0.length : Int) + 4 = (z.length : Int) from by omega, bne_self_eq_false], cond_false, chk_of hne, bind_some']
  clear hne e8
  obtain ⟨x', t', i', hi', e, hl, hc, ht, hf⟩ := burst_l1 K x1 x2 z q (by clear hw; omega) hq hw 32 K 0 z false (by decide) (by clear hw; omega) rfl (by rw [show low x2.toNat (8 * z.length - q) 0 = 0 from rfl, TI_at0, Nat.xor_zero]) rfl (fun _ => rfl)
  clear hw
  rw [show dictumlaw01_OctetBurst.l1 K x1 x2 z K z false 0 = some (x', t') from e, bind_some']
  dsimp only
  rw [open_f x' K (by omega) (by omega), bind_some']
  have hx4 : ¬ x'.length < 4 := by omega
  have hgoal : ((openE x').2 == 13) = t' := by
    cases t' with
    | false =>
      rw [hf rfl, hopen]
      rfl
    | true =>
      have hnz : low x2.toNat (8 * z.length - q) i' ≠ 0 := by
        intro h
        rw [h] at ht
        cases ht
      have hns : seal4 (x'.take (x'.length - 4)) ≠ x' := by
        intro h
        have h2 : x'.take (x'.length - 4) ++ x'.drop (x'.length - 4) = x' := List.take_append_drop _ _
        have h3 := (sealed_iff (x'.take (x'.length - 4)) (x'.drop (x'.length - 4)) (by rw [List.length_drop]; omega)).1 (by rw [h2]; exact h)
        rw [h2, hc, hsealed] at h3
        have h4 : TI (8 * z.length - q) (low x2.toNat (8 * z.length - q) i') = 0 := by
          have h5 : TI 32 F32 ^^^ (TI 32 F32 ^^^ TI (8 * z.length - q) (low x2.toNat (8 * z.length - q) i')) = TI 32 F32 ^^^ TI 32 F32 := by rw [h3]
          rw [← Nat.xor_assoc, Nat.xor_self, Nat.zero_xor] at h5
          exact h5
        have h6 : low x2.toNat (8 * z.length - q) i' < 2 ^ 32 := Nat.lt_of_lt_of_le (low_lt _ _ _) (Nat.pow_le_pow_right (by decide) hi')
        exact hnz (TI_zero _ h6 h4)
      unfold openE
      rw [if_neg hx4, if_neg hns]
      rfl
  rw [hgoal, show (t' == t') = true from beq_self_eq_true _, cond_true, hk0 K hk.1]
  rfl
end Go.Proofs.YtaidlahjngmenaaDoor.X
