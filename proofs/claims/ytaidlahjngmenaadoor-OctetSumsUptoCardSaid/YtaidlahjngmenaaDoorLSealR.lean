/- Layer 1, plain: sums and seals, the reference. -/
import Derived.Test.YtaidlahjngmenaaDoorLSeal
set_option linter.unusedVariables false
set_option linter.unusedSimpArgs false
namespace Go.Proofs.YtaidlahjngmenaaDoor.X
open Go Go.RowKit Go.Proofs.YtaidlahjngmenaaDoor.SX
theorem rsum_l2 (k : Nat) : ∀ (d n j s : Nat), j + d = 8 → d < n → s < 2 ^ 32 → dictumref01_Sum.l2 k n (UInt32.ofNat s) (j : Int) = some (UInt32.ofNat (TI d s)) := by
  intro d
  induction d with
  | zero =>
    intro n j s hj hn hs
    obtain ⟨n, rfl⟩ : ∃ m, n = m + 1 := ⟨n - 1, by omega⟩
    rw [dictumref01_Sum.l2.eq_2, decide_eq_false (by omega)]
    rfl
  | succ d ih =>
    intro n j s hj hn hs
    obtain ⟨n, rfl⟩ : ∃ m, n = m + 1 := ⟨n - 1, by omega⟩
    rw [dictumref01_Sum.l2.eq_2, decide_eq_true (by omega : (j : Int) < 8), cond_true, stepU s hs, bind_some', wsucc j (by omega)]
    exact ih n (j + 1) (TN s) (by omega) (by omega) (TN_lt hs)
theorem rsum_l1 (k : Nat) (hk : 10 ≤ k) (x : List UInt8) (hx : x.length ≤ 1000000000) : ∀ (d n i s : Nat), i + d = x.length → d < n → s < 2 ^ 32 → dictumref01_Sum.l1 k x n (UInt32.ofNat s) (i : Int) = some (UInt32.ofNat (crcN s (x.drop i))) := by
  intro d
  induction d with
  | zero =>
    intro n i s hi hn hs
    obtain ⟨n, rfl⟩ : ∃ m, n = m + 1 := ⟨n - 1, by omega⟩
    rw [dictumref01_Sum.l1.eq_2, decide_eq_false (by omega), List.drop_eq_nil_of_le (by omega)]
    rfl
  | succ d ih =>
    intro n i s hi hn hs
    obtain ⟨n, rfl⟩ : ∃ m, n = m + 1 := ⟨n - 1, by omega⟩
    have h : i < x.length := by omega
    have h3 := rsum_l2 k 8 k 0 (s ^^^ x[i].toNat) rfl (by omega) (Nat.xor_lt_two_pow hs (byte_lt _))
    rw [dictumref01_Sum.l1.eq_2, decide_eq_true (by omega : (i : Int) < (x.length : Int)), cond_true, ix_nat, List.getElem?_eq_getElem h, bind_some', xorU _ _ hs, show (0 : Int) = ((0 : Nat) : Int) from rfl, h3, bind_some', wsucc i (by omega), drop_cons h, crcN_cons]
    exact ih n (i + 1) _ (by omega) (by omega) (TI_lt 8 (Nat.xor_lt_two_pow hs (byte_lt _)))
theorem rsum_f (b : List UInt8) (k : Nat) (hb : b.length ≤ 1000000000) (hk : b.length + 10 ≤ k) : dictumref01_Sum.f k b = some (UInt32.ofNat (sumN b)) := by
  unfold dictumref01_Sum.f
  have h := rsum_l1 k (by omega) b hb b.length k 0 F32 (by omega) (by omega) (by decide)
  rw [show dictumref01_Sum.l1 k b k (4294967295 : UInt32) 0 = dictumref01_Sum.l1 k b k (UInt32.ofNat F32) ((0 : Nat) : Int) from rfl, h, bind_some', (notU _ (crcN_lt _ (by decide))).2, List.drop_zero]
  rfl
theorem rseal_f (b : List UInt8) (k : Nat) (hb : b.length ≤ 100000000) (hk : b.length + 20 ≤ k) : dictumref01_Seal.f k b = some (seal4 b) := by
  unfold dictumref01_Seal.f
  have h := sumN_lt b
  have e0 : ofI8 ((UInt32.ofNat (sumN b)).toNat : Int) = UInt8.ofNat (sumN b % 256) := by
    have := byteU (sumN b) 0 h
    rw [show shr32 (UInt32.ofNat (sumN b)) 0 = UInt32.ofNat (sumN b) from by unfold shr32; rw [u32n h]; simp, Nat.pow_zero, Nat.div_one] at this
    exact this
  rw [rsum_f b k (by omega) (by omega), bind_some', chk_of (decide_eq_true (by simp; omega)), bind_some', e0, byteU _ _ h, byteU _ _ h, byteU _ _ h, chk_of (decide_eq_true (by simp; omega)), bind_some', List.nil_append]
  rfl
/-- What is opened. -/
theorem ropen_l1 (k : Nat) (b z : List UInt8) (hz : z.length = b.length) (hb : b.length ≤ 1000000000) : ∀ (d n i : Nat), i + d = b.length → d < n →
    dictumref01_Open.l1 k b z n (i : Int) = some (if b.drop i = z.drop i then .inr () else .inl ([], 13)) := by
  intro d
  induction d with
  | zero =>
    intro n i hi hn
    obtain ⟨n, rfl⟩ : ∃ m, n = m + 1 := ⟨n - 1, by omega⟩
    rw [dictumref01_Open.l1.eq_2, decide_eq_false (by omega), List.drop_eq_nil_of_le (by omega), List.drop_eq_nil_of_le (by omega), if_pos rfl]
    rfl
  | succ d ih =>
    intro n i hi hn
    obtain ⟨n, rfl⟩ : ∃ m, n = m + 1 := ⟨n - 1, by omega⟩
    have h : i < b.length := by omega
    have h2 : i < z.length := by omega
    rw [dictumref01_Open.l1.eq_2, decide_eq_true (by omega : (i : Int) < (b.length : Int)), cond_true, ix_nat, ix_nat, List.getElem?_eq_getElem h, List.getElem?_eq_getElem h2, bind_some', bind_some', wsucc i (by omega), ih n (i + 1) (by omega) (by omega), drop_cons h, drop_cons h2]
    by_cases he : b[i] = z[i]
    · rw [he, beq_self_eq_true, Bool.not_true, cond_false]
      simp only [List.cons.injEq, true_and]
    · rw [show (!(b[i] == z[i])) = true from by simp [he], cond_true, if_neg (by intro hc; injection hc with hc _; exact he hc)]
theorem ropen_f (b : List UInt8) (k : Nat) (hb : b.length ≤ 100000000) (hk : b.length + 20 ≤ k) : dictumref01_Open.f k b = some (openE b) := by
  unfold dictumref01_Open.f openE
  rw [w64 (by omega) (by omega)]
  by_cases h : b.length < 4
  · rw [decide_eq_true (by omega), if_pos h]; rfl
  have hz : (seal4 (b.take (b.length - 4))).length = b.length := by rw [seal4_len, List.length_take]; omega
  rw [decide_eq_false (by omega), if_neg h, cond_false, show (b.length : Int) - 4 = ((b.length - 4 : Nat) : Int) from by omega, cut_to b (by omega), bind_some', rseal_f _ k (by simp; omega) (by simp; omega), bind_some',
    ropen_l1 k b _ hz (by omega) 4 k (b.length - 4) (by omega) (by omega), bind_some', cut_to _ (by omega)]
  have e : b.drop (b.length - 4) = (seal4 (b.take (b.length - 4))).drop (b.length - 4) ↔ seal4 (b.take (b.length - 4)) = b := by
    constructor
    · intro he
      have h1 : (seal4 (b.take (b.length - 4))).take (b.length - 4) = b.take (b.length - 4) := by
        unfold seal4
        rw [List.take_append_of_le_length (by simp), List.take_of_length_le (by simp)]
      rw [← List.take_append_drop (b.length - 4) (seal4 (b.take (b.length - 4))), ← he, h1, List.take_append_drop]
    · intro he
      rw [he]
  by_cases h1 : seal4 (b.take (b.length - 4)) = b
  · rw [if_pos (e.2 h1), if_pos h1, h1]
    rfl
  · rw [if_neg (fun h2 => h1 (e.1 h2)), if_neg h1]
end Go.Proofs.YtaidlahjngmenaaDoor.X
