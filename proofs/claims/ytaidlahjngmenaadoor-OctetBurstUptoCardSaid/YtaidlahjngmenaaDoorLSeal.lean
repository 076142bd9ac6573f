/- Layer 1, plain: sums, seals and what is opened, by the program and by the document. -/
import Derived.Test.YtaidlahjngmenaaDoorLC
set_option linter.unusedVariables false
set_option linter.unusedSimpArgs false
namespace Go.Proofs.YtaidlahjngmenaaDoor.X
open Go Go.RowKit Go.Proofs.YtaidlahjngmenaaDoor.SX
theorem u32n {n : Nat} (h : n < 2 ^ 32) : (UInt32.ofNat n).toNat = n := by rw [UInt32.toNat_ofNat', Nat.mod_eq_of_lt h]
theorem low1 (n : Nat) (h : n < 2 ^ 32) : ((UInt32.ofNat n &&& 1) == (1 : UInt32)) = decide (n % 2 = 1) := by
  rw [Bool.eq_iff_iff]
  simp only [beq_iff_eq, decide_eq_true_eq]
  rw [← UInt32.toNat_inj, UInt32.toNat_and, u32n h, show (1 : UInt32).toNat = 2 ^ 1 - 1 from rfl, Nat.and_two_pow_sub_one_eq_mod]
theorem half (n : Nat) (h : n < 2 ^ 32) : shr32 (UInt32.ofNat n) 1 = UInt32.ofNat (n / 2) := by
  unfold shr32
  rw [u32n h]
theorem stepU (n : Nat) (h : n < 2 ^ 32) : ((bif ((UInt32.ofNat n &&& (1 : UInt32)) == (1 : UInt32)) then some ((shr32 (UInt32.ofNat n) 1) ^^^ (2197175160 : UInt32)) else some (shr32 (UInt32.ofNat n) 1)) : Option UInt32) = some (UInt32.ofNat (TN n)) := by
  rw [low1 n h, half n h]
  unfold TN
  by_cases h1 : n % 2 = 1
  · rw [decide_eq_true h1, if_pos h1, cond_true]
    congr 1
    apply UInt32.toNat_inj.1
    rw [UInt32.toNat_xor, u32n (by omega), u32n (Nat.xor_lt_two_pow (by omega) (by decide))]
    rfl
  · rw [decide_eq_false h1, if_neg h1, cond_false]
theorem sum_l3 (k : Nat) : ∀ (d n j s : Nat), j + d = 8 → d < n → s < 2 ^ 32 → octet_Sum.l3 k n (UInt32.ofNat s) (j : Int) = some (UInt32.ofNat (TI d s)) := by
  intro d
  induction d with
  | zero =>
    intro n j s hj hn hs
    obtain ⟨n, rfl⟩ : ∃ m, n = m + 1 := ⟨n - 1, by omega⟩
    rw [octet_Sum.l3.eq_2, decide_eq_false (by omega)]
    rfl
  | succ d ih =>
    intro n j s hj hn hs
    obtain ⟨n, rfl⟩ : ∃ m, n = m + 1 := ⟨n - 1, by omega⟩
    rw [octet_Sum.l3.eq_2, decide_eq_true (by omega : (j : Int) < 8), cond_true, stepU s hs, bind_some', wsucc j (by omega)]
    exact ih n (j + 1) (TN s) (by omega) (by omega) (TN_lt hs)
theorem xorU (s : Nat) (c : UInt8) (hs : s < 2 ^ 32) : UInt32.ofNat s ^^^ ofI32 (c.toNat : Int) = UInt32.ofNat (s ^^^ c.toNat) := by
  have h := c.toNat_lt
  have h2 := ofI32_nat (c.toNat : Int)
  apply UInt32.toNat_inj.1
  rw [UInt32.toNat_xor, u32n hs, u32n (Nat.xor_lt_two_pow hs (byte_lt c))]
  congr 1
  omega
theorem sum_l2 (k : Nat) (hk : 10 ≤ k) (x : List UInt8) (hx : x.length ≤ 1000000000) : ∀ (d n i s : Nat), i + d = x.length → d < n → s < 2 ^ 32 → octet_Sum.l2 k x n (UInt32.ofNat s) (i : Int) = some (UInt32.ofNat (crcN s (x.drop i))) := by
  intro d
  induction d with
  | zero =>
    intro n i s hi hn hs
    obtain ⟨n, rfl⟩ : ∃ m, n = m + 1 := ⟨n - 1, by omega⟩
    rw [octet_Sum.l2.eq_2, decide_eq_false (by omega), List.drop_eq_nil_of_le (by omega)]
    rfl
  | succ d ih =>
    intro n i s hi hn hs
    obtain ⟨n, rfl⟩ : ∃ m, n = m + 1 := ⟨n - 1, by omega⟩
    have h : i < x.length := by omega
    have h3 := sum_l3 k 8 k 0 (s ^^^ x[i].toNat) rfl (by omega) (Nat.xor_lt_two_pow hs (byte_lt _))
    rw [octet_Sum.l2.eq_2, decide_eq_true (by omega : (i : Int) < (x.length : Int)), cond_true, ix_nat, List.getElem?_eq_getElem h, bind_some', xorU _ _ hs, show (0 : Int) = ((0 : Nat) : Int) from rfl, h3, bind_some', wsucc i (by omega), drop_cons h, crcN_cons]
    exact ih n (i + 1) _ (by omega) (by omega) (TI_lt 8 (Nat.xor_lt_two_pow hs (byte_lt _)))
theorem sum_l1 (k : Nat) (parts : List (List UInt8)) (hp : parts.length ≤ 1000000000) (hx : ∀ x ∈ parts, x.length ≤ 1000000000 ∧ x.length + 10 ≤ k) : ∀ (d n i s : Nat), i + d = parts.length → d < n → s < 2 ^ 32 →
    octet_Sum.l1 k parts n (UInt32.ofNat s) (i : Int) = some (UInt32.ofNat (crcN s (parts.drop i).flatten)) := by
  intro d
  induction d with
  | zero =>
    intro n i s hi hn hs
    obtain ⟨n, rfl⟩ : ∃ m, n = m + 1 := ⟨n - 1, by omega⟩
    rw [octet_Sum.l1.eq_2, decide_eq_false (by omega), List.drop_eq_nil_of_le (by omega)]
    rfl
  | succ d ih =>
    intro n i s hi hn hs
    obtain ⟨n, rfl⟩ : ∃ m, n = m + 1 := ⟨n - 1, by omega⟩
    have h : i < parts.length := by omega
    have hh := hx _ (List.getElem_mem h)
    have h3 := sum_l2 k (by omega) parts[i] hh.1 parts[i].length k 0 s (by omega) (by omega) hs
    rw [octet_Sum.l1.eq_2, decide_eq_true (by omega : (i : Int) < (parts.length : Int)), cond_true, ix_nat, List.getElem?_eq_getElem h, bind_some', show (0 : Int) = ((0 : Nat) : Int) from rfl, h3, bind_some', wsucc i (by omega), drop_cons h, List.flatten_cons, crcN_app, List.drop_zero]
    exact ih n (i + 1) _ (by omega) (by omega) (crcN_lt _ hs)
theorem notU (n : Nat) (h : n < 2 ^ 32) : ~~~(UInt32.ofNat n) = UInt32.ofNat (n ^^^ F32) ∧ UInt32.ofNat n ^^^ (4294967295 : UInt32) = UInt32.ofNat (n ^^^ F32) := by
  have h2 : UInt32.ofNat n ^^^ (4294967295 : UInt32) = UInt32.ofNat (n ^^^ F32) := by
    apply UInt32.toNat_inj.1
    rw [UInt32.toNat_xor, u32n h, u32n (Nat.xor_lt_two_pow h (by decide))]
    rfl
  refine ⟨?_, h2⟩
  rw [← h2]
  have : (4294967295 : UInt32) = -1 := by decide
  rw [this, UInt32.xor_neg_one]
theorem sum_f (parts : List (List UInt8)) (k : Nat) (hp : parts.length ≤ 1000000000) (hx : ∀ x ∈ parts, x.length ≤ 1000000000 ∧ x.length + 10 ≤ k) (hk : parts.length < k) : octet_Sum.f k parts = some (UInt32.ofNat (sumN parts.flatten)) := by
  unfold octet_Sum.f
  have h := sum_l1 k parts hp hx parts.length k 0 F32 (by omega) hk (by decide)
  rw [show (4294967295 : UInt32) = UInt32.ofNat F32 from rfl, show (0 : Int) = ((0 : Nat) : Int) from rfl, h, bind_some', (notU _ (crcN_lt _ (by decide))).1, List.drop_zero]
  rfl
theorem byteU (s i : Nat) (h : s < 2 ^ 32) : ofI8 ((shr32 (UInt32.ofNat s) i).toNat : Int) = UInt8.ofNat (s / 2 ^ i % 256) := by
  have h2 := ofI8_nat ((shr32 (UInt32.ofNat s) i).toNat : Int)
  have h3 : s / 2 ^ i < 2 ^ 32 := Nat.lt_of_le_of_lt (Nat.div_le_self _ _) h
  unfold shr32 at h2 ⊢
  rw [u32n h, u32n h3] at h2 ⊢
  apply UInt8.toNat_inj.1
  rw [u8n]
  omega
theorem seal_l1 (k s : Nat) (hs : s < 2 ^ 32) (b : List UInt8) (hb : b.length ≤ 1000000000) (hk : 10 ≤ k) : octet_Seal.l1 k (UInt32.ofNat s) k b 0 = some (b ++ le4 s) := by
  obtain ⟨k, rfl⟩ : ∃ m, k = m + 5 := ⟨k - 5, by omega⟩
  have step : ∀ (i n : Nat) (x : List UInt8), i < 4 → x.length ≤ 1000000010 → octet_Seal.l1 (k + 5) (UInt32.ofNat s) (n + 1) x (i : Int) = octet_Seal.l1 (k + 5) (UInt32.ofNat s) n (x ++ [UInt8.ofNat (s / 2 ^ (8 * i) % 256)]) ((i + 1 : Nat) : Int) := by
    intro i n x hi hx
    rw [octet_Seal.l1.eq_2, decide_eq_true (by omega : (i : Int) < 4), cond_true, show wrap64 (8 * (i : Int)) = ((8 * i : Nat) : Int) from by rw [w64 (by omega) (by omega)]; omega, chk_of (decide_eq_true (by omega)), bind_some', Int.toNat_natCast, byteU _ _ hs,
      chk_of (decide_eq_true (by rw [List.length_singleton]; omega)), bind_some', wsucc i (by omega)]
  have e0 := step 0 (k + 4) b (by omega) (by omega)
  have e1 := step 1 (k + 3) (b ++ [UInt8.ofNat (s / 2 ^ (8 * 0) % 256)]) (by omega) (by simp; omega)
  have e2 := step 2 (k + 2) (b ++ [UInt8.ofNat (s / 2 ^ (8 * 0) % 256)] ++ [UInt8.ofNat (s / 2 ^ (8 * 1) % 256)]) (by omega) (by simp; omega)
  have e3 := step 3 (k + 1) (b ++ [UInt8.ofNat (s / 2 ^ (8 * 0) % 256)] ++ [UInt8.ofNat (s / 2 ^ (8 * 1) % 256)] ++ [UInt8.ofNat (s / 2 ^ (8 * 2) % 256)]) (by omega) (by simp; omega)
  rw [show (0 : Int) = ((0 : Nat) : Int) from rfl, e0, e1, e2, e3, octet_Seal.l1.eq_2, decide_eq_false (by decide), cond_false]
  simp [le4]
theorem seal_f (b : List UInt8) (k : Nat) (hb : b.length ≤ 100000000) (hk : b.length + 20 ≤ k) : octet_Seal.f k b = some (seal4 b) := by
  unfold octet_Seal.f
  rw [clone_f b hb, bind_some', sum_f [b] k (by simp) (by intro x hx; simp at hx; subst hx; omega) (by simp; omega), bind_some']
  rw [show ([b] : List (List UInt8)).flatten = b from by simp, seal_l1 k _ (sumN_lt b) b (by omega) (by omega), bind_some']
  rfl
def openE (b : List UInt8) : List UInt8 × Int := if b.length < 4 then ([], 10) else if seal4 (b.take (b.length - 4)) = b then (b.take (b.length - 4), 0) else ([], 13)
theorem open_f (b : List UInt8) (k : Nat) (hb : b.length ≤ 100000000) (hk : b.length + 20 ≤ k) : octet_Open.f k b = some (openE b) := by
  unfold octet_Open.f openE bytes_Equal.f
  rw [w64 (by omega) (by omega)]
  by_cases h : b.length < 4
  · rw [decide_eq_true (by omega), if_pos h]; rfl
  rw [decide_eq_false (by omega), if_neg h, cond_false, show (b.length : Int) - 4 = ((b.length - 4 : Nat) : Int) from by omega, cut_to b (by omega), bind_some', seal_f _ k (by simp; omega) (by simp; omega), bind_some', bind_some']
  by_cases h1 : seal4 (b.take (b.length - 4)) = b
  · rw [if_pos h1, h1, beq_self_eq_true, Bool.not_true, cond_false, bind_some', clone_f _ (by simp; omega)]
    rfl
  · rw [if_neg h1, show (seal4 (b.take (b.length - 4)) == b) = false from by rw [← Bool.not_eq_true]; simpa using h1]
    rfl
theorem openE_seal (b : List UInt8) : openE (seal4 b) = (b, 0) := by
  unfold openE
  have h : (seal4 b).take ((seal4 b).length - 4) = b := by rw [seal4_len]; simp [seal4]
  rw [if_neg (by rw [seal4_len]; omega), h, if_pos rfl]
end Go.Proofs.YtaidlahjngmenaaDoor.X
