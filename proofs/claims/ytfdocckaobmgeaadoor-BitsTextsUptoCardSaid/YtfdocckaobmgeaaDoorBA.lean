/- Layer 5, plain: which numbers are in a set. -/
import Derived.Test.YtfdocckaobmgeaaDoorXAD
set_option linter.unusedVariables false
set_option linter.unusedSimpArgs false
namespace Go.Proofs.YtfdocckaobmgeaaDoor.X
open Go Go.RowKit Go.Proofs.YtfdocckaobmgeaaDoor.SX
/-- Is the number n in? -/
def mem (e : List UInt64) (n : Nat) : Bool := (e.getD (n / 64) 0).toNat.testBit (n % 64)
def memI (e : List UInt64) (a : Int) : Bool := decide (0 ≤ a) && (decide (a < 1024) && mem e a.toNat)
def Z16 : List UInt64 := List.replicate 16 0
theorem z16_len : Z16.length = 16 := rfl
theorem mem_z (n : Nat) : mem Z16 n = false := by
  unfold mem Z16
  have : (List.replicate 16 (0 : UInt64)).getD (n / 64) 0 = 0 := by
    simp only [List.getD, List.getElem?_replicate]
    split <;> rfl
  rw [this]
  exact Nat.zero_testBit _
theorem mem_hi {e : List UInt64} (hl : e.length = 16) {n : Nat} (h : 1024 ≤ n) : mem e n = false := by
  unfold mem
  have : e.getD (n / 64) 0 = 0 := by simp [List.getD, List.getElem?_eq_none (show e.length ≤ n / 64 by omega)]
  rw [this]
  exact Nat.zero_testBit _
theorem u64_ext {a b : UInt64} (h : ∀ j, j < 64 → a.toNat.testBit j = b.toNat.testBit j) : a = b := by
  apply UInt64.toNat_inj.1
  apply Nat.eq_of_testBit_eq
  intro j
  by_cases hj : j < 64
  · exact h j hj
  · rw [Nat.testBit_lt_two_pow (Nat.lt_of_lt_of_le a.toNat_lt (Nat.pow_le_pow_right (by decide) (by omega))), Nat.testBit_lt_two_pow (Nat.lt_of_lt_of_le b.toNat_lt (Nat.pow_le_pow_right (by decide) (by omega)))]
/-- Two sets with the same numbers are the same. -/
theorem set_ext {e f : List UInt64} (he : e.length = 16) (hf : f.length = 16) (h : ∀ n, n < 1024 → mem e n = mem f n) : e = f := by
  apply List.ext_getElem (by omega)
  intro i h1 h2
  apply u64_ext
  intro j hj
  have := h (64 * i + j) (by omega)
  unfold mem at this
  rw [show (64 * i + j) / 64 = i from by omega, show (64 * i + j) % 64 = j from by omega] at this
  simpa [List.getD, h1, h2] using this
theorem tdiv_nat {n : Nat} (h : n < 1024) : wrap64 ((n : Int).tdiv 64) = ((n / 64 : Nat) : Int) := by
  rw [Int.tdiv_eq_ediv_of_nonneg (Int.natCast_nonneg _), show (n : Int) / 64 = ((n / 64 : Nat) : Int) from by omega]
  exact w64 (by omega) (by omega)
theorem tmod_nat (n : Nat) : (n : Int).tmod 64 = ((n % 64 : Nat) : Int) := by
  rw [Int.tmod_eq_emod_of_nonneg (Int.natCast_nonneg _)]
  omega
theorem ofI_nat (n : Nat) (h : n < 1024) : (ofI64 (n : Int)).toNat = n := by
  have := ofI64_nat (n : Int)
  omega
theorem ix_word {e : List UInt64} (hl : e.length = 16) {n : Nat} (h : n < 1024) : ix e (wrap64 ((n : Int).tdiv 64)) = some (e.getD (n / 64) 0) := by
  rw [tdiv_nat h, ix_nat]
  have : n / 64 < e.length := by omega
  simp [List.getD, this]
theorem and_one (w : UInt64) (s : Nat) : ((shr64 w s &&& (1 : UInt64)) == (1 : UInt64)) = w.toNat.testBit s := by
  have h1 : (shr64 w s &&& (1 : UInt64)).toNat = w.toNat / 2 ^ s % 2 := by
    rw [UInt64.toNat_and, shr64, UInt64.toNat_ofNat', Nat.mod_eq_of_lt (Nat.lt_of_le_of_lt (Nat.div_le_self _ _) w.toNat_lt)]
    exact Nat.and_one_is_mod _
  rw [Bool.eq_iff_iff, beq_iff_eq, ← UInt64.toNat_inj, h1, Nat.testBit_eq_decide_div_mod_eq, decide_eq_true_eq]
  exact Iff.rfl
theorem int_cases (a : Int) : (¬ (0 ≤ a ∧ a < 1024)) ∨ ∃ n : Nat, a = (n : Int) ∧ n < 1024 := by
  by_cases h : 0 ≤ a ∧ a < 1024
  · exact Or.inr ⟨a.toNat, by omega, by omega⟩
  · exact Or.inl h
theorem memI_no (e : List UInt64) {a : Int} (h : ¬ (0 ≤ a ∧ a < 1024)) : memI e a = false := by
  unfold memI
  by_cases h0 : 0 ≤ a
  · rw [decide_eq_false (by omega : ¬ a < 1024), Bool.false_and, Bool.and_false]
  · rw [decide_eq_false h0, Bool.false_and]
theorem memI_nat (e : List UInt64) {n : Nat} (h : n < 1024) : memI e (n : Int) = mem e n := by
  unfold memI
  rw [decide_eq_true (by omega), decide_eq_true (by omega), Bool.true_and, Bool.true_and]
  rfl
theorem inside_f (a : Int) : bits_inside.f a = some (decide (0 ≤ a ∧ a < 1024)) := by
  unfold bits_inside.f
  by_cases h0 : 0 ≤ a
  · rw [decide_eq_true (by omega : a ≥ 0), cond_true]
    congr 1
    rw [decide_eq_decide]
    omega
  · rw [decide_eq_false (by omega : ¬ a ≥ 0), cond_false, decide_eq_false (by omega)]
theorem has_f {e : List UInt64} (hl : e.length = 16) (a : Int) : bits_Has.f e a = some (memI e a) := by
  unfold bits_Has.f
  rw [inside_f, bind_some']
  rcases int_cases a with h | ⟨n, rfl, hn⟩
  · rw [decide_eq_false h, cond_false, memI_no e h]
  · rw [decide_eq_true (by omega), cond_true, ix_word hl hn, bind_some', tmod_nat, decide_eq_true (by omega), show chk true = some () from rfl, bind_some', and_one, memI_nat e hn]
    rfl
/-- The set with a number more. -/
def withB (e : List UInt64) (n : Nat) : List UInt64 := e.set (n / 64) (e.getD (n / 64) 0 ||| shl64 1 (n % 64))
theorem with_len {e : List UInt64} (n : Nat) : (withB e n).length = e.length := List.length_set ..
theorem bit1 {j s : Nat} (hs : s < 64) (hj : j < 64) : (shl64 1 s).toNat.testBit j = decide (j = s) := by
  rw [shl64, UInt64.toNat_ofNat', show (1 : UInt64).toNat = 1 from rfl, Nat.one_mul]
  have : 2 ^ s < 2 ^ 64 := Nat.pow_lt_pow_right (by decide) hs
  rw [Nat.mod_eq_of_lt this, Nat.testBit_two_pow, decide_eq_decide]
  exact eq_comm
theorem getD_set (e : List UInt64) (i q : Nat) (v : UInt64) (hi : i < e.length) : (e.set i v).getD q 0 = if q = i then v else e.getD q 0 := by
  simp only [List.getD, List.getElem?_set]
  by_cases h : i = q
  · subst h
    rw [if_pos rfl, if_pos rfl]
    simp [hi]
  · rw [if_neg h, if_neg (fun h2 => h h2.symm)]
theorem mem_with {e : List UInt64} (hl : e.length = 16) {n : Nat} (hn : n < 1024) (j : Nat) : mem (withB e n) j = (mem e j || decide (j = n)) := by
  unfold mem withB
  rw [getD_set e _ _ _ (by omega)]
  by_cases h : j / 64 = n / 64
  · rw [if_pos h, UInt64.toNat_or, Nat.testBit_or, bit1 (Nat.mod_lt _ (by decide)) (Nat.mod_lt _ (by decide)), h]
    congr 1
    rw [decide_eq_decide]
    omega
  · rw [if_neg h, decide_eq_false (by intro he; rw [he] at h; exact h rfl), Bool.or_false]
end Go.Proofs.YtfdocckaobmgeaaDoor.X
