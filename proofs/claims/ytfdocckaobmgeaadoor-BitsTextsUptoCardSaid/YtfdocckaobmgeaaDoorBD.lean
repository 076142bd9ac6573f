/- Layer 5, plain: the next number of a set. -/
import Derived.Test.YtfdocckaobmgeaaDoorBA
set_option linter.unusedVariables false
set_option linter.unusedSimpArgs false
namespace Go.Proofs.YtfdocckaobmgeaaDoor.X
open Go Go.RowKit Go.Proofs.YtfdocckaobmgeaaDoor.SX
def nxt (e : List UInt64) : Nat → Nat → Option Nat
  | 0, _ => none
  | d + 1, n => if mem e n then some n else nxt e d (n + 1)
theorem nxt_cases (e : List UInt64) : ∀ d n : Nat, (∃ j, n ≤ j ∧ j < n + d ∧ mem e j = true ∧ (∀ i, n ≤ i → i < j → mem e i = false) ∧ nxt e d n = some j) ∨ ((∀ i, n ≤ i → i < n + d → mem e i = false) ∧ nxt e d n = none)
  | 0, n => Or.inr ⟨fun i h1 h2 => by omega, rfl⟩
  | d + 1, n => by
    rw [nxt]
    by_cases h : mem e n = true
    · exact Or.inl ⟨n, by omega, by omega, h, fun i h1 h2 => by omega, by rw [if_pos h]⟩
    · rw [if_neg h]
      have h' : mem e n = false := by simpa using h
      rcases nxt_cases e d (n + 1) with ⟨j, h1, h2, h3, h4, h5⟩ | ⟨h1, h2⟩
      · refine Or.inl ⟨j, by omega, by omega, h3, fun i a b => ?_, h5⟩
        by_cases hi : i = n
        · rw [hi]; exact h'
        · exact h4 i (by omega) b
      · refine Or.inr ⟨fun i a b => ?_, h2⟩
        by_cases hi : i = n
        · rw [hi]; exact h'
        · exact h1 i (by omega) (by omega)
def nx (e : List UInt64) (n : Nat) : Option Nat := nxt e (1024 - n) n
def nxP (e : List UInt64) (n : Nat) : Int × Bool := match nx e n with | some j => ((j : Int), true) | none => (0, false)
theorem nx_cases (e : List UInt64) (n : Nat) : (∃ j, n ≤ j ∧ j < 1024 ∧ mem e j = true ∧ (∀ i, n ≤ i → i < j → mem e i = false) ∧ nx e n = some j) ∨ ((∀ i, n ≤ i → i < 1024 → mem e i = false) ∧ nx e n = none) := by
  rcases nxt_cases e (1024 - n) n with ⟨j, h1, h2, h3, h4, h5⟩ | ⟨h1, h2⟩
  · exact Or.inl ⟨j, h1, by omega, h3, h4, h5⟩
  · exact Or.inr ⟨fun i a b => h1 i a (by omega), h2⟩
theorem nx_some {e : List UInt64} {n j : Nat} (h1 : n ≤ j) (h2 : j < 1024) (h3 : mem e j = true) (h4 : ∀ i, n ≤ i → i < j → mem e i = false) : nx e n = some j := by
  rcases nx_cases e n with ⟨i, a, b, c, d, f⟩ | ⟨a, b⟩
  · rw [f]
    congr 1
    rcases Nat.lt_trichotomy i j with h | h | h
    · have := h4 i a h; rw [c] at this; cases this
    · exact h
    · have := d j h1 h; rw [h3] at this; cases this
  · have := a j h1 h2
    rw [h3] at this; cases this
theorem nx_none {e : List UInt64} {n : Nat} (h : ∀ i, n ≤ i → i < 1024 → mem e i = false) : nx e n = none := by
  rcases nx_cases e n with ⟨i, a, b, c, d, f⟩ | ⟨a, b⟩
  · have := h i a b; rw [c] at this; cases this
  · exact b
/-- The lowest bit of a word. -/
theorem low_bit (x : UInt64) {j : Nat} (hj : j < 64) (h1 : x.toNat.testBit j = true) (h0 : ∀ i, i < j → x.toNat.testBit i = false) : x &&& (0 - x) = shl64 1 j := by
  apply u64_ext
  intro i hi
  rw [UInt64.toNat_and, Nat.testBit_and, bit1 hj hi]
  have hb : (0 - x).toNat.testBit i = (-x.toBitVec).getLsbD i := by
    rw [← UInt64.toNat_toBitVec, UInt64.toBitVec_sub]
    rw [show (0 : UInt64).toBitVec - x.toBitVec = -x.toBitVec from BitVec.zero_sub _]
    rfl
  rw [hb, BitVec.getLsbD_neg, decide_eq_true hi, Bool.true_and]
  show (x.toNat.testBit i && (x.toNat.testBit i ^^ decide (∃ m, m < i ∧ x.toNat.testBit m = true))) = _
  rcases Nat.lt_trichotomy i j with h | h | h
  · rw [h0 i h, decide_eq_false (by omega : ¬ i = j), Bool.false_and]
  · subst h
    rw [h1, decide_eq_true rfl, decide_eq_false]
    · rfl
    · rintro ⟨m, a, b⟩
      rw [h0 m a] at b; cases b
  · rw [decide_eq_true (⟨j, h, h1⟩ : ∃ m, m < i ∧ x.toNat.testBit m = true), decide_eq_false (by omega : ¬ i = j)]
    cases x.toNat.testBit i <;> rfl
theorem db_all : ∀ j, j < 64 → db64[(shr64 (shl64 1 j * (285870213051353865 : UInt64)) 58).toNat]? = some (UInt8.ofNat j) := by decide
theorem tz_f (x : UInt64) {j : Nat} (hj : j < 64) (h1 : x.toNat.testBit j = true) (h0 : ∀ i, i < j → x.toNat.testBit i = false) : bits_TrailingZeros64.f x = some (j : Int) := by
  unfold bits_TrailingZeros64.f
  have hx : x ≠ 0 := fun h => by rw [h] at h1; simp at h1
  rw [show (x == 0) = false from by simp [hx], cond_false, low_bit x hj h1 h0, ix_nat, db_all j hj, bind_some']
  rw [UInt8.toNat_ofNat', Nat.mod_eq_of_lt (by omega)]
theorem w0_bits (w : UInt64) (h : ∀ j, j < 64 → w.toNat.testBit j = false) : w = 0 := u64_ext fun j hj => by rw [h j hj]; exact (Nat.zero_testBit j).symm
theorem next_l1 (k : Nat) (a0 : List UInt64) (a1 : Int) (x : UInt64) (f : List UInt64) (hf : f.length = 16) (he : f = a0.set (wrap64 ((if 0 > a1 then 0 else a1).tdiv 64)).toNat (x &&& (shl64 (18446744073709551615 : UInt64) ((if 0 > a1 then 0 else a1).tmod 64).toNat))) :
    ∀ (n w : Nat), w ≤ 16 → 16 - w < n → bits_Next.l1 k a0 a1 x n (w : Int) = some (match nx f (64 * w) with | some j => .inl ((j : Int), true) | none => .inr ()) := by
  intro n
  induction n with
  | zero => intro w _ h; omega
  | succ n ih =>
    intro w hw hn
    rw [bits_Next.l1.eq_2, ← he]
    by_cases h : w < 16
    · have h1 : w < f.length := by omega
      have hg : f.getD w 0 = f[w] := by simp [List.getD, h1]
      have hm : ∀ j, j < 64 → mem f (64 * w + j) = f[w].toNat.testBit j := fun j hj => by
        unfold mem
        rw [show (64 * w + j) / 64 = w from by omega, show (64 * w + j) % 64 = j from by omega, hg]
      rw [decide_eq_true (by omega), cond_true, ix_nat, List.getElem?_eq_getElem h1, bind_some']
      rcases nx_cases f (64 * w) with ⟨j, p1, p2, p3, p4, p5⟩ | ⟨p1, p2⟩
      · by_cases hj : j < 64 * w + 64
        · obtain ⟨i, rfl⟩ : ∃ i, j = 64 * w + i := ⟨j - 64 * w, by omega⟩
          have hi : i < 64 := by omega
          rw [hm i hi] at p3
          have hx : f[w] ≠ 0 := fun h => by rw [h] at p3; simp at p3
          rw [show (!(f[w] == 0)) = true from by simp [hx], cond_true, bind_some', tz_f f[w] hi p3 (fun m hm' => by rw [← hm m (by omega)]; exact p4 _ (by omega) (by omega)), bind_some', p5]
          simp only
          rw [show wrap64 (64 * (w : Int)) = ((64 * w : Nat) : Int) from by rw [w64 (by omega) (by omega)]; omega, w64 (by omega) (by omega)]
          rfl
        · have hz : f[w] = 0 := w0_bits _ fun m hm' => by rw [← hm m hm']; exact p4 _ (by omega) (by omega)
          rw [show (!(f[w] == 0)) = false from by simp [hz], cond_false, wsucc w (by omega), ih (w + 1) (by omega) (by omega), p5, nx_some (by omega) p2 p3 (fun i a b => p4 i (by omega) b)]
      · have hz : f[w] = 0 := w0_bits _ fun m hm' => by rw [← hm m hm']; exact p1 _ (by omega) (by omega)
        rw [show (!(f[w] == 0)) = false from by simp [hz], cond_false, wsucc w (by omega), ih (w + 1) (by omega) (by omega), p2, nx_none (fun i a b => p1 i (by omega) b)]
    · rw [decide_eq_false (by omega), cond_false, nx_none (fun i a b => by omega)]
theorem maxbit {s j : Nat} (hs : s < 64) (hj : j < 64) : (shl64 (18446744073709551615 : UInt64) s).toNat.testBit j = decide (s ≤ j) := by
  rw [shl64, UInt64.toNat_ofNat', show (18446744073709551615 : UInt64).toNat = 2 ^ 64 - 1 from rfl, Nat.testBit_mod_two_pow, decide_eq_true hj, Bool.true_and, Nat.mul_comm, Nat.testBit_two_pow_mul, Nat.testBit_two_pow_sub_one]
  by_cases h : s ≤ j
  · rw [decide_eq_true (show j ≥ s from h), decide_eq_true (show j - s < 64 by omega)]; rfl
  · rw [decide_eq_false (show ¬ j ≥ s from h)]; rfl
theorem next_f {e : List UInt64} (he : e.length = 16) (a : Int) {k : Nat} (hk : 16 < k) : bits_Next.f k e a = some (nxP e a.toNat) := by
  unfold bits_Next.f nxP
  rw [inside_f, bind_some']
  have hx : (if 0 > a then 0 else a) = ((a.toNat : Nat) : Int) := by split <;> omega
  have hl1 := next_l1 k e a
  rw [hx] at hl1 ⊢
  generalize a.toNat = n at hl1 ⊢
  by_cases hn : n < 1024
  · rw [decide_eq_true (by omega), show (!true) = false from rfl, cond_false, ix_word he hn, bind_some', tmod_nat, chk_of (decide_eq_true (by omega)), bind_some', bind_some']
    rw [tmod_nat, tdiv_nat hn, Int.toNat_natCast, Int.toNat_natCast] at hl1
    have hlen : (e.set (n / 64) (e.getD (n / 64) 0 &&& shl64 18446744073709551615 (n % 64))).length = 16 := by simp [he]
    have h := hl1 (e.getD (n / 64) 0) _ hlen rfl k (n / 64) (by omega) (by omega)
    rw [tdiv_nat hn, h]
    generalize hf : e.set (n / 64) (e.getD (n / 64) 0 &&& shl64 18446744073709551615 (n % 64)) = f
    have hm : ∀ i, 64 * (n / 64) ≤ i → mem f i = (mem e i && decide (n ≤ i)) := fun i hi => by
      rw [← hf]
      unfold mem
      rw [getD_set e _ _ _ (by omega)]
      by_cases h : i / 64 = n / 64
      · rw [if_pos h, UInt64.toNat_and, Nat.testBit_and, maxbit (Nat.mod_lt _ (by decide)) (Nat.mod_lt _ (by decide)), h]
        congr 1
        rw [decide_eq_decide]
        omega
      · rw [if_neg h, decide_eq_true (by omega), Bool.and_true]
    have hnx : nx f (64 * (n / 64)) = nx e n := by
      rcases nx_cases e n with ⟨j, p1, p2, p3, p4, p5⟩ | ⟨p1, p2⟩
      · rw [p5]
        refine nx_some (by omega) p2 (by rw [hm j (by omega), p3, decide_eq_true p1]; rfl) fun i a b => ?_
        rw [hm i a]
        by_cases hi : n ≤ i
        · rw [p4 i hi b, Bool.false_and]
        · rw [decide_eq_false hi, Bool.and_false]
      · rw [p2]
        refine nx_none fun i a b => ?_
        rw [hm i a]
        by_cases hi : n ≤ i
        · rw [p1 i hi b, Bool.false_and]
        · rw [decide_eq_false hi, Bool.and_false]
    rw [hnx]
    cases nx e n <;> rfl
  · rw [decide_eq_false (by omega), show (!false) = true from rfl, cond_true, nx_none (fun i a b => by omega)]
end Go.Proofs.YtfdocckaobmgeaaDoor.X
