/- Layer 2, plain: letters, runs, numbers. -/
import Derived.Test.YtjhmhdedonibbaaDoorTC
import Derived.Lib.AtoiAll
import Derived.Lib.AtoiAllCases
set_option linter.unusedVariables false
set_option linter.unusedSimpArgs false
namespace Go.Proofs.YtjhmhdedonibbaaDoor.X
open Go Go.RowKit Go.Proofs.YtjhmhdedonibbaaDoor.SX
def letB (c : UInt8) : Bool := (decide (97 ≤ c.toNat) && decide (c.toNat ≤ 122)) || ((decide (65 ≤ c.toNat) && decide (c.toNat ≤ 90)) || c == 95)
def digB (c : UInt8) : Bool := decide (48 ≤ c.toNat) && decide (c.toNat ≤ 57)
def tailB (c : UInt8) : Bool := letB c || (digB c || c == 39)
theorem cls : ∀ c : Fin 256, token_letter.f (UInt8.ofNat c.val) = some (letB (UInt8.ofNat c.val)) ∧ token_digit.f (UInt8.ofNat c.val) = some (digB (UInt8.ofNat c.val)) ∧ token_tail.f (UInt8.ofNat c.val) = some (tailB (UInt8.ofNat c.val)) ∧
    (tailB (UInt8.ofNat c.val) = true → c.val < 128 ∧ blankB (UInt8.ofNat c.val) = false ∧ (UInt8.ofNat c.val == 35) = false) ∧ (letB (UInt8.ofNat c.val) = true → tailB (UInt8.ofNat c.val) = true ∧ digB (UInt8.ofNat c.val) = false) ∧ (digB (UInt8.ofNat c.val) = true → tailB (UInt8.ofNat c.val) = true) := by decide +kernel
theorem cls_c (c : UInt8) : token_letter.f c = some (letB c) ∧ token_digit.f c = some (digB c) ∧ token_tail.f c = some (tailB c) ∧
    (tailB c = true → c.toNat < 128 ∧ blankB c = false ∧ (c == 35) = false) ∧ (letB c = true → tailB c = true ∧ digB c = false) ∧ (digB c = true → tailB c = true) := by
  have h := cls ⟨c.toNat, c.toNat_lt⟩
  simp only [UInt8.ofNat_toNat] at h
  exact h
/-- How many bytes at the beginning are of a kind. -/
def runN (p : UInt8 → Bool) : List UInt8 → Nat
  | [] => 0
  | c :: t => bif p c then runN p t + 1 else 0
theorem runN_le (p : UInt8 → Bool) : ∀ l : List UInt8, runN p l ≤ l.length
  | [] => Nat.le_refl _
  | c :: t => by
    have := runN_le p t
    rw [runN.eq_2]
    cases p c with
    | true => show runN p t + 1 ≤ t.length + 1; omega
    | false => exact Nat.zero_le _
theorem runN_at (p : UInt8 → Bool) : ∀ (l : List UInt8) (j : Nat), j < runN p l → p (l.getD j 0) = true
  | [], j, h => by simp [runN] at h
  | c :: t, j, h => by
    rw [runN.eq_2] at h
    cases hc : p c with
    | false => rw [hc] at h; exact absurd h (Nat.not_lt_zero _)
    | true =>
      rw [hc] at h
      cases j with
      | zero => exact hc
      | succ j => exact runN_at p t j (by have h2 : j + 1 < runN p t + 1 := h; omega)
theorem runN_stop (p : UInt8 → Bool) : ∀ (l : List UInt8), runN p l < l.length → p (l.getD (runN p l) 0) = false
  | [], h => by simp [runN] at h
  | c :: t, h => by
    rw [runN.eq_2] at h ⊢
    cases hc : p c with
    | false => exact hc
    | true =>
      rw [hc] at h
      exact runN_stop p t (by have h2 : runN p t + 1 < t.length + 1 := h; omega)
theorem runN_cons_t {p : UInt8 → Bool} {c : UInt8} {t : List UInt8} (h : p c = true) : runN p (c :: t) = runN p t + 1 := by rw [runN.eq_2, h]; rfl
theorem runN_cons_f {p : UInt8 → Bool} {c : UInt8} {t : List UInt8} (h : p c = false) : runN p (c :: t) = 0 := by rw [runN.eq_2, h]; rfl
theorem getD_eq {s : List UInt8} {i : Nat} (h : i < s.length) : s[i] = s.getD i 0 := by simp [List.getD, h]
theorem run_tail_l1 (k : Nat) (l : List UInt8) (hl : l.length ≤ 1000000000) : ∀ (d kk i : Nat), l.length - i ≤ d → d < kk → i ≤ l.length → token_run_token_tail.l1 k l kk (i : Int) = some ((i + runN tailB (l.drop i) : Nat) : Int) := by
  intro d
  induction d with
  | zero =>
    intro kk i h1 h2 h3
    obtain ⟨kk, rfl⟩ : ∃ m, kk = m + 1 := ⟨kk - 1, by omega⟩
    rw [token_run_token_tail.l1.eq_2, decide_eq_false (by omega), List.drop_eq_nil_of_le (by omega)]
    rfl
  | succ d ih =>
    intro kk i h1 h2 h3
    obtain ⟨kk, rfl⟩ : ∃ m, kk = m + 1 := ⟨kk - 1, by omega⟩
    by_cases h : i < l.length
    · rw [token_run_token_tail.l1.eq_2, decide_eq_true (by omega : (i : Int) < (l.length : Int)), cond_true, ix_getD h, bind_some', (cls_c _).2.2.1, bind_some', bind_some', drop_cons h, getD_eq h]
      cases hc : tailB (l.getD i 0) with
      | true =>
        rw [cond_true, wsucc i (by omega), ih kk (i + 1) (by omega) (by omega) (by omega), runN_cons_t hc]
        congr 1
        omega
      | false => rw [cond_false, runN_cons_f hc]; rfl
    · rw [token_run_token_tail.l1.eq_2, decide_eq_false (by omega), List.drop_eq_nil_of_le (by omega)]
      rfl
theorem run_digit_l1 (k : Nat) (l : List UInt8) (hl : l.length ≤ 1000000000) : ∀ (d kk i : Nat), l.length - i ≤ d → d < kk → i ≤ l.length → token_run_token_digit.l1 k l kk (i : Int) = some ((i + runN digB (l.drop i) : Nat) : Int) := by
  intro d
  induction d with
  | zero =>
    intro kk i h1 h2 h3
    obtain ⟨kk, rfl⟩ : ∃ m, kk = m + 1 := ⟨kk - 1, by omega⟩
    rw [token_run_token_digit.l1.eq_2, decide_eq_false (by omega), List.drop_eq_nil_of_le (by omega)]
    rfl
  | succ d ih =>
    intro kk i h1 h2 h3
    obtain ⟨kk, rfl⟩ : ∃ m, kk = m + 1 := ⟨kk - 1, by omega⟩
    by_cases h : i < l.length
    · rw [token_run_token_digit.l1.eq_2, decide_eq_true (by omega : (i : Int) < (l.length : Int)), cond_true, ix_getD h, bind_some', (cls_c _).2.1, bind_some', bind_some', drop_cons h, getD_eq h]
      cases hc : digB (l.getD i 0) with
      | true =>
        rw [cond_true, wsucc i (by omega), ih kk (i + 1) (by omega) (by omega) (by omega), runN_cons_t hc]
        congr 1
        omega
      | false => rw [cond_false, runN_cons_f hc]; rfl
    · rw [token_run_token_digit.l1.eq_2, decide_eq_false (by omega), List.drop_eq_nil_of_le (by omega)]
      rfl
theorem run_tail_f (k : Nat) (l : List UInt8) (hl : l.length ≤ 1000000000) (hk : l.length < k) : token_run_token_tail.f k l = some (runN tailB l : Int) := by
  unfold token_run_token_tail.f
  have h := run_tail_l1 k l hl l.length k 0 (by omega) hk (by omega)
  rw [show token_run_token_tail.l1 k l k 0 = _ from h, bind_some', List.drop_zero, Nat.zero_add]
theorem run_digit_f (k : Nat) (l : List UInt8) (hl : l.length ≤ 1000000000) (hk : l.length < k) : token_run_token_digit.f k l = some (runN digB l : Int) := by
  unfold token_run_token_digit.f
  have h := run_digit_l1 k l hl l.length k 0 (by omega) hk (by omega)
  rw [show token_run_token_digit.l1 k l k 0 = _ from h, bind_some', List.drop_zero, Nat.zero_add]
/-! Numbers -/
/-- What the digits at the beginning spell. -/
def numV : Nat → List UInt8 → Nat
  | acc, [] => acc
  | acc, c :: t => bif digB c then numV (acc * 10 + (c.toNat - 48)) t else acc
theorem numV_ge : ∀ (l : List UInt8) (acc : Nat), acc ≤ numV acc l
  | [], acc => Nat.le_refl _
  | c :: t, acc => by
    rw [numV.eq_2]
    cases digB c with
    | true => exact Nat.le_trans (by omega) (numV_ge t _)
    | false => exact Nat.le_refl _
theorem digB_iff {c : UInt8} : digB c = true ↔ 48 ≤ c.toNat ∧ c.toNat ≤ 57 := by unfold digB; simp
theorem numV_take : ∀ (l : List UInt8) (acc : Nat), numV acc (l.take (runN digB l)) = numV acc l
  | [], acc => rfl
  | c :: t, acc => by
    cases hc : digB c with
    | true =>
      rw [runN_cons_t hc, List.take_succ_cons, numV.eq_2, numV.eq_2, hc]
      exact numV_take t _
    | false => rw [runN_cons_f hc, List.take_zero, numV.eq_2, hc]; rfl
theorem take_digits (l : List UInt8) : ∀ c ∈ l.take (runN digB l), digB c = true := by
  induction l with
  | nil => intro c h; simp [runN] at h
  | cons a t ih =>
    intro c h
    cases ha : digB a with
    | true =>
      rw [runN_cons_t ha, List.take_succ_cons] at h
      rcases List.mem_cons.1 h with rfl | h
      · exact ha
      · exact ih c h
    | false => rw [runN_cons_f ha, List.take_zero] at h; cases h
theorem parse_digits : ∀ (m : List UInt8) (acc : Nat), (∀ c ∈ m, digB c = true) → acc < 18446744073709551616 → Lib.parseUint10 acc m = if numV acc m < 18446744073709551616 then .ok (numV acc m) else .range
  | [], acc, _, ha => by
    show Lib.NumEnd.ok acc = if acc < _ then _ else _
    rw [if_pos ha]
    rfl
  | c :: t, acc, h, ha => by
    have hc := h c (List.mem_cons_self ..)
    have hd := digB_iff.1 hc
    have hg := numV_ge t (acc * 10 + (c.toNat - 48))
    show (if 48 ≤ c.toNat ∧ c.toNat ≤ 57 then _ else _) = _
    rw [if_pos hd, numV.eq_2, hc, cond_true]
    by_cases h1 : 1844674407370955162 ≤ acc
    · rw [if_pos h1, if_neg (by omega)]
    · rw [if_neg h1]
      by_cases h2 : 18446744073709551616 ≤ acc * 10 + (c.toNat - 48)
      · rw [if_pos h2, if_neg (by omega)]
      · rw [if_neg h2]
        exact parse_digits t _ (fun x hx => h x (List.mem_cons_of_mem _ hx)) (by omega)
theorem atoi_digits (m : List UInt8) (hne : m ≠ []) (h : ∀ c ∈ m, digB c = true) : (numV 0 m < 9223372036854775808 ∧ atoiF m = ((numV 0 m : Int), false)) ∨ (9223372036854775808 ≤ numV 0 m ∧ (atoiF m).2 = true) := by
  cases m with
  | nil => exact absurd rfl hne
  | cons c t =>
    have hc := digB_iff.1 (h c (List.mem_cons_self ..))
    have hp := parse_digits (c :: t) 0 h (by omega)
    have hm : Lib.parseMag (c :: t) = Lib.parseUint10 0 (c :: t) := by unfold Lib.parseMag; rw [if_neg (by simp)]
    unfold atoiF
    rw [Lib.atoiAll_plain c t (by omega) (by omega), hm, hp]
    by_cases h1 : numV 0 (c :: t) < 18446744073709551616
    · rw [if_pos h1]
      unfold Lib.signless
      by_cases h2 : 9223372036854775808 ≤ numV 0 (c :: t)
      · right
        simp only
        rw [if_pos h2]
        exact ⟨h2, rfl⟩
      · left
        simp only
        rw [if_neg h2]
        exact ⟨by omega, rfl⟩
    · right
      rw [if_neg h1]
      exact ⟨by omega, rfl⟩
/-- Is the number at the beginning no good? -/
def numBad (l : List UInt8) : Bool := (decide (1 < runN digB l) && l.getD 0 0 == 48) || (decide (999999999 < numV 0 l) || (decide (runN digB l < l.length) && tailB (l.getD (runN digB l) 0)))
end Go.Proofs.YtjhmhdedonibbaaDoor.X
