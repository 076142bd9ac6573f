/- Layer 2, plain: what a token is written as, by the document. -/
import Derived.Test.YtjhmhdedonibbaaDoorTK

set_option linter.unusedVariables false
set_option linter.unusedSimpArgs false
namespace Go.Proofs.YtjhmhdedonibbaaDoor.X
open Go Go.RowKit Go.Proofs.YtjhmhdedonibbaaDoor.SX
open Go.Lib (itoa decDigits)
def okz (z : T_api_Token × Int × Int) (x : List UInt8) (t : T_api_Token) : Bool := z.2.2 == 0 && (z.2.1 == (x.length : Int) && (z.1.f_Kind == t.f_Kind && (z.1.f_Text == t.f_Text && z.1.f_Int == t.f_Int)))
theorem okz_chain (z : T_api_Token × Int × Int) (x : List UInt8) (t : T_api_Token) : ((bif (z.2.2 != 0) then some true else (bif (z.2.1 != (x.length : Int)) then some true else (bif (z.1.f_Kind != t.f_Kind) then some true else (bif (!(z.1.f_Text == t.f_Text)) then some true else some (z.1.f_Int != t.f_Int))))) : Option Bool) = some (!(okz z x t)) := by
  unfold okz bne
  cases z.2.2 == 0 <;> cases z.2.1 == (x.length : Int) <;> cases z.1.f_Kind == t.f_Kind <;> cases z.1.f_Text == t.f_Text <;> rfl
theorem wordP_name {x : List UInt8} (h : nameB x = true) : wordP x = .inl (tk 1 x 0, x.length) := by
  obtain ⟨h1, h2, h3, h4⟩ := nameB_iff.1 h
  unfold wordP
  rw [h3, cond_true, h4, if_neg (by omega), List.take_length]
theorem wordP_sign : ∀ x ∈ SIGNS, wordP x = .inl (tk 3 x 0, x.length) := by
  intro x hx
  have hall : ∀ x ∈ SIGNS, letB (x.getD 0 0) = false ∧ digB (x.getD 0 0) = false ∧ specOf x = none := by decide +kernel
  obtain ⟨a, b, c⟩ := hall x hx
  unfold wordP
  rw [a, cond_false, b, cond_false, c, sign_self x hx]
/-- A token of kind 3 whose text is all there is. -/
theorem sign_of {x : List UInt8} {t : T_api_Token} {n : Nat} (hw : wordP x = .inl (t, n)) (hk : t.f_Kind = 3) (ht : t.f_Text = x) : x ∈ SIGNS ∧ t.f_Int = 0 := by
  unfold wordP at hw
  cases hL : letB (x.getD 0 0) with
  | true =>
    rw [hL, cond_true] at hw
    split at hw
    · cases hw
    · injection hw with hw
      injection hw with h1 h2
      rw [← h1] at hk
      exact absurd (show (1 : Int) = 3 from hk) (by decide)
  | false =>
    rw [hL, cond_false] at hw
    cases hD : digB (x.getD 0 0) with
    | true =>
      rw [hD, cond_true] at hw
      cases hb : numBad x with
      | true => rw [hb, cond_true] at hw; cases hw
      | false =>
        rw [hb, cond_false] at hw
        injection hw with hw
        injection hw with h1 h2
        rw [← h1] at hk
        exact absurd (show (2 : Int) = 3 from hk) (by decide)
    | false =>
      rw [hD, cond_false] at hw
      cases hs : specOf x with
      | some e =>
        rw [hs] at hw
        injection hw with hw
        injection hw with h1 h2
        rw [← h1] at hk ht ⊢
        refine ⟨?_, rfl⟩
        have := spec_sign e (spec_mem hs).1 hk
        rw [← ht]
        exact this
      | none =>
        rw [hs] at hw
        cases hg2 : signOf x with
        | some y =>
          rw [hg2] at hw
          injection hw with hw
          injection hw with h1 h2
          rw [← h1] at ht ⊢
          refine ⟨?_, rfl⟩
          rw [← ht]
          exact (signOf_mem hg2).1
        | none => rw [hg2] at hw; cases hw
/-- The numeral of a number, as a token. -/
theorem wordP_dec (m : Nat) : wordP (decDigits m) = if m ≤ 999999999 then .inl (tk 2 [] (m : Int), (decDigits m).length) else .inr 21 := by
  have hall := dd_digits m
  have hrun := run_all hall
  have hnum := dd_num m
  obtain ⟨c, u, e, h1, h2, h3⟩ := dd_head m
  have hd : digB c = true := digB_iff.2 ⟨h1, h2⟩
  have hl : letB c = false := by
    cases hlc : letB c with
    | false => rfl
    | true => have := ((cls_c c).2.2.2.2.1 hlc).2; rw [hd] at this; cases this
  have hz : (decide (1 < (decDigits m).length) && c == 48) = false := by
    rw [Bool.and_eq_false_iff]
    by_cases h : 1 ≤ m
    · right
      rw [← Bool.not_eq_true, beq_iff_eq]
      exact h3 h
    · left
      obtain rfl : m = 0 := by omega
      rw [dd_small (by decide)]
      rfl
  have hg : (decDigits m).getD 0 0 = c := by rw [e]; rfl
  unfold wordP
  rw [hg, hl, cond_false, hd, cond_true]
  unfold numBad
  rw [hrun, hnum, hg, hz, Bool.false_or, decide_eq_false (Nat.lt_irrefl _), Bool.false_and, Bool.or_false]
  by_cases h : m ≤ 999999999
  · rw [if_pos h, decide_eq_false (by omega)]; rfl
  · rw [if_neg h, decide_eq_true (by omega)]; rfl
end Go.Proofs.YtjhmhdedonibbaaDoor.X
