/- Layer 2, plain: what a token is written as, by the program. -/
import Derived.Test.YtjhmhdedonibbaaDoorTJ0
import Derived.Test.YtjhmhdedonibbaaDoorTDd
set_option linter.unusedVariables false
set_option linter.unusedSimpArgs false
namespace Go.Proofs.YtjhmhdedonibbaaDoor.X
open Go Go.RowKit Go.Proofs.YtjhmhdedonibbaaDoor.SX
open Go.Lib (itoa)
def signB (t : List UInt8) : Bool := SIGNS.contains t
/-- What a token is written as. -/
def writeP (t : T_api_Token) : List UInt8 × Int :=
  if t.f_Kind = 0 ∧ t.f_Text = [] ∧ t.f_Int = 0 then ([], 0)
  else if t.f_Kind = 1 ∧ t.f_Int = 0 ∧ nameB t.f_Text = true then (t.f_Text, 0)
  else if t.f_Kind = 2 ∧ t.f_Text = [] ∧ 0 ≤ t.f_Int ∧ t.f_Int ≤ 999999999 then (itoa t.f_Int, 0)
  else if t.f_Kind = 3 ∧ t.f_Int = 0 ∧ signB t.f_Text = true then (t.f_Text, 0)
  else ([], 2)
theorem eqb_z (a b : Int) (x y : List UInt8) (c d : Int) : T_api_Token.eqb ⟨a, x, c, ⟨0, 0, 0⟩⟩ ⟨b, y, d, ⟨0, 0, 0⟩⟩ = decide (a = b ∧ x = y ∧ c = d) := by
  unfold T_api_Token.eqb
  rw [spot_refl, Bool.eq_iff_iff]
  simp
theorem sign_self : ∀ x ∈ SIGNS, signOf x = some x := by decide +kernel
theorem spec_sign : ∀ e ∈ SPECS, e.2.1 = 3 → e.2.2 ∈ SIGNS := by decide
theorem signB_iff {t : List UInt8} : signB t = true ↔ t ∈ SIGNS := by unfold signB; exact List.contains_iff_mem
theorem sign_write (k : Nat) (x : List UInt8) (hk : 30 ≤ k) : ∃ z, token_sign.f k x = some z ∧ ((decide (z.2 > 0) && z.1 == x) = signB x) ∧ (signB x = true → z.1 = x) := by
  by_cases hne : x = []
  · subst hne
    have h := sign_l1 k [] 20 k 0 (by omega) (by omega) (by omega)
    refine ⟨([], 0), ?_, rfl, fun h => by cases h⟩
    unfold token_sign.f
    rw [show token_sign.l1 k [] k 0 = _ from h]
    rfl
  · rw [sign_f k x hk hne]
    cases hs : signOf x with
    | some y =>
      obtain ⟨hm, hp⟩ := signOf_mem hs
      have hy : 1 ≤ y.length := List.length_pos_iff.2 (sign_chars y hm).1
      refine ⟨_, rfl, ?_, ?_⟩
      · show (decide ((y.length : Int) > 0) && y == x) = _
        rw [decide_eq_true (by omega : (y.length : Int) > 0), Bool.true_and, Bool.eq_iff_iff, beq_iff_eq, signB_iff]
        constructor
        · rintro rfl; exact hm
        · intro h
          have := sign_self x h
          rw [hs] at this
          exact Option.some.inj this
      · intro h
        have := sign_self x (signB_iff.1 h)
        rw [hs] at this
        exact Option.some.inj this
    | none =>
      have hno : signB x = false := by
        rw [← Bool.not_eq_true, signB_iff]
        intro h
        have := sign_self x h
        rw [hs] at this
        cases this
      simp only
      cases hp : specOf x with
      | none => exact ⟨_, rfl, by rw [hno]; rfl, fun h => by rw [hno] at h; cases h⟩
      | some e =>
        simp only
        cases h3 : e.2.1 == 3 with
        | false => exact ⟨_, rfl, by rw [hno]; rfl, fun h => by rw [hno] at h; cases h⟩
        | true =>
          refine ⟨_, rfl, ?_, fun h => by rw [hno] at h; cases h⟩
          rw [hno]
          have hm := spec_sign e (spec_mem hp).1 (by simpa using h3)
          show (decide ((e.1.length : Int) > 0) && e.2.2 == x) = false
          rw [Bool.and_eq_false_iff]
          right
          rw [← Bool.not_eq_true, beq_iff_eq]
          rintro rfl
          rw [signB_iff.2 hm] at hno
          cases hno
theorem write_f (k : Nat) (t : T_api_Token) (hs : t.f_Text.length ≤ 1000000000) (hk : t.f_Text.length + 30 ≤ k) : token_Write.f k t = some (writeP t) := by
  unfold token_Write.f writeP
  rw [eqb_z, eqb_z, eqb_z, eqb_z]
  by_cases h0 : t.f_Kind = 0 ∧ t.f_Text = [] ∧ t.f_Int = 0
  · rw [decide_eq_true h0, if_pos h0]; rfl
  rw [decide_eq_false h0, if_neg h0, cond_false]
  by_cases h1 : t.f_Kind = 1 ∧ t.f_Text = t.f_Text ∧ t.f_Int = 0
  · rw [decide_eq_true h1, cond_true, name_f k _ hs hk, bind_some']
    cases hn : nameB t.f_Text with
    | true => rw [if_pos ⟨h1.1, h1.2.2, rfl⟩]; rfl
    | false => rw [if_neg (fun h => by cases h.2.2), if_neg (by omega), if_neg (by omega)]; rfl
  rw [decide_eq_false h1, cond_false, if_neg (fun h => h1 ⟨h.1, rfl, h.2.1⟩)]
  by_cases h2 : t.f_Kind = 2 ∧ t.f_Text = [] ∧ t.f_Int = t.f_Int
  · rw [decide_eq_true h2, cond_true]
    by_cases h3 : 0 ≤ t.f_Int
    · rw [decide_eq_true (by omega : t.f_Int ≥ 0), cond_true, bind_some']
      by_cases h4 : t.f_Int ≤ 999999999
      · unfold strconv_Itoa.f
        rw [decide_eq_true h4, cond_true, if_pos ⟨h2.1, h2.2.1, h3, h4⟩, decide_eq_true (by omega : -9223372036854775808 ≤ t.f_Int), decide_eq_true (by omega : t.f_Int ≤ 9223372036854775807)]
        rfl
      · rw [decide_eq_false h4, cond_false, if_neg (fun h => h4 h.2.2.2), if_neg (by omega)]
    · rw [decide_eq_false (by omega : ¬ t.f_Int ≥ 0), cond_false, bind_some', cond_false, if_neg (fun h => h3 h.2.2.1), if_neg (by omega)]
  rw [decide_eq_false h2, cond_false, if_neg (fun h => h2 ⟨h.1, h.2.1, rfl⟩)]
  by_cases h3 : t.f_Kind = 3 ∧ t.f_Text = t.f_Text ∧ t.f_Int = 0
  · obtain ⟨z, hz, hb, hy⟩ := sign_write k t.f_Text (by omega)
    rw [decide_eq_true h3, cond_true, hz, bind_some', cond_and, bind_some', hb]
    cases hsb : signB t.f_Text with
    | true => rw [cond_true, if_pos ⟨h3.1, h3.2.2, rfl⟩, hy hsb]
    | false => rw [cond_false, if_neg (fun h => by cases h.2.2)]
  · rw [decide_eq_false h3, cond_false, if_neg (fun h => h3 ⟨h.1, rfl, h.2.1⟩)]
end Go.Proofs.YtjhmhdedonibbaaDoor.X
