/- Layer 2, plain: one token, by the program. -/
import Derived.Test.YtjhmhdedonibbaaDoorTE
set_option linter.unusedVariables false
set_option linter.unusedSimpArgs false
namespace Go.Proofs.YtjhmhdedonibbaaDoor.X
open Go Go.RowKit Go.Proofs.YtjhmhdedonibbaaDoor.SX
/-- The token at the beginning and its length, or the error. -/
def wordP (l : List UInt8) : Sum (T_api_Token × Nat) Int :=
  bif letB (l.getD 0 0) then (if 31 < runN tailB l then .inr 22 else .inl (tk 1 (l.take (runN tailB l)) 0, runN tailB l))
  else bif digB (l.getD 0 0) then (bif numBad l then .inr 21 else .inl (tk 2 [] (numV 0 l : Int), runN digB l))
  else match specOf l with
    | some e => .inl (tk e.2.1 e.2.2 0, e.1.length)
    | none => match signOf l with
      | some x => .inl (tk 3 x 0, x.length)
      | none => .inr 20
theorem natbeq (a b : Nat) : ((a : Int) == (b : Int)) = decide (a = b) := by
  rw [Bool.eq_iff_iff, beq_iff_eq, decide_eq_true_eq]
  omega
theorem rune_w (l : List UInt8) : ((Lib.decodeL l).1 = 172 → (Lib.decodeL l).2 = 2) ∧ ((Lib.decodeL l).1 = 8743 → (Lib.decodeL l).2 = 3) ∧ ((Lib.decodeL l).1 = 8744 → (Lib.decodeL l).2 = 3) ∧ ((Lib.decodeL l).1 = 8594 → (Lib.decodeL l).2 = 3) ∧ ((Lib.decodeL l).1 = 8596 → (Lib.decodeL l).2 = 3) ∧
    ((Lib.decodeL l).1 = 8866 → (Lib.decodeL l).2 = 3) ∧ ((Lib.decodeL l).1 = 8804 → (Lib.decodeL l).2 = 3) ∧ ((Lib.decodeL l).1 = 8868 → (Lib.decodeL l).2 = 3) ∧ ((Lib.decodeL l).1 = 8869 → (Lib.decodeL l).2 = 3) :=
  ⟨(rune2 l).2, (rune3 l 136 167 (by decide) (by decide)).2, (rune3 l 136 168 (by decide) (by decide)).2, (rune3 l 134 146 (by decide) (by decide)).2, (rune3 l 134 148 (by decide) (by decide)).2, (rune3 l 138 162 (by decide) (by decide)).2, (rune3 l 137 164 (by decide) (by decide)).2, (rune3 l 138 164 (by decide) (by decide)).2, (rune3 l 138 165 (by decide) (by decide)).2⟩
theorem sign_chars : ∀ x ∈ SIGNS, x ≠ [] ∧ x.length ≤ 3 ∧ ∀ c ∈ x, c.toNat < 128 ∧ blankB c = false ∧ (c == 35) = false ∧ tailB c = false := by decide +kernel
theorem signOf_mem {l x : List UInt8} (h : signOf l = some x) : x ∈ SIGNS ∧ x.isPrefixOf l = true := ⟨List.mem_of_find?_eq_some h, by have := List.find?_some h; exact this⟩
theorem decode_big (l : List UInt8) (h : 128 ≤ (Lib.decodeL l).1) : 128 ≤ (l.getD 0 0).toNat := by
  rw [Lib.decodeL_N] at h
  apply Classical.byContradiction
  intro hc
  rw [Lib.decodeN_ascii _ _ _ _ _ (by omega)] at h
  simp only at h
  omega
theorem signOf_big (l : List UInt8) (h : 128 ≤ (l.getD 0 0).toNat) : signOf l = none := by
  cases hs : signOf l with
  | none => rfl
  | some x =>
    obtain ⟨hm, hp⟩ := signOf_mem hs
    obtain ⟨hne, _, hc⟩ := sign_chars x hm
    cases x with
    | nil => exact absurd rfl hne
    | cons a t =>
      cases l with
      | nil => simp [List.isPrefixOf] at hp
      | cons b u =>
        simp only [List.isPrefixOf, Bool.and_eq_true, beq_iff_eq] at hp
        have := (hc a (List.mem_cons_self ..)).1
        rw [hp.1] at this
        simp only [List.getD_cons_zero] at h
        omega
theorem sign_f (k : Nat) (l : List UInt8) (hk : 30 ≤ k) (hne : l ≠ []) : token_sign.f k l = some (match signOf l with
    | some x => (x, (x.length : Int))
    | none => match specOf l with
      | some e => bif e.2.1 == 3 then (e.2.2, (e.1.length : Int)) else ([], 0)
      | none => ([], 0)) := by
  unfold token_sign.f
  have h := sign_l1 k l 20 k 0 (by omega) (by omega) (by omega)
  rw [show token_sign.l1 k l k 0 = _ from h, bind_some', List.drop_zero]
  show (match (match signOf l with | some e => Sum.inl (e, (e.length : Int)) | none => Sum.inr ()) with | .inl r_ => some r_ | .inr _ => _) = _
  cases hs : signOf l with
  | some x => rfl
  | none =>
    simp only
    unfold utf8_DecodeRuneInString.f
    rw [decodeGo_L l hne, bind_some', specOf_rune]
    have hw := rune_w l
    simp only
    rw [show ((172 : Int)) = ((172 : Nat) : Int) from rfl, show ((8743 : Int)) = ((8743 : Nat) : Int) from rfl, show ((8744 : Int)) = ((8744 : Nat) : Int) from rfl, show ((8594 : Int)) = ((8594 : Nat) : Int) from rfl, show ((8596 : Int)) = ((8596 : Nat) : Int) from rfl, show ((8866 : Int)) = ((8866 : Nat) : Int) from rfl, show ((8804 : Int)) = ((8804 : Nat) : Int) from rfl]
    rw [natbeq, natbeq, natbeq, natbeq, natbeq, natbeq, natbeq]
    generalize (Lib.decodeL l).1 = r at hw ⊢
    generalize (Lib.decodeL l).2 = w at hw ⊢
    by_cases h0 : r = 172
    · rw [decide_eq_true h0, if_pos h0, hw.1 h0]; rfl
    rw [decide_eq_false h0, if_neg h0, cond_false]
    by_cases h1 : r = 8743
    · rw [decide_eq_true h1, if_pos h1, hw.2.1 h1]; rfl
    rw [decide_eq_false h1, if_neg h1, cond_false]
    by_cases h2 : r = 8744
    · rw [decide_eq_true h2, if_pos h2, hw.2.2.1 h2]; rfl
    rw [decide_eq_false h2, if_neg h2, cond_false]
    by_cases h3 : r = 8594
    · rw [decide_eq_true h3, if_pos h3, hw.2.2.2.1 h3]; rfl
    rw [decide_eq_false h3, if_neg h3, cond_false]
    by_cases h4 : r = 8596
    · rw [decide_eq_true h4, if_pos h4, hw.2.2.2.2.1 h4]; rfl
    rw [decide_eq_false h4, if_neg h4, cond_false]
    by_cases h5 : r = 8866
    · rw [decide_eq_true h5, if_pos h5, hw.2.2.2.2.2.1 h5]; rfl
    rw [decide_eq_false h5, if_neg h5, cond_false]
    by_cases h6 : r = 8804
    · rw [decide_eq_true h6, if_pos h6, hw.2.2.2.2.2.2.1 h6]; rfl
    rw [decide_eq_false h6, if_neg h6, cond_false]
    by_cases h7 : r = 8868
    · rw [if_pos h7]; rfl
    rw [if_neg h7]
    by_cases h8 : r = 8869
    · rw [if_pos h8]; rfl
    rw [if_neg h8]
def wordR (l : List UInt8) : T_api_Token × Int × Int := match wordP l with
  | .inl (t, n) => (t, (n : Int), 0)
  | .inr e => (tk 0 [] 0, 0, e)
theorem word_f (k : Nat) (l : List UInt8) (hl : l.length ≤ 1000000000) (hk : l.length + 30 ≤ k) (hne : l ≠ []) : token_word.f k l = some (wordR l) := by
  have h0 : 0 < l.length := List.length_pos_iff.2 hne
  have hx : ix l (0 : Int) = some (l.getD 0 0) := ix_getD h0
  unfold token_word.f wordR wordP
  rw [hx, bind_some', (cls_c _).1, bind_some']
  cases hL : letB (l.getD 0 0) with
  | true =>
    rw [cond_true, cond_true, run_tail_f k l hl (by omega), bind_some']
    by_cases h : 31 < runN tailB l
    · rw [decide_eq_true (by omega : (runN tailB l : Int) > 31), if_pos h]; rfl
    · rw [decide_eq_false (by omega : ¬ (runN tailB l : Int) > 31), if_neg h, cond_false]
      have hc : cut l 0 (runN tailB l : Int) = some (l.take (runN tailB l)) := cut_to l (runN_le _ _)
      rw [hc]
      rfl
  | false =>
    rw [cond_false, cond_false, bind_some', (cls_c _).2.1, bind_some']
    cases hD : digB (l.getD 0 0) with
    | true =>
      rw [cond_true, cond_true, run_digit_f k l hl (by omega), bind_some']
      have hrl := runN_le digB l
      have hn1 : 1 ≤ runN digB l := by
        cases l with
        | nil => exact absurd rfl hne
        | cons a t =>
          have : digB a = true := hD
          rw [runN_cons_t this]
          omega
      have hc : cut l 0 (runN digB l : Int) = some (l.take (runN digB l)) := cut_to l hrl
      have htl : (l.take (runN digB l)).length = runN digB l := by rw [List.length_take]; omega
      unfold strconv_Atoi.f
      rw [hc, bind_some', chk_of (decide_eq_true (by rw [htl]; omega)), bind_some', bind_some']
      have hat := atoi_digits (l.take (runN digB l)) (by intro e; rw [e] at htl; simp at htl; omega) (take_digits l)
      rw [numV_take] at hat
      have hX : ((bif (atoiF (l.take (runN digB l))).2 then some true else (bif (decide ((atoiF (l.take (runN digB l))).1 > 999999999)) then some true else (bif (decide ((runN digB l : Int) < (l.length : Int))) then (ix l (runN digB l : Int)).bind fun x161 => (token_tail.f x161).bind fun z162 => some z162 else some false))) : Option Bool) =
          some (decide (999999999 < numV 0 l) || (decide (runN digB l < l.length) && tailB (l.getD (runN digB l) 0))) := by
        have ht : ((bif (decide ((runN digB l : Int) < (l.length : Int))) then (ix l (runN digB l : Int)).bind fun x161 => (token_tail.f x161).bind fun z162 => some z162 else some false) : Option Bool) = some (decide (runN digB l < l.length) && tailB (l.getD (runN digB l) 0)) := by
          by_cases h : runN digB l < l.length
          · rw [decide_eq_true (by omega : (runN digB l : Int) < (l.length : Int)), decide_eq_true h, cond_true, ix_getD h, bind_some', (cls_c _).2.2.1]; rfl
          · rw [decide_eq_false (by omega : ¬ (runN digB l : Int) < (l.length : Int)), decide_eq_false h]; rfl
        rw [ht]
        rcases hat with ⟨hv, he⟩ | ⟨hv, he⟩
        · rw [he]
          simp only
          rw [cond_false]
          by_cases h : 999999999 < numV 0 l
          · rw [decide_eq_true (by omega : (numV 0 l : Int) > 999999999), decide_eq_true h]; rfl
          · rw [decide_eq_false (by omega : ¬ (numV 0 l : Int) > 999999999), decide_eq_false h]; rfl
        · rw [he, decide_eq_true (by omega : 999999999 < numV 0 l)]; rfl
      rw [hX]
      have hB : ((bif (decide ((runN digB l : Int) > 1)) then (some (l.getD 0 0)).bind fun x156 => (bif (x156 == (48 : UInt8)) then some true else some (decide (999999999 < numV 0 l) || (decide (runN digB l < l.length) && tailB (l.getD (runN digB l) 0)))) else some (decide (999999999 < numV 0 l) || (decide (runN digB l < l.length) && tailB (l.getD (runN digB l) 0)))) : Option Bool) = some (numBad l) := by
        unfold numBad
        by_cases h : 1 < runN digB l
        · rw [decide_eq_true (by omega : (runN digB l : Int) > 1), decide_eq_true h, cond_true, bind_some']
          cases l.getD 0 0 == 48 <;> rfl
        · rw [decide_eq_false (by omega : ¬ (runN digB l : Int) > 1), decide_eq_false h]; rfl
      rw [hx] at *
      rw [hB, bind_some']
      cases hb : numBad l with
      | true => rfl
      | false =>
        rw [cond_false, cond_false]
        rcases hat with ⟨hv, he⟩ | ⟨hv, he⟩
        · rw [he]; rfl
        · exfalso
          unfold numBad at hb
          rw [decide_eq_true (by omega : 999999999 < numV 0 l)] at hb
          simp at hb
    | false =>
      rw [cond_false, cond_false, sign_f k l (by omega) hne]
      unfold utf8_DecodeRuneInString.f
      rw [decodeGo_L l hne, bind_some', bind_some']
      simp only
      rw [show ((8868 : Int)) = ((8868 : Nat) : Int) from rfl, show ((8869 : Int)) = ((8869 : Nat) : Int) from rfl, natbeq, natbeq]
      have hbig := decode_big l
      have hsb := signOf_big l
      have hw := rune_w l
      rw [specOf_rune]
      generalize (Lib.decodeL l).1 = r at hw hbig ⊢
      generalize (Lib.decodeL l).2 = w at hw ⊢
      by_cases h7 : r = 8868
      · subst h7
        rw [hw.2.2.2.2.2.2.2.1 rfl]; rfl
      rw [decide_eq_false h7, cond_false]
      by_cases h8 : r = 8869
      · subst h8
        rw [hw.2.2.2.2.2.2.2.2 rfl]; rfl
      rw [decide_eq_false h8, cond_false]
      by_cases h0 : r = 172
      · subst h0
        rw [hsb (hbig (by omega))]; rfl
      by_cases h1 : r = 8743
      · subst h1
        rw [hsb (hbig (by omega))]; rfl
      by_cases h2 : r = 8744
      · subst h2
        rw [hsb (hbig (by omega))]; rfl
      by_cases h3 : r = 8594
      · subst h3
        rw [hsb (hbig (by omega))]; rfl
      by_cases h4 : r = 8596
      · subst h4
        rw [hsb (hbig (by omega))]; rfl
      by_cases h5 : r = 8866
      · subst h5
        rw [hsb (hbig (by omega))]; rfl
      by_cases h6 : r = 8804
      · subst h6
        rw [hsb (hbig (by omega))]; rfl
      rw [if_neg h0, if_neg h1, if_neg h2, if_neg h3, if_neg h4, if_neg h5, if_neg h6, if_neg h7, if_neg h8]
      cases hs : signOf l with
      | none => rfl
      | some x =>
        obtain ⟨hm, hp⟩ := signOf_mem hs
        have hx1 : 1 ≤ x.length := List.length_pos_iff.2 (sign_chars x hm).1
        simp only
        rw [show ((x.length : Int) == 0) = false from by rw [← Bool.not_eq_true, beq_iff_eq]; omega]
        rfl
end Go.Proofs.YtjhmhdedonibbaaDoor.X
