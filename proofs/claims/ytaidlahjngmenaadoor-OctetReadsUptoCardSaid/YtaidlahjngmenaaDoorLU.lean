/- Layer 1, plain: is a text UTF-8? The document's answer and the library's one way of telling it. -/
import Derived.Test.YtaidlahjngmenaaDoorLA
import Derived.Lib.ValidLaws
set_option linter.unusedVariables false
set_option linter.unusedSimpArgs false
namespace Go.Proofs.YtaidlahjngmenaaDoor.X
open Go Go.RowKit Go.Proofs.YtaidlahjngmenaaDoor.SX
theorem drop_drop' {α : Type} (xs : List α) (i j : Nat) : (xs.drop i).drop j = xs.drop (i + j) := by rw [List.drop_drop]
theorem getD_drop (l : List UInt8) (i q : Nat) : (l.drop i).getD q 0 = l.getD (i + q) 0 := by simp [List.getD, List.getElem?_drop]
theorem ix_getD {l : List UInt8} {n : Nat} (h : n < l.length) : ix l (n : Int) = some (l.getD n 0) := by
  rw [ix_nat, List.getElem?_eq_getElem h, List.getD_eq_getElem?_getD, List.getElem?_eq_getElem h]
  rfl
/-- The bytes behind a lead byte. -/
def contOk (l : List UInt8) : Nat → Nat → Nat → Nat → Bool
  | 0, _, _, _ => true
  | m + 1, q, lo, hi => decide (q < l.length) && (decide (lo ≤ (l.getD q 0).toNat) && (decide ((l.getD q 0).toNat ≤ hi) && contOk l m (q + 1) 128 191))
theorem check2 (l : List UInt8) (lo hi : Nat) : Lib.checkN l.length (l.getD 1 0).toNat (l.getD 2 0).toNat (l.getD 3 0).toNat 2 lo hi = bif contOk l 1 1 lo hi then some 2 else none := by
  simp only [Lib.checkN, contOk, Bool.and_true, if_true]
  by_cases h : 1 < l.length ∧ lo ≤ (l.getD 1 0).toNat ∧ (l.getD 1 0).toNat ≤ hi
  · rw [if_neg (by omega), decide_eq_true h.1, decide_eq_true h.2.1, decide_eq_true h.2.2]; rfl
  · rw [if_pos (by omega)]
    have : (decide (1 < l.length) && (decide (lo ≤ (l.getD 1 0).toNat) && decide ((l.getD 1 0).toNat ≤ hi))) = false := by
      rw [← Bool.not_eq_true]; simpa using h
    rw [this]; rfl
theorem check3 (l : List UInt8) (lo hi : Nat) : Lib.checkN l.length (l.getD 1 0).toNat (l.getD 2 0).toNat (l.getD 3 0).toNat 3 lo hi = bif contOk l 2 1 lo hi then some 3 else none := by
  simp only [Lib.checkN, contOk, Bool.and_true, if_true]
  rw [if_neg (by decide)]
  by_cases h : 1 < l.length ∧ lo ≤ (l.getD 1 0).toNat ∧ (l.getD 1 0).toNat ≤ hi ∧ 2 < l.length ∧ 128 ≤ (l.getD 2 0).toNat ∧ (l.getD 2 0).toNat ≤ 191
  · rw [if_neg (by omega), decide_eq_true h.1, decide_eq_true h.2.1, decide_eq_true h.2.2.1, decide_eq_true (show 1 + 1 < l.length by omega), decide_eq_true h.2.2.2.2.1, decide_eq_true h.2.2.2.2.2]; rfl
  · rw [if_pos (by omega)]
    have : (decide (1 < l.length) && (decide (lo ≤ (l.getD 1 0).toNat) && (decide ((l.getD 1 0).toNat ≤ hi) && (decide (1 + 1 < l.length) && (decide (128 ≤ (l.getD (1 + 1) 0).toNat) && decide ((l.getD (1 + 1) 0).toNat ≤ 191)))))) = false := by
      rw [← Bool.not_eq_true]; simpa using h
    rw [this]; rfl
theorem check4 (l : List UInt8) (lo hi : Nat) : Lib.checkN l.length (l.getD 1 0).toNat (l.getD 2 0).toNat (l.getD 3 0).toNat 4 lo hi = bif contOk l 3 1 lo hi then some 4 else none := by
  simp only [Lib.checkN, contOk, Bool.and_true, if_true]
  rw [if_neg (by decide), if_neg (by decide)]
  by_cases h : 1 < l.length ∧ lo ≤ (l.getD 1 0).toNat ∧ (l.getD 1 0).toNat ≤ hi ∧ 2 < l.length ∧ 128 ≤ (l.getD 2 0).toNat ∧ (l.getD 2 0).toNat ≤ 191 ∧ 3 < l.length ∧ 128 ≤ (l.getD 3 0).toNat ∧ (l.getD 3 0).toNat ≤ 191
  · rw [if_neg (by omega), decide_eq_true h.1, decide_eq_true h.2.1, decide_eq_true h.2.2.1, decide_eq_true (show 1 + 1 < l.length by omega), decide_eq_true h.2.2.2.2.1, decide_eq_true h.2.2.2.2.2.1, decide_eq_true (show 1 + 1 + 1 < l.length by omega), decide_eq_true h.2.2.2.2.2.2.2.1, decide_eq_true h.2.2.2.2.2.2.2.2]; rfl
  · rw [if_pos (by omega)]
    have : (decide (1 < l.length) && (decide (lo ≤ (l.getD 1 0).toNat) && (decide ((l.getD 1 0).toNat ≤ hi) && (decide (1 + 1 < l.length) && (decide (128 ≤ (l.getD (1 + 1) 0).toNat) && (decide ((l.getD (1 + 1) 0).toNat ≤ 191) && (decide (1 + 1 + 1 < l.length) && (decide (128 ≤ (l.getD (1 + 1 + 1) 0).toNat) && decide ((l.getD (1 + 1 + 1) 0).toNat ≤ 191))))))))) = false := by
      rw [← Bool.not_eq_true]; simpa using h
    rw [this]; rfl
theorem checkNo (l : List UInt8) (sz lo hi : Nat) (h : sz ≠ 2 ∧ sz ≠ 3 ∧ sz ≠ 4) : Lib.checkN l.length (l.getD 1 0).toNat (l.getD 2 0).toNat (l.getD 3 0).toNat sz lo hi = none := by
  simp only [Lib.checkN]
  rw [if_neg h.1, if_neg h.2.1, if_neg h.2.2]
theorem lead_of (l : List UInt8) (sz lo hi m : Nat) (hne : l ≠ []) (h0 : 128 ≤ (l.getD 0 0).toNat) (e1 : Lib.firstT (l.getD 0 0).toNat % 8 = sz) (e2 : Lib.accLo (Lib.firstT (l.getD 0 0).toNat / 16) = lo) (e3 : Lib.accHi (Lib.firstT (l.getD 0 0).toNat / 16) = hi)
    (hk : Lib.checkN l.length (l.getD 1 0).toNat (l.getD 2 0).toNat (l.getD 3 0).toNat sz lo hi = bif contOk l m 1 lo hi then some sz else none) : Lib.validD l = (contOk l m 1 lo hi && Lib.validD (l.drop sz)) := by
  rw [Lib.validD_lead l hne h0, e1, e2, e3, hk]
  cases contOk l m 1 lo hi <;> rfl
theorem lead_no (l : List UInt8) (hne : l ≠ []) (h0 : 128 ≤ (l.getD 0 0).toNat) (e1 : Lib.firstT (l.getD 0 0).toNat % 8 = 1) : Lib.validD l = false := by
  rw [Lib.validD_lead l hne h0, e1, checkNo _ _ _ _ (by decide)]
/-- What stands at the head, in classes. -/
theorem validD_class (l : List UInt8) (hne : l ≠ []) : Lib.validD l = (
    if (l.getD 0 0).toNat < 128 then Lib.validD (l.drop 1)
    else if (l.getD 0 0).toNat < 194 then false
    else if (l.getD 0 0).toNat < 224 then contOk l 1 1 128 191 && Lib.validD (l.drop 2)
    else if (l.getD 0 0).toNat < 240 then contOk l 2 1 (if (l.getD 0 0).toNat = 224 then 160 else 128) (if (l.getD 0 0).toNat = 237 then 159 else 191) && Lib.validD (l.drop 3)
    else if (l.getD 0 0).toNat < 245 then contOk l 3 1 (if (l.getD 0 0).toNat = 240 then 144 else 128) (if (l.getD 0 0).toNat = 244 then 143 else 191) && Lib.validD (l.drop 4)
    else false) := by
  by_cases h : (l.getD 0 0).toNat < 128
  · rw [if_pos h]
    cases l with
    | nil => exact absurd rfl hne
    | cons b t => exact Lib.validD_cons b t h
  rw [if_neg h]
  have hb := (l.getD 0 0).toNat_lt
  have lo := lead_of l
  have no := lead_no l hne (by omega)
  generalize hbb : (l.getD 0 0).toNat = b at h hb lo no
  by_cases h1 : b < 194
  · rw [if_pos h1]
    exact no (by rw [show Lib.firstT b = 241 from by simp [Lib.firstT, h, h1]])
  rw [if_neg h1]
  by_cases h2 : b < 224
  · rw [if_pos h2]
    have e : Lib.firstT b = 2 := by simp [Lib.firstT, h, h1, h2]
    exact lo 2 128 191 1 hne (by omega) (by rw [e]) (by rw [e]; rfl) (by rw [e]; rfl) (check2 _ _ _)
  rw [if_neg h2]
  by_cases h3 : b < 240
  · rw [if_pos h3]
    by_cases e1 : b = 224
    · subst e1
      exact lo 3 160 191 2 hne (by omega) rfl rfl rfl (check3 _ _ _)
    by_cases e2 : b = 237
    · subst e2
      exact lo 3 128 159 2 hne (by omega) rfl rfl rfl (check3 _ _ _)
    have e : Lib.firstT b = 3 := by
      simp only [Lib.firstT, if_neg h, if_neg h1, if_neg h2, if_neg e1, if_neg e2]
      repeat' split
      all_goals first | rfl | omega
    rw [if_neg e1, if_neg e2]
    exact lo 3 128 191 2 hne (by omega) (by rw [e]) (by rw [e]; rfl) (by rw [e]; rfl) (check3 _ _ _)
  rw [if_neg h3]
  by_cases h4 : b < 245
  · rw [if_pos h4]
    by_cases e1 : b = 240
    · subst e1
      exact lo 4 144 191 3 hne (by omega) rfl rfl rfl (check4 _ _ _)
    by_cases e2 : b = 244
    · subst e2
      exact lo 4 128 143 3 hne (by omega) rfl rfl rfl (check4 _ _ _)
    have e : Lib.firstT b = 4 := by
      simp only [Lib.firstT, if_neg h, if_neg h1, if_neg h2]
      repeat' split
      all_goals first | rfl | omega
    rw [if_neg e1, if_neg e2]
    exact lo 4 128 191 3 hne (by omega) (by rw [e]) (by rw [e]; rfl) (by rw [e]; rfl) (check4 _ _ _)
  · rw [if_neg h4]
    refine no ?_
    have e : Lib.firstT b = 241 := by
      simp only [Lib.firstT]
      repeat' split
      all_goals first | rfl | omega
    rw [e]
/-! The document's way -/
theorem istext_l2 (k : Nat) (a0 : List UInt8) (i : Nat) (hm : a0.length ≤ 9223372036854775000) (hi : i < a0.length) : ∀ (m fuel q lo hi2 : Nat) (n : Nat), n + 1 = q + m → m < fuel → q + m ≤ 8 →
    dictumref01_IsText.l2 k a0 (i : Int) (n : Int) fuel (lo : Int) (hi2 : Int) (q : Int) = some (bif contOk (a0.drop i) m q lo hi2 then .inr () else .inl false) := by
  intro m
  induction m with
  | zero =>
    intro fuel q lo hi2 n hn hf hq
    obtain ⟨fuel, rfl⟩ : ∃ f, fuel = f + 1 := ⟨fuel - 1, by omega⟩
    rw [dictumref01_IsText.l2.eq_2, decide_eq_false (by omega), cond_false]
    rfl
  | succ m ih =>
    intro fuel q lo hi2 n hn hf hq
    obtain ⟨fuel, rfl⟩ : ∃ f, fuel = f + 1 := ⟨fuel - 1, by omega⟩
    rw [dictumref01_IsText.l2.eq_2, decide_eq_true (by omega : (q : Int) ≤ (n : Int)), cond_true, w64 (by omega) (by omega), show (i : Int) + (q : Int) = ((i + q : Nat) : Int) from by omega]
    simp only [contOk, List.length_drop, getD_drop]
    by_cases h : i + q < a0.length
    · rw [decide_eq_false (by omega : ¬ ((i + q : Nat) : Int) ≥ (a0.length : Int)), cond_false, ix_getD h, decide_eq_true (by omega : q < a0.length - i)]
      simp only [bind_some', Bool.true_and]
      generalize hc : (a0.getD (i + q) 0).toNat = c
      by_cases h1 : lo ≤ c
      · rw [decide_eq_false (by omega : ¬ (c : Int) < (lo : Int)), cond_false, decide_eq_true h1]
        simp only [bind_some', Bool.true_and]
        by_cases h2 : c ≤ hi2
        · rw [decide_eq_false (by omega : ¬ (c : Int) > (hi2 : Int)), cond_false, decide_eq_true h2, Bool.true_and, w64 (by omega) (by omega), show (q : Int) + 1 = ((q + 1 : Nat) : Int) from by omega]
          by_cases hm0 : m = 0
          · subst hm0
            have := ih fuel (q + 1) 128 191 n (by omega) (by omega)
            obtain ⟨fuel, rfl⟩ : ∃ f, fuel = f + 1 := ⟨fuel - 1, by omega⟩
            rw [dictumref01_IsText.l2.eq_2, decide_eq_false (by omega), cond_false]
            rfl
          · exact ih fuel (q + 1) 128 191 n (by omega) (by omega) (by omega)
        · rw [decide_eq_true (by omega : (c : Int) > (hi2 : Int)), cond_true, decide_eq_false h2]; rfl
      · rw [decide_eq_true (by omega : (c : Int) < (lo : Int)), cond_true, decide_eq_false h1]; rfl
    · rw [decide_eq_true (by omega : ((i + q : Nat) : Int) ≥ (a0.length : Int)), cond_true, decide_eq_false (by omega : ¬ q < a0.length - i)]; rfl
theorem istext_l1 (k : Nat) (hk : 10 ≤ k) (a0 : List UInt8) (hm : a0.length ≤ 9223372036854775000) : ∀ (d i n : Nat), a0.length - i ≤ d → i ≤ a0.length + 4 → d < n →
    dictumref01_IsText.l1 k a0 n (i : Int) = some (bif Lib.validD (a0.drop i) then .inr () else .inl false) := by
  intro d
  induction d with
  | zero =>
    intro i n hd hi hn
    obtain ⟨n, rfl⟩ : ∃ f, n = f + 1 := ⟨n - 1, by omega⟩
    rw [dictumref01_IsText.l1.eq_2, decide_eq_false (by omega), cond_false, List.drop_eq_nil_of_le (by omega)]
    rfl
  | succ d ih =>
    intro i n hd hi hn
    obtain ⟨n, rfl⟩ : ∃ f, n = f + 1 := ⟨n - 1, by omega⟩
    rw [dictumref01_IsText.l1.eq_2]
    by_cases h : i < a0.length
    · have hne : a0.drop i ≠ [] := by
        intro he
        have := congrArg List.length he
        simp at this; omega
      have hc := validD_class (a0.drop i) hne
      rw [getD_drop, Nat.add_zero] at hc
      rw [decide_eq_true (by omega : (i : Int) < (a0.length : Int)), cond_true, ix_getD h]
      simp only [bind_some']
      have next : ∀ m lo hi2 : Nat, m ≤ 3 → Lib.validD (a0.drop i) = (contOk (a0.drop i) m 1 lo hi2 && Lib.validD ((a0.drop i).drop (1 + m))) →
          ((dictumref01_IsText.l2 k a0 (i : Int) (m : Int) k (lo : Int) (hi2 : Int) 1).bind fun z => match z with
            | .inl r_ => some (.inl r_)
            | .inr _ => dictumref01_IsText.l1 k a0 n (wrap64 ((wrap64 ((i : Int) + 1)) + (m : Int)))) = some (bif Lib.validD (a0.drop i) then .inr () else .inl false) := by
        intro m lo hi2 hm3 hv
        have h2 := istext_l2 k a0 i hm h m k 1 lo hi2 m (by omega) (by omega) (by omega)
        rw [show ((1 : Nat) : Int) = 1 from rfl] at h2
        rw [h2, hv]
        cases contOk (a0.drop i) m 1 lo hi2 with
        | false => rfl
        | true =>
          simp only [cond_true, bind_some', Bool.true_and]
          rw [w64 (n := (i : Int) + 1) (by omega) (by omega), w64 (by omega) (by omega), show (i : Int) + 1 + (m : Int) = ((i + (1 + m) : Nat) : Int) from by omega, drop_drop']
          exact ih _ _ (by omega) (by omega) (by omega)
      generalize hbb : (a0.getD i 0).toNat = b at hc
      have hb : b < 256 := by rw [← hbb]; exact (a0.getD i 0).toNat_lt
      by_cases c1 : b < 128
      · rw [decide_eq_true (by omega : (b : Int) < 128)]
        rw [if_pos c1] at hc
        exact next 0 128 191 (by omega) hc
      rw [decide_eq_false (by omega : ¬ (b : Int) < 128)]
      rw [if_neg c1] at hc
      simp only [cond_false]
      by_cases c2 : b < 194
      · rw [if_pos c2] at hc
        rw [decide_eq_false (by omega : ¬ (b : Int) ≥ 194), decide_eq_false (by omega : ¬ (b : Int) ≥ 224), decide_eq_false (by omega : ¬ (b : Int) ≥ 240), hc]
        rfl
      rw [if_neg c2] at hc
      rw [decide_eq_true (by omega : (b : Int) ≥ 194)]
      simp only [cond_true, bind_some']
      by_cases c3 : b < 224
      · rw [if_pos c3] at hc
        rw [decide_eq_true (by omega : (b : Int) ≤ 223)]
        exact next 1 128 191 (by omega) hc
      rw [if_neg c3] at hc
      rw [decide_eq_false (by omega : ¬ (b : Int) ≤ 223), decide_eq_true (by omega : (b : Int) ≥ 224)]
      simp only [cond_true, cond_false, bind_some']
      by_cases c4 : b < 240
      · rw [if_pos c4] at hc
        rw [decide_eq_true (by omega : (b : Int) ≤ 239)]
        simp only [cond_true, bind_some']
        by_cases e1 : b = 224
        · subst e1
          exact next 2 160 191 (by omega) hc
        by_cases e2 : b = 237
        · subst e2
          exact next 2 128 159 (by omega) hc
        rw [if_neg e1, if_neg e2] at hc
        rw [show ((b : Int) == 224) = false from by simp; omega, show ((b : Int) == 237) = false from by simp; omega]
        exact next 2 128 191 (by omega) hc
      rw [if_neg c4] at hc
      rw [decide_eq_false (by omega : ¬ (b : Int) ≤ 239), decide_eq_true (by omega : (b : Int) ≥ 240)]
      simp only [cond_true, cond_false, bind_some']
      by_cases c5 : b < 245
      · rw [if_pos c5] at hc
        rw [decide_eq_true (by omega : (b : Int) ≤ 244)]
        simp only [cond_true, bind_some']
        by_cases e1 : b = 240
        · subst e1
          exact next 3 144 191 (by omega) hc
        by_cases e2 : b = 244
        · subst e2
          exact next 3 128 143 (by omega) hc
        rw [if_neg e1, if_neg e2] at hc
        rw [show ((b : Int) == 240) = false from by simp; omega, show ((b : Int) == 244) = false from by simp; omega]
        exact next 3 128 191 (by omega) hc
      rw [if_neg c5] at hc
      rw [decide_eq_false (by omega : ¬ (b : Int) ≤ 244), hc]
      rfl
    · rw [decide_eq_false (by omega), cond_false, List.drop_eq_nil_of_le (by omega)]
      rfl
theorem istext_f (a0 : List UInt8) (hm : a0.length ≤ 9223372036854775000) (k : Nat) (hk : a0.length + 10 ≤ k) : dictumref01_IsText.f k a0 = some (Lib.validD a0) := by
  unfold dictumref01_IsText.f
  have h := istext_l1 k (by omega) a0 hm a0.length 0 k (by omega) (by omega) (by omega)
  rw [show ((0 : Nat) : Int) = 0 from rfl, List.drop_zero] at h
  rw [h]
  cases Lib.validD a0 <;> rfl
end Go.Proofs.YtaidlahjngmenaaDoor.X
