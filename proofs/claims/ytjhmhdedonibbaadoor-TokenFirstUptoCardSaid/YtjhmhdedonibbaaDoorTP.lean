/- Layer 2, plain: a word ahead of a gap, a word in a cut text, what is written is a word. -/
import Derived.Test.YtjhmhdedonibbaaDoorTKr
set_option linter.unusedVariables false
set_option linter.unusedSimpArgs false
namespace Go.Proofs.YtjhmhdedonibbaaDoor.X
open Go Go.RowKit Go.Proofs.YtjhmhdedonibbaaDoor.SX
open Go.Lib (itoa decDigits)
def gapB (c : UInt8) : Bool := blankB c || c == 35
/-- Nothing stands there, or a blank or a comment. -/
def gapped (r : List UInt8) : Prop := r = [] ∨ ∃ g u, r = g :: u ∧ gapB g = true
theorem gap_tail {c : UInt8} (h : gapB c = true) : tailB c = false := by
  cases ht : tailB c with
  | false => rfl
  | true =>
    have := (cls_c c).2.2.2.1 ht
    unfold gapB at h
    rw [this.2.1, this.2.2] at h
    cases h
theorem gap_dig {c : UInt8} (h : gapB c = true) : digB c = false := by
  cases hd : digB c with
  | false => rfl
  | true =>
    have := (cls_c c).2.2.2.2.2 hd
    rw [gap_tail h] at this
    cases this
theorem gap_let {c : UInt8} (h : gapB c = true) : letB c = false := by
  cases hd : letB c with
  | false => rfl
  | true =>
    have := ((cls_c c).2.2.2.2.1 hd).1
    rw [gap_tail h] at this
    cases this
theorem runN_gap {p : UInt8 → Bool} (hp : ∀ c, gapB c = true → p c = false) {r : List UInt8} (hr : gapped r) : ∀ x : List UInt8, runN p (x ++ r) = runN p x
  | [] => by
    rcases hr with rfl | ⟨g, u, rfl, hg⟩
    · rfl
    · show runN p (g :: u) = 0
      rw [runN_cons_f (hp g hg)]
  | c :: t => by
    show runN p (c :: (t ++ r)) = _
    cases hc : p c with
    | true => rw [runN_cons_t hc, runN_cons_t hc, runN_gap hp hr t]
    | false => rw [runN_cons_f hc, runN_cons_f hc]
theorem getD_app {x r : List UInt8} {j : Nat} (h : j < x.length) : (x ++ r).getD j 0 = x.getD j 0 := by
  simp only [List.getD, List.getElem?_append_left h]
theorem pfx_gap {r : List UInt8} (hr : gapped r) : ∀ (y x : List UInt8), (∀ c ∈ y, gapB c = false) → y.isPrefixOf (x ++ r) = y.isPrefixOf x
  | [], x, _ => by simp [List.isPrefixOf]
  | a :: u, [], h => by
    rcases hr with rfl | ⟨g, v, rfl, hg⟩
    · rfl
    · have ha := h a (List.mem_cons_self ..)
      show (a == g && u.isPrefixOf v) = false
      rw [Bool.and_eq_false_iff]
      left
      rw [← Bool.not_eq_true, beq_iff_eq]
      rintro rfl
      rw [ha] at hg
      cases hg
  | a :: u, b :: v, h => by
    show (a == b && u.isPrefixOf (v ++ r)) = (a == b && u.isPrefixOf v)
    rw [pfx_gap hr u v (fun c hc => h c (List.mem_cons_of_mem _ hc))]
theorem find_same {α : Type} {p q : α → Bool} : ∀ (l : List α), (∀ a ∈ l, p a = q a) → l.find? p = l.find? q
  | [], _ => rfl
  | a :: t, h => by
    rw [List.find?_cons, List.find?_cons, h a (List.mem_cons_self ..), find_same t (fun b hb => h b (List.mem_cons_of_mem _ hb))]
theorem find_mono {α : Type} {p q : α → Bool} (hqp : ∀ a, q a = true → p a = true) : ∀ (l : List α) (a : α), l.find? p = some a → q a = true → l.find? q = some a
  | [], a, h, _ => by cases h
  | b :: t, a, h, ha => by
    rw [List.find?_cons] at h ⊢
    cases hb : p b with
    | true =>
      rw [hb] at h
      obtain rfl := Option.some.inj h
      rw [ha]
    | false =>
      rw [hb] at h
      have hqb : q b = false := by
        cases hq : q b with
        | false => rfl
        | true => have := hqp b hq; rw [hb] at this; cases this
      rw [hqb]
      exact find_mono hqp t a h ha
theorem sign_gap : ∀ x ∈ SIGNS, ∀ c ∈ x, gapB c = false := by decide +kernel
theorem spec_gap : ∀ e ∈ SPECS, e.1 ≠ [] ∧ ∀ c ∈ e.1, gapB c = false := by decide +kernel
/-- A gap behind a word turns nothing. -/
theorem wordP_app {x r : List UInt8} (hne : x ≠ []) (hr : gapped r) : wordP (x ++ r) = wordP x := by
  have h0 : 0 < x.length := List.length_pos_iff.2 hne
  have hrd := runN_gap (p := digB) (fun c h => gap_dig h) hr x
  have hnum : numV 0 (x ++ r) = numV 0 x := by
    rw [← numV_take (x ++ r), ← numV_take x, hrd, List.take_append_of_le_length (runN_le _ _)]
  have hbad : numBad (x ++ r) = numBad x := by
    unfold numBad
    rw [hrd, getD_app h0, hnum]
    have hl := runN_le digB x
    have ht : (decide (runN digB x < (x ++ r).length) && tailB ((x ++ r).getD (runN digB x) 0)) = (decide (runN digB x < x.length) && tailB (x.getD (runN digB x) 0)) := by
      by_cases h : runN digB x < x.length
      · rw [getD_app h, decide_eq_true h, decide_eq_true (by rw [List.length_append]; omega)]
      · have he : runN digB x = x.length := by omega
        rw [decide_eq_false h, Bool.false_and, he]
        rcases hr with rfl | ⟨g, u, rfl, hg⟩
        · rw [decide_eq_false (by simp)]; rfl
        · have : (x ++ g :: u).getD x.length 0 = g := by simp [List.getD]
          rw [this, gap_tail hg, Bool.and_false]
    rw [ht]
  have hsp : specOf (x ++ r) = specOf x := find_same _ (fun e he => pfx_gap hr _ _ (spec_gap e he).2)
  have hsg : signOf (x ++ r) = signOf x := find_same _ (fun e he => pfx_gap hr _ _ (sign_gap e he))
  unfold wordP
  rw [getD_app h0, runN_gap (p := tailB) (fun c h => gap_tail h) hr x, hbad, hnum, hrd, hsp, hsg, List.take_append_of_le_length (runN_le _ _)]
theorem word_gap {x : List UInt8} (hne : x ≠ []) (h : gapB (x.getD 0 0) = true) : wordP x = .inr 20 := by
  obtain ⟨c, u, rfl⟩ : ∃ c u, x = c :: u := by
    cases x with
    | nil => exact absurd rfl hne
    | cons c u => exact ⟨c, u, rfl⟩
  have hc : gapB c = true := h
  have hno : ∀ y : List UInt8, y ≠ [] → (∀ b ∈ y, gapB b = false) → y.isPrefixOf (c :: u) = false := by
    intro y hy hb
    cases y with
    | nil => exact absurd rfl hy
    | cons a v =>
      have ha := hb a (List.mem_cons_self ..)
      show (a == c && v.isPrefixOf u) = false
      rw [Bool.and_eq_false_iff]
      left
      rw [← Bool.not_eq_true, beq_iff_eq]
      rintro rfl
      rw [ha] at hc
      cases hc
  have h1 : specOf (c :: u) = none := List.find?_eq_none.2 (fun e he => by rw [hno e.1 (spec_gap e he).1 (spec_gap e he).2]; decide)
  have h2 : signOf (c :: u) = none := List.find?_eq_none.2 (fun e he => by rw [hno e (sign_chars e he).1 (sign_gap e he)]; decide)
  unfold wordP
  rw [show (c :: u).getD 0 0 = c from rfl, gap_let hc, gap_dig hc, h1, h2]
  rfl
theorem word_nogap {x : List UInt8} {t : T_api_Token} {n : Nat} (hne : x ≠ []) (h : wordP x = .inl (t, n)) : gapB (x.getD 0 0) = false := by
  cases hg : gapB (x.getD 0 0) with
  | false => rfl
  | true => rw [word_gap hne hg] at h; cases h
/-! Cut texts -/
theorem runN_take {p : UInt8 → Bool} : ∀ (l : List UInt8) (m : Nat), runN p l ≤ m → runN p (l.take m) = runN p l
  | [], m, _ => by rw [List.take_nil]
  | c :: t, m, h => by
    cases hc : p c with
    | false =>
      rw [runN_cons_f hc]
      cases m with
      | zero => rfl
      | succ m => rw [List.take_succ_cons, runN_cons_f hc]
    | true =>
      rw [runN_cons_t hc] at h ⊢
      obtain ⟨m, rfl⟩ : ∃ q, m = q + 1 := ⟨m - 1, by omega⟩
      rw [List.take_succ_cons, runN_cons_t hc, runN_take t m (by omega)]
theorem getD_take {l : List UInt8} {m j : Nat} (h : j < m) : (l.take m).getD j 0 = l.getD j 0 := by
  simp only [List.getD, List.getElem?_take_of_lt h]
theorem pfx_cut {y l : List UInt8} {m : Nat} (h : y.isPrefixOf (l.take m) = true) : y.isPrefixOf l = true := by
  rw [List.isPrefixOf_iff_prefix] at h ⊢
  exact h.trans (List.take_prefix m l)
theorem pfx_keep {y l : List UInt8} {m : Nat} (h : y.isPrefixOf l = true) (hm : y.length ≤ m) : y.isPrefixOf (l.take m) = true := by
  rw [pfx_take, Bool.and_eq_true, decide_eq_true_eq, beq_iff_eq] at h ⊢
  rw [List.length_take, List.take_take, Nat.min_eq_left hm]
  exact ⟨by omega, h.2⟩
/-- A word in a text that is cut behind it. -/
theorem wordP_cut {l : List UInt8} {t : T_api_Token} {n m : Nat} (hne : l ≠ []) (hw : wordP l = .inl (t, n)) (h1 : 1 ≤ n) (hm : n ≤ m) : wordP (l.take m) = .inl (t, n) := by
  have h0 : (l.take m).getD 0 0 = l.getD 0 0 := getD_take (by omega)
  unfold wordP at hw ⊢
  rw [h0]
  cases hL : letB (l.getD 0 0) with
  | true =>
    rw [hL, cond_true] at hw
    rw [cond_true]
    split at hw
    · cases hw
    · rename_i h31
      injection hw with hw
      injection hw with hw1 hw2
      rw [runN_take l m (by omega), if_neg h31, List.take_take, Nat.min_eq_left (by omega), ← hw1, ← hw2]
  | false =>
    rw [hL, cond_false] at hw
    rw [cond_false]
    cases hD : digB (l.getD 0 0) with
    | true =>
      rw [hD, cond_true] at hw
      rw [cond_true]
      cases hb : numBad l with
      | true => rw [hb, cond_true] at hw; cases hw
      | false =>
        rw [hb, cond_false] at hw
        injection hw with hw
        injection hw with hw1 hw2
        have hr : runN digB (l.take m) = runN digB l := runN_take l m (by omega)
        have hv : numV 0 (l.take m) = numV 0 l := by rw [← numV_take (l.take m), hr, List.take_take, Nat.min_eq_left (by omega), numV_take]
        have hb2 : numBad (l.take m) = false := by
          unfold numBad at hb ⊢
          rw [Bool.or_eq_false_iff, Bool.or_eq_false_iff] at hb ⊢
          rw [hr, h0, hv]
          refine ⟨hb.1, hb.2.1, ?_⟩
          by_cases h : runN digB l < (l.take m).length
          · have hlm : runN digB l < m := by rw [List.length_take] at h; omega
            have hll : runN digB l < l.length := by rw [List.length_take] at h; omega
            have hb3 := hb.2.2
            rw [decide_eq_true hll, Bool.true_and] at hb3
            rw [getD_take hlm, hb3, Bool.and_false]
          · rw [decide_eq_false h, Bool.false_and]
        rw [hb2, cond_false, hv, hr, ← hw1, ← hw2]
    | false =>
      rw [hD, cond_false] at hw
      rw [cond_false]
      cases hs : specOf l with
      | some e =>
        rw [hs] at hw
        injection hw with hw
        injection hw with hw1 hw2
        have h2 : specOf (l.take m) = some e := find_mono (fun a ha => pfx_cut ha) _ e hs (pfx_keep (spec_mem hs).2 (by omega))
        rw [h2, ← hw1, ← hw2]
      | none =>
        rw [hs] at hw
        have h2 : specOf (l.take m) = none := by
          rw [show specOf l = List.find? _ _ from rfl, List.find?_eq_none] at hs
          exact List.find?_eq_none.2 (fun e he hc => hs e he (pfx_cut hc))
        rw [h2]
        cases hg : signOf l with
        | some x =>
          rw [hg] at hw
          injection hw with hw
          injection hw with hw1 hw2
          have h3 : signOf (l.take m) = some x := find_mono (fun a ha => pfx_cut ha) _ x hg (pfx_keep (signOf_mem hg).2 (by omega))
          simp only
          rw [h3, ← hw1, ← hw2]
        | none => rw [hg] at hw; cases hw
/-! What is written -/
theorem word_write {l : List UInt8} {t : T_api_Token} {n : Nat} (hne : l ≠ []) (hw : wordP l = .inl (t, n)) : (writeP t).2 = 0 ∧ t.f_Kind ≠ 0 := by
  unfold wordP at hw
  cases hL : letB (l.getD 0 0) with
  | true =>
    rw [hL, cond_true] at hw
    split at hw
    · cases hw
    · rename_i h31
      injection hw with hw
      injection hw with hw1 hw2
      have hp := run_pos hne ((cls_c _).2.2.2.2.1 hL).1
      have hrl := runN_le tailB l
      have hnm : nameB (l.take (runN tailB l)) = true := nameB_iff.2 ⟨by rw [List.length_take]; omega, by rw [List.length_take]; omega, by rw [getD_take (by omega)]; exact hL, by rw [runN_take l _ (Nat.le_refl _), List.length_take]; omega⟩
      rw [← hw1]
      unfold writeP
      rw [if_neg (fun h => absurd (show (1 : Int) = 0 from h.1) (by decide)), if_pos ⟨rfl, rfl, hnm⟩]
      exact ⟨rfl, by show (1 : Int) ≠ 0; decide⟩
  | false =>
    rw [hL, cond_false] at hw
    cases hD : digB (l.getD 0 0) with
    | true =>
      rw [hD, cond_true] at hw
      cases hb : numBad l with
      | true => rw [hb, cond_true] at hw; cases hw
      | false =>
        rw [hb, cond_false] at hw
        injection hw with hw
        injection hw with hw1 hw2
        have hv : numV 0 l ≤ 999999999 := by
          apply Classical.byContradiction
          intro hc
          unfold numBad at hb
          rw [decide_eq_true (by omega : 999999999 < numV 0 l)] at hb
          simp at hb
        rw [← hw1]
        unfold writeP
        rw [if_neg (fun h => absurd (show (2 : Int) = 0 from h.1) (by decide)), if_neg (fun h => absurd (show (2 : Int) = 1 from h.1) (by decide)), if_pos ⟨rfl, rfl, by show (0 : Int) ≤ (numV 0 l : Int); omega, by show (numV 0 l : Int) ≤ 999999999; omega⟩]
        exact ⟨rfl, by show (2 : Int) ≠ 0; decide⟩
    | false =>
      rw [hD, cond_false] at hw
      cases hs : specOf l with
      | some e =>
        rw [hs] at hw
        injection hw with hw
        injection hw with hw1 hw2
        have hall : ∀ e ∈ SPECS, (writeP (tk e.2.1 e.2.2 0)).2 = 0 ∧ (tk e.2.1 e.2.2 0).f_Kind ≠ 0 := by decide +kernel
        rw [← hw1]
        exact hall e (spec_mem hs).1
      | none =>
        rw [hs] at hw
        cases hg : signOf l with
        | some x =>
          rw [hg] at hw
          injection hw with hw
          injection hw with hw1 hw2
          have hall : ∀ x ∈ SIGNS, (writeP (tk 3 x 0)).2 = 0 ∧ (tk 3 x 0).f_Kind ≠ 0 := by decide +kernel
          rw [← hw1]
          exact hall x (signOf_mem hg).1
        | none => rw [hg] at hw; cases hw
def bare (t : T_api_Token) : T_api_Token := tk t.f_Kind t.f_Text t.f_Int
/-- What is written of a token is a word: it is that token. -/
theorem write_word {t : T_api_Token} (h : (writeP t).2 = 0) (hk : t.f_Kind ≠ 0) : (writeP t).1 ≠ [] ∧ wordP (writeP t).1 = .inl (bare t, (writeP t).1.length) := by
  unfold writeP at h ⊢
  rw [if_neg (fun h => hk h.1)] at h ⊢
  by_cases h1 : t.f_Kind = 1 ∧ t.f_Int = 0 ∧ nameB t.f_Text = true
  · rw [if_pos h1]
    refine ⟨fun e => ?_, ?_⟩
    · have := (nameB_iff.1 h1.2.2).1
      have e2 : t.f_Text = [] := e
      rw [e2] at this
      exact absurd this (by decide)
    · show wordP t.f_Text = _
      rw [wordP_name h1.2.2]
      unfold bare
      rw [h1.1, h1.2.1]
  rw [if_neg h1] at h ⊢
  by_cases h2 : t.f_Kind = 2 ∧ t.f_Text = [] ∧ 0 ≤ t.f_Int ∧ t.f_Int ≤ 999999999
  · rw [if_pos h2]
    obtain ⟨m, hm⟩ : ∃ m : Nat, t.f_Int = (m : Int) := ⟨t.f_Int.toNat, by omega⟩
    have hit : itoa t.f_Int = decDigits m := by
      unfold itoa
      rw [if_neg (by omega), hm]
      rfl
    show itoa t.f_Int ≠ [] ∧ wordP (itoa t.f_Int) = .inl (bare t, (itoa t.f_Int).length)
    rw [hit]
    refine ⟨fun e => ?_, ?_⟩
    · obtain ⟨c, u, e2, _⟩ := dd_head m
      rw [e] at e2
      cases e2
    · rw [wordP_dec m, if_pos (by omega)]
      unfold bare
      rw [h2.1, h2.2.1, hm]
  rw [if_neg h2] at h ⊢
  by_cases h3 : t.f_Kind = 3 ∧ t.f_Int = 0 ∧ signB t.f_Text = true
  · rw [if_pos h3]
    have hm := signB_iff.1 h3.2.2
    refine ⟨(sign_chars _ hm).1, ?_⟩
    show wordP t.f_Text = _
    rw [wordP_sign _ hm]
    unfold bare
    rw [h3.1, h3.2.1]
  rw [if_neg h3] at h
  exact absurd h (by decide)
theorem write_end {t : T_api_Token} (h : (writeP t).2 = 0) (hk : t.f_Kind = 0) : (writeP t).1 = [] ∧ bare t = tk 0 [] 0 := by
  unfold writeP at h ⊢
  by_cases h0 : t.f_Kind = 0 ∧ t.f_Text = [] ∧ t.f_Int = 0
  · rw [if_pos h0]
    unfold bare
    rw [h0.1, h0.2.1, h0.2.2]
    exact ⟨rfl, rfl⟩
  · rw [if_neg h0, if_neg (fun h => by rw [hk] at h; exact absurd h.1 (by decide)), if_neg (fun h => by rw [hk] at h; exact absurd h.1 (by decide)), if_neg (fun h => by rw [hk] at h; exact absurd h.1 (by decide))] at h
    exact absurd h (by decide)
end Go.Proofs.YtjhmhdedonibbaaDoor.X
