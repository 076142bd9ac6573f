/- Layer 1, plain: the library's other way of telling whether bytes are UTF-8, with its fast ways. -/
import Derived.Test.YtaidlahjngmenaaDoorLU
set_option linter.unusedVariables false
set_option linter.unusedSimpArgs false
namespace Go.Proofs.YtaidlahjngmenaaDoor.X
open Go Go.RowKit Go.Proofs.YtaidlahjngmenaaDoor.SX
theorem mask_or (x y m : UInt64) : ((x ||| y) &&& m == 0) = ((x &&& m == 0) && (y &&& m == 0)) := by
  rw [Bool.eq_iff_iff]
  simp only [Bool.and_eq_true, beq_iff_eq]
  rw [← UInt64.toNat_inj, ← UInt64.toNat_inj (a := x &&& m), ← UInt64.toNat_inj (a := y &&& m)]
  simp only [UInt64.toNat_and, UInt64.toNat_or, UInt64.toNat_zero]
  rw [Nat.and_or_distrib_right, Nat.or_eq_zero_iff]
set_option maxRecDepth 100000 in
theorem mask_byte : ∀ (i : Fin 8) (b : Fin 256), (shl64 (UInt64.ofNat b.val) (8 * i.val) &&& 9259542123273814144 == 0) = decide (b.val < 128) := by decide +kernel
theorem ofI64_byte (b : UInt8) : ofI64 (b.toNat : Int) = UInt64.ofNat b.toNat := by
  unfold ofI64
  have := b.toNat_lt
  congr 1
  omega
theorem mask_at (i : Nat) (hi : i < 8) (b : UInt8) : (shl64 (ofI64 (b.toNat : Int)) (8 * i) &&& 9259542123273814144 == 0) = decide (b.toNat < 128) := by
  rw [ofI64_byte]
  exact mask_byte ⟨i, hi⟩ ⟨b.toNat, b.toNat_lt⟩
theorem shl64_zero (x : UInt64) : shl64 x 0 = x := by simp [shl64]
theorem word_f (l : List UInt8) (h : 8 ≤ l.length) : ∃ w, utf8_word_byte.f l = some w ∧ ((w &&& 9259542123273814144 == 0) = true → ∀ b ∈ l.take 8, b.toNat < 128) := by
  obtain ⟨b0, b1, b2, b3, b4, b5, b6, b7, t, rfl⟩ : ∃ b0 b1 b2 b3 b4 b5 b6 b7 t, l = b0 :: b1 :: b2 :: b3 :: b4 :: b5 :: b6 :: b7 :: t := by
    match l, h with
    | b0 :: b1 :: b2 :: b3 :: b4 :: b5 :: b6 :: b7 :: t, _ => exact ⟨b0, b1, b2, b3, b4, b5, b6, b7, t, rfl⟩
  refine ⟨_, rfl, ?_⟩
  simp only [mask_or, Bool.and_eq_true]
  have m0 := mask_at 0 (by decide) b0
  rw [show 8 * 0 = 0 from rfl, shl64_zero] at m0
  rw [m0, mask_at 1 (by decide) b1, mask_at 2 (by decide) b2, mask_at 3 (by decide) b3, mask_at 4 (by decide) b4, mask_at 5 (by decide) b5, mask_at 6 (by decide) b6, mask_at 7 (by decide) b7]
  simp only [decide_eq_true_eq, List.take_succ_cons, List.take_zero, List.mem_cons, List.not_mem_nil, or_false]
  rintro ⟨⟨⟨⟨⟨⟨⟨h0, h1⟩, h2⟩, h3⟩, h4⟩, h5⟩, h6⟩, h7⟩ b hb
  rcases hb with rfl | rfl | rfl | rfl | rfl | rfl | rfl | rfl <;> assumption
theorem cut_nat_from (xs : List UInt8) (a : Nat) (h : a ≤ xs.length) : cut xs (a : Int) (xs.length : Int) = some (xs.drop a) := cut_from xs h
theorem cut_k (xs : List UInt8) (a : Nat) (h : a ≤ xs.length) (i : Int) (hi : i = (a : Int)) : cut xs i (xs.length : Int) = some (xs.drop a) := by subst hi; exact cut_from xs h
theorem take_drop_mem {l : List UInt8} {i k : Nat} {p : UInt8 → Prop} (h : ∀ b ∈ (l.drop i).take k, p b) (g : ∀ b ∈ l.take i, p b) : ∀ b ∈ l.take (i + k), p b := by
  intro b hb
  rw [List.take_add] at hb
  rcases List.mem_append.1 hb with hb | hb
  · exact g b hb
  · exact h b hb
theorem valid_l2 (k : Nat) : ∀ (n : Nat) (x : List UInt8), x.length < n → ∃ y, utf8_Valid.l2 k n x = some y ∧ Lib.validD x = Lib.validD y ∧ y.length ≤ x.length := by
  intro n
  induction n with
  | zero => intro x h; omega
  | succ n ih =>
    intro x hx
    rw [utf8_Valid.l2.eq_2]
    by_cases h : 32 < x.length
    · rw [decide_eq_true (by omega : (x.length : Int) > 32)]
      simp only [cond_true]
      rw [cut_k x 8 (by omega) 8 rfl, cut_k x 16 (by omega) 16 rfl, cut_k x 24 (by omega) 24 rfl, cut_k x 32 (by omega) 32 rfl]
      obtain ⟨w0, e0, m0⟩ := word_f x (by omega)
      obtain ⟨w1, e1, m1⟩ := word_f (x.drop 8) (by simp; omega)
      obtain ⟨w2, e2, m2⟩ := word_f (x.drop 16) (by simp; omega)
      obtain ⟨w3, e3, m3⟩ := word_f (x.drop 24) (by simp; omega)
      simp only [bind_some', e0, e1, e2, e3]
      cases hz : ((((w0 ||| w1) ||| (w2 ||| w3)) &&& (9259542123273814144 : UInt64)) == (0 : UInt64)) with
      | false => exact ⟨x, rfl, rfl, Nat.le_refl _⟩
      | true =>
        simp only [cond_true]
        rw [mask_or, mask_or, mask_or] at hz
        simp only [Bool.and_eq_true] at hz
        have g0 := m0 hz.1.1
        have g1 := take_drop_mem (m1 hz.1.2) g0
        have g2 := take_drop_mem (m2 hz.2.1) g1
        have g3 := take_drop_mem (m3 hz.2.2) g2
        obtain ⟨y, hy, hv, hl⟩ := ih (x.drop 32) (by simp; omega)
        exact ⟨y, hy, (Lib.validD_ascii 32 x g3).trans hv, by simp at hl; omega⟩
    · rw [decide_eq_false (by omega)]
      exact ⟨x, rfl, rfl, Nat.le_refl _⟩
theorem lo8 (b : UInt8) (c : UInt8) : decide (c < accLo8 b) = decide (c.toNat < Lib.accLo b.toNat) := by
  have h : Lib.accLo b.toNat < 256 := by unfold Lib.accLo; (repeat' split) <;> omega
  rw [decide_eq_decide, UInt8.lt_iff_toNat_lt]
  unfold accLo8
  rw [UInt8.toNat_ofNat', Nat.mod_eq_of_lt h]
theorem hi8 (b : UInt8) (c : UInt8) : decide (accHi8 b < c) = decide (Lib.accHi b.toNat < c.toNat) := by
  have h : Lib.accHi b.toNat < 256 := by unfold Lib.accHi; (repeat' split) <;> omega
  rw [decide_eq_decide, UInt8.lt_iff_toNat_lt]
  unfold accHi8
  rw [UInt8.toNat_ofNat', Nat.mod_eq_of_lt h]
theorem ix_lit {l : List UInt8} (n : Nat) {i : Int} (hi : i = (n : Int)) (h : n < l.length) : ix l i = some (l.getD n 0) := by subst hi; exact ix_getD h
theorem dlt (a b : UInt8) : decide (a < b) = decide (a.toNat < b.toNat) := by rw [decide_eq_decide, UInt8.lt_iff_toNat_lt]
theorem bad2 (l : List UInt8) (L H : Nat) : (bif (decide ((l.length : Int) < 2)) then some true else (ix l (1 : Int)).bind fun x => (bif (decide (x.toNat < L)) then some true else (ix l (1 : Int)).bind fun y => some (decide (H < y.toNat)))) = some (!contOk l 1 1 L H) := by
  simp only [contOk, Bool.and_true]
  by_cases h : 1 < l.length
  · rw [decide_eq_false (by omega : ¬ (l.length : Int) < 2), ix_lit (i := 1) 1 rfl h, decide_eq_true h]
    simp only [cond_false, bind_some', Bool.true_and]
    by_cases h1 : (l.getD 1 0).toNat < L
    · rw [decide_eq_true h1, decide_eq_false (by omega : ¬ L ≤ (l.getD 1 0).toNat)]; rfl
    · rw [decide_eq_false h1, decide_eq_true (by omega : L ≤ (l.getD 1 0).toNat)]
      simp only [cond_false, Bool.true_and]
      by_cases h2 : H < (l.getD 1 0).toNat
      · rw [decide_eq_true h2, decide_eq_false (by omega)]; rfl
      · rw [decide_eq_false h2, decide_eq_true (by omega)]; rfl
  · rw [decide_eq_true (by omega : (l.length : Int) < 2), decide_eq_false h]; rfl
theorem step_ok (l : List UInt8) (m q L H : Nat) (hq : q < l.length) : contOk l (m + 1) q L H = (!(decide ((l.getD q 0).toNat < L)) && (!(decide (H < (l.getD q 0).toNat)) && contOk l m (q + 1) 128 191)) := by
  rw [contOk, decide_eq_true hq, Bool.true_and]
  congr 1
  · rw [← decide_not, decide_eq_decide]; omega
  · congr 1
    rw [← decide_not, decide_eq_decide]; omega
theorem short_ok (l : List UInt8) : ∀ (m q L H : Nat), 0 < m → l.length < q + m → contOk l m q L H = false
  | m + 1, q, L, H, _, h => by
    rw [contOk]
    by_cases hq : q < l.length
    · have := short_ok l m (q + 1) 128 191 (by omega) (by omega)
      rw [this]; simp
    · rw [decide_eq_false hq, Bool.false_and]
theorem bad3 (l : List UInt8) (L H : Nat) : (bif (decide ((l.length : Int) < 3)) then some true else (ix l (1 : Int)).bind fun x => (bif (decide (x.toNat < L)) then some true else (ix l (1 : Int)).bind fun y => (bif (decide (H < y.toNat)) then some true else
    (ix l (2 : Int)).bind fun x2 => (bif (decide (x2.toNat < 128)) then some true else (ix l (2 : Int)).bind fun y2 => some (decide (191 < y2.toNat)))))) = some (!contOk l 2 1 L H) := by
  by_cases h : 2 < l.length
  · rw [decide_eq_false (by omega : ¬ (l.length : Int) < 3), ix_lit (i := 1) 1 rfl (by omega), ix_lit (i := 2) 2 rfl h, step_ok l 1 1 _ _ (by omega), step_ok l 0 2 _ _ h]
    simp only [cond_false, bind_some', contOk, Bool.and_true]
    cases decide ((l.getD 1 0).toNat < L) <;> cases decide (H < (l.getD 1 0).toNat) <;> cases decide ((l.getD 2 0).toNat < 128) <;> cases decide (191 < (l.getD 2 0).toNat) <;> rfl
  · rw [decide_eq_true (by omega : (l.length : Int) < 3), short_ok l 2 1 _ _ (by omega) (by omega)]; rfl
theorem bad4 (l : List UInt8) (L H : Nat) : (bif (decide ((l.length : Int) < 4)) then some true else (ix l (1 : Int)).bind fun x => (bif (decide (x.toNat < L)) then some true else (ix l (1 : Int)).bind fun y => (bif (decide (H < y.toNat)) then some true else
    (ix l (2 : Int)).bind fun x2 => (bif (decide (x2.toNat < 128)) then some true else (ix l (2 : Int)).bind fun y2 => (bif (decide (191 < y2.toNat)) then some true else
    (ix l (3 : Int)).bind fun x3 => (bif (decide (x3.toNat < 128)) then some true else (ix l (3 : Int)).bind fun y3 => some (decide (191 < y3.toNat)))))))) = some (!contOk l 3 1 L H) := by
  by_cases h : 3 < l.length
  · rw [decide_eq_false (by omega : ¬ (l.length : Int) < 4), ix_lit (i := 1) 1 rfl (by omega), ix_lit (i := 2) 2 rfl (by omega), ix_lit (i := 3) 3 rfl h, step_ok l 2 1 _ _ (by omega), step_ok l 1 2 _ _ (by omega), step_ok l 0 3 _ _ h]
    simp only [cond_false, bind_some', contOk, Bool.and_true]
    cases decide ((l.getD 1 0).toNat < L) <;> cases decide (H < (l.getD 1 0).toNat) <;> cases decide ((l.getD 2 0).toNat < 128) <;> cases decide (191 < (l.getD 2 0).toNat) <;> cases decide ((l.getD 3 0).toNat < 128) <;> cases decide (191 < (l.getD 3 0).toNat) <;> rfl
  · rw [decide_eq_true (by omega : (l.length : Int) < 4), short_ok l 3 1 _ _ (by omega) (by omega)]; rfl
theorem first_b (b : UInt8) : (first8 b).toNat = Lib.firstT b.toNat := by
  have h : Lib.firstT b.toNat < 256 := by unfold Lib.firstT; (repeat' split) <;> omega
  unfold first8
  rw [UInt8.toNat_ofNat', Nat.mod_eq_of_lt h]
theorem and7 : ∀ c : Fin 256, (UInt8.ofNat c.val &&& 7).toNat = c.val % 8 := by decide +kernel
theorem size_b (b : UInt8) : (first8 b &&& 7).toNat = Lib.firstT b.toNat % 8 := by
  have h := and7 ⟨(first8 b).toNat, (first8 b).toNat_lt⟩
  simp only [UInt8.ofNat_toNat] at h
  rw [h, first_b]
theorem hi_b (b : UInt8) : (shr8 (first8 b) 4).toNat = Lib.firstT b.toNat / 16 := by
  have h : Lib.firstT b.toNat < 256 := by unfold Lib.firstT; (repeat' split) <;> omega
  unfold shr8
  rw [first_b, UInt8.toNat_ofNat', Nat.mod_eq_of_lt (by omega)]
theorem lo_n (b : UInt8) : (accLo8 b).toNat = Lib.accLo b.toNat := by
  have h : Lib.accLo b.toNat < 256 := by unfold Lib.accLo; (repeat' split) <;> omega
  unfold accLo8
  rw [UInt8.toNat_ofNat', Nat.mod_eq_of_lt h]
theorem hi_n (b : UInt8) : (accHi8 b).toNat = Lib.accHi b.toNat := by
  have h : Lib.accHi b.toNat < 256 := by unfold Lib.accHi; (repeat' split) <;> omega
  unfold accHi8
  rw [UInt8.toNat_ofNat', Nat.mod_eq_of_lt h]
theorem bne_nat (a b : Nat) : ((a : Int) == (b : Int)) = decide (a = b) := by
  rw [Bool.eq_iff_iff]; simp; omega
theorem valid_l1 (k : Nat) : ∀ (n : Nat) (x : List UInt8), x.length < n → x.length < k → utf8_Valid.l1 k n x = some (bif Lib.validD x then .inr () else .inl false) := by
  intro n
  induction n with
  | zero => intro x h; omega
  | succ n ih =>
    intro x hx hk
    rw [utf8_Valid.l1.eq_2]
    by_cases h : 0 < x.length
    · rw [decide_eq_true (by omega : (x.length : Int) > 0), ix_lit (i := 0) 0 rfl h]
      simp only [cond_true, bind_some', dlt, show (128 : UInt8).toNat = 128 from rfl, show (191 : UInt8).toNat = 191 from rfl]
      have hne : x ≠ [] := by intro e; rw [e] at h; exact absurd h (by decide)
      by_cases h1 : (x.getD 0 0).toNat < 128
      · rw [decide_eq_true h1, cut_k x 1 h 1 rfl]
        simp only [cond_true, bind_some']
        have hv : Lib.validD x = Lib.validD (x.drop 1) := by rw [validD_class x hne, if_pos h1]
        rw [hv]
        have hl1 : (x.drop 1).length < x.length := by simp; omega
        generalize x.drop 1 = y at hl1
        by_cases h8 : 8 < y.length
        · rw [decide_eq_true (by omega : (y.length : Int) > 8)]
          obtain ⟨w0, e0, m0⟩ := word_f y (by omega)
          simp only [cond_true, e0, bind_some']
          cases hz : ((w0 &&& (9259542123273814144 : UInt64)) == (0 : UInt64)) with
          | false => exact ih y (by omega) (by omega)
          | true =>
            have hv2 := Lib.validD_ascii 8 y (m0 hz)
            rw [hv2]
            simp only [cond_true]
            rw [cut_k y 8 (by omega) 8 rfl]
            have hl2 : (y.drop 8).length < y.length := by simp; omega
            simp only [bind_some']
            generalize y.drop 8 = z at hl2
            by_cases h16 : 16 < z.length
            · rw [decide_eq_true (by omega : (z.length : Int) > 16), cut_k z 8 (by omega) 8 rfl]
              obtain ⟨w1, e1, m1⟩ := word_f z (by omega)
              obtain ⟨w2, e2, m2⟩ := word_f (z.drop 8) (by simp; omega)
              simp only [cond_true, e1, e2, bind_some']
              cases hz2 : (((w1 ||| w2) &&& (9259542123273814144 : UInt64)) == (0 : UInt64)) with
              | false => exact ih z (by omega) (by omega)
              | true =>
                rw [mask_or] at hz2
                simp only [Bool.and_eq_true] at hz2
                have hv3 := Lib.validD_ascii 16 z (take_drop_mem (m2 hz2.2) (m1 hz2.1))
                rw [hv3]
                simp only [cond_true]
                rw [cut_k z 16 (by omega) 16 rfl]
                have hl3 : (z.drop 16).length < z.length := by simp; omega
                simp only [bind_some']
                generalize z.drop 16 = u at hl3
                obtain ⟨v, ev, hv4, hl4⟩ := valid_l2 k k u (by omega)
                rw [ev, hv4]
                exact ih v (by omega) (by omega)
            · rw [decide_eq_false (by omega : ¬ (z.length : Int) > 16)]
              simp only [cond_false, bind_some']
              exact ih z (by omega) (by omega)
        · rw [decide_eq_false (by omega : ¬ (y.length : Int) > 8)]
          simp only [cond_false, bind_some']
          exact ih y (by omega) (by omega)
      · rw [decide_eq_false h1]
        simp only [cond_false]
        have hb := (x.getD 0 0).toNat_lt
        have hv := Lib.validD_lead x hne (by omega)
        have hsz := size_b (x.getD 0 0)
        have hsh := hi_b (x.getD 0 0)
        have hsm : Lib.firstT (x.getD 0 0).toNat / 16 < 16 := by unfold Lib.firstT; (repeat' split) <;> omega
        rw [chk_of (decide_eq_true (by omega)), chk_of (decide_eq_true (by omega))]
        simp only [bind_some']
        have hlo := lo_n (shr8 (first8 (x.getD 0 0)) 4)
        have hhi := hi_n (shr8 (first8 (x.getD 0 0)) 4)
        rw [hsh] at hlo hhi
        rw [← hlo, ← hhi] at hv
        rw [bad2, bad3, bad4, hsz, show (2 : Int) = ((2 : Nat) : Int) from rfl, show (3 : Int) = ((3 : Nat) : Int) from rfl, show (4 : Int) = ((4 : Nat) : Int) from rfl, bne_nat, bne_nat, bne_nat]
        simp only [bind_some']
        have next : ∀ m, 1 ≤ m → contOk x m 1 (accLo8 (shr8 (first8 (x.getD 0 0)) 4)).toNat (accHi8 (shr8 (first8 (x.getD 0 0)) 4)).toNat = true → utf8_Valid.l1 k n (x.drop (m + 1)) = some (bif Lib.validD (x.drop (m + 1)) then .inr () else .inl false) :=
          fun m hm _ => ih _ (by simp; omega) (by simp; omega)
        have room : ∀ m, 1 ≤ m → contOk x m 1 (accLo8 (shr8 (first8 (x.getD 0 0)) 4)).toNat (accHi8 (shr8 (first8 (x.getD 0 0)) 4)).toNat = true → m + 1 ≤ x.length := by
          intro m hm hc
          rcases Nat.lt_or_ge x.length (m + 1) with hlt | hge
          · rw [short_ok x m 1 _ _ (by omega) (by omega)] at hc; cases hc
          · exact hge
        generalize Lib.firstT (x.getD 0 0).toNat % 8 = sz at hv
        by_cases s2 : sz = 2
        · subst s2
          rw [check2] at hv
          rw [decide_eq_true rfl]
          simp only [cond_true]
          cases hc : contOk x 1 1 (accLo8 (shr8 (first8 (x.getD 0 0)) 4)).toNat (accHi8 (shr8 (first8 (x.getD 0 0)) 4)).toNat with
          | false => rw [hc] at hv; rw [hv]; rfl
          | true =>
            rw [hc] at hv
            simp only [Bool.not_true, cond_false]
            rw [cut_from x (room 1 (by omega) hc), hv]
            exact next 1 (by omega) hc
        rw [decide_eq_false s2]
        by_cases s3 : sz = 3
        · subst s3
          rw [check3] at hv
          rw [decide_eq_true rfl]
          simp only [cond_true, cond_false]
          cases hc : contOk x 2 1 (accLo8 (shr8 (first8 (x.getD 0 0)) 4)).toNat (accHi8 (shr8 (first8 (x.getD 0 0)) 4)).toNat with
          | false => rw [hc] at hv; rw [hv]; rfl
          | true =>
            rw [hc] at hv
            simp only [Bool.not_true, cond_false]
            rw [cut_from x (room 2 (by omega) hc), hv]
            exact next 2 (by omega) hc
        rw [decide_eq_false s3]
        by_cases s4 : sz = 4
        · subst s4
          rw [check4] at hv
          rw [decide_eq_true rfl]
          simp only [cond_true, cond_false]
          cases hc : contOk x 3 1 (accLo8 (shr8 (first8 (x.getD 0 0)) 4)).toNat (accHi8 (shr8 (first8 (x.getD 0 0)) 4)).toNat with
          | false => rw [hc] at hv; rw [hv]; rfl
          | true =>
            rw [hc] at hv
            simp only [Bool.not_true, cond_false]
            rw [cut_from x (room 3 (by omega) hc), hv]
            exact next 3 (by omega) hc
        rw [decide_eq_false s4, hv, checkNo _ _ _ _ ⟨s2, s3, s4⟩]
        rfl
    · have : x = [] := List.eq_nil_of_length_eq_zero (by omega)
      subst this
      rfl
theorem valid_f (x : List UInt8) (k : Nat) (hk : x.length < k) : utf8_Valid.f k x = some (Lib.validD x) := by
  unfold utf8_Valid.f
  rw [cut_to x (Nat.le_refl _), List.take_length]
  simp only [bind_some']
  rw [valid_l1 k k x hk hk]
  cases Lib.validD x <;> rfl
end Go.Proofs.YtaidlahjngmenaaDoor.X
