/- Layer 2, plain: what a token is written as, by the document. -/
import Derived.Test.YtjhmhdedonibbaaDoorTKr
set_option linter.unusedVariables false
set_option linter.unusedSimpArgs false
namespace Go.Proofs.YtjhmhdedonibbaaDoor.X
open Go Go.RowKit Go.Proofs.YtjhmhdedonibbaaDoor.SX
open Go.Lib (itoa decDigits)
def finR (z : T_api_Token × Int × Int) (x : List UInt8) (t : T_api_Token) : List UInt8 × Int := bif okz z x t then (x, 0) else ([], 2)
theorem fin_f (k : Nat) (x : List UInt8) (t : T_api_Token) (z : T_api_Token × Int × Int) (hz : dictumref02_one.f k x 0 = some z) : ((dictumref02_one.f k x 0).bind fun z112 =>
    ((bif (z112.2.2 != 0) then some true else (bif (z112.2.1 != (x.length : Int)) then some true else (bif (z112.1.f_Kind != t.f_Kind) then some true else (bif (!(z112.1.f_Text == t.f_Text)) then some true else some (z112.1.f_Int != t.f_Int))))) : Option (Bool)).bind fun z125 =>
    (bif z125 then some (([] : List UInt8), 2) else some (x, 0))) = some (finR z x t) := by
  rw [hz, bind_some', okz_chain, bind_some']
  unfold finR
  cases okz z x t <;> rfl
theorem okz_inl (t u : T_api_Token) (n : Nat) (x : List UInt8) : okz (u, ((0 + n : Nat) : Int), 0) x t = decide (n = x.length ∧ u.f_Kind = t.f_Kind ∧ u.f_Text = t.f_Text ∧ u.f_Int = t.f_Int) := by
  unfold okz
  rw [Bool.eq_iff_iff]
  simp only [Bool.and_eq_true, beq_iff_eq, decide_eq_true_eq]
  constructor
  · rintro ⟨_, a, b, c, d⟩; exact ⟨by omega, b, c, d⟩
  · rintro ⟨a, b, c, d⟩; exact ⟨trivial, by omega, b, c, d⟩
theorem okz_err (z : T_api_Token × Int × Int) (x : List UInt8) (t : T_api_Token) (h : z.2.2 = 20 ∨ z.2.2 = 21 ∨ z.2.2 = 22) : okz z x t = false := by
  unfold okz
  rw [show (z.2.2 == 0) = false from by rw [← Bool.not_eq_true, beq_iff_eq]; omega]
  rfl
theorem rwrite_f (k : Nat) (t : T_api_Token) (hs : t.f_Text.length ≤ 100000000) (hk : t.f_Text.length + 100 ≤ k) (h0 : -9223372036854775808 ≤ t.f_Int) (h1 : t.f_Int ≤ 9223372036854775807) : dictumref02_Write.f k t = some (writeP t) := by
  have hend : dictumref02_one.f k [] 0 = some (tk 0 [] 0, 0, 0) := one_end k [] 0 (Nat.le_refl _)
  unfold dictumref02_Write.f
  by_cases k0 : t.f_Kind = 0
  · rw [show (t.f_Kind == 0) = true from by rw [k0]; rfl, cond_true, bind_some']
    simp only
    rw [fin_f k [] t _ hend]
    unfold finR writeP
    by_cases h : t.f_Kind = 0 ∧ t.f_Text = [] ∧ t.f_Int = 0
    · rw [if_pos h]
      have : okz (tk 0 [] 0, ((0 + 0 : Nat) : Int), 0) [] t = true := by rw [okz_inl, decide_eq_true_eq]; exact ⟨rfl, h.1.symm, h.2.1.symm, h.2.2.symm⟩
      rw [show okz (tk 0 [] 0, 0, 0) [] t = true from this]; rfl
    · rw [if_neg h, if_neg (by omega), if_neg (by omega), if_neg (by omega)]
      have : okz (tk 0 [] 0, ((0 + 0 : Nat) : Int), 0) [] t = false := by rw [okz_inl, decide_eq_false_iff_not]; rintro ⟨_, b, c, d⟩; exact h ⟨b.symm, c.symm, d.symm⟩
      rw [show okz (tk 0 [] 0, 0, 0) [] t = false from this]; rfl
  rw [show (t.f_Kind == 0) = false from by rw [← Bool.not_eq_true, beq_iff_eq]; exact k0, cond_false]
  have texts : (t.f_Kind = 1 ∨ t.f_Kind = 3) → ((dictumref02_one.f k t.f_Text 0).bind fun z112 =>
    ((bif (z112.2.2 != 0) then some true else (bif (z112.2.1 != (t.f_Text.length : Int)) then some true else (bif (z112.1.f_Kind != t.f_Kind) then some true else (bif (!(z112.1.f_Text == t.f_Text)) then some true else some (z112.1.f_Int != t.f_Int))))) : Option (Bool)).bind fun z125 =>
    (bif z125 then some (([] : List UInt8), 2) else some (t.f_Text, 0))) = some (writeP t) := by
    intro h13
    by_cases hne : t.f_Text = []
    · have hend' : dictumref02_one.f k t.f_Text 0 = some (tk 0 [] 0, 0, 0) := by rw [hne]; exact hend
      rw [fin_f k _ t _ hend']
      unfold finR
      have : okz (tk 0 [] 0, ((0 + 0 : Nat) : Int), 0) t.f_Text t = false := by rw [okz_inl, decide_eq_false_iff_not]; rintro ⟨_, b, _, _⟩; exact k0 b.symm
      rw [show okz (tk 0 [] 0, 0, 0) t.f_Text t = false from this, cond_false]
      unfold writeP
      rw [if_neg (fun h => k0 h.1), if_neg (fun h => by have := h.2.2; rw [hne] at this; cases this), if_neg (by omega), if_neg (fun h => by have := h.2.2; rw [hne] at this; cases this)]
    · have hlen : 0 < t.f_Text.length := List.length_pos_iff.2 hne
      obtain ⟨z, hz, hw⟩ := one_f k t.f_Text 0 hlen (by omega) (by omega)
      have hz' : dictumref02_one.f k t.f_Text 0 = some z := hz
      rw [fin_f k _ t z hz']
      rw [List.drop_zero] at hw
      unfold finR writeP
      rw [if_neg (fun h => k0 h.1), if_neg (c := t.f_Kind = 2 ∧ t.f_Text = [] ∧ 0 ≤ t.f_Int ∧ t.f_Int ≤ 999999999) (by omega)]
      cases hwp : wordP t.f_Text with
      | inr e =>
        rw [hwp] at hw
        have he := wordP_err hwp
        have hze : z.2.2 = e := hw
        rw [okz_err z _ t (by rw [hze]; exact he), cond_false, if_neg (fun h => by rw [wordP_name h.2.2] at hwp; cases hwp), if_neg (fun h => by rw [wordP_sign _ (signB_iff.1 h.2.2)] at hwp; cases hwp)]
      | inl tn =>
        obtain ⟨u, n⟩ := tn
        rw [hwp] at hw
        have hze : z = (u, ((0 + n : Nat) : Int), 0) := hw
        rw [hze, okz_inl]
        by_cases hok : n = t.f_Text.length ∧ u.f_Kind = t.f_Kind ∧ u.f_Text = t.f_Text ∧ u.f_Int = t.f_Int
        · rw [decide_eq_true hok, cond_true]
          rcases h13 with h | h
          · have hnm : nameB t.f_Text = true := name_of (j := 0) hlen (by rw [List.drop_zero]; exact hwp) (hok.2.1.trans h) hok.2.2.1
            have hu := wordP_name hnm
            rw [hwp] at hu
            injection hu with hu
            injection hu with hu1 hu2
            rw [if_pos ⟨h, by rw [← hok.2.2.2, hu1]; rfl, hnm⟩]
          · obtain ⟨hm, hi⟩ := sign_of hwp (hok.2.1.trans h) hok.2.2.1
            rw [if_neg (by omega), if_pos ⟨h, by rw [← hok.2.2.2, hi], signB_iff.2 hm⟩]
        · rw [decide_eq_false hok, cond_false, if_neg (fun h => hok ?_), if_neg (fun h => hok ?_)]
          · have hu := wordP_sign _ (signB_iff.1 h.2.2)
            rw [hwp] at hu
            injection hu with hu
            injection hu with hu1 hu2
            exact ⟨hu2, by rw [hu1]; exact h.1.symm, by rw [hu1]; rfl, by rw [hu1]; exact h.2.1.symm⟩
          · have hu := wordP_name h.2.2
            rw [hwp] at hu
            injection hu with hu
            injection hu with hu1 hu2
            exact ⟨hu2, by rw [hu1]; exact h.1.symm, by rw [hu1]; rfl, by rw [hu1]; exact h.2.1.symm⟩
  by_cases k1 : t.f_Kind = 1
  · rw [show (t.f_Kind == 1) = true from by rw [k1]; rfl, cond_true, bind_some', cond_true, bind_some']
    exact texts (Or.inl k1)
  rw [show (t.f_Kind == 1) = false from by rw [← Bool.not_eq_true, beq_iff_eq]; exact k1, cond_false, bind_some']
  by_cases k3 : t.f_Kind = 3
  · rw [show (t.f_Kind == 3) = true from by rw [k3]; rfl, cond_true, bind_some']
    exact texts (Or.inr k3)
  rw [show (t.f_Kind == 3) = false from by rw [← Bool.not_eq_true, beq_iff_eq]; exact k3, cond_false]
  by_cases k2 : t.f_Kind = 2
  · unfold strconv_Itoa.f
    rw [show (t.f_Kind == 2) = true from by rw [k2]; rfl, cond_true, decide_eq_true h0, decide_eq_true h1, show chk (true && true) = some () from rfl, bind_some', bind_some', bind_some']
    simp only
    unfold writeP
    rw [if_neg (fun h => k0 h.1), if_neg (fun h => k1 h.1), if_neg (c := t.f_Kind = 3 ∧ t.f_Int = 0 ∧ signB t.f_Text = true) (fun h => k3 h.1)]
    have hdl : ∀ m : Nat, m ≤ 9223372036854775808 → (decDigits m).length ≤ 20 := fun m hm => dd_len 19 m (by
      have e20 : (10 : Nat) ^ (19 + 1) = 100000000000000000000 := by decide
      omega)
    by_cases hneg : t.f_Int < 0
    · -- a minus sign is no token
      have hi : itoa t.f_Int = 45 :: decDigits t.f_Int.natAbs := by unfold itoa; rw [if_pos hneg]
      have hl := hdl t.f_Int.natAbs (by omega)
      obtain ⟨c, u, e, c1, c2, _⟩ := dd_head t.f_Int.natAbs
      have hwp : wordP (itoa t.f_Int) = .inr 20 := by
        rw [hi, e]
        have hsp : specOf (45 :: c :: u) = none := by
          rw [specOf_rune, Lib.decodeL_ascii 45 (c :: u) (by decide)]
          rfl
        have hsg : signOf (45 :: c :: u) = none := by
          cases hs : signOf (45 :: c :: u) with
          | none => rfl
          | some y =>
            obtain ⟨hm, hp⟩ := signOf_mem hs
            have hall : ∀ y ∈ SIGNS, y.head? = some 45 → y = [45, 62] := by decide
            have hne := (sign_chars y hm).1
            cases y with
            | nil => exact absurd rfl hne
            | cons a v =>
              simp only [List.isPrefixOf, Bool.and_eq_true, beq_iff_eq] at hp
              have := hall (a :: v) hm (by rw [hp.1]; rfl)
              injection this with _ hv
              rw [hv] at hp
              simp only [List.isPrefixOf, Bool.and_eq_true, beq_iff_eq] at hp
              have h62 : c.toNat = 62 := by rw [← hp.2.1]; rfl
              omega
        unfold wordP
        rw [show letB ((45 :: c :: u : List UInt8).getD 0 0) = false from (show letB 45 = false by decide), cond_false, show digB ((45 :: c :: u : List UInt8).getD 0 0) = false from (show digB 45 = false by decide), cond_false, hsp, hsg]
      have hlen : 0 < (itoa t.f_Int).length := by rw [hi]; simp
      obtain ⟨z, hz, hw⟩ := one_f k (itoa t.f_Int) 0 hlen (by rw [hi]; simp; omega) (by rw [hi]; simp; omega)
      rw [List.drop_zero, hwp] at hw
      have hz' : dictumref02_one.f k (itoa t.f_Int) 0 = some z := hz
      rw [fin_f k _ t z hz']
      unfold finR
      rw [okz_err z _ t (Or.inl hw), cond_false, if_neg (by omega)]
    · have hi : itoa t.f_Int = decDigits t.f_Int.toNat := by unfold itoa; rw [if_neg hneg]
      have hl := hdl t.f_Int.toNat (by omega)
      have hlen : 0 < (itoa t.f_Int).length := by
        obtain ⟨c, u, e, _⟩ := dd_head t.f_Int.toNat
        rw [hi, e]
        simp
      obtain ⟨z, hz, hw⟩ := one_f k (itoa t.f_Int) 0 hlen (by rw [hi]; omega) (by rw [hi]; omega)
      have hwd := wordP_dec t.f_Int.toNat
      rw [List.drop_zero, hi, hwd] at hw
      have hz' : dictumref02_one.f k (itoa t.f_Int) 0 = some z := hz
      rw [fin_f k _ t z hz']
      unfold finR
      by_cases hM : t.f_Int.toNat ≤ 999999999
      · rw [if_pos hM] at hw
        have hze : z = (tk 2 [] (t.f_Int.toNat : Int), ((0 + (decDigits t.f_Int.toNat).length : Nat) : Int), 0) := hw
        rw [hze, okz_inl, hi]
        by_cases hT : t.f_Text = []
        · rw [decide_eq_true ⟨rfl, k2.symm, hT.symm, by show (t.f_Int.toNat : Int) = _; omega⟩, cond_true, if_pos ⟨k2, hT, by omega, by omega⟩]
        · rw [decide_eq_false (fun h => hT h.2.2.1.symm), cond_false, if_neg (fun h => hT h.2.1)]
      · rw [if_neg hM] at hw
        have hze : z.2.2 = 21 := hw
        rw [okz_err z _ t (Or.inr (Or.inl hze)), cond_false, if_neg (by omega)]
  · rw [show (t.f_Kind == 2) = false from by rw [← Bool.not_eq_true, beq_iff_eq]; exact k2, cond_false, bind_some']
    simp only
    unfold writeP
    rw [if_neg (fun h => k0 h.1), if_neg (fun h => k1 h.1), if_neg (fun h => k2 h.1), if_neg (fun h => k3 h.1)]
end Go.Proofs.YtjhmhdedonibbaaDoor.X
