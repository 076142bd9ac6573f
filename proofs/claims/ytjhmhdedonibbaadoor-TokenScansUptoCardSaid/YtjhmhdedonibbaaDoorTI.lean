/- Layer 2, plain: all tokens of a text, by the document; the law of scanning. -/
import Derived.Test.YtjhmhdedonibbaaDoorTH
import Derived.Test.YtjhmhdedonibbaaDoorTAl
set_option linter.unusedVariables false
set_option linter.unusedSimpArgs false
namespace Go.Proofs.YtjhmhdedonibbaaDoor.X
open Go Go.RowKit Go.Proofs.YtjhmhdedonibbaaDoor.SX
theorem rscan_l1 (k : Nat) (s : List UInt8) (hs : s.length ≤ 1000000000) (hk : s.length + 30 ≤ k) : ∀ (d i o : Nat) (p : Int × Int) (acc : List T_api_Token), s.length - i < d → i ≤ s.length → acc.length ≤ i → al s o i → Okp s.length o p →
    dictumref02_Scan.l1 k s d acc (i : Int) (spotOf p (o : Int)) = some (.inl (scanP s d i (W s i o p).2 acc)) := by
  intro d
  induction d with
  | zero => intro i o p acc h; omega
  | succ d ih =>
    intro i o p acc h1 h2 h3 h4 h5
    obtain ⟨g1, g2⟩ := S_ge s i h2
    have hal := (S_al (s := s) (s.length - i) i (Nat.le_refl _) h2).2
    have hq := Okp_walk (s := s) (e := S s i) h5 (Nat.le_trans h4.1 g1) g2
    have hon := on_f k s (S s i) o p.1 p.2 g2 hs (by omega) h5.1 h5.2.1 (by have := h5.2.2.1; omega) (by have := h5.2.2.2; omega)
    have hcut := al_cut (i - o) o p (Nat.le_refl _) h4 (S s i) g1
    rw [dictumref02_Scan.l1.eq_2, rskip_f k s i hs (by omega) h2, bind_some', show dictumref02_on.f k s (spotOf p (o : Int)) (S s i : Int) = _ from hon, bind_some', scanP.eq_2]
    rw [show W s (S s i) o (p.1, p.2) = W s (S s i) o p from rfl, hcut]
    by_cases he : s.length ≤ S s i
    · rw [if_pos he, one_end k s _ he, bind_some']
      show (bif false then _ else _) = _
      rw [cond_false, chk_of (decide_eq_true (by rw [List.length_singleton]; omega))]
      rfl
    · rw [if_neg he]
      obtain ⟨z, hz, hzw⟩ := one_f k s (S s i) (by omega) hs hk
      rw [hz, bind_some']
      cases hw : wordP (s.drop (S s i)) with
      | inr e =>
        rw [hw] at hzw
        have he3 := wordP_err hw
        have hz2 : z.2.2 = e := hzw
        rw [hz2, show (e != 0) = true from by rw [bne_iff_ne]; omega]
        rfl
      | inl tn =>
        obtain ⟨t, n⟩ := tn
        rw [hw] at hzw
        have hz2 : z = (t, ((S s i + n : Nat) : Int), 0) := hzw
        obtain ⟨n1, n2, n3, n4, n5⟩ := wordP_ok (by omega) hw
        rw [hz2]
        simp only
        rw [show ((0 : Int) != 0) = false from rfl, cond_false, chk_of (decide_eq_true (by rw [List.length_singleton]; omega)), bind_some', show (t.f_Kind == 0) = false from by rw [← Bool.not_eq_true, beq_iff_eq]; omega, cond_false]
        have := ih (S s i + n) (S s i) (W s (S s i) o p).2 (acc ++ [put t (spotOf (W s (S s i) o p).2 (S s i))]) (by omega) n2 (by rw [List.length_append, List.length_singleton]; omega) n3 hq
        rw [hcut] at this
        exact this
theorem rscan_f (k : Nat) (s : List UInt8) (hs : s.length ≤ 1000000000) (hk : s.length + 30 ≤ k) : dictumref02_Scan.f k s = some (scanS s) := by
  unfold dictumref02_Scan.f
  have h := rscan_l1 k s hs hk k 0 0 (1, 1) [] (by omega) (by omega) (Nat.le_refl _) (al_refl s 0) ⟨by decide, by decide, by show (1 : Int) + _ ≤ _; omega, by show (1 : Int) + _ ≤ _; omega⟩
  rw [show dictumref02_Scan.l1 k s k ([] : List T_api_Token) 0 (⟨1, 1, (0 : Int)⟩ : T_api_Spot) = _ from h, bind_some', W_ge (Nat.le_refl 0), scanP_fuel s k (s.length + 1) 0 (1, 1) [] (by omega) (by omega) (by omega)]
  rfl
theorem spot_refl (x : T_api_Spot) : T_api_Spot.eqb x x = true := by unfold T_api_Spot.eqb; simp
theorem fault_refl (x : T_api_Fault) : T_api_Fault.eqb x x = true := by unfold T_api_Fault.eqb; simp [spot_refl]
theorem token_refl (x : T_api_Token) : T_api_Token.eqb x x = true := by unfold T_api_Token.eqb; simp [spot_refl]
theorem same_l1 (k : Nat) (a : List T_api_Token) (ha : a.length ≤ 1000000000) : ∀ (d kk i : Nat), a.length - i ≤ d → d < kk → dictumlaw02_same.l1 k a a kk (i : Int) = some (.inr ()) := by
  intro d
  induction d with
  | zero =>
    intro kk i h1 h2
    obtain ⟨kk, rfl⟩ : ∃ m, kk = m + 1 := ⟨kk - 1, by omega⟩
    rw [dictumlaw02_same.l1.eq_2, decide_eq_false (by omega)]
    rfl
  | succ d ih =>
    intro kk i h1 h2
    obtain ⟨kk, rfl⟩ : ∃ m, kk = m + 1 := ⟨kk - 1, by omega⟩
    by_cases h : i < a.length
    · rw [dictumlaw02_same.l1.eq_2, decide_eq_true (by omega : (i : Int) < (a.length : Int)), cond_true, ix_nat, List.getElem?_eq_getElem h, bind_some', bind_some', token_refl, Bool.not_true, cond_false, wsucc i (by omega)]
      exact ih kk (i + 1) (by omega) (by omega)
    · rw [dictumlaw02_same.l1.eq_2, decide_eq_false (by omega)]
      rfl
theorem same_f (k : Nat) (a : List T_api_Token) (ha : a.length ≤ 1000000000) (hk : a.length < k) : dictumlaw02_same.f k a a = some true := by
  unfold dictumlaw02_same.f
  have h := same_l1 k a ha a.length k 0 (by omega) hk
  rw [show ((a.length : Int) != (a.length : Int)) = false from by simp, cond_false, show dictumlaw02_same.l1 k a a k 0 = _ from h]
  rfl
theorem scanP_len (s : List UInt8) : ∀ (d i : Nat) (p : Int × Int) (acc : List T_api_Token), i ≤ s.length → acc.length ≤ i → (scanP s d i p acc).1.length ≤ s.length + 1 := by
  intro d
  induction d with
  | zero => intro i p acc h1 h2; exact Nat.zero_le _
  | succ d ih =>
    intro i p acc h1 h2
    obtain ⟨g1, g2⟩ := S_ge s i h1
    rw [scanP.eq_2]
    by_cases he : s.length ≤ S s i
    · rw [if_pos he]
      simp only [List.length_append, List.length_singleton]
      omega
    · rw [if_neg he]
      cases hw : wordP (s.drop (S s i)) with
      | inr e => exact Nat.zero_le _
      | inl tn =>
        obtain ⟨t, n⟩ := tn
        obtain ⟨n1, n2, n3, n4, n5⟩ := wordP_ok (by omega) hw
        exact ih _ _ _ n2 (by rw [List.length_append, List.length_singleton]; omega)
theorem scanS_len (s : List UInt8) : (scanS s).1.length ≤ s.length + 1 := scanP_len s _ 0 _ [] (Nat.zero_le _) (Nat.le_refl _)
theorem TokenScans_pure : ∀ (x0 : List UInt8), bulkS x0 ≤ 1048576 → okS x0 → ∃ k, dictumlaw02_TokenScans.f k x0 = some true := by
  intro x0 hb _
  have hl : x0.length ≤ 1048576 := by simp only [bulkS] at hb; omega
  obtain ⟨k0, hk0⟩ := alive_ev
  refine ⟨max k0 10000020, ?_⟩
  have hh := hk0 (max k0 10000020) (by omega)
  have hk : 10000020 ≤ max k0 10000020 := Nat.le_max_right _ _
  generalize max k0 10000020 = k at hh hk
  have hsl := scanS_len x0
  unfold dictumlaw02_TokenScans.f
  rw [scan_f k x0 (by omega) (by omega), bind_some', rscan_f k x0 (by omega) (by omega), bind_some', fault_refl, cond_true, same_f k _ (by omega) (by omega), bind_some', cond_true, hh]
  rfl
end Go.Proofs.YtjhmhdedonibbaaDoor.X
