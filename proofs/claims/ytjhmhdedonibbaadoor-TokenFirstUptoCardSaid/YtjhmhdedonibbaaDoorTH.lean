/- Layer 2, plain: all tokens of a text, by the program. -/
import Derived.Test.YtjhmhdedonibbaaDoorTG
set_option linter.unusedVariables false
set_option linter.unusedSimpArgs false
namespace Go.Proofs.YtjhmhdedonibbaaDoor.X
open Go Go.RowKit Go.Proofs.YtjhmhdedonibbaaDoor.SX
/-- Lines and columns stay small. -/
def Okp (len i : Nat) (p : Int × Int) : Prop := 0 ≤ p.1 ∧ 0 ≤ p.2 ∧ p.1 + ((len - i : Nat) : Int) ≤ 4000000000 ∧ p.2 + ((len - i : Nat) : Int) ≤ 4000000000
theorem W_col {s : List UInt8} {e : Nat} : ∀ (d i : Nat) (p : Int × Int), e - i ≤ d → 0 ≤ p.1 → 0 ≤ p.2 → 0 ≤ (W s e i p).2.1 ∧ 0 ≤ (W s e i p).2.2 ∧ (W s e i p).2.1 ≤ p.1 + ((e - i : Nat) : Int) ∧ (W s e i p).2.2 ≤ p.2 + ((e - i : Nat) : Int) := by
  intro d
  induction d with
  | zero => intro i p h1 h2 h3; rw [W_ge (by omega)]; simp only; omega
  | succ d ih =>
    intro i p h1 h2 h3
    have hw := wide_pos s i
    by_cases h : i < e
    · rw [W_lt h]
      cases hc : s.getD i 0 == 10 with
      | true =>
        rw [stp_nl _ _ hc]
        have := ih (i + wideAt s i) (p.1 + 1, 1) (by omega) (by simp only; omega) (by simp only; omega)
        simp only at this
        omega
      | false =>
        rw [stp_no _ _ hc]
        have := ih (i + wideAt s i) (p.1, p.2 + 1) (by omega) (by simp only; omega) (by simp only; omega)
        simp only at this
        omega
    · rw [W_ge (by omega)]; simp only; omega
theorem Okp_walk {s : List UInt8} {len i e : Nat} {p : Int × Int} (h : Okp len i p) (h1 : i ≤ e) (h2 : e ≤ len) : Okp len e (W s e i p).2 := by
  obtain ⟨a, b, c, d⟩ := h
  have := W_col (s := s) (e := e) (e - i) i p (Nat.le_refl _) a b
  unfold Okp
  omega
def F0 : T_api_Fault := ⟨0, ⟨0, 0, 0⟩⟩
def put (t : T_api_Token) (q : T_api_Spot) : T_api_Token := ⟨t.f_Kind, t.f_Text, t.f_Int, q⟩
/-- The tokens from place i on, or the first fault. -/
def scanP (s : List UInt8) : Nat → Nat → Int × Int → List T_api_Token → List T_api_Token × T_api_Fault
  | 0, _, _, _ => ([], F0)
  | d + 1, i, p, acc =>
    if s.length ≤ S s i then (acc ++ [put (tk 0 [] 0) (spotOf (W s (S s i) i p).2 (S s i))], F0)
    else match wordP (s.drop (S s i)) with
      | .inr e => ([], ⟨e, spotOf (W s (S s i) i p).2 (S s i)⟩)
      | .inl (t, n) => scanP s d (S s i + n) (W s (S s i + n) (S s i) (W s (S s i) i p).2).2 (acc ++ [put t (spotOf (W s (S s i) i p).2 (S s i))])
theorem scan_l1 (k : Nat) (s : List UInt8) (hs : s.length ≤ 1000000000) (hk : s.length + 30 ≤ k) : ∀ (d i : Nat) (p : Int × Int) (acc : List T_api_Token), s.length - i < d → i ≤ s.length → acc.length ≤ i → Okp s.length i p → token_Scan.l1 k d acc (cur s p i) = some (.inl (scanP s d i p acc)) := by
  intro d
  induction d with
  | zero => intro i p acc h; omega
  | succ d ih =>
    intro i p acc h1 h2 h3 h4
    obtain ⟨g1, g2⟩ := S_ge s i h2
    obtain ⟨L, C⟩ := p
    have hq := Okp_walk (s := s) h4 g1 g2
    obtain ⟨a1, a2, a3, a4⟩ := h4
    rw [token_Scan.l1.eq_2, space_f k s i L C hs (by omega) h2 a1 a2 a3 a4, bind_some', here_f s _ _ g2, bind_some', scanP.eq_2]
    by_cases he : s.length ≤ S s i
    · rw [if_pos he, List.drop_eq_nil_of_le he]
      show (bif true then _ else _) = _
      rw [cond_true, chk_of (decide_eq_true (by rw [List.length_singleton]; omega))]
      rfl
    · have hne : s.drop (S s i) ≠ [] := by intro e2; have := congrArg List.length e2; simp at this; omega
      have hneb : (s.drop (S s i) == []) = false := by rw [← Bool.not_eq_true, beq_iff_eq]; exact hne
      rw [if_neg he, hneb, cond_false, bind_some', word_f k _ (by rw [List.length_drop]; omega) (by rw [List.length_drop]; omega) hne, bind_some']
      unfold wordR
      cases hw : wordP (s.drop (S s i)) with
      | inr e =>
        have he3 := wordP_err hw
        simp only
        rw [show (e != 0) = true from by rw [bne_iff_ne]; omega]
        rfl
      | inl tn =>
        obtain ⟨t, n⟩ := tn
        obtain ⟨n1, n2, n3, n4, n5⟩ := wordP_ok (by omega) hw
        obtain ⟨b1, b2, b3, b4⟩ := hq
        simp only
        rw [show ((0 : Int) != 0) = false from rfl, cond_false, chk_of (decide_eq_true (by rw [List.length_singleton]; omega)), bind_some']
        have hsk := skip_f k s (S s i) n (W s (S s i) i (L, C)).2.1 (W s (S s i) i (L, C)).2.2 n2 hs n3 (by omega) b1 b2 (by omega) (by omega)
        rw [show token_cursor_skip.f k (cur s (W s (S s i) i (L, C)).2 (S s i)) (n : Int) = _ from hsk, bind_some']
        exact ih (S s i + n) _ _ (by omega) n2 (by rw [List.length_append, List.length_singleton]; omega) (Okp_walk ⟨b1, b2, b3, b4⟩ (by omega) n2)
def scanS (s : List UInt8) : List T_api_Token × T_api_Fault := scanP s (s.length + 1) 0 (1, 1) []
theorem scanP_fuel (s : List UInt8) : ∀ (d e i : Nat) (p : Int × Int) (acc : List T_api_Token), s.length - i < d → s.length - i < e → i ≤ s.length → scanP s d i p acc = scanP s e i p acc := by
  intro d
  induction d with
  | zero => intro e i p acc h; omega
  | succ d ih =>
    intro e i p acc h1 h2 h3
    obtain ⟨e, rfl⟩ : ∃ m, e = m + 1 := ⟨e - 1, by omega⟩
    obtain ⟨g1, g2⟩ := S_ge s i h3
    rw [scanP.eq_2, scanP.eq_2]
    by_cases he : s.length ≤ S s i
    · rw [if_pos he, if_pos he]
    · rw [if_neg he, if_neg he]
      cases hw : wordP (s.drop (S s i)) with
      | inr e => rfl
      | inl tn =>
        obtain ⟨t, n⟩ := tn
        obtain ⟨n1, n2, n3, n4, n5⟩ := wordP_ok (by omega) hw
        exact ih e _ _ _ (by omega) (by omega) n2
theorem scan_f (k : Nat) (s : List UInt8) (hs : s.length ≤ 1000000000) (hk : s.length + 30 ≤ k) : token_Scan.f k s = some (scanS s) := by
  unfold token_Scan.f
  have h := scan_l1 k s hs hk k 0 (1, 1) [] (by omega) (by omega) (Nat.le_refl _) ⟨by decide, by decide, by show (1 : Int) + _ ≤ _; omega, by show (1 : Int) + _ ≤ _; omega⟩
  rw [show token_Scan.l1 k k ([] : List T_api_Token) (⟨s, (⟨1, 1, (0 : Int)⟩ : T_api_Spot)⟩ : T_token_cursor) = _ from h, bind_some', scanP_fuel s k (s.length + 1) 0 (1, 1) [] (by omega) (by omega) (by omega)]
  rfl
end Go.Proofs.YtjhmhdedonibbaaDoor.X
