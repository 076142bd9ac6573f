/- Layer 2, plain: is it a name?. -/
import Derived.Test.YtjhmhdedonibbaaDoorTI0
set_option linter.unusedVariables false
set_option linter.unusedSimpArgs false
namespace Go.Proofs.YtjhmhdedonibbaaDoor.X
open Go Go.RowKit Go.Proofs.YtjhmhdedonibbaaDoor.SX
def nameB (s : List UInt8) : Bool := decide (1 ≤ s.length) && (decide (s.length ≤ 31) && (letB (s.getD 0 0) && decide (runN tailB s = s.length)))
theorem nameB_iff {s : List UInt8} : nameB s = true ↔ 1 ≤ s.length ∧ s.length ≤ 31 ∧ letB (s.getD 0 0) = true ∧ runN tailB s = s.length := by
  unfold nameB
  simp only [Bool.and_eq_true, decide_eq_true_eq]
/-- How a scan ends. -/
theorem scanP_form (s : List UInt8) : ∀ (d i : Nat) (p : Int × Int) (acc : List T_api_Token), s.length - i < d → i ≤ s.length → (∃ more, more ≠ [] ∧ scanP s d i p acc = (acc ++ more, F0)) ∨ (∃ e q, (e = 20 ∨ e = 21 ∨ e = 22) ∧ scanP s d i p acc = ([], ⟨e, q⟩)) := by
  intro d
  induction d with
  | zero => intro i p acc h; omega
  | succ d ih =>
    intro i p acc h1 h2
    obtain ⟨g1, g2⟩ := S_ge s i h2
    rw [scanP.eq_2]
    by_cases he : s.length ≤ S s i
    · rw [if_pos he]
      exact Or.inl ⟨_, by simp, rfl⟩
    · rw [if_neg he]
      cases hw : wordP (s.drop (S s i)) with
      | inr e => exact Or.inr ⟨e, _, wordP_err hw, rfl⟩
      | inl tn =>
        obtain ⟨t, n⟩ := tn
        obtain ⟨n1, n2, n3, n4, n5⟩ := wordP_ok (by omega) hw
        rcases ih _ (W s (S s i + n) (S s i) (W s (S s i) i p).2).2 (acc ++ [put t (spotOf (W s (S s i) i p).2 (S s i))]) (by omega) n2 with ⟨m, hm, e⟩ | h
        · left
          refine ⟨put t (spotOf (W s (S s i) i p).2 (S s i)) :: m, by simp, ?_⟩
          show scanP s d _ _ _ = _
          rw [e, List.append_assoc]
          rfl
        · exact Or.inr h
theorem S_letter {s : List UInt8} (h0 : 0 < s.length) (hL : letB (s.getD 0 0) = true) : S s 0 = 0 := by
  have ht := ((cls_c _).2.2.2.2.1 hL).1
  have hb := (cls_c _).2.2.2.1 ht
  exact S_stop h0 hb.2.1 hb.2.2
theorem name_of {s : List UInt8} {j n : Nat} {t : T_api_Token} (hj : j < s.length) (hw : wordP (s.drop j) = .inl (t, n)) (hk : t.f_Kind = 1) (ht : t.f_Text = s) : nameB s = true := by
  have hg : (s.drop j).getD 0 0 = s.getD j 0 := by rw [getD_drop0, Nat.add_zero]
  unfold wordP at hw
  cases hL : letB ((s.drop j).getD 0 0) with
  | true =>
    rw [hL, cond_true] at hw
    split at hw
    · cases hw
    · rename_i h31
      injection hw with hw
      injection hw with h1 h2
      rw [← h1] at ht
      have hrl := runN_le tailB (s.drop j)
      have hlen := congrArg List.length (show (s.drop j).take (runN tailB (s.drop j)) = s from ht)
      rw [List.length_take, List.length_drop] at hlen
      rw [List.length_drop] at hrl
      obtain rfl : j = 0 := by omega
      rw [List.drop_zero] at *
      exact nameB_iff.2 ⟨by omega, by omega, hL, by omega⟩
  | false =>
    rw [hL, cond_false] at hw
    cases hD : digB ((s.drop j).getD 0 0) with
    | true =>
      rw [hD, cond_true] at hw
      cases hb : numBad (s.drop j) with
      | true => rw [hb, cond_true] at hw; cases hw
      | false =>
        rw [hb, cond_false] at hw
        injection hw with hw
        injection hw with h1 h2
        rw [← h1] at hk
        exact absurd (show (2 : Int) = 1 from hk) (by decide)
    | false =>
      rw [hD, cond_false] at hw
      cases hs : specOf (s.drop j) with
      | some e =>
        rw [hs] at hw
        injection hw with hw
        injection hw with h1 h2
        rw [← h1] at hk ht
        have he := (spec_mem hs).1
        have hn : ∀ e ∈ SPECS, e.2.1 = 1 → nameB e.2.2 = true := by decide +kernel
        rw [← ht]
        exact hn e he hk
      | none =>
        rw [hs] at hw
        cases hg2 : signOf (s.drop j) with
        | some x =>
          rw [hg2] at hw
          injection hw with hw
          injection hw with h1 h2
          rw [← h1] at hk
          exact absurd (show (3 : Int) = 1 from hk) (by decide)
        | none => rw [hg2] at hw; cases hw
theorem name_scan {s : List UInt8} (h : nameB s = true) : scanS s = ([put (tk 1 s 0) (spotOf (1, 1) 0), put (tk 0 [] 0) (spotOf (W s s.length 0 (1, 1)).2 s.length)], F0) := by
  obtain ⟨h1, h2, h3, h4⟩ := nameB_iff.1 h
  have hS := S_letter (by omega) h3
  have hw : wordP s = .inl (tk 1 s 0, s.length) := by
    unfold wordP
    rw [h3, cond_true, h4, if_neg (by omega), List.take_length]
  obtain ⟨m, hm⟩ : ∃ m, s.length = m + 1 := ⟨s.length - 1, by omega⟩
  unfold scanS
  rw [scanP.eq_2, hS, if_neg (by omega), List.drop_zero, hw]
  simp only
  rw [Nat.zero_add, hm, scanP.eq_2, ← hm, S_end (Nat.le_refl _), if_pos (Nat.le_refl _), W_ge (Nat.le_refl 0), W_ge (Nat.le_refl s.length)]
  rfl
theorem name_f (k : Nat) (s : List UInt8) (hs : s.length ≤ 1000000000) (hk : s.length + 30 ≤ k) : token_Name.f k s = some (nameB s) := by
  unfold token_Name.f
  rw [scan_f k s hs hk, bind_some']
  cases hn : nameB s with
  | true =>
    rw [name_scan hn]
    show (bif T_api_Fault.eqb F0 F0 then _ else _) = _
    rw [fault_refl, cond_true]
    show some (s == s) = some true
    simp
  | false =>
    have hS := S_ge s 0 (Nat.zero_le _)
    by_cases he : s.length ≤ S s 0
    · have e1 : scanS s = ([put (tk 0 [] 0) (spotOf (W s (S s 0) 0 (1, 1)).2 (S s 0))], F0) := by unfold scanS; rw [scanP.eq_2, if_pos he]; rfl
      rw [e1]
      rfl
    · cases hw : wordP (s.drop (S s 0)) with
      | inr e =>
        have he3 := wordP_err hw
        have e1 : scanS s = ([], ⟨e, spotOf (W s (S s 0) 0 (1, 1)).2 (S s 0)⟩) := by unfold scanS; rw [scanP.eq_2, if_neg he, hw]
        rw [e1]
        rcases he3 with rfl | rfl | rfl <;> rfl
      | inl tn =>
        obtain ⟨t, n⟩ := tn
        obtain ⟨n1, n2, n3, n4, n5⟩ := wordP_ok (by omega) hw
        have e1 : scanS s = scanP s s.length (S s 0 + n) (W s (S s 0 + n) (S s 0) (W s (S s 0) 0 (1, 1)).2).2 [put t (spotOf (W s (S s 0) 0 (1, 1)).2 (S s 0))] := by unfold scanS; rw [scanP.eq_2, if_neg he, hw]; rfl
        rcases scanP_form s s.length (S s 0 + n) (W s (S s 0 + n) (S s 0) (W s (S s 0) 0 (1, 1)).2).2 [put t (spotOf (W s (S s 0) 0 (1, 1)).2 (S s 0))] (by omega) n2 with ⟨m, hm, e⟩ | ⟨e, q, h3, e4⟩
        · rw [e1, e]
          show (bif T_api_Fault.eqb F0 F0 then _ else _) = _
          rw [fault_refl, cond_true]
          cases ((([put t (spotOf (W s (S s 0) 0 (1, 1)).2 (S s 0))] ++ m).length : Int) == 2) with
          | false => rfl
          | true =>
            show (bif t.f_Kind == 1 then some (t.f_Text == s) else some false) = some false
            cases hk1 : t.f_Kind == 1 with
            | false => rfl
            | true =>
              rw [cond_true]
              congr 1
              rw [← Bool.not_eq_true, beq_iff_eq]
              intro ht
              have := name_of (by omega) hw (by simpa using hk1) ht
              rw [hn] at this
              cases this
        · rw [e1, e4]
          rcases h3 with rfl | rfl | rfl <;> rfl
end Go.Proofs.YtjhmhdedonibbaaDoor.X
