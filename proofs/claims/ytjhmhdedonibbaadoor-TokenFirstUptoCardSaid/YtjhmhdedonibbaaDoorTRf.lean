/- Layer 2, plain: the law of what stands ahead of a fault. -/
import Derived.Test.YtjhmhdedonibbaaDoorTQ
import Derived.Test.YtjhmhdedonibbaaDoorTAl
set_option linter.unusedVariables false
set_option linter.unusedSimpArgs false
namespace Go.Proofs.YtjhmhdedonibbaaDoor.X
open Go Go.RowKit Go.Proofs.YtjhmhdedonibbaaDoor.SX
theorem nlOf_take : ∀ (l : List UInt8) (m : Nat), nlOf (l.take m) = min m (nlOf l)
  | [], m => by rw [List.take_nil]; exact (Nat.min_zero m).symm
  | c :: t, 0 => by rw [List.take_zero]; exact (Nat.zero_min _).symm
  | c :: t, m + 1 => by
    rw [List.take_succ_cons, nlOf.eq_2, nlOf.eq_2, nlOf_take t m]
    cases c == 10 with
    | true => simp
    | false => simp only [cond_false]; omega
/-- In a text that is cut where a token begins, the same is gone over. -/
theorem S_take {s : List UInt8} {m : Nat} (hm : m ≤ s.length) : ∀ (d i : Nat), s.length - i ≤ d → i ≤ m → S s i ≤ m → S (s.take m) i = S s i := by
  intro d
  have hl : (s.take m).length = m := by rw [List.length_take]; omega
  induction d with
  | zero =>
    intro i h1 h2 h3
    rw [S_end (s := s) (i := i) (by omega), S_end (by rw [hl]; omega)]
  | succ d ih =>
    intro i h1 h2 h3
    by_cases h : i < m
    · have hs : i < s.length := by omega
      have hlt : i < (s.take m).length := by rw [hl]; exact h
      have hg : (s.take m).getD i 0 = s.getD i 0 := getD_take h
      cases hb : blankB (s.getD i 0) with
      | true =>
        rw [S_blank hlt (by rw [hg]; exact hb)]
        rw [S_blank hs hb] at h3 ⊢
        exact ih (i + 1) (by omega) (by omega) h3
      | false =>
        cases hc : s.getD i 0 == 35 with
        | true =>
          have hn := nl_pos hs hc
          rw [S_com hlt (by rw [hg]; exact hb) (by rw [hg]; exact hc)]
          rw [S_com hs hb hc] at h3 ⊢
          obtain ⟨hle, _⟩ := com_al hs
          have hge := (S_ge s _ hle).1
          have e1 : nlOf ((s.take m).drop i) = nlOf (s.drop i) := by
            rw [List.drop_take, nlOf_take]
            omega
          rw [e1]
          exact ih _ (by omega) (by omega) h3
        | false => rw [S_stop hs hb hc, S_stop hlt (by rw [hg]; exact hb) (by rw [hg]; exact hc)]
    · obtain rfl : i = m := by omega
      have := (S_ge s i hm).1
      rw [S_end (by rw [hl]; omega)]
      omega
theorem scan_first {s : List UInt8} : ∀ (d i : Nat) (p : Int × Int) (acc acc2 : List T_api_Token) (c : Int) (q : T_api_Spot), s.length - i < d → i ≤ s.length → al s 0 i → p = (W s i 0 (1, 1)).2 → scanP s d i p acc = ([], ⟨c, q⟩) → c ≠ 0 →
    ∃ m : Nat, i ≤ m ∧ m ≤ s.length ∧ al s 0 m ∧ q = spotOf (W s m 0 (1, 1)).2 m ∧ ∀ (d' : Nat) (p' : Int × Int), m - i < d' → (scanP (s.take m) d' i p' acc2).2 = F0 := by
  intro d
  induction d with
  | zero => intro i p acc acc2 c q h; omega
  | succ d ih =>
    intro i p acc acc2 c q h1 h2 ha hp h hc
    obtain ⟨g1, g2⟩ := S_ge s i h2
    have hal := (S_al (s := s) (s.length - i) i (Nat.le_refl _) h2).2
    have hcut := al_cut (i - 0) 0 (1, 1) (Nat.le_refl _) ha (S s i) g1
    rw [← hp] at hcut
    rw [scanP.eq_2] at h
    by_cases he : s.length ≤ S s i
    · rw [if_pos he] at h
      injection h with _ h
      have : (0 : Int) = c := congrArg T_api_Fault.f_Code h
      exact absurd this.symm hc
    · rw [if_neg he] at h
      cases hw : wordP (s.drop (S s i)) with
      | inr e =>
        rw [hw] at h
        injection h with _ h
        injection h with h3 h4
        refine ⟨S s i, g1, g2, al_trans ha hal, by rw [← h4, hcut], fun d' p' hd => ?_⟩
        obtain ⟨d', rfl⟩ : ∃ m, d' = m + 1 := ⟨d' - 1, by omega⟩
        have hS := S_take (m := S s i) g2 (s.length - i) i (Nat.le_refl _) g1 (Nat.le_refl _)
        rw [scanP.eq_2, hS, if_pos (by rw [List.length_take]; omega)]
      | inl tn =>
        obtain ⟨t, n⟩ := tn
        rw [hw] at h
        obtain ⟨n1, n2, n3, n4, n5⟩ := wordP_ok (by omega) hw
        have hne : s.drop (S s i) ≠ [] := by intro e2; have := congrArg List.length e2; simp at this; omega
        have hal2 := al_trans (al_trans ha hal) n3
        have hp2 : (W s (S s i + n) (S s i) (W s (S s i) i p).2).2 = (W s (S s i + n) 0 (1, 1)).2 := by
          rw [← hcut, ← al_cut (S s i - 0) 0 (1, 1) (Nat.le_refl _) (al_trans ha hal) (S s i + n) (by omega)]
        obtain ⟨m, m1, m2, m3, m4, m5⟩ := ih (S s i + n) _ _ (acc2 ++ [put t (spotOf (0, 0) 0)]) c q (by omega) n2 hal2 hp2 h hc
        refine ⟨m, by omega, m2, m3, m4, fun d' p' hd => ?_⟩
        obtain ⟨d', rfl⟩ : ∃ m, d' = m + 1 := ⟨d' - 1, by omega⟩
        have hS := S_take (m := m) m2 (s.length - i) i (Nat.le_refl _) (by omega) (by omega)
        have hw2 : wordP ((s.take m).drop (S s i)) = .inl (t, n) := by
          rw [List.drop_take]
          exact wordP_cut hne hw n1 (by omega)
        rw [scanP.eq_2, hS, if_neg (by rw [List.length_take]; omega), hw2]
        have acc_free : ∀ (s : List UInt8) (d i : Nat) (p p' : Int × Int) (a b : List T_api_Token), (scanP s d i p a).2 = F0 → (scanP s d i p' b).2 = F0 := by
          intro s d
          induction d with
          | zero => intro i p p' a b _; rfl
          | succ d ihd =>
            intro i p p' a b h
            rw [scanP.eq_2] at h ⊢
            by_cases he : s.length ≤ S s i
            · rw [if_pos he]
            · rw [if_neg he] at h ⊢
              cases hw : wordP (s.drop (S s i)) with
              | inr e =>
                rw [hw] at h
                have h6 := wordP_err hw
                have : e = 0 := congrArg T_api_Fault.f_Code h
                omega
              | inl tn =>
                rw [hw] at h
                exact ihd _ _ _ _ _ h
        exact acc_free _ _ _ _ _ _ _ (m5 d' p' (by omega))
theorem TokenFirst_pure : ∀ (x0 : List UInt8), bulkS x0 ≤ 1048576 → okS x0 → ∃ k, dictumlaw02_TokenFirst.f k x0 = some true := by
  intro x0 hb _
  have hl : x0.length ≤ 1048576 := by simp only [bulkS] at hb; omega
  obtain ⟨k0, hk0⟩ := alive_ev
  refine ⟨max k0 10000020, ?_⟩
  have hh := hk0 (max k0 10000020) (by omega)
  have hk : 10000020 ≤ max k0 10000020 := Nat.le_max_right _ _
  generalize max k0 10000020 = k at hh hk
  unfold dictumlaw02_TokenFirst.f
  rw [scan_f k x0 (by omega) (by omega), bind_some']
  rcases scanP_form x0 (x0.length + 1) 0 (1, 1) [] (by omega) (Nat.zero_le _) with ⟨m, hm, e⟩ | ⟨e, q, h3, e4⟩
  · have e1 : scanS x0 = (m, F0) := e
    rw [e1]
    simp only
    rw [show T_api_Fault.eqb F0 (⟨(0 : Int), (⟨(0 : Int), (0 : Int), (0 : Int)⟩ : T_api_Spot)⟩ : T_api_Fault) = true from fault_refl _, cond_true, hh]
    rfl
  · have e1 : scanS x0 = ([], ⟨e, q⟩) := e4
    obtain ⟨m, m1, m2, m3, m4, m5⟩ := scan_first (x0.length + 1) 0 (1, 1) [] [] e q (by omega) (Nat.zero_le _) (al_refl x0 0) (by rw [W_ge (Nat.le_refl 0)]) e4 (by omega)
    have hf : (scanS (x0.take m)).2 = F0 := m5 _ _ (by rw [List.length_take]; omega)
    have hne : T_api_Fault.eqb (⟨e, q⟩ : T_api_Fault) (⟨(0 : Int), (⟨(0 : Int), (0 : Int), (0 : Int)⟩ : T_api_Spot)⟩ : T_api_Fault) = false := by
      rcases h3 with rfl | rfl | rfl <;> rfl
    have hoff : q.f_Off = (m : Int) := by rw [m4]; rfl
    have hcl : clampN x0 (m : Int) = m := by unfold clampN; rw [if_neg (by omega), if_neg (by omega)]; omega
    have hat := At_f k x0 (m : Int) (by omega) (by omega)
    rw [hcl, ← m4] at hat
    rw [e1]
    simp only
    rw [hne, cond_false, hoff, decide_eq_false (by omega : ¬ (m : Int) < 0), cond_false, decide_eq_false (by omega : ¬ (m : Int) > (x0.length : Int)), cond_false, hat, bind_some', show (⟨q.f_Line, q.f_Col, (m : Int)⟩ : T_api_Spot) = q from by rw [← hoff], spot_refl, Bool.not_true, bind_some', cond_false,
      show cut x0 0 (m : Int) = _ from cut_to x0 m2, bind_some', scan_f k _ (by rw [List.length_take]; omega) (by rw [List.length_take]; omega), bind_some', hf, show T_api_Fault.eqb F0 (⟨(0 : Int), (⟨(0 : Int), (0 : Int), (0 : Int)⟩ : T_api_Spot)⟩ : T_api_Fault) = true from fault_refl _, cond_true, hh]
    rfl
end Go.Proofs.YtjhmhdedonibbaaDoor.X
