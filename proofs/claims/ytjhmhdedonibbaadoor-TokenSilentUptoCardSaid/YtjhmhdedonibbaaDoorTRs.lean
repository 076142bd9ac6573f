/- Layer 2, plain: the law of blanks and comments. -/
import Derived.Test.YtjhmhdedonibbaaDoorTR
import Derived.Test.YtjhmhdedonibbaaDoorTAl
set_option linter.unusedVariables false
set_option linter.unusedSimpArgs false
namespace Go.Proofs.YtjhmhdedonibbaaDoor.X
open Go Go.RowKit Go.Proofs.YtjhmhdedonibbaaDoor.SX
open Go.Lib (itoa decDigits)
def GAPS : List (List UInt8) := [[32], [10], [32, 35, 32, 45, 62, 32, 59, 10], [9, 13, 32], [35, 10, 35, 255, 10]]
theorem gaps_ok : ∀ g ∈ GAPS, Skips g ∧ g.length ≤ 8 ∧ ∀ r, gapped (g ++ r) := by
  intro g hg
  have a1 : Skips [32] := skips_blank rfl
  have a2 : Skips [10] := skips_blank rfl
  have a3 : Skips [9] := skips_blank rfl
  have a4 : Skips [13] := skips_blank rfl
  have c1 : Skips (35 :: ([32, 45, 62, 32, 59] ++ [10])) := skips_com (by decide)
  have c2 : Skips (35 :: ([] ++ [10])) := skips_com (by decide)
  have c3 : Skips (35 :: ([255] ++ [10])) := skips_com (by decide)
  unfold GAPS at hg
  simp only [List.mem_cons, List.not_mem_nil, or_false] at hg
  rcases hg with rfl | rfl | rfl | rfl | rfl
  · exact ⟨a1, by decide, fun r => Or.inr ⟨_, _, rfl, rfl⟩⟩
  · exact ⟨a2, by decide, fun r => Or.inr ⟨_, _, rfl, rfl⟩⟩
  · exact ⟨skips_app a1 c1, by decide, fun r => Or.inr ⟨_, _, rfl, rfl⟩⟩
  · exact ⟨skips_app a3 (skips_app a4 a1), by decide, fun r => Or.inr ⟨_, _, rfl, rfl⟩⟩
  · exact ⟨skips_app c2 c3, by decide, fun r => Or.inr ⟨_, _, rfl, rfl⟩⟩
def gapAt (a : List UInt8) (i : Nat) : Nat := if i < a.length then (a.getD i 0).toNat % 5 else 0
theorem gapAt_lt (a : List UInt8) (i : Nat) : gapAt a i < 5 := by unfold gapAt; split <;> omega
theorem gap_get (a : List UInt8) (i : Nat) : ix GAPS (gapAt a i : Int) = some (GAPS.getD (gapAt a i) []) ∧ GAPS.getD (gapAt a i) [] ∈ GAPS := by
  have h := gapAt_lt a i
  generalize gapAt a i = q at h
  have hall : ∀ q : Fin 5, ix GAPS ((q.val : Nat) : Int) = some (GAPS.getD q.val []) ∧ GAPS.getD q.val [] ∈ GAPS := by decide
  exact hall ⟨q, h⟩
/-- The tokens' texts, a gap behind each. -/
def sil (a : List UInt8) : Nat → List T_api_Token → List UInt8
  | _, [] => []
  | i, t :: r => (writeP t).1 ++ (GAPS.getD (gapAt a i) [] ++ sil a (i + 1) r)
def okT2 (t : T_api_Token) : Prop := (writeP t).2 = 0 ∧ t.f_Text.length ≤ 100000000
theorem sil_toks (a : List UInt8) (e : T_api_Token) (he : (writeP e).1 = []) : ∀ (ts : List T_api_Token) (i : Nat) (g : List UInt8), (∀ t ∈ ts, (writeP t).2 = 0 ∧ t.f_Kind ≠ 0) → Skips g → Toks (g ++ sil a i (ts ++ [e])) (ts.map bare)
  | [], i, g, h, hg => by
    show Toks (g ++ ((writeP e).1 ++ (GAPS.getD (gapAt a i) [] ++ []))) []
    rw [he, List.append_nil]
    exact .fin _ (skips_app hg (gaps_ok _ (gap_get a i).2).1)
  | t :: r, i, g, h, hg => by
    obtain ⟨h1, h2⟩ := h t (List.mem_cons_self ..)
    obtain ⟨c, d⟩ := write_word h1 h2
    obtain ⟨g1, g2, g3⟩ := gaps_ok _ (gap_get a i).2
    exact .tok g _ _ _ _ hg c d (g3 _) (sil_toks a e he r (i + 1) _ (fun u hu => h u (List.mem_cons_of_mem _ hu)) g1)
theorem lit_gaps : ([([32] : List UInt8), ([10] : List UInt8), ([32, 35, 32, 45, 62, 32, 59, 10] : List UInt8), ([9, 13, 32] : List UInt8), ([35, 10, 35, 255, 10] : List UInt8)]) = GAPS := rfl
theorem silent_l1 (k : Nat) (a : List UInt8) (z : List T_api_Token × T_api_Fault) (hz : z.1.length ≤ 10000000) (hx : ∀ t ∈ z.1, (writeP t).2 = 0 ∧ t.f_Text.length ≤ 100000000 ∧ t.f_Text.length + 30 ≤ k ∧ (writeP t).1.length ≤ 100000000) : ∀ (d kk i : Nat) (acc : List UInt8), z.1.length - i ≤ d → d < kk → i ≤ z.1.length → acc.length ≤ 200000000 * (i + 1) →
    dictumlaw02_TokenSilent.l1 k a z kk acc (i : Int) = some (.inr (acc ++ sil a i (z.1.drop i))) := by
  intro d
  have stop : ∀ (kk i : Nat) (acc : List UInt8), z.1.length ≤ i → dictumlaw02_TokenSilent.l1 k a z (kk + 1) acc (i : Int) = some (.inr (acc ++ sil a i (z.1.drop i))) := by
    intro kk i acc h
    rw [dictumlaw02_TokenSilent.l1.eq_2, decide_eq_false (by omega), List.drop_eq_nil_of_le h]
    show some (Sum.inr acc) = some (Sum.inr (acc ++ []))
    rw [List.append_nil]
  induction d with
  | zero =>
    intro kk i acc h1 h2 h3 h4
    obtain ⟨kk, rfl⟩ : ∃ m, kk = m + 1 := ⟨kk - 1, by omega⟩
    exact stop kk i acc (by omega)
  | succ d ih =>
    intro kk i acc h1 h2 h3 h4
    obtain ⟨kk, rfl⟩ : ∃ m, kk = m + 1 := ⟨kk - 1, by omega⟩
    by_cases h : i < z.1.length
    · obtain ⟨t1, t2, t3, t4⟩ := hx z.1[i] (List.getElem_mem h)
      obtain ⟨g1, g2⟩ := gap_get a i
      have g3 := (gaps_ok _ g2).2.1
      rw [dictumlaw02_TokenSilent.l1.eq_2, decide_eq_true (by omega : (i : Int) < (z.1.length : Int)), cond_true, ix_nat, List.getElem?_eq_getElem h, bind_some', write_f k z.1[i] (by omega) t3, bind_some']
      unfold dictumlaw02_num.f
      rw [bind_some', show ((writeP z.1[i]).2 != 0) = false from by rw [t1]; rfl, cond_false, lit_gaps]
      have hn : ((bif (decide ((i : Int) < (a.length : Int))) then (ix a (i : Int)).bind fun x191 => (chk (!((GAPS.length : Int) == 0))).bind fun _ => some ((x191.toNat : Int).tmod (GAPS.length : Int)) else some 0) : Option Int) = some (gapAt a i : Int) := by
        unfold gapAt
        by_cases hi : i < a.length
        · rw [decide_eq_true (by omega : (i : Int) < (a.length : Int)), cond_true, ix_getD hi, bind_some', if_pos hi, show chk (!((GAPS.length : Int) == 0)) = some () from rfl, bind_some']
          show some (((a.getD i 0).toNat : Int).tmod ((5 : Nat) : Int)) = _
          rw [Int.tmod_eq_emod_of_nonneg (Int.natCast_nonneg _)]
          congr 1
        · rw [decide_eq_false (by omega : ¬ (i : Int) < (a.length : Int)), if_neg hi]; rfl
      rw [hn, bind_some', chk_of (decide_eq_true (by omega)), bind_some', g1, bind_some', chk_of (decide_eq_true (by rw [List.length_append]; omega)), bind_some', wsucc i (by omega),
        ih kk (i + 1) _ (by omega) (by omega) (by omega) (by rw [List.length_append, List.length_append]; omega), drop_cons h, List.append_assoc, List.append_assoc]
      rfl
    · exact stop kk i acc (by omega)
theorem scan_word_len (s : List UInt8) : ∀ (d i : Nat) (p : Int × Int) (acc out : List T_api_Token), s.length - i < d → i ≤ s.length → scanP s d i p acc = (out, F0) → (∀ t ∈ acc, t.f_Text.length ≤ 31) → ∀ t ∈ out, t.f_Text.length ≤ 31 := by
  intro d
  induction d with
  | zero => intro i p acc out h; omega
  | succ d ih =>
    intro i p acc out h1 h2 h ha
    obtain ⟨g1, g2⟩ := S_ge s i h2
    rw [scanP.eq_2] at h
    by_cases he : s.length ≤ S s i
    · rw [if_pos he] at h
      injection h with h _
      intro t ht
      rw [← h] at ht
      rcases List.mem_append.1 ht with ht | ht
      · exact ha t ht
      · rw [List.mem_singleton.1 ht]
        exact Nat.zero_le _
    · rw [if_neg he] at h
      cases hw : wordP (s.drop (S s i)) with
      | inr e =>
        rw [hw] at h
        injection h with h _
        intro t ht
        rw [← h] at ht
        cases ht
      | inl tn =>
        obtain ⟨t, n⟩ := tn
        rw [hw] at h
        obtain ⟨n1, n2, n3, n4, n5⟩ := wordP_ok (by omega) hw
        refine ih _ _ _ _ (by omega) n2 h ?_
        intro u hu
        rcases List.mem_append.1 hu with hu | hu
        · exact ha u hu
        · rw [List.mem_singleton.1 hu]
          show t.f_Text.length ≤ _
          unfold wordP at hw
          have hdl : (s.drop (S s i)).length ≤ s.length := by rw [List.length_drop]; omega
          cases hL : letB ((s.drop (S s i)).getD 0 0) with
          | true =>
            rw [hL, cond_true] at hw
            split at hw
            · cases hw
            · rename_i h31
              injection hw with hw
              injection hw with hw1 hw2
              rw [← hw1]
              show ((s.drop (S s i)).take _).length ≤ _
              rw [List.length_take]
              omega
          | false =>
            rw [hL, cond_false] at hw
            cases hD : digB ((s.drop (S s i)).getD 0 0) with
            | true =>
              rw [hD, cond_true] at hw
              cases hb : numBad (s.drop (S s i)) with
              | true => rw [hb, cond_true] at hw; cases hw
              | false =>
                rw [hb, cond_false] at hw
                injection hw with hw
                injection hw with hw1 hw2
                rw [← hw1]
                exact Nat.zero_le _
            | false =>
              rw [hD, cond_false] at hw
              cases hs : specOf (s.drop (S s i)) with
              | some e =>
                rw [hs] at hw
                injection hw with hw
                injection hw with hw1 hw2
                rw [← hw1]
                have := (spec_chars e (spec_mem hs).1).2.2.2
                show e.2.2.length ≤ _
                omega
              | none =>
                rw [hs] at hw
                cases hg : signOf (s.drop (S s i)) with
                | some x =>
                  rw [hg] at hw
                  injection hw with hw
                  injection hw with hw1 hw2
                  rw [← hw1]
                  have := (sign_chars x (signOf_mem hg).1).2.1
                  show x.length ≤ _
                  omega
                | none => rw [hg] at hw; cases hw
theorem writeP_len2 (t : T_api_Token) : (writeP t).1.length ≤ t.f_Text.length + 20 := by
  unfold writeP
  split
  · exact Nat.zero_le _
  split
  · show t.f_Text.length ≤ _; omega
  split
  · rename_i h
    show (itoa t.f_Int).length ≤ _
    unfold itoa
    rw [if_neg (by omega)]
    have := dd_len 19 t.f_Int.toNat (by
      have e20 : (10 : Nat) ^ (19 + 1) = 100000000000000000000 := by decide
      omega)
    omega
  split
  · show t.f_Text.length ≤ _; omega
  · exact Nat.zero_le _
theorem sil_len (a : List UInt8) : ∀ (l : List T_api_Token) (i : Nat), (∀ t ∈ l, t.f_Text.length ≤ 31) → (sil a i l).length ≤ 60 * l.length
  | [], i, h => Nat.le_refl _
  | t :: r, i, h => by
    have h1 := h t (List.mem_cons_self ..)
    have h2 := writeP_len2 t
    have h3 := (gaps_ok _ (gap_get a i).2).2.1
    have h4 := sil_len a r (i + 1) (fun u hu => h u (List.mem_cons_of_mem _ hu))
    show ((writeP t).1 ++ (GAPS.getD (gapAt a i) [] ++ sil a (i + 1) r)).length ≤ 60 * (r.length + 1)
    rw [List.length_append, List.length_append]
    omega
theorem scanP_len2 (s : List UInt8) : ∀ (d i : Nat) (p : Int × Int) (acc : List T_api_Token), i ≤ s.length → acc.length ≤ i → (scanP s d i p acc).1.length ≤ s.length + 1 := by
  intro d
  induction d with
  | zero => intro i p acc h1 h2; exact Nat.zero_le _
  | succ d ih =>
    intro i p acc h1 h2
    obtain ⟨g1, g2⟩ := S_ge s i h1
    rw [scanP.eq_2]
    by_cases he : s.length ≤ S s i
    · rw [if_pos he]
      simp only [List.length_append, List.length_singleton]
      omega
    · rw [if_neg he]
      cases hw : wordP (s.drop (S s i)) with
      | inr e => exact Nat.zero_le _
      | inl tn =>
        obtain ⟨t, n⟩ := tn
        obtain ⟨n1, n2, n3, n4, n5⟩ := wordP_ok (by omega) hw
        exact ih _ _ _ n2 (by rw [List.length_append, List.length_singleton]; omega)
theorem TokenSilent_pure : ∀ (x0 : List UInt8) (x1 : (List UInt8)), bulkS x0 + (bulkL bulk1) x1 ≤ 1048576 → okS x0 → (okL okT) x1 → ∃ k, dictumlaw02_TokenSilent.f k x0 x1 = some true := by
  intro x0 x1 hb _ _
  have hl : x0.length ≤ 1048576 := by simp only [bulkS] at hb; omega
  obtain ⟨k0, hk0⟩ := alive_ev
  refine ⟨max k0 100000020, ?_⟩
  have hh := hk0 (max k0 100000020) (by omega)
  have hk : 100000020 ≤ max k0 100000020 := Nat.le_max_right _ _
  generalize max k0 100000020 = k at hh hk
  unfold dictumlaw02_TokenSilent.f
  rw [scan_f k x0 (by omega) (by omega), bind_some']
  rcases scanP_form x0 (x0.length + 1) 0 (1, 1) [] (by omega) (Nat.zero_le _) with ⟨m, hm, e⟩ | ⟨e, q, h3, e4⟩
  · have e1 : scanS x0 = (m, F0) := e
    have hml : m.length ≤ x0.length + 1 := by have := scanP_len2 x0 (x0.length + 1) 0 (1, 1) [] (Nat.zero_le _) (Nat.le_refl _); rw [e] at this; exact this
    obtain ⟨ts, q, h1, h2⟩ := scan_struct x0 (x0.length + 1) 0 (1, 1) [] m (by omega) (Nat.zero_le _) e
    rw [List.nil_append] at h1
    have htx := scan_word_len x0 (x0.length + 1) 0 (1, 1) [] m (by omega) (Nat.zero_le _) e (fun t ht => by cases ht)
    have hwr : ∀ t ∈ m, (writeP t).2 = 0 := by
      intro t ht
      rw [h1] at ht
      rcases List.mem_append.1 ht with ht | ht
      · exact (h2 t ht).1
      · rw [List.mem_singleton.1 ht, write_put]; rfl
    have hgo := silent_l1 k x1 (m, F0) (by show m.length ≤ _; omega) (fun t ht => ⟨hwr t ht, by have := htx t ht; omega, by have := htx t ht; omega, by have := htx t ht; have := writeP_len2 t; omega⟩) m.length k 0 [10] (by show m.length - 0 ≤ _; omega) (by omega) (Nat.zero_le _) (by show 1 ≤ _; omega)
    have htk := sil_toks x1 (put (tk 0 [] 0) q) rfl ts 0 [10] h2 (skips_blank rfl)
    rw [← h1] at htk
    have hsl := sil_len x1 m 0 htx
    obtain ⟨m2, hm2, hm3⟩ := scanS_toks htk
    have hb1 : m2.map bare = m.map bare := by
      rw [hm3, h1, List.map_append, map_bare2]
      rfl
    have hl2 : m2.length = m.length := by have := congrArg List.length hb1; rw [List.length_map, List.length_map] at this; exact this
    rw [e1]
    simp only
    rw [show T_api_Fault.eqb F0 (⟨(0 : Int), (⟨(0 : Int), (0 : Int), (0 : Int)⟩ : T_api_Spot)⟩ : T_api_Fault) = true from fault_refl _, Bool.not_true, cond_false, show dictumlaw02_TokenSilent.l1 k x1 (m, F0) k [10] 0 = _ from hgo, bind_some']
    simp only
    rw [List.drop_zero, scan_f k _ (by rw [List.length_append, List.length_singleton]; omega) (by rw [List.length_append, List.length_singleton]; omega), bind_some', hm2]
    simp only
    rw [show T_api_Fault.eqb F0 (⟨(0 : Int), (⟨(0 : Int), (0 : Int), (0 : Int)⟩ : T_api_Spot)⟩ : T_api_Fault) = true from fault_refl _, cond_true, plain_f k m (by omega) (by omega), bind_some', plain_f k m2 (by omega) (by omega), bind_some', hb1, same2_f k _ (by rw [List.length_map]; omega) (by rw [List.length_map]; omega), bind_some', cond_true, hh]
    rfl
  · have e1 : scanS x0 = ([], ⟨e, q⟩) := e4
    rw [e1]
    unfold dictumlaw02_num.f
    rcases h3 with rfl | rfl | rfl
    · show (dictumlaw02_alive.f k).bind _ = _
      rw [hh]; rfl
    · show (dictumlaw02_alive.f k).bind _ = _
      rw [hh]; rfl
    · show (dictumlaw02_alive.f k).bind _ = _
      rw [hh]; rfl
end Go.Proofs.YtjhmhdedonibbaaDoor.X
