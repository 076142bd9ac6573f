/- Layer 2, plain: one token, by the document. -/
import Derived.Test.YtjhmhdedonibbaaDoorTG
import Derived.Test.YtjhmhdedonibbaaDoorTRc
import Derived.Test.YtjhmhdedonibbaaDoorTEr
set_option linter.unusedVariables false
set_option linter.unusedSimpArgs false
namespace Go.Proofs.YtjhmhdedonibbaaDoor.X
open Go Go.RowKit Go.Proofs.YtjhmhdedonibbaaDoor.SX
theorem one_l1 (k : Nat) (s : List UInt8) (hs : s.length ≤ 1000000000) : ∀ (d kk i : Nat), s.length - i ≤ d → d < kk → i ≤ s.length → dictumref02_one.l1 k s kk (i : Int) = some ((i + runN tailB (s.drop i) : Nat) : Int) := by
  intro d
  induction d with
  | zero =>
    intro kk i h1 h2 h3
    obtain ⟨kk, rfl⟩ : ∃ m, kk = m + 1 := ⟨kk - 1, by omega⟩
    rw [dictumref02_one.l1.eq_2, decide_eq_false (by omega), List.drop_eq_nil_of_le (by omega)]
    rfl
  | succ d ih =>
    intro kk i h1 h2 h3
    obtain ⟨kk, rfl⟩ : ∃ m, kk = m + 1 := ⟨kk - 1, by omega⟩
    by_cases h : i < s.length
    · rw [dictumref02_one.l1.eq_2, decide_eq_true (by omega : (i : Int) < (s.length : Int)), cond_true, ix_getD h, bind_some', (rcls_c _).2.2, bind_some', bind_some', drop_cons h, getD_eq h]
      cases hc : tailB (s.getD i 0) with
      | true =>
        rw [cond_true, wsucc i (by omega), ih kk (i + 1) (by omega) (by omega) (by omega), runN_cons_t hc]
        congr 1
        omega
      | false => rw [cond_false, runN_cons_f hc]; rfl
    · rw [dictumref02_one.l1.eq_2, decide_eq_false (by omega), List.drop_eq_nil_of_le (by omega)]
      rfl
/-- The document's sum: once too great it stays. -/
def satV : Nat → List UInt8 → Nat
  | acc, [] => acc
  | acc, c :: t => bif digB c then satV (if acc ≤ 999999999 then acc * 10 + (c.toNat - 48) else acc) t else acc
theorem satV_big : ∀ (l : List UInt8) (acc : Nat), 999999999 < acc → satV acc l = acc
  | [], acc, h => rfl
  | c :: t, acc, h => by
    rw [satV.eq_2]
    cases digB c with
    | true => rw [cond_true, if_neg (by omega)]; exact satV_big t acc h
    | false => rfl
theorem satV_spec : ∀ (l : List UInt8) (acc : Nat), (999999999 < satV acc l ↔ 999999999 < numV acc l) ∧ (numV acc l ≤ 999999999 → satV acc l = numV acc l)
  | [], acc => ⟨Iff.rfl, fun _ => rfl⟩
  | c :: t, acc => by
    cases hc : digB c with
    | false => rw [satV.eq_2, numV.eq_2, hc]; exact ⟨Iff.rfl, fun _ => rfl⟩
    | true =>
      rw [satV.eq_2, numV.eq_2, hc, cond_true, cond_true]
      by_cases h : acc ≤ 999999999
      · rw [if_pos h]; exact satV_spec t _
      · rw [if_neg h]
        have h1 := numV_ge t (acc * 10 + (c.toNat - 48))
        have h2 := satV_big t acc (by omega)
        rw [h2]
        exact ⟨⟨fun _ => by omega, fun _ => by omega⟩, fun _ => by omega⟩
theorem rnum_l1 (k : Nat) (s : List UInt8) (hs : s.length ≤ 1000000000) : ∀ (d kk i acc : Nat), s.length - i ≤ d → d < kk → i ≤ s.length → acc ≤ 99999999999 → dictumref02_number.l1 k s kk (acc : Int) (i : Int) = some ((satV acc (s.drop i) : Int), ((i + runN digB (s.drop i) : Nat) : Int)) := by
  intro d
  induction d with
  | zero =>
    intro kk i acc h1 h2 h3 h4
    obtain ⟨kk, rfl⟩ : ∃ m, kk = m + 1 := ⟨kk - 1, by omega⟩
    rw [dictumref02_number.l1.eq_2, decide_eq_false (by omega), List.drop_eq_nil_of_le (by omega)]
    rfl
  | succ d ih =>
    intro kk i acc h1 h2 h3 h4
    obtain ⟨kk, rfl⟩ : ∃ m, kk = m + 1 := ⟨kk - 1, by omega⟩
    by_cases h : i < s.length
    · rw [dictumref02_number.l1.eq_2, decide_eq_true (by omega : (i : Int) < (s.length : Int)), cond_true, ix_getD h, bind_some', bind_some', (rcls_c _).2.1, bind_some', bind_some', drop_cons h, getD_eq h]
      cases hc : digB (s.getD i 0) with
      | false => rw [cond_false, runN_cons_f hc, satV.eq_2, hc]; rfl
      | true =>
        have hd := digB_iff.1 hc
        have hsub : (s.getD i 0 - 48).toNat = (s.getD i 0).toNat - 48 := by
          rw [UInt8.toNat_sub_of_le _ _ (by rw [UInt8.le_iff_toNat_le]; exact hd.1)]
          rfl
        rw [cond_true, runN_cons_t hc, satV.eq_2, hc, cond_true, wsucc i (by omega), hsub]
        by_cases ha : acc ≤ 999999999
        · rw [decide_eq_true (by omega : (acc : Int) ≤ 999999999), cond_true, bind_some', if_pos ha]
          rw [show wrap64 (wrap64 (10 * (acc : Int)) + (((s.getD i 0).toNat - 48 : Nat) : Int)) = ((acc * 10 + ((s.getD i 0).toNat - 48) : Nat) : Int) from by rw [w64 (n := 10 * (acc : Int)) (by omega) (by omega), w64 (by omega) (by omega)]; omega]
          rw [ih kk (i + 1) _ (by omega) (by omega) (by omega) (by omega)]
          rw [show i + 1 + runN digB (s.drop (i + 1)) = i + (runN digB (s.drop (i + 1)) + 1) from by omega]
        · rw [decide_eq_false (by omega : ¬ (acc : Int) ≤ 999999999), cond_false, bind_some', if_neg ha]
          rw [ih kk (i + 1) acc (by omega) (by omega) (by omega) h4]
          rw [show i + 1 + runN digB (s.drop (i + 1)) = i + (runN digB (s.drop (i + 1)) + 1) from by omega]
    · rw [dictumref02_number.l1.eq_2, decide_eq_false (by omega), List.drop_eq_nil_of_le (by omega)]
      rfl
theorem rnumber_f (k : Nat) (s : List UInt8) (i : Nat) (hi : i < s.length) (hs : s.length ≤ 1000000000) (hk : s.length < k) : dictumref02_number.f k s (i : Int) =
    some (bif numBad (s.drop i) then (tk 0 [] 0, ((i + runN digB (s.drop i) : Nat) : Int), 21) else (tk 2 [] (numV 0 (s.drop i) : Int), ((i + runN digB (s.drop i) : Nat) : Int), 0)) := by
  unfold dictumref02_number.f
  have h := rnum_l1 k s hs (s.length - i) k i 0 (Nat.le_refl _) (by omega) (by omega) (by omega)
  have hrl := runN_le digB (s.drop i)
  rw [List.length_drop] at hrl
  obtain ⟨hs1, hs2⟩ := satV_spec (s.drop i) 0
  rw [show dictumref02_number.l1 k s k 0 (i : Int) = _ from h, bind_some']
  simp only
  rw [ix_getD hi, bind_some', wsucc i (by omega)]
  have ht : ((bif (decide (((i + runN digB (s.drop i) : Nat) : Int) < (s.length : Int))) then (ix s ((i + runN digB (s.drop i) : Nat) : Int)).bind fun x162 => (dictumref02_within.f x162).bind fun z163 => some z163 else some false) : Option Bool) = some (decide (runN digB (s.drop i) < (s.drop i).length) && tailB ((s.drop i).getD (runN digB (s.drop i)) 0)) := by
    rw [List.length_drop, getD_drop0]
    by_cases h : i + runN digB (s.drop i) < s.length
    · rw [decide_eq_true (by omega : ((i + runN digB (s.drop i) : Nat) : Int) < (s.length : Int)), decide_eq_true (by omega : runN digB (s.drop i) < s.length - i), cond_true, ix_getD h, bind_some', (rcls_c _).2.2]; rfl
    · rw [decide_eq_false (by omega : ¬ ((i + runN digB (s.drop i) : Nat) : Int) < (s.length : Int)), decide_eq_false (by omega : ¬ runN digB (s.drop i) < s.length - i)]; rfl
  rw [ht]
  have hM : decide ((satV 0 (s.drop i) : Int) > 999999999) = decide (999999999 < numV 0 (s.drop i)) := by
    rw [decide_eq_decide]
    omega
  have h1 : decide (((i + runN digB (s.drop i) : Nat) : Int) > ((i + 1 : Nat) : Int)) = decide (1 < runN digB (s.drop i)) := by
    rw [decide_eq_decide]
    omega
  rw [hM, h1]
  have hB : ((bif (s.getD i 0 == (48 : UInt8)) then (bif decide (1 < runN digB (s.drop i)) then some true else (bif decide (999999999 < numV 0 (s.drop i)) then some true else some (decide (runN digB (s.drop i) < (s.drop i).length) && tailB ((s.drop i).getD (runN digB (s.drop i)) 0)))) else (bif decide (999999999 < numV 0 (s.drop i)) then some true else some (decide (runN digB (s.drop i) < (s.drop i).length) && tailB ((s.drop i).getD (runN digB (s.drop i)) 0)))) : Option Bool) = some (numBad (s.drop i)) := by
    unfold numBad
    rw [getD_drop0 s i 0, Nat.add_zero]
    cases s.getD i 0 == 48 <;> cases decide (1 < runN digB (s.drop i)) <;> cases decide (999999999 < numV 0 (s.drop i)) <;> rfl
  rw [hB, bind_some']
  cases hb : numBad (s.drop i) with
  | true => rfl
  | false =>
    have hv : numV 0 (s.drop i) ≤ 999999999 := by
      apply Classical.byContradiction
      intro hc
      unfold numBad at hb
      rw [decide_eq_true (by omega : 999999999 < numV 0 (s.drop i))] at hb
      simp at hb
    rw [cond_false, cond_false, hs2 hv]
    rfl
theorem one_end (k : Nat) (s : List UInt8) (i : Nat) (h : s.length ≤ i) : dictumref02_one.f k s (i : Int) = some (tk 0 [] 0, (i : Int), 0) := by
  unfold dictumref02_one.f
  rw [decide_eq_true (by omega : (i : Int) ≥ (s.length : Int))]
  rfl
theorem one_f (k : Nat) (s : List UInt8) (i : Nat) (hi : i < s.length) (hs : s.length ≤ 1000000000) (hk : s.length + 30 ≤ k) : ∃ z, dictumref02_one.f k s (i : Int) = some z ∧ (match wordP (s.drop i) with | .inl (t, n) => z = (t, ((i + n : Nat) : Int), 0) | .inr e => z.2.2 = e) := by
  have hx : ix s (i : Int) = some (s.getD i 0) := ix_getD hi
  have hg : (s.drop i).getD 0 0 = s.getD i 0 := by rw [getD_drop0, Nat.add_zero]
  unfold dictumref02_one.f wordP
  rw [decide_eq_false (by omega : ¬ (i : Int) ≥ (s.length : Int)), cond_false, hx, bind_some', (rcls_c _).1, bind_some', hg]
  cases hL : letB (s.getD i 0) with
  | true =>
    have hrl := runN_le tailB (s.drop i)
    rw [List.length_drop] at hrl
    rw [cond_true, cond_true, one_l1 k s hs (s.length - i) k i (Nat.le_refl _) (by omega) (by omega), bind_some', w64 (n := ((i + runN tailB (s.drop i) : Nat) : Int) - (i : Int)) (by omega) (by omega)]
    by_cases h : 31 < runN tailB (s.drop i)
    · rw [decide_eq_true (by omega : ((i + runN tailB (s.drop i) : Nat) : Int) - (i : Int) > 31), if_pos h]
      exact ⟨_, rfl, rfl⟩
    · rw [decide_eq_false (by omega : ¬ ((i + runN tailB (s.drop i) : Nat) : Int) - (i : Int) > 31), if_neg h, cond_false, cut_nat s (by omega) (by omega), bind_some', List.drop_take, Nat.add_sub_cancel_left]
      exact ⟨_, rfl, rfl⟩
  | false =>
    rw [cond_false, cond_false, bind_some', (rcls_c _).2.1, bind_some']
    cases hD : digB (s.getD i 0) with
    | true =>
      rw [cond_true, cond_true, rnumber_f k s i hi hs (by omega), bind_some']
      cases numBad (s.drop i) with
      | true => exact ⟨_, rfl, rfl⟩
      | false => exact ⟨_, rfl, rfl⟩
    | false =>
      rw [cond_false, cond_false]
      have h2 := one_l2 k s i (by omega) hs (SPECS.map SPECr) (by decide) (by decide) 9 k 0 (by decide) (by omega) (by decide)
      have h3 := one_l3 k s i (by omega) hs SIGNS (by decide) (by decide) 20 k 0 (by decide) (by omega) (by decide)
      rw [specs_r, bind_some', show dictumref02_one.l2 k s (i : Int) (SPECS.map SPECr) k 0 = _ from h2, bind_some', List.drop_zero, find_r]
      rw [show SPECS.find? (fun e => e.1.isPrefixOf (s.drop i)) = specOf (s.drop i) from rfl]
      cases specOf (s.drop i) with
      | some e => exact ⟨_, rfl, rfl⟩
      | none =>
        simp only
        rw [show dictumref02_Signs.f = some SIGNS from rfl, bind_some', show dictumref02_one.l3 k s (i : Int) SIGNS k 0 = _ from h3, bind_some', List.drop_zero, show SIGNS.find? (fun e => e.isPrefixOf (s.drop i)) = signOf (s.drop i) from rfl]
        cases signOf (s.drop i) with
        | some x => exact ⟨_, rfl, rfl⟩
        | none => exact ⟨_, rfl, rfl⟩
end Go.Proofs.YtjhmhdedonibbaaDoor.X
