/- Layer 1, plain: numbers and texts that are taken off bytes, the reference. -/
import Derived.Test.YtaidlahjngmenaaDoorLR
set_option linter.unusedVariables false
set_option linter.unusedSimpArgs false
namespace Go.Proofs.YtaidlahjngmenaaDoor.X
open Go Go.RowKit Go.Proofs.YtaidlahjngmenaaDoor.SX
theorem rnumT_l1 (k : Nat) (L : List UInt8) (hL : L.length ≤ 1000000000) : ∀ (m n i : Nat) (v : UInt64), i + m = 10 → m < n →
    ∃ z, dictumref01_TakeNum.l1 k L n v (i : Int) = some z ∧ (match z with | .inl r_ => some r_ | .inr _ => some ((0 : UInt64), (0 : Int), (11 : Int))) = some (refN (takeN m v i (L.drop i))) := by
  intro m
  induction m with
  | zero =>
    intro n i v hi hn
    obtain ⟨n, rfl⟩ : ∃ f, n = f + 1 := ⟨n - 1, by omega⟩
    rw [dictumref01_TakeNum.l1.eq_2, decide_eq_false (by omega)]
    exact ⟨_, rfl, rfl⟩
  | succ m ih =>
    intro n i v hi hn
    obtain ⟨n, rfl⟩ : ∃ f, n = f + 1 := ⟨n - 1, by omega⟩
    rw [dictumref01_TakeNum.l1.eq_2, decide_eq_true (by omega : (i : Int) < 10)]
    simp only [cond_true]
    by_cases h : i < L.length
    · rw [decide_eq_false (by omega : ¬ (i : Int) ≥ (L.length : Int)), ix_nat, List.getElem?_eq_getElem h, drop_cons h]
      simp only [cond_false, bind_some', ext_eq0, show (1 : UInt64) = UInt64.ofNat 1 from rfl, show (128 : UInt64) = UInt64.ofNat 128 from rfl, ext_lt _ 128 (by decide), ext_gt _ 1 (by decide), pos_int]
      rw [show (9 : Int) = ((9 : Nat) : Int) from rfl, bne_nat, decand, decand]
      simp only [bind_some', ext127]
      rw [seven i (by omega), seven64 i (by omega)]
      unfold takeN
      by_cases h9 : i = 9 ∧ 1 < L[i].toNat
      · rw [decide_eq_true h9, if_pos h9]; exact ⟨_, rfl, rfl⟩
      rw [decide_eq_false h9, if_neg h9]
      simp only [cond_false]
      by_cases h1 : L[i].toNat < 128
      · rw [decide_eq_true h1, if_pos h1]
        simp only [cond_true]
        by_cases h2 : L[i].toNat = 0 ∧ 0 < i
        · rw [decide_eq_true h2, if_pos h2]; exact ⟨_, rfl, rfl⟩
        · rw [decide_eq_false h2, if_neg h2, w64 (by omega) (by omega)]; exact ⟨_, rfl, rfl⟩
      · rw [decide_eq_false h1, if_neg h1, w64 (by omega) (by omega), show (i : Int) + 1 = ((i + 1 : Nat) : Int) from by omega]
        exact ih n (i + 1) _ (by omega) (by omega)
    · rw [decide_eq_true (by omega : (i : Int) ≥ (L.length : Int)), List.drop_eq_nil_of_le (by omega)]
      exact ⟨_, rfl, rfl⟩
theorem rnumT_f (L : List UInt8) (hL : L.length ≤ 1000000000) (k : Nat) (hk : 12 ≤ k) : dictumref01_TakeNum.f k L = some (refN (numT L)) := by
  unfold dictumref01_TakeNum.f
  obtain ⟨z, e, hz⟩ := rnumT_l1 k L hL 10 k 0 0 rfl (by omega)
  rw [show ((0 : Nat) : Int) = 0 from rfl] at e
  rw [e]
  exact hz
theorem rtextT_f (L : List UInt8) (hL : L.length ≤ 1000000000) (k : Nat) (hk : L.length + 12 ≤ k) : dictumref01_TakeText.f k L = some (refT (textT L)) := by
  unfold dictumref01_TakeText.f textT
  rw [rnumT_f L hL k (by omega)]
  simp only [bind_some']
  cases hn : numT L with
  | short => rfl
  | long => rfl
  | ok v j =>
    have hj := takeN_ok _ _ _ _ _ _ hn
    have hv := v.toNat_lt
    rw [show refN (TN.ok v j) = (v, (j : Int), 0) from rfl]
    dsimp only
    rw [show ((0 : Int) != 0) = false from rfl, cond_false, gt64]
    cases h1 : decide (65536 < v.toNat) with
    | true => rw [if_pos (of_decide_eq_true h1)]; rfl
    | false =>
    have h1' := of_decide_eq_false h1
    rw [if_neg h1', cond_false, w64 (n := (L.length : Int) - (j : Int)) (by omega) (by omega), show (L.length : Int) - (j : Int) = ((L.length - j : Nat) : Int) from by omega, lt64 _ (by omega)]
    cases h2 : decide (L.length - j < v.toNat) with
    | true => rw [if_pos (of_decide_eq_true h2)]; rfl
    | false =>
    have h2' := of_decide_eq_false h2
    rw [if_neg h2', cond_false, w64 (n := (v.toNat : Int)) (by omega) (by omega), w64 (n := (j : Int) + (v.toNat : Int)) (by omega) (by omega), show (j : Int) + (v.toNat : Int) = ((j + v.toNat : Nat) : Int) from by omega]
    rw [cut_nat L (by omega) (by omega), List.drop_take, show j + v.toNat - j = v.toNat from by omega, bind_some', istext_f _ (by simp; omega) k (by simp; omega), bind_some']
    cases hd : Lib.validD ((L.drop j).take v.toNat) with
    | false => rfl
    | true => rfl
end Go.Proofs.YtaidlahjngmenaaDoor.X
