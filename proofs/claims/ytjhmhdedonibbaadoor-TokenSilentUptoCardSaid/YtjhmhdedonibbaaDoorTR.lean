/- Layer 2, plain: tokens without their spots; rows that are the same. -/
import Derived.Test.YtjhmhdedonibbaaDoorTQ
set_option linter.unusedVariables false
set_option linter.unusedSimpArgs false
namespace Go.Proofs.YtjhmhdedonibbaaDoor.X
open Go Go.RowKit Go.Proofs.YtjhmhdedonibbaaDoor.SX
theorem plain_l1 (k : Nat) (a : List T_api_Token) (ha : a.length ≤ 1000000000) : ∀ (d kk i : Nat) (acc : List T_api_Token), a.length - i ≤ d → d < kk → i ≤ a.length → acc.length ≤ i →
    dictumlaw02_plain.l1 k a kk acc (i : Int) = some (acc ++ (a.drop i).map bare) := by
  intro d
  induction d with
  | zero =>
    intro kk i acc h1 h2 h3 h4
    obtain ⟨kk, rfl⟩ : ∃ m, kk = m + 1 := ⟨kk - 1, by omega⟩
    rw [dictumlaw02_plain.l1.eq_2, decide_eq_false (by omega), List.drop_eq_nil_of_le (by omega)]
    show some acc = some (acc ++ [])
    rw [List.append_nil]
  | succ d ih =>
    intro kk i acc h1 h2 h3 h4
    obtain ⟨kk, rfl⟩ : ∃ m, kk = m + 1 := ⟨kk - 1, by omega⟩
    by_cases h : i < a.length
    · rw [dictumlaw02_plain.l1.eq_2, decide_eq_true (by omega : (i : Int) < (a.length : Int)), cond_true, ix_nat, List.getElem?_eq_getElem h, bind_some', chk_of (decide_eq_true (by rw [List.length_singleton]; omega)), bind_some', wsucc i (by omega),
        ih kk (i + 1) _ (by omega) (by omega) (by omega) (by rw [List.length_append, List.length_singleton]; omega), drop_cons h, List.map_cons, List.append_assoc]
      rfl
    · rw [dictumlaw02_plain.l1.eq_2, decide_eq_false (by omega), List.drop_eq_nil_of_le (by omega)]
      show some acc = some (acc ++ [])
      rw [List.append_nil]
theorem plain_f (k : Nat) (a : List T_api_Token) (ha : a.length ≤ 1000000000) (hk : a.length < k) : dictumlaw02_plain.f k a = some (a.map bare) := by
  unfold dictumlaw02_plain.f
  have h := plain_l1 k a ha a.length k 0 [] (by omega) hk (Nat.zero_le _) (Nat.le_refl _)
  rw [show dictumlaw02_plain.l1 k a k [] 0 = _ from h, bind_some', List.drop_zero, List.nil_append]
theorem same2_l1 (k : Nat) (a : List T_api_Token) (ha : a.length ≤ 1000000000) : ∀ (d kk i : Nat), a.length - i ≤ d → d < kk → dictumlaw02_same.l1 k a a kk (i : Int) = some (.inr ()) := by
  intro d
  induction d with
  | zero =>
    intro kk i h1 h2
    obtain ⟨kk, rfl⟩ : ∃ m, kk = m + 1 := ⟨kk - 1, by omega⟩
    rw [dictumlaw02_same.l1.eq_2, decide_eq_false (by omega)]
    rfl
  | succ d ih =>
    intro kk i h1 h2
    obtain ⟨kk, rfl⟩ : ∃ m, kk = m + 1 := ⟨kk - 1, by omega⟩
    by_cases h : i < a.length
    · rw [dictumlaw02_same.l1.eq_2, decide_eq_true (by omega : (i : Int) < (a.length : Int)), cond_true, ix_nat, List.getElem?_eq_getElem h, bind_some', bind_some', token_refl, Bool.not_true, cond_false, wsucc i (by omega)]
      exact ih kk (i + 1) (by omega) (by omega)
    · rw [dictumlaw02_same.l1.eq_2, decide_eq_false (by omega)]
      rfl
theorem same2_f (k : Nat) (a : List T_api_Token) (ha : a.length ≤ 1000000000) (hk : a.length < k) : dictumlaw02_same.f k a a = some true := by
  unfold dictumlaw02_same.f
  have h := same2_l1 k a ha a.length k 0 (by omega) hk
  rw [show ((a.length : Int) != (a.length : Int)) = false from by simp, cond_false, show dictumlaw02_same.l1 k a a k 0 = _ from h]
  rfl
theorem map_bare2 (l : List T_api_Token) : (l.map bare).map bare = l.map bare := by rw [List.map_map]; rfl
end Go.Proofs.YtjhmhdedonibbaaDoor.X
