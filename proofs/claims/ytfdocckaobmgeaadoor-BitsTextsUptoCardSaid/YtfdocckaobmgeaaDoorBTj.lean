/- Layer 5, plain: strings.Join with one byte between. -/
import Derived.Test.YtfdocckaobmgeaaDoorXAD
set_option linter.unusedVariables false
set_option linter.unusedSimpArgs false
namespace Go.Proofs.YtfdocckaobmgeaaDoor.X
open Go Go.RowKit Go.Proofs.YtfdocckaobmgeaaDoor.SX
/-- With a byte between. -/
def glue (c : UInt8) : List (List UInt8) → List UInt8
  | [] => []
  | x :: r => x ++ r.flatMap (fun y => c :: y)
def total (ws : List (List UInt8)) : Nat := (ws.map (·.length)).sum
theorem total_drop (ws : List (List UInt8)) (i : Nat) (h : i < ws.length) : total (ws.drop i) = ws[i].length + total (ws.drop (i + 1)) := by rw [drop_cons h]; rfl
theorem sj_l1 (k : Nat) (ws : List (List UInt8)) (hl : ws.length ≤ 10000000) : ∀ (d kk i : Nat) (acc : Nat), ws.length - i ≤ d → d < kk → i ≤ ws.length → acc + total (ws.drop i) ≤ 100000000000 → strings_Join.l1 k ws kk (acc : Int) (i : Int) = some ((acc + total (ws.drop i) : Nat) : Int) := by
  intro d
  induction d with
  | zero =>
    intro kk i acc h1 h2 h3 h4
    obtain ⟨kk, rfl⟩ : ∃ m, kk = m + 1 := ⟨kk - 1, by omega⟩
    rw [strings_Join.l1.eq_2, decide_eq_false (by omega), List.drop_eq_nil_of_le (by omega)]
    rfl
  | succ d ih =>
    intro kk i acc h1 h2 h3 h4
    obtain ⟨kk, rfl⟩ : ∃ m, kk = m + 1 := ⟨kk - 1, by omega⟩
    by_cases h : i < ws.length
    · rw [total_drop ws i h] at h4 ⊢
      rw [strings_Join.l1.eq_2, decide_eq_true (by omega : (i : Int) < (ws.length : Int)), cond_true, ix_nat, List.getElem?_eq_getElem h, bind_some', w64 (n := 9223372036854775807 - (acc : Int)) (by omega) (by omega), decide_eq_false (by omega), cond_false, w64 (n := (acc : Int) + (ws[i].length : Int)) (by omega) (by omega), wsucc i (by omega), show (acc : Int) + (ws[i].length : Int) = ((acc + ws[i].length : Nat) : Int) from by omega]
      rw [ih kk (i + 1) (acc + ws[i].length) (by omega) (by omega) (by omega) (by omega), Nat.add_assoc]
    · rw [strings_Join.l1.eq_2, decide_eq_false (by omega), List.drop_eq_nil_of_le (by omega)]
      rfl
theorem sj_l2 (c : UInt8) (k : Nat) (ws : List (List UInt8)) (hl : ws.length ≤ 10000000) : ∀ (d kk i : Nat) (acc : List UInt8), ws.length - i ≤ d → d < kk → i ≤ ws.length → acc.length + total (ws.drop i) + (ws.length - i) ≤ 100000000000 → strings_Join.l2 k [c] ws kk (i : Int) acc = some (acc ++ (ws.drop i).flatMap (fun y => c :: y)) := by
  intro d
  induction d with
  | zero =>
    intro kk i acc h1 h2 h3 h4
    obtain ⟨kk, rfl⟩ : ∃ m, kk = m + 1 := ⟨kk - 1, by omega⟩
    rw [strings_Join.l2.eq_2, decide_eq_false (by omega), List.drop_eq_nil_of_le (by omega)]
    simp
  | succ d ih =>
    intro kk i acc h1 h2 h3 h4
    obtain ⟨kk, rfl⟩ : ∃ m, kk = m + 1 := ⟨kk - 1, by omega⟩
    by_cases h : i < ws.length
    · rw [total_drop ws i h] at h4
      unfold strings_Join.l2 Builder_WriteString.f
      rw [decide_eq_true (by omega : (i : Int) < (ws.length : Int)), cond_true, ix_nat, List.getElem?_eq_getElem h, bind_some', chk_of (decide_eq_true (by rw [List.length_singleton]; omega)), bind_some', bind_some', chk_of (decide_eq_true (by rw [List.length_append, List.length_singleton]; omega)), bind_some', bind_some', wsucc i (by omega)]
      simp only
      rw [ih kk (i + 1) _ (by omega) (by omega) (by omega) (by rw [List.length_append, List.length_append, List.length_singleton]; omega), drop_cons h, List.flatMap_cons, List.append_assoc, List.append_assoc]
      rfl
    · rw [strings_Join.l2.eq_2, decide_eq_false (by omega), List.drop_eq_nil_of_le (by omega)]
      simp
theorem tdiv_big (m : Nat) (h1 : 1 ≤ m) (h2 : m ≤ 10000000) : 2 ≤ (9223372036854775807 : Int).tdiv (m : Int) ∧ (9223372036854775807 : Int).tdiv (m : Int) ≤ 9223372036854775807 := by
  rw [Int.tdiv_eq_ediv_of_nonneg (by decide)]
  constructor
  · exact (Int.le_ediv_iff_mul_le (by omega)).2 (by omega)
  · exact Int.ediv_le_self _ (by decide)
theorem sj_f (c : UInt8) (k : Nat) (ws : List (List UInt8)) (hl : ws.length ≤ 10000000) (hk : ws.length < k) (ht : total ws ≤ 10000000000) : strings_Join.f k ws [c] = some (glue c ws) := by
  unfold strings_Join.f
  match ws, hl, hk, ht with
  | [], _, _, _ => rfl
  | [x], _, _, _ => 
    show some x = some (x ++ [])
    rw [List.append_nil]
  | x :: y :: r, hl, hk, ht =>
    have htt : total (x :: y :: r) = x.length + total (y :: r) := rfl
    have hln : ((x :: y :: r).length : Int) = ((r.length + 2 : Nat) : Int) := rfl
    simp only [List.length_cons] at hl hk
    obtain ⟨q1, q2⟩ := tdiv_big (r.length + 1) (by omega) (by omega)
    have hsub : wrap64 (((r.length + 2 : Nat) : Int) - 1) = ((r.length + 1 : Nat) : Int) := by rw [w64 (by omega) (by omega)]; omega
    rw [hln, show (((r.length + 2 : Nat) : Int) == 0) = false from by rw [← Bool.not_eq_true, beq_iff_eq]; omega, cond_false, show (((r.length + 2 : Nat) : Int) == 1) = false from by rw [← Bool.not_eq_true, beq_iff_eq]; omega, cond_false, hsub]
    clear hsub
    rw [show decide ((([c] : List UInt8).length : Int) > 0) = true from rfl, cond_true, show (((r.length + 1 : Nat) : Int) == 0) = false from by rw [← Bool.not_eq_true, beq_iff_eq]; omega, show chk (!false) = some () from rfl, bind_some', w64 (n := (9223372036854775807 : Int).tdiv ((r.length + 1 : Nat) : Int)) (by omega) q2]
    rw [show decide ((([c] : List UInt8).length : Int) ≥ (9223372036854775807 : Int).tdiv ((r.length + 1 : Nat) : Int)) = false from by rw [decide_eq_false_iff_not]; show ¬ (1 : Int) ≥ _; omega, cond_false, bind_some']
    rw [show wrap64 (0 + wrap64 ((([c] : List UInt8).length : Int) * ((r.length + 1 : Nat) : Int))) = ((r.length + 1 : Nat) : Int) from by
      show wrap64 (0 + wrap64 ((1 : Int) * ((r.length + 1 : Nat) : Int))) = _
      rw [Int.one_mul, Int.zero_add, w64 (n := ((r.length + 1 : Nat) : Int)) (by omega) (by omega), w64 (by omega) (by omega)]]
    have h1 := sj_l1 k (x :: y :: r) (by simp only [List.length_cons]; omega) (r.length + 2) k 0 (r.length + 1) (by simp only [List.length_cons]; omega) (by omega) (Nat.zero_le _) (by rw [List.drop_zero]; omega)
    rw [show strings_Join.l1 k (x :: y :: r) k ((r.length + 1 : Nat) : Int) 0 = _ from h1, bind_some', List.drop_zero]
    unfold Builder_Grow.f Builder_WriteString.f Builder_String.f
    rw [decide_eq_true (by omega), decide_eq_true (by omega), show chk (true && true) = some () from rfl, bind_some', bind_some']
    show (some x).bind _ = _
    rw [bind_some', chk_of (decide_eq_true (by rw [List.length_nil]; omega)), bind_some', bind_some']
    have hcut : cut (x :: y :: r) 1 ((r.length + 2 : Nat) : Int) = some (y :: r) := cut_from (x :: y :: r) (a := 1) (by simp)
    rw [hcut, bind_some', List.nil_append]
    have hyr : total (y :: r) = total (y :: r) := rfl
    have h2 := sj_l2 c k (y :: r) (by simp only [List.length_cons]; omega) (r.length + 1) k 0 x (by simp only [List.length_cons]; omega) (by omega) (Nat.zero_le _) (by rw [List.drop_zero]; simp only [List.length_cons]; omega)
    rw [show strings_Join.l2 k [c] (y :: r) k 0 x = _ from h2, bind_some', List.drop_zero]
    have hfl : ∀ v : List (List UInt8), (v.flatMap fun y => c :: y).length = total v + v.length := by
      intro v
      induction v with
      | nil => rfl
      | cons a u ih =>
        rw [List.flatMap_cons, List.length_append, ih]
        show a.length + 1 + (total u + u.length) = a.length + total u + (u.length + 1)
        omega
    rw [chk_of (decide_eq_true (by rw [List.length_append, hfl]; simp only [List.length_cons]; omega)), bind_some', bind_some']
    rfl
end Go.Proofs.YtfdocckaobmgeaaDoor.X
