/- Layer 1, plain: what comes at any rate; the same bytes. -/
import Derived.Test.YtaidlahjngmenaaDoorXAD
set_option linter.unusedVariables false
set_option linter.unusedSimpArgs false
namespace Go.Proofs.YtaidlahjngmenaaDoor.X
open Go Go.RowKit Go.Proofs.YtaidlahjngmenaaDoor.SX

/-! The same bytes? -/
theorem same_l1 (k : Nat) (a b : List UInt8) (hl : a.length = b.length) (hm : a.length ≤ 9223372036854775806) : ∀ (n i : Nat), i ≤ a.length → a.length - i < n →
    dictumref01_Same.l1 k a b n (i : Int) = some (if a.drop i = b.drop i then .inr () else .inl false) := by
  intro n
  induction n with
  | zero => intro i _ h; omega
  | succ n ih =>
    intro i hi hn
    rw [dictumref01_Same.l1.eq_2]
    by_cases h : i < a.length
    · have h2 : i < b.length := by omega
      rw [decide_eq_true (by omega : (i : Int) < (a.length : Int)), cond_true, ix_nat, ix_nat, List.getElem?_eq_getElem h, List.getElem?_eq_getElem h2]
      simp only [Option.bind_some]
      rw [w64 (by omega) (by omega), show (i : Int) + 1 = ((i + 1 : Nat) : Int) from by omega, ih (i + 1) (by omega) (by omega), drop_cons h, drop_cons h2]
      by_cases he : a[i] = b[i]
      · rw [he]
        simp only [beq_self_eq_true, Bool.not_true, cond_false, List.cons.injEq, true_and]
      · rw [show (!(a[i] == b[i])) = true from by simp [he], cond_true]
        simp only [List.cons.injEq, he, false_and, if_false]
    · have h0 : i = a.length := by omega
      rw [decide_eq_false (by omega), cond_false]
      subst h0
      simp [hl]
theorem same_f (a b : List UInt8) (hm : a.length ≤ 9223372036854775806) (k : Nat) (hk : a.length < k) : dictumref01_Same.f k a b = some (a == b) := by
  unfold dictumref01_Same.f
  by_cases hl : a.length = b.length
  · have h := same_l1 k a b hl hm k 0 (Nat.zero_le _) (by omega)
    rw [show ((a.length : Int) != (b.length : Int)) = false from by simp [hl], cond_false]
    rw [show ((0 : Nat) : Int) = 0 from rfl] at h
    rw [h]
    simp only [List.drop_zero, Option.bind_some]
    by_cases he : a = b
    · simp [he]
    · simp [he]
  · rw [show ((a.length : Int) != (b.length : Int)) = true from by simp; omega, cond_true]
    have : a ≠ b := fun h => hl (by rw [h])
    simp [this]

theorem clone_f (l : List UInt8) (hl : l.length ≤ 100000000) : bytes_Clone.f l = some l := by
  unfold bytes_Clone.f nilc
  rw [chk_of (decide_eq_true (by simp; omega)), bind_some', List.nil_append]
  cases l with
  | nil => rfl
  | cons a t => rfl
set_option maxRecDepth 100000 in
theorem heads_at : dictumlaw01_heads.f 60 = some true := by kernel_rfl
theorem heads_ev : Ev fun k => dictumlaw01_heads.f k = some true := Ev.mono (fun k k' h => dictumlaw01_heads.mono h) heads_at
end Go.Proofs.YtaidlahjngmenaaDoor.X
