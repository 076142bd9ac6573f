/- Layer 1, plain: sums in parts; sealed, opened. -/
import Derived.Test.YtaidlahjngmenaaDoorLSealR
set_option linter.unusedVariables false
set_option linter.unusedSimpArgs false
namespace Go.Proofs.YtaidlahjngmenaaDoor.X
open Go Go.RowKit Go.Proofs.YtaidlahjngmenaaDoor.SX
theorem sums_l1 (k : Nat) : ∀ (d n i : Nat) (x : List UInt8), x.length ≤ 1000000000 → i + d = x.length → d < n → dictumlaw01_OctetSums.l1 k n x (i : Int) = some () := by
  intro d
  induction d with
  | zero =>
    intro n i x hx hd hn
    obtain ⟨n, rfl⟩ : ∃ m, n = m + 1 := ⟨n - 1, by omega⟩
    rw [dictumlaw01_OctetSums.l1.eq_2, decide_eq_false (by omega)]
    rfl
  | succ d ih =>
    intro n i x hx hd hn
    obtain ⟨n, rfl⟩ : ∃ m, n = m + 1 := ⟨n - 1, by omega⟩
    have h : i < x.length := by omega
    rw [dictumlaw01_OctetSums.l1.eq_2, decide_eq_true (by omega : (i : Int) < (x.length : Int)), cond_true, ix_nat, List.getElem?_eq_getElem h, bind_some', bind_some', wsucc i (by omega)]
    exact ih n (i + 1) _ (by rw [List.length_set]; omega) (by rw [List.length_set]; omega) (by omega)
theorem OctetSums_pure : ∀ (x0 : (List UInt8)) (x1 : Int) (x2 : (List UInt8)), (bulkL bulk1) x0 + bulk1 x1 + (bulkL bulk1) x2 ≤ 1048576 → (okL okT) x0 → (okI .i64) x1 → (okL okT) x2 → ∃ k, dictumlaw01_OctetSums.f k x0 x1 x2 = some true := by
  intro x0 x1 x2 hb _ _ _
  have h0 := len_le_bulk (bulk1 : UInt8 → Nat) (fun _ => Nat.le_refl _) x0
  have h2 := len_le_bulk (bulk1 : UInt8 → Nat) (fun _ => Nat.le_refl _) x2
  simp only [bulkL] at hb
  have l0 : x0.length ≤ 1048576 := by omega
  have l2 : x2.length ≤ 1048576 := by omega
  clear hb h0 h2
  obtain ⟨k0, hk0⟩ := heads_ev
  refine ⟨max k0 10000020, ?_⟩
  have hk : k0 ≤ max k0 10000020 ∧ 10000020 ≤ max k0 10000020 := by omega
  generalize max k0 10000020 = k at hk
  unfold dictumlaw01_OctetSums.f
  have e1 : (ofI64 (wrap64 ((x0.length : Int) + 1))).toNat = x0.length + 1 := by
    rw [wsucc _ (by omega)]
    have := ofI64_nat ((x0.length + 1 : Nat) : Int)
    omega
  have hne : (!(ofI64 (wrap64 ((x0.length : Int) + 1)) == 0)) = true := by
    rw [Bool.not_eq_true', ← Bool.not_eq_true, beq_iff_eq]
    intro h
    rw [h] at e1
    simp at e1
  have hcut : ∃ q : Nat, q ≤ x0.length ∧ wrap64 (((ofI64 x1) % (ofI64 (wrap64 ((x0.length : Int) + 1)))).toNat : Int) = (q : Int) := by
    refine ⟨((ofI64 x1) % (ofI64 (wrap64 ((x0.length : Int) + 1)))).toNat, ?_, ?_⟩
    · rw [UInt64.toNat_mod, e1]
      have := Nat.mod_lt (ofI64 x1).toNat (show 0 < x0.length + 1 by omega)
      omega
    · have h3 : ((ofI64 x1) % (ofI64 (wrap64 ((x0.length : Int) + 1)))).toNat ≤ x0.length := by
        rw [UInt64.toNat_mod, e1]
        have := Nat.mod_lt (ofI64 x1).toNat (show 0 < x0.length + 1 by omega)
        omega
      exact w64 (by omega) (by omega)
  obtain ⟨q, hq, hw⟩ := hcut
  rw [chk_of hne, bind_some', chk_of (decide_eq_true (by simp; omega)), bind_some', List.nil_append, hw]
  clear hw hne e1
  have hs : (seal4 x0).length = x0.length + 4 := seal4_len x0
  rw [seal_f x0 k (by omega) (by omega), bind_some', rseal_f x0 k (by omega) (by omega), bind_some', same_f (seal4 x0) (seal4 x0) (by omega) k (by omega), bind_some', beq_self_eq_true, Bool.not_true, cond_false, cut_to x0 hq, bind_some', cut_from x0 hq, bind_some',
    sum_f [x0.take q, x0.drop q] k (by simp) (by intro x hx; simp at hx; rcases hx with rfl | rfl <;> simp <;> omega) (by simp; omega), bind_some',
    rsum_f x0 k (by omega) (by omega), bind_some', show ([x0.take q, x0.drop q] : List (List UInt8)).flatten = x0 from by simp, beq_self_eq_true, Bool.not_true, cond_false,
    sum_f [x0] k (by simp) (by intro x hx; simp at hx; subst hx; omega) (by simp; omega), bind_some', bind_some', show ([x0] : List (List UInt8)).flatten = x0 from by simp, beq_self_eq_true, Bool.not_true, cond_false,
    sum_f [] k (by simp) (by intro x hx; cases hx) (by simp; omega), bind_some', show (!(UInt32.ofNat (sumN ([] : List (List UInt8)).flatten) == 0)) = false from by decide, bind_some', cond_false]
  rw [open_f (seal4 x0) k (by omega) (by omega), openE_seal, bind_some']
  dsimp only
  rw [same_f x0 x0 (by omega) k (by omega), bind_some', beq_self_eq_true, Bool.not_true, show ((0 : Int) != 0) = false from rfl, cond_false, bind_some', cond_false]
  have hl1 := sums_l1 k x0.length k 0 x0 (by omega) (by omega) (by omega)
  rw [show dictumlaw01_OctetSums.l1 k k x0 0 = some () from hl1, bind_some', open_f x2 k (by omega) (by omega), bind_some', ropen_f x2 k (by omega) (by omega), bind_some', bind_some', same_f (seal4 x0) (seal4 x0) (by omega) k (by omega), bind_some', beq_self_eq_true, cond_true, bind_some', cond_true]
  have ho : (openE x2).1.length ≤ x2.length := by unfold openE; (repeat' split) <;> simp <;> omega
  rw [same_f _ _ (by omega) k (by omega), bind_some', beq_self_eq_true, cond_true, show ((openE x2).2 == (openE x2).2) = true from beq_self_eq_true _, cond_true, hk0 k (by omega)]
  rfl
end Go.Proofs.YtaidlahjngmenaaDoor.X
