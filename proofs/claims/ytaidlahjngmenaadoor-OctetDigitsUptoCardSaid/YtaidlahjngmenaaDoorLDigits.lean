/- Layer 1, plain: the law of digits. -/
import Derived.Test.YtaidlahjngmenaaDoorLHex
import Derived.Test.YtaidlahjngmenaaDoorLDec
set_option linter.unusedVariables false
set_option linter.unusedSimpArgs false
namespace Go.Proofs.YtaidlahjngmenaaDoor.X
open Go Go.RowKit Go.Proofs.YtaidlahjngmenaaDoor.SX
theorem OctetDigits_pure : ∀ (x0 : List UInt8) (x1 : List UInt8) (x2 x3 : Int), bulkL bulk1 x0 + bulkS x1 + bulk1 x2 + bulk1 x3 ≤ 1048576 → okL okT x0 → okS x1 → okI .i64 x2 → okI .i64 x3 → ∃ k, dictumlaw01_OctetDigits.f k x0 x1 x2 x3 = some true := by
  intro x0 x1 x2 x3 hb _ _ h2 _
  have hl0 : x0.length ≤ 1048576 := by
    have := len_le_bulk (bulk1 (α := UInt8)) (fun a => by simp [bulk1]) x0
    simp only [bulkL] at hb
    omega
  have hl1 : x1.length ≤ 1048576 := by simp only [bulkS] at hb; omega
  obtain ⟨h2a, h2b⟩ : -9223372036854775808 ≤ x2 ∧ x2 ≤ 9223372036854775807 := by
    simpa [okI, Lit.wf, IntKind.min, IntKind.max, IntKind.signed, IntKind.bits] using h2
  obtain ⟨k0, hk0⟩ := heads_ev
  refine ⟨max k0 10000020, ?_⟩
  have hh := hk0 (max k0 10000020) (by omega)
  have hk : 10000020 ≤ max k0 10000020 := Nat.le_max_right _ _
  generalize max k0 10000020 = k at hh hk
  have hul := unhexE_len x1
  unfold dictumlaw01_OctetDigits.f
  rw [phex_f x0 (by omega) k (by omega), bind_some', punhex_f (hexE x0) (by rw [hexE_len]; omega) k (by rw [hexE_len]; omega), bind_some', unhexE_hex, punhex_f x1 (by omega) k (by omega), bind_some', runhex_f x1 (by omega) k (by omega), bind_some', pundec_f x1 x3 (by omega), bind_some', rundec_f x1 x3 k (by omega), bind_some', dec_f x2 h2a h2b, bind_some', rhex_f x0 (by omega) k (by omega), bind_some']
  rw [show (!(hexE x0 == hexE x0)) = false from by simp, cond_false]
  show ((bif false then _ else _ : Option Bool)).bind _ = _
  rw [cond_false, same_f x0 x0 (by omega) k (by omega), bind_some', same_f _ _ (by omega) k (by omega), bind_some']
  rw [show (!(x0 == x0)) = false from by simp, show (!((unhexE x1).1 == (unhexE x1).1)) = false from by simp, show ((unhexE x1).2 != (unhexE x1).2) = false from by simp, show ((undecE x1 x3).1 != (undecE x1 x3).1) = false from by simp, show ((undecE x1 x3).2 != (undecE x1 x3).2) = false from by simp, cond_false, cond_false, cond_false, cond_false, cond_false, rdec_f x2 h2a h2b k (by omega), bind_some', show (!(Lib.itoa x2 == Lib.itoa x2)) = false from by simp, bind_some', cond_false]
  by_cases ha : x2 < 0
  · rw [decide_eq_true ha, cond_true, bind_some', cond_true, hh]; rfl
  by_cases hc : x2 > 9999999999
  · rw [decide_eq_false ha, decide_eq_true hc, cond_false, bind_some', cond_true, hh]; rfl
  rw [decide_eq_false ha, decide_eq_false hc, cond_false, bind_some', cond_false, pundec_f _ _ (by
    have : (Lib.itoa x2).length ≤ 20 := by
      unfold Lib.itoa
      rw [if_neg ha]
      exact dd_len20 _ (by omega)
    omega), bind_some', undec_dec x2 (by omega) (by omega)]
  simp only [beq_self_eq_true, cond_true]
  rw [hh]
  rfl
end Go.Proofs.YtaidlahjngmenaaDoor.X
