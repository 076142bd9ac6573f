/- Layer 2, plain: letters, by the document. -/
import Derived.Test.YtjhmhdedonibbaaDoorTD
set_option linter.unusedVariables false
set_option linter.unusedSimpArgs false
namespace Go.Proofs.YtjhmhdedonibbaaDoor.X
open Go Go.RowKit Go.Proofs.YtjhmhdedonibbaaDoor.SX
theorem rcls : ∀ c : Fin 256, dictumref02_letter.f (UInt8.ofNat c.val) = some (letB (UInt8.ofNat c.val)) ∧ dictumref02_digit.f (UInt8.ofNat c.val) = some (digB (UInt8.ofNat c.val)) ∧ dictumref02_within.f (UInt8.ofNat c.val) = some (tailB (UInt8.ofNat c.val)) := by decide +kernel
theorem rcls_c (c : UInt8) : dictumref02_letter.f c = some (letB c) ∧ dictumref02_digit.f c = some (digB c) ∧ dictumref02_within.f c = some (tailB c) := by
  have h := rcls ⟨c.toNat, c.toNat_lt⟩
  simp only [UInt8.ofNat_toNat] at h
  exact h
end Go.Proofs.YtjhmhdedonibbaaDoor.X
