/- Layer 5, plain: the document's Has. -/
import Derived.Test.YtfdocckaobmgeaaDoorBA
set_option linter.unusedVariables false
set_option linter.unusedSimpArgs false
namespace Go.Proofs.YtfdocckaobmgeaaDoor.X
open Go Go.RowKit Go.Proofs.YtfdocckaobmgeaaDoor.SX
theorem rhas_f {e : List UInt64} (hl : e.length = 16) (a : Int) : dictumref05_Has.f e a = some (memI e a) := by
  unfold dictumref05_Has.f
  rcases int_cases a with h | ⟨n, rfl, hn⟩
  · rw [memI_no e h]
    by_cases h0 : a ≥ 0
    · rw [decide_eq_true h0, cond_true, decide_eq_false (by omega)]; rfl
    · rw [decide_eq_false h0]; rfl
  · rw [decide_eq_true (by omega), cond_true, decide_eq_true (by omega), cond_true, ix_word hl hn, bind_some', tmod_nat, ofI_nat _ (by omega), and_one, memI_nat e hn]
    rfl
end Go.Proofs.YtfdocckaobmgeaaDoor.X
