/- Layer 5, plain: the document's With. -/
import Derived.Test.YtfdocckaobmgeaaDoorBA
set_option linter.unusedVariables false
set_option linter.unusedSimpArgs false
namespace Go.Proofs.YtfdocckaobmgeaaDoor.X
open Go Go.RowKit Go.Proofs.YtfdocckaobmgeaaDoor.SX
theorem rwith_f {e : List UInt64} (hl : e.length = 16) {n : Nat} (hn : n < 1024) : dictumref05_With.f e (n : Int) = some (withB e n) := by
  unfold dictumref05_With.f
  rw [ix_word hl hn, bind_some', bind_some', tdiv_nat hn, tmod_nat, ofI_nat _ (by omega)]
  rfl
end Go.Proofs.YtfdocckaobmgeaaDoor.X
