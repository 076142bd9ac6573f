/- Layer 5, plain: what must come at any rate. -/
import Derived.Test.YtfdocckaobmgeaaDoorXAD
set_option linter.unusedVariables false
set_option linter.unusedSimpArgs false
namespace Go.Proofs.YtfdocckaobmgeaaDoor.X
open Go Go.RowKit Go.Proofs.YtfdocckaobmgeaaDoor.SX
set_option maxRecDepth 100000 in
theorem heads_at : dictumlaw05_heads.f 60 = some true := by kernel_rfl
theorem heads_ev : Ev fun k => dictumlaw05_heads.f k = some true := Ev.mono (fun k k' h => dictumlaw05_heads.mono h) heads_at
end Go.Proofs.YtfdocckaobmgeaaDoor.X
