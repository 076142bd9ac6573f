/- Layer 2, plain: what must come at any rate. -/
import Derived.Test.YtjhmhdedonibbaaDoorXAD
set_option linter.unusedVariables false
set_option linter.unusedSimpArgs false
namespace Go.Proofs.YtjhmhdedonibbaaDoor.X
open Go Go.RowKit Go.Proofs.YtjhmhdedonibbaaDoor.SX
set_option maxRecDepth 100000 in
theorem alive_at : dictumlaw02_alive.f 60 = some true := by kernel_rfl
theorem alive_ev : Ev fun k => dictumlaw02_alive.f k = some true := Ev.mono (fun k k' h => dictumlaw02_alive.mono h) alive_at
end Go.Proofs.YtjhmhdedonibbaaDoor.X
