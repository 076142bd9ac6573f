/- Layer 2, plain: things that are the same. -/
import Derived.Test.YtjhmhdedonibbaaDoorTH
set_option linter.unusedVariables false
set_option linter.unusedSimpArgs false
namespace Go.Proofs.YtjhmhdedonibbaaDoor.X
open Go Go.RowKit Go.Proofs.YtjhmhdedonibbaaDoor.SX
theorem spot_refl (x : T_api_Spot) : T_api_Spot.eqb x x = true := by unfold T_api_Spot.eqb; simp
theorem fault_refl (x : T_api_Fault) : T_api_Fault.eqb x x = true := by unfold T_api_Fault.eqb; simp [spot_refl]
theorem token_refl (x : T_api_Token) : T_api_Token.eqb x x = true := by unfold T_api_Token.eqb; simp [spot_refl]
end Go.Proofs.YtjhmhdedonibbaaDoor.X
