/- Layer 1, plain: what no call made. -/
import Derived.Test.YtaidlahjngmenaaDoorLA
set_option linter.unusedVariables false
namespace Go.Proofs.YtaidlahjngmenaaDoor.X
open Go Go.RowKit Go.Proofs.YtaidlahjngmenaaDoor.SX
set_option maxRecDepth 100000 in
theorem OctetNobody_pure : ∀ (x0 : List UInt8), bulkS x0 ≤ 1048576 → okS x0 → ∃ k, dictumlaw01_OctetNobody.f k x0 = some true := fun x0 _ _ => ⟨60, by kernel_rfl⟩
end Go.Proofs.YtaidlahjngmenaaDoor.X
