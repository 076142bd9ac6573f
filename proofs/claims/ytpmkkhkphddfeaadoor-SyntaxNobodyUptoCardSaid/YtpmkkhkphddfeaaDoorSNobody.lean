/- Layer 4, plain: what no call made. -/
import Derived.Test.YtpmkkhkphddfeaaDoorXAD
set_option linter.unusedVariables false
namespace Go.Proofs.YtpmkkhkphddfeaaDoor.X
open Go Go.RowKit Go.Proofs.YtpmkkhkphddfeaaDoor.SX
set_option maxRecDepth 100000
theorem heads_true : dictumlaw04_heads.f 64 = some true := by kernel_rfl
theorem SyntaxNobody_pure : ∀ (x0 : List UInt8) (x1 : List T_api_Token) (x2 : Int), bulkS x0 + bulkL T_api_Token.bulk x1 + bulk1 x2 ≤ 1048576 → okS x0 → (okL T_api_Token.ok) x1 → (okI .i64) x2 → ∃ k, dictumlaw04_SyntaxNobody.f k x0 x1 x2 = some true := by
  intro x0 x1 x2 _ _ _ _
  refine ⟨64, ?_⟩
  have h0 : dictumlaw04_nobody_nil.f x0 x1 x2 = some true := rfl
  have h1 : dictumlaw04_nobody_nm.f (⟨([] : List T_api_Node)⟩ : T_formula_Table) x0 x1 x2 = some true := rfl
  unfold dictumlaw04_SyntaxNobody.f
  rw [h0, Option.bind_some, cond_true, h1, Option.bind_some, cond_true, heads_true]
  rfl
end Go.Proofs.YtpmkkhkphddfeaaDoor.X
