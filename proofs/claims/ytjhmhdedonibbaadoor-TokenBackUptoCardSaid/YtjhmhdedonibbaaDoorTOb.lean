/- Layer 2, plain: how much there is. -/
import Derived.Test.YtjhmhdedonibbaaDoorTNj
set_option linter.unusedVariables false
set_option linter.unusedSimpArgs false
namespace Go.Proofs.YtjhmhdedonibbaaDoor.X
open Go Go.RowKit Go.Proofs.YtjhmhdedonibbaaDoor.SX
theorem tok_bulk (t : T_api_Token) : t.f_Text.length + 8 ≤ t.bulk := by
  unfold T_api_Token.bulk T_api_Spot.bulk bulk1 bulkS
  omega
theorem room_bulk : ∀ l : List T_api_Token, room l ≤ 3 * (l.map T_api_Token.bulk).sum ∧ l.length ≤ (l.map T_api_Token.bulk).sum ∧ ∀ t ∈ l, t.f_Text.length ≤ (l.map T_api_Token.bulk).sum
  | [] => ⟨Nat.le_refl _, Nat.le_refl _, fun t h => by cases h⟩
  | t :: r => by
    obtain ⟨a, b, c⟩ := room_bulk r
    have h := tok_bulk t
    have e1 : room (t :: r) = t.f_Text.length + 20 + room r := rfl
    have e2 : ((t :: r).map T_api_Token.bulk).sum = t.bulk + (r.map T_api_Token.bulk).sum := rfl
    rw [e1, e2, List.length_cons]
    refine ⟨by omega, by omega, fun u hu => ?_⟩
    rcases List.mem_cons.1 hu with rfl | hu
    · omega
    · have := c u hu
      omega
theorem i64_of {n : Int} (h : okI .i64 n) : -9223372036854775808 ≤ n ∧ n ≤ 9223372036854775807 := by
  simpa [okI, Lit.wf, IntKind.min, IntKind.max, IntKind.signed, IntKind.bits] using h
end Go.Proofs.YtjhmhdedonibbaaDoor.X
