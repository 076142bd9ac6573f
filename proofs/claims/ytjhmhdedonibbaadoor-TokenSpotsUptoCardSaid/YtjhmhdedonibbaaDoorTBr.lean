/- Layer 2, plain: spots, by the document. -/
import Derived.Test.YtjhmhdedonibbaaDoorTB
set_option linter.unusedVariables false
set_option linter.unusedSimpArgs false
namespace Go.Proofs.YtjhmhdedonibbaaDoor.X
open Go Go.RowKit Go.Proofs.YtjhmhdedonibbaaDoor.SX
theorem rAt_f (k : Nat) (s : List UInt8) (off : Int) (hs : s.length ≤ 1000000000) (hk : s.length < k) : dictumref02_At.f k s off = some (spotOf (W s (clampN s off) 0 (1, 1)).2 (clampN s off)) := by
  have hl := clampN_le s off
  have key := on_f k s (clampN s off) 0 1 1 hl hs hk (by omega) (by omega) (by omega) (by omega)
  have key' : dictumref02_on.f k s (⟨1, 1, (0 : Int)⟩ : T_api_Spot) (clampN s off : Int) = _ := key
  unfold dictumref02_At.f
  by_cases h1 : off < 0
  · have e : (clampN s off : Int) = 0 := by unfold clampN; rw [if_pos h1]; rfl
    rw [decide_eq_true h1, cond_true, bind_some', decide_eq_false (by omega : ¬ (0 : Int) > (s.length : Int)), cond_false, bind_some']
    have key2 : dictumref02_on.f k s (⟨1, 1, (0 : Int)⟩ : T_api_Spot) 0 = _ := (congrArg (fun z => dictumref02_on.f k s (⟨1, 1, (0 : Int)⟩ : T_api_Spot) z) e.symm).trans key'
    rw [key2, bind_some']
  · rw [decide_eq_false h1, cond_false, bind_some']
    by_cases h2 : off > (s.length : Int)
    · have e : (clampN s off : Int) = (s.length : Int) := by unfold clampN; rw [if_neg h1, if_pos h2]
      rw [decide_eq_true h2, cond_true, bind_some']
      have key2 : dictumref02_on.f k s (⟨1, 1, (0 : Int)⟩ : T_api_Spot) (s.length : Int) = _ := (congrArg (fun z => dictumref02_on.f k s (⟨1, 1, (0 : Int)⟩ : T_api_Spot) z) e.symm).trans key'
      rw [key2, bind_some']
    · have e : (clampN s off : Int) = off := by unfold clampN; rw [if_neg h1, if_neg h2]; omega
      rw [decide_eq_false h2, cond_false, bind_some']
      have key2 : dictumref02_on.f k s (⟨1, 1, (0 : Int)⟩ : T_api_Spot) off = _ := (congrArg (fun z => dictumref02_on.f k s (⟨1, 1, (0 : Int)⟩ : T_api_Spot) z) e.symm).trans key'
      rw [key2, bind_some']
end Go.Proofs.YtjhmhdedonibbaaDoor.X
