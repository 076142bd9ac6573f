/- Layer 5, plain: what the iterator of a set yields. -/
import Derived.Test.YtfdocckaobmgeaaDoorBE
set_option linter.unusedVariables false
set_option linter.unusedSimpArgs false
namespace Go.Proofs.YtfdocckaobmgeaaDoor.X
open Go Go.RowKit Go.Proofs.YtfdocckaobmgeaaDoor.SX
theorem seq_f {e : List UInt64} (he : e.length = 16) {k : Nat} (hk : 16 < k) : ∀ (kk n : Nat), 1024 - n < kk → bits_All_1.seq k e kk (n : Int) = some (mb e n) := by
  intro kk
  induction kk with
  | zero => intro n h; omega
  | succ kk ih =>
    intro n h
    rw [bits_All_1.seq.eq_2, next_f he _ hk, bind_some', Int.toNat_natCast, mb_nx e n]
    unfold nxP
    rcases nx_cases e n with ⟨j, p1, p2, p3, p4, p5⟩ | ⟨p1, p2⟩
    · rw [p5]
      simp only [cond_true]
      rw [wsucc j (by omega), ih (j + 1) (by omega)]
      rfl
    · rw [p2]
      rfl
end Go.Proofs.YtfdocckaobmgeaaDoor.X
