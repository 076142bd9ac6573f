/- Layer 5, plain: the document's list of a set. -/
import Derived.Test.YtfdocckaobmgeaaDoorBE
import Derived.Test.YtfdocckaobmgeaaDoorBRh
set_option linter.unusedVariables false
set_option linter.unusedSimpArgs false
namespace Go.Proofs.YtfdocckaobmgeaaDoor.X
open Go Go.RowKit Go.Proofs.YtfdocckaobmgeaaDoor.SX
theorem rlist_l1 {e : List UInt64} (he : e.length = 16) (k : Nat) : ∀ (kk n : Nat) (acc : List Int), n ≤ 1024 → acc.length ≤ n → 1024 - n < kk → dictumref05_List.l1 k e kk acc (n : Int) = some (acc ++ mb e n) := by
  intro kk
  induction kk with
  | zero => intro n acc _ _ h; omega
  | succ kk ih =>
    intro n acc hn ha h
    rw [dictumref05_List.l1.eq_2]
    by_cases h1 : n < 1024
    · rw [decide_eq_true (by omega), cond_true, rhas_f he, bind_some', memI_nat e h1, wsucc n (by omega)]
      cases hm : mem e n
      · rw [cond_false, bind_some', ih (n + 1) acc (by omega) (by omega) (by omega), mb_out e h1 hm]
      · rw [cond_true, chk_of (decide_eq_true (by simp; omega)), bind_some', bind_some', ih (n + 1) _ (by omega) (by simp; omega) (by omega), mb_in e h1 hm, List.append_assoc]
        rfl
    · rw [decide_eq_false (by omega), cond_false, mb_end e (by omega), List.append_nil]
theorem rlist_f {e : List UInt64} (he : e.length = 16) {k : Nat} (hk : 1024 < k) : dictumref05_List.f k e = some (mb e 0) := by
  unfold dictumref05_List.f
  have := rlist_l1 he k k 0 [] (by omega) (by simp) (by omega)
  rw [show ((0 : Nat) : Int) = 0 from rfl, List.nil_append] at this
  rw [this]
  rfl
end Go.Proofs.YtfdocckaobmgeaaDoor.X
