/- Layer 5, plain: the numbers of a set in order. -/
import Derived.Test.YtfdocckaobmgeaaDoorBD
set_option linter.unusedVariables false
set_option linter.unusedSimpArgs false
namespace Go.Proofs.YtfdocckaobmgeaaDoor.X
open Go Go.RowKit Go.Proofs.YtfdocckaobmgeaaDoor.SX
def mbd (e : List UInt64) : Nat → Nat → List Int
  | 0, _ => []
  | d + 1, n => if mem e n then (n : Int) :: mbd e d (n + 1) else mbd e d (n + 1)
def mb (e : List UInt64) (n : Nat) : List Int := mbd e (1024 - n) n
theorem mb_end (e : List UInt64) {n : Nat} (h : 1024 ≤ n) : mb e n = [] := by
  unfold mb; rw [show 1024 - n = 0 from by omega]; rfl
theorem mb_in (e : List UInt64) {n : Nat} (h : n < 1024) (hm : mem e n = true) : mb e n = (n : Int) :: mb e (n + 1) := by
  unfold mb
  rw [show 1024 - n = (1024 - (n + 1)) + 1 from by omega, mbd, if_pos hm]
theorem mb_out (e : List UInt64) {n : Nat} (h : n < 1024) (hm : mem e n = false) : mb e n = mb e (n + 1) := by
  unfold mb
  rw [show 1024 - n = (1024 - (n + 1)) + 1 from by omega, mbd, if_neg (by simp [hm])]
theorem mb_skip (e : List UInt64) : ∀ (d n j : Nat), j = n + d → j ≤ 1024 → (∀ i, n ≤ i → i < j → mem e i = false) → mb e n = mb e j
  | 0, n, j, hd, _, _ => by rw [show j = n from by omega]
  | d + 1, n, j, hd, hj, h => by
    rw [mb_out e (by omega) (h n (by omega) (by omega))]
    exact mb_skip e d (n + 1) j (by omega) hj fun i a b => h i (by omega) b
theorem mb_nx (e : List UInt64) (n : Nat) : mb e n = match nx e n with | some j => (j : Int) :: mb e (j + 1) | none => [] := by
  rcases nx_cases e n with ⟨j, p1, p2, p3, p4, p5⟩ | ⟨p1, p2⟩
  · rw [p5, mb_skip e (j - n) n j (by omega) (by omega) p4, mb_in e p2 p3]
  · rw [p2]
    by_cases h : n ≤ 1024
    · rw [mb_skip e (1024 - n) n 1024 (by omega) (by omega) p1, mb_end e (by omega)]
    · rw [mb_end e (by omega)]
theorem mb_len (e : List UInt64) : ∀ (d n : Nat), d = 1024 - n → (mb e n).length ≤ d
  | 0, n, h => by rw [mb_end e (by omega)]; simp
  | d + 1, n, h => by
    have := mb_len e d (n + 1) (by omega)
    cases hm : mem e n
    · rw [mb_out e (by omega) hm]; omega
    · rw [mb_in e (by omega) hm, List.length_cons]; omega
theorem mb_le (e : List UInt64) (n : Nat) : (mb e n).length ≤ 1024 := by
  have := mb_len e (1024 - n) n rfl
  omega
end Go.Proofs.YtfdocckaobmgeaaDoor.X
