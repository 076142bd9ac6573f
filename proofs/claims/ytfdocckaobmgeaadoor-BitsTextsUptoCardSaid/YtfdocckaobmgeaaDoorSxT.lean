/- Texts cut at a byte (strings.SplitSeq), plain. -/
import Derived.Test.YtfdocckaobmgeaaDoorSxN
import Derived.Lib.TrimAscii
set_option linter.unusedVariables false
set_option linter.unusedSimpArgs false
namespace Go.Proofs.YtfdocckaobmgeaaDoor.SX
open Go
/-- The pieces between the bytes c. -/
def splitB (c : UInt8) : List UInt8 → List (List UInt8)
  | [] => [[]]
  | x :: t => bif x == c then [] :: splitB c t else match splitB c t with
    | [] => [[x]]
    | p :: ps => (x :: p) :: ps
theorem splitB_ne (c : UInt8) : ∀ l : List UInt8, splitB c l ≠ []
  | [] => by simp [splitB]
  | x :: t => by
    unfold splitB
    cases x == c with
    | true => simp
    | false =>
      simp only [cond_false]
      cases h : splitB c t with
      | nil => simp
      | cons p ps => simp
theorem idx_cons (c x : UInt8) (t : List UInt8) : Lib.indexByte (x :: t) c = if (x == c) = true then 0 else if (Lib.indexByte t c == -1) = true then -1 else Lib.indexByte t c + 1 := rfl
theorem splitB_idx (c : UInt8) : ∀ r : List UInt8, (Lib.indexByte r c = -1 ∧ splitB c r = [r]) ∨ ∃ i : Nat, Lib.indexByte r c = (i : Int) ∧ i < r.length ∧ splitB c r = r.take i :: splitB c (r.drop (i + 1))
  | [] => Or.inl ⟨rfl, rfl⟩
  | x :: t => by
    rw [idx_cons]
    cases hx : x == c with
    | true =>
      refine Or.inr ⟨0, rfl, Nat.succ_pos _, ?_⟩
      conv => lhs; unfold splitB
      rw [hx]
      rfl
    | false =>
      have e1 : splitB c (x :: t) = match splitB c t with | [] => [[x]] | p :: ps => (x :: p) :: ps := by
        conv => lhs; unfold splitB
        rw [hx]
        rfl
      rw [if_neg (by decide), e1]
      rcases splitB_idx c t with ⟨h1, h2⟩ | ⟨i, h1, h2, h3⟩
      · left
        rw [h1, h2]
        exact ⟨rfl, rfl⟩
      · right
        refine ⟨i + 1, ?_, by simp only [List.length_cons]; omega, ?_⟩
        · rw [h1, if_neg (by rw [beq_iff_eq]; omega)]
          omega
        · rw [h3]
          rfl
/-- What is left when q pieces are taken. -/
def restB (c : UInt8) (s : List UInt8) : Nat → List UInt8
  | 0 => s
  | q + 1 => (restB c s q).drop ((Lib.indexByte (restB c s q) c).toNat + 1)
end Go.Proofs.YtfdocckaobmgeaaDoor.SX
