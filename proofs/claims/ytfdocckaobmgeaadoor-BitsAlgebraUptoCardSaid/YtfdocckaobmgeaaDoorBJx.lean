/- Layer 5, plain: two sets compared. -/
import Derived.Test.YtfdocckaobmgeaaDoorBB
import Derived.Test.YtfdocckaobmgeaaDoorBD
set_option linter.unusedVariables false
set_option linter.unusedSimpArgs false
namespace Go.Proofs.YtfdocckaobmgeaaDoor.X
open Go Go.RowKit Go.Proofs.YtfdocckaobmgeaaDoor.SX
/-- The first number in one of the two alone. -/
def cmpP (a b : List UInt64) : Int := match nx (xoB a b) 0 with | none => 0 | some j => if mem a j then -1 else 1
theorem cmp_f {a b : List UInt64} (ha : a.length = 16) (hb : b.length = 16) {k : Nat} (hk : 16 < k) : bits_Compare.f k a b = some (cmpP a b) := by
  unfold bits_Compare.f cmpP
  rw [xor_f ha hb hk, bind_some', next_f (xo_len ha hb) _ hk, bind_some']
  unfold nxP
  rw [show (0 : Int).toNat = 0 from rfl]
  rcases nx_cases (xoB a b) 0 with ⟨j, p1, p2, p3, p4, p5⟩ | ⟨p1, p2⟩
  · rw [p5]
    simp only [Bool.not_true, cond_false]
    rw [has_f ha, bind_some', memI_nat a p2]
    cases mem a j <;> rfl
  · rw [p2]
    rfl
theorem cmp_cases {a b : List UInt64} (ha : a.length = 16) (hb : b.length = 16) :
    (∃ j, j < 1024 ∧ mem a j = true ∧ mem b j = false ∧ (∀ i, i < j → mem a i = mem b i) ∧ cmpP a b = -1) ∨
    (∃ j, j < 1024 ∧ mem a j = false ∧ mem b j = true ∧ (∀ i, i < j → mem a i = mem b i) ∧ cmpP a b = 1) ∨
    (a = b ∧ cmpP a b = 0) := by
  unfold cmpP
  rcases nx_cases (xoB a b) 0 with ⟨j, p1, p2, p3, p4, p5⟩ | ⟨p1, p2⟩
  · rw [p5]
    rw [mem_xo ha hb p2] at p3
    have hlow : ∀ i, i < j → mem a i = mem b i := fun i hi => by
      have := p4 i (Nat.zero_le _) hi
      rw [mem_xo ha hb (by omega)] at this
      cases h1 : mem a i <;> cases h2 : mem b i <;> simp [h1, h2] at this ⊢
    cases h1 : mem a j <;> cases h2 : mem b j <;> rw [h1, h2] at p3
    · cases p3
    · exact Or.inr (Or.inl ⟨j, p2, h1, h2, hlow, by simp only [h1]; rfl⟩)
    · exact Or.inl ⟨j, p2, h1, h2, hlow, by simp only [h1]; rfl⟩
    · cases p3
  · rw [p2]
    refine Or.inr (Or.inr ⟨set_ext ha hb fun i hi => ?_, rfl⟩)
    have := p1 i (Nat.zero_le _) hi
    rw [mem_xo ha hb hi] at this
    cases h1 : mem a i <;> cases h2 : mem b i <;> simp [h1, h2] at this ⊢
theorem cmp_lt {a b : List UInt64} (ha : a.length = 16) (hb : b.length = 16) {j : Nat} (hj : j < 1024) (h1 : mem a j = true) (h2 : mem b j = false) (h3 : ∀ i, i < j → mem a i = mem b i) : cmpP a b = -1 := by
  rcases cmp_cases ha hb with ⟨i, q1, q2, q3, q4, q5⟩ | ⟨i, q1, q2, q3, q4, q5⟩ | ⟨q1, q2⟩
  · exact q5
  · rcases Nat.lt_trichotomy i j with h | h | h
    · have := h3 i h; rw [q2, q3] at this; cases this
    · subst h; rw [q2] at h1; cases h1
    · have := q4 j h; rw [h1, h2] at this; cases this
  · subst q1; rw [h1] at h2; cases h2
theorem cmp_gt {a b : List UInt64} (ha : a.length = 16) (hb : b.length = 16) {j : Nat} (hj : j < 1024) (h1 : mem a j = false) (h2 : mem b j = true) (h3 : ∀ i, i < j → mem a i = mem b i) : cmpP a b = 1 := by
  rcases cmp_cases ha hb with ⟨i, q1, q2, q3, q4, q5⟩ | ⟨i, q1, q2, q3, q4, q5⟩ | ⟨q1, q2⟩
  · rcases Nat.lt_trichotomy i j with h | h | h
    · have := h3 i h; rw [q2, q3] at this; cases this
    · subst h; rw [q2] at h1; cases h1
    · have := q4 j h; rw [h1, h2] at this; cases this
  · exact q5
  · subst q1; rw [h1] at h2; cases h2
theorem cmp_self {a : List UInt64} (ha : a.length = 16) : cmpP a a = 0 := by
  rcases cmp_cases ha ha with ⟨i, q1, q2, q3, q4, q5⟩ | ⟨i, q1, q2, q3, q4, q5⟩ | ⟨q1, q2⟩
  · rw [q2] at q3; cases q3
  · rw [q2] at q3; cases q3
  · exact q2
end Go.Proofs.YtfdocckaobmgeaaDoor.X
