/- Layer 5, plain: the law of All. -/
import Derived.Test.YtfdocckaobmgeaaDoorBEq
import Derived.Test.YtfdocckaobmgeaaDoorBEr
import Derived.Test.YtfdocckaobmgeaaDoorBAl
set_option linter.unusedVariables false
set_option linter.unusedSimpArgs false
namespace Go.Proofs.YtfdocckaobmgeaaDoor.X
open Go Go.RowKit Go.Proofs.YtfdocckaobmgeaaDoor.SX
theorem all_l2 (k : Nat) (a1 : Int) (z : List Int) (x : Int) (hz : z.length ≤ 1024) : ∀ (l : List Int) (i : Nat), z.drop i = l → i ≤ z.length →
    ∃ m : Int, dictumlaw05_BitsAll.l2 k a1 z x l (i : Int) = some (.inr m) ∧ (m = (z.length : Int) ∨ (x = 0 ∧ m = a1)) := by
  intro l
  induction l with
  | nil =>
    intro i hd hi
    refine ⟨i, rfl, Or.inl ?_⟩
    have := congrArg List.length hd
    rw [List.length_drop, List.length_nil] at this
    omega
  | cons v l ih =>
    intro i hd hi
    have h : i < z.length := by
      have := congrArg List.length hd
      rw [List.length_drop, List.length_cons] at this
      omega
    rw [drop_cons h] at hd
    obtain ⟨rfl, hd2⟩ := List.cons.inj hd
    rw [dictumlaw05_BitsAll.l2.eq_2, decide_eq_false (by omega), cond_false, ix_nat, List.getElem?_eq_getElem h, bind_some', show (z[i] != z[i]) = false from by simp, bind_some', cond_false, wsucc i (by omega)]
    by_cases hx : x = 0
    · subst hx
      rw [show ((0 : Int) == 0) = true from rfl, cond_true, bind_some']
      by_cases he : ((i + 1 : Nat) : Int) = a1
      · rw [show (((i + 1 : Nat) : Int) == a1) = true from by simp [he], cond_true]
        exact ⟨_, rfl, Or.inr ⟨rfl, he⟩⟩
      · rw [show (((i + 1 : Nat) : Int) == a1) = false from by simp only [beq_eq_false_iff_ne, ne_eq]; exact he, cond_false]
        exact ih (i + 1) hd2 h
    · rw [show (x == 0) = false from by simp [hx], cond_false, bind_some', cond_false]
      exact ih (i + 1) hd2 h
theorem all_l1 {e : List UInt64} (he : e.length = 16) (a1 : Int) {k : Nat} (hk : 1025 ≤ k) : dictumlaw05_BitsAll.l1 k a1 e (mb e 0) k 0 = some (.inr ()) := by
  have hlen := mb_le e 0
  have hs : bits_All_1.seq k e k 0 = some (mb e 0) := seq_f he (by omega) k 0 (by omega)
  have one : ∀ (kk : Nat) (x : Int), x < 2 → (x = 0 ∨ x = 1) → dictumlaw05_BitsAll.l1 k a1 e (mb e 0) (kk + 1) x = dictumlaw05_BitsAll.l1 k a1 e (mb e 0) kk (wrap64 (x + 1)) := by
    intro kk x hx hc
    obtain ⟨m, h1, h2⟩ := all_l2 k a1 (mb e 0) x hlen _ 0 rfl (Nat.zero_le _)
    rw [List.drop_zero] at h1
    rw [dictumlaw05_BitsAll.l1.eq_2, decide_eq_true hx, cond_true, hs, bind_some']
    rw [show (0 : Int) = ((0 : Nat) : Int) from rfl, h1, bind_some']
    simp only
    by_cases hm : m = ((mb e 0).length : Int)
    · rw [show (m != ((mb e 0).length : Int)) = false from by simp [hm], cond_false, bind_some', cond_false]
    · obtain ⟨rfl, rfl⟩ : x = 0 ∧ m = a1 := by rcases h2 with h2 | h2; exact absurd h2 hm; exact h2
      rw [show (m != ((mb e 0).length : Int)) = true from by simp [hm], cond_true, show ((0 : Int) == 1) = false from rfl, cond_false, bind_some', show (m != m) = false from by simp, cond_false]
  obtain ⟨kk, rfl⟩ : ∃ kk, k = kk + 3 := ⟨k - 3, by omega⟩
  have h0 := one (kk + 2) 0 (by decide) (Or.inl rfl)
  have h1 := one (kk + 1) 1 (by decide) (Or.inr rfl)
  rw [h0, show wrap64 (0 + 1) = 1 from w64 (by decide) (by decide), h1, show wrap64 (1 + 1) = 2 from w64 (by decide) (by decide), dictumlaw05_BitsAll.l1.eq_2]
  rfl
theorem BitsAll_pure : ∀ (x0 : (List UInt64)) (x1 : Int), (bulkL bulk1) x0 + bulk1 x1 ≤ 1048576 → (fun xs => xs.length = 16 ∧ okL okT xs) x0 → (okI .i64) x1 → ∃ k, dictumlaw05_BitsAll.f k x0 x1 = some true := by
  intro x0 x1 _ h0 _
  obtain ⟨hl, _⟩ := h0
  obtain ⟨k0, hk0⟩ := heads_ev
  refine ⟨max k0 1025, ?_⟩
  have hh := hk0 (max k0 1025) (by omega)
  have hk : 1025 ≤ max k0 1025 := Nat.le_max_right _ _
  generalize max k0 1025 = k at hh hk
  unfold dictumlaw05_BitsAll.f bits_All.f
  rw [bind_some', rlist_f hl (by omega), bind_some', all_l1 hl x1 hk, bind_some']
  simp only
  rw [hh]
  rfl
end Go.Proofs.YtfdocckaobmgeaaDoor.X
