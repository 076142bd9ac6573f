/- Layer 5, plain: the law of joins. -/
import Derived.Test.YtfdocckaobmgeaaDoorBRj
import Derived.Test.YtfdocckaobmgeaaDoorBEr
import Derived.Test.YtfdocckaobmgeaaDoorBJd
import Derived.Test.YtfdocckaobmgeaaDoorBAl
set_option linter.unusedVariables false
set_option linter.unusedSimpArgs false
namespace Go.Proofs.YtfdocckaobmgeaaDoor.X
open Go Go.RowKit Go.Proofs.YtfdocckaobmgeaaDoor.SX
theorem BitsJoins_pure : ∀ (x0 x1 : (List UInt64)) (x2 : Int), (bulkL bulk1) x0 + (bulkL bulk1) x1 + bulk1 x2 ≤ 1048576 → (fun xs => xs.length = 16 ∧ okL okT xs) x0 → (fun xs => xs.length = 16 ∧ okL okT xs) x1 → (okI .i64) x2 → ∃ k, dictumlaw05_BitsJoins.f k x0 x1 x2 = some true := by
  intro x0 x1 x2 _ h0 h1 h2
  obtain ⟨l0, _⟩ := h0
  obtain ⟨l1, _⟩ := h1
  have hx : x2 ≤ 9223372036854775807 := by
    have h := h2
    simp [okI, Lit.wf, IntKind.min, IntKind.max, IntKind.signed, IntKind.bits] at h
    exact h.2
  obtain ⟨k0, hk0⟩ := heads_ev
  refine ⟨max k0 1048600, ?_⟩
  have hh := hk0 (max k0 1048600) (by omega)
  have hk : 1048600 ≤ max k0 1048600 := Nat.le_max_right _ _
  generalize max k0 1048600 = k at hh hk
  unfold dictumlaw05_BitsJoins.f
  rw [next_f l0 _ (by omega), bind_some', rnext_f l0 _ hx (by omega), bind_some', union_f l0 l1 (by omega), bind_some', runion_f l0 l1 (by omega), bind_some']
  simp only [beq_self_eq_true, cond_true]
  rw [meet_f l0 l1 (by omega), bind_some', rmeet_f l0 l1 (by omega), bind_some']
  simp only [beq_self_eq_true, cond_true]
  rw [minus_f l0 l1 (by omega), bind_some', rminus_f l0 l1 (by omega), bind_some']
  simp only [beq_self_eq_true, cond_true]
  rw [sub_f l0 l1 (by omega), bind_some', rsub_f l0 l1 (by omega), bind_some', sub_iff l0 l1]
  simp only [beq_self_eq_true, cond_true]
  rw [count_f l0 (by omega), bind_some', rlist_f l0 (by omega), bind_some']
  simp only [beq_self_eq_true, cond_true]
  rw [cmp_f l0 l1 (by omega), bind_some', rcmp_f l0 l1 (by omega), bind_some']
  simp only [beq_self_eq_true, cond_true]
  rw [hh]
  rfl
end Go.Proofs.YtfdocckaobmgeaaDoor.X
