/- Layer 2, plain: the law of writing. -/
import Derived.Test.YtjhmhdedonibbaaDoorTN
set_option linter.unusedVariables false
set_option linter.unusedSimpArgs false
namespace Go.Proofs.YtjhmhdedonibbaaDoor.X
open Go Go.RowKit Go.Proofs.YtjhmhdedonibbaaDoor.SX
theorem tok_bulk (t : T_api_Token) : t.f_Text.length + 8 ≤ t.bulk := by
  unfold T_api_Token.bulk T_api_Spot.bulk bulk1 bulkS
  omega
theorem room_bulk : ∀ l : List T_api_Token, room l ≤ 3 * (l.map T_api_Token.bulk).sum ∧ l.length ≤ (l.map T_api_Token.bulk).sum ∧ ∀ t ∈ l, t.f_Text.length ≤ (l.map T_api_Token.bulk).sum
  | [] => ⟨Nat.le_refl _, Nat.le_refl _, fun t h => by cases h⟩
  | t :: r => by
    obtain ⟨a, b, c⟩ := room_bulk r
    have h := tok_bulk t
    have e1 : room (t :: r) = t.f_Text.length + 20 + room r := rfl
    have e2 : ((t :: r).map T_api_Token.bulk).sum = t.bulk + (r.map T_api_Token.bulk).sum := rfl
    rw [e1, e2, List.length_cons]
    refine ⟨by omega, by omega, fun u hu => ?_⟩
    rcases List.mem_cons.1 hu with rfl | hu
    · omega
    · have := c u hu
      omega
theorem i64_of {n : Int} (h : okI .i64 n) : -9223372036854775808 ≤ n ∧ n ≤ 9223372036854775807 := by
  simpa [okI, Lit.wf, IntKind.min, IntKind.max, IntKind.signed, IntKind.bits] using h
theorem TokenWrites_pure : ∀ (x0 : T_api_Token) (x1 : (List T_api_Token)), T_api_Token.bulk x0 + (bulkL T_api_Token.bulk) x1 ≤ 1048576 → T_api_Token.ok x0 → (okL T_api_Token.ok) x1 → ∃ k, dictumlaw02_TokenWrites.f k x0 x1 = some true := by
  intro x0 x1 hb ho0 ho1
  have hb0 := tok_bulk x0
  obtain ⟨r1, r2, r3⟩ := room_bulk x1
  simp only [bulkL] at hb
  obtain ⟨k0, hk0⟩ := alive_ev
  refine ⟨max k0 10000020, ?_⟩
  have hh := hk0 (max k0 10000020) (by omega)
  have hk : 10000020 ≤ max k0 10000020 := Nat.le_max_right _ _
  generalize max k0 10000020 = k at hh hk
  have hi0 := i64_of ho0.2.2.1
  have ht : ∀ t ∈ x1, t.f_Text.length ≤ 100000000 ∧ t.f_Text.length + 100 ≤ k ∧ -9223372036854775808 ≤ t.f_Int ∧ t.f_Int ≤ 9223372036854775807 := fun t h => by
    have h1 := r3 t h
    have h2 := i64_of (ho1 t h).2.2.1
    exact ⟨by omega, by omega, h2.1, h2.2⟩
  unfold dictumlaw02_TokenWrites.f
  rw [write_f k _ (by show x0.f_Text.length ≤ _; omega) (by show x0.f_Text.length + 30 ≤ k; omega), bind_some', rwrite_f k _ (by show x0.f_Text.length ≤ _; omega) (by show x0.f_Text.length + 100 ≤ k; omega) hi0.1 hi0.2, bind_some', join_f k x1 (by omega) (by omega) (by omega) (fun t h => ⟨(ht t h).1, by have := (ht t h).2.1; omega⟩), bind_some', rjoin_f k x1 (by omega) (by omega) ht, bind_some']
  unfold dictumlaw02_num.f
  rw [bind_some', bind_some']
  simp only [beq_self_eq_true, cond_true]
  rw [hh]
  rfl
end Go.Proofs.YtjhmhdedonibbaaDoor.X
