/- Layer 2, plain: tokens joined, by the program. -/
import Derived.Test.YtjhmhdedonibbaaDoorTK
set_option linter.unusedVariables false
set_option linter.unusedSimpArgs false
namespace Go.Proofs.YtjhmhdedonibbaaDoor.X
open Go Go.RowKit Go.Proofs.YtjhmhdedonibbaaDoor.SX
/-- What the tokens are written as; none: one cannot be. -/
def gath : List T_api_Token → Option (List (List UInt8))
  | [] => some []
  | t :: r => if (writeP t).2 ≠ 0 ∨ (t.f_Kind = 0 ∧ r ≠ []) then none else (gath r).map ((writeP t).1 :: ·)
/-- With blanks between. -/
def glue : List (List UInt8) → List UInt8
  | [] => []
  | x :: r => x ++ r.flatMap (fun y => 32 :: y)
def joinP (l : List T_api_Token) : List UInt8 × Int := match gath l with | none => ([], 2) | some ws => (glue ws, 0)
theorem gath_len : ∀ (l : List T_api_Token) (ws : List (List UInt8)), gath l = some ws → ws.length = l.length
  | [], ws, h => by rw [← Option.some.inj h]; rfl
  | t :: r, ws, h => by
    unfold gath at h
    split at h
    · cases h
    · obtain ⟨v, hv, rfl⟩ := Option.map_eq_some_iff.1 h
      rw [List.length_cons, List.length_cons, gath_len r v hv]
theorem join_l1 (k : Nat) (l : List T_api_Token) (hl : l.length ≤ 10000000) (ht : ∀ t ∈ l, t.f_Text.length ≤ 100000000 ∧ t.f_Text.length + 30 ≤ k) : ∀ (d kk i : Nat) (acc : List (List UInt8)), l.length - i ≤ d → d < kk → i ≤ l.length → acc.length ≤ i →
    token_Join.l1 k l kk acc (i : Int) = some (match gath (l.drop i) with | none => .inl ([], 2) | some ws => .inr (acc ++ ws)) := by
  intro d
  induction d with
  | zero =>
    intro kk i acc h1 h2 h3 h4
    obtain ⟨kk, rfl⟩ : ∃ m, kk = m + 1 := ⟨kk - 1, by omega⟩
    rw [token_Join.l1.eq_2, decide_eq_false (by omega), List.drop_eq_nil_of_le (by omega)]
    show some (Sum.inr acc) = some (Sum.inr (acc ++ []))
    rw [List.append_nil]
  | succ d ih =>
    intro kk i acc h1 h2 h3 h4
    obtain ⟨kk, rfl⟩ : ∃ m, kk = m + 1 := ⟨kk - 1, by omega⟩
    by_cases h : i < l.length
    · have htx := ht l[i] (List.getElem_mem h)
      rw [token_Join.l1.eq_2, decide_eq_true (by omega : (i : Int) < (l.length : Int)), cond_true, ix_nat, List.getElem?_eq_getElem h, bind_some', write_f k l[i] (by omega) htx.2, bind_some', drop_cons h, w64 (n := (l.length : Int) - 1) (by omega) (by omega)]
      unfold gath
      have hlast : decide ((i : Int) < (l.length : Int) - 1) = decide (l.drop (i + 1) ≠ []) := by
        rw [decide_eq_decide]
        constructor
        · intro h e
          have := congrArg List.length e
          simp at this
          omega
        · intro hne
          apply Classical.byContradiction
          intro hc
          exact hne (List.drop_eq_nil_of_le (by omega))
      rw [hlast]
      by_cases he : (writeP l[i]).2 = 0
      · rw [show ((writeP l[i]).2 != 0) = false from by rw [he]; rfl, cond_false]
        by_cases hk0 : l[i].f_Kind = 0
        · rw [show (l[i].f_Kind == 0) = true from by rw [hk0]; rfl, cond_true, bind_some']
          by_cases hn : l.drop (i + 1) ≠ []
          · rw [decide_eq_true hn, if_pos (Or.inr ⟨hk0, hn⟩)]; rfl
          · rw [decide_eq_false hn, cond_false, if_neg (fun h => by rcases h with h | h; exact h he; exact hn h.2), chk_of (decide_eq_true (by rw [List.length_singleton]; omega)), bind_some', wsucc i (by omega), ih kk (i + 1) _ (by omega) (by omega) (by omega) (by rw [List.length_append, List.length_singleton]; omega)]
            cases gath (l.drop (i + 1)) with
            | none => rfl
            | some ws => show some (Sum.inr (acc ++ [_] ++ ws)) = some (Sum.inr (acc ++ (_ :: ws))); rw [List.append_assoc]; rfl
        · rw [show (l[i].f_Kind == 0) = false from by rw [← Bool.not_eq_true, beq_iff_eq]; exact hk0, cond_false, bind_some', cond_false, if_neg (fun h => by rcases h with h | h; exact h he; exact hk0 h.1), chk_of (decide_eq_true (by rw [List.length_singleton]; omega)), bind_some', wsucc i (by omega), ih kk (i + 1) _ (by omega) (by omega) (by omega) (by rw [List.length_append, List.length_singleton]; omega)]
          cases gath (l.drop (i + 1)) with
          | none => rfl
          | some ws => show some (Sum.inr (acc ++ [_] ++ ws)) = some (Sum.inr (acc ++ (_ :: ws))); rw [List.append_assoc]; rfl
      · rw [show ((writeP l[i]).2 != 0) = true from by rw [bne_iff_ne]; exact he, cond_true, bind_some', cond_true, if_pos (Or.inl he)]
    · rw [token_Join.l1.eq_2, decide_eq_false (by omega), List.drop_eq_nil_of_le (by omega)]
      show some (Sum.inr acc) = some (Sum.inr (acc ++ []))
      rw [List.append_nil]
end Go.Proofs.YtjhmhdedonibbaaDoor.X
