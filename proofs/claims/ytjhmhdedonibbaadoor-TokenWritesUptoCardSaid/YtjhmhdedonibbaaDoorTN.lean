/- Layer 2, plain: tokens joined; the law of writing. -/
import Derived.Test.YtjhmhdedonibbaaDoorTM
import Derived.Test.YtjhmhdedonibbaaDoorTKw
import Derived.Test.YtjhmhdedonibbaaDoorTAl
set_option linter.unusedVariables false
set_option linter.unusedSimpArgs false
namespace Go.Proofs.YtjhmhdedonibbaaDoor.X
open Go Go.RowKit Go.Proofs.YtjhmhdedonibbaaDoor.SX
open Go.Lib (itoa decDigits)
def room (l : List T_api_Token) : Nat := (l.map fun t => t.f_Text.length + 20).sum
theorem writeP_len (t : T_api_Token) : (writeP t).1.length ≤ t.f_Text.length + 20 := by
  unfold writeP
  split
  · exact Nat.zero_le _
  split
  · show t.f_Text.length ≤ _; omega
  split
  · rename_i h
    show (itoa t.f_Int).length ≤ _
    unfold itoa
    rw [if_neg (by omega)]
    have := dd_len 19 t.f_Int.toNat (by
      have e20 : (10 : Nat) ^ (19 + 1) = 100000000000000000000 := by decide
      omega)
    omega
  split
  · show t.f_Text.length ≤ _; omega
  · exact Nat.zero_le _
theorem gath_total : ∀ (l : List T_api_Token) (ws : List (List UInt8)), gath l = some ws → total ws ≤ room l
  | [], ws, h => by rw [← Option.some.inj h]; exact Nat.le_refl _
  | t :: r, ws, h => by
    unfold gath at h
    split at h
    · cases h
    · obtain ⟨v, hv, rfl⟩ := Option.map_eq_some_iff.1 h
      have h1 := gath_total r v hv
      have h2 := writeP_len t
      show (writeP t).1.length + total v ≤ t.f_Text.length + 20 + room r
      omega
theorem join_f (k : Nat) (l : List T_api_Token) (hl : l.length ≤ 2000000) (hr : room l ≤ 1000000000) (hk : l.length < k) (ht : ∀ t ∈ l, t.f_Text.length ≤ 100000000 ∧ t.f_Text.length + 30 ≤ k) : token_Join.f k l = some (joinP l) := by
  unfold token_Join.f joinP
  have h := join_l1 k l (by omega) ht l.length k 0 [] (by omega) hk (Nat.zero_le _) (Nat.le_refl _)
  rw [show token_Join.l1 k l k [] 0 = _ from h, bind_some', List.drop_zero]
  cases hg : gath l with
  | none => rfl
  | some ws =>
    have h1 := gath_len l ws hg
    have h2 := gath_total l ws hg
    show (strings_Join.f k ([] ++ ws) [32]).bind _ = _
    rw [List.nil_append, sj_f k ws (by omega) (by omega) (by omega)]
    rfl
def pre (i : Nat) (ws : List (List UInt8)) : List UInt8 := if i = 0 then glue ws else ws.flatMap (fun y => 32 :: y)
theorem pre_cons (i : Nat) (w : List UInt8) (ws : List (List UInt8)) : pre i (w :: ws) = (if i = 0 then w else 32 :: w) ++ pre (i + 1) ws := by
  unfold pre
  rw [if_neg (Nat.succ_ne_zero i)]
  by_cases h : i = 0
  · rw [if_pos h, if_pos h]; rfl
  · rw [if_neg h, if_neg h, List.flatMap_cons]
theorem rjoin_l1 (k : Nat) (l : List T_api_Token) (hl : l.length ≤ 10000000) (ht : ∀ t ∈ l, t.f_Text.length ≤ 100000000 ∧ t.f_Text.length + 100 ≤ k ∧ -9223372036854775808 ≤ t.f_Int ∧ t.f_Int ≤ 9223372036854775807) : ∀ (d kk i : Nat) (acc : List UInt8), l.length - i ≤ d → d < kk → i ≤ l.length → acc.length ≤ 1000000000 * i →
    dictumref02_Join.l1 k l kk acc (i : Int) = some (match gath (l.drop i) with | none => .inl ([], 2) | some ws => .inr (acc ++ pre i ws)) := by
  intro d
  have stop : ∀ (kk i : Nat) (acc : List UInt8), l.length ≤ i → dictumref02_Join.l1 k l (kk + 1) acc (i : Int) = some (match gath (l.drop i) with | none => .inl ([], 2) | some ws => .inr (acc ++ pre i ws)) := by
    intro kk i acc h
    rw [dictumref02_Join.l1.eq_2, decide_eq_false (by omega), List.drop_eq_nil_of_le h]
    show some (Sum.inr acc) = some (Sum.inr (acc ++ pre i []))
    have : pre i [] = [] := by unfold pre; split <;> rfl
    rw [this, List.append_nil]
  induction d with
  | zero =>
    intro kk i acc h1 h2 h3 h4
    obtain ⟨kk, rfl⟩ : ∃ m, kk = m + 1 := ⟨kk - 1, by omega⟩
    exact stop kk i acc (by omega)
  | succ d ih =>
    intro kk i acc h1 h2 h3 h4
    obtain ⟨kk, rfl⟩ : ∃ m, kk = m + 1 := ⟨kk - 1, by omega⟩
    by_cases h : i < l.length
    · obtain ⟨t1, t2, t3, t4⟩ := ht l[i] (List.getElem_mem h)
      have hwl := writeP_len l[i]
      rw [dictumref02_Join.l1.eq_2, decide_eq_true (by omega : (i : Int) < (l.length : Int)), cond_true, ix_nat, List.getElem?_eq_getElem h, bind_some', rwrite_f k l[i] t1 t2 t3 t4, bind_some', drop_cons h, w64 (n := (l.length : Int) - 1) (by omega) (by omega)]
      unfold gath
      have hlast : decide ((i : Int) < (l.length : Int) - 1) = decide (l.drop (i + 1) ≠ []) := by
        rw [decide_eq_decide]
        constructor
        · intro h e
          have := congrArg List.length e
          simp at this
          omega
        · intro hne
          apply Classical.byContradiction
          intro hc
          exact hne (List.drop_eq_nil_of_le (by omega))
      rw [hlast]
      have goon : ((bif (decide ((i : Int) > 0)) then (chk (decide (acc.length + ([32] : List UInt8).length ≤ 9223372036854775807))).bind fun _ => some (acc ++ ([32] : List UInt8)) else some acc) : Option (List UInt8)).bind (fun z134 => (chk (decide (z134.length + (writeP l[i]).1.length ≤ 9223372036854775807))).bind fun _ => dictumref02_Join.l1 k l kk (z134 ++ (writeP l[i]).1) (wrap64 ((i : Int) + 1))) =
          some (match (gath (l.drop (i + 1))).map ((writeP l[i]).1 :: ·) with | none => .inl ([], 2) | some ws => .inr (acc ++ pre i ws)) := by
        rw [wsucc i (by omega)]
        by_cases hi : i = 0
        · rw [decide_eq_false (by omega : ¬ (i : Int) > 0), cond_false, bind_some', chk_of (decide_eq_true (by omega)), bind_some', ih kk (i + 1) _ (by omega) (by omega) (by omega) (by rw [List.length_append]; omega)]
          cases gath (l.drop (i + 1)) with
          | none => rfl
          | some ws =>
            show some (Sum.inr (acc ++ (writeP l[i]).1 ++ pre (i + 1) ws)) = some (Sum.inr (acc ++ pre i ((writeP l[i]).1 :: ws)))
            rw [pre_cons, if_pos hi, List.append_assoc]
        · rw [decide_eq_true (by omega : (i : Int) > 0), cond_true, chk_of (decide_eq_true (by rw [List.length_singleton]; omega)), bind_some', bind_some', chk_of (decide_eq_true (by rw [List.length_append, List.length_singleton]; omega)), bind_some', ih kk (i + 1) _ (by omega) (by omega) (by omega) (by rw [List.length_append, List.length_append, List.length_singleton]; omega)]
          cases gath (l.drop (i + 1)) with
          | none => rfl
          | some ws =>
            show some (Sum.inr (acc ++ [32] ++ (writeP l[i]).1 ++ pre (i + 1) ws)) = some (Sum.inr (acc ++ pre i ((writeP l[i]).1 :: ws)))
            rw [pre_cons, if_neg hi, List.append_assoc, List.append_assoc]
            rfl
      by_cases he : (writeP l[i]).2 = 0
      · rw [show ((writeP l[i]).2 != 0) = false from by rw [he]; rfl, cond_false, bind_some']
        by_cases hk0 : l[i].f_Kind = 0
        · rw [show (l[i].f_Kind == 0) = true from by rw [hk0]; rfl, cond_true, bind_some']
          by_cases hn : l.drop (i + 1) ≠ []
          · rw [decide_eq_true hn, if_pos (Or.inr ⟨hk0, hn⟩)]; rfl
          · rw [decide_eq_false hn, cond_false, if_neg (fun h => by rcases h with h | h; exact h he; exact hn h.2)]
            exact goon
        · rw [show (l[i].f_Kind == 0) = false from by rw [← Bool.not_eq_true, beq_iff_eq]; exact hk0, cond_false, bind_some', cond_false, if_neg (fun h => by rcases h with h | h; exact h he; exact hk0 h.1)]
          exact goon
      · rw [show ((writeP l[i]).2 != 0) = true from by rw [bne_iff_ne]; exact he, cond_true, bind_some', cond_true, if_pos (Or.inl he)]
    · exact stop kk i acc (by omega)
theorem rjoin_f (k : Nat) (l : List T_api_Token) (hl : l.length ≤ 2000000) (hk : l.length < k) (ht : ∀ t ∈ l, t.f_Text.length ≤ 100000000 ∧ t.f_Text.length + 100 ≤ k ∧ -9223372036854775808 ≤ t.f_Int ∧ t.f_Int ≤ 9223372036854775807) : dictumref02_Join.f k l = some (joinP l) := by
  unfold dictumref02_Join.f joinP
  have h := rjoin_l1 k l (by omega) ht l.length k 0 [] (by omega) hk (Nat.zero_le _) (Nat.zero_le _)
  rw [show dictumref02_Join.l1 k l k [] 0 = _ from h, bind_some', List.drop_zero]
  cases gath l with
  | none => rfl
  | some ws => rfl
end Go.Proofs.YtjhmhdedonibbaaDoor.X
