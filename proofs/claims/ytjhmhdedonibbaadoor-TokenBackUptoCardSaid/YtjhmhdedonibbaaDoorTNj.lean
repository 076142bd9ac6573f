/- Layer 2, plain: tokens joined, by the program. -/
import Derived.Test.YtjhmhdedonibbaaDoorTM
set_option linter.unusedVariables false
set_option linter.unusedSimpArgs false
namespace Go.Proofs.YtjhmhdedonibbaaDoor.X
open Go Go.RowKit Go.Proofs.YtjhmhdedonibbaaDoor.SX
open Go.Lib (itoa decDigits)
def room (l : List T_api_Token) : Nat := (l.map fun t => t.f_Text.length + 20).sum
theorem writeP_len (t : T_api_Token) : (writeP t).1.length ≤ t.f_Text.length + 20 := by
  unfold writeP
  split
  · exact Nat.zero_le _
  split
  · show t.f_Text.length ≤ _; omega
  split
  · rename_i h
    show (itoa t.f_Int).length ≤ _
    unfold itoa
    rw [if_neg (by omega)]
    have := dd_len 19 t.f_Int.toNat (by
      have e20 : (10 : Nat) ^ (19 + 1) = 100000000000000000000 := by decide
      omega)
    omega
  split
  · show t.f_Text.length ≤ _; omega
  · exact Nat.zero_le _
theorem gath_total : ∀ (l : List T_api_Token) (ws : List (List UInt8)), gath l = some ws → total ws ≤ room l
  | [], ws, h => by rw [← Option.some.inj h]; exact Nat.le_refl _
  | t :: r, ws, h => by
    unfold gath at h
    split at h
    · cases h
    · obtain ⟨v, hv, rfl⟩ := Option.map_eq_some_iff.1 h
      have h1 := gath_total r v hv
      have h2 := writeP_len t
      show (writeP t).1.length + total v ≤ t.f_Text.length + 20 + room r
      omega
theorem join_f (k : Nat) (l : List T_api_Token) (hl : l.length ≤ 2000000) (hr : room l ≤ 1000000000) (hk : l.length < k) (ht : ∀ t ∈ l, t.f_Text.length ≤ 100000000 ∧ t.f_Text.length + 30 ≤ k) : token_Join.f k l = some (joinP l) := by
  unfold token_Join.f joinP
  have h := join_l1 k l (by omega) ht l.length k 0 [] (by omega) hk (Nat.zero_le _) (Nat.le_refl _)
  rw [show token_Join.l1 k l k [] 0 = _ from h, bind_some', List.drop_zero]
  cases hg : gath l with
  | none => rfl
  | some ws =>
    have h1 := gath_len l ws hg
    have h2 := gath_total l ws hg
    show (strings_Join.f k ([] ++ ws) [32]).bind _ = _
    rw [List.nil_append, sj_f k ws (by omega) (by omega) (by omega)]
    rfl
end Go.Proofs.YtjhmhdedonibbaaDoor.X
