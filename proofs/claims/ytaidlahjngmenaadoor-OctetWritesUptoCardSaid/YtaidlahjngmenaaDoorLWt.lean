/- Layer 1, plain: a piece's bytes. -/
import Derived.Test.YtaidlahjngmenaaDoorLU
import Derived.Test.YtaidlahjngmenaaDoorLW
set_option linter.unusedVariables false
set_option linter.unusedSimpArgs false
namespace Go.Proofs.YtaidlahjngmenaaDoor.X
open Go Go.RowKit Go.Proofs.YtaidlahjngmenaaDoor.SX
/-- A text's bytes and its error. -/
def textB (s : List UInt8) : List UInt8 := if Lib.validD s = true ∧ s.length ≤ 65536 then numOf 11 (ofI64 (s.length : Int)) ++ s else []
def textE (s : List UInt8) : Int := if Lib.validD s = true then (if s.length ≤ 65536 then 0 else 11) else 12
theorem textB_len (s : List UInt8) : (textB s).length ≤ 11 + s.length := by
  unfold textB
  split
  · have := numOf_len 11 (ofI64 (s.length : Int)); simp; omega
  · simp
theorem rtext_f (s : List UInt8) (hs : s.length ≤ 100000000) (k : Nat) (hk : s.length + 10 ≤ k) : dictumref01_Text.f k s = some (textB s, textE s) := by
  unfold dictumref01_Text.f textB textE
  rw [istext_f s (by omega) k (by omega)]
  simp only [bind_some']
  cases hv : Lib.validD s with
  | false => rfl
  | true =>
    simp only [Bool.not_true, cond_false, if_true, true_and]
    by_cases h : s.length ≤ 65536
    · rw [decide_eq_false (by omega), cond_false, rnum_f _ k (by omega), if_pos h, if_pos h]
      have := numOf_len 11 (ofI64 (s.length : Int))
      simp only [bind_some']
      rw [chk_of (decide_eq_true (by omega))]
      rfl
    · rw [decide_eq_true (by omega), if_neg h, if_neg h]; rfl
theorem wtext_f (w : T_octet_Writer) (s : List UInt8) (hs : s.length ≤ 100000000) (hl : w.f_B.length ≤ 100000000) (k : Nat) (hk : s.length + 10 ≤ k) : octet_Writer_Text.f k w s = some (textE s, ⟨w.f_B ++ textB s⟩) := by
  unfold octet_Writer_Text.f textB textE utf8_ValidString.f
  rw [chk_of (decide_eq_true (by omega))]
  simp only [bind_some']
  cases hv : Lib.validD s with
  | false => simp
  | true =>
    simp only [Bool.not_true, cond_false, if_true, true_and]
    by_cases h : s.length ≤ 65536
    · rw [decide_eq_false (by omega), cond_false, wnum_f _ w (by omega) k (by omega), if_pos h, if_pos h]
      have := numOf_len 11 (ofI64 (s.length : Int))
      simp only [bind_some']
      rw [chk_of (decide_eq_true (by simp; omega))]
      simp
    · rw [decide_eq_true (by omega), if_neg h, if_neg h]; simp
def pieceB (p : T_dictumlaw01_Piece) : List UInt8 := if p.f_Kind = 0 then [ofI8 (p.f_N.toNat : Int)] else if p.f_Kind = 1 then numOf 11 p.f_N else if p.f_Kind = 2 then textB p.f_S else []
def pieceE (p : T_dictumlaw01_Piece) : Int := if p.f_Kind = 2 then textE p.f_S else 0
theorem pieceB_len (p : T_dictumlaw01_Piece) : (pieceB p).length ≤ 11 + p.f_S.length := by
  unfold pieceB
  split
  · simp; omega
  · split
    · have := numOf_len 11 p.f_N; omega
    · split
      · exact textB_len _
      · simp
theorem write_f (w : T_octet_Writer) (p : T_dictumlaw01_Piece) (hs : p.f_S.length ≤ 100000000) (hl : w.f_B.length ≤ 100000000) (k : Nat) (hk : p.f_S.length + 10 ≤ k) :
    dictumlaw01_write.f k w p = some (pieceB p, pieceE p, pieceE p, ⟨w.f_B ++ pieceB p⟩) := by
  unfold dictumlaw01_write.f pieceB pieceE
  by_cases h0 : p.f_Kind = 0
  · rw [h0]
    unfold octet_Writer_U8.f
    rw [chk_of (decide_eq_true (by simp; omega))]
    rfl
  rw [show (p.f_Kind == 0) = false from by simpa using h0, if_neg h0]
  by_cases h1 : p.f_Kind = 1
  · rw [h1, wnum_f _ w (by omega) k (by omega), rnum_f _ k (by omega)]
    rfl
  rw [show (p.f_Kind == 1) = false from by simpa using h1, if_neg h1]
  by_cases h2 : p.f_Kind = 2
  · rw [h2, rtext_f _ hs k hk, wtext_f w _ hs hl k hk]
    rfl
  · rw [show (p.f_Kind == 2) = false from by simpa using h2, if_neg h2, if_neg h2]
    simp
end Go.Proofs.YtaidlahjngmenaaDoor.X
