/- Layer 1, plain: every row of pieces. -/
import Derived.Test.YtaidlahjngmenaaDoorLWt
set_option linter.unusedVariables false
set_option linter.unusedSimpArgs false
namespace Go.Proofs.YtaidlahjngmenaaDoor.X
open Go Go.RowKit Go.Proofs.YtaidlahjngmenaaDoor.SX
theorem writes_l1 (k : Nat) (a0 : List T_dictumlaw01_Piece) (hlen : a0.length ≤ 100000000) : ∀ (d n i : Nat) (B : List UInt8), a0.length - i ≤ d → d < n → i ≤ a0.length → B.length + 3 * ((a0.drop i).map T_dictumlaw01_Piece.bulk).sum ≤ 10000000 → 10000020 ≤ k →
    dictumlaw01_OctetWrites.l1 k a0 n B (i : Int) ⟨B⟩ = some (.inr ()) := by
  intro d
  induction d with
  | zero =>
    intro n i B hd hn hi hb hk
    obtain ⟨n, rfl⟩ : ∃ m, n = m + 1 := ⟨n - 1, by omega⟩
    rw [dictumlaw01_OctetWrites.l1.eq_2, decide_eq_false (by omega)]
    rfl
  | succ d ih =>
    intro n i B hd hn hi hb hk
    obtain ⟨n, rfl⟩ : ∃ m, n = m + 1 := ⟨n - 1, by omega⟩
    rw [dictumlaw01_OctetWrites.l1.eq_2]
    by_cases h : i < a0.length
    · rw [decide_eq_true (by omega : (i : Int) < (a0.length : Int)), ix_nat, List.getElem?_eq_getElem h]
      rw [drop_cons h] at hb
      simp only [List.map_cons, List.sum_cons, T_dictumlaw01_Piece.bulk, bulk1, bulkS] at hb
      have hl := pieceB_len a0[i]
      simp only [cond_true, bind_some']
      rw [write_f ⟨B⟩ a0[i] (by omega) (by show B.length ≤ _; omega) k (by omega)]
      simp only [bind_some']
      rw [chk_of (decide_eq_true (by omega)), same_f _ _ (by simp; omega) k (by simp; omega)]
      simp only [bind_some', bne_self_eq_false, cond_false, beq_self_eq_true, Bool.not_true]
      rw [w64 (by omega) (by omega), show (i : Int) + 1 = ((i + 1 : Nat) : Int) from by omega]
      exact ih n (i + 1) (B ++ pieceB a0[i]) (by omega) (by omega) (by omega) (by simp only [List.length_append]; omega) hk
    · rw [decide_eq_false (by omega)]; rfl
theorem OctetWrites_pure : ∀ (x0 : (List T_dictumlaw01_Piece)), (bulkL T_dictumlaw01_Piece.bulk) x0 ≤ 1048576 → (okL T_dictumlaw01_Piece.ok) x0 → ∃ k, dictumlaw01_OctetWrites.f k x0 = some true := by
  intro x0 hb _
  simp only [bulkL] at hb
  have hlen : x0.length ≤ (x0.map T_dictumlaw01_Piece.bulk).sum := by
    exact len_le_bulk _ (fun a => by simp [T_dictumlaw01_Piece.bulk]) x0
  obtain ⟨k0, hk0⟩ := heads_ev
  refine ⟨max k0 10000020, ?_⟩
  unfold dictumlaw01_OctetWrites.f
  have h := writes_l1 (max k0 10000020) x0 (by omega) x0.length (max k0 10000020) 0 [] (by omega) (by omega) (by omega) (by simp; omega) (by omega)
  rw [show ((0 : Nat) : Int) = 0 from rfl] at h
  rw [h]
  simp only [bind_some']
  rw [hk0 _ (by omega)]
  rfl
end Go.Proofs.YtaidlahjngmenaaDoor.X
