/- Layer 1, plain: every row of kinds over any bytes. -/
import Derived.Test.YtaidlahjngmenaaDoorLRR
set_option linter.unusedVariables false
set_option linter.unusedSimpArgs false
namespace Go.Proofs.YtaidlahjngmenaaDoor.X
open Go Go.RowKit Go.Proofs.YtaidlahjngmenaaDoor.SX
theorem reads_l1 (k : Nat) : ∀ (d n i : Nat) (x : List UInt8), x.length ≤ 1000000000 → x.length - i ≤ d → d < n → i ≤ x.length → dictumlaw01_OctetReads.l1 k n x (i : Int) = some () := by
  intro d
  induction d with
  | zero =>
    intro n i x hx hd hn hi
    obtain ⟨n, rfl⟩ : ∃ m, n = m + 1 := ⟨n - 1, by omega⟩
    rw [dictumlaw01_OctetReads.l1.eq_2, decide_eq_false (by omega)]
    rfl
  | succ d ih =>
    intro n i x hx hd hn hi
    obtain ⟨n, rfl⟩ : ∃ m, n = m + 1 := ⟨n - 1, by omega⟩
    rw [dictumlaw01_OctetReads.l1.eq_2]
    by_cases h : i < x.length
    · rw [decide_eq_true (by omega : (i : Int) < (x.length : Int)), cond_true, ix_nat, List.getElem?_eq_getElem h, bind_some', bind_some', w64 (by omega) (by omega), show (i : Int) + 1 = ((i + 1 : Nat) : Int) from by omega]
      exact ih n (i + 1) _ (by simp; omega) (by simp; omega) (by omega) (by simp; omega)
    · rw [decide_eq_false (by omega)]; rfl
theorem tail_f (L : List UInt8) : (((octet_Reader_Left.f ⟨true, L⟩).bind fun z216 => (bif (z216 != (L.length : Int)) then some true else (octet_Reader_End.f ⟨true, L⟩).bind fun z221 => some (z221 != (bif decide ((L.length : Int) > 0) then (11 : Int) else 0)))) : Option Bool) = some false := by
  rw [left_f, bind_some', bne_self_eq_false, cond_false, end_f, bind_some', bne_self_eq_false]
theorem reads_l2 (k : Nat) (a1 : List Int) (ha : a1.length ≤ 100000000) : ∀ (d n i : Nat) (L : List UInt8), a1.length - i ≤ d → d < n → i ≤ a1.length → L.length ≤ 100000000 → L.length + 12 ≤ k →
    dictumlaw01_OctetReads.l2 k a1 n L (i : Int) ⟨true, L⟩ = some (.inr ()) := by
  intro d
  induction d with
  | zero =>
    intro n i L hd hn hi hL hk
    obtain ⟨n, rfl⟩ : ∃ m, n = m + 1 := ⟨n - 1, by omega⟩
    rw [dictumlaw01_OctetReads.l2.eq_2, decide_eq_false (by omega)]
    rfl
  | succ d ih =>
    intro n i L hd hn hi hL hk
    obtain ⟨n, rfl⟩ : ∃ m, n = m + 1 := ⟨n - 1, by omega⟩
    rw [dictumlaw01_OctetReads.l2.eq_2]
    by_cases h : i < a1.length
    · rw [decide_eq_true (by omega : (i : Int) < (a1.length : Int)), cond_true, ix_nat, List.getElem?_eq_getElem h, bind_some']
      have next : ∀ L' : List UInt8, L'.length ≤ L.length → (((bif (decide ((L'.length : Int) > 0)) then some 11 else some 0) : Option (Int)).bind fun z203 =>
          ((octet_Reader_Left.f ⟨true, L'⟩).bind fun z216 => (bif (z216 != (L'.length : Int)) then some true else (octet_Reader_End.f ⟨true, L'⟩).bind fun z221 => some (z221 != z203)) : Option (Bool)).bind fun z209 =>
          (bif z209 then some (.inl false) else dictumlaw01_OctetReads.l2 k a1 n L' (wrap64 ((i : Int) + 1)) ⟨true, L'⟩)) = some (.inr ()) := by
        intro L' hl
        rw [show ((bif (decide ((L'.length : Int) > 0)) then some 11 else some 0) : Option (Int)) = some (bif decide ((L'.length : Int) > 0) then (11 : Int) else 0) from by cases decide ((L'.length : Int) > 0) <;> rfl, bind_some', tail_f, bind_some', cond_false,
          w64 (by omega) (by omega), show (i : Int) + 1 = ((i + 1 : Nat) : Int) from by omega]
        exact ih n (i + 1) L' (by omega) (by omega) (by omega) (by omega) (by omega)
      cases e0 : (a1[i] == 0) with
      | true =>
        rw [cond_true, u8_f]
        cases L with
        | nil => exact next [] (by simp)
        | cons c t =>
          have := next t (by simp)
          rw [bind_some', show (((c :: t).length : Int) == 0) = false from by simp; omega, cond_false, show cut (c :: t) 1 ((c :: t).length : Int) = some t from by have := cut_from (c :: t) (a := 1) (by simp); simpa using this]
          rw [show ix (c :: t) (0 : Int) = some c from rfl, bind_some', beq_self_eq_true, Bool.not_true, cond_false, bne_self_eq_false, bind_some', cond_false, bind_some', bind_some']
          exact this
      | false =>
      rw [cond_false]
      cases e1 : (a1[i] == 1) with
      | true =>
        rw [cond_true, pnumT_f L (by omega) k (by omega), rnumT_f L (by omega) k (by omega), bind_some', bind_some']
        cases hn : numT L with
        | short =>
          have := next L (Nat.le_refl _)
          rw [show prgN L TN.short = (0, 10, ⟨true, L⟩) from rfl, show refN TN.short = (0, 0, 10) from rfl]
          dsimp only
          rw [show cut L 0 (L.length : Int) = some L from by have := cut_from L (a := 0) (by omega); simpa using this]
          exact this
        | long =>
          have := next L (Nat.le_refl _)
          rw [show prgN L TN.long = (0, 11, ⟨true, L⟩) from rfl, show refN TN.long = (0, 0, 11) from rfl]
          dsimp only
          rw [show cut L 0 (L.length : Int) = some L from by have := cut_from L (a := 0) (by omega); simpa using this]
          exact this
        | ok v j =>
          have hj := takeN_ok _ _ _ _ _ _ hn
          have := next (L.drop j) (by simp)
          rw [show prgN L (TN.ok v j) = (v, 0, ⟨true, L.drop j⟩) from rfl, show refN (TN.ok v j) = (v, (j : Int), 0) from rfl]
          dsimp only
          rw [cut_from L (by omega), beq_self_eq_true, Bool.not_true, cond_false, bne_self_eq_false, bind_some', cond_false, bind_some', bind_some']
          exact this
      | false =>
      rw [cond_false]
      cases e2 : (a1[i] == 2) with
      | true =>
        rw [cond_true, ptextT_f L (by omega) k (by omega), rtextT_f L (by omega) k (by omega), bind_some', bind_some']
        cases hn : textT L with
        | bad e =>
          have := next L (Nat.le_refl _)
          rw [show prgT L (TT.bad e) = ([], e, ⟨true, L⟩) from rfl, show refT (TT.bad e) = ([], 0, e) from rfl]
          dsimp only
          rw [show cut L 0 (L.length : Int) = some L from by have := cut_from L (a := 0) (by omega); simpa using this, beq_self_eq_true, Bool.not_true, cond_false, bne_self_eq_false, bind_some', cond_false, bind_some', bind_some']
          exact this
        | ok s j =>
          have hj := textT_ok hn
          have := next (L.drop j) (by simp)
          rw [show prgT L (TT.ok s j) = (s, 0, ⟨true, L.drop j⟩) from rfl, show refT (TT.ok s j) = (s, (j : Int), 0) from rfl]
          dsimp only
          rw [cut_from L (by omega), beq_self_eq_true, Bool.not_true, cond_false, bne_self_eq_false, bind_some', cond_false, bind_some', bind_some']
          exact this
      | false =>
        rw [cond_false]
        exact next L (Nat.le_refl _)
    · rw [decide_eq_false (by omega)]; rfl
theorem OctetReads_pure : ∀ (x0 : (List UInt8)) (x1 : (List Int)), (bulkL bulk1) x0 + (bulkL bulk1) x1 ≤ 1048576 → (okL okT) x0 → (okL (okI .i64)) x1 → ∃ k, dictumlaw01_OctetReads.f k x0 x1 = some true := by
  intro x0 x1 hb _ _
  have h0 := len_le_bulk (bulk1 : UInt8 → Nat) (fun _ => Nat.le_refl _) x0
  have h1 := len_le_bulk (bulk1 : Int → Nat) (fun _ => Nat.le_refl _) x1
  simp only [bulkL] at hb
  obtain ⟨k0, hk0⟩ := heads_ev
  refine ⟨max k0 10000020, ?_⟩
  generalize hk : max k0 10000020 = k
  unfold dictumlaw01_OctetReads.f octet_NewReader.f
  rw [chk_of (decide_eq_true (by simp; omega)), bind_some', List.nil_append, clone_f x0 (by omega)]
  have g1 := reads_l1 k x0.length k 0 x0 (by omega) (by omega) (by omega) (by omega)
  have g2 := reads_l2 k x1 (by omega) x1.length k 0 x0 (by omega) (by omega) (by omega) (by omega) (by omega)
  rw [show ((0 : Nat) : Int) = 0 from rfl] at g1 g2
  rw [bind_some', bind_some', g1, bind_some', g2, bind_some', hk0 k (by omega)]
  rfl
end Go.Proofs.YtaidlahjngmenaaDoor.X
