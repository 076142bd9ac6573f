/- Layer 1, plain: what is written is read again. -/
import Derived.Test.YtaidlahjngmenaaDoorLR
import Derived.Test.YtaidlahjngmenaaDoorLWt
set_option linter.unusedVariables false
set_option linter.unusedSimpArgs false
namespace Go.Proofs.YtaidlahjngmenaaDoor.X
open Go Go.RowKit Go.Proofs.YtaidlahjngmenaaDoor.SX
theorem or_parts (w i : Nat) : (w % 128) * 2 ^ (7 * i) ||| (w / 128) * 2 ^ (7 * (i + 1)) = w * 2 ^ (7 * i) := by
  have hp : 0 < 2 ^ (7 * i) := Nat.two_pow_pos _
  have e : 2 ^ (7 * (i + 1)) = 2 ^ (7 * i) * 128 := by rw [Nat.mul_add, Nat.pow_add]
  have hlt : (w % 128) * 2 ^ (7 * i) < 2 ^ (7 * (i + 1)) := by
    rw [e, Nat.mul_comm]
    exact Nat.mul_lt_mul_of_pos_left (Nat.mod_lt _ (by decide)) hp
  have h := Nat.two_pow_add_eq_or_of_lt hlt (w / 128)
  rw [Nat.or_comm, Nat.mul_comm (w / 128), ← h, e, Nat.mul_assoc, ← Nat.mul_comm (2 ^ (7 * i)), ← Nat.mul_add, Nat.mul_comm w]
  congr 1
  omega
theorem shl_nat (w : UInt64) (n : Nat) (h : w.toNat * 2 ^ n < 18446744073709551616) : (shl64 w n).toNat = w.toNat * 2 ^ n := by
  unfold shl64
  rw [UInt64.toNat_ofNat', Nat.mod_eq_of_lt h]
theorem or128 : ∀ c : Fin 256, (UInt8.ofNat c.val ||| 128).toNat = 128 + c.val % 128 ∧ ((UInt8.ofNat c.val ||| 128) &&& 127).toNat = c.val % 128 := by decide +kernel
theorem and127 : ∀ c : Fin 256, (UInt8.ofNat c.val &&& 127).toNat = c.val % 128 := by decide +kernel
theorem ofI8_val (n : Nat) : (ofI8 (n : Int)).toNat = n % 256 := by have := ofI8_nat (n : Int); omega
theorem ofI64_val (n : Nat) (h : n < 18446744073709551616) : (ofI64 (n : Int)).toNat = n := by have := ofI64_nat (n : Int); omega
theorem part_big (w i : Nat) (h : (w % 128) * 2 ^ (7 * i) < 18446744073709551616) : (part (ofI8 (w : Int) ||| 128) i).toNat = (w % 128) * 2 ^ (7 * i) := by
  have h1 := (or128 ⟨(ofI8 (w : Int)).toNat, (ofI8 (w : Int)).toNat_lt⟩).2
  simp only [UInt8.ofNat_toNat] at h1
  have h2 := ofI8_val w
  have h3 : ((ofI8 (w : Int) ||| 128) &&& 127).toNat = w % 128 := by omega
  unfold part
  rw [h3]
  have h4 := ofI64_val (w % 128) (by omega)
  rw [shl_nat _ _ (by rw [h4]; exact h), h4]
theorem part_small (w i : Nat) (hw : w < 128) (h : w * 2 ^ (7 * i) < 18446744073709551616) : (part (ofI8 (w : Int)) i).toNat = w * 2 ^ (7 * i) := by
  have h1 := and127 ⟨(ofI8 (w : Int)).toNat, (ofI8 (w : Int)).toNat_lt⟩
  simp only [UInt8.ofNat_toNat] at h1
  have h2 := ofI8_val w
  have h3 : (ofI8 (w : Int) &&& 127).toNat = w := by omega
  unfold part
  rw [h3]
  have h4 := ofI64_val w (by omega)
  rw [shl_nat _ _ (by rw [h4]; exact h), h4]
theorem takeN_numOf : ∀ (m n i : Nat) (acc w : UInt64) (rest : List UInt8), i + m = 10 → m ≤ n → w.toNat * 2 ^ (7 * i) < 18446744073709551616 → (0 < i → 0 < w.toNat) →
    takeN m acc i (numOf n w ++ rest) = if m = 0 then .long else .ok (acc ||| shl64 w (7 * i)) (i + (numOf n w).length) := by
  intro m
  induction m with
  | zero => intro n i acc w rest _ _ _ _; rfl
  | succ m ih =>
    intro n i acc w rest hi hn hw h0
    obtain ⟨n, rfl⟩ : ∃ q, n = q + 1 := ⟨n - 1, by omega⟩
    rw [if_neg (by omega), numOf.eq_2]
    have hwl := w.toNat_lt
    by_cases h : 128 ≤ w.toNat
    · rw [if_pos h, List.cons_append]
      have hi8 : i ≤ 8 := by
        rcases Nat.lt_or_ge 8 i with h9 | h9
        · have : i = 9 := by omega
          subst this
          have h2 : 128 * 2 ^ (7 * 9) ≤ w.toNat * 2 ^ (7 * 9) := Nat.mul_le_mul_right _ h
          have h3 : (18446744073709551616 : Nat) ≤ 128 * 2 ^ (7 * 9) := by decide
          omega
        · exact h9
      have hm0 : m ≠ 0 := by omega
      have hc := (or128 ⟨(ofI8 (w.toNat : Int)).toNat, (ofI8 (w.toNat : Int)).toNat_lt⟩).1
      simp only [UInt8.ofNat_toNat] at hc
      have hs := shr7 w
      have hle : (w.toNat / 128) * 2 ^ (7 * (i + 1)) ≤ w.toNat * 2 ^ (7 * i) := by
        rw [Nat.mul_add, Nat.pow_add, Nat.mul_comm (2 ^ (7 * i)), ← Nat.mul_assoc]
        exact Nat.mul_le_mul_right _ (by omega)
      unfold takeN
      rw [if_neg (by omega), if_neg (by omega), ih n (i + 1) _ (shr64 w 7) rest (by omega) (by omega) (by rw [hs]; omega) (fun _ => by rw [hs]; omega), if_neg hm0]
      congr 1
      · rw [UInt64.or_assoc]
        congr 1
        apply UInt64.toNat_inj.1
        have hle2 : (w.toNat % 128) * 2 ^ (7 * i) ≤ w.toNat * 2 ^ (7 * i) := Nat.mul_le_mul_right _ (Nat.mod_le _ _)
        rw [UInt64.toNat_or, part_big _ _ (by omega), shl_nat _ _ (by rw [hs]; omega), shl_nat _ _ hw, hs, or_parts]
      · simp only [List.length_cons]; omega
    · rw [if_neg h]
      have hc := ofI8_val w.toNat
      have h9 : ¬ (i = 9 ∧ 1 < (ofI8 (w.toNat : Int)).toNat) := by
        rintro ⟨rfl, h1⟩
        have h2 : 2 * 2 ^ (7 * 9) ≤ w.toNat * 2 ^ (7 * 9) := Nat.mul_le_mul_right _ (by omega)
        have h3 : (18446744073709551616 : Nat) ≤ 2 * 2 ^ (7 * 9) := by decide
        omega
      rw [List.singleton_append]
      unfold takeN
      rw [if_neg h9, if_pos (by omega), if_neg (by rintro ⟨h1, h2⟩; have := h0 h2; omega)]
      congr 2
      apply UInt64.toNat_inj.1
      rw [part_small _ _ (by omega) hw, shl_nat _ _ hw]
theorem numT_numOf (v : UInt64) (rest : List UInt8) : numT (numOf 11 v ++ rest) = .ok v (numOf 11 v).length := by
  have h := takeN_numOf 10 11 0 0 v rest rfl (by decide) (by have := v.toNat_lt; simp; omega) (fun h => absurd h (by decide))
  rw [if_neg (by decide), Nat.mul_zero, shl64_zero, UInt64.zero_or, Nat.zero_add] at h
  exact h
theorem textT_textB (s rest : List UInt8) (h : textE s = 0) : textT (textB s ++ rest) = .ok s (textB s).length := by
  unfold textE at h
  split at h
  · rename_i hv
    split at h
    · rename_i hl
      have hb : textB s = numOf 11 (ofI64 (s.length : Int)) ++ s := by unfold textB; rw [if_pos ⟨hv, hl⟩]
      have hn := ofI64_val s.length (by omega)
      rw [hb, List.append_assoc]
      unfold textT
      rw [numT_numOf]
      simp only [hn, List.length_append, List.drop_left, List.take_left]
      rw [if_neg (by omega), if_neg (by omega), if_pos hv]
    · cases h
  · cases h
def kept (l : List T_dictumlaw01_Piece) : List T_dictumlaw01_Piece := l.filter fun p => pieceE p == 0
theorem kept_yes {p : T_dictumlaw01_Piece} {l : List T_dictumlaw01_Piece} (h : (pieceE p == 0) = true) : kept (p :: l) = p :: kept l := by
  unfold kept
  rw [List.filter_cons, h, if_pos rfl]
theorem kept_no {p : T_dictumlaw01_Piece} {l : List T_dictumlaw01_Piece} (h : (pieceE p == 0) = false) : kept (p :: l) = kept l := by
  unfold kept
  rw [List.filter_cons, h]
  rfl
theorem kept_B : ∀ l : List T_dictumlaw01_Piece, (kept l).flatMap pieceB = l.flatMap pieceB
  | [] => rfl
  | p :: l => by
    cases h : (pieceE p == 0) with
    | true => rw [kept_yes h, List.flatMap_cons, List.flatMap_cons, kept_B l]
    | false =>
      have hp : pieceB p = [] := by
        unfold pieceE at h
        split at h
        · rename_i h2
          unfold pieceB textB
          rw [if_neg (by omega), if_neg (by omega), if_pos h2, if_neg]
          rintro ⟨h3, h4⟩
          unfold textE at h
          rw [if_pos h3, if_pos h4] at h
          cases h
        · cases h
      rw [kept_no h, List.flatMap_cons, hp, List.nil_append, kept_B l]
theorem back_l1 (k : Nat) (a0 : List T_dictumlaw01_Piece) (hlen : a0.length ≤ 100000000) : ∀ (d n i : Nat) (W : List T_dictumlaw01_Piece) (B : List UInt8), a0.length - i ≤ d → d < n → i ≤ a0.length → W.length ≤ i → B.length + 3 * ((a0.drop i).map T_dictumlaw01_Piece.bulk).sum ≤ 10000000 → 10000020 ≤ k →
    dictumlaw01_OctetBack.l1 k a0 n W (i : Int) ⟨B⟩ = some (.inr (W ++ kept (a0.drop i), ⟨B ++ (a0.drop i).flatMap pieceB⟩)) := by
  intro d
  induction d with
  | zero =>
    intro n i W B hd hn hi hW hb hk
    obtain ⟨n, rfl⟩ : ∃ m, n = m + 1 := ⟨n - 1, by omega⟩
    rw [dictumlaw01_OctetBack.l1.eq_2, decide_eq_false (by omega), List.drop_eq_nil_of_le (by omega), cond_false]
    simp [kept]
  | succ d ih =>
    intro n i W B hd hn hi hW hb hk
    obtain ⟨n, rfl⟩ : ∃ m, n = m + 1 := ⟨n - 1, by omega⟩
    rw [dictumlaw01_OctetBack.l1.eq_2]
    by_cases h : i < a0.length
    · rw [decide_eq_true (by omega : (i : Int) < (a0.length : Int)), ix_nat, List.getElem?_eq_getElem h]
      rw [drop_cons h] at hb ⊢
      simp only [List.map_cons, List.sum_cons, T_dictumlaw01_Piece.bulk, bulk1, bulkS] at hb
      have hl := pieceB_len a0[i]
      rw [cond_true, bind_some', write_f ⟨B⟩ a0[i] (by omega) (by show B.length ≤ _; omega) k (by omega), bind_some', bne_self_eq_false, cond_false]
      cases he : (pieceE a0[i] == 0) with
      | true =>
        rw [cond_true, bind_some', chk_of (decide_eq_true (show (W.length + [a0[i]].length) * 32 ≤ 140737488355328 by rw [List.length_singleton]; omega)), bind_some', bind_some']
        dsimp only
        rw [wsucc i (by omega), ih n (i + 1) (W ++ [a0[i]]) (B ++ pieceB a0[i]) (by omega) (by omega) (by omega) (by simp; omega) (by simp only [List.length_append]; omega) hk]
        rw [kept_yes he, List.append_assoc, List.append_assoc, List.flatMap_cons]
        rfl
      | false =>
        rw [cond_false, bind_some']
        dsimp only
        rw [wsucc i (by omega), ih n (i + 1) W (B ++ pieceB a0[i]) (by omega) (by omega) (by omega) (by omega) (by simp only [List.length_append]; omega) hk]
        rw [kept_no he, List.append_assoc, List.flatMap_cons]
    · rw [decide_eq_false (by omega), List.drop_eq_nil_of_le (by omega), cond_false]
      simp [kept]
theorem back_l2 (k : Nat) (W : List T_dictumlaw01_Piece) (hlen : W.length ≤ 100000000) (hW : ∀ p ∈ W, pieceE p = 0) : ∀ (d n i : Nat), W.length - i ≤ d → d < n → i ≤ W.length → ((W.drop i).flatMap pieceB).length ≤ 10000000 → 10000020 ≤ k →
    dictumlaw01_OctetBack.l2 k W n (i : Int) ⟨true, (W.drop i).flatMap pieceB⟩ = some (.inr ⟨true, []⟩) := by
  intro d
  induction d with
  | zero =>
    intro n i hd hn hi hb hk
    obtain ⟨n, rfl⟩ : ∃ m, n = m + 1 := ⟨n - 1, by omega⟩
    rw [dictumlaw01_OctetBack.l2.eq_2, decide_eq_false (by omega), List.drop_eq_nil_of_le (by omega), cond_false]
    rfl
  | succ d ih =>
    intro n i hd hn hi hb hk
    obtain ⟨n, rfl⟩ : ∃ m, n = m + 1 := ⟨n - 1, by omega⟩
    rw [dictumlaw01_OctetBack.l2.eq_2]
    by_cases h : i < W.length
    · rw [decide_eq_true (by omega : (i : Int) < (W.length : Int)), ix_nat, List.getElem?_eq_getElem h]
      rw [drop_cons h, List.flatMap_cons] at hb ⊢
      have he := hW W[i] (List.getElem_mem h)
      rw [List.length_append] at hb
      have next := ih n (i + 1) (by omega) (by omega) (by omega) (by omega) hk
      generalize (W.drop (i + 1)).flatMap pieceB = R at hb next
      generalize W[i] = p at hb he
      rw [cond_true, bind_some', wsucc i (by omega)]
      cases e0 : (p.f_Kind == 0) with
      | true =>
        have h0 : p.f_Kind = 0 := by simpa using e0
        have hp : pieceB p = [ofI8 (p.f_N.toNat : Int)] := by unfold pieceB; rw [if_pos h0]
        rw [hp, List.singleton_append, cond_true]
        have hu : octet_Reader_U8.f ⟨true, ofI8 (p.f_N.toNat : Int) :: R⟩ = some (ofI8 (p.f_N.toNat : Int), 0, ⟨true, R⟩) := u8_f _
        rw [hu, bind_some', beq_self_eq_true, cond_true, bind_some']
        exact next
      | false =>
      have h0 : p.f_Kind ≠ 0 := by simpa using e0
      rw [cond_false]
      cases e1 : (p.f_Kind == 1) with
      | true =>
        have h1 : p.f_Kind = 1 := by simpa using e1
        have hp : pieceB p = numOf 11 p.f_N := by unfold pieceB; rw [if_neg h0, if_pos h1]
        have hnl := numOf_len 11 p.f_N
        rw [hp] at hb
        rw [hp, cond_true, pnumT_f _ (by simp; omega) k (by omega), numT_numOf, bind_some', show prgN (numOf 11 p.f_N ++ R) (.ok p.f_N (numOf 11 p.f_N).length) = (p.f_N, 0, ⟨true, (numOf 11 p.f_N ++ R).drop (numOf 11 p.f_N).length⟩) from rfl, List.drop_left]
        rw [beq_self_eq_true, cond_true, bind_some']
        exact next
      | false =>
      have h1 : p.f_Kind ≠ 1 := by simpa using e1
      rw [cond_false]
      cases e2 : (p.f_Kind == 2) with
      | true =>
        have h2 : p.f_Kind = 2 := by simpa using e2
        have hp : pieceB p = textB p.f_S := by unfold pieceB; rw [if_neg h0, if_neg h1, if_pos h2]
        have ht : textE p.f_S = 0 := by unfold pieceE at he; rwa [if_pos h2] at he
        rw [hp] at hb
        rw [hp, cond_true, ptextT_f _ (by simp; omega) k (by simp; omega), textT_textB _ _ ht, bind_some', show prgT (textB p.f_S ++ R) (.ok p.f_S (textB p.f_S).length) = (p.f_S, 0, ⟨true, (textB p.f_S ++ R).drop (textB p.f_S).length⟩) from rfl, List.drop_left]
        rw [beq_self_eq_true, cond_true, bind_some']
        exact next
      | false =>
        have h2 : p.f_Kind ≠ 2 := by simpa using e2
        have hp : pieceB p = [] := by unfold pieceB; rw [if_neg h0, if_neg h1, if_neg h2]
        rw [hp, List.nil_append, cond_false, bind_some']
        exact next
    · rw [decide_eq_false (by omega), List.drop_eq_nil_of_le (by omega), cond_false]
      rfl
theorem OctetBack_pure : ∀ (x0 : (List T_dictumlaw01_Piece)), (bulkL T_dictumlaw01_Piece.bulk) x0 ≤ 1048576 → (okL T_dictumlaw01_Piece.ok) x0 → ∃ k, dictumlaw01_OctetBack.f k x0 = some true := by
  intro x0 hb _
  simp only [bulkL] at hb
  have hlen : x0.length ≤ (x0.map T_dictumlaw01_Piece.bulk).sum := len_le_bulk _ (fun a => by simp [T_dictumlaw01_Piece.bulk]) x0
  have hB : (x0.flatMap pieceB).length ≤ 3 * (x0.map T_dictumlaw01_Piece.bulk).sum := by
    clear hb hlen
    rename_i hok
    clear hok
    induction x0 with
    | nil => simp
    | cons a l ih =>
      have := pieceB_len a
      rw [List.flatMap_cons, List.length_append]
      simp only [List.map_cons, List.sum_cons, T_dictumlaw01_Piece.bulk, bulk1, bulkS] at *
      omega
  obtain ⟨k0, hk0⟩ := heads_ev
  refine ⟨max k0 10000020, ?_⟩
  generalize hk : max k0 10000020 = k
  unfold dictumlaw01_OctetBack.f octet_NewReader.f
  have h := back_l1 k x0 (by omega) x0.length k 0 [] [] (by omega) (by omega) (by omega) (by simp) (by simp; omega) (by omega)
  have hkl : (kept x0).length ≤ x0.length := List.length_filter_le _ _
  have hkB := kept_B x0
  have g := back_l2 k (kept x0) (by omega) (fun p hp => by have := (List.mem_filter.1 hp).2; simpa using this) x0.length k 0 (by omega) (by omega) (by omega) (by rw [List.drop_zero, hkB]; omega) (by omega)
  rw [List.drop_zero, hkB] at g
  rw [List.drop_zero, List.nil_append, List.nil_append] at h
  rw [show ((0 : Nat) : Int) = 0 from rfl] at g h
  rw [h, bind_some']
  dsimp only
  rw [clone_f _ (by omega), bind_some', bind_some', g, bind_some']
  dsimp only
  rw [left_f, bind_some']
  rw [show ((([] : List UInt8).length : Int) == 0) = true from rfl, cond_true, end_f, bind_some', show ((bif decide ((([] : List UInt8).length : Int) > 0) then (11 : Int) else 0) == 0) = true from rfl, cond_true, hk0 k (by omega)]
  rfl
end Go.Proofs.YtaidlahjngmenaaDoor.X
