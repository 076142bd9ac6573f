/- Layer 2, plain: spots; what is gone over. -/
import Derived.Test.YtjhmhdedonibbaaDoorTA
set_option linter.unusedVariables false
set_option linter.unusedSimpArgs false
namespace Go.Proofs.YtjhmhdedonibbaaDoor.X
open Go Go.RowKit Go.Proofs.YtjhmhdedonibbaaDoor.SX
def spotOf (q : Int × Int) (o : Int) : T_api_Spot := ⟨q.1, q.2, o⟩
theorem stp_nl (p : Int × Int) (c : UInt8) (h : (c == 10) = true) : stp p c = (p.1 + 1, 1) := by unfold stp; rw [h]; rfl
theorem stp_no (p : Int × Int) (c : UInt8) (h : (c == 10) = false) : stp p c = (p.1, p.2 + 1) := by unfold stp; rw [h]; rfl
theorem At_l1 (k : Nat) (s : List UInt8) (off : Int) (n : Nat) (hn : n ≤ s.length) (hs : s.length ≤ 1000000000)
    (hc : (if (if (s.length : Int) < off then (s.length : Int) else off) > 0 then (if (s.length : Int) < off then (s.length : Int) else off) else 0) = (n : Int)) : ∀ (d kk i : Nat) (L C O : Int), n - i ≤ d → d < kk → 0 ≤ L → 0 ≤ C → L + ((n - i : Nat) : Int) ≤ 4000000000 → C + ((n - i : Nat) : Int) ≤ 4000000000 →
    token_At.l1 k s off kk ⟨L, C, O⟩ i = some (spotOf (W s n i (L, C)).2 O) := by
  have stop : ∀ (kk i : Nat) (L C O : Int), n ≤ i → token_At.l1 k s off (kk + 1) ⟨L, C, O⟩ i = some (spotOf (W s n i (L, C)).2 O) := by
    intro kk i L C O h
    rw [token_At.l1.eq_2, hc, decide_eq_true (by omega : (i : Int) ≥ (n : Int)), W_ge h]
    cases Nat.blt i s.length <;> rfl
  intro d
  induction d with
  | zero =>
    intro kk i L C O h1 h2 h3 h4 h5 h6
    obtain ⟨kk, rfl⟩ : ∃ m, kk = m + 1 := ⟨kk - 1, by omega⟩
    exact stop kk i L C O (by omega)
  | succ d ih =>
    intro kk i L C O h1 h2 h3 h4 h5 h6
    obtain ⟨kk, rfl⟩ : ∃ m, kk = m + 1 := ⟨kk - 1, by omega⟩
    by_cases h : i < n
    · have hw := wide_pos s i
      have hb : Nat.blt i s.length = true := by rw [Nat.blt_eq]; omega
      rw [token_At.l1.eq_2, hc, hb, cond_true, decide_eq_false (by omega : ¬ (i : Int) ≥ (n : Int)), cond_false, rune_nl, W_lt h]
      cases hc2 : s.getD i 0 == 10 with
      | true =>
        rw [stp_nl _ _ hc2, cond_true]
        simp only
        rw [w64 (n := L + 1) (by omega) (by omega)]
        exact ih kk (i + wideAt s i) (L + 1) 1 O (by omega) (by omega) (by omega) (by omega) (by omega) (by omega)
      | false =>
        rw [stp_no _ _ hc2, cond_false]
        simp only
        rw [w64 (n := C + 1) (by omega) (by omega)]
        exact ih kk (i + wideAt s i) L (C + 1) O (by omega) (by omega) (by omega) (by omega) (by omega) (by omega)
    · exact stop kk i L C O (by omega)
def clampN (s : List UInt8) (off : Int) : Nat := if off < 0 then 0 else if off > (s.length : Int) then s.length else off.toNat
theorem clampN_le (s : List UInt8) (off : Int) : clampN s off ≤ s.length := by unfold clampN; split; omega; split <;> omega
theorem At_f (k : Nat) (s : List UInt8) (off : Int) (hs : s.length ≤ 1000000000) (hk : s.length < k) : token_At.f k s off = some (spotOf (W s (clampN s off) 0 (1, 1)).2 (clampN s off)) := by
  have hl := clampN_le s off
  have hc : (if (if (s.length : Int) < off then (s.length : Int) else off) > 0 then (if (s.length : Int) < off then (s.length : Int) else off) else 0) = (clampN s off : Int) := by
    have e : (clampN s off : Int) = if off < 0 then 0 else if off > (s.length : Int) then (s.length : Int) else off := by
      unfold clampN
      split
      · rfl
      · split
        · rfl
        · omega
    rw [e]
    repeat' split
    all_goals omega
  unfold token_At.f
  rw [At_l1 k s off (clampN s off) hl hs hc (clampN s off) k 0 1 1 _ (by omega) (by omega) (by omega) (by omega) (by omega) (by omega), hc, bind_some']
/-! The cursor -/
def cur (s : List UInt8) (q : Int × Int) (i : Nat) : T_token_cursor := ⟨s, spotOf q (i : Int)⟩
theorem here_f (s : List UInt8) (q : Int × Int) (i : Nat) (h : i ≤ s.length) : token_cursor_here.f (cur s q i) = some (s.drop i) := by
  unfold token_cursor_here.f
  show (cut s (i : Int) (s.length : Int)).bind _ = _
  rw [cut_from s h, bind_some']
theorem woff (s : List UInt8) (i : Nat) (h : i + wideAt s i ≤ 2000000000) : wrap64 ((i : Int) + ((Lib.decodeL (s.drop i)).2 : Int)) = ((i + wideAt s i : Nat) : Int) := by
  show wrap64 ((i : Int) + (wideAt s i : Int)) = _
  rw [w64 (by omega) (by omega)]
  omega
theorem skip_l1 (k : Nat) (s : List UInt8) (a0 : T_token_cursor) (a1 : Int) (e : Nat) (he : e ≤ s.length) (hs : s.length ≤ 1000000000) (ha : wrap64 (a0.f_at.f_Off + a1) = (e : Int)) : ∀ (d kk i : Nat) (L C : Int), e - i ≤ d → d < kk → al s i e → 0 ≤ L → 0 ≤ C → L + ((e - i : Nat) : Int) ≤ 4000000000 → C + ((e - i : Nat) : Int) ≤ 4000000000 →
    token_cursor_skip.l1 k a0 a1 kk (cur s (L, C) i) = some (cur s (W s e i (L, C)).2 e) := by
  have eqn := token_cursor_skip.l1.eq_2 k a0 a1
  rw [ha] at eqn
  clear ha
  intro d
  induction d with
  | zero =>
    intro kk i L C h1 h2 h3 h4 h5 h6 h7
    obtain ⟨kk, rfl⟩ : ∃ m, kk = m + 1 := ⟨kk - 1, by omega⟩
    obtain rfl : i = e := by have := h3.1; omega
    rw [eqn, decide_eq_false (by show ¬ (i : Int) < (i : Int); omega), W_ge (Nat.le_refl i)]
    rfl
  | succ d ih =>
    intro kk i L C h1 h2 h3 h4 h5 h6 h7
    obtain ⟨kk, rfl⟩ : ∃ m, kk = m + 1 := ⟨kk - 1, by omega⟩
    by_cases h : i < e
    · have hw := wide_pos s i
      obtain ⟨hn, hal⟩ := al_step h3 h
      have hne : s.drop i ≠ [] := by intro e2; have := congrArg List.length e2; simp at this; omega
      rw [eqn, decide_eq_true (by show (i : Int) < (e : Int); omega), cond_true, here_f s (L, C) i (by omega), bind_some']
      unfold utf8_DecodeRuneInString.f
      rw [decodeGo_L _ hne, bind_some', W_lt h]
      show ((ix s (i : Int)).bind _ : Option T_token_cursor).bind _ = _
      rw [ix_getD (by omega), bind_some']
      cases hc : s.getD i 0 == 10 with
      | true =>
        rw [stp_nl _ _ hc, cond_true, bind_some']
        show token_cursor_skip.l1 k a0 a1 kk ⟨s, ⟨wrap64 (L + 1), wrap64 (0 + 1), wrap64 ((i : Int) + ((Lib.decodeL (s.drop i)).2 : Int))⟩⟩ = _
        rw [woff s i (by omega), w64 (n := L + 1) (by omega) (by omega), w64 (n := 0 + 1) (by omega) (by omega)]
        exact ih kk (i + wideAt s i) (L + 1) 1 (by omega) (by omega) hal (by omega) (by omega) (by omega) (by omega)
      | false =>
        rw [stp_no _ _ hc, cond_false, bind_some']
        show token_cursor_skip.l1 k a0 a1 kk ⟨s, ⟨L, wrap64 (C + 1), wrap64 ((i : Int) + ((Lib.decodeL (s.drop i)).2 : Int))⟩⟩ = _
        rw [woff s i (by omega), w64 (n := C + 1) (by omega) (by omega)]
        exact ih kk (i + wideAt s i) L (C + 1) (by omega) (by omega) hal (by omega) (by omega) (by omega) (by omega)
    · obtain rfl : i = e := by have := h3.1; omega
      rw [eqn, decide_eq_false (by show ¬ (i : Int) < (i : Int); omega), W_ge (Nat.le_refl i)]
      rfl
theorem skip_f (k : Nat) (s : List UInt8) (i m : Nat) (L C : Int) (he : i + m ≤ s.length) (hs : s.length ≤ 1000000000) (hb : al s i (i + m)) (hk : s.length < k) (h4 : 0 ≤ L) (h5 : 0 ≤ C) (h6 : L + (m : Int) ≤ 4000000000) (h7 : C + (m : Int) ≤ 4000000000) :
    token_cursor_skip.f k (cur s (L, C) i) (m : Int) = some (cur s (W s (i + m) i (L, C)).2 (i + m)) := by
  unfold token_cursor_skip.f
  rw [skip_l1 k s (cur s (L, C) i) (m : Int) (i + m) he hs (by show wrap64 ((i : Int) + (m : Int)) = _; rw [w64 (by omega) (by omega)]; omega) m k i L C (by omega) (by omega) hb h4 h5 (by omega) (by omega), bind_some']
end Go.Proofs.YtjhmhdedonibbaaDoor.X
