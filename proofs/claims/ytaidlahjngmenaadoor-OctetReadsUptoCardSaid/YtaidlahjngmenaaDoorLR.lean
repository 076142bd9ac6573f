/- Layer 1, plain: numbers and texts that are taken off bytes. -/
import Derived.Test.YtaidlahjngmenaaDoorLV
set_option linter.unusedVariables false
set_option linter.unusedSimpArgs false
namespace Go.Proofs.YtaidlahjngmenaaDoor.X
open Go Go.RowKit Go.Proofs.YtaidlahjngmenaaDoor.SX
inductive TN where
  | short
  | long
  | ok (v : UInt64) (j : Nat)
def part (c : UInt8) (i : Nat) : UInt64 := shl64 (ofI64 ((c &&& 127).toNat : Int)) (7 * i)
def takeN : Nat → UInt64 → Nat → List UInt8 → TN
  | 0, _, _, _ => .long
  | _ + 1, _, _, [] => .short
  | m + 1, v, i, c :: t => if i = 9 ∧ 1 < c.toNat then .long else if c.toNat < 128 then (if c.toNat = 0 ∧ 0 < i then .long else .ok (v ||| part c i) (i + 1)) else takeN m (v ||| part c i) (i + 1) t
def numT (l : List UInt8) : TN := takeN 10 0 0 l
theorem takeN_ok : ∀ (m i : Nat) (v : UInt64) (l : List UInt8) (v' : UInt64) (j : Nat), takeN m v i l = .ok v' j → i < j ∧ j ≤ i + l.length ∧ j ≤ i + m
  | 0, i, v, l, v', j, h => by simp [takeN] at h
  | m + 1, i, v, [], v', j, h => by simp [takeN] at h
  | m + 1, i, v, c :: t, v', j, h => by
    unfold takeN at h
    split at h
    · cases h
    · split at h
      · split at h
        · cases h
        · injection h with h1 h2
          subst h2
          simp
      · have := takeN_ok m (i + 1) _ t v' j h
        simp; omega
theorem ext127 (c : UInt8) : (ofI64 (c.toNat : Int)) &&& 127 = ofI64 ((c &&& 127).toNat : Int) := by
  apply UInt64.toNat_inj.1
  have h1 := c.toNat_lt
  have h2 : (c &&& 127).toNat = c.toNat % 128 := by
    rw [UInt8.toNat_and, show (127 : UInt8).toNat = 2 ^ 7 - 1 from rfl, Nat.and_two_pow_sub_one_eq_mod]
  rw [UInt64.toNat_and, ofI64_byte, h2, show (127 : UInt64).toNat = 2 ^ 7 - 1 from rfl, Nat.and_two_pow_sub_one_eq_mod]
  unfold ofI64
  rw [UInt64.toNat_ofNat', UInt64.toNat_ofNat']
  have e : ((c.toNat % 128 : Nat) : Int) % 18446744073709551616 = ((c.toNat % 128 : Nat) : Int) := by omega
  rw [e]
  omega
theorem ext_lt (c : UInt8) (n : Nat) (hn : n < 18446744073709551616) : decide (ofI64 (c.toNat : Int) < UInt64.ofNat n) = decide (c.toNat < n) := by
  have h1 := c.toNat_lt
  rw [decide_eq_decide, UInt64.lt_iff_toNat_lt, ofI64_byte, UInt64.toNat_ofNat', UInt64.toNat_ofNat']
  omega
theorem ext_gt (c : UInt8) (n : Nat) (hn : n < 18446744073709551616) : decide (UInt64.ofNat n < ofI64 (c.toNat : Int)) = decide (n < c.toNat) := by
  have h1 := c.toNat_lt
  rw [decide_eq_decide, UInt64.lt_iff_toNat_lt, ofI64_byte, UInt64.toNat_ofNat', UInt64.toNat_ofNat']
  omega
theorem ext_eq0 (c : UInt8) : (ofI64 (c.toNat : Int) == (0 : UInt64)) = decide (c.toNat = 0) := by
  have h1 := c.toNat_lt
  rw [Bool.eq_iff_iff]
  simp only [beq_iff_eq, decide_eq_true_eq]
  rw [← UInt64.toNat_inj, ofI64_byte, UInt64.toNat_ofNat', UInt64.toNat_zero]
  omega
theorem b_eq0 (c : UInt8) : (c == (0 : UInt8)) = decide (c.toNat = 0) := by
  rw [Bool.eq_iff_iff]
  simp only [beq_iff_eq, decide_eq_true_eq]
  rw [← UInt8.toNat_inj]
  rfl
theorem seven (i : Nat) (hi : i < 10) : wrap64 (7 * (i : Int)) = ((7 * i : Nat) : Int) := by rw [w64 (by omega) (by omega)]; omega
theorem seven64 (i : Nat) (hi : i < 10) : (ofI64 (((7 * i : Nat) : Int))).toNat = 7 * i := by
  unfold ofI64
  rw [UInt64.toNat_ofNat']
  omega
theorem decand (p q : Prop) [Decidable p] [Decidable q] : (bif decide p then some (decide q) else some false) = some (decide (p ∧ q)) := by
  by_cases h : p
  · rw [decide_eq_true h]; simp [h]
  · rw [decide_eq_false h]; simp [h]
theorem pos_int (i : Nat) : decide ((i : Int) > 0) = decide (0 < i) := by rw [decide_eq_decide]; omega
def refN (t : TN) : UInt64 × Int × Int := match t with | .short => (0, 0, 10) | .long => (0, 0, 11) | .ok v j => (v, (j : Int), 0)
def prgN (L : List UInt8) (t : TN) : UInt64 × Int × T_octet_Reader := match t with | .short => (0, 10, ⟨true, L⟩) | .long => (0, 11, ⟨true, L⟩) | .ok v j => (v, 0, ⟨true, L.drop j⟩)
theorem pnumT_l1 (k : Nat) (L : List UInt8) (hL : L.length ≤ 1000000000) : ∀ (m n i : Nat) (v : UInt64), i + m = 10 → m < n → (m = 0 → L.length ≤ i) →
    ∃ z, octet_Reader_Num.l1 k ⟨true, L⟩ n v (i : Int) = some z ∧ (match z with | .inl r_ => some r_ | .inr _ => some ((0 : UInt64), (10 : Int), (⟨true, L⟩ : T_octet_Reader))) = some (if m = 0 then (0, 10, ⟨true, L⟩) else prgN L (takeN m v i (L.drop i))) := by
  intro m
  induction m with
  | zero =>
    intro n i v hi hn h0
    obtain ⟨n, rfl⟩ : ∃ f, n = f + 1 := ⟨n - 1, by omega⟩
    have := h0 rfl
    rw [octet_Reader_Num.l1.eq_2, decide_eq_false (by simp only; omega)]
    exact ⟨_, rfl, rfl⟩
  | succ m ih =>
    intro n i v hi hn _
    obtain ⟨n, rfl⟩ : ∃ f, n = f + 1 := ⟨n - 1, by omega⟩
    rw [octet_Reader_Num.l1.eq_2, if_neg (by omega)]
    by_cases h : i < L.length
    · rw [decide_eq_true (by simp only; omega : (i : Int) < ((⟨true, L⟩ : T_octet_Reader).f_left.length : Int))]
      rw [cond_true]
      rw [ix_nat, List.getElem?_eq_getElem h, drop_cons h]
      simp only [bind_some', b_eq0, dlt, show (1 : UInt8).toNat = 1 from rfl, show (128 : UInt8).toNat = 128 from rfl, pos_int]
      rw [show (9 : Int) = ((9 : Nat) : Int) from rfl, bne_nat, decand, decand, seven i (by omega), chk_of (decide_eq_true (by omega))]
      simp only [bind_some', Int.toNat_natCast]
      unfold takeN
      cases h9 : decide (i = 9 ∧ 1 < L[i].toNat) with
      | true => rw [if_pos (of_decide_eq_true h9)]; exact ⟨_, rfl, rfl⟩
      | false =>
        have h9' := of_decide_eq_false h9
        rw [if_neg h9', cond_false]
        cases h1 : decide (L[i].toNat < 128) with
        | true =>
          have h1' := of_decide_eq_true h1
          rw [if_pos h1', cond_true]
          cases h2 : decide (L[i].toNat = 0 ∧ 0 < i) with
          | true => rw [if_pos (of_decide_eq_true h2)]; exact ⟨_, rfl, rfl⟩
          | false =>
            rw [if_neg (of_decide_eq_false h2), cond_false, w64 (by omega) (by omega), show (i : Int) + 1 = ((i + 1 : Nat) : Int) from by omega, cut_from L (by omega)]
            exact ⟨_, rfl, rfl⟩
        | false =>
          have h1' := of_decide_eq_false h1
          rw [if_neg h1', cond_false, w64 (by omega) (by omega), show (i : Int) + 1 = ((i + 1 : Nat) : Int) from by omega]
          have hm : m ≠ 0 := by intro e; subst e; exact h9' ⟨by omega, by omega⟩
          obtain ⟨z, e, hz⟩ := ih n (i + 1) (v ||| part L[i] i) (by omega) (by omega) (fun h => absurd h hm)
          rw [if_neg hm] at hz
          exact ⟨z, e, hz⟩
    · rw [decide_eq_false (by simp only; omega), List.drop_eq_nil_of_le (by omega)]
      exact ⟨_, rfl, rfl⟩
theorem pnumT_f (L : List UInt8) (hL : L.length ≤ 1000000000) (k : Nat) (hk : 12 ≤ k) : octet_Reader_Num.f k ⟨true, L⟩ = some (prgN L (numT L)) := by
  unfold octet_Reader_Num.f octet_Reader_alive.f
  obtain ⟨z, e, hz⟩ := pnumT_l1 k L hL 10 k 0 0 rfl (by omega) (fun h => absurd h (by decide))
  rw [show ((0 : Nat) : Int) = 0 from rfl] at e
  simp only [bind_some', Bool.not_true, cond_false]
  rw [e]
  rw [if_neg (by decide), List.drop_zero] at hz
  exact hz
/-- A text that is taken off. -/
inductive TT where
  | bad (e : Int)
  | ok (s : List UInt8) (j : Nat)
def textT (L : List UInt8) : TT := match numT L with
  | .short => .bad 10
  | .long => .bad 11
  | .ok v j => if 65536 < v.toNat then .bad 11 else if L.length - j < v.toNat then .bad 10 else if Lib.validD ((L.drop j).take v.toNat) = true then .ok ((L.drop j).take v.toNat) (j + v.toNat) else .bad 12
theorem textT_ok {L s : List UInt8} {j : Nat} (h : textT L = .ok s j) : j ≤ L.length := by
  unfold textT at h
  cases hn : numT L with
  | short => rw [hn] at h; cases h
  | long => rw [hn] at h; cases h
  | ok v q =>
    rw [hn] at h
    have := takeN_ok _ _ _ _ _ _ hn
    simp only at h
    split at h
    · cases h
    · split at h
      · cases h
      · split at h
        · injection h with h1 h2; omega
        · cases h
def refT (t : TT) : List UInt8 × Int × Int := match t with | .bad e => ([], 0, e) | .ok s j => (s, (j : Int), 0)
def prgT (L : List UInt8) (t : TT) : List UInt8 × Int × T_octet_Reader := match t with | .bad e => ([], e, ⟨true, L⟩) | .ok s j => (s, 0, ⟨true, L.drop j⟩)
theorem gt64 (v : UInt64) : decide ((65536 : UInt64) < v) = decide (65536 < v.toNat) := by rw [decide_eq_decide, UInt64.lt_iff_toNat_lt]; rfl
theorem lt64 (n : Nat) (hn : n ≤ 1000000000) (v : UInt64) : decide (ofI64 (n : Int) < v) = decide (n < v.toNat) := by
  rw [decide_eq_decide, UInt64.lt_iff_toNat_lt]
  unfold ofI64
  rw [UInt64.toNat_ofNat']
  omega
theorem ptextT_f (L : List UInt8) (hL : L.length ≤ 1000000000) (k : Nat) (hk : L.length + 12 ≤ k) : octet_Reader_Text.f k ⟨true, L⟩ = some (prgT L (textT L)) := by
  unfold octet_Reader_Text.f octet_Reader_alive.f textT
  simp only [bind_some', Bool.not_true, cond_false]
  rw [pnumT_f L hL k (by omega)]
  simp only [bind_some']
  cases hn : numT L with
  | short => rfl
  | long => rfl
  | ok v j =>
    have hj := takeN_ok _ _ _ _ _ _ hn
    have hv := v.toNat_lt
    rw [show prgN L (TN.ok v j) = (v, 0, ⟨true, L.drop j⟩) from rfl]
    dsimp only
    rw [show ((0 : Int) != 0) = false from rfl, cond_false, gt64]
    cases h1 : decide (65536 < v.toNat) with
    | true => rw [if_pos (of_decide_eq_true h1)]; rfl
    | false =>
    have h1' := of_decide_eq_false h1
    have hl : (L.drop j).length = L.length - j := by simp
    rw [if_neg h1', cond_false, lt64 _ (by omega), hl]
    cases h2 : decide (L.length - j < v.toNat) with
    | true => rw [if_pos (of_decide_eq_true h2)]; rfl
    | false =>
    have h2' := of_decide_eq_false h2
    rw [if_neg h2', cond_false, cut_to (L.drop j) (by omega), ← hl, cut_from (L.drop j) (by omega), bind_some', valid_f _ k (by simp; omega), bind_some', bind_some', drop_drop']
    cases hd : Lib.validD ((L.drop j).take v.toNat) with
    | false => rfl
    | true => rfl
theorem left_f (L : List UInt8) : octet_Reader_Left.f ⟨true, L⟩ = some (L.length : Int) := rfl
theorem end_f (L : List UInt8) : octet_Reader_End.f ⟨true, L⟩ = some (bif decide ((L.length : Int) > 0) then 11 else 0) := by
  unfold octet_Reader_End.f octet_Reader_alive.f
  rw [bind_some', Bool.not_true, cond_false]
  cases decide ((L.length : Int) > 0) <;> rfl
theorem u8_f (L : List UInt8) : octet_Reader_U8.f ⟨true, L⟩ = some (match L with | [] => (0, 10, ⟨true, []⟩) | c :: t => (c, 0, ⟨true, t⟩)) := by
  cases L with
  | nil => rfl
  | cons c t =>
    unfold octet_Reader_U8.f octet_Reader_alive.f
    rw [bind_some', Bool.not_true, cond_false, show (((c :: t).length : Int) == 0) = false from by simp; omega, cond_false]
    rw [show cut (c :: t) 1 ((c :: t).length : Int) = some t from by have := cut_from (c :: t) (a := 1) (by simp); simpa using this]
    rfl
end Go.Proofs.YtaidlahjngmenaaDoor.X
