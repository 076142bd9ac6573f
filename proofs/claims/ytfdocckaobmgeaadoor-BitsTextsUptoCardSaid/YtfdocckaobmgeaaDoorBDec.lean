/- Decimal digits (from layer 1). -/
import Derived.Test.YtfdocckaobmgeaaDoorXAD
import Derived.Lib.AtoiTie
import Derived.Lib.ItoaNum
set_option linter.unusedVariables false
set_option linter.unusedSimpArgs false
namespace Go.Proofs.YtfdocckaobmgeaaDoor.X
open Go Go.RowKit Go.Proofs.YtfdocckaobmgeaaDoor.SX
open Go.Lib (digitVal decFrom decNat decDigits itoa)
theorem dd_small {u : Nat} (h : u < 10) : decDigits u = [UInt8.ofNat (48 + u)] := by rw [decDigits, dif_pos h]
theorem dd_big {u : Nat} (h : ¬ u < 10) : decDigits u = decDigits (u / 10) ++ [UInt8.ofNat (48 + u % 10)] := by rw [decDigits, dif_neg h]
theorem dg_nat {d : Nat} (h : d < 10) : (UInt8.ofNat (48 + d)).toNat = 48 + d := by rw [UInt8.toNat_ofNat']; omega
theorem dg_val {d : Nat} (h : d < 10) : digitVal (UInt8.ofNat (48 + d)) = some d := by
  unfold digitVal
  rw [dg_nat h, if_pos (by omega)]
  congr 1
  omega
theorem dg_back {c : UInt8} {d : Nat} (h : digitVal c = some d) : d < 10 ∧ c = UInt8.ofNat (48 + d) := by
  obtain ⟨h1, h2, rfl⟩ := Lib.digitVal_eq h
  refine ⟨by omega, UInt8.toNat_inj.1 ?_⟩
  rw [dg_nat (by omega)]
  omega
theorem decFrom_snoc : ∀ (l : List UInt8) (acc : Nat) (c : UInt8), decFrom acc (l ++ [c]) = match decFrom acc l with | none => none | some m => (digitVal c).map (m * 10 + ·)
  | [], acc, c => by
    show decFrom acc [c] = _
    unfold decFrom
    cases digitVal c with
    | none => rfl
    | some d => rfl
  | b :: t, acc, c => by
    show decFrom acc (b :: (t ++ [c])) = _
    unfold decFrom
    cases digitVal b with
    | none => rfl
    | some d => exact decFrom_snoc t _ c
/-- The first digit. -/
theorem dd_head (u : Nat) : ∃ c t, decDigits u = c :: t ∧ 48 ≤ c.toNat ∧ c.toNat ≤ 57 ∧ (1 ≤ u → c ≠ 48) := by
  induction u using Nat.strongRecOn with
  | _ u ih =>
    by_cases h : u < 10
    · refine ⟨_, _, dd_small h, ?_⟩
      have := dg_nat h
      refine ⟨by omega, by omega, fun h1 e => ?_⟩
      rw [e] at this
      have h48 : (48 : UInt8).toNat = 48 := rfl
      omega
    · obtain ⟨c, t, e, h1, h2, h3⟩ := ih (u / 10) (by omega)
      refine ⟨c, t ++ [UInt8.ofNat (48 + u % 10)], by rw [dd_big h, e]; rfl, h1, h2, fun _ => h3 (by omega)⟩
theorem dd_dec (u : Nat) : decFrom 0 (decDigits u) = some u := by
  induction u using Nat.strongRecOn with
  | _ u ih =>
    by_cases h : u < 10
    · rw [dd_small h]
      unfold decFrom
      rw [dg_val h]
      show some (0 * 10 + u) = _
      congr 1
      omega
    · rw [dd_big h, decFrom_snoc, ih (u / 10) (by omega), dg_val (by omega)]
      show some (u / 10 * 10 + u % 10) = _
      congr 1
      omega
theorem dd_len : ∀ (k u : Nat), u < 10 ^ (k + 1) → (decDigits u).length ≤ k + 1
  | 0, u, h => by rw [dd_small (by simpa using h)]; exact Nat.le_refl _
  | k + 1, u, h => by
    by_cases h1 : u < 10
    · rw [dd_small h1]; simp
    · rw [dd_big h1, List.length_append, List.length_singleton]
      have := dd_len k (u / 10) (by rw [Nat.pow_succ] at h; omega)
      omega
/-- A canonical numeral is its number's. -/
theorem dd_canon (n : Nat) : ∀ (s : List UInt8) (m : Nat), s.length = n + 1 → s.head? ≠ some 48 → decFrom 0 s = some m → decDigits m = s ∧ 1 ≤ m := by
  induction n with
  | zero =>
    intro s m hl hh hd
    obtain ⟨c, rfl⟩ := List.length_eq_one_iff.1 hl
    unfold decFrom at hd
    cases hv : digitVal c with
    | none => rw [hv] at hd; cases hd
    | some d =>
      rw [hv] at hd
      obtain ⟨h1, h2⟩ := dg_back hv
      have e : 0 * 10 + d = m := Option.some.inj hd
      have e : m = d := by omega
      subst e
      refine ⟨by rw [dd_small h1, h2], ?_⟩
      rcases Nat.eq_zero_or_pos m with e | e
      · subst e
        exact absurd (by rw [h2]; rfl) hh
      · exact e
  | succ n ih =>
    intro s m hl hh hd
    have hne : s ≠ [] := by intro e; rw [e] at hl; cases hl
    obtain ⟨t, c, rfl⟩ : ∃ t c, s = t ++ [c] := ⟨s.dropLast, s.getLast hne, (List.dropLast_concat_getLast hne).symm⟩
    have htl : t.length = n + 1 := by simpa using hl
    rw [decFrom_snoc] at hd
    cases ht : decFrom 0 t with
    | none => rw [ht] at hd; cases hd
    | some q =>
    rw [ht] at hd
    cases hv : digitVal c with
    | none => rw [hv] at hd; cases hd
    | some d =>
    rw [hv] at hd
    have e : q * 10 + d = m := Option.some.inj hd
    have hth : t.head? ≠ some 48 := by
      cases t with
      | nil => cases htl
      | cons a b => exact hh
    obtain ⟨h1, h2⟩ := ih t q htl hth ht
    obtain ⟨h3, h4⟩ := dg_back hv
    subst e
    refine ⟨?_, by omega⟩
    rw [dd_big (by omega), show (q * 10 + d) / 10 = q from by omega, show (q * 10 + d) % 10 = d from by omega, h1, ← h4]
theorem dd_iff (s : List UInt8) (m : Nat) (hd : decFrom 0 s = some m) (hs : 1 ≤ s.length) : decDigits m = s ↔ (s.length = 1 ∨ s.head? ≠ some 48) := by
  constructor
  · intro e
    rcases Nat.eq_zero_or_pos m with h0 | h0
    · subst h0
      left
      rw [← e, dd_small (by decide)]
      rfl
    · obtain ⟨c, t, e2, _, _, h3⟩ := dd_head m
      rw [← e, e2]
      right
      intro h
      exact h3 h0 (Option.some.inj h)
  · intro h
    by_cases h48 : s.head? = some 48
    · have h1 : s.length = 1 := by rcases h with h | h; exact h; exact absurd h48 h
      obtain ⟨c, rfl⟩ := List.length_eq_one_iff.1 h1
      have hc : c = 48 := Option.some.inj h48
      subst hc
      have : m = 0 := (Option.some.inj hd).symm
      subst this
      exact dd_small (by decide)
    · exact (dd_canon (s.length - 1) s m (by omega) h48 hd).1
/-- What a decimal reads as, up to a bound. -/
def undecE (s : List UInt8) (m : Int) : Int × Int :=
  if s.length < 1 ∨ s.length > 10 ∨ (s.length > 1 ∧ s.head? = some 48) then (0, 2) else
  match decFrom 0 s with
  | none => (0, 2)
  | some v => if (v : Int) > m then (0, 2) else ((v : Int), 0)
theorem undecE_none (s : List UInt8) (m : Int) (h : decFrom 0 s = none) : undecE s m = (0, 2) := by
  unfold undecE
  rw [h]
  split <;> rfl
theorem sub48 (c : UInt8) (h : 48 ≤ c.toNat) : (c - 48).toNat = c.toNat - 48 := by
  rw [UInt8.toNat_sub_of_le _ _ (by rw [UInt8.le_iff_toNat_le]; exact h)]
  rfl
theorem rundec_l1 (k : Nat) (s : List UInt8) (hs : s.length ≤ 10) : ∀ (d n i acc : Nat), i + d = s.length → d < n → acc < 10 ^ i → dictumref01_Undec.l1 k s n (acc : Int) (i : Int) = some (match decFrom acc (s.drop i) with | none => .inl (0, 2) | some r => .inr (r : Int)) := by
  intro d
  induction d with
  | zero =>
    intro n i acc hi hn ha
    obtain ⟨n, rfl⟩ : ∃ m, n = m + 1 := ⟨n - 1, by omega⟩
    rw [dictumref01_Undec.l1.eq_2, decide_eq_false (by omega), List.drop_eq_nil_of_le (by omega), cond_false]
    rfl
  | succ d ih =>
    intro n i acc hi hn ha
    obtain ⟨n, rfl⟩ : ∃ m, n = m + 1 := ⟨n - 1, by omega⟩
    have h1 : i < s.length := by omega
    have hp : 10 ^ i ≤ 10 ^ 10 := Nat.pow_le_pow_right (by decide) (by omega)
    have hp2 : (10 : Nat) ^ 10 = 10000000000 := by decide
    have h48 : (48 : UInt8).toNat = 48 := rfl
    have h57 : (57 : UInt8).toNat = 57 := rfl
    rw [dictumref01_Undec.l1.eq_2, decide_eq_true (by omega : (i : Int) < (s.length : Int)), cond_true, ix_nat, List.getElem?_eq_getElem h1, bind_some', drop_cons h1]
    unfold decFrom digitVal
    generalize hc : s[i] = c
    by_cases ha1 : c.toNat < 48
    · rw [decide_eq_true (by rw [UInt8.lt_iff_toNat_lt]; omega : c < 48), if_neg (by omega)]
      rfl
    rw [decide_eq_false (by rw [UInt8.lt_iff_toNat_lt]; omega : ¬ c < 48), cond_false, bind_some', bind_some']
    by_cases ha2 : 57 < c.toNat
    · rw [decide_eq_true (by rw [UInt8.lt_iff_toNat_lt]; omega : (57 : UInt8) < c), if_neg (by omega)]
      rfl
    rw [decide_eq_false (by rw [UInt8.lt_iff_toNat_lt]; omega : ¬ (57 : UInt8) < c), cond_false, if_pos (by omega), bind_some', sub48 c (by omega), wsucc i (by omega)]
    rw [show wrap64 (wrap64 (10 * (acc : Int)) + ((c.toNat - 48 : Nat) : Int)) = ((acc * 10 + (c.toNat - 48) : Nat) : Int) from by rw [w64 (n := 10 * (acc : Int)) (by omega) (by omega), w64 (by omega) (by omega)]; omega]
    exact ih n (i + 1) _ (by omega) (by omega) (by rw [Nat.pow_succ]; omega)
theorem rundec_f (s : List UInt8) (m : Int) (k : Nat) (hk : 12 ≤ k) : dictumref01_Undec.f k s m = some (undecE s m) := by
  unfold dictumref01_Undec.f undecE
  by_cases h0 : s.length < 1
  · rw [decide_eq_true (by omega : (s.length : Int) < 1), if_pos (Or.inl h0)]; rfl
  rw [decide_eq_false (by omega : ¬ (s.length : Int) < 1), cond_false]
  by_cases h1 : s.length > 10
  · rw [decide_eq_true (by omega : (s.length : Int) > 10), if_pos (Or.inr (Or.inl h1))]; rfl
  rw [decide_eq_false (by omega : ¬ (s.length : Int) > 10), cond_false]
  have hz : (ix s (0 : Int)) = s[0]? := ix_nat s 0
  have hl := rundec_l1 k s (by omega) s.length k 0 0 (by omega) (by omega) (by decide)
  rw [List.drop_zero] at hl
  have hl' : dictumref01_Undec.l1 k s k 0 0 = _ := hl
  have main : ((dictumref01_Undec.l1 k s k 0 0).bind fun z111 => match z111 with
      | .inl r_ => some r_
      | .inr x110 => (bif (decide (x110 > m)) then some (0, 2) else some (x110, 0))) = some (match decFrom 0 s with
      | none => (0, 2)
      | some v => if (v : Int) > m then (0, 2) else ((v : Int), 0)) := by
    rw [hl']
    cases decFrom 0 s with
    | none => rfl
    | some v =>
      show (bif _ then _ else _) = some (if _ then _ else _)
      by_cases hv : (v : Int) > m
      · rw [decide_eq_true hv, if_pos hv]; rfl
      · rw [decide_eq_false hv, if_neg hv]; rfl
  by_cases h2 : s.length > 1
  · rw [decide_eq_true (by omega : (s.length : Int) > 1), cond_true, hz]
    obtain ⟨a, t, rfl⟩ : ∃ a t, s = a :: t := by cases s with
      | nil => exact absurd (Nat.zero_lt_one) h0
      | cons a t => exact ⟨a, t, rfl⟩
    show (some (a == 48)).bind _ = _
    rw [bind_some']
    by_cases ha : a = 48
    · subst ha
      rw [if_pos (Or.inr (Or.inr ⟨h2, rfl⟩))]; rfl
    · rw [show (a == 48) = false from by simpa using ha, cond_false, if_neg (by
        rintro (h | h | ⟨_, h⟩)
        · exact h0 h
        · exact h1 h
        · exact ha (Option.some.inj h))]
      exact main
  · rw [decide_eq_false (by omega : ¬ (s.length : Int) > 1), cond_false, if_neg (by omega), bind_some', cond_false]
    exact main
theorem dec_f (n : Int) (h0 : -9223372036854775808 ≤ n) (h1 : n ≤ 9223372036854775807) : octet_Dec.f n = some (itoa n) := by
  unfold octet_Dec.f strconv_Itoa.f
  rw [decide_eq_true h0, decide_eq_true h1]
  rfl
/-- atoi of at most ten bytes. -/
theorem atoiF_short (s : List UInt8) (hs : s.length ≤ 10) : atoiF s = match Lib.atoi s with | some v => (v, false) | none => (0, true) := by
  unfold atoiF
  rw [Lib.atoiAll_short s (by omega)]
  cases Lib.atoi s <;> rfl
theorem itoa_nat (m : Nat) : itoa (m : Int) = decDigits m := by
  unfold itoa
  rw [if_neg (by omega)]
  rfl
theorem pundec_f (s : List UInt8) (m : Int) (hs : s.length ≤ 281474976710656) : octet_Undec.f s m = some (undecE s m) := by
  unfold octet_Undec.f strconv_Atoi.f
  rw [chk_of (decide_eq_true hs), bind_some', bind_some']
  by_cases h1 : s.length > 10
  · unfold undecE
    rw [if_pos (Or.inr (Or.inl h1)), decide_eq_true (by omega : (s.length : Int) > 10)]
    cases (atoiF s).2 <;> cases decide ((atoiF s).1 < 0) <;> cases decide ((atoiF s).1 > m) <;> rfl
  rw [decide_eq_false (by omega : ¬ (s.length : Int) > 10), atoiF_short s (by omega)]
  cases ha : Lib.atoi s with
  | none =>
    show some (0, 2) = _
    cases s with
    | nil => rfl
    | cons b r =>
      have : decFrom 0 (b :: r) = none := by
        simp only [Lib.atoi] at ha
        cases hd : decFrom 0 (b :: r) with
        | none => rfl
        | some q =>
          have hb : b ≠ 45 ∧ b ≠ 43 := by
            constructor <;> (intro e; subst e; cases hd)
          rw [if_neg (by simpa using hb.1), if_neg (by simpa using hb.2)] at ha
          have : decNat (b :: r) = decFrom 0 (b :: r) := rfl
          rw [this, hd] at ha
          cases ha
      rw [undecE_none _ _ this]
  | some v =>
    obtain ⟨b0, r, rfl, h⟩ := Lib.atoi_cases ha
    simp only
    rw [cond_false]
    rcases h with ⟨rfl, q, _, hq, rfl⟩ | ⟨rfl, q, _, hq, rfl⟩ | ⟨hb1, hb2, q, hq, rfl⟩
    · have hn : decFrom 0 (45 :: r) = none := rfl
      rw [undecE_none _ _ hn]
      by_cases hq0 : q = 0
      · subst hq0
        rw [show decide (-((0 : Nat) : Int) < 0) = false from rfl, cond_false]
        cases decide (-((0 : Nat) : Int) > m) with
        | true => rfl
        | false =>
          rw [cond_false, cond_false, dec_f _ (by decide) (by decide), bind_some', show itoa (-((0 : Nat) : Int)) = [48] from by decide +kernel]
          rfl
      · rw [decide_eq_true (by omega : -(q : Int) < 0)]; rfl
    · have hn : decFrom 0 (43 :: r) = none := rfl
      rw [undecE_none _ _ hn]
      have hq18 := Lib.decFrom_lt18 hq (by simp at h1; omega)
      rw [decide_eq_false (by omega : ¬ (q : Int) < 0), cond_false]
      cases decide ((q : Int) > m) with
      | true => rfl
      | false =>
        rw [cond_false, cond_false, dec_f _ (by omega) (by omega), bind_some', itoa_nat]
        obtain ⟨c, t, e, hc, _⟩ := dd_head q
        rw [e, show ((c :: t) == ((43 : UInt8) :: r)) = false from by
          rw [← Bool.not_eq_true, beq_iff_eq]
          intro e2
          have := (List.cons.inj e2).1
          rw [this] at hc
          exact absurd hc (by decide)]
        rfl
    · have hq18 := Lib.decFrom_lt18 hq (by omega)
      unfold undecE
      rw [hq, decide_eq_false (by omega : ¬ (q : Int) < 0), cond_false]
      have hi := dd_iff (b0 :: r) q hq (by simp)
      by_cases hm : (q : Int) > m
      · rw [decide_eq_true hm]
        show some (0, 2) = some (if (b0 :: r).length < 1 ∨ (b0 :: r).length > 10 ∨ ((b0 :: r).length > 1 ∧ (b0 :: r).head? = some 48) then (0, 2) else if (q : Int) > m then (0, 2) else ((q : Int), 0))
        rw [if_pos hm]
        split <;> rfl
      · rw [decide_eq_false hm, cond_false, cond_false, dec_f _ (by omega) (by omega), bind_some', itoa_nat]
        show _ = some (if (b0 :: r).length < 1 ∨ (b0 :: r).length > 10 ∨ ((b0 :: r).length > 1 ∧ (b0 :: r).head? = some 48) then (0, 2) else if (q : Int) > m then (0, 2) else ((q : Int), 0))
        rw [if_neg hm]
        by_cases hd : decDigits q = b0 :: r
        · rw [show (decDigits q == b0 :: r) = true from by rw [beq_iff_eq]; exact hd]
          have := hi.1 hd
          rw [if_neg (by
            rintro (h | h | ⟨h2, h3⟩)
            · simp at h
            · exact h1 h
            · rcases this with h | h
              · omega
              · exact h h3)]
          rfl
        · rw [show (decDigits q == b0 :: r) = false from by rw [← Bool.not_eq_true, beq_iff_eq]; exact hd]
          rw [if_pos (by
            right; right
            have hl : 1 ≤ (b0 :: r).length := by simp
            have : ¬ ((b0 :: r).length = 1 ∨ (b0 :: r).head? ≠ some 48) := fun h => hd (hi.2 h)
            refine ⟨?_, ?_⟩
            · have : (b0 :: r).length ≠ 1 := fun e => this (Or.inl e)
              omega
            · exact Classical.byContradiction fun e => this (Or.inr e))]
          rfl
theorem div10 (v : UInt64) : (v / 10).toNat = v.toNat / 10 := by rw [UInt64.toNat_div]; rfl
theorem dig10 (v : UInt64) : ofI8 (((48 : UInt64) + (v % (10 : UInt64))).toNat : Int) = UInt8.ofNat (48 + v.toNat % 10) := by
  apply UInt8.toNat_inj.1
  have h := ofI8_nat ((((48 : UInt64) + (v % (10 : UInt64))).toNat : Nat) : Int)
  have h2 : ((48 : UInt64) + (v % (10 : UInt64))).toNat = 48 + v.toNat % 10 := by
    rw [UInt64.toNat_add, UInt64.toNat_mod]
    show (48 + v.toNat % 10) % 18446744073709551616 = _
    omega
  rw [h2] at h ⊢
  rw [dg_nat (by omega)]
  omega
theorem rdec_l1 (k : Nat) : ∀ (d n : Nat) (v : UInt64) (out : List UInt8), v.toNat < 10 ^ d → d < n → out.length + d ≤ 1000 → 0 < v.toNat → dictumref01_Dec.l1 k n v out = some (decDigits v.toNat ++ out) := by
  intro d
  induction d with
  | zero => intro n v out hv hn ho h0; simp at hv; omega
  | succ d ih =>
    intro n v out hv hn ho h0
    obtain ⟨n, rfl⟩ : ∃ m, n = m + 2 := ⟨n - 2, by omega⟩
    rw [dictumref01_Dec.l1.eq_2, decide_eq_true (by rw [UInt64.lt_iff_toNat_lt]; exact h0), cond_true, bind_some', cond_true]
    rw [show chk (!((10 : UInt64) == 0)) = some () from rfl, bind_some', chk_of (decide_eq_true (by rw [List.length_singleton]; omega)), bind_some', bind_some', dig10]
    by_cases h : v.toNat < 10
    · rw [dictumref01_Dec.l1.eq_2, decide_eq_false (by rw [UInt64.lt_iff_toNat_lt, div10]; show ¬ 0 < _; omega), cond_false, bind_some']
      rw [show (([UInt8.ofNat (48 + v.toNat % 10)] ++ out) == ([] : List UInt8)) = false from rfl, cond_false, dd_small h, Nat.mod_eq_of_lt h]
    · rw [ih (n + 1) (v / 10) _ (by rw [div10]; rw [Nat.pow_succ] at hv; omega) (by omega) (by rw [List.length_append, List.length_singleton]; omega) (by rw [div10]; omega), div10, dd_big h, List.append_assoc]
theorem rdec_mag (k : Nat) (v : UInt64) (hk : 30 ≤ k) : dictumref01_Dec.l1 k k v [] = some (decDigits v.toNat) := by
  by_cases h : 0 < v.toNat
  · have hv := v.toNat_lt
    have e20 : (10 : Nat) ^ 20 = 100000000000000000000 := by decide
    rw [rdec_l1 k 20 k v [] (by omega) (by omega) (by simp) h, List.append_nil]
  · have : v = 0 := UInt64.toNat_inj.1 (by show v.toNat = 0; omega)
    subst this
    obtain ⟨n, hn⟩ : ∃ n, k = n + 2 := ⟨k - 2, by omega⟩
    rw [show dictumref01_Dec.l1 k k (0 : UInt64) [] = dictumref01_Dec.l1 k (n + 2) (0 : UInt64) [] from by rw [← hn]]
    rw [dictumref01_Dec.l1.eq_2, show decide ((0 : UInt64) < 0) = false from by decide, cond_false, show (([] : List UInt8) == []) = true from rfl, bind_some', cond_true, show chk (!((10 : UInt64) == 0)) = some () from rfl, bind_some', chk_of (decide_eq_true (by rw [List.length_singleton, List.length_nil]; omega)), bind_some', bind_some', dig10]
    rw [dictumref01_Dec.l1.eq_2, show decide ((0 : UInt64) < 0 / 10) = false from by decide, cond_false, bind_some', show (([UInt8.ofNat (48 + (0 : UInt64).toNat % 10)] ++ []) == ([] : List UInt8)) = false from rfl, cond_false, show decDigits (0 : UInt64).toNat = [48] from dd_small (by decide)]
    rfl
theorem dd_len20 (u : Nat) (h : u < 18446744073709551616) : (decDigits u).length ≤ 20 := dd_len 19 u (by
  have e20 : (10 : Nat) ^ 20 = 100000000000000000000 := by decide
  omega)
theorem rdec_f (n : Int) (h0 : -9223372036854775808 ≤ n) (h1 : n ≤ 9223372036854775807) (k : Nat) (hk : 30 ≤ k) : dictumref01_Dec.f k n = some (itoa n) := by
  unfold dictumref01_Dec.f itoa
  have hn := ofI64_nat n
  by_cases h : n < 0
  · have hm : ((0 : UInt64) - ofI64 n).toNat = n.natAbs := by
      rw [UInt64.toNat_sub]
      show (18446744073709551616 - (ofI64 n).toNat + 0) % 18446744073709551616 = _
      omega
    have := dd_len20 n.natAbs (by omega)
    rw [decide_eq_true h, cond_true, if_pos h, bind_some']
    simp only
    rw [rdec_mag k _ hk, hm, bind_some', chk_of (decide_eq_true (by rw [List.length_singleton]; omega))]
    rfl
  · have hm : (ofI64 n).toNat = n.toNat := by omega
    have := dd_len20 n.toNat (by omega)
    rw [decide_eq_false h, cond_false, if_neg h, bind_some']
    simp only
    rw [rdec_mag k _ hk, hm, bind_some', chk_of (decide_eq_true (by rw [List.length_nil]; omega))]
    rfl
theorem undec_dec (n : Int) (h0 : 0 ≤ n) (h1 : n ≤ 9999999999) : undecE (itoa n) n = (n, 0) := by
  obtain ⟨m, rfl⟩ : ∃ m : Nat, n = (m : Int) := ⟨n.toNat, by omega⟩
  rw [itoa_nat]
  unfold undecE
  have hl := dd_len 9 m (by have e10 : (10 : Nat) ^ (9 + 1) = 10000000000 := by decide
                            omega)
  obtain ⟨c, t, e, _⟩ := dd_head m
  have hne : 1 ≤ (decDigits m).length := by rw [e]; simp
  have hi := (dd_iff (decDigits m) m (dd_dec m) hne).1 rfl
  rw [dd_dec m, if_neg (by
    rintro (h | h | ⟨h2, h3⟩)
    · omega
    · omega
    · rcases hi with h | h
      · omega
      · exact h h3)]
  show (if _ then _ else _) = _
  rw [if_neg (by omega)]
end Go.Proofs.YtfdocckaobmgeaaDoor.X
