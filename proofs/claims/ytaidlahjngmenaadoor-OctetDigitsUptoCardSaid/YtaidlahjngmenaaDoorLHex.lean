/- Layer 1, plain: hexadecimal digits. -/
import Derived.Test.YtaidlahjngmenaaDoorLA
import Derived.Lib.TrimAscii
import Derived.Lib.RuneBytes
set_option linter.unusedVariables false
set_option linter.unusedSimpArgs false
namespace Go.Proofs.YtaidlahjngmenaaDoor.X
open Go Go.RowKit Go.Proofs.YtaidlahjngmenaaDoor.SX
def HEX : List UInt8 := [48, 49, 50, 51, 52, 53, 54, 55, 56, 57, 97, 98, 99, 100, 101, 102]
def hexI (c : UInt8) : Int := Lib.indexByte HEX c
theorem indexByte_none : ∀ (l : List UInt8) (c : UInt8), c ∉ l → Lib.indexByte l c = -1
  | [], _, _ => rfl
  | b :: l, c, h => by
    have h1 : (b == c) = false := by rw [← Bool.not_eq_true, beq_iff_eq]; intro e; exact h (by simp [e])
    have h2 := indexByte_none l c (fun hm => h (List.mem_cons_of_mem _ hm))
    unfold Lib.indexByte
    rw [h1, h2]
    rfl
theorem hexI_all : ∀ c : Fin 256, -1 ≤ hexI (UInt8.ofNat c.val) ∧ hexI (UInt8.ofNat c.val) ≤ 15 ∧ (0 ≤ hexI (UInt8.ofNat c.val) → c.val < 128) ∧ dictumref01_digit.f (UInt8.ofNat c.val) = some (hexI (UInt8.ofNat c.val)) := by decide +kernel
theorem hexI_c (c : UInt8) : -1 ≤ hexI c ∧ hexI c ≤ 15 ∧ (0 ≤ hexI c → c.toNat < 128) ∧ dictumref01_digit.f c = some (hexI c) := by
  have h := hexI_all ⟨c.toNat, c.toNat_lt⟩
  simpa only [UInt8.ofNat_toNat] using h
theorem rune_last (r : Int) (h : 128 ≤ r) : ∃ p c, runeStr r = p ++ [c] ∧ 128 ≤ c.toNat ∧ 1 ≤ p.length ∧ p.length ≤ 3 := by
  unfold runeStr Utf8.encode
  have hc : 128 ≤ (if Utf8.valid r then r.toNat else Utf8.runeError) := by
    split
    · omega
    · decide
  generalize (if Utf8.valid r then r.toNat else Utf8.runeError) = c at hc
  have hb : 128 ≤ (UInt8.ofNat (128 + c % 64)).toNat := by rw [UInt8.toNat_ofNat']; omega
  simp only
  rw [if_neg (by omega)]
  split
  · exact ⟨[_], _, rfl, hb, by simp, by simp⟩
  · split
    · exact ⟨[_, _], _, rfl, hb, by simp, by simp⟩
    · exact ⟨[_, _, _], _, rfl, hb, by simp, by simp⟩
theorem hex_mem : ∀ c ∈ HEX, c.toNat < 128 := by decide
theorem l1_hex (k : Nat) (hk : 20 ≤ k) : strings_IndexRune.l1 k HEX k 0 = some (.inr ()) :=
  strings_IndexRune.l1.mono hk HEX 20 k hk 0 _ (by kernel_rfl)
theorem indexRune_hex (r : Int) (h0 : 0 ≤ r) (k : Nat) (hk : 20 ≤ k) : strings_IndexRune.f k HEX r = some (if r < 128 then hexI (ofI8 r) else -1) := by
  unfold strings_IndexRune.f strings_IndexByte.f
  rw [decide_eq_true h0, cond_true, bind_some']
  by_cases h1 : r < 128
  · rw [decide_eq_true h1, if_pos h1]
    rfl
  rw [decide_eq_false h1, if_neg h1, cond_false, l1_hex k hk]
  cases h2 : (r == 65533) with
  | true => rfl
  | false =>
  rw [cond_false]
  unfold utf8_ValidRune.f
  rw [bind_some']
  cases hv : Lib.validRune r with
  | false => rfl
  | true =>
  rw [Bool.not_true, cond_false]
  obtain ⟨p, c, hs, hc, hp1, hp3⟩ := rune_last r (by omega)
  obtain ⟨k, rfl⟩ : ∃ m, k = m + 1 := ⟨k - 1, by omega⟩
  have hlen : (HEX.length : Int) = 16 := rfl
  have hpl : p.length < HEX.length := by show _ < 16; omega
  have e1 : wrap64 (((p ++ [c]).length : Int) - 1) = (p.length : Int) := by rw [List.length_append, List.length_singleton, w64 (by omega) (by omega)]; omega
  rw [strings_IndexRune.l2.eq_2, hs, e1, hlen, decide_eq_true (show (p.length : Int) < 16 by clear e1; omega), cond_true, ix_nat, List.getElem?_eq_getElem hpl, bind_some', ix_nat, List.getElem?_append_right (Nat.le_refl _), Nat.sub_self]
  rw [show ([c][0]?) = some c from rfl, bind_some']
  have hne : (HEX[p.length] == c) = false := by
    rw [← Bool.not_eq_true, beq_iff_eq]
    intro e
    have := hex_mem _ (List.getElem_mem hpl)
    rw [e] at this
    omega
  rw [hne, Bool.not_false, cond_true, wsucc p.length (by omega), ← hlen, cut_from HEX (by omega), bind_some', bind_some']
  unfold strings_IndexByte.f
  rw [indexByte_none _ c (fun hm => by have := hex_mem c (List.mem_of_mem_drop hm); omega)]
  rfl
theorem decodeN_ge (n b0 b1 b2 b3 : Nat) (h : 128 ≤ b0) : 128 ≤ (Lib.decodeN n b0 b1 b2 b3).1 := by
  unfold Lib.decodeN
  repeat' split
  all_goals first | omega | (simp only; omega)
theorem rune_at (s : List UInt8) (i : Nat) (h : i < s.length) : 0 ≤ runeAt s i ∧ ((s[i].toNat < 128 → runeAt s i = (s[i].toNat : Int) ∧ wideAt s i = 1) ∧ (128 ≤ s[i].toNat → 128 ≤ runeAt s i)) := by
  unfold runeAt wideAt
  refine ⟨by omega, fun h1 => ?_, fun h1 => ?_⟩
  · rw [drop_cons h, Lib.decodeL_ascii _ _ h1]
    exact ⟨rfl, rfl⟩
  · rw [Lib.decodeL_N]
    have e : ((s.drop i).getD 0 0) = s[i] := by rw [drop_cons h]; rfl
    rw [e]
    have := decodeN_ge (s.drop i).length s[i].toNat ((s.drop i).getD 1 0).toNat ((s.drop i).getD 2 0).toNat ((s.drop i).getD 3 0).toNat h1
    omega
theorem ofI8_byte (c : UInt8) : ofI8 (c.toNat : Int) = c := by
  have h := c.toNat_lt
  apply UInt8.toNat_inj.1
  have := ofI8_nat (c.toNat : Int)
  omega
theorem indexRune_at (s : List UInt8) (i : Nat) (h : i < s.length) (k : Nat) (hk : 20 ≤ k) : strings_IndexRune.f k HEX (runeAt s i) = some (hexI s[i]) := by
  obtain ⟨h0, h1, h2⟩ := rune_at s i h
  rw [indexRune_hex _ h0 k hk]
  by_cases hc : s[i].toNat < 128
  · obtain ⟨e, _⟩ := h1 hc
    rw [e, if_pos (by omega), ofI8_byte]
  · have := h2 (by omega)
    have hx := hexI_c s[i]
    rw [if_neg (by omega)]
    congr 1
    omega
def byteOf (a b : UInt8) : UInt8 := UInt8.ofNat (16 * (hexI a).toNat + (hexI b).toNat)
def unhexS : List UInt8 → Option (List UInt8)
  | [] => some []
  | [_] => none
  | a :: b :: t => if hexI a < 0 ∨ hexI b < 0 then none else (unhexS t).map (byteOf a b :: ·)
theorem nib : ∀ a b : Fin 16, ofI8 (shlI (a.val : Int) 4) ||| ofI8 (b.val : Int) = UInt8.ofNat (16 * a.val + b.val) ∧ ofI8 (wrap64 ((wrap64 (16 * (a.val : Int))) + (b.val : Int))) = UInt8.ofNat (16 * a.val + b.val) := by decide +kernel
theorem nib_i (a b : Int) (ha : 0 ≤ a) (ha2 : a ≤ 15) (hb : 0 ≤ b) (hb2 : b ≤ 15) : ofI8 (shlI a 4) ||| ofI8 b = UInt8.ofNat (16 * a.toNat + b.toNat) ∧ ofI8 (wrap64 ((wrap64 (16 * a)) + b)) = UInt8.ofNat (16 * a.toNat + b.toNat) := by
  have h := nib ⟨a.toNat, by omega⟩ ⟨b.toNat, by omega⟩
  simp only [Int.toNat_of_nonneg ha, Int.toNat_of_nonneg hb] at h
  exact h
theorem tmod2 (n : Nat) : (((n : Nat) : Int).tmod 2) = ((n % 2 : Nat) : Int) := by rw [Int.tmod_eq_emod_of_nonneg (by omega)]; omega
theorem runhex_l1 (k : Nat) (s : List UInt8) (hs : s.length ≤ 100000000) : ∀ (d n i : Nat) (out : List UInt8), i + 2 * d = s.length → d < n → out.length ≤ i → dictumref01_Unhex.l1 k s n out (i : Int) = some (match unhexS (s.drop i) with | none => .inl ([], 2) | some r => .inr (out ++ r)) := by
  intro d
  induction d with
  | zero =>
    intro n i out hi hn ho
    obtain ⟨n, rfl⟩ : ∃ m, n = m + 1 := ⟨n - 1, by omega⟩
    rw [dictumref01_Unhex.l1.eq_2, decide_eq_false (by omega), List.drop_eq_nil_of_le (by omega), cond_false]
    simp [unhexS]
  | succ d ih =>
    intro n i out hi hn ho
    obtain ⟨n, rfl⟩ : ∃ m, n = m + 1 := ⟨n - 1, by omega⟩
    have h1 : i < s.length := by omega
    have h2 : i + 1 < s.length := by omega
    have ha := hexI_c s[i]
    have hb := hexI_c s[i + 1]
    rw [dictumref01_Unhex.l1.eq_2, decide_eq_true (by omega : (i : Int) < (s.length : Int)), cond_true, ix_nat, List.getElem?_eq_getElem h1, bind_some', ha.2.2.2, bind_some', wsucc i (by omega), ix_nat, List.getElem?_eq_getElem h2, bind_some', hb.2.2.2, bind_some', drop_cons h1, drop_cons h2]
    unfold unhexS
    by_cases hA : hexI s[i] < 0
    · rw [decide_eq_true hA, if_pos (Or.inl hA)]; rfl
    rw [decide_eq_false hA, cond_false, bind_some']
    by_cases hB : hexI s[i + 1] < 0
    · rw [decide_eq_true hB, if_pos (Or.inr hB)]; rfl
    rw [decide_eq_false hB, cond_false, if_neg (by omega), (nib_i _ _ (by omega) ha.2.1 (by omega) hb.2.1).2, chk_of (decide_eq_true (by rw [List.length_singleton]; omega)), bind_some', show wrap64 ((i : Int) + 2) = ((i + 2 : Nat) : Int) from by rw [w64 (by omega) (by omega)]; omega]
    rw [ih n (i + 2) _ (by omega) (by omega) (by simp; omega)]
    show _ = some (match (unhexS (s.drop (i + 1 + 1))).map (byteOf s[i] s[i + 1] :: ·) with | none => _ | some r => _)
    cases unhexS (s.drop (i + 1 + 1)) with
    | none => rfl
    | some r => simp [byteOf]
theorem punhex_l1 (k : Nat) (s : List UInt8) (hs : s.length ≤ 100000000) (hk : 20 ≤ k) : ∀ (d n i : Nat) (out : List UInt8), i + 2 * d = s.length → 2 * d < n → out.length ≤ i → i % 2 = 0 → octet_Unhex.l1 k s n out i = some (match unhexS (s.drop i) with | none => .inl ([], 2) | some r => .inr (out ++ r)) := by
  intro d
  induction d with
  | zero =>
    intro n i out hi hn ho he
    obtain ⟨n, rfl⟩ : ∃ m, n = m + 1 := ⟨n - 1, by omega⟩
    have hb : Nat.blt i s.length = false := by rw [← Bool.not_eq_true, Nat.blt_eq]; omega
    rw [octet_Unhex.l1.eq_2, hb, List.drop_eq_nil_of_le (by omega), cond_false]
    simp [unhexS]
  | succ d ih =>
    intro n i out hi hn ho he
    obtain ⟨n, rfl⟩ : ∃ m, n = m + 2 := ⟨n - 2, by omega⟩
    have h1 : i < s.length := by omega
    have h2 : i + 1 < s.length := by omega
    have ha := hexI_c s[i]
    have hb := hexI_c s[i + 1]
    have hb1 : Nat.blt i s.length = true := by rw [Nat.blt_eq]; exact h1
    have hb2 : Nat.blt (i + 1) s.length = true := by rw [Nat.blt_eq]; exact h2
    have hx : strings_IndexRune.f k ([48, 49, 50, 51, 52, 53, 54, 55, 56, 57, 97, 98, 99, 100, 101, 102] : List UInt8) (runeAt s i) = some (hexI s[i]) := indexRune_at s i h1 k hk
    have hx2 : strings_IndexRune.f k ([48, 49, 50, 51, 52, 53, 54, 55, 56, 57, 97, 98, 99, 100, 101, 102] : List UInt8) (runeAt s (i + 1)) = some (hexI s[i + 1]) := indexRune_at s (i + 1) h2 k hk
    rw [octet_Unhex.l1.eq_2, hb1, cond_true, hx, bind_some', drop_cons h1, drop_cons h2]
    unfold unhexS
    by_cases hA : hexI s[i] < 0
    · rw [decide_eq_true hA, if_pos (Or.inl hA)]; rfl
    have hw1 := ((rune_at s i h1).2.1 (ha.2.2.1 (by omega))).2
    rw [decide_eq_false hA, cond_false, tmod2, show (((i % 2 : Nat) : Int) == 0) = true from by rw [he]; rfl, cond_true, chk_of (decide_eq_true (by rw [List.length_singleton]; omega)), bind_some', hw1, octet_Unhex.l1.eq_2, hb2, cond_true, hx2, bind_some']
    by_cases hB : hexI s[i + 1] < 0
    · rw [decide_eq_true hB, if_pos (Or.inr hB)]; rfl
    have hw2 := ((rune_at s (i + 1) h2).2.1 (hb.2.2.1 (by omega))).2
    have ho2 : wrap64 (((out ++ [ofI8 (shlI (hexI s[i]) 4)]).length : Int) - 1) = (out.length : Int) := by rw [List.length_append, List.length_singleton, w64 (by omega) (by omega)]; omega
    rw [decide_eq_false hB, cond_false, tmod2, show ((((i + 1) % 2 : Nat) : Int) == 0) = false from by rw [show (i + 1) % 2 = 1 from by omega]; rfl, cond_false, ho2, ix_nat, List.getElem?_append_right (Nat.le_refl _), Nat.sub_self]
    clear ho2
    rw [show ([ofI8 (shlI (hexI s[i]) 4)][0]?) = some (ofI8 (shlI (hexI s[i]) 4)) from rfl, bind_some', bind_some', hw2, Int.toNat_natCast, List.set_append_right _ _ (Nat.le_refl _), Nat.sub_self, List.set_cons_zero, (nib_i _ _ (by omega) ha.2.1 (by omega) hb.2.1).1, if_neg (by omega), show i + 1 + 1 = i + 2 from rfl]
    rw [ih n (i + 2) _ (by omega) (by omega) (by simp; omega) (by omega)]
    show _ = some (match (unhexS (s.drop (i + 2))).map (byteOf s[i] s[i + 1] :: ·) with | none => _ | some r => _)
    cases unhexS (s.drop (i + 2)) with
    | none => rfl
    | some r => simp [byteOf]
def unhexE (s : List UInt8) : List UInt8 × Int := if s.length % 2 = 1 then ([], 2) else match unhexS s with | none => ([], 2) | some r => (r, 0)
theorem runhex_f (s : List UInt8) (hs : s.length ≤ 100000000) (k : Nat) (hk : s.length + 20 ≤ k) : dictumref01_Unhex.f k s = some (unhexE s) := by
  unfold dictumref01_Unhex.f unhexE
  rw [tmod2]
  by_cases h : s.length % 2 = 1
  · rw [h, if_pos rfl]; rfl
  · have h0 : s.length % 2 = 0 := by omega
    have h1 := runhex_l1 k s hs (s.length / 2) k 0 [] (by omega) (by omega) (Nat.le_refl _)
    rw [h0, if_neg (by decide), show dictumref01_Unhex.l1 k s k [] 0 = _ from h1, List.drop_zero]
    cases unhexS s <;> rfl
theorem punhex_f (s : List UInt8) (hs : s.length ≤ 100000000) (k : Nat) (hk : s.length + 20 ≤ k) : octet_Unhex.f k s = some (unhexE s) := by
  unfold octet_Unhex.f unhexE
  rw [tmod2]
  by_cases h : s.length % 2 = 1
  · rw [h, if_pos rfl]; rfl
  · have h0 : s.length % 2 = 0 := by omega
    have h1 := punhex_l1 k s hs (by omega) (s.length / 2) k 0 [] (by omega) (by omega) (Nat.le_refl _) rfl
    rw [h0, if_neg (by decide), h1, List.drop_zero]
    cases unhexS s <;> rfl
def hexE (l : List UInt8) : List UInt8 := l.flatMap fun c => [HEX.getD (c.toNat / 16) 0, HEX.getD (c.toNat % 16) 0]
theorem hexE_cons (c : UInt8) (t : List UInt8) : hexE (c :: t) = HEX.getD (c.toNat / 16) 0 :: HEX.getD (c.toNat % 16) 0 :: hexE t := rfl
theorem hex_all : ∀ c : Fin 256, ix HEX ((shr8 (UInt8.ofNat c.val) 4).toNat : Int) = some (HEX.getD (c.val / 16) 0) ∧ ix HEX ((UInt8.ofNat c.val &&& 15).toNat : Int) = some (HEX.getD (c.val % 16) 0) ∧
    cut HEX ((shr8 (UInt8.ofNat c.val) 4).toNat : Int) ((shr8 (UInt8.ofNat c.val) 4 + 1).toNat : Int) = some [HEX.getD (c.val / 16) 0] ∧ cut HEX ((UInt8.ofNat c.val &&& 15).toNat : Int) (((UInt8.ofNat c.val &&& 15) + 1).toNat : Int) = some [HEX.getD (c.val % 16) 0] ∧
    0 ≤ hexI (HEX.getD (c.val / 16) 0) ∧ 0 ≤ hexI (HEX.getD (c.val % 16) 0) ∧ byteOf (HEX.getD (c.val / 16) 0) (HEX.getD (c.val % 16) 0) = UInt8.ofNat c.val := by decide +kernel
theorem hex_c (c : UInt8) : ix HEX ((shr8 c 4).toNat : Int) = some (HEX.getD (c.toNat / 16) 0) ∧ ix HEX ((c &&& 15).toNat : Int) = some (HEX.getD (c.toNat % 16) 0) ∧
    cut HEX ((shr8 c 4).toNat : Int) ((shr8 c 4 + 1).toNat : Int) = some [HEX.getD (c.toNat / 16) 0] ∧ cut HEX ((c &&& 15).toNat : Int) (((c &&& 15) + 1).toNat : Int) = some [HEX.getD (c.toNat % 16) 0] ∧
    0 ≤ hexI (HEX.getD (c.toNat / 16) 0) ∧ 0 ≤ hexI (HEX.getD (c.toNat % 16) 0) ∧ byteOf (HEX.getD (c.toNat / 16) 0) (HEX.getD (c.toNat % 16) 0) = c := by
  have h := hex_all ⟨c.toNat, c.toNat_lt⟩
  simp only [UInt8.ofNat_toNat] at h
  exact h
theorem phex_l1 (k : Nat) (s : List UInt8) (hs : s.length ≤ 10000000) : ∀ (d n i : Nat) (out : List UInt8), i + d = s.length → d < n → out.length ≤ 2 * i → octet_Hex.l1 k s n (i : Int) out = some (out ++ hexE (s.drop i)) := by
  intro d
  induction d with
  | zero =>
    intro n i out hi hn ho
    obtain ⟨n, rfl⟩ : ∃ m, n = m + 1 := ⟨n - 1, by omega⟩
    rw [octet_Hex.l1.eq_2, decide_eq_false (by omega), List.drop_eq_nil_of_le (by omega), cond_false]
    simp [hexE]
  | succ d ih =>
    intro n i out hi hn ho
    obtain ⟨n, rfl⟩ : ∃ m, n = m + 1 := ⟨n - 1, by omega⟩
    have h1 : i < s.length := by omega
    have hc := hex_c s[i]
    rw [octet_Hex.l1.eq_2, decide_eq_true (by omega : (i : Int) < (s.length : Int)), cond_true, ix_nat, List.getElem?_eq_getElem h1, bind_some']
    show (ix HEX _).bind _ = _
    rw [hc.1, bind_some']
    unfold Builder_WriteByte.f
    rw [chk_of (decide_eq_true (by rw [List.length_singleton]; omega)), bind_some', bind_some']
    show (ix HEX _).bind _ = _
    rw [hc.2.1, bind_some', chk_of (decide_eq_true (by rw [List.length_append, List.length_singleton, List.length_singleton]; omega)), bind_some', bind_some', wsucc i (by omega), ih n (i + 1) _ (by omega) (by omega) (by simp; omega), drop_cons h1, hexE_cons, List.append_assoc, List.append_assoc]
    rfl
theorem rhex_l1 (k : Nat) (s : List UInt8) (hs : s.length ≤ 10000000) : ∀ (d n i : Nat) (out : List UInt8), i + d = s.length → d < n → out.length ≤ 2 * i → dictumref01_Hex.l1 k s n out (i : Int) = some (out ++ hexE (s.drop i)) := by
  intro d
  induction d with
  | zero =>
    intro n i out hi hn ho
    obtain ⟨n, rfl⟩ : ∃ m, n = m + 1 := ⟨n - 1, by omega⟩
    rw [dictumref01_Hex.l1.eq_2, decide_eq_false (by omega), List.drop_eq_nil_of_le (by omega), cond_false]
    simp [hexE]
  | succ d ih =>
    intro n i out hi hn ho
    obtain ⟨n, rfl⟩ : ∃ m, n = m + 1 := ⟨n - 1, by omega⟩
    have h1 : i < s.length := by omega
    have hc := hex_c s[i]
    rw [dictumref01_Hex.l1.eq_2, decide_eq_true (by omega : (i : Int) < (s.length : Int)), cond_true, ix_nat, List.getElem?_eq_getElem h1, bind_some', bind_some']
    show (cut HEX _ _).bind _ = _
    rw [hc.2.2.1, bind_some', chk_of (decide_eq_true (by rw [List.length_singleton]; omega)), bind_some', bind_some', bind_some']
    show (cut HEX _ _).bind _ = _
    rw [hc.2.2.2.1, bind_some', chk_of (decide_eq_true (by rw [List.length_append, List.length_singleton, List.length_singleton]; omega)), bind_some', wsucc i (by omega), ih n (i + 1) _ (by omega) (by omega) (by simp; omega), drop_cons h1, hexE_cons, List.append_assoc, List.append_assoc]
    rfl
theorem hexE_len (s : List UInt8) : (hexE s).length = 2 * s.length := by
  induction s with
  | nil => rfl
  | cons a t ih => simp only [hexE, List.flatMap_cons, List.length_append, List.length_cons, List.length_nil] at *; omega
theorem phex_f (s : List UInt8) (hs : s.length ≤ 10000000) (k : Nat) (hk : s.length < k) : octet_Hex.f k s = some (hexE s) := by
  unfold octet_Hex.f Builder_String.f
  have h := phex_l1 k s hs s.length k 0 [] (by omega) hk (by simp)
  rw [show octet_Hex.l1 k s k 0 [] = _ from h, bind_some', List.drop_zero, List.nil_append, chk_of (decide_eq_true (by rw [hexE_len]; omega))]
  rfl
theorem rhex_f (s : List UInt8) (hs : s.length ≤ 10000000) (k : Nat) (hk : s.length < k) : dictumref01_Hex.f k s = some (hexE s) := by
  unfold dictumref01_Hex.f
  have h := rhex_l1 k s hs s.length k 0 [] (by omega) hk (by simp)
  rw [show dictumref01_Hex.l1 k s k [] 0 = _ from h, bind_some', List.drop_zero, List.nil_append]
theorem unhex_hex : ∀ s : List UInt8, unhexS (hexE s) = some s
  | [] => rfl
  | c :: t => by
    have hc := (hex_c c).2.2.2.2
    show (if _ then _ else (unhexS (hexE t)).map _) = _
    rw [if_neg (by omega), unhex_hex t, hc.2.2]
    rfl
theorem unhexE_hex (s : List UInt8) : unhexE (hexE s) = (s, 0) := by
  unfold unhexE
  rw [if_neg (by rw [hexE_len]; omega), unhex_hex]
theorem unhexS_len : ∀ (s r : List UInt8), unhexS s = some r → r.length ≤ s.length
  | [], r, h => by simp [unhexS] at h; subst h; simp
  | [_], r, h => by simp [unhexS] at h
  | a :: b :: t, r, h => by
    unfold unhexS at h
    split at h
    · cases h
    · obtain ⟨q, hq, rfl⟩ := Option.map_eq_some_iff.1 h
      have := unhexS_len t q hq
      simp; omega
theorem unhexE_len (s : List UInt8) : (unhexE s).1.length ≤ s.length := by
  unfold unhexE
  split
  · simp
  · cases h : unhexS s with
    | none => simp
    | some r => exact unhexS_len s r h
end Go.Proofs.YtaidlahjngmenaaDoor.X
