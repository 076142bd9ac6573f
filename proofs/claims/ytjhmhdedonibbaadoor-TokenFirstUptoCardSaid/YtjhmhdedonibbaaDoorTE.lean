/- Layer 2, plain: signs, the runes of logic. -/
import Derived.Test.YtjhmhdedonibbaaDoorTD
set_option linter.unusedVariables false
set_option linter.unusedSimpArgs false
namespace Go.Proofs.YtjhmhdedonibbaaDoor.X
open Go Go.RowKit Go.Proofs.YtjhmhdedonibbaaDoor.SX
def SIGNS : List (List UInt8) := [[60, 45, 62], [60, 61], [61, 62], [45, 62], [124, 45], [126], [38], [124], [40], [41], [91], [93], [123], [125], [44], [46], [58], [59], [61], [47]]
def SPECS : List (List UInt8 × Int × List UInt8) := [([194, 172], 3, [126]), ([226, 136, 167], 3, [38]), ([226, 136, 168], 3, [124]), ([226, 134, 146], 3, [45, 62]), ([226, 134, 148], 3, [60, 45, 62]), ([226, 138, 162], 3, [124, 45]), ([226, 137, 164], 3, [60, 61]), ([226, 138, 164], 1, [116, 114, 117, 101]), ([226, 138, 165], 1, [102, 97, 108, 115, 101])]
def signOf (l : List UInt8) : Option (List UInt8) := SIGNS.find? fun x => x.isPrefixOf l
def specOf (l : List UInt8) : Option (List UInt8 × Int × List UInt8) := SPECS.find? fun e => e.1.isPrefixOf l
theorem pfx_take (t l : List UInt8) : t.isPrefixOf l = (decide (t.length ≤ l.length) && (l.take t.length == t)) := by
  rw [Bool.eq_iff_iff, List.isPrefixOf_iff_prefix, List.prefix_iff_eq_take, Bool.and_eq_true, decide_eq_true_eq, beq_iff_eq]
  constructor
  · intro h
    refine ⟨?_, h.symm⟩
    have := congrArg List.length h
    rw [List.length_take] at this
    omega
  · intro h
    exact h.2.symm
theorem hasp_f (l x : List UInt8) : strings_HasPrefix.f l x = some (x.isPrefixOf l) := by
  unfold strings_HasPrefix.f stringslite_HasPrefix.f
  rw [pfx_take]
  by_cases h : x.length ≤ l.length
  · rw [decide_eq_true (by omega : (l.length : Int) ≥ (x.length : Int)), cond_true, decide_eq_true h]
    have hc : cut l 0 (x.length : Int) = some (l.take x.length) := cut_to l h
    rw [hc]
    rfl
  · rw [decide_eq_false (by omega : ¬ (l.length : Int) ≥ (x.length : Int)), decide_eq_false h]
    rfl
def tk (k : Int) (t : List UInt8) (v : Int) : T_api_Token := ⟨k, t, v, ⟨0, 0, 0⟩⟩
theorem sign_l1 (k : Nat) (l : List UInt8) : ∀ (d kk n : Nat), 20 - n ≤ d → d < kk → n ≤ 20 →
    token_sign.l1 k l kk (n : Int) = some (match (SIGNS.drop n).find? (fun e => e.isPrefixOf l) with | some e => .inl (e, (e.length : Int)) | none => .inr ()) := by
  intro d
  have hlen : SIGNS.length = 20 := rfl
  induction d with
  | zero =>
    intro kk n h1 h2 h3
    obtain ⟨kk, rfl⟩ : ∃ m, kk = m + 1 := ⟨kk - 1, by omega⟩
    rw [token_sign.l1.eq_2, decide_eq_false (by omega), show SIGNS.drop n = [] from List.drop_eq_nil_of_le (by omega)]
    rfl
  | succ d ih =>
    intro kk n h1 h2 h3
    obtain ⟨kk, rfl⟩ : ∃ m, kk = m + 1 := ⟨kk - 1, by omega⟩
    by_cases h : n < 20
    · have h' : n < SIGNS.length := by omega
      rw [token_sign.l1.eq_2, decide_eq_true (by omega : (n : Int) < 20), cond_true]
      show (ix SIGNS (n : Int)).bind _ = _
      rw [ix_nat, List.getElem?_eq_getElem h', bind_some', hasp_f, bind_some', drop_cons h', List.find?_cons]
      cases hp : SIGNS[n].isPrefixOf l with
      | true => rfl
      | false =>
        rw [cond_false, wsucc n (by omega)]
        exact ih kk (n + 1) (by omega) (by omega) (by omega)
    · rw [token_sign.l1.eq_2, decide_eq_false (by omega), show SIGNS.drop n = [] from List.drop_eq_nil_of_le (by omega)]
      rfl
/-! Runes -/
theorem pfx3 (a b c : UInt8) (l : List UInt8) : ([a, b, c] : List UInt8).isPrefixOf l = (decide (2 < l.length) && (decide ((l.getD 0 0).toNat = a.toNat) && (decide ((l.getD 1 0).toNat = b.toNat) && decide ((l.getD 2 0).toNat = c.toNat)))) := by
  match l with
  | [] => rfl
  | [x] => simp [List.isPrefixOf]
  | [x, y] => simp [List.isPrefixOf]
  | x :: y :: z :: t =>
    rw [Bool.eq_iff_iff]
    simp only [List.isPrefixOf, Bool.and_eq_true, beq_iff_eq, decide_eq_true_eq, List.getD_cons_zero, List.getD_cons_succ, List.length_cons, UInt8.toNat_inj, and_true]
    constructor
    · rintro ⟨rfl, rfl, rfl⟩; exact ⟨by omega, rfl, rfl, rfl⟩
    · rintro ⟨_, rfl, rfl, rfl⟩; exact ⟨rfl, rfl, rfl⟩
theorem pfx2 (a b : UInt8) (l : List UInt8) : ([a, b] : List UInt8).isPrefixOf l = (decide (1 < l.length) && (decide ((l.getD 0 0).toNat = a.toNat) && decide ((l.getD 1 0).toNat = b.toNat))) := by
  match l with
  | [] => rfl
  | [x] => simp [List.isPrefixOf]
  | x :: y :: t =>
    rw [Bool.eq_iff_iff]
    simp only [List.isPrefixOf, Bool.and_eq_true, beq_iff_eq, decide_eq_true_eq, List.getD_cons_zero, List.getD_cons_succ, List.length_cons, UInt8.toNat_inj, and_true]
    constructor
    · rintro ⟨rfl, rfl⟩; exact ⟨by omega, rfl, rfl⟩
    · rintro ⟨_, rfl, rfl⟩; exact ⟨rfl, rfl⟩
theorem rune3 (l : List UInt8) (b c : Nat) (hb : 128 ≤ b ∧ b < 192) (hc : 128 ≤ c ∧ c < 192) : ((Lib.decodeL l).1 = 8192 + (b - 128) * 64 + (c - 128) ↔ 2 < l.length ∧ (l.getD 0 0).toNat = 226 ∧ (l.getD 1 0).toNat = b ∧ (l.getD 2 0).toNat = c) ∧ ((Lib.decodeL l).1 = 8192 + (b - 128) * 64 + (c - 128) → (Lib.decodeL l).2 = 3) := by
  rw [Lib.decodeL_N]
  have k0 := (l.getD 0 0).toNat_lt
  have k1 := (l.getD 1 0).toNat_lt
  have k2 := (l.getD 2 0).toNat_lt
  have k3 := (l.getD 3 0).toNat_lt
  generalize (l.getD 0 0).toNat = b0 at *
  generalize (l.getD 1 0).toNat = b1 at *
  generalize (l.getD 2 0).toNat = b2 at *
  generalize (l.getD 3 0).toNat = b3 at *
  generalize l.length = n at *
  have conv : 2 < n ∧ b0 = 226 ∧ b1 = b ∧ b2 = c → Lib.decodeN n b0 b1 b2 b3 = (8192 + (b - 128) * 64 + (c - 128), 3) := by
    rintro ⟨h1, rfl, rfl, rfl⟩
    unfold Lib.decodeN
    rw [if_neg (by omega), if_neg (by omega), if_pos (by omega), if_pos (by omega)]
    exact Prod.ext (by simp only; omega) rfl
  have fwd : (Lib.decodeN n b0 b1 b2 b3).1 = 8192 + (b - 128) * 64 + (c - 128) → 2 < n ∧ b0 = 226 ∧ b1 = b ∧ b2 = c := by
    rcases Lib.decodeN_shape n b0 b1 b2 b3 with ⟨_, e⟩ | ⟨_, _, c1, _, e⟩ | ⟨_, _, c1, c2, _, _, e⟩ | ⟨_, _, c1, c2, c3, _, _, e⟩ | e
    all_goals (rw [e]; simp only; clear conv e; omega)
  refine ⟨⟨fwd, fun h => by rw [conv h]⟩, fun h => by rw [conv (fwd h)]⟩
theorem rune2 (l : List UInt8) : ((Lib.decodeL l).1 = 172 ↔ 1 < l.length ∧ (l.getD 0 0).toNat = 194 ∧ (l.getD 1 0).toNat = 172) ∧ ((Lib.decodeL l).1 = 172 → (Lib.decodeL l).2 = 2) := by
  rw [Lib.decodeL_N]
  have k0 := (l.getD 0 0).toNat_lt
  have k1 := (l.getD 1 0).toNat_lt
  have k2 := (l.getD 2 0).toNat_lt
  have k3 := (l.getD 3 0).toNat_lt
  generalize (l.getD 0 0).toNat = b0 at *
  generalize (l.getD 1 0).toNat = b1 at *
  generalize (l.getD 2 0).toNat = b2 at *
  generalize (l.getD 3 0).toNat = b3 at *
  generalize l.length = n at *
  have conv : 1 < n ∧ b0 = 194 ∧ b1 = 172 → Lib.decodeN n b0 b1 b2 b3 = (172, 2) := by
    rintro ⟨h1, rfl, rfl⟩
    unfold Lib.decodeN
    rw [if_neg (by omega), if_pos (by omega), if_pos (by omega)]
  have fwd : (Lib.decodeN n b0 b1 b2 b3).1 = 172 → 1 < n ∧ b0 = 194 ∧ b1 = 172 := by
    rcases Lib.decodeN_shape n b0 b1 b2 b3 with ⟨_, e⟩ | ⟨_, _, c1, _, e⟩ | ⟨_, _, c1, c2, _, _, e⟩ | ⟨_, _, c1, c2, c3, _, _, e⟩ | e
    all_goals (rw [e]; simp only; clear conv e; omega)
  refine ⟨⟨fwd, fun h => by rw [conv h]⟩, fun h => by rw [conv (fwd h)]⟩
theorem pfx_rune3 (l : List UInt8) (b c : UInt8) (hb : 128 ≤ b.toNat ∧ b.toNat < 192) (hc : 128 ≤ c.toNat ∧ c.toNat < 192) : ([226, b, c] : List UInt8).isPrefixOf l = decide ((Lib.decodeL l).1 = 8192 + (b.toNat - 128) * 64 + (c.toNat - 128)) := by
  rw [pfx3, Bool.eq_iff_iff]
  simp only [Bool.and_eq_true, decide_eq_true_eq]
  exact (rune3 l b.toNat c.toNat hb hc).1.symm
theorem pfx_rune2 (l : List UInt8) : ([194, 172] : List UInt8).isPrefixOf l = decide ((Lib.decodeL l).1 = 172) := by
  rw [pfx2, Bool.eq_iff_iff]
  simp only [Bool.and_eq_true, decide_eq_true_eq]
  exact (rune2 l).1.symm
/-- The sign or word that a rune of logic is. -/
theorem specOf_rune (l : List UInt8) : specOf l = (
    if (Lib.decodeL l).1 = 172 then some ([194, 172], 3, [126]) else if (Lib.decodeL l).1 = 8743 then some ([226, 136, 167], 3, [38]) else if (Lib.decodeL l).1 = 8744 then some ([226, 136, 168], 3, [124]) else
    if (Lib.decodeL l).1 = 8594 then some ([226, 134, 146], 3, [45, 62]) else if (Lib.decodeL l).1 = 8596 then some ([226, 134, 148], 3, [60, 45, 62]) else if (Lib.decodeL l).1 = 8866 then some ([226, 138, 162], 3, [124, 45]) else
    if (Lib.decodeL l).1 = 8804 then some ([226, 137, 164], 3, [60, 61]) else if (Lib.decodeL l).1 = 8868 then some ([226, 138, 164], 1, [116, 114, 117, 101]) else if (Lib.decodeL l).1 = 8869 then some ([226, 138, 165], 1, [102, 97, 108, 115, 101]) else none) := by
  unfold specOf SPECS
  simp only [List.find?_cons, List.find?_nil]
  rw [pfx_rune2, pfx_rune3 l 136 167 (by decide) (by decide), pfx_rune3 l 136 168 (by decide) (by decide), pfx_rune3 l 134 146 (by decide) (by decide), pfx_rune3 l 134 148 (by decide) (by decide), pfx_rune3 l 138 162 (by decide) (by decide), pfx_rune3 l 137 164 (by decide) (by decide), pfx_rune3 l 138 164 (by decide) (by decide), pfx_rune3 l 138 165 (by decide) (by decide)]
  show (match decide ((Lib.decodeL l).1 = 172) with | true => _ | false => match decide ((Lib.decodeL l).1 = 8743) with | true => _ | false => match decide ((Lib.decodeL l).1 = 8744) with | true => _ | false => match decide ((Lib.decodeL l).1 = 8594) with | true => _ | false => match decide ((Lib.decodeL l).1 = 8596) with | true => _ | false => match decide ((Lib.decodeL l).1 = 8866) with | true => _ | false => match decide ((Lib.decodeL l).1 = 8804) with | true => _ | false => match decide ((Lib.decodeL l).1 = 8868) with | true => _ | false => match decide ((Lib.decodeL l).1 = 8869) with | true => _ | false => _) = _
  generalize (Lib.decodeL l).1 = r
  by_cases h0 : r = 172
  · rw [decide_eq_true h0, if_pos h0]
  rw [decide_eq_false h0, if_neg h0]
  by_cases h1 : r = 8743
  · rw [decide_eq_true h1, if_pos h1]
  rw [decide_eq_false h1, if_neg h1]
  by_cases h2 : r = 8744
  · rw [decide_eq_true h2, if_pos h2]
  rw [decide_eq_false h2, if_neg h2]
  by_cases h3 : r = 8594
  · rw [decide_eq_true h3, if_pos h3]
  rw [decide_eq_false h3, if_neg h3]
  by_cases h4 : r = 8596
  · rw [decide_eq_true h4, if_pos h4]
  rw [decide_eq_false h4, if_neg h4]
  by_cases h5 : r = 8866
  · rw [decide_eq_true h5, if_pos h5]
  rw [decide_eq_false h5, if_neg h5]
  by_cases h6 : r = 8804
  · rw [decide_eq_true h6, if_pos h6]
  rw [decide_eq_false h6, if_neg h6]
  by_cases h7 : r = 8868
  · rw [decide_eq_true h7, if_pos h7]
  rw [decide_eq_false h7, if_neg h7]
  by_cases h8 : r = 8869
  · rw [decide_eq_true h8, if_pos h8]
  rw [decide_eq_false h8, if_neg h8]
end Go.Proofs.YtjhmhdedonibbaaDoor.X
