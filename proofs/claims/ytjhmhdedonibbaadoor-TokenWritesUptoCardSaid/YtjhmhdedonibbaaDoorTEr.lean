/- Layer 2, plain: signs and runes, by the document. -/
import Derived.Test.YtjhmhdedonibbaaDoorTE
set_option linter.unusedVariables false
set_option linter.unusedSimpArgs false
namespace Go.Proofs.YtjhmhdedonibbaaDoor.X
open Go Go.RowKit Go.Proofs.YtjhmhdedonibbaaDoor.SX
theorem at_f (s t : List UInt8) (i : Nat) (hi : i ≤ s.length) (hs : s.length ≤ 1000000000) (ht : t.length ≤ 100) : dictumref02_at.f s (i : Int) t = some (t.isPrefixOf (s.drop i)) := by
  unfold dictumref02_at.f
  rw [pfx_take, List.length_drop, w64 (n := (s.length : Int) - (i : Int)) (by omega) (by omega)]
  by_cases h : t.length ≤ s.length - i
  · rw [decide_eq_true (by omega : (s.length : Int) - (i : Int) ≥ (t.length : Int)), cond_true, decide_eq_true h, w64 (by omega) (by omega), show (i : Int) + (t.length : Int) = ((i + t.length : Nat) : Int) from by omega, cut_nat s (by omega) (by omega), bind_some', List.drop_take, Nat.add_sub_cancel_left]
    rfl
  · rw [decide_eq_false (by omega : ¬ (s.length : Int) - (i : Int) ≥ (t.length : Int)), decide_eq_false h]
    rfl
theorem one_l2 (k : Nat) (s : List UInt8) (i : Nat) (hi : i ≤ s.length) (hs : s.length ≤ 1000000000) (L : List T_dictumref02_special) (hL : ∀ e ∈ L, e.f_Rune.length ≤ 100) (hl : L.length ≤ 1000) : ∀ (d kk n : Nat), L.length - n ≤ d → d < kk → n ≤ L.length →
    dictumref02_one.l2 k s (i : Int) L kk (n : Int) = some (match (L.drop n).find? (fun e => e.f_Rune.isPrefixOf (s.drop i)) with | some e => .inl (tk e.f_Kind e.f_Text 0, ((i + e.f_Rune.length : Nat) : Int), 0) | none => .inr ()) := by
  intro d
  induction d with
  | zero =>
    intro kk n h1 h2 h3
    obtain ⟨kk, rfl⟩ : ∃ m, kk = m + 1 := ⟨kk - 1, by omega⟩
    rw [dictumref02_one.l2.eq_2, decide_eq_false (by omega), show L.drop n = [] from List.drop_eq_nil_of_le (by omega)]
    rfl
  | succ d ih =>
    intro kk n h1 h2 h3
    obtain ⟨kk, rfl⟩ : ∃ m, kk = m + 1 := ⟨kk - 1, by omega⟩
    by_cases h : n < L.length
    · have hx : ix L (n : Int) = some L[n] := by rw [ix_nat, List.getElem?_eq_getElem h]
      have hle := hL L[n] (List.getElem_mem h)
      rw [dictumref02_one.l2.eq_2, decide_eq_true (by omega : (n : Int) < (L.length : Int)), cond_true, hx, bind_some', at_f s _ i hi hs hle, bind_some', drop_cons h, List.find?_cons]
      cases hp : L[n].f_Rune.isPrefixOf (s.drop i) with
      | true =>
        rw [cond_true, bind_some', bind_some', bind_some', w64 (by omega) (by omega), show (i : Int) + (L[n].f_Rune.length : Int) = ((i + L[n].f_Rune.length : Nat) : Int) from by omega]
        rfl
      | false =>
        rw [cond_false, wsucc n (by omega)]
        exact ih kk (n + 1) (by omega) (by omega) (by omega)
    · rw [dictumref02_one.l2.eq_2, decide_eq_false (by omega), show L.drop n = [] from List.drop_eq_nil_of_le (by omega)]
      rfl
theorem one_l3 (k : Nat) (s : List UInt8) (i : Nat) (hi : i ≤ s.length) (hs : s.length ≤ 1000000000) (L : List (List UInt8)) (hL : ∀ e ∈ L, e.length ≤ 100) (hl : L.length ≤ 1000) : ∀ (d kk n : Nat), L.length - n ≤ d → d < kk → n ≤ L.length →
    dictumref02_one.l3 k s (i : Int) L kk (n : Int) = some (match (L.drop n).find? (fun e => e.isPrefixOf (s.drop i)) with | some e => .inl (tk 3 e 0, ((i + e.length : Nat) : Int), 0) | none => .inr ()) := by
  intro d
  induction d with
  | zero =>
    intro kk n h1 h2 h3
    obtain ⟨kk, rfl⟩ : ∃ m, kk = m + 1 := ⟨kk - 1, by omega⟩
    rw [dictumref02_one.l3.eq_2, decide_eq_false (by omega), show L.drop n = [] from List.drop_eq_nil_of_le (by omega)]
    rfl
  | succ d ih =>
    intro kk n h1 h2 h3
    obtain ⟨kk, rfl⟩ : ∃ m, kk = m + 1 := ⟨kk - 1, by omega⟩
    by_cases h : n < L.length
    · have hx : ix L (n : Int) = some L[n] := by rw [ix_nat, List.getElem?_eq_getElem h]
      have hle := hL L[n] (List.getElem_mem h)
      rw [dictumref02_one.l3.eq_2, decide_eq_true (by omega : (n : Int) < (L.length : Int)), cond_true, hx, bind_some', at_f s _ i hi hs hle, bind_some', drop_cons h, List.find?_cons]
      cases hp : L[n].isPrefixOf (s.drop i) with
      | true =>
        rw [cond_true, bind_some', bind_some', w64 (by omega) (by omega), show (i : Int) + (L[n].length : Int) = ((i + L[n].length : Nat) : Int) from by omega]
        rfl
      | false =>
        rw [cond_false, wsucc n (by omega)]
        exact ih kk (n + 1) (by omega) (by omega) (by omega)
    · rw [dictumref02_one.l3.eq_2, decide_eq_false (by omega), show L.drop n = [] from List.drop_eq_nil_of_le (by omega)]
      rfl
def SPECr (e : List UInt8 × Int × List UInt8) : T_dictumref02_special := ⟨e.1, e.2.1, e.2.2⟩
theorem specs_r : dictumref02_specials.f = some (SPECS.map SPECr) := rfl
theorem find_r (l : List UInt8) : ∀ L : List (List UInt8 × Int × List UInt8), (L.map SPECr).find? (fun e => e.f_Rune.isPrefixOf l) = (L.find? fun e => e.1.isPrefixOf l).map SPECr
  | [] => rfl
  | e :: L => by
    rw [List.map_cons, List.find?_cons, List.find?_cons]
    show (match e.1.isPrefixOf l with | true => _ | false => _) = _
    cases e.1.isPrefixOf l with
    | true => rfl
    | false => exact find_r l L
end Go.Proofs.YtjhmhdedonibbaaDoor.X
