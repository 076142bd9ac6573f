/- Layer 2, plain: what a token is. -/
import Derived.Test.YtjhmhdedonibbaaDoorTF
set_option linter.unusedVariables false
set_option linter.unusedSimpArgs false
namespace Go.Proofs.YtjhmhdedonibbaaDoor.X
open Go Go.RowKit Go.Proofs.YtjhmhdedonibbaaDoor.SX
/-! What comes out -/
theorem spec_mem {l : List UInt8} {e : List UInt8 × Int × List UInt8} (h : specOf l = some e) : e ∈ SPECS ∧ e.1.isPrefixOf l = true := ⟨List.mem_of_find?_eq_some h, by have := List.find?_some h; exact this⟩
theorem spec_chars : ∀ e ∈ SPECS, (e.2.1 = 1 ∨ e.2.1 = 3) ∧ 2 ≤ e.1.length ∧ e.1.length ≤ 3 ∧ e.2.2.length ≤ 5 := by decide
theorem spec_wide {l : List UInt8} {e : List UInt8 × Int × List UInt8} (h : specOf l = some e) : e.1.length = (Lib.decodeL l).2 := by
  rw [specOf_rune] at h
  have hw := rune_w l
  generalize (Lib.decodeL l).1 = r at hw h
  generalize (Lib.decodeL l).2 = w at hw ⊢
  split at h
  · rename_i hr; rw [hw.1 hr, ← Option.some.inj h]; rfl
  split at h
  · rename_i hr; rw [hw.2.1 hr, ← Option.some.inj h]; rfl
  split at h
  · rename_i hr; rw [hw.2.2.1 hr, ← Option.some.inj h]; rfl
  split at h
  · rename_i hr; rw [hw.2.2.2.1 hr, ← Option.some.inj h]; rfl
  split at h
  · rename_i hr; rw [hw.2.2.2.2.1 hr, ← Option.some.inj h]; rfl
  split at h
  · rename_i hr; rw [hw.2.2.2.2.2.1 hr, ← Option.some.inj h]; rfl
  split at h
  · rename_i hr; rw [hw.2.2.2.2.2.2.1 hr, ← Option.some.inj h]; rfl
  split at h
  · rename_i hr; rw [hw.2.2.2.2.2.2.2.1 hr, ← Option.some.inj h]; rfl
  split at h
  · rename_i hr; rw [hw.2.2.2.2.2.2.2.2 hr, ← Option.some.inj h]; rfl
  cases h
theorem wordP_err {l : List UInt8} {e : Int} (h : wordP l = .inr e) : e = 20 ∨ e = 21 ∨ e = 22 := by
  unfold wordP at h
  cases hL : letB (l.getD 0 0) with
  | true =>
    rw [hL, cond_true] at h
    split at h
    · injection h with h; exact Or.inr (Or.inr h.symm)
    · cases h
  | false =>
    rw [hL, cond_false] at h
    cases hD : digB (l.getD 0 0) with
    | true =>
      rw [hD, cond_true] at h
      cases hb : numBad l with
      | true => rw [hb, cond_true] at h; injection h with h; exact Or.inr (Or.inl h.symm)
      | false => rw [hb, cond_false] at h; cases h
    | false =>
      rw [hD, cond_false] at h
      cases hs : specOf l with
      | some e => rw [hs] at h; cases h
      | none =>
        rw [hs] at h
        cases hg : signOf l with
        | some x => rw [hg] at h; cases h
        | none => rw [hg] at h; injection h with h; exact Or.inl h.symm
theorem run_pos {p : UInt8 → Bool} {l : List UInt8} (hne : l ≠ []) (h : p (l.getD 0 0) = true) : 1 ≤ runN p l := by
  cases l with
  | nil => exact absurd rfl hne
  | cons a t => rw [runN_cons_t (show p a = true from h)]; omega
/-- A token that is taken: its length, its walk, its kind. -/
theorem wordP_ok {s : List UInt8} {i n : Nat} {t : T_api_Token} (hi : i < s.length) (h : wordP (s.drop i) = .inl (t, n)) : 1 ≤ n ∧ i + n ≤ s.length ∧ al s i (i + n) ∧ (t.f_Kind = 1 ∨ t.f_Kind = 2 ∨ t.f_Kind = 3) ∧ t.f_At = ⟨0, 0, 0⟩ := by
  have hne : s.drop i ≠ [] := by intro e2; have := congrArg List.length e2; simp at this; omega
  have hg : (s.drop i).getD 0 0 = s.getD i 0 := by rw [getD_drop0, Nat.add_zero]
  unfold wordP at h
  have runs : ∀ p : UInt8 → Bool, (∀ c, p c = true → c.toNat < 128) → al s i (i + runN p (s.drop i)) := fun p hp =>
    al_ascii s _ (runN p (s.drop i)) i (by omega) (by omega) (fun j h1 h2 => by
      obtain ⟨q, rfl⟩ : ∃ q, j = i + q := ⟨j - i, by omega⟩
      have := runN_at p (s.drop i) q (by omega)
      rw [getD_drop0] at this
      exact hp _ this)
  cases hL : letB ((s.drop i).getD 0 0) with
  | true =>
    rw [hL, cond_true] at h
    split at h
    · cases h
    · injection h with h
      injection h with h1 h2
      have hrl := runN_le tailB (s.drop i)
      rw [List.length_drop] at hrl
      have hp := run_pos hne ((cls_c _).2.2.2.2.1 hL).1
      subst h2
      exact ⟨hp, by omega, runs tailB (fun c hc => ((cls_c c).2.2.2.1 hc).1), by rw [← h1]; exact Or.inl rfl, by rw [← h1]; rfl⟩
  | false =>
    rw [hL, cond_false] at h
    cases hD : digB ((s.drop i).getD 0 0) with
    | true =>
      rw [hD, cond_true] at h
      cases hb : numBad (s.drop i) with
      | true => rw [hb, cond_true] at h; cases h
      | false =>
        rw [hb, cond_false] at h
        injection h with h
        injection h with h1 h2
        have hrl := runN_le digB (s.drop i)
        rw [List.length_drop] at hrl
        have hp := run_pos hne hD
        subst h2
        exact ⟨hp, by omega, runs digB (fun c hc => by have := digB_iff.1 hc; omega), by rw [← h1]; exact Or.inr (Or.inl rfl), by rw [← h1]; rfl⟩
    | false =>
      rw [hD, cond_false] at h
      cases hs : specOf (s.drop i) with
      | some e =>
        rw [hs] at h
        injection h with h
        injection h with h1 h2
        have hw := spec_wide hs
        have hm := spec_chars e (spec_mem hs).1
        subst h2
        rw [show e.1.length = wideAt s i from hw]
        refine ⟨by have := wide_pos s i; omega, wide_le s i hi, al_rune s i, ?_, by rw [← h1]; rfl⟩
        rw [← h1]
        rcases hm.1 with h | h
        · exact Or.inl h
        · exact Or.inr (Or.inr h)
      | none =>
        rw [hs] at h
        cases hg2 : signOf (s.drop i) with
        | some x =>
          rw [hg2] at h
          injection h with h
          injection h with h1 h2
          obtain ⟨hm, hp⟩ := signOf_mem hg2
          obtain ⟨hne2, hl3, hc⟩ := sign_chars x hm
          have hx1 : 1 ≤ x.length := List.length_pos_iff.2 hne2
          rw [pfx_take, Bool.and_eq_true, decide_eq_true_eq, beq_iff_eq, List.length_drop] at hp
          subst h2
          refine ⟨hx1, by omega, ?_, by rw [← h1]; exact Or.inr (Or.inr rfl), by rw [← h1]; rfl⟩
          refine al_ascii s _ x.length i (by omega) (by omega) (fun j h3 h4 => ?_)
          obtain ⟨q, rfl⟩ : ∃ q, j = i + q := ⟨j - i, by omega⟩
          have hq : q < x.length := by omega
          have e1 : s.getD (i + q) 0 = x[q] := by
            have : x[q] = ((s.drop i).take x.length)[q]'(by rw [List.length_take, List.length_drop]; omega) := by simp only [hp.2]
            rw [this, List.getElem_take, List.getElem_drop]
            simp [List.getD, show i + q < s.length from by omega]
          rw [e1]
          exact (hc _ (List.getElem_mem hq)).1
        | none => rw [hg2] at h; cases h
end Go.Proofs.YtjhmhdedonibbaaDoor.X
