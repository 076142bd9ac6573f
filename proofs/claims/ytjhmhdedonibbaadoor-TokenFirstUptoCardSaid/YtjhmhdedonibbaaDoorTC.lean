/- Layer 2, plain: blanks and comments. -/
import Derived.Test.YtjhmhdedonibbaaDoorTB
set_option linter.unusedVariables false
set_option linter.unusedSimpArgs false
namespace Go.Proofs.YtjhmhdedonibbaaDoor.X
open Go Go.RowKit Go.Proofs.YtjhmhdedonibbaaDoor.SX
/-- How many bytes stand ahead of the next line's end. -/
def nlOf : List UInt8 → Nat
  | [] => 0
  | c :: t => bif c == 10 then 0 else nlOf t + 1
theorem nlOf_le : ∀ l : List UInt8, nlOf l ≤ l.length
  | [] => Nat.le_refl _
  | c :: t => by
    have := nlOf_le t
    unfold nlOf
    cases c == 10 with
    | true => exact Nat.zero_le _
    | false => show nlOf t + 1 ≤ t.length + 1; omega
theorem nlOf_at : ∀ l : List UInt8, nlOf l < l.length → l.getD (nlOf l) 0 = 10
  | [], h => by simp [nlOf] at h
  | c :: t, h => by
    cases hc : c == 10 with
    | true =>
      have e : nlOf (c :: t) = 0 := by rw [nlOf.eq_2, hc]; rfl
      rw [e]
      simpa using hc
    | false =>
      have e : nlOf (c :: t) = nlOf t + 1 := by rw [nlOf.eq_2, hc]; rfl
      rw [e] at h ⊢
      simp only [List.length_cons] at h
      have := nlOf_at t (by omega)
      simpa using this
theorem indexByte_nl : ∀ l : List UInt8, Lib.indexByte l 10 = if nlOf l < l.length then (nlOf l : Int) else -1
  | [] => rfl
  | c :: t => by
    have ih := indexByte_nl t
    have hl := nlOf_le t
    show (if (c == 10) = true then (0 : Int) else if (Lib.indexByte t 10 == -1) = true then -1 else Lib.indexByte t 10 + 1) = _
    rw [List.length_cons]
    cases hc : c == 10 with
    | true =>
      have e : nlOf (c :: t) = 0 := by rw [nlOf.eq_2, hc]; rfl
      rw [e, if_pos rfl, if_pos (Nat.succ_pos _)]
      rfl
    | false =>
      have e : nlOf (c :: t) = nlOf t + 1 := by rw [nlOf.eq_2, hc]; rfl
      rw [e, if_neg (by decide), ih]
      by_cases h : nlOf t < t.length
      · have hh : ((nlOf t : Int) == -1) = false := by rw [← Bool.not_eq_true, beq_iff_eq]; omega
        rw [if_pos h, hh, if_neg (by decide), if_pos (by omega)]
        omega
      · rw [if_neg h, if_pos (by decide), if_neg (by omega)]
def blankB (c : UInt8) : Bool := c == 32 || (c == 9 || (c == 10 || c == 13))
theorem blank_ascii : ∀ c : Fin 256, blankB (UInt8.ofNat c.val) = true → c.val < 128 := by decide +kernel
theorem blank_lt {c : UInt8} (h : blankB c = true) : c.toNat < 128 := by
  have := blank_ascii ⟨c.toNat, c.toNat_lt⟩
  simp only [UInt8.ofNat_toNat] at this
  exact this h
/-- Where the next token begins. -/
def skp (s : List UInt8) : Nat → Nat → Nat
  | 0, i => i
  | d + 1, i => if i < s.length then (bif blankB (s.getD i 0) then skp s d (i + 1) else bif s.getD i 0 == 35 then skp s d (i + nlOf (s.drop i)) else i) else i
theorem nl_pos {s : List UInt8} {i : Nat} (h : i < s.length) (hc : (s.getD i 0 == 35) = true) : 1 ≤ nlOf (s.drop i) := by
  have e : s.getD i 0 = s[i] := by simp [List.getD, h]
  rw [drop_cons h]
  have h35 : s[i] = 35 := by rw [← e]; simpa using hc
  unfold nlOf
  rw [h35]
  show 1 ≤ nlOf (s.drop (i + 1)) + 1
  omega
theorem skp_fuel (s : List UInt8) : ∀ (d e i : Nat), s.length - i ≤ d → s.length - i ≤ e → skp s d i = skp s e i := by
  intro d
  induction d with
  | zero =>
    intro e i h1 h2
    cases e with
    | zero => rfl
    | succ e => rw [skp.eq_2, if_neg (by omega), skp.eq_1]
  | succ d ih =>
    intro e i h1 h2
    cases e with
    | zero => rw [skp.eq_2, if_neg (by omega), skp.eq_1]
    | succ e =>
      rw [skp.eq_2, skp.eq_2]
      by_cases h : i < s.length
      · rw [if_pos h, if_pos h]
        cases blankB (s.getD i 0) with
        | true => exact ih e (i + 1) (by omega) (by omega)
        | false =>
          cases hc : s.getD i 0 == 35 with
          | true =>
            have := nl_pos h hc
            exact ih e _ (by omega) (by omega)
          | false => rfl
      · rw [if_neg h, if_neg h]
def S (s : List UInt8) (i : Nat) : Nat := skp s (s.length - i) i
theorem S_blank {s : List UInt8} {i : Nat} (h : i < s.length) (hb : blankB (s.getD i 0) = true) : S s i = S s (i + 1) := by
  unfold S
  obtain ⟨d, hd⟩ : ∃ d, s.length - i = d + 1 := ⟨s.length - i - 1, by omega⟩
  rw [hd, skp.eq_2, if_pos h, hb]
  exact skp_fuel s _ _ _ (by omega) (Nat.le_refl _)
theorem S_com {s : List UInt8} {i : Nat} (h : i < s.length) (hb : blankB (s.getD i 0) = false) (hc : (s.getD i 0 == 35) = true) : S s i = S s (i + nlOf (s.drop i)) := by
  have := nl_pos h hc
  unfold S
  obtain ⟨d, hd⟩ : ∃ d, s.length - i = d + 1 := ⟨s.length - i - 1, by omega⟩
  rw [hd, skp.eq_2, if_pos h, hb, hc]
  exact skp_fuel s _ _ _ (by omega) (Nat.le_refl _)
theorem S_stop {s : List UInt8} {i : Nat} (h : i < s.length) (hb : blankB (s.getD i 0) = false) (hc : (s.getD i 0 == 35) = false) : S s i = i := by
  unfold S
  obtain ⟨d, hd⟩ : ∃ d, s.length - i = d + 1 := ⟨s.length - i - 1, by omega⟩
  rw [hd, skp.eq_2, if_pos h, hb, hc]
  rfl
theorem S_end {s : List UInt8} {i : Nat} (h : s.length ≤ i) : S s i = i := by
  unfold S
  rw [show s.length - i = 0 from by omega]
  rfl
theorem com_al {s : List UInt8} {i : Nat} (h : i < s.length) : i + nlOf (s.drop i) ≤ s.length ∧ al s i (i + nlOf (s.drop i)) := by
  have hl := nlOf_le (s.drop i)
  rw [List.length_drop] at hl
  refine ⟨by omega, al_bnd ?_ (by omega)⟩
  by_cases he : i + nlOf (s.drop i) = s.length
  · exact Or.inl he
  · right
    refine ⟨by omega, ?_⟩
    have := nlOf_at (s.drop i) (by rw [List.length_drop]; omega)
    rw [getD_drop0] at this
    rw [this]
    decide
/-- The next token's place: it is not behind the end; the walk comes to it. -/
theorem S_al {s : List UInt8} : ∀ (d i : Nat), s.length - i ≤ d → i ≤ s.length → S s i ≤ s.length ∧ al s i (S s i) := by
  intro d
  induction d with
  | zero =>
    intro i h1 h2
    rw [S_end (by omega)]
    exact ⟨h2, al_refl s i⟩
  | succ d ih =>
    intro i h1 h2
    by_cases h : i < s.length
    · cases hb : blankB (s.getD i 0) with
      | true =>
        rw [S_blank h hb]
        obtain ⟨a, b⟩ := ih (i + 1) (by omega) (by omega)
        have hr := al_rune s i
        rw [(wide_ascii s i (blank_lt hb)).1] at hr
        exact ⟨a, al_trans hr b⟩
      | false =>
        cases hc : s.getD i 0 == 35 with
        | true =>
          rw [S_com h hb hc]
          have hn := nl_pos h hc
          obtain ⟨a, b⟩ := com_al h
          obtain ⟨c, e⟩ := ih _ (by omega) a
          exact ⟨c, al_trans b e⟩
        | false => rw [S_stop h hb hc]; exact ⟨h2, al_refl s i⟩
    · rw [S_end (by omega)]
      exact ⟨h2, al_refl s i⟩
theorem S_ge (s : List UInt8) (i : Nat) (h : i ≤ s.length) : i ≤ S s i ∧ S s i ≤ s.length := ⟨(S_al (s.length - i) i (Nat.le_refl _) h).2.1, (S_al (s.length - i) i (Nat.le_refl _) h).1⟩
theorem blank_bif (c : UInt8) : ((bif (c == (32 : UInt8)) then some (c == (32 : UInt8)) else (bif (c == (9 : UInt8)) then some (c == (9 : UInt8)) else (bif (c == (10 : UInt8)) then some (c == (10 : UInt8)) else some (c == (13 : UInt8))))) : Option Bool) = some (blankB c) := by
  unfold blankB
  cases c == 32 <;> cases c == 9 <;> cases c == 10 <;> rfl
theorem blank_bif2 (c : UInt8) : ((bif (c == (32 : UInt8)) then some true else (bif (c == (9 : UInt8)) then some true else (bif (c == (10 : UInt8)) then some true else some (c == (13 : UInt8))))) : Option Bool) = some (blankB c) := by
  unfold blankB
  cases c == 32 <;> cases c == 9 <;> cases c == 10 <;> rfl
theorem W_bound (s : List UInt8) (i e : Nat) (L C B : Int) (h : i ≤ e) (h1 : 0 ≤ L) (h2 : 0 ≤ C) (h3 : L + ((B - (i : Int))) ≤ 4000000000) (h4 : C + ((B - (i : Int))) ≤ 4000000000) (hB : (e : Int) ≤ B) :
    0 ≤ (W s e i (L, C)).2.1 ∧ 0 ≤ (W s e i (L, C)).2.2 ∧ (W s e i (L, C)).2.1 + (B - (e : Int)) ≤ 4000000000 ∧ (W s e i (L, C)).2.2 + (B - (e : Int)) ≤ 4000000001 := by
  have := W_lines (s := s) (off := e) (e - i) i (L, C) (Nat.le_refl _) h1 h2
  simp only at this
  omega
theorem space_l1 (k : Nat) (s : List UInt8) (hs : s.length ≤ 1000000000) (hk : s.length < k) : ∀ (d kk i : Nat) (L C : Int), s.length - i ≤ d → d < kk → i ≤ s.length → 0 ≤ L → 0 ≤ C → L + ((s.length - i : Nat) : Int) ≤ 4000000000 → C + ((s.length - i : Nat) : Int) ≤ 4000000000 →
    token_cursor_space.l1 k kk (s.drop i) (cur s (L, C) i) = some (cur s (W s (S s i) i (L, C)).2 (S s i)) := by
  intro d
  induction d with
  | zero =>
    intro kk i L C h1 h2 h3 h4 h5 h6 h7
    obtain ⟨kk, rfl⟩ : ∃ m, kk = m + 1 := ⟨kk - 1, by omega⟩
    rw [token_cursor_space.l1.eq_2, List.drop_eq_nil_of_le (by omega), S_end (by omega), W_ge (Nat.le_refl i)]
    rfl
  | succ d ih =>
    intro kk i L C h1 h2 h3 h4 h5 h6 h7
    obtain ⟨kk, rfl⟩ : ∃ m, kk = m + 1 := ⟨kk - 1, by omega⟩
    by_cases h : i < s.length
    · have hne : (s.drop i == []) = false := by
        rw [← Bool.not_eq_true, beq_iff_eq]
        intro e2
        have := congrArg List.length e2
        simp at this
        omega
      have hx : ix (s.drop i) (0 : Int) = some (s.getD i 0) := by
        have := ix_getD (l := s.drop i) (n := 0) (by rw [List.length_drop]; omega)
        rw [getD_drop0] at this
        exact this
      rw [token_cursor_space.l1.eq_2, hne, Bool.not_false, cond_true, hx, bind_some', blank_bif, bind_some']
      cases hb : blankB (s.getD i 0) with
      | true =>
        have hr := al_rune s i
        rw [(wide_ascii s i (blank_lt hb)).1] at hr
        have hsk := skip_f k s i 1 L C (by omega) hs hr hk h4 h5 (by omega) (by omega)
        have hsk' : token_cursor_skip.f k (cur s (L, C) i) 1 = _ := hsk
        rw [cond_true, hsk', bind_some', here_f s _ (i + 1) (by omega), bind_some', S_blank h hb, al_cut (1) i (L, C) (by omega) hr (S s (i + 1)) (S_ge s (i + 1) (by omega)).1]
        have hw := W_lines (s := s) (off := i + 1) 1 i (L, C) (by omega) h4 h5
        generalize hq : (W s (i + 1) i (L, C)).2 = q at hw ⊢
        obtain ⟨L2, C2⟩ := q
        have hnl : C2 ≤ C + 1 ∨ C2 ≤ 1 := by
          have : W s (i + 1) i (L, C) = (i + 1, stp (L, C) (s.getD i 0)) := by rw [W_lt (by omega), (wide_ascii s i (blank_lt hb)).1, W_ge (Nat.le_refl _)]
          rw [this] at hq
          cases hc : s.getD i 0 == 10 with
          | true => rw [stp_nl _ _ hc] at hq; injection hq with a b; right; omega
          | false => rw [stp_no _ _ hc] at hq; injection hq with a b; left; omega
        simp only at hw
        exact ih kk (i + 1) L2 C2 (by omega) (by omega) (by omega) (by omega) (by omega) (by omega) (by omega)
      | false =>
        rw [cond_false]
        cases hc : s.getD i 0 == 35 with
        | true =>
          have hn := nl_pos h hc
          obtain ⟨hle, hal⟩ := com_al h
          have hi : ((bif decide (Lib.indexByte (s.drop i) 10 < 0) then some ((s.drop i).length : Int) else some (Lib.indexByte (s.drop i) 10)) : Option Int) = some (nlOf (s.drop i) : Int) := by
            have hl := nlOf_le (s.drop i)
            rw [indexByte_nl]
            by_cases h9 : nlOf (s.drop i) < (s.drop i).length
            · rw [if_pos h9, decide_eq_false (by omega)]; rfl
            · rw [if_neg h9, decide_eq_true (by omega), cond_true]
              congr 1
              omega
          unfold strings_IndexByte.f
          rw [cond_true, bind_some', hi, bind_some', skip_f k s i (nlOf (s.drop i)) L C hle hs hal hk h4 h5 (by omega) (by omega), bind_some', here_f s _ _ hle, bind_some', S_com h hb hc, al_cut (nlOf (s.drop i)) i (L, C) (by omega) hal _ (S_ge s _ hle).1]
          clear hi
          -- a comment holds no line's end
          have hw := W_lines (s := s) (off := i + nlOf (s.drop i)) (nlOf (s.drop i)) i (L, C) (by omega) h4 h5
          have hcol : (W s (i + nlOf (s.drop i)) i (L, C)).2.2 ≤ C + (nlOf (s.drop i) : Int) ∨ (W s (i + nlOf (s.drop i)) i (L, C)).2.2 ≤ (nlOf (s.drop i) : Int) := by
            have key := W_lines (s := s) (off := i + nlOf (s.drop i)) (nlOf (s.drop i)) (i + 1) (L, C + 1) (by omega) h4 (by omega)
            have hne10 : (s.getD i 0 == 10) = false := by
              have h35 : s.getD i 0 = 35 := by simpa using hc
              rw [h35]; rfl
            have hone : (s.getD i 0).toNat < 128 := by
              have h35 : s.getD i 0 = 35 := by simpa using hc
              rw [h35]; decide
            left
            have colb : ∀ (d j : Nat) (p : Int × Int), i + nlOf (s.drop i) - j ≤ d → i ≤ j → 0 ≤ p.2 → (W s (i + nlOf (s.drop i)) j p).2.2 ≤ max p.2 0 + (i + nlOf (s.drop i) - j : Nat) ∨ (W s (i + nlOf (s.drop i)) j p).2.2 ≤ (i + nlOf (s.drop i) - j : Nat) := by
              intro d
              induction d with
              | zero => intro j p a b c; rw [W_ge (by omega)]; simp only; omega
              | succ d ihd =>
                intro j p a b c
                have hw := wide_pos s j
                by_cases hj : j < i + nlOf (s.drop i)
                · rw [W_lt hj]
                  cases h10 : s.getD j 0 == 10 with
                  | true =>
                    rw [stp_nl _ _ h10]
                    have := ihd (j + wideAt s j) (p.1 + 1, 1) (by omega) (by omega) (by omega)
                    simp only at this
                    omega
                  | false =>
                    rw [stp_no _ _ h10]
                    have := ihd (j + wideAt s j) (p.1, p.2 + 1) (by omega) (by omega) (by simp only; omega)
                    simp only at this
                    omega
                · rw [W_ge (by omega)]; simp only; omega
            have := colb (nlOf (s.drop i)) i (L, C) (by omega) (Nat.le_refl i) h5
            simp only at this
            omega
          generalize (W s (i + nlOf (s.drop i)) i (L, C)).2 = q at hw hcol ⊢
          obtain ⟨L2, C2⟩ := q
          simp only at hw hcol
          exact ih kk (i + nlOf (s.drop i)) L2 C2 (by omega) (by omega) hle (by omega) (by omega) (by omega) (by omega)
        | false =>
          rw [cond_false, S_stop h hb hc, W_ge (Nat.le_refl i)]
    · rw [token_cursor_space.l1.eq_2, List.drop_eq_nil_of_le (by omega), S_end (by omega), W_ge (Nat.le_refl i)]
      rfl
theorem space_f (k : Nat) (s : List UInt8) (i : Nat) (L C : Int) (hs : s.length ≤ 1000000000) (hk : s.length < k) (h3 : i ≤ s.length) (h4 : 0 ≤ L) (h5 : 0 ≤ C) (h6 : L + ((s.length - i : Nat) : Int) ≤ 4000000000) (h7 : C + ((s.length - i : Nat) : Int) ≤ 4000000000) :
    token_cursor_space.f k (cur s (L, C) i) = some (cur s (W s (S s i) i (L, C)).2 (S s i)) := by
  unfold token_cursor_space.f
  rw [here_f s _ i h3, bind_some', space_l1 k s hs hk (s.length - i) k i L C (Nat.le_refl _) (by omega) h3 h4 h5 h6 h7, bind_some']
end Go.Proofs.YtjhmhdedonibbaaDoor.X
