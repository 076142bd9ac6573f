/- Layer 2, plain: runes and spots. -/
import Derived.Test.YtjhmhdedonibbaaDoorXAD
import Derived.Lib.MapLaws
import Derived.Lib.TrimAscii
import Derived.Shelf.Unicode.DecodeSlow
set_option linter.unusedVariables false
set_option linter.unusedSimpArgs false
namespace Go.Proofs.YtjhmhdedonibbaaDoor.X
open Go Go.RowKit Go.Proofs.YtjhmhdedonibbaaDoor.SX
theorem decodeGo_L (l : List UInt8) (h : l ≠ []) : Lib.decodeGo ⟨l.toArray⟩ = Lib.decodeL l := by
  unfold Lib.decodeGo Lib.decodeL
  rw [if_neg]
  show ¬ l.toArray.size = 0
  simpa using h
theorem getD_drop0 (l : List UInt8) (i q : Nat) : (l.drop i).getD q 0 = l.getD (i + q) 0 := by simp [List.getD, List.getElem?_drop]
theorem ix_getD {l : List UInt8} {n : Nat} (h : n < l.length) : ix l (n : Int) = some (l.getD n 0) := by
  rw [ix_nat, List.getElem?_eq_getElem h]
  simp [List.getD, h]
theorem wide_N (s : List UInt8) (i : Nat) : wideAt s i = (Lib.decodeN (s.length - i) (s.getD i 0).toNat (s.getD (i + 1) 0).toNat (s.getD (i + 2) 0).toNat (s.getD (i + 3) 0).toNat).2 := by
  unfold wideAt
  rw [Lib.decodeL_N, List.length_drop, getD_drop0, getD_drop0, getD_drop0, getD_drop0, Nat.add_zero]
theorem rune_N (s : List UInt8) (i : Nat) : runeAt s i = ((Lib.decodeN (s.length - i) (s.getD i 0).toNat (s.getD (i + 1) 0).toNat (s.getD (i + 2) 0).toNat (s.getD (i + 3) 0).toNat).1 : Int) := by
  unfold runeAt
  rw [Lib.decodeL_N, List.length_drop, getD_drop0, getD_drop0, getD_drop0, getD_drop0, Nat.add_zero]
theorem wide_pos (s : List UInt8) (i : Nat) : 1 ≤ wideAt s i := Lib.decodeL_width _
theorem wide_le (s : List UInt8) (i : Nat) (h : i < s.length) : i + wideAt s i ≤ s.length := by
  have := Lib.decodeL_le (s.drop i) (by intro e; have := congrArg List.length e; simp at this; omega)
  rw [List.length_drop] at this
  show i + (Lib.decodeL (s.drop i)).2 ≤ _
  omega
/-- Behind a rune's first byte stand bytes from 128 on. -/
theorem wide_cont (s : List UInt8) (i j : Nat) (h1 : i < j) (h2 : j < i + wideAt s i) : 128 ≤ (s.getD j 0).toNat := by
  rw [wide_N] at h2
  obtain ⟨q, rfl⟩ : ∃ q, j = i + q := ⟨j - i, by omega⟩
  rcases Lib.decodeN_shape (s.length - i) (s.getD i 0).toNat (s.getD (i + 1) 0).toNat (s.getD (i + 2) 0).toNat (s.getD (i + 3) 0).toNat with ⟨_, e⟩ | ⟨_, _, c1, _, e⟩ | ⟨_, _, c1, c2, _, _, e⟩ | ⟨_, _, c1, c2, c3, _, _, e⟩ | e
  all_goals (rw [e] at h2; simp only at h2)
  · omega
  · obtain rfl : q = 1 := by omega
    omega
  · obtain rfl | rfl : q = 1 ∨ q = 2 := by omega
    · omega
    · omega
  · obtain rfl | rfl | rfl : q = 1 ∨ q = 2 ∨ q = 3 := by omega
    · omega
    · omega
    · omega
  · omega
theorem wide_ascii (s : List UInt8) (i : Nat) (h : (s.getD i 0).toNat < 128) : wideAt s i = 1 ∧ runeAt s i = ((s.getD i 0).toNat : Int) := by
  rw [wide_N, rune_N]
  have := Lib.decodeN_ascii (s.length - i) (s.getD i 0).toNat (s.getD (i + 1) 0).toNat (s.getD (i + 2) 0).toNat (s.getD (i + 3) 0).toNat h
  rw [this]
  exact ⟨rfl, rfl⟩
theorem rune_big (s : List UInt8) (i : Nat) (h : 128 ≤ (s.getD i 0).toNat) : 128 ≤ runeAt s i := by
  rw [rune_N]
  rcases Lib.decodeN_shape (s.length - i) (s.getD i 0).toNat (s.getD (i + 1) 0).toNat (s.getD (i + 2) 0).toNat (s.getD (i + 3) 0).toNat with ⟨c, e⟩ | ⟨_, _, c1, c2, e⟩ | ⟨_, _, c1, c2, c3, _, e⟩ | ⟨_, _, c1, c2, c3, c4, _, e⟩ | e
  all_goals (rw [e]; simp only)
  all_goals omega
theorem rune_nl (s : List UInt8) (i : Nat) : (runeAt s i == 10) = (s.getD i 0 == 10) := by
  by_cases h : (s.getD i 0).toNat < 128
  · rw [(wide_ascii s i h).2, Bool.eq_iff_iff, beq_iff_eq, beq_iff_eq, ← UInt8.toNat_inj]
    show _ ↔ (s.getD i 0).toNat = 10
    omega
  · have h2 := rune_big s i (by omega)
    rw [Bool.eq_iff_iff, beq_iff_eq, beq_iff_eq, ← UInt8.toNat_inj]
    show _ ↔ (s.getD i 0).toNat = 10
    omega
/-! Where one stands: line and column -/
def stp (p : Int × Int) (c : UInt8) : Int × Int := bif c == 10 then (p.1 + 1, 1) else (p.1, p.2 + 1)
/-- From place i on, rune by rune, till 'off' is reached. -/
def walk (s : List UInt8) (off : Nat) : Nat → Nat → Int × Int → Nat × (Int × Int)
  | 0, i, p => (i, p)
  | d + 1, i, p => if i < off then walk s off d (i + wideAt s i) (stp p (s.getD i 0)) else (i, p)
theorem walk_fuel (s : List UInt8) (off : Nat) : ∀ (d e i : Nat) (p : Int × Int), off - i ≤ d → off - i ≤ e → walk s off d i p = walk s off e i p := by
  intro d
  induction d with
  | zero =>
    intro e i p h1 h2
    cases e with
    | zero => rfl
    | succ e => rw [walk.eq_2, if_neg (by omega), walk.eq_1]
  | succ d ih =>
    intro e i p h1 h2
    have hw := wide_pos s i
    cases e with
    | zero => rw [walk.eq_2, if_neg (by omega), walk.eq_1]
    | succ e =>
      rw [walk.eq_2, walk.eq_2]
      by_cases h : i < off
      · rw [if_pos h, if_pos h]
        exact ih e _ _ (by omega) (by omega)
      · rw [if_neg h, if_neg h]
def W (s : List UInt8) (off i : Nat) (p : Int × Int) : Nat × (Int × Int) := walk s off (off - i) i p
theorem W_lt {s : List UInt8} {off i : Nat} {p : Int × Int} (h : i < off) : W s off i p = W s off (i + wideAt s i) (stp p (s.getD i 0)) := by
  have hw := wide_pos s i
  unfold W
  obtain ⟨d, hd⟩ : ∃ d, off - i = d + 1 := ⟨off - i - 1, by omega⟩
  rw [hd, walk.eq_2, if_pos h]
  exact walk_fuel s off _ _ _ _ (by omega) (Nat.le_refl _)
theorem W_ge {s : List UInt8} {off i : Nat} {p : Int × Int} (h : off ≤ i) : W s off i p = (i, p) := by
  unfold W
  rw [show off - i = 0 from by omega]
  rfl
/-- A place where a rune begins for sure: the end, or a byte below 128. -/
def bnd (s : List UInt8) (e : Nat) : Prop := e = s.length ∨ (e < s.length ∧ (s.getD e 0).toNat < 128)
theorem no_cross {s : List UInt8} {i e : Nat} (h : i < e) (hb : bnd s e) : i + wideAt s i ≤ e := by
  rcases hb with rfl | ⟨h1, h2⟩
  · exact wide_le s i h
  · apply Classical.byContradiction
    intro hc
    have := wide_cont s i e h (by omega)
    omega
/-- To a sure place the walk comes exactly; and it may be cut there. -/
theorem W_bnd {s : List UInt8} {e : Nat} (hb : bnd s e) : ∀ (d i : Nat) (p : Int × Int), e - i ≤ d → i ≤ e → (W s e i p).1 = e ∧ ∀ off, e ≤ off → W s off i p = W s off e (W s e i p).2 := by
  intro d
  induction d with
  | zero =>
    intro i p h1 h2
    obtain rfl : i = e := by omega
    rw [W_ge (Nat.le_refl i)]
    exact ⟨rfl, fun off _ => rfl⟩
  | succ d ih =>
    intro i p h1 h2
    by_cases h : i < e
    · have hw := wide_pos s i
      have hn := no_cross h hb
      obtain ⟨a, b⟩ := ih (i + wideAt s i) (stp p (s.getD i 0)) (by omega) hn
      rw [W_lt h]
      exact ⟨a, fun off ho => by rw [W_lt (by omega : i < off)]; exact b off ho⟩
    · obtain rfl : i = e := by omega
      rw [W_ge (Nat.le_refl i)]
      exact ⟨rfl, fun off _ => rfl⟩
/-- From i the walk comes to e exactly. -/
def al (s : List UInt8) (i e : Nat) : Prop := i ≤ e ∧ ∀ p, (W s e i p).1 = e
theorem al_refl (s : List UInt8) (i : Nat) : al s i i := ⟨Nat.le_refl i, fun p => by rw [W_ge (Nat.le_refl i)]⟩
theorem al_bnd {s : List UInt8} {i e : Nat} (hb : bnd s e) (h : i ≤ e) : al s i e := ⟨h, fun p => (W_bnd hb (e - i) i p (Nat.le_refl _) h).1⟩
theorem al_step {s : List UInt8} {i e : Nat} (h : al s i e) (hi : i < e) : i + wideAt s i ≤ e ∧ al s (i + wideAt s i) e := by
  have key : i + wideAt s i ≤ e := by
    apply Classical.byContradiction
    intro hc
    have h2 := h.2 (0, 0)
    rw [W_lt hi, W_ge (by omega)] at h2
    simp only at h2
    omega
  refine ⟨key, key, fun p => ?_⟩
  obtain ⟨q, hq⟩ : ∃ q, stp q (s.getD i 0) = p ∨ (s.getD i 0 == 10) = true := by
    cases hc : s.getD i 0 == 10 with
    | true => exact ⟨p, Or.inr rfl⟩
    | false => exact ⟨(p.1, p.2 - 1), Or.inl (by unfold stp; rw [hc]; show (p.1, p.2 - 1 + 1) = p; rw [Int.sub_add_cancel])⟩
  have fst : ∀ (d j : Nat) (p q : Int × Int), e - j ≤ d → (W s e j p).1 = (W s e j q).1 := by
    intro d
    induction d with
    | zero => intro j p q hd; rw [W_ge (by omega), W_ge (by omega)]
    | succ d ih =>
      intro j p q hd
      have hw := wide_pos s j
      by_cases hj : j < e
      · rw [W_lt hj, W_lt hj]
        exact ih _ _ _ (by omega)
      · rw [W_ge (by omega), W_ge (by omega)]
  rw [fst _ _ p (stp (0, 0) (s.getD i 0)) (Nat.le_refl _), ← W_lt hi]
  exact h.2 (0, 0)
theorem al_rune (s : List UInt8) (i : Nat) : al s i (i + wideAt s i) := by
  have hw := wide_pos s i
  exact ⟨by omega, fun p => by rw [W_lt (by omega), W_ge (Nat.le_refl _)]⟩
theorem al_cut {s : List UInt8} {e : Nat} : ∀ (d i : Nat) (p : Int × Int), e - i ≤ d → al s i e → ∀ off, e ≤ off → W s off i p = W s off e (W s e i p).2 := by
  intro d
  induction d with
  | zero =>
    intro i p h1 h2 off ho
    have := h2.1
    obtain rfl : i = e := by omega
    rw [W_ge (Nat.le_refl i)]
  | succ d ih =>
    intro i p h1 h2 off ho
    have h3 := h2.1
    by_cases h : i < e
    · have hw := wide_pos s i
      obtain ⟨a, b⟩ := al_step h2 h
      rw [W_lt h, W_lt (by omega : i < off)]
      exact ih _ _ (by omega) b off ho
    · obtain rfl : i = e := by omega
      rw [W_ge (Nat.le_refl i)]
theorem al_trans {s : List UInt8} {i e f : Nat} (h1 : al s i e) (h2 : al s e f) : al s i f :=
  ⟨Nat.le_trans h1.1 h2.1, fun p => by rw [al_cut (e - i) i p (Nat.le_refl _) h1 f h2.1]; exact h2.2 _⟩
theorem al_ascii (s : List UInt8) (e : Nat) : ∀ (d i : Nat), e - i ≤ d → i ≤ e → (∀ j, i ≤ j → j < e → (s.getD j 0).toNat < 128) → al s i e := by
  intro d
  induction d with
  | zero =>
    intro i h1 h2 _
    obtain rfl : i = e := by omega
    exact al_refl s i
  | succ d ih =>
    intro i h1 h2 h3
    by_cases h : i < e
    · have h4 := al_rune s i
      rw [(wide_ascii s i (h3 i (Nat.le_refl i) h)).1] at h4
      exact al_trans h4 (ih (i + 1) (by omega) h (fun j a b => h3 j (by omega) b))
    · obtain rfl : i = e := by omega
      exact al_refl s i
theorem W_lines {s : List UInt8} {off : Nat} : ∀ (d i : Nat) (p : Int × Int), off - i ≤ d → 0 ≤ p.1 → 0 ≤ p.2 → 0 ≤ (W s off i p).2.1 ∧ 0 ≤ (W s off i p).2.2 ∧ (W s off i p).2.1 ≤ p.1 + (off - i : Nat) ∧ (W s off i p).2.2 ≤ p.2 + (off - i : Nat) + 1 := by
  intro d
  induction d with
  | zero =>
    intro i p h1 h2 h3
    rw [W_ge (by omega)]
    simp only
    omega
  | succ d ih =>
    intro i p h1 h2 h3
    by_cases h : i < off
    · have hw := wide_pos s i
      rw [W_lt h]
      have hs : 0 ≤ (stp p (s.getD i 0)).1 ∧ 0 ≤ (stp p (s.getD i 0)).2 ∧ (stp p (s.getD i 0)).1 ≤ p.1 + 1 ∧ (stp p (s.getD i 0)).2 ≤ p.2 + 1 := by
        unfold stp
        cases s.getD i 0 == 10
        · exact ⟨h2, by show 0 ≤ p.2 + 1; omega, by show p.1 ≤ _; omega, by show p.2 + 1 ≤ _; omega⟩
        · exact ⟨by show 0 ≤ p.1 + 1; omega, by show (0 : Int) ≤ 1; omega, by show p.1 + 1 ≤ _; omega, by show (1 : Int) ≤ _; omega⟩
      obtain ⟨a, b, c, d'⟩ := ih (i + wideAt s i) (stp p (s.getD i 0)) (by omega) hs.1 hs.2.1
      refine ⟨a, b, by omega, by omega⟩
    · rw [W_ge (by omega)]
      simp only
      omega
/-! The widths, by the document -/
def moreB (s : List UInt8) (j : Nat) (lo hi : Nat) : Bool := decide (j < s.length) && (decide (lo ≤ (s.getD j 0).toNat) && decide ((s.getD j 0).toNat ≤ hi))
theorem cond_and (a b : Bool) : (bif a then some b else some false) = some (a && b) := by cases a <;> rfl
theorem cond_ff (a b : Bool) : (bif a then b else false) = (a && b) := by cases a <;> rfl
theorem cond_some {α : Type} (a : Bool) (x y : α) : (bif a then some x else some y) = some (bif a then x else y) := by cases a <;> rfl
def sizeB (s : List UInt8) (i : Nat) (b : Nat) : Int :=
  bif decide (194 ≤ b) && (decide (b ≤ 223) && moreB s (i + 1) 128 191) then 2 else
  bif decide (b = 224) && (moreB s (i + 1) 160 191 && moreB s (i + 2) 128 191) then 3 else
  bif decide (b = 237) && (moreB s (i + 1) 128 159 && moreB s (i + 2) 128 191) then 3 else
  bif decide (225 ≤ b) && (decide (b ≤ 239) && (!decide (b = 237) && (moreB s (i + 1) 128 191 && moreB s (i + 2) 128 191))) then 3 else
  bif decide (b = 240) && (moreB s (i + 1) 144 191 && (moreB s (i + 2) 128 191 && moreB s (i + 3) 128 191)) then 4 else
  bif decide (241 ≤ b) && (decide (b ≤ 243) && (moreB s (i + 1) 128 191 && (moreB s (i + 2) 128 191 && moreB s (i + 3) 128 191))) then 4 else
  bif decide (b = 244) && (moreB s (i + 1) 128 143 && (moreB s (i + 2) 128 191 && moreB s (i + 3) 128 191)) then 4 else 1
theorem u8le (a b : UInt8) : decide (a ≤ b) = decide (a.toNat ≤ b.toNat) := by rw [decide_eq_decide, UInt8.le_iff_toNat_le]
theorem u8eq (a b : UInt8) : (a == b) = decide (a.toNat = b.toNat) := by rw [Bool.eq_iff_iff, beq_iff_eq, decide_eq_true_eq, UInt8.toNat_inj]
theorem bind_id {α : Type} (o : Option α) : (o.bind fun z => some z) = o := by cases o <;> rfl
theorem sizeB_wide (s : List UInt8) (i : Nat) (h : i < s.length) : sizeB s i (s.getD i 0).toNat = (wideAt s i : Int) := by
  rw [wide_N]
  unfold sizeB moreB
  have k0 := (s.getD i 0).toNat_lt
  have k1 := (s.getD (i + 1) 0).toNat_lt
  have k2 := (s.getD (i + 2) 0).toNat_lt
  have k3 := (s.getD (i + 3) 0).toNat_lt
  have l1 : decide (i + 1 < s.length) = decide (1 < s.length - i) := by rw [decide_eq_decide]; omega
  have l2 : decide (i + 2 < s.length) = decide (2 < s.length - i) := by rw [decide_eq_decide]; omega
  have l3 : decide (i + 3 < s.length) = decide (3 < s.length - i) := by rw [decide_eq_decide]; omega
  rw [l1, l2, l3]
  have hn : 1 ≤ s.length - i := by omega
  generalize (s.getD i 0).toNat = b0 at *
  generalize (s.getD (i + 1) 0).toNat = b1 at *
  generalize (s.getD (i + 2) 0).toNat = b2 at *
  generalize (s.getD (i + 3) 0).toNat = b3 at *
  generalize s.length - i = n at *
  clear l1 l2 l3 h
  simp only [cond_eq_ite, Bool.and_eq_true, decide_eq_true_eq, Bool.not_eq_true', decide_eq_false_iff_not]
  split
  · unfold Lib.decodeN
    rw [if_neg (by omega), if_pos (by omega), if_pos (by omega)]; rfl
  split
  · unfold Lib.decodeN
    rw [if_neg (by omega), if_neg (by omega), if_pos (by omega), if_pos (by omega)]; rfl
  split
  · unfold Lib.decodeN
    rw [if_neg (by omega), if_neg (by omega), if_pos (by omega), if_pos (by omega)]; rfl
  split
  · unfold Lib.decodeN
    rw [if_neg (by omega), if_neg (by omega), if_pos (by omega), if_pos (by omega)]; rfl
  split
  · unfold Lib.decodeN
    rw [if_neg (by omega), if_neg (by omega), if_neg (by omega), if_pos (by omega), if_pos (by omega)]; rfl
  split
  · unfold Lib.decodeN
    rw [if_neg (by omega), if_neg (by omega), if_neg (by omega), if_pos (by omega), if_pos (by omega)]; rfl
  split
  · unfold Lib.decodeN
    rw [if_neg (by omega), if_neg (by omega), if_neg (by omega), if_pos (by omega), if_pos (by omega)]; rfl
  rename_i h1 h2 h3 h4 h5 h6 h7
  rcases Lib.decodeN_shape n b0 b1 b2 b3 with ⟨_, e⟩ | ⟨_, _, c1, _, e⟩ | ⟨_, _, c1, c2, _, _, e⟩ | ⟨_, _, c1, c2, c3, _, _, e⟩ | e
  · rw [e]; rfl
  · exfalso
    clear h2 h3 h4 h5 h6 h7
    apply h1
    refine ⟨?_, ?_, ?_, ?_, ?_⟩ <;> omega
  · exfalso
    clear h1 h5 h6 h7
    rcases (show b0 = 224 ∨ b0 = 237 ∨ (225 ≤ b0 ∧ b0 ≤ 239 ∧ b0 ≠ 237) from by omega) with hb | hb | hb
    · clear h3 h4
      apply h2
      refine ⟨hb, ⟨?_, ?_, ?_⟩, ?_, ?_, ?_⟩ <;> omega
    · clear h2 h4
      apply h3
      refine ⟨hb, ⟨?_, ?_, ?_⟩, ?_, ?_, ?_⟩ <;> omega
    · clear h2 h3
      apply h4
      refine ⟨hb.1, hb.2.1, hb.2.2, ⟨?_, ?_, ?_⟩, ?_, ?_, ?_⟩ <;> omega
  · exfalso
    clear h1 h2 h3 h4
    rcases (show b0 = 240 ∨ (241 ≤ b0 ∧ b0 ≤ 243) ∨ b0 = 244 from by omega) with hb | hb | hb
    · clear h6 h7
      apply h5
      refine ⟨hb, ⟨?_, ?_, ?_⟩, ⟨?_, ?_, ?_⟩, ?_, ?_, ?_⟩ <;> omega
    · clear h5 h7
      apply h6
      refine ⟨hb.1, hb.2, ⟨?_, ?_, ?_⟩, ⟨?_, ?_, ?_⟩, ?_, ?_, ?_⟩ <;> omega
    · clear h5 h6
      apply h7
      refine ⟨hb, ⟨?_, ?_, ?_⟩, ⟨?_, ?_, ?_⟩, ?_, ?_, ?_⟩ <;> omega
  · rw [e]; rfl
end Go.Proofs.YtjhmhdedonibbaaDoor.X
