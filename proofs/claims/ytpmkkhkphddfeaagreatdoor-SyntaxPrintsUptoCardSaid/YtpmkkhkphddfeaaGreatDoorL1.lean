/- Layer 3, plain: names. -/
import Derived.Test.YtpmkkhkphddfeaaGreatDoorXAD
set_option linter.unusedVariables false
set_option linter.unusedSimpArgs false
namespace Go.Proofs.YtpmkkhkphddfeaaGreatDoor.X
open Go Go.RowKit Go.Proofs.YtpmkkhkphddfeaaGreatDoor.SX
def letV (c : UInt8) : Bool := (decide ((97 : UInt8) ≤ c) && decide (c ≤ 122)) || (decide ((65 : UInt8) ≤ c) && decide (c ≤ 90))
theorem letV_fin : ∀ c : Fin 256, (decide ((97 : UInt8) ≤ (UInt8.ofNat c.val ||| 32)) && decide ((UInt8.ofNat c.val ||| 32) ≤ 122)) = letV (UInt8.ofNat c.val) := by decide +kernel
theorem letV_small (c : UInt8) : (decide ((97 : UInt8) ≤ (c ||| 32)) && decide ((c ||| 32) ≤ 122)) = letV c := by
  have := letV_fin ⟨c.toNat, c.toNat_lt⟩
  simpa using this
def tailC (c : UInt8) : Bool := c == 95 || (c == 39 || (decide ((48 : UInt8) ≤ c) && decide (c ≤ 57)))
def badAt (i : Nat) (c : UInt8) : Bool := !letV c && (decide (i = 0) || !tailC c)
def badW : Nat → List UInt8 → Bool
  | _, [] => false
  | i, c :: t => badAt i c || badW (i + 1) t
/-- The words that are no names. -/
def RES : List (List UInt8) := [[97, 98, 111, 114, 116], [99, 97, 115, 101], [102, 97, 108, 115, 101], [102, 115, 116], [102, 117, 110], [105, 110], [105, 110, 108], [105, 110, 114], [108, 101, 116], [111, 102], [115, 110, 100], [116, 114, 117, 101]]
def wordB (s : List UInt8) : Bool := !badW 0 s && (!(s == []) && (decide (s.length ≤ 31) && !RES.contains s))
theorem ixD {l : List UInt8} {n : Nat} (h : n < l.length) : ix l (n : Int) = some l[n] := by rw [ix_nat, List.getElem?_eq_getElem h]
theorem or_bif {a x : Bool} {X : Option Bool} (h : X = some x) : (bif a then some a else X) = some (a || x) := by cases a <;> simp [h]
theorem or_bif' {a x : Bool} {X : Option Bool} (h : X = some x) : (bif a then some true else X) = some (a || x) := by cases a <;> simp [h]
theorem reserved_f (s : List UInt8) : formula_reserved.f s = some (RES.contains s) := by
  have e : RES.contains s = (s == [97, 98, 111, 114, 116] || (s == [99, 97, 115, 101] || (s == [102, 97, 108, 115, 101] || (s == [102, 115, 116] || (s == [102, 117, 110] || (s == [105, 110] || (s == [105, 110, 108] || (s == [105, 110, 114] || (s == [108, 101, 116] || (s == [111, 102] || (s == [115, 110, 100] || s == [116, 114, 117, 101]))))))))))) := by
    unfold RES
    simp only [List.contains_cons, List.contains_nil, Bool.or_false]
  rw [e]
  unfold formula_reserved.f
  have h : ∀ b : Bool, ((some b).bind fun z => (bif z then some true else some false)) = some b := by intro b; cases b <;> rfl
  refine Eq.trans (congrArg (fun o : Option Bool => o.bind fun z => (bif z then some true else some false)) (or_bif (or_bif (or_bif (or_bif (or_bif (or_bif (or_bif (or_bif (or_bif (or_bif (or_bif rfl))))))))))))  (h _)
theorem word_l1 (k : Nat) (s : List UInt8) (hs : s.length ≤ 1000000000000) : ∀ (d kk i : Nat), s.length - i ≤ d → d < kk → i ≤ s.length → formula_Word.l1 k s kk (i : Int) = some (bif badW i (s.drop i) then .inl false else .inr ()) := by
  intro d
  induction d with
  | zero =>
    intro kk i h1 h2 h3
    obtain ⟨q, rfl⟩ : ∃ q, kk = q + 1 := ⟨kk - 1, by omega⟩
    rw [formula_Word.l1.eq_2, decide_eq_false (by omega : ¬ (i : Int) < (s.length : Int)), List.drop_eq_nil_of_le (by omega)]
    rfl
  | succ d ih =>
    intro kk i h1 h2 h3
    obtain ⟨q, rfl⟩ : ∃ q, kk = q + 1 := ⟨kk - 1, by omega⟩
    by_cases h : i < s.length
    · rw [formula_Word.l1.eq_2, decide_eq_true (by omega : (i : Int) < (s.length : Int)), cond_true, ixD h, bind_some', drop_cons h, wsucc i (by omega), ih q (i + 1) (by omega) (by omega) h]
      have hz : ((i : Int) == 0) = decide (i = 0) := by rw [Bool.eq_iff_iff, beq_iff_eq, decide_eq_true_eq]; omega
      rw [hz]
      show _ = some (bif badAt i s[i] || badW (i + 1) (s.drop (i + 1)) then _ else _)
      have e : ((bif (decide ((97 : UInt8) ≤ (s[i] ||| (32 : UInt8)))) then some (decide ((s[i] ||| (32 : UInt8)) ≤ (122 : UInt8))) else some false) : Option Bool) = some (letV s[i]) := by
        rw [← letV_small]
        cases decide ((97 : UInt8) ≤ (s[i] ||| (32 : UInt8))) <;> rfl
      rw [e, bind_some']
      have e2 : ((bif (!letV s[i]) then (bif (decide (i = 0)) then some true else (bif (!(s[i] == (95 : UInt8))) then (bif (!(s[i] == (39 : UInt8))) then (bif (decide (s[i] < (48 : UInt8))) then some true else some (decide ((57 : UInt8) < s[i]))) else some false) else some false)) else some false) : Option Bool) = some (badAt i s[i]) := by
        have a1 : decide ((48 : UInt8) ≤ s[i]) = !decide (s[i] < 48) := by rw [← decide_not, decide_eq_decide, UInt8.not_lt]
        have a2 : decide (s[i] ≤ (57 : UInt8)) = !decide (57 < s[i]) := by rw [← decide_not, decide_eq_decide, UInt8.not_lt]
        unfold badAt tailC
        rw [a1, a2]
        generalize letV s[i] = b1
        generalize decide (i = 0) = b2
        generalize (s[i] == (95 : UInt8)) = b3
        generalize (s[i] == (39 : UInt8)) = b4
        generalize decide (s[i] < (48 : UInt8)) = b5
        generalize decide ((57 : UInt8) < s[i]) = b6
        cases b1 <;> cases b2 <;> cases b3 <;> cases b4 <;> cases b5 <;> cases b6 <;> rfl
      rw [e2, bind_some']
      cases badAt i s[i] <;> rfl
    · rw [formula_Word.l1.eq_2, decide_eq_false (by omega : ¬ (i : Int) < (s.length : Int)), List.drop_eq_nil_of_le (by omega)]
      rfl
theorem word_f' (k : Nat) (s : List UInt8) (hs : s.length ≤ 1000000000000) (hk : s.length < k) : formula_Word.f k s = some (wordB s) := by
  unfold formula_Word.f
  rw [show formula_Word.l1 k s k 0 = _ from word_l1 k s hs s.length k 0 (by omega) (by omega) (by omega), bind_some', List.drop_zero]
  unfold wordB
  cases badW 0 s with
  | true => rfl
  | false =>
    show (bif (!(s == ([] : List UInt8))) then _ else _) = _
    have hd : decide ((s.length : Int) ≤ 31) = decide (s.length ≤ 31) := by rw [decide_eq_decide]; omega
    rw [hd, reserved_f, bind_some']
    cases (s == ([] : List UInt8)) <;> cases decide (s.length ≤ 31) <;> cases RES.contains s <;> rfl
end Go.Proofs.YtpmkkhkphddfeaaGreatDoor.X
set_option linter.unusedVariables false
set_option linter.unusedSimpArgs false
namespace Go.Proofs.YtpmkkhkphddfeaaGreatDoor.X
open Go Go.RowKit Go.Proofs.YtpmkkhkphddfeaaGreatDoor.SX
theorem rletter_f (c : UInt8) : dictumref03_letter.f c = some (letV c) := by
  unfold dictumref03_letter.f letV
  cases decide ((97 : UInt8) ≤ c) <;> cases decide (c ≤ (122 : UInt8)) <;> cases decide ((65 : UInt8) ≤ c) <;> rfl
theorem rword_l1 (k : Nat) (s : List UInt8) (hs : s.length ≤ 1000000000000) : ∀ (d kk i : Nat), s.length - i ≤ d → d < kk → i ≤ s.length → 1 ≤ i → dictumref03_Word.l1 k s kk (i : Int) = some (bif badW i (s.drop i) then .inl false else .inr ()) := by
  intro d
  induction d with
  | zero =>
    intro kk i h1 h2 h3 h4
    obtain ⟨q, rfl⟩ : ∃ q, kk = q + 1 := ⟨kk - 1, by omega⟩
    rw [dictumref03_Word.l1.eq_2, decide_eq_false (by omega : ¬ (i : Int) < (s.length : Int)), List.drop_eq_nil_of_le (by omega)]
    rfl
  | succ d ih =>
    intro kk i h1 h2 h3 h4
    obtain ⟨q, rfl⟩ : ∃ q, kk = q + 1 := ⟨kk - 1, by omega⟩
    by_cases h : i < s.length
    · rw [dictumref03_Word.l1.eq_2, decide_eq_true (by omega : (i : Int) < (s.length : Int)), cond_true, drop_cons h, wsucc i (by omega), ih q (i + 1) (by omega) (by omega) h (by omega)]
      simp only [ixD h, bind_some', rletter_f]
      show _ = some (bif badAt i s[i] || badW (i + 1) (s.drop (i + 1)) then _ else _)
      have e2 : ((bif (!letV s[i]) then (bif (decide ((48 : UInt8) ≤ s[i])) then (bif (!(decide (s[i] ≤ (57 : UInt8)))) then (bif (!(s[i] == (95 : UInt8))) then some (!(s[i] == (39 : UInt8))) else some false) else some false) else (bif (!(s[i] == (95 : UInt8))) then some (!(s[i] == (39 : UInt8))) else some false)) else some false) : Option Bool) = some (badAt i s[i]) := by
        unfold badAt tailC
        rw [decide_eq_false (by omega : ¬ i = 0)]
        generalize letV s[i] = b1
        generalize (s[i] == (95 : UInt8)) = b3
        generalize (s[i] == (39 : UInt8)) = b4
        generalize decide ((48 : UInt8) ≤ s[i]) = b5
        generalize decide (s[i] ≤ (57 : UInt8)) = b6
        cases b1 <;> cases b3 <;> cases b4 <;> cases b5 <;> cases b6 <;> rfl
      rw [e2, bind_some']
      cases badAt i s[i] <;> rfl
    · rw [dictumref03_Word.l1.eq_2, decide_eq_false (by omega : ¬ (i : Int) < (s.length : Int)), List.drop_eq_nil_of_le (by omega)]
      rfl
theorem rword_l2 (k : Nat) (s : List UInt8) (R : List (List UInt8)) (hR : R.length ≤ 1000) : ∀ (d kk i : Nat), R.length - i ≤ d → d < kk → i ≤ R.length → dictumref03_Word.l2 k s R kk (i : Int) = some (bif (R.drop i).contains s then .inl false else .inr ()) := by
  intro d
  induction d with
  | zero =>
    intro kk i h1 h2 h3
    obtain ⟨q, rfl⟩ : ∃ q, kk = q + 1 := ⟨kk - 1, by omega⟩
    rw [dictumref03_Word.l2.eq_2, decide_eq_false (by omega : ¬ (i : Int) < (R.length : Int)), List.drop_eq_nil_of_le (by omega)]
    rfl
  | succ d ih =>
    intro kk i h1 h2 h3
    obtain ⟨q, rfl⟩ : ∃ q, kk = q + 1 := ⟨kk - 1, by omega⟩
    by_cases h : i < R.length
    · rw [dictumref03_Word.l2.eq_2, decide_eq_true (by omega : (i : Int) < (R.length : Int)), cond_true, ix_nat, List.getElem?_eq_getElem h, bind_some', drop_cons h, wsucc i (by omega), ih q (i + 1) (by omega) (by omega) h, List.contains_cons]
      have hb : (R[i] == s) = (s == R[i]) := by rw [Bool.eq_iff_iff, beq_iff_eq, beq_iff_eq]; exact eq_comm
      rw [hb]
      cases (s == R[i]) <;> rfl
    · rw [dictumref03_Word.l2.eq_2, decide_eq_false (by omega : ¬ (i : Int) < (R.length : Int)), List.drop_eq_nil_of_le (by omega)]
      rfl
theorem rword_f' (k : Nat) (s : List UInt8) (hs : s.length ≤ 1000000000000) (hk : s.length < k) (hk2 : 20 < k) : dictumref03_Word.f k s = some (wordB s) := by
  unfold dictumref03_Word.f wordB
  cases s with
  | nil => rfl
  | cons c t =>
    by_cases h31 : t.length + 1 ≤ 31
    · rw [decide_eq_false (by simp only [List.length_cons]; omega : ¬ (((c :: t).length : Nat) : Int) < 1), cond_false, decide_eq_false (by simp only [List.length_cons]; omega : ¬ (((c :: t).length : Nat) : Int) > 31), cond_false, show ix (c :: t) (0 : Int) = some c from rfl, bind_some', rletter_f, bind_some', bind_some']
      have hb : badW 0 (c :: t) = (!letV c || badW 1 t) := by
        show (!letV c && (true || !tailC c) || badW 1 t) = _
        cases letV c <;> rfl
      rw [hb]
      cases letV c with
      | false => rfl
      | true =>
        show Option.bind (dictumref03_Word.l1 k (c :: t) k 1) _ = _
        rw [show dictumref03_Word.l1 k (c :: t) k 1 = _ from rword_l1 k (c :: t) hs (t.length + 1) k 1 (by simp only [List.length_cons]; omega) (by simp only [List.length_cons] at hk; omega) (by simp only [List.length_cons]; omega) (by omega), bind_some']
        rw [show (c :: t).drop 1 = t from rfl]
        cases badW 1 t with
        | true => rfl
        | false =>
          show Option.bind (dictumref03_Word.l2 k (c :: t) RES k 0) _ = _
          rw [show dictumref03_Word.l2 k (c :: t) RES k 0 = _ from rword_l2 k (c :: t) RES (by decide) 12 k 0 (by decide) (by omega) (by decide), bind_some', List.drop_zero, decide_eq_true (by simp only [List.length_cons]; omega : (c :: t).length ≤ 31)]
          cases RES.contains (c :: t) <;> rfl
    · rw [decide_eq_false (by simp only [List.length_cons]; omega : ¬ (((c :: t).length : Nat) : Int) < 1), cond_false, decide_eq_true (by simp only [List.length_cons]; omega : (((c :: t).length : Nat) : Int) > 31), cond_true, bind_some', cond_true, decide_eq_false (by simp only [List.length_cons]; omega : ¬ (c :: t).length ≤ 31)]
      cases badW 0 (c :: t) <;> rfl
end Go.Proofs.YtpmkkhkphddfeaaGreatDoor.X
set_option linter.unusedVariables false
set_option linter.unusedSimpArgs false
namespace Go.Proofs.YtpmkkhkphddfeaaGreatDoor.X
open Go Go.RowKit Go.Proofs.YtpmkkhkphddfeaaGreatDoor.SX
theorem eqbN (x y : T_api_Node) : T_api_Node.eqb x y = decide (x = y) := by
  unfold T_api_Node.eqb
  rw [Bool.eq_iff_iff, decide_eq_true_eq]
  cases x; cases y
  simp [and_assoc]
/-! Maps -/
section maps
variable {K V : Type} {eq : K → K → Bool}
theorem lfind_shift (x : K) : ∀ (l : List K) (i : Nat), lfind eq x l i = (lfind eq x l 0).map (· + i)
  | [], i => rfl
  | a :: l, i => by
    unfold lfind
    cases eq x a with
    | true => simp
    | false =>
      rw [cond_false, cond_false, lfind_shift x l (i + 1), lfind_shift x l (0 + 1), Option.map_map]
      congr 1
      funext q
      show q + (i + 1) = q + (0 + 1) + i
      omega
theorem lfind_cons (x a : K) (l : List K) : lfind eq x (a :: l) 0 = bif eq x a then some 0 else (lfind eq x l 0).map (· + 1) := by
  rw [lfind, lfind_shift x l (0 + 1)]
theorem lfind_app (x : K) : ∀ (l m : List K), lfind eq x (l ++ m) 0 = match lfind eq x l 0 with | some i => some i | none => (lfind eq x m 0).map (· + l.length)
  | [], m => by show _ = (lfind eq x m 0).map (· + 0); simp
  | a :: l, m => by
    rw [List.cons_append, lfind_cons, lfind_cons, lfind_app x l m]
    cases eq x a with
    | true => rfl
    | false =>
      rw [cond_false, cond_false]
      cases lfind eq x l 0 with
      | some i => rfl
      | none =>
        simp only [Option.map_none, Option.map_map, List.length_cons]
        congr 1
theorem lfind_none (he : ∀ a b, eq a b = true ↔ a = b) (x : K) : ∀ l : List K, lfind eq x l 0 = none ↔ x ∉ l
  | [] => by simp [lfind]
  | a :: l => by
    rw [lfind_cons, List.mem_cons, not_or]
    cases hc : eq x a with
    | true => simp [(he _ _).1 hc]
    | false =>
      have : x ≠ a := fun h => by rw [(he _ _).2 h] at hc; cases hc
      simp [this, lfind_none he x l]
theorem lfind_lt {x : K} {l : List K} {i : Nat} (h : lfind eq x l 0 = some i) : i < l.length ∧ ∃ a, l[i]? = some a ∧ eq x a = true := by
  obtain ⟨_, a, h2, h3⟩ := lfind_at h
  rw [Nat.sub_zero] at h2
  exact ⟨(List.getElem?_eq_some_iff.1 h2).1, a, h2, h3⟩
theorem lfind_get {x : K} (he : ∀ a b, eq a b = true ↔ a = b) {l : List K} {i : Nat} (h : lfind eq x l 0 = some i) : l[i]? = some x := by
  obtain ⟨_, a, h2, h3⟩ := lfind_lt h
  rw [h2, (he _ _).1 h3]
theorem mget_nil (y : K) : mget eq ([] : List (K × V)) y = none := rfl
theorem mget_cons (he : ∀ a b, eq a b = true ↔ a = b) (k : K) (v : V) (m : List (K × V)) (y : K) : mget eq ((k, v) :: m) y = bif eq y k then some v else mget eq m y := by
  unfold mget
  rw [List.map_cons, lfind_cons]
  cases eq y k with
  | true => rfl
  | false =>
    rw [cond_false, cond_false]
    cases lfind eq y (m.map (·.1)) 0 <;> rfl
theorem mget_app_none (he : ∀ a b, eq a b = true ↔ a = b) (m : List (K × V)) (k : K) (v : V) (y : K) (h : mget eq m y = none) : mget eq (m ++ [(k, v)]) y = bif eq y k then some v else none := by
  induction m with
  | nil => rw [List.nil_append, mget_cons he, mget_nil]
  | cons a m ih =>
    obtain ⟨a, b⟩ := a
    rw [mget_cons he] at h
    rw [List.cons_append, mget_cons he]
    cases hc : eq y a with
    | true => rw [hc] at h; cases h
    | false => rw [hc] at h; exact ih h
theorem mget_app_some (he : ∀ a b, eq a b = true ↔ a = b) (m : List (K × V)) (k : K) (v w : V) (y : K) (h : mget eq m y = some w) : mget eq (m ++ [(k, v)]) y = some w := by
  induction m with
  | nil => cases h
  | cons a m ih =>
    obtain ⟨a, b⟩ := a
    rw [mget_cons he] at h
    rw [List.cons_append, mget_cons he]
    cases hc : eq y a with
    | true => rw [hc] at h; exact h
    | false => rw [hc] at h; exact ih h
theorem mput_cons (he : ∀ a b, eq a b = true ↔ a = b) (k : K) (v : V) (m : List (K × V)) (x : K) (w : V) : mput eq ((k, v) :: m) x w = bif eq x k then (x, w) :: m else (k, v) :: mput eq m x w := by
  unfold mput
  rw [List.map_cons, lfind_cons]
  cases eq x k with
  | true => rfl
  | false =>
    rw [cond_false, cond_false]
    cases lfind eq x (m.map (·.1)) 0 <;> rfl
theorem mget_mput (he : ∀ a b, eq a b = true ↔ a = b) (m : List (K × V)) (x : K) (v : V) (y : K) : mget eq (mput eq m x v) y = bif eq y x then some v else mget eq m y := by
  induction m with
  | nil => exact mget_cons he x v [] y
  | cons a m ih =>
    obtain ⟨a, b⟩ := a
    rw [mput_cons he, mget_cons he]
    cases hxa : eq x a with
    | true =>
      rw [cond_true, mget_cons he, (he _ _).1 hxa]
      cases eq y a <;> rfl
    | false =>
      rw [cond_false, mget_cons he, ih]
      cases hya : eq y a with
      | false => rfl
      | true =>
        have : eq y x = false := by
          rw [← Bool.not_eq_true, he]
          intro h
          rw [← h, hya] at hxa
          cases hxa
        rw [this]
        rfl
theorem mdel_cons (he : ∀ a b, eq a b = true ↔ a = b) (k : K) (v : V) (m : List (K × V)) (x : K) : mdel eq ((k, v) :: m) x = bif eq x k then m else (k, v) :: mdel eq m x := by
  unfold mdel
  rw [List.map_cons, lfind_cons]
  cases eq x k with
  | true => rfl
  | false =>
    rw [cond_false, cond_false]
    cases lfind eq x (m.map (·.1)) 0 <;> rfl
/-- No key twice. -/
def uniq : List (K × V) → Prop
  | [] => True
  | (k, _) :: m => (∀ w, (k, w) ∉ m) ∧ uniq m
theorem mget_none (he : ∀ a b, eq a b = true ↔ a = b) (x : K) : ∀ m : List (K × V), mget eq m x = none ↔ ∀ w, (x, w) ∉ m
  | [] => by simp [mget_nil]
  | (k, v) :: m => by
    rw [mget_cons he]
    cases hc : eq x k with
    | true =>
      rw [(he _ _).1 hc]
      constructor
      · intro h; cases h
      · intro h; exact absurd (List.mem_cons_self ..) (h v)
    | false =>
      have hne : x ≠ k := fun h => by rw [(he _ _).2 h] at hc; cases hc
      rw [cond_false, mget_none he x m]
      constructor
      · intro h w hw
        rcases List.mem_cons.1 hw with h1 | h1
        · injection h1 with h1; exact hne h1
        · exact h w h1
      · intro h w hw; exact h w (List.mem_cons_of_mem _ hw)
theorem mem_mput (he : ∀ a b, eq a b = true ↔ a = b) (x : K) (v : V) (y : K) (w : V) : ∀ m : List (K × V), (y, w) ∈ mput eq m x v → y = x ∨ (y, w) ∈ m
  | [] => by
    intro h
    rcases List.mem_cons.1 h with h1 | h1
    · injection h1 with h1; exact .inl h1
    · cases h1
  | (k, u) :: m => by
    rw [mput_cons he]
    cases eq x k with
    | true =>
      intro h
      rcases List.mem_cons.1 h with h1 | h1
      · injection h1 with h1; exact .inl h1
      · exact .inr (List.mem_cons_of_mem _ h1)
    | false =>
      intro h
      rcases List.mem_cons.1 h with h1 | h1
      · rw [h1]; exact .inr (List.mem_cons_self ..)
      · rcases mem_mput he x v y w m h1 with h2 | h2
        · exact .inl h2
        · exact .inr (List.mem_cons_of_mem _ h2)
theorem uniq_mput (he : ∀ a b, eq a b = true ↔ a = b) (x : K) (v : V) : ∀ m : List (K × V), uniq m → uniq (mput eq m x v)
  | [], _ => by
    refine ⟨?_, trivial⟩
    intro w hw
    cases hw
  | (k, u) :: m, h => by
    rw [mput_cons he]
    cases hc : eq x k with
    | true => obtain rfl := (he _ _).1 hc; exact h
    | false =>
      refine ⟨fun w hw => ?_, uniq_mput he x v m h.2⟩
      rcases mem_mput he x v k w m hw with h1 | h1
      · rw [(he _ _).2 h1.symm] at hc; cases hc
      · exact h.1 w h1
theorem mem_mdel (he : ∀ a b, eq a b = true ↔ a = b) (x y : K) (w : V) : ∀ m : List (K × V), (y, w) ∈ mdel eq m x → (y, w) ∈ m
  | [] => fun h => h
  | (k, u) :: m => by
    rw [mdel_cons he]
    cases eq x k with
    | true => exact fun h => List.mem_cons_of_mem _ h
    | false =>
      intro h
      rcases List.mem_cons.1 h with h1 | h1
      · rw [h1]; exact List.mem_cons_self ..
      · exact List.mem_cons_of_mem _ (mem_mdel he x y w m h1)
theorem uniq_mdel (he : ∀ a b, eq a b = true ↔ a = b) (x : K) : ∀ m : List (K × V), uniq m → uniq (mdel eq m x)
  | [], _ => trivial
  | (k, u) :: m, h => by
    rw [mdel_cons he]
    cases hc : eq x k with
    | true => exact h.2
    | false => exact ⟨fun w hw => h.1 w (mem_mdel he x k w m hw), uniq_mdel he x m h.2⟩
theorem mget_mdel (he : ∀ a b, eq a b = true ↔ a = b) (x y : K) : ∀ m : List (K × V), uniq m → mget eq (mdel eq m x) y = bif eq y x then none else mget eq m y
  | [], _ => by show none = bif eq y x then none else none; cases eq y x <;> rfl
  | (k, u) :: m, h => by
    rw [mdel_cons he, mget_cons he]
    cases hc : eq x k with
    | true =>
      obtain rfl := (he _ _).1 hc
      rw [cond_true]
      cases hy : eq y x with
      | true =>
        obtain rfl := (he _ _).1 hy
        exact (mget_none he y m).2 h.1
      | false => rfl
    | false =>
      rw [cond_false, mget_cons he, mget_mdel he x y m h.2]
      cases hyk : eq y k with
      | false => rfl
      | true =>
        obtain rfl := (he _ _).1 hyk
        have : eq y x = false := by
          rw [← Bool.not_eq_true, he]
          intro h; rw [(he _ _).2 h.symm] at hc; cases hc
        rw [this]
        rfl
end maps
theorem eqN_iff (a b : T_api_Node) : T_api_Node.eqb a b = true ↔ a = b := by rw [eqbN, decide_eq_true_eq]
/-! A table: rows, and what numbers they have -/
abbrev MapN := List (T_api_Node × Int)
def numN (N : List T_api_Node) (x : T_api_Node) : Option Nat := lfind T_api_Node.eqb x N 0
structure Tab (N : List T_api_Node) (m : MapN) : Prop where
  get : ∀ x, mget T_api_Node.eqb m x = (numN N x).map fun i => (i : Int)
  uq : uniq m
  one : N.Nodup
  room : N.length ≤ 1024
def hasN (N : List T_api_Node) (i : Int) : Bool := decide (0 ≤ i) && decide (i < (N.length : Int))
def fitN (N : List T_api_Node) (x : T_api_Node) : Int :=
  bif x.f_Kind == 1 then (bif x.f_L != 0 || x.f_R != 0 then 31 else bif wordB x.f_Name then 0 else 32) else
  bif x.f_Kind == 2 then (bif !(x.f_Name == []) || (x.f_L != 0 || x.f_R != 0) then 31 else 0) else
  bif x.f_Kind == 3 || (x.f_Kind == 4 || x.f_Kind == 5) then (bif !(x.f_Name == []) || (!hasN N x.f_L || !hasN N x.f_R) then 31 else 0) else 31
def putN (N : List T_api_Node) (x : T_api_Node) : Int × Int × List T_api_Node :=
  bif fitN N x != 0 then (0, fitN N x, N) else match numN N x with
  | some i => ((i : Int), 0, N)
  | none => if 1024 ≤ N.length then (0, 30, N) else ((N.length : Int), 0, N ++ [x])
theorem tab_nil : Tab [] [] := ⟨fun x => rfl, trivial, List.nodup_nil, Nat.zero_le _⟩
theorem numN_none {N : List T_api_Node} {x : T_api_Node} : numN N x = none ↔ x ∉ N := lfind_none eqN_iff x N
theorem numN_get {N : List T_api_Node} {x : T_api_Node} {i : Nat} (h : numN N x = some i) : N[i]? = some x := lfind_get eqN_iff h
theorem numN_lt {N : List T_api_Node} {x : T_api_Node} {i : Nat} (h : numN N x = some i) : i < N.length := (lfind_lt h).1
theorem numN_app (N : List T_api_Node) (x y : T_api_Node) : numN (N ++ [y]) x = match numN N x with | some i => some i | none => if x = y then some N.length else none := by
  unfold numN
  rw [lfind_app]
  cases lfind T_api_Node.eqb x N 0 with
  | some i => rfl
  | none =>
    show (lfind T_api_Node.eqb x [y] 0).map (· + N.length) = if x = y then some N.length else none
    rw [lfind_cons, eqbN]
    by_cases h : x = y
    · rw [if_pos h, decide_eq_true h]; show some (0 + N.length) = _; rw [Nat.zero_add]
    · rw [if_neg h, decide_eq_false h]; rfl
theorem numN_of {N : List T_api_Node} (h1 : N.Nodup) {x : T_api_Node} {i : Nat} (h : N[i]? = some x) : numN N x = some i := by
  cases hc : numN N x with
  | none => exact absurd (List.mem_of_getElem? h) (numN_none.1 hc)
  | some j =>
    have h2 := numN_get hc
    obtain ⟨hi, hi2⟩ := List.getElem?_eq_some_iff.1 h
    obtain ⟨hj, hj2⟩ := List.getElem?_eq_some_iff.1 h2
    have hp := List.pairwise_iff_getElem.1 h1
    rcases Nat.lt_trichotomy i j with hl | hl | hl
    · exact absurd (hi2.trans hj2.symm) (hp i j hi hj hl)
    · rw [hl]
    · exact absurd (hj2.trans hi2.symm) (hp j i hj hi hl)
theorem Tab.add {N : List T_api_Node} {m : MapN} (h : Tab N m) {x : T_api_Node} (hx : numN N x = none) (hl : N.length < 1024) : Tab (N ++ [x]) (mput T_api_Node.eqb m x (N.length : Int)) := by
  refine ⟨fun y => ?_, uniq_mput eqN_iff x _ m h.uq, ?_, by rw [List.length_append, List.length_singleton]; omega⟩
  · rw [mget_mput eqN_iff, h.get, numN_app]
    by_cases hy : y = x
    · subst hy
      rw [eqbN, decide_eq_true rfl, hx, if_pos rfl]
      rfl
    · rw [eqbN, decide_eq_false hy, cond_false]
      cases numN N y with
      | some i => rfl
      | none => rw [if_neg hy]
  · rw [List.nodup_append]
    refine ⟨h.one, by simp, fun a ha b hb => ?_⟩
    rw [List.mem_singleton] at hb
    subst hb
    intro e
    subst e
    exact numN_none.1 hx ha
theorem putN_bad {N : List T_api_Node} {x : T_api_Node} (h : fitN N x ≠ 0) : putN N x = (0, fitN N x, N) := by
  unfold putN
  rw [show (fitN N x != 0) = true from by rw [bne_iff_ne]; exact h]
  rfl
theorem putN_old {N : List T_api_Node} {x : T_api_Node} {i : Nat} (h : fitN N x = 0) (hx : numN N x = some i) : putN N x = ((i : Int), 0, N) := by
  unfold putN
  rw [h, hx]
  rfl
theorem putN_full {N : List T_api_Node} {x : T_api_Node} (h : fitN N x = 0) (hx : numN N x = none) (hl : 1024 ≤ N.length) : putN N x = (0, 30, N) := by
  unfold putN
  rw [h, hx]
  show (if 1024 ≤ N.length then ((0 : Int), (30 : Int), N) else ((N.length : Int), 0, N ++ [x])) = _
  rw [if_pos hl]
theorem putN_new {N : List T_api_Node} {x : T_api_Node} (h : fitN N x = 0) (hx : numN N x = none) (hl : N.length < 1024) : putN N x = ((N.length : Int), 0, N ++ [x]) := by
  unfold putN
  rw [h, hx]
  show (if 1024 ≤ N.length then ((0 : Int), (30 : Int), N) else ((N.length : Int), 0, N ++ [x])) = _
  rw [if_neg (by omega)]
theorem putN_pre (N : List T_api_Node) (x : T_api_Node) : N <+: (putN N x).2.2 := by
  unfold putN
  cases fitN N x != 0 with
  | true => exact List.prefix_refl _
  | false =>
    rw [cond_false]
    cases numN N x with
    | some i => exact List.prefix_refl _
    | none =>
      show N <+: (if 1024 ≤ N.length then ((0 : Int), (30 : Int), N) else ((N.length : Int), 0, N ++ [x])).2.2
      split
      · exact List.prefix_refl _
      · exact List.prefix_append _ _
theorem has_f (N : List T_api_Node) (i : Int) (m : MapN) : formula_Table_has.f ⟨N⟩ i m = some (hasN N i) := by
  unfold formula_Table_has.f hasN
  have : decide (i ≥ 0) = decide (0 ≤ i) := rfl
  rw [this]
  cases decide (0 ≤ i) <;> rfl
theorem fits_f (k : Nat) (N : List T_api_Node) (x : T_api_Node) (m : MapN) (hs : x.f_Name.length ≤ 1000000000000) (hk : x.f_Name.length < k) : formula_Table_fits.f k ⟨N⟩ x m = some (fitN N x) := by
  unfold formula_Table_fits.f fitN
  rw [word_f' k _ hs hk, has_f, has_f]
  simp only [bind_some']
  cases h1 : x.f_Kind == 1 with
  | true =>
    rw [cond_true, cond_true]
    cases x.f_L != 0 <;> cases x.f_R != 0 <;> cases wordB x.f_Name <;> rfl
  | false =>
    rw [cond_false, cond_false]
    cases h2 : x.f_Kind == 2 with
    | true =>
      rw [cond_true, cond_true]
      have e : T_api_Node.eqb (⟨x.f_Kind, x.f_Name, x.f_L, x.f_R⟩ : T_api_Node) (⟨2, ([] : List UInt8), (0 : Int), (0 : Int)⟩ : T_api_Node) = !(!(x.f_Name == []) || (x.f_L != 0 || x.f_R != 0)) := by
        unfold T_api_Node.eqb
        simp only [h2, bne]
        generalize (x.f_Name == []) = a
        generalize (x.f_L == 0) = b
        generalize (x.f_R == 0) = c
        cases a <;> cases b <;> cases c <;> rfl
      rw [e]
      generalize (!(x.f_Name == []) || (x.f_L != 0 || x.f_R != 0)) = b
      cases b <;> rfl
    | false =>
      rw [cond_false, cond_false]
      generalize (x.f_Kind == 3) = a
      generalize (x.f_Kind == 4) = b
      generalize (x.f_Kind == 5) = c
      generalize (x.f_Name == []) = d
      generalize hasN N x.f_L = e
      generalize hasN N x.f_R = f
      cases a <;> cases b <;> cases c <;> cases d <;> cases e <;> cases f <;> rfl
/-- A row is put. -/
theorem put_f (k : Nat) (N : List T_api_Node) (x : T_api_Node) (m : MapN) (hT : Tab N m) (hs : x.f_Name.length ≤ 1000000000000) (hk : x.f_Name.length < k) : ∃ m', formula_Table_Put.f k ⟨N⟩ x m = some ((putN N x).1, (putN N x).2.1, ⟨(putN N x).2.2⟩, m') ∧ Tab (putN N x).2.2 m' := by
  unfold formula_Table_Put.f
  rw [show formula_Table_alive.f ⟨N⟩ m = some true from rfl, bind_some', show formula_Table_fits.f k ⟨N⟩ (⟨x.f_Kind, x.f_Name, x.f_L, x.f_R⟩ : T_api_Node) m = _ from fits_f k N x m hs hk, bind_some']
  unfold putN
  cases fitN N x != 0 with
  | true => exact ⟨m, rfl, hT⟩
  | false =>
    rw [cond_false, cond_false, show mget T_api_Node.eqb m (⟨x.f_Kind, x.f_Name, x.f_L, x.f_R⟩ : T_api_Node) = _ from hT.get x]
    cases hx : numN N x with
    | some i => exact ⟨m, rfl, hT⟩
    | none =>
      show ∃ m', (bif decide ((N.length : Int) ≥ 1024) then _ else _) = some ((if 1024 ≤ N.length then ((0 : Int), (30 : Int), N) else ((N.length : Int), 0, N ++ [x])).1, (if 1024 ≤ N.length then ((0 : Int), (30 : Int), N) else ((N.length : Int), 0, N ++ [x])).2.1, (⟨(if 1024 ≤ N.length then ((0 : Int), (30 : Int), N) else ((N.length : Int), 0, N ++ [x])).2.2⟩ : T_formula_Table), m') ∧ _
      by_cases h : 1024 ≤ N.length
      · rw [if_pos h, decide_eq_true (by omega : (N.length : Int) ≥ 1024)]
        exact ⟨m, rfl, hT⟩
      · rw [if_neg h, decide_eq_false (by omega : ¬ (N.length : Int) ≥ 1024), cond_false, chk_of (decide_eq_true (by rw [List.length_singleton]; show (N.length + 1) * 40 ≤ _; omega))]
        exact ⟨_, rfl, hT.add hx (by omega)⟩
theorem copy_l1 (k : Nat) (N : List T_api_Node) (hN : N.length ≤ 1024) : ∀ (d kk i : Nat) (M : List T_api_Node) (m : MapN), N.length - i ≤ d → d < kk → M.length ≤ i → i ≤ N.length → ∃ r, formula_Table_Copy.l1 k ⟨N⟩ kk (i : Int) ⟨M⟩ m = some r := by
  intro d
  induction d with
  | zero =>
    intro kk i M m h1 h2 h3 h4
    obtain ⟨q, rfl⟩ : ∃ q, kk = q + 1 := ⟨kk - 1, by omega⟩
    rw [formula_Table_Copy.l1.eq_2, decide_eq_false (by omega : ¬ (i : Int) < (N.length : Int))]
    exact ⟨_, rfl⟩
  | succ d ih =>
    intro kk i M m h1 h2 h3 h4
    obtain ⟨q, rfl⟩ : ∃ q, kk = q + 1 := ⟨kk - 1, by omega⟩
    by_cases h : i < N.length
    · obtain ⟨r, hr⟩ := ih q (i + 1) (M ++ [N[i]]) (mput T_api_Node.eqb m N[i] (i : Int)) (by omega) (by omega) (by rw [List.length_append, List.length_singleton]; omega) h
      rw [formula_Table_Copy.l1.eq_2, decide_eq_true (by omega : (i : Int) < (N.length : Int)), cond_true, ix_nat, List.getElem?_eq_getElem h, bind_some', chk_of (decide_eq_true (by rw [List.length_singleton]; show (M.length + 1) * 40 ≤ _; omega)), bind_some', bind_some', wsucc i (by omega)]
      exact ⟨r, hr⟩
    · rw [formula_Table_Copy.l1.eq_2, decide_eq_false (by omega : ¬ (i : Int) < (N.length : Int))]
      exact ⟨_, rfl⟩
theorem known_f (k : Nat) (N : List T_api_Node) (m : MapN) (hT : Tab N m) (hk : 1025 ≤ k) : syntax_known.f k ⟨N⟩ m = some true := by
  unfold syntax_known.f formula_Table_Copy.f
  have hr := hT.room
  obtain ⟨r, hr⟩ := copy_l1 k N hT.room N.length k 0 [] [] (by omega) (by omega) (Nat.le_refl _) (by omega)
  rw [show formula_Table_alive.f ⟨N⟩ m = some true from rfl, bind_some', show formula_New.f = some ((⟨([] : List T_api_Node)⟩ : T_formula_Table), ([] : MapN)) from rfl, bind_some', show formula_Table_Copy.l1 k ⟨N⟩ k 0 (⟨([] : List T_api_Node)⟩ : T_formula_Table) ([] : MapN) = _ from hr]
  rfl
theorem len_f (N : List T_api_Node) (m : MapN) : formula_Table_Len.f ⟨N⟩ m = some (N.length : Int) := rfl
end Go.Proofs.YtpmkkhkphddfeaaGreatDoor.X
set_option linter.unusedVariables false
set_option linter.unusedSimpArgs false
namespace Go.Proofs.YtpmkkhkphddfeaaGreatDoor.X
open Go Go.RowKit Go.Proofs.YtpmkkhkphddfeaaGreatDoor.SX
theorem numN_drop (N : List T_api_Node) (x : T_api_Node) (i : Nat) (h : i < N.length) : numN (N.drop i) x = if x = N[i] then some 0 else (numN (N.drop (i + 1)) x).map (· + 1) := by
  unfold numN
  rw [drop_cons h, lfind_cons, eqbN]
  by_cases hc : x = N[i]
  · rw [if_pos hc, decide_eq_true hc]; rfl
  · rw [if_neg hc, decide_eq_false hc]; rfl
theorem find_l1 (k : Nat) (N : List T_api_Node) (x : T_api_Node) (hN : N.length ≤ 100000) : ∀ (d kk i : Nat), N.length - i ≤ d → d < kk → i ≤ N.length →
    dictumref03_T_Find.l1 k ⟨N⟩ x kk (i : Int) = some (match numN (N.drop i) x with | some j => .inl (((i + j : Nat) : Int), true) | none => .inr ()) := by
  intro d
  induction d with
  | zero =>
    intro kk i h1 h2 h3
    obtain ⟨q, rfl⟩ : ∃ q, kk = q + 1 := ⟨kk - 1, by omega⟩
    rw [dictumref03_T_Find.l1.eq_2, decide_eq_false (by omega : ¬ (i : Int) < (N.length : Int)), List.drop_eq_nil_of_le (by omega)]
    rfl
  | succ d ih =>
    intro kk i h1 h2 h3
    obtain ⟨q, rfl⟩ : ∃ q, kk = q + 1 := ⟨kk - 1, by omega⟩
    by_cases h : i < N.length
    · rw [dictumref03_T_Find.l1.eq_2, decide_eq_true (by omega : (i : Int) < (N.length : Int)), cond_true, ix_nat, List.getElem?_eq_getElem h, bind_some', wsucc i (by omega), ih q (i + 1) (by omega) (by omega) h, numN_drop N x i h]
      have e : T_api_Node.eqb N[i] (⟨x.f_Kind, x.f_Name, x.f_L, x.f_R⟩ : T_api_Node) = decide (x = N[i]) := by
        rw [eqbN, decide_eq_decide]; exact eq_comm
      rw [e]
      by_cases hc : x = N[i]
      · rw [decide_eq_true hc, if_pos hc]; rfl
      · rw [decide_eq_false hc, if_neg hc, cond_false]
        cases numN (N.drop (i + 1)) x with
        | none => rfl
        | some j =>
          show some (Sum.inl (((i + 1 + j : Nat) : Int), true)) = some (Sum.inl (((i + (j + 1) : Nat) : Int), true))
          rw [show i + 1 + j = i + (j + 1) from by omega]
    · rw [dictumref03_T_Find.l1.eq_2, decide_eq_false (by omega : ¬ (i : Int) < (N.length : Int)), List.drop_eq_nil_of_le (by omega)]
      rfl
theorem rfind_f (k : Nat) (N : List T_api_Node) (x : T_api_Node) (hN : N.length ≤ 100000) (hk : N.length < k) : dictumref03_T_Find.f k ⟨N⟩ x = some (match numN N x with | some j => ((j : Int), true) | none => (0, false)) := by
  unfold dictumref03_T_Find.f
  rw [show dictumref03_T_Find.l1 k ⟨N⟩ x k 0 = _ from find_l1 k N x hN N.length k 0 (by omega) hk (by omega), bind_some', List.drop_zero]
  cases numN N x with
  | none => rfl
  | some j => show some (((0 + j : Nat) : Int), true) = some ((j : Int), true); rw [Nat.zero_add]
theorem rhas_f (N : List T_api_Node) (i : Int) : dictumref03_T_Has.f ⟨N⟩ i = some (hasN N i) := by
  unfold dictumref03_T_Has.f hasN
  have : decide (i ≥ 0) = decide (0 ≤ i) := rfl
  rw [this]
  cases decide (0 ≤ i) <;> rfl
theorem rput_f (k : Nat) (N : List T_api_Node) (x : T_api_Node) (hN : N.length ≤ 1024) (hs : x.f_Name.length ≤ 1000000000000) (hk : x.f_Name.length < k) (hk2 : 1025 ≤ k) : dictumref03_T_Put.f k ⟨N⟩ x = some ((putN N x).1, (putN N x).2.1, ⟨(putN N x).2.2⟩) := by
  unfold dictumref03_T_Put.f putN
  rw [rword_f' k _ hs hk (by omega), rhas_f, rhas_f]
  have key : ∀ b : Int, ∀ X : Option (Sum (Int × Int × T_dictumref03_T) Unit), X = some (bif b != 0 then .inl (0, b, ⟨N⟩) else .inr ()) → (X.bind fun z106 => match z106 with
    | .inl r_ => some r_
    | .inr _ => (dictumref03_T_Find.f k ⟨N⟩ (⟨x.f_Kind, x.f_Name, x.f_L, x.f_R⟩ : T_api_Node)).bind fun z111 =>
  (bif z111.2 then
  some (z111.1, 0, ⟨N⟩)
  else
  (bif (decide ((N.length : Int) ≥ 1024)) then
  some (0, 30, ⟨N⟩)
  else
  ((chk (decide ((N.length + [(⟨x.f_Kind, x.f_Name, x.f_L, x.f_R⟩ : T_api_Node)].length) * 40 ≤ 140737488355328))).bind fun _ =>
  some (⟨(N ++ [(⟨x.f_Kind, x.f_Name, x.f_L, x.f_R⟩ : T_api_Node)])⟩ : T_dictumref03_T) : Option (T_dictumref03_T)).bind fun z123 =>
  some (wrap64 ((z123.f_N.length : Int) - 1), 0, z123)))) = some ((bif b != 0 then (0, b, N) else match numN N x with
  | some i => ((i : Int), 0, N)
  | none => if 1024 ≤ N.length then (0, 30, N) else ((N.length : Int), 0, N ++ [x])).1, (bif b != 0 then (0, b, N) else match numN N x with
  | some i => ((i : Int), 0, N)
  | none => if 1024 ≤ N.length then (0, 30, N) else ((N.length : Int), 0, N ++ [x])).2.1, (⟨(bif b != 0 then ((0 : Int), b, N) else match numN N x with
  | some i => ((i : Int), 0, N)
  | none => if 1024 ≤ N.length then (0, 30, N) else ((N.length : Int), 0, N ++ [x])).2.2⟩ : T_dictumref03_T)) := by
    intro b X hX
    rw [hX, bind_some']
    cases b != 0 with
    | true => rfl
    | false =>
      rw [cond_false, cond_false]
      show (dictumref03_T_Find.f k ⟨N⟩ x).bind _ = _
      rw [rfind_f k N x (by omega) (by omega), bind_some']
      cases hx : numN N x with
      | some i => rfl
      | none =>
        rw [cond_false]
        by_cases h : 1024 ≤ N.length
        · rw [if_pos h, decide_eq_true (by omega : (N.length : Int) ≥ 1024)]; rfl
        · rw [if_neg h, decide_eq_false (by omega : ¬ (N.length : Int) ≥ 1024), cond_false, chk_of (decide_eq_true (by rw [List.length_singleton]; omega)), bind_some', bind_some']
          show some (wrap64 (((N ++ [x]).length : Int) - 1), (0 : Int), (⟨N ++ [x]⟩ : T_dictumref03_T)) = _
          rw [List.length_append, List.length_singleton, w64 (by omega) (by omega), show ((N.length + 1 : Nat) : Int) - 1 = (N.length : Int) from by omega]
  refine key (fitN N x) _ ?_
  unfold fitN
  simp only [bind_some']
  cases h1 : x.f_Kind == 1 with
  | true =>
    cases x.f_L != 0 <;> cases x.f_R != 0 <;> cases wordB x.f_Name <;> rfl
  | false =>
    cases h2 : x.f_Kind == 2 with
    | true =>
      cases (x.f_Name == []) <;> cases x.f_L != 0 <;> cases x.f_R != 0 <;> rfl
    | false =>
      cases (x.f_Kind == 3) <;> cases (x.f_Kind == 4) <;> cases (x.f_Kind == 5) <;> cases (x.f_Name == []) <;> cases hasN N x.f_L <;> cases hasN N x.f_R <;> rfl
end Go.Proofs.YtpmkkhkphddfeaaGreatDoor.X
set_option linter.unusedVariables false
set_option linter.unusedSimpArgs false
namespace Go.Proofs.YtpmkkhkphddfeaaGreatDoor.X
open Go Go.RowKit Go.Proofs.YtpmkkhkphddfeaaGreatDoor.SX
/-- Do rows go on a table? -/
def good : List T_api_Node → List T_api_Node → Bool
  | _, [] => true
  | N, x :: r => decide (fitN N x = 0) && (decide (numN N x = none) && (decide (N.length < 1024) && good (N ++ [x]) r))
/-- What becomes of a row: it is put behind all others, or there is a fault. -/
theorem put_cases (N : List T_api_Node) (x : T_api_Node) : (fitN N x = 0 ∧ numN N x = none ∧ N.length < 1024 ∧ putN N x = ((N.length : Int), 0, N ++ [x])) ∨ (¬ (fitN N x = 0 ∧ numN N x = none ∧ N.length < 1024) ∧ ((putN N x).2.1 ≠ 0 ∨ ((putN N x).2.1 = 0 ∧ ∃ i : Nat, i < N.length ∧ (putN N x).1 = (i : Int)))) := by
  by_cases h : fitN N x = 0
  · cases hx : numN N x with
    | some i =>
      rw [putN_old h hx]
      exact .inr ⟨fun h => (by cases h.2.1), .inr ⟨rfl, i, numN_lt hx, rfl⟩⟩
    | none =>
      by_cases h2 : 1024 ≤ N.length
      · rw [putN_full h hx h2]
        exact .inr ⟨fun h => (by omega), .inl (show (30 : Int) ≠ 0 from by decide)⟩
      · rw [putN_new h hx (by omega)]
        exact .inl ⟨h, rfl, by omega, rfl⟩
  · rw [putN_bad h]
    exact .inr ⟨fun h' => h h'.1, .inl h⟩
theorem good_cons {N : List T_api_Node} {x : T_api_Node} {r : List T_api_Node} : good N (x :: r) = true ↔ (fitN N x = 0 ∧ numN N x = none ∧ N.length < 1024) ∧ good (N ++ [x]) r = true := by
  rw [good.eq_2, Bool.and_eq_true, Bool.and_eq_true, Bool.and_eq_true, decide_eq_true_eq, decide_eq_true_eq, decide_eq_true_eq]
  constructor
  · rintro ⟨a, b, c, d⟩; exact ⟨⟨a, b, c⟩, d⟩
  · rintro ⟨⟨a, b, c⟩, d⟩; exact ⟨a, b, c, d⟩
theorem rfrom_l1 (k : Nat) (a : List T_api_Node) (ha : a.length ≤ 100000000) (hb : ∀ x ∈ a, x.f_Name.length ≤ 100000000 ∧ x.f_Name.length < k) (hk : 1025 ≤ k) : ∀ (d kk i : Nat), a.length - i ≤ d → d < kk → i ≤ a.length → i ≤ 1024 →
    (good (a.take i) (a.drop i) = true → dictumref03_From.l1 k a kk (i : Int) ⟨a.take i⟩ = some (.inr ⟨a⟩)) ∧ (good (a.take i) (a.drop i) = false → ∃ e, dictumref03_From.l1 k a kk (i : Int) ⟨a.take i⟩ = some (.inl (.ex e))) := by
  intro d
  induction d with
  | zero =>
    intro kk i h1 h2 h3 h4
    obtain ⟨q, rfl⟩ : ∃ q, kk = q + 1 := ⟨kk - 1, by omega⟩
    rw [dictumref03_From.l1.eq_2, decide_eq_false (by omega : ¬ (i : Int) < (a.length : Int)), List.drop_eq_nil_of_le (by omega), List.take_of_length_le (by omega)]
    exact ⟨fun _ => rfl, fun h => by cases h⟩
  | succ d ih =>
    intro kk i h1 h2 h3 h4
    obtain ⟨q, rfl⟩ : ∃ q, kk = q + 1 := ⟨kk - 1, by omega⟩
    by_cases h : i < a.length
    · have htl : (a.take i).length = i := by rw [List.length_take]; omega
      have hx := hb a[i] (List.getElem_mem h)
      have hp := rput_f k (a.take i) a[i] (by rw [htl]; exact h4) (by omega) hx.2 hk
      rw [dictumref03_From.l1.eq_2, decide_eq_true (by omega : (i : Int) < (a.length : Int)), cond_true, ix_nat, List.getElem?_eq_getElem h, bind_some', hp, bind_some', drop_cons h]
      simp only
      rcases put_cases (a.take i) a[i] with ⟨p1, p2, p3, p4⟩ | ⟨p1, p2⟩
      · have ht : a.take i ++ [a[i]] = a.take (i + 1) := (List.take_append_getElem h)
        rw [htl] at p3 p4
        obtain ⟨g1, g2⟩ := ih q (i + 1) (by omega) (by omega) h p3
        rw [p4, ht]
        simp only
        rw [show ((0 : Int) != 0) = false from rfl, cond_false, show (((i : Nat) : Int) != (i : Int)) = false from by rw [bne_self_eq_false], cond_false, wsucc i (by omega)]
        refine ⟨fun hg => g1 ?_, fun hg => g2 ?_⟩
        · have := (good_cons.1 hg).2; rw [ht] at this; exact this
        · rw [← Bool.not_eq_true] at hg ⊢
          intro hc
          exact hg (good_cons.2 ⟨⟨p1, p2, by rw [htl]; exact p3⟩, by rw [ht]; exact hc⟩)
      · have hg : good (a.take i) (a[i] :: a.drop (i + 1)) = false := by
          rw [← Bool.not_eq_true]
          exact fun hc => p1 (good_cons.1 hc).1
        refine ⟨fun hc => (by rw [hg] at hc; cases hc), fun _ => ?_⟩
        rcases p2 with p2 | ⟨p2, j, p3, p4⟩
        · rw [show ((putN (a.take i) a[i]).2.1 != 0) = true from by rw [bne_iff_ne]; exact p2]
          exact ⟨_, rfl⟩
        · rw [p2, show ((0 : Int) != 0) = false from rfl, cond_false, p4, show (((j : Nat) : Int) != (i : Int)) = true from by rw [bne_iff_ne]; omega]
          exact ⟨_, rfl⟩
    · rw [dictumref03_From.l1.eq_2, decide_eq_false (by omega : ¬ (i : Int) < (a.length : Int)), List.drop_eq_nil_of_le (by omega), List.take_of_length_le (by omega)]
      exact ⟨fun _ => rfl, fun h => by cases h⟩
theorem from_l1 (k : Nat) (a : List T_api_Node) (ha : a.length ≤ 100000000) (hb : ∀ x ∈ a, x.f_Name.length ≤ 100000000 ∧ x.f_Name.length < k) (hk : 1025 ≤ k) : ∀ (d kk i : Nat) (m : MapN), a.length - i ≤ d → d < kk → i ≤ a.length → Tab (a.take i) m →
    good (a.take i) (a.drop i) = true → ∃ m', formula_From.l1 k a kk (i : Int) ⟨a.take i⟩ m = some (.inr (⟨a⟩, m')) ∧ Tab a m' := by
  intro d
  induction d with
  | zero =>
    intro kk i m h1 h2 h3 hT hg
    obtain ⟨q, rfl⟩ : ∃ q, kk = q + 1 := ⟨kk - 1, by omega⟩
    rw [List.take_of_length_le (by omega)] at hT ⊢
    rw [formula_From.l1.eq_2, decide_eq_false (by omega : ¬ (i : Int) < (a.length : Int))]
    exact ⟨m, rfl, hT⟩
  | succ d ih =>
    intro kk i m h1 h2 h3 hT hg
    obtain ⟨q, rfl⟩ : ∃ q, kk = q + 1 := ⟨kk - 1, by omega⟩
    by_cases h : i < a.length
    · have htl : (a.take i).length = i := by rw [List.length_take]; omega
      have hx := hb a[i] (List.getElem_mem h)
      obtain ⟨m', hp, hT'⟩ := put_f k (a.take i) a[i] m hT (by omega) hx.2
      rw [drop_cons h] at hg
      obtain ⟨⟨q1, q2, q3⟩, hg2⟩ := good_cons.1 hg
      rcases put_cases (a.take i) a[i] with ⟨p1, p2, p3, p4⟩ | ⟨p1, p2⟩
      · have ht : a.take i ++ [a[i]] = a.take (i + 1) := (List.take_append_getElem h)
        rw [htl] at p3 p4
        rw [p4] at hp hT'
        simp only at hp hT'
        rw [ht] at hT' hg2 hp
        obtain ⟨m2, g1, g2⟩ := ih q (i + 1) m' (by omega) (by omega) h hT' hg2
        refine ⟨m2, ?_, g2⟩
        rw [formula_From.l1.eq_2, decide_eq_true (by omega : (i : Int) < (a.length : Int)), cond_true, ix_nat, List.getElem?_eq_getElem h, bind_some', hp, bind_some']
        simp only
        rw [show ((0 : Int) == 0) = true from rfl, cond_true, bind_some', show (((i : Nat) : Int) != (i : Int)) = false from by rw [bne_self_eq_false], cond_false, bind_some', show ((0 : Int) != 0) = false from rfl, cond_false, wsucc i (by omega)]
        exact g1
      · exact absurd ⟨q1, q2, q3⟩ p1
    · rw [List.take_of_length_le (by omega)] at hT ⊢
      rw [formula_From.l1.eq_2, decide_eq_false (by omega : ¬ (i : Int) < (a.length : Int))]
      exact ⟨m, rfl, hT⟩
/-- The rows of the tables that are made. -/
def rowsOf (a : List T_api_Node) : List T_api_Node := bif good [] a then a else []
theorem tables_f (k : Nat) (a : List T_api_Node) (ha : a.length ≤ 100000000) (hb : ∀ x ∈ a, x.f_Name.length ≤ 100000000 ∧ x.f_Name.length < k) (hk : 1025 ≤ k) (hk2 : a.length < k) : ∃ m, dictumlaw04_Tables.f k a = some ((⟨rowsOf a⟩, m), ⟨rowsOf a⟩) ∧ Tab (rowsOf a) m := by
  unfold dictumlaw04_Tables.f dictumlaw03_Both.f dictumref03_From.f formula_From.f rowsOf
  obtain ⟨g1, g2⟩ := rfrom_l1 k a ha hb hk a.length k 0 (by omega) hk2 (by omega) (by omega)
  rw [chk_of (decide_eq_true (by rw [List.length_nil]; omega)), bind_some']
  rw [List.take_zero, List.drop_zero] at g1 g2
  cases hg : good [] a with
  | true =>
    rw [show dictumref03_From.l1 k a k 0 (⟨([] : List T_api_Node)⟩ : T_dictumref03_T) = _ from g1 hg]
    obtain ⟨m', h1, h2⟩ := from_l1 k a ha hb hk a.length k 0 [] (by omega) hk2 (by omega) tab_nil (by rw [List.take_zero, List.drop_zero]; exact hg)
    refine ⟨m', ?_, h2⟩
    show ((((formula_From.l1 k a k 0 ⟨[]⟩ ([] : MapN)).bind _).bind _)).bind _ = _
    rw [show formula_From.l1 k a k 0 ⟨[]⟩ ([] : MapN) = _ from h1]
    rfl
  | false =>
    obtain ⟨e, he⟩ := g2 hg
    rw [show dictumref03_From.l1 k a k 0 (⟨([] : List T_api_Node)⟩ : T_dictumref03_T) = _ from he]
    exact ⟨[], rfl, tab_nil⟩
theorem same_l1' (k : Nat) (a : List T_api_Node) (ha : a.length ≤ 100000000) : ∀ (d kk i : Nat), a.length - i ≤ d → d < kk → dictumref03_Same.l1 k a a kk (i : Int) = some (.inr ()) := by
  intro d
  induction d with
  | zero =>
    intro kk i h1 h2
    obtain ⟨q, rfl⟩ : ∃ q, kk = q + 1 := ⟨kk - 1, by omega⟩
    rw [dictumref03_Same.l1.eq_2, decide_eq_false (by omega : ¬ (i : Int) < (a.length : Int))]
    rfl
  | succ d ih =>
    intro kk i h1 h2
    obtain ⟨q, rfl⟩ : ∃ q, kk = q + 1 := ⟨kk - 1, by omega⟩
    by_cases h : i < a.length
    · rw [dictumref03_Same.l1.eq_2, decide_eq_true (by omega : (i : Int) < (a.length : Int)), cond_true, ix_nat, List.getElem?_eq_getElem h, bind_some', bind_some', eqbN, decide_eq_true rfl, wsucc i (by omega)]
      exact ih q (i + 1) (by omega) (by omega)
    · rw [dictumref03_Same.l1.eq_2, decide_eq_false (by omega : ¬ (i : Int) < (a.length : Int))]
      rfl
theorem same_refl (k : Nat) (a : List T_api_Node) (ha : a.length ≤ 100000000) (hk : a.length < k) : dictumref03_Same.f k a a = some true := by
  unfold dictumref03_Same.f
  rw [bne_self_eq_false, cond_false, show dictumref03_Same.l1 k a a k 0 = _ from same_l1' k a ha a.length k 0 (by omega) hk]
  rfl
theorem clone_f (a : List T_api_Node) (ha : a.length ≤ 100000000) : slices_Clone_api_Node.f a = some a := by
  unfold slices_Clone_api_Node.f
  rw [chk_of (decide_eq_true (by rw [List.length_nil]; omega)), bind_some', List.nil_append]
  cases a with
  | nil => rfl
  | cons x r => rfl
theorem rows_f (N : List T_api_Node) (m : MapN) (hN : N.length ≤ 1024) : formula_Table_Rows.f ⟨N⟩ m = some N := by
  unfold formula_Table_Rows.f
  rw [show formula_Table_alive.f ⟨N⟩ m = some true from rfl, bind_some', clone_f N (by omega)]
  rfl
theorem like_f (k : Nat) (N : List T_api_Node) (m : MapN) (hN : N.length ≤ 1024) (hk : 1025 ≤ k) : dictumlaw03_Like.f k ⟨N⟩ ⟨N⟩ m = some true := by
  unfold dictumlaw03_Like.f
  rw [rows_f N m hN, bind_some', same_refl k N (by omega) (by omega), bind_some', cond_true, len_f, bind_some', beq_self_eq_true]
end Go.Proofs.YtpmkkhkphddfeaaGreatDoor.X
set_option linter.unusedVariables false
set_option linter.unusedSimpArgs false
namespace Go.Proofs.YtpmkkhkphddfeaaGreatDoor.X
open Go Go.RowKit Go.Proofs.YtpmkkhkphddfeaaGreatDoor.SX
def node0 : T_api_Node := ⟨0, [], 0, 0⟩
def ndA (N : List T_api_Node) (i : Nat) : T_api_Node := N.getD i node0
/-- Rows stand on earlier rows; names are short. -/
structure Wf (N : List T_api_Node) : Prop where
  two : ∀ i, i < N.length → (ndA N i).f_Kind = 3 ∨ (ndA N i).f_Kind = 4 ∨ (ndA N i).f_Kind = 5 → 0 ≤ (ndA N i).f_L ∧ (ndA N i).f_L < (i : Int) ∧ 0 ≤ (ndA N i).f_R ∧ (ndA N i).f_R < (i : Int)
  name : ∀ i, i < N.length → (ndA N i).f_Name.length ≤ 31
  kind : ∀ i, i < N.length → (ndA N i).f_Kind = 1 ∨ (ndA N i).f_Kind = 2 ∨ (ndA N i).f_Kind = 3 ∨ (ndA N i).f_Kind = 4 ∨ (ndA N i).f_Kind = 5
inductive Sh where
  | lit (s : List UInt8)
  | neg (l : Nat)
  | two (s : List UInt8) (l : Nat) (a : Int) (r : Nat) (b : Int)
def botA (N : List T_api_Node) (i : Nat) : Bool := (ndA N i).f_Kind == 2
def shp (N : List T_api_Node) (x : T_api_Node) : Sh :=
  bif x.f_Kind == 3 then .two [32, 38, 32] x.f_L.toNat 2 x.f_R.toNat 3 else
  bif x.f_Kind == 4 then .two [32, 124, 32] x.f_L.toNat 1 x.f_R.toNat 2 else
  bif x.f_Kind == 5 then (bif botA N x.f_R.toNat then (bif botA N x.f_L.toNat then .lit [116, 114, 117, 101] else .neg x.f_L.toNat) else .two [32, 45, 62, 32] x.f_L.toNat 1 x.f_R.toNat 0) else
  bif x.f_Kind == 2 then .lit [102, 97, 108, 115, 101] else .lit x.f_Name
def lvA (N : List T_api_Node) (i : Nat) : Int :=
  bif (ndA N i).f_Kind == 3 then 2 else bif (ndA N i).f_Kind == 4 then 1 else bif (ndA N i).f_Kind == 5 then (bif botA N (ndA N i).f_R.toNat then 3 else 0) else 3
def ptT (N : List T_api_Node) (t : List UInt8) (i : Nat) (a : Int) : List UInt8 := bif decide (lvA N i < a) then 40 :: (t ++ [41]) else t
def rdT (N : List T_api_Node) (i : Nat) (a : Int) : Nat := bif decide (lvA N i < a) then 2 else 0
def bdT (N : List T_api_Node) : Nat → Nat → List UInt8
  | 0, _ => []
  | n + 1, i => match shp N (ndA N i) with
    | .lit s => s
    | .neg l => 126 :: ptT N (bdT N n l) l 3
    | .two s l a r b => ptT N (bdT N n l) l a ++ (s ++ ptT N (bdT N n r) r b)
def wdT (N : List T_api_Node) : Nat → Nat → Nat
  | 0, _ => 0
  | n + 1, i => min 65537 (match shp N (ndA N i) with
    | .lit s => s.length
    | .neg l => 1 + (wdT N n l + rdT N l 3)
    | .two s l a r b => s.length + (wdT N n l + rdT N l a) + (wdT N n r + rdT N r b))
/-- A formula's text, and how wide it is. -/
def bd (N : List T_api_Node) (i : Nat) : List UInt8 := bdT N (i + 1) i
def wd (N : List T_api_Node) (i : Nat) : Nat := wdT N (i + 1) i
theorem shp_below {N : List T_api_Node} (h : Wf N) {i : Nat} (hi : i < N.length) : (∀ l, shp N (ndA N i) = .neg l → l < i) ∧ (∀ s l a r b, shp N (ndA N i) = .two s l a r b → l < i ∧ r < i) := by
  have h2 := h.two i hi
  unfold shp
  cases h3 : (ndA N i).f_Kind == 3 with
  | true =>
    have := h2 (.inl (by simpa using h3))
    refine ⟨fun l e => (by cases e), fun s l a r b e => ?_⟩
    rw [cond_true] at e
    injection e with _ e1 _ e2 _
    omega
  | false =>
  rw [cond_false]
  cases h4 : (ndA N i).f_Kind == 4 with
  | true =>
    have := h2 (.inr (.inl (by simpa using h4)))
    refine ⟨fun l e => (by cases e), fun s l a r b e => ?_⟩
    rw [cond_true] at e
    injection e with _ e1 _ e2 _
    omega
  | false =>
  rw [cond_false]
  cases h5 : (ndA N i).f_Kind == 5 with
  | true =>
    have := h2 (.inr (.inr (by simpa using h5)))
    rw [cond_true]
    cases botA N (ndA N i).f_R.toNat with
    | true =>
      cases botA N (ndA N i).f_L.toNat with
      | true => exact ⟨fun l e => (by cases e), fun s l a r b e => (by cases e)⟩
      | false =>
        refine ⟨fun l e => ?_, fun s l a r b e => (by cases e)⟩
        rw [cond_true, cond_false] at e
        injection e with e
        omega
    | false =>
      refine ⟨fun l e => (by cases e), fun s l a r b e => ?_⟩
      rw [cond_false] at e
      injection e with _ e1 _ e2 _
      omega
  | false =>
  rw [cond_false]
  cases (ndA N i).f_Kind == 2 <;> exact ⟨fun l e => (by cases e), fun s l a r b e => (by cases e)⟩
theorem bdT_fuel {N : List T_api_Node} (h : Wf N) : ∀ (n m i : Nat), i < n → i < m → i < N.length → bdT N n i = bdT N m i := by
  intro n
  induction n with
  | zero => intro m i h1; omega
  | succ n ih =>
    intro m i h1 h2 h3
    obtain ⟨m, rfl⟩ : ∃ q, m = q + 1 := ⟨m - 1, by omega⟩
    obtain ⟨b1, b2⟩ := shp_below h h3
    unfold bdT
    cases hs : shp N (ndA N i) with
    | lit s => rfl
    | neg l =>
      have := b1 l hs
      simp only
      rw [ih m l (by omega) (by omega) (by omega)]
    | two s l a r b =>
      have := b2 s l a r b hs
      simp only
      rw [ih m l (by omega) (by omega) (by omega), ih m r (by omega) (by omega) (by omega)]
theorem wdT_fuel {N : List T_api_Node} (h : Wf N) : ∀ (n m i : Nat), i < n → i < m → i < N.length → wdT N n i = wdT N m i := by
  intro n
  induction n with
  | zero => intro m i h1; omega
  | succ n ih =>
    intro m i h1 h2 h3
    obtain ⟨m, rfl⟩ : ∃ q, m = q + 1 := ⟨m - 1, by omega⟩
    obtain ⟨b1, b2⟩ := shp_below h h3
    unfold wdT
    cases hs : shp N (ndA N i) with
    | lit s => rfl
    | neg l =>
      have := b1 l hs
      simp only
      rw [ih m l (by omega) (by omega) (by omega)]
    | two s l a r b =>
      have := b2 s l a r b hs
      simp only
      rw [ih m l (by omega) (by omega) (by omega), ih m r (by omega) (by omega) (by omega)]
def pt (N : List T_api_Node) (i : Nat) (a : Int) : List UInt8 := ptT N (bd N i) i a
theorem bd_eq {N : List T_api_Node} (h : Wf N) {i : Nat} (hi : i < N.length) : bd N i = match shp N (ndA N i) with
    | .lit s => s
    | .neg l => 126 :: pt N l 3
    | .two s l a r b => pt N l a ++ (s ++ pt N r b) := by
  obtain ⟨b1, b2⟩ := shp_below h hi
  unfold bd bdT pt bd
  cases hs : shp N (ndA N i) with
  | lit s => rfl
  | neg l =>
    have := b1 l hs
    simp only
    rw [bdT_fuel h i (l + 1) l (by omega) (by omega) (by omega)]
  | two s l a r b =>
    have := b2 s l a r b hs
    simp only
    rw [bdT_fuel h i (l + 1) l (by omega) (by omega) (by omega), bdT_fuel h i (r + 1) r (by omega) (by omega) (by omega)]
theorem wd_eq {N : List T_api_Node} (h : Wf N) {i : Nat} (hi : i < N.length) : wd N i = min 65537 (match shp N (ndA N i) with
    | .lit s => s.length
    | .neg l => 1 + (wd N l + rdT N l 3)
    | .two s l a r b => s.length + (wd N l + rdT N l a) + (wd N r + rdT N r b)) := by
  obtain ⟨b1, b2⟩ := shp_below h hi
  show wdT N (i + 1) i = _
  unfold wdT wd
  cases hs : shp N (ndA N i) with
  | lit s => rfl
  | neg l =>
    have := b1 l hs
    simp only
    rw [wdT_fuel h i (l + 1) l (by omega) (by omega) (by omega)]
  | two s l a r b =>
    have := b2 s l a r b hs
    simp only
    rw [wdT_fuel h i (l + 1) l (by omega) (by omega) (by omega), wdT_fuel h i (r + 1) r (by omega) (by omega) (by omega)]
theorem wd_le {N : List T_api_Node} (i : Nat) : wd N i ≤ 65537 := by
  unfold wd wdT
  exact Nat.min_le_left _ _
theorem rd_le (N : List T_api_Node) (i : Nat) (a : Int) : rdT N i a ≤ 2 := by
  unfold rdT
  cases decide (lvA N i < a)
  · exact Nat.zero_le _
  · exact Nat.le_refl _
theorem pt_len (N : List T_api_Node) (i : Nat) (a : Int) : (pt N i a).length = (bd N i).length + rdT N i a := by
  unfold pt ptT rdT
  cases decide (lvA N i < a) with
  | true => simp
  | false => rfl
/-- If a text is not too wide, it is as wide as it is said to be; so are its parts. -/
theorem bd_len {N : List T_api_Node} (h : Wf N) : ∀ (n i : Nat), i < n → i < N.length → wd N i ≤ 65536 → (bd N i).length = wd N i := by
  intro n
  induction n with
  | zero => intro i h1; omega
  | succ n ih =>
    intro i h1 h2 h3
    obtain ⟨b1, b2⟩ := shp_below h h2
    rw [wd_eq h h2] at h3 ⊢
    rw [bd_eq h h2]
    cases hs : shp N (ndA N i) with
    | lit s => rw [hs] at h3; simp only at h3 ⊢; omega
    | neg l =>
      have := b1 l hs
      rw [hs] at h3
      simp only at h3 ⊢
      rw [List.length_cons, pt_len, ih l (by omega) (by omega) (by omega)]
      omega
    | two s l a r b =>
      have := b2 s l a r b hs
      rw [hs] at h3
      simp only at h3 ⊢
      rw [List.length_append, List.length_append, pt_len, pt_len, ih l (by omega) (by omega) (by omega), ih r (by omega) (by omega) (by omega)]
      omega
theorem wd_parts {N : List T_api_Node} (h : Wf N) {i : Nat} (hi : i < N.length) (hw : wd N i ≤ 65536) : (∀ l, shp N (ndA N i) = .neg l → wd N l ≤ 65536) ∧ (∀ s l a r b, shp N (ndA N i) = .two s l a r b → wd N l ≤ 65536 ∧ wd N r ≤ 65536) := by
  rw [wd_eq h hi] at hw
  refine ⟨fun l e => ?_, fun s l a r b e => ?_⟩
  · rw [e] at hw; simp only at hw; omega
  · rw [e] at hw; simp only at hw; omega
/-! The program -/
theorem ndA_get {N : List T_api_Node} {i : Nat} (h : i < N.length) : N[i]? = some (ndA N i) := by
  unfold ndA
  rw [List.getElem?_eq_getElem h, List.getD_eq_getElem?_getD, List.getElem?_eq_getElem h]
  rfl
theorem node_f' (N : List T_api_Node) (m : MapN) (i : Nat) (h : i < N.length) : formula_Table_Node.f ⟨N⟩ (i : Int) m = some (ndA N i, true) := by
  unfold formula_Table_Node.f
  rw [show formula_Table_alive.f ⟨N⟩ m = some true from rfl, bind_some', has_f, bind_some', show hasN N (i : Int) = true from by unfold hasN; rw [decide_eq_true (by omega : (0 : Int) ≤ (i : Int)), decide_eq_true (by omega : (i : Int) < (N.length : Int))]; rfl]
  show ((ix N (i : Int)).bind _) = _
  rw [ix_nat, ndA_get h]
  rfl
theorem node_no (N : List T_api_Node) (m : MapN) (i : Int) (h : hasN N i = false) : formula_Table_Node.f ⟨N⟩ i m = some (node0, false) := by
  unfold formula_Table_Node.f
  rw [show formula_Table_alive.f ⟨N⟩ m = some true from rfl, bind_some', has_f, bind_some', h]
  rfl
theorem bot_f (N : List T_api_Node) (m : MapN) (i : Nat) (h : i < N.length) : syntax_bot.f ⟨N⟩ (i : Int) m = some (botA N i) := by
  unfold syntax_bot.f
  rw [node_f' N m i h]
  rfl
def partsOf : Sh → List UInt8 × List Int × List Int
  | .lit s => (s, [], [])
  | .neg l => ([126], [(l : Int)], [3])
  | .two s l a r b => (s, [(l : Int), (r : Int)], [a, b])
theorem pieces_f {N : List T_api_Node} (h : Wf N) (m : MapN) {i : Nat} (hi : i < N.length) : syntax_pieces.f ⟨N⟩ (ndA N i) m = some (partsOf (shp N (ndA N i))) := by
  have h2 := h.two i hi
  unfold syntax_pieces.f shp
  cases h3 : (ndA N i).f_Kind == 3 with
  | true =>
    have := h2 (.inl (by simpa using h3))
    rw [cond_true, cond_true]
    show some (_, [(ndA N i).f_L, (ndA N i).f_R], _) = some (_, [(((ndA N i).f_L.toNat : Nat) : Int), (((ndA N i).f_R.toNat : Nat) : Int)], _)
    rw [Int.toNat_of_nonneg this.1, Int.toNat_of_nonneg this.2.2.1]
  | false =>
  rw [cond_false, cond_false]
  cases h4 : (ndA N i).f_Kind == 4 with
  | true =>
    have := h2 (.inr (.inl (by simpa using h4)))
    rw [cond_true, cond_true]
    show some (_, [(ndA N i).f_L, (ndA N i).f_R], _) = some (_, [(((ndA N i).f_L.toNat : Nat) : Int), (((ndA N i).f_R.toNat : Nat) : Int)], _)
    rw [Int.toNat_of_nonneg this.1, Int.toNat_of_nonneg this.2.2.1]
  | false =>
  rw [cond_false, cond_false]
  cases h5 : (ndA N i).f_Kind == 5 with
  | true =>
    have := h2 (.inr (.inr (by simpa using h5)))
    rw [cond_true, cond_true]
    have eL : (ndA N i).f_L = (((ndA N i).f_L.toNat : Nat) : Int) := (Int.toNat_of_nonneg this.1).symm
    have eR : (ndA N i).f_R = (((ndA N i).f_R.toNat : Nat) : Int) := (Int.toNat_of_nonneg this.2.2.1).symm
    have fL := bot_f N m (ndA N i).f_L.toNat (by omega)
    have fR := bot_f N m (ndA N i).f_R.toNat (by omega)
    rw [← eL] at fL
    rw [← eR] at fR
    rw [fL, fR]
    simp only [bind_some']
    cases botA N (ndA N i).f_R.toNat <;> cases botA N (ndA N i).f_L.toNat
    · show some (_, [(ndA N i).f_L, (ndA N i).f_R], _) = some (_, [(((ndA N i).f_L.toNat : Nat) : Int), (((ndA N i).f_R.toNat : Nat) : Int)], _)
      rw [← eL, ← eR]
    · show some (_, [(ndA N i).f_L, (ndA N i).f_R], _) = some (_, [(((ndA N i).f_L.toNat : Nat) : Int), (((ndA N i).f_R.toNat : Nat) : Int)], _)
      rw [← eL, ← eR]
    · show some (_, [(ndA N i).f_L], _) = some (_, [(((ndA N i).f_L.toNat : Nat) : Int)], _)
      rw [← eL]
    · rfl
  | false =>
  rw [cond_false, cond_false]
  cases h2 : (ndA N i).f_Kind == 2 <;> rfl
theorem level_f {N : List T_api_Node} (h : Wf N) (m : MapN) {i : Nat} (hi : i < N.length) : syntax_level.f ⟨N⟩ (i : Int) m = some (lvA N i) := by
  have h2 := h.two i hi
  unfold syntax_level.f lvA
  rw [node_f' N m i hi, bind_some']
  simp only
  cases h3 : (ndA N i).f_Kind == 3 with
  | true => rfl
  | false =>
  rw [cond_false, cond_false]
  cases h4 : (ndA N i).f_Kind == 4 with
  | true => rfl
  | false =>
  rw [cond_false, cond_false]
  cases h5 : (ndA N i).f_Kind == 5 with
  | true =>
    have := h2 (.inr (.inr (by simpa using h5)))
    have fR := bot_f N m (ndA N i).f_R.toNat (by omega)
    rw [Int.toNat_of_nonneg this.2.2.1] at fR
    rw [cond_true, cond_true, fR, bind_some']
    cases botA N (ndA N i).f_R.toNat <;> rfl
  | false => rfl
/-! How wide -/
abbrev eqI : Int → Int → Bool := fun a_ b_ => a_ == b_
theorem eqI_iff (a b : Int) : eqI a b = true ↔ a = b := beq_iff_eq
def Memo (N : List T_api_Node) (M : List (Int × Int)) : Prop := ∀ id v, mget eqI M id = some v → ∃ i : Nat, id = (i : Int) ∧ i < N.length ∧ v = (wd N i : Int)
theorem Memo.put {N : List T_api_Node} {M : List (Int × Int)} (h : Memo N M) {i : Nat} (hi : i < N.length) : Memo N (mput eqI M (i : Int) (wd N i : Int)) := by
  intro id v hv
  rw [mget_mput eqI_iff] at hv
  cases hc : eqI id (i : Int) with
  | true =>
    rw [hc, cond_true] at hv
    exact ⟨i, (eqI_iff _ _).1 hc, hi, (Option.some.inj hv).symm⟩
  | false =>
    rw [hc, cond_false] at hv
    exact h id v hv
end Go.Proofs.YtpmkkhkphddfeaaGreatDoor.X
set_option linter.unusedVariables false
set_option linter.unusedSimpArgs false
namespace Go.Proofs.YtpmkkhkphddfeaaGreatDoor.X
open Go Go.RowKit Go.Proofs.YtpmkkhkphddfeaaGreatDoor.SX
theorem wadd (w x : Nat) (hw : w ≤ 1000000) (hx : x ≤ 65537) : wrap64 ((w : Int) + (x : Int)) = ((w + x : Nat) : Int) ∧ wrap64 (((w + x : Nat) : Int) + 2) = ((w + (x + 2) : Nat) : Int) := by
  refine ⟨?_, ?_⟩
  · rw [w64 (by omega) (by omega), Int.natCast_add]
  · rw [w64 (by omega) (by omega), ← Nat.add_assoc, Int.natCast_add (w + x) 2]
    rfl
theorem width_f {N : List T_api_Node} (h : Wf N) (m : MapN) : ∀ (n i : Nat) (M : List (Int × Int)), i < n → i < N.length → Memo N M → ∀ k j, 4 ≤ k → n ≤ j → ∃ M', (G_syntax_width.rec_ k j).syntax_width ⟨N⟩ (i : Int) M m = some ((wd N i : Int), M') ∧ Memo N M' := by
  intro n
  induction n with
  | zero => intro i M h1; omega
  | succ n ih =>
    intro i M h1 h2 hM k j hk hj
    obtain ⟨j, rfl⟩ : ∃ q, j = q + 1 := ⟨j - 1, by omega⟩
    obtain ⟨k, rfl⟩ : ∃ q, k = q + 3 := ⟨k - 3, by omega⟩
    show ∃ M', syntax_width.F (k + 3) (G_syntax_width.rec_ (k + 3) j) ⟨N⟩ (i : Int) M m = _ ∧ _
    unfold syntax_width.F
    cases hg : mget eqI M (i : Int) with
    | some v =>
      obtain ⟨q, e1, e2, e3⟩ := hM _ _ hg
      obtain rfl : i = q := by omega
      refine ⟨M, ?_, hM⟩
      show some (v, M) = _
      rw [e3]
    | none =>
      show ∃ M', (formula_Table_Node.f ⟨N⟩ (i : Int) m).bind _ = _ ∧ _
      rw [node_f' N m i h2, bind_some', show syntax_pieces.f ⟨N⟩ (ndA N i, true).1 m = _ from pieces_f h m h2, bind_some']
      obtain ⟨b1, b2⟩ := shp_below h h2
      have hname := h.name i h2
      have fin : ∀ (w : Nat) (M1 : List (Int × Int)), min 65537 w = wd N i → Memo N M1 → ∃ M', some (((mget eqI (mput eqI M1 (i : Int) (if (65537 : Int) < (w : Int) then 65537 else (w : Int))) (i : Int)).getD (0 : Int)), mput eqI M1 (i : Int) (if (65537 : Int) < (w : Int) then 65537 else (w : Int))) = some ((wd N i : Int), M') ∧ Memo N M' := by
        intro w M1 e1 e2
        have e3 : (if (65537 : Int) < (w : Int) then (65537 : Int) else (w : Int)) = (wd N i : Int) := by split <;> omega
        rw [e3, mget_mput eqI_iff, show eqI (i : Int) (i : Int) = true from beq_self_eq_true _]
        exact ⟨_, rfl, e2.put h2⟩
      have one : ∀ (p : List UInt8 × List Int × List Int) (q : Nat) (w : Nat) (l : Nat) (a : Int) (M1 : List (Int × Int)) (kk : Nat), p.2.1[q]? = some (l : Int) → p.2.2[q]? = some a → q < p.2.1.length → q ≤ 2 → l < i → Memo N M1 → w ≤ 1000000 → ∃ M2, syntax_width.l1 (k + 3) ⟨N⟩ m (G_syntax_width.rec_ (k + 3) j) p (kk + 1) (w : Int) (q : Int) M1 = syntax_width.l1 (k + 3) ⟨N⟩ m (G_syntax_width.rec_ (k + 3) j) p kk ((w + (wd N l + rdT N l a) : Nat) : Int) ((q + 1 : Nat) : Int) M2 ∧ Memo N M2 := by
        intro p q w l a M1 kk g1 g2 g3 g4 g5 g6 g7
        obtain ⟨M2, e1, e2⟩ := ih l M1 (by omega) (by omega) g6 (k + 3) j (by omega) (by omega)
        have hl := wd_le (N := N) l
        refine ⟨M2, ?_, e2⟩
        rw [syntax_width.l1.eq_2, decide_eq_true (by omega : (q : Int) < (p.2.1.length : Int)), cond_true, ix_nat, g1, bind_some', e1, bind_some', ix_nat, g2, bind_some', level_f h m (by omega), bind_some']
        simp only
        obtain ⟨hw, h2'⟩ := wadd w (wd N l) g7 hl
        rw [hw]
        unfold rdT
        cases decide (lvA N l < a) with
        | true =>
          rw [cond_true, cond_true, bind_some', wsucc q (by omega)]
          simp only [Nat.add_zero]
          rw [h2']
        | false =>
          rw [cond_false, cond_false, bind_some', wsucc q (by omega)]
          simp only [Nat.add_zero]
      have stop : ∀ (p : List UInt8 × List Int × List Int) (q : Nat) (w : Int) (M1 : List (Int × Int)) (kk : Nat), p.2.1.length = q → syntax_width.l1 (k + 3) ⟨N⟩ m (G_syntax_width.rec_ (k + 3) j) p (kk + 1) w (q : Int) M1 = some (w, M1) := by
        intro p q w M1 kk g1
        rw [syntax_width.l1.eq_2, decide_eq_false (by omega : ¬ (q : Int) < (p.2.1.length : Int))]
        rfl
      have hwd := wd_eq h h2
      cases hs : shp N (ndA N i) with
      | lit s =>
        rw [hs] at hwd
        simp only at hwd
        show ∃ M', (syntax_width.l1 (k + 3) ⟨N⟩ m (G_syntax_width.rec_ (k + 3) j) (s, [], []) (k + 2 + 1) (s.length : Int) ((0 : Nat) : Int) M).bind _ = _ ∧ _
        rw [stop (s, [], []) 0 _ M (k + 2) rfl, bind_some']
        exact fin s.length M hwd.symm hM
      | neg l =>
        have hl := b1 l hs
        rw [hs] at hwd
        simp only at hwd
        obtain ⟨M2, e1, e2⟩ := one ([126], [(l : Int)], [3]) 0 1 l 3 M (k + 2) rfl rfl (by show 0 < 1; omega) (by omega) hl hM (by omega)
        show ∃ M', (syntax_width.l1 (k + 3) ⟨N⟩ m (G_syntax_width.rec_ (k + 3) j) ([126], [(l : Int)], [3]) (k + 2 + 1) ((1 : Nat) : Int) ((0 : Nat) : Int) M).bind _ = _ ∧ _
        rw [e1, stop ([126], [(l : Int)], [3]) (0 + 1) _ M2 (k + 1) rfl, bind_some']
        exact fin _ M2 hwd.symm e2
      | two s l a r b =>
        have hl := b2 s l a r b hs
        rw [hs] at hwd
        simp only at hwd
        have hsl : s.length ≤ 4 := by
          unfold shp at hs
          revert hs
          cases (ndA N i).f_Kind == 3 <;> cases (ndA N i).f_Kind == 4 <;> cases (ndA N i).f_Kind == 5 <;> cases botA N (ndA N i).f_R.toNat <;> cases botA N (ndA N i).f_L.toNat <;> cases (ndA N i).f_Kind == 2 <;> intro hs <;> first | (injection hs with e1; rw [← e1]; decide) | cases hs
        have hwl := wd_le (N := N) l
        have hrl := rd_le N l a
        obtain ⟨M2, e1, e2⟩ := one (s, [(l : Int), (r : Int)], [a, b]) 0 s.length l a M (k + 2) rfl rfl (by show 0 < 2; omega) (by omega) hl.1 hM (by omega)
        obtain ⟨M3, e3, e4⟩ := one (s, [(l : Int), (r : Int)], [a, b]) 1 (s.length + (wd N l + rdT N l a)) r b M2 (k + 1) rfl rfl (by show 1 < 2; omega) (by omega) hl.2 e2 (by omega)
        show ∃ M', (syntax_width.l1 (k + 3) ⟨N⟩ m (G_syntax_width.rec_ (k + 3) j) (s, [(l : Int), (r : Int)], [a, b]) (k + 2 + 1) (s.length : Int) ((0 : Nat) : Int) M).bind _ = _ ∧ _
        rw [e1, e3, stop (s, [(l : Int), (r : Int)], [a, b]) (1 + 1) _ M3 k rfl, bind_some']
        exact fin _ M3 hwd.symm e4
end Go.Proofs.YtpmkkhkphddfeaaGreatDoor.X
set_option linter.unusedVariables false
set_option linter.unusedSimpArgs false
namespace Go.Proofs.YtpmkkhkphddfeaaGreatDoor.X
open Go Go.RowKit Go.Proofs.YtpmkkhkphddfeaaGreatDoor.SX
theorem wbyte_f (b : List UInt8) (c : UInt8) (h : b.length ≤ 100000000) : Builder_WriteByte.f b c = some (b ++ [c]) := by
  unfold Builder_WriteByte.f
  rw [chk_of (decide_eq_true (by rw [List.length_singleton]; omega))]
  rfl
theorem wstr_f (b s : List UInt8) (h : b.length + s.length ≤ 100000000) : Builder_WriteString.f b s = some ((s.length : Int), b ++ s) := by
  unfold Builder_WriteString.f
  rw [chk_of (decide_eq_true (by omega))]
  rfl
theorem w01 : wrap64 ((0 : Int) + 1) = ((1 : Nat) : Int) := by rw [w64 (by omega) (by omega)]; rfl
theorem w12 : wrap64 (((1 : Nat) : Int) + 1) = ((2 : Nat) : Int) := by rw [w64 (by omega) (by omega)]; rfl
theorem write_f {N : List T_api_Node} (h : Wf N) (m : MapN) : ∀ (n i : Nat) (b : List UInt8) (a : Int), i < n → i < N.length → b.length + (pt N i a).length ≤ 10000000 → ∀ k j, 4 ≤ k → n ≤ j → (G_syntax_write.rec_ k j).syntax_write b ⟨N⟩ (i : Int) a m = some (b ++ pt N i a) := by
  intro n
  induction n with
  | zero => intro i b a h1; omega
  | succ n ih =>
    intro i b a h1 h2 hb k j hk hj
    obtain ⟨j, rfl⟩ : ∃ q, j = q + 1 := ⟨j - 1, by omega⟩
    obtain ⟨k, rfl⟩ : ∃ q, k = q + 3 := ⟨k - 3, by omega⟩
    show syntax_write.F (k + 3) (G_syntax_write.rec_ (k + 3) j) b ⟨N⟩ (i : Int) a m = _
    unfold syntax_write.F
    rw [node_f' N m i h2, bind_some', show syntax_pieces.f ⟨N⟩ (ndA N i, true).1 m = _ from pieces_f h m h2, bind_some', level_f h m h2, bind_some']
    obtain ⟨b1, b2⟩ := shp_below h h2
    -- what stands between the parentheses
    have key : ∀ c : List UInt8, c.length + (bd N i).length ≤ 10000000 → ((bif (((partsOf (shp N (ndA N i))).2.1.length : Int) != 2) then (Builder_WriteString.f c (partsOf (shp N (ndA N i))).1).bind fun z203 => some z203.2 else some c : Option (List UInt8)).bind fun z132 => syntax_write.l1 (k + 3) ⟨N⟩ m (G_syntax_write.rec_ (k + 3) j) (partsOf (shp N (ndA N i))) (k + 3) 0 z132) = some (c ++ bd N i) := by
      intro c hc
      rw [bd_eq h h2] at hc ⊢
      have stop : ∀ (p : List UInt8 × List Int × List Int) (q : Nat) (w : List UInt8) (kk : Nat), p.2.1.length = q → syntax_write.l1 (k + 3) ⟨N⟩ m (G_syntax_write.rec_ (k + 3) j) p (kk + 1) (q : Int) w = some w := by
        intro p q w kk g1
        rw [syntax_write.l1.eq_2, decide_eq_false (by omega : ¬ (q : Int) < (p.2.1.length : Int))]
        rfl
      cases hs : shp N (ndA N i) with
      | lit s =>
        rw [hs] at hc
        simp only at hc
        show ((Builder_WriteString.f c s).bind _).bind _ = _
        rw [wstr_f c s (by omega)]
        exact stop (s, [], []) 0 _ (k + 2) rfl
      | neg l =>
        have hl := b1 l hs
        rw [hs] at hc
        simp only [List.length_cons] at hc
        show ((Builder_WriteString.f c [126]).bind _).bind _ = _
        rw [wstr_f c [126] (by rw [List.length_singleton]; omega), bind_some', bind_some']
        show syntax_write.l1 (k + 3) ⟨N⟩ m (G_syntax_write.rec_ (k + 3) j) ([126], [(l : Int)], [3]) (k + 2 + 1) 0 (c ++ [126]) = _
        rw [syntax_write.l1.eq_2, w01]
        show (((G_syntax_write.rec_ (k + 3) j).syntax_write (c ++ [126]) ⟨N⟩ (l : Int) 3 m).bind fun z177 => syntax_write.l1 (k + 3) ⟨N⟩ m (G_syntax_write.rec_ (k + 3) j) ([126], [(l : Int)], [3]) (k + 1 + 1) ((1 : Nat) : Int) z177) = _
        rw [ih l (c ++ [126]) 3 (by omega) (by omega) (by rw [List.length_append, List.length_singleton]; omega) (k + 3) j (by omega) (by omega), bind_some', stop ([126], [(l : Int)], [3]) 1 _ (k + 1) rfl]
        simp
      | two s l a r b' =>
        have hl := b2 s l a r b' hs
        rw [hs] at hc
        simp only [List.length_append] at hc
        show syntax_write.l1 (k + 3) ⟨N⟩ m (G_syntax_write.rec_ (k + 3) j) (s, [(l : Int), (r : Int)], [a, b']) (k + 2 + 1) 0 c = _
        rw [syntax_write.l1.eq_2, w01]
        show (((G_syntax_write.rec_ (k + 3) j).syntax_write c ⟨N⟩ (l : Int) a m).bind fun z177 => syntax_write.l1 (k + 3) ⟨N⟩ m (G_syntax_write.rec_ (k + 3) j) (s, [(l : Int), (r : Int)], [a, b']) (k + 1 + 1) ((1 : Nat) : Int) z177) = _
        rw [ih l c a (by omega) (by omega) (by omega) (k + 3) j (by omega) (by omega), bind_some', syntax_write.l1.eq_2, w12]
        show (((Builder_WriteString.f (c ++ pt N l a) s).bind _).bind _) = _
        rw [wstr_f _ s (by rw [List.length_append]; omega), bind_some', bind_some']
        show (((G_syntax_write.rec_ (k + 3) j).syntax_write (c ++ pt N l a ++ s) ⟨N⟩ (r : Int) b' m).bind fun z177 => syntax_write.l1 (k + 3) ⟨N⟩ m (G_syntax_write.rec_ (k + 3) j) (s, [(l : Int), (r : Int)], [a, b']) (k + 1) ((2 : Nat) : Int) z177) = _
        rw [ih r _ b' (by omega) (by omega) (by rw [List.length_append, List.length_append]; omega) (k + 3) j (by omega) (by omega), bind_some', stop (s, [(l : Int), (r : Int)], [a, b']) 2 _ k rfl]
        simp
    have hpl := pt_len N i a
    cases hc : decide (lvA N i < a) with
    | true =>
      have e1 : pt N i a = 40 :: (bd N i ++ [41]) := by unfold pt ptT; rw [hc]; rfl
      rw [e1] at hb ⊢
      simp only [List.length_cons, List.length_append, List.length_nil] at hb
      rw [cond_true, wbyte_f b 40 (by omega), bind_some', bind_some']
      have := key (b ++ [40]) (by rw [List.length_append, List.length_singleton]; omega)
      rw [← Option.bind_assoc, this, bind_some', cond_true, wbyte_f _ 41 (by simp only [List.length_append, List.length_singleton]; omega)]
      simp
    | false =>
      have e1 : pt N i a = bd N i := by unfold pt ptT; rw [hc]; rfl
      rw [e1] at hb ⊢
      rw [cond_false, bind_some']
      have := key b (by omega)
      rw [← Option.bind_assoc, this]
      rfl
/-- What is written; 31: no such formula; 11: too long a text. -/
def printP (N : List T_api_Node) (i : Int) : List UInt8 × Int := bif hasN N i then (bif decide (65536 < wd N i.toNat) then ([], 11) else (bd N i.toNat, 0)) else ([], 31)
theorem print_f (k : Nat) {N : List T_api_Node} (h : Wf N) (m : MapN) (hT : Tab N m) (i : Int) (hk : 1100 ≤ k) : syntax_Print.f k ⟨N⟩ i m = some (printP N i) := by
  unfold syntax_Print.f printP
  have hr := hT.room
  rw [known_f k N m hT (by omega), bind_some', show (!true) = false from rfl, cond_false]
  cases hh : hasN N i with
  | false => rw [node_no N m i hh]; rfl
  | true =>
    have h2 : 0 ≤ i ∧ i < (N.length : Int) := by unfold hasN at hh; rw [Bool.and_eq_true, decide_eq_true_eq, decide_eq_true_eq] at hh; exact hh
    obtain ⟨q, rfl⟩ : ∃ q : Nat, i = (q : Int) := ⟨i.toNat, by omega⟩
    have hq : q < N.length := by omega
    rw [node_f' N m q hq, bind_some', show (!((ndA N q, true) : T_api_Node × Bool).2) = false from rfl, cond_false, cond_true, Int.toNat_natCast]
    obtain ⟨M', e1, _⟩ := width_f h m (q + 1) q [] (by omega) hq (fun id v hv => by cases hv) k k (by omega) (by omega)
    rw [show syntax_width.f k ⟨N⟩ (q : Int) ([] : List (Int × Int)) m = _ from e1, bind_some']
    have hd : decide ((wd N q : Int) > 65536) = decide (65536 < wd N q) := by rw [decide_eq_decide]; omega
    show (bif decide ((wd N q : Int) > 65536) then _ else _) = _
    rw [hd]
    by_cases hw : 65536 < wd N q
    · rw [decide_eq_true hw]; rfl
    · rw [decide_eq_false hw, cond_false, cond_false]
      have hlen := bd_len h (q + 1) q (by omega) hq (by omega)
      have hlv : decide (lvA N q < 0) = false := by
        unfold lvA
        cases (ndA N q).f_Kind == 3 <;> cases (ndA N q).f_Kind == 4 <;> cases (ndA N q).f_Kind == 5 <;> cases botA N (ndA N q).f_R.toNat <;> rfl
      have hpt : pt N q 0 = bd N q := by unfold pt ptT; rw [hlv]; rfl
      rw [show syntax_write.f k ([] : List UInt8) ⟨N⟩ (q : Int) 0 m = _ from write_f h m (q + 1) q [] 0 (by omega) hq (by rw [hpt, hlen, List.length_nil]; omega) k k (by omega) (by omega), bind_some', hpt, List.nil_append]
      unfold Builder_String.f
      rw [chk_of (decide_eq_true (by omega))]
      rfl
end Go.Proofs.YtpmkkhkphddfeaaGreatDoor.X
set_option linter.unusedVariables false
set_option linter.unusedSimpArgs false
namespace Go.Proofs.YtpmkkhkphddfeaaGreatDoor.X
open Go Go.RowKit Go.Proofs.YtpmkkhkphddfeaaGreatDoor.SX
theorem fit_facts {N : List T_api_Node} {x : T_api_Node} (h : fitN N x = 0) : (x.f_Kind = 1 ∨ x.f_Kind = 2 ∨ x.f_Kind = 3 ∨ x.f_Kind = 4 ∨ x.f_Kind = 5) ∧ x.f_Name.length ≤ 31 ∧ (x.f_Kind = 3 ∨ x.f_Kind = 4 ∨ x.f_Kind = 5 → hasN N x.f_L = true ∧ hasN N x.f_R = true) := by
  unfold fitN at h
  cases h1 : x.f_Kind == 1 with
  | true =>
    have e : x.f_Kind = 1 := by simpa using h1
    rw [h1, cond_true] at h
    cases h2 : (x.f_L != 0 || x.f_R != 0) with
    | true => rw [h2, cond_true] at h; exact absurd h (by decide)
    | false =>
      rw [h2, cond_false] at h
      cases h3 : wordB x.f_Name with
      | true =>
        unfold wordB at h3
        rw [Bool.and_eq_true, Bool.and_eq_true, Bool.and_eq_true, decide_eq_true_eq] at h3
        exact ⟨.inl e, h3.2.2.1, fun h => by rw [e] at h; rcases h with h | h | h <;> exact absurd h (by decide)⟩
      | false => rw [h3, cond_false] at h; exact absurd h (by decide)
  | false =>
  rw [h1, cond_false] at h
  cases h2 : x.f_Kind == 2 with
  | true =>
    have e : x.f_Kind = 2 := by simpa using h2
    rw [h2, cond_true] at h
    cases h3 : x.f_Name == [] with
    | true =>
      have e3 : x.f_Name = [] := by simpa using h3
      exact ⟨.inr (.inl e), (by rw [e3]; exact Nat.zero_le _), fun h => by rw [e] at h; rcases h with h | h | h <;> exact absurd h (by decide)⟩
    | false => rw [h3] at h; exact absurd h (by show ¬ (31 : Int) = 0; decide)
  | false =>
  rw [h2, cond_false] at h
  cases h3 : x.f_Kind == 3 || (x.f_Kind == 4 || x.f_Kind == 5) with
  | false => rw [h3, cond_false] at h; exact absurd h (by decide)
  | true =>
    rw [h3, cond_true] at h
    rw [Bool.or_eq_true, Bool.or_eq_true, beq_iff_eq, beq_iff_eq, beq_iff_eq] at h3
    cases h4 : x.f_Name == [] with
    | false => rw [h4] at h; exact absurd h (by show ¬ (31 : Int) = 0; decide)
    | true =>
      have e3 : x.f_Name = [] := by simpa using h4
      rw [h4] at h
      refine ⟨.inr (.inr h3), (by rw [e3]; exact Nat.zero_le _), fun _ => ?_⟩
      cases h5 : hasN N x.f_L <;> cases h6 : hasN N x.f_R <;> rw [h5, h6] at h
      · exact absurd h (by show ¬ (31 : Int) = 0; decide)
      · exact absurd h (by show ¬ (31 : Int) = 0; decide)
      · exact absurd h (by show ¬ (31 : Int) = 0; decide)
      · exact ⟨rfl, rfl⟩
theorem good_fit : ∀ (a N : List T_api_Node), good N a = true → ∀ i (h : i < a.length), fitN (N ++ a.take i) a[i] = 0
  | [], N, _, i, h => absurd h (Nat.not_lt_zero _)
  | x :: r, N, hg, 0, h => by
    have := (good_cons.1 hg).1.1
    rw [List.take_zero, List.append_nil]
    exact this
  | x :: r, N, hg, i + 1, h => by
    have := good_fit r (N ++ [x]) (good_cons.1 hg).2 i (by simpa using h)
    rw [List.append_assoc] at this
    exact this
theorem hasN_take {a : List T_api_Node} {i : Nat} {v : Int} (hi : i < a.length) (h : hasN (a.take i) v = true) : 0 ≤ v ∧ v < (i : Int) := by
  unfold hasN at h
  rw [Bool.and_eq_true, decide_eq_true_eq, decide_eq_true_eq, List.length_take] at h
  omega
theorem good_wf {a : List T_api_Node} (h : good [] a = true) : Wf a := by
  have key : ∀ i, i < a.length → fitN (a.take i) (ndA a i) = 0 := fun i hi => by
    have h1 := good_fit a [] h i hi
    have h2 := ndA_get hi
    rw [List.getElem?_eq_getElem hi] at h2
    rw [← Option.some.inj h2]
    exact h1
  refine ⟨fun i hi hk => ?_, fun i hi => (fit_facts (key i hi)).2.1, fun i hi => (fit_facts (key i hi)).1⟩
  have := (fit_facts (key i hi)).2.2 hk
  have h1 := hasN_take hi this.1
  have h2 := hasN_take hi this.2
  exact ⟨h1.1, h1.2, h2.1, h2.2⟩
theorem rows_wf (a : List T_api_Node) : Wf (rowsOf a) := by
  unfold rowsOf
  cases h : good [] a with
  | true => exact good_wf h
  | false => exact ⟨fun i hi => absurd hi (Nat.not_lt_zero _), fun i hi => absurd hi (Nat.not_lt_zero _), fun i hi => absurd hi (Nat.not_lt_zero _)⟩
/-! The document's measure of a formula -/
def lvR (N : List T_api_Node) (i : Nat) : Int :=
  bif (ndA N i).f_Kind == 3 then 2 else bif (ndA N i).f_Kind == 4 then 1 else bif (ndA N i).f_Kind == 5 then (bif botA N (ndA N i).f_R.toNat then (bif botA N (ndA N i).f_L.toNat then 4 else 3) else 0) else 4
theorem lvR_lt (N : List T_api_Node) (i : Nat) (a : Int) (ha : a ≤ 3) : decide (lvR N i < a) = decide (lvA N i < a) := by
  unfold lvR lvA
  cases (ndA N i).f_Kind == 3 <;> cases (ndA N i).f_Kind == 4 <;> cases (ndA N i).f_Kind == 5 <;> cases botA N (ndA N i).f_R.toNat <;> cases botA N (ndA N i).f_L.toNat <;> first | rfl | (show decide ((4 : Int) < a) = decide ((3 : Int) < a); rw [decide_eq_decide]; omega)
theorem rix {N : List T_api_Node} {v : Int} (h0 : 0 ≤ v) (h1 : v.toNat < N.length) : ix N v = some (ndA N v.toNat) := by
  obtain ⟨q, rfl⟩ : ∃ q : Nat, v = (q : Int) := ⟨v.toNat, by omega⟩
  rw [Int.toNat_natCast] at h1 ⊢
  rw [ix_nat, ndA_get h1]
theorem rlevel_f {N : List T_api_Node} (h : Wf N) {i : Nat} (hi : i < N.length) : dictumref04_level.f ⟨N⟩ (i : Int) = some (lvR N i) := by
  have h2 := h.two i hi
  unfold dictumref04_level.f lvR
  rw [show ix (⟨N⟩ : T_dictumref03_T).f_N (i : Int) = some (ndA N i) from by rw [ix_nat, ndA_get hi], bind_some']
  cases h3 : (ndA N i).f_Kind == 3 with
  | true => rfl
  | false =>
  rw [cond_false, cond_false]
  cases h4 : (ndA N i).f_Kind == 4 with
  | true => rfl
  | false =>
  rw [cond_false, cond_false]
  cases h5 : (ndA N i).f_Kind == 5 with
  | false => rfl
  | true =>
    have := h2 (.inr (.inr (by simpa using h5)))
    rw [cond_true, cond_true, show ix (⟨N⟩ : T_dictumref03_T).f_N (ndA N i).f_R = _ from rix (N := N) this.2.2.1 (by omega), bind_some']
    show (bif botA N (ndA N i).f_R.toNat then _ else _) = _
    cases botA N (ndA N i).f_R.toNat with
    | false => rfl
    | true =>
      rw [cond_true, cond_true, show ix (⟨N⟩ : T_dictumref03_T).f_N (ndA N i).f_L = _ from rix (N := N) this.1 (by omega), bind_some']
      show (bif botA N (ndA N i).f_L.toNat then _ else _) = _
      cases botA N (ndA N i).f_L.toNat <;> rfl
theorem round_f {N : List T_api_Node} (h : Wf N) {i : Nat} (hi : i < N.length) (a : Int) (ha : a ≤ 3) : dictumref04_round.f ⟨N⟩ (i : Int) a = some (rdT N i a : Int) := by
  unfold dictumref04_round.f rdT
  rw [rlevel_f h hi, bind_some', lvR_lt N i a ha]
  cases decide (lvA N i < a) <;> rfl
/-- How the document reads a row. -/
theorem rcase {N : List T_api_Node} (h : Wf N) {i : Nat} (hi : i < N.length) :
    ((ndA N i).f_Kind = 1 ∧ shp N (ndA N i) = .lit (ndA N i).f_Name) ∨
    ((ndA N i).f_Kind = 2 ∧ shp N (ndA N i) = .lit [102, 97, 108, 115, 101]) ∨
    ((ndA N i).f_Kind = 5 ∧ lvR N i = 4 ∧ shp N (ndA N i) = .lit [116, 114, 117, 101]) ∨
    (∃ l : Nat, (ndA N i).f_Kind = 5 ∧ lvR N i = 3 ∧ (ndA N i).f_L = (l : Int) ∧ shp N (ndA N i) = .neg l) ∨
    (∃ (l r : Nat), (ndA N i).f_L = (l : Int) ∧ (ndA N i).f_R = (r : Int) ∧ (((ndA N i).f_Kind = 3 ∧ lvR N i = 2 ∧ shp N (ndA N i) = .two [32, 38, 32] l 2 r 3) ∨ ((ndA N i).f_Kind = 4 ∧ lvR N i = 1 ∧ shp N (ndA N i) = .two [32, 124, 32] l 1 r 2) ∨ ((ndA N i).f_Kind = 5 ∧ lvR N i = 0 ∧ shp N (ndA N i) = .two [32, 45, 62, 32] l 1 r 0))) := by
  have h2 := h.two i hi
  unfold shp lvR
  rcases h.kind i hi with e | e | e | e | e <;> rw [e]
  · exact .inl ⟨rfl, rfl⟩
  · exact .inr (.inl ⟨rfl, rfl⟩)
  · have := h2 (.inl e)
    exact .inr (.inr (.inr (.inr ⟨(ndA N i).f_L.toNat, (ndA N i).f_R.toNat, (Int.toNat_of_nonneg this.1).symm, (Int.toNat_of_nonneg this.2.2.1).symm, .inl ⟨rfl, rfl, rfl⟩⟩)))
  · have := h2 (.inr (.inl e))
    exact .inr (.inr (.inr (.inr ⟨(ndA N i).f_L.toNat, (ndA N i).f_R.toNat, (Int.toNat_of_nonneg this.1).symm, (Int.toNat_of_nonneg this.2.2.1).symm, .inr (.inl ⟨rfl, rfl, rfl⟩)⟩)))
  · have := h2 (.inr (.inr e))
    cases hR : botA N (ndA N i).f_R.toNat with
    | false => exact .inr (.inr (.inr (.inr ⟨(ndA N i).f_L.toNat, (ndA N i).f_R.toNat, (Int.toNat_of_nonneg this.1).symm, (Int.toNat_of_nonneg this.2.2.1).symm, .inr (.inr ⟨rfl, rfl, rfl⟩)⟩)))
    | true =>
      cases hL : botA N (ndA N i).f_L.toNat with
      | true => exact .inr (.inr (.inl ⟨rfl, rfl, rfl⟩))
      | false => exact .inr (.inr (.inr (.inl ⟨(ndA N i).f_L.toNat, rfl, rfl, (Int.toNat_of_nonneg this.1).symm, rfl⟩)))
end Go.Proofs.YtpmkkhkphddfeaaGreatDoor.X
set_option linter.unusedVariables false
set_option linter.unusedSimpArgs false
namespace Go.Proofs.YtpmkkhkphddfeaaGreatDoor.X
open Go Go.RowKit Go.Proofs.YtpmkkhkphddfeaaGreatDoor.SX
theorem rneeds3 : dictumref04_needs.f 3 = some (2, 3) := rfl
theorem rneeds4 : dictumref04_needs.f 4 = some (1, 2) := rfl
theorem rneeds5 : dictumref04_needs.f 5 = some (1, 0) := rfl
theorem chk3 (a b : List UInt8) (h : a.length + b.length ≤ 1000000) : chk (decide (a.length + b.length ≤ 9223372036854775807)) = some () := chk_of (decide_eq_true (by omega))
theorem text_f {N : List T_api_Node} (h : Wf N) (k : Nat) : ∀ (n i : Nat), i < n → i < N.length → wd N i ≤ 65536 → ∀ j, 2 * n ≤ j → (G_dictumref04_text.rec_ k j).dictumref04_text ⟨N⟩ (i : Int) = some (bd N i) := by
  intro n
  induction n with
  | zero => intro i h1; omega
  | succ n ih =>
    intro i h1 h2 hw j hj
    obtain ⟨j, rfl⟩ : ∃ q, j = q + 2 := ⟨j - 2, by omega⟩
    show dictumref04_text.F k (G_dictumref04_text.rec_ k (j + 1)) ⟨N⟩ (i : Int) = _
    obtain ⟨b1, b2⟩ := shp_below h h2
    obtain ⟨w1, w2⟩ := wd_parts h h2 hw
    have part : ∀ (l : Nat) (a : Int), a ≤ 3 → l < i → wd N l ≤ 65536 → (G_dictumref04_text.rec_ k (j + 1)).dictumref04_part ⟨N⟩ (l : Int) a = some (pt N l a) ∧ (pt N l a).length ≤ 65538 := by
      intro l a ha hl hwl
      have h3 : l < N.length := Nat.lt_trans hl h2
      have hlen := bd_len h (l + 1) l (Nat.lt_succ_self l) h3 hwl
      have hp := pt_len N l a
      have hr := rd_le N l a
      refine ⟨?_, by rw [hp, hlen]; exact Nat.add_le_add hwl hr⟩
      show dictumref04_part.F k (G_dictumref04_text.rec_ k j) ⟨N⟩ (l : Int) a = _
      unfold dictumref04_part.F
      rw [ih l (by omega) h3 hwl j (by omega), bind_some', rlevel_f h h3, bind_some', lvR_lt N l a ha]
      unfold pt ptT
      cases decide (lvA N l < a) with
      | false => rfl
      | true =>
        rw [cond_true, cond_true, chk3 [40] (bd N l) (by rw [hlen]; simp only [List.length_cons, List.length_nil]; omega), bind_some', chk3 ([40] ++ bd N l) [41] (by rw [List.length_append, hlen]; simp only [List.length_cons, List.length_nil]; omega)]
        rfl
    unfold dictumref04_text.F
    rw [show ix (⟨N⟩ : T_dictumref03_T).f_N (i : Int) = some (ndA N i) from by rw [ix_nat, ndA_get h2], bind_some', rlevel_f h h2, bd_eq h h2]
    rcases rcase h h2 with ⟨e, hs⟩ | ⟨e, hs⟩ | ⟨e, el, hs⟩ | ⟨l, e, el, eL, hs⟩ | ⟨l, r, eL, eR, ⟨e, el, hs⟩ | ⟨e, el, hs⟩ | ⟨e, el, hs⟩⟩
    · rw [e, hs]; rfl
    · rw [e, hs]; rfl
    · rw [e, el, hs]; rfl
    · obtain ⟨p1, p2⟩ := part l 3 (by omega) (b1 l hs) (w1 l hs)
      rw [e, el, hs, eL]
      show (((G_dictumref04_text.rec_ k (j + 1)).dictumref04_part ⟨N⟩ (l : Int) 3).bind _) = _
      rw [p1, bind_some', chk3 [126] (pt N l 3) (by simp only [List.length_cons, List.length_nil]; omega)]
      rfl
    · obtain ⟨p1, p2⟩ := part l 2 (by omega) (b2 _ _ _ _ _ hs).1 (w2 _ _ _ _ _ hs).1
      obtain ⟨q1, q2⟩ := part r 3 (by omega) (b2 _ _ _ _ _ hs).2 (w2 _ _ _ _ _ hs).2
      rw [e, el, hs, eL, eR]
      show (((G_dictumref04_text.rec_ k (j + 1)).dictumref04_part ⟨N⟩ (l : Int) 2).bind _) = _
      rw [p1, bind_some', chk3 (pt N l 2) [32, 38, 32] (by simp only [List.length_cons, List.length_nil]; omega), bind_some', q1, bind_some', chk3 _ (pt N r 3) (by simp only [List.length_append, List.length_cons, List.length_nil]; omega), bind_some', List.append_assoc]
    · obtain ⟨p1, p2⟩ := part l 1 (by omega) (b2 _ _ _ _ _ hs).1 (w2 _ _ _ _ _ hs).1
      obtain ⟨q1, q2⟩ := part r 2 (by omega) (b2 _ _ _ _ _ hs).2 (w2 _ _ _ _ _ hs).2
      rw [e, el, hs, eL, eR]
      show (((G_dictumref04_text.rec_ k (j + 1)).dictumref04_part ⟨N⟩ (l : Int) 1).bind _) = _
      rw [p1, bind_some', chk3 (pt N l 1) [32, 124, 32] (by simp only [List.length_cons, List.length_nil]; omega), bind_some', q1, bind_some', chk3 _ (pt N r 2) (by simp only [List.length_append, List.length_cons, List.length_nil]; omega), bind_some', List.append_assoc]
    · obtain ⟨p1, p2⟩ := part l 1 (by omega) (b2 _ _ _ _ _ hs).1 (w2 _ _ _ _ _ hs).1
      obtain ⟨q1, q2⟩ := part r 0 (by omega) (b2 _ _ _ _ _ hs).2 (w2 _ _ _ _ _ hs).2
      rw [e, el, hs, eL, eR]
      show (((G_dictumref04_text.rec_ k (j + 1)).dictumref04_part ⟨N⟩ (l : Int) 1).bind _) = _
      rw [p1, bind_some', chk3 (pt N l 1) [32, 45, 62, 32] (by simp only [List.length_cons, List.length_nil]; omega), bind_some', q1, bind_some', chk3 _ (pt N r 0) (by simp only [List.length_append, List.length_cons, List.length_nil]; omega), bind_some', List.append_assoc]
theorem clamp_f (W : List Int) (i : Nat) (v : Nat) (hi : i < W.length) : ((ix (W.set i (v : Int)) (i : Int)).bind fun x166 => (bif (decide (x166 > 65536)) then (ix (W.set i (v : Int)) (i : Int)).bind fun x177 => some ((W.set i (v : Int)).set (i : Int).toNat 65537) else some (W.set i (v : Int)))) = some (W.set i ((min 65537 v : Nat) : Int)) := by
  have e : ix (W.set i (v : Int)) (i : Int) = some (v : Int) := by rw [ix_nat, List.getElem?_set_self hi]
  rw [e, bind_some', bind_some', Int.toNat_natCast, List.set_set]
  by_cases hv : 65536 < v
  · rw [decide_eq_true (by omega : (v : Int) > 65536), cond_true, Nat.min_eq_left (by omega)]
    rfl
  · rw [decide_eq_false (by omega : ¬ (v : Int) > 65536), cond_false, Nat.min_eq_right (by omega)]
theorem wadds (x a y b : Nat) (hx : x ≤ 65537) (ha : a ≤ 2) (hy : y ≤ 65537) (hb : b ≤ 2) : wrap64 ((wrap64 ((wrap64 ((wrap64 ((x : Int) + (a : Int))) + 3)) + (y : Int))) + (b : Int)) = ((3 + (x + a) + (y + b) : Nat) : Int) := by
  rw [w64 (n := (x : Int) + (a : Int)) (by omega) (by omega), w64 (n := (x : Int) + (a : Int) + 3) (by omega) (by omega), w64 (n := (x : Int) + (a : Int) + 3 + (y : Int)) (by omega) (by omega), w64 (by omega) (by omega)]
  omega
theorem wadds1 (v : Nat) (h : v ≤ 1000000) : wrap64 ((v : Int) + 1) = ((1 + v : Nat) : Int) := by
  rw [w64 (by omega) (by omega)]
  omega
theorem clampI (W : List Int) (i : Nat) (u : Int) (v : Nat) (hu : u = (v : Int)) (hi : i < W.length) : ((ix (W.set i u) (i : Int)).bind fun x166 => (bif (decide (x166 > 65536)) then (ix (W.set i u) (i : Int)).bind fun x177 => some ((W.set i u).set i 65537) else some (W.set i u))) = some (W.set i ((min 65537 v : Nat) : Int)) := by
  rw [hu]
  have := clamp_f W i v hi
  rw [Int.toNat_natCast] at this
  exact this
theorem vle (x a y b : Nat) {v : Nat} (hx : x ≤ 65537) (ha : a ≤ 2) (hy : y ≤ 65537) (hb : b ≤ 2) (h : 3 + (x + a) + (y + b) = v) : v ≤ 1000000 := by omega
theorem vfour (x a y b : Nat) : 1 + (3 + (x + a) + (y + b)) = 4 + (x + a) + (y + b) := by omega
theorem waddn (x a : Nat) (hx : x ≤ 65537) (ha : a ≤ 2) : wrap64 ((wrap64 (1 + (x : Int))) + (a : Int)) = ((1 + (x + a) : Nat) : Int) := by
  rw [w64 (n := 1 + (x : Int)) (by omega) (by omega), w64 (by omega) (by omega)]
  omega
theorem widths_l1 {N : List T_api_Node} (h : Wf N) (hN : N.length ≤ 1024) (k : Nat) : ∀ (d kk i : Nat) (W : List Int), N.length - i ≤ d → d < kk → i ≤ N.length → W.length = N.length → (∀ j, j < i → W[j]? = some (wd N j : Int)) → ∃ W', dictumref04_Widths.l1 k ⟨N⟩ kk W (i : Int) = some W' ∧ ∀ j, j < N.length → W'[j]? = some (wd N j : Int) := by
  intro d
  induction d with
  | zero =>
    intro kk i W h1 h2 h3 h4 h5
    obtain ⟨kk, rfl⟩ : ∃ q, kk = q + 1 := ⟨kk - 1, by omega⟩
    refine ⟨W, ?_, fun j hj => h5 j (by omega)⟩
    rw [dictumref04_Widths.l1.eq_2, show decide ((i : Int) < ((⟨N⟩ : T_dictumref03_T).f_N.length : Int)) = false from decide_eq_false (by show ¬ (i : Int) < (N.length : Int); omega)]
    rfl
  | succ d ih =>
    intro kk i W h1 h2 h3 h4 h5
    obtain ⟨kk, rfl⟩ : ∃ q, kk = q + 1 := ⟨kk - 1, by omega⟩
    by_cases hi : i < N.length
    · obtain ⟨b1, b2⟩ := shp_below h hi
      have hiW : i < W.length := by omega
      have hne : ∀ x : Int, ix W (i : Int) = some (W[i]'hiW) := fun _ => by rw [ix_nat, List.getElem?_eq_getElem hiW]
      have hW : ∀ l : Nat, l < i → ix W (l : Int) = some (wd N l : Int) := fun l hl => by rw [ix_nat, h5 l hl]
      have rest : ∀ v : Nat, min 65537 v = wd N i → ∃ W', dictumref04_Widths.l1 k ⟨N⟩ kk (W.set i ((min 65537 v : Nat) : Int)) (wrap64 ((i : Int) + 1)) = some W' ∧ ∀ j, j < N.length → W'[j]? = some (wd N j : Int) := by
        intro v hv
        rw [hv, wsucc i (by omega)]
        refine ih kk (i + 1) _ (by omega) (by omega) hi (by rw [List.length_set]; exact h4) fun j hj => ?_
        by_cases hji : j = i
        · rw [hji, List.getElem?_set_self hiW]
        · rw [List.getElem?_set_ne (by omega)]
          exact h5 j (by omega)
      have hwd := wd_eq h hi
      rw [dictumref04_Widths.l1.eq_2, show decide ((i : Int) < ((⟨N⟩ : T_dictumref03_T).f_N.length : Int)) = true from decide_eq_true (by show (i : Int) < (N.length : Int); omega), cond_true, show ix (⟨N⟩ : T_dictumref03_T).f_N (i : Int) = some (ndA N i) from by rw [ix_nat, ndA_get hi], bind_some', rlevel_f h hi]
      simp only [bind_some', Int.toNat_natCast]
      rcases rcase h hi with ⟨e, hs⟩ | ⟨e, hs⟩ | ⟨e, el, hs⟩ | ⟨l, e, el, eL, hs⟩ | ⟨l, r, eL, eR, hh⟩
      · rw [e, hne 0]
        rw [hs] at hwd
        show ∃ W', ((((ix (W.set i (((ndA N i).f_Name.length : Nat) : Int)) (i : Int)).bind _).bind _) = _) ∧ _
        have := clamp_f W i (ndA N i).f_Name.length hiW
        rw [Int.toNat_natCast] at this
        rw [this]
        exact rest _ hwd.symm
      · rw [e, hne 0]
        rw [hs] at hwd
        show ∃ W', ((((ix (W.set i (5 : Int)) (i : Int)).bind _).bind _) = _) ∧ _
        rw [clampI W i 5 5 rfl hiW]
        exact rest _ hwd.symm
      · rw [e, el, hne 0]
        rw [hs] at hwd
        show ∃ W', ((((ix (W.set i (4 : Int)) (i : Int)).bind _).bind _) = _) ∧ _
        rw [clampI W i 4 4 rfl hiW]
        exact rest _ hwd.symm
      · have hl := b1 l hs
        rw [e, el, hne 0, eL, hW l hl, round_f h (Nat.lt_trans hl hi) 3 (by omega)]
        rw [hs] at hwd
        simp only [bind_some', waddn _ _ (wd_le l) (rd_le N l 3)]
        show ∃ W', ((((ix (W.set i ((1 + (wd N l + rdT N l 3) : Nat) : Int)) (i : Int)).bind _).bind _) = _) ∧ _
        have := clamp_f W i (1 + (wd N l + rdT N l 3)) hiW
        rw [Int.toNat_natCast] at this
        rw [this]
        exact rest _ hwd.symm
      · rcases hh with ⟨e, el, hs⟩ | ⟨e, el, hs⟩ | ⟨e, el, hs⟩
        · have hl := b2 _ _ _ _ _ hs
          rw [e, el, hne 0, eL, eR, hW l hl.1, hW r hl.2, rneeds3]
          simp only [bind_some']
          rw [round_f h (Nat.lt_trans hl.1 hi) 2 (by omega), round_f h (Nat.lt_trans hl.2 hi) 3 (by omega)]
          rw [hs] at hwd
          simp only [bind_some', wadds _ _ _ _ (wd_le l) (rd_le N l 2) (wd_le r) (rd_le N r 3)]
          show ∃ W', ((((ix (W.set i ((3 + (wd N l + rdT N l 2) + (wd N r + rdT N r 3) : Nat) : Int)) (i : Int)).bind _).bind _) = _) ∧ _
          have := clamp_f W i (3 + (wd N l + rdT N l 2) + (wd N r + rdT N r 3)) hiW
          rw [Int.toNat_natCast] at this
          rw [this]
          exact rest _ hwd.symm
        · have hl := b2 _ _ _ _ _ hs
          rw [e, el, hne 0, eL, eR, hW l hl.1, hW r hl.2, rneeds4]
          simp only [bind_some']
          rw [round_f h (Nat.lt_trans hl.1 hi) 1 (by omega), round_f h (Nat.lt_trans hl.2 hi) 2 (by omega)]
          rw [hs] at hwd
          simp only [bind_some', wadds _ _ _ _ (wd_le l) (rd_le N l 1) (wd_le r) (rd_le N r 2)]
          show ∃ W', ((((ix (W.set i ((3 + (wd N l + rdT N l 1) + (wd N r + rdT N r 2) : Nat) : Int)) (i : Int)).bind _).bind _) = _) ∧ _
          have := clamp_f W i (3 + (wd N l + rdT N l 1) + (wd N r + rdT N r 2)) hiW
          rw [Int.toNat_natCast] at this
          rw [this]
          exact rest _ hwd.symm
        · have hl := b2 _ _ _ _ _ hs
          rw [e, el, hne 0, eL, eR, hW l hl.1, hW r hl.2, rneeds5]
          simp only [bind_some']
          rw [round_f h (Nat.lt_trans hl.1 hi) 1 (by omega), round_f h (Nat.lt_trans hl.2 hi) 0 (by omega)]
          rw [hs] at hwd
          simp only [bind_some', wadds _ _ _ _ (wd_le l) (rd_le N l 1) (wd_le r) (rd_le N r 0)]
          generalize hv : 3 + (wd N l + rdT N l 1) + (wd N r + rdT N r 0) = v at hwd ⊢
          have hv2 : v ≤ 1000000 := vle _ _ _ _ (wd_le l) (rd_le N l 1) (wd_le r) (rd_le N r 0) hv
          have er : ix (W.set i (v : Int)) (i : Int) = some (v : Int) := by rw [ix_nat, List.getElem?_set_self hiW]
          have hv3 : min 65537 (1 + v) = wd N i := by
            rw [hwd, ← hv]
            exact congrArg (min 65537) (vfour _ _ _ _)
          rw [er]
          simp only [bind_some', List.set_set, wadds1 v hv2]
          show ∃ W', ((((ix (W.set i ((1 + v : Nat) : Int)) (i : Int)).bind _).bind _) = _) ∧ _
          have := clamp_f W i (1 + v) hiW
          rw [Int.toNat_natCast] at this
          rw [this]
          exact rest _ hv3
    · refine ⟨W, ?_, fun j hj => h5 j (by omega)⟩
      rw [dictumref04_Widths.l1.eq_2, show decide ((i : Int) < ((⟨N⟩ : T_dictumref03_T).f_N.length : Int)) = false from decide_eq_false (by show ¬ (i : Int) < (N.length : Int); omega)]
      rfl
theorem rwidths_f {N : List T_api_Node} (h : Wf N) (hN : N.length ≤ 1024) (k : Nat) (hk : 1025 ≤ k) : ∃ W, dictumref04_Widths.f k ⟨N⟩ = some W ∧ ∀ j, j < N.length → W[j]? = some (wd N j : Int) := by
  unfold dictumref04_Widths.f
  show ∃ W, ((chk (decide (0 ≤ (N.length : Int)) && decide ((N.length : Int) ≤ 1000000000000))).bind _ = _) ∧ _
  rw [chk_of (by rw [decide_eq_true (by omega), decide_eq_true (by omega)]; rfl), bind_some']
  obtain ⟨W, e1, e2⟩ := widths_l1 h hN k N.length k 0 (List.replicate (N.length : Int).toNat 0) (by omega) (by omega) (Nat.zero_le _) (by rw [List.length_replicate, Int.toNat_natCast]) (fun j hj => absurd hj (Nat.not_lt_zero _))
  refine ⟨W, ?_, e2⟩
  show ((dictumref04_Widths.l1 k ⟨N⟩ k (List.replicate (N.length : Int).toNat 0) ((0 : Nat) : Int)).bind _) = _
  rw [e1]
  rfl
theorem rprint_f {N : List T_api_Node} (h : Wf N) (hN : N.length ≤ 1024) (k : Nat) (hk : 5000 ≤ k) (i : Int) : dictumref04_Print.f k ⟨N⟩ i = some (printP N i) := by
  unfold dictumref04_Print.f printP
  rw [rhas_f, bind_some']
  cases hh : hasN N i with
  | false => rfl
  | true =>
    have h2 : 0 ≤ i ∧ i < (N.length : Int) := by unfold hasN at hh; rw [Bool.and_eq_true, decide_eq_true_eq, decide_eq_true_eq] at hh; exact hh
    obtain ⟨q, rfl⟩ : ∃ q : Nat, i = (q : Int) := ⟨i.toNat, by omega⟩
    have hq : q < N.length := by omega
    obtain ⟨W, e1, e2⟩ := rwidths_f h hN k (by omega)
    rw [show (!true) = false from rfl, cond_false, cond_true, e1, bind_some', ix_nat, e2 q hq, bind_some', Int.toNat_natCast, show decide ((wd N q : Int) > 65536) = decide (65536 < wd N q) from by rw [decide_eq_decide]; omega]
    by_cases hw : 65536 < wd N q
    · rw [decide_eq_true hw]; rfl
    · rw [decide_eq_false hw, cond_false, cond_false]
      rw [show dictumref04_text.f k ⟨N⟩ (q : Int) = _ from text_f h k (q + 1) q (by omega) hq (by omega) k (by omega)]
      rfl
end Go.Proofs.YtpmkkhkphddfeaaGreatDoor.X
set_option linter.unusedVariables false
set_option linter.unusedSimpArgs false
namespace Go.Proofs.YtpmkkhkphddfeaaGreatDoor.X
open Go Go.RowKit Go.Proofs.YtpmkkhkphddfeaaGreatDoor.SX
set_option maxRecDepth 100000 in
theorem heads_at : dictumlaw04_heads.f 64 = some true := by kernel_rfl
theorem heads_ev : Ev fun k => dictumlaw04_heads.f k = some true := Ev.mono (fun k k' h => dictumlaw04_heads.mono h) heads_at
end Go.Proofs.YtpmkkhkphddfeaaGreatDoor.X
set_option linter.unusedVariables false
set_option linter.unusedSimpArgs false
namespace Go.Proofs.YtpmkkhkphddfeaaGreatDoor.X
open Go Go.RowKit Go.Proofs.YtpmkkhkphddfeaaGreatDoor.SX
theorem node_len (x : T_api_Node) : x.f_Name.length ≤ T_api_Node.bulk x := by
  unfold T_api_Node.bulk
  simp only [bulk1, bulkS]
  omega
theorem sum_mem {α : Type} (b : α → Nat) : ∀ (a : List α) (x : α), x ∈ a → b x ≤ (a.map b).sum
  | [], x, h => by cases h
  | y :: r, x, h => by
    rw [List.map_cons, List.sum_cons]
    rcases List.mem_cons.1 h with rfl | h
    · omega
    · have := sum_mem b r x h
      omega
theorem rows_bulk (a : List T_api_Node) : a.length ≤ (bulkL T_api_Node.bulk) a ∧ ∀ x ∈ a, x.f_Name.length ≤ (bulkL T_api_Node.bulk) a := by
  have h := len_le_bulk T_api_Node.bulk (fun x => by unfold T_api_Node.bulk; omega) a
  simp only [bulkL]
  refine ⟨by omega, fun x hx => ?_⟩
  have h1 := sum_mem T_api_Node.bulk a x hx
  have := node_len x
  omega
theorem SyntaxPrints_pure : ∀ (x0 : (List T_api_Node)) (x1 : Int), (bulkL T_api_Node.bulk) x0 + bulk1 x1 ≤ 1048576 → (okL T_api_Node.ok) x0 → okI .i64 x1 → ∃ k, dictumlaw04_SyntaxPrints.f k x0 x1 = some true := by
  intro x0 x1 hb _ _
  obtain ⟨r1, r2⟩ := rows_bulk x0
  obtain ⟨k0, hk0⟩ := heads_ev
  have h1 : 40000000 ≤ max k0 40000000 := Nat.le_max_right _ _
  refine ⟨max k0 40000000, ?_⟩
  have hh := hk0 (max k0 40000000) (Nat.le_max_left _ _)
  generalize max k0 40000000 = k at h1 hh
  obtain ⟨m, e1, hT⟩ := tables_f k x0 (by omega) (fun x hx => by have := r2 x hx; omega) (by omega) (by omega)
  have hW := rows_wf x0
  have hr := hT.room
  unfold dictumlaw04_SyntaxPrints.f
  rw [e1, bind_some']
  simp only
  rw [print_f k hW m hT x1 (by omega), bind_some', rprint_f hW hr k (by omega), bind_some', beq_self_eq_true, cond_true]
  unfold dictumlaw04_num.f
  rw [bind_some', beq_self_eq_true, cond_true, like_f k _ m hr (by omega), bind_some', cond_true, hh]
  rfl
end Go.Proofs.YtpmkkhkphddfeaaGreatDoor.X
