/- Layer 5, plain: a text read as a set, by the document. -/
import Derived.Test.YtfdocckaobmgeaaDoorBTb
import Derived.Test.YtfdocckaobmgeaaDoorBRw
set_option linter.unusedVariables false
set_option linter.unusedSimpArgs false
namespace Go.Proofs.YtfdocckaobmgeaaDoor.X
open Go Go.RowKit Go.Proofs.YtfdocckaobmgeaaDoor.SX
open Go.Lib (decDigits itoa)
theorem rparse_l2_no (k : Nat) (lo : Int) (hlo : lo < 0) (z : Int × Int) (x : Int) (e : List UInt64) (kk : Nat) : dictumref05_Parse.l2 k lo z (kk + 1) x e = some e := by
  rw [dictumref05_Parse.l2.eq_2, decide_eq_false (by omega), cond_false, bind_some', cond_false]
theorem rparse_l2 (k : Nat) (hi : Nat) (hh : hi < 1024) (q : Int) (lo : Int) (hlo : 0 ≤ lo) : ∀ (d x kk : Nat) (e : List UInt64), d = hi + 1 - x → d < kk → e.length = 16 → x < 1025 → dictumref05_Parse.l2 k lo ((hi : Int), q) kk (x : Int) e = some (fill e x d)
  | 0, x, kk, e, h1, h2, he, hx => by
    obtain ⟨kk, rfl⟩ : ∃ m, kk = m + 1 := ⟨kk - 1, by omega⟩
    rw [dictumref05_Parse.l2.eq_2, decide_eq_true hlo, cond_true, bind_some']
    simp only
    rw [decide_eq_false (by omega), cond_false]
    rfl
  | d + 1, x, kk, e, h1, h2, he, hx => by
    obtain ⟨kk, rfl⟩ : ∃ m, kk = m + 1 := ⟨kk - 1, by omega⟩
    have hx2 : x < 1024 := by omega
    rw [dictumref05_Parse.l2.eq_2, decide_eq_true hlo, cond_true, bind_some']
    simp only
    rw [decide_eq_true (by omega : (x : Int) ≤ (hi : Int)), cond_true, rwith_f he hx2, bind_some', wsucc x (by omega), fill]
    exact rparse_l2 k hi hh q lo hlo d (x + 1) kk (withB e x) (by omega) (by omega) (by rw [with_len, he]) (by omega)
def digC (c : UInt8) : Bool := decide (48 ≤ c) && decide (c ≤ 57)
def isD (s : List UInt8) (i : Nat) : Bool := match s[i]? with | some c => digC c | none => false
theorem isD_f (s : List UInt8) (i : Nat) : ((bif (decide ((i : Int) < (s.length : Int))) then (ix s (i : Int)).bind fun x214 => (bif (decide ((48 : UInt8) ≤ x214)) then (ix s (i : Int)).bind fun x216 => some (decide (x216 ≤ (57 : UInt8))) else some false) else some false) : Option Bool) = some (isD s i) := by
  unfold isD
  by_cases h : i < s.length
  · rw [decide_eq_true (by omega), cond_true, ix_nat, List.getElem?_eq_getElem h, bind_some']
    simp only
    unfold digC
    cases decide ((48 : UInt8) ≤ s[i])
    · rfl
    · rw [cond_true, bind_some', Bool.true_and]
  · rw [decide_eq_false (by omega), cond_false, List.getElem?_eq_none (by omega)]
/-- Is the hyphen here? What the next number's run begins with. -/
def isH (s : List UInt8) (i : Nat) : Bool := match s[i]? with | some c => c == 45 | none => false
theorem pick (b : Bool) (v : Int) : (bif b then some v else some (-1)) = some (if b = true then v else -1) := by cases b <;> rfl
theorem isH_f (s : List UInt8) (i : Nat) (v : Int) : (((bif (decide ((i : Int) < (s.length : Int))) then (ix s (i : Int)).bind fun x201 => some (x201 == (45 : UInt8)) else some false) : Option (Bool)).bind fun z193 => (bif z193 then some v else some (-1)) : Option Int) = some (if isH s i then v else -1) := by
  by_cases h : i < s.length
  · have hh : isH s i = (s[i] == 45) := by unfold isH; rw [List.getElem?_eq_getElem h]
    rw [decide_eq_true (by omega), cond_true, ix_nat, List.getElem?_eq_getElem h, bind_some', bind_some', hh]
    exact pick _ v
  · have hh : isH s i = false := by unfold isH; rw [List.getElem?_eq_none (by omega)]
    rw [decide_eq_false (by omega), cond_false, bind_some', hh]
    rfl
def fillL (e : List UInt64) (lo : Int) (v : Nat) : List UInt64 := if lo < 0 then withB e v else fill e lo.toNat (v + 1 - lo.toNat)
theorem fillL_len (e : List UInt64) (lo : Int) (v : Nat) : (fillL e lo v).length = e.length := by
  unfold fillL
  split
  · rw [with_len]
  · rw [fill_len]
/-- A round in a number. -/
theorem round_dig (k : Nat) (s : List UInt8) (hs : s.length ≤ 100000000) (fr : Int) (lo : Int) (i : Nat) (hi : i < s.length) (e : List UInt64) (kk : Nat) (h : isD s i = true) :
    dictumref05_Parse.l1 k s (kk + 1) fr lo (i : Int) e = dictumref05_Parse.l1 k s kk fr lo ((i + 1 : Nat) : Int) e := by
  rw [dictumref05_Parse.l1.eq_2, decide_eq_true (by omega : (i : Int) ≤ (s.length : Int)), cond_true, isD_f, h, bind_some', cond_true, wsucc i (by omega)]
/-- A round at the end of a number. -/
theorem round_num (k : Nat) (hk : 1100 < k) (s : List UInt8) (hs : s.length ≤ 100000000) (hne : s ≠ []) (fr : Nat) (lo : Int) (hlo : lo < 1024) (hlo2 : -1 ≤ lo) (i : Nat) (hf : fr ≤ i) (hi : i ≤ s.length) (e : List UInt64) (he : e.length = 16) (kk : Nat) (h : isD s i = false) :
    dictumref05_Parse.l1 k s (kk + 1) (fr : Int) lo (i : Int) e = some (.inl (Z16, 50)) ∧ undecE ((s.take i).drop fr) 1023 = (0, 2) ∨
    ∃ v : Nat, v < 1024 ∧ undecE ((s.take i).drop fr) 1023 = ((v : Int), 0) ∧ dictumref05_Parse.l1 k s (kk + 1) (fr : Int) lo (i : Int) e = dictumref05_Parse.l1 k s kk ((i + 1 : Nat) : Int) (if isH s i then (v : Int) else -1) ((i + 1 : Nat) : Int) (fillL e lo v) := by
  rw [dictumref05_Parse.l1.eq_2, decide_eq_true (by omega : (i : Int) ≤ (s.length : Int)), cond_true, isD_f, h, bind_some', cond_false, show (s == ([] : List UInt8)) = false from by simp [hne], cond_false, cut_nat s hf hi, bind_some', rundec_f _ _ k (by omega), bind_some']
  rcases undec_cases ((s.take i).drop fr) with h1 | ⟨v, hv, h1⟩
  · rw [h1]; exact Or.inl ⟨rfl, rfl⟩
  · refine Or.inr ⟨v, hv, h1, ?_⟩
    rw [h1]
    simp only
    rw [show ((0 : Int) != 0) = false from rfl, cond_false, isH_f, wsucc i (by omega)]
    unfold fillL
    by_cases hl : lo < 0
    · obtain ⟨k1, hk1⟩ : ∃ m, k = m + 1 := ⟨k - 1, by omega⟩
      have hno : ∀ f, dictumref05_Parse.l2 k lo ((v : Int), 0) k lo f = some f := fun f => by
        have := rparse_l2_no k lo hl ((v : Int), 0) lo f k1
        rw [← hk1] at this
        exact this
      rw [decide_eq_true hl, cond_true, rwith_f he hv, bind_some', bind_some', hno, bind_some', bind_some', if_pos hl]
    · obtain ⟨l, rfl⟩ : ∃ l : Nat, lo = (l : Int) := ⟨lo.toNat, by omega⟩
      rw [decide_eq_false hl, cond_false, bind_some', rparse_l2 k v hv 0 (l : Int) (by omega) (v + 1 - l) l k e rfl (by omega) he (by omega), bind_some', bind_some', if_neg hl, Int.toNat_natCast]
theorem rparse_any_l1 (k : Nat) (hk : 1100 < k) (s : List UInt8) (hs : s.length ≤ 100000000) (hne : s ≠ []) : ∀ (d kk fr i : Nat) (lo : Int) (e : List UInt64), d = s.length + 1 - i → d < kk → fr ≤ i → i ≤ s.length + 1 → lo < 1024 → -1 ≤ lo → e.length = 16 →
    dictumref05_Parse.l1 k s kk (fr : Int) lo (i : Int) e = some (.inl (Z16, 50)) ∨ ∃ f, f.length = 16 ∧ dictumref05_Parse.l1 k s kk (fr : Int) lo (i : Int) e = some (.inr f)
  | 0, kk, fr, i, lo, e, h1, h2, h3, h4, h5, h6, he => by
    obtain ⟨kk, rfl⟩ : ∃ m, kk = m + 1 := ⟨kk - 1, by omega⟩
    refine Or.inr ⟨e, he, ?_⟩
    rw [dictumref05_Parse.l1.eq_2, decide_eq_false (by omega), cond_false]
  | d + 1, kk, fr, i, lo, e, h1, h2, h3, h4, h5, h6, he => by
    obtain ⟨kk, rfl⟩ : ∃ m, kk = m + 1 := ⟨kk - 1, by omega⟩
    cases hd : isD s i
    · rcases round_num k hk s hs hne fr lo h5 h6 i h3 (by omega) e he kk hd with ⟨h, _⟩ | ⟨v, hv, _, h⟩
      · exact Or.inl h
      · rw [h]
        refine rparse_any_l1 k hk s hs hne d kk (i + 1) (i + 1) _ _ (by omega) (by omega) (Nat.le_refl _) (by omega) ?_ ?_ (by rw [fillL_len, he])
        · split <;> omega
        · split <;> omega
    · have hi : i < s.length := by
        unfold isD at hd
        rcases Nat.lt_or_ge i s.length with h | h
        · exact h
        · rw [List.getElem?_eq_none h] at hd; cases hd
      rw [round_dig k s hs _ lo i hi e kk hd]
      exact rparse_any_l1 k hk s hs hne d kk fr (i + 1) lo e (by omega) (by omega) (by omega) (by omega) h5 h6 he
theorem at_drop (s : List UInt8) (i j : Nat) : (s.drop i)[j]? = s[i + j]? := by rw [List.getElem?_drop]
theorem digC_of {c : UInt8} (h : 48 ≤ c.toNat ∧ c.toNat ≤ 57) : digC c = true := by
  unfold digC
  rw [decide_eq_true (by rw [UInt8.le_iff_toNat_le]; exact h.1), decide_eq_true (by rw [UInt8.le_iff_toNat_le]; exact h.2)]
  rfl
/-- Digits passed. -/
theorem pass_dig (k : Nat) (s : List UInt8) (hs : s.length ≤ 100000000) (fr lo : Int) (e : List UInt64) : ∀ (w rest : List UInt8) (i kk : Nat), s.drop i = w ++ rest → (∀ c ∈ w, digC c = true) → w.length ≤ kk → dictumref05_Parse.l1 k s kk fr lo (i : Int) e = dictumref05_Parse.l1 k s (kk - w.length) fr lo ((i + w.length : Nat) : Int) e
  | [], rest, i, kk, h, _, _ => rfl
  | c :: w, rest, i, kk, h, hc, hk => by
    rw [List.length_cons] at hk
    obtain ⟨kk, rfl⟩ : ∃ m, kk = m + 1 := ⟨kk - 1, by omega⟩
    have hi : i < s.length := by
      rcases Nat.lt_or_ge i s.length with h2 | h2
      · exact h2
      · rw [List.drop_eq_nil_of_le h2] at h; cases h
    rw [drop_cons hi] at h
    obtain ⟨e1, e2⟩ := List.cons.inj h
    have hd : isD s i = true := by
      unfold isD
      rw [List.getElem?_eq_getElem hi, e1]
      exact hc c (List.mem_cons_self ..)
    rw [round_dig k s hs fr lo i hi e kk hd, pass_dig k s hs fr lo e w rest (i + 1) kk e2 (fun x hx => hc x (List.mem_cons_of_mem _ hx)) (by omega)]
    rw [List.length_cons, show kk + 1 - (w.length + 1) = kk - w.length from by omega, show i + 1 + w.length = i + (w.length + 1) from by omega]
/-- A number passed: the text goes on with no digit. -/
theorem pass_num (k : Nat) (hk : 1100 < k) (s : List UInt8) (hs : s.length ≤ 100000000) (hne : s ≠ []) (v : Nat) (hv : v < 1024) (rest : List UInt8) (hr : ∀ c, rest.head? = some c → digC c = false) (i : Nat) (hd : s.drop i = decDigits v ++ rest) (hi : i ≤ s.length) (lo : Int) (h5 : lo < 1024) (h6 : -1 ≤ lo) (e : List UInt64) (he : e.length = 16) (kk : Nat) (hkk : (decDigits v).length < kk) :
    dictumref05_Parse.l1 k s kk (i : Int) lo (i : Int) e = dictumref05_Parse.l1 k s (kk - (decDigits v).length - 1) ((i + (decDigits v).length + 1 : Nat) : Int) (if rest.head? = some 45 then (v : Int) else -1) ((i + (decDigits v).length + 1 : Nat) : Int) (fillL e lo v) := by
  rw [pass_dig k s hs _ lo e (decDigits v) rest i kk hd (fun c hc => digC_of (dd_dig v c hc)) (by omega)]
  obtain ⟨m, hm⟩ : ∃ m, kk - (decDigits v).length = m + 1 := ⟨kk - (decDigits v).length - 1, by omega⟩
  rw [hm]
  generalize hw : decDigits v = w at *
  have hlen : i + w.length ≤ s.length := by
    have := congrArg List.length hd
    rw [List.length_drop, List.length_append] at this
    omega
  have hat : s[i + w.length]? = rest.head? := by
    rw [← at_drop, hd, List.getElem?_append_right (Nat.le_refl _), Nat.sub_self, List.head?_eq_getElem?]
  have hdd : isD s (i + w.length) = false := by
    unfold isD
    rw [hat]
    cases hh : rest.head? with
    | none => rfl
    | some c => exact hr c hh
  have hcut : (s.take (i + w.length)).drop i = w := by
    rw [List.drop_take, hd, show i + w.length - i = w.length from by omega, List.take_left]
  have hH : (isH s (i + w.length) = true) = (rest.head? = some 45) := by
    unfold isH
    rw [hat]
    cases rest.head? with
    | none => simp
    | some c => simp
  rcases round_num k hk s hs hne i lo h5 h6 (i + w.length) (by omega) hlen e he m hdd with ⟨_, h1⟩ | ⟨v', hv', h1, h⟩
  · rw [hcut, ← hw, undec_dd hv] at h1
    exact absurd (Prod.mk.inj h1).2 (by decide)
  · rw [hcut, ← hw, undec_dd hv] at h1
    have : v' = v := by have := (Prod.mk.inj h1).1; omega
    subst this
    rw [h]
    simp only [hH, Nat.add_sub_cancel]
theorem digC_44 : digC 44 = false := by decide
theorem digC_45 : digC 45 = false := by decide
/-- The document's walk over the runs of a text. -/
theorem rruns (k : Nat) (hk : 1100 < k) (s : List UInt8) (hs : s.length ≤ 100000000) (hne : s ≠ []) : ∀ (rs : List (Nat × Nat)) (i kk : Nat) (e : List UInt64), rs ≠ [] → (∀ r ∈ rs, r.1 ≤ r.2 ∧ r.2 < 1024) → s.drop i = glue 44 (rs.map rtxt) → i ≤ s.length → s.length + 1 - i < kk → e.length = 16 →
    dictumref05_Parse.l1 k s kk (i : Int) (-1) (i : Int) e = some (.inr (fillAll e rs))
  | [], i, kk, e, h, _, _, _, _, _ => absurd rfl h
  | r :: rs, i, kk, e, _, hr, hd, hi, hkk, he => by
    have h1 := hr r (List.mem_cons_self ..)
    obtain ⟨q1, q2⟩ := h1
    have d1 := dd4 (n := r.1) (by omega)
    have d2 := dd4 q2
    obtain ⟨tail, htail, hth⟩ : ∃ tail, glue 44 ((r :: rs).map rtxt) = rtxt r ++ tail ∧ (rs = [] ∧ tail = [] ∨ rs ≠ [] ∧ tail = 44 :: glue 44 (rs.map rtxt)) := by
      refine ⟨(rs.map rtxt).flatMap (fun y => 44 :: y), rfl, ?_⟩
      cases rs with
      | nil => exact Or.inl ⟨rfl, rfl⟩
      | cons a b => exact Or.inr ⟨by simp, by simp [glue]⟩
    rw [htail] at hd
    have htd : ∀ c, tail.head? = some c → digC c = false := fun c hc => by
      rcases hth with ⟨_, h⟩ | ⟨_, h⟩
      · rw [h] at hc; cases hc
      · rw [h] at hc; rw [← Option.some.inj hc]; exact digC_44
    have ht45 : ¬ tail.head? = some 45 := fun hc => by
      rcases hth with ⟨_, h⟩ | ⟨_, h⟩
      · rw [h] at hc; cases hc
      · rw [h] at hc; exact absurd (Option.some.inj hc) (by decide)
    have hlen := congrArg List.length hd
    rw [List.length_drop, List.length_append] at hlen
    have fin : ∀ (j m : Nat) (f : List UInt64), s.drop j = tail → j ≤ s.length → s.length - j < m → f.length = 16 → f = fillR e r → dictumref05_Parse.l1 k s m ((j + 1 : Nat) : Int) (-1) ((j + 1 : Nat) : Int) f = some (.inr (fillAll e (r :: rs))) := by
      intro j m f hj hjl hm hf hfe
      have hl2 := congrArg List.length hj
      rw [List.length_drop] at hl2
      rcases hth with ⟨h1, h2⟩ | ⟨h1, h2⟩
      · rw [h2, List.length_nil] at hl2
        obtain ⟨m, rfl⟩ : ∃ q, m = q + 1 := ⟨m - 1, by omega⟩
        rw [dictumref05_Parse.l1.eq_2, decide_eq_false (by omega), cond_false, h1, hfe]
        rfl
      · rw [h2, List.length_cons] at hl2
        rw [rruns k hk s hs hne rs (j + 1) m f h1 (fun x hx => hr x (List.mem_cons_of_mem _ hx)) (by rw [show j + 1 = j + 1 from rfl, ← List.drop_drop, hj, h2]; rfl) (by omega) (by omega) hf, hfe]
        rfl
    by_cases h : r.2 > r.1
    · have e1 : rtxt r = decDigits r.1 ++ 45 :: decDigits r.2 := by unfold rtxt; rw [if_pos h]
      rw [e1, List.append_assoc] at hd
      have hl1 := congrArg List.length e1
      rw [List.length_append, List.length_cons] at hl1
      rw [pass_num k hk s hs hne r.1 (by omega) (45 :: decDigits r.2 ++ tail) (fun c hc => by rw [← Option.some.inj hc]; exact digC_45) i hd hi (-1) (by decide) (by decide) e he kk (by omega), if_pos (show (45 :: decDigits r.2 ++ tail).head? = some 45 from rfl)]
      have hd2 : s.drop (i + (decDigits r.1).length + 1) = decDigits r.2 ++ tail := by
        rw [Nat.add_assoc, ← List.drop_drop, hd, List.drop_append, List.drop_of_length_le (by omega), show (decDigits r.1).length + 1 - (decDigits r.1).length = 1 from by omega]
        rfl
      rw [pass_num k hk s hs hne r.2 q2 tail htd (i + (decDigits r.1).length + 1) hd2 (by omega) (r.1 : Int) (by omega) (by omega) _ (by rw [fillL_len, he]) _ (by omega), if_neg ht45]
      refine fin _ _ _ ?_ (by omega) (by omega) (by rw [fillL_len, fillL_len, he]) ?_
      · rw [← List.drop_drop, hd2, List.drop_left]
      · refine set_ext (by rw [fillL_len, fillL_len, he]) (by rw [fillR, fill_len, he]) fun j hj => ?_
        rw [mem_fillR he q1 q2]
        unfold fillL inR
        rw [if_neg (by omega), if_pos (by decide), Int.toNat_natCast, mem_fill _ _ _ _ (by rw [with_len, he]) (by omega), mem_with he (by omega), Bool.or_assoc]
        congr 1
        rw [Bool.eq_iff_iff]
        simp only [Bool.or_eq_true, Bool.and_eq_true, decide_eq_true_eq]
        omega
    · have e1 : rtxt r = decDigits r.1 := by unfold rtxt; rw [if_neg h, List.append_nil]
      have e2 : r.2 = r.1 := by omega
      rw [e1] at hd hlen
      rw [pass_num k hk s hs hne r.1 (by omega) tail htd i hd hi (-1) (by decide) (by decide) e he kk (by omega), if_neg ht45]
      refine fin _ _ _ ?_ (by omega) (by omega) (by rw [fillL_len, he]) ?_
      · rw [← List.drop_drop, hd, List.drop_left]
      · unfold fillL fillR
        rw [if_pos (by decide), e2, show r.1 + 1 - r.1 = 1 from by omega]
        rfl
theorem rparse_nil (k : Nat) : dictumref05_Parse.l1 (k + 2) [] (k + 2) 0 (-1) 0 Z16 = some (.inr Z16) := rfl
theorem rparse_can {e : List UInt64} (he : e.length = 16) {k : Nat} (hk : 1100 < k) (hs : (txt e).length ≤ 100000000) (hkk : (txt e).length + 1 < k) : dictumref05_Parse.f k (txt e) = some (e, 0) := by
  unfold dictumref05_Parse.f
  have main : dictumref05_Parse.l1 k (txt e) k 0 (-1) 0 (List.replicate 16 (0 : UInt64)) = some (.inr e) := by
    by_cases h0 : txt e = []
    · obtain ⟨m, rfl⟩ : ∃ m, k = m + 2 := ⟨k - 2, by omega⟩
      rw [h0, txt_nil he h0]
      exact rparse_nil m
    · have hne : runs e 1025 0 ≠ [] := fun h => h0 (by unfold txt; rw [h]; rfl)
      have := rruns k hk (txt e) hs h0 (runs e 1025 0) 0 k Z16 hne (fun r hr => (runs_lt he 1025 0 r hr).2) (by rw [List.drop_zero]; rfl) (Nat.zero_le _) (by omega) z16_len
      rw [fill_runs he] at this
      exact this
  rw [main, bind_some']
  simp only
  rw [rtext_f he hk, bind_some', show (!(txt e == txt e)) = false from by simp]
  rfl
theorem rparse_any {s : List UInt8} (hs : s.length ≤ 100000000) {k : Nat} (hk : 1100 < k) (hkk : s.length + 1 < k) :
    dictumref05_Parse.f k s = some (Z16, 50) ∨ ∃ e, e.length = 16 ∧ txt e = s ∧ dictumref05_Parse.f k s = some (e, 0) := by
  have main : dictumref05_Parse.l1 k s k 0 (-1) 0 (List.replicate 16 (0 : UInt64)) = some (.inl (Z16, 50)) ∨ ∃ f, f.length = 16 ∧ dictumref05_Parse.l1 k s k 0 (-1) 0 (List.replicate 16 (0 : UInt64)) = some (.inr f) := by
    by_cases h0 : s = []
    · obtain ⟨m, rfl⟩ : ∃ m, k = m + 2 := ⟨k - 2, by omega⟩
      rw [h0]
      exact Or.inr ⟨Z16, z16_len, rparse_nil m⟩
    · exact rparse_any_l1 k hk s hs h0 (s.length + 1) k 0 0 (-1) Z16 (by omega) (by omega) (Nat.le_refl _) (by omega) (by decide) (by decide) z16_len
  unfold dictumref05_Parse.f
  rcases main with h | ⟨f, hf, h⟩
  · rw [h]
    exact Or.inl rfl
  · rw [h, bind_some']
    simp only
    rw [rtext_f hf hk, bind_some']
    by_cases ht : txt f = s
    · rw [show (!(txt f == s)) = false from by simp [ht]]
      exact Or.inr ⟨f, hf, ht, rfl⟩
    · rw [show (!(txt f == s)) = true from by simp [ht]]
      exact Or.inl rfl
end Go.Proofs.YtfdocckaobmgeaaDoor.X
