/- Layer 5, plain: the document's text of a set. -/
import Derived.Test.YtfdocckaobmgeaaDoorBTc
import Derived.Test.YtfdocckaobmgeaaDoorBRh
set_option linter.unusedVariables false
set_option linter.unusedSimpArgs false
namespace Go.Proofs.YtfdocckaobmgeaaDoor.X
open Go Go.RowKit Go.Proofs.YtfdocckaobmgeaaDoor.SX
open Go.Lib (decDigits itoa)
/-- Does a run begin here? -/
def beg (e : List UInt64) (i : Nat) : Bool := mem e i && !(decide (0 < i) && mem e (i - 1))
def starts (e : List UInt64) : Nat → Nat → List (Nat × Nat)
  | 0, _ => []
  | d + 1, i => if beg e i then (i, en e i) :: starts e d (i + 1) else starts e d (i + 1)
def st (e : List UInt64) (n : Nat) : List (Nat × Nat) := starts e (1024 - n) n
theorem st_end (e : List UInt64) {n : Nat} (h : 1024 ≤ n) : st e n = [] := by
  unfold st; rw [show 1024 - n = 0 from by omega]; rfl
theorem st_in (e : List UInt64) {n : Nat} (h : n < 1024) (hm : beg e n = true) : st e n = (n, en e n) :: st e (n + 1) := by
  unfold st
  rw [show 1024 - n = (1024 - (n + 1)) + 1 from by omega, starts, if_pos hm]
theorem st_out (e : List UInt64) {n : Nat} (h : n < 1024) (hm : beg e n = false) : st e n = st e (n + 1) := by
  unfold st
  rw [show 1024 - n = (1024 - (n + 1)) + 1 from by omega, starts, if_neg (by simp [hm])]
theorem st_skip (e : List UInt64) : ∀ (d n j : Nat), j = n + d → j ≤ 1024 → (∀ i, n ≤ i → i < j → beg e i = false) → st e n = st e j
  | 0, n, j, hd, _, _ => by rw [show j = n from by omega]
  | d + 1, n, j, hd, hj, h => by
    rw [st_out e (by omega) (h n (by omega) (by omega))]
    exact st_skip e d (n + 1) j (by omega) hj fun i a b => h i (by omega) b
theorem beg_out {e : List UInt64} {i : Nat} (h : mem e i = false) : beg e i = false := by unfold beg; rw [h]; rfl
theorem beg_mid {e : List UInt64} {i : Nat} (h0 : 0 < i) (h : mem e (i - 1) = true) : beg e i = false := by
  unfold beg; rw [h, decide_eq_true h0]; cases mem e i <;> rfl
theorem st_runs {e : List UInt64} (he : e.length = 16) : ∀ (D n : Nat), 1024 - n < D → (mem e n = false ∨ n = 0 ∨ mem e (n - 1) = false) → st e n = runs e D n
  | 0, n, h, _ => by omega
  | D + 1, n, h, hc => by
    rw [runs]
    rcases nx_cases e n with ⟨j, p1, p2, p3, p4, p5⟩ | ⟨p1, p2⟩
    · rw [p5]
      have g1 := en_ge e j
      have g2 := en_lt he p2
      have g3 := en_stop he p2
      have hb : beg e j = true := by
        unfold beg
        rw [p3]
        by_cases hj : j = n
        · subst hj
          rcases hc with h | h | h
          · rw [h] at p3; cases p3
          · rw [h]; rfl
          · rw [h, Bool.and_false]; rfl
        · rw [p4 (j - 1) (by omega) (by omega), Bool.and_false]; rfl
      rw [st_skip e (j - n) n j (by omega) (by omega) fun i a b => beg_out (p4 i a b), st_in e p2 hb]
      simp only
      rw [← st_runs he D (en e j + 1) (by omega) (Or.inl g3)]
      congr 1
      refine st_skip e (en e j + 1 - (j + 1)) _ _ (by omega) (by omega) fun i a b => beg_mid (by omega) ?_
      by_cases hi : i = j + 1
      · rw [hi]; exact p3
      · exact en_in e j (i - 1) (by omega) (by omega)
    · rw [p2]
      by_cases h : n ≤ 1024
      · rw [st_skip e (1024 - n) n 1024 (by omega) (by omega) fun i a b => beg_out (p1 i a b), st_end e (by omega)]
      · rw [st_end e (by omega)]
def rt (out : List UInt8) (rs : List (Nat × Nat)) : List UInt8 := rs.foldl (fun o r => (if o = [] then o else o ++ [44]) ++ rtxt r) out
theorem rt_more : ∀ (rs : List (Nat × Nat)) (out : List UInt8), out ≠ [] → rt out rs = out ++ (rs.map rtxt).flatMap (fun y => 44 :: y)
  | [], out, h => by simp [rt]
  | r :: rs, out, h => by
    show rt ((if out = [] then out else out ++ [44]) ++ rtxt r) rs = _
    rw [if_neg h, rt_more rs _ (by simp), List.map_cons, List.flatMap_cons]
    simp
theorem rt_glue (rs : List (Nat × Nat)) : rt [] rs = glue 44 (rs.map rtxt) := by
  cases rs with
  | nil => rfl
  | cons r rs =>
    show rt ((if ([] : List UInt8) = [] then [] else [] ++ [44]) ++ rtxt r) rs = _
    rw [if_pos rfl, List.nil_append, rt_more _ _ (rtxt_ne r)]
    rfl
theorem rtext_l2 {e : List UInt64} (he : e.length = 16) (k : Nat) : ∀ (d n kk : Nat), 1024 - n ≤ d → d < kk → n < 1024 → dictumref05_Text.l2 k e kk (n : Int) = some ((endR e d n : Nat) : Int)
  | 0, n, kk, h1, h2, h3 => by omega
  | d + 1, n, kk, h1, h2, h3 => by
    obtain ⟨kk, rfl⟩ : ∃ m, kk = m + 1 := ⟨kk - 1, by omega⟩
    rw [dictumref05_Text.l2.eq_2, wsucc n (by omega), rhas_f he, bind_some', endR]
    by_cases h : n + 1 < 1024
    · rw [memI_nat e h]
      cases hm : mem e (n + 1)
      · rw [cond_false]; rfl
      · rw [cond_true, if_pos rfl]
        exact rtext_l2 he k d (n + 1) kk (by omega) (by omega) h
    · rw [memI_no e (by omega), mem_hi he (by omega)]
      rfl
theorem beg_f {e : List UInt64} (he : e.length = 16) {i : Nat} (h : i < 1024) : ((dictumref05_Has.f e (i : Int)).bind fun z170 => (bif (!z170) then some true else (dictumref05_Has.f e (wrap64 ((i : Int) - 1))).bind fun z175 => some z175) : Option Bool) = some (!beg e i) := by
  rw [rhas_f he, bind_some', memI_nat e h]
  unfold beg
  cases hm : mem e i
  · rfl
  · rw [show (!true) = false from rfl, cond_false, rhas_f he, bind_some', w64 (by omega) (by omega)]
    congr 1
    by_cases h0 : 0 < i
    · rw [show (i : Int) - 1 = ((i - 1 : Nat) : Int) from by omega, memI_nat e (by omega), decide_eq_true h0]
      simp
    · rw [memI_no e (by omega), decide_eq_false h0]
      rfl
theorem rtext_l1 {e : List UInt64} (he : e.length = 16) {k : Nat} (hk : 1100 < k) : ∀ (d i kk : Nat) (out : List UInt8), d = 1024 - i → d < kk → i ≤ 1024 → out.length ≤ 10 * i → dictumref05_Text.l1 k e kk out (i : Int) = some (rt out (st e i))
  | 0, i, kk, out, h1, h2, h3, h4 => by
    obtain ⟨kk, rfl⟩ : ∃ m, kk = m + 1 := ⟨kk - 1, by omega⟩
    rw [dictumref05_Text.l1.eq_2, decide_eq_false (by omega), cond_false, st_end e (by omega)]
    rfl
  | d + 1, i, kk, out, h1, h2, h3, h4 => by
    obtain ⟨kk, rfl⟩ : ∃ m, kk = m + 1 := ⟨kk - 1, by omega⟩
    have hi : i < 1024 := by omega
    rw [dictumref05_Text.l1.eq_2, decide_eq_true (by omega), cond_true, beg_f he hi, bind_some']
    cases hb : beg e i
    · rw [show (!false) = true from rfl, cond_true, bind_some', wsucc i (by omega), rtext_l1 he hk d (i + 1) kk out (by omega) (by omega) (by omega) (by omega), st_out e hi hb]
    · have g1 := en_ge e i
      have g2 := en_lt he hi
      have d1 := dd4 hi
      have d2 := dd4 g2
      rw [show (!true) = false from rfl, cond_false, rtext_l2 he k (1024 - i) i k (Nat.le_refl _) (by omega) hi, bind_some', show endR e (1024 - i) i = en e i from rfl]
      have hsep : ((bif (!(out == ([] : List UInt8))) then (chk (decide (out.length + ([44] : List UInt8).length ≤ 9223372036854775807))).bind fun _ => some (out ++ ([44] : List UInt8)) else some out) : Option (List UInt8)) = some (if out = [] then out else out ++ [44]) := by
        by_cases h : out = []
        · rw [if_pos h, h]; rfl
        · rw [if_neg h, show (!(out == [])) = true from by simp [h], cond_true, chk_of (decide_eq_true (by rw [List.length_singleton]; omega))]
          rfl
      have hlen : (if out = [] then out else out ++ [44]).length ≤ out.length + 1 := by
        split
        · omega
        · rw [List.length_append, List.length_singleton]; omega
      rw [hsep, bind_some', rdec_f _ (by omega) (by omega) k (by omega), bind_some', itoa_nat]
      have hst : rt out (st e i) = rt ((if out = [] then out else out ++ [44]) ++ rtxt (i, en e i)) (st e (i + 1)) := by rw [st_in e hi hb]; rfl
      have hrl := rtxt_len (r := (i, en e i)) hi g2
      rw [hst]
      generalize (if out = [] then out else out ++ [44]) = o2 at hlen ⊢
      rw [chk_of (decide_eq_true (by omega)), bind_some']
      have hend : ((bif (decide (((en e i : Nat) : Int) > (i : Int))) then (chk (decide ((o2 ++ decDigits i).length + ([45] : List UInt8).length ≤ 9223372036854775807))).bind fun _ => (dictumref01_Dec.f k ((en e i : Nat) : Int)).bind fun z161 => (chk (decide (((o2 ++ decDigits i) ++ ([45] : List UInt8)).length + z161.length ≤ 9223372036854775807))).bind fun _ => some (((o2 ++ decDigits i) ++ ([45] : List UInt8)) ++ z161) else some (o2 ++ decDigits i)) : Option (List UInt8)) = some (o2 ++ rtxt (i, en e i)) := by
        unfold rtxt
        by_cases h : en e i > i
        · rw [decide_eq_true (by omega), cond_true, chk_of (decide_eq_true (by rw [List.length_append, List.length_singleton]; omega)), bind_some', rdec_f _ (by omega) (by omega) k (by omega), bind_some', itoa_nat, chk_of (decide_eq_true (by rw [List.length_append, List.length_append, List.length_singleton]; omega)), bind_some', if_pos h]
          simp
        · rw [decide_eq_false (by omega), cond_false, if_neg h, List.append_nil]
      rw [hend, bind_some', wsucc i (by omega), rtext_l1 he hk d (i + 1) kk _ (by omega) (by omega) (by omega) (by rw [List.length_append]; omega)]
theorem rtext_f {e : List UInt64} (he : e.length = 16) {k : Nat} (hk : 1100 < k) : dictumref05_Text.f k e = some (txt e) := by
  unfold dictumref05_Text.f txt
  have h := rtext_l1 he hk 1024 0 k [] rfl (by omega) (by omega) (Nat.zero_le _)
  rw [show ((0 : Nat) : Int) = 0 from rfl] at h
  rw [h, bind_some', rt_glue, st_runs he 1025 0 (by omega) (Or.inr (Or.inl rfl))]
end Go.Proofs.YtfdocckaobmgeaaDoor.X
