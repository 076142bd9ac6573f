/- Layer 5, plain: the runs of a set; its text. -/
import Derived.Test.YtfdocckaobmgeaaDoorBTj
import Derived.Test.YtfdocckaobmgeaaDoorBD
import Derived.Test.YtfdocckaobmgeaaDoorBDec
set_option linter.unusedVariables false
set_option linter.unusedSimpArgs false
namespace Go.Proofs.YtfdocckaobmgeaaDoor.X
open Go Go.RowKit Go.Proofs.YtfdocckaobmgeaaDoor.SX
open Go.Lib (decDigits itoa)
/-- The last of the run that n is in. -/
def endR (e : List UInt64) : Nat → Nat → Nat
  | 0, n => n
  | d + 1, n => if mem e (n + 1) then endR e d (n + 1) else n
theorem endR_ge (e : List UInt64) : ∀ d n, n ≤ endR e d n
  | 0, n => Nat.le_refl _
  | d + 1, n => by
    rw [endR]
    split
    · have := endR_ge e d (n + 1); omega
    · exact Nat.le_refl _
theorem endR_in (e : List UInt64) : ∀ d n i, n < i → i ≤ endR e d n → mem e i = true
  | 0, n, i, h1, h2 => by rw [endR] at h2; omega
  | d + 1, n, i, h1, h2 => by
    rw [endR] at h2
    split at h2
    · rename_i h
      by_cases hi : i = n + 1
      · rw [hi]; exact h
      · exact endR_in e d (n + 1) i (by omega) h2
    · omega
def en (e : List UInt64) (n : Nat) : Nat := endR e (1024 - n) n
theorem en_ge (e : List UInt64) (n : Nat) : n ≤ en e n := endR_ge e _ n
theorem en_in (e : List UInt64) (n i : Nat) (h1 : n < i) (h2 : i ≤ en e n) : mem e i = true := endR_in e _ n i h1 h2
theorem endR_le (e : List UInt64) (he : e.length = 16) : ∀ d n, n < 1024 → endR e d n < 1024
  | 0, n, h => h
  | d + 1, n, h => by
    rw [endR]
    split
    · rename_i h2
      by_cases h3 : n + 1 < 1024
      · exact endR_le e he d (n + 1) h3
      · rw [mem_hi he (by omega)] at h2; cases h2
    · exact h
theorem en_lt {e : List UInt64} (he : e.length = 16) {n : Nat} (h : n < 1024) : en e n < 1024 := endR_le e he _ n h
theorem endR_stop (e : List UInt64) (he : e.length = 16) : ∀ d n, n < 1024 → 1024 - n ≤ d → mem e (endR e d n + 1) = false
  | 0, n, h, h2 => by omega
  | d + 1, n, h, h2 => by
    rw [endR]
    split
    · rename_i h3
      by_cases h4 : n + 1 < 1024
      · exact endR_stop e he d (n + 1) h4 (by omega)
      · rw [mem_hi he (by omega)] at h3; cases h3
    · rename_i h3; simpa using h3
theorem en_stop {e : List UInt64} (he : e.length = 16) {n : Nat} (h : n < 1024) : mem e (en e n + 1) = false := endR_stop e he _ n h (Nat.le_refl _)
def runs (e : List UInt64) : Nat → Nat → List (Nat × Nat)
  | 0, _ => []
  | d + 1, n => match nx e n with
    | none => []
    | some j => (j, en e j) :: runs e d (en e j + 1)
/-- A run's text. -/
def rtxt (r : Nat × Nat) : List UInt8 := decDigits r.1 ++ (if r.2 > r.1 then 45 :: decDigits r.2 else [])
def txt (e : List UInt64) : List UInt8 := glue 44 ((runs e 1025 0).map rtxt)
theorem dd4 {n : Nat} (h : n < 1024) : (decDigits n).length ≤ 4 := by
  have h10 : (10 : Nat) ^ (3 + 1) = 10000 := by decide
  exact dd_len 3 n (by omega)
theorem rtxt_len {r : Nat × Nat} (h1 : r.1 < 1024) (h2 : r.2 < 1024) : (rtxt r).length ≤ 9 := by
  have := dd4 h1
  have := dd4 h2
  unfold rtxt
  split
  · rw [List.length_append, List.length_cons]; omega
  · rw [List.length_append, List.length_nil]; omega
theorem runs_lt {e : List UInt64} (he : e.length = 16) : ∀ d n, ∀ r ∈ runs e d n, n ≤ r.1 ∧ r.1 ≤ r.2 ∧ r.2 < 1024
  | 0, n, r, h => by cases h
  | d + 1, n, r, h => by
    rw [runs] at h
    rcases nx_cases e n with ⟨j, p1, p2, p3, p4, p5⟩ | ⟨p1, p2⟩
    · rw [p5] at h
      rcases List.mem_cons.1 h with h | h
      · subst h
        exact ⟨p1, en_ge e j, en_lt he p2⟩
      · have := runs_lt he d _ r h
        have h2 := en_ge e j
        exact ⟨by omega, this.2⟩
    · rw [p2] at h; cases h
theorem runs_len {e : List UInt64} (he : e.length = 16) : ∀ d n, (runs e d n).length ≤ 1024 - n
  | 0, n => Nat.zero_le _
  | d + 1, n => by
    rw [runs]
    rcases nx_cases e n with ⟨j, p1, p2, p3, p4, p5⟩ | ⟨p1, p2⟩
    · rw [p5]
      have h1 := runs_len he d (en e j + 1)
      have h2 := en_ge e j
      simp only [List.length_cons]
      omega
    · rw [p2]; exact Nat.zero_le _
theorem runs_big {e : List UInt64} (he : e.length = 16) : ∀ d d' n, 1024 - n < d → 1024 - n < d' → runs e d n = runs e d' n
  | 0, _, n, h, _ => by omega
  | _, 0, n, _, h => by omega
  | d + 1, d' + 1, n, h, h' => by
    rw [runs, runs]
    rcases nx_cases e n with ⟨j, p1, p2, p3, p4, p5⟩ | ⟨p1, p2⟩
    · rw [p5]
      have h2 := en_ge e j
      simp only
      rw [runs_big he d d' _ (by omega) (by omega)]
    · rw [p2]
theorem total_le (l : List (List UInt8)) (h : ∀ x ∈ l, x.length ≤ 9) : total l ≤ 9 * l.length := by
  induction l with
  | nil => exact Nat.zero_le _
  | cons a l ih =>
    have h1 := h a (List.mem_cons_self ..)
    have h2 := ih fun x hx => h x (List.mem_cons_of_mem _ hx)
    show a.length + total l ≤ 9 * (l.length + 1)
    omega
theorem text_l2 {e : List UInt64} (he : e.length = 16) (k : Nat) : ∀ (d n kk : Nat), 1024 - n ≤ d → d < kk → n < 1024 → bits_Text.l2 k e kk (n : Int) = some ((endR e d n : Nat) : Int)
  | 0, n, kk, h1, h2, h3 => by omega
  | d + 1, n, kk, h1, h2, h3 => by
    obtain ⟨kk, rfl⟩ : ∃ m, kk = m + 1 := ⟨kk - 1, by omega⟩
    rw [bits_Text.l2.eq_2, wsucc n (by omega), has_f he, bind_some', endR]
    by_cases h : n + 1 < 1024
    · rw [memI_nat e h]
      cases hm : mem e (n + 1)
      · rw [cond_false]; rfl
      · rw [cond_true, if_pos rfl]
        exact text_l2 he k d (n + 1) kk (by omega) (by omega) h
    · rw [memI_no e (by omega), mem_hi he (by omega)]
      rfl
theorem text_l1 {e : List UInt64} (he : e.length = 16) {k : Nat} (hk : 1100 < k) : ∀ (d n kk : Nat) (acc : List (List UInt8)), d < kk → acc.length ≤ n → 1024 - n < d → bits_Text.l1 k e kk acc (nxP e n).1 (nxP e n).2 = some (acc ++ (runs e d n).map rtxt)
  | 0, n, kk, acc, h1, h2, h3 => by omega
  | d + 1, n, kk, acc, h1, h2, h3 => by
    obtain ⟨kk, rfl⟩ : ∃ m, kk = m + 1 := ⟨kk - 1, by omega⟩
    rw [bits_Text.l1.eq_2, runs]
    unfold nxP
    rcases nx_cases e n with ⟨j, p1, p2, p3, p4, p5⟩ | ⟨p1, p2⟩
    · rw [p5]
      simp only [cond_true]
      have g1 := en_ge e j
      have g2 := en_lt he p2
      rw [text_l2 he k (1024 - j) j k (Nat.le_refl _) (by omega) p2, bind_some', dec_f _ (by omega) (by omega), bind_some', itoa_nat]
      rw [show endR e (1024 - j) j = en e j from rfl]
      have d1 := dd4 p2
      have d2 := dd4 g2
      have ht : ((bif (decide (((en e j : Nat) : Int) > (j : Int))) then (octet_Dec.f ((en e j : Nat) : Int)).bind fun z173 => (chk (decide (([45] : List UInt8).length + z173.length ≤ 9223372036854775807))).bind fun _ => (chk (decide ((decDigits j).length + (([45] : List UInt8) ++ z173).length ≤ 9223372036854775807))).bind fun _ => some (decDigits j ++ (([45] : List UInt8) ++ z173)) else some (decDigits j)) : Option (List UInt8)) = some (rtxt (j, en e j)) := by
        unfold rtxt
        by_cases h : en e j > j
        · rw [decide_eq_true (by omega), cond_true, dec_f _ (by omega) (by omega), bind_some', itoa_nat, chk_of (decide_eq_true (by rw [List.length_singleton]; omega)), bind_some', chk_of (decide_eq_true (by rw [List.length_append, List.length_singleton]; omega)), bind_some', if_pos h]
          rfl
        · rw [decide_eq_false (by omega), cond_false, if_neg h, List.append_nil]
      rw [ht, bind_some', chk_of (decide_eq_true (by rw [List.length_singleton]; omega)), bind_some', wsucc _ (by omega), next_f he _ (by omega), bind_some', Int.toNat_natCast]
      rw [text_l1 he hk d (en e j + 1) kk _ (by omega) (by rw [List.length_append, List.length_singleton]; omega) (by omega), List.append_assoc]
      rfl
    · rw [p2]
      simp only [cond_false, List.map_nil, List.append_nil]
theorem text_f {e : List UInt64} (he : e.length = 16) {k : Nat} (hk : 1100 < k) : bits_Text.f k e = some (txt e) := by
  unfold bits_Text.f txt
  have hr := runs_len he 1025 0
  have hs : ((runs e 1025 0).map rtxt).length ≤ 1024 := by rw [List.length_map]; omega
  have ht := total_le ((runs e 1025 0).map rtxt) fun x hx => by
    obtain ⟨r, hr, rfl⟩ := List.mem_map.1 hx
    have := runs_lt he 1025 0 r hr
    exact rtxt_len (by omega) (by omega)
  rw [next_f he _ (by omega), bind_some', show (0 : Int).toNat = 0 from rfl, text_l1 he hk 1025 0 k [] (by omega) (Nat.zero_le _) (by omega), bind_some', List.nil_append, sj_f 44 k _ (by omega) (by omega) (by omega)]
  rfl
end Go.Proofs.YtfdocckaobmgeaaDoor.X
