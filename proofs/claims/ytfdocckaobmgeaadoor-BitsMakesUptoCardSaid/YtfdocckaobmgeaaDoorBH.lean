/- Layer 5, plain: the law of making. -/
import Derived.Test.YtfdocckaobmgeaaDoorBG
import Derived.Test.YtfdocckaobmgeaaDoorBM
import Derived.Test.YtfdocckaobmgeaaDoorBEq
import Derived.Test.YtfdocckaobmgeaaDoorBEr
import Derived.Test.YtfdocckaobmgeaaDoorBAl
set_option linter.unusedVariables false
set_option linter.unusedSimpArgs false
namespace Go.Proofs.YtfdocckaobmgeaaDoor.X
open Go Go.RowKit Go.Proofs.YtfdocckaobmgeaaDoor.SX
def drB (e : List UInt64) (a : Int) : List UInt64 := miB e (ofP [a]).1
theorem ofP1_len (a : Int) : (ofP [a]).1.length = 16 := by
  rcases int_cases a with h | ⟨n, rfl, hn⟩
  · rw [ofP_no h]; rfl
  · rw [ofP_one n hn]; exact with_len n
theorem drop_f {e : List UInt64} (he : e.length = 16) (a : Int) {k : Nat} (hk : 16 < k) : bits_Drop.f k e a = some (drB e a) := by
  unfold bits_Drop.f drB
  rw [of_f [a] (by simp) (by simp; omega), bind_some', minus_f he (ofP1_len a) hk]
  rfl
theorem mi_z {e : List UInt64} (he : e.length = 16) : miB e Z16 = e := set_ext (mi_len he rfl) he fun j hj => by rw [mem_mi he rfl hj, mem_z]; cases mem e j <;> rfl
theorem mem_xset {e : List UInt64} (he : e.length = 16) {n : Nat} (hn : n < 1024) (j : Nat) : mem (e.set (n / 64) (e.getD (n / 64) 0 ^^^ shl64 1 (n % 64))) j = (mem e j ^^ decide (j = n)) := by
  unfold mem
  rw [getD_set e _ _ _ (by omega)]
  by_cases h : j / 64 = n / 64
  · rw [if_pos h, UInt64.toNat_xor, Nat.testBit_xor, bit1 (Nat.mod_lt _ (by decide)) (Nat.mod_lt _ (by decide)), h]
    congr 1
    rw [decide_eq_decide]
    omega
  · rw [if_neg h, decide_eq_false (by intro he; rw [he] at h; exact h rfl), Bool.xor_false]
theorem rdrop_f {e : List UInt64} (he : e.length = 16) (a : Int) : dictumref05_Drop.f e a = some (drB e a) := by
  unfold dictumref05_Drop.f drB
  rw [rhas_f he, bind_some']
  rcases int_cases a with h | ⟨n, rfl, hn⟩
  · rw [memI_no e h, cond_false, ofP_no h, mi_z he]
  · rw [memI_nat e hn, ofP_one n hn]
    cases hm : mem e n
    · rw [cond_false]
      congr 1
      refine (set_ext (mi_len he (with_len n)) he fun j hj => ?_).symm
      rw [mem_mi he (with_len n) hj, mem_with z16_len hn, mem_z, Bool.false_or]
      by_cases h : j = n
      · subst h; rw [hm]; rfl
      · rw [decide_eq_false h]; cases mem e j <;> rfl
    · rw [cond_true, ix_word he hn, bind_some', bind_some', tdiv_nat hn, tmod_nat, ofI_nat _ (by omega), Int.toNat_natCast]
      congr 1
      refine set_ext (by simp [he]) (mi_len he (with_len n)) fun j hj => ?_
      rw [mem_mi he (with_len n) hj, mem_with z16_len hn, mem_z, Bool.false_or, mem_xset he hn]
      by_cases h : j = n
      · subst h; rw [hm, decide_eq_true rfl]; rfl
      · rw [decide_eq_false h]; cases mem e j <;> rfl
theorem list_l1 (k : Nat) : ∀ (l acc : List Int), acc.length + l.length ≤ 1024 → bits_List.l1 k l acc = some (acc ++ l)
  | [], acc, _ => by rw [bits_List.l1.eq_1, List.append_nil]
  | a :: l, acc, h => by
    rw [List.length_cons] at h
    rw [bits_List.l1.eq_2, chk_of (decide_eq_true (by simp; omega)), bind_some', list_l1 k l _ (by simp; omega), List.append_assoc]
    rfl
theorem list_f {e : List UInt64} (he : e.length = 16) {k : Nat} (hk : 1024 < k) : bits_List.f k e = some (mb e 0) := by
  unfold bits_List.f bits_All.f
  have h := seq_f he (k := k) (by omega) k 0 (by omega)
  rw [show ((0 : Nat) : Int) = 0 from rfl] at h
  rw [bind_some', h, bind_some', list_l1 k _ [] (by have := mb_le e 0; simpa using this)]
  rfl
theorem ints_l1 (k : Nat) (a : List Int) (hm : a.length ≤ 9223372036854775806) : ∀ (n i : Nat), i ≤ a.length → a.length - i < n → dictumref03_Ints.l1 k a a n (i : Int) = some (.inr ()) := by
  intro n
  induction n with
  | zero => intro i _ h; omega
  | succ n ih =>
    intro i hi hn
    rw [dictumref03_Ints.l1.eq_2]
    by_cases h : i < a.length
    · rw [decide_eq_true (by omega : (i : Int) < (a.length : Int)), cond_true, ix_nat, List.getElem?_eq_getElem h, bind_some', bind_some', show (a[i] != a[i]) = false from by simp, cond_false, wsucc i (by omega)]
      exact ih (i + 1) (by omega) (by omega)
    · rw [decide_eq_false (by omega), cond_false]
theorem ints_f (a : List Int) (hm : a.length ≤ 9223372036854775806) {k : Nat} (hk : a.length < k) : dictumref03_Ints.f k a a = some true := by
  unfold dictumref03_Ints.f
  have h := ints_l1 k a hm k 0 (Nat.zero_le _) (by omega)
  rw [show ((0 : Nat) : Int) = 0 from rfl] at h
  rw [show ((a.length : Int) != (a.length : Int)) = false from by simp, cond_false, h]
  rfl
theorem bulk_len : ∀ l : List Int, l.length ≤ (l.map (fun a => bulk1 a)).sum
  | [] => Nat.zero_le _
  | a :: l => by
    have := bulk_len l
    simp only [List.map_cons, List.sum_cons, List.length_cons, bulk1] at this ⊢
    omega
theorem BitsMakes_pure : ∀ (x0 : (List Int)) (x1 : (List UInt64)) (x2 : Int), (bulkL bulk1) x0 + (bulkL bulk1) x1 + bulk1 x2 ≤ 1048576 → (okL (okI .i64)) x0 → (fun xs => xs.length = 16 ∧ okL okT xs) x1 → (okI .i64) x2 → ∃ k, dictumlaw05_BitsMakes.f k x0 x1 x2 = some true := by
  intro x0 x1 x2 hb _ h1 _
  obtain ⟨hl, _⟩ := h1
  have h0 := bulk_len x0
  simp only [bulkL] at hb
  have h0 : x0.length ≤ 1048576 := by
    have : x0.length ≤ (x0.map bulk1).sum := h0
    omega
  obtain ⟨k0, hk0⟩ := heads_ev
  refine ⟨max k0 1048600, ?_⟩
  have hh := hk0 (max k0 1048600) (by omega)
  have hk : 1048600 ≤ max k0 1048600 := Nat.le_max_right _ _
  generalize max k0 1048600 = k at hh hk
  have hm := mb_le x1 0
  unfold dictumlaw05_BitsMakes.f
  rw [List.nil_append, chk_of (decide_eq_true (by simp; omega)), bind_some', of_f x0 (by omega) (by omega), bind_some', rof_f x0 (by omega) (by omega), bind_some', put_f hl x2 (by omega), bind_some', rput_f hl x2, bind_some']
  simp only [beq_self_eq_true, cond_true]
  rw [has_f hl, bind_some', rhas_f hl, bind_some']
  simp only [beq_self_eq_true, cond_true]
  rw [drop_f hl x2 (by omega), bind_some', rdrop_f hl x2, bind_some']
  simp only [beq_self_eq_true, cond_true]
  rw [list_f hl (by omega), bind_some', rlist_f hl (by omega), bind_some', ints_f _ (by omega) (by omega), bind_some', cond_true, ints_f _ (by omega) (by omega), bind_some', cond_true, hh]
  rfl
end Go.Proofs.YtfdocckaobmgeaaDoor.X
