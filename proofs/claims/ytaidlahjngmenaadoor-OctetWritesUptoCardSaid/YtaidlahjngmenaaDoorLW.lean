/- Layer 1, plain: numbers as bytes. -/
import Derived.Test.YtaidlahjngmenaaDoorLA
set_option linter.unusedVariables false
set_option linter.unusedSimpArgs false
namespace Go.Proofs.YtaidlahjngmenaaDoor.X
open Go Go.RowKit Go.Proofs.YtaidlahjngmenaaDoor.SX

/-! Numbers -/
/-- A number's bytes. -/
def numOf : Nat → UInt64 → List UInt8
  | 0, _ => []
  | n + 1, v => if 128 ≤ v.toNat then (ofI8 (v.toNat : Int) ||| 128) :: numOf n (shr64 v 7) else [ofI8 (v.toNat : Int)]
theorem shr7 (v : UInt64) : (shr64 v 7).toNat = v.toNat / 128 := by
  have := v.toNat_lt
  simp only [shr64]
  rw [UInt64.toNat_ofNat', Nat.mod_eq_of_lt (by omega)]
theorem shr7_lt {v : UInt64} {n : Nat} (h : v.toNat < 128 ^ (n + 1)) : (shr64 v 7).toNat < 128 ^ n := by
  rw [shr7]
  rw [Nat.pow_succ] at h
  exact Nat.div_lt_of_lt_mul (by omega)
theorem numOf_len : ∀ (n : Nat) (v : UInt64), (numOf n v).length ≤ n
  | 0, _ => Nat.le_refl _
  | n + 1, v => by
    unfold numOf
    split
    · simp [numOf_len n (shr64 v 7)]
    · simp
theorem u64_lt10 (v : UInt64) : v.toNat < 128 ^ 10 := by
  have := v.toNat_lt
  have h : (18446744073709551616 : Nat) ≤ 128 ^ 10 := by decide
  omega
theorem wnum_l1 (k : Nat) : ∀ (n : Nat) (v : UInt64) (w : T_octet_Writer) (m : Nat), v.toNat < 128 ^ m → m ≤ n → 0 < n → w.f_B.length + m ≤ 140737488355328 →
    ∃ v' w', octet_Writer_Num.l1 k n v w = some (v', w') ∧ w'.f_B ++ [ofI8 (v'.toNat : Int)] = w.f_B ++ numOf (m + 1) v ∧ w'.f_B.length ≤ w.f_B.length + m := by
  intro n
  induction n with
  | zero => intro v w m _ _ h; omega
  | succ n ih =>
    intro v w m hv hm _ hl
    rw [octet_Writer_Num.l1.eq_2]
    by_cases h : 128 ≤ v.toNat
    · have h1 : (128 : UInt64) ≤ v := UInt64.le_iff_toNat_le.2 (by simpa using h)
      rw [decide_eq_true h1, cond_true]
      obtain ⟨m, rfl⟩ : ∃ q, m = q + 1 := by
        cases m with
        | zero => simp at hv; omega
        | succ q => exact ⟨q, rfl⟩
      have hn : 0 < n := by
        cases m with
        | zero => simp at hv; omega
        | succ q => omega
      unfold octet_Writer_U8.f
      rw [chk_of (by simp; omega)]
      simp only [Option.bind_some]
      obtain ⟨v', w', e, hw, hlen⟩ := ih (shr64 v 7) ⟨w.f_B ++ [ofI8 (v.toNat : Int) ||| 128]⟩ m (shr7_lt hv) (by omega) hn (by simp; omega)
      refine ⟨v', w', e, ?_, by simp at hlen; omega⟩
      rw [hw, numOf.eq_2 v (m + 1), if_pos h]
      simp
    · have h1 : ¬ (128 : UInt64) ≤ v := fun h2 => h (by simpa using UInt64.le_iff_toNat_le.1 h2)
      rw [decide_eq_false h1, cond_false]
      exact ⟨v, w, rfl, by rw [numOf.eq_2, if_neg h], by omega⟩
theorem wnum_f (v : UInt64) (w : T_octet_Writer) (hl : w.f_B.length + 11 ≤ 140737488355328) (k : Nat) (hk : 10 ≤ k) : octet_Writer_Num.f k w v = some ⟨w.f_B ++ numOf 11 v⟩ := by
  obtain ⟨v', w', e, hw, hlen⟩ := wnum_l1 k k v w 10 (u64_lt10 v) hk (by omega) (by omega)
  unfold octet_Writer_Num.f
  rw [e]
  simp only [Option.bind_some]
  unfold octet_Writer_U8.f
  rw [chk_of (by simp; omega)]
  simp only [Option.bind_some]
  rw [hw]
set_option maxRecDepth 20000 in
theorem low7 (v : UInt64) : (ofI8 ((v &&& 127).toNat : Int) ||| 128) = (ofI8 (v.toNat : Int) ||| 128) := by
  have h1 : ofI8 ((v &&& 127).toNat : Int) = ofI8 (v.toNat : Int) &&& 127 := by
    apply UInt8.toNat_inj.1
    simp only [ofI8, UInt64.toNat_and, UInt8.toNat_and, UInt8.toNat_ofNat']
    have e1 : ∀ n : Nat, ((n : Int) % 256).toNat = n % 256 := by omega
    rw [e1, e1]
    rw [show (127 : UInt64).toNat = 2 ^ 7 - 1 from rfl, show (127 : UInt8).toNat = 2 ^ 7 - 1 from rfl, Nat.and_two_pow_sub_one_eq_mod, Nat.and_two_pow_sub_one_eq_mod]
    omega
  rw [h1]
  have : ∀ x : Fin 256, (UInt8.ofNat x.val &&& 127) ||| 128 = UInt8.ofNat x.val ||| 128 := by decide
  generalize ofI8 (v.toNat : Int) = x
  have := this ⟨x.toNat, x.toNat_lt⟩
  simpa using this
theorem rnum_l1 (k : Nat) : ∀ (n : Nat) (v : UInt64) (b : List UInt8) (m : Nat), v.toNat < 128 ^ m → m ≤ n → 0 < n → b.length + m ≤ 140737488355328 →
    ∃ v' b', dictumref01_Num.l1 k n v b = some (v', b') ∧ b' ++ [ofI8 (v'.toNat : Int)] = b ++ numOf (m + 1) v ∧ b'.length ≤ b.length + m := by
  intro n
  induction n with
  | zero => intro v w m _ _ h; omega
  | succ n ih =>
    intro v b m hv hm _ hl
    rw [dictumref01_Num.l1.eq_2]
    by_cases h : 128 ≤ v.toNat
    · have h1 : (127 : UInt64) < v := UInt64.lt_iff_toNat_lt.2 (by show 127 < v.toNat; omega)
      rw [decide_eq_true h1, cond_true]
      obtain ⟨m, rfl⟩ : ∃ q, m = q + 1 := by
        cases m with
        | zero => simp at hv; omega
        | succ q => exact ⟨q, rfl⟩
      have hn : 0 < n := by
        cases m with
        | zero => simp at hv; omega
        | succ q => omega
      rw [chk_of (by simp; omega)]
      simp only [Option.bind_some]
      obtain ⟨v', w', e, hw, hlen⟩ := ih (shr64 v 7) (b ++ [ofI8 ((v &&& 127).toNat : Int) ||| 128]) m (shr7_lt hv) (by omega) hn (by simp; omega)
      refine ⟨v', w', e, ?_, by simp at hlen; omega⟩
      rw [hw, numOf.eq_2 v (m + 1), if_pos h, low7]
      simp
    · have h1 : ¬ (127 : UInt64) < v := fun h2 => h (by have := UInt64.lt_iff_toNat_lt.1 h2; change 127 < v.toNat at this; omega)
      rw [decide_eq_false h1, cond_false]
      exact ⟨v, b, rfl, by rw [numOf.eq_2, if_neg h], by omega⟩
theorem rnum_f (v : UInt64) (k : Nat) (hk : 10 ≤ k) : dictumref01_Num.f k v = some (numOf 11 v) := by
  obtain ⟨v', b', e, hw, hlen⟩ := rnum_l1 k k v [] 10 (u64_lt10 v) hk (by omega) (by simp)
  unfold dictumref01_Num.f
  rw [e]
  simp only [Option.bind_some]
  simp only [List.length_nil] at hlen
  rw [chk_of (by simp; omega)]
  simp only [Option.bind_some]
  rw [hw, List.nil_append]

end Go.Proofs.YtaidlahjngmenaaDoor.X
