/- Layer 5, plain: sets made of numbers. -/
import Derived.Test.YtfdocckaobmgeaaDoorBB
set_option linter.unusedVariables false
set_option linter.unusedSimpArgs false
namespace Go.Proofs.YtfdocckaobmgeaaDoor.X
open Go Go.RowKit Go.Proofs.YtfdocckaobmgeaaDoor.SX
def ofS (e : List UInt64) : List Int → Option (List UInt64)
  | [] => some e
  | a :: t => if 0 ≤ a ∧ a < 1024 then ofS (withB e a.toNat) t else none
theorem of_l1 (k : Nat) (l : List Int) (hm : l.length ≤ 9223372036854775806) : ∀ (n i : Nat) (e : List UInt64), e.length = 16 → i ≤ l.length → l.length - i < n →
    bits_Of.l1 k l n (i : Int) e = some (match ofS e (l.drop i) with | some f => .inr f | none => .inl (Z16, 50)) := by
  intro n
  induction n with
  | zero => intro i e _ _ h; omega
  | succ n ih =>
    intro i e he hi hn
    rw [bits_Of.l1.eq_2]
    by_cases h : i < l.length
    · rw [decide_eq_true (by omega : (i : Int) < (l.length : Int)), cond_true, ix_nat, List.getElem?_eq_getElem h, bind_some', inside_f, bind_some', drop_cons h, ofS]
      rcases int_cases l[i] with hh | ⟨m, hm1, hm2⟩
      · rw [decide_eq_false hh, if_neg hh]
        rfl
      · rw [hm1, decide_eq_true (by omega), if_pos (by omega), show (!true) = false from rfl, cond_false, ix_word he hm2, bind_some', tmod_nat, chk_of (decide_eq_true (by omega)), bind_some', bind_some', wsucc i (by omega), tdiv_nat hm2]
        exact ih (i + 1) (withB e m) (by rw [with_len, he]) (by omega) (by omega)
    · have h0 : i = l.length := by omega
      subst h0
      rw [decide_eq_false (by omega), cond_false, List.drop_length]
      rfl
theorem ofS_len : ∀ (l : List Int) (e f : List UInt64), e.length = 16 → ofS e l = some f → f.length = 16
  | [], e, f, he, h => by cases h; exact he
  | a :: t, e, f, he, h => by
    rw [ofS] at h
    split at h
    · exact ofS_len t _ f (by rw [with_len, he]) h
    · cases h
def ofP (l : List Int) : List UInt64 × Int := match ofS Z16 l with | some f => (f, 0) | none => (Z16, 50)
theorem of_f (l : List Int) (hm : l.length ≤ 9223372036854775806) {k : Nat} (hk : l.length < k) : bits_Of.f k l = some (ofP l) := by
  unfold bits_Of.f ofP
  have := of_l1 k l hm k 0 Z16 rfl (Nat.zero_le _) (by omega)
  rw [show ((0 : Nat) : Int) = 0 from rfl, List.drop_zero] at this
  rw [show List.replicate 16 (0 : UInt64) = Z16 from rfl, this]
  cases ofS Z16 l <;> rfl
theorem ofP_one (n : Nat) (hn : n < 1024) : ofP [(n : Int)] = (withB Z16 n, 0) := by
  unfold ofP
  rw [ofS, if_pos (by omega), ofS]
  rfl
theorem ofP_no {a : Int} (h : ¬ (0 ≤ a ∧ a < 1024)) : ofP [a] = (Z16, 50) := by
  unfold ofP
  rw [ofS, if_neg h]
theorem un_one {e : List UInt64} (he : e.length = 16) {n : Nat} (hn : n < 1024) : unB e (withB Z16 n) = withB e n :=
  set_ext (un_len he (with_len n)) (by rw [with_len, he]) fun j hj => by
    rw [mem_un he (with_len n) hj, mem_with z16_len hn, mem_with he hn, mem_z, Bool.false_or]
def putP (e : List UInt64) (a : Int) : List UInt64 × Int := if 0 ≤ a ∧ a < 1024 then (withB e a.toNat, 0) else (Z16, 50)
theorem put_f {e : List UInt64} (he : e.length = 16) (a : Int) {k : Nat} (hk : 16 < k) : bits_Put.f k e a = some (putP e a) := by
  unfold bits_Put.f putP
  rw [of_f [a] (by simp) (by simp; omega), bind_some']
  rcases int_cases a with h | ⟨n, rfl, hn⟩
  · rw [ofP_no h, if_neg h]
    rfl
  · rw [ofP_one n hn, if_pos (by omega), show ((withB Z16 n, (0 : Int)).2 != 0) = false from rfl, cond_false, union_f he (with_len n) hk, un_one he hn]
    rfl
end Go.Proofs.YtfdocckaobmgeaaDoor.X
