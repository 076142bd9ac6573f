/- Layer 5, plain: the document's sets made of numbers. -/
import Derived.Test.YtfdocckaobmgeaaDoorBC
import Derived.Test.YtfdocckaobmgeaaDoorBRh
import Derived.Test.YtfdocckaobmgeaaDoorBRw
set_option linter.unusedVariables false
set_option linter.unusedSimpArgs false
namespace Go.Proofs.YtfdocckaobmgeaaDoor.X
open Go Go.RowKit Go.Proofs.YtfdocckaobmgeaaDoor.SX
theorem rof_l1 (k : Nat) (l : List Int) (hm : l.length ≤ 9223372036854775806) : ∀ (n i : Nat) (e : List UInt64), e.length = 16 → i ≤ l.length → l.length - i < n →
    dictumref05_Of.l1 k l n (i : Int) e = some (match ofS e (l.drop i) with | some f => .inr f | none => .inl (Z16, 50)) := by
  intro n
  induction n with
  | zero => intro i e _ _ h; omega
  | succ n ih =>
    intro i e he hi hn
    rw [dictumref05_Of.l1.eq_2]
    by_cases h : i < l.length
    · rw [decide_eq_true (by omega : (i : Int) < (l.length : Int)), cond_true, ix_nat, List.getElem?_eq_getElem h, bind_some', drop_cons h, ofS]
      rcases int_cases l[i] with hh | ⟨m, hm1, hm2⟩
      · rw [if_neg hh]
        by_cases h0 : l[i] < 0
        · rw [decide_eq_true h0]; rfl
        · rw [decide_eq_false h0, cond_false, bind_some', decide_eq_true (by omega)]; rfl
      · rw [hm1, decide_eq_false (by omega), cond_false, bind_some', decide_eq_false (by omega), bind_some', cond_false, bind_some', rwith_f he hm2, bind_some', if_pos (by omega), wsucc i (by omega)]
        exact ih (i + 1) (withB e m) (by rw [with_len, he]) (by omega) (by omega)
    · have h0 : i = l.length := by omega
      subst h0
      rw [decide_eq_false (by omega), cond_false, List.drop_length]
      rfl
theorem rof_f (l : List Int) (hm : l.length ≤ 9223372036854775806) {k : Nat} (hk : l.length < k) : dictumref05_Of.f k l = some (ofP l) := by
  unfold dictumref05_Of.f ofP
  have := rof_l1 k l hm k 0 Z16 rfl (Nat.zero_le _) (by omega)
  rw [show ((0 : Nat) : Int) = 0 from rfl, List.drop_zero] at this
  rw [show List.replicate 16 (0 : UInt64) = Z16 from rfl, this]
  cases ofS Z16 l <;> rfl
theorem rput_f {e : List UInt64} (he : e.length = 16) (a : Int) : dictumref05_Put.f e a = some (putP e a) := by
  unfold dictumref05_Put.f putP
  rcases int_cases a with h | ⟨n, rfl, hn⟩
  · rw [if_neg h]
    by_cases h0 : a < 0
    · rw [decide_eq_true h0]; rfl
    · rw [decide_eq_false h0, cond_false, bind_some', decide_eq_true (by omega)]; rfl
  · rw [if_pos (by omega), decide_eq_false (by omega), cond_false, bind_some', decide_eq_false (by omega), cond_false, rwith_f he hn]
    rfl
end Go.Proofs.YtfdocckaobmgeaaDoor.X
