/- Layer 2, plain: decimal numerals as tokens. -/
import Derived.Test.YtjhmhdedonibbaaDoorTE
import Derived.Lib.Atoi
import Derived.Lib.ItoaNum
set_option linter.unusedVariables false
set_option linter.unusedSimpArgs false
namespace Go.Proofs.YtjhmhdedonibbaaDoor.X
open Go Go.RowKit Go.Proofs.YtjhmhdedonibbaaDoor.SX
open Go.Lib (digitVal decFrom decNat decDigits itoa)
theorem dd_small {u : Nat} (h : u < 10) : decDigits u = [UInt8.ofNat (48 + u)] := by rw [decDigits, dif_pos h]
theorem dd_big {u : Nat} (h : ¬ u < 10) : decDigits u = decDigits (u / 10) ++ [UInt8.ofNat (48 + u % 10)] := by rw [decDigits, dif_neg h]
theorem dg_nat {d : Nat} (h : d < 10) : (UInt8.ofNat (48 + d)).toNat = 48 + d := by rw [UInt8.toNat_ofNat']; omega
theorem dg_val {d : Nat} (h : d < 10) : digitVal (UInt8.ofNat (48 + d)) = some d := by
  unfold digitVal
  rw [dg_nat h, if_pos (by omega)]
  congr 1
  omega
theorem dg_back {c : UInt8} {d : Nat} (h : digitVal c = some d) : d < 10 ∧ c = UInt8.ofNat (48 + d) := by
  obtain ⟨h1, h2, rfl⟩ := Lib.digitVal_eq h
  refine ⟨by omega, UInt8.toNat_inj.1 ?_⟩
  rw [dg_nat (by omega)]
  omega
theorem decFrom_snoc : ∀ (l : List UInt8) (acc : Nat) (c : UInt8), decFrom acc (l ++ [c]) = match decFrom acc l with | none => none | some m => (digitVal c).map (m * 10 + ·)
  | [], acc, c => by
    show decFrom acc [c] = _
    unfold decFrom
    cases digitVal c with
    | none => rfl
    | some d => rfl
  | b :: t, acc, c => by
    show decFrom acc (b :: (t ++ [c])) = _
    unfold decFrom
    cases digitVal b with
    | none => rfl
    | some d => exact decFrom_snoc t _ c
/-- The first digit. -/
theorem dd_head (u : Nat) : ∃ c t, decDigits u = c :: t ∧ 48 ≤ c.toNat ∧ c.toNat ≤ 57 ∧ (1 ≤ u → c ≠ 48) := by
  induction u using Nat.strongRecOn with
  | _ u ih =>
    by_cases h : u < 10
    · refine ⟨_, _, dd_small h, ?_⟩
      have := dg_nat h
      refine ⟨by omega, by omega, fun h1 e => ?_⟩
      rw [e] at this
      have h48 : (48 : UInt8).toNat = 48 := rfl
      omega
    · obtain ⟨c, t, e, h1, h2, h3⟩ := ih (u / 10) (by omega)
      refine ⟨c, t ++ [UInt8.ofNat (48 + u % 10)], by rw [dd_big h, e]; rfl, h1, h2, fun _ => h3 (by omega)⟩
theorem dd_dec (u : Nat) : decFrom 0 (decDigits u) = some u := by
  induction u using Nat.strongRecOn with
  | _ u ih =>
    by_cases h : u < 10
    · rw [dd_small h]
      unfold decFrom
      rw [dg_val h]
      show some (0 * 10 + u) = _
      congr 1
      omega
    · rw [dd_big h, decFrom_snoc, ih (u / 10) (by omega), dg_val (by omega)]
      show some (u / 10 * 10 + u % 10) = _
      congr 1
      omega
theorem dd_len : ∀ (k u : Nat), u < 10 ^ (k + 1) → (decDigits u).length ≤ k + 1
  | 0, u, h => by rw [dd_small (by simpa using h)]; exact Nat.le_refl _
  | k + 1, u, h => by
    by_cases h1 : u < 10
    · rw [dd_small h1]; simp
    · rw [dd_big h1, List.length_append, List.length_singleton]
      have := dd_len k (u / 10) (by rw [Nat.pow_succ] at h; omega)
      omega
theorem dd_digits (u : Nat) : ∀ c ∈ decDigits u, digB c = true := by
  induction u using Nat.strongRecOn with
  | _ u ih =>
    intro c hc
    by_cases h : u < 10
    · rw [dd_small h, List.mem_singleton] at hc
      subst hc
      have := dg_nat h
      exact digB_iff.2 ⟨by omega, by omega⟩
    · rw [dd_big h, List.mem_append, List.mem_singleton] at hc
      rcases hc with hc | rfl
      · exact ih (u / 10) (by omega) c hc
      · have := dg_nat (d := u % 10) (by omega)
        exact digB_iff.2 ⟨by omega, by omega⟩
theorem numV_app : ∀ (l : List UInt8) (acc : Nat) (c : UInt8), (∀ x ∈ l, digB x = true) → digB c = true → numV acc (l ++ [c]) = numV acc l * 10 + (c.toNat - 48)
  | [], acc, c, _, hc => by
    show numV acc [c] = _
    rw [numV.eq_2, hc]
    rfl
  | a :: t, acc, c, h, hc => by
    show numV acc (a :: (t ++ [c])) = _
    rw [numV.eq_2, numV.eq_2, h a (List.mem_cons_self ..), cond_true, cond_true]
    exact numV_app t _ c (fun x hx => h x (List.mem_cons_of_mem _ hx)) hc
theorem dd_num (u : Nat) : numV 0 (decDigits u) = u := by
  induction u using Nat.strongRecOn with
  | _ u ih =>
    by_cases h : u < 10
    · rw [dd_small h, numV.eq_2]
      have := dg_nat h
      rw [digB_iff.2 ⟨by omega, by omega⟩, this]
      show 0 * 10 + (48 + u - 48) = u
      omega
    · have hd := dg_nat (d := u % 10) (by omega)
      rw [dd_big h, numV_app _ _ _ (dd_digits _) (digB_iff.2 ⟨by omega, by omega⟩), ih (u / 10) (by omega), hd]
      omega
theorem run_all {p : UInt8 → Bool} : ∀ {l : List UInt8}, (∀ c ∈ l, p c = true) → runN p l = l.length
  | [], _ => rfl
  | c :: t, h => by
    rw [runN_cons_t (h c (List.mem_cons_self ..)), run_all (fun x hx => h x (List.mem_cons_of_mem _ hx))]
    rfl
end Go.Proofs.YtjhmhdedonibbaaDoor.X
