/- Layer 5, plain: the document's joins of sets. -/
import Derived.Test.YtfdocckaobmgeaaDoorBRh
import Derived.Test.YtfdocckaobmgeaaDoorBJm
import Derived.Test.YtfdocckaobmgeaaDoorBJx
set_option linter.unusedVariables false
set_option linter.unusedSimpArgs false
namespace Go.Proofs.YtfdocckaobmgeaaDoor.X
open Go Go.RowKit Go.Proofs.YtfdocckaobmgeaaDoor.SX
theorem runion_f {a b : List UInt64} (ha : a.length = 16) (hb : b.length = 16) {k : Nat} (hk : 16 < k) : dictumref05_Union.f k a b = some (unB a b) := by
  unfold dictumref05_Union.f
  rw [zip_f (· ||| ·) ha hb (dictumref05_Union.l1 k b) (fun _ _ _ => rfl) hk]
  rfl
theorem rmeet_f {a b : List UInt64} (ha : a.length = 16) (hb : b.length = 16) {k : Nat} (hk : 16 < k) : dictumref05_Meet.f k a b = some (meB a b) := by
  unfold dictumref05_Meet.f
  rw [zip_f (· &&& ·) ha hb (dictumref05_Meet.l1 k b) (fun _ _ _ => rfl) hk]
  rfl
theorem rminus_f {a b : List UInt64} (ha : a.length = 16) (hb : b.length = 16) {k : Nat} (hk : 16 < k) : dictumref05_Minus.f k a b = some (miB a b) := by
  unfold dictumref05_Minus.f
  rw [zip_f (fun x y => x &&& ~~~y) ha hb (dictumref05_Minus.l1 k b) (fun _ _ _ => rfl) hk]
  rfl
theorem rsub_f {a b : List UInt64} (ha : a.length = 16) (hb : b.length = 16) {k : Nat} (hk : 16 < k) : dictumref05_Sub.f k a b = some (miB a b == Z16) := by
  unfold dictumref05_Sub.f
  rw [rminus_f ha hb hk]
  rfl
theorem rnext_l1 {e : List UInt64} (he : e.length = 16) (k : Nat) : ∀ (kk n : Nat), 1024 - n < kk → n ≤ 9223372036854775807 → dictumref05_Next.l1 k e kk (n : Int) = some (match nx e n with | some j => .inl ((j : Int), true) | none => .inr ()) := by
  intro kk
  induction kk with
  | zero => intro n h; omega
  | succ kk ih =>
    intro n h hn
    rw [dictumref05_Next.l1.eq_2]
    by_cases h1 : n < 1024
    · rw [decide_eq_true (by omega), cond_true, rhas_f he, bind_some', memI_nat e h1]
      cases hm : mem e n
      · rw [cond_false, wsucc n (by omega), ih (n + 1) (by omega) (by omega)]
        have : nx e n = nx e (n + 1) := by
          unfold nx
          rw [show 1024 - n = (1024 - (n + 1)) + 1 from by omega, nxt, if_neg (by simp [hm])]
        rw [this]
      · rw [cond_true, nx_some (Nat.le_refl n) h1 hm (fun i a b => by omega)]
    · rw [decide_eq_false (by omega), cond_false, nx_none (fun i a b => by omega)]
theorem rnext_f {e : List UInt64} (he : e.length = 16) (a : Int) (ha : a ≤ 9223372036854775807) {k : Nat} (hk : 1024 < k) : dictumref05_Next.f k e a = some (nxP e a.toNat) := by
  unfold dictumref05_Next.f nxP
  rw [show (if a > 0 then a else 0) = ((a.toNat : Nat) : Int) from by split <;> omega, rnext_l1 he k k a.toNat (by omega) (by omega)]
  cases nx e a.toNat <;> rfl
theorem rcmp_l1 {a b : List UInt64} (ha : a.length = 16) (hb : b.length = 16) (k : Nat) : ∀ (kk n : Nat), 1024 - n < kk → n ≤ 1024 → (∀ i, i < n → mem a i = mem b i) → dictumref05_Compare.l1 k a b kk (n : Int) = some (if cmpP a b = 0 then .inr () else .inl (cmpP a b)) := by
  intro kk
  induction kk with
  | zero => intro n h; omega
  | succ kk ih =>
    intro n h hn hi
    rw [dictumref05_Compare.l1.eq_2]
    by_cases h1 : n < 1024
    · rw [decide_eq_true (by omega), cond_true, rhas_f ha, bind_some', memI_nat a h1, rhas_f hb, bind_some', memI_nat b h1]
      cases h2 : mem a n <;> cases h3 : mem b n
      · rw [show (!(false == false)) = false from rfl, cond_false, wsucc n (by omega)]
        refine ih (n + 1) (by omega) (by omega) fun i h => ?_
        by_cases he : i = n
        · rw [he, h2, h3]
        · exact hi i (by omega)
      · rw [show (!(false == true)) = true from rfl, cond_true, bind_some', cond_false, cmp_gt ha hb h1 h2 h3 hi]
        rfl
      · rw [show (!(true == false)) = true from rfl, cond_true, bind_some', cond_true, cmp_lt ha hb h1 h2 h3 hi]
        rfl
      · rw [show (!(true == true)) = false from rfl, cond_false, wsucc n (by omega)]
        refine ih (n + 1) (by omega) (by omega) fun i h => ?_
        by_cases he : i = n
        · rw [he, h2, h3]
        · exact hi i (by omega)
    · have hab : a = b := set_ext ha hb fun j hj => hi j (by omega)
      subst hab
      rw [decide_eq_false (by omega), cond_false, cmp_self ha, if_pos rfl]
theorem rcmp_f {a b : List UInt64} (ha : a.length = 16) (hb : b.length = 16) {k : Nat} (hk : 1024 < k) : dictumref05_Compare.f k a b = some (cmpP a b) := by
  unfold dictumref05_Compare.f
  have h := rcmp_l1 ha hb k k 0 (by omega) (by omega) (fun i h => by omega)
  rw [show ((0 : Nat) : Int) = 0 from rfl] at h
  rw [h]
  by_cases h0 : cmpP a b = 0
  · rw [if_pos h0, h0]; rfl
  · rw [if_neg h0]; rfl
end Go.Proofs.YtfdocckaobmgeaaDoor.X
