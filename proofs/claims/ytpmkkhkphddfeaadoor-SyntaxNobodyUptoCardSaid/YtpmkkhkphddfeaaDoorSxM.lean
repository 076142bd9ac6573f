/- More rounds, the same answer; what holds from some number of rounds on. -/
import Derived.Test.YtpmkkhkphddfeaaDoorSxL
set_option linter.unusedVariables false
namespace Go.Proofs.YtpmkkhkphddfeaaDoor.SX
/-- Where the first has an answer, the second has the same. -/
def Le {α : Type} (a b : Option α) : Prop := ∀ r, a = some r → b = some r
section le
variable {α β : Type}
theorem Le.refl (a : Option α) : Le a a := fun _ h => h
theorem Le.none (a : Option α) : Le Option.none a := fun _ h => by cases h
theorem Le.bind {a b : Option α} {f g : α → Option β} (h : Le a b) (k : ∀ x, Le (f x) (g x)) : Le (a.bind f) (b.bind g) := fun r hr => by
  obtain ⟨v, hv, hf⟩ := bindE hr
  rw [h v hv]
  exact k v r hf
theorem Le.cond {c : Bool} {a b a' b' : Option α} (h : Le a a') (k : Le b b') : Le (bif c then a else b) (bif c then a' else b') := by cases c <;> assumption
theorem Le.nilc [DecidableEq β] {xs : List α} {a b a' b' : Option β} (h : Le a a') (k : Le b b') : Le (SX.nilc xs a b) (SX.nilc xs a' b') := fun r hr => by
  unfold SX.nilc at hr ⊢
  cases hb : b with
  | none => rw [hb] at hr; cases hr
  | some q =>
    rw [hb] at hr
    rw [k q hb]
    simp only at hr ⊢
    cases hx : xs.isEmpty with
    | true =>
      rw [hx] at hr
      simp only [cond_true] at hr ⊢
      split at hr
      · rename_i ha; rw [if_pos (h q ha)]; exact hr
      · cases hr
    | false => rw [hx] at hr; exact hr
end le
/-- From some number of rounds on. -/
def Ev (p : Nat → Prop) : Prop := ∃ k0, ∀ k, k0 ≤ k → p k
section ev
variable {p q : Nat → Prop} {α β : Type}
theorem Ev.of (h : ∀ k, p k) : Ev p := ⟨0, fun k _ => h k⟩
theorem Ev.from (k0 : Nat) (h : ∀ k, k0 ≤ k → p k) : Ev p := ⟨k0, h⟩
theorem Ev.and (h : Ev p) (g : Ev q) : Ev fun k => p k ∧ q k := by
  obtain ⟨a, ha⟩ := h
  obtain ⟨b, hb⟩ := g
  exact ⟨max a b, fun k hk => ⟨ha k (by omega), hb k (by omega)⟩⟩
theorem Ev.imp (h : Ev p) (g : ∀ k, p k → q k) : Ev q := by
  obtain ⟨a, ha⟩ := h
  exact ⟨a, fun k hk => g k (ha k hk)⟩
theorem Ev.mp (h : Ev p) (g : Ev fun k => p k → q k) : Ev q := (h.and g).imp fun k hk => hk.2 hk.1
theorem Ev.mono {f : Nat → Option α} {k : Nat} {r : α} (hf : ∀ k k', k ≤ k' → Le (f k) (f k')) (h : f k = some r) : Ev fun k => f k = some r := ⟨k, fun k' hk => hf k k' hk r h⟩
theorem Ev.bind {f : Nat → Option α} {g : Nat → α → Option β} {a : α} {b : β} (h : Ev fun k => f k = some a) (k : Ev fun k => g k a = some b) : Ev fun k => (f k).bind (g k) = some b :=
  (h.and k).imp fun k hk => by rw [hk.1]; exact hk.2
theorem Ev.some (h : Ev p) : ∃ k, p k := by
  obtain ⟨a, ha⟩ := h
  exact ⟨a, ha a (Nat.le_refl a)⟩
end ev
theorem bind_some' {α β : Type} (a : α) (f : α → Option β) : (some a).bind f = f a := rfl
theorem chk_of {b : Bool} (h : b = true) : chk b = some () := by rw [h]; rfl
end Go.Proofs.YtpmkkhkphddfeaaDoor.SX
