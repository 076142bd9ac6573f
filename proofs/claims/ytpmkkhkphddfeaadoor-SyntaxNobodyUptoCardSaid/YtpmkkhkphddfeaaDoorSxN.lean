/- Plain tools for plain laws. -/
import Derived.Test.YtpmkkhkphddfeaaDoorSxM
set_option linter.unusedVariables false
namespace Go.Proofs.YtpmkkhkphddfeaaDoor.SX
open Go Go.RowKit
/-! How much there is; that numbers fit. -/
def okI (k : IntKind) (n : Int) : Prop := (Lit.int k n).wf = true
def okT {α : Type} (_ : α) : Prop := True
def bulk1 {α : Type} (_ : α) : Nat := 1
def bulkS (s : List UInt8) : Nat := s.length + 1
def okS (s : List UInt8) : Prop := s.length ≤ 9223372036854775807
def bulkL {α : Type} (b : α → Nat) (xs : List α) : Nat := (xs.map b).sum + 1
def okL {α : Type} (ok : α → Prop) (xs : List α) : Prop := ∀ x ∈ xs, ok x
theorem len_le_bulk {α : Type} (b : α → Nat) (h : ∀ a, 1 ≤ b a) : ∀ xs : List α, xs.length ≤ (xs.map b).sum
  | [] => by simp
  | a :: l => by
    have := len_le_bulk b h l
    have := h a
    simp only [List.map_cons, List.sum_cons, List.length_cons]
    omega
theorem w64 {n : Int} (h0 : -9223372036854775808 ≤ n) (h1 : n ≤ 9223372036854775807) : wrap64 n = n := wrap64_in h0 h1
theorem wsucc (i : Nat) (h : i < 9223372036854775807) : wrap64 ((i : Int) + 1) = ((i + 1 : Nat) : Int) := by rw [w64 (by omega) (by omega)]; omega
theorem ix_nat {α : Type} (xs : List α) (n : Nat) : ix xs (n : Int) = xs[n]? := by simp [ix]
theorem ix_get {α : Type} {xs : List α} {i : Int} (h0 : 0 ≤ i) (h1 : i < xs.length) : ix xs i = some (xs[i.toNat]'(by omega)) := by
  simp [ix, h0]
theorem cut_nat {α : Type} (xs : List α) {a b : Nat} (h : a ≤ b) (h' : b ≤ xs.length) : cut xs (a : Int) (b : Int) = some ((xs.take b).drop a) := by
  unfold cut
  rw [if_pos (by omega)]
  simp
theorem cut_to {α : Type} (xs : List α) {b : Nat} (h' : b ≤ xs.length) : cut xs 0 (b : Int) = some (xs.take b) := by
  have := cut_nat xs (Nat.zero_le b) h'
  simpa using this
theorem cut_from {α : Type} (xs : List α) {a : Nat} (h : a ≤ xs.length) : cut xs (a : Int) (xs.length : Int) = some (xs.drop a) := by
  have := cut_nat xs h (Nat.le_refl _)
  simpa using this
theorem drop_cons {α : Type} {xs : List α} {i : Nat} (h : i < xs.length) : xs.drop i = xs[i] :: xs.drop (i + 1) := (List.getElem_cons_drop (h := h)).symm
/-- Where the lowest bit stands, by what a number times one constant has on top (Go's math/bits). -/
def db64 : List UInt8 := [0, 1, 56, 2, 57, 49, 28, 3, 61, 58, 42, 50, 38, 29, 17, 4, 62, 47, 59, 36, 45, 43, 51, 22, 53, 39, 33, 30, 24, 18, 12, 5, 63, 55, 48, 27, 60, 41, 37, 16, 46, 35, 44, 21, 52, 32, 23, 11, 54, 26, 40, 15, 34, 20, 31, 10, 25, 14, 19, 9, 13, 8, 7, 6]
def db64I : List Int := db64.map fun c => (c.toNat : Int)
/-- Whole numbers, bit by bit. -/
def andI (a b : Int) : Int := wrap64 ((BitVec.ofInt 64 a &&& BitVec.ofInt 64 b).toNat : Int)
def orI (a b : Int) : Int := wrap64 ((BitVec.ofInt 64 a ||| BitVec.ofInt 64 b).toNat : Int)
/-! The plain side: a row of keys and values in the order in which they came -/
def lfind {K : Type} (eq : K → K → Bool) (x : K) : List K → Nat → Option Nat
  | [], _ => none
  | a :: l, i => bif eq x a then some i else lfind eq x l (i + 1)
def mget {K V : Type} (eq : K → K → Bool) (kvs : List (K × V)) (x : K) : Option V := (lfind eq x (kvs.map (·.1)) 0).bind fun i => (kvs[i]?).map (·.2)
def mput {K V : Type} (eq : K → K → Bool) (kvs : List (K × V)) (x : K) (v : V) : List (K × V) := match lfind eq x (kvs.map (·.1)) 0 with | some i => kvs.set i (x, v) | none => kvs ++ [(x, v)]
def mdel {K V : Type} (eq : K → K → Bool) (kvs : List (K × V)) (x : K) : List (K × V) := match lfind eq x (kvs.map (·.1)) 0 with | some i => kvs.eraseIdx i | none => kvs
theorem lfind_at {K : Type} {eq : K → K → Bool} {x : K} : ∀ {l : List K} {i j : Nat}, lfind eq x l i = some j → i ≤ j ∧ ∃ a, l[j - i]? = some a ∧ eq x a = true
  | [], i, j, h => by cases h
  | a :: l, i, j, h => by
    unfold lfind at h
    cases hc : eq x a with
    | true =>
      rw [hc, cond_true] at h
      obtain rfl := Option.some.inj h
      exact ⟨Nat.le_refl _, a, by simp, hc⟩
    | false =>
      rw [hc, cond_false] at h
      obtain ⟨h1, b, h2, h3⟩ := lfind_at h
      refine ⟨by omega, b, ?_, h3⟩
      rw [show j - i = (j - (i + 1)) + 1 from by omega, List.getElem?_cons_succ]
      exact h2
/-- What a call that may panic comes to. -/
inductive Exn (ε α : Type) where
  | ex (e : ε)
  | ok (a : α)
end Go.Proofs.YtpmkkhkphddfeaaDoor.SX
