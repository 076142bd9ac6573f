/- Layer 5, plain: two sets joined word by word. -/
import Derived.Test.YtfdocckaobmgeaaDoorBA
set_option linter.unusedVariables false
set_option linter.unusedSimpArgs false
namespace Go.Proofs.YtfdocckaobmgeaaDoor.X
open Go Go.RowKit Go.Proofs.YtfdocckaobmgeaaDoor.SX
theorem zip_l1 (op : UInt64 → UInt64 → UInt64) (b : List UInt64) (hb : b.length = 16) (g : Nat → Int → List UInt64 → Option (List UInt64))
    (hg : ∀ kk x acc, g (kk + 1) x acc = (bif (decide (x < 16)) then (ix acc x).bind fun p => (ix b x).bind fun q => (ix acc x).bind fun _ => g kk (wrap64 (x + 1)) (acc.set x.toNat (op p q)) else some acc)) :
    ∀ (n i : Nat) (acc : List UInt64), acc.length = 16 → i ≤ 16 → 16 - i < n → g n (i : Int) acc = some (acc.take i ++ List.zipWith op (acc.drop i) (b.drop i)) := by
  intro n
  induction n with
  | zero => intro i acc _ _ h; omega
  | succ n ih =>
    intro i acc ha hi hn
    rw [hg]
    by_cases h : i < 16
    · have h1 : i < acc.length := by omega
      have h2 : i < b.length := by omega
      rw [decide_eq_true (by omega), cond_true, ix_nat, ix_nat, List.getElem?_eq_getElem h1, List.getElem?_eq_getElem h2, bind_some', bind_some', bind_some', wsucc i (by omega), ih (i + 1) _ (by simp [ha]) (by omega) (by omega)]
      congr 1
      rw [drop_cons h1, drop_cons h2, List.zipWith_cons_cons, Int.toNat_natCast, List.drop_set_of_lt (by omega)]
      rw [show (acc.set i (op acc[i] b[i])).take (i + 1) = acc.take i ++ [op acc[i] b[i]] from by
        rw [List.take_succ_eq_append_getElem (by simp [h1]), List.take_set_of_le (Nat.le_refl _)]
        simp]
      rw [List.append_assoc]
      rfl
    · have h0 : i = 16 := by omega
      subst h0
      rw [decide_eq_false (by omega), cond_false]
      simp [ha, List.take_of_length_le, List.drop_of_length_le]
theorem zip_f (op : UInt64 → UInt64 → UInt64) {a b : List UInt64} (ha : a.length = 16) (hb : b.length = 16) (g : Nat → Int → List UInt64 → Option (List UInt64))
    (hg : ∀ kk x acc, g (kk + 1) x acc = (bif (decide (x < 16)) then (ix acc x).bind fun p => (ix b x).bind fun q => (ix acc x).bind fun _ => g kk (wrap64 (x + 1)) (acc.set x.toNat (op p q)) else some acc))
    {n : Nat} (hn : 16 < n) : g n 0 a = some (List.zipWith op a b) := by
  have := zip_l1 op b hb g hg n 0 a ha (by omega) (by omega)
  simpa using this
theorem getD_at {l : List UInt64} {i : Nat} (h : i < l.length) : l.getD i 0 = l[i] := by simp [List.getD, h]
theorem zip_mem (op : UInt64 → UInt64 → UInt64) (bo : Bool → Bool → Bool) (ho : ∀ x y j, j < 64 → (op x y).toNat.testBit j = bo (x.toNat.testBit j) (y.toNat.testBit j)) {a b : List UInt64} (ha : a.length = 16) (hb : b.length = 16) {n : Nat} (hn : n < 1024) :
    mem (List.zipWith op a b) n = bo (mem a n) (mem b n) := by
  unfold mem
  have h1 : n / 64 < a.length := by omega
  have h2 : n / 64 < b.length := by omega
  have h3 : n / 64 < (List.zipWith op a b).length := by rw [List.length_zipWith]; omega
  rw [getD_at h1, getD_at h2, getD_at h3, List.getElem_zipWith, ho _ _ _ (Nat.mod_lt _ (by decide))]
theorem zip_len (op : UInt64 → UInt64 → UInt64) {a b : List UInt64} (ha : a.length = 16) (hb : b.length = 16) : (List.zipWith op a b).length = 16 := by
  rw [List.length_zipWith]; omega
def unB (a b : List UInt64) : List UInt64 := List.zipWith (· ||| ·) a b
def xoB (a b : List UInt64) : List UInt64 := List.zipWith (· ^^^ ·) a b
theorem un_len {a b : List UInt64} (ha : a.length = 16) (hb : b.length = 16) : (unB a b).length = 16 := zip_len _ ha hb
theorem xo_len {a b : List UInt64} (ha : a.length = 16) (hb : b.length = 16) : (xoB a b).length = 16 := zip_len _ ha hb
theorem mem_un {a b : List UInt64} (ha : a.length = 16) (hb : b.length = 16) {n : Nat} (hn : n < 1024) : mem (unB a b) n = (mem a n || mem b n) :=
  zip_mem _ _ (fun x y j _ => by rw [UInt64.toNat_or, Nat.testBit_or]) ha hb hn
theorem mem_xo {a b : List UInt64} (ha : a.length = 16) (hb : b.length = 16) {n : Nat} (hn : n < 1024) : mem (xoB a b) n = (mem a n ^^ mem b n) :=
  zip_mem _ _ (fun x y j _ => by rw [UInt64.toNat_xor, Nat.testBit_xor]) ha hb hn
theorem union_f {a b : List UInt64} (ha : a.length = 16) (hb : b.length = 16) {k : Nat} (hk : 16 < k) : bits_Union.f k a b = some (unB a b) := by
  unfold bits_Union.f bits_each_bits_Union_1.f
  rw [zip_f (· ||| ·) ha hb (bits_each_bits_Union_1.l1 k b) (fun _ _ _ => rfl) hk]
  rfl
theorem xor_f {a b : List UInt64} (ha : a.length = 16) (hb : b.length = 16) {k : Nat} (hk : 16 < k) : bits_each_bits_Compare_1.f k a b = some (xoB a b) := by
  unfold bits_each_bits_Compare_1.f
  rw [zip_f (· ^^^ ·) ha hb (bits_each_bits_Compare_1.l1 k b) (fun _ _ _ => rfl) hk]
  rfl
end Go.Proofs.YtfdocckaobmgeaaDoor.X
