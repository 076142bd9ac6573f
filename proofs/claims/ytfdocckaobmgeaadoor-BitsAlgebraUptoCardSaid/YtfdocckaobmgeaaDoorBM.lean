/- Layer 5, plain: a set without another. -/
import Derived.Test.YtfdocckaobmgeaaDoorBB
set_option linter.unusedVariables false
set_option linter.unusedSimpArgs false
namespace Go.Proofs.YtfdocckaobmgeaaDoor.X
open Go Go.RowKit Go.Proofs.YtfdocckaobmgeaaDoor.SX
def miB (a b : List UInt64) : List UInt64 := List.zipWith (fun x y => x &&& ~~~y) a b
theorem mi_len {a b : List UInt64} (ha : a.length = 16) (hb : b.length = 16) : (miB a b).length = 16 := zip_len _ ha hb
theorem not_bit (y : UInt64) {j : Nat} (hj : j < 64) : (~~~y).toNat.testBit j = !y.toNat.testBit j := by
  have : (~~~y).toNat.testBit j = (~~~y.toBitVec).getLsbD j := rfl
  rw [this, BitVec.getLsbD_not, decide_eq_true hj, Bool.true_and]
  rfl
theorem mem_mi {a b : List UInt64} (ha : a.length = 16) (hb : b.length = 16) {n : Nat} (hn : n < 1024) : mem (miB a b) n = (mem a n && !mem b n) :=
  zip_mem (fun x y => x &&& ~~~y) (fun p q => p && !q) (fun x y j hj => by rw [UInt64.toNat_and, Nat.testBit_and, not_bit y hj]) ha hb hn
theorem minus_f {a b : List UInt64} (ha : a.length = 16) (hb : b.length = 16) {k : Nat} (hk : 16 < k) : bits_Minus.f k a b = some (miB a b) := by
  unfold bits_Minus.f bits_each_bits_Minus_1.f
  rw [zip_f (fun x y => x &&& ~~~y) ha hb (bits_each_bits_Minus_1.l1 k b) (fun _ _ _ => rfl) hk]
  rfl
end Go.Proofs.YtfdocckaobmgeaaDoor.X
