/- Layer 5, plain: what two sets share; a part of a set. -/
import Derived.Test.YtfdocckaobmgeaaDoorBM
set_option linter.unusedVariables false
set_option linter.unusedSimpArgs false
namespace Go.Proofs.YtfdocckaobmgeaaDoor.X
open Go Go.RowKit Go.Proofs.YtfdocckaobmgeaaDoor.SX
def meB (a b : List UInt64) : List UInt64 := List.zipWith (· &&& ·) a b
theorem me_len {a b : List UInt64} (ha : a.length = 16) (hb : b.length = 16) : (meB a b).length = 16 := zip_len _ ha hb
theorem mem_me {a b : List UInt64} (ha : a.length = 16) (hb : b.length = 16) {n : Nat} (hn : n < 1024) : mem (meB a b) n = (mem a n && mem b n) :=
  zip_mem _ _ (fun x y j _ => by rw [UInt64.toNat_and, Nat.testBit_and]) ha hb hn
theorem meet_f {a b : List UInt64} (ha : a.length = 16) (hb : b.length = 16) {k : Nat} (hk : 16 < k) : bits_Meet.f k a b = some (meB a b) := by
  unfold bits_Meet.f bits_each_bits_Meet_1.f
  rw [zip_f (· &&& ·) ha hb (bits_each_bits_Meet_1.l1 k b) (fun _ _ _ => rfl) hk]
  rfl
theorem sub_f {a b : List UInt64} (ha : a.length = 16) (hb : b.length = 16) {k : Nat} (hk : 16 < k) : bits_Sub.f k a b = some (meB a b == a) := by
  unfold bits_Sub.f
  rw [meet_f ha hb hk]
  rfl
/-- a is in b as a ∩ b = a, and as a without b is empty. -/
theorem sub_iff {a b : List UInt64} (ha : a.length = 16) (hb : b.length = 16) : (meB a b == a) = (miB a b == Z16) := by
  rw [Bool.eq_iff_iff, beq_iff_eq, beq_iff_eq]
  constructor
  · intro h
    refine set_ext (mi_len ha hb) rfl fun j hj => ?_
    rw [mem_mi ha hb hj, mem_z]
    have := mem_me ha hb hj
    rw [h] at this
    cases h1 : mem a j <;> cases h2 : mem b j <;> simp [h1, h2] at this ⊢
  · intro h
    refine set_ext (me_len ha hb) ha fun j hj => ?_
    rw [mem_me ha hb hj]
    have := mem_mi ha hb hj
    rw [h, mem_z] at this
    cases h1 : mem a j <;> cases h2 : mem b j <;> simp [h1, h2] at this ⊢
end Go.Proofs.YtfdocckaobmgeaaDoor.X
