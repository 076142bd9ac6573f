/- Unsigned numbers of 8, 32, 64 bits as Lean's own. (Printed by mkf.py.) -/
import Derived.Test.YtpmkkhkphddfeaaDoorSxE
set_option linter.unusedVariables false
set_option linter.unusedSimpArgs false
namespace Go.Proofs.YtpmkkhkphddfeaaDoor.SX
open Go Go.RowKit

theorem wrap_i64 (n : Int) : IntKind.i64.wrap n = wrap64 n := by
  unfold IntKind.wrap wrap64 IntKind.signed IntKind.bits
  simp only [Bool.true_and, decide_eq_true_eq, ge_iff_le]
  omega
theorem wrap64_in {n : Int} (h0 : -9223372036854775808 ≤ n) (h1 : n ≤ 9223372036854775807) : wrap64 n = n := by
  unfold wrap64; omega

section u8
variable {P : Program}
theorem wrap_u8 (n : Int) : IntKind.u8.wrap n = n % 256 := by simp [IntKind.wrap, IntKind.signed, IntKind.bits]
theorem ofInt_u8 (a : UInt8) : BitVec.ofInt 8 (a.toNat : Int) = a.toBitVec := by
  apply BitVec.eq_of_toNat_eq
  have := a.toNat_lt
  simp
theorem wrap_enc8 (a : UInt8) : IntKind.u8.wrap (a.toNat : Int) = a.toNat := by
  rw [wrap_u8]
  have := a.toNat_lt
  omega
theorem bin_add_u8 {a b : UInt8} {T : TypeId} : Bin P .add T (enc8 a) (enc8 b) (enc8 (a + b)) := fun x y w => by
  have h : IntKind.u8.wrap ((a.toNat : Int) + b.toNat) = ((a + b).toNat : Int) := by rw [wrap_u8, UInt8.toNat_add]; omega
  simp [eqGuard, binOp, Op.intArith, enc8, h]
theorem bin_sub_u8 {a b : UInt8} {T : TypeId} : Bin P .sub T (enc8 a) (enc8 b) (enc8 (a - b)) := fun x y w => by
  have ha := a.toNat_lt
  have hb := b.toNat_lt
  have h : IntKind.u8.wrap ((a.toNat : Int) - b.toNat) = ((a - b).toNat : Int) := by rw [wrap_u8, UInt8.toNat_sub]; omega
  simp [eqGuard, binOp, Op.intArith, enc8, h]
theorem bin_and_u8 {a b : UInt8} {T : TypeId} : Bin P .and T (enc8 a) (enc8 b) (enc8 (a &&& b)) := fun x y w => by
  have h : IntKind.u8.wrap (((a.toBitVec &&& b.toBitVec).toNat : Nat) : Int) = ((a &&& b).toNat : Int) := wrap_enc8 (a &&& b)
  obtain ⟨c, hc⟩ : ∃ c, c = (a &&& b) := ⟨_, rfl⟩
  rw [← hc] at h ⊢
  simp only [eqGuard, binOp, Op.intBits, enc8, IntKind.bits, ofInt_u8]
  simp
  exact h
theorem bin_or_u8 {a b : UInt8} {T : TypeId} : Bin P .or T (enc8 a) (enc8 b) (enc8 (a ||| b)) := fun x y w => by
  have h : IntKind.u8.wrap (((a.toBitVec ||| b.toBitVec).toNat : Nat) : Int) = ((a ||| b).toNat : Int) := wrap_enc8 (a ||| b)
  obtain ⟨c, hc⟩ : ∃ c, c = (a ||| b) := ⟨_, rfl⟩
  rw [← hc] at h ⊢
  simp only [eqGuard, binOp, Op.intBits, enc8, IntKind.bits, ofInt_u8]
  simp
  exact h
theorem bin_xor_u8 {a b : UInt8} {T : TypeId} : Bin P .xor T (enc8 a) (enc8 b) (enc8 (a ^^^ b)) := fun x y w => by
  have h : IntKind.u8.wrap (((a.toBitVec ^^^ b.toBitVec).toNat : Nat) : Int) = ((a ^^^ b).toNat : Int) := wrap_enc8 (a ^^^ b)
  obtain ⟨c, hc⟩ : ∃ c, c = (a ^^^ b) := ⟨_, rfl⟩
  rw [← hc] at h ⊢
  simp only [eqGuard, binOp, Op.intBits, enc8, IntKind.bits, ofInt_u8]
  simp
  exact h
theorem bin_andNot_u8 {a b : UInt8} {T : TypeId} : Bin P .andNot T (enc8 a) (enc8 b) (enc8 (a &&& ~~~b)) := fun x y w => by
  have h : IntKind.u8.wrap (((a.toBitVec &&& ~~~b.toBitVec).toNat : Nat) : Int) = ((a &&& ~~~b).toNat : Int) := wrap_enc8 (a &&& ~~~b)
  obtain ⟨c, hc⟩ : ∃ c, c = (a &&& ~~~b) := ⟨_, rfl⟩
  rw [← hc] at h ⊢
  simp only [eqGuard, binOp, Op.intBits, enc8, IntKind.bits, ofInt_u8]
  simp
  exact h
theorem bin_eql_u8 {a b : UInt8} {T : TypeId} : Bin P .eql T (enc8 a) (enc8 b) (.bool (a == b)) := fun x y w => by
  have h : ((a.toNat : Int) == (b.toNat : Int)) = (a == b) := by
    rw [Bool.eq_iff_iff]; simp only [beq_iff_eq]; rw [← UInt8.toNat_inj]; omega
  simp only [eqGuard, binOp, Op.intCmp, enc8, h]
  simp
theorem bin_neq_u8 {a b : UInt8} {T : TypeId} : Bin P .neq T (enc8 a) (enc8 b) (.bool (!(a == b))) := fun x y w => by
  have h : ((a.toNat : Int) != (b.toNat : Int)) = !(a == b) := by
    rw [bne]; congr 1; rw [Bool.eq_iff_iff]; simp only [beq_iff_eq]; rw [← UInt8.toNat_inj]; omega
  simp only [eqGuard, binOp, Op.intCmp, enc8, h]
  simp
theorem bin_lss_u8 {a b : UInt8} {T : TypeId} : Bin P .lss T (enc8 a) (enc8 b) (.bool (decide (a < b))) := fun x y w => by
  simp [eqGuard, binOp, Op.intCmp, enc8, UInt8.lt_iff_toNat_lt]
theorem bin_leq_u8 {a b : UInt8} {T : TypeId} : Bin P .leq T (enc8 a) (enc8 b) (.bool (decide (a ≤ b))) := fun x y w => by
  simp [eqGuard, binOp, Op.intCmp, enc8, UInt8.le_iff_toNat_le]
theorem bin_gtr_u8 {a b : UInt8} {T : TypeId} : Bin P .gtr T (enc8 a) (enc8 b) (.bool (decide (b < a))) := fun x y w => by
  simp [eqGuard, binOp, Op.intCmp, enc8, UInt8.lt_iff_toNat_lt]
theorem bin_geq_u8 {a b : UInt8} {T : TypeId} : Bin P .geq T (enc8 a) (enc8 b) (.bool (decide (b ≤ a))) := fun x y w => by
  simp [eqGuard, binOp, Op.intCmp, enc8, UInt8.le_iff_toNat_le]
/-- a << n, a >> n. -/
def shl8 (a : UInt8) (n : Nat) : UInt8 := UInt8.ofNat (a.toNat * 2 ^ n)
def shr8 (a : UInt8) (n : Nat) : UInt8 := UInt8.ofNat (a.toNat / 2 ^ n)
theorem bin_shl_u8 {a : UInt8} {k : IntKind} {i : Int} {T : TypeId} (h0 : 0 ≤ i) : Bin P .shl T (enc8 a) (.int k i) (enc8 (shl8 a i.toNat)) := fun x y w => by
  have h : IntKind.u8.wrap ((a.toNat : Int) * 2 ^ (min i.toNat 8)) = ((shl8 a i.toNat).toNat : Int) := by
    rw [wrap_u8, shl8, UInt8.toNat_ofNat']
    have e1 : ((a.toNat : Int) * 2 ^ (min i.toNat 8)) = ((a.toNat * 2 ^ (min i.toNat 8) : Nat) : Int) := by simp
    rw [e1]
    have e2 : (a.toNat * 2 ^ (min i.toNat 8)) % 256 = (a.toNat * 2 ^ i.toNat) % 2 ^ 8 := by
      rcases Nat.le_total i.toNat 8 with h | h
      · rw [Nat.min_eq_left h]
      · rw [Nat.min_eq_right h]
        obtain ⟨c, hc⟩ : ∃ c, i.toNat = 8 + c := ⟨i.toNat - 8, by omega⟩
        rw [hc, Nat.pow_add, show a.toNat * (2 ^ 8 * 2 ^ c) = (a.toNat * 2 ^ c) * 2 ^ 8 from by rw [Nat.mul_comm (2 ^ 8) (2 ^ c), Nat.mul_assoc]]
        rw [Nat.mul_mod_left, Nat.mul_mod_left]
    omega
  have hn : ¬ i < 0 := by omega
  simp only [eqGuard, binOp, Op.shift, enc8, hn, if_false, IntKind.bits, h]
  simp
theorem bin_shr_u8 {a : UInt8} {k : IntKind} {i : Int} {T : TypeId} (h0 : 0 ≤ i) : Bin P .shr T (enc8 a) (.int k i) (enc8 (shr8 a i.toNat)) := fun x y w => by
  have h : (a.toNat : Int).fdiv (2 ^ (min i.toNat 8)) = ((shr8 a i.toNat).toNat : Int) := by
    have ha := a.toNat_lt
    rw [shr8, UInt8.toNat_ofNat']
    have e1 : (a.toNat : Int).fdiv (2 ^ (min i.toNat 8)) = ((a.toNat / 2 ^ (min i.toNat 8) : Nat) : Int) := by
      rw [Int.fdiv_eq_ediv_of_nonneg _ (Int.le_of_lt (Int.pow_pos (by decide)))]; simp
    rw [e1]
    have e2 : a.toNat / 2 ^ (min i.toNat 8) = a.toNat / 2 ^ i.toNat := by
      rcases Nat.le_total i.toNat 8 with h | h
      · rw [Nat.min_eq_left h]
      · rw [Nat.min_eq_right h, Nat.div_eq_of_lt (by omega), Nat.div_eq_of_lt (Nat.lt_of_lt_of_le ha (Nat.pow_le_pow_right (by decide) h))]
    rw [e2, Nat.mod_eq_of_lt (Nat.lt_of_le_of_lt (Nat.div_le_self _ _) ha)]
  have hn : ¬ i < 0 := by omega
  simp only [eqGuard, binOp, Op.shift, enc8, hn, if_false, IntKind.bits, h]
  simp
def ofI8 (n : Int) : UInt8 := UInt8.ofNat (n % 256).toNat
theorem ofI8_nat (n : Int) : ((ofI8 n).toNat : Int) = n % 256 := by
  have h0 := Int.emod_nonneg n (show (256 : Int) ≠ 0 by decide)
  have h1 := Int.emod_lt_of_pos n (show (0 : Int) < 256 by decide)
  rw [ofI8, UInt8.toNat_ofNat', Nat.mod_eq_of_lt (by omega)]
  omega
variable {ρ : Env} {w : World}
/-- A number of whatever kind becomes one of 8 bits. -/
theorem ex_conv_u8 {src dst t : TypeId} {x : Operand} {k : IntKind} {a : Int} {ds : TypeDesc} (hx : ev ρ x = .int k a) (hs : P.underlying src = some ds) (hd : P.underlying dst = some (.int .u8)) :
    Ex P ρ (.convert src dst x) t w (enc8 (ofI8 a)) w := by
  have := ex_conv (P := P) (w := w) (t := t) hx hs hd
  rw [wrap_u8, ← ofI8_nat] at this
  exact this
theorem ex_not_u8 {xt t : TypeId} {x : Operand} {a : UInt8} (hx : ev ρ x = enc8 a) : Ex P ρ (.unOp .xor xt x) t w (enc8 (~~~a)) w := by
  refine ex_un_xor hx ?_
  have h : IntKind.u8.wrap (((BitVec.allOnes 8 ^^^ a.toBitVec).toNat : Nat) : Int) = ((~~~a).toNat : Int) := by
    have := wrap_enc8 (~~~a)
    rw [← this]
    congr 2
  have h2 : BitVec.ofInt 8 (if IntKind.u8.signed then (-1 : Int) else IntKind.u8.max) = BitVec.allOnes 8 := by decide
  obtain ⟨c, hc⟩ : ∃ c, c = (~~~a) := ⟨_, rfl⟩
  rw [← hc] at h ⊢
  simp only [Op.intBits, IntKind.bits, h2, ofInt_u8]
  exact congrArg (fun z => Result.ok (Value.int .u8 z) w) h
end u8

section u32
variable {P : Program}
theorem wrap_u32 (n : Int) : IntKind.u32.wrap n = n % 4294967296 := by simp [IntKind.wrap, IntKind.signed, IntKind.bits]
theorem ofInt_u32 (a : UInt32) : BitVec.ofInt 32 (a.toNat : Int) = a.toBitVec := by
  apply BitVec.eq_of_toNat_eq
  have := a.toNat_lt
  simp
theorem wrap_enc32 (a : UInt32) : IntKind.u32.wrap (a.toNat : Int) = a.toNat := by
  rw [wrap_u32]
  have := a.toNat_lt
  omega
theorem bin_add_u32 {a b : UInt32} {T : TypeId} : Bin P .add T (enc32 a) (enc32 b) (enc32 (a + b)) := fun x y w => by
  have h : IntKind.u32.wrap ((a.toNat : Int) + b.toNat) = ((a + b).toNat : Int) := by rw [wrap_u32, UInt32.toNat_add]; omega
  simp [eqGuard, binOp, Op.intArith, enc32, h]
theorem bin_sub_u32 {a b : UInt32} {T : TypeId} : Bin P .sub T (enc32 a) (enc32 b) (enc32 (a - b)) := fun x y w => by
  have ha := a.toNat_lt
  have hb := b.toNat_lt
  have h : IntKind.u32.wrap ((a.toNat : Int) - b.toNat) = ((a - b).toNat : Int) := by rw [wrap_u32, UInt32.toNat_sub]; omega
  simp [eqGuard, binOp, Op.intArith, enc32, h]
theorem bin_and_u32 {a b : UInt32} {T : TypeId} : Bin P .and T (enc32 a) (enc32 b) (enc32 (a &&& b)) := fun x y w => by
  have h : IntKind.u32.wrap (((a.toBitVec &&& b.toBitVec).toNat : Nat) : Int) = ((a &&& b).toNat : Int) := wrap_enc32 (a &&& b)
  obtain ⟨c, hc⟩ : ∃ c, c = (a &&& b) := ⟨_, rfl⟩
  rw [← hc] at h ⊢
  simp only [eqGuard, binOp, Op.intBits, enc32, IntKind.bits, ofInt_u32]
  simp
  exact h
theorem bin_or_u32 {a b : UInt32} {T : TypeId} : Bin P .or T (enc32 a) (enc32 b) (enc32 (a ||| b)) := fun x y w => by
  have h : IntKind.u32.wrap (((a.toBitVec ||| b.toBitVec).toNat : Nat) : Int) = ((a ||| b).toNat : Int) := wrap_enc32 (a ||| b)
  obtain ⟨c, hc⟩ : ∃ c, c = (a ||| b) := ⟨_, rfl⟩
  rw [← hc] at h ⊢
  simp only [eqGuard, binOp, Op.intBits, enc32, IntKind.bits, ofInt_u32]
  simp
  exact h
theorem bin_xor_u32 {a b : UInt32} {T : TypeId} : Bin P .xor T (enc32 a) (enc32 b) (enc32 (a ^^^ b)) := fun x y w => by
  have h : IntKind.u32.wrap (((a.toBitVec ^^^ b.toBitVec).toNat : Nat) : Int) = ((a ^^^ b).toNat : Int) := wrap_enc32 (a ^^^ b)
  obtain ⟨c, hc⟩ : ∃ c, c = (a ^^^ b) := ⟨_, rfl⟩
  rw [← hc] at h ⊢
  simp only [eqGuard, binOp, Op.intBits, enc32, IntKind.bits, ofInt_u32]
  simp
  exact h
theorem bin_andNot_u32 {a b : UInt32} {T : TypeId} : Bin P .andNot T (enc32 a) (enc32 b) (enc32 (a &&& ~~~b)) := fun x y w => by
  have h : IntKind.u32.wrap (((a.toBitVec &&& ~~~b.toBitVec).toNat : Nat) : Int) = ((a &&& ~~~b).toNat : Int) := wrap_enc32 (a &&& ~~~b)
  obtain ⟨c, hc⟩ : ∃ c, c = (a &&& ~~~b) := ⟨_, rfl⟩
  rw [← hc] at h ⊢
  simp only [eqGuard, binOp, Op.intBits, enc32, IntKind.bits, ofInt_u32]
  simp
  exact h
theorem bin_eql_u32 {a b : UInt32} {T : TypeId} : Bin P .eql T (enc32 a) (enc32 b) (.bool (a == b)) := fun x y w => by
  have h : ((a.toNat : Int) == (b.toNat : Int)) = (a == b) := by
    rw [Bool.eq_iff_iff]; simp only [beq_iff_eq]; rw [← UInt32.toNat_inj]; omega
  simp only [eqGuard, binOp, Op.intCmp, enc32, h]
  simp
theorem bin_neq_u32 {a b : UInt32} {T : TypeId} : Bin P .neq T (enc32 a) (enc32 b) (.bool (!(a == b))) := fun x y w => by
  have h : ((a.toNat : Int) != (b.toNat : Int)) = !(a == b) := by
    rw [bne]; congr 1; rw [Bool.eq_iff_iff]; simp only [beq_iff_eq]; rw [← UInt32.toNat_inj]; omega
  simp only [eqGuard, binOp, Op.intCmp, enc32, h]
  simp
theorem bin_lss_u32 {a b : UInt32} {T : TypeId} : Bin P .lss T (enc32 a) (enc32 b) (.bool (decide (a < b))) := fun x y w => by
  simp [eqGuard, binOp, Op.intCmp, enc32, UInt32.lt_iff_toNat_lt]
theorem bin_leq_u32 {a b : UInt32} {T : TypeId} : Bin P .leq T (enc32 a) (enc32 b) (.bool (decide (a ≤ b))) := fun x y w => by
  simp [eqGuard, binOp, Op.intCmp, enc32, UInt32.le_iff_toNat_le]
theorem bin_gtr_u32 {a b : UInt32} {T : TypeId} : Bin P .gtr T (enc32 a) (enc32 b) (.bool (decide (b < a))) := fun x y w => by
  simp [eqGuard, binOp, Op.intCmp, enc32, UInt32.lt_iff_toNat_lt]
theorem bin_geq_u32 {a b : UInt32} {T : TypeId} : Bin P .geq T (enc32 a) (enc32 b) (.bool (decide (b ≤ a))) := fun x y w => by
  simp [eqGuard, binOp, Op.intCmp, enc32, UInt32.le_iff_toNat_le]
/-- a << n, a >> n. -/
def shl32 (a : UInt32) (n : Nat) : UInt32 := UInt32.ofNat (a.toNat * 2 ^ n)
def shr32 (a : UInt32) (n : Nat) : UInt32 := UInt32.ofNat (a.toNat / 2 ^ n)
theorem bin_shl_u32 {a : UInt32} {k : IntKind} {i : Int} {T : TypeId} (h0 : 0 ≤ i) : Bin P .shl T (enc32 a) (.int k i) (enc32 (shl32 a i.toNat)) := fun x y w => by
  have h : IntKind.u32.wrap ((a.toNat : Int) * 2 ^ (min i.toNat 32)) = ((shl32 a i.toNat).toNat : Int) := by
    rw [wrap_u32, shl32, UInt32.toNat_ofNat']
    have e1 : ((a.toNat : Int) * 2 ^ (min i.toNat 32)) = ((a.toNat * 2 ^ (min i.toNat 32) : Nat) : Int) := by simp
    rw [e1]
    have e2 : (a.toNat * 2 ^ (min i.toNat 32)) % 4294967296 = (a.toNat * 2 ^ i.toNat) % 2 ^ 32 := by
      rcases Nat.le_total i.toNat 32 with h | h
      · rw [Nat.min_eq_left h]
      · rw [Nat.min_eq_right h]
        obtain ⟨c, hc⟩ : ∃ c, i.toNat = 32 + c := ⟨i.toNat - 32, by omega⟩
        rw [hc, Nat.pow_add, show a.toNat * (2 ^ 32 * 2 ^ c) = (a.toNat * 2 ^ c) * 2 ^ 32 from by rw [Nat.mul_comm (2 ^ 32) (2 ^ c), Nat.mul_assoc]]
        rw [Nat.mul_mod_left, Nat.mul_mod_left]
    omega
  have hn : ¬ i < 0 := by omega
  simp only [eqGuard, binOp, Op.shift, enc32, hn, if_false, IntKind.bits, h]
  simp
theorem bin_shr_u32 {a : UInt32} {k : IntKind} {i : Int} {T : TypeId} (h0 : 0 ≤ i) : Bin P .shr T (enc32 a) (.int k i) (enc32 (shr32 a i.toNat)) := fun x y w => by
  have h : (a.toNat : Int).fdiv (2 ^ (min i.toNat 32)) = ((shr32 a i.toNat).toNat : Int) := by
    have ha := a.toNat_lt
    rw [shr32, UInt32.toNat_ofNat']
    have e1 : (a.toNat : Int).fdiv (2 ^ (min i.toNat 32)) = ((a.toNat / 2 ^ (min i.toNat 32) : Nat) : Int) := by
      rw [Int.fdiv_eq_ediv_of_nonneg _ (Int.le_of_lt (Int.pow_pos (by decide)))]; simp
    rw [e1]
    have e2 : a.toNat / 2 ^ (min i.toNat 32) = a.toNat / 2 ^ i.toNat := by
      rcases Nat.le_total i.toNat 32 with h | h
      · rw [Nat.min_eq_left h]
      · rw [Nat.min_eq_right h, Nat.div_eq_of_lt (by omega), Nat.div_eq_of_lt (Nat.lt_of_lt_of_le ha (Nat.pow_le_pow_right (by decide) h))]
    rw [e2, Nat.mod_eq_of_lt (Nat.lt_of_le_of_lt (Nat.div_le_self _ _) ha)]
  have hn : ¬ i < 0 := by omega
  simp only [eqGuard, binOp, Op.shift, enc32, hn, if_false, IntKind.bits, h]
  simp
def ofI32 (n : Int) : UInt32 := UInt32.ofNat (n % 4294967296).toNat
theorem ofI32_nat (n : Int) : ((ofI32 n).toNat : Int) = n % 4294967296 := by
  have h0 := Int.emod_nonneg n (show (4294967296 : Int) ≠ 0 by decide)
  have h1 := Int.emod_lt_of_pos n (show (0 : Int) < 4294967296 by decide)
  rw [ofI32, UInt32.toNat_ofNat', Nat.mod_eq_of_lt (by omega)]
  omega
variable {ρ : Env} {w : World}
/-- A number of whatever kind becomes one of 32 bits. -/
theorem ex_conv_u32 {src dst t : TypeId} {x : Operand} {k : IntKind} {a : Int} {ds : TypeDesc} (hx : ev ρ x = .int k a) (hs : P.underlying src = some ds) (hd : P.underlying dst = some (.int .u32)) :
    Ex P ρ (.convert src dst x) t w (enc32 (ofI32 a)) w := by
  have := ex_conv (P := P) (w := w) (t := t) hx hs hd
  rw [wrap_u32, ← ofI32_nat] at this
  exact this
theorem ex_not_u32 {xt t : TypeId} {x : Operand} {a : UInt32} (hx : ev ρ x = enc32 a) : Ex P ρ (.unOp .xor xt x) t w (enc32 (~~~a)) w := by
  refine ex_un_xor hx ?_
  have h : IntKind.u32.wrap (((BitVec.allOnes 32 ^^^ a.toBitVec).toNat : Nat) : Int) = ((~~~a).toNat : Int) := by
    have := wrap_enc32 (~~~a)
    rw [← this]
    congr 2
  have h2 : BitVec.ofInt 32 (if IntKind.u32.signed then (-1 : Int) else IntKind.u32.max) = BitVec.allOnes 32 := by decide
  obtain ⟨c, hc⟩ : ∃ c, c = (~~~a) := ⟨_, rfl⟩
  rw [← hc] at h ⊢
  simp only [Op.intBits, IntKind.bits, h2, ofInt_u32]
  exact congrArg (fun z => Result.ok (Value.int .u32 z) w) h
end u32

section u64
variable {P : Program}
theorem wrap_u64 (n : Int) : IntKind.u64.wrap n = n % 18446744073709551616 := by simp [IntKind.wrap, IntKind.signed, IntKind.bits]
theorem ofInt_u64 (a : UInt64) : BitVec.ofInt 64 (a.toNat : Int) = a.toBitVec := by
  apply BitVec.eq_of_toNat_eq
  have := a.toNat_lt
  simp
theorem wrap_enc64 (a : UInt64) : IntKind.u64.wrap (a.toNat : Int) = a.toNat := by
  rw [wrap_u64]
  have := a.toNat_lt
  omega
theorem bin_add_u64 {a b : UInt64} {T : TypeId} : Bin P .add T (enc64 a) (enc64 b) (enc64 (a + b)) := fun x y w => by
  have h : IntKind.u64.wrap ((a.toNat : Int) + b.toNat) = ((a + b).toNat : Int) := by rw [wrap_u64, UInt64.toNat_add]; omega
  simp [eqGuard, binOp, Op.intArith, enc64, h]
theorem bin_sub_u64 {a b : UInt64} {T : TypeId} : Bin P .sub T (enc64 a) (enc64 b) (enc64 (a - b)) := fun x y w => by
  have ha := a.toNat_lt
  have hb := b.toNat_lt
  have h : IntKind.u64.wrap ((a.toNat : Int) - b.toNat) = ((a - b).toNat : Int) := by rw [wrap_u64, UInt64.toNat_sub]; omega
  simp [eqGuard, binOp, Op.intArith, enc64, h]
theorem bin_and_u64 {a b : UInt64} {T : TypeId} : Bin P .and T (enc64 a) (enc64 b) (enc64 (a &&& b)) := fun x y w => by
  have h : IntKind.u64.wrap (((a.toBitVec &&& b.toBitVec).toNat : Nat) : Int) = ((a &&& b).toNat : Int) := wrap_enc64 (a &&& b)
  obtain ⟨c, hc⟩ : ∃ c, c = (a &&& b) := ⟨_, rfl⟩
  rw [← hc] at h ⊢
  simp only [eqGuard, binOp, Op.intBits, enc64, IntKind.bits, ofInt_u64]
  simp
  exact h
theorem bin_or_u64 {a b : UInt64} {T : TypeId} : Bin P .or T (enc64 a) (enc64 b) (enc64 (a ||| b)) := fun x y w => by
  have h : IntKind.u64.wrap (((a.toBitVec ||| b.toBitVec).toNat : Nat) : Int) = ((a ||| b).toNat : Int) := wrap_enc64 (a ||| b)
  obtain ⟨c, hc⟩ : ∃ c, c = (a ||| b) := ⟨_, rfl⟩
  rw [← hc] at h ⊢
  simp only [eqGuard, binOp, Op.intBits, enc64, IntKind.bits, ofInt_u64]
  simp
  exact h
theorem bin_xor_u64 {a b : UInt64} {T : TypeId} : Bin P .xor T (enc64 a) (enc64 b) (enc64 (a ^^^ b)) := fun x y w => by
  have h : IntKind.u64.wrap (((a.toBitVec ^^^ b.toBitVec).toNat : Nat) : Int) = ((a ^^^ b).toNat : Int) := wrap_enc64 (a ^^^ b)
  obtain ⟨c, hc⟩ : ∃ c, c = (a ^^^ b) := ⟨_, rfl⟩
  rw [← hc] at h ⊢
  simp only [eqGuard, binOp, Op.intBits, enc64, IntKind.bits, ofInt_u64]
  simp
  exact h
theorem bin_andNot_u64 {a b : UInt64} {T : TypeId} : Bin P .andNot T (enc64 a) (enc64 b) (enc64 (a &&& ~~~b)) := fun x y w => by
  have h : IntKind.u64.wrap (((a.toBitVec &&& ~~~b.toBitVec).toNat : Nat) : Int) = ((a &&& ~~~b).toNat : Int) := wrap_enc64 (a &&& ~~~b)
  obtain ⟨c, hc⟩ : ∃ c, c = (a &&& ~~~b) := ⟨_, rfl⟩
  rw [← hc] at h ⊢
  simp only [eqGuard, binOp, Op.intBits, enc64, IntKind.bits, ofInt_u64]
  simp
  exact h
theorem bin_eql_u64 {a b : UInt64} {T : TypeId} : Bin P .eql T (enc64 a) (enc64 b) (.bool (a == b)) := fun x y w => by
  have h : ((a.toNat : Int) == (b.toNat : Int)) = (a == b) := by
    rw [Bool.eq_iff_iff]; simp only [beq_iff_eq]; rw [← UInt64.toNat_inj]; omega
  simp only [eqGuard, binOp, Op.intCmp, enc64, h]
  simp
theorem bin_neq_u64 {a b : UInt64} {T : TypeId} : Bin P .neq T (enc64 a) (enc64 b) (.bool (!(a == b))) := fun x y w => by
  have h : ((a.toNat : Int) != (b.toNat : Int)) = !(a == b) := by
    rw [bne]; congr 1; rw [Bool.eq_iff_iff]; simp only [beq_iff_eq]; rw [← UInt64.toNat_inj]; omega
  simp only [eqGuard, binOp, Op.intCmp, enc64, h]
  simp
theorem bin_lss_u64 {a b : UInt64} {T : TypeId} : Bin P .lss T (enc64 a) (enc64 b) (.bool (decide (a < b))) := fun x y w => by
  simp [eqGuard, binOp, Op.intCmp, enc64, UInt64.lt_iff_toNat_lt]
theorem bin_leq_u64 {a b : UInt64} {T : TypeId} : Bin P .leq T (enc64 a) (enc64 b) (.bool (decide (a ≤ b))) := fun x y w => by
  simp [eqGuard, binOp, Op.intCmp, enc64, UInt64.le_iff_toNat_le]
theorem bin_gtr_u64 {a b : UInt64} {T : TypeId} : Bin P .gtr T (enc64 a) (enc64 b) (.bool (decide (b < a))) := fun x y w => by
  simp [eqGuard, binOp, Op.intCmp, enc64, UInt64.lt_iff_toNat_lt]
theorem bin_geq_u64 {a b : UInt64} {T : TypeId} : Bin P .geq T (enc64 a) (enc64 b) (.bool (decide (b ≤ a))) := fun x y w => by
  simp [eqGuard, binOp, Op.intCmp, enc64, UInt64.le_iff_toNat_le]
/-- a << n, a >> n. -/
def shl64 (a : UInt64) (n : Nat) : UInt64 := UInt64.ofNat (a.toNat * 2 ^ n)
def shr64 (a : UInt64) (n : Nat) : UInt64 := UInt64.ofNat (a.toNat / 2 ^ n)
theorem bin_shl_u64 {a : UInt64} {k : IntKind} {i : Int} {T : TypeId} (h0 : 0 ≤ i) : Bin P .shl T (enc64 a) (.int k i) (enc64 (shl64 a i.toNat)) := fun x y w => by
  have h : IntKind.u64.wrap ((a.toNat : Int) * 2 ^ (min i.toNat 64)) = ((shl64 a i.toNat).toNat : Int) := by
    rw [wrap_u64, shl64, UInt64.toNat_ofNat']
    have e1 : ((a.toNat : Int) * 2 ^ (min i.toNat 64)) = ((a.toNat * 2 ^ (min i.toNat 64) : Nat) : Int) := by simp
    rw [e1]
    have e2 : (a.toNat * 2 ^ (min i.toNat 64)) % 18446744073709551616 = (a.toNat * 2 ^ i.toNat) % 2 ^ 64 := by
      rcases Nat.le_total i.toNat 64 with h | h
      · rw [Nat.min_eq_left h]
      · rw [Nat.min_eq_right h]
        obtain ⟨c, hc⟩ : ∃ c, i.toNat = 64 + c := ⟨i.toNat - 64, by omega⟩
        rw [hc, Nat.pow_add, show a.toNat * (2 ^ 64 * 2 ^ c) = (a.toNat * 2 ^ c) * 2 ^ 64 from by rw [Nat.mul_comm (2 ^ 64) (2 ^ c), Nat.mul_assoc]]
        rw [Nat.mul_mod_left, Nat.mul_mod_left]
    omega
  have hn : ¬ i < 0 := by omega
  simp only [eqGuard, binOp, Op.shift, enc64, hn, if_false, IntKind.bits, h]
  simp
theorem bin_shr_u64 {a : UInt64} {k : IntKind} {i : Int} {T : TypeId} (h0 : 0 ≤ i) : Bin P .shr T (enc64 a) (.int k i) (enc64 (shr64 a i.toNat)) := fun x y w => by
  have h : (a.toNat : Int).fdiv (2 ^ (min i.toNat 64)) = ((shr64 a i.toNat).toNat : Int) := by
    have ha := a.toNat_lt
    rw [shr64, UInt64.toNat_ofNat']
    have e1 : (a.toNat : Int).fdiv (2 ^ (min i.toNat 64)) = ((a.toNat / 2 ^ (min i.toNat 64) : Nat) : Int) := by
      rw [Int.fdiv_eq_ediv_of_nonneg _ (Int.le_of_lt (Int.pow_pos (by decide)))]; simp
    rw [e1]
    have e2 : a.toNat / 2 ^ (min i.toNat 64) = a.toNat / 2 ^ i.toNat := by
      rcases Nat.le_total i.toNat 64 with h | h
      · rw [Nat.min_eq_left h]
      · rw [Nat.min_eq_right h, Nat.div_eq_of_lt (by omega), Nat.div_eq_of_lt (Nat.lt_of_lt_of_le ha (Nat.pow_le_pow_right (by decide) h))]
    rw [e2, Nat.mod_eq_of_lt (Nat.lt_of_le_of_lt (Nat.div_le_self _ _) ha)]
  have hn : ¬ i < 0 := by omega
  simp only [eqGuard, binOp, Op.shift, enc64, hn, if_false, IntKind.bits, h]
  simp
def ofI64 (n : Int) : UInt64 := UInt64.ofNat (n % 18446744073709551616).toNat
theorem ofI64_nat (n : Int) : ((ofI64 n).toNat : Int) = n % 18446744073709551616 := by
  have h0 := Int.emod_nonneg n (show (18446744073709551616 : Int) ≠ 0 by decide)
  have h1 := Int.emod_lt_of_pos n (show (0 : Int) < 18446744073709551616 by decide)
  rw [ofI64, UInt64.toNat_ofNat', Nat.mod_eq_of_lt (by omega)]
  omega
variable {ρ : Env} {w : World}
/-- A number of whatever kind becomes one of 64 bits. -/
theorem ex_conv_u64 {src dst t : TypeId} {x : Operand} {k : IntKind} {a : Int} {ds : TypeDesc} (hx : ev ρ x = .int k a) (hs : P.underlying src = some ds) (hd : P.underlying dst = some (.int .u64)) :
    Ex P ρ (.convert src dst x) t w (enc64 (ofI64 a)) w := by
  have := ex_conv (P := P) (w := w) (t := t) hx hs hd
  rw [wrap_u64, ← ofI64_nat] at this
  exact this
theorem ex_not_u64 {xt t : TypeId} {x : Operand} {a : UInt64} (hx : ev ρ x = enc64 a) : Ex P ρ (.unOp .xor xt x) t w (enc64 (~~~a)) w := by
  refine ex_un_xor hx ?_
  have h : IntKind.u64.wrap (((BitVec.allOnes 64 ^^^ a.toBitVec).toNat : Nat) : Int) = ((~~~a).toNat : Int) := by
    have := wrap_enc64 (~~~a)
    rw [← this]
    congr 2
  have h2 : BitVec.ofInt 64 (if IntKind.u64.signed then (-1 : Int) else IntKind.u64.max) = BitVec.allOnes 64 := by decide
  obtain ⟨c, hc⟩ : ∃ c, c = (~~~a) := ⟨_, rfl⟩
  rw [← hc] at h ⊢
  simp only [Op.intBits, IntKind.bits, h2, ofInt_u64]
  exact congrArg (fun z => Result.ok (Value.int .u64 z) w) h
end u64

end Go.Proofs.YtpmkkhkphddfeaaDoor.SX
