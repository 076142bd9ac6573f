/- Layer 5, plain: OnesCount64; how many numbers a set has. -/
import Derived.Test.YtfdocckaobmgeaaDoorBJc
set_option linter.unusedVariables false
set_option linter.unusedSimpArgs false
namespace Go.Proofs.YtfdocckaobmgeaaDoor.X
open Go Go.RowKit Go.Proofs.YtfdocckaobmgeaaDoor.SX
def rep8 (m : Nat) : Nat → Nat
  | 0 => 0
  | n + 1 => m + 256 * rep8 m n
def dig : Nat → Nat → Nat
  | 0, _ => 0
  | n + 1, x => pcN 8 (x % 256) + 256 * dig n (x / 256)
theorem stages : ∀ (n x : Nat), x < 256 ^ n → sB (rep8 51 n) (sA (rep8 85 n) x) % 16 < 5 ∧ sC (rep8 15 n) (sB (rep8 51 n) (sA (rep8 85 n) x)) = dig n x
  | 0, x, h => by
    have : x = 0 := by simpa using h
    subst this
    decide
  | n + 1, x, h => by
    have hx : x / 256 < 256 ^ n := Nat.div_lt_of_lt_mul (by rw [Nat.pow_succ] at h; omega)
    obtain ⟨h1, h2⟩ := stages n (x / 256) hx
    have h3 := sABC (rep8 85 n) (rep8 51 n) (rep8 15 n) (x % 256) (x / 256) (Nat.mod_lt _ (by decide)) h1
    rw [show x % 256 + 256 * (x / 256) = x from by omega] at h3
    rw [rep8, rep8, rep8, dig, ← h2]
    exact h3
theorem pc_le8 (x : Nat) : pcN 8 (x % 256) ≤ 8 := (sAB_small _ (Nat.mod_lt _ (by decide))).2.2.2.2
theorem pc_step (d x : Nat) : pcN (8 + d) x = pcN 8 (x % 256) + pcN d (x / 256) := by
  rw [← pcN_byte d (x % 256) (x / 256) (Nat.mod_lt _ (by decide)), show x % 256 + 256 * (x / 256) = x from by omega]
theorem dig8 (x : Nat) : ∃ t0 t1 t2 t3 t4 t5 t6 t7 : Nat, t0 ≤ 8 ∧ t1 ≤ 8 ∧ t2 ≤ 8 ∧ t3 ≤ 8 ∧ t4 ≤ 8 ∧ t5 ≤ 8 ∧ t6 ≤ 8 ∧ t7 ≤ 8 ∧ dig 8 x = t0 + 256 * (t1 + 256 * (t2 + 256 * (t3 + 256 * (t4 + 256 * (t5 + 256 * (t6 + 256 * t7)))))) ∧ pcN 64 x = t0 + (t1 + (t2 + (t3 + (t4 + (t5 + (t6 + t7)))))) := by
  refine ⟨pcN 8 (x % 256), pcN 8 (x / 256 % 256), pcN 8 (x / 256 / 256 % 256), pcN 8 (x / 256 / 256 / 256 % 256), pcN 8 (x / 256 / 256 / 256 / 256 % 256), pcN 8 (x / 256 / 256 / 256 / 256 / 256 % 256), pcN 8 (x / 256 / 256 / 256 / 256 / 256 / 256 % 256), pcN 8 (x / 256 / 256 / 256 / 256 / 256 / 256 / 256 % 256), pc_le8 _, pc_le8 _, pc_le8 _, pc_le8 _, pc_le8 _, pc_le8 _, pc_le8 _, pc_le8 _, ?_, ?_⟩
  · simp only [dig, Nat.mul_zero, Nat.add_zero]
  · rw [show pcN 64 x = pcN (8 + 56) x from rfl, pc_step 56, show ∀ y, pcN 56 y = pcN (8 + 48) y from fun _ => rfl, pc_step 48, show ∀ y, pcN 48 y = pcN (8 + 40) y from fun _ => rfl, pc_step 40, show ∀ y, pcN 40 y = pcN (8 + 32) y from fun _ => rfl, pc_step 32, show ∀ y, pcN 32 y = pcN (8 + 24) y from fun _ => rfl, pc_step 24, show ∀ y, pcN 24 y = pcN (8 + 16) y from fun _ => rfl, pc_step 16, show ∀ y, pcN 16 y = pcN (8 + 8) y from fun _ => rfl, pc_step 8, show pcN 8 (x / 256 / 256 / 256 / 256 / 256 / 256 / 256) = pcN 8 (x / 256 / 256 / 256 / 256 / 256 / 256 / 256 % 256) from (pcN_mod 8 _).symm]

theorem shr_nat (x : UInt64) (s : Nat) : (shr64 x s).toNat = x.toNat / 2 ^ s := by
  rw [shr64, UInt64.toNat_ofNat', Nat.mod_eq_of_lt (Nat.lt_of_le_of_lt (Nat.div_le_self _ _) x.toNat_lt)]
theorem add_nat (x y : UInt64) (h : x.toNat + y.toNat < 18446744073709551616) : (x + y).toNat = x.toNat + y.toNat := by
  rw [UInt64.toNat_add, Nat.mod_eq_of_lt h]
def oA (a : UInt64) : UInt64 := ((shr64 a 1) &&& (6148914691236517205 : UInt64)) + (a &&& (6148914691236517205 : UInt64))
def oB (a : UInt64) : UInt64 := ((shr64 a 2) &&& (3689348814741910323 : UInt64)) + (a &&& (3689348814741910323 : UInt64))
def oC (a : UInt64) : UInt64 := ((shr64 a 4) + a) &&& (1085102592571150095 : UInt64)
def oD (a : UInt64) (s : Nat) : UInt64 := a + shr64 a s
theorem oA_nat (a : UInt64) : (oA a).toNat = sA 6148914691236517205 a.toNat := by
  have h1 : ((shr64 a 1) &&& (6148914691236517205 : UInt64)).toNat = a.toNat / 2 &&& 6148914691236517205 := by rw [UInt64.toNat_and, shr_nat]; rfl
  have h2 : (a &&& (6148914691236517205 : UInt64)).toNat = a.toNat &&& 6148914691236517205 := by rw [UInt64.toNat_and]; rfl
  have h3 : a.toNat / 2 &&& 6148914691236517205 ≤ 6148914691236517205 := Nat.and_le_right
  have h4 : a.toNat &&& 6148914691236517205 ≤ 6148914691236517205 := Nat.and_le_right
  unfold oA sA
  rw [add_nat _ _ (by rw [h1, h2]; omega), h1, h2]
theorem oB_nat (a : UInt64) : (oB a).toNat = sB 3689348814741910323 a.toNat ∧ (oB a).toNat ≤ 7378697629483820646 := by
  have h1 : ((shr64 a 2) &&& (3689348814741910323 : UInt64)).toNat = a.toNat / 4 &&& 3689348814741910323 := by rw [UInt64.toNat_and, shr_nat]; rfl
  have h2 : (a &&& (3689348814741910323 : UInt64)).toNat = a.toNat &&& 3689348814741910323 := by rw [UInt64.toNat_and]; rfl
  have h3 : a.toNat / 4 &&& 3689348814741910323 ≤ 3689348814741910323 := Nat.and_le_right
  have h4 : a.toNat &&& 3689348814741910323 ≤ 3689348814741910323 := Nat.and_le_right
  unfold oB sB
  rw [add_nat _ _ (by rw [h1, h2]; omega), h1, h2]
  exact ⟨rfl, by omega⟩
theorem oC_nat (a : UInt64) (h : a.toNat ≤ 7378697629483820646) : (oC a).toNat = sC 1085102592571150095 a.toNat := by
  unfold oC sC
  rw [UInt64.toNat_and, add_nat _ _ (by rw [shr_nat, show 2 ^ 4 = 16 from rfl]; omega), shr_nat]
  rfl
theorem oABC (a : UInt64) : (oC (oB (oA a))).toNat = dig 8 a.toNat := by
  have h := (stages 8 a.toNat (Nat.lt_of_lt_of_le a.toNat_lt (by decide))).2
  rw [oC_nat _ (oB_nat _).2, (oB_nat _).1, oA_nat, ← h]
  rfl
theorem ones_shape (a : UInt64) : bits_OnesCount64.f a = some (andI (wrap64 ((oD (oD (oD (oC (oB (oA a))) 8) 16) 32).toNat : Int)) 127) := rfl
theorem and127 (n : Nat) (h : n < 9223372036854775808) : andI (wrap64 (n : Int)) 127 = ((n % 128 : Nat) : Int) := by
  unfold andI
  rw [show wrap64 (n : Int) = (n : Int) from w64 (by omega) (by omega)]
  have h1 : (BitVec.ofInt 64 (n : Int) &&& BitVec.ofInt 64 127).toNat = n % 128 := by
    rw [BitVec.toNat_and, BitVec.ofInt_natCast, BitVec.toNat_ofNat, Nat.mod_eq_of_lt (by omega)]
    exact Nat.and_two_pow_sub_one_eq_mod n 7
  rw [h1, w64 (by omega) (by omega)]
theorem div_low (m a r : Nat) (h : a < m) : (a + m * r) / m = r := by
  rw [Nat.add_mul_div_left _ _ (by omega), Nat.div_eq_of_lt h, Nat.zero_add]
theorem id1 (t0 t1 t2 t3 t4 t5 t6 t7 : Nat) : t0 + 256 * (t1 + 256 * (t2 + 256 * (t3 + 256 * (t4 + 256 * (t5 + 256 * (t6 + 256 * t7)))))) + (t1 + 256 * (t2 + 256 * (t3 + 256 * (t4 + 256 * (t5 + 256 * (t6 + 256 * t7)))))) = (t0 + t1 + 256 * (t1 + t2)) + 65536 * ((t2 + t3) + 256 * ((t3 + t4) + 256 * ((t4 + t5) + 256 * ((t5 + t6) + 256 * ((t6 + t7) + 256 * t7))))) := by omega
theorem id2 (t0 t1 t2 t3 t4 t5 t6 t7 : Nat) : (t0 + t1 + 256 * (t1 + t2)) + 65536 * ((t2 + t3) + 256 * ((t3 + t4) + 256 * ((t4 + t5) + 256 * ((t5 + t6) + 256 * ((t6 + t7) + 256 * t7))))) + ((t2 + t3) + 256 * ((t3 + t4) + 256 * ((t4 + t5) + 256 * ((t5 + t6) + 256 * ((t6 + t7) + 256 * t7))))) =
    ((t0 + t1 + t2 + t3) + 256 * (t1 + t2 + t3 + t4) + 65536 * (t2 + t3 + t4 + t5) + 16777216 * (t3 + t4 + t5 + t6)) + 4294967296 * ((t4 + t5 + t6 + t7) + 256 * ((t5 + t6 + t7) + 256 * ((t6 + t7) + 256 * t7))) := by omega
theorem id3 (t0 t1 t2 t3 t4 t5 t6 t7 : Nat) : ((t0 + t1 + t2 + t3) + 256 * (t1 + t2 + t3 + t4) + 65536 * (t2 + t3 + t4 + t5) + 16777216 * (t3 + t4 + t5 + t6)) + 4294967296 * ((t4 + t5 + t6 + t7) + 256 * ((t5 + t6 + t7) + 256 * ((t6 + t7) + 256 * t7))) + ((t4 + t5 + t6 + t7) + 256 * ((t5 + t6 + t7) + 256 * ((t6 + t7) + 256 * t7))) =
    (t0 + (t1 + (t2 + (t3 + (t4 + (t5 + (t6 + t7))))))) + 128 * (2 * ((t1 + t2 + t3 + t4) + 256 * (t2 + t3 + t4 + t5) + 65536 * (t3 + t4 + t5 + t6) + 16777216 * ((t4 + t5 + t6 + t7) + 256 * ((t5 + t6 + t7) + 256 * ((t6 + t7) + 256 * t7))) + ((t5 + t6 + t7) + 256 * ((t6 + t7) + 256 * t7)))) := by omega
theorem small7 {t4 t5 t6 t7 : Nat} (h4 : t4 ≤ 8) (h5 : t5 ≤ 8) (h6 : t6 ≤ 8) (h7 : t7 ≤ 8) : (t4 + t5 + t6 + t7) + 256 * ((t5 + t6 + t7) + 256 * ((t6 + t7) + 256 * t7)) ≤ 134217760 * 8 := by omega
theorem small3 {t0 t1 t2 t3 t4 t5 t6 : Nat} (h0 : t0 ≤ 8) (h1 : t1 ≤ 8) (h2 : t2 ≤ 8) (h3 : t3 ≤ 8) (h4 : t4 ≤ 8) (h5 : t5 ≤ 8) (h6 : t6 ≤ 8) : (t0 + t1 + t2 + t3) + 256 * (t1 + t2 + t3 + t4) + 65536 * (t2 + t3 + t4 + t5) + 16777216 * (t3 + t4 + t5 + t6) < 4294967296 := by omega
theorem bnd3 {x : Nat} {a r : Nat} (hx : x = a + 4294967296 * r) (ha : a < 4294967296) (hr : r ≤ 1073742080) : x + r < 9223372036854775808 := by omega
theorem lt256 {a : Nat} (h : a ≤ 8) : a < 256 := by omega
theorem lt64k {a b c : Nat} (h : a ≤ 8) (h2 : b ≤ 8) (h3 : c ≤ 8) : a + b + 256 * (b + c) < 65536 := by omega
theorem lt128 {t0 t1 t2 t3 t4 t5 t6 t7 : Nat} (h0 : t0 ≤ 8) (h1 : t1 ≤ 8) (h2 : t2 ≤ 8) (h3 : t3 ≤ 8) (h4 : t4 ≤ 8) (h5 : t5 ≤ 8) (h6 : t6 ≤ 8) (h7 : t7 ≤ 8) : t0 + (t1 + (t2 + (t3 + (t4 + (t5 + (t6 + t7)))))) < 128 := by omega
theorem fold8 (t0 t1 t2 t3 t4 t5 t6 t7 : Nat) (h0 : t0 ≤ 8) (h1 : t1 ≤ 8) (h2 : t2 ≤ 8) (h3 : t3 ≤ 8) (h4 : t4 ≤ 8) (h5 : t5 ≤ 8) (h6 : t6 ≤ 8) (h7 : t7 ≤ 8) (x : Nat) (hx : x = t0 + 256 * (t1 + 256 * (t2 + 256 * (t3 + 256 * (t4 + 256 * (t5 + 256 * (t6 + 256 * t7))))))) :
    ∃ y z u : Nat, y = x + x / 256 ∧ z = y + y / 65536 ∧ u = z + z / 4294967296 ∧ u < 9223372036854775808 ∧ u % 128 = t0 + (t1 + (t2 + (t3 + (t4 + (t5 + (t6 + t7)))))) := by
  have hd : x / 256 = t1 + 256 * (t2 + 256 * (t3 + 256 * (t4 + 256 * (t5 + 256 * (t6 + 256 * t7))))) := by rw [hx]; exact div_low 256 _ _ (lt256 h0)
  have hy := id1 t0 t1 t2 t3 t4 t5 t6 t7
  rw [← hx, ← hd] at hy
  clear hd hx
  generalize x + x / 256 = y at hy
  have hd2 : y / 65536 = (t2 + t3) + 256 * ((t3 + t4) + 256 * ((t4 + t5) + 256 * ((t5 + t6) + 256 * ((t6 + t7) + 256 * t7)))) := by rw [hy]; exact div_low 65536 _ _ (lt64k h0 h1 h2)
  have hz := id2 t0 t1 t2 t3 t4 t5 t6 t7
  rw [← hy, ← hd2] at hz
  clear hd2 hy
  have hs3 := small3 h0 h1 h2 h3 h4 h5 h6
  have hs7 := small7 h4 h5 h6 h7
  generalize hzz : y + y / 65536 = z at hz
  have hd3 : z / 4294967296 = (t4 + t5 + t6 + t7) + 256 * ((t5 + t6 + t7) + 256 * ((t6 + t7) + 256 * t7)) := by rw [hz]; exact div_low 4294967296 _ _ hs3
  have hu := id3 t0 t1 t2 t3 t4 t5 t6 t7
  rw [← hz, ← hd3] at hu
  refine ⟨y, z, z + z / 4294967296, rfl, hzz.symm, rfl, ?_, ?_⟩
  · rw [hd3]
    exact bnd3 hz hs3 hs7
  · rw [hu, Nat.add_mul_mod_self_left, Nat.mod_eq_of_lt (lt128 h0 h1 h2 h3 h4 h5 h6 h7)]
theorem oD_nat (a : UInt64) (s x y q : Nat) (hx : a.toNat = x) (hy : y = x + x / q) (hq : 2 ^ s = q) (hb : y < 18446744073709551616) : (oD a s).toNat = y := by
  have h : (shr64 a s).toNat = x / q := by rw [shr_nat, hx, hq]
  rw [oD, add_nat _ _ (by rw [h, hx, ← hy]; exact hb), h, hx, hy]
theorem ord4 {x y z u a b c : Nat} (h1 : y = x + a) (h2 : z = y + b) (h3 : u = z + c) (h : u < 9223372036854775808) : y < 18446744073709551616 ∧ z < 18446744073709551616 ∧ u < 18446744073709551616 := by omega
theorem ones_f (a : UInt64) : bits_OnesCount64.f a = some ((pcN 64 a.toNat : Nat) : Int) := by
  rw [ones_shape]
  obtain ⟨t0, t1, t2, t3, t4, t5, t6, t7, h0, h1, h2, h3, h4, h5, h6, h7, hd, hp⟩ := dig8 a.toNat
  have hx := oABC a
  obtain ⟨y, z, u, hy, hz, hu, hb, hm⟩ := fold8 t0 t1 t2 t3 t4 t5 t6 t7 h0 h1 h2 h3 h4 h5 h6 h7 _ (hx.trans hd)
  generalize oC (oB (oA a)) = x at hx hy
  obtain ⟨b1, b2, b3⟩ := ord4 hy hz hu hb
  have e1 := oD_nat x 8 _ y 256 rfl hy rfl b1
  have e2 := oD_nat (oD x 8) 16 _ z 65536 e1 hz rfl b2
  have e3 := oD_nat (oD (oD x 8) 16) 32 _ u 4294967296 e2 hu rfl b3
  rw [e3, and127 u hb, hm, ← hp]
theorem pc_le : ∀ (d x : Nat), pcN d x ≤ d
  | 0, x => Nat.le_refl _
  | d + 1, x => by
    have := pc_le d (x / 2)
    rw [pcN]
    omega
theorem pc_le64 (x : Nat) : pcN 64 x ≤ 64 := pc_le 64 x
theorem mb_pc {e : List UInt64} (hl : e.length = 16) (w : Nat) (hw : w < 16) : ∀ s : Nat, s ≤ 64 → (mb e (64 * w + 64 - s)).length = pcN s ((e.getD w 0).toNat / 2 ^ (64 - s)) + (mb e (64 * (w + 1))).length
  | 0, _ => by rw [show 64 * w + 64 - 0 = 64 * (w + 1) from by omega, pcN, Nat.zero_add]
  | s + 1, hs => by
    have ih := mb_pc hl w hw s (by omega)
    have hlt : 64 * w + 64 - (s + 1) < 1024 := by omega
    have hm : mem e (64 * w + 64 - (s + 1)) = (e.getD w 0).toNat.testBit (64 - (s + 1)) := by
      unfold mem
      rw [show (64 * w + 64 - (s + 1)) / 64 = w from by omega, show (64 * w + 64 - (s + 1)) % 64 = 64 - (s + 1) from by omega]
    have hp : 2 ^ (64 - s) = 2 ^ (64 - (s + 1)) * 2 := by rw [show 64 - s = (64 - (s + 1)) + 1 from by omega]; exact Nat.pow_succ ..
    rw [pcN, Nat.div_div_eq_div_mul, ← hp]
    rw [show 64 * w + 64 - s = 64 * w + 64 - (s + 1) + 1 from by omega] at ih
    rw [Nat.testBit_eq_decide_div_mod_eq] at hm
    by_cases h : (e.getD w 0).toNat / 2 ^ (64 - (s + 1)) % 2 = 1
    · rw [decide_eq_true h] at hm
      rw [mb_in e hlt hm, List.length_cons, ih, h]
      omega
    · rw [decide_eq_false h] at hm
      rw [mb_out e hlt hm, ih, show (e.getD w 0).toNat / 2 ^ (64 - (s + 1)) % 2 = 0 from by omega]
      omega
theorem key_ {a : UInt64} {n m : Nat} {P : Prop} (p : Nat) (h1 : p ≤ 64) (h2 : bits_OnesCount64.f a = some (p : Int)) (h3 : n = p + m) (k : ∀ p : Nat, p ≤ 64 → bits_OnesCount64.f a = some (p : Int) → n = p + m → P) : P := k p h1 h2 h3
theorem count_l1 {e : List UInt64} (hl : e.length = 16) (k : Nat) : ∀ (n w c : Nat), w ≤ 16 → c ≤ 64 * w → 16 - w < n → bits_Count.l1 k e n (c : Int) (w : Int) = some ((c + (mb e (64 * w)).length : Nat) : Int) := by
  intro n
  induction n with
  | zero => intro w c _ _ h; omega
  | succ n ih =>
    intro w c hw hc hn
    rw [bits_Count.l1.eq_2]
    by_cases h : w < 16
    · have h1 : w < e.length := by omega
      have hg : e.getD w 0 = e[w] := by simp [List.getD, h1]
      have hp := mb_pc hl w h 64 (Nat.le_refl _)
      have hle := mb_len e (1024 - 64 * w) (64 * w) rfl
      rw [show 64 * w + 64 - 64 = 64 * w from by omega, hg, Nat.sub_self, Nat.pow_zero, Nat.div_one] at hp
      refine key_ (pcN 64 e[w].toNat) (pc_le64 _) (ones_f _) hp ?_
      clear hp
      intro p hle2 ho hp
      rw [decide_eq_true (by omega), cond_true, ix_nat, List.getElem?_eq_getElem h1, bind_some', ho, bind_some', wsucc w (by omega), show wrap64 ((c : Int) + (p : Int)) = ((c + p : Nat) : Int) from by rw [w64 (by omega) (by omega)]; omega, ih (w + 1) _ (by omega) (by omega) (by omega), hp]
      congr 2
      omega
    · have h0 : w = 16 := by omega
      subst h0
      rw [decide_eq_false (by omega), cond_false, mb_end e (by omega)]
      rfl
theorem count_f {e : List UInt64} (hl : e.length = 16) {k : Nat} (hk : 16 < k) : bits_Count.f k e = some ((mb e 0).length : Int) := by
  unfold bits_Count.f
  have h := count_l1 hl k k 0 0 (by omega) (by omega) (by omega)
  rw [show ((0 : Nat) : Int) = 0 from rfl] at h
  rw [h, bind_some', Nat.zero_add]
end Go.Proofs.YtfdocckaobmgeaaDoor.X
