import Derived.Test.YtfdocckaobmgeaaDoorSxT
import Derived.Lib.ValidU
import Derived.Lib.AtoiAll
import Derived.Shelf.Strconv.Itoa3
import Derived.Shelf.Small.Utf8
import Derived.Shelf.Small.Strs
set_option maxRecDepth 20000
set_option linter.unusedVariables false
set_option linter.unusedSimpArgs false
set_option linter.unnecessarySimpa false
namespace Go.Proofs.YtfdocckaobmgeaaDoor.X
open Go Go.RowKit Go.Proofs.YtfdocckaobmgeaaDoor.SX

def strconv_Itoa.f (a0 : Int) : Option (List UInt8) := (chk (decide (-9223372036854775808 ≤ a0) && decide (a0 ≤ 9223372036854775807))).bind fun _ => some (Lib.itoa a0)
def Builder_Grow.f (a1 : Int) : Option (List UInt8) := (chk (decide (0 ≤ a1) && decide (a1 ≤ 281474976710656))).bind fun _ => some []
def Builder_WriteString.f (a0 : List UInt8) (a1 : List UInt8) : Option (Int × List UInt8) := (chk (decide ((a0.length + a1.length) * 1 ≤ 140737488355328))).bind fun _ => some ((a1.length : Int), a0 ++ a1)
def Builder_String.f (a0 : List UInt8) : Option (List UInt8) := (chk (decide (a0.length ≤ 9223372036854775807))).bind fun _ => some a0
def strings_Index.f (a0 a1 : List UInt8) : Option Int := match a1 with | [c] => some (Lib.indexByte a0 c) | _ => none
def stringslite_Index.f (a0 a1 : List UInt8) : Option Int := match a1 with | [c] => some (Lib.indexByte a0 c) | _ => none
def atoiF (a0 : List UInt8) : Int × Bool := match Lib.atoiAll a0 with | .ok v => (v, false) | .range => (Lib.atoiSat a0, true) | _ => (0, true)
def strconv_Atoi.f (a0 : List UInt8) : Option (Int × Bool) := (chk (decide (a0.length ≤ 281474976710656))).bind fun _ => some (atoiF a0)
/-! ### bits_inside: function 46 -/
def bits_inside.f (a0 : Int) : Option (Bool) :=
  (bif (decide (a0 ≥ 0)) then
  some (decide (a0 < 1024))
  else
  some false)

/-! ### bits_TrailingZeros64: function 47 -/
def bits_TrailingZeros64.f (a0 : UInt64) : Option (Int) :=
  (bif (a0 == (0 : UInt64)) then
  some 64
  else
  (ix db64 ((shr64 ((a0 &&& (0 - a0)) * (285870213051353865 : UInt64)) 58).toNat : Int)).bind fun x102 =>
  some (x102.toNat : Int))

/-! ### bits_Next: function 13 -/
def bits_Next.l1 (k : Nat) (a0 : (List UInt64)) (a1 : Int) (x113 : UInt64) : Nat → Int → Option (Sum (Int × Bool) (Unit))
  | 0, _ => none
  | kk + 1, x120 =>
    (bif (decide (x120 < 16)) then
    (ix (a0.set (wrap64 ((if 0 > a1 then 0 else a1).tdiv 64)).toNat (x113 &&& (shl64 (18446744073709551615 : UInt64) ((if 0 > a1 then 0 else a1).tmod 64).toNat))) x120).bind fun x129 =>
    (bif (!(x129 == (0 : UInt64))) then
    (ix (a0.set (wrap64 ((if 0 > a1 then 0 else a1).tdiv 64)).toNat (x113 &&& (shl64 (18446744073709551615 : UInt64) ((if 0 > a1 then 0 else a1).tmod 64).toNat))) x120).bind fun x131 =>
    (bits_TrailingZeros64.f x131).bind fun z132 =>
    some (.inl (wrap64 ((wrap64 (64 * x120)) + z132), true))
    else
    bits_Next.l1 k a0 a1 x113 kk (wrap64 (x120 + 1)))
    else
    some (.inr ()))
def bits_Next.f (k : Nat) (a0 : (List UInt64)) (a1 : Int) : Option (Int × Bool) :=
  (bits_inside.f (if 0 > a1 then 0 else a1)).bind fun z106 =>
  (bif (!z106) then
  some (0, false)
  else
  (ix a0 (wrap64 ((if 0 > a1 then 0 else a1).tdiv 64))).bind fun x113 =>
  (chk (decide (0 ≤ (if 0 > a1 then 0 else a1).tmod 64))).bind fun _ =>
  (ix a0 (wrap64 ((if 0 > a1 then 0 else a1).tdiv 64))).bind fun x115 =>
  (bits_Next.l1 k a0 a1 x113 k (wrap64 ((if 0 > a1 then 0 else a1).tdiv 64))).bind fun z121 => match z121 with
  | .inl r_ => some r_
  | .inr _ =>
  some (0, false))
theorem bits_Next.l1.mono {k k' : Nat} (hk : k ≤ k') (a0 : (List UInt64)) (a1 : Int) (x113 : UInt64) : ∀ (n n' : Nat) (hn : n ≤ n') y0, Le (bits_Next.l1 k a0 a1 x113 n y0) (bits_Next.l1 k' a0 a1 x113 n' y0) := by
  intro n
  induction n with
  | zero => intro n' hn y0; exact Le.none _
  | succ n ih =>
    intro n' hn y0
    obtain ⟨n', rfl⟩ : ∃ m, n' = m + 1 := ⟨n' - 1, by omega⟩
    have hn' : n ≤ n' := by omega
    rw [bits_Next.l1.eq_2, bits_Next.l1.eq_2]
    repeat' first
      | exact Le.refl _
      | exact ih n' hn' _
      | refine Le.bind ?_ fun x_ => ?_
      | refine Le.cond ?_ ?_
      | refine Le.nilc ?_ ?_
      | split
theorem bits_Next.mono {k k' : Nat} (hk : k ≤ k') (a0 : (List UInt64)) (a1 : Int) : Le (bits_Next.f k a0 a1) (bits_Next.f k' a0 a1) := by
  unfold bits_Next.f
  repeat' first
    | exact Le.refl _
    | exact bits_Next.l1.mono hk _ _ _ _ _ hk _
    | refine Le.bind ?_ fun x_ => ?_
    | refine Le.cond ?_ ?_
    | refine Le.nilc ?_ ?_
    | split

/-! ### bits_Has: function 32 -/
def bits_Has.f (a0 : (List UInt64)) (a1 : Int) : Option (Bool) :=
  (bits_inside.f a1).bind fun z106 =>
  (bif z106 then
  (ix a0 (wrap64 (a1.tdiv 64))).bind fun x111 =>
  (chk (decide (0 ≤ a1.tmod 64))).bind fun _ =>
  some (((shr64 x111 (a1.tmod 64).toNat) &&& (1 : UInt64)) == (1 : UInt64))
  else
  some false)

/-! ### octet_Dec: function 38 -/
def octet_Dec.f (a0 : Int) : Option ((List UInt8)) :=
  (strconv_Itoa.f a0).bind fun z101 =>
  some z101

/-! ### strings_Join: function 39 -/
def strings_Join.l1 (k : Nat) (a0 : (List (List UInt8))) : Nat → Int → Int → Option (Int)
  | 0, _, _ => none
  | kk + 1, x116, x117 =>
    (bif (decide (x117 < (a0.length : Int))) then
    (ix a0 x117).bind fun x127 =>
    (bif (decide ((x127.length : Int) > (wrap64 (9223372036854775807 - x116)))) then
    none
    else
    strings_Join.l1 k a0 kk (wrap64 (x116 + (x127.length : Int))) (wrap64 (x117 + 1)))
    else
    some x116)
def strings_Join.l2 (k : Nat) (a1 : List UInt8) (y161 : (List (List UInt8))) : Nat → Int → (List UInt8) → Option ((List UInt8))
  | 0, _, _ => none
  | kk + 1, x168, x169 =>
    (bif (decide (x168 < (y161.length : Int))) then
    (ix y161 x168).bind fun x179 =>
    (Builder_WriteString.f x169 a1).bind fun z186 =>
    (Builder_WriteString.f z186.2 x179).bind fun z191 =>
    strings_Join.l2 k a1 y161 kk (wrap64 (x168 + 1)) z191.2
    else
    some x169)
def strings_Join.f (k : Nat) (a0 : (List (List UInt8))) (a1 : List UInt8) : Option ((List UInt8)) :=
  (bif ((a0.length : Int) == 0) then
  some ([] : List UInt8)
  else
  (bif ((a0.length : Int) == 1) then
  (ix a0 (0 : Int)).bind fun x103 =>
  some x103
  else
  ((bif (decide ((a1.length : Int) > 0)) then
  (chk (!((wrap64 ((a0.length : Int) - 1)) == 0))).bind fun _ =>
  (bif (decide ((a1.length : Int) ≥ (wrap64 ((9223372036854775807 : Int).tdiv (wrap64 ((a0.length : Int) - 1)))))) then
  none
  else
  some (wrap64 (0 + (wrap64 ((a1.length : Int) * (wrap64 ((a0.length : Int) - 1)))))))
  else
  some 0) : Option (Int)).bind fun z111 =>
  (strings_Join.l1 k a0 k z111 0).bind fun z119 =>
  (Builder_Grow.f z119).bind fun z144 =>
  (ix a0 (0 : Int)).bind fun x149 =>
  (Builder_WriteString.f z144 x149).bind fun z156 =>
  (cut a0 1 (a0.length : Int)).bind fun y161 =>
  (strings_Join.l2 k a1 y161 k 0 z156.2).bind fun z171 =>
  (Builder_String.f z171).bind fun z199 =>
  some z199))
theorem strings_Join.l1.mono {k k' : Nat} (hk : k ≤ k') (a0 : (List (List UInt8))) : ∀ (n n' : Nat) (hn : n ≤ n') y0 y1, Le (strings_Join.l1 k a0 n y0 y1) (strings_Join.l1 k' a0 n' y0 y1) := by
  intro n
  induction n with
  | zero => intro n' hn y0 y1; exact Le.none _
  | succ n ih =>
    intro n' hn y0 y1
    obtain ⟨n', rfl⟩ : ∃ m, n' = m + 1 := ⟨n' - 1, by omega⟩
    have hn' : n ≤ n' := by omega
    rw [strings_Join.l1.eq_2, strings_Join.l1.eq_2]
    repeat' first
      | exact Le.refl _
      | exact ih n' hn' _ _
      | refine Le.bind ?_ fun x_ => ?_
      | refine Le.cond ?_ ?_
      | refine Le.nilc ?_ ?_
      | split
theorem strings_Join.l2.mono {k k' : Nat} (hk : k ≤ k') (a1 : List UInt8) (y161 : (List (List UInt8))) : ∀ (n n' : Nat) (hn : n ≤ n') y0 y1, Le (strings_Join.l2 k a1 y161 n y0 y1) (strings_Join.l2 k' a1 y161 n' y0 y1) := by
  intro n
  induction n with
  | zero => intro n' hn y0 y1; exact Le.none _
  | succ n ih =>
    intro n' hn y0 y1
    obtain ⟨n', rfl⟩ : ∃ m, n' = m + 1 := ⟨n' - 1, by omega⟩
    have hn' : n ≤ n' := by omega
    rw [strings_Join.l2.eq_2, strings_Join.l2.eq_2]
    repeat' first
      | exact Le.refl _
      | exact strings_Join.l1.mono hk _ _ _ hk _ _
      | exact strings_Join.l1.mono hk _ _ _ hn' _ _
      | exact ih n' hn' _ _
      | refine Le.bind ?_ fun x_ => ?_
      | refine Le.cond ?_ ?_
      | refine Le.nilc ?_ ?_
      | split
theorem strings_Join.mono {k k' : Nat} (hk : k ≤ k') (a0 : (List (List UInt8))) (a1 : List UInt8) : Le (strings_Join.f k a0 a1) (strings_Join.f k' a0 a1) := by
  unfold strings_Join.f
  repeat' first
    | exact Le.refl _
    | exact strings_Join.l1.mono hk _ _ _ hk _ _
    | exact strings_Join.l2.mono hk _ _ _ _ hk _ _
    | refine Le.bind ?_ fun x_ => ?_
    | refine Le.cond ?_ ?_
    | refine Le.nilc ?_ ?_
    | split

/-! ### bits_Text: function 8 -/
def bits_Text.l2 (k : Nat) (a0 : (List UInt64)) : Nat → Int → Option (Int)
  | 0, _ => none
  | kk + 1, x126 =>
    (bits_Has.f a0 (wrap64 (x126 + 1))).bind fun z135 =>
    (bif z135 then
    bits_Text.l2 k a0 kk (wrap64 (x126 + 1))
    else
    some x126)
def bits_Text.l1 (k : Nat) (a0 : (List UInt64)) : Nat → (List (List UInt8)) → Int → Bool → Option ((List (List UInt8)))
  | 0, _, _, _ => none
  | kk + 1, x112, x113, x114 =>
    (bif x114 then
    (bits_Text.l2 k a0 k x113).bind fun z128 =>
    (octet_Dec.f x113).bind fun z143 =>
    ((bif (decide (z128 > x113)) then
    (octet_Dec.f z128).bind fun z173 =>
    (chk (decide (([45] : List UInt8).length + z173.length ≤ 9223372036854775807))).bind fun _ =>
    (chk (decide (z143.length + (([45] : List UInt8) ++ z173).length ≤ 9223372036854775807))).bind fun _ =>
    some (z143 ++ (([45] : List UInt8) ++ z173))
    else
    some z143) : Option ((List UInt8))).bind fun z148 =>
    (chk (decide ((x112.length + [z148].length) * 16 ≤ 140737488355328))).bind fun _ =>
    (bits_Next.f k a0 (wrap64 (z128 + 1))).bind fun z167 =>
    bits_Text.l1 k a0 kk (x112 ++ [z148]) z167.1 z167.2
    else
    some x112)
def bits_Text.f (k : Nat) (a0 : (List UInt64)) : Option ((List UInt8)) :=
  (bits_Next.f k a0 0).bind fun z106 =>
  (bits_Text.l1 k a0 k ([] : List (List UInt8)) z106.1 z106.2).bind fun z118 =>
  (strings_Join.f k z118 ([44] : List UInt8)).bind fun z185 =>
  some z185
theorem bits_Text.l2.mono {k k' : Nat} (hk : k ≤ k') (a0 : (List UInt64)) : ∀ (n n' : Nat) (hn : n ≤ n') y0, Le (bits_Text.l2 k a0 n y0) (bits_Text.l2 k' a0 n' y0) := by
  intro n
  induction n with
  | zero => intro n' hn y0; exact Le.none _
  | succ n ih =>
    intro n' hn y0
    obtain ⟨n', rfl⟩ : ∃ m, n' = m + 1 := ⟨n' - 1, by omega⟩
    have hn' : n ≤ n' := by omega
    rw [bits_Text.l2.eq_2, bits_Text.l2.eq_2]
    repeat' first
      | exact Le.refl _
      | exact bits_Next.mono hk _ _
      | exact strings_Join.mono hk _ _
      | exact ih n' hn' _
      | refine Le.bind ?_ fun x_ => ?_
      | refine Le.cond ?_ ?_
      | refine Le.nilc ?_ ?_
      | split
theorem bits_Text.l1.mono {k k' : Nat} (hk : k ≤ k') (a0 : (List UInt64)) : ∀ (n n' : Nat) (hn : n ≤ n') y0 y1 y2, Le (bits_Text.l1 k a0 n y0 y1 y2) (bits_Text.l1 k' a0 n' y0 y1 y2) := by
  intro n
  induction n with
  | zero => intro n' hn y0 y1 y2; exact Le.none _
  | succ n ih =>
    intro n' hn y0 y1 y2
    obtain ⟨n', rfl⟩ : ∃ m, n' = m + 1 := ⟨n' - 1, by omega⟩
    have hn' : n ≤ n' := by omega
    rw [bits_Text.l1.eq_2, bits_Text.l1.eq_2]
    repeat' first
      | exact Le.refl _
      | exact bits_Next.mono hk _ _
      | exact strings_Join.mono hk _ _
      | exact bits_Text.l2.mono hk _ _ _ hk _
      | exact bits_Text.l2.mono hk _ _ _ hn' _
      | exact ih n' hn' _ _ _
      | refine Le.bind ?_ fun x_ => ?_
      | refine Le.cond ?_ ?_
      | refine Le.nilc ?_ ?_
      | split
theorem bits_Text.mono {k k' : Nat} (hk : k ≤ k') (a0 : (List UInt64)) : Le (bits_Text.f k a0) (bits_Text.f k' a0) := by
  unfold bits_Text.f
  repeat' first
    | exact Le.refl _
    | exact bits_Next.mono hk _ _
    | exact strings_Join.mono hk _ _
    | exact bits_Text.l2.mono hk _ _ _ hk _
    | exact bits_Text.l1.mono hk _ _ _ hk _ _ _
    | refine Le.bind ?_ fun x_ => ?_
    | refine Le.cond ?_ ?_
    | refine Le.nilc ?_ ?_
    | split

/-! ### strings_splitSeq: function 59 -/
def strings_splitSeq.f (a0 : List UInt8) (a1 : List UInt8) (a2 : Int) : Option ((List UInt8) × (List UInt8) × Int) :=
  some (a1, a0, a2)

/-! ### strings_SplitSeq: function 40 -/
def strings_SplitSeq.f (a0 : List UInt8) (a1 : List UInt8) : Option ((List UInt8) × (List UInt8) × Int) :=
  (strings_splitSeq.f a0 a1 0).bind fun z101 =>
  some (z101.1, z101.2.1, z101.2.2)


/-! ### The iterator of strings.SplitSeq -/
def strings_SplitSeq.seq (a : List UInt8 × List UInt8 × Int) : Option (List (List UInt8)) := if a.1.length = 1 ∧ a.2.2 = 0 ∧ a.2.1.length ≤ 4611686018427387904 then some (splitB (a.1.getD 0 0) a.2.1) else none
def restOf (a : List UInt8 × List UInt8 × Int) (q : Nat) : List UInt8 := restB (a.1.getD 0 0) a.2.1 (min q ((splitB (a.1.getD 0 0) a.2.1).length - 1))

/-! ### stringslite_Cut: function 60 -/
def stringslite_Cut.f (a0 : List UInt8) (a1 : List UInt8) : Option ((List UInt8) × (List UInt8) × Bool) :=
  (stringslite_Index.f a0 a1).bind fun z101 =>
  (bif (decide (z101 ≥ 0)) then
  (cut a0 0 z101).bind fun y108 =>
  (cut a0 (wrap64 (z101 + (a1.length : Int))) (a0.length : Int)).bind fun y109 =>
  some (y108, y109, true)
  else
  some (a0, ([] : List UInt8), false))

/-! ### strings_Cut: function 41 -/
def strings_Cut.f (a0 : List UInt8) (a1 : List UInt8) : Option ((List UInt8) × (List UInt8) × Bool) :=
  (stringslite_Cut.f a0 a1).bind fun z101 =>
  some (z101.1, z101.2.1, z101.2.2)

/-! ### octet_Undec: function 42 -/
def octet_Undec.f (a0 : List UInt8) (a1 : Int) : Option (Int × Int) :=
  (strconv_Atoi.f a0).bind fun z101 =>
  ((bif z101.2 then
  some true
  else
  (bif (decide (z101.1 < 0)) then
  some true
  else
  (bif (decide (z101.1 > a1)) then
  some true
  else
  (bif (decide ((a0.length : Int) > 10)) then
  some true
  else
  (octet_Dec.f z101.1).bind fun z119 =>
  some (!(z119 == a0)))))) : Option (Bool)).bind fun z108 =>
  (bif z108 then
  some (0, 2)
  else
  some (z101.1, 0))

/-! ### bits_Parse: function 9 -/
def bits_Parse.l2 (k : Nat) (z177 : Int × Int) : Nat → Int → (List UInt64) → Option ((List UInt64))
  | 0, _, _ => none
  | kk + 1, x194, x195 =>
    (bif (decide (x194 ≤ z177.1)) then
    (ix x195 (wrap64 (x194.tdiv 64))).bind fun x209 =>
    (chk (decide (0 ≤ x194.tmod 64))).bind fun _ =>
    (ix x195 (wrap64 (x194.tdiv 64))).bind fun x211 =>
    bits_Parse.l2 k z177 kk (wrap64 (x194 + 1)) (x195.set (wrap64 (x194.tdiv 64)).toNat (x209 ||| (shl64 (1 : UInt64) (x194.tmod 64).toNat)))
    else
    some x195)
def bits_Parse.l1 (k : Nat) : List (List UInt8) → (List UInt64) → Option (Sum (Unit) ((List UInt64)))
  | [], x135 => some (.inr x135)
  | x152 :: xs_, x135 =>
    (strings_Cut.f x152 ([45] : List UInt8)).bind fun z163 =>
    ((bif (!z163.2.2) then
    some z163.1
    else
    some z163.2.1) : Option ((List UInt8))).bind fun z168 =>
    (octet_Undec.f z163.1 1023).bind fun z173 =>
    (octet_Undec.f z168 1023).bind fun z177 =>
    ((bif (z173.2 != 0) then
    some true
    else
    some (z177.2 != 0)) : Option (Bool)).bind fun z182 =>
    (bif z182 then
    some (.inl ())
    else
    (bits_Parse.l2 k z177 k z173.1 x135).bind fun z199 =>
    bits_Parse.l1 k xs_ z199)
def bits_Parse.f (k : Nat) (a0 : List UInt8) : Option ((List UInt64) × Int) :=
  (bif (a0 == ([] : List UInt8)) then
  some ((List.replicate 16 ((0 : UInt64))), 0)
  else
  (strings_SplitSeq.f a0 ([44] : List UInt8)).bind fun z125 =>
  (strings_SplitSeq.seq (z125.1, z125.2.1, z125.2.2)).bind fun xs137 =>
  (bits_Parse.l1 k xs137 (List.replicate 16 ((0 : UInt64)))).bind fun z138 => match z138 with
  | .inl _ => some ((List.replicate 16 ((0 : UInt64))), 50)
  | .inr x135 =>
  (bits_Text.f k x135).bind fun z237 =>
  (bif (!(z237 == a0)) then
  some ((List.replicate 16 ((0 : UInt64))), 50)
  else
  some (x135, 0)))
theorem bits_Parse.l2.mono {k k' : Nat} (hk : k ≤ k') (z177 : Int × Int) : ∀ (n n' : Nat) (hn : n ≤ n') y0 y1, Le (bits_Parse.l2 k z177 n y0 y1) (bits_Parse.l2 k' z177 n' y0 y1) := by
  intro n
  induction n with
  | zero => intro n' hn y0 y1; exact Le.none _
  | succ n ih =>
    intro n' hn y0 y1
    obtain ⟨n', rfl⟩ : ∃ m, n' = m + 1 := ⟨n' - 1, by omega⟩
    have hn' : n ≤ n' := by omega
    rw [bits_Parse.l2.eq_2, bits_Parse.l2.eq_2]
    repeat' first
      | exact Le.refl _
      | exact bits_Text.mono hk _
      | exact ih n' hn' _ _
      | refine Le.bind ?_ fun x_ => ?_
      | refine Le.cond ?_ ?_
      | refine Le.nilc ?_ ?_
      | split
theorem bits_Parse.l1.mono {k k' : Nat} (hk : k ≤ k') : ∀ l_ y0, Le (bits_Parse.l1 k l_ y0) (bits_Parse.l1 k' l_ y0) := by
  intro l_
  induction l_ with
  | nil => intro y0; rw [bits_Parse.l1.eq_1, bits_Parse.l1.eq_1]; exact Le.refl _
  | cons a_ l_ ih =>
    intro y0
    rw [bits_Parse.l1.eq_2, bits_Parse.l1.eq_2]
    repeat' first
      | exact Le.refl _
      | exact bits_Text.mono hk _
      | exact bits_Parse.l2.mono hk _ _ _ hk _ _
      | exact bits_Parse.l2.mono hk _ _ _ hn' _ _
      | exact ih _
      | refine Le.bind ?_ fun x_ => ?_
      | refine Le.cond ?_ ?_
      | refine Le.nilc ?_ ?_
      | split
theorem bits_Parse.mono {k k' : Nat} (hk : k ≤ k') (a0 : List UInt8) : Le (bits_Parse.f k a0) (bits_Parse.f k' a0) := by
  unfold bits_Parse.f
  repeat' first
    | exact Le.refl _
    | exact bits_Text.mono hk _
    | exact bits_Parse.l2.mono hk _ _ _ hk _ _
    | exact bits_Parse.l1.mono hk _ _
    | refine Le.bind ?_ fun x_ => ?_
    | refine Le.cond ?_ ?_
    | refine Le.nilc ?_ ?_
    | split

/-! ### dictumref01_Undec: function 43 -/
def dictumref01_Undec.l1 (k : Nat) (a0 : List UInt8) : Nat → Int → Int → Option (Sum (Int × Int) (Int))
  | 0, _, _ => none
  | kk + 1, x108, x109 =>
    (bif (decide (x109 < (a0.length : Int))) then
    ((ix a0 x109).bind fun x128 =>
    (bif (decide (x128 < (48 : UInt8))) then
    some true
    else
    (ix a0 x109).bind fun x130 =>
    some (decide ((57 : UInt8) < x130))) : Option (Bool)).bind fun z120 =>
    (bif z120 then
    some (.inl (0, 2))
    else
    (ix a0 x109).bind fun x126 =>
    dictumref01_Undec.l1 k a0 kk (wrap64 ((wrap64 (10 * x108)) + ((x126 - (48 : UInt8)).toNat : Int))) (wrap64 (x109 + 1)))
    else
    some (.inr x108))
def dictumref01_Undec.f (k : Nat) (a0 : List UInt8) (a1 : Int) : Option (Int × Int) :=
  ((bif (decide ((a0.length : Int) < 1)) then
  some true
  else
  (bif (decide ((a0.length : Int) > 10)) then
  some true
  else
  (bif (decide ((a0.length : Int) > 1)) then
  (ix a0 (0 : Int)).bind fun x139 =>
  some (x139 == (48 : UInt8))
  else
  some false))) : Option (Bool)).bind fun z102 =>
  (bif z102 then
  some (0, 2)
  else
  (dictumref01_Undec.l1 k a0 k 0 0).bind fun z111 => match z111 with
  | .inl r_ => some r_
  | .inr x110 =>
  (bif (decide (x110 > a1)) then
  some (0, 2)
  else
  some (x110, 0)))
theorem dictumref01_Undec.l1.mono {k k' : Nat} (hk : k ≤ k') (a0 : List UInt8) : ∀ (n n' : Nat) (hn : n ≤ n') y0 y1, Le (dictumref01_Undec.l1 k a0 n y0 y1) (dictumref01_Undec.l1 k' a0 n' y0 y1) := by
  intro n
  induction n with
  | zero => intro n' hn y0 y1; exact Le.none _
  | succ n ih =>
    intro n' hn y0 y1
    obtain ⟨n', rfl⟩ : ∃ m, n' = m + 1 := ⟨n' - 1, by omega⟩
    have hn' : n ≤ n' := by omega
    rw [dictumref01_Undec.l1.eq_2, dictumref01_Undec.l1.eq_2]
    repeat' first
      | exact Le.refl _
      | exact ih n' hn' _ _
      | refine Le.bind ?_ fun x_ => ?_
      | refine Le.cond ?_ ?_
      | refine Le.nilc ?_ ?_
      | split
theorem dictumref01_Undec.mono {k k' : Nat} (hk : k ≤ k') (a0 : List UInt8) (a1 : Int) : Le (dictumref01_Undec.f k a0 a1) (dictumref01_Undec.f k' a0 a1) := by
  unfold dictumref01_Undec.f
  repeat' first
    | exact Le.refl _
    | exact dictumref01_Undec.l1.mono hk _ _ _ hk _ _
    | refine Le.bind ?_ fun x_ => ?_
    | refine Le.cond ?_ ?_
    | refine Le.nilc ?_ ?_
    | split

/-! ### dictumref05_With: function 44 -/
def dictumref05_With.f (a0 : (List UInt64)) (a1 : Int) : Option ((List UInt64)) :=
  (ix a0 (wrap64 (a1.tdiv 64))).bind fun x111 =>
  (ix a0 (wrap64 (a1.tdiv 64))).bind fun x112 =>
  some (a0.set (wrap64 (a1.tdiv 64)).toNat (x111 ||| (shl64 (1 : UInt64) ((ofI64 (a1.tmod 64)).toNat))))

/-! ### dictumref05_Has: function 33 -/
def dictumref05_Has.f (a0 : (List UInt64)) (a1 : Int) : Option (Bool) :=
  (bif (decide (a1 ≥ 0)) then
  (bif (decide (a1 < 1024)) then
  (ix a0 (wrap64 (a1.tdiv 64))).bind fun x108 =>
  some (((shr64 x108 ((ofI64 (a1.tmod 64)).toNat)) &&& (1 : UInt64)) == (1 : UInt64))
  else
  some false)
  else
  some false)

/-! ### dictumref01_Dec: function 45 -/
def dictumref01_Dec.l1 (k : Nat) : Nat → UInt64 → (List UInt8) → Option ((List UInt8))
  | 0, _, _ => none
  | kk + 1, x108, x109 =>
    ((bif (decide ((0 : UInt64) < x108)) then
    some true
    else
    some (x109 == ([] : List UInt8))) : Option (Bool)).bind fun z119 =>
    (bif z119 then
    (chk (!((10 : UInt64) == 0))).bind fun _ =>
    (chk (decide ([ofI8 (((48 : UInt64) + (x108 % (10 : UInt64))).toNat : Int)].length + x109.length ≤ 9223372036854775807))).bind fun _ =>
    (chk (!((10 : UInt64) == 0))).bind fun _ =>
    dictumref01_Dec.l1 k kk (x108 / (10 : UInt64)) ([ofI8 (((48 : UInt64) + (x108 % (10 : UInt64))).toNat : Int)] ++ x109)
    else
    some x109)
def dictumref01_Dec.f (k : Nat) (a0 : Int) : Option ((List UInt8)) :=
  ((bif (decide (a0 < 0)) then
  some (((0 : UInt64) - (ofI64 a0)), ([45] : List UInt8))
  else
  some (ofI64 a0, ([] : List UInt8))) : Option (UInt64 × (List UInt8))).bind fun (x101, x102) =>
  (dictumref01_Dec.l1 k k x101 ([] : List UInt8)).bind fun z111 =>
  (chk (decide (x102.length + z111.length ≤ 9223372036854775807))).bind fun _ =>
  some (x102 ++ z111)
theorem dictumref01_Dec.l1.mono {k k' : Nat} (hk : k ≤ k') : ∀ (n n' : Nat) (hn : n ≤ n') y0 y1, Le (dictumref01_Dec.l1 k n y0 y1) (dictumref01_Dec.l1 k' n' y0 y1) := by
  intro n
  induction n with
  | zero => intro n' hn y0 y1; exact Le.none _
  | succ n ih =>
    intro n' hn y0 y1
    obtain ⟨n', rfl⟩ : ∃ m, n' = m + 1 := ⟨n' - 1, by omega⟩
    have hn' : n ≤ n' := by omega
    rw [dictumref01_Dec.l1.eq_2, dictumref01_Dec.l1.eq_2]
    repeat' first
      | exact Le.refl _
      | exact ih n' hn' _ _
      | refine Le.bind ?_ fun x_ => ?_
      | refine Le.cond ?_ ?_
      | refine Le.nilc ?_ ?_
      | split
theorem dictumref01_Dec.mono {k k' : Nat} (hk : k ≤ k') (a0 : Int) : Le (dictumref01_Dec.f k a0) (dictumref01_Dec.f k' a0) := by
  unfold dictumref01_Dec.f
  repeat' first
    | exact Le.refl _
    | exact dictumref01_Dec.l1.mono hk _ _ hk _ _
    | refine Le.bind ?_ fun x_ => ?_
    | refine Le.cond ?_ ?_
    | refine Le.nilc ?_ ?_
    | split

/-! ### dictumref05_Text: function 11 -/
def dictumref05_Text.l2 (k : Nat) (a0 : (List UInt64)) : Nat → Int → Option (Int)
  | 0, _ => none
  | kk + 1, x131 =>
    (dictumref05_Has.f a0 (wrap64 (x131 + 1))).bind fun z140 =>
    (bif z140 then
    dictumref05_Text.l2 k a0 kk (wrap64 (x131 + 1))
    else
    some x131)
def dictumref05_Text.l1 (k : Nat) (a0 : (List UInt64)) : Nat → (List UInt8) → Int → Option ((List UInt8))
  | 0, _, _ => none
  | kk + 1, x106, x107 =>
    (bif (decide (x107 < 1024)) then
    (((dictumref05_Has.f a0 x107).bind fun z170 =>
    (bif (!z170) then
    some true
    else
    (dictumref05_Has.f a0 (wrap64 (x107 - 1))).bind fun z175 =>
    some z175) : Option (Bool)).bind fun z125 =>
    (bif z125 then
    some x106
    else
    (dictumref05_Text.l2 k a0 k x107).bind fun z133 =>
    ((bif (!(x106 == ([] : List UInt8))) then
    (chk (decide (x106.length + ([44] : List UInt8).length ≤ 9223372036854775807))).bind fun _ =>
    some (x106 ++ ([44] : List UInt8))
    else
    some x106) : Option ((List UInt8))).bind fun z149 =>
    (dictumref01_Dec.f k x107).bind fun z154 =>
    (chk (decide (z149.length + z154.length ≤ 9223372036854775807))).bind fun _ =>
    (bif (decide (z133 > x107)) then
    (chk (decide ((z149 ++ z154).length + ([45] : List UInt8).length ≤ 9223372036854775807))).bind fun _ =>
    (dictumref01_Dec.f k z133).bind fun z161 =>
    (chk (decide (((z149 ++ z154) ++ ([45] : List UInt8)).length + z161.length ≤ 9223372036854775807))).bind fun _ =>
    some (((z149 ++ z154) ++ ([45] : List UInt8)) ++ z161)
    else
    some (z149 ++ z154))) : Option ((List UInt8))).bind fun z118 =>
    dictumref05_Text.l1 k a0 kk z118 (wrap64 (x107 + 1))
    else
    some x106)
def dictumref05_Text.f (k : Nat) (a0 : (List UInt64)) : Option ((List UInt8)) :=
  (dictumref05_Text.l1 k a0 k ([] : List UInt8) 0).bind fun z109 =>
  some z109
theorem dictumref05_Text.l2.mono {k k' : Nat} (hk : k ≤ k') (a0 : (List UInt64)) : ∀ (n n' : Nat) (hn : n ≤ n') y0, Le (dictumref05_Text.l2 k a0 n y0) (dictumref05_Text.l2 k' a0 n' y0) := by
  intro n
  induction n with
  | zero => intro n' hn y0; exact Le.none _
  | succ n ih =>
    intro n' hn y0
    obtain ⟨n', rfl⟩ : ∃ m, n' = m + 1 := ⟨n' - 1, by omega⟩
    have hn' : n ≤ n' := by omega
    rw [dictumref05_Text.l2.eq_2, dictumref05_Text.l2.eq_2]
    repeat' first
      | exact Le.refl _
      | exact dictumref01_Dec.mono hk _
      | exact ih n' hn' _
      | refine Le.bind ?_ fun x_ => ?_
      | refine Le.cond ?_ ?_
      | refine Le.nilc ?_ ?_
      | split
theorem dictumref05_Text.l1.mono {k k' : Nat} (hk : k ≤ k') (a0 : (List UInt64)) : ∀ (n n' : Nat) (hn : n ≤ n') y0 y1, Le (dictumref05_Text.l1 k a0 n y0 y1) (dictumref05_Text.l1 k' a0 n' y0 y1) := by
  intro n
  induction n with
  | zero => intro n' hn y0 y1; exact Le.none _
  | succ n ih =>
    intro n' hn y0 y1
    obtain ⟨n', rfl⟩ : ∃ m, n' = m + 1 := ⟨n' - 1, by omega⟩
    have hn' : n ≤ n' := by omega
    rw [dictumref05_Text.l1.eq_2, dictumref05_Text.l1.eq_2]
    repeat' first
      | exact Le.refl _
      | exact dictumref01_Dec.mono hk _
      | exact dictumref05_Text.l2.mono hk _ _ _ hk _
      | exact dictumref05_Text.l2.mono hk _ _ _ hn' _
      | exact ih n' hn' _ _
      | refine Le.bind ?_ fun x_ => ?_
      | refine Le.cond ?_ ?_
      | refine Le.nilc ?_ ?_
      | split
theorem dictumref05_Text.mono {k k' : Nat} (hk : k ≤ k') (a0 : (List UInt64)) : Le (dictumref05_Text.f k a0) (dictumref05_Text.f k' a0) := by
  unfold dictumref05_Text.f
  repeat' first
    | exact Le.refl _
    | exact dictumref01_Dec.mono hk _
    | exact dictumref05_Text.l2.mono hk _ _ _ hk _
    | exact dictumref05_Text.l1.mono hk _ _ _ hk _ _
    | refine Le.bind ?_ fun x_ => ?_
    | refine Le.cond ?_ ?_
    | refine Le.nilc ?_ ?_
    | split

/-! ### dictumref05_Parse: function 10 -/
def dictumref05_Parse.l2 (k : Nat) (x115 : Int) (z138 : Int × Int) : Nat → Int → (List UInt64) → Option ((List UInt64))
  | 0, _, _ => none
  | kk + 1, x153, x154 =>
    ((bif (decide (x115 ≥ 0)) then
    some (decide (x153 ≤ z138.1))
    else
    some false) : Option (Bool)).bind fun z166 =>
    (bif z166 then
    (dictumref05_With.f x154 x153).bind fun z172 =>
    dictumref05_Parse.l2 k x115 z138 kk (wrap64 (x153 + 1)) z172
    else
    some x154)
def dictumref05_Parse.l1 (k : Nat) (a0 : List UInt8) : Nat → Int → Int → Int → (List UInt64) → Option (Sum ((List UInt64) × Int) ((List UInt64)))
  | 0, _, _, _, _ => none
  | kk + 1, x114, x115, x116, x117 =>
    (bif (decide (x116 ≤ (a0.length : Int))) then
    ((bif (decide (x116 < (a0.length : Int))) then
    (ix a0 x116).bind fun x214 =>
    (bif (decide ((48 : UInt8) ≤ x214)) then
    (ix a0 x116).bind fun x216 =>
    some (decide (x216 ≤ (57 : UInt8)))
    else
    some false)
    else
    some false) : Option (Bool)).bind fun z130 =>
    (bif z130 then
    dictumref05_Parse.l1 k a0 kk x114 x115 (wrap64 (x116 + 1)) x117
    else
    (bif (a0 == ([] : List UInt8)) then
    some (.inr x117)
    else
    (cut a0 x114 x116).bind fun y137 =>
    (dictumref01_Undec.f k y137 1023).bind fun z138 =>
    (bif (z138.2 != 0) then
    some (.inl ((List.replicate 16 ((0 : UInt64))), 50))
    else
    ((bif (decide (x115 < 0)) then
    (dictumref05_With.f x117 z138.1).bind fun z204 =>
    some z204
    else
    some x117) : Option ((List UInt64))).bind fun z148 =>
    (dictumref05_Parse.l2 k x115 z138 k x115 z148).bind fun z158 =>
    (((bif (decide (x116 < (a0.length : Int))) then
    (ix a0 x116).bind fun x201 =>
    some (x201 == (45 : UInt8))
    else
    some false) : Option (Bool)).bind fun z193 =>
    (bif z193 then
    some z138.1
    else
    some (-1)) : Option (Int)).bind fun z186 =>
    dictumref05_Parse.l1 k a0 kk (wrap64 (x116 + 1)) z186 (wrap64 (x116 + 1)) z158)))
    else
    some (.inr x117))
def dictumref05_Parse.f (k : Nat) (a0 : List UInt8) : Option ((List UInt64) × Int) :=
  (dictumref05_Parse.l1 k a0 k 0 (-1) 0 (List.replicate 16 ((0 : UInt64)))).bind fun z121 => match z121 with
  | .inl r_ => some r_
  | .inr x119 =>
  (dictumref05_Text.f k x119).bind fun z220 =>
  (bif (!(z220 == a0)) then
  some ((List.replicate 16 ((0 : UInt64))), 50)
  else
  some (x119, 0))
theorem dictumref05_Parse.l2.mono {k k' : Nat} (hk : k ≤ k') (x115 : Int) (z138 : Int × Int) : ∀ (n n' : Nat) (hn : n ≤ n') y0 y1, Le (dictumref05_Parse.l2 k x115 z138 n y0 y1) (dictumref05_Parse.l2 k' x115 z138 n' y0 y1) := by
  intro n
  induction n with
  | zero => intro n' hn y0 y1; exact Le.none _
  | succ n ih =>
    intro n' hn y0 y1
    obtain ⟨n', rfl⟩ : ∃ m, n' = m + 1 := ⟨n' - 1, by omega⟩
    have hn' : n ≤ n' := by omega
    rw [dictumref05_Parse.l2.eq_2, dictumref05_Parse.l2.eq_2]
    repeat' first
      | exact Le.refl _
      | exact dictumref01_Undec.mono hk _ _
      | exact dictumref05_Text.mono hk _
      | exact ih n' hn' _ _
      | refine Le.bind ?_ fun x_ => ?_
      | refine Le.cond ?_ ?_
      | refine Le.nilc ?_ ?_
      | split
theorem dictumref05_Parse.l1.mono {k k' : Nat} (hk : k ≤ k') (a0 : List UInt8) : ∀ (n n' : Nat) (hn : n ≤ n') y0 y1 y2 y3, Le (dictumref05_Parse.l1 k a0 n y0 y1 y2 y3) (dictumref05_Parse.l1 k' a0 n' y0 y1 y2 y3) := by
  intro n
  induction n with
  | zero => intro n' hn y0 y1 y2 y3; exact Le.none _
  | succ n ih =>
    intro n' hn y0 y1 y2 y3
    obtain ⟨n', rfl⟩ : ∃ m, n' = m + 1 := ⟨n' - 1, by omega⟩
    have hn' : n ≤ n' := by omega
    rw [dictumref05_Parse.l1.eq_2, dictumref05_Parse.l1.eq_2]
    repeat' first
      | exact Le.refl _
      | exact dictumref01_Undec.mono hk _ _
      | exact dictumref05_Text.mono hk _
      | exact dictumref05_Parse.l2.mono hk _ _ _ _ hk _ _
      | exact dictumref05_Parse.l2.mono hk _ _ _ _ hn' _ _
      | exact ih n' hn' _ _ _ _
      | refine Le.bind ?_ fun x_ => ?_
      | refine Le.cond ?_ ?_
      | refine Le.nilc ?_ ?_
      | split
theorem dictumref05_Parse.mono {k k' : Nat} (hk : k ≤ k') (a0 : List UInt8) : Le (dictumref05_Parse.f k a0) (dictumref05_Parse.f k' a0) := by
  unfold dictumref05_Parse.f
  repeat' first
    | exact Le.refl _
    | exact dictumref01_Undec.mono hk _ _
    | exact dictumref05_Text.mono hk _
    | exact dictumref05_Parse.l2.mono hk _ _ _ _ hk _ _
    | exact dictumref05_Parse.l1.mono hk _ _ _ hk _ _ _ _
    | refine Le.bind ?_ fun x_ => ?_
    | refine Le.cond ?_ ?_
    | refine Le.nilc ?_ ?_
    | split

/-! ### bits_Of: function 28 -/
def bits_Of.l1 (k : Nat) (a0 : (List Int)) : Nat → Int → (List UInt64) → Option (Sum ((List UInt64) × Int) ((List UInt64)))
  | 0, _, _ => none
  | kk + 1, x111, x112 =>
    (bif (decide (x111 < (a0.length : Int))) then
    (ix a0 x111).bind fun x124 =>
    (bits_inside.f x124).bind fun z131 =>
    (bif (!z131) then
    some (.inl ((List.replicate 16 ((0 : UInt64))), 50))
    else
    (ix x112 (wrap64 (x124.tdiv 64))).bind fun x141 =>
    (chk (decide (0 ≤ x124.tmod 64))).bind fun _ =>
    (ix x112 (wrap64 (x124.tdiv 64))).bind fun x143 =>
    bits_Of.l1 k a0 kk (wrap64 (x111 + 1)) (x112.set (wrap64 (x124.tdiv 64)).toNat (x141 ||| (shl64 (1 : UInt64) (x124.tmod 64).toNat))))
    else
    some (.inr x112))
def bits_Of.f (k : Nat) (a0 : (List Int)) : Option ((List UInt64) × Int) :=
  (bits_Of.l1 k a0 k 0 (List.replicate 16 ((0 : UInt64)))).bind fun z116 => match z116 with
  | .inl r_ => some r_
  | .inr x114 =>
  some (x114, 0)
theorem bits_Of.l1.mono {k k' : Nat} (hk : k ≤ k') (a0 : (List Int)) : ∀ (n n' : Nat) (hn : n ≤ n') y0 y1, Le (bits_Of.l1 k a0 n y0 y1) (bits_Of.l1 k' a0 n' y0 y1) := by
  intro n
  induction n with
  | zero => intro n' hn y0 y1; exact Le.none _
  | succ n ih =>
    intro n' hn y0 y1
    obtain ⟨n', rfl⟩ : ∃ m, n' = m + 1 := ⟨n' - 1, by omega⟩
    have hn' : n ≤ n' := by omega
    rw [bits_Of.l1.eq_2, bits_Of.l1.eq_2]
    repeat' first
      | exact Le.refl _
      | exact ih n' hn' _ _
      | refine Le.bind ?_ fun x_ => ?_
      | refine Le.cond ?_ ?_
      | refine Le.nilc ?_ ?_
      | split
theorem bits_Of.mono {k k' : Nat} (hk : k ≤ k') (a0 : (List Int)) : Le (bits_Of.f k a0) (bits_Of.f k' a0) := by
  unfold bits_Of.f
  repeat' first
    | exact Le.refl _
    | exact bits_Of.l1.mono hk _ _ _ hk _ _
    | refine Le.bind ?_ fun x_ => ?_
    | refine Le.cond ?_ ?_
    | refine Le.nilc ?_ ?_
    | split

/-! ### bits_Union_1: function 49 -/
def bits_Union_1.f (a0 : UInt64) (a1 : UInt64) : Option (UInt64) :=
  some (a0 ||| a1)

/-! ### bits_each_bits_Union_1: function 48 -/
def bits_each_bits_Union_1.l1 (k : Nat) (a1 : (List UInt64)) : Nat → Int → (List UInt64) → Option ((List UInt64))
  | 0, _, _ => none
  | kk + 1, x116, x117 =>
    (bif (decide (x116 < 16)) then
    (ix x117 x116).bind fun x131 =>
    (ix a1 x116).bind fun x132 =>
    (bits_Union_1.f x131 x132).bind fun z133 =>
    (ix x117 x116).bind fun x137 =>
    bits_each_bits_Union_1.l1 k a1 kk (wrap64 (x116 + 1)) (x117.set x116.toNat z133)
    else
    some x117)
def bits_each_bits_Union_1.f (k : Nat) (a0 : (List UInt64)) (a1 : (List UInt64)) : Option ((List UInt64)) :=
  (bits_each_bits_Union_1.l1 k a1 k 0 a0).bind fun z121 =>
  some z121
theorem bits_each_bits_Union_1.l1.mono {k k' : Nat} (hk : k ≤ k') (a1 : (List UInt64)) : ∀ (n n' : Nat) (hn : n ≤ n') y0 y1, Le (bits_each_bits_Union_1.l1 k a1 n y0 y1) (bits_each_bits_Union_1.l1 k' a1 n' y0 y1) := by
  intro n
  induction n with
  | zero => intro n' hn y0 y1; exact Le.none _
  | succ n ih =>
    intro n' hn y0 y1
    obtain ⟨n', rfl⟩ : ∃ m, n' = m + 1 := ⟨n' - 1, by omega⟩
    have hn' : n ≤ n' := by omega
    rw [bits_each_bits_Union_1.l1.eq_2, bits_each_bits_Union_1.l1.eq_2]
    repeat' first
      | exact Le.refl _
      | exact ih n' hn' _ _
      | refine Le.bind ?_ fun x_ => ?_
      | refine Le.cond ?_ ?_
      | refine Le.nilc ?_ ?_
      | split
theorem bits_each_bits_Union_1.mono {k k' : Nat} (hk : k ≤ k') (a0 : (List UInt64)) (a1 : (List UInt64)) : Le (bits_each_bits_Union_1.f k a0 a1) (bits_each_bits_Union_1.f k' a0 a1) := by
  unfold bits_each_bits_Union_1.f
  repeat' first
    | exact Le.refl _
    | exact bits_each_bits_Union_1.l1.mono hk _ _ _ hk _ _
    | refine Le.bind ?_ fun x_ => ?_
    | refine Le.cond ?_ ?_
    | refine Le.nilc ?_ ?_
    | split

/-! ### bits_Union: function 15 -/
def bits_Union.f (k : Nat) (a0 : (List UInt64)) (a1 : (List UInt64)) : Option ((List UInt64)) :=
  (bits_each_bits_Union_1.f k a0 a1).bind fun z116 =>
  some z116
theorem bits_Union.mono {k k' : Nat} (hk : k ≤ k') (a0 : (List UInt64)) (a1 : (List UInt64)) : Le (bits_Union.f k a0 a1) (bits_Union.f k' a0 a1) := by
  unfold bits_Union.f
  repeat' first
    | exact Le.refl _
    | exact bits_each_bits_Union_1.mono hk _ _
    | refine Le.bind ?_ fun x_ => ?_
    | refine Le.cond ?_ ?_
    | refine Le.nilc ?_ ?_
    | split

/-! ### bits_Put: function 30 -/
def bits_Put.f (k : Nat) (a0 : (List UInt64)) (a1 : Int) : Option ((List UInt64) × Int) :=
  (bits_Of.f k [a1]).bind fun z119 =>
  (bif (z119.2 != 0) then
  some ((List.replicate 16 ((0 : UInt64))), z119.2)
  else
  (bits_Union.f k a0 z119.1).bind fun z136 =>
  some (z136, 0))
theorem bits_Put.mono {k k' : Nat} (hk : k ≤ k') (a0 : (List UInt64)) (a1 : Int) : Le (bits_Put.f k a0 a1) (bits_Put.f k' a0 a1) := by
  unfold bits_Put.f
  repeat' first
    | exact Le.refl _
    | exact bits_Of.mono hk _
    | exact bits_Union.mono hk _ _
    | refine Le.bind ?_ fun x_ => ?_
    | refine Le.cond ?_ ?_
    | refine Le.nilc ?_ ?_
    | split

/-! ### bits_OnesCount64: function 52 -/
def bits_OnesCount64.f (a0 : UInt64) : Option (Int) :=
  some (andI (wrap64 (((((((shr64 (((shr64 (((shr64 a0 1) &&& (6148914691236517205 : UInt64)) + (a0 &&& (6148914691236517205 : UInt64))) 2) &&& (3689348814741910323 : UInt64)) + ((((shr64 a0 1) &&& (6148914691236517205 : UInt64)) + (a0 &&& (6148914691236517205 : UInt64))) &&& (3689348814741910323 : UInt64))) 4) + (((shr64 (((shr64 a0 1) &&& (6148914691236517205 : UInt64)) + (a0 &&& (6148914691236517205 : UInt64))) 2) &&& (3689348814741910323 : UInt64)) + ((((shr64 a0 1) &&& (6148914691236517205 : UInt64)) + (a0 &&& (6148914691236517205 : UInt64))) &&& (3689348814741910323 : UInt64)))) &&& (1085102592571150095 : UInt64)) + (shr64 (((shr64 (((shr64 (((shr64 a0 1) &&& (6148914691236517205 : UInt64)) + (a0 &&& (6148914691236517205 : UInt64))) 2) &&& (3689348814741910323 : UInt64)) + ((((shr64 a0 1) &&& (6148914691236517205 : UInt64)) + (a0 &&& (6148914691236517205 : UInt64))) &&& (3689348814741910323 : UInt64))) 4) + (((shr64 (((shr64 a0 1) &&& (6148914691236517205 : UInt64)) + (a0 &&& (6148914691236517205 : UInt64))) 2) &&& (3689348814741910323 : UInt64)) + ((((shr64 a0 1) &&& (6148914691236517205 : UInt64)) + (a0 &&& (6148914691236517205 : UInt64))) &&& (3689348814741910323 : UInt64)))) &&& (1085102592571150095 : UInt64)) 8)) + (shr64 ((((shr64 (((shr64 (((shr64 a0 1) &&& (6148914691236517205 : UInt64)) + (a0 &&& (6148914691236517205 : UInt64))) 2) &&& (3689348814741910323 : UInt64)) + ((((shr64 a0 1) &&& (6148914691236517205 : UInt64)) + (a0 &&& (6148914691236517205 : UInt64))) &&& (3689348814741910323 : UInt64))) 4) + (((shr64 (((shr64 a0 1) &&& (6148914691236517205 : UInt64)) + (a0 &&& (6148914691236517205 : UInt64))) 2) &&& (3689348814741910323 : UInt64)) + ((((shr64 a0 1) &&& (6148914691236517205 : UInt64)) + (a0 &&& (6148914691236517205 : UInt64))) &&& (3689348814741910323 : UInt64)))) &&& (1085102592571150095 : UInt64)) + (shr64 (((shr64 (((shr64 (((shr64 a0 1) &&& (6148914691236517205 : UInt64)) + (a0 &&& (6148914691236517205 : UInt64))) 2) &&& (3689348814741910323 : UInt64)) + ((((shr64 a0 1) &&& (6148914691236517205 : UInt64)) + (a0 &&& (6148914691236517205 : UInt64))) &&& (3689348814741910323 : UInt64))) 4) + (((shr64 (((shr64 a0 1) &&& (6148914691236517205 : UInt64)) + (a0 &&& (6148914691236517205 : UInt64))) 2) &&& (3689348814741910323 : UInt64)) + ((((shr64 a0 1) &&& (6148914691236517205 : UInt64)) + (a0 &&& (6148914691236517205 : UInt64))) &&& (3689348814741910323 : UInt64)))) &&& (1085102592571150095 : UInt64)) 8)) 16)) + (shr64 (((((shr64 (((shr64 (((shr64 a0 1) &&& (6148914691236517205 : UInt64)) + (a0 &&& (6148914691236517205 : UInt64))) 2) &&& (3689348814741910323 : UInt64)) + ((((shr64 a0 1) &&& (6148914691236517205 : UInt64)) + (a0 &&& (6148914691236517205 : UInt64))) &&& (3689348814741910323 : UInt64))) 4) + (((shr64 (((shr64 a0 1) &&& (6148914691236517205 : UInt64)) + (a0 &&& (6148914691236517205 : UInt64))) 2) &&& (3689348814741910323 : UInt64)) + ((((shr64 a0 1) &&& (6148914691236517205 : UInt64)) + (a0 &&& (6148914691236517205 : UInt64))) &&& (3689348814741910323 : UInt64)))) &&& (1085102592571150095 : UInt64)) + (shr64 (((shr64 (((shr64 (((shr64 a0 1) &&& (6148914691236517205 : UInt64)) + (a0 &&& (6148914691236517205 : UInt64))) 2) &&& (3689348814741910323 : UInt64)) + ((((shr64 a0 1) &&& (6148914691236517205 : UInt64)) + (a0 &&& (6148914691236517205 : UInt64))) &&& (3689348814741910323 : UInt64))) 4) + (((shr64 (((shr64 a0 1) &&& (6148914691236517205 : UInt64)) + (a0 &&& (6148914691236517205 : UInt64))) 2) &&& (3689348814741910323 : UInt64)) + ((((shr64 a0 1) &&& (6148914691236517205 : UInt64)) + (a0 &&& (6148914691236517205 : UInt64))) &&& (3689348814741910323 : UInt64)))) &&& (1085102592571150095 : UInt64)) 8)) + (shr64 ((((shr64 (((shr64 (((shr64 a0 1) &&& (6148914691236517205 : UInt64)) + (a0 &&& (6148914691236517205 : UInt64))) 2) &&& (3689348814741910323 : UInt64)) + ((((shr64 a0 1) &&& (6148914691236517205 : UInt64)) + (a0 &&& (6148914691236517205 : UInt64))) &&& (3689348814741910323 : UInt64))) 4) + (((shr64 (((shr64 a0 1) &&& (6148914691236517205 : UInt64)) + (a0 &&& (6148914691236517205 : UInt64))) 2) &&& (3689348814741910323 : UInt64)) + ((((shr64 a0 1) &&& (6148914691236517205 : UInt64)) + (a0 &&& (6148914691236517205 : UInt64))) &&& (3689348814741910323 : UInt64)))) &&& (1085102592571150095 : UInt64)) + (shr64 (((shr64 (((shr64 (((shr64 a0 1) &&& (6148914691236517205 : UInt64)) + (a0 &&& (6148914691236517205 : UInt64))) 2) &&& (3689348814741910323 : UInt64)) + ((((shr64 a0 1) &&& (6148914691236517205 : UInt64)) + (a0 &&& (6148914691236517205 : UInt64))) &&& (3689348814741910323 : UInt64))) 4) + (((shr64 (((shr64 a0 1) &&& (6148914691236517205 : UInt64)) + (a0 &&& (6148914691236517205 : UInt64))) 2) &&& (3689348814741910323 : UInt64)) + ((((shr64 a0 1) &&& (6148914691236517205 : UInt64)) + (a0 &&& (6148914691236517205 : UInt64))) &&& (3689348814741910323 : UInt64)))) &&& (1085102592571150095 : UInt64)) 8)) 16)) 32)).toNat : Int)) 127)

/-! ### bits_Count: function 23 -/
def bits_Count.l1 (k : Nat) (a0 : (List UInt64)) : Nat → Int → Int → Option (Int)
  | 0, _, _ => none
  | kk + 1, x106, x107 =>
    (bif (decide (x107 < 16)) then
    (ix a0 x107).bind fun x117 =>
    (bits_OnesCount64.f x117).bind fun z118 =>
    bits_Count.l1 k a0 kk (wrap64 (x106 + z118)) (wrap64 (x107 + 1))
    else
    some x106)
def bits_Count.f (k : Nat) (a0 : (List UInt64)) : Option (Int) :=
  (bits_Count.l1 k a0 k 0 0).bind fun z109 =>
  some z109
theorem bits_Count.l1.mono {k k' : Nat} (hk : k ≤ k') (a0 : (List UInt64)) : ∀ (n n' : Nat) (hn : n ≤ n') y0 y1, Le (bits_Count.l1 k a0 n y0 y1) (bits_Count.l1 k' a0 n' y0 y1) := by
  intro n
  induction n with
  | zero => intro n' hn y0 y1; exact Le.none _
  | succ n ih =>
    intro n' hn y0 y1
    obtain ⟨n', rfl⟩ : ∃ m, n' = m + 1 := ⟨n' - 1, by omega⟩
    have hn' : n ≤ n' := by omega
    rw [bits_Count.l1.eq_2, bits_Count.l1.eq_2]
    repeat' first
      | exact Le.refl _
      | exact ih n' hn' _ _
      | refine Le.bind ?_ fun x_ => ?_
      | refine Le.cond ?_ ?_
      | refine Le.nilc ?_ ?_
      | split
theorem bits_Count.mono {k k' : Nat} (hk : k ≤ k') (a0 : (List UInt64)) : Le (bits_Count.f k a0) (bits_Count.f k' a0) := by
  unfold bits_Count.f
  repeat' first
    | exact Le.refl _
    | exact bits_Count.l1.mono hk _ _ _ hk _ _
    | refine Le.bind ?_ fun x_ => ?_
    | refine Le.cond ?_ ?_
    | refine Le.nilc ?_ ?_
    | split

/-! ### bits_Compare_1: function 53 -/
def bits_Compare_1.f (a0 : UInt64) (a1 : UInt64) : Option (UInt64) :=
  some (a0 ^^^ a1)

/-! ### bits_each_bits_Compare_1: function 48 -/
def bits_each_bits_Compare_1.l1 (k : Nat) (a1 : (List UInt64)) : Nat → Int → (List UInt64) → Option ((List UInt64))
  | 0, _, _ => none
  | kk + 1, x116, x117 =>
    (bif (decide (x116 < 16)) then
    (ix x117 x116).bind fun x131 =>
    (ix a1 x116).bind fun x132 =>
    (bits_Compare_1.f x131 x132).bind fun z133 =>
    (ix x117 x116).bind fun x137 =>
    bits_each_bits_Compare_1.l1 k a1 kk (wrap64 (x116 + 1)) (x117.set x116.toNat z133)
    else
    some x117)
def bits_each_bits_Compare_1.f (k : Nat) (a0 : (List UInt64)) (a1 : (List UInt64)) : Option ((List UInt64)) :=
  (bits_each_bits_Compare_1.l1 k a1 k 0 a0).bind fun z121 =>
  some z121
theorem bits_each_bits_Compare_1.l1.mono {k k' : Nat} (hk : k ≤ k') (a1 : (List UInt64)) : ∀ (n n' : Nat) (hn : n ≤ n') y0 y1, Le (bits_each_bits_Compare_1.l1 k a1 n y0 y1) (bits_each_bits_Compare_1.l1 k' a1 n' y0 y1) := by
  intro n
  induction n with
  | zero => intro n' hn y0 y1; exact Le.none _
  | succ n ih =>
    intro n' hn y0 y1
    obtain ⟨n', rfl⟩ : ∃ m, n' = m + 1 := ⟨n' - 1, by omega⟩
    have hn' : n ≤ n' := by omega
    rw [bits_each_bits_Compare_1.l1.eq_2, bits_each_bits_Compare_1.l1.eq_2]
    repeat' first
      | exact Le.refl _
      | exact ih n' hn' _ _
      | refine Le.bind ?_ fun x_ => ?_
      | refine Le.cond ?_ ?_
      | refine Le.nilc ?_ ?_
      | split
theorem bits_each_bits_Compare_1.mono {k k' : Nat} (hk : k ≤ k') (a0 : (List UInt64)) (a1 : (List UInt64)) : Le (bits_each_bits_Compare_1.f k a0 a1) (bits_each_bits_Compare_1.f k' a0 a1) := by
  unfold bits_each_bits_Compare_1.f
  repeat' first
    | exact Le.refl _
    | exact bits_each_bits_Compare_1.l1.mono hk _ _ _ hk _ _
    | refine Le.bind ?_ fun x_ => ?_
    | refine Le.cond ?_ ?_
    | refine Le.nilc ?_ ?_
    | split

/-! ### bits_Compare: function 25 -/
def bits_Compare.f (k : Nat) (a0 : (List UInt64)) (a1 : (List UInt64)) : Option (Int) :=
  (bits_each_bits_Compare_1.f k a0 a1).bind fun z111 =>
  (bits_Next.f k z111 0).bind fun z116 =>
  (bif (!z116.2) then
  some 0
  else
  (bits_Has.f a0 z116.1).bind fun z121 =>
  (bif z121 then
  some (-1)
  else
  some 1))
theorem bits_Compare.mono {k k' : Nat} (hk : k ≤ k') (a0 : (List UInt64)) (a1 : (List UInt64)) : Le (bits_Compare.f k a0 a1) (bits_Compare.f k' a0 a1) := by
  unfold bits_Compare.f
  repeat' first
    | exact Le.refl _
    | exact bits_Next.mono hk _ _
    | exact bits_each_bits_Compare_1.mono hk _ _
    | refine Le.bind ?_ fun x_ => ?_
    | refine Le.cond ?_ ?_
    | refine Le.nilc ?_ ?_
    | split

/-! ### dictumlaw05_heads: function 12 -/
def dictumlaw05_heads.f (k : Nat) : Option (Bool) :=
  (bits_Of.f k [0, 1, 2, 5, 64]).bind fun z109 =>
  (bits_Next.f k z109.1 6).bind fun z122 =>
  (bits_Parse.f k ([48, 45, 50, 44, 53, 44, 54, 52] : List UInt8)).bind fun z126 =>
  (bits_Parse.f k ([51, 45, 51] : List UInt8)).bind fun z139 =>
  (bits_Put.f k z109.1 1024).bind fun z152 =>
  (bif (z109.2 == 0) then
  (bits_Text.f k z109.1).bind fun z166 =>
  (bif (z166 == ([48, 45, 50, 44, 53, 44, 54, 52] : List UInt8)) then
  (bif (z122.1 == 64) then
  (bif z122.2 then
  (bif (z126.1 == z109.1) then
  (bif (z126.2 == 0) then
  (bif (z139.2 == 50) then
  (bif (z152.1 == (List.replicate 16 ((0 : UInt64)))) then
  (bif (z152.2 == 50) then
  (bits_Count.f k z109.1).bind fun z178 =>
  (bif (z178 == 5) then
  (bits_Has.f z109.1 64).bind fun z183 =>
  (bif z183 then
  (bits_Compare.f k z109.1 z152.1).bind fun z188 =>
  some (z188 == (-1))
  else
  some false)
  else
  some false)
  else
  some false)
  else
  some false)
  else
  some false)
  else
  some false)
  else
  some false)
  else
  some false)
  else
  some false)
  else
  some false)
  else
  some false)
theorem dictumlaw05_heads.mono {k k' : Nat} (hk : k ≤ k') : Le (dictumlaw05_heads.f k) (dictumlaw05_heads.f k') := by
  unfold dictumlaw05_heads.f
  repeat' first
    | exact Le.refl _
    | exact bits_Compare.mono hk _ _
    | exact bits_Count.mono hk _
    | exact bits_Next.mono hk _ _
    | exact bits_Of.mono hk _
    | exact bits_Parse.mono hk _
    | exact bits_Put.mono hk _ _
    | exact bits_Text.mono hk _
    | refine Le.bind ?_ fun x_ => ?_
    | refine Le.cond ?_ ?_
    | refine Le.nilc ?_ ?_
    | split

/-! ### dictumlaw05_BitsTexts: function 3 -/
def dictumlaw05_BitsTexts.f (k : Nat) (a0 : (List UInt64)) (a1 : List UInt8) : Option (Bool) :=
  (bits_Text.f k a0).bind fun z106 =>
  (bits_Parse.f k z106).bind fun z110 =>
  (bits_Parse.f k a1).bind fun z123 =>
  (dictumref05_Parse.f k a1).bind fun z136 =>
  (dictumref05_Text.f k a0).bind fun z149 =>
  (bif (z106 == z149) then
  (bif (z110.1 == a0) then
  (bif (z110.2 == 0) then
  (bif (z123.1 == z136.1) then
  (bif (z123.2 == z136.2) then
  (dictumlaw05_heads.f k ).bind fun z158 =>
  some z158
  else
  some false)
  else
  some false)
  else
  some false)
  else
  some false)
  else
  some false)
theorem dictumlaw05_BitsTexts.mono {k k' : Nat} (hk : k ≤ k') (a0 : (List UInt64)) (a1 : List UInt8) : Le (dictumlaw05_BitsTexts.f k a0 a1) (dictumlaw05_BitsTexts.f k' a0 a1) := by
  unfold dictumlaw05_BitsTexts.f
  repeat' first
    | exact Le.refl _
    | exact bits_Parse.mono hk _
    | exact bits_Text.mono hk _
    | exact dictumlaw05_heads.mono hk
    | exact dictumref05_Parse.mono hk _
    | exact dictumref05_Text.mono hk _
    | refine Le.bind ?_ fun x_ => ?_
    | refine Le.cond ?_ ?_
    | refine Le.nilc ?_ ?_
    | split
end Go.Proofs.YtfdocckaobmgeaaDoor.X
