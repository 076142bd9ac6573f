import Derived.Test.YtaidlahjngmenaaDoorSxN
import Derived.Lib.ValidU
import Derived.Lib.AtoiAll
import Derived.Shelf.Strconv.Itoa3
import Derived.Shelf.Small.Utf8
import Derived.Shelf.Small.Strs
set_option maxRecDepth 20000
set_option linter.unusedVariables false
set_option linter.unusedSimpArgs false
set_option linter.unnecessarySimpa false
namespace Go.Proofs.YtaidlahjngmenaaDoor.X
open Go Go.RowKit Go.Proofs.YtaidlahjngmenaaDoor.SX
structure T_octet_Writer where
  f_B : (List UInt8)

def T_octet_Writer.rep : Rep T_octet_Writer := Rep.iso (Rep.slice Rep.u8) (fun x => (x.f_B))
theorem T_octet_Writer.opn {F : Nat → Prop} {w : World} {x : T_octet_Writer} {cs : List Value} (h : T_octet_Writer.rep.R F w x cs) : ∃ (A0 : Option Addr) (c0 : Nat), cs = [.slice A0 x.f_B.length c0] ∧ x.f_B.length ≤ c0 ∧ Row Rep.u8 F F w A0 x.f_B := by
  have h0 := h
  obtain ⟨A0, c0, rfl, l0, r0⟩ := h0
  exact ⟨A0, c0, rfl, l0, r0⟩
theorem T_octet_Writer.mk' {F : Nat → Prop} {w : World} (x : T_octet_Writer) {A0 : Option Addr} {c0 : Nat} (l0 : x.f_B.length ≤ c0) (r0 : Row Rep.u8 F F w A0 x.f_B) : T_octet_Writer.rep.R F w x [.slice A0 x.f_B.length c0] :=
  ⟨A0, c0, rfl, l0, r0⟩

structure T_octet_Reader where
  f_made : Bool
  f_left : (List UInt8)

def T_octet_Reader.rep : Rep T_octet_Reader := Rep.iso (Rep.pair Rep.bool (Rep.slice Rep.u8)) (fun x => (x.f_made, x.f_left))
theorem T_octet_Reader.opn {F : Nat → Prop} {w : World} {x : T_octet_Reader} {cs : List Value} (h : T_octet_Reader.rep.R F w x cs) : ∃ (A1 : Option Addr) (c1 : Nat), cs = [.bool x.f_made, .slice A1 x.f_left.length c1] ∧ x.f_left.length ≤ c1 ∧ Row Rep.u8 F F w A1 x.f_left := by
  obtain ⟨_, _, rfl, h0, h1⟩ := h
  have e0 : _ = [_] := h0
  subst e0
  obtain ⟨A1, c1, rfl, l1, r1⟩ := h1
  exact ⟨A1, c1, rfl, l1, r1⟩
theorem T_octet_Reader.mk' {F : Nat → Prop} {w : World} (x : T_octet_Reader) {A1 : Option Addr} {c1 : Nat} (l1 : x.f_left.length ≤ c1) (r1 : Row Rep.u8 F F w A1 x.f_left) : T_octet_Reader.rep.R F w x [.bool x.f_made, .slice A1 x.f_left.length c1] :=
  ⟨[.bool x.f_made], [.slice A1 x.f_left.length c1], rfl, rfl, ⟨A1, c1, rfl, l1, r1⟩⟩

def T_octet_Writer.bulk (x : T_octet_Writer) : Nat := ((bulkL bulk1) x.f_B) + 1
def T_octet_Writer.ok (x : T_octet_Writer) : Prop := (okL okT) x.f_B

def T_octet_Reader.bulk (x : T_octet_Reader) : Nat := (bulk1 x.f_made + ((bulkL bulk1) x.f_left)) + 1
def T_octet_Reader.ok (x : T_octet_Reader) : Prop := okT x.f_made ∧ ((okL okT) x.f_left)

def Builder_WriteByte.f (a0 : List UInt8) (a1 : UInt8) : Option (List UInt8) := (chk (decide ((a0.length + [a1].length) * 1 ≤ 140737488355328))).bind fun _ => some (a0 ++ [a1])
def Builder_String.f (a0 : List UInt8) : Option (List UInt8) := (chk (decide (a0.length ≤ 9223372036854775807))).bind fun _ => some a0
def strings_IndexByte.f (a0 : List UInt8) (a1 : UInt8) : Option Int := some (Lib.indexByte a0 a1)
def utf8_ValidRune.f (a0 : Int) : Option Bool := some (Lib.validRune a0)
def atoiF (a0 : List UInt8) : Int × Bool := match Lib.atoiAll a0 with | .ok v => (v, false) | .range => (Lib.atoiSat a0, true) | _ => (0, true)
def strconv_Atoi.f (a0 : List UInt8) : Option (Int × Bool) := (chk (decide (a0.length ≤ 281474976710656))).bind fun _ => some (atoiF a0)
def strconv_Itoa.f (a0 : Int) : Option (List UInt8) := (chk (decide (-9223372036854775808 ≤ a0) && decide (a0 ≤ 9223372036854775807))).bind fun _ => some (Lib.itoa a0)
def utf8_ValidString.f (a0 : List UInt8) : Option Bool := (chk (decide (a0.length ≤ 9223372036854775807))).bind fun _ => some (Lib.validD a0)
/-! ### octet_Hex: function 31 -/
def octet_Hex.l1 (k : Nat) (a0 : (List UInt8)) : Nat → Int → (List UInt8) → Option ((List UInt8))
  | 0, _, _ => none
  | kk + 1, x106, x107 =>
    (bif (decide (x106 < (a0.length : Int))) then
    (ix a0 x106).bind fun x117 =>
    (ix ([48, 49, 50, 51, 52, 53, 54, 55, 56, 57, 97, 98, 99, 100, 101, 102] : List UInt8) ((shr8 x117 4).toNat : Int)).bind fun x124 =>
    (Builder_WriteByte.f x107 x124).bind fun z125 =>
    (ix ([48, 49, 50, 51, 52, 53, 54, 55, 56, 57, 97, 98, 99, 100, 101, 102] : List UInt8) ((x117 &&& (15 : UInt8)).toNat : Int)).bind fun x130 =>
    (Builder_WriteByte.f z125 x130).bind fun z131 =>
    octet_Hex.l1 k a0 kk (wrap64 (x106 + 1)) z131
    else
    some x107)
def octet_Hex.f (k : Nat) (a0 : (List UInt8)) : Option ((List UInt8)) :=
  (octet_Hex.l1 k a0 k 0 ([] : List UInt8)).bind fun z109 =>
  (Builder_String.f z109).bind fun z139 =>
  some z139
theorem octet_Hex.l1.mono {k k' : Nat} (hk : k ≤ k') (a0 : (List UInt8)) : ∀ (n n' : Nat) (hn : n ≤ n') y0 y1, Le (octet_Hex.l1 k a0 n y0 y1) (octet_Hex.l1 k' a0 n' y0 y1) := by
  intro n
  induction n with
  | zero => intro n' hn y0 y1; exact Le.none _
  | succ n ih =>
    intro n' hn y0 y1
    obtain ⟨n', rfl⟩ : ∃ m, n' = m + 1 := ⟨n' - 1, by omega⟩
    have hn' : n ≤ n' := by omega
    rw [octet_Hex.l1.eq_2, octet_Hex.l1.eq_2]
    repeat' first
      | exact Le.refl _
      | exact ih n' hn' _ _
      | refine Le.bind ?_ fun x_ => ?_
      | refine Le.cond ?_ ?_
      | refine Le.nilc ?_ ?_
      | split
theorem octet_Hex.mono {k k' : Nat} (hk : k ≤ k') (a0 : (List UInt8)) : Le (octet_Hex.f k a0) (octet_Hex.f k' a0) := by
  unfold octet_Hex.f
  repeat' first
    | exact Le.refl _
    | exact octet_Hex.l1.mono hk _ _ _ hk _ _
    | refine Le.bind ?_ fun x_ => ?_
    | refine Le.cond ?_ ?_
    | refine Le.nilc ?_ ?_
    | split

/-! ### strings_IndexRune: function 49 -/
def strings_IndexRune.l1 (k : Nat) (a0 : List UInt8) : Nat → Nat → Option (Sum (Int) (Unit))
  | 0, _ => none
  | kk + 1, x118 =>
    (bif (Nat.blt x118 a0.length) then
    (bif ((runeAt a0 x118) == 65533) then
    some (.inl (x118 : Int))
    else
    strings_IndexRune.l1 k a0 kk (x118 + wideAt a0 x118))
    else
    some (.inr ()))
def strings_IndexRune.l3 (k : Nat) (a0 : List UInt8) (a1 : Int) (x147 : Int) : Nat → Int → Option (Unit)
  | 0, _ => none
  | kk + 1, x153 =>
    (bif (decide (x153 < ((runeStr a1).length : Int))) then
    (ix a0 (wrap64 (x147 - x153))).bind fun x164 =>
    (ix (runeStr a1) (wrap64 ((wrap64 (((runeStr a1).length : Int) - 1)) - x153))).bind fun x165 =>
    (bif (!(x164 == x165)) then
    none
    else
    strings_IndexRune.l3 k a0 a1 x147 kk (wrap64 (x153 + 1)))
    else
    some ())
def strings_IndexRune.l2 (k : Nat) (a0 : List UInt8) (a1 : Int) : Nat → Option (Sum (Int) (Unit))
  | 0 => none
  | kk + 1 =>
    (bif (decide ((wrap64 (((runeStr a1).length : Int) - 1)) < (a0.length : Int))) then
    ((ix a0 (wrap64 (((runeStr a1).length : Int) - 1))).bind fun x173 =>
    (ix (runeStr a1) (wrap64 (((runeStr a1).length : Int) - 1))).bind fun x174 =>
    (bif (!(x173 == x174)) then
    (cut a0 (wrap64 ((wrap64 (((runeStr a1).length : Int) - 1)) + 1)) (a0.length : Int)).bind fun y178 =>
    (ix (runeStr a1) (wrap64 (((runeStr a1).length : Int) - 1))).bind fun x179 =>
    (strings_IndexByte.f y178 x179).bind fun z180 =>
    (bif (decide (z180 < 0)) then
    some (.inl (-1))
    else
    some (.inr (wrap64 ((wrap64 (((runeStr a1).length : Int) - 1)) + (wrap64 (z180 + 1))))))
    else
    some (.inr (wrap64 (((runeStr a1).length : Int) - 1)))) : Option (Sum (Int) (Int))).bind fun z148 => match z148 with
    | .inl r_ => some (.inl r_)
    | .inr x147 =>
    (strings_IndexRune.l3 k a0 a1 x147 k 1).bind fun _ =>
    some (.inl (wrap64 (x147 - (wrap64 (((runeStr a1).length : Int) - 1)))))
    else
    some (.inr ()))
def strings_IndexRune.f (k : Nat) (a0 : List UInt8) (a1 : Int) : Option (Int) :=
  ((bif (decide (0 ≤ a1)) then
  some (decide (a1 < 128))
  else
  some false) : Option (Bool)).bind fun z102 =>
  (bif z102 then
  (strings_IndexByte.f a0 (ofI8 a1)).bind fun z108 =>
  some z108
  else
  (bif (a1 == 65533) then
  (strings_IndexRune.l1 k a0 k 0).bind fun z119 => match z119 with
  | .inl r_ => some r_
  | .inr _ =>
  some (-1)
  else
  (utf8_ValidRune.f a1).bind fun z134 =>
  (bif (!z134) then
  some (-1)
  else
  (strings_IndexRune.l2 k a0 a1 k).bind fun z139 => match z139 with
  | .inl r_ => some r_
  | .inr _ =>
  some (-1))))
theorem strings_IndexRune.l1.mono {k k' : Nat} (hk : k ≤ k') (a0 : List UInt8) : ∀ (n n' : Nat) (hn : n ≤ n') y0, Le (strings_IndexRune.l1 k a0 n y0) (strings_IndexRune.l1 k' a0 n' y0) := by
  intro n
  induction n with
  | zero => intro n' hn y0; exact Le.none _
  | succ n ih =>
    intro n' hn y0
    obtain ⟨n', rfl⟩ : ∃ m, n' = m + 1 := ⟨n' - 1, by omega⟩
    have hn' : n ≤ n' := by omega
    rw [strings_IndexRune.l1.eq_2, strings_IndexRune.l1.eq_2]
    repeat' first
      | exact Le.refl _
      | exact ih n' hn' _
      | refine Le.bind ?_ fun x_ => ?_
      | refine Le.cond ?_ ?_
      | refine Le.nilc ?_ ?_
      | split
theorem strings_IndexRune.l3.mono {k k' : Nat} (hk : k ≤ k') (a0 : List UInt8) (a1 : Int) (x147 : Int) : ∀ (n n' : Nat) (hn : n ≤ n') y0, Le (strings_IndexRune.l3 k a0 a1 x147 n y0) (strings_IndexRune.l3 k' a0 a1 x147 n' y0) := by
  intro n
  induction n with
  | zero => intro n' hn y0; exact Le.none _
  | succ n ih =>
    intro n' hn y0
    obtain ⟨n', rfl⟩ : ∃ m, n' = m + 1 := ⟨n' - 1, by omega⟩
    have hn' : n ≤ n' := by omega
    rw [strings_IndexRune.l3.eq_2, strings_IndexRune.l3.eq_2]
    repeat' first
      | exact Le.refl _
      | exact strings_IndexRune.l1.mono hk _ _ _ hk _
      | exact strings_IndexRune.l1.mono hk _ _ _ hn' _
      | exact ih n' hn' _
      | refine Le.bind ?_ fun x_ => ?_
      | refine Le.cond ?_ ?_
      | refine Le.nilc ?_ ?_
      | split
theorem strings_IndexRune.l2.mono {k k' : Nat} (hk : k ≤ k') (a0 : List UInt8) (a1 : Int) : ∀ (n n' : Nat) (hn : n ≤ n'), Le (strings_IndexRune.l2 k a0 a1 n) (strings_IndexRune.l2 k' a0 a1 n') := by
  intro n
  induction n with
  | zero => intro n' hn; exact Le.none _
  | succ n ih =>
    intro n' hn
    obtain ⟨n', rfl⟩ : ∃ m, n' = m + 1 := ⟨n' - 1, by omega⟩
    have hn' : n ≤ n' := by omega
    rw [strings_IndexRune.l2.eq_2, strings_IndexRune.l2.eq_2]
    repeat' first
      | exact Le.refl _
      | exact strings_IndexRune.l1.mono hk _ _ _ hk _
      | exact strings_IndexRune.l1.mono hk _ _ _ hn' _
      | exact strings_IndexRune.l3.mono hk _ _ _ _ _ hk _
      | exact strings_IndexRune.l3.mono hk _ _ _ _ _ hn' _
      | exact ih n' hn'
      | refine Le.bind ?_ fun x_ => ?_
      | refine Le.cond ?_ ?_
      | refine Le.nilc ?_ ?_
      | split
theorem strings_IndexRune.mono {k k' : Nat} (hk : k ≤ k') (a0 : List UInt8) (a1 : Int) : Le (strings_IndexRune.f k a0 a1) (strings_IndexRune.f k' a0 a1) := by
  unfold strings_IndexRune.f
  repeat' first
    | exact Le.refl _
    | exact strings_IndexRune.l1.mono hk _ _ _ hk _
    | exact strings_IndexRune.l3.mono hk _ _ _ _ _ hk _
    | exact strings_IndexRune.l2.mono hk _ _ _ _ hk
    | refine Le.bind ?_ fun x_ => ?_
    | refine Le.cond ?_ ?_
    | refine Le.nilc ?_ ?_
    | split

/-! ### octet_Unhex: function 32 -/
def octet_Unhex.l1 (k : Nat) (a0 : List UInt8) : Nat → (List UInt8) → Nat → Option (Sum ((List UInt8) × Int) ((List UInt8)))
  | 0, _, _ => none
  | kk + 1, x109, x110 =>
    (bif (Nat.blt x110 a0.length) then
    (strings_IndexRune.f k ([48, 49, 50, 51, 52, 53, 54, 55, 56, 57, 97, 98, 99, 100, 101, 102] : List UInt8) (runeAt a0 x110)).bind fun z125 =>
    (bif (decide (z125 < 0)) then
    some (.inl (([] : List UInt8), 2))
    else
    (bif (((x110 : Int).tmod 2) == 0) then
    (chk (decide ((x109.length + [ofI8 (shlI z125 4)].length) * 1 ≤ 140737488355328))).bind fun _ =>
    octet_Unhex.l1 k a0 kk (x109 ++ [ofI8 (shlI z125 4)]) (x110 + wideAt a0 x110)
    else
    (ix x109 (wrap64 ((x109.length : Int) - 1))).bind fun x148 =>
    (ix x109 (wrap64 ((x109.length : Int) - 1))).bind fun x158 =>
    octet_Unhex.l1 k a0 kk (x109.set (wrap64 ((x109.length : Int) - 1)).toNat (x148 ||| (ofI8 z125))) (x110 + wideAt a0 x110)))
    else
    some (.inr x109))
def octet_Unhex.f (k : Nat) (a0 : List UInt8) : Option ((List UInt8) × Int) :=
  (bif (((a0.length : Int).tmod 2) == 1) then
  some (([] : List UInt8), 2)
  else
  (octet_Unhex.l1 k a0 k ([] : List UInt8) 0).bind fun z114 => match z114 with
  | .inl r_ => some r_
  | .inr x113 =>
  some (x113, 0))
theorem octet_Unhex.l1.mono {k k' : Nat} (hk : k ≤ k') (a0 : List UInt8) : ∀ (n n' : Nat) (hn : n ≤ n') y0 y1, Le (octet_Unhex.l1 k a0 n y0 y1) (octet_Unhex.l1 k' a0 n' y0 y1) := by
  intro n
  induction n with
  | zero => intro n' hn y0 y1; exact Le.none _
  | succ n ih =>
    intro n' hn y0 y1
    obtain ⟨n', rfl⟩ : ∃ m, n' = m + 1 := ⟨n' - 1, by omega⟩
    have hn' : n ≤ n' := by omega
    rw [octet_Unhex.l1.eq_2, octet_Unhex.l1.eq_2]
    repeat' first
      | exact Le.refl _
      | exact strings_IndexRune.mono hk _ _
      | exact ih n' hn' _ _
      | refine Le.bind ?_ fun x_ => ?_
      | refine Le.cond ?_ ?_
      | refine Le.nilc ?_ ?_
      | split
theorem octet_Unhex.mono {k k' : Nat} (hk : k ≤ k') (a0 : List UInt8) : Le (octet_Unhex.f k a0) (octet_Unhex.f k' a0) := by
  unfold octet_Unhex.f
  repeat' first
    | exact Le.refl _
    | exact strings_IndexRune.mono hk _ _
    | exact octet_Unhex.l1.mono hk _ _ _ hk _ _
    | refine Le.bind ?_ fun x_ => ?_
    | refine Le.cond ?_ ?_
    | refine Le.nilc ?_ ?_
    | split

/-! ### dictumref01_digit: function 50 -/
def dictumref01_digit.f (a0 : UInt8) : Option (Int) :=
  ((bif (decide ((48 : UInt8) ≤ a0)) then
  some (decide (a0 ≤ (57 : UInt8)))
  else
  some false) : Option (Bool)).bind fun z102 =>
  (bif z102 then
  some ((a0 - (48 : UInt8)).toNat : Int)
  else
  ((bif (decide ((97 : UInt8) ≤ a0)) then
  some (decide (a0 ≤ (102 : UInt8)))
  else
  some false) : Option (Bool)).bind fun z109 =>
  (bif z109 then
  some (wrap64 (((a0 - (97 : UInt8)).toNat : Int) + 10))
  else
  some (-1)))

/-! ### dictumref01_Unhex: function 33 -/
def dictumref01_Unhex.l1 (k : Nat) (a0 : List UInt8) : Nat → (List UInt8) → Int → Option (Sum ((List UInt8) × Int) ((List UInt8)))
  | 0, _, _ => none
  | kk + 1, x104, x105 =>
    (bif (decide (x105 < (a0.length : Int))) then
    (ix a0 x105).bind fun x117 =>
    (dictumref01_digit.f x117).bind fun z118 =>
    (ix a0 (wrap64 (x105 + 1))).bind fun x122 =>
    (dictumref01_digit.f x122).bind fun z123 =>
    ((bif (decide (z118 < 0)) then
    some true
    else
    some (decide (z123 < 0))) : Option (Bool)).bind fun z128 =>
    (bif z128 then
    some (.inl (([] : List UInt8), 2))
    else
    (chk (decide ((x104.length + [ofI8 (wrap64 ((wrap64 (16 * z118)) + z123))].length) * 1 ≤ 140737488355328))).bind fun _ =>
    dictumref01_Unhex.l1 k a0 kk (x104 ++ [ofI8 (wrap64 ((wrap64 (16 * z118)) + z123))]) (wrap64 (x105 + 2)))
    else
    some (.inr x104))
def dictumref01_Unhex.f (k : Nat) (a0 : List UInt8) : Option ((List UInt8) × Int) :=
  (bif (((a0.length : Int).tmod 2) == 1) then
  some (([] : List UInt8), 2)
  else
  (dictumref01_Unhex.l1 k a0 k ([] : List UInt8) 0).bind fun z109 => match z109 with
  | .inl r_ => some r_
  | .inr x108 =>
  some (x108, 0))
theorem dictumref01_Unhex.l1.mono {k k' : Nat} (hk : k ≤ k') (a0 : List UInt8) : ∀ (n n' : Nat) (hn : n ≤ n') y0 y1, Le (dictumref01_Unhex.l1 k a0 n y0 y1) (dictumref01_Unhex.l1 k' a0 n' y0 y1) := by
  intro n
  induction n with
  | zero => intro n' hn y0 y1; exact Le.none _
  | succ n ih =>
    intro n' hn y0 y1
    obtain ⟨n', rfl⟩ : ∃ m, n' = m + 1 := ⟨n' - 1, by omega⟩
    have hn' : n ≤ n' := by omega
    rw [dictumref01_Unhex.l1.eq_2, dictumref01_Unhex.l1.eq_2]
    repeat' first
      | exact Le.refl _
      | exact ih n' hn' _ _
      | refine Le.bind ?_ fun x_ => ?_
      | refine Le.cond ?_ ?_
      | refine Le.nilc ?_ ?_
      | split
theorem dictumref01_Unhex.mono {k k' : Nat} (hk : k ≤ k') (a0 : List UInt8) : Le (dictumref01_Unhex.f k a0) (dictumref01_Unhex.f k' a0) := by
  unfold dictumref01_Unhex.f
  repeat' first
    | exact Le.refl _
    | exact dictumref01_Unhex.l1.mono hk _ _ _ hk _ _
    | refine Le.bind ?_ fun x_ => ?_
    | refine Le.cond ?_ ?_
    | refine Le.nilc ?_ ?_
    | split

/-! ### octet_Dec: function 36 -/
def octet_Dec.f (a0 : Int) : Option ((List UInt8)) :=
  (strconv_Itoa.f a0).bind fun z101 =>
  some z101

/-! ### octet_Undec: function 34 -/
def octet_Undec.f (a0 : List UInt8) (a1 : Int) : Option (Int × Int) :=
  (strconv_Atoi.f a0).bind fun z101 =>
  ((bif z101.2 then
  some true
  else
  (bif (decide (z101.1 < 0)) then
  some true
  else
  (bif (decide (z101.1 > a1)) then
  some true
  else
  (bif (decide ((a0.length : Int) > 10)) then
  some true
  else
  (octet_Dec.f z101.1).bind fun z119 =>
  some (!(z119 == a0)))))) : Option (Bool)).bind fun z108 =>
  (bif z108 then
  some (0, 2)
  else
  some (z101.1, 0))

/-! ### dictumref01_Undec: function 35 -/
def dictumref01_Undec.l1 (k : Nat) (a0 : List UInt8) : Nat → Int → Int → Option (Sum (Int × Int) (Int))
  | 0, _, _ => none
  | kk + 1, x108, x109 =>
    (bif (decide (x109 < (a0.length : Int))) then
    ((ix a0 x109).bind fun x128 =>
    (bif (decide (x128 < (48 : UInt8))) then
    some true
    else
    (ix a0 x109).bind fun x130 =>
    some (decide ((57 : UInt8) < x130))) : Option (Bool)).bind fun z120 =>
    (bif z120 then
    some (.inl (0, 2))
    else
    (ix a0 x109).bind fun x126 =>
    dictumref01_Undec.l1 k a0 kk (wrap64 ((wrap64 (10 * x108)) + ((x126 - (48 : UInt8)).toNat : Int))) (wrap64 (x109 + 1)))
    else
    some (.inr x108))
def dictumref01_Undec.f (k : Nat) (a0 : List UInt8) (a1 : Int) : Option (Int × Int) :=
  ((bif (decide ((a0.length : Int) < 1)) then
  some true
  else
  (bif (decide ((a0.length : Int) > 10)) then
  some true
  else
  (bif (decide ((a0.length : Int) > 1)) then
  (ix a0 (0 : Int)).bind fun x139 =>
  some (x139 == (48 : UInt8))
  else
  some false))) : Option (Bool)).bind fun z102 =>
  (bif z102 then
  some (0, 2)
  else
  (dictumref01_Undec.l1 k a0 k 0 0).bind fun z111 => match z111 with
  | .inl r_ => some r_
  | .inr x110 =>
  (bif (decide (x110 > a1)) then
  some (0, 2)
  else
  some (x110, 0)))
theorem dictumref01_Undec.l1.mono {k k' : Nat} (hk : k ≤ k') (a0 : List UInt8) : ∀ (n n' : Nat) (hn : n ≤ n') y0 y1, Le (dictumref01_Undec.l1 k a0 n y0 y1) (dictumref01_Undec.l1 k' a0 n' y0 y1) := by
  intro n
  induction n with
  | zero => intro n' hn y0 y1; exact Le.none _
  | succ n ih =>
    intro n' hn y0 y1
    obtain ⟨n', rfl⟩ : ∃ m, n' = m + 1 := ⟨n' - 1, by omega⟩
    have hn' : n ≤ n' := by omega
    rw [dictumref01_Undec.l1.eq_2, dictumref01_Undec.l1.eq_2]
    repeat' first
      | exact Le.refl _
      | exact ih n' hn' _ _
      | refine Le.bind ?_ fun x_ => ?_
      | refine Le.cond ?_ ?_
      | refine Le.nilc ?_ ?_
      | split
theorem dictumref01_Undec.mono {k k' : Nat} (hk : k ≤ k') (a0 : List UInt8) (a1 : Int) : Le (dictumref01_Undec.f k a0 a1) (dictumref01_Undec.f k' a0 a1) := by
  unfold dictumref01_Undec.f
  repeat' first
    | exact Le.refl _
    | exact dictumref01_Undec.l1.mono hk _ _ _ hk _ _
    | refine Le.bind ?_ fun x_ => ?_
    | refine Le.cond ?_ ?_
    | refine Le.nilc ?_ ?_
    | split

/-! ### dictumref01_Hex: function 37 -/
def dictumref01_Hex.l1 (k : Nat) (a0 : (List UInt8)) : Nat → (List UInt8) → Int → Option ((List UInt8))
  | 0, _, _ => none
  | kk + 1, x101, x102 =>
    (bif (decide (x102 < (a0.length : Int))) then
    (ix a0 x102).bind fun x114 =>
    (ix a0 x102).bind fun x121 =>
    (cut ([48, 49, 50, 51, 52, 53, 54, 55, 56, 57, 97, 98, 99, 100, 101, 102] : List UInt8) ((shr8 x114 4).toNat : Int) (((shr8 x121 4) + (1 : UInt8)).toNat : Int)).bind fun y128 =>
    (chk (decide (x101.length + y128.length ≤ 9223372036854775807))).bind fun _ =>
    (ix a0 x102).bind fun x130 =>
    (ix a0 x102).bind fun x137 =>
    (cut ([48, 49, 50, 51, 52, 53, 54, 55, 56, 57, 97, 98, 99, 100, 101, 102] : List UInt8) ((x130 &&& (15 : UInt8)).toNat : Int) (((x137 &&& (15 : UInt8)) + (1 : UInt8)).toNat : Int)).bind fun y144 =>
    (chk (decide ((x101 ++ y128).length + y144.length ≤ 9223372036854775807))).bind fun _ =>
    dictumref01_Hex.l1 k a0 kk ((x101 ++ y128) ++ y144) (wrap64 (x102 + 1))
    else
    some x101)
def dictumref01_Hex.f (k : Nat) (a0 : (List UInt8)) : Option ((List UInt8)) :=
  (dictumref01_Hex.l1 k a0 k ([] : List UInt8) 0).bind fun z104 =>
  some z104
theorem dictumref01_Hex.l1.mono {k k' : Nat} (hk : k ≤ k') (a0 : (List UInt8)) : ∀ (n n' : Nat) (hn : n ≤ n') y0 y1, Le (dictumref01_Hex.l1 k a0 n y0 y1) (dictumref01_Hex.l1 k' a0 n' y0 y1) := by
  intro n
  induction n with
  | zero => intro n' hn y0 y1; exact Le.none _
  | succ n ih =>
    intro n' hn y0 y1
    obtain ⟨n', rfl⟩ : ∃ m, n' = m + 1 := ⟨n' - 1, by omega⟩
    have hn' : n ≤ n' := by omega
    rw [dictumref01_Hex.l1.eq_2, dictumref01_Hex.l1.eq_2]
    repeat' first
      | exact Le.refl _
      | exact ih n' hn' _ _
      | refine Le.bind ?_ fun x_ => ?_
      | refine Le.cond ?_ ?_
      | refine Le.nilc ?_ ?_
      | split
theorem dictumref01_Hex.mono {k k' : Nat} (hk : k ≤ k') (a0 : (List UInt8)) : Le (dictumref01_Hex.f k a0) (dictumref01_Hex.f k' a0) := by
  unfold dictumref01_Hex.f
  repeat' first
    | exact Le.refl _
    | exact dictumref01_Hex.l1.mono hk _ _ _ hk _ _
    | refine Le.bind ?_ fun x_ => ?_
    | refine Le.cond ?_ ?_
    | refine Le.nilc ?_ ?_
    | split

/-! ### dictumref01_Same: function 11 -/
def dictumref01_Same.l1 (k : Nat) (a0 : (List UInt8)) (a1 : (List UInt8)) : Nat → Int → Option (Sum (Bool) (Unit))
  | 0, _ => none
  | kk + 1, x102 =>
    (bif (decide (x102 < (a0.length : Int))) then
    (ix a0 x102).bind fun x113 =>
    (ix a1 x102).bind fun x120 =>
    (bif (!(x113 == x120)) then
    some (.inl false)
    else
    dictumref01_Same.l1 k a0 a1 kk (wrap64 (x102 + 1)))
    else
    some (.inr ()))
def dictumref01_Same.f (k : Nat) (a0 : (List UInt8)) (a1 : (List UInt8)) : Option (Bool) :=
  (bif ((a0.length : Int) != (a1.length : Int)) then
  some false
  else
  (dictumref01_Same.l1 k a0 a1 k 0).bind fun z103 => match z103 with
  | .inl r_ => some r_
  | .inr _ =>
  some true)
theorem dictumref01_Same.l1.mono {k k' : Nat} (hk : k ≤ k') (a0 : (List UInt8)) (a1 : (List UInt8)) : ∀ (n n' : Nat) (hn : n ≤ n') y0, Le (dictumref01_Same.l1 k a0 a1 n y0) (dictumref01_Same.l1 k' a0 a1 n' y0) := by
  intro n
  induction n with
  | zero => intro n' hn y0; exact Le.none _
  | succ n ih =>
    intro n' hn y0
    obtain ⟨n', rfl⟩ : ∃ m, n' = m + 1 := ⟨n' - 1, by omega⟩
    have hn' : n ≤ n' := by omega
    rw [dictumref01_Same.l1.eq_2, dictumref01_Same.l1.eq_2]
    repeat' first
      | exact Le.refl _
      | exact ih n' hn' _
      | refine Le.bind ?_ fun x_ => ?_
      | refine Le.cond ?_ ?_
      | refine Le.nilc ?_ ?_
      | split
theorem dictumref01_Same.mono {k k' : Nat} (hk : k ≤ k') (a0 : (List UInt8)) (a1 : (List UInt8)) : Le (dictumref01_Same.f k a0 a1) (dictumref01_Same.f k' a0 a1) := by
  unfold dictumref01_Same.f
  repeat' first
    | exact Le.refl _
    | exact dictumref01_Same.l1.mono hk _ _ _ _ hk _
    | refine Le.bind ?_ fun x_ => ?_
    | refine Le.cond ?_ ?_
    | refine Le.nilc ?_ ?_
    | split

/-! ### dictumref01_Dec: function 38 -/
def dictumref01_Dec.l1 (k : Nat) : Nat → UInt64 → (List UInt8) → Option ((List UInt8))
  | 0, _, _ => none
  | kk + 1, x108, x109 =>
    ((bif (decide ((0 : UInt64) < x108)) then
    some true
    else
    some (x109 == ([] : List UInt8))) : Option (Bool)).bind fun z119 =>
    (bif z119 then
    (chk (!((10 : UInt64) == 0))).bind fun _ =>
    (chk (decide ([ofI8 (((48 : UInt64) + (x108 % (10 : UInt64))).toNat : Int)].length + x109.length ≤ 9223372036854775807))).bind fun _ =>
    (chk (!((10 : UInt64) == 0))).bind fun _ =>
    dictumref01_Dec.l1 k kk (x108 / (10 : UInt64)) ([ofI8 (((48 : UInt64) + (x108 % (10 : UInt64))).toNat : Int)] ++ x109)
    else
    some x109)
def dictumref01_Dec.f (k : Nat) (a0 : Int) : Option ((List UInt8)) :=
  ((bif (decide (a0 < 0)) then
  some (((0 : UInt64) - (ofI64 a0)), ([45] : List UInt8))
  else
  some (ofI64 a0, ([] : List UInt8))) : Option (UInt64 × (List UInt8))).bind fun (x101, x102) =>
  (dictumref01_Dec.l1 k k x101 ([] : List UInt8)).bind fun z111 =>
  (chk (decide (x102.length + z111.length ≤ 9223372036854775807))).bind fun _ =>
  some (x102 ++ z111)
theorem dictumref01_Dec.l1.mono {k k' : Nat} (hk : k ≤ k') : ∀ (n n' : Nat) (hn : n ≤ n') y0 y1, Le (dictumref01_Dec.l1 k n y0 y1) (dictumref01_Dec.l1 k' n' y0 y1) := by
  intro n
  induction n with
  | zero => intro n' hn y0 y1; exact Le.none _
  | succ n ih =>
    intro n' hn y0 y1
    obtain ⟨n', rfl⟩ : ∃ m, n' = m + 1 := ⟨n' - 1, by omega⟩
    have hn' : n ≤ n' := by omega
    rw [dictumref01_Dec.l1.eq_2, dictumref01_Dec.l1.eq_2]
    repeat' first
      | exact Le.refl _
      | exact ih n' hn' _ _
      | refine Le.bind ?_ fun x_ => ?_
      | refine Le.cond ?_ ?_
      | refine Le.nilc ?_ ?_
      | split
theorem dictumref01_Dec.mono {k k' : Nat} (hk : k ≤ k') (a0 : Int) : Le (dictumref01_Dec.f k a0) (dictumref01_Dec.f k' a0) := by
  unfold dictumref01_Dec.f
  repeat' first
    | exact Le.refl _
    | exact dictumref01_Dec.l1.mono hk _ _ hk _ _
    | refine Le.bind ?_ fun x_ => ?_
    | refine Le.cond ?_ ?_
    | refine Le.nilc ?_ ?_
    | split

/-! ### octet_Writer_U8: function 27 -/
def octet_Writer_U8.f (a0 : T_octet_Writer) (a1 : UInt8) : Option (T_octet_Writer) :=
  (chk (decide ((a0.f_B.length + [a1].length) * 1 ≤ 140737488355328))).bind fun _ =>
  some (⟨(a0.f_B ++ [a1])⟩ : T_octet_Writer)

/-! ### octet_Writer_Num: function 28 -/
def octet_Writer_Num.l1 (k : Nat) : Nat → UInt64 → T_octet_Writer → Option (UInt64 × T_octet_Writer)
  | 0, _, _ => none
  | kk + 1, x101, x102 =>
    (bif (decide ((128 : UInt64) ≤ x101)) then
    (octet_Writer_U8.f x102 ((ofI8 (x101.toNat : Int)) ||| (128 : UInt8))).bind fun z117 =>
    octet_Writer_Num.l1 k kk (shr64 x101 7) z117
    else
    some (x101, x102))
def octet_Writer_Num.f (k : Nat) (a0 : T_octet_Writer) (a1 : UInt64) : Option (T_octet_Writer) :=
  (octet_Writer_Num.l1 k k a1 a0).bind fun (x105, x106) =>
  (octet_Writer_U8.f x106 (ofI8 (x105.toNat : Int))).bind fun z127 =>
  some z127
theorem octet_Writer_Num.l1.mono {k k' : Nat} (hk : k ≤ k') : ∀ (n n' : Nat) (hn : n ≤ n') y0 y1, Le (octet_Writer_Num.l1 k n y0 y1) (octet_Writer_Num.l1 k' n' y0 y1) := by
  intro n
  induction n with
  | zero => intro n' hn y0 y1; exact Le.none _
  | succ n ih =>
    intro n' hn y0 y1
    obtain ⟨n', rfl⟩ : ∃ m, n' = m + 1 := ⟨n' - 1, by omega⟩
    have hn' : n ≤ n' := by omega
    rw [octet_Writer_Num.l1.eq_2, octet_Writer_Num.l1.eq_2]
    repeat' first
      | exact Le.refl _
      | exact ih n' hn' _ _
      | refine Le.bind ?_ fun x_ => ?_
      | refine Le.cond ?_ ?_
      | refine Le.nilc ?_ ?_
      | split
theorem octet_Writer_Num.mono {k k' : Nat} (hk : k ≤ k') (a0 : T_octet_Writer) (a1 : UInt64) : Le (octet_Writer_Num.f k a0 a1) (octet_Writer_Num.f k' a0 a1) := by
  unfold octet_Writer_Num.f
  repeat' first
    | exact Le.refl _
    | exact octet_Writer_Num.l1.mono hk _ _ hk _ _
    | refine Le.bind ?_ fun x_ => ?_
    | refine Le.cond ?_ ?_
    | refine Le.nilc ?_ ?_
    | split

/-! ### octet_Writer_Text: function 29 -/
def octet_Writer_Text.f (k : Nat) (a0 : T_octet_Writer) (a1 : List UInt8) : Option (Int × T_octet_Writer) :=
  (utf8_ValidString.f a1).bind fun z101 =>
  (bif (!z101) then
  some (12, a0)
  else
  (bif (decide ((a1.length : Int) > 65536)) then
  some (11, a0)
  else
  (octet_Writer_Num.f k a0 (ofI64 (a1.length : Int))).bind fun z107 =>
  (chk (decide ((z107.f_B.length + a1.length) * 1 ≤ 140737488355328))).bind fun _ =>
  some (0, (⟨(z107.f_B ++ a1)⟩ : T_octet_Writer))))
theorem octet_Writer_Text.mono {k k' : Nat} (hk : k ≤ k') (a0 : T_octet_Writer) (a1 : List UInt8) : Le (octet_Writer_Text.f k a0 a1) (octet_Writer_Text.f k' a0 a1) := by
  unfold octet_Writer_Text.f
  repeat' first
    | exact Le.refl _
    | exact octet_Writer_Num.mono hk _ _
    | refine Le.bind ?_ fun x_ => ?_
    | refine Le.cond ?_ ?_
    | refine Le.nilc ?_ ?_
    | split

/-! ### bytes_Clone: function 41 -/
def bytes_Clone.f (a0 : (List UInt8)) : Option ((List UInt8)) :=
  (nilc a0
  (some ([] : List UInt8))
  ((chk (decide ((([] : List UInt8).length + a0.length) * 1 ≤ 140737488355328))).bind fun _ =>
  some (([] : List UInt8) ++ a0)))

/-! ### octet_NewReader: function 19 -/
def octet_NewReader.f (a0 : (List UInt8)) : Option (T_octet_Reader) :=
  (bytes_Clone.f a0).bind fun z101 =>
  some (⟨true, z101⟩ : T_octet_Reader)

/-! ### octet_Reader_alive: function 43 -/
def octet_Reader_alive.f (a0 : T_octet_Reader) : Option (Bool) :=
  some a0.f_made

/-! ### octet_Reader_Num: function 21 -/
def octet_Reader_Num.l1 (k : Nat) (a0 : T_octet_Reader) : Nat → UInt64 → Int → Option (Sum (UInt64 × Int × T_octet_Reader) (Unit))
  | 0, _, _ => none
  | kk + 1, x106, x107 =>
    (bif (decide (x107 < (a0.f_left.length : Int))) then
    (ix a0.f_left x107).bind fun x116 =>
    ((bif (x107 == 9) then
    some (decide ((1 : UInt8) < x116))
    else
    some false) : Option (Bool)).bind fun z124 =>
    (bif z124 then
    some (.inl ((0 : UInt64), 11, a0))
    else
    (chk (decide (0 ≤ wrap64 (7 * x107)))).bind fun _ =>
    (bif (decide (x116 < (128 : UInt8))) then
    ((bif (x116 == (0 : UInt8)) then
    some (decide (x107 > 0))
    else
    some false) : Option (Bool)).bind fun z133 =>
    (bif z133 then
    some (.inl ((0 : UInt64), 11, a0))
    else
    (cut a0.f_left (wrap64 (x107 + 1)) (a0.f_left.length : Int)).bind fun y139 =>
    some (.inl ((x106 ||| (shl64 (ofI64 ((x116 &&& (127 : UInt8)).toNat : Int)) (wrap64 (7 * x107)).toNat)), 0, (⟨a0.f_made, y139⟩ : T_octet_Reader))))
    else
    octet_Reader_Num.l1 k a0 kk (x106 ||| (shl64 (ofI64 ((x116 &&& (127 : UInt8)).toNat : Int)) (wrap64 (7 * x107)).toNat)) (wrap64 (x107 + 1))))
    else
    some (.inr ()))
def octet_Reader_Num.f (k : Nat) (a0 : T_octet_Reader) : Option (UInt64 × Int × T_octet_Reader) :=
  (octet_Reader_alive.f a0).bind fun z101 =>
  (bif (!z101) then
  some ((0 : UInt64), 1, a0)
  else
  (octet_Reader_Num.l1 k a0 k (0 : UInt64) 0).bind fun z108 => match z108 with
  | .inl r_ => some r_
  | .inr _ =>
  some ((0 : UInt64), 10, a0))
theorem octet_Reader_Num.l1.mono {k k' : Nat} (hk : k ≤ k') (a0 : T_octet_Reader) : ∀ (n n' : Nat) (hn : n ≤ n') y0 y1, Le (octet_Reader_Num.l1 k a0 n y0 y1) (octet_Reader_Num.l1 k' a0 n' y0 y1) := by
  intro n
  induction n with
  | zero => intro n' hn y0 y1; exact Le.none _
  | succ n ih =>
    intro n' hn y0 y1
    obtain ⟨n', rfl⟩ : ∃ m, n' = m + 1 := ⟨n' - 1, by omega⟩
    have hn' : n ≤ n' := by omega
    rw [octet_Reader_Num.l1.eq_2, octet_Reader_Num.l1.eq_2]
    repeat' first
      | exact Le.refl _
      | exact ih n' hn' _ _
      | refine Le.bind ?_ fun x_ => ?_
      | refine Le.cond ?_ ?_
      | refine Le.nilc ?_ ?_
      | split
theorem octet_Reader_Num.mono {k k' : Nat} (hk : k ≤ k') (a0 : T_octet_Reader) : Le (octet_Reader_Num.f k a0) (octet_Reader_Num.f k' a0) := by
  unfold octet_Reader_Num.f
  repeat' first
    | exact Le.refl _
    | exact octet_Reader_Num.l1.mono hk _ _ _ hk _ _
    | refine Le.bind ?_ fun x_ => ?_
    | refine Le.cond ?_ ?_
    | refine Le.nilc ?_ ?_
    | split

/-! ### octet_Sum: function 15 -/
def octet_Sum.l3 (k : Nat) : Nat → UInt32 → Int → Option (UInt32)
  | 0, _, _ => none
  | kk + 1, x143, x144 =>
    (bif (decide (x144 < 8)) then
    ((bif ((x143 &&& (1 : UInt32)) == (1 : UInt32)) then
    some ((shr32 x143 1) ^^^ (2197175160 : UInt32))
    else
    some (shr32 x143 1)) : Option (UInt32)).bind fun z155 =>
    octet_Sum.l3 k kk z155 (wrap64 (x144 + 1))
    else
    some x143)
def octet_Sum.l2 (k : Nat) (x112 : (List UInt8)) : Nat → UInt32 → Int → Option (UInt32)
  | 0, _, _ => none
  | kk + 1, x125, x126 =>
    (bif (decide (x126 < (x112.length : Int))) then
    (ix x112 x126).bind fun x136 =>
    (octet_Sum.l3 k k (x125 ^^^ (ofI32 (x136.toNat : Int))) 0).bind fun z146 =>
    octet_Sum.l2 k x112 kk z146 (wrap64 (x126 + 1))
    else
    some x125)
def octet_Sum.l1 (k : Nat) (a0 : (List (List UInt8))) : Nat → UInt32 → Int → Option (UInt32)
  | 0, _, _ => none
  | kk + 1, x101, x102 =>
    (bif (decide (x102 < (a0.length : Int))) then
    (ix a0 x102).bind fun x112 =>
    (octet_Sum.l2 k x112 k x101 0).bind fun z128 =>
    octet_Sum.l1 k a0 kk z128 (wrap64 (x102 + 1))
    else
    some x101)
def octet_Sum.f (k : Nat) (a0 : (List (List UInt8))) : Option (UInt32) :=
  (octet_Sum.l1 k a0 k (4294967295 : UInt32) 0).bind fun z104 =>
  some (~~~z104)
theorem octet_Sum.l3.mono {k k' : Nat} (hk : k ≤ k') : ∀ (n n' : Nat) (hn : n ≤ n') y0 y1, Le (octet_Sum.l3 k n y0 y1) (octet_Sum.l3 k' n' y0 y1) := by
  intro n
  induction n with
  | zero => intro n' hn y0 y1; exact Le.none _
  | succ n ih =>
    intro n' hn y0 y1
    obtain ⟨n', rfl⟩ : ∃ m, n' = m + 1 := ⟨n' - 1, by omega⟩
    have hn' : n ≤ n' := by omega
    rw [octet_Sum.l3.eq_2, octet_Sum.l3.eq_2]
    repeat' first
      | exact Le.refl _
      | exact ih n' hn' _ _
      | refine Le.bind ?_ fun x_ => ?_
      | refine Le.cond ?_ ?_
      | refine Le.nilc ?_ ?_
      | split
theorem octet_Sum.l2.mono {k k' : Nat} (hk : k ≤ k') (x112 : (List UInt8)) : ∀ (n n' : Nat) (hn : n ≤ n') y0 y1, Le (octet_Sum.l2 k x112 n y0 y1) (octet_Sum.l2 k' x112 n' y0 y1) := by
  intro n
  induction n with
  | zero => intro n' hn y0 y1; exact Le.none _
  | succ n ih =>
    intro n' hn y0 y1
    obtain ⟨n', rfl⟩ : ∃ m, n' = m + 1 := ⟨n' - 1, by omega⟩
    have hn' : n ≤ n' := by omega
    rw [octet_Sum.l2.eq_2, octet_Sum.l2.eq_2]
    repeat' first
      | exact Le.refl _
      | exact octet_Sum.l3.mono hk _ _ hk _ _
      | exact octet_Sum.l3.mono hk _ _ hn' _ _
      | exact ih n' hn' _ _
      | refine Le.bind ?_ fun x_ => ?_
      | refine Le.cond ?_ ?_
      | refine Le.nilc ?_ ?_
      | split
theorem octet_Sum.l1.mono {k k' : Nat} (hk : k ≤ k') (a0 : (List (List UInt8))) : ∀ (n n' : Nat) (hn : n ≤ n') y0 y1, Le (octet_Sum.l1 k a0 n y0 y1) (octet_Sum.l1 k' a0 n' y0 y1) := by
  intro n
  induction n with
  | zero => intro n' hn y0 y1; exact Le.none _
  | succ n ih =>
    intro n' hn y0 y1
    obtain ⟨n', rfl⟩ : ∃ m, n' = m + 1 := ⟨n' - 1, by omega⟩
    have hn' : n ≤ n' := by omega
    rw [octet_Sum.l1.eq_2, octet_Sum.l1.eq_2]
    repeat' first
      | exact Le.refl _
      | exact octet_Sum.l3.mono hk _ _ hk _ _
      | exact octet_Sum.l3.mono hk _ _ hn' _ _
      | exact octet_Sum.l2.mono hk _ _ _ hk _ _
      | exact octet_Sum.l2.mono hk _ _ _ hn' _ _
      | exact ih n' hn' _ _
      | refine Le.bind ?_ fun x_ => ?_
      | refine Le.cond ?_ ?_
      | refine Le.nilc ?_ ?_
      | split
theorem octet_Sum.mono {k k' : Nat} (hk : k ≤ k') (a0 : (List (List UInt8))) : Le (octet_Sum.f k a0) (octet_Sum.f k' a0) := by
  unfold octet_Sum.f
  repeat' first
    | exact Le.refl _
    | exact octet_Sum.l3.mono hk _ _ hk _ _
    | exact octet_Sum.l2.mono hk _ _ _ hk _ _
    | exact octet_Sum.l1.mono hk _ _ _ hk _ _
    | refine Le.bind ?_ fun x_ => ?_
    | refine Le.cond ?_ ?_
    | refine Le.nilc ?_ ?_
    | split

/-! ### octet_Seal: function 13 -/
def octet_Seal.l1 (k : Nat) (z115 : UInt32) : Nat → (List UInt8) → Int → Option ((List UInt8))
  | 0, _, _ => none
  | kk + 1, x121, x122 =>
    (bif (decide (x122 < 4)) then
    (chk (decide (0 ≤ wrap64 (8 * x122)))).bind fun _ =>
    (chk (decide ((x121.length + [ofI8 ((shr32 z115 (wrap64 (8 * x122)).toNat).toNat : Int)].length) * 1 ≤ 140737488355328))).bind fun _ =>
    octet_Seal.l1 k z115 kk (x121 ++ [ofI8 ((shr32 z115 (wrap64 (8 * x122)).toNat).toNat : Int)]) (wrap64 (x122 + 1))
    else
    some x121)
def octet_Seal.f (k : Nat) (a0 : (List UInt8)) : Option ((List UInt8)) :=
  (bytes_Clone.f a0).bind fun z101 =>
  (octet_Sum.f k [a0]).bind fun z115 =>
  (octet_Seal.l1 k z115 k z101 0).bind fun z126 =>
  some z126
theorem octet_Seal.l1.mono {k k' : Nat} (hk : k ≤ k') (z115 : UInt32) : ∀ (n n' : Nat) (hn : n ≤ n') y0 y1, Le (octet_Seal.l1 k z115 n y0 y1) (octet_Seal.l1 k' z115 n' y0 y1) := by
  intro n
  induction n with
  | zero => intro n' hn y0 y1; exact Le.none _
  | succ n ih =>
    intro n' hn y0 y1
    obtain ⟨n', rfl⟩ : ∃ m, n' = m + 1 := ⟨n' - 1, by omega⟩
    have hn' : n ≤ n' := by omega
    rw [octet_Seal.l1.eq_2, octet_Seal.l1.eq_2]
    repeat' first
      | exact Le.refl _
      | exact octet_Sum.mono hk _
      | exact ih n' hn' _ _
      | refine Le.bind ?_ fun x_ => ?_
      | refine Le.cond ?_ ?_
      | refine Le.nilc ?_ ?_
      | split
theorem octet_Seal.mono {k k' : Nat} (hk : k ≤ k') (a0 : (List UInt8)) : Le (octet_Seal.f k a0) (octet_Seal.f k' a0) := by
  unfold octet_Seal.f
  repeat' first
    | exact Le.refl _
    | exact octet_Sum.mono hk _
    | exact octet_Seal.l1.mono hk _ _ _ hk _ _
    | refine Le.bind ?_ fun x_ => ?_
    | refine Le.cond ?_ ?_
    | refine Le.nilc ?_ ?_
    | split

/-! ### bytes_Equal: function 42 -/
def bytes_Equal.f (a0 : (List UInt8)) (a1 : (List UInt8)) : Option (Bool) :=
  some (a0 == a1)

/-! ### octet_Open: function 17 -/
def octet_Open.f (k : Nat) (a0 : (List UInt8)) : Option ((List UInt8) × Int) :=
  (bif (decide ((wrap64 ((a0.length : Int) - 4)) < 0)) then
  some (([] : List UInt8), 10)
  else
  (cut a0 0 (wrap64 ((a0.length : Int) - 4))).bind fun y102 =>
  (octet_Seal.f k y102).bind fun z109 =>
  (bytes_Equal.f z109 a0).bind fun z118 =>
  (bif (!z118) then
  some (([] : List UInt8), 13)
  else
  (cut a0 0 (wrap64 ((a0.length : Int) - 4))).bind fun y123 =>
  (bytes_Clone.f y123).bind fun z130 =>
  some (z130, 0)))
theorem octet_Open.mono {k k' : Nat} (hk : k ≤ k') (a0 : (List UInt8)) : Le (octet_Open.f k a0) (octet_Open.f k' a0) := by
  unfold octet_Open.f
  repeat' first
    | exact Le.refl _
    | exact octet_Seal.mono hk _
    | refine Le.bind ?_ fun x_ => ?_
    | refine Le.cond ?_ ?_
    | refine Le.nilc ?_ ?_
    | split

/-! ### octet_Reader_Left: function 25 -/
def octet_Reader_Left.f (a0 : T_octet_Reader) : Option (Int) :=
  (octet_Reader_alive.f a0).bind fun z101 =>
  (bif (!z101) then
  some 0
  else
  some (a0.f_left.length : Int))

/-! ### dictumlaw01_heads: function 12 -/
def dictumlaw01_heads.f (k : Nat) : Option (Bool) :=
  (octet_Writer_U8.f (⟨([] : List UInt8)⟩ : T_octet_Writer) (9 : UInt8)).bind fun z106 =>
  (octet_Writer_Num.f k z106 (300 : UInt64)).bind fun z113 =>
  (octet_Writer_Text.f k z113 ([112] : List UInt8)).bind fun z120 =>
  (octet_NewReader.f [(172 : UInt8), (130 : UInt8), (0 : UInt8)]).bind fun z135 =>
  (octet_Reader_Num.f k z135).bind fun z147 =>
  (octet_Seal.f k [(5 : UInt8)]).bind fun z164 =>
  (octet_Open.f k z164).bind fun z173 =>
  (octet_Undec.f ([49, 50] : List UInt8) 12).bind fun z179 =>
  (bif (z120.1 == 0) then
  (dictumref01_Same.f k z120.2.f_B [(9 : UInt8), (172 : UInt8), (2 : UInt8), (1 : UInt8), (112 : UInt8)]).bind fun z195 =>
  (bif z195 then
  (bif (z147.2.1 == 11) then
  (octet_Reader_Left.f z147.2.2).bind fun z201 =>
  (bif (z201 == 3) then
  (octet_Sum.f k ([[(49 : UInt8), (50 : UInt8), (51 : UInt8), (52 : UInt8)], [(53 : UInt8), (54 : UInt8), (55 : UInt8), (56 : UInt8), (57 : UInt8)]])).bind fun z236 =>
  (bif (z236 == (3808858755 : UInt32)) then
  (dictumref01_Same.f k z173.1 [(5 : UInt8)]).bind fun z252 =>
  (bif z252 then
  (bif (z173.2 == 0) then
  (octet_Hex.f k [(10 : UInt8)]).bind fun z266 =>
  (bif (z266 == ([48, 97] : List UInt8)) then
  (octet_Dec.f (-7)).bind fun z271 =>
  (bif (z271 == ([45, 55] : List UInt8)) then
  (bif (z179.1 == 12) then
  some (z179.2 == 0)
  else
  some false)
  else
  some false)
  else
  some false)
  else
  some false)
  else
  some false)
  else
  some false)
  else
  some false)
  else
  some false)
  else
  some false)
  else
  some false)
theorem dictumlaw01_heads.mono {k k' : Nat} (hk : k ≤ k') : Le (dictumlaw01_heads.f k) (dictumlaw01_heads.f k') := by
  unfold dictumlaw01_heads.f
  repeat' first
    | exact Le.refl _
    | exact dictumref01_Same.mono hk _ _
    | exact octet_Hex.mono hk _
    | exact octet_Open.mono hk _
    | exact octet_Reader_Num.mono hk _
    | exact octet_Seal.mono hk _
    | exact octet_Sum.mono hk _
    | exact octet_Writer_Num.mono hk _ _
    | exact octet_Writer_Text.mono hk _ _
    | refine Le.bind ?_ fun x_ => ?_
    | refine Le.cond ?_ ?_
    | refine Le.nilc ?_ ?_
    | split

/-! ### dictumlaw01_OctetDigits: function 9 -/
def dictumlaw01_OctetDigits.f (k : Nat) (a0 : (List UInt8)) (a1 : List UInt8) (a2 : Int) (a3 : Int) : Option (Bool) :=
  (octet_Hex.f k a0).bind fun z101 =>
  (octet_Unhex.f k z101).bind fun z105 =>
  (octet_Unhex.f k a1).bind fun z111 =>
  (dictumref01_Unhex.f k a1).bind fun z117 =>
  (octet_Undec.f a1 a3).bind fun z123 =>
  (dictumref01_Undec.f k a1 a3).bind fun z127 =>
  (octet_Dec.f a2).bind fun z131 =>
  ((dictumref01_Hex.f k a0).bind fun z166 =>
  (bif (!(z101 == z166)) then
  some true
  else
  (bif (z105.2 != 0) then
  some true
  else
  (dictumref01_Same.f k z105.1 a0).bind fun z175 =>
  (bif (!z175) then
  some true
  else
  (dictumref01_Same.f k z111.1 z117.1).bind fun z186 =>
  (bif (!z186) then
  some true
  else
  (bif (z111.2 != z117.2) then
  some true
  else
  (bif (z123.1 != z127.1) then
  some true
  else
  (bif (z123.2 != z127.2) then
  some true
  else
  (dictumref01_Dec.f k a2).bind fun z194 =>
  some (!(z131 == z194))))))))) : Option (Bool)).bind fun z136 =>
  (bif z136 then
  some false
  else
  ((bif (decide (a2 < 0)) then
  some true
  else
  some (decide (a2 > 9999999999))) : Option (Bool)).bind fun z143 =>
  (bif z143 then
  (dictumlaw01_heads.f k ).bind fun z149 =>
  some z149
  else
  (octet_Undec.f z131 a2).bind fun z153 =>
  (bif (z153.1 == a2) then
  (bif (z153.2 == 0) then
  (dictumlaw01_heads.f k ).bind fun z159 =>
  some z159
  else
  some false)
  else
  some false)))
theorem dictumlaw01_OctetDigits.mono {k k' : Nat} (hk : k ≤ k') (a0 : (List UInt8)) (a1 : List UInt8) (a2 : Int) (a3 : Int) : Le (dictumlaw01_OctetDigits.f k a0 a1 a2 a3) (dictumlaw01_OctetDigits.f k' a0 a1 a2 a3) := by
  unfold dictumlaw01_OctetDigits.f
  repeat' first
    | exact Le.refl _
    | exact dictumlaw01_heads.mono hk
    | exact dictumref01_Dec.mono hk _
    | exact dictumref01_Hex.mono hk _
    | exact dictumref01_Same.mono hk _ _
    | exact dictumref01_Undec.mono hk _ _
    | exact dictumref01_Unhex.mono hk _
    | exact octet_Hex.mono hk _
    | exact octet_Unhex.mono hk _
    | refine Le.bind ?_ fun x_ => ?_
    | refine Le.cond ?_ ?_
    | refine Le.nilc ?_ ?_
    | split
end Go.Proofs.YtaidlahjngmenaaDoor.X
