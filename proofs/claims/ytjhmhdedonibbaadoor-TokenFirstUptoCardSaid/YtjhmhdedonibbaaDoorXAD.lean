import Derived.Test.YtjhmhdedonibbaaDoorSxN
import Derived.Lib.ValidU
import Derived.Lib.AtoiAll
import Derived.Shelf.Strconv.Itoa3
import Derived.Shelf.Small.Utf8
import Derived.Shelf.Small.Strs
set_option maxRecDepth 20000
set_option linter.unusedVariables false
set_option linter.unusedSimpArgs false
set_option linter.unnecessarySimpa false
namespace Go.Proofs.YtjhmhdedonibbaaDoor.X
open Go Go.RowKit Go.Proofs.YtjhmhdedonibbaaDoor.SX
structure T_api_Spot where
  f_Line : Int
  f_Col : Int
  f_Off : Int

def T_api_Spot.rep : Rep T_api_Spot := Rep.iso (Rep.pair (Rep.int .i64) (Rep.pair (Rep.int .i64) (Rep.int .i64))) (fun x => (x.f_Line, x.f_Col, x.f_Off))
theorem T_api_Spot.opn {F : Nat → Prop} {w : World} {x : T_api_Spot} {cs : List Value} (h : T_api_Spot.rep.R F w x cs) : cs = [.int .i64 x.f_Line, .int .i64 x.f_Col, .int .i64 x.f_Off] := by
  obtain ⟨_, _, rfl, h0, ⟨_, _, rfl, h1, h2⟩⟩ := h
  have e0 : _ = [_] := h0
  subst e0
  have e1 : _ = [_] := h1
  subst e1
  have e2 : _ = [_] := h2
  subst e2
  rfl
theorem T_api_Spot.mk' {F : Nat → Prop} {w : World} (x : T_api_Spot)  : T_api_Spot.rep.R F w x [.int .i64 x.f_Line, .int .i64 x.f_Col, .int .i64 x.f_Off] :=
  ⟨[.int .i64 x.f_Line], [.int .i64 x.f_Col, .int .i64 x.f_Off], rfl, rfl, ⟨[.int .i64 x.f_Col], [.int .i64 x.f_Off], rfl, rfl, rfl⟩⟩

structure T_api_Token where
  f_Kind : Int
  f_Text : List UInt8
  f_Int : Int
  f_At : T_api_Spot

def T_api_Token.rep : Rep T_api_Token := Rep.iso (Rep.pair (Rep.int .i64) (Rep.pair Rep.str (Rep.pair (Rep.int .i64) T_api_Spot.rep))) (fun x => (x.f_Kind, x.f_Text, x.f_Int, x.f_At))
theorem T_api_Token.opn {F : Nat → Prop} {w : World} {x : T_api_Token} {cs : List Value} (h : T_api_Token.rep.R F w x cs) : cs = [.int .i64 x.f_Kind, encS x.f_Text, .int .i64 x.f_Int, .int .i64 x.f_At.f_Line, .int .i64 x.f_At.f_Col, .int .i64 x.f_At.f_Off] := by
  obtain ⟨_, _, rfl, h0, ⟨_, _, rfl, h1, ⟨_, _, rfl, h2, h3⟩⟩⟩ := h
  have e0 : _ = [_] := h0
  subst e0
  have e1 : _ = [_] := h1
  subst e1
  have e2 : _ = [_] := h2
  subst e2
  obtain ⟨rfl⟩ := T_api_Spot.opn h3
  rfl
theorem T_api_Token.mk' {F : Nat → Prop} {w : World} (x : T_api_Token)  : T_api_Token.rep.R F w x [.int .i64 x.f_Kind, encS x.f_Text, .int .i64 x.f_Int, .int .i64 x.f_At.f_Line, .int .i64 x.f_At.f_Col, .int .i64 x.f_At.f_Off] :=
  ⟨[.int .i64 x.f_Kind], [encS x.f_Text, .int .i64 x.f_Int, .int .i64 x.f_At.f_Line, .int .i64 x.f_At.f_Col, .int .i64 x.f_At.f_Off], rfl, rfl, ⟨[encS x.f_Text], [.int .i64 x.f_Int, .int .i64 x.f_At.f_Line, .int .i64 x.f_At.f_Col, .int .i64 x.f_At.f_Off], rfl, rfl, ⟨[.int .i64 x.f_Int], [.int .i64 x.f_At.f_Line, .int .i64 x.f_At.f_Col, .int .i64 x.f_At.f_Off], rfl, rfl, (T_api_Spot.mk' x.f_At )⟩⟩⟩

structure T_token_cursor where
  f_s : List UInt8
  f_at : T_api_Spot

def T_token_cursor.rep : Rep T_token_cursor := Rep.iso (Rep.pair Rep.str T_api_Spot.rep) (fun x => (x.f_s, x.f_at))
theorem T_token_cursor.opn {F : Nat → Prop} {w : World} {x : T_token_cursor} {cs : List Value} (h : T_token_cursor.rep.R F w x cs) : cs = [encS x.f_s, .int .i64 x.f_at.f_Line, .int .i64 x.f_at.f_Col, .int .i64 x.f_at.f_Off] := by
  obtain ⟨_, _, rfl, h0, h1⟩ := h
  have e0 : _ = [_] := h0
  subst e0
  obtain ⟨rfl⟩ := T_api_Spot.opn h1
  rfl
theorem T_token_cursor.mk' {F : Nat → Prop} {w : World} (x : T_token_cursor)  : T_token_cursor.rep.R F w x [encS x.f_s, .int .i64 x.f_at.f_Line, .int .i64 x.f_at.f_Col, .int .i64 x.f_at.f_Off] :=
  ⟨[encS x.f_s], [.int .i64 x.f_at.f_Line, .int .i64 x.f_at.f_Col, .int .i64 x.f_at.f_Off], rfl, rfl, (T_api_Spot.mk' x.f_at )⟩

structure T_api_Fault where
  f_Code : Int
  f_At : T_api_Spot

def T_api_Fault.rep : Rep T_api_Fault := Rep.iso (Rep.pair (Rep.int .i64) T_api_Spot.rep) (fun x => (x.f_Code, x.f_At))
theorem T_api_Fault.opn {F : Nat → Prop} {w : World} {x : T_api_Fault} {cs : List Value} (h : T_api_Fault.rep.R F w x cs) : cs = [.int .i64 x.f_Code, .int .i64 x.f_At.f_Line, .int .i64 x.f_At.f_Col, .int .i64 x.f_At.f_Off] := by
  obtain ⟨_, _, rfl, h0, h1⟩ := h
  have e0 : _ = [_] := h0
  subst e0
  obtain ⟨rfl⟩ := T_api_Spot.opn h1
  rfl
theorem T_api_Fault.mk' {F : Nat → Prop} {w : World} (x : T_api_Fault)  : T_api_Fault.rep.R F w x [.int .i64 x.f_Code, .int .i64 x.f_At.f_Line, .int .i64 x.f_At.f_Col, .int .i64 x.f_At.f_Off] :=
  ⟨[.int .i64 x.f_Code], [.int .i64 x.f_At.f_Line, .int .i64 x.f_At.f_Col, .int .i64 x.f_At.f_Off], rfl, rfl, (T_api_Spot.mk' x.f_At )⟩

def T_api_Spot.eqb (x y : T_api_Spot) : Bool := (x.f_Line == y.f_Line && (x.f_Col == y.f_Col && (x.f_Off == y.f_Off && true)))

def T_api_Fault.eqb (x y : T_api_Fault) : Bool := (x.f_Code == y.f_Code && (T_api_Spot.eqb x.f_At y.f_At && true))

def T_api_Token.eqb (x y : T_api_Token) : Bool := (x.f_Kind == y.f_Kind && (x.f_Text == y.f_Text && (x.f_Int == y.f_Int && (T_api_Spot.eqb x.f_At y.f_At && true))))

def T_api_Spot.bulk (x : T_api_Spot) : Nat := (bulk1 x.f_Line + (bulk1 x.f_Col + (bulk1 x.f_Off))) + 1
def T_api_Spot.ok (x : T_api_Spot) : Prop := (okI .i64) x.f_Line ∧ ((okI .i64) x.f_Col ∧ ((okI .i64) x.f_Off))

def T_api_Token.bulk (x : T_api_Token) : Nat := (bulk1 x.f_Kind + (bulkS x.f_Text + (bulk1 x.f_Int + (T_api_Spot.bulk x.f_At)))) + 1
def T_api_Token.ok (x : T_api_Token) : Prop := (okI .i64) x.f_Kind ∧ (okS x.f_Text ∧ ((okI .i64) x.f_Int ∧ (T_api_Spot.ok x.f_At)))

def T_token_cursor.bulk (x : T_token_cursor) : Nat := (bulkS x.f_s + (T_api_Spot.bulk x.f_at)) + 1
def T_token_cursor.ok (x : T_token_cursor) : Prop := okS x.f_s ∧ (T_api_Spot.ok x.f_at)

def T_api_Fault.bulk (x : T_api_Fault) : Nat := (bulk1 x.f_Code + (T_api_Spot.bulk x.f_At)) + 1
def T_api_Fault.ok (x : T_api_Fault) : Prop := (okI .i64) x.f_Code ∧ (T_api_Spot.ok x.f_At)

def utf8_DecodeRuneInString.f (a0 : List UInt8) : Option (Int × Int) := some (((Lib.decodeGo ⟨a0.toArray⟩).1 : Int), ((Lib.decodeGo ⟨a0.toArray⟩).2 : Int))
def strings_IndexByte.f (a0 : List UInt8) (a1 : UInt8) : Option Int := some (Lib.indexByte a0 a1)
def atoiF (a0 : List UInt8) : Int × Bool := match Lib.atoiAll a0 with | .ok v => (v, false) | .range => (Lib.atoiSat a0, true) | _ => (0, true)
def strconv_Atoi.f (a0 : List UInt8) : Option (Int × Bool) := (chk (decide (a0.length ≤ 281474976710656))).bind fun _ => some (atoiF a0)
def strconv_Itoa.f (a0 : Int) : Option (List UInt8) := (chk (decide (-9223372036854775808 ≤ a0) && decide (a0 ≤ 9223372036854775807))).bind fun _ => some (Lib.itoa a0)
def Builder_Grow.f (a1 : Int) : Option (List UInt8) := (chk (decide (0 ≤ a1) && decide (a1 ≤ 281474976710656))).bind fun _ => some []
def Builder_WriteString.f (a0 : List UInt8) (a1 : List UInt8) : Option (Int × List UInt8) := (chk (decide ((a0.length + a1.length) * 1 ≤ 140737488355328))).bind fun _ => some ((a1.length : Int), a0 ++ a1)
def Builder_String.f (a0 : List UInt8) : Option (List UInt8) := (chk (decide (a0.length ≤ 9223372036854775807))).bind fun _ => some a0
/-! ### token_cursor_here: function 27 -/
def token_cursor_here.f (a0 : T_token_cursor) : Option ((List UInt8)) :=
  (cut a0.f_s a0.f_at.f_Off (a0.f_s.length : Int)).bind fun y103 =>
  some y103

/-! ### token_cursor_skip: function 29 -/
def token_cursor_skip.l1 (k : Nat) (a0 : T_token_cursor) (a1 : Int) : Nat → T_token_cursor → Option (T_token_cursor)
  | 0, _ => none
  | kk + 1, x101 =>
    (bif (decide (x101.f_at.f_Off < (wrap64 (a0.f_at.f_Off + a1)))) then
    (token_cursor_here.f x101).bind fun z111 =>
    (utf8_DecodeRuneInString.f z111).bind fun z115 =>
    ((ix x101.f_s x101.f_at.f_Off).bind fun x134 =>
    (bif (x134 == (10 : UInt8)) then
    some (⟨x101.f_s, (⟨wrap64 (x101.f_at.f_Line + 1), 0, x101.f_at.f_Off⟩ : T_api_Spot)⟩ : T_token_cursor)
    else
    some x101) : Option (T_token_cursor)).bind fun z120 =>
    token_cursor_skip.l1 k a0 a1 kk (⟨z120.f_s, (⟨z120.f_at.f_Line, wrap64 (z120.f_at.f_Col + 1), wrap64 (z120.f_at.f_Off + z115.2)⟩ : T_api_Spot)⟩ : T_token_cursor)
    else
    some x101)
def token_cursor_skip.f (k : Nat) (a0 : T_token_cursor) (a1 : Int) : Option (T_token_cursor) :=
  (token_cursor_skip.l1 k a0 a1 k a0).bind fun z103 =>
  some z103
theorem token_cursor_skip.l1.mono {k k' : Nat} (hk : k ≤ k') (a0 : T_token_cursor) (a1 : Int) : ∀ (n n' : Nat) (hn : n ≤ n') y0, Le (token_cursor_skip.l1 k a0 a1 n y0) (token_cursor_skip.l1 k' a0 a1 n' y0) := by
  intro n
  induction n with
  | zero => intro n' hn y0; exact Le.none _
  | succ n ih =>
    intro n' hn y0
    obtain ⟨n', rfl⟩ : ∃ m, n' = m + 1 := ⟨n' - 1, by omega⟩
    have hn' : n ≤ n' := by omega
    rw [token_cursor_skip.l1.eq_2, token_cursor_skip.l1.eq_2]
    repeat' first
      | exact Le.refl _
      | exact ih n' hn' _
      | refine Le.bind ?_ fun x_ => ?_
      | refine Le.cond ?_ ?_
      | refine Le.nilc ?_ ?_
      | split
theorem token_cursor_skip.mono {k k' : Nat} (hk : k ≤ k') (a0 : T_token_cursor) (a1 : Int) : Le (token_cursor_skip.f k a0 a1) (token_cursor_skip.f k' a0 a1) := by
  unfold token_cursor_skip.f
  repeat' first
    | exact Le.refl _
    | exact token_cursor_skip.l1.mono hk _ _ _ _ hk _
    | refine Le.bind ?_ fun x_ => ?_
    | refine Le.cond ?_ ?_
    | refine Le.nilc ?_ ?_
    | split

/-! ### token_cursor_space: function 26 -/
def token_cursor_space.l1 (k : Nat) : Nat → (List UInt8) → T_token_cursor → Option (T_token_cursor)
  | 0, _, _ => none
  | kk + 1, x105, x106 =>
    (bif (!(x105 == ([] : List UInt8))) then
    (ix x105 (0 : Int)).bind fun x116 =>
    ((bif (x116 == (32 : UInt8)) then
    some (x116 == (32 : UInt8))
    else
    (bif (x116 == (9 : UInt8)) then
    some (x116 == (9 : UInt8))
    else
    (bif (x116 == (10 : UInt8)) then
    some (x116 == (10 : UInt8))
    else
    some (x116 == (13 : UInt8))))) : Option (Bool)).bind fun z118 =>
    (bif z118 then
    (token_cursor_skip.f k x106 1).bind fun z124 =>
    (token_cursor_here.f z124).bind fun z129 =>
    token_cursor_space.l1 k kk z129 z124
    else
    (bif (x116 == (35 : UInt8)) then
    (strings_IndexByte.f x105 (10 : UInt8)).bind fun z134 =>
    ((bif (decide (z134 < 0)) then
    some (x105.length : Int)
    else
    some z134) : Option (Int)).bind fun z139 =>
    (token_cursor_skip.f k x106 z139).bind fun z144 =>
    (token_cursor_here.f z144).bind fun z149 =>
    token_cursor_space.l1 k kk z149 z144
    else
    some x106))
    else
    some x106)
def token_cursor_space.f (k : Nat) (a0 : T_token_cursor) : Option (T_token_cursor) :=
  (token_cursor_here.f a0).bind fun z101 =>
  (token_cursor_space.l1 k k z101 a0).bind fun z108 =>
  some z108
theorem token_cursor_space.l1.mono {k k' : Nat} (hk : k ≤ k') : ∀ (n n' : Nat) (hn : n ≤ n') y0 y1, Le (token_cursor_space.l1 k n y0 y1) (token_cursor_space.l1 k' n' y0 y1) := by
  intro n
  induction n with
  | zero => intro n' hn y0 y1; exact Le.none _
  | succ n ih =>
    intro n' hn y0 y1
    obtain ⟨n', rfl⟩ : ∃ m, n' = m + 1 := ⟨n' - 1, by omega⟩
    have hn' : n ≤ n' := by omega
    rw [token_cursor_space.l1.eq_2, token_cursor_space.l1.eq_2]
    repeat' first
      | exact Le.refl _
      | exact token_cursor_skip.mono hk _ _
      | exact ih n' hn' _ _
      | refine Le.bind ?_ fun x_ => ?_
      | refine Le.cond ?_ ?_
      | refine Le.nilc ?_ ?_
      | split
theorem token_cursor_space.mono {k k' : Nat} (hk : k ≤ k') (a0 : T_token_cursor) : Le (token_cursor_space.f k a0) (token_cursor_space.f k' a0) := by
  unfold token_cursor_space.f
  repeat' first
    | exact Le.refl _
    | exact token_cursor_skip.mono hk _ _
    | exact token_cursor_space.l1.mono hk _ _ hk _ _
    | refine Le.bind ?_ fun x_ => ?_
    | refine Le.cond ?_ ?_
    | refine Le.nilc ?_ ?_
    | split

/-! ### token_letter: function 38 -/
def token_letter.f (a0 : UInt8) : Option (Bool) :=
  (bif (decide ((97 : UInt8) ≤ (a0 ||| (32 : UInt8)))) then
  (bif (decide ((a0 ||| (32 : UInt8)) ≤ (122 : UInt8))) then
  some true
  else
  some (a0 == (95 : UInt8)))
  else
  some (a0 == (95 : UInt8)))

/-! ### token_digit: function 41 -/
def token_digit.f (a0 : UInt8) : Option (Bool) :=
  (bif (decide ((48 : UInt8) ≤ a0)) then
  some (decide (a0 ≤ (57 : UInt8)))
  else
  some false)

/-! ### token_tail: function 40 -/
def token_tail.f (a0 : UInt8) : Option (Bool) :=
  (token_letter.f a0).bind fun z101 =>
  (bif z101 then
  some true
  else
  (token_digit.f a0).bind fun z106 =>
  (bif z106 then
  some true
  else
  some (a0 == (39 : UInt8))))

/-! ### token_run_token_tail: function 39 -/
def token_run_token_tail.l1 (k : Nat) (a0 : List UInt8) : Nat → Int → Option (Int)
  | 0, _ => none
  | kk + 1, x101 =>
    ((bif (decide (x101 < (a0.length : Int))) then
    (ix a0 x101).bind fun x119 =>
    (token_tail.f x119).bind fun z120 =>
    some z120
    else
    some false) : Option (Bool)).bind fun z111 =>
    (bif z111 then
    token_run_token_tail.l1 k a0 kk (wrap64 (x101 + 1))
    else
    some x101)
def token_run_token_tail.f (k : Nat) (a0 : List UInt8) : Option (Int) :=
  (token_run_token_tail.l1 k a0 k 0).bind fun z103 =>
  some z103
theorem token_run_token_tail.l1.mono {k k' : Nat} (hk : k ≤ k') (a0 : List UInt8) : ∀ (n n' : Nat) (hn : n ≤ n') y0, Le (token_run_token_tail.l1 k a0 n y0) (token_run_token_tail.l1 k' a0 n' y0) := by
  intro n
  induction n with
  | zero => intro n' hn y0; exact Le.none _
  | succ n ih =>
    intro n' hn y0
    obtain ⟨n', rfl⟩ : ∃ m, n' = m + 1 := ⟨n' - 1, by omega⟩
    have hn' : n ≤ n' := by omega
    rw [token_run_token_tail.l1.eq_2, token_run_token_tail.l1.eq_2]
    repeat' first
      | exact Le.refl _
      | exact ih n' hn' _
      | refine Le.bind ?_ fun x_ => ?_
      | refine Le.cond ?_ ?_
      | refine Le.nilc ?_ ?_
      | split
theorem token_run_token_tail.mono {k k' : Nat} (hk : k ≤ k') (a0 : List UInt8) : Le (token_run_token_tail.f k a0) (token_run_token_tail.f k' a0) := by
  unfold token_run_token_tail.f
  repeat' first
    | exact Le.refl _
    | exact token_run_token_tail.l1.mono hk _ _ _ hk _
    | refine Le.bind ?_ fun x_ => ?_
    | refine Le.cond ?_ ?_
    | refine Le.nilc ?_ ?_
    | split

/-! ### token_run_token_digit: function 39 -/
def token_run_token_digit.l1 (k : Nat) (a0 : List UInt8) : Nat → Int → Option (Int)
  | 0, _ => none
  | kk + 1, x101 =>
    ((bif (decide (x101 < (a0.length : Int))) then
    (ix a0 x101).bind fun x119 =>
    (token_digit.f x119).bind fun z120 =>
    some z120
    else
    some false) : Option (Bool)).bind fun z111 =>
    (bif z111 then
    token_run_token_digit.l1 k a0 kk (wrap64 (x101 + 1))
    else
    some x101)
def token_run_token_digit.f (k : Nat) (a0 : List UInt8) : Option (Int) :=
  (token_run_token_digit.l1 k a0 k 0).bind fun z103 =>
  some z103
theorem token_run_token_digit.l1.mono {k k' : Nat} (hk : k ≤ k') (a0 : List UInt8) : ∀ (n n' : Nat) (hn : n ≤ n') y0, Le (token_run_token_digit.l1 k a0 n y0) (token_run_token_digit.l1 k' a0 n' y0) := by
  intro n
  induction n with
  | zero => intro n' hn y0; exact Le.none _
  | succ n ih =>
    intro n' hn y0
    obtain ⟨n', rfl⟩ : ∃ m, n' = m + 1 := ⟨n' - 1, by omega⟩
    have hn' : n ≤ n' := by omega
    rw [token_run_token_digit.l1.eq_2, token_run_token_digit.l1.eq_2]
    repeat' first
      | exact Le.refl _
      | exact ih n' hn' _
      | refine Le.bind ?_ fun x_ => ?_
      | refine Le.cond ?_ ?_
      | refine Le.nilc ?_ ?_
      | split
theorem token_run_token_digit.mono {k k' : Nat} (hk : k ≤ k') (a0 : List UInt8) : Le (token_run_token_digit.f k a0) (token_run_token_digit.f k' a0) := by
  unfold token_run_token_digit.f
  repeat' first
    | exact Le.refl _
    | exact token_run_token_digit.l1.mono hk _ _ _ hk _
    | refine Le.bind ?_ fun x_ => ?_
    | refine Le.cond ?_ ?_
    | refine Le.nilc ?_ ?_
    | split

/-! ### stringslite_HasPrefix: function 59 -/
def stringslite_HasPrefix.f (a0 : List UInt8) (a1 : List UInt8) : Option (Bool) :=
  (bif (decide ((a0.length : Int) ≥ (a1.length : Int))) then
  (cut a0 0 (a1.length : Int)).bind fun y102 =>
  some (y102 == a1)
  else
  some false)

/-! ### strings_HasPrefix: function 49 -/
def strings_HasPrefix.f (a0 : List UInt8) (a1 : List UInt8) : Option (Bool) :=
  (stringslite_HasPrefix.f a0 a1).bind fun z101 =>
  some z101

/-! ### token_sign: function 33 -/
def token_sign.l1 (k : Nat) (a0 : List UInt8) : Nat → Int → Option (Sum ((List UInt8) × Int) (Unit))
  | 0, _ => none
  | kk + 1, x101 =>
    (bif (decide (x101 < 20)) then
    (ix ([([60, 45, 62] : List UInt8), ([60, 61] : List UInt8), ([61, 62] : List UInt8), ([45, 62] : List UInt8), ([124, 45] : List UInt8), ([126] : List UInt8), ([38] : List UInt8), ([124] : List UInt8), ([40] : List UInt8), ([41] : List UInt8), ([91] : List UInt8), ([93] : List UInt8), ([123] : List UInt8), ([125] : List UInt8), ([44] : List UInt8), ([46] : List UInt8), ([58] : List UInt8), ([59] : List UInt8), ([61] : List UInt8), ([47] : List UInt8)] : List (List UInt8)) x101).bind fun x110 =>
    (strings_HasPrefix.f a0 x110).bind fun z111 =>
    (bif z111 then
    some (.inl (x110, (x110.length : Int)))
    else
    token_sign.l1 k a0 kk (wrap64 (x101 + 1)))
    else
    some (.inr ()))
def token_sign.f (k : Nat) (a0 : List UInt8) : Option ((List UInt8) × Int) :=
  (token_sign.l1 k a0 k 0).bind fun z102 => match z102 with
  | .inl r_ => some r_
  | .inr _ =>
  (utf8_DecodeRuneInString.f a0).bind fun z119 =>
  (bif (z119.1 == 172) then
  some (([126] : List UInt8), z119.2)
  else
  (bif (z119.1 == 8743) then
  some (([38] : List UInt8), z119.2)
  else
  (bif (z119.1 == 8744) then
  some (([124] : List UInt8), z119.2)
  else
  (bif (z119.1 == 8594) then
  some (([45, 62] : List UInt8), z119.2)
  else
  (bif (z119.1 == 8596) then
  some (([60, 45, 62] : List UInt8), z119.2)
  else
  (bif (z119.1 == 8866) then
  some (([124, 45] : List UInt8), z119.2)
  else
  (bif (z119.1 == 8804) then
  some (([60, 61] : List UInt8), z119.2)
  else
  some (([] : List UInt8), 0))))))))
theorem token_sign.l1.mono {k k' : Nat} (hk : k ≤ k') (a0 : List UInt8) : ∀ (n n' : Nat) (hn : n ≤ n') y0, Le (token_sign.l1 k a0 n y0) (token_sign.l1 k' a0 n' y0) := by
  intro n
  induction n with
  | zero => intro n' hn y0; exact Le.none _
  | succ n ih =>
    intro n' hn y0
    obtain ⟨n', rfl⟩ : ∃ m, n' = m + 1 := ⟨n' - 1, by omega⟩
    have hn' : n ≤ n' := by omega
    rw [token_sign.l1.eq_2, token_sign.l1.eq_2]
    repeat' first
      | exact Le.refl _
      | exact ih n' hn' _
      | refine Le.bind ?_ fun x_ => ?_
      | refine Le.cond ?_ ?_
      | refine Le.nilc ?_ ?_
      | split
theorem token_sign.mono {k k' : Nat} (hk : k ≤ k') (a0 : List UInt8) : Le (token_sign.f k a0) (token_sign.f k' a0) := by
  unfold token_sign.f
  repeat' first
    | exact Le.refl _
    | exact token_sign.l1.mono hk _ _ _ hk _
    | refine Le.bind ?_ fun x_ => ?_
    | refine Le.cond ?_ ?_
    | refine Le.nilc ?_ ?_
    | split

/-! ### token_word: function 28 -/
def token_word.f (k : Nat) (a0 : List UInt8) : Option (T_api_Token × Int × Int) :=
  (ix a0 (0 : Int)).bind fun x106 =>
  (token_letter.f x106).bind fun z107 =>
  (bif z107 then
  (token_run_token_tail.f k a0).bind fun z112 =>
  (bif (decide (z112 > 31)) then
  some ((⟨(0 : Int), ([] : List UInt8), (0 : Int), (⟨(0 : Int), (0 : Int), (0 : Int)⟩ : T_api_Spot)⟩ : T_api_Token), 0, 22)
  else
  (cut a0 0 z112).bind fun y120 =>
  some ((⟨1, y120, (0 : Int), (⟨(0 : Int), (0 : Int), (0 : Int)⟩ : T_api_Spot)⟩ : T_api_Token), z112, 0))
  else
  (ix a0 (0 : Int)).bind fun x124 =>
  (token_digit.f x124).bind fun z125 =>
  (bif z125 then
  (token_run_token_digit.f k a0).bind fun z130 =>
  (cut a0 0 z130).bind fun y134 =>
  (strconv_Atoi.f y134).bind fun z135 =>
  ((bif (decide (z130 > 1)) then
  (ix a0 (0 : Int)).bind fun x156 =>
  (bif (x156 == (48 : UInt8)) then
  some true
  else
  (bif z135.2 then
  some true
  else
  (bif (decide (z135.1 > 999999999)) then
  some true
  else
  (bif (decide (z130 < (a0.length : Int))) then
  (ix a0 z130).bind fun x161 =>
  (token_tail.f x161).bind fun z162 =>
  some z162
  else
  some false))))
  else
  (bif z135.2 then
  some true
  else
  (bif (decide (z135.1 > 999999999)) then
  some true
  else
  (bif (decide (z130 < (a0.length : Int))) then
  (ix a0 z130).bind fun x169 =>
  (token_tail.f x169).bind fun z170 =>
  some z170
  else
  some false)))) : Option (Bool)).bind fun z142 =>
  (bif z142 then
  some ((⟨(0 : Int), ([] : List UInt8), (0 : Int), (⟨(0 : Int), (0 : Int), (0 : Int)⟩ : T_api_Spot)⟩ : T_api_Token), 0, 21)
  else
  some ((⟨2, ([] : List UInt8), z135.1, (⟨(0 : Int), (0 : Int), (0 : Int)⟩ : T_api_Spot)⟩ : T_api_Token), z130, 0))
  else
  (utf8_DecodeRuneInString.f a0).bind fun z174 =>
  (bif (z174.1 == 8868) then
  some ((⟨1, ([116, 114, 117, 101] : List UInt8), (0 : Int), (⟨(0 : Int), (0 : Int), (0 : Int)⟩ : T_api_Spot)⟩ : T_api_Token), z174.2, 0)
  else
  (bif (z174.1 == 8869) then
  some ((⟨1, ([102, 97, 108, 115, 101] : List UInt8), (0 : Int), (⟨(0 : Int), (0 : Int), (0 : Int)⟩ : T_api_Spot)⟩ : T_api_Token), z174.2, 0)
  else
  (token_sign.f k a0).bind fun z186 =>
  (bif (z186.2 == 0) then
  some ((⟨(0 : Int), ([] : List UInt8), (0 : Int), (⟨(0 : Int), (0 : Int), (0 : Int)⟩ : T_api_Spot)⟩ : T_api_Token), 0, 20)
  else
  some ((⟨3, z186.1, (0 : Int), (⟨(0 : Int), (0 : Int), (0 : Int)⟩ : T_api_Spot)⟩ : T_api_Token), z186.2, 0))))))
theorem token_word.mono {k k' : Nat} (hk : k ≤ k') (a0 : List UInt8) : Le (token_word.f k a0) (token_word.f k' a0) := by
  unfold token_word.f
  repeat' first
    | exact Le.refl _
    | exact token_run_token_digit.mono hk _
    | exact token_run_token_tail.mono hk _
    | exact token_sign.mono hk _
    | refine Le.bind ?_ fun x_ => ?_
    | refine Le.cond ?_ ?_
    | refine Le.nilc ?_ ?_
    | split

/-! ### token_Scan: function 14 -/
def token_Scan.l1 (k : Nat) : Nat → (List T_api_Token) → T_token_cursor → Option (Sum ((List T_api_Token) × T_api_Fault) (Unit))
  | 0, _, _ => none
  | kk + 1, x113, x114 =>
    (token_cursor_space.f k x114).bind fun z122 =>
    (token_cursor_here.f z122).bind fun z127 =>
    (bif (z127 == ([] : List UInt8)) then
    (chk (decide ((x113.length + ([(⟨(0 : Int), ([] : List UInt8), (0 : Int), (⟨z122.f_at.f_Line, z122.f_at.f_Col, z122.f_at.f_Off⟩ : T_api_Spot)⟩ : T_api_Token)]).length) * 56 ≤ 140737488355328))).bind fun _ =>
    some (.inl ((x113 ++ [(⟨(0 : Int), ([] : List UInt8), (0 : Int), (⟨z122.f_at.f_Line, z122.f_at.f_Col, z122.f_at.f_Off⟩ : T_api_Spot)⟩ : T_api_Token)]), (⟨(0 : Int), (⟨(0 : Int), (0 : Int), (0 : Int)⟩ : T_api_Spot)⟩ : T_api_Fault)))
    else
    (token_cursor_here.f z122).bind fun z149 =>
    (token_word.f k z149).bind fun z153 =>
    (bif (z153.2.2 != 0) then
    some (.inl (([] : List T_api_Token), (⟨z153.2.2, (⟨z122.f_at.f_Line, z122.f_at.f_Col, z122.f_at.f_Off⟩ : T_api_Spot)⟩ : T_api_Fault)))
    else
    (chk (decide ((x113.length + [(⟨z153.1.f_Kind, z153.1.f_Text, z153.1.f_Int, (⟨z122.f_at.f_Line, z122.f_at.f_Col, z122.f_at.f_Off⟩ : T_api_Spot)⟩ : T_api_Token)].length) * 56 ≤ 140737488355328))).bind fun _ =>
    (token_cursor_skip.f k z122 z153.2.1).bind fun z188 =>
    token_Scan.l1 k kk (x113 ++ [(⟨z153.1.f_Kind, z153.1.f_Text, z153.1.f_Int, (⟨z122.f_at.f_Line, z122.f_at.f_Col, z122.f_at.f_Off⟩ : T_api_Spot)⟩ : T_api_Token)]) z188))
def token_Scan.f (k : Nat) (a0 : List UInt8) : Option ((List T_api_Token) × T_api_Fault) :=
  (token_Scan.l1 k k ([] : List T_api_Token) (⟨a0, (⟨1, 1, (0 : Int)⟩ : T_api_Spot)⟩ : T_token_cursor)).bind fun z115 => match z115 with
  | .inl r_ => some r_
  | .inr _ =>
  none
theorem token_Scan.l1.mono {k k' : Nat} (hk : k ≤ k') : ∀ (n n' : Nat) (hn : n ≤ n') y0 y1, Le (token_Scan.l1 k n y0 y1) (token_Scan.l1 k' n' y0 y1) := by
  intro n
  induction n with
  | zero => intro n' hn y0 y1; exact Le.none _
  | succ n ih =>
    intro n' hn y0 y1
    obtain ⟨n', rfl⟩ : ∃ m, n' = m + 1 := ⟨n' - 1, by omega⟩
    have hn' : n ≤ n' := by omega
    rw [token_Scan.l1.eq_2, token_Scan.l1.eq_2]
    repeat' first
      | exact Le.refl _
      | exact token_cursor_skip.mono hk _ _
      | exact token_cursor_space.mono hk _
      | exact token_word.mono hk _
      | exact ih n' hn' _ _
      | refine Le.bind ?_ fun x_ => ?_
      | refine Le.cond ?_ ?_
      | refine Le.nilc ?_ ?_
      | split
theorem token_Scan.mono {k k' : Nat} (hk : k ≤ k') (a0 : List UInt8) : Le (token_Scan.f k a0) (token_Scan.f k' a0) := by
  unfold token_Scan.f
  repeat' first
    | exact Le.refl _
    | exact token_cursor_skip.mono hk _ _
    | exact token_cursor_space.mono hk _
    | exact token_word.mono hk _
    | exact token_Scan.l1.mono hk _ _ hk _ _
    | refine Le.bind ?_ fun x_ => ?_
    | refine Le.cond ?_ ?_
    | refine Le.nilc ?_ ?_
    | split

/-! ### token_Name: function 11 -/
def token_Name.f (k : Nat) (a0 : List UInt8) : Option (Bool) :=
  (token_Scan.f k a0).bind fun z101 =>
  (bif (T_api_Fault.eqb z101.2 (⟨(0 : Int), (⟨(0 : Int), (0 : Int), (0 : Int)⟩ : T_api_Spot)⟩ : T_api_Fault)) then
  (bif ((z101.1.length : Int) == 2) then
  (ix z101.1 (0 : Int)).bind fun x120 =>
  (bif (x120.f_Kind == 1) then
  (ix z101.1 (0 : Int)).bind fun x134 =>
  some (x134.f_Text == a0)
  else
  some false)
  else
  some false)
  else
  some false)
theorem token_Name.mono {k k' : Nat} (hk : k ≤ k') (a0 : List UInt8) : Le (token_Name.f k a0) (token_Name.f k' a0) := by
  unfold token_Name.f
  repeat' first
    | exact Le.refl _
    | exact token_Scan.mono hk _
    | refine Le.bind ?_ fun x_ => ?_
    | refine Le.cond ?_ ?_
    | refine Le.nilc ?_ ?_
    | split

/-! ### token_Write: function 17 -/
def token_Write.f (k : Nat) (a0 : T_api_Token) : Option ((List UInt8) × Int) :=
  (bif (T_api_Token.eqb (⟨a0.f_Kind, a0.f_Text, a0.f_Int, (⟨(0 : Int), (0 : Int), (0 : Int)⟩ : T_api_Spot)⟩ : T_api_Token) (⟨(0 : Int), ([] : List UInt8), (0 : Int), (⟨(0 : Int), (0 : Int), (0 : Int)⟩ : T_api_Spot)⟩ : T_api_Token)) then
  some (([] : List UInt8), 0)
  else
  (bif (T_api_Token.eqb (⟨a0.f_Kind, a0.f_Text, a0.f_Int, (⟨(0 : Int), (0 : Int), (0 : Int)⟩ : T_api_Spot)⟩ : T_api_Token) (⟨1, a0.f_Text, (0 : Int), (⟨(0 : Int), (0 : Int), (0 : Int)⟩ : T_api_Spot)⟩ : T_api_Token)) then
  (token_Name.f k a0.f_Text).bind fun z111 =>
  (bif z111 then
  some (a0.f_Text, 0)
  else
  some (([] : List UInt8), 2))
  else
  (bif (T_api_Token.eqb (⟨a0.f_Kind, a0.f_Text, a0.f_Int, (⟨(0 : Int), (0 : Int), (0 : Int)⟩ : T_api_Spot)⟩ : T_api_Token) (⟨2, ([] : List UInt8), a0.f_Int, (⟨(0 : Int), (0 : Int), (0 : Int)⟩ : T_api_Spot)⟩ : T_api_Token)) then
  ((bif (decide (a0.f_Int ≥ 0)) then
  some (decide (a0.f_Int ≤ 999999999))
  else
  some false) : Option (Bool)).bind fun z118 =>
  (bif z118 then
  (strconv_Itoa.f a0.f_Int).bind fun z124 =>
  some (z124, 0)
  else
  some (([] : List UInt8), 2))
  else
  (bif (T_api_Token.eqb (⟨a0.f_Kind, a0.f_Text, a0.f_Int, (⟨(0 : Int), (0 : Int), (0 : Int)⟩ : T_api_Spot)⟩ : T_api_Token) (⟨3, a0.f_Text, (0 : Int), (⟨(0 : Int), (0 : Int), (0 : Int)⟩ : T_api_Spot)⟩ : T_api_Token)) then
  (token_sign.f k a0.f_Text).bind fun z131 =>
  ((bif (decide (z131.2 > 0)) then
  some (z131.1 == a0.f_Text)
  else
  some false) : Option (Bool)).bind fun z136 =>
  (bif z136 then
  some (z131.1, 0)
  else
  some (([] : List UInt8), 2))
  else
  some (([] : List UInt8), 2)))))
theorem token_Write.mono {k k' : Nat} (hk : k ≤ k') (a0 : T_api_Token) : Le (token_Write.f k a0) (token_Write.f k' a0) := by
  unfold token_Write.f
  repeat' first
    | exact Le.refl _
    | exact token_Name.mono hk _
    | exact token_sign.mono hk _
    | refine Le.bind ?_ fun x_ => ?_
    | refine Le.cond ?_ ?_
    | refine Le.nilc ?_ ?_
    | split

/-! ### strings_Join: function 34 -/
def strings_Join.l1 (k : Nat) (a0 : (List (List UInt8))) : Nat → Int → Int → Option (Int)
  | 0, _, _ => none
  | kk + 1, x116, x117 =>
    (bif (decide (x117 < (a0.length : Int))) then
    (ix a0 x117).bind fun x127 =>
    (bif (decide ((x127.length : Int) > (wrap64 (9223372036854775807 - x116)))) then
    none
    else
    strings_Join.l1 k a0 kk (wrap64 (x116 + (x127.length : Int))) (wrap64 (x117 + 1)))
    else
    some x116)
def strings_Join.l2 (k : Nat) (a1 : List UInt8) (y161 : (List (List UInt8))) : Nat → Int → (List UInt8) → Option ((List UInt8))
  | 0, _, _ => none
  | kk + 1, x168, x169 =>
    (bif (decide (x168 < (y161.length : Int))) then
    (ix y161 x168).bind fun x179 =>
    (Builder_WriteString.f x169 a1).bind fun z186 =>
    (Builder_WriteString.f z186.2 x179).bind fun z191 =>
    strings_Join.l2 k a1 y161 kk (wrap64 (x168 + 1)) z191.2
    else
    some x169)
def strings_Join.f (k : Nat) (a0 : (List (List UInt8))) (a1 : List UInt8) : Option ((List UInt8)) :=
  (bif ((a0.length : Int) == 0) then
  some ([] : List UInt8)
  else
  (bif ((a0.length : Int) == 1) then
  (ix a0 (0 : Int)).bind fun x103 =>
  some x103
  else
  ((bif (decide ((a1.length : Int) > 0)) then
  (chk (!((wrap64 ((a0.length : Int) - 1)) == 0))).bind fun _ =>
  (bif (decide ((a1.length : Int) ≥ (wrap64 ((9223372036854775807 : Int).tdiv (wrap64 ((a0.length : Int) - 1)))))) then
  none
  else
  some (wrap64 (0 + (wrap64 ((a1.length : Int) * (wrap64 ((a0.length : Int) - 1)))))))
  else
  some 0) : Option (Int)).bind fun z111 =>
  (strings_Join.l1 k a0 k z111 0).bind fun z119 =>
  (Builder_Grow.f z119).bind fun z144 =>
  (ix a0 (0 : Int)).bind fun x149 =>
  (Builder_WriteString.f z144 x149).bind fun z156 =>
  (cut a0 1 (a0.length : Int)).bind fun y161 =>
  (strings_Join.l2 k a1 y161 k 0 z156.2).bind fun z171 =>
  (Builder_String.f z171).bind fun z199 =>
  some z199))
theorem strings_Join.l1.mono {k k' : Nat} (hk : k ≤ k') (a0 : (List (List UInt8))) : ∀ (n n' : Nat) (hn : n ≤ n') y0 y1, Le (strings_Join.l1 k a0 n y0 y1) (strings_Join.l1 k' a0 n' y0 y1) := by
  intro n
  induction n with
  | zero => intro n' hn y0 y1; exact Le.none _
  | succ n ih =>
    intro n' hn y0 y1
    obtain ⟨n', rfl⟩ : ∃ m, n' = m + 1 := ⟨n' - 1, by omega⟩
    have hn' : n ≤ n' := by omega
    rw [strings_Join.l1.eq_2, strings_Join.l1.eq_2]
    repeat' first
      | exact Le.refl _
      | exact ih n' hn' _ _
      | refine Le.bind ?_ fun x_ => ?_
      | refine Le.cond ?_ ?_
      | refine Le.nilc ?_ ?_
      | split
theorem strings_Join.l2.mono {k k' : Nat} (hk : k ≤ k') (a1 : List UInt8) (y161 : (List (List UInt8))) : ∀ (n n' : Nat) (hn : n ≤ n') y0 y1, Le (strings_Join.l2 k a1 y161 n y0 y1) (strings_Join.l2 k' a1 y161 n' y0 y1) := by
  intro n
  induction n with
  | zero => intro n' hn y0 y1; exact Le.none _
  | succ n ih =>
    intro n' hn y0 y1
    obtain ⟨n', rfl⟩ : ∃ m, n' = m + 1 := ⟨n' - 1, by omega⟩
    have hn' : n ≤ n' := by omega
    rw [strings_Join.l2.eq_2, strings_Join.l2.eq_2]
    repeat' first
      | exact Le.refl _
      | exact strings_Join.l1.mono hk _ _ _ hk _ _
      | exact strings_Join.l1.mono hk _ _ _ hn' _ _
      | exact ih n' hn' _ _
      | refine Le.bind ?_ fun x_ => ?_
      | refine Le.cond ?_ ?_
      | refine Le.nilc ?_ ?_
      | split
theorem strings_Join.mono {k k' : Nat} (hk : k ≤ k') (a0 : (List (List UInt8))) (a1 : List UInt8) : Le (strings_Join.f k a0 a1) (strings_Join.f k' a0 a1) := by
  unfold strings_Join.f
  repeat' first
    | exact Le.refl _
    | exact strings_Join.l1.mono hk _ _ _ hk _ _
    | exact strings_Join.l2.mono hk _ _ _ _ hk _ _
    | refine Le.bind ?_ fun x_ => ?_
    | refine Le.cond ?_ ?_
    | refine Le.nilc ?_ ?_
    | split

/-! ### token_Join: function 19 -/
def token_Join.l1 (k : Nat) (a0 : (List T_api_Token)) : Nat → (List (List UInt8)) → Int → Option (Sum ((List UInt8) × Int) ((List (List UInt8))))
  | 0, _, _ => none
  | kk + 1, x103, x104 =>
    (bif (decide (x104 < (a0.length : Int))) then
    (ix a0 x104).bind fun x116 =>
    (token_Write.f k x116).bind fun z134 =>
    ((bif (z134.2 != 0) then
    some true
    else
    (bif (x116.f_Kind == 0) then
    some (decide (x104 < (wrap64 ((a0.length : Int) - 1))))
    else
    some false)) : Option (Bool)).bind fun z139 =>
    (bif z139 then
    some (.inl (([] : List UInt8), 2))
    else
    (chk (decide ((x103.length + [z134.1].length) * 16 ≤ 140737488355328))).bind fun _ =>
    token_Join.l1 k a0 kk (x103 ++ [z134.1]) (wrap64 (x104 + 1)))
    else
    some (.inr x103))
def token_Join.f (k : Nat) (a0 : (List T_api_Token)) : Option ((List UInt8) × Int) :=
  (token_Join.l1 k a0 k ([] : List (List UInt8)) 0).bind fun z108 => match z108 with
  | .inl r_ => some r_
  | .inr x107 =>
  (strings_Join.f k x107 ([32] : List UInt8)).bind fun z168 =>
  some (z168, 0)
theorem token_Join.l1.mono {k k' : Nat} (hk : k ≤ k') (a0 : (List T_api_Token)) : ∀ (n n' : Nat) (hn : n ≤ n') y0 y1, Le (token_Join.l1 k a0 n y0 y1) (token_Join.l1 k' a0 n' y0 y1) := by
  intro n
  induction n with
  | zero => intro n' hn y0 y1; exact Le.none _
  | succ n ih =>
    intro n' hn y0 y1
    obtain ⟨n', rfl⟩ : ∃ m, n' = m + 1 := ⟨n' - 1, by omega⟩
    have hn' : n ≤ n' := by omega
    rw [token_Join.l1.eq_2, token_Join.l1.eq_2]
    repeat' first
      | exact Le.refl _
      | exact strings_Join.mono hk _ _
      | exact token_Write.mono hk _
      | exact ih n' hn' _ _
      | refine Le.bind ?_ fun x_ => ?_
      | refine Le.cond ?_ ?_
      | refine Le.nilc ?_ ?_
      | split
theorem token_Join.mono {k k' : Nat} (hk : k ≤ k') (a0 : (List T_api_Token)) : Le (token_Join.f k a0) (token_Join.f k' a0) := by
  unfold token_Join.f
  repeat' first
    | exact Le.refl _
    | exact strings_Join.mono hk _ _
    | exact token_Write.mono hk _
    | exact token_Join.l1.mono hk _ _ _ hk _ _
    | refine Le.bind ?_ fun x_ => ?_
    | refine Le.cond ?_ ?_
    | refine Le.nilc ?_ ?_
    | split

/-! ### dictumlaw02_num: function 21 -/
def dictumlaw02_num.f (a0 : Int) : Option (Int) :=
  some a0

/-! ### token_At: function 9 -/
def token_At.l1 (k : Nat) (a0 : List UInt8) (a1 : Int) : Nat → T_api_Spot → Nat → Option (T_api_Spot)
  | 0, _, _ => none
  | kk + 1, x119, x120 =>
    (bif (Nat.blt x120 a0.length) then
    (bif (decide ((x120 : Int) ≥ (if (if (a0.length : Int) < a1 then (a0.length : Int) else a1) > 0 then (if (a0.length : Int) < a1 then (a0.length : Int) else a1) else 0))) then
    some x119
    else
    (bif ((runeAt a0 x120) == 10) then
    token_At.l1 k a0 a1 kk (⟨wrap64 (x119.f_Line + 1), 1, x119.f_Off⟩ : T_api_Spot) (x120 + wideAt a0 x120)
    else
    token_At.l1 k a0 a1 kk (⟨x119.f_Line, wrap64 (x119.f_Col + 1), x119.f_Off⟩ : T_api_Spot) (x120 + wideAt a0 x120)))
    else
    some x119)
def token_At.f (k : Nat) (a0 : List UInt8) (a1 : Int) : Option (T_api_Spot) :=
  (token_At.l1 k a0 a1 k (⟨1, 1, (if (if (a0.length : Int) < a1 then (a0.length : Int) else a1) > 0 then (if (a0.length : Int) < a1 then (a0.length : Int) else a1) else 0)⟩ : T_api_Spot) 0).bind fun z122 =>
  some z122
theorem token_At.l1.mono {k k' : Nat} (hk : k ≤ k') (a0 : List UInt8) (a1 : Int) : ∀ (n n' : Nat) (hn : n ≤ n') y0 y1, Le (token_At.l1 k a0 a1 n y0 y1) (token_At.l1 k' a0 a1 n' y0 y1) := by
  intro n
  induction n with
  | zero => intro n' hn y0 y1; exact Le.none _
  | succ n ih =>
    intro n' hn y0 y1
    obtain ⟨n', rfl⟩ : ∃ m, n' = m + 1 := ⟨n' - 1, by omega⟩
    have hn' : n ≤ n' := by omega
    rw [token_At.l1.eq_2, token_At.l1.eq_2]
    repeat' first
      | exact Le.refl _
      | exact ih n' hn' _ _
      | refine Le.bind ?_ fun x_ => ?_
      | refine Le.cond ?_ ?_
      | refine Le.nilc ?_ ?_
      | split
theorem token_At.mono {k k' : Nat} (hk : k ≤ k') (a0 : List UInt8) (a1 : Int) : Le (token_At.f k a0 a1) (token_At.f k' a0 a1) := by
  unfold token_At.f
  repeat' first
    | exact Le.refl _
    | exact token_At.l1.mono hk _ _ _ _ hk _ _
    | refine Le.bind ?_ fun x_ => ?_
    | refine Le.cond ?_ ?_
    | refine Le.nilc ?_ ?_
    | split

/-! ### dictumlaw02_alive: function 13 -/
def dictumlaw02_alive.f (k : Nat) : Option (Bool) :=
  (token_Scan.f k ([112, 32, 45, 62, 32, 40, 113, 49, 41, 32, 35, 32, 120] : List UInt8)).bind fun z101 =>
  (token_Scan.f k ([97, 10, 32, 48, 48, 55] : List UInt8)).bind fun z115 =>
  (token_Join.f k ([(⟨1, ([97] : List UInt8), (0 : Int), (⟨(0 : Int), (0 : Int), (0 : Int)⟩ : T_api_Spot)⟩ : T_api_Token), (⟨3, ([45, 62] : List UInt8), (0 : Int), (⟨(0 : Int), (0 : Int), (0 : Int)⟩ : T_api_Spot)⟩ : T_api_Token), (⟨2, ([] : List UInt8), 7, (⟨(0 : Int), (0 : Int), (0 : Int)⟩ : T_api_Spot)⟩ : T_api_Token)])).bind fun z137 =>
  (token_Scan.f k ([194, 172, 112, 226, 136, 168, 226, 138, 165] : List UInt8)).bind fun z141 =>
  (bif (T_api_Fault.eqb z101.2 (⟨(0 : Int), (⟨(0 : Int), (0 : Int), (0 : Int)⟩ : T_api_Spot)⟩ : T_api_Fault)) then
  (bif ((z101.1.length : Int) == 6) then
  (ix z101.1 (1 : Int)).bind fun x160 =>
  (bif (x160.f_Text == ([45, 62] : List UInt8)) then
  (ix z101.1 (3 : Int)).bind fun x174 =>
  (bif (x174.f_Text == ([113, 49] : List UInt8)) then
  (ix z101.1 (3 : Int)).bind fun x188 =>
  (bif (x188.f_At.f_Off == 6) then
  (ix z101.1 (5 : Int)).bind fun x202 =>
  (bif (x202.f_Kind == 0) then
  (bif (T_api_Fault.eqb z115.2 (⟨21, (⟨2, 2, 3⟩ : T_api_Spot)⟩ : T_api_Fault)) then
  (dictumlaw02_num.f z137.2).bind fun z217 =>
  (bif (z217 == 0) then
  (bif (z137.1 == ([97, 32, 45, 62, 32, 55] : List UInt8)) then
  (bif (T_api_Fault.eqb z141.2 (⟨(0 : Int), (⟨(0 : Int), (0 : Int), (0 : Int)⟩ : T_api_Spot)⟩ : T_api_Fault)) then
  (bif ((z141.1.length : Int) == 5) then
  (ix z141.1 (0 : Int)).bind fun x228 =>
  (bif (x228.f_Text == ([126] : List UInt8)) then
  (ix z141.1 (3 : Int)).bind fun x242 =>
  (bif (x242.f_Text == ([102, 97, 108, 115, 101] : List UInt8)) then
  (ix z141.1 (3 : Int)).bind fun x256 =>
  (bif (x256.f_Kind == 1) then
  (token_Name.f k ([113, 95, 49, 39] : List UInt8)).bind fun z270 =>
  (bif z270 then
  (token_Name.f k ([49, 113] : List UInt8)).bind fun z275 =>
  (bif (!z275) then
  (token_At.f k ([97, 195, 169, 10, 98] : List UInt8) 4).bind fun z280 =>
  some (T_api_Spot.eqb z280 (⟨2, 1, 4⟩ : T_api_Spot))
  else
  some false)
  else
  some false)
  else
  some false)
  else
  some false)
  else
  some false)
  else
  some false)
  else
  some false)
  else
  some false)
  else
  some false)
  else
  some false)
  else
  some false)
  else
  some false)
  else
  some false)
  else
  some false)
  else
  some false)
  else
  some false)
theorem dictumlaw02_alive.mono {k k' : Nat} (hk : k ≤ k') : Le (dictumlaw02_alive.f k) (dictumlaw02_alive.f k') := by
  unfold dictumlaw02_alive.f
  repeat' first
    | exact Le.refl _
    | exact token_At.mono hk _ _
    | exact token_Join.mono hk _
    | exact token_Name.mono hk _
    | exact token_Scan.mono hk _
    | refine Le.bind ?_ fun x_ => ?_
    | refine Le.cond ?_ ?_
    | refine Le.nilc ?_ ?_
    | split

/-! ### dictumlaw02_TokenFirst: function 8 -/
def dictumlaw02_TokenFirst.f (k : Nat) (a0 : List UInt8) : Option (Bool) :=
  (token_Scan.f k a0).bind fun z101 =>
  (bif (T_api_Fault.eqb z101.2 (⟨(0 : Int), (⟨(0 : Int), (0 : Int), (0 : Int)⟩ : T_api_Spot)⟩ : T_api_Fault)) then
  (dictumlaw02_alive.f k ).bind fun z116 =>
  some z116
  else
  ((bif (decide (z101.2.f_At.f_Off < 0)) then
  some true
  else
  (bif (decide (z101.2.f_At.f_Off > (a0.length : Int))) then
  some true
  else
  (token_At.f k a0 z101.2.f_At.f_Off).bind fun z152 =>
  some (!(T_api_Spot.eqb z152 (⟨z101.2.f_At.f_Line, z101.2.f_At.f_Col, z101.2.f_At.f_Off⟩ : T_api_Spot))))) : Option (Bool)).bind fun z121 =>
  (bif z121 then
  some false
  else
  (cut a0 0 z101.2.f_At.f_Off).bind fun y127 =>
  (token_Scan.f k y127).bind fun z128 =>
  (bif (T_api_Fault.eqb z128.2 (⟨(0 : Int), (⟨(0 : Int), (0 : Int), (0 : Int)⟩ : T_api_Spot)⟩ : T_api_Fault)) then
  (dictumlaw02_alive.f k ).bind fun z143 =>
  some z143
  else
  some false)))
theorem dictumlaw02_TokenFirst.mono {k k' : Nat} (hk : k ≤ k') (a0 : List UInt8) : Le (dictumlaw02_TokenFirst.f k a0) (dictumlaw02_TokenFirst.f k' a0) := by
  unfold dictumlaw02_TokenFirst.f
  repeat' first
    | exact Le.refl _
    | exact dictumlaw02_alive.mono hk
    | exact token_At.mono hk _ _
    | exact token_Scan.mono hk _
    | refine Le.bind ?_ fun x_ => ?_
    | refine Le.cond ?_ ?_
    | refine Le.nilc ?_ ?_
    | split
end Go.Proofs.YtjhmhdedonibbaaDoor.X
