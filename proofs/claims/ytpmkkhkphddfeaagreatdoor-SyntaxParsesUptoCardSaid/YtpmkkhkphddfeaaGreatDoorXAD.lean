import Derived.Test.YtpmkkhkphddfeaaGreatDoorS3
import Derived.Lib.ValidU
import Derived.Lib.AtoiAll
import Derived.Shelf.Strconv.Itoa3
import Derived.Shelf.Small.Utf8
import Derived.Shelf.Small.Strs
set_option maxRecDepth 20000
set_option linter.unusedVariables false
set_option linter.unusedSimpArgs false
set_option linter.unnecessarySimpa false
namespace Go.Proofs.YtpmkkhkphddfeaaGreatDoor.X
open Go Go.RowKit Go.Proofs.YtpmkkhkphddfeaaGreatDoor.SX
structure T_api_Node where
 f_Kind:Int
 f_Name:List UInt8
 f_L:Int
 f_R:Int
deriving DecidableEq
def T_api_Node.rep:Rep T_api_Node:=Rep.iso (Rep.pair (Rep.int .i64) (Rep.pair Rep.str (Rep.pair (Rep.int .i64) (Rep.int .i64)))) (fun x=>(x.f_Kind,x.f_Name,x.f_L,x.f_R))
theorem T_api_Node.opn {F:Nat→Prop} {w:World} {x:T_api_Node} {cs:List Value} (h:T_api_Node.rep.R F w x cs) : cs=[.int .i64 x.f_Kind,encS x.f_Name,.int .i64 x.f_L,.int .i64 x.f_R]:=by
 obtain ⟨_,_,rfl,h0,⟨_,_,rfl,h1,⟨_,_,rfl,h2,h3⟩⟩⟩:=h
 have e0:_=[_]:=h0
 subst e0
 have e1:_=[_]:=h1
 subst e1
 have e2:_=[_]:=h2
 subst e2
 have e3:_=[_]:=h3
 subst e3
 rfl
theorem T_api_Node.mk' {F:Nat→Prop} {w:World} (x:T_api_Node)  : T_api_Node.rep.R F w x [.int .i64 x.f_Kind,encS x.f_Name,.int .i64 x.f_L,.int .i64 x.f_R]:=
 ⟨[.int .i64 x.f_Kind],[encS x.f_Name,.int .i64 x.f_L,.int .i64 x.f_R],rfl,rfl,⟨[encS x.f_Name],[.int .i64 x.f_L,.int .i64 x.f_R],rfl,rfl,⟨[.int .i64 x.f_L],[.int .i64 x.f_R],rfl,rfl,rfl⟩⟩⟩
structure T_dictumref03_T where
 f_N:(List T_api_Node)
deriving DecidableEq
def T_dictumref03_T.rep:Rep T_dictumref03_T:=Rep.iso (Rep.slice T_api_Node.rep) (fun x=>(x.f_N))
theorem T_dictumref03_T.opn {F:Nat→Prop} {w:World} {x:T_dictumref03_T} {cs:List Value} (h:T_dictumref03_T.rep.R F w x cs) : ∃ (A0:Option Addr) (c0:Nat),cs=[.slice A0 x.f_N.length c0]∧x.f_N.length≤c0∧Row T_api_Node.rep F F w A0 x.f_N:=by
 have h0:=h
 obtain ⟨A0,c0,rfl,l0,r0⟩:=h0
 exact ⟨A0,c0,rfl,l0,r0⟩
theorem T_dictumref03_T.mk' {F:Nat→Prop} {w:World} (x:T_dictumref03_T) {A0:Option Addr} {c0:Nat} (l0:x.f_N.length≤c0) (r0:Row T_api_Node.rep F F w A0 x.f_N) : T_dictumref03_T.rep.R F w x [.slice A0 x.f_N.length c0]:=
 ⟨A0,c0,rfl,l0,r0⟩
def T_api_Node.eqb (x y:T_api_Node) : Bool:=(x.f_Kind == y.f_Kind && (x.f_Name == y.f_Name && (x.f_L == y.f_L && (x.f_R == y.f_R && true))))
structure T_formula_Table where
 f_rows:(List T_api_Node)
deriving DecidableEq
structure T_api_Spot where
 f_Line:Int
 f_Col:Int
 f_Off:Int
deriving DecidableEq
def T_api_Spot.rep:Rep T_api_Spot:=Rep.iso (Rep.pair (Rep.int .i64) (Rep.pair (Rep.int .i64) (Rep.int .i64))) (fun x=>(x.f_Line,x.f_Col,x.f_Off))
theorem T_api_Spot.opn {F:Nat→Prop} {w:World} {x:T_api_Spot} {cs:List Value} (h:T_api_Spot.rep.R F w x cs) : cs=[.int .i64 x.f_Line,.int .i64 x.f_Col,.int .i64 x.f_Off]:=by
 obtain ⟨_,_,rfl,h0,⟨_,_,rfl,h1,h2⟩⟩:=h
 have e0:_=[_]:=h0
 subst e0
 have e1:_=[_]:=h1
 subst e1
 have e2:_=[_]:=h2
 subst e2
 rfl
theorem T_api_Spot.mk' {F:Nat→Prop} {w:World} (x:T_api_Spot)  : T_api_Spot.rep.R F w x [.int .i64 x.f_Line,.int .i64 x.f_Col,.int .i64 x.f_Off]:=
 ⟨[.int .i64 x.f_Line],[.int .i64 x.f_Col,.int .i64 x.f_Off],rfl,rfl,⟨[.int .i64 x.f_Col],[.int .i64 x.f_Off],rfl,rfl,rfl⟩⟩
structure T_api_Token where
 f_Kind:Int
 f_Text:List UInt8
 f_Int:Int
 f_At:T_api_Spot
deriving DecidableEq
def T_api_Token.rep:Rep T_api_Token:=Rep.iso (Rep.pair (Rep.int .i64) (Rep.pair Rep.str (Rep.pair (Rep.int .i64) T_api_Spot.rep))) (fun x=>(x.f_Kind,x.f_Text,x.f_Int,x.f_At))
theorem T_api_Token.opn {F:Nat→Prop} {w:World} {x:T_api_Token} {cs:List Value} (h:T_api_Token.rep.R F w x cs) : cs=[.int .i64 x.f_Kind,encS x.f_Text,.int .i64 x.f_Int,.int .i64 x.f_At.f_Line,.int .i64 x.f_At.f_Col,.int .i64 x.f_At.f_Off]:=by
 obtain ⟨_,_,rfl,h0,⟨_,_,rfl,h1,⟨_,_,rfl,h2,h3⟩⟩⟩:=h
 have e0:_=[_]:=h0
 subst e0
 have e1:_=[_]:=h1
 subst e1
 have e2:_=[_]:=h2
 subst e2
 obtain ⟨rfl⟩:=T_api_Spot.opn h3
 rfl
theorem T_api_Token.mk' {F:Nat→Prop} {w:World} (x:T_api_Token)  : T_api_Token.rep.R F w x [.int .i64 x.f_Kind,encS x.f_Text,.int .i64 x.f_Int,.int .i64 x.f_At.f_Line,.int .i64 x.f_At.f_Col,.int .i64 x.f_At.f_Off]:=
 ⟨[.int .i64 x.f_Kind],[encS x.f_Text,.int .i64 x.f_Int,.int .i64 x.f_At.f_Line,.int .i64 x.f_At.f_Col,.int .i64 x.f_At.f_Off],rfl,rfl,⟨[encS x.f_Text],[.int .i64 x.f_Int,.int .i64 x.f_At.f_Line,.int .i64 x.f_At.f_Col,.int .i64 x.f_At.f_Off],rfl,rfl,⟨[.int .i64 x.f_Int],[.int .i64 x.f_At.f_Line,.int .i64 x.f_At.f_Col,.int .i64 x.f_At.f_Off],rfl,rfl,(T_api_Spot.mk' x.f_At )⟩⟩⟩
structure T_api_Fault where
 f_Code:Int
 f_At:T_api_Spot
deriving DecidableEq
def T_api_Fault.rep:Rep T_api_Fault:=Rep.iso (Rep.pair (Rep.int .i64) T_api_Spot.rep) (fun x=>(x.f_Code,x.f_At))
theorem T_api_Fault.opn {F:Nat→Prop} {w:World} {x:T_api_Fault} {cs:List Value} (h:T_api_Fault.rep.R F w x cs) : cs=[.int .i64 x.f_Code,.int .i64 x.f_At.f_Line,.int .i64 x.f_At.f_Col,.int .i64 x.f_At.f_Off]:=by
 obtain ⟨_,_,rfl,h0,h1⟩:=h
 have e0:_=[_]:=h0
 subst e0
 obtain ⟨rfl⟩:=T_api_Spot.opn h1
 rfl
theorem T_api_Fault.mk' {F:Nat→Prop} {w:World} (x:T_api_Fault)  : T_api_Fault.rep.R F w x [.int .i64 x.f_Code,.int .i64 x.f_At.f_Line,.int .i64 x.f_At.f_Col,.int .i64 x.f_At.f_Off]:=
 ⟨[.int .i64 x.f_Code],[.int .i64 x.f_At.f_Line,.int .i64 x.f_At.f_Col,.int .i64 x.f_At.f_Off],rfl,rfl,(T_api_Spot.mk' x.f_At )⟩
structure T_token_cursor where
 f_s:List UInt8
 f_at:T_api_Spot
deriving DecidableEq
def T_token_cursor.rep:Rep T_token_cursor:=Rep.iso (Rep.pair Rep.str T_api_Spot.rep) (fun x=>(x.f_s,x.f_at))
theorem T_token_cursor.opn {F:Nat→Prop} {w:World} {x:T_token_cursor} {cs:List Value} (h:T_token_cursor.rep.R F w x cs) : cs=[encS x.f_s,.int .i64 x.f_at.f_Line,.int .i64 x.f_at.f_Col,.int .i64 x.f_at.f_Off]:=by
 obtain ⟨_,_,rfl,h0,h1⟩:=h
 have e0:_=[_]:=h0
 subst e0
 obtain ⟨rfl⟩:=T_api_Spot.opn h1
 rfl
theorem T_token_cursor.mk' {F:Nat→Prop} {w:World} (x:T_token_cursor)  : T_token_cursor.rep.R F w x [encS x.f_s,.int .i64 x.f_at.f_Line,.int .i64 x.f_at.f_Col,.int .i64 x.f_at.f_Off]:=
 ⟨[encS x.f_s],[.int .i64 x.f_at.f_Line,.int .i64 x.f_at.f_Col,.int .i64 x.f_at.f_Off],rfl,rfl,(T_api_Spot.mk' x.f_at )⟩
structure T_syntax_reader where
 f_l:(List T_api_Token)
 f_i:Int
 f_names:Int
 f_nest:Int
 f_counts:Bool
 f_full:Bool
deriving DecidableEq
structure T_syntax_broken where
 f_f:T_api_Fault
deriving DecidableEq
def T_syntax_broken.rep:Rep T_syntax_broken:=Rep.iso T_api_Fault.rep (fun x=>(x.f_f))
theorem T_syntax_broken.opn {F:Nat→Prop} {w:World} {x:T_syntax_broken} {cs:List Value} (h:T_syntax_broken.rep.R F w x cs) : cs=[.int .i64 x.f_f.f_Code,.int .i64 x.f_f.f_At.f_Line,.int .i64 x.f_f.f_At.f_Col,.int .i64 x.f_f.f_At.f_Off]:=by
 have h0:=h
 obtain ⟨rfl⟩:=T_api_Fault.opn h0
 rfl
theorem T_syntax_broken.mk' {F:Nat→Prop} {w:World} (x:T_syntax_broken)  : T_syntax_broken.rep.R F w x [.int .i64 x.f_f.f_Code,.int .i64 x.f_f.f_At.f_Line,.int .i64 x.f_f.f_At.f_Col,.int .i64 x.f_f.f_At.f_Off]:=
 (T_api_Fault.mk' x.f_f )
structure T_dictumref02_special where
 f_Rune:List UInt8
 f_Kind:Int
 f_Text:List UInt8
deriving DecidableEq
def T_dictumref02_special.rep:Rep T_dictumref02_special:=Rep.iso (Rep.pair Rep.str (Rep.pair (Rep.int .i64) Rep.str)) (fun x=>(x.f_Rune,x.f_Kind,x.f_Text))
theorem T_dictumref02_special.opn {F:Nat→Prop} {w:World} {x:T_dictumref02_special} {cs:List Value} (h:T_dictumref02_special.rep.R F w x cs) : cs=[encS x.f_Rune,.int .i64 x.f_Kind,encS x.f_Text]:=by
 obtain ⟨_,_,rfl,h0,⟨_,_,rfl,h1,h2⟩⟩:=h
 have e0:_=[_]:=h0
 subst e0
 have e1:_=[_]:=h1
 subst e1
 have e2:_=[_]:=h2
 subst e2
 rfl
theorem T_dictumref02_special.mk' {F:Nat→Prop} {w:World} (x:T_dictumref02_special)  : T_dictumref02_special.rep.R F w x [encS x.f_Rune,.int .i64 x.f_Kind,encS x.f_Text]:=
 ⟨[encS x.f_Rune],[.int .i64 x.f_Kind,encS x.f_Text],rfl,rfl,⟨[.int .i64 x.f_Kind],[encS x.f_Text],rfl,rfl,rfl⟩⟩
structure T_dictumref04_parser where
 f_l:(List T_api_Token)
 f_i:Int
 f_n:Int
 f_deep:Int
 f_full:Bool
 f_bad:T_api_Fault
deriving DecidableEq
def T_api_Spot.eqb (x y:T_api_Spot) : Bool:=(x.f_Line == y.f_Line && (x.f_Col == y.f_Col && (x.f_Off == y.f_Off && true)))
def T_api_Fault.eqb (x y:T_api_Fault) : Bool:=(x.f_Code == y.f_Code && (T_api_Spot.eqb x.f_At y.f_At && true))
def T_api_Node.bulk (x:T_api_Node) : Nat:=(bulk1 x.f_Kind+(bulkS x.f_Name+(bulk1 x.f_L+(bulk1 x.f_R))))+1
def T_api_Node.ok (x:T_api_Node) : Prop:=(okI .i64) x.f_Kind∧(okS x.f_Name∧((okI .i64) x.f_L∧((okI .i64) x.f_R)))
def T_dictumref03_T.bulk (x:T_dictumref03_T) : Nat:=((bulkL T_api_Node.bulk) x.f_N)+1
def T_dictumref03_T.ok (x:T_dictumref03_T) : Prop:=(okL T_api_Node.ok) x.f_N
def T_api_Spot.bulk (x:T_api_Spot) : Nat:=(bulk1 x.f_Line+(bulk1 x.f_Col+(bulk1 x.f_Off)))+1
def T_api_Spot.ok (x:T_api_Spot) : Prop:=(okI .i64) x.f_Line∧((okI .i64) x.f_Col∧((okI .i64) x.f_Off))
def T_api_Token.bulk (x:T_api_Token) : Nat:=(bulk1 x.f_Kind+(bulkS x.f_Text+(bulk1 x.f_Int+(T_api_Spot.bulk x.f_At))))+1
def T_api_Token.ok (x:T_api_Token) : Prop:=(okI .i64) x.f_Kind∧(okS x.f_Text∧((okI .i64) x.f_Int∧(T_api_Spot.ok x.f_At)))
def T_api_Fault.bulk (x:T_api_Fault) : Nat:=(bulk1 x.f_Code+(T_api_Spot.bulk x.f_At))+1
def T_api_Fault.ok (x:T_api_Fault) : Prop:=(okI .i64) x.f_Code∧(T_api_Spot.ok x.f_At)
def T_token_cursor.bulk (x:T_token_cursor) : Nat:=(bulkS x.f_s+(T_api_Spot.bulk x.f_at))+1
def T_token_cursor.ok (x:T_token_cursor) : Prop:=okS x.f_s∧(T_api_Spot.ok x.f_at)
def T_syntax_broken.bulk (x:T_syntax_broken) : Nat:=(T_api_Fault.bulk x.f_f)+1
def T_syntax_broken.ok (x:T_syntax_broken) : Prop:=T_api_Fault.ok x.f_f
def T_dictumref02_special.bulk (x:T_dictumref02_special) : Nat:=(bulkS x.f_Rune+(bulk1 x.f_Kind+(bulkS x.f_Text)))+1
def T_dictumref02_special.ok (x:T_dictumref02_special) : Prop:=okS x.f_Rune∧((okI .i64) x.f_Kind∧(okS x.f_Text))
def utf8_DecodeRuneInString.f (a0:List UInt8) : Option (Int×Int):=some (((Lib.decodeGo ⟨a0.toArray⟩).1:Int),((Lib.decodeGo ⟨a0.toArray⟩).2:Int))
def strings_IndexByte.f (a0:List UInt8) (a1:UInt8) : Option Int:=some (Lib.indexByte a0 a1)
def atoiF (a0:List UInt8) : Int×Bool:=match Lib.atoiAll a0 with | .ok v=>(v,false) | .range=>(Lib.atoiSat a0,true) | _=>(0,true)
def strconv_Atoi.f (a0:List UInt8) : Option (Int×Bool):=(chk (decide (a0.length≤281474976710656))).bind fun _=>some (atoiF a0)
def Builder_WriteByte.f (a0:List UInt8) (a1:UInt8) : Option (List UInt8):=(chk (decide ((a0.length+[a1].length) * 1≤140737488355328))).bind fun _=>some (a0++[a1])
def Builder_WriteString.f (a0:List UInt8) (a1:List UInt8) : Option (Int×List UInt8):=(chk (decide ((a0.length+a1.length) * 1≤140737488355328))).bind fun _=>some ((a1.length:Int),a0++a1)
def Builder_String.f (a0:List UInt8) : Option (List UInt8):=(chk (decide (a0.length≤9223372036854775807))).bind fun _=>some a0
def dictumref03_letter.f (a0:UInt8) : Option (Bool):=
 (bif (decide ((97:UInt8)≤a0)) then
 (bif (decide (a0≤(122:UInt8))) then
 some true
 else
 (bif (decide ((65:UInt8)≤a0)) then
 some (decide (a0≤(90:UInt8)))
 else
 some false))
 else
 (bif (decide ((65:UInt8)≤a0)) then
 some (decide (a0≤(90:UInt8)))
 else
 some false))
def dictumref03_Reserved.f:Option ((List (List UInt8))):=
 some ([([97,98,111,114,116] : List UInt8),([99,97,115,101] : List UInt8),([102,97,108,115,101] : List UInt8),([102,115,116] : List UInt8),([102,117,110] : List UInt8),([105,110] : List UInt8),([105,110,108] : List UInt8),([105,110,114] : List UInt8),([108,101,116] : List UInt8),([111,102] : List UInt8),([115,110,100] : List UInt8),([116,114,117,101] : List UInt8)])
def dictumref03_Word.l1 (k:Nat) (a0:List UInt8) : Nat→Int→Option (Sum (Bool) (Unit))
 | 0,_=>none
 | kk+1,x108 =>
  (bif (decide (x108 < (a0.length:Int))) then
  ((ix a0 x108).bind fun x125 =>
  (dictumref03_letter.f x125).bind fun z126 =>
  (bif (!z126) then
  (ix a0 x108).bind fun x131 =>
  (bif (decide ((48:UInt8)≤x131)) then
  (ix a0 x108).bind fun x133 =>
  (bif (!(decide (x133≤(57:UInt8)))) then
  (ix a0 x108).bind fun x135 =>
  (bif (!(x135 == (95:UInt8))) then
  (ix a0 x108).bind fun x137 =>
  some (!(x137 == (39:UInt8)))
  else
  some false)
  else
  some false)
  else
  (ix a0 x108).bind fun x138 =>
  (bif (!(x138 == (95:UInt8))) then
  (ix a0 x108).bind fun x140 =>
  some (!(x140 == (39:UInt8)))
  else
  some false))
  else
  some false) : Option (Bool)).bind fun z118 =>
  (bif z118 then
  some (.inl false)
  else
  dictumref03_Word.l1 k a0 kk (wrap64 (x108+1)))
  else
  some (.inr ()))
def dictumref03_Word.l2 (k:Nat) (a0:List UInt8) (z144:(List (List UInt8))) : Nat→Int→Option (Sum (Bool) (Unit))
 | 0,_=>none
 | kk+1,x150 =>
  (bif (decide (x150 < (z144.length:Int))) then
  (ix z144 x150).bind fun x162 =>
  (bif (x162 == a0) then
  some (.inl false)
  else
  dictumref03_Word.l2 k a0 z144 kk (wrap64 (x150+1)))
  else
  some (.inr ()))
def dictumref03_Word.f (k:Nat) (a0:List UInt8) : Option (Bool):=
 ((bif (decide ((a0.length:Int) < 1)) then
 some true
 else
 (bif (decide ((a0.length:Int) > 31)) then
 some true
 else
 (ix a0 (0:Int)).bind fun x179 =>
 (dictumref03_letter.f x179).bind fun z180 =>
 some (!z180))) : Option (Bool)).bind fun z102 =>
 (bif z102 then
 some false
 else
 (dictumref03_Word.l1 k a0 k 1).bind fun z109=>match z109 with
 | .inl r_=>some r_
 | .inr _ =>
 (dictumref03_Reserved.f ).bind fun z144 =>
 (dictumref03_Word.l2 k a0 z144 k 0).bind fun z151=>match z151 with
 | .inl r_=>some r_
 | .inr _ =>
 some true)
def dictumref03_T_Has.f (a0:T_dictumref03_T) (a1:Int) : Option (Bool):=
 (bif (decide (a1 ≥ 0)) then
 some (decide (a1 < (a0.f_N.length:Int)))
 else
 some false)
def dictumref03_T_Find.l1 (k:Nat) (a0:T_dictumref03_T) (a1:T_api_Node) : Nat→Int→Option (Sum (Int×Bool) (Unit))
 | 0,_=>none
 | kk+1,x106 =>
  (bif (decide (x106 < (a0.f_N.length:Int))) then
  (ix a0.f_N x106).bind fun x120 =>
  (bif (T_api_Node.eqb x120 (⟨a1.f_Kind,a1.f_Name,a1.f_L,a1.f_R⟩ : T_api_Node)) then
  some (.inl (x106,true))
  else
  dictumref03_T_Find.l1 k a0 a1 kk (wrap64 (x106+1)))
  else
  some (.inr ()))
def dictumref03_T_Find.f (k:Nat) (a0:T_dictumref03_T) (a1:T_api_Node) : Option (Int×Bool):=
 (dictumref03_T_Find.l1 k a0 a1 k 0).bind fun z107=>match z107 with
 | .inl r_=>some r_
 | .inr _ =>
 some (0,false)
def dictumref03_T_Put.f (k:Nat) (a0:T_dictumref03_T) (a1:T_api_Node) : Option (Int×Int×T_dictumref03_T):=
 ((bif (a1.f_Kind == 1) then
 ((bif (a1.f_L != 0) then
 some true
 else
 some (a1.f_R != 0)) : Option (Bool)).bind fun z154 =>
 (bif z154 then
 some (.inl (0,31,a0))
 else
 (dictumref03_Word.f k a1.f_Name).bind fun z160 =>
 (bif (!z160) then
 some (.inl (0,32,a0))
 else
 some (.inr ())))
 else
 (bif (a1.f_Kind == 2) then
 ((bif (!(a1.f_Name == ([] : List UInt8))) then
 some true
 else
 (bif (a1.f_L != 0) then
 some true
 else
 some (a1.f_R != 0))) : Option (Bool)).bind fun z169 =>
 (bif z169 then
 some (.inl (0,31,a0))
 else
 some (.inr ()))
 else
 ((bif (a1.f_Kind == 3) then
 some (a1.f_Kind == 3)
 else
 (bif (a1.f_Kind == 4) then
 some (a1.f_Kind == 4)
 else
 some (a1.f_Kind == 5))) : Option (Bool)).bind fun z179 =>
 (bif z179 then
 ((bif (!(a1.f_Name == ([] : List UInt8))) then
 some true
 else
 (dictumref03_T_Has.f a0 a1.f_L).bind fun z194 =>
 (bif (!z194) then
 some true
 else
 (dictumref03_T_Has.f a0 a1.f_R).bind fun z199 =>
 some (!z199))) : Option (Bool)).bind fun z186 =>
 (bif z186 then
 some (.inl (0,31,a0))
 else
 some (.inr ()))
 else
 some (.inl (0,31,a0))))) : Option (Sum (Int×Int×T_dictumref03_T) (Unit))).bind fun z106=>match z106 with
 | .inl r_=>some r_
 | .inr _ =>
 (dictumref03_T_Find.f k a0 (⟨a1.f_Kind,a1.f_Name,a1.f_L,a1.f_R⟩ : T_api_Node)).bind fun z111 =>
 (bif z111.2 then
 some (z111.1,0,a0)
 else
 (bif (decide ((a0.f_N.length:Int) ≥ 1024)) then
 some (0,30,a0)
 else
 ((chk (decide ((a0.f_N.length+[(⟨a1.f_Kind,a1.f_Name,a1.f_L,a1.f_R⟩ : T_api_Node)].length) * 40≤140737488355328))).bind fun _ =>
 some (⟨(a0.f_N++[(⟨a1.f_Kind,a1.f_Name,a1.f_L,a1.f_R⟩ : T_api_Node)])⟩ : T_dictumref03_T) : Option (T_dictumref03_T)).bind fun z123 =>
 some (wrap64 ((z123.f_N.length:Int) - 1),0,z123)))
def dictumref03_From.l1 (k:Nat) (a0:(List T_api_Node)) : Nat→Int→T_dictumref03_T→Option (Sum (Exn (Int) (T_dictumref03_T)) (T_dictumref03_T))
 | 0,_,_=>none
 | kk+1,x106,x107 =>
  (bif (decide (x106 < (a0.length:Int))) then
  (ix a0 x106).bind fun x121 =>
  (dictumref03_T_Put.f k x107 x121).bind fun z131 =>
  (bif (z131.2.1 != 0) then
  some (.inl (.ex z131.2.1))
  else
  (bif (z131.1 != x106) then
  some (.inl (.ex 31))
  else
  dictumref03_From.l1 k a0 kk (wrap64 (x106+1)) z131.2.2))
  else
  some (.inr x107))
def dictumref03_From.f (k:Nat) (a0:(List T_api_Node)) : Option (Exn (Int) (T_dictumref03_T)):=
 (dictumref03_From.l1 k a0 k 0 (⟨([] : List T_api_Node)⟩ : T_dictumref03_T)).bind fun z113=>match z113 with
 | .inl r_=>some r_
 | .inr x110 =>
 some (.ok x110)
def formula_New.f:Option ((T_formula_Table×(List (T_api_Node×Int)))):=
 some ((⟨([] : List T_api_Node)⟩ : T_formula_Table),([] : (List (T_api_Node×Int))))
def formula_Table_alive.f (a0:T_formula_Table) (a0_1:(List (T_api_Node×Int))) : Option (Bool):=
 some true
def formula_reserved.f (a0:List UInt8) : Option (Bool):=
 ((bif (a0 == ([97,98,111,114,116] : List UInt8)) then
 some (a0 == ([97,98,111,114,116] : List UInt8))
 else
 (bif (a0 == ([99,97,115,101] : List UInt8)) then
 some (a0 == ([99,97,115,101] : List UInt8))
 else
 (bif (a0 == ([102,97,108,115,101] : List UInt8)) then
 some (a0 == ([102,97,108,115,101] : List UInt8))
 else
 (bif (a0 == ([102,115,116] : List UInt8)) then
 some (a0 == ([102,115,116] : List UInt8))
 else
 (bif (a0 == ([102,117,110] : List UInt8)) then
 some (a0 == ([102,117,110] : List UInt8))
 else
 (bif (a0 == ([105,110] : List UInt8)) then
 some (a0 == ([105,110] : List UInt8))
 else
 (bif (a0 == ([105,110,108] : List UInt8)) then
 some (a0 == ([105,110,108] : List UInt8))
 else
 (bif (a0 == ([105,110,114] : List UInt8)) then
 some (a0 == ([105,110,114] : List UInt8))
 else
 (bif (a0 == ([108,101,116] : List UInt8)) then
 some (a0 == ([108,101,116] : List UInt8))
 else
 (bif (a0 == ([111,102] : List UInt8)) then
 some (a0 == ([111,102] : List UInt8))
 else
 (bif (a0 == ([115,110,100] : List UInt8)) then
 some (a0 == ([115,110,100] : List UInt8))
 else
 some (a0 == ([116,114,117,101] : List UInt8))))))))))))) : Option (Bool)).bind fun z102 =>
 (bif z102 then
 some true
 else
 some false)
def formula_Word.l1 (k:Nat) (a0:List UInt8) : Nat→Int→Option (Sum (Bool) (Unit))
 | 0,_=>none
 | kk+1,x101 =>
  (bif (decide (x101 < (a0.length:Int))) then
  (ix a0 x101).bind fun x110 =>
  ((bif (decide ((97:UInt8)≤(x110 ||| (32:UInt8)))) then
  some (decide ((x110 ||| (32:UInt8))≤(122:UInt8)))
  else
  some false) : Option (Bool)).bind fun z112 =>
  ((bif (!z112) then
  (bif (x101 == 0) then
  some true
  else
  (bif (!(x110 == (95:UInt8))) then
  (bif (!(x110 == (39:UInt8))) then
  (bif (decide (x110 < (48:UInt8))) then
  some true
  else
  some (decide ((57:UInt8) < x110)))
  else
  some false)
  else
  some false))
  else
  some false) : Option (Bool)).bind fun z118 =>
  (bif z118 then
  some (.inl false)
  else
  formula_Word.l1 k a0 kk (wrap64 (x101+1)))
  else
  some (.inr ()))
def formula_Word.f (k:Nat) (a0:List UInt8) : Option (Bool):=
 (formula_Word.l1 k a0 k 0).bind fun z102=>match z102 with
 | .inl r_=>some r_
 | .inr _ =>
 (bif (!(a0 == ([] : List UInt8))) then
 (bif (decide ((a0.length:Int)≤31)) then
 (formula_reserved.f a0).bind fun z137 =>
 some (!z137)
 else
 some false)
 else
 some false)
theorem formula_Word.l1.mono {k k':Nat} (hk:k≤k') (a0:List UInt8) : ∀ (n n':Nat) (hn:n≤n') y0,Le (formula_Word.l1 k a0 n y0) (formula_Word.l1 k' a0 n' y0):=by
 intro n
 induction n with
 | zero=>intro n' hn y0; exact Le.none _
 | succ n ih =>
  intro n' hn y0
  obtain ⟨n',rfl⟩ : ∃ m,n'=m+1:=⟨n' - 1,by omega⟩
  have hn':n≤n':=by omega
  rw [formula_Word.l1.eq_2,formula_Word.l1.eq_2]
  repeat' first
   | exact Le.refl _
   | exact ih n' hn' _
   | refine Le.bind ?_ fun x_=>?_
   | refine Le.cond ?_ ?_
   | refine Le.nilc ?_ ?_
   | split
theorem formula_Word.mono {k k':Nat} (hk:k≤k') (a0:List UInt8) : Le (formula_Word.f k a0) (formula_Word.f k' a0):=by
 unfold formula_Word.f
 repeat' first
  | exact Le.refl _
  | exact formula_Word.l1.mono hk _ _ _ hk _
  | refine Le.bind ?_ fun x_=>?_
  | refine Le.cond ?_ ?_
  | refine Le.nilc ?_ ?_
  | split
def formula_Table_has.f (a0:T_formula_Table) (a1:Int) (a0_1:(List (T_api_Node×Int))) : Option (Bool):=
 (bif (decide (a1 ≥ 0)) then
 some (decide (a1 < (a0.f_rows.length:Int)))
 else
 some false)
def formula_Table_fits.f (k:Nat) (a0:T_formula_Table) (a1:T_api_Node) (a0_1:(List (T_api_Node×Int))) : Option (Int):=
 (bif (a1.f_Kind == 1) then
 ((bif (a1.f_L != 0) then
 some true
 else
 some (a1.f_R != 0)) : Option (Bool)).bind fun z108 =>
 (bif z108 then
 some 31
 else
 (formula_Word.f k a1.f_Name).bind fun z114 =>
 (bif (!z114) then
 some 32
 else
 some 0))
 else
 (bif (a1.f_Kind == 2) then
 (bif (!(T_api_Node.eqb (⟨a1.f_Kind,a1.f_Name,a1.f_L,a1.f_R⟩ : T_api_Node) (⟨2,([] : List UInt8),(0:Int),(0:Int)⟩ : T_api_Node))) then
 some 31
 else
 some 0)
 else
 ((bif (a1.f_Kind == 3) then
 some (a1.f_Kind == 3)
 else
 (bif (a1.f_Kind == 4) then
 some (a1.f_Kind == 4)
 else
 some (a1.f_Kind == 5))) : Option (Bool)).bind fun z124 =>
 (bif z124 then
 ((bif (!(a1.f_Name == ([] : List UInt8))) then
 some true
 else
 (formula_Table_has.f a0 a1.f_L a0_1).bind fun z139 =>
 (bif (!z139) then
 some true
 else
 (formula_Table_has.f a0 a1.f_R a0_1).bind fun z144 =>
 some (!z144))) : Option (Bool)).bind fun z131 =>
 (bif z131 then
 some 31
 else
 some 0)
 else
 some 31)))
theorem formula_Table_fits.mono {k k':Nat} (hk:k≤k') (a0:T_formula_Table) (a1:T_api_Node) (a0_1:(List (T_api_Node×Int))) : Le (formula_Table_fits.f k a0 a1 a0_1) (formula_Table_fits.f k' a0 a1 a0_1):=by
 unfold formula_Table_fits.f
 repeat' first
  | exact Le.refl _
  | exact formula_Word.mono hk _
  | refine Le.bind ?_ fun x_=>?_
  | refine Le.cond ?_ ?_
  | refine Le.nilc ?_ ?_
  | split
def formula_Table_Put.f (k:Nat) (a0:T_formula_Table) (a1:T_api_Node) (a0_1:(List (T_api_Node×Int))) : Option (Int×Int×T_formula_Table×(List (T_api_Node×Int))):=
 (formula_Table_alive.f a0 a0_1).bind fun z106 =>
 (formula_Table_fits.f k a0 (⟨a1.f_Kind,a1.f_Name,a1.f_L,a1.f_R⟩ : T_api_Node) a0_1).bind fun z110 =>
 (bif (z110 != 0) then
 some (0,z110,a0,a0_1)
 else
 (bif (mget T_api_Node.eqb a0_1 (⟨a1.f_Kind,a1.f_Name,a1.f_L,a1.f_R⟩ : T_api_Node)).isSome then
 some (((mget T_api_Node.eqb a0_1 (⟨a1.f_Kind,a1.f_Name,a1.f_L,a1.f_R⟩ : T_api_Node)).getD (0:Int)),0,a0,a0_1)
 else
 (bif (decide ((a0.f_rows.length:Int) ≥ 1024)) then
 some (0,30,a0,a0_1)
 else
 ((chk (decide ((a0.f_rows.length+[(⟨a1.f_Kind,a1.f_Name,a1.f_L,a1.f_R⟩ : T_api_Node)].length) * 40≤140737488355328))).bind fun _ =>
 some (⟨(a0.f_rows++[(⟨a1.f_Kind,a1.f_Name,a1.f_L,a1.f_R⟩ : T_api_Node)])⟩ : T_formula_Table) : Option (T_formula_Table)).bind fun z125 =>
 some ((a0.f_rows.length:Int),0,z125,(mput T_api_Node.eqb a0_1 (⟨a1.f_Kind,a1.f_Name,a1.f_L,a1.f_R⟩ : T_api_Node) (a0.f_rows.length:Int))))))
theorem formula_Table_Put.mono {k k':Nat} (hk:k≤k') (a0:T_formula_Table) (a1:T_api_Node) (a0_1:(List (T_api_Node×Int))) : Le (formula_Table_Put.f k a0 a1 a0_1) (formula_Table_Put.f k' a0 a1 a0_1):=by
 unfold formula_Table_Put.f
 repeat' first
  | exact Le.refl _
  | exact formula_Table_fits.mono hk _ _ _
  | refine Le.bind ?_ fun x_=>?_
  | refine Le.cond ?_ ?_
  | refine Le.nilc ?_ ?_
  | split
def formula_From.l1 (k:Nat) (a0:(List T_api_Node)) : Nat→Int→T_formula_Table→(List (T_api_Node×Int))→Option (Sum (Exn (Int) ((T_formula_Table×(List (T_api_Node×Int))))) (T_formula_Table×(List (T_api_Node×Int))))
 | 0,_,_,_=>none
 | kk+1,x111,x112,x115 =>
  (bif (decide (x111 < (a0.length:Int))) then
  (ix a0 x111).bind fun x128 =>
  (formula_Table_Put.f k x112 x128 x115).bind fun z146 =>
  (((bif (z146.2.1 == 0) then
  some (z146.1 != x111)
  else
  some false) : Option (Bool)).bind fun z163 =>
  (bif z163 then
  some 31
  else
  some z146.2.1) : Option (Int)).bind fun z155 =>
  (bif (z155 != 0) then
  some (.inl (.ex z155))
  else
  formula_From.l1 k a0 kk (wrap64 (x111+1)) z146.2.2.1 z146.2.2.2)
  else
  some (.inr (x112,x115)))
def formula_From.f (k:Nat) (a0:(List T_api_Node)) : Option (Exn (Int) ((T_formula_Table×(List (T_api_Node×Int))))):=
 (formula_New.f ).bind fun z101 =>
 (formula_From.l1 k a0 k 0 z101.1 z101.2).bind fun z120=>match z120 with
 | .inl r_=>some r_
 | .inr (x116,x119) =>
 some (.ok (x116,x119))
def dictumlaw03_Both.f (k:Nat) (a0:(List T_api_Node)) : Option (Exn (Unit) ((T_formula_Table×(List (T_api_Node×Int)))×T_dictumref03_T)):=
 (chk (decide ((([] : List T_api_Node).length+a0.length) * 40≤140737488355328))).bind fun _ =>
 (dictumref03_From.f k a0).bind fun z112=>match z112 with
 | .ex p115=>((bif (p115 != 0) then
 some (.ex ())
 else
 none))
 | .ok q116 =>
 (bif (0 != 0) then
 some (.ex ())
 else
 (formula_From.f k (([] : List T_api_Node)++a0)).bind fun z128=>match z128 with
 | .ex p131=>(none)
 | .ok q132 =>
 some (.ok ((q132.1,q132.2),q116)))
def dictumlaw04_Tables.f (k:Nat) (a0:(List T_api_Node)) : Option ((T_formula_Table×(List (T_api_Node×Int)))×T_dictumref03_T):=
 (dictumlaw03_Both.f k a0).bind fun z101=>match z101 with
 | .ex p104=>((formula_New.f ).bind fun z118 =>
 some ((z118.1,z118.2),(⟨([] : List T_api_Node)⟩ : T_dictumref03_T)))
 | .ok q105 =>
 some ((q105.1.1,q105.1.2),q105.2)
def formula_Table_Copy.l1 (k:Nat) (a0:T_formula_Table) : Nat→Int→T_formula_Table→(List (T_api_Node×Int))→Option (T_formula_Table×(List (T_api_Node×Int)))
 | 0,_,_,_=>none
 | kk+1,x118,x119,x122 =>
  (bif (decide (x118 < (a0.f_rows.length:Int))) then
  (ix a0.f_rows x118).bind fun x135 =>
  ((chk (decide ((x119.f_rows.length+[x135].length) * 40≤140737488355328))).bind fun _ =>
  some (⟨(x119.f_rows++[x135])⟩ : T_formula_Table) : Option (T_formula_Table)).bind fun z159 =>
  formula_Table_Copy.l1 k a0 kk (wrap64 (x118+1)) z159 (mput T_api_Node.eqb x122 x135 x118)
  else
  some (x119,x122))
def formula_Table_Copy.f (k:Nat) (a0:T_formula_Table) (a0_1:(List (T_api_Node×Int))) : Option ((T_formula_Table×(List (T_api_Node×Int)))):=
 (formula_Table_alive.f a0 a0_1).bind fun z101 =>
 (formula_New.f ).bind fun z105 =>
 (formula_Table_Copy.l1 k a0 k 0 z105.1 z105.2).bind fun (x123,x126) =>
 some (x123,x126)
theorem formula_Table_Copy.l1.mono {k k':Nat} (hk:k≤k') (a0:T_formula_Table) : ∀ (n n':Nat) (hn:n≤n') y0 y1 y2,Le (formula_Table_Copy.l1 k a0 n y0 y1 y2) (formula_Table_Copy.l1 k' a0 n' y0 y1 y2):=by
 intro n
 induction n with
 | zero=>intro n' hn y0 y1 y2; exact Le.none _
 | succ n ih =>
  intro n' hn y0 y1 y2
  obtain ⟨n',rfl⟩ : ∃ m,n'=m+1:=⟨n' - 1,by omega⟩
  have hn':n≤n':=by omega
  rw [formula_Table_Copy.l1.eq_2,formula_Table_Copy.l1.eq_2]
  repeat' first
   | exact Le.refl _
   | exact ih n' hn' _ _ _
   | refine Le.bind ?_ fun x_=>?_
   | refine Le.cond ?_ ?_
   | refine Le.nilc ?_ ?_
   | split
theorem formula_Table_Copy.mono {k k':Nat} (hk:k≤k') (a0:T_formula_Table) (a0_1:(List (T_api_Node×Int))) : Le (formula_Table_Copy.f k a0 a0_1) (formula_Table_Copy.f k' a0 a0_1):=by
 unfold formula_Table_Copy.f
 repeat' first
  | exact Le.refl _
  | exact formula_Table_Copy.l1.mono hk _ _ _ hk _ _ _
  | refine Le.bind ?_ fun x_=>?_
  | refine Le.cond ?_ ?_
  | refine Le.nilc ?_ ?_
  | split
def syntax_known.f (k:Nat) (a0:T_formula_Table) (a0_1:(List (T_api_Node×Int))) : Option (Bool):=
 (formula_Table_Copy.f k a0 a0_1).bind fun z101 =>
 some true
theorem syntax_known.mono {k k':Nat} (hk:k≤k') (a0:T_formula_Table) (a0_1:(List (T_api_Node×Int))) : Le (syntax_known.f k a0 a0_1) (syntax_known.f k' a0 a0_1):=by
 unfold syntax_known.f
 repeat' first
  | exact Le.refl _
  | exact formula_Table_Copy.mono hk _ _
  | refine Le.bind ?_ fun x_=>?_
  | refine Le.cond ?_ ?_
  | refine Le.nilc ?_ ?_
  | split
def token_cursor_here.f (a0:T_token_cursor) : Option ((List UInt8)):=
 (cut a0.f_s a0.f_at.f_Off (a0.f_s.length:Int)).bind fun y103 =>
 some y103
def token_cursor_skip.l1 (k:Nat) (a0:T_token_cursor) (a1:Int) : Nat→T_token_cursor→Option (T_token_cursor)
 | 0,_=>none
 | kk+1,x101 =>
  (bif (decide (x101.f_at.f_Off < (wrap64 (a0.f_at.f_Off+a1)))) then
  (token_cursor_here.f x101).bind fun z111 =>
  (utf8_DecodeRuneInString.f z111).bind fun z115 =>
  ((ix x101.f_s x101.f_at.f_Off).bind fun x134 =>
  (bif (x134 == (10:UInt8)) then
  some (⟨x101.f_s,(⟨wrap64 (x101.f_at.f_Line+1),0,x101.f_at.f_Off⟩ : T_api_Spot)⟩ : T_token_cursor)
  else
  some x101) : Option (T_token_cursor)).bind fun z120 =>
  token_cursor_skip.l1 k a0 a1 kk (⟨z120.f_s,(⟨z120.f_at.f_Line,wrap64 (z120.f_at.f_Col+1),wrap64 (z120.f_at.f_Off+z115.2)⟩ : T_api_Spot)⟩ : T_token_cursor)
  else
  some x101)
def token_cursor_skip.f (k:Nat) (a0:T_token_cursor) (a1:Int) : Option (T_token_cursor):=
 (token_cursor_skip.l1 k a0 a1 k a0).bind fun z103 =>
 some z103
theorem token_cursor_skip.l1.mono {k k':Nat} (hk:k≤k') (a0:T_token_cursor) (a1:Int) : ∀ (n n':Nat) (hn:n≤n') y0,Le (token_cursor_skip.l1 k a0 a1 n y0) (token_cursor_skip.l1 k' a0 a1 n' y0):=by
 intro n
 induction n with
 | zero=>intro n' hn y0; exact Le.none _
 | succ n ih =>
  intro n' hn y0
  obtain ⟨n',rfl⟩ : ∃ m,n'=m+1:=⟨n' - 1,by omega⟩
  have hn':n≤n':=by omega
  rw [token_cursor_skip.l1.eq_2,token_cursor_skip.l1.eq_2]
  repeat' first
   | exact Le.refl _
   | exact ih n' hn' _
   | refine Le.bind ?_ fun x_=>?_
   | refine Le.cond ?_ ?_
   | refine Le.nilc ?_ ?_
   | split
theorem token_cursor_skip.mono {k k':Nat} (hk:k≤k') (a0:T_token_cursor) (a1:Int) : Le (token_cursor_skip.f k a0 a1) (token_cursor_skip.f k' a0 a1):=by
 unfold token_cursor_skip.f
 repeat' first
  | exact Le.refl _
  | exact token_cursor_skip.l1.mono hk _ _ _ _ hk _
  | refine Le.bind ?_ fun x_=>?_
  | refine Le.cond ?_ ?_
  | refine Le.nilc ?_ ?_
  | split
def token_cursor_space.l1 (k:Nat) : Nat→(List UInt8)→T_token_cursor→Option (T_token_cursor)
 | 0,_,_=>none
 | kk+1,x105,x106 =>
  (bif (!(x105 == ([] : List UInt8))) then
  (ix x105 (0:Int)).bind fun x116 =>
  ((bif (x116 == (32:UInt8)) then
  some (x116 == (32:UInt8))
  else
  (bif (x116 == (9:UInt8)) then
  some (x116 == (9:UInt8))
  else
  (bif (x116 == (10:UInt8)) then
  some (x116 == (10:UInt8))
  else
  some (x116 == (13:UInt8))))) : Option (Bool)).bind fun z118 =>
  (bif z118 then
  (token_cursor_skip.f k x106 1).bind fun z124 =>
  (token_cursor_here.f z124).bind fun z129 =>
  token_cursor_space.l1 k kk z129 z124
  else
  (bif (x116 == (35:UInt8)) then
  (strings_IndexByte.f x105 (10:UInt8)).bind fun z134 =>
  ((bif (decide (z134 < 0)) then
  some (x105.length:Int)
  else
  some z134) : Option (Int)).bind fun z139 =>
  (token_cursor_skip.f k x106 z139).bind fun z144 =>
  (token_cursor_here.f z144).bind fun z149 =>
  token_cursor_space.l1 k kk z149 z144
  else
  some x106))
  else
  some x106)
def token_cursor_space.f (k:Nat) (a0:T_token_cursor) : Option (T_token_cursor):=
 (token_cursor_here.f a0).bind fun z101 =>
 (token_cursor_space.l1 k k z101 a0).bind fun z108 =>
 some z108
theorem token_cursor_space.l1.mono {k k':Nat} (hk:k≤k') : ∀ (n n':Nat) (hn:n≤n') y0 y1,Le (token_cursor_space.l1 k n y0 y1) (token_cursor_space.l1 k' n' y0 y1):=by
 intro n
 induction n with
 | zero=>intro n' hn y0 y1; exact Le.none _
 | succ n ih =>
  intro n' hn y0 y1
  obtain ⟨n',rfl⟩ : ∃ m,n'=m+1:=⟨n' - 1,by omega⟩
  have hn':n≤n':=by omega
  rw [token_cursor_space.l1.eq_2,token_cursor_space.l1.eq_2]
  repeat' first
   | exact Le.refl _
   | exact token_cursor_skip.mono hk _ _
   | exact ih n' hn' _ _
   | refine Le.bind ?_ fun x_=>?_
   | refine Le.cond ?_ ?_
   | refine Le.nilc ?_ ?_
   | split
theorem token_cursor_space.mono {k k':Nat} (hk:k≤k') (a0:T_token_cursor) : Le (token_cursor_space.f k a0) (token_cursor_space.f k' a0):=by
 unfold token_cursor_space.f
 repeat' first
  | exact Le.refl _
  | exact token_cursor_skip.mono hk _ _
  | exact token_cursor_space.l1.mono hk _ _ hk _ _
  | refine Le.bind ?_ fun x_=>?_
  | refine Le.cond ?_ ?_
  | refine Le.nilc ?_ ?_
  | split
def token_letter.f (a0:UInt8) : Option (Bool):=
 (bif (decide ((97:UInt8)≤(a0 ||| (32:UInt8)))) then
 (bif (decide ((a0 ||| (32:UInt8))≤(122:UInt8))) then
 some true
 else
 some (a0 == (95:UInt8)))
 else
 some (a0 == (95:UInt8)))
def token_digit.f (a0:UInt8) : Option (Bool):=
 (bif (decide ((48:UInt8)≤a0)) then
 some (decide (a0≤(57:UInt8)))
 else
 some false)
def token_tail.f (a0:UInt8) : Option (Bool):=
 (token_letter.f a0).bind fun z101 =>
 (bif z101 then
 some true
 else
 (token_digit.f a0).bind fun z106 =>
 (bif z106 then
 some true
 else
 some (a0 == (39:UInt8))))
def token_run_token_tail.l1 (k:Nat) (a0:List UInt8) : Nat→Int→Option (Int)
 | 0,_=>none
 | kk+1,x101 =>
  ((bif (decide (x101 < (a0.length:Int))) then
  (ix a0 x101).bind fun x119 =>
  (token_tail.f x119).bind fun z120 =>
  some z120
  else
  some false) : Option (Bool)).bind fun z111 =>
  (bif z111 then
  token_run_token_tail.l1 k a0 kk (wrap64 (x101+1))
  else
  some x101)
def token_run_token_tail.f (k:Nat) (a0:List UInt8) : Option (Int):=
 (token_run_token_tail.l1 k a0 k 0).bind fun z103 =>
 some z103
theorem token_run_token_tail.l1.mono {k k':Nat} (hk:k≤k') (a0:List UInt8) : ∀ (n n':Nat) (hn:n≤n') y0,Le (token_run_token_tail.l1 k a0 n y0) (token_run_token_tail.l1 k' a0 n' y0):=by
 intro n
 induction n with
 | zero=>intro n' hn y0; exact Le.none _
 | succ n ih =>
  intro n' hn y0
  obtain ⟨n',rfl⟩ : ∃ m,n'=m+1:=⟨n' - 1,by omega⟩
  have hn':n≤n':=by omega
  rw [token_run_token_tail.l1.eq_2,token_run_token_tail.l1.eq_2]
  repeat' first
   | exact Le.refl _
   | exact ih n' hn' _
   | refine Le.bind ?_ fun x_=>?_
   | refine Le.cond ?_ ?_
   | refine Le.nilc ?_ ?_
   | split
theorem token_run_token_tail.mono {k k':Nat} (hk:k≤k') (a0:List UInt8) : Le (token_run_token_tail.f k a0) (token_run_token_tail.f k' a0):=by
 unfold token_run_token_tail.f
 repeat' first
  | exact Le.refl _
  | exact token_run_token_tail.l1.mono hk _ _ _ hk _
  | refine Le.bind ?_ fun x_=>?_
  | refine Le.cond ?_ ?_
  | refine Le.nilc ?_ ?_
  | split
def token_run_token_digit.l1 (k:Nat) (a0:List UInt8) : Nat→Int→Option (Int)
 | 0,_=>none
 | kk+1,x101 =>
  ((bif (decide (x101 < (a0.length:Int))) then
  (ix a0 x101).bind fun x119 =>
  (token_digit.f x119).bind fun z120 =>
  some z120
  else
  some false) : Option (Bool)).bind fun z111 =>
  (bif z111 then
  token_run_token_digit.l1 k a0 kk (wrap64 (x101+1))
  else
  some x101)
def token_run_token_digit.f (k:Nat) (a0:List UInt8) : Option (Int):=
 (token_run_token_digit.l1 k a0 k 0).bind fun z103 =>
 some z103
theorem token_run_token_digit.l1.mono {k k':Nat} (hk:k≤k') (a0:List UInt8) : ∀ (n n':Nat) (hn:n≤n') y0,Le (token_run_token_digit.l1 k a0 n y0) (token_run_token_digit.l1 k' a0 n' y0):=by
 intro n
 induction n with
 | zero=>intro n' hn y0; exact Le.none _
 | succ n ih =>
  intro n' hn y0
  obtain ⟨n',rfl⟩ : ∃ m,n'=m+1:=⟨n' - 1,by omega⟩
  have hn':n≤n':=by omega
  rw [token_run_token_digit.l1.eq_2,token_run_token_digit.l1.eq_2]
  repeat' first
   | exact Le.refl _
   | exact ih n' hn' _
   | refine Le.bind ?_ fun x_=>?_
   | refine Le.cond ?_ ?_
   | refine Le.nilc ?_ ?_
   | split
theorem token_run_token_digit.mono {k k':Nat} (hk:k≤k') (a0:List UInt8) : Le (token_run_token_digit.f k a0) (token_run_token_digit.f k' a0):=by
 unfold token_run_token_digit.f
 repeat' first
  | exact Le.refl _
  | exact token_run_token_digit.l1.mono hk _ _ _ hk _
  | refine Le.bind ?_ fun x_=>?_
  | refine Le.cond ?_ ?_
  | refine Le.nilc ?_ ?_
  | split
def stringslite_HasPrefix.f (a0:List UInt8) (a1:List UInt8) : Option (Bool):=
 (bif (decide ((a0.length:Int) ≥ (a1.length:Int))) then
 (cut a0 0 (a1.length:Int)).bind fun y102 =>
 some (y102 == a1)
 else
 some false)
def strings_HasPrefix.f (a0:List UInt8) (a1:List UInt8) : Option (Bool):=
 (stringslite_HasPrefix.f a0 a1).bind fun z101 =>
 some z101
def token_sign.l1 (k:Nat) (a0:List UInt8) : Nat→Int→Option (Sum ((List UInt8)×Int) (Unit))
 | 0,_=>none
 | kk+1,x101 =>
  (bif (decide (x101 < 20)) then
  (ix ([([60,45,62] : List UInt8),([60,61] : List UInt8),([61,62] : List UInt8),([45,62] : List UInt8),([124,45] : List UInt8),([126] : List UInt8),([38] : List UInt8),([124] : List UInt8),([40] : List UInt8),([41] : List UInt8),([91] : List UInt8),([93] : List UInt8),([123] : List UInt8),([125] : List UInt8),([44] : List UInt8),([46] : List UInt8),([58] : List UInt8),([59] : List UInt8),([61] : List UInt8),([47] : List UInt8)] : List (List UInt8)) x101).bind fun x110 =>
  (strings_HasPrefix.f a0 x110).bind fun z111 =>
  (bif z111 then
  some (.inl (x110,(x110.length:Int)))
  else
  token_sign.l1 k a0 kk (wrap64 (x101+1)))
  else
  some (.inr ()))
def token_sign.f (k:Nat) (a0:List UInt8) : Option ((List UInt8)×Int):=
 (token_sign.l1 k a0 k 0).bind fun z102=>match z102 with
 | .inl r_=>some r_
 | .inr _ =>
 (utf8_DecodeRuneInString.f a0).bind fun z119 =>
 (bif (z119.1 == 172) then
 some (([126] : List UInt8),z119.2)
 else
 (bif (z119.1 == 8743) then
 some (([38] : List UInt8),z119.2)
 else
 (bif (z119.1 == 8744) then
 some (([124] : List UInt8),z119.2)
 else
 (bif (z119.1 == 8594) then
 some (([45,62] : List UInt8),z119.2)
 else
 (bif (z119.1 == 8596) then
 some (([60,45,62] : List UInt8),z119.2)
 else
 (bif (z119.1 == 8866) then
 some (([124,45] : List UInt8),z119.2)
 else
 (bif (z119.1 == 8804) then
 some (([60,61] : List UInt8),z119.2)
 else
 some (([] : List UInt8),0))))))))
theorem token_sign.l1.mono {k k':Nat} (hk:k≤k') (a0:List UInt8) : ∀ (n n':Nat) (hn:n≤n') y0,Le (token_sign.l1 k a0 n y0) (token_sign.l1 k' a0 n' y0):=by
 intro n
 induction n with
 | zero=>intro n' hn y0; exact Le.none _
 | succ n ih =>
  intro n' hn y0
  obtain ⟨n',rfl⟩ : ∃ m,n'=m+1:=⟨n' - 1,by omega⟩
  have hn':n≤n':=by omega
  rw [token_sign.l1.eq_2,token_sign.l1.eq_2]
  repeat' first
   | exact Le.refl _
   | exact ih n' hn' _
   | refine Le.bind ?_ fun x_=>?_
   | refine Le.cond ?_ ?_
   | refine Le.nilc ?_ ?_
   | split
theorem token_sign.mono {k k':Nat} (hk:k≤k') (a0:List UInt8) : Le (token_sign.f k a0) (token_sign.f k' a0):=by
 unfold token_sign.f
 repeat' first
  | exact Le.refl _
  | exact token_sign.l1.mono hk _ _ _ hk _
  | refine Le.bind ?_ fun x_=>?_
  | refine Le.cond ?_ ?_
  | refine Le.nilc ?_ ?_
  | split
def token_word.f (k:Nat) (a0:List UInt8) : Option (T_api_Token×Int×Int):=
 (ix a0 (0:Int)).bind fun x106 =>
 (token_letter.f x106).bind fun z107 =>
 (bif z107 then
 (token_run_token_tail.f k a0).bind fun z112 =>
 (bif (decide (z112 > 31)) then
 some ((⟨(0:Int),([] : List UInt8),(0:Int),(⟨(0:Int),(0:Int),(0:Int)⟩ : T_api_Spot)⟩ : T_api_Token),0,22)
 else
 (cut a0 0 z112).bind fun y120 =>
 some ((⟨1,y120,(0:Int),(⟨(0:Int),(0:Int),(0:Int)⟩ : T_api_Spot)⟩ : T_api_Token),z112,0))
 else
 (ix a0 (0:Int)).bind fun x124 =>
 (token_digit.f x124).bind fun z125 =>
 (bif z125 then
 (token_run_token_digit.f k a0).bind fun z130 =>
 (cut a0 0 z130).bind fun y134 =>
 (strconv_Atoi.f y134).bind fun z135 =>
 ((bif (decide (z130 > 1)) then
 (ix a0 (0:Int)).bind fun x156 =>
 (bif (x156 == (48:UInt8)) then
 some true
 else
 (bif z135.2 then
 some true
 else
 (bif (decide (z135.1 > 999999999)) then
 some true
 else
 (bif (decide (z130 < (a0.length:Int))) then
 (ix a0 z130).bind fun x161 =>
 (token_tail.f x161).bind fun z162 =>
 some z162
 else
 some false))))
 else
 (bif z135.2 then
 some true
 else
 (bif (decide (z135.1 > 999999999)) then
 some true
 else
 (bif (decide (z130 < (a0.length:Int))) then
 (ix a0 z130).bind fun x169 =>
 (token_tail.f x169).bind fun z170 =>
 some z170
 else
 some false)))) : Option (Bool)).bind fun z142 =>
 (bif z142 then
 some ((⟨(0:Int),([] : List UInt8),(0:Int),(⟨(0:Int),(0:Int),(0:Int)⟩ : T_api_Spot)⟩ : T_api_Token),0,21)
 else
 some ((⟨2,([] : List UInt8),z135.1,(⟨(0:Int),(0:Int),(0:Int)⟩ : T_api_Spot)⟩ : T_api_Token),z130,0))
 else
 (utf8_DecodeRuneInString.f a0).bind fun z174 =>
 (bif (z174.1 == 8868) then
 some ((⟨1,([116,114,117,101] : List UInt8),(0:Int),(⟨(0:Int),(0:Int),(0:Int)⟩ : T_api_Spot)⟩ : T_api_Token),z174.2,0)
 else
 (bif (z174.1 == 8869) then
 some ((⟨1,([102,97,108,115,101] : List UInt8),(0:Int),(⟨(0:Int),(0:Int),(0:Int)⟩ : T_api_Spot)⟩ : T_api_Token),z174.2,0)
 else
 (token_sign.f k a0).bind fun z186 =>
 (bif (z186.2 == 0) then
 some ((⟨(0:Int),([] : List UInt8),(0:Int),(⟨(0:Int),(0:Int),(0:Int)⟩ : T_api_Spot)⟩ : T_api_Token),0,20)
 else
 some ((⟨3,z186.1,(0:Int),(⟨(0:Int),(0:Int),(0:Int)⟩ : T_api_Spot)⟩ : T_api_Token),z186.2,0))))))
theorem token_word.mono {k k':Nat} (hk:k≤k') (a0:List UInt8) : Le (token_word.f k a0) (token_word.f k' a0):=by
 unfold token_word.f
 repeat' first
  | exact Le.refl _
  | exact token_run_token_digit.mono hk _
  | exact token_run_token_tail.mono hk _
  | exact token_sign.mono hk _
  | refine Le.bind ?_ fun x_=>?_
  | refine Le.cond ?_ ?_
  | refine Le.nilc ?_ ?_
  | split
def token_Scan.l1 (k:Nat) : Nat→(List T_api_Token)→T_token_cursor→Option (Sum ((List T_api_Token)×T_api_Fault) (Unit))
 | 0,_,_=>none
 | kk+1,x113,x114 =>
  (token_cursor_space.f k x114).bind fun z122 =>
  (token_cursor_here.f z122).bind fun z127 =>
  (bif (z127 == ([] : List UInt8)) then
  (chk (decide ((x113.length+([(⟨(0:Int),([] : List UInt8),(0:Int),(⟨z122.f_at.f_Line,z122.f_at.f_Col,z122.f_at.f_Off⟩ : T_api_Spot)⟩ : T_api_Token)]).length) * 56≤140737488355328))).bind fun _ =>
  some (.inl ((x113++[(⟨(0:Int),([] : List UInt8),(0:Int),(⟨z122.f_at.f_Line,z122.f_at.f_Col,z122.f_at.f_Off⟩ : T_api_Spot)⟩ : T_api_Token)]),(⟨(0:Int),(⟨(0:Int),(0:Int),(0:Int)⟩ : T_api_Spot)⟩ : T_api_Fault)))
  else
  (token_cursor_here.f z122).bind fun z149 =>
  (token_word.f k z149).bind fun z153 =>
  (bif (z153.2.2 != 0) then
  some (.inl (([] : List T_api_Token),(⟨z153.2.2,(⟨z122.f_at.f_Line,z122.f_at.f_Col,z122.f_at.f_Off⟩ : T_api_Spot)⟩ : T_api_Fault)))
  else
  (chk (decide ((x113.length+[(⟨z153.1.f_Kind,z153.1.f_Text,z153.1.f_Int,(⟨z122.f_at.f_Line,z122.f_at.f_Col,z122.f_at.f_Off⟩ : T_api_Spot)⟩ : T_api_Token)].length) * 56≤140737488355328))).bind fun _ =>
  (token_cursor_skip.f k z122 z153.2.1).bind fun z188 =>
  token_Scan.l1 k kk (x113++[(⟨z153.1.f_Kind,z153.1.f_Text,z153.1.f_Int,(⟨z122.f_at.f_Line,z122.f_at.f_Col,z122.f_at.f_Off⟩ : T_api_Spot)⟩ : T_api_Token)]) z188))
def token_Scan.f (k:Nat) (a0:List UInt8) : Option ((List T_api_Token)×T_api_Fault):=
 (token_Scan.l1 k k ([] : List T_api_Token) (⟨a0,(⟨1,1,(0:Int)⟩ : T_api_Spot)⟩ : T_token_cursor)).bind fun z115=>match z115 with
 | .inl r_=>some r_
 | .inr _ =>
 none
theorem token_Scan.l1.mono {k k':Nat} (hk:k≤k') : ∀ (n n':Nat) (hn:n≤n') y0 y1,Le (token_Scan.l1 k n y0 y1) (token_Scan.l1 k' n' y0 y1):=by
 intro n
 induction n with
 | zero=>intro n' hn y0 y1; exact Le.none _
 | succ n ih =>
  intro n' hn y0 y1
  obtain ⟨n',rfl⟩ : ∃ m,n'=m+1:=⟨n' - 1,by omega⟩
  have hn':n≤n':=by omega
  rw [token_Scan.l1.eq_2,token_Scan.l1.eq_2]
  repeat' first
   | exact Le.refl _
   | exact token_cursor_skip.mono hk _ _
   | exact token_cursor_space.mono hk _
   | exact token_word.mono hk _
   | exact ih n' hn' _ _
   | refine Le.bind ?_ fun x_=>?_
   | refine Le.cond ?_ ?_
   | refine Le.nilc ?_ ?_
   | split
theorem token_Scan.mono {k k':Nat} (hk:k≤k') (a0:List UInt8) : Le (token_Scan.f k a0) (token_Scan.f k' a0):=by
 unfold token_Scan.f
 repeat' first
  | exact Le.refl _
  | exact token_cursor_skip.mono hk _ _
  | exact token_cursor_space.mono hk _
  | exact token_word.mono hk _
  | exact token_Scan.l1.mono hk _ _ hk _ _
  | refine Le.bind ?_ fun x_=>?_
  | refine Le.cond ?_ ?_
  | refine Le.nilc ?_ ?_
  | split
def syntax_ahead.f (k:Nat) (a0:List UInt8) : Option ((List T_api_Token)×T_api_Fault):=
 (token_Scan.f k a0).bind fun z106 =>
 (bif (z106.2.f_Code == 0) then
 some (z106.1,z106.2)
 else
 (cut a0 0 z106.2.f_At.f_Off).bind fun y126 =>
 (token_Scan.f k y126).bind fun z127 =>
 ((bif (decide ((z127.1.length:Int) > 0)) then
 (ix z127.1 (wrap64 ((z127.1.length:Int) - 1))).bind fun x151 =>
 some (z127.1.set (wrap64 ((z127.1.length:Int) - 1)).toNat (⟨x151.f_Kind,x151.f_Text,x151.f_Int,(⟨z106.2.f_At.f_Line,z106.2.f_At.f_Col,z106.2.f_At.f_Off⟩ : T_api_Spot)⟩ : T_api_Token))
 else
 some z127.1) : Option ((List T_api_Token))).bind fun z136 =>
 some (z136,z106.2))
theorem syntax_ahead.mono {k k':Nat} (hk:k≤k') (a0:List UInt8) : Le (syntax_ahead.f k a0) (syntax_ahead.f k' a0):=by
 unfold syntax_ahead.f
 repeat' first
  | exact Le.refl _
  | exact token_Scan.mono hk _
  | refine Le.bind ?_ fun x_=>?_
  | refine Le.cond ?_ ?_
  | refine Le.nilc ?_ ?_
  | split
def syntax_counted.f (a0:T_api_Token) : Option (Bool):=
 ((bif (a0.f_Kind == 3) then
 ((bif (a0.f_Text == ([126] : List UInt8)) then
 some (a0.f_Text == ([126] : List UInt8))
 else
 (bif (a0.f_Text == ([38] : List UInt8)) then
 some (a0.f_Text == ([38] : List UInt8))
 else
 (bif (a0.f_Text == ([124] : List UInt8)) then
 some (a0.f_Text == ([124] : List UInt8))
 else
 (bif (a0.f_Text == ([45,62] : List UInt8)) then
 some (a0.f_Text == ([45,62] : List UInt8))
 else
 some (a0.f_Text == ([60,45,62] : List UInt8)))))) : Option (Bool)).bind fun z114 =>
 (bif z114 then
 some (.inl true)
 else
 some (.inr ()))
 else
 some (.inr ())) : Option (Sum (Bool) (Unit))).bind fun z106=>match z106 with
 | .inl r_=>some r_
 | .inr _ =>
 some (a0.f_Kind == 1)
def formula_Table_Len.f (a0:T_formula_Table) (a0_1:(List (T_api_Node×Int))) : Option (Int):=
 (formula_Table_alive.f a0 a0_1).bind fun z101 =>
 some (a0.f_rows.length:Int)
def syntax_reader_now.f (a0:T_syntax_reader) (a0_0:T_formula_Table) (a0_0_1:(List (T_api_Node×Int))) : Option (T_api_Token):=
 (bif (decide (a0.f_i < (a0.f_l.length:Int))) then
 (ix a0.f_l a0.f_i).bind fun x111 =>
 some x111
 else
 some (⟨(0:Int),([] : List UInt8),(0:Int),(⟨(0:Int),(0:Int),(0:Int)⟩ : T_api_Spot)⟩ : T_api_Token))
def syntax_reader_fail.f (a0:T_syntax_reader) (a1:Int) (a0_0:T_formula_Table) (a0_0_1:(List (T_api_Node×Int))) : Option (Exn (T_syntax_broken) (Unit)):=
 (syntax_reader_now.f a0 a0_0 a0_0_1).bind fun z101 =>
 some (.ex (⟨(⟨a1,(⟨z101.f_At.f_Line,z101.f_At.f_Col,z101.f_At.f_Off⟩ : T_api_Spot)⟩ : T_api_Fault)⟩ : T_syntax_broken))
def syntax_reader_take.f (a0:T_syntax_reader) (a0_0:T_formula_Table) (a0_0_1:(List (T_api_Node×Int))) : Option (Exn (T_syntax_broken×T_syntax_reader) (T_api_Token×T_syntax_reader)):=
 (syntax_reader_now.f a0 a0_0 a0_0_1).bind fun z106 =>
 (((syntax_counted.f z106).bind fun z160 =>
 (bif z160 then
 some a0.f_counts
 else
 some false) : Option (Bool)).bind fun z136 =>
 (bif z136 then
 ((bif (a0.f_names == 512) then
 (syntax_reader_fail.f a0 40 a0_0 a0_0_1).bind fun z152=>match z152 with
 | .ex p155=>(some (.inl (.ex (p155,a0))))
 | .ok q156 =>
 some (.inr ())
 else
 some (.inr ())) : Option (Sum (Exn (T_syntax_broken×T_syntax_reader) (T_api_Token×T_syntax_reader)) (Unit))).bind fun z142=>match z142 with
 | .inl r_=>some (.inl r_)
 | .inr _ =>
 some (.inr (⟨a0.f_l,a0.f_i,wrap64 (a0.f_names+1),a0.f_nest,a0.f_counts,a0.f_full⟩ : T_syntax_reader))
 else
 some (.inr a0)) : Option (Sum (Exn (T_syntax_broken×T_syntax_reader) (T_api_Token×T_syntax_reader)) (T_syntax_reader))).bind fun z123=>match z123 with
 | .inl r_=>some r_
 | .inr x118 =>
 some (.ok (z106,(⟨x118.f_l,wrap64 (x118.f_i+1),x118.f_names,x118.f_nest,x118.f_counts,x118.f_full⟩ : T_syntax_reader)))
def syntax_reader_sign.f (a0:T_syntax_reader) (a1:List UInt8) (a0_0:T_formula_Table) (a0_0_1:(List (T_api_Node×Int))) : Option (Exn (T_syntax_broken×T_syntax_reader) (Bool×T_syntax_reader)):=
 (syntax_reader_now.f a0 a0_0 a0_0_1).bind fun z101 =>
 ((bif (z101.f_Kind != 3) then
 some true
 else
 some (!(z101.f_Text == a1))) : Option (Bool)).bind fun z114 =>
 (bif z114 then
 some (.ok (false,a0))
 else
 (syntax_reader_take.f a0 a0_0 a0_0_1).bind fun z120=>match z120 with
 | .ex p123=>(some (.ex (p123.1,p123.2)))
 | .ok q124 =>
 some (.ok (true,q124.2)))
def syntax_reader_put.f (a0:T_syntax_reader) (a1:Int) (a2:Int) (a0_0:T_formula_Table) (a0_0_1:(List (T_api_Node×Int))) : Option (Int×T_syntax_reader):=
 (bif a0.f_full then
 some (a1,(⟨a0.f_l,a0.f_i,a0.f_names,a0.f_nest,a0.f_counts,true⟩ : T_syntax_reader))
 else
 some (a1,(⟨a0.f_l,a0.f_i,a0.f_names,a0.f_nest,a0.f_counts,(a2 == 30)⟩ : T_syntax_reader)))
def syntax_reader_node.f (k:Nat) (a0:T_syntax_reader) (a1:Int) (a2:List UInt8) (a3:Int) (a4:Int) (a0_0:T_formula_Table) (a0_0_1:(List (T_api_Node×Int))) : Option (Int×T_syntax_reader×T_formula_Table×(List (T_api_Node×Int))):=
 (bif a0.f_full then
 some (0,a0,a0_0,a0_0_1)
 else
 (formula_Table_Put.f k a0_0 (⟨a1,a2,a3,a4⟩ : T_api_Node) a0_0_1).bind fun z102 =>
 (syntax_reader_put.f a0 z102.1 z102.2.1 z102.2.2.1 z102.2.2.2).bind fun z110 =>
 some (z110.1,z110.2,z102.2.2.1,z102.2.2.2))
theorem syntax_reader_node.mono {k k':Nat} (hk:k≤k') (a0:T_syntax_reader) (a1:Int) (a2:List UInt8) (a3:Int) (a4:Int) (a0_0:T_formula_Table) (a0_0_1:(List (T_api_Node×Int))) : Le (syntax_reader_node.f k a0 a1 a2 a3 a4 a0_0 a0_0_1) (syntax_reader_node.f k' a0 a1 a2 a3 a4 a0_0 a0_0_1):=by
 unfold syntax_reader_node.f
 repeat' first
  | exact Le.refl _
  | exact formula_Table_Put.mono hk _ _ _
  | refine Le.bind ?_ fun x_=>?_
  | refine Le.cond ?_ ?_
  | refine Le.nilc ?_ ?_
  | split
structure G_syntax_reader_formula where
 syntax_reader_formula:(a0:T_syntax_reader)→(a0_0:T_formula_Table)→(a0_0_1:(List (T_api_Node×Int)))→Option (Exn (T_syntax_broken×T_syntax_reader×T_formula_Table×(List (T_api_Node×Int))) (Int×T_syntax_reader×T_formula_Table×(List (T_api_Node×Int))))
 syntax_reader_single:(a0:T_syntax_reader)→(a0_0:T_formula_Table)→(a0_0_1:(List (T_api_Node×Int)))→Option (Exn (T_syntax_broken×T_syntax_reader×T_formula_Table×(List (T_api_Node×Int))) (Int×T_syntax_reader×T_formula_Table×(List (T_api_Node×Int))))
 syntax_reader_row_syntax_reader_single:(a0:T_syntax_reader)→(a1:List UInt8)→(a3:Int)→(a0_0:T_formula_Table)→(a0_0_1:(List (T_api_Node×Int)))→Option (Exn (T_syntax_broken×T_syntax_reader×T_formula_Table×(List (T_api_Node×Int))) (Int×T_syntax_reader×T_formula_Table×(List (T_api_Node×Int))))
 syntax_reader_both:(a0:T_syntax_reader)→(a0_0:T_formula_Table)→(a0_0_1:(List (T_api_Node×Int)))→Option (Exn (T_syntax_broken×T_syntax_reader×T_formula_Table×(List (T_api_Node×Int))) (Int×T_syntax_reader×T_formula_Table×(List (T_api_Node×Int))))
 syntax_reader_row_syntax_reader_both:(a0:T_syntax_reader)→(a1:List UInt8)→(a3:Int)→(a0_0:T_formula_Table)→(a0_0_1:(List (T_api_Node×Int)))→Option (Exn (T_syntax_broken×T_syntax_reader×T_formula_Table×(List (T_api_Node×Int))) (Int×T_syntax_reader×T_formula_Table×(List (T_api_Node×Int))))
 syntax_reader_implied:(a0:T_syntax_reader)→(a0_0:T_formula_Table)→(a0_0_1:(List (T_api_Node×Int)))→Option (Exn (T_syntax_broken×T_syntax_reader×T_formula_Table×(List (T_api_Node×Int))) (Int×T_syntax_reader×T_formula_Table×(List (T_api_Node×Int))))
def syntax_reader_formula.F (k:Nat) (R:G_syntax_reader_formula) (a0:T_syntax_reader) (a0_0:T_formula_Table) (a0_0_1:(List (T_api_Node×Int))) : Option (Exn (T_syntax_broken×T_syntax_reader×T_formula_Table×(List (T_api_Node×Int))) (Int×T_syntax_reader×T_formula_Table×(List (T_api_Node×Int)))):=
 (R.syntax_reader_implied a0 a0_0 a0_0_1).bind fun z101=>match z101 with
 | .ex p104=>(some (.ex (p104.1,p104.2.1,p104.2.2.1,p104.2.2.2)))
 | .ok q105 =>
 (syntax_reader_sign.f q105.2.1 ([60,45,62] : List UInt8) q105.2.2.1 q105.2.2.2).bind fun z126=>match z126 with
 | .ex p129=>(some (.ex (p129.1,p129.2,q105.2.2.1,q105.2.2.2)))
 | .ok q130 =>
 (bif (!q130.1) then
 some (.ok (q105.1,q130.2,q105.2.2.1,q105.2.2.2))
 else
 (R.syntax_reader_formula q130.2 q105.2.2.1 q105.2.2.2).bind fun z144=>match z144 with
 | .ex p147=>(some (.ex (p147.1,p147.2.1,p147.2.2.1,p147.2.2.2)))
 | .ok q148 =>
 (syntax_reader_node.f k q148.2.1 5 ([] : List UInt8) q105.1 q148.1 q148.2.2.1 q148.2.2.2).bind fun z169 =>
 (syntax_reader_node.f k z169.2.1 5 ([] : List UInt8) q148.1 q105.1 z169.2.2.1 z169.2.2.2).bind fun z182 =>
 (syntax_reader_node.f k z182.2.1 3 ([] : List UInt8) z169.1 z182.1 z182.2.2.1 z182.2.2.2).bind fun z195 =>
 some (.ok (z195.1,z195.2.1,z195.2.2.1,z195.2.2.2)))
def syntax_reader_single.F (k:Nat) (R:G_syntax_reader_formula) (a0:T_syntax_reader) (a0_0:T_formula_Table) (a0_0_1:(List (T_api_Node×Int))) : Option (Exn (T_syntax_broken×T_syntax_reader×T_formula_Table×(List (T_api_Node×Int))) (Int×T_syntax_reader×T_formula_Table×(List (T_api_Node×Int)))):=
 (syntax_reader_now.f a0 a0_0 a0_0_1).bind fun z101 =>
 (syntax_reader_sign.f a0 ([126] : List UInt8) a0_0 a0_0_1).bind fun z113=>match z113 with
 | .ex p116=>(some (.ex (p116.1,p116.2,a0_0,a0_0_1)))
 | .ok q117 =>
 (bif q117.1 then
 (R.syntax_reader_single q117.2 a0_0 a0_0_1).bind fun z131=>match z131 with
 | .ex p134=>(some (.ex (p134.1,p134.2.1,p134.2.2.1,p134.2.2.2)))
 | .ok q135 =>
 (syntax_reader_node.f k q135.2.1 2 ([] : List UInt8) 0 0 q135.2.2.1 q135.2.2.2).bind fun z156 =>
 (syntax_reader_node.f k z156.2.1 5 ([] : List UInt8) q135.1 z156.1 z156.2.2.1 z156.2.2.2).bind fun z169 =>
 some (.ok (z169.1,z169.2.1,z169.2.2.1,z169.2.2.2))
 else
 ((bif (z101.f_Kind == 3) then
 some (z101.f_Text == ([40] : List UInt8))
 else
 some false) : Option (Bool)).bind fun z183 =>
 (bif z183 then
 ((bif (q117.2.f_nest == 1024) then
 (syntax_reader_fail.f q117.2 41 a0_0 a0_0_1).bind fun z280=>match z280 with
 | .ex p283=>(some (.inl (.ex (p283,q117.2,a0_0,a0_0_1))))
 | .ok q284 =>
 some (.inr ())
 else
 some (.inr ())) : Option (Sum (Exn (T_syntax_broken×T_syntax_reader×T_formula_Table×(List (T_api_Node×Int))) (Int×T_syntax_reader×T_formula_Table×(List (T_api_Node×Int)))) (Unit))).bind fun z189=>match z189 with
 | .inl r_=>some r_
 | .inr _ =>
 (syntax_reader_take.f (⟨q117.2.f_l,q117.2.f_i,q117.2.f_names,wrap64 (q117.2.f_nest+1),q117.2.f_counts,q117.2.f_full⟩ : T_syntax_reader) a0_0 a0_0_1).bind fun z197=>match z197 with
 | .ex p200=>(some (.ex (p200.1,p200.2,a0_0,a0_0_1)))
 | .ok q201 =>
 (R.syntax_reader_formula q201.2 a0_0 a0_0_1).bind fun z214=>match z214 with
 | .ex p217=>(some (.ex (p217.1,p217.2.1,p217.2.2.1,p217.2.2.2)))
 | .ok q218 =>
 ((syntax_reader_sign.f q218.2.1 ([41] : List UInt8) q218.2.2.1 q218.2.2.2).bind fun z253=>match z253 with
 | .ex p256=>(some (.inl (.ex (p256.1,p256.2,q218.2.2.1,q218.2.2.2))))
 | .ok q257 =>
 (bif (!q257.1) then
 (syntax_reader_fail.f q257.2 41 q218.2.2.1 q218.2.2.2).bind fun z271=>match z271 with
 | .ex p274=>(some (.inl (.ex (p274,q257.2,q218.2.2.1,q218.2.2.2))))
 | .ok q275 =>
 some (.inr q257.2)
 else
 some (.inr q257.2)) : Option (Sum (Exn (T_syntax_broken×T_syntax_reader×T_formula_Table×(List (T_api_Node×Int))) (Int×T_syntax_reader×T_formula_Table×(List (T_api_Node×Int)))) (T_syntax_reader))).bind fun z244=>match z244 with
 | .inl r_=>some r_
 | .inr x239 =>
 some (.ok (q218.1,(⟨x239.f_l,x239.f_i,x239.f_names,wrap64 (x239.f_nest - 1),x239.f_counts,x239.f_full⟩ : T_syntax_reader),q218.2.2.1,q218.2.2.2))
 else
 ((bif (z101.f_Kind == 1) then
 some (z101.f_Text == ([116,114,117,101] : List UInt8))
 else
 some false) : Option (Bool)).bind fun z288 =>
 (bif z288 then
 (syntax_reader_take.f q117.2 a0_0 a0_0_1).bind fun z294=>match z294 with
 | .ex p297=>(some (.ex (p297.1,p297.2,a0_0,a0_0_1)))
 | .ok q298 =>
 (syntax_reader_node.f k q298.2 2 ([] : List UInt8) 0 0 a0_0 a0_0_1).bind fun z311 =>
 (syntax_reader_node.f k z311.2.1 5 ([] : List UInt8) z311.1 z311.1 z311.2.2.1 z311.2.2.2).bind fun z324 =>
 some (.ok (z324.1,z324.2.1,z324.2.2.1,z324.2.2.2))
 else
 ((bif (z101.f_Kind == 1) then
 some (z101.f_Text == ([102,97,108,115,101] : List UInt8))
 else
 some false) : Option (Bool)).bind fun z338 =>
 (bif z338 then
 (syntax_reader_take.f q117.2 a0_0 a0_0_1).bind fun z344=>match z344 with
 | .ex p347=>(some (.ex (p347.1,p347.2,a0_0,a0_0_1)))
 | .ok q348 =>
 (syntax_reader_node.f k q348.2 2 ([] : List UInt8) 0 0 a0_0 a0_0_1).bind fun z361 =>
 some (.ok (z361.1,z361.2.1,z361.2.2.1,z361.2.2.2))
 else
 ((bif (z101.f_Kind == 1) then
 (formula_Word.f k z101.f_Text).bind fun z420 =>
 some z420
 else
 some false) : Option (Bool)).bind fun z375 =>
 (bif z375 then
 (syntax_reader_take.f q117.2 a0_0 a0_0_1).bind fun z381=>match z381 with
 | .ex p384=>(some (.ex (p384.1,p384.2,a0_0,a0_0_1)))
 | .ok q385 =>
 (syntax_reader_node.f k q385.2 1 z101.f_Text 0 0 a0_0 a0_0_1).bind fun z398 =>
 some (.ok (z398.1,z398.2.1,z398.2.2.1,z398.2.2.2))
 else
 (syntax_reader_fail.f q117.2 41 a0_0 a0_0_1).bind fun z411=>match z411 with
 | .ex p414=>(some (.ex (p414,q117.2,a0_0,a0_0_1)))
 | .ok q415 =>
 some (.ok (0,q117.2,a0_0,a0_0_1)))))))
def syntax_reader_row_syntax_reader_single.l1 (k:Nat) (a1:List UInt8) (a3:Int) (R:G_syntax_reader_formula) : Nat→Int→T_syntax_reader→T_formula_Table→(List (T_api_Node×Int))→Option (Sum (Exn (T_syntax_broken×T_syntax_reader×T_formula_Table×(List (T_api_Node×Int))) (Int×T_syntax_reader×T_formula_Table×(List (T_api_Node×Int)))) (Int×T_syntax_reader×T_formula_Table×(List (T_api_Node×Int))))
 | 0,_,_,_,_=>none
 | kk+1,x126,x127,x132,x135 =>
  (syntax_reader_sign.f x127 a1 x132 x135).bind fun z153=>match z153 with
  | .ex p156=>(some (.inl (.ex (p156.1,p156.2,x132,x135))))
  | .ok q157 =>
  (bif q157.1 then
  (R.syntax_reader_single q157.2 x132 x135).bind fun z171=>match z171 with
  | .ex p174=>(some (.inl (.ex (p174.1,p174.2.1,p174.2.2.1,p174.2.2.2))))
  | .ok q175 =>
  (syntax_reader_node.f k q175.2.1 a3 ([] : List UInt8) x126 q175.1 q175.2.2.1 q175.2.2.2).bind fun z196 =>
  syntax_reader_row_syntax_reader_single.l1 k a1 a3 R kk z196.1 z196.2.1 z196.2.2.1 z196.2.2.2
  else
  some (.inr (x126,q157.2,x132,x135)))
def syntax_reader_row_syntax_reader_single.F (k:Nat) (R:G_syntax_reader_formula) (a0:T_syntax_reader) (a1:List UInt8) (a3:Int) (a0_0:T_formula_Table) (a0_0_1:(List (T_api_Node×Int))) : Option (Exn (T_syntax_broken×T_syntax_reader×T_formula_Table×(List (T_api_Node×Int))) (Int×T_syntax_reader×T_formula_Table×(List (T_api_Node×Int)))):=
 (R.syntax_reader_single a0 a0_0 a0_0_1).bind fun z101=>match z101 with
 | .ex p104=>(some (.ex (p104.1,p104.2.1,p104.2.2.1,p104.2.2.2)))
 | .ok q105 =>
 (syntax_reader_row_syntax_reader_single.l1 k a1 a3 R k q105.1 q105.2.1 q105.2.2.1 q105.2.2.2).bind fun z146=>match z146 with
 | .inl r_=>some r_
 | .inr (x136,x137,x142,x145) =>
 some (.ok (x136,x137,x142,x145))
def syntax_reader_both.F (k:Nat) (R:G_syntax_reader_formula) (a0:T_syntax_reader) (a0_0:T_formula_Table) (a0_0_1:(List (T_api_Node×Int))) : Option (Exn (T_syntax_broken×T_syntax_reader×T_formula_Table×(List (T_api_Node×Int))) (Int×T_syntax_reader×T_formula_Table×(List (T_api_Node×Int)))):=
 (R.syntax_reader_row_syntax_reader_single a0 ([38] : List UInt8) 3 a0_0 a0_0_1).bind fun z101=>match z101 with
 | .ex p104=>(some (.ex (p104.1,p104.2.1,p104.2.2.1,p104.2.2.2)))
 | .ok q105 =>
 some (.ok (q105.1,q105.2.1,q105.2.2.1,q105.2.2.2))
def syntax_reader_row_syntax_reader_both.l1 (k:Nat) (a1:List UInt8) (a3:Int) (R:G_syntax_reader_formula) : Nat→Int→T_syntax_reader→T_formula_Table→(List (T_api_Node×Int))→Option (Sum (Exn (T_syntax_broken×T_syntax_reader×T_formula_Table×(List (T_api_Node×Int))) (Int×T_syntax_reader×T_formula_Table×(List (T_api_Node×Int)))) (Int×T_syntax_reader×T_formula_Table×(List (T_api_Node×Int))))
 | 0,_,_,_,_=>none
 | kk+1,x126,x127,x132,x135 =>
  (syntax_reader_sign.f x127 a1 x132 x135).bind fun z153=>match z153 with
  | .ex p156=>(some (.inl (.ex (p156.1,p156.2,x132,x135))))
  | .ok q157 =>
  (bif q157.1 then
  (R.syntax_reader_both q157.2 x132 x135).bind fun z171=>match z171 with
  | .ex p174=>(some (.inl (.ex (p174.1,p174.2.1,p174.2.2.1,p174.2.2.2))))
  | .ok q175 =>
  (syntax_reader_node.f k q175.2.1 a3 ([] : List UInt8) x126 q175.1 q175.2.2.1 q175.2.2.2).bind fun z196 =>
  syntax_reader_row_syntax_reader_both.l1 k a1 a3 R kk z196.1 z196.2.1 z196.2.2.1 z196.2.2.2
  else
  some (.inr (x126,q157.2,x132,x135)))
def syntax_reader_row_syntax_reader_both.F (k:Nat) (R:G_syntax_reader_formula) (a0:T_syntax_reader) (a1:List UInt8) (a3:Int) (a0_0:T_formula_Table) (a0_0_1:(List (T_api_Node×Int))) : Option (Exn (T_syntax_broken×T_syntax_reader×T_formula_Table×(List (T_api_Node×Int))) (Int×T_syntax_reader×T_formula_Table×(List (T_api_Node×Int)))):=
 (R.syntax_reader_both a0 a0_0 a0_0_1).bind fun z101=>match z101 with
 | .ex p104=>(some (.ex (p104.1,p104.2.1,p104.2.2.1,p104.2.2.2)))
 | .ok q105 =>
 (syntax_reader_row_syntax_reader_both.l1 k a1 a3 R k q105.1 q105.2.1 q105.2.2.1 q105.2.2.2).bind fun z146=>match z146 with
 | .inl r_=>some r_
 | .inr (x136,x137,x142,x145) =>
 some (.ok (x136,x137,x142,x145))
def syntax_reader_implied.F (k:Nat) (R:G_syntax_reader_formula) (a0:T_syntax_reader) (a0_0:T_formula_Table) (a0_0_1:(List (T_api_Node×Int))) : Option (Exn (T_syntax_broken×T_syntax_reader×T_formula_Table×(List (T_api_Node×Int))) (Int×T_syntax_reader×T_formula_Table×(List (T_api_Node×Int)))):=
 (R.syntax_reader_row_syntax_reader_both a0 ([124] : List UInt8) 4 a0_0 a0_0_1).bind fun z101=>match z101 with
 | .ex p104=>(some (.ex (p104.1,p104.2.1,p104.2.2.1,p104.2.2.2)))
 | .ok q105 =>
 (syntax_reader_sign.f q105.2.1 ([45,62] : List UInt8) q105.2.2.1 q105.2.2.2).bind fun z126=>match z126 with
 | .ex p129=>(some (.ex (p129.1,p129.2,q105.2.2.1,q105.2.2.2)))
 | .ok q130 =>
 (bif (!q130.1) then
 some (.ok (q105.1,q130.2,q105.2.2.1,q105.2.2.2))
 else
 (R.syntax_reader_implied q130.2 q105.2.2.1 q105.2.2.2).bind fun z144=>match z144 with
 | .ex p147=>(some (.ex (p147.1,p147.2.1,p147.2.2.1,p147.2.2.2)))
 | .ok q148 =>
 (syntax_reader_node.f k q148.2.1 5 ([] : List UInt8) q105.1 q148.1 q148.2.2.1 q148.2.2.2).bind fun z169 =>
 some (.ok (z169.1,z169.2.1,z169.2.2.1,z169.2.2.2)))
def G_syntax_reader_formula.rec_ (k:Nat) : Nat→G_syntax_reader_formula
 | 0=>⟨fun a0 a0_0 a0_0_1=>none,fun a0 a0_0 a0_0_1=>none,fun a0 a1 a3 a0_0 a0_0_1=>none,fun a0 a0_0 a0_0_1=>none,fun a0 a1 a3 a0_0 a0_0_1=>none,fun a0 a0_0 a0_0_1=>none⟩
 | n+1=>⟨fun a0 a0_0 a0_0_1=>syntax_reader_formula.F k (G_syntax_reader_formula.rec_ k n) a0 a0_0 a0_0_1,fun a0 a0_0 a0_0_1=>syntax_reader_single.F k (G_syntax_reader_formula.rec_ k n) a0 a0_0 a0_0_1,fun a0 a1 a3 a0_0 a0_0_1=>syntax_reader_row_syntax_reader_single.F k (G_syntax_reader_formula.rec_ k n) a0 a1 a3 a0_0 a0_0_1,fun a0 a0_0 a0_0_1=>syntax_reader_both.F k (G_syntax_reader_formula.rec_ k n) a0 a0_0 a0_0_1,fun a0 a1 a3 a0_0 a0_0_1=>syntax_reader_row_syntax_reader_both.F k (G_syntax_reader_formula.rec_ k n) a0 a1 a3 a0_0 a0_0_1,fun a0 a0_0 a0_0_1=>syntax_reader_implied.F k (G_syntax_reader_formula.rec_ k n) a0 a0_0 a0_0_1⟩
def syntax_reader_formula.f (k:Nat) (a0:T_syntax_reader) (a0_0:T_formula_Table) (a0_0_1:(List (T_api_Node×Int))) : Option (Exn (T_syntax_broken×T_syntax_reader×T_formula_Table×(List (T_api_Node×Int))) (Int×T_syntax_reader×T_formula_Table×(List (T_api_Node×Int)))):=(G_syntax_reader_formula.rec_ k k).syntax_reader_formula a0 a0_0 a0_0_1
def syntax_reader_single.f (k:Nat) (a0:T_syntax_reader) (a0_0:T_formula_Table) (a0_0_1:(List (T_api_Node×Int))) : Option (Exn (T_syntax_broken×T_syntax_reader×T_formula_Table×(List (T_api_Node×Int))) (Int×T_syntax_reader×T_formula_Table×(List (T_api_Node×Int)))):=(G_syntax_reader_formula.rec_ k k).syntax_reader_single a0 a0_0 a0_0_1
def syntax_reader_row_syntax_reader_single.f (k:Nat) (a0:T_syntax_reader) (a1:List UInt8) (a3:Int) (a0_0:T_formula_Table) (a0_0_1:(List (T_api_Node×Int))) : Option (Exn (T_syntax_broken×T_syntax_reader×T_formula_Table×(List (T_api_Node×Int))) (Int×T_syntax_reader×T_formula_Table×(List (T_api_Node×Int)))):=(G_syntax_reader_formula.rec_ k k).syntax_reader_row_syntax_reader_single a0 a1 a3 a0_0 a0_0_1
def syntax_reader_both.f (k:Nat) (a0:T_syntax_reader) (a0_0:T_formula_Table) (a0_0_1:(List (T_api_Node×Int))) : Option (Exn (T_syntax_broken×T_syntax_reader×T_formula_Table×(List (T_api_Node×Int))) (Int×T_syntax_reader×T_formula_Table×(List (T_api_Node×Int)))):=(G_syntax_reader_formula.rec_ k k).syntax_reader_both a0 a0_0 a0_0_1
def syntax_reader_row_syntax_reader_both.f (k:Nat) (a0:T_syntax_reader) (a1:List UInt8) (a3:Int) (a0_0:T_formula_Table) (a0_0_1:(List (T_api_Node×Int))) : Option (Exn (T_syntax_broken×T_syntax_reader×T_formula_Table×(List (T_api_Node×Int))) (Int×T_syntax_reader×T_formula_Table×(List (T_api_Node×Int)))):=(G_syntax_reader_formula.rec_ k k).syntax_reader_row_syntax_reader_both a0 a1 a3 a0_0 a0_0_1
def syntax_reader_implied.f (k:Nat) (a0:T_syntax_reader) (a0_0:T_formula_Table) (a0_0_1:(List (T_api_Node×Int))) : Option (Exn (T_syntax_broken×T_syntax_reader×T_formula_Table×(List (T_api_Node×Int))) (Int×T_syntax_reader×T_formula_Table×(List (T_api_Node×Int)))):=(G_syntax_reader_formula.rec_ k k).syntax_reader_implied a0 a0_0 a0_0_1
structure G_syntax_reader_formula.Le (R R':G_syntax_reader_formula) : Prop where
 syntax_reader_formula:∀ (a0:T_syntax_reader) (a0_0:T_formula_Table) (a0_0_1:(List (T_api_Node×Int))) ,SX.Le (R.syntax_reader_formula a0 a0_0 a0_0_1) (R'.syntax_reader_formula a0 a0_0 a0_0_1)
 syntax_reader_single:∀ (a0:T_syntax_reader) (a0_0:T_formula_Table) (a0_0_1:(List (T_api_Node×Int))) ,SX.Le (R.syntax_reader_single a0 a0_0 a0_0_1) (R'.syntax_reader_single a0 a0_0 a0_0_1)
 syntax_reader_row_syntax_reader_single:∀ (a0:T_syntax_reader) (a1:List UInt8) (a3:Int) (a0_0:T_formula_Table) (a0_0_1:(List (T_api_Node×Int))) ,SX.Le (R.syntax_reader_row_syntax_reader_single a0 a1 a3 a0_0 a0_0_1) (R'.syntax_reader_row_syntax_reader_single a0 a1 a3 a0_0 a0_0_1)
 syntax_reader_both:∀ (a0:T_syntax_reader) (a0_0:T_formula_Table) (a0_0_1:(List (T_api_Node×Int))) ,SX.Le (R.syntax_reader_both a0 a0_0 a0_0_1) (R'.syntax_reader_both a0 a0_0 a0_0_1)
 syntax_reader_row_syntax_reader_both:∀ (a0:T_syntax_reader) (a1:List UInt8) (a3:Int) (a0_0:T_formula_Table) (a0_0_1:(List (T_api_Node×Int))) ,SX.Le (R.syntax_reader_row_syntax_reader_both a0 a1 a3 a0_0 a0_0_1) (R'.syntax_reader_row_syntax_reader_both a0 a1 a3 a0_0 a0_0_1)
 syntax_reader_implied:∀ (a0:T_syntax_reader) (a0_0:T_formula_Table) (a0_0_1:(List (T_api_Node×Int))) ,SX.Le (R.syntax_reader_implied a0 a0_0 a0_0_1) (R'.syntax_reader_implied a0 a0_0 a0_0_1)
theorem syntax_reader_formula.F.mono {k k':Nat} (hk:k≤k') {R R':G_syntax_reader_formula} (hR:G_syntax_reader_formula.Le R R') (a0:T_syntax_reader) (a0_0:T_formula_Table) (a0_0_1:(List (T_api_Node×Int))) : Le (syntax_reader_formula.F k R a0 a0_0 a0_0_1) (syntax_reader_formula.F k' R' a0 a0_0 a0_0_1):=by
 unfold syntax_reader_formula.F
 repeat' first
  | exact Le.refl _
  | exact syntax_reader_node.mono hk _ _ _ _ _ _ _
  | exact hR.syntax_reader_formula _ _ _
  | exact hR.syntax_reader_implied _ _ _
  | refine Le.bind ?_ fun x_=>?_
  | refine Le.cond ?_ ?_
  | refine Le.nilc ?_ ?_
  | split
theorem syntax_reader_single.F.mono {k k':Nat} (hk:k≤k') {R R':G_syntax_reader_formula} (hR:G_syntax_reader_formula.Le R R') (a0:T_syntax_reader) (a0_0:T_formula_Table) (a0_0_1:(List (T_api_Node×Int))) : Le (syntax_reader_single.F k R a0 a0_0 a0_0_1) (syntax_reader_single.F k' R' a0 a0_0 a0_0_1):=by
 unfold syntax_reader_single.F
 repeat' first
  | exact Le.refl _
  | exact formula_Word.mono hk _
  | exact syntax_reader_node.mono hk _ _ _ _ _ _ _
  | exact hR.syntax_reader_formula _ _ _
  | exact hR.syntax_reader_single _ _ _
  | refine Le.bind ?_ fun x_=>?_
  | refine Le.cond ?_ ?_
  | refine Le.nilc ?_ ?_
  | split
theorem syntax_reader_row_syntax_reader_single.l1.mono {k k':Nat} (hk:k≤k') {R R':G_syntax_reader_formula} (hR:G_syntax_reader_formula.Le R R') (a1:List UInt8) (a3:Int) : ∀ (n n':Nat) (hn:n≤n') y0 y1 y2 y3,Le (syntax_reader_row_syntax_reader_single.l1 k a1 a3 R n y0 y1 y2 y3) (syntax_reader_row_syntax_reader_single.l1 k' a1 a3 R' n' y0 y1 y2 y3):=by
 intro n
 induction n with
 | zero=>intro n' hn y0 y1 y2 y3; exact Le.none _
 | succ n ih =>
  intro n' hn y0 y1 y2 y3
  obtain ⟨n',rfl⟩ : ∃ m,n'=m+1:=⟨n' - 1,by omega⟩
  have hn':n≤n':=by omega
  rw [syntax_reader_row_syntax_reader_single.l1.eq_2,syntax_reader_row_syntax_reader_single.l1.eq_2]
  repeat' first
   | exact Le.refl _
   | exact syntax_reader_node.mono hk _ _ _ _ _ _ _
   | exact hR.syntax_reader_single _ _ _
   | exact ih n' hn' _ _ _ _
   | refine Le.bind ?_ fun x_=>?_
   | refine Le.cond ?_ ?_
   | refine Le.nilc ?_ ?_
   | split
theorem syntax_reader_row_syntax_reader_single.F.mono {k k':Nat} (hk:k≤k') {R R':G_syntax_reader_formula} (hR:G_syntax_reader_formula.Le R R') (a0:T_syntax_reader) (a1:List UInt8) (a3:Int) (a0_0:T_formula_Table) (a0_0_1:(List (T_api_Node×Int))) : Le (syntax_reader_row_syntax_reader_single.F k R a0 a1 a3 a0_0 a0_0_1) (syntax_reader_row_syntax_reader_single.F k' R' a0 a1 a3 a0_0 a0_0_1):=by
 unfold syntax_reader_row_syntax_reader_single.F
 repeat' first
  | exact Le.refl _
  | exact syntax_reader_node.mono hk _ _ _ _ _ _ _
  | exact hR.syntax_reader_single _ _ _
  | exact syntax_reader_row_syntax_reader_single.l1.mono hk hR _ _ _ _ hk _ _ _ _
  | refine Le.bind ?_ fun x_=>?_
  | refine Le.cond ?_ ?_
  | refine Le.nilc ?_ ?_
  | split
theorem syntax_reader_both.F.mono {k k':Nat} (hk:k≤k') {R R':G_syntax_reader_formula} (hR:G_syntax_reader_formula.Le R R') (a0:T_syntax_reader) (a0_0:T_formula_Table) (a0_0_1:(List (T_api_Node×Int))) : Le (syntax_reader_both.F k R a0 a0_0 a0_0_1) (syntax_reader_both.F k' R' a0 a0_0 a0_0_1):=by
 unfold syntax_reader_both.F
 repeat' first
  | exact Le.refl _
  | exact hR.syntax_reader_row_syntax_reader_single _ _ _ _ _
  | refine Le.bind ?_ fun x_=>?_
  | refine Le.cond ?_ ?_
  | refine Le.nilc ?_ ?_
  | split
theorem syntax_reader_row_syntax_reader_both.l1.mono {k k':Nat} (hk:k≤k') {R R':G_syntax_reader_formula} (hR:G_syntax_reader_formula.Le R R') (a1:List UInt8) (a3:Int) : ∀ (n n':Nat) (hn:n≤n') y0 y1 y2 y3,Le (syntax_reader_row_syntax_reader_both.l1 k a1 a3 R n y0 y1 y2 y3) (syntax_reader_row_syntax_reader_both.l1 k' a1 a3 R' n' y0 y1 y2 y3):=by
 intro n
 induction n with
 | zero=>intro n' hn y0 y1 y2 y3; exact Le.none _
 | succ n ih =>
  intro n' hn y0 y1 y2 y3
  obtain ⟨n',rfl⟩ : ∃ m,n'=m+1:=⟨n' - 1,by omega⟩
  have hn':n≤n':=by omega
  rw [syntax_reader_row_syntax_reader_both.l1.eq_2,syntax_reader_row_syntax_reader_both.l1.eq_2]
  repeat' first
   | exact Le.refl _
   | exact syntax_reader_node.mono hk _ _ _ _ _ _ _
   | exact hR.syntax_reader_both _ _ _
   | exact ih n' hn' _ _ _ _
   | refine Le.bind ?_ fun x_=>?_
   | refine Le.cond ?_ ?_
   | refine Le.nilc ?_ ?_
   | split
theorem syntax_reader_row_syntax_reader_both.F.mono {k k':Nat} (hk:k≤k') {R R':G_syntax_reader_formula} (hR:G_syntax_reader_formula.Le R R') (a0:T_syntax_reader) (a1:List UInt8) (a3:Int) (a0_0:T_formula_Table) (a0_0_1:(List (T_api_Node×Int))) : Le (syntax_reader_row_syntax_reader_both.F k R a0 a1 a3 a0_0 a0_0_1) (syntax_reader_row_syntax_reader_both.F k' R' a0 a1 a3 a0_0 a0_0_1):=by
 unfold syntax_reader_row_syntax_reader_both.F
 repeat' first
  | exact Le.refl _
  | exact syntax_reader_node.mono hk _ _ _ _ _ _ _
  | exact hR.syntax_reader_both _ _ _
  | exact syntax_reader_row_syntax_reader_both.l1.mono hk hR _ _ _ _ hk _ _ _ _
  | refine Le.bind ?_ fun x_=>?_
  | refine Le.cond ?_ ?_
  | refine Le.nilc ?_ ?_
  | split
theorem syntax_reader_implied.F.mono {k k':Nat} (hk:k≤k') {R R':G_syntax_reader_formula} (hR:G_syntax_reader_formula.Le R R') (a0:T_syntax_reader) (a0_0:T_formula_Table) (a0_0_1:(List (T_api_Node×Int))) : Le (syntax_reader_implied.F k R a0 a0_0 a0_0_1) (syntax_reader_implied.F k' R' a0 a0_0 a0_0_1):=by
 unfold syntax_reader_implied.F
 repeat' first
  | exact Le.refl _
  | exact syntax_reader_node.mono hk _ _ _ _ _ _ _
  | exact hR.syntax_reader_implied _ _ _
  | exact hR.syntax_reader_row_syntax_reader_both _ _ _ _ _
  | refine Le.bind ?_ fun x_=>?_
  | refine Le.cond ?_ ?_
  | refine Le.nilc ?_ ?_
  | split
theorem G_syntax_reader_formula.rec_mono {k k':Nat} (hk:k≤k') : ∀ (n n':Nat),n≤n'→G_syntax_reader_formula.Le (G_syntax_reader_formula.rec_ k n) (G_syntax_reader_formula.rec_ k' n')
 | 0,n',_=>⟨fun a0 a0_0 a0_0_1=>SX.Le.none _,fun a0 a0_0 a0_0_1=>SX.Le.none _,fun a0 a1 a3 a0_0 a0_0_1=>SX.Le.none _,fun a0 a0_0 a0_0_1=>SX.Le.none _,fun a0 a1 a3 a0_0 a0_0_1=>SX.Le.none _,fun a0 a0_0 a0_0_1=>SX.Le.none _⟩
 | n+1,0,h=>absurd h (by omega)
 | n+1,n'+1,h=>⟨fun a0 a0_0 a0_0_1=>syntax_reader_formula.F.mono hk (G_syntax_reader_formula.rec_mono hk n n' (by omega)) a0 a0_0 a0_0_1,fun a0 a0_0 a0_0_1=>syntax_reader_single.F.mono hk (G_syntax_reader_formula.rec_mono hk n n' (by omega)) a0 a0_0 a0_0_1,fun a0 a1 a3 a0_0 a0_0_1=>syntax_reader_row_syntax_reader_single.F.mono hk (G_syntax_reader_formula.rec_mono hk n n' (by omega)) a0 a1 a3 a0_0 a0_0_1,fun a0 a0_0 a0_0_1=>syntax_reader_both.F.mono hk (G_syntax_reader_formula.rec_mono hk n n' (by omega)) a0 a0_0 a0_0_1,fun a0 a1 a3 a0_0 a0_0_1=>syntax_reader_row_syntax_reader_both.F.mono hk (G_syntax_reader_formula.rec_mono hk n n' (by omega)) a0 a1 a3 a0_0 a0_0_1,fun a0 a0_0 a0_0_1=>syntax_reader_implied.F.mono hk (G_syntax_reader_formula.rec_mono hk n n' (by omega)) a0 a0_0 a0_0_1⟩
theorem syntax_reader_formula.mono {k k':Nat} (hk:k≤k') (a0:T_syntax_reader) (a0_0:T_formula_Table) (a0_0_1:(List (T_api_Node×Int))) : SX.Le (syntax_reader_formula.f k a0 a0_0 a0_0_1) (syntax_reader_formula.f k' a0 a0_0 a0_0_1):=(G_syntax_reader_formula.rec_mono hk k k' hk).syntax_reader_formula a0 a0_0 a0_0_1
def syntax_Parse_1.f (k:Nat) (a1:Int) (a2:T_api_Fault) (a0_0:T_syntax_reader) (a0_0_0:T_formula_Table) (a0_0_0_1:(List (T_api_Node×Int))) : Option (Exn (T_syntax_broken×Int×T_syntax_reader×T_formula_Table×(List (T_api_Node×Int))) (Int×T_syntax_reader×T_formula_Table×(List (T_api_Node×Int)))):=
 (syntax_reader_formula.f k a0_0 a0_0_0 a0_0_0_1).bind fun z101=>match z101 with
 | .ex p104=>(some (.ex (p104.1,a1,p104.2.1,p104.2.2.1,p104.2.2.2)))
 | .ok q105 =>
 ((syntax_reader_now.f q105.2.1 q105.2.2.1 q105.2.2.2).bind fun z144 =>
 (bif (z144.f_Kind != 0) then
 some true
 else
 some (a2.f_Code != 0)) : Option (Bool)).bind fun z130 =>
 (bif z130 then
 (syntax_reader_fail.f q105.2.1 41 q105.2.2.1 q105.2.2.2).bind fun z136=>match z136 with
 | .ex p139=>(some (.ex (p139,q105.1,q105.2.1,q105.2.2.1,q105.2.2.2)))
 | .ok q140 =>
 some (.ok (q105.1,q105.2.1,q105.2.2.1,q105.2.2.2))
 else
 some (.ok (q105.1,q105.2.1,q105.2.2.1,q105.2.2.2)))
theorem syntax_Parse_1.mono {k k':Nat} (hk:k≤k') (a1:Int) (a2:T_api_Fault) (a0_0:T_syntax_reader) (a0_0_0:T_formula_Table) (a0_0_0_1:(List (T_api_Node×Int))) : Le (syntax_Parse_1.f k a1 a2 a0_0 a0_0_0 a0_0_0_1) (syntax_Parse_1.f k' a1 a2 a0_0 a0_0_0 a0_0_0_1):=by
 unfold syntax_Parse_1.f
 repeat' first
  | exact Le.refl _
  | exact syntax_reader_formula.mono hk _ _ _
  | refine Le.bind ?_ fun x_=>?_
  | refine Le.cond ?_ ?_
  | refine Le.nilc ?_ ?_
  | split
def formula_Table_Cut.l1 (k:Nat) (y117:(List T_api_Node)) : Nat→Int→(List (T_api_Node×Int))→Option ((List (T_api_Node×Int)))
 | 0,_,_=>none
 | kk+1,x124,x125 =>
  (bif (decide (x124 < (y117.length:Int))) then
  (ix y117 x124).bind fun x135 =>
  formula_Table_Cut.l1 k y117 kk (wrap64 (x124+1)) (mdel T_api_Node.eqb x125 x135)
  else
  some x125)
def formula_Table_Cut.f (k:Nat) (a0:T_formula_Table) (a1:Int) (a0_1:(List (T_api_Node×Int))) : Option (Int×T_formula_Table×(List (T_api_Node×Int))):=
 (formula_Table_alive.f a0 a0_1).bind fun z101 =>
 ((bif (decide (a1 < 0)) then
 some true
 else
 some (decide (a1 > (a0.f_rows.length:Int)))) : Option (Bool)).bind fun z106 =>
 (bif z106 then
 some (2,a0,a0_1)
 else
 (cut a0.f_rows a1 (a0.f_rows.length:Int)).bind fun y117 =>
 (formula_Table_Cut.l1 k y117 k 0 a0_1).bind fun z127 =>
 (cut a0.f_rows 0 a1).bind fun y161 =>
 some (0,(⟨y161⟩ : T_formula_Table),z127))
theorem formula_Table_Cut.l1.mono {k k':Nat} (hk:k≤k') (y117:(List T_api_Node)) : ∀ (n n':Nat) (hn:n≤n') y0 y1,Le (formula_Table_Cut.l1 k y117 n y0 y1) (formula_Table_Cut.l1 k' y117 n' y0 y1):=by
 intro n
 induction n with
 | zero=>intro n' hn y0 y1; exact Le.none _
 | succ n ih =>
  intro n' hn y0 y1
  obtain ⟨n',rfl⟩ : ∃ m,n'=m+1:=⟨n' - 1,by omega⟩
  have hn':n≤n':=by omega
  rw [formula_Table_Cut.l1.eq_2,formula_Table_Cut.l1.eq_2]
  repeat' first
   | exact Le.refl _
   | exact ih n' hn' _ _
   | refine Le.bind ?_ fun x_=>?_
   | refine Le.cond ?_ ?_
   | refine Le.nilc ?_ ?_
   | split
theorem formula_Table_Cut.mono {k k':Nat} (hk:k≤k') (a0:T_formula_Table) (a1:Int) (a0_1:(List (T_api_Node×Int))) : Le (formula_Table_Cut.f k a0 a1 a0_1) (formula_Table_Cut.f k' a0 a1 a0_1):=by
 unfold formula_Table_Cut.f
 repeat' first
  | exact Le.refl _
  | exact formula_Table_Cut.l1.mono hk _ _ _ hk _ _
  | refine Le.bind ?_ fun x_=>?_
  | refine Le.cond ?_ ?_
  | refine Le.nilc ?_ ?_
  | split
def syntax_reader_read_1_rec.f (k:Nat) (a1:Int) (a2:T_api_Fault) (a0_0:T_syntax_reader) (a0_0_0:T_formula_Table) (a0_0_0_1:(List (T_api_Node×Int))) (p0:T_syntax_broken) : Option (T_api_Fault×T_formula_Table×(List (T_api_Node×Int))):=
 (formula_Table_Cut.f k a0_0_0 a1 a0_0_0_1).bind fun z111 =>
 some ((⟨p0.f_f.f_Code,(⟨p0.f_f.f_At.f_Line,p0.f_f.f_At.f_Col,p0.f_f.f_At.f_Off⟩ : T_api_Spot)⟩ : T_api_Fault),z111.2.1,z111.2.2)
theorem syntax_reader_read_1_rec.mono {k k':Nat} (hk:k≤k') (a1:Int) (a2:T_api_Fault) (a0_0:T_syntax_reader) (a0_0_0:T_formula_Table) (a0_0_0_1:(List (T_api_Node×Int))) (p0:T_syntax_broken) : Le (syntax_reader_read_1_rec.f k a1 a2 a0_0 a0_0_0 a0_0_0_1 p0) (syntax_reader_read_1_rec.f k' a1 a2 a0_0 a0_0_0 a0_0_0_1 p0):=by
 unfold syntax_reader_read_1_rec.f
 repeat' first
  | exact Le.refl _
  | exact formula_Table_Cut.mono hk _ _ _
  | refine Le.bind ?_ fun x_=>?_
  | refine Le.cond ?_ ?_
  | refine Le.nilc ?_ ?_
  | split
def syntax_reader_read_1_ret.f (a1:Int) (a2:T_api_Fault) (a0_0:T_syntax_reader) (a0_0_0:T_formula_Table) (a0_0_0_1:(List (T_api_Node×Int))) : Option (Unit):=
 some ()
def syntax_reader_read_syntax_Parse_1.f (k:Nat) (a0:T_syntax_reader) (a0_0:T_formula_Table) (a1_1:Int) (a1_2:T_api_Fault) (a0_0_1:(List (T_api_Node×Int))) : Option (T_api_Fault×T_syntax_reader×T_formula_Table×Int×(List (T_api_Node×Int))):=
 (formula_Table_Len.f a0_0 a0_0_1).bind fun z111 =>
 (syntax_Parse_1.f k a1_1 a1_2 a0 a0_0 a0_0_1).bind fun z123=>match z123 with
 | .ex p126=>((syntax_reader_read_1_rec.f k z111 (⟨(0:Int),(⟨(0:Int),(0:Int),(0:Int)⟩ : T_api_Spot)⟩ : T_api_Fault) p126.2.2.1 p126.2.2.2.1 p126.2.2.2.2 p126.1).bind fun z150 =>
 some (z150.1,p126.2.2.1,z150.2.1,p126.2.1,z150.2.2))
 | .ok q127 =>
 (bif q127.2.1.f_full then
 (syntax_reader_read_1_rec.f k z111 (⟨(0:Int),(⟨(0:Int),(0:Int),(0:Int)⟩ : T_api_Spot)⟩ : T_api_Fault) q127.2.1 q127.2.2.1 q127.2.2.2 (⟨(⟨30,(⟨(0:Int),(0:Int),(0:Int)⟩ : T_api_Spot)⟩ : T_api_Fault)⟩ : T_syntax_broken)).bind fun z160 =>
 some (z160.1,q127.2.1,z160.2.1,q127.1,z160.2.2)
 else
 (syntax_reader_read_1_ret.f z111 (⟨(0:Int),(⟨(0:Int),(0:Int),(0:Int)⟩ : T_api_Spot)⟩ : T_api_Fault) q127.2.1 q127.2.2.1 q127.2.2.2).bind fun z172 =>
 some ((⟨(0:Int),(⟨(0:Int),(0:Int),(0:Int)⟩ : T_api_Spot)⟩ : T_api_Fault),q127.2.1,q127.2.2.1,q127.1,q127.2.2.2))
theorem syntax_reader_read_syntax_Parse_1.mono {k k':Nat} (hk:k≤k') (a0:T_syntax_reader) (a0_0:T_formula_Table) (a1_1:Int) (a1_2:T_api_Fault) (a0_0_1:(List (T_api_Node×Int))) : Le (syntax_reader_read_syntax_Parse_1.f k a0 a0_0 a1_1 a1_2 a0_0_1) (syntax_reader_read_syntax_Parse_1.f k' a0 a0_0 a1_1 a1_2 a0_0_1):=by
 unfold syntax_reader_read_syntax_Parse_1.f
 repeat' first
  | exact Le.refl _
  | exact syntax_Parse_1.mono hk _ _ _ _ _
  | exact syntax_reader_read_1_rec.mono hk _ _ _ _ _ _
  | refine Le.bind ?_ fun x_=>?_
  | refine Le.cond ?_ ?_
  | refine Le.nilc ?_ ?_
  | split
def syntax_Parse.l1 (k:Nat) (a0:T_formula_Table) (a0_1:(List (T_api_Node×Int))) (z114:(List T_api_Token)×T_api_Fault) : Nat→Int→Int→Option (Sum (Int×T_api_Fault×T_formula_Table×(List (T_api_Node×Int))) (Unit))
 | 0,_,_=>none
 | kk+1,x131,x132 =>
  (bif (decide (x132 < (z114.1.length:Int))) then
  ((ix z114.1 x132).bind fun x148 =>
  (syntax_counted.f x148).bind fun z169 =>
  (bif z169 then
  (bif (decide ((wrap64 (x131+1)) > 512)) then
  some (.inl (0,(⟨40,(⟨x148.f_At.f_Line,x148.f_At.f_Col,x148.f_At.f_Off⟩ : T_api_Spot)⟩ : T_api_Fault),a0,a0_1))
  else
  some (.inr (wrap64 (x131+1))))
  else
  some (.inr x131)) : Option (Sum (Int×T_api_Fault×T_formula_Table×(List (T_api_Node×Int))) (Int))).bind fun z142=>match z142 with
  | .inl r_=>some (.inl r_)
  | .inr x141 =>
  syntax_Parse.l1 k a0 a0_1 z114 kk x141 (wrap64 (x132+1))
  else
  some (.inr ()))
def syntax_Parse.f (k:Nat) (a0:T_formula_Table) (a1:List UInt8) (a0_1:(List (T_api_Node×Int))) : Option (Int×T_api_Fault×T_formula_Table×(List (T_api_Node×Int))):=
 (syntax_known.f k a0 a0_1).bind fun z106 =>
 (bif (!z106) then
 some (0,(⟨1,(⟨(0:Int),(0:Int),(0:Int)⟩ : T_api_Spot)⟩ : T_api_Fault),a0,a0_1)
 else
 (syntax_ahead.f k a1).bind fun z114 =>
 (syntax_Parse.l1 k a0 a0_1 z114 k 0 0).bind fun z133=>match z133 with
 | .inl r_=>some r_
 | .inr _ =>
 (syntax_reader_read_syntax_Parse_1.f k (⟨z114.1,(0:Int),(0:Int),(0:Int),false,false⟩ : T_syntax_reader) a0 0 z114.2 a0_1).bind fun z208 =>
 (bif (z208.1.f_Code != 0) then
 some (0,z208.1,z208.2.2.1,z208.2.2.2.2)
 else
 some (z208.2.2.2.1,z208.1,z208.2.2.1,z208.2.2.2.2)))
theorem syntax_Parse.l1.mono {k k':Nat} (hk:k≤k') (a0:T_formula_Table) (a0_1:(List (T_api_Node×Int))) (z114:(List T_api_Token)×T_api_Fault) : ∀ (n n':Nat) (hn:n≤n') y0 y1,Le (syntax_Parse.l1 k a0 a0_1 z114 n y0 y1) (syntax_Parse.l1 k' a0 a0_1 z114 n' y0 y1):=by
 intro n
 induction n with
 | zero=>intro n' hn y0 y1; exact Le.none _
 | succ n ih =>
  intro n' hn y0 y1
  obtain ⟨n',rfl⟩ : ∃ m,n'=m+1:=⟨n' - 1,by omega⟩
  have hn':n≤n':=by omega
  rw [syntax_Parse.l1.eq_2,syntax_Parse.l1.eq_2]
  repeat' first
   | exact Le.refl _
   | exact syntax_ahead.mono hk _
   | exact syntax_known.mono hk _ _
   | exact syntax_reader_read_syntax_Parse_1.mono hk _ _ _ _ _
   | exact ih n' hn' _ _
   | refine Le.bind ?_ fun x_=>?_
   | refine Le.cond ?_ ?_
   | refine Le.nilc ?_ ?_
   | split
theorem syntax_Parse.mono {k k':Nat} (hk:k≤k') (a0:T_formula_Table) (a1:List UInt8) (a0_1:(List (T_api_Node×Int))) : Le (syntax_Parse.f k a0 a1 a0_1) (syntax_Parse.f k' a0 a1 a0_1):=by
 unfold syntax_Parse.f
 repeat' first
  | exact Le.refl _
  | exact syntax_ahead.mono hk _
  | exact syntax_known.mono hk _ _
  | exact syntax_reader_read_syntax_Parse_1.mono hk _ _ _ _ _
  | exact syntax_Parse.l1.mono hk _ _ _ _ _ hk _ _
  | refine Le.bind ?_ fun x_=>?_
  | refine Le.cond ?_ ?_
  | refine Le.nilc ?_ ?_
  | split
def dictumref02_skip.l2 (k:Nat) (a0:List UInt8) : Nat→Int→Option (Int)
 | 0,_=>none
 | kk+1,x120 =>
  ((bif (decide (x120 < (a0.length:Int))) then
  (ix a0 x120).bind fun x138 =>
  some (!(x138 == (10:UInt8)))
  else
  some false) : Option (Bool)).bind fun z130 =>
  (bif z130 then
  dictumref02_skip.l2 k a0 kk (wrap64 (x120+1))
  else
  some x120)
def dictumref02_skip.l1 (k:Nat) (a0:List UInt8) : Nat→Int→Option (Sum (Int) (Int))
 | 0,_=>none
 | kk+1,x101 =>
  (bif (decide (x101 < (a0.length:Int))) then
  (ix a0 x101).bind fun x111 =>
  ((bif (x111 == (32:UInt8)) then
  some true
  else
  (bif (x111 == (9:UInt8)) then
  some true
  else
  (bif (x111 == (10:UInt8)) then
  some true
  else
  some (x111 == (13:UInt8))))) : Option (Bool)).bind fun z113 =>
  (bif z113 then
  dictumref02_skip.l1 k a0 kk (wrap64 (x101+1))
  else
  (bif (!(x111 == (35:UInt8))) then
  some (.inl x101)
  else
  (dictumref02_skip.l2 k a0 k x101).bind fun z122 =>
  dictumref02_skip.l1 k a0 kk z122))
  else
  some (.inr x101))
def dictumref02_skip.f (k:Nat) (a0:List UInt8) (a1:Int) : Option (Int):=
 (dictumref02_skip.l1 k a0 k a1).bind fun z103=>match z103 with
 | .inl r_=>some r_
 | .inr x102 =>
 some x102
def dictumref02_more.f (a0:List UInt8) (a1:Int) (a2:UInt8) (a3:UInt8) : Option (Bool):=
 (bif (decide (a1 < (a0.length:Int))) then
 (ix a0 a1).bind fun x102 =>
 (bif (decide (a2≤x102)) then
 (ix a0 a1).bind fun x104 =>
 some (decide (x104≤a3))
 else
 some false)
 else
 some false)
def dictumref02_size.f (a0:List UInt8) (a1:Int) : Option (Int):=
 (ix a0 a1).bind fun x101 =>
 ((bif (decide ((194:UInt8)≤x101)) then
 (bif (decide (x101≤(223:UInt8))) then
 (dictumref02_more.f a0 (wrap64 (a1+1)) (128:UInt8) (191:UInt8)).bind fun z238 =>
 some z238
 else
 some false)
 else
 some false) : Option (Bool)).bind fun z103 =>
 (bif z103 then
 some 2
 else
 ((bif (x101 == (224:UInt8)) then
 (dictumref02_more.f a0 (wrap64 (a1+1)) (160:UInt8) (191:UInt8)).bind fun z226 =>
 (bif z226 then
 (dictumref02_more.f a0 (wrap64 (a1+2)) (128:UInt8) (191:UInt8)).bind fun z231 =>
 some z231
 else
 some false)
 else
 some false) : Option (Bool)).bind fun z110 =>
 (bif z110 then
 some 3
 else
 ((bif (x101 == (237:UInt8)) then
 (dictumref02_more.f a0 (wrap64 (a1+1)) (128:UInt8) (159:UInt8)).bind fun z215 =>
 (bif z215 then
 (dictumref02_more.f a0 (wrap64 (a1+2)) (128:UInt8) (191:UInt8)).bind fun z220 =>
 some z220
 else
 some false)
 else
 some false) : Option (Bool)).bind fun z117 =>
 (bif z117 then
 some 3
 else
 ((bif (decide ((225:UInt8)≤x101)) then
 (bif (decide (x101≤(239:UInt8))) then
 (bif (!(x101 == (237:UInt8))) then
 (dictumref02_more.f a0 (wrap64 (a1+1)) (128:UInt8) (191:UInt8)).bind fun z204 =>
 (bif z204 then
 (dictumref02_more.f a0 (wrap64 (a1+2)) (128:UInt8) (191:UInt8)).bind fun z209 =>
 some z209
 else
 some false)
 else
 some false)
 else
 some false)
 else
 some false) : Option (Bool)).bind fun z124 =>
 (bif z124 then
 some 3
 else
 ((bif (x101 == (240:UInt8)) then
 (dictumref02_more.f a0 (wrap64 (a1+1)) (144:UInt8) (191:UInt8)).bind fun z186 =>
 (bif z186 then
 (dictumref02_more.f a0 (wrap64 (a1+2)) (128:UInt8) (191:UInt8)).bind fun z191 =>
 (bif z191 then
 (dictumref02_more.f a0 (wrap64 (a1+3)) (128:UInt8) (191:UInt8)).bind fun z196 =>
 some z196
 else
 some false)
 else
 some false)
 else
 some false) : Option (Bool)).bind fun z131 =>
 (bif z131 then
 some 4
 else
 ((bif (decide ((241:UInt8)≤x101)) then
 (bif (decide (x101≤(243:UInt8))) then
 (dictumref02_more.f a0 (wrap64 (a1+1)) (128:UInt8) (191:UInt8)).bind fun z170 =>
 (bif z170 then
 (dictumref02_more.f a0 (wrap64 (a1+2)) (128:UInt8) (191:UInt8)).bind fun z175 =>
 (bif z175 then
 (dictumref02_more.f a0 (wrap64 (a1+3)) (128:UInt8) (191:UInt8)).bind fun z180 =>
 some z180
 else
 some false)
 else
 some false)
 else
 some false)
 else
 some false) : Option (Bool)).bind fun z138 =>
 (bif z138 then
 some 4
 else
 ((bif (x101 == (244:UInt8)) then
 (dictumref02_more.f a0 (wrap64 (a1+1)) (128:UInt8) (143:UInt8)).bind fun z153 =>
 (bif z153 then
 (dictumref02_more.f a0 (wrap64 (a1+2)) (128:UInt8) (191:UInt8)).bind fun z158 =>
 (bif z158 then
 (dictumref02_more.f a0 (wrap64 (a1+3)) (128:UInt8) (191:UInt8)).bind fun z163 =>
 some z163
 else
 some false)
 else
 some false)
 else
 some false) : Option (Bool)).bind fun z145 =>
 (bif z145 then
 some 4
 else
 some 1)))))))
def dictumref02_on.l1 (k:Nat) (a0:List UInt8) (a2:Int) : Nat→Int→T_api_Spot→Option (T_api_Spot)
 | 0,_,_=>none
 | kk+1,x111,x112 =>
  (bif (decide (x111 < a2)) then
  ((ix a0 x111).bind fun x136 =>
  (bif (x136 == (10:UInt8)) then
  some (⟨wrap64 (x112.f_Line+1),1,x112.f_Off⟩ : T_api_Spot)
  else
  some (⟨x112.f_Line,wrap64 (x112.f_Col+1),x112.f_Off⟩ : T_api_Spot)) : Option (T_api_Spot)).bind fun z123 =>
  (dictumref02_size.f a0 x111).bind fun z128 =>
  dictumref02_on.l1 k a0 a2 kk (wrap64 (x111+z128)) z123
  else
  some x112)
def dictumref02_on.f (k:Nat) (a0:List UInt8) (a1:T_api_Spot) (a2:Int) : Option (T_api_Spot):=
 (dictumref02_on.l1 k a0 a2 k a1.f_Off (⟨a1.f_Line,a1.f_Col,a1.f_Off⟩ : T_api_Spot)).bind fun z114 =>
 some (⟨z114.f_Line,z114.f_Col,a2⟩ : T_api_Spot)
def dictumref02_letter.f (a0:UInt8) : Option (Bool):=
 (bif (decide ((97:UInt8)≤a0)) then
 (bif (decide (a0≤(122:UInt8))) then
 some true
 else
 (bif (decide ((65:UInt8)≤a0)) then
 (bif (decide (a0≤(90:UInt8))) then
 some true
 else
 some (a0 == (95:UInt8)))
 else
 some (a0 == (95:UInt8))))
 else
 (bif (decide ((65:UInt8)≤a0)) then
 (bif (decide (a0≤(90:UInt8))) then
 some true
 else
 some (a0 == (95:UInt8)))
 else
 some (a0 == (95:UInt8))))
def dictumref02_digit.f (a0:UInt8) : Option (Bool):=
 (bif (decide ((48:UInt8)≤a0)) then
 some (decide (a0≤(57:UInt8)))
 else
 some false)
def dictumref02_within.f (a0:UInt8) : Option (Bool):=
 (dictumref02_letter.f a0).bind fun z101 =>
 (bif z101 then
 some true
 else
 (dictumref02_digit.f a0).bind fun z106 =>
 (bif z106 then
 some true
 else
 some (a0 == (39:UInt8))))
def dictumref02_number.l1 (k:Nat) (a0:List UInt8) : Nat→Int→Int→Option (Int×Int)
 | 0,_,_=>none
 | kk+1,x106,x107 =>
  ((bif (decide (x107 < (a0.length:Int))) then
  (ix a0 x107).bind fun x135 =>
  (dictumref02_digit.f x135).bind fun z136 =>
  some z136
  else
  some false) : Option (Bool)).bind fun z118 =>
  (bif z118 then
  ((bif (decide (x106≤999999999)) then
  (ix a0 x107).bind fun x132 =>
  some (wrap64 ((wrap64 (10 * x106))+((x132 - (48:UInt8)).toNat:Int)))
  else
  some x106) : Option (Int)).bind fun z125 =>
  dictumref02_number.l1 k a0 kk z125 (wrap64 (x107+1))
  else
  some (x106,x107))
def dictumref02_number.f (k:Nat) (a0:List UInt8) (a1:Int) : Option (T_api_Token×Int×Int):=
 (dictumref02_number.l1 k a0 k 0 a1).bind fun (x108,x109) =>
 ((ix a0 a1).bind fun x157 =>
 (bif (x157 == (48:UInt8)) then
 (bif (decide (x109 > (wrap64 (a1+1)))) then
 some true
 else
 (bif (decide (x108 > 999999999)) then
 some true
 else
 (bif (decide (x109 < (a0.length:Int))) then
 (ix a0 x109).bind fun x162 =>
 (dictumref02_within.f x162).bind fun z163 =>
 some z163
 else
 some false)))
 else
 (bif (decide (x108 > 999999999)) then
 some true
 else
 (bif (decide (x109 < (a0.length:Int))) then
 (ix a0 x109).bind fun x169 =>
 (dictumref02_within.f x169).bind fun z170 =>
 some z170
 else
 some false))) : Option (Bool)).bind fun z144 =>
 (bif z144 then
 some ((⟨(0:Int),([] : List UInt8),(0:Int),(⟨(0:Int),(0:Int),(0:Int)⟩ : T_api_Spot)⟩ : T_api_Token),x109,21)
 else
 some ((⟨2,([] : List UInt8),x108,(⟨(0:Int),(0:Int),(0:Int)⟩ : T_api_Spot)⟩ : T_api_Token),x109,0))
def dictumref02_specials.f:Option ((List T_dictumref02_special)):=
 some ([(⟨([194,172] : List UInt8),3,([126] : List UInt8)⟩ : T_dictumref02_special),(⟨([226,136,167] : List UInt8),3,([38] : List UInt8)⟩ : T_dictumref02_special),(⟨([226,136,168] : List UInt8),3,([124] : List UInt8)⟩ : T_dictumref02_special),(⟨([226,134,146] : List UInt8),3,([45,62] : List UInt8)⟩ : T_dictumref02_special),(⟨([226,134,148] : List UInt8),3,([60,45,62] : List UInt8)⟩ : T_dictumref02_special),(⟨([226,138,162] : List UInt8),3,([124,45] : List UInt8)⟩ : T_dictumref02_special),(⟨([226,137,164] : List UInt8),3,([60,61] : List UInt8)⟩ : T_dictumref02_special),(⟨([226,138,164] : List UInt8),1,([116,114,117,101] : List UInt8)⟩ : T_dictumref02_special),(⟨([226,138,165] : List UInt8),1,([102,97,108,115,101] : List UInt8)⟩ : T_dictumref02_special)])
def dictumref02_at.f (a0:List UInt8) (a1:Int) (a2:List UInt8) : Option (Bool):=
 (bif (decide ((wrap64 ((a0.length:Int) - a1)) ≥ (a2.length:Int))) then
 (cut a0 a1 (wrap64 (a1+(a2.length:Int)))).bind fun y102 =>
 some (y102 == a2)
 else
 some false)
def dictumref02_Signs.f:Option ((List (List UInt8))):=
 some ([([60,45,62] : List UInt8),([60,61] : List UInt8),([61,62] : List UInt8),([45,62] : List UInt8),([124,45] : List UInt8),([126] : List UInt8),([38] : List UInt8),([124] : List UInt8),([40] : List UInt8),([41] : List UInt8),([91] : List UInt8),([93] : List UInt8),([123] : List UInt8),([125] : List UInt8),([44] : List UInt8),([46] : List UInt8),([58] : List UInt8),([59] : List UInt8),([61] : List UInt8),([47] : List UInt8)])
def dictumref02_one.l1 (k:Nat) (a0:List UInt8) : Nat→Int→Option (Int)
 | 0,_=>none
 | kk+1,x116 =>
  ((bif (decide (x116 < (a0.length:Int))) then
  (ix a0 x116).bind fun x134 =>
  (dictumref02_within.f x134).bind fun z135 =>
  some z135
  else
  some false) : Option (Bool)).bind fun z126 =>
  (bif z126 then
  dictumref02_one.l1 k a0 kk (wrap64 (x116+1))
  else
  some x116)
def dictumref02_one.l2 (k:Nat) (a0:List UInt8) (a1:Int) (z163:(List T_dictumref02_special)) : Nat→Int→Option (Sum (T_api_Token×Int×Int) (Unit))
 | 0,_=>none
 | kk+1,x169 =>
  (bif (decide (x169 < (z163.length:Int))) then
  (ix z163 x169).bind fun x181 =>
  (dictumref02_at.f a0 a1 x181.f_Rune).bind fun z194 =>
  (bif z194 then
  (ix z163 x169).bind fun x201 =>
  (ix z163 x169).bind fun x214 =>
  (ix z163 x169).bind fun x227 =>
  some (.inl ((⟨x201.f_Kind,x214.f_Text,(0:Int),(⟨(0:Int),(0:Int),(0:Int)⟩ : T_api_Spot)⟩ : T_api_Token),wrap64 (a1+(x227.f_Rune.length:Int)),0))
  else
  dictumref02_one.l2 k a0 a1 z163 kk (wrap64 (x169+1)))
  else
  some (.inr ()))
def dictumref02_one.l3 (k:Nat) (a0:List UInt8) (a1:Int) (z246:(List (List UInt8))) : Nat→Int→Option (Sum (T_api_Token×Int×Int) (Unit))
 | 0,_=>none
 | kk+1,x252 =>
  (bif (decide (x252 < (z246.length:Int))) then
  (ix z246 x252).bind fun x264 =>
  (dictumref02_at.f a0 a1 x264).bind fun z274 =>
  (bif z274 then
  (ix z246 x252).bind fun x281 =>
  (ix z246 x252).bind fun x291 =>
  some (.inl ((⟨3,x281,(0:Int),(⟨(0:Int),(0:Int),(0:Int)⟩ : T_api_Spot)⟩ : T_api_Token),wrap64 (a1+(x291.length:Int)),0))
  else
  dictumref02_one.l3 k a0 a1 z246 kk (wrap64 (x252+1)))
  else
  some (.inr ()))
def dictumref02_one.f (k:Nat) (a0:List UInt8) (a1:Int) : Option (T_api_Token×Int×Int):=
 (bif (decide (a1 ≥ (a0.length:Int))) then
 some ((⟨(0:Int),([] : List UInt8),(0:Int),(⟨(0:Int),(0:Int),(0:Int)⟩ : T_api_Spot)⟩ : T_api_Token),a1,0)
 else
 (ix a0 a1).bind fun x110 =>
 (dictumref02_letter.f x110).bind fun z111 =>
 (bif z111 then
 (dictumref02_one.l1 k a0 k a1).bind fun z118 =>
 (bif (decide ((wrap64 (z118 - a1)) > 31)) then
 some ((⟨(0:Int),([] : List UInt8),(0:Int),(⟨(0:Int),(0:Int),(0:Int)⟩ : T_api_Spot)⟩ : T_api_Token),z118,22)
 else
 (cut a0 a1 z118).bind fun y146 =>
 some ((⟨1,y146,(0:Int),(⟨(0:Int),(0:Int),(0:Int)⟩ : T_api_Spot)⟩ : T_api_Token),z118,0))
 else
 (ix a0 a1).bind fun x150 =>
 (dictumref02_digit.f x150).bind fun z151 =>
 (bif z151 then
 (dictumref02_number.f k a0 a1).bind fun z156 =>
 some (z156.1,z156.2.1,z156.2.2)
 else
 (dictumref02_specials.f ).bind fun z163 =>
 (dictumref02_one.l2 k a0 a1 z163 k 0).bind fun z170=>match z170 with
 | .inl r_=>some r_
 | .inr _ =>
 (dictumref02_Signs.f ).bind fun z246 =>
 (dictumref02_one.l3 k a0 a1 z246 k 0).bind fun z253=>match z253 with
 | .inl r_=>some r_
 | .inr _ =>
 some ((⟨(0:Int),([] : List UInt8),(0:Int),(⟨(0:Int),(0:Int),(0:Int)⟩ : T_api_Spot)⟩ : T_api_Token),a1,20))))
def dictumref02_Scan.l1 (k:Nat) (a0:List UInt8) : Nat→(List T_api_Token)→Int→T_api_Spot→Option (Sum ((List T_api_Token)×T_api_Fault) (Unit))
 | 0,_,_,_=>none
 | kk+1,x116,x117,x118 =>
  (dictumref02_skip.f k a0 x117).bind fun z126 =>
  (dictumref02_on.f k a0 x118 z126).bind fun z130 =>
  (dictumref02_one.f k a0 z126).bind fun z137 =>
  (bif (z137.2.2 != 0) then
  some (.inl (([] : List T_api_Token),(⟨z137.2.2,(⟨z130.f_Line,z130.f_Col,z130.f_Off⟩ : T_api_Spot)⟩ : T_api_Fault)))
  else
  (chk (decide ((x116.length+[(⟨z137.1.f_Kind,z137.1.f_Text,z137.1.f_Int,(⟨z130.f_Line,z130.f_Col,z130.f_Off⟩ : T_api_Spot)⟩ : T_api_Token)].length) * 56≤140737488355328))).bind fun _ =>
  (bif (z137.1.f_Kind == 0) then
  some (.inl ((x116++[(⟨z137.1.f_Kind,z137.1.f_Text,z137.1.f_Int,(⟨z130.f_Line,z130.f_Col,z130.f_Off⟩ : T_api_Spot)⟩ : T_api_Token)]),(⟨(0:Int),(⟨(0:Int),(0:Int),(0:Int)⟩ : T_api_Spot)⟩ : T_api_Fault)))
  else
  dictumref02_Scan.l1 k a0 kk (x116++[(⟨z137.1.f_Kind,z137.1.f_Text,z137.1.f_Int,(⟨z130.f_Line,z130.f_Col,z130.f_Off⟩ : T_api_Spot)⟩ : T_api_Token)]) z137.2.1 z130))
def dictumref02_Scan.f (k:Nat) (a0:List UInt8) : Option ((List T_api_Token)×T_api_Fault):=
 (dictumref02_Scan.l1 k a0 k ([] : List T_api_Token) 0 (⟨1,1,(0:Int)⟩ : T_api_Spot)).bind fun z119=>match z119 with
 | .inl r_=>some r_
 | .inr _ =>
 none
def dictumref04_ahead.f (k:Nat) (a0:List UInt8) : Option ((List T_api_Token)×T_api_Fault):=
 (dictumref02_Scan.f k a0).bind fun z106 =>
 (bif (z106.2.f_Code == 0) then
 some (z106.1,z106.2)
 else
 (cut a0 0 z106.2.f_At.f_Off).bind fun y126 =>
 (dictumref02_Scan.f k y126).bind fun z127 =>
 (cut z127.1 0 (wrap64 ((z127.1.length:Int) - 1))).bind fun y146 =>
 some (y146,z106.2))
def dictumref04_sign.f (a0:T_api_Token) (a1:List UInt8) : Option (Bool):=
 (bif (a0.f_Kind == 3) then
 some (a0.f_Text == a1)
 else
 some false)
def dictumref04_counted.f (a0:T_api_Token) : Option (Bool):=
 (bif (a0.f_Kind == 1) then
 some true
 else
 (dictumref04_sign.f (⟨a0.f_Kind,a0.f_Text,a0.f_Int,(⟨a0.f_At.f_Line,a0.f_At.f_Col,a0.f_At.f_Off⟩ : T_api_Spot)⟩ : T_api_Token) ([126] : List UInt8)).bind fun z107 =>
 (bif z107 then
 some true
 else
 (dictumref04_sign.f (⟨a0.f_Kind,a0.f_Text,a0.f_Int,(⟨a0.f_At.f_Line,a0.f_At.f_Col,a0.f_At.f_Off⟩ : T_api_Spot)⟩ : T_api_Token) ([38] : List UInt8)).bind fun z112 =>
 (bif z112 then
 some true
 else
 (dictumref04_sign.f (⟨a0.f_Kind,a0.f_Text,a0.f_Int,(⟨a0.f_At.f_Line,a0.f_At.f_Col,a0.f_At.f_Off⟩ : T_api_Spot)⟩ : T_api_Token) ([124] : List UInt8)).bind fun z117 =>
 (bif z117 then
 some true
 else
 (dictumref04_sign.f (⟨a0.f_Kind,a0.f_Text,a0.f_Int,(⟨a0.f_At.f_Line,a0.f_At.f_Col,a0.f_At.f_Off⟩ : T_api_Spot)⟩ : T_api_Token) ([45,62] : List UInt8)).bind fun z122 =>
 (bif z122 then
 some true
 else
 (dictumref04_sign.f (⟨a0.f_Kind,a0.f_Text,a0.f_Int,(⟨a0.f_At.f_Line,a0.f_At.f_Col,a0.f_At.f_Off⟩ : T_api_Spot)⟩ : T_api_Token) ([60,45,62] : List UInt8)).bind fun z127 =>
 some z127)))))
def dictumref03_T_Copy.f (a0:T_dictumref03_T) : Option (T_dictumref03_T):=
 (chk (decide ((([] : List T_api_Node).length+a0.f_N.length) * 40≤140737488355328))).bind fun _ =>
 some (⟨(([] : List T_api_Node)++a0.f_N)⟩ : T_dictumref03_T)
def dictumref04_parser_tok.f (a0:T_dictumref04_parser) (a0_0:T_dictumref03_T) : Option (T_api_Token):=
 (bif (decide (a0.f_i < (a0.f_l.length:Int))) then
 (ix a0.f_l a0.f_i).bind fun x111 =>
 some x111
 else
 some (⟨(0:Int),([] : List UInt8),(0:Int),(⟨(0:Int),(0:Int),(0:Int)⟩ : T_api_Spot)⟩ : T_api_Token))
def dictumref04_parser_is.f (a0:T_dictumref04_parser) (a1:List UInt8) (a0_0:T_dictumref03_T) : Option (Bool):=
 (bif (a0.f_bad.f_Code == 0) then
 (dictumref04_parser_tok.f a0 a0_0).bind fun z102 =>
 (dictumref04_sign.f z102 a1).bind fun z106 =>
 some z106
 else
 some false)
def dictumref04_parser_fail.f (a0:T_dictumref04_parser) (a1:Int) (a0_0:T_dictumref03_T) : Option (T_dictumref04_parser):=
 (bif (a0.f_bad.f_Code == 0) then
 (dictumref04_parser_tok.f a0 a0_0).bind fun z102 =>
 some (⟨a0.f_l,a0.f_i,a0.f_n,a0.f_deep,a0.f_full,(⟨a1,(⟨z102.f_At.f_Line,z102.f_At.f_Col,z102.f_At.f_Off⟩ : T_api_Spot)⟩ : T_api_Fault)⟩ : T_dictumref04_parser)
 else
 some a0)
def dictumref04_parser_take.f (a0:T_dictumref04_parser) (a0_0:T_dictumref03_T) : Option (T_dictumref04_parser):=
 (bif (a0.f_bad.f_Code != 0) then
 some a0
 else
 ((dictumref04_parser_tok.f a0 a0_0).bind fun z116 =>
 (dictumref04_counted.f z116).bind fun z120 =>
 (bif z120 then
 (bif (decide ((wrap64 (a0.f_n+1)) > 512)) then
 (dictumref04_parser_fail.f (⟨a0.f_l,a0.f_i,wrap64 (a0.f_n+1),a0.f_deep,a0.f_full,(⟨a0.f_bad.f_Code,(⟨a0.f_bad.f_At.f_Line,a0.f_bad.f_At.f_Col,a0.f_bad.f_At.f_Off⟩ : T_api_Spot)⟩ : T_api_Fault)⟩ : T_dictumref04_parser) 40 a0_0).bind fun z129 =>
 some (.inl z129)
 else
 some (.inr (⟨a0.f_l,a0.f_i,wrap64 (a0.f_n+1),a0.f_deep,a0.f_full,(⟨a0.f_bad.f_Code,(⟨a0.f_bad.f_At.f_Line,a0.f_bad.f_At.f_Col,a0.f_bad.f_At.f_Off⟩ : T_api_Spot)⟩ : T_api_Fault)⟩ : T_dictumref04_parser)))
 else
 some (.inr a0)) : Option (Sum (T_dictumref04_parser) (T_dictumref04_parser))).bind fun z107=>match z107 with
 | .inl r_=>some r_
 | .inr x102 =>
 some (⟨x102.f_l,wrap64 (x102.f_i+1),x102.f_n,x102.f_deep,x102.f_full,(⟨x102.f_bad.f_Code,(⟨x102.f_bad.f_At.f_Line,x102.f_bad.f_At.f_Col,x102.f_bad.f_At.f_Off⟩ : T_api_Spot)⟩ : T_api_Fault)⟩ : T_dictumref04_parser))
def dictumref04_parser_put.f (k:Nat) (a0:T_dictumref04_parser) (a1:T_api_Node) (a0_0:T_dictumref03_T) : Option (Int×T_dictumref04_parser×T_dictumref03_T):=
 ((bif (a0.f_bad.f_Code != 0) then
 some true
 else
 some a0.f_full) : Option (Bool)).bind fun z107 =>
 (bif z107 then
 some (0,a0,a0_0)
 else
 (dictumref03_T_Put.f k a0_0 (⟨a1.f_Kind,a1.f_Name,a1.f_L,a1.f_R⟩ : T_api_Node)).bind fun z115 =>
 (bif (z115.2.1 == 30) then
 some (z115.1,(⟨a0.f_l,a0.f_i,a0.f_n,a0.f_deep,true,(⟨a0.f_bad.f_Code,(⟨a0.f_bad.f_At.f_Line,a0.f_bad.f_At.f_Col,a0.f_bad.f_At.f_Off⟩ : T_api_Spot)⟩ : T_api_Fault)⟩ : T_dictumref04_parser),z115.2.2)
 else
 some (z115.1,a0,z115.2.2)))
def dictumref04_parser_two.f (k:Nat) (a0:T_dictumref04_parser) (a1:Int) (a2:Int) (a3:Int) (a0_0:T_dictumref03_T) : Option (Int×T_dictumref04_parser×T_dictumref03_T):=
 (dictumref04_parser_put.f k a0 (⟨a1,([] : List UInt8),a2,a3⟩ : T_api_Node) a0_0).bind fun z101 =>
 some (z101.1,z101.2.1,z101.2.2)
structure G_dictumref04_parser_formula where
 dictumref04_parser_formula:(a0:T_dictumref04_parser)→(a0_0:T_dictumref03_T)→Option (Int×T_dictumref04_parser×T_dictumref03_T)
 dictumref04_parser_single:(a0:T_dictumref04_parser)→(a0_0:T_dictumref03_T)→Option (Int×T_dictumref04_parser×T_dictumref03_T)
 dictumref04_parser_both:(a0:T_dictumref04_parser)→(a0_0:T_dictumref03_T)→Option (Int×T_dictumref04_parser×T_dictumref03_T)
 dictumref04_parser_joined:(a0:T_dictumref04_parser)→(a0_0:T_dictumref03_T)→Option (Int×T_dictumref04_parser×T_dictumref03_T)
 dictumref04_parser_implied:(a0:T_dictumref04_parser)→(a0_0:T_dictumref03_T)→Option (Int×T_dictumref04_parser×T_dictumref03_T)
def dictumref04_parser_formula.F (k:Nat) (R:G_dictumref04_parser_formula) (a0:T_dictumref04_parser) (a0_0:T_dictumref03_T) : Option (Int×T_dictumref04_parser×T_dictumref03_T):=
 (R.dictumref04_parser_implied a0 a0_0).bind fun z101 =>
 (dictumref04_parser_is.f z101.2.1 ([60,45,62] : List UInt8) z101.2.2).bind fun z113 =>
 (bif (!z113) then
 some (z101.1,z101.2.1,z101.2.2)
 else
 (dictumref04_parser_take.f z101.2.1 z101.2.2).bind fun z118 =>
 (R.dictumref04_parser_formula z118 z101.2.2).bind fun z127 =>
 (dictumref04_parser_two.f k z127.2.1 5 z101.1 z127.1 z127.2.2).bind fun z139 =>
 (dictumref04_parser_two.f k z139.2.1 5 z127.1 z101.1 z139.2.2).bind fun z151 =>
 (dictumref04_parser_two.f k z151.2.1 3 z139.1 z151.1 z151.2.2).bind fun z163 =>
 some (z163.1,z163.2.1,z163.2.2))
def dictumref04_parser_single.F (k:Nat) (R:G_dictumref04_parser_formula) (a0:T_dictumref04_parser) (a0_0:T_dictumref03_T) : Option (Int×T_dictumref04_parser×T_dictumref03_T):=
 (dictumref04_parser_tok.f a0 a0_0).bind fun z101 =>
 (bif (a0.f_bad.f_Code != 0) then
 some (0,a0,a0_0)
 else
 (dictumref04_parser_is.f a0 ([126] : List UInt8) a0_0).bind fun z114 =>
 (bif z114 then
 (dictumref04_parser_take.f a0 a0_0).bind fun z119 =>
 (R.dictumref04_parser_single z119 a0_0).bind fun z128 =>
 (dictumref04_parser_put.f k z128.2.1 (⟨2,([] : List UInt8),(0:Int),(0:Int)⟩ : T_api_Node) z128.2.2).bind fun z140 =>
 (dictumref04_parser_two.f k z140.2.1 5 z128.1 z140.1 z140.2.2).bind fun z152 =>
 some (z152.1,z152.2.1,z152.2.2)
 else
 (dictumref04_parser_is.f a0 ([40] : List UInt8) a0_0).bind fun z164 =>
 (bif z164 then
 (bif (decide (a0.f_deep ≥ 1024)) then
 (dictumref04_parser_fail.f a0 41 a0_0).bind fun z170 =>
 some (0,z170,a0_0)
 else
 (R.dictumref04_parser_formula (⟨a0.f_l,wrap64 (a0.f_i+1),a0.f_n,wrap64 (a0.f_deep+1),a0.f_full,(⟨a0.f_bad.f_Code,(⟨a0.f_bad.f_At.f_Line,a0.f_bad.f_At.f_Col,a0.f_bad.f_At.f_Off⟩ : T_api_Spot)⟩ : T_api_Fault)⟩ : T_dictumref04_parser) a0_0).bind fun z185 =>
 (dictumref04_parser_is.f z185.2.1 ([41] : List UInt8) z185.2.2).bind fun z197 =>
 (bif (!z197) then
 (dictumref04_parser_fail.f z185.2.1 41 z185.2.2).bind fun z202 =>
 some (0,z202,z185.2.2)
 else
 some (z185.1,(⟨z185.2.1.f_l,wrap64 (z185.2.1.f_i+1),z185.2.1.f_n,wrap64 (z185.2.1.f_deep - 1),z185.2.1.f_full,(⟨z185.2.1.f_bad.f_Code,(⟨z185.2.1.f_bad.f_At.f_Line,z185.2.1.f_bad.f_At.f_Col,z185.2.1.f_bad.f_At.f_Off⟩ : T_api_Spot)⟩ : T_api_Fault)⟩ : T_dictumref04_parser),z185.2.2)))
 else
 ((bif (z101.f_Kind == 1) then
 some (z101.f_Text == ([116,114,117,101] : List UInt8))
 else
 some false) : Option (Bool)).bind fun z218 =>
 (bif z218 then
 (dictumref04_parser_take.f a0 a0_0).bind fun z224 =>
 (dictumref04_parser_put.f k z224 (⟨2,([] : List UInt8),(0:Int),(0:Int)⟩ : T_api_Node) a0_0).bind fun z233 =>
 (dictumref04_parser_two.f k z233.2.1 5 z233.1 z233.1 z233.2.2).bind fun z245 =>
 some (z245.1,z245.2.1,z245.2.2)
 else
 ((bif (z101.f_Kind == 1) then
 some (z101.f_Text == ([102,97,108,115,101] : List UInt8))
 else
 some false) : Option (Bool)).bind fun z258 =>
 (bif z258 then
 (dictumref04_parser_take.f a0 a0_0).bind fun z264 =>
 (dictumref04_parser_put.f k z264 (⟨2,([] : List UInt8),(0:Int),(0:Int)⟩ : T_api_Node) a0_0).bind fun z273 =>
 some (z273.1,z273.2.1,z273.2.2)
 else
 ((bif (z101.f_Kind == 1) then
 (dictumref03_Word.f k z101.f_Text).bind fun z324 =>
 some z324
 else
 some false) : Option (Bool)).bind fun z286 =>
 (bif z286 then
 (dictumref04_parser_take.f a0 a0_0).bind fun z292 =>
 (dictumref04_parser_put.f k z292 (⟨1,z101.f_Text,(0:Int),(0:Int)⟩ : T_api_Node) a0_0).bind fun z301 =>
 some (z301.1,z301.2.1,z301.2.2)
 else
 (dictumref04_parser_fail.f a0 41 a0_0).bind fun z313 =>
 some (0,z313,a0_0)))))))
def dictumref04_parser_both.l1 (k:Nat) (R:G_dictumref04_parser_formula) : Nat→Int→T_dictumref04_parser→T_dictumref03_T→Option (Int×T_dictumref04_parser×T_dictumref03_T)
 | 0,_,_,_=>none
 | kk+1,x113,x114,x119 =>
  (dictumref04_parser_is.f x114 ([38] : List UInt8) x119).bind fun z138 =>
  (bif z138 then
  (dictumref04_parser_take.f x114 x119).bind fun z143 =>
  (R.dictumref04_parser_single z143 x119).bind fun z152 =>
  (dictumref04_parser_two.f k z152.2.1 3 x113 z152.1 z152.2.2).bind fun z164 =>
  dictumref04_parser_both.l1 k R kk z164.1 z164.2.1 z164.2.2
  else
  some (x113,x114,x119))
def dictumref04_parser_both.F (k:Nat) (R:G_dictumref04_parser_formula) (a0:T_dictumref04_parser) (a0_0:T_dictumref03_T) : Option (Int×T_dictumref04_parser×T_dictumref03_T):=
 (R.dictumref04_parser_single a0 a0_0).bind fun z101 =>
 (dictumref04_parser_both.l1 k R k z101.1 z101.2.1 z101.2.2).bind fun (x122,x123,x128) =>
 some (x122,x123,x128)
def dictumref04_parser_joined.l1 (k:Nat) (R:G_dictumref04_parser_formula) : Nat→Int→T_dictumref04_parser→T_dictumref03_T→Option (Int×T_dictumref04_parser×T_dictumref03_T)
 | 0,_,_,_=>none
 | kk+1,x113,x114,x119 =>
  (dictumref04_parser_is.f x114 ([124] : List UInt8) x119).bind fun z138 =>
  (bif z138 then
  (dictumref04_parser_take.f x114 x119).bind fun z143 =>
  (R.dictumref04_parser_both z143 x119).bind fun z152 =>
  (dictumref04_parser_two.f k z152.2.1 4 x113 z152.1 z152.2.2).bind fun z164 =>
  dictumref04_parser_joined.l1 k R kk z164.1 z164.2.1 z164.2.2
  else
  some (x113,x114,x119))
def dictumref04_parser_joined.F (k:Nat) (R:G_dictumref04_parser_formula) (a0:T_dictumref04_parser) (a0_0:T_dictumref03_T) : Option (Int×T_dictumref04_parser×T_dictumref03_T):=
 (R.dictumref04_parser_both a0 a0_0).bind fun z101 =>
 (dictumref04_parser_joined.l1 k R k z101.1 z101.2.1 z101.2.2).bind fun (x122,x123,x128) =>
 some (x122,x123,x128)
def dictumref04_parser_implied.F (k:Nat) (R:G_dictumref04_parser_formula) (a0:T_dictumref04_parser) (a0_0:T_dictumref03_T) : Option (Int×T_dictumref04_parser×T_dictumref03_T):=
 (R.dictumref04_parser_joined a0 a0_0).bind fun z101 =>
 (dictumref04_parser_is.f z101.2.1 ([45,62] : List UInt8) z101.2.2).bind fun z113 =>
 (bif (!z113) then
 some (z101.1,z101.2.1,z101.2.2)
 else
 (dictumref04_parser_take.f z101.2.1 z101.2.2).bind fun z118 =>
 (R.dictumref04_parser_implied z118 z101.2.2).bind fun z127 =>
 (dictumref04_parser_two.f k z127.2.1 5 z101.1 z127.1 z127.2.2).bind fun z139 =>
 some (z139.1,z139.2.1,z139.2.2))
def G_dictumref04_parser_formula.rec_ (k:Nat) : Nat→G_dictumref04_parser_formula
 | 0=>⟨fun a0 a0_0=>none,fun a0 a0_0=>none,fun a0 a0_0=>none,fun a0 a0_0=>none,fun a0 a0_0=>none⟩
 | n+1=>⟨fun a0 a0_0=>dictumref04_parser_formula.F k (G_dictumref04_parser_formula.rec_ k n) a0 a0_0,fun a0 a0_0=>dictumref04_parser_single.F k (G_dictumref04_parser_formula.rec_ k n) a0 a0_0,fun a0 a0_0=>dictumref04_parser_both.F k (G_dictumref04_parser_formula.rec_ k n) a0 a0_0,fun a0 a0_0=>dictumref04_parser_joined.F k (G_dictumref04_parser_formula.rec_ k n) a0 a0_0,fun a0 a0_0=>dictumref04_parser_implied.F k (G_dictumref04_parser_formula.rec_ k n) a0 a0_0⟩
def dictumref04_parser_formula.f (k:Nat) (a0:T_dictumref04_parser) (a0_0:T_dictumref03_T) : Option (Int×T_dictumref04_parser×T_dictumref03_T):=(G_dictumref04_parser_formula.rec_ k k).dictumref04_parser_formula a0 a0_0
def dictumref04_parser_single.f (k:Nat) (a0:T_dictumref04_parser) (a0_0:T_dictumref03_T) : Option (Int×T_dictumref04_parser×T_dictumref03_T):=(G_dictumref04_parser_formula.rec_ k k).dictumref04_parser_single a0 a0_0
def dictumref04_parser_both.f (k:Nat) (a0:T_dictumref04_parser) (a0_0:T_dictumref03_T) : Option (Int×T_dictumref04_parser×T_dictumref03_T):=(G_dictumref04_parser_formula.rec_ k k).dictumref04_parser_both a0 a0_0
def dictumref04_parser_joined.f (k:Nat) (a0:T_dictumref04_parser) (a0_0:T_dictumref03_T) : Option (Int×T_dictumref04_parser×T_dictumref03_T):=(G_dictumref04_parser_formula.rec_ k k).dictumref04_parser_joined a0 a0_0
def dictumref04_parser_implied.f (k:Nat) (a0:T_dictumref04_parser) (a0_0:T_dictumref03_T) : Option (Int×T_dictumref04_parser×T_dictumref03_T):=(G_dictumref04_parser_formula.rec_ k k).dictumref04_parser_implied a0 a0_0
structure G_dictumref04_parser_formula.Le (R R':G_dictumref04_parser_formula) : Prop where
 dictumref04_parser_formula:∀ (a0:T_dictumref04_parser) (a0_0:T_dictumref03_T) ,SX.Le (R.dictumref04_parser_formula a0 a0_0) (R'.dictumref04_parser_formula a0 a0_0)
 dictumref04_parser_single:∀ (a0:T_dictumref04_parser) (a0_0:T_dictumref03_T) ,SX.Le (R.dictumref04_parser_single a0 a0_0) (R'.dictumref04_parser_single a0 a0_0)
 dictumref04_parser_both:∀ (a0:T_dictumref04_parser) (a0_0:T_dictumref03_T) ,SX.Le (R.dictumref04_parser_both a0 a0_0) (R'.dictumref04_parser_both a0 a0_0)
 dictumref04_parser_joined:∀ (a0:T_dictumref04_parser) (a0_0:T_dictumref03_T) ,SX.Le (R.dictumref04_parser_joined a0 a0_0) (R'.dictumref04_parser_joined a0 a0_0)
 dictumref04_parser_implied:∀ (a0:T_dictumref04_parser) (a0_0:T_dictumref03_T) ,SX.Le (R.dictumref04_parser_implied a0 a0_0) (R'.dictumref04_parser_implied a0 a0_0)
def dictumref04_Parse.l1 (k:Nat) (a0:T_dictumref03_T) (z106:(List T_api_Token)×T_api_Fault) : Nat→Int→Int→Option (Sum (Int×T_api_Fault×T_dictumref03_T) (Unit))
 | 0,_,_=>none
 | kk+1,x120,x121 =>
  (bif (decide (x121 < (z106.1.length:Int))) then
  ((ix z106.1 x121).bind fun x159 =>
  (dictumref04_counted.f x159).bind fun z172 =>
  (bif z172 then
  some (wrap64 (x120+1))
  else
  some x120) : Option (Int)).bind fun z134 =>
  (bif (decide (z134 > 512)) then
  (ix z106.1 x121).bind fun x142 =>
  some (.inl (0,(⟨40,(⟨x142.f_At.f_Line,x142.f_At.f_Col,x142.f_At.f_Off⟩ : T_api_Spot)⟩ : T_api_Fault),a0))
  else
  dictumref04_Parse.l1 k a0 z106 kk z134 (wrap64 (x121+1)))
  else
  some (.inr ()))
def dictumref04_Parse.f (k:Nat) (a0:T_dictumref03_T) (a1:List UInt8) : Option (Int×T_api_Fault×T_dictumref03_T):=
 (dictumref04_ahead.f k a1).bind fun z106 =>
 (dictumref04_Parse.l1 k a0 z106 k 0 0).bind fun z122=>match z122 with
 | .inl r_=>some r_
 | .inr _ =>
 ((bif (z106.2.f_Code != 0) then
 (chk (decide ((z106.1.length+([(⟨0,([] : List UInt8),(0:Int),(⟨z106.2.f_At.f_Line,z106.2.f_At.f_Col,z106.2.f_At.f_Off⟩ : T_api_Spot)⟩ : T_api_Token)]).length) * 56≤140737488355328))).bind fun _ =>
 some (z106.1++[(⟨0,([] : List UInt8),(0:Int),(⟨z106.2.f_At.f_Line,z106.2.f_At.f_Col,z106.2.f_At.f_Off⟩ : T_api_Spot)⟩ : T_api_Token)])
 else
 some z106.1) : Option ((List T_api_Token))).bind fun z183 =>
 (dictumref03_T_Copy.f a0).bind fun z188 =>
 (dictumref04_parser_formula.f k (⟨z183,(0:Int),(0:Int),(0:Int),false,(⟨(0:Int),(⟨(0:Int),(0:Int),(0:Int)⟩ : T_api_Spot)⟩ : T_api_Fault)⟩ : T_dictumref04_parser) z188).bind fun z205 =>
 (((bif (z205.2.1.f_bad.f_Code == 0) then
 (dictumref04_parser_tok.f z205.2.1 z205.2.2).bind fun z262 =>
 (bif (z262.f_Kind != 0) then
 some true
 else
 some (z106.2.f_Code != 0))
 else
 some false) : Option (Bool)).bind fun z245 =>
 (bif z245 then
 (dictumref04_parser_fail.f z205.2.1 41 z205.2.2).bind fun z251 =>
 some z251
 else
 some z205.2.1) : Option (T_dictumref04_parser)).bind fun z222 =>
 (bif (z222.f_bad.f_Code != 0) then
 some (0,(⟨z222.f_bad.f_Code,(⟨z222.f_bad.f_At.f_Line,z222.f_bad.f_At.f_Col,z222.f_bad.f_At.f_Off⟩ : T_api_Spot)⟩ : T_api_Fault),a0)
 else
 (bif z222.f_full then
 some (0,(⟨30,(⟨(0:Int),(0:Int),(0:Int)⟩ : T_api_Spot)⟩ : T_api_Fault),a0)
 else
 some (z205.1,(⟨(0:Int),(⟨(0:Int),(0:Int),(0:Int)⟩ : T_api_Spot)⟩ : T_api_Fault),(⟨z205.2.2.f_N⟩ : T_dictumref03_T))))
def slices_Clone_api_Node.f (a0:(List T_api_Node)) : Option ((List T_api_Node)):=
 (nilc a0
 (some ([] : List T_api_Node))
 ((chk (decide ((([] : List T_api_Node).length+a0.length) * 40≤140737488355328))).bind fun _ =>
 some (([] : List T_api_Node)++a0)))
def formula_Table_Rows.f (a0:T_formula_Table) (a0_1:(List (T_api_Node×Int))) : Option ((List T_api_Node)):=
 (formula_Table_alive.f a0 a0_1).bind fun z101 =>
 (slices_Clone_api_Node.f a0.f_rows).bind fun z108 =>
 some z108
def dictumref03_Same.l1 (k:Nat) (a0:(List T_api_Node)) (a1:(List T_api_Node)) : Nat→Int→Option (Sum (Bool) (Unit))
 | 0,_=>none
 | kk+1,x102 =>
  (bif (decide (x102 < (a0.length:Int))) then
  (ix a0 x102).bind fun x113 =>
  (ix a1 x102).bind fun x123 =>
  (bif (!(T_api_Node.eqb x113 x123)) then
  some (.inl false)
  else
  dictumref03_Same.l1 k a0 a1 kk (wrap64 (x102+1)))
  else
  some (.inr ()))
def dictumref03_Same.f (k:Nat) (a0:(List T_api_Node)) (a1:(List T_api_Node)) : Option (Bool):=
 (bif ((a0.length:Int) != (a1.length:Int)) then
 some false
 else
 (dictumref03_Same.l1 k a0 a1 k 0).bind fun z103=>match z103 with
 | .inl r_=>some r_
 | .inr _ =>
 some true)
def dictumlaw03_Like.f (k:Nat) (a0:T_formula_Table) (a1:T_dictumref03_T) (a0_1:(List (T_api_Node×Int))) : Option (Bool):=
 (formula_Table_Rows.f a0 a0_1).bind fun z103 =>
 (dictumref03_Same.f k z103 a1.f_N).bind fun z115 =>
 (bif z115 then
 (formula_Table_Len.f a0 a0_1).bind fun z123 =>
 some (z123 == (a1.f_N.length:Int))
 else
 some false)
def syntax_Count.l1 (k:Nat) (z101:(List T_api_Token)×T_api_Fault) : Nat→Int→Int→Option (Int)
 | 0,_,_=>none
 | kk+1,x118,x119 =>
  (bif (decide (x119 < (z101.1.length:Int))) then
  ((ix z101.1 x119).bind fun x136 =>
  (syntax_counted.f x136).bind fun z157 =>
  (bif z157 then
  some (wrap64 (x118+1))
  else
  some x118) : Option (Int)).bind fun z130 =>
  syntax_Count.l1 k z101 kk z130 (wrap64 (x119+1))
  else
  some x118)
def syntax_Count.f (k:Nat) (a0:List UInt8) : Option (Int):=
 (syntax_ahead.f k a0).bind fun z101 =>
 (syntax_Count.l1 k z101 k 0 0).bind fun z121 =>
 some z121
theorem syntax_Count.l1.mono {k k':Nat} (hk:k≤k') (z101:(List T_api_Token)×T_api_Fault) : ∀ (n n':Nat) (hn:n≤n') y0 y1,Le (syntax_Count.l1 k z101 n y0 y1) (syntax_Count.l1 k' z101 n' y0 y1):=by
 intro n
 induction n with
 | zero=>intro n' hn y0 y1; exact Le.none _
 | succ n ih =>
  intro n' hn y0 y1
  obtain ⟨n',rfl⟩ : ∃ m,n'=m+1:=⟨n' - 1,by omega⟩
  have hn':n≤n':=by omega
  rw [syntax_Count.l1.eq_2,syntax_Count.l1.eq_2]
  repeat' first
   | exact Le.refl _
   | exact syntax_ahead.mono hk _
   | exact ih n' hn' _ _
   | refine Le.bind ?_ fun x_=>?_
   | refine Le.cond ?_ ?_
   | refine Le.nilc ?_ ?_
   | split
theorem syntax_Count.mono {k k':Nat} (hk:k≤k') (a0:List UInt8) : Le (syntax_Count.f k a0) (syntax_Count.f k' a0):=by
 unfold syntax_Count.f
 repeat' first
  | exact Le.refl _
  | exact syntax_ahead.mono hk _
  | exact syntax_Count.l1.mono hk _ _ _ hk _ _
  | refine Le.bind ?_ fun x_=>?_
  | refine Le.cond ?_ ?_
  | refine Le.nilc ?_ ?_
  | split
def dictumref04_Count.l1 (k:Nat) (z101:(List T_api_Token)×T_api_Fault) : Nat→Int→Int→Option (Int)
 | 0,_,_=>none
 | kk+1,x115,x116 =>
  (bif (decide (x116 < (z101.1.length:Int))) then
  ((ix z101.1 x116).bind fun x136 =>
  (dictumref04_counted.f x136).bind fun z149 =>
  (bif z149 then
  some (wrap64 (x115+1))
  else
  some x115) : Option (Int)).bind fun z130 =>
  dictumref04_Count.l1 k z101 kk z130 (wrap64 (x116+1))
  else
  some x115)
def dictumref04_Count.f (k:Nat) (a0:List UInt8) : Option (Int):=
 (dictumref04_ahead.f k a0).bind fun z101 =>
 (dictumref04_Count.l1 k z101 k 0 0).bind fun z118 =>
 some z118
def formula_Table_Node.f (a0:T_formula_Table) (a1:Int) (a0_1:(List (T_api_Node×Int))) : Option (T_api_Node×Bool):=
 (formula_Table_alive.f a0 a0_1).bind fun z106 =>
 (formula_Table_has.f a0 a1 a0_1).bind fun z110 =>
 (bif (!z110) then
 some ((⟨(0:Int),([] : List UInt8),(0:Int),(0:Int)⟩ : T_api_Node),false)
 else
 (ix a0.f_rows a1).bind fun x118 =>
 some (x118,true))
def syntax_bot.f (a0:T_formula_Table) (a1:Int) (a0_1:(List (T_api_Node×Int))) : Option (Bool):=
 (formula_Table_Node.f a0 a1 a0_1).bind fun z101 =>
 some (z101.1.f_Kind == 2)
def syntax_pieces.f (a0:T_formula_Table) (a1:T_api_Node) (a0_1:(List (T_api_Node×Int))) : Option ((List UInt8)×(List Int)×(List Int)):=
 (bif (a1.f_Kind == 3) then
 some (([32,38,32] : List UInt8),[a1.f_L,a1.f_R],[2,3])
 else
 (bif (a1.f_Kind == 4) then
 some (([32,124,32] : List UInt8),[a1.f_L,a1.f_R],[1,2])
 else
 (bif (a1.f_Kind == 5) then
 ((syntax_bot.f a0 a1.f_L a0_1).bind fun z170 =>
 (bif z170 then
 (syntax_bot.f a0 a1.f_R a0_1).bind fun z175 =>
 some z175
 else
 some false) : Option (Bool)).bind fun z134 =>
 (bif z134 then
 some (([116,114,117,101] : List UInt8),([] : List Int),([] : List Int))
 else
 (syntax_bot.f a0 a1.f_R a0_1).bind fun z140 =>
 (bif z140 then
 some (([126] : List UInt8),[a1.f_L],[3])
 else
 some (([32,45,62,32] : List UInt8),[a1.f_L,a1.f_R],[1,0])))
 else
 (bif (a1.f_Kind == 2) then
 some (([102,97,108,115,101] : List UInt8),([] : List Int),([] : List Int))
 else
 some (a1.f_Name,([] : List Int),([] : List Int))))))
def syntax_level.f (a0:T_formula_Table) (a1:Int) (a0_1:(List (T_api_Node×Int))) : Option (Int):=
 (formula_Table_Node.f a0 a1 a0_1).bind fun z101 =>
 (bif (z101.1.f_Kind == 3) then
 some 2
 else
 (bif (z101.1.f_Kind == 4) then
 some 1
 else
 (bif (z101.1.f_Kind == 5) then
 (syntax_bot.f a0 z101.1.f_R a0_1).bind fun z116 =>
 (bif z116 then
 some 3
 else
 some 0)
 else
 some 3)))
structure G_syntax_width where
 syntax_width:(a0:T_formula_Table)→(a1:Int)→(a2:(List (Int×Int)))→(a0_1:(List (T_api_Node×Int)))→Option (Int×(List (Int×Int)))
def syntax_width.l1 (k:Nat) (a0:T_formula_Table) (a0_1:(List (T_api_Node×Int))) (R:G_syntax_width) (z114:(List UInt8)×(List Int)×(List Int)) : Nat→Int→Int→(List (Int×Int))→Option (Int×(List (Int×Int)))
 | 0,_,_,_=>none
 | kk+1,x125,x126,x127 =>
  (bif (decide (x126 < (z114.2.1.length:Int))) then
  ((ix z114.2.1 x126).bind fun x146 =>
  (R.syntax_width a0 x146 x127 a0_1).bind fun z156 =>
  (ix z114.2.2 x126).bind fun x163 =>
  (syntax_level.f a0 x146 a0_1).bind fun z173 =>
  (bif (decide (z173 < x163)) then
  some (wrap64 ((wrap64 (x125+z156.1))+2),z156.2)
  else
  some (wrap64 (x125+z156.1),z156.2)) : Option (Int×(List (Int×Int)))).bind fun (x138,x139) =>
  syntax_width.l1 k a0 a0_1 R z114 kk x138 (wrap64 (x126+1)) x139
  else
  some (x125,x127))
def syntax_width.F (k:Nat) (R:G_syntax_width) (a0:T_formula_Table) (a1:Int) (a2:(List (Int×Int))) (a0_1:(List (T_api_Node×Int))) : Option (Int×(List (Int×Int))):=
 (bif (mget (fun a_ b_:Int=>a_ == b_) a2 a1).isSome then
 some (((mget (fun a_ b_:Int=>a_ == b_) a2 a1).getD (0:Int)),a2)
 else
 (formula_Table_Node.f a0 a1 a0_1).bind fun z102 =>
 (syntax_pieces.f a0 z102.1 a0_1).bind fun z114 =>
 (syntax_width.l1 k a0 a0_1 R z114 k (z114.1.length:Int) 0 a2).bind fun (x128,x129) =>
 some (((mget (fun a_ b_:Int=>a_ == b_) (mput (fun a_ b_:Int=>a_ == b_) x129 a1 (if 65537 < x128 then 65537 else x128)) a1).getD (0:Int)),(mput (fun a_ b_:Int=>a_ == b_) x129 a1 (if 65537 < x128 then 65537 else x128))))
def G_syntax_width.rec_ (k:Nat) : Nat→G_syntax_width
 | 0=>⟨fun a0 a1 a2 a0_1=>none⟩
 | n+1=>⟨fun a0 a1 a2 a0_1=>syntax_width.F k (G_syntax_width.rec_ k n) a0 a1 a2 a0_1⟩
def syntax_width.f (k:Nat) (a0:T_formula_Table) (a1:Int) (a2:(List (Int×Int))) (a0_1:(List (T_api_Node×Int))) : Option (Int×(List (Int×Int))):=(G_syntax_width.rec_ k k).syntax_width a0 a1 a2 a0_1
structure G_syntax_width.Le (R R':G_syntax_width) : Prop where
 syntax_width:∀ (a0:T_formula_Table) (a1:Int) (a2:(List (Int×Int))) (a0_1:(List (T_api_Node×Int))) ,SX.Le (R.syntax_width a0 a1 a2 a0_1) (R'.syntax_width a0 a1 a2 a0_1)
theorem syntax_width.l1.mono {k k':Nat} (hk:k≤k') {R R':G_syntax_width} (hR:G_syntax_width.Le R R') (a0:T_formula_Table) (a0_1:(List (T_api_Node×Int))) (z114:(List UInt8)×(List Int)×(List Int)) : ∀ (n n':Nat) (hn:n≤n') y0 y1 y2,Le (syntax_width.l1 k a0 a0_1 R z114 n y0 y1 y2) (syntax_width.l1 k' a0 a0_1 R' z114 n' y0 y1 y2):=by
 intro n
 induction n with
 | zero=>intro n' hn y0 y1 y2; exact Le.none _
 | succ n ih =>
  intro n' hn y0 y1 y2
  obtain ⟨n',rfl⟩ : ∃ m,n'=m+1:=⟨n' - 1,by omega⟩
  have hn':n≤n':=by omega
  rw [syntax_width.l1.eq_2,syntax_width.l1.eq_2]
  repeat' first
   | exact Le.refl _
   | exact hR.syntax_width _ _ _ _
   | exact ih n' hn' _ _ _
   | refine Le.bind ?_ fun x_=>?_
   | refine Le.cond ?_ ?_
   | refine Le.nilc ?_ ?_
   | split
theorem syntax_width.F.mono {k k':Nat} (hk:k≤k') {R R':G_syntax_width} (hR:G_syntax_width.Le R R') (a0:T_formula_Table) (a1:Int) (a2:(List (Int×Int))) (a0_1:(List (T_api_Node×Int))) : Le (syntax_width.F k R a0 a1 a2 a0_1) (syntax_width.F k' R' a0 a1 a2 a0_1):=by
 unfold syntax_width.F
 repeat' first
  | exact Le.refl _
  | exact hR.syntax_width _ _ _ _
  | exact syntax_width.l1.mono hk hR _ _ _ _ _ hk _ _ _
  | refine Le.bind ?_ fun x_=>?_
  | refine Le.cond ?_ ?_
  | refine Le.nilc ?_ ?_
  | split
theorem G_syntax_width.rec_mono {k k':Nat} (hk:k≤k') : ∀ (n n':Nat),n≤n'→G_syntax_width.Le (G_syntax_width.rec_ k n) (G_syntax_width.rec_ k' n')
 | 0,n',_=>⟨fun a0 a1 a2 a0_1=>SX.Le.none _⟩
 | n+1,0,h=>absurd h (by omega)
 | n+1,n'+1,h=>⟨fun a0 a1 a2 a0_1=>syntax_width.F.mono hk (G_syntax_width.rec_mono hk n n' (by omega)) a0 a1 a2 a0_1⟩
theorem syntax_width.mono {k k':Nat} (hk:k≤k') (a0:T_formula_Table) (a1:Int) (a2:(List (Int×Int))) (a0_1:(List (T_api_Node×Int))) : SX.Le (syntax_width.f k a0 a1 a2 a0_1) (syntax_width.f k' a0 a1 a2 a0_1):=(G_syntax_width.rec_mono hk k k' hk).syntax_width a0 a1 a2 a0_1
structure G_syntax_write where
 syntax_write:(a0:(List UInt8))→(a1:T_formula_Table)→(a2:Int)→(a3:Int)→(a1_1:(List (T_api_Node×Int)))→Option ((List UInt8))
def syntax_write.l1 (k:Nat) (a1:T_formula_Table) (a1_1:(List (T_api_Node×Int))) (R:G_syntax_write) (z113:(List UInt8)×(List Int)×(List Int)) : Nat→Int→(List UInt8)→Option ((List UInt8))
 | 0,_,_=>none
 | kk+1,x140,x141 =>
  (bif (decide (x140 < (z113.2.1.length:Int))) then
  (ix z113.2.1 x140).bind fun x151 =>
  ((bif (x140 == 1) then
  (Builder_WriteString.f x141 z113.1).bind fun z184 =>
  some z184.2
  else
  some x141) : Option ((List UInt8))).bind fun z162 =>
  (ix z113.2.2 x140).bind fun x167 =>
  (R.syntax_write z162 a1 x151 x167 a1_1).bind fun z177 =>
  syntax_write.l1 k a1 a1_1 R z113 kk (wrap64 (x140+1)) z177
  else
  some x141)
def syntax_write.F (k:Nat) (R:G_syntax_write) (a0:(List UInt8)) (a1:T_formula_Table) (a2:Int) (a3:Int) (a1_1:(List (T_api_Node×Int))) : Option ((List UInt8)):=
 (formula_Table_Node.f a1 a2 a1_1).bind fun z101 =>
 (syntax_pieces.f a1 z101.1 a1_1).bind fun z113 =>
 (syntax_level.f a1 a2 a1_1).bind fun z121 =>
 ((bif (decide (z121 < a3)) then
 (Builder_WriteByte.f a0 (40:UInt8)).bind fun z210 =>
 some z210
 else
 some a0) : Option ((List UInt8))).bind fun z126 =>
 ((bif ((z113.2.1.length:Int) != 2) then
 (Builder_WriteString.f z126 z113.1).bind fun z203 =>
 some z203.2
 else
 some z126) : Option ((List UInt8))).bind fun z132 =>
 (syntax_write.l1 k a1 a1_1 R z113 k 0 z132).bind fun z143 =>
 (bif (decide (z121 < a3)) then
 (Builder_WriteByte.f z143 (41:UInt8)).bind fun z193 =>
 some z193
 else
 some z143)
def G_syntax_write.rec_ (k:Nat) : Nat→G_syntax_write
 | 0=>⟨fun a0 a1 a2 a3 a1_1=>none⟩
 | n+1=>⟨fun a0 a1 a2 a3 a1_1=>syntax_write.F k (G_syntax_write.rec_ k n) a0 a1 a2 a3 a1_1⟩
def syntax_write.f (k:Nat) (a0:(List UInt8)) (a1:T_formula_Table) (a2:Int) (a3:Int) (a1_1:(List (T_api_Node×Int))) : Option ((List UInt8)):=(G_syntax_write.rec_ k k).syntax_write a0 a1 a2 a3 a1_1
structure G_syntax_write.Le (R R':G_syntax_write) : Prop where
 syntax_write:∀ (a0:(List UInt8)) (a1:T_formula_Table) (a2:Int) (a3:Int) (a1_1:(List (T_api_Node×Int))) ,SX.Le (R.syntax_write a0 a1 a2 a3 a1_1) (R'.syntax_write a0 a1 a2 a3 a1_1)
theorem syntax_write.l1.mono {k k':Nat} (hk:k≤k') {R R':G_syntax_write} (hR:G_syntax_write.Le R R') (a1:T_formula_Table) (a1_1:(List (T_api_Node×Int))) (z113:(List UInt8)×(List Int)×(List Int)) : ∀ (n n':Nat) (hn:n≤n') y0 y1,Le (syntax_write.l1 k a1 a1_1 R z113 n y0 y1) (syntax_write.l1 k' a1 a1_1 R' z113 n' y0 y1):=by
 intro n
 induction n with
 | zero=>intro n' hn y0 y1; exact Le.none _
 | succ n ih =>
  intro n' hn y0 y1
  obtain ⟨n',rfl⟩ : ∃ m,n'=m+1:=⟨n' - 1,by omega⟩
  have hn':n≤n':=by omega
  rw [syntax_write.l1.eq_2,syntax_write.l1.eq_2]
  repeat' first
   | exact Le.refl _
   | exact hR.syntax_write _ _ _ _ _
   | exact ih n' hn' _ _
   | refine Le.bind ?_ fun x_=>?_
   | refine Le.cond ?_ ?_
   | refine Le.nilc ?_ ?_
   | split
theorem syntax_write.F.mono {k k':Nat} (hk:k≤k') {R R':G_syntax_write} (hR:G_syntax_write.Le R R') (a0:(List UInt8)) (a1:T_formula_Table) (a2:Int) (a3:Int) (a1_1:(List (T_api_Node×Int))) : Le (syntax_write.F k R a0 a1 a2 a3 a1_1) (syntax_write.F k' R' a0 a1 a2 a3 a1_1):=by
 unfold syntax_write.F
 repeat' first
  | exact Le.refl _
  | exact hR.syntax_write _ _ _ _ _
  | exact syntax_write.l1.mono hk hR _ _ _ _ _ hk _ _
  | refine Le.bind ?_ fun x_=>?_
  | refine Le.cond ?_ ?_
  | refine Le.nilc ?_ ?_
  | split
theorem G_syntax_write.rec_mono {k k':Nat} (hk:k≤k') : ∀ (n n':Nat),n≤n'→G_syntax_write.Le (G_syntax_write.rec_ k n) (G_syntax_write.rec_ k' n')
 | 0,n',_=>⟨fun a0 a1 a2 a3 a1_1=>SX.Le.none _⟩
 | n+1,0,h=>absurd h (by omega)
 | n+1,n'+1,h=>⟨fun a0 a1 a2 a3 a1_1=>syntax_write.F.mono hk (G_syntax_write.rec_mono hk n n' (by omega)) a0 a1 a2 a3 a1_1⟩
theorem syntax_write.mono {k k':Nat} (hk:k≤k') (a0:(List UInt8)) (a1:T_formula_Table) (a2:Int) (a3:Int) (a1_1:(List (T_api_Node×Int))) : SX.Le (syntax_write.f k a0 a1 a2 a3 a1_1) (syntax_write.f k' a0 a1 a2 a3 a1_1):=(G_syntax_write.rec_mono hk k k' hk).syntax_write a0 a1 a2 a3 a1_1
def syntax_Print.f (k:Nat) (a0:T_formula_Table) (a1:Int) (a0_1:(List (T_api_Node×Int))) : Option ((List UInt8)×Int):=
 (syntax_known.f k a0 a0_1).bind fun z101 =>
 (bif (!z101) then
 some (([] : List UInt8),1)
 else
 (formula_Table_Node.f a0 a1 a0_1).bind fun z106 =>
 (bif (!z106.2) then
 some (([] : List UInt8),31)
 else
 (syntax_width.f k a0 a1 ([] : (List (Int×Int))) a0_1).bind fun z124 =>
 (bif (decide (z124.1 > 65536)) then
 some (([] : List UInt8),11)
 else
 (syntax_write.f k ([] : List UInt8) a0 a1 0 a0_1).bind fun z137 =>
 (Builder_String.f z137).bind fun z142 =>
 some (z142,0))))
theorem syntax_Print.mono {k k':Nat} (hk:k≤k') (a0:T_formula_Table) (a1:Int) (a0_1:(List (T_api_Node×Int))) : Le (syntax_Print.f k a0 a1 a0_1) (syntax_Print.f k' a0 a1 a0_1):=by
 unfold syntax_Print.f
 repeat' first
  | exact Le.refl _
  | exact syntax_known.mono hk _ _
  | exact syntax_width.mono hk _ _ _ _
  | exact syntax_write.mono hk _ _ _ _ _
  | refine Le.bind ?_ fun x_=>?_
  | refine Le.cond ?_ ?_
  | refine Le.nilc ?_ ?_
  | split
def syntax_Take_1.f (k:Nat) (a1:Int) (a0_0:T_syntax_reader) (a0_0_0:T_formula_Table) (a0_0_0_1:(List (T_api_Node×Int))) : Option (Exn (T_syntax_broken×Int×T_syntax_reader×T_formula_Table×(List (T_api_Node×Int))) (Int×T_syntax_reader×T_formula_Table×(List (T_api_Node×Int)))):=
 (syntax_reader_formula.f k a0_0 a0_0_0 a0_0_0_1).bind fun z101=>match z101 with
 | .ex p104=>(some (.ex (p104.1,a1,p104.2.1,p104.2.2.1,p104.2.2.2)))
 | .ok q105 =>
 some (.ok (q105.1,q105.2.1,q105.2.2.1,q105.2.2.2))
theorem syntax_Take_1.mono {k k':Nat} (hk:k≤k') (a1:Int) (a0_0:T_syntax_reader) (a0_0_0:T_formula_Table) (a0_0_0_1:(List (T_api_Node×Int))) : Le (syntax_Take_1.f k a1 a0_0 a0_0_0 a0_0_0_1) (syntax_Take_1.f k' a1 a0_0 a0_0_0 a0_0_0_1):=by
 unfold syntax_Take_1.f
 repeat' first
  | exact Le.refl _
  | exact syntax_reader_formula.mono hk _ _ _
  | refine Le.bind ?_ fun x_=>?_
  | refine Le.cond ?_ ?_
  | refine Le.nilc ?_ ?_
  | split
def syntax_reader_read_syntax_Take_1.f (k:Nat) (a0:T_syntax_reader) (a0_0:T_formula_Table) (a1_1:Int) (a0_0_1:(List (T_api_Node×Int))) : Option (T_api_Fault×T_syntax_reader×T_formula_Table×Int×(List (T_api_Node×Int))):=
 (formula_Table_Len.f a0_0 a0_0_1).bind fun z111 =>
 (syntax_Take_1.f k a1_1 a0 a0_0 a0_0_1).bind fun z123=>match z123 with
 | .ex p126=>((syntax_reader_read_1_rec.f k z111 (⟨(0:Int),(⟨(0:Int),(0:Int),(0:Int)⟩ : T_api_Spot)⟩ : T_api_Fault) p126.2.2.1 p126.2.2.2.1 p126.2.2.2.2 p126.1).bind fun z150 =>
 some (z150.1,p126.2.2.1,z150.2.1,p126.2.1,z150.2.2))
 | .ok q127 =>
 (bif q127.2.1.f_full then
 (syntax_reader_read_1_rec.f k z111 (⟨(0:Int),(⟨(0:Int),(0:Int),(0:Int)⟩ : T_api_Spot)⟩ : T_api_Fault) q127.2.1 q127.2.2.1 q127.2.2.2 (⟨(⟨30,(⟨(0:Int),(0:Int),(0:Int)⟩ : T_api_Spot)⟩ : T_api_Fault)⟩ : T_syntax_broken)).bind fun z160 =>
 some (z160.1,q127.2.1,z160.2.1,q127.1,z160.2.2)
 else
 (syntax_reader_read_1_ret.f z111 (⟨(0:Int),(⟨(0:Int),(0:Int),(0:Int)⟩ : T_api_Spot)⟩ : T_api_Fault) q127.2.1 q127.2.2.1 q127.2.2.2).bind fun z172 =>
 some ((⟨(0:Int),(⟨(0:Int),(0:Int),(0:Int)⟩ : T_api_Spot)⟩ : T_api_Fault),q127.2.1,q127.2.2.1,q127.1,q127.2.2.2))
theorem syntax_reader_read_syntax_Take_1.mono {k k':Nat} (hk:k≤k') (a0:T_syntax_reader) (a0_0:T_formula_Table) (a1_1:Int) (a0_0_1:(List (T_api_Node×Int))) : Le (syntax_reader_read_syntax_Take_1.f k a0 a0_0 a1_1 a0_0_1) (syntax_reader_read_syntax_Take_1.f k' a0 a0_0 a1_1 a0_0_1):=by
 unfold syntax_reader_read_syntax_Take_1.f
 repeat' first
  | exact Le.refl _
  | exact syntax_Take_1.mono hk _ _ _ _
  | exact syntax_reader_read_1_rec.mono hk _ _ _ _ _ _
  | refine Le.bind ?_ fun x_=>?_
  | refine Le.cond ?_ ?_
  | refine Le.nilc ?_ ?_
  | split
def syntax_Take.f (k:Nat) (a0:T_formula_Table) (a1:(List T_api_Token)) (a0_1:(List (T_api_Node×Int))) : Option (Int×Int×T_api_Fault×T_formula_Table×(List (T_api_Node×Int))):=
 (syntax_known.f k a0 a0_1).bind fun z106 =>
 (bif (!z106) then
 some (0,0,(⟨1,(⟨(0:Int),(0:Int),(0:Int)⟩ : T_api_Spot)⟩ : T_api_Fault),a0,a0_1)
 else
 (syntax_reader_read_syntax_Take_1.f k (⟨a1,(0:Int),(0:Int),(0:Int),true,false⟩ : T_syntax_reader) a0 0 a0_1).bind fun z135 =>
 (bif (z135.1.f_Code != 0) then
 some (0,0,z135.1,z135.2.2.1,z135.2.2.2.2)
 else
 some (z135.2.2.2.1,z135.2.1.f_i,z135.1,z135.2.2.1,z135.2.2.2.2)))
theorem syntax_Take.mono {k k':Nat} (hk:k≤k') (a0:T_formula_Table) (a1:(List T_api_Token)) (a0_1:(List (T_api_Node×Int))) : Le (syntax_Take.f k a0 a1 a0_1) (syntax_Take.f k' a0 a1 a0_1):=by
 unfold syntax_Take.f
 repeat' first
  | exact Le.refl _
  | exact syntax_known.mono hk _ _
  | exact syntax_reader_read_syntax_Take_1.mono hk _ _ _ _
  | refine Le.bind ?_ fun x_=>?_
  | refine Le.cond ?_ ?_
  | refine Le.nilc ?_ ?_
  | split
def dictumlaw04_num.f (a0:Int) : Option (Int):=
 some a0
def dictumlaw04_heads.f (k:Nat) : Option (Bool):=
 (formula_New.f ).bind fun z101 =>
 (syntax_Parse.f k z101.1 ([112,32,45,62,32,113,32,38,32,112] : List UInt8) z101.2).bind fun z111 =>
 (syntax_Parse.f k z111.2.2.1 ([126,112] : List UInt8) z111.2.2.2).bind fun z127 =>
 (syntax_Parse.f k z127.2.2.1 ([112,32,60,45,62,32,113] : List UInt8) z127.2.2.2).bind fun z143 =>
 (syntax_Print.f k z143.2.2.1 z143.1 z143.2.2.2).bind fun z159 =>
 (syntax_Parse.f k z143.2.2.1 ([112,32,38,32,38,32,36] : List UInt8) z143.2.2.2).bind fun z163 =>
 (syntax_Take.f k z163.2.2.1 ([(⟨1,([112] : List UInt8),(0:Int),(⟨(0:Int),(0:Int),(0:Int)⟩ : T_api_Spot)⟩ : T_api_Token),(⟨3,([44] : List UInt8),(0:Int),(⟨(0:Int),(0:Int),(0:Int)⟩ : T_api_Spot)⟩ : T_api_Token)]) z163.2.2.2).bind fun z187 =>
 (bif (z111.1 == 3) then
 (bif (z127.1 == 5) then
 (bif (z143.1 == 8) then
 (bif (T_api_Fault.eqb z111.2.1 (⟨(0:Int),(⟨(0:Int),(0:Int),(0:Int)⟩ : T_api_Spot)⟩ : T_api_Fault)) then
 (bif (T_api_Fault.eqb z127.2.1 z111.2.1) then
 (bif (T_api_Fault.eqb z143.2.1 z111.2.1) then
 (bif (z159.1 == ([40,112,32,45,62,32,113,41,32,38,32,40,113,32,45,62,32,112,41] : List UInt8)) then
 (dictumlaw04_num.f z159.2).bind fun z210 =>
 (bif (z210 == 0) then
 (bif (T_api_Fault.eqb z163.2.1 (⟨41,(⟨1,5,4⟩ : T_api_Spot)⟩ : T_api_Fault)) then
 (bif (z187.1 == 0) then
 (bif (z187.2.1 == 1) then
 (bif (T_api_Fault.eqb z187.2.2.1 z111.2.1) then
 (formula_Table_Len.f z187.2.2.2.1 z187.2.2.2.2).bind fun z219 =>
 (bif (z219 == 9) then
 (syntax_Count.f k ([112,32,38,32,126,113,32,36,32,114] : List UInt8)).bind fun z224 =>
 some (z224 == 4)
 else
 some false)
 else
 some false)
 else
 some false)
 else
 some false)
 else
 some false)
 else
 some false)
 else
 some false)
 else
 some false)
 else
 some false)
 else
 some false)
 else
 some false)
 else
 some false)
 else
 some false)
theorem dictumlaw04_heads.mono {k k':Nat} (hk:k≤k') : Le (dictumlaw04_heads.f k) (dictumlaw04_heads.f k'):=by
 unfold dictumlaw04_heads.f
 repeat' first
  | exact Le.refl _
  | exact syntax_Count.mono hk _
  | exact syntax_Parse.mono hk _ _ _
  | exact syntax_Print.mono hk _ _ _
  | exact syntax_Take.mono hk _ _ _
  | refine Le.bind ?_ fun x_=>?_
  | refine Le.cond ?_ ?_
  | refine Le.nilc ?_ ?_
  | split
def dictumlaw04_SyntaxParses.f (k:Nat) (a0:(List T_api_Node)) (a1:List UInt8) : Option (Bool):=
 (dictumlaw04_Tables.f k a0).bind fun z101 =>
 (syntax_Parse.f k z101.1.1 a1 z101.1.2).bind fun z115 =>
 (dictumref04_Parse.f k z101.2 a1).bind fun z131 =>
 (bif (z115.1 == z131.1) then
 (bif (T_api_Fault.eqb z115.2.1 z131.2.1) then
 (dictumlaw03_Like.f k z115.2.2.1 z131.2.2 z115.2.2.2).bind fun z148 =>
 (bif z148 then
 (syntax_Count.f k a1).bind fun z153 =>
 (dictumref04_Count.f k a1).bind fun z157 =>
 (bif (z153 == z157) then
 (dictumlaw04_heads.f k ).bind fun z162 =>
 some z162
 else
 some false)
 else
 some false)
 else
 some false)
 else
 some false)
end Go.Proofs.YtpmkkhkphddfeaaGreatDoor.X
