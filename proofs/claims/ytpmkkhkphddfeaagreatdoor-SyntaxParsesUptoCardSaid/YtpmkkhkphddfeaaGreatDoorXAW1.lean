import Derived.Test.YtpmkkhkphddfeaaGreatDoorXAW0
import Derived.Test.YtpmkkhkphddfeaaGreatDoorS3
import Derived.Test.YtpmkkhkphddfeaaGreatDoorShelf
set_option maxRecDepth 20000
set_option linter.unusedVariables false
namespace Go.Proofs.YtpmkkhkphddfeaaGreatDoor.X
open Go Go.RowKit Go.Proofs.YtpmkkhkphddfeaaGreatDoor.SX
def GG:Glob:={ L:=[0,1,5,7,3,4],T:=fun w=>Lib.Utf8Tabs 0 1 w∧Lib.TabIs Tryz.prog w "internal/strconv.uint64pow10" .u64 Lib.pow10Tab∧Lib.TabIs Tryz.prog w "math/bits.deBruijn64tab" .u8 db64I∧(∃ tp p,w.var? Tryz.prog "strconv.ErrSyntax" = some #[.iface tp p])∧(∃ tp p,w.var? Tryz.prog "strconv.ErrRange" = some #[.iface tp p]),move:=fun {w w'} hk h=>⟨⟨fun c hc=>by rw [cell_move (w:=w) (hk 0 (by simp))]; exact h.1.1 c hc,fun i hi=>⟨by rw [cell_move (w:=w) (hk 1 (by simp))]; exact (h.1.2 i hi).1,by rw [cell_move (w:=w) (hk 1 (by simp))]; exact (h.1.2 i hi).2⟩⟩,(var_move (by kernel_rfl:Tryz.prog.globalNamed "internal/strconv.uint64pow10" = some 5) (hk 5 (by simp))).trans h.2.1,(var_move (by kernel_rfl:Tryz.prog.globalNamed "math/bits.deBruijn64tab" = some 7) (hk 7 (by simp))).trans h.2.2.1,(by obtain ⟨tp,p,e⟩:=h.2.2.2.1; exact ⟨tp,p,(var_move (by kernel_rfl:Tryz.prog.globalNamed "strconv.ErrSyntax" = some 3) (hk 3 (by simp))).trans e⟩),(by obtain ⟨tp,p,e⟩:=h.2.2.2.2; exact ⟨tp,p,(var_move (by kernel_rfl:Tryz.prog.globalNamed "strconv.ErrRange" = some 4) (hk 4 (by simp))).trans e⟩)⟩ }
noncomputable def dictumref03_letter.S (k:Nat) : FS Gg:=⟨110,⟨[(0,false,[.s .u8])],[]⟩,Bool,fun y=>dictumref03_letter.f y.1,fun r=>⟨false,⟨[(0,false,[.s .bool])],[]⟩,(r,())⟩,fun _ r k=>k false ⟨[(0,false,[.s .bool])],[]⟩ (r,()),fun _ _ _=>rfl,[],true⟩
noncomputable def dictumref03_letter.A (k:Nat) : Ax (dictumref03_letter.S k):=⟨Tryz.f110,[⟨false,⟨[(0,false,[.s .bool])],[]⟩,fun y=>y.1⟩],[],[],[],[],[],[]⟩
theorem dictumref03_letter.e:(fun k y=>bodyA ((dictumref03_letter.A k).cx Tryz.prog) (dictumref03_letter.S k).pin y)=(fun k y=>(dictumref03_letter.S k).D y):=by kernel_rfl
theorem dictumref03_letter.ok (k:Nat) : (dictumref03_letter.S k).OK Tryz.prog GG:=aA (dictumref03_letter.A k) Gok mixed rfl (by kernel_rfl) ⟨fun _=>rfl,trivial⟩ trivial trivial fun y=>congrFun (congrFun dictumref03_letter.e k) y
noncomputable def dictumref03_Reserved.S (k:Nat) : FS Gg:=⟨111,⟨[],[]⟩,(List (List UInt8)),fun y=>dictumref03_Reserved.f,fun r=>⟨false,⟨[(0,false,[.ow 39])],[(39,.own 9)]⟩,(r,())⟩,fun _ r k=>k false ⟨[(0,false,[.ow 39])],[(39,.own 9)]⟩ (r,()),fun _ _ _=>rfl,[],true⟩
noncomputable def dictumref03_Reserved.A (k:Nat) : Ax (dictumref03_Reserved.S k):=⟨Tryz.f111,[⟨false,⟨[(0,false,[.ow 39])],[(39,.own 9)]⟩,fun y=>y.1⟩],[],[],[],[],[],[]⟩
theorem dictumref03_Reserved.e:(fun k y=>bodyA ((dictumref03_Reserved.A k).cx Tryz.prog) (dictumref03_Reserved.S k).pin y)=(fun k y=>(dictumref03_Reserved.S k).D y):=by kernel_rfl
theorem dictumref03_Reserved.ok (k:Nat) : (dictumref03_Reserved.S k).OK Tryz.prog GG:=aA (dictumref03_Reserved.A k) Gok mixed rfl (by kernel_rfl) ⟨fun _=>rfl,trivial⟩ trivial trivial fun y=>congrFun (congrFun dictumref03_Reserved.e k) y
noncomputable def dictumref03_T_Has.S (k:Nat) : FS Gg:=⟨42,⟨[(0,false,[.pt 2 0]),(1,false,[.s (.int .i64)])],[(2,.blk 53 [.ow 3]),(3,.own 60)]⟩,Bool,fun y=>dictumref03_T_Has.f (⟨y.2.1⟩) y.1,fun r=>⟨false,⟨[(0,false,[.s .bool])],[]⟩,(r,())⟩,fun _ r k=>k false ⟨[(0,false,[.s .bool])],[]⟩ (r,()),fun _ _ _=>rfl,[],true⟩
noncomputable def dictumref03_T_Has.A (k:Nat) : Ax (dictumref03_T_Has.S k):=⟨Tryz.f42,[⟨false,⟨[(0,false,[.s .bool])],[]⟩,fun y=>y.1⟩],[],[],[],[],[],[]⟩
theorem dictumref03_T_Has.e:(fun k y=>bodyA ((dictumref03_T_Has.A k).cx Tryz.prog) (dictumref03_T_Has.S k).pin y)=(fun k y=>(dictumref03_T_Has.S k).D y):=by kernel_rfl
theorem dictumref03_T_Has.ok (k:Nat) : (dictumref03_T_Has.S k).OK Tryz.prog GG:=aA (dictumref03_T_Has.A k) Gok mixed rfl (by kernel_rfl) ⟨fun _=>rfl,trivial⟩ trivial trivial fun y=>congrFun (congrFun dictumref03_T_Has.e k) y
noncomputable def dictumref03_T_Find.S (k:Nat) : FS Gg:=⟨89,⟨[(0,false,[.pt 2 0]),(1,true,[.s (.st 60)])],[(2,.blk 53 [.ow 3]),(3,.own 60)]⟩,Int×Bool,fun y=>dictumref03_T_Find.f k (⟨y.2.1⟩) y.1,fun r=>⟨false,⟨[(0,false,[.s (.int .i64)]),(1,false,[.s .bool])],[]⟩,(r.1,r.2,())⟩,fun _ r k=>k false ⟨[(0,false,[.s (.int .i64)]),(1,false,[.s .bool])],[]⟩ (r.1,r.2,()),fun _ _ _=>rfl,[],true⟩
noncomputable def dictumref03_T_Find.l1b (k:Nat) (a0:T_dictumref03_T) (y106:T_api_Node) : Nat→Int→Option (Sum (Int×Bool) (Unit))
 | 0,_=>none
 | kk+1,x108 =>
  (bif (decide (x108 < (a0.f_N.length:Int))) then
  (ix a0.f_N x108).bind fun x122 =>
  (bif (T_api_Node.eqb x122 y106) then
  some (.inl (x108,true))
  else
  dictumref03_T_Find.l1b k a0 y106 kk (wrap64 (x108+1)))
  else
  some (.inr ()))
theorem dictumref03_T_Find.l1_eq (k:Nat) (a0:T_dictumref03_T) (a1:T_api_Node) (n:Nat) : dictumref03_T_Find.l1 k a0 a1 n=dictumref03_T_Find.l1b k a0 (⟨a1.f_Kind,a1.f_Name,a1.f_L,a1.f_R⟩ : T_api_Node) n:=by
 induction n with
 | zero=>rfl
 | succ n ih=>funext v0_; simp only [dictumref03_T_Find.l1,dictumref03_T_Find.l1b,ih,SX.both_self,SX.nilK_eq] <;> rfl
noncomputable def dictumref03_T_Find.fb (k:Nat) (a0:T_dictumref03_T) (a1:T_api_Node) : Option (Int×Bool):=
 (dictumref03_T_Find.l1b k a0 (⟨a1.f_Kind,a1.f_Name,a1.f_L,a1.f_R⟩ : T_api_Node) k 0).bind fun z109=>match z109 with
 | .inl r_=>some r_
 | .inr _ =>
 some (0,false)
theorem dictumref03_T_Find.f_eq (k:Nat) (a0:T_dictumref03_T) (a1:T_api_Node) : dictumref03_T_Find.f k a0 a1=dictumref03_T_Find.fb k a0 a1:=by
 unfold dictumref03_T_Find.f dictumref03_T_Find.fb
 first | rfl | (simp only [dictumref03_T_Find.l1_eq,SX.both_self,SX.nilK_eq] <;> rfl)
noncomputable def dictumref03_T_Find.Sb (k:Nat) : FS Gg:={ dictumref03_T_Find.S k with D:=fun y=>dictumref03_T_Find.fb k (⟨y.2.1⟩) y.1 }
noncomputable def dictumref03_T_Find.W0 (k:Nat) (n:Nat) (i:HL Gg.α (Pat.sh ⟨[(0,false,[.pt 2 0]),(3,false,[.pt 160 0])],[(2,.blk 53 [.ow 3]),(160,.blk 60 [.s (.int .i64),.s .str,.s (.int .i64),.s (.int .i64)]),(3,.own 60)]⟩)) (m:HL Gg.α (Pat.sh ⟨[(6,false,[.s (.int .i64)])],[]⟩)) : Option (Sum (Int×Bool) (Unit)):=dictumref03_T_Find.l1b k (⟨i.2.2.2.2.1⟩) (⟨i.1,i.2.1,i.2.2.1,i.2.2.2.1⟩) n m.1
noncomputable def dictumref03_T_Find.L0 (k:Nat) : LH Gg (Int×Bool):={ I:=⟨[(0,false,[.pt 2 0]),(3,false,[.pt 160 0])],[(2,.blk 53 [.ow 3]),(160,.blk 60 [.s (.int .i64),.s .str,.s (.int .i64),.s (.int .i64)]),(3,.own 60)]⟩,M:=⟨[(6,false,[.s (.int .i64)])],[]⟩,X:=Sum (Int×Bool) (Unit),L:=dictumref03_T_Find.W0 k k,E:=⟨[],[]⟩,out:=fun z=>match z with | .inl r => .inl r | .inr e => .inr (),el:=fun _ z a b=>match z with | .inl r=>a r | .inr e=>b (),law:=fun _ z _ _=>by cases z <;> rfl }
noncomputable def dictumref03_T_Find.A (k:Nat) : Ax (dictumref03_T_Find.Sb k):=⟨Tryz.f89,[⟨false,⟨[(0,false,[.s (.int .i64)]),(1,false,[.s .bool])],[]⟩,fun y=>(y.1,y.2.1)⟩],[],[],[(13,dictumref03_T_Find.L0 k)],[],[],[]⟩
theorem dictumref03_T_Find.e0:(fun k n i m=>roundA false ((dictumref03_T_Find.A k).cx Tryz.prog) (dictumref03_T_Find.L0 k).X 13 (dictumref03_T_Find.L0 k).I (dictumref03_T_Find.L0 k).M (dictumref03_T_Find.L0 k).E (fun r=>some (.inl r)) (fun _ y=>some (.inr ())) (fun _=>dictumref03_T_Find.W0 k n i) i m)=(fun k n i m=>dictumref03_T_Find.W0 k (n+1) i m):=by kernel_rfl
theorem dictumref03_T_Find.e:(fun k y=>bodyA ((dictumref03_T_Find.A k).cx Tryz.prog) (dictumref03_T_Find.Sb k).pin y)=(fun k y=>(dictumref03_T_Find.Sb k).D y):=by kernel_rfl
theorem dictumref03_T_Find.okb (k:Nat) : (dictumref03_T_Find.Sb k).OK Tryz.prog GG:=aA (dictumref03_T_Find.A k) Gok mixed rfl (by kernel_rfl) ⟨fun _=>rfl,trivial⟩ trivial ⟨lp (dictumref03_T_Find.W0 k) k (fun r=>some (.inl r)) (fun y => .inr ()) (fun n i m=>congrFun (congrFun (congrFun (congrFun dictumref03_T_Find.e0 k) n) i) m) (fun _ _=>rfl) (fun _ _=>rfl) (fun _ _ h=>by cases h; rfl) (fun _=>rfl),trivial⟩ fun y=>congrFun (congrFun dictumref03_T_Find.e k) y
theorem dictumref03_T_Find.ok (k:Nat) : (dictumref03_T_Find.S k).OK Tryz.prog GG:=FS.OK.same (s:=dictumref03_T_Find.S k) (D':=fun y=>dictumref03_T_Find.fb k (⟨y.2.1⟩) y.1) (dictumref03_T_Find.okb k) fun y=>(dictumref03_T_Find.f_eq k (⟨y.2.1⟩) y.1).symm
noncomputable def formula_New.S (k:Nat) : FS Gg:=⟨21,⟨[],[]⟩,(T_formula_Table×(List (T_api_Node×Int))),fun y=>formula_New.f,fun r=>⟨false,⟨[(0,false,[.pt 39 0])],[(39,.blk 56 [.ow 38,.mp 37]),(38,.own 60),(37,.mp 60 3)]⟩,(r.1.f_rows,r.2,())⟩,fun _ r k=>k false ⟨[(0,false,[.pt 39 0])],[(39,.blk 56 [.ow 38,.mp 37]),(38,.own 60),(37,.mp 60 3)]⟩ (r.1.f_rows,r.2,()),fun _ _ _=>rfl,[],true⟩
noncomputable def formula_New.A (k:Nat) : Ax (formula_New.S k):=⟨Tryz.f21,[⟨false,⟨[(0,false,[.pt 39 0])],[(39,.blk 56 [.ow 38,.mp 37]),(38,.own 60),(37,.mp 60 3)]⟩,fun y=>(⟨y.1⟩,y.2.1)⟩],[],[],[],[],[],[]⟩
theorem formula_New.e:(fun k y=>bodyA ((formula_New.A k).cx Tryz.prog) (formula_New.S k).pin y)=(fun k y=>(formula_New.S k).D y):=by kernel_rfl
theorem formula_New.ok (k:Nat) : (formula_New.S k).OK Tryz.prog GG:=aA (formula_New.A k) Gok mixed rfl (by kernel_rfl) ⟨fun _=>rfl,trivial⟩ trivial trivial fun y=>congrFun (congrFun formula_New.e k) y
noncomputable def formula_Table_alive.S (k:Nat) : FS Gg:=⟨22,⟨[(0,false,[.pt 2 0])],[(2,.blk 56 [.ow 3,.mp 4]),(3,.own 60),(4,.mp 60 3)]⟩,Bool,fun y=>formula_Table_alive.f (⟨y.1⟩) y.2.1,fun r=>⟨false,⟨[(0,false,[.s .bool])],[]⟩,(r,())⟩,fun _ r k=>k false ⟨[(0,false,[.s .bool])],[]⟩ (r,()),fun _ _ _=>rfl,[],true⟩
noncomputable def formula_Table_alive.A (k:Nat) : Ax (formula_Table_alive.S k):=⟨Tryz.f22,[⟨false,⟨[(0,false,[.s .bool])],[]⟩,fun y=>y.1⟩],[],[],[],[],[],[]⟩
theorem formula_Table_alive.e:(fun k y=>bodyA ((formula_Table_alive.A k).cx Tryz.prog) (formula_Table_alive.S k).pin y)=(fun k y=>(formula_Table_alive.S k).D y):=by kernel_rfl
theorem formula_Table_alive.ok (k:Nat) : (formula_Table_alive.S k).OK Tryz.prog GG:=aA (formula_Table_alive.A k) Gok mixed rfl (by kernel_rfl) ⟨fun _=>rfl,trivial⟩ trivial trivial fun y=>congrFun (congrFun formula_Table_alive.e k) y
noncomputable def formula_reserved.S (k:Nat) : FS Gg:=⟨120,⟨[(0,false,[.s .str])],[]⟩,Bool,fun y=>formula_reserved.f y.1,fun r=>⟨false,⟨[(0,false,[.s .bool])],[]⟩,(r,())⟩,fun _ r k=>k false ⟨[(0,false,[.s .bool])],[]⟩ (r,()),fun _ _ _=>rfl,[],true⟩
noncomputable def formula_reserved.A (k:Nat) : Ax (formula_reserved.S k):=⟨Tryz.f120,[⟨false,⟨[(0,false,[.s .bool])],[]⟩,fun y=>y.1⟩],[],[(26,⟨Bool,⟨[(4,false,[.s .bool])],[]⟩,fun y=>y.1,fun r=>(r,()),fun _=>rfl,false⟩)],[],[],[],[]⟩
theorem formula_reserved.e:(fun k y=>bodyA ((formula_reserved.A k).cx Tryz.prog) (formula_reserved.S k).pin y)=(fun k y=>(formula_reserved.S k).D y):=by kernel_rfl
theorem formula_reserved.ok (k:Nat) : (formula_reserved.S k).OK Tryz.prog GG:=aA (formula_reserved.A k) Gok mixed rfl (by kernel_rfl) ⟨fun _=>rfl,trivial⟩ trivial trivial fun y=>congrFun (congrFun formula_reserved.e k) y
noncomputable def formula_Table_has.S (k:Nat) : FS Gg:=⟨49,⟨[(0,false,[.pt 2 0]),(1,false,[.s (.int .i64)])],[(2,.blk 56 [.ow 3,.mp 4]),(3,.own 60),(4,.mp 60 3)]⟩,Bool,fun y=>formula_Table_has.f (⟨y.2.1⟩) y.1 y.2.2.1,fun r=>⟨false,⟨[(0,false,[.s .bool])],[]⟩,(r,())⟩,fun _ r k=>k false ⟨[(0,false,[.s .bool])],[]⟩ (r,()),fun _ _ _=>rfl,[],true⟩
noncomputable def formula_Table_has.A (k:Nat) : Ax (formula_Table_has.S k):=⟨Tryz.f49,[⟨false,⟨[(0,false,[.s .bool])],[]⟩,fun y=>y.1⟩],[],[],[],[],[],[]⟩
theorem formula_Table_has.e:(fun k y=>bodyA ((formula_Table_has.A k).cx Tryz.prog) (formula_Table_has.S k).pin y)=(fun k y=>(formula_Table_has.S k).D y):=by kernel_rfl
theorem formula_Table_has.ok (k:Nat) : (formula_Table_has.S k).OK Tryz.prog GG:=aA (formula_Table_has.A k) Gok mixed rfl (by kernel_rfl) ⟨fun _=>rfl,trivial⟩ trivial trivial fun y=>congrFun (congrFun formula_Table_has.e k) y
noncomputable def token_cursor_here.S (k:Nat) : FS Gg:=⟨76,⟨[(0,false,[.pt 2 0])],[(2,.blk 128 [.s .str,.s (.int .i64),.s (.int .i64),.s (.int .i64)])]⟩,(List UInt8),fun y=>token_cursor_here.f (⟨y.1,⟨y.2.1,y.2.2.1,y.2.2.2.1⟩⟩),fun r=>⟨false,⟨[(0,false,[.s .str])],[]⟩,(r,())⟩,fun _ r k=>k false ⟨[(0,false,[.s .str])],[]⟩ (r,()),fun _ _ _=>rfl,[],true⟩
noncomputable def token_cursor_here.A (k:Nat) : Ax (token_cursor_here.S k):=⟨Tryz.f76,[⟨false,⟨[(0,false,[.s .str])],[]⟩,fun y=>y.1⟩],[],[],[],[],[],[]⟩
theorem token_cursor_here.e:(fun k y=>bodyA ((token_cursor_here.A k).cx Tryz.prog) (token_cursor_here.S k).pin y)=(fun k y=>(token_cursor_here.S k).D y):=by kernel_rfl
theorem token_cursor_here.ok (k:Nat) : (token_cursor_here.S k).OK Tryz.prog GG:=aA (token_cursor_here.A k) Gok mixed rfl (by kernel_rfl) ⟨fun _=>rfl,trivial⟩ trivial trivial fun y=>congrFun (congrFun token_cursor_here.e k) y
theorem utf8_DecodeRuneInString.calls (o0:Tags) (w0:World) (a0:List UInt8) (r:Int×Int) (hO:∀ b,b < w0.heap.size→o0 b < 40) (hG:Gl GG o0 w0) (H:utf8_DecodeRuneInString.f a0=some r) :
  Calls Tryz.prog 98 [encS a0].toArray w0 fun e_ w_ => ∃ (o_:Tags),e_ = .returned (one [.int .i32 r.1,.int .i64 r.2])∧Step o0 w0 o_ w_ []:=by
 obtain rfl:=Option.some.inj H
 refine Calls.mono (Tryz.utf8_DecodeRuneInString ⟨a0.toArray⟩ w0 hG.2.1) ?_
 rintro e w ⟨rfl,hb⟩
 exact ⟨o0,rfl,below_step hb⟩
noncomputable def utf8_DecodeRuneInString.S (k:Nat) : FS Gg:=⟨98,⟨[(0,false,[.s .str])],[]⟩,Int×Int,fun y=>utf8_DecodeRuneInString.f y.1,fun r=>⟨false,⟨[(0,false,[.s (.int .i32)]),(1,false,[.s (.int .i64)])],[]⟩,(r.1,r.2,())⟩,fun _ r k=>k false ⟨[(0,false,[.s (.int .i32)]),(1,false,[.s (.int .i64)])],[]⟩ (r.1,r.2,()),fun _ _ _=>rfl,[],true⟩
theorem utf8_DecodeRuneInString.ok (k:Nat) : (utf8_DecodeRuneInString.S k).OK Tryz.prog GG:=by
 refine ⟨⟨Tryz.f98,rfl,by kernel_rfl,by kernel_rfl⟩,?_⟩
 rintro ⟨a0,u_⟩ r hr o0 w0 hv0 args hO hG ha ho
 obtain ⟨v0,rfl,h0⟩:=a2_1 ha
 obtain rfl:=lr1 (s:=fun _=>True) (show [v0]=[encS a0] from VR.leaf h0)
 refine Calls.mono (utf8_DecodeRuneInString.calls o0 w0 a0 r hO hG hr) ?_
 rintro e w ⟨o_,rfl,hs⟩
 exact ⟨o_,hv0,[.int .i32 r.1,.int .i64 r.2],rfl,hs,⟨VR.mk1 rfl,VR.mk1 rfl,trivial⟩,fun _=>trivial,fun _ _ _=>rfl⟩
theorem strings_IndexByte.calls (o0:Tags) (w0:World) (a0:List UInt8) (a1:UInt8) (r:Int) (hO:∀ b,b < w0.heap.size→o0 b < 40) (H:strings_IndexByte.f a0 a1=some r) :
  Calls Tryz.prog 92 [encS a0,enc8 a1].toArray w0 fun e_ w_ => ∃ (o_:Tags),e_ = .returned (one [.int .i64 r])∧Step o0 w0 o_ w_ []:=by
 obtain rfl:=Option.some.inj H
 refine Calls.mono (Tryz.strings_IndexByte ⟨a0.toArray⟩ (a1.toNat:Int) w0) ?_
 rintro e w ⟨rfl,rfl⟩
 exact ⟨o0,by simp [one],Step.refl _ _ _⟩
noncomputable def strings_IndexByte.S (k:Nat) : FS Gg:=⟨92,⟨[(0,false,[.s .str]),(1,false,[.s .u8])],[]⟩,Int,fun y=>strings_IndexByte.f y.1 y.2.1,fun r=>⟨false,⟨[(0,false,[.s (.int .i64)])],[]⟩,(r,())⟩,fun _ r k=>k false ⟨[(0,false,[.s (.int .i64)])],[]⟩ (r,()),fun _ _ _=>rfl,[],true⟩
theorem strings_IndexByte.ok (k:Nat) : (strings_IndexByte.S k).OK Tryz.prog GG:=by
 refine ⟨⟨Tryz.f92,rfl,by kernel_rfl,by kernel_rfl⟩,?_⟩
 rintro ⟨a0,a1,u_⟩ r hr o0 w0 hv0 args hO hG ha ho
 obtain ⟨v0,v1,rfl,h0,h1⟩:=a2_2 ha
 obtain rfl:=lr1 (s:=fun _=>True) (show [v0]=[encS a0] from VR.leaf h0)
 obtain rfl:=lr1 (s:=fun _=>True) (show [v1]=[enc8 a1] from VR.leaf h1)
 refine Calls.mono (strings_IndexByte.calls o0 w0 a0 a1 r hO hr) ?_
 rintro e w ⟨o_,rfl,hs⟩
 exact ⟨o_,hv0,[.int .i64 r],rfl,hs,⟨VR.mk1 rfl,trivial⟩,fun _=>trivial,fun _ _ _=>rfl⟩
noncomputable def token_letter.S (k:Nat) : FS Gg:=⟨93,⟨[(0,false,[.s .u8])],[]⟩,Bool,fun y=>token_letter.f y.1,fun r=>⟨false,⟨[(0,false,[.s .bool])],[]⟩,(r,())⟩,fun _ r k=>k false ⟨[(0,false,[.s .bool])],[]⟩ (r,()),fun _ _ _=>rfl,[],true⟩
noncomputable def token_letter.A (k:Nat) : Ax (token_letter.S k):=⟨Tryz.f93,[⟨false,⟨[(0,false,[.s .bool])],[]⟩,fun y=>y.1⟩],[],[],[],[],[],[]⟩
theorem token_letter.e:(fun k y=>bodyA ((token_letter.A k).cx Tryz.prog) (token_letter.S k).pin y)=(fun k y=>(token_letter.S k).D y):=by kernel_rfl
theorem token_letter.ok (k:Nat) : (token_letter.S k).OK Tryz.prog GG:=aA (token_letter.A k) Gok mixed rfl (by kernel_rfl) ⟨fun _=>rfl,trivial⟩ trivial trivial fun y=>congrFun (congrFun token_letter.e k) y
noncomputable def token_digit.S (k:Nat) : FS Gg:=⟨96,⟨[(0,false,[.s .u8])],[]⟩,Bool,fun y=>token_digit.f y.1,fun r=>⟨false,⟨[(0,false,[.s .bool])],[]⟩,(r,())⟩,fun _ r k=>k false ⟨[(0,false,[.s .bool])],[]⟩ (r,()),fun _ _ _=>rfl,[],true⟩
noncomputable def token_digit.A (k:Nat) : Ax (token_digit.S k):=⟨Tryz.f96,[⟨false,⟨[(0,false,[.s .bool])],[]⟩,fun y=>y.1⟩],[],[],[],[],[],[]⟩
theorem token_digit.e:(fun k y=>bodyA ((token_digit.A k).cx Tryz.prog) (token_digit.S k).pin y)=(fun k y=>(token_digit.S k).D y):=by kernel_rfl
theorem token_digit.ok (k:Nat) : (token_digit.S k).OK Tryz.prog GG:=aA (token_digit.A k) Gok mixed rfl (by kernel_rfl) ⟨fun _=>rfl,trivial⟩ trivial trivial fun y=>congrFun (congrFun token_digit.e k) y
theorem strconv_Atoi.calls (o0:Tags) (w0:World) (a0:List UInt8) (r:Int×Bool) (hO:∀ b,b < w0.heap.size→o0 b < 40) (hG:Gl GG o0 w0) (H:strconv_Atoi.f a0=some r) :
  Calls Tryz.prog 97 [encS a0].toArray w0 fun e_ w_ => ∃ (o_:Tags) (rv1:Value),e_ = .returned (one [.int .i64 r.1,rv1])∧Step o0 w0 o_ w_ []∧IsErr r.2 rv1:=by
 unfold strconv_Atoi.f at H
 obtain ⟨u,hu,H⟩:=bindE H
 obtain rfl:=Option.some.inj H
 have hl:a0.length≤281474976710656:=of_decide_eq_true (chk_true hu)
 have hs:(⟨a0.toArray⟩ : ByteArray).size≤281474976710656:=by rw [size_enc]; exact hl
 cases hc:Lib.atoiAll a0
 ·rename_i v
  refine Calls.mono (Tryz.strconv_Atoi_ok ⟨a0.toArray⟩ (Nat.le_trans hs (by decide)) v hc w0) ?_
  rintro e w ⟨rfl,hw⟩
  refine ⟨o0,.nilIface,by simp [atoiF,hc,one],?_,by simp [atoiF,hc,IsErr]⟩
  rcases hw with rfl | ⟨t,rfl⟩
  ·exact Step.refl _ _ _
  ·exact bytesWorld_step o0 w0 5 t
 ·obtain ⟨tp,p,hv⟩:=hG.2.2.2.2.1
  refine Calls.mono (Tryz.strconv_Atoi_syntax_var ⟨a0.toArray⟩ hs (hc.trans (by rfl)) tp p w0 hv) ?_
  rintro e w ⟨N,rfl,_,_,hb⟩
  exact ⟨o0,_,by simp only [atoiF,hc,one]; rfl,below_step hb,by simp only [atoiF,hc,IsErr,cond_true]; exact ⟨_,_,rfl⟩⟩
 ·obtain ⟨tp,p,hv⟩:=hG.2.2.2.2.2
  refine Calls.mono (Tryz.strconv_Atoi_range_var ⟨a0.toArray⟩ hs hc tp p w0 hv) ?_
  rintro e w ⟨N,rfl,_,_,hb⟩
  exact ⟨o0,_,by simp only [atoiF,hc,one]; rfl,below_step hb,by simp only [atoiF,hc,IsErr,cond_true]; exact ⟨_,_,rfl⟩⟩
noncomputable def strconv_Atoi.S (k:Nat) : FS Gg:=⟨97,⟨[(0,false,[.s .str])],[]⟩,Int×Bool,fun y=>strconv_Atoi.f y.1,fun r=>⟨false,⟨[(0,false,[.s (.int .i64)]),(1,false,[.er])],[]⟩,(r.1,r.2,())⟩,fun _ r k=>k false ⟨[(0,false,[.s (.int .i64)]),(1,false,[.er])],[]⟩ (r.1,r.2,()),fun _ _ _=>rfl,[],true⟩
theorem strconv_Atoi.ok (k:Nat) : (strconv_Atoi.S k).OK Tryz.prog GG:=by
 refine ⟨⟨Tryz.f97,rfl,by kernel_rfl,by kernel_rfl⟩,?_⟩
 rintro ⟨a0,u_⟩ r hr o0 w0 hv0 args hO hG ha ho
 obtain ⟨v0,rfl,h0⟩:=a2_1 ha
 obtain rfl:=lr1 (s:=fun _=>True) (show [v0]=[encS a0] from VR.leaf h0)
 refine Calls.mono (strconv_Atoi.calls o0 w0 a0 r hO hG hr) ?_
 rintro e w ⟨o_,rv1,rfl,hs,hE1⟩
 exact ⟨o_,hv0,[.int .i64 r.1,rv1],rfl,hs,⟨VR.mk1 rfl,VR.mk1 ⟨rv1,rfl,hE1⟩,trivial⟩,fun _=>trivial,fun _ _ _=>rfl⟩
noncomputable def stringslite_HasPrefix.S (k:Nat) : FS Gg:=⟨127,⟨[(0,false,[.s .str]),(1,false,[.s .str])],[]⟩,Bool,fun y=>stringslite_HasPrefix.f y.1 y.2.1,fun r=>⟨false,⟨[(0,false,[.s .bool])],[]⟩,(r,())⟩,fun _ r k=>k false ⟨[(0,false,[.s .bool])],[]⟩ (r,()),fun _ _ _=>rfl,[],true⟩
noncomputable def stringslite_HasPrefix.A (k:Nat) : Ax (stringslite_HasPrefix.S k):=⟨Tryz.f127,[⟨false,⟨[(0,false,[.s .bool])],[]⟩,fun y=>y.1⟩],[],[],[],[],[],[]⟩
theorem stringslite_HasPrefix.e:(fun k y=>bodyA ((stringslite_HasPrefix.A k).cx Tryz.prog) (stringslite_HasPrefix.S k).pin y)=(fun k y=>(stringslite_HasPrefix.S k).D y):=by kernel_rfl
theorem stringslite_HasPrefix.ok (k:Nat) : (stringslite_HasPrefix.S k).OK Tryz.prog GG:=aA (stringslite_HasPrefix.A k) Gok mixed rfl (by kernel_rfl) ⟨fun _=>rfl,trivial⟩ trivial trivial fun y=>congrFun (congrFun stringslite_HasPrefix.e k) y
noncomputable def syntax_counted.S (k:Nat) : FS Gg:=⟨29,⟨[(0,true,[.s (.st 76)])],[]⟩,Bool,fun y=>syntax_counted.f y.1,fun r=>⟨false,⟨[(0,false,[.s .bool])],[]⟩,(r,())⟩,fun _ r k=>k false ⟨[(0,false,[.s .bool])],[]⟩ (r,()),fun _ _ _=>rfl,[],true⟩
noncomputable def syntax_counted.A (k:Nat) : Ax (syntax_counted.S k):=⟨Tryz.f29,[⟨false,⟨[(0,false,[.s .bool])],[]⟩,fun y=>y.1⟩],[],[(3,⟨Unit,⟨[],[]⟩,fun y=>(),fun r=>(),fun _=>rfl,true⟩),(106,⟨Bool,⟨[(8,false,[.s .bool])],[]⟩,fun y=>y.1,fun r=>(r,()),fun _=>rfl,false⟩)],[],[],[],[]⟩
theorem syntax_counted.e:(fun k y=>bodyA ((syntax_counted.A k).cx Tryz.prog) (syntax_counted.S k).pin y)=(fun k y=>(syntax_counted.S k).D y):=by kernel_rfl
theorem syntax_counted.ok (k:Nat) : (syntax_counted.S k).OK Tryz.prog GG:=aA (syntax_counted.A k) Gok mixed rfl (by kernel_rfl) ⟨fun _=>rfl,trivial⟩ trivial trivial fun y=>congrFun (congrFun syntax_counted.e k) y
noncomputable def syntax_reader_now.S (k:Nat) : FS Gg:=⟨33,⟨[(0,false,[.pt 2 0])],[(2,.blk 80 [.pt 3 0,.s (.row 76),.s (.int .i64),.s (.int .i64),.s (.int .i64),.s .bool,.s .bool]),(3,.blk 56 [.ow 4,.mp 5]),(4,.own 60),(5,.mp 60 3)]⟩,T_api_Token,fun y=>syntax_reader_now.f (⟨y.1,y.2.1,y.2.2.1,y.2.2.2.1,y.2.2.2.2.1,y.2.2.2.2.2.1⟩) (⟨y.2.2.2.2.2.2.1⟩) y.2.2.2.2.2.2.2.1,fun r=>⟨false,⟨[(0,true,[.s (.st 76)])],[]⟩,(r,())⟩,fun _ r k=>k false ⟨[(0,true,[.s (.st 76)])],[]⟩ (r,()),fun _ _ _=>rfl,[],true⟩
noncomputable def syntax_reader_now.A (k:Nat) : Ax (syntax_reader_now.S k):=⟨Tryz.f33,[⟨false,⟨[(0,true,[.s (.st 76)])],[]⟩,fun y=>y.1⟩],[],[],[],[],[],[]⟩
theorem syntax_reader_now.e:(fun k y=>bodyA ((syntax_reader_now.A k).cx Tryz.prog) (syntax_reader_now.S k).pin y)=(fun k y=>(syntax_reader_now.S k).D y):=by kernel_rfl
theorem syntax_reader_now.ok (k:Nat) : (syntax_reader_now.S k).OK Tryz.prog GG:=aA (syntax_reader_now.A k) Gok mixed rfl (by kernel_rfl) ⟨fun _=>rfl,trivial⟩ trivial trivial fun y=>congrFun (congrFun syntax_reader_now.e k) y
noncomputable def syntax_reader_put.S (k:Nat) : FS Gg:=⟨82,⟨[(0,false,[.pt 2 0]),(1,false,[.s (.int .i64)]),(2,false,[.s (.int .i64)])],[(2,.blk 80 [.pt 3 0,.s (.row 76),.s (.int .i64),.s (.int .i64),.s (.int .i64),.s .bool,.s .bool]),(3,.blk 56 [.ow 4,.mp 5]),(4,.own 60),(5,.mp 60 3)]⟩,Int×T_syntax_reader,fun y=>syntax_reader_put.f (⟨y.2.2.1,y.2.2.2.1,y.2.2.2.2.1,y.2.2.2.2.2.1,y.2.2.2.2.2.2.1,y.2.2.2.2.2.2.2.1⟩) y.1 y.2.1 (⟨y.2.2.2.2.2.2.2.2.1⟩) y.2.2.2.2.2.2.2.2.2.1,fun r=>⟨false,⟨[(0,false,[.s (.int .i64)])],[(2,.blk 80 [.pt 3 0,.s (.row 76),.s (.int .i64),.s (.int .i64),.s (.int .i64),.s .bool,.s .bool])]⟩,(r.1,r.2.f_l,r.2.f_i,r.2.f_names,r.2.f_nest,r.2.f_counts,r.2.f_full,())⟩,fun _ r k=>k false ⟨[(0,false,[.s (.int .i64)])],[(2,.blk 80 [.pt 3 0,.s (.row 76),.s (.int .i64),.s (.int .i64),.s (.int .i64),.s .bool,.s .bool])]⟩ (r.1,r.2.f_l,r.2.f_i,r.2.f_names,r.2.f_nest,r.2.f_counts,r.2.f_full,()),fun _ _ _=>rfl,[2],false⟩
noncomputable def syntax_reader_put.A (k:Nat) : Ax (syntax_reader_put.S k):=⟨Tryz.f82,[⟨false,⟨[(0,false,[.s (.int .i64)])],[(2,.blk 80 [.pt 3 0,.s (.row 76),.s (.int .i64),.s (.int .i64),.s (.int .i64),.s .bool,.s .bool])]⟩,fun y=>(y.1,⟨y.2.1,y.2.2.1,y.2.2.2.1,y.2.2.2.2.1,y.2.2.2.2.2.1,y.2.2.2.2.2.2.1⟩)⟩],[],[],[],[],[],[]⟩
theorem syntax_reader_put.e:(fun k y=>bodyA ((syntax_reader_put.A k).cx Tryz.prog) (syntax_reader_put.S k).pin y)=(fun k y=>(syntax_reader_put.S k).D y):=by kernel_rfl
theorem syntax_reader_put.ok (k:Nat) : (syntax_reader_put.S k).OK Tryz.prog GG:=aA (syntax_reader_put.A k) Gok mixed rfl (by kernel_rfl) ⟨fun _=>rfl,trivial⟩ trivial trivial fun y=>congrFun (congrFun syntax_reader_put.e k) y
noncomputable def syntax_reader_read_1_ret.S (k:Nat) : FS Gg:=⟨55,⟨[(0,false,[.pt 2 0]),(1,false,[.pt 3 0]),(2,false,[.pt 4 0])],[(2,.blk 78 [.pt 5 0]),(3,.blk 3 [.s (.int .i64)]),(4,.blk 36 [.s (.int .i64),.s (.int .i64),.s (.int .i64),.s (.int .i64)]),(5,.blk 80 [.pt 6 0,.s (.row 76),.s (.int .i64),.s (.int .i64),.s (.int .i64),.s .bool,.s .bool]),(6,.blk 56 [.ow 7,.mp 8]),(7,.own 60),(8,.mp 60 3)]⟩,Unit,fun y=>syntax_reader_read_1_ret.f y.1 (⟨y.2.1,⟨y.2.2.1,y.2.2.2.1,y.2.2.2.2.1⟩⟩) (⟨y.2.2.2.2.2.1,y.2.2.2.2.2.2.1,y.2.2.2.2.2.2.2.1,y.2.2.2.2.2.2.2.2.1,y.2.2.2.2.2.2.2.2.2.1,y.2.2.2.2.2.2.2.2.2.2.1⟩) (⟨y.2.2.2.2.2.2.2.2.2.2.2.1⟩) y.2.2.2.2.2.2.2.2.2.2.2.2.1,fun r=>⟨false,⟨[],[]⟩,()⟩,fun _ r k=>k false ⟨[],[]⟩ (),fun _ _ _=>rfl,[],true⟩
noncomputable def syntax_reader_read_1_ret.A (k:Nat) : Ax (syntax_reader_read_1_ret.S k):=⟨Tryz.f55,[⟨false,⟨[],[]⟩,fun y=>()⟩],[],[],[],[],[],[]⟩
theorem syntax_reader_read_1_ret.e:(fun k y=>bodyR ((syntax_reader_read_1_ret.A k).cx Tryz.prog) none (syntax_reader_read_1_ret.S k).pin y)=(fun k y=>(syntax_reader_read_1_ret.S k).D y):=by kernel_rfl
theorem syntax_reader_read_1_ret.ok (k:Nat) : (syntax_reader_read_1_ret.S k).DOK Tryz.prog GG none:=ax_dok (syntax_reader_read_1_ret.A k) none Gok mixed rfl (by kernel_rfl) ⟨fun _=>rfl,trivial⟩ trivial rfl fun y=>congrFun (congrFun syntax_reader_read_1_ret.e k) y
noncomputable def dictumref02_skip.S (k:Nat) : FS Gg:=⟨83,⟨[(0,false,[.s .str]),(1,false,[.s (.int .i64)])],[]⟩,Int,fun y=>dictumref02_skip.f k y.1 y.2.1,fun r=>⟨false,⟨[(0,false,[.s (.int .i64)])],[]⟩,(r,())⟩,fun _ r k=>k false ⟨[(0,false,[.s (.int .i64)])],[]⟩ (r,()),fun _ _ _=>rfl,[],true⟩
noncomputable def dictumref02_skip.W0 (k:Nat) (n:Nat) (i:HL Gg.α (Pat.sh ⟨[(0,false,[.s .str])],[]⟩)) (m:HL Gg.α (Pat.sh ⟨[(1,false,[.s (.int .i64)])],[]⟩)) : Option (Sum (Int) (Int)):=dictumref02_skip.l1 k i.1 n m.1
noncomputable def dictumref02_skip.L0 (k:Nat) : LH Gg (Int):={ I:=⟨[(0,false,[.s .str])],[]⟩,M:=⟨[(1,false,[.s (.int .i64)])],[]⟩,X:=Sum (Int) (Int),L:=dictumref02_skip.W0 k k,E:=⟨[(1,false,[.s (.int .i64)])],[]⟩,out:=fun z=>match z with | .inl r => .inl r | .inr e => .inr (e,()),el:=fun _ z a b=>match z with | .inl r=>a r | .inr e=>b (e,()),law:=fun _ z _ _=>by cases z <;> rfl }
noncomputable def dictumref02_skip.B0 (k:Nat) (ex:HL Gg.α (Pat.sh ⟨[(1,false,[.s (.int .i64)])],[]⟩)→Option (Sum (Int) (Int))) (ag:HL Gg.α (Pat.sh ⟨[(1,false,[.s (.int .i64)])],[]⟩)→Option (Sum (Int) (Int))) (i:HL Gg.α (Pat.sh ⟨[(0,false,[.s .str])],[]⟩)) (m:HL Gg.α (Pat.sh ⟨[(1,false,[.s (.int .i64)])],[]⟩)) : Option (Sum (Int) (Int)):=(fun (a0:List UInt8) (x101:Int)=>(bif (decide (x101 < (a0.length:Int))) then
(ix a0 x101).bind fun x111 =>
((bif (x111 == (32:UInt8)) then
some true
else
(bif (x111 == (9:UInt8)) then
some true
else
(bif (x111 == (10:UInt8)) then
some true
else
some (x111 == (13:UInt8))))) : Option (Bool)).bind fun z113 =>
(bif z113 then
ag ((wrap64 (x101+1)),())
else
(bif (!(x111 == (35:UInt8))) then
some (.inl x101)
else
(dictumref02_skip.l2 k a0 k x101).bind fun z122 =>
ag (z122,())))
else
ex (x101,()))) i.1 m.1
noncomputable def dictumref02_skip.W1 (k:Nat) (n:Nat) (i:HL Gg.α (Pat.sh ⟨[(0,false,[.s .str])],[]⟩)) (m:HL Gg.α (Pat.sh ⟨[(1,false,[.s (.int .i64)])],[]⟩)) : Option (Int):=dictumref02_skip.l2 k i.1 n m.1
noncomputable def dictumref02_skip.L1 (k:Nat) : LH Gg (Int):={ I:=⟨[(0,false,[.s .str])],[]⟩,M:=⟨[(1,false,[.s (.int .i64)])],[]⟩,X:=Int,L:=dictumref02_skip.W1 k k,E:=⟨[(1,false,[.s (.int .i64)])],[]⟩,out:=fun e => .inr (e,()),el:=fun _ e _ b=>b (e,()),law:=fun _ _ _ _=>rfl }
noncomputable def dictumref02_skip.A (k:Nat) : Ax (dictumref02_skip.S k):=⟨Tryz.f83,[⟨false,⟨[(0,false,[.s (.int .i64)])],[]⟩,fun y=>y.1⟩],[],[(394,⟨Bool,⟨[(26,false,[.s .bool])],[]⟩,fun y=>y.1,fun r=>(r,()),fun _=>rfl,false⟩),(6328,⟨Bool,⟨[(41,false,[.s .bool])],[]⟩,fun y=>y.1,fun r=>(r,()),fun _=>rfl,false⟩)],[(6,dictumref02_skip.L0 k),(791,dictumref02_skip.L1 k)],[],[],[]⟩
theorem dictumref02_skip.b0:(fun k ex ag i m=>roundA true ((dictumref02_skip.A k).cx Tryz.prog) (dictumref02_skip.L0 k).X 6 (dictumref02_skip.L0 k).I (dictumref02_skip.L0 k).M (dictumref02_skip.L0 k).E (fun r=>some (.inl r)) ex ag i m)=(fun k ex ag i m=>dictumref02_skip.B0 k (ex i) (ag i) i m):=by kernel_rfl
theorem dictumref02_skip.e0:(fun k n i m=>dictumref02_skip.B0 k (fun y=>some (.inr y.1)) (dictumref02_skip.W0 k n i) i m)=(fun k n i m=>dictumref02_skip.W0 k (n+1) i m):=by kernel_rfl
theorem dictumref02_skip.e1:(fun k n i m=>roundA false ((dictumref02_skip.A k).cx Tryz.prog) (dictumref02_skip.L1 k).X 791 (dictumref02_skip.L1 k).I (dictumref02_skip.L1 k).M (dictumref02_skip.L1 k).E (fun _=>none) (fun _ y=>some (y.1)) (fun _=>dictumref02_skip.W1 k n i) i m)=(fun k n i m=>dictumref02_skip.W1 k (n+1) i m):=by kernel_rfl
theorem dictumref02_skip.e:(fun k y=>bodyA ((dictumref02_skip.A k).cx Tryz.prog) (dictumref02_skip.S k).pin y)=(fun k y=>(dictumref02_skip.S k).D y):=by kernel_rfl
theorem dictumref02_skip.ok (k:Nat) : (dictumref02_skip.S k).OK Tryz.prog GG:=aA (dictumref02_skip.A k) Gok mixed rfl (by kernel_rfl) ⟨fun _=>rfl,trivial⟩ trivial ⟨lpB (dictumref02_skip.B0 k) (dictumref02_skip.W0 k) k (fun r=>some (.inl r)) (fun y => .inr y.1) (fun ex ag i m=>congrFun (congrFun (congrFun (congrFun (congrFun dictumref02_skip.b0 k) ex) ag) i) m) (fun n i m=>congrFun (congrFun (congrFun (congrFun dictumref02_skip.e0 k) n) i) m) (fun _ _=>rfl) (fun _ _=>rfl) (fun _ _ h=>by cases h; rfl) (fun _=>rfl),lp (dictumref02_skip.W1 k) k (fun _=>none) (fun y=>y.1) (fun n i m=>congrFun (congrFun (congrFun (congrFun dictumref02_skip.e1 k) n) i) m) (fun _ _=>rfl) (fun _ _=>rfl) (fun _ _ h=>by cases h) (fun _=>rfl),trivial⟩ fun y=>congrFun (congrFun dictumref02_skip.e k) y
noncomputable def dictumref02_more.S (k:Nat) : FS Gg:=⟨118,⟨[(0,false,[.s .str]),(1,false,[.s (.int .i64)]),(2,false,[.s .u8]),(3,false,[.s .u8])],[]⟩,Bool,fun y=>dictumref02_more.f y.1 y.2.1 y.2.2.1 y.2.2.2.1,fun r=>⟨false,⟨[(0,false,[.s .bool])],[]⟩,(r,())⟩,fun _ r k=>k false ⟨[(0,false,[.s .bool])],[]⟩ (r,()),fun _ _ _=>rfl,[],true⟩
noncomputable def dictumref02_more.A (k:Nat) : Ax (dictumref02_more.S k):=⟨Tryz.f118,[⟨false,⟨[(0,false,[.s .bool])],[]⟩,fun y=>y.1⟩],[],[],[],[],[],[]⟩
theorem dictumref02_more.e:(fun k y=>bodyA ((dictumref02_more.A k).cx Tryz.prog) (dictumref02_more.S k).pin y)=(fun k y=>(dictumref02_more.S k).D y):=by kernel_rfl
theorem dictumref02_more.ok (k:Nat) : (dictumref02_more.S k).OK Tryz.prog GG:=aA (dictumref02_more.A k) Gok mixed rfl (by kernel_rfl) ⟨fun _=>rfl,trivial⟩ trivial trivial fun y=>congrFun (congrFun dictumref02_more.e k) y
noncomputable def dictumref02_letter.S (k:Nat) : FS Gg:=⟨102,⟨[(0,false,[.s .u8])],[]⟩,Bool,fun y=>dictumref02_letter.f y.1,fun r=>⟨false,⟨[(0,false,[.s .bool])],[]⟩,(r,())⟩,fun _ r k=>k false ⟨[(0,false,[.s .bool])],[]⟩ (r,()),fun _ _ _=>rfl,[],true⟩
noncomputable def dictumref02_letter.A (k:Nat) : Ax (dictumref02_letter.S k):=⟨Tryz.f102,[⟨false,⟨[(0,false,[.s .bool])],[]⟩,fun y=>y.1⟩],[],[],[],[],[],[]⟩
theorem dictumref02_letter.e:(fun k y=>bodyA ((dictumref02_letter.A k).cx Tryz.prog) (dictumref02_letter.S k).pin y)=(fun k y=>(dictumref02_letter.S k).D y):=by kernel_rfl
theorem dictumref02_letter.ok (k:Nat) : (dictumref02_letter.S k).OK Tryz.prog GG:=aA (dictumref02_letter.A k) Gok mixed rfl (by kernel_rfl) ⟨fun _=>rfl,trivial⟩ trivial trivial fun y=>congrFun (congrFun dictumref02_letter.e k) y
noncomputable def dictumref02_digit.S (k:Nat) : FS Gg:=⟨104,⟨[(0,false,[.s .u8])],[]⟩,Bool,fun y=>dictumref02_digit.f y.1,fun r=>⟨false,⟨[(0,false,[.s .bool])],[]⟩,(r,())⟩,fun _ r k=>k false ⟨[(0,false,[.s .bool])],[]⟩ (r,()),fun _ _ _=>rfl,[],true⟩
noncomputable def dictumref02_digit.A (k:Nat) : Ax (dictumref02_digit.S k):=⟨Tryz.f104,[⟨false,⟨[(0,false,[.s .bool])],[]⟩,fun y=>y.1⟩],[],[],[],[],[],[]⟩
theorem dictumref02_digit.e:(fun k y=>bodyA ((dictumref02_digit.A k).cx Tryz.prog) (dictumref02_digit.S k).pin y)=(fun k y=>(dictumref02_digit.S k).D y):=by kernel_rfl
theorem dictumref02_digit.ok (k:Nat) : (dictumref02_digit.S k).OK Tryz.prog GG:=aA (dictumref02_digit.A k) Gok mixed rfl (by kernel_rfl) ⟨fun _=>rfl,trivial⟩ trivial trivial fun y=>congrFun (congrFun dictumref02_digit.e k) y
noncomputable def dictumref02_specials.S (k:Nat) : FS Gg:=⟨106,⟨[],[]⟩,(List T_dictumref02_special),fun y=>dictumref02_specials.f,fun r=>⟨false,⟨[(0,false,[.ow 39])],[(39,.own 152)]⟩,(r,())⟩,fun _ r k=>k false ⟨[(0,false,[.ow 39])],[(39,.own 152)]⟩ (r,()),fun _ _ _=>rfl,[],true⟩
noncomputable def dictumref02_specials.A (k:Nat) : Ax (dictumref02_specials.S k):=⟨Tryz.f106,[⟨false,⟨[(0,false,[.ow 39])],[(39,.own 152)]⟩,fun y=>y.1⟩],[],[],[],[],[],[]⟩
theorem dictumref02_specials.e:(fun k y=>bodyA ((dictumref02_specials.A k).cx Tryz.prog) (dictumref02_specials.S k).pin y)=(fun k y=>(dictumref02_specials.S k).D y):=by kernel_rfl
theorem dictumref02_specials.ok (k:Nat) : (dictumref02_specials.S k).OK Tryz.prog GG:=aA (dictumref02_specials.A k) Gok mixed rfl (by kernel_rfl) ⟨fun _=>rfl,trivial⟩ trivial trivial fun y=>congrFun (congrFun dictumref02_specials.e k) y
noncomputable def dictumref02_at.S (k:Nat) : FS Gg:=⟨107,⟨[(0,false,[.s .str]),(1,false,[.s (.int .i64)]),(2,false,[.s .str])],[]⟩,Bool,fun y=>dictumref02_at.f y.1 y.2.1 y.2.2.1,fun r=>⟨false,⟨[(0,false,[.s .bool])],[]⟩,(r,())⟩,fun _ r k=>k false ⟨[(0,false,[.s .bool])],[]⟩ (r,()),fun _ _ _=>rfl,[],true⟩
noncomputable def dictumref02_at.A (k:Nat) : Ax (dictumref02_at.S k):=⟨Tryz.f107,[⟨false,⟨[(0,false,[.s .bool])],[]⟩,fun y=>y.1⟩],[],[],[],[],[],[]⟩
theorem dictumref02_at.e:(fun k y=>bodyA ((dictumref02_at.A k).cx Tryz.prog) (dictumref02_at.S k).pin y)=(fun k y=>(dictumref02_at.S k).D y):=by kernel_rfl
theorem dictumref02_at.ok (k:Nat) : (dictumref02_at.S k).OK Tryz.prog GG:=aA (dictumref02_at.A k) Gok mixed rfl (by kernel_rfl) ⟨fun _=>rfl,trivial⟩ trivial trivial fun y=>congrFun (congrFun dictumref02_at.e k) y
noncomputable def dictumref02_Signs.S (k:Nat) : FS Gg:=⟨108,⟨[],[]⟩,(List (List UInt8)),fun y=>dictumref02_Signs.f,fun r=>⟨false,⟨[(0,false,[.ow 39])],[(39,.own 9)]⟩,(r,())⟩,fun _ r k=>k false ⟨[(0,false,[.ow 39])],[(39,.own 9)]⟩ (r,()),fun _ _ _=>rfl,[],true⟩
noncomputable def dictumref02_Signs.A (k:Nat) : Ax (dictumref02_Signs.S k):=⟨Tryz.f108,[⟨false,⟨[(0,false,[.ow 39])],[(39,.own 9)]⟩,fun y=>y.1⟩],[],[],[],[],[],[]⟩
theorem dictumref02_Signs.e:(fun k y=>bodyA ((dictumref02_Signs.A k).cx Tryz.prog) (dictumref02_Signs.S k).pin y)=(fun k y=>(dictumref02_Signs.S k).D y):=by kernel_rfl
theorem dictumref02_Signs.ok (k:Nat) : (dictumref02_Signs.S k).OK Tryz.prog GG:=aA (dictumref02_Signs.A k) Gok mixed rfl (by kernel_rfl) ⟨fun _=>rfl,trivial⟩ trivial trivial fun y=>congrFun (congrFun dictumref02_Signs.e k) y
noncomputable def dictumref04_sign.S (k:Nat) : FS Gg:=⟨62,⟨[(0,true,[.s (.st 76)]),(1,false,[.s .str])],[]⟩,Bool,fun y=>dictumref04_sign.f y.1 y.2.1,fun r=>⟨false,⟨[(0,false,[.s .bool])],[]⟩,(r,())⟩,fun _ r k=>k false ⟨[(0,false,[.s .bool])],[]⟩ (r,()),fun _ _ _=>rfl,[],true⟩
noncomputable def dictumref04_sign.A (k:Nat) : Ax (dictumref04_sign.S k):=⟨Tryz.f62,[⟨false,⟨[(0,false,[.s .bool])],[]⟩,fun y=>y.1⟩],[],[],[],[],[],[]⟩
theorem dictumref04_sign.e:(fun k y=>bodyA ((dictumref04_sign.A k).cx Tryz.prog) (dictumref04_sign.S k).pin y)=(fun k y=>(dictumref04_sign.S k).D y):=by kernel_rfl
theorem dictumref04_sign.ok (k:Nat) : (dictumref04_sign.S k).OK Tryz.prog GG:=aA (dictumref04_sign.A k) Gok mixed rfl (by kernel_rfl) ⟨fun _=>rfl,trivial⟩ trivial trivial fun y=>congrFun (congrFun dictumref04_sign.e k) y
noncomputable def dictumref03_T_Copy.S (k:Nat) : FS Gg:=⟨38,⟨[(0,false,[.pt 2 0])],[(2,.blk 53 [.ow 3]),(3,.own 60)]⟩,T_dictumref03_T,fun y=>dictumref03_T_Copy.f (⟨y.1⟩),fun r=>⟨false,⟨[(0,false,[.pt 39 0])],[(39,.blk 53 [.ow 38]),(38,.own 60)]⟩,(r.f_N,())⟩,fun _ r k=>k false ⟨[(0,false,[.pt 39 0])],[(39,.blk 53 [.ow 38]),(38,.own 60)]⟩ (r.f_N,()),fun _ _ _=>rfl,[],true⟩
noncomputable def dictumref03_T_Copy.A (k:Nat) : Ax (dictumref03_T_Copy.S k):=⟨Tryz.f38,[⟨false,⟨[(0,false,[.pt 39 0])],[(39,.blk 53 [.ow 38]),(38,.own 60)]⟩,fun y=>⟨y.1⟩⟩],[],[],[],[(14,[400])],[],[]⟩
theorem dictumref03_T_Copy.e:(fun k y=>bodyA ((dictumref03_T_Copy.A k).cx Tryz.prog) (dictumref03_T_Copy.S k).pin y)=(fun k y=>(dictumref03_T_Copy.S k).D y):=by kernel_rfl
theorem dictumref03_T_Copy.ok (k:Nat) : (dictumref03_T_Copy.S k).OK Tryz.prog GG:=aA (dictumref03_T_Copy.A k) Gok mixed rfl (by kernel_rfl) ⟨fun _=>rfl,trivial⟩ trivial trivial fun y=>congrFun (congrFun dictumref03_T_Copy.e k) y
noncomputable def dictumref04_parser_tok.S (k:Nat) : FS Gg:=⟨40,⟨[(0,false,[.pt 2 0])],[(2,.blk 89 [.pt 3 0,.s (.row 76),.s (.int .i64),.s (.int .i64),.s (.int .i64),.s .bool,.s (.int .i64),.s (.int .i64),.s (.int .i64),.s (.int .i64)]),(3,.blk 53 [.ow 4]),(4,.own 60)]⟩,T_api_Token,fun y=>dictumref04_parser_tok.f (⟨y.1,y.2.1,y.2.2.1,y.2.2.2.1,y.2.2.2.2.1,⟨y.2.2.2.2.2.1,⟨y.2.2.2.2.2.2.1,y.2.2.2.2.2.2.2.1,y.2.2.2.2.2.2.2.2.1⟩⟩⟩) (⟨y.2.2.2.2.2.2.2.2.2.1⟩),fun r=>⟨false,⟨[(0,true,[.s (.st 76)])],[]⟩,(r,())⟩,fun _ r k=>k false ⟨[(0,true,[.s (.st 76)])],[]⟩ (r,()),fun _ _ _=>rfl,[],true⟩
noncomputable def dictumref04_parser_tok.A (k:Nat) : Ax (dictumref04_parser_tok.S k):=⟨Tryz.f40,[⟨false,⟨[(0,true,[.s (.st 76)])],[]⟩,fun y=>y.1⟩],[],[],[],[],[],[]⟩
theorem dictumref04_parser_tok.e:(fun k y=>bodyA ((dictumref04_parser_tok.A k).cx Tryz.prog) (dictumref04_parser_tok.S k).pin y)=(fun k y=>(dictumref04_parser_tok.S k).D y):=by kernel_rfl
theorem dictumref04_parser_tok.ok (k:Nat) : (dictumref04_parser_tok.S k).OK Tryz.prog GG:=aA (dictumref04_parser_tok.A k) Gok mixed rfl (by kernel_rfl) ⟨fun _=>rfl,trivial⟩ trivial trivial fun y=>congrFun (congrFun dictumref04_parser_tok.e k) y
noncomputable def slices_Clone_api_Node.S (k:Nat) : FS Gg:=⟨45,⟨[(0,false,[.s (.row 60)])],[]⟩,(List T_api_Node),fun y=>slices_Clone_api_Node.f y.1,fun r=>⟨false,⟨[(0,false,[.ow 39])],[(39,.own 60)]⟩,(r,())⟩,fun _ r k=>k false ⟨[(0,false,[.ow 39])],[(39,.own 60)]⟩ (r,()),fun _ _ _=>rfl,[],true⟩
noncomputable def slices_Clone_api_Node.fb (a0:(List T_api_Node)) : Option ((List T_api_Node)):=
 (SX.nilK a0
 (some ([] : List T_api_Node))
 ((chk (decide ((([] : List T_api_Node).length+a0.length) * 40≤140737488355328))).bind fun _ =>
 some (([] : List T_api_Node)++a0)))
theorem slices_Clone_api_Node.f_eq (a0:(List T_api_Node)) : slices_Clone_api_Node.f a0=slices_Clone_api_Node.fb a0:=by
 unfold slices_Clone_api_Node.f slices_Clone_api_Node.fb
 first | rfl | (simp only [SX.both_self,SX.nilK_eq] <;> rfl)
noncomputable def slices_Clone_api_Node.Sb (k:Nat) : FS Gg:={ slices_Clone_api_Node.S k with D:=fun y=>slices_Clone_api_Node.fb y.1 }
noncomputable def slices_Clone_api_Node.A (k:Nat) : Ax (slices_Clone_api_Node.Sb k):=⟨Tryz.f45,[⟨false,⟨[(0,false,[.ow 39])],[(39,.own 60)]⟩,fun y=>y.1⟩],[],[],[],[],[],[]⟩
theorem slices_Clone_api_Node.e:(fun k y=>bodyA ((slices_Clone_api_Node.A k).cx Tryz.prog) (slices_Clone_api_Node.Sb k).pin y)=(fun k y=>(slices_Clone_api_Node.Sb k).D y):=by kernel_rfl
theorem slices_Clone_api_Node.okb (k:Nat) : (slices_Clone_api_Node.Sb k).OK Tryz.prog GG:=aA (slices_Clone_api_Node.A k) Gok mixed rfl (by kernel_rfl) ⟨fun _=>rfl,trivial⟩ trivial trivial fun y=>congrFun (congrFun slices_Clone_api_Node.e k) y
theorem slices_Clone_api_Node.ok (k:Nat) : (slices_Clone_api_Node.S k).OK Tryz.prog GG:=FS.OK.same (s:=slices_Clone_api_Node.S k) (D':=fun y=>slices_Clone_api_Node.fb y.1) (slices_Clone_api_Node.okb k) fun y=>(slices_Clone_api_Node.f_eq y.1).symm
noncomputable def dictumref03_Same.S (k:Nat) : FS Gg:=⟨19,⟨[(0,false,[.s (.row 60)]),(1,false,[.s (.row 60)])],[]⟩,Bool,fun y=>dictumref03_Same.f k y.1 y.2.1,fun r=>⟨false,⟨[(0,false,[.s .bool])],[]⟩,(r,())⟩,fun _ r k=>k false ⟨[(0,false,[.s .bool])],[]⟩ (r,()),fun _ _ _=>rfl,[],true⟩
noncomputable def dictumref03_Same.W0 (k:Nat) (n:Nat) (i:HL Gg.α (Pat.sh ⟨[(0,false,[.s (.row 60)]),(1,false,[.s (.row 60)])],[]⟩)) (m:HL Gg.α (Pat.sh ⟨[(5,false,[.s (.int .i64)])],[]⟩)) : Option (Sum (Bool) (Unit)):=dictumref03_Same.l1 k i.1 i.2.1 n m.1
noncomputable def dictumref03_Same.L0 (k:Nat) : LH Gg (Bool):={ I:=⟨[(0,false,[.s (.row 60)]),(1,false,[.s (.row 60)])],[]⟩,M:=⟨[(5,false,[.s (.int .i64)])],[]⟩,X:=Sum (Bool) (Unit),L:=dictumref03_Same.W0 k k,E:=⟨[],[]⟩,out:=fun z=>match z with | .inl r => .inl r | .inr e => .inr (),el:=fun _ z a b=>match z with | .inl r=>a r | .inr e=>b (),law:=fun _ z _ _=>by cases z <;> rfl }
noncomputable def dictumref03_Same.A (k:Nat) : Ax (dictumref03_Same.S k):=⟨Tryz.f19,[⟨false,⟨[(0,false,[.s .bool])],[]⟩,fun y=>y.1⟩],[],[],[(29,dictumref03_Same.L0 k)],[],[],[]⟩
theorem dictumref03_Same.e0:(fun k n i m=>roundA false ((dictumref03_Same.A k).cx Tryz.prog) (dictumref03_Same.L0 k).X 29 (dictumref03_Same.L0 k).I (dictumref03_Same.L0 k).M (dictumref03_Same.L0 k).E (fun r=>some (.inl r)) (fun _ y=>some (.inr ())) (fun _=>dictumref03_Same.W0 k n i) i m)=(fun k n i m=>dictumref03_Same.W0 k (n+1) i m):=by kernel_rfl
theorem dictumref03_Same.e:(fun k y=>bodyA ((dictumref03_Same.A k).cx Tryz.prog) (dictumref03_Same.S k).pin y)=(fun k y=>(dictumref03_Same.S k).D y):=by kernel_rfl
theorem dictumref03_Same.ok (k:Nat) : (dictumref03_Same.S k).OK Tryz.prog GG:=aA (dictumref03_Same.A k) Gok mixed rfl (by kernel_rfl) ⟨fun _=>rfl,trivial⟩ trivial ⟨lp (dictumref03_Same.W0 k) k (fun r=>some (.inl r)) (fun y => .inr ()) (fun n i m=>congrFun (congrFun (congrFun (congrFun dictumref03_Same.e0 k) n) i) m) (fun _ _=>rfl) (fun _ _=>rfl) (fun _ _ h=>by cases h; rfl) (fun _=>rfl),trivial⟩ fun y=>congrFun (congrFun dictumref03_Same.e k) y
theorem sizeBd:(Tryz.prog.info? 68).map (·.size)=some 2:=by kernel_rfl
theorem info5:(Tryz.prog.info? 5).map (fun i=>(i.zero,i.size,i.bytes))=some (some (.int .u8 0),1,1):=by kernel_rfl
theorem Bd_copyCheck (w0:World) (b:Nat) (p v:Value) (hb:w0.heap[b]?=some (.cells #[p,v] 68 (0,0))) (hp:p = .pointer none∨p = .pointer (some ⟨b,0,none⟩)) :
  Calls Tryz.prog 74 [.pointer (some ⟨b,0,none⟩)].toArray w0 fun e_ w_=>e_ = .returned (one [])∧Kept b w0 w_∧w_.heap[b]?=some (.cells #[.pointer (some ⟨b,0,none⟩),v] 68 (0,0)):=by
 have hB:Bk (tagOne b) w0 41 b [p,v] 68:=⟨tagOne_same b,hb⟩
 refine SX.calls [.pointer (some ⟨b,0,none⟩)] Tryz.func74 rfl rfl ?_
 rw [Tryz.ntmps74]
 refine WC.seq ?_
 refine WC.region ?_
 refine WL.ex rfl (ex_move (v:=.pointer (some ⟨b,0,none⟩)) rfl) ?_
 refine WL.ex rfl (ex_nilCheck rfl) ?_
 refine WL.ex rfl (ex_fieldAddr (k:=0) rfl Tryz.underlying68 rfl (by kernel_rfl)) ?_
 refine WL.ex rfl (ex_load1 (v:=p) rfl Tryz.underlying65 rfl (hB.cell rfl)) ?_
 rcases hp with rfl | rfl
 ·refine WL.ex rfl (ex_bin (a:=.pointer none) (b:=.pointer none) (v:=.bool true) rfl rfl (bin_eql_ptrNN Tryz.underlying65)) ?_
  refine WL.nil ?_
  refine WC.cond_t rfl ?_
  refine WC.region ?_
  refine WL.ex rfl (ex_move (v:=.pointer (some ⟨b,0,none⟩)) rfl) ?_
  refine WL.ex rfl (ex_move (v:=.pointer (some ⟨b,0,none⟩)) rfl) ?_
  refine WL.ex rfl (ex_to_unsafe rfl Tryz.underlying65 Tryz.underlying140 2 rfl sizeBd rfl hB) ?_
  refine WL.ex rfl (ex_extern1 (v:=.pointer (some ⟨b,0,none⟩)) (v':=.pointer (some ⟨b,0,none⟩)) rfl Tryz.func91 (by kernel_rfl) (by kernel_rfl) (by kernel_rfl) (ee:=Extern.AbiNoEscape.same) (by kernel_rfl) rfl) ?_
  refine WL.ex rfl (ex_from_unsafe rfl Tryz.underlying140 Tryz.underlying65 (by kernel_rfl) hB (by kernel_rfl)) ?_
  refine WL.ex rfl (ex_nilCheck rfl) ?_
  refine WL.ex rfl (ex_fieldAddr (k:=0) rfl Tryz.underlying68 rfl (by kernel_rfl)) ?_
  refine WL.op rfl ?_
  refine OW.store [.pointer (some ⟨b,0,none⟩),v] rfl (vs:=[.pointer (some ⟨b,0,none⟩)]) rfl (by kernel_rfl) hB (Nat.le_of_ble_eq_true rfl) (by intro u hu; simp at hu; subst hu; rfl) rfl ?_
  intro w1 s1 h1
  refine WL.nil ?_
  exact ⟨_,.nil,rfl,s1.kept,h1.heap⟩
 ·refine WL.ex rfl (ex_bin (a:=.pointer (some ⟨b,0,none⟩)) (b:=.pointer none) (v:=.bool false) rfl rfl (bin_eql_ptrSN Tryz.underlying65)) ?_
  refine WL.nil ?_
  refine WC.cond_f rfl ?_
  refine WC.seq ?_
  refine WC.region ?_
  refine WL.ex rfl (ex_move (v:=.pointer (some ⟨b,0,none⟩)) rfl) ?_
  refine WL.ex rfl (ex_nilCheck rfl) ?_
  refine WL.ex rfl (ex_fieldAddr (k:=0) rfl Tryz.underlying68 rfl (by kernel_rfl)) ?_
  refine WL.ex rfl (ex_load1 (v:=.pointer (some ⟨b,0,none⟩)) rfl Tryz.underlying65 rfl (hB.cell rfl)) ?_
  refine WL.ex rfl (ex_move (v:=.pointer (some ⟨b,0,none⟩)) rfl) ?_
  refine WL.ex rfl (ex_bin (a:=.pointer (some ⟨b,0,none⟩)) (b:=.pointer (some ⟨b,0,none⟩)) (v:=.bool false) rfl rfl (bin_neq_ptrSame Tryz.underlying65 (by kernel_rfl))) ?_
  refine WL.nil ?_
  refine WC.cond_f rfl ?_
  refine WC.skip ?_
  exact ⟨_,.nil,rfl,(Step.refl _ _ _).kept,hb⟩
theorem Builder_WriteByte.calls (o0:Tags) (w0:World) (b:Nat) (a0:List UInt8) (a1:UInt8) (r:List UInt8) (hO:∀ b,b < w0.heap.size→o0 b < 40) (hB0:Bd 68 5 2 o0 w0 b a0) (H:Builder_WriteByte.f a0 a1=some r) :
  Calls Tryz.prog 52 [.pointer (some ⟨b,0,none⟩),enc8 a1].toArray w0 fun e_ w_ => ∃ (o_:Tags),e_ = .returned (one [.nilIface])∧Step o0 w0 o_ w_ [2]∧Bd 68 5 2 o_ w_ b r:=by
 unfold Builder_WriteByte.f at H
 obtain ⟨u,hu,H⟩:=bindE H
 obtain rfl:=Option.some.inj H
 obtain ⟨p,v,hB0',hp,hO1⟩:=hB0
 have hb:=hB0'.heap
 have hn:=hO1.notin hb rfl
 have h0:o0 b≠0:=by rw [hB0'.tag]; decide
 have hO2:Own Rep.u8 5 2 (apart1 o0 b) w0 v a0:=hO1.apart hn h0
 refine SX.calls [.pointer (some ⟨b,0,none⟩),enc8 a1] Tryz.func52 rfl rfl ?_
 rw [Tryz.ntmps52]
 refine WC.seq ?_
 refine WC.region ?_
 refine WL.ex rfl (ex_assign (v:=.nilIface) rfl) ?_
 refine WL.nil ?_
 refine WC.seq ?_
 refine WC.region ?_
 refine WL.ex rfl (ex_move (v:=.pointer (some ⟨b,0,none⟩)) rfl) ?_
 refine WL.op rfl ?_
 refine OW.call [.pointer (some ⟨b,0,none⟩)] rfl Tryz.func74 (by kernel_rfl) (by kernel_rfl) rfl (Bd_copyCheck w0 b p v hb hp) ?_
 rintro _ w1 ⟨rfl,k1,hb1⟩
 refine ⟨_,rfl,?_⟩
 have s1:Step (apart1 o0 b) w0 (apart1 o0 b) w1 [41,2]:=Step.trans (k1.step (apart1_same o0 b)) (Step.refl _ _ []) rfl rfl
 replace hO2:=hO2.kept k1 hn (by rw [apart1_same]; decide)
 have hB:Bk (apart1 o0 b) w1 41 b [.pointer (some ⟨b,0,none⟩),v] 68:=⟨apart1_same o0 b,hb1⟩
 refine WL.nil ?_
 refine WC.seq ?_
 refine WC.region ?_
 refine WL.ex rfl (ex_move (v:=.pointer (some ⟨b,0,none⟩)) rfl) ?_
 refine WL.ex rfl (ex_move (v:=.pointer (some ⟨b,0,none⟩)) rfl) ?_
 refine WL.ex rfl (ex_nilCheck rfl) ?_
 refine WL.ex rfl (ex_fieldAddr (k:=0) rfl Tryz.underlying68 rfl (by kernel_rfl)) ?_
 refine WL.ex rfl (ex_load1 (v:=v) rfl Tryz.underlying66 rfl (hB.cell rfl)) ?_
 refine WL.ex rfl (ex_move (v:=enc8 a1) rfl) ?_
 refine WL.op rfl ?_
 refine OW.row (r:=Rep.u8) (xs:=[a1]) [(0,enc8 a1)] [[enc8 a1]] 42 (Fm.here2 (apart1 o0 b) w1) rfl Tryz.underlying66 (by kernel_rfl) (by kernel_rfl:(Tryz.prog.info? 5).map (·.zero)=some (some (.int .u8 0))) rfl rfl rfl rfl ⟨rfl,trivial⟩ rfl rfl rfl rfl ?_
 intro o2 w2 v2 s2 hO4
 replace hO2:=hO2.step s2 rfl rfl
 replace hB:=hB.step s2 rfl
 replace s1:=Step.trans s1 s2 (M:=[41,2]) rfl rfl
 obtain ⟨A4,c4,q4,_,hr4⟩:=hO4.row
 refine WL.op rfl ?_
 refine OW.append (r:=Rep.u8) (E:=5) (i:=2) rfl Tryz.underlying66 info5 rfl (by decide) (by decide) (by decide) rfl q4 hO2 hr4 rfl (of_decide_eq_true (chk_true hu)) ?_
 intro o3 w3 v3 s3 hO2
 replace hB:=hB.step s3 rfl
 replace s1:=Step.trans s1 s3 (M:=[41,2]) rfl rfl
 refine WL.ex rfl (ex_nilCheck rfl) ?_
 refine WL.ex rfl (ex_fieldAddr (k:=0) rfl Tryz.underlying68 rfl (by kernel_rfl)) ?_
 refine WL.op rfl ?_
 refine OW.store [.pointer (some ⟨b,0,none⟩),v3] rfl (vs:=[v3]) (by obtain ⟨A_,c_,e_⟩:=hO2.slice; show v3.cells=_; rw [e_]; rfl) (by kernel_rfl) hB (Nat.le_of_ble_eq_true rfl) (by intro u hu; simp at hu; subst hu; obtain ⟨A_,c_,e_⟩:=hO2.slice; rw [e_]; rfl) rfl ?_
 intro w4 s4 hB4
 replace hO2:=hO2.step s4 rfl rfl
 replace s1:=Step.trans s1 s4 (M:=[41,2]) rfl rfl
 refine WL.nil ?_
 refine WC.seq ?_
 refine WC.region ?_
 refine WL.ex rfl (ex_assign (v:=.nilIface) rfl) ?_
 refine WL.nil ?_
 refine WC.ret ?_
 exact ⟨_,.tmp (.nilIface) rfl .nil,_,rfl,apart_step hO hB0'.tag s1 rfl,_,_,Bk.renTo hB4,.inr rfl,hO2.ren rfl rfl⟩
noncomputable def strings_Builder_WriteByte.S (k:Nat) : FS Gg:=⟨52,⟨[(0,false,[.pt 2 0]),(1,false,[.s .u8])],[(2,.bd 68 5)]⟩,List UInt8,fun y=>Builder_WriteByte.f y.2.1 y.1,fun r=>⟨false,⟨[(0,false,[.ni])],[(2,.bd 68 5)]⟩,(r,())⟩,fun _ r k=>k false ⟨[(0,false,[.ni])],[(2,.bd 68 5)]⟩ (r,()),fun _ _ _=>rfl,[2],true⟩
theorem strings_Builder_WriteByte.ok (k:Nat) : (strings_Builder_WriteByte.S k).OK Tryz.prog GG:=by
 refine ⟨⟨Tryz.f52,rfl,by kernel_rfl,by kernel_rfl⟩,?_⟩
 rintro ⟨a1,a0,u_⟩ r hr o0 w0 hv0 args hO hG ha ho
 obtain ⟨v0,v1,rfl,h0,h1⟩:=a2_2 ha
 obtain ⟨b0,hb0,e0⟩:=VR.leaf h0
 obtain rfl:=lr1 (s:=fun _=>True) e0
 obtain ⟨c0,hc0,hB0⟩:=ho 2
 obtain rfl:b0=c0:=by rw [hb0] at hc0; cases hc0; rfl
 obtain rfl:=lr1 (s:=fun _=>True) (show [v1]=[enc8 a1] from VR.leaf h1)
 refine Calls.mono (Builder_WriteByte.calls o0 w0 b0 a0 a1 r hO hB0 hr) ?_
 rintro e w ⟨o_,rfl,hs,hP0⟩
 exact ⟨o_,hv0,[.nilIface],rfl,hs,⟨VR.mk1 rfl,trivial⟩,fun i=>by
  show OR hv0 o_ w i (bif Nat.beq 2 i then _ else _)
  cases hi:Nat.beq 2 i with
  | false=>trivial
  | true=>obtain rfl:=Nat.eq_of_beq_eq_true hi; exact ⟨b0,hb0,hP0⟩,fun _ _ _=>rfl⟩
theorem Builder_WriteString.calls (o0:Tags) (w0:World) (b:Nat) (a0:List UInt8) (a1:List UInt8) (r:Int×List UInt8) (hO:∀ b,b < w0.heap.size→o0 b < 40) (hB0:Bd 68 5 2 o0 w0 b a0) (H:Builder_WriteString.f a0 a1=some r) :
  Calls Tryz.prog 53 [.pointer (some ⟨b,0,none⟩),encS a1].toArray w0 fun e_ w_ => ∃ (o_:Tags),e_ = .returned (one [.int .i64 r.1,.nilIface])∧Step o0 w0 o_ w_ [2]∧Bd 68 5 2 o_ w_ b r.2:=by
 unfold Builder_WriteString.f at H
 obtain ⟨u,hu,H⟩:=bindE H
 obtain rfl:=Option.some.inj H
 obtain ⟨p,v,hB0',hp,hO1⟩:=hB0
 have hb:=hB0'.heap
 have hn:=hO1.notin hb rfl
 have h0:o0 b≠0:=by rw [hB0'.tag]; decide
 have hO2:Own Rep.u8 5 2 (apart1 o0 b) w0 v a0:=hO1.apart hn h0
 refine SX.calls [.pointer (some ⟨b,0,none⟩),encS a1] Tryz.func53 rfl rfl ?_
 rw [Tryz.ntmps53]
 refine WC.seq ?_
 refine WC.region ?_
 refine WL.ex rfl (ex_assign (v:=.int .i64 0) rfl) ?_
 refine WL.ex rfl (ex_assign (v:=.nilIface) rfl) ?_
 refine WL.nil ?_
 refine WC.seq ?_
 refine WC.region ?_
 refine WL.ex rfl (ex_move (v:=.pointer (some ⟨b,0,none⟩)) rfl) ?_
 refine WL.op rfl ?_
 refine OW.call [.pointer (some ⟨b,0,none⟩)] rfl Tryz.func74 (by kernel_rfl) (by kernel_rfl) rfl (Bd_copyCheck w0 b p v hb hp) ?_
 rintro _ w1 ⟨rfl,k1,hb1⟩
 refine ⟨_,rfl,?_⟩
 have s1:Step (apart1 o0 b) w0 (apart1 o0 b) w1 [41,2]:=Step.trans (k1.step (apart1_same o0 b)) (Step.refl _ _ []) rfl rfl
 replace hO2:=hO2.kept k1 hn (by rw [apart1_same]; decide)
 have hB:Bk (apart1 o0 b) w1 41 b [.pointer (some ⟨b,0,none⟩),v] 68:=⟨apart1_same o0 b,hb1⟩
 refine WL.nil ?_
 refine WC.seq ?_
 refine WC.region ?_
 refine WL.ex rfl (ex_move (v:=.pointer (some ⟨b,0,none⟩)) rfl) ?_
 refine WL.ex rfl (ex_move (v:=.pointer (some ⟨b,0,none⟩)) rfl) ?_
 refine WL.ex rfl (ex_nilCheck rfl) ?_
 refine WL.ex rfl (ex_fieldAddr (k:=0) rfl Tryz.underlying68 rfl (by kernel_rfl)) ?_
 refine WL.ex rfl (ex_load1 (v:=v) rfl Tryz.underlying66 rfl (hB.cell rfl)) ?_
 refine WL.ex rfl (ex_move (v:=encS a1) rfl) ?_
 refine WL.op rfl ?_
 refine OW.appendStr (E:=5) (i:=2) (s:=a1) rfl Tryz.underlying66 Tryz.underlying9 info5 (by decide) rfl rfl hO2 (of_decide_eq_true (chk_true hu)) ?_
 intro o3 w3 v3 s3 hO2
 replace hB:=hB.step s3 rfl
 replace s1:=Step.trans s1 s3 (M:=[41,2]) rfl rfl
 refine WL.ex rfl (ex_nilCheck rfl) ?_
 refine WL.ex rfl (ex_fieldAddr (k:=0) rfl Tryz.underlying68 rfl (by kernel_rfl)) ?_
 refine WL.op rfl ?_
 refine OW.store [.pointer (some ⟨b,0,none⟩),v3] rfl (vs:=[v3]) (by obtain ⟨A_,c_,e_⟩:=hO2.slice; show v3.cells=_; rw [e_]; rfl) (by kernel_rfl) hB (Nat.le_of_ble_eq_true rfl) (by intro u hu; simp at hu; subst hu; obtain ⟨A_,c_,e_⟩:=hO2.slice; rw [e_]; rfl) rfl ?_
 intro w4 s4 hB4
 replace hO2:=hO2.step s4 rfl rfl
 replace s1:=Step.trans s1 s4 (M:=[41,2]) rfl rfl
 refine WL.nil ?_
 refine WC.seq ?_
 refine WC.region ?_
 refine WL.ex rfl (ex_move (v:=encS a1) rfl) ?_
 refine WL.ex rfl (ex_len_str (s:=a1) rfl Tryz.underlying9) ?_
 refine WL.ex rfl (ex_assign (v:=.int .i64 (a1.length:Int)) rfl) ?_
 refine WL.ex rfl (ex_assign (v:=.nilIface) rfl) ?_
 refine WL.nil ?_
 refine WC.ret ?_
 exact ⟨_,.tmp (.int .i64 (a1.length:Int)) rfl (.tmp (.nilIface) rfl .nil),_,rfl,apart_step hO hB0'.tag s1 rfl,_,_,Bk.renTo hB4,.inr rfl,hO2.ren rfl rfl⟩
noncomputable def strings_Builder_WriteString.S (k:Nat) : FS Gg:=⟨53,⟨[(0,false,[.pt 2 0]),(1,false,[.s .str])],[(2,.bd 68 5)]⟩,Int×List UInt8,fun y=>Builder_WriteString.f y.2.1 y.1,fun r=>⟨false,⟨[(0,false,[.s (.int .i64)]),(1,false,[.ni])],[(2,.bd 68 5)]⟩,(r.1,r.2,())⟩,fun _ r k=>k false ⟨[(0,false,[.s (.int .i64)]),(1,false,[.ni])],[(2,.bd 68 5)]⟩ (r.1,r.2,()),fun _ _ _=>rfl,[2],true⟩
theorem strings_Builder_WriteString.ok (k:Nat) : (strings_Builder_WriteString.S k).OK Tryz.prog GG:=by
 refine ⟨⟨Tryz.f53,rfl,by kernel_rfl,by kernel_rfl⟩,?_⟩
 rintro ⟨a1,a0,u_⟩ r hr o0 w0 hv0 args hO hG ha ho
 obtain ⟨v0,v1,rfl,h0,h1⟩:=a2_2 ha
 obtain ⟨b0,hb0,e0⟩:=VR.leaf h0
 obtain rfl:=lr1 (s:=fun _=>True) e0
 obtain ⟨c0,hc0,hB0⟩:=ho 2
 obtain rfl:b0=c0:=by rw [hb0] at hc0; cases hc0; rfl
 obtain rfl:=lr1 (s:=fun _=>True) (show [v1]=[encS a1] from VR.leaf h1)
 refine Calls.mono (Builder_WriteString.calls o0 w0 b0 a0 a1 r hO hB0 hr) ?_
 rintro e w ⟨o_,rfl,hs,hP0⟩
 exact ⟨o_,hv0,[.int .i64 r.1,.nilIface],rfl,hs,⟨VR.mk1 rfl,VR.mk1 rfl,trivial⟩,fun i=>by
  show OR hv0 o_ w i (bif Nat.beq 2 i then _ else _)
  cases hi:Nat.beq 2 i with
  | false=>trivial
  | true=>obtain rfl:=Nat.eq_of_beq_eq_true hi; exact ⟨b0,hb0,hP0⟩,fun _ _ _=>rfl⟩
theorem unsafe_string (i:Nat) (o:Tags) (w:World) (A:Option Addr) (xs:List UInt8) (c:Nat) (p:Option Addr) (hO:Own Rep.u8 5 i o w (.slice A xs.length c) xs) (hp:xs≠[]→p=A) (hl:xs.length≤9223372036854775807) :
  ∃ w',(Builtin.unsafeString_ #[109,3] 9 #[.pointer p,.int .i64 xs.length]).run Tryz.prog w = .ok (encS xs) w'∧Step o w o w' [i]:=by
 by_cases h0:xs=[]
 ·subst h0
  exact ⟨w,by have:=Lib.run_unsafeString_none (P:=Tryz.prog) w 109 3 9 p; rw [List.length_nil]; rw [show ((0:Nat) : Int)=0 from rfl,this]; rfl,Step.refl _ _ _⟩
 ·obtain rfl:=hp h0
  obtain ⟨cells,hown,ht,hm⟩:=hO
  rcases hown.2 with ⟨_,hz⟩|⟨g,cap,cur,hv,_,hg,hn,hcm,hcs,htake⟩
  ·exact absurd (List.eq_nil_of_length_eq_zero hz) h0
  ·injection hv with e1 _ e3
   subst e1
   have hcz:cur.size=cap:=by rw [hcs]; exact Nat.mul_one cap
   refine ⟨w.freeze ⟨g,0,none⟩ xs.length,?_,step_freeze (ht g rfl)⟩
   refine Lib.run_unsafeString_row (P:=Tryz.prog) w 109 3 9 5 Tryz.underlying109 (by kernel_rfl) g cur.size (by simp [World.shape?,hg]) xs h0 (by omega) hl ?_
   intro j x hx
   have hcell:=World.ownsRow.cells hown (g:=g) rfl j (enc8 x)
   have hcs':cells=xs.map enc8:=many_scalar hm
   rw [hcs'] at hcell
   exact hcell (by simp [hx])
theorem Builder_String.calls (o0:Tags) (w0:World) (b:Nat) (a0:List UInt8) (r:List UInt8) (hO:∀ b,b < w0.heap.size→o0 b < 40) (hB0:Bd 68 5 2 o0 w0 b a0) (H:Builder_String.f a0=some r) :
  Calls Tryz.prog 27 [.pointer (some ⟨b,0,none⟩)].toArray w0 fun e_ w_ => ∃ (o_:Tags),e_ = .returned (one [encS r])∧Step o0 w0 o_ w_ [2]:=by
 unfold Builder_String.f at H
 obtain ⟨u,hu,H⟩:=bindE H
 obtain rfl:=Option.some.inj H
 have hl:a0.length≤9223372036854775807:=of_decide_eq_true (chk_true hu)
 obtain ⟨p,v,hB0',hp,hO1⟩:=hB0
 have hb:=hB0'.heap
 have hn:=hO1.notin hb rfl
 have h0:o0 b≠0:=by rw [hB0'.tag]; decide
 have hO2:Own Rep.u8 5 2 (apart1 o0 b) w0 v a0:=hO1.apart hn h0
 have HF:=Fm.here2 (apart1 o0 b) w0
 have hB:Bk (apart1 o0 b) w0 41 b [p,v] 68:=⟨apart1_same o0 b,hb⟩
 refine SX.calls [.pointer (some ⟨b,0,none⟩)] Tryz.func27 rfl rfl ?_
 rw [Tryz.ntmps27]
 refine WC.seq ?_
 refine WC.region ?_
 refine WL.ex rfl (ex_assign (v:=encS []) rfl) ?_
 refine WL.nil ?_
 refine WC.seq ?_
 refine WC.regionD' HF [2] 12 12 (by kernel_rfl) rfl ?_
 intro w1 s1
 replace hO2:=hO2.step s1 rfl rfl
 replace hB:=hB.step s1 rfl
 replace HF:=HF.step s1 rfl
 have hBD:=hB
 have sR:=HF.here [2]
 obtain ⟨A,c,e,hlc,hr⟩:=hO2.row
 subst e
 refine WA.ex 0 rfl (by kernel_rfl) (by kernel_rfl) (by kernel_rfl) rfl ⟨_,sR⟩ (fun w_ hS_=>ex_move (v:=.pointer (some ⟨b,0,none⟩)) rfl) ?_
 refine WA.ex 1 rfl (by kernel_rfl) (by kernel_rfl) (by kernel_rfl) rfl ⟨_,sR⟩ (fun w_ hS_=>ex_nilCheck rfl) ?_
 refine WA.ex 2 rfl (by kernel_rfl) (by kernel_rfl) (by kernel_rfl) rfl ⟨_,sR⟩ (fun w_ hS_=>ex_fieldAddr (k:=0) rfl Tryz.underlying68 rfl (by kernel_rfl)) ?_
 refine WA.ex 3 rfl (by kernel_rfl) (by kernel_rfl) (by kernel_rfl) rfl ⟨_,sR⟩ (fun w_ hS_=>ex_load1 (v:=.slice A a0.length c) rfl Tryz.underlying66 rfl ((hBD.step hS_.choose_spec rfl).cell rfl)) ?_
 refine WA.ex 5 rfl (by kernel_rfl) (by kernel_rfl) (by kernel_rfl) rfl ⟨_,sR⟩ (fun w_ hS_=>ex_move (v:=.pointer (some ⟨b,0,none⟩)) rfl) ?_
 refine WA.ex 6 rfl (by kernel_rfl) (by kernel_rfl) (by kernel_rfl) rfl ⟨_,sR⟩ (fun w_ hS_=>ex_nilCheck rfl) ?_
 refine WA.ex 7 rfl (by kernel_rfl) (by kernel_rfl) (by kernel_rfl) rfl ⟨_,sR⟩ (fun w_ hS_=>ex_fieldAddr (k:=0) rfl Tryz.underlying68 rfl (by kernel_rfl)) ?_
 refine WA.ex 8 rfl (by kernel_rfl) (by kernel_rfl) (by kernel_rfl) rfl ⟨_,sR⟩ (fun w_ hS_=>ex_load1 (v:=.slice A a0.length c) rfl Tryz.underlying66 rfl ((hBD.step hS_.choose_spec rfl).cell rfl)) ?_
 refine WA.ex 9 rfl (by kernel_rfl) (by kernel_rfl) (by kernel_rfl) rfl ⟨_,sR⟩ (fun w_ hS_=>ex_len_slice (A:=A) (m:=a0.length) (c:=c) rfl Tryz.underlying66) ?_
 have hdata:∃ q w2 o2,(Builtin.unsafeSliceData_ #[66] 109 #[.slice A a0.length c]).run Tryz.prog w1 = .ok (.pointer q) w2∧Step (apart1 o0 b) w1 o2 w2 []∧(a0≠[]→q=A):=by
  cases A with
  | none=>exact ⟨none,w1,_,Lib.run_unsafeSliceData_nil w1 _ _ _ _,Step.refl _ _ _,fun _=>rfl⟩
  | some ad =>
   by_cases hc:c=0
   ·subst hc
    obtain ⟨cells,hown,ht,hm⟩:=hO2
    rcases hown.2 with ⟨hz,_⟩|⟨g,cap,cur,hv,_,hg,_⟩
    ·cases hz
    ·injection hv with e1 _ e3
     injection e1 with e1
     subst e1
     exact ⟨_,_,_,Lib.run_unsafeSliceData_zero (P:=Tryz.prog) w1 #[66] 109 5 Tryz.underlying109 ⟨g,0,none⟩ a0.length (5,cur.size) (by simp [World.shape?,hg]),step_alloc (apart1 o0 b) w1 1 _ [],fun h=>absurd (List.eq_nil_of_length_eq_zero (by omega)) h⟩
   ·exact ⟨some ad,w1,_,Lib.run_unsafeSliceData_row w1 _ _ ad _ _ hc,Step.refl _ _ _,fun _=>rfl⟩
 obtain ⟨q,w2,o2,hr2,s2,hq⟩:=hdata
 refine WA.one 4 (by kernel_rfl) rfl rfl ?_
 refine OW.val (v:=.pointer q) (w':=w2) rfl (run_usd (v:=.slice A a0.length c) rfl hr2) ?_
 replace sR:=Step.trans sR s2 (M:=[2]) rfl rfl
 replace hO2:=hO2.step s2 rfl rfl
 refine ⟨⟨_,sR⟩,?_⟩
 obtain ⟨w3,hr3,s3⟩:=unsafe_string 2 o2 w2 A a0 c q hO2 hq hl
 refine WA.one 10 (by kernel_rfl) rfl rfl ?_
 refine OW.val (v:=encS a0) (w':=w3) rfl (run_us (v:=.pointer q) (u:=.int .i64 (a0.length:Int)) rfl rfl hr3) ?_
 replace sR:=Step.trans sR s3 (M:=[2]) rfl rfl
 refine ⟨⟨_,sR⟩,?_⟩
 refine WA.one 11 (by kernel_rfl) rfl rfl ?_
 refine OW.ex rfl (ex_assign (v:=encS a0) rfl) ?_
 refine ⟨⟨_,sR⟩,?_⟩
 refine WA.done (by kernel_rfl) ?_
 refine WC.ret ?_
 exact ⟨_,.tmp (encS a0) rfl .nil,_,rfl,apart_step hO hB0'.tag (Step.trans s1 sR (M:=[41,2]) rfl rfl) rfl⟩
noncomputable def strings_Builder_String.S (k:Nat) : FS Gg:=⟨27,⟨[(0,false,[.pt 2 0])],[(2,.bd 68 5)]⟩,List UInt8,fun y=>Builder_String.f y.1,fun r=>⟨false,⟨[(0,false,[.s .str])],[]⟩,(r,())⟩,fun _ r k=>k false ⟨[(0,false,[.s .str])],[]⟩ (r,()),fun _ _ _=>rfl,[2],true⟩
theorem strings_Builder_String.ok (k:Nat) : (strings_Builder_String.S k).OK Tryz.prog GG:=by
 refine ⟨⟨Tryz.f27,rfl,by kernel_rfl,by kernel_rfl⟩,?_⟩
 rintro ⟨a0,u_⟩ r hr o0 w0 hv0 args hO hG ha ho
 obtain ⟨v0,rfl,h0⟩:=a2_1 ha
 obtain ⟨b0,hb0,e0⟩:=VR.leaf h0
 obtain rfl:=lr1 (s:=fun _=>True) e0
 obtain ⟨c0,hc0,hB0⟩:=ho 2
 obtain rfl:b0=c0:=by rw [hb0] at hc0; cases hc0; rfl
 refine Calls.mono (Builder_String.calls o0 w0 b0 a0 r hO hB0 hr) ?_
 rintro e w ⟨o_,rfl,hs⟩
 exact ⟨o_,hv0,[encS r],rfl,hs,⟨VR.mk1 rfl,trivial⟩,fun _=>trivial,fun _ _ _=>rfl⟩
noncomputable def dictumlaw04_num.S (k:Nat) : FS Gg:=⟨10,⟨[(0,false,[.s (.int .i64)])],[]⟩,Int,fun y=>dictumlaw04_num.f y.1,fun r=>⟨false,⟨[(0,false,[.s (.int .i64)])],[]⟩,(r,())⟩,fun _ r k=>k false ⟨[(0,false,[.s (.int .i64)])],[]⟩ (r,()),fun _ _ _=>rfl,[],true⟩
noncomputable def dictumlaw04_num.A (k:Nat) : Ax (dictumlaw04_num.S k):=⟨Tryz.f10,[⟨false,⟨[(0,false,[.s (.int .i64)])],[]⟩,fun y=>y.1⟩],[],[],[],[],[],[]⟩
theorem dictumlaw04_num.e:(fun k y=>bodyA ((dictumlaw04_num.A k).cx Tryz.prog) (dictumlaw04_num.S k).pin y)=(fun k y=>(dictumlaw04_num.S k).D y):=by kernel_rfl
theorem dictumlaw04_num.ok (k:Nat) : (dictumlaw04_num.S k).OK Tryz.prog GG:=aA (dictumlaw04_num.A k) Gok mixed rfl (by kernel_rfl) ⟨fun _=>rfl,trivial⟩ trivial trivial fun y=>congrFun (congrFun dictumlaw04_num.e k) y
noncomputable def dictumref03_Word.S (k:Nat) : FS Gg:=⟨88,⟨[(0,false,[.s .str])],[]⟩,Bool,fun y=>dictumref03_Word.f k y.1,fun r=>⟨false,⟨[(0,false,[.s .bool])],[]⟩,(r,())⟩,fun _ r k=>k false ⟨[(0,false,[.s .bool])],[]⟩ (r,()),fun _ _ _=>rfl,[],true⟩
noncomputable def dictumref03_Word.W0 (k:Nat) (n:Nat) (i:HL Gg.α (Pat.sh ⟨[(0,false,[.s .str])],[]⟩)) (m:HL Gg.α (Pat.sh ⟨[(3,false,[.s (.int .i64)])],[]⟩)) : Option (Sum (Bool) (Unit)):=dictumref03_Word.l1 k i.1 n m.1
noncomputable def dictumref03_Word.L0 (k:Nat) : LH Gg (Bool):={ I:=⟨[(0,false,[.s .str])],[]⟩,M:=⟨[(3,false,[.s (.int .i64)])],[]⟩,X:=Sum (Bool) (Unit),L:=dictumref03_Word.W0 k k,E:=⟨[],[]⟩,out:=fun z=>match z with | .inl r => .inl r | .inr e => .inr (),el:=fun _ z a b=>match z with | .inl r=>a r | .inr e=>b (),law:=fun _ z _ _=>by cases z <;> rfl }
noncomputable def dictumref03_Word.W1 (k:Nat) (n:Nat) (i:HL Gg.α (Pat.sh ⟨[(0,false,[.s .str]),(4,false,[.ow 1220])],[(1220,.own 9)]⟩)) (m:HL Gg.α (Pat.sh ⟨[(5,false,[.s (.int .i64)])],[]⟩)) : Option (Sum (Bool) (Unit)):=dictumref03_Word.l2 k i.1 i.2.1 n m.1
noncomputable def dictumref03_Word.L1 (k:Nat) : LH Gg (Bool):={ I:=⟨[(0,false,[.s .str]),(4,false,[.ow 1220])],[(1220,.own 9)]⟩,M:=⟨[(5,false,[.s (.int .i64)])],[]⟩,X:=Sum (Bool) (Unit),L:=dictumref03_Word.W1 k k,E:=⟨[],[]⟩,out:=fun z=>match z with | .inl r => .inl r | .inr e => .inr (),el:=fun _ z a b=>match z with | .inl r=>a r | .inr e=>b (),law:=fun _ z _ _=>by cases z <;> rfl }
noncomputable def dictumref03_Word.A (k:Nat) : Ax (dictumref03_Word.S k):=⟨Tryz.f88,[⟨false,⟨[(0,false,[.s .bool])],[]⟩,fun y=>y.1⟩],[dictumref03_letter.S k,dictumref03_Reserved.S k],[(6,⟨Bool,⟨[(19,false,[.s .bool])],[]⟩,fun y=>y.1,fun r=>(r,()),fun _=>rfl,false⟩),(932,⟨Bool,⟨[(55,false,[.s .bool])],[]⟩,fun y=>y.1,fun r=>(r,()),fun _=>rfl,false⟩)],[(29,dictumref03_Word.L0 k),(125,dictumref03_Word.L1 k)],[],[],[]⟩
theorem dictumref03_Word.e0:(fun k n i m=>roundA false ((dictumref03_Word.A k).cx Tryz.prog) (dictumref03_Word.L0 k).X 29 (dictumref03_Word.L0 k).I (dictumref03_Word.L0 k).M (dictumref03_Word.L0 k).E (fun r=>some (.inl r)) (fun _ y=>some (.inr ())) (fun _=>dictumref03_Word.W0 k n i) i m)=(fun k n i m=>dictumref03_Word.W0 k (n+1) i m):=by kernel_rfl
theorem dictumref03_Word.e1:(fun k n i m=>roundA false ((dictumref03_Word.A k).cx Tryz.prog) (dictumref03_Word.L1 k).X 125 (dictumref03_Word.L1 k).I (dictumref03_Word.L1 k).M (dictumref03_Word.L1 k).E (fun r=>some (.inl r)) (fun _ y=>some (.inr ())) (fun _=>dictumref03_Word.W1 k n i) i m)=(fun k n i m=>dictumref03_Word.W1 k (n+1) i m):=by kernel_rfl
theorem dictumref03_Word.e:(fun k y=>bodyA ((dictumref03_Word.A k).cx Tryz.prog) (dictumref03_Word.S k).pin y)=(fun k y=>(dictumref03_Word.S k).D y):=by kernel_rfl
theorem dictumref03_Word.ok (k:Nat) : (dictumref03_Word.S k).OK Tryz.prog GG:=aA (dictumref03_Word.A k) Gok mixed rfl (by kernel_rfl) ⟨fun _=>rfl,trivial⟩ ⟨dictumref03_letter.ok k,dictumref03_Reserved.ok k,trivial⟩ ⟨lp (dictumref03_Word.W0 k) k (fun r=>some (.inl r)) (fun y => .inr ()) (fun n i m=>congrFun (congrFun (congrFun (congrFun dictumref03_Word.e0 k) n) i) m) (fun _ _=>rfl) (fun _ _=>rfl) (fun _ _ h=>by cases h; rfl) (fun _=>rfl),lp (dictumref03_Word.W1 k) k (fun r=>some (.inl r)) (fun y => .inr ()) (fun n i m=>congrFun (congrFun (congrFun (congrFun dictumref03_Word.e1 k) n) i) m) (fun _ _=>rfl) (fun _ _=>rfl) (fun _ _ h=>by cases h; rfl) (fun _=>rfl),trivial⟩ fun y=>congrFun (congrFun dictumref03_Word.e k) y
noncomputable def formula_Word.S (k:Nat) : FS Gg:=⟨112,⟨[(0,false,[.s .str])],[]⟩,Bool,fun y=>formula_Word.f k y.1,fun r=>⟨false,⟨[(0,false,[.s .bool])],[]⟩,(r,())⟩,fun _ r k=>k false ⟨[(0,false,[.s .bool])],[]⟩ (r,()),fun _ _ _=>rfl,[],true⟩
noncomputable def formula_Word.l1b (k:Nat) (a0:List UInt8) (y101:Int) : Nat→Int→Option (Sum (Bool) (Unit))
 | 0,_=>none
 | kk+1,x103 =>
  (bif (decide (x103 < y101)) then
  (ix a0 x103).bind fun x112 =>
  ((bif (decide ((97:UInt8)≤(x112 ||| (32:UInt8)))) then
  some (decide ((x112 ||| (32:UInt8))≤(122:UInt8)))
  else
  some false) : Option (Bool)).bind fun z114 =>
  ((bif (!z114) then
  (bif (x103 == 0) then
  some true
  else
  (bif (!(x112 == (95:UInt8))) then
  (bif (!(x112 == (39:UInt8))) then
  (bif (decide (x112 < (48:UInt8))) then
  some true
  else
  some (decide ((57:UInt8) < x112)))
  else
  some false)
  else
  some false))
  else
  some false) : Option (Bool)).bind fun z120 =>
  (bif z120 then
  some (.inl false)
  else
  formula_Word.l1b k a0 y101 kk (wrap64 (x103+1)))
  else
  some (.inr ()))
theorem formula_Word.l1_eq (k:Nat) (a0:List UInt8) (n:Nat) : formula_Word.l1 k a0 n=formula_Word.l1b k a0 (a0.length:Int) n:=by
 induction n with
 | zero=>rfl
 | succ n ih=>funext v0_; simp only [formula_Word.l1,formula_Word.l1b,ih,SX.both_self,SX.nilK_eq] <;> rfl
noncomputable def formula_Word.fb (k:Nat) (a0:List UInt8) : Option (Bool):=
 (formula_Word.l1b k a0 (a0.length:Int) k 0).bind fun z104=>match z104 with
 | .inl r_=>some r_
 | .inr _ =>
 (bif (!(a0 == ([] : List UInt8))) then
 (bif (decide ((a0.length:Int)≤31)) then
 (formula_reserved.f a0).bind fun z139 =>
 some (!z139)
 else
 some false)
 else
 some false)
theorem formula_Word.f_eq (k:Nat) (a0:List UInt8) : formula_Word.f k a0=formula_Word.fb k a0:=by
 unfold formula_Word.f formula_Word.fb
 first | rfl | (simp only [formula_Word.l1_eq,SX.both_self,SX.nilK_eq] <;> rfl)
noncomputable def formula_Word.Sb (k:Nat) : FS Gg:={ formula_Word.S k with D:=fun y=>formula_Word.fb k y.1 }
noncomputable def formula_Word.W0 (k:Nat) (n:Nat) (i:HL Gg.α (Pat.sh ⟨[(0,false,[.s .str]),(8,false,[.s (.int .i64)])],[]⟩)) (m:HL Gg.α (Pat.sh ⟨[(9,false,[.s (.int .i64)])],[]⟩)) : Option (Sum (Bool) (Unit)):=formula_Word.l1b k i.1 i.2.1 n m.1
noncomputable def formula_Word.L0 (k:Nat) : LH Gg (Bool):={ I:=⟨[(0,false,[.s .str]),(8,false,[.s (.int .i64)])],[]⟩,M:=⟨[(9,false,[.s (.int .i64)])],[]⟩,X:=Sum (Bool) (Unit),L:=formula_Word.W0 k k,E:=⟨[],[]⟩,out:=fun z=>match z with | .inl r => .inl r | .inr e => .inr (),el:=fun _ z a b=>match z with | .inl r=>a r | .inr e=>b (),law:=fun _ z _ _=>by cases z <;> rfl }
noncomputable def formula_Word.A (k:Nat) : Ax (formula_Word.Sb k):=⟨Tryz.f112,[⟨false,⟨[(0,false,[.s .bool])],[]⟩,fun y=>y.1⟩],[formula_reserved.S k],[(6759,⟨Bool,⟨[(6,false,[.s .bool])],[]⟩,fun y=>y.1,fun r=>(r,()),fun _=>rfl,false⟩),(13519,⟨Bool,⟨[(44,false,[.s .bool])],[]⟩,fun y=>y.1,fun r=>(r,()),fun _=>rfl,false⟩)],[(13,formula_Word.L0 k)],[],[],[]⟩
theorem formula_Word.e0:(fun k n i m=>roundA false ((formula_Word.A k).cx Tryz.prog) (formula_Word.L0 k).X 13 (formula_Word.L0 k).I (formula_Word.L0 k).M (formula_Word.L0 k).E (fun r=>some (.inl r)) (fun _ y=>some (.inr ())) (fun _=>formula_Word.W0 k n i) i m)=(fun k n i m=>formula_Word.W0 k (n+1) i m):=by kernel_rfl
theorem formula_Word.e:(fun k y=>bodyA ((formula_Word.A k).cx Tryz.prog) (formula_Word.Sb k).pin y)=(fun k y=>(formula_Word.Sb k).D y):=by kernel_rfl
theorem formula_Word.okb (k:Nat) : (formula_Word.Sb k).OK Tryz.prog GG:=aA (formula_Word.A k) Gok mixed rfl (by kernel_rfl) ⟨fun _=>rfl,trivial⟩ ⟨formula_reserved.ok k,trivial⟩ ⟨lp (formula_Word.W0 k) k (fun r=>some (.inl r)) (fun y => .inr ()) (fun n i m=>congrFun (congrFun (congrFun (congrFun formula_Word.e0 k) n) i) m) (fun _ _=>rfl) (fun _ _=>rfl) (fun _ _ h=>by cases h; rfl) (fun _=>rfl),trivial⟩ fun y=>congrFun (congrFun formula_Word.e k) y
theorem formula_Word.ok (k:Nat) : (formula_Word.S k).OK Tryz.prog GG:=FS.OK.same (s:=formula_Word.S k) (D':=fun y=>formula_Word.fb k y.1) (formula_Word.okb k) fun y=>(formula_Word.f_eq k y.1).symm
noncomputable def formula_Table_Copy.S (k:Nat) : FS Gg:=⟨48,⟨[(0,false,[.pt 2 0])],[(2,.blk 56 [.ow 3,.mp 4]),(3,.own 60),(4,.mp 60 3)]⟩,(T_formula_Table×(List (T_api_Node×Int))),fun y=>formula_Table_Copy.f k (⟨y.1⟩) y.2.1,fun r=>⟨false,⟨[(0,false,[.pt 39 0])],[(39,.blk 56 [.ow 38,.mp 37]),(38,.own 60),(37,.mp 60 3)]⟩,(r.1.f_rows,r.2,())⟩,fun _ r k=>k false ⟨[(0,false,[.pt 39 0])],[(39,.blk 56 [.ow 38,.mp 37]),(38,.own 60),(37,.mp 60 3)]⟩ (r.1.f_rows,r.2,()),fun _ _ _=>rfl,[],true⟩
noncomputable def formula_Table_Copy.l1b (k:Nat) (a0:T_formula_Table) (y120:Int) : Nat→Int→T_formula_Table→(List (T_api_Node×Int))→Option (T_formula_Table×(List (T_api_Node×Int)))
 | 0,_,_,_=>none
 | kk+1,x122,x123,x126 =>
  (bif (decide (x122 < y120)) then
  (ix a0.f_rows x122).bind fun x139 =>
  ((chk (decide ((x123.f_rows.length+[x139].length) * 40≤140737488355328))).bind fun _ =>
  some (⟨(x123.f_rows++[x139])⟩ : T_formula_Table) : Option (T_formula_Table)).bind fun z163 =>
  formula_Table_Copy.l1b k a0 y120 kk (wrap64 (x122+1)) z163 (mput T_api_Node.eqb x126 x139 x122)
  else
  some (x123,x126))
theorem formula_Table_Copy.l1_eq (k:Nat) (a0:T_formula_Table) (n:Nat) : formula_Table_Copy.l1 k a0 n=formula_Table_Copy.l1b k a0 (a0.f_rows.length:Int) n:=by
 induction n with
 | zero=>rfl
 | succ n ih=>funext v0_ v1_ v2_; simp only [formula_Table_Copy.l1,formula_Table_Copy.l1b,ih,SX.both_self,SX.nilK_eq] <;> rfl
noncomputable def formula_Table_Copy.fb (k:Nat) (a0:T_formula_Table) (a0_1:(List (T_api_Node×Int))) : Option ((T_formula_Table×(List (T_api_Node×Int)))):=
 (formula_Table_alive.f a0 a0_1).bind fun z101 =>
 (formula_New.f ).bind fun z105 =>
 (formula_Table_Copy.l1b k a0 (a0.f_rows.length:Int) k 0 z105.1 z105.2).bind fun (x127,x130) =>
 some (x127,x130)
theorem formula_Table_Copy.f_eq (k:Nat) (a0:T_formula_Table) (a0_1:(List (T_api_Node×Int))) : formula_Table_Copy.f k a0 a0_1=formula_Table_Copy.fb k a0 a0_1:=by
 unfold formula_Table_Copy.f formula_Table_Copy.fb
 first | rfl | (simp only [formula_Table_Copy.l1_eq,SX.both_self,SX.nilK_eq] <;> rfl)
noncomputable def formula_Table_Copy.Sb (k:Nat) : FS Gg:={ formula_Table_Copy.S k with D:=fun y=>formula_Table_Copy.fb k (⟨y.1⟩) y.2.1 }
noncomputable def formula_Table_Copy.W0 (k:Nat) (n:Nat) (i:HL Gg.α (Pat.sh ⟨[(3,false,[.pt 280 0]),(13,false,[.ow 3]),(14,false,[.s (.int .i64)])],[(2,.blk 56 [.ow 3,.mp 4]),(3,.own 60),(4,.mp 60 3)]⟩)) (m:HL Gg.α (Pat.sh ⟨[(15,false,[.s (.int .i64)])],[(280,.blk 56 [.ow 281,.mp 282]),(282,.mp 60 3),(281,.own 60)]⟩)) : Option (T_formula_Table×(List (T_api_Node×Int))):=formula_Table_Copy.l1b k (⟨i.2.1⟩) i.1 n m.1 (⟨m.2.2.1⟩) m.2.1
noncomputable def formula_Table_Copy.L0 (k:Nat) : LH Gg ((T_formula_Table×(List (T_api_Node×Int)))):={ I:=⟨[(3,false,[.pt 280 0]),(13,false,[.ow 3]),(14,false,[.s (.int .i64)])],[(2,.blk 56 [.ow 3,.mp 4]),(3,.own 60),(4,.mp 60 3)]⟩,M:=⟨[(15,false,[.s (.int .i64)])],[(280,.blk 56 [.ow 281,.mp 282]),(282,.mp 60 3),(281,.own 60)]⟩,X:=T_formula_Table×(List (T_api_Node×Int)),L:=formula_Table_Copy.W0 k k,E:=⟨[],[(280,.blk 56 [.ow 281,.mp 282]),(282,.mp 60 3),(281,.own 60)]⟩,out:=fun e => .inr (e.2,e.1.f_rows,()),el:=fun _ e _ b=>b (e.2,e.1.f_rows,()),law:=fun _ _ _ _=>rfl }
noncomputable def formula_Table_Copy.A (k:Nat) : Ax (formula_Table_Copy.Sb k):=⟨Tryz.f48,[⟨false,⟨[(0,false,[.pt 39 0])],[(39,.blk 56 [.ow 38,.mp 37]),(38,.own 60),(37,.mp 60 3)]⟩,fun y=>(⟨y.1⟩,y.2.1)⟩],[formula_New.S k,formula_Table_alive.S k],[(7833,⟨T_formula_Table,⟨[],[(280,.blk 56 [.ow 281,.mp 282]),(281,.own 60)]⟩,fun y=>⟨y.1⟩,fun r=>(r.f_rows,()),fun _=>rfl,false⟩)],[(61,formula_Table_Copy.L0 k)],[(15666,[281])],[],[]⟩
theorem formula_Table_Copy.e0:(fun k n i m=>roundA false ((formula_Table_Copy.A k).cx Tryz.prog) (formula_Table_Copy.L0 k).X 61 (formula_Table_Copy.L0 k).I (formula_Table_Copy.L0 k).M (formula_Table_Copy.L0 k).E (fun _=>none) (fun _ y=>some ((⟨y.2.1⟩,y.1))) (fun _=>formula_Table_Copy.W0 k n i) i m)=(fun k n i m=>formula_Table_Copy.W0 k (n+1) i m):=by kernel_rfl
theorem formula_Table_Copy.e:(fun k y=>bodyA ((formula_Table_Copy.A k).cx Tryz.prog) (formula_Table_Copy.Sb k).pin y)=(fun k y=>(formula_Table_Copy.Sb k).D y):=by kernel_rfl
theorem formula_Table_Copy.okb (k:Nat) : (formula_Table_Copy.Sb k).OK Tryz.prog GG:=aA (formula_Table_Copy.A k) Gok mixed rfl (by kernel_rfl) ⟨fun _=>rfl,trivial⟩ ⟨formula_New.ok k,formula_Table_alive.ok k,trivial⟩ ⟨lp (formula_Table_Copy.W0 k) k (fun _=>none) (fun y=>(⟨y.2.1⟩,y.1)) (fun n i m=>congrFun (congrFun (congrFun (congrFun formula_Table_Copy.e0 k) n) i) m) (fun _ _=>rfl) (fun _ _=>rfl) (fun _ _ h=>by cases h) (fun _=>rfl),trivial⟩ fun y=>congrFun (congrFun formula_Table_Copy.e k) y
theorem formula_Table_Copy.ok (k:Nat) : (formula_Table_Copy.S k).OK Tryz.prog GG:=FS.OK.same (s:=formula_Table_Copy.S k) (D':=fun y=>formula_Table_Copy.fb k (⟨y.1⟩) y.2.1) (formula_Table_Copy.okb k) fun y=>(formula_Table_Copy.f_eq k (⟨y.1⟩) y.2.1).symm
noncomputable def token_cursor_skip.S (k:Nat) : FS Gg:=⟨78,⟨[(0,false,[.pt 2 0]),(1,false,[.s (.int .i64)])],[(2,.blk 128 [.s .str,.s (.int .i64),.s (.int .i64),.s (.int .i64)])]⟩,T_token_cursor,fun y=>token_cursor_skip.f k (⟨y.2.1,⟨y.2.2.1,y.2.2.2.1,y.2.2.2.2.1⟩⟩) y.1,fun r=>⟨false,⟨[],[(2,.blk 128 [.s .str,.s (.int .i64),.s (.int .i64),.s (.int .i64)])]⟩,(r.f_s,r.f_at.f_Line,r.f_at.f_Col,r.f_at.f_Off,())⟩,fun _ r k=>k false ⟨[],[(2,.blk 128 [.s .str,.s (.int .i64),.s (.int .i64),.s (.int .i64)])]⟩ (r.f_s,r.f_at.f_Line,r.f_at.f_Col,r.f_at.f_Off,()),fun _ _ _=>rfl,[2],true⟩
noncomputable def token_cursor_skip.l1b (k:Nat) (y101:Int) : Nat→T_token_cursor→Option (T_token_cursor)
 | 0,_=>none
 | kk+1,x102 =>
  (bif (decide (x102.f_at.f_Off < y101)) then
  (token_cursor_here.f x102).bind fun z112 =>
  (utf8_DecodeRuneInString.f z112).bind fun z116 =>
  ((ix x102.f_s x102.f_at.f_Off).bind fun x135 =>
  (bif (x135 == (10:UInt8)) then
  some (⟨x102.f_s,(⟨wrap64 (x102.f_at.f_Line+1),0,x102.f_at.f_Off⟩ : T_api_Spot)⟩ : T_token_cursor)
  else
  some x102) : Option (T_token_cursor)).bind fun z121 =>
  token_cursor_skip.l1b k y101 kk (⟨z121.f_s,(⟨z121.f_at.f_Line,wrap64 (z121.f_at.f_Col+1),wrap64 (z121.f_at.f_Off+z116.2)⟩ : T_api_Spot)⟩ : T_token_cursor)
  else
  some x102)
theorem token_cursor_skip.l1_eq (k:Nat) (a0:T_token_cursor) (a1:Int) (n:Nat) : token_cursor_skip.l1 k a0 a1 n=token_cursor_skip.l1b k (wrap64 (a0.f_at.f_Off+a1)) n:=by
 induction n with
 | zero=>rfl
 | succ n ih=>funext v0_; simp only [token_cursor_skip.l1,token_cursor_skip.l1b,ih,SX.both_self,SX.nilK_eq] <;> rfl
noncomputable def token_cursor_skip.fb (k:Nat) (a0:T_token_cursor) (a1:Int) : Option (T_token_cursor):=
 (token_cursor_skip.l1b k (wrap64 (a0.f_at.f_Off+a1)) k a0).bind fun z104 =>
 some z104
theorem token_cursor_skip.f_eq (k:Nat) (a0:T_token_cursor) (a1:Int) : token_cursor_skip.f k a0 a1=token_cursor_skip.fb k a0 a1:=by
 unfold token_cursor_skip.f token_cursor_skip.fb
 first | rfl | (simp only [token_cursor_skip.l1_eq,SX.both_self,SX.nilK_eq] <;> rfl)
noncomputable def token_cursor_skip.Sb (k:Nat) : FS Gg:={ token_cursor_skip.S k with D:=fun y=>token_cursor_skip.fb k (⟨y.2.1,⟨y.2.2.1,y.2.2.2.1,y.2.2.2.2.1⟩⟩) y.1 }
noncomputable def token_cursor_skip.W0 (k:Nat) (n:Nat) (i:HL Gg.α (Pat.sh ⟨[(0,false,[.pt 2 0]),(4,false,[.s (.int .i64)])],[]⟩)) (m:HL Gg.α (Pat.sh ⟨[],[(2,.blk 128 [.s .str,.s (.int .i64),.s (.int .i64),.s (.int .i64)])]⟩)) : Option (T_token_cursor):=token_cursor_skip.l1b k i.1 n (⟨m.1,⟨m.2.1,m.2.2.1,m.2.2.2.1⟩⟩)
noncomputable def token_cursor_skip.L0 (k:Nat) : LH Gg (T_token_cursor):={ I:=⟨[(0,false,[.pt 2 0]),(4,false,[.s (.int .i64)])],[]⟩,M:=⟨[],[(2,.blk 128 [.s .str,.s (.int .i64),.s (.int .i64),.s (.int .i64)])]⟩,X:=T_token_cursor,L:=token_cursor_skip.W0 k k,E:=⟨[],[(2,.blk 128 [.s .str,.s (.int .i64),.s (.int .i64),.s (.int .i64)])]⟩,out:=fun e => .inr (e.f_s,e.f_at.f_Line,e.f_at.f_Col,e.f_at.f_Off,()),el:=fun _ e _ b=>b (e.f_s,e.f_at.f_Line,e.f_at.f_Col,e.f_at.f_Off,()),law:=fun _ _ _ _=>rfl }
noncomputable def token_cursor_skip.A (k:Nat) : Ax (token_cursor_skip.Sb k):=⟨Tryz.f78,[⟨false,⟨[],[(2,.blk 128 [.s .str,.s (.int .i64),.s (.int .i64),.s (.int .i64)])]⟩,fun y=>⟨y.1,⟨y.2.1,y.2.2.1,y.2.2.2.1⟩⟩⟩],[token_cursor_here.S k,utf8_DecodeRuneInString.S k],[(101,⟨T_token_cursor,⟨[],[(2,.blk 128 [.s .str,.s (.int .i64),.s (.int .i64),.s (.int .i64)])]⟩,fun y=>⟨y.1,⟨y.2.1,y.2.2.1,y.2.2.2.1⟩⟩,fun r=>(r.f_s,r.f_at.f_Line,r.f_at.f_Col,r.f_at.f_Off,()),fun _=>rfl,false⟩)],[(3,token_cursor_skip.L0 k)],[],[],[]⟩
theorem token_cursor_skip.e0:(fun k n i m=>roundA false ((token_cursor_skip.A k).cx Tryz.prog) (token_cursor_skip.L0 k).X 3 (token_cursor_skip.L0 k).I (token_cursor_skip.L0 k).M (token_cursor_skip.L0 k).E (fun _=>none) (fun _ y=>some ((⟨y.1,⟨y.2.1,y.2.2.1,y.2.2.2.1⟩⟩))) (fun _=>token_cursor_skip.W0 k n i) i m)=(fun k n i m=>token_cursor_skip.W0 k (n+1) i m):=by kernel_rfl
theorem token_cursor_skip.e:(fun k y=>bodyA ((token_cursor_skip.A k).cx Tryz.prog) (token_cursor_skip.Sb k).pin y)=(fun k y=>(token_cursor_skip.Sb k).D y):=by kernel_rfl
theorem token_cursor_skip.okb (k:Nat) : (token_cursor_skip.Sb k).OK Tryz.prog GG:=aA (token_cursor_skip.A k) Gok mixed rfl (by kernel_rfl) ⟨fun _=>rfl,trivial⟩ ⟨token_cursor_here.ok k,utf8_DecodeRuneInString.ok k,trivial⟩ ⟨lp (token_cursor_skip.W0 k) k (fun _=>none) (fun y=>(⟨y.1,⟨y.2.1,y.2.2.1,y.2.2.2.1⟩⟩)) (fun n i m=>congrFun (congrFun (congrFun (congrFun token_cursor_skip.e0 k) n) i) m) (fun _ _=>rfl) (fun _ _=>rfl) (fun _ _ h=>by cases h) (fun _=>rfl),trivial⟩ fun y=>congrFun (congrFun token_cursor_skip.e k) y
theorem token_cursor_skip.ok (k:Nat) : (token_cursor_skip.S k).OK Tryz.prog GG:=FS.OK.same (s:=token_cursor_skip.S k) (D':=fun y=>token_cursor_skip.fb k (⟨y.2.1,⟨y.2.2.1,y.2.2.2.1,y.2.2.2.2.1⟩⟩) y.1) (token_cursor_skip.okb k) fun y=>(token_cursor_skip.f_eq k (⟨y.2.1,⟨y.2.2.1,y.2.2.2.1,y.2.2.2.2.1⟩⟩) y.1).symm
noncomputable def token_tail.S (k:Nat) : FS Gg:=⟨95,⟨[(0,false,[.s .u8])],[]⟩,Bool,fun y=>token_tail.f y.1,fun r=>⟨false,⟨[(0,false,[.s .bool])],[]⟩,(r,())⟩,fun _ r k=>k false ⟨[(0,false,[.s .bool])],[]⟩ (r,()),fun _ _ _=>rfl,[],true⟩
noncomputable def token_tail.A (k:Nat) : Ax (token_tail.S k):=⟨Tryz.f95,[⟨false,⟨[(0,false,[.s .bool])],[]⟩,fun y=>y.1⟩],[token_letter.S k,token_digit.S k],[],[],[],[],[]⟩
theorem token_tail.e:(fun k y=>bodyA ((token_tail.A k).cx Tryz.prog) (token_tail.S k).pin y)=(fun k y=>(token_tail.S k).D y):=by kernel_rfl
theorem token_tail.ok (k:Nat) : (token_tail.S k).OK Tryz.prog GG:=aA (token_tail.A k) Gok mixed rfl (by kernel_rfl) ⟨fun _=>rfl,trivial⟩ ⟨token_letter.ok k,token_digit.ok k,trivial⟩ trivial fun y=>congrFun (congrFun token_tail.e k) y
noncomputable def token_run_token_digit.S (k:Nat) : FS Gg:=⟨94,⟨[(0,false,[.s .str]),(1,false,[.fn 96])],[]⟩,Int,fun y=>token_run_token_digit.f k y.1,fun r=>⟨false,⟨[(0,false,[.s (.int .i64)])],[]⟩,(r,())⟩,fun _ r k=>k false ⟨[(0,false,[.s (.int .i64)])],[]⟩ (r,()),fun _ _ _=>rfl,[],true⟩
noncomputable def token_run_token_digit.W0 (k:Nat) (n:Nat) (i:HL Gg.α (Pat.sh ⟨[(0,false,[.s .str]),(1,false,[.fn 96])],[]⟩)) (m:HL Gg.α (Pat.sh ⟨[(5,false,[.s (.int .i64)])],[]⟩)) : Option (Int):=token_run_token_digit.l1 k i.1 n m.1
noncomputable def token_run_token_digit.L0 (k:Nat) : LH Gg (Int):={ I:=⟨[(0,false,[.s .str]),(1,false,[.fn 96])],[]⟩,M:=⟨[(5,false,[.s (.int .i64)])],[]⟩,X:=Int,L:=token_run_token_digit.W0 k k,E:=⟨[(5,false,[.s (.int .i64)])],[]⟩,out:=fun e => .inr (e,()),el:=fun _ e _ b=>b (e,()),law:=fun _ _ _ _=>rfl }
noncomputable def token_run_token_digit.A (k:Nat) : Ax (token_run_token_digit.S k):=⟨Tryz.f94,[⟨false,⟨[(0,false,[.s (.int .i64)])],[]⟩,fun y=>y.1⟩],[token_digit.S k],[(112,⟨Bool,⟨[(16,false,[.s .bool])],[]⟩,fun y=>y.1,fun r=>(r,()),fun _=>rfl,false⟩)],[(14,token_run_token_digit.L0 k)],[],[],[]⟩
theorem token_run_token_digit.e0:(fun k n i m=>roundA false ((token_run_token_digit.A k).cx Tryz.prog) (token_run_token_digit.L0 k).X 14 (token_run_token_digit.L0 k).I (token_run_token_digit.L0 k).M (token_run_token_digit.L0 k).E (fun _=>none) (fun _ y=>some (y.1)) (fun _=>token_run_token_digit.W0 k n i) i m)=(fun k n i m=>token_run_token_digit.W0 k (n+1) i m):=by kernel_rfl
theorem token_run_token_digit.e:(fun k y=>bodyA ((token_run_token_digit.A k).cx Tryz.prog) (token_run_token_digit.S k).pin y)=(fun k y=>(token_run_token_digit.S k).D y):=by kernel_rfl
theorem token_run_token_digit.ok (k:Nat) : (token_run_token_digit.S k).OK Tryz.prog GG:=aA (token_run_token_digit.A k) Gok mixed rfl (by kernel_rfl) ⟨fun _=>rfl,trivial⟩ ⟨token_digit.ok k,trivial⟩ ⟨lp (token_run_token_digit.W0 k) k (fun _=>none) (fun y=>y.1) (fun n i m=>congrFun (congrFun (congrFun (congrFun token_run_token_digit.e0 k) n) i) m) (fun _ _=>rfl) (fun _ _=>rfl) (fun _ _ h=>by cases h) (fun _=>rfl),trivial⟩ fun y=>congrFun (congrFun token_run_token_digit.e k) y
noncomputable def strings_HasPrefix.S (k:Nat) : FS Gg:=⟨117,⟨[(0,false,[.s .str]),(1,false,[.s .str])],[]⟩,Bool,fun y=>strings_HasPrefix.f y.1 y.2.1,fun r=>⟨false,⟨[(0,false,[.s .bool])],[]⟩,(r,())⟩,fun _ r k=>k false ⟨[(0,false,[.s .bool])],[]⟩ (r,()),fun _ _ _=>rfl,[],true⟩
noncomputable def strings_HasPrefix.A (k:Nat) : Ax (strings_HasPrefix.S k):=⟨Tryz.f117,[⟨false,⟨[(0,false,[.s .bool])],[]⟩,fun y=>y.1⟩],[stringslite_HasPrefix.S k],[],[],[],[],[]⟩
theorem strings_HasPrefix.e:(fun k y=>bodyA ((strings_HasPrefix.A k).cx Tryz.prog) (strings_HasPrefix.S k).pin y)=(fun k y=>(strings_HasPrefix.S k).D y):=by kernel_rfl
theorem strings_HasPrefix.ok (k:Nat) : (strings_HasPrefix.S k).OK Tryz.prog GG:=aA (strings_HasPrefix.A k) Gok mixed rfl (by kernel_rfl) ⟨fun _=>rfl,trivial⟩ ⟨stringslite_HasPrefix.ok k,trivial⟩ trivial fun y=>congrFun (congrFun strings_HasPrefix.e k) y
noncomputable def formula_Table_Len.S (k:Nat) : FS Gg:=⟨8,⟨[(0,false,[.pt 2 0])],[(2,.blk 56 [.ow 3,.mp 4]),(3,.own 60),(4,.mp 60 3)]⟩,Int,fun y=>formula_Table_Len.f (⟨y.1⟩) y.2.1,fun r=>⟨false,⟨[(0,false,[.s (.int .i64)])],[]⟩,(r,())⟩,fun _ r k=>k false ⟨[(0,false,[.s (.int .i64)])],[]⟩ (r,()),fun _ _ _=>rfl,[],true⟩
noncomputable def formula_Table_Len.A (k:Nat) : Ax (formula_Table_Len.S k):=⟨Tryz.f8,[⟨false,⟨[(0,false,[.s (.int .i64)])],[]⟩,fun y=>y.1⟩],[formula_Table_alive.S k],[],[],[],[],[]⟩
theorem formula_Table_Len.e:(fun k y=>bodyA ((formula_Table_Len.A k).cx Tryz.prog) (formula_Table_Len.S k).pin y)=(fun k y=>(formula_Table_Len.S k).D y):=by kernel_rfl
theorem formula_Table_Len.ok (k:Nat) : (formula_Table_Len.S k).OK Tryz.prog GG:=aA (formula_Table_Len.A k) Gok mixed rfl (by kernel_rfl) ⟨fun _=>rfl,trivial⟩ ⟨formula_Table_alive.ok k,trivial⟩ trivial fun y=>congrFun (congrFun formula_Table_Len.e k) y
noncomputable def syntax_reader_fail.S (k:Nat) : FS Gg:=⟨34,⟨[(0,false,[.pt 2 0]),(1,false,[.s (.int .i64)])],[(2,.blk 80 [.pt 3 0,.s (.row 76),.s (.int .i64),.s (.int .i64),.s (.int .i64),.s .bool,.s .bool]),(3,.blk 56 [.ow 4,.mp 5]),(4,.own 60),(5,.mp 60 3)]⟩,Exn (T_syntax_broken) (Unit),fun y=>syntax_reader_fail.f (⟨y.2.1,y.2.2.1,y.2.2.2.1,y.2.2.2.2.1,y.2.2.2.2.2.1,y.2.2.2.2.2.2.1⟩) y.1 (⟨y.2.2.2.2.2.2.2.1⟩) y.2.2.2.2.2.2.2.2.1,fun r=>match r with | .ex r=>⟨true,⟨[(111,true,[.s (.st 111)])],[]⟩,(r,())⟩ | .ok r=>⟨false,⟨[],[]⟩,()⟩,fun _ r k=>match r with | .ex r=>k true ⟨[(111,true,[.s (.st 111)])],[]⟩ (r,()) | .ok r=>k false ⟨[],[]⟩ (),fun _ r _=>by cases r <;> rfl,[],true⟩
noncomputable def syntax_reader_fail.A (k:Nat) : Ax (syntax_reader_fail.S k):=⟨Tryz.f34,[⟨true,⟨[(111,true,[.s (.st 111)])],[]⟩,fun y => .ex y.1⟩,⟨false,⟨[],[]⟩,fun y => .ok ()⟩],[syntax_reader_now.S k],[],[],[],[],[]⟩
theorem syntax_reader_fail.e:(fun k y=>bodyA ((syntax_reader_fail.A k).cx Tryz.prog) (syntax_reader_fail.S k).pin y)=(fun k y=>(syntax_reader_fail.S k).D y):=by kernel_rfl
theorem syntax_reader_fail.ok (k:Nat) : (syntax_reader_fail.S k).OK Tryz.prog GG:=aA (syntax_reader_fail.A k) Gok mixed rfl (by kernel_rfl) ⟨fun _=>rfl,fun _=>rfl,trivial⟩ ⟨syntax_reader_now.ok k,trivial⟩ trivial fun y=>congrFun (congrFun syntax_reader_fail.e k) y
noncomputable def formula_Table_Cut.S (k:Nat) : FS Gg:=⟨56,⟨[(0,false,[.pt 2 0]),(1,false,[.s (.int .i64)])],[(2,.blk 56 [.ow 3,.mp 4]),(3,.own 60),(4,.mp 60 3)]⟩,Int×T_formula_Table×(List (T_api_Node×Int)),fun y=>formula_Table_Cut.f k (⟨y.2.1⟩) y.1 y.2.2.1,fun r=>⟨false,⟨[(0,false,[.s (.int .i64)])],[(2,.blk 56 [.ow 3,.mp 4]),(3,.own 60),(4,.mp 60 3)]⟩,(r.1,r.2.1.f_rows,r.2.2,())⟩,fun _ r k=>k false ⟨[(0,false,[.s (.int .i64)])],[(2,.blk 56 [.ow 3,.mp 4]),(3,.own 60),(4,.mp 60 3)]⟩ (r.1,r.2.1.f_rows,r.2.2,()),fun _ _ _=>rfl,[2,3,4],true⟩
noncomputable def formula_Table_Cut.l1b (k:Nat) (y117:(List T_api_Node)) (y124:Int) : Nat→Int→(List (T_api_Node×Int))→Option ((List (T_api_Node×Int)))
 | 0,_,_=>none
 | kk+1,x126,x127 =>
  (bif (decide (x126 < y124)) then
  (ix y117 x126).bind fun x137 =>
  formula_Table_Cut.l1b k y117 y124 kk (wrap64 (x126+1)) (mdel T_api_Node.eqb x127 x137)
  else
  some x127)
theorem formula_Table_Cut.l1_eq (k:Nat) (y117:(List T_api_Node)) (n:Nat) : formula_Table_Cut.l1 k y117 n=formula_Table_Cut.l1b k y117 (y117.length:Int) n:=by
 induction n with
 | zero=>rfl
 | succ n ih=>funext v0_ v1_; simp only [formula_Table_Cut.l1,formula_Table_Cut.l1b,ih,SX.both_self,SX.nilK_eq] <;> rfl
noncomputable def formula_Table_Cut.fb (k:Nat) (a0:T_formula_Table) (a1:Int) (a0_1:(List (T_api_Node×Int))) : Option (Int×T_formula_Table×(List (T_api_Node×Int))):=
 (formula_Table_alive.f a0 a0_1).bind fun z101 =>
 ((bif (decide (a1 < 0)) then
 some true
 else
 some (decide (a1 > (a0.f_rows.length:Int)))) : Option (Bool)).bind fun z106 =>
 (bif z106 then
 some (2,a0,a0_1)
 else
 (cut a0.f_rows a1 (a0.f_rows.length:Int)).bind fun y117 =>
 (formula_Table_Cut.l1b k y117 (y117.length:Int) k 0 a0_1).bind fun z129 =>
 (cut a0.f_rows 0 a1).bind fun y163 =>
 some (0,(⟨y163⟩ : T_formula_Table),z129))
theorem formula_Table_Cut.f_eq (k:Nat) (a0:T_formula_Table) (a1:Int) (a0_1:(List (T_api_Node×Int))) : formula_Table_Cut.f k a0 a1 a0_1=formula_Table_Cut.fb k a0 a1 a0_1:=by
 unfold formula_Table_Cut.f formula_Table_Cut.fb
 first | rfl | (simp only [formula_Table_Cut.l1_eq,SX.both_self,SX.nilK_eq] <;> rfl)
noncomputable def formula_Table_Cut.Sb (k:Nat) : FS Gg:={ formula_Table_Cut.S k with D:=fun y=>formula_Table_Cut.fb k (⟨y.2.1⟩) y.1 y.2.2.1 }
noncomputable def formula_Table_Cut.W0 (k:Nat) (n:Nat) (i:HL Gg.α (Pat.sh ⟨[(0,false,[.pt 2 0]),(1,false,[.s (.int .i64)]),(28,false,[.bs 3 60]),(29,false,[.s (.int .i64)])],[(2,.blk 56 [.ow 3,.mp 4]),(3,.own 60)]⟩)) (m:HL Gg.α (Pat.sh ⟨[(30,false,[.s (.int .i64)])],[(4,.mp 60 3)]⟩)) : Option ((List (T_api_Node×Int))):=formula_Table_Cut.l1b k i.2.1 i.2.2.1 n m.1 m.2.1
noncomputable def formula_Table_Cut.L0 (k:Nat) : LH Gg (Int×T_formula_Table×(List (T_api_Node×Int))):={ I:=⟨[(0,false,[.pt 2 0]),(1,false,[.s (.int .i64)]),(28,false,[.bs 3 60]),(29,false,[.s (.int .i64)])],[(2,.blk 56 [.ow 3,.mp 4]),(3,.own 60)]⟩,M:=⟨[(30,false,[.s (.int .i64)])],[(4,.mp 60 3)]⟩,X:=(List (T_api_Node×Int)),L:=formula_Table_Cut.W0 k k,E:=⟨[],[(4,.mp 60 3)]⟩,out:=fun e => .inr (e,()),el:=fun _ e _ b=>b (e,()),law:=fun _ _ _ _=>rfl }
noncomputable def formula_Table_Cut.A (k:Nat) : Ax (formula_Table_Cut.Sb k):=⟨Tryz.f56,[⟨false,⟨[(0,false,[.s (.int .i64)])],[(2,.blk 56 [.ow 3,.mp 4]),(3,.own 60),(4,.mp 60 3)]⟩,fun y=>(y.1,⟨y.2.1⟩,y.2.2.1)⟩],[formula_Table_alive.S k],[(51,⟨Bool,⟨[(11,false,[.s .bool])],[]⟩,fun y=>y.1,fun r=>(r,()),fun _=>rfl,false⟩)],[(29,formula_Table_Cut.L0 k)],[(3737,[4])],[],[]⟩
theorem formula_Table_Cut.e0:(fun k n i m=>roundA false ((formula_Table_Cut.A k).cx Tryz.prog) (formula_Table_Cut.L0 k).X 29 (formula_Table_Cut.L0 k).I (formula_Table_Cut.L0 k).M (formula_Table_Cut.L0 k).E (fun _=>none) (fun _ y=>some (y.1)) (fun _=>formula_Table_Cut.W0 k n i) i m)=(fun k n i m=>formula_Table_Cut.W0 k (n+1) i m):=by kernel_rfl
theorem formula_Table_Cut.e:(fun k y=>bodyA ((formula_Table_Cut.A k).cx Tryz.prog) (formula_Table_Cut.Sb k).pin y)=(fun k y=>(formula_Table_Cut.Sb k).D y):=by kernel_rfl
theorem formula_Table_Cut.okb (k:Nat) : (formula_Table_Cut.Sb k).OK Tryz.prog GG:=aA (formula_Table_Cut.A k) Gok mixed rfl (by kernel_rfl) ⟨fun _=>rfl,trivial⟩ ⟨formula_Table_alive.ok k,trivial⟩ ⟨lp (formula_Table_Cut.W0 k) k (fun _=>none) (fun y=>y.1) (fun n i m=>congrFun (congrFun (congrFun (congrFun formula_Table_Cut.e0 k) n) i) m) (fun _ _=>rfl) (fun _ _=>rfl) (fun _ _ h=>by cases h) (fun _=>rfl),trivial⟩ fun y=>congrFun (congrFun formula_Table_Cut.e k) y
theorem formula_Table_Cut.ok (k:Nat) : (formula_Table_Cut.S k).OK Tryz.prog GG:=FS.OK.same (s:=formula_Table_Cut.S k) (D':=fun y=>formula_Table_Cut.fb k (⟨y.2.1⟩) y.1 y.2.2.1) (formula_Table_Cut.okb k) fun y=>(formula_Table_Cut.f_eq k (⟨y.2.1⟩) y.1 y.2.2.1).symm
noncomputable def dictumref02_size.S (k:Nat) : FS Gg:=⟨101,⟨[(0,false,[.s .str]),(1,false,[.s (.int .i64)])],[]⟩,Int,fun y=>dictumref02_size.f y.1 y.2.1,fun r=>⟨false,⟨[(0,false,[.s (.int .i64)])],[]⟩,(r,())⟩,fun _ r k=>k false ⟨[(0,false,[.s (.int .i64)])],[]⟩ (r,()),fun _ _ _=>rfl,[],true⟩
noncomputable def dictumref02_size.A (k:Nat) : Ax (dictumref02_size.S k):=⟨Tryz.f101,[⟨false,⟨[(0,false,[.s (.int .i64)])],[]⟩,fun y=>y.1⟩],[dictumref02_more.S k],[(28,⟨Bool,⟨[(9,false,[.s .bool])],[]⟩,fun y=>y.1,fun r=>(r,()),fun _=>rfl,false⟩),(115,⟨Bool,⟨[(22,false,[.s .bool])],[]⟩,fun y=>y.1,fun r=>(r,()),fun _=>rfl,false⟩),(463,⟨Bool,⟨[(37,false,[.s .bool])],[]⟩,fun y=>y.1,fun r=>(r,()),fun _=>rfl,false⟩),(1855,⟨Bool,⟨[(52,false,[.s .bool])],[]⟩,fun y=>y.1,fun r=>(r,()),fun _=>rfl,false⟩),(7423,⟨Bool,⟨[(75,false,[.s .bool])],[]⟩,fun y=>y.1,fun r=>(r,()),fun _=>rfl,false⟩),(29695,⟨Bool,⟨[(96,false,[.s .bool])],[]⟩,fun y=>y.1,fun r=>(r,()),fun _=>rfl,false⟩),(118783,⟨Bool,⟨[(121,false,[.s .bool])],[]⟩,fun y=>y.1,fun r=>(r,()),fun _=>rfl,false⟩)],[],[],[],[]⟩
theorem dictumref02_size.e:(fun k y=>bodyA ((dictumref02_size.A k).cx Tryz.prog) (dictumref02_size.S k).pin y)=(fun k y=>(dictumref02_size.S k).D y):=by kernel_rfl
theorem dictumref02_size.ok (k:Nat) : (dictumref02_size.S k).OK Tryz.prog GG:=aA (dictumref02_size.A k) Gok mixed rfl (by kernel_rfl) ⟨fun _=>rfl,trivial⟩ ⟨dictumref02_more.ok k,trivial⟩ trivial fun y=>congrFun (congrFun dictumref02_size.e k) y
noncomputable def dictumref02_within.S (k:Nat) : FS Gg:=⟨103,⟨[(0,false,[.s .u8])],[]⟩,Bool,fun y=>dictumref02_within.f y.1,fun r=>⟨false,⟨[(0,false,[.s .bool])],[]⟩,(r,())⟩,fun _ r k=>k false ⟨[(0,false,[.s .bool])],[]⟩ (r,()),fun _ _ _=>rfl,[],true⟩
noncomputable def dictumref02_within.A (k:Nat) : Ax (dictumref02_within.S k):=⟨Tryz.f103,[⟨false,⟨[(0,false,[.s .bool])],[]⟩,fun y=>y.1⟩],[dictumref02_letter.S k,dictumref02_digit.S k],[],[],[],[],[]⟩
theorem dictumref02_within.e:(fun k y=>bodyA ((dictumref02_within.A k).cx Tryz.prog) (dictumref02_within.S k).pin y)=(fun k y=>(dictumref02_within.S k).D y):=by kernel_rfl
theorem dictumref02_within.ok (k:Nat) : (dictumref02_within.S k).OK Tryz.prog GG:=aA (dictumref02_within.A k) Gok mixed rfl (by kernel_rfl) ⟨fun _=>rfl,trivial⟩ ⟨dictumref02_letter.ok k,dictumref02_digit.ok k,trivial⟩ trivial fun y=>congrFun (congrFun dictumref02_within.e k) y
noncomputable def dictumref04_counted.S (k:Nat) : FS Gg:=⟨37,⟨[(0,true,[.s (.st 76)])],[]⟩,Bool,fun y=>dictumref04_counted.f y.1,fun r=>⟨false,⟨[(0,false,[.s .bool])],[]⟩,(r,())⟩,fun _ r k=>k false ⟨[(0,false,[.s .bool])],[]⟩ (r,()),fun _ _ _=>rfl,[],true⟩
noncomputable def dictumref04_counted.A (k:Nat) : Ax (dictumref04_counted.S k):=⟨Tryz.f37,[⟨false,⟨[(0,false,[.s .bool])],[]⟩,fun y=>y.1⟩],[dictumref04_sign.S k],[],[],[],[],[]⟩
theorem dictumref04_counted.e:(fun k y=>bodyA ((dictumref04_counted.A k).cx Tryz.prog) (dictumref04_counted.S k).pin y)=(fun k y=>(dictumref04_counted.S k).D y):=by kernel_rfl
theorem dictumref04_counted.ok (k:Nat) : (dictumref04_counted.S k).OK Tryz.prog GG:=aA (dictumref04_counted.A k) Gok mixed rfl (by kernel_rfl) ⟨fun _=>rfl,trivial⟩ ⟨dictumref04_sign.ok k,trivial⟩ trivial fun y=>congrFun (congrFun dictumref04_counted.e k) y
noncomputable def dictumref04_parser_is.S (k:Nat) : FS Gg:=⟨64,⟨[(0,false,[.pt 2 0]),(1,false,[.s .str])],[(2,.blk 89 [.pt 3 0,.s (.row 76),.s (.int .i64),.s (.int .i64),.s (.int .i64),.s .bool,.s (.int .i64),.s (.int .i64),.s (.int .i64),.s (.int .i64)]),(3,.blk 53 [.ow 4]),(4,.own 60)]⟩,Bool,fun y=>dictumref04_parser_is.f (⟨y.2.1,y.2.2.1,y.2.2.2.1,y.2.2.2.2.1,y.2.2.2.2.2.1,⟨y.2.2.2.2.2.2.1,⟨y.2.2.2.2.2.2.2.1,y.2.2.2.2.2.2.2.2.1,y.2.2.2.2.2.2.2.2.2.1⟩⟩⟩) y.1 (⟨y.2.2.2.2.2.2.2.2.2.2.1⟩),fun r=>⟨false,⟨[(0,false,[.s .bool])],[]⟩,(r,())⟩,fun _ r k=>k false ⟨[(0,false,[.s .bool])],[]⟩ (r,()),fun _ _ _=>rfl,[],true⟩
noncomputable def dictumref04_parser_is.A (k:Nat) : Ax (dictumref04_parser_is.S k):=⟨Tryz.f64,[⟨false,⟨[(0,false,[.s .bool])],[]⟩,fun y=>y.1⟩],[dictumref04_parser_tok.S k,dictumref04_sign.S k],[],[],[],[],[]⟩
theorem dictumref04_parser_is.e:(fun k y=>bodyA ((dictumref04_parser_is.A k).cx Tryz.prog) (dictumref04_parser_is.S k).pin y)=(fun k y=>(dictumref04_parser_is.S k).D y):=by kernel_rfl
theorem dictumref04_parser_is.ok (k:Nat) : (dictumref04_parser_is.S k).OK Tryz.prog GG:=aA (dictumref04_parser_is.A k) Gok mixed rfl (by kernel_rfl) ⟨fun _=>rfl,trivial⟩ ⟨dictumref04_parser_tok.ok k,dictumref04_sign.ok k,trivial⟩ trivial fun y=>congrFun (congrFun dictumref04_parser_is.e k) y
noncomputable def dictumref04_parser_fail.S (k:Nat) : FS Gg:=⟨41,⟨[(0,false,[.pt 2 0]),(1,false,[.s (.int .i64)])],[(2,.blk 89 [.pt 3 0,.s (.row 76),.s (.int .i64),.s (.int .i64),.s (.int .i64),.s .bool,.s (.int .i64),.s (.int .i64),.s (.int .i64),.s (.int .i64)]),(3,.blk 53 [.ow 4]),(4,.own 60)]⟩,T_dictumref04_parser,fun y=>dictumref04_parser_fail.f (⟨y.2.1,y.2.2.1,y.2.2.2.1,y.2.2.2.2.1,y.2.2.2.2.2.1,⟨y.2.2.2.2.2.2.1,⟨y.2.2.2.2.2.2.2.1,y.2.2.2.2.2.2.2.2.1,y.2.2.2.2.2.2.2.2.2.1⟩⟩⟩) y.1 (⟨y.2.2.2.2.2.2.2.2.2.2.1⟩),fun r=>⟨false,⟨[],[(2,.blk 89 [.pt 3 0,.s (.row 76),.s (.int .i64),.s (.int .i64),.s (.int .i64),.s .bool,.s (.int .i64),.s (.int .i64),.s (.int .i64),.s (.int .i64)])]⟩,(r.f_l,r.f_i,r.f_n,r.f_deep,r.f_full,r.f_bad.f_Code,r.f_bad.f_At.f_Line,r.f_bad.f_At.f_Col,r.f_bad.f_At.f_Off,())⟩,fun _ r k=>k false ⟨[],[(2,.blk 89 [.pt 3 0,.s (.row 76),.s (.int .i64),.s (.int .i64),.s (.int .i64),.s .bool,.s (.int .i64),.s (.int .i64),.s (.int .i64),.s (.int .i64)])]⟩ (r.f_l,r.f_i,r.f_n,r.f_deep,r.f_full,r.f_bad.f_Code,r.f_bad.f_At.f_Line,r.f_bad.f_At.f_Col,r.f_bad.f_At.f_Off,()),fun _ _ _=>rfl,[2],false⟩
noncomputable def dictumref04_parser_fail.A (k:Nat) : Ax (dictumref04_parser_fail.S k):=⟨Tryz.f41,[⟨false,⟨[],[(2,.blk 89 [.pt 3 0,.s (.row 76),.s (.int .i64),.s (.int .i64),.s (.int .i64),.s .bool,.s (.int .i64),.s (.int .i64),.s (.int .i64),.s (.int .i64)])]⟩,fun y=>⟨y.1,y.2.1,y.2.2.1,y.2.2.2.1,y.2.2.2.2.1,⟨y.2.2.2.2.2.1,⟨y.2.2.2.2.2.2.1,y.2.2.2.2.2.2.2.1,y.2.2.2.2.2.2.2.2.1⟩⟩⟩⟩],[dictumref04_parser_tok.S k],[],[],[],[],[]⟩
theorem dictumref04_parser_fail.e:(fun k y=>bodyA ((dictumref04_parser_fail.A k).cx Tryz.prog) (dictumref04_parser_fail.S k).pin y)=(fun k y=>(dictumref04_parser_fail.S k).D y):=by kernel_rfl
theorem dictumref04_parser_fail.ok (k:Nat) : (dictumref04_parser_fail.S k).OK Tryz.prog GG:=aA (dictumref04_parser_fail.A k) Gok mixed rfl (by kernel_rfl) ⟨fun _=>rfl,trivial⟩ ⟨dictumref04_parser_tok.ok k,trivial⟩ trivial fun y=>congrFun (congrFun dictumref04_parser_fail.e k) y
noncomputable def formula_Table_Rows.S (k:Nat) : FS Gg:=⟨18,⟨[(0,false,[.pt 2 0])],[(2,.blk 56 [.ow 3,.mp 4]),(3,.own 60),(4,.mp 60 3)]⟩,(List T_api_Node),fun y=>formula_Table_Rows.f (⟨y.1⟩) y.2.1,fun r=>⟨false,⟨[(0,false,[.ow 39])],[(39,.own 60)]⟩,(r,())⟩,fun _ r k=>k false ⟨[(0,false,[.ow 39])],[(39,.own 60)]⟩ (r,()),fun _ _ _=>rfl,[],true⟩
noncomputable def formula_Table_Rows.A (k:Nat) : Ax (formula_Table_Rows.S k):=⟨Tryz.f18,[⟨false,⟨[(0,false,[.ow 39])],[(39,.own 60)]⟩,fun y=>y.1⟩],[formula_Table_alive.S k,slices_Clone_api_Node.S k],[],[],[],[],[]⟩
theorem formula_Table_Rows.e:(fun k y=>bodyA ((formula_Table_Rows.A k).cx Tryz.prog) (formula_Table_Rows.S k).pin y)=(fun k y=>(formula_Table_Rows.S k).D y):=by kernel_rfl
theorem formula_Table_Rows.ok (k:Nat) : (formula_Table_Rows.S k).OK Tryz.prog GG:=aA (formula_Table_Rows.A k) Gok mixed rfl (by kernel_rfl) ⟨fun _=>rfl,trivial⟩ ⟨formula_Table_alive.ok k,slices_Clone_api_Node.ok k,trivial⟩ trivial fun y=>congrFun (congrFun formula_Table_Rows.e k) y
noncomputable def formula_Table_Node.S (k:Nat) : FS Gg:=⟨24,⟨[(0,false,[.pt 2 0]),(1,false,[.s (.int .i64)])],[(2,.blk 56 [.ow 3,.mp 4]),(3,.own 60),(4,.mp 60 3)]⟩,T_api_Node×Bool,fun y=>formula_Table_Node.f (⟨y.2.1⟩) y.1 y.2.2.1,fun r=>⟨false,⟨[(0,true,[.s (.st 60)]),(1,false,[.s .bool])],[]⟩,(r.1,r.2,())⟩,fun _ r k=>k false ⟨[(0,true,[.s (.st 60)]),(1,false,[.s .bool])],[]⟩ (r.1,r.2,()),fun _ _ _=>rfl,[],true⟩
noncomputable def formula_Table_Node.A (k:Nat) : Ax (formula_Table_Node.S k):=⟨Tryz.f24,[⟨false,⟨[(0,true,[.s (.st 60)]),(1,false,[.s .bool])],[]⟩,fun y=>(y.1,y.2.1)⟩],[formula_Table_alive.S k,formula_Table_has.S k],[],[],[],[],[]⟩
theorem formula_Table_Node.e:(fun k y=>bodyA ((formula_Table_Node.A k).cx Tryz.prog) (formula_Table_Node.S k).pin y)=(fun k y=>(formula_Table_Node.S k).D y):=by kernel_rfl
theorem formula_Table_Node.ok (k:Nat) : (formula_Table_Node.S k).OK Tryz.prog GG:=aA (formula_Table_Node.A k) Gok mixed rfl (by kernel_rfl) ⟨fun _=>rfl,trivial⟩ ⟨formula_Table_alive.ok k,formula_Table_has.ok k,trivial⟩ trivial fun y=>congrFun (congrFun formula_Table_Node.e k) y
noncomputable def dictumref03_T_Put.S (k:Nat) : FS Gg:=⟨71,⟨[(0,false,[.pt 2 0]),(1,true,[.s (.st 60)])],[(2,.blk 53 [.ow 3]),(3,.own 60)]⟩,Int×Int×T_dictumref03_T,fun y=>dictumref03_T_Put.f k (⟨y.2.1⟩) y.1,fun r=>⟨false,⟨[(0,false,[.s (.int .i64)]),(1,false,[.s (.int .i64)])],[(2,.blk 53 [.ow 3]),(3,.own 60)]⟩,(r.1,r.2.1,r.2.2.f_N,())⟩,fun _ r k=>k false ⟨[(0,false,[.s (.int .i64)]),(1,false,[.s (.int .i64)])],[(2,.blk 53 [.ow 3]),(3,.own 60)]⟩ (r.1,r.2.1,r.2.2.f_N,()),fun _ _ _=>rfl,[2,3],true⟩
noncomputable def dictumref03_T_Put.A (k:Nat) : Ax (dictumref03_T_Put.S k):=⟨Tryz.f71,[⟨false,⟨[(0,false,[.s (.int .i64)]),(1,false,[.s (.int .i64)])],[(2,.blk 53 [.ow 3]),(3,.own 60)]⟩,fun y=>(y.1,y.2.1,⟨y.2.2.1⟩)⟩],[dictumref03_T_Has.S k,dictumref03_Word.S k,dictumref03_T_Find.S k],[(3,⟨Unit,⟨[],[]⟩,fun y=>(),fun r=>(),fun _=>rfl,true⟩),(63,⟨T_dictumref03_T,⟨[],[(2,.blk 53 [.ow 3]),(3,.own 60)]⟩,fun y=>⟨y.1⟩,fun r=>(r.f_N,()),fun _=>rfl,false⟩),(212,⟨Bool,⟨[(19,false,[.s .bool])],[]⟩,fun y=>y.1,fun r=>(r,()),fun _=>rfl,false⟩),(430,⟨Bool,⟨[(38,false,[.s .bool])],[]⟩,fun y=>y.1,fun r=>(r,()),fun _=>rfl,false⟩),(431,⟨Bool,⟨[(39,false,[.s .bool])],[]⟩,fun y=>y.1,fun r=>(r,()),fun _=>rfl,false⟩),(1726,⟨Bool,⟨[(59,false,[.s .bool])],[]⟩,fun y=>y.1,fun r=>(r,()),fun _=>rfl,false⟩)],[],[(126,[3])],[],[]⟩
theorem dictumref03_T_Put.e:(fun k y=>bodyA ((dictumref03_T_Put.A k).cx Tryz.prog) (dictumref03_T_Put.S k).pin y)=(fun k y=>(dictumref03_T_Put.S k).D y):=by kernel_rfl
theorem dictumref03_T_Put.ok (k:Nat) : (dictumref03_T_Put.S k).OK Tryz.prog GG:=aA (dictumref03_T_Put.A k) Gok mixed rfl (by kernel_rfl) ⟨fun _=>rfl,trivial⟩ ⟨dictumref03_T_Has.ok k,dictumref03_Word.ok k,dictumref03_T_Find.ok k,trivial⟩ trivial fun y=>congrFun (congrFun dictumref03_T_Put.e k) y
noncomputable def formula_Table_fits.S (k:Nat) : FS Gg:=⟨90,⟨[(0,false,[.pt 2 0]),(1,true,[.s (.st 60)])],[(2,.blk 56 [.ow 3,.mp 4]),(3,.own 60),(4,.mp 60 3)]⟩,Int,fun y=>formula_Table_fits.f k (⟨y.2.1⟩) y.1 y.2.2.1,fun r=>⟨false,⟨[(0,false,[.s (.int .i64)])],[]⟩,(r,())⟩,fun _ r k=>k false ⟨[(0,false,[.s (.int .i64)])],[]⟩ (r,()),fun _ _ _=>rfl,[],true⟩
noncomputable def formula_Table_fits.A (k:Nat) : Ax (formula_Table_fits.S k):=⟨Tryz.f90,[⟨false,⟨[(0,false,[.s (.int .i64)])],[]⟩,fun y=>y.1⟩],[formula_Word.S k,formula_Table_has.S k],[(212,⟨Bool,⟨[(16,false,[.s .bool])],[]⟩,fun y=>y.1,fun r=>(r,()),fun _=>rfl,false⟩),(431,⟨Bool,⟨[(26,false,[.s .bool])],[]⟩,fun y=>y.1,fun r=>(r,()),fun _=>rfl,false⟩),(1726,⟨Bool,⟨[(46,false,[.s .bool])],[]⟩,fun y=>y.1,fun r=>(r,()),fun _=>rfl,false⟩)],[],[],[],[]⟩
theorem formula_Table_fits.e:(fun k y=>bodyA ((formula_Table_fits.A k).cx Tryz.prog) (formula_Table_fits.S k).pin y)=(fun k y=>(formula_Table_fits.S k).D y):=by kernel_rfl
theorem formula_Table_fits.ok (k:Nat) : (formula_Table_fits.S k).OK Tryz.prog GG:=aA (formula_Table_fits.A k) Gok mixed rfl (by kernel_rfl) ⟨fun _=>rfl,trivial⟩ ⟨formula_Word.ok k,formula_Table_has.ok k,trivial⟩ trivial fun y=>congrFun (congrFun formula_Table_fits.e k) y
noncomputable def syntax_known.S (k:Nat) : FS Gg:=⟨23,⟨[(0,false,[.pt 2 0])],[(2,.blk 56 [.ow 3,.mp 4]),(3,.own 60),(4,.mp 60 3)]⟩,Bool,fun y=>syntax_known.f k (⟨y.1⟩) y.2.1,fun r=>⟨false,⟨[(0,false,[.s .bool])],[]⟩,(r,())⟩,fun _ r k=>k false ⟨[(0,false,[.s .bool])],[]⟩ (r,()),fun _ _ _=>rfl,[],true⟩
noncomputable def syntax_known.A (k:Nat) : Ax (syntax_known.S k):=⟨Tryz.f23,[⟨false,⟨[(0,false,[.s .bool])],[]⟩,fun y=>y.1⟩],[formula_Table_Copy.S k],[],[],[],[],[]⟩
theorem syntax_known.e:(fun k y=>bodyA ((syntax_known.A k).cx Tryz.prog) (syntax_known.S k).pin y)=(fun k y=>(syntax_known.S k).D y):=by kernel_rfl
theorem syntax_known.ok (k:Nat) : (syntax_known.S k).OK Tryz.prog GG:=aA (syntax_known.A k) Gok mixed rfl (by kernel_rfl) ⟨fun _=>rfl,trivial⟩ ⟨formula_Table_Copy.ok k,trivial⟩ trivial fun y=>congrFun (congrFun syntax_known.e k) y
noncomputable def token_cursor_space.S (k:Nat) : FS Gg:=⟨75,⟨[(0,false,[.pt 2 0])],[(2,.blk 128 [.s .str,.s (.int .i64),.s (.int .i64),.s (.int .i64)])]⟩,T_token_cursor,fun y=>token_cursor_space.f k (⟨y.1,⟨y.2.1,y.2.2.1,y.2.2.2.1⟩⟩),fun r=>⟨false,⟨[],[(2,.blk 128 [.s .str,.s (.int .i64),.s (.int .i64),.s (.int .i64)])]⟩,(r.f_s,r.f_at.f_Line,r.f_at.f_Col,r.f_at.f_Off,())⟩,fun _ r k=>k false ⟨[],[(2,.blk 128 [.s .str,.s (.int .i64),.s (.int .i64),.s (.int .i64)])]⟩ (r.f_s,r.f_at.f_Line,r.f_at.f_Col,r.f_at.f_Off,()),fun _ _ _=>rfl,[2],true⟩
noncomputable def token_cursor_space.W0 (k:Nat) (n:Nat) (i:HL Gg.α (Pat.sh ⟨[(0,false,[.pt 2 0])],[]⟩)) (m:HL Gg.α (Pat.sh ⟨[(2,false,[.s .str])],[(2,.blk 128 [.s .str,.s (.int .i64),.s (.int .i64),.s (.int .i64)])]⟩)) : Option (T_token_cursor):=token_cursor_space.l1 k n m.1 (⟨m.2.1,⟨m.2.2.1,m.2.2.2.1,m.2.2.2.2.1⟩⟩)
noncomputable def token_cursor_space.L0 (k:Nat) : LH Gg (T_token_cursor):={ I:=⟨[(0,false,[.pt 2 0])],[]⟩,M:=⟨[(2,false,[.s .str])],[(2,.blk 128 [.s .str,.s (.int .i64),.s (.int .i64),.s (.int .i64)])]⟩,X:=T_token_cursor,L:=token_cursor_space.W0 k k,E:=⟨[],[(2,.blk 128 [.s .str,.s (.int .i64),.s (.int .i64),.s (.int .i64)])]⟩,out:=fun e => .inr (e.f_s,e.f_at.f_Line,e.f_at.f_Col,e.f_at.f_Off,()),el:=fun _ e _ b=>b (e.f_s,e.f_at.f_Line,e.f_at.f_Col,e.f_at.f_Off,()),law:=fun _ _ _ _=>rfl }
noncomputable def token_cursor_space.A (k:Nat) : Ax (token_cursor_space.S k):=⟨Tryz.f75,[⟨false,⟨[],[(2,.blk 128 [.s .str,.s (.int .i64),.s (.int .i64),.s (.int .i64)])]⟩,fun y=>⟨y.1,⟨y.2.1,y.2.2.1,y.2.2.2.1⟩⟩⟩],[token_cursor_here.S k,token_cursor_skip.S k,strings_IndexByte.S k],[(1426,⟨Bool,⟨[(12,false,[.s .bool])],[]⟩,fun y=>y.1,fun r=>(r,()),fun _=>rfl,false⟩),(45661,⟨Int,⟨[(3,false,[.s (.int .i64)])],[]⟩,fun y=>y.1,fun r=>(r,()),fun _=>rfl,false⟩)],[(11,token_cursor_space.L0 k)],[],[],[]⟩
theorem token_cursor_space.e0:(fun k n i m=>roundA false ((token_cursor_space.A k).cx Tryz.prog) (token_cursor_space.L0 k).X 11 (token_cursor_space.L0 k).I (token_cursor_space.L0 k).M (token_cursor_space.L0 k).E (fun _=>none) (fun _ y=>some ((⟨y.1,⟨y.2.1,y.2.2.1,y.2.2.2.1⟩⟩))) (fun _=>token_cursor_space.W0 k n i) i m)=(fun k n i m=>token_cursor_space.W0 k (n+1) i m):=by kernel_rfl
theorem token_cursor_space.e:(fun k y=>bodyA ((token_cursor_space.A k).cx Tryz.prog) (token_cursor_space.S k).pin y)=(fun k y=>(token_cursor_space.S k).D y):=by kernel_rfl
theorem token_cursor_space.ok (k:Nat) : (token_cursor_space.S k).OK Tryz.prog GG:=aA (token_cursor_space.A k) Gok mixed rfl (by kernel_rfl) ⟨fun _=>rfl,trivial⟩ ⟨token_cursor_here.ok k,token_cursor_skip.ok k,strings_IndexByte.ok k,trivial⟩ ⟨lp (token_cursor_space.W0 k) k (fun _=>none) (fun y=>(⟨y.1,⟨y.2.1,y.2.2.1,y.2.2.2.1⟩⟩)) (fun n i m=>congrFun (congrFun (congrFun (congrFun token_cursor_space.e0 k) n) i) m) (fun _ _=>rfl) (fun _ _=>rfl) (fun _ _ h=>by cases h) (fun _=>rfl),trivial⟩ fun y=>congrFun (congrFun token_cursor_space.e k) y
noncomputable def token_run_token_tail.S (k:Nat) : FS Gg:=⟨94,⟨[(0,false,[.s .str]),(1,false,[.fn 95])],[]⟩,Int,fun y=>token_run_token_tail.f k y.1,fun r=>⟨false,⟨[(0,false,[.s (.int .i64)])],[]⟩,(r,())⟩,fun _ r k=>k false ⟨[(0,false,[.s (.int .i64)])],[]⟩ (r,()),fun _ _ _=>rfl,[],true⟩
noncomputable def token_run_token_tail.W0 (k:Nat) (n:Nat) (i:HL Gg.α (Pat.sh ⟨[(0,false,[.s .str]),(1,false,[.fn 95])],[]⟩)) (m:HL Gg.α (Pat.sh ⟨[(5,false,[.s (.int .i64)])],[]⟩)) : Option (Int):=token_run_token_tail.l1 k i.1 n m.1
noncomputable def token_run_token_tail.L0 (k:Nat) : LH Gg (Int):={ I:=⟨[(0,false,[.s .str]),(1,false,[.fn 95])],[]⟩,M:=⟨[(5,false,[.s (.int .i64)])],[]⟩,X:=Int,L:=token_run_token_tail.W0 k k,E:=⟨[(5,false,[.s (.int .i64)])],[]⟩,out:=fun e => .inr (e,()),el:=fun _ e _ b=>b (e,()),law:=fun _ _ _ _=>rfl }
noncomputable def token_run_token_tail.A (k:Nat) : Ax (token_run_token_tail.S k):=⟨Tryz.f94,[⟨false,⟨[(0,false,[.s (.int .i64)])],[]⟩,fun y=>y.1⟩],[token_tail.S k],[(112,⟨Bool,⟨[(16,false,[.s .bool])],[]⟩,fun y=>y.1,fun r=>(r,()),fun _=>rfl,false⟩)],[(14,token_run_token_tail.L0 k)],[],[],[]⟩
theorem token_run_token_tail.e0:(fun k n i m=>roundA false ((token_run_token_tail.A k).cx Tryz.prog) (token_run_token_tail.L0 k).X 14 (token_run_token_tail.L0 k).I (token_run_token_tail.L0 k).M (token_run_token_tail.L0 k).E (fun _=>none) (fun _ y=>some (y.1)) (fun _=>token_run_token_tail.W0 k n i) i m)=(fun k n i m=>token_run_token_tail.W0 k (n+1) i m):=by kernel_rfl
theorem token_run_token_tail.e:(fun k y=>bodyA ((token_run_token_tail.A k).cx Tryz.prog) (token_run_token_tail.S k).pin y)=(fun k y=>(token_run_token_tail.S k).D y):=by kernel_rfl
theorem token_run_token_tail.ok (k:Nat) : (token_run_token_tail.S k).OK Tryz.prog GG:=aA (token_run_token_tail.A k) Gok mixed rfl (by kernel_rfl) ⟨fun _=>rfl,trivial⟩ ⟨token_tail.ok k,trivial⟩ ⟨lp (token_run_token_tail.W0 k) k (fun _=>none) (fun y=>y.1) (fun n i m=>congrFun (congrFun (congrFun (congrFun token_run_token_tail.e0 k) n) i) m) (fun _ _=>rfl) (fun _ _=>rfl) (fun _ _ h=>by cases h) (fun _=>rfl),trivial⟩ fun y=>congrFun (congrFun token_run_token_tail.e k) y
noncomputable def token_sign.S (k:Nat) : FS Gg:=⟨99,⟨[(0,false,[.s .str])],[]⟩,(List UInt8)×Int,fun y=>token_sign.f k y.1,fun r=>⟨false,⟨[(0,false,[.s .str]),(1,false,[.s (.int .i64)])],[]⟩,(r.1,r.2,())⟩,fun _ r k=>k false ⟨[(0,false,[.s .str]),(1,false,[.s (.int .i64)])],[]⟩ (r.1,r.2,()),fun _ _ _=>rfl,[],true⟩
noncomputable def token_sign.l1b (k:Nat) (a0:List UInt8) (y101:(List (List UInt8))) : Nat→Int→Option (Sum ((List UInt8)×Int) (Unit))
 | 0,_=>none
 | kk+1,x103 =>
  (bif (decide (x103 < 20)) then
  (ix y101 x103).bind fun x112 =>
  (strings_HasPrefix.f a0 x112).bind fun z113 =>
  (bif z113 then
  some (.inl (x112,(x112.length:Int)))
  else
  token_sign.l1b k a0 y101 kk (wrap64 (x103+1)))
  else
  some (.inr ()))
theorem token_sign.l1_eq (k:Nat) (a0:List UInt8) (n:Nat) : token_sign.l1 k a0 n=token_sign.l1b k a0 ([([60,45,62] : List UInt8),([60,61] : List UInt8),([61,62] : List UInt8),([45,62] : List UInt8),([124,45] : List UInt8),([126] : List UInt8),([38] : List UInt8),([124] : List UInt8),([40] : List UInt8),([41] : List UInt8),([91] : List UInt8),([93] : List UInt8),([123] : List UInt8),([125] : List UInt8),([44] : List UInt8),([46] : List UInt8),([58] : List UInt8),([59] : List UInt8),([61] : List UInt8),([47] : List UInt8)] : List (List UInt8)) n:=by
 induction n with
 | zero=>rfl
 | succ n ih=>funext v0_; simp only [token_sign.l1,token_sign.l1b,ih,SX.both_self,SX.nilK_eq] <;> rfl
noncomputable def token_sign.fb (k:Nat) (a0:List UInt8) : Option ((List UInt8)×Int):=
 (token_sign.l1b k a0 ([([60,45,62] : List UInt8),([60,61] : List UInt8),([61,62] : List UInt8),([45,62] : List UInt8),([124,45] : List UInt8),([126] : List UInt8),([38] : List UInt8),([124] : List UInt8),([40] : List UInt8),([41] : List UInt8),([91] : List UInt8),([93] : List UInt8),([123] : List UInt8),([125] : List UInt8),([44] : List UInt8),([46] : List UInt8),([58] : List UInt8),([59] : List UInt8),([61] : List UInt8),([47] : List UInt8)] : List (List UInt8)) k 0).bind fun z104=>match z104 with
 | .inl r_=>some r_
 | .inr _ =>
 (utf8_DecodeRuneInString.f a0).bind fun z121 =>
 (bif (z121.1 == 172) then
 some (([126] : List UInt8),z121.2)
 else
 (bif (z121.1 == 8743) then
 some (([38] : List UInt8),z121.2)
 else
 (bif (z121.1 == 8744) then
 some (([124] : List UInt8),z121.2)
 else
 (bif (z121.1 == 8594) then
 some (([45,62] : List UInt8),z121.2)
 else
 (bif (z121.1 == 8596) then
 some (([60,45,62] : List UInt8),z121.2)
 else
 (bif (z121.1 == 8866) then
 some (([124,45] : List UInt8),z121.2)
 else
 (bif (z121.1 == 8804) then
 some (([60,61] : List UInt8),z121.2)
 else
 some (([] : List UInt8),0))))))))
theorem token_sign.f_eq (k:Nat) (a0:List UInt8) : token_sign.f k a0=token_sign.fb k a0:=by
 unfold token_sign.f token_sign.fb
 first | rfl | (simp only [token_sign.l1_eq,SX.both_self,SX.nilK_eq] <;> rfl)
noncomputable def token_sign.Sb (k:Nat) : FS Gg:={ token_sign.S k with D:=fun y=>token_sign.fb k y.1 }
noncomputable def token_sign.W0 (k:Nat) (n:Nat) (i:HL Gg.α (Pat.sh ⟨[(0,false,[.s .str]),(8,true,[.s (.arr 9 20)])],[]⟩)) (m:HL Gg.α (Pat.sh ⟨[(9,false,[.s (.int .i64)])],[]⟩)) : Option (Sum ((List UInt8)×Int) (Unit)):=token_sign.l1b k i.1 i.2.1 n m.1
noncomputable def token_sign.L0 (k:Nat) : LH Gg ((List UInt8)×Int):={ I:=⟨[(0,false,[.s .str]),(8,true,[.s (.arr 9 20)])],[]⟩,M:=⟨[(9,false,[.s (.int .i64)])],[]⟩,X:=Sum ((List UInt8)×Int) (Unit),L:=token_sign.W0 k k,E:=⟨[],[]⟩,out:=fun z=>match z with | .inl r => .inl r | .inr e => .inr (),el:=fun _ z a b=>match z with | .inl r=>a r | .inr e=>b (),law:=fun _ z _ _=>by cases z <;> rfl }
noncomputable def token_sign.A (k:Nat) : Ax (token_sign.Sb k):=⟨Tryz.f99,[⟨false,⟨[(0,false,[.s .str]),(1,false,[.s (.int .i64)])],[]⟩,fun y=>(y.1,y.2.1)⟩],[strings_HasPrefix.S k,utf8_DecodeRuneInString.S k],[],[(13,token_sign.L0 k)],[],[],[]⟩
theorem token_sign.e0:(fun k n i m=>roundA false ((token_sign.A k).cx Tryz.prog) (token_sign.L0 k).X 13 (token_sign.L0 k).I (token_sign.L0 k).M (token_sign.L0 k).E (fun r=>some (.inl r)) (fun _ y=>some (.inr ())) (fun _=>token_sign.W0 k n i) i m)=(fun k n i m=>token_sign.W0 k (n+1) i m):=by kernel_rfl
theorem token_sign.e:(fun k y=>bodyA ((token_sign.A k).cx Tryz.prog) (token_sign.Sb k).pin y)=(fun k y=>(token_sign.Sb k).D y):=by kernel_rfl
theorem token_sign.okb (k:Nat) : (token_sign.Sb k).OK Tryz.prog GG:=aA (token_sign.A k) Gok mixed rfl (by kernel_rfl) ⟨fun _=>rfl,trivial⟩ ⟨strings_HasPrefix.ok k,utf8_DecodeRuneInString.ok k,trivial⟩ ⟨lp (token_sign.W0 k) k (fun r=>some (.inl r)) (fun y => .inr ()) (fun n i m=>congrFun (congrFun (congrFun (congrFun token_sign.e0 k) n) i) m) (fun _ _=>rfl) (fun _ _=>rfl) (fun _ _ h=>by cases h; rfl) (fun _=>rfl),trivial⟩ fun y=>congrFun (congrFun token_sign.e k) y
theorem token_sign.ok (k:Nat) : (token_sign.S k).OK Tryz.prog GG:=FS.OK.same (s:=token_sign.S k) (D':=fun y=>token_sign.fb k y.1) (token_sign.okb k) fun y=>(token_sign.f_eq k y.1).symm
noncomputable def syntax_reader_take.S (k:Nat) : FS Gg:=⟨81,⟨[(0,false,[.pt 2 0])],[(2,.blk 80 [.pt 3 0,.s (.row 76),.s (.int .i64),.s (.int .i64),.s (.int .i64),.s .bool,.s .bool]),(3,.blk 56 [.ow 4,.mp 5]),(4,.own 60),(5,.mp 60 3)]⟩,Exn (T_syntax_broken×T_syntax_reader) (T_api_Token×T_syntax_reader),fun y=>syntax_reader_take.f (⟨y.1,y.2.1,y.2.2.1,y.2.2.2.1,y.2.2.2.2.1,y.2.2.2.2.2.1⟩) (⟨y.2.2.2.2.2.2.1⟩) y.2.2.2.2.2.2.2.1,fun r=>match r with | .ex r=>⟨true,⟨[(111,true,[.s (.st 111)])],[(2,.blk 80 [.pt 3 0,.s (.row 76),.s (.int .i64),.s (.int .i64),.s (.int .i64),.s .bool,.s .bool])]⟩,(r.1,r.2.f_l,r.2.f_i,r.2.f_names,r.2.f_nest,r.2.f_counts,r.2.f_full,())⟩ | .ok r=>⟨false,⟨[(0,true,[.s (.st 76)])],[(2,.blk 80 [.pt 3 0,.s (.row 76),.s (.int .i64),.s (.int .i64),.s (.int .i64),.s .bool,.s .bool])]⟩,(r.1,r.2.f_l,r.2.f_i,r.2.f_names,r.2.f_nest,r.2.f_counts,r.2.f_full,())⟩,fun _ r k=>match r with | .ex r=>k true ⟨[(111,true,[.s (.st 111)])],[(2,.blk 80 [.pt 3 0,.s (.row 76),.s (.int .i64),.s (.int .i64),.s (.int .i64),.s .bool,.s .bool])]⟩ (r.1,r.2.f_l,r.2.f_i,r.2.f_names,r.2.f_nest,r.2.f_counts,r.2.f_full,()) | .ok r=>k false ⟨[(0,true,[.s (.st 76)])],[(2,.blk 80 [.pt 3 0,.s (.row 76),.s (.int .i64),.s (.int .i64),.s (.int .i64),.s .bool,.s .bool])]⟩ (r.1,r.2.f_l,r.2.f_i,r.2.f_names,r.2.f_nest,r.2.f_counts,r.2.f_full,()),fun _ r _=>by cases r <;> rfl,[2],false⟩
noncomputable def syntax_reader_take.A (k:Nat) : Ax (syntax_reader_take.S k):=⟨Tryz.f81,[⟨true,⟨[(111,true,[.s (.st 111)])],[(2,.blk 80 [.pt 3 0,.s (.row 76),.s (.int .i64),.s (.int .i64),.s (.int .i64),.s .bool,.s .bool])]⟩,fun y => .ex (y.1,⟨y.2.1,y.2.2.1,y.2.2.2.1,y.2.2.2.2.1,y.2.2.2.2.2.1,y.2.2.2.2.2.2.1⟩)⟩,⟨false,⟨[(0,true,[.s (.st 76)])],[(2,.blk 80 [.pt 3 0,.s (.row 76),.s (.int .i64),.s (.int .i64),.s (.int .i64),.s .bool,.s .bool])]⟩,fun y => .ok (y.1,⟨y.2.1,y.2.2.1,y.2.2.2.1,y.2.2.2.2.1,y.2.2.2.2.2.1,y.2.2.2.2.2.2.1⟩)⟩],[syntax_counted.S k,syntax_reader_now.S k,syntax_reader_fail.S k],[(7,⟨T_syntax_reader,⟨[],[(2,.blk 80 [.pt 3 0,.s (.row 76),.s (.int .i64),.s (.int .i64),.s (.int .i64),.s .bool,.s .bool])]⟩,fun y=>⟨y.1,y.2.1,y.2.2.1,y.2.2.2.1,y.2.2.2.2.1,y.2.2.2.2.2.1⟩,fun r=>(r.f_l,r.f_i,r.f_names,r.f_nest,r.f_counts,r.f_full,()),fun _=>rfl,true⟩),(14,⟨Bool,⟨[(13,false,[.s .bool])],[]⟩,fun y=>y.1,fun r=>(r,()),fun _=>rfl,false⟩),(58,⟨Unit,⟨[],[]⟩,fun y=>(),fun r=>(),fun _=>rfl,true⟩)],[],[],[],[]⟩
theorem syntax_reader_take.e:(fun k y=>bodyA ((syntax_reader_take.A k).cx Tryz.prog) (syntax_reader_take.S k).pin y)=(fun k y=>(syntax_reader_take.S k).D y):=by kernel_rfl
theorem syntax_reader_take.ok (k:Nat) : (syntax_reader_take.S k).OK Tryz.prog GG:=aA (syntax_reader_take.A k) Gok mixed rfl (by kernel_rfl) ⟨fun _=>rfl,fun _=>rfl,trivial⟩ ⟨syntax_counted.ok k,syntax_reader_now.ok k,syntax_reader_fail.ok k,trivial⟩ trivial fun y=>congrFun (congrFun syntax_reader_take.e k) y
noncomputable def syntax_reader_read_1_rec.S (k:Nat) : FS Gg:=⟨55,⟨[(0,false,[.pt 2 0]),(1,false,[.pt 3 0]),(2,false,[.pt 4 0]),(3,true,[.s (.st 111)])],[(2,.blk 78 [.pt 5 0]),(3,.blk 3 [.s (.int .i64)]),(4,.blk 36 [.s (.int .i64),.s (.int .i64),.s (.int .i64),.s (.int .i64)]),(5,.blk 80 [.pt 6 0,.s (.row 76),.s (.int .i64),.s (.int .i64),.s (.int .i64),.s .bool,.s .bool]),(6,.blk 56 [.ow 7,.mp 8]),(7,.own 60),(8,.mp 60 3)]⟩,T_api_Fault×T_formula_Table×(List (T_api_Node×Int)),fun y=>syntax_reader_read_1_rec.f k y.2.1 (⟨y.2.2.1,⟨y.2.2.2.1,y.2.2.2.2.1,y.2.2.2.2.2.1⟩⟩) (⟨y.2.2.2.2.2.2.1,y.2.2.2.2.2.2.2.1,y.2.2.2.2.2.2.2.2.1,y.2.2.2.2.2.2.2.2.2.1,y.2.2.2.2.2.2.2.2.2.2.1,y.2.2.2.2.2.2.2.2.2.2.2.1⟩) (⟨y.2.2.2.2.2.2.2.2.2.2.2.2.1⟩) y.2.2.2.2.2.2.2.2.2.2.2.2.2.1 y.1,fun r=>⟨false,⟨[],[(4,.blk 36 [.s (.int .i64),.s (.int .i64),.s (.int .i64),.s (.int .i64)]),(6,.blk 56 [.ow 7,.mp 8]),(7,.own 60),(8,.mp 60 3)]⟩,(r.1.f_Code,r.1.f_At.f_Line,r.1.f_At.f_Col,r.1.f_At.f_Off,r.2.1.f_rows,r.2.2,())⟩,fun _ r k=>k false ⟨[],[(4,.blk 36 [.s (.int .i64),.s (.int .i64),.s (.int .i64),.s (.int .i64)]),(6,.blk 56 [.ow 7,.mp 8]),(7,.own 60),(8,.mp 60 3)]⟩ (r.1.f_Code,r.1.f_At.f_Line,r.1.f_At.f_Col,r.1.f_At.f_Off,r.2.1.f_rows,r.2.2,()),fun _ _ _=>rfl,[4,6,7,8],true⟩
noncomputable def syntax_reader_read_1_rec.A (k:Nat) : Ax (syntax_reader_read_1_rec.S k):=⟨Tryz.f55,[⟨false,⟨[],[(4,.blk 36 [.s (.int .i64),.s (.int .i64),.s (.int .i64),.s (.int .i64)]),(6,.blk 56 [.ow 7,.mp 8]),(7,.own 60),(8,.mp 60 3)]⟩,fun y=>(⟨y.1,⟨y.2.1,y.2.2.1,y.2.2.2.1⟩⟩,⟨y.2.2.2.2.1⟩,y.2.2.2.2.2.1)⟩],[formula_Table_Cut.S k],[],[],[(442,[6,7,8])],[],[]⟩
theorem syntax_reader_read_1_rec.e:(fun k y=>bodyR ((syntax_reader_read_1_rec.A k).cx Tryz.prog) (some 111) (syntax_reader_read_1_rec.S k).pin y)=(fun k y=>(syntax_reader_read_1_rec.S k).D y):=by kernel_rfl
theorem syntax_reader_read_1_rec.ok (k:Nat) : (syntax_reader_read_1_rec.S k).DOK Tryz.prog GG (some 111):=ax_dok (syntax_reader_read_1_rec.A k) (some 111) Gok mixed rfl (by kernel_rfl) ⟨fun _=>rfl,trivial⟩ ⟨formula_Table_Cut.ok k,trivial⟩ rfl fun y=>congrFun (congrFun syntax_reader_read_1_rec.e k) y
noncomputable def dictumref02_on.S (k:Nat) : FS Gg:=⟨84,⟨[(0,false,[.s .str]),(1,true,[.s (.st 34)]),(2,false,[.s (.int .i64)])],[]⟩,T_api_Spot,fun y=>dictumref02_on.f k y.1 y.2.1 y.2.2.1,fun r=>⟨false,⟨[(0,true,[.s (.st 34)])],[]⟩,(r,())⟩,fun _ r k=>k false ⟨[(0,true,[.s (.st 34)])],[]⟩ (r,()),fun _ _ _=>rfl,[],true⟩
noncomputable def dictumref02_on.W0 (k:Nat) (n:Nat) (i:HL Gg.α (Pat.sh ⟨[(0,false,[.s .str]),(2,false,[.s (.int .i64)]),(4,false,[.pt 180 0]),(6,false,[.pt 220 0])],[(220,.blk 34 [.s (.int .i64),.s (.int .i64),.s (.int .i64)])]⟩)) (m:HL Gg.α (Pat.sh ⟨[(7,false,[.s (.int .i64)])],[(180,.blk 34 [.s (.int .i64),.s (.int .i64),.s (.int .i64)])]⟩)) : Option (T_api_Spot):=dictumref02_on.l1 k i.1 i.2.1 n m.1 (⟨m.2.1,m.2.2.1,m.2.2.2.1⟩)
noncomputable def dictumref02_on.L0 (k:Nat) : LH Gg (T_api_Spot):={ I:=⟨[(0,false,[.s .str]),(2,false,[.s (.int .i64)]),(4,false,[.pt 180 0]),(6,false,[.pt 220 0])],[(220,.blk 34 [.s (.int .i64),.s (.int .i64),.s (.int .i64)])]⟩,M:=⟨[(7,false,[.s (.int .i64)])],[(180,.blk 34 [.s (.int .i64),.s (.int .i64),.s (.int .i64)])]⟩,X:=T_api_Spot,L:=dictumref02_on.W0 k k,E:=⟨[],[(180,.blk 34 [.s (.int .i64),.s (.int .i64),.s (.int .i64)])]⟩,out:=fun e => .inr (e.f_Line,e.f_Col,e.f_Off,()),el:=fun _ e _ b=>b (e.f_Line,e.f_Col,e.f_Off,()),law:=fun _ _ _ _=>rfl }
noncomputable def dictumref02_on.A (k:Nat) : Ax (dictumref02_on.S k):=⟨Tryz.f84,[⟨false,⟨[(0,true,[.s (.st 34)])],[]⟩,fun y=>y.1⟩],[dictumref02_size.S k],[(105,⟨T_api_Spot,⟨[],[(180,.blk 34 [.s (.int .i64),.s (.int .i64),.s (.int .i64)])]⟩,fun y=>⟨y.1,y.2.1,y.2.2.1⟩,fun r=>(r.f_Line,r.f_Col,r.f_Off,()),fun _=>rfl,false⟩)],[(13,dictumref02_on.L0 k)],[],[],[]⟩
theorem dictumref02_on.e0:(fun k n i m=>roundA false ((dictumref02_on.A k).cx Tryz.prog) (dictumref02_on.L0 k).X 13 (dictumref02_on.L0 k).I (dictumref02_on.L0 k).M (dictumref02_on.L0 k).E (fun _=>none) (fun _ y=>some ((⟨y.1,y.2.1,y.2.2.1⟩))) (fun _=>dictumref02_on.W0 k n i) i m)=(fun k n i m=>dictumref02_on.W0 k (n+1) i m):=by kernel_rfl
theorem dictumref02_on.e:(fun k y=>bodyA ((dictumref02_on.A k).cx Tryz.prog) (dictumref02_on.S k).pin y)=(fun k y=>(dictumref02_on.S k).D y):=by kernel_rfl
theorem dictumref02_on.ok (k:Nat) : (dictumref02_on.S k).OK Tryz.prog GG:=aA (dictumref02_on.A k) Gok mixed rfl (by kernel_rfl) ⟨fun _=>rfl,trivial⟩ ⟨dictumref02_size.ok k,trivial⟩ ⟨lp (dictumref02_on.W0 k) k (fun _=>none) (fun y=>(⟨y.1,y.2.1,y.2.2.1⟩)) (fun n i m=>congrFun (congrFun (congrFun (congrFun dictumref02_on.e0 k) n) i) m) (fun _ _=>rfl) (fun _ _=>rfl) (fun _ _ h=>by cases h) (fun _=>rfl),trivial⟩ fun y=>congrFun (congrFun dictumref02_on.e k) y
noncomputable def dictumref02_number.S (k:Nat) : FS Gg:=⟨105,⟨[(0,false,[.s .str]),(1,false,[.s (.int .i64)])],[]⟩,T_api_Token×Int×Int,fun y=>dictumref02_number.f k y.1 y.2.1,fun r=>⟨false,⟨[(0,true,[.s (.st 76)]),(1,false,[.s (.int .i64)]),(2,false,[.s (.int .i64)])],[]⟩,(r.1,r.2.1,r.2.2,())⟩,fun _ r k=>k false ⟨[(0,true,[.s (.st 76)]),(1,false,[.s (.int .i64)]),(2,false,[.s (.int .i64)])],[]⟩ (r.1,r.2.1,r.2.2,()),fun _ _ _=>rfl,[],true⟩
noncomputable def dictumref02_number.W0 (k:Nat) (n:Nat) (i:HL Gg.α (Pat.sh ⟨[(0,false,[.s .str]),(1,false,[.s (.int .i64)]),(4,false,[.pt 180 0])],[(180,.blk 76 [.s (.int .i64),.s .str,.s (.int .i64),.s (.int .i64),.s (.int .i64),.s (.int .i64)])]⟩)) (m:HL Gg.α (Pat.sh ⟨[(7,false,[.s (.int .i64)]),(8,false,[.s (.int .i64)])],[]⟩)) : Option (Int×Int):=dictumref02_number.l1 k i.1 n m.1 m.2.1
noncomputable def dictumref02_number.L0 (k:Nat) : LH Gg (T_api_Token×Int×Int):={ I:=⟨[(0,false,[.s .str]),(1,false,[.s (.int .i64)]),(4,false,[.pt 180 0])],[(180,.blk 76 [.s (.int .i64),.s .str,.s (.int .i64),.s (.int .i64),.s (.int .i64),.s (.int .i64)])]⟩,M:=⟨[(7,false,[.s (.int .i64)]),(8,false,[.s (.int .i64)])],[]⟩,X:=Int×Int,L:=dictumref02_number.W0 k k,E:=⟨[(7,false,[.s (.int .i64)]),(8,false,[.s (.int .i64)])],[]⟩,out:=fun e => .inr (e.1,e.2,()),el:=fun _ e _ b=>b (e.1,e.2,()),law:=fun _ _ _ _=>rfl }
noncomputable def dictumref02_number.A (k:Nat) : Ax (dictumref02_number.S k):=⟨Tryz.f105,[⟨false,⟨[(0,true,[.s (.st 76)]),(1,false,[.s (.int .i64)]),(2,false,[.s (.int .i64)])],[]⟩,fun y=>(y.1,y.2.1,y.2.2.1)⟩],[dictumref02_within.S k,dictumref02_digit.S k],[(62,⟨Bool,⟨[(57,false,[.s .bool])],[]⟩,fun y=>y.1,fun r=>(r,()),fun _=>rfl,false⟩),(240,⟨Bool,⟨[(19,false,[.s .bool])],[]⟩,fun y=>y.1,fun r=>(r,()),fun _=>rfl,false⟩),(482,⟨Int,⟨[(7,false,[.s (.int .i64)])],[]⟩,fun y=>y.1,fun r=>(r,()),fun _=>rfl,false⟩)],[(30,dictumref02_number.L0 k)],[],[],[]⟩
theorem dictumref02_number.e0:(fun k n i m=>roundA false ((dictumref02_number.A k).cx Tryz.prog) (dictumref02_number.L0 k).X 30 (dictumref02_number.L0 k).I (dictumref02_number.L0 k).M (dictumref02_number.L0 k).E (fun _=>none) (fun _ y=>some ((y.1,y.2.1))) (fun _=>dictumref02_number.W0 k n i) i m)=(fun k n i m=>dictumref02_number.W0 k (n+1) i m):=by kernel_rfl
theorem dictumref02_number.e:(fun k y=>bodyA ((dictumref02_number.A k).cx Tryz.prog) (dictumref02_number.S k).pin y)=(fun k y=>(dictumref02_number.S k).D y):=by kernel_rfl
theorem dictumref02_number.ok (k:Nat) : (dictumref02_number.S k).OK Tryz.prog GG:=aA (dictumref02_number.A k) Gok mixed rfl (by kernel_rfl) ⟨fun _=>rfl,trivial⟩ ⟨dictumref02_within.ok k,dictumref02_digit.ok k,trivial⟩ ⟨lp (dictumref02_number.W0 k) k (fun _=>none) (fun y=>(y.1,y.2.1)) (fun n i m=>congrFun (congrFun (congrFun (congrFun dictumref02_number.e0 k) n) i) m) (fun _ _=>rfl) (fun _ _=>rfl) (fun _ _ h=>by cases h) (fun _=>rfl),trivial⟩ fun y=>congrFun (congrFun dictumref02_number.e k) y
noncomputable def dictumref04_parser_take.S (k:Nat) : FS Gg:=⟨65,⟨[(0,false,[.pt 2 0])],[(2,.blk 89 [.pt 3 0,.s (.row 76),.s (.int .i64),.s (.int .i64),.s (.int .i64),.s .bool,.s (.int .i64),.s (.int .i64),.s (.int .i64),.s (.int .i64)]),(3,.blk 53 [.ow 4]),(4,.own 60)]⟩,T_dictumref04_parser,fun y=>dictumref04_parser_take.f (⟨y.1,y.2.1,y.2.2.1,y.2.2.2.1,y.2.2.2.2.1,⟨y.2.2.2.2.2.1,⟨y.2.2.2.2.2.2.1,y.2.2.2.2.2.2.2.1,y.2.2.2.2.2.2.2.2.1⟩⟩⟩) (⟨y.2.2.2.2.2.2.2.2.2.1⟩),fun r=>⟨false,⟨[],[(2,.blk 89 [.pt 3 0,.s (.row 76),.s (.int .i64),.s (.int .i64),.s (.int .i64),.s .bool,.s (.int .i64),.s (.int .i64),.s (.int .i64),.s (.int .i64)])]⟩,(r.f_l,r.f_i,r.f_n,r.f_deep,r.f_full,r.f_bad.f_Code,r.f_bad.f_At.f_Line,r.f_bad.f_At.f_Col,r.f_bad.f_At.f_Off,())⟩,fun _ r k=>k false ⟨[],[(2,.blk 89 [.pt 3 0,.s (.row 76),.s (.int .i64),.s (.int .i64),.s (.int .i64),.s .bool,.s (.int .i64),.s (.int .i64),.s (.int .i64),.s (.int .i64)])]⟩ (r.f_l,r.f_i,r.f_n,r.f_deep,r.f_full,r.f_bad.f_Code,r.f_bad.f_At.f_Line,r.f_bad.f_At.f_Col,r.f_bad.f_At.f_Off,()),fun _ _ _=>rfl,[2],false⟩
noncomputable def dictumref04_parser_take.A (k:Nat) : Ax (dictumref04_parser_take.S k):=⟨Tryz.f65,[⟨false,⟨[],[(2,.blk 89 [.pt 3 0,.s (.row 76),.s (.int .i64),.s (.int .i64),.s (.int .i64),.s .bool,.s (.int .i64),.s (.int .i64),.s (.int .i64),.s (.int .i64)])]⟩,fun y=>⟨y.1,y.2.1,y.2.2.1,y.2.2.2.1,y.2.2.2.2.1,⟨y.2.2.2.2.2.1,⟨y.2.2.2.2.2.2.1,y.2.2.2.2.2.2.2.1,y.2.2.2.2.2.2.2.2.1⟩⟩⟩⟩],[dictumref04_counted.S k,dictumref04_parser_tok.S k,dictumref04_parser_fail.S k],[(3,⟨T_dictumref04_parser,⟨[],[(2,.blk 89 [.pt 3 0,.s (.row 76),.s (.int .i64),.s (.int .i64),.s (.int .i64),.s .bool,.s (.int .i64),.s (.int .i64),.s (.int .i64),.s (.int .i64)])]⟩,fun y=>⟨y.1,y.2.1,y.2.2.1,y.2.2.2.1,y.2.2.2.2.1,⟨y.2.2.2.2.2.1,⟨y.2.2.2.2.2.2.1,y.2.2.2.2.2.2.2.1,y.2.2.2.2.2.2.2.2.1⟩⟩⟩,fun r=>(r.f_l,r.f_i,r.f_n,r.f_deep,r.f_full,r.f_bad.f_Code,r.f_bad.f_At.f_Line,r.f_bad.f_At.f_Col,r.f_bad.f_At.f_Off,()),fun _=>rfl,true⟩)],[],[],[],[]⟩
theorem dictumref04_parser_take.e:(fun k y=>bodyA ((dictumref04_parser_take.A k).cx Tryz.prog) (dictumref04_parser_take.S k).pin y)=(fun k y=>(dictumref04_parser_take.S k).D y):=by kernel_rfl
theorem dictumref04_parser_take.ok (k:Nat) : (dictumref04_parser_take.S k).OK Tryz.prog GG:=aA (dictumref04_parser_take.A k) Gok mixed rfl (by kernel_rfl) ⟨fun _=>rfl,trivial⟩ ⟨dictumref04_counted.ok k,dictumref04_parser_tok.ok k,dictumref04_parser_fail.ok k,trivial⟩ trivial fun y=>congrFun (congrFun dictumref04_parser_take.e k) y
noncomputable def dictumlaw03_Like.S (k:Nat) : FS Gg:=⟨15,⟨[(0,false,[.pt 2 0]),(1,false,[.pt 4 0])],[(2,.blk 56 [.ow 3,.mp 6]),(3,.own 60),(4,.blk 53 [.ow 5]),(5,.own 60),(6,.mp 60 3)]⟩,Bool,fun y=>dictumlaw03_Like.f k (⟨y.1⟩) (⟨y.2.1⟩) y.2.2.1,fun r=>⟨false,⟨[(0,false,[.s .bool])],[]⟩,(r,())⟩,fun _ r k=>k false ⟨[(0,false,[.s .bool])],[]⟩ (r,()),fun _ _ _=>rfl,[],true⟩
noncomputable def dictumlaw03_Like.A (k:Nat) : Ax (dictumlaw03_Like.S k):=⟨Tryz.f15,[⟨false,⟨[(0,false,[.s .bool])],[]⟩,fun y=>y.1⟩],[formula_Table_Rows.S k,dictumref03_Same.S k,formula_Table_Len.S k],[],[],[],[],[]⟩
theorem dictumlaw03_Like.e:(fun k y=>bodyA ((dictumlaw03_Like.A k).cx Tryz.prog) (dictumlaw03_Like.S k).pin y)=(fun k y=>(dictumlaw03_Like.S k).D y):=by kernel_rfl
theorem dictumlaw03_Like.ok (k:Nat) : (dictumlaw03_Like.S k).OK Tryz.prog GG:=aA (dictumlaw03_Like.A k) Gok mixed rfl (by kernel_rfl) ⟨fun _=>rfl,trivial⟩ ⟨formula_Table_Rows.ok k,dictumref03_Same.ok k,formula_Table_Len.ok k,trivial⟩ trivial fun y=>congrFun (congrFun dictumlaw03_Like.e k) y
noncomputable def syntax_bot.S (k:Nat) : FS Gg:=⟨73,⟨[(0,false,[.pt 2 0]),(1,false,[.s (.int .i64)])],[(2,.blk 56 [.ow 3,.mp 4]),(3,.own 60),(4,.mp 60 3)]⟩,Bool,fun y=>syntax_bot.f (⟨y.2.1⟩) y.1 y.2.2.1,fun r=>⟨false,⟨[(0,false,[.s .bool])],[]⟩,(r,())⟩,fun _ r k=>k false ⟨[(0,false,[.s .bool])],[]⟩ (r,()),fun _ _ _=>rfl,[],true⟩
noncomputable def syntax_bot.A (k:Nat) : Ax (syntax_bot.S k):=⟨Tryz.f73,[⟨false,⟨[(0,false,[.s .bool])],[]⟩,fun y=>y.1⟩],[formula_Table_Node.S k],[],[],[],[],[]⟩
theorem syntax_bot.e:(fun k y=>bodyA ((syntax_bot.A k).cx Tryz.prog) (syntax_bot.S k).pin y)=(fun k y=>(syntax_bot.S k).D y):=by kernel_rfl
theorem syntax_bot.ok (k:Nat) : (syntax_bot.S k).OK Tryz.prog GG:=aA (syntax_bot.A k) Gok mixed rfl (by kernel_rfl) ⟨fun _=>rfl,trivial⟩ ⟨formula_Table_Node.ok k,trivial⟩ trivial fun y=>congrFun (congrFun syntax_bot.e k) y
noncomputable def dictumref03_From.S (k:Nat) : FS Gg:=⟨46,⟨[(0,false,[.s (.row 60)])],[]⟩,Exn (Int) (T_dictumref03_T),fun y=>dictumref03_From.f k y.1,fun r=>match r with | .ex r=>⟨false,⟨[(0,false,[.np]),(1,false,[.s (.int .i64)])],[]⟩,(r,())⟩ | .ok r=>⟨false,⟨[(0,false,[.pt 39 0]),(1,false,[.li .i64 0])],[(39,.blk 53 [.ow 38]),(38,.own 60)]⟩,(r.f_N,())⟩,fun _ r k=>match r with | .ex r=>k false ⟨[(0,false,[.np]),(1,false,[.s (.int .i64)])],[]⟩ (r,()) | .ok r=>k false ⟨[(0,false,[.pt 39 0]),(1,false,[.li .i64 0])],[(39,.blk 53 [.ow 38]),(38,.own 60)]⟩ (r.f_N,()),fun _ r _=>by cases r <;> rfl,[],true⟩
noncomputable def dictumref03_From.W0 (k:Nat) (n:Nat) (i:HL Gg.α (Pat.sh ⟨[(0,false,[.s (.row 60)]),(4,false,[.pt 280 0])],[]⟩)) (m:HL Gg.α (Pat.sh ⟨[(5,false,[.s (.int .i64)])],[(280,.blk 53 [.ow 490]),(490,.own 60)]⟩)) : Option (Sum (Exn (Int) (T_dictumref03_T)) (T_dictumref03_T)):=dictumref03_From.l1 k i.1 n m.1 (⟨m.2.1⟩)
noncomputable def dictumref03_From.L0 (k:Nat) : LH Gg (Exn (Int) (T_dictumref03_T)):={ I:=⟨[(0,false,[.s (.row 60)]),(4,false,[.pt 280 0])],[]⟩,M:=⟨[(5,false,[.s (.int .i64)])],[(280,.blk 53 [.ow 490]),(490,.own 60)]⟩,X:=Sum (Exn (Int) (T_dictumref03_T)) (T_dictumref03_T),L:=dictumref03_From.W0 k k,E:=⟨[],[(280,.blk 53 [.ow 490]),(490,.own 60)]⟩,out:=fun z=>match z with | .inl r => .inl r | .inr e => .inr (e.f_N,()),el:=fun _ z a b=>match z with | .inl r=>a r | .inr e=>b (e.f_N,()),law:=fun _ z _ _=>by cases z <;> rfl }
noncomputable def dictumref03_From.A (k:Nat) : Ax (dictumref03_From.S k):=⟨Tryz.f46,[⟨false,⟨[(0,false,[.np]),(1,false,[.s (.int .i64)])],[]⟩,fun y => .ex y.1⟩,⟨false,⟨[(0,false,[.pt 39 0]),(1,false,[.li .i64 0])],[(39,.blk 53 [.ow 38]),(38,.own 60)]⟩,fun y => .ok (⟨y.1⟩)⟩],[dictumref03_T_Put.S k],[],[(29,dictumref03_From.L0 k)],[],[],[]⟩
theorem dictumref03_From.e0:(fun k n i m=>roundA false ((dictumref03_From.A k).cx Tryz.prog) (dictumref03_From.L0 k).X 29 (dictumref03_From.L0 k).I (dictumref03_From.L0 k).M (dictumref03_From.L0 k).E (fun r=>some (.inl r)) (fun _ y=>some (.inr (⟨y.1⟩))) (fun _=>dictumref03_From.W0 k n i) i m)=(fun k n i m=>dictumref03_From.W0 k (n+1) i m):=by kernel_rfl
theorem dictumref03_From.e:(fun k y=>bodyA ((dictumref03_From.A k).cx Tryz.prog) (dictumref03_From.S k).pin y)=(fun k y=>(dictumref03_From.S k).D y):=by kernel_rfl
theorem dictumref03_From.ok (k:Nat) : (dictumref03_From.S k).OK Tryz.prog GG:=aA (dictumref03_From.A k) Gok mixed rfl (by kernel_rfl) ⟨fun _=>rfl,fun _=>rfl,trivial⟩ ⟨dictumref03_T_Put.ok k,trivial⟩ ⟨lp (dictumref03_From.W0 k) k (fun r=>some (.inl r)) (fun y => .inr (⟨y.1⟩)) (fun n i m=>congrFun (congrFun (congrFun (congrFun dictumref03_From.e0 k) n) i) m) (fun _ _=>rfl) (fun _ _=>rfl) (fun _ _ h=>by cases h; rfl) (fun _=>rfl),trivial⟩ fun y=>congrFun (congrFun dictumref03_From.e k) y
noncomputable def formula_Table_Put.S (k:Nat) : FS Gg:=⟨72,⟨[(0,false,[.pt 2 0]),(1,true,[.s (.st 60)])],[(2,.blk 56 [.ow 3,.mp 4]),(3,.own 60),(4,.mp 60 3)]⟩,Int×Int×T_formula_Table×(List (T_api_Node×Int)),fun y=>formula_Table_Put.f k (⟨y.2.1⟩) y.1 y.2.2.1,fun r=>⟨false,⟨[(0,false,[.s (.int .i64)]),(1,false,[.s (.int .i64)])],[(2,.blk 56 [.ow 3,.mp 4]),(3,.own 60),(4,.mp 60 3)]⟩,(r.1,r.2.1,r.2.2.1.f_rows,r.2.2.2,())⟩,fun _ r k=>k false ⟨[(0,false,[.s (.int .i64)]),(1,false,[.s (.int .i64)])],[(2,.blk 56 [.ow 3,.mp 4]),(3,.own 60),(4,.mp 60 3)]⟩ (r.1,r.2.1,r.2.2.1.f_rows,r.2.2.2,()),fun _ _ _=>rfl,[2,3,4],true⟩
noncomputable def formula_Table_Put.A (k:Nat) : Ax (formula_Table_Put.S k):=⟨Tryz.f72,[⟨false,⟨[(0,false,[.s (.int .i64)]),(1,false,[.s (.int .i64)])],[(2,.blk 56 [.ow 3,.mp 4]),(3,.own 60),(4,.mp 60 3)]⟩,fun y=>(y.1,y.2.1,⟨y.2.2.1⟩,y.2.2.2.1)⟩],[formula_Table_alive.S k,formula_Table_fits.S k],[(127,⟨T_formula_Table,⟨[],[(2,.blk 56 [.ow 3,.mp 4]),(3,.own 60)]⟩,fun y=>⟨y.1⟩,fun r=>(r.f_rows,()),fun _=>rfl,false⟩)],[],[(254,[3])],[],[]⟩
theorem formula_Table_Put.e:(fun k y=>bodyA ((formula_Table_Put.A k).cx Tryz.prog) (formula_Table_Put.S k).pin y)=(fun k y=>(formula_Table_Put.S k).D y):=by kernel_rfl
theorem formula_Table_Put.ok (k:Nat) : (formula_Table_Put.S k).OK Tryz.prog GG:=aA (formula_Table_Put.A k) Gok mixed rfl (by kernel_rfl) ⟨fun _=>rfl,trivial⟩ ⟨formula_Table_alive.ok k,formula_Table_fits.ok k,trivial⟩ trivial fun y=>congrFun (congrFun formula_Table_Put.e k) y
noncomputable def token_word.S (k:Nat) : FS Gg:=⟨77,⟨[(0,false,[.s .str])],[]⟩,T_api_Token×Int×Int,fun y=>token_word.f k y.1,fun r=>⟨false,⟨[(0,true,[.s (.st 76)]),(1,false,[.s (.int .i64)]),(2,false,[.s (.int .i64)])],[]⟩,(r.1,r.2.1,r.2.2,())⟩,fun _ r k=>k false ⟨[(0,true,[.s (.st 76)]),(1,false,[.s (.int .i64)]),(2,false,[.s (.int .i64)])],[]⟩ (r.1,r.2.1,r.2.2,()),fun _ _ _=>rfl,[],true⟩
noncomputable def token_word.A (k:Nat) : Ax (token_word.S k):=⟨Tryz.f77,[⟨false,⟨[(0,true,[.s (.st 76)]),(1,false,[.s (.int .i64)]),(2,false,[.s (.int .i64)])],[]⟩,fun y=>(y.1,y.2.1,y.2.2.1)⟩],[token_letter.S k,token_run_token_tail.S k,token_run_token_digit.S k,token_tail.S k,token_digit.S k,strconv_Atoi.S k,utf8_DecodeRuneInString.S k,token_sign.S k],[(1654,⟨Bool,⟨[(66,false,[.s .bool])],[]⟩,fun y=>y.1,fun r=>(r,()),fun _=>rfl,false⟩)],[],[],[],[]⟩
theorem token_word.e:(fun k y=>bodyA ((token_word.A k).cx Tryz.prog) (token_word.S k).pin y)=(fun k y=>(token_word.S k).D y):=by kernel_rfl
theorem token_word.ok (k:Nat) : (token_word.S k).OK Tryz.prog GG:=aA (token_word.A k) Gok mixed rfl (by kernel_rfl) ⟨fun _=>rfl,trivial⟩ ⟨token_letter.ok k,token_run_token_tail.ok k,token_run_token_digit.ok k,token_tail.ok k,token_digit.ok k,strconv_Atoi.ok k,utf8_DecodeRuneInString.ok k,token_sign.ok k,trivial⟩ trivial fun y=>congrFun (congrFun token_word.e k) y
noncomputable def syntax_reader_sign.S (k:Nat) : FS Gg:=⟨58,⟨[(0,false,[.pt 2 0]),(1,false,[.s .str])],[(2,.blk 80 [.pt 3 0,.s (.row 76),.s (.int .i64),.s (.int .i64),.s (.int .i64),.s .bool,.s .bool]),(3,.blk 56 [.ow 4,.mp 5]),(4,.own 60),(5,.mp 60 3)]⟩,Exn (T_syntax_broken×T_syntax_reader) (Bool×T_syntax_reader),fun y=>syntax_reader_sign.f (⟨y.2.1,y.2.2.1,y.2.2.2.1,y.2.2.2.2.1,y.2.2.2.2.2.1,y.2.2.2.2.2.2.1⟩) y.1 (⟨y.2.2.2.2.2.2.2.1⟩) y.2.2.2.2.2.2.2.2.1,fun r=>match r with | .ex r=>⟨true,⟨[(111,true,[.s (.st 111)])],[(2,.blk 80 [.pt 3 0,.s (.row 76),.s (.int .i64),.s (.int .i64),.s (.int .i64),.s .bool,.s .bool])]⟩,(r.1,r.2.f_l,r.2.f_i,r.2.f_names,r.2.f_nest,r.2.f_counts,r.2.f_full,())⟩ | .ok r=>⟨false,⟨[(0,false,[.s .bool])],[(2,.blk 80 [.pt 3 0,.s (.row 76),.s (.int .i64),.s (.int .i64),.s (.int .i64),.s .bool,.s .bool])]⟩,(r.1,r.2.f_l,r.2.f_i,r.2.f_names,r.2.f_nest,r.2.f_counts,r.2.f_full,())⟩,fun _ r k=>match r with | .ex r=>k true ⟨[(111,true,[.s (.st 111)])],[(2,.blk 80 [.pt 3 0,.s (.row 76),.s (.int .i64),.s (.int .i64),.s (.int .i64),.s .bool,.s .bool])]⟩ (r.1,r.2.f_l,r.2.f_i,r.2.f_names,r.2.f_nest,r.2.f_counts,r.2.f_full,()) | .ok r=>k false ⟨[(0,false,[.s .bool])],[(2,.blk 80 [.pt 3 0,.s (.row 76),.s (.int .i64),.s (.int .i64),.s (.int .i64),.s .bool,.s .bool])]⟩ (r.1,r.2.f_l,r.2.f_i,r.2.f_names,r.2.f_nest,r.2.f_counts,r.2.f_full,()),fun _ r _=>by cases r <;> rfl,[2],false⟩
noncomputable def syntax_reader_sign.A (k:Nat) : Ax (syntax_reader_sign.S k):=⟨Tryz.f58,[⟨true,⟨[(111,true,[.s (.st 111)])],[(2,.blk 80 [.pt 3 0,.s (.row 76),.s (.int .i64),.s (.int .i64),.s (.int .i64),.s .bool,.s .bool])]⟩,fun y => .ex (y.1,⟨y.2.1,y.2.2.1,y.2.2.2.1,y.2.2.2.2.1,y.2.2.2.2.2.1,y.2.2.2.2.2.2.1⟩)⟩,⟨false,⟨[(0,false,[.s .bool])],[(2,.blk 80 [.pt 3 0,.s (.row 76),.s (.int .i64),.s (.int .i64),.s (.int .i64),.s .bool,.s .bool])]⟩,fun y => .ok (y.1,⟨y.2.1,y.2.2.1,y.2.2.2.1,y.2.2.2.2.1,y.2.2.2.2.2.1,y.2.2.2.2.2.2.1⟩)⟩],[syntax_reader_now.S k,syntax_reader_take.S k],[(14,⟨Bool,⟨[(16,false,[.s .bool])],[]⟩,fun y=>y.1,fun r=>(r,()),fun _=>rfl,false⟩)],[],[],[],[]⟩
theorem syntax_reader_sign.e:(fun k y=>bodyA ((syntax_reader_sign.A k).cx Tryz.prog) (syntax_reader_sign.S k).pin y)=(fun k y=>(syntax_reader_sign.S k).D y):=by kernel_rfl
theorem syntax_reader_sign.ok (k:Nat) : (syntax_reader_sign.S k).OK Tryz.prog GG:=aA (syntax_reader_sign.A k) Gok mixed rfl (by kernel_rfl) ⟨fun _=>rfl,fun _=>rfl,trivial⟩ ⟨syntax_reader_now.ok k,syntax_reader_take.ok k,trivial⟩ trivial fun y=>congrFun (congrFun syntax_reader_sign.e k) y
noncomputable def dictumref02_one.S (k:Nat) : FS Gg:=⟨85,⟨[(0,false,[.s .str]),(1,false,[.s (.int .i64)])],[]⟩,T_api_Token×Int×Int,fun y=>dictumref02_one.f k y.1 y.2.1,fun r=>⟨false,⟨[(0,true,[.s (.st 76)]),(1,false,[.s (.int .i64)]),(2,false,[.s (.int .i64)])],[]⟩,(r.1,r.2.1,r.2.2,())⟩,fun _ r k=>k false ⟨[(0,true,[.s (.st 76)]),(1,false,[.s (.int .i64)]),(2,false,[.s (.int .i64)])],[]⟩ (r.1,r.2.1,r.2.2,()),fun _ _ _=>rfl,[],true⟩
noncomputable def dictumref02_one.W0 (k:Nat) (n:Nat) (i:HL Gg.α (Pat.sh ⟨[(0,false,[.s .str]),(1,false,[.s (.int .i64)]),(4,false,[.pt 180 0])],[(180,.blk 76 [.s (.int .i64),.s .str,.s (.int .i64),.s (.int .i64),.s (.int .i64),.s (.int .i64)])]⟩)) (m:HL Gg.α (Pat.sh ⟨[(7,false,[.s (.int .i64)])],[]⟩)) : Option (Int):=dictumref02_one.l1 k i.1 n m.1
noncomputable def dictumref02_one.L0 (k:Nat) : LH Gg (T_api_Token×Int×Int):={ I:=⟨[(0,false,[.s .str]),(1,false,[.s (.int .i64)]),(4,false,[.pt 180 0])],[(180,.blk 76 [.s (.int .i64),.s .str,.s (.int .i64),.s (.int .i64),.s (.int .i64),.s (.int .i64)])]⟩,M:=⟨[(7,false,[.s (.int .i64)])],[]⟩,X:=Int,L:=dictumref02_one.W0 k k,E:=⟨[(7,false,[.s (.int .i64)])],[]⟩,out:=fun e => .inr (e,()),el:=fun _ e _ b=>b (e,()),law:=fun _ _ _ _=>rfl }
noncomputable def dictumref02_one.W1 (k:Nat) (n:Nat) (i:HL Gg.α (Pat.sh ⟨[(0,false,[.s .str]),(1,false,[.s (.int .i64)]),(4,false,[.pt 180 0]),(8,false,[.ow 1240])],[(180,.blk 76 [.s (.int .i64),.s .str,.s (.int .i64),.s (.int .i64),.s (.int .i64),.s (.int .i64)]),(1240,.own 152)]⟩)) (m:HL Gg.α (Pat.sh ⟨[(9,false,[.s (.int .i64)])],[]⟩)) : Option (Sum (T_api_Token×Int×Int) (Unit)):=dictumref02_one.l2 k i.1 i.2.1 i.2.2.2.2.2.2.2.2.1 n m.1
noncomputable def dictumref02_one.L1 (k:Nat) : LH Gg (T_api_Token×Int×Int):={ I:=⟨[(0,false,[.s .str]),(1,false,[.s (.int .i64)]),(4,false,[.pt 180 0]),(8,false,[.ow 1240])],[(180,.blk 76 [.s (.int .i64),.s .str,.s (.int .i64),.s (.int .i64),.s (.int .i64),.s (.int .i64)]),(1240,.own 152)]⟩,M:=⟨[(9,false,[.s (.int .i64)])],[]⟩,X:=Sum (T_api_Token×Int×Int) (Unit),L:=dictumref02_one.W1 k k,E:=⟨[],[]⟩,out:=fun z=>match z with | .inl r => .inl r | .inr e => .inr (),el:=fun _ z a b=>match z with | .inl r=>a r | .inr e=>b (),law:=fun _ z _ _=>by cases z <;> rfl }
noncomputable def dictumref02_one.W2 (k:Nat) (n:Nat) (i:HL Gg.α (Pat.sh ⟨[(0,false,[.s .str]),(1,false,[.s (.int .i64)]),(4,false,[.pt 180 0]),(10,false,[.ow 1920])],[(180,.blk 76 [.s (.int .i64),.s .str,.s (.int .i64),.s (.int .i64),.s (.int .i64),.s (.int .i64)]),(1920,.own 9)]⟩)) (m:HL Gg.α (Pat.sh ⟨[(11,false,[.s (.int .i64)])],[]⟩)) : Option (Sum (T_api_Token×Int×Int) (Unit)):=dictumref02_one.l3 k i.1 i.2.1 i.2.2.2.2.2.2.2.2.1 n m.1
noncomputable def dictumref02_one.L2 (k:Nat) : LH Gg (T_api_Token×Int×Int):={ I:=⟨[(0,false,[.s .str]),(1,false,[.s (.int .i64)]),(4,false,[.pt 180 0]),(10,false,[.ow 1920])],[(180,.blk 76 [.s (.int .i64),.s .str,.s (.int .i64),.s (.int .i64),.s (.int .i64),.s (.int .i64)]),(1920,.own 9)]⟩,M:=⟨[(11,false,[.s (.int .i64)])],[]⟩,X:=Sum (T_api_Token×Int×Int) (Unit),L:=dictumref02_one.W2 k k,E:=⟨[],[]⟩,out:=fun z=>match z with | .inl r => .inl r | .inr e => .inr (),el:=fun _ z a b=>match z with | .inl r=>a r | .inr e=>b (),law:=fun _ z _ _=>by cases z <;> rfl }
noncomputable def dictumref02_one.A (k:Nat) : Ax (dictumref02_one.S k):=⟨Tryz.f85,[⟨false,⟨[(0,true,[.s (.st 76)]),(1,false,[.s (.int .i64)]),(2,false,[.s (.int .i64)])],[]⟩,fun y=>(y.1,y.2.1,y.2.2.1)⟩],[dictumref02_letter.S k,dictumref02_within.S k,dictumref02_digit.S k,dictumref02_number.S k,dictumref02_specials.S k,dictumref02_at.S k,dictumref02_Signs.S k],[(1872,⟨Bool,⟨[(32,false,[.s .bool])],[]⟩,fun y=>y.1,fun r=>(r,()),fun _=>rfl,false⟩)],[(234,dictumref02_one.L0 k),(253,dictumref02_one.L1 k),(1021,dictumref02_one.L2 k)],[(64804,[180]),(261412,[180])],[],[]⟩
theorem dictumref02_one.e0:(fun k n i m=>roundA false ((dictumref02_one.A k).cx Tryz.prog) (dictumref02_one.L0 k).X 234 (dictumref02_one.L0 k).I (dictumref02_one.L0 k).M (dictumref02_one.L0 k).E (fun _=>none) (fun _ y=>some (y.1)) (fun _=>dictumref02_one.W0 k n i) i m)=(fun k n i m=>dictumref02_one.W0 k (n+1) i m):=by kernel_rfl
theorem dictumref02_one.e1:(fun k n i m=>roundA false ((dictumref02_one.A k).cx Tryz.prog) (dictumref02_one.L1 k).X 253 (dictumref02_one.L1 k).I (dictumref02_one.L1 k).M (dictumref02_one.L1 k).E (fun r=>some (.inl r)) (fun _ y=>some (.inr ())) (fun _=>dictumref02_one.W1 k n i) i m)=(fun k n i m=>dictumref02_one.W1 k (n+1) i m):=by kernel_rfl
theorem dictumref02_one.e2:(fun k n i m=>roundA false ((dictumref02_one.A k).cx Tryz.prog) (dictumref02_one.L2 k).X 1021 (dictumref02_one.L2 k).I (dictumref02_one.L2 k).M (dictumref02_one.L2 k).E (fun r=>some (.inl r)) (fun _ y=>some (.inr ())) (fun _=>dictumref02_one.W2 k n i) i m)=(fun k n i m=>dictumref02_one.W2 k (n+1) i m):=by kernel_rfl
theorem dictumref02_one.e:(fun k y=>bodyA ((dictumref02_one.A k).cx Tryz.prog) (dictumref02_one.S k).pin y)=(fun k y=>(dictumref02_one.S k).D y):=by kernel_rfl
theorem dictumref02_one.ok (k:Nat) : (dictumref02_one.S k).OK Tryz.prog GG:=aA (dictumref02_one.A k) Gok mixed rfl (by kernel_rfl) ⟨fun _=>rfl,trivial⟩ ⟨dictumref02_letter.ok k,dictumref02_within.ok k,dictumref02_digit.ok k,dictumref02_number.ok k,dictumref02_specials.ok k,dictumref02_at.ok k,dictumref02_Signs.ok k,trivial⟩ ⟨lp (dictumref02_one.W0 k) k (fun _=>none) (fun y=>y.1) (fun n i m=>congrFun (congrFun (congrFun (congrFun dictumref02_one.e0 k) n) i) m) (fun _ _=>rfl) (fun _ _=>rfl) (fun _ _ h=>by cases h) (fun _=>rfl),lp (dictumref02_one.W1 k) k (fun r=>some (.inl r)) (fun y => .inr ()) (fun n i m=>congrFun (congrFun (congrFun (congrFun dictumref02_one.e1 k) n) i) m) (fun _ _=>rfl) (fun _ _=>rfl) (fun _ _ h=>by cases h; rfl) (fun _=>rfl),lp (dictumref02_one.W2 k) k (fun r=>some (.inl r)) (fun y => .inr ()) (fun n i m=>congrFun (congrFun (congrFun (congrFun dictumref02_one.e2 k) n) i) m) (fun _ _=>rfl) (fun _ _=>rfl) (fun _ _ h=>by cases h; rfl) (fun _=>rfl),trivial⟩ fun y=>congrFun (congrFun dictumref02_one.e k) y
noncomputable def dictumref04_parser_put.S (k:Nat) : FS Gg:=⟨87,⟨[(0,false,[.pt 2 0]),(1,true,[.s (.st 60)])],[(2,.blk 89 [.pt 3 0,.s (.row 76),.s (.int .i64),.s (.int .i64),.s (.int .i64),.s .bool,.s (.int .i64),.s (.int .i64),.s (.int .i64),.s (.int .i64)]),(3,.blk 53 [.ow 4]),(4,.own 60)]⟩,Int×T_dictumref04_parser×T_dictumref03_T,fun y=>dictumref04_parser_put.f k (⟨y.2.1,y.2.2.1,y.2.2.2.1,y.2.2.2.2.1,y.2.2.2.2.2.1,⟨y.2.2.2.2.2.2.1,⟨y.2.2.2.2.2.2.2.1,y.2.2.2.2.2.2.2.2.1,y.2.2.2.2.2.2.2.2.2.1⟩⟩⟩) y.1 (⟨y.2.2.2.2.2.2.2.2.2.2.1⟩),fun r=>⟨false,⟨[(0,false,[.s (.int .i64)])],[(2,.blk 89 [.pt 3 0,.s (.row 76),.s (.int .i64),.s (.int .i64),.s (.int .i64),.s .bool,.s (.int .i64),.s (.int .i64),.s (.int .i64),.s (.int .i64)]),(3,.blk 53 [.ow 4]),(4,.own 60)]⟩,(r.1,r.2.1.f_l,r.2.1.f_i,r.2.1.f_n,r.2.1.f_deep,r.2.1.f_full,r.2.1.f_bad.f_Code,r.2.1.f_bad.f_At.f_Line,r.2.1.f_bad.f_At.f_Col,r.2.1.f_bad.f_At.f_Off,r.2.2.f_N,())⟩,fun _ r k=>k false ⟨[(0,false,[.s (.int .i64)])],[(2,.blk 89 [.pt 3 0,.s (.row 76),.s (.int .i64),.s (.int .i64),.s (.int .i64),.s .bool,.s (.int .i64),.s (.int .i64),.s (.int .i64),.s (.int .i64)]),(3,.blk 53 [.ow 4]),(4,.own 60)]⟩ (r.1,r.2.1.f_l,r.2.1.f_i,r.2.1.f_n,r.2.1.f_deep,r.2.1.f_full,r.2.1.f_bad.f_Code,r.2.1.f_bad.f_At.f_Line,r.2.1.f_bad.f_At.f_Col,r.2.1.f_bad.f_At.f_Off,r.2.2.f_N,()),fun _ _ _=>rfl,[2,3,4],false⟩
noncomputable def dictumref04_parser_put.A (k:Nat) : Ax (dictumref04_parser_put.S k):=⟨Tryz.f87,[⟨false,⟨[(0,false,[.s (.int .i64)])],[(2,.blk 89 [.pt 3 0,.s (.row 76),.s (.int .i64),.s (.int .i64),.s (.int .i64),.s .bool,.s (.int .i64),.s (.int .i64),.s (.int .i64),.s (.int .i64)]),(3,.blk 53 [.ow 4]),(4,.own 60)]⟩,fun y=>(y.1,⟨y.2.1,y.2.2.1,y.2.2.2.1,y.2.2.2.2.1,y.2.2.2.2.2.1,⟨y.2.2.2.2.2.2.1,⟨y.2.2.2.2.2.2.2.1,y.2.2.2.2.2.2.2.2.1,y.2.2.2.2.2.2.2.2.2.1⟩⟩⟩,⟨y.2.2.2.2.2.2.2.2.2.2.1⟩)⟩],[dictumref03_T_Put.S k],[(6,⟨Bool,⟨[(18,false,[.s .bool])],[]⟩,fun y=>y.1,fun r=>(r,()),fun _=>rfl,false⟩)],[],[(14,[3,4])],[],[]⟩
theorem dictumref04_parser_put.e:(fun k y=>bodyA ((dictumref04_parser_put.A k).cx Tryz.prog) (dictumref04_parser_put.S k).pin y)=(fun k y=>(dictumref04_parser_put.S k).D y):=by kernel_rfl
theorem dictumref04_parser_put.ok (k:Nat) : (dictumref04_parser_put.S k).OK Tryz.prog GG:=aA (dictumref04_parser_put.A k) Gok mixed rfl (by kernel_rfl) ⟨fun _=>rfl,trivial⟩ ⟨dictumref03_T_Put.ok k,trivial⟩ trivial fun y=>congrFun (congrFun dictumref04_parser_put.e k) y
noncomputable def syntax_pieces.S (k:Nat) : FS Gg:=⟨50,⟨[(0,false,[.pt 2 0]),(1,true,[.s (.st 60)])],[(2,.blk 56 [.ow 3,.mp 4]),(3,.own 60),(4,.mp 60 3)]⟩,(List UInt8)×(List Int)×(List Int),fun y=>syntax_pieces.f (⟨y.2.1⟩) y.1 y.2.2.1,fun r=>⟨false,⟨[(0,false,[.s .str]),(1,false,[.ow 39]),(2,false,[.ow 38])],[(39,.own 3),(38,.own 3)]⟩,(r.1,r.2.1,r.2.2,())⟩,fun _ r k=>k false ⟨[(0,false,[.s .str]),(1,false,[.ow 39]),(2,false,[.ow 38])],[(39,.own 3),(38,.own 3)]⟩ (r.1,r.2.1,r.2.2,()),fun _ _ _=>rfl,[],true⟩
noncomputable def syntax_pieces.fb (a0:T_formula_Table) (a1:T_api_Node) (a0_1:(List (T_api_Node×Int))) : Option ((List UInt8)×(List Int)×(List Int)):=
 (bif (a1.f_Kind == 3) then
 (SX.both
 (some (([32,38,32] : List UInt8),[a1.f_L,a1.f_R],[2,3]))
 (some (([32,38,32] : List UInt8),[a1.f_L,a1.f_R],[2,3])))
 else
 (bif (a1.f_Kind == 4) then
 (SX.both
 (some (([32,124,32] : List UInt8),[a1.f_L,a1.f_R],[1,2]))
 (some (([32,124,32] : List UInt8),[a1.f_L,a1.f_R],[1,2])))
 else
 (bif (a1.f_Kind == 5) then
 ((syntax_bot.f a0 a1.f_L a0_1).bind fun z170 =>
 (bif z170 then
 (syntax_bot.f a0 a1.f_R a0_1).bind fun z175 =>
 some z175
 else
 some false) : Option (Bool)).bind fun z134 =>
 (bif z134 then
 some (([116,114,117,101] : List UInt8),([] : List Int),([] : List Int))
 else
 (syntax_bot.f a0 a1.f_R a0_1).bind fun z140 =>
 (bif z140 then
 (SX.both
 (some (([126] : List UInt8),[a1.f_L],[3]))
 (some (([126] : List UInt8),[a1.f_L],[3])))
 else
 (SX.both
 (some (([32,45,62,32] : List UInt8),[a1.f_L,a1.f_R],[1,0]))
 (some (([32,45,62,32] : List UInt8),[a1.f_L,a1.f_R],[1,0])))))
 else
 (bif (a1.f_Kind == 2) then
 some (([102,97,108,115,101] : List UInt8),([] : List Int),([] : List Int))
 else
 some (a1.f_Name,([] : List Int),([] : List Int))))))
theorem syntax_pieces.f_eq (a0:T_formula_Table) (a1:T_api_Node) (a0_1:(List (T_api_Node×Int))) : syntax_pieces.f a0 a1 a0_1=syntax_pieces.fb a0 a1 a0_1:=by
 unfold syntax_pieces.f syntax_pieces.fb
 first | rfl | (simp only [SX.both_self,SX.nilK_eq] <;> rfl)
noncomputable def syntax_pieces.Sb (k:Nat) : FS Gg:={ syntax_pieces.S k with D:=fun y=>syntax_pieces.fb (⟨y.2.1⟩) y.1 y.2.2.1 }
noncomputable def syntax_pieces.A (k:Nat) : Ax (syntax_pieces.Sb k):=⟨Tryz.f50,[⟨false,⟨[(0,false,[.s .str]),(1,false,[.ow 39]),(2,false,[.ow 38])],[(39,.own 3),(38,.own 3)]⟩,fun y=>(y.1,y.2.1,y.2.2.1)⟩],[syntax_bot.S k],[(6904,⟨Bool,⟨[(27,false,[.s .bool])],[]⟩,fun y=>y.1,fun r=>(r,()),fun _=>rfl,false⟩)],[],[],[],[]⟩
theorem syntax_pieces.e:(fun k y=>bodyA ((syntax_pieces.A k).cx Tryz.prog) (syntax_pieces.Sb k).pin y)=(fun k y=>(syntax_pieces.Sb k).D y):=by kernel_rfl
theorem syntax_pieces.okb (k:Nat) : (syntax_pieces.Sb k).OK Tryz.prog GG:=aA (syntax_pieces.A k) Gok mixed rfl (by kernel_rfl) ⟨fun _=>rfl,trivial⟩ ⟨syntax_bot.ok k,trivial⟩ trivial fun y=>congrFun (congrFun syntax_pieces.e k) y
theorem syntax_pieces.ok (k:Nat) : (syntax_pieces.S k).OK Tryz.prog GG:=FS.OK.same (s:=syntax_pieces.S k) (D':=fun y=>syntax_pieces.fb (⟨y.2.1⟩) y.1 y.2.2.1) (syntax_pieces.okb k) fun y=>(syntax_pieces.f_eq (⟨y.2.1⟩) y.1 y.2.2.1).symm
noncomputable def syntax_level.S (k:Nat) : FS Gg:=⟨51,⟨[(0,false,[.pt 2 0]),(1,false,[.s (.int .i64)])],[(2,.blk 56 [.ow 3,.mp 4]),(3,.own 60),(4,.mp 60 3)]⟩,Int,fun y=>syntax_level.f (⟨y.2.1⟩) y.1 y.2.2.1,fun r=>⟨false,⟨[(0,false,[.s (.int .i64)])],[]⟩,(r,())⟩,fun _ r k=>k false ⟨[(0,false,[.s (.int .i64)])],[]⟩ (r,()),fun _ _ _=>rfl,[],true⟩
noncomputable def syntax_level.A (k:Nat) : Ax (syntax_level.S k):=⟨Tryz.f51,[⟨false,⟨[(0,false,[.s (.int .i64)])],[]⟩,fun y=>y.1⟩],[formula_Table_Node.S k,syntax_bot.S k],[],[],[],[],[]⟩
theorem syntax_level.e:(fun k y=>bodyA ((syntax_level.A k).cx Tryz.prog) (syntax_level.S k).pin y)=(fun k y=>(syntax_level.S k).D y):=by kernel_rfl
theorem syntax_level.ok (k:Nat) : (syntax_level.S k).OK Tryz.prog GG:=aA (syntax_level.A k) Gok mixed rfl (by kernel_rfl) ⟨fun _=>rfl,trivial⟩ ⟨formula_Table_Node.ok k,syntax_bot.ok k,trivial⟩ trivial fun y=>congrFun (congrFun syntax_level.e k) y
noncomputable def formula_From.S (k:Nat) : FS Gg:=⟨47,⟨[(0,false,[.s (.row 60)])],[]⟩,Exn (Int) ((T_formula_Table×(List (T_api_Node×Int)))),fun y=>formula_From.f k y.1,fun r=>match r with | .ex r=>⟨false,⟨[(0,false,[.np]),(1,false,[.s (.int .i64)])],[]⟩,(r,())⟩ | .ok r=>⟨false,⟨[(0,false,[.pt 39 0]),(1,false,[.li .i64 0])],[(39,.blk 56 [.ow 38,.mp 37]),(38,.own 60),(37,.mp 60 3)]⟩,(r.1.f_rows,r.2,())⟩,fun _ r k=>match r with | .ex r=>k false ⟨[(0,false,[.np]),(1,false,[.s (.int .i64)])],[]⟩ (r,()) | .ok r=>k false ⟨[(0,false,[.pt 39 0]),(1,false,[.li .i64 0])],[(39,.blk 56 [.ow 38,.mp 37]),(38,.own 60),(37,.mp 60 3)]⟩ (r.1.f_rows,r.2,()),fun _ r _=>by cases r <;> rfl,[],true⟩
noncomputable def formula_From.l1b (k:Nat) (a0:(List T_api_Node)) (y113:Int) : Nat→Int→T_formula_Table→(List (T_api_Node×Int))→Option (Sum (Exn (Int) ((T_formula_Table×(List (T_api_Node×Int))))) (T_formula_Table×(List (T_api_Node×Int))))
 | 0,_,_,_=>none
 | kk+1,x115,x116,x119 =>
  (bif (decide (x115 < y113)) then
  (ix a0 x115).bind fun x132 =>
  (formula_Table_Put.f k x116 x132 x119).bind fun z150 =>
  (((bif (z150.2.1 == 0) then
  some (z150.1 != x115)
  else
  some false) : Option (Bool)).bind fun z167 =>
  (bif z167 then
  some 31
  else
  some z150.2.1) : Option (Int)).bind fun z159 =>
  (bif (z159 != 0) then
  some (.inl (.ex z159))
  else
  formula_From.l1b k a0 y113 kk (wrap64 (x115+1)) z150.2.2.1 z150.2.2.2)
  else
  some (.inr (x116,x119)))
theorem formula_From.l1_eq (k:Nat) (a0:(List T_api_Node)) (n:Nat) : formula_From.l1 k a0 n=formula_From.l1b k a0 (a0.length:Int) n:=by
 induction n with
 | zero=>rfl
 | succ n ih=>funext v0_ v1_ v2_; simp only [formula_From.l1,formula_From.l1b,ih,SX.both_self,SX.nilK_eq] <;> rfl
noncomputable def formula_From.fb (k:Nat) (a0:(List T_api_Node)) : Option (Exn (Int) ((T_formula_Table×(List (T_api_Node×Int))))):=
 (formula_New.f ).bind fun z101 =>
 (formula_From.l1b k a0 (a0.length:Int) k 0 z101.1 z101.2).bind fun z124=>match z124 with
 | .inl r_=>some r_
 | .inr (x120,x123) =>
 some (.ok (x120,x123))
theorem formula_From.f_eq (k:Nat) (a0:(List T_api_Node)) : formula_From.f k a0=formula_From.fb k a0:=by
 unfold formula_From.f formula_From.fb
 first | rfl | (simp only [formula_From.l1_eq,SX.both_self,SX.nilK_eq] <;> rfl)
noncomputable def formula_From.Sb (k:Nat) : FS Gg:={ formula_From.S k with D:=fun y=>formula_From.fb k y.1 }
noncomputable def formula_From.W0 (k:Nat) (n:Nat) (i:HL Gg.α (Pat.sh ⟨[(4,false,[.pt 280 0]),(10,false,[.s (.row 60)]),(11,false,[.s (.int .i64)])],[]⟩)) (m:HL Gg.α (Pat.sh ⟨[(12,false,[.s (.int .i64)])],[(280,.blk 56 [.ow 281,.mp 282]),(282,.mp 60 3),(281,.own 60)]⟩)) : Option (Sum (Exn (Int) ((T_formula_Table×(List (T_api_Node×Int))))) (T_formula_Table×(List (T_api_Node×Int)))):=formula_From.l1b k i.1 i.2.1 n m.1 (⟨m.2.2.1⟩) m.2.1
noncomputable def formula_From.L0 (k:Nat) : LH Gg (Exn (Int) ((T_formula_Table×(List (T_api_Node×Int))))):={ I:=⟨[(4,false,[.pt 280 0]),(10,false,[.s (.row 60)]),(11,false,[.s (.int .i64)])],[]⟩,M:=⟨[(12,false,[.s (.int .i64)])],[(280,.blk 56 [.ow 281,.mp 282]),(282,.mp 60 3),(281,.own 60)]⟩,X:=Sum (Exn (Int) ((T_formula_Table×(List (T_api_Node×Int))))) (T_formula_Table×(List (T_api_Node×Int))),L:=formula_From.W0 k k,E:=⟨[],[(280,.blk 56 [.ow 281,.mp 282]),(282,.mp 60 3),(281,.own 60)]⟩,out:=fun z=>match z with | .inl r => .inl r | .inr e => .inr (e.2,e.1.f_rows,()),el:=fun _ z a b=>match z with | .inl r=>a r | .inr e=>b (e.2,e.1.f_rows,()),law:=fun _ z _ _=>by cases z <;> rfl }
noncomputable def formula_From.A (k:Nat) : Ax (formula_From.Sb k):=⟨Tryz.f47,[⟨false,⟨[(0,false,[.np]),(1,false,[.s (.int .i64)])],[]⟩,fun y => .ex y.1⟩,⟨false,⟨[(0,false,[.pt 39 0]),(1,false,[.li .i64 0])],[(39,.blk 56 [.ow 38,.mp 37]),(38,.own 60),(37,.mp 60 3)]⟩,fun y => .ok (⟨y.1⟩,y.2.1)⟩],[formula_New.S k,formula_Table_Put.S k],[(7475,⟨Int,⟨[(8,false,[.s (.int .i64)])],[]⟩,fun y=>y.1,fun r=>(r,()),fun _=>rfl,false⟩),(14950,⟨Bool,⟨[(29,false,[.s .bool])],[]⟩,fun y=>y.1,fun r=>(r,()),fun _=>rfl,false⟩)],[(29,formula_From.L0 k)],[],[],[]⟩
theorem formula_From.e0:(fun k n i m=>roundA false ((formula_From.A k).cx Tryz.prog) (formula_From.L0 k).X 29 (formula_From.L0 k).I (formula_From.L0 k).M (formula_From.L0 k).E (fun r=>some (.inl r)) (fun _ y=>some (.inr (⟨y.2.1⟩,y.1))) (fun _=>formula_From.W0 k n i) i m)=(fun k n i m=>formula_From.W0 k (n+1) i m):=by kernel_rfl
theorem formula_From.e:(fun k y=>bodyA ((formula_From.A k).cx Tryz.prog) (formula_From.Sb k).pin y)=(fun k y=>(formula_From.Sb k).D y):=by kernel_rfl
theorem formula_From.okb (k:Nat) : (formula_From.Sb k).OK Tryz.prog GG:=aA (formula_From.A k) Gok mixed rfl (by kernel_rfl) ⟨fun _=>rfl,fun _=>rfl,trivial⟩ ⟨formula_New.ok k,formula_Table_Put.ok k,trivial⟩ ⟨lp (formula_From.W0 k) k (fun r=>some (.inl r)) (fun y => .inr (⟨y.2.1⟩,y.1)) (fun n i m=>congrFun (congrFun (congrFun (congrFun formula_From.e0 k) n) i) m) (fun _ _=>rfl) (fun _ _=>rfl) (fun _ _ h=>by cases h; rfl) (fun _=>rfl),trivial⟩ fun y=>congrFun (congrFun formula_From.e k) y
theorem formula_From.ok (k:Nat) : (formula_From.S k).OK Tryz.prog GG:=FS.OK.same (s:=formula_From.S k) (D':=fun y=>formula_From.fb k y.1) (formula_From.okb k) fun y=>(formula_From.f_eq k y.1).symm
noncomputable def token_Scan.S (k:Nat) : FS Gg:=⟨54,⟨[(0,false,[.s .str])],[]⟩,(List T_api_Token)×T_api_Fault,fun y=>token_Scan.f k y.1,fun r=>⟨false,⟨[(0,false,[.ow 39]),(1,true,[.s (.st 36)])],[(39,.own 76)]⟩,(r.2,r.1,())⟩,fun _ r k=>k false ⟨[(0,false,[.ow 39]),(1,true,[.s (.st 36)])],[(39,.own 76)]⟩ (r.2,r.1,()),fun _ _ _=>rfl,[],true⟩
noncomputable def token_Scan.W0 (k:Nat) (n:Nat) (i:HL Gg.α (Pat.sh ⟨[(3,false,[.pt 160 0]),(4,false,[.pt 340 0])],[(160,.blk 36 [.s (.int .i64),.s (.int .i64),.s (.int .i64),.s (.int .i64)])]⟩)) (m:HL Gg.α (Pat.sh ⟨[(5,false,[.ow 1100])],[(340,.blk 128 [.s .str,.s (.int .i64),.s (.int .i64),.s (.int .i64)]),(1100,.own 76)]⟩)) : Option (Sum ((List T_api_Token)×T_api_Fault) (Unit)):=token_Scan.l1 k n m.2.2.2.2.1 (⟨m.1,⟨m.2.1,m.2.2.1,m.2.2.2.1⟩⟩)
noncomputable def token_Scan.L0 (k:Nat) : LH Gg ((List T_api_Token)×T_api_Fault):={ I:=⟨[(3,false,[.pt 160 0]),(4,false,[.pt 340 0])],[(160,.blk 36 [.s (.int .i64),.s (.int .i64),.s (.int .i64),.s (.int .i64)])]⟩,M:=⟨[(5,false,[.ow 1100])],[(340,.blk 128 [.s .str,.s (.int .i64),.s (.int .i64),.s (.int .i64)]),(1100,.own 76)]⟩,X:=Sum ((List T_api_Token)×T_api_Fault) (Unit),L:=token_Scan.W0 k k,E:=⟨[],[]⟩,out:=fun z=>match z with | .inl r => .inl r | .inr e => .inr (),el:=fun _ z a b=>match z with | .inl r=>a r | .inr e=>b (),law:=fun _ z _ _=>by cases z <;> rfl }
noncomputable def token_Scan.A (k:Nat) : Ax (token_Scan.S k):=⟨Tryz.f54,[⟨false,⟨[(0,false,[.ow 39]),(1,true,[.s (.st 36)])],[(39,.own 76)]⟩,fun y=>(y.2.1,y.1)⟩],[token_cursor_space.S k,token_cursor_here.S k,token_word.S k,token_cursor_skip.S k],[],[(15,token_Scan.L0 k)],[],[],[]⟩
theorem token_Scan.e0:(fun k n i m=>roundA false ((token_Scan.A k).cx Tryz.prog) (token_Scan.L0 k).X 15 (token_Scan.L0 k).I (token_Scan.L0 k).M (token_Scan.L0 k).E (fun r=>some (.inl r)) (fun _ y=>some (.inr ())) (fun _=>token_Scan.W0 k n i) i m)=(fun k n i m=>token_Scan.W0 k (n+1) i m):=by kernel_rfl
theorem token_Scan.e:(fun k y=>bodyA ((token_Scan.A k).cx Tryz.prog) (token_Scan.S k).pin y)=(fun k y=>(token_Scan.S k).D y):=by kernel_rfl
theorem token_Scan.ok (k:Nat) : (token_Scan.S k).OK Tryz.prog GG:=aA (token_Scan.A k) Gok mixed rfl (by kernel_rfl) ⟨fun _=>rfl,trivial⟩ ⟨token_cursor_space.ok k,token_cursor_here.ok k,token_word.ok k,token_cursor_skip.ok k,trivial⟩ ⟨lp (token_Scan.W0 k) k (fun r=>some (.inl r)) (fun y => .inr ()) (fun n i m=>congrFun (congrFun (congrFun (congrFun token_Scan.e0 k) n) i) m) (fun _ _=>rfl) (fun _ _=>rfl) (fun _ _ h=>by cases h; rfl) (fun _=>rfl),trivial⟩ fun y=>congrFun (congrFun token_Scan.e k) y
noncomputable def syntax_reader_node.S (k:Nat) : FS Gg:=⟨59,⟨[(0,false,[.pt 2 0]),(1,false,[.s (.int .i64)]),(2,false,[.s .str]),(3,false,[.s (.int .i64)]),(4,false,[.s (.int .i64)])],[(2,.blk 80 [.pt 3 0,.s (.row 76),.s (.int .i64),.s (.int .i64),.s (.int .i64),.s .bool,.s .bool]),(3,.blk 56 [.ow 4,.mp 5]),(4,.own 60),(5,.mp 60 3)]⟩,Int×T_syntax_reader×T_formula_Table×(List (T_api_Node×Int)),fun y=>syntax_reader_node.f k (⟨y.2.2.2.2.1,y.2.2.2.2.2.1,y.2.2.2.2.2.2.1,y.2.2.2.2.2.2.2.1,y.2.2.2.2.2.2.2.2.1,y.2.2.2.2.2.2.2.2.2.1⟩) y.1 y.2.1 y.2.2.1 y.2.2.2.1 (⟨y.2.2.2.2.2.2.2.2.2.2.1⟩) y.2.2.2.2.2.2.2.2.2.2.2.1,fun r=>⟨false,⟨[(0,false,[.s (.int .i64)])],[(2,.blk 80 [.pt 3 0,.s (.row 76),.s (.int .i64),.s (.int .i64),.s (.int .i64),.s .bool,.s .bool]),(3,.blk 56 [.ow 4,.mp 5]),(4,.own 60),(5,.mp 60 3)]⟩,(r.1,r.2.1.f_l,r.2.1.f_i,r.2.1.f_names,r.2.1.f_nest,r.2.1.f_counts,r.2.1.f_full,r.2.2.1.f_rows,r.2.2.2,())⟩,fun _ r k=>k false ⟨[(0,false,[.s (.int .i64)])],[(2,.blk 80 [.pt 3 0,.s (.row 76),.s (.int .i64),.s (.int .i64),.s (.int .i64),.s .bool,.s .bool]),(3,.blk 56 [.ow 4,.mp 5]),(4,.own 60),(5,.mp 60 3)]⟩ (r.1,r.2.1.f_l,r.2.1.f_i,r.2.1.f_names,r.2.1.f_nest,r.2.1.f_counts,r.2.1.f_full,r.2.2.1.f_rows,r.2.2.2,()),fun _ _ _=>rfl,[2,3,4,5],false⟩
noncomputable def syntax_reader_node.A (k:Nat) : Ax (syntax_reader_node.S k):=⟨Tryz.f59,[⟨false,⟨[(0,false,[.s (.int .i64)])],[(2,.blk 80 [.pt 3 0,.s (.row 76),.s (.int .i64),.s (.int .i64),.s (.int .i64),.s .bool,.s .bool]),(3,.blk 56 [.ow 4,.mp 5]),(4,.own 60),(5,.mp 60 3)]⟩,fun y=>(y.1,⟨y.2.1,y.2.2.1,y.2.2.2.1,y.2.2.2.2.1,y.2.2.2.2.2.1,y.2.2.2.2.2.2.1⟩,⟨y.2.2.2.2.2.2.2.1⟩,y.2.2.2.2.2.2.2.2.1)⟩],[formula_Table_Put.S k,syntax_reader_put.S k],[],[],[],[],[]⟩
theorem syntax_reader_node.e:(fun k y=>bodyA ((syntax_reader_node.A k).cx Tryz.prog) (syntax_reader_node.S k).pin y)=(fun k y=>(syntax_reader_node.S k).D y):=by kernel_rfl
theorem syntax_reader_node.ok (k:Nat) : (syntax_reader_node.S k).OK Tryz.prog GG:=aA (syntax_reader_node.A k) Gok mixed rfl (by kernel_rfl) ⟨fun _=>rfl,trivial⟩ ⟨formula_Table_Put.ok k,syntax_reader_put.ok k,trivial⟩ trivial fun y=>congrFun (congrFun syntax_reader_node.e k) y
noncomputable def dictumref02_Scan.S (k:Nat) : FS Gg:=⟨61,⟨[(0,false,[.s .str])],[]⟩,(List T_api_Token)×T_api_Fault,fun y=>dictumref02_Scan.f k y.1,fun r=>⟨false,⟨[(0,false,[.ow 39]),(1,true,[.s (.st 36)])],[(39,.own 76)]⟩,(r.2,r.1,())⟩,fun _ r k=>k false ⟨[(0,false,[.ow 39]),(1,true,[.s (.st 36)])],[(39,.own 76)]⟩ (r.2,r.1,()),fun _ _ _=>rfl,[],true⟩
noncomputable def dictumref02_Scan.W0 (k:Nat) (n:Nat) (i:HL Gg.α (Pat.sh ⟨[(0,false,[.s .str]),(3,false,[.pt 160 0]),(6,false,[.pt 220 0])],[(160,.blk 36 [.s (.int .i64),.s (.int .i64),.s (.int .i64),.s (.int .i64)])]⟩)) (m:HL Gg.α (Pat.sh ⟨[(4,false,[.ow 800]),(5,false,[.s (.int .i64)])],[(220,.blk 34 [.s (.int .i64),.s (.int .i64),.s (.int .i64)]),(800,.own 76)]⟩)) : Option (Sum ((List T_api_Token)×T_api_Fault) (Unit)):=dictumref02_Scan.l1 k i.1 n m.2.2.2.2.1 m.1 (⟨m.2.1,m.2.2.1,m.2.2.2.1⟩)
noncomputable def dictumref02_Scan.L0 (k:Nat) : LH Gg ((List T_api_Token)×T_api_Fault):={ I:=⟨[(0,false,[.s .str]),(3,false,[.pt 160 0]),(6,false,[.pt 220 0])],[(160,.blk 36 [.s (.int .i64),.s (.int .i64),.s (.int .i64),.s (.int .i64)])]⟩,M:=⟨[(4,false,[.ow 800]),(5,false,[.s (.int .i64)])],[(220,.blk 34 [.s (.int .i64),.s (.int .i64),.s (.int .i64)]),(800,.own 76)]⟩,X:=Sum ((List T_api_Token)×T_api_Fault) (Unit),L:=dictumref02_Scan.W0 k k,E:=⟨[],[]⟩,out:=fun z=>match z with | .inl r => .inl r | .inr e => .inr (),el:=fun _ z a b=>match z with | .inl r=>a r | .inr e=>b (),law:=fun _ z _ _=>by cases z <;> rfl }
noncomputable def dictumref02_Scan.A (k:Nat) : Ax (dictumref02_Scan.S k):=⟨Tryz.f61,[⟨false,⟨[(0,false,[.ow 39]),(1,true,[.s (.st 36)])],[(39,.own 76)]⟩,fun y=>(y.2.1,y.1)⟩],[dictumref02_skip.S k,dictumref02_on.S k,dictumref02_one.S k],[],[(31,dictumref02_Scan.L0 k)],[],[],[]⟩
theorem dictumref02_Scan.e0:(fun k n i m=>roundA false ((dictumref02_Scan.A k).cx Tryz.prog) (dictumref02_Scan.L0 k).X 31 (dictumref02_Scan.L0 k).I (dictumref02_Scan.L0 k).M (dictumref02_Scan.L0 k).E (fun r=>some (.inl r)) (fun _ y=>some (.inr ())) (fun _=>dictumref02_Scan.W0 k n i) i m)=(fun k n i m=>dictumref02_Scan.W0 k (n+1) i m):=by kernel_rfl
theorem dictumref02_Scan.e:(fun k y=>bodyA ((dictumref02_Scan.A k).cx Tryz.prog) (dictumref02_Scan.S k).pin y)=(fun k y=>(dictumref02_Scan.S k).D y):=by kernel_rfl
theorem dictumref02_Scan.ok (k:Nat) : (dictumref02_Scan.S k).OK Tryz.prog GG:=aA (dictumref02_Scan.A k) Gok mixed rfl (by kernel_rfl) ⟨fun _=>rfl,trivial⟩ ⟨dictumref02_skip.ok k,dictumref02_on.ok k,dictumref02_one.ok k,trivial⟩ ⟨lp (dictumref02_Scan.W0 k) k (fun r=>some (.inl r)) (fun y => .inr ()) (fun n i m=>congrFun (congrFun (congrFun (congrFun dictumref02_Scan.e0 k) n) i) m) (fun _ _=>rfl) (fun _ _=>rfl) (fun _ _ h=>by cases h; rfl) (fun _=>rfl),trivial⟩ fun y=>congrFun (congrFun dictumref02_Scan.e k) y
noncomputable def dictumref04_parser_two.S (k:Nat) : FS Gg:=⟨66,⟨[(0,false,[.pt 2 0]),(1,false,[.s (.int .i64)]),(2,false,[.s (.int .i64)]),(3,false,[.s (.int .i64)])],[(2,.blk 89 [.pt 3 0,.s (.row 76),.s (.int .i64),.s (.int .i64),.s (.int .i64),.s .bool,.s (.int .i64),.s (.int .i64),.s (.int .i64),.s (.int .i64)]),(3,.blk 53 [.ow 4]),(4,.own 60)]⟩,Int×T_dictumref04_parser×T_dictumref03_T,fun y=>dictumref04_parser_two.f k (⟨y.2.2.2.1,y.2.2.2.2.1,y.2.2.2.2.2.1,y.2.2.2.2.2.2.1,y.2.2.2.2.2.2.2.1,⟨y.2.2.2.2.2.2.2.2.1,⟨y.2.2.2.2.2.2.2.2.2.1,y.2.2.2.2.2.2.2.2.2.2.1,y.2.2.2.2.2.2.2.2.2.2.2.1⟩⟩⟩) y.1 y.2.1 y.2.2.1 (⟨y.2.2.2.2.2.2.2.2.2.2.2.2.1⟩),fun r=>⟨false,⟨[(0,false,[.s (.int .i64)])],[(2,.blk 89 [.pt 3 0,.s (.row 76),.s (.int .i64),.s (.int .i64),.s (.int .i64),.s .bool,.s (.int .i64),.s (.int .i64),.s (.int .i64),.s (.int .i64)]),(3,.blk 53 [.ow 4]),(4,.own 60)]⟩,(r.1,r.2.1.f_l,r.2.1.f_i,r.2.1.f_n,r.2.1.f_deep,r.2.1.f_full,r.2.1.f_bad.f_Code,r.2.1.f_bad.f_At.f_Line,r.2.1.f_bad.f_At.f_Col,r.2.1.f_bad.f_At.f_Off,r.2.2.f_N,())⟩,fun _ r k=>k false ⟨[(0,false,[.s (.int .i64)])],[(2,.blk 89 [.pt 3 0,.s (.row 76),.s (.int .i64),.s (.int .i64),.s (.int .i64),.s .bool,.s (.int .i64),.s (.int .i64),.s (.int .i64),.s (.int .i64)]),(3,.blk 53 [.ow 4]),(4,.own 60)]⟩ (r.1,r.2.1.f_l,r.2.1.f_i,r.2.1.f_n,r.2.1.f_deep,r.2.1.f_full,r.2.1.f_bad.f_Code,r.2.1.f_bad.f_At.f_Line,r.2.1.f_bad.f_At.f_Col,r.2.1.f_bad.f_At.f_Off,r.2.2.f_N,()),fun _ _ _=>rfl,[2,3,4],false⟩
noncomputable def dictumref04_parser_two.A (k:Nat) : Ax (dictumref04_parser_two.S k):=⟨Tryz.f66,[⟨false,⟨[(0,false,[.s (.int .i64)])],[(2,.blk 89 [.pt 3 0,.s (.row 76),.s (.int .i64),.s (.int .i64),.s (.int .i64),.s .bool,.s (.int .i64),.s (.int .i64),.s (.int .i64),.s (.int .i64)]),(3,.blk 53 [.ow 4]),(4,.own 60)]⟩,fun y=>(y.1,⟨y.2.1,y.2.2.1,y.2.2.2.1,y.2.2.2.2.1,y.2.2.2.2.2.1,⟨y.2.2.2.2.2.2.1,⟨y.2.2.2.2.2.2.2.1,y.2.2.2.2.2.2.2.2.1,y.2.2.2.2.2.2.2.2.2.1⟩⟩⟩,⟨y.2.2.2.2.2.2.2.2.2.2.1⟩)⟩],[dictumref04_parser_put.S k],[],[],[],[],[]⟩
theorem dictumref04_parser_two.e:(fun k y=>bodyA ((dictumref04_parser_two.A k).cx Tryz.prog) (dictumref04_parser_two.S k).pin y)=(fun k y=>(dictumref04_parser_two.S k).D y):=by kernel_rfl
theorem dictumref04_parser_two.ok (k:Nat) : (dictumref04_parser_two.S k).OK Tryz.prog GG:=aA (dictumref04_parser_two.A k) Gok mixed rfl (by kernel_rfl) ⟨fun _=>rfl,trivial⟩ ⟨dictumref04_parser_put.ok k,trivial⟩ trivial fun y=>congrFun (congrFun dictumref04_parser_two.e k) y
noncomputable def syntax_width.SR (R:G_syntax_width) : FS Gg:=⟨25,⟨[(0,false,[.pt 2 0]),(1,false,[.s (.int .i64)]),(2,false,[.mp 4])],[(2,.blk 56 [.ow 3,.mp 5]),(3,.own 60),(4,.mp 3 3),(5,.mp 60 3)]⟩,Int×(List (Int×Int)),fun y=>R.syntax_width (⟨y.2.1⟩) y.1 y.2.2.1 y.2.2.2.1,fun r=>⟨false,⟨[(0,false,[.s (.int .i64)])],[(4,.mp 3 3)]⟩,(r.1,r.2,())⟩,fun _ r k=>k false ⟨[(0,false,[.s (.int .i64)])],[(4,.mp 3 3)]⟩ (r.1,r.2,()),fun _ _ _=>rfl,[4],true⟩
noncomputable def syntax_width.SF (k:Nat) (R:G_syntax_width) : FS Gg:={ syntax_width.SR R with D:=fun y=>syntax_width.F k R (⟨y.2.1⟩) y.1 y.2.2.1 y.2.2.2.1 }
noncomputable def syntax_width.S (k:Nat) : FS Gg:={ syntax_width.SR (G_syntax_width.rec_ k k) with D:=fun y=>syntax_width.f k (⟨y.2.1⟩) y.1 y.2.2.1 y.2.2.2.1 }
noncomputable def syntax_width.l1b (k:Nat) (a0:T_formula_Table) (a0_1:(List (T_api_Node×Int))) (R:G_syntax_width) (y126:(List Int)) (y128:(List Int)) (y129:Int) : Nat→Int→Int→(List (Int×Int))→Option (Int×(List (Int×Int)))
 | 0,_,_,_=>none
 | kk+1,x131,x132,x133 =>
  (bif (decide (x132 < y129)) then
  ((ix y128 x132).bind fun x152 =>
  (R.syntax_width a0 x152 x133 a0_1).bind fun z162 =>
  (ix y126 x132).bind fun x169 =>
  (syntax_level.f a0 x152 a0_1).bind fun z179 =>
  (bif (decide (z179 < x169)) then
  some (wrap64 ((wrap64 (x131+z162.1))+2),z162.2)
  else
  some (wrap64 (x131+z162.1),z162.2)) : Option (Int×(List (Int×Int)))).bind fun (x144,x145) =>
  syntax_width.l1b k a0 a0_1 R y126 y128 y129 kk x144 (wrap64 (x132+1)) x145
  else
  some (x131,x133))
theorem syntax_width.l1_eq (k:Nat) (a0:T_formula_Table) (a0_1:(List (T_api_Node×Int))) (R:G_syntax_width) (z114:(List UInt8)×(List Int)×(List Int)) (n:Nat) : syntax_width.l1 k a0 a0_1 R z114 n=syntax_width.l1b k a0 a0_1 R z114.2.2 z114.2.1 (z114.2.1.length:Int) n:=by
 induction n with
 | zero=>rfl
 | succ n ih=>funext v0_ v1_ v2_; simp only [syntax_width.l1,syntax_width.l1b,ih,SX.both_self,SX.nilK_eq] <;> rfl
noncomputable def syntax_width.Fb (k:Nat) (R:G_syntax_width) (a0:T_formula_Table) (a1:Int) (a2:(List (Int×Int))) (a0_1:(List (T_api_Node×Int))) : Option (Int×(List (Int×Int))):=
 (bif (mget (fun a_ b_:Int=>a_ == b_) a2 a1).isSome then
 some (((mget (fun a_ b_:Int=>a_ == b_) a2 a1).getD (0:Int)),a2)
 else
 (formula_Table_Node.f a0 a1 a0_1).bind fun z102 =>
 (syntax_pieces.f a0 z102.1 a0_1).bind fun z114 =>
 (syntax_width.l1b k a0 a0_1 R z114.2.2 z114.2.1 (z114.2.1.length:Int) k (z114.1.length:Int) 0 a2).bind fun (x134,x135) =>
 some (((mget (fun a_ b_:Int=>a_ == b_) (mput (fun a_ b_:Int=>a_ == b_) x135 a1 (if 65537 < x134 then 65537 else x134)) a1).getD (0:Int)),(mput (fun a_ b_:Int=>a_ == b_) x135 a1 (if 65537 < x134 then 65537 else x134))))
theorem syntax_width.F_eq (k:Nat) (R:G_syntax_width) (a0:T_formula_Table) (a1:Int) (a2:(List (Int×Int))) (a0_1:(List (T_api_Node×Int))) : syntax_width.F k R a0 a1 a2 a0_1=syntax_width.Fb k R a0 a1 a2 a0_1:=by
 unfold syntax_width.F syntax_width.Fb
 first | rfl | (simp only [syntax_width.l1_eq,SX.both_self,SX.nilK_eq] <;> rfl)
noncomputable def syntax_width.SFb (k:Nat) (R:G_syntax_width) : FS Gg:={ syntax_width.SR R with D:=fun y=>syntax_width.Fb k R (⟨y.2.1⟩) y.1 y.2.2.1 y.2.2.2.1 }
noncomputable def syntax_width.W0 (k:Nat) (R:G_syntax_width) (n:Nat) (i:HL Gg.α (Pat.sh ⟨[(0,false,[.pt 2 0]),(1,false,[.s (.int .i64)]),(2,false,[.mp 4]),(13,false,[.ow 781]),(40,false,[.ow 780]),(41,false,[.s (.int .i64)])],[(2,.blk 56 [.ow 3,.mp 5]),(5,.mp 60 3),(781,.own 3),(780,.own 3),(3,.own 60)]⟩)) (m:HL Gg.α (Pat.sh ⟨[(14,false,[.s (.int .i64)]),(42,false,[.s (.int .i64)])],[(4,.mp 3 3)]⟩)) : Option (Int×(List (Int×Int))):=syntax_width.l1b k (⟨i.2.2.2.2.2.1⟩) i.2.2.1 R i.2.2.2.1 i.2.2.2.2.1 i.2.1 n m.1 m.2.1 m.2.2.1
noncomputable def syntax_width.L0 (k:Nat) (R:G_syntax_width) : LH Gg (Int×(List (Int×Int))):={ I:=⟨[(0,false,[.pt 2 0]),(1,false,[.s (.int .i64)]),(2,false,[.mp 4]),(13,false,[.ow 781]),(40,false,[.ow 780]),(41,false,[.s (.int .i64)])],[(2,.blk 56 [.ow 3,.mp 5]),(5,.mp 60 3),(781,.own 3),(780,.own 3),(3,.own 60)]⟩,M:=⟨[(14,false,[.s (.int .i64)]),(42,false,[.s (.int .i64)])],[(4,.mp 3 3)]⟩,X:=Int×(List (Int×Int)),L:=syntax_width.W0 k R k,E:=⟨[(14,false,[.s (.int .i64)])],[(4,.mp 3 3)]⟩,out:=fun e => .inr (e.1,e.2,()),el:=fun _ e _ b=>b (e.1,e.2,()),law:=fun _ _ _ _=>rfl }
noncomputable def syntax_width.A (k:Nat) (R:G_syntax_width) : Ax (syntax_width.SFb k R):=⟨Tryz.f25,[⟨false,⟨[(0,false,[.s (.int .i64)])],[(4,.mp 3 3)]⟩,fun y=>(y.1,y.2.1)⟩],[formula_Table_Node.S k,syntax_width.SR R,syntax_pieces.S k,syntax_level.S k],[(4051,⟨Int×(List (Int×Int)),⟨[(14,false,[.s (.int .i64)])],[(4,.mp 3 3)]⟩,fun y=>(y.1,y.2.1),fun r=>(r.1,r.2,()),fun _=>rfl,false⟩)],[(253,syntax_width.L0 k R)],[],[],[]⟩
theorem syntax_width.e0:(fun k R n i m=>roundA false ((syntax_width.A k R).cx Tryz.prog) (syntax_width.L0 k R).X 253 (syntax_width.L0 k R).I (syntax_width.L0 k R).M (syntax_width.L0 k R).E (fun _=>none) (fun _ y=>some ((y.1,y.2.1))) (fun _=>syntax_width.W0 k R n i) i m)=(fun k R n i m=>syntax_width.W0 k R (n+1) i m):=by kernel_rfl
theorem syntax_width.e:(fun k R y=>bodyA ((syntax_width.A k R).cx Tryz.prog) (syntax_width.SFb k R).pin y)=(fun k R y=>(syntax_width.SFb k R).D y):=by kernel_rfl
theorem syntax_width.okFb (k:Nat) (R:G_syntax_width) (h:(syntax_width.SR R).OK Tryz.prog GG∧True) : (syntax_width.SFb k R).OK Tryz.prog GG:=aA (syntax_width.A k R) Gok mixed rfl (by kernel_rfl) ⟨fun _=>rfl,trivial⟩ ⟨formula_Table_Node.ok k,h.1,syntax_pieces.ok k,syntax_level.ok k,trivial⟩ ⟨lp (syntax_width.W0 k R) k (fun _=>none) (fun y=>(y.1,y.2.1)) (fun n i m=>congrFun (congrFun (congrFun ((congrFun (congrFun syntax_width.e0 k) R)) n) i) m) (fun _ _=>rfl) (fun _ _=>rfl) (fun _ _ h=>by cases h) (fun _=>rfl),trivial⟩ fun y=>congrFun (congrFun (congrFun syntax_width.e k) R) y
theorem syntax_width.okF (k:Nat) (R:G_syntax_width) (h:(syntax_width.SR R).OK Tryz.prog GG∧True) : (syntax_width.SF k R).OK Tryz.prog GG:=FS.OK.same (s:=syntax_width.SF k R) (D':=fun y=>syntax_width.Fb k R (⟨y.2.1⟩) y.1 y.2.2.1 y.2.2.2.1) (syntax_width.okFb k R h) fun y=>(syntax_width.F_eq k R (⟨y.2.1⟩) y.1 y.2.2.1 y.2.2.2.1).symm
theorem G_syntax_width.okn (k:Nat) : ∀ n,(syntax_width.SR (G_syntax_width.rec_ k n)).OK Tryz.prog GG∧True
 | 0=>⟨ok_none Tryz.f25 rfl (by kernel_rfl) (fun _=>rfl),trivial⟩
 | n+1=>⟨syntax_width.okF k _ (G_syntax_width.okn k n),trivial⟩
theorem syntax_width.ok (k:Nat) : (syntax_width.S k).OK Tryz.prog GG:=(G_syntax_width.okn k k).1
noncomputable def syntax_write.SR (R:G_syntax_write) : FS Gg:=⟨26,⟨[(0,false,[.pt 2 0]),(1,false,[.pt 3 0]),(2,false,[.s (.int .i64)]),(3,false,[.s (.int .i64)])],[(2,.bd 68 5),(3,.blk 56 [.ow 4,.mp 5]),(4,.own 60),(5,.mp 60 3)]⟩,(List UInt8),fun y=>R.syntax_write y.2.2.1 (⟨y.2.2.2.1⟩) y.1 y.2.1 y.2.2.2.2.1,fun r=>⟨false,⟨[],[(2,.bd 68 5)]⟩,(r,())⟩,fun _ r k=>k false ⟨[],[(2,.bd 68 5)]⟩ (r,()),fun _ _ _=>rfl,[2],true⟩
noncomputable def syntax_write.SF (k:Nat) (R:G_syntax_write) : FS Gg:={ syntax_write.SR R with D:=fun y=>syntax_write.F k R y.2.2.1 (⟨y.2.2.2.1⟩) y.1 y.2.1 y.2.2.2.2.1 }
noncomputable def syntax_write.S (k:Nat) : FS Gg:={ syntax_write.SR (G_syntax_write.rec_ k k) with D:=fun y=>syntax_write.f k y.2.2.1 (⟨y.2.2.2.1⟩) y.1 y.2.1 y.2.2.2.2.1 }
noncomputable def syntax_write.l1b (k:Nat) (a1:T_formula_Table) (a1_1:(List (T_api_Node×Int))) (R:G_syntax_write) (y140:List UInt8) (y141:(List Int)) (y143:(List Int)) (y144:Int) : Nat→Int→(List UInt8)→Option ((List UInt8))
 | 0,_,_=>none
 | kk+1,x146,x147 =>
  (bif (decide (x146 < y144)) then
  (ix y143 x146).bind fun x157 =>
  ((bif (x146 == 1) then
  (Builder_WriteString.f x147 y140).bind fun z190 =>
  some z190.2
  else
  some x147) : Option ((List UInt8))).bind fun z168 =>
  (ix y141 x146).bind fun x173 =>
  (R.syntax_write z168 a1 x157 x173 a1_1).bind fun z183 =>
  syntax_write.l1b k a1 a1_1 R y140 y141 y143 y144 kk (wrap64 (x146+1)) z183
  else
  some x147)
theorem syntax_write.l1_eq (k:Nat) (a1:T_formula_Table) (a1_1:(List (T_api_Node×Int))) (R:G_syntax_write) (z113:(List UInt8)×(List Int)×(List Int)) (n:Nat) : syntax_write.l1 k a1 a1_1 R z113 n=syntax_write.l1b k a1 a1_1 R z113.1 z113.2.2 z113.2.1 (z113.2.1.length:Int) n:=by
 induction n with
 | zero=>rfl
 | succ n ih=>funext v0_ v1_; simp only [syntax_write.l1,syntax_write.l1b,ih,SX.both_self,SX.nilK_eq] <;> rfl
noncomputable def syntax_write.Fb (k:Nat) (R:G_syntax_write) (a0:(List UInt8)) (a1:T_formula_Table) (a2:Int) (a3:Int) (a1_1:(List (T_api_Node×Int))) : Option ((List UInt8)):=
 (formula_Table_Node.f a1 a2 a1_1).bind fun z101 =>
 (syntax_pieces.f a1 z101.1 a1_1).bind fun z113 =>
 (syntax_level.f a1 a2 a1_1).bind fun z121 =>
 ((bif (decide (z121 < a3)) then
 (Builder_WriteByte.f a0 (40:UInt8)).bind fun z216 =>
 some z216
 else
 some a0) : Option ((List UInt8))).bind fun z126 =>
 ((bif ((z113.2.1.length:Int) != 2) then
 (Builder_WriteString.f z126 z113.1).bind fun z209 =>
 some z209.2
 else
 some z126) : Option ((List UInt8))).bind fun z132 =>
 (syntax_write.l1b k a1 a1_1 R z113.1 z113.2.2 z113.2.1 (z113.2.1.length:Int) k 0 z132).bind fun z149 =>
 (bif (decide (z121 < a3)) then
 (Builder_WriteByte.f z149 (41:UInt8)).bind fun z199 =>
 some z199
 else
 some z149)
theorem syntax_write.F_eq (k:Nat) (R:G_syntax_write) (a0:(List UInt8)) (a1:T_formula_Table) (a2:Int) (a3:Int) (a1_1:(List (T_api_Node×Int))) : syntax_write.F k R a0 a1 a2 a3 a1_1=syntax_write.Fb k R a0 a1 a2 a3 a1_1:=by
 unfold syntax_write.F syntax_write.Fb
 first | rfl | (simp only [syntax_write.l1_eq,SX.both_self,SX.nilK_eq] <;> rfl)
noncomputable def syntax_write.SFb (k:Nat) (R:G_syntax_write) : FS Gg:={ syntax_write.SR R with D:=fun y=>syntax_write.Fb k R y.2.2.1 (⟨y.2.2.2.1⟩) y.1 y.2.1 y.2.2.2.2.1 }
noncomputable def syntax_write.W0 (k:Nat) (R:G_syntax_write) (n:Nat) (i:HL Gg.α (Pat.sh ⟨[(0,false,[.pt 2 0]),(1,false,[.pt 3 0]),(10,false,[.s .str]),(12,false,[.ow 601]),(13,false,[.s .bool]),(43,false,[.ow 600]),(44,false,[.s (.int .i64)])],[(3,.blk 56 [.ow 4,.mp 5]),(5,.mp 60 3),(601,.own 3),(600,.own 3),(4,.own 60)]⟩)) (m:HL Gg.α (Pat.sh ⟨[(45,false,[.s (.int .i64)])],[(2,.bd 68 5)]⟩)) : Option ((List UInt8)):=syntax_write.l1b k (⟨i.2.2.2.2.2.2.1⟩) i.2.2.2.1 R i.1 i.2.2.2.2.1 i.2.2.2.2.2.1 i.2.2.1 n m.1 m.2.1
noncomputable def syntax_write.L0 (k:Nat) (R:G_syntax_write) : LH Gg ((List UInt8)):={ I:=⟨[(0,false,[.pt 2 0]),(1,false,[.pt 3 0]),(10,false,[.s .str]),(12,false,[.ow 601]),(13,false,[.s .bool]),(43,false,[.ow 600]),(44,false,[.s (.int .i64)])],[(3,.blk 56 [.ow 4,.mp 5]),(5,.mp 60 3),(601,.own 3),(600,.own 3),(4,.own 60)]⟩,M:=⟨[(45,false,[.s (.int .i64)])],[(2,.bd 68 5)]⟩,X:=(List UInt8),L:=syntax_write.W0 k R k,E:=⟨[],[(2,.bd 68 5)]⟩,out:=fun e => .inr (e,()),el:=fun _ e _ b=>b (e,()),law:=fun _ _ _ _=>rfl }
noncomputable def syntax_write.A (k:Nat) (R:G_syntax_write) : Ax (syntax_write.SFb k R):=⟨Tryz.f26,[⟨false,⟨[],[(2,.bd 68 5)]⟩,fun y=>y.1⟩],[formula_Table_Node.S k,syntax_write.SR R,syntax_pieces.S k,syntax_level.S k,strings_Builder_WriteByte.S k,strings_Builder_WriteString.S k],[(15,⟨(List UInt8),⟨[],[(2,.bd 68 5)]⟩,fun y=>y.1,fun r=>(r,()),fun _=>rfl,false⟩),(31,⟨(List UInt8),⟨[],[(2,.bd 68 5)]⟩,fun y=>y.1,fun r=>(r,()),fun _=>rfl,false⟩),(32409,⟨(List UInt8),⟨[],[(2,.bd 68 5)]⟩,fun y=>y.1,fun r=>(r,()),fun _=>rfl,false⟩)],[(253,syntax_write.L0 k R)],[],[],[]⟩
theorem syntax_write.e0:(fun k R n i m=>roundA false ((syntax_write.A k R).cx Tryz.prog) (syntax_write.L0 k R).X 253 (syntax_write.L0 k R).I (syntax_write.L0 k R).M (syntax_write.L0 k R).E (fun _=>none) (fun _ y=>some (y.1)) (fun _=>syntax_write.W0 k R n i) i m)=(fun k R n i m=>syntax_write.W0 k R (n+1) i m):=by kernel_rfl
theorem syntax_write.e:(fun k R y=>bodyA ((syntax_write.A k R).cx Tryz.prog) (syntax_write.SFb k R).pin y)=(fun k R y=>(syntax_write.SFb k R).D y):=by kernel_rfl
theorem syntax_write.okFb (k:Nat) (R:G_syntax_write) (h:(syntax_write.SR R).OK Tryz.prog GG∧True) : (syntax_write.SFb k R).OK Tryz.prog GG:=aA (syntax_write.A k R) Gok mixed rfl (by kernel_rfl) ⟨fun _=>rfl,trivial⟩ ⟨formula_Table_Node.ok k,h.1,syntax_pieces.ok k,syntax_level.ok k,strings_Builder_WriteByte.ok k,strings_Builder_WriteString.ok k,trivial⟩ ⟨lp (syntax_write.W0 k R) k (fun _=>none) (fun y=>y.1) (fun n i m=>congrFun (congrFun (congrFun ((congrFun (congrFun syntax_write.e0 k) R)) n) i) m) (fun _ _=>rfl) (fun _ _=>rfl) (fun _ _ h=>by cases h) (fun _=>rfl),trivial⟩ fun y=>congrFun (congrFun (congrFun syntax_write.e k) R) y
theorem syntax_write.okF (k:Nat) (R:G_syntax_write) (h:(syntax_write.SR R).OK Tryz.prog GG∧True) : (syntax_write.SF k R).OK Tryz.prog GG:=FS.OK.same (s:=syntax_write.SF k R) (D':=fun y=>syntax_write.Fb k R y.2.2.1 (⟨y.2.2.2.1⟩) y.1 y.2.1 y.2.2.2.2.1) (syntax_write.okFb k R h) fun y=>(syntax_write.F_eq k R y.2.2.1 (⟨y.2.2.2.1⟩) y.1 y.2.1 y.2.2.2.2.1).symm
theorem G_syntax_write.okn (k:Nat) : ∀ n,(syntax_write.SR (G_syntax_write.rec_ k n)).OK Tryz.prog GG∧True
 | 0=>⟨ok_none Tryz.f26 rfl (by kernel_rfl) (fun _=>rfl),trivial⟩
 | n+1=>⟨syntax_write.okF k _ (G_syntax_write.okn k n),trivial⟩
theorem syntax_write.ok (k:Nat) : (syntax_write.S k).OK Tryz.prog GG:=(G_syntax_write.okn k k).1
noncomputable def dictumlaw03_Both.S (k:Nat) : FS Gg:=⟨20,⟨[(0,false,[.s (.row 60)])],[]⟩,Exn (Unit) ((T_formula_Table×(List (T_api_Node×Int)))×T_dictumref03_T),fun y=>dictumlaw03_Both.f k y.1,fun r=>match r with | .ex r=>⟨false,⟨[(0,false,[.np]),(1,false,[.np]),(2,false,[.lb false])],[]⟩,()⟩ | .ok r=>⟨false,⟨[(0,false,[.pt 39 0]),(1,false,[.pt 36 0]),(2,false,[.lb true])],[(39,.blk 56 [.ow 38,.mp 37]),(38,.own 60),(37,.mp 60 3),(36,.blk 53 [.ow 35]),(35,.own 60)]⟩,(r.1.1.f_rows,r.1.2,r.2.f_N,())⟩,fun _ r k=>match r with | .ex r=>k false ⟨[(0,false,[.np]),(1,false,[.np]),(2,false,[.lb false])],[]⟩ () | .ok r=>k false ⟨[(0,false,[.pt 39 0]),(1,false,[.pt 36 0]),(2,false,[.lb true])],[(39,.blk 56 [.ow 38,.mp 37]),(38,.own 60),(37,.mp 60 3),(36,.blk 53 [.ow 35]),(35,.own 60)]⟩ (r.1.1.f_rows,r.1.2,r.2.f_N,()),fun _ r _=>by cases r <;> rfl,[],true⟩
noncomputable def dictumlaw03_Both.A (k:Nat) : Ax (dictumlaw03_Both.S k):=⟨Tryz.f20,[⟨false,⟨[(0,false,[.np]),(1,false,[.np]),(2,false,[.lb false])],[]⟩,fun y => .ex ()⟩,⟨false,⟨[(0,false,[.pt 39 0]),(1,false,[.pt 36 0]),(2,false,[.lb true])],[(39,.blk 56 [.ow 38,.mp 37]),(38,.own 60),(37,.mp 60 3),(36,.blk 53 [.ow 35]),(35,.own 60)]⟩,fun y => .ok ((⟨y.1⟩,y.2.1),⟨y.2.2.1⟩)⟩],[dictumref03_From.S k,formula_From.S k],[],[],[],[],[(61,false,16)]⟩
theorem dictumlaw03_Both.e:(fun k y=>bodyA ((dictumlaw03_Both.A k).cx Tryz.prog) (dictumlaw03_Both.S k).pin y)=(fun k y=>(dictumlaw03_Both.S k).D y):=by kernel_rfl
theorem dictumlaw03_Both.ok (k:Nat) : (dictumlaw03_Both.S k).OK Tryz.prog GG:=aA (dictumlaw03_Both.A k) Gok mixed rfl (by kernel_rfl) ⟨fun _=>rfl,fun _=>rfl,trivial⟩ ⟨dictumref03_From.ok k,formula_From.ok k,trivial⟩ trivial fun y=>congrFun (congrFun dictumlaw03_Both.e k) y
noncomputable def syntax_ahead.S (k:Nat) : FS Gg:=⟨28,⟨[(0,false,[.s .str])],[]⟩,(List T_api_Token)×T_api_Fault,fun y=>syntax_ahead.f k y.1,fun r=>⟨false,⟨[(0,false,[.ow 39]),(1,true,[.s (.st 36)])],[(39,.own 76)]⟩,(r.2,r.1,())⟩,fun _ r k=>k false ⟨[(0,false,[.ow 39]),(1,true,[.s (.st 36)])],[(39,.own 76)]⟩ (r.2,r.1,()),fun _ _ _=>rfl,[],true⟩
noncomputable def syntax_ahead.A (k:Nat) : Ax (syntax_ahead.S k):=⟨Tryz.f28,[⟨false,⟨[(0,false,[.ow 39]),(1,true,[.s (.st 36)])],[(39,.own 76)]⟩,fun y=>(y.2.1,y.1)⟩],[token_Scan.S k],[(31,⟨(List T_api_Token),⟨[(4,false,[.ow 560])],[(560,.own 76)]⟩,fun y=>y.1,fun r=>(r,()),fun _=>rfl,false⟩)],[],[],[],[]⟩
theorem syntax_ahead.e:(fun k y=>bodyA ((syntax_ahead.A k).cx Tryz.prog) (syntax_ahead.S k).pin y)=(fun k y=>(syntax_ahead.S k).D y):=by kernel_rfl
theorem syntax_ahead.ok (k:Nat) : (syntax_ahead.S k).OK Tryz.prog GG:=aA (syntax_ahead.A k) Gok mixed rfl (by kernel_rfl) ⟨fun _=>rfl,trivial⟩ ⟨token_Scan.ok k,trivial⟩ trivial fun y=>congrFun (congrFun syntax_ahead.e k) y
end Go.Proofs.YtpmkkhkphddfeaaGreatDoor.X
