import Derived.Test.YtpmkkhkphddfeaaGreatDoorXAD
import Derived.Test.YtpmkkhkphddfeaaGreatDoorS3
import Derived.Test.YtpmkkhkphddfeaaGreatDoorProg
set_option maxRecDepth 20000
set_option linter.unusedVariables false
namespace Go.Proofs.YtpmkkhkphddfeaaGreatDoor.X
open Go Go.RowKit Go.Proofs.YtpmkkhkphddfeaaGreatDoor.SX
theorem key60:KeyT Tryz.prog 60 (fun x_:T_api_Node=>Value.agg #[.int .i64 x_.f_Kind,encS x_.f_Name,.int .i64 x_.f_L,.int .i64 x_.f_R]) T_api_Node.eqb:=keyT_asking Tryz.underlying60 (fun _ _=>rfl) (fun e x w=>by kernel_rfl) (fun x y=>(EqR.agg Tryz.underlying60 (by kernel_rfl) (EqF.cons (by decide) (aB Tryz.underlying58 rfl rfl) (aB Tryz.underlying58 rfl rfl) (EqR.int Tryz.underlying58) (EqF.cons (by decide) (aB Tryz.underlying9 rfl rfl) (aB Tryz.underlying9 rfl rfl) (EqR.str Tryz.underlying9) (EqF.cons (by decide) (aB Tryz.underlying3 rfl rfl) (aB Tryz.underlying3 rfl rfl) (EqR.int Tryz.underlying3) (EqF.cons (by decide) (aB Tryz.underlying3 rfl rfl) (aB Tryz.underlying3 rfl rfl) (EqR.int Tryz.underlying3) EqF.nil)))))) (fun x y h=>by
 have h_:x=y:=by cases x; cases y; simp [T_api_Node.eqb,and_assoc] at h; simp [h]
 subst h_; simp [Instr.sameBits,sameBits_enc])
theorem sz3:(Tryz.prog.info? 3).map (·.size)=some 1:=by kernel_rfl
theorem sz4:(Tryz.prog.info? 4).map (·.size)=some 1:=by kernel_rfl
theorem sz9:(Tryz.prog.info? 9).map (·.size)=some 1:=by kernel_rfl
theorem sz22:(Tryz.prog.info? 22).map (·.size)=some 1:=by kernel_rfl
theorem sz23:(Tryz.prog.info? 23).map (·.size)=some 1:=by kernel_rfl
theorem sz24:(Tryz.prog.info? 24).map (·.size)=some 1:=by kernel_rfl
theorem sz28:(Tryz.prog.info? 28).map (·.size)=some 1:=by kernel_rfl
theorem sz34:(Tryz.prog.info? 34).map (·.size)=some 3:=by kernel_rfl
theorem sz36:(Tryz.prog.info? 36).map (·.size)=some 4:=by kernel_rfl
theorem sz54:(Tryz.prog.info? 54).map (·.size)=some 1:=by kernel_rfl
theorem sz58:(Tryz.prog.info? 58).map (·.size)=some 1:=by kernel_rfl
theorem sz60:(Tryz.prog.info? 60).map (·.size)=some 4:=by kernel_rfl
theorem sz71:(Tryz.prog.info? 71).map (·.size)=some 1:=by kernel_rfl
theorem sz74:(Tryz.prog.info? 74).map (·.size)=some 1:=by kernel_rfl
theorem sz76:(Tryz.prog.info? 76).map (·.size)=some 6:=by kernel_rfl
theorem sz78:(Tryz.prog.info? 78).map (·.size)=some 1:=by kernel_rfl
theorem sz111:(Tryz.prog.info? 111).map (·.size)=some 4:=by kernel_rfl
theorem sz152:(Tryz.prog.info? 152).map (·.size)=some 3:=by kernel_rfl
noncomputable def Gt:Nat→Ent
 | 3 => { α:=Int,rep:=(Rep.int .i64),z:=(0:Int),eq:=fun x y=>x == y,ek:=fun x => .int .i64 x }
 | 9 => { α:=(List UInt8),rep:=Rep.str,z:=([] : List UInt8),eq:=fun x y=>x == y,ek:=fun x=>encS x }
 | 34 => { α:=T_api_Spot,rep:=T_api_Spot.rep,z:=(⟨(0:Int),(0:Int),(0:Int)⟩ : T_api_Spot),eq:=T_api_Spot.eqb }
 | 36 => { α:=T_api_Fault,rep:=T_api_Fault.rep,z:=(⟨(0:Int),(⟨(0:Int),(0:Int),(0:Int)⟩ : T_api_Spot)⟩ : T_api_Fault),eq:=T_api_Fault.eqb }
 | 60 => { α:=T_api_Node,rep:=T_api_Node.rep,z:=(⟨(0:Int),([] : List UInt8),(0:Int),(0:Int)⟩ : T_api_Node),eq:=T_api_Node.eqb,ek:=(fun x_:T_api_Node=>Value.agg #[.int .i64 x_.f_Kind,encS x_.f_Name,.int .i64 x_.f_L,.int .i64 x_.f_R]) }
 | 76 => { α:=T_api_Token,rep:=T_api_Token.rep,z:=(⟨(0:Int),([] : List UInt8),(0:Int),(⟨(0:Int),(0:Int),(0:Int)⟩ : T_api_Spot)⟩ : T_api_Token) }
 | 111 => { α:=T_syntax_broken,rep:=T_syntax_broken.rep,z:=(⟨(⟨(0:Int),(⟨(0:Int),(0:Int),(0:Int)⟩ : T_api_Spot)⟩ : T_api_Fault)⟩ : T_syntax_broken) }
 | 152 => { α:=T_dictumref02_special,rep:=T_dictumref02_special.rep,z:=(⟨([] : List UInt8),(0:Int),([] : List UInt8)⟩ : T_dictumref02_special) }
 | _ => { α:=Unit,rep:=Rep.unit,z:=() }
noncomputable def Ge:(T:Nat)→GE Tryz.prog (Gm0 Gt) T
 | 3 => { ss:=[(.int .i64)],un:=fun x=>(x,()),md:=fun y=>y.1,law:=fun _ _ _ _=>HR1 (G:=Gm0 Gt) (s:=(.int .i64)),um:=fun _=>rfl,qv:=true,valok:=fun _=>⟨by kernel_rfl,by kernel_rfl,fun _ _ _ _=>Iff.rfl⟩,qk:=true,keyok:=fun _=>⟨keyT_int Tryz.underlying3,fun _ _ _ _ h=>keyS (by kernel_rfl) h⟩,fl:=true,flok:=fun _ _ _ _ _ _ h=>h }
 | 9 => { ss:=[.str],un:=fun x=>(x,()),md:=fun y=>y.1,law:=fun _ _ _ _=>HR1 (G:=Gm0 Gt) (s:=.str),um:=fun _=>rfl,qv:=true,valok:=fun _=>⟨by kernel_rfl,by kernel_rfl,fun _ _ _ _=>Iff.rfl⟩,qk:=true,keyok:=fun _=>⟨keyT_str Tryz.underlying9,fun _ _ _ _ h=>keyS (by kernel_rfl) h⟩,fl:=true,flok:=fun _ _ _ _ _ _ h=>h }
 | 34 => { ss:=[(.int .i64),(.int .i64),(.int .i64)],un:=fun x=>(x.f_Line,x.f_Col,x.f_Off,()),md:=fun y=>⟨y.1,y.2.1,y.2.2.1⟩,law:=fun _ _ _ _=>HRc (G:=Gm0 Gt) (s:=(.int .i64)) fun _=>HRc (G:=Gm0 Gt) (s:=(.int .i64)) fun _=>HR1 (G:=Gm0 Gt) (s:=(.int .i64)),um:=fun _=>rfl,qe:=true,eqok:=fun _ F w x y cs ds h1 h2=>by rw [T_api_Spot.opn h1,T_api_Spot.opn h2]; exact ⟨by kernel_rfl,(EqR.agg Tryz.underlying34 (by kernel_rfl) (EqF.cons (by decide) (aB Tryz.underlying3 rfl rfl) (aB Tryz.underlying3 rfl rfl) (EqR.int Tryz.underlying3) (EqF.cons (by decide) (aB Tryz.underlying3 rfl rfl) (aB Tryz.underlying3 rfl rfl) (EqR.int Tryz.underlying3) (EqF.cons (by decide) (aB Tryz.underlying3 rfl rfl) (aB Tryz.underlying3 rfl rfl) (EqR.int Tryz.underlying3) EqF.nil))))⟩,fl:=true,flok:=fun _ _ _ _ _ _ h=>h }
 | 36 => { ss:=[(.int .i64),(.st 34)],un:=fun x=>(x.f_Code,x.f_At,()),md:=fun y=>⟨y.1,y.2.1⟩,law:=fun _ _ _ _=>HRc (G:=Gm0 Gt) (s:=(.int .i64)) fun _=>HR1 (G:=Gm0 Gt) (s:=(.st 34)),um:=fun _=>rfl,qe:=true,eqok:=fun _ F w x y cs ds h1 h2=>by rw [T_api_Fault.opn h1,T_api_Fault.opn h2]; exact ⟨by kernel_rfl,(EqR.agg Tryz.underlying36 (by kernel_rfl) (EqF.cons (by decide) (aB Tryz.underlying28 rfl rfl) (aB Tryz.underlying28 rfl rfl) (EqR.int Tryz.underlying28) (EqF.cons (by decide) (PartR.many Tryz.underlying34 rfl sz34) (PartR.many Tryz.underlying34 rfl sz34) (EqR.agg Tryz.underlying34 (by kernel_rfl) (EqF.cons (by decide) (aB Tryz.underlying3 rfl rfl) (aB Tryz.underlying3 rfl rfl) (EqR.int Tryz.underlying3) (EqF.cons (by decide) (aB Tryz.underlying3 rfl rfl) (aB Tryz.underlying3 rfl rfl) (EqR.int Tryz.underlying3) (EqF.cons (by decide) (aB Tryz.underlying3 rfl rfl) (aB Tryz.underlying3 rfl rfl) (EqR.int Tryz.underlying3) EqF.nil)))) EqF.nil)))⟩,fl:=true,flok:=fun _ _ _ _ _ _ h=>h }
 | 60 => { ss:=[(.int .i64),.str,(.int .i64),(.int .i64)],un:=fun x=>(x.f_Kind,x.f_Name,x.f_L,x.f_R,()),md:=fun y=>⟨y.1,y.2.1,y.2.2.1,y.2.2.2.1⟩,law:=fun _ _ _ _=>HRc (G:=Gm0 Gt) (s:=(.int .i64)) fun _=>HRc (G:=Gm0 Gt) (s:=.str) fun _=>HRc (G:=Gm0 Gt) (s:=(.int .i64)) fun _=>HR1 (G:=Gm0 Gt) (s:=(.int .i64)),um:=fun _=>rfl,qe:=true,eqok:=fun _ F w x y cs ds h1 h2=>by rw [T_api_Node.opn h1,T_api_Node.opn h2]; exact ⟨by kernel_rfl,(EqR.agg Tryz.underlying60 (by kernel_rfl) (EqF.cons (by decide) (aB Tryz.underlying58 rfl rfl) (aB Tryz.underlying58 rfl rfl) (EqR.int Tryz.underlying58) (EqF.cons (by decide) (aB Tryz.underlying9 rfl rfl) (aB Tryz.underlying9 rfl rfl) (EqR.str Tryz.underlying9) (EqF.cons (by decide) (aB Tryz.underlying3 rfl rfl) (aB Tryz.underlying3 rfl rfl) (EqR.int Tryz.underlying3) (EqF.cons (by decide) (aB Tryz.underlying3 rfl rfl) (aB Tryz.underlying3 rfl rfl) (EqR.int Tryz.underlying3) EqF.nil)))))⟩,qk:=true,keyok:=fun _=>⟨key60,fun F w x cs h=>keyA (by kernel_rfl) (by rw [T_api_Node.opn h]; rfl)⟩,fl:=true,flok:=fun _ _ _ _ _ _ h=>h }
 | 76 => { ss:=[(.int .i64),.str,(.int .i64),(.st 34)],un:=fun x=>(x.f_Kind,x.f_Text,x.f_Int,x.f_At,()),md:=fun y=>⟨y.1,y.2.1,y.2.2.1,y.2.2.2.1⟩,law:=fun _ _ _ _=>HRc (G:=Gm0 Gt) (s:=(.int .i64)) fun _=>HRc (G:=Gm0 Gt) (s:=.str) fun _=>HRc (G:=Gm0 Gt) (s:=(.int .i64)) fun _=>HR1 (G:=Gm0 Gt) (s:=(.st 34)),um:=fun _=>rfl,fl:=true,flok:=fun _ _ _ _ _ _ h=>h }
 | 111 => { ss:=[(.st 36)],un:=fun x=>(x.f_f,()),md:=fun y=>⟨y.1⟩,law:=fun _ _ _ _=>HR1 (G:=Gm0 Gt) (s:=(.st 36)),um:=fun _=>rfl,fl:=true,flok:=fun _ _ _ _ _ _ h=>h }
 | 152 => { ss:=[.str,(.int .i64),.str],un:=fun x=>(x.f_Rune,x.f_Kind,x.f_Text,()),md:=fun y=>⟨y.1,y.2.1,y.2.2.1⟩,law:=fun _ _ _ _=>HRc (G:=Gm0 Gt) (s:=.str) fun _=>HRc (G:=Gm0 Gt) (s:=(.int .i64)) fun _=>HR1 (G:=Gm0 Gt) (s:=.str),um:=fun _=>rfl,fl:=true,flok:=fun _ _ _ _ _ _ h=>h }
 | T=>GE.none Tryz.prog Gt T
noncomputable def Gg:Gm:=GmOf Tryz.prog Gt Ge
theorem Gok:GOK Tryz.prog Gg:=gok Ge
theorem mixed:Tryz.prog.follows .mixedOrders=true:=by kernel_rfl
end Go.Proofs.YtpmkkhkphddfeaaGreatDoor.X
