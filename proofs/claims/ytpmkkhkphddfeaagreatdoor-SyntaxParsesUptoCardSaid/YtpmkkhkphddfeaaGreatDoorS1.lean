import Derived.WalkKit
import Derived.OrdersHeld
import Derived.OrdersIn
import Derived.TacticsIn
import Derived.LoopIn
import Derived.Deep.LoopGhost
import Derived.RangeFuncLeaves
import Derived.RangeFuncIn
import Derived.Scope
import Derived.Maps.AppendAt
import Derived.Deep.MidRow
import Derived.Deep.Draws
import Derived.Laws.BytesArg
import Derived.Lib.AppendStr
import Derived.Lib.Builder
import Derived.Lib.UnsafeStr
import Derived.Laws.Externs
import Derived.Lib.ConvBytes
import Derived.Sort.Grow
import Derived.Shelf.Unicode.DecodeSlow
import Derived.Lib.TrimUEq
import Derived.Test.YtpmkkhkphddfeaaGreatDoorRows
import Derived.ProofKit
import Derived.OpenShut
import Derived.Carry
import Derived.SizedLaws
import Derived.Lib.LaidIn
import Derived.Lib.LaidU8T
import Derived.PinnedBridge
import Derived.Deep.DeepHandedRow
import Derived.Deep.DeepWitnessRowRef
import Derived.Stop.LaidErr
import Derived.LaidLaws
import Derived.Laws.StructEq
import Derived.RangeFuncSeq
import Derived.ChangeKeysEq
import Derived.Lib.LaidTab
import Derived.Lib.TrimAscii
set_option linter.unusedVariables false
namespace Go.Proofs.YtpmkkhkphddfeaaGreatDoor.SX
open Go
structure Env where
 get:Nat→Value
 ds:List Deferred
instance:CoeFun Env (fun _=>Nat→Value):=⟨Env.get⟩
def upd (ρ:Env) (d:Nat) (v:Value) : Env:=⟨fun i=>bif Nat.beq i d then v else ρ i,ρ.ds⟩
def env0:Env:=⟨fun _=>undef,[]⟩
def ev (ρ:Env) : Operand→Value
 | .tmp t=>ρ t
 | .const v=>v
 | .global g => .pointer (some ⟨g,0,none⟩)
 | .func f => .func (.func f) #[] #[]
structure Md where
 rd:Option Nat
 dd:Bool
 kp:Bool
abbrev Md.plain:Md:=⟨none,false,false⟩
abbrev Md.defer:Md:=⟨none,true,false⟩
abbrev Md.round (l:Nat) : Md:=⟨some l,false,false⟩
abbrev Md.recov:Md:=⟨none,true,true⟩
def fen (rd:Option Nat) : Fence:={ Fence.wide with round:=rd }
structure Fr (n:Nat) (md:Md) (ρ:Env) (a:Act) : Prop where
 size:a.tmps.size=n
 get:∀ t,a.tmps.getD t undef=ρ t
 defs:a.defers=ρ.ds
 dd:md.dd=false→ρ.ds=[]
theorem Fr.eval {n:Nat} {md:Md} {ρ:Env} {a:Act} (h:Fr n md ρ a) : a.eval=ev ρ:=by
 funext x
 cases x with
 | tmp t=>exact h.get t
 | const v=>rfl
 | global g=>rfl
 | func f=>rfl
theorem Fr.put {n:Nat} {md:Md} {ρ:Env} {a:Act} (h:Fr n md ρ a) {d:Nat} (hd:Nat.blt d n=true) (v:Value) : Fr n md (upd ρ d v) (a.put (some d) v):=by
 have hd':d < n:=by simpa [Nat.blt_eq] using hd
 refine ⟨by simp [Act.put,h.size],fun t=>?_,h.defs,h.dd⟩
 have hs:d < a.tmps.size:=by rw [h.size]; exact hd'
 simp only [Act.put,upd]
 by_cases e:t=d
 ·subst e
  have:Nat.beq t t=true:=by simp
  rw [this]
  simp [Array.getD_eq_getD_getElem?,hs]
 ·have:Nat.beq t d=false:=by rw [← Bool.not_eq_true,Nat.beq_eq]; exact e
  rw [this]
  have e':d≠t:=fun h=>e h.symm
  have:=h.get t
  simp only [Array.getD_eq_getD_getElem?] at this ⊢
  rw [Array.getElem?_setIfInBounds_ne e']
  exact this
def AtP (n:Nat) (md:Md) (ρ:Env) (a:Act) : Prop:=(md.kp=true∧Fr n md ρ a)∨(md.kp=false∧(md.dd=false→a.defers=[])∧ρ=⟨fun _=>undef,a.defers⟩)
def Env.gone (md:Md) (ρ:Env) : Env:=bif md.kp then ρ else ⟨fun _=>undef,ρ.ds⟩
theorem atP_gone {n:Nat} {md:Md} {ρ:Env} {a:Act} (h:Fr n md ρ a) : AtP n md (ρ.gone md) a:=by
 unfold AtP Env.gone
 cases hk:md.kp with
 | true=>exact .inl ⟨rfl,h⟩
 | false=>exact .inr ⟨rfl,fun hd=>h.defs.trans (h.dd hd),by rw [h.defs]; rfl⟩
theorem AtP.back {n:Nat} {md:Md} {ρ:Env} {a:Act} {d:Option Nat} {v:Value} (hk:md.kp=false) (h:AtP n md ρ (a.put d v)) : AtP n md ρ a:=by
 rcases h with ⟨h,_⟩|⟨_,h1,h2⟩
 ·rw [hk] at h; cases h
 ·have e:(a.put d v).defers=a.defers:=by cases d <;> rfl
  rw [e] at h1 h2
  exact .inr ⟨hk,h1,h2⟩
def lift (n:Nat) (md:Md) (K:Exit→Env→World→Prop) : Exit→Act→World→Prop
 | .panic c,a,w => ∃ ρ,AtP n md ρ a∧K (.panic c) ρ w
 | .outgrown,_,_=>False
 | e,a,w => ∃ ρ,Fr n md ρ a∧K e ρ w
def thn (X:Env→World→Prop) (K:Exit→Env→World→Prop) : Exit→Env→World→Prop
 | .normal,ρ,w=>X ρ w
 | e,ρ,w=>K e ρ w
def inB (id:Nat) (K:Exit→Env→World→Prop) : Exit→Env→World→Prop
 | .exit i,ρ,w=>bif Nat.beq i id then K .normal ρ w else K (.exit i) ρ w
 | e,ρ,w=>K e ρ w
structure WC (P:Program) (n:Nat) (md:Md) (c:Code) (K:Exit→Env→World→Prop) (ρ:Env) (w:World) : Prop where
 out:∀ a,Fr n md ρ a→c.wpIn (fen md.rd) 0 P (lift n md K) a w
structure WL (P:Program) (n:Nat) (md:Md) (ops:Array Oper) (l:List Oper) (K:Exit→Env→World→Prop) (ρ:Env) (w:World) : Prop where
 out:∀ a,Fr n md ρ a→wpList P ops (lift n md K) l a w
section code
variable {P:Program} {n:Nat} {md:Md} {K:Exit→Env→World→Prop} {ρ:Env} {w:World}
theorem lift_mono {K K':Exit→Env→World→Prop} (h:∀ e ρ w,K e ρ w→K' e ρ w) (e:Exit) (a:Act) (w:World) (hq:lift n md K e a w) : lift n md K' e a w:=by
 cases e with
 | panic c=>obtain ⟨ρ,hf,hk⟩:=hq; exact ⟨ρ,hf,h _ _ _ hk⟩
 | outgrown=>exact hq
 | normal=>obtain ⟨ρ,hf,hk⟩:=hq; exact ⟨ρ,hf,h _ _ _ hk⟩
 | exit i=>obtain ⟨ρ,hf,hk⟩:=hq; exact ⟨ρ,hf,h _ _ _ hk⟩
 | goto l=>obtain ⟨ρ,hf,hk⟩:=hq; exact ⟨ρ,hf,h _ _ _ hk⟩
 | ret=>obtain ⟨ρ,hf,hk⟩:=hq; exact ⟨ρ,hf,h _ _ _ hk⟩
theorem WC.mono {c:Code} {K':Exit→Env→World→Prop} (h:WC P n md c K ρ w) (hk:∀ e ρ w,K e ρ w→K' e ρ w) : WC P n md c K' ρ w:=
 ⟨fun a ha=>wpIn_mono (h.out a ha) (fun e a w q=>lift_mono hk e a w q)⟩
theorem WC.seq {x y:Code} (h:WC P n md x (thn (WC P n md y K) K) ρ w) : WC P n md (.seq x y) K ρ w:=by
 refine ⟨fun a ha=>wpIn_seq (wpIn_mono (h.out a ha) (fun e a w q=>?_))⟩
 cases e with
 | normal=>obtain ⟨ρ',hf,hk⟩:=q; exact hk.out _ hf
 | exit i=>exact q
 | goto l=>exact q
 | ret=>exact q
 | panic c=>exact q
 | outgrown=>exact q
theorem WC.skip (h:K .normal ρ w) : WC P n md .skip K ρ w:=⟨fun a ha=>wpIn_skip ⟨ρ,ha,h⟩⟩
theorem WC.label {l:Nat} (h:K .normal ρ w) : WC P n md (.label l) K ρ w:=⟨fun a ha=>wpIn_label ⟨ρ,ha,h⟩⟩
theorem WC.exit {i:Nat} (h:K (.exit i) ρ w) : WC P n md (.exit i) K ρ w:=⟨fun a ha=>wpIn_exit ⟨ρ,ha,h⟩⟩
theorem WC.ret (h:K .ret ρ w) : WC P n md .ret K ρ w:=⟨fun a ha=>wpIn_ret ⟨ρ,ha,h⟩⟩
theorem WC.cond {c:Operand} {x y:Code} {b:Bool} (hc:ev ρ c = .bool b) (h:WC P n md (bif b then x else y) K ρ w) : WC P n md (.cond c x y) K ρ w:=
 ⟨fun a ha=>wpIn_cond (t:=b) (by rw [ha.eval]; exact hc) (by cases b <;> exact h.out a ha)⟩
theorem WC.cond_t {c:Operand} {x y:Code} (hc:ev ρ c = .bool true) (h:WC P n md x K ρ w) : WC P n md (.cond c x y) K ρ w:=WC.cond hc h
theorem WC.cond_f {c:Operand} {x y:Code} (hc:ev ρ c = .bool false) (h:WC P n md y K ρ w) : WC P n md (.cond c x y) K ρ w:=WC.cond hc h
theorem WC.block {id:Nat} {c:Code} (h:WC P n md c (inB id K) ρ w) : WC P n md (.block id c) K ρ w:=by
 refine ⟨fun a ha=>wpIn_block (wpIn_mono (h.out a ha) (fun e a w q=>?_))⟩
 cases e with
 | normal=>exact q
 | exit i =>
  obtain ⟨ρ',hf,hk⟩:=q
  simp only [Exit.inBlock]
  simp only [inB] at hk
  by_cases e:i=id
  ·have e1:Nat.beq i id=true:=by simp [e]
   rw [e1] at hk
   rw [if_pos e]
   exact ⟨ρ',hf,hk⟩
  ·have e1:Nat.beq i id=false:=by rw [← Bool.not_eq_true,Nat.beq_eq]; exact e
   rw [e1] at hk
   rw [if_neg e]
   exact ⟨ρ',hf,hk⟩
 | goto l=>exact q
 | ret=>exact q
 | panic c=>exact q
 | outgrown=>exact q
theorem WC.loop {c:Code} (I:Nat→Env→World→Prop) (k:Nat) (h0:I k ρ w)
  (h:∀ k ρ w,I k ρ w→WC P n md c (thn (fun ρ' w' => ∃ k',k' < k∧I k' ρ' w') K) ρ w) : WC P n md (.loop c) K ρ w:=by
 refine ⟨fun a ha=>?_⟩
 let J:Nat→Act→World→Prop:=fun k a w => ∃ ρ,Fr n md ρ a∧I k ρ w
 refine wpIn_loop (fun a w => ∃ m,J m a w) (fun a w=>leastOf (fun m=>J m a w)) ⟨k,ρ,ha,h0⟩ ?_
 intro a w hI
 obtain ⟨ρ,hf,hI1⟩:=(leastOf_spec hI).1
 refine wpIn_mono ((h _ ρ w hI1).out a hf) (fun e a' w' q=>?_)
 cases e with
 | normal =>
  obtain ⟨ρ',hf',m,hlt,hm⟩:=q
  have hJ:J m a' w':=⟨ρ',hf',hm⟩
  exact show (∃ m,J m a' w')∧leastOf (fun m=>J m a' w') < leastOf (fun m=>J m a w) from ⟨⟨m,hJ⟩,Nat.lt_of_le_of_lt ((leastOf_spec ⟨m,hJ⟩).2 m hJ) hlt⟩
 | exit id=>exact q
 | goto l=>exact q
 | ret=>exact q
 | panic ch=>exact q
 | outgrown=>exact q
theorem WC.cut {x y:Code} (Post:Env→World→Prop) (hy:∀ ρ w,Post ρ w→WC P n md y K ρ w) (h:WC P n md x (thn Post K) ρ w) : WC P n md (.seq x y) K ρ w:=by
 refine WC.seq (WC.mono h fun e ρ w q=>?_)
 cases e with
 | normal=>exact hy _ _ q
 | exit i=>exact q
 | goto l=>exact q
 | ret=>exact q
 | panic c=>exact q
 | outgrown=>exact q
def exitP (id:Nat) (Post:Env→World→Prop) (K:Exit→Env→World→Prop) : Exit→Env→World→Prop
 | .exit i,ρ,w=>bif Nat.beq i id then Post ρ w else K (.exit i) ρ w
 | e,ρ,w=>K e ρ w
theorem WC.for {id:Nat} {c:Code} (I:Nat→Env→World→Prop) (k:Nat) (Post:Env→World→Prop) (h0:I k ρ w) (hx:∀ ρ w,Post ρ w→K .normal ρ w)
  (h:∀ k ρ w,I k ρ w→WC P n md c (thn (fun ρ' w' => ∃ k',k' < k∧I k' ρ' w') (exitP id Post K)) ρ w) : WC P n md (.block id (.loop c)) K ρ w:=by
 refine WC.block (WC.mono (K:=exitP id Post K) (WC.loop I k h0 h) fun e ρ w q=>?_)
 cases e with
 | normal=>exact q
 | exit i =>
  simp only [exitP] at q
  simp only [inB]
  cases hb:Nat.beq i id with
  | true=>rw [hb] at q; exact hx _ _ q
  | false=>rw [hb] at q; exact q
 | goto l=>exact q
 | ret=>exact q
 | panic c=>exact q
 | outgrown=>exact q
theorem WC.scope {c:Code} (h:WC P n .plain c (fun e ρ w=>(∀ l,e≠.goto l)∧K e ρ w) ρ w) : WC P n .plain (.scope c) K ρ w:=by
 refine ⟨fun a ha=>wpIn_wide.2 (wp_scope_straight (Code.wp_mono (fun e a w q=>?_) (wpIn_wide.1 (h.out a ha))))⟩
 cases e with
 | normal=>obtain ⟨ρ,hf,_,hk⟩:=q; exact ⟨ρ,hf,hk⟩
 | exit i=>obtain ⟨ρ,hf,_,hk⟩:=q; exact ⟨ρ,hf,hk⟩
 | goto l=>obtain ⟨ρ,hf,hn,_⟩:=q; exact absurd rfl (hn l)
 | ret=>obtain ⟨ρ,hf,_,hk⟩:=q; exact ⟨ρ,hf,hk⟩
 | panic c=>obtain ⟨ρ,hf,_,hk⟩:=q; exact ⟨ρ,hf,hk⟩
 | outgrown=>exact q
def noDefer (ops:Array Oper) : Bool:=ops.all fun o=>match o.op with | .defer _=>false | _=>true
theorem calls_fen {rd:Option Nat} {m:Nat} {f:FuncId} {args:Array Value} {w:World} {R:Ending→World→Prop} (h:Calls P f args w R) : CallsIn (fen rd) m P f args w R:=
 (callsIn_wide (n:=m)).2 h
theorem rows_fen {rd:Option Nat} {m:Nat} {row:String} {args:Array Value} {w:World} {R:Value→World→Prop} (h:Rows P row args w R) : RowsIn (fen rd) m P row args w R:=
 fun c cs _=>let ⟨v,w',r,s⟩:=h c cs; ⟨v,w',r,stepsIn_wide.2 s⟩
theorem WC.region {id:Nat} {l:List Oper} {dd kp:Bool} (h:WL P n ⟨none,dd,kp⟩ l.toArray l K ρ w) : WC P n ⟨none,dd,kp⟩ (.region id l.toArray false) K ρ w:=
 ⟨fun a ha=>wpIn_wide.2 (wp_region_lit (h.out a ha))⟩
end code
section anyl
variable {P:Program} {ops:Array Oper} {Q:Exit→Act→World→Prop} {md:Region.Mode} {S:World→Prop} {L:Nat}
def wpAnyL (P:Program) (md:Region.Mode) (ops:Array Oper) (Q:Exit→Act→World→Prop) (L:Nat) (S:World→Prop) : Nat→Array Bool→Act→World→Prop
 | 0,listed,a,w=>Region.ready md ops listed=[]∧Q .normal a w
 | fuel+1,listed,a,w =>
  (Region.ready md ops listed=[]→Q .normal a w) ∧
  ∀ i ∈ Region.ready md ops listed,wpOp P ops Q i (fun a' w'=>(i=L∨S w')∧wpAnyL P md ops Q L S fuel (listed.setIfInBounds i true) a' w') a w
theorem wpAny_of_L:∀ (fuel:Nat) (listed:Array Bool) (a:Act) (w:World),wpAnyL P md ops Q L S fuel listed a w→wpAny P md ops Q fuel listed a w
 | 0,_,_,_,h=>h
 | fuel+1,_,_,_,h=>⟨h.1,fun i hi=>wpOp_mono (fun a' w' h'=>wpAny_of_L fuel _ a' w' h'.2) (h.2 i hi)⟩
def waitsL (md:Region.Mode) (ops:Array Oper) (L i:Nat) : Bool:=match ops[L]? with
 | none=>true
 | some o=>o.after.any fun e=>Region.binds md e && e.on == i
def freeL (md:Region.Mode) (ops:Array Oper) (L:Nat) (listed:Array Bool) (i:Nat) : Bool:=Region.free md ops listed i && waitsL md ops L i
theorem waitsL_spec {i:Nat} (h:waitsL md ops L i=true) (oL:Oper) (ho:ops[L]?=some oL) : ∃ e ∈ oL.after,Region.binds md e=true∧e.on=i:=by
 unfold waitsL at h
 rw [ho] at h
 obtain ⟨e,he,hb⟩:=Array.any_eq_true'.1 h
 rw [Bool.and_eq_true,beq_iff_eq] at hb
 exact ⟨e,he,hb⟩
theorem wpAnyL_first {i:Nat} {oi:Oper} {v:Value} (hi:ops[i]?=some oi) (hsel:∀ (j:Nat) (o:Oper) cs b,ops[j]?=some o→o.op≠.select cs b)
  (hQ:∀ c a w,Q (.panic c) (a.put oi.dst v) w→Q (.panic c) a w) (hL:∀ oL,ops[L]?=some oL→∃ e ∈ oL.after,Region.binds md e=true∧e.on=i) :
  ∀ (fuel:Nat) (listed:Array Bool) (a:Act) (w:World),
   (∀ j oj,ops[j]?=some oj→j≠i→listed.getD j true=false→(∀ e ∈ oj.after,Region.binds md e=true→e.on≠i)→oi.apart ops oj=true) →
   i ∈ Region.ready md ops listed→YieldsIf P ops S oi v a→S w →
   wpAnyL P md ops Q L S fuel (listed.setIfInBounds i true) (a.put oi.dst v) w→wpAnyL P md ops Q L S (fuel+1) listed a w:=by
 intro fuel
 induction fuel with
 | zero =>
  intro listed a w _ hr hy hS H
  refine ⟨fun h=>(by rw [h] at hr; cases hr),fun j hj=>?_⟩
  by_cases hji:j=i
  ·subst hji; exact hy.wpOp hi hS ⟨.inr hS,H⟩
  ·have:=ready_mono hj hji
   rw [H.1] at this
   cases this
 | succ fuel ih =>
  intro listed a w hfree hr hy hS H
  refine ⟨fun h=>(by rw [h] at hr; cases hr),fun j hj=>?_⟩
  by_cases hji:j=i
  ·subst hji; exact hy.wpOp hi hS ⟨.inr hS,H⟩
  ·have h1:=H.2 j (ready_mono hj hji)
   obtain ⟨hjun,oj,hoj,hall⟩:=mem_ready.1 hj
   have hnot:∀ e ∈ oj.after,Region.binds md e=true→e.on≠i:=fun e he hb heq=>by
    have h1:=hall e he hb
    have h0:=(mem_ready.1 hr).1
    rw [heq] at h1
    rcases Nat.lt_or_ge i listed.size with h' | h'
    ·simp [h'] at h0 h1; rw [h0] at h1; cases h1
    ·simp [Array.getElem?_eq_none h'] at h1
   have hjL:j≠L:=fun h=>by
    obtain ⟨e,he,hb,h2⟩:=hL oj (h ▸ hoj)
    exact hnot e he hb h2
   have h2:=wpOp_putIf hoj (hfree j oj hoj hji hjun hnot) (fun cs b=>hsel i oi cs b hi) (fun cs b=>hsel j oj cs b hoj) hQ hy h1
   have hfree':∀ k ok,ops[k]?=some ok→k≠i→(listed.setIfInBounds j true).getD k true=false →
     (∀ e ∈ ok.after,Region.binds md e=true→e.on≠i)→oi.apart ops ok=true:=fun k ok hk hki hun hno=>by
    refine hfree k ok hk hki ?_ hno
    by_cases hjk:j=k
    ·subst hjk; exact hjun
    ·rw [getD_set_ne true hjk] at hun; exact hun
   refine wpOp_mono (fun a' w' h3=>?_) h2
   have hS':S w':=h3.2.1.resolve_left hjL
   refine ⟨.inr hS',ih (listed.setIfInBounds j true) a' w' hfree' (ready_mono hr (Ne.symm hji)) h3.1 hS' ?_⟩
   rw [Array.setIfInBounds_comm _ _ hji]
   exact h3.2.2
theorem wpAnyL_take {i:Nat} {oi:Oper} {v:Value} {fuel:Nat} {listed:Array Bool} {a:Act} {w:World} (hi:ops[i]?=some oi)
  (hs:Region.noSelect ops=true) (hf:freeL md ops L listed i=true) (hr:(Region.ready md ops listed).contains i=true)
  (hQ:∀ c a w,Q (.panic c) (a.put oi.dst v) w→Q (.panic c) a w) (hy:YieldsIf P ops S oi v a) (hS:S w)
  (h:wpAnyL P md ops Q L S fuel (listed.setIfInBounds i true) (a.put oi.dst v) w) : wpAnyL P md ops Q L S (fuel+1) listed a w:=by
 unfold freeL at hf
 rw [Bool.and_eq_true] at hf
 exact wpAnyL_first hi (Region.noSelect_spec hs) hQ (waitsL_spec hf.2) fuel listed a w (Region.free_spec hi hf.1) (by simpa using hr) hy hS h
theorem wpAnyL_all {rs:List Nat} {fuel:Nat} {listed:Array Bool} {a:Act} {w:World} (hr:Region.ready md ops listed=rs) (hne:rs≠[])
  (h:∀ i ∈ rs,wpOp P ops Q i (fun a' w'=>(i=L∨S w')∧wpAnyL P md ops Q L S fuel (listed.setIfInBounds i true) a' w') a w) : wpAnyL P md ops Q L S (fuel+1) listed a w:=
 ⟨fun h0=>absurd (hr ▸ h0) hne,hr ▸ h⟩
theorem wpAnyL_done {listed:Array Bool} {a:Act} {w:World} (hr:Region.ready md ops listed=[]) (h:Q .normal a w) :
  ∀ fuel,wpAnyL P md ops Q L S fuel listed a w
 | 0=>⟨hr,h⟩
 | _+1=>⟨fun _=>h,by rw [hr]; simp⟩
end anyl
structure OW (P:Program) (n:Nat) (md:Md) (o:Oper) (Kn:Env→World→Prop) (K:Exit→Env→World→Prop) (ρ:Env) (w:World) : Prop where
 out:∀ a,Fr n md ρ a→∀ X:Act→World→Prop,(∀ a' w',(∃ ρ',Fr n md ρ' a'∧Kn ρ' w')→X a' w')→o.wp P a w X (lift n md K)
section ops
variable {P:Program} {n:Nat} {md:Md} {ops:Array Oper} {rest:List Oper} {K:Exit→Env→World→Prop} {Kn:Env→World→Prop} {ρ:Env} {w:World}
theorem WL.nil (h:K .normal ρ w) : WL P n md ops [] K ρ w:=⟨fun a ha=>⟨ρ,ha,h⟩⟩
theorem WL.op {o:Oper} (hg:o.guard=none) (h:OW P n md o (WL P n md ops rest K) K ρ w) : WL P n md ops (o :: rest) K ρ w:=
 ⟨fun a ha=>wpList_plain hg fun X hX=>h.out a ha X (fun a' w' ⟨ρ',hf,hk⟩=>hX _ _ (hk.out _ hf))⟩
theorem OW.val {d:Nat} {op:Op} {t:TypeId} {p:String} {e:Array Edge} {g:Option (Nat×Bool)} {v:Value} {w':World} (hd:Nat.blt d n=true)
  (hr:(execOp (ev ρ) { dst:=some d,op:=op,type:=t,pos:=p,after:=e,guard:=g }).run P w = .ok (.value v) w')
  (k:Kn (upd ρ d v) w') : OW P n md { dst:=some d,op:=op,type:=t,pos:=p,after:=e,guard:=g } Kn K ρ w:=by
 refine ⟨fun a ha X hX=>?_⟩
 unfold Oper.wp
 rw [ha.eval,hr]
 exact hX _ _ ⟨_,ha.put hd v,k⟩
theorem OW.unit {op:Op} {t:TypeId} {p:String} {e:Array Edge} {g:Option (Nat×Bool)} {w':World}
  (hr:(execOp (ev ρ) { dst:=none,op:=op,type:=t,pos:=p,after:=e,guard:=g }).run P w = .ok .skip w')
  (k:Kn ρ w') : OW P n md { dst:=none,op:=op,type:=t,pos:=p,after:=e,guard:=g } Kn K ρ w:=by
 refine ⟨fun a ha X hX=>?_⟩
 unfold Oper.wp
 rw [ha.eval,hr]
 exact hX _ _ ⟨_,ha,k⟩
theorem OW.callEnter {d:Nat} {op:Op} {t:TypeId} {p:String} {e:Array Edge} {g:Option (Nat×Bool)} {f:FuncId} {args:Array Value} {R:Ending→World→Prop} (hd:Nat.blt d n=true)
  (hr:(execOp (ev ρ) { dst:=some d,op:=op,type:=t,pos:=p,after:=e,guard:=g }).run P w = .ok (.enter f args) w)
  (hc:Calls P f args w R)
  (k:∀ e' w',R e' w'→∃ v,e' = .returned v∧Kn (upd ρ d v) w') :
  OW P n md { dst:=some d,op:=op,type:=t,pos:=p,after:=e,guard:=g } Kn K ρ w:=by
 refine ⟨fun a ha X hX=>?_⟩
 unfold Oper.wp
 rw [ha.eval,hr]
 refine Calls.mono hc fun e' w' hR=>?_
 obtain ⟨v,rfl,hk⟩:=k e' w' hR
 exact hX _ _ ⟨_,ha.put hd v,hk⟩
theorem OW.callEnter0 {op:Op} {t:TypeId} {p:String} {e:Array Edge} {g:Option (Nat×Bool)} {f:FuncId} {args:Array Value} {R:Ending→World→Prop}
  (hr:(execOp (ev ρ) { dst:=none,op:=op,type:=t,pos:=p,after:=e,guard:=g }).run P w = .ok (.enter f args) w)
  (hc:Calls P f args w R)
  (k:∀ e' w',R e' w'→∃ v,e' = .returned v∧Kn ρ w') :
  OW P n md { dst:=none,op:=op,type:=t,pos:=p,after:=e,guard:=g } Kn K ρ w:=by
 refine ⟨fun a ha X hX=>?_⟩
 unfold Oper.wp
 rw [ha.eval,hr]
 refine Calls.mono hc fun e' w' hR=>?_
 obtain ⟨v,rfl,hk⟩:=k e' w' hR
 exact hX _ _ ⟨_,ha,hk⟩
theorem yielded_of {a:Act} {g gd:Nat} {go:Oper} {b:Bool} (ha:Fr n md ρ a) (hg:ops[g]?=some go) (hgd:go.dst=some gd) (hv:ρ gd = .bool b) : yielded ops a.tmps g=some b:=by
 have h1:=ha.get gd
 rw [hv] at h1
 have hlt:gd < a.tmps.size:=by
  rcases Nat.lt_or_ge gd a.tmps.size with h | h
  ·exact h
  ·simp [Array.getD_eq_getD_getElem?,Array.getElem?_eq_none h,undef] at h1
 simp only [Array.getD_eq_getD_getElem?,Array.getElem?_eq_getElem hlt,Option.getD_some] at h1
 simp [yielded,hg,hgd,Array.getElem?_eq_getElem hlt,h1]
theorem WL.guardNo {d:Nat} {op:Op} {t:TypeId} {p:String} {e:Array Edge} {g:Nat} {b:Bool} {gd:Nat} {go:Oper} (hd:Nat.blt d n=true)
  (hg:ops[g]?=some go) (hgd:go.dst=some gd) (hv:ρ gd = .bool (!b))
  (k:WL P n md ops rest K (upd ρ d undef) w) : WL P n md ops ({ dst:=some d,op:=op,type:=t,pos:=p,after:=e,guard:=some (g,b) } :: rest) K ρ w:=by
 refine ⟨fun a ha=>?_⟩
 unfold wpList
 rw [if_neg (by simp [Region.wanted,yielded_of ha hg hgd hv])]
 exact k.out _ (ha.put hd undef)
theorem WL.guardYes {o:Oper} {g:Nat} {b:Bool} {gd:Nat} {go:Oper} (ho:o.guard=some (g,b))
  (hg:ops[g]?=some go) (hgd:go.dst=some gd) (hv:ρ gd = .bool b)
  (h:OW P n md o (WL P n md ops rest K) K ρ w) : WL P n md ops (o :: rest) K ρ w:=by
 refine ⟨fun a ha=>?_⟩
 unfold wpList
 rw [if_pos (by simp [Region.wanted,ho,yielded_of ha hg hgd hv])]
 exact .inl (h.out a ha _ (fun a' w' ⟨ρ',hf,hk⟩=>hk.out _ hf))
structure WA (P:Program) (n:Nat) (md:Md) (ops:Array Oper) (L:Nat) (S:World→Prop) (m:Nat) (listed:Array Bool) (K:Exit→Env→World→Prop) (ρ:Env) (w:World) : Prop where
 out:∀ a,Fr n md ρ a→wpAnyL P .any ops (lift n md K) L S m listed a w
 kp:md.kp=false
theorem WC.regionD {id:Nat} {L:Nat} {S:World→Prop} {dd kp:Bool} (hm:P.follows .mixedOrders=true) (h:WA P n ⟨none,dd,kp⟩ ops L S ops.size (Array.replicate ops.size false) K ρ { w with drawn:=w.drawn+1 }) :
  WC P n ⟨none,dd,kp⟩ (.region id ops true) K ρ w:=⟨fun a ha=>wpIn_wide.2 (wp_region_any hm (wpAny_of_L _ _ _ _ (h.out a ha)))⟩
section any
variable {L:Nat} {S:World→Prop} {m:Nat} {listed:Array Bool}
theorem WA.done (hr:Region.ready .any ops listed=[]) (h:K .normal ρ w) (hk:md.kp=false:=by rfl) : WA P n md ops L S m listed K ρ w:=
 ⟨fun a ha=>wpAnyL_done hr (show lift n md K .normal a w from ⟨ρ,ha,h⟩) m,hk⟩
theorem WA.take (i:Nat) {d:Nat} {op:Op} {t:TypeId} {p:String} {e:Array Edge} {v:Value} (hi:ops[i]?=some { dst:=some d,op:=op,type:=t,pos:=p,after:=e,guard:=none })
  (hs:Region.noSelect ops=true) (hf:freeL .any ops L listed i=true) (hr:(Region.ready .any ops listed).contains i=true) (hd:Nat.blt d n=true)
  (hy:∀ w,S w→(execOp (ev ρ) { dst:=some d,op:=op,type:=t,pos:=p,after:=e,guard:=none }).run P w = .ok (.value v) w) (hS:S w)
  (h:WA P n md ops L S m (listed.setIfInBounds i true) K (upd ρ d v) w) : WA P n md ops L S (m+1) listed K ρ w:=
 ⟨fun a ha=>wpAnyL_take hi hs hf hr (fun _ _ _ ⟨r_,h_,k_⟩=>⟨r_,h_.back h.kp,k_⟩) (.inl ⟨rfl,fun w hw=>by rw [ha.eval]; exact hy w hw⟩) hS (h.out _ (ha.put hd v)),h.kp⟩
theorem WA.one (i:Nat) {o:Oper} (hr:Region.ready .any ops listed=[i]) (hi:ops[i]?=some o) (hg:o.guard=none)
  (h:OW P n md o (fun ρ' w'=>S w'∧WA P n md ops L S m (listed.setIfInBounds i true) K ρ' w') K ρ w) (hk:md.kp=false:=by rfl) : WA P n md ops L S (m+1) listed K ρ w:=by
 refine ⟨fun a ha=>wpAnyL_all hr (by simp) fun j hj=>?_,hk⟩
 obtain rfl:j=i:=by simpa using hj
 unfold wpOp
 simp only [hi]
 rw [if_pos (by simp [Region.wanted,hg])]
 exact .inl (h.out a ha _ (fun a' w' ⟨ρ',hf,hS,hk⟩=>⟨.inr hS,hk.out _ hf⟩))
theorem WA.last (i:Nat) {o:Oper} (hr:Region.ready .any ops listed=[i]) (hn:Region.ready .any ops (listed.setIfInBounds i true)=[]) (hL:i=L) (hi:ops[i]?=some o) (hg:o.guard=none)
  (h:OW P n md o (K .normal) K ρ w) (hk:md.kp=false:=by rfl) : WA P n md ops L S (m+1) listed K ρ w:=by
 refine ⟨fun a ha=>wpAnyL_all hr (by simp) fun j hj=>?_,hk⟩
 obtain rfl:j=i:=by simpa using hj
 unfold wpOp
 simp only [hi]
 rw [if_pos (by simp [Region.wanted,hg])]
 exact .inl (h.out a ha _ (fun a' w' ⟨ρ',hf,hk⟩=>⟨.inl hL,wpAnyL_done hn ⟨ρ',hf,hk⟩ _⟩))
end any
end ops
section plain
variable {P:Program}
def Bin (P:Program) (op:BinOp) (t:TypeId) (a b v:Value) : Prop:=∀ (x y:Operand) (w:World),(do eqGuard op t x y a b; binOp op t a b:Sem Value).run P w = .ok v w
theorem bin_add {k:IntKind} {a b:Int} {xt:TypeId}:Bin P .add xt (.int k a) (.int k b) (.int k (k.wrap (a+b))):=fun x y w=>by simp [eqGuard,binOp,Op.intArith]
theorem bin_sub {k:IntKind} {a b:Int} {xt:TypeId}:Bin P .sub xt (.int k a) (.int k b) (.int k (k.wrap (a - b))):=fun x y w=>by simp [eqGuard,binOp,Op.intArith]
theorem bin_mul {k:IntKind} {a b:Int} {xt:TypeId}:Bin P .mul xt (.int k a) (.int k b) (.int k (k.wrap (a * b))):=fun x y w=>by simp [eqGuard,binOp,Op.intArith]
theorem bin_eql {k:IntKind} {a b:Int} {xt:TypeId}:Bin P .eql xt (.int k a) (.int k b) (.bool (a == b)):=fun x y w=>by simp [eqGuard,binOp,Op.intCmp]
theorem bin_neq {k:IntKind} {a b:Int} {xt:TypeId}:Bin P .neq xt (.int k a) (.int k b) (.bool (a != b)):=fun x y w=>by simp [eqGuard,binOp,Op.intCmp]
theorem bin_lss {k:IntKind} {a b:Int} {xt:TypeId}:Bin P .lss xt (.int k a) (.int k b) (.bool (decide (a < b))):=fun x y w=>by simp [eqGuard,binOp,Op.intCmp]
theorem bin_leq {k:IntKind} {a b:Int} {xt:TypeId}:Bin P .leq xt (.int k a) (.int k b) (.bool (decide (a≤b))):=fun x y w=>by simp [eqGuard,binOp,Op.intCmp]
theorem bin_gtr {k:IntKind} {a b:Int} {xt:TypeId}:Bin P .gtr xt (.int k a) (.int k b) (.bool (decide (a > b))):=fun x y w=>by simp [eqGuard,binOp,Op.intCmp]
theorem bin_geq {k:IntKind} {a b:Int} {xt:TypeId}:Bin P .geq xt (.int k a) (.int k b) (.bool (decide (a ≥ b))):=fun x y w=>by simp [eqGuard,binOp,Op.intCmp]
end plain
end Go.Proofs.YtpmkkhkphddfeaaGreatDoor.SX
set_option linter.unusedVariables false
namespace Go.Proofs.YtpmkkhkphddfeaaGreatDoor.SX
open Go
abbrev Tags:=Nat→Nat
structure Rep (α:Type) where
 sz:Nat
 R:(Nat→Prop)→World→α→List Value→Prop
 len:∀ {F w x cs},R F w x cs→cs.length=sz
 one:∀ {F w x cs},R F w x cs→∀ u ∈ cs,u.oneCell'=true
 mono:∀ {F F' w x cs},(∀ b,F b→F' b)→R F w x cs→R F' w x cs
 move:∀ {F w x cs} {w':World},(∀ b,F b→b < w.heap.size→w'.heap[b]?=w.heap[b]?)→R F w x cs→R (fun b=>F b∧b < w.heap.size) w' x cs
def Many {α:Type} (r:Rep α) (F:Nat→Prop) (w:World) : List α→List Value→Prop
 | [],cs=>cs=[]
 | x :: xs,cs => ∃ c0 c1,cs=c0++c1∧r.R F w x c0∧Many r F w xs c1
section many
variable {α:Type} {r:Rep α} {F F':Nat→Prop} {w w':World}
theorem Many.len:∀ {xs:List α} {cs},Many r F w xs cs→cs.length=xs.length * r.sz
 | [],cs,h=>by rw [show cs=[] from h]; simp
 | x :: xs,cs,h=>by
  obtain ⟨c0,c1,rfl,h0,h1⟩:=h
  rw [List.length_append,r.len h0,Many.len h1,List.length_cons,Nat.add_mul,Nat.one_mul,Nat.add_comm]
theorem Many.one:∀ {xs:List α} {cs},Many r F w xs cs→∀ u ∈ cs,u.oneCell'=true
 | [],cs,h,u,hu=>by rw [show cs=[] from h] at hu; cases hu
 | x :: xs,cs,h,u,hu=>by
  obtain ⟨c0,c1,rfl,h0,h1⟩:=h
  rcases List.mem_append.1 hu with hu | hu
  ·exact r.one h0 u hu
  ·exact Many.one h1 u hu
theorem Many.mono (hF:∀ b,F b→F' b) : ∀ {xs:List α} {cs},Many r F w xs cs→Many r F' w xs cs
 | [],cs,h=>h
 | x :: xs,cs,h=>by
  obtain ⟨c0,c1,rfl,h0,h1⟩:=h
  exact ⟨c0,c1,rfl,r.mono hF h0,Many.mono hF h1⟩
theorem Many.move (hm:∀ b,F b→b < w.heap.size→w'.heap[b]?=w.heap[b]?) : ∀ {xs:List α} {cs},Many r F w xs cs→Many r (fun b=>F b∧b < w.heap.size) w' xs cs
 | [],cs,h=>h
 | x :: xs,cs,h=>by
  obtain ⟨c0,c1,rfl,h0,h1⟩:=h
  exact ⟨c0,c1,rfl,r.move hm h0,Many.move hm h1⟩
theorem Many.append:∀ {xs ys:List α} {cs ds},Many r F w xs cs→Many r F w ys ds→Many r F w (xs++ys) (cs++ds)
 | [],ys,cs,ds,h,k=>by rw [show cs=[] from h]; exact k
 | x :: xs,ys,cs,ds,h,k=>by
  obtain ⟨c0,c1,rfl,h0,h1⟩:=h
  exact ⟨c0,c1++ds,by rw [List.append_assoc],h0,Many.append h1 k⟩
theorem Many.single {x:α} {cs} (h:r.R F w x cs) : Many r F w [x] cs:=⟨cs,[],by simp,h,rfl⟩
theorem Many.get:∀ {xs:List α} {cs} {i:Nat} {x:α},Many r F w xs cs→xs[i]?=some x→∃ c,r.R F w x c∧∀ j u,c[j]?=some u→cs[i * r.sz+j]?=some u
 | [],cs,i,x,h,hx=>by simp at hx
 | y :: xs,cs,0,x,h,hx=>by
  obtain ⟨c0,c1,rfl,h0,h1⟩:=h
  obtain rfl:y=x:=by simpa using hx
  refine ⟨c0,h0,fun j u hu=>?_⟩
  rw [Nat.zero_mul,Nat.zero_add,List.getElem?_append_left (List.getElem?_eq_some_iff.1 hu).1]
  exact hu
 | y :: xs,cs,i+1,x,h,hx=>by
  obtain ⟨c0,c1,rfl,h0,h1⟩:=h
  obtain ⟨c,hc,hj⟩:=Many.get h1 (by simpa using hx)
  refine ⟨c,hc,fun j u hu=>?_⟩
  have:=hj j u hu
  have hl:=r.len h0
  rw [List.getElem?_append_right (by rw [hl,Nat.add_mul,Nat.one_mul]; omega),hl]
  rw [show (i+1) * r.sz+j - r.sz=i * r.sz+j from by rw [Nat.add_mul,Nat.one_mul]; omega]
  exact this
theorem Many.drop:∀ {xs:List α} {cs} (k:Nat),Many r F w xs cs→Many r F w (xs.drop k) (cs.drop (k * r.sz))
 | xs,cs,0,h=>by simpa using h
 | [],cs,k+1,h=>by rw [show cs=[] from h]; simp [Many]
 | y :: xs,cs,k+1,h=>by
  obtain ⟨c0,c1,rfl,h0,h1⟩:=h
  have hl:=r.len h0
  rw [List.drop_succ_cons,show (k+1) * r.sz=c0.length+k * r.sz from by rw [Nat.add_mul,Nat.one_mul,hl,Nat.add_comm],← List.drop_drop,List.drop_left]
  exact Many.drop k h1
theorem Many.take:∀ {xs:List α} {cs} (k:Nat),Many r F w xs cs→Many r F w (xs.take k) (cs.take (k * r.sz))
 | xs,cs,0,h=>by simp [Many]
 | [],cs,k+1,h=>by rw [show cs=[] from h]; simp [Many]
 | y :: xs,cs,k+1,h=>by
  obtain ⟨c0,c1,rfl,h0,h1⟩:=h
  have hl:=r.len h0
  rw [List.take_succ_cons,show (k+1) * r.sz=c0.length+k * r.sz from by rw [Nat.add_mul,Nat.one_mul,hl,Nat.add_comm],List.take_length_add_append]
  exact ⟨c0,_,rfl,h0,Many.take k h1⟩
end many
def Row {α:Type} (r:Rep α) (G F:Nat→Prop) (w:World) (A:Option Addr) (xs:List α) : Prop:=
 xs.length≤maxLen∧(xs=[]∨∃ ad cells,A=some ad∧G ad.block∧ad.block < w.heap.size∧Many r F w xs cells∧∀ j u,cells[j]?=some u→w.cell? (ad.add j)=some u)
theorem add_block (a:Addr) (n:Nat) : (a.add n).block=a.block:=by unfold Addr.add; split <;> rfl
theorem cell_move {w w':World} {a:Addr} (h:w'.heap[a.block]?=w.heap[a.block]?) : w'.cell? a=w.cell? a:=by simp only [World.cell?,h]
theorem lt_move {w w':World} {b:Nat} (hb:b < w.heap.size) (h:w'.heap[b]?=w.heap[b]?) : b < w'.heap.size:=by
 rcases Nat.lt_or_ge b w'.heap.size with h' | h'
 ·exact h'
 ·rw [Array.getElem?_eq_none h',Array.getElem?_eq_getElem hb] at h; cases h
section row
variable {α:Type} {r:Rep α} {G F G' F':Nat→Prop} {w w':World} {A:Option Addr} {xs:List α}
theorem Row.mono (hG:∀ b,G b→G' b) (hF:∀ b,F b→F' b) (h:Row r G F w A xs) : Row r G' F' w A xs:=by
 refine ⟨h.1,h.2.imp id ?_⟩
 rintro ⟨ad,cells,e,hg,hb,hm,hc⟩
 exact ⟨ad,cells,e,hG _ hg,hb,hm.mono hF,hc⟩
theorem Row.move (hg:∀ b,G b→b < w.heap.size→w'.heap[b]?=w.heap[b]?) (hm:∀ b,F b→b < w.heap.size→w'.heap[b]?=w.heap[b]?) (h:Row r G F w A xs) :
  Row r (fun b=>G b∧b < w.heap.size) (fun b=>F b∧b < w.heap.size) w' A xs:=by
 refine ⟨h.1,h.2.imp id ?_⟩
 rintro ⟨ad,cells,e,hG,hb,hM,hc⟩
 refine ⟨ad,cells,e,⟨hG,hb⟩,lt_move hb (hg _ hG hb),hM.move hm,fun j u hu=>?_⟩
 rw [cell_move (w:=w) (by rw [add_block]; exact hg _ hG hb)]
 exact hc j u hu
theorem Row.nil:Row r G F w A []:=⟨Nat.zero_le _,.inl rfl⟩
theorem Row.get {i:Nat} {x:α} (h:Row r G F w A xs) (hx:xs[i]?=some x) :
  ∃ ad c,A=some ad∧c.length=r.sz∧r.R F w x c∧∀ j u,c[j]?=some u→w.cell? (ad.add (i * r.sz+j))=some u:=by
 rcases h.2 with rfl | ⟨ad,cells,e,hg,hb,hm,hc⟩
 ·simp at hx
 ·obtain ⟨c,hR,hj⟩:=hm.get hx
  exact ⟨ad,c,e,r.len hR,hR,fun j u hu=>hc _ _ (hj j u hu)⟩
end row
def Rep.scalar {α:Type} (enc:α→Value) (h1:∀ x,(enc x).oneCell'=true) : Rep α where
 sz:=1
 R:=fun _ _ x cs=>cs=[enc x]
 len:=fun h=>by rw [h]; rfl
 one:=fun h u hu=>by
  rw [h] at hu
  rw [List.mem_singleton.1 hu]
  exact h1 _
 mono:=fun _ h=>h
 move:=fun _ h=>h
def enc8 (x:UInt8) : Value:=.int .u8 (x.toNat:Int)
def enc32 (x:UInt32) : Value:=.int .u32 (x.toNat:Int)
def enc64 (x:UInt64) : Value:=.int .u64 (x.toNat:Int)
def encS (x:List UInt8) : Value:=.string ⟨x.toArray⟩
def Rep.int (k:IntKind) : Rep Int:=.scalar (Value.int k) (fun _=>rfl)
def Rep.u8:Rep UInt8:=.scalar enc8 (fun _=>rfl)
def Rep.u32:Rep UInt32:=.scalar enc32 (fun _=>rfl)
def Rep.u64:Rep UInt64:=.scalar enc64 (fun _=>rfl)
def Rep.bool:Rep Bool:=.scalar Value.bool (fun _=>rfl)
def Rep.str:Rep (List UInt8):=.scalar encS (fun _=>rfl)
def Rep.slice {α:Type} (r:Rep α) : Rep (List α) where
 sz:=1
 R:=fun F w xs cs => ∃ A c,cs=[.slice A xs.length c]∧xs.length≤c∧Row r F F w A xs
 len:=by rintro F w x cs ⟨A,c,rfl,_⟩; rfl
 one:=by
  rintro F w x cs ⟨A,c,rfl,_⟩ u hu
  rw [List.mem_singleton.1 hu]
  rfl
 mono:=by
  rintro F F' w x cs hF ⟨A,c,e,hl,hr⟩
  exact ⟨A,c,e,hl,hr.mono hF hF⟩
 move:=by
  rintro F w x cs w' hm ⟨A,c,e,hl,hr⟩
  exact ⟨A,c,e,hl,hr.move hm hm⟩
def Rep.pair {α β:Type} (a:Rep α) (b:Rep β) : Rep (α×β) where
 sz:=a.sz+b.sz
 R:=fun F w x cs => ∃ c0 c1,cs=c0++c1∧a.R F w x.1 c0∧b.R F w x.2 c1
 len:=by
  rintro F w x cs ⟨c0,c1,rfl,h0,h1⟩
  rw [List.length_append,a.len h0,b.len h1]
 one:=by
  rintro F w x cs ⟨c0,c1,rfl,h0,h1⟩ u hu
  rcases List.mem_append.1 hu with hu | hu
  ·exact a.one h0 u hu
  ·exact b.one h1 u hu
 mono:=by
  rintro F F' w x cs hF ⟨c0,c1,e,h0,h1⟩
  exact ⟨c0,c1,e,a.mono hF h0,b.mono hF h1⟩
 move:=by
  rintro F w x cs w' hm ⟨c0,c1,e,h0,h1⟩
  exact ⟨c0,c1,e,a.move hm h0,b.move hm h1⟩
def Rep.unit:Rep Unit where
 sz:=0
 R:=fun _ _ _ cs=>cs=[]
 len:=fun h=>by rw [h]; rfl
 one:=fun h u hu=>by rw [h] at hu; cases hu
 mono:=fun _ h=>h
 move:=fun _ h=>h
def Rep.iso {α β:Type} (d:Rep α) (f:β→α) : Rep β where
 sz:=d.sz
 R:=fun F w x cs=>d.R F w (f x) cs
 len:=d.len
 one:=d.one
 mono:=d.mono
 move:=d.move
def Rep.arr {α:Type} (n:Nat) (r:Rep α) : Rep (List α) where
 sz:=n * r.sz
 R:=fun F w xs cs=>xs.length=n∧Many r F w xs cs
 len:=by rintro F w x cs ⟨h,k⟩; rw [k.len,h]
 one:=by rintro F w x cs ⟨h,k⟩; exact k.one
 mono:=by rintro F F' w x cs hF ⟨h,k⟩; exact ⟨h,k.mono hF⟩
 move:=by rintro F w x cs w' hm ⟨h,k⟩; exact ⟨h,k.move hm⟩
structure Step (o:Tags) (w:World) (o':Tags) (w':World) (M:List Nat) : Prop where
 os:w'.os=w.os
 tape:w'.tape=w.tape
 output:w'.output=w.output
 size:w.heap.size≤w'.heap.size
 own:∀ b,b < w.heap.size→o' b=o b
 keep:∀ b,b < w.heap.size→o b ∉ M→w'.heap[b]?=w.heap[b]?
structure Fm (o0:Tags) (w0:World) (o:Tags) (w:World) (T:List Nat) : Prop where
 os:w.os=w0.os
 tape:w.tape=w0.tape
 output:w.output=w0.output
 size:w0.heap.size≤w.heap.size
 low:∀ b,b < w0.heap.size→o0 b < 40
 own:∀ b,b < w0.heap.size→o b=o0 b
 keep:∀ b,b < w0.heap.size→o0 b ∉ T→w.heap[b]?=w0.heap[b]?
theorem Step.refl (o:Tags) (w:World) (M:List Nat) : Step o w o w M:=⟨rfl,rfl,rfl,Nat.le_refl _,fun _ _=>rfl,fun _ _ _=>rfl⟩
theorem Fm.refl {o:Tags} {w:World} (h:∀ b,b < w.heap.size→o b < 40) (T:List Nat) : Fm o w o w T:=⟨rfl,rfl,rfl,Nat.le_refl _,h,fun _ _=>rfl,fun _ _ _=>rfl⟩
def okM (M T:List Nat) : Bool:=M.all fun i=>decide (40≤i) || T.contains i
theorem Fm.step {o0:Tags} {w0:World} {o:Tags} {w:World} {o':Tags} {w':World} {M T:List Nat} (h:Fm o0 w0 o w T) (s:Step o w o' w' M) (hM:okM M T=true) : Fm o0 w0 o' w' T:=by
 refine ⟨s.os.trans h.os,s.tape.trans h.tape,s.output.trans h.output,Nat.le_trans h.size s.size,h.low,fun b hb=>(s.own b (Nat.lt_of_lt_of_le hb h.size)).trans (h.own b hb),fun b hb hT=>?_⟩
 refine (s.keep b (Nat.lt_of_lt_of_le hb h.size) (fun hm=>?_)).trans (h.keep b hb hT)
 have h1:=(List.all_eq_true.1 hM) _ hm
 rw [h.own b hb] at h1
 have h2:=h.low b hb
 simp only [Bool.or_eq_true,decide_eq_true_eq,List.contains_iff_mem] at h1
 rcases h1 with h1 | h1
 ·omega
 ·exact hT h1
theorem Fm.out {o0:Tags} {w0:World} {o:Tags} {w:World} {T:List Nat} (h:Fm o0 w0 o w T) : Step o0 w0 o w T:=⟨h.os,h.tape,h.output,h.size,h.own,h.keep⟩
theorem Rep.step {α:Type} {r:Rep α} {V:Nat→Prop} {o:Tags} {w:World} {o':Tags} {w':World} {M:List Nat} {x:α} {cs:List Value} (s:Step o w o' w' M) (hV:∀ i,V i→i ∉ M)
  (h:r.R (fun b=>V (o b)) w x cs) : r.R (fun b=>V (o' b)) w' x cs:=
 r.mono (fun b hb=>by rw [s.own b hb.2]; exact hb.1) (r.move (fun b hb hlt=>s.keep b hlt (hV _ hb)) h)
abbrev D {α:Type} (r:Rep α) (o:Tags) (w:World) (x:α) (cs:List Value) : Prop:=r.R (fun b=>o b=0) w x cs
theorem D.step {α:Type} {r:Rep α} {o:Tags} {w:World} {o':Tags} {w':World} {M:List Nat} {x:α} {cs:List Value} (h:D r o w x cs) (s:Step o w o' w' M) (hM:M.contains 0=false) : D r o' w' x cs:=
 Rep.step (V:=fun i=>i=0) s (by rintro i rfl hm; rw [← List.contains_iff_mem] at hm; rw [hM] at hm; cases hm) h
structure Bk (o:Tags) (w:World) (i:Nat) (b:Nat) (cs:List Value) (T:TypeId) : Prop where
 tag:o b=i
 heap:w.heap[b]?=some (.cells cs.toArray T (0,0))
theorem Bk.step {o:Tags} {w:World} {o':Tags} {w':World} {M:List Nat} {i b:Nat} {cs:List Value} {T:TypeId} (h:Bk o w i b cs T) (s:Step o w o' w' M) (hM:M.contains i=false) : Bk o' w' i b cs T:=by
 have hb:b < w.heap.size:=(Array.getElem?_eq_some_iff.1 h.heap).1
 refine ⟨(s.own b hb).trans h.tag,(s.keep b hb (fun hm=>?_)).trans h.heap⟩
 rw [h.tag,← List.contains_iff_mem,hM] at hm
 cases hm
theorem Bk.cell {o:Tags} {w:World} {i b:Nat} {cs:List Value} {T:TypeId} (h:Bk o w i b cs T) {j:Nat} {v:Value} (hv:cs[j]?=some v) : w.cell? ⟨b,j,none⟩=some v:=by
 simp [World.cell?,h.heap,hv]
theorem Bk.free {o:Tags} {w:World} {i b:Nat} {cs:List Value} {T:TypeId} (h:Bk o w i b cs T) (j:Nat) : w.frozen? ⟨b,j,none⟩=false:=by
 simp [World.frozen?,h.heap]
def Own {α:Type} (r:Rep α) (E:TypeId) (i:Nat) (o:Tags) (w:World) (v:Value) (xs:List α) : Prop:=
 ∃ cells,w.ownsRow 0 E r.sz v xs.length cells∧(∀ b,v.ownBlock=some b→o b=i)∧Many r (fun b=>o b=0) w xs cells
section own
variable {α:Type} {r:Rep α} {E i:Nat} {o o':Tags} {w w':World} {v:Value} {xs:List α} {M:List Nat}
theorem Own.nil:Own r E i o w (.slice none 0 0) []:=⟨[],World.ownsRow_nil _ _ _ _,by simp [Value.ownBlock],rfl⟩
theorem Own.slice (h:Own r E i o w v xs) : ∃ A c,v = .slice A xs.length c:=by
 obtain ⟨cells,hown,_⟩:=h
 rcases hown.2 with ⟨rfl,h0⟩|⟨g,cap,cur,rfl,_⟩
 ·exact ⟨none,0,by rw [h0]⟩
 ·exact ⟨_,cap,rfl⟩
theorem Own.step (h:Own r E i o w v xs) (s:Step o w o' w' M) (hi:M.contains i=false) (h0:M.contains 0=false) : Own r E i o' w' v xs:=by
 obtain ⟨cells,hown,ht,hm⟩:=h
 refine ⟨cells,⟨hown.1,?_⟩,fun b hb=>?_,?_⟩
 ·rcases hown.2 with hn | ⟨g,cap,cur,rfl,hb,hg,rest⟩
  ·exact .inl hn
  ·refine .inr ⟨g,cap,cur,rfl,hb,?_,rest⟩
   have hlt:g < w.heap.size:=(Array.getElem?_eq_some_iff.1 hg).1
   rw [s.keep g hlt (fun hmem=>?_)]
   ·exact hg
   ·rw [ht g rfl,← List.contains_iff_mem,hi] at hmem
    cases hmem
 ·rw [s.own b (hown.lt b hb).2]; exact ht b hb
 ·have:=hm.move (w':=w') (fun b hb hlt=>s.keep b hlt (fun hmem=>by rw [hb,← List.contains_iff_mem,h0] at hmem; cases hmem))
  exact this.mono (fun b hb=>by rw [s.own b hb.2]; exact hb.1)
theorem Own.row (h:Own r E i o w v xs) : ∃ A c,v = .slice A xs.length c∧xs.length≤c∧Row r (fun b=>o b=i) (fun b=>o b=0) w A xs:=by
 obtain ⟨cells,hown,ht,hm⟩:=h
 rcases hown.2 with ⟨rfl,h0⟩|⟨g,cap,cur,rfl,_,hg,hn,hcm,hcs,htake⟩
 ·obtain rfl:xs=[]:=List.eq_nil_of_length_eq_zero h0
  exact ⟨none,0,rfl,Nat.le_refl _,Row.nil⟩
 ·refine ⟨_,cap,rfl,hn,Nat.le_trans hn hcm,.inr ⟨⟨g,0,none⟩,cells,rfl,ht g rfl,(Array.getElem?_eq_some_iff.1 hg).1,hm,hown.cells (g:=g) rfl⟩⟩
theorem Own.reads {F:Nat→Prop} (h:Own r E i o w v xs) (hi:∀ b,o b=i→F b) (h0:∀ b,o b=0→F b) : (Rep.slice r).R F w xs [v]:=by
 obtain ⟨A,c,rfl,hl,hr⟩:=h.row
 exact ⟨A,c,rfl,hl,hr.mono hi h0⟩
end own
def pub (o:Tags) (i:Nat) : Tags:=fun b=>bif Nat.beq (o b) i then 0 else o b
theorem pub_zero (o:Tags) (i b:Nat) (h:o b=0) : pub o i b=0:=by simp [pub,h]
theorem pub_same (o:Tags) (i b:Nat) (h:o b=i) : pub o i b=0:=by simp [pub,h]
theorem pub_other {o:Tags} {i j b:Nat} (h:o b=j) (hj:Nat.beq j i=false) : pub o i b=j:=by simp [pub,h,hj]
theorem D.pub {α:Type} {r:Rep α} {o:Tags} {w:World} {x:α} {cs:List Value} (h:D r o w x cs) (i:Nat) : D r (pub o i) w x cs:=r.mono (fun b hb=>pub_zero o i b hb) h
theorem Bk.pub {o:Tags} {w:World} {j b:Nat} {cs:List Value} {T:TypeId} (h:Bk o w j b cs T) (i:Nat) (hj:Nat.beq j i=false) : Bk (pub o i) w j b cs T:=⟨pub_other h.tag hj,h.heap⟩
theorem Own.pub {α:Type} {r:Rep α} {E j:Nat} {o:Tags} {w:World} {v:Value} {xs:List α} (h:Own r E j o w v xs) (i:Nat) (hj:Nat.beq j i=false) : Own r E j (pub o i) w v xs:=by
 obtain ⟨cells,hown,ht,hm⟩:=h
 exact ⟨cells,hown,fun b hb=>pub_other (ht b hb) hj,hm.mono (fun b hb=>pub_zero o i b hb)⟩
theorem Own.data {α:Type} {r:Rep α} {E i:Nat} {o:Tags} {w:World} {v:Value} {xs:List α} (h:Own r E i o w v xs) : D (Rep.slice r) (SX.pub o i) w xs [v]:=
 h.reads (fun b hb=>pub_same o i b hb) (fun b hb=>pub_zero o i b hb)
theorem Fm.pub {o0:Tags} {w0:World} {o:Tags} {w:World} {T:List Nat} (h:Fm o0 w0 o w T) (i:Nat) (hi:Nat.ble 40 i=true) : Fm o0 w0 (pub o i) w T:=by
 refine ⟨h.os,h.tape,h.output,h.size,h.low,fun b hb=>?_,h.keep⟩
 have h1:=h.low b hb
 have h2:=h.own b hb
 have hi':40≤i:=by simpa using hi
 refine pub_other h2 ?_
 rw [← Bool.not_eq_true,Nat.beq_eq]
 omega
theorem step_alloc (o:Tags) (w:World) (i:Nat) (ob:Obj) (M:List Nat) : Step o w (fun b=>bif Nat.beq b w.heap.size then i else o b) (w.alloc ob) M:=by
 refine ⟨rfl,rfl,rfl,by simp,fun b hb=>?_,fun b hb _=>RowKit.Below.heap_alloc w ob b hb⟩
 have:Nat.beq b w.heap.size=false:=by rw [← Bool.not_eq_true,Nat.beq_eq]; omega
 simp [this]
end Go.Proofs.YtpmkkhkphddfeaaGreatDoor.SX
set_option linter.unusedVariables false
set_option linter.unusedSimpArgs false
namespace Go.Proofs.YtpmkkhkphddfeaaGreatDoor.SX
open Go
def Ex (P:Program) (ρ:Env) (op:Op) (t:TypeId) (w:World) (v:Value) (w':World) : Prop:=
 ∀ d p e g,(execOp (ev ρ) { dst:=d,op:=op,type:=t,pos:=p,after:=e,guard:=g }).run P w = .ok (.value v) w'
section ops
variable {P:Program} {n:Nat} {md:Md} {ops:Array Oper} {rest:List Oper} {K:Exit→Env→World→Prop} {ρ:Env} {w:World}
theorem OW.ex {Kn:Env→World→Prop} {d:Nat} {op:Op} {t:TypeId} {p:String} {e:Array Edge} {g:Option (Nat×Bool)} {v:Value} {w':World} (hd:Nat.blt d n=true) (hr:Ex P ρ op t w v w')
  (k:Kn (upd ρ d v) w') : OW P n md { dst:=some d,op:=op,type:=t,pos:=p,after:=e,guard:=g } Kn K ρ w:=
 OW.val hd (hr _ _ _ _) k
theorem WL.ex {d:Nat} {op:Op} {t:TypeId} {p:String} {e:Array Edge} {v:Value} {w':World} (hd:Nat.blt d n=true) (hr:Ex P ρ op t w v w')
  (k:WL P n md ops rest K (upd ρ d v) w') : WL P n md ops ({ dst:=some d,op:=op,type:=t,pos:=p,after:=e,guard:=none } :: rest) K ρ w:=
 WL.op rfl (OW.ex hd hr k)
theorem WA.ex {L:Nat} {S:World→Prop} {m:Nat} {listed:Array Bool} (i:Nat) {d:Nat} {op:Op} {t:TypeId} {p:String} {e:Array Edge} {v:Value} (hi:ops[i]?=some { dst:=some d,op:=op,type:=t,pos:=p,after:=e,guard:=none })
  (hs:Region.noSelect ops=true) (hf:freeL .any ops L listed i=true) (hr:(Region.ready .any ops listed).contains i=true) (hd:Nat.blt d n=true)
  (hS:S w) (hy:∀ w,S w→Ex P ρ op t w v w) (h:WA P n md ops L S m (listed.setIfInBounds i true) K (upd ρ d v) w) : WA P n md ops L S (m+1) listed K ρ w:=
 WA.take i hi hs hf hr hd (fun w hw=>hy w hw _ _ _ _) hS h
theorem ex_move {x:Operand} {t:TypeId} {v:Value} (hx:ev ρ x=v) : Ex P ρ (.move x) t w v w:=fun _ _ _ _=>by subst hx; rfl
theorem ex_assign {x:Operand} {t:TypeId} {v:Value} (hx:ev ρ x=v) : Ex P ρ (.assign x) t w v w:=fun _ _ _ _=>by subst hx; rfl
theorem ex_bin {op:BinOp} {xt yt t:TypeId} {x y:Operand} {a b v:Value} (hx:ev ρ x=a) (hy:ev ρ y=b) (hb:Bin P op xt a b v) : Ex P ρ (.binOp op xt x y yt) t w v w:=by
 intro _ _ _ _
 have h:=hb x y w
 rw [← hx,← hy] at h
 simp only [execOp,Sem.run_bind] at h ⊢
 rw [h]
 rfl
theorem ex_not {xt t:TypeId} {x:Operand} {b:Bool} (hx:ev ρ x = .bool b) : Ex P ρ (.unOp .not xt x) t w (.bool (!b)) w:=fun _ _ _ _=>by
 simp [execOp,hx,Op.unary]
theorem ex_neg {xt t:TypeId} {x:Operand} {k:IntKind} {a:Int} (hx:ev ρ x = .int k a) : Ex P ρ (.unOp .neg xt x) t w (.int k (k.wrap (0 - a))) w:=fun _ _ _ _=>by
 simp [execOp,hx,Op.unary,Op.intArith]
theorem ex_un_xor {xt t:TypeId} {x:Operand} {k:IntKind} {a:Int} {v:Value} (hx:ev ρ x = .int k a) (hv:(Op.intBits .xor k (if k.signed then -1 else k.max) a).run P w = .ok v w) : Ex P ρ (.unOp .xor xt x) t w v w:=fun _ _ _ _=>by
 simp [execOp,hx,Op.unary,hv]
theorem ex_extract {t:TypeId} {x:Operand} {vs:Array Value} {i:Nat} {v:Value} (hx:ev ρ x = .tuple vs) (hv:vs[i]?=some v) : Ex P ρ (.extract x i) t w v w:=fun _ _ _ _=>by
 simp [execOp,hx,Instr.extract,hv]
theorem ex_nilCheck {t:TypeId} {x:Operand} {a:Addr} (hx:ev ρ x = .pointer (some a)) : Ex P ρ (.nilCheck x) t w (.pointer (some a)) w:=fun _ _ _ _=>by
 simp [execOp,hx]
theorem ex_makeFunc {t:TypeId} {fn:Fn} {first captured:Array Operand}:Ex P ρ (.makeFunc fn first captured) t w (.func fn (first.map (ev ρ)) (captured.map (ev ρ))) w:=fun _ _ _ _=>rfl
theorem ex_conv {src dst t:TypeId} {x:Operand} {k kd:IntKind} {a:Int} {ds:TypeDesc} (hx:ev ρ x = .int k a) (hs:P.underlying src=some ds) (hd:P.underlying dst=some (.int kd)) :
  Ex P ρ (.convert src dst x) t w (.int kd (kd.wrap a)) w:=fun _ _ _ _=>by
 simp [execOp,hx,convert,run_underlying hs,run_underlying hd,Conv.intToInt]
theorem ex_len_slice {t T e:TypeId} {x:Operand} {A:Option Addr} {m c:Nat} (hx:ev ρ x = .slice A m c) (hT:P.underlying T=some (.slice e)) :
  Ex P ρ (.call { callee:=.builtin .len,args:=#[x],argTypes:=#[T] }) t w (.int .i64 m) w:=fun _ _ _ _=>by
 simp [execOp,resolve,invoke,builtin,Builtin.len_,hx,run_underlying hT,goInt]
theorem size_enc (s:List UInt8) : (⟨s.toArray⟩ : ByteArray).size=s.length:=by simp [ByteArray.size]
theorem ex_len_str {t T:TypeId} {x:Operand} {s:List UInt8} (hx:ev ρ x=encS s) (hT:P.underlying T=some .string) :
  Ex P ρ (.call { callee:=.builtin .len,args:=#[x],argTypes:=#[T] }) t w (.int .i64 s.length) w:=fun _ _ _ _=>by
 have h:=size_enc s
 generalize hg:(⟨s.toArray⟩ : ByteArray)=g at h
 simp [execOp,resolve,invoke,builtin,Builtin.len_,hx,encS,run_underlying hT,goInt,hg,h]
def plainT (d:TypeDesc) : Bool:=match d with | .struct _ | .array _ _=>false | _=>true
theorem run_isAgg_no {t:TypeId} {d:TypeDesc} (ht:P.underlying t=some d) (hd:plainT d=true) : (isAgg t).run P w = .ok false w:=by
 unfold isAgg
 rw [Sem.run_bind,run_underlying ht w]
 cases d <;> simp_all [plainT]
theorem run_isAgg_yes {t:TypeId} {d:TypeDesc} (ht:P.underlying t=some d) (hd:plainT d=false) : (isAgg t).run P w = .ok true w:=by
 unfold isAgg
 rw [Sem.run_bind,run_underlying ht w]
 cases d <;> simp_all [plainT]
theorem run_sizeOf' {t:TypeId} {k:Nat} (hs:(P.info? t).map (·.size)=some k) : (sizeOf t).run P w = .ok k w:=by
 cases hq:P.info? t with
 | none=>simp [hq] at hs
 | some i =>
  have:i.size=k:=by simpa [hq] using hs
  simp [sizeOf,typeInfo,hq,this]
theorem ex_load1 {T t:TypeId} {x:Operand} {a:Addr} {v:Value} {d:TypeDesc} (hx:ev ρ x = .pointer (some a)) (hT:P.underlying T=some d) (hd:plainT d=true) (hc:w.cell? a=some v) :
  Ex P ρ (.load T x) t w v w:=fun _ _ _ _=>by
 simp [execOp,hx,Instr.loadAt,Instr.sureAddr,loadVar,run_isAgg_no hT hd,run_load,hc]
theorem ex_loadN {T t:TypeId} {x:Operand} {a:Addr} {cs:List Value} {d:TypeDesc} (hx:ev ρ x = .pointer (some a)) (hT:P.underlying T=some d) (hd:plainT d=false)
  (hs:(P.info? T).map (·.size)=some cs.length) (hc:∀ j u,cs[j]?=some u→w.cell? (a.add j)=some u) : Ex P ρ (.load T x) t w (.agg cs.toArray) w:=fun _ _ _ _=>by
 simp [execOp,hx,Instr.loadAt,Instr.sureAddr,loadVar,run_isAgg_yes hT hd,run_sizeOf' hs,run_loadCells_list w a cs hc]
theorem ex_indexAddr {T e t:TypeId} {x y:Operand} {A:Option Addr} {a:Addr} {m c k:Nat} {i:Int} {ik:IntKind} (hx:ev ρ x = .slice A m c) (hA:A=some a) (hy:ev ρ y = .int ik i) (hT:P.underlying T=some (.slice e))
  (hs:(P.info? e).map (·.size)=some k) (h0:0≤i) (h1:i < m) : Ex P ρ (.indexAddr T x y) t w (.pointer (some (a.add (i.toNat * k)))) w:=fun _ _ _ _=>by
 subst hA
 simp [execOp,hx,hy,Instr.indexAt,asIntOf,run_underlying hT,h0,h1,run_sizeOf' hs]
theorem ex_fieldAddr {T t:TypeId} {x:Operand} {a:Addr} {j:Nat} {fs:Array Field} {f:Field} {k:Nat} (hx:ev ρ x = .pointer (some a)) (hT:P.underlying T=some (.struct fs)) (hf:fs[j]?=some f)
  (hs:(P.info? f.type).map (·.size)=some (k+1)) : Ex P ρ (.fieldAddr T x j) t w (.pointer (some (a.add f.offset))) w:=fun _ _ _ _=>by
 simp [execOp,hx,Instr.fieldAt,Instr.sureAddr,run_underlying hT,hf,fieldPlace,run_sizeOf' hs]
theorem ex_index_str {T t:TypeId} {x y:Operand} {s:List UInt8} {ik:IntKind} {i:Int} {c:UInt8} (hx:ev ρ x=encS s) (hy:ev ρ y = .int ik i) (hT:P.underlying T=some .string) (h0:0≤i) (hc:s[i.toNat]?=some c) :
  Ex P ρ (.index T x y) t w (enc8 c) w:=fun _ _ _ _=>by
 have h2:(⟨s.toArray⟩ : ByteArray)[i.toNat]?=some c:=by
  obtain ⟨hl,hv⟩:=List.getElem?_eq_some_iff.1 hc
  rw [getElem?_pos _ _ (by simpa [ByteArray.size] using hl)]
  simp [ByteArray.getElem_eq_getElem_data,hv]
 simp [execOp,hx,hy,Instr.index,asIntOf,encS,run_underlying hT,h0,h2,enc8]
end ops
section make
variable {P:Program} {n:Nat} {md:Md} {ops:Array Oper} {rest:List Oper} {K:Exit→Env→World→Prop} {ρ:Env} {w:World} {o:Tags} {d:Nat} {t:TypeId} {p:String} {e:Array Edge}
theorem OW.box {Kn:Env→World→Prop} {g:Option (Nat×Bool)} {T:TypeId} {x:Operand} (cs:List Value) (i:Nat) (o:Tags) (hd:Nat.blt d n=true) (hx:(ev ρ x).cells=cs.toArray)
  (k:∀ o' w' b,Step o w o' w' []→Bk o' w' i b cs T→Kn (upd ρ d (.pointer (some ⟨b,0,none⟩))) w') :
  OW P n md { dst:=some d,op:=.box T x,type:=t,pos:=p,after:=e,guard:=g } Kn K ρ w:=by
 refine OW.val (v:=.pointer (some ⟨w.heap.size,0,none⟩)) (w':=w.alloc (.cells cs.toArray T)) hd ?_ (k (fun b=>bif Nat.beq b w.heap.size then i else o b) _ _ (step_alloc o w i _ _) ⟨by simp,?_⟩)
 ·simp [execOp,Instr.box,newVar,newRow,newObj,Sem.run,hx]
 ·exact heap_alloc_new w _
theorem run_zeroValue' {T:TypeId} {v:Value} (hz:(P.info? T).map (·.zero)=some (some v)) : (zeroValue T).run P w = .ok v w:=by
 cases hq:P.info? T with
 | none=>simp [hq] at hz
 | some i =>
  have:i.zero=some v:=by simpa [hq] using hz
  simp [zeroValue,typeInfo,hq,this]
theorem OW.alloc {Kn:Env→World→Prop} {g:Option (Nat×Bool)} {T:TypeId} (cs:List Value) (i:Nat) (o:Tags) {z:Value} (hd:Nat.blt d n=true) (hz:(P.info? T).map (·.zero)=some (some z)) (hx:z.cells=cs.toArray)
  (k:∀ o' w' b,Step o w o' w' []→Bk o' w' i b cs T→Kn (upd ρ d (.pointer (some ⟨b,0,none⟩))) w') :
  OW P n md { dst:=some d,op:=.alloc T,type:=t,pos:=p,after:=e,guard:=g } Kn K ρ w:=by
 refine OW.val (v:=.pointer (some ⟨w.heap.size,0,none⟩)) (w':=w.alloc (.cells cs.toArray T)) hd ?_ (k (fun b=>bif Nat.beq b w.heap.size then i else o b) _ _ (step_alloc o w i _ _) ⟨by simp,?_⟩)
 ·simp [execOp,Instr.alloc,newVar,newRow,newObj,Sem.run,hx,run_zeroValue' hz]
 ·exact heap_alloc_new w _
end make
end Go.Proofs.YtpmkkhkphddfeaaGreatDoor.SX
set_option linter.unusedVariables false
set_option linter.unusedSimpArgs false
namespace Go.Proofs.YtpmkkhkphddfeaaGreatDoor.SX
open Go
def splice (cs:List Value) (j:Nat) (vs:List Value) : List Value:=cs.take j++vs++cs.drop (j+vs.length)
theorem splice_len {cs vs:List Value} {j:Nat} (h:j+vs.length≤cs.length) : (splice cs j vs).length=cs.length:=by
 simp [splice,List.length_append,List.length_take,List.length_drop]; omega
theorem splice_nil (cs:List Value) (j:Nat) : splice cs j []=cs:=by simp [splice]
theorem splice_cons {cs vs:List Value} {v:Value} {j:Nat} (h:j+(vs.length+1)≤cs.length) : splice (cs.set j v) (j+1) vs=splice cs j (v :: vs):=by
 have h1:(cs.set j v).take (j+1)=cs.take j++[v]:=by
  rw [List.take_succ_eq_append_getElem (by rw [List.length_set]; omega),List.take_set_of_le (Nat.le_refl _)]
  simp
 have h2:(cs.set j v).drop (j+1+vs.length)=cs.drop (j+(v :: vs).length):=by
  rw [List.drop_set_of_lt (by omega)]
  congr 1
  simp; omega
 simp only [splice,h1,h2,List.append_assoc,List.cons_append,List.nil_append]
section store
variable {P:Program}
theorem run_storeCells' (b j:Nat) (T:TypeId) : ∀ (vs:List Value) (k:Nat) (w:World) (cs:List Value),w.heap[b]?=some (.cells cs.toArray T (0,0))→j+k+vs.length≤cs.length→(∀ u ∈ vs,u.oneCell'=true) →
  (storeCells ⟨b,j,none⟩ vs k).run P w = .ok () { w with heap:=w.heap.setIfInBounds b (.cells (splice cs (j+k) vs).toArray T (0,0)) }
 | [],k,w,cs,hb,hl,h1=>by
  have:w.heap.setIfInBounds b (.cells cs.toArray T (0,0))=w.heap:=by
   apply Array.ext_getElem?
   intro i
   by_cases hi:b=i
   ·subst hi
    have hlt:=(Array.getElem?_eq_some_iff.1 hb).1
    simp [hlt,← hb]
   ·rw [Array.getElem?_setIfInBounds_ne hi]
  simp [storeCells,splice_nil,this]
 | v :: vs,k,w,cs,hb,hl,h1=>by
  have hlt:=(Array.getElem?_eq_some_iff.1 hb).1
  simp only [List.length_cons] at hl
  have hadd:(⟨b,j,none⟩ : Addr).add k=⟨b,j+k,none⟩:=by unfold Addr.add; split <;> simp_all
  have hc:w.cell? ⟨b,j+k,none⟩=some (cs[j+k]'(by omega)):=by
   simp [World.cell?,hb,List.getElem?_eq_getElem (show j+k < cs.length by omega)]
  have hf:w.frozen? ⟨b,j+k,none⟩=false:=by simp [World.frozen?,hb]
  have hset:w.setCell ⟨b,j+k,none⟩ v = { w with heap:=w.heap.setIfInBounds b (.cells (cs.set (j+k) v).toArray T (0,0)) }:=by
   unfold World.setCell
   congr 1
   apply Array.ext_getElem?
   intro i
   by_cases hi:b=i
   ·subst hi
    rw [Array.getElem?_modify,if_pos rfl,hb]
    simp [hlt]
   ·rw [Array.getElem?_modify,if_neg hi,Array.getElem?_setIfInBounds_ne hi]
  have ih:=run_storeCells' b j T vs (k+1) { w with heap:=w.heap.setIfInBounds b (.cells (cs.set (j+k) v).toArray T (0,0)) } (cs.set (j+k) v) (by simp [hlt]) (by rw [List.length_set]; omega) (fun u hu=>h1 u (List.mem_cons_of_mem _ hu))
  simp only [storeCells,Sem.run_bind,hadd,run_store P w ⟨b,j+k,none⟩ v .plain (h1 v List.mem_cons_self),hc,hf,hset]
  simp only [Bool.false_eq_true,if_false,Result.andThen_ok]
  rw [ih,← Nat.add_assoc,splice_cons (by omega)]
  simp
variable {n:Nat} {md:Md} {K:Exit→Env→World→Prop} {Kn:Env→World→Prop} {ρ:Env} {w:World} {o:Tags} {d:Nat} {t:TypeId} {p:String} {e:Array Edge} {g:Option (Nat×Bool)}
theorem step_set {o:Tags} {w:World} {b i:Nat} {ob:Obj} (ht:o b=i) : Step o w o { w with heap:=w.heap.setIfInBounds b ob } [i]:=by
 refine ⟨rfl,rfl,rfl,by simp,fun _ _=>rfl,fun c hc hm=>?_⟩
 have:b≠c:=by rintro rfl; exact hm (by simp [ht])
 simp [Array.getElem?_setIfInBounds_ne this]
theorem OW.store {T T':TypeId} {x y:Operand} {i b j:Nat} {cs vs:List Value} (cs':List Value) (hx:ev ρ x = .pointer (some ⟨b,j,none⟩)) (hy:(ev ρ y).cells=vs.toArray) (hs:(P.info? T).map (·.size)=some vs.length)
  (hB:Bk o w i b cs T') (hl:j+vs.length≤cs.length) (h1:∀ u ∈ vs,u.oneCell'=true) (hc:splice cs j vs=cs')
  (k:∀ w',Step o w o w' [i]→Bk o w' i b cs' T'→Kn ρ w') : OW P n md { dst:=none,op:=.store T x y,type:=t,pos:=p,after:=e,guard:=g } Kn K ρ w:=by
 have hr:=run_storeCells' (P:=P) b j T' vs 0 w cs hB.heap hl h1
 have hlt:=(Array.getElem?_eq_some_iff.1 hB.heap).1
 refine OW.unit (w':={ w with heap:=w.heap.setIfInBounds b (.cells (splice cs (j+0) vs).toArray T' (0,0)) }) ?_ (k _ (step_set hB.tag) ⟨hB.tag,by simp [hlt,hc]⟩)
 simp [execOp,hx,Instr.storeAt,Instr.sureAddr,storeVar,hy,run_sizeOf' hs,hr]
end store
section slices
variable {P:Program} {n:Nat} {md:Md} {K:Exit→Env→World→Prop} {Kn:Env→World→Prop} {ρ:Env} {w:World} {o:Tags} {d:Nat} {t:TypeId} {p:String} {e:Array Edge} {g:Option (Nat×Bool)}
theorem Bk.own {α:Type} {r:Rep α} {E i b m c:Nat} {cs:List Value} {xs:List α} (h:Bk o w i b cs E) (hm:Many r (fun b=>o b=0) w xs cs) (hl:xs.length=m) (hc:m≤maxLen) : Own r E i o w (.slice (some ⟨b,0,none⟩) m m) xs:=by
 subst hl
 have hlen:=hm.len
 refine ⟨cs,⟨hlen,.inr ⟨b,xs.length,cs.toArray,rfl,Nat.zero_le _,h.heap,Nat.le_refl _,hc,by simp [hlen],?_⟩⟩,fun b' hb'=>?_,hm⟩
 ·rw [← hlen]; simp
 ·have:b=b':=by simpa [Value.ownBlock] using hb'
  subst this; exact h.tag
theorem Bk.row {α:Type} {r:Rep α} {E i b:Nat} {cs:List Value} {xs:List α} (h:Bk o w i b cs E) {F:Nat→Prop} (hm:Many r F w xs cs) (hc:xs.length≤maxLen) : Row r (fun b=>o b=i) F w (some ⟨b,0,none⟩) xs:=by
 refine ⟨hc,.inr ⟨⟨b,0,none⟩,cs,rfl,h.tag,(Array.getElem?_eq_some_iff.1 h.heap).1,hm,fun j u hu=>?_⟩⟩
 have:(⟨b,0,none⟩ : Addr).add j=⟨b,j,none⟩:=by unfold Addr.add; split <;> simp_all
 rw [this]
 exact h.cell hu
theorem run_buildSlice {T E:TypeId} {len sz:Nat} {q:Array (Nat×Value)} (cs:List Value) {z:Value} (hT:P.underlying T=some (.slice E)) (hs:(P.info? E).map (·.size)=some sz)
  (hz:(P.info? E).map (·.zero)=some (some z)) (hlim:Nat.ble (len * sz) 16777216=true) (zs:Array Value) (hzs:zs=if len * sz=0 then #[] else z.cells)
  (hf:Instr.fill (fun i=>some (i * sz,sz)) ((Array.range (len * sz)).map (zs[· % zs.size]!)) q.toList=some cs.toArray) :
  (Instr.buildSlice T len q).run P w = .ok (.slice (some ⟨w.heap.size,0,none⟩) len len) (w.alloc (.cells cs.toArray E)):=by
 have hl:¬ (len * sz > 2 ^ 24):=by
  have:=Nat.le_of_ble_eq_true hlim
  omega
 unfold Instr.buildSlice
 simp only [Sem.run_bind,run_underlying hT,run_sizeOf' hs,Result.andThen_ok,hl,if_false]
 by_cases h0:len * sz=0
 ·simp only [h0,if_true] at hzs hf ⊢
  subst hzs
  simp only [Sem.run_bind,Sem.run_pure,Result.andThen_ok,hf]
  simp [newRow,newObj,Sem.run]
 ·simp only [h0,if_false] at hzs hf ⊢
  subst hzs
  simp only [Sem.run_bind,Sem.run_pure,Result.andThen_ok,run_zeroValue' hz,hf]
  simp [newRow,newObj,Sem.run]
theorem OW.buildSlice {T E:TypeId} {len sz:Nat} {parts:Array (Nat×Operand)} (cs:List Value) (i:Nat) (o:Tags) {z:Value} (hd:Nat.blt d n=true) (hT:P.underlying T=some (.slice E)) (hs:(P.info? E).map (·.size)=some sz)
  (hz:(P.info? E).map (·.zero)=some (some z)) (hlim:Nat.ble (len * sz) 16777216=true) (zs:Array Value) (hzs:zs=if len * sz=0 then #[] else z.cells)
  (hf:Instr.fill (fun i=>some (i * sz,sz)) ((Array.range (len * sz)).map (zs[· % zs.size]!)) (parts.toList.map fun q=>(q.1,ev ρ q.2))=some cs.toArray)
  (k:∀ o' w' b,Step o w o' w' []→Bk o' w' i b cs E→Kn (upd ρ d (.slice (some ⟨b,0,none⟩) len len)) w') :
  OW P n md { dst:=some d,op:=.buildSlice T len parts,type:=t,pos:=p,after:=e,guard:=g } Kn K ρ w:=by
 refine OW.val (v:=.slice (some ⟨w.heap.size,0,none⟩) len len) (w':=w.alloc (.cells cs.toArray E)) hd ?_ (k (fun b=>bif Nat.beq b w.heap.size then i else o b) _ _ (step_alloc o w i _ _) ⟨by simp,heap_alloc_new w _⟩)
 have hb:=run_buildSlice (P:=P) (w:=w) (q:=parts.map fun q=>(q.1,ev ρ q.2)) cs hT hs hz hlim zs hzs (by rw [Array.toList_map]; exact hf)
 show ((do pure (Next.value (← Instr.buildSlice T len (parts.map fun q=>(q.1,ev ρ q.2)))) : Sem Next)).run P w=_
 rw [Sem.run_bind,hb]
 rfl
theorem OW.append {α:Type} {r:Rep α} {T E:TypeId} {x y:Operand} {i bytes m c:Nat} {v z:Value} {xs ys:List α} {A:Option Addr} {G:Nat→Prop} (hd:Nat.blt d n=true) (hT:P.underlying T=some (.slice E))
  (hE:(P.info? E).map (fun i=>(i.zero,i.size,i.bytes))=some (some z,r.sz,bytes)) (hz:z.cells.size=r.sz) (hsz:0 < r.sz) (hb0:0 < bytes) (hi:i≠0)
  (hx:ev ρ x=v) (hy:ev ρ y = .slice A m c) (hO:Own r E i o w v xs) (hR:Row r G (fun b=>o b=0) w A ys) (hm:ys.length=m) (hl:(xs.length+ys.length) * bytes≤140737488355328)
  (k:∀ o' w' v',Step o w o' w' [i]→Own r E i o' w' v' (xs++ys)→Kn (upd ρ d v') w') :
  OW P n md { dst:=some d,op:=.call { callee:=.builtin .append,args:=#[x,y],argTypes:=#[T,T] },type:=t,pos:=p,after:=e,guard:=g } Kn K ρ w:=by
 subst hm
 obtain ⟨i0,hi0,hzz⟩:=Option.map_eq_some_iff.1 hE
 simp only [Prod.mk.injEq] at hzz
 obtain ⟨hz0,hz1,hz2⟩:=hzz
 obtain ⟨cells,hown,ht,hM⟩:=hO
 have hlen:xs.length+ys.length≤140737488355328:=Nat.le_trans (Nat.le_mul_of_pos_right _ hb0) hl
 rcases hR.2 with rfl | ⟨ad,news,rfl,hG,hblk,hY,hcell⟩
 ·
  have key:∀ A:Option Addr,∃ v' w',(Builtin.append_ #[T,T] t #[v,.slice A 0 c]).run P w = .ok v' w'∧w'=w∧v'=v:=by
   intro A
   have hsize:(sizeOf E).run P w = .ok r.sz w:=run_sizeOf' (by simp [hi0,hz1])
   rcases hown.2 with ⟨rfl,h0⟩|⟨gb,cap,cur,rfl,_,hg,hn,hcm,hcs,htake⟩
   ·refine ⟨_,_,?_,rfl,rfl⟩
    cases A <;> simp [Builtin.append_,run_underlying hT,run_underlying,hsize,Builtin.lenOf,Builtin.firstCells,loadCells,loadCellsFrom,storeCells]
   ·refine ⟨_,_,?_,rfl,rfl⟩
    cases A <;> simp [Builtin.append_,run_underlying hT,hsize,Builtin.lenOf,Builtin.firstCells,loadCells,loadCellsFrom,hn,storeCells]
  obtain ⟨v',w',hr,rfl,rfl⟩:=key A
  refine OW.val (v:=v') (w':=w') hd ?_ (k o w' v' (Step.refl _ _ _) ?_)
  ·simp only [execOp,resolve,invoke,builtin,Sem.run_bind,Sem.run_pure,Result.andThen_ok,List.map_toArray,List.map_cons,List.map_nil,hx,hy,List.length_nil,hr]
  ·rw [List.append_nil]; exact ⟨cells,hown,ht,hM⟩
 ·obtain ⟨v',w',hr,h2,h3,h4,h5⟩:=run_append_own_at (P:=P) w 0 T t E i0 z r.sz bytes hT hi0 hz0 hz1 hz2 hz hsz v xs.length cells hown ad ys.length c news (by rw [hY.len]) hcell hY.one (by simp only [maxLen]; omega) hl (Nat.zero_le _)
  have hnew:∀ b,v'.ownBlock=some b→b < w.heap.size→v.ownBlock=some b:=by
   intro b hb hlt
   rcases h5 with h5 | h5
   ·rw [← h5]; exact hb
   ·rw [h5] at hb; injection hb with hb; omega
  have hstep:Step o w (fun b=>bif Nat.beq b w.heap.size then i else o b) w' [i]:=by
   refine ⟨h3.os,h3.tape,h3.output,h3.size,fun b hb=>?_,fun b hb hn=>h3.block b hb (fun he=>hn (by simp [ht b he.symm]))⟩
   have:Nat.beq b w.heap.size=false:=by rw [← Bool.not_eq_true,Nat.beq_eq]; omega
   simp [this]
  refine OW.val (v:=v') (w':=w') hd ?_ (k _ w' v' hstep ?_)
  ·simp only [execOp,resolve,invoke,builtin,Sem.run_bind,Sem.run_pure,Result.andThen_ok,List.map_toArray,List.map_cons,List.map_nil,hx,hy,hr]
  ·refine ⟨cells++news,by rw [List.length_append]; exact h2,fun b hb=>?_,?_⟩
   ·rcases h5 with h5 | h5
    ·have hb':=h5 ▸ hb
     have hlt:=(hown.lt b hb').2
     have:Nat.beq b w.heap.size=false:=by rw [← Bool.not_eq_true,Nat.beq_eq]; omega
     simp only [this,cond_false]
     exact ht b hb'
    ·rw [h5] at hb; injection hb with hb; subst hb; simp
   ·have hmv:∀ b,o b=0→b < w.heap.size→w'.heap[b]?=w.heap[b]?:=fun b hb hlt=>h3.block b hlt (fun he=>hi ((ht b he.symm).symm.trans hb))
    refine ((hM.append hY).move (w':=w') hmv).mono (fun b hb=>?_)
    have:Nat.beq b w.heap.size=false:=by rw [← Bool.not_eq_true,Nat.beq_eq]; omega
    simp only [this,cond_false]
    exact hb.1
end slices
end Go.Proofs.YtpmkkhkphddfeaaGreatDoor.SX
set_option linter.unusedVariables false
set_option linter.unusedSimpArgs false
namespace Go.Proofs.YtpmkkhkphddfeaaGreatDoor.SX
open Go
def envOf:List Value→Nat→Value
 | [],_=>undef
 | v :: _,0=>v
 | _ :: vs,t+1=>envOf vs t
theorem envOf_get:∀ (l:List Value) (t:Nat),envOf l t=l.getD t undef
 | [],t=>by simp [envOf]
 | v :: vs,0=>by simp [envOf]
 | v :: vs,t+1=>by simp [envOf,envOf_get vs t]
def envE (l:List Value) : Env:=⟨envOf l,[]⟩
inductive Vals (P:Program) (ρ:Env) (w:World) : List ResultVar→List Value→Prop
 | nil:Vals P ρ w [] []
 | tmp {t:Tmp} {l:List ResultVar} {vs:List Value} (v:Value) (h:ρ t=v) (k:Vals P ρ w l vs) : Vals P ρ w (.tmp t :: l) (v :: vs)
 | cell {a:Tmp} {T:TypeId} {l:List ResultVar} {vs:List Value} {ad:Addr} (v:Value) (h:ρ a = .pointer (some ad)) (hl:(loadVar T ad).run P w = .ok v w) (k:Vals P ρ w l vs) : Vals P ρ w (.cell a T :: l) (v :: vs)
def one:List Value→Value
 | [v]=>v
 | vs => .tuple vs.toArray
def Top (P:Program) (fn:Func) (R:Ending→World→Prop) : Exit→Env→World→Prop
 | .normal,ρ,w | .ret,ρ,w => ∃ vs,Vals P ρ w fn.results.toList vs∧R (.returned (one vs)) w
 | .panic c,_,w=>R (.panicked c) w
 | .outgrown,_,w=>R .outgrown w
 | _,_,_=>False
section top
variable {P:Program}
def resOf (tmps:Array Value) : ResultVar→Sem Value
 | .tmp t=>pure (tmps.getD t undef)
 | .cell x t=>do loadVar t (← asAddr (tmps.getD x undef))
theorem results_eq (fn:Func) (tmps:Array Value) : results fn tmps=(do let vs ← fn.results.mapM (resOf tmps); pure (if h:vs.size=1 then vs[0] else .tuple vs)):=by
 unfold results
 congr 1
theorem vals_run {ρ:Env} {w:World} {n:Nat} {md:Md} {a:Act} (ha:Fr n md ρ a) : ∀ {l:List ResultVar} {vs:List Value},Vals P ρ w l vs→(l.mapM (resOf a.tmps)).run P w = .ok vs w
 | _,_,.nil=>by simp
 | _,_,.tmp v h k=>by
  have ih:=vals_run ha k
  have h1:=ha.get
  rw [List.mapM_cons]
  simp only [resOf,Sem.run_bind,Sem.run_pure,Result.andThen_ok,ih,h1,h]
 | _,_,.cell v h hl k=>by
  have ih:=vals_run ha k
  have h1:=ha.get
  rw [List.mapM_cons]
  simp only [resOf,Sem.run_bind,Sem.run_pure,Result.andThen_ok,ih,h1,h,asAddr,hl]
theorem results_run {fn:Func} {ρ:Env} {w:World} {n:Nat} {md:Md} {a:Act} {vs:List Value} (ha:Fr n md ρ a) (h:Vals P ρ w fn.results.toList vs) : (results fn a.tmps).run P w = .ok (one vs) w:=by
 have hv:=vals_run ha h
 rw [results_eq,Sem.run_bind]
 have hm:(fn.results.mapM (resOf a.tmps)).run P w = .ok vs.toArray w:=by
  rw [← Array.toArray_toList (xs:=fn.results),List.mapM_toArray,map_eq_pure_bind,Sem.run_bind,hv]
  rfl
 rw [hm]
 simp only [Result.andThen_ok,Sem.run_pure]
 cases vs with
 | nil=>simp [one]
 | cons v l=>cases l <;> simp [one]
theorem fr_start {fn:Func} {avs:List Value} {md:Md} (hn:Nat.ble avs.length fn.ntmps=true) : Fr fn.ntmps md (envE avs) { tmps:=avs.toArray++Array.replicate (fn.ntmps - avs.toArray.size) undef,defers:=[] }:=by
 have hn':avs.length≤fn.ntmps:=Nat.le_of_ble_eq_true hn
 refine ⟨by simp; omega,fun t=>?_,rfl,fun _=>rfl⟩
 show _=envOf avs t
 rw [envOf_get]
 simp only [Array.getD_eq_getD_getElem?,List.getD_eq_getElem?_getD]
 by_cases ht:t < avs.length
 ·rw [Array.getElem?_append_left (by simpa using ht)]; simp
 ·rw [Array.getElem?_append_right (by simpa using ht),List.getElem?_eq_none (Nat.le_of_not_lt ht),Array.getElem?_replicate]
  split <;> rfl
theorem calls {f:FuncId} {fn:Func} {c:Code} {w:World} {R:Ending→World→Prop} (avs:List Value) (hf:P.funcs[f]?=some fn) (hb:fn.body=some c) (hn:Nat.ble avs.length fn.ntmps=true)
  (h:WC P fn.ntmps .plain c (Top P fn R) (envE avs) w) : Calls P f avs.toArray w R:=by
 refine calls_of_wp hf hb (Code.wp_mono (fun e a w q=>?_) (wpIn_wide.1 (h.out _ (fr_start hn))))
 cases e with
 | normal =>
  obtain ⟨ρ,ha,vs,hv,hR⟩:=q
  exact ⟨ha.defs.trans (ha.dd rfl),_,results_run ha hv,hR⟩
 | ret =>
  obtain ⟨ρ,ha,vs,hv,hR⟩:=q
  exact ⟨ha.defs.trans (ha.dd rfl),_,results_run ha hv,hR⟩
 | exit i=>obtain ⟨ρ,ha,hk⟩:=q; exact hk.elim
 | goto l=>obtain ⟨ρ,ha,hk⟩:=q; exact hk.elim
 | panic c=>obtain ⟨ρ,ha,hk⟩:=q; rcases ha with ⟨h,_⟩|⟨_,h,_⟩; cases h; exact ⟨h rfl,hk⟩
 | outgrown=>exact q.elim
end top
section call
variable {P:Program} {n:Nat} {md:Md} {K:Exit→Env→World→Prop} {Kn:Env→World→Prop} {ρ:Env} {w:World} {d:Nat} {t:TypeId} {p:String} {e:Array Edge} {g:Option (Nat×Bool)}
theorem run_callFunc {f:FuncId} {fn:Func} {args:Array Value} (hf:P.funcs[f]?=some fn) (hn:(fn.name == "runtime.NumGoroutine")=false) (hb:fn.body.isNone=false) : (callFunc f args).run P w = .ok (.enter f args) w:=by
 have hn':fn.name ≠ "runtime.NumGoroutine" := by simpa using hn
 have hb':fn.body≠none:=by intro h; simp [h] at hb
 unfold callFunc
 simp [Sem.run,program,hf,hn',hb']
theorem run_call {dst:Option Tmp} {f:FuncId} {fn:Func} {xs:List Operand} {ts:Array TypeId} (avs:List Value) (hf:P.funcs[f]?=some fn) (hn:(fn.name == "runtime.NumGoroutine")=false) (hb:fn.body.isNone=false) (ha:xs.map (ev ρ)=avs) :
  (execOp (ev ρ) { dst:=dst,op:=.call { callee:=.value (.func f),args:=xs.toArray,argTypes:=ts },type:=t,pos:=p,after:=e,guard:=g }).run P w = .ok (.enter f avs.toArray) w:=by
 have:=run_callFunc (P:=P) (w:=w) (args:=avs.toArray) hf hn hb
 simp [execOp,resolve,Deferred.ofValue,ev,invoke,ha,this]
theorem OW.call {f:FuncId} {fn:Func} {xs:List Operand} {ts:Array TypeId} {R:Ending→World→Prop} (avs:List Value) (hd:Nat.blt d n=true) (hf:P.funcs[f]?=some fn) (hn:(fn.name == "runtime.NumGoroutine")=false) (hb:fn.body.isNone=false) (ha:xs.map (ev ρ)=avs)
  (hc:Calls P f avs.toArray w R) (k:∀ e' w',R e' w'→∃ v,e' = .returned v∧Kn (upd ρ d v) w') :
  OW P n md { dst:=some d,op:=.call { callee:=.value (.func f),args:=xs.toArray,argTypes:=ts },type:=t,pos:=p,after:=e,guard:=g } Kn K ρ w:=
 OW.callEnter hd (run_call avs hf hn hb ha) hc k
end call
def ix {α:Type} (xs:List α) (i:Int) : Option α:=if 0≤i then xs[i.toNat]? else none
theorem ix_some {α:Type} {xs:List α} {i:Int} {x:α} (h:ix xs i=some x) : 0≤i∧i < xs.length∧xs[i.toNat]?=some x:=by
 unfold ix at h
 split at h
 ·rename_i h0
  have:=(List.getElem?_eq_some_iff.1 h).1
  exact ⟨h0,by omega,h⟩
 ·cases h
theorem add_add (a:Addr) (i j:Nat) : (a.add i).add j=a.add (i+j):=by
 unfold Addr.add
 by_cases hi:i=0
 ·subst hi; simp
 ·by_cases hj:j=0
  ·subst hj; simp [hi]
  ·simp [hi,hj,Nat.add_assoc]
section rows
variable {α:Type} {r:Rep α} {G F:Nat→Prop} {w w':World} {A:Option Addr} {xs:List α} {i:Int} {x:α}
theorem part_cells {w:World} {a:Addr} {c0 cs:List Value} {off n:Nat} (hc:∀ m u,c0[m]?=some u→w.cell? (a.add m)=some u) (h:(c0.drop off).take n=cs) : ∀ j u,cs[j]?=some u→w.cell? ((a.add off).add j)=some u:=by
 intro j u hj
 subst h
 rw [add_add]
 refine hc _ _ ?_
 rw [List.getElem?_take] at hj
 split at hj
 ·rwa [List.getElem?_drop] at hj
 ·cases hj
theorem Row.ix (h:Row r G F w A xs) (hv:SX.ix xs i=some x) :
  ∃ ad c,A=some ad∧0≤i∧i < xs.length∧c.length=r.sz∧r.R F w x c∧∀ j u,c[j]?=some u→w.cell? ((ad.add (i.toNat * r.sz)).add j)=some u:=by
 obtain ⟨h0,h1,hx⟩:=ix_some hv
 obtain ⟨ad,c,e,hl,hR,hc⟩:=h.get hx
 exact ⟨ad,c,e,h0,h1,hl,hR,fun j u hu=>by rw [add_add]; exact hc j u hu⟩
theorem Row.step {o o':Tags} {M:List Nat} (h:Row r (fun b=>o b=0) (fun b=>o b=0) w A xs) (s:Step o w o' w' M) (hM:M.contains 0=false) : Row r (fun b=>o' b=0) (fun b=>o' b=0) w' A xs:=by
 have hk:∀ b,o b=0→b < w.heap.size→w'.heap[b]?=w.heap[b]?:=fun b hb hlt=>s.keep b hlt (fun hm=>by rw [hb,← List.contains_iff_mem,hM] at hm; cases hm)
 exact (h.move hk hk).mono (fun b hb=>by rw [s.own b hb.2]; exact hb.1) (fun b hb=>by rw [s.own b hb.2]; exact hb.1)
theorem Row.pub {o:Tags} (h:Row r (fun b=>o b=0) (fun b=>o b=0) w A xs) (i:Nat) : Row r (fun b=>SX.pub o i b=0) (fun b=>SX.pub o i b=0) w A xs:=
 h.mono (fun b hb=>pub_zero o i b hb) (fun b hb=>pub_zero o i b hb)
def cut {α:Type} (xs:List α) (lo hi:Int) : Option (List α):=if 0≤lo∧lo≤hi∧hi≤xs.length then some ((xs.take hi.toNat).drop lo.toNat) else none
theorem cut_some {xs ys:List α} {lo hi:Int} (h:cut xs lo hi=some ys) : 0≤lo∧lo≤hi∧hi≤xs.length∧ys=(xs.take hi.toNat).drop lo.toNat∧ys.length=hi.toNat - lo.toNat:=by
 unfold cut at h
 split at h
 ·rename_i hh
  injection h with h
  refine ⟨hh.1,hh.2.1,hh.2.2,h.symm,?_⟩
  rw [← h,List.length_drop,List.length_take]; omega
 ·cases h
def subA (A:Option Addr) (cap lo sz:Nat) : Option Addr:=if cap=lo then A else A.map (·.add (lo * sz))
theorem Row.cut {ys:List α} {lo hi:Int} {c:Nat} (h:Row r G F w A xs) (hc:xs.length≤c) (hv:SX.cut xs lo hi=some ys) : Row r G F w (subA A c lo.toNat r.sz) ys:=by
 obtain ⟨h0,h1,h2,hy,hl⟩:=cut_some hv
 refine ⟨by rw [hl]; have:=h.1; omega,?_⟩
 by_cases he:ys=[]
 ·exact .inl he
 ·have hlt:lo.toNat < hi.toNat:=by
   have:ys.length≠0:=fun h=>he (List.eq_nil_of_length_eq_zero h)
   omega
  rcases h.2 with rfl | ⟨ad,cells,e,hG,hb,hM,hcell⟩
  ·simp at h2; omega
  ·refine .inr ⟨ad.add (lo.toNat * r.sz),(cells.take (hi.toNat * r.sz)).drop (lo.toNat * r.sz),?_,by rw [add_block]; exact hG,by rw [add_block]; exact hb,by rw [hy]; exact (hM.take _).drop _,fun j u hu=>?_⟩
   ·rw [subA,if_neg (by omega),e]; rfl
   ·rw [add_add]
    rw [List.getElem?_drop] at hu
    refine hcell _ _ ?_
    rw [List.getElem?_take] at hu
    split at hu
    ·exact hu
    ·cases hu
end rows
section reslice
variable {P:Program} {ρ:Env} {w:World} {t:TypeId}
def lowOf (ρ:Env) : Option Operand→Int→Prop
 | none,i=>i=0
 | some x,i => ∃ k,ev ρ x = .int k i
def highOf (ρ:Env) (m:Nat) : Option Operand→Int→Prop
 | none,i=>i=m
 | some x,i => ∃ k,ev ρ x = .int k i
theorem run_sliceBound {k:IntKind} {i:Int} {y:Nat} {code:BoundsCode} (h0:0≤i) (h1:i≤y) : (Instr.sliceBound (.int k i) y code).run P w = .ok i.toNat w:=by
 simp [Instr.sliceBound,asIntOf,h0,h1]
theorem run_sliceBounds {isS:Bool} {len cap:Nat} {lo hi:Option Operand} {l h:Int} (hl:lowOf ρ lo l) (hh:highOf ρ len hi h) (h0:0≤l) (h1:l≤h) (h2:h≤cap) :
  (Instr.sliceBounds isS len cap (lo.map (ev ρ)) (hi.map (ev ρ)) none).run P w = .ok (l.toNat,h.toNat,cap) w:=by
 have hh':∀ code,(match hi.map (ev ρ),(none:Option Value) with | some v,some _=>Instr.sliceBound v cap .slice3B | some v,none=>Instr.sliceBound v cap code | none,none=>pure len | none,some _=>stuck "Slice: max without high").run P w = .ok h.toNat w:=by
  intro code
  cases hi with
  | none=>obtain rfl:h=len:=hh; simp
  | some x=>obtain ⟨k,hk⟩:=hh; simp [hk,run_sliceBound (P:=P) (w:=w) (k:=k) (show 0≤h by omega) h2]
 have hl':∀ code,(match lo.map (ev ρ) with | some v=>Instr.sliceBound v h.toNat code | none=>pure 0).run P w = .ok l.toNat w:=by
  intro code
  cases lo with
  | none=>obtain rfl:l=0:=hl; simp
  | some x=>obtain ⟨k,hk⟩:=hl; simp [hk,run_sliceBound (P:=P) (w:=w) (k:=k) (y:=h.toNat) h0 (by omega)]
 unfold Instr.sliceBounds
 cases hi with
 | none =>
  obtain rfl:h=len:=hh
  cases lo with
  | none=>obtain rfl:l=0:=hl; simp
  | some x=>obtain ⟨k,hk⟩:=hl; simp [hk,run_sliceBound (P:=P) (w:=w) (k:=k) (y:=len) h0 (by omega)]
 | some y =>
  obtain ⟨k2,hk2⟩:=hh
  cases lo with
  | none=>obtain rfl:l=0:=hl; simp [hk2,run_sliceBound (P:=P) (w:=w) (k:=k2) (show 0≤h by omega) h2]
  | some x=>obtain ⟨k,hk⟩:=hl; simp [hk,hk2,run_sliceBound (P:=P) (w:=w) (k:=k2) (show 0≤h by omega) h2,run_sliceBound (P:=P) (w:=w) (k:=k) (y:=h.toNat) h0 (by omega)]
theorem ex_slice {T E:TypeId} {x:Operand} {A:Option Addr} {m c sz:Nat} {lo hi:Option Operand} {l h:Int} (hx:ev ρ x = .slice A m c) (hT:P.underlying T=some (.slice E)) (hs:(P.info? E).map (·.size)=some sz)
  (hl:lowOf ρ lo l) (hh:highOf ρ m hi h) (h0:0≤l) (h1:l≤h) (h2:h≤c) : Ex P ρ (.slice T x lo hi none) t w (.slice (subA A c l.toNat sz) (h.toNat - l.toNat) (c - l.toNat)) w:=fun _ _ _ _=>by
 simp [execOp,hx,Instr.sliceAt,Instr.slice,run_underlying hT,run_sliceBounds hl hh h0 h1 h2,run_sizeOf' hs,subA]
theorem extract_enc (s:List UInt8) (l h:Nat) : (⟨s.toArray⟩ : ByteArray).extract l h=⟨((s.take h).drop l).toArray⟩:=by
 apply ByteArray.ext
 simp [ByteArray.data_extract,List.extract_toArray,List.drop_take]
theorem ex_slice_str {T:TypeId} {x:Operand} {s s':List UInt8} {lo hi:Option Operand} {l h:Int} (hx:ev ρ x=encS s) (hT:P.underlying T=some .string)
  (hl:lowOf ρ lo l) (hh:highOf ρ s.length hi h) (hc:cut s l h=some s') : Ex P ρ (.slice T x lo hi none) t w (encS s') w:=fun _ _ _ _=>by
 obtain ⟨h0,h1,h2,hy,_⟩:=cut_some hc
 have hb:=run_sliceBounds (P:=P) (w:=w) (isS:=false) (len:=s.length) (cap:=s.length) hl hh h0 h1 (by omega)
 simp only [execOp,hx,encS,Instr.sliceAt,Instr.slice,Sem.run_bind,run_underlying hT,Result.andThen_ok,size_enc,hb]
 simp [hb,extract_enc,hy,encS]
end reslice
section bins
variable {P:Program}
theorem bin_eql_str {a b:List UInt8} {T:TypeId}:Bin P .eql T (encS a) (encS b) (.bool (a == b)):=fun x y w=>by simp [eqGuard,binOp,encS,Op.stringOp]
theorem bin_neq_str {a b:List UInt8} {T:TypeId}:Bin P .neq T (encS a) (encS b) (.bool (!(a == b))):=fun x y w=>by simp [eqGuard,binOp,encS,Op.stringOp]
theorem append_enc (a b:List UInt8) : (⟨a.toArray⟩ : ByteArray)++⟨b.toArray⟩=⟨(a++b).toArray⟩:=by
 apply ByteArray.ext
 simp
theorem bin_add_str {a b:List UInt8} {T:TypeId} (h:a.length+b.length≤9223372036854775807) : Bin P .add T (encS a) (encS b) (encS (a++b)):=fun x y w=>by
 have h1:¬ (((a.length+b.length:Nat) : Int) > IntKind.i64.max):=by
  have:IntKind.i64.max=9223372036854775807:=by decide
  rw [this]; omega
 simp only [eqGuard,binOp,encS,Op.stringOp,size_enc,if_neg h1]
 simp [append_enc]
theorem run_equalIn_bool (d:Nat) {a b:Bool} {T:TypeId} (hT:P.underlying T=some .bool) (w:World) : (Op.equalIn (d+1) T (.bool a) (.bool b)).run P w = .ok (a == b) w:=by
 simp [Op.equalIn,run_underlying hT]
theorem bin_eql_bool {a b:Bool} {T:TypeId} (hT:P.underlying T=some .bool) : Bin P .eql T (.bool a) (.bool b) (.bool (a == b)):=fun x y w=>by
 have h:=run_equalIn_bool (P:=P) 9999 (a:=a) (b:=b) hT w
 simp only [binOp,eqGuard,Op.equal,Op.maxDepth]
 simp [h]
theorem bin_neq_bool {a b:Bool} {T:TypeId} (hT:P.underlying T=some .bool) : Bin P .neq T (.bool a) (.bool b) (.bool (!(a == b))):=fun x y w=>by
 have h:=run_equalIn_bool (P:=P) 9999 (a:=a) (b:=b) hT w
 simp only [binOp,eqGuard,Op.equal,Op.maxDepth]
 simp [h]
end bins
end Go.Proofs.YtpmkkhkphddfeaaGreatDoor.SX
set_option linter.unusedVariables false
set_option linter.unusedSimpArgs false
namespace Go.Proofs.YtpmkkhkphddfeaaGreatDoor.SX
open Go Go.RowKit
theorem wrap_i64 (n:Int) : IntKind.i64.wrap n=wrap64 n:=by
 unfold IntKind.wrap wrap64 IntKind.signed IntKind.bits
 simp only [Bool.true_and,decide_eq_true_eq,ge_iff_le]
 omega
theorem wrap64_in {n:Int} (h0 : -9223372036854775808≤n) (h1:n≤9223372036854775807) : wrap64 n=n:=by
 unfold wrap64; omega
section u8
variable {P:Program}
theorem wrap_u8 (n:Int) : IntKind.u8.wrap n=n % 256:=by simp [IntKind.wrap,IntKind.signed,IntKind.bits]
theorem ofInt_u8 (a:UInt8) : BitVec.ofInt 8 (a.toNat:Int)=a.toBitVec:=by
 apply BitVec.eq_of_toNat_eq
 have:=a.toNat_lt
 simp
theorem wrap_enc8 (a:UInt8) : IntKind.u8.wrap (a.toNat:Int)=a.toNat:=by
 rw [wrap_u8]
 have:=a.toNat_lt
 omega
theorem bin_add_u8 {a b:UInt8} {T:TypeId}:Bin P .add T (enc8 a) (enc8 b) (enc8 (a+b)):=fun x y w=>by
 have h:IntKind.u8.wrap ((a.toNat:Int)+b.toNat)=((a+b).toNat:Int):=by rw [wrap_u8,UInt8.toNat_add]; omega
 simp [eqGuard,binOp,Op.intArith,enc8,h]
theorem bin_sub_u8 {a b:UInt8} {T:TypeId}:Bin P .sub T (enc8 a) (enc8 b) (enc8 (a - b)):=fun x y w=>by
 have ha:=a.toNat_lt
 have hb:=b.toNat_lt
 have h:IntKind.u8.wrap ((a.toNat:Int) - b.toNat)=((a - b).toNat:Int):=by rw [wrap_u8,UInt8.toNat_sub]; omega
 simp [eqGuard,binOp,Op.intArith,enc8,h]
theorem bin_and_u8 {a b:UInt8} {T:TypeId}:Bin P .and T (enc8 a) (enc8 b) (enc8 (a &&& b)):=fun x y w=>by
 have h:IntKind.u8.wrap (((a.toBitVec &&& b.toBitVec).toNat:Nat) : Int)=((a &&& b).toNat:Int):=wrap_enc8 (a &&& b)
 obtain ⟨c,hc⟩ : ∃ c,c=(a &&& b):=⟨_,rfl⟩
 rw [← hc] at h ⊢
 simp only [eqGuard,binOp,Op.intBits,enc8,IntKind.bits,ofInt_u8]
 simp
 exact h
theorem bin_or_u8 {a b:UInt8} {T:TypeId}:Bin P .or T (enc8 a) (enc8 b) (enc8 (a ||| b)):=fun x y w=>by
 have h:IntKind.u8.wrap (((a.toBitVec ||| b.toBitVec).toNat:Nat) : Int)=((a ||| b).toNat:Int):=wrap_enc8 (a ||| b)
 obtain ⟨c,hc⟩ : ∃ c,c=(a ||| b):=⟨_,rfl⟩
 rw [← hc] at h ⊢
 simp only [eqGuard,binOp,Op.intBits,enc8,IntKind.bits,ofInt_u8]
 simp
 exact h
theorem bin_xor_u8 {a b:UInt8} {T:TypeId}:Bin P .xor T (enc8 a) (enc8 b) (enc8 (a ^^^ b)):=fun x y w=>by
 have h:IntKind.u8.wrap (((a.toBitVec ^^^ b.toBitVec).toNat:Nat) : Int)=((a ^^^ b).toNat:Int):=wrap_enc8 (a ^^^ b)
 obtain ⟨c,hc⟩ : ∃ c,c=(a ^^^ b):=⟨_,rfl⟩
 rw [← hc] at h ⊢
 simp only [eqGuard,binOp,Op.intBits,enc8,IntKind.bits,ofInt_u8]
 simp
 exact h
theorem bin_andNot_u8 {a b:UInt8} {T:TypeId}:Bin P .andNot T (enc8 a) (enc8 b) (enc8 (a &&& ~~~b)):=fun x y w=>by
 have h:IntKind.u8.wrap (((a.toBitVec &&& ~~~b.toBitVec).toNat:Nat) : Int)=((a &&& ~~~b).toNat:Int):=wrap_enc8 (a &&& ~~~b)
 obtain ⟨c,hc⟩ : ∃ c,c=(a &&& ~~~b):=⟨_,rfl⟩
 rw [← hc] at h ⊢
 simp only [eqGuard,binOp,Op.intBits,enc8,IntKind.bits,ofInt_u8]
 simp
 exact h
theorem bin_eql_u8 {a b:UInt8} {T:TypeId}:Bin P .eql T (enc8 a) (enc8 b) (.bool (a == b)):=fun x y w=>by
 have h:((a.toNat:Int) == (b.toNat:Int))=(a == b):=by
  rw [Bool.eq_iff_iff]; simp only [beq_iff_eq]; rw [← UInt8.toNat_inj]; omega
 simp only [eqGuard,binOp,Op.intCmp,enc8,h]
 simp
theorem bin_neq_u8 {a b:UInt8} {T:TypeId}:Bin P .neq T (enc8 a) (enc8 b) (.bool (!(a == b))):=fun x y w=>by
 have h:((a.toNat:Int) != (b.toNat:Int)) = !(a == b):=by
  rw [bne]; congr 1; rw [Bool.eq_iff_iff]; simp only [beq_iff_eq]; rw [← UInt8.toNat_inj]; omega
 simp only [eqGuard,binOp,Op.intCmp,enc8,h]
 simp
theorem bin_lss_u8 {a b:UInt8} {T:TypeId}:Bin P .lss T (enc8 a) (enc8 b) (.bool (decide (a < b))):=fun x y w=>by
 simp [eqGuard,binOp,Op.intCmp,enc8,UInt8.lt_iff_toNat_lt]
theorem bin_leq_u8 {a b:UInt8} {T:TypeId}:Bin P .leq T (enc8 a) (enc8 b) (.bool (decide (a≤b))):=fun x y w=>by
 simp [eqGuard,binOp,Op.intCmp,enc8,UInt8.le_iff_toNat_le]
theorem bin_gtr_u8 {a b:UInt8} {T:TypeId}:Bin P .gtr T (enc8 a) (enc8 b) (.bool (decide (b < a))):=fun x y w=>by
 simp [eqGuard,binOp,Op.intCmp,enc8,UInt8.lt_iff_toNat_lt]
theorem bin_geq_u8 {a b:UInt8} {T:TypeId}:Bin P .geq T (enc8 a) (enc8 b) (.bool (decide (b≤a))):=fun x y w=>by
 simp [eqGuard,binOp,Op.intCmp,enc8,UInt8.le_iff_toNat_le]
def shl8 (a:UInt8) (n:Nat) : UInt8:=UInt8.ofNat (a.toNat * 2 ^ n)
def shr8 (a:UInt8) (n:Nat) : UInt8:=UInt8.ofNat (a.toNat / 2 ^ n)
theorem bin_shl_u8 {a:UInt8} {k:IntKind} {i:Int} {T:TypeId} (h0:0≤i) : Bin P .shl T (enc8 a) (.int k i) (enc8 (shl8 a i.toNat)):=fun x y w=>by
 have h:IntKind.u8.wrap ((a.toNat:Int) * 2 ^ (min i.toNat 8))=((shl8 a i.toNat).toNat:Int):=by
  rw [wrap_u8,shl8,UInt8.toNat_ofNat']
  have e1:((a.toNat:Int) * 2 ^ (min i.toNat 8))=((a.toNat * 2 ^ (min i.toNat 8) : Nat) : Int):=by simp
  rw [e1]
  have e2:(a.toNat * 2 ^ (min i.toNat 8)) % 256=(a.toNat * 2 ^ i.toNat) % 2 ^ 8:=by
   rcases Nat.le_total i.toNat 8 with h | h
   ·rw [Nat.min_eq_left h]
   ·rw [Nat.min_eq_right h]
    obtain ⟨c,hc⟩ : ∃ c,i.toNat=8+c:=⟨i.toNat - 8,by omega⟩
    rw [hc,Nat.pow_add,show a.toNat * (2 ^ 8 * 2 ^ c)=(a.toNat * 2 ^ c) * 2 ^ 8 from by rw [Nat.mul_comm (2 ^ 8) (2 ^ c),Nat.mul_assoc]]
    rw [Nat.mul_mod_left,Nat.mul_mod_left]
  omega
 have hn:¬ i < 0:=by omega
 simp only [eqGuard,binOp,Op.shift,enc8,hn,if_false,IntKind.bits,h]
 simp
theorem bin_shr_u8 {a:UInt8} {k:IntKind} {i:Int} {T:TypeId} (h0:0≤i) : Bin P .shr T (enc8 a) (.int k i) (enc8 (shr8 a i.toNat)):=fun x y w=>by
 have h:(a.toNat:Int).fdiv (2 ^ (min i.toNat 8))=((shr8 a i.toNat).toNat:Int):=by
  have ha:=a.toNat_lt
  rw [shr8,UInt8.toNat_ofNat']
  have e1:(a.toNat:Int).fdiv (2 ^ (min i.toNat 8))=((a.toNat / 2 ^ (min i.toNat 8) : Nat) : Int):=by
   rw [Int.fdiv_eq_ediv_of_nonneg _ (Int.le_of_lt (Int.pow_pos (by decide)))]; simp
  rw [e1]
  have e2:a.toNat / 2 ^ (min i.toNat 8)=a.toNat / 2 ^ i.toNat:=by
   rcases Nat.le_total i.toNat 8 with h | h
   ·rw [Nat.min_eq_left h]
   ·rw [Nat.min_eq_right h,Nat.div_eq_of_lt (by omega),Nat.div_eq_of_lt (Nat.lt_of_lt_of_le ha (Nat.pow_le_pow_right (by decide) h))]
  rw [e2,Nat.mod_eq_of_lt (Nat.lt_of_le_of_lt (Nat.div_le_self _ _) ha)]
 have hn:¬ i < 0:=by omega
 simp only [eqGuard,binOp,Op.shift,enc8,hn,if_false,IntKind.bits,h]
 simp
def ofI8 (n:Int) : UInt8:=UInt8.ofNat (n % 256).toNat
theorem ofI8_nat (n:Int) : ((ofI8 n).toNat:Int)=n % 256:=by
 have h0:=Int.emod_nonneg n (show (256:Int)≠0 by decide)
 have h1:=Int.emod_lt_of_pos n (show (0:Int) < 256 by decide)
 rw [ofI8,UInt8.toNat_ofNat',Nat.mod_eq_of_lt (by omega)]
 omega
variable {ρ:Env} {w:World}
theorem ex_conv_u8 {src dst t:TypeId} {x:Operand} {k:IntKind} {a:Int} {ds:TypeDesc} (hx:ev ρ x = .int k a) (hs:P.underlying src=some ds) (hd:P.underlying dst=some (.int .u8)) :
  Ex P ρ (.convert src dst x) t w (enc8 (ofI8 a)) w:=by
 have:=ex_conv (P:=P) (w:=w) (t:=t) hx hs hd
 rw [wrap_u8,← ofI8_nat] at this
 exact this
theorem ex_not_u8 {xt t:TypeId} {x:Operand} {a:UInt8} (hx:ev ρ x=enc8 a) : Ex P ρ (.unOp .xor xt x) t w (enc8 (~~~a)) w:=by
 refine ex_un_xor hx ?_
 have h:IntKind.u8.wrap (((BitVec.allOnes 8 ^^^ a.toBitVec).toNat:Nat) : Int)=((~~~a).toNat:Int):=by
  have:=wrap_enc8 (~~~a)
  rw [← this]
  congr 2
 have h2:BitVec.ofInt 8 (if IntKind.u8.signed then (-1:Int) else IntKind.u8.max)=BitVec.allOnes 8:=by decide
 obtain ⟨c,hc⟩ : ∃ c,c=(~~~a):=⟨_,rfl⟩
 rw [← hc] at h ⊢
 simp only [Op.intBits,IntKind.bits,h2,ofInt_u8]
 exact congrArg (fun z=>Result.ok (Value.int .u8 z) w) h
end u8
section u32
variable {P:Program}
theorem wrap_u32 (n:Int) : IntKind.u32.wrap n=n % 4294967296:=by simp [IntKind.wrap,IntKind.signed,IntKind.bits]
theorem ofInt_u32 (a:UInt32) : BitVec.ofInt 32 (a.toNat:Int)=a.toBitVec:=by
 apply BitVec.eq_of_toNat_eq
 have:=a.toNat_lt
 simp
theorem wrap_enc32 (a:UInt32) : IntKind.u32.wrap (a.toNat:Int)=a.toNat:=by
 rw [wrap_u32]
 have:=a.toNat_lt
 omega
theorem bin_add_u32 {a b:UInt32} {T:TypeId}:Bin P .add T (enc32 a) (enc32 b) (enc32 (a+b)):=fun x y w=>by
 have h:IntKind.u32.wrap ((a.toNat:Int)+b.toNat)=((a+b).toNat:Int):=by rw [wrap_u32,UInt32.toNat_add]; omega
 simp [eqGuard,binOp,Op.intArith,enc32,h]
theorem bin_sub_u32 {a b:UInt32} {T:TypeId}:Bin P .sub T (enc32 a) (enc32 b) (enc32 (a - b)):=fun x y w=>by
 have ha:=a.toNat_lt
 have hb:=b.toNat_lt
 have h:IntKind.u32.wrap ((a.toNat:Int) - b.toNat)=((a - b).toNat:Int):=by rw [wrap_u32,UInt32.toNat_sub]; omega
 simp [eqGuard,binOp,Op.intArith,enc32,h]
theorem bin_and_u32 {a b:UInt32} {T:TypeId}:Bin P .and T (enc32 a) (enc32 b) (enc32 (a &&& b)):=fun x y w=>by
 have h:IntKind.u32.wrap (((a.toBitVec &&& b.toBitVec).toNat:Nat) : Int)=((a &&& b).toNat:Int):=wrap_enc32 (a &&& b)
 obtain ⟨c,hc⟩ : ∃ c,c=(a &&& b):=⟨_,rfl⟩
 rw [← hc] at h ⊢
 simp only [eqGuard,binOp,Op.intBits,enc32,IntKind.bits,ofInt_u32]
 simp
 exact h
theorem bin_or_u32 {a b:UInt32} {T:TypeId}:Bin P .or T (enc32 a) (enc32 b) (enc32 (a ||| b)):=fun x y w=>by
 have h:IntKind.u32.wrap (((a.toBitVec ||| b.toBitVec).toNat:Nat) : Int)=((a ||| b).toNat:Int):=wrap_enc32 (a ||| b)
 obtain ⟨c,hc⟩ : ∃ c,c=(a ||| b):=⟨_,rfl⟩
 rw [← hc] at h ⊢
 simp only [eqGuard,binOp,Op.intBits,enc32,IntKind.bits,ofInt_u32]
 simp
 exact h
theorem bin_xor_u32 {a b:UInt32} {T:TypeId}:Bin P .xor T (enc32 a) (enc32 b) (enc32 (a ^^^ b)):=fun x y w=>by
 have h:IntKind.u32.wrap (((a.toBitVec ^^^ b.toBitVec).toNat:Nat) : Int)=((a ^^^ b).toNat:Int):=wrap_enc32 (a ^^^ b)
 obtain ⟨c,hc⟩ : ∃ c,c=(a ^^^ b):=⟨_,rfl⟩
 rw [← hc] at h ⊢
 simp only [eqGuard,binOp,Op.intBits,enc32,IntKind.bits,ofInt_u32]
 simp
 exact h
theorem bin_andNot_u32 {a b:UInt32} {T:TypeId}:Bin P .andNot T (enc32 a) (enc32 b) (enc32 (a &&& ~~~b)):=fun x y w=>by
 have h:IntKind.u32.wrap (((a.toBitVec &&& ~~~b.toBitVec).toNat:Nat) : Int)=((a &&& ~~~b).toNat:Int):=wrap_enc32 (a &&& ~~~b)
 obtain ⟨c,hc⟩ : ∃ c,c=(a &&& ~~~b):=⟨_,rfl⟩
 rw [← hc] at h ⊢
 simp only [eqGuard,binOp,Op.intBits,enc32,IntKind.bits,ofInt_u32]
 simp
 exact h
theorem bin_eql_u32 {a b:UInt32} {T:TypeId}:Bin P .eql T (enc32 a) (enc32 b) (.bool (a == b)):=fun x y w=>by
 have h:((a.toNat:Int) == (b.toNat:Int))=(a == b):=by
  rw [Bool.eq_iff_iff]; simp only [beq_iff_eq]; rw [← UInt32.toNat_inj]; omega
 simp only [eqGuard,binOp,Op.intCmp,enc32,h]
 simp
theorem bin_neq_u32 {a b:UInt32} {T:TypeId}:Bin P .neq T (enc32 a) (enc32 b) (.bool (!(a == b))):=fun x y w=>by
 have h:((a.toNat:Int) != (b.toNat:Int)) = !(a == b):=by
  rw [bne]; congr 1; rw [Bool.eq_iff_iff]; simp only [beq_iff_eq]; rw [← UInt32.toNat_inj]; omega
 simp only [eqGuard,binOp,Op.intCmp,enc32,h]
 simp
theorem bin_lss_u32 {a b:UInt32} {T:TypeId}:Bin P .lss T (enc32 a) (enc32 b) (.bool (decide (a < b))):=fun x y w=>by
 simp [eqGuard,binOp,Op.intCmp,enc32,UInt32.lt_iff_toNat_lt]
theorem bin_leq_u32 {a b:UInt32} {T:TypeId}:Bin P .leq T (enc32 a) (enc32 b) (.bool (decide (a≤b))):=fun x y w=>by
 simp [eqGuard,binOp,Op.intCmp,enc32,UInt32.le_iff_toNat_le]
theorem bin_gtr_u32 {a b:UInt32} {T:TypeId}:Bin P .gtr T (enc32 a) (enc32 b) (.bool (decide (b < a))):=fun x y w=>by
 simp [eqGuard,binOp,Op.intCmp,enc32,UInt32.lt_iff_toNat_lt]
theorem bin_geq_u32 {a b:UInt32} {T:TypeId}:Bin P .geq T (enc32 a) (enc32 b) (.bool (decide (b≤a))):=fun x y w=>by
 simp [eqGuard,binOp,Op.intCmp,enc32,UInt32.le_iff_toNat_le]
def shl32 (a:UInt32) (n:Nat) : UInt32:=UInt32.ofNat (a.toNat * 2 ^ n)
def shr32 (a:UInt32) (n:Nat) : UInt32:=UInt32.ofNat (a.toNat / 2 ^ n)
theorem bin_shl_u32 {a:UInt32} {k:IntKind} {i:Int} {T:TypeId} (h0:0≤i) : Bin P .shl T (enc32 a) (.int k i) (enc32 (shl32 a i.toNat)):=fun x y w=>by
 have h:IntKind.u32.wrap ((a.toNat:Int) * 2 ^ (min i.toNat 32))=((shl32 a i.toNat).toNat:Int):=by
  rw [wrap_u32,shl32,UInt32.toNat_ofNat']
  have e1:((a.toNat:Int) * 2 ^ (min i.toNat 32))=((a.toNat * 2 ^ (min i.toNat 32) : Nat) : Int):=by simp
  rw [e1]
  have e2:(a.toNat * 2 ^ (min i.toNat 32)) % 4294967296=(a.toNat * 2 ^ i.toNat) % 2 ^ 32:=by
   rcases Nat.le_total i.toNat 32 with h | h
   ·rw [Nat.min_eq_left h]
   ·rw [Nat.min_eq_right h]
    obtain ⟨c,hc⟩ : ∃ c,i.toNat=32+c:=⟨i.toNat - 32,by omega⟩
    rw [hc,Nat.pow_add,show a.toNat * (2 ^ 32 * 2 ^ c)=(a.toNat * 2 ^ c) * 2 ^ 32 from by rw [Nat.mul_comm (2 ^ 32) (2 ^ c),Nat.mul_assoc]]
    rw [Nat.mul_mod_left,Nat.mul_mod_left]
  omega
 have hn:¬ i < 0:=by omega
 simp only [eqGuard,binOp,Op.shift,enc32,hn,if_false,IntKind.bits,h]
 simp
theorem bin_shr_u32 {a:UInt32} {k:IntKind} {i:Int} {T:TypeId} (h0:0≤i) : Bin P .shr T (enc32 a) (.int k i) (enc32 (shr32 a i.toNat)):=fun x y w=>by
 have h:(a.toNat:Int).fdiv (2 ^ (min i.toNat 32))=((shr32 a i.toNat).toNat:Int):=by
  have ha:=a.toNat_lt
  rw [shr32,UInt32.toNat_ofNat']
  have e1:(a.toNat:Int).fdiv (2 ^ (min i.toNat 32))=((a.toNat / 2 ^ (min i.toNat 32) : Nat) : Int):=by
   rw [Int.fdiv_eq_ediv_of_nonneg _ (Int.le_of_lt (Int.pow_pos (by decide)))]; simp
  rw [e1]
  have e2:a.toNat / 2 ^ (min i.toNat 32)=a.toNat / 2 ^ i.toNat:=by
   rcases Nat.le_total i.toNat 32 with h | h
   ·rw [Nat.min_eq_left h]
   ·rw [Nat.min_eq_right h,Nat.div_eq_of_lt (by omega),Nat.div_eq_of_lt (Nat.lt_of_lt_of_le ha (Nat.pow_le_pow_right (by decide) h))]
  rw [e2,Nat.mod_eq_of_lt (Nat.lt_of_le_of_lt (Nat.div_le_self _ _) ha)]
 have hn:¬ i < 0:=by omega
 simp only [eqGuard,binOp,Op.shift,enc32,hn,if_false,IntKind.bits,h]
 simp
def ofI32 (n:Int) : UInt32:=UInt32.ofNat (n % 4294967296).toNat
theorem ofI32_nat (n:Int) : ((ofI32 n).toNat:Int)=n % 4294967296:=by
 have h0:=Int.emod_nonneg n (show (4294967296:Int)≠0 by decide)
 have h1:=Int.emod_lt_of_pos n (show (0:Int) < 4294967296 by decide)
 rw [ofI32,UInt32.toNat_ofNat',Nat.mod_eq_of_lt (by omega)]
 omega
variable {ρ:Env} {w:World}
theorem ex_conv_u32 {src dst t:TypeId} {x:Operand} {k:IntKind} {a:Int} {ds:TypeDesc} (hx:ev ρ x = .int k a) (hs:P.underlying src=some ds) (hd:P.underlying dst=some (.int .u32)) :
  Ex P ρ (.convert src dst x) t w (enc32 (ofI32 a)) w:=by
 have:=ex_conv (P:=P) (w:=w) (t:=t) hx hs hd
 rw [wrap_u32,← ofI32_nat] at this
 exact this
theorem ex_not_u32 {xt t:TypeId} {x:Operand} {a:UInt32} (hx:ev ρ x=enc32 a) : Ex P ρ (.unOp .xor xt x) t w (enc32 (~~~a)) w:=by
 refine ex_un_xor hx ?_
 have h:IntKind.u32.wrap (((BitVec.allOnes 32 ^^^ a.toBitVec).toNat:Nat) : Int)=((~~~a).toNat:Int):=by
  have:=wrap_enc32 (~~~a)
  rw [← this]
  congr 2
 have h2:BitVec.ofInt 32 (if IntKind.u32.signed then (-1:Int) else IntKind.u32.max)=BitVec.allOnes 32:=by decide
 obtain ⟨c,hc⟩ : ∃ c,c=(~~~a):=⟨_,rfl⟩
 rw [← hc] at h ⊢
 simp only [Op.intBits,IntKind.bits,h2,ofInt_u32]
 exact congrArg (fun z=>Result.ok (Value.int .u32 z) w) h
end u32
section u64
variable {P:Program}
theorem wrap_u64 (n:Int) : IntKind.u64.wrap n=n % 18446744073709551616:=by simp [IntKind.wrap,IntKind.signed,IntKind.bits]
theorem ofInt_u64 (a:UInt64) : BitVec.ofInt 64 (a.toNat:Int)=a.toBitVec:=by
 apply BitVec.eq_of_toNat_eq
 have:=a.toNat_lt
 simp
theorem wrap_enc64 (a:UInt64) : IntKind.u64.wrap (a.toNat:Int)=a.toNat:=by
 rw [wrap_u64]
 have:=a.toNat_lt
 omega
theorem bin_add_u64 {a b:UInt64} {T:TypeId}:Bin P .add T (enc64 a) (enc64 b) (enc64 (a+b)):=fun x y w=>by
 have h:IntKind.u64.wrap ((a.toNat:Int)+b.toNat)=((a+b).toNat:Int):=by rw [wrap_u64,UInt64.toNat_add]; omega
 simp [eqGuard,binOp,Op.intArith,enc64,h]
theorem bin_sub_u64 {a b:UInt64} {T:TypeId}:Bin P .sub T (enc64 a) (enc64 b) (enc64 (a - b)):=fun x y w=>by
 have ha:=a.toNat_lt
 have hb:=b.toNat_lt
 have h:IntKind.u64.wrap ((a.toNat:Int) - b.toNat)=((a - b).toNat:Int):=by rw [wrap_u64,UInt64.toNat_sub]; omega
 simp [eqGuard,binOp,Op.intArith,enc64,h]
theorem bin_and_u64 {a b:UInt64} {T:TypeId}:Bin P .and T (enc64 a) (enc64 b) (enc64 (a &&& b)):=fun x y w=>by
 have h:IntKind.u64.wrap (((a.toBitVec &&& b.toBitVec).toNat:Nat) : Int)=((a &&& b).toNat:Int):=wrap_enc64 (a &&& b)
 obtain ⟨c,hc⟩ : ∃ c,c=(a &&& b):=⟨_,rfl⟩
 rw [← hc] at h ⊢
 simp only [eqGuard,binOp,Op.intBits,enc64,IntKind.bits,ofInt_u64]
 simp
 exact h
theorem bin_or_u64 {a b:UInt64} {T:TypeId}:Bin P .or T (enc64 a) (enc64 b) (enc64 (a ||| b)):=fun x y w=>by
 have h:IntKind.u64.wrap (((a.toBitVec ||| b.toBitVec).toNat:Nat) : Int)=((a ||| b).toNat:Int):=wrap_enc64 (a ||| b)
 obtain ⟨c,hc⟩ : ∃ c,c=(a ||| b):=⟨_,rfl⟩
 rw [← hc] at h ⊢
 simp only [eqGuard,binOp,Op.intBits,enc64,IntKind.bits,ofInt_u64]
 simp
 exact h
theorem bin_xor_u64 {a b:UInt64} {T:TypeId}:Bin P .xor T (enc64 a) (enc64 b) (enc64 (a ^^^ b)):=fun x y w=>by
 have h:IntKind.u64.wrap (((a.toBitVec ^^^ b.toBitVec).toNat:Nat) : Int)=((a ^^^ b).toNat:Int):=wrap_enc64 (a ^^^ b)
 obtain ⟨c,hc⟩ : ∃ c,c=(a ^^^ b):=⟨_,rfl⟩
 rw [← hc] at h ⊢
 simp only [eqGuard,binOp,Op.intBits,enc64,IntKind.bits,ofInt_u64]
 simp
 exact h
theorem bin_andNot_u64 {a b:UInt64} {T:TypeId}:Bin P .andNot T (enc64 a) (enc64 b) (enc64 (a &&& ~~~b)):=fun x y w=>by
 have h:IntKind.u64.wrap (((a.toBitVec &&& ~~~b.toBitVec).toNat:Nat) : Int)=((a &&& ~~~b).toNat:Int):=wrap_enc64 (a &&& ~~~b)
 obtain ⟨c,hc⟩ : ∃ c,c=(a &&& ~~~b):=⟨_,rfl⟩
 rw [← hc] at h ⊢
 simp only [eqGuard,binOp,Op.intBits,enc64,IntKind.bits,ofInt_u64]
 simp
 exact h
theorem bin_eql_u64 {a b:UInt64} {T:TypeId}:Bin P .eql T (enc64 a) (enc64 b) (.bool (a == b)):=fun x y w=>by
 have h:((a.toNat:Int) == (b.toNat:Int))=(a == b):=by
  rw [Bool.eq_iff_iff]; simp only [beq_iff_eq]; rw [← UInt64.toNat_inj]; omega
 simp only [eqGuard,binOp,Op.intCmp,enc64,h]
 simp
theorem bin_neq_u64 {a b:UInt64} {T:TypeId}:Bin P .neq T (enc64 a) (enc64 b) (.bool (!(a == b))):=fun x y w=>by
 have h:((a.toNat:Int) != (b.toNat:Int)) = !(a == b):=by
  rw [bne]; congr 1; rw [Bool.eq_iff_iff]; simp only [beq_iff_eq]; rw [← UInt64.toNat_inj]; omega
 simp only [eqGuard,binOp,Op.intCmp,enc64,h]
 simp
theorem bin_lss_u64 {a b:UInt64} {T:TypeId}:Bin P .lss T (enc64 a) (enc64 b) (.bool (decide (a < b))):=fun x y w=>by
 simp [eqGuard,binOp,Op.intCmp,enc64,UInt64.lt_iff_toNat_lt]
theorem bin_leq_u64 {a b:UInt64} {T:TypeId}:Bin P .leq T (enc64 a) (enc64 b) (.bool (decide (a≤b))):=fun x y w=>by
 simp [eqGuard,binOp,Op.intCmp,enc64,UInt64.le_iff_toNat_le]
theorem bin_gtr_u64 {a b:UInt64} {T:TypeId}:Bin P .gtr T (enc64 a) (enc64 b) (.bool (decide (b < a))):=fun x y w=>by
 simp [eqGuard,binOp,Op.intCmp,enc64,UInt64.lt_iff_toNat_lt]
theorem bin_geq_u64 {a b:UInt64} {T:TypeId}:Bin P .geq T (enc64 a) (enc64 b) (.bool (decide (b≤a))):=fun x y w=>by
 simp [eqGuard,binOp,Op.intCmp,enc64,UInt64.le_iff_toNat_le]
def shl64 (a:UInt64) (n:Nat) : UInt64:=UInt64.ofNat (a.toNat * 2 ^ n)
def shr64 (a:UInt64) (n:Nat) : UInt64:=UInt64.ofNat (a.toNat / 2 ^ n)
theorem bin_shl_u64 {a:UInt64} {k:IntKind} {i:Int} {T:TypeId} (h0:0≤i) : Bin P .shl T (enc64 a) (.int k i) (enc64 (shl64 a i.toNat)):=fun x y w=>by
 have h:IntKind.u64.wrap ((a.toNat:Int) * 2 ^ (min i.toNat 64))=((shl64 a i.toNat).toNat:Int):=by
  rw [wrap_u64,shl64,UInt64.toNat_ofNat']
  have e1:((a.toNat:Int) * 2 ^ (min i.toNat 64))=((a.toNat * 2 ^ (min i.toNat 64) : Nat) : Int):=by simp
  rw [e1]
  have e2:(a.toNat * 2 ^ (min i.toNat 64)) % 18446744073709551616=(a.toNat * 2 ^ i.toNat) % 2 ^ 64:=by
   rcases Nat.le_total i.toNat 64 with h | h
   ·rw [Nat.min_eq_left h]
   ·rw [Nat.min_eq_right h]
    obtain ⟨c,hc⟩ : ∃ c,i.toNat=64+c:=⟨i.toNat - 64,by omega⟩
    rw [hc,Nat.pow_add,show a.toNat * (2 ^ 64 * 2 ^ c)=(a.toNat * 2 ^ c) * 2 ^ 64 from by rw [Nat.mul_comm (2 ^ 64) (2 ^ c),Nat.mul_assoc]]
    rw [Nat.mul_mod_left,Nat.mul_mod_left]
  omega
 have hn:¬ i < 0:=by omega
 simp only [eqGuard,binOp,Op.shift,enc64,hn,if_false,IntKind.bits,h]
 simp
theorem bin_shr_u64 {a:UInt64} {k:IntKind} {i:Int} {T:TypeId} (h0:0≤i) : Bin P .shr T (enc64 a) (.int k i) (enc64 (shr64 a i.toNat)):=fun x y w=>by
 have h:(a.toNat:Int).fdiv (2 ^ (min i.toNat 64))=((shr64 a i.toNat).toNat:Int):=by
  have ha:=a.toNat_lt
  rw [shr64,UInt64.toNat_ofNat']
  have e1:(a.toNat:Int).fdiv (2 ^ (min i.toNat 64))=((a.toNat / 2 ^ (min i.toNat 64) : Nat) : Int):=by
   rw [Int.fdiv_eq_ediv_of_nonneg _ (Int.le_of_lt (Int.pow_pos (by decide)))]; simp
  rw [e1]
  have e2:a.toNat / 2 ^ (min i.toNat 64)=a.toNat / 2 ^ i.toNat:=by
   rcases Nat.le_total i.toNat 64 with h | h
   ·rw [Nat.min_eq_left h]
   ·rw [Nat.min_eq_right h,Nat.div_eq_of_lt (by omega),Nat.div_eq_of_lt (Nat.lt_of_lt_of_le ha (Nat.pow_le_pow_right (by decide) h))]
  rw [e2,Nat.mod_eq_of_lt (Nat.lt_of_le_of_lt (Nat.div_le_self _ _) ha)]
 have hn:¬ i < 0:=by omega
 simp only [eqGuard,binOp,Op.shift,enc64,hn,if_false,IntKind.bits,h]
 simp
def ofI64 (n:Int) : UInt64:=UInt64.ofNat (n % 18446744073709551616).toNat
theorem ofI64_nat (n:Int) : ((ofI64 n).toNat:Int)=n % 18446744073709551616:=by
 have h0:=Int.emod_nonneg n (show (18446744073709551616:Int)≠0 by decide)
 have h1:=Int.emod_lt_of_pos n (show (0:Int) < 18446744073709551616 by decide)
 rw [ofI64,UInt64.toNat_ofNat',Nat.mod_eq_of_lt (by omega)]
 omega
variable {ρ:Env} {w:World}
theorem ex_conv_u64 {src dst t:TypeId} {x:Operand} {k:IntKind} {a:Int} {ds:TypeDesc} (hx:ev ρ x = .int k a) (hs:P.underlying src=some ds) (hd:P.underlying dst=some (.int .u64)) :
  Ex P ρ (.convert src dst x) t w (enc64 (ofI64 a)) w:=by
 have:=ex_conv (P:=P) (w:=w) (t:=t) hx hs hd
 rw [wrap_u64,← ofI64_nat] at this
 exact this
theorem ex_not_u64 {xt t:TypeId} {x:Operand} {a:UInt64} (hx:ev ρ x=enc64 a) : Ex P ρ (.unOp .xor xt x) t w (enc64 (~~~a)) w:=by
 refine ex_un_xor hx ?_
 have h:IntKind.u64.wrap (((BitVec.allOnes 64 ^^^ a.toBitVec).toNat:Nat) : Int)=((~~~a).toNat:Int):=by
  have:=wrap_enc64 (~~~a)
  rw [← this]
  congr 2
 have h2:BitVec.ofInt 64 (if IntKind.u64.signed then (-1:Int) else IntKind.u64.max)=BitVec.allOnes 64:=by decide
 obtain ⟨c,hc⟩ : ∃ c,c=(~~~a):=⟨_,rfl⟩
 rw [← hc] at h ⊢
 simp only [Op.intBits,IntKind.bits,h2,ofInt_u64]
 exact congrArg (fun z=>Result.ok (Value.int .u64 z) w) h
end u64
end Go.Proofs.YtpmkkhkphddfeaaGreatDoor.SX
set_option linter.unusedVariables false
set_option linter.unusedSimpArgs false
namespace Go.Proofs.YtpmkkhkphddfeaaGreatDoor.SX
open Go Go.RowKit
def vwt (V L:List Nat) (t:Nat) : Nat:=bif V.contains t then 0 else match L.idxOf? t with | some k=>2+k | none=>1
def vw (V L:List Nat) (o:Tags) : Tags:=fun b=>vwt V L (o b)
def unt (L J:List Nat) (t:Nat) : Nat:=bif Nat.ble 20 t && Nat.ble t 39 then J.getD (39 - t) 0 else bif Nat.ble 2 t && Nat.blt t (2+L.length) then L.getD (t - 2) 0 else 0
def un (o:Tags) (w:World) (o':Tags) (L J:List Nat) : Tags:=fun b=>bif Nat.blt b w.heap.size then o b else unt L J (o' b)
section views
variable {V L J:List Nat} {o o':Tags} {w w':World} {j:Nat}
theorem vwt_zero (hV:V.contains 0=true) : vwt V L 0=0:=by unfold vwt; rw [hV]; rfl
theorem vwt_in {t:Nat} (h:V.contains t=true) : vwt V L t=0:=by unfold vwt; rw [h]; rfl
theorem vw_low (hL:Nat.ble L.length 17=true) (t:Nat) : vwt V L t < 20:=by
 have hL':=Nat.le_of_ble_eq_true hL
 unfold vwt
 cases V.contains t with
 | true=>simp
 | false =>
  simp only [cond_false]
  cases h:L.idxOf? t with
  | none=>simp
  | some k =>
   have:k < L.length:=by
    have:=List.idxOf?_eq_some_iff.1 h
    obtain ⟨hk,_⟩:=this
    exact hk
   simp only
   omega
theorem vw_ten (hL:Nat.ble L.length 17=true) : ∀ b,b < w.heap.size→vw V L o b < 40:=fun b _=>Nat.lt_of_lt_of_le (vw_low hL _) (by decide)
theorem Row.vw {α:Type} {r:Rep α} {A:Option Addr} {xs:List α} (h:Row r (fun b=>o b=0) (fun b=>o b=0) w A xs) (hV:V.contains 0=true) :
  Row r (fun b=>SX.vw V L o b=0) (fun b=>SX.vw V L o b=0) w A xs:=
 h.mono (fun b hb=>by simp only [SX.vw,hb,vwt_zero hV]) (fun b hb=>by simp only [SX.vw,hb,vwt_zero hV])
theorem D.vw {α:Type} {r:Rep α} {x:α} {cs:List Value} (h:D r o w x cs) (hV:V.contains 0=true) : D r (SX.vw V L o) w x cs:=
 r.mono (fun b hb=>by simp only [SX.vw,hb,vwt_zero hV]) h
theorem Bk.vw {i i' b:Nat} {cs:List Value} {T:TypeId} (h:Bk o w i b cs T) (hi:vwt V L i=i') : Bk (SX.vw V L o) w i' b cs T:=⟨by simp only [SX.vw,h.tag,hi],h.heap⟩
theorem Own.vw {α:Type} {r:Rep α} {E i i':Nat} {v:Value} {xs:List α} (h:Own r E i o w v xs) (hV:V.contains 0=true) (hi:vwt V L i=i') : Own r E i' (SX.vw V L o) w v xs:=by
 obtain ⟨cells,hown,ht,hm⟩:=h
 exact ⟨cells,hown,fun b hb=>by simp only [SX.vw,ht b hb,hi],hm.mono (fun b hb=>by simp only [SX.vw,hb,vwt_zero hV])⟩
theorem idx_get {t k:Nat} (h:L.idxOf? t=some k) : L.getD k 0=t∧k < L.length:=by
 obtain ⟨hk,he,_⟩:=List.idxOf?_eq_some_iff.1 h
 exact ⟨by simp [List.getD,hk,he],hk⟩
theorem un_step {M:List Nat} (s:Step (SX.vw V L o) w o' w' M) (hM:M.all (fun m=>Nat.ble 2 m)=true) : Step o w (un o w o' L J) w' L:=by
 refine ⟨s.os,s.tape,s.output,s.size,fun b hb=>?_,fun b hb hn=>s.keep b hb (fun hm=>?_)⟩
 ·have:Nat.blt b w.heap.size=true:=by simpa [Nat.blt_eq] using hb
  simp [un,this]
 ·have h2:=Nat.le_of_ble_eq_true ((List.all_eq_true.1 hM) _ hm)
  simp only [SX.vw,vwt] at h2
  cases hc:V.contains (o b) with
  | true=>rw [hc] at h2; simp at h2
  | false =>
   rw [hc] at h2
   cases hk:L.idxOf? (o b) with
   | none=>rw [hk] at h2; simp at h2
   | some k =>
    obtain ⟨he,hlt⟩:=idx_get hk
    refine hn ?_
    rw [← he]
    simp [List.getD,hlt]
theorem un_old {b:Nat} (hb:b < w.heap.size) : un o w o' L J b=o b:=by
 have:Nat.blt b w.heap.size=true:=by simpa [Nat.blt_eq] using hb
 simp [un,this]
theorem un_new {b:Nat} (hb:¬ b < w.heap.size) : un o w o' L J b=unt L J (o' b):=by
 have:Nat.blt b w.heap.size=false:=by rw [← Bool.not_eq_true]; simpa [Nat.blt_eq] using hb
 simp [un,this]
theorem un_zero {M:List Nat} (s:Step (SX.vw [0] L o) w o' w' M) {b:Nat} (h:o' b=0) : un o w o' L J b=0:=by
 by_cases hb:b < w.heap.size
 ·rw [un_old hb]
  have h1:=s.own b hb
  rw [h] at h1
  simp only [SX.vw,vwt] at h1
  cases hc:([0] : List Nat).contains (o b) with
  | true=>simpa using hc
  | false =>
   rw [hc] at h1
   cases hk:L.idxOf? (o b) with
   | none=>rw [hk] at h1; simp at h1
   | some k=>rw [hk] at h1; simp only [cond_false] at h1; omega
 ·rw [un_new hb,h]; rfl
theorem un_nine (q:Nat) {M:List Nat} (hq:Nat.ble q 19=true) (hL:Nat.ble L.length 17=true) (s:Step (SX.vw V L o) w o' w' M) (hj:J.getD q 0=j) {b:Nat} (h:o' b=39 - q) : un o w o' L J b=j:=by
 have hq':=Nat.le_of_ble_eq_true hq
 by_cases hb:b < w.heap.size
 ·have h1:=s.own b hb
  have h2:=vw_low (V:=V) hL (o b)
  rw [h] at h1
  simp only [SX.vw] at h1
  omega
 ·rw [un_new hb,h]
  have e1:(Nat.ble 20 (39 - q) && Nat.ble (39 - q) 39)=true:=by simp; omega
  rw [unt,e1,← hj,cond_true,show 39 - (39 - q)=q from by omega]
theorem un_obj {M:List Nat} {k i:Nat} (s:Step (SX.vw V L o) w o' w' M) (hk:Nat.blt k L.length=true) (hk6:Nat.ble k 16=true) (hi:L.getD k 0=i) {b:Nat} (h:o' b=2+k) : un o w o' L J b=i:=by
 have hk':k < L.length:=by simpa [Nat.blt_eq] using hk
 have hk6':=Nat.le_of_ble_eq_true hk6
 by_cases hb:b < w.heap.size
 ·rw [un_old hb]
  have h1:=s.own b hb
  rw [h] at h1
  simp only [SX.vw,vwt] at h1
  cases hc:V.contains (o b) with
  | true=>rw [hc] at h1; simp at h1
  | false =>
   rw [hc] at h1
   cases hq:L.idxOf? (o b) with
   | none=>rw [hq] at h1; simp only [cond_false] at h1; omega
   | some q =>
    rw [hq] at h1
    simp only [cond_false] at h1
    obtain rfl:k=q:=by omega
    rw [← (idx_get hq).1,hi]
 ·rw [un_new hb,h]
  have e1:(Nat.ble 20 (2+k) && Nat.ble (2+k) 39)=false:=by rw [← Bool.not_eq_true]; simp; omega
  have e2:Nat.ble 2 (2+k)=true:=by simp
  have e3:Nat.blt (2+k) (2+L.length)=true:=by simp [Nat.blt_eq]; exact hk'
  simp only [unt,e1,e2,e3,← hi,cond_false,cond_true,Bool.and_self]; simp
theorem D.un {α:Type} {r:Rep α} {x:α} {cs:List Value} {M:List Nat} (h:D r o' w' x cs) (s:Step (SX.vw [0] L o) w o' w' M) : D r (SX.un o w o' L J) w' x cs:=r.mono (fun b hb=>un_zero s hb) h
end views
def ren (o:Tags) (i j:Nat) : Tags:=fun b=>bif Nat.beq (o b) i then j else o b
section ren
variable {o:Tags} {w:World} {i j:Nat}
theorem ren_same {b:Nat} (h:o b=i) : ren o i j b=j:=by simp [ren,h]
theorem ren_other {b k:Nat} (h:o b=k) (hk:Nat.beq k i=false) : ren o i j b=k:=by simp [ren,h,hk]
theorem D.ren {α:Type} {r:Rep α} {x:α} {cs:List Value} (h:D r o w x cs) (hi:Nat.beq 0 i=false) : D r (SX.ren o i j) w x cs:=r.mono (fun b hb=>ren_other hb hi) h
theorem Bk.ren {k b:Nat} {cs:List Value} {T:TypeId} (h:Bk o w k b cs T) (hk:Nat.beq k i=false) : Bk (SX.ren o i j) w k b cs T:=⟨ren_other h.tag hk,h.heap⟩
theorem Bk.renTo {b:Nat} {cs:List Value} {T:TypeId} (h:Bk o w i b cs T) : Bk (SX.ren o i j) w j b cs T:=⟨ren_same h.tag,h.heap⟩
theorem Own.ren {α:Type} {r:Rep α} {E k:Nat} {v:Value} {xs:List α} (h:Own r E k o w v xs) (hk:Nat.beq k i=false) (hi:Nat.beq 0 i=false) : Own r E k (SX.ren o i j) w v xs:=by
 obtain ⟨cells,hown,ht,hm⟩:=h
 exact ⟨cells,hown,fun b hb=>ren_other (ht b hb) hk,hm.mono (fun b hb=>ren_other hb hi)⟩
theorem Own.renTo {α:Type} {r:Rep α} {E:Nat} {v:Value} {xs:List α} (h:Own r E i o w v xs) (hi:Nat.beq 0 i=false) : Own r E j (SX.ren o i j) w v xs:=by
 obtain ⟨cells,hown,ht,hm⟩:=h
 exact ⟨cells,hown,fun b hb=>ren_same (ht b hb),hm.mono (fun b hb=>ren_other hb hi)⟩
theorem Fm.ren {o0:Tags} {w0:World} {T:List Nat} (h:Fm o0 w0 o w T) (hi:Nat.ble 40 i=true) : Fm o0 w0 (SX.ren o i j) w T:=by
 refine ⟨h.os,h.tape,h.output,h.size,h.low,fun b hb=>?_,h.keep⟩
 have h1:=h.low b hb
 have h2:=h.own b hb
 have hi':=Nat.le_of_ble_eq_true hi
 exact ren_other h2 (by rw [← Bool.not_eq_true,Nat.beq_eq]; omega)
end ren
theorem bindE {α β:Type} {m:Option α} {f:α→Option β} {r:β} (h:m.bind f=some r) : ∃ v,m=some v∧f v=some r:=Option.bind_eq_some_iff.mp h
def chk (b:Bool) : Option Unit:=bif b then some () else none
theorem chk_true {b:Bool} {u:Unit} (h:chk b=some u) : b=true:=by cases b <;> simp_all [chk]
theorem bin_add64 {P:Program} {a b:Int} {T:TypeId}:Bin P .add T (.int .i64 a) (.int .i64 b) (.int .i64 (wrap64 (a+b))):=by rw [← wrap_i64]; exact bin_add
theorem bin_sub64 {P:Program} {a b:Int} {T:TypeId}:Bin P .sub T (.int .i64 a) (.int .i64 b) (.int .i64 (wrap64 (a - b))):=by rw [← wrap_i64]; exact bin_sub
theorem bin_mul64 {P:Program} {a b:Int} {T:TypeId}:Bin P .mul T (.int .i64 a) (.int .i64 b) (.int .i64 (wrap64 (a * b))):=by rw [← wrap_i64]; exact bin_mul
theorem bin_quo64 {P:Program} {a b:Int} {T:TypeId} (h:b≠0) : Bin P .quo T (.int .i64 a) (.int .i64 b) (.int .i64 (wrap64 (a.tdiv b))):=by
 rw [← wrap_i64]; exact fun x y w=>by simp [eqGuard,binOp,Op.intDiv,h]
theorem bin_rem64 {P:Program} {a b:Int} {T:TypeId} (h:b≠0) : Bin P .rem T (.int .i64 a) (.int .i64 b) (.int .i64 (a.tmod b)):=fun x y w=>by simp [eqGuard,binOp,Op.intDiv,h]
theorem ex_conv64 {P:Program} {ρ:Env} {w:World} {src dst t:TypeId} {x:Operand} {k:IntKind} {a:Int} {ds:TypeDesc} (hx:ev ρ x = .int k a) (hs:P.underlying src=some ds) (hd:P.underlying dst=some (.int .i64)) :
  Ex P ρ (.convert src dst x) t w (.int .i64 (wrap64 a)) w:=by rw [← wrap_i64]; exact ex_conv hx hs hd
theorem ex_neg64 {P:Program} {ρ:Env} {w:World} {xt t:TypeId} {x:Operand} {a:Int} (hx:ev ρ x = .int .i64 a) : Ex P ρ (.unOp .neg xt x) t w (.int .i64 (wrap64 (0 - a))) w:=by rw [← wrap_i64]; exact ex_neg hx
end Go.Proofs.YtpmkkhkphddfeaaGreatDoor.SX
set_option linter.unusedVariables false
set_option linter.unusedSimpArgs false
namespace Go.Proofs.YtpmkkhkphddfeaaGreatDoor.SX
open Go Go.RowKit
section w
variable {P:Program} {n:Nat} {md:Md} {ops:Array Oper} {rest:List Oper} {K:Exit→Env→World→Prop} {Kn:Env→World→Prop} {ρ:Env} {w:World} {o:Tags}
theorem ex_pick {c x y:Operand} {t:TypeId} {b:Bool} {u v:Value} (hc:ev ρ c = .bool b) (hx:ev ρ x=u) (hy:ev ρ y=v) : Ex P ρ (.pick c x y) t w (bif b then u else v) w:=fun _ _ _ _=>by
 subst hx hy
 cases b <;> simp [execOp,hc,asBool]
theorem ex_pick_t {c x y:Operand} {t:TypeId} {v:Value} (hc:ev ρ c = .bool true) (hx:ev ρ x=v) : Ex P ρ (.pick c x y) t w v w:=fun _ _ _ _=>by
 subst hx; simp [execOp,hc,asBool]
theorem ex_pick_f {c x y:Operand} {t:TypeId} {v:Value} (hc:ev ρ c = .bool false) (hy:ev ρ y=v) : Ex P ρ (.pick c x y) t w v w:=fun _ _ _ _=>by
 subst hy; simp [execOp,hc,asBool]
theorem ex_slice' {T E t:TypeId} {x:Operand} {A A2:Option Addr} {m m2 c sz:Nat} {lo hi:Option Operand} {l h:Int} (hx:ev ρ x = .slice A m c) (hT:P.underlying T=some (.slice E)) (hs:(P.info? E).map (·.size)=some sz)
  (hl:lowOf ρ lo l) (hh:highOf ρ m hi h) (h0:0≤l) (h1:l≤h) (h2:h≤c) (hA:A2=subA A c l.toNat sz) (hm:m2=h.toNat - l.toNat) : Ex P ρ (.slice T x lo hi none) t w (.slice A2 m2 (c - l.toNat)) w:=by
 subst hA hm
 exact ex_slice hx hT hs hl hh h0 h1 h2
theorem ex_conv_small {src dst t:TypeId} {x:Operand} {k:IntKind} {a:Int} {ds:TypeDesc} (hx:ev ρ x = .int k a) (hs:P.underlying src=some ds) (hd:P.underlying dst=some (.int .i64)) (ha:0≤a∧a≤9223372036854775807) :
  Ex P ρ (.convert src dst x) t w (.int .i64 a) w:=by
 have:=ex_conv64 (P:=P) (w:=w) (t:=t) hx hs hd
 rw [wrap64_in (by omega) ha.2] at this
 exact this
theorem ex_conv_str {src dst t:TypeId} {x:Operand} {s:List UInt8} (hx:ev ρ x=encS s) (hs:P.underlying src=some .string) (hd:P.underlying dst=some .string) : Ex P ρ (.convert src dst x) t w (encS s) w:=fun _ _ _ _=>by
 simp [execOp,hx,encS,convert,run_underlying hs,run_underlying hd]
theorem add_plain' (b j:Nat) (i:Nat) : (⟨b,j,none⟩ : Addr).add i=⟨b,j+i,none⟩:=by unfold Addr.add; split <;> simp_all
theorem Bk.cells {i b:Nat} {cs vs:List Value} {T:TypeId} {off:Nat} (h:Bk o w i b cs T) (hv:(cs.drop off).take vs.length=vs) : ∀ j u,vs[j]?=some u→w.cell? ((⟨b,off,none⟩ : Addr).add j)=some u:=by
 intro j u hu
 rw [add_plain']
 refine h.cell ?_
 have hj:=(List.getElem?_eq_some_iff.1 hu).1
 rw [← hv,List.getElem?_take,if_pos hj,List.getElem?_drop] at hu
 exact hu
def subM (a b:List Nat) : Bool:=a.all fun i=>b.contains i
theorem Step.trans {o o1 o2:Tags} {w w1 w2:World} {M1 M2 M:List Nat} (s:Step o w o1 w1 M1) (t:Step o1 w1 o2 w2 M2) (h1:subM M1 M=true) (h2:subM M2 M=true) : Step o w o2 w2 M:=by
 have k1:∀ i ∈ M1,i ∈ M:=fun i hi=>by have:=(List.all_eq_true.1 h1) i hi; simpa using this
 have k2:∀ i ∈ M2,i ∈ M:=fun i hi=>by have:=(List.all_eq_true.1 h2) i hi; simpa using this
 refine ⟨t.os.trans s.os,t.tape.trans s.tape,t.output.trans s.output,Nat.le_trans s.size t.size,fun b hb=>(t.own b (Nat.lt_of_lt_of_le hb s.size)).trans (s.own b hb),fun b hb hn=>?_⟩
 exact (t.keep b (Nat.lt_of_lt_of_le hb s.size) (fun hm=>hn (by rw [s.own b hb] at hm; exact k2 _ hm))).trans (s.keep b hb (fun hm=>hn (k1 _ hm)))
theorem Step.t {o o1 o2:Tags} {w w1 w2:World} {M1 M2:List Nat} (s:Step o w o1 w1 M1) (t:Step o1 w1 o2 w2 M2) : Step o w o2 w2 (M1++M2):=
 Step.trans s t (List.all_eq_true.2 fun i hi=>by simpa using Or.inl hi) (List.all_eq_true.2 fun i hi=>by simpa using Or.inr hi)
theorem un_stepL {V L J:List Nat} {o':Tags} {w':World} {M L':List Nat} (s:Step (SX.vw V L o) w o' w' M) (hM:M.all (fun m=>Nat.ble 2 m)=true) (hL:M.map (fun m=>L.getD (m - 2) 0)=L') : Step o w (un o w o' L J) w' L':=by
 have h:=un_step (J:=J) s hM
 refine ⟨h.os,h.tape,h.output,h.size,h.own,fun b hb hn=>s.keep b hb (fun hm=>hn ?_)⟩
 rw [← hL]
 have h2:=Nat.le_of_ble_eq_true ((List.all_eq_true.1 hM) _ hm)
 refine List.mem_map.2 ⟨_,hm,?_⟩
 simp only [SX.vw,vwt] at h2 ⊢
 cases hc:V.contains (o b) with
 | true=>rw [hc] at h2; simp at h2
 | false =>
  rw [hc] at h2
  cases hk:L.idxOf? (o b) with
  | none=>rw [hk] at h2; simp at h2
  | some k =>
   simp only [cond_false]
   rw [show 2+k - 2=k from by omega]
   exact (idx_get hk).1
theorem Row.un {α:Type} {r:Rep α} {A:Option Addr} {xs:List α} {L J M:List Nat} {o':Tags} {w':World} (h:Row r (fun b=>o' b=0) (fun b=>o' b=0) w' A xs) (s:Step (SX.vw [0] L o) w o' w' M) :
  Row r (fun b=>SX.un o w o' L J b=0) (fun b=>SX.un o w o' L J b=0) w' A xs:=h.mono (fun b hb=>un_zero s hb) (fun b hb=>un_zero s hb)
theorem Row.ren {α:Type} {r:Rep α} {A:Option Addr} {xs:List α} {i j:Nat} (h:Row r (fun b=>o b=0) (fun b=>o b=0) w A xs) (hi:Nat.beq 0 i=false) : Row r (fun b=>SX.ren o i j b=0) (fun b=>SX.ren o i j b=0) w A xs:=
 h.mono (fun b hb=>ren_other hb hi) (fun b hb=>ren_other hb hi)
theorem run_load1 {T:TypeId} {a:Addr} {v:Value} {d:TypeDesc} (hT:P.underlying T=some d) (hd:plainT d=true) (hc:w.cell? a=some v) : (loadVar T a).run P w = .ok v w:=by
 simp [loadVar,run_isAgg_no hT hd,run_load,hc]
theorem run_loadN {T:TypeId} {a:Addr} {cs:List Value} {d:TypeDesc} (hT:P.underlying T=some d) (hd:plainT d=false) (hs:(P.info? T).map (·.size)=some cs.length) (hc:∀ j u,cs[j]?=some u→w.cell? (a.add j)=some u) : (loadVar T a).run P w = .ok (.agg cs.toArray) w:=by
 simp [loadVar,run_isAgg_yes hT hd,run_sizeOf' hs,run_loadCells_list w a cs hc]
theorem run_eqPtrN (d:Nat) {e T:TypeId} {b:Option Addr} (hT:P.underlying T=some (.pointer e)) (w:World) : (Op.equalIn (d+1) T (.pointer none) (.pointer b)).run P w = .ok b.isNone w:=by simp [Op.equalIn,run_underlying hT]
theorem run_eqPtrS (d:Nat) {e T:TypeId} {a:Addr} (hT:P.underlying T=some (.pointer e)) (w:World) : (Op.equalIn (d+1) T (.pointer (some a)) (.pointer none)).run P w = .ok false w:=by simp [Op.equalIn,run_underlying hT]
theorem bin_eql_ptrNN {e T:TypeId} (hT:P.underlying T=some (.pointer e)) : Bin P .eql T (.pointer none) (.pointer none) (.bool true):=fun x y w=>by
 have:=run_eqPtrN (P:=P) 9999 (b:=none) hT w
 simp only [binOp,eqGuard,Op.equal,Op.maxDepth]; simp [this]
theorem bin_neq_ptrNN {e T:TypeId} (hT:P.underlying T=some (.pointer e)) : Bin P .neq T (.pointer none) (.pointer none) (.bool false):=fun x y w=>by
 have:=run_eqPtrN (P:=P) 9999 (b:=none) hT w
 simp only [binOp,eqGuard,Op.equal,Op.maxDepth]; simp [this]
theorem bin_eql_ptrSN {e T:TypeId} {a:Addr} (hT:P.underlying T=some (.pointer e)) : Bin P .eql T (.pointer (some a)) (.pointer none) (.bool false):=fun x y w=>by
 have:=run_eqPtrS (P:=P) 9999 (a:=a) hT w
 simp only [binOp,eqGuard,Op.equal,Op.maxDepth]; simp [this]
theorem bin_neq_ptrSN {e T:TypeId} {a:Addr} (hT:P.underlying T=some (.pointer e)) : Bin P .neq T (.pointer (some a)) (.pointer none) (.bool true):=fun x y w=>by
 have:=run_eqPtrS (P:=P) 9999 (a:=a) hT w
 simp only [binOp,eqGuard,Op.equal,Op.maxDepth]; simp [this]
theorem bin_shl_u8n {a:UInt8} {k:IntKind} {n:Nat} {T:TypeId}:Bin P .shl T (enc8 a) (.int k (n:Int)) (enc8 (shl8 a n)):=by
 have:=bin_shl_u8 (P:=P) (a:=a) (k:=k) (i:=(n:Int)) (T:=T) (Int.natCast_nonneg n)
 simpa using this
theorem bin_shr_u8n {a:UInt8} {k:IntKind} {n:Nat} {T:TypeId}:Bin P .shr T (enc8 a) (.int k (n:Int)) (enc8 (shr8 a n)):=by
 have:=bin_shr_u8 (P:=P) (a:=a) (k:=k) (i:=(n:Int)) (T:=T) (Int.natCast_nonneg n)
 simpa using this
theorem bin_shl_u32n {a:UInt32} {k:IntKind} {n:Nat} {T:TypeId}:Bin P .shl T (enc32 a) (.int k (n:Int)) (enc32 (shl32 a n)):=by
 have:=bin_shl_u32 (P:=P) (a:=a) (k:=k) (i:=(n:Int)) (T:=T) (Int.natCast_nonneg n)
 simpa using this
theorem bin_shr_u32n {a:UInt32} {k:IntKind} {n:Nat} {T:TypeId}:Bin P .shr T (enc32 a) (.int k (n:Int)) (enc32 (shr32 a n)):=by
 have:=bin_shr_u32 (P:=P) (a:=a) (k:=k) (i:=(n:Int)) (T:=T) (Int.natCast_nonneg n)
 simpa using this
theorem bin_shl_u64n {a:UInt64} {k:IntKind} {n:Nat} {T:TypeId}:Bin P .shl T (enc64 a) (.int k (n:Int)) (enc64 (shl64 a n)):=by
 have:=bin_shl_u64 (P:=P) (a:=a) (k:=k) (i:=(n:Int)) (T:=T) (Int.natCast_nonneg n)
 simpa using this
theorem bin_shr_u64n {a:UInt64} {k:IntKind} {n:Nat} {T:TypeId}:Bin P .shr T (enc64 a) (.int k (n:Int)) (enc64 (shr64 a n)):=by
 have:=bin_shr_u64 (P:=P) (a:=a) (k:=k) (i:=(n:Int)) (T:=T) (Int.natCast_nonneg n)
 simpa using this
end w
end Go.Proofs.YtpmkkhkphddfeaaGreatDoor.SX
set_option linter.unusedVariables false
set_option linter.unusedSimpArgs false
namespace Go.Proofs.YtpmkkhkphddfeaaGreatDoor.SX
open Go Go.RowKit
section cuts
variable {α:Type} {xs ys:List α} {lo hi:Int} {c:Nat}
theorem cut_le (hc:xs.length≤c) (h:cut xs lo hi=some ys) : ys.length≤c - lo.toNat:=by have:=cut_some h; omega
theorem cut_cap (hc:xs.length≤c) (h:cut xs lo hi=some ys) : hi≤(c:Int):=by have:=cut_some h; omega
theorem cut_low (h:cut xs lo hi=some ys) : 0≤lo:=(cut_some h).1
theorem cut_mid (h:cut xs lo hi=some ys) : lo≤hi:=(cut_some h).2.1
theorem cut_high (h:cut xs lo hi=some ys) : hi≤xs.length:=(cut_some h).2.2.1
theorem cut_pos (h:cut xs lo hi=some ys) : 0≤hi:=Int.le_trans (cut_some h).1 (cut_some h).2.1
theorem cut_len (h:cut xs lo hi=some ys) : ys.length=hi.toNat - lo.toNat:=(cut_some h).2.2.2.2
theorem cut_take (h:cut xs 0 hi=some ys) : xs.take hi.toNat=ys:=by rw [(cut_some h).2.2.2.1]; rfl
theorem small8 (x:UInt8) : 0≤(x.toNat:Int)∧(x.toNat:Int)≤9223372036854775807:=by have:=x.toNat_lt; omega
theorem small32 (x:UInt32) : 0≤(x.toNat:Int)∧(x.toNat:Int)≤9223372036854775807:=by have:=x.toNat_lt; omega
end cuts
def fillL (place:Nat→Option (Nat×Nat)) : List Value→List (Nat×List Value)→Option (List Value)
 | cells,[]=>some cells
 | cells,(i,v) :: rest =>
  match place i with
  | none=>none
  | some (off,size)=>bif !(Nat.beq v.length size) || Nat.blt cells.length (off+v.length) then none else fillL place (splice cells off v) rest
theorem foldl_cells:∀ (vs:List Value) (off k:Nat) (cs:Array Value),off+k+vs.length≤cs.size →
  ((vs.zipIdx k).foldl (fun cs (p:Value×Nat)=>cs.setIfInBounds (off+p.2) p.1) cs)=(splice cs.toList (off+k) vs).toArray
 | [],off,k,cs,h=>by simp [splice_nil]
 | v :: vs,off,k,cs,h=>by
  simp only [List.zipIdx_cons,List.foldl_cons]
  simp only [List.length_cons] at h
  rw [foldl_cells vs off (k+1) (cs.setIfInBounds (off+k) v) (by simp; omega),Array.toList_setIfInBounds,← Nat.add_assoc,splice_cons (by simp; omega)]
theorem fill_fillL (place:Nat→Option (Nat×Nat)) : ∀ (q:List (Nat×Value)) (cs:List Value),Instr.fill place cs.toArray q=(fillL place cs (q.map fun p=>(p.1,p.2.cells.toList))).map List.toArray
 | [],cs=>by simp [Instr.fill,fillL]
 | (i,v) :: rest,cs=>by
  simp only [Instr.fill,fillL,List.map_cons]
  cases hp:place i with
  | none=>rfl
  | some os =>
   obtain ⟨off,size⟩:=os
   simp only
   have hfold:off+v.cells.size≤cs.length→v.cells.zipIdx.foldl (fun cs (x:Value×Nat)=>cs.setIfInBounds (off+x.2) x.1) cs.toArray=(splice cs off v.cells.toList).toArray:=by
    intro h2
    rw [← Array.foldl_toList,Array.toList_zipIdx,foldl_cells v.cells.toList off 0 cs.toArray (by simp; omega)]
    simp
   by_cases h1:v.cells.size=size
   ·by_cases h2:off+v.cells.size≤cs.length
    ·have e1:Nat.beq v.cells.toList.length size=true:=by simp [h1]
     have e2:Nat.blt cs.length (off+v.cells.toList.length)=false:=by rw [← Bool.not_eq_true,Nat.blt_eq]; simp; omega
     have e3:¬ (off+v.cells.size > cs.toArray.size):=by simp; omega
     simp only [e1,e2,h1,Bool.not_true,Bool.or_false,cond_false,ne_eq,not_true_eq_false,decide_false,Bool.false_or,decide_eq_true_eq,if_neg (h1 ▸ e3)]
     have:=hfold h2
     rw [this]
     exact fill_fillL place rest _
    ·have e2:Nat.blt cs.length (off+v.cells.toList.length)=true:=by rw [Nat.blt_eq]; simp; omega
     have e3:(off+v.cells.size > cs.toArray.size):=by simp; omega
     simp only [e2,Bool.or_true,cond_true,e3,decide_true,if_true]
     rfl
   ·have e1:Nat.beq v.cells.toList.length size=false:=by rw [← Bool.not_eq_true,Nat.beq_eq]; simpa using h1
    simp only [e1,Bool.not_false,Bool.true_or,cond_true,h1,ne_eq,not_false_eq_true,decide_true,if_true]
    rfl
theorem fillL_row (sz:Nat) : ∀ (q:List (Nat×List Value)) (done rest:List Value) (k:Nat),q.map (·.1)=List.range' k q.length→(∀ p ∈ q,p.2.length=sz)→done.length=k * sz→rest.length=q.length * sz →
  fillL (fun i=>some (i * sz,sz)) (done++rest) q=some (done++(q.map (·.2)).flatten)
 | [],done,rest,k,_,_,hd,hr=>by
  have:rest=[]:=List.eq_nil_of_length_eq_zero (by simpa using hr)
  simp [fillL,this]
 | (i,v) :: q,done,rest,k,hi,hs,hd,hr=>by
  simp only [List.map_cons,List.length_cons,List.range'_succ,List.cons.injEq] at hi
  obtain ⟨rfl,hi⟩:=hi
  have hv:v.length=sz:=hs _ List.mem_cons_self
  simp only [List.length_cons,Nat.add_mul,Nat.one_mul] at hr
  have hb:(!(Nat.beq v.length sz) || Nat.blt (done++rest).length (i * sz+v.length))=false:=by
   simp [hv,← Bool.not_eq_true,Nat.blt_eq,hd]; omega
  simp only [fillL,hb,cond_false]
  have hsp:splice (done++rest) (i * sz) v=(done++v)++rest.drop sz:=by
   rw [splice,hv,← hd,List.take_left,← List.drop_drop,List.drop_left,List.append_assoc]
  rw [hsp,fillL_row sz q (done++v) (rest.drop sz) (i+1) (by simpa using hi) (fun p hp=>hs p (List.mem_cons_of_mem _ hp)) (by rw [List.length_append,hd,hv,Nat.add_mul,Nat.one_mul]) (by rw [List.length_drop]; omega)]
  simp
section lit
variable {P:Program} {n:Nat} {md:Md} {K:Exit→Env→World→Prop} {Kn:Env→World→Prop} {ρ:Env} {w:World} {d:Nat} {t:TypeId} {p:String} {e:Array Edge} {g:Option (Nat×Bool)}
def ManyC {α:Type} (r:Rep α) (F:Nat→Prop) (w:World) : List α→List (List Value)→Prop
 | [],[]=>True
 | x :: xs,c :: cs=>r.R F w x c∧ManyC r F w xs cs
 | _,_=>False
theorem ManyC.many {α:Type} {r:Rep α} {F:Nat→Prop} {w:World}:∀ {xs:List α} {css:List (List Value)},ManyC r F w xs css→Many r F w xs css.flatten
 | [],[],_=>rfl
 | x :: xs,c :: cs,h=>⟨c,cs.flatten,rfl,h.1,ManyC.many h.2⟩
 | [],_ :: _,h=>h.elim
 | _ :: _,[],h=>h.elim
theorem OW.row {α:Type} {r:Rep α} {T E:TypeId} {len:Nat} {parts:Array (Nat×Operand)} {xs:List α} (vs:List (Nat×Value)) (css:List (List Value)) (i:Nat) {o0 o:Tags} {w0:World} {TT:List Nat} (HF:Fm o0 w0 o w TT) {z:Value} (hd:Nat.blt d n=true) (hT:P.underlying T=some (.slice E)) (hs:(P.info? E).map (·.size)=some r.sz)
  (hz:(P.info? E).map (·.zero)=some (some z)) (hlim:Nat.ble (len * r.sz) 16777216=true) (hvs:(parts.toList.map fun q=>(q.1,ev ρ q.2))=vs) (hix:vs.map (·.1)=List.range len) (hcs:vs.map (fun q=>q.2.cells.toList)=css)
  (hm0:ManyC r (fun b=>o b=0) w xs css) (hsz:css.all (fun c=>Nat.beq c.length r.sz)=true) (hpos:Nat.blt 0 r.sz=true) (hlen:xs.length=len) (hi:Nat.ble 10 i=true)
  (k:∀ o' w' v,Step o w o' w' []→Own r E i o' w' v xs→Kn (upd ρ d v) w') :
  OW P n md { dst:=some d,op:=.buildSlice T len parts,type:=t,pos:=p,after:=e,guard:=g } Kn K ρ w:=by
 have hm:=hm0.many
 have hl:vs.length=len:=by have:=congrArg List.length hix; simpa using this
 have hall:∀ q ∈ vs.map fun q=>(q.1,q.2.cells.toList),q.2.length=r.sz:=by
  intro q hq
  simp only [List.mem_map] at hq
  obtain ⟨q',hq',rfl⟩:=hq
  have:=List.all_eq_true.1 hsz q'.2.cells.toList (by rw [← hcs]; exact List.mem_map.2 ⟨q',hq',rfl⟩)
  simpa using this
 have hmap:(vs.map fun q=>(q.1,q.2.cells.toList)).map (·.2)=css:=by rw [List.map_map,← hcs]; rfl
 have key:∀ zs:List Value,zs.length=len * r.sz→Instr.fill (fun i=>some (i * r.sz,r.sz)) zs.toArray (parts.toList.map fun q=>(q.1,ev ρ q.2))=some css.flatten.toArray:=by
  intro zs hzl
  rw [hvs,fill_fillL]
  have h:=fillL_row r.sz (vs.map fun q=>(q.1,q.2.cells.toList)) [] zs 0 (by rw [List.map_map]; simp only [List.length_map]; rw [hl,show ((fun x:Nat×List Value=>x.1) ∘ fun q:Nat×Value=>(q.1,q.2.cells.toList))=(fun q:Nat×Value=>q.1) from rfl,hix,List.range_eq_range']) hall (by simp) (by simp [hl,hzl])
  rw [List.nil_append] at h
  rw [h,hmap]; simp
 refine OW.buildSlice css.flatten i o hd hT hs hz hlim (if len * r.sz=0 then #[] else z.cells) rfl ?_ fun o' w' b st hB=>?_
 ·have:=key ((Array.range (len * r.sz)).map ((if len * r.sz=0 then #[] else z.cells)[· % (if len * r.sz=0 then #[] else z.cells).size]!)).toList (by simp)
  rw [Array.toArray_toList] at this
  exact this
 ·refine k o' w' _ st (hB.own (c:=0) ?_ hlen ?_)
  ·exact (hm.move (w':=w') (fun b hb hlt=>st.keep b hlt (by simp))).mono (fun b hb=>by rw [st.own b hb.2]; exact hb.1)
  ·have:=Nat.le_of_ble_eq_true hlim
   simp only [maxLen]
   exact Nat.le_trans (Nat.le_mul_of_pos_right _ (by simpa [Nat.blt_eq] using hpos)) (by omega)
theorem run_places {fs:List Field} {pl:List (Nat×Nat)} (h:fs.map (fun f=>(f.offset,(P.info? f.type).map (·.size)))=pl.map (fun q=>(q.1,some q.2))) :
  (fs.mapM (m:=Sem) fun f=>do pure (f.offset,← sizeOf f.type)).run P w = .ok pl w:=by
 induction fs generalizing pl with
 | nil =>
  cases pl with
  | nil=>simp
  | cons a l=>simp at h
 | cons f fs ih =>
  cases pl with
  | nil=>simp at h
  | cons a l =>
   simp only [List.map_cons,List.cons.injEq,Prod.mk.injEq] at h
   obtain ⟨⟨h1,h2⟩,h3⟩:=h
   rw [List.mapM_cons]
   simp only [Sem.run_bind,run_sizeOf' h2,Result.andThen_ok,Sem.run_pure,ih h3,h1]
theorem ex_build {T:TypeId} {fs:Array Field} {parts:Array (Nat×Operand)} {z:Value} {cs:List Value} (pl:List (Nat×Nat)) (vs:List (Nat×Value)) (zs:List Value) (hT:P.underlying T=some (.struct fs)) (hz:(P.info? T).map (·.zero)=some (some z))
  (hzs:z.cells.toList=zs) (hp:fs.toList.map (fun f=>(f.offset,(P.info? f.type).map (·.size)))=pl.map (fun q=>(q.1,some q.2))) (hvs:(parts.toList.map fun q=>(q.1,ev ρ q.2))=vs)
  (hf:fillL (fun i=>pl[i]?) zs (vs.map fun q=>(q.1,q.2.cells.toList))=some cs) : Ex P ρ (.build T parts) t w (.agg cs.toArray) w:=fun _ _ _ _=>by
 have h1:(fs.mapM (m:=Sem) fun f=>do pure (f.offset,← sizeOf f.type)).run P w = .ok pl.toArray w:=by
  rw [← Array.toArray_toList (xs:=fs),List.mapM_toArray,map_eq_pure_bind,Sem.run_bind,run_places hp]
  rfl
 have h2:Instr.fill (fun i=>pl.toArray[i]?) z.cells (parts.map fun q=>(q.1,ev ρ q.2)).toList=some cs.toArray:=by
  rw [Array.toList_map,hvs,← Array.toArray_toList (xs:=z.cells),hzs,fill_fillL]
  simp [hf]
 show ((do pure (Next.value (← Instr.build T (parts.map fun q=>(q.1,ev ρ q.2)))) : Sem Next)).run P w=_
 unfold Instr.build
 simp only [Sem.run_bind,run_zeroValue' hz,Result.andThen_ok,run_underlying hT,h1,h2,Sem.run_pure]
end lit
section bins
variable {P:Program}
theorem bin_mul_u8 {a b:UInt8} {T:TypeId}:Bin P .mul T (enc8 a) (enc8 b) (enc8 (a * b)):=fun x y w=>by
 have h:IntKind.u8.wrap ((a.toNat:Int) * (b.toNat:Int))=((a * b).toNat:Int):=by
  rw [wrap_u8,UInt8.toNat_mul]; omega
 simp [eqGuard,binOp,Op.intArith,enc8,h]
theorem bin_quo_u8 {a b:UInt8} {T:TypeId} (hb:¬ b=0) : Bin P .quo T (enc8 a) (enc8 b) (enc8 (a / b)):=fun x y w=>by
 have hn:¬ (b.toNat=0):=fun h2=>hb (UInt8.toNat_inj.1 (by rw [h2]; rfl))
 have h:IntKind.u8.wrap ((a.toNat:Int) / (b.toNat:Int))=(a.toNat:Int) / (b.toNat:Int):=by
  have h2:=a.toNat_lt
  have h3:=Nat.div_le_self a.toNat b.toNat
  rw [wrap_u8,← Int.natCast_ediv]
  exact Int.emod_eq_of_lt (Int.natCast_nonneg _) (by omega)
 simp [eqGuard,binOp,Op.intDiv,enc8,hn,h]
theorem bin_rem_u8 {a b:UInt8} {T:TypeId} (hb:¬ b=0) : Bin P .rem T (enc8 a) (enc8 b) (enc8 (a % b)):=fun x y w=>by
 have hn:¬ (b.toNat=0):=fun h2=>hb (UInt8.toNat_inj.1 (by rw [h2]; rfl))
 have h:Int.tmod (a.toNat:Int) (b.toNat:Int)=(a.toNat:Int) % (b.toNat:Int):=Int.tmod_eq_emod_of_nonneg (Int.natCast_nonneg _)
 simp [eqGuard,binOp,Op.intDiv,enc8,hn,h]
theorem bin_mul_u32 {a b:UInt32} {T:TypeId}:Bin P .mul T (enc32 a) (enc32 b) (enc32 (a * b)):=fun x y w=>by
 have h:IntKind.u32.wrap ((a.toNat:Int) * (b.toNat:Int))=((a * b).toNat:Int):=by
  rw [wrap_u32,UInt32.toNat_mul]; omega
 simp [eqGuard,binOp,Op.intArith,enc32,h]
theorem bin_quo_u32 {a b:UInt32} {T:TypeId} (hb:¬ b=0) : Bin P .quo T (enc32 a) (enc32 b) (enc32 (a / b)):=fun x y w=>by
 have hn:¬ (b.toNat=0):=fun h2=>hb (UInt32.toNat_inj.1 (by rw [h2]; rfl))
 have h:IntKind.u32.wrap ((a.toNat:Int) / (b.toNat:Int))=(a.toNat:Int) / (b.toNat:Int):=by
  have h2:=a.toNat_lt
  have h3:=Nat.div_le_self a.toNat b.toNat
  rw [wrap_u32,← Int.natCast_ediv]
  exact Int.emod_eq_of_lt (Int.natCast_nonneg _) (by omega)
 simp [eqGuard,binOp,Op.intDiv,enc32,hn,h]
theorem bin_rem_u32 {a b:UInt32} {T:TypeId} (hb:¬ b=0) : Bin P .rem T (enc32 a) (enc32 b) (enc32 (a % b)):=fun x y w=>by
 have hn:¬ (b.toNat=0):=fun h2=>hb (UInt32.toNat_inj.1 (by rw [h2]; rfl))
 have h:Int.tmod (a.toNat:Int) (b.toNat:Int)=(a.toNat:Int) % (b.toNat:Int):=Int.tmod_eq_emod_of_nonneg (Int.natCast_nonneg _)
 simp [eqGuard,binOp,Op.intDiv,enc32,hn,h]
theorem bin_mul_u64 {a b:UInt64} {T:TypeId}:Bin P .mul T (enc64 a) (enc64 b) (enc64 (a * b)):=fun x y w=>by
 have h:IntKind.u64.wrap ((a.toNat:Int) * (b.toNat:Int))=((a * b).toNat:Int):=by
  rw [wrap_u64,UInt64.toNat_mul]; omega
 simp [eqGuard,binOp,Op.intArith,enc64,h]
theorem bin_quo_u64 {a b:UInt64} {T:TypeId} (hb:¬ b=0) : Bin P .quo T (enc64 a) (enc64 b) (enc64 (a / b)):=fun x y w=>by
 have hn:¬ (b.toNat=0):=fun h2=>hb (UInt64.toNat_inj.1 (by rw [h2]; rfl))
 have h:IntKind.u64.wrap ((a.toNat:Int) / (b.toNat:Int))=(a.toNat:Int) / (b.toNat:Int):=by
  have h2:=a.toNat_lt
  have h3:=Nat.div_le_self a.toNat b.toNat
  rw [wrap_u64,← Int.natCast_ediv]
  exact Int.emod_eq_of_lt (Int.natCast_nonneg _) (by omega)
 simp [eqGuard,binOp,Op.intDiv,enc64,hn,h]
theorem bin_rem_u64 {a b:UInt64} {T:TypeId} (hb:¬ b=0) : Bin P .rem T (enc64 a) (enc64 b) (enc64 (a % b)):=fun x y w=>by
 have hn:¬ (b.toNat=0):=fun h2=>hb (UInt64.toNat_inj.1 (by rw [h2]; rfl))
 have h:Int.tmod (a.toNat:Int) (b.toNat:Int)=(a.toNat:Int) % (b.toNat:Int):=Int.tmod_eq_emod_of_nonneg (Int.natCast_nonneg _)
 simp [eqGuard,binOp,Op.intDiv,enc64,hn,h]
def strLt (a b:List UInt8) : Bool:=Op.bytesLess a b
def strLe (a b:List UInt8) : Bool:=strLt a b || a == b
theorem bin_lss_str {a b:List UInt8} {T:TypeId}:Bin P .lss T (encS a) (encS b) (.bool (strLt a b)):=fun x y w=>by simp [eqGuard,binOp,encS,Op.stringOp,strLt]
theorem bin_leq_str {a b:List UInt8} {T:TypeId}:Bin P .leq T (encS a) (encS b) (.bool (strLe a b)):=fun x y w=>by simp [eqGuard,binOp,encS,Op.stringOp,strLt,strLe]
theorem bin_gtr_str {a b:List UInt8} {T:TypeId}:Bin P .gtr T (encS a) (encS b) (.bool (!(strLe a b))):=fun x y w=>by simp [eqGuard,binOp,encS,Op.stringOp,strLt,strLe]
theorem bin_geq_str {a b:List UInt8} {T:TypeId}:Bin P .geq T (encS a) (encS b) (.bool (!(strLt a b))):=fun x y w=>by simp [eqGuard,binOp,encS,Op.stringOp,strLt]
end bins
section ops
variable {P:Program} {n:Nat} {md:Md} {K:Exit→Env→World→Prop} {Kn:Env→World→Prop} {ρ:Env} {w:World} {o:Tags} {d:Nat} {t:TypeId} {p:String} {e:Array Edge} {g:Option (Nat×Bool)}
theorem ex_max {x y:Operand} {T U:TypeId} {k:IntKind} {a b:Int} (hx:ev ρ x = .int k a) (hy:ev ρ y = .int k b) : Ex P ρ (.call { callee:=.builtin .max,args:=#[x,y],argTypes:=#[T,U] }) t w (.int k (if b > a then b else a)) w:=fun _ _ _ _=>by
 simp [execOp,resolve,invoke,builtin,Builtin.max_,Builtin.max2,hx,hy]
theorem ex_min {x y:Operand} {T U:TypeId} {k:IntKind} {a b:Int} (hx:ev ρ x = .int k a) (hy:ev ρ y = .int k b) : Ex P ρ (.call { callee:=.builtin .min,args:=#[x,y],argTypes:=#[T,U] }) t w (.int k (if b < a then b else a)) w:=fun _ _ _ _=>by
 simp [execOp,resolve,invoke,builtin,Builtin.min_,Builtin.min2,hx,hy]
theorem many_scalar {α:Type} {enc:α→Value} {h1:∀ x,(enc x).oneCell'=true} {F:Nat→Prop}:∀ {xs:List α} {cs:List Value},Many (.scalar enc h1) F w xs cs→cs=xs.map enc
 | [],cs,h=>h
 | x :: xs,cs,h=>by
  obtain ⟨c0,c1,rfl,h0,h1'⟩:=h
  rw [show c0=[enc x] from h0,many_scalar h1']; rfl
theorem run_bytesToString' {xs:List UInt8} {ad:Addr} {c:Nat} (hl:(loadCells ad xs.length).run P w = .ok (xs.map enc8).toArray w) : (Conv.bytesToString (.slice (some ad) xs.length c)).run P w = .ok (encS xs) w:=by
 have e1:xs.map enc8=(xs.map fun b=>(b.toNat:Int)).map (Value.int .u8):=by rw [List.map_map]; rfl
 have:=run_bytesToString (P:=P) w ad xs.length c (xs.map fun b=>(b.toNat:Int)) (by rw [hl,e1])
 rw [this,foldl_push_bytes]
 simp only [encS,List.map_map]
 congr 2
 apply ByteArray.ext
 have e2:List.map ((fun n=>UInt8.ofNat n.toNat) ∘ fun (b:UInt8)=>(b.toNat:Int)) xs=xs:=by
  rw [show ((fun n:Int=>UInt8.ofNat n.toNat) ∘ fun (b:UInt8)=>(b.toNat:Int))=id from by funext b; simp]; simp
 rw [e2]
 exact Array.empty_append
theorem ex_bytes_str {src E dst:TypeId} {x:Operand} {A:Option Addr} {c:Nat} {xs:List UInt8} {G F:Nat→Prop} (hx:ev ρ x = .slice A xs.length c) (hs:P.underlying src=some (.slice E)) (he:P.underlying E=some (.int .u8)) (hd:P.underlying dst=some .string)
  (hr:Row .u8 G F w A xs) : Ex P ρ (.convert src dst x) t w (encS xs) w:=fun _ _ _ _=>by
 have hc:(convert src dst (.slice A xs.length c)).run P w = .ok (encS xs) w:=by
  rw [run_convert_bytes_string w src dst E _ xs.length c hs he hd]
  rcases hr.2 with rfl | ⟨ad,cells,rfl,hg,hb,hM,hcell⟩
  ·cases A with
   | none=>simp [Conv.bytesToString,encS]; rfl
   | some ad=>exact run_bytesToString' (xs:=[]) (by simp [loadCells,loadCellsFrom])
  ·have hcs:cells=xs.map enc8:=many_scalar hM
   subst hcs
   refine run_bytesToString' ?_
   have:=run_loadCells_list (P:=P) w ad (xs.map enc8) hcell
   simpa using this
 simp [execOp,hx,hc]
theorem strCells_enc (s:List UInt8) : Lib.strCells ⟨s.toArray⟩=s.map enc8:=by simp [Lib.strCells,enc8,Function.comp_def]
theorem run_append_str {T U E:TypeId} {i:TypeInfo} (ht:P.underlying T=some (.slice E)) (hu:P.underlying U=some .string) (hi:P.info? E=some i) (hz:i.zero=some (.int .u8 0)) (hsize:i.size=1) (hby:i.bytes=1)
  (v:Value) (n:Nat) (xs:List Value) (hown:w.ownsRow 0 E 1 v n xs) (s:ByteArray) (h63:n+s.size≤maxLen) (hbytes:n+s.size≤140737488355328) :
  ∃ v' w',(Builtin.append_ #[T,U] t #[v,.string s]).run P w = .ok v' w'∧w'.ownsRow 0 E 1 v' (n+s.size) (xs++Lib.strCells s)∧w.grownBy w' v.ownBlock∧(∀ k,v'.ownBlock=some k→v.ownBlock=some k∨w.heap.size≤k):=by
 rcases hown.2 with ⟨rfl,rfl⟩|⟨g,cap,cur,rfl,hbg,hg,hnc,hcm,hcs,htake⟩
 ·obtain ⟨v',w',hr,h2,h3,h4⟩:=Lib.run_append_own_string (P:=P) w w.heap.size T U t E i ht hu hi hz hsize hby (.slice none 0 0) 0 xs ⟨hown.1,.inl ⟨rfl,rfl⟩⟩ s h63 hbytes (Nat.le_refl _)
  refine ⟨v',w',hr,⟨h2.1,?_⟩,h3,fun k hk => .inr (h2.lt k hk).1⟩
  rcases h2.2 with h | ⟨g,cap,cur,a,b,rest⟩
  ·exact .inl h
  ·exact .inr ⟨g,cap,cur,a,Nat.zero_le _,rest⟩
 ·obtain ⟨v',w',hr,h2,h3,h4⟩:=Lib.run_append_own_string (P:=P) w 0 T U t E i ht hu hi hz hsize hby _ n xs hown s h63 hbytes (Nat.zero_le _)
  refine ⟨v',w',hr,h2,h3,fun k hk=>?_⟩
  by_cases hroom:n+s.size≤cap
  ·have hcz:cur.size=cap:=by simpa using hcs
   have hr2:=Lib.run_append_room_string (P:=P) w T U t E i ht hu hi hsize g n cap cur hg s hroom (by omega)
   rw [hr2] at hr
   injection hr with hv hw
   rw [← hv] at hk
   exact .inl hk
  ·have holds:∀ j u,xs[j]?=some u→w.cell? ((⟨g,0,none⟩ : Addr).add j)=some u:=hown.cells (g:=g) rfl
   have hxl:xs.length=n:=by simpa using hown.1
   have hr2:=Lib.run_append_grow_string (P:=P) w T U t E i (.int .u8 0) ht hu hi hz ⟨g,0,none⟩ n cap xs (by rw [hsize]; simpa using hxl) holds s (by omega) (by simp only [maxLen] at h63; omega) (by rw [hby]; exact growslice_fits (by omega) (by omega))
   rw [hr2] at hr
   injection hr with hv hw
   rw [← hv] at hk
   have:w.heap.size=k:=by simpa [Value.ownBlock] using hk
   exact .inr (by omega)
theorem OW.appendStr {T U E:TypeId} {x y:Operand} {i:Nat} {v:Value} {xs s:List UInt8} (hd:Nat.blt d n=true) (hT:P.underlying T=some (.slice E)) (hU:P.underlying U=some .string)
  (hE:(P.info? E).map (fun i=>(i.zero,i.size,i.bytes))=some (some (.int .u8 0),1,1)) (hi:i≠0)
  (hx:ev ρ x=v) (hy:ev ρ y=encS s) (hO:Own .u8 E i o w v xs) (hl:(xs.length+s.length) * 1≤140737488355328)
  (k:∀ o' w' v',Step o w o' w' [i]→Own .u8 E i o' w' v' (xs++s)→Kn (upd ρ d v') w') :
  OW P n md { dst:=some d,op:=.call { callee:=.builtin .append,args:=#[x,y],argTypes:=#[T,U] },type:=t,pos:=p,after:=e,guard:=g } Kn K ρ w:=by
 obtain ⟨i0,hi0,hzz⟩:=Option.map_eq_some_iff.1 hE
 simp only [Prod.mk.injEq] at hzz
 obtain ⟨hz0,hz1,hz2⟩:=hzz
 obtain ⟨cells,hown,ht,hM⟩:=hO
 have hl':xs.length+s.length≤140737488355328:=by omega
 obtain ⟨v',w',hr,h2,h3,h5⟩:=run_append_str (P:=P) (w:=w) (t:=t) hT hU hi0 hz0 hz1 hz2 v xs.length cells hown ⟨s.toArray⟩ (by rw [size_enc]; simp only [maxLen]; omega) (by rw [size_enc]; exact hl')
 have hstep:Step o w (fun b=>bif Nat.blt b w.heap.size then o b else i) w' [i]:=by
  refine ⟨h3.os,h3.tape,h3.output,h3.size,fun b hb=>?_,fun b hb hn=>h3.block b hb (fun he=>hn (by simp [ht b he.symm]))⟩
  have:Nat.blt b w.heap.size=true:=by rw [Nat.blt_eq]; omega
  simp [this]
 refine OW.val (v:=v') (w':=w') hd ?_ (k _ w' v' hstep ?_)
 ·simp only [execOp,resolve,invoke,builtin,Sem.run_bind,Sem.run_pure,Result.andThen_ok,List.map_toArray,List.map_cons,List.map_nil,hx,hy,encS,hr]
 ·rw [size_enc,strCells_enc] at h2
  refine ⟨cells++s.map enc8,by rw [List.length_append]; exact h2,fun b hb=>?_,?_⟩
  ·rcases h5 b hb with h5 | h5
   ·have hlt:=(hown.lt b h5).2
    have:Nat.blt b w.heap.size=true:=by rw [Nat.blt_eq]; omega
    simp only [this,cond_true]
    exact ht b h5
   ·have:Nat.blt b w.heap.size=false:=by rw [← Bool.not_eq_true,Nat.blt_eq]; omega
    simp only [this,cond_false]
  ·have hmv:∀ b,o b=0→b < w.heap.size→w'.heap[b]?=w.heap[b]?:=fun b hb hlt=>h3.block b hlt (fun he=>hi ((ht b he.symm).symm.trans hb))
   have hs:Many Rep.u8 (fun b=>o b=0) w s (s.map enc8):=by
    clear hl hl' h2 hr hy h3 h5 hstep hmv k
    induction s with
    | nil=>rfl
    | cons a l ih=>exact ⟨[enc8 a],l.map enc8,rfl,rfl,ih⟩
   refine ((hM.append hs).move (w':=w') hmv).mono (fun b hb=>?_)
   have:Nat.blt b w.heap.size=true:=by rw [Nat.blt_eq]; exact hb.2
   simp only [this,cond_true]
   exact hb.1
theorem Many.set {α:Type} {r:Rep α} {F:Nat→Prop} {y:α} {vs:List Value} (hy:r.R F w y vs) : ∀ {xs:List α} {cs:List Value} (k:Nat),k < xs.length→Many r F w xs cs→Many r F w (xs.set k y) (splice cs (k * r.sz) vs)
 | x :: xs,cs,0,hk,h=>by
  obtain ⟨c0,c1,rfl,h0,h1⟩:=h
  have e1:=r.len h0
  have e2:=r.len hy
  refine ⟨vs,c1,?_,hy,h1⟩
  simp [splice,e2,← e1]
 | x :: xs,cs,k+1,hk,h=>by
  obtain ⟨c0,c1,rfl,h0,h1⟩:=h
  have e1:=r.len h0
  refine ⟨c0,splice c1 (k * r.sz) vs,?_,h0,Many.set hy k (by simpa using hk) h1⟩
  simp only [splice,Nat.add_mul,Nat.one_mul]
  rw [show k * r.sz+r.sz=c0.length+k * r.sz from by omega,List.take_length_add_append,show c0.length+k * r.sz+vs.length=c0.length+(k * r.sz+vs.length) from by omega,← List.drop_drop,List.drop_left]
  simp
theorem Own.at {α:Type} {r:Rep α} {E i:Nat} {v:Value} {xs:List α} (h:Own r E i o w v xs) (hn:0 < xs.length) : ∃ g c,v = .slice (some ⟨g,0,none⟩) xs.length c:=by
 obtain ⟨cells,hown,_⟩:=h
 rcases hown.2 with ⟨rfl,h0⟩|⟨g,cap,cur,rfl,_⟩
 ·omega
 ·exact ⟨g,cap,rfl⟩
theorem take_splice {cur cells vs:List Value} {k n:Nat} (hn:n=cells.length) (htk:cur.take n=cells) (hfit:k+vs.length≤cells.length) : (splice cur k vs).take n=splice cells k vs:=by
 obtain ⟨tail,rfl⟩ : ∃ tail,cur=cells++tail:=⟨cur.drop n,by rw [← htk,List.take_append_drop]⟩
 subst hn
 have h1:splice (cells++tail) k vs=splice cells k vs++tail:=by
  unfold splice
  rw [List.take_append_of_le_length (by omega),List.drop_append_of_le_length hfit,List.append_assoc,List.append_assoc,List.append_assoc]
 rw [h1,← splice_len hfit,List.take_left]
theorem Own.take {α:Type} {r:Rep α} {E i:Nat} {v:Value} {xs:List α} {h:Int} (hO:Own r E i o w v xs) (h0:0≤h) (h1:h≤xs.length) : ∃ A c,v = .slice A xs.length c∧xs.length≤c∧Own r E i o w (.slice A h.toNat c) (xs.take h.toNat):=by
 obtain ⟨cells,hown,ht,hM⟩:=hO
 rcases hown.2 with ⟨rfl,h00⟩|⟨gb,cap,cur,rfl,hbg,hg,hnc,hcm,hcs,htake⟩
 ·refine ⟨none,0,by rw [h00],by omega,?_⟩
  obtain rfl:xs=[]:=List.eq_nil_of_length_eq_zero h00
  have:h.toNat=0:=by simp at h1; omega
  rw [this]; exact Own.nil
 ·refine ⟨_,cap,rfl,hnc,cells.take (h.toNat * r.sz),⟨?_,.inr ⟨gb,cap,cur,?_,Nat.zero_le _,hg,?_,hcm,hcs,?_⟩⟩,ht,hM.take _⟩
  ·have h2:h.toNat * r.sz≤xs.length * r.sz:=Nat.mul_le_mul_right _ (by omega)
   rw [List.length_take,hM.len,List.length_take,Nat.min_eq_left h2,Nat.min_eq_left (show h.toNat≤xs.length by omega)]
  ·rw [List.length_take,Nat.min_eq_left (by omega)]
  ·rw [List.length_take,Nat.min_eq_left (by omega)]; omega
  ·rw [← htake,List.take_take,List.length_take,Nat.min_eq_left (show h.toNat≤xs.length by omega),Nat.min_eq_left (Nat.mul_le_mul_right _ (by omega))]
end ops
end Go.Proofs.YtpmkkhkphddfeaaGreatDoor.SX
set_option linter.unusedVariables false
set_option linter.unusedSimpArgs false
namespace Go.Proofs.YtpmkkhkphddfeaaGreatDoor.SX
open Go Go.RowKit
section drawn
variable {P:Program} {n:Nat} {md:Md} {ops:Array Oper} {rest:List Oper} {K:Exit→Env→World→Prop} {ρ:Env} {w:World}
theorem yielded_undef {a:Act} {g gd:Nat} {go:Oper} (ha:Fr n md ρ a) (hg:ops[g]?=some go) (hgd:go.dst=some gd) (hv:ρ gd=undef) : yielded ops a.tmps g=none:=by
 have h1:=ha.get gd
 rw [hv] at h1
 simp only [yielded,hg]
 rcases Nat.lt_or_ge gd a.tmps.size with h | h
 ·simp only [Array.getD_eq_getD_getElem?,Array.getElem?_eq_getElem h,Option.getD_some] at h1
  simp [hgd,Array.getElem?_eq_getElem h,h1,undef]
 ·simp [hgd,Array.getElem?_eq_none h]
theorem WL.guardUn {d:Nat} {op:Op} {t:TypeId} {p:String} {e:Array Edge} {g:Nat} {b:Bool} {gd:Nat} {go:Oper} (hd:Nat.blt d n=true)
  (hg:ops[g]?=some go) (hgd:go.dst=some gd) (hv:ρ gd=undef)
  (k:WL P n md ops rest K (upd ρ d undef) w) : WL P n md ops ({ dst:=some d,op:=op,type:=t,pos:=p,after:=e,guard:=some (g,b) } :: rest) K ρ w:=by
 refine ⟨fun a ha=>?_⟩
 unfold wpList
 rw [if_neg (by simp [Region.wanted,yielded_undef ha hg hgd hv])]
 exact k.out _ (ha.put hd undef)
theorem WL.guardNo0 {op:Op} {t:TypeId} {p:String} {e:Array Edge} {g:Nat} {b:Bool} {gd:Nat} {go:Oper}
  (hg:ops[g]?=some go) (hgd:go.dst=some gd) (hv:ρ gd = .bool (!b))
  (k:WL P n md ops rest K ρ w) : WL P n md ops ({ dst:=none,op:=op,type:=t,pos:=p,after:=e,guard:=some (g,b) } :: rest) K ρ w:=by
 refine ⟨fun a ha=>?_⟩
 unfold wpList
 rw [if_neg (by simp [Region.wanted,yielded_of ha hg hgd hv])]
 exact k.out _ ha
theorem WL.guardUn0 {op:Op} {t:TypeId} {p:String} {e:Array Edge} {g:Nat} {b:Bool} {gd:Nat} {go:Oper}
  (hg:ops[g]?=some go) (hgd:go.dst=some gd) (hv:ρ gd=undef)
  (k:WL P n md ops rest K ρ w) : WL P n md ops ({ dst:=none,op:=op,type:=t,pos:=p,after:=e,guard:=some (g,b) } :: rest) K ρ w:=by
 refine ⟨fun a ha=>?_⟩
 unfold wpList
 rw [if_neg (by simp [Region.wanted,yielded_undef ha hg hgd hv])]
 exact k.out _ ha
theorem step_drawn (o:Tags) (w:World) (M:List Nat) : Step o w o { w with drawn:=w.drawn+1 } M:=⟨rfl,rfl,rfl,Nat.le_refl _,fun _ _=>rfl,fun _ _ _=>rfl⟩
theorem Fm.here {o0 o:Tags} {w0 w:World} {T:List Nat} (HF:Fm o0 w0 o w T) (M:List Nat) : Step o w o w M:=Step.refl o w M
abbrev SR (oD:Tags) (wD:World) (M:List Nat) : World→Prop:=fun w' => ∃ o',Step oD wD o' w' M
theorem WC.regionD' {id:Nat} {dd:Bool} {o0 o:Tags} {w0:World} {T:List Nat} (HF:Fm o0 w0 o w T) (M:List Nat) (L m:Nat) (hm:P.follows .mixedOrders=true) (hn:ops.size=m)
  (h:∀ w',Step o w o w' []→WA P n ⟨none,dd,false⟩ ops L (SR o w' M) m (Array.replicate m false) K ρ w') : WC P n ⟨none,dd,false⟩ (.region id ops true) K ρ w:=by
 subst hn
 exact WC.regionD hm (h _ (step_drawn o w []))
variable {L:Nat} {S:World→Prop} {m:Nat} {listed:Array Bool}
end drawn
section held
variable {oD o o':Tags} {wD w w':World} {M:List Nat}
theorem Row.at {α:Type} {r:Rep α} {G F:Nat→Prop} {A:Option Addr} {xs:List α} {i:Int} {x:α} {ad:Addr} (h:Row r G F w A xs) (hA:A=some ad) (hv:SX.ix xs i=some x) (k:Nat) : G (ad.add k).block∧(ad.add k).block < w.heap.size:=by
 rw [add_block]
 subst hA
 rcases h.2 with rfl | ⟨ad',cells,e,hG,hb,_⟩
 ·obtain ⟨h0,h1,hx⟩:=ix_some hv
  simp at hx
 ·injection e with e
  subst e
  exact ⟨hG,hb⟩
theorem subA_zero (A:Option Addr) (c sz:Nat) : subA A c 0 sz=A:=by
 unfold subA
 split
 ·rfl
 ·cases A <;> simp [Addr.add]
theorem ex_take {P:Program} {ρ:Env} {t T E:TypeId} {x:Operand} {A:Option Addr} {m c sz:Nat} {hi:Option Operand} {h:Int} {v:Value} (hx:ev ρ x = .slice A m c) (hT:P.underlying T=some (.slice E)) (hs:(P.info? E).map (·.size)=some sz)
  (hh:highOf ρ m hi h) (h0:0≤h) (h2:h≤c) (hv:v = .slice A h.toNat c) : Ex P ρ (.slice T x none hi none) t w v w:=by
 have:=ex_slice (P:=P) (w:=w) (t:=t) (lo:=none) (l:=0) hx hT hs rfl hh (Int.le_refl 0) h0 h2
 rw [show ((0:Int).toNat)=0 from rfl,subA_zero,Nat.sub_zero,Nat.sub_zero,← hv] at this
 exact this
end held
section make2
variable {P:Program} {n:Nat} {md:Md} {K:Exit→Env→World→Prop} {Kn:Env→World→Prop} {ρ:Env} {w:World} {o:Tags} {d:Nat} {t:TypeId} {p:String} {e:Array Edge} {g:Option (Nat×Bool)}
theorem OW.box' {T:TypeId} {x:Operand} (cs:List Value) (i:Nat) {o0:Tags} {w0:World} {TT:List Nat} (HF:Fm o0 w0 o w TT) (hd:Nat.blt d n=true) (hx:(ev ρ x).cells=cs.toArray)
  (k:∀ o' w' b,Step o w o' w' []→Bk o' w' i b cs T→Kn (upd ρ d (.pointer (some ⟨b,0,none⟩))) w') :
  OW P n md { dst:=some d,op:=.box T x,type:=t,pos:=p,after:=e,guard:=g } Kn K ρ w:=OW.box cs i o hd hx k
theorem OW.alloc' {T:TypeId} (cs:List Value) (i:Nat) {o0:Tags} {w0:World} {TT:List Nat} (HF:Fm o0 w0 o w TT) {z:Value} (hd:Nat.blt d n=true) (hz:(P.info? T).map (·.zero)=some (some z)) (hx:z.cells=cs.toArray)
  (k:∀ o' w' b,Step o w o' w' []→Bk o' w' i b cs T→Kn (upd ρ d (.pointer (some ⟨b,0,none⟩))) w') :
  OW P n md { dst:=some d,op:=.alloc T,type:=t,pos:=p,after:=e,guard:=g } Kn K ρ w:=OW.alloc cs i o hd hz hx k
end make2
structure Glob where
 L:List Nat
 T:World→Prop
 move:∀ {w w':World},(∀ b ∈ L,w'.heap[b]?=w.heap[b]?)→T w→T w'
def Gl (G:Glob) (o:Tags) (w:World) : Prop:=(∀ b ∈ G.L,o b=0∧b < w.heap.size)∧G.T w
section gl
variable {G:Glob} {o o':Tags} {w w':World} {M L V J:List Nat}
theorem Gl.step (h:Gl G o w) (s:Step o w o' w' M) (hM:M.contains 0=false) : Gl G o' w':=by
 have hk:∀ b ∈ G.L,w'.heap[b]?=w.heap[b]?:=fun b hb=>s.keep b (h.1 b hb).2 (by rw [(h.1 b hb).1]; intro hm; rw [← List.contains_iff_mem,hM] at hm; cases hm)
 exact ⟨fun b hb=>⟨(s.own b (h.1 b hb).2).trans (h.1 b hb).1,Nat.lt_of_lt_of_le (h.1 b hb).2 s.size⟩,G.move hk h.2⟩
theorem Gl.vw (h:Gl G o w) (hV:V.contains 0=true) : Gl G (SX.vw V L o) w:=⟨fun b hb=>⟨by simp only [SX.vw,(h.1 b hb).1,vwt_zero hV],(h.1 b hb).2⟩,h.2⟩
theorem Gl.ren {i j:Nat} (h:Gl G o w) (hi:Nat.beq 0 i=false) : Gl G (SX.ren o i j) w:=⟨fun b hb=>⟨ren_other (h.1 b hb).1 hi,(h.1 b hb).2⟩,h.2⟩
theorem Gl.pub (h:Gl G o w) (i:Nat) : Gl G (SX.pub o i) w:=⟨fun b hb=>⟨pub_zero o i b (h.1 b hb).1,(h.1 b hb).2⟩,h.2⟩
end gl
theorem Step.pubS {oD o:Tags} {wD w:World} {M:List Nat} (s:Step oD wD o w M) (i:Nat) (h:∀ b,b < wD.heap.size→Nat.beq (oD b) i=false) : Step oD wD (pub o i) w M:=
 ⟨s.os,s.tape,s.output,s.size,fun b hb=>by rw [← s.own b hb]; exact pub_other rfl (by rw [s.own b hb]; exact h b hb),s.keep⟩
end Go.Proofs.YtpmkkhkphddfeaaGreatDoor.SX
set_option linter.unusedVariables false
set_option linter.unusedSimpArgs false
namespace Go.Proofs.YtpmkkhkphddfeaaGreatDoor.SX
open Go Go.RowKit
def Bd (T E i:Nat) (o:Tags) (w:World) (b:Nat) (xs:List UInt8) : Prop:=
 ∃ p v,Bk o w i b [p,v] T∧(p = .pointer none∨p = .pointer (some ⟨b,0,none⟩))∧Own Rep.u8 E i o w v xs
section bd
variable {T E i j b:Nat} {o o':Tags} {w w':World} {xs:List UInt8} {M V L J:List Nat}
theorem Bd.step (h:Bd T E i o w b xs) (s:Step o w o' w' M) (hi:M.contains i=false) (h0:M.contains 0=false) : Bd T E i o' w' b xs:=by
 obtain ⟨p,v,hB,hp,hO⟩:=h
 exact ⟨p,v,hB.step s hi,hp,hO.step s hi h0⟩
theorem Bd.pub (h:Bd T E i o w b xs) (j:Nat) (hj:Nat.beq i j=false) : Bd T E i (SX.pub o j) w b xs:=by
 obtain ⟨p,v,hB,hp,hO⟩:=h
 exact ⟨p,v,hB.pub j hj,hp,hO.pub j hj⟩
theorem Bd.ren {k l:Nat} (h:Bd T E i o w b xs) (hi:Nat.beq i k=false) (h0:Nat.beq 0 k=false) : Bd T E i (SX.ren o k l) w b xs:=by
 obtain ⟨p,v,hB,hp,hO⟩:=h
 exact ⟨p,v,hB.ren hi,hp,hO.ren hi h0⟩
theorem Bd.vw {i':Nat} (h:Bd T E i o w b xs) (hV:V.contains 0=true) (hi:vwt V L i=i') : Bd T E i' (SX.vw V L o) w b xs:=by
 obtain ⟨p,v,hB,hp,hO⟩:=h
 exact ⟨p,v,hB.vw hi,hp,hO.vw hV hi⟩
end bd
structure Kept (b:Nat) (w w':World) : Prop where
 os:w'.os=w.os
 tape:w'.tape=w.tape
 output:w'.output=w.output
 size:w.heap.size≤w'.heap.size
 keep:∀ c,c < w.heap.size→c≠b→w'.heap[c]?=w.heap[c]?
section kept
variable {E i b:Nat} {o o':Tags} {w w':World}
def tagOne (b:Nat) : Tags:=fun c=>bif Nat.beq c b then 41 else 1
theorem tagOne_same (b:Nat) : tagOne b b=41:=by simp [tagOne]
theorem Step.kept (s:Step (tagOne b) w (tagOne b) w' [41]) : Kept b w w':=⟨s.os,s.tape,s.output,s.size,fun c hc hn=>s.keep c hc (by
 have:Nat.beq c b=false:=by rw [← Bool.not_eq_true,Nat.beq_eq]; exact hn
 simp [tagOne,this])⟩
theorem Kept.step (h:Kept b w w') (ht:o b=i) : Step o w o w' [i]:=⟨h.os,h.tape,h.output,h.size,fun _ _=>rfl,fun c hc hn=>h.keep c hc (by rintro rfl; exact hn (by simp [ht]))⟩
theorem Own.kept {α:Type} {r:Rep α} {v:Value} {xs:List α} (h:Own r E i o w v xs) (k:Kept b w w') (hb:v.ownBlock≠some b) (h0:o b≠0) : Own r E i o w' v xs:=by
 obtain ⟨cells,hown,ht,hm⟩:=h
 refine ⟨cells,⟨hown.1,?_⟩,ht,?_⟩
 ·rcases hown.2 with hn | ⟨g,cap,cur,rfl,hb',hg,rest⟩
  ·exact .inl hn
  ·refine .inr ⟨g,cap,cur,rfl,hb',?_,rest⟩
   rw [k.keep g (Array.getElem?_eq_some_iff.1 hg).1 (by rintro rfl; exact hb rfl)]
   exact hg
 ·exact (hm.move (w':=w') (fun c hc hlt=>k.keep c hlt (by rintro rfl; exact h0 hc))).mono (fun c hc=>hc.1)
theorem Own.notin {α:Type} {r:Rep α} {v:Value} {xs:List α} {cs:Array Value} {T:TypeId} (h:Own r E i o w v xs) (hb:w.heap[b]?=some (.cells cs T (0,0))) (hT:Nat.beq T E=false) : v.ownBlock≠some b:=by
 obtain ⟨cells,hown,ht,hm⟩:=h
 intro hk
 rcases hown.2 with ⟨rfl,_⟩|⟨g,cap,cur,rfl,_,hg,_⟩
 ·cases hk
 ·obtain rfl:g=b:=by simpa [Value.ownBlock] using hk
  rw [hb] at hg
  injection hg with hg
  injection hg with _ hE
  subst hE
  simp at hT
def apart1 (o:Tags) (b:Nat) : Tags:=fun c=>bif Nat.beq c b then 41 else o c
theorem apart1_same (o:Tags) (b:Nat) : apart1 o b b=41:=by simp [apart1]
theorem apart1_other {c:Nat} (h:c≠b) : apart1 o b c=o c:=by
 have:Nat.beq c b=false:=by rw [← Bool.not_eq_true,Nat.beq_eq]; exact h
 simp [apart1,this]
theorem Own.apart {α:Type} {r:Rep α} {v:Value} {xs:List α} (h:Own r E i o w v xs) (hb:v.ownBlock≠some b) (h0:o b≠0) : Own r E i (apart1 o b) w v xs:=by
 obtain ⟨cells,hown,ht,hm⟩:=h
 exact ⟨cells,hown,fun c hc=>by rw [apart1_other (by rintro rfl; exact hb hc)]; exact ht c hc,hm.mono (fun c hc=>by rw [apart1_other (by rintro rfl; exact h0 hc)]; exact hc)⟩
theorem apart_step {M:List Nat} {o2:Tags} {w0 w2:World} (hO:∀ c,c < w0.heap.size→o c < 40) (hb:o b=2) (s:Step (apart1 o b) w0 o2 w2 M) (hM:M.all (fun m=>Nat.beq m 41 || Nat.beq m 2)=true) : Step o w0 (SX.ren o2 41 2) w2 [2]:=by
 refine ⟨s.os,s.tape,s.output,s.size,fun c hc=>?_,fun c hc hn=>s.keep c hc (fun hm=>?_)⟩
 ·have h1:=s.own c hc
  by_cases hcb:c=b
  ·subst hcb
   rw [apart1_same] at h1
   rw [ren_same h1,hb]
  ·rw [apart1_other hcb] at h1
   rw [ren_other h1 (by have:=hO c hc; rw [← Bool.not_eq_true,Nat.beq_eq]; omega)]
 ·by_cases hcb:c=b
  ·subst hcb
   exact hn (by simp [hb])
  ·rw [apart1_other hcb] at hm
   have h2:=(List.all_eq_true.1 hM) _ hm
   have h3:=hO c hc
   simp only [Bool.or_eq_true,Nat.beq_eq] at h2
   rcases h2 with h2 | h2
   ·omega
   ·exact hn (by simp [h2])
theorem Fm.here2 (o:Tags) (w:World) : Fm (fun _=>0) { w with heap:=#[] } o w []:=⟨rfl,rfl,rfl,Nat.zero_le _,fun b hb=>absurd hb (Nat.not_lt_zero b),fun b hb=>absurd hb (Nat.not_lt_zero b),fun b hb=>absurd hb (Nat.not_lt_zero b)⟩
end kept
section ops
variable {P:Program} {n:Nat} {md:Md} {K:Exit→Env→World→Prop} {Kn:Env→World→Prop} {ρ:Env} {w:World} {o:Tags} {d:Nat} {t:TypeId} {p:String} {e:Array Edge} {g:Option (Nat×Bool)}
theorem ex_to_unsafe {src dst T E t:TypeId} {x:Operand} {i b:Nat} {cs:List Value} (hx:ev ρ x = .pointer (some ⟨b,0,none⟩)) (hs:P.underlying src=some (.pointer T)) (hd:P.underlying dst=some .unsafePointer)
  (m:Nat) (hm:cs.length=m) (hT:(P.info? T).map (·.size)=some m) (h0:Nat.blt 0 m=true) (hB:Bk o w i b cs E) : Ex P ρ (.convert src dst x) t w (.pointer (some ⟨b,0,none⟩)) w:=fun _ _ _ _=>by
 subst hm
 obtain ⟨j,hj,hjs⟩:=Option.map_eq_some_iff.1 hT
 have h1:0 < cs.length:=by simpa [Nat.blt_eq] using h0
 have:=Lib.run_to_unsafe (P:=P) w ⟨b,0,none⟩ hs hd hj (by rw [hjs]; omega) (e:=E) (cells:=cs.length) (by simp [World.shape?,hB.heap]) h1
 simp [execOp,hx,this]
theorem ex_from_unsafe {src dst T E t:TypeId} {x:Operand} {i b:Nat} {cs:List Value} (hx:ev ρ x = .pointer (some ⟨b,0,none⟩)) (hs:P.underlying src=some .unsafePointer) (hd:P.underlying dst=some (.pointer T))
  (hT:(P.info? T).isSome=true) (hB:Bk o w i b cs E) (hl:liesAt P P.depth E (cs.length / P.cellsOf E) 0 T 1=true) : Ex P ρ (.convert src dst x) t w (.pointer (some ⟨b,0,none⟩)) w:=fun _ _ _ _=>by
 obtain ⟨j,hj⟩:=Option.isSome_iff_exists.1 hT
 have:=Lib.run_from_unsafe (P:=P) w ⟨b,0,none⟩ hs hd hj (e:=E) (cells:=cs.length) (by simp [World.shape?,hB.heap]) hl
 simp [execOp,hx,this]
theorem ex_extern1 {f:FuncId} {fn:Func} {ee:Array Value→Sem Value} {x:Operand} {ts:Array TypeId} {t:TypeId} {v v':Value} (hx:ev ρ x=v) (hf:P.funcs[f]?=some fn) (hn:(fn.name == "runtime.NumGoroutine")=false) (hb:fn.body.isNone=true) (h1:Extern.findNext fn=none) (h2:Extern.find fn=some ee)
  (hr:(ee #[v]).run P w = .ok v' w) : Ex P ρ (.call { callee:=.value (.func f),args:=#[x],argTypes:=ts }) t w v' w:=fun _ _ _ _=>by
 have:=run_callFunc_extern hf hn hb h1 h2 #[v] w
 have hm:(#[x] : Array Operand).map (ev ρ) = #[v]:=by simp [hx]
 show ((do let d ← resolve (ev ρ) _ _; invoke d.target d.args) : Sem Next).run P w=_
 simp only [resolve,hm,ev,Deferred.ofValue,Sem.run_bind,Sem.run_pure,Result.andThen_ok,invoke]
 rw [show (#[] ++ #[v] ++ #[] : Array Value) = #[v] from rfl,this,hr]
 rfl
theorem bin_neq_ptrSame {T E:TypeId} {a:Addr} (hT:P.underlying T=some (.pointer E)) (hE:(P.info? E).isSome=true) : Bin P .neq T (.pointer (some a)) (.pointer (some a)) (.bool false):=fun x y w=>by
 obtain ⟨j,hj⟩:=Option.isSome_iff_exists.1 hE
 have:=Lib.run_neq_ptr_same (P:=P) w a hT hj
 simp [eqGuard,this]
theorem run_usd {dst:Option Tmp} {x:Operand} {ts:Array TypeId} {t:TypeId} {pp:String} {ee:Array Edge} {gg:Option (Nat×Bool)} {v v':Value} {w':World} (hx:ev ρ x=v) (hr:(Builtin.unsafeSliceData_ ts t #[v]).run P w = .ok v' w') :
  (execOp (ev ρ) { dst:=dst,op:=.call { callee:=.builtin .unsafeSliceData,args:=#[x],argTypes:=ts },type:=t,pos:=pp,after:=ee,guard:=gg }).run P w = .ok (.value v') w':=by
 subst hx
 simp only [execOp,resolve,invoke,builtin,Sem.run_bind,Sem.run_pure,Result.andThen_ok,List.map_toArray,List.map_cons,List.map_nil,hr]
theorem run_us {dst:Option Tmp} {x y:Operand} {ts:Array TypeId} {t:TypeId} {pp:String} {ee:Array Edge} {gg:Option (Nat×Bool)} {v u v':Value} {w':World} (hx:ev ρ x=v) (hy:ev ρ y=u) (hr:(Builtin.unsafeString_ ts t #[v,u]).run P w = .ok v' w') :
  (execOp (ev ρ) { dst:=dst,op:=.call { callee:=.builtin .unsafeString,args:=#[x,y],argTypes:=ts },type:=t,pos:=pp,after:=ee,guard:=gg }).run P w = .ok (.value v') w':=by
 subst hx hy
 simp only [execOp,resolve,invoke,builtin,Sem.run_bind,Sem.run_pure,Result.andThen_ok,List.map_toArray,List.map_cons,List.map_nil,hr]
theorem step_freeze {i:Nat} {a:Addr} {m:Nat} (ht:o a.block=i) : Step o w o (w.freeze a m) [i]:=by
 unfold World.freeze
 split
 ·exact Step.refl o w [i]
 ·refine ⟨rfl,rfl,rfl,by simp,fun _ _=>rfl,fun c hc hn=>?_⟩
  have:a.block≠c:=by rintro rfl; exact hn (by simp [ht])
  simp only [Array.getElem?_modify,if_neg this]
end ops
def first8 (c:UInt8) : UInt8:=UInt8.ofNat (Lib.firstT c.toNat)
def accLo8 (i:UInt8) : UInt8:=UInt8.ofNat (Lib.accLo i.toNat)
def accHi8 (i:UInt8) : UInt8:=UInt8.ofNat (Lib.accHi i.toNat)
theorem Own.oneCell {α:Type} {r:Rep α} {E i:Nat} {o:Tags} {w:World} {v:Value} {xs:List α} (h:Own r E i o w v xs) : v.oneCell'=true:=by
 obtain ⟨A,c,e⟩:=h.slice
 rw [e]; rfl
theorem Row.pubOf {α:Type} {r:Rep α} {i:Nat} {o:Tags} {w:World} {A:Option Addr} {xs:List α} (h:Row r (fun b=>o b=i) (fun b=>o b=0) w A xs) : Row r (fun b=>SX.pub o i b=0) (fun b=>SX.pub o i b=0) w A xs:=
 h.mono (fun b hb=>pub_same o i b hb) (fun b hb=>pub_zero o i b hb)
def nilc {α β:Type} [DecidableEq β] (xs:List α) (b1 b2:Option β) : Option β:=match b2 with
 | some r=>bif xs.isEmpty then (if b1=some r then some r else none) else some r
 | none=>none
theorem nilE {α β:Type} [DecidableEq β] {xs:List α} {b1 b2:Option β} {y:β} {r:Rep α} {G F:Nat→Prop} {w:World} {A:Option Addr} (H:nilc xs b1 b2=some y) (hr:Row r G F w A xs) : (A=none∧b1=some y)∨(∃ ad,A=some ad∧b2=some y):=by
 unfold nilc at H
 cases hb:b2 with
 | none=>rw [hb] at H; cases H
 | some q =>
  rw [hb] at H
  cases A with
  | none =>
   have hx:xs=[]:=by
    rcases hr.2 with h | ⟨ad,_,e,_⟩
    ·exact h
    ·cases e
   subst hx
   simp only [List.isEmpty_nil,cond_true] at H
   split at H
   ·rename_i h1; injection H with H; subst H; exact .inl ⟨rfl,h1⟩
   ·cases H
  | some ad =>
   refine .inr ⟨ad,rfl,?_⟩
   cases hx:xs.isEmpty with
   | true=>rw [hx] at H; simp only [cond_true] at H; split at H; exact H; cases H
   | false=>rw [hx] at H; exact H
section nil
variable {P:Program}
theorem run_eqSlN (d:Nat) {E T:TypeId} {m c:Nat} (hT:P.underlying T=some (.slice E)) (w:World) : (Op.equalIn (d+1) T (.slice none m c) (.slice none 0 0)).run P w = .ok true w:=by simp [Op.equalIn,run_underlying hT]
theorem run_eqSlS (d:Nat) {E T:TypeId} {a:Addr} {m c:Nat} (hT:P.underlying T=some (.slice E)) (w:World) : (Op.equalIn (d+1) T (.slice (some a) m c) (.slice none 0 0)).run P w = .ok false w:=by simp [Op.equalIn,run_underlying hT]
theorem bin_eql_slN {E T:TypeId} {m c:Nat} (hT:P.underlying T=some (.slice E)) : Bin P .eql T (.slice none m c) (.slice none 0 0) (.bool true):=fun x y w=>by
 have:=run_eqSlN (P:=P) 9999 (m:=m) (c:=c) hT w
 simp only [binOp,eqGuard,Op.equal,Op.maxDepth]; simp [this]
theorem bin_neq_slN {E T:TypeId} {m c:Nat} (hT:P.underlying T=some (.slice E)) : Bin P .neq T (.slice none m c) (.slice none 0 0) (.bool false):=fun x y w=>by
 have:=run_eqSlN (P:=P) 9999 (m:=m) (c:=c) hT w
 simp only [binOp,eqGuard,Op.equal,Op.maxDepth]; simp [this]
theorem bin_eql_slS {E T:TypeId} {a:Addr} {m c:Nat} (hT:P.underlying T=some (.slice E)) : Bin P .eql T (.slice (some a) m c) (.slice none 0 0) (.bool false):=fun x y w=>by
 have:=run_eqSlS (P:=P) 9999 (a:=a) (m:=m) (c:=c) hT w
 simp only [binOp,eqGuard,Op.equal,Op.maxDepth]; simp [this]
theorem bin_neq_slS {E T:TypeId} {a:Addr} {m c:Nat} (hT:P.underlying T=some (.slice E)) : Bin P .neq T (.slice (some a) m c) (.slice none 0 0) (.bool true):=fun x y w=>by
 have:=run_eqSlS (P:=P) 9999 (a:=a) (m:=m) (c:=c) hT w
 simp only [binOp,eqGuard,Op.equal,Op.maxDepth]; simp [this]
end nil
def IsErr (b:Bool) (v:Value) : Prop:=bif b then ∃ t p,v = .iface t p else v = .nilIface
section err
variable {P:Program} {ρ:Env} {w:World}
theorem run_eqNil (d:Nat) {T:TypeId} {ms:Array (String×TypeId)} {b:Bool} {v:Value} (hT:P.underlying T=some (.interface ms)) (h:IsErr b v) (w:World) : (Op.equalIn (d+1) T v .nilIface).run P w = .ok (!b) w:=by
 cases b with
 | true=>obtain ⟨t,p,rfl⟩:=h; simp [Op.equalIn,run_underlying hT]
 | false=>obtain rfl:=(show v = .nilIface from h); simp [Op.equalIn,run_underlying hT]
theorem guardNil {op:BinOp} {T:TypeId} {x:Operand} {b:Bool} {v:Value} (h:IsErr b v) : (eqGuard op T x (.const .nilIface) v .nilIface).run P w = .ok () w:=by
 cases b with
 | true=>obtain ⟨t,p,rfl⟩:=h; cases op <;> simp [eqGuard]
 | false=>obtain rfl:=(show v = .nilIface from h); cases op <;> simp [eqGuard]
theorem ex_errNeq {T t yt:TypeId} {ms:Array (String×TypeId)} {x:Operand} {b:Bool} {v:Value} (hx:ev ρ x=v) (hT:P.underlying T=some (.interface ms)) (h:IsErr b v) : Ex P ρ (.binOp .neq T x (.const .nilIface) yt) t w (.bool b) w:=fun _ _ _ _=>by
 have h1:=run_eqNil (P:=P) 9999 hT h w
 have e:ev ρ (.const .nilIface) = .nilIface:=rfl
 have h2:(binOp .neq T v .nilIface)=(do pure (.bool (!(← Op.equal T v .nilIface)))):=by cases v <;> rfl
 simp only [execOp,hx,e,Sem.run_bind]
 rw [guardNil h]
 simp only [Result.andThen_ok,h2,Sem.run_bind,Op.equal,Op.maxDepth]
 simp [h1]
theorem ex_errEql {T t yt:TypeId} {ms:Array (String×TypeId)} {x:Operand} {b:Bool} {v:Value} (hx:ev ρ x=v) (hT:P.underlying T=some (.interface ms)) (h:IsErr b v) : Ex P ρ (.binOp .eql T x (.const .nilIface) yt) t w (.bool (!b)) w:=fun _ _ _ _=>by
 have h1:=run_eqNil (P:=P) 9999 hT h w
 have e:ev ρ (.const .nilIface) = .nilIface:=rfl
 have h2:(binOp .eql T v .nilIface)=(do pure (.bool (← Op.equal T v .nilIface))):=by cases v <;> rfl
 simp only [execOp,hx,e,Sem.run_bind]
 rw [guardNil h]
 simp only [Result.andThen_ok,h2,Sem.run_bind,Op.equal,Op.maxDepth]
 simp [h1]
end err
theorem below_step {o:Tags} {w w':World} {M:List Nat} (h:Below w.heap.size w w') : Step o w o w' M:=⟨h.os,h.tape,h.output,h.size,fun _ _=>rfl,fun b hb _=>h.block b hb⟩
theorem bytesWorld_step (o:Tags) (w:World) (e:TypeId) (t:ByteArray) {M:List Nat}:Step o w o (Lib.bytesWorld w e t) M:=by
 unfold Lib.bytesWorld World.freeze
 rw [if_neg (by decide)]
 refine ⟨rfl,rfl,rfl,by simp,fun _ _=>rfl,fun b hb _=>?_⟩
 have hne:w.heap.size≠b:=by omega
 simp only [Array.getElem?_modify,if_neg hne]
 exact RowKit.Below.heap_alloc w.drew _ b hb
theorem var_move {P:Program} {w w':World} {name:String} {g:Nat} (hg:P.globalNamed name=some g) (h:w'.heap[g]?=w.heap[g]?) : w'.var? P name=w.var? P name:=by
 unfold World.var?
 rw [hg]
 simp only [Option.bind_some,h]
end Go.Proofs.YtpmkkhkphddfeaaGreatDoor.SX
set_option linter.unusedVariables false
set_option linter.unusedSimpArgs false
namespace Go.Proofs.YtpmkkhkphddfeaaGreatDoor.SX
open Go Go.RowKit
structure It (i:Nat) (o:Tags) (w:World) (b:Nat) (s:List UInt8) (p:Nat) : Prop where
 tag:o b=i
 heap:w.heap[b]?=some (.stringIter ⟨s.toArray⟩ p)
section it
variable {i j b:Nat} {o o':Tags} {w w':World} {s:List UInt8} {p:Nat} {M V L J:List Nat}
theorem It.step (h:It i o w b s p) (st:Step o w o' w' M) (hM:M.contains i=false) : It i o' w' b s p:=by
 have hb:b < w.heap.size:=(Array.getElem?_eq_some_iff.1 h.heap).1
 refine ⟨(st.own b hb).trans h.tag,(st.keep b hb (fun hm=>?_)).trans h.heap⟩
 rw [h.tag,← List.contains_iff_mem,hM] at hm
 cases hm
theorem It.pub (h:It i o w b s p) (j:Nat) (hj:Nat.beq i j=false) : It i (SX.pub o j) w b s p:=⟨pub_other h.tag hj,h.heap⟩
theorem It.ren {k l:Nat} (h:It i o w b s p) (hi:Nat.beq i k=false) (h0:Nat.beq 0 k=false) : It i (SX.ren o k l) w b s p:=⟨ren_other h.tag hi,h.heap⟩
end it
section ops
variable {P:Program} {n:Nat} {md:Md} {K:Exit→Env→World→Prop} {Kn:Env→World→Prop} {ρ:Env} {w:World} {o:Tags} {d:Nat} {t:TypeId} {p:String} {e:Array Edge} {g:Option (Nat×Bool)}
def runeStr (r:Int) : List UInt8:=(Utf8.encode r).data.toList
theorem ex_rune_str {src dst t:TypeId} {x:Operand} {k:IntKind} {a:Int} (hx:ev ρ x = .int k a) (hs:P.underlying src=some (.int k)) (hd:P.underlying dst=some .string) : Ex P ρ (.convert src dst x) t w (encS (runeStr a)) w:=fun _ _ _ _=>by
 simp [execOp,hx,encS,runeStr,convert,run_underlying hs,run_underlying hd,Conv.intToString]
def runeAt (s:List UInt8) (p:Nat) : Int:=((Lib.decodeL (s.drop p)).1:Int)
def wideAt (s:List UInt8) (p:Nat) : Nat:=(Lib.decodeL (s.drop p)).2
end ops
def shlI (x:Int) (n:Nat) : Int:=wrap64 (x * 2 ^ min n 64)
def shrI (x:Int) (n:Nat) : Int:=x.fdiv (2 ^ min n 64)
section sh
variable {P:Program}
theorem bin_shl_i64n {a:Int} {k:IntKind} {n:Nat} {T:TypeId}:Bin P .shl T (.int .i64 a) (.int k (n:Int)) (.int .i64 (shlI a n)):=fun x y w=>by
 have h:¬ ((n:Int) < 0):=by omega
 have hb:IntKind.i64.bits=64:=rfl
 simp [eqGuard,binOp,Op.shift,h,shlI,wrap_i64,hb]
theorem bin_shr_i64n {a:Int} {k:IntKind} {n:Nat} {T:TypeId}:Bin P .shr T (.int .i64 a) (.int k (n:Int)) (.int .i64 (shrI a n)):=fun x y w=>by
 have h:¬ ((n:Int) < 0):=by omega
 have hb:IntKind.i64.bits=64:=rfl
 simp [eqGuard,binOp,Op.shift,h,shrI,hb]
end sh
end Go.Proofs.YtpmkkhkphddfeaaGreatDoor.SX
set_option linter.unusedVariables false
namespace Go.Proofs.YtpmkkhkphddfeaaGreatDoor.SX
def Le {α:Type} (a b:Option α) : Prop:=∀ r,a=some r→b=some r
section le
variable {α β:Type}
theorem Le.refl (a:Option α) : Le a a:=fun _ h=>h
theorem Le.none (a:Option α) : Le Option.none a:=fun _ h=>by cases h
theorem Le.bind {a b:Option α} {f g:α→Option β} (h:Le a b) (k:∀ x,Le (f x) (g x)) : Le (a.bind f) (b.bind g):=fun r hr=>by
 obtain ⟨v,hv,hf⟩:=bindE hr
 rw [h v hv]
 exact k v r hf
theorem Le.cond {c:Bool} {a b a' b':Option α} (h:Le a a') (k:Le b b') : Le (bif c then a else b) (bif c then a' else b'):=by cases c <;> assumption
theorem Le.nilc [DecidableEq β] {xs:List α} {a b a' b':Option β} (h:Le a a') (k:Le b b') : Le (SX.nilc xs a b) (SX.nilc xs a' b'):=fun r hr=>by
 unfold SX.nilc at hr ⊢
 cases hb:b with
 | none=>rw [hb] at hr; cases hr
 | some q =>
  rw [hb] at hr
  rw [k q hb]
  simp only at hr ⊢
  cases hx:xs.isEmpty with
  | true =>
   rw [hx] at hr
   simp only [cond_true] at hr ⊢
   split at hr
   ·rename_i ha; rw [if_pos (h q ha)]; exact hr
   ·cases hr
  | false=>rw [hx] at hr; exact hr
end le
def Ev (p:Nat→Prop) : Prop:=∃ k0,∀ k,k0≤k→p k
section ev
variable {p q:Nat→Prop} {α β:Type}
theorem Ev.of (h:∀ k,p k) : Ev p:=⟨0,fun k _=>h k⟩
theorem Ev.from (k0:Nat) (h:∀ k,k0≤k→p k) : Ev p:=⟨k0,h⟩
theorem Ev.and (h:Ev p) (g:Ev q) : Ev fun k=>p k∧q k:=by
 obtain ⟨a,ha⟩:=h
 obtain ⟨b,hb⟩:=g
 exact ⟨max a b,fun k hk=>⟨ha k (by omega),hb k (by omega)⟩⟩
theorem Ev.imp (h:Ev p) (g:∀ k,p k→q k) : Ev q:=by
 obtain ⟨a,ha⟩:=h
 exact ⟨a,fun k hk=>g k (ha k hk)⟩
theorem Ev.mp (h:Ev p) (g:Ev fun k=>p k→q k) : Ev q:=(h.and g).imp fun k hk=>hk.2 hk.1
theorem Ev.mono {f:Nat→Option α} {k:Nat} {r:α} (hf:∀ k k',k≤k'→Le (f k) (f k')) (h:f k=some r) : Ev fun k=>f k=some r:=⟨k,fun k' hk=>hf k k' hk r h⟩
theorem Ev.bind {f:Nat→Option α} {g:Nat→α→Option β} {a:α} {b:β} (h:Ev fun k=>f k=some a) (k:Ev fun k=>g k a=some b) : Ev fun k=>(f k).bind (g k)=some b:=
 (h.and k).imp fun k hk=>by rw [hk.1]; exact hk.2
theorem Ev.some (h:Ev p) : ∃ k,p k:=by
 obtain ⟨a,ha⟩:=h
 exact ⟨a,ha a (Nat.le_refl a)⟩
end ev
theorem bind_some' {α β:Type} (a:α) (f:α→Option β) : (some a).bind f=f a:=rfl
theorem chk_of {b:Bool} (h:b=true) : chk b=some ():=by rw [h]; rfl
end Go.Proofs.YtpmkkhkphddfeaaGreatDoor.SX
set_option linter.unusedVariables false
namespace Go.Proofs.YtpmkkhkphddfeaaGreatDoor.SX
open Go Go.RowKit
def okI (k:IntKind) (n:Int) : Prop:=(Lit.int k n).wf=true
def okT {α:Type} (_:α) : Prop:=True
def bulk1 {α:Type} (_:α) : Nat:=1
def bulkS (s:List UInt8) : Nat:=s.length+1
def okS (s:List UInt8) : Prop:=s.length≤9223372036854775807
def bulkL {α:Type} (b:α→Nat) (xs:List α) : Nat:=(xs.map b).sum+1
def okL {α:Type} (ok:α→Prop) (xs:List α) : Prop:=∀ x ∈ xs,ok x
theorem len_le_bulk {α:Type} (b:α→Nat) (h:∀ a,1≤b a) : ∀ xs:List α,xs.length≤(xs.map b).sum
 | []=>by simp
 | a :: l=>by
  have:=len_le_bulk b h l
  have:=h a
  simp only [List.map_cons,List.sum_cons,List.length_cons]
  omega
theorem w64 {n:Int} (h0 : -9223372036854775808≤n) (h1:n≤9223372036854775807) : wrap64 n=n:=wrap64_in h0 h1
theorem wsucc (i:Nat) (h:i < 9223372036854775807) : wrap64 ((i:Int)+1)=((i+1:Nat) : Int):=by rw [w64 (by omega) (by omega)]; omega
theorem ix_nat {α:Type} (xs:List α) (n:Nat) : ix xs (n:Int)=xs[n]?:=by simp [ix]
theorem ix_get {α:Type} {xs:List α} {i:Int} (h0:0≤i) (h1:i < xs.length) : ix xs i=some (xs[i.toNat]'(by omega)):=by
 simp [ix,h0]
theorem cut_nat {α:Type} (xs:List α) {a b:Nat} (h:a≤b) (h':b≤xs.length) : cut xs (a:Int) (b:Int)=some ((xs.take b).drop a):=by
 unfold cut
 rw [if_pos (by omega)]
 simp
theorem cut_to {α:Type} (xs:List α) {b:Nat} (h':b≤xs.length) : cut xs 0 (b:Int)=some (xs.take b):=by
 have:=cut_nat xs (Nat.zero_le b) h'
 simpa using this
theorem cut_from {α:Type} (xs:List α) {a:Nat} (h:a≤xs.length) : cut xs (a:Int) (xs.length:Int)=some (xs.drop a):=by
 have:=cut_nat xs h (Nat.le_refl _)
 simpa using this
theorem drop_cons {α:Type} {xs:List α} {i:Nat} (h:i < xs.length) : xs.drop i=xs[i] :: xs.drop (i+1):=(List.getElem_cons_drop (h:=h)).symm
def db64:List UInt8:=[0,1,56,2,57,49,28,3,61,58,42,50,38,29,17,4,62,47,59,36,45,43,51,22,53,39,33,30,24,18,12,5,63,55,48,27,60,41,37,16,46,35,44,21,52,32,23,11,54,26,40,15,34,20,31,10,25,14,19,9,13,8,7,6]
def db64I:List Int:=db64.map fun c=>(c.toNat:Int)
def andI (a b:Int) : Int:=wrap64 ((BitVec.ofInt 64 a &&& BitVec.ofInt 64 b).toNat:Int)
def orI (a b:Int) : Int:=wrap64 ((BitVec.ofInt 64 a ||| BitVec.ofInt 64 b).toNat:Int)
def lfind {K:Type} (eq:K→K→Bool) (x:K) : List K→Nat→Option Nat
 | [],_=>none
 | a :: l,i=>bif eq x a then some i else lfind eq x l (i+1)
def mget {K V:Type} (eq:K→K→Bool) (kvs:List (K×V)) (x:K) : Option V:=(lfind eq x (kvs.map (·.1)) 0).bind fun i=>(kvs[i]?).map (·.2)
def mput {K V:Type} (eq:K→K→Bool) (kvs:List (K×V)) (x:K) (v:V) : List (K×V):=match lfind eq x (kvs.map (·.1)) 0 with | some i=>kvs.set i (x,v) | none=>kvs++[(x,v)]
def mdel {K V:Type} (eq:K→K→Bool) (kvs:List (K×V)) (x:K) : List (K×V):=match lfind eq x (kvs.map (·.1)) 0 with | some i=>kvs.eraseIdx i | none=>kvs
theorem lfind_at {K:Type} {eq:K→K→Bool} {x:K}:∀ {l:List K} {i j:Nat},lfind eq x l i=some j→i≤j∧∃ a,l[j - i]?=some a∧eq x a=true
 | [],i,j,h=>by cases h
 | a :: l,i,j,h=>by
  unfold lfind at h
  cases hc:eq x a with
  | true =>
   rw [hc,cond_true] at h
   obtain rfl:=Option.some.inj h
   exact ⟨Nat.le_refl _,a,by simp,hc⟩
  | false =>
   rw [hc,cond_false] at h
   obtain ⟨h1,b,h2,h3⟩:=lfind_at h
   refine ⟨by omega,b,?_,h3⟩
   rw [show j - i=(j - (i+1))+1 from by omega,List.getElem?_cons_succ]
   exact h2
noncomputable def nilK {α β:Type} (xs:List α) (b1 b2:Option β) : Option β:=@nilc α β (fun a b=>Classical.propDecidable (a=b)) xs b1 b2
noncomputable def both {β:Type} (a b:Option β) : Option β:=match a,b with
 | some x,some y => @ite _ (x=y) (Classical.propDecidable _) (some x) none
 | _,_=>none
theorem both_self {β:Type} (a:Option β) : both a a=a:=by cases a <;> simp [both]
theorem Le.nilK {α β:Type} {xs:List α} {a b a' b':Option β} (h:Le a a') (k:Le b b') : Le (SX.nilK xs a b) (SX.nilK xs a' b'):=by letI:DecidableEq β:=fun a b=>Classical.propDecidable (a=b); exact Le.nilc h k
theorem Le.both {β:Type} {a b a' b':Option β} (h:Le a a') (k:Le b b') : Le (SX.both a b) (SX.both a' b'):=fun r hr=>by
 cases ha:a with
 | none=>rw [ha] at hr; cases hr
 | some x=>cases hb:b with
  | none=>rw [ha,hb] at hr; cases hr
  | some y=>rw [h x ha,k y hb]; rw [ha,hb] at hr; exact hr
inductive Exn (ε α:Type) where
 | ex (e:ε)
 | ok (a:α)
 deriving DecidableEq
end Go.Proofs.YtpmkkhkphddfeaaGreatDoor.SX
set_option linter.unusedVariables false
set_option linter.unusedSimpArgs false
namespace Go.Proofs.YtpmkkhkphddfeaaGreatDoor.SX
open Go Go.RowKit
def OpensAt {α:Type} (P:Program) (fuel:Nat) (t:TypeId) (r:Rep α) (bulk:α→Nat) (ok:α→Prop) : Prop:=
 ∀ {H:Type} {enc:TypeId×Value→H} {w:World} {cs:List Value} {d:DataW H} {ps:List MemPlace},
  DataW.trod enc P w 0 (fun _=>true) true fuel t cs=some (d,ps)→∃ x,r.R (fun _=>True) w x cs∧bulk x≤Rows.uptoBulk d∧ok x
def Opens {α:Type} (P:Program) (t:TypeId) (r:Rep α) (bulk:α→Nat) (ok:α→Prop) : Prop:=∀ fuel,OpensAt P fuel t r bulk ok
section opens
variable {P:Program} {t:TypeId}
theorem OpensAt.zero {α:Type} {r:Rep α} {bulk:α→Nat} {ok:α→Prop}:OpensAt P 0 t r bulk ok:=fun h=>by simp [DataW.trod] at h
theorem trod_int {H:Type} {enc:TypeId×Value→H} {w:World} {fuel:Nat} {cs:List Value} {d:DataW H} {ps:List MemPlace} {k:IntKind} (hT:P.underlying t=some (.int k))
  (h:DataW.trod enc P w 0 (fun _=>true) true fuel t cs=some (d,ps)) : ∃ n,cs=[.int k n]∧(Lit.int k n).wf=true∧d = .lit (.int k n):=by
 cases fuel with
 | zero=>simp [DataW.trod] at h
 | succ fuel =>
  unfold DataW.trod at h
  rw [hT] at h
  split at h <;> rename_i e1 <;> (try (injection e1 with e1; cases e1)) <;> (try (injection e1; done))
  ·split at h
   ·rename_i hw
    obtain ⟨rfl,hw⟩:=hw
    injection h with h
    injection h with h1 h2
    exact ⟨_,rfl,hw,h1.symm⟩
   ·cases h
  ·cases h
theorem trod_str {H:Type} {enc:TypeId×Value→H} {w:World} {fuel:Nat} {cs:List Value} {d:DataW H} {ps:List MemPlace} (hT:P.underlying t=some .string)
  (h:DataW.trod enc P w 0 (fun _=>true) true fuel t cs=some (d,ps)) : ∃ s:ByteArray,cs=[.string s]∧s.size≤maxLen∧d = .lit (.string s.data.toList):=by
 cases fuel with
 | zero=>simp [DataW.trod] at h
 | succ fuel =>
  unfold DataW.trod at h
  rw [hT] at h
  split at h <;> rename_i e1 <;> (try (injection e1 with e1; cases e1)) <;> (try (injection e1; done))
  ·split at h
   ·rename_i hw
    injection h with h
    injection h with h1 h2
    exact ⟨_,rfl,hw,h1.symm⟩
   ·cases h
  ·cases h
theorem trod_struct {H:Type} {enc:TypeId×Value→H} {w:World} {fuel:Nat} {cs:List Value} {d:DataW H} {ps:List MemPlace} {fs:Array Field} (hT:P.underlying t=some (.struct fs))
  (h:DataW.trod enc P w 0 (fun _=>true) true (fuel+1) t cs=some (d,ps)) :
  cs.length=P.cellsOf t∧∃ xs,(fs.toList.mapM fun f=>DataW.trod enc P w 0 (fun _=>true) true fuel f.type ((cs.drop f.offset).take (P.cellsOf f.type)))=some xs∧d = .agg (xs.map (·.1)):=by
 unfold DataW.trod at h
 rw [hT] at h
 split at h <;> rename_i e1 <;> (try (injection e1 with e1; cases e1)) <;> (try (injection e1; done))
 ·split at h
  ·rename_i hw
   obtain ⟨xs,hx,he⟩:=Option.map_eq_some_iff.1 h
   injection he with h1 h2
   exact ⟨hw,xs,hx,h1.symm⟩
  ·cases h
 ·exfalso
  simp_all
theorem trod_arr {H:Type} {enc:TypeId×Value→H} {w:World} {fuel:Nat} {cs:List Value} {d:DataW H} {ps:List MemPlace} {n e:Nat} (hT:P.underlying t=some (.array n e))
  (h:DataW.trod enc P w 0 (fun _=>true) true (fuel+1) t cs=some (d,ps)) :
  cs.length=P.cellsOf t∧∃ xs,((List.range n).mapM fun i=>DataW.trod enc P w 0 (fun _=>true) true fuel e ((cs.drop (i * P.cellsOf e)).take (P.cellsOf e)))=some xs∧d = .agg (xs.map (·.1)):=by
 unfold DataW.trod at h
 rw [hT] at h
 split at h <;> rename_i e1 <;> (try (injection e1 with e1; cases e1)) <;> (try (injection e1; done))
 ·split at h
  ·rename_i hw
   obtain ⟨xs,hx,he⟩:=Option.map_eq_some_iff.1 h
   injection he with h1 h2
   exact ⟨hw,xs,hx,h1.symm⟩
  ·cases h
 ·exfalso
  simp_all
theorem trod_slice {H:Type} {enc:TypeId×Value→H} {w:World} {fuel:Nat} {cs:List Value} {d:DataW H} {ps:List MemPlace} {e:Nat} (hT:P.underlying t=some (.slice e))
  (h:DataW.trod enc P w 0 (fun _=>true) true (fuel+1) t cs=some (d,ps)) :
  (cs=[.slice none 0 0]∧d = .nil)∨∃ a len cap elems rest,cs=[.slice (some a) len cap]∧len≤cap∧cap≤maxLen ∧
   ((List.range len).mapM fun i=>(w.cells? 0 (a.add (i * P.cellsOf e)) (P.cellsOf e)).bind (DataW.trod enc P w 0 (fun _=>true) true fuel e))=some elems∧d = .slice (elems.map (·.1)) rest:=by
 unfold DataW.trod at h
 rw [hT] at h
 split at h <;> rename_i e1 <;> (try (injection e1 with e1; cases e1)) <;> (try (injection e1; done))
 ·injection h with h
  injection h with h1 h2
  exact .inl ⟨rfl,h1.symm⟩
 ·split at h
  ·rename_i hw
   obtain ⟨elems,hx,he⟩:=Option.bind_eq_some_iff.1 h
   obtain ⟨rest,hr,he⟩:=Option.map_eq_some_iff.1 he
   injection he with h1 h2
   exact .inr ⟨_,_,_,elems,_,rfl,hw.2.1,hw.2.2,hx,h1.symm⟩
  ·cases h
 ·cases h
theorem opens_i {k:IntKind} (hT:P.underlying t=some (.int k)) : Opens P t (Rep.int k) bulk1 (okI k):=fun fuel H enc w cs d ps h=>by
 obtain ⟨n,rfl,hw,rfl⟩:=trod_int hT h
 exact ⟨n,rfl,by simp [bulk1,Rows.uptoBulk],hw⟩
theorem opens_str (hT:P.underlying t=some .string) : Opens P t Rep.str bulkS okS:=fun fuel H enc w cs d ps h=>by
 obtain ⟨s,rfl,hs,rfl⟩:=trod_str hT h
 refine ⟨s.data.toList,?_,by simp [bulkS,Rows.uptoBulk],?_⟩
 ·show _=[encS _]
  simp [encS]
 ·have:s.data.toList.length=s.size:=by simp
  unfold okS
  rw [this]; exact hs
theorem mapM_get {α β:Type} {f:α→Option β}:∀ {l:List α} {r:List β},l.mapM f=some r→r.length=l.length∧∀ (i:Nat) (x:α),l[i]?=some x→f x=r[i]?
 | [],r,h=>by
  have:r=[]:=by simpa using h.symm
  subst this
  exact ⟨rfl,fun i x hx=>by simp at hx⟩
 | a :: l,r,h=>by
  rw [List.mapM_cons] at h
  obtain ⟨b,hb,h⟩:=Option.bind_eq_some_iff.1 h
  obtain ⟨bs,hbs,h⟩:=Option.bind_eq_some_iff.1 h
  have:r=b :: bs:=by simpa using h.symm
  subst this
  obtain ⟨hl,hg⟩:=mapM_get hbs
  refine ⟨by simp [hl],fun i x hx=>?_⟩
  cases i with
  | zero =>
   have:a=x:=by simpa using hx
   subst this; simpa using hb
  | succ i=>simpa using hg i x (by simpa using hx)
theorem mapM_range {β:Type} {f:Nat→Option β} {n:Nat} {r:List β} (h:(List.range n).mapM f=some r) : r.length=n∧∀ i,i < n→f i=r[i]?:=by
 obtain ⟨hl,hg⟩:=mapM_get h
 exact ⟨by simpa using hl,fun i hi=>hg i i (by simp [hi])⟩
theorem cells_some {w:World} {a:Addr} {n:Nat} {cs:List Value} (h:w.cells? 0 a n=some cs) : cs.length=n∧∀ j u,cs[j]?=some u→w.cell? (a.add j)=some u:=by
 unfold World.cells? at h
 rw [if_pos (Nat.zero_le _)] at h
 obtain ⟨hl,hg⟩:=mapM_range h
 refine ⟨hl,fun j u hu=>?_⟩
 rw [hg j (by rw [← hl]; exact (List.getElem?_eq_some_iff.1 hu).1)]
 exact hu
theorem cell_lt {w:World} {a:Addr} {v:Value} (h:w.cell? a=some v) : a.block < w.heap.size:=by
 rcases Nat.lt_or_ge a.block w.heap.size with h1 | h1
 ·exact h1
 ·simp [World.cell?,Array.getElem?_eq_none h1] at h
theorem many_of {α:Type} {r:Rep α} {F:Nat→Prop} {w:World} {b:α→Nat} {ok:α→Prop} {H:Type} (a:Addr) (hr:0 < r.sz) : ∀ (n i0:Nat) (ds:List (DataW H)),
  ds.length=n→(∀ i,i < n→∃ cs d x,ds[i]?=some d∧cs.length=r.sz∧(∀ j u,cs[j]?=some u→w.cell? (a.add ((i0+i) * r.sz+j))=some u)∧r.R F w x cs∧b x≤Rows.uptoBulk d∧ok x) →
  ∃ (xs:List α) (cells:List Value),xs.length=n∧Many r F w xs cells∧(∀ j u,cells[j]?=some u→w.cell? (a.add (i0 * r.sz+j))=some u)∧(xs.map b).sum≤Rows.uptoBulkAll ds∧okL ok xs:=by
 intro n
 induction n with
 | zero =>
  intro i0 ds hl h
  exact ⟨[],[],rfl,rfl,fun j u hu=>by simp at hu,by simp,fun x hx=>by cases hx⟩
 | succ n ih =>
  intro i0 ds hl h
  match ds,hl with
  | d0 :: ds,hl =>
   obtain ⟨cs,d,x,hd,hc,hcell,hR,hb,hok⟩:=h 0 (Nat.succ_pos n)
   have:d0=d:=by simpa using hd
   subst this
   obtain ⟨xs,cells,hxl,hM,hcells,hsum,hoks⟩:=ih (i0+1) ds (by simpa using hl) (fun i hi=>by
    obtain ⟨cs,d,x,h1,h2,h3,h4⟩:=h (i+1) (by omega)
    refine ⟨cs,d,x,by simpa using h1,h2,?_,h4⟩
    rw [show i0+(i+1)=i0+1+i from by omega] at h3
    exact h3)
   refine ⟨x :: xs,cs++cells,by simp [hxl],⟨cs,cells,rfl,hR,hM⟩,fun j u hu=>?_,?_,?_⟩
   ·by_cases hj:j < cs.length
    ·rw [List.getElem?_append_left hj] at hu
     exact hcell j u hu
    ·rw [List.getElem?_append_right (by omega)] at hu
     have:=hcells _ _ hu
     rw [show (i0+1) * r.sz+(j - cs.length)=i0 * r.sz+j from by rw [Nat.add_mul,Nat.one_mul]; omega] at this
     exact this
   ·simp only [List.map_cons,List.sum_cons,Rows.uptoBulkAll]
    omega
   ·intro y hy
    rcases List.mem_cons.1 hy with rfl | hy
    ·exact hok
    ·exact hoks y hy
theorem opens_slice {fuel:Nat} {α:Type} {e:TypeId} {r:Rep α} {b:α→Nat} {ok:α→Prop} (hT:P.underlying t=some (.slice e)) (hc:P.cellsOf e=r.sz) (hr:0 < r.sz) (h:OpensAt P fuel e r b ok) :
  OpensAt P (fuel+1) t (Rep.slice r) (bulkL b) (okL ok):=by
 intro H enc w cs d ps hd
 rcases trod_slice hT hd with ⟨rfl,rfl⟩|⟨a,len,cap,elems,rest,rfl,hlc,hcm,hm,rfl⟩
 ·exact ⟨[],⟨none,0,rfl,Nat.le_refl _,Row.nil⟩,by simp [bulkL,Rows.uptoBulk],fun x hx=>by cases hx⟩
 ·rw [hc] at hm
  obtain ⟨hl,hg⟩:=mapM_range hm
  obtain ⟨xs,cells,hxl,hM,hcells,hsum,hoks⟩:=many_of (b:=b) (ok:=ok) a hr len 0 (elems.map (·.1)) (by simp [hl]) (fun i hi=>by
   have h1:=hg i hi
   rw [List.getElem?_eq_getElem (by rw [hl]; exact hi)] at h1
   obtain ⟨cs,hcs,ht⟩:=Option.bind_eq_some_iff.1 h1
   obtain ⟨hcl,hcell⟩:=cells_some hcs
   obtain ⟨x,hR,hb,hok⟩:=h (d:=elems[i].1) (ps:=elems[i].2) ht
   refine ⟨cs,elems[i].1,x,by simp [List.getElem?_eq_getElem (show i < elems.length by rw [hl]; exact hi)],hcl,fun j u hu=>?_,hR,hb,hok⟩
   have:=hcell j u hu
   rw [add_add] at this
   rw [Nat.zero_add]
   exact this)
  subst hxl
  refine ⟨xs,⟨some a,cap,rfl,hlc,Nat.le_trans hlc hcm,?_⟩,?_,hoks⟩
  ·rcases Nat.eq_zero_or_pos xs.length with h0 | h0
   ·exact .inl (List.eq_nil_of_length_eq_zero h0)
   ·refine .inr ⟨a,cells,rfl,trivial,?_,hM,fun j u hu=>by have:=hcells j u hu; rwa [Nat.zero_mul,Nat.zero_add] at this⟩
    have hcl:=hM.len
    have hp:0 < cells.length:=by rw [hcl]; exact Nat.mul_pos h0 hr
    have:=cell_lt (hcells 0 cells[0] (by simp [hp]))
    rwa [add_block] at this
  ·simp only [bulkL,Rows.uptoBulk]
   omega
def FOpens {α:Type} (P:Program) (fuel:Nat) (fs:List Field) (off:Nat) (r:Rep α) (b:α→Nat) (ok:α→Prop) : Prop:=
 ∀ {H:Type} {enc:TypeId×Value→H} {w:World} {cs:List Value} {xs:List (DataW H×List MemPlace)},
  (fs.mapM fun f=>DataW.trod enc P w 0 (fun _=>true) true fuel f.type ((cs.drop f.offset).take (P.cellsOf f.type)))=some xs →
  ∃ x,r.R (fun _=>True) w x ((cs.drop off).take r.sz)∧b x≤Rows.uptoBulkAll (xs.map (·.1))∧ok x
theorem fopens_one {fuel:Nat} {α:Type} {f:Field} {off:Nat} {r:Rep α} {b:α→Nat} {ok:α→Prop} (hf:f.offset=off) (hc:P.cellsOf f.type=r.sz) (h:OpensAt P fuel f.type r b ok) : FOpens P fuel [f] off r b ok:=by
 intro H enc w cs xs hx
 rw [List.mapM_cons] at hx
 obtain ⟨y,hy,hx⟩:=Option.bind_eq_some_iff.1 hx
 have:xs=[y]:=by simpa using hx.symm
 subst this
 rw [hf,hc] at hy
 obtain ⟨x,hR,hb,hok⟩:=h (d:=y.1) (ps:=y.2) hy
 exact ⟨x,hR,by simpa [Rows.uptoBulkAll] using hb,hok⟩
theorem fopens_cons {fuel:Nat} {α β:Type} {f:Field} {fs:List Field} {off:Nat} {r:Rep α} {b:α→Nat} {ok:α→Prop} {r2:Rep β} {b2:β→Nat} {ok2:β→Prop} (hf:f.offset=off) (hc:P.cellsOf f.type=r.sz)
  (h:OpensAt P fuel f.type r b ok) (k:FOpens P fuel fs (off+r.sz) r2 b2 ok2) : FOpens P fuel (f :: fs) off (Rep.pair r r2) (fun x=>b x.1+b2 x.2) (fun x=>ok x.1∧ok2 x.2):=by
 intro H enc w cs xs hx
 rw [List.mapM_cons] at hx
 obtain ⟨y,hy,hx⟩:=Option.bind_eq_some_iff.1 hx
 obtain ⟨ys,hys,hx⟩:=Option.bind_eq_some_iff.1 hx
 have:xs=y :: ys:=by simpa using hx.symm
 subst this
 rw [hf,hc] at hy
 obtain ⟨x,hR,hb,hok⟩:=h (d:=y.1) (ps:=y.2) hy
 obtain ⟨x2,hR2,hb2,hok2⟩:=k hys
 have hl:=r.len hR
 refine ⟨(x,x2),⟨_,_,?_,hR,hR2⟩,?_,hok,hok2⟩
 ·show (cs.drop off).take (r.sz+r2.sz)=_
  rw [List.take_add,List.drop_drop]
 ·simp only [List.map_cons,Rows.uptoBulkAll]; omega
theorem opens_struct {fuel:Nat} {α β:Type} {fs:Array Field} {d:Rep α} {f:β→α} {b:α→Nat} {ok:α→Prop} (g:α→β) (hT:P.underlying t=some (.struct fs)) (hc:P.cellsOf t=d.sz) (hg:∀ x,f (g x)=x)
  (h:FOpens P fuel fs.toList 0 d b ok) : OpensAt P (fuel+1) t (Rep.iso d f) (fun x=>b (f x)+1) (fun x=>ok (f x)):=by
 intro H enc w cs dd ps hd
 obtain ⟨hl,xs,hx,rfl⟩:=trod_struct hT hd
 obtain ⟨x,hR,hb,hok⟩:=h hx
 refine ⟨g x,?_,?_,by show ok (f (g x)); rw [hg]; exact hok⟩
 ·show d.R _ w (f (g x)) cs
  rw [hg]
  rwa [List.drop_zero,List.take_of_length_le (by rw [hl,hc]; exact Nat.le_refl _)] at hR
 ·show b (f (g x))+1≤_
  rw [hg]; simp only [Rows.uptoBulk]; omega
theorem opens_arr {fuel:Nat} {α:Type} {n e:Nat} {r:Rep α} {b:α→Nat} {ok:α→Prop} (hT:P.underlying t=some (.array n e)) (hct:P.cellsOf t=n * r.sz) (hc:P.cellsOf e=r.sz) (h:OpensAt P fuel e r b ok) :
  OpensAt P (fuel+1) t (Rep.arr n r) (bulkL b) (fun xs=>xs.length=n∧okL ok xs):=by
 intro H enc w cs d ps hd
 obtain ⟨hl,xs,hx,rfl⟩:=trod_arr hT hd
 obtain ⟨hxl,hg⟩:=mapM_range hx
 rw [hc] at hg
 have key:∀ (m i0:Nat),i0+m=n→∃ ys,ys.length=m∧Many r (fun _=>True) w ys (cs.drop (i0 * r.sz))∧(ys.map b).sum≤Rows.uptoBulkAll ((xs.map (·.1)).drop i0)∧okL ok ys:=by
  intro m
  induction m with
  | zero =>
   intro i0 hi
   refine ⟨[],rfl,?_,by simp,fun x hx=>by cases hx⟩
   have:cs.length≤i0 * r.sz:=by rw [hl,hct]; exact Nat.mul_le_mul_right _ (by omega)
   exact List.drop_eq_nil_of_le this
  | succ m ih =>
   intro i0 hi
   obtain ⟨ys,h1,h2,h3,h4⟩:=ih (i0+1) (by omega)
   have h5:=hg i0 (by omega)
   rw [List.getElem?_eq_getElem (by omega)] at h5
   obtain ⟨y,hR,hb,hok⟩:=h (d:=xs[i0].1) (ps:=xs[i0].2) h5
   refine ⟨y :: ys,by simp [h1],⟨_,_,?_,hR,h2⟩,?_,?_⟩
   ·rw [show (i0+1) * r.sz=i0 * r.sz+r.sz from by rw [Nat.add_mul,Nat.one_mul],← List.drop_drop,List.take_append_drop]
   ·have hlt:i0 < (xs.map (·.1)).length:=by simp; omega
    rw [← List.getElem_cons_drop (h:=hlt)]
    simp only [List.map_cons,List.sum_cons,Rows.uptoBulkAll,List.getElem_map]
    omega
   ·intro z hz
    rcases List.mem_cons.1 hz with rfl | hz
    ·exact hok
    ·exact h4 z hz
 obtain ⟨ys,h1,h2,h3,h4⟩:=key n 0 (by omega)
 refine ⟨ys,⟨h1,by simpa using h2⟩,?_,h1,h4⟩
 simp only [bulkL,Rows.uptoBulk]
 rw [List.drop_zero] at h3
 omega
theorem Opens.arg {α:Type} {r:Rep α} {b:α→Nat} {ok:α→Prop} (h:Opens P t r b ok) {H:Type} {enc:TypeId×Value→H} {w:World} {v:Value} {d:DataW H} {ps:List MemPlace} (ht:DataW.Trod enc P w 0 (fun _=>true) true t v d ps) :
  ∃ x,r.R (fun b=>(fun _=>0:Tags) b=0) w x v.cells.toList∧b x≤Rows.uptoBulk d∧ok x:=by
 obtain ⟨fuel,hf⟩:=ht
 obtain ⟨x,hR,hb,hok⟩:=h fuel hf
 exact ⟨x,r.mono (fun _ _=>rfl) hR,hb,hok⟩
end opens
end Go.Proofs.YtpmkkhkphddfeaaGreatDoor.SX
set_option linter.unusedVariables false
set_option linter.unusedSimpArgs false
namespace Go.Proofs.YtpmkkhkphddfeaaGreatDoor.SX
open Go Go.RowKit Go.WideShapes
theorem below_of {o o':Tags} {w w':World} (s:Step o w o' w' []) : Below w.heap.size w w':=⟨s.os,s.tape,s.output,s.size,fun b hb=>s.keep b hb (by simp)⟩
section args
variable {P:Program} {W:World} {base:Nat} {t:TypeId} {v:Value}
theorem arg_slice {e:TypeId} {A:Option Addr} {m c:Nat} (ht:P.underlying t=some (.slice e)) (h:Value.okWide P W .any base t v) (hc:v.cells.toList=[.slice A m c]) : v = .slice A m c:=by
 obtain ⟨a,l,p,rfl⟩:=okWide_slice ht h
 simpa [Value.cells] using hc
theorem arg_str {s:List UInt8} (ht:P.underlying t=some .string) (h:Value.okWide P W .any base t v) (hc:v.cells.toList=[encS s]) : v=encS s:=by
 obtain ⟨a,rfl⟩:=okWide_string ht h
 simpa [Value.cells] using hc
theorem var_sz {n:String} {g:Nat} {cs:Array Value} (hg:P.globalNamed n=some g) (h:W.var? P n=some cs) : g < W.heap.size:=by
 simp only [World.var?,hg,Option.bind_some] at h
 rcases Nat.lt_or_ge g W.heap.size with h1 | h1
 ·exact h1
 ·rw [Array.getElem?_eq_none h1] at h; cases h
theorem reads_sz {n:String} {g:Nat} {d:DataW Unit} (hg:P.globalNamed n=some g) (h:Lib.VarReads P W n d) : g < W.heap.size:=by
 obtain ⟨_,_,_,_,_,_,_,hv,_⟩:=h
 exact var_sz hg hv
theorem tab_reads {n:String} {g:Nat} {t e m:Nat} {k:IntKind} {zs:List Int} (hg:P.globalNamed n=some g) (hty:(P.globals[g]?).map (·.type)=some t) (ht:P.underlying t=some (.array m e)) (he:P.underlying e=some (.int k))
  (hce:P.cellsOf e=1) (hct:P.cellsOf t=m) (h:Lib.VarReads P W n (Lib.tabData k zs)) : Lib.TabIs P W n k zs:=by
 obtain ⟨g',t',cs,fuel,p,hg',ht',hv,hd⟩:=h
 obtain rfl:=Option.some.inj (hg.symm.trans hg')
 obtain rfl:=Option.some.inj (hty.symm.trans ht')
 unfold Lib.TabIs
 rw [hv,← Lib.cells_of_tab ht he hce hct hd]
theorem iface_reads {n:String} {g:Nat} {t:TypeId} {ms:Array (String×TypeId)} {nm:String} {d:DataW Unit} (hg:P.globalNamed n=some g) (hty:(P.globals[g]?).map (·.type)=some t) (ht:P.underlying t=some (.interface ms))
  (h:Lib.VarReads P W n (.iface nm d)) : ∃ tp p,W.var? P n=some #[.iface tp p]:=by
 obtain ⟨g',t',cs,fuel,p,hg',ht',hv,hd⟩:=h
 obtain rfl:=Option.some.inj (hg.symm.trans hg')
 obtain rfl:=Option.some.inj (hty.symm.trans ht')
 obtain ⟨fuel',u,v,e,_,_⟩:=iface_of_trod ht hd
 have:cs = #[.iface u v]:=by rw [← Array.toList_inj,e]
 exact ⟨u,v,by rw [hv,this]⟩
end args
end Go.Proofs.YtpmkkhkphddfeaaGreatDoor.SX
set_option linter.unusedVariables false
set_option linter.unusedSimpArgs false
namespace Go.Proofs.YtpmkkhkphddfeaaGreatDoor.SX
open Go
section
variable {P:Program}
def EqR (P:Program) (d:Nat) (t:TypeId) (x y:Value) (b:Bool) : Prop:=∀ w,(Op.equalIn d t x y).run P w = .ok b w
def EqF (P:Program) (d:Nat) (xs ys:Array Value) (fs:List Field) (b:Bool) : Prop:=∀ w,(Op.eqFields d xs ys fs).run P w = .ok b w
def PartR (P:Program) (t:TypeId) (xs:Array Value) (off:Nat) (v:Value) : Prop:=∀ w,(part t xs off).run P w = .ok v w
theorem PartR.one {t:TypeId} {d:TypeDesc} {xs:Array Value} {off:Nat} {v:Value} (hft:P.underlying t=some d) (hd:plainT d=true) (hv:xs[off]?=some v) : PartR P t xs off v:=fun w=>by
 simp [part,run_isAgg_no hft hd,asAgg,hv]
theorem PartR.many {t:TypeId} {d:TypeDesc} {xs:Array Value} {off n:Nat} (hft:P.underlying t=some d) (hd:plainT d=false) (hs:(P.info? t).map (·.size)=some n) : PartR P t xs off (.agg (xs.extract off (off+n))):=fun w=>by
 simp [part,run_isAgg_yes hft hd,asAgg,run_sizeOf' hs]
theorem EqF.nil {d:Nat} {xs ys:Array Value}:EqF P d xs ys [] true:=fun w=>by simp [Op.eqFields]
theorem EqF.cons {d:Nat} {xs ys:Array Value} {f:Field} {fs:List Field} {u v:Value} {b1 b2:Bool} (hn:f.name ≠ "_") (hu:PartR P f.type xs f.offset u) (hv:PartR P f.type ys f.offset v)
  (h1:EqR P d f.type u v b1) (h2:EqF P d xs ys fs b2) : EqF P d xs ys (f :: fs) (b1 && b2):=fun w=>by
 simp only [Op.eqFields,if_pos hn,Sem.run_bind,hu w,hv w,h1 w,Result.andThen_ok]
 cases b1 with
 | false=>simp
 | true=>simpa using h2 w
theorem EqR.int {d:Nat} {t:TypeId} {k k':IntKind} {a b:Int} (h:P.underlying t=some (.int k')) : EqR P (d+1) t (.int k a) (.int k b) (a == b):=fun w=>run_equalIn_int w d t k k' a b h
theorem EqR.bool {d:Nat} {t:TypeId} {a b:Bool} (h:P.underlying t=some .bool) : EqR P (d+1) t (.bool a) (.bool b) (a == b):=fun w=>run_equalIn_bool' w d t a b h
theorem EqR.str {d:Nat} {t:TypeId} {a b:List UInt8} (h:P.underlying t=some .string) : EqR P (d+1) t (encS a) (encS b) (a == b):=fun w=>by
 have:=run_equalIn_string w d t ⟨a.toArray⟩ ⟨b.toArray⟩ h
 rw [ByteArray.toList_eq,ByteArray.toList_eq] at this
 exact this
theorem EqR.u8 {d:Nat} {t:TypeId} {a b:UInt8} (h:P.underlying t=some (.int .u8)) : EqR P (d+1) t (enc8 a) (enc8 b) (a == b):=fun w=>by
 have:=run_equalIn_int w d t .u8 .u8 (a.toNat:Int) (b.toNat:Int) h
 rw [show ((a.toNat:Int) == (b.toNat:Int))=(a == b) from by rw [Bool.eq_iff_iff,beq_iff_eq,beq_iff_eq,← UInt8.toNat_inj]; omega] at this
 exact this
theorem EqR.u32 {d:Nat} {t:TypeId} {a b:UInt32} (h:P.underlying t=some (.int .u32)) : EqR P (d+1) t (enc32 a) (enc32 b) (a == b):=fun w=>by
 have:=run_equalIn_int w d t .u32 .u32 (a.toNat:Int) (b.toNat:Int) h
 rw [show ((a.toNat:Int) == (b.toNat:Int))=(a == b) from by rw [Bool.eq_iff_iff,beq_iff_eq,beq_iff_eq,← UInt32.toNat_inj]; omega] at this
 exact this
theorem EqR.u64 {d:Nat} {t:TypeId} {a b:UInt64} (h:P.underlying t=some (.int .u64)) : EqR P (d+1) t (enc64 a) (enc64 b) (a == b):=fun w=>by
 have:=run_equalIn_int w d t .u64 .u64 (a.toNat:Int) (b.toNat:Int) h
 rw [show ((a.toNat:Int) == (b.toNat:Int))=(a == b) from by rw [Bool.eq_iff_iff,beq_iff_eq,beq_iff_eq,← UInt64.toNat_inj]; omega] at this
 exact this
theorem EqR.agg {d:Nat} {t:TypeId} {fs:Array Field} {xs ys:Array Value} {b:Bool} (hT:P.underlying t=some (.struct fs)) (hp:P.stoodInHeld t=false) (h:EqF P d xs ys fs.toList b) : EqR P (d+1) t (.agg xs) (.agg ys) b:=fun w=>by
 have e:P.fieldsOf t=fs:=by unfold Program.fieldsOf; rw [hT]
 rw [run_equalIn_struct w d t xs ys (by rw [e]; exact hT) hp,e]
 exact h w
theorem bin_eql_agg {t:TypeId} {xs ys:Array Value} {b:Bool} (hg:P.eqGuardType P.depth t=false) (h:EqR P 10000 t (.agg xs) (.agg ys) b) : Bin P .eql t (.agg xs) (.agg ys) (.bool b):=fun x y w=>by
 rw [Sem.run_bind,run_eqGuard_agg w .eql t x y xs ys hg,Result.andThen_ok,run_eql_struct,h w]
 rfl
theorem bin_neq_agg {t:TypeId} {xs ys:Array Value} {b:Bool} (hg:P.eqGuardType P.depth t=false) (h:EqR P 10000 t (.agg xs) (.agg ys) b) : Bin P .neq t (.agg xs) (.agg ys) (.bool (!b)):=fun x y w=>by
 rw [Sem.run_bind,run_eqGuard_agg w .neq t x y xs ys hg,Result.andThen_ok,run_neq_struct,h w]
 rfl
end
section arr
variable {P:Program} {ρ:Env} {w:World} {t:TypeId}
theorem ex_buildArr {T E:TypeId} {m sz:Nat} {parts:Array (Nat×Operand)} {z:Value} {cs:List Value} (vs:List (Nat×Value)) (zs:List Value) (hT:P.underlying T=some (.array m E)) (hz:(P.info? T).map (·.zero)=some (some z))
  (hzs:z.cells.toList=zs) (hs:(P.info? E).map (·.size)=some sz) (hvs:(parts.toList.map fun q=>(q.1,ev ρ q.2))=vs)
  (hf:fillL (fun i=>some (i * sz,sz)) zs (vs.map fun q=>(q.1,q.2.cells.toList))=some cs) : Ex P ρ (.build T parts) t w (.agg cs.toArray) w:=fun _ _ _ _=>by
 have h2:Instr.fill (fun i=>some (i * sz,sz)) z.cells (parts.map fun q=>(q.1,ev ρ q.2)).toList=some cs.toArray:=by
  rw [Array.toList_map,hvs,← Array.toArray_toList (xs:=z.cells),hzs,fill_fillL]
  simp [hf]
 show ((do pure (Next.value (← Instr.build T (parts.map fun q=>(q.1,ev ρ q.2)))) : Sem Next)).run P w=_
 unfold Instr.build
 simp only [Sem.run_bind,run_zeroValue' hz,Result.andThen_ok,run_underlying hT,run_sizeOf' hs,h2,Sem.run_pure]
end arr
section callv
variable {P:Program} {n:Nat} {md:Md} {K:Exit→Env→World→Prop} {Kn:Env→World→Prop} {ρ:Env} {w:World} {d:Nat} {t:TypeId} {p:String} {e:Array Edge} {g:Option (Nat×Bool)}
end callv
section fresh
open Go.RowKit
variable {P:Program} {n:Nat} {md:Md} {K:Exit→Env→World→Prop} {Kn:Env→World→Prop} {ρ:Env} {w:World} {o:Tags} {d:Nat} {t:TypeId} {p:String} {e:Array Edge} {g:Option (Nat×Bool)}
theorem Bd.fresh {T E i b:Nat} (h:Bk o w i b [.pointer none,.slice none 0 0] T) : Bd T E i o w b []:=⟨_,_,h,.inl rfl,Own.nil⟩
end fresh
end Go.Proofs.YtpmkkhkphddfeaaGreatDoor.SX
set_option linter.unusedVariables false
set_option linter.unusedSimpArgs false
namespace Go.Proofs.YtpmkkhkphddfeaaGreatDoor.SX
open Go Go.RowKit
structure Ob (o:Tags) (w:World) (i b:Nat) (ob:Obj) : Prop where
 tag:o b=i
 heap:w.heap[b]?=some ob
section ob
variable {o o':Tags} {w w':World} {i b:Nat} {ob:Obj} {M:List Nat}
theorem Ob.lt (h:Ob o w i b ob) : b < w.heap.size:=(Array.getElem?_eq_some_iff.1 h.heap).1
theorem Ob.step (h:Ob o w i b ob) (s:Step o w o' w' M) (hM:M.contains i=false) : Ob o' w' i b ob:=by
 have hb:=h.lt
 refine ⟨(s.own b hb).trans h.tag,(s.keep b hb (fun hm=>?_)).trans h.heap⟩
 rw [h.tag,← List.contains_iff_mem,hM] at hm
 cases hm
theorem Ob.pub (h:Ob o w i b ob) (j:Nat) (hj:Nat.beq i j=false) : Ob (SX.pub o j) w i b ob:=⟨pub_other h.tag hj,h.heap⟩
theorem Ob.ren {k l:Nat} (h:Ob o w i b ob) (hi:Nat.beq i k=false) (h0:Nat.beq 0 k=false) : Ob (SX.ren o k l) w i b ob:=⟨ren_other h.tag hi,h.heap⟩
theorem Ob.renTo {j:Nat} (h:Ob o w i b ob) : Ob (SX.ren o i j) w j b ob:=⟨ren_same h.tag,h.heap⟩
theorem step_put (h:Ob o w i b ob) (ob':Obj) : Step o w o (w.putObj b ob') [i]∧Ob o (w.putObj b ob') i b ob':=by
 refine ⟨⟨rfl,rfl,rfl,by simp,fun _ _=>rfl,fun c hc hm=>?_⟩,h.tag,World.putObj_heap_same h.lt⟩
 refine World.putObj_heap_other ?_
 rintro rfl
 exact hm (by simp [h.tag])
theorem Step.weak {N:List Nat} (s:Step o w o' w' M) (h:subM M N=true) : Step o w o' w' N:=Step.trans s (Step.refl _ _ []) h rfl
end ob
def coll (D:Nat) : Deferred:={ target:=.collected D,args:=#[] }
def Shut (t:Nat) (ds:List Deferred) (o:Tags) (w:World) : Prop:=ds.Nodup∧∀ d ∈ ds,∃ D,d=coll D∧Ob o w t D (.deferred (some []))
section shut
variable {o o':Tags} {w w':World} {t:Nat} {ds:List Deferred} {M:List Nat}
theorem Shut.nil:Shut t [] o w:=⟨List.nodup_nil,fun d h=>by cases h⟩
theorem Shut.step (h:Shut t ds o w) (s:Step o w o' w' M) (hM:M.contains t=false) : Shut t ds o' w':=⟨h.1,fun d hd=>by
 obtain ⟨D,e,hO⟩:=h.2 d hd
 exact ⟨D,e,hO.step s hM⟩⟩
theorem Shut.pub (h:Shut t ds o w) (j:Nat) (hj:Nat.beq t j=false) : Shut t ds (SX.pub o j) w:=⟨h.1,fun d hd=>by
 obtain ⟨D,e,hO⟩:=h.2 d hd
 exact ⟨D,e,hO.pub j hj⟩⟩
theorem Shut.ren {k l:Nat} (h:Shut t ds o w) (hi:Nat.beq t k=false) (h0:Nat.beq 0 k=false) : Shut t ds (SX.ren o k l) w:=⟨h.1,fun d hd=>by
 obtain ⟨D,e,hO⟩:=h.2 d hd
 exact ⟨D,e,hO.ren hi h0⟩⟩
theorem Shut.more {o0:Tags} {w0:World} {D:Nat} (h0:Shut t ds o0 w0) (h:Shut t ds o w) (hD:Ob o w t D (.deferred (some []))) (hle:w0.heap.size≤D) : Shut t (coll D :: ds) o w:=by
 refine ⟨List.nodup_cons.2 ⟨fun hc=>?_,h.1⟩,fun d hd=>?_⟩
 ·obtain ⟨E,e,hE⟩:=h0.2 _ hc
  have:D=E:=by
   injection e with e1 _
   injection e1
  have:=hE.lt
  omega
 ·rcases List.mem_cons.1 hd with rfl | hd
  ·exact ⟨D,rfl,hD⟩
  ·exact h.2 d hd
end shut
def TopM (P:Program) (fn:Func) (R:Ending→World→Prop) : Exit→Env→World→Prop
 | .normal,ρ,w | .ret,ρ,w => ∃ (t:Nat) (o:Tags),Shut t ρ.ds o w∧∀ w',Step o w o w' [t]→∃ vs,Vals P ρ w' fn.results.toList vs∧R (.returned (one vs)) w'
 | _,_,_=>False
section topm
variable {P:Program}
end topm
def Iter {α:Type} (P:Program) (g:Nat) (lb:Array Value) (encs:α→Array Value) (xs:List α) (ts:Nat) (C:Nat→Tags→World→Prop) : Prop:=
 ∀ (l:Nat) (R:Nat→Tags→World→Prop) (X:Tags→World→Prop) (o:Tags) (w:World),
  (∀ q o w o' w',R q o w→Step o w o' w' [ts]→R q o' w') →
  (∀ o w o' w',X o w→Step o w o' w' [ts]→X o' w') →
  (∀ q x o w,xs[q]?=some x→R q o w→C q o w→YieldAt Fence.wide 0 P l (encs x) w fun e w' => ∃ o',(e = .returned (.bool true)∧R (q+1) o' w'∧C q o' w')∨(e = .returned (.bool false)∧X o' w')) →
  R 0 o w→C 0 o w →
  Calls P g (#[.func (.yield l) #[] #[]]++lb) w fun e w'=>(∃ v,e = .returned v)∧∃ o',(R xs.length o' w'∧C xs.length o' w')∨X o' w'
def updL (ρ:Env) : List (Nat×Value)→Env
 | []=>ρ
 | (p,v) :: l=>updL (upd ρ p v) l
theorem Fr.updL {n:Nat} {md:Md}:∀ (l:List (Nat×Value)) {ρ:Env} {a:Act},Fr n md ρ a→l.all (fun q=>Nat.blt q.1 n)=true →
  Fr n md (SX.updL ρ l) { a with tmps:=l.foldl (fun t q=>t.setIfInBounds q.1 q.2) a.tmps }
 | [],ρ,a,h,_=>h
 | (p,v) :: l,ρ,a,h,hp=>by
  rw [List.all_cons,Bool.and_eq_true] at hp
  exact Fr.updL l (h.put hp.1 v) hp.2
theorem Fr.round {n:Nat} {md:Md} {ρ:Env} {a:Act} (l:Nat) (h:Fr n md ρ a) : Fr n (.round l) ⟨ρ.get,[]⟩ { a with defers:=[] }:=⟨h.size,h.get,rfl,fun _=>rfl⟩
def codeOf:Option Nat→Code
 | none => .ret
 | some id => .exit id
def exitOf:Option Nat→Exit
 | none => .ret
 | some id => .exit id
def RK (tL l D:Nat) (obL:Obj) (R:Tags→World→Prop) (X:Option Nat→Tags→World→Prop) : Exit→Env→World→Prop
 | .normal,_,w => ∃ o,Ob o w tL l obL∧Ob o w tL D (.deferred (some []))∧R o w
 | .ret,_,w => ∃ o,Ob o w tL l obL∧Ob o w tL D (.deferred (some []))∧X none o w
 | .exit i,_,w => ∃ o,Ob o w tL l obL∧Ob o w tL D (.deferred (some []))∧X (some i) o w
 | _,_,_=>False
section range
variable {P:Program} {n:Nat} {K:Exit→Env→World→Prop} {ρ:Env} {w:World} {o:Tags}
theorem WC.rangeFunc {α:Type} {g:Operand} {ps:Array Tmp} {assign body:Code} {gf:Nat} {fn:Func} {lb:Array Value} {encs:α→Array Value} {xs:List α} {C:Nat→Tags→World→Prop} (ts tL:Nat) {o0:Tags} {w0:World} {T:List Nat} (HF:Fm o0 w0 o w T)
  (hg:ev ρ g = .func (.func gf) #[] lb) (hf:P.funcs[gf]?=some fn) (hn:(fn.name == "runtime.NumGoroutine")=false) (hb:fn.body.isNone=false) (hit:Iter P gf lb encs xs ts C) (hne:Nat.beq ts tL=false) (hps:∀ x,(encs x).size=ps.size) (hpn:ps.all (fun p=>Nat.blt p n)=true) {zs:α→List (Nat×Value)} (hz:∀ x,(ps.zip (encs x)).toList=zs x)
  (R:Nat→Tags→World→Prop) (X:Option Nat→Tags→World→Prop)
  (hR:∀ q o w o' w',R q o w→Step o w o' w' [ts,tL]→R q o' w') (hX:∀ c o w o' w',X c o w→Step o w o' w' [ts,tL]→X c o' w') (hC:∀ q o w o' w',C q o w→Step o w o' w' [tL]→C q o' w')
  (h0:∀ o' w',Step o w o' w' []→R 0 o' w'∧C 0 o' w')
  (hbody:∀ l D obL obB q x o w,xs[q]?=some x→R q o w→C q o w→Ob o w tL l obL→Ob o w tL D (.deferred (some [])) →
   WC P n (.round l) assign (thn (fun ρ1 w1 => ∃ o1,Ob o1 w1 tL l obL∧Ob o1 w1 tL D (.deferred (some [])) ∧
    ∀ w2,Step o1 w1 o1 w2 [tL]→Ob o1 w2 tL l obB→Ob o1 w2 tL D (.deferred (some []))→WC P n (.round l) body (RK tL l D obB (fun o w=>R (q+1) o w∧C q o w) X) ρ1 w2) (fun _ _ _=>False)) ⟨(updL ρ (zs x)).get,[]⟩ w)
  (hdone:∀ D o' w',R xs.length o' w'→C xs.length o' w'→Ob o' w' tL D (.deferred (some []))→w.heap.size≤D→K .normal ⟨ρ.get,coll D :: ρ.ds⟩ w')
  (hexit:∀ c D o' w',X c o' w'→Ob o' w' tL D (.deferred (some []))→w.heap.size≤D→K (exitOf c) ⟨ρ.get,coll D :: ρ.ds⟩ w') :
  WC P n .defer (.rangeFunc g ps assign body) K ρ w:=by
 refine ⟨fun a ha=>?_⟩
 have hfr:∀ D,Fr n .defer ⟨ρ.get,coll D :: ρ.ds⟩ { a with defers:=[coll D]++a.defers }:=fun D=>⟨ha.size,ha.get,by show coll D :: a.defers=_; rw [ha.defs],fun h=>by cases h⟩
 refine wpIn_rangeFunc (F:=Fence.wide) (n:=0) ?_
 intro fid _
 obtain ⟨rec,hrec⟩ : ∃ rec:LoopState→Option Code→Loop,rec=fun st pe => { state:=st,pending:=pe,fn:=fid,tmps:=a.tmps,params:=ps,assign,body,defers:=w.heap.size }:=⟨_,rfl⟩
 have s1:=step_alloc o w tL (.deferred (some [])) []
 have s2:=step_alloc (fun b=>bif Nat.beq b w.heap.size then tL else o b) (w.alloc (.deferred (some []))) tL (.loop (rec .ready none)) []
 have s12:=Step.trans s1 s2 (M:=[]) rfl rfl
 have hD1:Ob (fun b=>bif Nat.beq b w.heap.size then tL else o b) (w.alloc (.deferred (some []))) tL w.heap.size (.deferred (some [])):=⟨by simp,heap_alloc_new w _⟩
 have hD2:=hD1.step s2 rfl
 have hsz:(w.alloc (.deferred (some []))).heap.size=w.heap.size+1:=by simp
 have hL2:Ob (fun b=>bif Nat.beq b (w.alloc (.deferred (some []))).heap.size then tL else bif Nat.beq b w.heap.size then tL else o b) ((w.alloc (.deferred (some []))).alloc (.loop (rec .ready none))) tL (w.heap.size+1) (.loop (rec .ready none)):=by
  refine ⟨by simp [hsz],?_⟩
  have:=heap_alloc_new (w.alloc (.deferred (some []))) (.loop (rec .ready none))
  rw [hsz] at this
  exact this
 obtain ⟨hR0,hC0⟩:=h0 _ _ s12
 generalize (fun b=>bif Nat.beq b (w.alloc (.deferred (some []))).heap.size then tL else bif Nat.beq b w.heap.size then tL else o b)=o2 at *
 have hW2:(Instr.enterLoop fid a.tmps ps assign body none).run P w = .ok (w.heap.size+1,[coll w.heap.size]) ((w.alloc (.deferred (some []))).alloc (.loop (rec .ready none))):=by
  rw [hrec]; exact run_enterLoop_outer _ _ _ _ _
 generalize (w.alloc (.deferred (some []))).alloc (.loop (rec .ready none))=w2 at *
 clear s1 s2 hD1
 have hgv:a.eval g = .func (.func gf) #[] lb:=by rw [ha.eval]; exact hg
 refine ⟨w.heap.size+1,[coll w.heap.size],w2,{ target:=.fn (.func gf) lb,args:=#[.func (.yield (w.heap.size+1)) #[] #[]] },w2,gf,#[.func (.yield (w.heap.size+1)) #[] #[]]++lb,w2,hW2,?_,fun _ _=>trivial,?_,fun h=>(by cases h),calls_fen (rd:=none) ?_⟩
 ·simp only [resolve,hgv]
  simp [go_sem]
 ·have:=run_callFunc (P:=P) (w:=w2) (args:=#[.func (.yield (w.heap.size+1)) #[] #[]]++lb) hf hn hb
  simp [invoke,go_sem,this]
 have hmon:subM [tL] [ts,tL]=true:=by simp [subM]
 have hmon2:subM [ts] [ts,tL]=true:=by simp [subM]
 have hnc:([ts] : List Nat).contains tL=false:=by
  rw [← Bool.not_eq_true]
  intro h
  simp at h
  rw [h] at hne
  simp at hne
 refine Calls.mono (hit (w.heap.size+1)
  (fun q o w'=>R q o w'∧Ob o w' tL (w.heap.size+1) (.loop (rec .ready none))∧Ob o w' tL w.heap.size (.deferred (some [])))
  (fun o w' => ∃ c,X c o w'∧Ob o w' tL (w.heap.size+1) (.loop (rec .done (some (codeOf c))))∧Ob o w' tL w.heap.size (.deferred (some [])))
  o2 w2
  (fun q o w o' w' h s=>⟨hR q o w o' w' h.1 (s.weak hmon2),h.2.1.step s hnc,h.2.2.step s hnc⟩)
  (fun o w o' w' ⟨c,h1,h2,h3⟩ s=>⟨c,hX c o w o' w' h1 (s.weak hmon2),h2.step s hnc,h3.step s hnc⟩)
  ?_ ⟨hR0,hL2,hD2⟩ hC0) ?_
 ·
  rintro q x o3 w3 hx ⟨hr3,hl3,hd3⟩ hc3
  have hy:=run_yield (P:=P) (args:=encs x) hl3.heap (by rw [hrec]; exact hps x)
  rw [hrec] at hy
  refine ⟨fid,_,assign,body,hy,roundIn_of_wpIn trivial ?_⟩
  have hfr0:=(ha.round (w.heap.size+1)).updL (ps.zip (encs x)).toList (by
   rw [List.all_eq_true]
   rintro ⟨p,v⟩ hp
   have hp1:p ∈ ps.toList:=by
    rw [Array.toList_zip] at hp
    exact (List.of_mem_zip hp).1
   have:=(Array.all_eq_true'.1 hpn) p (by simpa using hp1)
   exact this)
  have hfr1:Fr n (.round (w.heap.size+1)) ⟨(updL ρ (ps.zip (encs x)).toList).get,[]⟩ { tmps:=(ps.zip (encs x)).foldl (fun t (p,v)=>t.setIfInBounds p v) a.tmps,defers:=[] }:=by
   have e1:SX.updL (⟨ρ.get,[]⟩ : Env) (ps.zip (encs x)).toList=⟨(updL ρ (ps.zip (encs x)).toList).get,[]⟩:=by
    have key:∀ (l:List (Nat×Value)) (g:Nat→Value) (d1:List Deferred),SX.updL (⟨g,[]⟩ : Env) l=⟨(updL (⟨g,d1⟩ : Env) l).get,[]⟩:=by
     intro l
     induction l with
     | nil=>intro g d1; rfl
     | cons pv l ih=>intro g d1; exact ih _ _
    exact key _ _ ρ.ds
   rw [e1] at hfr0
   have e2:(ps.zip (encs x)).toList.foldl (fun (t:Array Value) q=>t.setIfInBounds q.1 q.2) a.tmps=(ps.zip (encs x)).foldl (fun t (p,v)=>t.setIfInBounds p v) a.tmps:=by
    rw [← Array.foldl_toList]
   rw [← e2]
   exact hfr0
  rw [hz x] at hfr1
  have hgo:=(hbody (w.heap.size+1) w.heap.size _ (.loop { rec .ready none with state:=.busy }) q x o3 w3 hx hr3 hc3 hl3 hd3).out _ hfr1
  refine wpIn_mono hgo (fun e a1 w4 hq=>?_)
  cases e with
  | normal =>
   obtain ⟨ρ1,hf1,o4,hl4,hd4,hgo4⟩:=hq
   have hb4:=run_beginRound (P:=P) hl4.heap (by rw [hrec])
   obtain ⟨s5,hl5⟩:=step_put hl4 (.loop { rec .ready none with state:=.busy })
   have hd5:Ob o4 (w4.putObj (w.heap.size+1) (.loop { rec .ready none with state:=.busy })) tL w.heap.size (.deferred (some [])):=by
    refine ⟨hd4.tag,?_⟩
    rw [World.putObj_heap_other (by omega)]
    exact hd4.heap
   refine ⟨_,hb4,wpIn_mono ((hgo4 _ s5 hl5 hd5).out _ hf1) (fun e a2 w6 hq2=>?_)⟩
   have fin:∀ (jump:Option Code) (o6:Tags),Ob o6 w6 tL (w.heap.size+1) (.loop { rec .ready none with state:=.busy })→Ob o6 w6 tL w.heap.size (.deferred (some [])) →
     (Instr.endRound (w.heap.size+1) jump).run P w6 = .ok (.bool jump.isNone) (w6.putObj (w.heap.size+1) (.loop (rec (if jump.isNone then .ready else .done) jump))) ∧
     Step o6 w6 o6 (w6.putObj (w.heap.size+1) (.loop (rec (if jump.isNone then .ready else .done) jump))) [tL] ∧
     Ob o6 (w6.putObj (w.heap.size+1) (.loop (rec (if jump.isNone then .ready else .done) jump))) tL (w.heap.size+1) (.loop (rec (if jump.isNone then .ready else .done) jump)) ∧
     Ob o6 (w6.putObj (w.heap.size+1) (.loop (rec (if jump.isNone then .ready else .done) jump))) tL w.heap.size (.deferred (some [])):=by
    intro jump o6 hl6 hd6
    have h1:=run_endRound (P:=P) jump hl6.heap
    rw [hrec] at h1 ⊢
    obtain ⟨s7,hl7⟩:=step_put hl6 (.loop { state:=if jump.isNone then .ready else .done,pending:=jump,fn:=fid,tmps:=a.tmps,params:=ps,assign,body,defers:=w.heap.size })
    refine ⟨h1,s7,hl7,hd6.tag,?_⟩
    rw [World.putObj_heap_other (by omega)]
    exact hd6.heap
   cases e with
   | normal =>
    obtain ⟨ρ2,hf2,o6,hl6,hd6,hr6,hc6⟩:=hq2
    obtain ⟨h1,s7,hl7,hd7⟩:=fin none o6 hl6 hd6
    exact ⟨_,_,h1,o6,.inl ⟨rfl,⟨hR _ _ _ _ _ hr6 (s7.weak hmon),hl7,hd7⟩,hC _ _ _ _ _ hc6 s7⟩⟩
   | ret =>
    obtain ⟨ρ2,hf2,o6,hl6,hd6,hx6⟩:=hq2
    obtain ⟨h1,s7,hl7,hd7⟩:=fin (some .ret) o6 hl6 hd6
    exact ⟨_,_,h1,o6,.inr ⟨rfl,none,hX _ _ _ _ _ hx6 (s7.weak hmon),hl7,hd7⟩⟩
   | exit i =>
    obtain ⟨ρ2,hf2,o6,hl6,hd6,hx6⟩:=hq2
    obtain ⟨h1,s7,hl7,hd7⟩:=fin (some (.exit i)) o6 hl6 hd6
    exact ⟨_,_,h1,o6,.inr ⟨rfl,some i,hX _ _ _ _ _ hx6 (s7.weak hmon),hl7,hd7⟩⟩
   | goto l=>obtain ⟨ρ2,hf2,hk⟩:=hq2; exact hk.elim
   | panic c=>obtain ⟨ρ2,hf2,hk⟩:=hq2; exact hk.elim
   | outgrown=>exact hq2.elim
  | ret=>obtain ⟨ρ2,hf2,hk⟩:=hq; exact hk.elim
  | exit i=>obtain ⟨ρ2,hf2,hk⟩:=hq; exact hk.elim
  | goto l=>obtain ⟨ρ2,hf2,hk⟩:=hq; exact hk.elim
  | panic c=>obtain ⟨ρ1,hf1,hk⟩:=hq; exact hk.elim
  | outgrown=>exact hq.elim
 ·
  rintro e w3 ⟨⟨v,rfl⟩,o3,(⟨⟨hr3,hl3,hd3⟩,hc3⟩|⟨c,hx3,hl3,hd3⟩)⟩
  ·have h1:=run_endLoop (P:=P) hl3.heap (by rw [hrec]; simp)
   obtain ⟨s4,hl4⟩:=step_put hl3 (.loop { rec .ready none with state:=.exhausted })
   have hd4:Ob o3 (w3.putObj (w.heap.size+1) (.loop { rec .ready none with state:=.exhausted })) tL w.heap.size (.deferred (some [])):=by
    refine ⟨hd3.tag,?_⟩
    rw [World.putObj_heap_other (by omega)]
    exact hd3.heap
   refine ⟨none,_,(by rw [h1,hrec]),?_⟩
   rw [hrec] at *
   exact ⟨_,hfr _,hdone _ _ _ (hR _ _ _ _ _ hr3 (s4.weak hmon)) (hC _ _ _ _ _ hc3 s4) hd4 (Nat.le_refl _)⟩
  ·have h1:=run_endLoop (P:=P) hl3.heap (by rw [hrec]; simp)
   obtain ⟨s4,hl4⟩:=step_put hl3 (.loop { rec .done (some (codeOf c)) with state:=.exhausted })
   have hd4:Ob o3 (w3.putObj (w.heap.size+1) (.loop { rec .done (some (codeOf c)) with state:=.exhausted })) tL w.heap.size (.deferred (some [])):=by
    refine ⟨hd3.tag,?_⟩
    rw [World.putObj_heap_other (by omega)]
    exact hd3.heap
   refine ⟨some (codeOf c),_,(by rw [h1,hrec]),?_⟩
   rw [hrec] at *
   have hk:=hexit c _ _ _ (hX _ _ _ _ _ hx3 (s4.weak hmon)) hd4 (Nat.le_refl _)
   cases c with
   | none=>exact wpIn_ret ⟨_,hfr _,hk⟩
   | some i=>exact wpIn_exit ⟨_,hfr _,hk⟩
end range
end Go.Proofs.YtpmkkhkphddfeaaGreatDoor.SX
set_option linter.unusedVariables false
set_option linter.unusedSimpArgs false
namespace Go.Proofs.YtpmkkhkphddfeaaGreatDoor.SX
open Go Go.RowKit
section arrays
variable {P:Program} {n:Nat} {md:Md} {K:Exit→Env→World→Prop} {Kn:Env→World→Prop} {ρ:Env} {w:World} {o:Tags} {d:Nat} {t:TypeId} {p:String} {e:Array Edge} {g:Option (Nat×Bool)}
theorem eqItems_map {α:Type} [BEq α] [LawfulBEq α] {enc:α→Value} {d:Nat} {e:TypeId} {de:TypeDesc} (hed:P.underlying e=some de) (hp:plainT de=true) (h1:∀ a b,EqR P (d+1) e (enc a) (enc b) (a == b)) (xs ys:List α) (hl:xs.length=ys.length) (w:World) :
  ∀ (m k:Nat),k+m=xs.length→(Op.eqItems (d+1) e 1 (xs.map enc).toArray (ys.map enc).toArray (List.range' k m)).run P w = .ok (xs.drop k == ys.drop k) w
 | 0,k,h=>by
  rw [List.drop_eq_nil_of_le (by omega),List.drop_eq_nil_of_le (by omega)]
  simp [Op.eqItems]
 | m+1,k,h=>by
  have hx:k < xs.length:=by omega
  have hy:k < ys.length:=by omega
  have px:(part e (xs.map enc).toArray (k * 1)).run P w = .ok (enc xs[k]) w:=PartR.one hed hp (by simp [hx]) w
  have py:(part e (ys.map enc).toArray (k * 1)).run P w = .ok (enc ys[k]) w:=PartR.one hed hp (by simp [hy]) w
  rw [List.range'_succ,drop_cons hx,drop_cons hy]
  simp only [Op.eqItems,Sem.run_bind,px,py,h1 _ _ w,Result.andThen_ok,List.cons_beq_cons]
  cases hc:xs[k] == ys[k] with
  | false=>simp
  | true =>
   simp only [Bool.not_true,Bool.false_eq_true,if_false,Bool.true_and]
   exact eqItems_map hed hp h1 xs ys hl w m (k+1) (by omega)
theorem EqR.arr {α:Type} [BEq α] [LawfulBEq α] {enc:α→Value} {d:Nat} {t e:TypeId} {m:Nat} {de:TypeDesc} {xs ys:List α} (hT:P.underlying t=some (.array m e)) (hs:(P.info? e).map (·.size)=some 1) (hed:P.underlying e=some de) (hp:plainT de=true)
  (hl:xs.length=m) (hl':ys.length=m) (h1:∀ a b,EqR P (d+1) e (enc a) (enc b) (a == b)) : EqR P (d+2) t (.agg (xs.map enc).toArray) (.agg (ys.map enc).toArray) (xs == ys):=fun w=>by
 obtain ⟨i,hi,hsz⟩:=Option.map_eq_some_iff.1 hs
 have hc:P.cellsOf e=1:=by simp [Program.cellsOf,hi,hsz]
 rw [show d+2=(d+1)+1 from rfl,run_equalIn_array w (d+1) _ _ hT hi,hc,List.range_eq_range']
 have:=eqItems_map (d:=d) hed hp h1 xs ys (by omega) w m 0 (by omega)
 simpa using this
end arrays
section tabs
variable {P:Program} {ρ:Env} {w:World}
theorem ex_neg_u8 {xt t:TypeId} {x:Operand} {a:UInt8} (hx:ev ρ x=enc8 a) : Ex P ρ (.unOp .neg xt x) t w (enc8 (0 - a)) w:=fun _ _ _ _=>by
 have h:IntKind.u8.wrap (0 - (a.toNat:Int))=((0 - a).toNat:Int):=by
  have:=a.toNat_lt
  rw [wrap_u8,UInt8.toNat_sub]
  have h0:(0:UInt8).toNat=0:=rfl
  omega
 simp only [execOp,hx,enc8,Op.unary,Op.intArith,Sem.run_bind,Sem.run_pure,Result.andThen_ok,h]
theorem ex_neg_u32 {xt t:TypeId} {x:Operand} {a:UInt32} (hx:ev ρ x=enc32 a) : Ex P ρ (.unOp .neg xt x) t w (enc32 (0 - a)) w:=fun _ _ _ _=>by
 have h:IntKind.u32.wrap (0 - (a.toNat:Int))=((0 - a).toNat:Int):=by
  have:=a.toNat_lt
  rw [wrap_u32,UInt32.toNat_sub]
  have h0:(0:UInt32).toNat=0:=rfl
  omega
 simp only [execOp,hx,enc32,Op.unary,Op.intArith,Sem.run_bind,Sem.run_pure,Result.andThen_ok,h]
theorem ex_neg_u64 {xt t:TypeId} {x:Operand} {a:UInt64} (hx:ev ρ x=enc64 a) : Ex P ρ (.unOp .neg xt x) t w (enc64 (0 - a)) w:=fun _ _ _ _=>by
 have h:IntKind.u64.wrap (0 - (a.toNat:Int))=((0 - a).toNat:Int):=by
  have:=a.toNat_lt
  rw [wrap_u64,UInt64.toNat_sub]
  have h0:(0:UInt64).toNat=0:=rfl
  omega
 simp only [execOp,hx,enc64,Op.unary,Op.intArith,Sem.run_bind,Sem.run_pure,Result.andThen_ok,h]
theorem bin_and_i64 {a b:Int} {T:TypeId}:Bin P .and T (.int .i64 a) (.int .i64 b) (.int .i64 (andI a b)):=fun x y w=>by
 simp only [eqGuard,binOp,Op.intBits,Sem.run_bind,Sem.run_pure,Result.andThen_ok,wrap_i64]
 rfl
theorem bin_or_i64 {a b:Int} {T:TypeId}:Bin P .or T (.int .i64 a) (.int .i64 b) (.int .i64 (orI a b)):=fun x y w=>by
 simp only [eqGuard,binOp,Op.intBits,Sem.run_bind,Sem.run_pure,Result.andThen_ok,wrap_i64]
 rfl
end tabs
section fn
variable {P:Program}
theorem run_eqFnN (d:Nat) {t:TypeId} {sg:Array TypeId} {rs:Array TypeId} {vd:Bool} {f:Fn} {a b:Array Value} (hT:P.underlying t=some (.func sg rs vd)) (w:World) : (Op.equalIn (d+1) t (.func f a b) .nilFunc).run P w = .ok false w:=by simp [Op.equalIn,run_underlying hT]
theorem bin_eql_fnN {t:TypeId} {sg:Array TypeId} {rs:Array TypeId} {vd:Bool} {f:Fn} {a b:Array Value} (hT:P.underlying t=some (.func sg rs vd)) : Bin P .eql t (.func f a b) .nilFunc (.bool false):=fun x y w=>by
 have:=run_eqFnN (P:=P) 9999 (f:=f) (a:=a) (b:=b) hT w
 simp only [binOp,eqGuard,Op.equal,Op.maxDepth]; simp [this]
theorem bin_neq_fnN {t:TypeId} {sg:Array TypeId} {rs:Array TypeId} {vd:Bool} {f:Fn} {a b:Array Value} (hT:P.underlying t=some (.func sg rs vd)) : Bin P .neq t (.func f a b) .nilFunc (.bool true):=fun x y w=>by
 have:=run_eqFnN (P:=P) 9999 (f:=f) (a:=a) (b:=b) hT w
 simp only [binOp,eqGuard,Op.equal,Op.maxDepth]; simp [this]
end fn
section yield
variable {P:Program} {n:Nat} {K:Exit→Env→World→Prop} {Kn:Env→World→Prop} {ρ:Env} {w:World} {ops:Array Oper} {rest:List Oper}
structure WY (P:Program) (n:Nat) (ops:Array Oper) (l:List Oper) (K:Exit→Env→World→Prop) (ρ:Env) (w:World) : Prop where
 out:∀ a,Fr n .plain ρ a→wpListIn Fence.wide 0 P ops (lift n .plain K) l a w
theorem WY.nil (h:K .normal ρ w) : WY P n ops [] K ρ w:=⟨fun a ha=>⟨ρ,ha,h⟩⟩
theorem WY.ex {d:Nat} {op:Op} {t:TypeId} {p:String} {e:Array Edge} {v:Value} {w':World} (hd:Nat.blt d n=true) (hr:Ex P ρ op t w v w') (k:WY P n ops rest K (upd ρ d v) w') :
  WY P n ops ({ dst:=some d,op:=op,type:=t,pos:=p,after:=e,guard:=none } :: rest) K ρ w:=⟨fun a ha=>by
 refine wpListIn_plain rfl (fun X hX=>⟨fun _ _=>trivial,?_⟩)
 have hr':=hr (some d) p e none
 rw [show Fence.wide.round=none from rfl,Oper.semAt_none,ha.eval,hr']
 exact hX _ _ (k.out _ (ha.put hd v))⟩
theorem WY.op {o:Oper} (hg:o.guard=none) (hnd:∀ c,o.op≠.defer c) (h:OW P n .plain o (WY P n ops rest K) K ρ w) : WY P n ops (o :: rest) K ρ w:=⟨fun a ha=>by
 refine wpListIn_plain hg (fun X hX=>?_)
 have hw:=h.out a ha X (fun a' w' ⟨ρ',hf,hk⟩=>hX _ _ (hk.out _ hf))
 unfold Oper.wp at hw
 refine ⟨fun _ _=>trivial,?_⟩
 rw [show Fence.wide.round=none from rfl,Oper.semAt_none]
 generalize (execOp a.eval o).run P w=r at hw
 cases r with
 | ok x w' =>
  cases x with
  | value v=>exact hw
  | skip=>exact hw
  | defer d=>exact hw
  | enter f args =>
   refine ⟨fun h_=>(by cases h_),(callsIn_wide (n:=0 - 1)).2 (Calls.mono hw fun e w'' he=>?_)⟩
   cases e with
   | returned v=>exact he
   | panicked c=>exact he
   | outgrown=>exact he
  | row row args=>exact ⟨fun h_=>(by cases h_),rows_fen (rd:=none) (Rows.mono hw fun v w'' he=>he)⟩
  | round l f tmps assign body=>exact hw.elim
  | _=>exact hw.elim
 | halt x w'=>cases x <;> first | exact hw | exact hw.elim⟩
theorem WY.yield {d:Nat} {x:Operand} {xs:List Operand} {ts:Array TypeId} {t:TypeId} {p:String} {e:Array Edge} {l:Nat} {R:Ending→World→Prop} (avs:List Value) (hd:Nat.blt d n=true) (hx:ev ρ x = .func (.yield l) #[] #[]) (ha:xs.map (ev ρ)=avs)
  (hy:YieldAt Fence.wide 0 P l avs.toArray w R) (k:∀ e' w',R e' w'→∃ v,e' = .returned v∧WY P n ops rest K (upd ρ d v) w') :
  WY P n ops ({ dst:=some d,op:=.call { callee:=.value x,args:=xs.toArray,argTypes:=ts },type:=t,pos:=p,after:=e,guard:=none } :: rest) K ρ w:=⟨fun a hfa=>by
 refine wpListIn_plain rfl (fun X hX=>⟨fun _ _=>trivial,?_⟩)
 obtain ⟨fn,tmps,assign,body,hyy,hR⟩:=hy
 have hr:(execOp (ev ρ) { dst:=some d,op:=.call { callee:=.value x,args:=xs.toArray,argTypes:=ts },type:=t,pos:=p,after:=e,guard:=none }).run P w = .ok (.round l fn tmps assign body) w:=by
  simp [execOp,resolve,Deferred.ofValue,hx,invoke,ha,hyy]
 rw [show Fence.wide.round=none from rfl,Oper.semAt_none,hfa.eval,hr]
 refine ⟨fun h_=>(by cases h_),RoundIn.mono hR fun e' w' he=>?_⟩
 obtain ⟨v,rfl,hk⟩:=k e' w' he
 exact hX _ _ (hk.out _ (hfa.put hd v))⟩
end yield
end Go.Proofs.YtpmkkhkphddfeaaGreatDoor.SX
set_option linter.unusedVariables false
set_option linter.unusedSimpArgs false
namespace Go.Proofs.YtpmkkhkphddfeaaGreatDoor.SX
open Go
def splitB (c:UInt8) : List UInt8→List (List UInt8)
 | []=>[[]]
 | x :: t=>bif x == c then [] :: splitB c t else match splitB c t with
  | []=>[[x]]
  | p :: ps=>(x :: p) :: ps
def restB (c:UInt8) (s:List UInt8) : Nat→List UInt8
 | 0=>s
 | q+1=>(restB c s q).drop ((Lib.indexByte (restB c s q) c).toNat+1)
end Go.Proofs.YtpmkkhkphddfeaaGreatDoor.SX
