import Derived.Test.YtpmkkhkphddfeaaGreatDoorL1
import Derived.Test.YtpmkkhkphddfeaaGreatDoorXAD
set_option linter.unusedVariables false
set_option linter.unusedSimpArgs false
namespace Go.Proofs.YtpmkkhkphddfeaaGreatDoor.X
open Go Go.RowKit Go.Proofs.YtpmkkhkphddfeaaGreatDoor.SX
def good:List T_api_Node→List T_api_Node→Bool
 | _,[]=>true
 | N,x :: r=>decide (fitN N x=0) && (decide (numN N x=none) && (decide (N.length < 1024) && good (N++[x]) r))
theorem put_cases (N:List T_api_Node) (x:T_api_Node) : (fitN N x=0∧numN N x=none∧N.length < 1024∧putN N x=((N.length:Int),0,N++[x]))∨(¬ (fitN N x=0∧numN N x=none∧N.length < 1024)∧((putN N x).2.1≠0∨((putN N x).2.1=0∧∃ i:Nat,i < N.length∧(putN N x).1=(i:Int)))):=by
 by_cases h:fitN N x=0
 ·cases hx:numN N x with
  | some i =>
   rw [putN_old h hx]
   exact .inr ⟨fun h=>(by cases h.2.1),.inr ⟨rfl,i,numN_lt hx,rfl⟩⟩
  | none =>
   by_cases h2:1024≤N.length
   ·rw [putN_full h hx h2]
    exact .inr ⟨fun h=>(by omega),.inl (show (30:Int)≠0 from by decide)⟩
   ·rw [putN_new h hx (by omega)]
    exact .inl ⟨h,rfl,by omega,rfl⟩
 ·rw [putN_bad h]
  exact .inr ⟨fun h'=>h h'.1,.inl h⟩
theorem good_cons {N:List T_api_Node} {x:T_api_Node} {r:List T_api_Node}:good N (x :: r)=true↔(fitN N x=0∧numN N x=none∧N.length < 1024)∧good (N++[x]) r=true:=by
 rw [good.eq_2,Bool.and_eq_true,Bool.and_eq_true,Bool.and_eq_true,decide_eq_true_eq,decide_eq_true_eq,decide_eq_true_eq]
 constructor
 ·rintro ⟨a,b,c,d⟩; exact ⟨⟨a,b,c⟩,d⟩
 ·rintro ⟨⟨a,b,c⟩,d⟩; exact ⟨a,b,c,d⟩
theorem rfrom_l1 (k:Nat) (a:List T_api_Node) (ha:a.length≤100000000) (hb:∀ x ∈ a,x.f_Name.length≤100000000∧x.f_Name.length < k) (hk:1025≤k) : ∀ (d kk i:Nat),a.length - i≤d→d < kk→i≤a.length→i≤1024 →
  (good (a.take i) (a.drop i)=true→dictumref03_From.l1 k a kk (i:Int) ⟨a.take i⟩=some (.inr ⟨a⟩))∧(good (a.take i) (a.drop i)=false→∃ e:Int,e≠0∧dictumref03_From.l1 k a kk (i:Int) ⟨a.take i⟩=some (.inl (.ex e))):=by
 intro d
 induction d with
 | zero =>
  intro kk i h1 h2 h3 h4
  obtain ⟨q,rfl⟩ : ∃ q,kk=q+1:=⟨kk - 1,by omega⟩
  rw [dictumref03_From.l1.eq_2,decide_eq_false (by omega:¬ (i:Int) < (a.length:Int)),List.drop_eq_nil_of_le (by omega),List.take_of_length_le (by omega)]
  exact ⟨fun _=>rfl,fun h=>by cases h⟩
 | succ d ih =>
  intro kk i h1 h2 h3 h4
  obtain ⟨q,rfl⟩ : ∃ q,kk=q+1:=⟨kk - 1,by omega⟩
  by_cases h:i < a.length
  ·have htl:(a.take i).length=i:=by rw [List.length_take]; omega
   have hx:=hb a[i] (List.getElem_mem h)
   have hp:=rput_f k (a.take i) a[i] (by rw [htl]; exact h4) (by omega) hx.2 hk
   rw [dictumref03_From.l1.eq_2,decide_eq_true (by omega:(i:Int) < (a.length:Int)),cond_true,ix_nat,List.getElem?_eq_getElem h,bind_some',hp,bind_some',drop_cons h]
   simp only
   rcases put_cases (a.take i) a[i] with ⟨p1,p2,p3,p4⟩|⟨p1,p2⟩
   ·have ht:a.take i++[a[i]]=a.take (i+1):=(List.take_append_getElem h)
    rw [htl] at p3 p4
    obtain ⟨g1,g2⟩:=ih q (i+1) (by omega) (by omega) h p3
    rw [p4,ht]
    simp only
    rw [show ((0:Int) != 0)=false from rfl,cond_false,show (((i:Nat) : Int) != (i:Int))=false from by rw [bne_self_eq_false],cond_false,wsucc i (by omega)]
    refine ⟨fun hg=>g1 ?_,fun hg=>g2 ?_⟩
    ·have:=(good_cons.1 hg).2; rw [ht] at this; exact this
    ·rw [← Bool.not_eq_true] at hg ⊢
     intro hc
     exact hg (good_cons.2 ⟨⟨p1,p2,by rw [htl]; exact p3⟩,by rw [ht]; exact hc⟩)
   ·have hg:good (a.take i) (a[i] :: a.drop (i+1))=false:=by
     rw [← Bool.not_eq_true]
     exact fun hc=>p1 (good_cons.1 hc).1
    refine ⟨fun hc=>(by rw [hg] at hc; cases hc),fun _=>?_⟩
    rcases p2 with p2 | ⟨p2,j,p3,p4⟩
    ·rw [show ((putN (a.take i) a[i]).2.1 != 0)=true from by rw [bne_iff_ne]; exact p2]
     exact ⟨_,p2,rfl⟩
    ·rw [p2,show ((0:Int) != 0)=false from rfl,cond_false,p4,show (((j:Nat) : Int) != (i:Int))=true from by rw [bne_iff_ne]; omega]
     exact ⟨_,by decide,rfl⟩
  ·rw [dictumref03_From.l1.eq_2,decide_eq_false (by omega:¬ (i:Int) < (a.length:Int)),List.drop_eq_nil_of_le (by omega),List.take_of_length_le (by omega)]
   exact ⟨fun _=>rfl,fun h=>by cases h⟩
theorem from_l1 (k:Nat) (a:List T_api_Node) (ha:a.length≤100000000) (hb:∀ x ∈ a,x.f_Name.length≤100000000∧x.f_Name.length < k) (hk:1025≤k) : ∀ (d kk i:Nat) (m:MapN),a.length - i≤d→d < kk→i≤a.length→Tab (a.take i) m →
  good (a.take i) (a.drop i)=true→∃ m',formula_From.l1 k a kk (i:Int) ⟨a.take i⟩ m=some (.inr (⟨a⟩,m'))∧Tab a m':=by
 intro d
 induction d with
 | zero =>
  intro kk i m h1 h2 h3 hT hg
  obtain ⟨q,rfl⟩ : ∃ q,kk=q+1:=⟨kk - 1,by omega⟩
  rw [List.take_of_length_le (by omega)] at hT ⊢
  rw [formula_From.l1.eq_2,decide_eq_false (by omega:¬ (i:Int) < (a.length:Int))]
  exact ⟨m,rfl,hT⟩
 | succ d ih =>
  intro kk i m h1 h2 h3 hT hg
  obtain ⟨q,rfl⟩ : ∃ q,kk=q+1:=⟨kk - 1,by omega⟩
  by_cases h:i < a.length
  ·have htl:(a.take i).length=i:=by rw [List.length_take]; omega
   have hx:=hb a[i] (List.getElem_mem h)
   obtain ⟨m',hp,hT'⟩:=put_f k (a.take i) a[i] m hT (by omega) hx.2
   rw [drop_cons h] at hg
   obtain ⟨⟨q1,q2,q3⟩,hg2⟩:=good_cons.1 hg
   rcases put_cases (a.take i) a[i] with ⟨p1,p2,p3,p4⟩|⟨p1,p2⟩
   ·have ht:a.take i++[a[i]]=a.take (i+1):=(List.take_append_getElem h)
    rw [htl] at p3 p4
    rw [p4] at hp hT'
    simp only at hp hT'
    rw [ht] at hT' hg2 hp
    obtain ⟨m2,g1,g2⟩:=ih q (i+1) m' (by omega) (by omega) h hT' hg2
    refine ⟨m2,?_,g2⟩
    rw [formula_From.l1.eq_2,decide_eq_true (by omega:(i:Int) < (a.length:Int)),cond_true,ix_nat,List.getElem?_eq_getElem h,bind_some',hp,bind_some']
    simp only
    rw [show ((0:Int) == 0)=true from rfl,cond_true,bind_some',show (((i:Nat) : Int) != (i:Int))=false from by rw [bne_self_eq_false],cond_false,bind_some',show ((0:Int) != 0)=false from rfl,cond_false,wsucc i (by omega)]
    exact g1
   ·exact absurd ⟨q1,q2,q3⟩ p1
  ·rw [List.take_of_length_le (by omega)] at hT ⊢
   rw [formula_From.l1.eq_2,decide_eq_false (by omega:¬ (i:Int) < (a.length:Int))]
   exact ⟨m,rfl,hT⟩
def rowsOf (a:List T_api_Node) : List T_api_Node:=bif good [] a then a else []
theorem tables_f (k:Nat) (a:List T_api_Node) (ha:a.length≤100000000) (hb:∀ x ∈ a,x.f_Name.length≤100000000∧x.f_Name.length < k) (hk:1025≤k) (hk2:a.length < k) : ∃ m,dictumlaw04_Tables.f k a=some ((⟨rowsOf a⟩,m),⟨rowsOf a⟩)∧Tab (rowsOf a) m:=by
 unfold dictumlaw04_Tables.f dictumlaw03_Both.f dictumref03_From.f formula_From.f rowsOf
 obtain ⟨g1,g2⟩:=rfrom_l1 k a ha hb hk a.length k 0 (by omega) hk2 (by omega) (by omega)
 rw [chk_of (decide_eq_true (by rw [List.length_nil]; omega)),bind_some']
 rw [List.take_zero,List.drop_zero] at g1 g2
 cases hg:good [] a with
 | true =>
  rw [show dictumref03_From.l1 k a k 0 (⟨([] : List T_api_Node)⟩ : T_dictumref03_T)=_ from g1 hg]
  obtain ⟨m',h1,h2⟩:=from_l1 k a ha hb hk a.length k 0 [] (by omega) hk2 (by omega) tab_nil (by rw [List.take_zero,List.drop_zero]; exact hg)
  refine ⟨m',?_,h2⟩
  show ((((formula_From.l1 k a k 0 ⟨[]⟩ ([] : MapN)).bind _).bind _)).bind _=_
  rw [show formula_From.l1 k a k 0 ⟨[]⟩ ([] : MapN)=_ from h1]
  rfl
 | false =>
  obtain ⟨e,e0,he⟩:=g2 hg
  rw [show dictumref03_From.l1 k a k 0 (⟨([] : List T_api_Node)⟩ : T_dictumref03_T)=_ from he]
  refine ⟨[],?_,tab_nil⟩
  simp only [bind_some']
  rw [show (e != 0)=true from by rw [bne_iff_ne]; exact e0]
  rfl
end Go.Proofs.YtpmkkhkphddfeaaGreatDoor.X
set_option linter.unusedVariables false
set_option linter.unusedSimpArgs false
namespace Go.Proofs.YtpmkkhkphddfeaaGreatDoor.X
open Go Go.RowKit Go.Proofs.YtpmkkhkphddfeaaGreatDoor.SX
theorem same_l1' (k:Nat) (a:List T_api_Node) (ha:a.length≤100000000) : ∀ (d kk i:Nat),a.length - i≤d→d < kk→dictumref03_Same.l1 k a a kk (i:Int)=some (.inr ()):=by
 intro d
 induction d with
 | zero =>
  intro kk i h1 h2
  obtain ⟨q,rfl⟩ : ∃ q,kk=q+1:=⟨kk - 1,by omega⟩
  rw [dictumref03_Same.l1.eq_2,decide_eq_false (by omega:¬ (i:Int) < (a.length:Int))]
  rfl
 | succ d ih =>
  intro kk i h1 h2
  obtain ⟨q,rfl⟩ : ∃ q,kk=q+1:=⟨kk - 1,by omega⟩
  by_cases h:i < a.length
  ·rw [dictumref03_Same.l1.eq_2,decide_eq_true (by omega:(i:Int) < (a.length:Int)),cond_true,ix_nat,List.getElem?_eq_getElem h,bind_some',bind_some',eqbN,decide_eq_true rfl,wsucc i (by omega)]
   exact ih q (i+1) (by omega) (by omega)
  ·rw [dictumref03_Same.l1.eq_2,decide_eq_false (by omega:¬ (i:Int) < (a.length:Int))]
   rfl
theorem same_refl (k:Nat) (a:List T_api_Node) (ha:a.length≤100000000) (hk:a.length < k) : dictumref03_Same.f k a a=some true:=by
 unfold dictumref03_Same.f
 rw [bne_self_eq_false,cond_false,show dictumref03_Same.l1 k a a k 0=_ from same_l1' k a ha a.length k 0 (by omega) hk]
 rfl
theorem clone_f (a:List T_api_Node) (ha:a.length≤100000000) : slices_Clone_api_Node.f a=some a:=by
 unfold slices_Clone_api_Node.f
 rw [chk_of (decide_eq_true (by rw [List.length_nil]; omega)),bind_some',List.nil_append]
 cases a with
 | nil=>rfl
 | cons x r=>rfl
theorem rows_f (N:List T_api_Node) (m:MapN) (hN:N.length≤1024) : formula_Table_Rows.f ⟨N⟩ m=some N:=by
 unfold formula_Table_Rows.f
 rw [show formula_Table_alive.f ⟨N⟩ m=some true from rfl,bind_some',clone_f N (by omega)]
 rfl
end Go.Proofs.YtpmkkhkphddfeaaGreatDoor.X
set_option linter.unusedVariables false
set_option linter.unusedSimpArgs false
namespace Go.Proofs.YtpmkkhkphddfeaaGreatDoor.X
open Go Go.RowKit Go.Proofs.YtpmkkhkphddfeaaGreatDoor.SX
theorem like_f (k:Nat) (N:List T_api_Node) (m:MapN) (hN:N.length≤1024) (hk:1025≤k) : dictumlaw03_Like.f k ⟨N⟩ ⟨N⟩ m=some true:=by
 unfold dictumlaw03_Like.f
 rw [rows_f N m hN,bind_some',same_refl k N (by omega) (by omega),bind_some',cond_true,len_f,bind_some',beq_self_eq_true]
end Go.Proofs.YtpmkkhkphddfeaaGreatDoor.X
set_option linter.unusedVariables false
set_option linter.unusedSimpArgs false
namespace Go.Proofs.YtpmkkhkphddfeaaGreatDoor.X
open Go Go.RowKit Go.Proofs.YtpmkkhkphddfeaaGreatDoor.SX
def tok0:T_api_Token:=⟨0,[],0,⟨0,0,0⟩⟩
structure PS where
 ts:List T_api_Token
 nm:Nat
 full:Bool
 N:List T_api_Node
def hd (s:PS) : T_api_Token:=s.ts.headD tok0
def signB (t:T_api_Token) (x:List UInt8) : Bool:=t.f_Kind == 3 && t.f_Text == x
def ctB (t:T_api_Token) : Bool:=t.f_Kind == 1 || (t.f_Kind == 3 && (t.f_Text == [126] || (t.f_Text == [38] || (t.f_Text == [124] || (t.f_Text == [45,62] || t.f_Text == [60,45,62])))))
abbrev PE:=T_api_Fault×List T_api_Node
abbrev PO:=Option (Sum PE (Int×PS))
def fl (s:PS) (c:Int) : PE:=(⟨c,(hd s).f_At⟩,s.N)
def adv (s:PS) : PS:=⟨s.ts.tail,s.nm,s.full,s.N⟩
def tk4 (cnt:Bool) (s:PS) : Sum PE PS:=bif ctB (hd s) && cnt then (bif decide (s.nm=512) then .inl (fl s 40) else .inr ⟨s.ts.tail,s.nm+1,s.full,s.N⟩) else .inr (adv s)
def nd (s:PS) (x:T_api_Node) : Int×PS:=bif s.full then (0,s) else ((putN s.N x).1,⟨s.ts,s.nm,(putN s.N x).2.1 == 30,(putN s.N x).2.2⟩)
inductive Mod where
 | fo | im | jo | bo | si
 | jl (a:Int)
 | bl (a:Int)
def th (x:PO) (f:Int→PS→PO) : PO:=x.bind fun r=>match r with
 | .inl e=>some (.inl e)
 | .inr q=>f q.1 q.2
def tkn (cnt:Bool) (s:PS) (f:PS→PO) : PO:=match tk4 cnt s with
 | .inl e=>some (.inl e)
 | .inr q=>f q
def impN (s:PS) (a b:Int) : Int×PS:=nd s ⟨5,[],a,b⟩
def iffN (s:PS) (a b:Int) : Int×PS:=nd (impN (impN s a b).2 b a).2 ⟨3,[],(impN s a b).1,(impN (impN s a b).2 b a).1⟩
def botN (s:PS) : Int×PS:=nd s ⟨2,[],0,0⟩
def notN (s:PS) (a:Int) : Int×PS:=impN (botN s).2 a (botN s).1
def topN (s:PS) : Int×PS:=impN (botN s).2 (botN s).1 (botN s).1
def ps (cnt:Bool) : Nat→Mod→Nat→PS→PO
 | 0,_,_,_=>none
 | n+1,.fo,ns,s=>th (ps cnt n .im ns s) fun a s=>bif signB (hd s) [60,45,62] then tkn cnt s fun s=>th (ps cnt n .fo ns s) fun b s=>some (.inr (iffN s a b)) else some (.inr (a,s))
 | n+1,.im,ns,s=>th (ps cnt n .jo ns s) fun a s=>bif signB (hd s) [45,62] then tkn cnt s fun s=>th (ps cnt n .im ns s) fun b s=>some (.inr (impN s a b)) else some (.inr (a,s))
 | n+1,.jo,ns,s=>th (ps cnt n .bo ns s) fun a s=>ps cnt n (.jl a) ns s
 | n+1,.jl a,ns,s=>bif signB (hd s) [124] then tkn cnt s fun s=>th (ps cnt n .bo ns s) fun b s=>ps cnt n (.jl (nd s ⟨4,[],a,b⟩).1) ns (nd s ⟨4,[],a,b⟩).2 else some (.inr (a,s))
 | n+1,.bo,ns,s=>th (ps cnt n .si ns s) fun a s=>ps cnt n (.bl a) ns s
 | n+1,.bl a,ns,s=>bif signB (hd s) [38] then tkn cnt s fun s=>th (ps cnt n .si ns s) fun b s=>ps cnt n (.bl (nd s ⟨3,[],a,b⟩).1) ns (nd s ⟨3,[],a,b⟩).2 else some (.inr (a,s))
 | n+1,.si,ns,s =>
  bif signB (hd s) [126] then tkn cnt s fun s=>th (ps cnt n .si ns s) fun a s=>some (.inr (notN s a)) else
  bif signB (hd s) [40] then (bif decide (1024≤ns) then some (.inl (fl s 41)) else th (ps cnt n .fo (ns+1) (adv s)) fun a s=>bif signB (hd s) [41] then some (.inr (a,adv s)) else some (.inl (fl s 41))) else
  bif (hd s).f_Kind == 1 && (hd s).f_Text == [116,114,117,101] then tkn cnt s fun s=>some (.inr (topN s)) else
  bif (hd s).f_Kind == 1 && (hd s).f_Text == [102,97,108,115,101] then tkn cnt s fun s=>some (.inr (botN s)) else
  bif (hd s).f_Kind == 1 && wordB (hd s).f_Text then tkn cnt s fun q=>some (.inr (nd q ⟨1,(hd s).f_Text,0,0⟩)) else some (.inl (fl s 41))
theorem tk_len {cnt:Bool} {s q:PS} (h:tk4 cnt s = .inr q) : q.ts=s.ts.tail:=by
 unfold tk4 at h
 cases hc:(ctB (hd s) && cnt) with
 | true =>
  rw [hc,cond_true] at h
  cases hd:decide (s.nm=512) with
  | true=>rw [hd] at h; cases h
  | false=>rw [hd,cond_false] at h; injection h with h; rw [← h]
 | false=>rw [hc,cond_false] at h; injection h with h; rw [← h]; rfl
theorem nd_ts (s:PS) (x:T_api_Node) : (nd s x).2.ts=s.ts:=by
 unfold nd
 cases s.full <;> rfl
theorem impN_ts (s:PS) (a b:Int) : (impN s a b).2.ts=s.ts:=nd_ts _ _
theorem iffN_ts (s:PS) (a b:Int) : (iffN s a b).2.ts=s.ts:=by unfold iffN; rw [nd_ts,impN_ts,impN_ts]
theorem botN_ts (s:PS) : (botN s).2.ts=s.ts:=nd_ts _ _
theorem notN_ts (s:PS) (a:Int) : (notN s a).2.ts=s.ts:=by unfold notN; rw [impN_ts,botN_ts]
theorem topN_ts (s:PS) : (topN s).2.ts=s.ts:=by unfold topN; rw [impN_ts,botN_ts]
theorem hd_ne {s:PS} (h:(hd s).f_Kind≠0) : s.ts≠[]:=by
 intro e
 unfold hd at h
 rw [e] at h
 exact h rfl
theorem sign_ne {s:PS} {x:List UInt8} (h:signB (hd s) x=true) : s.ts≠[]:=by
 unfold signB at h
 rw [Bool.and_eq_true,beq_iff_eq] at h
 exact hd_ne (by rw [h.1]; decide)
theorem name_ne {s:PS} {b:Bool} (h:((hd s).f_Kind == 1 && b)=true) : s.ts≠[]:=by
 rw [Bool.and_eq_true,beq_iff_eq] at h
 exact hd_ne (by rw [h.1]; decide)
theorem tail_lt {α:Type} {l:List α} (h:l≠[]) : l.tail.length < l.length:=by
 cases l with
 | nil=>exact absurd rfl h
 | cons a t=>exact Nat.lt_succ_self _
def Fin (x:PO) (len d:Nat) : Prop:=∃ o,x=some o∧∀ a s',o = .inr (a,s')→s'.ts.length+d≤len
theorem Fin.th {x:PO} {f:Int→PS→PO} {len d e:Nat} (h:Fin x len d) (hf:∀ a s',s'.ts.length+d≤len→Fin (f a s') len e) : Fin (X.th x f) len e:=by
 obtain ⟨o,rfl,ho⟩:=h
 cases o with
 | inl e=>exact ⟨_,rfl,fun a s' h=>by cases h⟩
 | inr q=>exact hf q.1 q.2 (ho q.1 q.2 rfl)
theorem Fin.tkn {cnt:Bool} {s:PS} {f:PS→PO} {len e:Nat} (hf:∀ q:PS,q.ts=s.ts.tail→Fin (f q) len e) : Fin (X.tkn cnt s f) len e:=by
 unfold X.tkn
 cases h:tk4 cnt s with
 | inl e=>exact ⟨_,rfl,fun a s' h=>by cases h⟩
 | inr q=>exact hf q (tk_len h)
theorem Fin.some {a:Int} {s:PS} {len d:Nat} (h:s.ts.length+d≤len) : Fin (Option.some (.inr (a,s))) len d:=⟨_,rfl,fun a' s' e=>by injection e with e; injection e with e1 e2; rw [← e2]; exact h⟩
theorem Fin.pair {q:Int×PS} {len d:Nat} (h:q.2.ts.length+d≤len) : Fin (Option.some (.inr q)) len d:=⟨_,rfl,fun a' s' e=>by injection e with e; rw [e] at h; exact h⟩
theorem Fin.err {e:PE} {len d:Nat}:Fin (Option.some (.inl e)) len d:=⟨_,rfl,fun a s' h=>by cases h⟩
theorem Fin.more {x:PO} {len len' d d':Nat} (h:Fin x len d) (hl:len+d'≤len'+d) : Fin x len' d':=by
 obtain ⟨o,h1,h2⟩:=h
 exact ⟨o,h1,fun a s' h=>by have:=h2 a s' h; omega⟩
theorem ps_fin (cnt:Bool) : ∀ (m:Nat) (s:PS),s.ts.length≤m→∀ ns n,
  (10 * m+5≤n→Fin (ps cnt n .fo ns s) s.ts.length 1)∧(10 * m+4≤n→Fin (ps cnt n .im ns s) s.ts.length 1)∧(10 * m+3≤n→Fin (ps cnt n .jo ns s) s.ts.length 1)∧(10 * m+2≤n→Fin (ps cnt n .bo ns s) s.ts.length 1)∧(10 * m+1≤n→Fin (ps cnt n .si ns s) s.ts.length 1)
  ∧ (10 * m+1≤n→∀ a,Fin (ps cnt n (.jl a) ns s) s.ts.length 0)∧(10 * m+1≤n→∀ a,Fin (ps cnt n (.bl a) ns s) s.ts.length 0):=by
 intro m
 induction m with
 | zero =>
  intro s hs ns n
  have h0:s.ts=[]:=List.eq_nil_of_length_eq_zero (by omega)
  have hh:hd s=tok0:=by unfold hd; rw [h0]; rfl
  have hS:∀ n,1≤n→ps cnt n .si ns s=some (.inl (fl s 41)):=by
   intro n hn
   obtain ⟨n,rfl⟩ : ∃ q,n=q+1:=⟨n - 1,by omega⟩
   unfold ps
   rw [hh]
   rfl
  have hB:∀ n,2≤n→ps cnt n .bo ns s=some (.inl (fl s 41)):=by
   intro n hn
   obtain ⟨n,rfl⟩ : ∃ q,n=q+1:=⟨n - 1,by omega⟩
   unfold ps
   rw [hS n (by omega)]
   rfl
  have hJ:∀ n,3≤n→ps cnt n .jo ns s=some (.inl (fl s 41)):=by
   intro n hn
   obtain ⟨n,rfl⟩ : ∃ q,n=q+1:=⟨n - 1,by omega⟩
   unfold ps
   rw [hB n (by omega)]
   rfl
  have hI:∀ n,4≤n→ps cnt n .im ns s=some (.inl (fl s 41)):=by
   intro n hn
   obtain ⟨n,rfl⟩ : ∃ q,n=q+1:=⟨n - 1,by omega⟩
   unfold ps
   rw [hJ n (by omega)]
   rfl
  refine ⟨fun hn=>?_,fun hn=>?_,fun hn=>?_,fun hn=>?_,fun hn=>?_,fun hn a=>?_,fun hn a=>?_⟩
  ·obtain ⟨n,rfl⟩ : ∃ q,n=q+1:=⟨n - 1,by omega⟩
   unfold ps
   rw [hI n (by omega)]
   exact Fin.err
  ·rw [hI n (by omega)]; exact Fin.err
  ·rw [hJ n (by omega)]; exact Fin.err
  ·rw [hB n (by omega)]; exact Fin.err
  ·rw [hS n (by omega)]; exact Fin.err
  ·obtain ⟨n,rfl⟩ : ∃ q,n=q+1:=⟨n - 1,by omega⟩
   unfold ps
   rw [hh]
   exact Fin.some (Nat.le_refl _)
  ·obtain ⟨n,rfl⟩ : ∃ q,n=q+1:=⟨n - 1,by omega⟩
   unfold ps
   rw [hh]
   exact Fin.some (Nat.le_refl _)
 | succ m ih =>
  intro s hs ns
  have hL:∀ (s':PS),s'.ts.length≤m+1→∀ n,10 * (m+1)+1≤n→∀ a,Fin (ps cnt n (.bl a) ns s') s'.ts.length 0:=by
   intro s' hs' n hn a
   obtain ⟨n,rfl⟩ : ∃ q,n=q+1:=⟨n - 1,by omega⟩
   unfold ps
   cases hc:signB (hd s') [38] with
   | false=>exact Fin.some (Nat.le_refl _)
   | true =>
    have ht:=tail_lt (sign_ne hc)
    rw [cond_true]
    refine Fin.tkn fun q hq=>?_
    have hq':q.ts.length=s'.ts.tail.length:=by rw [hq]
    refine Fin.th (d:=2) (((ih q (by omega) ns n).2.2.2.2.1 (by omega)).more (by omega)) fun b q2 h2=>?_
    have:=((ih (nd q2 ⟨3,[],a,b⟩).2 (by rw [nd_ts]; omega) ns n).2.2.2.2.2.2 (by omega) (nd q2 ⟨3,[],a,b⟩).1)
    rw [nd_ts] at this
    exact this.more (by omega)
  have hL2:∀ (s':PS),s'.ts.length≤m+1→∀ n,10 * (m+1)+1≤n→∀ a,Fin (ps cnt n (.jl a) ns s') s'.ts.length 0:=by
   intro s' hs' n hn a
   obtain ⟨n,rfl⟩ : ∃ q,n=q+1:=⟨n - 1,by omega⟩
   unfold ps
   cases hc:signB (hd s') [124] with
   | false=>exact Fin.some (Nat.le_refl _)
   | true =>
    have ht:=tail_lt (sign_ne hc)
    rw [cond_true]
    refine Fin.tkn fun q hq=>?_
    have hq':q.ts.length=s'.ts.tail.length:=by rw [hq]
    refine Fin.th (d:=2) (((ih q (by omega) ns n).2.2.2.1 (by omega)).more (by omega)) fun b q2 h2=>?_
    have:=((ih (nd q2 ⟨4,[],a,b⟩).2 (by rw [nd_ts]; omega) ns n).2.2.2.2.2.1 (by omega) (nd q2 ⟨4,[],a,b⟩).1)
    rw [nd_ts] at this
    exact this.more (by omega)
  have hS:∀ n,10 * (m+1)+1≤n→Fin (ps cnt n .si ns s) s.ts.length 1:=by
   intro n hn
   obtain ⟨n,rfl⟩ : ∃ q,n=q+1:=⟨n - 1,by omega⟩
   unfold ps
   cases h1:signB (hd s) [126] with
   | true =>
    have ht:=tail_lt (sign_ne h1)
    rw [cond_true]
    refine Fin.tkn fun q hq=>?_
    have hq':q.ts.length=s.ts.tail.length:=by rw [hq]
    refine Fin.th (((ih q (by omega) ns n).2.2.2.2.1 (by omega)).more (d':=2) (by omega)) fun b q2 h2=>?_
    exact Fin.pair (by rw [notN_ts]; omega)
   | false =>
   rw [cond_false]
   cases h2:signB (hd s) [40] with
   | true =>
    have ht:=tail_lt (sign_ne h2)
    rw [cond_true]
    cases decide (1024≤ns) with
    | true=>exact Fin.err
    | false =>
     rw [cond_false]
     refine Fin.th (((ih (adv s) (by show s.ts.tail.length≤m; omega) (ns+1) n).1 (by omega)).more (len':=s.ts.length) (d':=2) (by show s.ts.tail.length+2≤_; omega)) fun b q2 h2=>?_
     cases signB (hd q2) [41] with
     | true=>rw [cond_true]; exact Fin.some (by show q2.ts.tail.length+1≤_; rw [List.length_tail]; omega)
     | false=>exact Fin.err
   | false =>
   rw [cond_false]
   cases h3:(hd s).f_Kind == 1 && (hd s).f_Text == [116,114,117,101] with
   | true =>
    have ht:=tail_lt (name_ne h3)
    rw [cond_true]
    refine Fin.tkn fun q hq=>Fin.pair ?_
    rw [topN_ts,hq]; omega
   | false =>
   rw [cond_false]
   cases h4:(hd s).f_Kind == 1 && (hd s).f_Text == [102,97,108,115,101] with
   | true =>
    have ht:=tail_lt (name_ne h4)
    rw [cond_true]
    refine Fin.tkn fun q hq=>Fin.pair ?_
    rw [botN_ts,hq]; omega
   | false =>
   rw [cond_false]
   cases h5:(hd s).f_Kind == 1 && wordB (hd s).f_Text with
   | true =>
    have ht:=tail_lt (name_ne h5)
    rw [cond_true]
    refine Fin.tkn fun q hq=>Fin.pair ?_
    rw [nd_ts,hq]; omega
   | false=>exact Fin.err
  have hB:∀ n,10 * (m+1)+2≤n→Fin (ps cnt n .bo ns s) s.ts.length 1:=by
   intro n hn
   obtain ⟨n,rfl⟩ : ∃ q,n=q+1:=⟨n - 1,by omega⟩
   unfold ps
   exact Fin.th (hS n (by omega)) fun b q hq=>(hL q (by omega) n (by omega) b).more (by omega)
  have hJ:∀ n,10 * (m+1)+3≤n→Fin (ps cnt n .jo ns s) s.ts.length 1:=by
   intro n hn
   obtain ⟨n,rfl⟩ : ∃ q,n=q+1:=⟨n - 1,by omega⟩
   unfold ps
   exact Fin.th (hB n (by omega)) fun b q hq=>(hL2 q (by omega) n (by omega) b).more (by omega)
  have hI:∀ n,10 * (m+1)+4≤n→Fin (ps cnt n .im ns s) s.ts.length 1:=by
   intro n hn
   obtain ⟨n,rfl⟩ : ∃ q,n=q+1:=⟨n - 1,by omega⟩
   unfold ps
   refine Fin.th (hJ n (by omega)) fun b q hq=>?_
   cases hc:signB (hd q) [45,62] with
   | false=>exact Fin.some (by omega)
   | true =>
    have ht:=tail_lt (sign_ne hc)
    rw [cond_true]
    refine Fin.tkn fun q2 hq2=>?_
    have hq':q2.ts.length=q.ts.tail.length:=by rw [hq2]
    refine Fin.th (((ih q2 (by omega) ns n).2.1 (by omega)).more (len':=s.ts.length) (d':=1) (by omega)) fun c q3 h3=>?_
    exact Fin.pair (by rw [impN_ts]; omega)
  refine fun n=>⟨fun hn=>?_,fun hn=>hI n hn,fun hn=>hJ n hn,fun hn=>hB n hn,fun hn=>hS n hn,fun hn a=>hL2 s hs n hn a,fun hn a=>hL s hs n hn a⟩
  obtain ⟨n,rfl⟩ : ∃ q,n=q+1:=⟨n - 1,by omega⟩
  unfold ps
  refine Fin.th (hI n (by omega)) fun b q hq=>?_
  cases hc:signB (hd q) [60,45,62] with
  | false=>exact Fin.some (by omega)
  | true =>
   have ht:=tail_lt (sign_ne hc)
   rw [cond_true]
   refine Fin.tkn fun q2 hq2=>?_
   have hq':q2.ts.length=q.ts.tail.length:=by rw [hq2]
   refine Fin.th (((ih q2 (by omega) ns n).1 (by omega)).more (len':=s.ts.length) (d':=1) (by omega)) fun c q3 h3=>?_
   exact Fin.pair (by rw [iffN_ts]; omega)
end Go.Proofs.YtpmkkhkphddfeaaGreatDoor.X
set_option linter.unusedVariables false
set_option linter.unusedSimpArgs false
namespace Go.Proofs.YtpmkkhkphddfeaaGreatDoor.X
open Go Go.RowKit Go.Proofs.YtpmkkhkphddfeaaGreatDoor.SX
def rdOf (l:List T_api_Token) (cnt:Bool) (ns:Nat) (s:PS) : T_syntax_reader:=⟨l,((l.length - s.ts.length:Nat) : Int),(s.nm:Int),(ns:Int),cnt,s.full⟩
structure Okp4 (l:List T_api_Token) (s:PS) : Prop where
 suf:s.ts <:+ l
 nm:s.nm≤512
theorem suf_drop {l t:List T_api_Token} (h:t <:+ l) : l.drop (l.length - t.length)=t:=(List.suffix_iff_eq_drop.1 h).symm
theorem suf_len {l t:List T_api_Token} (h:t <:+ l) : t.length≤l.length:=h.length_le
theorem Okp4.tail {l:List T_api_Token} {s q:PS} (h:Okp4 l s) (hq:q.ts=s.ts.tail) (hn:q.nm≤512) : Okp4 l q:=⟨by rw [hq]; exact (List.tail_suffix _).trans h.suf,hn⟩
theorem now_f (l:List T_api_Token) (cnt:Bool) (ns:Nat) (s:PS) (h:Okp4 l s) (T:T_formula_Table) (m:MapN) : syntax_reader_now.f (rdOf l cnt ns s) T m=some (hd s):=by
 unfold syntax_reader_now.f
 show (bif decide (((l.length - s.ts.length:Nat) : Int) < (l.length:Int)) then (ix l ((l.length - s.ts.length:Nat) : Int)).bind _ else _)=_
 have hl:=suf_len h.suf
 have hd':=suf_drop h.suf
 unfold hd
 by_cases he:s.ts=[]
 ·rw [he,List.length_nil,Nat.sub_zero,decide_eq_false (by omega:¬ (l.length:Int) < (l.length:Int))]
  rfl
 ·have hp:0 < s.ts.length:=List.length_pos_iff.2 he
  rw [decide_eq_true (by omega:((l.length - s.ts.length:Nat) : Int) < (l.length:Int)),cond_true,ix_nat]
  have:l[l.length - s.ts.length]?=s.ts.head?:=by rw [← List.head?_drop,hd']
  rw [this]
  cases hs:s.ts with
  | nil=>exact absurd hs he
  | cons a t=>rfl
theorem fail_f (l:List T_api_Token) (cnt:Bool) (ns:Nat) (s:PS) (h:Okp4 l s) (T:T_formula_Table) (m:MapN) (c:Int) : syntax_reader_fail.f (rdOf l cnt ns s) c T m=some (.ex ⟨⟨c,(hd s).f_At⟩⟩):=by
 unfold syntax_reader_fail.f
 rw [now_f l cnt ns s h]
 rfl
theorem counted_f (t:T_api_Token) : syntax_counted.f t=some (ctB t):=by
 unfold syntax_counted.f ctB
 cases t.f_Kind == 3 with
 | false=>rw [cond_false,Bool.false_and,Bool.or_false]; rfl
 | true =>
  rw [cond_true,Bool.true_and]
  have e:=or_bif (a:=t.f_Text == ([126] : List UInt8)) (or_bif (a:=t.f_Text == ([38] : List UInt8)) (or_bif (a:=t.f_Text == ([124] : List UInt8)) (or_bif (a:=t.f_Text == ([45,62] : List UInt8)) (rfl:some (t.f_Text == ([60,45,62] : List UInt8))=some _))))
  rw [e,bind_some']
  cases (t.f_Text == ([126] : List UInt8) || (t.f_Text == ([38] : List UInt8) || (t.f_Text == ([124] : List UInt8) || (t.f_Text == ([45,62] : List UInt8) || t.f_Text == ([60,45,62] : List UInt8))))) with
  | true=>rw [Bool.or_true]; rfl
  | false=>rw [Bool.or_false]; rfl
theorem take_f (l:List T_api_Token) (hlen:l.length≤1000000000) (cnt:Bool) (ns:Nat) (s:PS) (h:Okp4 l s) (hne:s.ts≠[]) (T:T_formula_Table) (m:MapN) : (∃ e,tk4 cnt s = .inl e∧e.2=s.N∧syntax_reader_take.f (rdOf l cnt ns s) T m=some (.ex (⟨e.1⟩,rdOf l cnt ns s)))∨(∃ q,tk4 cnt s = .inr q∧Okp4 l q∧q.N=s.N∧syntax_reader_take.f (rdOf l cnt ns s) T m=some (.ok (hd s,rdOf l cnt ns q))):=by
 unfold syntax_reader_take.f
 have hl:=suf_len h.suf
 have hp:0 < s.ts.length:=List.length_pos_iff.2 hne
 have htl:s.ts.tail.length=s.ts.length - 1:=List.length_tail
 have hnm:=h.nm
 have hi:wrap64 (((l.length - s.ts.length:Nat) : Int)+1)=((l.length - s.ts.tail.length:Nat) : Int):=by
  rw [w64 (by omega) (by omega),htl]; omega
 rw [now_f l cnt ns s h,bind_some',counted_f,bind_some']
 unfold tk4
 cases hc:ctB (hd s) with
 | false =>
  refine .inr ⟨adv s,rfl,h.tail rfl hnm,rfl,?_⟩
  show some (Exn.ok (hd s,(⟨l,wrap64 (((l.length - s.ts.length:Nat) : Int)+1),(s.nm:Int),(ns:Int),cnt,s.full⟩ : T_syntax_reader)))=_
  rw [hi]
  rfl
 | true =>
  cases cnt with
  | false =>
   refine .inr ⟨adv s,rfl,h.tail rfl hnm,rfl,?_⟩
   show some (Exn.ok (hd s,(⟨l,wrap64 (((l.length - s.ts.length:Nat) : Int)+1),(s.nm:Int),(ns:Int),false,s.full⟩ : T_syntax_reader)))=_
   rw [hi]
   rfl
  | true =>
   have hz:((rdOf l true ns s).f_names == 512)=decide (s.nm=512):=by
    show (((s.nm:Nat) : Int) == 512)=_
    rw [Bool.eq_iff_iff,beq_iff_eq,decide_eq_true_eq]; omega
   rw [hz]
   by_cases h5:s.nm=512
   ·rw [decide_eq_true h5]
    refine .inl ⟨fl s 40,rfl,rfl,?_⟩
    show ((((syntax_reader_fail.f (rdOf l true ns s) 40 T m).bind _).bind _).bind _)=_
    rw [fail_f l true ns s h]
    rfl
   ·rw [decide_eq_false h5]
    refine .inr ⟨⟨s.ts.tail,s.nm+1,s.full,s.N⟩,rfl,h.tail rfl (by show s.nm+1≤512; omega),rfl,?_⟩
    show some (Exn.ok (hd s,(⟨l,wrap64 (((l.length - s.ts.length:Nat) : Int)+1),wrap64 (((s.nm:Nat) : Int)+1),(ns:Int),true,s.full⟩ : T_syntax_reader)))=_
    rw [hi,wsucc s.nm (by omega)]
    rfl
theorem sign_no (l:List T_api_Token) (cnt:Bool) (ns:Nat) (s:PS) (h:Okp4 l s) (T:T_formula_Table) (m:MapN) (x:List UInt8) (hx:signB (hd s) x=false) : syntax_reader_sign.f (rdOf l cnt ns s) x T m=some (.ok (false,rdOf l cnt ns s)):=by
 unfold syntax_reader_sign.f
 rw [now_f l cnt ns s h,bind_some']
 unfold signB at hx
 have e:((bif ((hd s).f_Kind != 3) then some true else some (!((hd s).f_Text == x))) : Option Bool)=some (!((hd s).f_Kind == 3 && (hd s).f_Text == x)):=by
  unfold bne
  cases ((hd s).f_Kind == 3) <;> rfl
 rw [e,hx]
 rfl
theorem sign_yes (l:List T_api_Token) (hlen:l.length≤1000000000) (cnt:Bool) (ns:Nat) (s:PS) (h:Okp4 l s) (T:T_formula_Table) (m:MapN) (x:List UInt8) (hx:signB (hd s) x=true) : (∃ e,tk4 cnt s = .inl e∧e.2=s.N∧syntax_reader_sign.f (rdOf l cnt ns s) x T m=some (.ex (⟨e.1⟩,rdOf l cnt ns s)))∨(∃ q,tk4 cnt s = .inr q∧Okp4 l q∧q.N=s.N∧syntax_reader_sign.f (rdOf l cnt ns s) x T m=some (.ok (true,rdOf l cnt ns q))):=by
 unfold syntax_reader_sign.f
 rw [now_f l cnt ns s h,bind_some']
 have hne:=sign_ne hx
 unfold signB at hx
 have e:((bif ((hd s).f_Kind != 3) then some true else some (!((hd s).f_Text == x))) : Option Bool)=some (!((hd s).f_Kind == 3 && (hd s).f_Text == x)):=by
  unfold bne
  cases ((hd s).f_Kind == 3) <;> rfl
 rw [e,hx,bind_some']
 rcases take_f l hlen cnt ns s h hne T m with ⟨e,h1,h2,h3⟩|⟨q,h1,h2,h3,h4⟩
 ·refine .inl ⟨e,h1,h2,?_⟩
  show (syntax_reader_take.f (rdOf l cnt ns s) T m).bind _=_
  rw [h3]
  rfl
 ·refine .inr ⟨q,h1,h2,h3,?_⟩
  show (syntax_reader_take.f (rdOf l cnt ns s) T m).bind _=_
  rw [h4]
  rfl
theorem nd_nm (s:PS) (x:T_api_Node) : (nd s x).2.nm=s.nm:=by
 unfold nd
 cases s.full <;> rfl
theorem Okp4.nd {l:List T_api_Token} {s:PS} (h:Okp4 l s) (x:T_api_Node) : Okp4 l (nd s x).2:=⟨by rw [nd_ts]; exact h.suf,by rw [nd_nm]; exact h.nm⟩
theorem node_f (l:List T_api_Token) (cnt:Bool) (ns:Nat) (s:PS) (k:Nat) (kd a b:Int) (nm:List UInt8) (m:MapN) (hT:Tab s.N m) (hs:nm.length≤1000000000000) (hk:nm.length < k) : ∃ m',syntax_reader_node.f k (rdOf l cnt ns s) kd nm a b ⟨s.N⟩ m=some ((nd s ⟨kd,nm,a,b⟩).1,rdOf l cnt ns (nd s ⟨kd,nm,a,b⟩).2,⟨(nd s ⟨kd,nm,a,b⟩).2.N⟩,m')∧Tab (nd s ⟨kd,nm,a,b⟩).2.N m':=by
 unfold syntax_reader_node.f nd
 have e:(rdOf l cnt ns s).f_full=s.full:=rfl
 rw [e]
 cases hf:s.full with
 | true=>exact ⟨m,rfl,hT⟩
 | false =>
  obtain ⟨m',h1,h2⟩:=put_f k s.N ⟨kd,nm,a,b⟩ m hT hs hk
  refine ⟨m',?_,h2⟩
  rw [cond_false,cond_false,h1,bind_some']
  unfold syntax_reader_put.f
  rw [e,hf]
  rfl
end Go.Proofs.YtpmkkhkphddfeaaGreatDoor.X
set_option linter.unusedVariables false
set_option linter.unusedSimpArgs false
namespace Go.Proofs.YtpmkkhkphddfeaaGreatDoor.X
open Go Go.RowKit Go.Proofs.YtpmkkhkphddfeaaGreatDoor.SX
abbrev XE:=T_syntax_broken×T_syntax_reader×T_formula_Table×MapN
abbrev XO:=Int×T_syntax_reader×T_formula_Table×MapN
section sim
variable {l:List T_api_Token} {cnt:Bool} {ns:Nat}
def Out (l:List T_api_Token) (cnt:Bool) (ns:Nat) : Sum PE (Int×PS)→Exn XE XO→Prop
 | .inl e,.ex p=>p.1=⟨e.1⟩∧p.2.2.1=⟨e.2⟩∧Tab e.2 p.2.2.2
 | .inr q,.ok r=>r.1=q.1∧r.2.1=rdOf l cnt ns q.2∧r.2.2.1=⟨q.2.N⟩∧Tab q.2.N r.2.2.2∧Okp4 l q.2
 | _,_=>False
def Sim (l:List T_api_Token) (cnt:Bool) (ns:Nat) (o:Sum PE (Int×PS)) (X:Option (Exn XE XO)) : Prop:=∃ r,X=some r∧Out l cnt ns o r
def SimL (l:List T_api_Token) (cnt:Bool) (ns:Nat) (o:Sum PE (Int×PS)) (X:Option (Sum (Exn XE XO) XO)) : Prop:=(∃ p,X=some (.inl (.ex p))∧Out l cnt ns o (.ex p))∨(∃ r,X=some (.inr r)∧Out l cnt ns o (.ok r))
theorem Out.inv_ex {e:PE} {r:Exn XE XO} (h:Out l cnt ns (.inl e) r) : ∃ p,r = .ex p∧p.1=⟨e.1⟩∧p.2.2.1=⟨e.2⟩∧Tab e.2 p.2.2.2:=by
 cases r with
 | ex p=>exact ⟨p,rfl,h⟩
 | ok r=>exact h.elim
theorem Out.inv_ok {q:Int×PS} {r:Exn XE XO} (h:Out l cnt ns (.inr q) r) : ∃ m,r = .ok (q.1,rdOf l cnt ns q.2,⟨q.2.N⟩,m)∧Tab q.2.N m∧Okp4 l q.2:=by
 cases r with
 | ex p=>exact h.elim
 | ok r =>
  obtain ⟨a,b,c,d⟩:=r
  obtain ⟨rfl,rfl,rfl,h4,h5⟩:=h
  exact ⟨d,rfl,h4,h5⟩
theorem th_some {x:PO} {f:Int→PS→PO} {o:Sum PE (Int×PS)} (h:th x f=some o) : (∃ e,x=some (.inl e)∧o = .inl e)∨(∃ q,x=some (.inr q)∧f q.1 q.2=some o):=by
 unfold th at h
 cases x with
 | none=>cases h
 | some r =>
  cases r with
  | inl e=>exact .inl ⟨e,rfl,(Option.some.inj h).symm⟩
  | inr q=>exact .inr ⟨q,rfl,h⟩
theorem tkn_some {s:PS} {f:PS→PO} {o:Sum PE (Int×PS)} (h:tkn cnt s f=some o) : (∃ e,tk4 cnt s = .inl e∧o = .inl e)∨(∃ q,tk4 cnt s = .inr q∧f q=some o):=by
 unfold tkn at h
 cases hx:tk4 cnt s with
 | inl e=>rw [hx] at h; exact .inl ⟨e,rfl,(Option.some.inj h).symm⟩
 | inr q=>rw [hx] at h; exact .inr ⟨q,rfl,h⟩
theorem Sim.bind {x:PO} {f:Int→PS→PO} {o:Sum PE (Int×PS)} {X:Option (Exn XE XO)} {F:Exn XE XO→Option (Exn XE XO)} {ns':Nat} (h:∀ o1,x=some o1→Sim l cnt ns' o1 X) (ho:th x f=some o)
  (hex:∀ p,F (.ex p)=some (.ex (p.1,p.2.1,p.2.2.1,p.2.2.2))) (hok:∀ a s m,Okp4 l s→Tab s.N m→f a s=some o→Sim l cnt ns o (F (.ok (a,rdOf l cnt ns' s,⟨s.N⟩,m)))) : Sim l cnt ns o (X.bind F):=by
 rcases th_some ho with ⟨e,h1,rfl⟩|⟨q,h1,h2⟩
 ·obtain ⟨r,hX,hr⟩:=h _ h1
  obtain ⟨p,rfl,g1,g2,g3⟩:=hr.inv_ex
  rw [hX,bind_some',hex]
  exact ⟨_,rfl,g1,g2,g3⟩
 ·obtain ⟨r,hX,hr⟩:=h _ h1
  obtain ⟨m,rfl,g1,g2⟩:=hr.inv_ok
  rw [hX,bind_some']
  exact hok _ _ _ g2 g1 h2
theorem Sim.sign (hlen:l.length≤1000000000) {s:PS} {m:MapN} {x:List UInt8} {f:PS→PO} {g:PO} {o:Sum PE (Int×PS)} {G:Exn (T_syntax_broken×T_syntax_reader) (Bool×T_syntax_reader)→Option (Exn XE XO)} (hs:Okp4 l s) (hT:Tab s.N m)
  (ho:(bif signB (hd s) x then tkn cnt s f else g)=some o) (hex:∀ e,G (.ex (e,rdOf l cnt ns s))=some (.ex (e,rdOf l cnt ns s,⟨s.N⟩,m))) (hno:signB (hd s) x=false→g=some o→Sim l cnt ns o (G (.ok (false,rdOf l cnt ns s))))
  (hyes:∀ q,Okp4 l q→Tab q.N m→q.N=s.N→signB (hd s) x=true→f q=some o→Sim l cnt ns o (G (.ok (true,rdOf l cnt ns q)))) : Sim l cnt ns o ((syntax_reader_sign.f (rdOf l cnt ns s) x ⟨s.N⟩ m).bind G):=by
 cases hc:signB (hd s) x with
 | false =>
  rw [hc,cond_false] at ho
  rw [sign_no l cnt ns s hs ⟨s.N⟩ m x hc,bind_some']
  exact hno hc ho
 | true =>
  rw [hc,cond_true] at ho
  rcases sign_yes l hlen cnt ns s hs ⟨s.N⟩ m x hc with ⟨e,h1,h2,h3⟩|⟨q,h1,h2,h3,h4⟩
  ·rcases tkn_some ho with ⟨e',g1,rfl⟩|⟨q',g1,_⟩
   ·rw [g1] at h1
    injection h1 with h1
    subst h1
    rw [h3,bind_some',hex]
    exact ⟨_,rfl,rfl,by rw [h2],by rw [h2]; exact hT⟩
   ·rw [g1] at h1; cases h1
  ·rcases tkn_some ho with ⟨e',g1,_⟩|⟨q',g1,g2⟩
   ·rw [g1] at h1; cases h1
   ·rw [g1] at h1
    injection h1 with h1
    subst h1
    rw [h4,bind_some']
    exact hyes q' h2 (by rw [h3]; exact hT) h3 hc g2
theorem Sim.node {s:PS} {m:MapN} {k:Nat} {kd a b:Int} {nm:List UInt8} {o:Sum PE (Int×PS)} {G:XO→Option (Exn XE XO)} (hs:Okp4 l s) (hT:Tab s.N m) (hn:nm.length≤1000000000000) (hk:nm.length < k)
  (h:∀ m',Tab (nd s ⟨kd,nm,a,b⟩).2.N m'→Okp4 l (nd s ⟨kd,nm,a,b⟩).2→Sim l cnt ns o (G ((nd s ⟨kd,nm,a,b⟩).1,rdOf l cnt ns (nd s ⟨kd,nm,a,b⟩).2,⟨(nd s ⟨kd,nm,a,b⟩).2.N⟩,m'))) : Sim l cnt ns o ((syntax_reader_node.f k (rdOf l cnt ns s) kd nm a b ⟨s.N⟩ m).bind G):=by
 obtain ⟨m',h1,h2⟩:=node_f l cnt ns s k kd a b nm m hT hn hk
 rw [h1,bind_some']
 exact h m' h2 (hs.nd _)
theorem Sim.ok {q:Int×PS} {m:MapN} (hT:Tab q.2.N m) (hs:Okp4 l q.2) : Sim l cnt ns (.inr q) (some (.ok (q.1,rdOf l cnt ns q.2,⟨q.2.N⟩,m))):=⟨_,rfl,rfl,rfl,rfl,hT,hs⟩
structure Sims (l:List T_api_Token) (cnt:Bool) (B n:Nat) : Prop where
 fo:∀ ns s o,ps cnt n .fo ns s=some o→Okp4 l s→ns≤1024→∀ k j,B+n≤k→2 * n≤j→∀ m,Tab s.N m→Sim l cnt ns o ((G_syntax_reader_formula.rec_ k j).syntax_reader_formula (rdOf l cnt ns s) ⟨s.N⟩ m)
 im:∀ ns s o,ps cnt n .im ns s=some o→Okp4 l s→ns≤1024→∀ k j,B+n≤k→2 * n≤j→∀ m,Tab s.N m→Sim l cnt ns o ((G_syntax_reader_formula.rec_ k j).syntax_reader_implied (rdOf l cnt ns s) ⟨s.N⟩ m)
 jo:∀ ns s o,ps cnt n .jo ns s=some o→Okp4 l s→ns≤1024→∀ k j,B+n≤k→2 * n≤j→∀ m,Tab s.N m→Sim l cnt ns o ((G_syntax_reader_formula.rec_ k j).syntax_reader_row_syntax_reader_both (rdOf l cnt ns s) [124] 4 ⟨s.N⟩ m)
 bo:∀ ns s o,ps cnt n .bo ns s=some o→Okp4 l s→ns≤1024→∀ k j,B+n≤k→2 * n≤j→∀ m,Tab s.N m→Sim l cnt ns o ((G_syntax_reader_formula.rec_ k j).syntax_reader_both (rdOf l cnt ns s) ⟨s.N⟩ m)
 si:∀ ns s o,ps cnt n .si ns s=some o→Okp4 l s→ns≤1024→∀ k j,B+n≤k→2 * n≤j→∀ m,Tab s.N m→Sim l cnt ns o ((G_syntax_reader_formula.rec_ k j).syntax_reader_single (rdOf l cnt ns s) ⟨s.N⟩ m)
 jl:∀ a ns s o,ps cnt n (.jl a) ns s=some o→Okp4 l s→ns≤1024→∀ k j kk,B+n≤k→2 * n≤j→n≤kk→∀ m,Tab s.N m→SimL l cnt ns o (syntax_reader_row_syntax_reader_both.l1 k [124] 4 (G_syntax_reader_formula.rec_ k j) kk a (rdOf l cnt ns s) ⟨s.N⟩ m)
 bl:∀ a ns s o,ps cnt n (.bl a) ns s=some o→Okp4 l s→ns≤1024→∀ k j kk,B+n≤k→2 * n≤j→n≤kk→∀ m,Tab s.N m→SimL l cnt ns o (syntax_reader_row_syntax_reader_single.l1 k [38] 3 (G_syntax_reader_formula.rec_ k j) kk a (rdOf l cnt ns s) ⟨s.N⟩ m)
variable {B n:Nat}
theorem sim_im (hlen:l.length≤1000000000) (ih:Sims l cnt B n) : ∀ ns s o,ps cnt (n+1) .im ns s=some o→Okp4 l s→ns≤1024→∀ k j,B+(n+1)≤k→2 * (n+1)≤j→∀ m,Tab s.N m→Sim l cnt ns o ((G_syntax_reader_formula.rec_ k j).syntax_reader_implied (rdOf l cnt ns s) ⟨s.N⟩ m):=by
 intro ns s o ho hs hns k j hk hj m hT
 obtain ⟨j,rfl⟩ : ∃ q,j=q+1:=⟨j - 1,by omega⟩
 show Sim l cnt ns o (syntax_reader_implied.F k (G_syntax_reader_formula.rec_ k j) (rdOf l cnt ns s) ⟨s.N⟩ m)
 unfold ps at ho
 unfold syntax_reader_implied.F
 refine Sim.bind (fun o1 h1=>ih.jo ns s o1 h1 hs hns k j (by omega) (by omega) m hT) ho (fun p=>rfl) fun a s1 m1 hs1 hT1 h1=>?_
 refine Sim.sign hlen hs1 hT1 h1 (fun e=>rfl) (fun _ h=>?_) fun q hq hTq hqN _ h=>?_
 ·rw [← Option.some.inj h]; exact Sim.ok (q:=(a,s1)) hT1 hs1
 ·show Sim l cnt ns o (((G_syntax_reader_formula.rec_ k j).syntax_reader_implied (rdOf l cnt ns q) ⟨s1.N⟩ m1).bind _)
  rw [← hqN]
  refine Sim.bind (fun o2 h2=>ih.im ns q o2 h2 hq hns k j (by omega) (by omega) m1 hTq) h (fun p=>rfl) fun b s2 m2 hs2 hT2 h2=>?_
  refine Sim.node hs2 hT2 (by decide) (show 0 < k from by omega) fun m3 hT3 hs3=>?_
  rw [← Option.some.inj h2]
  exact Sim.ok (q:=impN s2 a b) hT3 hs3
theorem sim_fo (hlen:l.length≤1000000000) (ih:Sims l cnt B n) : ∀ ns s o,ps cnt (n+1) .fo ns s=some o→Okp4 l s→ns≤1024→∀ k j,B+(n+1)≤k→2 * (n+1)≤j→∀ m,Tab s.N m→Sim l cnt ns o ((G_syntax_reader_formula.rec_ k j).syntax_reader_formula (rdOf l cnt ns s) ⟨s.N⟩ m):=by
 intro ns s o ho hs hns k j hk hj m hT
 obtain ⟨j,rfl⟩ : ∃ q,j=q+1:=⟨j - 1,by omega⟩
 show Sim l cnt ns o (syntax_reader_formula.F k (G_syntax_reader_formula.rec_ k j) (rdOf l cnt ns s) ⟨s.N⟩ m)
 unfold ps at ho
 unfold syntax_reader_formula.F
 refine Sim.bind (fun o1 h1=>ih.im ns s o1 h1 hs hns k j (by omega) (by omega) m hT) ho (fun p=>rfl) fun a s1 m1 hs1 hT1 h1=>?_
 refine Sim.sign hlen hs1 hT1 h1 (fun e=>rfl) (fun _ h=>?_) fun q hq hTq hqN _ h=>?_
 ·rw [← Option.some.inj h]; exact Sim.ok (q:=(a,s1)) hT1 hs1
 ·show Sim l cnt ns o (((G_syntax_reader_formula.rec_ k j).syntax_reader_formula (rdOf l cnt ns q) ⟨s1.N⟩ m1).bind _)
  rw [← hqN]
  refine Sim.bind (fun o2 h2=>ih.fo ns q o2 h2 hq hns k j (by omega) (by omega) m1 hTq) h (fun p=>rfl) fun b s2 m2 hs2 hT2 h2=>?_
  refine Sim.node hs2 hT2 (by decide) (show 0 < k from by omega) fun m3 hT3 hs3=>?_
  refine Sim.node hs3 hT3 (by decide) (show 0 < k from by omega) fun m4 hT4 hs4=>?_
  refine Sim.node hs4 hT4 (by decide) (show 0 < k from by omega) fun m5 hT5 hs5=>?_
  rw [← Option.some.inj h2]
  exact Sim.ok (q:=iffN s2 a b) hT5 hs5
theorem SimL.done {X:Option (Sum (Exn XE XO) XO)} {o:Sum PE (Int×PS)} {F:Sum (Exn XE XO) XO→Option (Exn XE XO)} (h:SimL l cnt ns o X) (hl:∀ r,F (.inl r)=some r) (hr:∀ r,F (.inr r)=some (.ok (r.1,r.2.1,r.2.2.1,r.2.2.2))) : Sim l cnt ns o (X.bind F):=by
 rcases h with ⟨p,rfl,h⟩|⟨r,rfl,h⟩
 ·rw [bind_some',hl]; exact ⟨_,rfl,h⟩
 ·rw [bind_some',hr]; exact ⟨_,rfl,h⟩
theorem sim_jo (ih:Sims l cnt B n) : ∀ ns s o,ps cnt (n+1) .jo ns s=some o→Okp4 l s→ns≤1024→∀ k j,B+(n+1)≤k→2 * (n+1)≤j→∀ m,Tab s.N m→Sim l cnt ns o ((G_syntax_reader_formula.rec_ k j).syntax_reader_row_syntax_reader_both (rdOf l cnt ns s) [124] 4 ⟨s.N⟩ m):=by
 intro ns s o ho hs hns k j hk hj m hT
 obtain ⟨j,rfl⟩ : ∃ q,j=q+1:=⟨j - 1,by omega⟩
 show Sim l cnt ns o (syntax_reader_row_syntax_reader_both.F k (G_syntax_reader_formula.rec_ k j) (rdOf l cnt ns s) [124] 4 ⟨s.N⟩ m)
 unfold ps at ho
 unfold syntax_reader_row_syntax_reader_both.F
 refine Sim.bind (fun o1 h1=>ih.bo ns s o1 h1 hs hns k j (by omega) (by omega) m hT) ho (fun p=>rfl) fun a s1 m1 hs1 hT1 h1=>?_
 exact SimL.done (ih.jl a ns s1 o h1 hs1 hns k j k (by omega) (by omega) (by omega) m1 hT1) (fun r=>rfl) (fun r=>rfl)
theorem sim_bo (ih:Sims l cnt B n) : ∀ ns s o,ps cnt (n+1) .bo ns s=some o→Okp4 l s→ns≤1024→∀ k j,B+(n+1)≤k→2 * (n+1)≤j→∀ m,Tab s.N m→Sim l cnt ns o ((G_syntax_reader_formula.rec_ k j).syntax_reader_both (rdOf l cnt ns s) ⟨s.N⟩ m):=by
 intro ns s o ho hs hns k j hk hj m hT
 obtain ⟨j,rfl⟩ : ∃ q,j=q+2:=⟨j - 2,by omega⟩
 show Sim l cnt ns o (syntax_reader_both.F k (G_syntax_reader_formula.rec_ k (j+1)) (rdOf l cnt ns s) ⟨s.N⟩ m)
 unfold ps at ho
 unfold syntax_reader_both.F
 have key:Sim l cnt ns o (syntax_reader_row_syntax_reader_single.F k (G_syntax_reader_formula.rec_ k j) (rdOf l cnt ns s) [38] 3 ⟨s.N⟩ m):=by
  unfold syntax_reader_row_syntax_reader_single.F
  refine Sim.bind (fun o1 h1=>ih.si ns s o1 h1 hs hns k j (by omega) (by omega) m hT) ho (fun p=>rfl) fun a s1 m1 hs1 hT1 h1=>?_
  exact SimL.done (ih.bl a ns s1 o h1 hs1 hns k j k (by omega) (by omega) (by omega) m1 hT1) (fun r=>rfl) (fun r=>rfl)
 obtain ⟨r,h1,h2⟩:=key
 show Sim l cnt ns o ((syntax_reader_row_syntax_reader_single.F k (G_syntax_reader_formula.rec_ k j) (rdOf l cnt ns s) [38] 3 ⟨s.N⟩ m).bind _)
 rw [h1,bind_some']
 cases r with
 | ex p=>exact ⟨_,rfl,h2⟩
 | ok r=>exact ⟨_,rfl,h2⟩
theorem sim_bl (hlen:l.length≤1000000000) (ih:Sims l cnt B n) : ∀ a ns s o,ps cnt (n+1) (.bl a) ns s=some o→Okp4 l s→ns≤1024→∀ k j kk,B+(n+1)≤k→2 * (n+1)≤j→n+1≤kk→∀ m,Tab s.N m→SimL l cnt ns o (syntax_reader_row_syntax_reader_single.l1 k [38] 3 (G_syntax_reader_formula.rec_ k j) kk a (rdOf l cnt ns s) ⟨s.N⟩ m):=by
 intro a ns s o ho hs hns k j kk hk hj hkk m hT
 obtain ⟨kk,rfl⟩ : ∃ q,kk=q+1:=⟨kk - 1,by omega⟩
 rw [syntax_reader_row_syntax_reader_single.l1.eq_2]
 unfold ps at ho
 cases hc:signB (hd s) [38] with
 | false =>
  rw [hc,cond_false] at ho
  rw [sign_no l cnt ns s hs ⟨s.N⟩ m _ hc,← Option.some.inj ho]
  exact .inr ⟨_,rfl,rfl,rfl,rfl,hT,hs⟩
 | true =>
  rw [hc,cond_true] at ho
  rcases sign_yes l hlen cnt ns s hs ⟨s.N⟩ m _ hc with ⟨e,h1,h2,h3⟩|⟨q,h1,h2,h3,h4⟩
  ·rcases tkn_some ho with ⟨e',g1,rfl⟩|⟨q',g1,_⟩
   ·rw [g1] at h1
    injection h1 with h1
    subst h1
    rw [h3]
    exact .inl ⟨_,rfl,rfl,by rw [h2],by rw [h2]; exact hT⟩
   ·rw [g1] at h1; cases h1
  ·rcases tkn_some ho with ⟨e',g1,_⟩|⟨q',g1,g2⟩
   ·rw [g1] at h1; cases h1
   ·rw [g1] at h1
    injection h1 with h1
    subst h1
    rw [h4,bind_some']
    show SimL l cnt ns o (((G_syntax_reader_formula.rec_ k j).syntax_reader_single (rdOf l cnt ns q') ⟨s.N⟩ m).bind _)
    rw [← h3] at hT ⊢
    rcases th_some g2 with ⟨e,f1,rfl⟩|⟨b,f1,f2⟩
    ·obtain ⟨r,hX,hr⟩:=ih.si ns q' _ f1 h2 hns k j (by omega) (by omega) m hT
     obtain ⟨p,rfl,g1,g2,g3⟩:=hr.inv_ex
     rw [hX]
     exact .inl ⟨_,rfl,g1,g2,g3⟩
    ·obtain ⟨r,hX,hr⟩:=ih.si ns q' _ f1 h2 hns k j (by omega) (by omega) m hT
     obtain ⟨m2,rfl,hT2,hs2⟩:=hr.inv_ok
     rw [hX,bind_some']
     obtain ⟨m3,e1,e2⟩:=node_f l cnt ns b.2 k 3 a b.1 [] m2 hT2 (by decide) (show 0 < k from by omega)
     show SimL l cnt ns o ((syntax_reader_node.f k (rdOf l cnt ns b.2) 3 [] a b.1 ⟨b.2.N⟩ m2).bind _)
     rw [e1,bind_some']
     exact ih.bl _ ns _ o f2 (hs2.nd _) hns k j kk (by omega) (by omega) (by omega) m3 e2
theorem sim_jl (hlen:l.length≤1000000000) (ih:Sims l cnt B n) : ∀ a ns s o,ps cnt (n+1) (.jl a) ns s=some o→Okp4 l s→ns≤1024→∀ k j kk,B+(n+1)≤k→2 * (n+1)≤j→n+1≤kk→∀ m,Tab s.N m→SimL l cnt ns o (syntax_reader_row_syntax_reader_both.l1 k [124] 4 (G_syntax_reader_formula.rec_ k j) kk a (rdOf l cnt ns s) ⟨s.N⟩ m):=by
 intro a ns s o ho hs hns k j kk hk hj hkk m hT
 obtain ⟨kk,rfl⟩ : ∃ q,kk=q+1:=⟨kk - 1,by omega⟩
 rw [syntax_reader_row_syntax_reader_both.l1.eq_2]
 unfold ps at ho
 cases hc:signB (hd s) [124] with
 | false =>
  rw [hc,cond_false] at ho
  rw [sign_no l cnt ns s hs ⟨s.N⟩ m _ hc,← Option.some.inj ho]
  exact .inr ⟨_,rfl,rfl,rfl,rfl,hT,hs⟩
 | true =>
  rw [hc,cond_true] at ho
  rcases sign_yes l hlen cnt ns s hs ⟨s.N⟩ m _ hc with ⟨e,h1,h2,h3⟩|⟨q,h1,h2,h3,h4⟩
  ·rcases tkn_some ho with ⟨e',g1,rfl⟩|⟨q',g1,_⟩
   ·rw [g1] at h1
    injection h1 with h1
    subst h1
    rw [h3]
    exact .inl ⟨_,rfl,rfl,by rw [h2],by rw [h2]; exact hT⟩
   ·rw [g1] at h1; cases h1
  ·rcases tkn_some ho with ⟨e',g1,_⟩|⟨q',g1,g2⟩
   ·rw [g1] at h1; cases h1
   ·rw [g1] at h1
    injection h1 with h1
    subst h1
    rw [h4,bind_some']
    show SimL l cnt ns o (((G_syntax_reader_formula.rec_ k j).syntax_reader_both (rdOf l cnt ns q') ⟨s.N⟩ m).bind _)
    rw [← h3] at hT ⊢
    rcases th_some g2 with ⟨e,f1,rfl⟩|⟨b,f1,f2⟩
    ·obtain ⟨r,hX,hr⟩:=ih.bo ns q' _ f1 h2 hns k j (by omega) (by omega) m hT
     obtain ⟨p,rfl,g1,g2,g3⟩:=hr.inv_ex
     rw [hX]
     exact .inl ⟨_,rfl,g1,g2,g3⟩
    ·obtain ⟨r,hX,hr⟩:=ih.bo ns q' _ f1 h2 hns k j (by omega) (by omega) m hT
     obtain ⟨m2,rfl,hT2,hs2⟩:=hr.inv_ok
     rw [hX,bind_some']
     obtain ⟨m3,e1,e2⟩:=node_f l cnt ns b.2 k 4 a b.1 [] m2 hT2 (by decide) (show 0 < k from by omega)
     show SimL l cnt ns o ((syntax_reader_node.f k (rdOf l cnt ns b.2) 4 [] a b.1 ⟨b.2.N⟩ m2).bind _)
     rw [e1,bind_some']
     exact ih.jl _ ns _ o f2 (hs2.nd _) hns k j kk (by omega) (by omega) (by omega) m3 e2
end sim
end Go.Proofs.YtpmkkhkphddfeaaGreatDoor.X
set_option linter.unusedVariables false
set_option linter.unusedSimpArgs false
namespace Go.Proofs.YtpmkkhkphddfeaaGreatDoor.X
open Go Go.RowKit Go.Proofs.YtpmkkhkphddfeaaGreatDoor.SX
theorem bif_and (a b:Bool) : ((bif a then some b else some false) : Option Bool)=some (a && b):=by cases a <;> rfl
section sim
variable {l:List T_api_Token} {cnt:Bool} {ns:Nat} {B n:Nat}
theorem Sim.take (hlen:l.length≤1000000000) {s:PS} {m:MapN} {f:PS→PO} {o:Sum PE (Int×PS)} {G:Exn (T_syntax_broken×T_syntax_reader) (T_api_Token×T_syntax_reader)→Option (Exn XE XO)} (hs:Okp4 l s) (hT:Tab s.N m) (hne:s.ts≠[])
  (ho:tkn cnt s f=some o) (hex:∀ e,G (.ex (e,rdOf l cnt ns s))=some (.ex (e,rdOf l cnt ns s,⟨s.N⟩,m)))
  (hok:∀ q,Okp4 l q→Tab q.N m→q.N=s.N→f q=some o→Sim l cnt ns o (G (.ok (hd s,rdOf l cnt ns q)))) : Sim l cnt ns o ((syntax_reader_take.f (rdOf l cnt ns s) ⟨s.N⟩ m).bind G):=by
 rcases take_f l hlen cnt ns s hs hne ⟨s.N⟩ m with ⟨e,h1,h2,h3⟩|⟨q,h1,h2,h3,h4⟩
 ·rcases tkn_some ho with ⟨e',g1,rfl⟩|⟨q',g1,_⟩
  ·rw [g1] at h1
   injection h1 with h1
   subst h1
   rw [h3,bind_some',hex]
   exact ⟨_,rfl,rfl,by rw [h2],by rw [h2]; exact hT⟩
  ·rw [g1] at h1; cases h1
 ·rcases tkn_some ho with ⟨e',g1,_⟩|⟨q',g1,g2⟩
  ·rw [g1] at h1; cases h1
  ·rw [g1] at h1
   injection h1 with h1
   subst h1
   rw [h4,bind_some']
   exact hok q' h2 (by rw [h3]; exact hT) h3 g2
theorem hd_mem {l:List T_api_Token} {s:PS} (h:Okp4 l s) (hne:s.ts≠[]) : hd s ∈ l:=by
 unfold hd
 cases ht:s.ts with
 | nil=>exact absurd ht hne
 | cons a t=>exact h.suf.subset (by rw [ht]; exact List.mem_cons_self ..)
theorem sign_uncounted {t:T_api_Token} (h:signB t [40]=true∨signB t [41]=true) : ctB t=false:=by
 unfold signB at h
 simp only [Bool.and_eq_true,beq_iff_eq] at h
 unfold ctB
 rcases h with ⟨h1,h2⟩|⟨h1,h2⟩ <;> rw [h1,h2] <;> rfl
theorem take_adv (hlen:l.length≤1000000000) {s:PS} (hs:Okp4 l s) (hne:s.ts≠[]) (hc:ctB (hd s)=false) (T:T_formula_Table) (m:MapN) : Okp4 l (adv s)∧syntax_reader_take.f (rdOf l cnt ns s) T m=some (.ok (hd s,rdOf l cnt ns (adv s))):=by
 have e:tk4 cnt s = .inr (adv s):=by unfold tk4; rw [hc]; rfl
 rcases take_f l hlen cnt ns s hs hne T m with ⟨e',h1,_⟩|⟨q,h1,h2,h3,h4⟩
 ·rw [e] at h1; cases h1
 ·rw [e] at h1
  injection h1 with h1
  subst h1
  exact ⟨h2,h4⟩
theorem sim_si (hlen:l.length≤1000000000) (hB:∀ t ∈ l,t.f_Text.length≤1000000000∧t.f_Text.length < B) (ih:Sims l cnt B n) : ∀ ns s o,ps cnt (n+1) .si ns s=some o→Okp4 l s→ns≤1024→∀ k j,B+(n+1)≤k→2 * (n+1)≤j→∀ m,Tab s.N m→Sim l cnt ns o ((G_syntax_reader_formula.rec_ k j).syntax_reader_single (rdOf l cnt ns s) ⟨s.N⟩ m):=by
 intro ns s o ho hs hns k j hk hj m hT
 obtain ⟨j,rfl⟩ : ∃ q,j=q+1:=⟨j - 1,by omega⟩
 show Sim l cnt ns o (syntax_reader_single.F k (G_syntax_reader_formula.rec_ k j) (rdOf l cnt ns s) ⟨s.N⟩ m)
 unfold ps at ho
 unfold syntax_reader_single.F
 rw [now_f l cnt ns s hs,bind_some']
 refine Sim.sign hlen hs hT ho (fun e=>rfl) (fun hn1 h=>?_) fun q hq hTq hqN _ h=>?_
 ·
  clear ho
  simp only [bif_and]
  cases h2:signB (hd s) [40] with
  | true =>
   have hne:=sign_ne h2
   rw [h2,cond_true] at h
   have e:((hd s).f_Kind == 3 && (hd s).f_Text == ([40] : List UInt8))=true:=h2
   rw [e]
   have hz:((rdOf l cnt ns s).f_nest == 1024)=decide (1024≤ns):=by
    show (((ns:Nat) : Int) == 1024)=_
    rw [Bool.eq_iff_iff,beq_iff_eq,decide_eq_true_eq]; omega
   simp only [bind_some',cond_true,cond_false]
   rw [hz]
   by_cases h10:1024≤ns
   ·rw [decide_eq_true h10,cond_true] at h
    rw [decide_eq_true h10,cond_true,fail_f l cnt ns s hs,← Option.some.inj h]
    exact ⟨_,rfl,rfl,rfl,hT⟩
   ·rw [decide_eq_false h10,cond_false] at h
    rw [decide_eq_false h10,cond_false,bind_some']
    have hw:wrap64 (((ns:Nat) : Int)+1)=((ns+1:Nat) : Int):=wsucc ns (by omega)
    obtain ⟨ha,htk⟩:=take_adv (cnt:=cnt) (ns:=ns+1) hlen hs hne (sign_uncounted (.inl h2)) ⟨s.N⟩ m
    have htk':syntax_reader_take.f (⟨(rdOf l cnt ns s).f_l,(rdOf l cnt ns s).f_i,(rdOf l cnt ns s).f_names,wrap64 ((rdOf l cnt ns s).f_nest+1),(rdOf l cnt ns s).f_counts,(rdOf l cnt ns s).f_full⟩ : T_syntax_reader) ⟨s.N⟩ m=some (.ok (hd s,rdOf l cnt (ns+1) (adv s))):=by
     rw [← htk]
     show syntax_reader_take.f (⟨l,_,_,wrap64 (((ns:Nat) : Int)+1),cnt,s.full⟩ : T_syntax_reader) ⟨s.N⟩ m=_
     rw [hw]
     rfl
    rw [htk',bind_some']
    refine Sim.bind (ns':=ns+1) (fun o1 h1=>ih.fo (ns+1) (adv s) o1 h1 ha (by omega) k j (by omega) (by omega) m hT) h (fun p=>rfl) fun a s1 m1 hs1 hT1 h1=>?_
    simp only
    cases h3:signB (hd s1) [41] with
    | true =>
     rw [h3,cond_true] at h1
     have hne1:=sign_ne h3
     rcases sign_yes l hlen cnt (ns+1) s1 hs1 ⟨s1.N⟩ m1 _ h3 with ⟨e,g1,_⟩|⟨q,g1,g2,g3,g4⟩
     ·have e':tk4 cnt s1 = .inr (adv s1):=by unfold tk4; rw [sign_uncounted (.inr h3)]; rfl
      rw [e'] at g1; cases g1
     ·have e':tk4 cnt s1 = .inr (adv s1):=by unfold tk4; rw [sign_uncounted (.inr h3)]; rfl
      rw [e'] at g1
      injection g1 with g1
      subst g1
      rw [g4,← Option.some.inj h1]
      have hw2:wrap64 (((ns+1:Nat) : Int) - 1)=((ns:Nat) : Int):=by rw [w64 (by omega) (by omega)]; omega
      refine ⟨_,rfl,rfl,?_,rfl,hT1,g2⟩
      show (⟨l,_,_,wrap64 (((ns+1:Nat) : Int) - 1),cnt,s1.full⟩ : T_syntax_reader)=_
      rw [hw2]
      rfl
    | false =>
     rw [h3,cond_false] at h1
     rw [sign_no l cnt (ns+1) s1 hs1 ⟨s1.N⟩ m1 _ h3,← Option.some.inj h1,bind_some']
     show Sim l cnt ns _ (((((syntax_reader_fail.f (rdOf l cnt (ns+1) s1) 41 ⟨s1.N⟩ m1).bind _)).bind _))
     rw [fail_f l cnt (ns+1) s1 hs1]
     exact ⟨_,rfl,rfl,rfl,hT1⟩
  | false =>
   rw [h2,cond_false] at h
   have e:((hd s).f_Kind == 3 && (hd s).f_Text == ([40] : List UInt8))=false:=h2
   rw [e]
   simp only [bind_some',cond_false]
   cases h3:(hd s).f_Kind == 1 && (hd s).f_Text == [116,114,117,101] with
   | true =>
    rw [h3,cond_true] at h
    rw [cond_true]
    refine Sim.take hlen hs hT (name_ne h3) h (fun e=>rfl) fun q hq hTq hqN h=>?_
    show Sim l cnt ns o ((syntax_reader_node.f k (rdOf l cnt ns q) 2 [] 0 0 ⟨s.N⟩ m).bind _)
    rw [← hqN]
    refine Sim.node hq hTq (by decide) (show 0 < k from by omega) fun m3 hT3 hs3=>?_
    refine Sim.node hs3 hT3 (by decide) (show 0 < k from by omega) fun m4 hT4 hs4=>?_
    rw [← Option.some.inj h]
    exact Sim.ok (q:=topN q) hT4 hs4
   | false =>
   rw [h3,cond_false] at h
   rw [cond_false]
   cases h4:(hd s).f_Kind == 1 && (hd s).f_Text == [102,97,108,115,101] with
   | true =>
    rw [h4,cond_true] at h
    rw [cond_true]
    refine Sim.take hlen hs hT (name_ne h4) h (fun e=>rfl) fun q hq hTq hqN h=>?_
    show Sim l cnt ns o ((syntax_reader_node.f k (rdOf l cnt ns q) 2 [] 0 0 ⟨s.N⟩ m).bind _)
    rw [← hqN]
    refine Sim.node hq hTq (by decide) (show 0 < k from by omega) fun m3 hT3 hs3=>?_
    rw [← Option.some.inj h]
    exact Sim.ok (q:=botN q) hT3 hs3
   | false =>
   rw [h4,cond_false] at h
   rw [cond_false]
   have ew:((bif ((hd s).f_Kind == 1) then (formula_Word.f k (hd s).f_Text).bind fun z420=>some z420 else some false) : Option Bool)=some ((hd s).f_Kind == 1 && wordB (hd s).f_Text):=by
    cases hk1:(hd s).f_Kind == 1 with
    | false=>rfl
    | true =>
     have hm:=hB _ (hd_mem hs (hd_ne (by rw [beq_iff_eq] at hk1; rw [hk1]; decide)))
     rw [word_f' k _ (by omega) (by omega)]
     rfl
   rw [ew,bind_some']
   cases h5:(hd s).f_Kind == 1 && wordB (hd s).f_Text with
   | true =>
    have hm:=hB _ (hd_mem hs (name_ne h5))
    rw [h5,cond_true] at h
    rw [cond_true]
    refine Sim.take hlen hs hT (name_ne h5) h (fun e=>rfl) fun q hq hTq hqN h=>?_
    show Sim l cnt ns o ((syntax_reader_node.f k (rdOf l cnt ns q) 1 (hd s).f_Text 0 0 ⟨s.N⟩ m).bind _)
    rw [← hqN]
    refine Sim.node hq hTq (by omega) (by omega) fun m3 hT3 hs3=>?_
    rw [← Option.some.inj h]
    exact Sim.ok (q:=nd q ⟨1,(hd s).f_Text,0,0⟩) hT3 hs3
   | false =>
    rw [h5,cond_false] at h
    rw [cond_false,fail_f l cnt ns s hs,← Option.some.inj h]
    exact ⟨_,rfl,rfl,rfl,hT⟩
 ·show Sim l cnt ns o (((G_syntax_reader_formula.rec_ k j).syntax_reader_single (rdOf l cnt ns q) ⟨s.N⟩ m).bind _)
  rw [← hqN]
  refine Sim.bind (fun o2 h2=>ih.si ns q o2 h2 hq hns k j (by omega) (by omega) m hTq) h (fun p=>rfl) fun a s2 m2 hs2 hT2 h2=>?_
  refine Sim.node hs2 hT2 (by decide) (show 0 < k from by omega) fun m3 hT3 hs3=>?_
  refine Sim.node hs3 hT3 (by decide) (show 0 < k from by omega) fun m4 hT4 hs4=>?_
  rw [← Option.some.inj h2]
  exact Sim.ok (q:=notN s2 a) hT4 hs4
theorem sims (hlen:l.length≤1000000000) (hB:∀ t ∈ l,t.f_Text.length≤1000000000∧t.f_Text.length < B) : ∀ n,Sims l cnt B n
 | 0=>⟨fun _ _ _ h=>(by cases h),fun _ _ _ h=>(by cases h),fun _ _ _ h=>(by cases h),fun _ _ _ h=>(by cases h),fun _ _ _ h=>(by cases h),fun _ _ _ _ h=>(by cases h),fun _ _ _ _ h=>(by cases h)⟩
 | n+1=>⟨sim_fo hlen (sims hlen hB n),sim_im hlen (sims hlen hB n),sim_jo (sims hlen hB n),sim_bo (sims hlen hB n),sim_si hlen hB (sims hlen hB n),sim_jl hlen (sims hlen hB n),sim_bl hlen (sims hlen hB n)⟩
end sim
end Go.Proofs.YtpmkkhkphddfeaaGreatDoor.X
set_option linter.unusedVariables false
set_option linter.unusedSimpArgs false
namespace Go.Proofs.YtpmkkhkphddfeaaGreatDoor.X
open Go Go.RowKit Go.Proofs.YtpmkkhkphddfeaaGreatDoor.SX
def F0':T_api_Fault:=⟨0,⟨0,0,0⟩⟩
def prOf (l:List T_api_Token) (c:Nat) (ns:Nat) (s:PS) : T_dictumref04_parser:=⟨l,((l.length - s.ts.length:Nat) : Int),(c:Int),(ns:Int),s.full,F0'⟩
def cts (ts:List T_api_Token) : Nat:=(ts.filter ctB).length
structure Okr (cnt:Bool) (l:List T_api_Token) (c:Nat) (s:PS) : Prop where
 suf:s.ts <:+ l
 cnt1:cnt=true→c=s.nm∧c≤512
 cnt0:cnt=false→c+cts s.ts≤512
 room:s.N.length≤1024
theorem sufr_drop {l t:List T_api_Token} (h:t <:+ l) : l.drop (l.length - t.length)=t:=(List.suffix_iff_eq_drop.1 h).symm
theorem tok_f (l:List T_api_Token) (c ns:Nat) (s:PS) (h:s.ts <:+ l) (T:T_dictumref03_T) : dictumref04_parser_tok.f (prOf l c ns s) T=some (hd s):=by
 unfold dictumref04_parser_tok.f
 show (bif decide (((l.length - s.ts.length:Nat) : Int) < (l.length:Int)) then (ix l ((l.length - s.ts.length:Nat) : Int)).bind _ else _)=_
 have hl:=h.length_le
 have hd':=sufr_drop h
 unfold hd
 by_cases he:s.ts=[]
 ·rw [he,List.length_nil,Nat.sub_zero,decide_eq_false (by omega:¬ (l.length:Int) < (l.length:Int))]
  rfl
 ·have hp:0 < s.ts.length:=List.length_pos_iff.2 he
  rw [decide_eq_true (by omega:((l.length - s.ts.length:Nat) : Int) < (l.length:Int)),cond_true,ix_nat]
  have:l[l.length - s.ts.length]?=s.ts.head?:=by rw [← List.head?_drop,hd']
  rw [this]
  cases hs:s.ts with
  | nil=>exact absurd hs he
  | cons a t=>rfl
theorem rsign_f (t:T_api_Token) (x:List UInt8) : dictumref04_sign.f t x=some (signB t x):=by
 unfold dictumref04_sign.f signB
 cases t.f_Kind == 3 <;> rfl
theorem is_f (l:List T_api_Token) (c ns:Nat) (s:PS) (h:s.ts <:+ l) (T:T_dictumref03_T) (x:List UInt8) : dictumref04_parser_is.f (prOf l c ns s) x T=some (signB (hd s) x):=by
 unfold dictumref04_parser_is.f
 show (bif true then _ else _)=_
 rw [cond_true,tok_f l c ns s h,bind_some',rsign_f,bind_some']
theorem rfail_f (l:List T_api_Token) (c ns:Nat) (s:PS) (h:s.ts <:+ l) (T:T_dictumref03_T) (e:Int) : dictumref04_parser_fail.f (prOf l c ns s) e T=some ⟨l,((l.length - s.ts.length:Nat) : Int),(c:Int),(ns:Int),s.full,⟨e,(hd s).f_At⟩⟩:=by
 unfold dictumref04_parser_fail.f
 show (bif true then _ else _)=_
 rw [cond_true,tok_f l c ns s h,bind_some']
 rfl
theorem rcounted_f (t:T_api_Token) : dictumref04_counted.f t=some (ctB t):=by
 unfold dictumref04_counted.f ctB
 simp only [rsign_f,bind_some']
 unfold signB
 cases t.f_Kind == 1 <;> cases t.f_Kind == 3 <;> cases (t.f_Text == ([126] : List UInt8)) <;> cases (t.f_Text == ([38] : List UInt8)) <;> cases (t.f_Text == ([124] : List UInt8)) <;> cases (t.f_Text == ([45,62] : List UInt8)) <;> cases (t.f_Text == ([60,45,62] : List UInt8)) <;> rfl
theorem cts_tail {s:PS} (hne:s.ts≠[]) : cts s.ts=(bif ctB (hd s) then 1 else 0)+cts s.ts.tail:=by
 unfold hd
 cases hs:s.ts with
 | nil=>exact absurd hs hne
 | cons a t =>
  show ((a :: t).filter ctB).length=(bif ctB a then 1 else 0)+(t.filter ctB).length
  rw [List.filter_cons]
  cases ctB a with
  | true=>rw [if_pos rfl,List.length_cons,cond_true]; omega
  | false=>rw [if_neg (by decide),cond_false]; omega
theorem rtake_f {cnt:Bool} (l:List T_api_Token) (hlen:l.length≤1000000000) (c ns:Nat) (s:PS) (h:Okr cnt l c s) (hne:s.ts≠[]) (T:T_dictumref03_T) : (∃ e p,tk4 cnt s = .inl e∧e.1.f_Code≠0∧dictumref04_parser_take.f (prOf l c ns s) T=some p∧p.f_bad=e.1∧0≤p.f_i)∨(∃ q c',tk4 cnt s = .inr q∧Okr cnt l c' q∧q.N=s.N∧dictumref04_parser_take.f (prOf l c ns s) T=some (prOf l c' ns q)):=by
 unfold dictumref04_parser_take.f
 have hl:=h.suf.length_le
 have hp:0 < s.ts.length:=List.length_pos_iff.2 hne
 have htl:s.ts.tail.length=s.ts.length - 1:=List.length_tail
 have hi:wrap64 (((l.length - s.ts.length:Nat) : Int)+1)=((l.length - s.ts.tail.length:Nat) : Int):=by
  rw [w64 (by omega) (by omega),htl]; omega
 have hsuf:s.ts.tail <:+ l:=(List.tail_suffix _).trans h.suf
 have hct:=cts_tail hne
 show _∨(∃ q c',tk4 cnt s = .inr q∧Okr cnt l c' q∧q.N=s.N∧(bif false then _ else _)=_)
 rw [cond_false,tok_f l c ns s h.suf,bind_some',rcounted_f,bind_some']
 unfold tk4
 cases hc:ctB (hd s) with
 | false =>
  rw [hc,cond_false,Nat.zero_add] at hct
  refine .inr ⟨adv s,c,rfl,⟨hsuf,h.cnt1,fun hh=>?_,h.room⟩,rfl,?_⟩
  ·have:=h.cnt0 hh
   show c+cts s.ts.tail≤512
   omega
  ·show some (⟨l,wrap64 (((l.length - s.ts.length:Nat) : Int)+1),(c:Int),(ns:Int),s.full,F0'⟩ : T_dictumref04_parser)=_
   rw [hi]
   rfl
 | true =>
  rw [hc,cond_true] at hct
  have hc512:c≤512:=by
   cases cnt with
   | true=>exact (h.cnt1 rfl).2
   | false=>have:=h.cnt0 rfl; omega
  have hw:wrap64 (((c:Nat) : Int)+1)=((c+1:Nat) : Int):=wsucc c (by omega)
  rw [show wrap64 ((prOf l c ns s).f_n+1)=((c+1:Nat) : Int) from hw]
  by_cases h5:c=512
  ·cases cnt with
   | false=>have:=h.cnt0 rfl; omega
   | true =>
    have hn:=(h.cnt1 rfl).1
    rw [decide_eq_true (by omega:((c+1:Nat) : Int) > 512)]
    refine .inl ⟨fl s 40,⟨l,((l.length - s.ts.length:Nat) : Int),((c+1:Nat) : Int),(ns:Int),s.full,⟨40,(hd s).f_At⟩⟩,?_,(by show (40:Int)≠0; decide),?_,rfl,Int.natCast_nonneg _⟩
    ·rw [← hn,h5]; rfl
    ·show ((((dictumref04_parser_fail.f (prOf l (c+1) ns s) 40 T).bind _).bind _))=_
     rw [rfail_f l (c+1) ns s h.suf]
     rfl
  ·rw [decide_eq_false (by omega:¬ ((c+1:Nat) : Int) > 512)]
   cases cnt with
   | true =>
    have hn:=(h.cnt1 rfl).1
    refine .inr ⟨⟨s.ts.tail,s.nm+1,s.full,s.N⟩,c+1,?_,⟨hsuf,fun _=>⟨by show c+1=s.nm+1; omega,by omega⟩,fun hh=>(by cases hh),h.room⟩,rfl,?_⟩
    ·rw [decide_eq_false (by omega:¬ s.nm=512)]; rfl
    ·show some (⟨l,wrap64 (((l.length - s.ts.length:Nat) : Int)+1),((c+1:Nat) : Int),(ns:Int),s.full,F0'⟩ : T_dictumref04_parser)=_
     rw [hi]
     rfl
   | false =>
    refine .inr ⟨adv s,c+1,rfl,⟨hsuf,fun hh=>(by cases hh),fun _=>?_,h.room⟩,rfl,?_⟩
    ·have:=h.cnt0 rfl
     show c+1+cts s.ts.tail≤512
     omega
    ·show some (⟨l,wrap64 (((l.length - s.ts.length:Nat) : Int)+1),((c+1:Nat) : Int),(ns:Int),s.full,F0'⟩ : T_dictumref04_parser)=_
     rw [hi]
     rfl
structure Bad (p:T_dictumref04_parser) : Prop where
 code:p.f_bad.f_Code≠0
 i:0≤p.f_i
theorem Bad.ne {p:T_dictumref04_parser} (h:Bad p) : (p.f_bad.f_Code != 0)=true:=by rw [bne_iff_ne]; exact h.code
theorem Bad.eq {p:T_dictumref04_parser} (h:Bad p) : (p.f_bad.f_Code == 0)=false:=by rw [← Bool.not_eq_true,beq_iff_eq]; exact h.code
theorem tok_bad {p:T_dictumref04_parser} (h:Bad p) (T:T_dictumref03_T) : ∃ t,dictumref04_parser_tok.f p T=some t:=by
 unfold dictumref04_parser_tok.f
 by_cases hc:p.f_i < (p.f_l.length:Int)
 ·rw [decide_eq_true hc,cond_true,ix_get h.i hc]
  exact ⟨_,rfl⟩
 ·rw [decide_eq_false hc]
  exact ⟨_,rfl⟩
theorem is_bad {p:T_dictumref04_parser} (h:Bad p) (x:List UInt8) (T:T_dictumref03_T) : dictumref04_parser_is.f p x T=some false:=by
 unfold dictumref04_parser_is.f
 rw [h.eq]
 rfl
theorem fail_bad {p:T_dictumref04_parser} (h:Bad p) (e:Int) (T:T_dictumref03_T) : dictumref04_parser_fail.f p e T=some p:=by
 unfold dictumref04_parser_fail.f
 rw [h.eq]
 rfl
theorem pput_bad {p:T_dictumref04_parser} (h:Bad p) (k:Nat) (x:T_api_Node) (T:T_dictumref03_T) : dictumref04_parser_put.f k p x T=some (0,p,T):=by
 unfold dictumref04_parser_put.f
 rw [h.ne]
 rfl
theorem two_bad {p:T_dictumref04_parser} (h:Bad p) (k:Nat) (kd a b:Int) (T:T_dictumref03_T) : dictumref04_parser_two.f k p kd a b T=some (0,p,T):=by
 unfold dictumref04_parser_two.f
 rw [pput_bad h]
 rfl
theorem single_bad {p:T_dictumref04_parser} (h:Bad p) (k j:Nat) (hj:1≤j) (T:T_dictumref03_T) : (G_dictumref04_parser_formula.rec_ k j).dictumref04_parser_single p T=some (0,p,T):=by
 obtain ⟨j,rfl⟩ : ∃ q,j=q+1:=⟨j - 1,by omega⟩
 show dictumref04_parser_single.F k (G_dictumref04_parser_formula.rec_ k j) p T=_
 unfold dictumref04_parser_single.F
 obtain ⟨t,ht⟩:=tok_bad h T
 rw [ht,bind_some',h.ne]
 rfl
theorem both_bad {p:T_dictumref04_parser} (h:Bad p) (k j:Nat) (hj:2≤j) (hk:1≤k) (T:T_dictumref03_T) : (G_dictumref04_parser_formula.rec_ k j).dictumref04_parser_both p T=some (0,p,T):=by
 obtain ⟨j,rfl⟩ : ∃ q,j=q+1:=⟨j - 1,by omega⟩
 obtain ⟨k,rfl⟩ : ∃ q,k=q+1:=⟨k - 1,by omega⟩
 show dictumref04_parser_both.F (k+1) (G_dictumref04_parser_formula.rec_ (k+1) j) p T=_
 unfold dictumref04_parser_both.F
 rw [single_bad h (k+1) j (by omega),bind_some',dictumref04_parser_both.l1.eq_2,is_bad h]
 rfl
theorem joined_bad {p:T_dictumref04_parser} (h:Bad p) (k j:Nat) (hj:3≤j) (hk:1≤k) (T:T_dictumref03_T) : (G_dictumref04_parser_formula.rec_ k j).dictumref04_parser_joined p T=some (0,p,T):=by
 obtain ⟨j,rfl⟩ : ∃ q,j=q+1:=⟨j - 1,by omega⟩
 obtain ⟨k,rfl⟩ : ∃ q,k=q+1:=⟨k - 1,by omega⟩
 show dictumref04_parser_joined.F (k+1) (G_dictumref04_parser_formula.rec_ (k+1) j) p T=_
 unfold dictumref04_parser_joined.F
 rw [both_bad h (k+1) j (by omega) (by omega),bind_some',dictumref04_parser_joined.l1.eq_2,is_bad h]
 rfl
theorem implied_bad {p:T_dictumref04_parser} (h:Bad p) (k j:Nat) (hj:4≤j) (hk:1≤k) (T:T_dictumref03_T) : (G_dictumref04_parser_formula.rec_ k j).dictumref04_parser_implied p T=some (0,p,T):=by
 obtain ⟨j,rfl⟩ : ∃ q,j=q+1:=⟨j - 1,by omega⟩
 show dictumref04_parser_implied.F k (G_dictumref04_parser_formula.rec_ k j) p T=_
 unfold dictumref04_parser_implied.F
 rw [joined_bad h k j (by omega) hk,bind_some',is_bad h]
 rfl
theorem formula_bad {p:T_dictumref04_parser} (h:Bad p) (k j:Nat) (hj:5≤j) (hk:1≤k) (T:T_dictumref03_T) : (G_dictumref04_parser_formula.rec_ k j).dictumref04_parser_formula p T=some (0,p,T):=by
 obtain ⟨j,rfl⟩ : ∃ q,j=q+1:=⟨j - 1,by omega⟩
 show dictumref04_parser_formula.F k (G_dictumref04_parser_formula.rec_ k j) p T=_
 unfold dictumref04_parser_formula.F
 rw [implied_bad h k j (by omega) hk,bind_some',is_bad h]
 rfl
end Go.Proofs.YtpmkkhkphddfeaaGreatDoor.X
set_option linter.unusedVariables false
set_option linter.unusedSimpArgs false
namespace Go.Proofs.YtpmkkhkphddfeaaGreatDoor.X
open Go Go.RowKit Go.Proofs.YtpmkkhkphddfeaaGreatDoor.SX
abbrev RO:=Int×T_dictumref04_parser×T_dictumref03_T
theorem rbif_and (a b:Bool) : ((bif a then some b else some false) : Option Bool)=some (a && b):=by cases a <;> rfl
section sim
variable {l:List T_api_Token} {cnt:Bool} {ns:Nat}
def ROut (l:List T_api_Token) (cnt:Bool) (ns:Nat) : Sum PE (Int×PS)→RO→Prop
 | .inl e,r=>r.2.1.f_bad=e.1∧Bad r.2.1
 | .inr q,r => ∃ c,r=(q.1,prOf l c ns q.2,⟨q.2.N⟩)∧Okr cnt l c q.2
def RSim (l:List T_api_Token) (cnt:Bool) (ns:Nat) (o:Sum PE (Int×PS)) (X:Option RO) : Prop:=∃ r,X=some r∧ROut l cnt ns o r
theorem rth_some {x:PO} {f:Int→PS→PO} {o:Sum PE (Int×PS)} (h:th x f=some o) : (∃ e,x=some (.inl e)∧o = .inl e)∨(∃ q,x=some (.inr q)∧f q.1 q.2=some o):=by
 unfold th at h
 cases x with
 | none=>cases h
 | some r =>
  cases r with
  | inl e=>exact .inl ⟨e,rfl,(Option.some.inj h).symm⟩
  | inr q=>exact .inr ⟨q,rfl,h⟩
theorem rtkn_some {s:PS} {f:PS→PO} {o:Sum PE (Int×PS)} (h:tkn cnt s f=some o) : (∃ e,tk4 cnt s = .inl e∧o = .inl e)∨(∃ q,tk4 cnt s = .inr q∧f q=some o):=by
 unfold tkn at h
 cases hx:tk4 cnt s with
 | inl e=>rw [hx] at h; exact .inl ⟨e,rfl,(Option.some.inj h).symm⟩
 | inr q=>rw [hx] at h; exact .inr ⟨q,rfl,h⟩
theorem RSim.bind {x:PO} {f:Int→PS→PO} {o:Sum PE (Int×PS)} {X:Option RO} {F:RO→Option RO} {ns':Nat} (h:∀ o1,x=some o1→RSim l cnt ns' o1 X) (ho:th x f=some o)
  (hbad:∀ a p T,Bad p→∃ r,F (a,p,T)=some r∧r.2.1=p) (hok:∀ a s c,Okr cnt l c s→f a s=some o→RSim l cnt ns o (F (a,prOf l c ns' s,⟨s.N⟩))) : RSim l cnt ns o (X.bind F):=by
 rcases rth_some ho with ⟨e,h1,rfl⟩|⟨q,h1,h2⟩
 ·obtain ⟨⟨a,p,T⟩,hX,g1,g2⟩:=h _ h1
  obtain ⟨r,e1,e2⟩:=hbad a p T g2
  rw [hX,bind_some',e1]
  exact ⟨_,rfl,by rw [e2]; exact g1,by rw [e2]; exact g2⟩
 ·obtain ⟨r,hX,c,rfl,g1⟩:=h _ h1
  rw [hX,bind_some']
  exact hok _ _ _ g1 h2
theorem RSim.take (hlen:l.length≤1000000000) {s:PS} {c:Nat} {T:T_dictumref03_T} {f:PS→PO} {o:Sum PE (Int×PS)} {G:T_dictumref04_parser→Option RO} (hs:Okr cnt l c s) (hne:s.ts≠[]) (ho:tkn cnt s f=some o)
  (hbad:∀ p,Bad p→∃ r,G p=some r∧r.2.1=p) (hok:∀ q c',Okr cnt l c' q→q.N=s.N→f q=some o→RSim l cnt ns o (G (prOf l c' ns q))) : RSim l cnt ns o ((dictumref04_parser_take.f (prOf l c ns s) T).bind G):=by
 rcases rtake_f l hlen c ns s hs hne T with ⟨e,p,h1,h2,h3,h4,h5⟩|⟨q,c',h1,h2,h3,h4⟩
 ·rcases rtkn_some ho with ⟨e',g1,rfl⟩|⟨q',g1,_⟩
  ·rw [g1] at h1
   injection h1 with h1
   subst h1
   have hb:Bad p:=⟨by rw [h4]; exact h2,h5⟩
   obtain ⟨r,e1,e2⟩:=hbad p hb
   rw [h3,bind_some',e1]
   exact ⟨_,rfl,by rw [e2]; exact h4,by rw [e2]; exact hb⟩
  ·rw [g1] at h1; cases h1
 ·rcases rtkn_some ho with ⟨e',g1,_⟩|⟨q',g1,g2⟩
  ·rw [g1] at h1; cases h1
  ·rw [g1] at h1
   injection h1 with h1
   subst h1
   rw [h4,bind_some']
   exact hok q' c' h2 h3 g2
theorem putN_room {N:List T_api_Node} (x:T_api_Node) (h:N.length≤1024) : (putN N x).2.2.length≤1024:=by
 by_cases h1:fitN N x=0
 ·cases hx:numN N x with
  | some i=>rw [putN_old h1 hx]; exact h
  | none =>
   by_cases h2:1024≤N.length
   ·rw [putN_full h1 hx h2]; exact h
   ·rw [putN_new h1 hx (by omega)]
    show (N++[x]).length≤1024
    rw [List.length_append,List.length_singleton]; omega
 ·rw [putN_bad h1]; exact h
theorem rnd_nm (s:PS) (x:T_api_Node) : (nd s x).2.nm=s.nm:=by
 unfold nd
 cases s.full <;> rfl
theorem Okr.nd {c:Nat} {s:PS} (h:Okr cnt l c s) (x:T_api_Node) : Okr cnt l c (nd s x).2:=by
 refine ⟨by rw [nd_ts]; exact h.suf,fun hh=>by rw [rnd_nm]; exact h.cnt1 hh,fun hh=>by rw [nd_ts]; exact h.cnt0 hh,?_⟩
 unfold X.nd
 cases s.full with
 | true=>exact h.room
 | false=>exact putN_room x h.room
theorem pput_f {s:PS} {c:Nat} (hs:Okr cnt l c s) (k:Nat) (x:T_api_Node) (hn:x.f_Name.length≤1000000000000) (hk:x.f_Name.length < k) (hk2:1025≤k) : dictumref04_parser_put.f k (prOf l c ns s) x ⟨s.N⟩=some ((nd s x).1,prOf l c ns (nd s x).2,⟨(nd s x).2.N⟩):=by
 unfold dictumref04_parser_put.f nd
 show (((some s.full:Option Bool)).bind _)=_
 rw [bind_some']
 cases hf:s.full with
 | true =>
  show some (0,prOf l c ns s,_)=some (0,prOf l c ns s,_)
  rfl
 | false =>
  rw [cond_false,cond_false]
  show (dictumref03_T_Put.f k ⟨s.N⟩ x).bind _=_
  rw [rput_f k s.N x hs.room hn hk hk2,bind_some']
  simp only
  cases hc:((putN s.N x).2.1 == 30) with
  | true=>rfl
  | false =>
   rw [cond_false]
   show some ((putN s.N x).1,(⟨l,((l.length - s.ts.length:Nat) : Int),(c:Int),(ns:Int),s.full,F0'⟩ : T_dictumref04_parser),_)=_
   rw [hf]
   rfl
theorem two_f {s:PS} {c:Nat} (hs:Okr cnt l c s) (k:Nat) (kd a b:Int) (hk2:1025≤k) : dictumref04_parser_two.f k (prOf l c ns s) kd a b ⟨s.N⟩=some ((nd s ⟨kd,[],a,b⟩).1,prOf l c ns (nd s ⟨kd,[],a,b⟩).2,⟨(nd s ⟨kd,[],a,b⟩).2.N⟩):=by
 unfold dictumref04_parser_two.f
 rw [pput_f hs k ⟨kd,[],a,b⟩ (Nat.zero_le _) (show 0 < k from by omega) hk2]
 rfl
theorem pbot_f {s:PS} {c:Nat} (hs:Okr cnt l c s) (k:Nat) (hk2:1025≤k) : dictumref04_parser_put.f k (prOf l c ns s) (⟨2,([] : List UInt8),(0:Int),(0:Int)⟩ : T_api_Node) ⟨s.N⟩=some ((botN s).1,prOf l c ns (botN s).2,⟨(botN s).2.N⟩):=pput_f hs k ⟨2,[],0,0⟩ (Nat.zero_le _) (show 0 < k from by omega) hk2
theorem RSim.ok {q:Int×PS} {c:Nat} (hs:Okr cnt l c q.2) : RSim l cnt ns (.inr q) (some (q.1,prOf l c ns q.2,⟨q.2.N⟩)):=⟨_,rfl,c,rfl,hs⟩
structure RSims (l:List T_api_Token) (cnt:Bool) (B n:Nat) : Prop where
 fo:∀ ns s c o,ps cnt n .fo ns s=some o→Okr cnt l c s→ns≤1024→∀ k j,B+n≤k→n+5≤j→RSim l cnt ns o ((G_dictumref04_parser_formula.rec_ k j).dictumref04_parser_formula (prOf l c ns s) ⟨s.N⟩)
 im:∀ ns s c o,ps cnt n .im ns s=some o→Okr cnt l c s→ns≤1024→∀ k j,B+n≤k→n+5≤j→RSim l cnt ns o ((G_dictumref04_parser_formula.rec_ k j).dictumref04_parser_implied (prOf l c ns s) ⟨s.N⟩)
 jo:∀ ns s c o,ps cnt n .jo ns s=some o→Okr cnt l c s→ns≤1024→∀ k j,B+n≤k→n+5≤j→RSim l cnt ns o ((G_dictumref04_parser_formula.rec_ k j).dictumref04_parser_joined (prOf l c ns s) ⟨s.N⟩)
 bo:∀ ns s c o,ps cnt n .bo ns s=some o→Okr cnt l c s→ns≤1024→∀ k j,B+n≤k→n+5≤j→RSim l cnt ns o ((G_dictumref04_parser_formula.rec_ k j).dictumref04_parser_both (prOf l c ns s) ⟨s.N⟩)
 si:∀ ns s c o,ps cnt n .si ns s=some o→Okr cnt l c s→ns≤1024→∀ k j,B+n≤k→n+5≤j→RSim l cnt ns o ((G_dictumref04_parser_formula.rec_ k j).dictumref04_parser_single (prOf l c ns s) ⟨s.N⟩)
 jl:∀ a ns s c o,ps cnt n (.jl a) ns s=some o→Okr cnt l c s→ns≤1024→∀ k j kk,B+n≤k→n+5≤j→n+1≤kk→RSim l cnt ns o (dictumref04_parser_joined.l1 k (G_dictumref04_parser_formula.rec_ k j) kk a (prOf l c ns s) ⟨s.N⟩)
 bl:∀ a ns s c o,ps cnt n (.bl a) ns s=some o→Okr cnt l c s→ns≤1024→∀ k j kk,B+n≤k→n+5≤j→n+1≤kk→RSim l cnt ns o (dictumref04_parser_both.l1 k (G_dictumref04_parser_formula.rec_ k j) kk a (prOf l c ns s) ⟨s.N⟩)
variable {B n:Nat}
theorem rsim_im (hlen:l.length≤1000000000) (hB:1025≤B) (ih:RSims l cnt B n) : ∀ ns s c o,ps cnt (n+1) .im ns s=some o→Okr cnt l c s→ns≤1024→∀ k j,B+(n+1)≤k→n+1+5≤j→RSim l cnt ns o ((G_dictumref04_parser_formula.rec_ k j).dictumref04_parser_implied (prOf l c ns s) ⟨s.N⟩):=by
 intro ns s c o ho hs hns k j hk hj
 obtain ⟨j,rfl⟩ : ∃ q,j=q+1:=⟨j - 1,by omega⟩
 show RSim l cnt ns o (dictumref04_parser_implied.F k (G_dictumref04_parser_formula.rec_ k j) (prOf l c ns s) ⟨s.N⟩)
 unfold ps at ho
 unfold dictumref04_parser_implied.F
 refine RSim.bind (fun o1 h1=>ih.jo ns s c o1 h1 hs hns k j (by omega) (by omega)) ho (fun a p T hb=>⟨(a,p,T),?_,rfl⟩) fun a s1 c1 hs1 h1=>?_
 ·rw [is_bad hb]; rfl
 ·simp only
  rw [is_f l c1 ns s1 hs1.suf,bind_some']
  cases hc:signB (hd s1) [45,62] with
  | false =>
   rw [hc,cond_false] at h1
   rw [← Option.some.inj h1]
   exact RSim.ok (q:=(a,s1)) hs1
  | true =>
   rw [hc,cond_true] at h1
   show RSim l cnt ns o ((dictumref04_parser_take.f (prOf l c1 ns s1) ⟨s1.N⟩).bind _)
   refine RSim.take hlen hs1 (sign_ne hc) h1 (fun p hb=>?_) fun q c2 hq hqN h2=>?_
   ·rw [implied_bad hb k j (by omega) (by omega),bind_some',two_bad hb]; exact ⟨_,rfl,rfl⟩
   ·rw [← hqN]
    refine RSim.bind (fun o2 h2=>ih.im ns q c2 o2 h2 hq hns k j (by omega) (by omega)) h2 (fun b p T hb=>?_) fun b s2 c3 hs2 h3=>?_
    ·rw [two_bad hb]; exact ⟨_,rfl,rfl⟩
    ·simp only
     rw [two_f hs2 k 5 a b (by omega),← Option.some.inj h3]
     exact RSim.ok (q:=impN s2 a b) (hs2.nd _)
theorem rsim_fo (hlen:l.length≤1000000000) (hB:1025≤B) (ih:RSims l cnt B n) : ∀ ns s c o,ps cnt (n+1) .fo ns s=some o→Okr cnt l c s→ns≤1024→∀ k j,B+(n+1)≤k→n+1+5≤j→RSim l cnt ns o ((G_dictumref04_parser_formula.rec_ k j).dictumref04_parser_formula (prOf l c ns s) ⟨s.N⟩):=by
 intro ns s c o ho hs hns k j hk hj
 obtain ⟨j,rfl⟩ : ∃ q,j=q+1:=⟨j - 1,by omega⟩
 show RSim l cnt ns o (dictumref04_parser_formula.F k (G_dictumref04_parser_formula.rec_ k j) (prOf l c ns s) ⟨s.N⟩)
 unfold ps at ho
 unfold dictumref04_parser_formula.F
 refine RSim.bind (fun o1 h1=>ih.im ns s c o1 h1 hs hns k j (by omega) (by omega)) ho (fun a p T hb=>⟨(a,p,T),?_,rfl⟩) fun a s1 c1 hs1 h1=>?_
 ·rw [is_bad hb]; rfl
 ·simp only
  rw [is_f l c1 ns s1 hs1.suf,bind_some']
  cases hc:signB (hd s1) [60,45,62] with
  | false =>
   rw [hc,cond_false] at h1
   rw [← Option.some.inj h1]
   exact RSim.ok (q:=(a,s1)) hs1
  | true =>
   rw [hc,cond_true] at h1
   show RSim l cnt ns o ((dictumref04_parser_take.f (prOf l c1 ns s1) ⟨s1.N⟩).bind _)
   have frz:∀ (b:Int) (p:T_dictumref04_parser) (T:T_dictumref03_T),Bad p→∃ r,((dictumref04_parser_two.f k p 5 a b T).bind fun z139=>(dictumref04_parser_two.f k z139.2.1 5 b a z139.2.2).bind fun z151=>(dictumref04_parser_two.f k z151.2.1 3 z139.1 z151.1 z151.2.2).bind fun z163=>some (z163.1,z163.2.1,z163.2.2))=some r∧r.2.1=p:=by
    intro b p T hb
    rw [two_bad hb,bind_some',two_bad hb,bind_some',two_bad hb]
    exact ⟨_,rfl,rfl⟩
   refine RSim.take hlen hs1 (sign_ne hc) h1 (fun p hb=>?_) fun q c2 hq hqN h2=>?_
   ·rw [formula_bad hb k j (by omega) (by omega),bind_some']; exact frz 0 p _ hb
   ·rw [← hqN]
    refine RSim.bind (fun o2 h2=>ih.fo ns q c2 o2 h2 hq hns k j (by omega) (by omega)) h2 (fun b p T hb=>frz b p T hb) fun b s2 c3 hs2 h3=>?_
    simp only
    rw [two_f hs2 k 5 a b (by omega),bind_some']
    simp only
    rw [two_f (hs2.nd _) k 5 b a (by omega),bind_some']
    simp only
    rw [two_f ((hs2.nd _).nd _) k 3 _ _ (by omega),← Option.some.inj h3]
    exact RSim.ok (q:=iffN s2 a b) (((hs2.nd _).nd _).nd _)
theorem rsim_jo (ih:RSims l cnt B n) (hB:1025≤B) : ∀ ns s c o,ps cnt (n+1) .jo ns s=some o→Okr cnt l c s→ns≤1024→∀ k j,B+(n+1)≤k→n+1+5≤j→RSim l cnt ns o ((G_dictumref04_parser_formula.rec_ k j).dictumref04_parser_joined (prOf l c ns s) ⟨s.N⟩):=by
 intro ns s c o ho hs hns k j hk hj
 obtain ⟨j,rfl⟩ : ∃ q,j=q+1:=⟨j - 1,by omega⟩
 show RSim l cnt ns o (dictumref04_parser_joined.F k (G_dictumref04_parser_formula.rec_ k j) (prOf l c ns s) ⟨s.N⟩)
 unfold ps at ho
 unfold dictumref04_parser_joined.F
 refine RSim.bind (fun o1 h1=>ih.bo ns s c o1 h1 hs hns k j (by omega) (by omega)) ho (fun a p T hb=>⟨(a,p,T),?_,rfl⟩) fun a s1 c1 hs1 h1=>?_
 ·obtain ⟨q,rfl⟩ : ∃ q,k=q+1:=⟨k - 1,by omega⟩
  rw [dictumref04_parser_joined.l1.eq_2,is_bad hb]; rfl
 ·obtain ⟨⟨a',p',T'⟩,e1,e2⟩:=ih.jl a ns s1 c1 o h1 hs1 hns k j k (by omega) (by omega) (by omega)
  simp only
  rw [e1]
  exact ⟨_,rfl,e2⟩
theorem rsim_bo (ih:RSims l cnt B n) (hB:1025≤B) : ∀ ns s c o,ps cnt (n+1) .bo ns s=some o→Okr cnt l c s→ns≤1024→∀ k j,B+(n+1)≤k→n+1+5≤j→RSim l cnt ns o ((G_dictumref04_parser_formula.rec_ k j).dictumref04_parser_both (prOf l c ns s) ⟨s.N⟩):=by
 intro ns s c o ho hs hns k j hk hj
 obtain ⟨j,rfl⟩ : ∃ q,j=q+1:=⟨j - 1,by omega⟩
 show RSim l cnt ns o (dictumref04_parser_both.F k (G_dictumref04_parser_formula.rec_ k j) (prOf l c ns s) ⟨s.N⟩)
 unfold ps at ho
 unfold dictumref04_parser_both.F
 refine RSim.bind (fun o1 h1=>ih.si ns s c o1 h1 hs hns k j (by omega) (by omega)) ho (fun a p T hb=>⟨(a,p,T),?_,rfl⟩) fun a s1 c1 hs1 h1=>?_
 ·obtain ⟨q,rfl⟩ : ∃ q,k=q+1:=⟨k - 1,by omega⟩
  rw [dictumref04_parser_both.l1.eq_2,is_bad hb]; rfl
 ·obtain ⟨⟨a',p',T'⟩,e1,e2⟩:=ih.bl a ns s1 c1 o h1 hs1 hns k j k (by omega) (by omega) (by omega)
  simp only
  rw [e1]
  exact ⟨_,rfl,e2⟩
theorem rsim_bl (hlen:l.length≤1000000000) (hB:1025≤B) (ih:RSims l cnt B n) : ∀ a ns s c o,ps cnt (n+1) (.bl a) ns s=some o→Okr cnt l c s→ns≤1024→∀ k j kk,B+(n+1)≤k→n+1+5≤j→n+1+1≤kk→RSim l cnt ns o (dictumref04_parser_both.l1 k (G_dictumref04_parser_formula.rec_ k j) kk a (prOf l c ns s) ⟨s.N⟩):=by
 intro a ns s c o ho hs hns k j kk hk hj hkk
 obtain ⟨kk,rfl⟩ : ∃ q,kk=q+2:=⟨kk - 2,by omega⟩
 rw [dictumref04_parser_both.l1.eq_2,is_f l c ns s hs.suf,bind_some']
 unfold ps at ho
 cases hc:signB (hd s) [38] with
 | false =>
  rw [hc,cond_false] at ho
  rw [← Option.some.inj ho]
  exact RSim.ok (q:=(a,s)) hs
 | true =>
  rw [hc,cond_true] at ho
  rw [cond_true]
  have frz:∀ (b:Int) (p:T_dictumref04_parser) (T:T_dictumref03_T),Bad p→∃ r,((dictumref04_parser_two.f k p 3 a b T).bind fun z164=>dictumref04_parser_both.l1 k (G_dictumref04_parser_formula.rec_ k j) (kk+1) z164.1 z164.2.1 z164.2.2)=some r∧r.2.1=p:=by
   intro b p T hb
   rw [two_bad hb,bind_some',dictumref04_parser_both.l1.eq_2,is_bad hb]
   exact ⟨_,rfl,rfl⟩
  refine RSim.take hlen hs (sign_ne hc) ho (fun p hb=>?_) fun q c2 hq hqN h2=>?_
  ·rw [single_bad hb k j (by omega),bind_some']; exact frz 0 p _ hb
  ·rw [← hqN]
   refine RSim.bind (fun o2 h2=>ih.si ns q c2 o2 h2 hq hns k j (by omega) (by omega)) h2 (fun b p T hb=>frz b p T hb) fun b s2 c3 hs2 h3=>?_
   simp only
   rw [two_f hs2 k 3 a b (by omega),bind_some']
   exact ih.bl _ ns _ c3 o h3 (hs2.nd _) hns k j (kk+1) (by omega) (by omega) (by omega)
theorem rsim_jl (hlen:l.length≤1000000000) (hB:1025≤B) (ih:RSims l cnt B n) : ∀ a ns s c o,ps cnt (n+1) (.jl a) ns s=some o→Okr cnt l c s→ns≤1024→∀ k j kk,B+(n+1)≤k→n+1+5≤j→n+1+1≤kk→RSim l cnt ns o (dictumref04_parser_joined.l1 k (G_dictumref04_parser_formula.rec_ k j) kk a (prOf l c ns s) ⟨s.N⟩):=by
 intro a ns s c o ho hs hns k j kk hk hj hkk
 obtain ⟨kk,rfl⟩ : ∃ q,kk=q+2:=⟨kk - 2,by omega⟩
 rw [dictumref04_parser_joined.l1.eq_2,is_f l c ns s hs.suf,bind_some']
 unfold ps at ho
 cases hc:signB (hd s) [124] with
 | false =>
  rw [hc,cond_false] at ho
  rw [← Option.some.inj ho]
  exact RSim.ok (q:=(a,s)) hs
 | true =>
  rw [hc,cond_true] at ho
  rw [cond_true]
  have frz:∀ (b:Int) (p:T_dictumref04_parser) (T:T_dictumref03_T),Bad p→∃ r,((dictumref04_parser_two.f k p 4 a b T).bind fun z164=>dictumref04_parser_joined.l1 k (G_dictumref04_parser_formula.rec_ k j) (kk+1) z164.1 z164.2.1 z164.2.2)=some r∧r.2.1=p:=by
   intro b p T hb
   rw [two_bad hb,bind_some',dictumref04_parser_joined.l1.eq_2,is_bad hb]
   exact ⟨_,rfl,rfl⟩
  refine RSim.take hlen hs (sign_ne hc) ho (fun p hb=>?_) fun q c2 hq hqN h2=>?_
  ·rw [both_bad hb k j (by omega) (by omega),bind_some']; exact frz 0 p _ hb
  ·rw [← hqN]
   refine RSim.bind (fun o2 h2=>ih.bo ns q c2 o2 h2 hq hns k j (by omega) (by omega)) h2 (fun b p T hb=>frz b p T hb) fun b s2 c3 hs2 h3=>?_
   simp only
   rw [two_f hs2 k 4 a b (by omega),bind_some']
   exact ih.jl _ ns _ c3 o h3 (hs2.nd _) hns k j (kk+1) (by omega) (by omega) (by omega)
theorem rsign_uncounted {t:T_api_Token} (h:signB t [40]=true∨signB t [41]=true) : ctB t=false:=by
 unfold signB at h
 simp only [Bool.and_eq_true,beq_iff_eq] at h
 unfold ctB
 rcases h with ⟨h1,h2⟩|⟨h1,h2⟩ <;> rw [h1,h2] <;> rfl
theorem Okr.adv {s:PS} {c:Nat} (h:Okr cnt l c s) (hne:s.ts≠[]) (hc:ctB (hd s)=false) : Okr cnt l c (adv s):=by
 have:=cts_tail hne
 rw [hc,cond_false,Nat.zero_add] at this
 refine ⟨(List.tail_suffix _).trans h.suf,h.cnt1,fun hh=>?_,h.room⟩
 have h2:=h.cnt0 hh
 show c+cts s.ts.tail≤512
 omega
theorem rhd_mem {s:PS} (h:s.ts <:+ l) (hne:s.ts≠[]) : hd s ∈ l:=by
 unfold hd
 cases ht:s.ts with
 | nil=>exact absurd ht hne
 | cons a t=>exact h.subset (by rw [ht]; exact List.mem_cons_self ..)
theorem rname_ne {s:PS} {b:Bool} (h:((hd s).f_Kind == 1 && b)=true) : s.ts≠[]:=name_ne h
theorem rsim_si (hlen:l.length≤1000000000) (hB:1025≤B) (hT:∀ t ∈ l,t.f_Text.length≤1000000000∧t.f_Text.length < B) (ih:RSims l cnt B n) : ∀ ns s c o,ps cnt (n+1) .si ns s=some o→Okr cnt l c s→ns≤1024→∀ k j,B+(n+1)≤k→n+1+5≤j→RSim l cnt ns o ((G_dictumref04_parser_formula.rec_ k j).dictumref04_parser_single (prOf l c ns s) ⟨s.N⟩):=by
 intro ns s c o ho hs hns k j hk hj
 obtain ⟨j,rfl⟩ : ∃ q,j=q+1:=⟨j - 1,by omega⟩
 show RSim l cnt ns o (dictumref04_parser_single.F k (G_dictumref04_parser_formula.rec_ k j) (prOf l c ns s) ⟨s.N⟩)
 unfold ps at ho
 unfold dictumref04_parser_single.F
 rw [tok_f l c ns s hs.suf,bind_some',show ((prOf l c ns s).f_bad.f_Code != 0)=false from rfl,cond_false,is_f l c ns s hs.suf,bind_some',is_f l c ns s hs.suf]
 simp only [rbif_and]
 cases h1:signB (hd s) [126] with
 | true =>
  rw [h1,cond_true] at ho
  rw [cond_true]
  have frz:∀ (a:Int) (p:T_dictumref04_parser) (T:T_dictumref03_T),Bad p→∃ r,((dictumref04_parser_put.f k p (⟨2,([] : List UInt8),(0:Int),(0:Int)⟩ : T_api_Node) T).bind fun z140=>(dictumref04_parser_two.f k z140.2.1 5 a z140.1 z140.2.2).bind fun z152=>some (z152.1,z152.2.1,z152.2.2))=some r∧r.2.1=p:=by
   intro a p T hb
   rw [pput_bad hb,bind_some',two_bad hb]
   exact ⟨_,rfl,rfl⟩
  refine RSim.take hlen hs (sign_ne h1) ho (fun p hb=>?_) fun q c2 hq hqN h2=>?_
  ·rw [single_bad hb k j (by omega),bind_some']; exact frz 0 p _ hb
  ·rw [← hqN]
   refine RSim.bind (fun o2 h2=>ih.si ns q c2 o2 h2 hq hns k j (by omega) (by omega)) h2 (fun a p T hb=>frz a p T hb) fun a s2 c3 hs2 h3=>?_
   simp only
   rw [pbot_f hs2 k (by omega),bind_some']
   simp only
   rw [two_f (s:=(botN s2).2) (hs2.nd _) k 5 _ _ (by omega),← Option.some.inj h3]
   exact RSim.ok (q:=notN s2 a) ((hs2.nd _).nd _)
 | false =>
 rw [h1,cond_false] at ho
 rw [cond_false,bind_some']
 cases h2:signB (hd s) [40] with
 | true =>
  have hne:=sign_ne h2
  rw [h2,cond_true] at ho
  rw [cond_true]
  have hz:decide ((prOf l c ns s).f_deep ≥ 1024)=decide (1024≤ns):=by
   show decide (((ns:Nat) : Int) ≥ 1024)=_
   rw [decide_eq_decide]; omega
  rw [hz]
  by_cases h10:1024≤ns
  ·rw [decide_eq_true h10,cond_true] at ho
   rw [decide_eq_true h10,cond_true,rfail_f l c ns s hs.suf,← Option.some.inj ho]
   exact ⟨_,rfl,rfl,by show (41:Int)≠0; decide,Int.natCast_nonneg _⟩
  ·rw [decide_eq_false h10,cond_false] at ho
   rw [decide_eq_false h10,cond_false]
   have hun:=rsign_uncounted (.inl h2)
   have hl:=hs.suf.length_le
   have hp:0 < s.ts.length:=List.length_pos_iff.2 hne
   have htl:s.ts.tail.length=s.ts.length - 1:=List.length_tail
   have hst:(⟨(prOf l c ns s).f_l,wrap64 ((prOf l c ns s).f_i+1),(prOf l c ns s).f_n,wrap64 ((prOf l c ns s).f_deep+1),(prOf l c ns s).f_full,(⟨(prOf l c ns s).f_bad.f_Code,(⟨(prOf l c ns s).f_bad.f_At.f_Line,(prOf l c ns s).f_bad.f_At.f_Col,(prOf l c ns s).f_bad.f_At.f_Off⟩ : T_api_Spot)⟩ : T_api_Fault)⟩ : T_dictumref04_parser)=prOf l c (ns+1) (adv s):=by
    show (⟨l,wrap64 (((l.length - s.ts.length:Nat) : Int)+1),(c:Int),wrap64 (((ns:Nat) : Int)+1),s.full,F0'⟩ : T_dictumref04_parser)=⟨l,((l.length - s.ts.tail.length:Nat) : Int),(c:Int),((ns+1:Nat) : Int),s.full,F0'⟩
    rw [wsucc ns (by omega),w64 (by omega) (by omega),htl,show ((l.length - s.ts.length:Nat) : Int)+1=((l.length - (s.ts.length - 1) : Nat) : Int) from by omega]
   rw [hst]
   refine RSim.bind (ns':=ns+1) (fun o1 h1=>ih.fo (ns+1) (adv s) c o1 h1 (hs.adv hne hun) (by omega) k j (by omega) (by omega)) ho (fun a p T hb=>?_) fun a s1 c1 hs1 h1=>?_
   ·rw [is_bad hb]
    show ∃ r,((dictumref04_parser_fail.f p 41 T).bind _)=some r∧_
    rw [fail_bad hb]
    exact ⟨_,rfl,rfl⟩
   ·simp only
    rw [is_f l c1 (ns+1) s1 hs1.suf,bind_some']
    cases h3:signB (hd s1) [41] with
    | true =>
     rw [h3,cond_true] at h1
     have hne1:=sign_ne h3
     have hl1:=hs1.suf.length_le
     have hp1:0 < s1.ts.length:=List.length_pos_iff.2 hne1
     have htl1:s1.ts.tail.length=s1.ts.length - 1:=List.length_tail
     rw [← Option.some.inj h1]
     refine ⟨_,rfl,c1,?_,hs1.adv hne1 (rsign_uncounted (.inr h3))⟩
     show (a,(⟨l,wrap64 (((l.length - s1.ts.length:Nat) : Int)+1),(c1:Int),wrap64 (((ns+1:Nat) : Int) - 1),s1.full,F0'⟩ : T_dictumref04_parser),(⟨s1.N⟩ : T_dictumref03_T))=(a,⟨l,((l.length - s1.ts.tail.length:Nat) : Int),(c1:Int),((ns:Nat) : Int),s1.full,F0'⟩,⟨s1.N⟩)
     rw [w64 (by omega) (by omega),w64 (by omega) (by omega),htl1,show ((l.length - s1.ts.length:Nat) : Int)+1=((l.length - (s1.ts.length - 1) : Nat) : Int) from by omega,show ((ns+1:Nat) : Int) - 1=(ns:Int) from by omega]
    | false =>
     rw [h3,cond_false] at h1
     show RSim l cnt ns o ((dictumref04_parser_fail.f (prOf l c1 (ns+1) s1) 41 ⟨s1.N⟩).bind _)
     rw [rfail_f l c1 (ns+1) s1 hs1.suf,← Option.some.inj h1]
     exact ⟨_,rfl,rfl,by show (41:Int)≠0; decide,Int.natCast_nonneg _⟩
 | false =>
 rw [h2,cond_false] at ho
 rw [cond_false,bind_some']
 cases h3:(hd s).f_Kind == 1 && (hd s).f_Text == [116,114,117,101] with
 | true =>
  rw [h3,cond_true] at ho
  rw [cond_true]
  refine RSim.take hlen hs (rname_ne h3) ho (fun p hb=>?_) fun q c2 hq hqN h=>?_
  ·rw [pput_bad hb,bind_some',two_bad hb]; exact ⟨_,rfl,rfl⟩
  ·rw [← hqN,pbot_f hq k (by omega),bind_some']
   simp only
   rw [two_f (s:=(botN q).2) (hq.nd _) k 5 _ _ (by omega),← Option.some.inj h]
   exact RSim.ok (q:=topN q) ((hq.nd _).nd _)
 | false =>
 rw [h3,cond_false] at ho
 rw [cond_false,bind_some']
 cases h4:(hd s).f_Kind == 1 && (hd s).f_Text == [102,97,108,115,101] with
 | true =>
  rw [h4,cond_true] at ho
  rw [cond_true]
  refine RSim.take hlen hs (rname_ne h4) ho (fun p hb=>?_) fun q c2 hq hqN h=>?_
  ·rw [pput_bad hb]; exact ⟨_,rfl,rfl⟩
  ·rw [← hqN,pbot_f hq k (by omega),← Option.some.inj h]
   exact RSim.ok (q:=botN q) (hq.nd _)
 | false =>
 rw [h4,cond_false] at ho
 rw [cond_false]
 have ew:((bif ((hd s).f_Kind == 1) then (dictumref03_Word.f k (hd s).f_Text).bind fun z324=>some z324 else some false) : Option Bool)=some ((hd s).f_Kind == 1 && wordB (hd s).f_Text):=by
  cases hk1:(hd s).f_Kind == 1 with
  | false=>rfl
  | true =>
   have hm:=hT _ (rhd_mem hs.suf (hd_ne (by rw [beq_iff_eq] at hk1; rw [hk1]; decide)))
   rw [rword_f' k _ (by omega) (by omega) (by omega)]
   rfl
 rw [ew,bind_some']
 cases h5:(hd s).f_Kind == 1 && wordB (hd s).f_Text with
 | true =>
  have hm:=hT _ (rhd_mem hs.suf (rname_ne h5))
  rw [h5,cond_true] at ho
  rw [cond_true]
  refine RSim.take hlen hs (rname_ne h5) ho (fun p hb=>?_) fun q c2 hq hqN h=>?_
  ·rw [pput_bad hb]; exact ⟨_,rfl,rfl⟩
  ·rw [← hqN,pput_f hq k ⟨1,(hd s).f_Text,0,0⟩ (by show (hd s).f_Text.length≤_; omega) (by show (hd s).f_Text.length < k; omega) (by omega),← Option.some.inj h]
   exact RSim.ok (q:=nd q ⟨1,(hd s).f_Text,0,0⟩) (hq.nd _)
 | false =>
  rw [h5,cond_false] at ho
  rw [cond_false,rfail_f l c ns s hs.suf,← Option.some.inj ho]
  exact ⟨_,rfl,rfl,by show (41:Int)≠0; decide,Int.natCast_nonneg _⟩
theorem rsims (hlen:l.length≤1000000000) (hB:1025≤B) (hT:∀ t ∈ l,t.f_Text.length≤1000000000∧t.f_Text.length < B) : ∀ n,RSims l cnt B n
 | 0=>⟨fun _ _ _ _ h=>(by cases h),fun _ _ _ _ h=>(by cases h),fun _ _ _ _ h=>(by cases h),fun _ _ _ _ h=>(by cases h),fun _ _ _ _ h=>(by cases h),fun _ _ _ _ _ h=>(by cases h),fun _ _ _ _ _ h=>(by cases h)⟩
 | n+1=>⟨rsim_fo hlen hB (rsims hlen hB hT n),rsim_im hlen hB (rsims hlen hB hT n),rsim_jo (rsims hlen hB hT n) hB,rsim_bo (rsims hlen hB hT n) hB,rsim_si hlen hB hT (rsims hlen hB hT n),rsim_jl hlen hB (rsims hlen hB hT n),rsim_bl hlen hB (rsims hlen hB hT n)⟩
end sim
end Go.Proofs.YtpmkkhkphddfeaaGreatDoor.X
set_option linter.unusedVariables false
set_option linter.unusedSimpArgs false
namespace Go.Proofs.YtpmkkhkphddfeaaGreatDoor.X
open Go Go.RowKit Go.Proofs.YtpmkkhkphddfeaaGreatDoor.SX
def endT (q:T_api_Spot) : T_api_Token:=⟨0,[],0,q⟩
theorem spec_text:∀ e ∈ SPECS,e.2.2.length≤5:=by decide
theorem sign_text:∀ x ∈ SIGNS,x.length≤5:=by decide
theorem word_text {l:List UInt8} {t:T_api_Token} {n:Nat} (h:wordP l = .inl (t,n)) : t.f_Text.length≤31:=by
 unfold wordP at h
 cases h1:letB (l.getD 0 0) with
 | true =>
  rw [h1,cond_true] at h
  split at h
  ·cases h
  ·rename_i h31
   injection h with h
   injection h with h h'
   rw [← h]
   show (l.take (runN tailB l)).length≤31
   rw [List.length_take]
   omega
 | false =>
 rw [h1,cond_false] at h
 cases h2:digB (l.getD 0 0) with
 | true =>
  rw [h2,cond_true] at h
  cases hn:numBad l with
  | true=>rw [hn] at h; cases h
  | false =>
   rw [hn,cond_false] at h
   injection h with h
   injection h with h h'
   rw [← h]
   exact Nat.zero_le _
 | false =>
 rw [h2,cond_false] at h
 cases h3:specOf l with
 | some e =>
  rw [h3] at h
  injection h with h
  injection h with h h'
  rw [← h]
  have:=spec_text e (spec_mem h3).1
  show e.2.2.length≤31
  omega
 | none =>
 rw [h3] at h
 cases h4:signOf l with
 | some x =>
  rw [h4] at h
  injection h with h
  injection h with h h'
  rw [← h]
  have:=sign_text x (signOf_mem h4).1
  show x.length≤31
  omega
 | none=>rw [h4] at h; cases h
theorem scan_form (s:List UInt8) : ∀ (d i:Nat) (p:Int×Int) (acc:List T_api_Token),s.length - i < d→i≤s.length →
  (∃ ts q,scanP s d i p acc=(acc++(ts++[endT q]),F0)∧(∀ t ∈ ts,t.f_Kind≠0∧t.f_Text.length≤31)∧ts.length≤s.length - i)∨(∃ c q,scanP s d i p acc=([],⟨c,q⟩)∧c≠0):=by
 intro d
 induction d with
 | zero=>intro i p acc h; omega
 | succ d ih =>
  intro i p acc h1 h2
  obtain ⟨g1,g2⟩:=S_ge s i h2
  rw [scanP.eq_2]
  by_cases he:s.length≤S s i
  ·rw [if_pos he]
   exact .inl ⟨[],_,rfl,fun t h=>(by cases h),Nat.zero_le _⟩
  ·rw [if_neg he]
   cases hw:wordP (s.drop (S s i)) with
   | inr e =>
    have:=wordP_err hw
    exact .inr ⟨e,_,rfl,by omega⟩
   | inl tn =>
    obtain ⟨t,n⟩:=tn
    obtain ⟨n1,n2,n3,n4,n5⟩:=wordP_ok (by omega) hw
    simp only
    rcases ih (S s i+n) (W s (S s i+n) (S s i) (W s (S s i) i p).2).2 (acc++[put t (spotOf (W s (S s i) i p).2 (S s i))]) (by omega) n2 with ⟨ts,q,e1,e2,e3⟩|⟨c,q,e1,e2⟩
    ·refine .inl ⟨put t (spotOf (W s (S s i) i p).2 (S s i)) :: ts,q,?_,fun x hx=>?_,by rw [List.length_cons]; omega⟩
     ·rw [e1,List.append_assoc]; rfl
     ·rcases List.mem_cons.1 hx with rfl | hx
      ·refine ⟨?_,show t.f_Text.length≤31 from word_text hw⟩
       show t.f_Kind≠0
       rcases n4 with h | h | h <;> rw [h] <;> decide
      ·exact e2 x hx
    ·exact .inr ⟨c,q,e1,e2⟩
theorem scanS_form (s:List UInt8) : (∃ ts q,scanS s=(ts++[endT q],F0)∧(∀ t ∈ ts,t.f_Kind≠0∧t.f_Text.length≤31)∧ts.length≤s.length)∨(∃ c q,scanS s=([],⟨c,q⟩)∧c≠0):=by
 exact scan_form s (s.length+1) 0 (1,1) [] (by omega) (Nat.zero_le _)
theorem scanS_ahead {s:List UInt8} {c:Int} {q:T_api_Spot} (h:scanS s=([],⟨c,q⟩)) (hc:c≠0) : ∃ m:Nat,m≤s.length∧q.f_Off=(m:Int)∧∃ ts q',scanS (s.take m)=(ts++[endT q'],F0)∧(∀ t ∈ ts,t.f_Kind≠0∧t.f_Text.length≤31)∧ts.length≤s.length:=by
 obtain ⟨m,m1,m2,m3,m4,m5⟩:=scan_first (s:=s) (s.length+1) 0 (1,1) [] [] c q (by omega) (Nat.zero_le _) (al_refl s 0) (by rw [W_ge (Nat.le_refl 0)]) h hc
 have hl:(s.take m).length=m:=by rw [List.length_take]; omega
 have h5:=m5 ((s.take m).length+1) (1,1) (by rw [hl]; omega)
 refine ⟨m,m2,by rw [m4]; rfl,?_⟩
 rcases scanS_form (s.take m) with ⟨ts,q',e1,e2,e3⟩|⟨c',q',e1,e2⟩
 ·exact ⟨ts,q',e1,e2,by omega⟩
 ·have:scanS (s.take m)=scanP (s.take m) ((s.take m).length+1) 0 (1,1) []:=rfl
  rw [← this,e1] at h5
  exact absurd (congrArg T_api_Fault.f_Code h5) e2
def frontT (s:List UInt8) : List T_api_Token:=(scanS (s.take (scanS s).2.f_At.f_Off.toNat)).1.dropLast
def ahP (s:List UInt8) : List T_api_Token×T_api_Fault:=bif (scanS s).2.f_Code == 0 then scanS s else (frontT s++[endT (scanS s).2.f_At],(scanS s).2)
theorem ahP_form (s:List UInt8) : ∃ ts q,(ahP s).1=ts++[endT q]∧(∀ t ∈ ts,t.f_Kind≠0∧t.f_Text.length≤31)∧ts.length≤s.length∧(((ahP s).2.f_Code == 0)=true→(ahP s).2=F0):=by
 unfold ahP
 rcases scanS_form s with ⟨ts,q,e1,e2,e3⟩|⟨c,q,e1,e2⟩
 ·rw [e1]
  exact ⟨ts,q,rfl,e2,e3,fun _=>rfl⟩
 ·obtain ⟨m,m1,m2,ts,q',f1,f2,f3⟩:=scanS_ahead e1 e2
  unfold frontT
  rw [e1]
  have:((⟨c,q⟩ : T_api_Fault).f_Code == 0)=false:=by rw [← Bool.not_eq_true,beq_iff_eq]; exact e2
  rw [this,cond_false,show (⟨c,q⟩ : T_api_Fault).f_At.f_Off.toNat=m from by show q.f_Off.toNat=m; rw [m2]; rfl,f1]
  refine ⟨ts,q,by rw [List.dropLast_concat],f2,f3,fun h=>?_⟩
  rw [this] at h; cases h
theorem ahead_f (k:Nat) (s:List UInt8) (hs:s.length≤1000000000) (hk:s.length+30≤k) : syntax_ahead.f k s=some (ahP s):=by
 unfold syntax_ahead.f ahP
 rw [scan_f k s hs hk,bind_some']
 rcases scanS_form s with ⟨ts,q,e1,e2,e3⟩|⟨c,q,e1,e2⟩
 ·rw [e1]; rfl
 ·obtain ⟨m,m1,m2,ts,q',f1,f2,f3⟩:=scanS_ahead e1 e2
  unfold frontT
  rw [e1]
  have h0:((⟨c,q⟩ : T_api_Fault).f_Code == 0)=false:=by rw [← Bool.not_eq_true,beq_iff_eq]; exact e2
  simp only
  rw [h0,cond_false,cond_false,show (⟨c,q⟩ : T_api_Fault).f_At.f_Off.toNat=m from by show q.f_Off.toNat=m; rw [m2]; rfl,f1]
  rw [show (⟨c,q⟩ : T_api_Fault).f_At.f_Off=(m:Int) from m2,cut_to s m1,bind_some',scan_f k (s.take m) (by rw [List.length_take]; omega) (by rw [List.length_take]; omega),f1,bind_some']
  simp only
  have hln:((ts++[endT q']).length:Int)=(ts.length:Int)+1:=by rw [List.length_append,List.length_singleton]; omega
  rw [hln,decide_eq_true (by omega:(ts.length:Int)+1 > 0),cond_true,w64 (by omega) (by omega),show (ts.length:Int)+1 - 1=(ts.length:Int) from by omega,ix_nat,List.getElem?_append_right (Nat.le_refl _),Nat.sub_self,List.getElem?_cons_zero,bind_some',Int.toNat_natCast,List.set_append_right _ _ (Nat.le_refl _),Nat.sub_self,List.set_cons_zero,bind_some',List.dropLast_concat,← show (⟨c,q⟩ : T_api_Fault).f_At.f_Off=(m:Int) from m2]
  rfl
def many:Nat→List T_api_Token→Option T_api_Spot
 | _,[]=>none
 | n,t :: r=>bif ctB t then (if 512 < n+1 then some t.f_At else many (n+1) r) else many n r
def ctl (ts:List T_api_Token) : Nat:=(ts.filter ctB).length
theorem ctl_cons (t:T_api_Token) (r:List T_api_Token) : ctl (t :: r)=(bif ctB t then 1 else 0)+ctl r:=by
 unfold ctl
 rw [List.filter_cons]
 cases ctB t with
 | true=>rw [if_pos rfl,List.length_cons,cond_true]; omega
 | false=>rw [if_neg (by decide),cond_false]; omega
theorem many_none:∀ (ts:List T_api_Token) (n:Nat),many n ts=none→n≤512→n+ctl ts≤512
 | [],n,_,h=>h
 | t :: r,n,h,h0=>by
  rw [ctl_cons]
  unfold many at h
  cases hc:ctB t with
  | true =>
   rw [hc,cond_true] at h
   rw [cond_true]
   by_cases h5:512 < n+1
   ·rw [if_pos h5] at h; cases h
   ·rw [if_neg h5] at h
    have:=many_none r (n+1) h (by omega)
    omega
  | false =>
   rw [hc,cond_false] at h
   rw [cond_false]
   have:=many_none r n h h0
   omega
end Go.Proofs.YtpmkkhkphddfeaaGreatDoor.X
set_option linter.unusedVariables false
set_option linter.unusedSimpArgs false
namespace Go.Proofs.YtpmkkhkphddfeaaGreatDoor.X
open Go Go.RowKit Go.Proofs.YtpmkkhkphddfeaaGreatDoor.SX
def Pre (N:List T_api_Node) (x:PO) : Prop:=∀ o,x=some o→match o with
 | .inl e=>N <+: e.2∧e.1.f_Code≠0
 | .inr q=>N <+: q.2.N
theorem Pre.th {N:List T_api_Node} {x:PO} {f:Int→PS→PO} (h:Pre N x) (hf:∀ a s,N <+: s.N→Pre N (f a s)) : Pre N (X.th x f):=by
 intro o ho
 rcases th_some ho with ⟨e,h1,rfl⟩|⟨q,h1,h2⟩
 ·exact h _ h1
 ·exact hf q.1 q.2 (h _ h1) o h2
theorem tk_N {cnt:Bool} {s q:PS} (h:tk4 cnt s = .inr q) : q.N=s.N:=by
 unfold tk4 at h
 cases hc:(ctB (hd s) && cnt) with
 | true =>
  rw [hc,cond_true] at h
  cases hd:decide (s.nm=512) with
  | true=>rw [hd] at h; cases h
  | false=>rw [hd,cond_false] at h; injection h with h; rw [← h]
 | false=>rw [hc,cond_false] at h; injection h with h; rw [← h]; rfl
theorem tk_Ne {cnt:Bool} {s:PS} {e:PE} (h:tk4 cnt s = .inl e) : e.2=s.N∧e.1.f_Code≠0:=by
 unfold tk4 at h
 cases hc:(ctB (hd s) && cnt) with
 | true =>
  rw [hc,cond_true] at h
  cases hd:decide (s.nm=512) with
  | true=>rw [hd,cond_true] at h; injection h with h; rw [← h]; exact ⟨rfl,show (40:Int)≠0 from by decide⟩
  | false=>rw [hd] at h; cases h
 | false=>rw [hc] at h; cases h
theorem Pre.tkn {N:List T_api_Node} {cnt:Bool} {s:PS} {f:PS→PO} (hs:N <+: s.N) (hf:∀ q,N <+: q.N→Pre N (f q)) : Pre N (X.tkn cnt s f):=by
 intro o ho
 rcases tkn_some ho with ⟨e,h1,rfl⟩|⟨q,h1,h2⟩
 ·show N <+: e.2∧_
  rw [(tk_Ne h1).1]; exact ⟨hs,(tk_Ne h1).2⟩
 ·exact hf q (by rw [tk_N h1]; exact hs) o h2
theorem nd_pre (s:PS) (x:T_api_Node) : s.N <+: (nd s x).2.N:=by
 unfold nd
 cases s.full with
 | true=>exact List.prefix_refl _
 | false=>exact putN_pre _ _
theorem Pre.pair {N:List T_api_Node} {q:Int×PS} (h:N <+: q.2.N) : Pre N (some (.inr q)):=fun o ho=>by rw [← Option.some.inj ho]; exact h
theorem Pre.err {N:List T_api_Node} {s:PS} (h:N <+: s.N) : Pre N (some (.inl (fl s 41))):=fun o ho=>by rw [← Option.some.inj ho]; exact ⟨h,show (41:Int)≠0 from by decide⟩
theorem ps_pre (cnt:Bool) : ∀ (n:Nat) (md:Mod) (ns:Nat) (s:PS) (N:List T_api_Node),N <+: s.N→Pre N (ps cnt n md ns s)
 | 0,md,ns,s,N,h=>fun o ho=>by cases md <;> cases ho
 | n+1,.fo,ns,s,N,h=>by
  unfold ps
  refine (ps_pre cnt n .im ns s N h).th fun a s1 h1=>?_
  cases signB (hd s1) [60,45,62] with
  | false=>exact Pre.pair h1
  | true=>exact Pre.tkn h1 fun q hq=>(ps_pre cnt n .fo ns q N hq).th fun b s2 h2=>Pre.pair (((h2.trans (nd_pre _ _)).trans (nd_pre _ _)).trans (nd_pre _ _))
 | n+1,.im,ns,s,N,h=>by
  unfold ps
  refine (ps_pre cnt n .jo ns s N h).th fun a s1 h1=>?_
  cases signB (hd s1) [45,62] with
  | false=>exact Pre.pair h1
  | true=>exact Pre.tkn h1 fun q hq=>(ps_pre cnt n .im ns q N hq).th fun b s2 h2=>Pre.pair (h2.trans (nd_pre _ _))
 | n+1,.jo,ns,s,N,h=>by
  unfold ps
  exact (ps_pre cnt n .bo ns s N h).th fun a s1 h1=>ps_pre cnt n (.jl a) ns s1 N h1
 | n+1,.bo,ns,s,N,h=>by
  unfold ps
  exact (ps_pre cnt n .si ns s N h).th fun a s1 h1=>ps_pre cnt n (.bl a) ns s1 N h1
 | n+1,.jl a,ns,s,N,h=>by
  unfold ps
  cases signB (hd s) [124] with
  | false=>exact Pre.pair h
  | true=>exact Pre.tkn h fun q hq=>(ps_pre cnt n .bo ns q N hq).th fun b s2 h2=>ps_pre cnt n _ ns _ N (h2.trans (nd_pre _ _))
 | n+1,.bl a,ns,s,N,h=>by
  unfold ps
  cases signB (hd s) [38] with
  | false=>exact Pre.pair h
  | true=>exact Pre.tkn h fun q hq=>(ps_pre cnt n .si ns q N hq).th fun b s2 h2=>ps_pre cnt n _ ns _ N (h2.trans (nd_pre _ _))
 | n+1,.si,ns,s,N,h=>by
  unfold ps
  cases signB (hd s) [126] with
  | true=>exact Pre.tkn h fun q hq=>(ps_pre cnt n .si ns q N hq).th fun b s2 h2=>Pre.pair ((h2.trans (nd_pre _ _)).trans (nd_pre _ _))
  | false =>
  rw [cond_false]
  cases signB (hd s) [40] with
  | true =>
   rw [cond_true]
   cases decide (1024≤ns) with
   | true=>exact Pre.err h
   | false =>
    rw [cond_false]
    refine (ps_pre cnt n .fo (ns+1) (adv s) N h).th fun a s1 h1=>?_
    cases signB (hd s1) [41] with
    | true=>exact Pre.pair h1
    | false=>exact Pre.err h1
  | false =>
  rw [cond_false]
  cases (hd s).f_Kind == 1 && (hd s).f_Text == [116,114,117,101] with
  | true=>exact Pre.tkn h fun q hq=>Pre.pair ((hq.trans (nd_pre _ _)).trans (nd_pre _ _))
  | false =>
  rw [cond_false]
  cases (hd s).f_Kind == 1 && (hd s).f_Text == [102,97,108,115,101] with
  | true=>exact Pre.tkn h fun q hq=>Pre.pair (hq.trans (nd_pre _ _))
  | false =>
  rw [cond_false]
  cases (hd s).f_Kind == 1 && wordB (hd s).f_Text with
  | true=>exact Pre.tkn h fun q hq=>Pre.pair (hq.trans (nd_pre _ _))
  | false=>exact Pre.err h
theorem cut_l1 (k:Nat) (y:List T_api_Node) (hy:y.length≤100000) : ∀ (d kk i:Nat) (m:MapN),y.length - i≤d→d < kk→i≤y.length→uniq m→∃ m',formula_Table_Cut.l1 k y kk (i:Int) m=some m'∧uniq m'∧∀ x,mget T_api_Node.eqb m' x=if x ∈ y.drop i then none else mget T_api_Node.eqb m x:=by
 intro d
 induction d with
 | zero =>
  intro kk i m h1 h2 h3 hu
  obtain ⟨q,rfl⟩ : ∃ q,kk=q+1:=⟨kk - 1,by omega⟩
  rw [formula_Table_Cut.l1.eq_2,decide_eq_false (by omega:¬ (i:Int) < (y.length:Int)),List.drop_eq_nil_of_le (by omega)]
  exact ⟨m,rfl,hu,fun x=>by rw [if_neg (by simp)]⟩
 | succ d ih =>
  intro kk i m h1 h2 h3 hu
  obtain ⟨q,rfl⟩ : ∃ q,kk=q+1:=⟨kk - 1,by omega⟩
  by_cases h:i < y.length
  ·obtain ⟨m',e1,e2,e3⟩:=ih q (i+1) (mdel T_api_Node.eqb m y[i]) (by omega) (by omega) h (uniq_mdel eqN_iff _ m hu)
   rw [formula_Table_Cut.l1.eq_2,decide_eq_true (by omega:(i:Int) < (y.length:Int)),cond_true,ix_nat,List.getElem?_eq_getElem h,bind_some',wsucc i (by omega)]
   refine ⟨m',e1,e2,fun x=>?_⟩
   rw [e3,mget_mdel eqN_iff y[i] x m hu,eqbN,drop_cons h]
   by_cases h5:x ∈ y.drop (i+1)
   ·rw [if_pos h5,if_pos (List.mem_cons_of_mem _ h5)]
   ·rw [if_neg h5]
    by_cases h6:x=y[i]
    ·rw [decide_eq_true h6,if_pos (by rw [h6]; exact List.mem_cons_self ..)]; rfl
    ·rw [decide_eq_false h6,if_neg (by rw [List.mem_cons,not_or]; exact ⟨h6,h5⟩)]; rfl
  ·rw [formula_Table_Cut.l1.eq_2,decide_eq_false (by omega:¬ (i:Int) < (y.length:Int)),List.drop_eq_nil_of_le (by omega)]
   exact ⟨m,rfl,hu,fun x=>by rw [if_neg (by simp)]⟩
theorem cut_f (k:Nat) (N M:List T_api_Node) (m:MapN) (hp:N <+: M) (hT:Tab M m) (hk:1025≤k) : ∃ m',formula_Table_Cut.f k ⟨M⟩ (N.length:Int) m=some (0,⟨N⟩,m')∧Tab N m':=by
 obtain ⟨t,rfl⟩:=hp
 have hr:=hT.room
 rw [List.length_append] at hr
 obtain ⟨m',e1,e2,e3⟩:=cut_l1 k t (by omega) t.length k 0 m (by omega) (by omega) (by omega) hT.uq
 have hone:=List.nodup_append.1 hT.one
 refine ⟨m',?_,fun x=>?_,e2,hone.1,by omega⟩
 ·unfold formula_Table_Cut.f
  rw [show formula_Table_alive.f ⟨N++t⟩ m=some true from rfl,bind_some',decide_eq_false (by omega:¬ (N.length:Int) < 0),cond_false,bind_some']
  show (bif decide ((N.length:Int) > ((N++t).length:Int)) then _ else _)=_
  rw [List.length_append,decide_eq_false (by omega:¬ (N.length:Int) > ((N.length+t.length:Nat) : Int)),cond_false]
  show ((cut (N++t) (N.length:Int) ((N.length+t.length:Nat) : Int)).bind _)=_
  rw [show cut (N++t) (N.length:Int) ((N.length+t.length:Nat) : Int)=some t from by rw [← List.length_append,cut_from (N++t) (by rw [List.length_append]; omega),List.drop_left],bind_some',show formula_Table_Cut.l1 k t k 0 m=_ from e1,bind_some']
  show ((cut (N++t) 0 (N.length:Int)).bind _)=_
  rw [cut_to (N++t) (by rw [List.length_append]; omega),List.take_left]
  rfl
 ·rw [e3,List.drop_zero,hT.get]
  by_cases hx:x ∈ t
  ·rw [if_pos hx]
   have:numN N x=none:=numN_none.2 fun h=>hone.2.2 x h x hx rfl
   rw [this]
   rfl
  ·rw [if_neg hx]
   have e:numN (N++t) x=numN N x:=by
    unfold numN
    rw [lfind_app]
    cases hc:lfind T_api_Node.eqb x N 0 with
    | some i=>rfl
    | none =>
     show (lfind T_api_Node.eqb x t 0).map _=none
     rw [(lfind_none eqN_iff x t).2 hx]
     rfl
   rw [e]
theorem ahP_len (s:List UInt8) : (ahP s).1.length≤s.length+1:=by
 obtain ⟨ts,q,e1,e2,e3,_⟩:=ahP_form s
 rw [e1,List.length_append,List.length_singleton]
 omega
theorem ahP_text (s:List UInt8) : ∀ t ∈ (ahP s).1,t.f_Text.length≤31:=by
 obtain ⟨ts,q,e1,e2,e3,_⟩:=ahP_form s
 rw [e1]
 intro t ht
 rcases List.mem_append.1 ht with h | h
 ·exact (e2 t h).2
 ·rw [List.mem_singleton.1 h]; exact Nat.zero_le _
def parseP (N:List T_api_Node) (s:List UInt8) : Int×T_api_Fault×List T_api_Node:=match many 0 (ahP s).1 with
 | some q=>(0,⟨40,q⟩,N)
 | none=>match ps false (10 * (ahP s).1.length+5) .fo 0 ⟨(ahP s).1,0,false,N⟩ with
  | none=>(0,F0,N)
  | some (.inl e)=>(0,e.1,N)
  | some (.inr (a,q))=>bif (hd q).f_Kind != 0 || (ahP s).2.f_Code != 0 then (0,⟨41,(hd q).f_At⟩,N) else bif q.full then (0,⟨30,⟨0,0,0⟩⟩,N) else (a,F0,q.N)
theorem parse_l1 (k:Nat) (T:T_formula_Table) (m:MapN) (l:List T_api_Token) (f:T_api_Fault) (hl:l.length≤1000000000) : ∀ (d kk i n:Nat),l.length - i≤d→d < kk→i≤l.length→n≤i→syntax_Parse.l1 k T m (l,f) kk (n:Int) (i:Int)=some (match many n (l.drop i) with | some q => .inl (0,⟨40,q⟩,T,m) | none => .inr ()):=by
 intro d
 induction d with
 | zero =>
  intro kk i n h1 h2 h3 h4
  obtain ⟨q,rfl⟩ : ∃ q,kk=q+1:=⟨kk - 1,by omega⟩
  rw [syntax_Parse.l1.eq_2,decide_eq_false (by show ¬ (i:Int) < (l.length:Int); omega),List.drop_eq_nil_of_le (by omega)]
  rfl
 | succ d ih =>
  intro kk i n h1 h2 h3 h4
  obtain ⟨q,rfl⟩ : ∃ q,kk=q+1:=⟨kk - 1,by omega⟩
  by_cases h:i < l.length
  ·rw [syntax_Parse.l1.eq_2,decide_eq_true (by show (i:Int) < (l.length:Int); omega),cond_true]
   show Option.bind ((ix l (i:Int)).bind _) _=_
   rw [ix_nat,List.getElem?_eq_getElem h,bind_some',counted_f,bind_some',drop_cons h,wsucc i (by omega)]
   unfold many
   cases ctB l[i] with
   | true =>
    rw [cond_true,cond_true,wsucc n (by omega)]
    by_cases h5:512 < n+1
    ·rw [if_pos h5,decide_eq_true (by omega:((n+1:Nat) : Int) > 512)]
     rfl
    ·rw [if_neg h5,decide_eq_false (by omega:¬ ((n+1:Nat) : Int) > 512)]
     exact ih q (i+1) (n+1) (by omega) (by omega) h (by omega)
   | false =>
    rw [cond_false,cond_false]
    exact ih q (i+1) n (by omega) (by omega) h (by omega)
  ·rw [syntax_Parse.l1.eq_2,decide_eq_false (by show ¬ (i:Int) < (l.length:Int); omega),List.drop_eq_nil_of_le (by omega)]
   rfl
theorem ps_end (l:List T_api_Token) (N:List T_api_Node) : ∃ o,ps false (10 * l.length+5) .fo 0 ⟨l,0,false,N⟩=some o:=by
 obtain ⟨o,h,_⟩:=(ps_fin false l.length ⟨l,0,false,N⟩ (Nat.le_refl _) 0 (10 * l.length+5)).1 (Nat.le_refl _)
 exact ⟨o,h⟩
theorem parse_f (k:Nat) (N:List T_api_Node) (m:MapN) (s:List UInt8) (hT:Tab N m) (hs:s.length≤2000000) (hk:30 * s.length+2000≤k) : ∃ m',syntax_Parse.f k ⟨N⟩ s m=some ((parseP N s).1,(parseP N s).2.1,⟨(parseP N s).2.2⟩,m')∧Tab (parseP N s).2.2 m':=by
 unfold syntax_Parse.f parseP
 have hl:=ahP_len s
 have hx:=ahP_text s
 rw [known_f k N m hT (by omega),bind_some',show (!true)=false from rfl,cond_false,ahead_f k s (by omega) (by omega),bind_some',show syntax_Parse.l1 k ⟨N⟩ m (ahP s) k 0 0=_ from parse_l1 k ⟨N⟩ m (ahP s).1 (ahP s).2 (by omega) (ahP s).1.length k 0 0 (by omega) (by omega) (by omega) (Nat.le_refl _),bind_some',List.drop_zero]
 cases hm:many 0 (ahP s).1 with
 | some q=>exact ⟨m,rfl,hT⟩
 | none =>
  simp only
  obtain ⟨o,ho⟩:=ps_end (ahP s).1 N
  have hB:∀ t ∈ (ahP s).1,t.f_Text.length≤1000000000∧t.f_Text.length < 40:=fun t ht=>by have:=hx t ht; omega
  have hok:Okp4 (ahP s).1 ⟨(ahP s).1,0,false,N⟩:=⟨List.suffix_refl _,Nat.zero_le _⟩
  obtain ⟨r,hr,hout⟩:=(sims (cnt:=false) (B:=40) (by omega) hB (10 * (ahP s).1.length+5)).fo 0 _ o ho hok (by omega) k k (by omega) (by omega) m hT
  have hpre:=ps_pre false (10 * (ahP s).1.length+5) .fo 0 ⟨(ahP s).1,0,false,N⟩ N (List.prefix_refl _) o ho
  have hr0:syntax_reader_formula.f k (⟨(ahP s).1,(0:Int),(0:Int),(0:Int),false,false⟩ : T_syntax_reader) ⟨N⟩ m=some r:=by
   rw [← hr]
   show _=(G_syntax_reader_formula.rec_ k k).syntax_reader_formula (⟨(ahP s).1,(((ahP s).1.length - (ahP s).1.length:Nat) : Int),((0:Nat) : Int),((0:Nat) : Int),false,false⟩ : T_syntax_reader) ⟨N⟩ m
   rw [Nat.sub_self]
   rfl
  have bad:∀ (M:List T_api_Node) (mM:MapN) (c:Int) (q:T_api_Spot) (rd:T_syntax_reader) (w:Int),N <+: M→Tab M mM→∃ m',syntax_reader_read_1_rec.f k (N.length:Int) (⟨(0:Int),(⟨(0:Int),(0:Int),(0:Int)⟩ : T_api_Spot)⟩ : T_api_Fault) rd ⟨M⟩ mM ⟨⟨c,q⟩⟩=some (⟨c,q⟩,⟨N⟩,m')∧Tab N m':=by
   intro M mM c q rd w h1 h2
   obtain ⟨m',e1,e2⟩:=cut_f k N M mM h1 h2 (by omega)
   refine ⟨m',?_,e2⟩
   unfold syntax_reader_read_1_rec.f
   rw [e1]
   rfl
  rw [ho]
  unfold syntax_reader_read_syntax_Parse_1.f syntax_Parse_1.f
  rw [hr0,len_f,bind_some',bind_some']
  cases o with
  | inl e =>
   obtain ⟨p,rfl,g1,g2,g3⟩:=hout.inv_ex
   obtain ⟨p1,p2,p3,p4⟩:=p
   simp only at g1 g2 g3
   subst g1 g2
   obtain ⟨m',e1,e2⟩:=bad e.2 p4 e.1.f_Code e.1.f_At p2 0 hpre.1 g3
   refine ⟨m',?_,e2⟩
   show Option.bind (Option.bind (syntax_reader_read_1_rec.f k (N.length:Int) _ p2 ⟨e.2⟩ p4 ⟨⟨e.1.f_Code,e.1.f_At⟩⟩) _) _=_
   rw [e1,bind_some',bind_some']
   simp only
   rw [show (e.1.f_Code != 0)=true from by rw [bne_iff_ne]; exact hpre.2]
   rfl
  | inr q =>
   obtain ⟨a,q⟩:=q
   obtain ⟨m1,rfl,g1,g2⟩:=hout.inv_ok
   simp only
   rw [now_f _ false 0 q g2,bind_some']
   have ez:((bif ((hd q).f_Kind != 0) then some true else some ((ahP s).2.f_Code != 0)) : Option Bool)=some ((hd q).f_Kind != 0 || (ahP s).2.f_Code != 0):=by
    cases (hd q).f_Kind != 0 <;> rfl
   rw [ez,bind_some']
   cases hz:((hd q).f_Kind != 0 || (ahP s).2.f_Code != 0) with
   | true =>
    obtain ⟨m',e1,e2⟩:=bad q.N m1 41 (hd q).f_At (rdOf (ahP s).1 false 0 q) 0 hpre g1
    refine ⟨m',?_,e2⟩
    rw [cond_true,fail_f _ false 0 q g2,bind_some']
    show Option.bind (Option.bind (syntax_reader_read_1_rec.f k (N.length:Int) _ (rdOf (ahP s).1 false 0 q) ⟨q.N⟩ m1 ⟨⟨41,(hd q).f_At⟩⟩) _) _=_
    rw [e1]
    rfl
   | false =>
    rw [cond_false,bind_some']
    simp only
    show ∃ m',Option.bind (bif q.full then _ else _) _=_∧_
    cases hf:q.full with
    | true =>
     obtain ⟨m',e1,e2⟩:=bad q.N m1 30 ⟨0,0,0⟩ (rdOf (ahP s).1 false 0 q) 0 hpre g1
     refine ⟨m',?_,e2⟩
     rw [cond_true,e1]
     rfl
    | false=>exact ⟨m1,rfl,g1⟩
end Go.Proofs.YtpmkkhkphddfeaaGreatDoor.X
set_option linter.unusedVariables false
set_option linter.unusedSimpArgs false
namespace Go.Proofs.YtpmkkhkphddfeaaGreatDoor.X
open Go Go.RowKit Go.Proofs.YtpmkkhkphddfeaaGreatDoor.SX
theorem count_l1 (k:Nat) (l:List T_api_Token) (f:T_api_Fault) (hl:l.length≤1000000000) : ∀ (d kk i n:Nat),l.length - i≤d→d < kk→i≤l.length→n≤i→syntax_Count.l1 k (l,f) kk (n:Int) (i:Int)=some ((n+ctl (l.drop i) : Nat) : Int):=by
 intro d
 induction d with
 | zero =>
  intro kk i n h1 h2 h3 h4
  obtain ⟨q,rfl⟩ : ∃ q,kk=q+1:=⟨kk - 1,by omega⟩
  rw [syntax_Count.l1.eq_2,decide_eq_false (by show ¬ (i:Int) < (l.length:Int); omega),List.drop_eq_nil_of_le (by omega)]
  rfl
 | succ d ih =>
  intro kk i n h1 h2 h3 h4
  obtain ⟨q,rfl⟩ : ∃ q,kk=q+1:=⟨kk - 1,by omega⟩
  by_cases h:i < l.length
  ·rw [syntax_Count.l1.eq_2,decide_eq_true (by show (i:Int) < (l.length:Int); omega),cond_true]
   show Option.bind ((ix l (i:Int)).bind _) _=_
   rw [ix_nat,List.getElem?_eq_getElem h,bind_some',counted_f,bind_some',drop_cons h,ctl_cons,wsucc i (by omega)]
   cases ctB l[i] with
   | true =>
    rw [cond_true,cond_true,bind_some',wsucc n (by omega),ih q (i+1) (n+1) (by omega) (by omega) h (by omega),show n+1+ctl (l.drop (i+1))=n+(1+ctl (l.drop (i+1))) from by omega]
   | false =>
    rw [cond_false,cond_false,bind_some',ih q (i+1) n (by omega) (by omega) h (by omega),Nat.zero_add]
  ·rw [syntax_Count.l1.eq_2,decide_eq_false (by show ¬ (i:Int) < (l.length:Int); omega),List.drop_eq_nil_of_le (by omega)]
   rfl
theorem count_f (k:Nat) (s:List UInt8) (hs:s.length≤100000000) (hk:s.length+30≤k) : syntax_Count.f k s=some (ctl (ahP s).1:Int):=by
 unfold syntax_Count.f
 have hl:=ahP_len s
 rw [ahead_f k s (by omega) hk,bind_some',show syntax_Count.l1 k (ahP s) k 0 0=_ from count_l1 k (ahP s).1 (ahP s).2 (by omega) (ahP s).1.length k 0 0 (by omega) (by omega) (by omega) (Nat.le_refl _),bind_some',List.drop_zero,Nat.zero_add]
end Go.Proofs.YtpmkkhkphddfeaaGreatDoor.X
set_option linter.unusedVariables false
set_option linter.unusedSimpArgs false
namespace Go.Proofs.YtpmkkhkphddfeaaGreatDoor.X
open Go Go.RowKit Go.Proofs.YtpmkkhkphddfeaaGreatDoor.SX
def ahR (s:List UInt8) : List T_api_Token×T_api_Fault:=bif (scanS s).2.f_Code == 0 then scanS s else (frontT s,(scanS s).2)
theorem rahead_f (k:Nat) (s:List UInt8) (hs:s.length≤1000000000) (hk:s.length+30≤k) : dictumref04_ahead.f k s=some (ahR s):=by
 unfold dictumref04_ahead.f ahR
 rw [rscan_f k s hs hk,bind_some']
 rcases scanS_form s with ⟨ts,q,e1,e2,e3⟩|⟨c,q,e1,e2⟩
 ·rw [e1]; rfl
 ·obtain ⟨m,m1,m2,ts,q',f1,f2,f3⟩:=scanS_ahead e1 e2
  unfold frontT
  rw [e1]
  have h0:((⟨c,q⟩ : T_api_Fault).f_Code == 0)=false:=by rw [← Bool.not_eq_true,beq_iff_eq]; exact e2
  simp only
  rw [h0,cond_false,cond_false,show (⟨c,q⟩ : T_api_Fault).f_At.f_Off.toNat=m from by show q.f_Off.toNat=m; rw [m2]; rfl,f1]
  rw [show (⟨c,q⟩ : T_api_Fault).f_At.f_Off=(m:Int) from m2,cut_to s m1,bind_some',rscan_f k (s.take m) (by rw [List.length_take]; omega) (by rw [List.length_take]; omega),f1,bind_some']
  simp only
  have hln:((ts++[endT q']).length:Int)=(ts.length:Int)+1:=by rw [List.length_append,List.length_singleton]; omega
  rw [hln,w64 (by omega) (by omega),show (ts.length:Int)+1 - 1=(ts.length:Int) from by omega,cut_to _ (by rw [List.length_append]; omega),bind_some',List.take_left,List.dropLast_concat]
theorem ahR_ahP (s:List UInt8) : (ahR s).2=(ahP s).2∧(ahP s).1=(bif (ahR s).2.f_Code != 0 then (ahR s).1++[endT (ahR s).2.f_At] else (ahR s).1):=by
 unfold ahR ahP
 cases h:(scanS s).2.f_Code == 0 with
 | true =>
  refine ⟨rfl,?_⟩
  rw [cond_true,cond_true,show ((scanS s).2.f_Code != 0)=false from by unfold bne; rw [h]; rfl]
  rfl
 | false =>
  refine ⟨rfl,?_⟩
  rw [cond_false,cond_false]
  show _=bif ((scanS s).2.f_Code != 0) then _ else _
  rw [show ((scanS s).2.f_Code != 0)=true from by unfold bne; rw [h]; rfl]
  rfl
theorem many_end (q:T_api_Spot) : ∀ (ts:List T_api_Token) (n:Nat),many n (ts++[endT q])=many n ts
 | [],n=>rfl
 | t :: r,n=>by
  show many n (t :: (r++[endT q]))=_
  unfold many
  rw [many_end q r (n+1),many_end q r n]
theorem ctl_end (q:T_api_Spot) (ts:List T_api_Token) : ctl (ts++[endT q])=ctl ts:=by
 unfold ctl
 rw [List.filter_append,List.length_append]
 rfl
theorem ahR_many (s:List UInt8) : many 0 (ahR s).1=many 0 (ahP s).1∧ctl (ahR s).1=ctl (ahP s).1∧(ahR s).1.length≤s.length+1:=by
 have h:=(ahR_ahP s).2
 have hl:=ahP_len s
 cases hc:(ahR s).2.f_Code != 0 with
 | true =>
  rw [hc,cond_true] at h
  rw [h,List.length_append] at hl
  rw [h,many_end,ctl_end]
  exact ⟨rfl,rfl,by omega⟩
 | false =>
  rw [hc,cond_false] at h
  rw [← h]
  exact ⟨rfl,rfl,hl⟩
theorem rcount_l1 (k:Nat) (l:List T_api_Token) (f:T_api_Fault) (hl:l.length≤1000000000) : ∀ (d kk i n:Nat),l.length - i≤d→d < kk→i≤l.length→n≤i→dictumref04_Count.l1 k (l,f) kk (n:Int) (i:Int)=some ((n+ctl (l.drop i) : Nat) : Int):=by
 intro d
 induction d with
 | zero =>
  intro kk i n h1 h2 h3 h4
  obtain ⟨q,rfl⟩ : ∃ q,kk=q+1:=⟨kk - 1,by omega⟩
  rw [dictumref04_Count.l1.eq_2,decide_eq_false (by show ¬ (i:Int) < (l.length:Int); omega),List.drop_eq_nil_of_le (by omega)]
  rfl
 | succ d ih =>
  intro kk i n h1 h2 h3 h4
  obtain ⟨q,rfl⟩ : ∃ q,kk=q+1:=⟨kk - 1,by omega⟩
  by_cases h:i < l.length
  ·rw [dictumref04_Count.l1.eq_2,decide_eq_true (by show (i:Int) < (l.length:Int); omega),cond_true]
   show Option.bind ((ix l (i:Int)).bind _) _=_
   rw [ix_nat,List.getElem?_eq_getElem h,bind_some',rcounted_f,bind_some',drop_cons h,ctl_cons,wsucc i (by omega)]
   cases ctB l[i] with
   | true =>
    rw [cond_true,cond_true,bind_some',wsucc n (by omega),ih q (i+1) (n+1) (by omega) (by omega) h (by omega),show n+1+ctl (l.drop (i+1))=n+(1+ctl (l.drop (i+1))) from by omega]
   | false =>
    rw [cond_false,cond_false,bind_some',ih q (i+1) n (by omega) (by omega) h (by omega),Nat.zero_add]
  ·rw [dictumref04_Count.l1.eq_2,decide_eq_false (by show ¬ (i:Int) < (l.length:Int); omega),List.drop_eq_nil_of_le (by omega)]
   rfl
theorem rcount_f (k:Nat) (s:List UInt8) (hs:s.length≤100000000) (hk:s.length+30≤k) : dictumref04_Count.f k s=some (ctl (ahP s).1:Int):=by
 unfold dictumref04_Count.f
 obtain ⟨_,h2,h3⟩:=ahR_many s
 rw [rahead_f k s (by omega) hk,bind_some',show dictumref04_Count.l1 k (ahR s) k 0 0=_ from rcount_l1 k (ahR s).1 (ahR s).2 (by omega) (ahR s).1.length k 0 0 (by omega) (by omega) (by omega) (Nat.le_refl _),bind_some',List.drop_zero,Nat.zero_add,h2]
theorem rparse_l1 (k:Nat) (T:T_dictumref03_T) (l:List T_api_Token) (f:T_api_Fault) (hl:l.length≤1000000000) : ∀ (d kk i n:Nat),l.length - i≤d→d < kk→i≤l.length→n≤i→n≤512→dictumref04_Parse.l1 k T (l,f) kk (n:Int) (i:Int)=some (match many n (l.drop i) with | some q => .inl (0,⟨40,q⟩,T) | none => .inr ()):=by
 intro d
 induction d with
 | zero =>
  intro kk i n h1 h2 h3 h4 h5
  obtain ⟨q,rfl⟩ : ∃ q,kk=q+1:=⟨kk - 1,by omega⟩
  rw [dictumref04_Parse.l1.eq_2,decide_eq_false (by show ¬ (i:Int) < (l.length:Int); omega),List.drop_eq_nil_of_le (by omega)]
  rfl
 | succ d ih =>
  intro kk i n h1 h2 h3 h4 h5
  obtain ⟨q,rfl⟩ : ∃ q,kk=q+1:=⟨kk - 1,by omega⟩
  by_cases h:i < l.length
  ·rw [dictumref04_Parse.l1.eq_2,decide_eq_true (by show (i:Int) < (l.length:Int); omega),cond_true]
   show Option.bind ((ix l (i:Int)).bind _) _=_
   rw [ix_nat,List.getElem?_eq_getElem h,bind_some',rcounted_f,bind_some',drop_cons h,wsucc i (by omega)]
   unfold many
   cases ctB l[i] with
   | true =>
    rw [cond_true,cond_true,bind_some',wsucc n (by omega)]
    by_cases h6:512 < n+1
    ·rw [if_pos h6,decide_eq_true (by omega:((n+1:Nat) : Int) > 512),cond_true]
     rfl
    ·rw [if_neg h6,decide_eq_false (by omega:¬ ((n+1:Nat) : Int) > 512),cond_false]
     exact ih q (i+1) (n+1) (by omega) (by omega) h (by omega) (by omega)
   | false =>
    rw [cond_false,cond_false,bind_some',decide_eq_false (by omega:¬ (n:Int) > 512),cond_false]
    exact ih q (i+1) n (by omega) (by omega) h (by omega) h5
  ·rw [dictumref04_Parse.l1.eq_2,decide_eq_false (by show ¬ (i:Int) < (l.length:Int); omega),List.drop_eq_nil_of_le (by omega)]
   rfl
theorem rparse_f (k:Nat) (N:List T_api_Node) (s:List UInt8) (hN:N.length≤1024) (hs:s.length≤2000000) (hk:30 * s.length+2000≤k) : dictumref04_Parse.f k ⟨N⟩ s=some ((parseP N s).1,(parseP N s).2.1,⟨(parseP N s).2.2⟩):=by
 unfold dictumref04_Parse.f parseP
 have hl:=ahP_len s
 have hx:=ahP_text s
 obtain ⟨m1,m2,m3⟩:=ahR_many s
 obtain ⟨a1,a2⟩:=ahR_ahP s
 rw [rahead_f k s (by omega) (by omega),bind_some',show dictumref04_Parse.l1 k ⟨N⟩ (ahR s) k 0 0=_ from rparse_l1 k ⟨N⟩ (ahR s).1 (ahR s).2 (by omega) (ahR s).1.length k 0 0 (by omega) (by omega) (by omega) (Nat.le_refl _) (by omega),bind_some',List.drop_zero,m1]
 cases hm:many 0 (ahP s).1 with
 | some q=>rfl
 | none =>
  simp only
  obtain ⟨o,ho⟩:=ps_end (ahP s).1 N
  have hB:∀ t ∈ (ahP s).1,t.f_Text.length≤1000000000∧t.f_Text.length < 1025:=fun t ht=>by have:=hx t ht; omega
  have hctl:=many_none (ahP s).1 0 hm (by omega)
  have hok:Okr false (ahP s).1 0 ⟨(ahP s).1,0,false,N⟩:=⟨List.suffix_refl _,fun h=>(by cases h),fun _=>hctl,hN⟩
  obtain ⟨r,hr,hout⟩:=(rsims (cnt:=false) (B:=1025) (by omega) (by omega) hB (10 * (ahP s).1.length+5)).fo 0 _ 0 o ho hok (by omega) k k (by omega) (by omega)
  have hpre:=ps_pre false (10 * (ahP s).1.length+5) .fo 0 ⟨(ahP s).1,0,false,N⟩ N (List.prefix_refl _) o ho
  have hr0:dictumref04_parser_formula.f k (⟨(ahP s).1,(0:Int),(0:Int),(0:Int),false,(⟨(0:Int),(⟨(0:Int),(0:Int),(0:Int)⟩ : T_api_Spot)⟩ : T_api_Fault)⟩ : T_dictumref04_parser) ⟨N⟩=some r:=by
   rw [← hr]
   show _=(G_dictumref04_parser_formula.rec_ k k).dictumref04_parser_formula (⟨(ahP s).1,(((ahP s).1.length - (ahP s).1.length:Nat) : Int),((0:Nat) : Int),((0:Nat) : Int),false,F0'⟩ : T_dictumref04_parser) ⟨N⟩
   rw [Nat.sub_self]
   rfl
  have el:((bif ((ahR s).2.f_Code != 0) then (chk (decide (((ahR s).1.length+([(⟨0,([] : List UInt8),(0:Int),(⟨(ahR s).2.f_At.f_Line,(ahR s).2.f_At.f_Col,(ahR s).2.f_At.f_Off⟩ : T_api_Spot)⟩ : T_api_Token)]).length) * 56≤140737488355328))).bind fun _=>some ((ahR s).1++[(⟨0,([] : List UInt8),(0:Int),(⟨(ahR s).2.f_At.f_Line,(ahR s).2.f_At.f_Col,(ahR s).2.f_At.f_Off⟩ : T_api_Spot)⟩ : T_api_Token)]) else some (ahR s).1) : Option (List T_api_Token))=some (ahP s).1:=by
   rw [a2]
   cases (ahR s).2.f_Code != 0 with
   | true =>
    rw [cond_true,cond_true,chk_of (decide_eq_true (by rw [List.length_singleton]; omega))]
    rfl
   | false=>rfl
  have ec:dictumref03_T_Copy.f ⟨N⟩=some ⟨N⟩:=by
   unfold dictumref03_T_Copy.f
   rw [chk_of (decide_eq_true (by rw [List.length_nil]; show (0+N.length) * 40≤_; omega))]
   rfl
  rw [el,bind_some',ec,bind_some',hr0,bind_some',ho,a1]
  cases o with
  | inl e =>
   obtain ⟨a,p,T⟩:=r
   obtain ⟨g1,g2⟩:=hout
   simp only at g1 g2
   simp only
   rw [g2.eq,cond_false,bind_some',cond_false,bind_some',g2.ne,cond_true,g1]
  | inr q =>
   obtain ⟨a,q⟩:=q
   obtain ⟨c,rfl,g2⟩:=hout
   simp only
   have e0:((prOf (ahP s).1 c 0 q).f_bad.f_Code == 0)=true:=rfl
   rw [e0,cond_true,tok_f _ c 0 q g2.suf,bind_some']
   have ez:((bif ((hd q).f_Kind != 0) then some true else some ((ahP s).2.f_Code != 0)) : Option Bool)=some ((hd q).f_Kind != 0 || (ahP s).2.f_Code != 0):=by
    cases (hd q).f_Kind != 0 <;> rfl
   rw [ez,bind_some']
   cases hz:((hd q).f_Kind != 0 || (ahP s).2.f_Code != 0) with
   | true =>
    rw [cond_true,rfail_f _ c 0 q g2.suf]
    rfl
   | false =>
    rw [cond_false,bind_some']
    show (bif q.full then _ else _)=_
    cases hf:q.full <;> rfl
end Go.Proofs.YtpmkkhkphddfeaaGreatDoor.X
set_option linter.unusedVariables false
set_option linter.unusedSimpArgs false
namespace Go.Proofs.YtpmkkhkphddfeaaGreatDoor.X
open Go Go.RowKit Go.Proofs.YtpmkkhkphddfeaaGreatDoor.SX
set_option maxRecDepth 100000 in
theorem heads_at:dictumlaw04_heads.f 64=some true:=by kernel_rfl
theorem heads_ev:Ev fun k=>dictumlaw04_heads.f k=some true:=Ev.mono (fun k k' h=>dictumlaw04_heads.mono h) heads_at
end Go.Proofs.YtpmkkhkphddfeaaGreatDoor.X
set_option linter.unusedVariables false
set_option linter.unusedSimpArgs false
namespace Go.Proofs.YtpmkkhkphddfeaaGreatDoor.X
open Go Go.RowKit Go.Proofs.YtpmkkhkphddfeaaGreatDoor.SX
theorem node_len (x:T_api_Node) : x.f_Name.length≤T_api_Node.bulk x:=by
 unfold T_api_Node.bulk
 simp only [bulk1,bulkS]
 omega
theorem sum_mem {α:Type} (b:α→Nat) : ∀ (a:List α) (x:α),x ∈ a→b x≤(a.map b).sum
 | [],x,h=>by cases h
 | y :: r,x,h=>by
  rw [List.map_cons,List.sum_cons]
  rcases List.mem_cons.1 h with rfl | h
  ·omega
  ·have:=sum_mem b r x h
   omega
theorem rows_bulk (a:List T_api_Node) : a.length≤(bulkL T_api_Node.bulk) a∧∀ x ∈ a,x.f_Name.length≤(bulkL T_api_Node.bulk) a:=by
 have h:=len_le_bulk T_api_Node.bulk (fun x=>by unfold T_api_Node.bulk; omega) a
 simp only [bulkL]
 refine ⟨by omega,fun x hx=>?_⟩
 have h1:=sum_mem T_api_Node.bulk a x hx
 have:=node_len x
 omega
theorem SyntaxParses_pure:∀ (x0:(List T_api_Node)) (x1:List UInt8),(bulkL T_api_Node.bulk) x0+bulkS x1≤1048576→(okL T_api_Node.ok) x0→okS x1→∃ k,dictumlaw04_SyntaxParses.f k x0 x1=some true:=by
 intro x0 x1 hb _ _
 obtain ⟨r1,r2⟩:=rows_bulk x0
 have hl:x1.length≤1048576:=by simp only [bulkS] at hb; omega
 obtain ⟨k0,hk0⟩:=heads_ev
 have h1:40000000≤max k0 40000000:=Nat.le_max_right _ _
 refine ⟨max k0 40000000,?_⟩
 have hh:=hk0 (max k0 40000000) (Nat.le_max_left _ _)
 generalize max k0 40000000=k at h1 hh
 obtain ⟨m,e1,hT⟩:=tables_f k x0 (by omega) (fun x hx=>by have:=r2 x hx; omega) (by omega) (by omega)
 obtain ⟨m2,e2,hT2⟩:=parse_f k (rowsOf x0) m x1 hT (by omega) (by omega)
 have e3:=rparse_f k (rowsOf x0) x1 hT.room (by omega) (by omega)
 unfold dictumlaw04_SyntaxParses.f
 rw [e1,bind_some']
 simp only
 rw [e2,bind_some',e3,bind_some']
 simp only
 rw [beq_self_eq_true,cond_true,fault_refl,cond_true,like_f k _ m2 hT2.room (by omega),bind_some',cond_true,count_f k x1 (by omega) (by omega),bind_some',rcount_f k x1 (by omega) (by omega),bind_some',beq_self_eq_true,cond_true,hh]
 rfl
end Go.Proofs.YtpmkkhkphddfeaaGreatDoor.X
