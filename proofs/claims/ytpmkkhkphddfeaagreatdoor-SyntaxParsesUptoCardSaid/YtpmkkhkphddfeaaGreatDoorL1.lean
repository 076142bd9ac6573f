import Derived.Test.YtpmkkhkphddfeaaGreatDoorXAD
import Derived.Lib.MapLaws
import Derived.Lib.TrimAscii
import Derived.Shelf.Unicode.DecodeSlow
import Derived.Lib.AtoiAll
import Derived.Lib.AtoiAllCases
set_option linter.unusedVariables false
set_option linter.unusedSimpArgs false
namespace Go.Proofs.YtpmkkhkphddfeaaGreatDoor.X
open Go Go.RowKit Go.Proofs.YtpmkkhkphddfeaaGreatDoor.SX
theorem decodeGo_L (l:List UInt8) (h:l≠[]) : Lib.decodeGo ⟨l.toArray⟩=Lib.decodeL l:=by
 unfold Lib.decodeGo Lib.decodeL
 rw [if_neg]
 show ¬ l.toArray.size=0
 simpa using h
theorem getD_drop0 (l:List UInt8) (i q:Nat) : (l.drop i).getD q 0=l.getD (i+q) 0:=by simp [List.getD,List.getElem?_drop]
theorem ix_getD {l:List UInt8} {n:Nat} (h:n < l.length) : ix l (n:Int)=some (l.getD n 0):=by
 rw [ix_nat,List.getElem?_eq_getElem h]
 simp [List.getD,h]
theorem wide_N (s:List UInt8) (i:Nat) : wideAt s i=(Lib.decodeN (s.length - i) (s.getD i 0).toNat (s.getD (i+1) 0).toNat (s.getD (i+2) 0).toNat (s.getD (i+3) 0).toNat).2:=by
 unfold wideAt
 rw [Lib.decodeL_N,List.length_drop,getD_drop0,getD_drop0,getD_drop0,getD_drop0,Nat.add_zero]
theorem rune_N (s:List UInt8) (i:Nat) : runeAt s i=((Lib.decodeN (s.length - i) (s.getD i 0).toNat (s.getD (i+1) 0).toNat (s.getD (i+2) 0).toNat (s.getD (i+3) 0).toNat).1:Int):=by
 unfold runeAt
 rw [Lib.decodeL_N,List.length_drop,getD_drop0,getD_drop0,getD_drop0,getD_drop0,Nat.add_zero]
theorem wide_pos (s:List UInt8) (i:Nat) : 1≤wideAt s i:=Lib.decodeL_width _
theorem wide_le (s:List UInt8) (i:Nat) (h:i < s.length) : i+wideAt s i≤s.length:=by
 have:=Lib.decodeL_le (s.drop i) (by intro e; have:=congrArg List.length e; simp at this; omega)
 rw [List.length_drop] at this
 show i+(Lib.decodeL (s.drop i)).2≤_
 omega
theorem wide_cont (s:List UInt8) (i j:Nat) (h1:i < j) (h2:j < i+wideAt s i) : 128≤(s.getD j 0).toNat:=by
 rw [wide_N] at h2
 obtain ⟨q,rfl⟩ : ∃ q,j=i+q:=⟨j - i,by omega⟩
 rcases Lib.decodeN_shape (s.length - i) (s.getD i 0).toNat (s.getD (i+1) 0).toNat (s.getD (i+2) 0).toNat (s.getD (i+3) 0).toNat with ⟨_,e⟩|⟨_,_,c1,_,e⟩|⟨_,_,c1,c2,_,_,e⟩|⟨_,_,c1,c2,c3,_,_,e⟩ | e
 all_goals (rw [e] at h2; simp only at h2)
 ·omega
 ·obtain rfl:q=1:=by omega
  omega
 ·obtain rfl | rfl:q=1∨q=2:=by omega
  ·omega
  ·omega
 ·obtain rfl | rfl | rfl:q=1∨q=2∨q=3:=by omega
  ·omega
  ·omega
  ·omega
 ·omega
theorem wide_ascii (s:List UInt8) (i:Nat) (h:(s.getD i 0).toNat < 128) : wideAt s i=1∧runeAt s i=((s.getD i 0).toNat:Int):=by
 rw [wide_N,rune_N]
 have:=Lib.decodeN_ascii (s.length - i) (s.getD i 0).toNat (s.getD (i+1) 0).toNat (s.getD (i+2) 0).toNat (s.getD (i+3) 0).toNat h
 rw [this]
 exact ⟨rfl,rfl⟩
def stp (p:Int×Int) (c:UInt8) : Int×Int:=bif c == 10 then (p.1+1,1) else (p.1,p.2+1)
def walk (s:List UInt8) (off:Nat) : Nat→Nat→Int×Int→Nat×(Int×Int)
 | 0,i,p=>(i,p)
 | d+1,i,p=>if i < off then walk s off d (i+wideAt s i) (stp p (s.getD i 0)) else (i,p)
theorem walk_fuel (s:List UInt8) (off:Nat) : ∀ (d e i:Nat) (p:Int×Int),off - i≤d→off - i≤e→walk s off d i p=walk s off e i p:=by
 intro d
 induction d with
 | zero =>
  intro e i p h1 h2
  cases e with
  | zero=>rfl
  | succ e=>rw [walk.eq_2,if_neg (by omega),walk.eq_1]
 | succ d ih =>
  intro e i p h1 h2
  have hw:=wide_pos s i
  cases e with
  | zero=>rw [walk.eq_2,if_neg (by omega),walk.eq_1]
  | succ e =>
   rw [walk.eq_2,walk.eq_2]
   by_cases h:i < off
   ·rw [if_pos h,if_pos h]
    exact ih e _ _ (by omega) (by omega)
   ·rw [if_neg h,if_neg h]
def W (s:List UInt8) (off i:Nat) (p:Int×Int) : Nat×(Int×Int):=walk s off (off - i) i p
theorem W_lt {s:List UInt8} {off i:Nat} {p:Int×Int} (h:i < off) : W s off i p=W s off (i+wideAt s i) (stp p (s.getD i 0)):=by
 have hw:=wide_pos s i
 unfold W
 obtain ⟨d,hd⟩ : ∃ d,off - i=d+1:=⟨off - i - 1,by omega⟩
 rw [hd,walk.eq_2,if_pos h]
 exact walk_fuel s off _ _ _ _ (by omega) (Nat.le_refl _)
theorem W_ge {s:List UInt8} {off i:Nat} {p:Int×Int} (h:off≤i) : W s off i p=(i,p):=by
 unfold W
 rw [show off - i=0 from by omega]
 rfl
def bnd (s:List UInt8) (e:Nat) : Prop:=e=s.length∨(e < s.length∧(s.getD e 0).toNat < 128)
theorem no_cross {s:List UInt8} {i e:Nat} (h:i < e) (hb:bnd s e) : i+wideAt s i≤e:=by
 rcases hb with rfl | ⟨h1,h2⟩
 ·exact wide_le s i h
 ·apply Classical.byContradiction
  intro hc
  have:=wide_cont s i e h (by omega)
  omega
theorem W_bnd {s:List UInt8} {e:Nat} (hb:bnd s e) : ∀ (d i:Nat) (p:Int×Int),e - i≤d→i≤e→(W s e i p).1=e∧∀ off,e≤off→W s off i p=W s off e (W s e i p).2:=by
 intro d
 induction d with
 | zero =>
  intro i p h1 h2
  obtain rfl:i=e:=by omega
  rw [W_ge (Nat.le_refl i)]
  exact ⟨rfl,fun off _=>rfl⟩
 | succ d ih =>
  intro i p h1 h2
  by_cases h:i < e
  ·have hw:=wide_pos s i
   have hn:=no_cross h hb
   obtain ⟨a,b⟩:=ih (i+wideAt s i) (stp p (s.getD i 0)) (by omega) hn
   rw [W_lt h]
   exact ⟨a,fun off ho=>by rw [W_lt (by omega:i < off)]; exact b off ho⟩
  ·obtain rfl:i=e:=by omega
   rw [W_ge (Nat.le_refl i)]
   exact ⟨rfl,fun off _=>rfl⟩
def al (s:List UInt8) (i e:Nat) : Prop:=i≤e∧∀ p,(W s e i p).1=e
theorem al_refl (s:List UInt8) (i:Nat) : al s i i:=⟨Nat.le_refl i,fun p=>by rw [W_ge (Nat.le_refl i)]⟩
theorem al_bnd {s:List UInt8} {i e:Nat} (hb:bnd s e) (h:i≤e) : al s i e:=⟨h,fun p=>(W_bnd hb (e - i) i p (Nat.le_refl _) h).1⟩
theorem al_step {s:List UInt8} {i e:Nat} (h:al s i e) (hi:i < e) : i+wideAt s i≤e∧al s (i+wideAt s i) e:=by
 have key:i+wideAt s i≤e:=by
  apply Classical.byContradiction
  intro hc
  have h2:=h.2 (0,0)
  rw [W_lt hi,W_ge (by omega)] at h2
  simp only at h2
  omega
 refine ⟨key,key,fun p=>?_⟩
 obtain ⟨q,hq⟩ : ∃ q,stp q (s.getD i 0)=p∨(s.getD i 0 == 10)=true:=by
  cases hc:s.getD i 0 == 10 with
  | true=>exact ⟨p,Or.inr rfl⟩
  | false=>exact ⟨(p.1,p.2 - 1),Or.inl (by unfold stp; rw [hc]; show (p.1,p.2 - 1+1)=p; rw [Int.sub_add_cancel])⟩
 have fst:∀ (d j:Nat) (p q:Int×Int),e - j≤d→(W s e j p).1=(W s e j q).1:=by
  intro d
  induction d with
  | zero=>intro j p q hd; rw [W_ge (by omega),W_ge (by omega)]
  | succ d ih =>
   intro j p q hd
   have hw:=wide_pos s j
   by_cases hj:j < e
   ·rw [W_lt hj,W_lt hj]
    exact ih _ _ _ (by omega)
   ·rw [W_ge (by omega),W_ge (by omega)]
 rw [fst _ _ p (stp (0,0) (s.getD i 0)) (Nat.le_refl _),← W_lt hi]
 exact h.2 (0,0)
theorem al_rune (s:List UInt8) (i:Nat) : al s i (i+wideAt s i):=by
 have hw:=wide_pos s i
 exact ⟨by omega,fun p=>by rw [W_lt (by omega),W_ge (Nat.le_refl _)]⟩
theorem al_cut {s:List UInt8} {e:Nat}:∀ (d i:Nat) (p:Int×Int),e - i≤d→al s i e→∀ off,e≤off→W s off i p=W s off e (W s e i p).2:=by
 intro d
 induction d with
 | zero =>
  intro i p h1 h2 off ho
  have:=h2.1
  obtain rfl:i=e:=by omega
  rw [W_ge (Nat.le_refl i)]
 | succ d ih =>
  intro i p h1 h2 off ho
  have h3:=h2.1
  by_cases h:i < e
  ·have hw:=wide_pos s i
   obtain ⟨a,b⟩:=al_step h2 h
   rw [W_lt h,W_lt (by omega:i < off)]
   exact ih _ _ (by omega) b off ho
  ·obtain rfl:i=e:=by omega
   rw [W_ge (Nat.le_refl i)]
theorem al_trans {s:List UInt8} {i e f:Nat} (h1:al s i e) (h2:al s e f) : al s i f:=
 ⟨Nat.le_trans h1.1 h2.1,fun p=>by rw [al_cut (e - i) i p (Nat.le_refl _) h1 f h2.1]; exact h2.2 _⟩
theorem al_ascii (s:List UInt8) (e:Nat) : ∀ (d i:Nat),e - i≤d→i≤e→(∀ j,i≤j→j < e→(s.getD j 0).toNat < 128)→al s i e:=by
 intro d
 induction d with
 | zero =>
  intro i h1 h2 _
  obtain rfl:i=e:=by omega
  exact al_refl s i
 | succ d ih =>
  intro i h1 h2 h3
  by_cases h:i < e
  ·have h4:=al_rune s i
   rw [(wide_ascii s i (h3 i (Nat.le_refl i) h)).1] at h4
   exact al_trans h4 (ih (i+1) (by omega) h (fun j a b=>h3 j (by omega) b))
  ·obtain rfl:i=e:=by omega
   exact al_refl s i
theorem W_lines {s:List UInt8} {off:Nat}:∀ (d i:Nat) (p:Int×Int),off - i≤d→0≤p.1→0≤p.2→0≤(W s off i p).2.1∧0≤(W s off i p).2.2∧(W s off i p).2.1≤p.1+(off - i:Nat)∧(W s off i p).2.2≤p.2+(off - i:Nat)+1:=by
 intro d
 induction d with
 | zero =>
  intro i p h1 h2 h3
  rw [W_ge (by omega)]
  simp only
  omega
 | succ d ih =>
  intro i p h1 h2 h3
  by_cases h:i < off
  ·have hw:=wide_pos s i
   rw [W_lt h]
   have hs:0≤(stp p (s.getD i 0)).1∧0≤(stp p (s.getD i 0)).2∧(stp p (s.getD i 0)).1≤p.1+1∧(stp p (s.getD i 0)).2≤p.2+1:=by
    unfold stp
    cases s.getD i 0 == 10
    ·exact ⟨h2,by show 0≤p.2+1; omega,by show p.1≤_; omega,by show p.2+1≤_; omega⟩
    ·exact ⟨by show 0≤p.1+1; omega,by show (0:Int)≤1; omega,by show p.1+1≤_; omega,by show (1:Int)≤_; omega⟩
   obtain ⟨a,b,c,d'⟩:=ih (i+wideAt s i) (stp p (s.getD i 0)) (by omega) hs.1 hs.2.1
   refine ⟨a,b,by omega,by omega⟩
  ·rw [W_ge (by omega)]
   simp only
   omega
def moreB (s:List UInt8) (j:Nat) (lo hi:Nat) : Bool:=decide (j < s.length) && (decide (lo≤(s.getD j 0).toNat) && decide ((s.getD j 0).toNat≤hi))
theorem cond_and (a b:Bool) : (bif a then some b else some false)=some (a && b):=by cases a <;> rfl
theorem cond_ff (a b:Bool) : (bif a then b else false)=(a && b):=by cases a <;> rfl
theorem cond_some {α:Type} (a:Bool) (x y:α) : (bif a then some x else some y)=some (bif a then x else y):=by cases a <;> rfl
def sizeB (s:List UInt8) (i:Nat) (b:Nat) : Int:=
 bif decide (194≤b) && (decide (b≤223) && moreB s (i+1) 128 191) then 2 else
 bif decide (b=224) && (moreB s (i+1) 160 191 && moreB s (i+2) 128 191) then 3 else
 bif decide (b=237) && (moreB s (i+1) 128 159 && moreB s (i+2) 128 191) then 3 else
 bif decide (225≤b) && (decide (b≤239) && (!decide (b=237) && (moreB s (i+1) 128 191 && moreB s (i+2) 128 191))) then 3 else
 bif decide (b=240) && (moreB s (i+1) 144 191 && (moreB s (i+2) 128 191 && moreB s (i+3) 128 191)) then 4 else
 bif decide (241≤b) && (decide (b≤243) && (moreB s (i+1) 128 191 && (moreB s (i+2) 128 191 && moreB s (i+3) 128 191))) then 4 else
 bif decide (b=244) && (moreB s (i+1) 128 143 && (moreB s (i+2) 128 191 && moreB s (i+3) 128 191)) then 4 else 1
theorem u8le (a b:UInt8) : decide (a≤b)=decide (a.toNat≤b.toNat):=by rw [decide_eq_decide,UInt8.le_iff_toNat_le]
theorem u8eq (a b:UInt8) : (a == b)=decide (a.toNat=b.toNat):=by rw [Bool.eq_iff_iff,beq_iff_eq,decide_eq_true_eq,UInt8.toNat_inj]
theorem sizeB_wide (s:List UInt8) (i:Nat) (h:i < s.length) : sizeB s i (s.getD i 0).toNat=(wideAt s i:Int):=by
 rw [wide_N]
 unfold sizeB moreB
 have k0:=(s.getD i 0).toNat_lt
 have k1:=(s.getD (i+1) 0).toNat_lt
 have k2:=(s.getD (i+2) 0).toNat_lt
 have k3:=(s.getD (i+3) 0).toNat_lt
 have l1:decide (i+1 < s.length)=decide (1 < s.length - i):=by rw [decide_eq_decide]; omega
 have l2:decide (i+2 < s.length)=decide (2 < s.length - i):=by rw [decide_eq_decide]; omega
 have l3:decide (i+3 < s.length)=decide (3 < s.length - i):=by rw [decide_eq_decide]; omega
 rw [l1,l2,l3]
 have hn:1≤s.length - i:=by omega
 generalize (s.getD i 0).toNat=b0 at *
 generalize (s.getD (i+1) 0).toNat=b1 at *
 generalize (s.getD (i+2) 0).toNat=b2 at *
 generalize (s.getD (i+3) 0).toNat=b3 at *
 generalize s.length - i=n at *
 clear l1 l2 l3 h
 simp only [cond_eq_ite,Bool.and_eq_true,decide_eq_true_eq,Bool.not_eq_true',decide_eq_false_iff_not]
 split
 ·unfold Lib.decodeN
  rw [if_neg (by omega),if_pos (by omega),if_pos (by omega)]; rfl
 split
 ·unfold Lib.decodeN
  rw [if_neg (by omega),if_neg (by omega),if_pos (by omega),if_pos (by omega)]; rfl
 split
 ·unfold Lib.decodeN
  rw [if_neg (by omega),if_neg (by omega),if_pos (by omega),if_pos (by omega)]; rfl
 split
 ·unfold Lib.decodeN
  rw [if_neg (by omega),if_neg (by omega),if_pos (by omega),if_pos (by omega)]; rfl
 split
 ·unfold Lib.decodeN
  rw [if_neg (by omega),if_neg (by omega),if_neg (by omega),if_pos (by omega),if_pos (by omega)]; rfl
 split
 ·unfold Lib.decodeN
  rw [if_neg (by omega),if_neg (by omega),if_neg (by omega),if_pos (by omega),if_pos (by omega)]; rfl
 split
 ·unfold Lib.decodeN
  rw [if_neg (by omega),if_neg (by omega),if_neg (by omega),if_pos (by omega),if_pos (by omega)]; rfl
 rename_i h1 h2 h3 h4 h5 h6 h7
 rcases Lib.decodeN_shape n b0 b1 b2 b3 with ⟨_,e⟩|⟨_,_,c1,_,e⟩|⟨_,_,c1,c2,_,_,e⟩|⟨_,_,c1,c2,c3,_,_,e⟩ | e
 ·rw [e]; rfl
 ·exfalso
  clear h2 h3 h4 h5 h6 h7
  apply h1
  refine ⟨?_,?_,?_,?_,?_⟩ <;> omega
 ·exfalso
  clear h1 h5 h6 h7
  rcases (show b0=224∨b0=237∨(225≤b0∧b0≤239∧b0≠237) from by omega) with hb | hb | hb
  ·clear h3 h4
   apply h2
   refine ⟨hb,⟨?_,?_,?_⟩,?_,?_,?_⟩ <;> omega
  ·clear h2 h4
   apply h3
   refine ⟨hb,⟨?_,?_,?_⟩,?_,?_,?_⟩ <;> omega
  ·clear h2 h3
   apply h4
   refine ⟨hb.1,hb.2.1,hb.2.2,⟨?_,?_,?_⟩,?_,?_,?_⟩ <;> omega
 ·exfalso
  clear h1 h2 h3 h4
  rcases (show b0=240∨(241≤b0∧b0≤243)∨b0=244 from by omega) with hb | hb | hb
  ·clear h6 h7
   apply h5
   refine ⟨hb,⟨?_,?_,?_⟩,⟨?_,?_,?_⟩,?_,?_,?_⟩ <;> omega
  ·clear h5 h7
   apply h6
   refine ⟨hb.1,hb.2,⟨?_,?_,?_⟩,⟨?_,?_,?_⟩,?_,?_,?_⟩ <;> omega
  ·clear h5 h6
   apply h7
   refine ⟨hb,⟨?_,?_,?_⟩,⟨?_,?_,?_⟩,?_,?_,?_⟩ <;> omega
 ·rw [e]; rfl
end Go.Proofs.YtpmkkhkphddfeaaGreatDoor.X
set_option linter.unusedVariables false
set_option linter.unusedSimpArgs false
namespace Go.Proofs.YtpmkkhkphddfeaaGreatDoor.X
open Go Go.RowKit Go.Proofs.YtpmkkhkphddfeaaGreatDoor.SX
def spotOf (q:Int×Int) (o:Int) : T_api_Spot:=⟨q.1,q.2,o⟩
theorem stp_nl (p:Int×Int) (c:UInt8) (h:(c == 10)=true) : stp p c=(p.1+1,1):=by unfold stp; rw [h]; rfl
theorem stp_no (p:Int×Int) (c:UInt8) (h:(c == 10)=false) : stp p c=(p.1,p.2+1):=by unfold stp; rw [h]; rfl
def cur (s:List UInt8) (q:Int×Int) (i:Nat) : T_token_cursor:=⟨s,spotOf q (i:Int)⟩
theorem here_f (s:List UInt8) (q:Int×Int) (i:Nat) (h:i≤s.length) : token_cursor_here.f (cur s q i)=some (s.drop i):=by
 unfold token_cursor_here.f
 show (cut s (i:Int) (s.length:Int)).bind _=_
 rw [cut_from s h,bind_some']
theorem woff (s:List UInt8) (i:Nat) (h:i+wideAt s i≤2000000000) : wrap64 ((i:Int)+((Lib.decodeL (s.drop i)).2:Int))=((i+wideAt s i:Nat) : Int):=by
 show wrap64 ((i:Int)+(wideAt s i:Int))=_
 rw [w64 (by omega) (by omega)]
 omega
theorem skip_l1 (k:Nat) (s:List UInt8) (a0:T_token_cursor) (a1:Int) (e:Nat) (he:e≤s.length) (hs:s.length≤1000000000) (ha:wrap64 (a0.f_at.f_Off+a1)=(e:Int)) : ∀ (d kk i:Nat) (L C:Int),e - i≤d→d < kk→al s i e→0≤L→0≤C→L+((e - i:Nat) : Int)≤4000000000→C+((e - i:Nat) : Int)≤4000000000 →
  token_cursor_skip.l1 k a0 a1 kk (cur s (L,C) i)=some (cur s (W s e i (L,C)).2 e):=by
 have eqn:=token_cursor_skip.l1.eq_2 k a0 a1
 rw [ha] at eqn
 clear ha
 intro d
 induction d with
 | zero =>
  intro kk i L C h1 h2 h3 h4 h5 h6 h7
  obtain ⟨kk,rfl⟩ : ∃ m,kk=m+1:=⟨kk - 1,by omega⟩
  obtain rfl:i=e:=by have:=h3.1; omega
  rw [eqn,decide_eq_false (by show ¬ (i:Int) < (i:Int); omega),W_ge (Nat.le_refl i)]
  rfl
 | succ d ih =>
  intro kk i L C h1 h2 h3 h4 h5 h6 h7
  obtain ⟨kk,rfl⟩ : ∃ m,kk=m+1:=⟨kk - 1,by omega⟩
  by_cases h:i < e
  ·have hw:=wide_pos s i
   obtain ⟨hn,hal⟩:=al_step h3 h
   have hne:s.drop i≠[]:=by intro e2; have:=congrArg List.length e2; simp at this; omega
   rw [eqn,decide_eq_true (by show (i:Int) < (e:Int); omega),cond_true,here_f s (L,C) i (by omega),bind_some']
   unfold utf8_DecodeRuneInString.f
   rw [decodeGo_L _ hne,bind_some',W_lt h]
   show ((ix s (i:Int)).bind _:Option T_token_cursor).bind _=_
   rw [ix_getD (by omega),bind_some']
   cases hc:s.getD i 0 == 10 with
   | true =>
    rw [stp_nl _ _ hc,cond_true,bind_some']
    show token_cursor_skip.l1 k a0 a1 kk ⟨s,⟨wrap64 (L+1),wrap64 (0+1),wrap64 ((i:Int)+((Lib.decodeL (s.drop i)).2:Int))⟩⟩=_
    rw [woff s i (by omega),w64 (n:=L+1) (by omega) (by omega),w64 (n:=0+1) (by omega) (by omega)]
    exact ih kk (i+wideAt s i) (L+1) 1 (by omega) (by omega) hal (by omega) (by omega) (by omega) (by omega)
   | false =>
    rw [stp_no _ _ hc,cond_false,bind_some']
    show token_cursor_skip.l1 k a0 a1 kk ⟨s,⟨L,wrap64 (C+1),wrap64 ((i:Int)+((Lib.decodeL (s.drop i)).2:Int))⟩⟩=_
    rw [woff s i (by omega),w64 (n:=C+1) (by omega) (by omega)]
    exact ih kk (i+wideAt s i) L (C+1) (by omega) (by omega) hal (by omega) (by omega) (by omega) (by omega)
  ·obtain rfl:i=e:=by have:=h3.1; omega
   rw [eqn,decide_eq_false (by show ¬ (i:Int) < (i:Int); omega),W_ge (Nat.le_refl i)]
   rfl
theorem skip_f (k:Nat) (s:List UInt8) (i m:Nat) (L C:Int) (he:i+m≤s.length) (hs:s.length≤1000000000) (hb:al s i (i+m)) (hk:s.length < k) (h4:0≤L) (h5:0≤C) (h6:L+(m:Int)≤4000000000) (h7:C+(m:Int)≤4000000000) :
  token_cursor_skip.f k (cur s (L,C) i) (m:Int)=some (cur s (W s (i+m) i (L,C)).2 (i+m)):=by
 unfold token_cursor_skip.f
 rw [skip_l1 k s (cur s (L,C) i) (m:Int) (i+m) he hs (by show wrap64 ((i:Int)+(m:Int))=_; rw [w64 (by omega) (by omega)]; omega) m k i L C (by omega) (by omega) hb h4 h5 (by omega) (by omega),bind_some']
end Go.Proofs.YtpmkkhkphddfeaaGreatDoor.X
set_option linter.unusedVariables false
set_option linter.unusedSimpArgs false
namespace Go.Proofs.YtpmkkhkphddfeaaGreatDoor.X
open Go Go.RowKit Go.Proofs.YtpmkkhkphddfeaaGreatDoor.SX
def nlOf:List UInt8→Nat
 | []=>0
 | c :: t=>bif c == 10 then 0 else nlOf t+1
theorem nlOf_le:∀ l:List UInt8,nlOf l≤l.length
 | []=>Nat.le_refl _
 | c :: t=>by
  have:=nlOf_le t
  unfold nlOf
  cases c == 10 with
  | true=>exact Nat.zero_le _
  | false=>show nlOf t+1≤t.length+1; omega
theorem nlOf_at:∀ l:List UInt8,nlOf l < l.length→l.getD (nlOf l) 0=10
 | [],h=>by simp [nlOf] at h
 | c :: t,h=>by
  cases hc:c == 10 with
  | true =>
   have e:nlOf (c :: t)=0:=by rw [nlOf.eq_2,hc]; rfl
   rw [e]
   simpa using hc
  | false =>
   have e:nlOf (c :: t)=nlOf t+1:=by rw [nlOf.eq_2,hc]; rfl
   rw [e] at h ⊢
   simp only [List.length_cons] at h
   have:=nlOf_at t (by omega)
   simpa using this
theorem indexByte_nl:∀ l:List UInt8,Lib.indexByte l 10=if nlOf l < l.length then (nlOf l:Int) else -1
 | []=>rfl
 | c :: t=>by
  have ih:=indexByte_nl t
  have hl:=nlOf_le t
  show (if (c == 10)=true then (0:Int) else if (Lib.indexByte t 10 == -1)=true then -1 else Lib.indexByte t 10+1)=_
  rw [List.length_cons]
  cases hc:c == 10 with
  | true =>
   have e:nlOf (c :: t)=0:=by rw [nlOf.eq_2,hc]; rfl
   rw [e,if_pos rfl,if_pos (Nat.succ_pos _)]
   rfl
  | false =>
   have e:nlOf (c :: t)=nlOf t+1:=by rw [nlOf.eq_2,hc]; rfl
   rw [e,if_neg (by decide),ih]
   by_cases h:nlOf t < t.length
   ·have hh:((nlOf t:Int) == -1)=false:=by rw [← Bool.not_eq_true,beq_iff_eq]; omega
    rw [if_pos h,hh,if_neg (by decide),if_pos (by omega)]
    omega
   ·rw [if_neg h,if_pos (by decide),if_neg (by omega)]
def blankB (c:UInt8) : Bool:=c == 32 || (c == 9 || (c == 10 || c == 13))
theorem blank_ascii:∀ c:Fin 256,blankB (UInt8.ofNat c.val)=true→c.val < 128:=by decide +kernel
theorem blank_lt {c:UInt8} (h:blankB c=true) : c.toNat < 128:=by
 have:=blank_ascii ⟨c.toNat,c.toNat_lt⟩
 simp only [UInt8.ofNat_toNat] at this
 exact this h
def skp (s:List UInt8) : Nat→Nat→Nat
 | 0,i=>i
 | d+1,i=>if i < s.length then (bif blankB (s.getD i 0) then skp s d (i+1) else bif s.getD i 0 == 35 then skp s d (i+nlOf (s.drop i)) else i) else i
theorem nl_pos {s:List UInt8} {i:Nat} (h:i < s.length) (hc:(s.getD i 0 == 35)=true) : 1≤nlOf (s.drop i):=by
 have e:s.getD i 0=s[i]:=by simp [List.getD,h]
 rw [drop_cons h]
 have h35:s[i]=35:=by rw [← e]; simpa using hc
 unfold nlOf
 rw [h35]
 show 1≤nlOf (s.drop (i+1))+1
 omega
theorem skp_fuel (s:List UInt8) : ∀ (d e i:Nat),s.length - i≤d→s.length - i≤e→skp s d i=skp s e i:=by
 intro d
 induction d with
 | zero =>
  intro e i h1 h2
  cases e with
  | zero=>rfl
  | succ e=>rw [skp.eq_2,if_neg (by omega),skp.eq_1]
 | succ d ih =>
  intro e i h1 h2
  cases e with
  | zero=>rw [skp.eq_2,if_neg (by omega),skp.eq_1]
  | succ e =>
   rw [skp.eq_2,skp.eq_2]
   by_cases h:i < s.length
   ·rw [if_pos h,if_pos h]
    cases blankB (s.getD i 0) with
    | true=>exact ih e (i+1) (by omega) (by omega)
    | false =>
     cases hc:s.getD i 0 == 35 with
     | true =>
      have:=nl_pos h hc
      exact ih e _ (by omega) (by omega)
     | false=>rfl
   ·rw [if_neg h,if_neg h]
def S (s:List UInt8) (i:Nat) : Nat:=skp s (s.length - i) i
theorem S_blank {s:List UInt8} {i:Nat} (h:i < s.length) (hb:blankB (s.getD i 0)=true) : S s i=S s (i+1):=by
 unfold S
 obtain ⟨d,hd⟩ : ∃ d,s.length - i=d+1:=⟨s.length - i - 1,by omega⟩
 rw [hd,skp.eq_2,if_pos h,hb]
 exact skp_fuel s _ _ _ (by omega) (Nat.le_refl _)
theorem S_com {s:List UInt8} {i:Nat} (h:i < s.length) (hb:blankB (s.getD i 0)=false) (hc:(s.getD i 0 == 35)=true) : S s i=S s (i+nlOf (s.drop i)):=by
 have:=nl_pos h hc
 unfold S
 obtain ⟨d,hd⟩ : ∃ d,s.length - i=d+1:=⟨s.length - i - 1,by omega⟩
 rw [hd,skp.eq_2,if_pos h,hb,hc]
 exact skp_fuel s _ _ _ (by omega) (Nat.le_refl _)
theorem S_stop {s:List UInt8} {i:Nat} (h:i < s.length) (hb:blankB (s.getD i 0)=false) (hc:(s.getD i 0 == 35)=false) : S s i=i:=by
 unfold S
 obtain ⟨d,hd⟩ : ∃ d,s.length - i=d+1:=⟨s.length - i - 1,by omega⟩
 rw [hd,skp.eq_2,if_pos h,hb,hc]
 rfl
theorem S_end {s:List UInt8} {i:Nat} (h:s.length≤i) : S s i=i:=by
 unfold S
 rw [show s.length - i=0 from by omega]
 rfl
theorem com_al {s:List UInt8} {i:Nat} (h:i < s.length) : i+nlOf (s.drop i)≤s.length∧al s i (i+nlOf (s.drop i)):=by
 have hl:=nlOf_le (s.drop i)
 rw [List.length_drop] at hl
 refine ⟨by omega,al_bnd ?_ (by omega)⟩
 by_cases he:i+nlOf (s.drop i)=s.length
 ·exact Or.inl he
 ·right
  refine ⟨by omega,?_⟩
  have:=nlOf_at (s.drop i) (by rw [List.length_drop]; omega)
  rw [getD_drop0] at this
  rw [this]
  decide
theorem S_al {s:List UInt8}:∀ (d i:Nat),s.length - i≤d→i≤s.length→S s i≤s.length∧al s i (S s i):=by
 intro d
 induction d with
 | zero =>
  intro i h1 h2
  rw [S_end (by omega)]
  exact ⟨h2,al_refl s i⟩
 | succ d ih =>
  intro i h1 h2
  by_cases h:i < s.length
  ·cases hb:blankB (s.getD i 0) with
   | true =>
    rw [S_blank h hb]
    obtain ⟨a,b⟩:=ih (i+1) (by omega) (by omega)
    have hr:=al_rune s i
    rw [(wide_ascii s i (blank_lt hb)).1] at hr
    exact ⟨a,al_trans hr b⟩
   | false =>
    cases hc:s.getD i 0 == 35 with
    | true =>
     rw [S_com h hb hc]
     have hn:=nl_pos h hc
     obtain ⟨a,b⟩:=com_al h
     obtain ⟨c,e⟩:=ih _ (by omega) a
     exact ⟨c,al_trans b e⟩
    | false=>rw [S_stop h hb hc]; exact ⟨h2,al_refl s i⟩
  ·rw [S_end (by omega)]
   exact ⟨h2,al_refl s i⟩
theorem S_ge (s:List UInt8) (i:Nat) (h:i≤s.length) : i≤S s i∧S s i≤s.length:=⟨(S_al (s.length - i) i (Nat.le_refl _) h).2.1,(S_al (s.length - i) i (Nat.le_refl _) h).1⟩
theorem blank_bif (c:UInt8) : ((bif (c == (32:UInt8)) then some (c == (32:UInt8)) else (bif (c == (9:UInt8)) then some (c == (9:UInt8)) else (bif (c == (10:UInt8)) then some (c == (10:UInt8)) else some (c == (13:UInt8))))) : Option Bool)=some (blankB c):=by
 unfold blankB
 cases c == 32 <;> cases c == 9 <;> cases c == 10 <;> rfl
theorem blank_bif2 (c:UInt8) : ((bif (c == (32:UInt8)) then some true else (bif (c == (9:UInt8)) then some true else (bif (c == (10:UInt8)) then some true else some (c == (13:UInt8))))) : Option Bool)=some (blankB c):=by
 unfold blankB
 cases c == 32 <;> cases c == 9 <;> cases c == 10 <;> rfl
theorem space_l1 (k:Nat) (s:List UInt8) (hs:s.length≤1000000000) (hk:s.length < k) : ∀ (d kk i:Nat) (L C:Int),s.length - i≤d→d < kk→i≤s.length→0≤L→0≤C→L+((s.length - i:Nat) : Int)≤4000000000→C+((s.length - i:Nat) : Int)≤4000000000 →
  token_cursor_space.l1 k kk (s.drop i) (cur s (L,C) i)=some (cur s (W s (S s i) i (L,C)).2 (S s i)):=by
 intro d
 induction d with
 | zero =>
  intro kk i L C h1 h2 h3 h4 h5 h6 h7
  obtain ⟨kk,rfl⟩ : ∃ m,kk=m+1:=⟨kk - 1,by omega⟩
  rw [token_cursor_space.l1.eq_2,List.drop_eq_nil_of_le (by omega),S_end (by omega),W_ge (Nat.le_refl i)]
  rfl
 | succ d ih =>
  intro kk i L C h1 h2 h3 h4 h5 h6 h7
  obtain ⟨kk,rfl⟩ : ∃ m,kk=m+1:=⟨kk - 1,by omega⟩
  by_cases h:i < s.length
  ·have hne:(s.drop i == [])=false:=by
    rw [← Bool.not_eq_true,beq_iff_eq]
    intro e2
    have:=congrArg List.length e2
    simp at this
    omega
   have hx:ix (s.drop i) (0:Int)=some (s.getD i 0):=by
    have:=ix_getD (l:=s.drop i) (n:=0) (by rw [List.length_drop]; omega)
    rw [getD_drop0] at this
    exact this
   rw [token_cursor_space.l1.eq_2,hne,Bool.not_false,cond_true,hx,bind_some',blank_bif,bind_some']
   cases hb:blankB (s.getD i 0) with
   | true =>
    have hr:=al_rune s i
    rw [(wide_ascii s i (blank_lt hb)).1] at hr
    have hsk:=skip_f k s i 1 L C (by omega) hs hr hk h4 h5 (by omega) (by omega)
    have hsk':token_cursor_skip.f k (cur s (L,C) i) 1=_:=hsk
    rw [cond_true,hsk',bind_some',here_f s _ (i+1) (by omega),bind_some',S_blank h hb,al_cut (1) i (L,C) (by omega) hr (S s (i+1)) (S_ge s (i+1) (by omega)).1]
    have hw:=W_lines (s:=s) (off:=i+1) 1 i (L,C) (by omega) h4 h5
    generalize hq:(W s (i+1) i (L,C)).2=q at hw ⊢
    obtain ⟨L2,C2⟩:=q
    have hnl:C2≤C+1∨C2≤1:=by
     have:W s (i+1) i (L,C)=(i+1,stp (L,C) (s.getD i 0)):=by rw [W_lt (by omega),(wide_ascii s i (blank_lt hb)).1,W_ge (Nat.le_refl _)]
     rw [this] at hq
     cases hc:s.getD i 0 == 10 with
     | true=>rw [stp_nl _ _ hc] at hq; injection hq with a b; right; omega
     | false=>rw [stp_no _ _ hc] at hq; injection hq with a b; left; omega
    simp only at hw
    exact ih kk (i+1) L2 C2 (by omega) (by omega) (by omega) (by omega) (by omega) (by omega) (by omega)
   | false =>
    rw [cond_false]
    cases hc:s.getD i 0 == 35 with
    | true =>
     have hn:=nl_pos h hc
     obtain ⟨hle,hal⟩:=com_al h
     have hi:((bif decide (Lib.indexByte (s.drop i) 10 < 0) then some ((s.drop i).length:Int) else some (Lib.indexByte (s.drop i) 10)) : Option Int)=some (nlOf (s.drop i) : Int):=by
      have hl:=nlOf_le (s.drop i)
      rw [indexByte_nl]
      by_cases h9:nlOf (s.drop i) < (s.drop i).length
      ·rw [if_pos h9,decide_eq_false (by omega)]; rfl
      ·rw [if_neg h9,decide_eq_true (by omega),cond_true]
       congr 1
       omega
     unfold strings_IndexByte.f
     rw [cond_true,bind_some',hi,bind_some',skip_f k s i (nlOf (s.drop i)) L C hle hs hal hk h4 h5 (by omega) (by omega),bind_some',here_f s _ _ hle,bind_some',S_com h hb hc,al_cut (nlOf (s.drop i)) i (L,C) (by omega) hal _ (S_ge s _ hle).1]
     clear hi
     have hw:=W_lines (s:=s) (off:=i+nlOf (s.drop i)) (nlOf (s.drop i)) i (L,C) (by omega) h4 h5
     have hcol:(W s (i+nlOf (s.drop i)) i (L,C)).2.2≤C+(nlOf (s.drop i) : Int)∨(W s (i+nlOf (s.drop i)) i (L,C)).2.2≤(nlOf (s.drop i) : Int):=by
      have key:=W_lines (s:=s) (off:=i+nlOf (s.drop i)) (nlOf (s.drop i)) (i+1) (L,C+1) (by omega) h4 (by omega)
      have hne10:(s.getD i 0 == 10)=false:=by
       have h35:s.getD i 0=35:=by simpa using hc
       rw [h35]; rfl
      have hone:(s.getD i 0).toNat < 128:=by
       have h35:s.getD i 0=35:=by simpa using hc
       rw [h35]; decide
      left
      have colb:∀ (d j:Nat) (p:Int×Int),i+nlOf (s.drop i) - j≤d→i≤j→0≤p.2→(W s (i+nlOf (s.drop i)) j p).2.2≤max p.2 0+(i+nlOf (s.drop i) - j:Nat)∨(W s (i+nlOf (s.drop i)) j p).2.2≤(i+nlOf (s.drop i) - j:Nat):=by
       intro d
       induction d with
       | zero=>intro j p a b c; rw [W_ge (by omega)]; simp only; omega
       | succ d ihd =>
        intro j p a b c
        have hw:=wide_pos s j
        by_cases hj:j < i+nlOf (s.drop i)
        ·rw [W_lt hj]
         cases h10:s.getD j 0 == 10 with
         | true =>
          rw [stp_nl _ _ h10]
          have:=ihd (j+wideAt s j) (p.1+1,1) (by omega) (by omega) (by omega)
          simp only at this
          omega
         | false =>
          rw [stp_no _ _ h10]
          have:=ihd (j+wideAt s j) (p.1,p.2+1) (by omega) (by omega) (by simp only; omega)
          simp only at this
          omega
        ·rw [W_ge (by omega)]; simp only; omega
      have:=colb (nlOf (s.drop i)) i (L,C) (by omega) (Nat.le_refl i) h5
      simp only at this
      omega
     generalize (W s (i+nlOf (s.drop i)) i (L,C)).2=q at hw hcol ⊢
     obtain ⟨L2,C2⟩:=q
     simp only at hw hcol
     exact ih kk (i+nlOf (s.drop i)) L2 C2 (by omega) (by omega) hle (by omega) (by omega) (by omega) (by omega)
    | false =>
     rw [cond_false,S_stop h hb hc,W_ge (Nat.le_refl i)]
  ·rw [token_cursor_space.l1.eq_2,List.drop_eq_nil_of_le (by omega),S_end (by omega),W_ge (Nat.le_refl i)]
   rfl
theorem space_f (k:Nat) (s:List UInt8) (i:Nat) (L C:Int) (hs:s.length≤1000000000) (hk:s.length < k) (h3:i≤s.length) (h4:0≤L) (h5:0≤C) (h6:L+((s.length - i:Nat) : Int)≤4000000000) (h7:C+((s.length - i:Nat) : Int)≤4000000000) :
  token_cursor_space.f k (cur s (L,C) i)=some (cur s (W s (S s i) i (L,C)).2 (S s i)):=by
 unfold token_cursor_space.f
 rw [here_f s _ i h3,bind_some',space_l1 k s hs hk (s.length - i) k i L C (Nat.le_refl _) (by omega) h3 h4 h5 h6 h7,bind_some']
end Go.Proofs.YtpmkkhkphddfeaaGreatDoor.X
set_option linter.unusedVariables false
set_option linter.unusedSimpArgs false
namespace Go.Proofs.YtpmkkhkphddfeaaGreatDoor.X
open Go Go.RowKit Go.Proofs.YtpmkkhkphddfeaaGreatDoor.SX
def letB (c:UInt8) : Bool:=(decide (97≤c.toNat) && decide (c.toNat≤122)) || ((decide (65≤c.toNat) && decide (c.toNat≤90)) || c == 95)
def digB (c:UInt8) : Bool:=decide (48≤c.toNat) && decide (c.toNat≤57)
def tailB (c:UInt8) : Bool:=letB c || (digB c || c == 39)
theorem cls:∀ c:Fin 256,token_letter.f (UInt8.ofNat c.val)=some (letB (UInt8.ofNat c.val))∧token_digit.f (UInt8.ofNat c.val)=some (digB (UInt8.ofNat c.val))∧token_tail.f (UInt8.ofNat c.val)=some (tailB (UInt8.ofNat c.val)) ∧
  (tailB (UInt8.ofNat c.val)=true→c.val < 128∧blankB (UInt8.ofNat c.val)=false∧(UInt8.ofNat c.val == 35)=false)∧(letB (UInt8.ofNat c.val)=true→tailB (UInt8.ofNat c.val)=true∧digB (UInt8.ofNat c.val)=false)∧(digB (UInt8.ofNat c.val)=true→tailB (UInt8.ofNat c.val)=true):=by decide +kernel
theorem cls_c (c:UInt8) : token_letter.f c=some (letB c)∧token_digit.f c=some (digB c)∧token_tail.f c=some (tailB c) ∧
  (tailB c=true→c.toNat < 128∧blankB c=false∧(c == 35)=false)∧(letB c=true→tailB c=true∧digB c=false)∧(digB c=true→tailB c=true):=by
 have h:=cls ⟨c.toNat,c.toNat_lt⟩
 simp only [UInt8.ofNat_toNat] at h
 exact h
def runN (p:UInt8→Bool) : List UInt8→Nat
 | []=>0
 | c :: t=>bif p c then runN p t+1 else 0
theorem runN_le (p:UInt8→Bool) : ∀ l:List UInt8,runN p l≤l.length
 | []=>Nat.le_refl _
 | c :: t=>by
  have:=runN_le p t
  rw [runN.eq_2]
  cases p c with
  | true=>show runN p t+1≤t.length+1; omega
  | false=>exact Nat.zero_le _
theorem runN_at (p:UInt8→Bool) : ∀ (l:List UInt8) (j:Nat),j < runN p l→p (l.getD j 0)=true
 | [],j,h=>by simp [runN] at h
 | c :: t,j,h=>by
  rw [runN.eq_2] at h
  cases hc:p c with
  | false=>rw [hc] at h; exact absurd h (Nat.not_lt_zero _)
  | true =>
   rw [hc] at h
   cases j with
   | zero=>exact hc
   | succ j=>exact runN_at p t j (by have h2:j+1 < runN p t+1:=h; omega)
theorem runN_cons_t {p:UInt8→Bool} {c:UInt8} {t:List UInt8} (h:p c=true) : runN p (c :: t)=runN p t+1:=by rw [runN.eq_2,h]; rfl
theorem runN_cons_f {p:UInt8→Bool} {c:UInt8} {t:List UInt8} (h:p c=false) : runN p (c :: t)=0:=by rw [runN.eq_2,h]; rfl
theorem getD_eq {s:List UInt8} {i:Nat} (h:i < s.length) : s[i]=s.getD i 0:=by simp [List.getD,h]
theorem run_tail_l1 (k:Nat) (l:List UInt8) (hl:l.length≤1000000000) : ∀ (d kk i:Nat),l.length - i≤d→d < kk→i≤l.length→token_run_token_tail.l1 k l kk (i:Int)=some ((i+runN tailB (l.drop i) : Nat) : Int):=by
 intro d
 induction d with
 | zero =>
  intro kk i h1 h2 h3
  obtain ⟨kk,rfl⟩ : ∃ m,kk=m+1:=⟨kk - 1,by omega⟩
  rw [token_run_token_tail.l1.eq_2,decide_eq_false (by omega),List.drop_eq_nil_of_le (by omega)]
  rfl
 | succ d ih =>
  intro kk i h1 h2 h3
  obtain ⟨kk,rfl⟩ : ∃ m,kk=m+1:=⟨kk - 1,by omega⟩
  by_cases h:i < l.length
  ·rw [token_run_token_tail.l1.eq_2,decide_eq_true (by omega:(i:Int) < (l.length:Int)),cond_true,ix_getD h,bind_some',(cls_c _).2.2.1,bind_some',bind_some',drop_cons h,getD_eq h]
   cases hc:tailB (l.getD i 0) with
   | true =>
    rw [cond_true,wsucc i (by omega),ih kk (i+1) (by omega) (by omega) (by omega),runN_cons_t hc]
    congr 1
    omega
   | false=>rw [cond_false,runN_cons_f hc]; rfl
  ·rw [token_run_token_tail.l1.eq_2,decide_eq_false (by omega),List.drop_eq_nil_of_le (by omega)]
   rfl
theorem run_digit_l1 (k:Nat) (l:List UInt8) (hl:l.length≤1000000000) : ∀ (d kk i:Nat),l.length - i≤d→d < kk→i≤l.length→token_run_token_digit.l1 k l kk (i:Int)=some ((i+runN digB (l.drop i) : Nat) : Int):=by
 intro d
 induction d with
 | zero =>
  intro kk i h1 h2 h3
  obtain ⟨kk,rfl⟩ : ∃ m,kk=m+1:=⟨kk - 1,by omega⟩
  rw [token_run_token_digit.l1.eq_2,decide_eq_false (by omega),List.drop_eq_nil_of_le (by omega)]
  rfl
 | succ d ih =>
  intro kk i h1 h2 h3
  obtain ⟨kk,rfl⟩ : ∃ m,kk=m+1:=⟨kk - 1,by omega⟩
  by_cases h:i < l.length
  ·rw [token_run_token_digit.l1.eq_2,decide_eq_true (by omega:(i:Int) < (l.length:Int)),cond_true,ix_getD h,bind_some',(cls_c _).2.1,bind_some',bind_some',drop_cons h,getD_eq h]
   cases hc:digB (l.getD i 0) with
   | true =>
    rw [cond_true,wsucc i (by omega),ih kk (i+1) (by omega) (by omega) (by omega),runN_cons_t hc]
    congr 1
    omega
   | false=>rw [cond_false,runN_cons_f hc]; rfl
  ·rw [token_run_token_digit.l1.eq_2,decide_eq_false (by omega),List.drop_eq_nil_of_le (by omega)]
   rfl
theorem run_tail_f (k:Nat) (l:List UInt8) (hl:l.length≤1000000000) (hk:l.length < k) : token_run_token_tail.f k l=some (runN tailB l:Int):=by
 unfold token_run_token_tail.f
 have h:=run_tail_l1 k l hl l.length k 0 (by omega) hk (by omega)
 rw [show token_run_token_tail.l1 k l k 0=_ from h,bind_some',List.drop_zero,Nat.zero_add]
theorem run_digit_f (k:Nat) (l:List UInt8) (hl:l.length≤1000000000) (hk:l.length < k) : token_run_token_digit.f k l=some (runN digB l:Int):=by
 unfold token_run_token_digit.f
 have h:=run_digit_l1 k l hl l.length k 0 (by omega) hk (by omega)
 rw [show token_run_token_digit.l1 k l k 0=_ from h,bind_some',List.drop_zero,Nat.zero_add]
def numV:Nat→List UInt8→Nat
 | acc,[]=>acc
 | acc,c :: t=>bif digB c then numV (acc * 10+(c.toNat - 48)) t else acc
theorem numV_ge:∀ (l:List UInt8) (acc:Nat),acc≤numV acc l
 | [],acc=>Nat.le_refl _
 | c :: t,acc=>by
  rw [numV.eq_2]
  cases digB c with
  | true=>exact Nat.le_trans (by omega) (numV_ge t _)
  | false=>exact Nat.le_refl _
theorem digB_iff {c:UInt8}:digB c=true↔48≤c.toNat∧c.toNat≤57:=by unfold digB; simp
theorem numV_take:∀ (l:List UInt8) (acc:Nat),numV acc (l.take (runN digB l))=numV acc l
 | [],acc=>rfl
 | c :: t,acc=>by
  cases hc:digB c with
  | true =>
   rw [runN_cons_t hc,List.take_succ_cons,numV.eq_2,numV.eq_2,hc]
   exact numV_take t _
  | false=>rw [runN_cons_f hc,List.take_zero,numV.eq_2,hc]; rfl
theorem take_digits (l:List UInt8) : ∀ c ∈ l.take (runN digB l),digB c=true:=by
 induction l with
 | nil=>intro c h; simp [runN] at h
 | cons a t ih =>
  intro c h
  cases ha:digB a with
  | true =>
   rw [runN_cons_t ha,List.take_succ_cons] at h
   rcases List.mem_cons.1 h with rfl | h
   ·exact ha
   ·exact ih c h
  | false=>rw [runN_cons_f ha,List.take_zero] at h; cases h
theorem parse_digits:∀ (m:List UInt8) (acc:Nat),(∀ c ∈ m,digB c=true)→acc < 18446744073709551616→Lib.parseUint10 acc m=if numV acc m < 18446744073709551616 then .ok (numV acc m) else .range
 | [],acc,_,ha=>by
  show Lib.NumEnd.ok acc=if acc < _ then _ else _
  rw [if_pos ha]
  rfl
 | c :: t,acc,h,ha=>by
  have hc:=h c (List.mem_cons_self ..)
  have hd:=digB_iff.1 hc
  have hg:=numV_ge t (acc * 10+(c.toNat - 48))
  show (if 48≤c.toNat∧c.toNat≤57 then _ else _)=_
  rw [if_pos hd,numV.eq_2,hc,cond_true]
  by_cases h1:1844674407370955162≤acc
  ·rw [if_pos h1,if_neg (by omega)]
  ·rw [if_neg h1]
   by_cases h2:18446744073709551616≤acc * 10+(c.toNat - 48)
   ·rw [if_pos h2,if_neg (by omega)]
   ·rw [if_neg h2]
    exact parse_digits t _ (fun x hx=>h x (List.mem_cons_of_mem _ hx)) (by omega)
theorem atoi_digits (m:List UInt8) (hne:m≠[]) (h:∀ c ∈ m,digB c=true) : (numV 0 m < 9223372036854775808∧atoiF m=((numV 0 m:Int),false))∨(9223372036854775808≤numV 0 m∧(atoiF m).2=true):=by
 cases m with
 | nil=>exact absurd rfl hne
 | cons c t =>
  have hc:=digB_iff.1 (h c (List.mem_cons_self ..))
  have hp:=parse_digits (c :: t) 0 h (by omega)
  have hm:Lib.parseMag (c :: t)=Lib.parseUint10 0 (c :: t):=by unfold Lib.parseMag; rw [if_neg (by simp)]
  unfold atoiF
  rw [Lib.atoiAll_plain c t (by omega) (by omega),hm,hp]
  by_cases h1:numV 0 (c :: t) < 18446744073709551616
  ·rw [if_pos h1]
   unfold Lib.signless
   by_cases h2:9223372036854775808≤numV 0 (c :: t)
   ·right
    simp only
    rw [if_pos h2]
    exact ⟨h2,rfl⟩
   ·left
    simp only
    rw [if_neg h2]
    exact ⟨by omega,rfl⟩
  ·right
   rw [if_neg h1]
   exact ⟨by omega,rfl⟩
def numBad (l:List UInt8) : Bool:=(decide (1 < runN digB l) && l.getD 0 0 == 48) || (decide (999999999 < numV 0 l) || (decide (runN digB l < l.length) && tailB (l.getD (runN digB l) 0)))
end Go.Proofs.YtpmkkhkphddfeaaGreatDoor.X
set_option linter.unusedVariables false
set_option linter.unusedSimpArgs false
namespace Go.Proofs.YtpmkkhkphddfeaaGreatDoor.X
open Go Go.RowKit Go.Proofs.YtpmkkhkphddfeaaGreatDoor.SX
def SIGNS:List (List UInt8):=[[60,45,62],[60,61],[61,62],[45,62],[124,45],[126],[38],[124],[40],[41],[91],[93],[123],[125],[44],[46],[58],[59],[61],[47]]
def SPECS:List (List UInt8×Int×List UInt8):=[([194,172],3,[126]),([226,136,167],3,[38]),([226,136,168],3,[124]),([226,134,146],3,[45,62]),([226,134,148],3,[60,45,62]),([226,138,162],3,[124,45]),([226,137,164],3,[60,61]),([226,138,164],1,[116,114,117,101]),([226,138,165],1,[102,97,108,115,101])]
def signOf (l:List UInt8) : Option (List UInt8):=SIGNS.find? fun x=>x.isPrefixOf l
def specOf (l:List UInt8) : Option (List UInt8×Int×List UInt8):=SPECS.find? fun e=>e.1.isPrefixOf l
theorem pfx_take (t l:List UInt8) : t.isPrefixOf l=(decide (t.length≤l.length) && (l.take t.length == t)):=by
 rw [Bool.eq_iff_iff,List.isPrefixOf_iff_prefix,List.prefix_iff_eq_take,Bool.and_eq_true,decide_eq_true_eq,beq_iff_eq]
 constructor
 ·intro h
  refine ⟨?_,h.symm⟩
  have:=congrArg List.length h
  rw [List.length_take] at this
  omega
 ·intro h
  exact h.2.symm
theorem hasp_f (l x:List UInt8) : strings_HasPrefix.f l x=some (x.isPrefixOf l):=by
 unfold strings_HasPrefix.f stringslite_HasPrefix.f
 rw [pfx_take]
 by_cases h:x.length≤l.length
 ·rw [decide_eq_true (by omega:(l.length:Int) ≥ (x.length:Int)),cond_true,decide_eq_true h]
  have hc:cut l 0 (x.length:Int)=some (l.take x.length):=cut_to l h
  rw [hc]
  rfl
 ·rw [decide_eq_false (by omega:¬ (l.length:Int) ≥ (x.length:Int)),decide_eq_false h]
  rfl
def tk (k:Int) (t:List UInt8) (v:Int) : T_api_Token:=⟨k,t,v,⟨0,0,0⟩⟩
theorem sign_l1 (k:Nat) (l:List UInt8) : ∀ (d kk n:Nat),20 - n≤d→d < kk→n≤20 →
  token_sign.l1 k l kk (n:Int)=some (match (SIGNS.drop n).find? (fun e=>e.isPrefixOf l) with | some e => .inl (e,(e.length:Int)) | none => .inr ()):=by
 intro d
 have hlen:SIGNS.length=20:=rfl
 induction d with
 | zero =>
  intro kk n h1 h2 h3
  obtain ⟨kk,rfl⟩ : ∃ m,kk=m+1:=⟨kk - 1,by omega⟩
  rw [token_sign.l1.eq_2,decide_eq_false (by omega),show SIGNS.drop n=[] from List.drop_eq_nil_of_le (by omega)]
  rfl
 | succ d ih =>
  intro kk n h1 h2 h3
  obtain ⟨kk,rfl⟩ : ∃ m,kk=m+1:=⟨kk - 1,by omega⟩
  by_cases h:n < 20
  ·have h':n < SIGNS.length:=by omega
   rw [token_sign.l1.eq_2,decide_eq_true (by omega:(n:Int) < 20),cond_true]
   show (ix SIGNS (n:Int)).bind _=_
   rw [ix_nat,List.getElem?_eq_getElem h',bind_some',hasp_f,bind_some',drop_cons h',List.find?_cons]
   cases hp:SIGNS[n].isPrefixOf l with
   | true=>rfl
   | false =>
    rw [cond_false,wsucc n (by omega)]
    exact ih kk (n+1) (by omega) (by omega) (by omega)
  ·rw [token_sign.l1.eq_2,decide_eq_false (by omega),show SIGNS.drop n=[] from List.drop_eq_nil_of_le (by omega)]
   rfl
theorem pfx3 (a b c:UInt8) (l:List UInt8) : ([a,b,c] : List UInt8).isPrefixOf l=(decide (2 < l.length) && (decide ((l.getD 0 0).toNat=a.toNat) && (decide ((l.getD 1 0).toNat=b.toNat) && decide ((l.getD 2 0).toNat=c.toNat)))):=by
 match l with
 | []=>rfl
 | [x]=>simp [List.isPrefixOf]
 | [x,y]=>simp [List.isPrefixOf]
 | x :: y :: z :: t =>
  rw [Bool.eq_iff_iff]
  simp only [List.isPrefixOf,Bool.and_eq_true,beq_iff_eq,decide_eq_true_eq,List.getD_cons_zero,List.getD_cons_succ,List.length_cons,UInt8.toNat_inj,and_true]
  constructor
  ·rintro ⟨rfl,rfl,rfl⟩; exact ⟨by omega,rfl,rfl,rfl⟩
  ·rintro ⟨_,rfl,rfl,rfl⟩; exact ⟨rfl,rfl,rfl⟩
theorem pfx2 (a b:UInt8) (l:List UInt8) : ([a,b] : List UInt8).isPrefixOf l=(decide (1 < l.length) && (decide ((l.getD 0 0).toNat=a.toNat) && decide ((l.getD 1 0).toNat=b.toNat))):=by
 match l with
 | []=>rfl
 | [x]=>simp [List.isPrefixOf]
 | x :: y :: t =>
  rw [Bool.eq_iff_iff]
  simp only [List.isPrefixOf,Bool.and_eq_true,beq_iff_eq,decide_eq_true_eq,List.getD_cons_zero,List.getD_cons_succ,List.length_cons,UInt8.toNat_inj,and_true]
  constructor
  ·rintro ⟨rfl,rfl⟩; exact ⟨by omega,rfl,rfl⟩
  ·rintro ⟨_,rfl,rfl⟩; exact ⟨rfl,rfl⟩
theorem rune3 (l:List UInt8) (b c:Nat) (hb:128≤b∧b < 192) (hc:128≤c∧c < 192) : ((Lib.decodeL l).1=8192+(b - 128) * 64+(c - 128)↔2 < l.length∧(l.getD 0 0).toNat=226∧(l.getD 1 0).toNat=b∧(l.getD 2 0).toNat=c)∧((Lib.decodeL l).1=8192+(b - 128) * 64+(c - 128)→(Lib.decodeL l).2=3):=by
 rw [Lib.decodeL_N]
 have k0:=(l.getD 0 0).toNat_lt
 have k1:=(l.getD 1 0).toNat_lt
 have k2:=(l.getD 2 0).toNat_lt
 have k3:=(l.getD 3 0).toNat_lt
 generalize (l.getD 0 0).toNat=b0 at *
 generalize (l.getD 1 0).toNat=b1 at *
 generalize (l.getD 2 0).toNat=b2 at *
 generalize (l.getD 3 0).toNat=b3 at *
 generalize l.length=n at *
 have conv:2 < n∧b0=226∧b1=b∧b2=c→Lib.decodeN n b0 b1 b2 b3=(8192+(b - 128) * 64+(c - 128),3):=by
  rintro ⟨h1,rfl,rfl,rfl⟩
  unfold Lib.decodeN
  rw [if_neg (by omega),if_neg (by omega),if_pos (by omega),if_pos (by omega)]
  exact Prod.ext (by simp only; omega) rfl
 have fwd:(Lib.decodeN n b0 b1 b2 b3).1=8192+(b - 128) * 64+(c - 128)→2 < n∧b0=226∧b1=b∧b2=c:=by
  rcases Lib.decodeN_shape n b0 b1 b2 b3 with ⟨_,e⟩|⟨_,_,c1,_,e⟩|⟨_,_,c1,c2,_,_,e⟩|⟨_,_,c1,c2,c3,_,_,e⟩ | e
  all_goals (rw [e]; simp only; clear conv e; omega)
 refine ⟨⟨fwd,fun h=>by rw [conv h]⟩,fun h=>by rw [conv (fwd h)]⟩
theorem rune2 (l:List UInt8) : ((Lib.decodeL l).1=172↔1 < l.length∧(l.getD 0 0).toNat=194∧(l.getD 1 0).toNat=172)∧((Lib.decodeL l).1=172→(Lib.decodeL l).2=2):=by
 rw [Lib.decodeL_N]
 have k0:=(l.getD 0 0).toNat_lt
 have k1:=(l.getD 1 0).toNat_lt
 have k2:=(l.getD 2 0).toNat_lt
 have k3:=(l.getD 3 0).toNat_lt
 generalize (l.getD 0 0).toNat=b0 at *
 generalize (l.getD 1 0).toNat=b1 at *
 generalize (l.getD 2 0).toNat=b2 at *
 generalize (l.getD 3 0).toNat=b3 at *
 generalize l.length=n at *
 have conv:1 < n∧b0=194∧b1=172→Lib.decodeN n b0 b1 b2 b3=(172,2):=by
  rintro ⟨h1,rfl,rfl⟩
  unfold Lib.decodeN
  rw [if_neg (by omega),if_pos (by omega),if_pos (by omega)]
 have fwd:(Lib.decodeN n b0 b1 b2 b3).1=172→1 < n∧b0=194∧b1=172:=by
  rcases Lib.decodeN_shape n b0 b1 b2 b3 with ⟨_,e⟩|⟨_,_,c1,_,e⟩|⟨_,_,c1,c2,_,_,e⟩|⟨_,_,c1,c2,c3,_,_,e⟩ | e
  all_goals (rw [e]; simp only; clear conv e; omega)
 refine ⟨⟨fwd,fun h=>by rw [conv h]⟩,fun h=>by rw [conv (fwd h)]⟩
theorem pfx_rune3 (l:List UInt8) (b c:UInt8) (hb:128≤b.toNat∧b.toNat < 192) (hc:128≤c.toNat∧c.toNat < 192) : ([226,b,c] : List UInt8).isPrefixOf l=decide ((Lib.decodeL l).1=8192+(b.toNat - 128) * 64+(c.toNat - 128)):=by
 rw [pfx3,Bool.eq_iff_iff]
 simp only [Bool.and_eq_true,decide_eq_true_eq]
 exact (rune3 l b.toNat c.toNat hb hc).1.symm
theorem pfx_rune2 (l:List UInt8) : ([194,172] : List UInt8).isPrefixOf l=decide ((Lib.decodeL l).1=172):=by
 rw [pfx2,Bool.eq_iff_iff]
 simp only [Bool.and_eq_true,decide_eq_true_eq]
 exact (rune2 l).1.symm
theorem specOf_rune (l:List UInt8) : specOf l=(
  if (Lib.decodeL l).1=172 then some ([194,172],3,[126]) else if (Lib.decodeL l).1=8743 then some ([226,136,167],3,[38]) else if (Lib.decodeL l).1=8744 then some ([226,136,168],3,[124]) else
  if (Lib.decodeL l).1=8594 then some ([226,134,146],3,[45,62]) else if (Lib.decodeL l).1=8596 then some ([226,134,148],3,[60,45,62]) else if (Lib.decodeL l).1=8866 then some ([226,138,162],3,[124,45]) else
  if (Lib.decodeL l).1=8804 then some ([226,137,164],3,[60,61]) else if (Lib.decodeL l).1=8868 then some ([226,138,164],1,[116,114,117,101]) else if (Lib.decodeL l).1=8869 then some ([226,138,165],1,[102,97,108,115,101]) else none):=by
 unfold specOf SPECS
 simp only [List.find?_cons,List.find?_nil]
 rw [pfx_rune2,pfx_rune3 l 136 167 (by decide) (by decide),pfx_rune3 l 136 168 (by decide) (by decide),pfx_rune3 l 134 146 (by decide) (by decide),pfx_rune3 l 134 148 (by decide) (by decide),pfx_rune3 l 138 162 (by decide) (by decide),pfx_rune3 l 137 164 (by decide) (by decide),pfx_rune3 l 138 164 (by decide) (by decide),pfx_rune3 l 138 165 (by decide) (by decide)]
 show (match decide ((Lib.decodeL l).1=172) with | true=>_ | false=>match decide ((Lib.decodeL l).1=8743) with | true=>_ | false=>match decide ((Lib.decodeL l).1=8744) with | true=>_ | false=>match decide ((Lib.decodeL l).1=8594) with | true=>_ | false=>match decide ((Lib.decodeL l).1=8596) with | true=>_ | false=>match decide ((Lib.decodeL l).1=8866) with | true=>_ | false=>match decide ((Lib.decodeL l).1=8804) with | true=>_ | false=>match decide ((Lib.decodeL l).1=8868) with | true=>_ | false=>match decide ((Lib.decodeL l).1=8869) with | true=>_ | false=>_)=_
 generalize (Lib.decodeL l).1=r
 by_cases h0:r=172
 ·rw [decide_eq_true h0,if_pos h0]
 rw [decide_eq_false h0,if_neg h0]
 by_cases h1:r=8743
 ·rw [decide_eq_true h1,if_pos h1]
 rw [decide_eq_false h1,if_neg h1]
 by_cases h2:r=8744
 ·rw [decide_eq_true h2,if_pos h2]
 rw [decide_eq_false h2,if_neg h2]
 by_cases h3:r=8594
 ·rw [decide_eq_true h3,if_pos h3]
 rw [decide_eq_false h3,if_neg h3]
 by_cases h4:r=8596
 ·rw [decide_eq_true h4,if_pos h4]
 rw [decide_eq_false h4,if_neg h4]
 by_cases h5:r=8866
 ·rw [decide_eq_true h5,if_pos h5]
 rw [decide_eq_false h5,if_neg h5]
 by_cases h6:r=8804
 ·rw [decide_eq_true h6,if_pos h6]
 rw [decide_eq_false h6,if_neg h6]
 by_cases h7:r=8868
 ·rw [decide_eq_true h7,if_pos h7]
 rw [decide_eq_false h7,if_neg h7]
 by_cases h8:r=8869
 ·rw [decide_eq_true h8,if_pos h8]
 rw [decide_eq_false h8,if_neg h8]
end Go.Proofs.YtpmkkhkphddfeaaGreatDoor.X
set_option linter.unusedVariables false
set_option linter.unusedSimpArgs false
namespace Go.Proofs.YtpmkkhkphddfeaaGreatDoor.X
open Go Go.RowKit Go.Proofs.YtpmkkhkphddfeaaGreatDoor.SX
def wordP (l:List UInt8) : Sum (T_api_Token×Nat) Int:=
 bif letB (l.getD 0 0) then (if 31 < runN tailB l then .inr 22 else .inl (tk 1 (l.take (runN tailB l)) 0,runN tailB l))
 else bif digB (l.getD 0 0) then (bif numBad l then .inr 21 else .inl (tk 2 [] (numV 0 l:Int),runN digB l))
 else match specOf l with
  | some e => .inl (tk e.2.1 e.2.2 0,e.1.length)
  | none=>match signOf l with
   | some x => .inl (tk 3 x 0,x.length)
   | none => .inr 20
theorem natbeq (a b:Nat) : ((a:Int) == (b:Int))=decide (a=b):=by
 rw [Bool.eq_iff_iff,beq_iff_eq,decide_eq_true_eq]
 omega
theorem rune_w (l:List UInt8) : ((Lib.decodeL l).1=172→(Lib.decodeL l).2=2)∧((Lib.decodeL l).1=8743→(Lib.decodeL l).2=3)∧((Lib.decodeL l).1=8744→(Lib.decodeL l).2=3)∧((Lib.decodeL l).1=8594→(Lib.decodeL l).2=3)∧((Lib.decodeL l).1=8596→(Lib.decodeL l).2=3) ∧
  ((Lib.decodeL l).1=8866→(Lib.decodeL l).2=3)∧((Lib.decodeL l).1=8804→(Lib.decodeL l).2=3)∧((Lib.decodeL l).1=8868→(Lib.decodeL l).2=3)∧((Lib.decodeL l).1=8869→(Lib.decodeL l).2=3):=
 ⟨(rune2 l).2,(rune3 l 136 167 (by decide) (by decide)).2,(rune3 l 136 168 (by decide) (by decide)).2,(rune3 l 134 146 (by decide) (by decide)).2,(rune3 l 134 148 (by decide) (by decide)).2,(rune3 l 138 162 (by decide) (by decide)).2,(rune3 l 137 164 (by decide) (by decide)).2,(rune3 l 138 164 (by decide) (by decide)).2,(rune3 l 138 165 (by decide) (by decide)).2⟩
theorem sign_chars:∀ x ∈ SIGNS,x≠[]∧x.length≤3∧∀ c ∈ x,c.toNat < 128∧blankB c=false∧(c == 35)=false∧tailB c=false:=by decide +kernel
theorem signOf_mem {l x:List UInt8} (h:signOf l=some x) : x ∈ SIGNS∧x.isPrefixOf l=true:=⟨List.mem_of_find?_eq_some h,by have:=List.find?_some h; exact this⟩
theorem decode_big (l:List UInt8) (h:128≤(Lib.decodeL l).1) : 128≤(l.getD 0 0).toNat:=by
 rw [Lib.decodeL_N] at h
 apply Classical.byContradiction
 intro hc
 rw [Lib.decodeN_ascii _ _ _ _ _ (by omega)] at h
 simp only at h
 omega
theorem signOf_big (l:List UInt8) (h:128≤(l.getD 0 0).toNat) : signOf l=none:=by
 cases hs:signOf l with
 | none=>rfl
 | some x =>
  obtain ⟨hm,hp⟩:=signOf_mem hs
  obtain ⟨hne,_,hc⟩:=sign_chars x hm
  cases x with
  | nil=>exact absurd rfl hne
  | cons a t =>
   cases l with
   | nil=>simp [List.isPrefixOf] at hp
   | cons b u =>
    simp only [List.isPrefixOf,Bool.and_eq_true,beq_iff_eq] at hp
    have:=(hc a (List.mem_cons_self ..)).1
    rw [hp.1] at this
    simp only [List.getD_cons_zero] at h
    omega
theorem sign_f (k:Nat) (l:List UInt8) (hk:30≤k) (hne:l≠[]) : token_sign.f k l=some (match signOf l with
  | some x=>(x,(x.length:Int))
  | none=>match specOf l with
   | some e=>bif e.2.1 == 3 then (e.2.2,(e.1.length:Int)) else ([],0)
   | none=>([],0)):=by
 unfold token_sign.f
 have h:=sign_l1 k l 20 k 0 (by omega) (by omega) (by omega)
 rw [show token_sign.l1 k l k 0=_ from h,bind_some',List.drop_zero]
 show (match (match signOf l with | some e=>Sum.inl (e,(e.length:Int)) | none=>Sum.inr ()) with | .inl r_=>some r_ | .inr _=>_)=_
 cases hs:signOf l with
 | some x=>rfl
 | none =>
  simp only
  unfold utf8_DecodeRuneInString.f
  rw [decodeGo_L l hne,bind_some',specOf_rune]
  have hw:=rune_w l
  simp only
  rw [show ((172:Int))=((172:Nat) : Int) from rfl,show ((8743:Int))=((8743:Nat) : Int) from rfl,show ((8744:Int))=((8744:Nat) : Int) from rfl,show ((8594:Int))=((8594:Nat) : Int) from rfl,show ((8596:Int))=((8596:Nat) : Int) from rfl,show ((8866:Int))=((8866:Nat) : Int) from rfl,show ((8804:Int))=((8804:Nat) : Int) from rfl]
  rw [natbeq,natbeq,natbeq,natbeq,natbeq,natbeq,natbeq]
  generalize (Lib.decodeL l).1=r at hw ⊢
  generalize (Lib.decodeL l).2=w at hw ⊢
  by_cases h0:r=172
  ·rw [decide_eq_true h0,if_pos h0,hw.1 h0]; rfl
  rw [decide_eq_false h0,if_neg h0,cond_false]
  by_cases h1:r=8743
  ·rw [decide_eq_true h1,if_pos h1,hw.2.1 h1]; rfl
  rw [decide_eq_false h1,if_neg h1,cond_false]
  by_cases h2:r=8744
  ·rw [decide_eq_true h2,if_pos h2,hw.2.2.1 h2]; rfl
  rw [decide_eq_false h2,if_neg h2,cond_false]
  by_cases h3:r=8594
  ·rw [decide_eq_true h3,if_pos h3,hw.2.2.2.1 h3]; rfl
  rw [decide_eq_false h3,if_neg h3,cond_false]
  by_cases h4:r=8596
  ·rw [decide_eq_true h4,if_pos h4,hw.2.2.2.2.1 h4]; rfl
  rw [decide_eq_false h4,if_neg h4,cond_false]
  by_cases h5:r=8866
  ·rw [decide_eq_true h5,if_pos h5,hw.2.2.2.2.2.1 h5]; rfl
  rw [decide_eq_false h5,if_neg h5,cond_false]
  by_cases h6:r=8804
  ·rw [decide_eq_true h6,if_pos h6,hw.2.2.2.2.2.2.1 h6]; rfl
  rw [decide_eq_false h6,if_neg h6,cond_false]
  by_cases h7:r=8868
  ·rw [if_pos h7]; rfl
  rw [if_neg h7]
  by_cases h8:r=8869
  ·rw [if_pos h8]; rfl
  rw [if_neg h8]
def wordR (l:List UInt8) : T_api_Token×Int×Int:=match wordP l with
 | .inl (t,n)=>(t,(n:Int),0)
 | .inr e=>(tk 0 [] 0,0,e)
theorem word_f (k:Nat) (l:List UInt8) (hl:l.length≤1000000000) (hk:l.length+30≤k) (hne:l≠[]) : token_word.f k l=some (wordR l):=by
 have h0:0 < l.length:=List.length_pos_iff.2 hne
 have hx:ix l (0:Int)=some (l.getD 0 0):=ix_getD h0
 unfold token_word.f wordR wordP
 rw [hx,bind_some',(cls_c _).1,bind_some']
 cases hL:letB (l.getD 0 0) with
 | true =>
  rw [cond_true,cond_true,run_tail_f k l hl (by omega),bind_some']
  by_cases h:31 < runN tailB l
  ·rw [decide_eq_true (by omega:(runN tailB l:Int) > 31),if_pos h]; rfl
  ·rw [decide_eq_false (by omega:¬ (runN tailB l:Int) > 31),if_neg h,cond_false]
   have hc:cut l 0 (runN tailB l:Int)=some (l.take (runN tailB l)):=cut_to l (runN_le _ _)
   rw [hc]
   rfl
 | false =>
  rw [cond_false,cond_false,bind_some',(cls_c _).2.1,bind_some']
  cases hD:digB (l.getD 0 0) with
  | true =>
   rw [cond_true,cond_true,run_digit_f k l hl (by omega),bind_some']
   have hrl:=runN_le digB l
   have hn1:1≤runN digB l:=by
    cases l with
    | nil=>exact absurd rfl hne
    | cons a t =>
     have:digB a=true:=hD
     rw [runN_cons_t this]
     omega
   have hc:cut l 0 (runN digB l:Int)=some (l.take (runN digB l)):=cut_to l hrl
   have htl:(l.take (runN digB l)).length=runN digB l:=by rw [List.length_take]; omega
   unfold strconv_Atoi.f
   rw [hc,bind_some',chk_of (decide_eq_true (by rw [htl]; omega)),bind_some',bind_some']
   have hat:=atoi_digits (l.take (runN digB l)) (by intro e; rw [e] at htl; simp at htl; omega) (take_digits l)
   rw [numV_take] at hat
   have hX:((bif (atoiF (l.take (runN digB l))).2 then some true else (bif (decide ((atoiF (l.take (runN digB l))).1 > 999999999)) then some true else (bif (decide ((runN digB l:Int) < (l.length:Int))) then (ix l (runN digB l:Int)).bind fun x161=>(token_tail.f x161).bind fun z162=>some z162 else some false))) : Option Bool) =
     some (decide (999999999 < numV 0 l) || (decide (runN digB l < l.length) && tailB (l.getD (runN digB l) 0))):=by
    have ht:((bif (decide ((runN digB l:Int) < (l.length:Int))) then (ix l (runN digB l:Int)).bind fun x161=>(token_tail.f x161).bind fun z162=>some z162 else some false) : Option Bool)=some (decide (runN digB l < l.length) && tailB (l.getD (runN digB l) 0)):=by
     by_cases h:runN digB l < l.length
     ·rw [decide_eq_true (by omega:(runN digB l:Int) < (l.length:Int)),decide_eq_true h,cond_true,ix_getD h,bind_some',(cls_c _).2.2.1]; rfl
     ·rw [decide_eq_false (by omega:¬ (runN digB l:Int) < (l.length:Int)),decide_eq_false h]; rfl
    rw [ht]
    rcases hat with ⟨hv,he⟩|⟨hv,he⟩
    ·rw [he]
     simp only
     rw [cond_false]
     by_cases h:999999999 < numV 0 l
     ·rw [decide_eq_true (by omega:(numV 0 l:Int) > 999999999),decide_eq_true h]; rfl
     ·rw [decide_eq_false (by omega:¬ (numV 0 l:Int) > 999999999),decide_eq_false h]; rfl
    ·rw [he,decide_eq_true (by omega:999999999 < numV 0 l)]; rfl
   rw [hX]
   have hB:((bif (decide ((runN digB l:Int) > 1)) then (some (l.getD 0 0)).bind fun x156=>(bif (x156 == (48:UInt8)) then some true else some (decide (999999999 < numV 0 l) || (decide (runN digB l < l.length) && tailB (l.getD (runN digB l) 0)))) else some (decide (999999999 < numV 0 l) || (decide (runN digB l < l.length) && tailB (l.getD (runN digB l) 0)))) : Option Bool)=some (numBad l):=by
    unfold numBad
    by_cases h:1 < runN digB l
    ·rw [decide_eq_true (by omega:(runN digB l:Int) > 1),decide_eq_true h,cond_true,bind_some']
     cases l.getD 0 0 == 48 <;> rfl
    ·rw [decide_eq_false (by omega:¬ (runN digB l:Int) > 1),decide_eq_false h]; rfl
   rw [hx] at *
   rw [hB,bind_some']
   cases hb:numBad l with
   | true=>rfl
   | false =>
    rw [cond_false,cond_false]
    rcases hat with ⟨hv,he⟩|⟨hv,he⟩
    ·rw [he]; rfl
    ·exfalso
     unfold numBad at hb
     rw [decide_eq_true (by omega:999999999 < numV 0 l)] at hb
     simp at hb
  | false =>
   rw [cond_false,cond_false,sign_f k l (by omega) hne]
   unfold utf8_DecodeRuneInString.f
   rw [decodeGo_L l hne,bind_some',bind_some']
   simp only
   rw [show ((8868:Int))=((8868:Nat) : Int) from rfl,show ((8869:Int))=((8869:Nat) : Int) from rfl,natbeq,natbeq]
   have hbig:=decode_big l
   have hsb:=signOf_big l
   have hw:=rune_w l
   rw [specOf_rune]
   generalize (Lib.decodeL l).1=r at hw hbig ⊢
   generalize (Lib.decodeL l).2=w at hw ⊢
   by_cases h7:r=8868
   ·subst h7
    rw [hw.2.2.2.2.2.2.2.1 rfl]; rfl
   rw [decide_eq_false h7,cond_false]
   by_cases h8:r=8869
   ·subst h8
    rw [hw.2.2.2.2.2.2.2.2 rfl]; rfl
   rw [decide_eq_false h8,cond_false]
   by_cases h0:r=172
   ·subst h0
    rw [hsb (hbig (by omega))]; rfl
   by_cases h1:r=8743
   ·subst h1
    rw [hsb (hbig (by omega))]; rfl
   by_cases h2:r=8744
   ·subst h2
    rw [hsb (hbig (by omega))]; rfl
   by_cases h3:r=8594
   ·subst h3
    rw [hsb (hbig (by omega))]; rfl
   by_cases h4:r=8596
   ·subst h4
    rw [hsb (hbig (by omega))]; rfl
   by_cases h5:r=8866
   ·subst h5
    rw [hsb (hbig (by omega))]; rfl
   by_cases h6:r=8804
   ·subst h6
    rw [hsb (hbig (by omega))]; rfl
   rw [if_neg h0,if_neg h1,if_neg h2,if_neg h3,if_neg h4,if_neg h5,if_neg h6,if_neg h7,if_neg h8]
   cases hs:signOf l with
   | none=>rfl
   | some x =>
    obtain ⟨hm,hp⟩:=signOf_mem hs
    have hx1:1≤x.length:=List.length_pos_iff.2 (sign_chars x hm).1
    simp only
    rw [show ((x.length:Int) == 0)=false from by rw [← Bool.not_eq_true,beq_iff_eq]; omega]
    rfl
end Go.Proofs.YtpmkkhkphddfeaaGreatDoor.X
set_option linter.unusedVariables false
set_option linter.unusedSimpArgs false
namespace Go.Proofs.YtpmkkhkphddfeaaGreatDoor.X
open Go Go.RowKit Go.Proofs.YtpmkkhkphddfeaaGreatDoor.SX
theorem spec_mem {l:List UInt8} {e:List UInt8×Int×List UInt8} (h:specOf l=some e) : e ∈ SPECS∧e.1.isPrefixOf l=true:=⟨List.mem_of_find?_eq_some h,by have:=List.find?_some h; exact this⟩
theorem spec_chars:∀ e ∈ SPECS,(e.2.1=1∨e.2.1=3)∧2≤e.1.length∧e.1.length≤3∧e.2.2.length≤5:=by decide
theorem spec_wide {l:List UInt8} {e:List UInt8×Int×List UInt8} (h:specOf l=some e) : e.1.length=(Lib.decodeL l).2:=by
 rw [specOf_rune] at h
 have hw:=rune_w l
 generalize (Lib.decodeL l).1=r at hw h
 generalize (Lib.decodeL l).2=w at hw ⊢
 split at h
 ·rename_i hr; rw [hw.1 hr,← Option.some.inj h]; rfl
 split at h
 ·rename_i hr; rw [hw.2.1 hr,← Option.some.inj h]; rfl
 split at h
 ·rename_i hr; rw [hw.2.2.1 hr,← Option.some.inj h]; rfl
 split at h
 ·rename_i hr; rw [hw.2.2.2.1 hr,← Option.some.inj h]; rfl
 split at h
 ·rename_i hr; rw [hw.2.2.2.2.1 hr,← Option.some.inj h]; rfl
 split at h
 ·rename_i hr; rw [hw.2.2.2.2.2.1 hr,← Option.some.inj h]; rfl
 split at h
 ·rename_i hr; rw [hw.2.2.2.2.2.2.1 hr,← Option.some.inj h]; rfl
 split at h
 ·rename_i hr; rw [hw.2.2.2.2.2.2.2.1 hr,← Option.some.inj h]; rfl
 split at h
 ·rename_i hr; rw [hw.2.2.2.2.2.2.2.2 hr,← Option.some.inj h]; rfl
 cases h
theorem wordP_err {l:List UInt8} {e:Int} (h:wordP l = .inr e) : e=20∨e=21∨e=22:=by
 unfold wordP at h
 cases hL:letB (l.getD 0 0) with
 | true =>
  rw [hL,cond_true] at h
  split at h
  ·injection h with h; exact Or.inr (Or.inr h.symm)
  ·cases h
 | false =>
  rw [hL,cond_false] at h
  cases hD:digB (l.getD 0 0) with
  | true =>
   rw [hD,cond_true] at h
   cases hb:numBad l with
   | true=>rw [hb,cond_true] at h; injection h with h; exact Or.inr (Or.inl h.symm)
   | false=>rw [hb,cond_false] at h; cases h
  | false =>
   rw [hD,cond_false] at h
   cases hs:specOf l with
   | some e=>rw [hs] at h; cases h
   | none =>
    rw [hs] at h
    cases hg:signOf l with
    | some x=>rw [hg] at h; cases h
    | none=>rw [hg] at h; injection h with h; exact Or.inl h.symm
theorem run_pos {p:UInt8→Bool} {l:List UInt8} (hne:l≠[]) (h:p (l.getD 0 0)=true) : 1≤runN p l:=by
 cases l with
 | nil=>exact absurd rfl hne
 | cons a t=>rw [runN_cons_t (show p a=true from h)]; omega
theorem wordP_ok {s:List UInt8} {i n:Nat} {t:T_api_Token} (hi:i < s.length) (h:wordP (s.drop i) = .inl (t,n)) : 1≤n∧i+n≤s.length∧al s i (i+n)∧(t.f_Kind=1∨t.f_Kind=2∨t.f_Kind=3)∧t.f_At=⟨0,0,0⟩:=by
 have hne:s.drop i≠[]:=by intro e2; have:=congrArg List.length e2; simp at this; omega
 have hg:(s.drop i).getD 0 0=s.getD i 0:=by rw [getD_drop0,Nat.add_zero]
 unfold wordP at h
 have runs:∀ p:UInt8→Bool,(∀ c,p c=true→c.toNat < 128)→al s i (i+runN p (s.drop i)):=fun p hp =>
  al_ascii s _ (runN p (s.drop i)) i (by omega) (by omega) (fun j h1 h2=>by
   obtain ⟨q,rfl⟩ : ∃ q,j=i+q:=⟨j - i,by omega⟩
   have:=runN_at p (s.drop i) q (by omega)
   rw [getD_drop0] at this
   exact hp _ this)
 cases hL:letB ((s.drop i).getD 0 0) with
 | true =>
  rw [hL,cond_true] at h
  split at h
  ·cases h
  ·injection h with h
   injection h with h1 h2
   have hrl:=runN_le tailB (s.drop i)
   rw [List.length_drop] at hrl
   have hp:=run_pos hne ((cls_c _).2.2.2.2.1 hL).1
   subst h2
   exact ⟨hp,by omega,runs tailB (fun c hc=>((cls_c c).2.2.2.1 hc).1),by rw [← h1]; exact Or.inl rfl,by rw [← h1]; rfl⟩
 | false =>
  rw [hL,cond_false] at h
  cases hD:digB ((s.drop i).getD 0 0) with
  | true =>
   rw [hD,cond_true] at h
   cases hb:numBad (s.drop i) with
   | true=>rw [hb,cond_true] at h; cases h
   | false =>
    rw [hb,cond_false] at h
    injection h with h
    injection h with h1 h2
    have hrl:=runN_le digB (s.drop i)
    rw [List.length_drop] at hrl
    have hp:=run_pos hne hD
    subst h2
    exact ⟨hp,by omega,runs digB (fun c hc=>by have:=digB_iff.1 hc; omega),by rw [← h1]; exact Or.inr (Or.inl rfl),by rw [← h1]; rfl⟩
  | false =>
   rw [hD,cond_false] at h
   cases hs:specOf (s.drop i) with
   | some e =>
    rw [hs] at h
    injection h with h
    injection h with h1 h2
    have hw:=spec_wide hs
    have hm:=spec_chars e (spec_mem hs).1
    subst h2
    rw [show e.1.length=wideAt s i from hw]
    refine ⟨by have:=wide_pos s i; omega,wide_le s i hi,al_rune s i,?_,by rw [← h1]; rfl⟩
    rw [← h1]
    rcases hm.1 with h | h
    ·exact Or.inl h
    ·exact Or.inr (Or.inr h)
   | none =>
    rw [hs] at h
    cases hg2:signOf (s.drop i) with
    | some x =>
     rw [hg2] at h
     injection h with h
     injection h with h1 h2
     obtain ⟨hm,hp⟩:=signOf_mem hg2
     obtain ⟨hne2,hl3,hc⟩:=sign_chars x hm
     have hx1:1≤x.length:=List.length_pos_iff.2 hne2
     rw [pfx_take,Bool.and_eq_true,decide_eq_true_eq,beq_iff_eq,List.length_drop] at hp
     subst h2
     refine ⟨hx1,by omega,?_,by rw [← h1]; exact Or.inr (Or.inr rfl),by rw [← h1]; rfl⟩
     refine al_ascii s _ x.length i (by omega) (by omega) (fun j h3 h4=>?_)
     obtain ⟨q,rfl⟩ : ∃ q,j=i+q:=⟨j - i,by omega⟩
     have hq:q < x.length:=by omega
     have e1:s.getD (i+q) 0=x[q]:=by
      have:x[q]=((s.drop i).take x.length)[q]'(by rw [List.length_take,List.length_drop]; omega):=by simp only [hp.2]
      rw [this,List.getElem_take,List.getElem_drop]
      simp [List.getD,show i+q < s.length from by omega]
     rw [e1]
     exact (hc _ (List.getElem_mem hq)).1
    | none=>rw [hg2] at h; cases h
end Go.Proofs.YtpmkkhkphddfeaaGreatDoor.X
set_option linter.unusedVariables false
set_option linter.unusedSimpArgs false
namespace Go.Proofs.YtpmkkhkphddfeaaGreatDoor.X
open Go Go.RowKit Go.Proofs.YtpmkkhkphddfeaaGreatDoor.SX
theorem more_f (s:List UInt8) (j:Nat) (lo hi:UInt8) : dictumref02_more.f s (j:Int) lo hi=some (moreB s j lo.toNat hi.toNat):=by
 unfold dictumref02_more.f moreB
 by_cases h:j < s.length
 ·rw [decide_eq_true (by omega:(j:Int) < (s.length:Int)),decide_eq_true h,cond_true,ix_getD h,bind_some',bind_some',Bool.true_and]
  rw [show decide (lo≤s.getD j 0)=decide (lo.toNat≤(s.getD j 0).toNat) from by rw [decide_eq_decide,UInt8.le_iff_toNat_le],show decide (s.getD j 0≤hi)=decide ((s.getD j 0).toNat≤hi.toNat) from by rw [decide_eq_decide,UInt8.le_iff_toNat_le]]
  cases decide (lo.toNat≤(s.getD j 0).toNat) <;> rfl
 ·rw [decide_eq_false (by omega:¬ (j:Int) < (s.length:Int)),decide_eq_false h]; rfl
theorem size_B (s:List UInt8) (i:Nat) (h:i < s.length) (hs:s.length≤1000000000) : dictumref02_size.f s (i:Int)=some (sizeB s i (s.getD i 0).toNat):=by
 unfold dictumref02_size.f
 rw [ix_getD h,bind_some']
 have w1:wrap64 ((i:Int)+1)=((i+1:Nat) : Int):=wsucc i (by omega)
 have w2:wrap64 ((i:Int)+2)=((i+2:Nat) : Int):=by rw [w64 (by omega) (by omega)]; omega
 have w3:wrap64 ((i:Int)+3)=((i+3:Nat) : Int):=by rw [w64 (by omega) (by omega)]; omega
 simp only [w1,w2,w3,more_f,bind_some',cond_and,cond_some,cond_ff,u8le,u8eq]
 rfl
theorem size_f (s:List UInt8) (i:Nat) (h:i < s.length) (hs:s.length≤1000000000) : dictumref02_size.f s (i:Int)=some (wideAt s i:Int):=by
 rw [size_B s i h hs,sizeB_wide s i h]
end Go.Proofs.YtpmkkhkphddfeaaGreatDoor.X
set_option linter.unusedVariables false
set_option linter.unusedSimpArgs false
namespace Go.Proofs.YtpmkkhkphddfeaaGreatDoor.X
open Go Go.RowKit Go.Proofs.YtpmkkhkphddfeaaGreatDoor.SX
theorem on_l1 (k:Nat) (s:List UInt8) (n:Nat) (hn:n≤s.length) (hs:s.length≤1000000000) : ∀ (d kk i:Nat) (L C O:Int),n - i≤d→d < kk→0≤L→0≤C→L+((n - i:Nat) : Int)≤4000000000→C+((n - i:Nat) : Int)≤4000000000 →
  dictumref02_on.l1 k s (n:Int) kk (i:Int) ⟨L,C,O⟩=some (spotOf (W s n i (L,C)).2 O):=by
 intro d
 induction d with
 | zero =>
  intro kk i L C O h1 h2 h3 h4 h5 h6
  obtain ⟨kk,rfl⟩ : ∃ m,kk=m+1:=⟨kk - 1,by omega⟩
  rw [dictumref02_on.l1.eq_2,decide_eq_false (by omega),W_ge (by omega)]
  rfl
 | succ d ih =>
  intro kk i L C O h1 h2 h3 h4 h5 h6
  obtain ⟨kk,rfl⟩ : ∃ m,kk=m+1:=⟨kk - 1,by omega⟩
  by_cases h:i < n
  ·have hw:=wide_pos s i
   have hl:=wide_le s i (by omega)
   rw [dictumref02_on.l1.eq_2,decide_eq_true (by omega:(i:Int) < (n:Int)),cond_true,ix_getD (by omega),bind_some',W_lt h]
   cases hc:s.getD i 0 == 10 with
   | true =>
    rw [stp_nl _ _ hc,cond_true,bind_some',size_f s i (by omega) hs,bind_some',w64 (n:=(i:Int)+(wideAt s i:Int)) (by omega) (by omega),show (i:Int)+(wideAt s i:Int)=((i+wideAt s i:Nat) : Int) from by omega]
    simp only
    rw [w64 (n:=L+1) (by omega) (by omega)]
    exact ih kk (i+wideAt s i) (L+1) 1 O (by omega) (by omega) (by omega) (by omega) (by omega) (by omega)
   | false =>
    rw [stp_no _ _ hc,cond_false,bind_some',size_f s i (by omega) hs,bind_some',w64 (n:=(i:Int)+(wideAt s i:Int)) (by omega) (by omega),show (i:Int)+(wideAt s i:Int)=((i+wideAt s i:Nat) : Int) from by omega]
    simp only
    rw [w64 (n:=C+1) (by omega) (by omega)]
    exact ih kk (i+wideAt s i) L (C+1) O (by omega) (by omega) (by omega) (by omega) (by omega) (by omega)
  ·rw [dictumref02_on.l1.eq_2,decide_eq_false (by omega),W_ge (by omega)]
   rfl
theorem on_f (k:Nat) (s:List UInt8) (n i:Nat) (L C:Int) (hn:n≤s.length) (hs:s.length≤1000000000) (hk:s.length < k) (h3:0≤L) (h4:0≤C) (h5:L+((n - i:Nat) : Int)≤4000000000) (h6:C+((n - i:Nat) : Int)≤4000000000) :
  dictumref02_on.f k s ⟨L,C,(i:Int)⟩ (n:Int)=some (spotOf (W s n i (L,C)).2 (n:Int)):=by
 unfold dictumref02_on.f
 rw [on_l1 k s n hn hs (n - i) k i L C (i:Int) (Nat.le_refl _) (by omega) h3 h4 h5 h6,bind_some']
 rfl
end Go.Proofs.YtpmkkhkphddfeaaGreatDoor.X
set_option linter.unusedVariables false
set_option linter.unusedSimpArgs false
namespace Go.Proofs.YtpmkkhkphddfeaaGreatDoor.X
open Go Go.RowKit Go.Proofs.YtpmkkhkphddfeaaGreatDoor.SX
theorem rskip_l2 (k:Nat) (s:List UInt8) (hs:s.length≤1000000000) : ∀ (d kk i:Nat),s.length - i≤d→d < kk→i≤s.length→dictumref02_skip.l2 k s kk (i:Int)=some ((i+nlOf (s.drop i) : Nat) : Int):=by
 intro d
 induction d with
 | zero =>
  intro kk i h1 h2 h3
  obtain ⟨kk,rfl⟩ : ∃ m,kk=m+1:=⟨kk - 1,by omega⟩
  rw [dictumref02_skip.l2.eq_2,decide_eq_false (by omega),List.drop_eq_nil_of_le (by omega)]
  rfl
 | succ d ih =>
  intro kk i h1 h2 h3
  obtain ⟨kk,rfl⟩ : ∃ m,kk=m+1:=⟨kk - 1,by omega⟩
  by_cases h:i < s.length
  ·have e:s.getD i 0=s[i]:=by simp [List.getD,h]
   rw [dictumref02_skip.l2.eq_2,decide_eq_true (by omega:(i:Int) < (s.length:Int)),cond_true,ix_getD h,bind_some',bind_some',drop_cons h,← e]
   cases hc:s.getD i 0 == 10 with
   | true =>
    have e2:nlOf (s.getD i 0 :: s.drop (i+1))=0:=by rw [nlOf.eq_2,hc]; rfl
    rw [e2]
    rfl
   | false =>
    have e2:nlOf (s.getD i 0 :: s.drop (i+1))=nlOf (s.drop (i+1))+1:=by rw [nlOf.eq_2,hc]; rfl
    rw [e2,Bool.not_false,cond_true,wsucc i (by omega),ih kk (i+1) (by omega) (by omega) (by omega)]
    congr 1
    omega
  ·rw [dictumref02_skip.l2.eq_2,decide_eq_false (by omega),List.drop_eq_nil_of_le (by omega)]
   rfl
theorem rskip_l1 (k:Nat) (s:List UInt8) (hs:s.length≤1000000000) (hk:s.length < k) : ∀ (d kk i:Nat),s.length - i≤d→d < kk→i≤s.length→∃ z,dictumref02_skip.l1 k s kk (i:Int)=some z∧(match z with | .inl r=>r | .inr r=>r)=(S s i:Int):=by
 intro d
 induction d with
 | zero =>
  intro kk i h1 h2 h3
  obtain ⟨kk,rfl⟩ : ∃ m,kk=m+1:=⟨kk - 1,by omega⟩
  rw [dictumref02_skip.l1.eq_2,decide_eq_false (by omega),S_end (by omega)]
  exact ⟨_,rfl,rfl⟩
 | succ d ih =>
  intro kk i h1 h2 h3
  obtain ⟨kk,rfl⟩ : ∃ m,kk=m+1:=⟨kk - 1,by omega⟩
  by_cases h:i < s.length
  ·rw [dictumref02_skip.l1.eq_2,decide_eq_true (by omega:(i:Int) < (s.length:Int)),cond_true,ix_getD h,bind_some',blank_bif2,bind_some']
   cases hb:blankB (s.getD i 0) with
   | true =>
    rw [cond_true,wsucc i (by omega),S_blank h hb]
    exact ih kk (i+1) (by omega) (by omega) (by omega)
   | false =>
    cases hc:s.getD i 0 == 35 with
    | true =>
     have hn:=nl_pos h hc
     obtain ⟨hle,hal⟩:=com_al h
     rw [cond_false,Bool.not_true,cond_false,rskip_l2 k s hs (s.length - i) k i (Nat.le_refl _) (by omega) h3,bind_some',S_com h hb hc]
     exact ih kk _ (by omega) (by omega) hle
    | false =>
     rw [cond_false,Bool.not_false,cond_true,S_stop h hb hc]
     exact ⟨_,rfl,rfl⟩
  ·rw [dictumref02_skip.l1.eq_2,decide_eq_false (by omega),S_end (by omega)]
   exact ⟨_,rfl,rfl⟩
theorem rskip_f (k:Nat) (s:List UInt8) (i:Nat) (hs:s.length≤1000000000) (hk:s.length < k) (h:i≤s.length) : dictumref02_skip.f k s (i:Int)=some (S s i:Int):=by
 unfold dictumref02_skip.f
 obtain ⟨z,e,hz⟩:=rskip_l1 k s hs hk (s.length - i) k i (Nat.le_refl _) (by omega) h
 rw [e,bind_some']
 cases z with
 | inl r=>exact congrArg some hz
 | inr r=>exact congrArg some hz
end Go.Proofs.YtpmkkhkphddfeaaGreatDoor.X
set_option linter.unusedVariables false
set_option linter.unusedSimpArgs false
namespace Go.Proofs.YtpmkkhkphddfeaaGreatDoor.X
open Go Go.RowKit Go.Proofs.YtpmkkhkphddfeaaGreatDoor.SX
theorem rcls:∀ c:Fin 256,dictumref02_letter.f (UInt8.ofNat c.val)=some (letB (UInt8.ofNat c.val))∧dictumref02_digit.f (UInt8.ofNat c.val)=some (digB (UInt8.ofNat c.val))∧dictumref02_within.f (UInt8.ofNat c.val)=some (tailB (UInt8.ofNat c.val)):=by decide +kernel
theorem rcls_c (c:UInt8) : dictumref02_letter.f c=some (letB c)∧dictumref02_digit.f c=some (digB c)∧dictumref02_within.f c=some (tailB c):=by
 have h:=rcls ⟨c.toNat,c.toNat_lt⟩
 simp only [UInt8.ofNat_toNat] at h
 exact h
end Go.Proofs.YtpmkkhkphddfeaaGreatDoor.X
set_option linter.unusedVariables false
set_option linter.unusedSimpArgs false
namespace Go.Proofs.YtpmkkhkphddfeaaGreatDoor.X
open Go Go.RowKit Go.Proofs.YtpmkkhkphddfeaaGreatDoor.SX
theorem at_f (s t:List UInt8) (i:Nat) (hi:i≤s.length) (hs:s.length≤1000000000) (ht:t.length≤100) : dictumref02_at.f s (i:Int) t=some (t.isPrefixOf (s.drop i)):=by
 unfold dictumref02_at.f
 rw [pfx_take,List.length_drop,w64 (n:=(s.length:Int) - (i:Int)) (by omega) (by omega)]
 by_cases h:t.length≤s.length - i
 ·rw [decide_eq_true (by omega:(s.length:Int) - (i:Int) ≥ (t.length:Int)),cond_true,decide_eq_true h,w64 (by omega) (by omega),show (i:Int)+(t.length:Int)=((i+t.length:Nat) : Int) from by omega,cut_nat s (by omega) (by omega),bind_some',List.drop_take,Nat.add_sub_cancel_left]
  rfl
 ·rw [decide_eq_false (by omega:¬ (s.length:Int) - (i:Int) ≥ (t.length:Int)),decide_eq_false h]
  rfl
theorem one_l2 (k:Nat) (s:List UInt8) (i:Nat) (hi:i≤s.length) (hs:s.length≤1000000000) (L:List T_dictumref02_special) (hL:∀ e ∈ L,e.f_Rune.length≤100) (hl:L.length≤1000) : ∀ (d kk n:Nat),L.length - n≤d→d < kk→n≤L.length →
  dictumref02_one.l2 k s (i:Int) L kk (n:Int)=some (match (L.drop n).find? (fun e=>e.f_Rune.isPrefixOf (s.drop i)) with | some e => .inl (tk e.f_Kind e.f_Text 0,((i+e.f_Rune.length:Nat) : Int),0) | none => .inr ()):=by
 intro d
 induction d with
 | zero =>
  intro kk n h1 h2 h3
  obtain ⟨kk,rfl⟩ : ∃ m,kk=m+1:=⟨kk - 1,by omega⟩
  rw [dictumref02_one.l2.eq_2,decide_eq_false (by omega),show L.drop n=[] from List.drop_eq_nil_of_le (by omega)]
  rfl
 | succ d ih =>
  intro kk n h1 h2 h3
  obtain ⟨kk,rfl⟩ : ∃ m,kk=m+1:=⟨kk - 1,by omega⟩
  by_cases h:n < L.length
  ·have hx:ix L (n:Int)=some L[n]:=by rw [ix_nat,List.getElem?_eq_getElem h]
   have hle:=hL L[n] (List.getElem_mem h)
   rw [dictumref02_one.l2.eq_2,decide_eq_true (by omega:(n:Int) < (L.length:Int)),cond_true,hx,bind_some',at_f s _ i hi hs hle,bind_some',drop_cons h,List.find?_cons]
   cases hp:L[n].f_Rune.isPrefixOf (s.drop i) with
   | true =>
    rw [cond_true,bind_some',bind_some',bind_some',w64 (by omega) (by omega),show (i:Int)+(L[n].f_Rune.length:Int)=((i+L[n].f_Rune.length:Nat) : Int) from by omega]
    rfl
   | false =>
    rw [cond_false,wsucc n (by omega)]
    exact ih kk (n+1) (by omega) (by omega) (by omega)
  ·rw [dictumref02_one.l2.eq_2,decide_eq_false (by omega),show L.drop n=[] from List.drop_eq_nil_of_le (by omega)]
   rfl
theorem one_l3 (k:Nat) (s:List UInt8) (i:Nat) (hi:i≤s.length) (hs:s.length≤1000000000) (L:List (List UInt8)) (hL:∀ e ∈ L,e.length≤100) (hl:L.length≤1000) : ∀ (d kk n:Nat),L.length - n≤d→d < kk→n≤L.length →
  dictumref02_one.l3 k s (i:Int) L kk (n:Int)=some (match (L.drop n).find? (fun e=>e.isPrefixOf (s.drop i)) with | some e => .inl (tk 3 e 0,((i+e.length:Nat) : Int),0) | none => .inr ()):=by
 intro d
 induction d with
 | zero =>
  intro kk n h1 h2 h3
  obtain ⟨kk,rfl⟩ : ∃ m,kk=m+1:=⟨kk - 1,by omega⟩
  rw [dictumref02_one.l3.eq_2,decide_eq_false (by omega),show L.drop n=[] from List.drop_eq_nil_of_le (by omega)]
  rfl
 | succ d ih =>
  intro kk n h1 h2 h3
  obtain ⟨kk,rfl⟩ : ∃ m,kk=m+1:=⟨kk - 1,by omega⟩
  by_cases h:n < L.length
  ·have hx:ix L (n:Int)=some L[n]:=by rw [ix_nat,List.getElem?_eq_getElem h]
   have hle:=hL L[n] (List.getElem_mem h)
   rw [dictumref02_one.l3.eq_2,decide_eq_true (by omega:(n:Int) < (L.length:Int)),cond_true,hx,bind_some',at_f s _ i hi hs hle,bind_some',drop_cons h,List.find?_cons]
   cases hp:L[n].isPrefixOf (s.drop i) with
   | true =>
    rw [cond_true,bind_some',bind_some',w64 (by omega) (by omega),show (i:Int)+(L[n].length:Int)=((i+L[n].length:Nat) : Int) from by omega]
    rfl
   | false =>
    rw [cond_false,wsucc n (by omega)]
    exact ih kk (n+1) (by omega) (by omega) (by omega)
  ·rw [dictumref02_one.l3.eq_2,decide_eq_false (by omega),show L.drop n=[] from List.drop_eq_nil_of_le (by omega)]
   rfl
def SPECr (e:List UInt8×Int×List UInt8) : T_dictumref02_special:=⟨e.1,e.2.1,e.2.2⟩
theorem specs_r:dictumref02_specials.f=some (SPECS.map SPECr):=rfl
theorem find_r (l:List UInt8) : ∀ L:List (List UInt8×Int×List UInt8),(L.map SPECr).find? (fun e=>e.f_Rune.isPrefixOf l)=(L.find? fun e=>e.1.isPrefixOf l).map SPECr
 | []=>rfl
 | e :: L=>by
  rw [List.map_cons,List.find?_cons,List.find?_cons]
  show (match e.1.isPrefixOf l with | true=>_ | false=>_)=_
  cases e.1.isPrefixOf l with
  | true=>rfl
  | false=>exact find_r l L
end Go.Proofs.YtpmkkhkphddfeaaGreatDoor.X
set_option linter.unusedVariables false
set_option linter.unusedSimpArgs false
namespace Go.Proofs.YtpmkkhkphddfeaaGreatDoor.X
open Go Go.RowKit Go.Proofs.YtpmkkhkphddfeaaGreatDoor.SX
theorem one_l1 (k:Nat) (s:List UInt8) (hs:s.length≤1000000000) : ∀ (d kk i:Nat),s.length - i≤d→d < kk→i≤s.length→dictumref02_one.l1 k s kk (i:Int)=some ((i+runN tailB (s.drop i) : Nat) : Int):=by
 intro d
 induction d with
 | zero =>
  intro kk i h1 h2 h3
  obtain ⟨kk,rfl⟩ : ∃ m,kk=m+1:=⟨kk - 1,by omega⟩
  rw [dictumref02_one.l1.eq_2,decide_eq_false (by omega),List.drop_eq_nil_of_le (by omega)]
  rfl
 | succ d ih =>
  intro kk i h1 h2 h3
  obtain ⟨kk,rfl⟩ : ∃ m,kk=m+1:=⟨kk - 1,by omega⟩
  by_cases h:i < s.length
  ·rw [dictumref02_one.l1.eq_2,decide_eq_true (by omega:(i:Int) < (s.length:Int)),cond_true,ix_getD h,bind_some',(rcls_c _).2.2,bind_some',bind_some',drop_cons h,getD_eq h]
   cases hc:tailB (s.getD i 0) with
   | true =>
    rw [cond_true,wsucc i (by omega),ih kk (i+1) (by omega) (by omega) (by omega),runN_cons_t hc]
    congr 1
    omega
   | false=>rw [cond_false,runN_cons_f hc]; rfl
  ·rw [dictumref02_one.l1.eq_2,decide_eq_false (by omega),List.drop_eq_nil_of_le (by omega)]
   rfl
def satV:Nat→List UInt8→Nat
 | acc,[]=>acc
 | acc,c :: t=>bif digB c then satV (if acc≤999999999 then acc * 10+(c.toNat - 48) else acc) t else acc
theorem satV_big:∀ (l:List UInt8) (acc:Nat),999999999 < acc→satV acc l=acc
 | [],acc,h=>rfl
 | c :: t,acc,h=>by
  rw [satV.eq_2]
  cases digB c with
  | true=>rw [cond_true,if_neg (by omega)]; exact satV_big t acc h
  | false=>rfl
theorem satV_spec:∀ (l:List UInt8) (acc:Nat),(999999999 < satV acc l↔999999999 < numV acc l)∧(numV acc l≤999999999→satV acc l=numV acc l)
 | [],acc=>⟨Iff.rfl,fun _=>rfl⟩
 | c :: t,acc=>by
  cases hc:digB c with
  | false=>rw [satV.eq_2,numV.eq_2,hc]; exact ⟨Iff.rfl,fun _=>rfl⟩
  | true =>
   rw [satV.eq_2,numV.eq_2,hc,cond_true,cond_true]
   by_cases h:acc≤999999999
   ·rw [if_pos h]; exact satV_spec t _
   ·rw [if_neg h]
    have h1:=numV_ge t (acc * 10+(c.toNat - 48))
    have h2:=satV_big t acc (by omega)
    rw [h2]
    exact ⟨⟨fun _=>by omega,fun _=>by omega⟩,fun _=>by omega⟩
theorem rnum_l1 (k:Nat) (s:List UInt8) (hs:s.length≤1000000000) : ∀ (d kk i acc:Nat),s.length - i≤d→d < kk→i≤s.length→acc≤99999999999→dictumref02_number.l1 k s kk (acc:Int) (i:Int)=some ((satV acc (s.drop i) : Int),((i+runN digB (s.drop i) : Nat) : Int)):=by
 intro d
 induction d with
 | zero =>
  intro kk i acc h1 h2 h3 h4
  obtain ⟨kk,rfl⟩ : ∃ m,kk=m+1:=⟨kk - 1,by omega⟩
  rw [dictumref02_number.l1.eq_2,decide_eq_false (by omega),List.drop_eq_nil_of_le (by omega)]
  rfl
 | succ d ih =>
  intro kk i acc h1 h2 h3 h4
  obtain ⟨kk,rfl⟩ : ∃ m,kk=m+1:=⟨kk - 1,by omega⟩
  by_cases h:i < s.length
  ·rw [dictumref02_number.l1.eq_2,decide_eq_true (by omega:(i:Int) < (s.length:Int)),cond_true,ix_getD h,bind_some',bind_some',(rcls_c _).2.1,bind_some',bind_some',drop_cons h,getD_eq h]
   cases hc:digB (s.getD i 0) with
   | false=>rw [cond_false,runN_cons_f hc,satV.eq_2,hc]; rfl
   | true =>
    have hd:=digB_iff.1 hc
    have hsub:(s.getD i 0 - 48).toNat=(s.getD i 0).toNat - 48:=by
     rw [UInt8.toNat_sub_of_le _ _ (by rw [UInt8.le_iff_toNat_le]; exact hd.1)]
     rfl
    rw [cond_true,runN_cons_t hc,satV.eq_2,hc,cond_true,wsucc i (by omega),hsub]
    by_cases ha:acc≤999999999
    ·rw [decide_eq_true (by omega:(acc:Int)≤999999999),cond_true,bind_some',if_pos ha]
     rw [show wrap64 (wrap64 (10 * (acc:Int))+(((s.getD i 0).toNat - 48:Nat) : Int))=((acc * 10+((s.getD i 0).toNat - 48) : Nat) : Int) from by rw [w64 (n:=10 * (acc:Int)) (by omega) (by omega),w64 (by omega) (by omega)]; omega]
     rw [ih kk (i+1) _ (by omega) (by omega) (by omega) (by omega)]
     rw [show i+1+runN digB (s.drop (i+1))=i+(runN digB (s.drop (i+1))+1) from by omega]
    ·rw [decide_eq_false (by omega:¬ (acc:Int)≤999999999),cond_false,bind_some',if_neg ha]
     rw [ih kk (i+1) acc (by omega) (by omega) (by omega) h4]
     rw [show i+1+runN digB (s.drop (i+1))=i+(runN digB (s.drop (i+1))+1) from by omega]
  ·rw [dictumref02_number.l1.eq_2,decide_eq_false (by omega),List.drop_eq_nil_of_le (by omega)]
   rfl
theorem rnumber_f (k:Nat) (s:List UInt8) (i:Nat) (hi:i < s.length) (hs:s.length≤1000000000) (hk:s.length < k) : dictumref02_number.f k s (i:Int) =
  some (bif numBad (s.drop i) then (tk 0 [] 0,((i+runN digB (s.drop i) : Nat) : Int),21) else (tk 2 [] (numV 0 (s.drop i) : Int),((i+runN digB (s.drop i) : Nat) : Int),0)):=by
 unfold dictumref02_number.f
 have h:=rnum_l1 k s hs (s.length - i) k i 0 (Nat.le_refl _) (by omega) (by omega) (by omega)
 have hrl:=runN_le digB (s.drop i)
 rw [List.length_drop] at hrl
 obtain ⟨hs1,hs2⟩:=satV_spec (s.drop i) 0
 rw [show dictumref02_number.l1 k s k 0 (i:Int)=_ from h,bind_some']
 simp only
 rw [ix_getD hi,bind_some',wsucc i (by omega)]
 have ht:((bif (decide (((i+runN digB (s.drop i) : Nat) : Int) < (s.length:Int))) then (ix s ((i+runN digB (s.drop i) : Nat) : Int)).bind fun x162=>(dictumref02_within.f x162).bind fun z163=>some z163 else some false) : Option Bool)=some (decide (runN digB (s.drop i) < (s.drop i).length) && tailB ((s.drop i).getD (runN digB (s.drop i)) 0)):=by
  rw [List.length_drop,getD_drop0]
  by_cases h:i+runN digB (s.drop i) < s.length
  ·rw [decide_eq_true (by omega:((i+runN digB (s.drop i) : Nat) : Int) < (s.length:Int)),decide_eq_true (by omega:runN digB (s.drop i) < s.length - i),cond_true,ix_getD h,bind_some',(rcls_c _).2.2]; rfl
  ·rw [decide_eq_false (by omega:¬ ((i+runN digB (s.drop i) : Nat) : Int) < (s.length:Int)),decide_eq_false (by omega:¬ runN digB (s.drop i) < s.length - i)]; rfl
 rw [ht]
 have hM:decide ((satV 0 (s.drop i) : Int) > 999999999)=decide (999999999 < numV 0 (s.drop i)):=by
  rw [decide_eq_decide]
  omega
 have h1:decide (((i+runN digB (s.drop i) : Nat) : Int) > ((i+1:Nat) : Int))=decide (1 < runN digB (s.drop i)):=by
  rw [decide_eq_decide]
  omega
 rw [hM,h1]
 have hB:((bif (s.getD i 0 == (48:UInt8)) then (bif decide (1 < runN digB (s.drop i)) then some true else (bif decide (999999999 < numV 0 (s.drop i)) then some true else some (decide (runN digB (s.drop i) < (s.drop i).length) && tailB ((s.drop i).getD (runN digB (s.drop i)) 0)))) else (bif decide (999999999 < numV 0 (s.drop i)) then some true else some (decide (runN digB (s.drop i) < (s.drop i).length) && tailB ((s.drop i).getD (runN digB (s.drop i)) 0)))) : Option Bool)=some (numBad (s.drop i)):=by
  unfold numBad
  rw [getD_drop0 s i 0,Nat.add_zero]
  cases s.getD i 0 == 48 <;> cases decide (1 < runN digB (s.drop i)) <;> cases decide (999999999 < numV 0 (s.drop i)) <;> rfl
 rw [hB,bind_some']
 cases hb:numBad (s.drop i) with
 | true=>rfl
 | false =>
  have hv:numV 0 (s.drop i)≤999999999:=by
   apply Classical.byContradiction
   intro hc
   unfold numBad at hb
   rw [decide_eq_true (by omega:999999999 < numV 0 (s.drop i))] at hb
   simp at hb
  rw [cond_false,cond_false,hs2 hv]
  rfl
theorem one_end (k:Nat) (s:List UInt8) (i:Nat) (h:s.length≤i) : dictumref02_one.f k s (i:Int)=some (tk 0 [] 0,(i:Int),0):=by
 unfold dictumref02_one.f
 rw [decide_eq_true (by omega:(i:Int) ≥ (s.length:Int))]
 rfl
theorem one_f (k:Nat) (s:List UInt8) (i:Nat) (hi:i < s.length) (hs:s.length≤1000000000) (hk:s.length+30≤k) : ∃ z,dictumref02_one.f k s (i:Int)=some z∧(match wordP (s.drop i) with | .inl (t,n)=>z=(t,((i+n:Nat) : Int),0) | .inr e=>z.2.2=e):=by
 have hx:ix s (i:Int)=some (s.getD i 0):=ix_getD hi
 have hg:(s.drop i).getD 0 0=s.getD i 0:=by rw [getD_drop0,Nat.add_zero]
 unfold dictumref02_one.f wordP
 rw [decide_eq_false (by omega:¬ (i:Int) ≥ (s.length:Int)),cond_false,hx,bind_some',(rcls_c _).1,bind_some',hg]
 cases hL:letB (s.getD i 0) with
 | true =>
  have hrl:=runN_le tailB (s.drop i)
  rw [List.length_drop] at hrl
  rw [cond_true,cond_true,one_l1 k s hs (s.length - i) k i (Nat.le_refl _) (by omega) (by omega),bind_some',w64 (n:=((i+runN tailB (s.drop i) : Nat) : Int) - (i:Int)) (by omega) (by omega)]
  by_cases h:31 < runN tailB (s.drop i)
  ·rw [decide_eq_true (by omega:((i+runN tailB (s.drop i) : Nat) : Int) - (i:Int) > 31),if_pos h]
   exact ⟨_,rfl,rfl⟩
  ·rw [decide_eq_false (by omega:¬ ((i+runN tailB (s.drop i) : Nat) : Int) - (i:Int) > 31),if_neg h,cond_false,cut_nat s (by omega) (by omega),bind_some',List.drop_take,Nat.add_sub_cancel_left]
   exact ⟨_,rfl,rfl⟩
 | false =>
  rw [cond_false,cond_false,bind_some',(rcls_c _).2.1,bind_some']
  cases hD:digB (s.getD i 0) with
  | true =>
   rw [cond_true,cond_true,rnumber_f k s i hi hs (by omega),bind_some']
   cases numBad (s.drop i) with
   | true=>exact ⟨_,rfl,rfl⟩
   | false=>exact ⟨_,rfl,rfl⟩
  | false =>
   rw [cond_false,cond_false]
   have h2:=one_l2 k s i (by omega) hs (SPECS.map SPECr) (by decide) (by decide) 9 k 0 (by decide) (by omega) (by decide)
   have h3:=one_l3 k s i (by omega) hs SIGNS (by decide) (by decide) 20 k 0 (by decide) (by omega) (by decide)
   rw [specs_r,bind_some',show dictumref02_one.l2 k s (i:Int) (SPECS.map SPECr) k 0=_ from h2,bind_some',List.drop_zero,find_r]
   rw [show SPECS.find? (fun e=>e.1.isPrefixOf (s.drop i))=specOf (s.drop i) from rfl]
   cases specOf (s.drop i) with
   | some e=>exact ⟨_,rfl,rfl⟩
   | none =>
    simp only
    rw [show dictumref02_Signs.f=some SIGNS from rfl,bind_some',show dictumref02_one.l3 k s (i:Int) SIGNS k 0=_ from h3,bind_some',List.drop_zero,show SIGNS.find? (fun e=>e.isPrefixOf (s.drop i))=signOf (s.drop i) from rfl]
    cases signOf (s.drop i) with
    | some x=>exact ⟨_,rfl,rfl⟩
    | none=>exact ⟨_,rfl,rfl⟩
end Go.Proofs.YtpmkkhkphddfeaaGreatDoor.X
set_option linter.unusedVariables false
set_option linter.unusedSimpArgs false
namespace Go.Proofs.YtpmkkhkphddfeaaGreatDoor.X
open Go Go.RowKit Go.Proofs.YtpmkkhkphddfeaaGreatDoor.SX
def Okp (len i:Nat) (p:Int×Int) : Prop:=0≤p.1∧0≤p.2∧p.1+((len - i:Nat) : Int)≤4000000000∧p.2+((len - i:Nat) : Int)≤4000000000
theorem W_col {s:List UInt8} {e:Nat}:∀ (d i:Nat) (p:Int×Int),e - i≤d→0≤p.1→0≤p.2→0≤(W s e i p).2.1∧0≤(W s e i p).2.2∧(W s e i p).2.1≤p.1+((e - i:Nat) : Int)∧(W s e i p).2.2≤p.2+((e - i:Nat) : Int):=by
 intro d
 induction d with
 | zero=>intro i p h1 h2 h3; rw [W_ge (by omega)]; simp only; omega
 | succ d ih =>
  intro i p h1 h2 h3
  have hw:=wide_pos s i
  by_cases h:i < e
  ·rw [W_lt h]
   cases hc:s.getD i 0 == 10 with
   | true =>
    rw [stp_nl _ _ hc]
    have:=ih (i+wideAt s i) (p.1+1,1) (by omega) (by simp only; omega) (by simp only; omega)
    simp only at this
    omega
   | false =>
    rw [stp_no _ _ hc]
    have:=ih (i+wideAt s i) (p.1,p.2+1) (by omega) (by simp only; omega) (by simp only; omega)
    simp only at this
    omega
  ·rw [W_ge (by omega)]; simp only; omega
theorem Okp_walk {s:List UInt8} {len i e:Nat} {p:Int×Int} (h:Okp len i p) (h1:i≤e) (h2:e≤len) : Okp len e (W s e i p).2:=by
 obtain ⟨a,b,c,d⟩:=h
 have:=W_col (s:=s) (e:=e) (e - i) i p (Nat.le_refl _) a b
 unfold Okp
 omega
def F0:T_api_Fault:=⟨0,⟨0,0,0⟩⟩
def put (t:T_api_Token) (q:T_api_Spot) : T_api_Token:=⟨t.f_Kind,t.f_Text,t.f_Int,q⟩
def scanP (s:List UInt8) : Nat→Nat→Int×Int→List T_api_Token→List T_api_Token×T_api_Fault
 | 0,_,_,_=>([],F0)
 | d+1,i,p,acc =>
  if s.length≤S s i then (acc++[put (tk 0 [] 0) (spotOf (W s (S s i) i p).2 (S s i))],F0)
  else match wordP (s.drop (S s i)) with
   | .inr e=>([],⟨e,spotOf (W s (S s i) i p).2 (S s i)⟩)
   | .inl (t,n)=>scanP s d (S s i+n) (W s (S s i+n) (S s i) (W s (S s i) i p).2).2 (acc++[put t (spotOf (W s (S s i) i p).2 (S s i))])
theorem scan_l1 (k:Nat) (s:List UInt8) (hs:s.length≤1000000000) (hk:s.length+30≤k) : ∀ (d i:Nat) (p:Int×Int) (acc:List T_api_Token),s.length - i < d→i≤s.length→acc.length≤i→Okp s.length i p→token_Scan.l1 k d acc (cur s p i)=some (.inl (scanP s d i p acc)):=by
 intro d
 induction d with
 | zero=>intro i p acc h; omega
 | succ d ih =>
  intro i p acc h1 h2 h3 h4
  obtain ⟨g1,g2⟩:=S_ge s i h2
  obtain ⟨L,C⟩:=p
  have hq:=Okp_walk (s:=s) h4 g1 g2
  obtain ⟨a1,a2,a3,a4⟩:=h4
  rw [token_Scan.l1.eq_2,space_f k s i L C hs (by omega) h2 a1 a2 a3 a4,bind_some',here_f s _ _ g2,bind_some',scanP.eq_2]
  by_cases he:s.length≤S s i
  ·rw [if_pos he,List.drop_eq_nil_of_le he]
   show (bif true then _ else _)=_
   rw [cond_true,chk_of (decide_eq_true (by rw [List.length_singleton]; omega))]
   rfl
  ·have hne:s.drop (S s i)≠[]:=by intro e2; have:=congrArg List.length e2; simp at this; omega
   have hneb:(s.drop (S s i) == [])=false:=by rw [← Bool.not_eq_true,beq_iff_eq]; exact hne
   rw [if_neg he,hneb,cond_false,bind_some',word_f k _ (by rw [List.length_drop]; omega) (by rw [List.length_drop]; omega) hne,bind_some']
   unfold wordR
   cases hw:wordP (s.drop (S s i)) with
   | inr e =>
    have he3:=wordP_err hw
    simp only
    rw [show (e != 0)=true from by rw [bne_iff_ne]; omega]
    rfl
   | inl tn =>
    obtain ⟨t,n⟩:=tn
    obtain ⟨n1,n2,n3,n4,n5⟩:=wordP_ok (by omega) hw
    obtain ⟨b1,b2,b3,b4⟩:=hq
    simp only
    rw [show ((0:Int) != 0)=false from rfl,cond_false,chk_of (decide_eq_true (by rw [List.length_singleton]; omega)),bind_some']
    have hsk:=skip_f k s (S s i) n (W s (S s i) i (L,C)).2.1 (W s (S s i) i (L,C)).2.2 n2 hs n3 (by omega) b1 b2 (by omega) (by omega)
    rw [show token_cursor_skip.f k (cur s (W s (S s i) i (L,C)).2 (S s i)) (n:Int)=_ from hsk,bind_some']
    exact ih (S s i+n) _ _ (by omega) n2 (by rw [List.length_append,List.length_singleton]; omega) (Okp_walk ⟨b1,b2,b3,b4⟩ (by omega) n2)
def scanS (s:List UInt8) : List T_api_Token×T_api_Fault:=scanP s (s.length+1) 0 (1,1) []
theorem scanP_fuel (s:List UInt8) : ∀ (d e i:Nat) (p:Int×Int) (acc:List T_api_Token),s.length - i < d→s.length - i < e→i≤s.length→scanP s d i p acc=scanP s e i p acc:=by
 intro d
 induction d with
 | zero=>intro e i p acc h; omega
 | succ d ih =>
  intro e i p acc h1 h2 h3
  obtain ⟨e,rfl⟩ : ∃ m,e=m+1:=⟨e - 1,by omega⟩
  obtain ⟨g1,g2⟩:=S_ge s i h3
  rw [scanP.eq_2,scanP.eq_2]
  by_cases he:s.length≤S s i
  ·rw [if_pos he,if_pos he]
  ·rw [if_neg he,if_neg he]
   cases hw:wordP (s.drop (S s i)) with
   | inr e=>rfl
   | inl tn =>
    obtain ⟨t,n⟩:=tn
    obtain ⟨n1,n2,n3,n4,n5⟩:=wordP_ok (by omega) hw
    exact ih e _ _ _ (by omega) (by omega) n2
theorem scan_f (k:Nat) (s:List UInt8) (hs:s.length≤1000000000) (hk:s.length+30≤k) : token_Scan.f k s=some (scanS s):=by
 unfold token_Scan.f
 have h:=scan_l1 k s hs hk k 0 (1,1) [] (by omega) (by omega) (Nat.le_refl _) ⟨by decide,by decide,by show (1:Int)+_≤_; omega,by show (1:Int)+_≤_; omega⟩
 rw [show token_Scan.l1 k k ([] : List T_api_Token) (⟨s,(⟨1,1,(0:Int)⟩ : T_api_Spot)⟩ : T_token_cursor)=_ from h,bind_some',scanP_fuel s k (s.length+1) 0 (1,1) [] (by omega) (by omega) (by omega)]
 rfl
end Go.Proofs.YtpmkkhkphddfeaaGreatDoor.X
set_option linter.unusedVariables false
set_option linter.unusedSimpArgs false
namespace Go.Proofs.YtpmkkhkphddfeaaGreatDoor.X
open Go Go.RowKit Go.Proofs.YtpmkkhkphddfeaaGreatDoor.SX
theorem rscan_l1 (k:Nat) (s:List UInt8) (hs:s.length≤1000000000) (hk:s.length+30≤k) : ∀ (d i o:Nat) (p:Int×Int) (acc:List T_api_Token),s.length - i < d→i≤s.length→acc.length≤i→al s o i→Okp s.length o p →
  dictumref02_Scan.l1 k s d acc (i:Int) (spotOf p (o:Int))=some (.inl (scanP s d i (W s i o p).2 acc)):=by
 intro d
 induction d with
 | zero=>intro i o p acc h; omega
 | succ d ih =>
  intro i o p acc h1 h2 h3 h4 h5
  obtain ⟨g1,g2⟩:=S_ge s i h2
  have hal:=(S_al (s:=s) (s.length - i) i (Nat.le_refl _) h2).2
  have hq:=Okp_walk (s:=s) (e:=S s i) h5 (Nat.le_trans h4.1 g1) g2
  have hon:=on_f k s (S s i) o p.1 p.2 g2 hs (by omega) h5.1 h5.2.1 (by have:=h5.2.2.1; omega) (by have:=h5.2.2.2; omega)
  have hcut:=al_cut (i - o) o p (Nat.le_refl _) h4 (S s i) g1
  rw [dictumref02_Scan.l1.eq_2,rskip_f k s i hs (by omega) h2,bind_some',show dictumref02_on.f k s (spotOf p (o:Int)) (S s i:Int)=_ from hon,bind_some',scanP.eq_2]
  rw [show W s (S s i) o (p.1,p.2)=W s (S s i) o p from rfl,hcut]
  by_cases he:s.length≤S s i
  ·rw [if_pos he,one_end k s _ he,bind_some']
   show (bif false then _ else _)=_
   rw [cond_false,chk_of (decide_eq_true (by rw [List.length_singleton]; omega))]
   rfl
  ·rw [if_neg he]
   obtain ⟨z,hz,hzw⟩:=one_f k s (S s i) (by omega) hs hk
   rw [hz,bind_some']
   cases hw:wordP (s.drop (S s i)) with
   | inr e =>
    rw [hw] at hzw
    have he3:=wordP_err hw
    have hz2:z.2.2=e:=hzw
    rw [hz2,show (e != 0)=true from by rw [bne_iff_ne]; omega]
    rfl
   | inl tn =>
    obtain ⟨t,n⟩:=tn
    rw [hw] at hzw
    have hz2:z=(t,((S s i+n:Nat) : Int),0):=hzw
    obtain ⟨n1,n2,n3,n4,n5⟩:=wordP_ok (by omega) hw
    rw [hz2]
    simp only
    rw [show ((0:Int) != 0)=false from rfl,cond_false,chk_of (decide_eq_true (by rw [List.length_singleton]; omega)),bind_some',show (t.f_Kind == 0)=false from by rw [← Bool.not_eq_true,beq_iff_eq]; omega,cond_false]
    have:=ih (S s i+n) (S s i) (W s (S s i) o p).2 (acc++[put t (spotOf (W s (S s i) o p).2 (S s i))]) (by omega) n2 (by rw [List.length_append,List.length_singleton]; omega) n3 hq
    rw [hcut] at this
    exact this
theorem rscan_f (k:Nat) (s:List UInt8) (hs:s.length≤1000000000) (hk:s.length+30≤k) : dictumref02_Scan.f k s=some (scanS s):=by
 unfold dictumref02_Scan.f
 have h:=rscan_l1 k s hs hk k 0 0 (1,1) [] (by omega) (by omega) (Nat.le_refl _) (al_refl s 0) ⟨by decide,by decide,by show (1:Int)+_≤_; omega,by show (1:Int)+_≤_; omega⟩
 rw [show dictumref02_Scan.l1 k s k ([] : List T_api_Token) 0 (⟨1,1,(0:Int)⟩ : T_api_Spot)=_ from h,bind_some',W_ge (Nat.le_refl 0),scanP_fuel s k (s.length+1) 0 (1,1) [] (by omega) (by omega) (by omega)]
 rfl
end Go.Proofs.YtpmkkhkphddfeaaGreatDoor.X
set_option linter.unusedVariables false
set_option linter.unusedSimpArgs false
namespace Go.Proofs.YtpmkkhkphddfeaaGreatDoor.X
open Go Go.RowKit Go.Proofs.YtpmkkhkphddfeaaGreatDoor.SX
open Go.Lib (itoa decDigits)
def gapB (c:UInt8) : Bool:=blankB c || c == 35
def gapped (r:List UInt8) : Prop:=r=[]∨∃ g u,r=g :: u∧gapB g=true
theorem find_mono {α:Type} {p q:α→Bool} (hqp:∀ a,q a=true→p a=true) : ∀ (l:List α) (a:α),l.find? p=some a→q a=true→l.find? q=some a
 | [],a,h,_=>by cases h
 | b :: t,a,h,ha=>by
  rw [List.find?_cons] at h ⊢
  cases hb:p b with
  | true =>
   rw [hb] at h
   obtain rfl:=Option.some.inj h
   rw [ha]
  | false =>
   rw [hb] at h
   have hqb:q b=false:=by
    cases hq:q b with
    | false=>rfl
    | true=>have:=hqp b hq; rw [hb] at this; cases this
   rw [hqb]
   exact find_mono hqp t a h ha
theorem runN_take {p:UInt8→Bool}:∀ (l:List UInt8) (m:Nat),runN p l≤m→runN p (l.take m)=runN p l
 | [],m,_=>by rw [List.take_nil]
 | c :: t,m,h=>by
  cases hc:p c with
  | false =>
   rw [runN_cons_f hc]
   cases m with
   | zero=>rfl
   | succ m=>rw [List.take_succ_cons,runN_cons_f hc]
  | true =>
   rw [runN_cons_t hc] at h ⊢
   obtain ⟨m,rfl⟩ : ∃ q,m=q+1:=⟨m - 1,by omega⟩
   rw [List.take_succ_cons,runN_cons_t hc,runN_take t m (by omega)]
theorem getD_take {l:List UInt8} {m j:Nat} (h:j < m) : (l.take m).getD j 0=l.getD j 0:=by
 simp only [List.getD,List.getElem?_take_of_lt h]
theorem pfx_cut {y l:List UInt8} {m:Nat} (h:y.isPrefixOf (l.take m)=true) : y.isPrefixOf l=true:=by
 rw [List.isPrefixOf_iff_prefix] at h ⊢
 exact h.trans (List.take_prefix m l)
theorem pfx_keep {y l:List UInt8} {m:Nat} (h:y.isPrefixOf l=true) (hm:y.length≤m) : y.isPrefixOf (l.take m)=true:=by
 rw [pfx_take,Bool.and_eq_true,decide_eq_true_eq,beq_iff_eq] at h ⊢
 rw [List.length_take,List.take_take,Nat.min_eq_left hm]
 exact ⟨by omega,h.2⟩
theorem wordP_cut {l:List UInt8} {t:T_api_Token} {n m:Nat} (hne:l≠[]) (hw:wordP l = .inl (t,n)) (h1:1≤n) (hm:n≤m) : wordP (l.take m) = .inl (t,n):=by
 have h0:(l.take m).getD 0 0=l.getD 0 0:=getD_take (by omega)
 unfold wordP at hw ⊢
 rw [h0]
 cases hL:letB (l.getD 0 0) with
 | true =>
  rw [hL,cond_true] at hw
  rw [cond_true]
  split at hw
  ·cases hw
  ·rename_i h31
   injection hw with hw
   injection hw with hw1 hw2
   rw [runN_take l m (by omega),if_neg h31,List.take_take,Nat.min_eq_left (by omega),← hw1,← hw2]
 | false =>
  rw [hL,cond_false] at hw
  rw [cond_false]
  cases hD:digB (l.getD 0 0) with
  | true =>
   rw [hD,cond_true] at hw
   rw [cond_true]
   cases hb:numBad l with
   | true=>rw [hb,cond_true] at hw; cases hw
   | false =>
    rw [hb,cond_false] at hw
    injection hw with hw
    injection hw with hw1 hw2
    have hr:runN digB (l.take m)=runN digB l:=runN_take l m (by omega)
    have hv:numV 0 (l.take m)=numV 0 l:=by rw [← numV_take (l.take m),hr,List.take_take,Nat.min_eq_left (by omega),numV_take]
    have hb2:numBad (l.take m)=false:=by
     unfold numBad at hb ⊢
     rw [Bool.or_eq_false_iff,Bool.or_eq_false_iff] at hb ⊢
     rw [hr,h0,hv]
     refine ⟨hb.1,hb.2.1,?_⟩
     by_cases h:runN digB l < (l.take m).length
     ·have hlm:runN digB l < m:=by rw [List.length_take] at h; omega
      have hll:runN digB l < l.length:=by rw [List.length_take] at h; omega
      have hb3:=hb.2.2
      rw [decide_eq_true hll,Bool.true_and] at hb3
      rw [getD_take hlm,hb3,Bool.and_false]
     ·rw [decide_eq_false h,Bool.false_and]
    rw [hb2,cond_false,hv,hr,← hw1,← hw2]
  | false =>
   rw [hD,cond_false] at hw
   rw [cond_false]
   cases hs:specOf l with
   | some e =>
    rw [hs] at hw
    injection hw with hw
    injection hw with hw1 hw2
    have h2:specOf (l.take m)=some e:=find_mono (fun a ha=>pfx_cut ha) _ e hs (pfx_keep (spec_mem hs).2 (by omega))
    rw [h2,← hw1,← hw2]
   | none =>
    rw [hs] at hw
    have h2:specOf (l.take m)=none:=by
     rw [show specOf l=List.find? _ _ from rfl,List.find?_eq_none] at hs
     exact List.find?_eq_none.2 (fun e he hc=>hs e he (pfx_cut hc))
    rw [h2]
    cases hg:signOf l with
    | some x =>
     rw [hg] at hw
     injection hw with hw
     injection hw with hw1 hw2
     have h3:signOf (l.take m)=some x:=find_mono (fun a ha=>pfx_cut ha) _ x hg (pfx_keep (signOf_mem hg).2 (by omega))
     simp only
     rw [h3,← hw1,← hw2]
    | none=>rw [hg] at hw; cases hw
end Go.Proofs.YtpmkkhkphddfeaaGreatDoor.X
set_option linter.unusedVariables false
set_option linter.unusedSimpArgs false
namespace Go.Proofs.YtpmkkhkphddfeaaGreatDoor.X
open Go Go.RowKit Go.Proofs.YtpmkkhkphddfeaaGreatDoor.SX
theorem nlOf_take:∀ (l:List UInt8) (m:Nat),nlOf (l.take m)=min m (nlOf l)
 | [],m=>by rw [List.take_nil]; exact (Nat.min_zero m).symm
 | c :: t,0=>by rw [List.take_zero]; exact (Nat.zero_min _).symm
 | c :: t,m+1=>by
  rw [List.take_succ_cons,nlOf.eq_2,nlOf.eq_2,nlOf_take t m]
  cases c == 10 with
  | true=>simp
  | false=>simp only [cond_false]; omega
theorem S_take {s:List UInt8} {m:Nat} (hm:m≤s.length) : ∀ (d i:Nat),s.length - i≤d→i≤m→S s i≤m→S (s.take m) i=S s i:=by
 intro d
 have hl:(s.take m).length=m:=by rw [List.length_take]; omega
 induction d with
 | zero =>
  intro i h1 h2 h3
  rw [S_end (s:=s) (i:=i) (by omega),S_end (by rw [hl]; omega)]
 | succ d ih =>
  intro i h1 h2 h3
  by_cases h:i < m
  ·have hs:i < s.length:=by omega
   have hlt:i < (s.take m).length:=by rw [hl]; exact h
   have hg:(s.take m).getD i 0=s.getD i 0:=getD_take h
   cases hb:blankB (s.getD i 0) with
   | true =>
    rw [S_blank hlt (by rw [hg]; exact hb)]
    rw [S_blank hs hb] at h3 ⊢
    exact ih (i+1) (by omega) (by omega) h3
   | false =>
    cases hc:s.getD i 0 == 35 with
    | true =>
     have hn:=nl_pos hs hc
     rw [S_com hlt (by rw [hg]; exact hb) (by rw [hg]; exact hc)]
     rw [S_com hs hb hc] at h3 ⊢
     obtain ⟨hle,_⟩:=com_al hs
     have hge:=(S_ge s _ hle).1
     have e1:nlOf ((s.take m).drop i)=nlOf (s.drop i):=by
      rw [List.drop_take,nlOf_take]
      omega
     rw [e1]
     exact ih _ (by omega) (by omega) h3
    | false=>rw [S_stop hs hb hc,S_stop hlt (by rw [hg]; exact hb) (by rw [hg]; exact hc)]
  ·obtain rfl:i=m:=by omega
   have:=(S_ge s i hm).1
   rw [S_end (by rw [hl]; omega)]
   omega
theorem scan_first {s:List UInt8}:∀ (d i:Nat) (p:Int×Int) (acc acc2:List T_api_Token) (c:Int) (q:T_api_Spot),s.length - i < d→i≤s.length→al s 0 i→p=(W s i 0 (1,1)).2→scanP s d i p acc=([],⟨c,q⟩)→c≠0 →
  ∃ m:Nat,i≤m∧m≤s.length∧al s 0 m∧q=spotOf (W s m 0 (1,1)).2 m∧∀ (d':Nat) (p':Int×Int),m - i < d'→(scanP (s.take m) d' i p' acc2).2=F0:=by
 intro d
 induction d with
 | zero=>intro i p acc acc2 c q h; omega
 | succ d ih =>
  intro i p acc acc2 c q h1 h2 ha hp h hc
  obtain ⟨g1,g2⟩:=S_ge s i h2
  have hal:=(S_al (s:=s) (s.length - i) i (Nat.le_refl _) h2).2
  have hcut:=al_cut (i - 0) 0 (1,1) (Nat.le_refl _) ha (S s i) g1
  rw [← hp] at hcut
  rw [scanP.eq_2] at h
  by_cases he:s.length≤S s i
  ·rw [if_pos he] at h
   injection h with _ h
   have:(0:Int)=c:=congrArg T_api_Fault.f_Code h
   exact absurd this.symm hc
  ·rw [if_neg he] at h
   cases hw:wordP (s.drop (S s i)) with
   | inr e =>
    rw [hw] at h
    injection h with _ h
    injection h with h3 h4
    refine ⟨S s i,g1,g2,al_trans ha hal,by rw [← h4,hcut],fun d' p' hd=>?_⟩
    obtain ⟨d',rfl⟩ : ∃ m,d'=m+1:=⟨d' - 1,by omega⟩
    have hS:=S_take (m:=S s i) g2 (s.length - i) i (Nat.le_refl _) g1 (Nat.le_refl _)
    rw [scanP.eq_2,hS,if_pos (by rw [List.length_take]; omega)]
   | inl tn =>
    obtain ⟨t,n⟩:=tn
    rw [hw] at h
    obtain ⟨n1,n2,n3,n4,n5⟩:=wordP_ok (by omega) hw
    have hne:s.drop (S s i)≠[]:=by intro e2; have:=congrArg List.length e2; simp at this; omega
    have hal2:=al_trans (al_trans ha hal) n3
    have hp2:(W s (S s i+n) (S s i) (W s (S s i) i p).2).2=(W s (S s i+n) 0 (1,1)).2:=by
     rw [← hcut,← al_cut (S s i - 0) 0 (1,1) (Nat.le_refl _) (al_trans ha hal) (S s i+n) (by omega)]
    obtain ⟨m,m1,m2,m3,m4,m5⟩:=ih (S s i+n) _ _ (acc2++[put t (spotOf (0,0) 0)]) c q (by omega) n2 hal2 hp2 h hc
    refine ⟨m,by omega,m2,m3,m4,fun d' p' hd=>?_⟩
    obtain ⟨d',rfl⟩ : ∃ m,d'=m+1:=⟨d' - 1,by omega⟩
    have hS:=S_take (m:=m) m2 (s.length - i) i (Nat.le_refl _) (by omega) (by omega)
    have hw2:wordP ((s.take m).drop (S s i)) = .inl (t,n):=by
     rw [List.drop_take]
     exact wordP_cut hne hw n1 (by omega)
    rw [scanP.eq_2,hS,if_neg (by rw [List.length_take]; omega),hw2]
    have acc_free:∀ (s:List UInt8) (d i:Nat) (p p':Int×Int) (a b:List T_api_Token),(scanP s d i p a).2=F0→(scanP s d i p' b).2=F0:=by
     intro s d
     induction d with
     | zero=>intro i p p' a b _; rfl
     | succ d ihd =>
      intro i p p' a b h
      rw [scanP.eq_2] at h ⊢
      by_cases he:s.length≤S s i
      ·rw [if_pos he]
      ·rw [if_neg he] at h ⊢
       cases hw:wordP (s.drop (S s i)) with
       | inr e =>
        rw [hw] at h
        have h6:=wordP_err hw
        have:e=0:=congrArg T_api_Fault.f_Code h
        omega
       | inl tn =>
        rw [hw] at h
        exact ihd _ _ _ _ _ h
    exact acc_free _ _ _ _ _ _ _ (m5 d' p' (by omega))
end Go.Proofs.YtpmkkhkphddfeaaGreatDoor.X
set_option linter.unusedVariables false
set_option linter.unusedSimpArgs false
namespace Go.Proofs.YtpmkkhkphddfeaaGreatDoor.X
open Go Go.RowKit Go.Proofs.YtpmkkhkphddfeaaGreatDoor.SX
theorem spot_refl (x:T_api_Spot) : T_api_Spot.eqb x x=true:=by unfold T_api_Spot.eqb; simp
theorem fault_refl (x:T_api_Fault) : T_api_Fault.eqb x x=true:=by unfold T_api_Fault.eqb; simp [spot_refl]
end Go.Proofs.YtpmkkhkphddfeaaGreatDoor.X
set_option linter.unusedVariables false
set_option linter.unusedSimpArgs false
namespace Go.Proofs.YtpmkkhkphddfeaaGreatDoor.X
open Go Go.RowKit Go.Proofs.YtpmkkhkphddfeaaGreatDoor.SX
def letV (c:UInt8) : Bool:=(decide ((97:UInt8)≤c) && decide (c≤122)) || (decide ((65:UInt8)≤c) && decide (c≤90))
theorem letV_fin:∀ c:Fin 256,(decide ((97:UInt8)≤(UInt8.ofNat c.val ||| 32)) && decide ((UInt8.ofNat c.val ||| 32)≤122))=letV (UInt8.ofNat c.val):=by decide +kernel
theorem letV_small (c:UInt8) : (decide ((97:UInt8)≤(c ||| 32)) && decide ((c ||| 32)≤122))=letV c:=by
 have:=letV_fin ⟨c.toNat,c.toNat_lt⟩
 simpa using this
def tailC (c:UInt8) : Bool:=c == 95 || (c == 39 || (decide ((48:UInt8)≤c) && decide (c≤57)))
def badAt (i:Nat) (c:UInt8) : Bool:=!letV c && (decide (i=0) || !tailC c)
def badW:Nat→List UInt8→Bool
 | _,[]=>false
 | i,c :: t=>badAt i c || badW (i+1) t
def RES:List (List UInt8):=[[97,98,111,114,116],[99,97,115,101],[102,97,108,115,101],[102,115,116],[102,117,110],[105,110],[105,110,108],[105,110,114],[108,101,116],[111,102],[115,110,100],[116,114,117,101]]
def wordB (s:List UInt8) : Bool:=!badW 0 s && (!(s == []) && (decide (s.length≤31) && !RES.contains s))
theorem ixD {l:List UInt8} {n:Nat} (h:n < l.length) : ix l (n:Int)=some l[n]:=by rw [ix_nat,List.getElem?_eq_getElem h]
theorem or_bif {a x:Bool} {X:Option Bool} (h:X=some x) : (bif a then some a else X)=some (a || x):=by cases a <;> simp [h]
theorem reserved_f (s:List UInt8) : formula_reserved.f s=some (RES.contains s):=by
 have e:RES.contains s=(s == [97,98,111,114,116] || (s == [99,97,115,101] || (s == [102,97,108,115,101] || (s == [102,115,116] || (s == [102,117,110] || (s == [105,110] || (s == [105,110,108] || (s == [105,110,114] || (s == [108,101,116] || (s == [111,102] || (s == [115,110,100] || s == [116,114,117,101]))))))))))):=by
  unfold RES
  simp only [List.contains_cons,List.contains_nil,Bool.or_false]
 rw [e]
 unfold formula_reserved.f
 have h:∀ b:Bool,((some b).bind fun z=>(bif z then some true else some false))=some b:=by intro b; cases b <;> rfl
 refine Eq.trans (congrArg (fun o:Option Bool=>o.bind fun z=>(bif z then some true else some false)) (or_bif (or_bif (or_bif (or_bif (or_bif (or_bif (or_bif (or_bif (or_bif (or_bif (or_bif rfl))))))))))))  (h _)
theorem word_l1 (k:Nat) (s:List UInt8) (hs:s.length≤1000000000000) : ∀ (d kk i:Nat),s.length - i≤d→d < kk→i≤s.length→formula_Word.l1 k s kk (i:Int)=some (bif badW i (s.drop i) then .inl false else .inr ()):=by
 intro d
 induction d with
 | zero =>
  intro kk i h1 h2 h3
  obtain ⟨q,rfl⟩ : ∃ q,kk=q+1:=⟨kk - 1,by omega⟩
  rw [formula_Word.l1.eq_2,decide_eq_false (by omega:¬ (i:Int) < (s.length:Int)),List.drop_eq_nil_of_le (by omega)]
  rfl
 | succ d ih =>
  intro kk i h1 h2 h3
  obtain ⟨q,rfl⟩ : ∃ q,kk=q+1:=⟨kk - 1,by omega⟩
  by_cases h:i < s.length
  ·rw [formula_Word.l1.eq_2,decide_eq_true (by omega:(i:Int) < (s.length:Int)),cond_true,ixD h,bind_some',drop_cons h,wsucc i (by omega),ih q (i+1) (by omega) (by omega) h]
   have hz:((i:Int) == 0)=decide (i=0):=by rw [Bool.eq_iff_iff,beq_iff_eq,decide_eq_true_eq]; omega
   rw [hz]
   show _=some (bif badAt i s[i] || badW (i+1) (s.drop (i+1)) then _ else _)
   have e:((bif (decide ((97:UInt8)≤(s[i] ||| (32:UInt8)))) then some (decide ((s[i] ||| (32:UInt8))≤(122:UInt8))) else some false) : Option Bool)=some (letV s[i]):=by
    rw [← letV_small]
    cases decide ((97:UInt8)≤(s[i] ||| (32:UInt8))) <;> rfl
   rw [e,bind_some']
   have e2:((bif (!letV s[i]) then (bif (decide (i=0)) then some true else (bif (!(s[i] == (95:UInt8))) then (bif (!(s[i] == (39:UInt8))) then (bif (decide (s[i] < (48:UInt8))) then some true else some (decide ((57:UInt8) < s[i]))) else some false) else some false)) else some false) : Option Bool)=some (badAt i s[i]):=by
    have a1:decide ((48:UInt8)≤s[i]) = !decide (s[i] < 48):=by rw [← decide_not,decide_eq_decide,UInt8.not_lt]
    have a2:decide (s[i]≤(57:UInt8)) = !decide (57 < s[i]):=by rw [← decide_not,decide_eq_decide,UInt8.not_lt]
    unfold badAt tailC
    rw [a1,a2]
    generalize letV s[i]=b1
    generalize decide (i=0)=b2
    generalize (s[i] == (95:UInt8))=b3
    generalize (s[i] == (39:UInt8))=b4
    generalize decide (s[i] < (48:UInt8))=b5
    generalize decide ((57:UInt8) < s[i])=b6
    cases b1 <;> cases b2 <;> cases b3 <;> cases b4 <;> cases b5 <;> cases b6 <;> rfl
   rw [e2,bind_some']
   cases badAt i s[i] <;> rfl
  ·rw [formula_Word.l1.eq_2,decide_eq_false (by omega:¬ (i:Int) < (s.length:Int)),List.drop_eq_nil_of_le (by omega)]
   rfl
theorem word_f' (k:Nat) (s:List UInt8) (hs:s.length≤1000000000000) (hk:s.length < k) : formula_Word.f k s=some (wordB s):=by
 unfold formula_Word.f
 rw [show formula_Word.l1 k s k 0=_ from word_l1 k s hs s.length k 0 (by omega) (by omega) (by omega),bind_some',List.drop_zero]
 unfold wordB
 cases badW 0 s with
 | true=>rfl
 | false =>
  show (bif (!(s == ([] : List UInt8))) then _ else _)=_
  have hd:decide ((s.length:Int)≤31)=decide (s.length≤31):=by rw [decide_eq_decide]; omega
  rw [hd,reserved_f,bind_some']
  cases (s == ([] : List UInt8)) <;> cases decide (s.length≤31) <;> cases RES.contains s <;> rfl
end Go.Proofs.YtpmkkhkphddfeaaGreatDoor.X
set_option linter.unusedVariables false
set_option linter.unusedSimpArgs false
namespace Go.Proofs.YtpmkkhkphddfeaaGreatDoor.X
open Go Go.RowKit Go.Proofs.YtpmkkhkphddfeaaGreatDoor.SX
theorem rletter_f (c:UInt8) : dictumref03_letter.f c=some (letV c):=by
 unfold dictumref03_letter.f letV
 cases decide ((97:UInt8)≤c) <;> cases decide (c≤(122:UInt8)) <;> cases decide ((65:UInt8)≤c) <;> rfl
theorem rword_l1 (k:Nat) (s:List UInt8) (hs:s.length≤1000000000000) : ∀ (d kk i:Nat),s.length - i≤d→d < kk→i≤s.length→1≤i→dictumref03_Word.l1 k s kk (i:Int)=some (bif badW i (s.drop i) then .inl false else .inr ()):=by
 intro d
 induction d with
 | zero =>
  intro kk i h1 h2 h3 h4
  obtain ⟨q,rfl⟩ : ∃ q,kk=q+1:=⟨kk - 1,by omega⟩
  rw [dictumref03_Word.l1.eq_2,decide_eq_false (by omega:¬ (i:Int) < (s.length:Int)),List.drop_eq_nil_of_le (by omega)]
  rfl
 | succ d ih =>
  intro kk i h1 h2 h3 h4
  obtain ⟨q,rfl⟩ : ∃ q,kk=q+1:=⟨kk - 1,by omega⟩
  by_cases h:i < s.length
  ·rw [dictumref03_Word.l1.eq_2,decide_eq_true (by omega:(i:Int) < (s.length:Int)),cond_true,drop_cons h,wsucc i (by omega),ih q (i+1) (by omega) (by omega) h (by omega)]
   simp only [ixD h,bind_some',rletter_f]
   show _=some (bif badAt i s[i] || badW (i+1) (s.drop (i+1)) then _ else _)
   have e2:((bif (!letV s[i]) then (bif (decide ((48:UInt8)≤s[i])) then (bif (!(decide (s[i]≤(57:UInt8)))) then (bif (!(s[i] == (95:UInt8))) then some (!(s[i] == (39:UInt8))) else some false) else some false) else (bif (!(s[i] == (95:UInt8))) then some (!(s[i] == (39:UInt8))) else some false)) else some false) : Option Bool)=some (badAt i s[i]):=by
    unfold badAt tailC
    rw [decide_eq_false (by omega:¬ i=0)]
    generalize letV s[i]=b1
    generalize (s[i] == (95:UInt8))=b3
    generalize (s[i] == (39:UInt8))=b4
    generalize decide ((48:UInt8)≤s[i])=b5
    generalize decide (s[i]≤(57:UInt8))=b6
    cases b1 <;> cases b3 <;> cases b4 <;> cases b5 <;> cases b6 <;> rfl
   rw [e2,bind_some']
   cases badAt i s[i] <;> rfl
  ·rw [dictumref03_Word.l1.eq_2,decide_eq_false (by omega:¬ (i:Int) < (s.length:Int)),List.drop_eq_nil_of_le (by omega)]
   rfl
theorem rword_l2 (k:Nat) (s:List UInt8) (R:List (List UInt8)) (hR:R.length≤1000) : ∀ (d kk i:Nat),R.length - i≤d→d < kk→i≤R.length→dictumref03_Word.l2 k s R kk (i:Int)=some (bif (R.drop i).contains s then .inl false else .inr ()):=by
 intro d
 induction d with
 | zero =>
  intro kk i h1 h2 h3
  obtain ⟨q,rfl⟩ : ∃ q,kk=q+1:=⟨kk - 1,by omega⟩
  rw [dictumref03_Word.l2.eq_2,decide_eq_false (by omega:¬ (i:Int) < (R.length:Int)),List.drop_eq_nil_of_le (by omega)]
  rfl
 | succ d ih =>
  intro kk i h1 h2 h3
  obtain ⟨q,rfl⟩ : ∃ q,kk=q+1:=⟨kk - 1,by omega⟩
  by_cases h:i < R.length
  ·rw [dictumref03_Word.l2.eq_2,decide_eq_true (by omega:(i:Int) < (R.length:Int)),cond_true,ix_nat,List.getElem?_eq_getElem h,bind_some',drop_cons h,wsucc i (by omega),ih q (i+1) (by omega) (by omega) h,List.contains_cons]
   have hb:(R[i] == s)=(s == R[i]):=by rw [Bool.eq_iff_iff,beq_iff_eq,beq_iff_eq]; exact eq_comm
   rw [hb]
   cases (s == R[i]) <;> rfl
  ·rw [dictumref03_Word.l2.eq_2,decide_eq_false (by omega:¬ (i:Int) < (R.length:Int)),List.drop_eq_nil_of_le (by omega)]
   rfl
theorem rword_f' (k:Nat) (s:List UInt8) (hs:s.length≤1000000000000) (hk:s.length < k) (hk2:20 < k) : dictumref03_Word.f k s=some (wordB s):=by
 unfold dictumref03_Word.f wordB
 cases s with
 | nil=>rfl
 | cons c t =>
  by_cases h31:t.length+1≤31
  ·rw [decide_eq_false (by simp only [List.length_cons]; omega:¬ (((c :: t).length:Nat) : Int) < 1),cond_false,decide_eq_false (by simp only [List.length_cons]; omega:¬ (((c :: t).length:Nat) : Int) > 31),cond_false,show ix (c :: t) (0:Int)=some c from rfl,bind_some',rletter_f,bind_some',bind_some']
   have hb:badW 0 (c :: t)=(!letV c || badW 1 t):=by
    show (!letV c && (true || !tailC c) || badW 1 t)=_
    cases letV c <;> rfl
   rw [hb]
   cases letV c with
   | false=>rfl
   | true =>
    show Option.bind (dictumref03_Word.l1 k (c :: t) k 1) _=_
    rw [show dictumref03_Word.l1 k (c :: t) k 1=_ from rword_l1 k (c :: t) hs (t.length+1) k 1 (by simp only [List.length_cons]; omega) (by simp only [List.length_cons] at hk; omega) (by simp only [List.length_cons]; omega) (by omega),bind_some']
    rw [show (c :: t).drop 1=t from rfl]
    cases badW 1 t with
    | true=>rfl
    | false =>
     show Option.bind (dictumref03_Word.l2 k (c :: t) RES k 0) _=_
     rw [show dictumref03_Word.l2 k (c :: t) RES k 0=_ from rword_l2 k (c :: t) RES (by decide) 12 k 0 (by decide) (by omega) (by decide),bind_some',List.drop_zero,decide_eq_true (by simp only [List.length_cons]; omega:(c :: t).length≤31)]
     cases RES.contains (c :: t) <;> rfl
  ·rw [decide_eq_false (by simp only [List.length_cons]; omega:¬ (((c :: t).length:Nat) : Int) < 1),cond_false,decide_eq_true (by simp only [List.length_cons]; omega:(((c :: t).length:Nat) : Int) > 31),cond_true,bind_some',cond_true,decide_eq_false (by simp only [List.length_cons]; omega:¬ (c :: t).length≤31)]
   cases badW 0 (c :: t) <;> rfl
end Go.Proofs.YtpmkkhkphddfeaaGreatDoor.X
set_option linter.unusedVariables false
set_option linter.unusedSimpArgs false
namespace Go.Proofs.YtpmkkhkphddfeaaGreatDoor.X
open Go Go.RowKit Go.Proofs.YtpmkkhkphddfeaaGreatDoor.SX
theorem eqbN (x y:T_api_Node) : T_api_Node.eqb x y=decide (x=y):=by
 unfold T_api_Node.eqb
 rw [Bool.eq_iff_iff,decide_eq_true_eq]
 cases x; cases y
 simp [and_assoc]
section maps
variable {K V:Type} {eq:K→K→Bool}
theorem lfind_shift (x:K) : ∀ (l:List K) (i:Nat),lfind eq x l i=(lfind eq x l 0).map (· + i)
 | [],i=>rfl
 | a :: l,i=>by
  unfold lfind
  cases eq x a with
  | true=>simp
  | false =>
   rw [cond_false,cond_false,lfind_shift x l (i+1),lfind_shift x l (0+1),Option.map_map]
   congr 1
   funext q
   show q+(i+1)=q+(0+1)+i
   omega
theorem lfind_cons (x a:K) (l:List K) : lfind eq x (a :: l) 0=bif eq x a then some 0 else (lfind eq x l 0).map (· + 1):=by
 rw [lfind,lfind_shift x l (0+1)]
theorem lfind_app (x:K) : ∀ (l m:List K),lfind eq x (l++m) 0=match lfind eq x l 0 with | some i=>some i | none=>(lfind eq x m 0).map (· + l.length)
 | [],m=>by show _=(lfind eq x m 0).map (· + 0); simp
 | a :: l,m=>by
  rw [List.cons_append,lfind_cons,lfind_cons,lfind_app x l m]
  cases eq x a with
  | true=>rfl
  | false =>
   rw [cond_false,cond_false]
   cases lfind eq x l 0 with
   | some i=>rfl
   | none =>
    simp only [Option.map_none,Option.map_map,List.length_cons]
    congr 1
theorem lfind_none (he:∀ a b,eq a b=true↔a=b) (x:K) : ∀ l:List K,lfind eq x l 0=none↔x ∉ l
 | []=>by simp [lfind]
 | a :: l=>by
  rw [lfind_cons,List.mem_cons,not_or]
  cases hc:eq x a with
  | true=>simp [(he _ _).1 hc]
  | false =>
   have:x≠a:=fun h=>by rw [(he _ _).2 h] at hc; cases hc
   simp [this,lfind_none he x l]
theorem lfind_lt {x:K} {l:List K} {i:Nat} (h:lfind eq x l 0=some i) : i < l.length∧∃ a,l[i]?=some a∧eq x a=true:=by
 obtain ⟨_,a,h2,h3⟩:=lfind_at h
 rw [Nat.sub_zero] at h2
 exact ⟨(List.getElem?_eq_some_iff.1 h2).1,a,h2,h3⟩
theorem mget_nil (y:K) : mget eq ([] : List (K×V)) y=none:=rfl
theorem mget_cons (he:∀ a b,eq a b=true↔a=b) (k:K) (v:V) (m:List (K×V)) (y:K) : mget eq ((k,v) :: m) y=bif eq y k then some v else mget eq m y:=by
 unfold mget
 rw [List.map_cons,lfind_cons]
 cases eq y k with
 | true=>rfl
 | false =>
  rw [cond_false,cond_false]
  cases lfind eq y (m.map (·.1)) 0 <;> rfl
theorem mput_cons (he:∀ a b,eq a b=true↔a=b) (k:K) (v:V) (m:List (K×V)) (x:K) (w:V) : mput eq ((k,v) :: m) x w=bif eq x k then (x,w) :: m else (k,v) :: mput eq m x w:=by
 unfold mput
 rw [List.map_cons,lfind_cons]
 cases eq x k with
 | true=>rfl
 | false =>
  rw [cond_false,cond_false]
  cases lfind eq x (m.map (·.1)) 0 <;> rfl
theorem mget_mput (he:∀ a b,eq a b=true↔a=b) (m:List (K×V)) (x:K) (v:V) (y:K) : mget eq (mput eq m x v) y=bif eq y x then some v else mget eq m y:=by
 induction m with
 | nil=>exact mget_cons he x v [] y
 | cons a m ih =>
  obtain ⟨a,b⟩:=a
  rw [mput_cons he,mget_cons he]
  cases hxa:eq x a with
  | true =>
   rw [cond_true,mget_cons he,(he _ _).1 hxa]
   cases eq y a <;> rfl
  | false =>
   rw [cond_false,mget_cons he,ih]
   cases hya:eq y a with
   | false=>rfl
   | true =>
    have:eq y x=false:=by
     rw [← Bool.not_eq_true,he]
     intro h
     rw [← h,hya] at hxa
     cases hxa
    rw [this]
    rfl
theorem mdel_cons (he:∀ a b,eq a b=true↔a=b) (k:K) (v:V) (m:List (K×V)) (x:K) : mdel eq ((k,v) :: m) x=bif eq x k then m else (k,v) :: mdel eq m x:=by
 unfold mdel
 rw [List.map_cons,lfind_cons]
 cases eq x k with
 | true=>rfl
 | false =>
  rw [cond_false,cond_false]
  cases lfind eq x (m.map (·.1)) 0 <;> rfl
def uniq:List (K×V)→Prop
 | []=>True
 | (k,_) :: m=>(∀ w,(k,w) ∉ m)∧uniq m
theorem mget_none (he:∀ a b,eq a b=true↔a=b) (x:K) : ∀ m:List (K×V),mget eq m x=none↔∀ w,(x,w) ∉ m
 | []=>by simp [mget_nil]
 | (k,v) :: m=>by
  rw [mget_cons he]
  cases hc:eq x k with
  | true =>
   rw [(he _ _).1 hc]
   constructor
   ·intro h; cases h
   ·intro h; exact absurd (List.mem_cons_self ..) (h v)
  | false =>
   have hne:x≠k:=fun h=>by rw [(he _ _).2 h] at hc; cases hc
   rw [cond_false,mget_none he x m]
   constructor
   ·intro h w hw
    rcases List.mem_cons.1 hw with h1 | h1
    ·injection h1 with h1; exact hne h1
    ·exact h w h1
   ·intro h w hw; exact h w (List.mem_cons_of_mem _ hw)
theorem mem_mput (he:∀ a b,eq a b=true↔a=b) (x:K) (v:V) (y:K) (w:V) : ∀ m:List (K×V),(y,w) ∈ mput eq m x v→y=x∨(y,w) ∈ m
 | []=>by
  intro h
  rcases List.mem_cons.1 h with h1 | h1
  ·injection h1 with h1; exact .inl h1
  ·cases h1
 | (k,u) :: m=>by
  rw [mput_cons he]
  cases eq x k with
  | true =>
   intro h
   rcases List.mem_cons.1 h with h1 | h1
   ·injection h1 with h1; exact .inl h1
   ·exact .inr (List.mem_cons_of_mem _ h1)
  | false =>
   intro h
   rcases List.mem_cons.1 h with h1 | h1
   ·rw [h1]; exact .inr (List.mem_cons_self ..)
   ·rcases mem_mput he x v y w m h1 with h2 | h2
    ·exact .inl h2
    ·exact .inr (List.mem_cons_of_mem _ h2)
theorem uniq_mput (he:∀ a b,eq a b=true↔a=b) (x:K) (v:V) : ∀ m:List (K×V),uniq m→uniq (mput eq m x v)
 | [],_=>by
  refine ⟨?_,trivial⟩
  intro w hw
  cases hw
 | (k,u) :: m,h=>by
  rw [mput_cons he]
  cases hc:eq x k with
  | true=>obtain rfl:=(he _ _).1 hc; exact h
  | false =>
   refine ⟨fun w hw=>?_,uniq_mput he x v m h.2⟩
   rcases mem_mput he x v k w m hw with h1 | h1
   ·rw [(he _ _).2 h1.symm] at hc; cases hc
   ·exact h.1 w h1
theorem mem_mdel (he:∀ a b,eq a b=true↔a=b) (x y:K) (w:V) : ∀ m:List (K×V),(y,w) ∈ mdel eq m x→(y,w) ∈ m
 | []=>fun h=>h
 | (k,u) :: m=>by
  rw [mdel_cons he]
  cases eq x k with
  | true=>exact fun h=>List.mem_cons_of_mem _ h
  | false =>
   intro h
   rcases List.mem_cons.1 h with h1 | h1
   ·rw [h1]; exact List.mem_cons_self ..
   ·exact List.mem_cons_of_mem _ (mem_mdel he x y w m h1)
theorem uniq_mdel (he:∀ a b,eq a b=true↔a=b) (x:K) : ∀ m:List (K×V),uniq m→uniq (mdel eq m x)
 | [],_=>trivial
 | (k,u) :: m,h=>by
  rw [mdel_cons he]
  cases hc:eq x k with
  | true=>exact h.2
  | false=>exact ⟨fun w hw=>h.1 w (mem_mdel he x k w m hw),uniq_mdel he x m h.2⟩
theorem mget_mdel (he:∀ a b,eq a b=true↔a=b) (x y:K) : ∀ m:List (K×V),uniq m→mget eq (mdel eq m x) y=bif eq y x then none else mget eq m y
 | [],_=>by show none=bif eq y x then none else none; cases eq y x <;> rfl
 | (k,u) :: m,h=>by
  rw [mdel_cons he,mget_cons he]
  cases hc:eq x k with
  | true =>
   obtain rfl:=(he _ _).1 hc
   rw [cond_true]
   cases hy:eq y x with
   | true =>
    obtain rfl:=(he _ _).1 hy
    exact (mget_none he y m).2 h.1
   | false=>rfl
  | false =>
   rw [cond_false,mget_cons he,mget_mdel he x y m h.2]
   cases hyk:eq y k with
   | false=>rfl
   | true =>
    obtain rfl:=(he _ _).1 hyk
    have:eq y x=false:=by
     rw [← Bool.not_eq_true,he]
     intro h; rw [(he _ _).2 h.symm] at hc; cases hc
    rw [this]
    rfl
end maps
theorem eqN_iff (a b:T_api_Node) : T_api_Node.eqb a b=true↔a=b:=by rw [eqbN,decide_eq_true_eq]
abbrev MapN:=List (T_api_Node×Int)
def numN (N:List T_api_Node) (x:T_api_Node) : Option Nat:=lfind T_api_Node.eqb x N 0
structure Tab (N:List T_api_Node) (m:MapN) : Prop where
 get:∀ x,mget T_api_Node.eqb m x=(numN N x).map fun i=>(i:Int)
 uq:uniq m
 one:N.Nodup
 room:N.length≤1024
def hasN (N:List T_api_Node) (i:Int) : Bool:=decide (0≤i) && decide (i < (N.length:Int))
def fitN (N:List T_api_Node) (x:T_api_Node) : Int:=
 bif x.f_Kind == 1 then (bif x.f_L != 0 || x.f_R != 0 then 31 else bif wordB x.f_Name then 0 else 32) else
 bif x.f_Kind == 2 then (bif !(x.f_Name == []) || (x.f_L != 0 || x.f_R != 0) then 31 else 0) else
 bif x.f_Kind == 3 || (x.f_Kind == 4 || x.f_Kind == 5) then (bif !(x.f_Name == []) || (!hasN N x.f_L || !hasN N x.f_R) then 31 else 0) else 31
def putN (N:List T_api_Node) (x:T_api_Node) : Int×Int×List T_api_Node:=
 bif fitN N x != 0 then (0,fitN N x,N) else match numN N x with
 | some i=>((i:Int),0,N)
 | none=>if 1024≤N.length then (0,30,N) else ((N.length:Int),0,N++[x])
theorem tab_nil:Tab [] []:=⟨fun x=>rfl,trivial,List.nodup_nil,Nat.zero_le _⟩
theorem numN_none {N:List T_api_Node} {x:T_api_Node}:numN N x=none↔x ∉ N:=lfind_none eqN_iff x N
theorem numN_lt {N:List T_api_Node} {x:T_api_Node} {i:Nat} (h:numN N x=some i) : i < N.length:=(lfind_lt h).1
theorem numN_app (N:List T_api_Node) (x y:T_api_Node) : numN (N++[y]) x=match numN N x with | some i=>some i | none=>if x=y then some N.length else none:=by
 unfold numN
 rw [lfind_app]
 cases lfind T_api_Node.eqb x N 0 with
 | some i=>rfl
 | none =>
  show (lfind T_api_Node.eqb x [y] 0).map (· + N.length)=if x=y then some N.length else none
  rw [lfind_cons,eqbN]
  by_cases h:x=y
  ·rw [if_pos h,decide_eq_true h]; show some (0+N.length)=_; rw [Nat.zero_add]
  ·rw [if_neg h,decide_eq_false h]; rfl
theorem Tab.add {N:List T_api_Node} {m:MapN} (h:Tab N m) {x:T_api_Node} (hx:numN N x=none) (hl:N.length < 1024) : Tab (N++[x]) (mput T_api_Node.eqb m x (N.length:Int)):=by
 refine ⟨fun y=>?_,uniq_mput eqN_iff x _ m h.uq,?_,by rw [List.length_append,List.length_singleton]; omega⟩
 ·rw [mget_mput eqN_iff,h.get,numN_app]
  by_cases hy:y=x
  ·subst hy
   rw [eqbN,decide_eq_true rfl,hx,if_pos rfl]
   rfl
  ·rw [eqbN,decide_eq_false hy,cond_false]
   cases numN N y with
   | some i=>rfl
   | none=>rw [if_neg hy]
 ·rw [List.nodup_append]
  refine ⟨h.one,by simp,fun a ha b hb=>?_⟩
  rw [List.mem_singleton] at hb
  subst hb
  intro e
  subst e
  exact numN_none.1 hx ha
theorem putN_bad {N:List T_api_Node} {x:T_api_Node} (h:fitN N x≠0) : putN N x=(0,fitN N x,N):=by
 unfold putN
 rw [show (fitN N x != 0)=true from by rw [bne_iff_ne]; exact h]
 rfl
theorem putN_old {N:List T_api_Node} {x:T_api_Node} {i:Nat} (h:fitN N x=0) (hx:numN N x=some i) : putN N x=((i:Int),0,N):=by
 unfold putN
 rw [h,hx]
 rfl
theorem putN_full {N:List T_api_Node} {x:T_api_Node} (h:fitN N x=0) (hx:numN N x=none) (hl:1024≤N.length) : putN N x=(0,30,N):=by
 unfold putN
 rw [h,hx]
 show (if 1024≤N.length then ((0:Int),(30:Int),N) else ((N.length:Int),0,N++[x]))=_
 rw [if_pos hl]
theorem putN_new {N:List T_api_Node} {x:T_api_Node} (h:fitN N x=0) (hx:numN N x=none) (hl:N.length < 1024) : putN N x=((N.length:Int),0,N++[x]):=by
 unfold putN
 rw [h,hx]
 show (if 1024≤N.length then ((0:Int),(30:Int),N) else ((N.length:Int),0,N++[x]))=_
 rw [if_neg (by omega)]
theorem putN_pre (N:List T_api_Node) (x:T_api_Node) : N <+: (putN N x).2.2:=by
 unfold putN
 cases fitN N x != 0 with
 | true=>exact List.prefix_refl _
 | false =>
  rw [cond_false]
  cases numN N x with
  | some i=>exact List.prefix_refl _
  | none =>
   show N <+: (if 1024≤N.length then ((0:Int),(30:Int),N) else ((N.length:Int),0,N++[x])).2.2
   split
   ·exact List.prefix_refl _
   ·exact List.prefix_append _ _
theorem has_f (N:List T_api_Node) (i:Int) (m:MapN) : formula_Table_has.f ⟨N⟩ i m=some (hasN N i):=by
 unfold formula_Table_has.f hasN
 have:decide (i ≥ 0)=decide (0≤i):=rfl
 rw [this]
 cases decide (0≤i) <;> rfl
theorem fits_f (k:Nat) (N:List T_api_Node) (x:T_api_Node) (m:MapN) (hs:x.f_Name.length≤1000000000000) (hk:x.f_Name.length < k) : formula_Table_fits.f k ⟨N⟩ x m=some (fitN N x):=by
 unfold formula_Table_fits.f fitN
 rw [word_f' k _ hs hk,has_f,has_f]
 simp only [bind_some']
 cases h1:x.f_Kind == 1 with
 | true =>
  rw [cond_true,cond_true]
  cases x.f_L != 0 <;> cases x.f_R != 0 <;> cases wordB x.f_Name <;> rfl
 | false =>
  rw [cond_false,cond_false]
  cases h2:x.f_Kind == 2 with
  | true =>
   rw [cond_true,cond_true]
   have e:T_api_Node.eqb (⟨x.f_Kind,x.f_Name,x.f_L,x.f_R⟩ : T_api_Node) (⟨2,([] : List UInt8),(0:Int),(0:Int)⟩ : T_api_Node) = !(!(x.f_Name == []) || (x.f_L != 0 || x.f_R != 0)):=by
    unfold T_api_Node.eqb
    simp only [h2,bne]
    generalize (x.f_Name == [])=a
    generalize (x.f_L == 0)=b
    generalize (x.f_R == 0)=c
    cases a <;> cases b <;> cases c <;> rfl
   rw [e]
   generalize (!(x.f_Name == []) || (x.f_L != 0 || x.f_R != 0))=b
   cases b <;> rfl
  | false =>
   rw [cond_false,cond_false]
   generalize (x.f_Kind == 3)=a
   generalize (x.f_Kind == 4)=b
   generalize (x.f_Kind == 5)=c
   generalize (x.f_Name == [])=d
   generalize hasN N x.f_L=e
   generalize hasN N x.f_R=f
   cases a <;> cases b <;> cases c <;> cases d <;> cases e <;> cases f <;> rfl
theorem put_f (k:Nat) (N:List T_api_Node) (x:T_api_Node) (m:MapN) (hT:Tab N m) (hs:x.f_Name.length≤1000000000000) (hk:x.f_Name.length < k) : ∃ m',formula_Table_Put.f k ⟨N⟩ x m=some ((putN N x).1,(putN N x).2.1,⟨(putN N x).2.2⟩,m')∧Tab (putN N x).2.2 m':=by
 unfold formula_Table_Put.f
 rw [show formula_Table_alive.f ⟨N⟩ m=some true from rfl,bind_some',show formula_Table_fits.f k ⟨N⟩ (⟨x.f_Kind,x.f_Name,x.f_L,x.f_R⟩ : T_api_Node) m=_ from fits_f k N x m hs hk,bind_some']
 unfold putN
 cases fitN N x != 0 with
 | true=>exact ⟨m,rfl,hT⟩
 | false =>
  rw [cond_false,cond_false,show mget T_api_Node.eqb m (⟨x.f_Kind,x.f_Name,x.f_L,x.f_R⟩ : T_api_Node)=_ from hT.get x]
  cases hx:numN N x with
  | some i=>exact ⟨m,rfl,hT⟩
  | none =>
   show ∃ m',(bif decide ((N.length:Int) ≥ 1024) then _ else _)=some ((if 1024≤N.length then ((0:Int),(30:Int),N) else ((N.length:Int),0,N++[x])).1,(if 1024≤N.length then ((0:Int),(30:Int),N) else ((N.length:Int),0,N++[x])).2.1,(⟨(if 1024≤N.length then ((0:Int),(30:Int),N) else ((N.length:Int),0,N++[x])).2.2⟩ : T_formula_Table),m')∧_
   by_cases h:1024≤N.length
   ·rw [if_pos h,decide_eq_true (by omega:(N.length:Int) ≥ 1024)]
    exact ⟨m,rfl,hT⟩
   ·rw [if_neg h,decide_eq_false (by omega:¬ (N.length:Int) ≥ 1024),cond_false,chk_of (decide_eq_true (by rw [List.length_singleton]; show (N.length+1) * 40≤_; omega))]
    exact ⟨_,rfl,hT.add hx (by omega)⟩
theorem copy_l1 (k:Nat) (N:List T_api_Node) (hN:N.length≤1024) : ∀ (d kk i:Nat) (M:List T_api_Node) (m:MapN),N.length - i≤d→d < kk→M.length≤i→i≤N.length→∃ r,formula_Table_Copy.l1 k ⟨N⟩ kk (i:Int) ⟨M⟩ m=some r:=by
 intro d
 induction d with
 | zero =>
  intro kk i M m h1 h2 h3 h4
  obtain ⟨q,rfl⟩ : ∃ q,kk=q+1:=⟨kk - 1,by omega⟩
  rw [formula_Table_Copy.l1.eq_2,decide_eq_false (by omega:¬ (i:Int) < (N.length:Int))]
  exact ⟨_,rfl⟩
 | succ d ih =>
  intro kk i M m h1 h2 h3 h4
  obtain ⟨q,rfl⟩ : ∃ q,kk=q+1:=⟨kk - 1,by omega⟩
  by_cases h:i < N.length
  ·obtain ⟨r,hr⟩:=ih q (i+1) (M++[N[i]]) (mput T_api_Node.eqb m N[i] (i:Int)) (by omega) (by omega) (by rw [List.length_append,List.length_singleton]; omega) h
   rw [formula_Table_Copy.l1.eq_2,decide_eq_true (by omega:(i:Int) < (N.length:Int)),cond_true,ix_nat,List.getElem?_eq_getElem h,bind_some',chk_of (decide_eq_true (by rw [List.length_singleton]; show (M.length+1) * 40≤_; omega)),bind_some',bind_some',wsucc i (by omega)]
   exact ⟨r,hr⟩
  ·rw [formula_Table_Copy.l1.eq_2,decide_eq_false (by omega:¬ (i:Int) < (N.length:Int))]
   exact ⟨_,rfl⟩
theorem known_f (k:Nat) (N:List T_api_Node) (m:MapN) (hT:Tab N m) (hk:1025≤k) : syntax_known.f k ⟨N⟩ m=some true:=by
 unfold syntax_known.f formula_Table_Copy.f
 have hr:=hT.room
 obtain ⟨r,hr⟩:=copy_l1 k N hT.room N.length k 0 [] [] (by omega) (by omega) (Nat.le_refl _) (by omega)
 rw [show formula_Table_alive.f ⟨N⟩ m=some true from rfl,bind_some',show formula_New.f=some ((⟨([] : List T_api_Node)⟩ : T_formula_Table),([] : MapN)) from rfl,bind_some',show formula_Table_Copy.l1 k ⟨N⟩ k 0 (⟨([] : List T_api_Node)⟩ : T_formula_Table) ([] : MapN)=_ from hr]
 rfl
theorem len_f (N:List T_api_Node) (m:MapN) : formula_Table_Len.f ⟨N⟩ m=some (N.length:Int):=rfl
end Go.Proofs.YtpmkkhkphddfeaaGreatDoor.X
set_option linter.unusedVariables false
set_option linter.unusedSimpArgs false
namespace Go.Proofs.YtpmkkhkphddfeaaGreatDoor.X
open Go Go.RowKit Go.Proofs.YtpmkkhkphddfeaaGreatDoor.SX
theorem numN_drop (N:List T_api_Node) (x:T_api_Node) (i:Nat) (h:i < N.length) : numN (N.drop i) x=if x=N[i] then some 0 else (numN (N.drop (i+1)) x).map (· + 1):=by
 unfold numN
 rw [drop_cons h,lfind_cons,eqbN]
 by_cases hc:x=N[i]
 ·rw [if_pos hc,decide_eq_true hc]; rfl
 ·rw [if_neg hc,decide_eq_false hc]; rfl
theorem find_l1 (k:Nat) (N:List T_api_Node) (x:T_api_Node) (hN:N.length≤100000) : ∀ (d kk i:Nat),N.length - i≤d→d < kk→i≤N.length →
  dictumref03_T_Find.l1 k ⟨N⟩ x kk (i:Int)=some (match numN (N.drop i) x with | some j => .inl (((i+j:Nat) : Int),true) | none => .inr ()):=by
 intro d
 induction d with
 | zero =>
  intro kk i h1 h2 h3
  obtain ⟨q,rfl⟩ : ∃ q,kk=q+1:=⟨kk - 1,by omega⟩
  rw [dictumref03_T_Find.l1.eq_2,decide_eq_false (by omega:¬ (i:Int) < (N.length:Int)),List.drop_eq_nil_of_le (by omega)]
  rfl
 | succ d ih =>
  intro kk i h1 h2 h3
  obtain ⟨q,rfl⟩ : ∃ q,kk=q+1:=⟨kk - 1,by omega⟩
  by_cases h:i < N.length
  ·rw [dictumref03_T_Find.l1.eq_2,decide_eq_true (by omega:(i:Int) < (N.length:Int)),cond_true,ix_nat,List.getElem?_eq_getElem h,bind_some',wsucc i (by omega),ih q (i+1) (by omega) (by omega) h,numN_drop N x i h]
   have e:T_api_Node.eqb N[i] (⟨x.f_Kind,x.f_Name,x.f_L,x.f_R⟩ : T_api_Node)=decide (x=N[i]):=by
    rw [eqbN,decide_eq_decide]; exact eq_comm
   rw [e]
   by_cases hc:x=N[i]
   ·rw [decide_eq_true hc,if_pos hc]; rfl
   ·rw [decide_eq_false hc,if_neg hc,cond_false]
    cases numN (N.drop (i+1)) x with
    | none=>rfl
    | some j =>
     show some (Sum.inl (((i+1+j:Nat) : Int),true))=some (Sum.inl (((i+(j+1) : Nat) : Int),true))
     rw [show i+1+j=i+(j+1) from by omega]
  ·rw [dictumref03_T_Find.l1.eq_2,decide_eq_false (by omega:¬ (i:Int) < (N.length:Int)),List.drop_eq_nil_of_le (by omega)]
   rfl
theorem rfind_f (k:Nat) (N:List T_api_Node) (x:T_api_Node) (hN:N.length≤100000) (hk:N.length < k) : dictumref03_T_Find.f k ⟨N⟩ x=some (match numN N x with | some j=>((j:Int),true) | none=>(0,false)):=by
 unfold dictumref03_T_Find.f
 rw [show dictumref03_T_Find.l1 k ⟨N⟩ x k 0=_ from find_l1 k N x hN N.length k 0 (by omega) hk (by omega),bind_some',List.drop_zero]
 cases numN N x with
 | none=>rfl
 | some j=>show some (((0+j:Nat) : Int),true)=some ((j:Int),true); rw [Nat.zero_add]
theorem rhas_f (N:List T_api_Node) (i:Int) : dictumref03_T_Has.f ⟨N⟩ i=some (hasN N i):=by
 unfold dictumref03_T_Has.f hasN
 have:decide (i ≥ 0)=decide (0≤i):=rfl
 rw [this]
 cases decide (0≤i) <;> rfl
theorem rput_f (k:Nat) (N:List T_api_Node) (x:T_api_Node) (hN:N.length≤1024) (hs:x.f_Name.length≤1000000000000) (hk:x.f_Name.length < k) (hk2:1025≤k) : dictumref03_T_Put.f k ⟨N⟩ x=some ((putN N x).1,(putN N x).2.1,⟨(putN N x).2.2⟩):=by
 unfold dictumref03_T_Put.f putN
 rw [rword_f' k _ hs hk (by omega),rhas_f,rhas_f]
 have key:∀ b:Int,∀ X:Option (Sum (Int×Int×T_dictumref03_T) Unit),X=some (bif b != 0 then .inl (0,b,⟨N⟩) else .inr ())→(X.bind fun z106=>match z106 with
  | .inl r_=>some r_
  | .inr _=>(dictumref03_T_Find.f k ⟨N⟩ (⟨x.f_Kind,x.f_Name,x.f_L,x.f_R⟩ : T_api_Node)).bind fun z111 =>
 (bif z111.2 then
 some (z111.1,0,⟨N⟩)
 else
 (bif (decide ((N.length:Int) ≥ 1024)) then
 some (0,30,⟨N⟩)
 else
 ((chk (decide ((N.length+[(⟨x.f_Kind,x.f_Name,x.f_L,x.f_R⟩ : T_api_Node)].length) * 40≤140737488355328))).bind fun _ =>
 some (⟨(N++[(⟨x.f_Kind,x.f_Name,x.f_L,x.f_R⟩ : T_api_Node)])⟩ : T_dictumref03_T) : Option (T_dictumref03_T)).bind fun z123 =>
 some (wrap64 ((z123.f_N.length:Int) - 1),0,z123))))=some ((bif b != 0 then (0,b,N) else match numN N x with
 | some i=>((i:Int),0,N)
 | none=>if 1024≤N.length then (0,30,N) else ((N.length:Int),0,N++[x])).1,(bif b != 0 then (0,b,N) else match numN N x with
 | some i=>((i:Int),0,N)
 | none=>if 1024≤N.length then (0,30,N) else ((N.length:Int),0,N++[x])).2.1,(⟨(bif b != 0 then ((0:Int),b,N) else match numN N x with
 | some i=>((i:Int),0,N)
 | none=>if 1024≤N.length then (0,30,N) else ((N.length:Int),0,N++[x])).2.2⟩ : T_dictumref03_T)):=by
  intro b X hX
  rw [hX,bind_some']
  cases b != 0 with
  | true=>rfl
  | false =>
   rw [cond_false,cond_false]
   show (dictumref03_T_Find.f k ⟨N⟩ x).bind _=_
   rw [rfind_f k N x (by omega) (by omega),bind_some']
   cases hx:numN N x with
   | some i=>rfl
   | none =>
    rw [cond_false]
    by_cases h:1024≤N.length
    ·rw [if_pos h,decide_eq_true (by omega:(N.length:Int) ≥ 1024)]; rfl
    ·rw [if_neg h,decide_eq_false (by omega:¬ (N.length:Int) ≥ 1024),cond_false,chk_of (decide_eq_true (by rw [List.length_singleton]; omega)),bind_some',bind_some']
     show some (wrap64 (((N++[x]).length:Int) - 1),(0:Int),(⟨N++[x]⟩ : T_dictumref03_T))=_
     rw [List.length_append,List.length_singleton,w64 (by omega) (by omega),show ((N.length+1:Nat) : Int) - 1=(N.length:Int) from by omega]
 refine key (fitN N x) _ ?_
 unfold fitN
 simp only [bind_some']
 cases h1:x.f_Kind == 1 with
 | true =>
  cases x.f_L != 0 <;> cases x.f_R != 0 <;> cases wordB x.f_Name <;> rfl
 | false =>
  cases h2:x.f_Kind == 2 with
  | true =>
   cases (x.f_Name == []) <;> cases x.f_L != 0 <;> cases x.f_R != 0 <;> rfl
  | false =>
   cases (x.f_Kind == 3) <;> cases (x.f_Kind == 4) <;> cases (x.f_Kind == 5) <;> cases (x.f_Name == []) <;> cases hasN N x.f_L <;> cases hasN N x.f_R <;> rfl
end Go.Proofs.YtpmkkhkphddfeaaGreatDoor.X
