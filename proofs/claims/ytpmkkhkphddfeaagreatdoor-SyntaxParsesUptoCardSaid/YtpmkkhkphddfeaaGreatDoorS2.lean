import Derived.Test.YtpmkkhkphddfeaaGreatDoorS1
import Derived.MapKept
import Derived.Carry
import Derived.ChangeMaps4
import Derived.WalkSpells
import Derived.Laws.MakeOwn
import Derived.RecoverIn
set_option linter.unusedVariables false
set_option linter.unusedSimpArgs false
namespace Go.Proofs.YtpmkkhkphddfeaaGreatDoor.SX
open Go Go.RowKit
structure KeyT (P:Program) (T:TypeId) {K:Type} (ek:K→Value) (eq:K→K→Bool) : Prop where
  chk:∀ (e:Bool) (x:K) (w:World),(Instr.checkKey e 10000 T (ek x)).run P w = .ok () w
  find:∀ (x:K) (l:List K) (es:List MapEntry),es.map (·.key)=l.map ek→∀ w,(Instr.findKey T (ek x) es).run P w = .ok ((lfind eq x l 0).bind fun i=>(es[i]?).map fun e=>(i,e.val)) w
  stay:∀ x y,eq x y=true→Instr.sameBits 10000 (ek y) (ek x)=true
section keys
variable {P:Program} {T:TypeId} {K:Type} {ek:K→Value} {eq:K→K→Bool}
theorem findNow_of {d:TypeDesc} (hs:∀ x y,Instr.sameNow d (ek x) (ek y)=some (eq x y)) (x:K) : ∀ (l:List K) (es:List MapEntry) (i:Nat),es.map (·.key)=l.map ek →
    Instr.findNow d (ek x) es i=some ((lfind eq x l i).bind fun j=>(es[j - i]?).map fun e=>(j,e.val))
  | [],[],i,_=>rfl
  | [],e :: es,i,h=>by cases h
  | a :: l,[],i,h=>by cases h
  | a :: l,e :: es,i,h=>by
    rw [List.map_cons,List.map_cons] at h
    obtain ⟨h1,h2⟩:=List.cons.inj h
    unfold Instr.findNow lfind
    rw [h1,hs]
    cases hc:eq x a with
    | true=>simp
    | false =>
      simp only [cond_false]
      rw [findNow_of hs x l es (i+1) h2]
      cases hf:lfind eq x l (i+1) with
      | none=>rfl
      | some j =>
        obtain ⟨h3,_⟩:=lfind_at hf
        simp only [Option.bind_some]
        rw [show j - i=(j - (i+1))+1 from by omega,List.getElem?_cons_succ]
theorem keyT_now {d:TypeDesc} (hd:P.underlying T=some d) (hk:∀ (e:Bool) (x:K) (w:World),(Instr.checkKey e 10000 T (ek x)).run P w = .ok () w) (hs:∀ x y,Instr.sameNow d (ek x) (ek y)=some (eq x y)) (hb:∀ x y,eq x y=true→Instr.sameBits 10000 (ek y) (ek x)=true) : KeyT P T ek eq:=
  ⟨hk,fun x l es h w=>by rw [MapKept.run_findKey hd (findNow_of hs x l es 0 h)]; rfl,hb⟩
theorem keyT_int {k:IntKind} (hd:P.underlying T=some (.int k)) : KeyT P T (fun n:Int => .int k n) (fun a b=>a == b):=
  keyT_now hd (fun e x w=>MapKept.run_checkKey hd (by simp [MapKept.IsKey]) e 9999) (fun x y=>by simp [Instr.sameNow]) (fun x y h=>by rw [beq_iff_eq] at h; subst h; simp [Instr.sameBits])
theorem enc_beq (x y:List UInt8) : ((⟨x.toArray⟩ : ByteArray) == ⟨y.toArray⟩)=(x == y):=by
  show (x.toArray == y.toArray)=(x == y)
  simp
theorem sameBits_str (x:List UInt8) : Instr.sameBits 10000 (encS x) (encS x)=true:=by
  show ((⟨x.toArray⟩ : ByteArray) == ⟨x.toArray⟩)=true
  rw [enc_beq]
  simp
theorem sameBits_enc (n:Nat) (x:List UInt8) : Instr.sameBits n (encS x) (encS x)=true:=by
  have h:((⟨x.toArray⟩ : ByteArray) == ⟨x.toArray⟩)=true:=by rw [enc_beq]; simp
  cases n <;> exact h
theorem keyT_str (hd:P.underlying T=some .string) : KeyT P T encS (fun a b=>a == b):=
  keyT_now hd (fun e x w=>MapKept.run_checkKey hd (by simp [MapKept.IsKey,encS]) e 9999) (fun x y=>congrArg some (enc_beq x y)) (fun x y h=>by rw [beq_iff_eq] at h; subst h; exact sameBits_str x)
theorem findAsking_of (heq:∀ x y,EqR P 10000 T (ek x) (ek y) (eq x y)) (x:K) : ∀ (l:List K) (es:List MapEntry) (i:Nat),es.map (·.key)=l.map ek→∀ w,
    (Instr.findAsking T (ek x) es i).run P w = .ok ((lfind eq x l i).bind fun j=>(es[j - i]?).map fun e=>(j,e.val)) w
  | [],[],i,_,w=>by simp [Instr.findAsking,lfind]
  | [],e :: es,i,h,_=>by cases h
  | a :: l,[],i,h,_=>by cases h
  | a :: l,e :: es,i,h,w=>by
    rw [List.map_cons,List.map_cons] at h
    obtain ⟨h1,h2⟩:=List.cons.inj h
    unfold Instr.findAsking lfind
    have hq:(Op.equal T (ek x) e.key).run P w = .ok (eq x a) w:=by rw [h1]; exact heq x a w
    simp only [Sem.run_bind,hq,Result.andThen_ok]
    cases hc:eq x a with
    | true=>simp
    | false =>
      simp only [cond_false]
      rw [if_neg (by decide),findAsking_of heq x l es (i+1) h2]
      cases hf:lfind eq x l (i+1) with
      | none=>rfl
      | some j =>
        obtain ⟨h3,_⟩:=lfind_at hf
        simp only [Option.bind_some]
        rw [show j - i=(j - (i+1))+1 from by omega,List.getElem?_cons_succ]
theorem keyT_asking {d:TypeDesc} (hd:P.underlying T=some d) (hn:∀ a b,Instr.sameNow d a b=none) (hk:∀ (e:Bool) (x:K) (w:World),(Instr.checkKey e 10000 T (ek x)).run P w = .ok () w)
    (heq:∀ x y,EqR P 10000 T (ek x) (ek y) (eq x y)) (hb:∀ x y,eq x y=true→Instr.sameBits 10000 (ek y) (ek x)=true) : KeyT P T ek eq:=
  ⟨hk,fun x l es h w=>by
    have h1:=findAsking_of heq x l es 0 h w
    unfold Instr.findKey
    simp only [Sem.run_bind,run_underlying hd,Result.andThen_ok]
    cases es with
    | nil =>
      simp only [Instr.findNow]
      rw [show (Instr.findAsking T (ek x) [] 0).run P w = .ok none w from by simp [Instr.findAsking]] at h1
      cases l with
      | nil=>rfl
      | cons a l=>cases h
    | cons e es =>
      simp only [Instr.findNow,hn]
      rw [h1]
      rfl,hb⟩
end keys
structure Mp {K V:Type} (ek:K→Value) (ev:V→Value) (i:Nat) (o:Tags) (w:World) (b:Nat) (kvs:List (K×V)) : Prop where
  tag:o b=i
  heap:∃ es clock,w.heap[b]?=some (.map es clock)∧es.toList.map (fun e=>(e.key,e.val))=kvs.map (fun p=>(ek p.1,ev p.2))
section mp
variable {K V:Type} {ek:K→Value} {ev:V→Value} {i b:Nat} {o o':Tags} {w w':World} {kvs:List (K×V)} {M:List Nat}
theorem Mp.lt (h:Mp ek ev i o w b kvs) : b < w.heap.size:=by
  obtain ⟨es,c,h1,_⟩:=h.heap
  exact (Array.getElem?_eq_some_iff.1 h1).1
theorem Mp.step (h:Mp ek ev i o w b kvs) (s:Step o w o' w' M) (hM:M.contains i=false) : Mp ek ev i o' w' b kvs:=by
  have hb:=h.lt
  obtain ⟨es,c,h1,h2⟩:=h.heap
  refine ⟨(s.own b hb).trans h.tag,es,c,(s.keep b hb (fun hm=>?_)).trans h1,h2⟩
  rw [h.tag,← List.contains_iff_mem,hM] at hm
  cases hm
theorem Mp.pub (h:Mp ek ev i o w b kvs) (j:Nat) (hj:Nat.beq i j=false) : Mp ek ev i (SX.pub o j) w b kvs:=⟨pub_other h.tag hj,h.heap⟩
theorem Mp.ren {k l:Nat} (h:Mp ek ev i o w b kvs) (hi:Nat.beq i k=false) (h0:Nat.beq 0 k=false) : Mp ek ev i (SX.ren o k l) w b kvs:=⟨ren_other h.tag hi,h.heap⟩
theorem Mp.renTo {j:Nat} (h:Mp ek ev i o w b kvs) : Mp ek ev j (SX.ren o i j) w b kvs:=⟨ren_same h.tag,h.heap⟩
theorem Mp.vw {V0 L:List Nat} {i':Nat} (h:Mp ek ev i o w b kvs) (hi:vwt V0 L i=i') : Mp ek ev i' (SX.vw V0 L o) w b kvs:=⟨by simp only [SX.vw,h.tag,hi],h.heap⟩
theorem mp_keys {es:List MapEntry} (h:es.map (fun e=>(e.key,e.val))=kvs.map (fun p=>(ek p.1,ev p.2))) : es.map (·.key)=(kvs.map (·.1)).map ek:=by
  have:=congrArg (List.map Prod.fst) h
  simpa [List.map_map,Function.comp_def] using this
theorem mp_val {es:List MapEntry} (h:es.map (fun e=>(e.key,e.val))=kvs.map (fun p=>(ek p.1,ev p.2))) (j:Nat) : (es[j]?).map (·.val)=(kvs[j]?).map (fun p=>ev p.2):=by
  have:=congrArg (fun l=>(l[j]?).map Prod.snd) h
  simpa [List.getElem?_map,Function.comp_def] using this
end mp
section ops
variable {P:Program} {n:Nat} {md:Md} {Kx:Exit→Env→World→Prop} {Kn:Env→World→Prop} {ρ:Env} {w:World} {o:Tags} {d:Nat} {t:TypeId} {p:String} {e:Array Edge} {g:Option (Nat×Bool)}
variable {K V:Type} {ek:K→Value} {ev:V→Value} {eq:K→K→Bool} {i b:Nat} {kvs:List (K×V)}
theorem OW.val0 {op:Op} {v:Value} {w':World}
    (hr:(execOp (SX.ev ρ) { dst:=none,op:=op,type:=t,pos:=p,after:=e,guard:=g }).run P w = .ok (.value v) w')
    (k:Kn ρ w') : OW P n md { dst:=none,op:=op,type:=t,pos:=p,after:=e,guard:=g } Kn Kx ρ w:=by
  refine ⟨fun a ha X hX=>?_⟩
  unfold Oper.wp
  rw [ha.eval,hr]
  exact hX _ _ ⟨_,ha,k⟩
theorem OW.makeMap (ek:K→Value) (ev:V→Value) {T:TypeId} (i:Nat) {o0:Tags} {w0:World} {TT:List Nat} (HF:Fm o0 w0 o w TT) (hd:Nat.blt d n=true)
    (k:∀ o' w' b,Step o w o' w' []→Mp ek ev i o' w' b ([] : List (K×V))→Kn (upd ρ d (.map (some b))) w') :
    OW P n md { dst:=some d,op:=.makeMap T none,type:=t,pos:=p,after:=e,guard:=g } Kn Kx ρ w:=by
  refine OW.val (v:=.map (some w.heap.size)) (w':=w.alloc (.map #[] 0)) hd ?_ (k (fun b=>bif Nat.beq b w.heap.size then i else o b) _ _ (step_alloc o w i _ _) ⟨by simp,#[],0,heap_alloc_new w _,rfl⟩)
  simp [execOp,run_makeMap]
theorem run_lookup_mp {T kT vT:TypeId} (hT:P.underlying T=some (.map kT vT)) (hk:KeyT P kT ek eq) (h:Mp ek ev i o w b kvs) (x:K) {z:V} (hz:(P.info? vT).map (·.zero)=some (some (ev z))) (c:Bool) :
    (Instr.lookup T (.map (some b)) (ek x) c).run P w = .ok (if c then .tuple #[ev ((mget eq kvs x).getD z),.bool (mget eq kvs x).isSome] else ev ((mget eq kvs x).getD z)) w:=by
  obtain ⟨es,cl,h1,h2⟩:=h.heap
  have hf:=hk.find x (kvs.map (·.1)) es.toList (mp_keys h2) w
  unfold Instr.lookup
  simp only [Sem.run_bind,run_underlying hT,Result.andThen_ok,MapKept.run_getObj_map h1,Sem.run_pure,hk.chk,hf]
  unfold mget
  cases hl:lfind eq x (kvs.map (·.1)) 0 with
  | none =>
    simp only [Option.bind_none,Sem.run_bind,run_zeroValue' hz,Result.andThen_ok,Sem.run_pure,Option.getD_none,Option.isSome_none]
  | some j =>
    obtain ⟨_,a,h3,_⟩:=lfind_at hl
    rw [Nat.sub_zero,List.getElem?_map] at h3
    obtain ⟨q,h4,rfl⟩:=Option.map_eq_some_iff.1 h3
    have h5:=mp_val h2 j
    rw [h4,Option.map_some] at h5
    obtain ⟨en,h6,h7⟩:=Option.map_eq_some_iff.1 h5
    simp only [Option.bind_some,h4,h6,Option.map_some,Sem.run_pure,Result.andThen_ok,Option.getD_some,Option.isSome_some,h7]
    rfl
theorem ex_lookup2 {T kT vT:TypeId} {m y:Operand} {x:K} {z:V} (hm:SX.ev ρ m = .map (some b)) (hy:SX.ev ρ y=ek x) (hT:P.underlying T=some (.map kT vT)) (hk:KeyT P kT ek eq) (h:Mp ek ev i o w b kvs) (hz:(P.info? vT).map (·.zero)=some (some (ev z))) :
    Ex P ρ (.lookup T m y true) t w (.tuple #[ev ((mget eq kvs x).getD z),.bool (mget eq kvs x).isSome]) w:=fun _ _ _ _=>by
  have:=run_lookup_mp hT hk h x hz true
  simp [execOp,hm,hy,this]
theorem ex_lookup1 {T kT vT:TypeId} {m y:Operand} {x:K} {z:V} (hm:SX.ev ρ m = .map (some b)) (hy:SX.ev ρ y=ek x) (hT:P.underlying T=some (.map kT vT)) (hk:KeyT P kT ek eq) (h:Mp ek ev i o w b kvs) (hz:(P.info? vT).map (·.zero)=some (some (ev z))) :
    Ex P ρ (.lookup T m y false) t w (ev ((mget eq kvs x).getD z)) w:=fun _ _ _ _=>by
  have:=run_lookup_mp hT hk h x hz false
  simp [execOp,hm,hy,this]
theorem mp_set (h:Mp ek ev i o w b kvs) {es2:Array MapEntry} {c2:Nat} {kvs2:List (K×V)} (h2:es2.toList.map (fun e=>(e.key,e.val))=kvs2.map (fun p=>(ek p.1,ev p.2))) :
    Step o w o (w.putObj b (.map es2 c2)) [i]∧Mp ek ev i o (w.putObj b (.map es2 c2)) b kvs2:=by
  obtain ⟨es,c,h1,_⟩:=h.heap
  obtain ⟨s,hO⟩:=step_put (ob':=.map es2 c2) (⟨h.tag,h1⟩ : Ob o w i b (.map es c))
  exact ⟨s,hO.tag,es2,c2,hO.heap,h2⟩
theorem modify_list (es:Array MapEntry) (j:Nat) (f:MapEntry→MapEntry) : (es.modify j f).toList=es.toList.modify j f:=by simp
theorem run_update_mp {T kT vT:TypeId} (hT:P.underlying T=some (.map kT vT)) (hk:KeyT P kT ek eq) (h:Mp ek ev i o w b kvs) (x:K) (v:V) :
    ∃ w',(Instr.mapUpdate T (.map (some b)) (ek x) (ev v)).run P w = .ok () w'∧Step o w o w' [i]∧Mp ek ev i o w' b (mput eq kvs x v):=by
  obtain ⟨es,cl,h1,h2⟩:=h.heap
  have hf:=hk.find x (kvs.map (·.1)) es.toList (mp_keys h2) w
  unfold Instr.mapUpdate mput
  simp only [Sem.run_bind,run_underlying hT,Result.andThen_ok,MapKept.run_getObj_map h1,hk.chk,hf]
  cases hl:lfind eq x (kvs.map (·.1)) 0 with
  | none =>
    simp only [Option.bind_none,MapKept.run_setObj_map _ h1]
    refine ⟨_,rfl,mp_set h ?_⟩
    simp [h2]
  | some j =>
    obtain ⟨_,a,h3,h3'⟩:=lfind_at hl
    rw [Nat.sub_zero,List.getElem?_map] at h3
    obtain ⟨q,h4,rfl⟩:=Option.map_eq_some_iff.1 h3
    have h5:=mp_val h2 j
    rw [h4,Option.map_some] at h5
    obtain ⟨en,h6,h7⟩:=Option.map_eq_some_iff.1 h5
    have h8:es[j]?=some en:=by rw [← h6]; simp
    have hkey:en.key=ek q.1:=by
      have h9:=congrArg (fun l=>(l[j]?).map Prod.fst) h2
      simp only [List.getElem?_map,h4,Option.map_some] at h9
      rw [h6] at h9
      exact Option.some.inj h9
    have hst:(Instr.keyThatStays en.key (ek x)).run P w = .ok (ek x) w:=by
      unfold Instr.keyThatStays
      rw [hkey,hk.stay x q.1 h3',if_pos rfl]
      rfl
    simp only [Option.bind_some,h6,Option.map_some,h8,Option.getD_some,Sem.run_bind,hst,Result.andThen_ok,MapKept.run_setObj_map _ h1]
    refine ⟨_,rfl,mp_set h ?_⟩
    rw [modify_list]
    apply List.ext_getElem?
    intro m
    have h9:=congrArg (fun l=>l[m]?) h2
    simp only [List.getElem?_map] at h9
    rw [List.getElem?_map,List.getElem?_modify,List.getElem?_map,List.getElem?_set]
    by_cases hm:j=m
    · subst hm
      have hlt:j < kvs.length:=(List.getElem?_eq_some_iff.1 h4).1
      rw [if_pos rfl,if_pos hlt,h6]
      simp
    · rw [if_neg hm,← h9]
      cases es.toList[m]? <;> simp [hm]
theorem OW.mapUpdate {T kT vT:TypeId} {m x y:Operand} {kx:K} {vx:V} (hm:SX.ev ρ m = .map (some b)) (hx:SX.ev ρ x=ek kx) (hy:SX.ev ρ y=ev vx) (hT:P.underlying T=some (.map kT vT)) (hk:KeyT P kT ek eq) (h:Mp ek ev i o w b kvs)
    (k:∀ w',Step o w o w' [i]→Mp ek ev i o w' b (mput eq kvs kx vx)→Kn ρ w') :
    OW P n md { dst:=none,op:=.mapUpdate T m x y,type:=t,pos:=p,after:=e,guard:=g } Kn Kx ρ w:=by
  obtain ⟨w',hr,s,h'⟩:=run_update_mp hT hk h kx vx
  refine OW.unit (w':=w') ?_ (k w' s h')
  simp [execOp,hm,hx,hy,hr]
theorem run_delete_mp {T kT vT ty:TypeId} (hT:P.underlying T=some (.map kT vT)) (hk:KeyT P kT ek eq) (h:Mp ek ev i o w b kvs) (x:K) :
    ∃ w',(Builtin.delete_ #[T,kT] ty #[.map (some b),ek x]).run P w = .ok (.tuple #[]) w'∧Step o w o w' [i]∧Mp ek ev i o w' b (mdel eq kvs x):=by
  obtain ⟨es,cl,h1,h2⟩:=h.heap
  have hf:=hk.find x (kvs.map (·.1)) es.toList (mp_keys h2) w
  unfold Builtin.delete_ mdel
  simp only [List.getElem?_toArray,List.getElem?_cons_zero,List.getElem?_cons_succ,Sem.run_bind,run_underlying hT,Result.andThen_ok,MapKept.run_getObj_map h1,hk.chk,hf]
  cases hl:lfind eq x (kvs.map (·.1)) 0 with
  | none =>
    simp only [Option.bind_none,Sem.run_bind,MapKept.run_setObj_map _ h1,Result.andThen_ok,Sem.run_pure]
    exact ⟨_,rfl,mp_set h h2⟩
  | some j =>
    obtain ⟨_,a,h3,h3'⟩:=lfind_at hl
    rw [Nat.sub_zero,List.getElem?_map] at h3
    obtain ⟨q,h4,rfl⟩:=Option.map_eq_some_iff.1 h3
    have h5:=mp_val h2 j
    rw [h4,Option.map_some] at h5
    obtain ⟨en,h6,h7⟩:=Option.map_eq_some_iff.1 h5
    simp only [Option.bind_some,h6,Option.map_some,Sem.run_bind,MapKept.run_setObj_map _ h1,Result.andThen_ok,Sem.run_pure]
    refine ⟨_,rfl,mp_set h ?_⟩
    have he:(es.eraseIdxIfInBounds j).toList=es.toList.eraseIdx j:=by
      unfold Array.eraseIdxIfInBounds
      split
      · simp
      · rename_i hj
        rw [List.eraseIdx_of_length_le (by simpa using hj)]
    rw [he,ChangeMaps.map_eraseIdx,ChangeMaps.map_eraseIdx,h2]
theorem OW.delete {T kT vT ty:TypeId} {m x:Operand} {kx:K} (hm:SX.ev ρ m = .map (some b)) (hx:SX.ev ρ x=ek kx) (hT:P.underlying T=some (.map kT vT)) (hk:KeyT P kT ek eq) (h:Mp ek ev i o w b kvs)
    (k:∀ w',Step o w o w' [i]→Mp ek ev i o w' b (mdel eq kvs kx)→Kn ρ w') :
    OW P n md { dst:=none,op:=.call { callee:=.builtin .delete,args:=#[m,x],argTypes:=#[T,kT] },type:=ty,pos:=p,after:=e,guard:=g } Kn Kx ρ w:=by
  obtain ⟨w',hr,s,h'⟩:=run_delete_mp (ty:=ty) hT hk h kx
  refine OW.val0 (v:=.tuple #[]) (w':=w') ?_ (k w' s h')
  simp [execOp,resolve,invoke,builtin,hm,hx,hr]
theorem bin_eql_mapS {T kT vT:TypeId} (hT:P.underlying T=some (.map kT vT)) {r:Nat}:Bin P .eql T (.map (some r)) (.map none) (.bool false):=fun x y w=>by
  have:=run_eql_map_nil w T kT vT (some r) hT
  simp only [binOp,eqGuard] at this ⊢
  simpa using this
theorem bin_neq_mapS {T kT vT:TypeId} (hT:P.underlying T=some (.map kT vT)) {r:Nat}:Bin P .neq T (.map (some r)) (.map none) (.bool true):=fun x y w=>by
  have:=run_neq_map_nil w T kT vT (some r) hT
  simp only [binOp,eqGuard] at this ⊢
  simpa using this
theorem bin_eql_mapN {T kT vT:TypeId} (hT:P.underlying T=some (.map kT vT)) : Bin P .eql T (.map none) (.map none) (.bool true):=fun x y w=>by
  have:=run_eql_map_nil w T kT vT none hT
  simp only [binOp,eqGuard] at this ⊢
  simpa using this
theorem bin_neq_mapN {T kT vT:TypeId} (hT:P.underlying T=some (.map kT vT)) : Bin P .neq T (.map none) (.map none) (.bool false):=fun x y w=>by
  have:=run_neq_map_nil w T kT vT none hT
  simp only [binOp,eqGuard] at this ⊢
  simpa using this
end ops
end Go.Proofs.YtpmkkhkphddfeaaGreatDoor.SX
set_option linter.unusedVariables false
set_option linter.unusedSimpArgs false
namespace Go.Proofs.YtpmkkhkphddfeaaGreatDoor.SX
open Go Go.RowKit
def pc (v:Value) : List PanicEntry:=[{ v,recovered:=false }]
section call
variable {P:Program} {n:Nat} {md:Md} {K:Exit→Env→World→Prop} {Kn:Env→World→Prop} {ρ:Env} {w:World} {d:Nat} {t:TypeId} {p:String} {e:Array Edge} {g:Option (Nat×Bool)}
theorem OW.callEnterP {d:Nat} {op:Op} {f:FuncId} {args:Array Value} {R:Ending→World→Prop} (hd:Nat.blt d n=true)
    (hr:(execOp (ev ρ) { dst:=some d,op:=op,type:=t,pos:=p,after:=e,guard:=g }).run P w = .ok (.enter f args) w)
    (hc:Calls P f args w R)
    (k:∀ e' w',R e' w'→(∃ v,e' = .returned v∧Kn (upd ρ d v) w')∨∃ c,e' = .panicked c∧K (.panic c) (ρ.gone md) w') :
    OW P n md { dst:=some d,op:=op,type:=t,pos:=p,after:=e,guard:=g } Kn K ρ w:=by
  refine ⟨fun a ha X hX=>?_⟩
  unfold Oper.wp
  rw [ha.eval,hr]
  refine Calls.mono hc fun e' w' hR=>?_
  rcases k e' w' hR with ⟨v,rfl,hk⟩|⟨c,rfl,hk⟩
  · exact hX _ _ ⟨_,ha.put hd v,hk⟩
  · exact ⟨_,atP_gone ha,hk⟩
theorem OW.callEnterP0 {op:Op} {f:FuncId} {args:Array Value} {R:Ending→World→Prop}
    (hr:(execOp (ev ρ) { dst:=none,op:=op,type:=t,pos:=p,after:=e,guard:=g }).run P w = .ok (.enter f args) w)
    (hc:Calls P f args w R)
    (k:∀ e' w',R e' w'→(∃ v,e' = .returned v∧Kn ρ w')∨∃ c,e' = .panicked c∧K (.panic c) (ρ.gone md) w') :
    OW P n md { dst:=none,op:=op,type:=t,pos:=p,after:=e,guard:=g } Kn K ρ w:=by
  refine ⟨fun a ha X hX=>?_⟩
  unfold Oper.wp
  rw [ha.eval,hr]
  refine Calls.mono hc fun e' w' hR=>?_
  rcases k e' w' hR with ⟨v,rfl,hk⟩|⟨c,rfl,hk⟩
  · exact hX _ _ ⟨_,ha,hk⟩
  · exact ⟨_,atP_gone ha,hk⟩
theorem run_callF {dst:Option Tmp} {f:FuncId} {fn:Func} {x:Operand} {xs:List Operand} {ts:Array TypeId} {bs cs:List Value} (hx:ev ρ x = .func (.func f) bs.toArray cs.toArray) (avs:List Value) (hf:P.funcs[f]?=some fn) (hn:(fn.name == "runtime.NumGoroutine")=false) (hb:fn.body.isNone=false) (ha:xs.map (ev ρ)=avs) :
    (execOp (ev ρ) { dst:=dst,op:=.call { callee:=.value x,args:=xs.toArray,argTypes:=ts },type:=t,pos:=p,after:=e,guard:=g }).run P w = .ok (.enter f (bs++avs++cs).toArray) w:=by
  have:=run_callFunc (P:=P) (w:=w) (args:=(bs++avs++cs).toArray) hf hn hb
  simp [execOp,resolve,Deferred.ofValue,hx,invoke,ha] at this ⊢
  exact this
theorem OW.callF {f:FuncId} {fn:Func} {x:Operand} {xs:List Operand} {ts:Array TypeId} {R:Ending→World→Prop} (bs cs:List Value) (hx:ev ρ x = .func (.func f) bs.toArray cs.toArray) (avs:List Value) (hd:Nat.blt d n=true) (hf:P.funcs[f]?=some fn) (hn:(fn.name == "runtime.NumGoroutine")=false) (hb:fn.body.isNone=false) (ha:xs.map (ev ρ)=avs)
    (hc:Calls P f (bs++avs++cs).toArray w R) (k:∀ e' w',R e' w'→∃ v,e' = .returned v∧Kn (upd ρ d v) w') :
    OW P n md { dst:=some d,op:=.call { callee:=.value x,args:=xs.toArray,argTypes:=ts },type:=t,pos:=p,after:=e,guard:=g } Kn K ρ w:=
  OW.callEnter hd (run_callF hx avs hf hn hb ha) hc k
theorem OW.callF0 {f:FuncId} {fn:Func} {x:Operand} {xs:List Operand} {ts:Array TypeId} {R:Ending→World→Prop} (bs cs:List Value) (hx:ev ρ x = .func (.func f) bs.toArray cs.toArray) (avs:List Value) (hf:P.funcs[f]?=some fn) (hn:(fn.name == "runtime.NumGoroutine")=false) (hb:fn.body.isNone=false) (ha:xs.map (ev ρ)=avs)
    (hc:Calls P f (bs++avs++cs).toArray w R) (k:∀ e' w',R e' w'→∃ v,e' = .returned v∧Kn ρ w') :
    OW P n md { dst:=none,op:=.call { callee:=.value x,args:=xs.toArray,argTypes:=ts },type:=t,pos:=p,after:=e,guard:=g } Kn K ρ w:=
  OW.callEnter0 (run_callF hx avs hf hn hb ha) hc k
theorem OW.callFP {f:FuncId} {fn:Func} {x:Operand} {xs:List Operand} {ts:Array TypeId} {R:Ending→World→Prop} (bs cs:List Value) (hx:ev ρ x = .func (.func f) bs.toArray cs.toArray) (avs:List Value) (hd:Nat.blt d n=true) (hf:P.funcs[f]?=some fn) (hn:(fn.name == "runtime.NumGoroutine")=false) (hb:fn.body.isNone=false) (ha:xs.map (ev ρ)=avs)
    (hc:Calls P f (bs++avs++cs).toArray w R) (k:∀ e' w',R e' w'→(∃ v,e' = .returned v∧Kn (upd ρ d v) w')∨∃ c,e' = .panicked c∧K (.panic c) (ρ.gone md) w') :
    OW P n md { dst:=some d,op:=.call { callee:=.value x,args:=xs.toArray,argTypes:=ts },type:=t,pos:=p,after:=e,guard:=g } Kn K ρ w:=
  OW.callEnterP hd (run_callF hx avs hf hn hb ha) hc k
theorem OW.callFP0 {f:FuncId} {fn:Func} {x:Operand} {xs:List Operand} {ts:Array TypeId} {R:Ending→World→Prop} (bs cs:List Value) (hx:ev ρ x = .func (.func f) bs.toArray cs.toArray) (avs:List Value) (hf:P.funcs[f]?=some fn) (hn:(fn.name == "runtime.NumGoroutine")=false) (hb:fn.body.isNone=false) (ha:xs.map (ev ρ)=avs)
    (hc:Calls P f (bs++avs++cs).toArray w R) (k:∀ e' w',R e' w'→(∃ v,e' = .returned v∧Kn ρ w')∨∃ c,e' = .panicked c∧K (.panic c) (ρ.gone md) w') :
    OW P n md { dst:=none,op:=.call { callee:=.value x,args:=xs.toArray,argTypes:=ts },type:=t,pos:=p,after:=e,guard:=g } Kn K ρ w:=
  OW.callEnterP0 (run_callF hx avs hf hn hb ha) hc k
theorem OW.panic {x:Operand} {dst:Option Tmp} {T:TypeId} {v:Value} (hx:ev ρ x = .iface T v) (k:K (.panic (pc (.iface T v))) (ρ.gone md) w) :
    OW P n md { dst:=dst,op:=.panic x,type:=t,pos:=p,after:=e,guard:=g } Kn K ρ w:=by
  refine ⟨fun a ha X hX=>?_⟩
  unfold Oper.wp
  rw [ha.eval]
  have:(execOp (ev ρ) { dst:=dst,op:=.panic x,type:=t,pos:=p,after:=e,guard:=g }).run P w = .halt (.panic (.iface T v)) w:=by
    simp [execOp,hx,Instr.panic,goPanic,Sem.run]
  rw [this]
  exact ⟨_,atP_gone ha,k⟩
theorem ex_makeInterface {T:TypeId} {x:Operand} {v:Value} {ds:TypeDesc} (hx:ev ρ x=v) (hT:P.underlying T=some ds) (hi:(match ds with | .interface _=>true | _=>false)=false) : Ex P ρ (.makeInterface T x) t w (.iface T v) w:=fun _ _ _ _=>by
  simp only [execOp,hx,Instr.makeInterface]
  cases ds <;> simp_all [run_underlying hT]
theorem ex_makeFuncB {fn:Fn} {first captured:Array Operand} (bs vs:List Value) (h:first.toList.map (ev ρ)=bs) (h':captured.toList.map (ev ρ)=vs) : Ex P ρ (.makeFunc fn first captured) t w (.func fn bs.toArray vs.toArray) w:=by
  have e1:captured.map (ev ρ)=vs.toArray:=by rw [← h']; apply Array.ext'; simp
  have e2:first.map (ev ρ)=bs.toArray:=by rw [← h]; apply Array.ext'; simp
  have:=ex_makeFunc (P:=P) (ρ:=ρ) (w:=w) (t:=t) (fn:=fn) (first:=first) (captured:=captured)
  rw [e1,e2] at this
  exact this
theorem WA.both {ops:Array Oper} {L:Nat} {S:World→Prop} {m:Nat} {listed:Array Bool} (i j:Nat) {o1 o2:Oper} (hr:Region.ready .any ops listed=[i,j]) (hi:ops[i]?=some o1) (hg:o1.guard=none) (hj:ops[j]?=some o2) (hg2:o2.guard=none)
    (h1:OW P n md o1 (fun ρ' w'=>S w'∧WA P n md ops L S m (listed.setIfInBounds i true) K ρ' w') K ρ w)
    (h2:OW P n md o2 (fun ρ' w'=>S w'∧WA P n md ops L S m (listed.setIfInBounds j true) K ρ' w') K ρ w) (hk:md.kp=false:=by rfl) : WA P n md ops L S (m+1) listed K ρ w:=by
  refine ⟨fun a ha=>wpAnyL_all hr (by simp) fun q hq=>?_,hk⟩
  rcases (by simpa using hq:q=i∨q=j) with rfl | rfl
  · unfold wpOp
    simp only [hi]
    rw [if_pos (by simp [Region.wanted,hg])]
    exact .inl (h1.out a ha _ (fun a' w' ⟨ρ',hf,hS,hk⟩=>⟨.inr hS,hk.out _ hf⟩))
  · unfold wpOp
    simp only [hj]
    rw [if_pos (by simp [Region.wanted,hg2])]
    exact .inl (h2.out a ha _ (fun a' w' ⟨ρ',hf,hS,hk⟩=>⟨.inr hS,hk.out _ hf⟩))
end call
section borrow
variable {α:Type} {r:Rep α} {A:Option Addr} {xs:List α} {o o':Tags} {w w':World} {M V L:List Nat} {t:Nat}
theorem Row.stepB (h:Row r (fun b=>o b=t) (fun b=>o b=0) w A xs) (s:Step o w o' w' M) (ht:M.contains t=false) (hM:M.contains 0=false) : Row r (fun b=>o' b=t) (fun b=>o' b=0) w' A xs:=by
  have hk:∀ b,o b=0→b < w.heap.size→w'.heap[b]?=w.heap[b]?:=fun b hb hlt=>s.keep b hlt (fun hm=>by rw [hb,← List.contains_iff_mem,hM] at hm; cases hm)
  have hk2:∀ b,o b=t→b < w.heap.size→w'.heap[b]?=w.heap[b]?:=fun b hb hlt=>s.keep b hlt (fun hm=>by rw [hb,← List.contains_iff_mem,ht] at hm; cases hm)
  exact (h.move hk2 hk).mono (fun b hb=>by rw [s.own b hb.2]; exact hb.1) (fun b hb=>by rw [s.own b hb.2]; exact hb.1)
theorem Row.pubB (h:Row r (fun b=>o b=t) (fun b=>o b=0) w A xs) (i:Nat) (hi:Nat.beq t i=false) : Row r (fun b=>SX.pub o i b=t) (fun b=>SX.pub o i b=0) w A xs:=
  h.mono (fun b hb=>pub_other hb hi) (fun b hb=>pub_zero o i b hb)
end borrow
section make
variable {P:Program} {n:Nat} {md:Md} {K:Exit→Env→World→Prop} {Kn:Env→World→Prop} {ρ:Env} {w:World} {o:Tags} {d:Nat} {t:TypeId} {p:String} {e:Array Edge} {g:Option (Nat×Bool)}
end make
section part
variable {P:Program} {n:Nat} {md:Md} {K:Exit→Env→World→Prop} {Kn:Env→World→Prop} {ρ:Env} {w:World} {o:Tags} {d:Nat} {t:TypeId} {p:String} {e:Array Edge} {g:Option (Nat×Bool)}
theorem splice_part {cur c vs:List Value} {J off:Nat} (hc:(cur.drop J).take c.length=c) (hl:J+c.length≤cur.length) (ho:off+vs.length≤c.length) : splice cur (J+off) vs=splice cur J (splice c off vs):=by
  have e1:cur=cur.take J++(c++cur.drop (J+c.length)):=by
    rw [← List.drop_drop]
    conv=>lhs; rw [← List.take_append_drop J cur,← List.take_append_drop c.length (cur.drop J),hc]
  have hJ:(cur.take J).length=J:=by rw [List.length_take]; omega
  generalize cur.take J=a at e1 hJ
  generalize cur.drop (J+c.length)=b at e1
  subst e1
  subst hJ
  have e2:(splice c off vs).length=c.length:=splice_len ho
  unfold splice at e2 ⊢
  rw [e2,Nat.add_assoc,List.take_length_add_append,List.drop_length_add_append,List.take_append_of_le_length (by omega),List.drop_append_of_le_length (by omega),List.drop_length_add_append,List.drop_left,List.take_left]
  simp [List.append_assoc]
theorem OW.storeElemPart {α:Type} {r:Rep α} {E i c:Nat} {T:TypeId} {x y:Operand} {v:Value} {xs:List α} {ad:Addr} {j:Int} {y':α} {off:Nat} {c0 vs:List Value} (hO:Own r E i o w v xs) (hv:v = .slice (some ad) xs.length c)
    (hx:ev ρ x = .pointer (some ((ad.add (j.toNat * r.sz)).add off))) (h0:0≤j) (h1:j < xs.length) (hy:(ev ρ y).cells=vs.toArray) (hs:(P.info? T).map (·.size)=some vs.length)
    (hc:∀ m u,c0[m]?=some u→w.cell? ((ad.add (j.toNat * r.sz)).add m)=some u) (hcl:c0.length=r.sz) (ho:off+vs.length≤c0.length) (hv1:∀ u ∈ vs,u.oneCell'=true) (hR:r.R (fun b=>o b=0) w y' (splice c0 off vs)) (hi:i≠0)
    (k:∀ w',Step o w o w' [i]→Own r E i o w' v (xs.set j.toNat y')→Kn ρ w') : OW P n md { dst:=none,op:=.store T x y,type:=t,pos:=p,after:=e,guard:=g } Kn K ρ w:=by
  obtain ⟨cells,hown,ht,hM⟩:=hO
  rcases hown.2 with ⟨rfl,h00⟩|⟨gb,cap,cur,rfl,hbg,hg,hnc,hcm,hcs,htake⟩
  · cases hv
  injection hv with e1 e2 e3
  injection e1 with e1
  subst e1
  have hlen:=hM.len
  have hvl:=r.len hR
  have hjn:j.toNat < xs.length:=by omega
  have hmul:(j.toNat+1) * r.sz≤xs.length * r.sz:=Nat.mul_le_mul_right _ hjn
  rw [Nat.add_mul,Nat.one_mul] at hmul
  have hfit:j.toNat * r.sz+(splice c0 off vs).length≤cells.length:=by
    rw [hlen,hvl]; exact hmul
  have hcur:cells.length≤cur.size:=by rw [← htake]; simp [List.length_take]; omega
  have hadd:∀ q,((⟨gb,0,none⟩ : Addr).add (j.toNat * r.sz)).add q=⟨gb,j.toNat * r.sz+q,none⟩:=fun q=>by rw [add_add,add_plain']; simp
  have hseg:(cur.toList.drop (j.toNat * r.sz)).take c0.length=c0:=by
    apply List.ext_getElem?
    intro m
    by_cases hm:m < c0.length
    · have h3:=hc m c0[m] (List.getElem?_eq_getElem hm)
      rw [hadd] at h3
      rw [List.getElem?_take_of_lt hm,List.getElem?_drop,List.getElem?_eq_getElem hm]
      have h4:w.cell? ⟨gb,j.toNat * r.sz+m,none⟩=cur[j.toNat * r.sz+m]?:=by simp [World.cell?,hg]
      rw [h4] at h3
      rw [← h3]
      simp
    · rw [List.getElem?_eq_none (by rw [List.length_take]; omega),List.getElem?_eq_none (by omega)]
  have hcz:cur.toList.length=cur.size:=by simp
  have hJl:j.toNat * r.sz+c0.length≤cur.toList.length:=by rw [hcl]; omega
  have hsp:=splice_part (vs:=vs) (off:=off) hseg hJl ho
  have hr:=run_storeCells' (P:=P) gb (j.toNat * r.sz+off) E vs 0 w cur.toList (by simpa using hg) (by simp; omega) hv1
  have hlt:=(Array.getElem?_eq_some_iff.1 hg).1
  rw [hadd] at hx
  rw [Nat.add_zero,hsp] at hr
  have hst:Step o w o { w with heap:=w.heap.setIfInBounds gb (.cells (splice cur.toList (j.toNat * r.sz) (splice c0 off vs)).toArray E (0,0)) } [i]:=step_set (ht gb rfl)
  refine OW.unit (w':={ w with heap:=w.heap.setIfInBounds gb (.cells (splice cur.toList (j.toNat * r.sz) (splice c0 off vs)).toArray E (0,0)) }) ?_ (k _ hst ?_)
  · simp [execOp,hx,Instr.storeAt,Instr.sureAddr,storeVar,hy,run_sizeOf' hs,hr]
  · refine ⟨splice cells (j.toNat * r.sz) (splice c0 off vs),⟨?_,.inr ⟨gb,cap,(splice cur.toList (j.toNat * r.sz) (splice c0 off vs)).toArray,?_,Nat.zero_le _,by simp [hlt],?_,hcm,?_,?_⟩⟩,ht,?_⟩
    · rw [splice_len hfit,List.length_set,hlen]
    · rw [List.length_set]
    · rw [List.length_set]; exact hnc
    · rw [List.size_toArray,splice_len (by rw [hvl]; omega),hcz]; exact hcs
    · simp only [List.length_set]
      exact take_splice hlen.symm htake hfit
    · refine ((hM.move (w':={ w with heap:=w.heap.setIfInBounds gb (.cells (splice cur.toList (j.toNat * r.sz) (splice c0 off vs)).toArray E (0,0)) }) ?_).mono (fun b hb=>hb.1)).set ?_ _ hjn
      · exact fun b hb hlt'=>hst.keep b hlt' (by intro hm; simp at hm; exact hi (hm.symm.trans hb))
      · exact Rep.step (V:=fun q=>q=0) hst (by rintro q rfl hm; simp at hm; exact hi hm.symm) hR
end part
end Go.Proofs.YtpmkkhkphddfeaaGreatDoor.SX
set_option linter.unusedVariables false
set_option linter.unusedSimpArgs false
namespace Go.Proofs.YtpmkkhkphddfeaaGreatDoor.SX
open Go Go.RowKit
def DCalls (P:Program) (f:FuncId) (args:Array Value) (u:FrameMode) (w:World) (R:Ending→FrameMode→World→Prop) : Prop:=CallsDIn Fence.wide 0 P f args u w R
def recd (v:Value) : FrameMode:=.panicking [{ v,recovered:=true }]
def Lv (P:Program) (fn:Func) (R:Ending→World→Prop) (ρ:Env) : List Deferred→FrameMode→World→Prop
  | [],.returning,w => ∃ vs,Vals P ρ w fn.results.toList vs∧R (.returned (one vs)) w
  | [],.panicking c,w=>R (.panicked c) w
  | [],.run,_=>False
  | d :: ds,u,w=>u≠.run∧∃ f cap args,d.target = .fn (.func f) cap∧(invoke d.target d.args).run P w = .ok (.enter f args) w ∧
      DCalls P f args u w fun
        | .returned _,u',w'=>Lv P fn R ρ ds (settle u') w'
        | .panicked c,u',w'=>Lv P fn R ρ ds (raised u' c) w'
        | .outgrown,_,_=>False
def TopD (P:Program) (fn:Func) (R:Ending→World→Prop) : Exit→Env→World→Prop
  | .normal,ρ,w | .ret,ρ,w=>Lv P fn R ρ ρ.ds .returning w
  | .panic c,ρ,w=>Lv P fn R ρ ρ.ds (.panicking c) w
  | _,_,_=>False
section
variable {P:Program}
theorem lv_leaves {fn:Func} {R:Ending→World→Prop} {ρ:Env} {n:Nat} {md:Md} {a:Act} (ha:Fr n md ρ a) : ∀ (ds:List Deferred) (u:FrameMode) (w:World),Lv P fn R ρ ds u w→LeavesIn Fence.wide 0 P fn a.tmps R ds u w
  | [],.returning,w,h=>by
    obtain ⟨vs,h1,h2⟩:=h
    exact ⟨_,results_run ha h1,h2⟩
  | [],.panicking c,w,h=>h
  | [],.run,_,h=>h
  | d :: ds,u,w,h=>by
    obtain ⟨hu,f,cap,args,h1,h2,h3⟩:=h
    refine ⟨hu,fun h_=>(by cases h_),.func f,cap,f,args,h1,h2,fun _ _=>trivial,CallsDIn.mono h3 fun e u' w' hR=>?_⟩
    cases e with
    | returned v=>exact lv_leaves ha ds _ _ hR
    | panicked c=>exact lv_leaves ha ds _ _ hR
    | outgrown=>exact hR.elim
theorem callsD {f:FuncId} {fn:Func} {c:Code} {w:World} {R:Ending→World→Prop} (avs:List Value) (hf:P.funcs[f]?=some fn) (hb:fn.body=some c) (hn:Nat.ble avs.length fn.ntmps=true)
    (h:WC P fn.ntmps .recov c (TopD P fn R) (envE avs) w) : Calls P f avs.toArray w R:=by
  refine (callsIn_wide (n:=0)).1 (callsIn_of_wp_defers hf hb trivial (wpIn_mono (h.out _ (fr_start hn)) (fun e a w q=>?_)) rfl)
  cases e with
  | normal=>obtain ⟨ρ,ha,hq⟩:=q; show LeavesIn _ _ _ _ _ _ a.defers _ _; rw [ha.defs]; exact lv_leaves ha _ _ _ hq
  | ret=>obtain ⟨ρ,ha,hq⟩:=q; show LeavesIn _ _ _ _ _ _ a.defers _ _; rw [ha.defs]; exact lv_leaves ha _ _ _ hq
  | panic c =>
    obtain ⟨ρ,ha,hq⟩:=q
    rcases ha with ⟨_,ha⟩|⟨h,_⟩
    · show LeavesIn _ _ _ _ _ _ a.defers _ _
      rw [ha.defs]
      exact lv_leaves ha _ _ _ hq
    · cases h
  | exit i=>obtain ⟨ρ,ha,hk⟩:=q; exact hk.elim
  | goto l=>obtain ⟨ρ,ha,hk⟩:=q; exact hk.elim
  | outgrown=>exact q.elim
theorem lv_one {fn:Func} {R:Ending→World→Prop} {ρ:Env} {f:FuncId} {fd:Func} {xs cs:List Value} {ds:List Deferred} {u:FrameMode} {w:World} (hu:u≠.run) (hf:P.funcs[f]?=some fd) (hn:(fd.name == "runtime.NumGoroutine")=false) (hb:fd.body.isNone=false)
    (h:DCalls P f (xs++cs).toArray u w fun
        | .returned _,u',w'=>Lv P fn R ρ ds (settle u') w'
        | .panicked c,u',w'=>Lv P fn R ρ ds (raised u' c) w'
        | .outgrown,_,_=>False) : Lv P fn R ρ ({ target:=.fn (.func f) cs.toArray,args:=xs.toArray } :: ds) u w:=by
  refine ⟨hu,f,_,(xs++cs).toArray,rfl,?_,h⟩
  have:=run_callFunc (P:=P) (w:=w) (args:=(xs++cs).toArray) hf hn hb
  simp [invoke] at this ⊢
  exact this
def TopN (P:Program) (fn:Func) (R:Ending→World→Prop) : Exit→Env→World→Prop
  | .normal,ρ,w | .ret,ρ,w => ∃ vs,Vals P ρ w fn.results.toList vs∧R (.returned (one vs)) w
  | _,_,_=>False
theorem dcalls_rec {f:FuncId} {fn:Func} {rest:Code} {id:Nat} {d:Nat} {t:TypeId} {p:String} {e:Array Edge} {u u':FrameMode} {rv:Value} {w:World} {R:Ending→World→Prop} (avs:List Value) (hf:P.funcs[f]?=some fn)
    (hb:fn.body=some (.seq (.region id #[{ dst:=some d,op:=.call { callee:=.builtin .recover,args:=#[],argTypes:=#[] },type:=t,pos:=p,after:=e,guard:=none }] false) rest)) (hn:Nat.ble avs.length fn.ntmps=true) (hd:Nat.blt d fn.ntmps=true)
    (hu:(u = .returning∧u' = .returning∧rv = .nilIface)∨(u = .panicking (pc rv)∧u'=recd rv))
    (h:WC P fn.ntmps .plain rest (TopN P fn R) (upd (envE avs) d rv) w) : DCalls P f avs.toArray u w fun e u2 w'=>u2=u'∧R e w':=by
  refine callsDIn_of_wpSIn (F:=Fence.wide) hf hb trivial fun c₀ cs hc=>?_
  refine wpSIn_seq (wpSIn_region ?_)
  have hr:∀ a:Act,(execOp a.eval { dst:=some d,op:=.call { callee:=.builtin .recover,args:=#[],argTypes:=#[] },type:=t,pos:=p,after:=e,guard:=none }).run P w = .ok .recover w:=fun a=>by
    simp [execOp,resolve,invoke,builtin]
  have fin:∀ (m:FrameMode) (a:Act),Fr fn.ntmps .plain (upd (envE avs) d rv) a→m=u'→Exit.thenS (rest.wpSIn Fence.wide 0 P (bodyPostS P fn c₀ cs fun e u2 w'=>u2=u'∧R e w')) (bodyPostS P fn c₀ cs fun e u2 w'=>u2=u'∧R e w') .normal a ({ c₀ with mode:=m } :: cs) w:=by
    rintro m a ha rfl
    refine wpSIn_of_wpIn rfl (wpIn_mono (h.out a ha) fun e a' w' q=>?_)
    cases e with
    | normal=>obtain ⟨ρ,hf',vs,hv,hR⟩:=q; exact ⟨hf'.defs.trans (hf'.dd rfl),_,rfl,_,results_run hf' hv,rfl,hR⟩
    | ret=>obtain ⟨ρ,hf',vs,hv,hR⟩:=q; exact ⟨hf'.defs.trans (hf'.dd rfl),_,rfl,_,results_run hf' hv,rfl,hR⟩
    | exit i=>obtain ⟨ρ,_,hk⟩:=q; exact hk.elim
    | goto l=>obtain ⟨ρ,_,hk⟩:=q; exact hk.elim
    | panic c=>obtain ⟨ρ,_,hk⟩:=q; exact hk.elim
    | outgrown=>exact q.elim
  have hfr:=(fr_start (avs:=avs) (md:=.plain) hn).put hd rv
  show wpOpsSIn Fence.wide 0 P _ _ [0] _ _ _
  unfold wpOpsSIn
  simp only [List.getElem?_toArray,List.getElem?_cons_zero]
  refine ⟨fun _ _=>trivial,?_⟩
  rw [if_pos (by simp [Region.wanted]),hr]
  rcases hu with ⟨rfl,rfl,rfl⟩|⟨hu1,rfl⟩
  · have hn:recoverD (c₀ :: cs)=none:=by simp [recoverD,hc]
    simp only [hn]
    unfold wpOpsSIn
    have hm:({ c₀ with mode:=FrameMode.returning }:Frame)=c₀:=by rw [← hc]
    have:=fin .returning _ hfr rfl
    rw [hm] at this
    exact this
  · have hn:recoverD (c₀ :: cs)=some (rv,{ c₀ with mode:=recd rv } :: cs):=by simp [recoverD,hc,hu1,pc,recd]
    simp only [hn]
    unfold wpOpsSIn
    exact fin (recd rv) _ hfr rfl
theorem DCalls.mono {f:FuncId} {args:Array Value} {u:FrameMode} {w:World} {R R':Ending→FrameMode→World→Prop} (h:DCalls P f args u w R) (hr:∀ e u' w',R e u' w'→R' e u' w') : DCalls P f args u w R':=CallsDIn.mono h hr
theorem Lv.done {fn:Func} {R:Ending→World→Prop} {ρ:Env} {w:World} (h:∃ vs,Vals P ρ w fn.results.toList vs∧R (.returned (one vs)) w) : Lv P fn R ρ [] .returning w:=h
theorem ex_typeAssertY {T xT t:TypeId} {x:Operand} {v:Value} {ds:TypeDesc} {ρ:Env} {w:World} (hx:ev ρ x = .iface T v) (hT:P.underlying T=some ds) (hi:(match ds with | .interface _=>true | _=>false)=false) : Ex P ρ (.typeAssert x xT T true) t w (.tuple #[v,.bool true]) w:=fun _ _ _ _=>by
  simp only [execOp,hx,Instr.typeAssert]
  cases ds <;> simp_all [run_underlying hT]
theorem settle_recd (v:Value) : settle (recd v) = .returning:=rfl
section ops
variable {n:Nat} {dd:Bool} {K:Exit→Env→World→Prop} {Kn:Env→World→Prop} {ρ:Env} {w:World} {t:TypeId} {p:String} {e:Array Edge} {g:Option (Nat×Bool)}
theorem OW.defer {f:FuncId} {x:Operand} {xs:List Operand} {ts:Array TypeId} (bs cs:List Value) (hx:ev ρ x = .func (.func f) bs.toArray cs.toArray) (avs:List Value) (ha:xs.map (ev ρ)=avs)
    (k:Kn ⟨ρ.get,{ target:=.fn (.func f) cs.toArray,args:=(bs++avs).toArray } :: ρ.ds⟩ w) :
    OW P n .recov { dst:=none,op:=.defer { callee:=.value x,args:=xs.toArray,argTypes:=ts },type:=t,pos:=p,after:=e,guard:=g } Kn K ρ w:=by
  refine ⟨fun a hf X hX=>?_⟩
  unfold Oper.wp
  rw [hf.eval]
  have:(execOp (ev ρ) { dst:=none,op:=.defer { callee:=.value x,args:=xs.toArray,argTypes:=ts },type:=t,pos:=p,after:=e,guard:=g }).run P w = .ok (.defer { target:=.fn (.func f) cs.toArray,args:=(bs++avs).toArray }) w:=by
    simp [execOp,resolve,Deferred.ofValue,hx,← ha]
  rw [this]
  refine hX _ _ ⟨⟨ρ.get,{ target:=.fn (.func f) cs.toArray,args:=(bs++avs).toArray } :: ρ.ds⟩,⟨hf.size,hf.get,?_,fun h=>by cases h⟩,k⟩
  show _ :: a.defers=_
  rw [hf.defs]
end ops
end
end Go.Proofs.YtpmkkhkphddfeaaGreatDoor.SX
set_option linter.unusedVariables false
namespace Go.Proofs.YtpmkkhkphddfeaaGreatDoor.SX
open Go Go.RowKit
abbrev ii (n:Int) : Value:=.int .i64 n
abbrev pp (b j:Nat) : Value:=.pointer (some ⟨b,j,none⟩)
theorem vb {x:Value} {b v:Bool} (c:b=v) (hx:x = .bool b) : x = .bool v:=hx.trans (congrArg Value.bool c)
section
variable {P:Program} {n:Nat} {md:Md} {ρ:Env} {w:World} {K:Exit→Env→World→Prop} {Kn:Env→World→Prop} {ops:Array Oper} {rest:List Oper}
theorem e2 {op:BinOp} {xt yt t:TypeId} {x y:Operand} {a b v:Value} (hb:Bin P op xt a b v) (hx:ev ρ x=a) (hy:ev ρ y=b) : Ex P ρ (.binOp op xt x y yt) t w v w:=ex_bin hx hy hb
theorem sg {x:Operand} {t:TypeId} (v:Value) (hx:ev ρ x=v) : Ex P ρ (.assign x) t w v w:=ex_assign hx
theorem E {d:Nat} {op:Op} {t:TypeId} {p:String} {e:Array Edge} {v:Value} {w':World} (hd:Nat.blt d n=true) (hr:Ex P ρ op t w v w')
    (k:WL P n md ops rest K (upd ρ d v) w') : WL P n md ops ({ dst:=some d,op:=op,type:=t,pos:=p,after:=e,guard:=none } :: rest) K ρ w:=WL.ex hd hr k
def lb (n c:Nat) : Array Bool:=((List.range n).map fun i=>c.testBit i).toArray
def WAs (P:Program) (ops:Array Oper) (n:Nat) (S:World→Prop) : List Nat→(Env→Prop)→Env→Prop
  | [],X,ρ=>X ρ
  | i :: is,X,ρ => ∃ d op t p e v,ops[i]?=some { dst:=some d,op:=op,type:=t,pos:=p,after:=e,guard:=none }∧(∀ w,S w→Ex P ρ op t w v w)∧WAs P ops n S is X (upd ρ d v)
theorem X1 {S:World→Prop} {i:Nat} {is:List Nat} {X:Env→Prop} {d:Nat} {op:Op} {t:TypeId} {p:String} {e:Array Edge} {v:Value} (hi:ops[i]?=some { dst:=some d,op:=op,type:=t,pos:=p,after:=e,guard:=none })
    (hy:∀ w,S w→Ex P ρ op t w v w) (k:WAs P ops n S is X (upd ρ d v)) : WAs P ops n S (i :: is) X ρ:=⟨d,op,t,p,e,v,hi,hy,k⟩
def seqChk (ops:Array Oper) (L n:Nat) (l':Array Bool) : Array Bool→List Nat→Bool
  | listed,[]=>listed == l'
  | listed,i :: is=>freeL .any ops L listed i && ((Region.ready .any ops listed).contains i && ((match ops[i]? with | some o=>(match o.dst with | some d=>Nat.blt d n | none=>false) | none=>false) && seqChk ops L n l' (listed.setIfInBounds i true) is))
theorem was_out {S:World→Prop} {L m:Nat} {l':Array Bool} (hs:Region.noSelect ops=true) (hS:S w) : ∀ (is:List Nat) (listed:Array Bool) (ρ:Env),seqChk ops L n l' listed is=true→WAs P ops n S is (fun ρ=>WA P n md ops L S m l' K ρ w) ρ→WA P n md ops L S (m+is.length) listed K ρ w
  | [],listed,ρ,hc,h=>by
    have e:listed=l':=by simpa [seqChk] using hc
    rw [e]; exact h
  | i :: is,listed,ρ,hc,⟨d,op,t,p,e,v,hi,hy,k⟩=>by
    unfold seqChk at hc
    rw [hi] at hc
    simp only [Bool.and_eq_true] at hc
    have ih:=was_out hs hS is _ _ hc.2.2.2 k
    exact WA.ex (m:=m+is.length) i hi hs hc.1 hc.2.1 hc.2.2.1 hS hy ih
theorem WA.seq {S:World→Prop} {L m':Nat} {listed:Array Bool} (is:List Nat) (l':Array Bool) (m:Nat) (hc:(Region.noSelect ops && seqChk ops L n l' listed is)=true) (hm:m'=m+is.length) (hS:S w)
    (h:WAs P ops n S is (fun ρ=>WA P n md ops L S m l' K ρ w) ρ) : WA P n md ops L S m' listed K ρ w:=by
  subst hm
  rw [Bool.and_eq_true] at hc
  exact was_out hc.1 hS is listed ρ hc.2 h
end
end Go.Proofs.YtpmkkhkphddfeaaGreatDoor.SX
set_option linter.unusedVariables false
namespace Go.Proofs.YtpmkkhkphddfeaaGreatDoor.SX
open Go Go.RowKit
inductive Sh where
  | int (k:IntKind) | u8 | u32 | u64 | bool | str
  | st (T:Nat) | row (E:Nat) | arr (E n:Nat) | kv (K V:Nat)
  deriving DecidableEq
abbrev Sh.ty (α:Nat→Type) : Sh→Type
  | .int _=>Int
  | .u8=>UInt8
  | .u32=>UInt32
  | .u64=>UInt64
  | .bool=>Bool
  | .str=>List UInt8
  | .st T=>α T
  | .row E=>List (α E)
  | .arr E _=>List (α E)
  | .kv K V=>List (α K×α V)
def HL (α:Nat→Type) : List Sh→Type
  | []=>Unit
  | s :: ss=>s.ty α×HL α ss
def HL.app {α:Nat→Type} {b:List Sh}:(a:List Sh)→HL α a→HL α b→HL α (a++b)
  | [],_,y=>y
  | _ :: a,x,y=>(x.1,HL.app a x.2 y)
def HL.l {α:Nat→Type} {b:List Sh}:(a:List Sh)→HL α (a++b)→HL α a
  | [],_=>()
  | _ :: a,y=>(y.1,HL.l a y.2)
def HL.r {α:Nat→Type} {b:List Sh}:(a:List Sh)→HL α (a++b)→HL α b
  | [],y=>y
  | _ :: a,y=>HL.r a y.2
structure Gm where
  α:Nat→Type
  rep:∀ T,Rep (α T)
  ss:Nat→List Sh
  un:∀ T,α T→HL α (ss T)
  md:∀ T,HL α (ss T)→α T
  eq:∀ T,α T→α T→Bool
  z:∀ T,α T
  ek:∀ T,α T→Value
  b8:∀ T,Option (List (α T)→List UInt8)
  qe:Nat→Bool
  qk:Nat→Bool
  qv:Nat→Bool
  fl:Nat→Bool
def Sh.rep (G:Gm) : (s:Sh)→Rep (s.ty G.α)
  | .int k => .int k
  | .u8 => .u8
  | .u32 => .u32
  | .u64 => .u64
  | .bool => .bool
  | .str => .str
  | .st T=>G.rep T
  | .row E => .slice (G.rep E)
  | .arr E n => .arr n (G.rep E)
  | .kv _ _ => { sz:=0,R:=fun _ _ _ _=>False,len:=fun h=>h.elim,one:=fun h=>h.elim,mono:=fun _ h=>h,move:=fun _ h=>h }
def castS {α:Nat→Type} (s s':Sh) (x:s.ty α) : Option (s'.ty α):=if h:s=s' then some (h ▸ x) else none
inductive Leaf (α:Nat→Type) where
  | d (s:Sh) (x:s.ty α)
  | ns | np | nm | nf | ni | dd
  | pt (i off:Nat) | ow (i:Nat) | mp (i:Nat)
  | pe (i E:Nat) (xs:List (α E)) (n:Int) (x:α E) (off:Nat)
  | pa (i off E m:Nat) (xs:List (α E)) (n:Int) (x:α E)
  | fn (f:Nat) (cap:List Nat)
  | er (b:Bool)
  | bs (i E:Nat) (xs:List (α E))
  | pr (i E:Nat) (x:α E) (off:Nat)
inductive AT (α:Nat→Type) where
  | v (a:Bool) (ls:List (Leaf α))
  | tp (l:List (Bool×List (Leaf α)))
  | ifc (T:Nat) (a:Bool) (ls:List (Leaf α))
  | kn (b c:Bool)
  | un
  | dd
inductive Obj (α:Nat→Type) where
  | blk (T:Nat) (ls:List (Leaf α))
  | own (E:Nat) (xs:List (α E))
  | mp (K V:Nat) (kvs:List (α K×α V))
  | bd (T E:Nat) (s:List UInt8)
  | clo (f:Nat) (bs cs:List (Bool×List (Leaf α)))
  | dd
section pi
variable {G:Gm} {R:Type}
abbrev Lf (G:Gm):=Leaf G.α
abbrev EnvA (G:Gm):=List (Nat×AT G.α)
abbrev HpA (G:Gm):=List (Nat×Obj G.α)
def lkE:EnvA G→Nat→AT G.α
  | [],_ => .dd
  | (t',v) :: e,t=>bif Nat.beq t' t then v else lkE e t
def lkH:HpA G→Nat→Obj G.α
  | [],_ => .dd
  | (t',v) :: e,t=>bif Nat.beq t' t then v else lkH e t
def Leaf.sz:Lf G→Nat
  | .d s _=>(s.rep G).sz
  | _=>1
def takeC:List (Lf G)→Nat→Option (List (Lf G))
  | [],n=>bif Nat.beq n 0 then some [] else none
  | l :: ls,n=>bif Nat.beq n 0 then some [] else bif Nat.ble l.sz n then (takeC ls (n - l.sz)).bind fun r=>some (l :: r) else none
def dropC:List (Lf G)→Nat→Option (List (Lf G))
  | [],n=>bif Nat.beq n 0 then some [] else none
  | l :: ls,n=>bif Nat.beq n 0 then some (l :: ls) else bif Nat.ble l.sz n then dropC ls (n - l.sz) else none
def force:List (Lf G)→(List (Lf G)→Option R)→Option R
  | [],K=>K []
  | l :: ls,K=>match l with
    | .d s x=>force ls fun r=>K (.d s x :: r)
    | .ns=>force ls fun r=>K (.ns :: r)
    | .np=>force ls fun r=>K (.np :: r)
    | .nm=>force ls fun r=>K (.nm :: r)
    | .nf=>force ls fun r=>K (.nf :: r)
    | .ni=>force ls fun r=>K (.ni :: r)
    | .dd=>force ls fun r=>K (.dd :: r)
    | .pt i o=>force ls fun r=>K (.pt i o :: r)
    | .ow i=>force ls fun r=>K (.ow i :: r)
    | .mp i=>force ls fun r=>K (.mp i :: r)
    | .pe i E xs n x o=>force ls fun r=>K (.pe i E xs n x o :: r)
    | .pa i o E m xs n x=>force ls fun r=>K (.pa i o E m xs n x :: r)
    | .fn f c=>force ls fun r=>K (.fn f c :: r)
    | .er b=>force ls fun r=>K (.er b :: r)
    | .bs i E xs=>force ls fun r=>K (.bs i E xs :: r)
    | .pr i E x o=>force ls fun r=>K (.pr i E x o :: r)
def opL {G:Gm} (g:(s:Sh)→s.ty G.α→List (Lf G)) : (ss:List Sh)→HL G.α ss→List (Lf G)
  | [],_=>[]
  | s :: ss,y=>g s y.1++opL g ss y.2
def op1S (G:Gm) : Nat→(s:Sh)→s.ty G.α→List (Lf G)
  | 0,s,x=>[.d s x]
  | f+1,.st T,x=>opL (op1S G f) (G.ss T) (G.un T x)
  | _+1,s,x=>[.d s x]
def opT (G:Gm) (T:Nat) (x:G.α T) : List (Lf G):=op1S G 8 (.st T) x
def clH (G:Gm) (h:Nat→Obj G.α) : Nat→(ss:List Sh)→List (Lf G)→List Nat→Option (HL G.α ss×List (Lf G)×List Nat)
  | 0,_,_,_=>none
  | _+1,[],ls,V=>some ((),ls,V)
  | f+1,.st T :: ss,ls,V=>(clH G h f (G.ss T) ls V).bind fun y=>(clH G h f ss y.2.1 y.2.2).bind fun q=>some ((G.md T y.1,q.1),q.2)
  | f+1,s :: ss,.d s' x :: ls,V=>(castS s' s x).bind fun x=>(clH G h f ss ls V).bind fun q=>some ((x,q.1),q.2)
  | f+1,.row E :: ss,.ns :: ls,V=>(clH G h f ss ls V).bind fun q=>some (([],q.1),q.2)
  | f+1,.row E :: ss,.ow i :: ls,V=>match h i with
    | .own E' xs=>(castS (.row E') (.row E) xs).bind fun x=>(clH G h f ss ls (i :: V)).bind fun q=>some ((x,q.1),q.2)
    | _=>none
  | _+1,_ :: _,_,_=>none
def clT (G:Gm) (T:Nat) (ls:List (Lf G)) : Option (G.α T):=match clH G (fun _ => .dd) 64 (G.ss T) ls [] with
  | some (y,[],[])=>some (G.md T y)
  | _=>none
def ofV (G:Gm) : Value→Lf G
  | .bool b => .d .bool b
  | .int .u8 n=>bif decide (0≤n) && decide (n < 256) then .d .u8 (UInt8.ofNat n.toNat) else .dd
  | .int .u32 n=>bif decide (0≤n) && decide (n < 4294967296) then .d .u32 (UInt32.ofNat n.toNat) else .dd
  | .int .u64 n=>bif decide (0≤n) && decide (n < 18446744073709551616) then .d .u64 (UInt64.ofNat n.toNat) else .dd
  | .int k n => .d (.int k) n
  | .string s => .d .str s.data.toList
  | .slice none 0 0 => .ns
  | .pointer none => .np
  | .map none => .nm
  | .nilFunc => .nf
  | .nilIface => .ni
  | _ => .dd
def sizeT (P:Program) (T:Nat) : Nat:=match P.info? T with | some i=>i.size | none=>0
def aggT (P:Program) (T:Nat) : Bool:=match P.underlying T with | some (.struct _) | some (.array _ _)=>true | _=>false
def zL (P:Program) (G:Gm) : Nat→Nat→List (Lf G)
  | 0,_=>[.dd]
  | f+1,T=>match P.underlying T with
    | some (.struct fs)=>fs.toList.flatMap fun q=>zL P G f q.type
    | some (.array n E)=>[.d (.arr E n) (List.replicate n (G.z E))]
    | some .bool=>[.d .bool false]
    | some .string=>[.d .str []]
    | some (.int .u8)=>[.d .u8 0]
    | some (.int .u32)=>[.d .u32 0]
    | some (.int .u64)=>[.d .u64 0]
    | some (.int k)=>[.d (.int k) 0]
    | some (.slice _)=>[.ns]
    | some (.pointer _)=>[.np]
    | some (.map _ _)=>[.nm]
    | some (.func _ _ _)=>[.nf]
    | some (.interface _)=>[.ni]
    | _=>[.dd]
def chkZ (G:Gm) : Nat→List (Lf G)→List Value→Bool
  | 0,_,_=>false
  | _+1,[],[]=>true
  | f+1,.d (.arr E n) xs :: ls,cs=>Nat.beq (List.length (α:=G.α E) xs) n && chkZ G f (List.flatMap (opT G E) xs++ls) cs
  | f+1,l :: ls,c :: cs=>(match l,c with
    | .d (.int k) n,.int k' m=>decide (k=k') && decide ((n:Int)=m)
    | .d .u8 n,.int .u8 m=>decide (((n:UInt8).toNat:Int)=m)
    | .d .u32 n,.int .u32 m=>decide (((n:UInt32).toNat:Int)=m)
    | .d .u64 n,.int .u64 m=>decide (((n:UInt64).toNat:Int)=m)
    | .d .bool b,.bool b'=>decide ((b:Bool)=b')
    | .d .str s,.string t=>decide ((s:List UInt8)=t.data.toList)
    | .ns,.slice none 0 0=>true
    | .np,.pointer none=>true
    | .nm,.map none=>true
    | .nf,.nilFunc=>true
    | .ni,.nilIface=>true
    | _,_=>false) && chkZ G f ls cs
  | _,_,_=>false
def zeroT (P:Program) (G:Gm) (T:Nat) : Option (List (Lf G)):=match P.info? T with
  | some i=>match i.zero with
    | some z=>bif chkZ G 300 (zL P G 16 T) z.cells.toList then some (zL P G 16 T) else none
    | none=>none
  | none=>none
def isT (P:Program) (T:Nat) : Bool:=(P.underlying T).isSome
def isDd:Lf G→Bool
  | .dd=>true
  | _=>false
def num? : Lf G→Option Int
  | .d (.int _) n=>some n
  | .d .u8 n=>some ((n:UInt8).toNat:Int)
  | .d .u32 n=>some ((n:UInt32).toNat:Int)
  | .d .u64 n=>some ((n:UInt64).toNat:Int)
  | _=>none
def binI (op:BinOp) (a b:Int) (K:Lf G→Option R) : Option R:=
  match op with
  | .add=>K (.d (.int .i64) (wrap64 (a+b)))
  | .sub=>K (.d (.int .i64) (wrap64 (a - b)))
  | .mul=>K (.d (.int .i64) (wrap64 (a * b)))
  | .and=>K (.d (.int .i64) (andI a b))
  | .or=>K (.d (.int .i64) (orI a b))
  | .quo=>(chk (!(b == 0))).bind fun _=>K (.d (.int .i64) (wrap64 (a.tdiv b)))
  | .rem=>(chk (!(b == 0))).bind fun _=>K (.d (.int .i64) (a.tmod b))
  | _=>none
def cmpI (op:BinOp) (a b:Int) (K:Lf G→Option R) : Option R:=
  match op with
  | .eql=>K (.d .bool (a == b))
  | .neq=>K (.d .bool (a != b))
  | .lss=>K (.d .bool (decide (a < b)))
  | .leq=>K (.d .bool (decide (a≤b)))
  | .gtr=>K (.d .bool (decide (a > b)))
  | .geq=>K (.d .bool (decide (a ≥ b)))
  | _=>none
def isCmp:BinOp→Bool
  | .eql | .neq | .lss | .leq | .gtr | .geq=>true
  | _=>false
def isSh:BinOp→Bool
  | .shl | .shr=>true
  | _=>false
def bin8 (op:BinOp) (a b:UInt8) (K:Lf G→Option R) : Option R:=
  match op with
  | .add=>K (.d .u8 (a+b))
  | .sub=>K (.d .u8 (a - b))
  | .mul=>K (.d .u8 (a * b))
  | .and=>K (.d .u8 (a &&& b))
  | .or=>K (.d .u8 (a ||| b))
  | .xor=>K (.d .u8 (a ^^^ b))
  | .andNot=>K (.d .u8 (a &&& ~~~b))
  | .quo=>(chk (!(b == 0))).bind fun _=>K (.d .u8 (a / b))
  | .rem=>(chk (!(b == 0))).bind fun _=>K (.d .u8 (a % b))
  | .eql=>K (.d .bool (a == b))
  | .neq=>K (.d .bool (!(a == b)))
  | .lss=>K (.d .bool (decide (a < b)))
  | .leq=>K (.d .bool (decide (a≤b)))
  | .gtr=>K (.d .bool (decide (b < a)))
  | .geq=>K (.d .bool (decide (b≤a)))
  | _=>none
def bin32 (op:BinOp) (a b:UInt32) (K:Lf G→Option R) : Option R:=
  match op with
  | .add=>K (.d .u32 (a+b))
  | .sub=>K (.d .u32 (a - b))
  | .mul=>K (.d .u32 (a * b))
  | .and=>K (.d .u32 (a &&& b))
  | .or=>K (.d .u32 (a ||| b))
  | .xor=>K (.d .u32 (a ^^^ b))
  | .andNot=>K (.d .u32 (a &&& ~~~b))
  | .quo=>(chk (!(b == 0))).bind fun _=>K (.d .u32 (a / b))
  | .rem=>(chk (!(b == 0))).bind fun _=>K (.d .u32 (a % b))
  | .eql=>K (.d .bool (a == b))
  | .neq=>K (.d .bool (!(a == b)))
  | .lss=>K (.d .bool (decide (a < b)))
  | .leq=>K (.d .bool (decide (a≤b)))
  | .gtr=>K (.d .bool (decide (b < a)))
  | .geq=>K (.d .bool (decide (b≤a)))
  | _=>none
def bin64 (op:BinOp) (a b:UInt64) (K:Lf G→Option R) : Option R:=
  match op with
  | .add=>K (.d .u64 (a+b))
  | .sub=>K (.d .u64 (a - b))
  | .mul=>K (.d .u64 (a * b))
  | .and=>K (.d .u64 (a &&& b))
  | .or=>K (.d .u64 (a ||| b))
  | .xor=>K (.d .u64 (a ^^^ b))
  | .andNot=>K (.d .u64 (a &&& ~~~b))
  | .quo=>(chk (!(b == 0))).bind fun _=>K (.d .u64 (a / b))
  | .rem=>(chk (!(b == 0))).bind fun _=>K (.d .u64 (a % b))
  | .eql=>K (.d .bool (a == b))
  | .neq=>K (.d .bool (!(a == b)))
  | .lss=>K (.d .bool (decide (a < b)))
  | .leq=>K (.d .bool (decide (a≤b)))
  | .gtr=>K (.d .bool (decide (b < a)))
  | .geq=>K (.d .bool (decide (b≤a)))
  | _=>none
def binS (op:BinOp) (a b:List UInt8) (K:Lf G→Option R) : Option R:=
  match op with
  | .add=>(chk (decide (a.length+b.length≤9223372036854775807))).bind fun _=>K (.d .str (a++b))
  | .eql=>K (.d .bool (a == b))
  | .neq=>K (.d .bool (!(a == b)))
  | .lss=>K (.d .bool (strLt a b))
  | .leq=>K (.d .bool (strLe a b))
  | .gtr=>K (.d .bool (!(strLe a b)))
  | .geq=>K (.d .bool (!(strLt a b)))
  | _=>none
def shf (op:BinOp) (a:Lf G) (n:Nat) (K:Lf G→Option R) : Option R:=
  match op,a with
  | .shl,.d .u8 x=>K (.d .u8 (shl8 x n))
  | .shr,.d .u8 x=>K (.d .u8 (shr8 x n))
  | .shl,.d .u32 x=>K (.d .u32 (shl32 x n))
  | .shr,.d .u32 x=>K (.d .u32 (shr32 x n))
  | .shl,.d .u64 x=>K (.d .u64 (shl64 x n))
  | .shr,.d .u64 x=>K (.d .u64 (shr64 x n))
  | .shl,.d (.int .i64) x=>K (.d (.int .i64) (shlI x n))
  | .shr,.d (.int .i64) x=>K (.d (.int .i64) (shrI x n))
  | _,_=>none
def nilB (op:BinOp) (same:Bool) (K:Lf G→Option R) : Option R:=
  match op with
  | .eql=>K (.d .bool same)
  | .neq=>K (.d .bool (!same))
  | _=>none
noncomputable def nilR {β:Type} (op:BinOp) (xs:List β) (K:Lf G→Option R) : Option R:=
  match op with
  | .eql=>nilK xs (K (.d .bool true)) (K (.d .bool false))
  | .neq=>nilK xs (K (.d .bool false)) (K (.d .bool true))
  | _=>none
noncomputable def bin2 (P:Program) (h:Nat→Obj G.α) (op:BinOp) (xt:Nat) (a b:Lf G) (K:Lf G→Option R) : Option R:=
  bif isSh op then match b with
    | .d (.int _) n=>(chk (decide (0≤(n:Int)))).bind fun _=>shf op a (n:Int).toNat K
    | .d .u8 n=>shf op a (n:UInt8).toNat K
    | .d .u32 n=>shf op a (n:UInt32).toNat K
    | .d .u64 n=>shf op a (n:UInt64).toNat K
    | _=>none
  else match a,b with
    | .d (.int k) x,.d (.int k') y=>bif decide (k=k') then (bif isCmp op then cmpI op x y K else bif decide (k = .i64) then binI op x y K else none) else none
    | .d .u8 x,.d .u8 y=>bin8 op x y K
    | .d .u32 x,.d .u32 y=>bin32 op x y K
    | .d .u64 x,.d .u64 y=>bin64 op x y K
    | .d .str x,.d .str y=>binS op x y K
    | .d .bool x,.d .bool y=>match P.underlying xt with
      | some .bool=>match op with
        | .eql=>K (.d .bool ((x:Bool) == y))
        | .neq=>K (.d .bool (!((x:Bool) == y)))
        | _=>none
      | _=>none
    | .np,.np=>match P.underlying xt with
      | some (.pointer _)=>nilB op true K
      | _=>none
    | .pt _ _,.np=>match P.underlying xt with
      | some (.pointer _)=>nilB op false K
      | _=>none
    | .pe _ _ _ _ _ _,.np=>match P.underlying xt with
      | some (.pointer _)=>nilB op false K
      | _=>none
    | .nm,.nm=>match P.underlying xt with
      | some (.map _ _)=>nilB op true K
      | _=>none
    | .mp _,.nm=>match P.underlying xt with
      | some (.map _ _)=>nilB op false K
      | _=>none
    | .fn _ _,.nf=>match P.underlying xt with
      | some (.func _ _ _)=>nilB op false K
      | _=>none
    | .pr _ _ _ _,.np=>match P.underlying xt with
      | some (.pointer _)=>nilB op false K
      | _=>none
    | .ns,.ns=>match P.underlying xt with
      | some (.slice _)=>nilB op true K
      | _=>none
    | .d (.row E) xs,.ns=>match P.underlying xt with
      | some (.slice _)=>nilR op (xs:List (G.α E)) K
      | _=>none
    | .ow i,.ns=>match P.underlying xt with
      | some (.slice _)=>match h i with
        | .own E xs=>nilR op xs K
        | _=>none
      | _=>none
    | _,_=>none
def toInt (kd:IntKind) (sm:Bool) (n:Int) (K:Lf G→Option R) : Option R:=
  match kd with
  | .u8=>K (.d .u8 (ofI8 n))
  | .u32=>K (.d .u32 (ofI32 n))
  | .u64=>K (.d .u64 (ofI64 n))
  | .i64=>bif sm then K (.d (.int .i64) n) else K (.d (.int .i64) (wrap64 n))
  | _=>none
def conv (P:Program) (src dst:Nat) (a:Lf G) (K:Lf G→Option R) : Option R:=
  match P.underlying dst,P.underlying src with
  | some (.int kd),some _=>match a with
    | .d (.int _) n=>toInt kd false n K
    | .d .u8 n=>toInt kd true ((n:UInt8).toNat:Int) K
    | .d .u32 n=>toInt kd true ((n:UInt32).toNat:Int) K
    | .d .u64 n=>toInt kd false ((n:UInt64).toNat:Int) K
    | _=>none
  | some .string,some .string=>match a with
    | .d .str s=>K (.d .str s)
    | _=>none
  | some .string,some (.int k)=>match a with
    | .d (.int k') n=>bif decide (k=k') then K (.d .str (runeStr n)) else none
    | _=>none
  | _,_=>none
def get1 (a:AT G.α) (K:Lf G→Option R) : Option R:=match a with
  | .v false [l]=>K l
  | _=>none
def setC (ls:List (Lf G)) (off n:Nat) (vs:List (Lf G)) : Option (List (Lf G)):=
  (takeC ls off).bind fun a=>(dropC ls (off+n)).bind fun b=>some (a++(vs++b))
def fillA (P:Program) (g:Operand→AT G.α) (fs:Array Field) : List (Nat×Operand)→List (Lf G)→Option (List (Lf G))
  | [],ls=>some ls
  | (j,x) :: r,ls=>match fs[j]?,g x with
    | some f,.v a vs=>bif (isT P f.type && (a == aggT P f.type)) && Nat.beq (vs.map Leaf.sz).sum (sizeT P f.type) then (setC ls f.offset (sizeT P f.type) vs).bind fun l=>fillA P g fs r l else none
    | _,_=>none
def isIfc:TypeDesc→Bool
  | .interface _=>true
  | _=>false
def nrmA:AT G.α→AT G.α
  | .kn _ c => .v false [.d .bool c]
  | a=>a
noncomputable def nopG (P:Program) (h:Nat→Obj G.α) (g0 g:Operand→AT G.α) (op:Op) (K:AT G.α→Option R) : Option R:=
  match op with
  | .move x | .assign x=>match g0 x with
    | .v a ls=>K (.v a ls)
    | .tp l=>K (.tp l)
    | .kn b c=>K (.kn b c)
    | .ifc T a ls=>K (.ifc T a ls)
    | _=>none
  | .pick c x y=>match g0 c with
    | .kn true _=>match g x with | .v a ls=>K (.v a ls) | _=>none
    | .kn false _=>match g y with | .v a ls=>K (.v a ls) | _=>none
    | .v false [.d .bool b]=>match g x,g y with
      | .v false [.d s u],.v false [.d s' v]=>(castS s' s v).bind fun v=>K (.v false [.d s (bif (b:Bool) then u else v)])
      | u,v=>bif (b:Bool) then (match u with | .v a ls=>K (.v a ls) | _=>none) else (match v with | .v a ls=>K (.v a ls) | _=>none)
    | _=>none
  | .binOp op xt x y _=>match g x,g y with
    | .v false [.er b],.v false [.ni]=>match y,P.underlying xt with
      | .const .nilIface,some (.interface _)=>match op with
        | .eql=>K (.v false [.d .bool (!b)])
        | .neq=>K (.v false [.d .bool b])
        | _=>none
      | _,_=>none
    | .v false [.ni],.v false [.ni]=>match y,P.underlying xt with
      | .const .nilIface,some (.interface _)=>match op with
        | .eql=>K (.v false [.d .bool true])
        | .neq=>K (.v false [.d .bool false])
        | _=>none
      | _,_=>none
    | .ifc _ _ _,.v false [.ni]=>match y,P.underlying xt with
      | .const .nilIface,some (.interface _)=>match op with
        | .eql=>K (.v false [.d .bool false])
        | .neq=>K (.v false [.d .bool true])
        | _=>none
      | _,_=>none
    | .v false [a],.v false [b]=>bin2 P h op xt a b fun l=>K (.v false [l])
    | .v true as_,.v true bs=>bif !(G.qe xt) then none else match clT G xt as_,clT G xt bs with
      | some u,some v=>match op with
        | .eql=>K (.v false [.d .bool (G.eq xt u v)])
        | .neq=>K (.v false [.d .bool (!(G.eq xt u v))])
        | _=>none
      | _,_=>none
    | _,_=>none
  | .unOp op xt x=>get1 (g x) fun a=>match op,a with
    | .not,.d .bool b=>K (.v false [.d .bool (!(b:Bool))])
    | .neg,.d (.int .i64) n=>K (.v false [.d (.int .i64) (wrap64 (0 - (n:Int)))])
    | .xor,.d .u8 n=>K (.v false [.d .u8 (~~~(n:UInt8))])
    | .xor,.d .u32 n=>K (.v false [.d .u32 (~~~(n:UInt32))])
    | .xor,.d .u64 n=>K (.v false [.d .u64 (~~~(n:UInt64))])
    | .neg,.d .u64 n=>K (.v false [.d .u64 (0 - (n:UInt64))])
    | .neg,.d .u32 n=>K (.v false [.d .u32 (0 - (n:UInt32))])
    | .neg,.d .u8 n=>K (.v false [.d .u8 (0 - (n:UInt8))])
    | _,_=>none
  | .convert src dst x=>get1 (g x) fun a=>conv P src dst a fun l=>K (.v false [l])
  | .extract x i=>match g x with
    | .tp l=>match l[i]? with
      | some (a,ls)=>K (.v a ls)
      | none=>none
    | _=>none
  | .makeInterface T x=>match g x,P.underlying T with
    | .v a ls,some d=>bif isIfc d then none else K (.ifc T a ls)
    | _,_=>none
  | .typeAssert x xT T true=>match g x,P.underlying T with
    | .ifc T' a ls,some d=>bif !(Nat.beq T T') || isIfc d then none else K (.tp [(a,ls),(false,[.d .bool true])])
    | _,_=>none
  | .makeFunc (.func f) bs cs=>match bs.toList,cs.toList with
    | [],[]=>K (.v false [.fn f []])
    | _,_=>none
  | .nilCheck x=>get1 (g x) fun a=>match a with
    | .pt i o=>K (.v false [.pt i o])
    | .pe i E xs n y o=>K (.v false [.pe i E xs n y o])
    | .pr i E y o=>K (.v false [.pr i E y o])
    | _=>none
  | .fieldAddr T x j=>get1 (g x) fun a=>match P.underlying T with
    | some (.struct fs)=>match fs[j]? with
      | some f=>bif Nat.beq (sizeT P f.type) 0 || !(isT P f.type) then none else match a with
        | .pt i o=>K (.v false [.pt i (o+f.offset)])
        | .pe i E xs n y o=>K (.v false [.pe i E xs n y (o+f.offset)])
        | .pr i E y o=>K (.v false [.pr i E y (o+f.offset)])
        | _=>none
      | none=>none
    | _=>none
  | .field T x j=>match g x with
    | .v true ls=>match P.underlying T with
      | some (.struct fs)=>match fs[j]? with
        | some f=>bif !(isT P f.type) then none else (dropC ls f.offset).bind fun r=>(takeC r (sizeT P f.type)).bind fun r=>bif aggT P f.type || Nat.beq (sizeT P f.type) 1 then K (.v (aggT P f.type) r) else none
        | none=>none
      | _=>none
    | _=>none
  | .indexAddr T x y=>get1 (g x) fun a=>get1 (g y) fun n=>(num? n).bind fun n=>match P.underlying T with
    | some (.slice E')=>match a with
      | .d (.row E) xs=>bif isT P E' && (Nat.beq E E' && Nat.beq (sizeT P E') (G.rep E).sz) then (ix (xs:List (G.α E)) n).bind fun e=>K (.v false [.pe 0 E xs n e 0]) else none
      | .ow i=>match h i with
        | .own E xs=>bif isT P E' && (Nat.beq E E' && (Nat.beq (sizeT P E') (G.rep E).sz && !(Nat.beq i 0))) then (ix xs n).bind fun e=>K (.v false [.pe i E xs n e 0]) else none
        | _=>none
      | .bs i E xs=>bif isT P E' && (Nat.beq E E' && Nat.beq (sizeT P E') (G.rep E).sz) then (ix xs n).bind fun e=>K (.v false [.pr i E e 0]) else none
      | _=>none
    | _=>none
  | .index T x y=>match g x with
    | .v false [.d .str s]=>match P.underlying T with
      | some .string=>get1 (g y) fun n=>(num? n).bind fun n=>(ix (s:List UInt8) n).bind fun c=>K (.v false [.d .u8 c])
      | _=>none
    | .v true [.d (.arr E m) xs]=>match P.underlying T with
      | some (.array m' E')=>bif isT P E' && (Nat.beq E E' && (Nat.beq m m' && (Nat.beq (sizeT P E') (G.rep E).sz && (aggT P E' || Nat.beq (sizeT P E') 1)))) then get1 (g y) fun n=>(num? n).bind fun n=>(ix (xs:List (G.α E)) n).bind fun e=>force (opT G E e) fun ls=>K (.v (aggT P E') ls) else none
      | _=>none
    | _=>none
  | .slice T x lo hi none=>get1 (g x) fun a =>
    (match lo with | none=>some 0 | some o=>get1 (g o) num?).bind fun l=>match P.underlying T with
      | some .string=>match a with
        | .d .str s=>(match hi with | none=>some (((s:List UInt8).length:Nat) : Int) | some o=>get1 (g o) num?).bind fun u=>(cut (s:List UInt8) l u).bind fun y=>K (.v false [.d .str y])
        | _=>none
      | some (.slice E')=>match a with
        | .d (.row E) xs=>bif isT P E' && (Nat.beq E E' && Nat.beq (sizeT P E') (G.rep E).sz) then (match hi with | none=>some (((xs:List (G.α E)).length:Nat) : Int) | some o=>get1 (g o) num?).bind fun u=>(cut (xs:List (G.α E)) l u).bind fun y=>K (.v false [.d (.row E) y]) else none
        | .bs i E xs=>bif isT P E' && (Nat.beq E E' && Nat.beq (sizeT P E') (G.rep E).sz) then (match hi with | none=>some ((xs.length:Nat) : Int) | some o=>get1 (g o) num?).bind fun u=>(cut xs l u).bind fun y=>K (.v false [.bs i E y]) else none
        | .ow i=>match h i with
          | .own E xs=>bif (isT P E' && (Nat.beq E E' && Nat.beq (sizeT P E') (G.rep E).sz)) && !(lo.isNone && hi.isSome) then (match hi with | none=>some ((xs.length:Nat) : Int) | some o=>get1 (g o) num?).bind fun u=>(cut xs l u).bind fun y=>K (.v false [.bs i E y]) else none
          | _=>none
        | _=>none
      | _=>none
  | .build T ps=>match P.underlying T with
    | some (.struct fs)=>bif !(fs.toList.all fun f=>isT P f.type) then none else (zeroT P G T).bind fun z=>(fillA P g fs ps.toList z).bind fun ls=>force ls fun ls=>K (.v true ls)
    | some (.array n E)=>match ps.toList with
      | []=>(zeroT P G T).bind fun z=>force z fun z=>bif isT P E then K (.v true z) else none
      | q :: ps=>(zeroT P G T).bind fun z=>bif (isT P E && Nat.beq (sizeT P E) (G.rep E).sz) && (Nat.beq (z.map Leaf.sz).sum (n * (G.rep E).sz) && decide ((q :: ps).map (·.1)=List.range n)) then
          ((q :: ps).mapM (fun (q:Nat×Operand)=>match g q.2 with | .v a ls=>(bif a == aggT P E then clT G E ls else none) | _=>none)).bind fun xs=>K (.v true [.d (.arr E n) xs]) else none
    | _=>none
  | .call c=>match c.callee with
    | .builtin .len=>match c.args.toList,c.argTypes.toList with
      | [x],[T]=>get1 (g x) fun a=>match P.underlying T with
        | some .string=>match a with
          | .d .str s=>K (.v false [.d (.int .i64) (((s:List UInt8).length:Nat) : Int)])
          | _=>none
        | some (.slice _)=>match a with
          | .d (.row E) xs=>K (.v false [.d (.int .i64) (((xs:List (G.α E)).length:Nat) : Int)])
          | .bs _ E xs=>K (.v false [.d (.int .i64) ((xs.length:Nat) : Int)])
          | .ns=>K (.v false [.d (.int .i64) ((([] : List Nat).length:Nat) : Int)])
          | .ow i=>match h i with
            | .own E xs=>K (.v false [.d (.int .i64) ((xs.length:Nat) : Int)])
            | _=>none
          | _=>none
        | _=>none
      | _,_=>none
    | .builtin .max=>match c.args.toList,c.argTypes.toList with
      | [x,y],[_,_]=>match g x,g y with
        | .v false [.d (.int k) a],.v false [.d (.int k') b]=>bif decide (k=k') then K (.v false [.d (.int k) (if (b:Int) > a then b else a)]) else none
        | _,_=>none
      | _,_=>none
    | .builtin .min=>match c.args.toList,c.argTypes.toList with
      | [x,y],[_,_]=>match g x,g y with
        | .v false [.d (.int k) a],.v false [.d (.int k') b]=>bif decide (k=k') then K (.v false [.d (.int k) (if (b:Int) < a then b else a)]) else none
        | _,_=>none
      | _,_=>none
    | _=>none
  | _=>none
noncomputable def nop (P:Program) (h:Nat→Obj G.α) (g0:Operand→AT G.α) (op:Op) (K:AT G.α→Option R) : Option R:=nopG P h g0 (fun x=>nrmA (g0 x)) op K
def ropG (P:Program) (h:Nat→Obj G.α) (g:Operand→AT G.α) (op:Op) (K:AT G.α→Option R) : Option R:=
  match op with
  | .load T x=>bif !(isT P T) then none else get1 (g x) fun a=>match a with
    | .pt i o=>match h i with
      | .blk _ ls=>(dropC ls o).bind fun r=>(takeC r (sizeT P T)).bind fun r=>bif aggT P T || Nat.beq (sizeT P T) 1 then K (.v (aggT P T) r) else none
      | _=>none
    | .pr i E y o=>(dropC (opT G E y) o).bind fun r=>(takeC r (sizeT P T)).bind fun r=>bif aggT P T || Nat.beq (sizeT P T) 1 then force r fun r=>K (.v (aggT P T) r) else none
    | .pe i E xs n y o=>(dropC (opT G E y) o).bind fun r=>(takeC r (sizeT P T)).bind fun r=>bif aggT P T || Nat.beq (sizeT P T) 1 then force r fun r=>K (.v (aggT P T) r) else none
    | _=>none
  | .lookup T x y two=>get1 (g x) fun a=>match a,g y,P.underlying T with
    | .mp i,.v ag ks,some (.map K' V)=>match h i with
      | .mp K'' V' kvs=>bif (Nat.beq K' K'' && Nat.beq V V') && ((G.qk K'' && G.qv V') && (ag == aggT P K'')) then (clT G K'' ks).bind fun key =>
        force (opT G V' ((mget (G.eq K'') kvs key).getD (G.z V'))) fun ls =>
          bif two then K (.tp [(false,ls),(false,[.d .bool (mget (G.eq K'') kvs key).isSome])]) else K (.v false ls) else none
      | _=>none
    | _,_,_=>none
  | .convert src dst x=>get1 (g x) fun a=>match P.underlying dst,P.underlying src with
    | some .string,some (.slice E')=>match a with
      | .d (.row E) xs=>bif Nat.beq E E' then match G.b8 E with
        | some f=>K (.v false [.d .str (f xs)])
        | none=>none else none
      | .ow i=>match h i with
        | .own E xs=>bif Nat.beq E E' then match G.b8 E with
          | some f=>K (.v false [.d .str (f xs)])
          | none=>none else none
        | _=>none
      | _=>none
    | _,_=>none
  | _=>none
def rop (P:Program) (h:Nat→Obj G.α) (g0:Operand→AT G.α) (op:Op) (K:AT G.α→Option R) : Option R:=ropG P h (fun x=>nrmA (g0 x)) op K
end pi
end Go.Proofs.YtpmkkhkphddfeaaGreatDoor.SX
set_option linter.unusedVariables false
namespace Go.Proofs.YtpmkkhkphddfeaaGreatDoor.SX
open Go Go.RowKit
inductive PL where
  | s (s:Sh)
  | pt (i off:Nat) | ow (i:Nat) | mp (i:Nat)
  | ns | np | nm | nf | ni
  | fn (f:Nat)
  | li (k:IntKind) (n:Int) | lb (b:Bool)
  | er | bs (i E:Nat)
inductive PO where
  | blk (T:Nat) (ls:List PL)
  | own (E:Nat)
  | mp (K V:Nat)
  | bd (T E:Nat)
  | clo (f:Nat) (bs cs:List (Bool×List PL))
structure Pat where
  vs:List (Nat×Bool×List PL)
  os:List (Nat×PO)
def shL:List PL→List Sh
  | []=>[]
  | .s s :: l=>s :: shL l
  | .er :: l => .bool :: shL l
  | .bs _ E :: l => .row E :: shL l
  | _ :: l=>shL l
def shV:List (Nat×Bool×List PL)→List Sh
  | []=>[]
  | v :: vs=>shL v.2.2++shV vs
def shT:List (Bool×List PL)→List Sh
  | []=>[]
  | v :: vs=>shL v.2++shT vs
def PO.sh:PO→List Sh
  | .blk _ ls=>shL ls
  | .clo _ bs cs=>shT bs++shT cs
  | .own E=>[.row E]
  | .mp K V=>[.kv K V]
  | .bd _ _=>[.str]
def shO:List (Nat×PO)→List Sh
  | []=>[]
  | o :: os=>o.2.sh++shO os
def Pat.sh (p:Pat) : List Sh:=shV p.vs++shO p.os
section pat
variable {G:Gm} {R:Type}
def opS (s:Sh) (x:s.ty G.α) : List (Lf G):=match s,x with
  | .st T,x=>opT G T x
  | s,x=>[.d s x]
def inL:(ps:List PL)→HL G.α (shL ps)→List (Lf G)
  | [],_=>[]
  | .s s :: ps,y=>opS s y.1++inL ps y.2
  | .pt i o :: ps,y => .pt i o :: inL ps y
  | .ow i :: ps,y => .ow i :: inL ps y
  | .mp i :: ps,y => .mp i :: inL ps y
  | .ns :: ps,y => .ns :: inL ps y
  | .np :: ps,y => .np :: inL ps y
  | .nm :: ps,y => .nm :: inL ps y
  | .nf :: ps,y => .nf :: inL ps y
  | .ni :: ps,y => .ni :: inL ps y
  | .fn f :: ps,y => .fn f [] :: inL ps y
  | .li k n :: ps,y => .d (.int k) n :: inL ps y
  | .lb b :: ps,y => .d .bool b :: inL ps y
  | .er :: ps,y => .er y.1 :: inL ps y.2
  | .bs i E :: ps,y => .bs i E y.1 :: inL ps y.2
def inT:(vs:List (Bool×List PL))→HL G.α (shT vs)→List (Bool×List (Lf G))
  | [],_=>[]
  | (a,ps) :: vs,y=>(a,inL ps (HL.l _ y)) :: inT vs (HL.r (shL ps) y)
def inV:(vs:List (Nat×Bool×List PL))→HL G.α (shV vs)→EnvA G
  | [],_=>[]
  | (t,a,ps) :: vs,y=>(t,.v a (inL ps (HL.l _ y))) :: inV vs (HL.r (shL ps) y)
def PO.inst:(o:PO)→HL G.α o.sh→Obj G.α
  | .blk T ls,y => .blk T (inL ls y)
  | .own E,y => .own E y.1
  | .mp K V,y => .mp K V y.1
  | .bd T E,y => .bd T E y.1
  | .clo f bs cs,y => .clo f (inT bs (HL.l _ y)) (inT cs (HL.r (shT bs) y))
def inO:(os:List (Nat×PO))→HL G.α (shO os)→HpA G
  | [],_=>[]
  | (i,o) :: os,y=>(i,o.inst (HL.l _ y)) :: inO os (HL.r o.sh y)
def forceT:List (Bool×List (Lf G))→(List (Bool×List (Lf G))→Option R)→Option R
  | [],K=>K []
  | (a,ls) :: l,K=>force ls fun ls=>forceT l fun r=>K ((a,ls) :: r)
def forceE:EnvA G→(EnvA G→Option R)→Option R
  | [],K=>K []
  | (t,.v a ls) :: e,K=>force ls fun ls=>forceE e fun r=>K ((t,.v a ls) :: r)
  | (t,.tp l) :: e,K=>forceE e fun r=>K ((t,.tp l) :: r)
  | (t,.ifc T a ls) :: e,K=>force ls fun ls=>forceE e fun r=>K ((t,.ifc T a ls) :: r)
  | (t,.un) :: e,K=>forceE e fun r=>K ((t,.un) :: r)
  | (t,.kn b c) :: e,K=>forceE e fun r=>K ((t,.kn b c) :: r)
  | (t,.dd) :: e,K=>forceE e fun r=>K ((t,.dd) :: r)
def forceO:HpA G→(HpA G→Option R)→Option R
  | [],K=>K []
  | (t,.blk T ls) :: e,K=>force ls fun ls=>forceO e fun r=>K ((t,.blk T ls) :: r)
  | (t,.own E xs) :: e,K=>forceO e fun r=>K ((t,.own E xs) :: r)
  | (t,.mp A B xs) :: e,K=>forceO e fun r=>K ((t,.mp A B xs) :: r)
  | (t,.bd A B xs) :: e,K=>forceO e fun r=>K ((t,.bd A B xs) :: r)
  | (t,.clo f bs cs) :: e,K=>forceT bs fun bs=>forceT cs fun cs=>forceO e fun r=>K ((t,.clo f bs cs) :: r)
  | (t,.dd) :: e,K=>forceO e fun r=>K ((t,.dd) :: r)
abbrev Sg:=List (Nat×Option Nat)
def sgGet:Sg→Nat→Option (Option Nat)
  | [],_=>none
  | (j,i) :: s,k=>bif Nat.beq j k then some i else sgGet s k
def sgPut (s:Sg) (j:Nat) (i:Option Nat) : Option Sg:=match sgGet s j,i with
  | none,i=>some ((j,i) :: s)
  | some (some a),some b=>bif Nat.beq a b then some s else none
  | some none,none=>none
  | _,_=>none
def deS (h:Nat→Obj G.α) (s:Sh) (ls:List (Lf G)) (V:List Nat) : Option (s.ty G.α×List (Lf G)×List Nat):=match s with
  | .st T=>(clH G h 64 (G.ss T) ls V).bind fun y=>some (G.md T y.1,y.2)
  | .row E=>match ls with
    | .d s' x :: ls=>(castS s' (.row E) x).bind fun x=>some (x,ls,V)
    | .ns :: ls=>some ([],ls,V)
    | .ow i :: ls=>match h i with
      | .own E' xs=>(castS (.row E') (.row E) xs).bind fun x=>some (x,ls,i :: V)
      | _=>none
    | _=>none
  | s=>match ls with
    | .d s' x :: ls=>(castS s' s x).bind fun x=>some (x,ls,V)
    | _=>none
def deL (h:Nat→Obj G.α) : (ps:List PL)→List (Lf G)→Sg→List Nat→Option (HL G.α (shL ps)×Sg×List Nat)
  | [],ls,σ,V=>match ls with
    | []=>some ((),σ,V)
    | _=>none
  | .s s :: ps,ls,σ,V=>(deS h s ls V).bind fun a=>(deL h ps a.2.1 σ a.2.2).bind fun q=>some ((a.1,q.1),q.2)
  | .pt j o :: ps,ls,σ,V=>match ls with
    | .pt i o' :: ls=>bif Nat.beq o o' then (sgPut σ j (some i)).bind fun σ=>deL h ps ls σ V else none
    | _=>none
  | .ow j :: ps,ls,σ,V=>match ls with
    | .ow i :: ls=>(sgPut σ j (some i)).bind fun σ=>deL h ps ls σ V
    | .ns :: ls=>(sgPut σ j none).bind fun σ=>deL h ps ls σ V
    | _=>none
  | .mp j :: ps,ls,σ,V=>match ls with
    | .mp i :: ls=>(sgPut σ j (some i)).bind fun σ=>deL h ps ls σ V
    | _=>none
  | .ns :: ps,ls,σ,V=>match ls with
    | .ns :: ls=>deL h ps ls σ V
    | _=>none
  | .np :: ps,ls,σ,V=>match ls with
    | .np :: ls=>deL h ps ls σ V
    | _=>none
  | .nm :: ps,ls,σ,V=>match ls with
    | .nm :: ls=>deL h ps ls σ V
    | _=>none
  | .nf :: ps,ls,σ,V=>match ls with
    | .nf :: ls=>deL h ps ls σ V
    | _=>none
  | .ni :: ps,ls,σ,V=>match ls with
    | .ni :: ls=>deL h ps ls σ V
    | _=>none
  | .fn f :: ps,ls,σ,V=>match ls with
    | .fn f' [] :: ls=>bif Nat.beq f f' then deL h ps ls σ V else none
    | _=>none
  | .li k n :: ps,ls,σ,V=>match ls with
    | .d (.int k') m :: ls=>bif decide (k=k') && decide ((m:Int)=n) then deL h ps ls σ V else none
    | _=>none
  | .lb b :: ps,ls,σ,V=>match ls with
    | .d .bool m :: ls=>bif decide ((m:Bool)=b) then deL h ps ls σ V else none
    | _=>none
  | .er :: ps,ls,σ,V=>match ls with
    | .er b :: ls=>(deL h ps ls σ V).bind fun q=>some ((b,q.1),q.2)
    | .ni :: ls=>(deL h ps ls σ V).bind fun q=>some ((false,q.1),q.2)
    | _=>none
  | .bs j E :: ps,ls,σ,V=>match ls with
    | .bs i E' xs :: ls=>(castS (.row E') (.row E) xs).bind fun x=>(sgPut σ j (some i)).bind fun σ=>(deL h ps ls σ V).bind fun q=>some ((x,q.1),q.2)
    | _=>none
def deT (h:Nat→Obj G.α) : (vs:List (Bool×List PL))→List (Bool×List (Lf G))→Sg→List Nat→Option (HL G.α (shT vs)×Sg×List Nat)
  | [],ls,σ,V=>match ls with
    | []=>some ((),σ,V)
    | _=>none
  | (a,ps) :: vs,ls,σ,V=>match ls with
    | (a',l) :: ls=>bif a == a' then (deL h ps l σ V).bind fun q=>(deT h vs ls q.2.1 q.2.2).bind fun r=>some (HL.app _ q.1 r.1,r.2) else none
    | []=>none
def deV (h:Nat→Obj G.α) (g:Nat→AT G.α) : (vs:List (Nat×Bool×List PL))→Sg→List Nat→Option (HL G.α (shV vs)×Sg×List Nat)
  | [],σ,V=>some ((),σ,V)
  | (t,a,ps) :: vs,σ,V=>match nrmA (g t) with
    | .v a' ls=>bif a == a' then (deL h ps ls σ V).bind fun q=>(deV h g vs q.2.1 q.2.2).bind fun r=>some (HL.app _ q.1 r.1,r.2) else none
    | _=>none
def deO1 (h:Nat→Obj G.α) (o:PO) (ob:Obj G.α) (σ:Sg) (V:List Nat) : Option (HL G.α o.sh×Sg×List Nat):=match o,ob with
  | .blk T ps,.blk T' ls=>bif Nat.beq T T' then deL h ps ls σ V else none
  | .own E,.own E' xs=>(castS (.row E') (.row E) xs).bind fun x=>some ((x,()),σ,V)
  | .mp A B,.mp A' B' xs=>(castS (.kv A' B') (.kv A B) xs).bind fun x=>some ((x,()),σ,V)
  | .bd A B,.bd A' B' xs=>bif Nat.beq A A' && Nat.beq B B' then some ((xs,()),σ,V) else none
  | .bd A _,.blk T ls=>match ls with
    | [.np,.ns]=>bif Nat.beq A T then some ((([] : List UInt8),()),σ,V) else none
    | _=>none
  | .clo f bs cs,.clo f' bl cl=>bif Nat.beq f f' then (deT h bs bl σ V).bind fun q=>(deT h cs cl q.2.1 q.2.2).bind fun r=>some (HL.app _ q.1 r.1,r.2) else none
  | _,_=>none
def deO (h:Nat→Obj G.α) : (os:List (Nat×PO))→Sg→List Nat→Option (HL G.α (shO os)×Sg×List Nat)
  | [],σ,V=>some ((),σ,V)
  | (j,o) :: os,σ,V=>(match sgGet σ j with
      | some (some i)=>deO1 h o (h i) σ V
      | some none=>match o with
        | .own E=>some (([],()),σ,V)
        | _=>none
      | none=>(sgPut σ j (some j)).bind fun σ=>deO1 h o (h j) σ V).bind fun q=>(deO h os q.2.1 q.2.2).bind fun r=>some (HL.app _ q.1 r.1,r.2)
def dePat (p:Pat) (h:Nat→Obj G.α) (g:Nat→AT G.α) : Option (HL G.α p.sh×Sg×List Nat):=
  (deV h g p.vs [] []).bind fun q=>(deO h p.os q.2.1 q.2.2).bind fun r=>some (HL.app _ q.1 r.1,r.2)
end pat
structure Out (G:Gm) where
  pn:Bool
  p:Pat
  y:HL G.α p.sh
structure FS (G:Gm) where
  fid:Nat
  pin:Pat
  Rt:Type
  D:HL G.α pin.sh→Option Rt
  out:Rt→Out G
  el:(R:Type)→Rt→((pn:Bool)→(p:Pat)→HL G.α p.sh→Option R)→Option R
  law:∀ R r k,el R r k=k (out r).pn (out r).p (out r).y
  mods:List Nat
  fl:Bool
structure Fin_ (G:Gm) (RT:Type) where
  pn:Bool
  p:Pat
  w:HL G.α p.sh→RT
structure JH (G:Gm) where
  J:Type
  p:Pat
  wr:HL G.α p.sh→J
  un:J→HL G.α p.sh
  law:∀ y,un (wr y)=y
  sm:Bool
def HP (α:Nat→Type) : List Sh→Type
  | []=>Unit
  | [s]=>s.ty α
  | s :: ss=>s.ty α×HP α ss
def toP {α:Nat→Type}:(ss:List Sh)→HL α ss→HP α ss
  | [],_=>()
  | [_],y=>y.1
  | _ :: s :: ss,y=>(y.1,toP (s :: ss) y.2)
def ofP {α:Nat→Type}:(ss:List Sh)→HP α ss→HL α ss
  | [],_=>()
  | [_],y=>(y,())
  | _ :: s :: ss,y=>(y.1,ofP (s :: ss) y.2)
structure LH (G:Gm) (RT:Type) where
  I:Pat
  M:Pat
  X:Type
  L:HL G.α I.sh→HL G.α M.sh→Option X
  E:Pat
  out:X→Sum RT (HL G.α E.sh)
  el:(R:Type)→X→(RT→Option R)→(HL G.α E.sh→Option R)→Option R
  law:∀ R z kr ke,el R z kr ke=(match out z with | .inl r=>kr r | .inr e=>ke e)
structure Cx (G:Gm) (RT:Type) where
  P:Program
  fn:Func
  T:List Nat
  Δ:List (FS G)
  js:List (Nat×JH G)
  ls:List (Nat×LH G RT)
  rs:List (Nat×List Nat)
  ps:List (Nat×List Nat)
  cs:List (Nat×Bool×Nat)
  rc:Bool
  df:Option (Nat×FS G×FS G)
  fs:List (Fin_ G RT)
structure Sta (G:Gm) where
  env:EnvA G
  hp:HpA G
structure Kt (G:Gm) (RT R:Type) where
  nrm:Sta G→Option R
  ex:Nat→Sta G→Option R
  ret:RT→Option R
def assoc {β:Type 1}:List (Nat×β)→Nat→Option β
  | [],_=>none
  | (k,v) :: l,p=>bif Nat.beq k p then some v else assoc l p
def fnsOk {G:Gm} (os:List (Nat×PO)) (h:Nat→Obj G.α) (av:List (AT G.α)) : List (Nat×Bool×List PL)→Bool
  | []=>true
  | (t,_,[.fn f]) :: vs=>(match av.getD t .dd with | .v false [.fn f' _]=>Nat.beq f f' | _=>false) && fnsOk os h av vs
  | (t,_,[.ow j]) :: vs=>(match av.getD t .dd with
      | .v false [.ow i]=>(match h i with | .clo f' _ _=>os.any (fun q=>Nat.beq q.1 j && (match q.2 with | .clo f _ _=>Nat.beq f f' | _=>false)) | _=>true)
      | _=>true) && fnsOk os h av vs
  | _ :: vs=>fnsOk os h av vs
def fsOf {G:Gm} (h:Nat→Obj G.α) (av:List (AT G.α)) : List (FS G)→Nat→Option (FS G)
  | [],_=>none
  | s :: l,f=>bif Nat.beq s.fid f && fnsOk s.pin.os h av s.pin.vs then some s else fsOf h av l f
section code
variable {G:Gm} {RT R:Type}
def gA (e b:EnvA G) : Operand→AT G.α
  | .tmp t=>lkE (e++b) t
  | .const (.agg cs)=>bif (cs.toList.map (ofV G)).any isDd then .dd else .v true (cs.toList.map (ofV G))
  | .const v=>bif isDd (ofV G v) then .dd else .v false [ofV G v]
  | .func f => .v false [.fn f []]
  | _ => .dd
def putA (e:EnvA G) (d:Nat) (v:AT G.α) (K:EnvA G→Option R) : Option R:=K ((d,v) :: e)
def hits (M H:List Nat) : Lf G→Bool
  | .ow i=>H.contains i
  | .pe i _ _ _ _ _=>M.contains i
  | .pa i _ _ _ _ _ _=>M.contains i
  | .bs i _ _=>M.contains i
  | .pr i _ _ _=>M.contains i
  | _=>false
def hitsA (M H:List Nat) : AT G.α→Bool
  | .v _ ls=>ls.any (hits M H)
  | .tp l=>l.any fun q=>q.2.any (hits M H)
  | .ifc _ _ ls=>ls.any (hits M H)
  | _=>false
def strike (M H:List Nat) : List (Lf G)→List (Lf G)
  | []=>[]
  | l :: ls=>(bif hits M H l then .dd else l) :: strike M H ls
def killE (M H:List Nat) (f:EnvA G) : EnvA G→EnvA G
  | []=>[]
  | (t,v) :: e=>bif hitsA M H v && hitsA M H (lkE f t) then (t,.dd) :: killE M H f e else killE M H f e
def strikeT (M H:List Nat) (l:List (Bool×List (Lf G))) : List (Bool×List (Lf G)):=l.map fun q=>(q.1,strike M H q.2)
def strikeO (M H:List Nat) : Obj G.α→Obj G.α
  | .blk T ls => .blk T (strike M H ls)
  | .clo f bs cs => .clo f (strikeT M H bs) (strikeT M H cs)
  | ob=>ob
def hitsO (M H:List Nat) : Obj G.α→Bool
  | .blk _ ls=>ls.any (hits M H)
  | .clo _ bs cs=>(bs.any fun q=>q.2.any (hits M H)) || cs.any fun q=>q.2.any (hits M H)
  | _=>false
def killH (M H:List Nat) (f:HpA G) : HpA G→HpA G
  | []=>[]
  | (i,ob) :: e=>bif hitsO M H ob && hitsO M H (lkH f i) then (i,strikeO M H (lkH f i)) :: killH M H f e else killH M H f e
def namesL (i:Nat) : Lf G→Bool
  | .ow j=>Nat.beq j i
  | .pe j _ _ _ _ _=>Nat.beq j i
  | .pa j _ _ _ _ _ _=>Nat.beq j i
  | .bs j _ _=>Nat.beq j i
  | .pr j _ _ _=>Nat.beq j i
  | .pt j _=>Nat.beq j i
  | .mp j=>Nat.beq j i
  | .fn _ c=>c.contains i
  | _=>false
def namesA (i:Nat) : AT G.α→Bool
  | .v _ ls=>ls.any (namesL i)
  | .tp l=>l.any fun q=>q.2.any (namesL i)
  | .ifc _ _ ls=>ls.any (namesL i)
  | _=>false
def namesO (i:Nat) : Obj G.α→Bool
  | .blk _ ls=>ls.any (namesL i)
  | .clo _ bs cs=>(bs.any fun q=>q.2.any (namesL i)) || cs.any fun q=>q.2.any (namesL i)
  | _=>false
def freshE (i:Nat) : EnvA G→Bool
  | []=>true
  | (_,v) :: e => !(namesA i v) && freshE i e
def freshH (i:Nat) : HpA G→Bool
  | []=>true
  | (j,v) :: e => !(Nat.beq j i) && (!(namesO i v) && freshH i e)
def okId (i:Nat) (e b:EnvA G) (h hb:HpA G) : Bool:=Nat.ble 40 i && (freshE i e && (freshE i b && (freshH i h && freshH i hb)))
def renL (f:Nat→Nat) : Lf G→Lf G
  | .ow i => .ow (f i)
  | .pt i o => .pt (f i) o
  | .mp i => .mp (f i)
  | .bs i E xs => .bs (f i) E xs
  | l=>l
def renA (f:Nat→Nat) : AT G.α→AT G.α
  | .v a ls => .v a (ls.map (renL f))
  | a=>a
def renO (f:Nat→Nat) : Obj G.α→Obj G.α
  | .blk T ls => .blk T (ls.map (renL f))
  | .clo g bs cs => .clo g (bs.map fun q=>(q.1,q.2.map (renL f))) (cs.map fun q=>(q.1,q.2.map (renL f)))
  | o=>o
def newId (d q:Nat) : Nat:=100+20 * d+q
def backId (L:List Nat) (d:Nat) (i:Nat) : Nat:=bif Nat.ble 20 i then newId d (39 - i) else L.getD (i - 2) 0
def lFrom:List (Nat×PO)→Sg→Nat→List Nat
  | [],_,_=>[]
  | (j,_) :: os,σ,c=>match sgGet σ j with
    | some (some i)=>i :: lFrom os σ c
    | _=>c :: lFrom os σ (c+1)
def lNew:List (Nat×PO)→Sg→Nat→List Nat
  | [],_,_=>[]
  | (j,_) :: os,σ,c=>match sgGet σ j with
    | some (some _)=>lNew os σ c
    | _=>c :: lNew os σ (c+1)
def nodup:List Nat→Bool
  | []=>true
  | a :: l => !(l.contains a) && nodup l
def keysFrom {β:Type} (k:Nat) : List (Nat×β)→Bool
  | []=>true
  | (j,_) :: os=>Nat.beq j k && keysFrom (k+1) os
def plId:PL→List Nat
  | .pt i _ | .ow i | .mp i | .bs i _=>[i]
  | _=>[]
def poId:PO→List Nat
  | .blk _ ls=>ls.flatMap plId
  | .clo _ bs cs=>(bs++cs).flatMap fun q=>q.2.flatMap plId
  | _=>[]
def patIds (p:Pat) : List Nat:=(p.vs.flatMap fun v=>v.2.2.flatMap plId)++(p.os.flatMap fun q=>q.1 :: poId q.2)
def flS (G:Gm) : Sh→Bool
  | .st T=>G.fl T
  | .arr E _=>G.fl E
  | .row _=>false
  | .kv _ _=>false
  | _=>true
def flPL (G:Gm) : PL→Bool
  | .s s=>flS G s
  | .bs _ _=>false
  | _=>true
def flPO (G:Gm) : PO→Bool
  | .blk _ ls=>ls.all (flPL G)
  | .clo _ bs cs=>(bs++cs).all fun q=>q.2.all (flPL G)
  | .own E=>G.fl E
  | _=>true
def flP (G:Gm) (p:Pat) : Bool:=(p.vs.all fun v=>v.2.2.all (flPL G)) && p.os.all fun q=>flPO G q.2
def resAT:List (Nat×AT G.α)→Option (AT G.α)
  | [(_,v)]=>some v
  | l=>(l.mapM fun (q:Nat×AT G.α)=>match q.2 with | .v a ls=>some (a,ls) | _=>none).map .tp
def callK (M:List Nat) (vs:EnvA G) (os:HpA G) (dst:Option Nat) (eb:EnvA G) (hb:HpA G) (st:Sta G) (K:List Nat→Sta G→Option R) : Option R:=match dst with
  | none=>K M ⟨killE M M (st.env++eb) (st.env++eb)++st.env,os++((M.map fun m=>(m,.dd))++(killH M M (st.hp++hb) (st.hp++hb)++st.hp))⟩
  | some d=>(resAT vs).bind fun v=>K M ⟨(d,v) :: (killE M M (st.env++eb) (st.env++eb)++st.env),os++((M.map fun m=>(m,.dd))++(killH M M (st.hp++hb) (st.hp++hb)++st.hp))⟩
def panK (M:List Nat) (vs:EnvA G) (os:HpA G) (eb:EnvA G) (hb:HpA G) (st:Sta G) (Kp:List Nat→AT G.α→Sta G→Option R) : Option R:=match vs with
  | [(T,.v a ls)]=>Kp M (.ifc T a ls) ⟨killE M M (st.env++eb) (st.env++eb)++st.env,os++((M.map fun m=>(m,.dd))++(killH M M (st.hp++hb) (st.hp++hb)++st.hp))⟩
  | _=>none
def callOk (s:FS G) (n:Nat) (σ:Sg) (V L N:List Nat) (d:Nat) (ids:Nat→Bool) : Bool:=
  keysFrom 0 s.pin.vs && (Nat.beq s.pin.vs.length n && (keysFrom 2 s.pin.os && (nodup L && (Nat.ble L.length 17 && (((s.pin.os.all fun q=>(sgGet σ q.1).isSome) && (σ.all fun q=>match q.2 with | some i=>Nat.beq (vwt (0 :: V) L i) q.1 | none=>true)) &&
    (((List.range 20).all fun q=>ids (newId d q)) && (N.all ids && ((L.all fun i => !(Nat.ble (newId d 0) i && Nat.blt i (newId d 20))) && (s.mods.all fun m=>Nat.ble 2 m && Nat.blt m (2+L.length))))))))))
def outOk (G:Gm) (mods:List Nat) (n:Nat) (V:List Nat) (p:Pat) : Bool:=
  ((patIds p).all fun j=>(Nat.ble 20 j && Nat.ble j 39) || (Nat.ble 2 j && (Nat.blt j (2+n)))) && ((V.isEmpty || flP G p) && ((p.os.all fun q=>Nat.ble 20 q.1 || mods.contains q.1) && nodup (p.os.map (·.1))))
def callA (s:FS G) (args:List (AT G.α)) (dst:Option Nat) (eb:EnvA G) (hb:HpA G) (st:Sta G) (K:List Nat→Sta G→Option R) (Kp:List Nat→AT G.α→Sta G→Option R) : Option R:=
  match dePat s.pin (lkH (st.hp++hb)) (fun t=>args.getD t .dd) with
  | none=>none
  | some (y,σ,V) =>
    bif callOk s args.length σ V (lFrom s.pin.os σ (50+20 * dst.getD 0)) (lNew s.pin.os σ (50+20 * dst.getD 0)) (dst.getD 0) (fun i=>okId i st.env eb st.hp hb) then
      (s.D y).bind fun r=>s.el R r fun pn p z=>bif outOk G s.mods (lFrom s.pin.os σ (50+20 * dst.getD 0)).length V p then
        forceE ((inV p.vs (HL.l _ z)).map fun q=>(q.1,renA (backId (lFrom s.pin.os σ (50+20 * dst.getD 0)) (dst.getD 0)) q.2)) fun vs =>
        forceO ((inO p.os (HL.r (shV p.vs) z)).map fun q=>(backId (lFrom s.pin.os σ (50+20 * dst.getD 0)) (dst.getD 0) q.1,renO (backId (lFrom s.pin.os σ (50+20 * dst.getD 0)) (dst.getD 0)) q.2)) fun os =>
          bif pn then panK (s.mods.map fun m=>(lFrom s.pin.os σ (50+20 * dst.getD 0)).getD (m - 2) 0) vs os eb hb st Kp
          else callK (s.mods.map fun m=>(lFrom s.pin.os σ (50+20 * dst.getD 0)).getD (m - 2) 0) vs os dst eb hb st K
        else none
    else none
def atV:AT G.α→Option (Bool×List (Lf G))
  | .v a ls=>some (a,ls)
  | _=>none
def memA (x:Cx G RT) (g:Operand→AT G.α) (h:Nat→Obj G.α) (ids:Nat→Bool) (kE:List Nat→List Nat→EnvA G) (kH:List Nat→List Nat→HpA G) (o:Oper) (st:Sta G) (K:List Nat→Sta G→Option R) : Option R:=
  match o.op with
  | .box T v=>match o.dst,g v with
    | some d,.v _ ls=>bif ids (newId d 0) then K [] ⟨(d,.v false [.pt (newId d 0) 0]) :: st.env,(newId d 0,.blk T ls) :: st.hp⟩ else none
    | _,_=>none
  | .alloc T=>match o.dst with
    | some d=>bif ids (newId d 0) then (zeroT x.P G T).bind fun ls=>force ls fun ls=>K [] ⟨(d,.v false [.pt (newId d 0) 0]) :: st.env,(newId d 0,.blk T ls) :: st.hp⟩ else none
    | none=>none
  | .makeMap T none=>match o.dst,x.P.underlying T with
    | some d,some (.map A B)=>bif ids (newId d 0) && (G.qk A && G.qv B) then K [] ⟨(d,.v false [.mp (newId d 0)]) :: st.env,(newId d 0,.mp A B []) :: st.hp⟩ else none
    | _,_=>none
  | .mapUpdate T m k v=>match o.dst,x.P.underlying T,g m,g k,g v with
    | none,some (.map A B),.v false [.mp i],.v ag ks,.v false vs=>match h i with
      | .mp A' B' kvs=>bif (Nat.beq A A' && Nat.beq B B') && ((G.qk A' && G.qv B') && (ag == aggT x.P A')) then
          (clT G A' ks).bind fun kx=>(clT G B' vs).bind fun vx=>K [i] ⟨kE [i] []++st.env,(i,.mp A' B' (mput (G.eq A') kvs kx vx)) :: (kH [i] []++st.hp)⟩ else none
      | _=>none
    | _,_,_,_,_=>none
  | .store T a v=>match o.dst,g a,g v with
    | none,.v false [.pt i off],.v _ vs=>match h i with
      | .blk T' ls=>bif isT x.P T && Nat.beq (vs.map Leaf.sz).sum (sizeT x.P T) then (setC ls off (sizeT x.P T) vs).bind fun ls=>force ls fun ls =>
          bif ls.any (hits [i] []) then none else K [i] ⟨kE [i] []++st.env,(i,.blk T' ls) :: (kH [i] []++st.hp)⟩ else none
      | _=>none
    | none,.v false [.pe i E xs n y off],.v _ vs=>match h i with
      | .own E' xs'=>(castS (.row E') (.row E) xs').bind fun xs'=>bif (isT x.P T && Nat.beq (vs.map Leaf.sz).sum (sizeT x.P T)) && (Nat.beq E E' && !(Nat.beq i 0)) then
          (setC (opT G E y) off (sizeT x.P T) vs).bind fun ls=>(clT G E ls).bind fun z=>K [i] ⟨kE [i] []++st.env,(i,.own E (List.set xs' n.toNat z)) :: (kH [i] []++st.hp)⟩ else none
      | _=>none
    | _,_,_=>none
  | .buildSlice T n ps=>match o.dst,x.P.underlying T with
    | some d,some (.slice E)=>match ps.toList.mapM (fun (q:Nat×Operand)=>match g q.2 with | .v a ls=>(bif a == aggT x.P E then clT G E ls else none) | _=>none) with
      | some xs=>bif (ids (newId d 0) && (decide (ps.toList.map (·.1)=List.range n))) && ((isT x.P E && Nat.beq (sizeT x.P E) (G.rep E).sz) && (((x.P.info? E).map (fun i=>i.zero.isSome) == some true) && (Nat.ble (n * (G.rep E).sz) 16777216 && Nat.blt 0 (G.rep E).sz))) then
          K [] ⟨(d,.v false [.ow (newId d 0)]) :: st.env,(newId d 0,.own E xs) :: st.hp⟩ else none
      | none=>none
    | _,_=>none
  | .slice T y none (some hi) none=>match o.dst,g y,x.P.underlying T with
    | some d,.v false [.ow i],some (.slice E')=>match h i with
      | .own E xs=>bif (isT x.P E' && Nat.beq E E') && (Nat.beq (sizeT x.P E') (G.rep E).sz && !(Nat.beq i 0)) then (get1 (g hi) num?).bind fun u=>(cut xs 0 u).bind fun z =>
          K [i] ⟨(d,.v false [.ow i]) :: (kE [i] [i]++st.env),(i,.own E z) :: (kH [i] [i]++st.hp)⟩ else none
      | _=>none
    | _,_,_=>none
  | .makeFunc (.func f) bs cs=>match o.dst,bs.toList.mapM (fun y=>atV (g y)),cs.toList.mapM (fun y=>atV (g y)) with
    | some d,some bl,some cl=>bif ids (newId d 0) then K [] ⟨(d,.v false [.ow (newId d 0)]) :: st.env,(newId d 0,.clo f bl cl) :: st.hp⟩ else none
    | _,_,_=>none
  | .call c=>match c.callee with
    | .builtin .delete=>match c.args.toList,o.dst,c.argTypes.toList with
      | [m,k],none,[T,kT]=>match x.P.underlying T,g m,g k with
        | some (.map A B),.v false [.mp i],.v ag ks=>match h i with
          | .mp A' B' kvs=>bif (Nat.beq A A' && (Nat.beq B B' && Nat.beq A kT)) && ((G.qk A' && G.qv B') && (ag == aggT x.P A')) then
              (clT G A' ks).bind fun kx=>K [i] ⟨kE [i] []++st.env,(i,.mp A' B' (mdel (G.eq A') kvs kx)) :: (kH [i] []++st.hp)⟩ else none
          | _=>none
        | _,_,_=>none
      | _,_,_=>none
    | .builtin .append=>match c.args.toList,o.dst,c.argTypes.toList with
      | [a,b],some d,[T,U]=>match x.P.underlying T with
        | some (.slice E)=>match x.P.info? E with
          | some inf=>bif Nat.beq T U && ((match inf.zero with | some z=>Nat.beq z.cells.size (G.rep E).sz | none=>false) && (Nat.beq inf.size (G.rep E).sz && (Nat.blt 0 (G.rep E).sz && Nat.blt 0 inf.bytes))) then
            match (match g b with
              | .v false [.d (.row E') ys]=>castS (.row E') (.row E) ys
              | .v false [.ns]=>some []
              | .v false [.bs _ E' ys]=>castS (.row E') (.row E) ys
              | .v false [.ow j]=>match h j with
                | .own E' ys=>castS (.row E') (.row E) ys
                | _=>none
              | _=>none:Option (List (G.α E))) with
            | none=>none
            | some ys=>match g a with
              | .v false [.ow i]=>match h i with
                | .own E' xs=>(castS (.row E') (.row E) xs).bind fun xs=>bif Nat.beq i 0 then none else (chk (decide ((xs.length+ys.length) * inf.bytes≤140737488355328))).bind fun _ =>
                    K [i] ⟨(d,.v false [.ow i]) :: (kE [i] [i]++st.env),(i,.own E (xs++ys)) :: (kH [i] [i]++st.hp)⟩
                | _=>none
              | .v false [.ns]=>(chk (decide ((([] : List (G.α E)).length+ys.length) * inf.bytes≤140737488355328))).bind fun _ =>
                  bif ids (newId d 0) then K [newId d 0] ⟨(d,.v false [.ow (newId d 0)]) :: st.env,(newId d 0,.own E ([]++ys)) :: st.hp⟩ else none
              | _=>none
            else none
          | none=>none
        | _=>none
      | _,_,_=>none
    | _=>none
  | _=>none
def eop (x:Cx G RT) (eb:EnvA G) (hb:HpA G) (o:Oper) (st:Sta G) (K:List Nat→Sta G→Option R) (Kp:List Nat→AT G.α→Sta G→Option R) : Option R:=
  match o.op with
  | .panic y=>match nrmA (gA st.env eb y) with
    | .ifc T a ls=>Kp [] (.ifc T a ls) st
    | _=>none
  | .call c=>match c.callee with
    | .value f=>match gA st.env eb f with
      | .v false [.fn f []]=>match fsOf (lkH (st.hp++hb)) (c.args.toList.map fun y=>nrmA (gA st.env eb y)) x.Δ f with
        | some s=>callA s (c.args.toList.map fun y=>nrmA (gA st.env eb y)) o.dst eb hb st K Kp
        | none=>none
      | .v false [.ow i]=>match lkH (st.hp++hb) i with
        | .clo f bs cs=>match fsOf (lkH (st.hp++hb)) (bs.map (fun q=>AT.v q.1 q.2)++((c.args.toList.map fun y=>nrmA (gA st.env eb y))++cs.map (fun q=>AT.v q.1 q.2))) x.Δ f with
          | some s=>callA s (bs.map (fun q=>AT.v q.1 q.2)++((c.args.toList.map fun y=>nrmA (gA st.env eb y))++cs.map (fun q=>AT.v q.1 q.2))) o.dst eb hb st K Kp
          | none=>none
        | _=>none
      | _=>none
    | _=>memA x (fun y=>nrmA (gA st.env eb y)) (lkH (st.hp++hb)) (fun i=>okId i st.env eb st.hp hb) (fun M H=>killE M H (st.env++eb) (st.env++eb)) (fun M H=>killH M H (st.hp++hb) (st.hp++hb)) o st K
  | _=>memA x (fun y=>nrmA (gA st.env eb y)) (lkH (st.hp++hb)) (fun i=>okId i st.env eb st.hp hb) (fun M H=>killE M H (st.env++eb) (st.env++eb)) (fun M H=>killH M H (st.hp++hb) (st.hp++hb)) o st K
def isCut (a:AT G.α) (o:Oper) : Bool:=match o.op with
  | .slice _ _ none (some _) none=>match a with
    | .v false [.ow _]=>true
    | _=>false
  | _=>false
def opX (o:Oper) : Operand:=match o.op with
  | .slice _ y _ _ _=>y
  | _ => .const .nilIface
def isE (o:Oper) : Bool:=match o.op with
  | .store .. | .alloc .. | .box .. | .buildSlice .. | .mapUpdate .. | .makeMap .. | .panic .. => true
  | .makeFunc _ bs cs=>match bs.toList,cs.toList with
    | [],[]=>false
    | _,_=>true
  | .call c=>match c.callee with
    | .value _=>true
    | .builtin .append | .builtin .delete=>true
    | _=>false
  | _=>false
def isN (P:Program) (o:Oper) : Bool:=match o.op with
  | .move _ | .assign _ | .pick .. | .binOp .. | .unOp .. | .extract .. | .fieldAddr .. | .field .. | .indexAddr .. | .index .. | .slice .. | .nilCheck .. | .build .. | .makeInterface .. | .typeAssert .. => true
  | .makeFunc _ bs cs=>match bs.toList,cs.toList with
    | [],[]=>true
    | _,_=>false
  | .convert src _ _=>(match P.underlying src with | some (.slice _)=>false | _=>true)
  | .call c=>match c.callee with
    | .builtin .len | .builtin .max | .builtin .min=>true
    | _=>false
  | _=>false
def hitP (i:Nat) : Lf G→Bool
  | .ow j=>Nat.beq j i
  | .bs j _ _=>Nat.beq j i
  | .pe j _ _ _ _ _=>Nat.beq j i
  | .pr j _ _ _=>Nat.beq j i
  | .pa j _ _ _ _ _ _=>Nat.beq j i
  | _=>false
def pubL (i E:Nat) (xs:List (G.α E)) : Lf G→Lf G
  | .ow j=>bif Nat.beq j i then .d (.row E) xs else .ow j
  | .bs j E' ys=>bif Nat.beq j i then .d (.row E') ys else .bs j E' ys
  | .pe j E' ys n y o=>bif Nat.beq j i then .pe 0 E' ys n y o else .pe j E' ys n y o
  | .pr j E' y o=>bif Nat.beq j i then .pr 0 E' y o else .pr j E' y o
  | .pa j o E' m ys n y=>bif Nat.beq j i then .dd else .pa j o E' m ys n y
  | l=>l
def hitPT (i:Nat) (l:List (Bool×List (Lf G))) : Bool:=l.any fun q=>q.2.any (hitP i)
def pubT (i E:Nat) (xs:List (G.α E)) (l:List (Bool×List (Lf G))) : List (Bool×List (Lf G)):=l.map fun q=>(q.1,q.2.map (pubL i E xs))
def hitPA (i:Nat) : AT G.α→Bool
  | .v _ ls=>ls.any (hitP i)
  | .tp l=>hitPT i l
  | .ifc _ _ ls=>ls.any (hitP i)
  | _=>false
def pubAT (i E:Nat) (xs:List (G.α E)) : AT G.α→AT G.α
  | .v a ls => .v a (ls.map (pubL i E xs))
  | .tp l => .tp (pubT i E xs l)
  | .ifc T a ls => .ifc T a (ls.map (pubL i E xs))
  | a=>a
def hitPO (i:Nat) : Obj G.α→Bool
  | .blk _ ls=>ls.any (hitP i)
  | .clo _ bs cs=>hitPT i bs || hitPT i cs
  | _=>false
def pubO (i E:Nat) (xs:List (G.α E)) : Obj G.α→Obj G.α
  | .blk T ls => .blk T (ls.map (pubL i E xs))
  | .clo f bs cs => .clo f (pubT i E xs bs) (pubT i E xs cs)
  | o=>o
def pubE (i E:Nat) (xs:List (G.α E)) (f:EnvA G) : EnvA G→EnvA G
  | []=>[]
  | (t,v) :: e=>bif hitPA i v && hitPA i (lkE f t) then (t,pubAT i E xs (lkE f t)) :: pubE i E xs f e else pubE i E xs f e
def pubH (i E:Nat) (xs:List (G.α E)) (f:HpA G) : HpA G→HpA G
  | []=>[]
  | (t,v) :: e=>bif hitPO i v && hitPO i (lkH f t) then (t,pubO i E xs (lkH f t)) :: pubH i E xs f e else pubH i E xs f e
def pubS (eb:EnvA G) (hb:HpA G) : List Nat→Sta G→(Sta G→Option R)→Option R
  | [],st,K=>K st
  | i :: V,st,K=>match lkH (st.hp++hb) i with
    | .own E xs=>bif Nat.ble 40 i then
        forceE (pubE i E xs (st.env++eb) (st.env++eb)) fun e=>forceO (pubH i E xs (st.hp++hb) (st.hp++hb)) fun h=>pubS eb hb V ⟨e++st.env,(i,.dd) :: (h++st.hp)⟩ K
      else pubS eb hb V st K
    | _=>pubS eb hb V st K
def idsL:List (Lf G)→List Nat
  | []=>[]
  | .ow i :: ls=>bif Nat.ble 40 i then i :: idsL ls else idsL ls
  | _ :: ls=>idsL ls
def idsA:AT G.α→List Nat
  | .v _ ls=>idsL ls
  | _=>[]
def pubOf (x:Cx G RT) (eb:EnvA G) (hb:HpA G) (st:Sta G) (o:Oper) : List Nat:=match o.op with
  | .slice _ y _ _ _=>bif isCut (gA st.env eb y) o then [] else idsA (gA st.env eb y)
  | .buildSlice _ _ ps=>ps.toList.flatMap fun q=>idsA (gA st.env eb q.2)
  | .mapUpdate _ _ _ v=>idsA (gA st.env eb v)
  | .store _ a v=>match gA st.env eb a with
    | .v false [.pe ..]=>idsA (gA st.env eb v)
    | _=>[]
  | .call c=>match c.callee with
    | .value f=>match gA st.env eb f with
      | .v false [.fn f []]=>match fsOf (lkH (st.hp++hb)) (c.args.toList.map fun y=>nrmA (gA st.env eb y)) x.Δ f with
        | some s=>bif s.fl then [] else match dePat s.pin (lkH (st.hp++hb)) (fun t=>(c.args.toList.map fun y=>nrmA (gA st.env eb y)).getD t .dd) with
          | some (_,_,V)=>V
          | none=>[]
        | none=>[]
      | .v false [.ow i]=>match lkH (st.hp++hb) i with
        | .clo f bs cs=>match fsOf (lkH (st.hp++hb)) (bs.map (fun q=>AT.v q.1 q.2)++((c.args.toList.map fun y=>nrmA (gA st.env eb y))++cs.map (fun q=>AT.v q.1 q.2))) x.Δ f with
          | some s=>bif s.fl then [] else match dePat s.pin (lkH (st.hp++hb)) (fun t=>(bs.map (fun q=>AT.v q.1 q.2)++((c.args.toList.map fun y=>nrmA (gA st.env eb y))++cs.map (fun q=>AT.v q.1 q.2))).getD t .dd) with
            | some (_,_,V)=>V
            | none=>[]
          | none=>[]
        | _=>[]
      | _=>[]
    | _=>[]
  | _=>[]
noncomputable def op1 (x:Cx G RT) (eb:EnvA G) (hb:HpA G) (o:Oper) (st:Sta G) (K:Sta G→Option R) (Kp:AT G.α→Sta G→Option R) : Option R:=
  pubS eb hb (pubOf x eb hb st o) st fun st =>
  bif isE o || isCut (gA st.env eb (opX o)) o then eop x eb hb o st (fun M st=>bif okM M x.T && !(M.contains 0) then K st else none) (fun M v st=>bif okM M x.T && !(M.contains 0) then Kp v st else none)
  else match o.dst with
    | none=>none
    | some d=>bif isN x.P o then nop x.P (lkH (st.hp++hb)) (gA st.env eb) o.op fun v=>K ⟨(d,v) :: st.env,st.hp⟩
      else rop x.P (lkH (st.hp++hb)) (gA st.env eb) o.op fun v=>K ⟨(d,v) :: st.env,st.hp⟩
def refine_ (c:Operand) (b e:Bool) (st:Sta G) : Sta G:=match c with
  | .tmp t=>⟨(t,.kn b e) :: st.env,st.hp⟩
  | _=>st
def guardA (ops:Array Oper) (eb:EnvA G) (g:Nat) (b:Bool) (st:Sta G) (Y N:Sta G→Option R) : Option R:=
  match ops[g]? with
  | some og=>match og.dst with
    | some gd=>match lkE (st.env++eb) gd with
      | .un=>N st
      | .kn c _=>bif c == b then Y st else N st
      | .v false [.d .bool c]=>bif (c:Bool) then (bif b then Y (refine_ (.tmp gd) true c st) else N (refine_ (.tmp gd) true c st)) else (bif b then N (refine_ (.tmp gd) false c st) else Y (refine_ (.tmp gd) false c st))
      | _=>none
    | none=>none
  | none=>none
def unput (o:Oper) (st:Sta G) : Sta G:=match o.dst with
  | some d=>⟨(d,.un) :: st.env,st.hp⟩
  | none=>st
noncomputable def opsA (x:Cx G RT) (ops:Array Oper) (eb:EnvA G) (hb:HpA G) (Kp:AT G.α→Sta G→Option R) : List Oper→Sta G→(Sta G→Option R)→Option R
  | [],st,K=>K st
  | o :: l,st,K=>match o.guard with
    | none=>op1 x eb hb o st (fun st=>opsA x ops eb hb Kp l st K) Kp
    | some (g,b)=>guardA ops eb g b st (fun st=>op1 x eb hb o st (fun st=>opsA x ops eb hb Kp l st K) Kp) (fun st=>opsA x ops eb hb Kp l (unput o st) K)
def ropOk (eD:EnvA G) (hD:HpA G) (o:Oper) : Bool:=match o.op with
  | .load _ x=>match gA eD [] x with
    | .v false [.pt i _]=>match lkH hD i with | .blk .. => true | _=>false
    | .v false [.pe ..]=>true
    | _=>false
  | .lookup _ x y _=>match gA eD [] x,gA eD [] y with
    | .v false [.mp i],.v _ _=>match lkH hD i with | .mp .. => true | _=>false
    | _,_=>false
  | _=>false
def stV (M:List Nat) (v:AT G.α) : AT G.α:=bif hitsA M M v then .dd else v
def stableE (M:List Nat) : EnvA G→EnvA G
  | []=>[]
  | (t,v) :: e=>(t,stV M v) :: stableE M e
def stableH (M:List Nat) : HpA G→HpA G
  | []=>[]
  | (i,ob) :: e=>(i,bif M.contains i then .dd else ob) :: stableH M e
def tmpsOf (l:List Operand) : List Nat:=l.filterMap fun x=>match x with | .tmp t=>some t | _=>none
def allD (eD:EnvA G) (o:Oper) : Bool:=(tmpsOf o.op.operands.toList).all fun t=>match lkE eD t with | .dd=>false | _=>true
def guardAT (ops:Array Oper) (e:EnvA G) (g:Nat) : AT G.α:=match ops[g]? with
  | some og=>match og.dst with
    | some gd=>lkE e gd
    | none => .dd
  | none => .dd
def ancs (ops:Array Oper) : Nat→List Nat→List Nat
  | 0,m=>m
  | q+1,m=>bif m.contains q then (match ops[q]? with
      | some o=>ancs ops q ((o.after.toList.filter (Region.binds .any)).map (·.on)++m)
      | none=>ancs ops q m) else ancs ops q m
def lastL (ops:Array Oper) : Nat:=match ops[ops.size - 1]? with
  | some o=>bif (match o.op with | .store .. | .mapUpdate .. => true | _=>false) && (o.guard.isNone && ((List.range (ops.size - 1)).all fun q=>(ancs ops ops.size [ops.size - 1]).contains q)) then ops.size - 1 else ops.size
  | none=>ops.size
def candA (P:Program) (ops:Array Oper) (L:Nat) (listed:Array Bool) (ready:List Nat) (eD:EnvA G) (hD:HpA G) (e:EnvA G) (q:Nat) : Bool:=match ops[q]? with
  | some o=>ready.contains q && (!(Nat.beq q L) && (o.dst.isSome && (Region.free .any ops listed q && match o.guard with
    | none=>(isN P o && !(isCut (gA e [] (opX o)) o)) || ropOk eD hD o
    | some (g,_)=>match guardAT ops e g with
      | .un=>true
      | .kn c b'=>(c != (o.guard.getD (0,c)).2) || ((isN P o && !(isCut (gA e [] (opX o)) o)) || ropOk eD hD o)
      | .v false [.d .bool _]=>(isN P o && !(isCut (gA e [] (opX o)) o)) || ropOk eD hD o
      | _=>false)))
  | none=>false
def guardM (ops:Array Oper) (e:EnvA G) (Y N:EnvA G→Option R) : Option (Nat×Bool)→Option R
  | none=>Y []
  | some (g,b)=>match ops[g]? with
    | some og=>match og.dst with
      | some gd=>match lkE e gd with
        | .un=>N []
        | .kn c _=>bif c == b then Y [] else N []
        | .v false [.d .bool c]=>bif (c:Bool) then (bif b then Y [(gd,.kn true c)] else N [(gd,.kn true c)]) else (bif b then N [(gd,.kn false c)] else Y [(gd,.kn false c)])
        | _=>none
      | none=>none
    | none=>none
def chkd (o:Oper) : Bool:=match o.op with
  | .indexAddr .. | .index .. | .slice .. => true
  | _=>false
noncomputable def takeA (P:Program) (M:List Nat) (ph:Bool) (eD:EnvA G) (hD:HpA G) (eb:EnvA G) (hb:HpA G) (st:Sta G) (o:Oper) (K:AT G.α→AT G.α→Option R) : Option R:=
  bif ph then
    (bif isN P o then nop P (lkH (st.hp++hb)) (gA st.env eb) o.op fun v=>K (stV M v) v
     else rop P (lkH hD) (gA eD []) o.op fun v=>K (stV M v) v)
  else bif isN P o then
      (bif allD eD o && !(chkd o) then nop P (lkH hD) (gA eD []) o.op fun vD=>nop P (lkH (st.hp++hb)) (gA st.env eb) o.op fun v=>K (stV M vD) v
       else nop P (lkH (st.hp++hb)) (gA st.env eb) o.op fun v=>K .dd v)
    else rop P (lkH hD) (gA eD []) o.op fun vD=>rop P (lkH (st.hp++hb)) (gA st.env eb) o.op fun v=>K (stV M vD) v
def ddD (o:Oper) (eD:EnvA G) : EnvA G:=match o.dst with
  | some d=>(d,.dd) :: eD
  | none=>eD
noncomputable def drawA (x:Cx G RT) (ops:Array Oper) (L:Nat) (M:List Nat) (hD:HpA G) (eb:EnvA G) (hb:HpA G) (Kp:AT G.α→Sta G→Option R) : Nat→Nat→Bool→EnvA G→Sta G→(Sta G→Option R)→Option R
  | 0,mask,_,_,st,K=>match Region.ready .any ops (lb ops.size mask) with
    | []=>K st
    | _=>none
  | fuel+1,mask,ph,eD,st,K=>match (Region.ready .any ops (lb ops.size mask)).find? (candA x.P ops L (lb ops.size mask) (Region.ready .any ops (lb ops.size mask)) eD hD (st.env++eb)) with
    | some q=>match ops[q]? with
      | some o=>match o.dst with
        | none=>none
        | some d=>guardM ops (st.env++eb)
            (fun mk=>takeA x.P M ph (mk++eD) hD eb hb ⟨mk++st.env,st.hp⟩ o fun vD v=>drawA x ops L M hD eb hb Kp fuel (mask ||| (1 <<< q)) ph ((d,vD) :: (mk++eD)) ⟨(d,v) :: (mk++st.env),st.hp⟩ K)
            (fun mk=>drawA x ops L M hD eb hb Kp fuel (mask ||| (1 <<< q)) ph ((d,.un) :: (mk++eD)) ⟨(d,.un) :: (mk++st.env),st.hp⟩ K) o.guard
      | none=>none
    | none=>match Region.ready .any ops (lb ops.size mask) with
      | []=>K st
      | [q]=>match ops[q]? with
        | some o=>guardM ops (st.env++eb)
            (fun mk=>bif isE o || isCut (gA (mk++st.env) eb (opX o)) o then eop x eb hb o ⟨mk++st.env,st.hp⟩ (fun M' st=>bif (okM M' x.T && !(M'.contains 0)) && (subM M' M || (Nat.beq q L && (Region.ready .any ops (lb ops.size (mask ||| (1 <<< q)))).isEmpty)) then drawA x ops L M hD eb hb Kp fuel (mask ||| (1 <<< q)) false (ddD o (mk++eD)) st K else none) (fun M' v st=>bif okM M' x.T && !(M'.contains 0) then Kp v st else none)
              else match o.dst with
                | none=>none
                | some d=>bif isN x.P o then nop x.P (lkH (st.hp++hb)) (gA (mk++st.env) eb) o.op fun v=>drawA x ops L M hD eb hb Kp fuel (mask ||| (1 <<< q)) ph ((d,.dd) :: (mk++eD)) ⟨(d,v) :: (mk++st.env),st.hp⟩ K
                  else rop x.P (lkH (st.hp++hb)) (gA (mk++st.env) eb) o.op fun v=>drawA x ops L M hD eb hb Kp fuel (mask ||| (1 <<< q)) ph ((d,.dd) :: (mk++eD)) ⟨(d,v) :: (mk++st.env),st.hp⟩ K)
            (fun mk=>drawA x ops L M hD eb hb Kp fuel (mask ||| (1 <<< q)) ph (ddD o (mk++eD)) (unput o ⟨mk++st.env,st.hp⟩) K) o.guard
        | none=>none
      | [q,q']=>match ops[q]?,ops[q']? with
        | some o,some o'=>bif (isE o && isE o') && (o.guard.isNone && o'.guard.isNone) then
            both (eop x eb hb o st (fun M' st=>bif (okM M' x.T && !(M'.contains 0)) && subM M' M then drawA x ops L M hD eb hb Kp fuel (mask ||| (1 <<< q)) false (ddD o eD) st K else none) (fun M' v st=>bif okM M' x.T && !(M'.contains 0) then Kp v st else none))
              (eop x eb hb o' st (fun M' st=>bif (okM M' x.T && !(M'.contains 0)) && subM M' M then drawA x ops L M hD eb hb Kp fuel (mask ||| (1 <<< q')) false (ddD o' eD) st K else none) (fun M' v st=>bif okM M' x.T && !(M'.contains 0) then Kp v st else none)) else none
        | _,_=>none
      | _=>none
noncomputable def regD (x:Cx G RT) (ops:Array Oper) (M:List Nat) (eb:EnvA G) (hb:HpA G) (Kp:AT G.α→Sta G→Option R) (st:Sta G) (K:Sta G→Option R) : Option R:=
  bif Region.noSelect ops && !(M.contains 0) then drawA x ops (lastL ops) M (stableH M (st.hp++hb)) eb hb Kp ops.size 0 true (stableE M (st.env++eb)) st K else none
def natAssoc:List (Nat×List Nat)→Nat→List Nat
  | [],_=>[]
  | (k,v) :: l,p=>bif Nat.beq k p then v else natAssoc l p
def resA (P:Program) (e:EnvA G) (h:Nat→Obj G.α) (k:Nat) : List ResultVar→Option (List (Nat×AT G.α))
  | []=>some []
  | .tmp t :: l=>(resA P e h (k+1) l).bind fun r=>some ((k,nrmA (lkE e t)) :: r)
  | .cell t T :: l=>match lkE e t with
    | .v false [.pt i o]=>match h i with
      | .blk _ ls=>bif !(isT P T) then none else (dropC ls o).bind fun q=>(takeC q (sizeT P T)).bind fun q=>bif aggT P T || Nat.beq (sizeT P T) 1 then (resA P e h (k+1) l).bind fun r=>some ((k,.v (aggT P T) q) :: r) else none
      | _=>none
    | _=>none
def tagOf:Sg→Nat→Nat
  | [],_=>1
  | (j,some i) :: σ,t=>bif Nat.beq i t then j else tagOf σ t
  | (_,none) :: σ,t=>tagOf σ t
def isOwnO:Obj G.α→Bool
  | .own _ _=>true
  | _=>false
def finOk (T:List Nat) (h:Nat→Obj G.α) (p:Pat) (k n:Nat) (σ:Sg) : Bool:=
  keysFrom k p.vs && (Nat.beq p.vs.length n && ((σ.all fun q=>(match q.2 with | some i=>Nat.beq q.1 i | none=>false) || (Nat.ble 20 q.1 || (T.contains q.1 && isOwnO (h q.1)))) &&
    ((p.os.all fun q=>(sgGet σ q.1).isSome) && σ.all fun q=>match q.2 with | some i=>Nat.beq (tagOf σ i) q.1 && ((Nat.beq q.1 i || Nat.ble 40 i) && !(Nat.beq i 0)) | none=>true)))
def finL (T:List Nat) (pn:Bool) (k n:Nat) (h:Nat→Obj G.α) (g:Nat→AT G.α) : List (Fin_ G RT)→Option RT
  | []=>none
  | a :: l=>bif a.pn == pn then (match dePat a.p h g with
      | some (y,σ,V)=>bif finOk T h a.p k n σ && V.all (fun i=>Nat.ble 40 i && (σ.all fun q=>match q.2 with | some j => !(Nat.beq i j) | none=>true)) then some (a.w y) else none
      | none=>finL T pn k n h g l) else finL T pn k n h g l
def resFin (x:Cx G RT) (eb:EnvA G) (hb:HpA G) (st:Sta G) : Option RT:=
  (resA x.P (st.env++eb) (lkH (st.hp++hb)) 0 x.fn.results.toList).bind fun rs=>finL x.T false 0 x.fn.results.toList.length (lkH (st.hp++hb)) (fun t=>lkE rs t) x.fs
def dfrA (x:Cx G RT) (s:FS G) (more:List (AT G.α)) (eb:EnvA G) (hb:HpA G) (st:Sta G) : Option RT:=match lkH (st.hp++hb) 30 with
  | .clo f [] cs=>bif Nat.beq s.fid f then callA s (cs.map (fun q=>AT.v q.1 q.2)++more) none eb hb st (fun M st=>bif okM M x.T && !(M.contains 0) then resFin x eb hb st else none) (fun _ _ _=>none) else none
  | _=>none
def finA (x:Cx G RT) (eb:EnvA G) (hb:HpA G) (st:Sta G) : Option RT:=match x.df with
  | none=>resFin x eb hb st
  | some (_,sr,_)=>dfrA x sr [] eb hb st
def panA (x:Cx G RT) (eb:EnvA G) (hb:HpA G) (v:AT G.α) (st:Sta G) : Option RT:=match v with
  | .ifc T a ls=>match x.df with
    | none=>finL x.T true T 1 (lkH (st.hp++hb)) (fun t=>lkE [(T,.v a ls)] t) x.fs
    | some (T',_,sc)=>bif Nat.beq T T' then dfrA x sc [.v a ls] eb hb st else none
  | _=>none
def dfrK (x:Cx G RT) (s:FS G) (more:List (AT G.α)) (eb:EnvA G) (hb:HpA G) (st:Sta G) (K:RT→Option R) : Option R:=match lkH (st.hp++hb) 30 with
  | .clo f [] cs=>bif Nat.beq s.fid f then callA s (cs.map (fun q=>AT.v q.1 q.2)++more) none eb hb st (fun M st=>bif okM M x.T && !(M.contains 0) then (resFin x eb hb st).bind K else none) (fun _ _ _=>none) else none
  | _=>none
def finK (x:Cx G RT) (eb:EnvA G) (hb:HpA G) (st:Sta G) (K:RT→Option R) : Option R:=match x.df with
  | none=>(resFin x eb hb st).bind K
  | some (_,sr,_)=>dfrK x sr [] eb hb st K
def panKx (x:Cx G RT) (eb:EnvA G) (hb:HpA G) (v:AT G.α) (st:Sta G) (K:RT→Option R) : Option R:=match x.df with
  | none=>(panA x eb hb v st).bind K
  | some (T',_,sc)=>match v with
    | .ifc T a ls=>bif Nat.beq T T' then dfrK x sc [.v a ls] eb hb st K else none
    | _=>none
def kill1 (ks:List Nat) : EnvA G:=ks.map fun t=>(t,.dd)
def killO (ks:List Nat) : HpA G:=ks.map fun t=>(t,.dd)
def keysOk {β:Type} (l:List (Nat×β)) (ks:List Nat) : Bool:=l.all fun q=>ks.contains q.1
def newOk {β γ:Type} (l:List (Nat×β)) (b:List (Nat×γ)) (ks:List Nat) : Bool:=l.all fun q=>ks.contains q.1 || !(b.any fun r=>Nat.beq r.1 q.1)
def toPat (p:Pat) (eb:EnvA G) (hb:HpA G) (st:Sta G) (K:HL G.α p.sh→Option R) : Option R:=
  match dePat p (lkH (st.hp++hb)) (lkE (st.env++eb)) with
  | some (y,σ,[])=>bif σ.all (fun q=>match q.2 with | some i=>Nat.beq q.1 i | none=>okId q.1 st.env eb st.hp hb) then K y else none
  | _=>none
def asgO:List Oper→List Nat
  | []=>[]
  | o :: l=>match o.dst with | some d=>d :: asgO l | none=>asgO l
def asgC:Code→List Nat
  | .region _ ops _=>asgO ops.toList
  | .seq a b=>asgC a++asgC b
  | .cond _ a b=>asgC a++asgC b
  | .block _ c=>asgC c
  | .loop c=>asgC c
  | .scope c=>asgC c
  | _=>[]
def cutA (x:Cx G RT) (e:EnvA G) (p:Nat) (b:Bool) : Bool:=x.cs.any fun q=>Nat.beq q.1 p && (q.2.1 == b && (match lkE e q.2.2 with | .v false [.np]=>true | _=>false))
noncomputable def codeA (x:Cx G RT) : Code→Nat→(R:Type)→EnvA G→HpA G→Sta G→Kt G RT R→Option R
  | .skip,_,_,_,_,st,K=>K.nrm st
  | .label _,_,_,_,_,st,K=>K.nrm st
  | .exit i,_,_,_,_,st,K=>K.ex i st
  | .ret,_,_,eb,hb,st,K=>finK x eb hb st K.ret
  | .region _ ops dr,p,_,eb,hb,st,K=>pubS eb hb (natAssoc x.ps p) st fun st=>bif dr then bif x.rc then none else regD x ops (natAssoc x.rs p) eb hb (fun v st=>panKx x eb hb v st K.ret) st K.nrm else opsA x ops eb hb (fun v st=>panKx x eb hb v st K.ret) ops.toList st K.nrm
  | .scope c,p,R,eb,hb,st,K=>bif x.rc then none else codeA x c (2 * p) R eb hb st K
  | .cond c a b,p,R,eb,hb,st,K=>match gA st.env eb c with
    | .kn t _=>bif t then codeA x a (2 * p) R eb hb st K else codeA x b (2 * p+1) R eb hb st K
    | .v false [.d .bool t]=>bif (t:Bool) then (bif cutA x (st.env++eb) p true then none else codeA x a (2 * p) R eb hb (refine_ c true t st) K) else (bif cutA x (st.env++eb) p false then none else codeA x b (2 * p+1) R eb hb (refine_ c false t st) K)
    | _=>none
  | .seq a b,p,R,eb,hb,st,K=>match assoc x.js p with
    | none=>codeA x a (2 * p) R eb hb st { K with nrm:=fun st=>codeA x b (2 * p+1) R eb hb st K }
    | some j=>bif j.sm then
        (codeA x a (2 * p) (Sum RT j.J) (st.env++eb) (st.hp++hb) ⟨[],[]⟩
          { nrm:=fun st'=>bif keysOk st'.env (asgC a++(j.p.vs.map (·.1)++(killE (j.p.os.map (·.1)) (j.p.os.map (·.1)) (st.env++eb) (st.env++eb)).map (·.1))) && newOk st'.hp (st.hp++hb) (j.p.os.map (·.1)) then toPat j.p (st.env++eb) (st.hp++hb) st' fun y=>some (.inr (j.wr y)) else none,
            ex:=fun _ _=>none,
            ret:=fun r=>some (.inl r) }).bind fun z=>match z with
        | .inl r=>K.ret r
        | .inr v=>forceE (inV j.p.vs (HL.l _ (j.un v))) fun e=>forceO (inO j.p.os (HL.r (shV j.p.vs) (j.un v))) fun h =>
            codeA x b (2 * p+1) R eb hb ⟨e++(kill1 (asgC a)++(killE (j.p.os.map (·.1)) (j.p.os.map (·.1)) (st.env++eb) (st.env++eb)++st.env)),h++st.hp⟩ K
      else
        (codeA x a (2 * p) j.J (st.env++eb) (st.hp++hb) ⟨[],[]⟩
          { nrm:=fun st'=>bif keysOk st'.env (asgC a++(j.p.vs.map (·.1)++(killE (j.p.os.map (·.1)) (j.p.os.map (·.1)) (st.env++eb) (st.env++eb)).map (·.1))) && newOk st'.hp (st.hp++hb) (j.p.os.map (·.1)) then toPat j.p (st.env++eb) (st.hp++hb) st' fun y=>some (j.wr y) else none,
            ex:=fun _ _=>none,
            ret:=fun _=>none }).bind fun v =>
          forceE (inV j.p.vs (HL.l _ (j.un v))) fun e=>forceO (inO j.p.os (HL.r (shV j.p.vs) (j.un v))) fun h =>
            codeA x b (2 * p+1) R eb hb ⟨e++(kill1 (asgC a)++(killE (j.p.os.map (·.1)) (j.p.os.map (·.1)) (st.env++eb) (st.env++eb)++st.env)),h++st.hp⟩ K
  | .block id (.loop _),p,R,eb,hb,st,K=>match assoc x.ls p with
    | none=>none
    | some l=>toPat l.I eb hb st fun i =>
        forceE (inV l.I.vs (HL.l _ i)) fun e2=>forceO (inO l.I.os (HL.r (shV l.I.vs) i)) fun h2 =>
        toPat l.M eb hb ⟨e2++st.env,h2++st.hp⟩ fun m=>(l.L i m).bind fun z=>l.el R z K.ret fun v =>
          forceE (inV l.E.vs (HL.l _ v)) fun e=>forceO (inO l.E.os (HL.r (shV l.E.vs) v)) fun h =>
            K.nrm ⟨e++(e2++kill1 ((st.env++eb).map (·.1))),h++(h2++killO ((st.hp++hb).map (·.1)))⟩
  | .block id c,p,R,eb,hb,st,K=>codeA x c (2 * p) R eb hb st { K with ex:=fun i st=>bif Nat.beq i id then K.nrm st else K.ex i st }
  | _,_,_,_,_,_,_=>none
noncomputable def codeAt:Code→Nat→Nat→Option Code
  | c,0,_=>some c
  | .seq a b,n+1,p=>bif p.testBit n then codeAt b n p else codeAt a n p
  | .cond _ a b,n+1,p=>bif p.testBit n then codeAt b n p else codeAt a n p
  | .block _ c,n+1,p=>codeAt c n p
  | .scope c,n+1,p=>codeAt c n p
  | .loop c,n+1,p=>codeAt c n p
  | _,_,_=>none
noncomputable def bodyA (x:Cx G RT) (pin:Pat) (y:HL G.α pin.sh) : Option RT:=
  match x.fn.body with
  | some c=>forceE (inV pin.vs (HL.l _ y)) fun e=>forceO (inO pin.os (HL.r (shV pin.vs) y)) fun h =>
      codeA x c 1 RT [] [] ⟨e,h⟩ { nrm:=fun st=>finA x [] [] st,ex:=fun _ _=>none,ret:=some }
  | none=>none
def isDef (o:Oper) : Bool:=match o.op with
  | .defer _=>true
  | _=>false
noncomputable def opsD (x:Cx G RT) (Kp:AT G.α→Sta G→Option R) : List Oper→Sta G→(Sta G→Option R)→Option R
  | [],_,_=>none
  | o :: l,st,K=>match o.op with
    | .defer c=>match l,c.callee,c.args.toList with
      | [],.value y,[]=>bif o.guard.isSome || o.dst.isSome then none else match gA st.env [] y with
        | .v false [.ow i]=>match lkH (st.hp++[]) i with
          | .clo f [] cs=>bif freshE 30 (st.env++[]) && freshH 30 (st.hp++[]) then K ⟨st.env,(30,.clo f [] cs) :: st.hp⟩ else none
          | _=>none
        | _=>none
      | _,_,_=>none
    | _=>bif o.guard.isSome then none else op1 x [] [] o st (fun st=>opsD x Kp l st K) Kp
noncomputable def codeD (x0 x:Cx G RT) : Code→Nat→Sta G→Option RT
  | .seq a b,p,st=>match a with
    | .region _ ops dr=>bif ops.toList.any isDef then bif dr then none else opsD x0 (fun v st=>panA x0 [] [] v st) ops.toList st fun st=>codeA x b (2 * p+1) RT [] [] st { nrm:=fun st=>finA x [] [] st,ex:=fun _ _=>none,ret:=some }
      else codeA x0 a (2 * p) RT [] [] st { nrm:=fun st=>codeD x0 x b (2 * p+1) st,ex:=fun _ _=>none,ret:=some }
    | a=>codeA x0 a (2 * p) RT [] [] st { nrm:=fun st=>codeD x0 x b (2 * p+1) st,ex:=fun _ _=>none,ret:=some }
  | _,_,_=>none
noncomputable def bodyD (x0 x:Cx G RT) (pin:Pat) (y:HL G.α pin.sh) : Option RT:=
  match x.fn.body with
  | some c=>forceE (inV pin.vs (HL.l _ y)) fun e=>forceO (inO pin.os (HL.r (shV pin.vs) y)) fun h=>codeD x0 x c 1 ⟨e,h⟩
  | none=>none
def isRec (o:Oper) : Bool:=match o.op,o.guard with
  | .call r,none=>(match r.callee,r.args.toList,r.argTypes.toList with
    | .builtin .recover,[],[]=>true
    | _,_,_=>false)
  | _,_=>false
noncomputable def bodyR (x:Cx G RT) (T:Option Nat) (pin:Pat) (y:HL G.α pin.sh) : Option RT:=
  match x.fn.body with
  | some (.seq (.region _ ops false) c)=>match ops.toList with
    | [o]=>match o.dst with
      | some d=>bif !(isRec o) then none else forceE (inV pin.vs (HL.l _ y)) fun e=>forceO (inO pin.os (HL.r (shV pin.vs) y)) fun h =>
          match T with
          | none=>codeA x c 3 RT [] [] ⟨(d,.v false [.ni]) :: e,h⟩ { nrm:=fun st=>finA x [] [] st,ex:=fun _ _=>none,ret:=some }
          | some T=>match lkE e (pin.vs.length - 1) with
            | .v a ls=>codeA x c 3 RT [] [] ⟨(d,.ifc T a ls) :: (pin.vs.length - 1,.dd) :: e,h⟩ { nrm:=fun st=>finA x [] [] st,ex:=fun _ _=>none,ret:=some }
            | _=>none
      | none=>none
    | _=>none
  | _=>none
def rePat (re:Bool) (I M:Pat) (eb:EnvA G) (hb:HpA G) (i:HL G.α I.sh) (st:Sta G) (f:HL G.α I.sh→HL G.α M.sh→Option R) : Option R:=
  bif !re then (bif st.env.all (fun q => !((I.vs.map (·.1)).contains q.1)) && st.hp.all (fun q => !((I.os.map (·.1)).contains q.1)) then toPat M eb hb st fun m=>f i m else none) else
  toPat I eb hb st fun i=>forceE (inV I.vs (HL.l _ i)) fun e2=>forceO (inO I.os (HL.r (shV I.vs) i)) fun h2=>toPat M eb hb ⟨e2++st.env,h2++st.hp⟩ fun m=>f i m
noncomputable def roundA (re:Bool) (x:Cx G RT) (X:Type) (p:Nat) (I M E:Pat) (inl:RT→Option X) (ex:HL G.α I.sh→HL G.α E.sh→Option X) (again:HL G.α I.sh→HL G.α M.sh→Option X) (i:HL G.α I.sh) (m:HL G.α M.sh) : Option X:=
  match x.fn.body with
  | some c=>match codeAt c (Nat.log2 p) p with
    | some (.block id (.loop b)) =>
      forceE (inV I.vs (HL.l _ i)) fun eb=>forceO (inO I.os (HL.r (shV I.vs) i)) fun hb =>
      forceE (inV M.vs (HL.l _ m)) fun e=>forceO (inO M.os (HL.r (shV M.vs) m)) fun h =>
        codeA x b (4 * p) X eb hb ⟨e,h⟩
          { nrm:=fun st=>rePat re I M eb hb i st again,
            ex:=fun k st=>bif Nat.beq k id then rePat re I E eb hb i st ex else none,
            ret:=inl }
    | _=>none
  | none=>none
end code
end Go.Proofs.YtpmkkhkphddfeaaGreatDoor.SX
set_option linter.unusedVariables false
set_option linter.unusedSimpArgs false
namespace Go.Proofs.YtpmkkhkphddfeaaGreatDoor.SX
open Go Go.RowKit
theorem beqC (a b:Nat) : Nat.beq a b=Nat.beq b a:=by
  cases h:Nat.beq a b with
  | true=>rw [Nat.eq_of_beq_eq_true h]; simp
  | false =>
    cases k:Nat.beq b a with
    | false=>rfl
    | true=>rw [Nat.eq_of_beq_eq_true k] at h; simp at h
section rel
variable {G:Gm}
def isP:Value→Bool
  | .pointer _ | .map _=>true
  | _=>false
def LR (hv:Nat→Value) (o:Tags) (w:World) : Lf G→List Value→Prop
  | .d s x,cs=>(s.rep G).R (fun b=>o b=0) w x cs
  | .ns,cs=>cs=[.slice none 0 0]
  | .np,cs=>cs=[.pointer none]
  | .nm,cs=>cs=[.map none]
  | .nf,cs=>cs=[.nilFunc]
  | .ni,cs=>cs=[.nilIface]
  | .dd,cs => ∃ v,cs=[v]∧v.oneCell'=true
  | .pt i j,cs => ∃ b,hv i = .pointer (some ⟨b,0,none⟩)∧cs=[.pointer (some ⟨b,j,none⟩)]
  | .ow i,cs=>cs=[hv i]∧(hv i).oneCell'=true
  | .mp i,cs => ∃ b,hv i = .map (some b)∧cs=[.map (some b)]
  | .pe i E xs n x off,cs => ∃ ad c,cs=[.pointer (some (ad.add off))]∧o ad.block=i∧ad.block < w.heap.size∧(G.rep E).R (fun b=>o b=0) w x c∧(∀ j u,c[j]?=some u→w.cell? (ad.add j)=some u) ∧
      (i≠0→∃ a c',hv i = .slice (some a) xs.length c'∧ad=a.add (n.toNat * (G.rep E).sz)∧0≤n∧n < xs.length)
  | .pa ..,_=>False
  | .fn f c,cs=>c=[]∧cs=[.func (.func f) #[] #[]]
  | .er b,cs => ∃ v,cs=[v]∧IsErr b v
  | .bs i E xs,cs => ∃ A c,cs=[.slice A xs.length c]∧xs.length≤c∧Row (G.rep E) (fun b=>o b=i) (fun b=>o b=0) w A xs
  | .pr i E x off,cs => ∃ (ad:Addr) (c:List Value),cs=[.pointer (some (ad.add off))]∧o ad.block=i∧ad.block < w.heap.size∧(G.rep E).R (fun b=>o b=0) w x c∧∀ j u,c[j]?=some u→w.cell? (ad.add j)=some u
def LRs (hv:Nat→Value) (o:Tags) (w:World) : List (Lf G)→List Value→Prop
  | [],cs=>cs=[]
  | l :: ls,cs => ∃ c0 c1,cs=c0++c1∧LR hv o w l c0∧LRs hv o w ls c1
def V1 (hv:Nat→Value) (o:Tags) (w:World) (a:Bool) (ls:List (Lf G)) (v:Value) : Prop:=
  ∃ cs,LRs hv o w ls cs∧((a=true∧v = .agg cs.toArray)∨(a=false∧cs=[v]))
def TRs (hv:Nat→Value) (o:Tags) (w:World) : List (Bool×List (Lf G))→List Value→Prop
  | [],vs=>vs=[]
  | q :: l,vs => ∃ v r,vs=v :: r∧V1 hv o w q.1 q.2 v∧TRs hv o w l r
def VR (hv:Nat→Value) (o:Tags) (w:World) : AT G.α→Value→Prop
  | .v a ls,v=>V1 hv o w a ls v
  | .tp l,v => ∃ vs,v = .tuple vs.toArray∧TRs hv o w l vs
  | .ifc T a ls,v => ∃ u,v = .iface T u∧V1 hv o w a ls u
  | .kn b c,v=>b=c∧v = .bool c
  | .un,v=>v=undef
  | .dd,_=>True
def OR (hv:Nat→Value) (o:Tags) (w:World) (i:Nat) : Obj G.α→Prop
  | .blk T ls => ∃ b cs,hv i = .pointer (some ⟨b,0,none⟩)∧Bk o w i b cs T∧LRs hv o w ls cs
  | .own E xs=>Own (G.rep E) E i o w (hv i) xs
  | .mp K V kvs => ∃ b,hv i = .map (some b)∧Mp (G.ek K) (G.ek V) i o w b kvs
  | .bd T E s => ∃ b,hv i = .pointer (some ⟨b,0,none⟩)∧Bd T E i o w b s
  | .clo f bs cs => ∃ vb vc,hv i = .func (.func f) vb.toArray vc.toArray∧TRs hv o w bs vb∧TRs hv o w cs vc
  | .dd=>True
variable {hv hv':Nat→Value} {o o':Tags} {w w':World} {M H:List Nat} {J:Nat→Prop}
theorem isErr_one {b:Bool} {v:Value} (h:IsErr b v) : v.oneCell'=true:=by
  cases b with
  | true=>obtain ⟨T,u,rfl⟩:=h; rfl
  | false=>rw [show v = .nilIface from h]; rfl
theorem LR.one:∀ {l:Lf G} {cs:List Value},LR hv o w l cs→∀ u ∈ cs,u.oneCell'=true
  | .d s x,cs,h=>(s.rep G).one h
  | .ns,_,h=>by intro u hu; rw [show _=[_] from h] at hu; rw [List.mem_singleton.1 hu]; rfl
  | .np,_,h=>by intro u hu; rw [show _=[_] from h] at hu; rw [List.mem_singleton.1 hu]; rfl
  | .nm,_,h=>by intro u hu; rw [show _=[_] from h] at hu; rw [List.mem_singleton.1 hu]; rfl
  | .nf,_,h=>by intro u hu; rw [show _=[_] from h] at hu; rw [List.mem_singleton.1 hu]; rfl
  | .ni,_,h=>by intro u hu; rw [show _=[_] from h] at hu; rw [List.mem_singleton.1 hu]; rfl
  | .dd,_,⟨v,h,k⟩=>by intro u hu; rw [h] at hu; rw [List.mem_singleton.1 hu]; exact k
  | .pt i j,_,⟨b,_,h⟩=>by intro u hu; rw [h] at hu; rw [List.mem_singleton.1 hu]; rfl
  | .ow i,_,⟨h,k⟩=>by intro u hu; rw [h] at hu; rw [List.mem_singleton.1 hu]; exact k
  | .mp i,_,⟨b,_,h⟩=>by intro u hu; rw [h] at hu; rw [List.mem_singleton.1 hu]; rfl
  | .pe i E xs n x off,_,⟨ad,c,h,_⟩=>by intro u hu; rw [h] at hu; rw [List.mem_singleton.1 hu]; rfl
  | .fn f c,_,⟨_,h⟩=>by intro u hu; rw [h] at hu; rw [List.mem_singleton.1 hu]; rfl
  | .er b,_,⟨v,h,k⟩=>by intro u hu; rw [h] at hu; rw [List.mem_singleton.1 hu]; exact isErr_one k
  | .bs i E xs,_,⟨A,c,h,_⟩=>by intro u hu; rw [h] at hu; rw [List.mem_singleton.1 hu]; rfl
  | .pr i E x off,_,⟨ad,c,h,_⟩=>by intro u hu; rw [h] at hu; rw [List.mem_singleton.1 hu]; rfl
theorem LR.len:∀ {l:Lf G} {cs:List Value},LR hv o w l cs→cs.length=l.sz
  | .d s x,cs,h=>(s.rep G).len h
  | .ns,_,h=>by rw [show _=[_] from h]; rfl
  | .np,_,h=>by rw [show _=[_] from h]; rfl
  | .nm,_,h=>by rw [show _=[_] from h]; rfl
  | .nf,_,h=>by rw [show _=[_] from h]; rfl
  | .ni,_,h=>by rw [show _=[_] from h]; rfl
  | .dd,_,⟨v,h,k⟩=>by rw [h]; rfl
  | .pt i j,_,⟨b,_,h⟩=>by rw [h]; rfl
  | .ow i,_,⟨h,k⟩=>by rw [h]; rfl
  | .mp i,_,⟨b,_,h⟩=>by rw [h]; rfl
  | .pe i E xs n x off,_,⟨ad,c,h,_⟩=>by rw [h]; rfl
  | .fn f c,_,⟨_,h⟩=>by rw [h]; rfl
  | .er b,_,⟨v,h,k⟩=>by rw [h]; rfl
  | .bs i E xs,_,⟨A,c,h,_⟩=>by rw [h]; rfl
  | .pr i E x off,_,⟨ad,c,h,_⟩=>by rw [h]; rfl
theorem LRs.one:∀ {ls:List (Lf G)} {cs:List Value},LRs hv o w ls cs→∀ u ∈ cs,u.oneCell'=true
  | [],cs,h=>by intro u hu; rw [show cs=[] from h] at hu; cases hu
  | l :: ls,cs,⟨c0,c1,e,h0,h1⟩=>by
    intro u hu
    rw [e] at hu
    rcases List.mem_append.1 hu with hu | hu
    · exact h0.one u hu
    · exact h1.one u hu
theorem LRs.len:∀ {ls:List (Lf G)} {cs:List Value},LRs hv o w ls cs→cs.length=(ls.map Leaf.sz).sum
  | [],cs,h=>by rw [show cs=[] from h]; rfl
  | l :: ls,cs,⟨c0,c1,e,h0,h1⟩=>by rw [e,List.length_append,h0.len,h1.len]; simp
theorem LRs.app:∀ {a b:List (Lf G)} {c d:List Value},LRs hv o w a c→LRs hv o w b d→LRs hv o w (a++b) (c++d)
  | [],b,c,d,h,k=>by rw [show c=[] from h]; exact k
  | l :: a,b,c,d,⟨c0,c1,e,h0,h1⟩,k=>⟨c0,c1++d,by rw [e,List.append_assoc],h0,h1.app k⟩
theorem LRs.split:∀ {a b:List (Lf G)} {c:List Value},LRs hv o w (a++b) c→∃ c0 c1,c=c0++c1∧LRs hv o w a c0∧LRs hv o w b c1
  | [],b,c,h=>⟨[],c,rfl,rfl,h⟩
  | l :: a,b,c,⟨c0,c1,e,h0,h1⟩=>by
    obtain ⟨d0,d1,e1,k0,k1⟩:=LRs.split h1
    exact ⟨c0++d0,d1,by rw [e,e1,List.append_assoc],⟨c0,d0,rfl,h0,k0⟩,k1⟩
theorem LRs.single {l:Lf G} {cs:List Value} (h:LR hv o w l cs) : LRs hv o w [l] cs:=⟨cs,[],by simp,h,rfl⟩
theorem LRs.of1 {l:Lf G} {cs:List Value} (h:LRs hv o w [l] cs) : LR hv o w l cs:=by
  obtain ⟨c0,c1,e,h0,h1⟩:=h
  rw [show c1=[] from h1,List.append_nil] at e
  rw [e]; exact h0
theorem takeC_ok:∀ {ls r:List (Lf G)} {n:Nat} {cs:List Value},takeC ls n=some r→LRs hv o w ls cs→LRs hv o w r (cs.take n)∧(cs.take n).length=n
  | [],r,n,cs,h,k=>by
    unfold takeC at h
    cases hn:Nat.beq n 0 with
    | false=>rw [hn] at h; cases h
    | true =>
      rw [hn] at h; cases h
      rw [Nat.eq_of_beq_eq_true hn]
      exact ⟨by simp [LRs],by simp⟩
  | l :: ls,r,n,cs,h,k=>by
    unfold takeC at h
    cases hn:Nat.beq n 0 with
    | true =>
      rw [hn] at h; cases h
      rw [Nat.eq_of_beq_eq_true hn]
      exact ⟨by simp [LRs],by simp⟩
    | false =>
      rw [hn] at h
      cases hb:Nat.ble l.sz n with
      | false=>rw [hb] at h; cases h
      | true =>
        rw [hb] at h
        obtain ⟨r',hr,h⟩:=bindE h
        cases h
        obtain ⟨c0,c1,rfl,h0,h1⟩:=k
        have hl:=h0.len
        have hb':=Nat.le_of_ble_eq_true hb
        obtain ⟨i1,i2⟩:=takeC_ok hr h1
        rw [List.take_append,List.take_of_length_le (by omega),hl]
        exact ⟨⟨c0,_,rfl,h0,i1⟩,by rw [List.length_append,i2]; omega⟩
theorem dropC_ok:∀ {ls r:List (Lf G)} {n:Nat} {cs:List Value},dropC ls n=some r→LRs hv o w ls cs→LRs hv o w r (cs.drop n)∧n≤cs.length
  | [],r,n,cs,h,k=>by
    unfold dropC at h
    cases hn:Nat.beq n 0 with
    | false=>rw [hn] at h; cases h
    | true =>
      rw [hn] at h; cases h
      rw [Nat.eq_of_beq_eq_true hn]
      exact ⟨by simpa using k,Nat.zero_le _⟩
  | l :: ls,r,n,cs,h,k=>by
    unfold dropC at h
    cases hn:Nat.beq n 0 with
    | true =>
      rw [hn] at h; cases h
      rw [Nat.eq_of_beq_eq_true hn]
      exact ⟨by simpa using k,Nat.zero_le _⟩
    | false =>
      rw [hn] at h
      cases hb:Nat.ble l.sz n with
      | false=>rw [hb] at h; cases h
      | true =>
        rw [hb] at h
        obtain ⟨c0,c1,rfl,h0,h1⟩:=k
        have hl:=h0.len
        have hb':=Nat.le_of_ble_eq_true hb
        obtain ⟨i1,i2⟩:=dropC_ok h h1
        rw [List.drop_append,List.drop_of_length_le (by omega),hl]
        exact ⟨by simpa using i1,by rw [List.length_append]; omega⟩
theorem force_ok {R:Type}:∀ {ls:List (Lf G)} {K:List (Lf G)→Option R},force ls K=K ls
  | [],K=>rfl
  | l :: ls,K=>by cases l <;> (unfold force; exact force_ok)
theorem forceT_ok {R:Type}:∀ {l:List (Bool×List (Lf G))} {K:List (Bool×List (Lf G))→Option R},forceT l K=K l
  | [],K=>rfl
  | (a,ls) :: l,K=>by unfold forceT; rw [force_ok]; exact forceT_ok
theorem forceE_ok {R:Type}:∀ {e:EnvA G} {K:EnvA G→Option R},forceE e K=K e
  | [],K=>rfl
  | (t,v) :: e,K=>by cases v <;> (unfold forceE; first | exact forceE_ok | (rw [force_ok]; exact forceE_ok))
theorem forceO_ok {R:Type}:∀ {e:HpA G} {K:HpA G→Option R},forceO e K=K e
  | [],K=>rfl
  | (t,v) :: e,K=>by cases v <;> (unfold forceO; first | exact forceO_ok | (rw [force_ok]; exact forceO_ok) | (rw [forceT_ok,forceT_ok]; exact forceO_ok))
def Agr (hv hv':Nat→Value) (H:List Nat) (J:Nat→Prop) : Prop:=∀ i,¬ J i→(isP (hv i)=true∨H.contains i=false)→hv' i=hv i
theorem contains_false {M:List Nat} {i:Nat} (h:M.contains i=false) : i ∉ M:=fun hm=>by rw [← List.contains_iff_mem,h] at hm; cases hm
theorem LR.step (s:Step o w o' w' M) (h0:M.contains 0=false) (hH:∀ i,M.contains i=false→H.contains i=false) (A:Agr hv hv' H J) : ∀ {l:Lf G} {cs:List Value},(∀ j,J j→namesL j l=false)→hits M H l=false→LR hv o w l cs→LR hv' o' w' l cs
  | .d s' x,cs,_,_,h=>D.step (r:=s'.rep G) h s h0
  | .ns,_,_,_,h=>h
  | .np,_,_,_,h=>h
  | .nm,_,_,_,h=>h
  | .nf,_,_,_,h=>h
  | .ni,_,_,_,h=>h
  | .dd,_,_,_,h=>h
  | .pt i j,_,hJ,_,⟨b,e,h⟩=>⟨b,by rw [A i (fun hj=>by have:=hJ i hj; simp [namesL] at this) (.inl (by rw [e]; rfl)),e],h⟩
  | .ow i,_,hJ,hh,⟨h,k⟩=>by
    have:hv' i=hv i:=A i (fun hj=>by have:=hJ i hj; simp [namesL] at this) (.inr hh)
    exact ⟨by rw [this]; exact h,by rw [this]; exact k⟩
  | .mp i,_,hJ,_,⟨b,e,h⟩=>⟨b,by rw [A i (fun hj=>by have:=hJ i hj; simp [namesL] at this) (.inl (by rw [e]; rfl)),e],h⟩
  | .pe i E xs n x off,_,hJ,hh,⟨ad,c,e,ht,hb,hR,hc,ho⟩=>by
    have hk:w'.heap[ad.block]?=w.heap[ad.block]?:=s.keep _ hb (by rw [ht]; exact contains_false hh)
    refine ⟨ad,c,e,(s.own _ hb).trans ht,lt_move hb hk,D.step (r:=G.rep E) hR s h0,fun j u hu=>?_,fun hi=>?_⟩
    · rw [cell_move (w:=w) (by rw [add_block]; exact hk)]; exact hc j u hu
    · rw [A i (fun hj=>by have:=hJ i hj; simp [namesL] at this) (.inr (hH i hh))]; exact ho hi
  | .fn f c,_,_,_,h=>h
  | .er b,_,_,_,h=>h
  | .bs i E xs,_,_,hh,⟨A,c,e,hl,hr⟩=>⟨A,c,e,hl,Row.stepB hr s hh h0⟩
  | .pr i E x off,_,hJ,hh,⟨ad,c,e,ht,hb,hR,hc⟩=>by
    have hk:w'.heap[ad.block]?=w.heap[ad.block]?:=s.keep _ hb (by rw [ht]; exact contains_false hh)
    refine ⟨ad,c,e,(s.own _ hb).trans ht,lt_move hb hk,D.step (r:=G.rep E) hR s h0,fun j u hu=>?_⟩
    rw [cell_move (w:=w) (by rw [add_block]; exact hk)]; exact hc j u hu
theorem LRs.step (s:Step o w o' w' M) (h0:M.contains 0=false) (hH:∀ i,M.contains i=false→H.contains i=false) (A:Agr hv hv' H J) : ∀ {ls:List (Lf G)} {cs:List Value},(∀ j,J j→ls.any (namesL j)=false)→LRs hv o w ls cs→LRs hv' o' w' (strike M H ls) cs
  | [],cs,_,h=>h
  | l :: ls,cs,hJ,⟨c0,c1,e,k0,k1⟩=>by
    have i1:=LRs.step s h0 hH A (fun j hj=>by have:=hJ j hj; rw [List.any_cons,Bool.or_eq_false_iff] at this; exact this.2) k1
    refine ⟨c0,c1,e,?_,i1⟩
    cases hh:hits M H l with
    | false=>exact LR.step s h0 hH A (fun j hj=>by have:=hJ j hj; rw [List.any_cons,Bool.or_eq_false_iff] at this; exact this.1) hh k0
    | true =>
      have h1:=k0.one
      have h2:=k0.len
      have h3:l.sz=1:=by cases l <;> first | rfl | cases hh
      rw [h3] at h2
      match c0,h2 with
      | [v],_=>exact ⟨v,rfl,h1 v (List.mem_singleton.2 rfl)⟩
theorem strike_same:∀ {ls:List (Lf G)},ls.any (hits M H)=false→strike M H ls=ls
  | [],_=>rfl
  | l :: ls,h=>by
    rw [List.any_cons,Bool.or_eq_false_iff] at h
    unfold strike
    rw [h.1,strike_same h.2]; rfl
theorem V1.step (s:Step o w o' w' M) (h0:M.contains 0=false) (hH:∀ i,M.contains i=false→H.contains i=false) (A:Agr hv hv' H J) {a:Bool} {ls:List (Lf G)} {v:Value} (hJ:∀ j,J j→ls.any (namesL j)=false) (hh:ls.any (hits M H)=false) (h:V1 hv o w a ls v) : V1 hv' o' w' a ls v:=by
  obtain ⟨cs,h1,h2⟩:=h
  have:=LRs.step s h0 hH A hJ h1
  rw [strike_same hh] at this
  exact ⟨cs,this,h2⟩
theorem TRs.step (s:Step o w o' w' M) (h0:M.contains 0=false) (hH:∀ i,M.contains i=false→H.contains i=false) (A:Agr hv hv' H J) : ∀ {l:List (Bool×List (Lf G))} {vs:List Value},(∀ j,J j→(l.any fun q=>q.2.any (namesL j))=false)→(l.any fun q=>q.2.any (hits M H))=false→TRs hv o w l vs→TRs hv' o' w' l vs
  | [],_,_,_,h=>h
  | q :: l,vs,hJ,hh,⟨v,r,e,k0,k1⟩=>by
    rw [List.any_cons,Bool.or_eq_false_iff] at hh
    exact ⟨v,r,e,V1.step s h0 hH A (fun j hj=>by have:=hJ j hj; rw [List.any_cons,Bool.or_eq_false_iff] at this; exact this.1) hh.1 k0,
      TRs.step s h0 hH A (fun j hj=>by have:=hJ j hj; rw [List.any_cons,Bool.or_eq_false_iff] at this; exact this.2) hh.2 k1⟩
theorem VR.step (s:Step o w o' w' M) (h0:M.contains 0=false) (hH:∀ i,M.contains i=false→H.contains i=false) (A:Agr hv hv' H J) : ∀ {a:AT G.α} {v:Value},(∀ j,J j→namesA j a=false)→hitsA M H a=false→VR hv o w a v→VR hv' o' w' a v
  | .v a ls,v,hJ,hh,h=>V1.step s h0 hH A hJ hh h
  | .tp l,v,hJ,hh,⟨vs,e,h⟩=>⟨vs,e,TRs.step s h0 hH A hJ hh h⟩
  | .ifc T a ls,v,hJ,hh,⟨u,e,h⟩=>⟨u,e,V1.step s h0 hH A hJ hh h⟩
  | .kn _ _,_,_,_,h=>h
  | .un,_,_,_,h=>h
  | .dd,_,_,_,h=>h
theorem TRs.stepS (s:Step o w o' w' M) (h0:M.contains 0=false) (hH:∀ i,M.contains i=false→H.contains i=false) (A:Agr hv hv' H J) : ∀ {l:List (Bool×List (Lf G))} {vs:List Value},(∀ j,J j→(l.any fun q=>q.2.any (namesL j))=false)→TRs hv o w l vs→TRs hv' o' w' (strikeT M H l) vs
  | [],_,_,h=>h
  | q :: l,vs,hJ,⟨v,r,e,⟨cs,k0,k2⟩,k1⟩ =>
    ⟨v,r,e,⟨cs,LRs.step s h0 hH A (fun j hj=>by have:=hJ j hj; rw [List.any_cons,Bool.or_eq_false_iff] at this; exact this.1) k0,k2⟩,
      TRs.stepS s h0 hH A (fun j hj=>by have:=hJ j hj; rw [List.any_cons,Bool.or_eq_false_iff] at this; exact this.2) k1⟩
theorem strikeT_same:∀ {l:List (Bool×List (Lf G))},(l.any fun q=>q.2.any (hits M H))=false→strikeT M H l=l
  | [],_=>rfl
  | q :: l,h=>by
    rw [List.any_cons,Bool.or_eq_false_iff] at h
    show (q.1,strike M H q.2) :: strikeT M H l=_
    rw [strike_same h.1,strikeT_same h.2]
theorem OR.step (s:Step o w o' w' M) (h0:M.contains 0=false) (hH:∀ i,M.contains i=false→H.contains i=false) (A:Agr hv hv' H J) {i:Nat} (hi:M.contains i=false) (hJi:¬ J i) : ∀ {ob:Obj G.α},(∀ j,J j→namesO j ob=false)→OR hv o w i ob→OR hv' o' w' i (strikeO M H ob)
  | .blk T ls,hJ,⟨b,cs,e,hB,hl⟩=>⟨b,cs,by rw [A i hJi (.inr (hH i hi)),e],hB.step s hi,LRs.step s h0 hH A hJ hl⟩
  | .own E xs,hJ,h=>by
    show Own _ _ _ _ _ (hv' i) _
    rw [A i hJi (.inr (hH i hi))]; exact Own.step h s hi h0
  | .mp K V kvs,hJ,⟨b,e,h⟩=>⟨b,by rw [A i hJi (.inr (hH i hi)),e],h.step s hi⟩
  | .bd T E x,hJ,⟨b,e,h⟩=>⟨b,by rw [A i hJi (.inr (hH i hi)),e],h.step s hi h0⟩
  | .clo f bs cs,hJ,⟨vb,vc,e,hb,hc⟩=>⟨vb,vc,by rw [A i hJi (.inr (hH i hi)),e],TRs.stepS s h0 hH A (fun j hj=>by have:=hJ j hj; unfold namesO at this; rw [Bool.or_eq_false_iff] at this; exact this.1) hb,TRs.stepS s h0 hH A (fun j hj=>by have:=hJ j hj; unfold namesO at this; rw [Bool.or_eq_false_iff] at this; exact this.2) hc⟩
  | .dd,_,_=>trivial
theorem strikeO_same {ob:Obj G.α} (h:hitsO M H ob=false) : strikeO M H ob=ob:=by
  cases ob with
  | blk T ls=>exact congrArg _ (strike_same h)
  | clo f bs cs =>
    unfold hitsO at h
    rw [Bool.or_eq_false_iff] at h
    show Obj.clo f (strikeT M H bs) (strikeT M H cs)=_
    rw [strikeT_same h.1,strikeT_same h.2]
  | _=>rfl
theorem lkE_app:∀ {e f:EnvA G} {t:Nat},(∀ q ∈ e,Nat.beq q.1 t=false)→lkE (e++f) t=lkE f t
  | [],_,_,_=>rfl
  | (k,v) :: e,f,t,h=>by
    show (bif Nat.beq k t then v else lkE (e++f) t)=_
    rw [show Nat.beq k t=false from h _ List.mem_cons_self,cond_false]
    exact lkE_app fun q hq=>h q (List.mem_cons_of_mem _ hq)
theorem lkE_cases:∀ (e f:EnvA G) (t:Nat),(∃ v,(t,v) ∈ e∧lkE (e++f) t=v∧lkE e t=v)∨((∀ q ∈ e,Nat.beq q.1 t=false)∧lkE (e++f) t=lkE f t∧lkE e t = .dd)
  | [],f,t => .inr ⟨fun q hq=>(by cases hq),rfl,rfl⟩
  | (k,v) :: e,f,t=>by
    cases hk:Nat.beq k t with
    | true =>
      obtain rfl:k=t:=Nat.eq_of_beq_eq_true hk
      exact .inl ⟨v,List.mem_cons_self,by simp [lkE],by simp [lkE]⟩
    | false =>
      have e1:∀ g,lkE ((k,v) :: g) t=lkE g t:=fun g=>by show (bif Nat.beq k t then v else lkE g t)=_; rw [hk]; rfl
      rcases lkE_cases e f t with ⟨v',hm,h1,h2⟩|⟨hn,h1,h2⟩
      · exact .inl ⟨v',List.mem_cons_of_mem _ hm,(e1 _).trans h1,(e1 _).trans h2⟩
      · refine .inr ⟨fun q hq=>?_,(e1 _).trans h1,(e1 _).trans h2⟩
        rcases List.mem_cons.1 hq with rfl | hq
        · exact hk
        · exact hn q hq
theorem lkH_cases:∀ (e f:HpA G) (t:Nat),(∃ v,(t,v) ∈ e∧lkH (e++f) t=v∧lkH e t=v)∨((∀ q ∈ e,Nat.beq q.1 t=false)∧lkH (e++f) t=lkH f t∧lkH e t = .dd)
  | [],f,t => .inr ⟨fun q hq=>(by cases hq),rfl,rfl⟩
  | (k,v) :: e,f,t=>by
    cases hk:Nat.beq k t with
    | true =>
      obtain rfl:k=t:=Nat.eq_of_beq_eq_true hk
      exact .inl ⟨v,List.mem_cons_self,by simp [lkH],by simp [lkH]⟩
    | false =>
      have e1:∀ g,lkH ((k,v) :: g) t=lkH g t:=fun g=>by show (bif Nat.beq k t then v else lkH g t)=_; rw [hk]; rfl
      rcases lkH_cases e f t with ⟨v',hm,h1,h2⟩|⟨hn,h1,h2⟩
      · exact .inl ⟨v',List.mem_cons_of_mem _ hm,(e1 _).trans h1,(e1 _).trans h2⟩
      · refine .inr ⟨fun q hq=>?_,(e1 _).trans h1,(e1 _).trans h2⟩
        rcases List.mem_cons.1 hq with rfl | hq
        · exact hk
        · exact hn q hq
theorem killE_mem {f:EnvA G}:∀ {e:EnvA G} {q:Nat×AT G.α},q ∈ killE M H f e→q.2 = .dd∧hitsA M H (lkE f q.1)=true
  | [],q,h=>by cases h
  | (t,v) :: e,q,h=>by
    unfold killE at h
    cases hc:hitsA M H v && hitsA M H (lkE f t) with
    | false=>rw [hc] at h; exact killE_mem h
    | true =>
      rw [hc] at h
      rcases List.mem_cons.1 h with rfl | h
      · exact ⟨rfl,(Bool.and_eq_true _ _ ▸ hc:_∧_).2⟩
      · exact killE_mem h
theorem killE_in {f:EnvA G}:∀ {e:EnvA G} {t:Nat} {v:AT G.α},(t,v) ∈ e→hitsA M H v=true→hitsA M H (lkE f t)=true→(t,.dd) ∈ killE M H f e
  | (k,u) :: e,t,v,h,h1,h2=>by
    unfold killE
    rcases List.mem_cons.1 h with h | h
    · cases h
      rw [h1,h2]; exact List.mem_cons_self
    · have ih:=killE_in (f:=f) h h1 h2
      cases hitsA M H u && hitsA M H (lkE f k) with
      | false=>exact ih
      | true=>exact List.mem_cons_of_mem _ ih
theorem killE_ok (e:EnvA G) (t:Nat) : lkE (killE M H e e++e) t = .dd∨(lkE (killE M H e e++e) t=lkE e t∧hitsA M H (lkE e t)=false):=by
  rcases lkE_cases (killE M H e e) e t with ⟨v,hm,h1,_⟩|⟨hn,h1,_⟩
  · exact .inl (h1.trans (killE_mem hm).1)
  · refine .inr ⟨h1,?_⟩
    cases hh:hitsA M H (lkE e t) with
    | false=>rfl
    | true =>
      rcases lkE_cases e [] t with ⟨v,hm,_,h3⟩|⟨_,_,h3⟩
      · have:=hn _ (killE_in (f:=e) hm (by rw [← h3]; exact hh) hh)
        simp at this
      · rw [h3] at hh; cases hh
theorem killH_mem {f:HpA G}:∀ {e:HpA G} {q:Nat×Obj G.α},q ∈ killH M H f e→q.2=strikeO M H (lkH f q.1)
  | [],q,h=>by cases h
  | (t,v) :: e,q,h=>by
    unfold killH at h
    cases hc:hitsO M H v && hitsO M H (lkH f t) with
    | false=>rw [hc] at h; exact killH_mem h
    | true =>
      rw [hc] at h
      rcases List.mem_cons.1 h with rfl | h
      · rfl
      · exact killH_mem h
theorem killH_in {f:HpA G}:∀ {e:HpA G} {t:Nat} {v:Obj G.α},(t,v) ∈ e→hitsO M H v=true→hitsO M H (lkH f t)=true→(t,strikeO M H (lkH f t)) ∈ killH M H f e
  | (k,u) :: e,t,v,h,h1,h2=>by
    unfold killH
    rcases List.mem_cons.1 h with h | h
    · cases h
      rw [h1,h2]; exact List.mem_cons_self
    · have ih:=killH_in (f:=f) h h1 h2
      cases hitsO M H u && hitsO M H (lkH f k) with
      | false=>exact ih
      | true=>exact List.mem_cons_of_mem _ ih
theorem killH_ok (e:HpA G) (t:Nat) : lkH (killH M H e e++e) t=strikeO M H (lkH e t):=by
  rcases lkH_cases (killH M H e e) e t with ⟨v,hm,h1,_⟩|⟨hn,h1,_⟩
  · exact h1.trans (killH_mem hm)
  · rw [h1]
    cases hh:hitsO M H (lkH e t) with
    | false=>exact (strikeO_same hh).symm
    | true =>
      rcases lkH_cases e [] t with ⟨v,hm,_,h3⟩|⟨_,_,h3⟩
      · have:=hn _ (killH_in (f:=e) hm (by rw [← h3]; exact hh) hh)
        simp at this
      · rw [h3] at hh; cases hh
theorem freshE_lk {i:Nat}:∀ {e:EnvA G},freshE i e=true→∀ t,namesA i (lkE e t)=false
  | [],_,_=>rfl
  | (k,v) :: e,h,t=>by
    unfold freshE at h
    rw [Bool.and_eq_true] at h
    show namesA i (bif Nat.beq k t then v else lkE e t)=false
    cases Nat.beq k t with
    | true=>simpa using h.1
    | false=>exact freshE_lk h.2 t
theorem freshH_lk {i:Nat}:∀ {e:HpA G},freshH i e=true→∀ t,namesO i (lkH e t)=false
  | [],_,_=>rfl
  | (k,v) :: e,h,t=>by
    unfold freshH at h
    rw [Bool.and_eq_true,Bool.and_eq_true] at h
    show namesO i (bif Nat.beq k t then v else lkH e t)=false
    cases Nat.beq k t with
    | true=>simpa using h.2.1
    | false=>exact freshH_lk h.2.2 t
theorem freshH_no {i:Nat}:∀ {e:HpA G},freshH i e=true→lkH e i = .dd
  | [],_=>rfl
  | (k,v) :: e,h=>by
    unfold freshH at h
    rw [Bool.and_eq_true,Bool.and_eq_true] at h
    show (bif Nat.beq k i then v else lkH e i) = .dd
    rw [show Nat.beq k i=false from by simpa using h.1]
    exact freshH_no h.2.2
theorem freshE_app {i:Nat}:∀ {e f:EnvA G},freshE i e=true→freshE i f=true→freshE i (e++f)=true
  | [],_,_,h=>h
  | (k,v) :: e,f,h,h'=>by
    unfold freshE at h
    rw [Bool.and_eq_true] at h
    show (_ && freshE i (e++f))=true
    rw [h.1,freshE_app h.2 h']; rfl
theorem freshH_app {i:Nat}:∀ {e f:HpA G},freshH i e=true→freshH i f=true→freshH i (e++f)=true
  | [],_,_,h=>h
  | (k,v) :: e,f,h,h'=>by
    unfold freshH at h
    rw [Bool.and_eq_true,Bool.and_eq_true] at h
    show (_ && (_ && freshH i (e++f)))=true
    rw [h.1,h.2.1,freshH_app h.2.2 h']; rfl
theorem okId_ok {i:Nat} {e b:EnvA G} {h hb:HpA G} (k:okId i e b h hb=true) : 40≤i∧freshE i (e++b)=true∧freshH i (h++hb)=true:=by
  unfold okId at k
  simp only [Bool.and_eq_true] at k
  exact ⟨Nat.le_of_ble_eq_true k.1,freshE_app k.2.1 k.2.2.1,freshH_app k.2.2.2.1 k.2.2.2.2⟩
end rel
section sim
variable {G:Gm}
structure Bs where
  o0:Tags
  w0:World
  T:List Nat
  hv0:Nat→Value
  GG:Glob
  ds:List Deferred
structure Sim (B:Bs) (e:EnvA G) (h:HpA G) (hv:Nat→Value) (ρ:Env) (o:Tags) (w:World) : Prop where
  fm:Fm B.o0 B.w0 o w B.T
  gl:Gl B.GG o w
  er:∀ t,VR hv o w (lkE e t) (ρ t)
  hr:∀ i,OR hv o w i (lkH h i)
  id:∀ i,i < 40→(isP (B.hv0 i)=true∨B.T.contains i=false)→hv i=B.hv0 i
  ds:ρ.ds=B.ds
variable {B:Bs} {e:EnvA G} {h:HpA G} {hv hv':Nat→Value} {ρ:Env} {o o':Tags} {w w':World} {M H:List Nat} {J:Nat→Prop}
theorem ddH_lk:∀ {ks:List Nat} {f:HpA G} {t:Nat},lkH ((ks.map fun m=>((m,.dd) : Nat×Obj G.α))++f) t=bif ks.contains t then .dd else lkH f t
  | [],_,_=>rfl
  | k :: ks,f,t=>by
    show (bif Nat.beq k t then Obj.dd else lkH ((ks.map fun m=>((m,.dd) : Nat×Obj G.α))++f) t)=_
    rw [ddH_lk,List.contains_cons,show (t == k)=Nat.beq k t from (by rw [Bool.eq_iff_iff,beq_iff_eq,Nat.beq_eq]; exact ⟨Eq.symm,Eq.symm⟩)]
    cases Nat.beq k t <;> simp
theorem Sim.after (S:Sim B e h hv ρ o w) (s:Step o w o' w' M) (hT:okM M B.T=true) (h0:M.contains 0=false) (hH:∀ i,M.contains i=false→H.contains i=false) (A:Agr hv hv' H J) (hJ:∀ j,J j→40≤j∧freshE j e=true∧freshH j h=true) :
    Sim B (killE M H e e++e) ((M.map fun m=>(m,.dd))++(killH M H h h++h)) hv' ρ o' w':=by
  refine ⟨S.fm.step s hT,S.gl.step s ?_,fun t=>?_,fun i=>?_,fun i hi hq=>?_,S.ds⟩
  · first | exact h0 | simpa using h0
  · rcases killE_ok (M:=M) (H:=H) e t with hd | ⟨he,hh⟩
    · rw [hd]; trivial
    · rw [he]
      exact VR.step s h0 hH A (fun j hj=>freshE_lk (hJ j hj).2.1 t) hh (S.er t)
  · rw [ddH_lk]
    cases hm:M.contains i with
    | true=>trivial
    | false =>
      rw [cond_false,killH_ok]
      by_cases hji:J i
      · rw [freshH_no (hJ i hji).2.2]; trivial
      · exact OR.step s h0 hH A hm hji (fun j hj=>freshH_lk (hJ j hj).2.2 i) (S.hr i)
  · rw [A i (fun hj=>by have:=(hJ i hj).1; omega) ?_]
    · exact S.id i hi hq
    · rcases hq with hq | hq
      · exact .inl (by rw [S.id i hi (.inl hq)]; exact hq)
      · refine .inr (hH i ?_)
        cases hm:M.contains i with
        | false=>rfl
        | true =>
          have:=(List.all_eq_true.1 hT) i (by simpa using hm)
          rw [hq,Bool.or_false,decide_eq_true_eq] at this
          omega
theorem Sim.put (S:Sim B e h hv ρ o w) {d:Nat} {a:AT G.α} {v:Value} (k:VR hv o w a v) : Sim B ((d,a) :: e) h hv (upd ρ d v) o w:=by
  refine ⟨S.fm,S.gl,fun t=>?_,S.hr,S.id,S.ds⟩
  show VR hv o w (bif Nat.beq d t then a else lkE e t) (bif Nat.beq t d then v else ρ t)
  rw [beqC t d]
  cases Nat.beq d t with
  | true=>exact k
  | false=>exact S.er t
theorem Sim.know (S:Sim B e h hv ρ o w) {d:Nat} {a:AT G.α} (k:VR hv o w a (ρ d)) : Sim B ((d,a) :: e) h hv ρ o w:=by
  refine ⟨S.fm,S.gl,fun t=>?_,S.hr,S.id,S.ds⟩
  show VR hv o w (bif Nat.beq d t then a else lkE e t) (ρ t)
  cases hd:Nat.beq d t with
  | true=>obtain rfl:d=t:=Nat.eq_of_beq_eq_true hd; exact k
  | false=>exact S.er t
theorem Sim.obj (S:Sim B e h hv ρ o w) {i:Nat} {ob:Obj G.α} (k:OR hv o w i ob) : Sim B e ((i,ob) :: h) hv ρ o w:=by
  refine ⟨S.fm,S.gl,S.er,fun t=>?_,S.id,S.ds⟩
  show OR hv o w t (bif Nat.beq i t then ob else lkH h t)
  cases hd:Nat.beq i t with
  | true=>obtain rfl:i=t:=Nat.eq_of_beq_eq_true hd; exact k
  | false=>exact S.hr t
theorem pubL_ok {i E:Nat} {xs:List (G.α E)} (hO:OR hv o w i (.own E xs)) : ∀ {l:Lf G} {cs:List Value},LR hv o w l cs→LR hv (SX.pub o i) w (pubL i E xs l) cs
  | .d s x,cs,h=>D.pub (r:=s.rep G) h i
  | .ns,_,h=>h
  | .np,_,h=>h
  | .nm,_,h=>h
  | .nf,_,h=>h
  | .ni,_,h=>h
  | .dd,_,h=>h
  | .pt _ _,_,h=>h
  | .mp _,_,h=>h
  | .fn _ _,_,h=>h
  | .er _,_,h=>h
  | .ow j,cs,⟨h,k⟩=>by
    show LR hv (SX.pub o i) w (bif Nat.beq j i then .d (.row E) xs else .ow j) cs
    cases hj:Nat.beq j i with
    | true =>
      obtain rfl:=Nat.eq_of_beq_eq_true hj
      rw [h]; exact Own.data hO
    | false=>exact ⟨h,k⟩
  | .bs j E' ys,cs,⟨A,c,e,hl,hr⟩=>by
    show LR hv (SX.pub o i) w (bif Nat.beq j i then .d (.row E') ys else .bs j E' ys) cs
    cases hj:Nat.beq j i with
    | true=>obtain rfl:=Nat.eq_of_beq_eq_true hj; exact ⟨A,c,e,hl,Row.pubOf hr⟩
    | false=>exact ⟨A,c,e,hl,Row.pubB hr i hj⟩
  | .pe j E' ys n x off,cs,⟨ad,c,e,ht,hb,hR,hc,ho⟩=>by
    show LR hv (SX.pub o i) w (bif Nat.beq j i then .pe 0 E' ys n x off else .pe j E' ys n x off) cs
    cases hj:Nat.beq j i with
    | true=>obtain rfl:=Nat.eq_of_beq_eq_true hj; exact ⟨ad,c,e,pub_same _ _ _ ht,hb,D.pub (r:=G.rep E') hR _,hc,fun h=>absurd rfl h⟩
    | false=>exact ⟨ad,c,e,pub_other ht hj,hb,D.pub (r:=G.rep E') hR _,hc,ho⟩
  | .pr j E' x off,cs,⟨ad,c,e,ht,hb,hR,hc⟩=>by
    show LR hv (SX.pub o i) w (bif Nat.beq j i then .pr 0 E' x off else .pr j E' x off) cs
    cases hj:Nat.beq j i with
    | true=>obtain rfl:=Nat.eq_of_beq_eq_true hj; exact ⟨ad,c,e,pub_same _ _ _ ht,hb,D.pub (r:=G.rep E') hR _,hc⟩
    | false=>exact ⟨ad,c,e,pub_other ht hj,hb,D.pub (r:=G.rep E') hR _,hc⟩
  | .pa ..,_,h=>h.elim
theorem pubLs_ok {i E:Nat} {xs:List (G.α E)} (hO:OR hv o w i (.own E xs)) : ∀ {ls:List (Lf G)} {cs:List Value},LRs hv o w ls cs→LRs hv (SX.pub o i) w (ls.map (pubL i E xs)) cs
  | [],_,h=>h
  | l :: ls,_,⟨c0,c1,e,h0,h1⟩=>⟨c0,c1,e,pubL_ok hO h0,pubLs_ok hO h1⟩
theorem pubTR_ok {i E:Nat} {xs:List (G.α E)} (hO:OR hv o w i (.own E xs)) : ∀ {l:List (Bool×List (Lf G))} {vs:List Value},TRs hv o w l vs→TRs hv (SX.pub o i) w (pubT i E xs l) vs
  | [],_,h=>h
  | q :: l,_,⟨v,r,e,⟨cs,k0,k1⟩,k2⟩=>⟨v,r,e,⟨cs,pubLs_ok hO k0,k1⟩,pubTR_ok hO k2⟩
theorem pubAT_ok {i E:Nat} {xs:List (G.α E)} (hO:OR hv o w i (.own E xs)) : ∀ {a:AT G.α} {v:Value},VR hv o w a v→VR hv (SX.pub o i) w (pubAT i E xs a) v
  | .v _ _,_,⟨cs,k0,k1⟩=>⟨cs,pubLs_ok hO k0,k1⟩
  | .tp l,_,⟨vs,e,h⟩=>⟨vs,e,pubTR_ok hO h⟩
  | .ifc T a ls,_,⟨u,e,⟨cs,k0,k1⟩⟩=>⟨u,e,⟨cs,pubLs_ok hO k0,k1⟩⟩
  | .kn _ _,_,h=>h
  | .un,_,h=>h
  | .dd,_,h=>h
theorem pubO_ok {i E:Nat} {xs:List (G.α E)} (hO:OR hv o w i (.own E xs)) {j:Nat} (hj:Nat.beq j i=false) : ∀ {ob:Obj G.α},OR hv o w j ob→OR hv (SX.pub o i) w j (pubO i E xs ob)
  | .blk T ls,⟨b,cs,e,hB,hl⟩=>⟨b,cs,e,hB.pub i hj,pubLs_ok hO hl⟩
  | .own E' ys,h=>Own.pub h i hj
  | .mp K V kvs,⟨b,e,h⟩=>⟨b,e,h.pub i hj⟩
  | .bd T E' x,⟨b,e,h⟩=>⟨b,e,h.pub i hj⟩
  | .clo f bs cs,⟨vb,vc,e,hb,hc⟩=>⟨vb,vc,e,pubTR_ok hO hb,pubTR_ok hO hc⟩
  | .dd,_=>trivial
theorem pubL_id {i E:Nat} {xs:List (G.α E)}:∀ {l:Lf G},hitP i l=false→pubL i E xs l=l
  | .ow j,h=>by show (bif Nat.beq j i then _ else _)=_; rw [show Nat.beq j i=false from h]; rfl
  | .bs j _ _,h=>by show (bif Nat.beq j i then _ else _)=_; rw [show Nat.beq j i=false from h]; rfl
  | .pe j ..,h=>by show (bif Nat.beq j i then _ else _)=_; rw [show Nat.beq j i=false from h]; rfl
  | .pr j ..,h=>by show (bif Nat.beq j i then _ else _)=_; rw [show Nat.beq j i=false from h]; rfl
  | .pa j ..,h=>by show (bif Nat.beq j i then _ else _)=_; rw [show Nat.beq j i=false from h]; rfl
  | .d _ _,_ | .ns,_ | .np,_ | .nm,_ | .nf,_ | .ni,_ | .dd,_ | .pt _ _,_ | .mp _,_ | .fn _ _,_ | .er _,_=>rfl
theorem pubLs_id {i E:Nat} {xs:List (G.α E)}:∀ {ls:List (Lf G)},ls.any (hitP i)=false→ls.map (pubL i E xs)=ls
  | [],_=>rfl
  | l :: ls,h=>by
    rw [List.any_cons,Bool.or_eq_false_iff] at h
    rw [List.map_cons,pubL_id h.1,pubLs_id h.2]
theorem pubT_id {i E:Nat} {xs:List (G.α E)}:∀ {l:List (Bool×List (Lf G))},hitPT i l=false→pubT i E xs l=l
  | [],_=>rfl
  | q :: l,h=>by
    unfold hitPT at h
    rw [List.any_cons,Bool.or_eq_false_iff] at h
    show (q.1,q.2.map (pubL i E xs)) :: pubT i E xs l=_
    rw [pubLs_id h.1,pubT_id (l:=l) h.2]
theorem pubAT_id {i E:Nat} {xs:List (G.α E)}:∀ {a:AT G.α},hitPA i a=false→pubAT i E xs a=a
  | .v _ _,h=>congrArg _ (pubLs_id h)
  | .tp _,h=>congrArg _ (pubT_id h)
  | .ifc _ _ _,h=>congrArg _ (pubLs_id h)
  | .kn _ _,_ | .un,_ | .dd,_=>rfl
theorem pubO_id {i E:Nat} {xs:List (G.α E)}:∀ {ob:Obj G.α},hitPO i ob=false→pubO i E xs ob=ob
  | .blk _ _,h=>congrArg _ (pubLs_id h)
  | .clo f bs cs,h=>by
    unfold hitPO at h
    rw [Bool.or_eq_false_iff] at h
    show Obj.clo f (pubT i E xs bs) (pubT i E xs cs)=_
    rw [pubT_id h.1,pubT_id h.2]
  | .own _ _,_ | .mp _ _ _,_ | .bd _ _ _,_ | .dd,_=>rfl
theorem pubE_mem {i E:Nat} {xs:List (G.α E)} {f:EnvA G}:∀ {e:EnvA G} {q:Nat×AT G.α},q ∈ pubE i E xs f e→q.2=pubAT i E xs (lkE f q.1)
  | [],q,h=>by cases h
  | (t,v) :: e,q,h=>by
    unfold pubE at h
    cases hc:hitPA i v && hitPA i (lkE f t) with
    | false=>rw [hc] at h; exact pubE_mem h
    | true =>
      rw [hc] at h
      rcases List.mem_cons.1 h with rfl | h
      · rfl
      · exact pubE_mem h
theorem pubE_in {i E:Nat} {xs:List (G.α E)} {f:EnvA G}:∀ {e:EnvA G} {t:Nat} {v:AT G.α},(t,v) ∈ e→hitPA i v=true→hitPA i (lkE f t)=true→(t,pubAT i E xs (lkE f t)) ∈ pubE i E xs f e
  | (k,u) :: e,t,v,h,h1,h2=>by
    unfold pubE
    rcases List.mem_cons.1 h with h | h
    · cases h
      rw [h1,h2]; exact List.mem_cons_self
    · have ih:=pubE_in (xs:=xs) (f:=f) h h1 h2
      cases hitPA i u && hitPA i (lkE f k) with
      | false=>exact ih
      | true=>exact List.mem_cons_of_mem _ ih
theorem pubE_ok {i E:Nat} {xs:List (G.α E)} (e:EnvA G) (t:Nat) : lkE (pubE i E xs e e++e) t=pubAT i E xs (lkE e t):=by
  rcases lkE_cases (pubE i E xs e e) e t with ⟨v,hm,h1,_⟩|⟨hn,h1,_⟩
  · exact h1.trans (pubE_mem hm)
  · rw [h1]
    cases hh:hitPA i (lkE e t) with
    | false=>exact (pubAT_id hh).symm
    | true =>
      rcases lkE_cases e [] t with ⟨v,hm,_,h3⟩|⟨_,_,h3⟩
      · have:=hn _ (pubE_in (xs:=xs) (f:=e) hm (by rw [← h3]; exact hh) hh)
        simp at this
      · rw [h3] at hh; cases hh
theorem pubH_mem {i E:Nat} {xs:List (G.α E)} {f:HpA G}:∀ {e:HpA G} {q:Nat×Obj G.α},q ∈ pubH i E xs f e→q.2=pubO i E xs (lkH f q.1)
  | [],q,h=>by cases h
  | (t,v) :: e,q,h=>by
    unfold pubH at h
    cases hc:hitPO i v && hitPO i (lkH f t) with
    | false=>rw [hc] at h; exact pubH_mem h
    | true =>
      rw [hc] at h
      rcases List.mem_cons.1 h with rfl | h
      · rfl
      · exact pubH_mem h
theorem pubH_in {i E:Nat} {xs:List (G.α E)} {f:HpA G}:∀ {e:HpA G} {t:Nat} {v:Obj G.α},(t,v) ∈ e→hitPO i v=true→hitPO i (lkH f t)=true→(t,pubO i E xs (lkH f t)) ∈ pubH i E xs f e
  | (k,u) :: e,t,v,h,h1,h2=>by
    unfold pubH
    rcases List.mem_cons.1 h with h | h
    · cases h
      rw [h1,h2]; exact List.mem_cons_self
    · have ih:=pubH_in (xs:=xs) (f:=f) h h1 h2
      cases hitPO i u && hitPO i (lkH f k) with
      | false=>exact ih
      | true=>exact List.mem_cons_of_mem _ ih
theorem pubH_ok {i E:Nat} {xs:List (G.α E)} (e:HpA G) (t:Nat) : lkH (pubH i E xs e e++e) t=pubO i E xs (lkH e t):=by
  rcases lkH_cases (pubH i E xs e e) e t with ⟨v,hm,h1,_⟩|⟨hn,h1,_⟩
  · exact h1.trans (pubH_mem hm)
  · rw [h1]
    cases hh:hitPO i (lkH e t) with
    | false=>exact (pubO_id hh).symm
    | true =>
      rcases lkH_cases e [] t with ⟨v,hm,_,h3⟩|⟨_,_,h3⟩
      · have:=hn _ (pubH_in (xs:=xs) (f:=e) hm (by rw [← h3]; exact hh) hh)
        simp at this
      · rw [h3] at hh; cases hh
theorem Sim.pub1 {i E:Nat} {xs:List (G.α E)} (S:Sim B e h hv ρ o w) (hi:Nat.ble 40 i=true) (hb:lkH h i = .own E xs) : Sim B (pubE i E xs e e++e) ((i,.dd) :: (pubH i E xs h h++h)) hv ρ (SX.pub o i) w:=by
  have hO:=S.hr i
  rw [hb] at hO
  refine ⟨S.fm.pub i hi,S.gl.pub i,fun t=>?_,fun j=>?_,S.id,S.ds⟩
  · rw [pubE_ok]; exact pubAT_ok hO (S.er t)
  · show OR hv (SX.pub o i) w j (bif Nat.beq i j then .dd else lkH (pubH i E xs h h++h) j)
    cases hj:Nat.beq i j with
    | true=>trivial
    | false=>rw [cond_false,pubH_ok]; exact pubO_ok hO (by rw [beqC]; exact hj) (S.hr j)
theorem pubS_ok {R:Type} {r:R} {eb:EnvA G} {hb:HpA G} {ρ:Env} {w:World} {hv:Nat→Value} {B:Bs} {K:Sta G→Option R}:∀ (V:List Nat) (st:Sta G) (o:Tags),pubS eb hb V st K=some r→Sim B (st.env++eb) (st.hp++hb) hv ρ o w→∃ st' o',K st'=some r∧Sim B (st'.env++eb) (st'.hp++hb) hv ρ o' w
  | [],st,o,hk,S=>⟨st,o,hk,S⟩
  | i :: V,st,o,hk,S=>by
    unfold pubS at hk
    split at hk
    · rename_i E xs hob
      cases hi:Nat.ble 40 i with
      | false=>rw [hi] at hk; exact pubS_ok V st o hk S
      | true =>
        rw [hi,cond_true,forceE_ok,forceO_ok] at hk
        refine pubS_ok V _ (SX.pub o i) hk ?_
        have:=S.pub1 hi hob
        simpa only [List.append_assoc,List.cons_append] using this
    · exact pubS_ok V st o hk S
end sim
end Go.Proofs.YtpmkkhkphddfeaaGreatDoor.SX
set_option linter.unusedVariables false
set_option linter.unusedSimpArgs false
namespace Go.Proofs.YtpmkkhkphddfeaaGreatDoor.SX
open Go Go.RowKit
section laws
def HR (G:Gm) (F:Nat→Prop) (w:World) : (ss:List Sh)→HL G.α ss→List Value→Prop
  | [],_,cs=>cs=[]
  | s :: ss,y,cs => ∃ c0 c1,cs=c0++c1∧(s.rep G).R F w y.1 c0∧HR G F w ss y.2 c1
structure GOK (P:Program) (G:Gm) : Prop where
  law:∀ T F w x cs,(G.rep T).R F w x cs↔HR G F w (G.ss T) (G.un T x) cs
  um:∀ T y,G.un T (G.md T y)=y
  eq:∀ T,G.qe T=true→∀ F w x y cs ds,(G.rep T).R F w x cs→(G.rep T).R F w y ds→P.eqGuardType P.depth T=false∧EqR P 10000 T (.agg cs.toArray) (.agg ds.toArray) (G.eq T x y)
  b8:∀ T f,G.b8 T=some f→P.underlying T=some (.int .u8)∧∀ xs,(f xs).length=xs.length∧∀ F F' w A,Row (G.rep T) F F' w A xs→Row Rep.u8 F F' w A (f xs)
  key:∀ K,G.qk K=true→KeyT P K (G.ek K) (G.eq K)∧∀ F w x cs,(G.rep K).R F w x cs→(if aggT P K then Value.agg cs.toArray else cs.headD undef)=G.ek K x
  fl:∀ T,G.fl T=true→∀ F F' w x cs,(G.rep T).R F w x cs→(G.rep T).R F' w x cs
  val:∀ V,G.qv V=true→(P.info? V).map (·.zero)=some (some (G.ek V (G.z V)))∧aggT P V=false∧∀ F w x cs,(G.rep V).R F w x cs↔cs=[G.ek V x]
variable {P:Program} {G:Gm} {hv:Nat→Value} {o:Tags} {w:World}
theorem castS_ok {s s':Sh} {x:s.ty G.α} {y:s'.ty G.α} (h:castS s s' x=some y) {F:Nat→Prop} {cs:List Value} (k:(s.rep G).R F w x cs) : (s'.rep G).R F w y cs:=by
  unfold castS at h
  split at h
  · rename_i e
    subst e
    cases h
    exact k
  · cases h
theorem castS_eq {s:Sh} {x y:s.ty G.α} (h:castS s s x=some y) : x=y:=by
  unfold castS at h
  rw [dif_pos rfl] at h
  exact Option.some.inj h
theorem castS_sh {s s':Sh} {x:s.ty G.α} {y:s'.ty G.α} (h:castS s s' x=some y) : s=s':=by
  unfold castS at h
  split at h
  · assumption
  · cases h
theorem opL_iff {g:(s:Sh)→s.ty G.α→List (Lf G)} (hg:∀ s x cs,LRs hv o w (g s x) cs↔(s.rep G).R (fun b=>o b=0) w x cs) : ∀ (ss:List Sh) (y:HL G.α ss) (cs:List Value),LRs hv o w (opL g ss y) cs↔HR G (fun b=>o b=0) w ss y cs
  | [],_,_=>Iff.rfl
  | s :: ss,y,cs=>by
    constructor
    · intro h
      obtain ⟨c0,c1,e,h0,h1⟩:=LRs.split (show LRs hv o w (g s y.1++opL g ss y.2) cs from h)
      exact ⟨c0,c1,e,(hg _ _ _).1 h0,(opL_iff hg ss _ _).1 h1⟩
    · rintro ⟨c0,c1,rfl,h0,h1⟩
      exact ((hg _ _ _).2 h0).app ((opL_iff hg ss _ _).2 h1)
theorem d_iff {s:Sh} {x:s.ty G.α} {cs:List Value}:LRs hv o w [.d s x] cs↔(s.rep G).R (fun b=>o b=0) w x cs:=⟨fun h=>LRs.of1 h,fun h=>LRs.single (l:=.d s x) h⟩
theorem op1S_iff (hG:GOK P G) : ∀ (f:Nat) (s:Sh) (x:s.ty G.α) (cs:List Value),LRs hv o w (op1S G f s x) cs↔(s.rep G).R (fun b=>o b=0) w x cs
  | 0,s,x,cs=>d_iff
  | f+1,.st T,x,cs=>by
    show LRs hv o w (opL (op1S G f) (G.ss T) (G.un T x)) cs↔(G.rep T).R _ w x cs
    rw [opL_iff (op1S_iff hG f),hG.law]
  | _+1,.int _,x,cs=>d_iff
  | _+1,.u8,x,cs=>d_iff
  | _+1,.u32,x,cs=>d_iff
  | _+1,.u64,x,cs=>d_iff
  | _+1,.bool,x,cs=>d_iff
  | _+1,.str,x,cs=>d_iff
  | _+1,.row _,x,cs=>d_iff
  | _+1,.arr _ _,x,cs=>d_iff
  | _+1,.kv _ _,x,cs=>d_iff
theorem opT_iff (hG:GOK P G) {T:Nat} {x:G.α T} {cs:List Value}:LRs hv o w (opT G T x) cs↔(G.rep T).R (fun b=>o b=0) w x cs:=op1S_iff hG 8 (.st T) x cs
theorem opS_iff (hG:GOK P G) : ∀ {s:Sh} {x:s.ty G.α} {cs:List Value},LRs hv o w (opS s x) cs↔(s.rep G).R (fun b=>o b=0) w x cs
  | .st T,x,cs=>opT_iff hG
  | .int _,x,cs=>d_iff
  | .u8,x,cs=>d_iff
  | .u32,x,cs=>d_iff
  | .u64,x,cs=>d_iff
  | .bool,x,cs=>d_iff
  | .str,x,cs=>d_iff
  | .row _,x,cs=>d_iff
  | .arr _ _,x,cs=>d_iff
  | .kv _ _,x,cs=>d_iff
theorem many_iff (hG:GOK P G) {E:Nat}:∀ {xs:List (G.α E)} {cs:List Value},LRs hv o w (xs.flatMap (opT G E)) cs↔Many (G.rep E) (fun b=>o b=0) w xs cs
  | [],cs=>Iff.rfl
  | x :: xs,cs=>by
    rw [List.flatMap_cons]
    constructor
    · intro h
      obtain ⟨c0,c1,e,h0,h1⟩:=h.split
      exact ⟨c0,c1,e,(opT_iff hG).1 h0,(many_iff hG).1 h1⟩
    · rintro ⟨c0,c1,rfl,h0,h1⟩
      exact ((opT_iff hG).2 h0).app ((many_iff hG).2 h1)
theorem clH_mono {h:Nat→Obj G.α}:∀ (f:Nat) (ss:List Sh) (ls:List (Lf G)) (V:List Nat) (y:HL G.α ss) (r:List (Lf G)) (V':List Nat),clH G h f ss ls V=some (y,r,V')→∀ i ∈ V,i ∈ V':=by
  intro f
  induction f with
  | zero=>intro ss ls V y r V' h; simp [clH] at h
  | succ f ih =>
    intro ss ls V y r V' hk
    cases ss with
    | nil =>
      simp only [clH,Option.some.injEq,Prod.mk.injEq] at hk
      obtain ⟨_,_,rfl⟩:=hk
      exact fun _ h=>h
    | cons s ss =>
      have plain:∀ (s':Sh) (x:s'.ty G.α) (ls':List (Lf G)),((castS s' s x).bind fun x=>(clH G h f ss ls' V).bind fun q=>some ((x,q.1),q.2))=some (y,r,V')→∀ i ∈ V,i ∈ V':=by
        intro s' x ls' hq
        obtain ⟨x',h1,hq⟩:=bindE hq
        obtain ⟨⟨q1,q2,q3⟩,h2,hq⟩:=bindE hq
        cases hq
        exact ih _ _ _ _ _ _ h2
      cases s with
      | st T =>
        simp only [clH] at hk
        obtain ⟨⟨y1,y2,y3⟩,h1,hk⟩:=bindE hk
        obtain ⟨⟨q1,q2,q3⟩,h2,hk⟩:=bindE hk
        cases hk
        exact fun i hi=>ih _ _ _ _ _ _ h2 i (ih _ _ _ _ _ _ h1 i hi)
      | row E =>
        cases ls with
        | nil=>simp [clH] at hk
        | cons l ls' =>
          cases l with
          | d s' x=>simp only [clH] at hk; exact plain s' x ls' hk
          | ns =>
            simp only [clH] at hk
            obtain ⟨⟨q1,q2,q3⟩,h2,hk⟩:=bindE hk
            cases hk
            exact ih _ _ _ _ _ _ h2
          | ow i =>
            simp only [clH] at hk
            split at hk
            · obtain ⟨x',h1,hk⟩:=bindE hk
              obtain ⟨⟨q1,q2,q3⟩,h2,hk⟩:=bindE hk
              cases hk
              exact fun j hj=>ih _ _ _ _ _ _ h2 j (List.mem_cons_of_mem _ hj)
            · cases hk
          | _=>simp [clH] at hk
      | _ =>
        cases ls with
        | nil=>simp [clH] at hk
        | cons l ls' =>
          cases l with
          | d s' x=>simp only [clH] at hk; exact plain s' x ls' hk
          | _=>simp [clH] at hk
theorem clH_ok (hG:GOK P G) {h:Nat→Obj G.α} {o1:Tags} (ho:∀ i,OR hv o w i (h i)) (v0:∀ b,o b=0→o1 b=0) {Vs:List Nat} (vv:∀ i ∈ Vs,∀ b,o b=i→o1 b=0) : ∀ (f:Nat) (ss:List Sh) (ls:List (Lf G)) (V:List Nat) (y:HL G.α ss) (r:List (Lf G)) (V':List Nat) (cs:List Value),clH G h f ss ls V=some (y,r,V')→(∀ i ∈ V',i ∈ Vs)→LRs hv o w ls cs→∃ c0 c1,cs=c0++c1∧HR G (fun b=>o1 b=0) w ss y c0∧LRs hv o w r c1:=by
  intro f
  induction f with
  | zero=>intro ss ls V y r V' cs h; simp [clH] at h
  | succ f ih =>
    intro ss ls V y r V' cs hk hV k
    cases ss with
    | nil =>
      simp only [clH,Option.some.injEq,Prod.mk.injEq] at hk
      obtain ⟨_,rfl,_⟩:=hk
      exact ⟨[],cs,rfl,rfl,k⟩
    | cons s ss =>
      have plain:∀ (s':Sh) (x:s'.ty G.α) (ls':List (Lf G)),ls = .d s' x :: ls'→((castS s' s x).bind fun x=>(clH G h f ss ls' V).bind fun q=>some ((x,q.1),q.2))=some (y,r,V')→∃ c0 c1,cs=c0++c1∧HR G (fun b=>o1 b=0) w (s :: ss) y c0∧LRs hv o w r c1:=by
        intro s' x ls' e hq
        subst e
        obtain ⟨x',h1,hq⟩:=bindE hq
        obtain ⟨⟨q1,q2,q3⟩,h2,hq⟩:=bindE hq
        cases hq
        obtain ⟨c0,c1,rfl,k0,k1⟩:=k
        obtain ⟨d0,d1,rfl,i0,i1⟩:=ih _ _ _ _ _ _ _ h2 hV k1
        exact ⟨c0++d0,d1,by rw [List.append_assoc],⟨c0,d0,rfl,(Sh.rep G s).mono v0 (castS_ok h1 k0),i0⟩,i1⟩
      cases s with
      | st T =>
        simp only [clH] at hk
        obtain ⟨⟨y1,y2,y3⟩,h1,hk⟩:=bindE hk
        obtain ⟨⟨q1,q2,q3⟩,h2,hk⟩:=bindE hk
        cases hk
        obtain ⟨c0,c1,rfl,i0,i1⟩:=ih _ _ _ _ _ _ _ h1 (fun i hi=>hV i (clH_mono _ _ _ _ _ _ _ h2 i hi)) k
        obtain ⟨d0,d1,rfl,j0,j1⟩:=ih _ _ _ _ _ _ _ h2 hV i1
        refine ⟨c0++d0,d1,by rw [List.append_assoc],⟨c0,d0,rfl,?_,j0⟩,j1⟩
        exact (hG.law T _ w _ c0).2 (by rw [hG.um]; exact i0)
      | row E =>
        cases ls with
        | nil=>simp [clH] at hk
        | cons l ls' =>
          cases l with
          | d s' x=>simp only [clH] at hk; exact plain s' x ls' rfl hk
          | ns =>
            simp only [clH] at hk
            obtain ⟨⟨q1,q2,q3⟩,h2,hk⟩:=bindE hk
            cases hk
            obtain ⟨c0,c1,rfl,k0,k1⟩:=k
            obtain ⟨d0,d1,rfl,i0,i1⟩:=ih _ _ _ _ _ _ _ h2 hV k1
            refine ⟨c0++d0,d1,by rw [List.append_assoc],⟨c0,d0,rfl,?_,i0⟩,i1⟩
            exact ⟨none,0,k0,Nat.le_refl _,Row.nil⟩
          | ow i =>
            simp only [clH] at hk
            split at hk
            · rename_i E' xs hob
              obtain ⟨x',h1,hk⟩:=bindE hk
              obtain ⟨⟨q1,q2,q3⟩,h2,hk⟩:=bindE hk
              cases hk
              obtain ⟨c0,c1,rfl,k0,k1⟩:=k
              obtain ⟨d0,d1,rfl,i0,i1⟩:=ih _ _ _ _ _ _ _ h2 hV k1
              refine ⟨c0++d0,d1,by rw [List.append_assoc],⟨c0,d0,rfl,?_,i0⟩,i1⟩
              have hO:=ho i
              rw [hob] at hO
              rw [k0.1]
              exact castS_ok (s:=.row E') h1 (Own.reads hO (vv i (hV i (clH_mono _ _ _ _ _ _ _ h2 i List.mem_cons_self))) v0)
            · cases hk
          | _=>simp [clH] at hk
      | _ =>
        cases ls with
        | nil=>simp [clH] at hk
        | cons l ls' =>
          cases l with
          | d s' x=>simp only [clH] at hk; exact plain s' x ls' rfl hk
          | _=>simp [clH] at hk
theorem clT_ok (hG:GOK P G) {T:Nat} {ls:List (Lf G)} {x:G.α T} {cs:List Value} (h:clT G T ls=some x) (k:LRs hv o w ls cs) : (G.rep T).R (fun b=>o b=0) w x cs:=by
  unfold clT at h
  split at h
  · rename_i y he
    cases h
    obtain ⟨c0,c1,rfl,h0,h1⟩:=clH_ok hG (o:=o) (h:=fun _ => .dd) (fun _=>trivial) (fun _ h=>h) (Vs:=[]) (fun _ h=>by cases h) _ _ _ _ _ _ _ _ he (fun _ h=>h) k
    rw [show c1=[] from h1,List.append_nil]
    exact (hG.law T _ w _ c0).2 (by rw [hG.um]; exact h0)
  · cases h
theorem enc8_of {n:Int} (h:(decide (0≤n) && decide (n < 256))=true) : enc8 (UInt8.ofNat n.toNat) = .int .u8 n:=by
  simp only [Bool.and_eq_true,decide_eq_true_eq] at h
  unfold enc8
  rw [UInt8.toNat_ofNat']
  congr 1; omega
theorem enc32_of {n:Int} (h:(decide (0≤n) && decide (n < 4294967296))=true) : enc32 (UInt32.ofNat n.toNat) = .int .u32 n:=by
  simp only [Bool.and_eq_true,decide_eq_true_eq] at h
  unfold enc32
  rw [UInt32.toNat_ofNat']
  congr 1; omega
theorem enc64_of {n:Int} (h:(decide (0≤n) && decide (n < 18446744073709551616))=true) : enc64 (UInt64.ofNat n.toNat) = .int .u64 n:=by
  simp only [Bool.and_eq_true,decide_eq_true_eq] at h
  unfold enc64
  rw [UInt64.toNat_ofNat']
  congr 1; omega
theorem encS_of (t:ByteArray) : encS t.data.toList = .string t:=by simp [encS]
theorem ofV_ok:∀ {v:Value},isDd (ofV G v)=false→LR hv o w (ofV G v) [v]
  | .bool b,_=>rfl
  | .int k n,h=>by
    cases k with
    | u8 =>
      simp only [ofV] at h ⊢
      cases hc:decide (0≤n) && decide (n < 256) with
      | true=>rw [cond_true]; exact congrArg (fun v=>[v]) (enc8_of hc).symm
      | false=>rw [hc] at h; cases h
    | u32 =>
      simp only [ofV] at h ⊢
      cases hc:decide (0≤n) && decide (n < 4294967296) with
      | true=>rw [cond_true]; exact congrArg (fun v=>[v]) (enc32_of hc).symm
      | false=>rw [hc] at h; cases h
    | u64 =>
      simp only [ofV] at h ⊢
      cases hc:decide (0≤n) && decide (n < 18446744073709551616) with
      | true=>rw [cond_true]; exact congrArg (fun v=>[v]) (enc64_of hc).symm
      | false=>rw [hc] at h; cases h
    | _=>exact rfl
  | .string t,_=>congrArg (fun v=>[v]) (encS_of t).symm
  | .slice none 0 0,_=>rfl
  | .pointer none,_=>rfl
  | .map none,_=>rfl
  | .nilFunc,_=>rfl
  | .nilIface,_=>rfl
  | .float ..,h=>by cases h
  | .complex ..,h=>by cases h
  | .pointer (some _),h=>by cases h
  | .slice (some _) _ _,h=>by cases h
  | .slice none (_+1) _,h=>by cases h
  | .slice none 0 (_+1),h=>by cases h
  | .map (some _),h=>by cases h
  | .chan _,h=>by cases h
  | .func ..,h=>by cases h
  | .iface ..,h=>by cases h
  | .agg _,h=>by cases h
  | .tuple _,h=>by cases h
theorem ofVs_ok:∀ {cs:List Value},(cs.map (ofV G)).any isDd=false→LRs hv o w (cs.map (ofV G)) cs
  | [],_=>rfl
  | c :: cs,h=>by
    rw [List.map_cons,List.any_cons,Bool.or_eq_false_iff] at h
    exact ⟨[c],cs,rfl,ofV_ok h.1,ofVs_ok h.2⟩
theorem chkZ_ok (hG:GOK P G) : ∀ (f:Nat) (ls:List (Lf G)) (cs:List Value),chkZ G f ls cs=true→LRs hv o w ls cs:=by
  intro f
  induction f with
  | zero=>intro ls cs h; simp [chkZ] at h
  | succ f ih =>
    intro ls cs h
    cases ls with
    | nil =>
      cases cs with
      | nil=>rfl
      | cons c cs=>simp [chkZ] at h
    | cons l ls =>
      have one:∀ (c:Value) (cs':List Value),cs=c :: cs'→LR hv o w l [c]→chkZ G f ls cs'=true→LRs hv o w (l :: ls) cs:=by
        rintro c cs' rfl h1 h2
        exact ⟨[c],cs',rfl,h1,ih _ _ h2⟩
      by_cases ha:∃ E n xs,l = .d (.arr E n) xs
      · obtain ⟨E,n,xs,rfl⟩:=ha
        simp only [chkZ,Bool.and_eq_true] at h
        obtain ⟨c0,c1,rfl,h0,h1⟩:=(ih _ _ h.2).split
        exact ⟨c0,c1,rfl,⟨Nat.eq_of_beq_eq_true h.1,(many_iff hG).1 h0⟩,h1⟩
      · cases cs with
        | nil=>cases l with
          | d s x=>cases s <;> first | (simp [chkZ] at h; done) | exact absurd ⟨_,_,_,rfl⟩ ha
          | _=>simp [chkZ] at h
        | cons c cs' =>
          cases l with
          | d s x =>
            cases s with
            | arr E n=>exact absurd ⟨_,_,_,rfl⟩ ha
            | int k =>
              cases c with
              | int k' m =>
                simp only [chkZ,Bool.and_eq_true,decide_eq_true_eq] at h
                obtain ⟨⟨rfl,rfl⟩,h⟩:=h
                exact one _ _ rfl rfl h
              | _=>simp [chkZ] at h
            | u8 =>
              cases c with
              | int k' m =>
                cases k' <;> simp only [chkZ,Bool.and_eq_true,decide_eq_true_eq,Bool.false_and,Bool.false_eq_true] at h
                obtain ⟨rfl,h⟩:=h
                exact one _ _ rfl rfl h
              | _=>simp [chkZ] at h
            | u32 =>
              cases c with
              | int k' m =>
                cases k' <;> simp only [chkZ,Bool.and_eq_true,decide_eq_true_eq,Bool.false_and,Bool.false_eq_true] at h
                obtain ⟨rfl,h⟩:=h
                exact one _ _ rfl rfl h
              | _=>simp [chkZ] at h
            | u64 =>
              cases c with
              | int k' m =>
                cases k' <;> simp only [chkZ,Bool.and_eq_true,decide_eq_true_eq,Bool.false_and,Bool.false_eq_true] at h
                obtain ⟨rfl,h⟩:=h
                exact one _ _ rfl rfl h
              | _=>simp [chkZ] at h
            | bool =>
              cases c with
              | bool b =>
                simp only [chkZ,Bool.and_eq_true,decide_eq_true_eq] at h
                obtain ⟨rfl,h⟩:=h
                exact one _ _ rfl rfl h
              | _=>simp [chkZ] at h
            | str =>
              cases c with
              | string t =>
                simp only [chkZ,Bool.and_eq_true,decide_eq_true_eq] at h
                obtain ⟨rfl,h⟩:=h
                exact one _ _ rfl (congrArg (fun v=>[v]) (encS_of t).symm) h
              | _=>simp [chkZ] at h
            | _=>simp [chkZ] at h
          | ns =>
            match c,h with
            | .slice none 0 0,h=>exact one _ _ rfl rfl (by simpa [chkZ] using h)
            | .slice (some _) _ _,h=>simp [chkZ] at h
            | .slice none (_+1) _,h=>simp [chkZ] at h
            | .slice none 0 (_+1),h=>simp [chkZ] at h
            | .bool _,h | .int _ _,h | .float _ _,h | .complex _ _ _,h | .string _,h | .pointer _,h | .map _,h | .chan _,h | .func _ _ _,h | .nilFunc,h | .iface _ _,h | .nilIface,h | .agg _,h | .tuple _,h=>simp [chkZ] at h
          | np =>
            match c,h with
            | .pointer none,h=>exact one _ _ rfl rfl (by simpa [chkZ] using h)
            | .pointer (some _),h=>simp [chkZ] at h
            | .bool _,h | .int _ _,h | .float _ _,h | .complex _ _ _,h | .string _,h | .slice _ _ _,h | .map _,h | .chan _,h | .func _ _ _,h | .nilFunc,h | .iface _ _,h | .nilIface,h | .agg _,h | .tuple _,h=>simp [chkZ] at h
          | nm =>
            match c,h with
            | .map none,h=>exact one _ _ rfl rfl (by simpa [chkZ] using h)
            | .map (some _),h=>simp [chkZ] at h
            | .bool _,h | .int _ _,h | .float _ _,h | .complex _ _ _,h | .string _,h | .slice _ _ _,h | .pointer _,h | .chan _,h | .func _ _ _,h | .nilFunc,h | .iface _ _,h | .nilIface,h | .agg _,h | .tuple _,h=>simp [chkZ] at h
          | nf =>
            match c,h with
            | .nilFunc,h=>exact one _ _ rfl rfl (by simpa [chkZ] using h)
            | .bool _,h | .int _ _,h | .float _ _,h | .complex _ _ _,h | .string _,h | .slice _ _ _,h | .pointer _,h | .map _,h | .chan _,h | .func _ _ _,h | .iface _ _,h | .nilIface,h | .agg _,h | .tuple _,h=>simp [chkZ] at h
          | ni =>
            match c,h with
            | .nilIface,h=>exact one _ _ rfl rfl (by simpa [chkZ] using h)
            | .bool _,h | .int _ _,h | .float _ _,h | .complex _ _ _,h | .string _,h | .slice _ _ _,h | .pointer _,h | .map _,h | .chan _,h | .func _ _ _,h | .iface _ _,h | .nilFunc,h | .agg _,h | .tuple _,h=>simp [chkZ] at h
          | _=>simp [chkZ] at h
theorem zeroT_ok (hG:GOK P G) {T:Nat} {ls:List (Lf G)} (h:zeroT P G T=some ls) : ∃ z,(P.info? T).map (·.zero)=some (some z)∧∀ hv o w,LRs hv o w ls z.cells.toList:=by
  unfold zeroT at h
  cases hi:P.info? T with
  | none=>rw [hi] at h; cases h
  | some i =>
    rw [hi] at h
    simp only at h
    cases hz:i.zero with
    | none=>rw [hz] at h; cases h
    | some z =>
      rw [hz] at h
      simp only at h
      cases hc:chkZ G 300 (zL P G 16 T) z.cells.toList with
      | false=>rw [hc] at h; cases h
      | true =>
        rw [hc] at h; cases h
        exact ⟨z,by simp [hz],fun hv o w=>chkZ_ok hG _ _ _ hc⟩
end laws
end Go.Proofs.YtpmkkhkphddfeaaGreatDoor.SX
set_option linter.unusedVariables false
set_option linter.unusedSimpArgs false
set_option maxHeartbeats 1000000
namespace Go.Proofs.YtpmkkhkphddfeaaGreatDoor.SX
open Go Go.RowKit
section n
variable {P:Program} {G:Gm} {R:Type} {hv:Nat→Value} {o:Tags} {w:World} {ρ:Env} {r:R}
theorem VR.leaf {l:Lf G} {v:Value} (h:VR hv o w (.v false [l]) v) : LR hv o w l [v]:=by
  obtain ⟨cs,h1,⟨h2,_⟩|⟨_,rfl⟩⟩:=h
  · cases h2
  · exact h1.of1
theorem VR.agg {ls:List (Lf G)} {v:Value} (h:VR hv o w (.v true ls) v) : ∃ cs,LRs hv o w ls cs∧v = .agg cs.toArray:=by
  obtain ⟨cs,h1,⟨_,h2⟩|⟨h2,_⟩⟩:=h
  · exact ⟨cs,h1,h2⟩
  · cases h2
theorem VR.ls {ls:List (Lf G)} {v:Value} (h:VR hv o w (.v false ls) v) : LRs hv o w ls [v]:=by
  obtain ⟨cs,h1,⟨h2,_⟩|⟨_,rfl⟩⟩:=h
  · cases h2
  · exact h1
theorem VR.mk1 {l:Lf G} {v:Value} (h:LR hv o w l [v]) : VR hv o w (.v false [l]) v:=⟨[v],LRs.single h,.inr ⟨rfl,rfl⟩⟩
theorem VR.mkA {ls:List (Lf G)} {cs:List Value} (h:LRs hv o w ls cs) : VR hv o w (.v true ls) (.agg cs.toArray):=⟨cs,h,.inl ⟨rfl,rfl⟩⟩
theorem VR.cells {a:Bool} {ls:List (Lf G)} {v:Value} (h:VR hv o w (.v a ls) v) : ∃ cs,LRs hv o w ls cs∧v.cells=cs.toArray:=by
  obtain ⟨cs,h1,⟨_,rfl⟩|⟨_,rfl⟩⟩:=h
  · exact ⟨cs,h1,rfl⟩
  · refine ⟨[v],h1,?_⟩
    have:=h1.one v (List.mem_singleton.2 rfl)
    cases v <;> first | rfl | cases this
theorem nrm_ok:∀ {a:AT G.α} {v:Value},VR hv o w a v→VR hv o w (nrmA a) v
  | .v _ _,_,h=>h
  | .tp _,_,h=>h
  | .ifc ..,_,h=>h
  | .kn b c,v,h=>VR.mk1 (show [v]=[Value.bool c] from by rw [h.2])
  | .un,_,h=>h
  | .dd,_,h=>h
theorem get1_ok {a:AT G.α} {K:Lf G→Option R} (h:get1 a K=some r) : ∃ l,a = .v false [l]∧K l=some r:=by
  unfold get1 at h
  split at h
  · exact ⟨_,rfl,h⟩
  · cases h
theorem gA_ok {e b:EnvA G} (h:∀ t,VR hv o w (lkE (e++b) t) (ρ t)) (x:Operand) : VR hv o w (gA e b x) (ev ρ x):=by
  cases x with
  | tmp t=>exact h t
  | const v =>
    by_cases ha:∃ cs,v = .agg cs
    · obtain ⟨cs,rfl⟩:=ha
      show VR hv o w (bif (cs.toList.map (ofV G)).any isDd then AT.dd else AT.v true (cs.toList.map (ofV G))) _
      cases hc:(cs.toList.map (ofV G)).any isDd with
      | true=>trivial
      | false=>exact ⟨cs.toList,ofVs_ok hc,.inl ⟨rfl,by simp [ev]⟩⟩
    · have:gA e b (.const v)=bif isDd (ofV G v) then AT.dd else AT.v false [ofV G v]:=by
        cases v <;> first | rfl | exact absurd ⟨_,rfl⟩ ha
      rw [this]
      cases hc:isDd (ofV G v) with
      | true=>trivial
      | false=>exact VR.mk1 (ofV_ok hc)
  | global g=>trivial
  | func f=>exact VR.mk1 ⟨rfl,rfl⟩
theorem num_ok:∀ {l:Lf G} {n:Int} {v:Value},num? l=some n→LR hv o w l [v]→∃ k,v = .int k n
  | .d (.int k) _,n,v,h,k'=>by cases h; exact ⟨k,(List.cons.inj (show [v]=[_] from k')).1⟩
  | .d .u8 x,n,v,h,k'=>by cases h; exact ⟨.u8,(List.cons.inj (show [v]=[_] from k')).1⟩
  | .d .u32 x,n,v,h,k'=>by cases h; exact ⟨.u32,(List.cons.inj (show [v]=[_] from k')).1⟩
  | .d .u64 x,n,v,h,k'=>by cases h; exact ⟨.u64,(List.cons.inj (show [v]=[_] from k')).1⟩
def BinR (P:Program) (hv:Nat→Value) (o:Tags) (w:World) (op:BinOp) (xt:Nat) (u v:Value) (K:Lf G→Option R) (r:R) : Prop:=
  ∃ l x,K l=some r∧LR hv o w l [x]∧Bin P op xt u v x
theorem lr1 {s:Value→Prop} {a b:Value} (h : [a]=[b]) : a=b:=by simpa using h
theorem binI_ok {op:BinOp} {a b:Int} {K:Lf G→Option R} {xt:Nat} (h:binI op a b K=some r) : BinR P hv o w op xt (.int .i64 a) (.int .i64 b) K r:=by
  cases op <;> simp only [binI] at h <;> try cases h
  · exact ⟨_,_,h,rfl,bin_add64⟩
  · exact ⟨_,_,h,rfl,bin_sub64⟩
  · exact ⟨_,_,h,rfl,bin_mul64⟩
  · obtain ⟨u,hu,h⟩:=bindE h; exact ⟨_,_,h,rfl,bin_quo64 (by have:=chk_true hu; simpa using this)⟩
  · obtain ⟨u,hu,h⟩:=bindE h; exact ⟨_,_,h,rfl,bin_rem64 (by have:=chk_true hu; simpa using this)⟩
  · exact ⟨_,_,h,rfl,bin_and_i64⟩
  · exact ⟨_,_,h,rfl,bin_or_i64⟩
theorem cmpI_ok {op:BinOp} {k:IntKind} {a b:Int} {K:Lf G→Option R} {xt:Nat} (h:cmpI op a b K=some r) : BinR P hv o w op xt (.int k a) (.int k b) K r:=by
  cases op <;> simp only [cmpI] at h <;> try cases h
  · exact ⟨_,_,h,rfl,bin_eql⟩
  · exact ⟨_,_,h,rfl,bin_neq⟩
  · exact ⟨_,_,h,rfl,bin_lss⟩
  · exact ⟨_,_,h,rfl,bin_leq⟩
  · exact ⟨_,_,h,rfl,bin_gtr⟩
  · exact ⟨_,_,h,rfl,bin_geq⟩
theorem bin8_ok {op:BinOp} {a b:UInt8} {K:Lf G→Option R} {xt:Nat} (h:bin8 op a b K=some r) : BinR P hv o w op xt (enc8 a) (enc8 b) K r:=by
  cases op <;> simp only [bin8] at h <;> try cases h
  · exact ⟨_,_,h,rfl,bin_add_u8⟩
  · exact ⟨_,_,h,rfl,bin_sub_u8⟩
  · exact ⟨_,_,h,rfl,bin_mul_u8⟩
  · obtain ⟨u,hu,h⟩:=bindE h; exact ⟨_,_,h,rfl,bin_quo_u8 (by have:=chk_true hu; simpa using this)⟩
  · obtain ⟨u,hu,h⟩:=bindE h; exact ⟨_,_,h,rfl,bin_rem_u8 (by have:=chk_true hu; simpa using this)⟩
  · exact ⟨_,_,h,rfl,bin_and_u8⟩
  · exact ⟨_,_,h,rfl,bin_or_u8⟩
  · exact ⟨_,_,h,rfl,bin_xor_u8⟩
  · exact ⟨_,_,h,rfl,bin_andNot_u8⟩
  · exact ⟨_,_,h,rfl,bin_eql_u8⟩
  · exact ⟨_,_,h,rfl,bin_neq_u8⟩
  · exact ⟨_,_,h,rfl,bin_lss_u8⟩
  · exact ⟨_,_,h,rfl,bin_leq_u8⟩
  · exact ⟨_,_,h,rfl,bin_gtr_u8⟩
  · exact ⟨_,_,h,rfl,bin_geq_u8⟩
theorem bin32_ok {op:BinOp} {a b:UInt32} {K:Lf G→Option R} {xt:Nat} (h:bin32 op a b K=some r) : BinR P hv o w op xt (enc32 a) (enc32 b) K r:=by
  cases op <;> simp only [bin32] at h <;> try cases h
  · exact ⟨_,_,h,rfl,bin_add_u32⟩
  · exact ⟨_,_,h,rfl,bin_sub_u32⟩
  · exact ⟨_,_,h,rfl,bin_mul_u32⟩
  · obtain ⟨u,hu,h⟩:=bindE h; exact ⟨_,_,h,rfl,bin_quo_u32 (by have:=chk_true hu; simpa using this)⟩
  · obtain ⟨u,hu,h⟩:=bindE h; exact ⟨_,_,h,rfl,bin_rem_u32 (by have:=chk_true hu; simpa using this)⟩
  · exact ⟨_,_,h,rfl,bin_and_u32⟩
  · exact ⟨_,_,h,rfl,bin_or_u32⟩
  · exact ⟨_,_,h,rfl,bin_xor_u32⟩
  · exact ⟨_,_,h,rfl,bin_andNot_u32⟩
  · exact ⟨_,_,h,rfl,bin_eql_u32⟩
  · exact ⟨_,_,h,rfl,bin_neq_u32⟩
  · exact ⟨_,_,h,rfl,bin_lss_u32⟩
  · exact ⟨_,_,h,rfl,bin_leq_u32⟩
  · exact ⟨_,_,h,rfl,bin_gtr_u32⟩
  · exact ⟨_,_,h,rfl,bin_geq_u32⟩
theorem bin64_ok {op:BinOp} {a b:UInt64} {K:Lf G→Option R} {xt:Nat} (h:bin64 op a b K=some r) : BinR P hv o w op xt (enc64 a) (enc64 b) K r:=by
  cases op <;> simp only [bin64] at h <;> try cases h
  · exact ⟨_,_,h,rfl,bin_add_u64⟩
  · exact ⟨_,_,h,rfl,bin_sub_u64⟩
  · exact ⟨_,_,h,rfl,bin_mul_u64⟩
  · obtain ⟨u,hu,h⟩:=bindE h; exact ⟨_,_,h,rfl,bin_quo_u64 (by have:=chk_true hu; simpa using this)⟩
  · obtain ⟨u,hu,h⟩:=bindE h; exact ⟨_,_,h,rfl,bin_rem_u64 (by have:=chk_true hu; simpa using this)⟩
  · exact ⟨_,_,h,rfl,bin_and_u64⟩
  · exact ⟨_,_,h,rfl,bin_or_u64⟩
  · exact ⟨_,_,h,rfl,bin_xor_u64⟩
  · exact ⟨_,_,h,rfl,bin_andNot_u64⟩
  · exact ⟨_,_,h,rfl,bin_eql_u64⟩
  · exact ⟨_,_,h,rfl,bin_neq_u64⟩
  · exact ⟨_,_,h,rfl,bin_lss_u64⟩
  · exact ⟨_,_,h,rfl,bin_leq_u64⟩
  · exact ⟨_,_,h,rfl,bin_gtr_u64⟩
  · exact ⟨_,_,h,rfl,bin_geq_u64⟩
theorem binS_ok {op:BinOp} {a b:List UInt8} {K:Lf G→Option R} {xt:Nat} (h:binS op a b K=some r) : BinR P hv o w op xt (encS a) (encS b) K r:=by
  cases op <;> simp only [binS] at h <;> try cases h
  · obtain ⟨u,hu,h⟩:=bindE h; exact ⟨_,_,h,rfl,bin_add_str (of_decide_eq_true (chk_true hu))⟩
  · exact ⟨_,_,h,rfl,bin_eql_str⟩
  · exact ⟨_,_,h,rfl,bin_neq_str⟩
  · exact ⟨_,_,h,rfl,bin_lss_str⟩
  · exact ⟨_,_,h,rfl,bin_leq_str⟩
  · exact ⟨_,_,h,rfl,bin_gtr_str⟩
  · exact ⟨_,_,h,rfl,bin_geq_str⟩
theorem shf_ok {op:BinOp} {a:Lf G} {n:Nat} {K:Lf G→Option R} {xt:Nat} {u:Value} {k:IntKind} (h:shf op a n K=some r) (ha:LR hv o w a [u]) : BinR P hv o w op xt u (.int k (n:Int)) K r:=by
  unfold shf at h
  split at h
  · obtain rfl:=lr1 (s:=fun _=>True) ha; exact ⟨_,_,h,rfl,bin_shl_u8n⟩
  · obtain rfl:=lr1 (s:=fun _=>True) ha; exact ⟨_,_,h,rfl,bin_shr_u8n⟩
  · obtain rfl:=lr1 (s:=fun _=>True) ha; exact ⟨_,_,h,rfl,bin_shl_u32n⟩
  · obtain rfl:=lr1 (s:=fun _=>True) ha; exact ⟨_,_,h,rfl,bin_shr_u32n⟩
  · obtain rfl:=lr1 (s:=fun _=>True) ha; exact ⟨_,_,h,rfl,bin_shl_u64n⟩
  · obtain rfl:=lr1 (s:=fun _=>True) ha; exact ⟨_,_,h,rfl,bin_shr_u64n⟩
  · obtain rfl:=lr1 (s:=fun _=>True) ha; exact ⟨_,_,h,rfl,bin_shl_i64n⟩
  · obtain rfl:=lr1 (s:=fun _=>True) ha; exact ⟨_,_,h,rfl,bin_shr_i64n⟩
  · cases h
theorem nilR_ok {op:BinOp} {β:Type} {xs:List β} {K:Lf G→Option R} {xt E:Nat} {rp:Rep β} {F F':Nat→Prop} {A:Option Addr} {m c:Nat} (hT:P.underlying xt=some (.slice E)) (h:nilR op xs K=some r) (hr:Row rp F F' w A xs) : BinR P hv o w op xt (.slice A m c) (.slice none 0 0) K r:=by
  cases op <;> simp only [nilR] at h <;> first | (cases h; done) | skip
  · rcases @nilE _ _ (fun a b=>Classical.propDecidable (a=b)) _ _ _ _ _ _ _ _ _ h hr with ⟨rfl,h⟩|⟨ad,rfl,h⟩
    · exact ⟨_,_,h,rfl,bin_eql_slN hT⟩
    · exact ⟨_,_,h,rfl,bin_eql_slS hT⟩
  · rcases @nilE _ _ (fun a b=>Classical.propDecidable (a=b)) _ _ _ _ _ _ _ _ _ h hr with ⟨rfl,h⟩|⟨ad,rfl,h⟩
    · exact ⟨_,_,h,rfl,bin_neq_slN hT⟩
    · exact ⟨_,_,h,rfl,bin_neq_slS hT⟩
theorem bin2_ok {h:Nat→Obj G.α} (ho:∀ i,OR hv o w i (h i)) {op:BinOp} {a b:Lf G} {K:Lf G→Option R} {xt:Nat} {u v:Value} (h:bin2 P h op xt a b K=some r) (ha:LR hv o w a [u]) (hb:LR hv o w b [v]) : BinR P hv o w op xt u v K r:=by
  unfold bin2 at h
  cases hs:isSh op with
  | true =>
    rw [hs,cond_true] at h
    split at h
    · obtain ⟨x,hx,h⟩:=bindE h
      have h0:(0:Int)≤_:=of_decide_eq_true (chk_true hx)
      obtain rfl:=lr1 (s:=fun _=>True) hb
      rename_i k _ _
      have:=shf_ok (P:=P) (xt:=xt) (k:=k) h ha
      rw [Int.toNat_of_nonneg h0] at this
      exact this
    · obtain rfl:=lr1 (s:=fun _=>True) hb; exact shf_ok h ha
    · obtain rfl:=lr1 (s:=fun _=>True) hb; exact shf_ok h ha
    · obtain rfl:=lr1 (s:=fun _=>True) hb; exact shf_ok h ha
    · cases h
  | false =>
    rw [hs,cond_false] at h
    split at h
    · obtain rfl:=lr1 (s:=fun _=>True) ha
      obtain rfl:=lr1 (s:=fun _=>True) hb
      rename_i k x k' y
      cases hk:decide (k=k') with
      | false=>rw [hk] at h; cases h
      | true =>
        rw [hk,cond_true] at h
        obtain rfl:=of_decide_eq_true hk
        cases hc:isCmp op with
        | true=>rw [hc,cond_true] at h; exact cmpI_ok h
        | false =>
          rw [hc,cond_false] at h
          cases hi:decide (k = .i64) with
          | false=>rw [hi] at h; cases h
          | true=>rw [hi,cond_true] at h; obtain rfl:=of_decide_eq_true hi; exact binI_ok h
    · obtain rfl:=lr1 (s:=fun _=>True) ha; obtain rfl:=lr1 (s:=fun _=>True) hb; exact bin8_ok h
    · obtain rfl:=lr1 (s:=fun _=>True) ha; obtain rfl:=lr1 (s:=fun _=>True) hb; exact bin32_ok h
    · obtain rfl:=lr1 (s:=fun _=>True) ha; obtain rfl:=lr1 (s:=fun _=>True) hb; exact bin64_ok h
    · obtain rfl:=lr1 (s:=fun _=>True) ha; obtain rfl:=lr1 (s:=fun _=>True) hb; exact binS_ok h
    · obtain rfl:=lr1 (s:=fun _=>True) ha; obtain rfl:=lr1 (s:=fun _=>True) hb
      split at h
      · rename_i hT
        cases op <;> first | (simp only at h; cases h; done) | skip
        · exact ⟨_,_,h,rfl,bin_eql_bool hT⟩
        · exact ⟨_,_,h,rfl,bin_neq_bool hT⟩
      · cases h
    · obtain rfl:=lr1 (s:=fun _=>True) ha; obtain rfl:=lr1 (s:=fun _=>True) hb
      split at h
      · rename_i hT
        cases op <;> simp only [nilB] at h <;> first | (cases h; done) | skip
        · exact ⟨_,_,h,rfl,bin_eql_ptrNN hT⟩
        · exact ⟨_,_,h,rfl,bin_neq_ptrNN hT⟩
      · cases h
    · obtain ⟨b_,_,ha⟩:=ha
      obtain rfl:=lr1 (s:=fun _=>True) ha; obtain rfl:=lr1 (s:=fun _=>True) hb
      split at h
      · rename_i hT
        cases op <;> simp only [nilB] at h <;> first | (cases h; done) | skip
        · exact ⟨_,_,h,rfl,bin_eql_ptrSN hT⟩
        · exact ⟨_,_,h,rfl,bin_neq_ptrSN hT⟩
      · cases h
    · obtain ⟨b_,_,ha,_⟩:=ha
      obtain rfl:=lr1 (s:=fun _=>True) ha; obtain rfl:=lr1 (s:=fun _=>True) hb
      split at h
      · rename_i hT
        cases op <;> simp only [nilB] at h <;> first | (cases h; done) | skip
        · exact ⟨_,_,h,rfl,bin_eql_ptrSN hT⟩
        · exact ⟨_,_,h,rfl,bin_neq_ptrSN hT⟩
      · cases h
    · obtain rfl:=lr1 (s:=fun _=>True) ha; obtain rfl:=lr1 (s:=fun _=>True) hb
      split at h
      · rename_i hT
        cases op <;> simp only [nilB] at h <;> first | (cases h; done) | skip
        · exact ⟨_,_,h,rfl,bin_eql_mapN hT⟩
        · exact ⟨_,_,h,rfl,bin_neq_mapN hT⟩
      · cases h
    · obtain ⟨b_,_,ha⟩:=ha
      obtain rfl:=lr1 (s:=fun _=>True) ha; obtain rfl:=lr1 (s:=fun _=>True) hb
      split at h
      · rename_i hT
        cases op <;> simp only [nilB] at h <;> first | (cases h; done) | skip
        · exact ⟨_,_,h,rfl,bin_eql_mapS hT⟩
        · exact ⟨_,_,h,rfl,bin_neq_mapS hT⟩
      · cases h
    · obtain ⟨_,ha⟩:=ha
      obtain rfl:=lr1 (s:=fun _=>True) ha; obtain rfl:=lr1 (s:=fun _=>True) hb
      split at h
      · rename_i hT
        cases op <;> simp only [nilB] at h <;> first | (cases h; done) | skip
        · exact ⟨_,_,h,rfl,bin_eql_fnN hT⟩
        · exact ⟨_,_,h,rfl,bin_neq_fnN hT⟩
      · cases h
    · obtain ⟨b_,_,ha,_⟩:=ha
      obtain rfl:=lr1 (s:=fun _=>True) ha; obtain rfl:=lr1 (s:=fun _=>True) hb
      split at h
      · rename_i hT
        cases op <;> simp only [nilB] at h <;> first | (cases h; done) | skip
        · exact ⟨_,_,h,rfl,bin_eql_ptrSN hT⟩
        · exact ⟨_,_,h,rfl,bin_neq_ptrSN hT⟩
      · cases h
    · obtain rfl:=lr1 (s:=fun _=>True) ha; obtain rfl:=lr1 (s:=fun _=>True) hb
      split at h
      · rename_i hT
        cases op <;> simp only [nilB] at h <;> first | (cases h; done) | skip
        · exact ⟨_,_,h,rfl,bin_eql_slN hT⟩
        · exact ⟨_,_,h,rfl,bin_neq_slN hT⟩
      · cases h
    · obtain ⟨A_,c_,ha,_,hrow⟩:=ha
      obtain rfl:=lr1 (s:=fun _=>True) ha; obtain rfl:=lr1 (s:=fun _=>True) hb
      split at h
      · rename_i hT
        exact nilR_ok hT h hrow
      · cases h
    · rename_i i_
      obtain ⟨ha,_⟩:=ha
      obtain rfl:=lr1 (s:=fun _=>True) ha; obtain rfl:=lr1 (s:=fun _=>True) hb
      split at h
      · rename_i hT
        split at h
        · rename_i E_ xs_ hob
          have hO:=ho i_
          rw [hob] at hO
          obtain ⟨A_,c_,hA,_,hrow⟩:=Own.row hO
          rw [hA]
          exact nilR_ok hT h hrow
        · cases h
      · cases h
    · cases h
theorem conv_ok {src dst:Nat} {a:Lf G} {K:Lf G→Option R} {x:Operand} (h:conv P src dst a K=some r) (ha:LR hv o w a [ev ρ x]) :
    ∃ l v,K l=some r∧LR hv o w l [v]∧∀ w' t,Ex P ρ (.convert src dst x) t w' v w':=by
  unfold conv at h
  split at h
  · rename_i kd ds hd hs
    have key:∀ (k:IntKind) (n:Int) (sm:Bool),ev ρ x = .int k n→(sm=true→0≤n∧n≤9223372036854775807)→toInt kd sm n K=some r→∃ l v,K l=some r∧LR hv o w l [v]∧∀ w' t,Ex P ρ (.convert src dst x) t w' v w':=by
      intro k n sm hx hsm h
      cases kd <;> simp only [toInt] at h <;> first | (cases h; done) | skip
      · cases sm with
        | true=>exact ⟨_,_,h,rfl,fun w' t=>ex_conv_small hx hs hd (hsm rfl)⟩
        | false=>exact ⟨_,_,h,rfl,fun w' t=>ex_conv64 hx hs hd⟩
      · exact ⟨_,_,h,rfl,fun w' t=>ex_conv_u8 hx hs hd⟩
      · exact ⟨_,_,h,rfl,fun w' t=>ex_conv_u32 hx hs hd⟩
      · exact ⟨_,_,h,rfl,fun w' t=>ex_conv_u64 hx hs hd⟩
    split at h
    · exact key _ _ _ (lr1 (s:=fun _=>True) ha) (fun h_=>by cases h_) h
    · exact key _ _ _ (lr1 (s:=fun _=>True) ha) (fun _=>small8 _) h
    · exact key _ _ _ (lr1 (s:=fun _=>True) ha) (fun _=>small32 _) h
    · exact key _ _ _ (lr1 (s:=fun _=>True) ha) (fun h_=>by cases h_) h
    · cases h
  · rename_i hd hs
    split at h
    · exact ⟨_,_,h,rfl,fun w' t=>ex_conv_str (lr1 (s:=fun _=>True) ha) hs hd⟩
    · cases h
  · rename_i k hd hs
    split at h
    · rename_i k' n
      cases hk:decide (k=k') with
      | false=>rw [hk] at h; cases h
      | true =>
        rw [hk,cond_true] at h
        obtain rfl:=of_decide_eq_true hk
        exact ⟨_,_,h,rfl,fun w' t=>ex_rune_str (lr1 (s:=fun _=>True) ha) hs hd⟩
    · cases h
  · cases h
end n
end Go.Proofs.YtpmkkhkphddfeaaGreatDoor.SX
set_option linter.unusedVariables false
set_option linter.unusedSimpArgs false
set_option maxHeartbeats 1000000
namespace Go.Proofs.YtpmkkhkphddfeaaGreatDoor.SX
open Go Go.RowKit
section n
variable {P:Program} {G:Gm} {R:Type} {hv:Nat→Value} {o:Tags} {w:World} {ρ:Env} {r:R}
theorem isT_info {T:Nat} (h:isT P T=true) : (P.info? T).map (·.size)=some (sizeT P T):=by
  unfold isT Program.underlying at h
  unfold sizeT
  cases hi:P.info? T with
  | none=>rw [hi] at h; cases h
  | some i=>rfl
theorem isT_some {T:Nat} (h:isT P T=true) : ∃ d,P.underlying T=some d:=Option.isSome_iff_exists.1 h
theorem agg_plain {T:Nat} {d:TypeDesc} (h:P.underlying T=some d) : plainT d = !(aggT P T):=by
  unfold aggT
  rw [h]
  cases d <;> rfl
theorem add0 (a:Addr) : a.add 0=a:=by simp [Addr.add]
theorem run_part {T:Nat} {cs:List Value} {off:Nat} (hT:isT P T=true) (hl:((cs.drop off).take (sizeT P T)).length=sizeT P T) (h1:(aggT P T || Nat.beq (sizeT P T) 1)=true) :
    ∃ v,(∀ w,(part T cs.toArray off).run P w = .ok v w)∧((aggT P T=true∧v = .agg ((cs.drop off).take (sizeT P T)).toArray)∨(aggT P T=false∧(cs.drop off).take (sizeT P T)=[v])):=by
  obtain ⟨d,hd⟩:=isT_some hT
  have hp:=agg_plain hd
  cases ha:aggT P T with
  | true =>
    rw [ha] at hp
    refine ⟨_,fun w=>?_,.inl ⟨rfl,rfl⟩⟩
    have e:cs.toArray.extract off (off+sizeT P T)=((cs.drop off).take (sizeT P T)).toArray:=by
      simp [List.extract_toArray,List.drop_take]
    simp [part,run_isAgg_yes hd hp,run_sizeOf' (isT_info hT),e]
  | false =>
    rw [ha] at hp h1
    have h1':sizeT P T=1:=Nat.eq_of_beq_eq_true h1
    rw [h1'] at hl ⊢
    match hc:(cs.drop off).take 1,hl with
    | [v],_ =>
      refine ⟨v,fun w=>?_,.inr ⟨rfl,rfl⟩⟩
      have e:cs[off]?=some v:=by
        have:=congrArg (fun l=>l[0]?) hc
        simpa using this
      simp [part,run_isAgg_no hd hp,e]
theorem ex_fieldP {T j:Nat} {fs:Array Field} {f:Field} {x:Operand} {t:TypeId} {cs:List Value} {v:Value} (hx:ev ρ x = .agg cs.toArray) (hT:P.underlying T=some (.struct fs)) (hf:fs[j]?=some f)
    (hp:(part f.type cs.toArray f.offset).run P w = .ok v w) : Ex P ρ (.field T x j) t w v w:=fun _ _ _ _=>by
  simp [execOp,hx,Instr.field,run_underlying hT,hf,asAgg,hp]
theorem ex_indexP {T E:Nat} {m:Nat} {x y:Operand} {t:TypeId} {cs:List Value} {v:Value} {ik:IntKind} {i:Int} {sz:Nat} (hx:ev ρ x = .agg cs.toArray) (hy:ev ρ y = .int ik i) (hT:P.underlying T=some (.array m E)) (hs:(P.info? E).map (·.size)=some sz)
    (h0:0≤i) (h1:i < m) (hp:(part E cs.toArray (i.toNat * sz)).run P w = .ok v w) : Ex P ρ (.index T x y) t w v w:=fun _ _ _ _=>by
  simp [execOp,hx,hy,Instr.index,asIntOf,run_underlying hT,h0,h1,asAgg,run_sizeOf' hs,hp]
theorem setC_ok {ls vs l:List (Lf G)} {off n:Nat} {cs cv:List Value} (h:setC ls off n vs=some l) (hn:cv.length=n) (k:LRs hv o w ls cs) (kv:LRs hv o w vs cv) : LRs hv o w l (splice cs off cv)∧off+cv.length≤cs.length:=by
  unfold setC at h
  obtain ⟨a,ha,h⟩:=bindE h
  obtain ⟨b,hb,h⟩:=bindE h
  cases h
  obtain ⟨i1,i2⟩:=takeC_ok ha k
  obtain ⟨j1,j2⟩:=dropC_ok hb k
  subst hn
  refine ⟨?_,j2⟩
  unfold splice
  rw [List.append_assoc]
  exact i1.app (kv.app j1)
theorem fillA_ok {g:Operand→AT G.α} (hg:∀ x,VR hv o w (g x) (ev ρ x)) {fs:Array Field}:∀ (ps:List (Nat×Operand)) (ls l:List (Lf G)) (cs:List Value),fillA P g fs ps ls=some l→LRs hv o w ls cs →
    ∃ cs',fillL (fun i=>(fs.toList.map fun f=>(f.offset,sizeT P f.type))[i]?) cs (ps.map fun q=>(q.1,(ev ρ q.2).cells.toList))=some cs'∧LRs hv o w l cs'
  | [],ls,l,cs,h,k=>by
    simp only [fillA,Option.some.injEq] at h
    subst h
    exact ⟨cs,rfl,k⟩
  | (j,x) :: ps,ls,l,cs,h,k=>by
    unfold fillA at h
    split at h
    · rename_i f a vs hf hx
      cases hc:(isT P f.type && (a == aggT P f.type)) && Nat.beq (vs.map Leaf.sz).sum (sizeT P f.type) with
      | false=>rw [hc] at h; cases h
      | true =>
        rw [hc,cond_true] at h
        simp only [Bool.and_eq_true] at hc
        have hsz:=Nat.eq_of_beq_eq_true hc.2
        obtain ⟨l1,hl,h⟩:=bindE h
        have hvx:=hg x
        rw [hx] at hvx
        obtain ⟨cv,hcv,hce⟩:=hvx.cells
        have hlen:cv.length=sizeT P f.type:=hcv.len.trans hsz
        obtain ⟨k1,k2⟩:=setC_ok hl hlen k hcv
        obtain ⟨cs',h2,k3⟩:=fillA_ok hg ps l1 l _ h k1
        refine ⟨cs',?_,k3⟩
        have hpl:(fs.toList.map fun f=>(f.offset,sizeT P f.type))[j]?=some (f.offset,sizeT P f.type):=by
          rw [List.getElem?_map,Array.getElem?_toList,hf]; rfl
        rw [List.map_cons]
        unfold fillL
        rw [hpl,hce]
        simp only
        rw [show (!(Nat.beq cv.length (sizeT P f.type)) || Nat.blt cs.length (f.offset+cv.length))=false from ?_,cond_false]
        · exact h2
        · rw [hlen]; simp [← Bool.not_eq_true,Nat.blt_eq]; omega
    · cases h
theorem low_ok {g:Operand→AT G.α} (hg:∀ x,VR hv o w (g x) (ev ρ x)) {lo:Option Operand} {l:Int} (h:(match lo with | none=>some 0 | some o=>get1 (g o) num?)=some l) : lowOf ρ lo l:=by
  cases lo with
  | none=>cases h; exact rfl
  | some x =>
    obtain ⟨q,hq,h⟩:=get1_ok h
    have:=hg x
    rw [hq] at this
    exact num_ok h this.leaf
theorem high_ok {g:Operand→AT G.α} (hg:∀ x,VR hv o w (g x) (ev ρ x)) {hi:Option Operand} {m:Nat} {u:Int} (h:(match hi with | none=>some (m:Int) | some o=>get1 (g o) num?)=some u) : highOf ρ m hi u:=by
  cases hi with
  | none=>cases h; exact rfl
  | some x =>
    obtain ⟨q,hq,h⟩:=get1_ok h
    have:=hg x
    rw [hq] at this
    exact num_ok h this.leaf
theorem tr_get:∀ {l:List (Bool×List (Lf G))} {vs:List Value} {i:Nat} {q:Bool×List (Lf G)},TRs hv o w l vs→l[i]?=some q→∃ v,vs[i]?=some v∧V1 hv o w q.1 q.2 v
  | [],vs,i,q,h,hq=>by simp at hq
  | a :: l,vs,0,q,⟨v,r,e,h0,h1⟩,hq=>by
    obtain rfl:a=q:=by simpa using hq
    exact ⟨v,by rw [e]; rfl,h0⟩
  | a :: l,vs,i+1,q,⟨v,r,e,h0,h1⟩,hq=>by
    obtain ⟨u,h2,h3⟩:=tr_get h1 (by simpa using hq)
    exact ⟨u,by rw [e]; simpa using h2,h3⟩
theorem toList_two {α:Type} {a:Array α} {l:List α} (h:a.toList=l) : a=l.toArray:=by rw [← h]
theorem cond_no {b:Bool} {x:Option R} (h:(bif !b then none else x)=some r) : b=true∧x=some r:=by cases b <;> simp_all
theorem cond_yes {b:Bool} {x:Option R} (h:(bif b then x else none)=some r) : b=true∧x=some r:=by cases b <;> simp_all
def OpR (P:Program) (hv:Nat→Value) (o:Tags) (w:World) (ρ:Env) (op:Op) (K:AT G.α→Option R) (r:R) : Prop:=
  ∃ a v,K a=some r∧VR hv o w a v∧∀ w' t,Ex P ρ op t w' v w'
theorem manyOps (hG:GOK P G) {E:Nat} {ag:Bool} {g:Operand→AT G.α} (hg:∀ x,VR hv o w (g x) (ev ρ x)) : ∀ {ps:List (Nat×Operand)} {xs:List (G.α E)},
    ps.mapM (fun (q:Nat×Operand)=>match g q.2 with | .v a ls=>(bif a == ag then clT G E ls else none) | _=>none)=some xs →
    ManyC (G.rep E) (fun b=>o b=0) w xs ((ps.map fun q=>(q.1,ev ρ q.2)).map fun q=>q.2.cells.toList)∧xs.length=ps.length
  | [],xs,h=>by
    simp only [List.mapM_nil] at h
    cases h
    exact ⟨trivial,rfl⟩
  | q :: ps,xs,h=>by
    rw [List.mapM_cons] at h
    obtain ⟨x,hx,h⟩:=bindE h
    obtain ⟨xs',hxs,h⟩:=bindE h
    cases h
    obtain ⟨i1,i2⟩:=manyOps hG hg hxs
    have h1:=hg q.2
    split at hx
    · rename_i a ls e1
      rw [e1] at h1
      obtain ⟨ha,hx⟩:=cond_yes hx
      obtain ⟨cs,hl,hc⟩:=h1.cells
      refine ⟨⟨?_,i1⟩,by simp [i2]⟩
      simp only [hc]
      exact clT_ok hG hx hl
    · cases hx
theorem manyC_all {α:Type} {r0:Rep α} {F:Nat→Prop}:∀ {xs:List α} {css:List (List Value)},ManyC r0 F w xs css→∀ c ∈ css,c.length=r0.sz
  | [],[],_=>fun c hc=>by cases hc
  | x :: xs,c :: css,⟨h0,h1⟩=>fun d hd=>by
    rcases List.mem_cons.1 hd with rfl | hd
    · exact r0.len h0
    · exact manyC_all h1 d hd
theorem nopG_ok (hG:GOK P G) {h:Nat→Obj G.α} {g0 g:Operand→AT G.α} {op:Op} {K:AT G.α→Option R} (hk:nopG P h g0 g op K=some r) (hg0:∀ x,VR hv o w (g0 x) (ev ρ x)) (hg:∀ x,VR hv o w (g x) (ev ρ x)) (ho:∀ i,OR hv o w i (h i)) : OpR P hv o w ρ op K r:=by
  have mvc:∀ (x:Operand) (op:Op),(∀ v,ev ρ x=v→∀ w' t,Ex P ρ op t w' v w')→(match g0 x with | .v a ls=>K (.v a ls) | .tp l=>K (.tp l) | .kn b c=>K (.kn b c) | .ifc T a ls=>K (.ifc T a ls) | _=>none)=some r→OpR P hv o w ρ op K r:=by
    intro x op hop hk
    have hx:=hg0 x
    split at hk
    · rename_i e; rw [e] at hx; exact ⟨_,_,hk,hx,hop _ rfl⟩
    · rename_i e; rw [e] at hx; exact ⟨_,_,hk,hx,hop _ rfl⟩
    · rename_i e; rw [e] at hx; exact ⟨_,_,hk,hx,hop _ rfl⟩
    · rename_i e; rw [e] at hx; exact ⟨_,_,hk,hx,hop _ rfl⟩
    · cases hk
  unfold nopG at hk
  split at hk
  · exact mvc _ _ (fun v hx w' t=>ex_move hx) hk
  · exact mvc _ _ (fun v hx w' t=>ex_assign hx) hk
  ·
    rename_i c x y
    have side:∀ (b:Bool) (z:Operand),ev ρ c = .bool b→(bif b then x else y)=z→(match g z with | .v a ls=>K (.v a ls) | _=>none)=some r→OpR P hv o w ρ (.pick c x y) K r:=by
      intro b z hc hz hk
      have hx:=hg z
      split at hk
      · rename_i e
        rw [e] at hx
        refine ⟨_,_,hk,hx,fun w' t=>?_⟩
        cases b with
        | true=>subst hz; exact ex_pick_t hc rfl
        | false=>subst hz; exact ex_pick_f hc rfl
      · cases hk
    have hc:=hg0 c
    split at hk
    · rename_i e; rw [e] at hc; obtain ⟨hb,hc⟩:=hc; exact side true x (by rw [hc,← hb]) rfl hk
    · rename_i e; rw [e] at hc; obtain ⟨hb,hc⟩:=hc; exact side false y (by rw [hc,← hb]) rfl hk
    · rename_i b e
      rw [e] at hc
      have hcb:ev ρ c = .bool b:=lr1 (s:=fun _=>True) hc.leaf
      split at hk
      · rename_i s u s' v e1 e2
        replace hk:=bindE hk; obtain ⟨v',hv',hk⟩:=hk
        have h1:=hg x
        have h2:=hg y
        rw [e1] at h1
        rw [e2] at h2
        refine ⟨_,_,hk,?_,fun w' t=>ex_pick hcb rfl rfl⟩
        cases b with
        | true=>exact VR.mk1 h1.leaf
        | false=>exact VR.mk1 (castS_ok hv' h2.leaf)
      · cases b with
        | true=>exact side true x hcb rfl hk
        | false=>exact side false y hcb rfl hk
    · cases hk
  ·
    rename_i op xt x y yt
    have h1:=hg x
    have h2:=hg y
    split at hk
    · rename_i b e1 e2
      rw [e1] at h1
      obtain ⟨v_,hv_,he⟩:=h1.leaf
      have hv_:=lr1 (s:=fun _=>True) hv_
      split at hk
      · rename_i hT
        split at hk
        · exact ⟨_,_,hk,VR.mk1 rfl,fun w' t=>ex_errEql hv_ hT he⟩
        · exact ⟨_,_,hk,VR.mk1 rfl,fun w' t=>ex_errNeq hv_ hT he⟩
        · cases hk
      · cases hk
    · rename_i e1 e2
      rw [e1] at h1
      have hv_:=lr1 (s:=fun _=>True) h1.leaf
      have he:IsErr false (ev ρ x):=hv_
      split at hk
      · rename_i hT
        split at hk
        · exact ⟨_,_,hk,VR.mk1 rfl,fun w' t=>ex_errEql rfl hT he⟩
        · exact ⟨_,_,hk,VR.mk1 rfl,fun w' t=>ex_errNeq rfl hT he⟩
        · cases hk
      · cases hk
    · rename_i T_ a_ ls_ e1 e2
      rw [e1] at h1
      obtain ⟨u_,hv_,_⟩:=h1
      have he:IsErr true (ev ρ x):=⟨_,_,hv_⟩
      split at hk
      · rename_i hT
        split at hk
        · exact ⟨_,_,hk,VR.mk1 rfl,fun w' t=>ex_errEql rfl hT he⟩
        · exact ⟨_,_,hk,VR.mk1 rfl,fun w' t=>ex_errNeq rfl hT he⟩
        · cases hk
      · cases hk
    · rename_i a b _ _ e1 e2
      rw [e1] at h1
      rw [e2] at h2
      obtain ⟨l,v,k1,k2,k3⟩:=bin2_ok ho hk h1.leaf h2.leaf
      exact ⟨_,_,k1,VR.mk1 k2,fun w' t=>ex_bin rfl rfl k3⟩
    · rename_i as_ bs e1 e2
      rw [e1] at h1
      rw [e2] at h2
      replace hk:=cond_no hk; obtain ⟨hq,hk⟩:=hk
      obtain ⟨cs,l1,v1⟩:=h1.agg
      obtain ⟨ds,l2,v2⟩:=h2.agg
      split at hk
      · rename_i u v c1 c2
        obtain ⟨k1,k2⟩:=hG.eq xt hq _ w u v cs ds (clT_ok hG c1 l1) (clT_ok hG c2 l2)
        split at hk
        · exact ⟨_,_,hk,VR.mk1 rfl,fun w' t=>ex_bin v1 v2 (bin_eql_agg k1 k2)⟩
        · exact ⟨_,_,hk,VR.mk1 rfl,fun w' t=>ex_bin v1 v2 (bin_neq_agg k1 k2)⟩
        · cases hk
      · cases hk
    · cases hk
  ·
    rename_i op xt x
    replace hk:=get1_ok hk; obtain ⟨a,e,hk⟩:=hk
    have h1:=hg x
    rw [e] at h1
    replace h1:=h1.leaf
    split at hk
    · exact ⟨_,_,hk,VR.mk1 rfl,fun w' t=>ex_not (lr1 (s:=fun _=>True) h1)⟩
    · exact ⟨_,_,hk,VR.mk1 rfl,fun w' t=>ex_neg64 (lr1 (s:=fun _=>True) h1)⟩
    · exact ⟨_,_,hk,VR.mk1 rfl,fun w' t=>ex_not_u8 (lr1 (s:=fun _=>True) h1)⟩
    · exact ⟨_,_,hk,VR.mk1 rfl,fun w' t=>ex_not_u32 (lr1 (s:=fun _=>True) h1)⟩
    · exact ⟨_,_,hk,VR.mk1 rfl,fun w' t=>ex_not_u64 (lr1 (s:=fun _=>True) h1)⟩
    · exact ⟨_,_,hk,VR.mk1 rfl,fun w' t=>ex_neg_u64 (lr1 (s:=fun _=>True) h1)⟩
    · exact ⟨_,_,hk,VR.mk1 rfl,fun w' t=>ex_neg_u32 (lr1 (s:=fun _=>True) h1)⟩
    · exact ⟨_,_,hk,VR.mk1 rfl,fun w' t=>ex_neg_u8 (lr1 (s:=fun _=>True) h1)⟩
    · cases hk
  ·
    rename_i src dst x
    replace hk:=get1_ok hk; obtain ⟨a,e,hk⟩:=hk
    have h1:=hg x
    rw [e] at h1
    obtain ⟨l,v,k1,k2,k3⟩:=conv_ok (x:=x) hk h1.leaf
    exact ⟨_,_,k1,VR.mk1 k2,k3⟩
  ·
    rename_i x i
    have h1:=hg x
    split at hk
    · rename_i l e
      rw [e] at h1
      obtain ⟨vs,hvs,ht⟩:=h1
      split at hk
      · rename_i a ls hi
        obtain ⟨v,h2,h3⟩:=tr_get ht hi
        exact ⟨_,_,hk,h3,fun w' t=>ex_extract hvs (by simpa using h2)⟩
      · cases hk
    · cases hk
  ·
    rename_i T x
    have h1:=hg x
    split at hk
    · rename_i a ls d e1 hT
      rw [e1] at h1
      cases hi:isIfc d with
      | true=>rw [hi] at hk; cases hk
      | false=>rw [hi,cond_false] at hk; exact ⟨_,_,hk,⟨_,rfl,h1⟩,fun w' t=>ex_makeInterface rfl hT (by cases d <;> first | rfl | cases hi)⟩
    · cases hk
  ·
    rename_i x xT T
    have h1:=hg x
    split at hk
    · rename_i T' a ls d e1 hT
      rw [e1] at h1
      cases hi:(!(Nat.beq T T') || isIfc d) with
      | true=>rw [hi] at hk; cases hk
      | false =>
        rw [hi,cond_false] at hk
        rw [Bool.or_eq_false_iff] at hi
        have hTT:=Nat.eq_of_beq_eq_true (by simpa using hi.1:Nat.beq T T'=true)
        subst hTT
        obtain ⟨u,hu,k⟩:=h1
        exact ⟨_,_,hk,⟨[u,.bool true],rfl,u,[.bool true],rfl,k,.bool true,[],rfl,VR.mk1 rfl,rfl⟩,fun w' t=>ex_typeAssertY hu hT (by have:=hi.2; cases d <;> first | rfl | cases this)⟩
    · cases hk
  ·
    rename_i f bs cs
    split at hk
    · rename_i h1 h2
      refine ⟨_,_,hk,VR.mk1 ⟨rfl,rfl⟩,fun w' t=>?_⟩
      have e1:bs = #[]:=by simpa using h1
      have e2:cs = #[]:=by simpa using h2
      subst e1 e2
      exact ex_makeFuncB [] [] rfl rfl
    · cases hk
  ·
    rename_i x
    replace hk:=get1_ok hk; obtain ⟨a,e,hk⟩:=hk
    have h1:=hg x
    rw [e] at h1
    replace h1:=h1.leaf
    split at hk
    · have h2:=h1
      obtain ⟨b,_,hb⟩:=h2
      have hb':=lr1 (s:=fun _=>True) hb
      exact ⟨_,_,hk,VR.mk1 (by rw [hb'] at h1; exact h1),fun w' t=>ex_nilCheck hb'⟩
    · have h2:=h1
      obtain ⟨ad,c,hb,_⟩:=h2
      have hb':=lr1 (s:=fun _=>True) hb
      exact ⟨_,_,hk,VR.mk1 (by rw [hb'] at h1; exact h1),fun w' t=>ex_nilCheck hb'⟩
    · have h2:=h1
      obtain ⟨ad,c,hb,_⟩:=h2
      have hb':=lr1 (s:=fun _=>True) hb
      exact ⟨_,_,hk,VR.mk1 (by rw [hb'] at h1; exact h1),fun w' t=>ex_nilCheck hb'⟩
    · cases hk
  ·
    rename_i T x j
    replace hk:=get1_ok hk; obtain ⟨a,e,hk⟩:=hk
    have h1:=hg x
    rw [e] at h1
    replace h1:=h1.leaf
    split at hk
    · rename_i fs hT
      split at hk
      · rename_i f hf
        cases hc:(Nat.beq (sizeT P f.type) 0 || !(isT P f.type)) with
        | true=>rw [hc] at hk; cases hk
        | false =>
          rw [hc,cond_false] at hk
          rw [Bool.or_eq_false_iff] at hc
          have ht:isT P f.type=true:=by simpa using hc.2
          have hs:(P.info? f.type).map (·.size)=some ((sizeT P f.type - 1)+1):=by
            rw [isT_info ht]
            have:sizeT P f.type≠0:=fun h0=>by rw [h0] at hc; simp at hc
            congr 1; omega
          split at hk
          · obtain ⟨b,h2,hb⟩:=h1
            have hb':=lr1 (s:=fun _=>True) hb
            exact ⟨_,_,hk,VR.mk1 ⟨b,h2,by rw [add_plain']⟩,fun w' t=>ex_fieldAddr hb' hT hf hs⟩
          · obtain ⟨ad,c,hb,h2⟩:=h1
            have hb':=lr1 (s:=fun _=>True) hb
            exact ⟨_,_,hk,VR.mk1 ⟨ad,c,by rw [add_add],h2⟩,fun w' t=>ex_fieldAddr hb' hT hf hs⟩
          · obtain ⟨ad,c,hb,h2⟩:=h1
            have hb':=lr1 (s:=fun _=>True) hb
            exact ⟨_,_,hk,VR.mk1 ⟨ad,c,by rw [add_add],h2⟩,fun w' t=>ex_fieldAddr hb' hT hf hs⟩
          · cases hk
      · cases hk
    · cases hk
  ·
    rename_i T x j
    have h1:=hg x
    split at hk
    · rename_i ls e
      rw [e] at h1
      obtain ⟨cs,hl,hv1⟩:=h1.agg
      split at hk
      · rename_i fs hT
        split at hk
        · rename_i f hf
          replace hk:=cond_no hk; obtain ⟨ht,hk⟩:=hk
          replace hk:=bindE hk; obtain ⟨r1,hr1,hk⟩:=hk
          replace hk:=bindE hk; obtain ⟨r2,hr2,hk⟩:=hk
          replace hk:=cond_yes hk; obtain ⟨h3,hk⟩:=hk
          obtain ⟨i1,_⟩:=dropC_ok hr1 hl
          obtain ⟨i2,i3⟩:=takeC_ok hr2 i1
          obtain ⟨v,j1,j2⟩:=run_part ht i3 h3
          exact ⟨_,_,hk,⟨_,i2,j2⟩,fun w' t=>ex_fieldP hv1 hT hf (j1 w')⟩
        · cases hk
      · cases hk
    · cases hk
  ·
    rename_i T x y
    replace hk:=get1_ok hk; obtain ⟨a,e1,hk⟩:=hk
    replace hk:=get1_ok hk; obtain ⟨nl,e2,hk⟩:=hk
    replace hk:=bindE hk; obtain ⟨i,hi,hk⟩:=hk
    have h1:=hg x
    have h2:=hg y
    rw [e1] at h1
    rw [e2] at h2
    obtain ⟨ik,hy⟩:=num_ok hi h2.leaf
    replace h1:=h1.leaf
    split at hk
    · rename_i E' hT
      split at hk
      · rename_i E xs
        replace hk:=cond_yes hk; obtain ⟨hc,hk⟩:=hk
        simp only [Bool.and_eq_true] at hc
        obtain ⟨ht,hE,hs⟩:=hc
        obtain rfl:=Nat.eq_of_beq_eq_true hE
        replace hk:=bindE hk; obtain ⟨z,hz,hk⟩:=hk
        obtain ⟨A,c,hA,hlc,hrow⟩:=h1
        have hA':=lr1 (s:=fun _=>True) hA
        obtain ⟨ad,cc,he,g0,g1,_,hR,hcell⟩:=Row.ix hrow hz
        have hat:=Row.at hrow he hz (i.toNat * (G.rep E).sz)
        have hsz:=Nat.eq_of_beq_eq_true hs
        refine ⟨_,_,hk,VR.mk1 ⟨ad.add (i.toNat * (G.rep E).sz),cc,by rw [add0],hat.1,hat.2,hR,hcell,fun h=>absurd rfl h⟩,fun w' t=>?_⟩
        have:=ex_indexAddr (P:=P) (ρ:=ρ) (w:=w') (t:=t) hA' he hy hT (isT_info ht) g0 g1
        rw [hsz] at this
        exact this
      · rename_i q
        split at hk
        · rename_i E xs hh
          replace hk:=cond_yes hk; obtain ⟨hc,hk⟩:=hk
          simp only [Bool.and_eq_true] at hc
          obtain ⟨ht,hE,hs,hi0⟩:=hc
          obtain rfl:=Nat.eq_of_beq_eq_true hE
          replace hk:=bindE hk; obtain ⟨z,hz,hk⟩:=hk
          have hO:=ho q
          rw [hh] at hO
          obtain ⟨A,c,hA,hlc,hrow⟩:=Own.row hO
          have hA':ev ρ x = .slice A xs.length c:=(lr1 (s:=fun _=>True) h1.1).trans hA
          obtain ⟨ad,cc,he,g0,g1,_,hR,hcell⟩:=Row.ix hrow hz
          have hat:=Row.at hrow he hz (i.toNat * (G.rep E).sz)
          have hsz:=Nat.eq_of_beq_eq_true hs
          refine ⟨_,_,hk,VR.mk1 ⟨ad.add (i.toNat * (G.rep E).sz),cc,by rw [add0],hat.1,hat.2,hR,hcell,fun h=>⟨ad,c,by rw [hA,he],rfl,g0,g1⟩⟩,fun w' t=>?_⟩
          have:=ex_indexAddr (P:=P) (ρ:=ρ) (w:=w') (t:=t) hA' he hy hT (isT_info ht) g0 g1
          rw [hsz] at this
          exact this
        · cases hk
      · rename_i q E xs
        replace hk:=cond_yes hk; obtain ⟨hc,hk⟩:=hk
        simp only [Bool.and_eq_true] at hc
        obtain ⟨ht,hE,hs⟩:=hc
        obtain rfl:=Nat.eq_of_beq_eq_true hE
        replace hk:=bindE hk; obtain ⟨z,hz,hk⟩:=hk
        obtain ⟨A,c,hA,hlc,hrow⟩:=h1
        have hA':=lr1 (s:=fun _=>True) hA
        obtain ⟨ad,cc,he,g0,g1,_,hR,hcell⟩:=Row.ix hrow hz
        have hat:=Row.at hrow he hz (i.toNat * (G.rep E).sz)
        have hsz:=Nat.eq_of_beq_eq_true hs
        refine ⟨_,_,hk,VR.mk1 ⟨ad.add (i.toNat * (G.rep E).sz),cc,by rw [add0],hat.1,hat.2,hR,hcell⟩,fun w' t=>?_⟩
        have:=ex_indexAddr (P:=P) (ρ:=ρ) (w:=w') (t:=t) hA' he hy hT (isT_info ht) g0 g1
        rw [hsz] at this
        exact this
      · cases hk
    · cases hk
  ·
    rename_i T x y
    have h1:=hg x
    split at hk
    · rename_i s e1
      rw [e1] at h1
      split at hk
      · rename_i hT
        replace hk:=get1_ok hk; obtain ⟨nl,e2,hk⟩:=hk
        replace hk:=bindE hk; obtain ⟨i,hi,hk⟩:=hk
        replace hk:=bindE hk; obtain ⟨z,hz,hk⟩:=hk
        have h2:=hg y
        rw [e2] at h2
        obtain ⟨ik,hy⟩:=num_ok hi h2.leaf
        exact ⟨_,_,hk,VR.mk1 rfl,fun w' t=>ex_index_str (lr1 (s:=fun _=>True) h1.leaf) hy hT (ix_some hz).1 (ix_some hz).2.2⟩
      · cases hk
    · rename_i E m xs e1
      rw [e1] at h1
      split at hk
      · rename_i m' E' hT
        replace hk:=cond_yes hk; obtain ⟨hc,hk⟩:=hk
        simp only [Bool.and_eq_true] at hc
        obtain ⟨ht,hE,hm,hs,h3⟩:=hc
        obtain rfl:=Nat.eq_of_beq_eq_true hE
        obtain rfl:=Nat.eq_of_beq_eq_true hm
        replace hk:=get1_ok hk; obtain ⟨nl,e2,hk⟩:=hk
        replace hk:=bindE hk; obtain ⟨i,hi,hk⟩:=hk
        replace hk:=bindE hk; obtain ⟨z,hz,hk⟩:=hk
        rw [force_ok] at hk
        have h2:=hg y
        rw [e2] at h2
        obtain ⟨ik,hy⟩:=num_ok hi h2.leaf
        obtain ⟨cs,hl,hv1⟩:=h1.agg
        obtain ⟨hlen,hM⟩:=hl.of1
        obtain ⟨g0,g1,g2⟩:=ix_some hz
        have hsz:=Nat.eq_of_beq_eq_true hs
        obtain ⟨cc,hR,hj⟩:=hM.get g2
        have hcl:=(G.rep E).len hR
        have hpart:(cs.drop (i.toNat * (G.rep E).sz)).take (G.rep E).sz=cc:=by
          apply List.ext_getElem?
          intro q
          rw [List.getElem?_take]
          split
          · rename_i hq
            rw [List.getElem?_drop]
            obtain ⟨u,hu⟩ : ∃ u,cc[q]?=some u:=⟨_,List.getElem?_eq_getElem (by omega)⟩
            rw [hu]; exact hj q u hu
          · rename_i hq
            rw [List.getElem?_eq_none (by omega)]
        obtain ⟨v,j1,j2⟩:=run_part (cs:=cs) (off:=i.toNat * sizeT P E) ht (by rw [hsz,hpart,hcl]) h3
        rw [hsz,hpart] at j2
        refine ⟨_,_,hk,⟨cc,(opT_iff hG).2 hR,j2⟩,fun w' t=>ex_indexP hv1 hy hT (isT_info ht) g0 (by rw [← hlen]; exact g1) (j1 w')⟩
      · cases hk
    · cases hk
  ·
    rename_i T x lo hi
    replace hk:=get1_ok hk; obtain ⟨a,e1,hk⟩:=hk
    replace hk:=bindE hk; obtain ⟨l,hl,hk⟩:=hk
    have h1:=hg x
    rw [e1] at h1
    replace h1:=h1.leaf
    have hlo:=low_ok (g:=g) hg (lo:=lo) (l:=l) hl
    split at hk
    · rename_i hT
      split at hk
      · replace hk:=bindE hk; obtain ⟨u,hu,hk⟩:=hk
        replace hk:=bindE hk; obtain ⟨z,hz,hk⟩:=hk
        have hhi:=high_ok (g:=g) hg (hi:=hi) hu
        exact ⟨_,_,hk,VR.mk1 rfl,fun w' t=>ex_slice_str (lr1 (s:=fun _=>True) h1) hT hlo hhi hz⟩
      · cases hk
    · rename_i E' hT
      split at hk
      · rename_i E xs
        replace hk:=cond_yes hk; obtain ⟨hc,hk⟩:=hk
        simp only [Bool.and_eq_true] at hc
        obtain ⟨ht,hE,hs⟩:=hc
        obtain rfl:=Nat.eq_of_beq_eq_true hE
        have hsz:=Nat.eq_of_beq_eq_true hs
        replace hk:=bindE hk; obtain ⟨u,hu,hk⟩:=hk
        replace hk:=bindE hk; obtain ⟨z,hz,hk⟩:=hk
        have hhi:=high_ok (g:=g) hg (hi:=hi) hu
        obtain ⟨A,c,hA,hlc,hrow⟩:=h1
        have hA':=lr1 (s:=fun _=>True) hA
        refine ⟨_,_,hk,VR.mk1 ⟨subA A c l.toNat (G.rep E).sz,c - l.toNat,rfl,cut_le hlc hz,Row.cut hrow hlc hz⟩,fun w' t=>?_⟩
        exact ex_slice' hA' hT (by rw [isT_info ht,hsz]) hlo hhi (cut_low hz) (cut_mid hz) (cut_cap hlc hz) rfl (cut_len hz)
      · rename_i q E xs
        replace hk:=cond_yes hk; obtain ⟨hc,hk⟩:=hk
        simp only [Bool.and_eq_true] at hc
        obtain ⟨ht,hE,hs⟩:=hc
        obtain rfl:=Nat.eq_of_beq_eq_true hE
        have hsz:=Nat.eq_of_beq_eq_true hs
        replace hk:=bindE hk; obtain ⟨u,hu,hk⟩:=hk
        replace hk:=bindE hk; obtain ⟨z,hz,hk⟩:=hk
        have hhi:=high_ok (g:=g) hg (hi:=hi) hu
        obtain ⟨A,c,hA,hlc,hrow⟩:=h1
        have hA':=lr1 (s:=fun _=>True) hA
        refine ⟨_,_,hk,VR.mk1 ⟨subA A c l.toNat (G.rep E).sz,c - l.toNat,rfl,cut_le hlc hz,Row.cut hrow hlc hz⟩,fun w' t=>?_⟩
        exact ex_slice' hA' hT (by rw [isT_info ht,hsz]) hlo hhi (cut_low hz) (cut_mid hz) (cut_cap hlc hz) rfl (cut_len hz)
      · rename_i q
        split at hk
        · rename_i E xs hh
          replace hk:=cond_yes hk; obtain ⟨hc,hk⟩:=hk
          simp only [Bool.and_eq_true] at hc
          obtain ⟨⟨ht,hE,hs⟩,_⟩:=hc
          obtain rfl:=Nat.eq_of_beq_eq_true hE
          have hsz:=Nat.eq_of_beq_eq_true hs
          replace hk:=bindE hk; obtain ⟨u,hu,hk⟩:=hk
          replace hk:=bindE hk; obtain ⟨z,hz,hk⟩:=hk
          have hhi:=high_ok (g:=g) hg (hi:=hi) hu
          have hO:=ho q
          rw [hh] at hO
          obtain ⟨A,c,hA,hlc,hrow⟩:=Own.row hO
          have hA':ev ρ x = .slice A xs.length c:=(lr1 (s:=fun _=>True) h1.1).trans hA
          refine ⟨_,_,hk,VR.mk1 ⟨subA A c l.toNat (G.rep E).sz,c - l.toNat,rfl,cut_le hlc hz,Row.cut hrow hlc hz⟩,fun w' t=>?_⟩
          exact ex_slice' hA' hT (by rw [isT_info ht,hsz]) hlo hhi (cut_low hz) (cut_mid hz) (cut_cap hlc hz) rfl (cut_len hz)
        · cases hk
      · cases hk
    · cases hk
  ·
    rename_i T ps
    split at hk
    · rename_i fs hT
      replace hk:=cond_no hk; obtain ⟨hall,hk⟩:=hk
      replace hk:=bindE hk; obtain ⟨z,hz,hk⟩:=hk
      replace hk:=bindE hk; obtain ⟨ls,hls,hk⟩:=hk
      rw [force_ok] at hk
      obtain ⟨zv,hzi,hzl⟩:=zeroT_ok hG hz
      obtain ⟨cs',h1,h2⟩:=fillA_ok (ρ:=ρ) hg ps.toList z ls _ hls (hzl hv o w)
      refine ⟨_,_,hk,VR.mkA h2,fun w' t=>?_⟩
      refine ex_build (fs.toList.map fun f=>(f.offset,sizeT P f.type)) (ps.toList.map fun q=>(q.1,ev ρ q.2)) zv.cells.toList hT hzi rfl ?_ rfl ?_
      · rw [List.map_map]
        apply List.map_congr_left
        intro f hf
        rw [isT_info (List.all_eq_true.1 hall f hf)]; rfl
      · rw [List.map_map]; exact h1
    · rename_i m E hT
      split at hk
      · rename_i hps
        replace hk:=bindE hk; obtain ⟨z,hz,hk⟩:=hk
        rw [force_ok] at hk
        obtain ⟨zv,hzi,hzl⟩:=zeroT_ok hG hz
        replace hk:=cond_yes hk; obtain ⟨hE,hk⟩:=hk
        refine ⟨_,_,hk,VR.mkA (hzl hv o w),fun w' t=>ex_buildArr [] _ hT hzi rfl (isT_info hE) (by rw [hps]; rfl) rfl⟩
      · rename_i q0 ps0 hps
        replace hk:=bindE hk; obtain ⟨z,hz,hk⟩:=hk
        replace hk:=cond_yes hk; obtain ⟨hc,hk⟩:=hk
        simp only [Bool.and_eq_true] at hc
        obtain ⟨⟨hE,hsz⟩,hzs,hix⟩:=hc
        have hix:=of_decide_eq_true hix
        replace hk:=bindE hk; obtain ⟨xs,hxs,hk⟩:=hk
        obtain ⟨zv,hzi,hzl⟩:=zeroT_ok hG hz
        obtain ⟨i1,i2⟩:=manyOps hG hg hxs
        have hl:(q0 :: ps0).length=m:=by have:=congrArg List.length hix; simpa using this
        have hzn:zv.cells.toList.length=m * (G.rep E).sz:=(hzl hv o w).len.trans (Nat.eq_of_beq_eq_true hzs)
        have hall:=manyC_all i1
        have hrow:=fillL_row (G.rep E).sz (((q0 :: ps0).map fun q=>(q.1,ev ρ q.2)).map fun q=>(q.1,q.2.cells.toList)) [] zv.cells.toList 0
          (by rw [List.map_map,List.map_map]; simp only [List.length_map]; rw [hl,← List.range_eq_range',← hix]; rfl)
          (by intro p hp; obtain ⟨q,hq,rfl⟩:=List.mem_map.1 hp; exact hall _ (List.mem_map_of_mem hq)) (by simp) (by simp only [List.length_map]; rw [hl]; exact hzn)
        have hlx:xs.length=m:=i2.trans hl
        refine ⟨_,_,hk,VR.mkA (LRs.single (l:=.d (.arr E m) xs) (cs:=(((q0 :: ps0).map fun q=>(q.1,ev ρ q.2)).map fun q=>q.2.cells.toList).flatten) ⟨hlx,i1.many⟩),fun w' t=>ex_buildArr ((q0 :: ps0).map fun q=>(q.1,ev ρ q.2)) _ hT hzi rfl (isT_info hE) (by rw [hps]) ?_⟩
        rw [Nat.eq_of_beq_eq_true hsz]
        rw [List.nil_append,List.nil_append] at hrow
        refine hrow.trans ?_
        rw [List.map_map (f:=fun q:Nat×Value=>(q.1,q.2.cells.toList)) (g:=fun q:Nat×List Value=>q.2)]
        rfl
    · cases hk
  ·
    rename_i c
    obtain ⟨cal,args,tys⟩:=c
    simp only at hk
    split at hk
    · split at hk
      · rename_i x T ha ht
        obtain rfl:=toList_two ha
        obtain rfl:=toList_two ht
        replace hk:=get1_ok hk; obtain ⟨a,e1,hk⟩:=hk
        have h1:=hg x
        rw [e1] at h1
        replace h1:=h1.leaf
        split at hk
        · rename_i hT
          split at hk
          · exact ⟨_,_,hk,VR.mk1 rfl,fun w' t=>ex_len_str (lr1 (s:=fun _=>True) h1) hT⟩
          · cases hk
        · rename_i E' hT
          split at hk
          · obtain ⟨A,c,hA,hlc,hrow⟩:=h1
            exact ⟨_,_,hk,VR.mk1 rfl,fun w' t=>ex_len_slice (lr1 (s:=fun _=>True) hA) hT⟩
          · obtain ⟨A,c,hA,hlc,hrow⟩:=h1
            exact ⟨_,_,hk,VR.mk1 rfl,fun w' t=>ex_len_slice (lr1 (s:=fun _=>True) hA) hT⟩
          · exact ⟨_,_,hk,VR.mk1 rfl,fun w' t=>ex_len_slice (lr1 (s:=fun _=>True) h1) hT⟩
          · rename_i q
            split at hk
            · rename_i E xs hh
              have hO:=ho q
              rw [hh] at hO
              obtain ⟨A,c,hA⟩:=Own.slice hO
              exact ⟨_,_,hk,VR.mk1 rfl,fun w' t=>ex_len_slice ((lr1 (s:=fun _=>True) h1.1).trans hA) hT⟩
            · cases hk
          · cases hk
        · cases hk
      · cases hk
    · split at hk
      · rename_i x y T U ha ht
        obtain rfl:=toList_two ha
        obtain rfl:=toList_two ht
        have h1:=hg x
        have h2:=hg y
        split at hk
        · rename_i k a k' b e1 e2
          rw [e1] at h1
          rw [e2] at h2
          replace hk:=cond_yes hk; obtain ⟨hc,hk⟩:=hk
          obtain rfl:=of_decide_eq_true hc
          exact ⟨_,_,hk,VR.mk1 rfl,fun w' t=>ex_max (lr1 (s:=fun _=>True) h1.leaf) (lr1 (s:=fun _=>True) h2.leaf)⟩
        · cases hk
      · cases hk
    · split at hk
      · rename_i x y T U ha ht
        obtain rfl:=toList_two ha
        obtain rfl:=toList_two ht
        have h1:=hg x
        have h2:=hg y
        split at hk
        · rename_i k a k' b e1 e2
          rw [e1] at h1
          rw [e2] at h2
          replace hk:=cond_yes hk; obtain ⟨hc,hk⟩:=hk
          obtain rfl:=of_decide_eq_true hc
          exact ⟨_,_,hk,VR.mk1 rfl,fun w' t=>ex_min (lr1 (s:=fun _=>True) h1.leaf) (lr1 (s:=fun _=>True) h2.leaf)⟩
        · cases hk
      · cases hk
    · cases hk
  · cases hk
theorem nop_ok (hG:GOK P G) {h:Nat→Obj G.α} {g0:Operand→AT G.α} {op:Op} {K:AT G.α→Option R} (hk:nop P h g0 op K=some r) (hg0:∀ x,VR hv o w (g0 x) (ev ρ x)) (ho:∀ i,OR hv o w i (h i)) : OpR P hv o w ρ op K r:=
  nopG_ok hG hk hg0 (fun x=>nrm_ok (hg0 x)) ho
end n
end Go.Proofs.YtpmkkhkphddfeaaGreatDoor.SX
set_option linter.unusedVariables false
set_option linter.unusedSimpArgs false
set_option maxHeartbeats 1000000
namespace Go.Proofs.YtpmkkhkphddfeaaGreatDoor.SX
open Go Go.RowKit
section n
variable {P:Program} {G:Gm} {R:Type} {hv:Nat→Value} {o:Tags} {w:World} {ρ:Env} {r:R} {M:List Nat}
theorem loadR {T:Nat} {x:Operand} {a:Addr} {cs:List Value} (hT:isT P T=true) (hx:ev ρ x = .pointer (some a)) (hl:cs.length=sizeT P T) (h1:(aggT P T || Nat.beq (sizeT P T) 1)=true) {ls:List (Lf G)} (hls:LRs hv o w ls cs) :
    ∃ v,VR hv o w (.v (aggT P T) ls) v∧∀ w',(∀ j u,cs[j]?=some u→w'.cell? (a.add j)=some u)→∀ t,Ex P ρ (.load T x) t w' v w':=by
  obtain ⟨d,hd⟩:=isT_some hT
  have hp:=agg_plain hd
  cases ha:aggT P T with
  | true =>
    rw [ha] at hp
    exact ⟨_,VR.mkA hls,fun w' hc t=>ex_loadN hx hd hp (by rw [isT_info hT,hl]) hc⟩
  | false =>
    rw [ha] at hp h1
    have h1':sizeT P T=1:=Nat.eq_of_beq_eq_true h1
    rw [h1'] at hl
    match cs,hl with
    | [v],_=>exact ⟨v,⟨[v],hls,.inr ⟨rfl,rfl⟩⟩,fun w' hc t=>ex_load1 hx hd hp (by have:=hc 0 v rfl; rwa [add0] at this)⟩
theorem ropG_ok (hG:GOK P G) {h:Nat→Obj G.α} {g:Operand→AT G.α} {op:Op} {K:AT G.α→Option R} (hk:ropG P h g op K=some r) (hg:∀ x,VR hv o w (g x) (ev ρ x)) (ho:∀ i,OR hv o w i (h i))
    (hs:∀ x,hitsA M M (g x)=false) (hh:∀ i,M.contains i=true→h i = .dd) (h0:M.contains 0=false) :
    ∃ a v,K a=some r∧VR hv o w a v∧∀ o' w',Step o w o' w' M→∀ t,Ex P ρ op t w' v w':=by
  have hM:∀ i,h i≠.dd→M.contains i=false:=fun i hi=>by
    cases hm:M.contains i with
    | false=>rfl
    | true=>exact absurd (hh i hm) hi
  unfold ropG at hk
  split at hk
  ·
    rename_i T x
    replace hk:=cond_no hk; obtain ⟨hT,hk⟩:=hk
    replace hk:=get1_ok hk; obtain ⟨a,e1,hk⟩:=hk
    have h1:=hg x
    have h2:=hs x
    rw [e1] at h1 h2
    replace h1:=h1.leaf
    split at hk
    · rename_i i off
      split at hk
      · rename_i T' ls hb
        replace hk:=bindE hk; obtain ⟨r1,hr1,hk⟩:=hk
        replace hk:=bindE hk; obtain ⟨r2,hr2,hk⟩:=hk
        replace hk:=cond_yes hk; obtain ⟨h3,hk⟩:=hk
        have hO:=ho i
        have hi:=hM i (by rw [hb]; simp)
        rw [hb] at hO
        obtain ⟨b,cs,hv1,hB,hl⟩:=hO
        obtain ⟨b',hv2,hx⟩:=h1
        rw [hv1] at hv2
        obtain rfl:b=b':=by simpa using hv2
        obtain ⟨i1,_⟩:=dropC_ok hr1 hl
        obtain ⟨i2,i3⟩:=takeC_ok hr2 i1
        obtain ⟨v,k1,k2⟩:=loadR (x:=x) hT (lr1 (s:=fun _=>True) hx) i3 h3 i2
        exact ⟨_,v,hk,k1,fun o' w' s t=>k2 w' ((hB.step s hi).cells (by rw [i3])) t⟩
      · cases hk
    · rename_i i E y off
      replace hk:=bindE hk; obtain ⟨r1,hr1,hk⟩:=hk
      replace hk:=bindE hk; obtain ⟨r2,hr2,hk⟩:=hk
      replace hk:=cond_yes hk; obtain ⟨h3,hk⟩:=hk
      rw [force_ok] at hk
      obtain ⟨ad,c,hx,ht,hb,hR,hc⟩:=h1
      have hi:M.contains i=false:=by simpa [hitsA,hits] using h2
      obtain ⟨i1,_⟩:=dropC_ok hr1 ((opT_iff hG (hv:=hv)).2 hR)
      obtain ⟨i2,i3⟩:=takeC_ok hr2 i1
      obtain ⟨v,k1,k2⟩:=loadR (x:=x) hT (lr1 (s:=fun _=>True) hx) i3 h3 i2
      refine ⟨_,v,hk,k1,fun o' w' s t=>k2 w' (part_cells (c0:=c) (off:=off) (n:=sizeT P T) (fun m u hu=>?_) rfl) t⟩
      rw [cell_move (w:=w) (by rw [add_block]; exact s.keep _ hb (by rw [ht]; exact contains_false hi))]
      exact hc m u hu
    · rename_i i E xs n y off
      replace hk:=bindE hk; obtain ⟨r1,hr1,hk⟩:=hk
      replace hk:=bindE hk; obtain ⟨r2,hr2,hk⟩:=hk
      replace hk:=cond_yes hk; obtain ⟨h3,hk⟩:=hk
      rw [force_ok] at hk
      obtain ⟨ad,c,hx,ht,hb,hR,hc,_⟩:=h1
      have hi:M.contains i=false:=by simpa [hitsA,hits] using h2
      obtain ⟨i1,_⟩:=dropC_ok hr1 ((opT_iff hG (hv:=hv)).2 hR)
      obtain ⟨i2,i3⟩:=takeC_ok hr2 i1
      obtain ⟨v,k1,k2⟩:=loadR (x:=x) hT (lr1 (s:=fun _=>True) hx) i3 h3 i2
      refine ⟨_,v,hk,k1,fun o' w' s t=>k2 w' (part_cells (c0:=c) (off:=off) (n:=sizeT P T) (fun m u hu=>?_) rfl) t⟩
      rw [cell_move (w:=w) (by rw [add_block]; exact s.keep _ hb (by rw [ht]; exact contains_false hi))]
      exact hc m u hu
    · cases hk
  ·
    rename_i T x y two
    replace hk:=get1_ok hk; obtain ⟨a,e1,hk⟩:=hk
    have h1:=hg x
    rw [e1] at h1
    replace h1:=h1.leaf
    split at hk
    · rename_i i ag ks K' V e2 hT
      have h2:=hg y
      rw [e2] at h2
      split at hk
      · rename_i K'' V' kvs hb
        replace hk:=cond_yes hk; obtain ⟨hc,hk⟩:=hk
        simp only [Bool.and_eq_true] at hc
        obtain ⟨⟨hK,hV⟩,⟨hqk,hqv⟩,hag⟩:=hc
        have hK:=Nat.eq_of_beq_eq_true hK
        have hV:=Nat.eq_of_beq_eq_true hV
        subst hK hV
        replace hk:=bindE hk; obtain ⟨key,hkey,hk⟩:=hk
        rw [force_ok] at hk
        have hO:=ho i
        have hi:=hM i (by rw [hb]; simp)
        rw [hb] at hO
        obtain ⟨b,hv1,hMp⟩:=hO
        obtain ⟨b',hv2,hx⟩:=h1
        rw [hv1] at hv2
        obtain rfl:b=b':=by simpa using hv2
        obtain ⟨hkt,hke⟩:=hG.key _ hqk
        obtain ⟨hz,hva,hve⟩:=hG.val _ hqv
        have hey:ev ρ y=G.ek K' key:=by
          obtain ⟨cs,hl,hyv⟩:=h2
          rw [← hke _ _ _ _ (clT_ok hG hkey hl)]
          have hag':ag=aggT P K':=by simpa using hag
          rcases hyv with ⟨ha,hv_⟩|⟨ha,hv_⟩
          · rw [hv_,if_pos (by rw [← hag',ha])]
          · rw [if_neg (by rw [← hag',ha]; simp),hv_]; rfl
        have hval:∀ z,LRs hv o w (opT G V z) [G.ek V z]:=fun z=>(opT_iff hG).2 ((hve _ _ _ _).2 rfl)
        cases two with
        | true =>
          refine ⟨_,_,hk,⟨[_,.bool _],rfl,_,_,rfl,⟨_,hval _,.inr ⟨rfl,rfl⟩⟩,_,_,rfl,VR.mk1 rfl,rfl⟩,fun o' w' s t=>?_⟩
          exact ex_lookup2 (lr1 (s:=fun _=>True) hx) hey hT hkt (hMp.step s hi) hz
        | false =>
          refine ⟨_,_,hk,⟨[_],hval _,.inr ⟨rfl,rfl⟩⟩,fun o' w' s t=>?_⟩
          exact ex_lookup1 (lr1 (s:=fun _=>True) hx) hey hT hkt (hMp.step s hi) hz
      · cases hk
    · cases hk
  ·
    rename_i src dst x
    replace hk:=get1_ok hk; obtain ⟨a,e1,hk⟩:=hk
    have h1:=hg x
    have h2:=hs x
    rw [e1] at h1 h2
    replace h1:=h1.leaf
    split at hk
    · rename_i E' hd hsrc
      split at hk
      · rename_i E xs
        replace hk:=cond_yes hk; obtain ⟨hE,hk⟩:=hk
        have hE:=Nat.eq_of_beq_eq_true hE
        subst hE
        split at hk
        · rename_i f hf
          obtain ⟨b1,b2⟩:=hG.b8 _ f hf
          obtain ⟨A,c,hA,hlc,hrow⟩:=h1
          refine ⟨_,_,hk,VR.mk1 rfl,fun o' w' s t=>?_⟩
          have hr:=(b2 xs).2 _ _ _ _ (Row.step hrow s h0)
          refine ex_bytes_str (A:=A) (c:=c) ?_ hsrc b1 hd hr
          rw [(b2 xs).1]; exact lr1 (s:=fun _=>True) hA
        · cases hk
      · rename_i i
        split at hk
        · rename_i E xs hb
          replace hk:=cond_yes hk; obtain ⟨hE,hk⟩:=hk
          have hE:=Nat.eq_of_beq_eq_true hE
          subst hE
          have hO:=ho i
          have hi:=hM i (by rw [hb]; simp)
          rw [hb] at hO
          split at hk
          · rename_i f hf
            obtain ⟨b1,b2⟩:=hG.b8 _ f hf
            refine ⟨_,_,hk,VR.mk1 rfl,fun o' w' s t=>?_⟩
            obtain ⟨A,c,hA,hlc,hrow⟩:=Own.row (Own.step hO s hi h0)
            refine ex_bytes_str (A:=A) (c:=c) ?_ hsrc b1 hd ((b2 xs).2 _ _ _ _ hrow)
            rw [(b2 xs).1]; exact (lr1 (s:=fun _=>True) h1.1).trans hA
          · cases hk
        · cases hk
      · cases hk
    · cases hk
  · cases hk
theorem rop_ok (hG:GOK P G) {h:Nat→Obj G.α} {g0:Operand→AT G.α} {op:Op} {K:AT G.α→Option R} (hk:rop P h g0 op K=some r) (hg:∀ x,VR hv o w (g0 x) (ev ρ x)) (ho:∀ i,OR hv o w i (h i))
    (hs:∀ x,hitsA M M (g0 x)=false) (hh:∀ i,M.contains i=true→h i = .dd) (h0:M.contains 0=false) :
    ∃ a v,K a=some r∧VR hv o w a v∧∀ o' w',Step o w o' w' M→∀ t,Ex P ρ op t w' v w':=
  ropG_ok hG hk (fun x=>nrm_ok (hg x)) ho (fun x=>by have:=hs x; revert this; cases g0 x <;> simp [nrmA,hitsA,hits]) hh h0
theorem hits_nil:∀ (l:Lf G),hits [] [] l=false
  | .d _ _ | .ns | .np | .nm | .nf | .ni | .dd | .pt _ _ | .ow _ | .mp _ | .pe .. | .pa .. | .fn _ _ | .er _ | .bs .. | .pr .. => rfl
theorem hitsA_nil:∀ (a:AT G.α),hitsA [] [] a=false
  | .v _ ls=>by simp [hitsA,hits_nil]
  | .tp l=>by simp [hitsA,hits_nil]
  | .ifc _ _ ls=>by simp [hitsA,hits_nil]
  | .kn _ _ | .un | .dd=>rfl
theorem rop_now (hG:GOK P G) {h:Nat→Obj G.α} {g0:Operand→AT G.α} {op:Op} {K:AT G.α→Option R} (hk:rop P h g0 op K=some r) (hg:∀ x,VR hv o w (g0 x) (ev ρ x)) (ho:∀ i,OR hv o w i (h i)) :
    ∃ a v,K a=some r∧VR hv o w a v∧∀ t,Ex P ρ op t w v w:=by
  obtain ⟨a,v,k1,k2,k3⟩:=rop_ok (M:=[]) hG hk hg ho (fun x=>hitsA_nil _) (fun i hi=>by simp at hi) rfl
  exact ⟨a,v,k1,k2,k3 o w (Step.refl _ _ _)⟩
end n
end Go.Proofs.YtpmkkhkphddfeaaGreatDoor.SX
