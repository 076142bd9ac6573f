/- Maps. -/
import Derived.Test.YtpmkkhkphddfeaaDoorSxS
import Derived.MapKept
import Derived.Carry
import Derived.ChangeMaps4
import Derived.WalkSpells
set_option linter.unusedVariables false
set_option linter.unusedSimpArgs false
namespace Go.Proofs.YtpmkkhkphddfeaaDoor.SX
open Go Go.RowKit
/-! Keys of a type -/
structure KeyT (P : Program) (T : TypeId) {K : Type} (ek : K → Value) (eq : K → K → Bool) : Prop where
  chk : ∀ (e : Bool) (x : K) (w : World), (Instr.checkKey e 10000 T (ek x)).run P w = .ok () w
  find : ∀ (x : K) (l : List K) (es : List MapEntry), es.map (·.key) = l.map ek → ∀ w, (Instr.findKey T (ek x) es).run P w = .ok ((lfind eq x l 0).bind fun i => (es[i]?).map fun e => (i, e.val)) w
  stay : ∀ x y, eq x y = true → Instr.sameBits 10000 (ek y) (ek x) = true
section keys
variable {P : Program} {T : TypeId} {K : Type} {ek : K → Value} {eq : K → K → Bool}
theorem findNow_of {d : TypeDesc} (hs : ∀ x y, Instr.sameNow d (ek x) (ek y) = some (eq x y)) (x : K) : ∀ (l : List K) (es : List MapEntry) (i : Nat), es.map (·.key) = l.map ek →
    Instr.findNow d (ek x) es i = some ((lfind eq x l i).bind fun j => (es[j - i]?).map fun e => (j, e.val))
  | [], [], i, _ => rfl
  | [], e :: es, i, h => by cases h
  | a :: l, [], i, h => by cases h
  | a :: l, e :: es, i, h => by
    rw [List.map_cons, List.map_cons] at h
    obtain ⟨h1, h2⟩ := List.cons.inj h
    unfold Instr.findNow lfind
    rw [h1, hs]
    cases hc : eq x a with
    | true => simp
    | false =>
      simp only [cond_false]
      rw [findNow_of hs x l es (i + 1) h2]
      cases hf : lfind eq x l (i + 1) with
      | none => rfl
      | some j =>
        obtain ⟨h3, _⟩ := lfind_at hf
        simp only [Option.bind_some]
        rw [show j - i = (j - (i + 1)) + 1 from by omega, List.getElem?_cons_succ]
theorem keyT_now {d : TypeDesc} (hd : P.underlying T = some d) (hk : ∀ (e : Bool) (x : K) (w : World), (Instr.checkKey e 10000 T (ek x)).run P w = .ok () w) (hs : ∀ x y, Instr.sameNow d (ek x) (ek y) = some (eq x y)) (hb : ∀ x y, eq x y = true → Instr.sameBits 10000 (ek y) (ek x) = true) : KeyT P T ek eq :=
  ⟨hk, fun x l es h w => by rw [MapKept.run_findKey hd (findNow_of hs x l es 0 h)]; rfl, hb⟩
theorem keyT_int {k : IntKind} (hd : P.underlying T = some (.int k)) : KeyT P T (fun n : Int => .int k n) (fun a b => a == b) :=
  keyT_now hd (fun e x w => MapKept.run_checkKey hd (by simp [MapKept.IsKey]) e 9999) (fun x y => by simp [Instr.sameNow]) (fun x y h => by rw [beq_iff_eq] at h; subst h; simp [Instr.sameBits])
theorem enc_beq (x y : List UInt8) : ((⟨x.toArray⟩ : ByteArray) == ⟨y.toArray⟩) = (x == y) := by
  show (x.toArray == y.toArray) = (x == y)
  simp
theorem sameBits_str (x : List UInt8) : Instr.sameBits 10000 (encS x) (encS x) = true := by
  show ((⟨x.toArray⟩ : ByteArray) == ⟨x.toArray⟩) = true
  rw [enc_beq]
  simp
theorem sameBits_enc (n : Nat) (x : List UInt8) : Instr.sameBits n (encS x) (encS x) = true := by
  have h : ((⟨x.toArray⟩ : ByteArray) == ⟨x.toArray⟩) = true := by rw [enc_beq]; simp
  cases n <;> exact h
theorem keyT_str (hd : P.underlying T = some .string) : KeyT P T encS (fun a b => a == b) :=
  keyT_now hd (fun e x w => MapKept.run_checkKey hd (by simp [MapKept.IsKey, encS]) e 9999) (fun x y => congrArg some (enc_beq x y)) (fun x y h => by rw [beq_iff_eq] at h; subst h; exact sameBits_str x)
theorem findAsking_of (heq : ∀ x y, EqR P 10000 T (ek x) (ek y) (eq x y)) (x : K) : ∀ (l : List K) (es : List MapEntry) (i : Nat), es.map (·.key) = l.map ek → ∀ w,
    (Instr.findAsking T (ek x) es i).run P w = .ok ((lfind eq x l i).bind fun j => (es[j - i]?).map fun e => (j, e.val)) w
  | [], [], i, _, w => by simp [Instr.findAsking, lfind]
  | [], e :: es, i, h, _ => by cases h
  | a :: l, [], i, h, _ => by cases h
  | a :: l, e :: es, i, h, w => by
    rw [List.map_cons, List.map_cons] at h
    obtain ⟨h1, h2⟩ := List.cons.inj h
    unfold Instr.findAsking lfind
    have hq : (Op.equal T (ek x) e.key).run P w = .ok (eq x a) w := by rw [h1]; exact heq x a w
    simp only [Sem.run_bind, hq, Result.andThen_ok]
    cases hc : eq x a with
    | true => simp
    | false =>
      simp only [cond_false]
      rw [if_neg (by decide), findAsking_of heq x l es (i + 1) h2]
      cases hf : lfind eq x l (i + 1) with
      | none => rfl
      | some j =>
        obtain ⟨h3, _⟩ := lfind_at hf
        simp only [Option.bind_some]
        rw [show j - i = (j - (i + 1)) + 1 from by omega, List.getElem?_cons_succ]
theorem keyT_asking {d : TypeDesc} (hd : P.underlying T = some d) (hn : ∀ a b, Instr.sameNow d a b = none) (hk : ∀ (e : Bool) (x : K) (w : World), (Instr.checkKey e 10000 T (ek x)).run P w = .ok () w)
    (heq : ∀ x y, EqR P 10000 T (ek x) (ek y) (eq x y)) (hb : ∀ x y, eq x y = true → Instr.sameBits 10000 (ek y) (ek x) = true) : KeyT P T ek eq :=
  ⟨hk, fun x l es h w => by
    have h1 := findAsking_of heq x l es 0 h w
    unfold Instr.findKey
    simp only [Sem.run_bind, run_underlying hd, Result.andThen_ok]
    cases es with
    | nil =>
      simp only [Instr.findNow]
      rw [show (Instr.findAsking T (ek x) [] 0).run P w = .ok none w from by simp [Instr.findAsking]] at h1
      cases l with
      | nil => rfl
      | cons a l => cases h
    | cons e es =>
      simp only [Instr.findNow, hn]
      rw [h1]
      rfl, hb⟩
end keys
/-! The block of a map -/
structure Mp {K V : Type} (ek : K → Value) (ev : V → Value) (i : Nat) (o : Tags) (w : World) (b : Nat) (kvs : List (K × V)) : Prop where
  tag : o b = i
  heap : ∃ es clock, w.heap[b]? = some (.map es clock) ∧ es.toList.map (fun e => (e.key, e.val)) = kvs.map (fun p => (ek p.1, ev p.2))
section mp
variable {K V : Type} {ek : K → Value} {ev : V → Value} {i b : Nat} {o o' : Tags} {w w' : World} {kvs : List (K × V)} {M : List Nat}
theorem Mp.lt (h : Mp ek ev i o w b kvs) : b < w.heap.size := by
  obtain ⟨es, c, h1, _⟩ := h.heap
  exact (Array.getElem?_eq_some_iff.1 h1).1
theorem Mp.step (h : Mp ek ev i o w b kvs) (s : Step o w o' w' M) (hM : M.contains i = false) : Mp ek ev i o' w' b kvs := by
  have hb := h.lt
  obtain ⟨es, c, h1, h2⟩ := h.heap
  refine ⟨(s.own b hb).trans h.tag, es, c, (s.keep b hb (fun hm => ?_)).trans h1, h2⟩
  rw [h.tag, ← List.contains_iff_mem, hM] at hm
  cases hm
theorem Mp.pub (h : Mp ek ev i o w b kvs) (j : Nat) (hj : Nat.beq i j = false) : Mp ek ev i (SX.pub o j) w b kvs := ⟨pub_other h.tag hj, h.heap⟩
theorem Mp.ren {k l : Nat} (h : Mp ek ev i o w b kvs) (hi : Nat.beq i k = false) (h0 : Nat.beq 0 k = false) : Mp ek ev i (SX.ren o k l) w b kvs := ⟨ren_other h.tag hi, h.heap⟩
theorem Mp.renTo {j : Nat} (h : Mp ek ev i o w b kvs) : Mp ek ev j (SX.ren o i j) w b kvs := ⟨ren_same h.tag, h.heap⟩
theorem Mp.vw {V0 L : List Nat} {i' : Nat} (h : Mp ek ev i o w b kvs) (hi : vwt V0 L i = i') : Mp ek ev i' (SX.vw V0 L o) w b kvs := ⟨by simp only [SX.vw, h.tag, hi], h.heap⟩
theorem Mp.un9 {V0 L J : List Nat} {j : Nat} (q : Nat) (h : Mp ek ev (39 - q) o' w' b kvs) (hq : Nat.ble q 19 = true) (s : Step (SX.vw V0 L o) w o' w' M) (hL : Nat.ble L.length 17 = true) (hj : J.getD q 0 = j) : Mp ek ev j (SX.un o w o' L J) w' b kvs := ⟨un_nine q hq hL s hj h.tag, h.heap⟩
theorem Mp.unO {V0 L J : List Nat} (k : Nat) (h : Mp ek ev (2 + k) o' w' b kvs) (s : Step (SX.vw V0 L o) w o' w' M) (hk : Nat.blt k L.length = true) (hk6 : Nat.ble k 16 = true) (hi : L.getD k 0 = i) : Mp ek ev i (SX.un o w o' L J) w' b kvs := ⟨un_obj s hk hk6 hi h.tag, h.heap⟩
theorem mp_keys {es : List MapEntry} (h : es.map (fun e => (e.key, e.val)) = kvs.map (fun p => (ek p.1, ev p.2))) : es.map (·.key) = (kvs.map (·.1)).map ek := by
  have := congrArg (List.map Prod.fst) h
  simpa [List.map_map, Function.comp_def] using this
theorem mp_val {es : List MapEntry} (h : es.map (fun e => (e.key, e.val)) = kvs.map (fun p => (ek p.1, ev p.2))) (j : Nat) : (es[j]?).map (·.val) = (kvs[j]?).map (fun p => ev p.2) := by
  have := congrArg (fun l => (l[j]?).map Prod.snd) h
  simpa [List.getElem?_map, Function.comp_def] using this
end mp
section ops
variable {P : Program} {n : Nat} {md : Md} {Kx : Exit → Env → World → Prop} {Kn : Env → World → Prop} {ρ : Env} {w : World} {o : Tags} {d : Nat} {t : TypeId} {p : String} {e : Array Edge} {g : Option (Nat × Bool)}
variable {K V : Type} {ek : K → Value} {ev : V → Value} {eq : K → K → Bool} {i b : Nat} {kvs : List (K × V)}
theorem OW.val0 {op : Op} {v : Value} {w' : World}
    (hr : (execOp (SX.ev ρ) { dst := none, op := op, type := t, pos := p, after := e, guard := g }).run P w = .ok (.value v) w')
    (k : Kn ρ w') : OW P n md { dst := none, op := op, type := t, pos := p, after := e, guard := g } Kn Kx ρ w := by
  refine ⟨fun a ha X hX => ?_⟩
  unfold Oper.wp
  rw [ha.eval, hr]
  exact hX _ _ ⟨_, ha, k⟩
theorem OW.makeMap (ek : K → Value) (ev : V → Value) {T : TypeId} (i : Nat) {o0 : Tags} {w0 : World} {TT : List Nat} (HF : Fm o0 w0 o w TT) (hd : Nat.blt d n = true)
    (k : ∀ o' w' b, Step o w o' w' [] → Mp ek ev i o' w' b ([] : List (K × V)) → Kn (upd ρ d (.map (some b))) w') :
    OW P n md { dst := some d, op := .makeMap T none, type := t, pos := p, after := e, guard := g } Kn Kx ρ w := by
  refine OW.val (v := .map (some w.heap.size)) (w' := w.alloc (.map #[] 0)) hd ?_ (k (fun b => bif Nat.beq b w.heap.size then i else o b) _ _ (step_alloc o w i _ _) ⟨by simp, #[], 0, heap_alloc_new w _, rfl⟩)
  simp [execOp, run_makeMap]
theorem run_lookup_mp {T kT vT : TypeId} (hT : P.underlying T = some (.map kT vT)) (hk : KeyT P kT ek eq) (h : Mp ek ev i o w b kvs) (x : K) {z : V} (hz : (P.info? vT).map (·.zero) = some (some (ev z))) (c : Bool) :
    (Instr.lookup T (.map (some b)) (ek x) c).run P w = .ok (if c then .tuple #[ev ((mget eq kvs x).getD z), .bool (mget eq kvs x).isSome] else ev ((mget eq kvs x).getD z)) w := by
  obtain ⟨es, cl, h1, h2⟩ := h.heap
  have hf := hk.find x (kvs.map (·.1)) es.toList (mp_keys h2) w
  unfold Instr.lookup
  simp only [Sem.run_bind, run_underlying hT, Result.andThen_ok, MapKept.run_getObj_map h1, Sem.run_pure, hk.chk, hf]
  unfold mget
  cases hl : lfind eq x (kvs.map (·.1)) 0 with
  | none =>
    simp only [Option.bind_none, Sem.run_bind, run_zeroValue' hz, Result.andThen_ok, Sem.run_pure, Option.getD_none, Option.isSome_none]
  | some j =>
    obtain ⟨_, a, h3, _⟩ := lfind_at hl
    rw [Nat.sub_zero, List.getElem?_map] at h3
    obtain ⟨q, h4, rfl⟩ := Option.map_eq_some_iff.1 h3
    have h5 := mp_val h2 j
    rw [h4, Option.map_some] at h5
    obtain ⟨en, h6, h7⟩ := Option.map_eq_some_iff.1 h5
    simp only [Option.bind_some, h4, h6, Option.map_some, Sem.run_pure, Result.andThen_ok, Option.getD_some, Option.isSome_some, h7]
    rfl
theorem ex_lookup2 {T kT vT : TypeId} {m y : Operand} {x : K} {z : V} (hm : SX.ev ρ m = .map (some b)) (hy : SX.ev ρ y = ek x) (hT : P.underlying T = some (.map kT vT)) (hk : KeyT P kT ek eq) (h : Mp ek ev i o w b kvs) (hz : (P.info? vT).map (·.zero) = some (some (ev z))) :
    Ex P ρ (.lookup T m y true) t w (.tuple #[ev ((mget eq kvs x).getD z), .bool (mget eq kvs x).isSome]) w := fun _ _ _ _ => by
  have := run_lookup_mp hT hk h x hz true
  simp [execOp, hm, hy, this]
theorem ex_lookup1 {T kT vT : TypeId} {m y : Operand} {x : K} {z : V} (hm : SX.ev ρ m = .map (some b)) (hy : SX.ev ρ y = ek x) (hT : P.underlying T = some (.map kT vT)) (hk : KeyT P kT ek eq) (h : Mp ek ev i o w b kvs) (hz : (P.info? vT).map (·.zero) = some (some (ev z))) :
    Ex P ρ (.lookup T m y false) t w (ev ((mget eq kvs x).getD z)) w := fun _ _ _ _ => by
  have := run_lookup_mp hT hk h x hz false
  simp [execOp, hm, hy, this]
theorem mp_set (h : Mp ek ev i o w b kvs) {es2 : Array MapEntry} {c2 : Nat} {kvs2 : List (K × V)} (h2 : es2.toList.map (fun e => (e.key, e.val)) = kvs2.map (fun p => (ek p.1, ev p.2))) :
    Step o w o (w.putObj b (.map es2 c2)) [i] ∧ Mp ek ev i o (w.putObj b (.map es2 c2)) b kvs2 := by
  obtain ⟨es, c, h1, _⟩ := h.heap
  obtain ⟨s, hO⟩ := step_put (ob' := .map es2 c2) (⟨h.tag, h1⟩ : Ob o w i b (.map es c))
  exact ⟨s, hO.tag, es2, c2, hO.heap, h2⟩
theorem modify_list (es : Array MapEntry) (j : Nat) (f : MapEntry → MapEntry) : (es.modify j f).toList = es.toList.modify j f := by simp
theorem run_update_mp {T kT vT : TypeId} (hT : P.underlying T = some (.map kT vT)) (hk : KeyT P kT ek eq) (h : Mp ek ev i o w b kvs) (x : K) (v : V) :
    ∃ w', (Instr.mapUpdate T (.map (some b)) (ek x) (ev v)).run P w = .ok () w' ∧ Step o w o w' [i] ∧ Mp ek ev i o w' b (mput eq kvs x v) := by
  obtain ⟨es, cl, h1, h2⟩ := h.heap
  have hf := hk.find x (kvs.map (·.1)) es.toList (mp_keys h2) w
  unfold Instr.mapUpdate mput
  simp only [Sem.run_bind, run_underlying hT, Result.andThen_ok, MapKept.run_getObj_map h1, hk.chk, hf]
  cases hl : lfind eq x (kvs.map (·.1)) 0 with
  | none =>
    simp only [Option.bind_none, MapKept.run_setObj_map _ h1]
    refine ⟨_, rfl, mp_set h ?_⟩
    simp [h2]
  | some j =>
    obtain ⟨_, a, h3, h3'⟩ := lfind_at hl
    rw [Nat.sub_zero, List.getElem?_map] at h3
    obtain ⟨q, h4, rfl⟩ := Option.map_eq_some_iff.1 h3
    have h5 := mp_val h2 j
    rw [h4, Option.map_some] at h5
    obtain ⟨en, h6, h7⟩ := Option.map_eq_some_iff.1 h5
    have h8 : es[j]? = some en := by rw [← h6]; simp
    have hkey : en.key = ek q.1 := by
      have h9 := congrArg (fun l => (l[j]?).map Prod.fst) h2
      simp only [List.getElem?_map, h4, Option.map_some] at h9
      rw [h6] at h9
      exact Option.some.inj h9
    have hst : (Instr.keyThatStays en.key (ek x)).run P w = .ok (ek x) w := by
      unfold Instr.keyThatStays
      rw [hkey, hk.stay x q.1 h3', if_pos rfl]
      rfl
    simp only [Option.bind_some, h6, Option.map_some, h8, Option.getD_some, Sem.run_bind, hst, Result.andThen_ok, MapKept.run_setObj_map _ h1]
    refine ⟨_, rfl, mp_set h ?_⟩
    rw [modify_list]
    apply List.ext_getElem?
    intro m
    have h9 := congrArg (fun l => l[m]?) h2
    simp only [List.getElem?_map] at h9
    rw [List.getElem?_map, List.getElem?_modify, List.getElem?_map, List.getElem?_set]
    by_cases hm : j = m
    · subst hm
      have hlt : j < kvs.length := (List.getElem?_eq_some_iff.1 h4).1
      rw [if_pos rfl, if_pos hlt, h6]
      simp
    · rw [if_neg hm, ← h9]
      cases es.toList[m]? <;> simp [hm]
theorem OW.mapUpdate {T kT vT : TypeId} {m x y : Operand} {kx : K} {vx : V} (hm : SX.ev ρ m = .map (some b)) (hx : SX.ev ρ x = ek kx) (hy : SX.ev ρ y = ev vx) (hT : P.underlying T = some (.map kT vT)) (hk : KeyT P kT ek eq) (h : Mp ek ev i o w b kvs)
    (k : ∀ w', Step o w o w' [i] → Mp ek ev i o w' b (mput eq kvs kx vx) → Kn ρ w') :
    OW P n md { dst := none, op := .mapUpdate T m x y, type := t, pos := p, after := e, guard := g } Kn Kx ρ w := by
  obtain ⟨w', hr, s, h'⟩ := run_update_mp hT hk h kx vx
  refine OW.unit (w' := w') ?_ (k w' s h')
  simp [execOp, hm, hx, hy, hr]
theorem run_delete_mp {T kT vT ty : TypeId} (hT : P.underlying T = some (.map kT vT)) (hk : KeyT P kT ek eq) (h : Mp ek ev i o w b kvs) (x : K) :
    ∃ w', (Builtin.delete_ #[T, kT] ty #[.map (some b), ek x]).run P w = .ok (.tuple #[]) w' ∧ Step o w o w' [i] ∧ Mp ek ev i o w' b (mdel eq kvs x) := by
  obtain ⟨es, cl, h1, h2⟩ := h.heap
  have hf := hk.find x (kvs.map (·.1)) es.toList (mp_keys h2) w
  unfold Builtin.delete_ mdel
  simp only [List.getElem?_toArray, List.getElem?_cons_zero, List.getElem?_cons_succ, Sem.run_bind, run_underlying hT, Result.andThen_ok, MapKept.run_getObj_map h1, hk.chk, hf]
  cases hl : lfind eq x (kvs.map (·.1)) 0 with
  | none =>
    simp only [Option.bind_none, Sem.run_bind, MapKept.run_setObj_map _ h1, Result.andThen_ok, Sem.run_pure]
    exact ⟨_, rfl, mp_set h h2⟩
  | some j =>
    obtain ⟨_, a, h3, h3'⟩ := lfind_at hl
    rw [Nat.sub_zero, List.getElem?_map] at h3
    obtain ⟨q, h4, rfl⟩ := Option.map_eq_some_iff.1 h3
    have h5 := mp_val h2 j
    rw [h4, Option.map_some] at h5
    obtain ⟨en, h6, h7⟩ := Option.map_eq_some_iff.1 h5
    simp only [Option.bind_some, h6, Option.map_some, Sem.run_bind, MapKept.run_setObj_map _ h1, Result.andThen_ok, Sem.run_pure]
    refine ⟨_, rfl, mp_set h ?_⟩
    have he : (es.eraseIdxIfInBounds j).toList = es.toList.eraseIdx j := by
      unfold Array.eraseIdxIfInBounds
      split
      · simp
      · rename_i hj
        rw [List.eraseIdx_of_length_le (by simpa using hj)]
    rw [he, ChangeMaps.map_eraseIdx, ChangeMaps.map_eraseIdx, h2]
theorem OW.delete {T kT vT ty : TypeId} {m x : Operand} {kx : K} (hm : SX.ev ρ m = .map (some b)) (hx : SX.ev ρ x = ek kx) (hT : P.underlying T = some (.map kT vT)) (hk : KeyT P kT ek eq) (h : Mp ek ev i o w b kvs)
    (k : ∀ w', Step o w o w' [i] → Mp ek ev i o w' b (mdel eq kvs kx) → Kn ρ w') :
    OW P n md { dst := none, op := .call { callee := .builtin .delete, args := #[m, x], argTypes := #[T, kT] }, type := ty, pos := p, after := e, guard := g } Kn Kx ρ w := by
  obtain ⟨w', hr, s, h'⟩ := run_delete_mp (ty := ty) hT hk h kx
  refine OW.val0 (v := .tuple #[]) (w' := w') ?_ (k w' s h')
  simp [execOp, resolve, invoke, builtin, hm, hx, hr]
theorem bin_eql_mapS {T kT vT : TypeId} (hT : P.underlying T = some (.map kT vT)) {r : Nat} : Bin P .eql T (.map (some r)) (.map none) (.bool false) := fun x y w => by
  have := run_eql_map_nil w T kT vT (some r) hT
  simp only [binOp, eqGuard] at this ⊢
  simpa using this
theorem bin_neq_mapS {T kT vT : TypeId} (hT : P.underlying T = some (.map kT vT)) {r : Nat} : Bin P .neq T (.map (some r)) (.map none) (.bool true) := fun x y w => by
  have := run_neq_map_nil w T kT vT (some r) hT
  simp only [binOp, eqGuard] at this ⊢
  simpa using this
theorem bin_eql_mapN {T kT vT : TypeId} (hT : P.underlying T = some (.map kT vT)) : Bin P .eql T (.map none) (.map none) (.bool true) := fun x y w => by
  have := run_eql_map_nil w T kT vT none hT
  simp only [binOp, eqGuard] at this ⊢
  simpa using this
theorem bin_neq_mapN {T kT vT : TypeId} (hT : P.underlying T = some (.map kT vT)) : Bin P .neq T (.map none) (.map none) (.bool false) := fun x y w => by
  have := run_neq_map_nil w T kT vT none hT
  simp only [binOp, eqGuard] at this ⊢
  simpa using this
end ops
end Go.Proofs.YtpmkkhkphddfeaaDoor.SX
