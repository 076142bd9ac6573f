/- Arrays in memory: boxes that hold an array, its elements; arrays compared; a function value compared with nil. -/
import Derived.Test.YtpmkkhkphddfeaaDoorSxR
import Derived.ChangeKeysEq
import Derived.Lib.LaidTab
set_option linter.unusedVariables false
set_option linter.unusedSimpArgs false
namespace Go.Proofs.YtpmkkhkphddfeaaDoor.SX
open Go Go.RowKit
section arrays
variable {P : Program} {n : Nat} {md : Md} {K : Exit → Env → World → Prop} {Kn : Env → World → Prop} {ρ : Env} {w : World} {o : Tags} {d : Nat} {t : TypeId} {p : String} {e : Array Edge} {g : Option (Nat × Bool)}
theorem Bk.cells0 {i b : Nat} {cs : List Value} {T : TypeId} (h : Bk o w i b cs T) : ∀ j u, cs[j]? = some u → w.cell? ((⟨b, 0, none⟩ : Addr).add j) = some u := fun j u hu => by
  rw [add_plain', Nat.zero_add]
  exact h.cell hu
theorem ex_loadAV {α : Type} {enc : α → Value} {T E : TypeId} {x : Operand} {b i m : Nat} {T' : TypeId} {xs : List α} (hx : ev ρ x = .pointer (some ⟨b, 0, none⟩)) (hT : P.underlying T = some (.array m E)) (hs : (P.info? T).map (·.size) = some m) (hl : xs.length = m)
    (hB : Bk o w i b (xs.map enc) T') : Ex P ρ (.load T x) t w (.agg (xs.map enc).toArray) w :=
  ex_loadN (cs := xs.map enc) hx hT rfl (by rw [hs, List.length_map, hl]) hB.cells0
theorem run_loadAV {α : Type} {enc : α → Value} {T E : TypeId} {b i m : Nat} {T' : TypeId} {xs : List α} (hT : P.underlying T = some (.array m E)) (hs : (P.info? T).map (·.size) = some m) (hl : xs.length = m)
    (hB : Bk o w i b (xs.map enc) T') : (loadVar T ⟨b, 0, none⟩).run P w = .ok (.agg (xs.map enc).toArray) w :=
  run_loadN (cs := xs.map enc) hT rfl (by rw [hs, List.length_map, hl]) hB.cells0
theorem ex_indexArrB {α : Type} {T E : TypeId} {x y : Operand} {b m : Nat} {i : Int} {ik : IntKind} {xs : List α} {c : α} (hx : ev ρ x = .pointer (some ⟨b, 0, none⟩)) (hy : ev ρ y = .int ik i) (hT : P.underlying T = some (.array m E)) (hs : (P.info? E).map (·.size) = some 1)
    (hl : xs.length = m) (hc : ix xs i = some c) : Ex P ρ (.indexAddr T x y) t w (.pointer (some ⟨b, i.toNat, none⟩)) w := fun _ _ _ _ => by
  obtain ⟨h0, h1, h2⟩ := ix_some hc
  have h1' : i < (m : Int) := by rw [← hl]; exact h1
  simp [execOp, hx, hy, Instr.indexAt, Instr.sureAddr, asIntOf, run_underlying hT, h0, h1', run_sizeOf' hs, add_plain']
theorem ex_loadAE {α : Type} {enc : α → Value} {T : TypeId} {x : Operand} {b i : Nat} {q : Int} {T' : TypeId} {xs : List α} {c : α} {dd : TypeDesc} (hx : ev ρ x = .pointer (some ⟨b, q.toNat, none⟩)) (hT : P.underlying T = some dd) (hd : plainT dd = true)
    (hB : Bk o w i b (xs.map enc) T') (hc : ix xs q = some c) : Ex P ρ (.load T x) t w (enc c) w := by
  obtain ⟨h0, h1, h2⟩ := ix_some hc
  exact ex_load1 hx hT hd (hB.cell (by rw [List.getElem?_map, h2]; rfl))
theorem splice_at {α : Type} {enc : α → Value} {xs : List α} {q : Nat} {c : α} (h : q < xs.length) : splice (xs.map enc) q [enc c] = (xs.set q c).map enc := by
  rw [splice, List.map_set, List.set_eq_take_append_cons_drop, if_pos (by simpa using h)]
  simp
theorem OW.storeAE {α : Type} {enc : α → Value} {T T' : TypeId} {x y : Operand} {i b : Nat} {q : Int} {xs : List α} {c c0 : α} (hx : ev ρ x = .pointer (some ⟨b, q.toNat, none⟩)) (hy : ev ρ y = enc c) (hcell : ∀ c, (enc c).cells = #[enc c]) (h1 : ∀ c, (enc c).oneCell' = true)
    (hs : (P.info? T).map (·.size) = some 1) (hB : Bk o w i b (xs.map enc) T') (hc : ix xs q = some c0)
    (k : ∀ w', Step o w o w' [i] → Bk o w' i b ((xs.set q.toNat c).map enc) T' → Kn ρ w') : OW P n md { dst := none, op := .store T x y, type := t, pos := p, after := e, guard := g } Kn K ρ w := by
  obtain ⟨h0, h2, h3⟩ := ix_some hc
  have hq : q.toNat < xs.length := by omega
  refine OW.store ((xs.set q.toNat c).map enc) hx (vs := [enc c]) (by rw [hy]; exact hcell c) hs hB (by simp; omega) (fun u hu => by rw [List.mem_singleton.1 hu]; exact h1 c) (splice_at hq) k
theorem OW.storeAV {α : Type} {enc : α → Value} {T T' : TypeId} {x y : Operand} {i b m : Nat} {xs ys : List α} (hx : ev ρ x = .pointer (some ⟨b, 0, none⟩)) (hy : ev ρ y = .agg (ys.map enc).toArray) (h1 : ∀ c, (enc c).oneCell' = true)
    (hs : (P.info? T).map (·.size) = some m) (hl : xs.length = m) (hl' : ys.length = m) (hB : Bk o w i b (xs.map enc) T')
    (k : ∀ w', Step o w o w' [i] → Bk o w' i b (ys.map enc) T' → Kn ρ w') : OW P n md { dst := none, op := .store T x y, type := t, pos := p, after := e, guard := g } Kn K ρ w := by
  refine OW.store (ys.map enc) hx (vs := ys.map enc) (by rw [hy]; rfl) (by rw [hs, List.length_map, hl']) hB (by simp [hl, hl']) (fun u hu => ?_) ?_ k
  · obtain ⟨c, _, rfl⟩ := List.mem_map.1 hu
    exact h1 c
  · rw [splice, List.drop_eq_nil_of_le (by simp [hl, hl'])]
    simp
theorem cells8 (c : UInt8) : (enc8 c).cells = #[enc8 c] := rfl
theorem cells32 (c : UInt32) : (enc32 c).cells = #[enc32 c] := rfl
theorem cells64 (c : UInt64) : (enc64 c).cells = #[enc64 c] := rfl
theorem cellsI (k : IntKind) (c : Int) : (Value.int k c).cells = #[Value.int k c] := rfl
theorem len_set {α : Type} {xs : List α} {i m : Nat} {a : α} (h : xs.length = m) : (xs.set i a).length = m := by rw [List.length_set]; exact h
/-! Arrays compared -/
theorem eqItems_map {α : Type} [BEq α] [LawfulBEq α] {enc : α → Value} {d : Nat} {e : TypeId} {de : TypeDesc} (hed : P.underlying e = some de) (hp : plainT de = true) (h1 : ∀ a b, EqR P (d + 1) e (enc a) (enc b) (a == b)) (xs ys : List α) (hl : xs.length = ys.length) (w : World) :
    ∀ (m k : Nat), k + m = xs.length → (Op.eqItems (d + 1) e 1 (xs.map enc).toArray (ys.map enc).toArray (List.range' k m)).run P w = .ok (xs.drop k == ys.drop k) w
  | 0, k, h => by
    rw [List.drop_eq_nil_of_le (by omega), List.drop_eq_nil_of_le (by omega)]
    simp [Op.eqItems]
  | m + 1, k, h => by
    have hx : k < xs.length := by omega
    have hy : k < ys.length := by omega
    have px : (part e (xs.map enc).toArray (k * 1)).run P w = .ok (enc xs[k]) w := PartR.one hed hp (by simp [hx]) w
    have py : (part e (ys.map enc).toArray (k * 1)).run P w = .ok (enc ys[k]) w := PartR.one hed hp (by simp [hy]) w
    rw [List.range'_succ, drop_cons hx, drop_cons hy]
    simp only [Op.eqItems, Sem.run_bind, px, py, h1 _ _ w, Result.andThen_ok, List.cons_beq_cons]
    cases hc : xs[k] == ys[k] with
    | false => simp
    | true =>
      simp only [Bool.not_true, Bool.false_eq_true, if_false, Bool.true_and]
      exact eqItems_map hed hp h1 xs ys hl w m (k + 1) (by omega)
theorem EqR.arr {α : Type} [BEq α] [LawfulBEq α] {enc : α → Value} {d : Nat} {t e : TypeId} {m : Nat} {de : TypeDesc} {xs ys : List α} (hT : P.underlying t = some (.array m e)) (hs : (P.info? e).map (·.size) = some 1) (hed : P.underlying e = some de) (hp : plainT de = true)
    (hl : xs.length = m) (hl' : ys.length = m) (h1 : ∀ a b, EqR P (d + 1) e (enc a) (enc b) (a == b)) : EqR P (d + 2) t (.agg (xs.map enc).toArray) (.agg (ys.map enc).toArray) (xs == ys) := fun w => by
  obtain ⟨i, hi, hsz⟩ := Option.map_eq_some_iff.1 hs
  have hc : P.cellsOf e = 1 := by simp [Program.cellsOf, hi, hsz]
  rw [show d + 2 = (d + 1) + 1 from rfl, run_equalIn_array w (d + 1) _ _ hT hi, hc, List.range_eq_range']
  have := eqItems_map (d := d) hed hp h1 xs ys (by omega) w m 0 (by omega)
  simpa using this
end arrays
/-! Numbers, tables -/
section tabs
variable {P : Program} {ρ : Env} {w : World}
theorem ex_neg_u8 {xt t : TypeId} {x : Operand} {a : UInt8} (hx : ev ρ x = enc8 a) : Ex P ρ (.unOp .neg xt x) t w (enc8 (0 - a)) w := fun _ _ _ _ => by
  have h : IntKind.u8.wrap (0 - (a.toNat : Int)) = ((0 - a).toNat : Int) := by
    have := a.toNat_lt
    rw [wrap_u8, UInt8.toNat_sub]
    have h0 : (0 : UInt8).toNat = 0 := rfl
    omega
  simp only [execOp, hx, enc8, Op.unary, Op.intArith, Sem.run_bind, Sem.run_pure, Result.andThen_ok, h]
theorem ex_neg_u32 {xt t : TypeId} {x : Operand} {a : UInt32} (hx : ev ρ x = enc32 a) : Ex P ρ (.unOp .neg xt x) t w (enc32 (0 - a)) w := fun _ _ _ _ => by
  have h : IntKind.u32.wrap (0 - (a.toNat : Int)) = ((0 - a).toNat : Int) := by
    have := a.toNat_lt
    rw [wrap_u32, UInt32.toNat_sub]
    have h0 : (0 : UInt32).toNat = 0 := rfl
    omega
  simp only [execOp, hx, enc32, Op.unary, Op.intArith, Sem.run_bind, Sem.run_pure, Result.andThen_ok, h]
theorem ex_neg_u64 {xt t : TypeId} {x : Operand} {a : UInt64} (hx : ev ρ x = enc64 a) : Ex P ρ (.unOp .neg xt x) t w (enc64 (0 - a)) w := fun _ _ _ _ => by
  have h : IntKind.u64.wrap (0 - (a.toNat : Int)) = ((0 - a).toNat : Int) := by
    have := a.toNat_lt
    rw [wrap_u64, UInt64.toNat_sub]
    have h0 : (0 : UInt64).toNat = 0 := rfl
    omega
  simp only [execOp, hx, enc64, Op.unary, Op.intArith, Sem.run_bind, Sem.run_pure, Result.andThen_ok, h]
theorem bin_and_i64 {a b : Int} {T : TypeId} : Bin P .and T (.int .i64 a) (.int .i64 b) (.int .i64 (andI a b)) := fun x y w => by
  simp only [eqGuard, binOp, Op.intBits, Sem.run_bind, Sem.run_pure, Result.andThen_ok, wrap_i64]
  rfl
theorem bin_or_i64 {a b : Int} {T : TypeId} : Bin P .or T (.int .i64 a) (.int .i64 b) (.int .i64 (orI a b)) := fun x y w => by
  simp only [eqGuard, binOp, Op.intBits, Sem.run_bind, Sem.run_pure, Result.andThen_ok, wrap_i64]
  rfl
theorem tab8_cell {nm : String} {g : Nat} {xs : List UInt8} {i : Int} {c : UInt8} (hg : P.globalNamed nm = some g) (h : Lib.TabIs P w nm .u8 (xs.map fun c => (c.toNat : Int))) (hc : ix xs i = some c) : w.cell? ⟨g, i.toNat, none⟩ = some (enc8 c) := by
  obtain ⟨h0, h1, h2⟩ := ix_some hc
  unfold Lib.TabIs World.var? at h
  rw [hg] at h
  simp only [Option.bind_some] at h
  cases ho : w.heap[g]? with
  | none => rw [ho] at h; cases h
  | some ob =>
    rw [ho] at h
    cases ob with
    | cells cs t fz =>
      obtain rfl := Option.some.inj h
      simp [World.cell?, ho, h2, enc8]
    | _ => cases h
end tabs
/-! Closures -/
theorem ex_makeFuncC {P : Program} {ρ : Env} {w : World} {t : TypeId} {fn : Fn} {captured : Array Operand} (vs : List Value) (h : captured.toList.map (ev ρ) = vs) : Ex P ρ (.makeFunc fn #[] captured) t w (.func fn #[] vs.toArray) w := by
  have e1 : captured.map (ev ρ) = vs.toArray := by rw [← h]; apply Array.ext'; simp
  have := ex_makeFunc (P := P) (ρ := ρ) (w := w) (t := t) (fn := fn) (first := #[]) (captured := captured)
  rw [e1, show (#[] : Array Operand).map (ev ρ) = #[] from by simp] at this
  exact this
/-! A function value and nil -/
section fn
variable {P : Program}
theorem run_eqFnN (d : Nat) {t : TypeId} {sg : Array TypeId} {rs : Array TypeId} {vd : Bool} {f : Fn} {a b : Array Value} (hT : P.underlying t = some (.func sg rs vd)) (w : World) : (Op.equalIn (d + 1) t (.func f a b) .nilFunc).run P w = .ok false w := by simp [Op.equalIn, run_underlying hT]
theorem run_eqFnNN (d : Nat) {t : TypeId} {sg : Array TypeId} {rs : Array TypeId} {vd : Bool} (hT : P.underlying t = some (.func sg rs vd)) (w : World) : (Op.equalIn (d + 1) t .nilFunc .nilFunc).run P w = .ok true w := by simp [Op.equalIn, run_underlying hT]
theorem bin_eql_fnN {t : TypeId} {sg : Array TypeId} {rs : Array TypeId} {vd : Bool} {f : Fn} {a b : Array Value} (hT : P.underlying t = some (.func sg rs vd)) : Bin P .eql t (.func f a b) .nilFunc (.bool false) := fun x y w => by
  have := run_eqFnN (P := P) 9999 (f := f) (a := a) (b := b) hT w
  simp only [binOp, eqGuard, Op.equal, Op.maxDepth]; simp [this]
theorem bin_neq_fnN {t : TypeId} {sg : Array TypeId} {rs : Array TypeId} {vd : Bool} {f : Fn} {a b : Array Value} (hT : P.underlying t = some (.func sg rs vd)) : Bin P .neq t (.func f a b) .nilFunc (.bool true) := fun x y w => by
  have := run_eqFnN (P := P) 9999 (f := f) (a := a) (b := b) hT w
  simp only [binOp, eqGuard, Op.equal, Op.maxDepth]; simp [this]
theorem bin_eql_fnNN {t : TypeId} {sg : Array TypeId} {rs : Array TypeId} {vd : Bool} (hT : P.underlying t = some (.func sg rs vd)) : Bin P .eql t .nilFunc .nilFunc (.bool true) := fun x y w => by
  have := run_eqFnNN (P := P) 9999 hT w
  simp only [binOp, eqGuard, Op.equal, Op.maxDepth]; simp [this]
end fn
/-! Regions with a call of yield -/
section yield
variable {P : Program} {n : Nat} {K : Exit → Env → World → Prop} {Kn : Env → World → Prop} {ρ : Env} {w : World} {ops : Array Oper} {rest : List Oper}
/-- As WL, where yield may be called. -/
structure WY (P : Program) (n : Nat) (ops : Array Oper) (l : List Oper) (K : Exit → Env → World → Prop) (ρ : Env) (w : World) : Prop where
  out : ∀ a, Fr n .plain ρ a → wpListIn Fence.wide 0 P ops (lift n .plain K) l a w
theorem WC.regionY {id : Nat} {l : List Oper} (h : WY P n l.toArray l K ρ w) : WC P n .plain (.region id l.toArray false) K ρ w := ⟨fun a ha => wpIn_region_lit (h.out a ha)⟩
theorem WY.nil (h : K .normal ρ w) : WY P n ops [] K ρ w := ⟨fun a ha => ⟨ρ, ha, h⟩⟩
theorem WY.ex {d : Nat} {op : Op} {t : TypeId} {p : String} {e : Array Edge} {v : Value} {w' : World} (hd : Nat.blt d n = true) (hr : Ex P ρ op t w v w') (k : WY P n ops rest K (upd ρ d v) w') :
    WY P n ops ({ dst := some d, op := op, type := t, pos := p, after := e, guard := none } :: rest) K ρ w := ⟨fun a ha => by
  refine wpListIn_plain rfl (fun X hX => ⟨fun _ _ => trivial, ?_⟩)
  have hr' := hr (some d) p e none
  rw [show Fence.wide.round = none from rfl, Oper.semAt_none, ha.eval, hr']
  exact hX _ _ (k.out _ (ha.put hd v))⟩
/-- An operation of the plain walk. -/
theorem WY.op {o : Oper} (hg : o.guard = none) (hnd : ∀ c, o.op ≠ .defer c) (h : OW P n .plain o (WY P n ops rest K) K ρ w) : WY P n ops (o :: rest) K ρ w := ⟨fun a ha => by
  refine wpListIn_plain hg (fun X hX => ?_)
  have hw := h.out a ha X (fun a' w' ⟨ρ', hf, hk⟩ => hX _ _ (hk.out _ hf))
  unfold Oper.wp at hw
  refine ⟨fun _ _ => trivial, ?_⟩
  rw [show Fence.wide.round = none from rfl, Oper.semAt_none]
  generalize (execOp a.eval o).run P w = r at hw
  cases r with
  | ok x w' =>
    cases x with
    | value v => exact hw
    | skip => exact hw
    | defer d => exact hw
    | enter f args =>
      refine ⟨fun h_ => (by cases h_), (callsIn_wide (n := 0 - 1)).2 (Calls.mono hw fun e w'' he => ?_)⟩
      cases e with
      | returned v => exact he
      | panicked c => exact he
      | outgrown => exact he
    | row row args => exact ⟨fun h_ => (by cases h_), rows_fen (rd := none) (Rows.mono hw fun v w'' he => he)⟩
    | round l f tmps assign body => exact hw.elim
    | _ => exact hw.elim
  | halt x w' => cases x <;> first | exact hw | exact hw.elim⟩
theorem WY.yield {d : Nat} {x : Operand} {xs : List Operand} {ts : Array TypeId} {t : TypeId} {p : String} {e : Array Edge} {l : Nat} {R : Ending → World → Prop} (avs : List Value) (hd : Nat.blt d n = true) (hx : ev ρ x = .func (.yield l) #[] #[]) (ha : xs.map (ev ρ) = avs)
    (hy : YieldAt Fence.wide 0 P l avs.toArray w R) (k : ∀ e' w', R e' w' → ∃ v, e' = .returned v ∧ WY P n ops rest K (upd ρ d v) w') :
    WY P n ops ({ dst := some d, op := .call { callee := .value x, args := xs.toArray, argTypes := ts }, type := t, pos := p, after := e, guard := none } :: rest) K ρ w := ⟨fun a hfa => by
  refine wpListIn_plain rfl (fun X hX => ⟨fun _ _ => trivial, ?_⟩)
  obtain ⟨fn, tmps, assign, body, hyy, hR⟩ := hy
  have hr : (execOp (ev ρ) { dst := some d, op := .call { callee := .value x, args := xs.toArray, argTypes := ts }, type := t, pos := p, after := e, guard := none }).run P w = .ok (.round l fn tmps assign body) w := by
    simp [execOp, resolve, Deferred.ofValue, hx, invoke, ha, hyy]
  rw [show Fence.wide.round = none from rfl, Oper.semAt_none, hfa.eval, hr]
  refine ⟨fun h_ => (by cases h_), RoundIn.mono hR fun e' w' he => ?_⟩
  obtain ⟨v, rfl, hk⟩ := k e' w' he
  exact hX _ _ (hk.out _ (hfa.put hd v))⟩
end yield
end Go.Proofs.YtpmkkhkphddfeaaDoor.SX
