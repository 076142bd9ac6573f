/- Structs and arrays compared. -/
import Derived.Test.YtpmkkhkphddfeaaDoorSxN
import Derived.Laws.StructEq
import Derived.Lib.Builder
set_option linter.unusedVariables false
set_option linter.unusedSimpArgs false
namespace Go.Proofs.YtpmkkhkphddfeaaDoor.SX
open Go
section
variable {P : Program}
/-- Compared at a type, two values are the same or not. -/
def EqR (P : Program) (d : Nat) (t : TypeId) (x y : Value) (b : Bool) : Prop := ∀ w, (Op.equalIn d t x y).run P w = .ok b w
def EqF (P : Program) (d : Nat) (xs ys : Array Value) (fs : List Field) (b : Bool) : Prop := ∀ w, (Op.eqFields d xs ys fs).run P w = .ok b w
/-- A part of a struct. -/
def PartR (P : Program) (t : TypeId) (xs : Array Value) (off : Nat) (v : Value) : Prop := ∀ w, (part t xs off).run P w = .ok v w
theorem PartR.one {t : TypeId} {d : TypeDesc} {xs : Array Value} {off : Nat} {v : Value} (hft : P.underlying t = some d) (hd : plainT d = true) (hv : xs[off]? = some v) : PartR P t xs off v := fun w => by
  simp [part, run_isAgg_no hft hd, asAgg, hv]
theorem PartR.many {t : TypeId} {d : TypeDesc} {xs : Array Value} {off n : Nat} (hft : P.underlying t = some d) (hd : plainT d = false) (hs : (P.info? t).map (·.size) = some n) : PartR P t xs off (.agg (xs.extract off (off + n))) := fun w => by
  simp [part, run_isAgg_yes hft hd, asAgg, run_sizeOf' hs]
theorem EqF.nil {d : Nat} {xs ys : Array Value} : EqF P d xs ys [] true := fun w => by simp [Op.eqFields]
theorem EqF.cons {d : Nat} {xs ys : Array Value} {f : Field} {fs : List Field} {u v : Value} {b1 b2 : Bool} (hn : f.name ≠ "_") (hu : PartR P f.type xs f.offset u) (hv : PartR P f.type ys f.offset v)
    (h1 : EqR P d f.type u v b1) (h2 : EqF P d xs ys fs b2) : EqF P d xs ys (f :: fs) (b1 && b2) := fun w => by
  simp only [Op.eqFields, if_pos hn, Sem.run_bind, hu w, hv w, h1 w, Result.andThen_ok]
  cases b1 with
  | false => simp
  | true => simpa using h2 w
theorem EqR.int {d : Nat} {t : TypeId} {k k' : IntKind} {a b : Int} (h : P.underlying t = some (.int k')) : EqR P (d + 1) t (.int k a) (.int k b) (a == b) := fun w => run_equalIn_int w d t k k' a b h
theorem EqR.bool {d : Nat} {t : TypeId} {a b : Bool} (h : P.underlying t = some .bool) : EqR P (d + 1) t (.bool a) (.bool b) (a == b) := fun w => run_equalIn_bool' w d t a b h
theorem EqR.str {d : Nat} {t : TypeId} {a b : List UInt8} (h : P.underlying t = some .string) : EqR P (d + 1) t (encS a) (encS b) (a == b) := fun w => by
  have := run_equalIn_string w d t ⟨a.toArray⟩ ⟨b.toArray⟩ h
  rw [ByteArray.toList_eq, ByteArray.toList_eq] at this
  exact this
theorem EqR.u8 {d : Nat} {t : TypeId} {a b : UInt8} (h : P.underlying t = some (.int .u8)) : EqR P (d + 1) t (enc8 a) (enc8 b) (a == b) := fun w => by
  have := run_equalIn_int w d t .u8 .u8 (a.toNat : Int) (b.toNat : Int) h
  rw [show ((a.toNat : Int) == (b.toNat : Int)) = (a == b) from by rw [Bool.eq_iff_iff, beq_iff_eq, beq_iff_eq, ← UInt8.toNat_inj]; omega] at this
  exact this
theorem EqR.u32 {d : Nat} {t : TypeId} {a b : UInt32} (h : P.underlying t = some (.int .u32)) : EqR P (d + 1) t (enc32 a) (enc32 b) (a == b) := fun w => by
  have := run_equalIn_int w d t .u32 .u32 (a.toNat : Int) (b.toNat : Int) h
  rw [show ((a.toNat : Int) == (b.toNat : Int)) = (a == b) from by rw [Bool.eq_iff_iff, beq_iff_eq, beq_iff_eq, ← UInt32.toNat_inj]; omega] at this
  exact this
theorem EqR.u64 {d : Nat} {t : TypeId} {a b : UInt64} (h : P.underlying t = some (.int .u64)) : EqR P (d + 1) t (enc64 a) (enc64 b) (a == b) := fun w => by
  have := run_equalIn_int w d t .u64 .u64 (a.toNat : Int) (b.toNat : Int) h
  rw [show ((a.toNat : Int) == (b.toNat : Int)) = (a == b) from by rw [Bool.eq_iff_iff, beq_iff_eq, beq_iff_eq, ← UInt64.toNat_inj]; omega] at this
  exact this
theorem EqR.agg {d : Nat} {t : TypeId} {fs : Array Field} {xs ys : Array Value} {b : Bool} (hT : P.underlying t = some (.struct fs)) (hp : P.stoodInHeld t = false) (h : EqF P d xs ys fs.toList b) : EqR P (d + 1) t (.agg xs) (.agg ys) b := fun w => by
  have e : P.fieldsOf t = fs := by unfold Program.fieldsOf; rw [hT]
  rw [run_equalIn_struct w d t xs ys (by rw [e]; exact hT) hp, e]
  exact h w
theorem bin_eql_agg {t : TypeId} {xs ys : Array Value} {b : Bool} (hg : P.eqGuardType P.depth t = false) (h : EqR P 10000 t (.agg xs) (.agg ys) b) : Bin P .eql t (.agg xs) (.agg ys) (.bool b) := fun x y w => by
  rw [Sem.run_bind, run_eqGuard_agg w .eql t x y xs ys hg, Result.andThen_ok, run_eql_struct, h w]
  rfl
theorem bin_neq_agg {t : TypeId} {xs ys : Array Value} {b : Bool} (hg : P.eqGuardType P.depth t = false) (h : EqR P 10000 t (.agg xs) (.agg ys) b) : Bin P .neq t (.agg xs) (.agg ys) (.bool (!b)) := fun x y w => by
  rw [Sem.run_bind, run_eqGuard_agg w .neq t x y xs ys hg, Result.andThen_ok, run_neq_struct, h w]
  rfl
end
/-! Arrays that are values -/
section arr
variable {P : Program} {ρ : Env} {w : World} {t : TypeId}
theorem ex_buildArr {T E : TypeId} {m sz : Nat} {parts : Array (Nat × Operand)} {z : Value} {cs : List Value} (vs : List (Nat × Value)) (zs : List Value) (hT : P.underlying T = some (.array m E)) (hz : (P.info? T).map (·.zero) = some (some z))
    (hzs : z.cells.toList = zs) (hs : (P.info? E).map (·.size) = some sz) (hvs : (parts.toList.map fun q => (q.1, ev ρ q.2)) = vs)
    (hf : fillL (fun i => some (i * sz, sz)) zs (vs.map fun q => (q.1, q.2.cells.toList)) = some cs) : Ex P ρ (.build T parts) t w (.agg cs.toArray) w := fun _ _ _ _ => by
  have h2 : Instr.fill (fun i => some (i * sz, sz)) z.cells (parts.map fun q => (q.1, ev ρ q.2)).toList = some cs.toArray := by
    rw [Array.toList_map, hvs, ← Array.toArray_toList (xs := z.cells), hzs, fill_fillL]
    simp [hf]
  show ((do pure (Next.value (← Instr.build T (parts.map fun q => (q.1, ev ρ q.2)))) : Sem Next)).run P w = _
  unfold Instr.build
  simp only [Sem.run_bind, run_zeroValue' hz, Result.andThen_ok, run_underlying hT, run_sizeOf' hs, h2, Sem.run_pure]
theorem ex_indexAV {α : Type} {enc : α → Value} {T E : TypeId} {x y : Operand} {xs : List α} {m : Nat} {ik : IntKind} {i : Int} {c : α} {d : TypeDesc} (hx : ev ρ x = .agg (xs.map enc).toArray) (hy : ev ρ y = .int ik i) (hT : P.underlying T = some (.array m E))
    (hd : P.underlying E = some d) (hp : plainT d = true) (hs : (P.info? E).map (·.size) = some 1) (hl : xs.length = m) (hc : ix xs i = some c) : Ex P ρ (.index T x y) t w (enc c) w := fun _ _ _ _ => by
  obtain ⟨h0, h1, h2⟩ := ix_some hc
  have h1' : i < (m : Int) := by rw [← hl]; exact h1
  simp [execOp, hx, hy, Instr.index, asIntOf, run_underlying hT, h0, h1', part, run_isAgg_no hd hp, asAgg, run_sizeOf' hs, h2]
end arr
/-! A call of a function value -/
section callv
variable {P : Program} {n : Nat} {md : Md} {K : Exit → Env → World → Prop} {Kn : Env → World → Prop} {ρ : Env} {w : World} {d : Nat} {t : TypeId} {p : String} {e : Array Edge} {g : Option (Nat × Bool)}
theorem run_callV {dst : Option Tmp} {f : FuncId} {fn : Func} {x : Operand} {xs : List Operand} {ts : Array TypeId} (hx : ev ρ x = .func (.func f) #[] #[]) (avs : List Value) (hf : P.funcs[f]? = some fn) (hn : (fn.name == "runtime.NumGoroutine") = false) (hb : fn.body.isNone = false) (ha : xs.map (ev ρ) = avs) :
    (execOp (ev ρ) { dst := dst, op := .call { callee := .value x, args := xs.toArray, argTypes := ts }, type := t, pos := p, after := e, guard := g }).run P w = .ok (.enter f avs.toArray) w := by
  have := run_callFunc (P := P) (w := w) (args := avs.toArray) hf hn hb
  simp [execOp, resolve, Deferred.ofValue, hx, invoke, ha, this]
theorem OW.callV {f : FuncId} {fn : Func} {x : Operand} {xs : List Operand} {ts : Array TypeId} {R : Ending → World → Prop} (hx : ev ρ x = .func (.func f) #[] #[]) (avs : List Value) (hd : Nat.blt d n = true) (hf : P.funcs[f]? = some fn) (hn : (fn.name == "runtime.NumGoroutine") = false) (hb : fn.body.isNone = false) (ha : xs.map (ev ρ) = avs)
    (hc : Calls P f avs.toArray w R) (k : ∀ e' w', R e' w' → ∃ v, e' = .returned v ∧ Kn (upd ρ d v) w') :
    OW P n md { dst := some d, op := .call { callee := .value x, args := xs.toArray, argTypes := ts }, type := t, pos := p, after := e, guard := g } Kn K ρ w :=
  OW.callEnter hd (run_callV hx avs hf hn hb ha) hc k
theorem OW.callV0 {f : FuncId} {fn : Func} {x : Operand} {xs : List Operand} {ts : Array TypeId} {R : Ending → World → Prop} (hx : ev ρ x = .func (.func f) #[] #[]) (avs : List Value) (hf : P.funcs[f]? = some fn) (hn : (fn.name == "runtime.NumGoroutine") = false) (hb : fn.body.isNone = false) (ha : xs.map (ev ρ) = avs)
    (hc : Calls P f avs.toArray w R) (k : ∀ e' w', R e' w' → ∃ v, e' = .returned v ∧ Kn ρ w') :
    OW P n md { dst := none, op := .call { callee := .value x, args := xs.toArray, argTypes := ts }, type := t, pos := p, after := e, guard := g } Kn K ρ w :=
  OW.callEnter0 (run_callV hx avs hf hn hb ha) hc k
end callv
/-! A builder just laid -/
section fresh
open Go.RowKit
variable {P : Program} {n : Nat} {md : Md} {K : Exit → Env → World → Prop} {Kn : Env → World → Prop} {ρ : Env} {w : World} {o : Tags} {d : Nat} {t : TypeId} {p : String} {e : Array Edge} {g : Option (Nat × Bool)}
theorem OW.allocFr {T : TypeId} (i : Nat) {o0 : Tags} {w0 : World} {TT : List Nat} (HF : Fm o0 w0 o w TT) (hd : Nat.blt d n = true) (hz : (P.info? T).map (·.zero) = some (some (.agg #[.pointer none, .slice none 0 0])))
    (k : ∀ o' w' b, Step o w o' w' [] → Bk o' w' i b [.pointer none, .slice none 0 0] T → b + 1 = w'.heap.size → Kn (upd ρ d (.pointer (some ⟨b, 0, none⟩))) w') :
    OW P n md { dst := some d, op := .alloc T, type := t, pos := p, after := e, guard := g } Kn K ρ w := by
  refine OW.val (v := .pointer (some ⟨w.heap.size, 0, none⟩)) (w' := w.alloc (.cells #[.pointer none, .slice none 0 0] T)) hd ?_ (k (fun b => bif Nat.beq b w.heap.size then i else o b) _ _ (step_alloc o w i _ _) ⟨by simp, heap_alloc_new w _⟩ (World.size_alloc _ _).symm)
  simp [execOp, Instr.alloc, newVar, newRow, newObj, Sem.run, run_zeroValue' hz, Value.cells]
theorem Bd.fresh {T E i b : Nat} (h : Bk o w i b [.pointer none, .slice none 0 0] T) : Bd T E i o w b [] := ⟨_, _, h, .inl rfl, Own.nil⟩
theorem grow_bd {T E b : Nat} {w' : World} (hB : Bk o w 2 b [.pointer none, .slice none 0 0] T) (hl : b + 1 = w.heap.size) (h : Lib.BuilderAt T E b b (.pointer (some ⟨b, 0, none⟩)) [] w') (hb : Below b w w') :
    ∃ o_, Step o w o_ w' [2] ∧ Bd T E 2 o_ w' b [] := by
  obtain ⟨_, v, hv, hr, hne⟩ := h
  have ht := hB.tag
  refine ⟨fun c => if c < w.heap.size then o c else 2, ⟨hb.os, hb.tape, hb.output, hb.size, fun c hc => if_pos hc, fun c hc hn => hb.block c ?_⟩, _, v, ⟨by simp [← hl, ht], hv⟩, .inr rfl, [], ?_, ?_, rfl⟩
  · have : c ≠ b := by rintro rfl; exact hn (by simp [ht])
    omega
  · refine ⟨hr.1, ?_⟩
    rcases hr.2 with h | ⟨g, cap, cur, h1, h2, h3⟩
    · exact .inl h
    · exact .inr ⟨g, cap, cur, h1, Nat.zero_le _, h3⟩
  · intro c hc
    rcases hr.2 with ⟨h, _⟩ | ⟨g, cap, cur, h1, h2, _⟩
    · rw [h] at hc; cases hc
    · rw [h1] at hc hne
      cases hc
      have hgb : g ≠ b := fun e => hne (by rw [e]; rfl)
      show (if g < w.heap.size then o g else 2) = 2
      rw [if_neg (by omega)]
end fresh
end Go.Proofs.YtpmkkhkphddfeaaDoor.SX
