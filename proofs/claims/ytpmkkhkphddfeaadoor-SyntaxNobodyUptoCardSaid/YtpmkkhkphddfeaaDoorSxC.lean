/- Operations by what they come to. -/
import Derived.Test.YtpmkkhkphddfeaaDoorSxB
set_option linter.unusedVariables false
set_option linter.unusedSimpArgs false
namespace Go.Proofs.YtpmkkhkphddfeaaDoor.SX
open Go

/-- The operation yields v and leaves the world w'. -/
def Ex (P : Program) (ρ : Env) (op : Op) (t : TypeId) (w : World) (v : Value) (w' : World) : Prop :=
  ∀ d p e g, (execOp (ev ρ) { dst := d, op := op, type := t, pos := p, after := e, guard := g }).run P w = .ok (.value v) w'

section ops
variable {P : Program} {n : Nat} {md : Md} {ops : Array Oper} {rest : List Oper} {K : Exit → Env → World → Prop} {ρ : Env} {w : World}
theorem OW.ex {Kn : Env → World → Prop} {d : Nat} {op : Op} {t : TypeId} {p : String} {e : Array Edge} {g : Option (Nat × Bool)} {v : Value} {w' : World} (hd : Nat.blt d n = true) (hr : Ex P ρ op t w v w')
    (k : Kn (upd ρ d v) w') : OW P n md { dst := some d, op := op, type := t, pos := p, after := e, guard := g } Kn K ρ w :=
  OW.val hd (hr _ _ _ _) k
theorem WL.ex {d : Nat} {op : Op} {t : TypeId} {p : String} {e : Array Edge} {v : Value} {w' : World} (hd : Nat.blt d n = true) (hr : Ex P ρ op t w v w')
    (k : WL P n md ops rest K (upd ρ d v) w') : WL P n md ops ({ dst := some d, op := op, type := t, pos := p, after := e, guard := none } :: rest) K ρ w :=
  WL.op rfl (OW.ex hd hr k)
theorem WA.ex {L : Nat} {S : World → Prop} {m : Nat} {listed : Array Bool} (i : Nat) {d : Nat} {op : Op} {t : TypeId} {p : String} {e : Array Edge} {v : Value} (hi : ops[i]? = some { dst := some d, op := op, type := t, pos := p, after := e, guard := none })
    (hs : Region.noSelect ops = true) (hf : freeL .any ops L listed i = true) (hr : (Region.ready .any ops listed).contains i = true) (hd : Nat.blt d n = true)
    (hS : S w) (hy : ∀ w, S w → Ex P ρ op t w v w) (h : WA P n md ops L S m (listed.setIfInBounds i true) K (upd ρ d v) w) : WA P n md ops L S (m + 1) listed K ρ w :=
  WA.take i hi hs hf hr hd (fun w hw => hy w hw _ _ _ _) hS h

theorem ex_move {x : Operand} {t : TypeId} {v : Value} (hx : ev ρ x = v) : Ex P ρ (.move x) t w v w := fun _ _ _ _ => by subst hx; rfl
theorem ex_assign {x : Operand} {t : TypeId} {v : Value} (hx : ev ρ x = v) : Ex P ρ (.assign x) t w v w := fun _ _ _ _ => by subst hx; rfl
theorem ex_bin {op : BinOp} {xt yt t : TypeId} {x y : Operand} {a b v : Value} (hx : ev ρ x = a) (hy : ev ρ y = b) (hb : Bin P op xt a b v) : Ex P ρ (.binOp op xt x y yt) t w v w := by
  intro _ _ _ _
  have h := hb x y w
  rw [← hx, ← hy] at h
  simp only [execOp, Sem.run_bind] at h ⊢
  rw [h]
  rfl
theorem ex_not {xt t : TypeId} {x : Operand} {b : Bool} (hx : ev ρ x = .bool b) : Ex P ρ (.unOp .not xt x) t w (.bool (!b)) w := fun _ _ _ _ => by
  simp [execOp, hx, Op.unary]
theorem ex_neg {xt t : TypeId} {x : Operand} {k : IntKind} {a : Int} (hx : ev ρ x = .int k a) : Ex P ρ (.unOp .neg xt x) t w (.int k (k.wrap (0 - a))) w := fun _ _ _ _ => by
  simp [execOp, hx, Op.unary, Op.intArith]
theorem ex_un_xor {xt t : TypeId} {x : Operand} {k : IntKind} {a : Int} {v : Value} (hx : ev ρ x = .int k a) (hv : (Op.intBits .xor k (if k.signed then -1 else k.max) a).run P w = .ok v w) : Ex P ρ (.unOp .xor xt x) t w v w := fun _ _ _ _ => by
  simp [execOp, hx, Op.unary, hv]
theorem ex_extract {t : TypeId} {x : Operand} {vs : Array Value} {i : Nat} {v : Value} (hx : ev ρ x = .tuple vs) (hv : vs[i]? = some v) : Ex P ρ (.extract x i) t w v w := fun _ _ _ _ => by
  simp [execOp, hx, Instr.extract, hv]
theorem ex_nilCheck {t : TypeId} {x : Operand} {a : Addr} (hx : ev ρ x = .pointer (some a)) : Ex P ρ (.nilCheck x) t w (.pointer (some a)) w := fun _ _ _ _ => by
  simp [execOp, hx]
theorem ex_makeFunc {t : TypeId} {fn : Fn} {first captured : Array Operand} : Ex P ρ (.makeFunc fn first captured) t w (.func fn (first.map (ev ρ)) (captured.map (ev ρ))) w := fun _ _ _ _ => rfl
theorem ex_conv {src dst t : TypeId} {x : Operand} {k kd : IntKind} {a : Int} {ds : TypeDesc} (hx : ev ρ x = .int k a) (hs : P.underlying src = some ds) (hd : P.underlying dst = some (.int kd)) :
    Ex P ρ (.convert src dst x) t w (.int kd (kd.wrap a)) w := fun _ _ _ _ => by
  simp [execOp, hx, convert, run_underlying hs, run_underlying hd, Conv.intToInt]
theorem ex_len_slice {t T e : TypeId} {x : Operand} {A : Option Addr} {m c : Nat} (hx : ev ρ x = .slice A m c) (hT : P.underlying T = some (.slice e)) :
    Ex P ρ (.call { callee := .builtin .len, args := #[x], argTypes := #[T] }) t w (.int .i64 m) w := fun _ _ _ _ => by
  simp [execOp, resolve, invoke, builtin, Builtin.len_, hx, run_underlying hT, goInt]
theorem size_enc (s : List UInt8) : (⟨s.toArray⟩ : ByteArray).size = s.length := by simp [ByteArray.size]
theorem toList_enc (s : List UInt8) : (⟨s.toArray⟩ : ByteArray).toList = s := by simp
theorem ex_len_str {t T : TypeId} {x : Operand} {s : List UInt8} (hx : ev ρ x = encS s) (hT : P.underlying T = some .string) :
    Ex P ρ (.call { callee := .builtin .len, args := #[x], argTypes := #[T] }) t w (.int .i64 s.length) w := fun _ _ _ _ => by
  have h := size_enc s
  generalize hg : (⟨s.toArray⟩ : ByteArray) = g at h
  simp [execOp, resolve, invoke, builtin, Builtin.len_, hx, encS, run_underlying hT, goInt, hg, h]

/-! Memory: loads -/
def plainT (d : TypeDesc) : Bool := match d with | .struct _ | .array _ _ => false | _ => true
theorem run_isAgg_no {t : TypeId} {d : TypeDesc} (ht : P.underlying t = some d) (hd : plainT d = true) : (isAgg t).run P w = .ok false w := by
  unfold isAgg
  rw [Sem.run_bind, run_underlying ht w]
  cases d <;> simp_all [plainT]
theorem run_isAgg_yes {t : TypeId} {d : TypeDesc} (ht : P.underlying t = some d) (hd : plainT d = false) : (isAgg t).run P w = .ok true w := by
  unfold isAgg
  rw [Sem.run_bind, run_underlying ht w]
  cases d <;> simp_all [plainT]
theorem run_sizeOf' {t : TypeId} {k : Nat} (hs : (P.info? t).map (·.size) = some k) : (sizeOf t).run P w = .ok k w := by
  cases hq : P.info? t with
  | none => simp [hq] at hs
  | some i =>
    have : i.size = k := by simpa [hq] using hs
    simp [sizeOf, typeInfo, hq, this]
theorem ex_load1 {T t : TypeId} {x : Operand} {a : Addr} {v : Value} {d : TypeDesc} (hx : ev ρ x = .pointer (some a)) (hT : P.underlying T = some d) (hd : plainT d = true) (hc : w.cell? a = some v) :
    Ex P ρ (.load T x) t w v w := fun _ _ _ _ => by
  simp [execOp, hx, Instr.loadAt, Instr.sureAddr, loadVar, run_isAgg_no hT hd, run_load, hc]
theorem ex_loadN {T t : TypeId} {x : Operand} {a : Addr} {cs : List Value} {d : TypeDesc} (hx : ev ρ x = .pointer (some a)) (hT : P.underlying T = some d) (hd : plainT d = false)
    (hs : (P.info? T).map (·.size) = some cs.length) (hc : ∀ j u, cs[j]? = some u → w.cell? (a.add j) = some u) : Ex P ρ (.load T x) t w (.agg cs.toArray) w := fun _ _ _ _ => by
  simp [execOp, hx, Instr.loadAt, Instr.sureAddr, loadVar, run_isAgg_yes hT hd, run_sizeOf' hs, run_loadCells_list w a cs hc]
theorem ex_indexAddr {T e t : TypeId} {x y : Operand} {A : Option Addr} {a : Addr} {m c k : Nat} {i : Int} {ik : IntKind} (hx : ev ρ x = .slice A m c) (hA : A = some a) (hy : ev ρ y = .int ik i) (hT : P.underlying T = some (.slice e))
    (hs : (P.info? e).map (·.size) = some k) (h0 : 0 ≤ i) (h1 : i < m) : Ex P ρ (.indexAddr T x y) t w (.pointer (some (a.add (i.toNat * k)))) w := fun _ _ _ _ => by
  subst hA
  simp [execOp, hx, hy, Instr.indexAt, asIntOf, run_underlying hT, h0, h1, run_sizeOf' hs]
theorem ex_fieldAddr {T t : TypeId} {x : Operand} {a : Addr} {j : Nat} {fs : Array Field} {f : Field} {k : Nat} (hx : ev ρ x = .pointer (some a)) (hT : P.underlying T = some (.struct fs)) (hf : fs[j]? = some f)
    (hs : (P.info? f.type).map (·.size) = some (k + 1)) : Ex P ρ (.fieldAddr T x j) t w (.pointer (some (a.add f.offset))) w := fun _ _ _ _ => by
  simp [execOp, hx, Instr.fieldAt, Instr.sureAddr, run_underlying hT, hf, fieldPlace, run_sizeOf' hs]
theorem ex_field1 {T t : TypeId} {x : Operand} {cs : Array Value} {j : Nat} {fs : Array Field} {f : Field} {d : TypeDesc} {v : Value} (hx : ev ρ x = .agg cs) (hT : P.underlying T = some (.struct fs)) (hf : fs[j]? = some f)
    (hft : P.underlying f.type = some d) (hd : plainT d = true) (hv : cs[f.offset]? = some v) : Ex P ρ (.field T x j) t w v w := fun _ _ _ _ => by
  simp [execOp, hx, Instr.field, run_underlying hT, hf, part, run_isAgg_no hft hd, asAgg, hv]
theorem ex_fieldN {T t : TypeId} {x : Operand} {cs : Array Value} {j k : Nat} {fs : Array Field} {f : Field} {d : TypeDesc} (hx : ev ρ x = .agg cs) (hT : P.underlying T = some (.struct fs)) (hf : fs[j]? = some f)
    (hft : P.underlying f.type = some d) (hd : plainT d = false) (hs : (P.info? f.type).map (·.size) = some k) : Ex P ρ (.field T x j) t w (.agg (cs.extract f.offset (f.offset + k))) w := fun _ _ _ _ => by
  simp [execOp, hx, Instr.field, run_underlying hT, hf, part, run_isAgg_yes hft hd, asAgg, run_sizeOf' hs]

/-! Strings -/
theorem ex_index_str {T t : TypeId} {x y : Operand} {s : List UInt8} {ik : IntKind} {i : Int} {c : UInt8} (hx : ev ρ x = encS s) (hy : ev ρ y = .int ik i) (hT : P.underlying T = some .string) (h0 : 0 ≤ i) (hc : s[i.toNat]? = some c) :
    Ex P ρ (.index T x y) t w (enc8 c) w := fun _ _ _ _ => by
  have h2 : (⟨s.toArray⟩ : ByteArray)[i.toNat]? = some c := by
    obtain ⟨hl, hv⟩ := List.getElem?_eq_some_iff.1 hc
    rw [getElem?_pos _ _ (by simpa [ByteArray.size] using hl)]
    simp [ByteArray.getElem_eq_getElem_data, hv]
  simp [execOp, hx, hy, Instr.index, asIntOf, encS, run_underlying hT, h0, h2, enc8]
end ops

/-! Making memory -/
section make
variable {P : Program} {n : Nat} {md : Md} {ops : Array Oper} {rest : List Oper} {K : Exit → Env → World → Prop} {ρ : Env} {w : World} {o : Tags} {d : Nat} {t : TypeId} {p : String} {e : Array Edge}
theorem OW.box {Kn : Env → World → Prop} {g : Option (Nat × Bool)} {T : TypeId} {x : Operand} (cs : List Value) (i : Nat) (o : Tags) (hd : Nat.blt d n = true) (hx : (ev ρ x).cells = cs.toArray)
    (k : ∀ o' w' b, Step o w o' w' [] → Bk o' w' i b cs T → Kn (upd ρ d (.pointer (some ⟨b, 0, none⟩))) w') :
    OW P n md { dst := some d, op := .box T x, type := t, pos := p, after := e, guard := g } Kn K ρ w := by
  refine OW.val (v := .pointer (some ⟨w.heap.size, 0, none⟩)) (w' := w.alloc (.cells cs.toArray T)) hd ?_ (k (fun b => bif Nat.beq b w.heap.size then i else o b) _ _ (step_alloc o w i _ _) ⟨by simp, ?_⟩)
  · simp [execOp, Instr.box, newVar, newRow, newObj, Sem.run, hx]
  · exact heap_alloc_new w _
theorem run_zeroValue' {T : TypeId} {v : Value} (hz : (P.info? T).map (·.zero) = some (some v)) : (zeroValue T).run P w = .ok v w := by
  cases hq : P.info? T with
  | none => simp [hq] at hz
  | some i =>
    have : i.zero = some v := by simpa [hq] using hz
    simp [zeroValue, typeInfo, hq, this]
/-- A new variable, zero. -/
theorem OW.alloc {Kn : Env → World → Prop} {g : Option (Nat × Bool)} {T : TypeId} (cs : List Value) (i : Nat) (o : Tags) {z : Value} (hd : Nat.blt d n = true) (hz : (P.info? T).map (·.zero) = some (some z)) (hx : z.cells = cs.toArray)
    (k : ∀ o' w' b, Step o w o' w' [] → Bk o' w' i b cs T → Kn (upd ρ d (.pointer (some ⟨b, 0, none⟩))) w') :
    OW P n md { dst := some d, op := .alloc T, type := t, pos := p, after := e, guard := g } Kn K ρ w := by
  refine OW.val (v := .pointer (some ⟨w.heap.size, 0, none⟩)) (w' := w.alloc (.cells cs.toArray T)) hd ?_ (k (fun b => bif Nat.beq b w.heap.size then i else o b) _ _ (step_alloc o w i _ _) ⟨by simp, ?_⟩)
  · simp [execOp, Instr.alloc, newVar, newRow, newObj, Sem.run, hx, run_zeroValue' hz]
  · exact heap_alloc_new w _
end make
end Go.Proofs.YtpmkkhkphddfeaaDoor.SX
