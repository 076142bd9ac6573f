/- Deferred calls that recover. -/
import Derived.Test.YtpmkkhkphddfeaaDoorSxV
import Derived.RecoverIn
set_option linter.unusedVariables false
set_option linter.unusedSimpArgs false
namespace Go.Proofs.YtpmkkhkphddfeaaDoor.SX
open Go Go.RowKit
/-- A deferred function's contract: what it leaves the frame below in, too. -/
def DCalls (P : Program) (f : FuncId) (args : Array Value) (u : FrameMode) (w : World) (R : Ending → FrameMode → World → Prop) : Prop := CallsDIn Fence.wide 0 P f args u w R
def recd (v : Value) : FrameMode := .panicking [{ v, recovered := true }]
/-- How a function leaves that has deferred calls. -/
def Lv (P : Program) (fn : Func) (R : Ending → World → Prop) (ρ : Env) : List Deferred → FrameMode → World → Prop
  | [], .returning, w => ∃ vs, Vals P ρ w fn.results.toList vs ∧ R (.returned (one vs)) w
  | [], .panicking c, w => R (.panicked c) w
  | [], .run, _ => False
  | d :: ds, u, w => u ≠ .run ∧ ∃ f cap args, d.target = .fn (.func f) cap ∧ (invoke d.target d.args).run P w = .ok (.enter f args) w ∧
      DCalls P f args u w fun
        | .returned _, u', w' => Lv P fn R ρ ds (settle u') w'
        | .panicked c, u', w' => Lv P fn R ρ ds (raised u' c) w'
        | .outgrown, _, _ => False
def TopD (P : Program) (fn : Func) (R : Ending → World → Prop) : Exit → Env → World → Prop
  | .normal, ρ, w | .ret, ρ, w => Lv P fn R ρ ρ.ds .returning w
  | .panic c, ρ, w => Lv P fn R ρ ρ.ds (.panicking c) w
  | _, _, _ => False
section
variable {P : Program}
theorem lv_leaves {fn : Func} {R : Ending → World → Prop} {ρ : Env} {n : Nat} {md : Md} {a : Act} (ha : Fr n md ρ a) : ∀ (ds : List Deferred) (u : FrameMode) (w : World), Lv P fn R ρ ds u w → LeavesIn Fence.wide 0 P fn a.tmps R ds u w
  | [], .returning, w, h => by
    obtain ⟨vs, h1, h2⟩ := h
    exact ⟨_, results_run ha h1, h2⟩
  | [], .panicking c, w, h => h
  | [], .run, _, h => h
  | d :: ds, u, w, h => by
    obtain ⟨hu, f, cap, args, h1, h2, h3⟩ := h
    refine ⟨hu, fun h_ => (by cases h_), .func f, cap, f, args, h1, h2, fun _ _ => trivial, CallsDIn.mono h3 fun e u' w' hR => ?_⟩
    cases e with
    | returned v => exact lv_leaves ha ds _ _ hR
    | panicked c => exact lv_leaves ha ds _ _ hR
    | outgrown => exact hR.elim
theorem callsD {f : FuncId} {fn : Func} {c : Code} {w : World} {R : Ending → World → Prop} (avs : List Value) (hf : P.funcs[f]? = some fn) (hb : fn.body = some c) (hn : Nat.ble avs.length fn.ntmps = true)
    (h : WC P fn.ntmps .recov c (TopD P fn R) (envE avs) w) : Calls P f avs.toArray w R := by
  refine (callsIn_wide (n := 0)).1 (callsIn_of_wp_defers hf hb trivial (wpIn_mono (h.out _ (fr_start hn)) (fun e a w q => ?_)) rfl)
  cases e with
  | normal => obtain ⟨ρ, ha, hq⟩ := q; show LeavesIn _ _ _ _ _ _ a.defers _ _; rw [ha.defs]; exact lv_leaves ha _ _ _ hq
  | ret => obtain ⟨ρ, ha, hq⟩ := q; show LeavesIn _ _ _ _ _ _ a.defers _ _; rw [ha.defs]; exact lv_leaves ha _ _ _ hq
  | panic c =>
    obtain ⟨ρ, ha, hq⟩ := q
    rcases ha with ⟨_, ha⟩ | ⟨h, _⟩
    · show LeavesIn _ _ _ _ _ _ a.defers _ _
      rw [ha.defs]
      exact lv_leaves ha _ _ _ hq
    · cases h
  | exit i => obtain ⟨ρ, ha, hk⟩ := q; exact hk.elim
  | goto l => obtain ⟨ρ, ha, hk⟩ := q; exact hk.elim
  | outgrown => exact q.elim
/-- One deferred closure. -/
theorem lv_one {fn : Func} {R : Ending → World → Prop} {ρ : Env} {f : FuncId} {fd : Func} {xs cs : List Value} {ds : List Deferred} {u : FrameMode} {w : World} (hu : u ≠ .run) (hf : P.funcs[f]? = some fd) (hn : (fd.name == "runtime.NumGoroutine") = false) (hb : fd.body.isNone = false)
    (h : DCalls P f (xs ++ cs).toArray u w fun
        | .returned _, u', w' => Lv P fn R ρ ds (settle u') w'
        | .panicked c, u', w' => Lv P fn R ρ ds (raised u' c) w'
        | .outgrown, _, _ => False) : Lv P fn R ρ ({ target := .fn (.func f) cs.toArray, args := xs.toArray } :: ds) u w := by
  refine ⟨hu, f, _, (xs ++ cs).toArray, rfl, ?_, h⟩
  have := run_callFunc (P := P) (w := w) (args := (xs ++ cs).toArray) hf hn hb
  simp [invoke] at this ⊢
  exact this
/-! A deferred closure whose first word is recover -/
def TopN (P : Program) (fn : Func) (R : Ending → World → Prop) : Exit → Env → World → Prop
  | .normal, ρ, w | .ret, ρ, w => ∃ vs, Vals P ρ w fn.results.toList vs ∧ R (.returned (one vs)) w
  | _, _, _ => False
theorem dcalls_rec {f : FuncId} {fn : Func} {rest : Code} {id : Nat} {d : Nat} {t : TypeId} {p : String} {e : Array Edge} {u u' : FrameMode} {rv : Value} {w : World} {R : Ending → World → Prop} (avs : List Value) (hf : P.funcs[f]? = some fn)
    (hb : fn.body = some (.seq (.region id #[{ dst := some d, op := .call { callee := .builtin .recover, args := #[], argTypes := #[] }, type := t, pos := p, after := e, guard := none }] false) rest)) (hn : Nat.ble avs.length fn.ntmps = true) (hd : Nat.blt d fn.ntmps = true)
    (hu : (u = .returning ∧ u' = .returning ∧ rv = .nilIface) ∨ (u = .panicking (pc rv) ∧ u' = recd rv))
    (h : WC P fn.ntmps .plain rest (TopN P fn R) (upd (envE avs) d rv) w) : DCalls P f avs.toArray u w fun e u2 w' => u2 = u' ∧ R e w' := by
  refine callsDIn_of_wpSIn (F := Fence.wide) hf hb trivial fun c₀ cs hc => ?_
  refine wpSIn_seq (wpSIn_region ?_)
  have hr : ∀ a : Act, (execOp a.eval { dst := some d, op := .call { callee := .builtin .recover, args := #[], argTypes := #[] }, type := t, pos := p, after := e, guard := none }).run P w = .ok .recover w := fun a => by
    simp [execOp, resolve, invoke, builtin]
  have fin : ∀ (m : FrameMode) (a : Act), Fr fn.ntmps .plain (upd (envE avs) d rv) a → m = u' → Exit.thenS (rest.wpSIn Fence.wide 0 P (bodyPostS P fn c₀ cs fun e u2 w' => u2 = u' ∧ R e w')) (bodyPostS P fn c₀ cs fun e u2 w' => u2 = u' ∧ R e w') .normal a ({ c₀ with mode := m } :: cs) w := by
    rintro m a ha rfl
    refine wpSIn_of_wpIn rfl (wpIn_mono (h.out a ha) fun e a' w' q => ?_)
    cases e with
    | normal => obtain ⟨ρ, hf', vs, hv, hR⟩ := q; exact ⟨hf'.defs.trans (hf'.dd rfl), _, rfl, _, results_run hf' hv, rfl, hR⟩
    | ret => obtain ⟨ρ, hf', vs, hv, hR⟩ := q; exact ⟨hf'.defs.trans (hf'.dd rfl), _, rfl, _, results_run hf' hv, rfl, hR⟩
    | exit i => obtain ⟨ρ, _, hk⟩ := q; exact hk.elim
    | goto l => obtain ⟨ρ, _, hk⟩ := q; exact hk.elim
    | panic c => obtain ⟨ρ, _, hk⟩ := q; exact hk.elim
    | outgrown => exact q.elim
  have hfr := (fr_start (avs := avs) (md := .plain) hn).put hd rv
  show wpOpsSIn Fence.wide 0 P _ _ [0] _ _ _
  unfold wpOpsSIn
  simp only [List.getElem?_toArray, List.getElem?_cons_zero]
  refine ⟨fun _ _ => trivial, ?_⟩
  rw [if_pos (by simp [Region.wanted]), hr]
  rcases hu with ⟨rfl, rfl, rfl⟩ | ⟨hu1, rfl⟩
  · have hn : recoverD (c₀ :: cs) = none := by simp [recoverD, hc]
    simp only [hn]
    unfold wpOpsSIn
    have hm : ({ c₀ with mode := FrameMode.returning } : Frame) = c₀ := by rw [← hc]
    have := fin .returning _ hfr rfl
    rw [hm] at this
    exact this
  · have hn : recoverD (c₀ :: cs) = some (rv, { c₀ with mode := recd rv } :: cs) := by simp [recoverD, hc, hu1, pc, recd]
    simp only [hn]
    unfold wpOpsSIn
    exact fin (recd rv) _ hfr rfl
theorem DCalls.mono {f : FuncId} {args : Array Value} {u : FrameMode} {w : World} {R R' : Ending → FrameMode → World → Prop} (h : DCalls P f args u w R) (hr : ∀ e u' w', R e u' w' → R' e u' w') : DCalls P f args u w R' := CallsDIn.mono h hr
theorem Lv.done {fn : Func} {R : Ending → World → Prop} {ρ : Env} {w : World} (h : ∃ vs, Vals P ρ w fn.results.toList vs ∧ R (.returned (one vs)) w) : Lv P fn R ρ [] .returning w := h
theorem Lv.doneR {fn : Func} {R : Ending → World → Prop} {ρ : Env} {v : Value} {w : World} (h : ∃ vs, Vals P ρ w fn.results.toList vs ∧ R (.returned (one vs)) w) : Lv P fn R ρ [] (settle (recd v)) w := h
theorem isErr_if {T : TypeId} {v : Value} : IsErr true (.iface T v) := ⟨_, _, rfl⟩
theorem isErr_ni : IsErr false .nilIface := rfl
theorem ex_typeAssertY {T xT t : TypeId} {x : Operand} {v : Value} {ds : TypeDesc} {ρ : Env} {w : World} (hx : ev ρ x = .iface T v) (hT : P.underlying T = some ds) (hi : (match ds with | .interface _ => true | _ => false) = false) : Ex P ρ (.typeAssert x xT T true) t w (.tuple #[v, .bool true]) w := fun _ _ _ _ => by
  simp only [execOp, hx, Instr.typeAssert]
  cases ds <;> simp_all [run_underlying hT]
theorem settle_recd (v : Value) : settle (recd v) = .returning := rfl
section ops
variable {n : Nat} {dd : Bool} {K : Exit → Env → World → Prop} {Kn : Env → World → Prop} {ρ : Env} {w : World} {t : TypeId} {p : String} {e : Array Edge} {g : Option (Nat × Bool)}
theorem OW.defer {f : FuncId} {x : Operand} {xs : List Operand} {ts : Array TypeId} (bs cs : List Value) (hx : ev ρ x = .func (.func f) bs.toArray cs.toArray) (avs : List Value) (ha : xs.map (ev ρ) = avs)
    (k : Kn ⟨ρ.get, { target := .fn (.func f) cs.toArray, args := (bs ++ avs).toArray } :: ρ.ds⟩ w) :
    OW P n .recov { dst := none, op := .defer { callee := .value x, args := xs.toArray, argTypes := ts }, type := t, pos := p, after := e, guard := g } Kn K ρ w := by
  refine ⟨fun a hf X hX => ?_⟩
  unfold Oper.wp
  rw [hf.eval]
  have : (execOp (ev ρ) { dst := none, op := .defer { callee := .value x, args := xs.toArray, argTypes := ts }, type := t, pos := p, after := e, guard := g }).run P w = .ok (.defer { target := .fn (.func f) cs.toArray, args := (bs ++ avs).toArray }) w := by
    simp [execOp, resolve, Deferred.ofValue, hx, ← ha]
  rw [this]
  refine hX _ _ ⟨⟨ρ.get, { target := .fn (.func f) cs.toArray, args := (bs ++ avs).toArray } :: ρ.ds⟩, ⟨hf.size, hf.get, ?_, fun h => by cases h⟩, k⟩
  show _ :: a.defers = _
  rw [hf.defs]
end ops
end
end Go.Proofs.YtpmkkhkphddfeaaDoor.SX
