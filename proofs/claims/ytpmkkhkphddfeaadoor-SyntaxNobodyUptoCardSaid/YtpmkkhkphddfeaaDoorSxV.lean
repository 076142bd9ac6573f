/- Panics; function values with what is bound and what is caught; rows made; parts of elements written. -/
import Derived.Test.YtpmkkhkphddfeaaDoorSxU
import Derived.Laws.MakeOwn
set_option linter.unusedVariables false
set_option linter.unusedSimpArgs false
namespace Go.Proofs.YtpmkkhkphddfeaaDoor.SX
open Go Go.RowKit
theorem Own.unOf {V L J : List Nat} {o o' : Tags} {w w' : World} (k : Nat) {α : Type} {r : Rep α} {E i : Nat} {v : Value} {xs : List α} {M : List Nat} (hf : ∀ {F F' : Nat → Prop} {w : World} {x : α} {cs : List Value}, r.R F w x cs → r.R F' w x cs) (h : Own r E (2 + k) o' w' v xs) (s : Step (SX.vw V L o) w o' w' M) (hk : Nat.blt k L.length = true) (hk6 : Nat.ble k 16 = true) (hi : L.getD k 0 = i) : Own r E i (SX.un o w o' L J) w' v xs := by
  obtain ⟨cells, hown, ht, hm⟩ := h
  refine ⟨cells, hown, fun b hb => un_obj s hk hk6 hi (ht b hb), ?_⟩
  clear hown ht
  induction xs generalizing cells with
  | nil => exact hm
  | cons x xs ih =>
    obtain ⟨c0, c1, rfl, h0, h1⟩ := hm
    exact ⟨c0, c1, rfl, hf h0, ih c1 h1⟩
theorem Bd.unOf {T E i b : Nat} {o o' : Tags} {w w' : World} {xs : List UInt8} {M V L J : List Nat} (k : Nat) (h : Bd T E (2 + k) o' w' b xs) (s : Step (SX.vw V L o) w o' w' M) (hk : Nat.blt k L.length = true) (hk6 : Nat.ble k 16 = true) (hi : L.getD k 0 = i) : Bd T E i (SX.un o w o' L J) w' b xs := by
  obtain ⟨p, v, hB, hp, hO⟩ := h
  exact ⟨p, v, Bk.unO k hB s hk hk6 hi, hp, Own.unOf k (fun h => h) hO s hk hk6 hi⟩
def pc (v : Value) : List PanicEntry := [{ v, recovered := false }]
section call
variable {P : Program} {n : Nat} {md : Md} {K : Exit → Env → World → Prop} {Kn : Env → World → Prop} {ρ : Env} {w : World} {d : Nat} {t : TypeId} {p : String} {e : Array Edge} {g : Option (Nat × Bool)}
theorem OW.callEnterP {d : Nat} {op : Op} {f : FuncId} {args : Array Value} {R : Ending → World → Prop} (hd : Nat.blt d n = true)
    (hr : (execOp (ev ρ) { dst := some d, op := op, type := t, pos := p, after := e, guard := g }).run P w = .ok (.enter f args) w)
    (hc : Calls P f args w R)
    (k : ∀ e' w', R e' w' → (∃ v, e' = .returned v ∧ Kn (upd ρ d v) w') ∨ ∃ c, e' = .panicked c ∧ K (.panic c) (ρ.gone md) w') :
    OW P n md { dst := some d, op := op, type := t, pos := p, after := e, guard := g } Kn K ρ w := by
  refine ⟨fun a ha X hX => ?_⟩
  unfold Oper.wp
  rw [ha.eval, hr]
  refine Calls.mono hc fun e' w' hR => ?_
  rcases k e' w' hR with ⟨v, rfl, hk⟩ | ⟨c, rfl, hk⟩
  · exact hX _ _ ⟨_, ha.put hd v, hk⟩
  · exact ⟨_, atP_gone ha, hk⟩
theorem OW.callEnterP0 {op : Op} {f : FuncId} {args : Array Value} {R : Ending → World → Prop}
    (hr : (execOp (ev ρ) { dst := none, op := op, type := t, pos := p, after := e, guard := g }).run P w = .ok (.enter f args) w)
    (hc : Calls P f args w R)
    (k : ∀ e' w', R e' w' → (∃ v, e' = .returned v ∧ Kn ρ w') ∨ ∃ c, e' = .panicked c ∧ K (.panic c) (ρ.gone md) w') :
    OW P n md { dst := none, op := op, type := t, pos := p, after := e, guard := g } Kn K ρ w := by
  refine ⟨fun a ha X hX => ?_⟩
  unfold Oper.wp
  rw [ha.eval, hr]
  refine Calls.mono hc fun e' w' hR => ?_
  rcases k e' w' hR with ⟨v, rfl, hk⟩ | ⟨c, rfl, hk⟩
  · exact hX _ _ ⟨_, ha, hk⟩
  · exact ⟨_, atP_gone ha, hk⟩
/-- A function value with its receiver bound, and with what it has caught. -/
theorem run_callF {dst : Option Tmp} {f : FuncId} {fn : Func} {x : Operand} {xs : List Operand} {ts : Array TypeId} {bs cs : List Value} (hx : ev ρ x = .func (.func f) bs.toArray cs.toArray) (avs : List Value) (hf : P.funcs[f]? = some fn) (hn : (fn.name == "runtime.NumGoroutine") = false) (hb : fn.body.isNone = false) (ha : xs.map (ev ρ) = avs) :
    (execOp (ev ρ) { dst := dst, op := .call { callee := .value x, args := xs.toArray, argTypes := ts }, type := t, pos := p, after := e, guard := g }).run P w = .ok (.enter f (bs ++ avs ++ cs).toArray) w := by
  have := run_callFunc (P := P) (w := w) (args := (bs ++ avs ++ cs).toArray) hf hn hb
  simp [execOp, resolve, Deferred.ofValue, hx, invoke, ha] at this ⊢
  exact this
theorem OW.callP {f : FuncId} {fn : Func} {xs : List Operand} {ts : Array TypeId} {R : Ending → World → Prop} (avs : List Value) (hd : Nat.blt d n = true) (hf : P.funcs[f]? = some fn) (hn : (fn.name == "runtime.NumGoroutine") = false) (hb : fn.body.isNone = false) (ha : xs.map (ev ρ) = avs)
    (hc : Calls P f avs.toArray w R) (k : ∀ e' w', R e' w' → (∃ v, e' = .returned v ∧ Kn (upd ρ d v) w') ∨ ∃ c, e' = .panicked c ∧ K (.panic c) (ρ.gone md) w') :
    OW P n md { dst := some d, op := .call { callee := .value (.func f), args := xs.toArray, argTypes := ts }, type := t, pos := p, after := e, guard := g } Kn K ρ w :=
  OW.callEnterP hd (run_call avs hf hn hb ha) hc k
theorem OW.callP0 {f : FuncId} {fn : Func} {xs : List Operand} {ts : Array TypeId} {R : Ending → World → Prop} (avs : List Value) (hf : P.funcs[f]? = some fn) (hn : (fn.name == "runtime.NumGoroutine") = false) (hb : fn.body.isNone = false) (ha : xs.map (ev ρ) = avs)
    (hc : Calls P f avs.toArray w R) (k : ∀ e' w', R e' w' → (∃ v, e' = .returned v ∧ Kn ρ w') ∨ ∃ c, e' = .panicked c ∧ K (.panic c) (ρ.gone md) w') :
    OW P n md { dst := none, op := .call { callee := .value (.func f), args := xs.toArray, argTypes := ts }, type := t, pos := p, after := e, guard := g } Kn K ρ w :=
  OW.callEnterP0 (run_call avs hf hn hb ha) hc k
theorem OW.callF {f : FuncId} {fn : Func} {x : Operand} {xs : List Operand} {ts : Array TypeId} {R : Ending → World → Prop} (bs cs : List Value) (hx : ev ρ x = .func (.func f) bs.toArray cs.toArray) (avs : List Value) (hd : Nat.blt d n = true) (hf : P.funcs[f]? = some fn) (hn : (fn.name == "runtime.NumGoroutine") = false) (hb : fn.body.isNone = false) (ha : xs.map (ev ρ) = avs)
    (hc : Calls P f (bs ++ avs ++ cs).toArray w R) (k : ∀ e' w', R e' w' → ∃ v, e' = .returned v ∧ Kn (upd ρ d v) w') :
    OW P n md { dst := some d, op := .call { callee := .value x, args := xs.toArray, argTypes := ts }, type := t, pos := p, after := e, guard := g } Kn K ρ w :=
  OW.callEnter hd (run_callF hx avs hf hn hb ha) hc k
theorem OW.callF0 {f : FuncId} {fn : Func} {x : Operand} {xs : List Operand} {ts : Array TypeId} {R : Ending → World → Prop} (bs cs : List Value) (hx : ev ρ x = .func (.func f) bs.toArray cs.toArray) (avs : List Value) (hf : P.funcs[f]? = some fn) (hn : (fn.name == "runtime.NumGoroutine") = false) (hb : fn.body.isNone = false) (ha : xs.map (ev ρ) = avs)
    (hc : Calls P f (bs ++ avs ++ cs).toArray w R) (k : ∀ e' w', R e' w' → ∃ v, e' = .returned v ∧ Kn ρ w') :
    OW P n md { dst := none, op := .call { callee := .value x, args := xs.toArray, argTypes := ts }, type := t, pos := p, after := e, guard := g } Kn K ρ w :=
  OW.callEnter0 (run_callF hx avs hf hn hb ha) hc k
theorem OW.callFP {f : FuncId} {fn : Func} {x : Operand} {xs : List Operand} {ts : Array TypeId} {R : Ending → World → Prop} (bs cs : List Value) (hx : ev ρ x = .func (.func f) bs.toArray cs.toArray) (avs : List Value) (hd : Nat.blt d n = true) (hf : P.funcs[f]? = some fn) (hn : (fn.name == "runtime.NumGoroutine") = false) (hb : fn.body.isNone = false) (ha : xs.map (ev ρ) = avs)
    (hc : Calls P f (bs ++ avs ++ cs).toArray w R) (k : ∀ e' w', R e' w' → (∃ v, e' = .returned v ∧ Kn (upd ρ d v) w') ∨ ∃ c, e' = .panicked c ∧ K (.panic c) (ρ.gone md) w') :
    OW P n md { dst := some d, op := .call { callee := .value x, args := xs.toArray, argTypes := ts }, type := t, pos := p, after := e, guard := g } Kn K ρ w :=
  OW.callEnterP hd (run_callF hx avs hf hn hb ha) hc k
theorem OW.callFP0 {f : FuncId} {fn : Func} {x : Operand} {xs : List Operand} {ts : Array TypeId} {R : Ending → World → Prop} (bs cs : List Value) (hx : ev ρ x = .func (.func f) bs.toArray cs.toArray) (avs : List Value) (hf : P.funcs[f]? = some fn) (hn : (fn.name == "runtime.NumGoroutine") = false) (hb : fn.body.isNone = false) (ha : xs.map (ev ρ) = avs)
    (hc : Calls P f (bs ++ avs ++ cs).toArray w R) (k : ∀ e' w', R e' w' → (∃ v, e' = .returned v ∧ Kn ρ w') ∨ ∃ c, e' = .panicked c ∧ K (.panic c) (ρ.gone md) w') :
    OW P n md { dst := none, op := .call { callee := .value x, args := xs.toArray, argTypes := ts }, type := t, pos := p, after := e, guard := g } Kn K ρ w :=
  OW.callEnterP0 (run_callF hx avs hf hn hb ha) hc k
theorem OW.panic {x : Operand} {dst : Option Tmp} {T : TypeId} {v : Value} (hx : ev ρ x = .iface T v) (k : K (.panic (pc (.iface T v))) (ρ.gone md) w) :
    OW P n md { dst := dst, op := .panic x, type := t, pos := p, after := e, guard := g } Kn K ρ w := by
  refine ⟨fun a ha X hX => ?_⟩
  unfold Oper.wp
  rw [ha.eval]
  have : (execOp (ev ρ) { dst := dst, op := .panic x, type := t, pos := p, after := e, guard := g }).run P w = .halt (.panic (.iface T v)) w := by
    simp [execOp, hx, Instr.panic, goPanic, Sem.run]
  rw [this]
  exact ⟨_, atP_gone ha, k⟩
theorem ex_makeInterface {T : TypeId} {x : Operand} {v : Value} {ds : TypeDesc} (hx : ev ρ x = v) (hT : P.underlying T = some ds) (hi : (match ds with | .interface _ => true | _ => false) = false) : Ex P ρ (.makeInterface T x) t w (.iface T v) w := fun _ _ _ _ => by
  simp only [execOp, hx, Instr.makeInterface]
  cases ds <;> simp_all [run_underlying hT]
theorem ex_makeFuncB {fn : Fn} {first captured : Array Operand} (bs vs : List Value) (h : first.toList.map (ev ρ) = bs) (h' : captured.toList.map (ev ρ) = vs) : Ex P ρ (.makeFunc fn first captured) t w (.func fn bs.toArray vs.toArray) w := by
  have e1 : captured.map (ev ρ) = vs.toArray := by rw [← h']; apply Array.ext'; simp
  have e2 : first.map (ev ρ) = bs.toArray := by rw [← h]; apply Array.ext'; simp
  have := ex_makeFunc (P := P) (ρ := ρ) (w := w) (t := t) (fn := fn) (first := first) (captured := captured)
  rw [e1, e2] at this
  exact this
/-- Two may come up, in either order. -/
theorem WA.both {ops : Array Oper} {L : Nat} {S : World → Prop} {m : Nat} {listed : Array Bool} (i j : Nat) {o1 o2 : Oper} (hr : Region.ready .any ops listed = [i, j]) (hi : ops[i]? = some o1) (hg : o1.guard = none) (hj : ops[j]? = some o2) (hg2 : o2.guard = none)
    (h1 : OW P n md o1 (fun ρ' w' => S w' ∧ WA P n md ops L S m (listed.setIfInBounds i true) K ρ' w') K ρ w)
    (h2 : OW P n md o2 (fun ρ' w' => S w' ∧ WA P n md ops L S m (listed.setIfInBounds j true) K ρ' w') K ρ w) (hk : md.kp = false := by rfl) : WA P n md ops L S (m + 1) listed K ρ w := by
  refine ⟨fun a ha => wpAnyL_all hr (by simp) fun q hq => ?_, hk⟩
  rcases (by simpa using hq : q = i ∨ q = j) with rfl | rfl
  · unfold wpOp
    simp only [hi]
    rw [if_pos (by simp [Region.wanted, hg])]
    exact .inl (h1.out a ha _ (fun a' w' ⟨ρ', hf, hS, hk⟩ => ⟨.inr hS, hk.out _ hf⟩))
  · unfold wpOp
    simp only [hj]
    rw [if_pos (by simp [Region.wanted, hg2])]
    exact .inl (h2.out a ha _ (fun a' w' ⟨ρ', hf, hS, hk⟩ => ⟨.inr hS, hk.out _ hf⟩))
end call
/-! A row that is read where another one owns it -/
section borrow
variable {α : Type} {r : Rep α} {A : Option Addr} {xs : List α} {o o' : Tags} {w w' : World} {M V L : List Nat} {t : Nat}
theorem Row.stepB (h : Row r (fun b => o b = t) (fun b => o b = 0) w A xs) (s : Step o w o' w' M) (ht : M.contains t = false) (hM : M.contains 0 = false) : Row r (fun b => o' b = t) (fun b => o' b = 0) w' A xs := by
  have hk : ∀ b, o b = 0 → b < w.heap.size → w'.heap[b]? = w.heap[b]? := fun b hb hlt => s.keep b hlt (fun hm => by rw [hb, ← List.contains_iff_mem, hM] at hm; cases hm)
  have hk2 : ∀ b, o b = t → b < w.heap.size → w'.heap[b]? = w.heap[b]? := fun b hb hlt => s.keep b hlt (fun hm => by rw [hb, ← List.contains_iff_mem, ht] at hm; cases hm)
  exact (h.move hk2 hk).mono (fun b hb => by rw [s.own b hb.2]; exact hb.1) (fun b hb => by rw [s.own b hb.2]; exact hb.1)
theorem Row.pubB (h : Row r (fun b => o b = t) (fun b => o b = 0) w A xs) (i : Nat) (hi : Nat.beq t i = false) : Row r (fun b => SX.pub o i b = t) (fun b => SX.pub o i b = 0) w A xs :=
  h.mono (fun b hb => pub_other hb hi) (fun b hb => pub_zero o i b hb)
theorem Row.renB {i j : Nat} (h : Row r (fun b => o b = t) (fun b => o b = 0) w A xs) (ht : Nat.beq t i = false) (hi : Nat.beq 0 i = false) : Row r (fun b => SX.ren o i j b = t) (fun b => SX.ren o i j b = 0) w A xs :=
  h.mono (fun b hb => ren_other hb ht) (fun b hb => ren_other hb hi)
theorem Row.vwB (h : Row r (fun b => o b = t) (fun b => o b = 0) w A xs) (ht : V.contains t = true) (hV : V.contains 0 = true) : Row r (fun b => SX.vw V L o b = 0) (fun b => SX.vw V L o b = 0) w A xs :=
  h.mono (fun b hb => by simp only [SX.vw, hb, vwt_in ht]) (fun b hb => by simp only [SX.vw, hb, vwt_zero hV])
end borrow
section make
variable {P : Program} {n : Nat} {md : Md} {K : Exit → Env → World → Prop} {Kn : Env → World → Prop} {ρ : Env} {w : World} {o : Tags} {d : Nat} {t : TypeId} {p : String} {e : Array Edge} {g : Option (Nat × Bool)}
theorem many_zero {α : Type} {enc : α → Value} {h1 : ∀ x, (enc x).oneCell' = true} {F : Nat → Prop} (z : α) : ∀ m, Many (.scalar enc h1) F w (List.replicate m z) (List.replicate m (enc z))
  | 0 => rfl
  | m + 1 => by
    rw [List.replicate_succ, List.replicate_succ]
    exact ⟨[enc z], List.replicate m (enc z), rfl, rfl, many_zero z m⟩
/-- A row of zeros of scalars. -/
theorem OW.makeSlice {α : Type} {enc : α → Value} {h1 : ∀ x, (enc x).oneCell' = true} {T E : TypeId} {x y : Operand} {kl kc : IntKind} {m : Int} {z : α} {bz : Nat} (i : Nat) {o0 : Tags} {w0 : World} {TT : List Nat} (HF : Fm o0 w0 o w TT) (hd : Nat.blt d n = true)
    (hT : P.underlying T = some (.slice E)) (hi : (P.info? E).map (fun i => (i.zero, i.size, i.bytes)) = some (some (enc z), 1, bz)) (hb1 : Nat.ble bz 16 = true) (hx : ev ρ x = .int kl m) (hy : ev ρ y = .int kc m) (h0 : 0 ≤ m) (hm : m ≤ 1000000000000)
    (k : ∀ o' w' v, Step o w o' w' [] → Own (.scalar enc h1) E i o' w' v (List.replicate m.toNat z) → Kn (upd ρ d v) w') :
    OW P n md { dst := some d, op := .makeSlice T x y, type := t, pos := p, after := e, guard := g } Kn K ρ w := by
  obtain ⟨info, hinfo, hi2⟩ := Option.map_eq_some_iff.1 hi
  simp only [Prod.mk.injEq] at hi2
  obtain ⟨hz, hs, hbz⟩ := hi2
  have hb1' : bz ≤ 16 := Nat.le_of_ble_eq_true hb1
  have hr := Go.run_make (P := P) w T E info (enc z) hT hinfo hz kl kc m m h0 (Int.le_refl _) (by rw [hbz]; have h16 : (bz : Int) * m ≤ 16 * m := Int.mul_le_mul_of_nonneg_right (by omega) h0; omega) (by omega)
  rw [hs, Nat.mul_one] at hr
  have hcell : (enc z).cells = #[enc z] := by
    have := h1 z
    cases h : enc z <;> simp_all [Value.cells, Value.oneCell']
  have hmc : madeCells (enc z).cells m.toNat = (List.replicate m.toNat (enc z)).toArray := by
    rw [hcell]
    apply Array.ext'
    unfold madeCells
    apply List.ext_getElem
    · simp
    · intro i a b
      simp [Nat.mod_one]
  rw [hmc] at hr
  have hB : Bk (fun b => bif Nat.beq b w.heap.size then i else o b) (w.alloc (.cells (List.replicate m.toNat (enc z)).toArray E)) i w.heap.size (List.replicate m.toNat (enc z)) E := ⟨by simp, heap_alloc_new w _⟩
  refine OW.val (v := .slice (some ⟨w.heap.size, 0, none⟩) m.toNat m.toNat) hd ?_ (k _ _ _ (step_alloc o w i _ _) (hB.own (c := 0) (many_zero z m.toNat) (List.length_replicate ..) (by unfold maxLen; omega)))
  simp [execOp, hx, hy, hr]
end make
section part
variable {P : Program} {n : Nat} {md : Md} {K : Exit → Env → World → Prop} {Kn : Env → World → Prop} {ρ : Env} {w : World} {o : Tags} {d : Nat} {t : TypeId} {p : String} {e : Array Edge} {g : Option (Nat × Bool)}
theorem splice_part {cur c vs : List Value} {J off : Nat} (hc : (cur.drop J).take c.length = c) (hl : J + c.length ≤ cur.length) (ho : off + vs.length ≤ c.length) : splice cur (J + off) vs = splice cur J (splice c off vs) := by
  have e1 : cur = cur.take J ++ (c ++ cur.drop (J + c.length)) := by
    rw [← List.drop_drop]
    conv => lhs; rw [← List.take_append_drop J cur, ← List.take_append_drop c.length (cur.drop J), hc]
  have hJ : (cur.take J).length = J := by rw [List.length_take]; omega
  generalize cur.take J = a at e1 hJ
  generalize cur.drop (J + c.length) = b at e1
  subst e1
  subst hJ
  have e2 : (splice c off vs).length = c.length := splice_len ho
  unfold splice at e2 ⊢
  rw [e2, Nat.add_assoc, List.take_length_add_append, List.drop_length_add_append, List.take_append_of_le_length (by omega), List.drop_append_of_le_length (by omega), List.drop_length_add_append, List.drop_left, List.take_left]
  simp [List.append_assoc]
theorem OW.storeElemPart {α : Type} {r : Rep α} {E i c : Nat} {T : TypeId} {x y : Operand} {v : Value} {xs : List α} {ad : Addr} {j : Int} {y' : α} {off : Nat} {c0 vs : List Value} (hO : Own r E i o w v xs) (hv : v = .slice (some ad) xs.length c)
    (hx : ev ρ x = .pointer (some ((ad.add (j.toNat * r.sz)).add off))) (h0 : 0 ≤ j) (h1 : j < xs.length) (hy : (ev ρ y).cells = vs.toArray) (hs : (P.info? T).map (·.size) = some vs.length)
    (hc : ∀ m u, c0[m]? = some u → w.cell? ((ad.add (j.toNat * r.sz)).add m) = some u) (hcl : c0.length = r.sz) (ho : off + vs.length ≤ c0.length) (hv1 : ∀ u ∈ vs, u.oneCell' = true) (hR : r.R (fun b => o b = 0) w y' (splice c0 off vs)) (hi : i ≠ 0)
    (k : ∀ w', Step o w o w' [i] → Own r E i o w' v (xs.set j.toNat y') → Kn ρ w') : OW P n md { dst := none, op := .store T x y, type := t, pos := p, after := e, guard := g } Kn K ρ w := by
  obtain ⟨cells, hown, ht, hM⟩ := hO
  rcases hown.2 with ⟨rfl, h00⟩ | ⟨gb, cap, cur, rfl, hbg, hg, hnc, hcm, hcs, htake⟩
  · cases hv
  injection hv with e1 e2 e3
  injection e1 with e1
  subst e1
  have hlen := hM.len
  have hvl := r.len hR
  have hjn : j.toNat < xs.length := by omega
  have hmul : (j.toNat + 1) * r.sz ≤ xs.length * r.sz := Nat.mul_le_mul_right _ hjn
  rw [Nat.add_mul, Nat.one_mul] at hmul
  have hfit : j.toNat * r.sz + (splice c0 off vs).length ≤ cells.length := by
    rw [hlen, hvl]; exact hmul
  have hcur : cells.length ≤ cur.size := by rw [← htake]; simp [List.length_take]; omega
  have hadd : ∀ q, ((⟨gb, 0, none⟩ : Addr).add (j.toNat * r.sz)).add q = ⟨gb, j.toNat * r.sz + q, none⟩ := fun q => by rw [add_add, add_plain']; simp
  have hseg : (cur.toList.drop (j.toNat * r.sz)).take c0.length = c0 := by
    apply List.ext_getElem?
    intro m
    by_cases hm : m < c0.length
    · have h3 := hc m c0[m] (List.getElem?_eq_getElem hm)
      rw [hadd] at h3
      rw [List.getElem?_take_of_lt hm, List.getElem?_drop, List.getElem?_eq_getElem hm]
      have h4 : w.cell? ⟨gb, j.toNat * r.sz + m, none⟩ = cur[j.toNat * r.sz + m]? := by simp [World.cell?, hg]
      rw [h4] at h3
      rw [← h3]
      simp
    · rw [List.getElem?_eq_none (by rw [List.length_take]; omega), List.getElem?_eq_none (by omega)]
  have hcz : cur.toList.length = cur.size := by simp
  have hJl : j.toNat * r.sz + c0.length ≤ cur.toList.length := by rw [hcl]; omega
  have hsp := splice_part (vs := vs) (off := off) hseg hJl ho
  have hr := run_storeCells' (P := P) gb (j.toNat * r.sz + off) E vs 0 w cur.toList (by simpa using hg) (by simp; omega) hv1
  have hlt := (Array.getElem?_eq_some_iff.1 hg).1
  rw [hadd] at hx
  rw [Nat.add_zero, hsp] at hr
  have hst : Step o w o { w with heap := w.heap.setIfInBounds gb (.cells (splice cur.toList (j.toNat * r.sz) (splice c0 off vs)).toArray E (0, 0)) } [i] := step_set (ht gb rfl)
  refine OW.unit (w' := { w with heap := w.heap.setIfInBounds gb (.cells (splice cur.toList (j.toNat * r.sz) (splice c0 off vs)).toArray E (0, 0)) }) ?_ (k _ hst ?_)
  · simp [execOp, hx, Instr.storeAt, Instr.sureAddr, storeVar, hy, run_sizeOf' hs, hr]
  · refine ⟨splice cells (j.toNat * r.sz) (splice c0 off vs), ⟨?_, .inr ⟨gb, cap, (splice cur.toList (j.toNat * r.sz) (splice c0 off vs)).toArray, ?_, Nat.zero_le _, by simp [hlt], ?_, hcm, ?_, ?_⟩⟩, ht, ?_⟩
    · rw [splice_len hfit, List.length_set, hlen]
    · rw [List.length_set]
    · rw [List.length_set]; exact hnc
    · rw [List.size_toArray, splice_len (by rw [hvl]; omega), hcz]; exact hcs
    · simp only [List.length_set]
      exact take_splice hlen.symm htake hfit
    · refine ((hM.move (w' := { w with heap := w.heap.setIfInBounds gb (.cells (splice cur.toList (j.toNat * r.sz) (splice c0 off vs)).toArray E (0, 0)) }) ?_).mono (fun b hb => hb.1)).set ?_ _ hjn
      · exact fun b hb hlt' => hst.keep b hlt' (by intro hm; simp at hm; exact hi (hm.symm.trans hb))
      · exact Rep.step (V := fun q => q = 0) hst (by rintro q rfl hm; simp at hm; exact hi hm.symm) hR
end part
end Go.Proofs.YtpmkkhkphddfeaaDoor.SX
