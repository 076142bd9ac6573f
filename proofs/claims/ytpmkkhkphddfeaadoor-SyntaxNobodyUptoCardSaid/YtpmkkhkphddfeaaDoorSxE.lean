/- Calls, a function's beginning and end, reading rows, reslicing, strings. -/
import Derived.Test.YtpmkkhkphddfeaaDoorSxD
set_option linter.unusedVariables false
set_option linter.unusedSimpArgs false
namespace Go.Proofs.YtpmkkhkphddfeaaDoor.SX
open Go

/-! Beginning and end -/
def envOf : List Value → Nat → Value
  | [], _ => undef
  | v :: _, 0 => v
  | _ :: vs, t + 1 => envOf vs t
theorem envOf_get : ∀ (l : List Value) (t : Nat), envOf l t = l.getD t undef
  | [], t => by simp [envOf]
  | v :: vs, 0 => by simp [envOf]
  | v :: vs, t + 1 => by simp [envOf, envOf_get vs t]
def envE (l : List Value) : Env := ⟨envOf l, []⟩
/-- What the results are. -/
inductive Vals (P : Program) (ρ : Env) (w : World) : List ResultVar → List Value → Prop
  | nil : Vals P ρ w [] []
  | tmp {t : Tmp} {l : List ResultVar} {vs : List Value} (v : Value) (h : ρ t = v) (k : Vals P ρ w l vs) : Vals P ρ w (.tmp t :: l) (v :: vs)
  | cell {a : Tmp} {T : TypeId} {l : List ResultVar} {vs : List Value} {ad : Addr} (v : Value) (h : ρ a = .pointer (some ad)) (hl : (loadVar T ad).run P w = .ok v w) (k : Vals P ρ w l vs) : Vals P ρ w (.cell a T :: l) (v :: vs)
def one : List Value → Value
  | [v] => v
  | vs => .tuple vs.toArray
def Top (P : Program) (fn : Func) (R : Ending → World → Prop) : Exit → Env → World → Prop
  | .normal, ρ, w | .ret, ρ, w => ∃ vs, Vals P ρ w fn.results.toList vs ∧ R (.returned (one vs)) w
  | .panic c, _, w => R (.panicked c) w
  | .outgrown, _, w => R .outgrown w
  | _, _, _ => False
section top
variable {P : Program}
def resOf (tmps : Array Value) : ResultVar → Sem Value
  | .tmp t => pure (tmps.getD t undef)
  | .cell x t => do loadVar t (← asAddr (tmps.getD x undef))
theorem results_eq (fn : Func) (tmps : Array Value) : results fn tmps = (do let vs ← fn.results.mapM (resOf tmps); pure (if h : vs.size = 1 then vs[0] else .tuple vs)) := by
  unfold results
  congr 1
theorem vals_run {ρ : Env} {w : World} {n : Nat} {md : Md} {a : Act} (ha : Fr n md ρ a) : ∀ {l : List ResultVar} {vs : List Value}, Vals P ρ w l vs → (l.mapM (resOf a.tmps)).run P w = .ok vs w
  | _, _, .nil => by simp
  | _, _, .tmp v h k => by
    have ih := vals_run ha k
    have h1 := ha.get
    rw [List.mapM_cons]
    simp only [resOf, Sem.run_bind, Sem.run_pure, Result.andThen_ok, ih, h1, h]
  | _, _, .cell v h hl k => by
    have ih := vals_run ha k
    have h1 := ha.get
    rw [List.mapM_cons]
    simp only [resOf, Sem.run_bind, Sem.run_pure, Result.andThen_ok, ih, h1, h, asAddr, hl]
theorem results_run {fn : Func} {ρ : Env} {w : World} {n : Nat} {md : Md} {a : Act} {vs : List Value} (ha : Fr n md ρ a) (h : Vals P ρ w fn.results.toList vs) : (results fn a.tmps).run P w = .ok (one vs) w := by
  have hv := vals_run ha h
  rw [results_eq, Sem.run_bind]
  have hm : (fn.results.mapM (resOf a.tmps)).run P w = .ok vs.toArray w := by
    rw [← Array.toArray_toList (xs := fn.results), List.mapM_toArray, map_eq_pure_bind, Sem.run_bind, hv]
    rfl
  rw [hm]
  simp only [Result.andThen_ok, Sem.run_pure]
  cases vs with
  | nil => simp [one]
  | cons v l => cases l <;> simp [one]
theorem fr_start {fn : Func} {avs : List Value} {md : Md} (hn : Nat.ble avs.length fn.ntmps = true) : Fr fn.ntmps md (envE avs) { tmps := avs.toArray ++ Array.replicate (fn.ntmps - avs.toArray.size) undef, defers := [] } := by
  have hn' : avs.length ≤ fn.ntmps := Nat.le_of_ble_eq_true hn
  refine ⟨by simp; omega, fun t => ?_, rfl, fun _ => rfl⟩
  show _ = envOf avs t
  rw [envOf_get]
  simp only [Array.getD_eq_getD_getElem?, List.getD_eq_getElem?_getD]
  by_cases ht : t < avs.length
  · rw [Array.getElem?_append_left (by simpa using ht)]; simp
  · rw [Array.getElem?_append_right (by simpa using ht), List.getElem?_eq_none (Nat.le_of_not_lt ht), Array.getElem?_replicate]
    split <;> rfl
theorem calls {f : FuncId} {fn : Func} {c : Code} {w : World} {R : Ending → World → Prop} (avs : List Value) (hf : P.funcs[f]? = some fn) (hb : fn.body = some c) (hn : Nat.ble avs.length fn.ntmps = true)
    (h : WC P fn.ntmps .plain c (Top P fn R) (envE avs) w) : Calls P f avs.toArray w R := by
  refine calls_of_wp hf hb (Code.wp_mono (fun e a w q => ?_) (wpIn_wide.1 (h.out _ (fr_start hn))))
  cases e with
  | normal =>
    obtain ⟨ρ, ha, vs, hv, hR⟩ := q
    exact ⟨ha.defs.trans (ha.dd rfl), _, results_run ha hv, hR⟩
  | ret =>
    obtain ⟨ρ, ha, vs, hv, hR⟩ := q
    exact ⟨ha.defs.trans (ha.dd rfl), _, results_run ha hv, hR⟩
  | exit i => obtain ⟨ρ, ha, hk⟩ := q; exact hk.elim
  | goto l => obtain ⟨ρ, ha, hk⟩ := q; exact hk.elim
  | panic c => obtain ⟨ρ, ha, hk⟩ := q; rcases ha with ⟨h, _⟩ | ⟨_, h, _⟩; cases h; exact ⟨h rfl, hk⟩
  | outgrown => exact q.elim
end top

/-! Calls -/
section call
variable {P : Program} {n : Nat} {md : Md} {K : Exit → Env → World → Prop} {Kn : Env → World → Prop} {ρ : Env} {w : World} {d : Nat} {t : TypeId} {p : String} {e : Array Edge} {g : Option (Nat × Bool)}
theorem run_callFunc {f : FuncId} {fn : Func} {args : Array Value} (hf : P.funcs[f]? = some fn) (hn : (fn.name == "runtime.NumGoroutine") = false) (hb : fn.body.isNone = false) : (callFunc f args).run P w = .ok (.enter f args) w := by
  have hn' : fn.name ≠ "runtime.NumGoroutine" := by simpa using hn
  have hb' : fn.body ≠ none := by intro h; simp [h] at hb
  unfold callFunc
  simp [Sem.run, program, hf, hn', hb']
theorem run_call {dst : Option Tmp} {f : FuncId} {fn : Func} {xs : List Operand} {ts : Array TypeId} (avs : List Value) (hf : P.funcs[f]? = some fn) (hn : (fn.name == "runtime.NumGoroutine") = false) (hb : fn.body.isNone = false) (ha : xs.map (ev ρ) = avs) :
    (execOp (ev ρ) { dst := dst, op := .call { callee := .value (.func f), args := xs.toArray, argTypes := ts }, type := t, pos := p, after := e, guard := g }).run P w = .ok (.enter f avs.toArray) w := by
  have := run_callFunc (P := P) (w := w) (args := avs.toArray) hf hn hb
  simp [execOp, resolve, Deferred.ofValue, ev, invoke, ha, this]
/-- A call of a function that is known. -/
theorem OW.call {f : FuncId} {fn : Func} {xs : List Operand} {ts : Array TypeId} {R : Ending → World → Prop} (avs : List Value) (hd : Nat.blt d n = true) (hf : P.funcs[f]? = some fn) (hn : (fn.name == "runtime.NumGoroutine") = false) (hb : fn.body.isNone = false) (ha : xs.map (ev ρ) = avs)
    (hc : Calls P f avs.toArray w R) (k : ∀ e' w', R e' w' → ∃ v, e' = .returned v ∧ Kn (upd ρ d v) w') :
    OW P n md { dst := some d, op := .call { callee := .value (.func f), args := xs.toArray, argTypes := ts }, type := t, pos := p, after := e, guard := g } Kn K ρ w :=
  OW.callEnter hd (run_call avs hf hn hb ha) hc k
theorem OW.call0 {f : FuncId} {fn : Func} {xs : List Operand} {ts : Array TypeId} {R : Ending → World → Prop} (avs : List Value) (hf : P.funcs[f]? = some fn) (hn : (fn.name == "runtime.NumGoroutine") = false) (hb : fn.body.isNone = false) (ha : xs.map (ev ρ) = avs)
    (hc : Calls P f avs.toArray w R) (k : ∀ e' w', R e' w' → ∃ v, e' = .returned v ∧ Kn ρ w') :
    OW P n md { dst := none, op := .call { callee := .value (.func f), args := xs.toArray, argTypes := ts }, type := t, pos := p, after := e, guard := g } Kn K ρ w :=
  OW.callEnter0 (run_call avs hf hn hb ha) hc k
end call

/-! Reading rows -/
def ix {α : Type} (xs : List α) (i : Int) : Option α := if 0 ≤ i then xs[i.toNat]? else none
theorem ix_some {α : Type} {xs : List α} {i : Int} {x : α} (h : ix xs i = some x) : 0 ≤ i ∧ i < xs.length ∧ xs[i.toNat]? = some x := by
  unfold ix at h
  split at h
  · rename_i h0
    have := (List.getElem?_eq_some_iff.1 h).1
    exact ⟨h0, by omega, h⟩
  · cases h
theorem add_add (a : Addr) (i j : Nat) : (a.add i).add j = a.add (i + j) := by
  unfold Addr.add
  by_cases hi : i = 0
  · subst hi; simp
  · by_cases hj : j = 0
    · subst hj; simp [hi]
    · simp [hi, hj, Nat.add_assoc]
section rows
variable {α : Type} {r : Rep α} {G F : Nat → Prop} {w w' : World} {A : Option Addr} {xs : List α} {i : Int} {x : α}
/-- A part of what stands there. -/
theorem part_cells {w : World} {a : Addr} {c0 cs : List Value} {off n : Nat} (hc : ∀ m u, c0[m]? = some u → w.cell? (a.add m) = some u) (h : (c0.drop off).take n = cs) : ∀ j u, cs[j]? = some u → w.cell? ((a.add off).add j) = some u := by
  intro j u hj
  subst h
  rw [add_add]
  refine hc _ _ ?_
  rw [List.getElem?_take] at hj
  split at hj
  · rwa [List.getElem?_drop] at hj
  · cases hj
theorem Row.ix (h : Row r G F w A xs) (hv : SX.ix xs i = some x) :
    ∃ ad c, A = some ad ∧ 0 ≤ i ∧ i < xs.length ∧ c.length = r.sz ∧ r.R F w x c ∧ ∀ j u, c[j]? = some u → w.cell? ((ad.add (i.toNat * r.sz)).add j) = some u := by
  obtain ⟨h0, h1, hx⟩ := ix_some hv
  obtain ⟨ad, c, e, hl, hR, hc⟩ := h.get hx
  exact ⟨ad, c, e, h0, h1, hl, hR, fun j u hu => by rw [add_add]; exact hc j u hu⟩
theorem Row.ix1 (h : Row r G F w A xs) (hv : SX.ix xs i = some x) (hs : r.sz = 1) :
    ∃ ad v, A = some ad ∧ 0 ≤ i ∧ i < xs.length ∧ r.R F w x [v] ∧ w.cell? (ad.add (i.toNat * 1)) = some v := by
  obtain ⟨ad, c, e, h0, h1, hl, hR, hc⟩ := h.ix hv
  rw [hs] at hl hc
  match c, hl with
  | [v], _ => exact ⟨ad, v, e, h0, h1, hR, by have := hc 0 v (by simp); simpa [Addr.add] using this⟩
theorem Row.ixS {enc : α → Value} {h1 : ∀ x, (enc x).oneCell' = true} (h : Row (.scalar enc h1) G F w A xs) (hv : SX.ix xs i = some x) :
    ∃ ad, A = some ad ∧ 0 ≤ i ∧ i < xs.length ∧ w.cell? (ad.add (i.toNat * 1)) = some (enc x) := by
  obtain ⟨ad, v, e, h0, h2, hR, hc⟩ := h.ix1 hv rfl
  have : v = enc x := by have := (show [v] = [enc x] from hR); simpa using this
  subst this
  exact ⟨ad, e, h0, h2, hc⟩
theorem slice_open {v : Value} (h : (Rep.slice r).R F w xs [v]) : ∃ A c, v = .slice A xs.length c ∧ xs.length ≤ c ∧ Row r F F w A xs := by
  obtain ⟨A, c, e, hl, hr⟩ := h
  exact ⟨A, c, by simpa using e, hl, hr⟩
theorem slice_mk {A : Option Addr} {c : Nat} (hl : xs.length ≤ c) (h : Row r F F w A xs) : (Rep.slice r).R F w xs [.slice A xs.length c] := ⟨A, c, rfl, hl, h⟩
theorem Row.step {o o' : Tags} {M : List Nat} (h : Row r (fun b => o b = 0) (fun b => o b = 0) w A xs) (s : Step o w o' w' M) (hM : M.contains 0 = false) : Row r (fun b => o' b = 0) (fun b => o' b = 0) w' A xs := by
  have hk : ∀ b, o b = 0 → b < w.heap.size → w'.heap[b]? = w.heap[b]? := fun b hb hlt => s.keep b hlt (fun hm => by rw [hb, ← List.contains_iff_mem, hM] at hm; cases hm)
  exact (h.move hk hk).mono (fun b hb => by rw [s.own b hb.2]; exact hb.1) (fun b hb => by rw [s.own b hb.2]; exact hb.1)
theorem Row.pub {o : Tags} (h : Row r (fun b => o b = 0) (fun b => o b = 0) w A xs) (i : Nat) : Row r (fun b => SX.pub o i b = 0) (fun b => SX.pub o i b = 0) w A xs :=
  h.mono (fun b hb => pub_zero o i b hb) (fun b hb => pub_zero o i b hb)
/-- A piece of a row. -/
def cut {α : Type} (xs : List α) (lo hi : Int) : Option (List α) := if 0 ≤ lo ∧ lo ≤ hi ∧ hi ≤ xs.length then some ((xs.take hi.toNat).drop lo.toNat) else none
theorem cut_some {xs ys : List α} {lo hi : Int} (h : cut xs lo hi = some ys) : 0 ≤ lo ∧ lo ≤ hi ∧ hi ≤ xs.length ∧ ys = (xs.take hi.toNat).drop lo.toNat ∧ ys.length = hi.toNat - lo.toNat := by
  unfold cut at h
  split at h
  · rename_i hh
    injection h with h
    refine ⟨hh.1, hh.2.1, hh.2.2, h.symm, ?_⟩
    rw [← h, List.length_drop, List.length_take]; omega
  · cases h
def subA (A : Option Addr) (cap lo sz : Nat) : Option Addr := if cap = lo then A else A.map (·.add (lo * sz))
theorem Row.cut {ys : List α} {lo hi : Int} {c : Nat} (h : Row r G F w A xs) (hc : xs.length ≤ c) (hv : SX.cut xs lo hi = some ys) : Row r G F w (subA A c lo.toNat r.sz) ys := by
  obtain ⟨h0, h1, h2, hy, hl⟩ := cut_some hv
  refine ⟨by rw [hl]; have := h.1; omega, ?_⟩
  by_cases he : ys = []
  · exact .inl he
  · have hlt : lo.toNat < hi.toNat := by
      have : ys.length ≠ 0 := fun h => he (List.eq_nil_of_length_eq_zero h)
      omega
    rcases h.2 with rfl | ⟨ad, cells, e, hG, hb, hM, hcell⟩
    · simp at h2; omega
    · refine .inr ⟨ad.add (lo.toNat * r.sz), (cells.take (hi.toNat * r.sz)).drop (lo.toNat * r.sz), ?_, by rw [add_block]; exact hG, by rw [add_block]; exact hb, by rw [hy]; exact (hM.take _).drop _, fun j u hu => ?_⟩
      · rw [subA, if_neg (by omega), e]; rfl
      · rw [add_add]
        rw [List.getElem?_drop] at hu
        refine hcell _ _ ?_
        rw [List.getElem?_take] at hu
        split at hu
        · exact hu
        · cases hu
end rows

/-! Reslicing -/
section reslice
variable {P : Program} {ρ : Env} {w : World} {t : TypeId}
def lowOf (ρ : Env) : Option Operand → Int → Prop
  | none, i => i = 0
  | some x, i => ∃ k, ev ρ x = .int k i
def highOf (ρ : Env) (m : Nat) : Option Operand → Int → Prop
  | none, i => i = m
  | some x, i => ∃ k, ev ρ x = .int k i
theorem run_sliceBound {k : IntKind} {i : Int} {y : Nat} {code : BoundsCode} (h0 : 0 ≤ i) (h1 : i ≤ y) : (Instr.sliceBound (.int k i) y code).run P w = .ok i.toNat w := by
  simp [Instr.sliceBound, asIntOf, h0, h1]
theorem run_sliceBounds {isS : Bool} {len cap : Nat} {lo hi : Option Operand} {l h : Int} (hl : lowOf ρ lo l) (hh : highOf ρ len hi h) (h0 : 0 ≤ l) (h1 : l ≤ h) (h2 : h ≤ cap) :
    (Instr.sliceBounds isS len cap (lo.map (ev ρ)) (hi.map (ev ρ)) none).run P w = .ok (l.toNat, h.toNat, cap) w := by
  have hh' : ∀ code, (match hi.map (ev ρ), (none : Option Value) with | some v, some _ => Instr.sliceBound v cap .slice3B | some v, none => Instr.sliceBound v cap code | none, none => pure len | none, some _ => stuck "Slice: max without high").run P w = .ok h.toNat w := by
    intro code
    cases hi with
    | none => obtain rfl : h = len := hh; simp
    | some x => obtain ⟨k, hk⟩ := hh; simp [hk, run_sliceBound (P := P) (w := w) (k := k) (show 0 ≤ h by omega) h2]
  have hl' : ∀ code, (match lo.map (ev ρ) with | some v => Instr.sliceBound v h.toNat code | none => pure 0).run P w = .ok l.toNat w := by
    intro code
    cases lo with
    | none => obtain rfl : l = 0 := hl; simp
    | some x => obtain ⟨k, hk⟩ := hl; simp [hk, run_sliceBound (P := P) (w := w) (k := k) (y := h.toNat) h0 (by omega)]
  unfold Instr.sliceBounds
  cases hi with
  | none =>
    obtain rfl : h = len := hh
    cases lo with
    | none => obtain rfl : l = 0 := hl; simp
    | some x => obtain ⟨k, hk⟩ := hl; simp [hk, run_sliceBound (P := P) (w := w) (k := k) (y := len) h0 (by omega)]
  | some y =>
    obtain ⟨k2, hk2⟩ := hh
    cases lo with
    | none => obtain rfl : l = 0 := hl; simp [hk2, run_sliceBound (P := P) (w := w) (k := k2) (show 0 ≤ h by omega) h2]
    | some x => obtain ⟨k, hk⟩ := hl; simp [hk, hk2, run_sliceBound (P := P) (w := w) (k := k2) (show 0 ≤ h by omega) h2, run_sliceBound (P := P) (w := w) (k := k) (y := h.toNat) h0 (by omega)]
theorem ex_slice {T E : TypeId} {x : Operand} {A : Option Addr} {m c sz : Nat} {lo hi : Option Operand} {l h : Int} (hx : ev ρ x = .slice A m c) (hT : P.underlying T = some (.slice E)) (hs : (P.info? E).map (·.size) = some sz)
    (hl : lowOf ρ lo l) (hh : highOf ρ m hi h) (h0 : 0 ≤ l) (h1 : l ≤ h) (h2 : h ≤ c) : Ex P ρ (.slice T x lo hi none) t w (.slice (subA A c l.toNat sz) (h.toNat - l.toNat) (c - l.toNat)) w := fun _ _ _ _ => by
  simp [execOp, hx, Instr.sliceAt, Instr.slice, run_underlying hT, run_sliceBounds hl hh h0 h1 h2, run_sizeOf' hs, subA]
theorem extract_enc (s : List UInt8) (l h : Nat) : (⟨s.toArray⟩ : ByteArray).extract l h = ⟨((s.take h).drop l).toArray⟩ := by
  apply ByteArray.ext
  simp [ByteArray.data_extract, List.extract_toArray, List.drop_take]
theorem ex_slice_str {T : TypeId} {x : Operand} {s s' : List UInt8} {lo hi : Option Operand} {l h : Int} (hx : ev ρ x = encS s) (hT : P.underlying T = some .string)
    (hl : lowOf ρ lo l) (hh : highOf ρ s.length hi h) (hc : cut s l h = some s') : Ex P ρ (.slice T x lo hi none) t w (encS s') w := fun _ _ _ _ => by
  obtain ⟨h0, h1, h2, hy, _⟩ := cut_some hc
  have hb := run_sliceBounds (P := P) (w := w) (isS := false) (len := s.length) (cap := s.length) hl hh h0 h1 (by omega)
  simp only [execOp, hx, encS, Instr.sliceAt, Instr.slice, Sem.run_bind, run_underlying hT, Result.andThen_ok, size_enc, hb]
  simp [hb, extract_enc, hy, encS]
end reslice

/-! Strings, bools, bits -/
section bins
variable {P : Program}
theorem bin_eql_str {a b : List UInt8} {T : TypeId} : Bin P .eql T (encS a) (encS b) (.bool (a == b)) := fun x y w => by simp [eqGuard, binOp, encS, Op.stringOp]
theorem bin_neq_str {a b : List UInt8} {T : TypeId} : Bin P .neq T (encS a) (encS b) (.bool (!(a == b))) := fun x y w => by simp [eqGuard, binOp, encS, Op.stringOp]
theorem append_enc (a b : List UInt8) : (⟨a.toArray⟩ : ByteArray) ++ ⟨b.toArray⟩ = ⟨(a ++ b).toArray⟩ := by
  apply ByteArray.ext
  simp
theorem bin_add_str {a b : List UInt8} {T : TypeId} (h : a.length + b.length ≤ 9223372036854775807) : Bin P .add T (encS a) (encS b) (encS (a ++ b)) := fun x y w => by
  have h1 : ¬ (((a.length + b.length : Nat) : Int) > IntKind.i64.max) := by
    have : IntKind.i64.max = 9223372036854775807 := by decide
    rw [this]; omega
  simp only [eqGuard, binOp, encS, Op.stringOp, size_enc, if_neg h1]
  simp [append_enc]
theorem run_equalIn_bool (d : Nat) {a b : Bool} {T : TypeId} (hT : P.underlying T = some .bool) (w : World) : (Op.equalIn (d + 1) T (.bool a) (.bool b)).run P w = .ok (a == b) w := by
  simp [Op.equalIn, run_underlying hT]
theorem bin_eql_bool {a b : Bool} {T : TypeId} (hT : P.underlying T = some .bool) : Bin P .eql T (.bool a) (.bool b) (.bool (a == b)) := fun x y w => by
  have h := run_equalIn_bool (P := P) 9999 (a := a) (b := b) hT w
  simp only [binOp, eqGuard, Op.equal, Op.maxDepth]
  simp [h]
theorem bin_neq_bool {a b : Bool} {T : TypeId} (hT : P.underlying T = some .bool) : Bin P .neq T (.bool a) (.bool b) (.bool (!(a == b))) := fun x y w => by
  have h := run_equalIn_bool (P := P) 9999 (a := a) (b := b) hT w
  simp only [binOp, eqGuard, Op.equal, Op.maxDepth]
  simp [h]
end bins
end Go.Proofs.YtpmkkhkphddfeaaDoor.SX
