/- The explicit rules of a walk: code, regions and operations over an environment of temporaries (a function), one rule an operation. -/
import Derived.WalkKit
import Derived.OrdersHeld
set_option linter.unusedVariables false
namespace Go.Proofs.YtjhmhdedonibbaaDoor.SX
open Go

abbrev Env := Nat → Value
def upd (ρ : Env) (d : Nat) (v : Value) : Env := fun i => bif Nat.beq i d then v else ρ i
def ev (ρ : Env) : Operand → Value
  | .tmp t => ρ t
  | .const v => v
  | .global g => .pointer (some ⟨g, 0, none⟩)
  | .func f => .func (.func f) #[] #[]

/-- The frame's temporaries are the environment's; nothing is deferred. -/
structure Fr (n : Nat) (ρ : Env) (a : Act) : Prop where
  size : a.tmps.size = n
  get : ∀ t, a.tmps.getD t undef = ρ t
  defs : a.defers = []

theorem Fr.eval {n : Nat} {ρ : Env} {a : Act} (h : Fr n ρ a) : a.eval = ev ρ := by
  funext x
  cases x with
  | tmp t => exact h.get t
  | const v => rfl
  | global g => rfl
  | func f => rfl

theorem Fr.put {n : Nat} {ρ : Env} {a : Act} (h : Fr n ρ a) {d : Nat} (hd : Nat.blt d n = true) (v : Value) : Fr n (upd ρ d v) (a.put (some d) v) := by
  have hd' : d < n := by simpa [Nat.blt_eq] using hd
  refine ⟨by simp [Act.put, h.size], fun t => ?_, h.defs⟩
  have hs : d < a.tmps.size := by rw [h.size]; exact hd'
  simp only [Act.put, upd]
  by_cases e : t = d
  · subst e
    have : Nat.beq t t = true := by simp
    rw [this]
    simp [Array.getD_eq_getD_getElem?, hs]
  · have : Nat.beq t d = false := by rw [← Bool.not_eq_true, Nat.beq_eq]; exact e
    rw [this]
    have e' : d ≠ t := fun h => e h.symm
    have := h.get t
    simp only [Array.getD_eq_getD_getElem?] at this ⊢
    rw [Array.getElem?_setIfInBounds_ne e']
    exact this

theorem Fr.put_none {n : Nat} {ρ : Env} {a : Act} (h : Fr n ρ a) (v : Value) : Fr n ρ (a.put none v) := h

/-- What a continuation says of a way out, over environments. -/
def lift (n : Nat) (K : Exit → Env → World → Prop) : Exit → Act → World → Prop
  | .panic c, a, w => a.defers = [] ∧ K (.panic c) (fun _ => undef) w
  | .outgrown, _, w => K .outgrown (fun _ => undef) w
  | e, a, w => ∃ ρ, Fr n ρ a ∧ K e ρ w
def thn (X : Env → World → Prop) (K : Exit → Env → World → Prop) : Exit → Env → World → Prop
  | .normal, ρ, w => X ρ w
  | e, ρ, w => K e ρ w
def inB (id : Nat) (K : Exit → Env → World → Prop) : Exit → Env → World → Prop
  | .exit i, ρ, w => bif Nat.beq i id then K .normal ρ w else K (.exit i) ρ w
  | e, ρ, w => K e ρ w

structure WC (P : Program) (n : Nat) (c : Code) (K : Exit → Env → World → Prop) (ρ : Env) (w : World) : Prop where
  out : ∀ a, Fr n ρ a → c.wp P (lift n K) a w
structure WL (P : Program) (n : Nat) (ops : Array Oper) (l : List Oper) (K : Exit → Env → World → Prop) (ρ : Env) (w : World) : Prop where
  out : ∀ a, Fr n ρ a → wpList P ops (lift n K) l a w

section code
variable {P : Program} {n : Nat} {K : Exit → Env → World → Prop} {ρ : Env} {w : World}

theorem lift_mono {K K' : Exit → Env → World → Prop} (h : ∀ e ρ w, K e ρ w → K' e ρ w) (e : Exit) (a : Act) (w : World) (hq : lift n K e a w) : lift n K' e a w := by
  cases e with
  | panic c => exact ⟨hq.1, h _ _ _ hq.2⟩
  | outgrown => exact h _ _ _ hq
  | normal => obtain ⟨ρ, hf, hk⟩ := hq; exact ⟨ρ, hf, h _ _ _ hk⟩
  | exit i => obtain ⟨ρ, hf, hk⟩ := hq; exact ⟨ρ, hf, h _ _ _ hk⟩
  | goto l => obtain ⟨ρ, hf, hk⟩ := hq; exact ⟨ρ, hf, h _ _ _ hk⟩
  | ret => obtain ⟨ρ, hf, hk⟩ := hq; exact ⟨ρ, hf, h _ _ _ hk⟩

theorem WC.mono {c : Code} {K' : Exit → Env → World → Prop} (h : WC P n c K ρ w) (hk : ∀ e ρ w, K e ρ w → K' e ρ w) : WC P n c K' ρ w :=
  ⟨fun a ha => Code.wp_mono (fun e a w q => lift_mono hk e a w q) (h.out a ha)⟩

theorem WC.seq {x y : Code} (h : WC P n x (thn (WC P n y K) K) ρ w) : WC P n (.seq x y) K ρ w := by
  refine ⟨fun a ha => wp_seq (Code.wp_mono (fun e a w q => ?_) (h.out a ha))⟩
  cases e with
  | normal => obtain ⟨ρ', hf, hk⟩ := q; exact hk.out _ hf
  | exit i => exact q
  | goto l => exact q
  | ret => exact q
  | panic c => exact q
  | outgrown => exact q

theorem WC.skip (h : K .normal ρ w) : WC P n .skip K ρ w := ⟨fun a ha => wp_skip ⟨ρ, ha, h⟩⟩
theorem WC.label {l : Nat} (h : K .normal ρ w) : WC P n (.label l) K ρ w := ⟨fun a ha => wp_label ⟨ρ, ha, h⟩⟩
theorem WC.exit {i : Nat} (h : K (.exit i) ρ w) : WC P n (.exit i) K ρ w := ⟨fun a ha => wp_exit ⟨ρ, ha, h⟩⟩
theorem WC.ret (h : K .ret ρ w) : WC P n .ret K ρ w := ⟨fun a ha => wp_ret ⟨ρ, ha, h⟩⟩
theorem WC.cond {c : Operand} {x y : Code} {b : Bool} (hc : ev ρ c = .bool b) (h : WC P n (bif b then x else y) K ρ w) : WC P n (.cond c x y) K ρ w :=
  ⟨fun a ha => wp_cond (t := b) (by rw [ha.eval]; exact hc) (by cases b <;> exact h.out a ha)⟩
theorem WC.cond_t {c : Operand} {x y : Code} (hc : ev ρ c = .bool true) (h : WC P n x K ρ w) : WC P n (.cond c x y) K ρ w := WC.cond hc h
theorem WC.cond_f {c : Operand} {x y : Code} (hc : ev ρ c = .bool false) (h : WC P n y K ρ w) : WC P n (.cond c x y) K ρ w := WC.cond hc h
theorem WC.block {id : Nat} {c : Code} (h : WC P n c (inB id K) ρ w) : WC P n (.block id c) K ρ w := by
  refine ⟨fun a ha => wp_block (Code.wp_mono (fun e a w q => ?_) (h.out a ha))⟩
  cases e with
  | normal => exact q
  | exit i =>
    obtain ⟨ρ', hf, hk⟩ := q
    simp only [Exit.inBlock]
    simp only [inB] at hk
    by_cases e : i = id
    · have e1 : Nat.beq i id = true := by simp [e]
      rw [e1] at hk
      rw [if_pos e]
      exact ⟨ρ', hf, hk⟩
    · have e1 : Nat.beq i id = false := by rw [← Bool.not_eq_true, Nat.beq_eq]; exact e
      rw [e1] at hk
      rw [if_neg e]
      exact ⟨ρ', hf, hk⟩
  | goto l => exact q
  | ret => exact q
  | panic c => exact q
  | outgrown => exact q

/-- A loop by a ghost number that falls with each round. -/
theorem WC.loop {c : Code} (I : Nat → Env → World → Prop) (k : Nat) (h0 : I k ρ w)
    (h : ∀ k ρ w, I k ρ w → WC P n c (thn (fun ρ' w' => ∃ k', k' < k ∧ I k' ρ' w') K) ρ w) : WC P n (.loop c) K ρ w := by
  refine ⟨fun a ha => ?_⟩
  intro b kk cs
  have key : ∀ k ρ a w, Fr n ρ a → I k ρ w →
      ∃ e a' w', lift n K e a' w' ∧ Arrives P (lone (b.at a (.code c :: .inLoop c :: kk)) cs w) b kk cs e a' w' := by
    intro k
    induction k using Nat.strongRecOn with
    | _ k ih =>
      intro ρ a w hf hI
      obtain ⟨e, a₁, w₁, hq, harr⟩ := (h k ρ w hI).out a hf b (.inLoop c :: kk) cs
      cases e with
      | normal =>
        obtain ⟨ρ₁, hf₁, k', hlt, hI₁⟩ := hq
        obtain ⟨e₂, a₂, w₂, hq₂, harr₂⟩ := ih k' hlt ρ₁ a₁ w₁ hf₁ hI₁
        exact ⟨e₂, a₂, w₂, hq₂, .of_steps (Steps.trans harr (.one step_inLoop)) harr₂⟩
      | exit id => exact ⟨.exit id, a₁, w₁, hq, .pass (x := .inLoop c) rfl (fun _ _ => .inl (by simp)) harr⟩
      | goto l => exact ⟨.goto l, a₁, w₁, hq, .pass (x := .inLoop c) rfl (fun _ _ => .inl (by simp)) harr⟩
      | ret => exact ⟨.ret, a₁, w₁, hq, .pass (x := .inLoop c) rfl (fun _ _ => .inl (by simp)) harr⟩
      | panic ch => exact ⟨.panic ch, a₁, w₁, hq, .pass (x := .inLoop c) rfl (fun _ _ => .inl (by simp)) harr⟩
      | outgrown => exact ⟨.outgrown, a₁, w₁, hq, .pass (x := .inLoop c) rfl (fun _ _ => .inl (by simp)) harr⟩
  obtain ⟨e, a', w', hq, harr⟩ := key k ρ a w ha h0
  exact ⟨e, a', w', hq, .of_steps (.one step_loop) harr⟩

/-- A sequence, cut between its parts: Post is what is carried over. -/
theorem WC.cut {x y : Code} (Post : Env → World → Prop) (hy : ∀ ρ w, Post ρ w → WC P n y K ρ w) (h : WC P n x (thn Post K) ρ w) : WC P n (.seq x y) K ρ w := by
  refine WC.seq (WC.mono h fun e ρ w q => ?_)
  cases e with
  | normal => exact hy _ _ q
  | exit i => exact q
  | goto l => exact q
  | ret => exact q
  | panic c => exact q
  | outgrown => exact q
def exitP (id : Nat) (Post : Env → World → Prop) (K : Exit → Env → World → Prop) : Exit → Env → World → Prop
  | .exit i, ρ, w => bif Nat.beq i id then Post ρ w else K (.exit i) ρ w
  | e, ρ, w => K e ρ w
/-- 'for': a loop that is left by its block's exit; Post is what holds there. -/
theorem WC.for {id : Nat} {c : Code} (I : Nat → Env → World → Prop) (k : Nat) (Post : Env → World → Prop) (h0 : I k ρ w) (hx : ∀ ρ w, Post ρ w → K .normal ρ w)
    (h : ∀ k ρ w, I k ρ w → WC P n c (thn (fun ρ' w' => ∃ k', k' < k ∧ I k' ρ' w') (exitP id Post K)) ρ w) : WC P n (.block id (.loop c)) K ρ w := by
  refine WC.block (WC.mono (K := exitP id Post K) (WC.loop I k h0 h) fun e ρ w q => ?_)
  cases e with
  | normal => exact q
  | exit i =>
    simp only [exitP] at q
    simp only [inB]
    cases hb : Nat.beq i id with
    | true => rw [hb] at q; exact hx _ _ q
    | false => rw [hb] at q; exact q
  | goto l => exact q
  | ret => exact q
  | panic c => exact q
  | outgrown => exact q
theorem WC.region {id : Nat} {l : List Oper} (h : WL P n l.toArray l K ρ w) : WC P n (.region id l.toArray false) K ρ w :=
  ⟨fun a ha => wp_region_lit (h.out a ha)⟩
end code

/-- One operation: Kn holds behind it. -/
structure OW (P : Program) (n : Nat) (o : Oper) (Kn : Env → World → Prop) (K : Exit → Env → World → Prop) (ρ : Env) (w : World) : Prop where
  out : ∀ a, Fr n ρ a → ∀ X : Act → World → Prop, (∀ a' w', (∃ ρ', Fr n ρ' a' ∧ Kn ρ' w') → X a' w') → o.wp P a w X (lift n K)

section ops
variable {P : Program} {n : Nat} {ops : Array Oper} {rest : List Oper} {K : Exit → Env → World → Prop} {Kn : Env → World → Prop} {ρ : Env} {w : World}

theorem WL.nil (h : K .normal ρ w) : WL P n ops [] K ρ w := ⟨fun a ha => ⟨ρ, ha, h⟩⟩
theorem WL.op {o : Oper} (hg : o.guard = none) (h : OW P n o (WL P n ops rest K) K ρ w) : WL P n ops (o :: rest) K ρ w :=
  ⟨fun a ha => wpList_plain hg fun X hX => h.out a ha X (fun a' w' ⟨ρ', hf, hk⟩ => hX _ _ (hk.out _ hf))⟩

/-- An operation that yields a value. -/
theorem OW.val {d : Nat} {op : Op} {t : TypeId} {p : String} {e : Array Edge} {g : Option (Nat × Bool)} {v : Value} {w' : World} (hd : Nat.blt d n = true)
    (hr : (execOp (ev ρ) { dst := some d, op := op, type := t, pos := p, after := e, guard := g }).run P w = .ok (.value v) w')
    (k : Kn (upd ρ d v) w') : OW P n { dst := some d, op := op, type := t, pos := p, after := e, guard := g } Kn K ρ w := by
  refine ⟨fun a ha X hX => ?_⟩
  unfold Oper.wp
  rw [ha.eval, hr]
  exact hX _ _ ⟨_, ha.put hd v, k⟩
/-- An operation that yields nothing. -/
theorem OW.unit {op : Op} {t : TypeId} {p : String} {e : Array Edge} {g : Option (Nat × Bool)} {w' : World}
    (hr : (execOp (ev ρ) { dst := none, op := op, type := t, pos := p, after := e, guard := g }).run P w = .ok .skip w')
    (k : Kn ρ w') : OW P n { dst := none, op := op, type := t, pos := p, after := e, guard := g } Kn K ρ w := by
  refine ⟨fun a ha X hX => ?_⟩
  unfold Oper.wp
  rw [ha.eval, hr]
  exact hX _ _ ⟨_, ha, k⟩
/-- A call, its result taken. -/
theorem OW.callEnter {d : Nat} {op : Op} {t : TypeId} {p : String} {e : Array Edge} {g : Option (Nat × Bool)} {f : FuncId} {args : Array Value} {R : Ending → World → Prop} (hd : Nat.blt d n = true)
    (hr : (execOp (ev ρ) { dst := some d, op := op, type := t, pos := p, after := e, guard := g }).run P w = .ok (.enter f args) w)
    (hc : Calls P f args w R)
    (k : ∀ e' w', R e' w' → ∃ v, e' = .returned v ∧ Kn (upd ρ d v) w') :
    OW P n { dst := some d, op := op, type := t, pos := p, after := e, guard := g } Kn K ρ w := by
  refine ⟨fun a ha X hX => ?_⟩
  unfold Oper.wp
  rw [ha.eval, hr]
  refine Calls.mono hc fun e' w' hR => ?_
  obtain ⟨v, rfl, hk⟩ := k e' w' hR
  exact hX _ _ ⟨_, ha.put hd v, hk⟩
theorem OW.callEnter0 {op : Op} {t : TypeId} {p : String} {e : Array Edge} {g : Option (Nat × Bool)} {f : FuncId} {args : Array Value} {R : Ending → World → Prop}
    (hr : (execOp (ev ρ) { dst := none, op := op, type := t, pos := p, after := e, guard := g }).run P w = .ok (.enter f args) w)
    (hc : Calls P f args w R)
    (k : ∀ e' w', R e' w' → ∃ v, e' = .returned v ∧ Kn ρ w') :
    OW P n { dst := none, op := op, type := t, pos := p, after := e, guard := g } Kn K ρ w := by
  refine ⟨fun a ha X hX => ?_⟩
  unfold Oper.wp
  rw [ha.eval, hr]
  refine Calls.mono hc fun e' w' hR => ?_
  obtain ⟨v, rfl, hk⟩ := k e' w' hR
  exact hX _ _ ⟨_, ha, hk⟩

theorem yielded_of {a : Act} {g gd : Nat} {go : Oper} {b : Bool} (ha : Fr n ρ a) (hg : ops[g]? = some go) (hgd : go.dst = some gd) (hv : ρ gd = .bool b) : yielded ops a.tmps g = some b := by
  have h1 := ha.get gd
  rw [hv] at h1
  have hlt : gd < a.tmps.size := by
    rcases Nat.lt_or_ge gd a.tmps.size with h | h
    · exact h
    · simp [Array.getD_eq_getD_getElem?, Array.getElem?_eq_none h, undef] at h1
  simp only [Array.getD_eq_getD_getElem?, Array.getElem?_eq_getElem hlt, Option.getD_some] at h1
  simp [yielded, hg, hgd, Array.getElem?_eq_getElem hlt, h1]
/-- An operation whose guard says no. -/
theorem WL.guardNo {d : Nat} {op : Op} {t : TypeId} {p : String} {e : Array Edge} {g : Nat} {b : Bool} {gd : Nat} {go : Oper} (hd : Nat.blt d n = true)
    (hg : ops[g]? = some go) (hgd : go.dst = some gd) (hv : ρ gd = .bool (!b))
    (k : WL P n ops rest K (upd ρ d undef) w) : WL P n ops ({ dst := some d, op := op, type := t, pos := p, after := e, guard := some (g, b) } :: rest) K ρ w := by
  refine ⟨fun a ha => ?_⟩
  unfold wpList
  rw [if_neg (by simp [Region.wanted, yielded_of ha hg hgd hv])]
  exact k.out _ (ha.put hd undef)
/-- An operation whose guard says yes goes as one without. -/
theorem WL.guardYes {o : Oper} {g : Nat} {b : Bool} {gd : Nat} {go : Oper} (ho : o.guard = some (g, b))
    (hg : ops[g]? = some go) (hgd : go.dst = some gd) (hv : ρ gd = .bool b)
    (h : OW P n o (WL P n ops rest K) K ρ w) : WL P n ops (o :: rest) K ρ w := by
  refine ⟨fun a ha => ?_⟩
  unfold wpList
  rw [if_pos (by simp [Region.wanted, ho, yielded_of ha hg hgd hv])]
  exact .inl (h.out a ha _ (fun a' w' ⟨ρ', hf, hk⟩ => hk.out _ hf))

/-! A region that draws its order -/
structure WA (P : Program) (n : Nat) (ops : Array Oper) (S : World → Prop) (m : Nat) (listed : Array Bool) (K : Exit → Env → World → Prop) (ρ : Env) (w : World) : Prop where
  out : ∀ a, Fr n ρ a → wpAnyH P .any ops (lift n K) S m listed a w
theorem WC.regionD {id : Nat} {S : World → Prop} (hm : P.follows .mixedOrders = true) (h : WA P n ops S ops.size (Array.replicate ops.size false) K ρ { w with drawn := w.drawn + 1 }) :
    WC P n (.region id ops true) K ρ w := ⟨fun a ha => wp_region_held hm (h.out a ha)⟩
section any
variable {S : World → Prop} {m : Nat} {listed : Array Bool}
theorem WA.done (hr : Region.ready .any ops listed = []) (h : K .normal ρ w) : WA P n ops S m listed K ρ w :=
  ⟨fun a ha => wpAnyH_done hr (show lift n K .normal a w from ⟨ρ, ha, h⟩) m⟩
/-- An operation that reads alone is taken first. -/
theorem WA.take (i : Nat) {d : Nat} {op : Op} {t : TypeId} {p : String} {e : Array Edge} {v : Value} (hi : ops[i]? = some { dst := some d, op := op, type := t, pos := p, after := e, guard := none })
    (hs : Region.noSelect ops = true) (hf : Region.free .any ops listed i = true) (hr : (Region.ready .any ops listed).contains i = true) (hd : Nat.blt d n = true)
    (hy : ∀ w, S w → (execOp (ev ρ) { dst := some d, op := op, type := t, pos := p, after := e, guard := none }).run P w = .ok (.value v) w) (hS : S w)
    (h : WA P n ops S m (listed.setIfInBounds i true) K (upd ρ d v) w) : WA P n ops S (m + 1) listed K ρ w :=
  ⟨fun a ha => wpAnyH_take hi hs hf hr (fun _ _ _ h => h) (.inl ⟨rfl, fun w hw => by rw [ha.eval]; exact hy w hw⟩) hS (h.out _ (ha.put hd v))⟩
theorem WA.takeNo (i : Nat) {d : Nat} {op : Op} {t : TypeId} {p : String} {e : Array Edge} {g gd : Nat} {b : Bool} {go : Oper} (hi : ops[i]? = some { dst := some d, op := op, type := t, pos := p, after := e, guard := some (g, b) })
    (hs : Region.noSelect ops = true) (hf : Region.free .any ops listed i = true) (hr : (Region.ready .any ops listed).contains i = true) (hd : Nat.blt d n = true)
    (hg : ops[g]? = some go) (hgd : go.dst = some gd) (hv : ρ gd = .bool (!b)) (hS : S w)
    (h : WA P n ops S m (listed.setIfInBounds i true) K (upd ρ d undef) w) : WA P n ops S (m + 1) listed K ρ w :=
  ⟨fun a ha => wpAnyH_take hi hs hf hr (fun _ _ _ h => h) (.inr ⟨by simp [Region.wanted, yielded_of ha hg hgd hv], rfl⟩) hS (h.out _ (ha.put hd undef))⟩
theorem WA.takeYes (i : Nat) {d : Nat} {op : Op} {t : TypeId} {p : String} {e : Array Edge} {g gd : Nat} {b : Bool} {go : Oper} {v : Value} (hi : ops[i]? = some { dst := some d, op := op, type := t, pos := p, after := e, guard := some (g, b) })
    (hs : Region.noSelect ops = true) (hf : Region.free .any ops listed i = true) (hr : (Region.ready .any ops listed).contains i = true) (hd : Nat.blt d n = true)
    (hg : ops[g]? = some go) (hgd : go.dst = some gd) (hv : ρ gd = .bool b)
    (hy : ∀ w, S w → (execOp (ev ρ) { dst := some d, op := op, type := t, pos := p, after := e, guard := some (g, b) }).run P w = .ok (.value v) w) (hS : S w)
    (h : WA P n ops S m (listed.setIfInBounds i true) K (upd ρ d v) w) : WA P n ops S (m + 1) listed K ρ w :=
  ⟨fun a ha => wpAnyH_take hi hs hf hr (fun _ _ _ h => h) (.inl ⟨by simp [Region.wanted, yielded_of ha hg hgd hv], fun w hw => by rw [ha.eval]; exact hy w hw⟩) hS (h.out _ (ha.put hd v))⟩
/-- Just one may come up. -/
theorem WA.one (i : Nat) {o : Oper} (hr : Region.ready .any ops listed = [i]) (hi : ops[i]? = some o) (hg : o.guard = none)
    (h : OW P n o (fun ρ' w' => S w' ∧ WA P n ops S m (listed.setIfInBounds i true) K ρ' w') K ρ w) : WA P n ops S (m + 1) listed K ρ w := by
  refine ⟨fun a ha => wpAnyH_all hr (by simp) fun j hj => ?_⟩
  obtain rfl : j = i := by simpa using hj
  unfold wpOp
  simp only [hi]
  rw [if_pos (by simp [Region.wanted, hg])]
  exact .inl (h.out a ha _ (fun a' w' ⟨ρ', hf, hS, hk⟩ => ⟨hS, hk.out _ hf⟩))
end any
end ops

/-! Plain operations -/
section plain
variable {P : Program}

/-- A binary operation by what it comes to. -/
def Bin (P : Program) (op : BinOp) (t : TypeId) (a b v : Value) : Prop := ∀ (x y : Operand) (w : World), (do eqGuard op t x y a b; binOp op t a b : Sem Value).run P w = .ok v w
/-- Whole numbers. -/
theorem bin_add {k : IntKind} {a b : Int} {xt : TypeId} : Bin P .add xt (.int k a) (.int k b) (.int k (k.wrap (a + b))) := fun x y w => by simp [eqGuard, binOp, Op.intArith]
theorem bin_sub {k : IntKind} {a b : Int} {xt : TypeId} : Bin P .sub xt (.int k a) (.int k b) (.int k (k.wrap (a - b))) := fun x y w => by simp [eqGuard, binOp, Op.intArith]
theorem bin_mul {k : IntKind} {a b : Int} {xt : TypeId} : Bin P .mul xt (.int k a) (.int k b) (.int k (k.wrap (a * b))) := fun x y w => by simp [eqGuard, binOp, Op.intArith]
theorem bin_eql {k : IntKind} {a b : Int} {xt : TypeId} : Bin P .eql xt (.int k a) (.int k b) (.bool (a == b)) := fun x y w => by simp [eqGuard, binOp, Op.intCmp]
theorem bin_neq {k : IntKind} {a b : Int} {xt : TypeId} : Bin P .neq xt (.int k a) (.int k b) (.bool (a != b)) := fun x y w => by simp [eqGuard, binOp, Op.intCmp]
theorem bin_lss {k : IntKind} {a b : Int} {xt : TypeId} : Bin P .lss xt (.int k a) (.int k b) (.bool (decide (a < b))) := fun x y w => by simp [eqGuard, binOp, Op.intCmp]
theorem bin_leq {k : IntKind} {a b : Int} {xt : TypeId} : Bin P .leq xt (.int k a) (.int k b) (.bool (decide (a ≤ b))) := fun x y w => by simp [eqGuard, binOp, Op.intCmp]
theorem bin_gtr {k : IntKind} {a b : Int} {xt : TypeId} : Bin P .gtr xt (.int k a) (.int k b) (.bool (decide (a > b))) := fun x y w => by simp [eqGuard, binOp, Op.intCmp]
theorem bin_geq {k : IntKind} {a b : Int} {xt : TypeId} : Bin P .geq xt (.int k a) (.int k b) (.bool (decide (a ≥ b))) := fun x y w => by simp [eqGuard, binOp, Op.intCmp]
end plain
end Go.Proofs.YtjhmhdedonibbaaDoor.SX
