/- The explicit rules of a walk: code, regions and operations over an environment of temporaries (a function), one rule an operation. -/
import Derived.WalkKit
import Derived.OrdersHeld
import Derived.OrdersIn
import Derived.TacticsIn
import Derived.LoopIn
import Derived.Deep.LoopGhost
import Derived.RangeFuncLeaves
import Derived.RangeFuncIn
import Derived.Scope
set_option linter.unusedVariables false
namespace Go.Proofs.YtpmkkhkphddfeaaDoor.SX
open Go

/-- Temporaries, and what is deferred. -/
structure Env where
  get : Nat → Value
  ds : List Deferred
instance : CoeFun Env (fun _ => Nat → Value) := ⟨Env.get⟩
def upd (ρ : Env) (d : Nat) (v : Value) : Env := ⟨fun i => bif Nat.beq i d then v else ρ i, ρ.ds⟩
def env0 : Env := ⟨fun _ => undef, []⟩
def ev (ρ : Env) : Operand → Value
  | .tmp t => ρ t
  | .const v => v
  | .global g => .pointer (some ⟨g, 0, none⟩)
  | .func f => .func (.func f) #[] #[]
/-- Where code runs: in a round of a range over a function, or not; may anything be deferred? -/
structure Md where
  rd : Option Nat
  dd : Bool
  kp : Bool
abbrev Md.plain : Md := ⟨none, false, false⟩
abbrev Md.defer : Md := ⟨none, true, false⟩
abbrev Md.round (l : Nat) : Md := ⟨some l, false, false⟩
/-- Where a panic may be recovered from: the temporaries are known at a panic, too. -/
abbrev Md.recov : Md := ⟨none, true, true⟩
def fen (rd : Option Nat) : Fence := { Fence.wide with round := rd }
theorem fen_none : fen none = Fence.wide := rfl

/-- The frame's temporaries are the environment's, and what is deferred, too. -/
structure Fr (n : Nat) (md : Md) (ρ : Env) (a : Act) : Prop where
  size : a.tmps.size = n
  get : ∀ t, a.tmps.getD t undef = ρ t
  defs : a.defers = ρ.ds
  dd : md.dd = false → ρ.ds = []

theorem Fr.eval {n : Nat} {md : Md} {ρ : Env} {a : Act} (h : Fr n md ρ a) : a.eval = ev ρ := by
  funext x
  cases x with
  | tmp t => exact h.get t
  | const v => rfl
  | global g => rfl
  | func f => rfl

theorem Fr.put {n : Nat} {md : Md} {ρ : Env} {a : Act} (h : Fr n md ρ a) {d : Nat} (hd : Nat.blt d n = true) (v : Value) : Fr n md (upd ρ d v) (a.put (some d) v) := by
  have hd' : d < n := by simpa [Nat.blt_eq] using hd
  refine ⟨by simp [Act.put, h.size], fun t => ?_, h.defs, h.dd⟩
  have hs : d < a.tmps.size := by rw [h.size]; exact hd'
  simp only [Act.put, upd]
  by_cases e : t = d
  · subst e
    have : Nat.beq t t = true := by simp
    rw [this]
    simp [Array.getD_eq_getD_getElem?, hs]
  · have : Nat.beq t d = false := by rw [← Bool.not_eq_true, Nat.beq_eq]; exact e
    rw [this]
    have e' : d ≠ t := fun h => e h.symm
    have := h.get t
    simp only [Array.getD_eq_getD_getElem?] at this ⊢
    rw [Array.getElem?_setIfInBounds_ne e']
    exact this

/-- What is known of the frame at a panic. -/
def AtP (n : Nat) (md : Md) (ρ : Env) (a : Act) : Prop := (md.kp = true ∧ Fr n md ρ a) ∨ (md.kp = false ∧ (md.dd = false → a.defers = []) ∧ ρ = ⟨fun _ => undef, a.defers⟩)
def Env.gone (md : Md) (ρ : Env) : Env := bif md.kp then ρ else ⟨fun _ => undef, ρ.ds⟩
theorem atP_gone {n : Nat} {md : Md} {ρ : Env} {a : Act} (h : Fr n md ρ a) : AtP n md (ρ.gone md) a := by
  unfold AtP Env.gone
  cases hk : md.kp with
  | true => exact .inl ⟨rfl, h⟩
  | false => exact .inr ⟨rfl, fun hd => h.defs.trans (h.dd hd), by rw [h.defs]; rfl⟩
theorem AtP.back {n : Nat} {md : Md} {ρ : Env} {a : Act} {d : Option Nat} {v : Value} (hk : md.kp = false) (h : AtP n md ρ (a.put d v)) : AtP n md ρ a := by
  rcases h with ⟨h, _⟩ | ⟨_, h1, h2⟩
  · rw [hk] at h; cases h
  · have e : (a.put d v).defers = a.defers := by cases d <;> rfl
    rw [e] at h1 h2
    exact .inr ⟨hk, h1, h2⟩
/-- What a continuation says of a way out, over environments. -/
def lift (n : Nat) (md : Md) (K : Exit → Env → World → Prop) : Exit → Act → World → Prop
  | .panic c, a, w => ∃ ρ, AtP n md ρ a ∧ K (.panic c) ρ w
  | .outgrown, _, _ => False
  | e, a, w => ∃ ρ, Fr n md ρ a ∧ K e ρ w
def thn (X : Env → World → Prop) (K : Exit → Env → World → Prop) : Exit → Env → World → Prop
  | .normal, ρ, w => X ρ w
  | e, ρ, w => K e ρ w
def inB (id : Nat) (K : Exit → Env → World → Prop) : Exit → Env → World → Prop
  | .exit i, ρ, w => bif Nat.beq i id then K .normal ρ w else K (.exit i) ρ w
  | e, ρ, w => K e ρ w
theorem lift_out {n : Nat} {md : Md} {K : Exit → Env → World → Prop} : ¬ LetsOut (lift n md K) := fun ⟨_, _, h⟩ => h
structure WC (P : Program) (n : Nat) (md : Md) (c : Code) (K : Exit → Env → World → Prop) (ρ : Env) (w : World) : Prop where
  out : ∀ a, Fr n md ρ a → c.wpIn (fen md.rd) 0 P (lift n md K) a w
structure WL (P : Program) (n : Nat) (md : Md) (ops : Array Oper) (l : List Oper) (K : Exit → Env → World → Prop) (ρ : Env) (w : World) : Prop where
  out : ∀ a, Fr n md ρ a → wpList P ops (lift n md K) l a w

section code
variable {P : Program} {n : Nat} {md : Md} {K : Exit → Env → World → Prop} {ρ : Env} {w : World}

theorem lift_mono {K K' : Exit → Env → World → Prop} (h : ∀ e ρ w, K e ρ w → K' e ρ w) (e : Exit) (a : Act) (w : World) (hq : lift n md K e a w) : lift n md K' e a w := by
  cases e with
  | panic c => obtain ⟨ρ, hf, hk⟩ := hq; exact ⟨ρ, hf, h _ _ _ hk⟩
  | outgrown => exact hq
  | normal => obtain ⟨ρ, hf, hk⟩ := hq; exact ⟨ρ, hf, h _ _ _ hk⟩
  | exit i => obtain ⟨ρ, hf, hk⟩ := hq; exact ⟨ρ, hf, h _ _ _ hk⟩
  | goto l => obtain ⟨ρ, hf, hk⟩ := hq; exact ⟨ρ, hf, h _ _ _ hk⟩
  | ret => obtain ⟨ρ, hf, hk⟩ := hq; exact ⟨ρ, hf, h _ _ _ hk⟩

theorem WC.mono {c : Code} {K' : Exit → Env → World → Prop} (h : WC P n md c K ρ w) (hk : ∀ e ρ w, K e ρ w → K' e ρ w) : WC P n md c K' ρ w :=
  ⟨fun a ha => wpIn_mono (h.out a ha) (fun e a w q => lift_mono hk e a w q)⟩

theorem WC.seq {x y : Code} (h : WC P n md x (thn (WC P n md y K) K) ρ w) : WC P n md (.seq x y) K ρ w := by
  refine ⟨fun a ha => wpIn_seq (wpIn_mono (h.out a ha) (fun e a w q => ?_))⟩
  cases e with
  | normal => obtain ⟨ρ', hf, hk⟩ := q; exact hk.out _ hf
  | exit i => exact q
  | goto l => exact q
  | ret => exact q
  | panic c => exact q
  | outgrown => exact q

theorem WC.skip (h : K .normal ρ w) : WC P n md .skip K ρ w := ⟨fun a ha => wpIn_skip ⟨ρ, ha, h⟩⟩
theorem WC.label {l : Nat} (h : K .normal ρ w) : WC P n md (.label l) K ρ w := ⟨fun a ha => wpIn_label ⟨ρ, ha, h⟩⟩
theorem WC.exit {i : Nat} (h : K (.exit i) ρ w) : WC P n md (.exit i) K ρ w := ⟨fun a ha => wpIn_exit ⟨ρ, ha, h⟩⟩
theorem WC.ret (h : K .ret ρ w) : WC P n md .ret K ρ w := ⟨fun a ha => wpIn_ret ⟨ρ, ha, h⟩⟩
theorem WC.cond {c : Operand} {x y : Code} {b : Bool} (hc : ev ρ c = .bool b) (h : WC P n md (bif b then x else y) K ρ w) : WC P n md (.cond c x y) K ρ w :=
  ⟨fun a ha => wpIn_cond (t := b) (by rw [ha.eval]; exact hc) (by cases b <;> exact h.out a ha)⟩
theorem WC.cond_t {c : Operand} {x y : Code} (hc : ev ρ c = .bool true) (h : WC P n md x K ρ w) : WC P n md (.cond c x y) K ρ w := WC.cond hc h
theorem WC.cond_f {c : Operand} {x y : Code} (hc : ev ρ c = .bool false) (h : WC P n md y K ρ w) : WC P n md (.cond c x y) K ρ w := WC.cond hc h
theorem WC.block {id : Nat} {c : Code} (h : WC P n md c (inB id K) ρ w) : WC P n md (.block id c) K ρ w := by
  refine ⟨fun a ha => wpIn_block (wpIn_mono (h.out a ha) (fun e a w q => ?_))⟩
  cases e with
  | normal => exact q
  | exit i =>
    obtain ⟨ρ', hf, hk⟩ := q
    simp only [Exit.inBlock]
    simp only [inB] at hk
    by_cases e : i = id
    · have e1 : Nat.beq i id = true := by simp [e]
      rw [e1] at hk
      rw [if_pos e]
      exact ⟨ρ', hf, hk⟩
    · have e1 : Nat.beq i id = false := by rw [← Bool.not_eq_true, Nat.beq_eq]; exact e
      rw [e1] at hk
      rw [if_neg e]
      exact ⟨ρ', hf, hk⟩
  | goto l => exact q
  | ret => exact q
  | panic c => exact q
  | outgrown => exact q

/-- A loop by a ghost number that falls with each round. -/
theorem WC.loop {c : Code} (I : Nat → Env → World → Prop) (k : Nat) (h0 : I k ρ w)
    (h : ∀ k ρ w, I k ρ w → WC P n md c (thn (fun ρ' w' => ∃ k', k' < k ∧ I k' ρ' w') K) ρ w) : WC P n md (.loop c) K ρ w := by
  refine ⟨fun a ha => ?_⟩
  let J : Nat → Act → World → Prop := fun k a w => ∃ ρ, Fr n md ρ a ∧ I k ρ w
  refine wpIn_loop (fun a w => ∃ m, J m a w) (fun a w => leastOf (fun m => J m a w)) ⟨k, ρ, ha, h0⟩ ?_
  intro a w hI
  obtain ⟨ρ, hf, hI1⟩ := (leastOf_spec hI).1
  refine wpIn_mono ((h _ ρ w hI1).out a hf) (fun e a' w' q => ?_)
  cases e with
  | normal =>
    obtain ⟨ρ', hf', m, hlt, hm⟩ := q
    have hJ : J m a' w' := ⟨ρ', hf', hm⟩
    exact show (∃ m, J m a' w') ∧ leastOf (fun m => J m a' w') < leastOf (fun m => J m a w) from ⟨⟨m, hJ⟩, Nat.lt_of_le_of_lt ((leastOf_spec ⟨m, hJ⟩).2 m hJ) hlt⟩
  | exit id => exact q
  | goto l => exact q
  | ret => exact q
  | panic ch => exact q
  | outgrown => exact q

/-- A sequence, cut between its parts: Post is what is carried over. -/
theorem WC.cut {x y : Code} (Post : Env → World → Prop) (hy : ∀ ρ w, Post ρ w → WC P n md y K ρ w) (h : WC P n md x (thn Post K) ρ w) : WC P n md (.seq x y) K ρ w := by
  refine WC.seq (WC.mono h fun e ρ w q => ?_)
  cases e with
  | normal => exact hy _ _ q
  | exit i => exact q
  | goto l => exact q
  | ret => exact q
  | panic c => exact q
  | outgrown => exact q
def exitP (id : Nat) (Post : Env → World → Prop) (K : Exit → Env → World → Prop) : Exit → Env → World → Prop
  | .exit i, ρ, w => bif Nat.beq i id then Post ρ w else K (.exit i) ρ w
  | e, ρ, w => K e ρ w
/-- 'for': a loop that is left by its block's exit; Post is what holds there. -/
theorem WC.for {id : Nat} {c : Code} (I : Nat → Env → World → Prop) (k : Nat) (Post : Env → World → Prop) (h0 : I k ρ w) (hx : ∀ ρ w, Post ρ w → K .normal ρ w)
    (h : ∀ k ρ w, I k ρ w → WC P n md c (thn (fun ρ' w' => ∃ k', k' < k ∧ I k' ρ' w') (exitP id Post K)) ρ w) : WC P n md (.block id (.loop c)) K ρ w := by
  refine WC.block (WC.mono (K := exitP id Post K) (WC.loop I k h0 h) fun e ρ w q => ?_)
  cases e with
  | normal => exact q
  | exit i =>
    simp only [exitP] at q
    simp only [inB]
    cases hb : Nat.beq i id with
    | true => rw [hb] at q; exact hx _ _ q
    | false => rw [hb] at q; exact q
  | goto l => exact q
  | ret => exact q
  | panic c => exact q
  | outgrown => exact q
theorem WC.scope {c : Code} (h : WC P n .plain c (fun e ρ w => (∀ l, e ≠ .goto l) ∧ K e ρ w) ρ w) : WC P n .plain (.scope c) K ρ w := by
  refine ⟨fun a ha => wpIn_wide.2 (wp_scope_straight (Code.wp_mono (fun e a w q => ?_) (wpIn_wide.1 (h.out a ha))))⟩
  cases e with
  | normal => obtain ⟨ρ, hf, _, hk⟩ := q; exact ⟨ρ, hf, hk⟩
  | exit i => obtain ⟨ρ, hf, _, hk⟩ := q; exact ⟨ρ, hf, hk⟩
  | goto l => obtain ⟨ρ, hf, hn, _⟩ := q; exact absurd rfl (hn l)
  | ret => obtain ⟨ρ, hf, _, hk⟩ := q; exact ⟨ρ, hf, hk⟩
  | panic c => obtain ⟨ρ, hf, _, hk⟩ := q; exact ⟨ρ, hf, hk⟩
  | outgrown => exact q
/-! Regions: the plain walk's words serve in a round, too, where nothing is deferred -/
def noDefer (ops : Array Oper) : Bool := ops.all fun o => match o.op with | .defer _ => false | _ => true
theorem noDefer_spec {ops : Array Oper} (h : noDefer ops = true) {i : Nat} {o : Oper} (hi : ops[i]? = some o) : ∀ c, o.op ≠ .defer c := by
  intro c hc
  obtain ⟨hlt, hv⟩ := Array.getElem?_eq_some_iff.1 hi
  have := (Array.all_eq_true.1 h) i hlt
  rw [hv, hc] at this
  cases this
theorem semAt_any (rd : Option Nat) (ρ : Operand → Value) (o : Oper) (h : ∀ c, o.op ≠ .defer c) : o.semAt rd ρ = execOp ρ o := Oper.semAt_eq rd ρ o h
theorem calls_fen {rd : Option Nat} {m : Nat} {f : FuncId} {args : Array Value} {w : World} {R : Ending → World → Prop} (h : Calls P f args w R) : CallsIn (fen rd) m P f args w R :=
  (callsIn_wide (n := m)).2 h
theorem calls_wide {rd : Option Nat} {m : Nat} {f : FuncId} {args : Array Value} {w : World} {R : Ending → World → Prop} (h : CallsIn (fen rd) m P f args w R) : Calls P f args w R :=
  (callsIn_wide (n := m)).1 h
theorem rows_fen {rd : Option Nat} {m : Nat} {row : String} {args : Array Value} {w : World} {R : Value → World → Prop} (h : Rows P row args w R) : RowsIn (fen rd) m P row args w R :=
  fun c cs _ => let ⟨v, w', r, s⟩ := h c cs; ⟨v, w', r, stepsIn_wide.2 s⟩
theorem opsIn {rd : Option Nat} {ops : Array Oper} {Q : Exit → Act → World → Prop} (hnd : noDefer ops = true) (hQ : ¬ LetsOut Q) : ∀ (l : List Nat) (a : Act) (w : World), wpOps P ops Q l a w → wpOpsIn (fen rd) 0 P ops Q l a w
  | [], _, _, h => h
  | i :: rest, a, w, h => by
    unfold wpOps at h
    unfold wpOpsIn
    cases hi : ops[i]? with
    | none => rw [hi] at h; exact opsIn hnd hQ rest a w h
    | some o =>
      rw [hi] at h
      simp only at h ⊢
      split
      · rename_i hw
        rw [if_pos hw] at h
        rcases h with h | ⟨_, h⟩
        · unfold Oper.wp at h
          unfold Oper.wpIn
          refine ⟨fun _ _ => trivial, ?_⟩
          rw [semAt_any _ _ _ (noDefer_spec hnd hi)]
          have ih := opsIn (rd := rd) hnd hQ rest
          generalize (execOp a.eval o).run P w = r at h
          cases r with
          | ok x w' =>
            cases x with
            | value v => exact ih _ _ h
            | skip => exact ih _ _ h
            | defer d => exact ih _ _ h
            | enter f args =>
              refine ⟨fun h_ => (by cases h_), calls_fen (Calls.mono h fun e w'' he => ?_)⟩
              cases e with
              | returned v => exact ih _ _ he
              | panicked c => exact he
              | outgrown => exact he
            | row row args => exact ⟨fun h_ => (by cases h_), rows_fen (Rows.mono h fun v w'' he => ih _ _ he)⟩
            | round l f tmps assign body => exact h.elim
            | _ => exact h.elim
          | halt x w' => cases x <;> first | exact h | exact h.elim
        · exact absurd h hQ
      · rename_i hw
        rw [if_neg hw] at h
        exact ⟨fun _ _ => trivial, opsIn hnd hQ rest _ _ h⟩
theorem WC.region {id : Nat} {l : List Oper} {dd kp : Bool} (h : WL P n ⟨none, dd, kp⟩ l.toArray l K ρ w) : WC P n ⟨none, dd, kp⟩ (.region id l.toArray false) K ρ w :=
  ⟨fun a ha => wpIn_wide.2 (wp_region_lit (h.out a ha))⟩
theorem WC.regionR {id : Nat} {l : List Oper} (hnd : noDefer l.toArray = true) (h : WL P n md l.toArray l K ρ w) : WC P n md (.region id l.toArray false) K ρ w :=
  ⟨fun a ha => wpIn_region (opsIn hnd lift_out _ _ _ (by
    have h1 := h.out a ha
    rw [List.range_eq_range', show l.toArray.size = l.length from by simp, wpOps_eq_wpList l 0 (by simp)]
    exact h1))⟩
end code

/-! A region that draws its order: behind the operation L, for which none waits, S need not hold -/
section anyl
variable {P : Program} {ops : Array Oper} {Q : Exit → Act → World → Prop} {md : Region.Mode} {S : World → Prop} {L : Nat}
def wpAnyL (P : Program) (md : Region.Mode) (ops : Array Oper) (Q : Exit → Act → World → Prop) (L : Nat) (S : World → Prop) : Nat → Array Bool → Act → World → Prop
  | 0, listed, a, w => Region.ready md ops listed = [] ∧ Q .normal a w
  | fuel + 1, listed, a, w =>
    (Region.ready md ops listed = [] → Q .normal a w) ∧
    ∀ i ∈ Region.ready md ops listed, wpOp P ops Q i (fun a' w' => (i = L ∨ S w') ∧ wpAnyL P md ops Q L S fuel (listed.setIfInBounds i true) a' w') a w
theorem wpAny_of_L : ∀ (fuel : Nat) (listed : Array Bool) (a : Act) (w : World), wpAnyL P md ops Q L S fuel listed a w → wpAny P md ops Q fuel listed a w
  | 0, _, _, _, h => h
  | fuel + 1, _, _, _, h => ⟨h.1, fun i hi => wpOp_mono (fun a' w' h' => wpAny_of_L fuel _ a' w' h'.2) (h.2 i hi)⟩
def waitsL (md : Region.Mode) (ops : Array Oper) (L i : Nat) : Bool := match ops[L]? with
  | none => true
  | some o => o.after.any fun e => Region.binds md e && e.on == i
def freeL (md : Region.Mode) (ops : Array Oper) (L : Nat) (listed : Array Bool) (i : Nat) : Bool := Region.free md ops listed i && waitsL md ops L i
theorem waitsL_spec {i : Nat} (h : waitsL md ops L i = true) (oL : Oper) (ho : ops[L]? = some oL) : ∃ e ∈ oL.after, Region.binds md e = true ∧ e.on = i := by
  unfold waitsL at h
  rw [ho] at h
  obtain ⟨e, he, hb⟩ := Array.any_eq_true'.1 h
  rw [Bool.and_eq_true, beq_iff_eq] at hb
  exact ⟨e, he, hb⟩
theorem wpAnyL_first {i : Nat} {oi : Oper} {v : Value} (hi : ops[i]? = some oi) (hsel : ∀ (j : Nat) (o : Oper) cs b, ops[j]? = some o → o.op ≠ .select cs b)
    (hQ : ∀ c a w, Q (.panic c) (a.put oi.dst v) w → Q (.panic c) a w) (hL : ∀ oL, ops[L]? = some oL → ∃ e ∈ oL.after, Region.binds md e = true ∧ e.on = i) :
    ∀ (fuel : Nat) (listed : Array Bool) (a : Act) (w : World),
      (∀ j oj, ops[j]? = some oj → j ≠ i → listed.getD j true = false → (∀ e ∈ oj.after, Region.binds md e = true → e.on ≠ i) → oi.apart ops oj = true) →
      i ∈ Region.ready md ops listed → YieldsIf P ops S oi v a → S w →
      wpAnyL P md ops Q L S fuel (listed.setIfInBounds i true) (a.put oi.dst v) w → wpAnyL P md ops Q L S (fuel + 1) listed a w := by
  intro fuel
  induction fuel with
  | zero =>
    intro listed a w _ hr hy hS H
    refine ⟨fun h => (by rw [h] at hr; cases hr), fun j hj => ?_⟩
    by_cases hji : j = i
    · subst hji; exact hy.wpOp hi hS ⟨.inr hS, H⟩
    · have := ready_mono hj hji
      rw [H.1] at this
      cases this
  | succ fuel ih =>
    intro listed a w hfree hr hy hS H
    refine ⟨fun h => (by rw [h] at hr; cases hr), fun j hj => ?_⟩
    by_cases hji : j = i
    · subst hji; exact hy.wpOp hi hS ⟨.inr hS, H⟩
    · have h1 := H.2 j (ready_mono hj hji)
      obtain ⟨hjun, oj, hoj, hall⟩ := mem_ready.1 hj
      have hnot : ∀ e ∈ oj.after, Region.binds md e = true → e.on ≠ i := fun e he hb heq => by
        have h1 := hall e he hb
        have h0 := (mem_ready.1 hr).1
        rw [heq] at h1
        rcases Nat.lt_or_ge i listed.size with h' | h'
        · simp [h'] at h0 h1; rw [h0] at h1; cases h1
        · simp [Array.getElem?_eq_none h'] at h1
      have hjL : j ≠ L := fun h => by
        obtain ⟨e, he, hb, h2⟩ := hL oj (h ▸ hoj)
        exact hnot e he hb h2
      have h2 := wpOp_putIf hoj (hfree j oj hoj hji hjun hnot) (fun cs b => hsel i oi cs b hi) (fun cs b => hsel j oj cs b hoj) hQ hy h1
      have hfree' : ∀ k ok, ops[k]? = some ok → k ≠ i → (listed.setIfInBounds j true).getD k true = false →
          (∀ e ∈ ok.after, Region.binds md e = true → e.on ≠ i) → oi.apart ops ok = true := fun k ok hk hki hun hno => by
        refine hfree k ok hk hki ?_ hno
        by_cases hjk : j = k
        · subst hjk; exact hjun
        · rw [getD_set_ne true hjk] at hun; exact hun
      refine wpOp_mono (fun a' w' h3 => ?_) h2
      have hS' : S w' := h3.2.1.resolve_left hjL
      refine ⟨.inr hS', ih (listed.setIfInBounds j true) a' w' hfree' (ready_mono hr (Ne.symm hji)) h3.1 hS' ?_⟩
      rw [Array.setIfInBounds_comm _ _ hji]
      exact h3.2.2
theorem wpAnyL_take {i : Nat} {oi : Oper} {v : Value} {fuel : Nat} {listed : Array Bool} {a : Act} {w : World} (hi : ops[i]? = some oi)
    (hs : Region.noSelect ops = true) (hf : freeL md ops L listed i = true) (hr : (Region.ready md ops listed).contains i = true)
    (hQ : ∀ c a w, Q (.panic c) (a.put oi.dst v) w → Q (.panic c) a w) (hy : YieldsIf P ops S oi v a) (hS : S w)
    (h : wpAnyL P md ops Q L S fuel (listed.setIfInBounds i true) (a.put oi.dst v) w) : wpAnyL P md ops Q L S (fuel + 1) listed a w := by
  unfold freeL at hf
  rw [Bool.and_eq_true] at hf
  exact wpAnyL_first hi (Region.noSelect_spec hs) hQ (waitsL_spec hf.2) fuel listed a w (Region.free_spec hi hf.1) (by simpa using hr) hy hS h
theorem wpAnyL_all {rs : List Nat} {fuel : Nat} {listed : Array Bool} {a : Act} {w : World} (hr : Region.ready md ops listed = rs) (hne : rs ≠ [])
    (h : ∀ i ∈ rs, wpOp P ops Q i (fun a' w' => (i = L ∨ S w') ∧ wpAnyL P md ops Q L S fuel (listed.setIfInBounds i true) a' w') a w) : wpAnyL P md ops Q L S (fuel + 1) listed a w :=
  ⟨fun h0 => absurd (hr ▸ h0) hne, hr ▸ h⟩
theorem wpAnyL_done {listed : Array Bool} {a : Act} {w : World} (hr : Region.ready md ops listed = []) (h : Q .normal a w) :
    ∀ fuel, wpAnyL P md ops Q L S fuel listed a w
  | 0 => ⟨hr, h⟩
  | _ + 1 => ⟨fun _ => h, by rw [hr]; simp⟩
end anyl
/-- One operation: Kn holds behind it. -/
structure OW (P : Program) (n : Nat) (md : Md) (o : Oper) (Kn : Env → World → Prop) (K : Exit → Env → World → Prop) (ρ : Env) (w : World) : Prop where
  out : ∀ a, Fr n md ρ a → ∀ X : Act → World → Prop, (∀ a' w', (∃ ρ', Fr n md ρ' a' ∧ Kn ρ' w') → X a' w') → o.wp P a w X (lift n md K)

section ops
variable {P : Program} {n : Nat} {md : Md} {ops : Array Oper} {rest : List Oper} {K : Exit → Env → World → Prop} {Kn : Env → World → Prop} {ρ : Env} {w : World}
theorem WL.nil (h : K .normal ρ w) : WL P n md ops [] K ρ w := ⟨fun a ha => ⟨ρ, ha, h⟩⟩
theorem WL.op {o : Oper} (hg : o.guard = none) (h : OW P n md o (WL P n md ops rest K) K ρ w) : WL P n md ops (o :: rest) K ρ w :=
  ⟨fun a ha => wpList_plain hg fun X hX => h.out a ha X (fun a' w' ⟨ρ', hf, hk⟩ => hX _ _ (hk.out _ hf))⟩

/-- An operation that yields a value. -/
theorem OW.val {d : Nat} {op : Op} {t : TypeId} {p : String} {e : Array Edge} {g : Option (Nat × Bool)} {v : Value} {w' : World} (hd : Nat.blt d n = true)
    (hr : (execOp (ev ρ) { dst := some d, op := op, type := t, pos := p, after := e, guard := g }).run P w = .ok (.value v) w')
    (k : Kn (upd ρ d v) w') : OW P n md { dst := some d, op := op, type := t, pos := p, after := e, guard := g } Kn K ρ w := by
  refine ⟨fun a ha X hX => ?_⟩
  unfold Oper.wp
  rw [ha.eval, hr]
  exact hX _ _ ⟨_, ha.put hd v, k⟩
/-- An operation that yields nothing. -/
theorem OW.unit {op : Op} {t : TypeId} {p : String} {e : Array Edge} {g : Option (Nat × Bool)} {w' : World}
    (hr : (execOp (ev ρ) { dst := none, op := op, type := t, pos := p, after := e, guard := g }).run P w = .ok .skip w')
    (k : Kn ρ w') : OW P n md { dst := none, op := op, type := t, pos := p, after := e, guard := g } Kn K ρ w := by
  refine ⟨fun a ha X hX => ?_⟩
  unfold Oper.wp
  rw [ha.eval, hr]
  exact hX _ _ ⟨_, ha, k⟩
/-- A call, its result taken. -/
theorem OW.callEnter {d : Nat} {op : Op} {t : TypeId} {p : String} {e : Array Edge} {g : Option (Nat × Bool)} {f : FuncId} {args : Array Value} {R : Ending → World → Prop} (hd : Nat.blt d n = true)
    (hr : (execOp (ev ρ) { dst := some d, op := op, type := t, pos := p, after := e, guard := g }).run P w = .ok (.enter f args) w)
    (hc : Calls P f args w R)
    (k : ∀ e' w', R e' w' → ∃ v, e' = .returned v ∧ Kn (upd ρ d v) w') :
    OW P n md { dst := some d, op := op, type := t, pos := p, after := e, guard := g } Kn K ρ w := by
  refine ⟨fun a ha X hX => ?_⟩
  unfold Oper.wp
  rw [ha.eval, hr]
  refine Calls.mono hc fun e' w' hR => ?_
  obtain ⟨v, rfl, hk⟩ := k e' w' hR
  exact hX _ _ ⟨_, ha.put hd v, hk⟩
theorem OW.callEnter0 {op : Op} {t : TypeId} {p : String} {e : Array Edge} {g : Option (Nat × Bool)} {f : FuncId} {args : Array Value} {R : Ending → World → Prop}
    (hr : (execOp (ev ρ) { dst := none, op := op, type := t, pos := p, after := e, guard := g }).run P w = .ok (.enter f args) w)
    (hc : Calls P f args w R)
    (k : ∀ e' w', R e' w' → ∃ v, e' = .returned v ∧ Kn ρ w') :
    OW P n md { dst := none, op := op, type := t, pos := p, after := e, guard := g } Kn K ρ w := by
  refine ⟨fun a ha X hX => ?_⟩
  unfold Oper.wp
  rw [ha.eval, hr]
  refine Calls.mono hc fun e' w' hR => ?_
  obtain ⟨v, rfl, hk⟩ := k e' w' hR
  exact hX _ _ ⟨_, ha, hk⟩

theorem yielded_of {a : Act} {g gd : Nat} {go : Oper} {b : Bool} (ha : Fr n md ρ a) (hg : ops[g]? = some go) (hgd : go.dst = some gd) (hv : ρ gd = .bool b) : yielded ops a.tmps g = some b := by
  have h1 := ha.get gd
  rw [hv] at h1
  have hlt : gd < a.tmps.size := by
    rcases Nat.lt_or_ge gd a.tmps.size with h | h
    · exact h
    · simp [Array.getD_eq_getD_getElem?, Array.getElem?_eq_none h, undef] at h1
  simp only [Array.getD_eq_getD_getElem?, Array.getElem?_eq_getElem hlt, Option.getD_some] at h1
  simp [yielded, hg, hgd, Array.getElem?_eq_getElem hlt, h1]
/-- An operation whose guard says no. -/
theorem WL.guardNo {d : Nat} {op : Op} {t : TypeId} {p : String} {e : Array Edge} {g : Nat} {b : Bool} {gd : Nat} {go : Oper} (hd : Nat.blt d n = true)
    (hg : ops[g]? = some go) (hgd : go.dst = some gd) (hv : ρ gd = .bool (!b))
    (k : WL P n md ops rest K (upd ρ d undef) w) : WL P n md ops ({ dst := some d, op := op, type := t, pos := p, after := e, guard := some (g, b) } :: rest) K ρ w := by
  refine ⟨fun a ha => ?_⟩
  unfold wpList
  rw [if_neg (by simp [Region.wanted, yielded_of ha hg hgd hv])]
  exact k.out _ (ha.put hd undef)
/-- An operation whose guard says yes goes as one without. -/
theorem WL.guardYes {o : Oper} {g : Nat} {b : Bool} {gd : Nat} {go : Oper} (ho : o.guard = some (g, b))
    (hg : ops[g]? = some go) (hgd : go.dst = some gd) (hv : ρ gd = .bool b)
    (h : OW P n md o (WL P n md ops rest K) K ρ w) : WL P n md ops (o :: rest) K ρ w := by
  refine ⟨fun a ha => ?_⟩
  unfold wpList
  rw [if_pos (by simp [Region.wanted, ho, yielded_of ha hg hgd hv])]
  exact .inl (h.out a ha _ (fun a' w' ⟨ρ', hf, hk⟩ => hk.out _ hf))

structure WA (P : Program) (n : Nat) (md : Md) (ops : Array Oper) (L : Nat) (S : World → Prop) (m : Nat) (listed : Array Bool) (K : Exit → Env → World → Prop) (ρ : Env) (w : World) : Prop where
  out : ∀ a, Fr n md ρ a → wpAnyL P .any ops (lift n md K) L S m listed a w
  kp : md.kp = false
theorem WC.regionD {id : Nat} {L : Nat} {S : World → Prop} {dd kp : Bool} (hm : P.follows .mixedOrders = true) (h : WA P n ⟨none, dd, kp⟩ ops L S ops.size (Array.replicate ops.size false) K ρ { w with drawn := w.drawn + 1 }) :
    WC P n ⟨none, dd, kp⟩ (.region id ops true) K ρ w := ⟨fun a ha => wpIn_wide.2 (wp_region_any hm (wpAny_of_L _ _ _ _ (h.out a ha)))⟩
theorem WC.regionDR {id : Nat} {L : Nat} {S : World → Prop} (hnd : noDefer ops = true) (hm : P.follows .mixedOrders = true) (h : WA P n md ops L S ops.size (Array.replicate ops.size false) K ρ { w with drawn := w.drawn + 1 }) :
    WC P n md (.region id ops true) K ρ w := ⟨fun a ha => wpIn_region_draw fun t => by
      simp only [Region.schedule, hm, Bool.true_or, if_true]
      exact opsIn hnd lift_out _ _ _ (wpAny_sound ops.size t _ a _ (wpAny_of_L _ _ _ _ (h.out a ha)))⟩
section any
variable {L : Nat} {S : World → Prop} {m : Nat} {listed : Array Bool}
theorem WA.done (hr : Region.ready .any ops listed = []) (h : K .normal ρ w) (hk : md.kp = false := by rfl) : WA P n md ops L S m listed K ρ w :=
  ⟨fun a ha => wpAnyL_done hr (show lift n md K .normal a w from ⟨ρ, ha, h⟩) m, hk⟩
/-- An operation that reads alone is taken first. -/
theorem WA.take (i : Nat) {d : Nat} {op : Op} {t : TypeId} {p : String} {e : Array Edge} {v : Value} (hi : ops[i]? = some { dst := some d, op := op, type := t, pos := p, after := e, guard := none })
    (hs : Region.noSelect ops = true) (hf : freeL .any ops L listed i = true) (hr : (Region.ready .any ops listed).contains i = true) (hd : Nat.blt d n = true)
    (hy : ∀ w, S w → (execOp (ev ρ) { dst := some d, op := op, type := t, pos := p, after := e, guard := none }).run P w = .ok (.value v) w) (hS : S w)
    (h : WA P n md ops L S m (listed.setIfInBounds i true) K (upd ρ d v) w) : WA P n md ops L S (m + 1) listed K ρ w :=
  ⟨fun a ha => wpAnyL_take hi hs hf hr (fun _ _ _ ⟨r_, h_, k_⟩ => ⟨r_, h_.back h.kp, k_⟩) (.inl ⟨rfl, fun w hw => by rw [ha.eval]; exact hy w hw⟩) hS (h.out _ (ha.put hd v)), h.kp⟩
theorem WA.takeNo (i : Nat) {d : Nat} {op : Op} {t : TypeId} {p : String} {e : Array Edge} {g gd : Nat} {b : Bool} {go : Oper} (hi : ops[i]? = some { dst := some d, op := op, type := t, pos := p, after := e, guard := some (g, b) })
    (hs : Region.noSelect ops = true) (hf : freeL .any ops L listed i = true) (hr : (Region.ready .any ops listed).contains i = true) (hd : Nat.blt d n = true)
    (hg : ops[g]? = some go) (hgd : go.dst = some gd) (hv : ρ gd = .bool (!b)) (hS : S w)
    (h : WA P n md ops L S m (listed.setIfInBounds i true) K (upd ρ d undef) w) : WA P n md ops L S (m + 1) listed K ρ w :=
  ⟨fun a ha => wpAnyL_take hi hs hf hr (fun _ _ _ ⟨r_, h_, k_⟩ => ⟨r_, h_.back h.kp, k_⟩) (.inr ⟨by simp [Region.wanted, yielded_of ha hg hgd hv], rfl⟩) hS (h.out _ (ha.put hd undef)), h.kp⟩
theorem WA.takeYes (i : Nat) {d : Nat} {op : Op} {t : TypeId} {p : String} {e : Array Edge} {g gd : Nat} {b : Bool} {go : Oper} {v : Value} (hi : ops[i]? = some { dst := some d, op := op, type := t, pos := p, after := e, guard := some (g, b) })
    (hs : Region.noSelect ops = true) (hf : freeL .any ops L listed i = true) (hr : (Region.ready .any ops listed).contains i = true) (hd : Nat.blt d n = true)
    (hg : ops[g]? = some go) (hgd : go.dst = some gd) (hv : ρ gd = .bool b)
    (hy : ∀ w, S w → (execOp (ev ρ) { dst := some d, op := op, type := t, pos := p, after := e, guard := some (g, b) }).run P w = .ok (.value v) w) (hS : S w)
    (h : WA P n md ops L S m (listed.setIfInBounds i true) K (upd ρ d v) w) : WA P n md ops L S (m + 1) listed K ρ w :=
  ⟨fun a ha => wpAnyL_take hi hs hf hr (fun _ _ _ ⟨r_, h_, k_⟩ => ⟨r_, h_.back h.kp, k_⟩) (.inl ⟨by simp [Region.wanted, yielded_of ha hg hgd hv], fun w hw => by rw [ha.eval]; exact hy w hw⟩) hS (h.out _ (ha.put hd v)), h.kp⟩
/-- Just one may come up. -/
theorem WA.one (i : Nat) {o : Oper} (hr : Region.ready .any ops listed = [i]) (hi : ops[i]? = some o) (hg : o.guard = none)
    (h : OW P n md o (fun ρ' w' => S w' ∧ WA P n md ops L S m (listed.setIfInBounds i true) K ρ' w') K ρ w) (hk : md.kp = false := by rfl) : WA P n md ops L S (m + 1) listed K ρ w := by
  refine ⟨fun a ha => wpAnyL_all hr (by simp) fun j hj => ?_, hk⟩
  obtain rfl : j = i := by simpa using hj
  unfold wpOp
  simp only [hi]
  rw [if_pos (by simp [Region.wanted, hg])]
  exact .inl (h.out a ha _ (fun a' w' ⟨ρ', hf, hS, hk⟩ => ⟨.inr hS, hk.out _ hf⟩))
/-- The last one: behind it nothing comes up. -/
theorem WA.last (i : Nat) {o : Oper} (hr : Region.ready .any ops listed = [i]) (hn : Region.ready .any ops (listed.setIfInBounds i true) = []) (hL : i = L) (hi : ops[i]? = some o) (hg : o.guard = none)
    (h : OW P n md o (K .normal) K ρ w) (hk : md.kp = false := by rfl) : WA P n md ops L S (m + 1) listed K ρ w := by
  refine ⟨fun a ha => wpAnyL_all hr (by simp) fun j hj => ?_, hk⟩
  obtain rfl : j = i := by simpa using hj
  unfold wpOp
  simp only [hi]
  rw [if_pos (by simp [Region.wanted, hg])]
  exact .inl (h.out a ha _ (fun a' w' ⟨ρ', hf, hk⟩ => ⟨.inl hL, wpAnyL_done hn ⟨ρ', hf, hk⟩ _⟩))
end any
end ops

/-! Plain operations -/
section plain
variable {P : Program}

/-- A binary operation by what it comes to. -/
def Bin (P : Program) (op : BinOp) (t : TypeId) (a b v : Value) : Prop := ∀ (x y : Operand) (w : World), (do eqGuard op t x y a b; binOp op t a b : Sem Value).run P w = .ok v w
/-- Whole numbers. -/
theorem bin_add {k : IntKind} {a b : Int} {xt : TypeId} : Bin P .add xt (.int k a) (.int k b) (.int k (k.wrap (a + b))) := fun x y w => by simp [eqGuard, binOp, Op.intArith]
theorem bin_sub {k : IntKind} {a b : Int} {xt : TypeId} : Bin P .sub xt (.int k a) (.int k b) (.int k (k.wrap (a - b))) := fun x y w => by simp [eqGuard, binOp, Op.intArith]
theorem bin_mul {k : IntKind} {a b : Int} {xt : TypeId} : Bin P .mul xt (.int k a) (.int k b) (.int k (k.wrap (a * b))) := fun x y w => by simp [eqGuard, binOp, Op.intArith]
theorem bin_eql {k : IntKind} {a b : Int} {xt : TypeId} : Bin P .eql xt (.int k a) (.int k b) (.bool (a == b)) := fun x y w => by simp [eqGuard, binOp, Op.intCmp]
theorem bin_neq {k : IntKind} {a b : Int} {xt : TypeId} : Bin P .neq xt (.int k a) (.int k b) (.bool (a != b)) := fun x y w => by simp [eqGuard, binOp, Op.intCmp]
theorem bin_lss {k : IntKind} {a b : Int} {xt : TypeId} : Bin P .lss xt (.int k a) (.int k b) (.bool (decide (a < b))) := fun x y w => by simp [eqGuard, binOp, Op.intCmp]
theorem bin_leq {k : IntKind} {a b : Int} {xt : TypeId} : Bin P .leq xt (.int k a) (.int k b) (.bool (decide (a ≤ b))) := fun x y w => by simp [eqGuard, binOp, Op.intCmp]
theorem bin_gtr {k : IntKind} {a b : Int} {xt : TypeId} : Bin P .gtr xt (.int k a) (.int k b) (.bool (decide (a > b))) := fun x y w => by simp [eqGuard, binOp, Op.intCmp]
theorem bin_geq {k : IntKind} {a b : Int} {xt : TypeId} : Bin P .geq xt (.int k a) (.int k b) (.bool (decide (a ≥ b))) := fun x y w => by simp [eqGuard, binOp, Op.intCmp]
end plain
end Go.Proofs.YtpmkkhkphddfeaaDoor.SX
