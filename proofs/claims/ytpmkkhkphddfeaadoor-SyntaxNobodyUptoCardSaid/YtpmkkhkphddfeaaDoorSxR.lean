/- Ranges over functions: iterators, rounds; what is deferred at a function's end. -/
import Derived.Test.YtpmkkhkphddfeaaDoorSxQ
import Derived.RangeFuncSeq
set_option linter.unusedVariables false
set_option linter.unusedSimpArgs false
namespace Go.Proofs.YtpmkkhkphddfeaaDoor.SX
open Go Go.RowKit
/-- A block of a tag that holds an object. -/
structure Ob (o : Tags) (w : World) (i b : Nat) (ob : Obj) : Prop where
  tag : o b = i
  heap : w.heap[b]? = some ob
section ob
variable {o o' : Tags} {w w' : World} {i b : Nat} {ob : Obj} {M : List Nat}
theorem Ob.lt (h : Ob o w i b ob) : b < w.heap.size := (Array.getElem?_eq_some_iff.1 h.heap).1
theorem Ob.step (h : Ob o w i b ob) (s : Step o w o' w' M) (hM : M.contains i = false) : Ob o' w' i b ob := by
  have hb := h.lt
  refine ⟨(s.own b hb).trans h.tag, (s.keep b hb (fun hm => ?_)).trans h.heap⟩
  rw [h.tag, ← List.contains_iff_mem, hM] at hm
  cases hm
theorem Ob.pub (h : Ob o w i b ob) (j : Nat) (hj : Nat.beq i j = false) : Ob (SX.pub o j) w i b ob := ⟨pub_other h.tag hj, h.heap⟩
theorem Ob.ren {k l : Nat} (h : Ob o w i b ob) (hi : Nat.beq i k = false) (h0 : Nat.beq 0 k = false) : Ob (SX.ren o k l) w i b ob := ⟨ren_other h.tag hi, h.heap⟩
theorem Ob.renTo {j : Nat} (h : Ob o w i b ob) : Ob (SX.ren o i j) w j b ob := ⟨ren_same h.tag, h.heap⟩
theorem step_put (h : Ob o w i b ob) (ob' : Obj) : Step o w o (w.putObj b ob') [i] ∧ Ob o (w.putObj b ob') i b ob' := by
  refine ⟨⟨rfl, rfl, rfl, by simp, fun _ _ => rfl, fun c hc hm => ?_⟩, h.tag, World.putObj_heap_same h.lt⟩
  refine World.putObj_heap_other ?_
  rintro rfl
  exact hm (by simp [h.tag])
theorem Step.weak {N : List Nat} (s : Step o w o' w' M) (h : subM M N = true) : Step o w o' w' N := Step.trans s (Step.refl _ _ []) h rfl
end ob
def coll (D : Nat) : Deferred := { target := .collected D, args := #[] }
/-- What is deferred is blocks of the tag t without calls, no two the same. -/
def Shut (t : Nat) (ds : List Deferred) (o : Tags) (w : World) : Prop := ds.Nodup ∧ ∀ d ∈ ds, ∃ D, d = coll D ∧ Ob o w t D (.deferred (some []))
section shut
variable {o o' : Tags} {w w' : World} {t : Nat} {ds : List Deferred} {M : List Nat}
theorem Shut.nil : Shut t [] o w := ⟨List.nodup_nil, fun d h => by cases h⟩
theorem Shut.step (h : Shut t ds o w) (s : Step o w o' w' M) (hM : M.contains t = false) : Shut t ds o' w' := ⟨h.1, fun d hd => by
  obtain ⟨D, e, hO⟩ := h.2 d hd
  exact ⟨D, e, hO.step s hM⟩⟩
theorem Shut.pub (h : Shut t ds o w) (j : Nat) (hj : Nat.beq t j = false) : Shut t ds (SX.pub o j) w := ⟨h.1, fun d hd => by
  obtain ⟨D, e, hO⟩ := h.2 d hd
  exact ⟨D, e, hO.pub j hj⟩⟩
theorem Shut.ren {k l : Nat} (h : Shut t ds o w) (hi : Nat.beq t k = false) (h0 : Nat.beq 0 k = false) : Shut t ds (SX.ren o k l) w := ⟨h.1, fun d hd => by
  obtain ⟨D, e, hO⟩ := h.2 d hd
  exact ⟨D, e, hO.ren hi h0⟩⟩
/-- One more, which was laid behind the world w0. -/
theorem Shut.more {o0 : Tags} {w0 : World} {D : Nat} (h0 : Shut t ds o0 w0) (h : Shut t ds o w) (hD : Ob o w t D (.deferred (some []))) (hle : w0.heap.size ≤ D) : Shut t (coll D :: ds) o w := by
  refine ⟨List.nodup_cons.2 ⟨fun hc => ?_, h.1⟩, fun d hd => ?_⟩
  · obtain ⟨E, e, hE⟩ := h0.2 _ hc
    have : D = E := by
      injection e with e1 _
      injection e1
    have := hE.lt
    omega
  · rcases List.mem_cons.1 hd with rfl | hd
    · exact ⟨D, rfl, hD⟩
    · exact h.2 d hd
end shut
/-! A function that defers: its end -/
def TopM (P : Program) (fn : Func) (R : Ending → World → Prop) : Exit → Env → World → Prop
  | .normal, ρ, w | .ret, ρ, w => ∃ (t : Nat) (o : Tags), Shut t ρ.ds o w ∧ ∀ w', Step o w o w' [t] → ∃ vs, Vals P ρ w' fn.results.toList vs ∧ R (.returned (one vs)) w'
  | _, _, _ => False
section topm
variable {P : Program}
theorem shut_leaves {fn : Func} {tmps : Array Value} {R : Ending → World → Prop} {t : Nat} {o : Tags} : ∀ (ds : List Deferred) (w : World), Shut t ds o w →
    (∀ w', Step o w o w' [t] → LeavesIn Fence.wide 0 P fn tmps R [] .returning w') → LeavesInM Fence.wide 0 P fn tmps R ds .returning w
  | [], w, _, h => h w (Step.refl _ _ _)
  | d :: ds, w, hS, h => by
    obtain ⟨D, rfl, hO⟩ := hS.2 d (List.mem_cons_self ..)
    obtain ⟨s, hO'⟩ := step_put hO (.deferred none)
    have hN := List.nodup_cons.1 hS.1
    have hS2 : Shut t ds o (w.putObj D (.deferred none)) := by
      refine ⟨hN.2, fun e he => ?_⟩
      obtain ⟨E, rfl, hE⟩ := hS.2 e (List.mem_cons_of_mem _ he)
      refine ⟨E, rfl, hE.tag, ?_⟩
      rw [World.putObj_heap_other (fun hc => by subst hc; exact hN.1 he)]
      exact hE.heap
    have hsub : subM [t] [t] = true := by simp [subM]
    exact ⟨by simp, .inl ⟨D, _, rfl, run_takeDeferred hO.heap, shut_leaves ds _ hS2 (fun w' s' => h w' (Step.trans s s' hsub hsub))⟩⟩
theorem callsM {f : FuncId} {fn : Func} {c : Code} {w : World} {R : Ending → World → Prop} (avs : List Value) (hf : P.funcs[f]? = some fn) (hb : fn.body = some c) (hn : Nat.ble avs.length fn.ntmps = true)
    (h : WC P fn.ntmps .defer c (TopM P fn R) (envE avs) w) : Calls P f avs.toArray w R := by
  refine (callsIn_wide (n := 0)).1 (callsIn_of_wp_marks hf hb trivial ?_ rfl)
  have fin : ∀ (a : Act) (w : World) (ρ : Env), Fr fn.ntmps .defer ρ a → (∃ (t : Nat) (o : Tags), Shut t ρ.ds o w ∧ ∀ w', Step o w o w' [t] → ∃ vs, Vals P ρ w' fn.results.toList vs ∧ R (.returned (one vs)) w') →
      LeavesInM Fence.wide 0 P fn a.tmps R a.defers .returning w := by
    rintro a w ρ ha ⟨t, o, hS, hv⟩
    rw [ha.defs]
    refine shut_leaves _ _ hS (fun w' s => ?_)
    obtain ⟨vs, h1, h2⟩ := hv w' s
    exact ⟨_, results_run ha h1, h2⟩
  refine wpIn_mono (h.out _ (fr_start hn)) (fun e a w q => ?_)
  cases e with
  | normal => obtain ⟨ρ, ha, hq⟩ := q; exact fin a w ρ ha hq
  | ret => obtain ⟨ρ, ha, hq⟩ := q; exact fin a w ρ ha hq
  | exit i => obtain ⟨ρ, ha, hk⟩ := q; exact hk.elim
  | goto l => obtain ⟨ρ, ha, hk⟩ := q; exact hk.elim
  | panic c => obtain ⟨ρ, ha, hk⟩ := q; exact hk.elim
  | outgrown => exact q.elim
end topm
/-! Iterators -/
/-- The function g, with lb caught, hands the values xs on, one by one; C q: what holds of its own blocks when q have come; it writes to the tag ts alone. -/
def Iter {α : Type} (P : Program) (g : Nat) (lb : Array Value) (encs : α → Array Value) (xs : List α) (ts : Nat) (C : Nat → Tags → World → Prop) : Prop :=
  ∀ (l : Nat) (R : Nat → Tags → World → Prop) (X : Tags → World → Prop) (o : Tags) (w : World),
    (∀ q o w o' w', R q o w → Step o w o' w' [ts] → R q o' w') →
    (∀ o w o' w', X o w → Step o w o' w' [ts] → X o' w') →
    (∀ q x o w, xs[q]? = some x → R q o w → C q o w → YieldAt Fence.wide 0 P l (encs x) w fun e w' => ∃ o', (e = .returned (.bool true) ∧ R (q + 1) o' w' ∧ C q o' w') ∨ (e = .returned (.bool false) ∧ X o' w')) →
    R 0 o w → C 0 o w →
    Calls P g (#[.func (.yield l) #[] #[]] ++ lb) w fun e w' => (∃ v, e = .returned v) ∧ ∃ o', (R xs.length o' w' ∧ C xs.length o' w') ∨ X o' w'
def updL (ρ : Env) : List (Nat × Value) → Env
  | [] => ρ
  | (p, v) :: l => updL (upd ρ p v) l
theorem updL_ds : ∀ (l : List (Nat × Value)) (ρ : Env), (updL ρ l).ds = ρ.ds
  | [], ρ => rfl
  | (p, v) :: l, ρ => updL_ds l (upd ρ p v)
theorem Fr.updL {n : Nat} {md : Md} : ∀ (l : List (Nat × Value)) {ρ : Env} {a : Act}, Fr n md ρ a → l.all (fun q => Nat.blt q.1 n) = true →
    Fr n md (SX.updL ρ l) { a with tmps := l.foldl (fun t q => t.setIfInBounds q.1 q.2) a.tmps }
  | [], ρ, a, h, _ => h
  | (p, v) :: l, ρ, a, h, hp => by
    rw [List.all_cons, Bool.and_eq_true] at hp
    exact Fr.updL l (h.put hp.1 v) hp.2
theorem Fr.round {n : Nat} {md : Md} {ρ : Env} {a : Act} (l : Nat) (h : Fr n md ρ a) : Fr n (.round l) ⟨ρ.get, []⟩ { a with defers := [] } := ⟨h.size, h.get, rfl, fun _ => rfl⟩
def codeOf : Option Nat → Code
  | none => .ret
  | some id => .exit id
def exitOf : Option Nat → Exit
  | none => .ret
  | some id => .exit id
/-- How a round may end. -/
def RK (tL l D : Nat) (obL : Obj) (R : Tags → World → Prop) (X : Option Nat → Tags → World → Prop) : Exit → Env → World → Prop
  | .normal, _, w => ∃ o, Ob o w tL l obL ∧ Ob o w tL D (.deferred (some [])) ∧ R o w
  | .ret, _, w => ∃ o, Ob o w tL l obL ∧ Ob o w tL D (.deferred (some [])) ∧ X none o w
  | .exit i, _, w => ∃ o, Ob o w tL l obL ∧ Ob o w tL D (.deferred (some [])) ∧ X (some i) o w
  | _, _, _ => False
section range
variable {P : Program} {n : Nat} {K : Exit → Env → World → Prop} {ρ : Env} {w : World} {o : Tags}
theorem WC.rangeFunc {α : Type} {g : Operand} {ps : Array Tmp} {assign body : Code} {gf : Nat} {fn : Func} {lb : Array Value} {encs : α → Array Value} {xs : List α} {C : Nat → Tags → World → Prop} (ts tL : Nat) {o0 : Tags} {w0 : World} {T : List Nat} (HF : Fm o0 w0 o w T)
    (hg : ev ρ g = .func (.func gf) #[] lb) (hf : P.funcs[gf]? = some fn) (hn : (fn.name == "runtime.NumGoroutine") = false) (hb : fn.body.isNone = false) (hit : Iter P gf lb encs xs ts C) (hne : Nat.beq ts tL = false) (hps : ∀ x, (encs x).size = ps.size) (hpn : ps.all (fun p => Nat.blt p n) = true) {zs : α → List (Nat × Value)} (hz : ∀ x, (ps.zip (encs x)).toList = zs x)
    (R : Nat → Tags → World → Prop) (X : Option Nat → Tags → World → Prop)
    (hR : ∀ q o w o' w', R q o w → Step o w o' w' [ts, tL] → R q o' w') (hX : ∀ c o w o' w', X c o w → Step o w o' w' [ts, tL] → X c o' w') (hC : ∀ q o w o' w', C q o w → Step o w o' w' [tL] → C q o' w')
    (h0 : ∀ o' w', Step o w o' w' [] → R 0 o' w' ∧ C 0 o' w')
    (hbody : ∀ l D obL obB q x o w, xs[q]? = some x → R q o w → C q o w → Ob o w tL l obL → Ob o w tL D (.deferred (some [])) →
      WC P n (.round l) assign (thn (fun ρ1 w1 => ∃ o1, Ob o1 w1 tL l obL ∧ Ob o1 w1 tL D (.deferred (some [])) ∧
        ∀ w2, Step o1 w1 o1 w2 [tL] → Ob o1 w2 tL l obB → Ob o1 w2 tL D (.deferred (some [])) → WC P n (.round l) body (RK tL l D obB (fun o w => R (q + 1) o w ∧ C q o w) X) ρ1 w2) (fun _ _ _ => False)) ⟨(updL ρ (zs x)).get, []⟩ w)
    (hdone : ∀ D o' w', R xs.length o' w' → C xs.length o' w' → Ob o' w' tL D (.deferred (some [])) → w.heap.size ≤ D → K .normal ⟨ρ.get, coll D :: ρ.ds⟩ w')
    (hexit : ∀ c D o' w', X c o' w' → Ob o' w' tL D (.deferred (some [])) → w.heap.size ≤ D → K (exitOf c) ⟨ρ.get, coll D :: ρ.ds⟩ w') :
    WC P n .defer (.rangeFunc g ps assign body) K ρ w := by
  refine ⟨fun a ha => ?_⟩
  have hfr : ∀ D, Fr n .defer ⟨ρ.get, coll D :: ρ.ds⟩ { a with defers := [coll D] ++ a.defers } := fun D => ⟨ha.size, ha.get, by show coll D :: a.defers = _; rw [ha.defs], fun h => by cases h⟩
  refine wpIn_rangeFunc (F := Fence.wide) (n := 0) ?_
  intro fid _
  obtain ⟨rec, hrec⟩ : ∃ rec : LoopState → Option Code → Loop, rec = fun st pe => { state := st, pending := pe, fn := fid, tmps := a.tmps, params := ps, assign, body, defers := w.heap.size } := ⟨_, rfl⟩
  -- the two blocks
  have s1 := step_alloc o w tL (.deferred (some [])) []
  have s2 := step_alloc (fun b => bif Nat.beq b w.heap.size then tL else o b) (w.alloc (.deferred (some []))) tL (.loop (rec .ready none)) []
  have s12 := Step.trans s1 s2 (M := []) rfl rfl
  have hD1 : Ob (fun b => bif Nat.beq b w.heap.size then tL else o b) (w.alloc (.deferred (some []))) tL w.heap.size (.deferred (some [])) := ⟨by simp, heap_alloc_new w _⟩
  have hD2 := hD1.step s2 rfl
  have hsz : (w.alloc (.deferred (some []))).heap.size = w.heap.size + 1 := by simp
  have hL2 : Ob (fun b => bif Nat.beq b (w.alloc (.deferred (some []))).heap.size then tL else bif Nat.beq b w.heap.size then tL else o b) ((w.alloc (.deferred (some []))).alloc (.loop (rec .ready none))) tL (w.heap.size + 1) (.loop (rec .ready none)) := by
    refine ⟨by simp [hsz], ?_⟩
    have := heap_alloc_new (w.alloc (.deferred (some []))) (.loop (rec .ready none))
    rw [hsz] at this
    exact this
  obtain ⟨hR0, hC0⟩ := h0 _ _ s12
  generalize (fun b => bif Nat.beq b (w.alloc (.deferred (some []))).heap.size then tL else bif Nat.beq b w.heap.size then tL else o b) = o2 at *
  have hW2 : (Instr.enterLoop fid a.tmps ps assign body none).run P w = .ok (w.heap.size + 1, [coll w.heap.size]) ((w.alloc (.deferred (some []))).alloc (.loop (rec .ready none))) := by
    rw [hrec]; exact run_enterLoop_outer _ _ _ _ _
  generalize (w.alloc (.deferred (some []))).alloc (.loop (rec .ready none)) = w2 at *
  clear s1 s2 hD1
  have hgv : a.eval g = .func (.func gf) #[] lb := by rw [ha.eval]; exact hg
  refine ⟨w.heap.size + 1, [coll w.heap.size], w2, { target := .fn (.func gf) lb, args := #[.func (.yield (w.heap.size + 1)) #[] #[]] }, w2, gf, #[.func (.yield (w.heap.size + 1)) #[] #[]] ++ lb, w2, hW2, ?_, fun _ _ => trivial, ?_, fun h => (by cases h), calls_fen (rd := none) ?_⟩
  · simp only [resolve, hgv]
    simp [go_sem]
  · have := run_callFunc (P := P) (w := w2) (args := #[.func (.yield (w.heap.size + 1)) #[] #[]] ++ lb) hf hn hb
    simp [invoke, go_sem, this]
  have hmon : subM [tL] [ts, tL] = true := by simp [subM]
  have hmon2 : subM [ts] [ts, tL] = true := by simp [subM]
  have hnc : ([ts] : List Nat).contains tL = false := by
    rw [← Bool.not_eq_true]
    intro h
    simp at h
    rw [h] at hne
    simp at hne
  refine Calls.mono (hit (w.heap.size + 1)
    (fun q o w' => R q o w' ∧ Ob o w' tL (w.heap.size + 1) (.loop (rec .ready none)) ∧ Ob o w' tL w.heap.size (.deferred (some [])))
    (fun o w' => ∃ c, X c o w' ∧ Ob o w' tL (w.heap.size + 1) (.loop (rec .done (some (codeOf c)))) ∧ Ob o w' tL w.heap.size (.deferred (some [])))
    o2 w2
    (fun q o w o' w' h s => ⟨hR q o w o' w' h.1 (s.weak hmon2), h.2.1.step s hnc, h.2.2.step s hnc⟩)
    (fun o w o' w' ⟨c, h1, h2, h3⟩ s => ⟨c, hX c o w o' w' h1 (s.weak hmon2), h2.step s hnc, h3.step s hnc⟩)
    ?_ ⟨hR0, hL2, hD2⟩ hC0) ?_
  · -- a round
    rintro q x o3 w3 hx ⟨hr3, hl3, hd3⟩ hc3
    have hy := run_yield (P := P) (args := encs x) hl3.heap (by rw [hrec]; exact hps x)
    rw [hrec] at hy
    refine ⟨fid, _, assign, body, hy, roundIn_of_wpIn trivial ?_⟩
    have hfr0 := (ha.round (w.heap.size + 1)).updL (ps.zip (encs x)).toList (by
      rw [List.all_eq_true]
      rintro ⟨p, v⟩ hp
      have hp1 : p ∈ ps.toList := by
        rw [Array.toList_zip] at hp
        exact (List.of_mem_zip hp).1
      have := (Array.all_eq_true'.1 hpn) p (by simpa using hp1)
      exact this)
    have hfr1 : Fr n (.round (w.heap.size + 1)) ⟨(updL ρ (ps.zip (encs x)).toList).get, []⟩ { tmps := (ps.zip (encs x)).foldl (fun t (p, v) => t.setIfInBounds p v) a.tmps, defers := [] } := by
      have e1 : SX.updL (⟨ρ.get, []⟩ : Env) (ps.zip (encs x)).toList = ⟨(updL ρ (ps.zip (encs x)).toList).get, []⟩ := by
        have key : ∀ (l : List (Nat × Value)) (g : Nat → Value) (d1 : List Deferred), SX.updL (⟨g, []⟩ : Env) l = ⟨(updL (⟨g, d1⟩ : Env) l).get, []⟩ := by
          intro l
          induction l with
          | nil => intro g d1; rfl
          | cons pv l ih => intro g d1; exact ih _ _
        exact key _ _ ρ.ds
      rw [e1] at hfr0
      have e2 : (ps.zip (encs x)).toList.foldl (fun (t : Array Value) q => t.setIfInBounds q.1 q.2) a.tmps = (ps.zip (encs x)).foldl (fun t (p, v) => t.setIfInBounds p v) a.tmps := by
        rw [← Array.foldl_toList]
      rw [← e2]
      exact hfr0
    rw [hz x] at hfr1
    have hgo := (hbody (w.heap.size + 1) w.heap.size _ (.loop { rec .ready none with state := .busy }) q x o3 w3 hx hr3 hc3 hl3 hd3).out _ hfr1
    refine wpIn_mono hgo (fun e a1 w4 hq => ?_)
    cases e with
    | normal =>
      obtain ⟨ρ1, hf1, o4, hl4, hd4, hgo4⟩ := hq
      have hb4 := run_beginRound (P := P) hl4.heap (by rw [hrec])
      obtain ⟨s5, hl5⟩ := step_put hl4 (.loop { rec .ready none with state := .busy })
      have hd5 : Ob o4 (w4.putObj (w.heap.size + 1) (.loop { rec .ready none with state := .busy })) tL w.heap.size (.deferred (some [])) := by
        refine ⟨hd4.tag, ?_⟩
        rw [World.putObj_heap_other (by omega)]
        exact hd4.heap
      refine ⟨_, hb4, wpIn_mono ((hgo4 _ s5 hl5 hd5).out _ hf1) (fun e a2 w6 hq2 => ?_)⟩
      have fin : ∀ (jump : Option Code) (o6 : Tags), Ob o6 w6 tL (w.heap.size + 1) (.loop { rec .ready none with state := .busy }) → Ob o6 w6 tL w.heap.size (.deferred (some [])) →
          (Instr.endRound (w.heap.size + 1) jump).run P w6 = .ok (.bool jump.isNone) (w6.putObj (w.heap.size + 1) (.loop (rec (if jump.isNone then .ready else .done) jump))) ∧
          Step o6 w6 o6 (w6.putObj (w.heap.size + 1) (.loop (rec (if jump.isNone then .ready else .done) jump))) [tL] ∧
          Ob o6 (w6.putObj (w.heap.size + 1) (.loop (rec (if jump.isNone then .ready else .done) jump))) tL (w.heap.size + 1) (.loop (rec (if jump.isNone then .ready else .done) jump)) ∧
          Ob o6 (w6.putObj (w.heap.size + 1) (.loop (rec (if jump.isNone then .ready else .done) jump))) tL w.heap.size (.deferred (some [])) := by
        intro jump o6 hl6 hd6
        have h1 := run_endRound (P := P) jump hl6.heap
        rw [hrec] at h1 ⊢
        obtain ⟨s7, hl7⟩ := step_put hl6 (.loop { state := if jump.isNone then .ready else .done, pending := jump, fn := fid, tmps := a.tmps, params := ps, assign, body, defers := w.heap.size })
        refine ⟨h1, s7, hl7, hd6.tag, ?_⟩
        rw [World.putObj_heap_other (by omega)]
        exact hd6.heap
      cases e with
      | normal =>
        obtain ⟨ρ2, hf2, o6, hl6, hd6, hr6, hc6⟩ := hq2
        obtain ⟨h1, s7, hl7, hd7⟩ := fin none o6 hl6 hd6
        exact ⟨_, _, h1, o6, .inl ⟨rfl, ⟨hR _ _ _ _ _ hr6 (s7.weak hmon), hl7, hd7⟩, hC _ _ _ _ _ hc6 s7⟩⟩
      | ret =>
        obtain ⟨ρ2, hf2, o6, hl6, hd6, hx6⟩ := hq2
        obtain ⟨h1, s7, hl7, hd7⟩ := fin (some .ret) o6 hl6 hd6
        exact ⟨_, _, h1, o6, .inr ⟨rfl, none, hX _ _ _ _ _ hx6 (s7.weak hmon), hl7, hd7⟩⟩
      | exit i =>
        obtain ⟨ρ2, hf2, o6, hl6, hd6, hx6⟩ := hq2
        obtain ⟨h1, s7, hl7, hd7⟩ := fin (some (.exit i)) o6 hl6 hd6
        exact ⟨_, _, h1, o6, .inr ⟨rfl, some i, hX _ _ _ _ _ hx6 (s7.weak hmon), hl7, hd7⟩⟩
      | goto l => obtain ⟨ρ2, hf2, hk⟩ := hq2; exact hk.elim
      | panic c => obtain ⟨ρ2, hf2, hk⟩ := hq2; exact hk.elim
      | outgrown => exact hq2.elim
    | ret => obtain ⟨ρ2, hf2, hk⟩ := hq; exact hk.elim
    | exit i => obtain ⟨ρ2, hf2, hk⟩ := hq; exact hk.elim
    | goto l => obtain ⟨ρ2, hf2, hk⟩ := hq; exact hk.elim
    | panic c => obtain ⟨ρ1, hf1, hk⟩ := hq; exact hk.elim
    | outgrown => exact hq.elim
  · -- behind the iterator
    rintro e w3 ⟨⟨v, rfl⟩, o3, (⟨⟨hr3, hl3, hd3⟩, hc3⟩ | ⟨c, hx3, hl3, hd3⟩)⟩
    · have h1 := run_endLoop (P := P) hl3.heap (by rw [hrec]; simp)
      obtain ⟨s4, hl4⟩ := step_put hl3 (.loop { rec .ready none with state := .exhausted })
      have hd4 : Ob o3 (w3.putObj (w.heap.size + 1) (.loop { rec .ready none with state := .exhausted })) tL w.heap.size (.deferred (some [])) := by
        refine ⟨hd3.tag, ?_⟩
        rw [World.putObj_heap_other (by omega)]
        exact hd3.heap
      refine ⟨none, _, (by rw [h1, hrec]), ?_⟩
      rw [hrec] at *
      exact ⟨_, hfr _, hdone _ _ _ (hR _ _ _ _ _ hr3 (s4.weak hmon)) (hC _ _ _ _ _ hc3 s4) hd4 (Nat.le_refl _)⟩
    · have h1 := run_endLoop (P := P) hl3.heap (by rw [hrec]; simp)
      obtain ⟨s4, hl4⟩ := step_put hl3 (.loop { rec .done (some (codeOf c)) with state := .exhausted })
      have hd4 : Ob o3 (w3.putObj (w.heap.size + 1) (.loop { rec .done (some (codeOf c)) with state := .exhausted })) tL w.heap.size (.deferred (some [])) := by
        refine ⟨hd3.tag, ?_⟩
        rw [World.putObj_heap_other (by omega)]
        exact hd3.heap
      refine ⟨some (codeOf c), _, (by rw [h1, hrec]), ?_⟩
      rw [hrec] at *
      have hk := hexit c _ _ _ (hX _ _ _ _ _ hx3 (s4.weak hmon)) hd4 (Nat.le_refl _)
      cases c with
      | none => exact wpIn_ret ⟨_, hfr _, hk⟩
      | some i => exact wpIn_exit ⟨_, hfr _, hk⟩
/-- The same with its block: Post holds where the loop is over, or left by its own exit; Xr where it returns. -/
theorem WC.rangeFor {α : Type} {id : Nat} {g : Operand} {ps : Array Tmp} {assign body : Code} {gf : Nat} {fn : Func} {lb : Array Value} {encs : α → Array Value} {xs : List α} {C : Nat → Tags → World → Prop} (ts tL : Nat) {o0 : Tags} {w0 : World} {T : List Nat} (HF : Fm o0 w0 o w T)
    (hg : ev ρ g = .func (.func gf) #[] lb) (hf : P.funcs[gf]? = some fn) (hn : (fn.name == "runtime.NumGoroutine") = false) (hb : fn.body.isNone = false) (hit : Iter P gf lb encs xs ts C) (hne : Nat.beq ts tL = false) (hps : ∀ x, (encs x).size = ps.size) (hpn : ps.all (fun p => Nat.blt p n) = true) {zs : α → List (Nat × Value)} (hz : ∀ x, (ps.zip (encs x)).toList = zs x)
    (R : Nat → Tags → World → Prop) (Post Xr : Tags → World → Prop)
    (hR : ∀ q o w o' w', R q o w → Step o w o' w' [ts, tL] → R q o' w') (hP : ∀ o w o' w', Post o w → Step o w o' w' [ts, tL] → Post o' w') (hX : ∀ o w o' w', Xr o w → Step o w o' w' [ts, tL] → Xr o' w') (hC : ∀ q o w o' w', C q o w → Step o w o' w' [tL] → C q o' w')
    (h0 : ∀ o' w', Step o w o' w' [] → R 0 o' w' ∧ C 0 o' w')
    (hbody : ∀ l D obL obB q x o w, xs[q]? = some x → R q o w → C q o w → Ob o w tL l obL → Ob o w tL D (.deferred (some [])) →
      WC P n (.round l) assign (thn (fun ρ1 w1 => ∃ o1, Ob o1 w1 tL l obL ∧ Ob o1 w1 tL D (.deferred (some [])) ∧
        ∀ w2, Step o1 w1 o1 w2 [tL] → Ob o1 w2 tL l obB → Ob o1 w2 tL D (.deferred (some [])) → WC P n (.round l) body (RK tL l D obB (fun o w => R (q + 1) o w ∧ C q o w) (fun c o w => match c with | none => Xr o w | some i => i = id ∧ Post o w)) ρ1 w2) (fun _ _ _ => False)) ⟨(updL ρ (zs x)).get, []⟩ w)
    (hend : ∀ o' w', R xs.length o' w' → C xs.length o' w' → Post o' w')
    (hpost : ∀ D o' w', Post o' w' → Ob o' w' tL D (.deferred (some [])) → w.heap.size ≤ D → K .normal ⟨ρ.get, coll D :: ρ.ds⟩ w')
    (hret : ∀ D o' w', Xr o' w' → Ob o' w' tL D (.deferred (some [])) → w.heap.size ≤ D → K .ret ⟨ρ.get, coll D :: ρ.ds⟩ w') :
    WC P n .defer (.block id (.rangeFunc g ps assign body)) K ρ w := by
  refine WC.block (WC.rangeFunc ts tL HF hg hf hn hb hit hne hps hpn hz R (fun c o w => match c with | none => Xr o w | some i => i = id ∧ Post o w) hR (fun c => ?_) hC h0 hbody (fun D o' w' h1 h2 h3 h4 => hpost D o' w' (hend o' w' h1 h2) h3 h4) (fun c D o' w' h1 h2 h3 => ?_))
  · cases c with
    | none => exact hX
    | some i => exact fun o w o' w' ⟨e, h⟩ s => ⟨e, hP o w o' w' h s⟩
  · cases c with
    | none => exact hret D o' w' h1 h2 h3
    | some i =>
      obtain ⟨rfl, h1⟩ := h1
      show (bif Nat.beq i i then K .normal _ w' else _)
      rw [show Nat.beq i i = true from by simp]
      exact hpost D o' w' h1 h2 h3
end range
theorem drop_of {α : Type} {xs : List α} {q : Nat} {x : α} (h : xs[q]? = some x) : xs.drop q = x :: xs.drop (q + 1) := by
  obtain ⟨hl, rfl⟩ := List.getElem?_eq_some_iff.1 h
  exact drop_cons hl
theorem of_drop {α : Type} {xs l : List α} {q : Nat} {x : α} (h : xs.drop q = x :: l) : xs[q]? = some x ∧ xs.drop (q + 1) = l ∧ q < xs.length := by
  have hl : q < xs.length := by
    apply Classical.byContradiction
    intro hc
    rw [List.drop_eq_nil_of_le (by omega)] at h
    cases h
  rw [drop_cons hl] at h
  injection h with h1 h2
  exact ⟨by rw [List.getElem?_eq_getElem hl, h1], h2, hl⟩
end Go.Proofs.YtpmkkhkphddfeaaDoor.SX
