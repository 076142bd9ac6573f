/- Orders that are drawn; guards; what the program's variables hold. -/
import Derived.Test.YtpmkkhkphddfeaaDoorSxI
set_option linter.unusedVariables false
set_option linter.unusedSimpArgs false
namespace Go.Proofs.YtpmkkhkphddfeaaDoor.SX
open Go Go.RowKit
section drawn
variable {P : Program} {n : Nat} {md : Md} {ops : Array Oper} {rest : List Oper} {K : Exit → Env → World → Prop} {ρ : Env} {w : World}
/-- A guard that hangs on what was not carried out. -/
theorem yielded_undef {a : Act} {g gd : Nat} {go : Oper} (ha : Fr n md ρ a) (hg : ops[g]? = some go) (hgd : go.dst = some gd) (hv : ρ gd = undef) : yielded ops a.tmps g = none := by
  have h1 := ha.get gd
  rw [hv] at h1
  simp only [yielded, hg]
  rcases Nat.lt_or_ge gd a.tmps.size with h | h
  · simp only [Array.getD_eq_getD_getElem?, Array.getElem?_eq_getElem h, Option.getD_some] at h1
    simp [hgd, Array.getElem?_eq_getElem h, h1, undef]
  · simp [hgd, Array.getElem?_eq_none h]
theorem WL.guardUn {d : Nat} {op : Op} {t : TypeId} {p : String} {e : Array Edge} {g : Nat} {b : Bool} {gd : Nat} {go : Oper} (hd : Nat.blt d n = true)
    (hg : ops[g]? = some go) (hgd : go.dst = some gd) (hv : ρ gd = undef)
    (k : WL P n md ops rest K (upd ρ d undef) w) : WL P n md ops ({ dst := some d, op := op, type := t, pos := p, after := e, guard := some (g, b) } :: rest) K ρ w := by
  refine ⟨fun a ha => ?_⟩
  unfold wpList
  rw [if_neg (by simp [Region.wanted, yielded_undef ha hg hgd hv])]
  exact k.out _ (ha.put hd undef)
theorem WL.guardNo0 {op : Op} {t : TypeId} {p : String} {e : Array Edge} {g : Nat} {b : Bool} {gd : Nat} {go : Oper}
    (hg : ops[g]? = some go) (hgd : go.dst = some gd) (hv : ρ gd = .bool (!b))
    (k : WL P n md ops rest K ρ w) : WL P n md ops ({ dst := none, op := op, type := t, pos := p, after := e, guard := some (g, b) } :: rest) K ρ w := by
  refine ⟨fun a ha => ?_⟩
  unfold wpList
  rw [if_neg (by simp [Region.wanted, yielded_of ha hg hgd hv])]
  exact k.out _ ha
theorem WL.guardUn0 {op : Op} {t : TypeId} {p : String} {e : Array Edge} {g : Nat} {b : Bool} {gd : Nat} {go : Oper}
    (hg : ops[g]? = some go) (hgd : go.dst = some gd) (hv : ρ gd = undef)
    (k : WL P n md ops rest K ρ w) : WL P n md ops ({ dst := none, op := op, type := t, pos := p, after := e, guard := some (g, b) } :: rest) K ρ w := by
  refine ⟨fun a ha => ?_⟩
  unfold wpList
  rw [if_neg (by simp [Region.wanted, yielded_undef ha hg hgd hv])]
  exact k.out _ ha

theorem step_drawn (o : Tags) (w : World) (M : List Nat) : Step o w o { w with drawn := w.drawn + 1 } M := ⟨rfl, rfl, rfl, Nat.le_refl _, fun _ _ => rfl, fun _ _ _ => rfl⟩
theorem Fm.here {o0 o : Tags} {w0 w : World} {T : List Nat} (HF : Fm o0 w0 o w T) (M : List Nat) : Step o w o w M := Step.refl o w M
theorem Fm.ten {V L : List Nat} {o0 o : Tags} {w0 w : World} {T : List Nat} (HF : Fm o0 w0 o w T) (hL : Nat.ble L.length 17 = true) : ∀ b, b < w.heap.size → SX.vw V L o b < 40 := vw_ten hL
/-- What stands throughout a region: a step from its beginning. -/
abbrev SR (oD : Tags) (wD : World) (M : List Nat) : World → Prop := fun w' => ∃ o', Step oD wD o' w' M
theorem WC.regionD' {id : Nat} {dd : Bool} {o0 o : Tags} {w0 : World} {T : List Nat} (HF : Fm o0 w0 o w T) (M : List Nat) (L m : Nat) (hm : P.follows .mixedOrders = true) (hn : ops.size = m)
    (h : ∀ w', Step o w o w' [] → WA P n ⟨none, dd, false⟩ ops L (SR o w' M) m (Array.replicate m false) K ρ w') : WC P n ⟨none, dd, false⟩ (.region id ops true) K ρ w := by
  subst hn
  exact WC.regionD hm (h _ (step_drawn o w []))
theorem WC.regionDR' {id : Nat} {o0 o : Tags} {w0 : World} {T : List Nat} (HF : Fm o0 w0 o w T) (M : List Nat) (L m : Nat) (hnd : noDefer ops = true) (hm : P.follows .mixedOrders = true) (hn : ops.size = m)
    (h : ∀ w', Step o w o w' [] → WA P n md ops L (SR o w' M) m (Array.replicate m false) K ρ w') : WC P n md (.region id ops true) K ρ w := by
  subst hn
  exact WC.regionDR hnd hm (h _ (step_drawn o w []))
variable {L : Nat} {S : World → Prop} {m : Nat} {listed : Array Bool}
theorem WA.norm {listed' : Array Bool} (hl : listed = listed') (h : WA P n md ops L S m listed' K ρ w) : WA P n md ops L S m listed K ρ w := by subst hl; exact h
theorem WA.exYes {i : Nat} {d : Nat} {op : Op} {t : TypeId} {p : String} {e : Array Edge} {g gd : Nat} {b : Bool} {go : Oper} {v : Value} (hi : ops[i]? = some { dst := some d, op := op, type := t, pos := p, after := e, guard := some (g, b) })
    (hs : Region.noSelect ops = true) (hf : freeL .any ops L listed i = true) (hr : (Region.ready .any ops listed).contains i = true) (hd : Nat.blt d n = true)
    (hg : ops[g]? = some go) (hgd : go.dst = some gd) (hv : ρ gd = .bool b) (hS : S w) (hy : ∀ w, S w → Ex P ρ op t w v w)
    (h : WA P n md ops L S m (listed.setIfInBounds i true) K (upd ρ d v) w) : WA P n md ops L S (m + 1) listed K ρ w :=
  WA.takeYes i hi hs hf hr hd hg hgd hv (fun w hw => hy w hw _ _ _ _) hS h
theorem WA.takeUn (i : Nat) {d : Nat} {op : Op} {t : TypeId} {p : String} {e : Array Edge} {g gd : Nat} {b : Bool} {go : Oper} (hi : ops[i]? = some { dst := some d, op := op, type := t, pos := p, after := e, guard := some (g, b) })
    (hs : Region.noSelect ops = true) (hf : freeL .any ops L listed i = true) (hr : (Region.ready .any ops listed).contains i = true) (hd : Nat.blt d n = true)
    (hg : ops[g]? = some go) (hgd : go.dst = some gd) (hv : ρ gd = undef) (hS : S w)
    (h : WA P n md ops L S m (listed.setIfInBounds i true) K (upd ρ d undef) w) : WA P n md ops L S (m + 1) listed K ρ w :=
  ⟨fun a ha => wpAnyL_take hi hs hf hr (fun _ _ _ ⟨r_, h_, k_⟩ => ⟨r_, h_.back h.kp, k_⟩) (.inr ⟨by simp [Region.wanted, yielded_undef ha hg hgd hv], rfl⟩) hS (h.out _ (ha.put hd undef)), h.kp⟩
/-- Just one may come up; its guard says yes. -/
theorem WA.oneYes (i : Nat) {o : Oper} {g gd : Nat} {b : Bool} {go : Oper} (hr : Region.ready .any ops listed = [i]) (hi : ops[i]? = some o) (ho : o.guard = some (g, b))
    (hg : ops[g]? = some go) (hgd : go.dst = some gd) (hv : ρ gd = .bool b)
    (h : OW P n md o (fun ρ' w' => S w' ∧ WA P n md ops L S m (listed.setIfInBounds i true) K ρ' w') K ρ w) (hk : md.kp = false := by rfl) : WA P n md ops L S (m + 1) listed K ρ w := by
  refine ⟨fun a ha => wpAnyL_all hr (by simp) fun j hj => ?_, hk⟩
  obtain rfl : j = i := by simpa using hj
  unfold wpOp
  simp only [hi]
  rw [if_pos (by simp [Region.wanted, ho, yielded_of ha hg hgd hv])]
  exact .inl (h.out a ha _ (fun a' w' ⟨ρ', hf, hS, hk⟩ => ⟨.inr hS, hk.out _ hf⟩))
/-- Just one may come up; its guard says no. -/
theorem WA.oneNo0 (i : Nat) {o : Oper} {g gd : Nat} {b : Bool} {go : Oper} (hr : Region.ready .any ops listed = [i]) (hi : ops[i]? = some o) (hd : o.dst = none) (ho : o.guard = some (g, b))
    (hg : ops[g]? = some go) (hgd : go.dst = some gd) (hv : ρ gd = .bool (!b)) (hS : S w)
    (h : WA P n md ops L S m (listed.setIfInBounds i true) K ρ w) : WA P n md ops L S (m + 1) listed K ρ w := by
  refine ⟨fun a ha => wpAnyL_all hr (by simp) fun j hj => ?_, h.kp⟩
  obtain rfl : j = i := by simpa using hj
  unfold wpOp
  simp only [hi]
  rw [if_neg (by simp [Region.wanted, ho, yielded_of ha hg hgd hv])]
  rw [hd]
  exact ⟨.inr hS, h.out _ ha⟩
end drawn
section held
variable {oD o o' : Tags} {wD w w' : World} {M : List Nat}
theorem held_cell {t : Nat} {a : Addr} {v : Value} (s : Step oD wD o w M) (s' : SR oD wD M w') (ha : oD a.block = t ∧ a.block < wD.heap.size) (hM : M.contains t = false) (hc : w.cell? a = some v) : w'.cell? a = some v := by
  obtain ⟨o', s'⟩ := s'
  have hn : oD a.block ∉ M := by rw [ha.1]; intro h; rw [← List.contains_iff_mem, hM] at h; cases h
  rw [cell_move (w := wD) (s'.keep _ ha.2 hn), ← cell_move (w := wD) (s.keep _ ha.2 hn)]
  exact hc
theorem Row.at {α : Type} {r : Rep α} {G F : Nat → Prop} {A : Option Addr} {xs : List α} {i : Int} {x : α} {ad : Addr} (h : Row r G F w A xs) (hA : A = some ad) (hv : SX.ix xs i = some x) (k : Nat) : G (ad.add k).block ∧ (ad.add k).block < w.heap.size := by
  rw [add_block]
  subst hA
  rcases h.2 with rfl | ⟨ad', cells, e, hG, hb, _⟩
  · obtain ⟨h0, h1, hx⟩ := ix_some hv
    simp at hx
  · injection e with e
    subst e
    exact ⟨hG, hb⟩
theorem Own.rowOf {α : Type} {r : Rep α} {E i n c : Nat} {v : Value} {xs : List α} {A : Option Addr} (h : Own r E i oD wD v xs) (hv : v = .slice A n c) : Row r (fun b => oD b = i) (fun b => oD b = 0) wD A xs := by
  obtain ⟨A', c', e, _, hr⟩ := h.row
  rw [hv] at e
  injection e with e
  rw [e]; exact hr
theorem subA_zero (A : Option Addr) (c sz : Nat) : subA A c 0 sz = A := by
  unfold subA
  split
  · rfl
  · cases A <;> simp [Addr.add]
theorem ex_take {P : Program} {ρ : Env} {t T E : TypeId} {x : Operand} {A : Option Addr} {m c sz : Nat} {hi : Option Operand} {h : Int} {v : Value} (hx : ev ρ x = .slice A m c) (hT : P.underlying T = some (.slice E)) (hs : (P.info? E).map (·.size) = some sz)
    (hh : highOf ρ m hi h) (h0 : 0 ≤ h) (h2 : h ≤ c) (hv : v = .slice A h.toNat c) : Ex P ρ (.slice T x none hi none) t w v w := by
  have := ex_slice (P := P) (w := w) (t := t) (lo := none) (l := 0) hx hT hs rfl hh (Int.le_refl 0) h0 h2
  rw [show ((0 : Int).toNat) = 0 from rfl, subA_zero, Nat.sub_zero, Nat.sub_zero, ← hv] at this
  exact this
theorem ex_slice3' {P : Program} {ρ : Env} {t T E : TypeId} {x h3 : Operand} {A A2 : Option Addr} {m m2 c sz : Nat} {hi : Operand} {h : Int} {k1 k2 : IntKind} (hx : ev ρ x = .slice A m c) (hT : P.underlying T = some (.slice E)) (hs : (P.info? E).map (·.size) = some sz)
    (hh : ev ρ hi = .int k1 h) (hm : ev ρ h3 = .int k2 h) (h0 : 0 ≤ h) (h2 : h ≤ c) (hA : A2 = subA A h.toNat 0 sz) (hm2 : m2 = h.toNat) : Ex P ρ (.slice T x none (some hi) (some h3)) t w (.slice A2 m2 h.toNat) w := by
  subst hA hm2
  exact ex_slice3 hx hT hs hh hm h0 h2
end held

theorem map_cons' {α β : Type} {f : α → β} {x : α} {xs : List α} {v : β} {vs : List β} (h : f x = v) (k : xs.map f = vs) : (x :: xs).map f = v :: vs := by rw [List.map_cons, h, k]
theorem evs_cons {ρ : Env} {i : Nat} {x : Operand} {xs : List (Nat × Operand)} {v : Value} {vs : List (Nat × Value)} (h : ev ρ x = v) (k : (xs.map fun q => (q.1, ev ρ q.2)) = vs) : (((i, x) :: xs).map fun q => (q.1, ev ρ q.2)) = (i, v) :: vs := by
  rw [List.map_cons, k]
  simp only [h]
section make2
variable {P : Program} {n : Nat} {md : Md} {K : Exit → Env → World → Prop} {Kn : Env → World → Prop} {ρ : Env} {w : World} {o : Tags} {d : Nat} {t : TypeId} {p : String} {e : Array Edge} {g : Option (Nat × Bool)}
theorem OW.box' {T : TypeId} {x : Operand} (cs : List Value) (i : Nat) {o0 : Tags} {w0 : World} {TT : List Nat} (HF : Fm o0 w0 o w TT) (hd : Nat.blt d n = true) (hx : (ev ρ x).cells = cs.toArray)
    (k : ∀ o' w' b, Step o w o' w' [] → Bk o' w' i b cs T → Kn (upd ρ d (.pointer (some ⟨b, 0, none⟩))) w') :
    OW P n md { dst := some d, op := .box T x, type := t, pos := p, after := e, guard := g } Kn K ρ w := OW.box cs i o hd hx k
theorem OW.alloc' {T : TypeId} (cs : List Value) (i : Nat) {o0 : Tags} {w0 : World} {TT : List Nat} (HF : Fm o0 w0 o w TT) {z : Value} (hd : Nat.blt d n = true) (hz : (P.info? T).map (·.zero) = some (some z)) (hx : z.cells = cs.toArray)
    (k : ∀ o' w' b, Step o w o' w' [] → Bk o' w' i b cs T → Kn (upd ρ d (.pointer (some ⟨b, 0, none⟩))) w') :
    OW P n md { dst := some d, op := .alloc T, type := t, pos := p, after := e, guard := g } Kn K ρ w := OW.alloc cs i o hd hz hx k
end make2
/-- What is handed back, its elements leading nowhere. -/
theorem Own.un9f {V L J : List Nat} {o o' : Tags} {w w' : World} {j : Nat} (q : Nat) {α : Type} {r : Rep α} {E : Nat} {v : Value} {xs : List α} {M : List Nat} (hf : ∀ {F F' : Nat → Prop} {w : World} {x : α} {cs : List Value}, r.R F w x cs → r.R F' w x cs) (h : Own r E (39 - q) o' w' v xs) (hq : Nat.ble q 19 = true) (s : Step (SX.vw V L o) w o' w' M) (hL : Nat.ble L.length 17 = true) (hj : J.getD q 0 = j) : Own r E j (SX.un o w o' L J) w' v xs := by
  obtain ⟨cells, hown, ht, hm⟩ := h
  refine ⟨cells, hown, fun b hb => un_nine q hq hL s hj (ht b hb), ?_⟩
  clear hown ht
  induction xs generalizing cells with
  | nil => exact hm
  | cons x xs ih =>
    obtain ⟨c0, c1, rfl, h0, h1⟩ := hm
    exact ⟨c0, c1, rfl, hf h0, ih c1 h1⟩
/-! What the program's variables hold: blocks that nobody writes -/
structure Glob where
  L : List Nat
  T : World → Prop
  move : ∀ {w w' : World}, (∀ b ∈ L, w'.heap[b]? = w.heap[b]?) → T w → T w'
def Gl (G : Glob) (o : Tags) (w : World) : Prop := (∀ b ∈ G.L, o b = 0 ∧ b < w.heap.size) ∧ G.T w
section gl
variable {G : Glob} {o o' : Tags} {w w' : World} {M L V J : List Nat}
theorem Gl.step (h : Gl G o w) (s : Step o w o' w' M) (hM : M.contains 0 = false) : Gl G o' w' := by
  have hk : ∀ b ∈ G.L, w'.heap[b]? = w.heap[b]? := fun b hb => s.keep b (h.1 b hb).2 (by rw [(h.1 b hb).1]; intro hm; rw [← List.contains_iff_mem, hM] at hm; cases hm)
  exact ⟨fun b hb => ⟨(s.own b (h.1 b hb).2).trans (h.1 b hb).1, Nat.lt_of_lt_of_le (h.1 b hb).2 s.size⟩, G.move hk h.2⟩
theorem Gl.vw (h : Gl G o w) (hV : V.contains 0 = true) : Gl G (SX.vw V L o) w := ⟨fun b hb => ⟨by simp only [SX.vw, (h.1 b hb).1, vwt_zero hV], (h.1 b hb).2⟩, h.2⟩
theorem Gl.ren {i j : Nat} (h : Gl G o w) (hi : Nat.beq 0 i = false) : Gl G (SX.ren o i j) w := ⟨fun b hb => ⟨ren_other (h.1 b hb).1 hi, (h.1 b hb).2⟩, h.2⟩
theorem Gl.pub (h : Gl G o w) (i : Nat) : Gl G (SX.pub o i) w := ⟨fun b hb => ⟨pub_zero o i b (h.1 b hb).1, (h.1 b hb).2⟩, h.2⟩
end gl
theorem Step.pubS {oD o : Tags} {wD w : World} {M : List Nat} (s : Step oD wD o w M) (i : Nat) (h : ∀ b, b < wD.heap.size → Nat.beq (oD b) i = false) : Step oD wD (pub o i) w M :=
  ⟨s.os, s.tape, s.output, s.size, fun b hb => by rw [← s.own b hb]; exact pub_other rfl (by rw [s.own b hb]; exact h b hb), s.keep⟩
end Go.Proofs.YtpmkkhkphddfeaaDoor.SX
