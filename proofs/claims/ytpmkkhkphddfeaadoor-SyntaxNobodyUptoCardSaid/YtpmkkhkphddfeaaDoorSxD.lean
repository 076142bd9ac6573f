/- Stores, new slices, append, reslicing, calls, a function's beginning and end. -/
import Derived.Test.YtpmkkhkphddfeaaDoorSxC
set_option linter.unusedVariables false
set_option linter.unusedSimpArgs false
namespace Go.Proofs.YtpmkkhkphddfeaaDoor.SX
open Go

def splice (cs : List Value) (j : Nat) (vs : List Value) : List Value := cs.take j ++ vs ++ cs.drop (j + vs.length)
theorem splice_len {cs vs : List Value} {j : Nat} (h : j + vs.length ≤ cs.length) : (splice cs j vs).length = cs.length := by
  simp [splice, List.length_append, List.length_take, List.length_drop]; omega
theorem splice_nil (cs : List Value) (j : Nat) : splice cs j [] = cs := by simp [splice]
theorem splice_cons {cs vs : List Value} {v : Value} {j : Nat} (h : j + (vs.length + 1) ≤ cs.length) : splice (cs.set j v) (j + 1) vs = splice cs j (v :: vs) := by
  have h1 : (cs.set j v).take (j + 1) = cs.take j ++ [v] := by
    rw [List.take_succ_eq_append_getElem (by rw [List.length_set]; omega), List.take_set_of_le (Nat.le_refl _)]
    simp
  have h2 : (cs.set j v).drop (j + 1 + vs.length) = cs.drop (j + (v :: vs).length) := by
    rw [List.drop_set_of_lt (by omega)]
    congr 1
    simp; omega
  simp only [splice, h1, h2, List.append_assoc, List.cons_append, List.nil_append]

section store
variable {P : Program}
theorem run_storeCells' (b j : Nat) (T : TypeId) : ∀ (vs : List Value) (k : Nat) (w : World) (cs : List Value), w.heap[b]? = some (.cells cs.toArray T (0, 0)) → j + k + vs.length ≤ cs.length → (∀ u ∈ vs, u.oneCell' = true) →
    (storeCells ⟨b, j, none⟩ vs k).run P w = .ok () { w with heap := w.heap.setIfInBounds b (.cells (splice cs (j + k) vs).toArray T (0, 0)) }
  | [], k, w, cs, hb, hl, h1 => by
    have : w.heap.setIfInBounds b (.cells cs.toArray T (0, 0)) = w.heap := by
      apply Array.ext_getElem?
      intro i
      by_cases hi : b = i
      · subst hi
        have hlt := (Array.getElem?_eq_some_iff.1 hb).1
        simp [hlt, ← hb]
      · rw [Array.getElem?_setIfInBounds_ne hi]
    simp [storeCells, splice_nil, this]
  | v :: vs, k, w, cs, hb, hl, h1 => by
    have hlt := (Array.getElem?_eq_some_iff.1 hb).1
    simp only [List.length_cons] at hl
    have hadd : (⟨b, j, none⟩ : Addr).add k = ⟨b, j + k, none⟩ := by unfold Addr.add; split <;> simp_all
    have hc : w.cell? ⟨b, j + k, none⟩ = some (cs[j + k]'(by omega)) := by
      simp [World.cell?, hb, List.getElem?_eq_getElem (show j + k < cs.length by omega)]
    have hf : w.frozen? ⟨b, j + k, none⟩ = false := by simp [World.frozen?, hb]
    have hset : w.setCell ⟨b, j + k, none⟩ v = { w with heap := w.heap.setIfInBounds b (.cells (cs.set (j + k) v).toArray T (0, 0)) } := by
      unfold World.setCell
      congr 1
      apply Array.ext_getElem?
      intro i
      by_cases hi : b = i
      · subst hi
        rw [Array.getElem?_modify, if_pos rfl, hb]
        simp [hlt]
      · rw [Array.getElem?_modify, if_neg hi, Array.getElem?_setIfInBounds_ne hi]
    have ih := run_storeCells' b j T vs (k + 1) { w with heap := w.heap.setIfInBounds b (.cells (cs.set (j + k) v).toArray T (0, 0)) } (cs.set (j + k) v) (by simp [hlt]) (by rw [List.length_set]; omega) (fun u hu => h1 u (List.mem_cons_of_mem _ hu))
    simp only [storeCells, Sem.run_bind, hadd, run_store P w ⟨b, j + k, none⟩ v .plain (h1 v List.mem_cons_self), hc, hf, hset]
    simp only [Bool.false_eq_true, if_false, Result.andThen_ok]
    rw [ih, ← Nat.add_assoc, splice_cons (by omega)]
    simp

variable {n : Nat} {md : Md} {K : Exit → Env → World → Prop} {Kn : Env → World → Prop} {ρ : Env} {w : World} {o : Tags} {d : Nat} {t : TypeId} {p : String} {e : Array Edge} {g : Option (Nat × Bool)}

theorem step_set {o : Tags} {w : World} {b i : Nat} {ob : Obj} (ht : o b = i) : Step o w o { w with heap := w.heap.setIfInBounds b ob } [i] := by
  refine ⟨rfl, rfl, rfl, by simp, fun _ _ => rfl, fun c hc hm => ?_⟩
  have : b ≠ c := by rintro rfl; exact hm (by simp [ht])
  simp [Array.getElem?_setIfInBounds_ne this]
theorem OW.store {T T' : TypeId} {x y : Operand} {i b j : Nat} {cs vs : List Value} (cs' : List Value) (hx : ev ρ x = .pointer (some ⟨b, j, none⟩)) (hy : (ev ρ y).cells = vs.toArray) (hs : (P.info? T).map (·.size) = some vs.length)
    (hB : Bk o w i b cs T') (hl : j + vs.length ≤ cs.length) (h1 : ∀ u ∈ vs, u.oneCell' = true) (hc : splice cs j vs = cs')
    (k : ∀ w', Step o w o w' [i] → Bk o w' i b cs' T' → Kn ρ w') : OW P n md { dst := none, op := .store T x y, type := t, pos := p, after := e, guard := g } Kn K ρ w := by
  have hr := run_storeCells' (P := P) b j T' vs 0 w cs hB.heap hl h1
  have hlt := (Array.getElem?_eq_some_iff.1 hB.heap).1
  refine OW.unit (w' := { w with heap := w.heap.setIfInBounds b (.cells (splice cs (j + 0) vs).toArray T' (0, 0)) }) ?_ (k _ (step_set hB.tag) ⟨hB.tag, by simp [hlt, hc]⟩)
  simp [execOp, hx, Instr.storeAt, Instr.sureAddr, storeVar, hy, run_sizeOf' hs, hr]
end store

section slices
variable {P : Program} {n : Nat} {md : Md} {K : Exit → Env → World → Prop} {Kn : Env → World → Prop} {ρ : Env} {w : World} {o : Tags} {d : Nat} {t : TypeId} {p : String} {e : Array Edge} {g : Option (Nat × Bool)}

/-- A block that was just made as an own slice. -/
theorem Bk.own {α : Type} {r : Rep α} {E i b m c : Nat} {cs : List Value} {xs : List α} (h : Bk o w i b cs E) (hm : Many r (fun b => o b = 0) w xs cs) (hl : xs.length = m) (hc : m ≤ maxLen) : Own r E i o w (.slice (some ⟨b, 0, none⟩) m m) xs := by
  subst hl
  have hlen := hm.len
  refine ⟨cs, ⟨hlen, .inr ⟨b, xs.length, cs.toArray, rfl, Nat.zero_le _, h.heap, Nat.le_refl _, hc, by simp [hlen], ?_⟩⟩, fun b' hb' => ?_, hm⟩
  · rw [← hlen]; simp
  · have : b = b' := by simpa [Value.ownBlock] using hb'
    subst this; exact h.tag
theorem Bk.row {α : Type} {r : Rep α} {E i b : Nat} {cs : List Value} {xs : List α} (h : Bk o w i b cs E) {F : Nat → Prop} (hm : Many r F w xs cs) (hc : xs.length ≤ maxLen) : Row r (fun b => o b = i) F w (some ⟨b, 0, none⟩) xs := by
  refine ⟨hc, .inr ⟨⟨b, 0, none⟩, cs, rfl, h.tag, (Array.getElem?_eq_some_iff.1 h.heap).1, hm, fun j u hu => ?_⟩⟩
  have : (⟨b, 0, none⟩ : Addr).add j = ⟨b, j, none⟩ := by unfold Addr.add; split <;> simp_all
  rw [this]
  exact h.cell hu

theorem run_buildSlice {T E : TypeId} {len sz : Nat} {q : Array (Nat × Value)} (cs : List Value) {z : Value} (hT : P.underlying T = some (.slice E)) (hs : (P.info? E).map (·.size) = some sz)
    (hz : (P.info? E).map (·.zero) = some (some z)) (hlim : Nat.ble (len * sz) 16777216 = true) (zs : Array Value) (hzs : zs = if len * sz = 0 then #[] else z.cells)
    (hf : Instr.fill (fun i => some (i * sz, sz)) ((Array.range (len * sz)).map (zs[· % zs.size]!)) q.toList = some cs.toArray) :
    (Instr.buildSlice T len q).run P w = .ok (.slice (some ⟨w.heap.size, 0, none⟩) len len) (w.alloc (.cells cs.toArray E)) := by
  have hl : ¬ (len * sz > 2 ^ 24) := by
    have := Nat.le_of_ble_eq_true hlim
    omega
  unfold Instr.buildSlice
  simp only [Sem.run_bind, run_underlying hT, run_sizeOf' hs, Result.andThen_ok, hl, if_false]
  by_cases h0 : len * sz = 0
  · simp only [h0, if_true] at hzs hf ⊢
    subst hzs
    simp only [Sem.run_bind, Sem.run_pure, Result.andThen_ok, hf]
    simp [newRow, newObj, Sem.run]
  · simp only [h0, if_false] at hzs hf ⊢
    subst hzs
    simp only [Sem.run_bind, Sem.run_pure, Result.andThen_ok, run_zeroValue' hz, hf]
    simp [newRow, newObj, Sem.run]
theorem OW.buildSlice {T E : TypeId} {len sz : Nat} {parts : Array (Nat × Operand)} (cs : List Value) (i : Nat) (o : Tags) {z : Value} (hd : Nat.blt d n = true) (hT : P.underlying T = some (.slice E)) (hs : (P.info? E).map (·.size) = some sz)
    (hz : (P.info? E).map (·.zero) = some (some z)) (hlim : Nat.ble (len * sz) 16777216 = true) (zs : Array Value) (hzs : zs = if len * sz = 0 then #[] else z.cells)
    (hf : Instr.fill (fun i => some (i * sz, sz)) ((Array.range (len * sz)).map (zs[· % zs.size]!)) (parts.toList.map fun q => (q.1, ev ρ q.2)) = some cs.toArray)
    (k : ∀ o' w' b, Step o w o' w' [] → Bk o' w' i b cs E → Kn (upd ρ d (.slice (some ⟨b, 0, none⟩) len len)) w') :
    OW P n md { dst := some d, op := .buildSlice T len parts, type := t, pos := p, after := e, guard := g } Kn K ρ w := by
  refine OW.val (v := .slice (some ⟨w.heap.size, 0, none⟩) len len) (w' := w.alloc (.cells cs.toArray E)) hd ?_ (k (fun b => bif Nat.beq b w.heap.size then i else o b) _ _ (step_alloc o w i _ _) ⟨by simp, heap_alloc_new w _⟩)
  have hb := run_buildSlice (P := P) (w := w) (q := parts.map fun q => (q.1, ev ρ q.2)) cs hT hs hz hlim zs hzs (by rw [Array.toList_map]; exact hf)
  show ((do pure (Next.value (← Instr.buildSlice T len (parts.map fun q => (q.1, ev ρ q.2)))) : Sem Next)).run P w = _
  rw [Sem.run_bind, hb]
  rfl

/-- append(s, x...): s is one's own (or nil), x is read. -/
theorem OW.append {α : Type} {r : Rep α} {T E : TypeId} {x y : Operand} {i bytes m c : Nat} {v z : Value} {xs ys : List α} {A : Option Addr} {G : Nat → Prop} (hd : Nat.blt d n = true) (hT : P.underlying T = some (.slice E))
    (hE : (P.info? E).map (fun i => (i.zero, i.size, i.bytes)) = some (some z, r.sz, bytes)) (hz : z.cells.size = r.sz) (hsz : 0 < r.sz) (hb0 : 0 < bytes) (hi : i ≠ 0)
    (hx : ev ρ x = v) (hy : ev ρ y = .slice A m c) (hO : Own r E i o w v xs) (hR : Row r G (fun b => o b = 0) w A ys) (hm : ys.length = m) (hl : (xs.length + ys.length) * bytes ≤ 140737488355328)
    (k : ∀ o' w' v', Step o w o' w' [i] → Own r E i o' w' v' (xs ++ ys) → Kn (upd ρ d v') w') :
    OW P n md { dst := some d, op := .call { callee := .builtin .append, args := #[x, y], argTypes := #[T, T] }, type := t, pos := p, after := e, guard := g } Kn K ρ w := by
  subst hm
  obtain ⟨i0, hi0, hzz⟩ := Option.map_eq_some_iff.1 hE
  simp only [Prod.mk.injEq] at hzz
  obtain ⟨hz0, hz1, hz2⟩ := hzz
  obtain ⟨cells, hown, ht, hM⟩ := hO
  have hlen : xs.length + ys.length ≤ 140737488355328 := Nat.le_trans (Nat.le_mul_of_pos_right _ hb0) hl
  rcases hR.2 with rfl | ⟨ad, news, rfl, hG, hblk, hY, hcell⟩
  · -- nothing to append: as at an empty row
    have key : ∀ A : Option Addr, ∃ v' w', (Builtin.append_ #[T, T] t #[v, .slice A 0 c]).run P w = .ok v' w' ∧ w' = w ∧ v' = v := by
      intro A
      have hsize : (sizeOf E).run P w = .ok r.sz w := run_sizeOf' (by simp [hi0, hz1])
      rcases hown.2 with ⟨rfl, h0⟩ | ⟨gb, cap, cur, rfl, _, hg, hn, hcm, hcs, htake⟩
      · refine ⟨_, _, ?_, rfl, rfl⟩
        cases A <;> simp [Builtin.append_, run_underlying hT, run_underlying, hsize, Builtin.lenOf, Builtin.firstCells, loadCells, loadCellsFrom, storeCells]
      · refine ⟨_, _, ?_, rfl, rfl⟩
        cases A <;> simp [Builtin.append_, run_underlying hT, hsize, Builtin.lenOf, Builtin.firstCells, loadCells, loadCellsFrom, hn, storeCells]
    obtain ⟨v', w', hr, rfl, rfl⟩ := key A
    refine OW.val (v := v') (w' := w') hd ?_ (k o w' v' (Step.refl _ _ _) ?_)
    · simp only [execOp, resolve, invoke, builtin, Sem.run_bind, Sem.run_pure, Result.andThen_ok, List.map_toArray, List.map_cons, List.map_nil, hx, hy, List.length_nil, hr]
    · rw [List.append_nil]; exact ⟨cells, hown, ht, hM⟩
  · obtain ⟨v', w', hr, h2, h3, h4, h5⟩ := run_append_own_at (P := P) w 0 T t E i0 z r.sz bytes hT hi0 hz0 hz1 hz2 hz hsz v xs.length cells hown ad ys.length c news (by rw [hY.len]) hcell hY.one (by simp only [maxLen]; omega) hl (Nat.zero_le _)
    have hnew : ∀ b, v'.ownBlock = some b → b < w.heap.size → v.ownBlock = some b := by
      intro b hb hlt
      rcases h5 with h5 | h5
      · rw [← h5]; exact hb
      · rw [h5] at hb; injection hb with hb; omega
    have hstep : Step o w (fun b => bif Nat.beq b w.heap.size then i else o b) w' [i] := by
      refine ⟨h3.os, h3.tape, h3.output, h3.size, fun b hb => ?_, fun b hb hn => h3.block b hb (fun he => hn (by simp [ht b he.symm]))⟩
      have : Nat.beq b w.heap.size = false := by rw [← Bool.not_eq_true, Nat.beq_eq]; omega
      simp [this]
    refine OW.val (v := v') (w' := w') hd ?_ (k _ w' v' hstep ?_)
    · simp only [execOp, resolve, invoke, builtin, Sem.run_bind, Sem.run_pure, Result.andThen_ok, List.map_toArray, List.map_cons, List.map_nil, hx, hy, hr]
    · refine ⟨cells ++ news, by rw [List.length_append]; exact h2, fun b hb => ?_, ?_⟩
      · rcases h5 with h5 | h5
        · have hb' := h5 ▸ hb
          have hlt := (hown.lt b hb').2
          have : Nat.beq b w.heap.size = false := by rw [← Bool.not_eq_true, Nat.beq_eq]; omega
          simp only [this, cond_false]
          exact ht b hb'
        · rw [h5] at hb; injection hb with hb; subst hb; simp
      · have hmv : ∀ b, o b = 0 → b < w.heap.size → w'.heap[b]? = w.heap[b]? := fun b hb hlt => h3.block b hlt (fun he => hi ((ht b he.symm).symm.trans hb))
        refine ((hM.append hY).move (w' := w') hmv).mono (fun b hb => ?_)
        have : Nat.beq b w.heap.size = false := by rw [← Bool.not_eq_true, Nat.beq_eq]; omega
        simp only [this, cond_false]
        exact hb.1
end slices
end Go.Proofs.YtpmkkhkphddfeaaDoor.SX
