/- Literals, more of numbers and texts, elements of one's own rows, pieces of them; what is one's own becomes data. -/
import Derived.Test.YtpmkkhkphddfeaaDoorSxH
import Derived.Lib.AppendStr
set_option linter.unusedVariables false
set_option linter.unusedSimpArgs false
namespace Go.Proofs.YtpmkkhkphddfeaaDoor.SX
open Go Go.RowKit

/-! Cuts -/
section cuts
variable {α : Type} {xs ys : List α} {lo hi : Int} {c : Nat}
theorem cut_le (hc : xs.length ≤ c) (h : cut xs lo hi = some ys) : ys.length ≤ c - lo.toNat := by have := cut_some h; omega
theorem cut_cap (hc : xs.length ≤ c) (h : cut xs lo hi = some ys) : hi ≤ (c : Int) := by have := cut_some h; omega
theorem cut_low (h : cut xs lo hi = some ys) : 0 ≤ lo := (cut_some h).1
theorem cut_mid (h : cut xs lo hi = some ys) : lo ≤ hi := (cut_some h).2.1
theorem cut_high (h : cut xs lo hi = some ys) : hi ≤ xs.length := (cut_some h).2.2.1
theorem cut_pos (h : cut xs lo hi = some ys) : 0 ≤ hi := Int.le_trans (cut_some h).1 (cut_some h).2.1
theorem cut_len (h : cut xs lo hi = some ys) : ys.length = hi.toNat - lo.toNat := (cut_some h).2.2.2.2
theorem cut_len0 (h : cut xs 0 hi = some ys) : ys.length = hi.toNat := by have := cut_len h; simpa using this
theorem cut_le0 (h : cut xs 0 hi = some ys) : ys.length ≤ hi.toNat := Nat.le_of_eq (cut_len0 h)
theorem cut_take (h : cut xs 0 hi = some ys) : xs.take hi.toNat = ys := by rw [(cut_some h).2.2.2.1]; rfl
theorem small8 (x : UInt8) : 0 ≤ (x.toNat : Int) ∧ (x.toNat : Int) ≤ 9223372036854775807 := by have := x.toNat_lt; omega
theorem small32 (x : UInt32) : 0 ≤ (x.toNat : Int) ∧ (x.toNat : Int) ≤ 9223372036854775807 := by have := x.toNat_lt; omega
end cuts
/-! Literals -/
def fillL (place : Nat → Option (Nat × Nat)) : List Value → List (Nat × List Value) → Option (List Value)
  | cells, [] => some cells
  | cells, (i, v) :: rest =>
    match place i with
    | none => none
    | some (off, size) => bif !(Nat.beq v.length size) || Nat.blt cells.length (off + v.length) then none else fillL place (splice cells off v) rest
theorem splice_set (cs : List Value) (j : Nat) (v : Value) (vs : List Value) (h : j + (vs.length + 1) ≤ cs.length) : splice (cs.set j v) (j + 1) vs = splice cs j (v :: vs) := splice_cons h
theorem foldl_cells : ∀ (vs : List Value) (off k : Nat) (cs : Array Value), off + k + vs.length ≤ cs.size →
    ((vs.zipIdx k).foldl (fun cs (p : Value × Nat) => cs.setIfInBounds (off + p.2) p.1) cs) = (splice cs.toList (off + k) vs).toArray
  | [], off, k, cs, h => by simp [splice_nil]
  | v :: vs, off, k, cs, h => by
    simp only [List.zipIdx_cons, List.foldl_cons]
    simp only [List.length_cons] at h
    rw [foldl_cells vs off (k + 1) (cs.setIfInBounds (off + k) v) (by simp; omega), Array.toList_setIfInBounds, ← Nat.add_assoc, splice_cons (by simp; omega)]
theorem fill_fillL (place : Nat → Option (Nat × Nat)) : ∀ (q : List (Nat × Value)) (cs : List Value), Instr.fill place cs.toArray q = (fillL place cs (q.map fun p => (p.1, p.2.cells.toList))).map List.toArray
  | [], cs => by simp [Instr.fill, fillL]
  | (i, v) :: rest, cs => by
    simp only [Instr.fill, fillL, List.map_cons]
    cases hp : place i with
    | none => rfl
    | some os =>
      obtain ⟨off, size⟩ := os
      simp only
      have hfold : off + v.cells.size ≤ cs.length → v.cells.zipIdx.foldl (fun cs (x : Value × Nat) => cs.setIfInBounds (off + x.2) x.1) cs.toArray = (splice cs off v.cells.toList).toArray := by
        intro h2
        rw [← Array.foldl_toList, Array.toList_zipIdx, foldl_cells v.cells.toList off 0 cs.toArray (by simp; omega)]
        simp
      by_cases h1 : v.cells.size = size
      · by_cases h2 : off + v.cells.size ≤ cs.length
        · have e1 : Nat.beq v.cells.toList.length size = true := by simp [h1]
          have e2 : Nat.blt cs.length (off + v.cells.toList.length) = false := by rw [← Bool.not_eq_true, Nat.blt_eq]; simp; omega
          have e3 : ¬ (off + v.cells.size > cs.toArray.size) := by simp; omega
          simp only [e1, e2, h1, Bool.not_true, Bool.or_false, cond_false, ne_eq, not_true_eq_false, decide_false, Bool.false_or, decide_eq_true_eq, if_neg (h1 ▸ e3)]
          have := hfold h2
          rw [this]
          exact fill_fillL place rest _
        · have e2 : Nat.blt cs.length (off + v.cells.toList.length) = true := by rw [Nat.blt_eq]; simp; omega
          have e3 : (off + v.cells.size > cs.toArray.size) := by simp; omega
          simp only [e2, Bool.or_true, cond_true, e3, decide_true, if_true]
          rfl
      · have e1 : Nat.beq v.cells.toList.length size = false := by rw [← Bool.not_eq_true, Nat.beq_eq]; simpa using h1
        simp only [e1, Bool.not_false, Bool.true_or, cond_true, h1, ne_eq, not_false_eq_true, decide_true, if_true]
        rfl
theorem fillL_row (sz : Nat) : ∀ (q : List (Nat × List Value)) (done rest : List Value) (k : Nat), q.map (·.1) = List.range' k q.length → (∀ p ∈ q, p.2.length = sz) → done.length = k * sz → rest.length = q.length * sz →
    fillL (fun i => some (i * sz, sz)) (done ++ rest) q = some (done ++ (q.map (·.2)).flatten)
  | [], done, rest, k, _, _, hd, hr => by
    have : rest = [] := List.eq_nil_of_length_eq_zero (by simpa using hr)
    simp [fillL, this]
  | (i, v) :: q, done, rest, k, hi, hs, hd, hr => by
    simp only [List.map_cons, List.length_cons, List.range'_succ, List.cons.injEq] at hi
    obtain ⟨rfl, hi⟩ := hi
    have hv : v.length = sz := hs _ List.mem_cons_self
    simp only [List.length_cons, Nat.add_mul, Nat.one_mul] at hr
    have hb : (!(Nat.beq v.length sz) || Nat.blt (done ++ rest).length (i * sz + v.length)) = false := by
      simp [hv, ← Bool.not_eq_true, Nat.blt_eq, hd]; omega
    simp only [fillL, hb, cond_false]
    have hsp : splice (done ++ rest) (i * sz) v = (done ++ v) ++ rest.drop sz := by
      rw [splice, hv, ← hd, List.take_left, ← List.drop_drop, List.drop_left, List.append_assoc]
    rw [hsp, fillL_row sz q (done ++ v) (rest.drop sz) (i + 1) (by simpa using hi) (fun p hp => hs p (List.mem_cons_of_mem _ hp)) (by rw [List.length_append, hd, hv, Nat.add_mul, Nat.one_mul]) (by rw [List.length_drop]; omega)]
    simp
section lit
variable {P : Program} {n : Nat} {md : Md} {K : Exit → Env → World → Prop} {Kn : Env → World → Prop} {ρ : Env} {w : World} {d : Nat} {t : TypeId} {p : String} {e : Array Edge} {g : Option (Nat × Bool)}
def ManyC {α : Type} (r : Rep α) (F : Nat → Prop) (w : World) : List α → List (List Value) → Prop
  | [], [] => True
  | x :: xs, c :: cs => r.R F w x c ∧ ManyC r F w xs cs
  | _, _ => False
theorem ManyC.many {α : Type} {r : Rep α} {F : Nat → Prop} {w : World} : ∀ {xs : List α} {css : List (List Value)}, ManyC r F w xs css → Many r F w xs css.flatten
  | [], [], _ => rfl
  | x :: xs, c :: cs, h => ⟨c, cs.flatten, rfl, h.1, ManyC.many h.2⟩
  | [], _ :: _, h => h.elim
  | _ :: _, [], h => h.elim
/-- A row that is written out, all of it. -/
theorem OW.row {α : Type} {r : Rep α} {T E : TypeId} {len : Nat} {parts : Array (Nat × Operand)} {xs : List α} (vs : List (Nat × Value)) (css : List (List Value)) (i : Nat) {o0 o : Tags} {w0 : World} {TT : List Nat} (HF : Fm o0 w0 o w TT) {z : Value} (hd : Nat.blt d n = true) (hT : P.underlying T = some (.slice E)) (hs : (P.info? E).map (·.size) = some r.sz)
    (hz : (P.info? E).map (·.zero) = some (some z)) (hlim : Nat.ble (len * r.sz) 16777216 = true) (hvs : (parts.toList.map fun q => (q.1, ev ρ q.2)) = vs) (hix : vs.map (·.1) = List.range len) (hcs : vs.map (fun q => q.2.cells.toList) = css)
    (hm0 : ManyC r (fun b => o b = 0) w xs css) (hsz : css.all (fun c => Nat.beq c.length r.sz) = true) (hpos : Nat.blt 0 r.sz = true) (hlen : xs.length = len) (hi : Nat.ble 10 i = true)
    (k : ∀ o' w' v, Step o w o' w' [] → Own r E i o' w' v xs → Kn (upd ρ d v) w') :
    OW P n md { dst := some d, op := .buildSlice T len parts, type := t, pos := p, after := e, guard := g } Kn K ρ w := by
  have hm := hm0.many
  have hl : vs.length = len := by have := congrArg List.length hix; simpa using this
  have hall : ∀ q ∈ vs.map fun q => (q.1, q.2.cells.toList), q.2.length = r.sz := by
    intro q hq
    simp only [List.mem_map] at hq
    obtain ⟨q', hq', rfl⟩ := hq
    have := List.all_eq_true.1 hsz q'.2.cells.toList (by rw [← hcs]; exact List.mem_map.2 ⟨q', hq', rfl⟩)
    simpa using this
  have hmap : (vs.map fun q => (q.1, q.2.cells.toList)).map (·.2) = css := by rw [List.map_map, ← hcs]; rfl
  have key : ∀ zs : List Value, zs.length = len * r.sz → Instr.fill (fun i => some (i * r.sz, r.sz)) zs.toArray (parts.toList.map fun q => (q.1, ev ρ q.2)) = some css.flatten.toArray := by
    intro zs hzl
    rw [hvs, fill_fillL]
    have h := fillL_row r.sz (vs.map fun q => (q.1, q.2.cells.toList)) [] zs 0 (by rw [List.map_map]; simp only [List.length_map]; rw [hl, show ((fun x : Nat × List Value => x.1) ∘ fun q : Nat × Value => (q.1, q.2.cells.toList)) = (fun q : Nat × Value => q.1) from rfl, hix, List.range_eq_range']) hall (by simp) (by simp [hl, hzl])
    rw [List.nil_append] at h
    rw [h, hmap]; simp
  refine OW.buildSlice css.flatten i o hd hT hs hz hlim (if len * r.sz = 0 then #[] else z.cells) rfl ?_ fun o' w' b st hB => ?_
  · have := key ((Array.range (len * r.sz)).map ((if len * r.sz = 0 then #[] else z.cells)[· % (if len * r.sz = 0 then #[] else z.cells).size]!)).toList (by simp)
    rw [Array.toArray_toList] at this
    exact this
  · refine k o' w' _ st (hB.own (c := 0) ?_ hlen ?_)
    · exact (hm.move (w' := w') (fun b hb hlt => st.keep b hlt (by simp))).mono (fun b hb => by rw [st.own b hb.2]; exact hb.1)
    · have := Nat.le_of_ble_eq_true hlim
      simp only [maxLen]
      exact Nat.le_trans (Nat.le_mul_of_pos_right _ (by simpa [Nat.blt_eq] using hpos)) (by omega)
/-- A struct that is built. -/
theorem run_places {fs : List Field} {pl : List (Nat × Nat)} (h : fs.map (fun f => (f.offset, (P.info? f.type).map (·.size))) = pl.map (fun q => (q.1, some q.2))) :
    (fs.mapM (m := Sem) fun f => do pure (f.offset, ← sizeOf f.type)).run P w = .ok pl w := by
  induction fs generalizing pl with
  | nil =>
    cases pl with
    | nil => simp
    | cons a l => simp at h
  | cons f fs ih =>
    cases pl with
    | nil => simp at h
    | cons a l =>
      simp only [List.map_cons, List.cons.injEq, Prod.mk.injEq] at h
      obtain ⟨⟨h1, h2⟩, h3⟩ := h
      rw [List.mapM_cons]
      simp only [Sem.run_bind, run_sizeOf' h2, Result.andThen_ok, Sem.run_pure, ih h3, h1]
theorem ex_build {T : TypeId} {fs : Array Field} {parts : Array (Nat × Operand)} {z : Value} {cs : List Value} (pl : List (Nat × Nat)) (vs : List (Nat × Value)) (zs : List Value) (hT : P.underlying T = some (.struct fs)) (hz : (P.info? T).map (·.zero) = some (some z))
    (hzs : z.cells.toList = zs) (hp : fs.toList.map (fun f => (f.offset, (P.info? f.type).map (·.size))) = pl.map (fun q => (q.1, some q.2))) (hvs : (parts.toList.map fun q => (q.1, ev ρ q.2)) = vs)
    (hf : fillL (fun i => pl[i]?) zs (vs.map fun q => (q.1, q.2.cells.toList)) = some cs) : Ex P ρ (.build T parts) t w (.agg cs.toArray) w := fun _ _ _ _ => by
  have h1 : (fs.mapM (m := Sem) fun f => do pure (f.offset, ← sizeOf f.type)).run P w = .ok pl.toArray w := by
    rw [← Array.toArray_toList (xs := fs), List.mapM_toArray, map_eq_pure_bind, Sem.run_bind, run_places hp]
    rfl
  have h2 : Instr.fill (fun i => pl.toArray[i]?) z.cells (parts.map fun q => (q.1, ev ρ q.2)).toList = some cs.toArray := by
    rw [Array.toList_map, hvs, ← Array.toArray_toList (xs := z.cells), hzs, fill_fillL]
    simp [hf]
  show ((do pure (Next.value (← Instr.build T (parts.map fun q => (q.1, ev ρ q.2)))) : Sem Next)).run P w = _
  unfold Instr.build
  simp only [Sem.run_bind, run_zeroValue' hz, Result.andThen_ok, run_underlying hT, h1, h2, Sem.run_pure]
end lit

/-! Numbers -/
section bins
variable {P : Program}

theorem bin_mul_u8 {a b : UInt8} {T : TypeId} : Bin P .mul T (enc8 a) (enc8 b) (enc8 (a * b)) := fun x y w => by
  have h : IntKind.u8.wrap ((a.toNat : Int) * (b.toNat : Int)) = ((a * b).toNat : Int) := by
    rw [wrap_u8, UInt8.toNat_mul]; omega
  simp [eqGuard, binOp, Op.intArith, enc8, h]
theorem bin_quo_u8 {a b : UInt8} {T : TypeId} (hb : ¬ b = 0) : Bin P .quo T (enc8 a) (enc8 b) (enc8 (a / b)) := fun x y w => by
  have hn : ¬ (b.toNat = 0) := fun h2 => hb (UInt8.toNat_inj.1 (by rw [h2]; rfl))
  have h : IntKind.u8.wrap ((a.toNat : Int) / (b.toNat : Int)) = (a.toNat : Int) / (b.toNat : Int) := by
    have h2 := a.toNat_lt
    have h3 := Nat.div_le_self a.toNat b.toNat
    rw [wrap_u8, ← Int.natCast_ediv]
    exact Int.emod_eq_of_lt (Int.natCast_nonneg _) (by omega)
  simp [eqGuard, binOp, Op.intDiv, enc8, hn, h]
theorem bin_rem_u8 {a b : UInt8} {T : TypeId} (hb : ¬ b = 0) : Bin P .rem T (enc8 a) (enc8 b) (enc8 (a % b)) := fun x y w => by
  have hn : ¬ (b.toNat = 0) := fun h2 => hb (UInt8.toNat_inj.1 (by rw [h2]; rfl))
  have h : Int.tmod (a.toNat : Int) (b.toNat : Int) = (a.toNat : Int) % (b.toNat : Int) := Int.tmod_eq_emod_of_nonneg (Int.natCast_nonneg _)
  simp [eqGuard, binOp, Op.intDiv, enc8, hn, h]
theorem bin_mul_u32 {a b : UInt32} {T : TypeId} : Bin P .mul T (enc32 a) (enc32 b) (enc32 (a * b)) := fun x y w => by
  have h : IntKind.u32.wrap ((a.toNat : Int) * (b.toNat : Int)) = ((a * b).toNat : Int) := by
    rw [wrap_u32, UInt32.toNat_mul]; omega
  simp [eqGuard, binOp, Op.intArith, enc32, h]
theorem bin_quo_u32 {a b : UInt32} {T : TypeId} (hb : ¬ b = 0) : Bin P .quo T (enc32 a) (enc32 b) (enc32 (a / b)) := fun x y w => by
  have hn : ¬ (b.toNat = 0) := fun h2 => hb (UInt32.toNat_inj.1 (by rw [h2]; rfl))
  have h : IntKind.u32.wrap ((a.toNat : Int) / (b.toNat : Int)) = (a.toNat : Int) / (b.toNat : Int) := by
    have h2 := a.toNat_lt
    have h3 := Nat.div_le_self a.toNat b.toNat
    rw [wrap_u32, ← Int.natCast_ediv]
    exact Int.emod_eq_of_lt (Int.natCast_nonneg _) (by omega)
  simp [eqGuard, binOp, Op.intDiv, enc32, hn, h]
theorem bin_rem_u32 {a b : UInt32} {T : TypeId} (hb : ¬ b = 0) : Bin P .rem T (enc32 a) (enc32 b) (enc32 (a % b)) := fun x y w => by
  have hn : ¬ (b.toNat = 0) := fun h2 => hb (UInt32.toNat_inj.1 (by rw [h2]; rfl))
  have h : Int.tmod (a.toNat : Int) (b.toNat : Int) = (a.toNat : Int) % (b.toNat : Int) := Int.tmod_eq_emod_of_nonneg (Int.natCast_nonneg _)
  simp [eqGuard, binOp, Op.intDiv, enc32, hn, h]
theorem bin_mul_u64 {a b : UInt64} {T : TypeId} : Bin P .mul T (enc64 a) (enc64 b) (enc64 (a * b)) := fun x y w => by
  have h : IntKind.u64.wrap ((a.toNat : Int) * (b.toNat : Int)) = ((a * b).toNat : Int) := by
    rw [wrap_u64, UInt64.toNat_mul]; omega
  simp [eqGuard, binOp, Op.intArith, enc64, h]
theorem bin_quo_u64 {a b : UInt64} {T : TypeId} (hb : ¬ b = 0) : Bin P .quo T (enc64 a) (enc64 b) (enc64 (a / b)) := fun x y w => by
  have hn : ¬ (b.toNat = 0) := fun h2 => hb (UInt64.toNat_inj.1 (by rw [h2]; rfl))
  have h : IntKind.u64.wrap ((a.toNat : Int) / (b.toNat : Int)) = (a.toNat : Int) / (b.toNat : Int) := by
    have h2 := a.toNat_lt
    have h3 := Nat.div_le_self a.toNat b.toNat
    rw [wrap_u64, ← Int.natCast_ediv]
    exact Int.emod_eq_of_lt (Int.natCast_nonneg _) (by omega)
  simp [eqGuard, binOp, Op.intDiv, enc64, hn, h]
theorem bin_rem_u64 {a b : UInt64} {T : TypeId} (hb : ¬ b = 0) : Bin P .rem T (enc64 a) (enc64 b) (enc64 (a % b)) := fun x y w => by
  have hn : ¬ (b.toNat = 0) := fun h2 => hb (UInt64.toNat_inj.1 (by rw [h2]; rfl))
  have h : Int.tmod (a.toNat : Int) (b.toNat : Int) = (a.toNat : Int) % (b.toNat : Int) := Int.tmod_eq_emod_of_nonneg (Int.natCast_nonneg _)
  simp [eqGuard, binOp, Op.intDiv, enc64, hn, h]
def strLt (a b : List UInt8) : Bool := Op.bytesLess a b
def strLe (a b : List UInt8) : Bool := strLt a b || a == b
theorem bin_lss_str {a b : List UInt8} {T : TypeId} : Bin P .lss T (encS a) (encS b) (.bool (strLt a b)) := fun x y w => by simp [eqGuard, binOp, encS, Op.stringOp, strLt]
theorem bin_leq_str {a b : List UInt8} {T : TypeId} : Bin P .leq T (encS a) (encS b) (.bool (strLe a b)) := fun x y w => by simp [eqGuard, binOp, encS, Op.stringOp, strLt, strLe]
theorem bin_gtr_str {a b : List UInt8} {T : TypeId} : Bin P .gtr T (encS a) (encS b) (.bool (!(strLe a b))) := fun x y w => by simp [eqGuard, binOp, encS, Op.stringOp, strLt, strLe]
theorem bin_geq_str {a b : List UInt8} {T : TypeId} : Bin P .geq T (encS a) (encS b) (.bool (!(strLt a b))) := fun x y w => by simp [eqGuard, binOp, encS, Op.stringOp, strLt]
end bins

section ops
variable {P : Program} {n : Nat} {md : Md} {K : Exit → Env → World → Prop} {Kn : Env → World → Prop} {ρ : Env} {w : World} {o : Tags} {d : Nat} {t : TypeId} {p : String} {e : Array Edge} {g : Option (Nat × Bool)}
theorem ex_max {x y : Operand} {T U : TypeId} {k : IntKind} {a b : Int} (hx : ev ρ x = .int k a) (hy : ev ρ y = .int k b) : Ex P ρ (.call { callee := .builtin .max, args := #[x, y], argTypes := #[T, U] }) t w (.int k (if b > a then b else a)) w := fun _ _ _ _ => by
  simp [execOp, resolve, invoke, builtin, Builtin.max_, Builtin.max2, hx, hy]
theorem ex_min {x y : Operand} {T U : TypeId} {k : IntKind} {a b : Int} (hx : ev ρ x = .int k a) (hy : ev ρ y = .int k b) : Ex P ρ (.call { callee := .builtin .min, args := #[x, y], argTypes := #[T, U] }) t w (.int k (if b < a then b else a)) w := fun _ _ _ _ => by
  simp [execOp, resolve, invoke, builtin, Builtin.min_, Builtin.min2, hx, hy]

/-! Bytes to a text -/
theorem many_scalar {α : Type} {enc : α → Value} {h1 : ∀ x, (enc x).oneCell' = true} {F : Nat → Prop} : ∀ {xs : List α} {cs : List Value}, Many (.scalar enc h1) F w xs cs → cs = xs.map enc
  | [], cs, h => h
  | x :: xs, cs, h => by
    obtain ⟨c0, c1, rfl, h0, h1'⟩ := h
    rw [show c0 = [enc x] from h0, many_scalar h1']; rfl
theorem run_bytesToString' {xs : List UInt8} {ad : Addr} {c : Nat} (hl : (loadCells ad xs.length).run P w = .ok (xs.map enc8).toArray w) : (Conv.bytesToString (.slice (some ad) xs.length c)).run P w = .ok (encS xs) w := by
  have e1 : xs.map enc8 = (xs.map fun b => (b.toNat : Int)).map (Value.int .u8) := by rw [List.map_map]; rfl
  have := run_bytesToString (P := P) w ad xs.length c (xs.map fun b => (b.toNat : Int)) (by rw [hl, e1])
  rw [this, foldl_push_bytes]
  simp only [encS, List.map_map]
  congr 2
  apply ByteArray.ext
  have e2 : List.map ((fun n => UInt8.ofNat n.toNat) ∘ fun (b : UInt8) => (b.toNat : Int)) xs = xs := by
    rw [show ((fun n : Int => UInt8.ofNat n.toNat) ∘ fun (b : UInt8) => (b.toNat : Int)) = id from by funext b; simp]; simp
  rw [e2]
  exact Array.empty_append
theorem ex_bytes_str {src E dst : TypeId} {x : Operand} {A : Option Addr} {c : Nat} {xs : List UInt8} {G F : Nat → Prop} (hx : ev ρ x = .slice A xs.length c) (hs : P.underlying src = some (.slice E)) (he : P.underlying E = some (.int .u8)) (hd : P.underlying dst = some .string)
    (hr : Row .u8 G F w A xs) : Ex P ρ (.convert src dst x) t w (encS xs) w := fun _ _ _ _ => by
  have hc : (convert src dst (.slice A xs.length c)).run P w = .ok (encS xs) w := by
    rw [run_convert_bytes_string w src dst E _ xs.length c hs he hd]
    rcases hr.2 with rfl | ⟨ad, cells, rfl, hg, hb, hM, hcell⟩
    · cases A with
      | none => simp [Conv.bytesToString, encS]; rfl
      | some ad => exact run_bytesToString' (xs := []) (by simp [loadCells, loadCellsFrom])
    · have hcs : cells = xs.map enc8 := many_scalar hM
      subst hcs
      refine run_bytesToString' ?_
      have := run_loadCells_list (P := P) w ad (xs.map enc8) hcell
      simpa using this
  simp [execOp, hx, hc]

/-! A text appended to bytes -/
theorem strCells_enc (s : List UInt8) : Lib.strCells ⟨s.toArray⟩ = s.map enc8 := by simp [Lib.strCells, enc8, Function.comp_def]
theorem run_append_str {T U E : TypeId} {i : TypeInfo} (ht : P.underlying T = some (.slice E)) (hu : P.underlying U = some .string) (hi : P.info? E = some i) (hz : i.zero = some (.int .u8 0)) (hsize : i.size = 1) (hby : i.bytes = 1)
    (v : Value) (n : Nat) (xs : List Value) (hown : w.ownsRow 0 E 1 v n xs) (s : ByteArray) (h63 : n + s.size ≤ maxLen) (hbytes : n + s.size ≤ 140737488355328) :
    ∃ v' w', (Builtin.append_ #[T, U] t #[v, .string s]).run P w = .ok v' w' ∧ w'.ownsRow 0 E 1 v' (n + s.size) (xs ++ Lib.strCells s) ∧ w.grownBy w' v.ownBlock ∧ (∀ k, v'.ownBlock = some k → v.ownBlock = some k ∨ w.heap.size ≤ k) := by
  rcases hown.2 with ⟨rfl, rfl⟩ | ⟨g, cap, cur, rfl, hbg, hg, hnc, hcm, hcs, htake⟩
  · obtain ⟨v', w', hr, h2, h3, h4⟩ := Lib.run_append_own_string (P := P) w w.heap.size T U t E i ht hu hi hz hsize hby (.slice none 0 0) 0 xs ⟨hown.1, .inl ⟨rfl, rfl⟩⟩ s h63 hbytes (Nat.le_refl _)
    refine ⟨v', w', hr, ⟨h2.1, ?_⟩, h3, fun k hk => .inr (h2.lt k hk).1⟩
    rcases h2.2 with h | ⟨g, cap, cur, a, b, rest⟩
    · exact .inl h
    · exact .inr ⟨g, cap, cur, a, Nat.zero_le _, rest⟩
  · obtain ⟨v', w', hr, h2, h3, h4⟩ := Lib.run_append_own_string (P := P) w 0 T U t E i ht hu hi hz hsize hby _ n xs hown s h63 hbytes (Nat.zero_le _)
    refine ⟨v', w', hr, h2, h3, fun k hk => ?_⟩
    by_cases hroom : n + s.size ≤ cap
    · have hcz : cur.size = cap := by simpa using hcs
      have hr2 := Lib.run_append_room_string (P := P) w T U t E i ht hu hi hsize g n cap cur hg s hroom (by omega)
      rw [hr2] at hr
      injection hr with hv hw
      rw [← hv] at hk
      exact .inl hk
    · have holds : ∀ j u, xs[j]? = some u → w.cell? ((⟨g, 0, none⟩ : Addr).add j) = some u := hown.cells (g := g) rfl
      have hxl : xs.length = n := by simpa using hown.1
      have hr2 := Lib.run_append_grow_string (P := P) w T U t E i (.int .u8 0) ht hu hi hz ⟨g, 0, none⟩ n cap xs (by rw [hsize]; simpa using hxl) holds s (by omega) (by simp only [maxLen] at h63; omega) (by rw [hby]; exact growslice_fits (by omega) (by omega))
      rw [hr2] at hr
      injection hr with hv hw
      rw [← hv] at hk
      have : w.heap.size = k := by simpa [Value.ownBlock] using hk
      exact .inr (by omega)
theorem OW.appendStr {T U E : TypeId} {x y : Operand} {i : Nat} {v : Value} {xs s : List UInt8} (hd : Nat.blt d n = true) (hT : P.underlying T = some (.slice E)) (hU : P.underlying U = some .string)
    (hE : (P.info? E).map (fun i => (i.zero, i.size, i.bytes)) = some (some (.int .u8 0), 1, 1)) (hi : i ≠ 0)
    (hx : ev ρ x = v) (hy : ev ρ y = encS s) (hO : Own .u8 E i o w v xs) (hl : (xs.length + s.length) * 1 ≤ 140737488355328)
    (k : ∀ o' w' v', Step o w o' w' [i] → Own .u8 E i o' w' v' (xs ++ s) → Kn (upd ρ d v') w') :
    OW P n md { dst := some d, op := .call { callee := .builtin .append, args := #[x, y], argTypes := #[T, U] }, type := t, pos := p, after := e, guard := g } Kn K ρ w := by
  obtain ⟨i0, hi0, hzz⟩ := Option.map_eq_some_iff.1 hE
  simp only [Prod.mk.injEq] at hzz
  obtain ⟨hz0, hz1, hz2⟩ := hzz
  obtain ⟨cells, hown, ht, hM⟩ := hO
  have hl' : xs.length + s.length ≤ 140737488355328 := by omega
  obtain ⟨v', w', hr, h2, h3, h5⟩ := run_append_str (P := P) (w := w) (t := t) hT hU hi0 hz0 hz1 hz2 v xs.length cells hown ⟨s.toArray⟩ (by rw [size_enc]; simp only [maxLen]; omega) (by rw [size_enc]; exact hl')
  have hstep : Step o w (fun b => bif Nat.blt b w.heap.size then o b else i) w' [i] := by
    refine ⟨h3.os, h3.tape, h3.output, h3.size, fun b hb => ?_, fun b hb hn => h3.block b hb (fun he => hn (by simp [ht b he.symm]))⟩
    have : Nat.blt b w.heap.size = true := by rw [Nat.blt_eq]; omega
    simp [this]
  refine OW.val (v := v') (w' := w') hd ?_ (k _ w' v' hstep ?_)
  · simp only [execOp, resolve, invoke, builtin, Sem.run_bind, Sem.run_pure, Result.andThen_ok, List.map_toArray, List.map_cons, List.map_nil, hx, hy, encS, hr]
  · rw [size_enc, strCells_enc] at h2
    refine ⟨cells ++ s.map enc8, by rw [List.length_append]; exact h2, fun b hb => ?_, ?_⟩
    · rcases h5 b hb with h5 | h5
      · have hlt := (hown.lt b h5).2
        have : Nat.blt b w.heap.size = true := by rw [Nat.blt_eq]; omega
        simp only [this, cond_true]
        exact ht b h5
      · have : Nat.blt b w.heap.size = false := by rw [← Bool.not_eq_true, Nat.blt_eq]; omega
        simp only [this, cond_false]
    · have hmv : ∀ b, o b = 0 → b < w.heap.size → w'.heap[b]? = w.heap[b]? := fun b hb hlt => h3.block b hlt (fun he => hi ((ht b he.symm).symm.trans hb))
      have hs : Many Rep.u8 (fun b => o b = 0) w s (s.map enc8) := by
        clear hl hl' h2 hr hy h3 h5 hstep hmv k
        induction s with
        | nil => rfl
        | cons a l ih => exact ⟨[enc8 a], l.map enc8, rfl, rfl, ih⟩
      refine ((hM.append hs).move (w' := w') hmv).mono (fun b hb => ?_)
      have : Nat.blt b w.heap.size = true := by rw [Nat.blt_eq]; exact hb.2
      simp only [this, cond_true]
      exact hb.1

/-! Elements of one's own -/
theorem Many.set {α : Type} {r : Rep α} {F : Nat → Prop} {y : α} {vs : List Value} (hy : r.R F w y vs) : ∀ {xs : List α} {cs : List Value} (k : Nat), k < xs.length → Many r F w xs cs → Many r F w (xs.set k y) (splice cs (k * r.sz) vs)
  | x :: xs, cs, 0, hk, h => by
    obtain ⟨c0, c1, rfl, h0, h1⟩ := h
    have e1 := r.len h0
    have e2 := r.len hy
    refine ⟨vs, c1, ?_, hy, h1⟩
    simp [splice, e2, ← e1]
  | x :: xs, cs, k + 1, hk, h => by
    obtain ⟨c0, c1, rfl, h0, h1⟩ := h
    have e1 := r.len h0
    refine ⟨c0, splice c1 (k * r.sz) vs, ?_, h0, Many.set hy k (by simpa using hk) h1⟩
    simp only [splice, Nat.add_mul, Nat.one_mul]
    rw [show k * r.sz + r.sz = c0.length + k * r.sz from by omega, List.take_length_add_append, show c0.length + k * r.sz + vs.length = c0.length + (k * r.sz + vs.length) from by omega, ← List.drop_drop, List.drop_left]
    simp
theorem Own.at {α : Type} {r : Rep α} {E i : Nat} {v : Value} {xs : List α} (h : Own r E i o w v xs) (hn : 0 < xs.length) : ∃ g c, v = .slice (some ⟨g, 0, none⟩) xs.length c := by
  obtain ⟨cells, hown, _⟩ := h
  rcases hown.2 with ⟨rfl, h0⟩ | ⟨g, cap, cur, rfl, _⟩
  · omega
  · exact ⟨g, cap, rfl⟩
theorem take_splice {cur cells vs : List Value} {k n : Nat} (hn : n = cells.length) (htk : cur.take n = cells) (hfit : k + vs.length ≤ cells.length) : (splice cur k vs).take n = splice cells k vs := by
  obtain ⟨tail, rfl⟩ : ∃ tail, cur = cells ++ tail := ⟨cur.drop n, by rw [← htk, List.take_append_drop]⟩
  subst hn
  have h1 : splice (cells ++ tail) k vs = splice cells k vs ++ tail := by
    unfold splice
    rw [List.take_append_of_le_length (by omega), List.drop_append_of_le_length hfit, List.append_assoc, List.append_assoc, List.append_assoc]
  rw [h1, ← splice_len hfit, List.take_left]
/-- One element of one's own row is written. -/
theorem OW.storeElem {α : Type} {r : Rep α} {E i c : Nat} {T : TypeId} {x y : Operand} {v : Value} {xs : List α} {ad : Addr} {j : Int} {y' : α} {vs : List Value} (hO : Own r E i o w v xs) (hv : v = .slice (some ad) xs.length c)
    (hx : ev ρ x = .pointer (some (ad.add (j.toNat * r.sz)))) (h0 : 0 ≤ j) (h1 : j < xs.length) (hy : (ev ρ y).cells = vs.toArray) (hs : (P.info? T).map (·.size) = some vs.length) (hR : r.R (fun b => o b = 0) w y' vs) (hi : i ≠ 0)
    (k : ∀ w', Step o w o w' [i] → Own r E i o w' v (xs.set j.toNat y') → Kn ρ w') : OW P n md { dst := none, op := .store T x y, type := t, pos := p, after := e, guard := g } Kn K ρ w := by
  obtain ⟨cells, hown, ht, hM⟩ := hO
  rcases hown.2 with ⟨rfl, h00⟩ | ⟨gb, cap, cur, rfl, hbg, hg, hnc, hcm, hcs, htake⟩
  · cases hv
  injection hv with e1 e2 e3
  injection e1 with e1
  subst e1
  have hlen := hM.len
  have hvl := r.len hR
  have hjn : j.toNat < xs.length := by omega
  have hfit : j.toNat * r.sz + vs.length ≤ cells.length := by
    rw [hlen, hvl]
    have : (j.toNat + 1) * r.sz ≤ xs.length * r.sz := Nat.mul_le_mul_right _ hjn
    rw [Nat.add_mul, Nat.one_mul] at this; exact this
  have hcur : cells.length ≤ cur.size := by rw [← htake]; simp [List.length_take]; omega
  have hr := run_storeCells' (P := P) gb (j.toNat * r.sz) E vs 0 w cur.toList (by simpa using hg) (by simp; omega) (r.one hR)
  have hlt := (Array.getElem?_eq_some_iff.1 hg).1
  have hadd : (⟨gb, 0, none⟩ : Addr).add (j.toNat * r.sz) = ⟨gb, j.toNat * r.sz, none⟩ := by rw [add_plain']; simp
  rw [hadd] at hx
  have hst : Step o w o { w with heap := w.heap.setIfInBounds gb (.cells (splice cur.toList (j.toNat * r.sz + 0) vs).toArray E (0, 0)) } [i] := step_set (ht gb rfl)
  refine OW.unit (w' := { w with heap := w.heap.setIfInBounds gb (.cells (splice cur.toList (j.toNat * r.sz + 0) vs).toArray E (0, 0)) }) ?_ (k _ hst ?_)
  · simp [execOp, hx, Instr.storeAt, Instr.sureAddr, storeVar, hy, run_sizeOf' hs, hr]
  · refine ⟨splice cells (j.toNat * r.sz) vs, ⟨?_, .inr ⟨gb, cap, (splice cur.toList (j.toNat * r.sz + 0) vs).toArray, ?_, Nat.zero_le _, by simp [hlt], ?_, hcm, ?_, ?_⟩⟩, ht, ?_⟩
    · rw [splice_len hfit, List.length_set, hlen]
    · rw [List.length_set]
    · rw [List.length_set]; exact hnc
    · rw [List.size_toArray, splice_len (by simp; omega), Array.length_toList]; exact hcs
    · simp only [Nat.add_zero, List.length_set]
      exact take_splice hlen.symm htake hfit
    · refine ((hM.move (w' := { w with heap := w.heap.setIfInBounds gb (.cells (splice cur.toList (j.toNat * r.sz + 0) vs).toArray E (0, 0)) }) ?_).mono (fun b hb => hb.1)).set ?_ _ hjn
      · exact fun b hb hlt' => hst.keep b hlt' (by intro hm; simp at hm; exact hi (hm.symm.trans hb))
      · exact Rep.step (V := fun q => q = 0) hst (by rintro q rfl hm; simp at hm; exact hi hm.symm) hR

/-- The head of one's own row, the room behind it kept. -/
theorem Own.take {α : Type} {r : Rep α} {E i : Nat} {v : Value} {xs : List α} {h : Int} (hO : Own r E i o w v xs) (h0 : 0 ≤ h) (h1 : h ≤ xs.length) : ∃ A c, v = .slice A xs.length c ∧ xs.length ≤ c ∧ Own r E i o w (.slice A h.toNat c) (xs.take h.toNat) := by
  obtain ⟨cells, hown, ht, hM⟩ := hO
  rcases hown.2 with ⟨rfl, h00⟩ | ⟨gb, cap, cur, rfl, hbg, hg, hnc, hcm, hcs, htake⟩
  · refine ⟨none, 0, by rw [h00], by omega, ?_⟩
    obtain rfl : xs = [] := List.eq_nil_of_length_eq_zero h00
    have : h.toNat = 0 := by simp at h1; omega
    rw [this]; exact Own.nil
  · refine ⟨_, cap, rfl, hnc, cells.take (h.toNat * r.sz), ⟨?_, .inr ⟨gb, cap, cur, ?_, Nat.zero_le _, hg, ?_, hcm, hcs, ?_⟩⟩, ht, hM.take _⟩
    · have h2 : h.toNat * r.sz ≤ xs.length * r.sz := Nat.mul_le_mul_right _ (by omega)
      rw [List.length_take, hM.len, List.length_take, Nat.min_eq_left h2, Nat.min_eq_left (show h.toNat ≤ xs.length by omega)]
    · rw [List.length_take, Nat.min_eq_left (by omega)]
    · rw [List.length_take, Nat.min_eq_left (by omega)]; omega
    · rw [← htake, List.take_take, List.length_take, Nat.min_eq_left (show h.toNat ≤ xs.length by omega), Nat.min_eq_left (Nat.mul_le_mul_right _ (by omega))]
/-- What is one's own becomes data. -/
theorem Own.pubRow {α : Type} {r : Rep α} {E i : Nat} {v : Value} {xs : List α} (h : Own r E i o w v xs) : ∃ A c, v = .slice A xs.length c ∧ xs.length ≤ c ∧ Row r (fun b => SX.pub o i b = 0) (fun b => SX.pub o i b = 0) w A xs := by
  obtain ⟨A, c, e, hl, hr⟩ := h.row
  exact ⟨A, c, e, hl, hr.mono (fun b hb => pub_same o i b hb) (fun b hb => pub_zero o i b hb)⟩
/-- A cut with a capacity. -/
theorem ex_slice3 {T E : TypeId} {x h3 : Operand} {A : Option Addr} {m c sz : Nat} {hi : Operand} {h : Int} {k1 k2 : IntKind} (hx : ev ρ x = .slice A m c) (hT : P.underlying T = some (.slice E)) (hs : (P.info? E).map (·.size) = some sz)
    (hh : ev ρ hi = .int k1 h) (hm : ev ρ h3 = .int k2 h) (h0 : 0 ≤ h) (h2 : h ≤ c) : Ex P ρ (.slice T x none (some hi) (some h3)) t w (.slice (subA A h.toNat 0 sz) h.toNat h.toNat) w := fun _ _ _ _ => by
  have b1 : ∀ code, (Instr.sliceBound (.int k2 h) c code).run P w = .ok h.toNat w := fun code => run_sliceBound h0 h2
  have b2 : ∀ code, (Instr.sliceBound (.int k1 h) h.toNat code).run P w = .ok h.toNat w := fun code => run_sliceBound h0 (by omega)
  simp [execOp, hx, hh, hm, Instr.sliceAt, Instr.slice, run_underlying hT, Instr.sliceBounds, b1, b2, run_sizeOf' hs, subA]
end ops
end Go.Proofs.YtpmkkhkphddfeaaDoor.SX
