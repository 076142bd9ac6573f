/- What is read when a call begins: data as the rows say it, in the plain form; how much it is, and that its numbers fit. -/
import Derived.Test.YtpmkkhkphddfeaaDoorSxN
import Derived.Test.YtpmkkhkphddfeaaDoorRows
set_option linter.unusedVariables false
set_option linter.unusedSimpArgs false
namespace Go.Proofs.YtpmkkhkphddfeaaDoor.SX
open Go Go.RowKit
/-- Data of the type t are read as plain ones (r), no more of them than the reading's bulk (bulk), each fit (ok). -/
def OpensAt {α : Type} (P : Program) (fuel : Nat) (t : TypeId) (r : Rep α) (bulk : α → Nat) (ok : α → Prop) : Prop :=
  ∀ {H : Type} {enc : TypeId × Value → H} {w : World} {cs : List Value} {d : DataW H} {ps : List MemPlace},
    DataW.trod enc P w 0 (fun _ => true) true fuel t cs = some (d, ps) → ∃ x, r.R (fun _ => True) w x cs ∧ bulk x ≤ Rows.uptoBulk d ∧ ok x
def Opens {α : Type} (P : Program) (t : TypeId) (r : Rep α) (bulk : α → Nat) (ok : α → Prop) : Prop := ∀ fuel, OpensAt P fuel t r bulk ok
section opens
variable {P : Program} {t : TypeId}
theorem OpensAt.zero {α : Type} {r : Rep α} {bulk : α → Nat} {ok : α → Prop} : OpensAt P 0 t r bulk ok := fun h => by simp [DataW.trod] at h
theorem trod_int {H : Type} {enc : TypeId × Value → H} {w : World} {fuel : Nat} {cs : List Value} {d : DataW H} {ps : List MemPlace} {k : IntKind} (hT : P.underlying t = some (.int k))
    (h : DataW.trod enc P w 0 (fun _ => true) true fuel t cs = some (d, ps)) : ∃ n, cs = [.int k n] ∧ (Lit.int k n).wf = true ∧ d = .lit (.int k n) := by
  cases fuel with
  | zero => simp [DataW.trod] at h
  | succ fuel =>
    unfold DataW.trod at h
    rw [hT] at h
    split at h <;> rename_i e1 <;> (try (injection e1 with e1; cases e1)) <;> (try (injection e1; done))
    · split at h
      · rename_i hw
        obtain ⟨rfl, hw⟩ := hw
        injection h with h
        injection h with h1 h2
        exact ⟨_, rfl, hw, h1.symm⟩
      · cases h
    · cases h
theorem trod_bool {H : Type} {enc : TypeId × Value → H} {w : World} {fuel : Nat} {cs : List Value} {d : DataW H} {ps : List MemPlace} (hT : P.underlying t = some .bool)
    (h : DataW.trod enc P w 0 (fun _ => true) true fuel t cs = some (d, ps)) : ∃ b, cs = [.bool b] ∧ d = .lit (.bool b) := by
  cases fuel with
  | zero => simp [DataW.trod] at h
  | succ fuel =>
    unfold DataW.trod at h
    rw [hT] at h
    split at h <;> rename_i e1 <;> (try (injection e1 with e1; cases e1)) <;> (try (injection e1; done))
    · injection h with h
      injection h with h1 h2
      exact ⟨_, rfl, h1.symm⟩
    · cases h
theorem trod_str {H : Type} {enc : TypeId × Value → H} {w : World} {fuel : Nat} {cs : List Value} {d : DataW H} {ps : List MemPlace} (hT : P.underlying t = some .string)
    (h : DataW.trod enc P w 0 (fun _ => true) true fuel t cs = some (d, ps)) : ∃ s : ByteArray, cs = [.string s] ∧ s.size ≤ maxLen ∧ d = .lit (.string s.data.toList) := by
  cases fuel with
  | zero => simp [DataW.trod] at h
  | succ fuel =>
    unfold DataW.trod at h
    rw [hT] at h
    split at h <;> rename_i e1 <;> (try (injection e1 with e1; cases e1)) <;> (try (injection e1; done))
    · split at h
      · rename_i hw
        injection h with h
        injection h with h1 h2
        exact ⟨_, rfl, hw, h1.symm⟩
      · cases h
    · cases h
theorem trod_struct {H : Type} {enc : TypeId × Value → H} {w : World} {fuel : Nat} {cs : List Value} {d : DataW H} {ps : List MemPlace} {fs : Array Field} (hT : P.underlying t = some (.struct fs))
    (h : DataW.trod enc P w 0 (fun _ => true) true (fuel + 1) t cs = some (d, ps)) :
    cs.length = P.cellsOf t ∧ ∃ xs, (fs.toList.mapM fun f => DataW.trod enc P w 0 (fun _ => true) true fuel f.type ((cs.drop f.offset).take (P.cellsOf f.type))) = some xs ∧ d = .agg (xs.map (·.1)) := by
  unfold DataW.trod at h
  rw [hT] at h
  split at h <;> rename_i e1 <;> (try (injection e1 with e1; cases e1)) <;> (try (injection e1; done))
  · split at h
    · rename_i hw
      obtain ⟨xs, hx, he⟩ := Option.map_eq_some_iff.1 h
      injection he with h1 h2
      exact ⟨hw, xs, hx, h1.symm⟩
    · cases h
  · exfalso
    simp_all
theorem trod_arr {H : Type} {enc : TypeId × Value → H} {w : World} {fuel : Nat} {cs : List Value} {d : DataW H} {ps : List MemPlace} {n e : Nat} (hT : P.underlying t = some (.array n e))
    (h : DataW.trod enc P w 0 (fun _ => true) true (fuel + 1) t cs = some (d, ps)) :
    cs.length = P.cellsOf t ∧ ∃ xs, ((List.range n).mapM fun i => DataW.trod enc P w 0 (fun _ => true) true fuel e ((cs.drop (i * P.cellsOf e)).take (P.cellsOf e))) = some xs ∧ d = .agg (xs.map (·.1)) := by
  unfold DataW.trod at h
  rw [hT] at h
  split at h <;> rename_i e1 <;> (try (injection e1 with e1; cases e1)) <;> (try (injection e1; done))
  · split at h
    · rename_i hw
      obtain ⟨xs, hx, he⟩ := Option.map_eq_some_iff.1 h
      injection he with h1 h2
      exact ⟨hw, xs, hx, h1.symm⟩
    · cases h
  · exfalso
    simp_all
theorem trod_slice {H : Type} {enc : TypeId × Value → H} {w : World} {fuel : Nat} {cs : List Value} {d : DataW H} {ps : List MemPlace} {e : Nat} (hT : P.underlying t = some (.slice e))
    (h : DataW.trod enc P w 0 (fun _ => true) true (fuel + 1) t cs = some (d, ps)) :
    (cs = [.slice none 0 0] ∧ d = .nil) ∨ ∃ a len cap elems rest, cs = [.slice (some a) len cap] ∧ len ≤ cap ∧ cap ≤ maxLen ∧
      ((List.range len).mapM fun i => (w.cells? 0 (a.add (i * P.cellsOf e)) (P.cellsOf e)).bind (DataW.trod enc P w 0 (fun _ => true) true fuel e)) = some elems ∧ d = .slice (elems.map (·.1)) rest := by
  unfold DataW.trod at h
  rw [hT] at h
  split at h <;> rename_i e1 <;> (try (injection e1 with e1; cases e1)) <;> (try (injection e1; done))
  · injection h with h
    injection h with h1 h2
    exact .inl ⟨rfl, h1.symm⟩
  · split at h
    · rename_i hw
      obtain ⟨elems, hx, he⟩ := Option.bind_eq_some_iff.1 h
      obtain ⟨rest, hr, he⟩ := Option.map_eq_some_iff.1 he
      injection he with h1 h2
      exact .inr ⟨_, _, _, elems, _, rfl, hw.2.1, hw.2.2, hx, h1.symm⟩
    · cases h
  · cases h

theorem opens_i {k : IntKind} (hT : P.underlying t = some (.int k)) : Opens P t (Rep.int k) bulk1 (okI k) := fun fuel H enc w cs d ps h => by
  obtain ⟨n, rfl, hw, rfl⟩ := trod_int hT h
  exact ⟨n, rfl, by simp [bulk1, Rows.uptoBulk], hw⟩
theorem wf_u8 {n : Int} (h : (Lit.int .u8 n).wf = true) : 0 ≤ n ∧ n ≤ 255 := by simpa [Lit.wf, IntKind.min, IntKind.max, IntKind.signed, IntKind.bits] using h
theorem wf_u32 {n : Int} (h : (Lit.int .u32 n).wf = true) : 0 ≤ n ∧ n ≤ 4294967295 := by simpa [Lit.wf, IntKind.min, IntKind.max, IntKind.signed, IntKind.bits] using h
theorem wf_u64 {n : Int} (h : (Lit.int .u64 n).wf = true) : 0 ≤ n ∧ n ≤ 18446744073709551615 := by simpa [Lit.wf, IntKind.min, IntKind.max, IntKind.signed, IntKind.bits] using h
theorem wf_i64 {n : Int} (h : (Lit.int .i64 n).wf = true) : -9223372036854775808 ≤ n ∧ n ≤ 9223372036854775807 := by simpa [Lit.wf, IntKind.min, IntKind.max, IntKind.signed, IntKind.bits] using h
theorem opens_u8 (hT : P.underlying t = some (.int .u8)) : Opens P t Rep.u8 bulk1 okT := fun fuel H enc w cs d ps h => by
  obtain ⟨n, rfl, hw, rfl⟩ := trod_int hT h
  have hb := wf_u8 hw
  have e : enc8 (UInt8.ofNat n.toNat) = .int .u8 n := by
    unfold enc8
    rw [UInt8.toNat_ofNat', Nat.mod_eq_of_lt (by omega), Int.toNat_of_nonneg hb.1]
  exact ⟨UInt8.ofNat n.toNat, by show _ = [enc8 _]; rw [e], by simp [bulk1, Rows.uptoBulk], trivial⟩
theorem opens_u32 (hT : P.underlying t = some (.int .u32)) : Opens P t Rep.u32 bulk1 okT := fun fuel H enc w cs d ps h => by
  obtain ⟨n, rfl, hw, rfl⟩ := trod_int hT h
  have hb := wf_u32 hw
  have e : enc32 (UInt32.ofNat n.toNat) = .int .u32 n := by
    unfold enc32
    rw [UInt32.toNat_ofNat', Nat.mod_eq_of_lt (by omega), Int.toNat_of_nonneg hb.1]
  exact ⟨UInt32.ofNat n.toNat, by show _ = [enc32 _]; rw [e], by simp [bulk1, Rows.uptoBulk], trivial⟩
theorem opens_u64 (hT : P.underlying t = some (.int .u64)) : Opens P t Rep.u64 bulk1 okT := fun fuel H enc w cs d ps h => by
  obtain ⟨n, rfl, hw, rfl⟩ := trod_int hT h
  have hb := wf_u64 hw
  have e : enc64 (UInt64.ofNat n.toNat) = .int .u64 n := by
    unfold enc64
    rw [UInt64.toNat_ofNat', Nat.mod_eq_of_lt (by omega), Int.toNat_of_nonneg hb.1]
  exact ⟨UInt64.ofNat n.toNat, by show _ = [enc64 _]; rw [e], by simp [bulk1, Rows.uptoBulk], trivial⟩
theorem opens_bool (hT : P.underlying t = some .bool) : Opens P t Rep.bool bulk1 okT := fun fuel H enc w cs d ps h => by
  obtain ⟨b, rfl, rfl⟩ := trod_bool hT h
  exact ⟨b, rfl, by simp [bulk1, Rows.uptoBulk], trivial⟩
theorem opens_str (hT : P.underlying t = some .string) : Opens P t Rep.str bulkS okS := fun fuel H enc w cs d ps h => by
  obtain ⟨s, rfl, hs, rfl⟩ := trod_str hT h
  refine ⟨s.data.toList, ?_, by simp [bulkS, Rows.uptoBulk], ?_⟩
  · show _ = [encS _]
    simp [encS]
  · have : s.data.toList.length = s.size := by simp
    unfold okS
    rw [this]; exact hs

theorem mapM_get {α β : Type} {f : α → Option β} : ∀ {l : List α} {r : List β}, l.mapM f = some r → r.length = l.length ∧ ∀ (i : Nat) (x : α), l[i]? = some x → f x = r[i]?
  | [], r, h => by
    have : r = [] := by simpa using h.symm
    subst this
    exact ⟨rfl, fun i x hx => by simp at hx⟩
  | a :: l, r, h => by
    rw [List.mapM_cons] at h
    obtain ⟨b, hb, h⟩ := Option.bind_eq_some_iff.1 h
    obtain ⟨bs, hbs, h⟩ := Option.bind_eq_some_iff.1 h
    have : r = b :: bs := by simpa using h.symm
    subst this
    obtain ⟨hl, hg⟩ := mapM_get hbs
    refine ⟨by simp [hl], fun i x hx => ?_⟩
    cases i with
    | zero =>
      have : a = x := by simpa using hx
      subst this; simpa using hb
    | succ i => simpa using hg i x (by simpa using hx)
theorem mapM_range {β : Type} {f : Nat → Option β} {n : Nat} {r : List β} (h : (List.range n).mapM f = some r) : r.length = n ∧ ∀ i, i < n → f i = r[i]? := by
  obtain ⟨hl, hg⟩ := mapM_get h
  exact ⟨by simpa using hl, fun i hi => hg i i (by simp [hi])⟩
theorem cells_some {w : World} {a : Addr} {n : Nat} {cs : List Value} (h : w.cells? 0 a n = some cs) : cs.length = n ∧ ∀ j u, cs[j]? = some u → w.cell? (a.add j) = some u := by
  unfold World.cells? at h
  rw [if_pos (Nat.zero_le _)] at h
  obtain ⟨hl, hg⟩ := mapM_range h
  refine ⟨hl, fun j u hu => ?_⟩
  rw [hg j (by rw [← hl]; exact (List.getElem?_eq_some_iff.1 hu).1)]
  exact hu
theorem cell_lt {w : World} {a : Addr} {v : Value} (h : w.cell? a = some v) : a.block < w.heap.size := by
  rcases Nat.lt_or_ge a.block w.heap.size with h1 | h1
  · exact h1
  · simp [World.cell?, Array.getElem?_eq_none h1] at h
/-- Elements one by one make a row. -/
theorem many_of {α : Type} {r : Rep α} {F : Nat → Prop} {w : World} {b : α → Nat} {ok : α → Prop} {H : Type} (a : Addr) (hr : 0 < r.sz) : ∀ (n i0 : Nat) (ds : List (DataW H)),
    ds.length = n → (∀ i, i < n → ∃ cs d x, ds[i]? = some d ∧ cs.length = r.sz ∧ (∀ j u, cs[j]? = some u → w.cell? (a.add ((i0 + i) * r.sz + j)) = some u) ∧ r.R F w x cs ∧ b x ≤ Rows.uptoBulk d ∧ ok x) →
    ∃ (xs : List α) (cells : List Value), xs.length = n ∧ Many r F w xs cells ∧ (∀ j u, cells[j]? = some u → w.cell? (a.add (i0 * r.sz + j)) = some u) ∧ (xs.map b).sum ≤ Rows.uptoBulkAll ds ∧ okL ok xs := by
  intro n
  induction n with
  | zero =>
    intro i0 ds hl h
    exact ⟨[], [], rfl, rfl, fun j u hu => by simp at hu, by simp, fun x hx => by cases hx⟩
  | succ n ih =>
    intro i0 ds hl h
    match ds, hl with
    | d0 :: ds, hl =>
      obtain ⟨cs, d, x, hd, hc, hcell, hR, hb, hok⟩ := h 0 (Nat.succ_pos n)
      have : d0 = d := by simpa using hd
      subst this
      obtain ⟨xs, cells, hxl, hM, hcells, hsum, hoks⟩ := ih (i0 + 1) ds (by simpa using hl) (fun i hi => by
        obtain ⟨cs, d, x, h1, h2, h3, h4⟩ := h (i + 1) (by omega)
        refine ⟨cs, d, x, by simpa using h1, h2, ?_, h4⟩
        rw [show i0 + (i + 1) = i0 + 1 + i from by omega] at h3
        exact h3)
      refine ⟨x :: xs, cs ++ cells, by simp [hxl], ⟨cs, cells, rfl, hR, hM⟩, fun j u hu => ?_, ?_, ?_⟩
      · by_cases hj : j < cs.length
        · rw [List.getElem?_append_left hj] at hu
          exact hcell j u hu
        · rw [List.getElem?_append_right (by omega)] at hu
          have := hcells _ _ hu
          rw [show (i0 + 1) * r.sz + (j - cs.length) = i0 * r.sz + j from by rw [Nat.add_mul, Nat.one_mul]; omega] at this
          exact this
      · simp only [List.map_cons, List.sum_cons, Rows.uptoBulkAll]
        omega
      · intro y hy
        rcases List.mem_cons.1 hy with rfl | hy
        · exact hok
        · exact hoks y hy
theorem opens_slice {fuel : Nat} {α : Type} {e : TypeId} {r : Rep α} {b : α → Nat} {ok : α → Prop} (hT : P.underlying t = some (.slice e)) (hc : P.cellsOf e = r.sz) (hr : 0 < r.sz) (h : OpensAt P fuel e r b ok) :
    OpensAt P (fuel + 1) t (Rep.slice r) (bulkL b) (okL ok) := by
  intro H enc w cs d ps hd
  rcases trod_slice hT hd with ⟨rfl, rfl⟩ | ⟨a, len, cap, elems, rest, rfl, hlc, hcm, hm, rfl⟩
  · exact ⟨[], ⟨none, 0, rfl, Nat.le_refl _, Row.nil⟩, by simp [bulkL, Rows.uptoBulk], fun x hx => by cases hx⟩
  · rw [hc] at hm
    obtain ⟨hl, hg⟩ := mapM_range hm
    obtain ⟨xs, cells, hxl, hM, hcells, hsum, hoks⟩ := many_of (b := b) (ok := ok) a hr len 0 (elems.map (·.1)) (by simp [hl]) (fun i hi => by
      have h1 := hg i hi
      rw [List.getElem?_eq_getElem (by rw [hl]; exact hi)] at h1
      obtain ⟨cs, hcs, ht⟩ := Option.bind_eq_some_iff.1 h1
      obtain ⟨hcl, hcell⟩ := cells_some hcs
      obtain ⟨x, hR, hb, hok⟩ := h (d := elems[i].1) (ps := elems[i].2) ht
      refine ⟨cs, elems[i].1, x, by simp [List.getElem?_eq_getElem (show i < elems.length by rw [hl]; exact hi)], hcl, fun j u hu => ?_, hR, hb, hok⟩
      have := hcell j u hu
      rw [add_add] at this
      rw [Nat.zero_add]
      exact this)
    subst hxl
    refine ⟨xs, ⟨some a, cap, rfl, hlc, Nat.le_trans hlc hcm, ?_⟩, ?_, hoks⟩
    · rcases Nat.eq_zero_or_pos xs.length with h0 | h0
      · exact .inl (List.eq_nil_of_length_eq_zero h0)
      · refine .inr ⟨a, cells, rfl, trivial, ?_, hM, fun j u hu => by have := hcells j u hu; rwa [Nat.zero_mul, Nat.zero_add] at this⟩
        have hcl := hM.len
        have hp : 0 < cells.length := by rw [hcl]; exact Nat.mul_pos h0 hr
        have := cell_lt (hcells 0 cells[0] (by simp [hp]))
        rwa [add_block] at this
    · simp only [bulkL, Rows.uptoBulk]
      omega
/-- The fields of a struct, from a place on. -/
def FOpens {α : Type} (P : Program) (fuel : Nat) (fs : List Field) (off : Nat) (r : Rep α) (b : α → Nat) (ok : α → Prop) : Prop :=
  ∀ {H : Type} {enc : TypeId × Value → H} {w : World} {cs : List Value} {xs : List (DataW H × List MemPlace)},
    (fs.mapM fun f => DataW.trod enc P w 0 (fun _ => true) true fuel f.type ((cs.drop f.offset).take (P.cellsOf f.type))) = some xs →
    ∃ x, r.R (fun _ => True) w x ((cs.drop off).take r.sz) ∧ b x ≤ Rows.uptoBulkAll (xs.map (·.1)) ∧ ok x
theorem fopens_one {fuel : Nat} {α : Type} {f : Field} {off : Nat} {r : Rep α} {b : α → Nat} {ok : α → Prop} (hf : f.offset = off) (hc : P.cellsOf f.type = r.sz) (h : OpensAt P fuel f.type r b ok) : FOpens P fuel [f] off r b ok := by
  intro H enc w cs xs hx
  rw [List.mapM_cons] at hx
  obtain ⟨y, hy, hx⟩ := Option.bind_eq_some_iff.1 hx
  have : xs = [y] := by simpa using hx.symm
  subst this
  rw [hf, hc] at hy
  obtain ⟨x, hR, hb, hok⟩ := h (d := y.1) (ps := y.2) hy
  exact ⟨x, hR, by simpa [Rows.uptoBulkAll] using hb, hok⟩
theorem fopens_cons {fuel : Nat} {α β : Type} {f : Field} {fs : List Field} {off : Nat} {r : Rep α} {b : α → Nat} {ok : α → Prop} {r2 : Rep β} {b2 : β → Nat} {ok2 : β → Prop} (hf : f.offset = off) (hc : P.cellsOf f.type = r.sz)
    (h : OpensAt P fuel f.type r b ok) (k : FOpens P fuel fs (off + r.sz) r2 b2 ok2) : FOpens P fuel (f :: fs) off (Rep.pair r r2) (fun x => b x.1 + b2 x.2) (fun x => ok x.1 ∧ ok2 x.2) := by
  intro H enc w cs xs hx
  rw [List.mapM_cons] at hx
  obtain ⟨y, hy, hx⟩ := Option.bind_eq_some_iff.1 hx
  obtain ⟨ys, hys, hx⟩ := Option.bind_eq_some_iff.1 hx
  have : xs = y :: ys := by simpa using hx.symm
  subst this
  rw [hf, hc] at hy
  obtain ⟨x, hR, hb, hok⟩ := h (d := y.1) (ps := y.2) hy
  obtain ⟨x2, hR2, hb2, hok2⟩ := k hys
  have hl := r.len hR
  refine ⟨(x, x2), ⟨_, _, ?_, hR, hR2⟩, ?_, hok, hok2⟩
  · show (cs.drop off).take (r.sz + r2.sz) = _
    rw [List.take_add, List.drop_drop]
  · simp only [List.map_cons, Rows.uptoBulkAll]; omega
theorem opens_struct {fuel : Nat} {α β : Type} {fs : Array Field} {d : Rep α} {f : β → α} {b : α → Nat} {ok : α → Prop} (g : α → β) (hT : P.underlying t = some (.struct fs)) (hc : P.cellsOf t = d.sz) (hg : ∀ x, f (g x) = x)
    (h : FOpens P fuel fs.toList 0 d b ok) : OpensAt P (fuel + 1) t (Rep.iso d f) (fun x => b (f x) + 1) (fun x => ok (f x)) := by
  intro H enc w cs dd ps hd
  obtain ⟨hl, xs, hx, rfl⟩ := trod_struct hT hd
  obtain ⟨x, hR, hb, hok⟩ := h hx
  refine ⟨g x, ?_, ?_, by show ok (f (g x)); rw [hg]; exact hok⟩
  · show d.R _ w (f (g x)) cs
    rw [hg]
    rwa [List.drop_zero, List.take_of_length_le (by rw [hl, hc]; exact Nat.le_refl _)] at hR
  · show b (f (g x)) + 1 ≤ _
    rw [hg]; simp only [Rows.uptoBulk]; omega
theorem opens_arr {fuel : Nat} {α : Type} {n e : Nat} {r : Rep α} {b : α → Nat} {ok : α → Prop} (hT : P.underlying t = some (.array n e)) (hct : P.cellsOf t = n * r.sz) (hc : P.cellsOf e = r.sz) (h : OpensAt P fuel e r b ok) :
    OpensAt P (fuel + 1) t (Rep.arr n r) (bulkL b) (fun xs => xs.length = n ∧ okL ok xs) := by
  intro H enc w cs d ps hd
  obtain ⟨hl, xs, hx, rfl⟩ := trod_arr hT hd
  obtain ⟨hxl, hg⟩ := mapM_range hx
  rw [hc] at hg
  have key : ∀ (m i0 : Nat), i0 + m = n → ∃ ys, ys.length = m ∧ Many r (fun _ => True) w ys (cs.drop (i0 * r.sz)) ∧ (ys.map b).sum ≤ Rows.uptoBulkAll ((xs.map (·.1)).drop i0) ∧ okL ok ys := by
    intro m
    induction m with
    | zero =>
      intro i0 hi
      refine ⟨[], rfl, ?_, by simp, fun x hx => by cases hx⟩
      have : cs.length ≤ i0 * r.sz := by rw [hl, hct]; exact Nat.mul_le_mul_right _ (by omega)
      exact List.drop_eq_nil_of_le this
    | succ m ih =>
      intro i0 hi
      obtain ⟨ys, h1, h2, h3, h4⟩ := ih (i0 + 1) (by omega)
      have h5 := hg i0 (by omega)
      rw [List.getElem?_eq_getElem (by omega)] at h5
      obtain ⟨y, hR, hb, hok⟩ := h (d := xs[i0].1) (ps := xs[i0].2) h5
      refine ⟨y :: ys, by simp [h1], ⟨_, _, ?_, hR, h2⟩, ?_, ?_⟩
      · rw [show (i0 + 1) * r.sz = i0 * r.sz + r.sz from by rw [Nat.add_mul, Nat.one_mul], ← List.drop_drop, List.take_append_drop]
      · have hlt : i0 < (xs.map (·.1)).length := by simp; omega
        rw [← List.getElem_cons_drop (h := hlt)]
        simp only [List.map_cons, List.sum_cons, Rows.uptoBulkAll, List.getElem_map]
        omega
      · intro z hz
        rcases List.mem_cons.1 hz with rfl | hz
        · exact hok
        · exact h4 z hz
  obtain ⟨ys, h1, h2, h3, h4⟩ := key n 0 (by omega)
  refine ⟨ys, ⟨h1, by simpa using h2⟩, ?_, h1, h4⟩
  simp only [bulkL, Rows.uptoBulk]
  rw [List.drop_zero] at h3
  omega
/-- An argument, read. -/
theorem Opens.arg {α : Type} {r : Rep α} {b : α → Nat} {ok : α → Prop} (h : Opens P t r b ok) {H : Type} {enc : TypeId × Value → H} {w : World} {v : Value} {d : DataW H} {ps : List MemPlace} (ht : DataW.Trod enc P w 0 (fun _ => true) true t v d ps) :
    ∃ x, r.R (fun b => (fun _ => 0 : Tags) b = 0) w x v.cells.toList ∧ b x ≤ Rows.uptoBulk d ∧ ok x := by
  obtain ⟨fuel, hf⟩ := ht
  obtain ⟨x, hR, hb, hok⟩ := h fuel hf
  exact ⟨x, r.mono (fun _ _ => rfl) hR, hb, hok⟩
end opens
end Go.Proofs.YtpmkkhkphddfeaaDoor.SX
