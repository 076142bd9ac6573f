/- Small words for printed proofs. -/
import Derived.Test.YtpmkkhkphddfeaaDoorSxG
import Derived.Laws.BytesArg
set_option linter.unusedVariables false
set_option linter.unusedSimpArgs false
namespace Go.Proofs.YtpmkkhkphddfeaaDoor.SX
open Go Go.RowKit
section w
variable {P : Program} {n : Nat} {md : Md} {ops : Array Oper} {rest : List Oper} {K : Exit → Env → World → Prop} {Kn : Env → World → Prop} {ρ : Env} {w : World} {o : Tags}
theorem ex_pick {c x y : Operand} {t : TypeId} {b : Bool} {u v : Value} (hc : ev ρ c = .bool b) (hx : ev ρ x = u) (hy : ev ρ y = v) : Ex P ρ (.pick c x y) t w (bif b then u else v) w := fun _ _ _ _ => by
  subst hx hy
  cases b <;> simp [execOp, hc, asBool]
theorem ex_pick_t {c x y : Operand} {t : TypeId} {v : Value} (hc : ev ρ c = .bool true) (hx : ev ρ x = v) : Ex P ρ (.pick c x y) t w v w := fun _ _ _ _ => by
  subst hx; simp [execOp, hc, asBool]
theorem ex_pick_f {c x y : Operand} {t : TypeId} {v : Value} (hc : ev ρ c = .bool false) (hy : ev ρ y = v) : Ex P ρ (.pick c x y) t w v w := fun _ _ _ _ => by
  subst hy; simp [execOp, hc, asBool]
theorem ex_slice' {T E t : TypeId} {x : Operand} {A A2 : Option Addr} {m m2 c sz : Nat} {lo hi : Option Operand} {l h : Int} (hx : ev ρ x = .slice A m c) (hT : P.underlying T = some (.slice E)) (hs : (P.info? E).map (·.size) = some sz)
    (hl : lowOf ρ lo l) (hh : highOf ρ m hi h) (h0 : 0 ≤ l) (h1 : l ≤ h) (h2 : h ≤ c) (hA : A2 = subA A c l.toNat sz) (hm : m2 = h.toNat - l.toNat) : Ex P ρ (.slice T x lo hi none) t w (.slice A2 m2 (c - l.toNat)) w := by
  subst hA hm
  exact ex_slice hx hT hs hl hh h0 h1 h2
theorem ex_conv_small {src dst t : TypeId} {x : Operand} {k : IntKind} {a : Int} {ds : TypeDesc} (hx : ev ρ x = .int k a) (hs : P.underlying src = some ds) (hd : P.underlying dst = some (.int .i64)) (ha : 0 ≤ a ∧ a ≤ 9223372036854775807) :
    Ex P ρ (.convert src dst x) t w (.int .i64 a) w := by
  have := ex_conv64 (P := P) (w := w) (t := t) hx hs hd
  rw [wrap64_in (by omega) ha.2] at this
  exact this
theorem ex_conv_str {src dst t : TypeId} {x : Operand} {s : List UInt8} (hx : ev ρ x = encS s) (hs : P.underlying src = some .string) (hd : P.underlying dst = some .string) : Ex P ρ (.convert src dst x) t w (encS s) w := fun _ _ _ _ => by
  simp [execOp, hx, encS, convert, run_underlying hs, run_underlying hd]
theorem many_cons {α : Type} {r : Rep α} {F : Nat → Prop} {x : α} {xs : List α} {c0 c1 : List Value} (h : r.R F w x c0) (k : Many r F w xs c1) : Many r F w (x :: xs) (c0 ++ c1) := ⟨c0, c1, rfl, h, k⟩
theorem add_plain' (b j : Nat) (i : Nat) : (⟨b, j, none⟩ : Addr).add i = ⟨b, j + i, none⟩ := by unfold Addr.add; split <;> simp_all
theorem Bk.cells {i b : Nat} {cs vs : List Value} {T : TypeId} {off : Nat} (h : Bk o w i b cs T) (hv : (cs.drop off).take vs.length = vs) : ∀ j u, vs[j]? = some u → w.cell? ((⟨b, off, none⟩ : Addr).add j) = some u := by
  intro j u hu
  rw [add_plain']
  refine h.cell ?_
  have hj := (List.getElem?_eq_some_iff.1 hu).1
  rw [← hv, List.getElem?_take, if_pos hj, List.getElem?_drop] at hu
  exact hu
def subM (a b : List Nat) : Bool := a.all fun i => b.contains i
theorem Step.trans {o o1 o2 : Tags} {w w1 w2 : World} {M1 M2 M : List Nat} (s : Step o w o1 w1 M1) (t : Step o1 w1 o2 w2 M2) (h1 : subM M1 M = true) (h2 : subM M2 M = true) : Step o w o2 w2 M := by
  have k1 : ∀ i ∈ M1, i ∈ M := fun i hi => by have := (List.all_eq_true.1 h1) i hi; simpa using this
  have k2 : ∀ i ∈ M2, i ∈ M := fun i hi => by have := (List.all_eq_true.1 h2) i hi; simpa using this
  refine ⟨t.os.trans s.os, t.tape.trans s.tape, t.output.trans s.output, Nat.le_trans s.size t.size, fun b hb => (t.own b (Nat.lt_of_lt_of_le hb s.size)).trans (s.own b hb), fun b hb hn => ?_⟩
  exact (t.keep b (Nat.lt_of_lt_of_le hb s.size) (fun hm => hn (by rw [s.own b hb] at hm; exact k2 _ hm))).trans (s.keep b hb (fun hm => hn (k1 _ hm)))
theorem un_stepL {V L J : List Nat} {o' : Tags} {w' : World} {M L' : List Nat} (s : Step (SX.vw V L o) w o' w' M) (hM : M.all (fun m => Nat.ble 2 m) = true) (hL : M.map (fun m => L.getD (m - 2) 0) = L') : Step o w (un o w o' L J) w' L' := by
  have h := un_step (J := J) s hM
  refine ⟨h.os, h.tape, h.output, h.size, h.own, fun b hb hn => s.keep b hb (fun hm => hn ?_)⟩
  rw [← hL]
  have h2 := Nat.le_of_ble_eq_true ((List.all_eq_true.1 hM) _ hm)
  refine List.mem_map.2 ⟨_, hm, ?_⟩
  simp only [SX.vw, vwt] at h2 ⊢
  cases hc : V.contains (o b) with
  | true => rw [hc] at h2; simp at h2
  | false =>
    rw [hc] at h2
    cases hk : L.idxOf? (o b) with
    | none => rw [hk] at h2; simp at h2
    | some k =>
      simp only [cond_false]
      rw [show 2 + k - 2 = k from by omega]
      exact (idx_get hk).1
theorem Row.un {α : Type} {r : Rep α} {A : Option Addr} {xs : List α} {L J M : List Nat} {o' : Tags} {w' : World} (h : Row r (fun b => o' b = 0) (fun b => o' b = 0) w' A xs) (s : Step (SX.vw [0] L o) w o' w' M) :
    Row r (fun b => SX.un o w o' L J b = 0) (fun b => SX.un o w o' L J b = 0) w' A xs := h.mono (fun b hb => un_zero s hb) (fun b hb => un_zero s hb)
theorem Row.ren {α : Type} {r : Rep α} {A : Option Addr} {xs : List α} {i j : Nat} (h : Row r (fun b => o b = 0) (fun b => o b = 0) w A xs) (hi : Nat.beq 0 i = false) : Row r (fun b => SX.ren o i j b = 0) (fun b => SX.ren o i j b = 0) w A xs :=
  h.mono (fun b hb => ren_other hb hi) (fun b hb => ren_other hb hi)
theorem run_load1 {T : TypeId} {a : Addr} {v : Value} {d : TypeDesc} (hT : P.underlying T = some d) (hd : plainT d = true) (hc : w.cell? a = some v) : (loadVar T a).run P w = .ok v w := by
  simp [loadVar, run_isAgg_no hT hd, run_load, hc]
theorem run_loadN {T : TypeId} {a : Addr} {cs : List Value} {d : TypeDesc} (hT : P.underlying T = some d) (hd : plainT d = false) (hs : (P.info? T).map (·.size) = some cs.length) (hc : ∀ j u, cs[j]? = some u → w.cell? (a.add j) = some u) : (loadVar T a).run P w = .ok (.agg cs.toArray) w := by
  simp [loadVar, run_isAgg_yes hT hd, run_sizeOf' hs, run_loadCells_list w a cs hc]
theorem run_eqPtrN (d : Nat) {e T : TypeId} {b : Option Addr} (hT : P.underlying T = some (.pointer e)) (w : World) : (Op.equalIn (d + 1) T (.pointer none) (.pointer b)).run P w = .ok b.isNone w := by simp [Op.equalIn, run_underlying hT]
theorem run_eqPtrS (d : Nat) {e T : TypeId} {a : Addr} (hT : P.underlying T = some (.pointer e)) (w : World) : (Op.equalIn (d + 1) T (.pointer (some a)) (.pointer none)).run P w = .ok false w := by simp [Op.equalIn, run_underlying hT]
theorem bin_eql_ptrNN {e T : TypeId} (hT : P.underlying T = some (.pointer e)) : Bin P .eql T (.pointer none) (.pointer none) (.bool true) := fun x y w => by
  have := run_eqPtrN (P := P) 9999 (b := none) hT w
  simp only [binOp, eqGuard, Op.equal, Op.maxDepth]; simp [this]
theorem bin_neq_ptrNN {e T : TypeId} (hT : P.underlying T = some (.pointer e)) : Bin P .neq T (.pointer none) (.pointer none) (.bool false) := fun x y w => by
  have := run_eqPtrN (P := P) 9999 (b := none) hT w
  simp only [binOp, eqGuard, Op.equal, Op.maxDepth]; simp [this]
theorem bin_eql_ptrSN {e T : TypeId} {a : Addr} (hT : P.underlying T = some (.pointer e)) : Bin P .eql T (.pointer (some a)) (.pointer none) (.bool false) := fun x y w => by
  have := run_eqPtrS (P := P) 9999 (a := a) hT w
  simp only [binOp, eqGuard, Op.equal, Op.maxDepth]; simp [this]
theorem bin_neq_ptrSN {e T : TypeId} {a : Addr} (hT : P.underlying T = some (.pointer e)) : Bin P .neq T (.pointer (some a)) (.pointer none) (.bool true) := fun x y w => by
  have := run_eqPtrS (P := P) 9999 (a := a) hT w
  simp only [binOp, eqGuard, Op.equal, Op.maxDepth]; simp [this]
theorem bin_shl_u8n {a : UInt8} {k : IntKind} {n : Nat} {T : TypeId} : Bin P .shl T (enc8 a) (.int k (n : Int)) (enc8 (shl8 a n)) := by
  have := bin_shl_u8 (P := P) (a := a) (k := k) (i := (n : Int)) (T := T) (Int.natCast_nonneg n)
  simpa using this
theorem bin_shr_u8n {a : UInt8} {k : IntKind} {n : Nat} {T : TypeId} : Bin P .shr T (enc8 a) (.int k (n : Int)) (enc8 (shr8 a n)) := by
  have := bin_shr_u8 (P := P) (a := a) (k := k) (i := (n : Int)) (T := T) (Int.natCast_nonneg n)
  simpa using this
theorem bin_shl_u32n {a : UInt32} {k : IntKind} {n : Nat} {T : TypeId} : Bin P .shl T (enc32 a) (.int k (n : Int)) (enc32 (shl32 a n)) := by
  have := bin_shl_u32 (P := P) (a := a) (k := k) (i := (n : Int)) (T := T) (Int.natCast_nonneg n)
  simpa using this
theorem bin_shr_u32n {a : UInt32} {k : IntKind} {n : Nat} {T : TypeId} : Bin P .shr T (enc32 a) (.int k (n : Int)) (enc32 (shr32 a n)) := by
  have := bin_shr_u32 (P := P) (a := a) (k := k) (i := (n : Int)) (T := T) (Int.natCast_nonneg n)
  simpa using this
theorem bin_shl_u64n {a : UInt64} {k : IntKind} {n : Nat} {T : TypeId} : Bin P .shl T (enc64 a) (.int k (n : Int)) (enc64 (shl64 a n)) := by
  have := bin_shl_u64 (P := P) (a := a) (k := k) (i := (n : Int)) (T := T) (Int.natCast_nonneg n)
  simpa using this
theorem bin_shr_u64n {a : UInt64} {k : IntKind} {n : Nat} {T : TypeId} : Bin P .shr T (enc64 a) (.int k (n : Int)) (enc64 (shr64 a n)) := by
  have := bin_shr_u64 (P := P) (a := a) (k := k) (i := (n : Int)) (T := T) (Int.natCast_nonneg n)
  simpa using this
end w
end Go.Proofs.YtpmkkhkphddfeaaDoor.SX
