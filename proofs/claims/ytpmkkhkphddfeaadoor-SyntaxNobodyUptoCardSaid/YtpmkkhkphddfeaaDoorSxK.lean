/- A builder of texts: one fact (Bd); what its methods are made of. -/
import Derived.Test.YtpmkkhkphddfeaaDoorSxJ
import Derived.Lib.Builder
import Derived.Lib.UnsafeStr
import Derived.Laws.Externs
import Derived.Lib.ConvBytes
import Derived.Sort.Grow
import Derived.Shelf.Unicode.DecodeSlow
set_option linter.unusedVariables false
set_option linter.unusedSimpArgs false
namespace Go.Proofs.YtpmkkhkphddfeaaDoor.SX
open Go Go.RowKit
/-- A builder in the block b, its bytes xs; all of it of the tag i. -/
def Bd (T E i : Nat) (o : Tags) (w : World) (b : Nat) (xs : List UInt8) : Prop :=
  ∃ p v, Bk o w i b [p, v] T ∧ (p = .pointer none ∨ p = .pointer (some ⟨b, 0, none⟩)) ∧ Own Rep.u8 E i o w v xs
section bd
variable {T E i j b : Nat} {o o' : Tags} {w w' : World} {xs : List UInt8} {M V L J : List Nat}
theorem Bd.step (h : Bd T E i o w b xs) (s : Step o w o' w' M) (hi : M.contains i = false) (h0 : M.contains 0 = false) : Bd T E i o' w' b xs := by
  obtain ⟨p, v, hB, hp, hO⟩ := h
  exact ⟨p, v, hB.step s hi, hp, hO.step s hi h0⟩
theorem Bd.pub (h : Bd T E i o w b xs) (j : Nat) (hj : Nat.beq i j = false) : Bd T E i (SX.pub o j) w b xs := by
  obtain ⟨p, v, hB, hp, hO⟩ := h
  exact ⟨p, v, hB.pub j hj, hp, hO.pub j hj⟩
theorem Bd.ren {k l : Nat} (h : Bd T E i o w b xs) (hi : Nat.beq i k = false) (h0 : Nat.beq 0 k = false) : Bd T E i (SX.ren o k l) w b xs := by
  obtain ⟨p, v, hB, hp, hO⟩ := h
  exact ⟨p, v, hB.ren hi, hp, hO.ren hi h0⟩
theorem Bd.vw {i' : Nat} (h : Bd T E i o w b xs) (hV : V.contains 0 = true) (hi : vwt V L i = i') : Bd T E i' (SX.vw V L o) w b xs := by
  obtain ⟨p, v, hB, hp, hO⟩ := h
  exact ⟨p, v, hB.vw hi, hp, hO.vw hV hi⟩
theorem Bd.unO (k : Nat) (h : Bd T E (2 + k) o' w' b xs) (s : Step (SX.vw [0] L o) w o' w' M) (hk : Nat.blt k L.length = true) (hk6 : Nat.ble k 16 = true) (hi : L.getD k 0 = i) : Bd T E i (SX.un o w o' L J) w' b xs := by
  obtain ⟨p, v, hB, hp, hO⟩ := h
  exact ⟨p, v, Bk.unO k hB s hk hk6 hi, hp, Own.unO k hO s hk hk6 hi⟩
end bd
/-- All blocks but one stand. -/
structure Kept (b : Nat) (w w' : World) : Prop where
  os : w'.os = w.os
  tape : w'.tape = w.tape
  output : w'.output = w.output
  size : w.heap.size ≤ w'.heap.size
  keep : ∀ c, c < w.heap.size → c ≠ b → w'.heap[c]? = w.heap[c]?
section kept
variable {E i b : Nat} {o o' : Tags} {w w' : World}
def tagOne (b : Nat) : Tags := fun c => bif Nat.beq c b then 41 else 1
theorem tagOne_same (b : Nat) : tagOne b b = 41 := by simp [tagOne]
theorem Step.kept (s : Step (tagOne b) w (tagOne b) w' [41]) : Kept b w w' := ⟨s.os, s.tape, s.output, s.size, fun c hc hn => s.keep c hc (by
  have : Nat.beq c b = false := by rw [← Bool.not_eq_true, Nat.beq_eq]; exact hn
  simp [tagOne, this])⟩
theorem Kept.step (h : Kept b w w') (ht : o b = i) : Step o w o w' [i] := ⟨h.os, h.tape, h.output, h.size, fun _ _ => rfl, fun c hc hn => h.keep c hc (by rintro rfl; exact hn (by simp [ht]))⟩
theorem Own.kept {α : Type} {r : Rep α} {v : Value} {xs : List α} (h : Own r E i o w v xs) (k : Kept b w w') (hb : v.ownBlock ≠ some b) (h0 : o b ≠ 0) : Own r E i o w' v xs := by
  obtain ⟨cells, hown, ht, hm⟩ := h
  refine ⟨cells, ⟨hown.1, ?_⟩, ht, ?_⟩
  · rcases hown.2 with hn | ⟨g, cap, cur, rfl, hb', hg, rest⟩
    · exact .inl hn
    · refine .inr ⟨g, cap, cur, rfl, hb', ?_, rest⟩
      rw [k.keep g (Array.getElem?_eq_some_iff.1 hg).1 (by rintro rfl; exact hb rfl)]
      exact hg
  · exact (hm.move (w' := w') (fun c hc hlt => k.keep c hlt (by rintro rfl; exact h0 hc))).mono (fun c hc => hc.1)
theorem Own.notin {α : Type} {r : Rep α} {v : Value} {xs : List α} {cs : Array Value} {T : TypeId} (h : Own r E i o w v xs) (hb : w.heap[b]? = some (.cells cs T (0, 0))) (hT : Nat.beq T E = false) : v.ownBlock ≠ some b := by
  obtain ⟨cells, hown, ht, hm⟩ := h
  intro hk
  rcases hown.2 with ⟨rfl, _⟩ | ⟨g, cap, cur, rfl, _, hg, _⟩
  · cases hk
  · obtain rfl : g = b := by simpa [Value.ownBlock] using hk
    rw [hb] at hg
    injection hg with hg
    injection hg with _ hE
    subst hE
    simp at hT
def apart1 (o : Tags) (b : Nat) : Tags := fun c => bif Nat.beq c b then 41 else o c
theorem apart1_same (o : Tags) (b : Nat) : apart1 o b b = 41 := by simp [apart1]
theorem apart1_other {c : Nat} (h : c ≠ b) : apart1 o b c = o c := by
  have : Nat.beq c b = false := by rw [← Bool.not_eq_true, Nat.beq_eq]; exact h
  simp [apart1, this]
theorem Own.apart {α : Type} {r : Rep α} {v : Value} {xs : List α} (h : Own r E i o w v xs) (hb : v.ownBlock ≠ some b) (h0 : o b ≠ 0) : Own r E i (apart1 o b) w v xs := by
  obtain ⟨cells, hown, ht, hm⟩ := h
  exact ⟨cells, hown, fun c hc => by rw [apart1_other (by rintro rfl; exact hb hc)]; exact ht c hc, hm.mono (fun c hc => by rw [apart1_other (by rintro rfl; exact h0 hc)]; exact hc)⟩
theorem apart_step {M : List Nat} {o2 : Tags} {w0 w2 : World} (hO : ∀ c, c < w0.heap.size → o c < 40) (hb : o b = 2) (s : Step (apart1 o b) w0 o2 w2 M) (hM : M.all (fun m => Nat.beq m 41 || Nat.beq m 2) = true) : Step o w0 (SX.ren o2 41 2) w2 [2] := by
  refine ⟨s.os, s.tape, s.output, s.size, fun c hc => ?_, fun c hc hn => s.keep c hc (fun hm => ?_)⟩
  · have h1 := s.own c hc
    by_cases hcb : c = b
    · subst hcb
      rw [apart1_same] at h1
      rw [ren_same h1, hb]
    · rw [apart1_other hcb] at h1
      rw [ren_other h1 (by have := hO c hc; rw [← Bool.not_eq_true, Nat.beq_eq]; omega)]
  · by_cases hcb : c = b
    · subst hcb
      exact hn (by simp [hb])
    · rw [apart1_other hcb] at hm
      have h2 := (List.all_eq_true.1 hM) _ hm
      have h3 := hO c hc
      simp only [Bool.or_eq_true, Nat.beq_eq] at h2
      rcases h2 with h2 | h2
      · omega
      · exact hn (by simp [h2])
/-- A frame that begins here, whatever the tags. -/
theorem Fm.here2 (o : Tags) (w : World) : Fm (fun _ => 0) { w with heap := #[] } o w [] := ⟨rfl, rfl, rfl, Nat.zero_le _, fun b hb => absurd hb (Nat.not_lt_zero b), fun b hb => absurd hb (Nat.not_lt_zero b), fun b hb => absurd hb (Nat.not_lt_zero b)⟩
end kept
section ops
variable {P : Program} {n : Nat} {md : Md} {K : Exit → Env → World → Prop} {Kn : Env → World → Prop} {ρ : Env} {w : World} {o : Tags} {d : Nat} {t : TypeId} {p : String} {e : Array Edge} {g : Option (Nat × Bool)}
theorem OW.allocBd {T E : TypeId} (i : Nat) {o0 : Tags} {w0 : World} {TT : List Nat} (HF : Fm o0 w0 o w TT) (hd : Nat.blt d n = true) (hz : (P.info? T).map (·.zero) = some (some (.agg #[.pointer none, .slice none 0 0])))
    (k : ∀ o' w' b, Step o w o' w' [] → Bd T E i o' w' b [] → Kn (upd ρ d (.pointer (some ⟨b, 0, none⟩))) w') :
    OW P n md { dst := some d, op := .alloc T, type := t, pos := p, after := e, guard := g } Kn K ρ w :=
  OW.alloc [.pointer none, .slice none 0 0] i o hd hz rfl fun o' w' b s hB => k o' w' b s ⟨_, _, hB, .inl rfl, Own.nil⟩
theorem ex_to_unsafe {src dst T E t : TypeId} {x : Operand} {i b : Nat} {cs : List Value} (hx : ev ρ x = .pointer (some ⟨b, 0, none⟩)) (hs : P.underlying src = some (.pointer T)) (hd : P.underlying dst = some .unsafePointer)
    (m : Nat) (hm : cs.length = m) (hT : (P.info? T).map (·.size) = some m) (h0 : Nat.blt 0 m = true) (hB : Bk o w i b cs E) : Ex P ρ (.convert src dst x) t w (.pointer (some ⟨b, 0, none⟩)) w := fun _ _ _ _ => by
  subst hm
  obtain ⟨j, hj, hjs⟩ := Option.map_eq_some_iff.1 hT
  have h1 : 0 < cs.length := by simpa [Nat.blt_eq] using h0
  have := Lib.run_to_unsafe (P := P) w ⟨b, 0, none⟩ hs hd hj (by rw [hjs]; omega) (e := E) (cells := cs.length) (by simp [World.shape?, hB.heap]) h1
  simp [execOp, hx, this]
theorem ex_from_unsafe {src dst T E t : TypeId} {x : Operand} {i b : Nat} {cs : List Value} (hx : ev ρ x = .pointer (some ⟨b, 0, none⟩)) (hs : P.underlying src = some .unsafePointer) (hd : P.underlying dst = some (.pointer T))
    (hT : (P.info? T).isSome = true) (hB : Bk o w i b cs E) (hl : liesAt P P.depth E (cs.length / P.cellsOf E) 0 T 1 = true) : Ex P ρ (.convert src dst x) t w (.pointer (some ⟨b, 0, none⟩)) w := fun _ _ _ _ => by
  obtain ⟨j, hj⟩ := Option.isSome_iff_exists.1 hT
  have := Lib.run_from_unsafe (P := P) w ⟨b, 0, none⟩ hs hd hj (e := E) (cells := cs.length) (by simp [World.shape?, hB.heap]) hl
  simp [execOp, hx, this]
theorem ex_extern1 {f : FuncId} {fn : Func} {ee : Array Value → Sem Value} {x : Operand} {ts : Array TypeId} {t : TypeId} {v v' : Value} (hx : ev ρ x = v) (hf : P.funcs[f]? = some fn) (hn : (fn.name == "runtime.NumGoroutine") = false) (hb : fn.body.isNone = true) (h1 : Extern.findNext fn = none) (h2 : Extern.find fn = some ee)
    (hr : (ee #[v]).run P w = .ok v' w) : Ex P ρ (.call { callee := .value (.func f), args := #[x], argTypes := ts }) t w v' w := fun _ _ _ _ => by
  have := run_callFunc_extern hf hn hb h1 h2 #[v] w
  have hm : (#[x] : Array Operand).map (ev ρ) = #[v] := by simp [hx]
  show ((do let d ← resolve (ev ρ) _ _; invoke d.target d.args) : Sem Next).run P w = _
  simp only [resolve, hm, ev, Deferred.ofValue, Sem.run_bind, Sem.run_pure, Result.andThen_ok, invoke]
  rw [show (#[] ++ #[v] ++ #[] : Array Value) = #[v] from rfl, this, hr]
  rfl
theorem bin_neq_ptrSame {T E : TypeId} {a : Addr} (hT : P.underlying T = some (.pointer E)) (hE : (P.info? E).isSome = true) : Bin P .neq T (.pointer (some a)) (.pointer (some a)) (.bool false) := fun x y w => by
  obtain ⟨j, hj⟩ := Option.isSome_iff_exists.1 hE
  have := Lib.run_neq_ptr_same (P := P) w a hT hj
  simp [eqGuard, this]
theorem run_usd {dst : Option Tmp} {x : Operand} {ts : Array TypeId} {t : TypeId} {pp : String} {ee : Array Edge} {gg : Option (Nat × Bool)} {v v' : Value} {w' : World} (hx : ev ρ x = v) (hr : (Builtin.unsafeSliceData_ ts t #[v]).run P w = .ok v' w') :
    (execOp (ev ρ) { dst := dst, op := .call { callee := .builtin .unsafeSliceData, args := #[x], argTypes := ts }, type := t, pos := pp, after := ee, guard := gg }).run P w = .ok (.value v') w' := by
  subst hx
  simp only [execOp, resolve, invoke, builtin, Sem.run_bind, Sem.run_pure, Result.andThen_ok, List.map_toArray, List.map_cons, List.map_nil, hr]
theorem run_us {dst : Option Tmp} {x y : Operand} {ts : Array TypeId} {t : TypeId} {pp : String} {ee : Array Edge} {gg : Option (Nat × Bool)} {v u v' : Value} {w' : World} (hx : ev ρ x = v) (hy : ev ρ y = u) (hr : (Builtin.unsafeString_ ts t #[v, u]).run P w = .ok v' w') :
    (execOp (ev ρ) { dst := dst, op := .call { callee := .builtin .unsafeString, args := #[x, y], argTypes := ts }, type := t, pos := pp, after := ee, guard := gg }).run P w = .ok (.value v') w' := by
  subst hx hy
  simp only [execOp, resolve, invoke, builtin, Sem.run_bind, Sem.run_pure, Result.andThen_ok, List.map_toArray, List.map_cons, List.map_nil, hr]
/-- unsafe.String over one's own bytes. -/
theorem step_freeze {i : Nat} {a : Addr} {m : Nat} (ht : o a.block = i) : Step o w o (w.freeze a m) [i] := by
  unfold World.freeze
  split
  · exact Step.refl o w [i]
  · refine ⟨rfl, rfl, rfl, by simp, fun _ _ => rfl, fun c hc hn => ?_⟩
    have : a.block ≠ c := by rintro rfl; exact hn (by simp [ht])
    simp only [Array.getElem?_modify, if_neg this]
end ops
/-! Tables -/
theorem ex_indexArr {P : Program} {ρ : Env} {w : World} {T E t : TypeId} {x y : Operand} {a : Addr} {len sz : Nat} {i : Int} {ik : IntKind} (hx : ev ρ x = .pointer (some a)) (hy : ev ρ y = .int ik i) (hT : P.underlying T = some (.array len E))
    (hs : (P.info? E).map (·.size) = some sz) (h0 : 0 ≤ i) (h1 : i < len) : Ex P ρ (.indexAddr T x y) t w (.pointer (some (a.add (i.toNat * sz)))) w := fun _ _ _ _ => by
  simp [execOp, hx, hy, Instr.indexAt, Instr.sureAddr, asIntOf, run_underlying hT, h0, h1, run_sizeOf' hs]
def first8 (c : UInt8) : UInt8 := UInt8.ofNat (Lib.firstT c.toNat)
def accLo8 (i : UInt8) : UInt8 := UInt8.ofNat (Lib.accLo i.toNat)
def accHi8 (i : UInt8) : UInt8 := UInt8.ofNat (Lib.accHi i.toNat)
theorem first8_enc (c : UInt8) : enc8 (first8 c) = .int .u8 (Lib.firstT c.toNat) := by
  have h : Lib.firstT c.toNat < 256 := by unfold Lib.firstT; (repeat' split) <;> omega
  simp [enc8, first8, UInt8.toNat_ofNat', Nat.mod_eq_of_lt h]
theorem accLo8_enc (c : UInt8) : enc8 (accLo8 c) = .int .u8 (Lib.accLo c.toNat) := by
  have h : Lib.accLo c.toNat < 256 := by unfold Lib.accLo; (repeat' split) <;> omega
  simp [enc8, accLo8, UInt8.toNat_ofNat', Nat.mod_eq_of_lt h]
theorem accHi8_enc (c : UInt8) : enc8 (accHi8 c) = .int .u8 (Lib.accHi c.toNat) := by
  have h : Lib.accHi c.toNat < 256 := by unfold Lib.accHi; (repeat' split) <;> omega
  simp [enc8, accHi8, UInt8.toNat_ofNat', Nat.mod_eq_of_lt h]
theorem first_cell {g g' : Nat} {w : World} (h : Lib.Utf8Tabs g g' w) (c : UInt8) : w.cell? ((⟨g, 0, none⟩ : Addr).add ((c.toNat : Int).toNat * 1)) = some (enc8 (first8 c)) := by
  rw [add_plain', first8_enc, ← h.1 c.toNat c.toNat_lt]
  simp
theorem acc_cell {g g' : Nat} {w : World} (h : Lib.Utf8Tabs g g' w) (c : UInt8) (hc : (c.toNat : Int) < 16) : ∀ j u, [enc8 (accLo8 c), enc8 (accHi8 c)][j]? = some u → w.cell? (((⟨g', 0, none⟩ : Addr).add ((c.toNat : Int).toNat * 2)).add j) = some u := by
  intro j u hu
  have hc' : c.toNat < 16 := by omega
  obtain ⟨h1, h2⟩ := h.2 c.toNat hc'
  rw [add_plain', add_plain']
  match j, hu with
  | 0, hu => injection hu with hu; subst hu; rw [accLo8_enc, ← h1]; congr 2; simp; omega
  | 1, hu => injection hu with hu; subst hu; rw [accHi8_enc, ← h2]; congr 2; simp; omega
/-! Values that are rows -/
theorem Own.cells1 {α : Type} {r : Rep α} {E i : Nat} {o : Tags} {w : World} {v : Value} {xs : List α} (h : Own r E i o w v xs) : v.cells = #[v] := by
  obtain ⟨A, c, e⟩ := h.slice
  rw [e]; rfl
theorem Own.oneCell {α : Type} {r : Rep α} {E i : Nat} {o : Tags} {w : World} {v : Value} {xs : List α} (h : Own r E i o w v xs) : v.oneCell' = true := by
  obtain ⟨A, c, e⟩ := h.slice
  rw [e]; rfl
theorem Row.pubOf {α : Type} {r : Rep α} {i : Nat} {o : Tags} {w : World} {A : Option Addr} {xs : List α} (h : Row r (fun b => o b = i) (fun b => o b = 0) w A xs) : Row r (fun b => SX.pub o i b = 0) (fun b => SX.pub o i b = 0) w A xs :=
  h.mono (fun b hb => pub_same o i b hb) (fun b hb => pub_zero o i b hb)
theorem cells_freeze (w : World) (a : Addr) (n : Nat) (c : Addr) : (w.freeze a n).cell? c = w.cell? c := by
  unfold World.freeze
  split
  · rfl
  · simp only [World.cell?, Array.getElem?_modify]
    by_cases h : a.block = c.block
    · rw [if_pos h]
      cases hq : w.heap[c.block]? with
      | none => rfl
      | some ob => cases ob <;> rfl
    · rw [if_neg h]
/-- []byte("..") of a constant. -/
theorem OW.convBytes {P : Program} {n : Nat} {md : Md} {K : Exit → Env → World → Prop} {Kn : Env → World → Prop} {ρ : Env} {w : World} {o : Tags} {d : Nat} {t : TypeId} {p : String} {e : Array Edge} {g : Option (Nat × Bool)} {α : Type} {r : Rep α} {T E i : Nat} {x : Operand} {v : Value} {xs : List α}
    (hd : Nat.blt d n = true) (hx : ev ρ x = v) (hT : P.underlying T = some (.slice E)) (hE : P.underlying E = some (.int .u8)) (hO : Own r E i o w v xs) (hne : Nat.blt 0 xs.length = true) (hi : i ≠ 0)
    (k : ∀ w' A c, Step o w o w' [i] → xs.length ≤ c → Row r (fun b => o b = i) (fun b => o b = 0) w' A xs → Kn (upd ρ d (.slice A xs.length c)) w') :
    OW P n md { dst := some d, op := .convert T T x, type := t, pos := p, after := e, guard := g } Kn K ρ w := by
  have hne' : 0 < xs.length := by simpa [Nat.blt_eq] using hne
  obtain ⟨A, c, e1, hlc, hrow⟩ := hO.row
  obtain ⟨cells, hown, ht, hm⟩ := hO
  rcases hown.2 with ⟨rfl, h0⟩ | ⟨gb, cap, cur, hv, _, hg, _⟩
  · omega
  · rw [hv] at e1
    injection e1 with e2 _ e3
    subst e2 e3
    have hst : Step o w o (w.freeze ⟨gb, cur.size, none⟩ 1) [i] := step_freeze (ht gb (by rw [hv]; rfl))
    refine OW.val (v := .slice (some ⟨gb, 0, none⟩) xs.length cap) (w' := w.freeze ⟨gb, cur.size, none⟩ 1) hd ?_ (k _ _ _ hst hlc ?_)
    · have hc : (convert T T (.slice (some ⟨gb, 0, none⟩) xs.length cap)).run P w = .ok (.slice (some ⟨gb, 0, none⟩) xs.length cap) (w.freeze ⟨gb, cur.size, none⟩ 1) := by
        simp [convert, run_underlying hT, run_underlying hE, markStringish, World.shape?, hg]
      simp [execOp, hx, hv, hc]
    · refine ⟨hrow.1, ?_⟩
      rcases hrow.2 with h | ⟨ad, cs, ea, hG, hb, hM, hcell⟩
      · exact .inl h
      · refine .inr ⟨ad, cs, ea, hG, by have := hst.size; omega, ?_, fun j u hu => by rw [cells_freeze]; exact hcell j u hu⟩
        exact (hM.move (w' := w.freeze ⟨gb, cur.size, none⟩ 1) (fun b hb hlt => hst.keep b hlt (by intro hm; simp at hm; exact hi (hm.symm.trans hb)))).mono (fun b hb => hb.1)
/-! Is a row nil? -/
def nilc {α β : Type} [DecidableEq β] (xs : List α) (b1 b2 : Option β) : Option β := match b2 with
  | some r => bif xs.isEmpty then (if b1 = some r then some r else none) else some r
  | none => none
theorem nilE {α β : Type} [DecidableEq β] {xs : List α} {b1 b2 : Option β} {y : β} {r : Rep α} {G F : Nat → Prop} {w : World} {A : Option Addr} (H : nilc xs b1 b2 = some y) (hr : Row r G F w A xs) : (A = none ∧ b1 = some y) ∨ (∃ ad, A = some ad ∧ b2 = some y) := by
  unfold nilc at H
  cases hb : b2 with
  | none => rw [hb] at H; cases H
  | some q =>
    rw [hb] at H
    cases A with
    | none =>
      have hx : xs = [] := by
        rcases hr.2 with h | ⟨ad, _, e, _⟩
        · exact h
        · cases e
      subst hx
      simp only [List.isEmpty_nil, cond_true] at H
      split at H
      · rename_i h1; injection H with H; subst H; exact .inl ⟨rfl, h1⟩
      · cases H
    | some ad =>
      refine .inr ⟨ad, rfl, ?_⟩
      cases hx : xs.isEmpty with
      | true => rw [hx] at H; simp only [cond_true] at H; split at H; exact H; cases H
      | false => rw [hx] at H; exact H
section nil
variable {P : Program}
theorem run_eqSlN (d : Nat) {E T : TypeId} {m c : Nat} (hT : P.underlying T = some (.slice E)) (w : World) : (Op.equalIn (d + 1) T (.slice none m c) (.slice none 0 0)).run P w = .ok true w := by simp [Op.equalIn, run_underlying hT]
theorem run_eqSlS (d : Nat) {E T : TypeId} {a : Addr} {m c : Nat} (hT : P.underlying T = some (.slice E)) (w : World) : (Op.equalIn (d + 1) T (.slice (some a) m c) (.slice none 0 0)).run P w = .ok false w := by simp [Op.equalIn, run_underlying hT]
theorem bin_eql_slN {E T : TypeId} {m c : Nat} (hT : P.underlying T = some (.slice E)) : Bin P .eql T (.slice none m c) (.slice none 0 0) (.bool true) := fun x y w => by
  have := run_eqSlN (P := P) 9999 (m := m) (c := c) hT w
  simp only [binOp, eqGuard, Op.equal, Op.maxDepth]; simp [this]
theorem bin_neq_slN {E T : TypeId} {m c : Nat} (hT : P.underlying T = some (.slice E)) : Bin P .neq T (.slice none m c) (.slice none 0 0) (.bool false) := fun x y w => by
  have := run_eqSlN (P := P) 9999 (m := m) (c := c) hT w
  simp only [binOp, eqGuard, Op.equal, Op.maxDepth]; simp [this]
theorem bin_eql_slS {E T : TypeId} {a : Addr} {m c : Nat} (hT : P.underlying T = some (.slice E)) : Bin P .eql T (.slice (some a) m c) (.slice none 0 0) (.bool false) := fun x y w => by
  have := run_eqSlS (P := P) 9999 (a := a) (m := m) (c := c) hT w
  simp only [binOp, eqGuard, Op.equal, Op.maxDepth]; simp [this]
theorem bin_neq_slS {E T : TypeId} {a : Addr} {m c : Nat} (hT : P.underlying T = some (.slice E)) : Bin P .neq T (.slice (some a) m c) (.slice none 0 0) (.bool true) := fun x y w => by
  have := run_eqSlS (P := P) 9999 (a := a) (m := m) (c := c) hT w
  simp only [binOp, eqGuard, Op.equal, Op.maxDepth]; simp [this]
end nil
/-! Errors that are just there or not -/
def IsErr (b : Bool) (v : Value) : Prop := bif b then ∃ t p, v = .iface t p else v = .nilIface
section err
variable {P : Program} {ρ : Env} {w : World}
theorem run_eqNil (d : Nat) {T : TypeId} {ms : Array (String × TypeId)} {b : Bool} {v : Value} (hT : P.underlying T = some (.interface ms)) (h : IsErr b v) (w : World) : (Op.equalIn (d + 1) T v .nilIface).run P w = .ok (!b) w := by
  cases b with
  | true => obtain ⟨t, p, rfl⟩ := h; simp [Op.equalIn, run_underlying hT]
  | false => obtain rfl := (show v = .nilIface from h); simp [Op.equalIn, run_underlying hT]
theorem guardNil {op : BinOp} {T : TypeId} {x : Operand} {b : Bool} {v : Value} (h : IsErr b v) : (eqGuard op T x (.const .nilIface) v .nilIface).run P w = .ok () w := by
  cases b with
  | true => obtain ⟨t, p, rfl⟩ := h; cases op <;> simp [eqGuard]
  | false => obtain rfl := (show v = .nilIface from h); cases op <;> simp [eqGuard]
theorem ex_errNeq {T t yt : TypeId} {ms : Array (String × TypeId)} {x : Operand} {b : Bool} {v : Value} (hx : ev ρ x = v) (hT : P.underlying T = some (.interface ms)) (h : IsErr b v) : Ex P ρ (.binOp .neq T x (.const .nilIface) yt) t w (.bool b) w := fun _ _ _ _ => by
  have h1 := run_eqNil (P := P) 9999 hT h w
  have e : ev ρ (.const .nilIface) = .nilIface := rfl
  have h2 : (binOp .neq T v .nilIface) = (do pure (.bool (!(← Op.equal T v .nilIface)))) := by cases v <;> rfl
  simp only [execOp, hx, e, Sem.run_bind]
  rw [guardNil h]
  simp only [Result.andThen_ok, h2, Sem.run_bind, Op.equal, Op.maxDepth]
  simp [h1]
theorem ex_errEql {T t yt : TypeId} {ms : Array (String × TypeId)} {x : Operand} {b : Bool} {v : Value} (hx : ev ρ x = v) (hT : P.underlying T = some (.interface ms)) (h : IsErr b v) : Ex P ρ (.binOp .eql T x (.const .nilIface) yt) t w (.bool (!b)) w := fun _ _ _ _ => by
  have h1 := run_eqNil (P := P) 9999 hT h w
  have e : ev ρ (.const .nilIface) = .nilIface := rfl
  have h2 : (binOp .eql T v .nilIface) = (do pure (.bool (← Op.equal T v .nilIface))) := by cases v <;> rfl
  simp only [execOp, hx, e, Sem.run_bind]
  rw [guardNil h]
  simp only [Result.andThen_ok, h2, Sem.run_bind, Op.equal, Op.maxDepth]
  simp [h1]
end err
theorem below_step {o : Tags} {w w' : World} {M : List Nat} (h : Below w.heap.size w w') : Step o w o w' M := ⟨h.os, h.tape, h.output, h.size, fun _ _ => rfl, fun b hb _ => h.block b hb⟩
theorem drewN_heap (w : World) : ∀ k, (w.drewN k).heap = w.heap
  | 0 => rfl
  | k + 1 => drewN_heap w k
theorem grow_step (o : Tags) (w : World) (k : Nat) (os : Array Obj) {M : List Nat} : Step o w o (Sort.grow (w.drewN k) os) M := by
  have hd := step_drew o w k M
  refine Step.trans hd (M2 := M) ⟨rfl, rfl, rfl, by simp [Sort.grow], fun _ _ => rfl, fun b hb _ => ?_⟩ (by simp [subM]) (by simp [subM])
  simp only [Sort.grow]
  exact Array.getElem?_append_left hb
theorem bytesWorld_step (o : Tags) (w : World) (e : TypeId) (t : ByteArray) {M : List Nat} : Step o w o (Lib.bytesWorld w e t) M := by
  unfold Lib.bytesWorld World.freeze
  rw [if_neg (by decide)]
  refine ⟨rfl, rfl, rfl, by simp, fun _ _ => rfl, fun b hb _ => ?_⟩
  have hne : w.heap.size ≠ b := by omega
  simp only [Array.getElem?_modify, if_neg hne]
  exact RowKit.Below.heap_alloc w.drew _ b hb
theorem same_step {o : Tags} {w w' : World} {M : List Nat} (h : w' = w) : Step o w o w' M := by subst h; exact Step.refl _ _ _
theorem var_move {P : Program} {w w' : World} {name : String} {g : Nat} (hg : P.globalNamed name = some g) (h : w'.heap[g]? = w.heap[g]?) : w'.var? P name = w.var? P name := by
  unfold World.var?
  rw [hg]
  simp only [Option.bind_some, h]
end Go.Proofs.YtpmkkhkphddfeaaDoor.SX
