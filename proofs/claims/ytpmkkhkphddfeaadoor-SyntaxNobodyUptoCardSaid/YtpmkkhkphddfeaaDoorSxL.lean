/- Going through a text, rune by rune; runes as texts. -/
import Derived.Test.YtpmkkhkphddfeaaDoorSxK
import Derived.Lib.TrimUEq
import Derived.Scope
set_option linter.unusedVariables false
set_option linter.unusedSimpArgs false
namespace Go.Proofs.YtpmkkhkphddfeaaDoor.SX
open Go Go.RowKit
/-- The iterator in the block b: the text s, the place p. -/
structure It (i : Nat) (o : Tags) (w : World) (b : Nat) (s : List UInt8) (p : Nat) : Prop where
  tag : o b = i
  heap : w.heap[b]? = some (.stringIter ⟨s.toArray⟩ p)
section it
variable {i j b : Nat} {o o' : Tags} {w w' : World} {s : List UInt8} {p : Nat} {M V L J : List Nat}
theorem It.step (h : It i o w b s p) (st : Step o w o' w' M) (hM : M.contains i = false) : It i o' w' b s p := by
  have hb : b < w.heap.size := (Array.getElem?_eq_some_iff.1 h.heap).1
  refine ⟨(st.own b hb).trans h.tag, (st.keep b hb (fun hm => ?_)).trans h.heap⟩
  rw [h.tag, ← List.contains_iff_mem, hM] at hm
  cases hm
theorem It.pub (h : It i o w b s p) (j : Nat) (hj : Nat.beq i j = false) : It i (SX.pub o j) w b s p := ⟨pub_other h.tag hj, h.heap⟩
theorem It.ren {k l : Nat} (h : It i o w b s p) (hi : Nat.beq i k = false) (h0 : Nat.beq 0 k = false) : It i (SX.ren o k l) w b s p := ⟨ren_other h.tag hi, h.heap⟩
end it
section ops
variable {P : Program} {n : Nat} {md : Md} {K : Exit → Env → World → Prop} {Kn : Env → World → Prop} {ρ : Env} {w : World} {o : Tags} {d : Nat} {t : TypeId} {p : String} {e : Array Edge} {g : Option (Nat × Bool)}
theorem OW.rangeStr {T : TypeId} {x : Operand} {s : List UInt8} (i : Nat) {o0 : Tags} {w0 : World} {TT : List Nat} (HF : Fm o0 w0 o w TT) (hd : Nat.blt d n = true) (hT : P.underlying T = some .string) (hx : ev ρ x = encS s)
    (k : ∀ o' w' b, Step o w o' w' [] → It i o' w' b s 0 → Kn (upd ρ d (.pointer (some ⟨b, 0, none⟩))) w') :
    OW P n md { dst := some d, op := .range T x, type := t, pos := p, after := e, guard := g } Kn K ρ w := by
  refine OW.val (v := .pointer (some ⟨w.heap.size, 0, none⟩)) (w' := w.alloc (.stringIter ⟨s.toArray⟩ 0)) hd ?_ (k (fun b => bif Nat.beq b w.heap.size then i else o b) _ _ (step_alloc o w i _ _) ⟨by simp, heap_alloc_new w _⟩)
  simp [execOp, hx, encS, Instr.range, run_underlying hT, newObj, Sem.run]
def runeStr (r : Int) : List UInt8 := (Utf8.encode r).data.toList
theorem ex_rune_str {src dst t : TypeId} {x : Operand} {k : IntKind} {a : Int} (hx : ev ρ x = .int k a) (hs : P.underlying src = some (.int k)) (hd : P.underlying dst = some .string) : Ex P ρ (.convert src dst x) t w (encS (runeStr a)) w := fun _ _ _ _ => by
  simp [execOp, hx, encS, runeStr, convert, run_underlying hs, run_underlying hd, Conv.intToString]
def runeAt (s : List UInt8) (p : Nat) : Int := ((Lib.decodeL (s.drop p)).1 : Int)
def wideAt (s : List UInt8) (p : Nat) : Nat := (Lib.decodeL (s.drop p)).2
theorem decode_at (s : List UInt8) (p : Nat) : Utf8.decode ⟨s.toArray⟩ p = Lib.decodeL (s.drop p) := by
  rw [← Lib.decodeL_drop]
theorem OW.nextYes {x : Operand} {i b q : Nat} {s : List UInt8} (hd : Nat.blt d n = true) (hx : ev ρ x = .pointer (some ⟨b, 0, none⟩)) (hI : It i o w b s q) (hq : Nat.blt q s.length = true)
    (k : ∀ w', Step o w o w' [i] → It i o w' b s (q + wideAt s q) → Kn (upd ρ d (.tuple #[.bool true, .int .i64 (q : Int), .int .i32 (runeAt s q)])) w') :
    OW P n md { dst := some d, op := .next x true, type := t, pos := p, after := e, guard := g } Kn K ρ w := by
  have hlt := (Array.getElem?_eq_some_iff.1 hI.heap).1
  have hq' : q < s.length := by simpa [Nat.blt_eq] using hq
  have hsz : q < (⟨s.toArray⟩ : ByteArray).size := by rw [size_enc]; exact hq'
  refine OW.val (v := .tuple #[.bool true, .int .i64 (q : Int), .int .i32 (runeAt s q)]) (w' := { w with heap := w.heap.setIfInBounds b (.stringIter ⟨s.toArray⟩ (q + wideAt s q)) }) hd ?_ (k _ (step_set hI.tag) ⟨hI.tag, by simp [hlt]⟩)
  have hn : (Instr.next (.pointer (some ⟨b, 0, none⟩)) true t).run P w = .ok (.tuple #[.bool true, .int .i64 (q : Int), .int .i32 (runeAt s q)]) { w with heap := w.heap.setIfInBounds b (.stringIter ⟨s.toArray⟩ (q + wideAt s q)) } := by
    simp only [Instr.next, Sem.run_bind, getObj, Sem.run, hI.heap, Result.andThen_ok, hsz, if_true, decode_at, setObj, goInt]
    rfl
  simp [execOp, hx, hn]
theorem OW.nextNo {x : Operand} {i b q : Nat} {s : List UInt8} (hd : Nat.blt d n = true) (hx : ev ρ x = .pointer (some ⟨b, 0, none⟩)) (hI : It i o w b s q) (hq : Nat.blt q s.length = false)
    (k : Kn (upd ρ d (.tuple #[.bool false])) w) :
    OW P n md { dst := some d, op := .next x true, type := t, pos := p, after := e, guard := g } Kn K ρ w := by
  have hq' : ¬ q < s.length := by intro h; rw [← Nat.blt_eq, hq] at h; cases h
  have hsz : ¬ q < (⟨s.toArray⟩ : ByteArray).size := by rw [size_enc]; exact hq'
  refine OW.val (v := .tuple #[.bool false]) (w' := w) hd ?_ k
  have hn : (Instr.next (.pointer (some ⟨b, 0, none⟩)) true t).run P w = .ok (.tuple #[.bool false]) w := by
    simp only [Instr.next, Sem.run_bind, getObj, Sem.run, hI.heap, Result.andThen_ok, hsz, if_false]
    rfl
  simp [execOp, hx, hn]
end ops
/-! Shifts of ints -/
def shlI (x : Int) (n : Nat) : Int := wrap64 (x * 2 ^ min n 64)
def shrI (x : Int) (n : Nat) : Int := x.fdiv (2 ^ min n 64)
section sh
variable {P : Program}
theorem bin_shl_i64n {a : Int} {k : IntKind} {n : Nat} {T : TypeId} : Bin P .shl T (.int .i64 a) (.int k (n : Int)) (.int .i64 (shlI a n)) := fun x y w => by
  have h : ¬ ((n : Int) < 0) := by omega
  have hb : IntKind.i64.bits = 64 := rfl
  simp [eqGuard, binOp, Op.shift, h, shlI, wrap_i64, hb]
theorem bin_shr_i64n {a : Int} {k : IntKind} {n : Nat} {T : TypeId} : Bin P .shr T (.int .i64 a) (.int k (n : Int)) (.int .i64 (shrI a n)) := fun x y w => by
  have h : ¬ ((n : Int) < 0) := by omega
  have hb : IntKind.i64.bits = 64 := rfl
  simp [eqGuard, binOp, Op.shift, h, shrI, hb]
theorem bin_shl_i64 {a : Int} {k : IntKind} {i : Int} {T : TypeId} (h0 : 0 ≤ i) : Bin P .shl T (.int .i64 a) (.int k i) (.int .i64 (shlI a i.toNat)) := by
  have := bin_shl_i64n (P := P) (a := a) (k := k) (n := i.toNat) (T := T)
  rw [Int.toNat_of_nonneg h0] at this; exact this
theorem bin_shr_i64 {a : Int} {k : IntKind} {i : Int} {T : TypeId} (h0 : 0 ≤ i) : Bin P .shr T (.int .i64 a) (.int k i) (.int .i64 (shrI a i.toNat)) := by
  have := bin_shr_i64n (P := P) (a := a) (k := k) (n := i.toNat) (T := T)
  rw [Int.toNat_of_nonneg h0] at this; exact this
end sh
end Go.Proofs.YtpmkkhkphddfeaaDoor.SX
