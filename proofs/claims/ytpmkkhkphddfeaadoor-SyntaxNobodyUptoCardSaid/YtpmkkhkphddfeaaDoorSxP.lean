/- From a call's contract to the given row: arguments, worlds. -/
import Derived.Test.YtpmkkhkphddfeaaDoorSxO
import Derived.WalkKit
import Derived.ProofKit
import Derived.OpenShut
import Derived.Carry
import Derived.SizedLaws
import Derived.Lib.LaidIn
import Derived.Lib.LaidU8T
import Derived.PinnedBridge
import Derived.Deep.DeepHandedRow
import Derived.Deep.DeepWitnessRowRef
import Derived.Stop.LaidErr
import Derived.LaidLaws
set_option linter.unusedVariables false
set_option linter.unusedSimpArgs false
namespace Go.Proofs.YtpmkkhkphddfeaaDoor.SX
open Go Go.RowKit Go.WideShapes
theorem below_of {o o' : Tags} {w w' : World} (s : Step o w o' w' []) : Below w.heap.size w w' := ⟨s.os, s.tape, s.output, s.size, fun b hb => s.keep b hb (by simp)⟩
section args
variable {P : Program} {W : World} {base : Nat} {t : TypeId} {v : Value}
theorem arg_slice {e : TypeId} {A : Option Addr} {m c : Nat} (ht : P.underlying t = some (.slice e)) (h : Value.okWide P W .any base t v) (hc : v.cells.toList = [.slice A m c]) : v = .slice A m c := by
  obtain ⟨a, l, p, rfl⟩ := okWide_slice ht h
  simpa [Value.cells] using hc
theorem arg_str {s : List UInt8} (ht : P.underlying t = some .string) (h : Value.okWide P W .any base t v) (hc : v.cells.toList = [encS s]) : v = encS s := by
  obtain ⟨a, rfl⟩ := okWide_string ht h
  simpa [Value.cells] using hc
theorem arg_int {k : IntKind} {n : Int} (ht : P.underlying t = some (.int k)) (h : Value.okWide P W .any base t v) (hc : v.cells.toList = [.int k n]) : v = .int k n := by
  obtain ⟨a, rfl⟩ := okWide_int ht h
  simpa [Value.cells] using hc
theorem arg_bool {b : Bool} (ht : P.underlying t = some .bool) (h : Value.okWide P W .any base t v) (hc : v.cells.toList = [.bool b]) : v = .bool b := by
  obtain ⟨a, rfl⟩ := okWide_bool ht h
  simpa [Value.cells] using hc
theorem arg_struct {fs : Array Field} {cs : List Value} (ht : P.underlying t = some (.struct fs)) (h : Value.okWide P W .any base t v) (hc : v.cells.toList = cs) : v = .agg cs.toArray := by
  obtain ⟨a, rfl, _⟩ := okWide_struct ht h
  subst hc
  simp [Value.cells]
theorem arg_arr {n e : Nat} {cs : List Value} (ht : P.underlying t = some (.array n e)) (h : Value.okWide P W .any base t v) (hc : v.cells.toList = cs) : v = .agg cs.toArray := by
  unfold Value.okWide at h
  rw [ht] at h
  obtain ⟨a, rfl, _⟩ := h
  subst hc
  simp [Value.cells]
theorem wf64 {n : Int} (h : okI .i64 n) : -9223372036854775808 ≤ n ∧ n ≤ 9223372036854775807 := wf_i64 h
theorem var_sz {n : String} {g : Nat} {cs : Array Value} (hg : P.globalNamed n = some g) (h : W.var? P n = some cs) : g < W.heap.size := by
  simp only [World.var?, hg, Option.bind_some] at h
  rcases Nat.lt_or_ge g W.heap.size with h1 | h1
  · exact h1
  · rw [Array.getElem?_eq_none h1] at h; cases h
theorem reads_sz {n : String} {g : Nat} {d : DataW Unit} (hg : P.globalNamed n = some g) (h : Lib.VarReads P W n d) : g < W.heap.size := by
  obtain ⟨_, _, _, _, _, _, _, hv, _⟩ := h
  exact var_sz hg hv
theorem tab_reads {n : String} {g : Nat} {t e m : Nat} {k : IntKind} {zs : List Int} (hg : P.globalNamed n = some g) (hty : (P.globals[g]?).map (·.type) = some t) (ht : P.underlying t = some (.array m e)) (he : P.underlying e = some (.int k))
    (hce : P.cellsOf e = 1) (hct : P.cellsOf t = m) (h : Lib.VarReads P W n (Lib.tabData k zs)) : Lib.TabIs P W n k zs := by
  obtain ⟨g', t', cs, fuel, p, hg', ht', hv, hd⟩ := h
  obtain rfl := Option.some.inj (hg.symm.trans hg')
  obtain rfl := Option.some.inj (hty.symm.trans ht')
  unfold Lib.TabIs
  rw [hv, ← Lib.cells_of_tab ht he hce hct hd]
theorem iface_reads {n : String} {g : Nat} {t : TypeId} {ms : Array (String × TypeId)} {nm : String} {d : DataW Unit} (hg : P.globalNamed n = some g) (hty : (P.globals[g]?).map (·.type) = some t) (ht : P.underlying t = some (.interface ms))
    (h : Lib.VarReads P W n (.iface nm d)) : ∃ tp p, W.var? P n = some #[.iface tp p] := by
  obtain ⟨g', t', cs, fuel, p, hg', ht', hv, hd⟩ := h
  obtain rfl := Option.some.inj (hg.symm.trans hg')
  obtain rfl := Option.some.inj (hty.symm.trans ht')
  obtain ⟨fuel', u, v, e, _, _⟩ := iface_of_trod ht hd
  have : cs = #[.iface u v] := by rw [← Array.toList_inj, e]
  exact ⟨u, v, by rw [hv, this]⟩
end args
end Go.Proofs.YtpmkkhkphddfeaaDoor.SX
