/- Short words of the printed texts. -/
import Derived.Test.YtpmkkhkphddfeaaDoorSxI
set_option linter.unusedVariables false
namespace Go.Proofs.YtpmkkhkphddfeaaDoor.SX
open Go Go.RowKit
/-- A whole number; a pointer to a place in a block. -/
abbrev ii (n : Int) : Value := .int .i64 n
abbrev pp (b j : Nat) : Value := .pointer (some ⟨b, j, none⟩)
theorem vb {x : Value} {b v : Bool} (c : b = v) (hx : x = .bool b) : x = .bool v := hx.trans (congrArg Value.bool c)
theorem oa {vs : List Value} (h : vs.all (fun v => v.oneCell') = true) : ∀ u ∈ vs, u.oneCell' = true := fun u hu => (List.all_eq_true.1 h) u hu
section
variable {P : Program} {n : Nat} {md : Md} {ρ : Env} {w : World} {K : Exit → Env → World → Prop} {Kn : Env → World → Prop} {ops : Array Oper} {rest : List Oper}
theorem e2 {op : BinOp} {xt yt t : TypeId} {x y : Operand} {a b v : Value} (hb : Bin P op xt a b v) (hx : ev ρ x = a) (hy : ev ρ y = b) : Ex P ρ (.binOp op xt x y yt) t w v w := ex_bin hx hy hb
theorem mv {x : Operand} {t : TypeId} (v : Value) (hx : ev ρ x = v) : Ex P ρ (.move x) t w v w := ex_move hx
theorem sg {x : Operand} {t : TypeId} (v : Value) (hx : ev ρ x = v) : Ex P ρ (.assign x) t w v w := ex_assign hx
theorem E {d : Nat} {op : Op} {t : TypeId} {p : String} {e : Array Edge} {v : Value} {w' : World} (hd : Nat.blt d n = true) (hr : Ex P ρ op t w v w')
    (k : WL P n md ops rest K (upd ρ d v) w') : WL P n md ops ({ dst := some d, op := op, type := t, pos := p, after := e, guard := none } :: rest) K ρ w := WL.ex hd hr k
theorem splice_all {cs vs : List Value} (h : vs.length = cs.length) : splice cs 0 vs = vs := by
  unfold splice
  rw [List.take_zero, List.nil_append, Nat.zero_add, List.drop_eq_nil_of_le (by omega), List.append_nil]
/-- A store over a whole block. -/
theorem OW.storeW {T T' : TypeId} {x y : Operand} {i b : Nat} {cs vs : List Value} {t : TypeId} {p : String} {e : Array Edge} {g : Option (Nat × Bool)} {o : Tags} (hy : (ev ρ y).cells = vs.toArray) (hx : ev ρ x = .pointer (some ⟨b, 0, none⟩)) (hs : (P.info? T).map (·.size) = some vs.length)
    (hB : Bk o w i b cs T') (hl : vs.length = cs.length) (h1 : ∀ u ∈ vs, u.oneCell' = true)
    (k : ∀ w', Step o w o w' [i] → Bk o w' i b vs T' → Kn ρ w') : OW P n md { dst := none, op := .store T x y, type := t, pos := p, after := e, guard := g } Kn K ρ w :=
  OW.store vs hx hy hs hB (by omega) h1 (splice_all hl) k
end
end Go.Proofs.YtpmkkhkphddfeaaDoor.SX
