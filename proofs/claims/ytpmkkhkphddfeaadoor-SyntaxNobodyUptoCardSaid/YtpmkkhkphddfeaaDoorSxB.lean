/- Memory: what a value's cells say (Rep), tags of blocks (who owns a block: 0 is data that nobody writes), steps between worlds, own slices. -/
import Derived.Test.YtpmkkhkphddfeaaDoorSxA
import Derived.Maps.AppendAt
import Derived.Deep.MidRow
import Derived.Deep.Draws
set_option linter.unusedVariables false
namespace Go.Proofs.YtpmkkhkphddfeaaDoor.SX
open Go

abbrev Tags := Nat → Nat

/-- What the cells of a value say, all blocks behind them in F. -/
structure Rep (α : Type) where
  sz : Nat
  R : (Nat → Prop) → World → α → List Value → Prop
  len : ∀ {F w x cs}, R F w x cs → cs.length = sz
  one : ∀ {F w x cs}, R F w x cs → ∀ u ∈ cs, u.oneCell' = true
  mono : ∀ {F F' w x cs}, (∀ b, F b → F' b) → R F w x cs → R F' w x cs
  move : ∀ {F w x cs} {w' : World}, (∀ b, F b → b < w.heap.size → w'.heap[b]? = w.heap[b]?) → R F w x cs → R (fun b => F b ∧ b < w.heap.size) w' x cs

def Many {α : Type} (r : Rep α) (F : Nat → Prop) (w : World) : List α → List Value → Prop
  | [], cs => cs = []
  | x :: xs, cs => ∃ c0 c1, cs = c0 ++ c1 ∧ r.R F w x c0 ∧ Many r F w xs c1

section many
variable {α : Type} {r : Rep α} {F F' : Nat → Prop} {w w' : World}
theorem Many.len : ∀ {xs : List α} {cs}, Many r F w xs cs → cs.length = xs.length * r.sz
  | [], cs, h => by rw [show cs = [] from h]; simp
  | x :: xs, cs, h => by
    obtain ⟨c0, c1, rfl, h0, h1⟩ := h
    rw [List.length_append, r.len h0, Many.len h1, List.length_cons, Nat.add_mul, Nat.one_mul, Nat.add_comm]
theorem Many.one : ∀ {xs : List α} {cs}, Many r F w xs cs → ∀ u ∈ cs, u.oneCell' = true
  | [], cs, h, u, hu => by rw [show cs = [] from h] at hu; cases hu
  | x :: xs, cs, h, u, hu => by
    obtain ⟨c0, c1, rfl, h0, h1⟩ := h
    rcases List.mem_append.1 hu with hu | hu
    · exact r.one h0 u hu
    · exact Many.one h1 u hu
theorem Many.mono (hF : ∀ b, F b → F' b) : ∀ {xs : List α} {cs}, Many r F w xs cs → Many r F' w xs cs
  | [], cs, h => h
  | x :: xs, cs, h => by
    obtain ⟨c0, c1, rfl, h0, h1⟩ := h
    exact ⟨c0, c1, rfl, r.mono hF h0, Many.mono hF h1⟩
theorem Many.move (hm : ∀ b, F b → b < w.heap.size → w'.heap[b]? = w.heap[b]?) : ∀ {xs : List α} {cs}, Many r F w xs cs → Many r (fun b => F b ∧ b < w.heap.size) w' xs cs
  | [], cs, h => h
  | x :: xs, cs, h => by
    obtain ⟨c0, c1, rfl, h0, h1⟩ := h
    exact ⟨c0, c1, rfl, r.move hm h0, Many.move hm h1⟩
theorem Many.append : ∀ {xs ys : List α} {cs ds}, Many r F w xs cs → Many r F w ys ds → Many r F w (xs ++ ys) (cs ++ ds)
  | [], ys, cs, ds, h, k => by rw [show cs = [] from h]; exact k
  | x :: xs, ys, cs, ds, h, k => by
    obtain ⟨c0, c1, rfl, h0, h1⟩ := h
    exact ⟨c0, c1 ++ ds, by rw [List.append_assoc], h0, Many.append h1 k⟩
theorem Many.single {x : α} {cs} (h : r.R F w x cs) : Many r F w [x] cs := ⟨cs, [], by simp, h, rfl⟩
theorem Many.get : ∀ {xs : List α} {cs} {i : Nat} {x : α}, Many r F w xs cs → xs[i]? = some x → ∃ c, r.R F w x c ∧ ∀ j u, c[j]? = some u → cs[i * r.sz + j]? = some u
  | [], cs, i, x, h, hx => by simp at hx
  | y :: xs, cs, 0, x, h, hx => by
    obtain ⟨c0, c1, rfl, h0, h1⟩ := h
    obtain rfl : y = x := by simpa using hx
    refine ⟨c0, h0, fun j u hu => ?_⟩
    rw [Nat.zero_mul, Nat.zero_add, List.getElem?_append_left (List.getElem?_eq_some_iff.1 hu).1]
    exact hu
  | y :: xs, cs, i + 1, x, h, hx => by
    obtain ⟨c0, c1, rfl, h0, h1⟩ := h
    obtain ⟨c, hc, hj⟩ := Many.get h1 (by simpa using hx)
    refine ⟨c, hc, fun j u hu => ?_⟩
    have := hj j u hu
    have hl := r.len h0
    rw [List.getElem?_append_right (by rw [hl, Nat.add_mul, Nat.one_mul]; omega), hl]
    rw [show (i + 1) * r.sz + j - r.sz = i * r.sz + j from by rw [Nat.add_mul, Nat.one_mul]; omega]
    exact this
theorem Many.drop : ∀ {xs : List α} {cs} (k : Nat), Many r F w xs cs → Many r F w (xs.drop k) (cs.drop (k * r.sz))
  | xs, cs, 0, h => by simpa using h
  | [], cs, k + 1, h => by rw [show cs = [] from h]; simp [Many]
  | y :: xs, cs, k + 1, h => by
    obtain ⟨c0, c1, rfl, h0, h1⟩ := h
    have hl := r.len h0
    rw [List.drop_succ_cons, show (k + 1) * r.sz = c0.length + k * r.sz from by rw [Nat.add_mul, Nat.one_mul, hl, Nat.add_comm], ← List.drop_drop, List.drop_left]
    exact Many.drop k h1
theorem Many.take : ∀ {xs : List α} {cs} (k : Nat), Many r F w xs cs → Many r F w (xs.take k) (cs.take (k * r.sz))
  | xs, cs, 0, h => by simp [Many]
  | [], cs, k + 1, h => by rw [show cs = [] from h]; simp [Many]
  | y :: xs, cs, k + 1, h => by
    obtain ⟨c0, c1, rfl, h0, h1⟩ := h
    have hl := r.len h0
    rw [List.take_succ_cons, show (k + 1) * r.sz = c0.length + k * r.sz from by rw [Nat.add_mul, Nat.one_mul, hl, Nat.add_comm], List.take_length_add_append]
    exact ⟨c0, _, rfl, h0, Many.take k h1⟩
end many

/-- A row of elements that is read: its own block in G, what its elements lead to in F. -/
def Row {α : Type} (r : Rep α) (G F : Nat → Prop) (w : World) (A : Option Addr) (xs : List α) : Prop :=
  xs.length ≤ maxLen ∧ (xs = [] ∨ ∃ ad cells, A = some ad ∧ G ad.block ∧ ad.block < w.heap.size ∧ Many r F w xs cells ∧ ∀ j u, cells[j]? = some u → w.cell? (ad.add j) = some u)

theorem add_block (a : Addr) (n : Nat) : (a.add n).block = a.block := by unfold Addr.add; split <;> rfl
theorem cell_move {w w' : World} {a : Addr} (h : w'.heap[a.block]? = w.heap[a.block]?) : w'.cell? a = w.cell? a := by simp only [World.cell?, h]
theorem lt_move {w w' : World} {b : Nat} (hb : b < w.heap.size) (h : w'.heap[b]? = w.heap[b]?) : b < w'.heap.size := by
  rcases Nat.lt_or_ge b w'.heap.size with h' | h'
  · exact h'
  · rw [Array.getElem?_eq_none h', Array.getElem?_eq_getElem hb] at h; cases h

section row
variable {α : Type} {r : Rep α} {G F G' F' : Nat → Prop} {w w' : World} {A : Option Addr} {xs : List α}
theorem Row.mono (hG : ∀ b, G b → G' b) (hF : ∀ b, F b → F' b) (h : Row r G F w A xs) : Row r G' F' w A xs := by
  refine ⟨h.1, h.2.imp id ?_⟩
  rintro ⟨ad, cells, e, hg, hb, hm, hc⟩
  exact ⟨ad, cells, e, hG _ hg, hb, hm.mono hF, hc⟩
theorem Row.move (hg : ∀ b, G b → b < w.heap.size → w'.heap[b]? = w.heap[b]?) (hm : ∀ b, F b → b < w.heap.size → w'.heap[b]? = w.heap[b]?) (h : Row r G F w A xs) :
    Row r (fun b => G b ∧ b < w.heap.size) (fun b => F b ∧ b < w.heap.size) w' A xs := by
  refine ⟨h.1, h.2.imp id ?_⟩
  rintro ⟨ad, cells, e, hG, hb, hM, hc⟩
  refine ⟨ad, cells, e, ⟨hG, hb⟩, lt_move hb (hg _ hG hb), hM.move hm, fun j u hu => ?_⟩
  rw [cell_move (w := w) (by rw [add_block]; exact hg _ hG hb)]
  exact hc j u hu
theorem Row.nil : Row r G F w A [] := ⟨Nat.zero_le _, .inl rfl⟩
/-- Element i: its cells. -/
theorem Row.get {i : Nat} {x : α} (h : Row r G F w A xs) (hx : xs[i]? = some x) :
    ∃ ad c, A = some ad ∧ c.length = r.sz ∧ r.R F w x c ∧ ∀ j u, c[j]? = some u → w.cell? (ad.add (i * r.sz + j)) = some u := by
  rcases h.2 with rfl | ⟨ad, cells, e, hg, hb, hm, hc⟩
  · simp at hx
  · obtain ⟨c, hR, hj⟩ := hm.get hx
    exact ⟨ad, c, e, r.len hR, hR, fun j u hu => hc _ _ (hj j u hu)⟩
end row

/-! The kinds -/
def Rep.scalar {α : Type} (enc : α → Value) (h1 : ∀ x, (enc x).oneCell' = true) : Rep α where
  sz := 1
  R := fun _ _ x cs => cs = [enc x]
  len := fun h => by rw [h]; rfl
  one := fun h u hu => by
    rw [h] at hu
    rw [List.mem_singleton.1 hu]
    exact h1 _
  mono := fun _ h => h
  move := fun _ h => h
def enc8 (x : UInt8) : Value := .int .u8 (x.toNat : Int)
def enc32 (x : UInt32) : Value := .int .u32 (x.toNat : Int)
def enc64 (x : UInt64) : Value := .int .u64 (x.toNat : Int)
def encS (x : List UInt8) : Value := .string ⟨x.toArray⟩
def Rep.int (k : IntKind) : Rep Int := .scalar (Value.int k) (fun _ => rfl)
def Rep.u8 : Rep UInt8 := .scalar enc8 (fun _ => rfl)
def Rep.u32 : Rep UInt32 := .scalar enc32 (fun _ => rfl)
def Rep.u64 : Rep UInt64 := .scalar enc64 (fun _ => rfl)
def Rep.bool : Rep Bool := .scalar Value.bool (fun _ => rfl)
def Rep.str : Rep (List UInt8) := .scalar encS (fun _ => rfl)
/-- A slice that is read; nil or not. -/
def Rep.slice {α : Type} (r : Rep α) : Rep (List α) where
  sz := 1
  R := fun F w xs cs => ∃ A c, cs = [.slice A xs.length c] ∧ xs.length ≤ c ∧ Row r F F w A xs
  len := by rintro F w x cs ⟨A, c, rfl, _⟩; rfl
  one := by
    rintro F w x cs ⟨A, c, rfl, _⟩ u hu
    rw [List.mem_singleton.1 hu]
    rfl
  mono := by
    rintro F F' w x cs hF ⟨A, c, e, hl, hr⟩
    exact ⟨A, c, e, hl, hr.mono hF hF⟩
  move := by
    rintro F w x cs w' hm ⟨A, c, e, hl, hr⟩
    exact ⟨A, c, e, hl, hr.move hm hm⟩
def Rep.pair {α β : Type} (a : Rep α) (b : Rep β) : Rep (α × β) where
  sz := a.sz + b.sz
  R := fun F w x cs => ∃ c0 c1, cs = c0 ++ c1 ∧ a.R F w x.1 c0 ∧ b.R F w x.2 c1
  len := by
    rintro F w x cs ⟨c0, c1, rfl, h0, h1⟩
    rw [List.length_append, a.len h0, b.len h1]
  one := by
    rintro F w x cs ⟨c0, c1, rfl, h0, h1⟩ u hu
    rcases List.mem_append.1 hu with hu | hu
    · exact a.one h0 u hu
    · exact b.one h1 u hu
  mono := by
    rintro F F' w x cs hF ⟨c0, c1, e, h0, h1⟩
    exact ⟨c0, c1, e, a.mono hF h0, b.mono hF h1⟩
  move := by
    rintro F w x cs w' hm ⟨c0, c1, e, h0, h1⟩
    exact ⟨c0, c1, e, a.move hm h0, b.move hm h1⟩
def Rep.unit : Rep Unit where
  sz := 0
  R := fun _ _ _ cs => cs = []
  len := fun h => by rw [h]; rfl
  one := fun h u hu => by rw [h] at hu; cases hu
  mono := fun _ h => h
  move := fun _ h => h
def Rep.iso {α β : Type} (d : Rep α) (f : β → α) : Rep β where
  sz := d.sz
  R := fun F w x cs => d.R F w (f x) cs
  len := d.len
  one := d.one
  mono := d.mono
  move := d.move
/-- An array by value. -/
def Rep.arr {α : Type} (n : Nat) (r : Rep α) : Rep (List α) where
  sz := n * r.sz
  R := fun F w xs cs => xs.length = n ∧ Many r F w xs cs
  len := by rintro F w x cs ⟨h, k⟩; rw [k.len, h]
  one := by rintro F w x cs ⟨h, k⟩; exact k.one
  mono := by rintro F F' w x cs hF ⟨h, k⟩; exact ⟨h, k.mono hF⟩
  move := by rintro F w x cs w' hm ⟨h, k⟩; exact ⟨h, k.move hm⟩

/-! Steps -/
/-- From (o, w) to (o', w'): new blocks, and writes to blocks of the tags M alone. -/
structure Step (o : Tags) (w : World) (o' : Tags) (w' : World) (M : List Nat) : Prop where
  os : w'.os = w.os
  tape : w'.tape = w.tape
  output : w'.output = w.output
  size : w.heap.size ≤ w'.heap.size
  own : ∀ b, b < w.heap.size → o' b = o b
  keep : ∀ b, b < w.heap.size → o b ∉ M → w'.heap[b]? = w.heap[b]?
/-- Since a function began: what it may not write stands. T: the tags of what it is handed to write. -/
structure Fm (o0 : Tags) (w0 : World) (o : Tags) (w : World) (T : List Nat) : Prop where
  os : w.os = w0.os
  tape : w.tape = w0.tape
  output : w.output = w0.output
  size : w0.heap.size ≤ w.heap.size
  low : ∀ b, b < w0.heap.size → o0 b < 40
  own : ∀ b, b < w0.heap.size → o b = o0 b
  keep : ∀ b, b < w0.heap.size → o0 b ∉ T → w.heap[b]? = w0.heap[b]?

theorem Step.refl (o : Tags) (w : World) (M : List Nat) : Step o w o w M := ⟨rfl, rfl, rfl, Nat.le_refl _, fun _ _ => rfl, fun _ _ _ => rfl⟩
theorem Fm.refl {o : Tags} {w : World} (h : ∀ b, b < w.heap.size → o b < 40) (T : List Nat) : Fm o w o w T := ⟨rfl, rfl, rfl, Nat.le_refl _, h, fun _ _ => rfl, fun _ _ _ => rfl⟩
def okM (M T : List Nat) : Bool := M.all fun i => decide (40 ≤ i) || T.contains i
theorem Fm.step {o0 : Tags} {w0 : World} {o : Tags} {w : World} {o' : Tags} {w' : World} {M T : List Nat} (h : Fm o0 w0 o w T) (s : Step o w o' w' M) (hM : okM M T = true) : Fm o0 w0 o' w' T := by
  refine ⟨s.os.trans h.os, s.tape.trans h.tape, s.output.trans h.output, Nat.le_trans h.size s.size, h.low, fun b hb => (s.own b (Nat.lt_of_lt_of_le hb h.size)).trans (h.own b hb), fun b hb hT => ?_⟩
  refine (s.keep b (Nat.lt_of_lt_of_le hb h.size) (fun hm => ?_)).trans (h.keep b hb hT)
  have h1 := (List.all_eq_true.1 hM) _ hm
  rw [h.own b hb] at h1
  have h2 := h.low b hb
  simp only [Bool.or_eq_true, decide_eq_true_eq, List.contains_iff_mem] at h1
  rcases h1 with h1 | h1
  · omega
  · exact hT h1
theorem Fm.out {o0 : Tags} {w0 : World} {o : Tags} {w : World} {T : List Nat} (h : Fm o0 w0 o w T) : Step o0 w0 o w T := ⟨h.os, h.tape, h.output, h.size, h.own, h.keep⟩

/-- What is known of data or of a row stays, if its tags are not written. -/
theorem Rep.step {α : Type} {r : Rep α} {V : Nat → Prop} {o : Tags} {w : World} {o' : Tags} {w' : World} {M : List Nat} {x : α} {cs : List Value} (s : Step o w o' w' M) (hV : ∀ i, V i → i ∉ M)
    (h : r.R (fun b => V (o b)) w x cs) : r.R (fun b => V (o' b)) w' x cs :=
  r.mono (fun b hb => by rw [s.own b hb.2]; exact hb.1) (r.move (fun b hb hlt => s.keep b hlt (hV _ hb)) h)
/-- Data: tag 0. -/
abbrev D {α : Type} (r : Rep α) (o : Tags) (w : World) (x : α) (cs : List Value) : Prop := r.R (fun b => o b = 0) w x cs
theorem D.step {α : Type} {r : Rep α} {o : Tags} {w : World} {o' : Tags} {w' : World} {M : List Nat} {x : α} {cs : List Value} (h : D r o w x cs) (s : Step o w o' w' M) (hM : M.contains 0 = false) : D r o' w' x cs :=
  Rep.step (V := fun i => i = 0) s (by rintro i rfl hm; rw [← List.contains_iff_mem] at hm; rw [hM] at hm; cases hm) h

/-- A block of one's own, its cells known. -/
structure Bk (o : Tags) (w : World) (i : Nat) (b : Nat) (cs : List Value) (T : TypeId) : Prop where
  tag : o b = i
  heap : w.heap[b]? = some (.cells cs.toArray T (0, 0))
theorem Bk.step {o : Tags} {w : World} {o' : Tags} {w' : World} {M : List Nat} {i b : Nat} {cs : List Value} {T : TypeId} (h : Bk o w i b cs T) (s : Step o w o' w' M) (hM : M.contains i = false) : Bk o' w' i b cs T := by
  have hb : b < w.heap.size := (Array.getElem?_eq_some_iff.1 h.heap).1
  refine ⟨(s.own b hb).trans h.tag, (s.keep b hb (fun hm => ?_)).trans h.heap⟩
  rw [h.tag, ← List.contains_iff_mem, hM] at hm
  cases hm
theorem Bk.cell {o : Tags} {w : World} {i b : Nat} {cs : List Value} {T : TypeId} (h : Bk o w i b cs T) {j : Nat} {v : Value} (hv : cs[j]? = some v) : w.cell? ⟨b, j, none⟩ = some v := by
  simp [World.cell?, h.heap, hv]
theorem Bk.free {o : Tags} {w : World} {i b : Nat} {cs : List Value} {T : TypeId} (h : Bk o w i b cs T) (j : Nat) : w.frozen? ⟨b, j, none⟩ = false := by
  simp [World.frozen?, h.heap]

/-- A slice of one's own (tag i): what it leads to is data. -/
def Own {α : Type} (r : Rep α) (E : TypeId) (i : Nat) (o : Tags) (w : World) (v : Value) (xs : List α) : Prop :=
  ∃ cells, w.ownsRow 0 E r.sz v xs.length cells ∧ (∀ b, v.ownBlock = some b → o b = i) ∧ Many r (fun b => o b = 0) w xs cells
section own
variable {α : Type} {r : Rep α} {E i : Nat} {o o' : Tags} {w w' : World} {v : Value} {xs : List α} {M : List Nat}
theorem Own.nil : Own r E i o w (.slice none 0 0) [] := ⟨[], World.ownsRow_nil _ _ _ _, by simp [Value.ownBlock], rfl⟩
theorem Own.slice (h : Own r E i o w v xs) : ∃ A c, v = .slice A xs.length c := by
  obtain ⟨cells, hown, _⟩ := h
  rcases hown.2 with ⟨rfl, h0⟩ | ⟨g, cap, cur, rfl, _⟩
  · exact ⟨none, 0, by rw [h0]⟩
  · exact ⟨_, cap, rfl⟩
theorem Own.step (h : Own r E i o w v xs) (s : Step o w o' w' M) (hi : M.contains i = false) (h0 : M.contains 0 = false) : Own r E i o' w' v xs := by
  obtain ⟨cells, hown, ht, hm⟩ := h
  refine ⟨cells, ⟨hown.1, ?_⟩, fun b hb => ?_, ?_⟩
  · rcases hown.2 with hn | ⟨g, cap, cur, rfl, hb, hg, rest⟩
    · exact .inl hn
    · refine .inr ⟨g, cap, cur, rfl, hb, ?_, rest⟩
      have hlt : g < w.heap.size := (Array.getElem?_eq_some_iff.1 hg).1
      rw [s.keep g hlt (fun hmem => ?_)]
      · exact hg
      · rw [ht g rfl, ← List.contains_iff_mem, hi] at hmem
        cases hmem
  · rw [s.own b (hown.lt b hb).2]; exact ht b hb
  · have := hm.move (w' := w') (fun b hb hlt => s.keep b hlt (fun hmem => by rw [hb, ← List.contains_iff_mem, h0] at hmem; cases hmem))
    exact this.mono (fun b hb => by rw [s.own b hb.2]; exact hb.1)
theorem Own.row (h : Own r E i o w v xs) : ∃ A c, v = .slice A xs.length c ∧ xs.length ≤ c ∧ Row r (fun b => o b = i) (fun b => o b = 0) w A xs := by
  obtain ⟨cells, hown, ht, hm⟩ := h
  rcases hown.2 with ⟨rfl, h0⟩ | ⟨g, cap, cur, rfl, _, hg, hn, hcm, hcs, htake⟩
  · obtain rfl : xs = [] := List.eq_nil_of_length_eq_zero h0
    exact ⟨none, 0, rfl, Nat.le_refl _, Row.nil⟩
  · refine ⟨_, cap, rfl, hn, Nat.le_trans hn hcm, .inr ⟨⟨g, 0, none⟩, cells, rfl, ht g rfl, (Array.getElem?_eq_some_iff.1 hg).1, hm, hown.cells (g := g) rfl⟩⟩
/-- Read as data, where its tag counts as data. -/
theorem Own.reads {F : Nat → Prop} (h : Own r E i o w v xs) (hi : ∀ b, o b = i → F b) (h0 : ∀ b, o b = 0 → F b) : (Rep.slice r).R F w xs [v] := by
  obtain ⟨A, c, rfl, hl, hr⟩ := h.row
  exact ⟨A, c, rfl, hl, hr.mono hi h0⟩
end own

/-- The tag i becomes data. -/
def pub (o : Tags) (i : Nat) : Tags := fun b => bif Nat.beq (o b) i then 0 else o b
theorem pub_zero (o : Tags) (i b : Nat) (h : o b = 0) : pub o i b = 0 := by simp [pub, h]
theorem pub_same (o : Tags) (i b : Nat) (h : o b = i) : pub o i b = 0 := by simp [pub, h]
theorem pub_other {o : Tags} {i j b : Nat} (h : o b = j) (hj : Nat.beq j i = false) : pub o i b = j := by simp [pub, h, hj]
theorem D.pub {α : Type} {r : Rep α} {o : Tags} {w : World} {x : α} {cs : List Value} (h : D r o w x cs) (i : Nat) : D r (pub o i) w x cs := r.mono (fun b hb => pub_zero o i b hb) h
theorem Bk.pub {o : Tags} {w : World} {j b : Nat} {cs : List Value} {T : TypeId} (h : Bk o w j b cs T) (i : Nat) (hj : Nat.beq j i = false) : Bk (pub o i) w j b cs T := ⟨pub_other h.tag hj, h.heap⟩
theorem Own.pub {α : Type} {r : Rep α} {E j : Nat} {o : Tags} {w : World} {v : Value} {xs : List α} (h : Own r E j o w v xs) (i : Nat) (hj : Nat.beq j i = false) : Own r E j (pub o i) w v xs := by
  obtain ⟨cells, hown, ht, hm⟩ := h
  exact ⟨cells, hown, fun b hb => pub_other (ht b hb) hj, hm.mono (fun b hb => pub_zero o i b hb)⟩
theorem Own.data {α : Type} {r : Rep α} {E i : Nat} {o : Tags} {w : World} {v : Value} {xs : List α} (h : Own r E i o w v xs) : D (Rep.slice r) (SX.pub o i) w xs [v] :=
  h.reads (fun b hb => pub_same o i b hb) (fun b hb => pub_zero o i b hb)
theorem Fm.pub {o0 : Tags} {w0 : World} {o : Tags} {w : World} {T : List Nat} (h : Fm o0 w0 o w T) (i : Nat) (hi : Nat.ble 40 i = true) : Fm o0 w0 (pub o i) w T := by
  refine ⟨h.os, h.tape, h.output, h.size, h.low, fun b hb => ?_, h.keep⟩
  have h1 := h.low b hb
  have h2 := h.own b hb
  have hi' : 40 ≤ i := by simpa using hi
  refine pub_other h2 ?_
  rw [← Bool.not_eq_true, Nat.beq_eq]
  omega

/-! Worlds that come up -/
theorem step_alloc (o : Tags) (w : World) (i : Nat) (ob : Obj) (M : List Nat) : Step o w (fun b => bif Nat.beq b w.heap.size then i else o b) (w.alloc ob) M := by
  refine ⟨rfl, rfl, rfl, by simp, fun b hb => ?_, fun b hb _ => RowKit.Below.heap_alloc w ob b hb⟩
  have : Nat.beq b w.heap.size = false := by rw [← Bool.not_eq_true, Nat.beq_eq]; omega
  simp [this]
theorem step_drew (o : Tags) (w : World) (n : Nat) (M : List Nat) : Step o w o (w.drewN n) M := ⟨rfl, rfl, rfl, Nat.le_refl _, fun _ _ => rfl, fun _ _ _ => rfl⟩
end Go.Proofs.YtpmkkhkphddfeaaDoor.SX
