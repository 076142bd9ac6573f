/- Calls: the tags as the callee sees them (vw), and back (un); small words for printed proofs. -/
import Derived.Test.YtpmkkhkphddfeaaDoorSxF
set_option linter.unusedVariables false
set_option linter.unusedSimpArgs false
namespace Go.Proofs.YtpmkkhkphddfeaaDoor.SX
open Go Go.RowKit

/-- The callee's tag: 0 what counts as data, 2, 3, .. the objects L that it may write, 1 all else. -/
def vwt (V L : List Nat) (t : Nat) : Nat := bif V.contains t then 0 else match L.idxOf? t with | some k => 2 + k | none => 1
def vw (V L : List Nat) (o : Tags) : Tags := fun b => vwt V L (o b)
/-- The caller's tag of a new block: 9, 8, 7 are what is handed back as one's own (J). -/
def unt (L J : List Nat) (t : Nat) : Nat := bif Nat.ble 20 t && Nat.ble t 39 then J.getD (39 - t) 0 else bif Nat.ble 2 t && Nat.blt t (2 + L.length) then L.getD (t - 2) 0 else 0
def un (o : Tags) (w : World) (o' : Tags) (L J : List Nat) : Tags := fun b => bif Nat.blt b w.heap.size then o b else unt L J (o' b)

section views
variable {V L J : List Nat} {o o' : Tags} {w w' : World} {j : Nat}
theorem vwt_zero (hV : V.contains 0 = true) : vwt V L 0 = 0 := by unfold vwt; rw [hV]; rfl
theorem vwt_in {t : Nat} (h : V.contains t = true) : vwt V L t = 0 := by unfold vwt; rw [h]; rfl
theorem vw_low (hL : Nat.ble L.length 17 = true) (t : Nat) : vwt V L t < 20 := by
  have hL' := Nat.le_of_ble_eq_true hL
  unfold vwt
  cases V.contains t with
  | true => simp
  | false =>
    simp only [cond_false]
    cases h : L.idxOf? t with
    | none => simp
    | some k =>
      have : k < L.length := by
        have := List.idxOf?_eq_some_iff.1 h
        obtain ⟨hk, _⟩ := this
        exact hk
      simp only
      omega
theorem vw_ten (hL : Nat.ble L.length 17 = true) : ∀ b, b < w.heap.size → vw V L o b < 40 := fun b _ => Nat.lt_of_lt_of_le (vw_low hL _) (by decide)
theorem Row.vw {α : Type} {r : Rep α} {A : Option Addr} {xs : List α} (h : Row r (fun b => o b = 0) (fun b => o b = 0) w A xs) (hV : V.contains 0 = true) :
    Row r (fun b => SX.vw V L o b = 0) (fun b => SX.vw V L o b = 0) w A xs :=
  h.mono (fun b hb => by simp only [SX.vw, hb, vwt_zero hV]) (fun b hb => by simp only [SX.vw, hb, vwt_zero hV])
theorem D.vw {α : Type} {r : Rep α} {x : α} {cs : List Value} (h : D r o w x cs) (hV : V.contains 0 = true) : D r (SX.vw V L o) w x cs :=
  r.mono (fun b hb => by simp only [SX.vw, hb, vwt_zero hV]) h
theorem Bk.vw {i i' b : Nat} {cs : List Value} {T : TypeId} (h : Bk o w i b cs T) (hi : vwt V L i = i') : Bk (SX.vw V L o) w i' b cs T := ⟨by simp only [SX.vw, h.tag, hi], h.heap⟩
theorem Own.vw {α : Type} {r : Rep α} {E i i' : Nat} {v : Value} {xs : List α} (h : Own r E i o w v xs) (hV : V.contains 0 = true) (hi : vwt V L i = i') : Own r E i' (SX.vw V L o) w v xs := by
  obtain ⟨cells, hown, ht, hm⟩ := h
  exact ⟨cells, hown, fun b hb => by simp only [SX.vw, ht b hb, hi], hm.mono (fun b hb => by simp only [SX.vw, hb, vwt_zero hV])⟩
/-- A row of one's own, handed to who reads it. -/
theorem Own.vwRow {α : Type} {r : Rep α} {E i : Nat} {v : Value} {xs : List α} (h : Own r E i o w v xs) (hV : V.contains 0 = true) (hi : V.contains i = true) :
    ∃ A c, v = .slice A xs.length c ∧ xs.length ≤ c ∧ Row r (fun b => SX.vw V L o b = 0) (fun b => SX.vw V L o b = 0) w A xs := by
  obtain ⟨A, c, e, hl, hr⟩ := h.row
  exact ⟨A, c, e, hl, hr.mono (fun b hb => by simp only [SX.vw, hb, vwt_in hi]) (fun b hb => by simp only [SX.vw, hb, vwt_zero hV])⟩

theorem idx_get {t k : Nat} (h : L.idxOf? t = some k) : L.getD k 0 = t ∧ k < L.length := by
  obtain ⟨hk, he, _⟩ := List.idxOf?_eq_some_iff.1 h
  exact ⟨by simp [List.getD, hk, he], hk⟩
theorem un_step {M : List Nat} (s : Step (SX.vw V L o) w o' w' M) (hM : M.all (fun m => Nat.ble 2 m) = true) : Step o w (un o w o' L J) w' L := by
  refine ⟨s.os, s.tape, s.output, s.size, fun b hb => ?_, fun b hb hn => s.keep b hb (fun hm => ?_)⟩
  · have : Nat.blt b w.heap.size = true := by simpa [Nat.blt_eq] using hb
    simp [un, this]
  · have h2 := Nat.le_of_ble_eq_true ((List.all_eq_true.1 hM) _ hm)
    simp only [SX.vw, vwt] at h2
    cases hc : V.contains (o b) with
    | true => rw [hc] at h2; simp at h2
    | false =>
      rw [hc] at h2
      cases hk : L.idxOf? (o b) with
      | none => rw [hk] at h2; simp at h2
      | some k =>
        obtain ⟨he, hlt⟩ := idx_get hk
        refine hn ?_
        rw [← he]
        simp [List.getD, hlt]
theorem un_step0 (s : Step (SX.vw V [] o) w o' w' []) : Step o w (un o w o' [] J) w' [] := un_step s rfl
theorem un_old {b : Nat} (hb : b < w.heap.size) : un o w o' L J b = o b := by
  have : Nat.blt b w.heap.size = true := by simpa [Nat.blt_eq] using hb
  simp [un, this]
theorem un_new {b : Nat} (hb : ¬ b < w.heap.size) : un o w o' L J b = unt L J (o' b) := by
  have : Nat.blt b w.heap.size = false := by rw [← Bool.not_eq_true]; simpa [Nat.blt_eq] using hb
  simp [un, this]
/-- Tags come back: 0. -/
theorem un_zero {M : List Nat} (s : Step (SX.vw [0] L o) w o' w' M) {b : Nat} (h : o' b = 0) : un o w o' L J b = 0 := by
  by_cases hb : b < w.heap.size
  · rw [un_old hb]
    have h1 := s.own b hb
    rw [h] at h1
    simp only [SX.vw, vwt] at h1
    cases hc : ([0] : List Nat).contains (o b) with
    | true => simpa using hc
    | false =>
      rw [hc] at h1
      cases hk : L.idxOf? (o b) with
      | none => rw [hk] at h1; simp at h1
      | some k => rw [hk] at h1; simp only [cond_false] at h1; omega
  · rw [un_new hb, h]; rfl
/-- Tags come back: what is handed back. -/
theorem un_nine (q : Nat) {M : List Nat} (hq : Nat.ble q 19 = true) (hL : Nat.ble L.length 17 = true) (s : Step (SX.vw V L o) w o' w' M) (hj : J.getD q 0 = j) {b : Nat} (h : o' b = 39 - q) : un o w o' L J b = j := by
  have hq' := Nat.le_of_ble_eq_true hq
  by_cases hb : b < w.heap.size
  · have h1 := s.own b hb
    have h2 := vw_low (V := V) hL (o b)
    rw [h] at h1
    simp only [SX.vw] at h1
    omega
  · rw [un_new hb, h]
    have e1 : (Nat.ble 20 (39 - q) && Nat.ble (39 - q) 39) = true := by simp; omega
    rw [unt, e1, ← hj, cond_true, show 39 - (39 - q) = q from by omega]
/-- Tags come back: an object's. -/
theorem un_obj {M : List Nat} {k i : Nat} (s : Step (SX.vw V L o) w o' w' M) (hk : Nat.blt k L.length = true) (hk6 : Nat.ble k 16 = true) (hi : L.getD k 0 = i) {b : Nat} (h : o' b = 2 + k) : un o w o' L J b = i := by
  have hk' : k < L.length := by simpa [Nat.blt_eq] using hk
  have hk6' := Nat.le_of_ble_eq_true hk6
  by_cases hb : b < w.heap.size
  · rw [un_old hb]
    have h1 := s.own b hb
    rw [h] at h1
    simp only [SX.vw, vwt] at h1
    cases hc : V.contains (o b) with
    | true => rw [hc] at h1; simp at h1
    | false =>
      rw [hc] at h1
      cases hq : L.idxOf? (o b) with
      | none => rw [hq] at h1; simp only [cond_false] at h1; omega
      | some q =>
        rw [hq] at h1
        simp only [cond_false] at h1
        obtain rfl : k = q := by omega
        rw [← (idx_get hq).1, hi]
  · rw [un_new hb, h]
    have e1 : (Nat.ble 20 (2 + k) && Nat.ble (2 + k) 39) = false := by rw [← Bool.not_eq_true]; simp; omega
    have e2 : Nat.ble 2 (2 + k) = true := by simp
    have e3 : Nat.blt (2 + k) (2 + L.length) = true := by simp [Nat.blt_eq]; exact hk'
    simp only [unt, e1, e2, e3, ← hi, cond_false, cond_true, Bool.and_self]; simp
theorem D.un {α : Type} {r : Rep α} {x : α} {cs : List Value} {M : List Nat} (h : D r o' w' x cs) (s : Step (SX.vw [0] L o) w o' w' M) : D r (SX.un o w o' L J) w' x cs := r.mono (fun b hb => un_zero s hb) h
theorem Own.un9 (q : Nat) {α : Type} {r : Rep α} {E : Nat} {v : Value} {xs : List α} {M : List Nat} (h : Own r E (39 - q) o' w' v xs) (hq : Nat.ble q 19 = true) (s : Step (SX.vw [0] L o) w o' w' M) (hL : Nat.ble L.length 17 = true) (hj : J.getD q 0 = j) : Own r E j (SX.un o w o' L J) w' v xs := by
  obtain ⟨cells, hown, ht, hm⟩ := h
  exact ⟨cells, hown, fun b hb => un_nine q hq hL s hj (ht b hb), hm.mono (fun b hb => un_zero s hb)⟩
theorem Bk.un9 (q : Nat) {b : Nat} {cs : List Value} {T : TypeId} {M : List Nat} (h : Bk o' w' (39 - q) b cs T) (hq : Nat.ble q 19 = true) (s : Step (SX.vw V L o) w o' w' M) (hL : Nat.ble L.length 17 = true) (hj : J.getD q 0 = j) : Bk (SX.un o w o' L J) w' j b cs T := ⟨un_nine q hq hL s hj h.tag, h.heap⟩
theorem Bk.unO (k : Nat) {i b : Nat} {cs : List Value} {T : TypeId} {M : List Nat} (h : Bk o' w' (2 + k) b cs T) (s : Step (SX.vw V L o) w o' w' M) (hk : Nat.blt k L.length = true) (hk6 : Nat.ble k 16 = true) (hi : L.getD k 0 = i) : Bk (SX.un o w o' L J) w' i b cs T := ⟨un_obj s hk hk6 hi h.tag, h.heap⟩
theorem Own.unO (k : Nat) {α : Type} {r : Rep α} {E i : Nat} {v : Value} {xs : List α} {M : List Nat} (h : Own r E (2 + k) o' w' v xs) (s : Step (SX.vw [0] L o) w o' w' M) (hk : Nat.blt k L.length = true) (hk6 : Nat.ble k 16 = true) (hi : L.getD k 0 = i) : Own r E i (SX.un o w o' L J) w' v xs := by
  obtain ⟨cells, hown, ht, hm⟩ := h
  exact ⟨cells, hown, fun b hb => un_obj s hk hk6 hi (ht b hb), hm.mono (fun b hb => un_zero s hb)⟩
end views

/-- One tag becomes another one. -/
def ren (o : Tags) (i j : Nat) : Tags := fun b => bif Nat.beq (o b) i then j else o b
section ren
variable {o : Tags} {w : World} {i j : Nat}
theorem ren_same {b : Nat} (h : o b = i) : ren o i j b = j := by simp [ren, h]
theorem ren_other {b k : Nat} (h : o b = k) (hk : Nat.beq k i = false) : ren o i j b = k := by simp [ren, h, hk]
theorem D.ren {α : Type} {r : Rep α} {x : α} {cs : List Value} (h : D r o w x cs) (hi : Nat.beq 0 i = false) : D r (SX.ren o i j) w x cs := r.mono (fun b hb => ren_other hb hi) h
theorem Bk.ren {k b : Nat} {cs : List Value} {T : TypeId} (h : Bk o w k b cs T) (hk : Nat.beq k i = false) : Bk (SX.ren o i j) w k b cs T := ⟨ren_other h.tag hk, h.heap⟩
theorem Bk.renTo {b : Nat} {cs : List Value} {T : TypeId} (h : Bk o w i b cs T) : Bk (SX.ren o i j) w j b cs T := ⟨ren_same h.tag, h.heap⟩
theorem Own.ren {α : Type} {r : Rep α} {E k : Nat} {v : Value} {xs : List α} (h : Own r E k o w v xs) (hk : Nat.beq k i = false) (hi : Nat.beq 0 i = false) : Own r E k (SX.ren o i j) w v xs := by
  obtain ⟨cells, hown, ht, hm⟩ := h
  exact ⟨cells, hown, fun b hb => ren_other (ht b hb) hk, hm.mono (fun b hb => ren_other hb hi)⟩
theorem Own.renTo {α : Type} {r : Rep α} {E : Nat} {v : Value} {xs : List α} (h : Own r E i o w v xs) (hi : Nat.beq 0 i = false) : Own r E j (SX.ren o i j) w v xs := by
  obtain ⟨cells, hown, ht, hm⟩ := h
  exact ⟨cells, hown, fun b hb => ren_same (ht b hb), hm.mono (fun b hb => ren_other hb hi)⟩
theorem Fm.ren {o0 : Tags} {w0 : World} {T : List Nat} (h : Fm o0 w0 o w T) (hi : Nat.ble 40 i = true) : Fm o0 w0 (SX.ren o i j) w T := by
  refine ⟨h.os, h.tape, h.output, h.size, h.low, fun b hb => ?_, h.keep⟩
  have h1 := h.low b hb
  have h2 := h.own b hb
  have hi' := Nat.le_of_ble_eq_true hi
  exact ren_other h2 (by rw [← Bool.not_eq_true, Nat.beq_eq]; omega)
end ren

theorem bindE {α β : Type} {m : Option α} {f : α → Option β} {r : β} (h : m.bind f = some r) : ∃ v, m = some v ∧ f v = some r := Option.bind_eq_some_iff.mp h
theorem condE {α : Type} {c : Bool} {a b : Option α} {r : α} (h : (bif c then a else b) = some r) : (c = true ∧ a = some r) ∨ (c = false ∧ b = some r) := by cases c <;> simp_all
/-- A test that must hold. -/
def chk (b : Bool) : Option Unit := bif b then some () else none
theorem chk_true {b : Bool} {u : Unit} (h : chk b = some u) : b = true := by cases b <;> simp_all [chk]
theorem bin_add64 {P : Program} {a b : Int} {T : TypeId} : Bin P .add T (.int .i64 a) (.int .i64 b) (.int .i64 (wrap64 (a + b))) := by rw [← wrap_i64]; exact bin_add
theorem bin_sub64 {P : Program} {a b : Int} {T : TypeId} : Bin P .sub T (.int .i64 a) (.int .i64 b) (.int .i64 (wrap64 (a - b))) := by rw [← wrap_i64]; exact bin_sub
theorem bin_mul64 {P : Program} {a b : Int} {T : TypeId} : Bin P .mul T (.int .i64 a) (.int .i64 b) (.int .i64 (wrap64 (a * b))) := by rw [← wrap_i64]; exact bin_mul
theorem bin_quo64 {P : Program} {a b : Int} {T : TypeId} (h : b ≠ 0) : Bin P .quo T (.int .i64 a) (.int .i64 b) (.int .i64 (wrap64 (a.tdiv b))) := by
  rw [← wrap_i64]; exact fun x y w => by simp [eqGuard, binOp, Op.intDiv, h]
theorem bin_rem64 {P : Program} {a b : Int} {T : TypeId} (h : b ≠ 0) : Bin P .rem T (.int .i64 a) (.int .i64 b) (.int .i64 (a.tmod b)) := fun x y w => by simp [eqGuard, binOp, Op.intDiv, h]
theorem ex_conv64 {P : Program} {ρ : Env} {w : World} {src dst t : TypeId} {x : Operand} {k : IntKind} {a : Int} {ds : TypeDesc} (hx : ev ρ x = .int k a) (hs : P.underlying src = some ds) (hd : P.underlying dst = some (.int .i64)) :
    Ex P ρ (.convert src dst x) t w (.int .i64 (wrap64 a)) w := by rw [← wrap_i64]; exact ex_conv hx hs hd
theorem ex_neg64 {P : Program} {ρ : Env} {w : World} {xt t : TypeId} {x : Operand} {a : Int} (hx : ev ρ x = .int .i64 a) : Ex P ρ (.unOp .neg xt x) t w (.int .i64 (wrap64 (0 - a))) w := by rw [← wrap_i64]; exact ex_neg hx
end Go.Proofs.YtpmkkhkphddfeaaDoor.SX
