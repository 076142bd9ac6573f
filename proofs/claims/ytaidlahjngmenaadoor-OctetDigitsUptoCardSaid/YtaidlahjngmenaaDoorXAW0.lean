import Derived.Test.YtaidlahjngmenaaDoorXAD
import Derived.Test.YtaidlahjngmenaaDoorProg
import Derived.Test.YtaidlahjngmenaaDoorShelf
set_option maxRecDepth 20000
set_option linter.unusedVariables false
set_option linter.unusedSimpArgs false
set_option linter.unnecessarySimpa false
namespace Go.Proofs.YtaidlahjngmenaaDoor.X
open Go Go.RowKit Go.Proofs.YtaidlahjngmenaaDoor.SX
/-! What the program's variables hold -/
def GG : Glob := { L := [0, 1, 5, 3, 4], T := fun w => Lib.Utf8Tabs 0 1 w ∧ Lib.TabIs Tryd.prog w "internal/strconv.uint64pow10" .u64 Lib.pow10Tab ∧ (∃ tp p, w.var? Tryd.prog "strconv.ErrSyntax" = some #[.iface tp p]) ∧ (∃ tp p, w.var? Tryd.prog "strconv.ErrRange" = some #[.iface tp p]), move := fun {w w'} hk h => ⟨⟨fun c hc => by rw [cell_move (w := w) (hk 0 (by simp))]; exact h.1.1 c hc, fun i hi => ⟨by rw [cell_move (w := w) (hk 1 (by simp))]; exact (h.1.2 i hi).1, by rw [cell_move (w := w) (hk 1 (by simp))]; exact (h.1.2 i hi).2⟩⟩, (var_move (by kernel_rfl : Tryd.prog.globalNamed "internal/strconv.uint64pow10" = some 5) (hk 5 (by simp))).trans h.2.1, (by obtain ⟨tp, p, e⟩ := h.2.2.1; exact ⟨tp, p, (var_move (by kernel_rfl : Tryd.prog.globalNamed "strconv.ErrSyntax" = some 3) (hk 3 (by simp))).trans e⟩), (by obtain ⟨tp, p, e⟩ := h.2.2.2; exact ⟨tp, p, (var_move (by kernel_rfl : Tryd.prog.globalNamed "strconv.ErrRange" = some 4) (hk 4 (by simp))).trans e⟩)⟩ }

theorem inf5 : (Tryd.prog.info? 5).map (fun i => (i.zero, i.size, i.bytes)) = some (some (.int .u8 0), 1, 1) := by kernel_rfl
theorem sz4 : (Tryd.prog.info? 4).map (·.size) = some 1 := by kernel_rfl
theorem sz5 : (Tryd.prog.info? 5).map (·.size) = some 1 := by kernel_rfl
theorem sz24 : (Tryd.prog.info? 24).map (·.size) = some 1 := by kernel_rfl
theorem zr5 : (Tryd.prog.info? 5).map (·.zero) = some (some (.int .u8 0)) := by kernel_rfl
theorem zr24 : (Tryd.prog.info? 24).map (·.zero) = some (some (.slice none 0 0)) := by kernel_rfl
theorem zr26 : (Tryd.prog.info? 26).map (·.zero) = some (some (.agg #[.slice none 0 0])) := by kernel_rfl
theorem zr68 : (Tryd.prog.info? 68).map (·.zero) = some (some (.agg #[.bool false, .slice none 0 0])) := by kernel_rfl


/-! ### (*strings.Builder).copyCheck -/
theorem sizeBd : (Tryd.prog.info? 84).map (·.size) = some 2 := by kernel_rfl
theorem info5 : (Tryd.prog.info? 5).map (fun i => (i.zero, i.size, i.bytes)) = some (some (.int .u8 0), 1, 1) := by kernel_rfl
theorem Bd_copyCheck (w0 : World) (b : Nat) (p v : Value) (hb : w0.heap[b]? = some (.cells #[p, v] 84 (0, 0))) (hp : p = .pointer none ∨ p = .pointer (some ⟨b, 0, none⟩)) :
    Calls Tryd.prog 55 [.pointer (some ⟨b, 0, none⟩)].toArray w0 fun e_ w_ => e_ = .returned (one []) ∧ Kept b w0 w_ ∧ w_.heap[b]? = some (.cells #[.pointer (some ⟨b, 0, none⟩), v] 84 (0, 0)) := by
  have hB : Bk (tagOne b) w0 11 b [p, v] 84 := ⟨tagOne_same b, hb⟩
  refine SX.calls [.pointer (some ⟨b, 0, none⟩)] Tryd.func55 rfl rfl ?_
  rw [Tryd.ntmps55]
  refine WC.seq ?_
  refine WC.region ?_
  refine WL.ex rfl (ex_move (v := .pointer (some ⟨b, 0, none⟩)) rfl) ?_
  refine WL.ex rfl (ex_nilCheck rfl) ?_
  refine WL.ex rfl (ex_fieldAddr (k := 0) rfl Tryd.underlying84 rfl (by kernel_rfl)) ?_
  refine WL.ex rfl (ex_load1 (v := p) rfl Tryd.underlying82 rfl (hB.cell rfl)) ?_
  rcases hp with rfl | rfl
  · refine WL.ex rfl (ex_bin (a := .pointer none) (b := .pointer none) (v := .bool true) rfl rfl (bin_eql_ptrNN Tryd.underlying82)) ?_
    refine WL.nil ?_
    refine WC.cond_t rfl ?_
    refine WC.region ?_
    refine WL.ex rfl (ex_move (v := .pointer (some ⟨b, 0, none⟩)) rfl) ?_
    refine WL.ex rfl (ex_move (v := .pointer (some ⟨b, 0, none⟩)) rfl) ?_
    refine WL.ex rfl (ex_to_unsafe rfl Tryd.underlying82 Tryd.underlying105 2 rfl sizeBd rfl hB) ?_
    refine WL.ex rfl (ex_extern1 (v := .pointer (some ⟨b, 0, none⟩)) (v' := .pointer (some ⟨b, 0, none⟩)) rfl Tryd.func63 (by kernel_rfl) (by kernel_rfl) (by kernel_rfl) (ee := Extern.AbiNoEscape.same) (by kernel_rfl) rfl) ?_
    refine WL.ex rfl (ex_from_unsafe rfl Tryd.underlying105 Tryd.underlying82 (by kernel_rfl) hB (by kernel_rfl)) ?_
    refine WL.ex rfl (ex_nilCheck rfl) ?_
    refine WL.ex rfl (ex_fieldAddr (k := 0) rfl Tryd.underlying84 rfl (by kernel_rfl)) ?_
    refine WL.op rfl ?_
    refine OW.store [.pointer (some ⟨b, 0, none⟩), v] rfl (vs := [.pointer (some ⟨b, 0, none⟩)]) rfl (by kernel_rfl) hB (Nat.le_of_ble_eq_true rfl) (by intro u hu; simp at hu; subst hu; rfl) rfl ?_
    intro w1 s1 h1
    refine WL.nil ?_
    exact ⟨_, .nil, rfl, s1.kept, h1.heap⟩
  · refine WL.ex rfl (ex_bin (a := .pointer (some ⟨b, 0, none⟩)) (b := .pointer none) (v := .bool false) rfl rfl (bin_eql_ptrSN Tryd.underlying82)) ?_
    refine WL.nil ?_
    refine WC.cond_f rfl ?_
    refine WC.seq ?_
    refine WC.region ?_
    refine WL.ex rfl (ex_move (v := .pointer (some ⟨b, 0, none⟩)) rfl) ?_
    refine WL.ex rfl (ex_nilCheck rfl) ?_
    refine WL.ex rfl (ex_fieldAddr (k := 0) rfl Tryd.underlying84 rfl (by kernel_rfl)) ?_
    refine WL.ex rfl (ex_load1 (v := .pointer (some ⟨b, 0, none⟩)) rfl Tryd.underlying82 rfl (hB.cell rfl)) ?_
    refine WL.ex rfl (ex_move (v := .pointer (some ⟨b, 0, none⟩)) rfl) ?_
    refine WL.ex rfl (ex_bin (a := .pointer (some ⟨b, 0, none⟩)) (b := .pointer (some ⟨b, 0, none⟩)) (v := .bool false) rfl rfl (bin_neq_ptrSame Tryd.underlying82 (by kernel_rfl))) ?_
    refine WL.nil ?_
    refine WC.cond_f rfl ?_
    refine WC.skip ?_
    exact ⟨_, .nil, rfl, (Step.refl _ _ _).kept, hb⟩


/-! ### (*strings.Builder).WriteByte -/
theorem Builder_WriteByte.calls (o0 : Tags) (w0 : World) (b : Nat) (a0 : List UInt8) (a1 : UInt8) (r : List UInt8) (hO : ∀ b, b < w0.heap.size → o0 b < 10) (hB0 : Bd 84 5 2 o0 w0 b a0) (H : Builder_WriteByte.f a0 a1 = some r) :
    Calls Tryd.prog 47 [.pointer (some ⟨b, 0, none⟩), enc8 a1].toArray w0 fun e_ w_ => ∃ (o_ : Tags), e_ = .returned (one [.nilIface]) ∧ Step o0 w0 o_ w_ [2] ∧ Bd 84 5 2 o_ w_ b r := by
  unfold Builder_WriteByte.f at H
  obtain ⟨u, hu, H⟩ := bindE H
  obtain rfl := Option.some.inj H
  obtain ⟨p, v, hB0', hp, hO1⟩ := hB0
  have hb := hB0'.heap
  have hn := hO1.notin hb rfl
  have h0 : o0 b ≠ 0 := by rw [hB0'.tag]; decide
  have hO2 : Own Rep.u8 5 2 (apart1 o0 b) w0 v a0 := hO1.apart hn h0
  refine SX.calls [.pointer (some ⟨b, 0, none⟩), enc8 a1] Tryd.func47 rfl rfl ?_
  rw [Tryd.ntmps47]
  refine WC.seq ?_
  refine WC.region ?_
  refine WL.ex rfl (ex_assign (v := .nilIface) rfl) ?_
  refine WL.nil ?_
  refine WC.seq ?_
  refine WC.region ?_
  refine WL.ex rfl (ex_move (v := .pointer (some ⟨b, 0, none⟩)) rfl) ?_
  refine WL.op rfl ?_
  refine OW.call [.pointer (some ⟨b, 0, none⟩)] rfl Tryd.func55 (by kernel_rfl) (by kernel_rfl) rfl (Bd_copyCheck w0 b p v hb hp) ?_
  rintro _ w1 ⟨rfl, k1, hb1⟩
  refine ⟨_, rfl, ?_⟩
  have s1 : Step (apart1 o0 b) w0 (apart1 o0 b) w1 [11, 2] := Step.trans (k1.step (apart1_same o0 b)) (Step.refl _ _ []) rfl rfl
  replace hO2 := hO2.kept k1 hn (by rw [apart1_same]; decide)
  have hB : Bk (apart1 o0 b) w1 11 b [.pointer (some ⟨b, 0, none⟩), v] 84 := ⟨apart1_same o0 b, hb1⟩
  refine WL.nil ?_
  refine WC.seq ?_
  refine WC.region ?_
  refine WL.ex rfl (ex_move (v := .pointer (some ⟨b, 0, none⟩)) rfl) ?_
  refine WL.ex rfl (ex_move (v := .pointer (some ⟨b, 0, none⟩)) rfl) ?_
  refine WL.ex rfl (ex_nilCheck rfl) ?_
  refine WL.ex rfl (ex_fieldAddr (k := 0) rfl Tryd.underlying84 rfl (by kernel_rfl)) ?_
  refine WL.ex rfl (ex_load1 (v := v) rfl Tryd.underlying24 rfl (hB.cell rfl)) ?_
  refine WL.ex rfl (ex_move (v := enc8 a1) rfl) ?_
  refine WL.op rfl ?_
  refine OW.row (r := Rep.u8) (xs := [a1]) [(0, enc8 a1)] [[enc8 a1]] 12 (Fm.here2 (apart1 o0 b) w1) rfl Tryd.underlying24 (by kernel_rfl) (by kernel_rfl : (Tryd.prog.info? 5).map (·.zero) = some (some (.int .u8 0))) rfl rfl rfl rfl ⟨rfl, trivial⟩ rfl rfl rfl rfl ?_
  intro o2 w2 v2 s2 hO4
  replace hO2 := hO2.step s2 rfl rfl
  replace hB := hB.step s2 rfl
  replace s1 := Step.trans s1 s2 (M := [11, 2]) rfl rfl
  obtain ⟨A4, c4, q4, _, hr4⟩ := hO4.row
  refine WL.op rfl ?_
  refine OW.append (r := Rep.u8) (E := 5) (i := 2) rfl Tryd.underlying24 info5 rfl (by decide) (by decide) (by decide) rfl q4 hO2 hr4 rfl (of_decide_eq_true (chk_true hu)) ?_
  intro o3 w3 v3 s3 hO2
  replace hB := hB.step s3 rfl
  replace s1 := Step.trans s1 s3 (M := [11, 2]) rfl rfl
  refine WL.ex rfl (ex_nilCheck rfl) ?_
  refine WL.ex rfl (ex_fieldAddr (k := 0) rfl Tryd.underlying84 rfl (by kernel_rfl)) ?_
  refine WL.op rfl ?_
  refine OW.store [.pointer (some ⟨b, 0, none⟩), v3] rfl (vs := [v3]) (by obtain ⟨A_, c_, e_⟩ := hO2.slice; show v3.cells = _; rw [e_]; rfl) (by kernel_rfl) hB (Nat.le_of_ble_eq_true rfl) (by intro u hu; simp at hu; subst hu; obtain ⟨A_, c_, e_⟩ := hO2.slice; rw [e_]; rfl) rfl ?_
  intro w4 s4 hB4
  replace hO2 := hO2.step s4 rfl rfl
  replace s1 := Step.trans s1 s4 (M := [11, 2]) rfl rfl
  refine WL.nil ?_
  refine WC.seq ?_
  refine WC.region ?_
  refine WL.ex rfl (ex_assign (v := .nilIface) rfl) ?_
  refine WL.nil ?_
  refine WC.ret ?_
  exact ⟨_, .tmp (.nilIface) rfl .nil, _, rfl, apart_step hO hB0'.tag s1 rfl, _, _, Bk.renTo hB4, .inr rfl, hO2.ren rfl rfl⟩


/-! ### (*strings.Builder).String -/
theorem unsafe_string (i : Nat) (o : Tags) (w : World) (A : Option Addr) (xs : List UInt8) (c : Nat) (p : Option Addr) (hO : Own Rep.u8 5 i o w (.slice A xs.length c) xs) (hp : xs ≠ [] → p = A) (hl : xs.length ≤ 9223372036854775807) :
    ∃ w', (Builtin.unsafeString_ #[99, 3] 9 #[.pointer p, .int .i64 xs.length]).run Tryd.prog w = .ok (encS xs) w' ∧ Step o w o w' [i] := by
  by_cases h0 : xs = []
  · subst h0
    exact ⟨w, by have := Lib.run_unsafeString_none (P := Tryd.prog) w 99 3 9 p; rw [List.length_nil]; rw [show ((0 : Nat) : Int) = 0 from rfl, this]; rfl, Step.refl _ _ _⟩
  · obtain rfl := hp h0
    obtain ⟨cells, hown, ht, hm⟩ := hO
    rcases hown.2 with ⟨_, hz⟩ | ⟨g, cap, cur, hv, _, hg, hn, hcm, hcs, htake⟩
    · exact absurd (List.eq_nil_of_length_eq_zero hz) h0
    · injection hv with e1 _ e3
      subst e1
      have hcz : cur.size = cap := by rw [hcs]; exact Nat.mul_one cap
      refine ⟨w.freeze ⟨g, 0, none⟩ xs.length, ?_, step_freeze (ht g rfl)⟩
      refine Lib.run_unsafeString_row (P := Tryd.prog) w 99 3 9 5 Tryd.underlying99 (by kernel_rfl) g cur.size (by simp [World.shape?, hg]) xs h0 (by omega) hl ?_
      intro j x hx
      have hcell := World.ownsRow.cells hown (g := g) rfl j (enc8 x)
      have hcs' : cells = xs.map enc8 := many_scalar hm
      rw [hcs'] at hcell
      exact hcell (by simp [hx])
theorem Builder_String.calls (o0 : Tags) (w0 : World) (b : Nat) (a0 : List UInt8) (r : List UInt8) (hO : ∀ b, b < w0.heap.size → o0 b < 10) (hB0 : Bd 84 5 2 o0 w0 b a0) (H : Builder_String.f a0 = some r) :
    Calls Tryd.prog 48 [.pointer (some ⟨b, 0, none⟩)].toArray w0 fun e_ w_ => ∃ (o_ : Tags), e_ = .returned (one [encS r]) ∧ Step o0 w0 o_ w_ [2] := by
  unfold Builder_String.f at H
  obtain ⟨u, hu, H⟩ := bindE H
  obtain rfl := Option.some.inj H
  have hl : a0.length ≤ 9223372036854775807 := of_decide_eq_true (chk_true hu)
  obtain ⟨p, v, hB0', hp, hO1⟩ := hB0
  have hb := hB0'.heap
  have hn := hO1.notin hb rfl
  have h0 : o0 b ≠ 0 := by rw [hB0'.tag]; decide
  have hO2 : Own Rep.u8 5 2 (apart1 o0 b) w0 v a0 := hO1.apart hn h0
  have HF := Fm.here2 (apart1 o0 b) w0
  have hB : Bk (apart1 o0 b) w0 11 b [p, v] 84 := ⟨apart1_same o0 b, hb⟩
  refine SX.calls [.pointer (some ⟨b, 0, none⟩)] Tryd.func48 rfl rfl ?_
  rw [Tryd.ntmps48]
  refine WC.seq ?_
  refine WC.region ?_
  refine WL.ex rfl (ex_assign (v := encS []) rfl) ?_
  refine WL.nil ?_
  refine WC.seq ?_
  refine WC.regionD' HF [2] 12 (by kernel_rfl) rfl ?_
  intro w1 s1
  replace hO2 := hO2.step s1 rfl rfl
  replace hB := hB.step s1 rfl
  replace HF := HF.step s1 rfl
  have hBD := hB
  have sR := HF.here [2]
  obtain ⟨A, c, e, hlc, hr⟩ := hO2.row
  subst e
  refine WA.ex 0 rfl (by kernel_rfl) (by kernel_rfl) (by kernel_rfl) rfl ⟨_, sR⟩ (fun w_ hS_ => ex_move (v := .pointer (some ⟨b, 0, none⟩)) rfl) ?_
  refine WA.ex 1 rfl (by kernel_rfl) (by kernel_rfl) (by kernel_rfl) rfl ⟨_, sR⟩ (fun w_ hS_ => ex_nilCheck rfl) ?_
  refine WA.ex 2 rfl (by kernel_rfl) (by kernel_rfl) (by kernel_rfl) rfl ⟨_, sR⟩ (fun w_ hS_ => ex_fieldAddr (k := 0) rfl Tryd.underlying84 rfl (by kernel_rfl)) ?_
  refine WA.ex 3 rfl (by kernel_rfl) (by kernel_rfl) (by kernel_rfl) rfl ⟨_, sR⟩ (fun w_ hS_ => ex_load1 (v := .slice A a0.length c) rfl Tryd.underlying24 rfl ((hBD.step hS_.choose_spec rfl).cell rfl)) ?_
  refine WA.ex 5 rfl (by kernel_rfl) (by kernel_rfl) (by kernel_rfl) rfl ⟨_, sR⟩ (fun w_ hS_ => ex_move (v := .pointer (some ⟨b, 0, none⟩)) rfl) ?_
  refine WA.ex 6 rfl (by kernel_rfl) (by kernel_rfl) (by kernel_rfl) rfl ⟨_, sR⟩ (fun w_ hS_ => ex_nilCheck rfl) ?_
  refine WA.ex 7 rfl (by kernel_rfl) (by kernel_rfl) (by kernel_rfl) rfl ⟨_, sR⟩ (fun w_ hS_ => ex_fieldAddr (k := 0) rfl Tryd.underlying84 rfl (by kernel_rfl)) ?_
  refine WA.ex 8 rfl (by kernel_rfl) (by kernel_rfl) (by kernel_rfl) rfl ⟨_, sR⟩ (fun w_ hS_ => ex_load1 (v := .slice A a0.length c) rfl Tryd.underlying24 rfl ((hBD.step hS_.choose_spec rfl).cell rfl)) ?_
  refine WA.ex 9 rfl (by kernel_rfl) (by kernel_rfl) (by kernel_rfl) rfl ⟨_, sR⟩ (fun w_ hS_ => ex_len_slice (A := A) (m := a0.length) (c := c) rfl Tryd.underlying24) ?_
  have hdata : ∃ q w2 o2, (Builtin.unsafeSliceData_ #[24] 99 #[.slice A a0.length c]).run Tryd.prog w1 = .ok (.pointer q) w2 ∧ Step (apart1 o0 b) w1 o2 w2 [] ∧ (a0 ≠ [] → q = A) := by
    cases A with
    | none => exact ⟨none, w1, _, Lib.run_unsafeSliceData_nil w1 _ _ _ _, Step.refl _ _ _, fun _ => rfl⟩
    | some ad =>
      by_cases hc : c = 0
      · subst hc
        obtain ⟨cells, hown, ht, hm⟩ := hO2
        rcases hown.2 with ⟨hz, _⟩ | ⟨g, cap, cur, hv, _, hg, _⟩
        · cases hz
        · injection hv with e1 _ e3
          injection e1 with e1
          subst e1
          exact ⟨_, _, _, Lib.run_unsafeSliceData_zero (P := Tryd.prog) w1 #[24] 99 5 Tryd.underlying99 ⟨g, 0, none⟩ a0.length (5, cur.size) (by simp [World.shape?, hg]), step_alloc (apart1 o0 b) w1 1 _ [], fun h => absurd (List.eq_nil_of_length_eq_zero (by omega)) h⟩
      · exact ⟨some ad, w1, _, Lib.run_unsafeSliceData_row w1 _ _ ad _ _ hc, Step.refl _ _ _, fun _ => rfl⟩
  obtain ⟨q, w2, o2, hr2, s2, hq⟩ := hdata
  refine WA.one 4 (by kernel_rfl) rfl rfl ?_
  refine OW.val (v := .pointer q) (w' := w2) rfl (run_usd (v := .slice A a0.length c) rfl hr2) ?_
  replace sR := Step.trans sR s2 (M := [2]) rfl rfl
  replace hO2 := hO2.step s2 rfl rfl
  refine ⟨⟨_, sR⟩, ?_⟩
  obtain ⟨w3, hr3, s3⟩ := unsafe_string 2 o2 w2 A a0 c q hO2 hq hl
  refine WA.one 10 (by kernel_rfl) rfl rfl ?_
  refine OW.val (v := encS a0) (w' := w3) rfl (run_us (v := .pointer q) (u := .int .i64 (a0.length : Int)) rfl rfl hr3) ?_
  replace sR := Step.trans sR s3 (M := [2]) rfl rfl
  refine ⟨⟨_, sR⟩, ?_⟩
  refine WA.one 11 (by kernel_rfl) rfl rfl ?_
  refine OW.ex rfl (ex_assign (v := encS a0) rfl) ?_
  refine ⟨⟨_, sR⟩, ?_⟩
  refine WA.done (by kernel_rfl) ?_
  refine WC.ret ?_
  exact ⟨_, .tmp (encS a0) rfl .nil, _, rfl, apart_step hO hB0'.tag (Step.trans s1 sR (M := [11, 2]) rfl rfl) rfl⟩

/-! ### octet_Hex -/
set_option maxRecDepth 100000 in
theorem octet_Hex.calls (k : Nat) (o0 : Tags) (w0 : World) (pA0 : Option Addr) (pc0 : Nat) (a0 : (List UInt8)) (r : (List UInt8)) (hO : ∀ b, b < w0.heap.size → o0 b < 10) (hra0 : Row Rep.u8 (fun b_ => o0 b_ = 0) (fun b_ => o0 b_ = 0) w0 pA0 a0) (hla0 : a0.length ≤ pc0) (H : octet_Hex.f k a0 = some r) :
    Calls Tryd.prog 31 [.slice pA0 a0.length pc0].toArray w0 fun e_ w_ => ∃ (o_ : Tags), e_ = .returned (one [encS r]) ∧ Step o0 w0 o_ w_ [] := by
  have HF := Fm.refl hO []
  unfold octet_Hex.f at H
  refine SX.calls [.slice pA0 a0.length pc0] Tryd.func31 rfl rfl ?_
  rw [Tryd.ntmps31]
  refine WC.seq ?_
  refine WC.region ?_
  refine WL.ex rfl (ex_assign (v := encS ([] : List UInt8)) rfl) ?_
  refine WL.nil ?_
  refine WC.seq ?_
  refine WC.region ?_
  refine WL.op rfl ?_
  refine OW.allocBd (E := 5) 10 HF rfl (by kernel_rfl) ?_
  intro o102 w103 b101 s104 hB105
  replace hra0 := hra0.step s104 rfl
  replace HF := HF.step s104 rfl
  refine WL.nil ?_
  refine WC.seq ?_
  refine WC.seq ?_
  refine WC.region ?_
  refine WL.ex rfl (ex_move (v := .slice pA0 a0.length pc0) rfl) ?_
  refine WL.ex rfl (ex_len_slice (A := pA0) (m := a0.length) (c := pc0) rfl Tryd.underlying24) ?_
  refine WL.ex rfl (ex_move (v := .int .i64 0) rfl) ?_
  refine WL.nil ?_
  obtain ⟨z109, hz109, H⟩ := bindE H
  refine WC.for (fun k_ ρ_ w_ => ∃ (o_ : Tags) (x106 : Int) (x107 : (List UInt8)), Fm o0 w0 o_ w_ [] ∧ Row Rep.u8 (fun b_ => o_ b_ = 0) (fun b_ => o_ b_ = 0) w_ pA0 a0 ∧ Bd 84 5 10 o_ w_ b101 x107 ∧ ρ_ 2 = encS ([] : List UInt8) ∧ ρ_ 3 = .pointer (some ⟨b101, 0, none⟩) ∧ ρ_ 6 = .slice pA0 a0.length pc0 ∧ ρ_ 7 = .int .i64 (a0.length : Int) ∧ ρ_ 8 = .int .i64 x106 ∧ octet_Hex.l1 k a0 k_ x106 x107 = some z109) k (fun ρ_ w_ => ∃ (o_ : Tags), Fm o0 w0 o_ w_ [] ∧ Bd 84 5 10 o_ w_ b101 z109 ∧ ρ_ 2 = encS ([] : List UInt8) ∧ ρ_ 3 = .pointer (some ⟨b101, 0, none⟩)) ⟨_, 0, ([] : List UInt8), HF, hra0, hB105, rfl, rfl, rfl, rfl, rfl, hz109⟩ ?case110 ?_
  case case110 =>
    rintro ρ138 w136 ⟨o137, HF, hB105, s2_107, s3_107⟩
    refine WC.seq ?_
    refine WC.region ?_
    obtain ⟨z139, hz139, H⟩ := bindE H
    refine WL.op rfl ?_
    refine OW.call [.pointer (some ⟨b101, 0, none⟩)] rfl Tryd.func48 (by kernel_rfl) (by kernel_rfl) (map_cons' s3_107 rfl) (Builder_String.calls _ _ b101 z109 z139 (HF.ten (V := [0]) (L := [10]) rfl) (Bd.vw (V := [0]) (L := [10]) hB105 rfl rfl) hz139) ?_
    rintro _ w140 ⟨o141, rfl, s142⟩
    refine ⟨_, rfl, ?_⟩
    replace s142 := un_stepL (J := []) (L' := [10]) s142 rfl rfl
    replace HF := HF.step s142 rfl
    refine WL.ex rfl (ex_assign (v := encS z139) rfl) ?_
    refine WL.nil ?_
    refine WC.ret ?_
    obtain rfl := Option.some.inj H
    exact ⟨_, (.tmp (encS z139 : Value) rfl .nil), _, rfl, HF.out⟩
  have Ho111 := H
  rintro k112 ρ113 w114 ⟨o115, x106, x107, HF, hra0, hB105, s2_105, s3_105, s6_105, s7_105, s8_106, H⟩
  cases k112 with
  | zero => cases H
  | succ k112 =>
  rw [octet_Hex.l1.eq_2] at H
  refine WC.seq ?_
  refine WC.region ?_
  refine WL.ex rfl (ex_bin (a := .int .i64 x106) (b := .int .i64 (a0.length : Int)) (v := .bool (decide (x106 < (a0.length : Int)))) s8_106 s7_105 bin_lss) ?_
  refine WL.nil ?_
  refine WC.seq ?_
  rcases condE H with ⟨c116, H⟩ | ⟨c116, H⟩
  ·
    refine WC.cond_t ((show _ = Value.bool (decide (x106 < (a0.length : Int))) from rfl).trans (congrArg Value.bool c116)) ?_
    refine WC.skip ?_
    refine WC.seq ?_
    refine WC.block ?_
    refine WC.seq ?_
    refine WC.region ?_
    obtain ⟨x117, hx117, H⟩ := bindE H
    obtain ⟨ad118, e119, g120, g121, cell122⟩ := Row.ixS hra0 hx117
    refine WL.ex rfl (ex_indexAddr (i := x106) s6_105 e119 s8_106 Tryd.underlying24 sz5 g120 g121) ?_
    refine WL.ex rfl (ex_load1 (v := enc8 x117) rfl Tryd.underlying5 rfl cell122) ?_
    refine WL.ex rfl (ex_assign (v := enc8 x117) rfl) ?_
    refine WL.nil ?_
    refine WC.seq ?_
    refine WC.region ?_
    refine WL.ex rfl (ex_move (v := enc8 x117) rfl) ?_
    refine WL.ex rfl (ex_bin (a := enc8 x117) (b := enc64 (4 : UInt64)) (v := enc8 (shr8 x117 4)) rfl rfl (bin_shr_u8n (n := 4))) ?_
    obtain ⟨x124, hx124, H⟩ := bindE H
    refine WL.ex rfl (ex_index_str (i := ((shr8 x117 4).toNat : Int)) rfl rfl Tryd.underlying9 (ix_some hx124).1 (ix_some hx124).2.2) ?_
    obtain ⟨z125, hz125, H⟩ := bindE H
    refine WL.op rfl ?_
    refine OW.call [.pointer (some ⟨b101, 0, none⟩), enc8 x124] rfl Tryd.func47 (by kernel_rfl) (by kernel_rfl) (map_cons' s3_105 (map_cons' rfl rfl)) (Builder_WriteByte.calls _ _ b101 x107 x124 z125 (HF.ten (V := [0]) (L := [10]) rfl) (Bd.vw (V := [0]) (L := [10]) hB105 rfl rfl) hz125) ?_
    rintro _ w126 ⟨o127, rfl, s128, hB129⟩
    refine ⟨_, rfl, ?_⟩
    replace hB129 := Bd.unO (J := []) 0 hB129 s128 rfl rfl rfl
    replace s128 := un_stepL (J := []) (L' := [10]) s128 rfl rfl
    replace hra0 := hra0.step s128 rfl
    replace HF := HF.step s128 rfl
    refine WL.nil ?_
    refine WC.region ?_
    refine WL.ex rfl (ex_move (v := enc8 x117) rfl) ?_
    refine WL.ex rfl (ex_bin (a := enc8 x117) (b := enc8 (15 : UInt8)) (v := enc8 (x117 &&& (15 : UInt8))) rfl rfl bin_and_u8) ?_
    obtain ⟨x130, hx130, H⟩ := bindE H
    refine WL.ex rfl (ex_index_str (i := ((x117 &&& (15 : UInt8)).toNat : Int)) rfl rfl Tryd.underlying9 (ix_some hx130).1 (ix_some hx130).2.2) ?_
    obtain ⟨z131, hz131, H⟩ := bindE H
    refine WL.op rfl ?_
    refine OW.call [.pointer (some ⟨b101, 0, none⟩), enc8 x130] rfl Tryd.func47 (by kernel_rfl) (by kernel_rfl) (map_cons' s3_105 (map_cons' rfl rfl)) (Builder_WriteByte.calls _ _ b101 z125 x130 z131 (HF.ten (V := [0]) (L := [10]) rfl) (Bd.vw (V := [0]) (L := [10]) hB129 rfl rfl) hz131) ?_
    rintro _ w132 ⟨o133, rfl, s134, hB135⟩
    refine ⟨_, rfl, ?_⟩
    replace hB135 := Bd.unO (J := []) 0 hB135 s134 rfl rfl rfl
    replace s134 := un_stepL (J := []) (L' := [10]) s134 rfl rfl
    replace hra0 := hra0.step s134 rfl
    replace HF := HF.step s134 rfl
    refine WL.nil ?_
    refine WC.region ?_
    refine WL.ex rfl (ex_bin (a := .int .i64 x106) (b := .int .i64 1) (v := .int .i64 (wrap64 (x106 + 1))) s8_106 rfl bin_add64) ?_
    refine WL.ex rfl (ex_move (v := .int .i64 (wrap64 (x106 + 1))) rfl) ?_
    refine WL.nil ?_
    exact ⟨k112, Nat.lt_succ_self _, ⟨_, wrap64 (x106 + 1), z131, HF, hra0, hB135, s2_105, s3_105, s6_105, s7_105, rfl, H⟩⟩
  ·
    refine WC.cond_f ((show _ = Value.bool (decide (x106 < (a0.length : Int))) from rfl).trans (congrArg Value.bool c116)) ?_
    refine WC.exit ?_
    obtain rfl := Option.some.inj H
    exact ⟨_, HF, hB105, s2_105, s3_105⟩


/-! ### strings.IndexByte -/
theorem strings_IndexByte.calls (o0 : Tags) (w0 : World) (a0 : List UInt8) (a1 : UInt8) (r : Int) (hO : ∀ b, b < w0.heap.size → o0 b < 10) (H : strings_IndexByte.f a0 a1 = some r) :
    Calls Tryd.prog 56 [encS a0, enc8 a1].toArray w0 fun e_ w_ => ∃ (o_ : Tags), e_ = .returned (one [.int .i64 r]) ∧ Step o0 w0 o_ w_ [] := by
  obtain rfl := Option.some.inj H
  refine Calls.mono (Tryd.strings_IndexByte ⟨a0.toArray⟩ (a1.toNat : Int) w0) ?_
  rintro e w ⟨rfl, rfl⟩
  exact ⟨o0, by simp [one], Step.refl _ _ _⟩


/-! ### utf8.ValidRune -/
theorem utf8_ValidRune.calls (o0 : Tags) (w0 : World) (a0 : Int) (r : Bool) (hO : ∀ b, b < w0.heap.size → o0 b < 10) (H : utf8_ValidRune.f a0 = some r) :
    Calls Tryd.prog 57 [.int .i32 a0].toArray w0 fun e_ w_ => ∃ (o_ : Tags), e_ = .returned (one [.bool r]) ∧ Step o0 w0 o_ w_ [] := by
  obtain rfl := Option.some.inj H
  refine Calls.mono (Tryd.utf8_ValidRune a0 w0) ?_
  rintro e w ⟨rfl, rfl⟩
  exact ⟨o0, rfl, Step.refl _ _ _⟩

/-! ### strings_IndexRune -/
set_option maxRecDepth 100000 in
theorem strings_IndexRune.calls (k : Nat) (o0 : Tags) (w0 : World) (a0 : List UInt8) (a1 : Int) (r : Int) (hO : ∀ b, b < w0.heap.size → o0 b < 10) (H : strings_IndexRune.f k a0 a1 = some r) :
    Calls Tryd.prog 49 [encS a0, .int .i32 a1].toArray w0 fun e_ w_ => ∃ (o_ : Tags), e_ = .returned (one [.int .i64 r]) ∧ Step o0 w0 o_ w_ [] := by
  have HF := Fm.refl hO []
  unfold strings_IndexRune.f at H
  refine SX.calls [encS a0, .int .i32 a1] Tryd.func49 rfl rfl ?_
  rw [Tryd.ntmps49]
  refine WC.seq ?_
  refine WC.region ?_
  refine WL.ex rfl (ex_assign (v := .int .i64 0) rfl) ?_
  refine WL.nil ?_
  refine WC.block ?_
  obtain ⟨z102, hz102, H⟩ := bindE H
  refine WC.cut (fun ρ_ w_ => ∃ (o_ : Tags), Fm o0 w0 o_ w_ [] ∧ ρ_ 0 = encS a0 ∧ ρ_ 1 = .int .i32 a1 ∧ ρ_ 4 = .int .i64 0 ∧ ρ_ 160 = .bool z102) ?case103 ?_
  case case103 =>
    rintro ρ106 w104 ⟨o105, HF, s0_100, s1_100, s4_100, s160_101⟩
    rcases condE H with ⟨c107, H⟩ | ⟨c107, H⟩
    ·
      refine WC.cond_t ((show _ = Value.bool z102 from s160_101).trans (congrArg Value.bool c107)) ?_
      refine WC.seq ?_
      refine WC.region ?_
      refine WL.ex rfl (ex_move (v := encS a0) s0_100) ?_
      refine WL.ex rfl (ex_move (v := .int .i32 a1) s1_100) ?_
      refine WL.ex rfl (ex_conv_u8 (k := .i32) (a := a1) rfl Tryd.underlying21 Tryd.underlying5) ?_
      obtain ⟨z108, hz108, H⟩ := bindE H
      refine WL.op rfl ?_
      refine OW.call [encS a0, enc8 (ofI8 a1)] rfl Tryd.func56 (by kernel_rfl) (by kernel_rfl) (map_cons' rfl (map_cons' rfl rfl)) (strings_IndexByte.calls _ _ a0 (ofI8 a1) z108 (HF.ten (V := [0]) (L := []) rfl)  hz108) ?_
      rintro _ w109 ⟨o110, rfl, s111⟩
      refine ⟨_, rfl, ?_⟩
      replace s111 := un_stepL (J := []) (L' := []) s111 rfl rfl
      replace HF := HF.step s111 rfl
      refine WL.ex rfl (ex_assign (v := .int .i64 z108) rfl) ?_
      refine WL.nil ?_
      refine WC.ret ?_
      obtain rfl := Option.some.inj H
      exact ⟨_, (.tmp (.int .i64 z108 : Value) rfl .nil), _, rfl, HF.out⟩
    ·
      refine WC.cond_f ((show _ = Value.bool z102 from s160_101).trans (congrArg Value.bool c107)) ?_
      refine WC.seq ?_
      refine WC.region ?_
      refine WL.ex rfl (ex_move (v := .int .i32 a1) s1_100) ?_
      refine WL.ex rfl (ex_bin (a := .int .i32 a1) (b := .int .i32 65533) (v := .bool (a1 == 65533)) rfl rfl bin_eql) ?_
      refine WL.ex rfl (ex_assign (v := .bool (a1 == 65533)) rfl) ?_
      refine WL.nil ?_
      rcases condE H with ⟨c112, H⟩ | ⟨c112, H⟩
      ·
        refine WC.cond_t ((show _ = Value.bool (a1 == 65533) from rfl).trans (congrArg Value.bool c112)) ?_
        refine WC.seq ?_
        refine WC.seq ?_
        refine WC.region ?_
        refine WL.ex rfl (ex_move (v := encS a0) s0_100) ?_
        refine WL.op rfl ?_
        refine OW.rangeStr (s := a0) 10 HF rfl Tryd.underlying9 rfl ?_
        intro o114 w115 b113 s116 hI117
        replace HF := HF.step s116 rfl
        refine WL.nil ?_
        obtain ⟨z119, hz119, H⟩ := bindE H
        refine WC.for (fun k_ ρ_ w_ => ∃ (o_ : Tags) (x118 : Nat), Fm o0 w0 o_ w_ [] ∧ It 10 o_ w_ b113 a0 x118 ∧ ρ_ 4 = .int .i64 0 ∧ ρ_ 175 = .pointer (some ⟨b113, 0, none⟩) ∧ strings_IndexRune.l1 k a0 k_ x118 = some z119) k (fun ρ_ w_ => ∃ (o_ : Tags), Fm o0 w0 o_ w_ [] ∧ ρ_ 4 = .int .i64 0 ∧ z119 = .inr ()) ⟨_, 0, HF, hI117, s4_100, rfl, hz119⟩ ?case120 ?_
        case case120 =>
          rintro ρ133 w131 ⟨o132, HF, s4_118, rfl⟩
          dsimp only at H
          refine WC.seq ?_
          refine WC.region ?_
          refine WL.ex rfl (ex_assign (v := .int .i64 (-1)) rfl) ?_
          refine WL.nil ?_
          refine WC.ret ?_
          obtain rfl := Option.some.inj H
          exact ⟨_, (.tmp (.int .i64 (-1) : Value) rfl .nil), _, rfl, HF.out⟩
        have Ho121 := H
        rintro k122 ρ123 w124 ⟨o125, x118, HF, hI117, s4_117, s175_117, H⟩
        cases k122 with
        | zero => cases H
        | succ k122 =>
        rw [strings_IndexRune.l1.eq_2] at H
        refine WC.seq ?_
        refine WC.region ?_
        rcases condE H with ⟨c126, H⟩ | ⟨c126, H⟩
        ·
          refine WL.op rfl (OW.nextYes (q := x118) rfl s175_117 hI117 c126 ?_)
          intro w127 s128 hI129
          replace HF := HF.step s128 rfl
          refine WL.ex rfl (ex_extract (vs := #[.bool true, .int .i64 (x118 : Int), .int .i32 (runeAt a0 x118)]) (v := .bool true) rfl rfl) ?_
          refine WL.nil ?_
          refine WC.seq ?_
          refine WC.cond_t rfl ?_
          refine WC.skip ?_
          refine WC.block ?_
          refine WC.seq ?_
          refine WC.region ?_
          refine WL.ex rfl (ex_extract (vs := #[.bool true, .int .i64 (x118 : Int), .int .i32 (runeAt a0 x118)]) (v := .int .i64 (x118 : Int)) rfl rfl) ?_
          refine WL.ex rfl (ex_extract (vs := #[.bool true, .int .i64 (x118 : Int), .int .i32 (runeAt a0 x118)]) (v := .int .i32 (runeAt a0 x118)) rfl rfl) ?_
          refine WL.ex rfl (ex_assign (v := .int .i64 (x118 : Int)) rfl) ?_
          refine WL.ex rfl (ex_assign (v := .int .i32 (runeAt a0 x118)) rfl) ?_
          refine WL.nil ?_
          refine WC.seq ?_
          refine WC.region ?_
          refine WL.ex rfl (ex_move (v := .int .i32 (runeAt a0 x118)) rfl) ?_
          refine WL.ex rfl (ex_bin (a := .int .i32 (runeAt a0 x118)) (b := .int .i32 65533) (v := .bool ((runeAt a0 x118) == 65533)) rfl rfl bin_eql) ?_
          refine WL.nil ?_
          rcases condE H with ⟨c130, H⟩ | ⟨c130, H⟩
          ·
            refine WC.cond_t ((show _ = Value.bool ((runeAt a0 x118) == 65533) from rfl).trans (congrArg Value.bool c130)) ?_
            refine WC.seq ?_
            refine WC.region ?_
            refine WL.ex rfl (ex_move (v := .int .i64 (x118 : Int)) rfl) ?_
            refine WL.ex rfl (ex_assign (v := .int .i64 (x118 : Int)) rfl) ?_
            refine WL.nil ?_
            refine WC.ret ?_
            obtain rfl := Option.some.inj H
            replace H := Ho121
            dsimp only at H
            obtain rfl := Option.some.inj H
            exact ⟨_, (.tmp (.int .i64 (x118 : Int) : Value) rfl .nil), _, rfl, HF.out⟩
          ·
            refine WC.cond_f ((show _ = Value.bool ((runeAt a0 x118) == 65533) from rfl).trans (congrArg Value.bool c130)) ?_
            refine WC.skip ?_
            exact ⟨k122, Nat.lt_succ_self _, ⟨_, (x118 + wideAt a0 x118), HF, hI129, s4_117, s175_117, H⟩⟩
        ·
          refine WL.op rfl (OW.nextNo (q := x118) rfl s175_117 hI117 c126 ?_)
          refine WL.ex rfl (ex_extract (vs := #[.bool false]) (v := .bool false) rfl rfl) ?_
          refine WL.nil ?_
          refine WC.seq ?_
          refine WC.cond_f rfl ?_
          refine WC.exit ?_
          obtain rfl := Option.some.inj H
          exact ⟨_, HF, s4_117, rfl⟩
      ·
        refine WC.cond_f ((show _ = Value.bool (a1 == 65533) from rfl).trans (congrArg Value.bool c112)) ?_
        refine WC.seq ?_
        refine WC.region ?_
        refine WL.ex rfl (ex_move (v := .int .i32 a1) s1_100) ?_
        obtain ⟨z134, hz134, H⟩ := bindE H
        refine WL.op rfl ?_
        refine OW.call [.int .i32 a1] rfl Tryd.func57 (by kernel_rfl) (by kernel_rfl) (map_cons' rfl rfl) (utf8_ValidRune.calls _ _ a1 z134 (HF.ten (V := [0]) (L := []) rfl)  hz134) ?_
        rintro _ w135 ⟨o136, rfl, s137⟩
        refine ⟨_, rfl, ?_⟩
        replace s137 := un_stepL (J := []) (L' := []) s137 rfl rfl
        replace HF := HF.step s137 rfl
        refine WL.ex rfl (ex_not (b := z134) rfl) ?_
        refine WL.ex rfl (ex_assign (v := .bool (!z134)) rfl) ?_
        refine WL.nil ?_
        rcases condE H with ⟨c138, H⟩ | ⟨c138, H⟩
        ·
          refine WC.cond_t ((show _ = Value.bool (!z134) from rfl).trans (congrArg Value.bool c138)) ?_
          refine WC.seq ?_
          refine WC.region ?_
          refine WL.ex rfl (ex_assign (v := .int .i64 (-1)) rfl) ?_
          refine WL.nil ?_
          refine WC.ret ?_
          obtain rfl := Option.some.inj H
          exact ⟨_, (.tmp (.int .i64 (-1) : Value) rfl .nil), _, rfl, HF.out⟩
        ·
          refine WC.cond_f ((show _ = Value.bool (!z134) from rfl).trans (congrArg Value.bool c138)) ?_
          refine WC.scope ?_
          refine WC.seq ?_
          refine WC.region ?_
          refine WL.ex rfl (ex_move (v := .int .i32 a1) s1_100) ?_
          refine WL.ex rfl (ex_rune_str (a := a1) rfl Tryd.underlying21 Tryd.underlying9) ?_
          refine WL.ex rfl (ex_assign (v := encS (runeStr a1)) rfl) ?_
          refine WL.nil ?_
          refine WC.seq ?_
          refine WC.region ?_
          refine WL.ex rfl (ex_move (v := encS (runeStr a1)) rfl) ?_
          refine WL.ex rfl (ex_len_str (s := (runeStr a1)) rfl Tryd.underlying9) ?_
          refine WL.ex rfl (ex_bin (a := .int .i64 ((runeStr a1).length : Int)) (b := .int .i64 1) (v := .int .i64 (wrap64 (((runeStr a1).length : Int) - 1))) rfl rfl bin_sub64) ?_
          refine WL.ex rfl (ex_assign (v := .int .i64 (wrap64 (((runeStr a1).length : Int) - 1))) rfl) ?_
          refine WL.nil ?_
          refine WC.seq ?_
          refine WC.region ?_
          refine WL.ex rfl (ex_move (v := .int .i64 (wrap64 (((runeStr a1).length : Int) - 1))) rfl) ?_
          refine WL.ex rfl (ex_assign (v := .int .i64 (wrap64 (((runeStr a1).length : Int) - 1))) rfl) ?_
          refine WL.nil ?_
          refine WC.seq ?_
          refine WC.region ?_
          refine WL.ex rfl (ex_assign (v := .int .i64 0) rfl) ?_
          refine WL.nil ?_
          refine WC.seq ?_
          obtain ⟨z139, hz139, H⟩ := bindE H
          refine WC.for (fun k_ ρ_ w_ => ∃ (o_ : Tags), Fm o0 w0 o_ w_ [] ∧ ρ_ 0 = encS a0 ∧ ρ_ 1 = .int .i32 a1 ∧ ρ_ 4 = .int .i64 0 ∧ ρ_ 7 = encS (runeStr a1) ∧ ρ_ 8 = .int .i64 (wrap64 (((runeStr a1).length : Int) - 1)) ∧ ρ_ 9 = .int .i64 (wrap64 (((runeStr a1).length : Int) - 1)) ∧ ρ_ 10 = .int .i64 0 ∧ strings_IndexRune.l2 k a0 a1 k_ = some z139) k (fun ρ_ w_ => ∃ (o_ : Tags), Fm o0 w0 o_ w_ [] ∧ ρ_ 0 = encS a0 ∧ ρ_ 1 = .int .i32 a1 ∧ ρ_ 4 = .int .i64 0 ∧ ρ_ 7 = encS (runeStr a1) ∧ ρ_ 8 = .int .i64 (wrap64 (((runeStr a1).length : Int) - 1)) ∧ ρ_ 9 = .int .i64 (wrap64 (((runeStr a1).length : Int) - 1)) ∧ z139 = .inr ()) ⟨_, HF, s0_100, s1_100, s4_100, rfl, rfl, rfl, rfl, hz139⟩ ?case140 ?_
          case case140 =>
            rintro ρ187 w185 ⟨o186, HF, s0_138, s1_138, s4_138, s7_138, s8_138, s9_138, rfl⟩
            dsimp only at H
            refine WC.seq ?_
            refine WC.seq ?_
            refine WC.region ?_
            refine WL.ex rfl (ex_assign (v := .int .i64 (-1)) rfl) ?_
            refine WL.nil ?_
            refine WC.ret ?_
            refine ⟨fun l_ h_ => (by cases h_), ?_⟩
            obtain rfl := Option.some.inj H
            exact ⟨_, (.tmp (.int .i64 (-1) : Value) rfl .nil), _, rfl, HF.out⟩
          have Ho141 := H
          rintro k142 ρ143 w144 ⟨o145, HF, s0_138, s1_138, s4_138, s7_138, s8_138, s9_138, s10_138, H⟩
          cases k142 with
          | zero => cases H
          | succ k142 =>
          rw [strings_IndexRune.l2.eq_2] at H
          refine WC.seq ?_
          refine WC.seq ?_
          refine WC.region ?_
          refine WL.ex rfl (ex_move (v := .int .i64 (wrap64 (((runeStr a1).length : Int) - 1))) s9_138) ?_
          refine WL.ex rfl (ex_move (v := encS a0) s0_138) ?_
          refine WL.ex rfl (ex_len_str (s := a0) rfl Tryd.underlying9) ?_
          refine WL.ex rfl (ex_bin (a := .int .i64 (wrap64 (((runeStr a1).length : Int) - 1))) (b := .int .i64 (a0.length : Int)) (v := .bool (decide ((wrap64 (((runeStr a1).length : Int) - 1)) < (a0.length : Int)))) rfl rfl bin_lss) ?_
          refine WL.nil ?_
          rcases condE H with ⟨c146, H⟩ | ⟨c146, H⟩
          ·
            refine WC.cond_t ((show _ = Value.bool (decide ((wrap64 (((runeStr a1).length : Int) - 1)) < (a0.length : Int))) from rfl).trans (congrArg Value.bool c146)) ?_
            refine WC.skip ?_
            refine WC.block ?_
            refine WC.scope ?_
            obtain ⟨z148, hz148, H⟩ := bindE H
            refine WC.cut (fun ρ_ w_ => ∃ (o_ : Tags) (x147 : Int), Fm o0 w0 o_ w_ [] ∧ ρ_ 0 = encS a0 ∧ ρ_ 1 = .int .i32 a1 ∧ ρ_ 4 = .int .i64 0 ∧ ρ_ 7 = encS (runeStr a1) ∧ ρ_ 8 = .int .i64 (wrap64 (((runeStr a1).length : Int) - 1)) ∧ ρ_ 9 = .int .i64 x147 ∧ ρ_ 10 = .int .i64 0 ∧ z148 = .inr x147) ?case149 ?_
            case case149 =>
              rintro ρ152 w150 ⟨o151, x147, HF, s0_146, s1_146, s4_146, s7_146, s8_146, s9_147, s10_147, rfl⟩
              replace H : _ = some _ := H
              dsimp only at H
              refine WC.seq ?_
              refine WC.seq ?_
              refine WC.region ?_
              refine WL.ex rfl (ex_assign (v := .int .i64 1) rfl) ?_
              refine WL.nil ?_
              obtain ⟨z154, hz154, H⟩ := bindE H
              refine WC.for (fun k_ ρ_ w_ => ∃ (o_ : Tags) (x153 : Int), Fm o0 w0 o_ w_ [] ∧ ρ_ 0 = encS a0 ∧ ρ_ 1 = .int .i32 a1 ∧ ρ_ 4 = .int .i64 0 ∧ ρ_ 7 = encS (runeStr a1) ∧ ρ_ 8 = .int .i64 (wrap64 (((runeStr a1).length : Int) - 1)) ∧ ρ_ 9 = .int .i64 x147 ∧ ρ_ 10 = .int .i64 0 ∧ ρ_ 12 = .int .i64 x153 ∧ strings_IndexRune.l3 k a0 a1 x147 k_ x153 = some z154) k (fun ρ_ w_ => ∃ (o_ : Tags), Fm o0 w0 o_ w_ [] ∧ ρ_ 0 = encS a0 ∧ ρ_ 1 = .int .i32 a1 ∧ ρ_ 4 = .int .i64 0 ∧ ρ_ 7 = encS (runeStr a1) ∧ ρ_ 8 = .int .i64 (wrap64 (((runeStr a1).length : Int) - 1)) ∧ ρ_ 9 = .int .i64 x147 ∧ ρ_ 10 = .int .i64 0) ⟨_, 1, HF, s0_146, s1_146, s4_146, s7_146, s8_146, s9_147, s10_147, rfl, hz154⟩ ?case155 ?_
              case case155 =>
                rintro ρ169 w167 ⟨o168, HF, s0_153, s1_153, s4_153, s7_153, s8_153, s9_153, s10_153⟩
                refine WC.seq ?_
                refine WC.seq ?_
                refine WC.region ?_
                refine WL.ex rfl (ex_move (v := .int .i64 x147) s9_153) ?_
                refine WL.ex rfl (ex_move (v := .int .i64 (wrap64 (((runeStr a1).length : Int) - 1))) s8_153) ?_
                refine WL.ex rfl (ex_bin (a := .int .i64 x147) (b := .int .i64 (wrap64 (((runeStr a1).length : Int) - 1))) (v := .int .i64 (wrap64 (x147 - (wrap64 (((runeStr a1).length : Int) - 1))))) rfl rfl bin_sub64) ?_
                refine WL.ex rfl (ex_assign (v := .int .i64 (wrap64 (x147 - (wrap64 (((runeStr a1).length : Int) - 1))))) rfl) ?_
                refine WL.nil ?_
                refine WC.ret ?_
                refine ⟨fun l_ h_ => (by cases h_), ?_⟩
                refine ⟨fun l_ h_ => (by cases h_), ?_⟩
                obtain rfl := Option.some.inj H
                replace H := Ho141
                dsimp only at H
                obtain rfl := Option.some.inj H
                exact ⟨_, (.tmp (.int .i64 (wrap64 (x147 - (wrap64 (((runeStr a1).length : Int) - 1)))) : Value) rfl .nil), _, rfl, HF.out⟩
              have Ho156 := H
              rintro k157 ρ158 w159 ⟨o160, x153, HF, s0_152, s1_152, s4_152, s7_152, s8_152, s9_152, s10_152, s12_153, H⟩
              cases k157 with
              | zero => cases H
              | succ k157 =>
              rw [strings_IndexRune.l3.eq_2] at H
              refine WC.seq ?_
              refine WC.seq ?_
              refine WC.region ?_
              refine WL.ex rfl (ex_move (v := .int .i64 x153) s12_153) ?_
              refine WL.ex rfl (ex_move (v := encS (runeStr a1)) s7_152) ?_
              refine WL.ex rfl (ex_len_str (s := (runeStr a1)) rfl Tryd.underlying9) ?_
              refine WL.ex rfl (ex_bin (a := .int .i64 x153) (b := .int .i64 ((runeStr a1).length : Int)) (v := .bool (decide (x153 < ((runeStr a1).length : Int)))) rfl rfl bin_lss) ?_
              refine WL.nil ?_
              rcases condE H with ⟨c161, H⟩ | ⟨c161, H⟩
              ·
                refine WC.cond_t ((show _ = Value.bool (decide (x153 < ((runeStr a1).length : Int))) from rfl).trans (congrArg Value.bool c161)) ?_
                refine WC.skip ?_
                refine WC.seq ?_
                refine WC.block ?_
                refine WC.seq ?_
                refine WC.regionD' HF [] 11 (by kernel_rfl) rfl ?_
                intro w162 s163
                replace HF := HF.step s163 rfl
                have sR := HF.here []
                refine WA.norm (listed' := #[false, false, false, false, false, false, false, false, false, false, false]) (by kernel_rfl) ?_
                refine WA.ex 0 rfl (by kernel_rfl) (by kernel_rfl) (by kernel_rfl) rfl ⟨_, sR⟩ (fun w_ hS_ => ex_move (v := encS a0) s0_152) ?_
                refine WA.norm (listed' := #[true, false, false, false, false, false, false, false, false, false, false]) (by kernel_rfl) ?_
                refine WA.ex 1 rfl (by kernel_rfl) (by kernel_rfl) (by kernel_rfl) rfl ⟨_, sR⟩ (fun w_ hS_ => ex_move (v := .int .i64 x147) s9_152) ?_
                refine WA.norm (listed' := #[true, true, false, false, false, false, false, false, false, false, false]) (by kernel_rfl) ?_
                refine WA.ex 2 rfl (by kernel_rfl) (by kernel_rfl) (by kernel_rfl) rfl ⟨_, sR⟩ (fun w_ hS_ => ex_move (v := .int .i64 x153) s12_153) ?_
                refine WA.norm (listed' := #[true, true, true, false, false, false, false, false, false, false, false]) (by kernel_rfl) ?_
                refine WA.ex 3 rfl (by kernel_rfl) (by kernel_rfl) (by kernel_rfl) rfl ⟨_, sR⟩ (fun w_ hS_ => ex_bin (a := .int .i64 x147) (b := .int .i64 x153) (v := .int .i64 (wrap64 (x147 - x153))) rfl rfl bin_sub64) ?_
                refine WA.norm (listed' := #[true, true, true, true, false, false, false, false, false, false, false]) (by kernel_rfl) ?_
                obtain ⟨x164, hx164, H⟩ := bindE H
                refine WA.ex 4 rfl (by kernel_rfl) (by kernel_rfl) (by kernel_rfl) rfl ⟨_, sR⟩ (fun w_ hS_ => ex_index_str (i := (wrap64 (x147 - x153))) rfl rfl Tryd.underlying9 (ix_some hx164).1 (ix_some hx164).2.2) ?_
                refine WA.norm (listed' := #[true, true, true, true, true, false, false, false, false, false, false]) (by kernel_rfl) ?_
                refine WA.ex 5 rfl (by kernel_rfl) (by kernel_rfl) (by kernel_rfl) rfl ⟨_, sR⟩ (fun w_ hS_ => ex_move (v := encS (runeStr a1)) s7_152) ?_
                refine WA.norm (listed' := #[true, true, true, true, true, true, false, false, false, false, false]) (by kernel_rfl) ?_
                refine WA.ex 6 rfl (by kernel_rfl) (by kernel_rfl) (by kernel_rfl) rfl ⟨_, sR⟩ (fun w_ hS_ => ex_move (v := .int .i64 (wrap64 (((runeStr a1).length : Int) - 1))) s8_152) ?_
                refine WA.norm (listed' := #[true, true, true, true, true, true, true, false, false, false, false]) (by kernel_rfl) ?_
                refine WA.ex 7 rfl (by kernel_rfl) (by kernel_rfl) (by kernel_rfl) rfl ⟨_, sR⟩ (fun w_ hS_ => ex_move (v := .int .i64 x153) s12_153) ?_
                refine WA.norm (listed' := #[true, true, true, true, true, true, true, true, false, false, false]) (by kernel_rfl) ?_
                refine WA.ex 8 rfl (by kernel_rfl) (by kernel_rfl) (by kernel_rfl) rfl ⟨_, sR⟩ (fun w_ hS_ => ex_bin (a := .int .i64 (wrap64 (((runeStr a1).length : Int) - 1))) (b := .int .i64 x153) (v := .int .i64 (wrap64 ((wrap64 (((runeStr a1).length : Int) - 1)) - x153))) rfl rfl bin_sub64) ?_
                refine WA.norm (listed' := #[true, true, true, true, true, true, true, true, true, false, false]) (by kernel_rfl) ?_
                obtain ⟨x165, hx165, H⟩ := bindE H
                refine WA.ex 9 rfl (by kernel_rfl) (by kernel_rfl) (by kernel_rfl) rfl ⟨_, sR⟩ (fun w_ hS_ => ex_index_str (i := (wrap64 ((wrap64 (((runeStr a1).length : Int) - 1)) - x153))) rfl rfl Tryd.underlying9 (ix_some hx165).1 (ix_some hx165).2.2) ?_
                refine WA.norm (listed' := #[true, true, true, true, true, true, true, true, true, true, false]) (by kernel_rfl) ?_
                refine WA.ex 10 rfl (by kernel_rfl) (by kernel_rfl) (by kernel_rfl) rfl ⟨_, sR⟩ (fun w_ hS_ => ex_bin (a := enc8 x164) (b := enc8 x165) (v := .bool (!(x164 == x165))) rfl rfl bin_neq_u8) ?_
                refine WA.norm (listed' := #[true, true, true, true, true, true, true, true, true, true, true]) (by kernel_rfl) ?_
                refine WA.done (by kernel_rfl) ?_
                rcases condE H with ⟨c166, H⟩ | ⟨c166, H⟩
                ·
                  refine WC.cond_t ((show _ = Value.bool (!(x164 == x165)) from rfl).trans (congrArg Value.bool c166)) ?_
                  cases H
                ·
                  refine WC.cond_f ((show _ = Value.bool (!(x164 == x165)) from rfl).trans (congrArg Value.bool c166)) ?_
                  refine WC.skip ?_
                  refine WC.region ?_
                  refine WL.ex rfl (ex_move (v := .int .i64 x153) s12_153) ?_
                  refine WL.ex rfl (ex_bin (a := .int .i64 x153) (b := .int .i64 1) (v := .int .i64 (wrap64 (x153 + 1))) rfl rfl bin_add64) ?_
                  refine WL.ex rfl (ex_assign (v := .int .i64 (wrap64 (x153 + 1))) rfl) ?_
                  refine WL.nil ?_
                  exact ⟨k157, Nat.lt_succ_self _, ⟨_, wrap64 (x153 + 1), HF, s0_152, s1_152, s4_152, s7_152, s8_152, s9_152, s10_152, rfl, H⟩⟩
              ·
                refine WC.cond_f ((show _ = Value.bool (decide (x153 < ((runeStr a1).length : Int))) from rfl).trans (congrArg Value.bool c161)) ?_
                refine WC.exit ?_
                exact ⟨_, HF, s0_152, s1_152, s4_152, s7_152, s8_152, s9_152, s10_152⟩
            have Ho170 := H
            replace H := hz148
            refine WC.seq ?_
            refine WC.regionD' HF [] 7 (by kernel_rfl) rfl ?_
            intro w171 s172
            replace HF := HF.step s172 rfl
            have sR := HF.here []
            refine WA.norm (listed' := #[false, false, false, false, false, false, false]) (by kernel_rfl) ?_
            refine WA.ex 0 rfl (by kernel_rfl) (by kernel_rfl) (by kernel_rfl) rfl ⟨_, sR⟩ (fun w_ hS_ => ex_move (v := encS a0) s0_138) ?_
            refine WA.norm (listed' := #[true, false, false, false, false, false, false]) (by kernel_rfl) ?_
            refine WA.ex 1 rfl (by kernel_rfl) (by kernel_rfl) (by kernel_rfl) rfl ⟨_, sR⟩ (fun w_ hS_ => ex_move (v := .int .i64 (wrap64 (((runeStr a1).length : Int) - 1))) s9_138) ?_
            refine WA.norm (listed' := #[true, true, false, false, false, false, false]) (by kernel_rfl) ?_
            obtain ⟨x173, hx173, H⟩ := bindE H
            refine WA.ex 2 rfl (by kernel_rfl) (by kernel_rfl) (by kernel_rfl) rfl ⟨_, sR⟩ (fun w_ hS_ => ex_index_str (i := (wrap64 (((runeStr a1).length : Int) - 1))) rfl rfl Tryd.underlying9 (ix_some hx173).1 (ix_some hx173).2.2) ?_
            refine WA.norm (listed' := #[true, true, true, false, false, false, false]) (by kernel_rfl) ?_
            refine WA.ex 3 rfl (by kernel_rfl) (by kernel_rfl) (by kernel_rfl) rfl ⟨_, sR⟩ (fun w_ hS_ => ex_move (v := encS (runeStr a1)) s7_138) ?_
            refine WA.norm (listed' := #[true, true, true, true, false, false, false]) (by kernel_rfl) ?_
            refine WA.ex 4 rfl (by kernel_rfl) (by kernel_rfl) (by kernel_rfl) rfl ⟨_, sR⟩ (fun w_ hS_ => ex_move (v := .int .i64 (wrap64 (((runeStr a1).length : Int) - 1))) s8_138) ?_
            refine WA.norm (listed' := #[true, true, true, true, true, false, false]) (by kernel_rfl) ?_
            obtain ⟨x174, hx174, H⟩ := bindE H
            refine WA.ex 5 rfl (by kernel_rfl) (by kernel_rfl) (by kernel_rfl) rfl ⟨_, sR⟩ (fun w_ hS_ => ex_index_str (i := (wrap64 (((runeStr a1).length : Int) - 1))) rfl rfl Tryd.underlying9 (ix_some hx174).1 (ix_some hx174).2.2) ?_
            refine WA.norm (listed' := #[true, true, true, true, true, true, false]) (by kernel_rfl) ?_
            refine WA.ex 6 rfl (by kernel_rfl) (by kernel_rfl) (by kernel_rfl) rfl ⟨_, sR⟩ (fun w_ hS_ => ex_bin (a := enc8 x173) (b := enc8 x174) (v := .bool (!(x173 == x174))) rfl rfl bin_neq_u8) ?_
            refine WA.norm (listed' := #[true, true, true, true, true, true, true]) (by kernel_rfl) ?_
            refine WA.done (by kernel_rfl) ?_
            rcases condE H with ⟨c175, H⟩ | ⟨c175, H⟩
            ·
              refine WC.cond_t ((show _ = Value.bool (!(x173 == x174)) from rfl).trans (congrArg Value.bool c175)) ?_
              refine WC.seq ?_
              refine WC.regionD' HF [] 9 (by kernel_rfl) rfl ?_
              intro w176 s177
              replace HF := HF.step s177 rfl
              have sR := HF.here []
              refine WA.norm (listed' := #[false, false, false, false, false, false, false, false, false]) (by kernel_rfl) ?_
              refine WA.ex 0 rfl (by kernel_rfl) (by kernel_rfl) (by kernel_rfl) rfl ⟨_, sR⟩ (fun w_ hS_ => ex_move (v := encS a0) s0_138) ?_
              refine WA.norm (listed' := #[true, false, false, false, false, false, false, false, false]) (by kernel_rfl) ?_
              refine WA.ex 1 rfl (by kernel_rfl) (by kernel_rfl) (by kernel_rfl) rfl ⟨_, sR⟩ (fun w_ hS_ => ex_move (v := .int .i64 (wrap64 (((runeStr a1).length : Int) - 1))) s9_138) ?_
              refine WA.norm (listed' := #[true, true, false, false, false, false, false, false, false]) (by kernel_rfl) ?_
              refine WA.ex 2 rfl (by kernel_rfl) (by kernel_rfl) (by kernel_rfl) rfl ⟨_, sR⟩ (fun w_ hS_ => ex_bin (a := .int .i64 (wrap64 (((runeStr a1).length : Int) - 1))) (b := .int .i64 1) (v := .int .i64 (wrap64 ((wrap64 (((runeStr a1).length : Int) - 1)) + 1))) rfl rfl bin_add64) ?_
              refine WA.norm (listed' := #[true, true, true, false, false, false, false, false, false]) (by kernel_rfl) ?_
              obtain ⟨y178, hy178, H⟩ := bindE H
              refine WA.ex 3 rfl (by kernel_rfl) (by kernel_rfl) (by kernel_rfl) rfl ⟨_, sR⟩ (fun w_ hS_ => ex_slice_str (l := (wrap64 ((wrap64 (((runeStr a1).length : Int) - 1)) + 1))) (h := (a0.length : Int)) rfl Tryd.underlying9 ⟨_, rfl⟩ rfl hy178) ?_
              refine WA.norm (listed' := #[true, true, true, true, false, false, false, false, false]) (by kernel_rfl) ?_
              refine WA.ex 4 rfl (by kernel_rfl) (by kernel_rfl) (by kernel_rfl) rfl ⟨_, sR⟩ (fun w_ hS_ => ex_move (v := encS (runeStr a1)) s7_138) ?_
              refine WA.norm (listed' := #[true, true, true, true, true, false, false, false, false]) (by kernel_rfl) ?_
              refine WA.ex 5 rfl (by kernel_rfl) (by kernel_rfl) (by kernel_rfl) rfl ⟨_, sR⟩ (fun w_ hS_ => ex_move (v := .int .i64 (wrap64 (((runeStr a1).length : Int) - 1))) s8_138) ?_
              refine WA.norm (listed' := #[true, true, true, true, true, true, false, false, false]) (by kernel_rfl) ?_
              obtain ⟨x179, hx179, H⟩ := bindE H
              refine WA.ex 6 rfl (by kernel_rfl) (by kernel_rfl) (by kernel_rfl) rfl ⟨_, sR⟩ (fun w_ hS_ => ex_index_str (i := (wrap64 (((runeStr a1).length : Int) - 1))) rfl rfl Tryd.underlying9 (ix_some hx179).1 (ix_some hx179).2.2) ?_
              refine WA.norm (listed' := #[true, true, true, true, true, true, true, false, false]) (by kernel_rfl) ?_
              obtain ⟨z180, hz180, H⟩ := bindE H
              refine WA.one 7 (by kernel_rfl) rfl rfl ?_
              refine OW.call [encS y178, enc8 x179] rfl Tryd.func56 (by kernel_rfl) (by kernel_rfl) (map_cons' rfl (map_cons' rfl rfl)) (strings_IndexByte.calls _ _ y178 x179 z180 (HF.ten (V := [0]) (L := []) rfl)  hz180) ?_
              rintro _ w181 ⟨o182, rfl, s183⟩
              refine ⟨_, rfl, ?_⟩
              replace s183 := un_stepL (J := []) (L' := []) s183 rfl rfl
              replace HF := HF.step s183 rfl
              replace sR := Step.trans sR s183 (M := []) rfl rfl
              refine ⟨⟨_, sR⟩, ?_⟩
              refine WA.norm (listed' := #[true, true, true, true, true, true, true, true, false]) (by kernel_rfl) ?_
              refine WA.ex 8 rfl (by kernel_rfl) (by kernel_rfl) (by kernel_rfl) rfl ⟨_, sR⟩ (fun w_ hS_ => ex_assign (v := .int .i64 z180) rfl) ?_
              refine WA.norm (listed' := #[true, true, true, true, true, true, true, true, true]) (by kernel_rfl) ?_
              refine WA.done (by kernel_rfl) ?_
              refine WC.seq ?_
              refine WC.seq ?_
              refine WC.region ?_
              refine WL.ex rfl (ex_move (v := .int .i64 z180) rfl) ?_
              refine WL.ex rfl (ex_bin (a := .int .i64 z180) (b := .int .i64 0) (v := .bool (decide (z180 < 0))) rfl rfl bin_lss) ?_
              refine WL.nil ?_
              rcases condE H with ⟨c184, H⟩ | ⟨c184, H⟩
              ·
                refine WC.cond_t ((show _ = Value.bool (decide (z180 < 0)) from rfl).trans (congrArg Value.bool c184)) ?_
                refine WC.seq ?_
                refine WC.region ?_
                refine WL.ex rfl (ex_assign (v := .int .i64 (-1)) rfl) ?_
                refine WL.nil ?_
                refine WC.ret ?_
                refine ⟨fun l_ h_ => (by cases h_), ?_⟩
                refine ⟨fun l_ h_ => (by cases h_), ?_⟩
                obtain rfl := Option.some.inj H
                replace H := Ho170
                dsimp only at H
                obtain rfl := Option.some.inj H
                replace H := Ho141
                dsimp only at H
                obtain rfl := Option.some.inj H
                exact ⟨_, (.tmp (.int .i64 (-1) : Value) rfl .nil), _, rfl, HF.out⟩
              ·
                refine WC.cond_f ((show _ = Value.bool (decide (z180 < 0)) from rfl).trans (congrArg Value.bool c184)) ?_
                refine WC.skip ?_
                refine WC.region ?_
                refine WL.ex rfl (ex_move (v := .int .i64 (wrap64 (((runeStr a1).length : Int) - 1))) s9_138) ?_
                refine WL.ex rfl (ex_move (v := .int .i64 z180) rfl) ?_
                refine WL.ex rfl (ex_bin (a := .int .i64 z180) (b := .int .i64 1) (v := .int .i64 (wrap64 (z180 + 1))) rfl rfl bin_add64) ?_
                refine WL.ex rfl (ex_bin (a := .int .i64 (wrap64 (((runeStr a1).length : Int) - 1))) (b := .int .i64 (wrap64 (z180 + 1))) (v := .int .i64 (wrap64 ((wrap64 (((runeStr a1).length : Int) - 1)) + (wrap64 (z180 + 1))))) rfl rfl bin_add64) ?_
                refine WL.ex rfl (ex_assign (v := .int .i64 (wrap64 ((wrap64 (((runeStr a1).length : Int) - 1)) + (wrap64 (z180 + 1))))) rfl) ?_
                refine WL.nil ?_
                obtain rfl := Option.some.inj H
                exact ⟨_, wrap64 ((wrap64 (((runeStr a1).length : Int) - 1)) + (wrap64 (z180 + 1))), HF, s0_138, s1_138, s4_138, s7_138, s8_138, rfl, s10_138, rfl⟩
            ·
              refine WC.cond_f ((show _ = Value.bool (!(x173 == x174)) from rfl).trans (congrArg Value.bool c175)) ?_
              refine WC.skip ?_
              obtain rfl := Option.some.inj H
              exact ⟨_, wrap64 (((runeStr a1).length : Int) - 1), HF, s0_138, s1_138, s4_138, s7_138, s8_138, s9_138, s10_138, rfl⟩
          ·
            refine WC.cond_f ((show _ = Value.bool (decide ((wrap64 (((runeStr a1).length : Int) - 1)) < (a0.length : Int))) from rfl).trans (congrArg Value.bool c146)) ?_
            refine WC.exit ?_
            obtain rfl := Option.some.inj H
            exact ⟨_, HF, s0_138, s1_138, s4_138, s7_138, s8_138, s9_138, rfl⟩
  have Ho188 := H
  replace H := hz102
  refine WC.region ?_
  refine WL.ex rfl (ex_move (v := .int .i32 a1) rfl) ?_
  refine WL.ex rfl (ex_bin (a := .int .i32 0) (b := .int .i32 a1) (v := .bool (decide (0 ≤ a1))) rfl rfl bin_leq) ?_
  refine WL.ex rfl (ex_move (v := .bool (decide (0 ≤ a1))) rfl) ?_
  rcases condE H with ⟨c189, H⟩ | ⟨c189, H⟩
  ·
    refine WL.guardYes rfl rfl rfl ((show _ = Value.bool (decide (0 ≤ a1)) from rfl).trans (congrArg Value.bool c189)) ?_
    refine OW.ex rfl (ex_move (v := .int .i32 a1) rfl) ?_
    refine WL.guardYes rfl rfl rfl ((show _ = Value.bool (decide (0 ≤ a1)) from rfl).trans (congrArg Value.bool c189)) ?_
    refine OW.ex rfl (ex_bin (a := .int .i32 a1) (b := .int .i32 128) (v := .bool (decide (a1 < 128))) rfl rfl bin_lss) ?_
    refine WL.ex rfl (ex_pick_t (v := .bool (decide (a1 < 128))) ((show _ = Value.bool (decide (0 ≤ a1)) from rfl).trans (congrArg Value.bool c189)) rfl) ?_
    refine WL.ex rfl (ex_assign (v := .bool (decide (a1 < 128))) rfl) ?_
    refine WL.nil ?_
    obtain rfl := Option.some.inj H
    exact ⟨_, HF, rfl, rfl, rfl, rfl⟩
  ·
    refine WL.guardNo rfl rfl rfl ((show _ = Value.bool (decide (0 ≤ a1)) from rfl).trans (congrArg Value.bool c189)) ?_
    refine WL.guardNo rfl rfl rfl ((show _ = Value.bool (decide (0 ≤ a1)) from rfl).trans (congrArg Value.bool c189)) ?_
    refine WL.ex rfl (ex_pick_f (v := .bool false) ((show _ = Value.bool (decide (0 ≤ a1)) from rfl).trans (congrArg Value.bool c189)) rfl) ?_
    refine WL.ex rfl (ex_assign (v := .bool false) rfl) ?_
    refine WL.nil ?_
    obtain rfl := Option.some.inj H
    exact ⟨_, HF, rfl, rfl, rfl, rfl⟩

/-! ### octet_Unhex -/
set_option maxRecDepth 100000 in
theorem octet_Unhex.calls (k : Nat) (o0 : Tags) (w0 : World) (a0 : List UInt8) (r : (List UInt8) × Int) (hO : ∀ b, b < w0.heap.size → o0 b < 10) (H : octet_Unhex.f k a0 = some r) :
    Calls Tryd.prog 32 [encS a0].toArray w0 fun e_ w_ => ∃ (o_ : Tags) (rv0 : Value), e_ = .returned (one [rv0, .int .i64 r.2]) ∧ Step o0 w0 o_ w_ [] ∧ Own Rep.u8 5 9 o_ w_ rv0 r.1 := by
  have HF := Fm.refl hO []
  unfold octet_Unhex.f at H
  refine SX.calls [encS a0] Tryd.func32 rfl rfl ?_
  rw [Tryd.ntmps32]
  refine WC.seq ?_
  refine WC.region ?_
  refine WL.ex rfl (ex_assign (v := .slice none ([] : List UInt8).length 0) rfl) ?_
  refine WL.ex rfl (ex_assign (v := .int .i64 0) rfl) ?_
  refine WL.nil ?_
  refine WC.seq ?_
  refine WC.seq ?_
  refine WC.region ?_
  refine WL.ex rfl (ex_move (v := encS a0) rfl) ?_
  refine WL.ex rfl (ex_len_str (s := a0) rfl Tryd.underlying9) ?_
  refine WL.ex rfl (ex_bin (a := .int .i64 (a0.length : Int)) (b := .int .i64 2) (v := .int .i64 ((a0.length : Int).tmod 2)) rfl rfl (bin_rem64 (by decide))) ?_
  refine WL.ex rfl (ex_bin (a := .int .i64 ((a0.length : Int).tmod 2)) (b := .int .i64 1) (v := .bool (((a0.length : Int).tmod 2) == 1)) rfl rfl bin_eql) ?_
  refine WL.nil ?_
  rcases condE H with ⟨c101, H⟩ | ⟨c101, H⟩
  ·
    refine WC.cond_t ((show _ = Value.bool (((a0.length : Int).tmod 2) == 1) from rfl).trans (congrArg Value.bool c101)) ?_
    refine WC.seq ?_
    refine WC.region ?_
    refine WL.ex rfl (ex_assign (v := .slice none ([] : List UInt8).length 0) rfl) ?_
    refine WL.ex rfl (ex_assign (v := .int .i64 2) rfl) ?_
    refine WL.nil ?_
    refine WC.ret ?_
    obtain rfl := Option.some.inj H
    exact ⟨_, (.tmp (.slice none ([] : List UInt8).length 0 : Value) rfl (.tmp (.int .i64 2 : Value) rfl .nil)), _, (.slice none 0 0), rfl, HF.out, Own.nil⟩
  ·
    refine WC.cond_f ((show _ = Value.bool (((a0.length : Int).tmod 2) == 1) from rfl).trans (congrArg Value.bool c101)) ?_
    refine WC.skip ?_
    refine WC.seq ?_
    refine WC.region ?_
    refine WL.ex rfl (ex_assign (v := .slice none ([] : List UInt8).length 0) rfl) ?_
    refine WL.nil ?_
    refine WC.seq ?_
    refine WC.seq ?_
    refine WC.region ?_
    refine WL.ex rfl (ex_move (v := encS a0) rfl) ?_
    refine WL.op rfl ?_
    refine OW.rangeStr (s := a0) 10 HF rfl Tryd.underlying9 rfl ?_
    intro o103 w104 b102 s105 hI106
    replace HF := HF.step s105 rfl
    refine WL.nil ?_
    obtain ⟨z114, hz114, H⟩ := bindE H
    refine WC.for (fun k_ ρ_ w_ => ∃ (o_ : Tags) (x109 : (List UInt8)) (x110 : Nat) (v107 : Value), Fm o0 w0 o_ w_ [] ∧ Own Rep.u8 5 12 o_ w_ v107 x109 ∧ It 10 o_ w_ b102 a0 x110 ∧ ρ_ 2 = .slice none ([] : List UInt8).length 0 ∧ ρ_ 3 = .int .i64 0 ∧ ρ_ 4 = v107 ∧ ρ_ 13 = .pointer (some ⟨b102, 0, none⟩) ∧ octet_Unhex.l1 k a0 k_ x109 x110 = some z114) k (fun ρ_ w_ => ∃ (o_ : Tags) (x113 : (List UInt8)) (v111 : Value), Fm o0 w0 o_ w_ [] ∧ Own Rep.u8 5 12 o_ w_ v111 x113 ∧ ρ_ 2 = .slice none ([] : List UInt8).length 0 ∧ ρ_ 3 = .int .i64 0 ∧ ρ_ 4 = v111 ∧ z114 = .inr x113) ⟨_, ([] : List UInt8), 0, _, HF, Own.nil, hI106, rfl, rfl, rfl, rfl, hz114⟩ ?case115 ?_
    case case115 =>
      rintro ρ173 w171 ⟨o172, x113, v111, HF, hO112, s2_110, s3_110, s4_113, rfl⟩
      dsimp only at H
      refine WC.seq ?_
      refine WC.region ?_
      refine WL.ex rfl (ex_move (v := v111) s4_113) ?_
      refine WL.ex rfl (ex_assign (v := v111) rfl) ?_
      refine WL.ex rfl (ex_assign (v := .int .i64 0) rfl) ?_
      refine WL.nil ?_
      refine WC.ret ?_
      obtain rfl := Option.some.inj H
      replace hO112 := Own.renTo (j := 9) hO112 rfl
      replace HF := HF.ren (i := 12) (j := 9) rfl
      exact ⟨_, (.tmp (v111 : Value) rfl (.tmp (.int .i64 0 : Value) rfl .nil)), _, v111, rfl, HF.out, hO112⟩
    have Ho116 := H
    rintro k117 ρ118 w119 ⟨o120, x109, x110, v107, HF, hO108, hI106, s2_106, s3_106, s4_109, s13_109, H⟩
    cases k117 with
    | zero => cases H
    | succ k117 =>
    rw [octet_Unhex.l1.eq_2] at H
    refine WC.seq ?_
    refine WC.region ?_
    rcases condE H with ⟨c121, H⟩ | ⟨c121, H⟩
    ·
      refine WL.op rfl (OW.nextYes (q := x110) rfl s13_109 hI106 c121 ?_)
      intro w122 s123 hI124
      replace hO108 := hO108.step s123 rfl rfl
      replace HF := HF.step s123 rfl
      refine WL.ex rfl (ex_extract (vs := #[.bool true, .int .i64 (x110 : Int), .int .i32 (runeAt a0 x110)]) (v := .bool true) rfl rfl) ?_
      refine WL.nil ?_
      refine WC.seq ?_
      refine WC.cond_t rfl ?_
      refine WC.skip ?_
      refine WC.block ?_
      refine WC.seq ?_
      refine WC.region ?_
      refine WL.ex rfl (ex_extract (vs := #[.bool true, .int .i64 (x110 : Int), .int .i32 (runeAt a0 x110)]) (v := .int .i64 (x110 : Int)) rfl rfl) ?_
      refine WL.ex rfl (ex_extract (vs := #[.bool true, .int .i64 (x110 : Int), .int .i32 (runeAt a0 x110)]) (v := .int .i32 (runeAt a0 x110)) rfl rfl) ?_
      refine WL.ex rfl (ex_assign (v := .int .i64 (x110 : Int)) rfl) ?_
      refine WL.ex rfl (ex_assign (v := .int .i32 (runeAt a0 x110)) rfl) ?_
      refine WL.nil ?_
      refine WC.seq ?_
      refine WC.region ?_
      refine WL.ex rfl (ex_move (v := .int .i32 (runeAt a0 x110)) rfl) ?_
      obtain ⟨z125, hz125, H⟩ := bindE H
      refine WL.op rfl ?_
      refine OW.call [encS ([48, 49, 50, 51, 52, 53, 54, 55, 56, 57, 97, 98, 99, 100, 101, 102] : List UInt8), .int .i32 (runeAt a0 x110)] rfl Tryd.func49 (by kernel_rfl) (by kernel_rfl) (map_cons' rfl (map_cons' rfl rfl)) (strings_IndexRune.calls k _ _ ([48, 49, 50, 51, 52, 53, 54, 55, 56, 57, 97, 98, 99, 100, 101, 102] : List UInt8) (runeAt a0 x110) z125 (HF.ten (V := [0]) (L := []) rfl)  hz125) ?_
      rintro _ w126 ⟨o127, rfl, s128⟩
      refine ⟨_, rfl, ?_⟩
      replace s128 := un_stepL (J := []) (L' := []) s128 rfl rfl
      replace hO108 := hO108.step s128 rfl rfl
      replace hI124 := hI124.step s128 rfl
      replace HF := HF.step s128 rfl
      refine WL.ex rfl (ex_assign (v := .int .i64 z125) rfl) ?_
      refine WL.nil ?_
      refine WC.seq ?_
      refine WC.seq ?_
      refine WC.region ?_
      refine WL.ex rfl (ex_move (v := .int .i64 z125) rfl) ?_
      refine WL.ex rfl (ex_bin (a := .int .i64 z125) (b := .int .i64 0) (v := .bool (decide (z125 < 0))) rfl rfl bin_lss) ?_
      refine WL.nil ?_
      rcases condE H with ⟨c129, H⟩ | ⟨c129, H⟩
      ·
        refine WC.cond_t ((show _ = Value.bool (decide (z125 < 0)) from rfl).trans (congrArg Value.bool c129)) ?_
        refine WC.seq ?_
        refine WC.region ?_
        refine WL.ex rfl (ex_assign (v := .slice none ([] : List UInt8).length 0) rfl) ?_
        refine WL.ex rfl (ex_assign (v := .int .i64 2) rfl) ?_
        refine WL.nil ?_
        refine WC.ret ?_
        obtain rfl := Option.some.inj H
        replace H := Ho116
        dsimp only at H
        obtain rfl := Option.some.inj H
        exact ⟨_, (.tmp (.slice none ([] : List UInt8).length 0 : Value) rfl (.tmp (.int .i64 2 : Value) rfl .nil)), _, (.slice none 0 0), rfl, HF.out, Own.nil⟩
      ·
        refine WC.cond_f ((show _ = Value.bool (decide (z125 < 0)) from rfl).trans (congrArg Value.bool c129)) ?_
        refine WC.skip ?_
        refine WC.seq ?_
        refine WC.region ?_
        refine WL.ex rfl (ex_move (v := .int .i64 (x110 : Int)) rfl) ?_
        refine WL.ex rfl (ex_bin (a := .int .i64 (x110 : Int)) (b := .int .i64 2) (v := .int .i64 ((x110 : Int).tmod 2)) rfl rfl (bin_rem64 (by decide))) ?_
        refine WL.ex rfl (ex_bin (a := .int .i64 ((x110 : Int).tmod 2)) (b := .int .i64 0) (v := .bool (((x110 : Int).tmod 2) == 0)) rfl rfl bin_eql) ?_
        refine WL.nil ?_
        rcases condE H with ⟨c130, H⟩ | ⟨c130, H⟩
        ·
          refine WC.cond_t ((show _ = Value.bool (((x110 : Int).tmod 2) == 0) from rfl).trans (congrArg Value.bool c130)) ?_
          refine WC.region ?_
          refine WL.ex rfl (ex_move (v := v107) s4_109) ?_
          refine WL.ex rfl (ex_move (v := .int .i64 z125) rfl) ?_
          refine WL.ex rfl (ex_bin (a := .int .i64 z125) (b := enc64 (4 : UInt64)) (v := .int .i64 (shlI z125 4)) rfl rfl (bin_shl_i64n (n := 4))) ?_
          refine WL.ex rfl (ex_conv_u8 (k := .i64) (a := (shlI z125 4)) rfl Tryd.underlying3 Tryd.underlying5) ?_
          refine WL.op rfl ?_
          refine OW.row (r := Rep.u8) (xs := [ofI8 (shlI z125 4)]) [(0, enc8 (ofI8 (shlI z125 4)))] [[enc8 (ofI8 (shlI z125 4))]] 11 HF rfl Tryd.underlying24 sz5 zr5 rfl (evs_cons rfl rfl) rfl rfl ⟨rfl, trivial⟩ rfl rfl rfl rfl ?_
          intro o131 w132 v134 s133 hO135
          replace hO108 := hO108.step s133 rfl rfl
          replace hI124 := hI124.step s133 rfl
          replace HF := HF.step s133 rfl
          obtain ⟨A136, c137, q138_, _, q138⟩ := hO135.row
          obtain ⟨u139, hu139, H⟩ := bindE H
          refine WL.op rfl ?_
          refine OW.append (r := Rep.u8) (E := 5) (i := 12) rfl Tryd.underlying24 inf5 rfl (by decide) (by decide) (by decide) rfl ((show _ = (v134 : Value) from rfl).trans q138_) hO108 q138 rfl (of_decide_eq_true (chk_true hu139)) ?_
          intro o140 w141 v142 s143 hO144
          replace hI124 := hI124.step s143 rfl
          replace hO135 := hO135.step s143 rfl rfl
          replace HF := HF.step s143 rfl
          refine WL.ex rfl (ex_assign (v := v142) rfl) ?_
          refine WL.nil ?_
          exact ⟨k117, Nat.lt_succ_self _, ⟨_, (x109 ++ [ofI8 (shlI z125 4)]), (x110 + wideAt a0 x110), _, HF, hO144, hI124, s2_106, s3_106, rfl, s13_109, H⟩⟩
        ·
          refine WC.cond_f ((show _ = Value.bool (((x110 : Int).tmod 2) == 0) from rfl).trans (congrArg Value.bool c130)) ?_
          refine WC.region ?_
          refine WL.ex rfl (ex_move (v := v107) s4_109) ?_
          refine WL.ex rfl (ex_move (v := v107) s4_109) ?_
          obtain ⟨A145, c146, q147⟩ := hO108.slice
          refine WL.ex rfl (ex_len_slice ((show _ = (v107 : Value) from rfl).trans q147) Tryd.underlying24) ?_
          refine WL.ex rfl (ex_bin (a := .int .i64 (x109.length : Int)) (b := .int .i64 1) (v := .int .i64 (wrap64 ((x109.length : Int) - 1))) rfl rfl bin_sub64) ?_
          obtain ⟨x148, hx148, H⟩ := bindE H
          obtain ⟨A153, c154, q155_⟩ := hO108.slice
          obtain ⟨ad149, e150, g151, g152, cell156⟩ := Row.ixS (Own.rowOf hO108 q155_) hx148
          refine WL.ex rfl (ex_indexAddr (i := (wrap64 ((x109.length : Int) - 1))) ((show _ = (v107 : Value) from rfl).trans q155_) e150 rfl Tryd.underlying24 sz5 g151 g152) ?_
          refine WL.ex rfl (ex_load1 (v := enc8 x148) rfl Tryd.underlying5 rfl cell156) ?_
          refine WL.ex rfl (ex_move (v := .int .i64 z125) rfl) ?_
          refine WL.ex rfl (ex_conv_u8 (k := .i64) (a := z125) rfl Tryd.underlying3 Tryd.underlying5) ?_
          refine WL.ex rfl (ex_bin (a := enc8 x148) (b := enc8 (ofI8 z125)) (v := enc8 (x148 ||| (ofI8 z125))) rfl rfl bin_or_u8) ?_
          obtain ⟨x158, hx158, H⟩ := bindE H
          obtain ⟨A163, c164, q165_⟩ := hO108.slice
          obtain ⟨ad159, e160, g161, g162, cell166⟩ := Row.ixS (Own.rowOf hO108 q165_) hx158
          refine WL.ex rfl (ex_indexAddr (i := (wrap64 ((x109.length : Int) - 1))) ((show _ = (v107 : Value) from rfl).trans q165_) e160 rfl Tryd.underlying24 sz5 g161 g162) ?_
          refine WL.op rfl ?_
          refine OW.storeElem (r := Rep.u8) (j := (wrap64 ((x109.length : Int) - 1))) (vs := [enc8 (x148 ||| (ofI8 z125))]) hO108 (q165_.trans (by rw [e160])) rfl g161 g162 ((congrArg Value.cells (show ev _ _ = (enc8 (x148 ||| (ofI8 z125)) : Value) from rfl)).trans rfl) sz5 rfl (by decide) ?_
          intro w168 s169 hO170
          replace hI124 := hI124.step s169 rfl
          replace HF := HF.step s169 rfl
          refine WL.nil ?_
          exact ⟨k117, Nat.lt_succ_self _, ⟨_, (x109.set (wrap64 ((x109.length : Int) - 1)).toNat (x148 ||| (ofI8 z125))), (x110 + wideAt a0 x110), _, HF, hO170, hI124, s2_106, s3_106, s4_109, s13_109, H⟩⟩
    ·
      refine WL.op rfl (OW.nextNo (q := x110) rfl s13_109 hI106 c121 ?_)
      refine WL.ex rfl (ex_extract (vs := #[.bool false]) (v := .bool false) rfl rfl) ?_
      refine WL.nil ?_
      refine WC.seq ?_
      refine WC.cond_f rfl ?_
      refine WC.exit ?_
      obtain rfl := Option.some.inj H
      exact ⟨_, x109, _, HF, hO108, s2_106, s3_106, s4_109, rfl⟩

/-! ### dictumref01_digit -/
set_option maxRecDepth 100000 in
theorem dictumref01_digit.calls (o0 : Tags) (w0 : World) (a0 : UInt8) (r : Int) (hO : ∀ b, b < w0.heap.size → o0 b < 10) (H : dictumref01_digit.f a0 = some r) :
    Calls Tryd.prog 50 [enc8 a0].toArray w0 fun e_ w_ => ∃ (o_ : Tags), e_ = .returned (one [.int .i64 r]) ∧ Step o0 w0 o_ w_ [] := by
  have HF := Fm.refl hO []
  unfold dictumref01_digit.f at H
  refine SX.calls [enc8 a0] Tryd.func50 rfl rfl ?_
  rw [Tryd.ntmps50]
  refine WC.seq ?_
  refine WC.region ?_
  refine WL.ex rfl (ex_assign (v := .int .i64 0) rfl) ?_
  refine WL.nil ?_
  refine WC.seq ?_
  obtain ⟨z102, hz102, H⟩ := bindE H
  refine WC.cut (fun ρ_ w_ => ∃ (o_ : Tags), Fm o0 w0 o_ w_ [] ∧ ρ_ 0 = enc8 a0 ∧ ρ_ 2 = .int .i64 0 ∧ ρ_ 8 = .bool z102) ?case103 ?_
  case case103 =>
    rintro ρ106 w104 ⟨o105, HF, s0_100, s2_100, s8_101⟩
    rcases condE H with ⟨c107, H⟩ | ⟨c107, H⟩
    ·
      refine WC.cond_t ((show _ = Value.bool z102 from s8_101).trans (congrArg Value.bool c107)) ?_
      refine WC.seq ?_
      refine WC.region ?_
      refine WL.ex rfl (ex_move (v := enc8 a0) s0_100) ?_
      refine WL.ex rfl (ex_bin (a := enc8 a0) (b := enc8 (48 : UInt8)) (v := enc8 (a0 - (48 : UInt8))) rfl rfl bin_sub_u8) ?_
      refine WL.ex rfl (ex_conv_small (a := ((a0 - (48 : UInt8)).toNat : Int)) rfl Tryd.underlying5 Tryd.underlying3 (small8 (a0 - (48 : UInt8)))) ?_
      refine WL.ex rfl (ex_assign (v := .int .i64 ((a0 - (48 : UInt8)).toNat : Int)) rfl) ?_
      refine WL.nil ?_
      refine WC.ret ?_
      obtain rfl := Option.some.inj H
      exact ⟨_, (.tmp (.int .i64 ((a0 - (48 : UInt8)).toNat : Int) : Value) rfl .nil), _, rfl, HF.out⟩
    ·
      refine WC.cond_f ((show _ = Value.bool z102 from s8_101).trans (congrArg Value.bool c107)) ?_
      refine WC.skip ?_
      refine WC.seq ?_
      obtain ⟨z109, hz109, H⟩ := bindE H
      refine WC.cut (fun ρ_ w_ => ∃ (o_ : Tags), Fm o0 w0 o_ w_ [] ∧ ρ_ 0 = enc8 a0 ∧ ρ_ 2 = .int .i64 0 ∧ ρ_ 17 = .bool z109) ?case110 ?_
      case case110 =>
        rintro ρ113 w111 ⟨o112, HF, s0_107, s2_107, s17_108⟩
        rcases condE H with ⟨c114, H⟩ | ⟨c114, H⟩
        ·
          refine WC.cond_t ((show _ = Value.bool z109 from s17_108).trans (congrArg Value.bool c114)) ?_
          refine WC.seq ?_
          refine WC.region ?_
          refine WL.ex rfl (ex_move (v := enc8 a0) s0_107) ?_
          refine WL.ex rfl (ex_bin (a := enc8 a0) (b := enc8 (97 : UInt8)) (v := enc8 (a0 - (97 : UInt8))) rfl rfl bin_sub_u8) ?_
          refine WL.ex rfl (ex_conv_small (a := ((a0 - (97 : UInt8)).toNat : Int)) rfl Tryd.underlying5 Tryd.underlying3 (small8 (a0 - (97 : UInt8)))) ?_
          refine WL.ex rfl (ex_bin (a := .int .i64 ((a0 - (97 : UInt8)).toNat : Int)) (b := .int .i64 10) (v := .int .i64 (wrap64 (((a0 - (97 : UInt8)).toNat : Int) + 10))) rfl rfl bin_add64) ?_
          refine WL.ex rfl (ex_assign (v := .int .i64 (wrap64 (((a0 - (97 : UInt8)).toNat : Int) + 10))) rfl) ?_
          refine WL.nil ?_
          refine WC.ret ?_
          obtain rfl := Option.some.inj H
          exact ⟨_, (.tmp (.int .i64 (wrap64 (((a0 - (97 : UInt8)).toNat : Int) + 10)) : Value) rfl .nil), _, rfl, HF.out⟩
        ·
          refine WC.cond_f ((show _ = Value.bool z109 from s17_108).trans (congrArg Value.bool c114)) ?_
          refine WC.skip ?_
          refine WC.seq ?_
          refine WC.region ?_
          refine WL.ex rfl (ex_assign (v := .int .i64 (-1)) rfl) ?_
          refine WL.nil ?_
          refine WC.ret ?_
          obtain rfl := Option.some.inj H
          exact ⟨_, (.tmp (.int .i64 (-1) : Value) rfl .nil), _, rfl, HF.out⟩
      have Ho115 := H
      replace H := hz109
      refine WC.region ?_
      refine WL.ex rfl (ex_move (v := enc8 a0) s0_100) ?_
      refine WL.ex rfl (ex_bin (a := enc8 a0) (b := enc8 (97 : UInt8)) (v := .bool (decide ((97 : UInt8) ≤ a0))) rfl rfl bin_geq_u8) ?_
      refine WL.ex rfl (ex_move (v := .bool (decide ((97 : UInt8) ≤ a0))) rfl) ?_
      rcases condE H with ⟨c116, H⟩ | ⟨c116, H⟩
      ·
        refine WL.guardYes rfl rfl rfl ((show _ = Value.bool (decide ((97 : UInt8) ≤ a0)) from rfl).trans (congrArg Value.bool c116)) ?_
        refine OW.ex rfl (ex_move (v := enc8 a0) s0_100) ?_
        refine WL.guardYes rfl rfl rfl ((show _ = Value.bool (decide ((97 : UInt8) ≤ a0)) from rfl).trans (congrArg Value.bool c116)) ?_
        refine OW.ex rfl (ex_bin (a := enc8 a0) (b := enc8 (102 : UInt8)) (v := .bool (decide (a0 ≤ (102 : UInt8)))) rfl rfl bin_leq_u8) ?_
        refine WL.ex rfl (ex_pick_t (v := .bool (decide (a0 ≤ (102 : UInt8)))) ((show _ = Value.bool (decide ((97 : UInt8) ≤ a0)) from rfl).trans (congrArg Value.bool c116)) rfl) ?_
        refine WL.nil ?_
        obtain rfl := Option.some.inj H
        exact ⟨_, HF, s0_100, s2_100, rfl⟩
      ·
        refine WL.guardNo rfl rfl rfl ((show _ = Value.bool (decide ((97 : UInt8) ≤ a0)) from rfl).trans (congrArg Value.bool c116)) ?_
        refine WL.guardNo rfl rfl rfl ((show _ = Value.bool (decide ((97 : UInt8) ≤ a0)) from rfl).trans (congrArg Value.bool c116)) ?_
        refine WL.ex rfl (ex_pick_f (v := .bool false) ((show _ = Value.bool (decide ((97 : UInt8) ≤ a0)) from rfl).trans (congrArg Value.bool c116)) rfl) ?_
        refine WL.nil ?_
        obtain rfl := Option.some.inj H
        exact ⟨_, HF, s0_100, s2_100, rfl⟩
  have Ho117 := H
  replace H := hz102
  refine WC.region ?_
  refine WL.ex rfl (ex_move (v := enc8 a0) rfl) ?_
  refine WL.ex rfl (ex_bin (a := enc8 a0) (b := enc8 (48 : UInt8)) (v := .bool (decide ((48 : UInt8) ≤ a0))) rfl rfl bin_geq_u8) ?_
  refine WL.ex rfl (ex_move (v := .bool (decide ((48 : UInt8) ≤ a0))) rfl) ?_
  rcases condE H with ⟨c118, H⟩ | ⟨c118, H⟩
  ·
    refine WL.guardYes rfl rfl rfl ((show _ = Value.bool (decide ((48 : UInt8) ≤ a0)) from rfl).trans (congrArg Value.bool c118)) ?_
    refine OW.ex rfl (ex_move (v := enc8 a0) rfl) ?_
    refine WL.guardYes rfl rfl rfl ((show _ = Value.bool (decide ((48 : UInt8) ≤ a0)) from rfl).trans (congrArg Value.bool c118)) ?_
    refine OW.ex rfl (ex_bin (a := enc8 a0) (b := enc8 (57 : UInt8)) (v := .bool (decide (a0 ≤ (57 : UInt8)))) rfl rfl bin_leq_u8) ?_
    refine WL.ex rfl (ex_pick_t (v := .bool (decide (a0 ≤ (57 : UInt8)))) ((show _ = Value.bool (decide ((48 : UInt8) ≤ a0)) from rfl).trans (congrArg Value.bool c118)) rfl) ?_
    refine WL.nil ?_
    obtain rfl := Option.some.inj H
    exact ⟨_, HF, rfl, rfl, rfl⟩
  ·
    refine WL.guardNo rfl rfl rfl ((show _ = Value.bool (decide ((48 : UInt8) ≤ a0)) from rfl).trans (congrArg Value.bool c118)) ?_
    refine WL.guardNo rfl rfl rfl ((show _ = Value.bool (decide ((48 : UInt8) ≤ a0)) from rfl).trans (congrArg Value.bool c118)) ?_
    refine WL.ex rfl (ex_pick_f (v := .bool false) ((show _ = Value.bool (decide ((48 : UInt8) ≤ a0)) from rfl).trans (congrArg Value.bool c118)) rfl) ?_
    refine WL.nil ?_
    obtain rfl := Option.some.inj H
    exact ⟨_, HF, rfl, rfl, rfl⟩

/-! ### dictumref01_Unhex -/
set_option maxRecDepth 100000 in
theorem dictumref01_Unhex.calls (k : Nat) (o0 : Tags) (w0 : World) (a0 : List UInt8) (r : (List UInt8) × Int) (hO : ∀ b, b < w0.heap.size → o0 b < 10) (H : dictumref01_Unhex.f k a0 = some r) :
    Calls Tryd.prog 33 [encS a0].toArray w0 fun e_ w_ => ∃ (o_ : Tags) (rv0 : Value), e_ = .returned (one [rv0, .int .i64 r.2]) ∧ Step o0 w0 o_ w_ [] ∧ Own Rep.u8 5 9 o_ w_ rv0 r.1 := by
  have HF := Fm.refl hO []
  unfold dictumref01_Unhex.f at H
  refine SX.calls [encS a0] Tryd.func33 rfl rfl ?_
  rw [Tryd.ntmps33]
  refine WC.seq ?_
  refine WC.region ?_
  refine WL.ex rfl (ex_assign (v := .slice none ([] : List UInt8).length 0) rfl) ?_
  refine WL.ex rfl (ex_assign (v := .int .i64 0) rfl) ?_
  refine WL.nil ?_
  refine WC.seq ?_
  refine WC.seq ?_
  refine WC.region ?_
  refine WL.ex rfl (ex_move (v := encS a0) rfl) ?_
  refine WL.ex rfl (ex_len_str (s := a0) rfl Tryd.underlying9) ?_
  refine WL.ex rfl (ex_bin (a := .int .i64 (a0.length : Int)) (b := .int .i64 2) (v := .int .i64 ((a0.length : Int).tmod 2)) rfl rfl (bin_rem64 (by decide))) ?_
  refine WL.ex rfl (ex_bin (a := .int .i64 ((a0.length : Int).tmod 2)) (b := .int .i64 1) (v := .bool (((a0.length : Int).tmod 2) == 1)) rfl rfl bin_eql) ?_
  refine WL.nil ?_
  rcases condE H with ⟨c101, H⟩ | ⟨c101, H⟩
  ·
    refine WC.cond_t ((show _ = Value.bool (((a0.length : Int).tmod 2) == 1) from rfl).trans (congrArg Value.bool c101)) ?_
    refine WC.seq ?_
    refine WC.region ?_
    refine WL.ex rfl (ex_assign (v := .slice none ([] : List UInt8).length 0) rfl) ?_
    refine WL.ex rfl (ex_assign (v := .int .i64 2) rfl) ?_
    refine WL.nil ?_
    refine WC.ret ?_
    obtain rfl := Option.some.inj H
    exact ⟨_, (.tmp (.slice none ([] : List UInt8).length 0 : Value) rfl (.tmp (.int .i64 2 : Value) rfl .nil)), _, (.slice none 0 0), rfl, HF.out, Own.nil⟩
  ·
    refine WC.cond_f ((show _ = Value.bool (((a0.length : Int).tmod 2) == 1) from rfl).trans (congrArg Value.bool c101)) ?_
    refine WC.skip ?_
    refine WC.seq ?_
    refine WC.region ?_
    refine WL.ex rfl (ex_assign (v := .slice none ([] : List UInt8).length 0) rfl) ?_
    refine WL.nil ?_
    refine WC.seq ?_
    refine WC.seq ?_
    refine WC.region ?_
    refine WL.ex rfl (ex_assign (v := .int .i64 0) rfl) ?_
    refine WL.nil ?_
    obtain ⟨z109, hz109, H⟩ := bindE H
    refine WC.for (fun k_ ρ_ w_ => ∃ (o_ : Tags) (x104 : (List UInt8)) (x105 : Int) (v102 : Value), Fm o0 w0 o_ w_ [] ∧ Own Rep.u8 5 11 o_ w_ v102 x104 ∧ ρ_ 0 = encS a0 ∧ ρ_ 2 = .slice none ([] : List UInt8).length 0 ∧ ρ_ 3 = .int .i64 0 ∧ ρ_ 4 = v102 ∧ ρ_ 5 = .int .i64 x105 ∧ dictumref01_Unhex.l1 k a0 k_ x104 x105 = some z109) k (fun ρ_ w_ => ∃ (o_ : Tags) (x108 : (List UInt8)) (v106 : Value), Fm o0 w0 o_ w_ [] ∧ Own Rep.u8 5 11 o_ w_ v106 x108 ∧ ρ_ 2 = .slice none ([] : List UInt8).length 0 ∧ ρ_ 3 = .int .i64 0 ∧ ρ_ 4 = v106 ∧ z109 = .inr x108) ⟨_, ([] : List UInt8), 0, _, HF, Own.nil, rfl, rfl, rfl, rfl, rfl, hz109⟩ ?case110 ?_
    case case110 =>
      rintro ρ152 w150 ⟨o151, x108, v106, HF, hO107, s2_105, s3_105, s4_108, rfl⟩
      dsimp only at H
      refine WC.seq ?_
      refine WC.region ?_
      refine WL.ex rfl (ex_move (v := v106) s4_108) ?_
      refine WL.ex rfl (ex_assign (v := v106) rfl) ?_
      refine WL.ex rfl (ex_assign (v := .int .i64 0) rfl) ?_
      refine WL.nil ?_
      refine WC.ret ?_
      obtain rfl := Option.some.inj H
      replace hO107 := Own.renTo (j := 9) hO107 rfl
      replace HF := HF.ren (i := 11) (j := 9) rfl
      exact ⟨_, (.tmp (v106 : Value) rfl (.tmp (.int .i64 0 : Value) rfl .nil)), _, v106, rfl, HF.out, hO107⟩
    have Ho111 := H
    rintro k112 ρ113 w114 ⟨o115, x104, x105, v102, HF, hO103, s0_101, s2_101, s3_101, s4_104, s5_105, H⟩
    cases k112 with
    | zero => cases H
    | succ k112 =>
    rw [dictumref01_Unhex.l1.eq_2] at H
    refine WC.seq ?_
    refine WC.seq ?_
    refine WC.region ?_
    refine WL.ex rfl (ex_move (v := .int .i64 x105) s5_105) ?_
    refine WL.ex rfl (ex_move (v := encS a0) s0_101) ?_
    refine WL.ex rfl (ex_len_str (s := a0) rfl Tryd.underlying9) ?_
    refine WL.ex rfl (ex_bin (a := .int .i64 x105) (b := .int .i64 (a0.length : Int)) (v := .bool (decide (x105 < (a0.length : Int)))) rfl rfl bin_lss) ?_
    refine WL.nil ?_
    rcases condE H with ⟨c116, H⟩ | ⟨c116, H⟩
    ·
      refine WC.cond_t ((show _ = Value.bool (decide (x105 < (a0.length : Int))) from rfl).trans (congrArg Value.bool c116)) ?_
      refine WC.skip ?_
      refine WC.seq ?_
      refine WC.block ?_
      refine WC.seq ?_
      refine WC.region ?_
      refine WL.ex rfl (ex_move (v := encS a0) s0_101) ?_
      refine WL.ex rfl (ex_move (v := .int .i64 x105) s5_105) ?_
      obtain ⟨x117, hx117, H⟩ := bindE H
      refine WL.ex rfl (ex_index_str (i := x105) rfl rfl Tryd.underlying9 (ix_some hx117).1 (ix_some hx117).2.2) ?_
      obtain ⟨z118, hz118, H⟩ := bindE H
      refine WL.op rfl ?_
      refine OW.call [enc8 x117] rfl Tryd.func50 (by kernel_rfl) (by kernel_rfl) (map_cons' rfl rfl) (dictumref01_digit.calls _ _ x117 z118 (HF.ten (V := [0]) (L := []) rfl)  hz118) ?_
      rintro _ w119 ⟨o120, rfl, s121⟩
      refine ⟨_, rfl, ?_⟩
      replace s121 := un_stepL (J := []) (L' := []) s121 rfl rfl
      replace hO103 := hO103.step s121 rfl rfl
      replace HF := HF.step s121 rfl
      refine WL.ex rfl (ex_assign (v := .int .i64 z118) rfl) ?_
      refine WL.nil ?_
      refine WC.seq ?_
      refine WC.region ?_
      refine WL.ex rfl (ex_move (v := encS a0) s0_101) ?_
      refine WL.ex rfl (ex_move (v := .int .i64 x105) s5_105) ?_
      refine WL.ex rfl (ex_bin (a := .int .i64 x105) (b := .int .i64 1) (v := .int .i64 (wrap64 (x105 + 1))) rfl rfl bin_add64) ?_
      obtain ⟨x122, hx122, H⟩ := bindE H
      refine WL.ex rfl (ex_index_str (i := (wrap64 (x105 + 1))) rfl rfl Tryd.underlying9 (ix_some hx122).1 (ix_some hx122).2.2) ?_
      obtain ⟨z123, hz123, H⟩ := bindE H
      refine WL.op rfl ?_
      refine OW.call [enc8 x122] rfl Tryd.func50 (by kernel_rfl) (by kernel_rfl) (map_cons' rfl rfl) (dictumref01_digit.calls _ _ x122 z123 (HF.ten (V := [0]) (L := []) rfl)  hz123) ?_
      rintro _ w124 ⟨o125, rfl, s126⟩
      refine ⟨_, rfl, ?_⟩
      replace s126 := un_stepL (J := []) (L' := []) s126 rfl rfl
      replace hO103 := hO103.step s126 rfl rfl
      replace HF := HF.step s126 rfl
      refine WL.ex rfl (ex_assign (v := .int .i64 z123) rfl) ?_
      refine WL.nil ?_
      refine WC.seq ?_
      obtain ⟨z128, hz128, H⟩ := bindE H
      refine WC.cut (fun ρ_ w_ => ∃ (o_ : Tags), Fm o0 w0 o_ w_ [] ∧ Own Rep.u8 5 11 o_ w_ v102 x104 ∧ ρ_ 0 = encS a0 ∧ ρ_ 2 = .slice none ([] : List UInt8).length 0 ∧ ρ_ 3 = .int .i64 0 ∧ ρ_ 4 = v102 ∧ ρ_ 5 = .int .i64 x105 ∧ ρ_ 6 = .int .i64 z118 ∧ ρ_ 7 = .int .i64 z123 ∧ ρ_ 32 = .bool z128) ?case129 ?_
      case case129 =>
        rintro ρ132 w130 ⟨o131, HF, hO103, s0_126, s2_126, s3_126, s4_126, s5_126, s6_126, s7_126, s32_127⟩
        rcases condE H with ⟨c133, H⟩ | ⟨c133, H⟩
        ·
          refine WC.cond_t ((show _ = Value.bool z128 from s32_127).trans (congrArg Value.bool c133)) ?_
          refine WC.seq ?_
          refine WC.region ?_
          refine WL.ex rfl (ex_assign (v := .slice none ([] : List UInt8).length 0) rfl) ?_
          refine WL.ex rfl (ex_assign (v := .int .i64 2) rfl) ?_
          refine WL.nil ?_
          refine WC.ret ?_
          obtain rfl := Option.some.inj H
          replace H := Ho111
          dsimp only at H
          obtain rfl := Option.some.inj H
          exact ⟨_, (.tmp (.slice none ([] : List UInt8).length 0 : Value) rfl (.tmp (.int .i64 2 : Value) rfl .nil)), _, (.slice none 0 0), rfl, HF.out, Own.nil⟩
        ·
          refine WC.cond_f ((show _ = Value.bool z128 from s32_127).trans (congrArg Value.bool c133)) ?_
          refine WC.skip ?_
          refine WC.region ?_
          refine WL.ex rfl (ex_move (v := v102) s4_126) ?_
          refine WL.ex rfl (ex_move (v := .int .i64 z118) s6_126) ?_
          refine WL.ex rfl (ex_bin (a := .int .i64 16) (b := .int .i64 z118) (v := .int .i64 (wrap64 (16 * z118))) rfl rfl bin_mul64) ?_
          refine WL.ex rfl (ex_move (v := .int .i64 z123) s7_126) ?_
          refine WL.ex rfl (ex_bin (a := .int .i64 (wrap64 (16 * z118))) (b := .int .i64 z123) (v := .int .i64 (wrap64 ((wrap64 (16 * z118)) + z123))) rfl rfl bin_add64) ?_
          refine WL.ex rfl (ex_conv_u8 (k := .i64) (a := (wrap64 ((wrap64 (16 * z118)) + z123))) rfl Tryd.underlying3 Tryd.underlying5) ?_
          refine WL.op rfl ?_
          refine OW.row (r := Rep.u8) (xs := [ofI8 (wrap64 ((wrap64 (16 * z118)) + z123))]) [(0, enc8 (ofI8 (wrap64 ((wrap64 (16 * z118)) + z123))))] [[enc8 (ofI8 (wrap64 ((wrap64 (16 * z118)) + z123)))]] 10 HF rfl Tryd.underlying24 sz5 zr5 rfl (evs_cons rfl rfl) rfl rfl ⟨rfl, trivial⟩ rfl rfl rfl rfl ?_
          intro o134 w135 v137 s136 hO138
          replace hO103 := hO103.step s136 rfl rfl
          replace HF := HF.step s136 rfl
          obtain ⟨A139, c140, q141_, _, q141⟩ := hO138.row
          obtain ⟨u142, hu142, H⟩ := bindE H
          refine WL.op rfl ?_
          refine OW.append (r := Rep.u8) (E := 5) (i := 11) rfl Tryd.underlying24 inf5 rfl (by decide) (by decide) (by decide) rfl ((show _ = (v137 : Value) from rfl).trans q141_) hO103 q141 rfl (of_decide_eq_true (chk_true hu142)) ?_
          intro o143 w144 v145 s146 hO147
          replace hO138 := hO138.step s146 rfl rfl
          replace HF := HF.step s146 rfl
          refine WL.ex rfl (ex_assign (v := v145) rfl) ?_
          refine WL.nil ?_
          refine WC.region ?_
          refine WL.ex rfl (ex_move (v := .int .i64 x105) s5_126) ?_
          refine WL.ex rfl (ex_bin (a := .int .i64 x105) (b := .int .i64 2) (v := .int .i64 (wrap64 (x105 + 2))) rfl rfl bin_add64) ?_
          refine WL.ex rfl (ex_assign (v := .int .i64 (wrap64 (x105 + 2))) rfl) ?_
          refine WL.nil ?_
          exact ⟨k112, Nat.lt_succ_self _, ⟨_, (x104 ++ [ofI8 (wrap64 ((wrap64 (16 * z118)) + z123))]), wrap64 (x105 + 2), _, HF, hO147, s0_126, s2_126, s3_126, rfl, rfl, H⟩⟩
      have Ho148 := H
      replace H := hz128
      refine WC.region ?_
      refine WL.ex rfl (ex_move (v := .int .i64 z118) rfl) ?_
      refine WL.ex rfl (ex_bin (a := .int .i64 z118) (b := .int .i64 0) (v := .bool (decide (z118 < 0))) rfl rfl bin_lss) ?_
      refine WL.ex rfl (ex_move (v := .bool (decide (z118 < 0))) rfl) ?_
      rcases condE H with ⟨c149, H⟩ | ⟨c149, H⟩
      ·
        refine WL.guardNo rfl rfl rfl ((show _ = Value.bool (decide (z118 < 0)) from rfl).trans (congrArg Value.bool c149)) ?_
        refine WL.guardNo rfl rfl rfl ((show _ = Value.bool (decide (z118 < 0)) from rfl).trans (congrArg Value.bool c149)) ?_
        refine WL.ex rfl (ex_pick_t (v := .bool true) ((show _ = Value.bool (decide (z118 < 0)) from rfl).trans (congrArg Value.bool c149)) rfl) ?_
        refine WL.nil ?_
        obtain rfl := Option.some.inj H
        exact ⟨_, HF, hO103, s0_101, s2_101, s3_101, s4_104, s5_105, rfl, rfl, rfl⟩
      ·
        refine WL.guardYes rfl rfl rfl ((show _ = Value.bool (decide (z118 < 0)) from rfl).trans (congrArg Value.bool c149)) ?_
        refine OW.ex rfl (ex_move (v := .int .i64 z123) rfl) ?_
        refine WL.guardYes rfl rfl rfl ((show _ = Value.bool (decide (z118 < 0)) from rfl).trans (congrArg Value.bool c149)) ?_
        refine OW.ex rfl (ex_bin (a := .int .i64 z123) (b := .int .i64 0) (v := .bool (decide (z123 < 0))) rfl rfl bin_lss) ?_
        refine WL.ex rfl (ex_pick_f (v := .bool (decide (z123 < 0))) ((show _ = Value.bool (decide (z118 < 0)) from rfl).trans (congrArg Value.bool c149)) rfl) ?_
        refine WL.nil ?_
        obtain rfl := Option.some.inj H
        exact ⟨_, HF, hO103, s0_101, s2_101, s3_101, s4_104, s5_105, rfl, rfl, rfl⟩
    ·
      refine WC.cond_f ((show _ = Value.bool (decide (x105 < (a0.length : Int))) from rfl).trans (congrArg Value.bool c116)) ?_
      refine WC.exit ?_
      obtain rfl := Option.some.inj H
      exact ⟨_, x104, _, HF, hO103, s2_101, s3_101, s4_104, rfl⟩


/-! ### strconv.Atoi -/
theorem strconv_Atoi.calls (o0 : Tags) (w0 : World) (a0 : List UInt8) (r : Int × Bool) (hO : ∀ b, b < w0.heap.size → o0 b < 10) (hG : Gl GG o0 w0) (H : strconv_Atoi.f a0 = some r) :
    Calls Tryd.prog 51 [encS a0].toArray w0 fun e_ w_ => ∃ (o_ : Tags) (rv1 : Value), e_ = .returned (one [.int .i64 r.1, rv1]) ∧ Step o0 w0 o_ w_ [] ∧ IsErr r.2 rv1 := by
  unfold strconv_Atoi.f at H
  obtain ⟨u, hu, H⟩ := bindE H
  obtain rfl := Option.some.inj H
  have hl : a0.length ≤ 281474976710656 := of_decide_eq_true (chk_true hu)
  have hs : (⟨a0.toArray⟩ : ByteArray).size ≤ 281474976710656 := by rw [size_enc]; exact hl
  cases hc : Lib.atoiAll a0
  · rename_i v
    refine Calls.mono (Tryd.strconv_Atoi_ok ⟨a0.toArray⟩ (Nat.le_trans hs (by decide)) v hc w0) ?_
    rintro e w ⟨rfl, hw⟩
    refine ⟨o0, .nilIface, by simp [atoiF, hc, one], ?_, by simp [atoiF, hc, IsErr]⟩
    rcases hw with rfl | ⟨t, rfl⟩
    · exact Step.refl _ _ _
    · exact bytesWorld_step o0 w0 5 t
  · obtain ⟨tp, p, hv⟩ := hG.2.2.2.1
    refine Calls.mono (Tryd.strconv_Atoi_syntax_var ⟨a0.toArray⟩ hs (hc.trans (by rfl)) tp p w0 hv) ?_
    rintro e w ⟨N, rfl, _, _, hb⟩
    exact ⟨o0, _, by simp only [atoiF, hc, one]; rfl, below_step hb, by simp only [atoiF, hc, IsErr, cond_true]; exact ⟨_, _, rfl⟩⟩
  · obtain ⟨tp, p, hv⟩ := hG.2.2.2.2
    refine Calls.mono (Tryd.strconv_Atoi_range_var ⟨a0.toArray⟩ hs hc tp p w0 hv) ?_
    rintro e w ⟨N, rfl, _, _, hb⟩
    exact ⟨o0, _, by simp only [atoiF, hc, one]; rfl, below_step hb, by simp only [atoiF, hc, IsErr, cond_true]; exact ⟨_, _, rfl⟩⟩


/-! ### strconv.Itoa -/
theorem strconv_Itoa.calls (o0 : Tags) (w0 : World) (a0 : Int) (r : List UInt8) (hO : ∀ b, b < w0.heap.size → o0 b < 10) (hG : Gl GG o0 w0) (H : strconv_Itoa.f a0 = some r) :
    Calls Tryd.prog 52 [.int .i64 a0].toArray w0 fun e_ w_ => ∃ (o_ : Tags), e_ = .returned (one [encS r]) ∧ Step o0 w0 o_ w_ [] := by
  unfold strconv_Itoa.f at H
  obtain ⟨u, hu, H⟩ := bindE H
  obtain rfl := Option.some.inj H
  have hu' := chk_true hu
  simp only [Bool.and_eq_true, decide_eq_true_eq] at hu'
  refine Calls.mono (Tryd.strconv_Itoa a0 hu'.1 hu'.2 w0 hG.2.2.1) ?_
  rintro e w ⟨rfl, k, os, rfl⟩
  exact ⟨o0, rfl, grow_step o0 w0 k os⟩

/-! ### octet_Dec -/
set_option maxRecDepth 100000 in
theorem octet_Dec.calls (o0 : Tags) (w0 : World) (a0 : Int) (r : (List UInt8)) (hO : ∀ b, b < w0.heap.size → o0 b < 10) (hG : Gl GG o0 w0) (H : octet_Dec.f a0 = some r) :
    Calls Tryd.prog 36 [.int .i64 a0].toArray w0 fun e_ w_ => ∃ (o_ : Tags), e_ = .returned (one [encS r]) ∧ Step o0 w0 o_ w_ [] := by
  have HF := Fm.refl hO []
  unfold octet_Dec.f at H
  refine SX.calls [.int .i64 a0] Tryd.func36 rfl rfl ?_
  rw [Tryd.ntmps36]
  refine WC.seq ?_
  refine WC.region ?_
  refine WL.ex rfl (ex_assign (v := encS ([] : List UInt8)) rfl) ?_
  refine WL.nil ?_
  refine WC.seq ?_
  refine WC.region ?_
  refine WL.ex rfl (ex_move (v := .int .i64 a0) rfl) ?_
  obtain ⟨z101, hz101, H⟩ := bindE H
  refine WL.op rfl ?_
  refine OW.call [.int .i64 a0] rfl Tryd.func52 (by kernel_rfl) (by kernel_rfl) (map_cons' rfl rfl) (strconv_Itoa.calls _ _ a0 z101 (HF.ten (V := [0]) (L := []) rfl) (Gl.vw (V := [0]) (L := []) hG rfl) hz101) ?_
  rintro _ w102 ⟨o103, rfl, s104⟩
  refine ⟨_, rfl, ?_⟩
  replace s104 := un_stepL (J := []) (L' := []) s104 rfl rfl
  replace hG := hG.step s104 rfl
  replace HF := HF.step s104 rfl
  refine WL.ex rfl (ex_assign (v := encS z101) rfl) ?_
  refine WL.nil ?_
  refine WC.ret ?_
  obtain rfl := Option.some.inj H
  exact ⟨_, (.tmp (encS z101 : Value) rfl .nil), _, rfl, HF.out⟩

/-! ### octet_Undec -/
set_option maxRecDepth 100000 in
theorem octet_Undec.calls (o0 : Tags) (w0 : World) (a0 : List UInt8) (a1 : Int) (r : Int × Int) (hO : ∀ b, b < w0.heap.size → o0 b < 10) (hG : Gl GG o0 w0) (H : octet_Undec.f a0 a1 = some r) :
    Calls Tryd.prog 34 [encS a0, .int .i64 a1].toArray w0 fun e_ w_ => ∃ (o_ : Tags), e_ = .returned (one [.int .i64 r.1, .int .i64 r.2]) ∧ Step o0 w0 o_ w_ [] := by
  have HF := Fm.refl hO []
  unfold octet_Undec.f at H
  refine SX.calls [encS a0, .int .i64 a1] Tryd.func34 rfl rfl ?_
  rw [Tryd.ntmps34]
  refine WC.seq ?_
  refine WC.region ?_
  refine WL.ex rfl (ex_assign (v := .int .i64 0) rfl) ?_
  refine WL.ex rfl (ex_assign (v := .int .i64 0) rfl) ?_
  refine WL.nil ?_
  refine WC.seq ?_
  refine WC.region ?_
  refine WL.ex rfl (ex_move (v := encS a0) rfl) ?_
  obtain ⟨z101, hz101, H⟩ := bindE H
  refine WL.op rfl ?_
  refine OW.call [encS a0] rfl Tryd.func51 (by kernel_rfl) (by kernel_rfl) (map_cons' rfl rfl) (strconv_Atoi.calls _ _ a0 z101 (HF.ten (V := [0]) (L := []) rfl) (Gl.vw (V := [0]) (L := []) hG rfl) hz101) ?_
  rintro _ w102 ⟨o103, v105, rfl, s104, hE106⟩
  refine ⟨_, rfl, ?_⟩
  replace s104 := un_stepL (J := []) (L' := []) s104 rfl rfl
  replace hG := hG.step s104 rfl
  replace HF := HF.step s104 rfl
  refine WL.ex rfl (ex_move (v := .tuple #[.int .i64 z101.1, v105]) rfl) ?_
  refine WL.ex rfl (ex_extract (vs := #[.int .i64 z101.1, v105]) (v := .int .i64 z101.1) rfl rfl) ?_
  refine WL.ex rfl (ex_extract (vs := #[.int .i64 z101.1, v105]) (v := v105) rfl rfl) ?_
  refine WL.ex rfl (ex_assign (v := .int .i64 z101.1) rfl) ?_
  refine WL.ex rfl (ex_assign (v := v105) rfl) ?_
  refine WL.nil ?_
  refine WC.seq ?_
  obtain ⟨z108, hz108, H⟩ := bindE H
  refine WC.cut (fun ρ_ w_ => ∃ (o_ : Tags), Fm o0 w0 o_ w_ [] ∧ Gl GG o_ w_ ∧ ρ_ 4 = .int .i64 0 ∧ ρ_ 5 = .int .i64 0 ∧ ρ_ 6 = .int .i64 z101.1 ∧ ρ_ 34 = .bool z108) ?case109 ?_
  case case109 =>
    rintro ρ112 w110 ⟨o111, HF, hG, s4_106, s5_106, s6_106, s34_107⟩
    rcases condE H with ⟨c113, H⟩ | ⟨c113, H⟩
    ·
      refine WC.cond_t ((show _ = Value.bool z108 from s34_107).trans (congrArg Value.bool c113)) ?_
      refine WC.seq ?_
      refine WC.region ?_
      refine WL.ex rfl (ex_assign (v := .int .i64 0) rfl) ?_
      refine WL.ex rfl (ex_assign (v := .int .i64 2) rfl) ?_
      refine WL.nil ?_
      refine WC.ret ?_
      obtain rfl := Option.some.inj H
      exact ⟨_, (.tmp (.int .i64 0 : Value) rfl (.tmp (.int .i64 2 : Value) rfl .nil)), _, rfl, HF.out⟩
    ·
      refine WC.cond_f ((show _ = Value.bool z108 from s34_107).trans (congrArg Value.bool c113)) ?_
      refine WC.skip ?_
      refine WC.seq ?_
      refine WC.region ?_
      refine WL.ex rfl (ex_move (v := .int .i64 z101.1) s6_106) ?_
      refine WL.ex rfl (ex_assign (v := .int .i64 z101.1) rfl) ?_
      refine WL.ex rfl (ex_assign (v := .int .i64 0) rfl) ?_
      refine WL.nil ?_
      refine WC.ret ?_
      obtain rfl := Option.some.inj H
      exact ⟨_, (.tmp (.int .i64 z101.1 : Value) rfl (.tmp (.int .i64 0 : Value) rfl .nil)), _, rfl, HF.out⟩
  have Ho114 := H
  replace H := hz108
  refine WC.region ?_
  refine WL.ex rfl (ex_move (v := v105) rfl) ?_
  refine WL.ex rfl (ex_errNeq (b := z101.2) rfl Tryd.underlying86 hE106) ?_
  refine WL.ex rfl (ex_move (v := .bool z101.2) rfl) ?_
  rcases condE H with ⟨c115, H⟩ | ⟨c115, H⟩
  ·
    refine WL.guardNo rfl rfl rfl ((show _ = Value.bool z101.2 from rfl).trans (congrArg Value.bool c115)) ?_
    refine WL.guardNo rfl rfl rfl ((show _ = Value.bool z101.2 from rfl).trans (congrArg Value.bool c115)) ?_
    refine WL.ex rfl (ex_pick_t (v := .bool true) ((show _ = Value.bool z101.2 from rfl).trans (congrArg Value.bool c115)) rfl) ?_
    refine WL.ex rfl (ex_move (v := .bool true) rfl) ?_
    refine WL.guardNo rfl rfl rfl rfl ?_
    refine WL.guardNo rfl rfl rfl rfl ?_
    refine WL.guardNo rfl rfl rfl rfl ?_
    refine WL.ex rfl (ex_pick_t (v := .bool true) rfl rfl) ?_
    refine WL.ex rfl (ex_move (v := .bool true) rfl) ?_
    refine WL.guardNo rfl rfl rfl rfl ?_
    refine WL.guardNo rfl rfl rfl rfl ?_
    refine WL.guardNo rfl rfl rfl rfl ?_
    refine WL.ex rfl (ex_pick_t (v := .bool true) rfl rfl) ?_
    refine WL.ex rfl (ex_move (v := .bool true) rfl) ?_
    refine WL.guardNo rfl rfl rfl rfl ?_
    refine WL.guardNo rfl rfl rfl rfl ?_
    refine WL.guardNo rfl rfl rfl rfl ?_
    refine WL.guardNo rfl rfl rfl rfl ?_
    refine WL.ex rfl (ex_pick_t (v := .bool true) rfl rfl) ?_
    refine WL.nil ?_
    obtain rfl := Option.some.inj H
    exact ⟨_, HF, hG, rfl, rfl, rfl, rfl⟩
  ·
    refine WL.guardYes rfl rfl rfl ((show _ = Value.bool z101.2 from rfl).trans (congrArg Value.bool c115)) ?_
    refine OW.ex rfl (ex_move (v := .int .i64 z101.1) rfl) ?_
    refine WL.guardYes rfl rfl rfl ((show _ = Value.bool z101.2 from rfl).trans (congrArg Value.bool c115)) ?_
    refine OW.ex rfl (ex_bin (a := .int .i64 z101.1) (b := .int .i64 0) (v := .bool (decide (z101.1 < 0))) rfl rfl bin_lss) ?_
    refine WL.ex rfl (ex_pick_f (v := .bool (decide (z101.1 < 0))) ((show _ = Value.bool z101.2 from rfl).trans (congrArg Value.bool c115)) rfl) ?_
    refine WL.ex rfl (ex_move (v := .bool (decide (z101.1 < 0))) rfl) ?_
    rcases condE H with ⟨c116, H⟩ | ⟨c116, H⟩
    ·
      refine WL.guardNo rfl rfl rfl ((show _ = Value.bool (decide (z101.1 < 0)) from rfl).trans (congrArg Value.bool c116)) ?_
      refine WL.guardNo rfl rfl rfl ((show _ = Value.bool (decide (z101.1 < 0)) from rfl).trans (congrArg Value.bool c116)) ?_
      refine WL.guardNo rfl rfl rfl ((show _ = Value.bool (decide (z101.1 < 0)) from rfl).trans (congrArg Value.bool c116)) ?_
      refine WL.ex rfl (ex_pick_t (v := .bool true) ((show _ = Value.bool (decide (z101.1 < 0)) from rfl).trans (congrArg Value.bool c116)) rfl) ?_
      refine WL.ex rfl (ex_move (v := .bool true) rfl) ?_
      refine WL.guardNo rfl rfl rfl rfl ?_
      refine WL.guardNo rfl rfl rfl rfl ?_
      refine WL.guardNo rfl rfl rfl rfl ?_
      refine WL.ex rfl (ex_pick_t (v := .bool true) rfl rfl) ?_
      refine WL.ex rfl (ex_move (v := .bool true) rfl) ?_
      refine WL.guardNo rfl rfl rfl rfl ?_
      refine WL.guardNo rfl rfl rfl rfl ?_
      refine WL.guardNo rfl rfl rfl rfl ?_
      refine WL.guardNo rfl rfl rfl rfl ?_
      refine WL.ex rfl (ex_pick_t (v := .bool true) rfl rfl) ?_
      refine WL.nil ?_
      obtain rfl := Option.some.inj H
      exact ⟨_, HF, hG, rfl, rfl, rfl, rfl⟩
    ·
      refine WL.guardYes rfl rfl rfl ((show _ = Value.bool (decide (z101.1 < 0)) from rfl).trans (congrArg Value.bool c116)) ?_
      refine OW.ex rfl (ex_move (v := .int .i64 z101.1) rfl) ?_
      refine WL.guardYes rfl rfl rfl ((show _ = Value.bool (decide (z101.1 < 0)) from rfl).trans (congrArg Value.bool c116)) ?_
      refine OW.ex rfl (ex_move (v := .int .i64 a1) rfl) ?_
      refine WL.guardYes rfl rfl rfl ((show _ = Value.bool (decide (z101.1 < 0)) from rfl).trans (congrArg Value.bool c116)) ?_
      refine OW.ex rfl (ex_bin (a := .int .i64 z101.1) (b := .int .i64 a1) (v := .bool (decide (z101.1 > a1))) rfl rfl bin_gtr) ?_
      refine WL.ex rfl (ex_pick_f (v := .bool (decide (z101.1 > a1))) ((show _ = Value.bool (decide (z101.1 < 0)) from rfl).trans (congrArg Value.bool c116)) rfl) ?_
      refine WL.ex rfl (ex_move (v := .bool (decide (z101.1 > a1))) rfl) ?_
      rcases condE H with ⟨c117, H⟩ | ⟨c117, H⟩
      ·
        refine WL.guardNo rfl rfl rfl ((show _ = Value.bool (decide (z101.1 > a1)) from rfl).trans (congrArg Value.bool c117)) ?_
        refine WL.guardNo rfl rfl rfl ((show _ = Value.bool (decide (z101.1 > a1)) from rfl).trans (congrArg Value.bool c117)) ?_
        refine WL.guardNo rfl rfl rfl ((show _ = Value.bool (decide (z101.1 > a1)) from rfl).trans (congrArg Value.bool c117)) ?_
        refine WL.ex rfl (ex_pick_t (v := .bool true) ((show _ = Value.bool (decide (z101.1 > a1)) from rfl).trans (congrArg Value.bool c117)) rfl) ?_
        refine WL.ex rfl (ex_move (v := .bool true) rfl) ?_
        refine WL.guardNo rfl rfl rfl rfl ?_
        refine WL.guardNo rfl rfl rfl rfl ?_
        refine WL.guardNo rfl rfl rfl rfl ?_
        refine WL.guardNo rfl rfl rfl rfl ?_
        refine WL.ex rfl (ex_pick_t (v := .bool true) rfl rfl) ?_
        refine WL.nil ?_
        obtain rfl := Option.some.inj H
        exact ⟨_, HF, hG, rfl, rfl, rfl, rfl⟩
      ·
        refine WL.guardYes rfl rfl rfl ((show _ = Value.bool (decide (z101.1 > a1)) from rfl).trans (congrArg Value.bool c117)) ?_
        refine OW.ex rfl (ex_move (v := encS a0) rfl) ?_
        refine WL.guardYes rfl rfl rfl ((show _ = Value.bool (decide (z101.1 > a1)) from rfl).trans (congrArg Value.bool c117)) ?_
        refine OW.ex rfl (ex_len_str (s := a0) rfl Tryd.underlying9) ?_
        refine WL.guardYes rfl rfl rfl ((show _ = Value.bool (decide (z101.1 > a1)) from rfl).trans (congrArg Value.bool c117)) ?_
        refine OW.ex rfl (ex_bin (a := .int .i64 (a0.length : Int)) (b := .int .i64 10) (v := .bool (decide ((a0.length : Int) > 10))) rfl rfl bin_gtr) ?_
        refine WL.ex rfl (ex_pick_f (v := .bool (decide ((a0.length : Int) > 10))) ((show _ = Value.bool (decide (z101.1 > a1)) from rfl).trans (congrArg Value.bool c117)) rfl) ?_
        refine WL.ex rfl (ex_move (v := .bool (decide ((a0.length : Int) > 10))) rfl) ?_
        rcases condE H with ⟨c118, H⟩ | ⟨c118, H⟩
        ·
          refine WL.guardNo rfl rfl rfl ((show _ = Value.bool (decide ((a0.length : Int) > 10)) from rfl).trans (congrArg Value.bool c118)) ?_
          refine WL.guardNo rfl rfl rfl ((show _ = Value.bool (decide ((a0.length : Int) > 10)) from rfl).trans (congrArg Value.bool c118)) ?_
          refine WL.guardNo rfl rfl rfl ((show _ = Value.bool (decide ((a0.length : Int) > 10)) from rfl).trans (congrArg Value.bool c118)) ?_
          refine WL.guardNo rfl rfl rfl ((show _ = Value.bool (decide ((a0.length : Int) > 10)) from rfl).trans (congrArg Value.bool c118)) ?_
          refine WL.ex rfl (ex_pick_t (v := .bool true) ((show _ = Value.bool (decide ((a0.length : Int) > 10)) from rfl).trans (congrArg Value.bool c118)) rfl) ?_
          refine WL.nil ?_
          obtain rfl := Option.some.inj H
          exact ⟨_, HF, hG, rfl, rfl, rfl, rfl⟩
        ·
          refine WL.guardYes rfl rfl rfl ((show _ = Value.bool (decide ((a0.length : Int) > 10)) from rfl).trans (congrArg Value.bool c118)) ?_
          refine OW.ex rfl (ex_move (v := .int .i64 z101.1) rfl) ?_
          refine WL.guardYes rfl rfl rfl ((show _ = Value.bool (decide ((a0.length : Int) > 10)) from rfl).trans (congrArg Value.bool c118)) ?_
          obtain ⟨z119, hz119, H⟩ := bindE H
          refine OW.call [.int .i64 z101.1] rfl Tryd.func36 (by kernel_rfl) (by kernel_rfl) (map_cons' rfl rfl) (octet_Dec.calls _ _ z101.1 z119 (HF.ten (V := [0]) (L := []) rfl) (Gl.vw (V := [0]) (L := []) hG rfl) hz119) ?_
          rintro _ w120 ⟨o121, rfl, s122⟩
          refine ⟨_, rfl, ?_⟩
          replace s122 := un_stepL (J := []) (L' := []) s122 rfl rfl
          replace hG := hG.step s122 rfl
          replace HF := HF.step s122 rfl
          refine WL.guardYes rfl rfl rfl ((show _ = Value.bool (decide ((a0.length : Int) > 10)) from rfl).trans (congrArg Value.bool c118)) ?_
          refine OW.ex rfl (ex_move (v := encS a0) rfl) ?_
          refine WL.guardYes rfl rfl rfl ((show _ = Value.bool (decide ((a0.length : Int) > 10)) from rfl).trans (congrArg Value.bool c118)) ?_
          refine OW.ex rfl (ex_bin (a := encS z119) (b := encS a0) (v := .bool (!(z119 == a0))) rfl rfl bin_neq_str) ?_
          refine WL.ex rfl (ex_pick_f (v := .bool (!(z119 == a0))) ((show _ = Value.bool (decide ((a0.length : Int) > 10)) from rfl).trans (congrArg Value.bool c118)) rfl) ?_
          refine WL.nil ?_
          obtain rfl := Option.some.inj H
          exact ⟨_, HF, hG, rfl, rfl, rfl, rfl⟩

/-! ### dictumref01_Undec -/
set_option maxRecDepth 100000 in
theorem dictumref01_Undec.calls (k : Nat) (o0 : Tags) (w0 : World) (a0 : List UInt8) (a1 : Int) (r : Int × Int) (hO : ∀ b, b < w0.heap.size → o0 b < 10) (H : dictumref01_Undec.f k a0 a1 = some r) :
    Calls Tryd.prog 35 [encS a0, .int .i64 a1].toArray w0 fun e_ w_ => ∃ (o_ : Tags), e_ = .returned (one [.int .i64 r.1, .int .i64 r.2]) ∧ Step o0 w0 o_ w_ [] := by
  have HF := Fm.refl hO []
  unfold dictumref01_Undec.f at H
  refine SX.calls [encS a0, .int .i64 a1] Tryd.func35 rfl rfl ?_
  rw [Tryd.ntmps35]
  refine WC.seq ?_
  refine WC.region ?_
  refine WL.ex rfl (ex_assign (v := .int .i64 0) rfl) ?_
  refine WL.ex rfl (ex_assign (v := .int .i64 0) rfl) ?_
  refine WL.nil ?_
  refine WC.seq ?_
  obtain ⟨z102, hz102, H⟩ := bindE H
  refine WC.cut (fun ρ_ w_ => ∃ (o_ : Tags), Fm o0 w0 o_ w_ [] ∧ ρ_ 0 = encS a0 ∧ ρ_ 1 = .int .i64 a1 ∧ ρ_ 4 = .int .i64 0 ∧ ρ_ 5 = .int .i64 0 ∧ ρ_ 25 = .bool z102) ?case103 ?_
  case case103 =>
    rintro ρ106 w104 ⟨o105, HF, s0_100, s1_100, s4_100, s5_100, s25_101⟩
    rcases condE H with ⟨c107, H⟩ | ⟨c107, H⟩
    ·
      refine WC.cond_t ((show _ = Value.bool z102 from s25_101).trans (congrArg Value.bool c107)) ?_
      refine WC.seq ?_
      refine WC.region ?_
      refine WL.ex rfl (ex_assign (v := .int .i64 0) rfl) ?_
      refine WL.ex rfl (ex_assign (v := .int .i64 2) rfl) ?_
      refine WL.nil ?_
      refine WC.ret ?_
      obtain rfl := Option.some.inj H
      exact ⟨_, (.tmp (.int .i64 0 : Value) rfl (.tmp (.int .i64 2 : Value) rfl .nil)), _, rfl, HF.out⟩
    ·
      refine WC.cond_f ((show _ = Value.bool z102 from s25_101).trans (congrArg Value.bool c107)) ?_
      refine WC.skip ?_
      refine WC.seq ?_
      refine WC.region ?_
      refine WL.ex rfl (ex_assign (v := .int .i64 0) rfl) ?_
      refine WL.nil ?_
      refine WC.seq ?_
      refine WC.seq ?_
      refine WC.region ?_
      refine WL.ex rfl (ex_assign (v := .int .i64 0) rfl) ?_
      refine WL.nil ?_
      obtain ⟨z111, hz111, H⟩ := bindE H
      refine WC.for (fun k_ ρ_ w_ => ∃ (o_ : Tags) (x108 : Int) (x109 : Int), Fm o0 w0 o_ w_ [] ∧ ρ_ 0 = encS a0 ∧ ρ_ 1 = .int .i64 a1 ∧ ρ_ 4 = .int .i64 0 ∧ ρ_ 5 = .int .i64 0 ∧ ρ_ 6 = .int .i64 x108 ∧ ρ_ 7 = .int .i64 x109 ∧ dictumref01_Undec.l1 k a0 k_ x108 x109 = some z111) k (fun ρ_ w_ => ∃ (o_ : Tags) (x110 : Int), Fm o0 w0 o_ w_ [] ∧ ρ_ 1 = .int .i64 a1 ∧ ρ_ 4 = .int .i64 0 ∧ ρ_ 5 = .int .i64 0 ∧ ρ_ 6 = .int .i64 x110 ∧ z111 = .inr x110) ⟨_, 0, 0, HF, s0_100, s1_100, s4_100, s5_100, rfl, rfl, hz111⟩ ?case112 ?_
      case case112 =>
        rintro ρ133 w131 ⟨o132, x110, HF, s1_109, s4_109, s5_109, s6_110, rfl⟩
        dsimp only at H
        refine WC.seq ?_
        refine WC.seq ?_
        refine WC.region ?_
        refine WL.ex rfl (ex_move (v := .int .i64 x110) s6_110) ?_
        refine WL.ex rfl (ex_move (v := .int .i64 a1) s1_109) ?_
        refine WL.ex rfl (ex_bin (a := .int .i64 x110) (b := .int .i64 a1) (v := .bool (decide (x110 > a1))) rfl rfl bin_gtr) ?_
        refine WL.nil ?_
        rcases condE H with ⟨c134, H⟩ | ⟨c134, H⟩
        ·
          refine WC.cond_t ((show _ = Value.bool (decide (x110 > a1)) from rfl).trans (congrArg Value.bool c134)) ?_
          refine WC.seq ?_
          refine WC.region ?_
          refine WL.ex rfl (ex_assign (v := .int .i64 0) rfl) ?_
          refine WL.ex rfl (ex_assign (v := .int .i64 2) rfl) ?_
          refine WL.nil ?_
          refine WC.ret ?_
          obtain rfl := Option.some.inj H
          exact ⟨_, (.tmp (.int .i64 0 : Value) rfl (.tmp (.int .i64 2 : Value) rfl .nil)), _, rfl, HF.out⟩
        ·
          refine WC.cond_f ((show _ = Value.bool (decide (x110 > a1)) from rfl).trans (congrArg Value.bool c134)) ?_
          refine WC.skip ?_
          refine WC.seq ?_
          refine WC.region ?_
          refine WL.ex rfl (ex_move (v := .int .i64 x110) s6_110) ?_
          refine WL.ex rfl (ex_assign (v := .int .i64 x110) rfl) ?_
          refine WL.ex rfl (ex_assign (v := .int .i64 0) rfl) ?_
          refine WL.nil ?_
          refine WC.ret ?_
          obtain rfl := Option.some.inj H
          exact ⟨_, (.tmp (.int .i64 x110 : Value) rfl (.tmp (.int .i64 0 : Value) rfl .nil)), _, rfl, HF.out⟩
      have Ho113 := H
      rintro k114 ρ115 w116 ⟨o117, x108, x109, HF, s0_107, s1_107, s4_107, s5_107, s6_108, s7_109, H⟩
      cases k114 with
      | zero => cases H
      | succ k114 =>
      rw [dictumref01_Undec.l1.eq_2] at H
      refine WC.seq ?_
      refine WC.seq ?_
      refine WC.region ?_
      refine WL.ex rfl (ex_move (v := .int .i64 x109) s7_109) ?_
      refine WL.ex rfl (ex_move (v := encS a0) s0_107) ?_
      refine WL.ex rfl (ex_len_str (s := a0) rfl Tryd.underlying9) ?_
      refine WL.ex rfl (ex_bin (a := .int .i64 x109) (b := .int .i64 (a0.length : Int)) (v := .bool (decide (x109 < (a0.length : Int)))) rfl rfl bin_lss) ?_
      refine WL.nil ?_
      rcases condE H with ⟨c118, H⟩ | ⟨c118, H⟩
      ·
        refine WC.cond_t ((show _ = Value.bool (decide (x109 < (a0.length : Int))) from rfl).trans (congrArg Value.bool c118)) ?_
        refine WC.skip ?_
        refine WC.seq ?_
        refine WC.block ?_
        refine WC.seq ?_
        obtain ⟨z120, hz120, H⟩ := bindE H
        refine WC.cut (fun ρ_ w_ => ∃ (o_ : Tags), Fm o0 w0 o_ w_ [] ∧ ρ_ 0 = encS a0 ∧ ρ_ 1 = .int .i64 a1 ∧ ρ_ 4 = .int .i64 0 ∧ ρ_ 5 = .int .i64 0 ∧ ρ_ 6 = .int .i64 x108 ∧ ρ_ 7 = .int .i64 x109 ∧ ρ_ 41 = .bool z120) ?case121 ?_
        case case121 =>
          rintro ρ124 w122 ⟨o123, HF, s0_118, s1_118, s4_118, s5_118, s6_118, s7_118, s41_119⟩
          rcases condE H with ⟨c125, H⟩ | ⟨c125, H⟩
          ·
            refine WC.cond_t ((show _ = Value.bool z120 from s41_119).trans (congrArg Value.bool c125)) ?_
            refine WC.seq ?_
            refine WC.region ?_
            refine WL.ex rfl (ex_assign (v := .int .i64 0) rfl) ?_
            refine WL.ex rfl (ex_assign (v := .int .i64 2) rfl) ?_
            refine WL.nil ?_
            refine WC.ret ?_
            obtain rfl := Option.some.inj H
            replace H := Ho113
            dsimp only at H
            obtain rfl := Option.some.inj H
            exact ⟨_, (.tmp (.int .i64 0 : Value) rfl (.tmp (.int .i64 2 : Value) rfl .nil)), _, rfl, HF.out⟩
          ·
            refine WC.cond_f ((show _ = Value.bool z120 from s41_119).trans (congrArg Value.bool c125)) ?_
            refine WC.skip ?_
            refine WC.region ?_
            refine WL.ex rfl (ex_move (v := .int .i64 x108) s6_118) ?_
            refine WL.ex rfl (ex_bin (a := .int .i64 10) (b := .int .i64 x108) (v := .int .i64 (wrap64 (10 * x108))) rfl rfl bin_mul64) ?_
            refine WL.ex rfl (ex_move (v := encS a0) s0_118) ?_
            refine WL.ex rfl (ex_move (v := .int .i64 x109) s7_118) ?_
            obtain ⟨x126, hx126, H⟩ := bindE H
            refine WL.ex rfl (ex_index_str (i := x109) rfl rfl Tryd.underlying9 (ix_some hx126).1 (ix_some hx126).2.2) ?_
            refine WL.ex rfl (ex_bin (a := enc8 x126) (b := enc8 (48 : UInt8)) (v := enc8 (x126 - (48 : UInt8))) rfl rfl bin_sub_u8) ?_
            refine WL.ex rfl (ex_conv_small (a := ((x126 - (48 : UInt8)).toNat : Int)) rfl Tryd.underlying5 Tryd.underlying3 (small8 (x126 - (48 : UInt8)))) ?_
            refine WL.ex rfl (ex_bin (a := .int .i64 (wrap64 (10 * x108))) (b := .int .i64 ((x126 - (48 : UInt8)).toNat : Int)) (v := .int .i64 (wrap64 ((wrap64 (10 * x108)) + ((x126 - (48 : UInt8)).toNat : Int)))) rfl rfl bin_add64) ?_
            refine WL.ex rfl (ex_assign (v := .int .i64 (wrap64 ((wrap64 (10 * x108)) + ((x126 - (48 : UInt8)).toNat : Int)))) rfl) ?_
            refine WL.nil ?_
            refine WC.region ?_
            refine WL.ex rfl (ex_move (v := .int .i64 x109) s7_118) ?_
            refine WL.ex rfl (ex_bin (a := .int .i64 x109) (b := .int .i64 1) (v := .int .i64 (wrap64 (x109 + 1))) rfl rfl bin_add64) ?_
            refine WL.ex rfl (ex_assign (v := .int .i64 (wrap64 (x109 + 1))) rfl) ?_
            refine WL.nil ?_
            exact ⟨k114, Nat.lt_succ_self _, ⟨_, wrap64 ((wrap64 (10 * x108)) + ((x126 - (48 : UInt8)).toNat : Int)), wrap64 (x109 + 1), HF, s0_118, s1_118, s4_118, s5_118, rfl, rfl, H⟩⟩
        have Ho127 := H
        replace H := hz120
        refine WC.region ?_
        refine WL.ex rfl (ex_move (v := encS a0) s0_107) ?_
        refine WL.ex rfl (ex_move (v := .int .i64 x109) s7_109) ?_
        obtain ⟨x128, hx128, H⟩ := bindE H
        refine WL.ex rfl (ex_index_str (i := x109) rfl rfl Tryd.underlying9 (ix_some hx128).1 (ix_some hx128).2.2) ?_
        refine WL.ex rfl (ex_bin (a := enc8 x128) (b := enc8 (48 : UInt8)) (v := .bool (decide (x128 < (48 : UInt8)))) rfl rfl bin_lss_u8) ?_
        refine WL.ex rfl (ex_move (v := .bool (decide (x128 < (48 : UInt8)))) rfl) ?_
        rcases condE H with ⟨c129, H⟩ | ⟨c129, H⟩
        ·
          refine WL.guardNo rfl rfl rfl ((show _ = Value.bool (decide (x128 < (48 : UInt8))) from rfl).trans (congrArg Value.bool c129)) ?_
          refine WL.guardNo rfl rfl rfl ((show _ = Value.bool (decide (x128 < (48 : UInt8))) from rfl).trans (congrArg Value.bool c129)) ?_
          refine WL.guardNo rfl rfl rfl ((show _ = Value.bool (decide (x128 < (48 : UInt8))) from rfl).trans (congrArg Value.bool c129)) ?_
          refine WL.guardNo rfl rfl rfl ((show _ = Value.bool (decide (x128 < (48 : UInt8))) from rfl).trans (congrArg Value.bool c129)) ?_
          refine WL.ex rfl (ex_pick_t (v := .bool true) ((show _ = Value.bool (decide (x128 < (48 : UInt8))) from rfl).trans (congrArg Value.bool c129)) rfl) ?_
          refine WL.nil ?_
          obtain rfl := Option.some.inj H
          exact ⟨_, HF, s0_107, s1_107, s4_107, s5_107, s6_108, s7_109, rfl⟩
        ·
          refine WL.guardYes rfl rfl rfl ((show _ = Value.bool (decide (x128 < (48 : UInt8))) from rfl).trans (congrArg Value.bool c129)) ?_
          refine OW.ex rfl (ex_move (v := encS a0) s0_107) ?_
          refine WL.guardYes rfl rfl rfl ((show _ = Value.bool (decide (x128 < (48 : UInt8))) from rfl).trans (congrArg Value.bool c129)) ?_
          refine OW.ex rfl (ex_move (v := .int .i64 x109) s7_109) ?_
          refine WL.guardYes rfl rfl rfl ((show _ = Value.bool (decide (x128 < (48 : UInt8))) from rfl).trans (congrArg Value.bool c129)) ?_
          obtain ⟨x130, hx130, H⟩ := bindE H
          refine OW.ex rfl (ex_index_str (i := x109) rfl rfl Tryd.underlying9 (ix_some hx130).1 (ix_some hx130).2.2) ?_
          refine WL.guardYes rfl rfl rfl ((show _ = Value.bool (decide (x128 < (48 : UInt8))) from rfl).trans (congrArg Value.bool c129)) ?_
          refine OW.ex rfl (ex_bin (a := enc8 x130) (b := enc8 (57 : UInt8)) (v := .bool (decide ((57 : UInt8) < x130))) rfl rfl bin_gtr_u8) ?_
          refine WL.ex rfl (ex_pick_f (v := .bool (decide ((57 : UInt8) < x130))) ((show _ = Value.bool (decide (x128 < (48 : UInt8))) from rfl).trans (congrArg Value.bool c129)) rfl) ?_
          refine WL.nil ?_
          obtain rfl := Option.some.inj H
          exact ⟨_, HF, s0_107, s1_107, s4_107, s5_107, s6_108, s7_109, rfl⟩
      ·
        refine WC.cond_f ((show _ = Value.bool (decide (x109 < (a0.length : Int))) from rfl).trans (congrArg Value.bool c118)) ?_
        refine WC.exit ?_
        obtain rfl := Option.some.inj H
        exact ⟨_, x108, HF, s1_107, s4_107, s5_107, s6_108, rfl⟩
  have Ho135 := H
  replace H := hz102
  refine WC.region ?_
  refine WL.ex rfl (ex_move (v := encS a0) rfl) ?_
  refine WL.ex rfl (ex_len_str (s := a0) rfl Tryd.underlying9) ?_
  refine WL.ex rfl (ex_bin (a := .int .i64 (a0.length : Int)) (b := .int .i64 1) (v := .bool (decide ((a0.length : Int) < 1))) rfl rfl bin_lss) ?_
  refine WL.ex rfl (ex_move (v := .bool (decide ((a0.length : Int) < 1))) rfl) ?_
  rcases condE H with ⟨c136, H⟩ | ⟨c136, H⟩
  ·
    refine WL.guardNo rfl rfl rfl ((show _ = Value.bool (decide ((a0.length : Int) < 1)) from rfl).trans (congrArg Value.bool c136)) ?_
    refine WL.guardNo rfl rfl rfl ((show _ = Value.bool (decide ((a0.length : Int) < 1)) from rfl).trans (congrArg Value.bool c136)) ?_
    refine WL.guardNo rfl rfl rfl ((show _ = Value.bool (decide ((a0.length : Int) < 1)) from rfl).trans (congrArg Value.bool c136)) ?_
    refine WL.ex rfl (ex_pick_t (v := .bool true) ((show _ = Value.bool (decide ((a0.length : Int) < 1)) from rfl).trans (congrArg Value.bool c136)) rfl) ?_
    refine WL.ex rfl (ex_move (v := .bool true) rfl) ?_
    refine WL.guardNo rfl rfl rfl rfl ?_
    refine WL.guardNo rfl rfl rfl rfl ?_
    refine WL.guardNo rfl rfl rfl rfl ?_
    refine WL.guardNo rfl rfl rfl rfl ?_
    refine WL.guardUn rfl rfl rfl rfl ?_
    refine WL.guardUn rfl rfl rfl rfl ?_
    refine WL.guardUn rfl rfl rfl rfl ?_
    refine WL.guardNo rfl rfl rfl rfl ?_
    refine WL.ex rfl (ex_pick_t (v := .bool true) rfl rfl) ?_
    refine WL.nil ?_
    obtain rfl := Option.some.inj H
    exact ⟨_, HF, rfl, rfl, rfl, rfl, rfl⟩
  ·
    refine WL.guardYes rfl rfl rfl ((show _ = Value.bool (decide ((a0.length : Int) < 1)) from rfl).trans (congrArg Value.bool c136)) ?_
    refine OW.ex rfl (ex_move (v := encS a0) rfl) ?_
    refine WL.guardYes rfl rfl rfl ((show _ = Value.bool (decide ((a0.length : Int) < 1)) from rfl).trans (congrArg Value.bool c136)) ?_
    refine OW.ex rfl (ex_len_str (s := a0) rfl Tryd.underlying9) ?_
    refine WL.guardYes rfl rfl rfl ((show _ = Value.bool (decide ((a0.length : Int) < 1)) from rfl).trans (congrArg Value.bool c136)) ?_
    refine OW.ex rfl (ex_bin (a := .int .i64 (a0.length : Int)) (b := .int .i64 10) (v := .bool (decide ((a0.length : Int) > 10))) rfl rfl bin_gtr) ?_
    refine WL.ex rfl (ex_pick_f (v := .bool (decide ((a0.length : Int) > 10))) ((show _ = Value.bool (decide ((a0.length : Int) < 1)) from rfl).trans (congrArg Value.bool c136)) rfl) ?_
    refine WL.ex rfl (ex_move (v := .bool (decide ((a0.length : Int) > 10))) rfl) ?_
    rcases condE H with ⟨c137, H⟩ | ⟨c137, H⟩
    ·
      refine WL.guardNo rfl rfl rfl ((show _ = Value.bool (decide ((a0.length : Int) > 10)) from rfl).trans (congrArg Value.bool c137)) ?_
      refine WL.guardNo rfl rfl rfl ((show _ = Value.bool (decide ((a0.length : Int) > 10)) from rfl).trans (congrArg Value.bool c137)) ?_
      refine WL.guardNo rfl rfl rfl ((show _ = Value.bool (decide ((a0.length : Int) > 10)) from rfl).trans (congrArg Value.bool c137)) ?_
      refine WL.guardNo rfl rfl rfl ((show _ = Value.bool (decide ((a0.length : Int) > 10)) from rfl).trans (congrArg Value.bool c137)) ?_
      refine WL.guardUn rfl rfl rfl rfl ?_
      refine WL.guardUn rfl rfl rfl rfl ?_
      refine WL.guardUn rfl rfl rfl rfl ?_
      refine WL.guardNo rfl rfl rfl ((show _ = Value.bool (decide ((a0.length : Int) > 10)) from rfl).trans (congrArg Value.bool c137)) ?_
      refine WL.ex rfl (ex_pick_t (v := .bool true) ((show _ = Value.bool (decide ((a0.length : Int) > 10)) from rfl).trans (congrArg Value.bool c137)) rfl) ?_
      refine WL.nil ?_
      obtain rfl := Option.some.inj H
      exact ⟨_, HF, rfl, rfl, rfl, rfl, rfl⟩
    ·
      refine WL.guardYes rfl rfl rfl ((show _ = Value.bool (decide ((a0.length : Int) > 10)) from rfl).trans (congrArg Value.bool c137)) ?_
      refine OW.ex rfl (ex_move (v := encS a0) rfl) ?_
      refine WL.guardYes rfl rfl rfl ((show _ = Value.bool (decide ((a0.length : Int) > 10)) from rfl).trans (congrArg Value.bool c137)) ?_
      refine OW.ex rfl (ex_len_str (s := a0) rfl Tryd.underlying9) ?_
      refine WL.guardYes rfl rfl rfl ((show _ = Value.bool (decide ((a0.length : Int) > 10)) from rfl).trans (congrArg Value.bool c137)) ?_
      refine OW.ex rfl (ex_bin (a := .int .i64 (a0.length : Int)) (b := .int .i64 1) (v := .bool (decide ((a0.length : Int) > 1))) rfl rfl bin_gtr) ?_
      refine WL.guardYes rfl rfl rfl ((show _ = Value.bool (decide ((a0.length : Int) > 10)) from rfl).trans (congrArg Value.bool c137)) ?_
      refine OW.ex rfl (ex_move (v := .bool (decide ((a0.length : Int) > 1))) rfl) ?_
      rcases condE H with ⟨c138, H⟩ | ⟨c138, H⟩
      ·
        refine WL.guardYes rfl rfl rfl ((show _ = Value.bool (decide ((a0.length : Int) > 1)) from rfl).trans (congrArg Value.bool c138)) ?_
        refine OW.ex rfl (ex_move (v := encS a0) rfl) ?_
        refine WL.guardYes rfl rfl rfl ((show _ = Value.bool (decide ((a0.length : Int) > 1)) from rfl).trans (congrArg Value.bool c138)) ?_
        obtain ⟨x139, hx139, H⟩ := bindE H
        refine OW.ex rfl (ex_index_str (i := (0 : Int)) rfl rfl Tryd.underlying9 (ix_some hx139).1 (ix_some hx139).2.2) ?_
        refine WL.guardYes rfl rfl rfl ((show _ = Value.bool (decide ((a0.length : Int) > 1)) from rfl).trans (congrArg Value.bool c138)) ?_
        refine OW.ex rfl (ex_bin (a := enc8 x139) (b := enc8 (48 : UInt8)) (v := .bool (x139 == (48 : UInt8))) rfl rfl bin_eql_u8) ?_
        refine WL.guardYes rfl rfl rfl ((show _ = Value.bool (decide ((a0.length : Int) > 10)) from rfl).trans (congrArg Value.bool c137)) ?_
        refine OW.ex rfl (ex_pick_t (v := .bool (x139 == (48 : UInt8))) ((show _ = Value.bool (decide ((a0.length : Int) > 1)) from rfl).trans (congrArg Value.bool c138)) rfl) ?_
        refine WL.ex rfl (ex_pick_f (v := .bool (x139 == (48 : UInt8))) ((show _ = Value.bool (decide ((a0.length : Int) > 10)) from rfl).trans (congrArg Value.bool c137)) rfl) ?_
        refine WL.nil ?_
        obtain rfl := Option.some.inj H
        exact ⟨_, HF, rfl, rfl, rfl, rfl, rfl⟩
      ·
        refine WL.guardNo rfl rfl rfl ((show _ = Value.bool (decide ((a0.length : Int) > 1)) from rfl).trans (congrArg Value.bool c138)) ?_
        refine WL.guardNo rfl rfl rfl ((show _ = Value.bool (decide ((a0.length : Int) > 1)) from rfl).trans (congrArg Value.bool c138)) ?_
        refine WL.guardNo rfl rfl rfl ((show _ = Value.bool (decide ((a0.length : Int) > 1)) from rfl).trans (congrArg Value.bool c138)) ?_
        refine WL.guardYes rfl rfl rfl ((show _ = Value.bool (decide ((a0.length : Int) > 10)) from rfl).trans (congrArg Value.bool c137)) ?_
        refine OW.ex rfl (ex_pick_f (v := .bool false) ((show _ = Value.bool (decide ((a0.length : Int) > 1)) from rfl).trans (congrArg Value.bool c138)) rfl) ?_
        refine WL.ex rfl (ex_pick_f (v := .bool false) ((show _ = Value.bool (decide ((a0.length : Int) > 10)) from rfl).trans (congrArg Value.bool c137)) rfl) ?_
        refine WL.nil ?_
        obtain rfl := Option.some.inj H
        exact ⟨_, HF, rfl, rfl, rfl, rfl, rfl⟩

/-! ### dictumref01_Hex -/
set_option maxRecDepth 100000 in
theorem dictumref01_Hex.calls (k : Nat) (o0 : Tags) (w0 : World) (pA0 : Option Addr) (pc0 : Nat) (a0 : (List UInt8)) (r : (List UInt8)) (hO : ∀ b, b < w0.heap.size → o0 b < 10) (hra0 : Row Rep.u8 (fun b_ => o0 b_ = 0) (fun b_ => o0 b_ = 0) w0 pA0 a0) (hla0 : a0.length ≤ pc0) (H : dictumref01_Hex.f k a0 = some r) :
    Calls Tryd.prog 37 [.slice pA0 a0.length pc0].toArray w0 fun e_ w_ => ∃ (o_ : Tags), e_ = .returned (one [encS r]) ∧ Step o0 w0 o_ w_ [] := by
  have HF := Fm.refl hO []
  unfold dictumref01_Hex.f at H
  refine SX.calls [.slice pA0 a0.length pc0] Tryd.func37 rfl rfl ?_
  rw [Tryd.ntmps37]
  refine WC.seq ?_
  refine WC.region ?_
  refine WL.ex rfl (ex_assign (v := encS ([] : List UInt8)) rfl) ?_
  refine WL.nil ?_
  refine WC.seq ?_
  refine WC.region ?_
  refine WL.ex rfl (ex_assign (v := encS ([48, 49, 50, 51, 52, 53, 54, 55, 56, 57, 97, 98, 99, 100, 101, 102] : List UInt8)) rfl) ?_
  refine WL.nil ?_
  refine WC.seq ?_
  refine WC.region ?_
  refine WL.ex rfl (ex_assign (v := encS ([] : List UInt8)) rfl) ?_
  refine WL.nil ?_
  refine WC.seq ?_
  refine WC.seq ?_
  refine WC.region ?_
  refine WL.ex rfl (ex_assign (v := .int .i64 0) rfl) ?_
  refine WL.nil ?_
  obtain ⟨z104, hz104, H⟩ := bindE H
  refine WC.for (fun k_ ρ_ w_ => ∃ (o_ : Tags) (x101 : List UInt8) (x102 : Int), Fm o0 w0 o_ w_ [] ∧ Row Rep.u8 (fun b_ => o_ b_ = 0) (fun b_ => o_ b_ = 0) w_ pA0 a0 ∧ ρ_ 0 = .slice pA0 a0.length pc0 ∧ ρ_ 2 = encS ([] : List UInt8) ∧ ρ_ 3 = encS ([48, 49, 50, 51, 52, 53, 54, 55, 56, 57, 97, 98, 99, 100, 101, 102] : List UInt8) ∧ ρ_ 4 = encS x101 ∧ ρ_ 5 = .int .i64 x102 ∧ dictumref01_Hex.l1 k a0 k_ x101 x102 = some z104) k (fun ρ_ w_ => ∃ (o_ : Tags), Fm o0 w0 o_ w_ [] ∧ ρ_ 2 = encS ([] : List UInt8) ∧ ρ_ 4 = encS z104) ⟨_, ([] : List UInt8), 0, HF, hra0, rfl, rfl, rfl, rfl, rfl, hz104⟩ ?case105 ?_
  case case105 =>
    rintro ρ148 w146 ⟨o147, HF, s2_102, s4_103⟩
    refine WC.seq ?_
    refine WC.region ?_
    refine WL.ex rfl (ex_move (v := encS z104) s4_103) ?_
    refine WL.ex rfl (ex_assign (v := encS z104) rfl) ?_
    refine WL.nil ?_
    refine WC.ret ?_
    obtain rfl := Option.some.inj H
    exact ⟨_, (.tmp (encS z104 : Value) rfl .nil), _, rfl, HF.out⟩
  have Ho106 := H
  rintro k107 ρ108 w109 ⟨o110, x101, x102, HF, hra0, s0_100, s2_100, s3_100, s4_101, s5_102, H⟩
  cases k107 with
  | zero => cases H
  | succ k107 =>
  rw [dictumref01_Hex.l1.eq_2] at H
  refine WC.seq ?_
  refine WC.seq ?_
  refine WC.region ?_
  refine WL.ex rfl (ex_move (v := .int .i64 x102) s5_102) ?_
  refine WL.ex rfl (ex_move (v := .slice pA0 a0.length pc0) s0_100) ?_
  refine WL.ex rfl (ex_len_slice (A := pA0) (m := a0.length) (c := pc0) rfl Tryd.underlying24) ?_
  refine WL.ex rfl (ex_bin (a := .int .i64 x102) (b := .int .i64 (a0.length : Int)) (v := .bool (decide (x102 < (a0.length : Int)))) rfl rfl bin_lss) ?_
  refine WL.nil ?_
  rcases condE H with ⟨c111, H⟩ | ⟨c111, H⟩
  ·
    refine WC.cond_t ((show _ = Value.bool (decide (x102 < (a0.length : Int))) from rfl).trans (congrArg Value.bool c111)) ?_
    refine WC.skip ?_
    refine WC.seq ?_
    refine WC.block ?_
    refine WC.regionD' HF [] 30 (by kernel_rfl) rfl ?_
    intro w112 s113
    replace hra0 := hra0.step s113 rfl
    replace HF := HF.step s113 rfl
    have hra0D := hra0
    have sR := HF.here []
    refine WA.norm (listed' := #[false, false, false, false, false, false, false, false, false, false, false, false, false, false, false, false, false, false, false, false, false, false, false, false, false, false, false, false, false, false]) (by kernel_rfl) ?_
    refine WA.ex 0 rfl (by kernel_rfl) (by kernel_rfl) (by kernel_rfl) rfl ⟨_, sR⟩ (fun w_ hS_ => ex_move (v := encS x101) s4_101) ?_
    refine WA.norm (listed' := #[true, false, false, false, false, false, false, false, false, false, false, false, false, false, false, false, false, false, false, false, false, false, false, false, false, false, false, false, false, false]) (by kernel_rfl) ?_
    refine WA.ex 1 rfl (by kernel_rfl) (by kernel_rfl) (by kernel_rfl) rfl ⟨_, sR⟩ (fun w_ hS_ => ex_move (v := encS ([48, 49, 50, 51, 52, 53, 54, 55, 56, 57, 97, 98, 99, 100, 101, 102] : List UInt8)) s3_100) ?_
    refine WA.norm (listed' := #[true, true, false, false, false, false, false, false, false, false, false, false, false, false, false, false, false, false, false, false, false, false, false, false, false, false, false, false, false, false]) (by kernel_rfl) ?_
    refine WA.ex 2 rfl (by kernel_rfl) (by kernel_rfl) (by kernel_rfl) rfl ⟨_, sR⟩ (fun w_ hS_ => ex_move (v := .slice pA0 a0.length pc0) s0_100) ?_
    refine WA.norm (listed' := #[true, true, true, false, false, false, false, false, false, false, false, false, false, false, false, false, false, false, false, false, false, false, false, false, false, false, false, false, false, false]) (by kernel_rfl) ?_
    refine WA.ex 3 rfl (by kernel_rfl) (by kernel_rfl) (by kernel_rfl) rfl ⟨_, sR⟩ (fun w_ hS_ => ex_move (v := .int .i64 x102) s5_102) ?_
    refine WA.norm (listed' := #[true, true, true, true, false, false, false, false, false, false, false, false, false, false, false, false, false, false, false, false, false, false, false, false, false, false, false, false, false, false]) (by kernel_rfl) ?_
    obtain ⟨x114, hx114, H⟩ := bindE H
    obtain ⟨ad115, e116, g117, g118, cell119⟩ := Row.ixS hra0D hx114
    have hk120 := Row.at hra0D e116 hx114 (x102.toNat * 1)
    replace cell119 := held_cell (Step.refl _ _ _) ⟨_, sR⟩ hk120 rfl cell119
    refine WA.ex 4 rfl (by kernel_rfl) (by kernel_rfl) (by kernel_rfl) rfl ⟨_, sR⟩ (fun w_ hS_ => ex_indexAddr (i := x102) rfl e116 rfl Tryd.underlying24 sz5 g117 g118) ?_
    refine WA.norm (listed' := #[true, true, true, true, true, false, false, false, false, false, false, false, false, false, false, false, false, false, false, false, false, false, false, false, false, false, false, false, false, false]) (by kernel_rfl) ?_
    refine WA.ex 5 rfl (by kernel_rfl) (by kernel_rfl) (by kernel_rfl) rfl ⟨_, sR⟩ (fun w_ hS_ => ex_load1 (v := enc8 x114) rfl Tryd.underlying5 rfl (held_cell sR hS_ hk120 rfl cell119)) ?_
    refine WA.norm (listed' := #[true, true, true, true, true, true, false, false, false, false, false, false, false, false, false, false, false, false, false, false, false, false, false, false, false, false, false, false, false, false]) (by kernel_rfl) ?_
    refine WA.ex 6 rfl (by kernel_rfl) (by kernel_rfl) (by kernel_rfl) rfl ⟨_, sR⟩ (fun w_ hS_ => ex_bin (a := enc8 x114) (b := enc64 (4 : UInt64)) (v := enc8 (shr8 x114 4)) rfl rfl (bin_shr_u8n (n := 4))) ?_
    refine WA.norm (listed' := #[true, true, true, true, true, true, true, false, false, false, false, false, false, false, false, false, false, false, false, false, false, false, false, false, false, false, false, false, false, false]) (by kernel_rfl) ?_
    refine WA.ex 7 rfl (by kernel_rfl) (by kernel_rfl) (by kernel_rfl) rfl ⟨_, sR⟩ (fun w_ hS_ => ex_move (v := .slice pA0 a0.length pc0) s0_100) ?_
    refine WA.norm (listed' := #[true, true, true, true, true, true, true, true, false, false, false, false, false, false, false, false, false, false, false, false, false, false, false, false, false, false, false, false, false, false]) (by kernel_rfl) ?_
    refine WA.ex 8 rfl (by kernel_rfl) (by kernel_rfl) (by kernel_rfl) rfl ⟨_, sR⟩ (fun w_ hS_ => ex_move (v := .int .i64 x102) s5_102) ?_
    refine WA.norm (listed' := #[true, true, true, true, true, true, true, true, true, false, false, false, false, false, false, false, false, false, false, false, false, false, false, false, false, false, false, false, false, false]) (by kernel_rfl) ?_
    obtain ⟨x121, hx121, H⟩ := bindE H
    obtain ⟨ad122, e123, g124, g125, cell126⟩ := Row.ixS hra0D hx121
    have hk127 := Row.at hra0D e123 hx121 (x102.toNat * 1)
    replace cell126 := held_cell (Step.refl _ _ _) ⟨_, sR⟩ hk127 rfl cell126
    refine WA.ex 9 rfl (by kernel_rfl) (by kernel_rfl) (by kernel_rfl) rfl ⟨_, sR⟩ (fun w_ hS_ => ex_indexAddr (i := x102) rfl e123 rfl Tryd.underlying24 sz5 g124 g125) ?_
    refine WA.norm (listed' := #[true, true, true, true, true, true, true, true, true, true, false, false, false, false, false, false, false, false, false, false, false, false, false, false, false, false, false, false, false, false]) (by kernel_rfl) ?_
    refine WA.ex 10 rfl (by kernel_rfl) (by kernel_rfl) (by kernel_rfl) rfl ⟨_, sR⟩ (fun w_ hS_ => ex_load1 (v := enc8 x121) rfl Tryd.underlying5 rfl (held_cell sR hS_ hk127 rfl cell126)) ?_
    refine WA.norm (listed' := #[true, true, true, true, true, true, true, true, true, true, true, false, false, false, false, false, false, false, false, false, false, false, false, false, false, false, false, false, false, false]) (by kernel_rfl) ?_
    refine WA.ex 11 rfl (by kernel_rfl) (by kernel_rfl) (by kernel_rfl) rfl ⟨_, sR⟩ (fun w_ hS_ => ex_bin (a := enc8 x121) (b := enc64 (4 : UInt64)) (v := enc8 (shr8 x121 4)) rfl rfl (bin_shr_u8n (n := 4))) ?_
    refine WA.norm (listed' := #[true, true, true, true, true, true, true, true, true, true, true, true, false, false, false, false, false, false, false, false, false, false, false, false, false, false, false, false, false, false]) (by kernel_rfl) ?_
    refine WA.ex 12 rfl (by kernel_rfl) (by kernel_rfl) (by kernel_rfl) rfl ⟨_, sR⟩ (fun w_ hS_ => ex_bin (a := enc8 (shr8 x121 4)) (b := enc8 (1 : UInt8)) (v := enc8 ((shr8 x121 4) + (1 : UInt8))) rfl rfl bin_add_u8) ?_
    refine WA.norm (listed' := #[true, true, true, true, true, true, true, true, true, true, true, true, true, false, false, false, false, false, false, false, false, false, false, false, false, false, false, false, false, false]) (by kernel_rfl) ?_
    obtain ⟨y128, hy128, H⟩ := bindE H
    refine WA.ex 13 rfl (by kernel_rfl) (by kernel_rfl) (by kernel_rfl) rfl ⟨_, sR⟩ (fun w_ hS_ => ex_slice_str (l := ((shr8 x114 4).toNat : Int)) (h := (((shr8 x121 4) + (1 : UInt8)).toNat : Int)) rfl Tryd.underlying9 ⟨_, rfl⟩ ⟨_, rfl⟩ hy128) ?_
    refine WA.norm (listed' := #[true, true, true, true, true, true, true, true, true, true, true, true, true, true, false, false, false, false, false, false, false, false, false, false, false, false, false, false, false, false]) (by kernel_rfl) ?_
    obtain ⟨u129, hu129, H⟩ := bindE H
    refine WA.ex 14 rfl (by kernel_rfl) (by kernel_rfl) (by kernel_rfl) rfl ⟨_, sR⟩ (fun w_ hS_ => ex_bin (a := encS x101) (b := encS y128) (v := encS (x101 ++ y128)) rfl rfl (bin_add_str (of_decide_eq_true (chk_true hu129)))) ?_
    refine WA.norm (listed' := #[true, true, true, true, true, true, true, true, true, true, true, true, true, true, true, false, false, false, false, false, false, false, false, false, false, false, false, false, false, false]) (by kernel_rfl) ?_
    refine WA.ex 15 rfl (by kernel_rfl) (by kernel_rfl) (by kernel_rfl) rfl ⟨_, sR⟩ (fun w_ hS_ => ex_move (v := encS ([48, 49, 50, 51, 52, 53, 54, 55, 56, 57, 97, 98, 99, 100, 101, 102] : List UInt8)) s3_100) ?_
    refine WA.norm (listed' := #[true, true, true, true, true, true, true, true, true, true, true, true, true, true, true, true, false, false, false, false, false, false, false, false, false, false, false, false, false, false]) (by kernel_rfl) ?_
    refine WA.ex 16 rfl (by kernel_rfl) (by kernel_rfl) (by kernel_rfl) rfl ⟨_, sR⟩ (fun w_ hS_ => ex_move (v := .slice pA0 a0.length pc0) s0_100) ?_
    refine WA.norm (listed' := #[true, true, true, true, true, true, true, true, true, true, true, true, true, true, true, true, true, false, false, false, false, false, false, false, false, false, false, false, false, false]) (by kernel_rfl) ?_
    refine WA.ex 17 rfl (by kernel_rfl) (by kernel_rfl) (by kernel_rfl) rfl ⟨_, sR⟩ (fun w_ hS_ => ex_move (v := .int .i64 x102) s5_102) ?_
    refine WA.norm (listed' := #[true, true, true, true, true, true, true, true, true, true, true, true, true, true, true, true, true, true, false, false, false, false, false, false, false, false, false, false, false, false]) (by kernel_rfl) ?_
    obtain ⟨x130, hx130, H⟩ := bindE H
    obtain ⟨ad131, e132, g133, g134, cell135⟩ := Row.ixS hra0D hx130
    have hk136 := Row.at hra0D e132 hx130 (x102.toNat * 1)
    replace cell135 := held_cell (Step.refl _ _ _) ⟨_, sR⟩ hk136 rfl cell135
    refine WA.ex 18 rfl (by kernel_rfl) (by kernel_rfl) (by kernel_rfl) rfl ⟨_, sR⟩ (fun w_ hS_ => ex_indexAddr (i := x102) rfl e132 rfl Tryd.underlying24 sz5 g133 g134) ?_
    refine WA.norm (listed' := #[true, true, true, true, true, true, true, true, true, true, true, true, true, true, true, true, true, true, true, false, false, false, false, false, false, false, false, false, false, false]) (by kernel_rfl) ?_
    refine WA.ex 19 rfl (by kernel_rfl) (by kernel_rfl) (by kernel_rfl) rfl ⟨_, sR⟩ (fun w_ hS_ => ex_load1 (v := enc8 x130) rfl Tryd.underlying5 rfl (held_cell sR hS_ hk136 rfl cell135)) ?_
    refine WA.norm (listed' := #[true, true, true, true, true, true, true, true, true, true, true, true, true, true, true, true, true, true, true, true, false, false, false, false, false, false, false, false, false, false]) (by kernel_rfl) ?_
    refine WA.ex 20 rfl (by kernel_rfl) (by kernel_rfl) (by kernel_rfl) rfl ⟨_, sR⟩ (fun w_ hS_ => ex_bin (a := enc8 x130) (b := enc8 (15 : UInt8)) (v := enc8 (x130 &&& (15 : UInt8))) rfl rfl bin_and_u8) ?_
    refine WA.norm (listed' := #[true, true, true, true, true, true, true, true, true, true, true, true, true, true, true, true, true, true, true, true, true, false, false, false, false, false, false, false, false, false]) (by kernel_rfl) ?_
    refine WA.ex 21 rfl (by kernel_rfl) (by kernel_rfl) (by kernel_rfl) rfl ⟨_, sR⟩ (fun w_ hS_ => ex_move (v := .slice pA0 a0.length pc0) s0_100) ?_
    refine WA.norm (listed' := #[true, true, true, true, true, true, true, true, true, true, true, true, true, true, true, true, true, true, true, true, true, true, false, false, false, false, false, false, false, false]) (by kernel_rfl) ?_
    refine WA.ex 22 rfl (by kernel_rfl) (by kernel_rfl) (by kernel_rfl) rfl ⟨_, sR⟩ (fun w_ hS_ => ex_move (v := .int .i64 x102) s5_102) ?_
    refine WA.norm (listed' := #[true, true, true, true, true, true, true, true, true, true, true, true, true, true, true, true, true, true, true, true, true, true, true, false, false, false, false, false, false, false]) (by kernel_rfl) ?_
    obtain ⟨x137, hx137, H⟩ := bindE H
    obtain ⟨ad138, e139, g140, g141, cell142⟩ := Row.ixS hra0D hx137
    have hk143 := Row.at hra0D e139 hx137 (x102.toNat * 1)
    replace cell142 := held_cell (Step.refl _ _ _) ⟨_, sR⟩ hk143 rfl cell142
    refine WA.ex 23 rfl (by kernel_rfl) (by kernel_rfl) (by kernel_rfl) rfl ⟨_, sR⟩ (fun w_ hS_ => ex_indexAddr (i := x102) rfl e139 rfl Tryd.underlying24 sz5 g140 g141) ?_
    refine WA.norm (listed' := #[true, true, true, true, true, true, true, true, true, true, true, true, true, true, true, true, true, true, true, true, true, true, true, true, false, false, false, false, false, false]) (by kernel_rfl) ?_
    refine WA.ex 24 rfl (by kernel_rfl) (by kernel_rfl) (by kernel_rfl) rfl ⟨_, sR⟩ (fun w_ hS_ => ex_load1 (v := enc8 x137) rfl Tryd.underlying5 rfl (held_cell sR hS_ hk143 rfl cell142)) ?_
    refine WA.norm (listed' := #[true, true, true, true, true, true, true, true, true, true, true, true, true, true, true, true, true, true, true, true, true, true, true, true, true, false, false, false, false, false]) (by kernel_rfl) ?_
    refine WA.ex 25 rfl (by kernel_rfl) (by kernel_rfl) (by kernel_rfl) rfl ⟨_, sR⟩ (fun w_ hS_ => ex_bin (a := enc8 x137) (b := enc8 (15 : UInt8)) (v := enc8 (x137 &&& (15 : UInt8))) rfl rfl bin_and_u8) ?_
    refine WA.norm (listed' := #[true, true, true, true, true, true, true, true, true, true, true, true, true, true, true, true, true, true, true, true, true, true, true, true, true, true, false, false, false, false]) (by kernel_rfl) ?_
    refine WA.ex 26 rfl (by kernel_rfl) (by kernel_rfl) (by kernel_rfl) rfl ⟨_, sR⟩ (fun w_ hS_ => ex_bin (a := enc8 (x137 &&& (15 : UInt8))) (b := enc8 (1 : UInt8)) (v := enc8 ((x137 &&& (15 : UInt8)) + (1 : UInt8))) rfl rfl bin_add_u8) ?_
    refine WA.norm (listed' := #[true, true, true, true, true, true, true, true, true, true, true, true, true, true, true, true, true, true, true, true, true, true, true, true, true, true, true, false, false, false]) (by kernel_rfl) ?_
    obtain ⟨y144, hy144, H⟩ := bindE H
    refine WA.ex 27 rfl (by kernel_rfl) (by kernel_rfl) (by kernel_rfl) rfl ⟨_, sR⟩ (fun w_ hS_ => ex_slice_str (l := ((x130 &&& (15 : UInt8)).toNat : Int)) (h := (((x137 &&& (15 : UInt8)) + (1 : UInt8)).toNat : Int)) rfl Tryd.underlying9 ⟨_, rfl⟩ ⟨_, rfl⟩ hy144) ?_
    refine WA.norm (listed' := #[true, true, true, true, true, true, true, true, true, true, true, true, true, true, true, true, true, true, true, true, true, true, true, true, true, true, true, true, false, false]) (by kernel_rfl) ?_
    obtain ⟨u145, hu145, H⟩ := bindE H
    refine WA.ex 28 rfl (by kernel_rfl) (by kernel_rfl) (by kernel_rfl) rfl ⟨_, sR⟩ (fun w_ hS_ => ex_bin (a := encS (x101 ++ y128)) (b := encS y144) (v := encS ((x101 ++ y128) ++ y144)) rfl rfl (bin_add_str (of_decide_eq_true (chk_true hu145)))) ?_
    refine WA.norm (listed' := #[true, true, true, true, true, true, true, true, true, true, true, true, true, true, true, true, true, true, true, true, true, true, true, true, true, true, true, true, true, false]) (by kernel_rfl) ?_
    refine WA.ex 29 rfl (by kernel_rfl) (by kernel_rfl) (by kernel_rfl) rfl ⟨_, sR⟩ (fun w_ hS_ => ex_assign (v := encS ((x101 ++ y128) ++ y144)) rfl) ?_
    refine WA.norm (listed' := #[true, true, true, true, true, true, true, true, true, true, true, true, true, true, true, true, true, true, true, true, true, true, true, true, true, true, true, true, true, true]) (by kernel_rfl) ?_
    refine WA.done (by kernel_rfl) ?_
    refine WC.region ?_
    refine WL.ex rfl (ex_move (v := .int .i64 x102) s5_102) ?_
    refine WL.ex rfl (ex_bin (a := .int .i64 x102) (b := .int .i64 1) (v := .int .i64 (wrap64 (x102 + 1))) rfl rfl bin_add64) ?_
    refine WL.ex rfl (ex_assign (v := .int .i64 (wrap64 (x102 + 1))) rfl) ?_
    refine WL.nil ?_
    exact ⟨k107, Nat.lt_succ_self _, ⟨_, ((x101 ++ y128) ++ y144), wrap64 (x102 + 1), HF, hra0, s0_100, s2_100, s3_100, rfl, rfl, H⟩⟩
  ·
    refine WC.cond_f ((show _ = Value.bool (decide (x102 < (a0.length : Int))) from rfl).trans (congrArg Value.bool c111)) ?_
    refine WC.exit ?_
    obtain rfl := Option.some.inj H
    exact ⟨_, HF, s2_100, s4_101⟩

/-! ### dictumref01_Same -/
set_option maxRecDepth 100000 in
theorem dictumref01_Same.calls (k : Nat) (o0 : Tags) (w0 : World) (pA0 : Option Addr) (pc0 : Nat) (pA1 : Option Addr) (pc1 : Nat) (a0 : (List UInt8)) (a1 : (List UInt8)) (r : Bool) (hO : ∀ b, b < w0.heap.size → o0 b < 10) (hra0 : Row Rep.u8 (fun b_ => o0 b_ = 0) (fun b_ => o0 b_ = 0) w0 pA0 a0) (hla0 : a0.length ≤ pc0) (hra1 : Row Rep.u8 (fun b_ => o0 b_ = 0) (fun b_ => o0 b_ = 0) w0 pA1 a1) (hla1 : a1.length ≤ pc1) (H : dictumref01_Same.f k a0 a1 = some r) :
    Calls Tryd.prog 11 [.slice pA0 a0.length pc0, .slice pA1 a1.length pc1].toArray w0 fun e_ w_ => ∃ (o_ : Tags), e_ = .returned (one [.bool r]) ∧ Step o0 w0 o_ w_ [] := by
  have HF := Fm.refl hO []
  unfold dictumref01_Same.f at H
  refine SX.calls [.slice pA0 a0.length pc0, .slice pA1 a1.length pc1] Tryd.func11 rfl rfl ?_
  rw [Tryd.ntmps11]
  refine WC.seq ?_
  refine WC.region ?_
  refine WL.ex rfl (ex_assign (v := .bool false) rfl) ?_
  refine WL.nil ?_
  refine WC.seq ?_
  refine WC.seq ?_
  refine WC.region ?_
  refine WL.ex rfl (ex_move (v := .slice pA0 a0.length pc0) rfl) ?_
  refine WL.ex rfl (ex_len_slice (A := pA0) (m := a0.length) (c := pc0) rfl Tryd.underlying24) ?_
  refine WL.ex rfl (ex_move (v := .slice pA1 a1.length pc1) rfl) ?_
  refine WL.ex rfl (ex_len_slice (A := pA1) (m := a1.length) (c := pc1) rfl Tryd.underlying24) ?_
  refine WL.ex rfl (ex_bin (a := .int .i64 (a0.length : Int)) (b := .int .i64 (a1.length : Int)) (v := .bool ((a0.length : Int) != (a1.length : Int))) rfl rfl bin_neq) ?_
  refine WL.nil ?_
  rcases condE H with ⟨c101, H⟩ | ⟨c101, H⟩
  ·
    refine WC.cond_t ((show _ = Value.bool ((a0.length : Int) != (a1.length : Int)) from rfl).trans (congrArg Value.bool c101)) ?_
    refine WC.seq ?_
    refine WC.region ?_
    refine WL.ex rfl (ex_assign (v := .bool false) rfl) ?_
    refine WL.nil ?_
    refine WC.ret ?_
    obtain rfl := Option.some.inj H
    exact ⟨_, (.tmp (.bool false : Value) rfl .nil), _, rfl, HF.out⟩
  ·
    refine WC.cond_f ((show _ = Value.bool ((a0.length : Int) != (a1.length : Int)) from rfl).trans (congrArg Value.bool c101)) ?_
    refine WC.skip ?_
    refine WC.seq ?_
    refine WC.seq ?_
    refine WC.region ?_
    refine WL.ex rfl (ex_assign (v := .int .i64 0) rfl) ?_
    refine WL.nil ?_
    obtain ⟨z103, hz103, H⟩ := bindE H
    refine WC.for (fun k_ ρ_ w_ => ∃ (o_ : Tags) (x102 : Int), Fm o0 w0 o_ w_ [] ∧ Row Rep.u8 (fun b_ => o_ b_ = 0) (fun b_ => o_ b_ = 0) w_ pA0 a0 ∧ Row Rep.u8 (fun b_ => o_ b_ = 0) (fun b_ => o_ b_ = 0) w_ pA1 a1 ∧ ρ_ 0 = .slice pA0 a0.length pc0 ∧ ρ_ 1 = .slice pA1 a1.length pc1 ∧ ρ_ 4 = .bool false ∧ ρ_ 5 = .int .i64 x102 ∧ dictumref01_Same.l1 k a0 a1 k_ x102 = some z103) k (fun ρ_ w_ => ∃ (o_ : Tags), Fm o0 w0 o_ w_ [] ∧ ρ_ 4 = .bool false ∧ z103 = .inr ()) ⟨_, 0, HF, hra0, hra1, rfl, rfl, rfl, rfl, hz103⟩ ?case104 ?_
    case case104 =>
      rintro ρ130 w128 ⟨o129, HF, s4_102, rfl⟩
      dsimp only at H
      refine WC.seq ?_
      refine WC.region ?_
      refine WL.ex rfl (ex_assign (v := .bool true) rfl) ?_
      refine WL.nil ?_
      refine WC.ret ?_
      obtain rfl := Option.some.inj H
      exact ⟨_, (.tmp (.bool true : Value) rfl .nil), _, rfl, HF.out⟩
    have Ho105 := H
    rintro k106 ρ107 w108 ⟨o109, x102, HF, hra0, hra1, s0_101, s1_101, s4_101, s5_102, H⟩
    cases k106 with
    | zero => cases H
    | succ k106 =>
    rw [dictumref01_Same.l1.eq_2] at H
    refine WC.seq ?_
    refine WC.seq ?_
    refine WC.region ?_
    refine WL.ex rfl (ex_move (v := .int .i64 x102) s5_102) ?_
    refine WL.ex rfl (ex_move (v := .slice pA0 a0.length pc0) s0_101) ?_
    refine WL.ex rfl (ex_len_slice (A := pA0) (m := a0.length) (c := pc0) rfl Tryd.underlying24) ?_
    refine WL.ex rfl (ex_bin (a := .int .i64 x102) (b := .int .i64 (a0.length : Int)) (v := .bool (decide (x102 < (a0.length : Int)))) rfl rfl bin_lss) ?_
    refine WL.nil ?_
    rcases condE H with ⟨c110, H⟩ | ⟨c110, H⟩
    ·
      refine WC.cond_t ((show _ = Value.bool (decide (x102 < (a0.length : Int))) from rfl).trans (congrArg Value.bool c110)) ?_
      refine WC.skip ?_
      refine WC.seq ?_
      refine WC.block ?_
      refine WC.seq ?_
      refine WC.regionD' HF [] 9 (by kernel_rfl) rfl ?_
      intro w111 s112
      replace hra0 := hra0.step s112 rfl
      replace hra1 := hra1.step s112 rfl
      replace HF := HF.step s112 rfl
      have hra0D := hra0
      have hra1D := hra1
      have sR := HF.here []
      refine WA.norm (listed' := #[false, false, false, false, false, false, false, false, false]) (by kernel_rfl) ?_
      refine WA.ex 0 rfl (by kernel_rfl) (by kernel_rfl) (by kernel_rfl) rfl ⟨_, sR⟩ (fun w_ hS_ => ex_move (v := .slice pA0 a0.length pc0) s0_101) ?_
      refine WA.norm (listed' := #[true, false, false, false, false, false, false, false, false]) (by kernel_rfl) ?_
      refine WA.ex 1 rfl (by kernel_rfl) (by kernel_rfl) (by kernel_rfl) rfl ⟨_, sR⟩ (fun w_ hS_ => ex_move (v := .int .i64 x102) s5_102) ?_
      refine WA.norm (listed' := #[true, true, false, false, false, false, false, false, false]) (by kernel_rfl) ?_
      obtain ⟨x113, hx113, H⟩ := bindE H
      obtain ⟨ad114, e115, g116, g117, cell118⟩ := Row.ixS hra0D hx113
      have hk119 := Row.at hra0D e115 hx113 (x102.toNat * 1)
      replace cell118 := held_cell (Step.refl _ _ _) ⟨_, sR⟩ hk119 rfl cell118
      refine WA.ex 2 rfl (by kernel_rfl) (by kernel_rfl) (by kernel_rfl) rfl ⟨_, sR⟩ (fun w_ hS_ => ex_indexAddr (i := x102) rfl e115 rfl Tryd.underlying24 sz5 g116 g117) ?_
      refine WA.norm (listed' := #[true, true, true, false, false, false, false, false, false]) (by kernel_rfl) ?_
      refine WA.ex 3 rfl (by kernel_rfl) (by kernel_rfl) (by kernel_rfl) rfl ⟨_, sR⟩ (fun w_ hS_ => ex_load1 (v := enc8 x113) rfl Tryd.underlying5 rfl (held_cell sR hS_ hk119 rfl cell118)) ?_
      refine WA.norm (listed' := #[true, true, true, true, false, false, false, false, false]) (by kernel_rfl) ?_
      refine WA.ex 4 rfl (by kernel_rfl) (by kernel_rfl) (by kernel_rfl) rfl ⟨_, sR⟩ (fun w_ hS_ => ex_move (v := .slice pA1 a1.length pc1) s1_101) ?_
      refine WA.norm (listed' := #[true, true, true, true, true, false, false, false, false]) (by kernel_rfl) ?_
      refine WA.ex 5 rfl (by kernel_rfl) (by kernel_rfl) (by kernel_rfl) rfl ⟨_, sR⟩ (fun w_ hS_ => ex_move (v := .int .i64 x102) s5_102) ?_
      refine WA.norm (listed' := #[true, true, true, true, true, true, false, false, false]) (by kernel_rfl) ?_
      obtain ⟨x120, hx120, H⟩ := bindE H
      obtain ⟨ad121, e122, g123, g124, cell125⟩ := Row.ixS hra1D hx120
      have hk126 := Row.at hra1D e122 hx120 (x102.toNat * 1)
      replace cell125 := held_cell (Step.refl _ _ _) ⟨_, sR⟩ hk126 rfl cell125
      refine WA.ex 6 rfl (by kernel_rfl) (by kernel_rfl) (by kernel_rfl) rfl ⟨_, sR⟩ (fun w_ hS_ => ex_indexAddr (i := x102) rfl e122 rfl Tryd.underlying24 sz5 g123 g124) ?_
      refine WA.norm (listed' := #[true, true, true, true, true, true, true, false, false]) (by kernel_rfl) ?_
      refine WA.ex 7 rfl (by kernel_rfl) (by kernel_rfl) (by kernel_rfl) rfl ⟨_, sR⟩ (fun w_ hS_ => ex_load1 (v := enc8 x120) rfl Tryd.underlying5 rfl (held_cell sR hS_ hk126 rfl cell125)) ?_
      refine WA.norm (listed' := #[true, true, true, true, true, true, true, true, false]) (by kernel_rfl) ?_
      refine WA.ex 8 rfl (by kernel_rfl) (by kernel_rfl) (by kernel_rfl) rfl ⟨_, sR⟩ (fun w_ hS_ => ex_bin (a := enc8 x113) (b := enc8 x120) (v := .bool (!(x113 == x120))) rfl rfl bin_neq_u8) ?_
      refine WA.norm (listed' := #[true, true, true, true, true, true, true, true, true]) (by kernel_rfl) ?_
      refine WA.done (by kernel_rfl) ?_
      rcases condE H with ⟨c127, H⟩ | ⟨c127, H⟩
      ·
        refine WC.cond_t ((show _ = Value.bool (!(x113 == x120)) from rfl).trans (congrArg Value.bool c127)) ?_
        refine WC.seq ?_
        refine WC.region ?_
        refine WL.ex rfl (ex_assign (v := .bool false) rfl) ?_
        refine WL.nil ?_
        refine WC.ret ?_
        obtain rfl := Option.some.inj H
        replace H := Ho105
        dsimp only at H
        obtain rfl := Option.some.inj H
        exact ⟨_, (.tmp (.bool false : Value) rfl .nil), _, rfl, HF.out⟩
      ·
        refine WC.cond_f ((show _ = Value.bool (!(x113 == x120)) from rfl).trans (congrArg Value.bool c127)) ?_
        refine WC.skip ?_
        refine WC.region ?_
        refine WL.ex rfl (ex_move (v := .int .i64 x102) s5_102) ?_
        refine WL.ex rfl (ex_bin (a := .int .i64 x102) (b := .int .i64 1) (v := .int .i64 (wrap64 (x102 + 1))) rfl rfl bin_add64) ?_
        refine WL.ex rfl (ex_assign (v := .int .i64 (wrap64 (x102 + 1))) rfl) ?_
        refine WL.nil ?_
        exact ⟨k106, Nat.lt_succ_self _, ⟨_, wrap64 (x102 + 1), HF, hra0, hra1, s0_101, s1_101, s4_101, rfl, H⟩⟩
    ·
      refine WC.cond_f ((show _ = Value.bool (decide (x102 < (a0.length : Int))) from rfl).trans (congrArg Value.bool c110)) ?_
      refine WC.exit ?_
      obtain rfl := Option.some.inj H
      exact ⟨_, HF, s4_101, rfl⟩

/-! ### dictumref01_Dec -/
set_option maxRecDepth 100000 in
theorem dictumref01_Dec.calls (k : Nat) (o0 : Tags) (w0 : World) (a0 : Int) (r : (List UInt8)) (hO : ∀ b, b < w0.heap.size → o0 b < 10) (H : dictumref01_Dec.f k a0 = some r) :
    Calls Tryd.prog 38 [.int .i64 a0].toArray w0 fun e_ w_ => ∃ (o_ : Tags), e_ = .returned (one [encS r]) ∧ Step o0 w0 o_ w_ [] := by
  have HF := Fm.refl hO []
  unfold dictumref01_Dec.f at H
  refine SX.calls [.int .i64 a0] Tryd.func38 rfl rfl ?_
  rw [Tryd.ntmps38]
  refine WC.seq ?_
  refine WC.region ?_
  refine WL.ex rfl (ex_assign (v := encS ([] : List UInt8)) rfl) ?_
  refine WL.nil ?_
  refine WC.seq ?_
  refine WC.region ?_
  refine WL.ex rfl (ex_move (v := .int .i64 a0) rfl) ?_
  refine WL.ex rfl (ex_conv_u64 (k := .i64) (a := a0) rfl Tryd.underlying3 Tryd.underlying29) ?_
  refine WL.ex rfl (ex_assign (v := enc64 (ofI64 a0)) rfl) ?_
  refine WL.nil ?_
  refine WC.seq ?_
  refine WC.region ?_
  refine WL.ex rfl (ex_assign (v := encS ([] : List UInt8)) rfl) ?_
  refine WL.nil ?_
  obtain ⟨z103, hz103, H⟩ := bindE H
  obtain ⟨x101, x102⟩ := z103
  refine WC.cut (fun ρ_ w_ => ∃ (o_ : Tags), Fm o0 w0 o_ w_ [] ∧ ρ_ 2 = encS ([] : List UInt8) ∧ ρ_ 3 = enc64 x101 ∧ ρ_ 4 = encS x102) ?case104 ?_
  case case104 =>
    rintro ρ107 w105 ⟨o106, HF, s2_100, s3_101, s4_102⟩
    refine WC.seq ?_
    refine WC.region ?_
    refine WL.ex rfl (ex_assign (v := encS ([] : List UInt8)) rfl) ?_
    refine WL.nil ?_
    refine WC.seq ?_
    obtain ⟨z111, hz111, H⟩ := bindE H
    refine WC.for (fun k_ ρ_ w_ => ∃ (o_ : Tags) (x108 : UInt64) (x109 : List UInt8), Fm o0 w0 o_ w_ [] ∧ ρ_ 2 = encS ([] : List UInt8) ∧ ρ_ 3 = enc64 x108 ∧ ρ_ 4 = encS x102 ∧ ρ_ 5 = encS x109 ∧ dictumref01_Dec.l1 k k_ x108 x109 = some z111) k (fun ρ_ w_ => ∃ (o_ : Tags), Fm o0 w0 o_ w_ [] ∧ ρ_ 2 = encS ([] : List UInt8) ∧ ρ_ 4 = encS x102 ∧ ρ_ 5 = encS z111) ⟨_, x101, ([] : List UInt8), HF, s2_100, s3_101, s4_102, rfl, hz111⟩ ?case112 ?_
    case case112 =>
      rintro ρ140 w138 ⟨o139, HF, s2_109, s4_109, s5_110⟩
      refine WC.seq ?_
      refine WC.region ?_
      refine WL.ex rfl (ex_move (v := encS x102) s4_109) ?_
      refine WL.ex rfl (ex_move (v := encS z111) s5_110) ?_
      obtain ⟨u141, hu141, H⟩ := bindE H
      refine WL.ex rfl (ex_bin (a := encS x102) (b := encS z111) (v := encS (x102 ++ z111)) rfl rfl (bin_add_str (of_decide_eq_true (chk_true hu141)))) ?_
      refine WL.ex rfl (ex_assign (v := encS (x102 ++ z111)) rfl) ?_
      refine WL.nil ?_
      refine WC.ret ?_
      obtain rfl := Option.some.inj H
      exact ⟨_, (.tmp (encS (x102 ++ z111) : Value) rfl .nil), _, rfl, HF.out⟩
    have Ho113 := H
    rintro k114 ρ115 w116 ⟨o117, x108, x109, HF, s2_107, s3_108, s4_108, s5_109, H⟩
    cases k114 with
    | zero => cases H
    | succ k114 =>
    rw [dictumref01_Dec.l1.eq_2] at H
    refine WC.seq ?_
    obtain ⟨z119, hz119, H⟩ := bindE H
    refine WC.cut (fun ρ_ w_ => ∃ (o_ : Tags), Fm o0 w0 o_ w_ [] ∧ ρ_ 2 = encS ([] : List UInt8) ∧ ρ_ 3 = enc64 x108 ∧ ρ_ 4 = encS x102 ∧ ρ_ 5 = encS x109 ∧ ρ_ 17 = .bool z119) ?case120 ?_
    case case120 =>
      rintro ρ123 w121 ⟨o122, HF, s2_117, s3_117, s4_117, s5_117, s17_118⟩
      rcases condE H with ⟨c124, H⟩ | ⟨c124, H⟩
      ·
        refine WC.cond_t ((show _ = Value.bool z119 from s17_118).trans (congrArg Value.bool c124)) ?_
        refine WC.skip ?_
        refine WC.block ?_
        refine WC.seq ?_
        refine WC.region ?_
        refine WL.ex rfl (ex_move (v := enc64 x108) s3_117) ?_
        obtain ⟨u125, hu125, H⟩ := bindE H
        refine WL.ex rfl (ex_bin (a := enc64 x108) (b := enc64 (10 : UInt64)) (v := enc64 (x108 % (10 : UInt64))) rfl rfl (bin_rem_u64 (by have h_ := chk_true hu125; simpa using h_))) ?_
        refine WL.ex rfl (ex_bin (a := enc64 (48 : UInt64)) (b := enc64 (x108 % (10 : UInt64))) (v := enc64 ((48 : UInt64) + (x108 % (10 : UInt64)))) rfl rfl bin_add_u64) ?_
        refine WL.ex rfl (ex_conv_u8 (k := .u64) (a := (((48 : UInt64) + (x108 % (10 : UInt64))).toNat : Int)) rfl Tryd.underlying29 Tryd.underlying5) ?_
        refine WL.op rfl ?_
        refine OW.row (r := Rep.u8) (xs := [ofI8 (((48 : UInt64) + (x108 % (10 : UInt64))).toNat : Int)]) [(0, enc8 (ofI8 (((48 : UInt64) + (x108 % (10 : UInt64))).toNat : Int)))] [[enc8 (ofI8 (((48 : UInt64) + (x108 % (10 : UInt64))).toNat : Int))]] 10 HF rfl Tryd.underlying24 sz5 zr5 rfl (evs_cons rfl rfl) rfl rfl ⟨rfl, trivial⟩ rfl rfl rfl rfl ?_
        intro o126 w127 v129 s128 hO130
        replace HF := HF.step s128 rfl
        obtain ⟨A131, c132, q133_, _, q133⟩ := hO130.row
        refine WL.ex rfl (ex_bytes_str (by rw [← q133_]; exact rfl) Tryd.underlying24 Tryd.underlying5 Tryd.underlying9 q133) ?_
        refine WL.ex rfl (ex_move (v := encS x109) s5_117) ?_
        obtain ⟨u134, hu134, H⟩ := bindE H
        refine WL.ex rfl (ex_bin (a := encS [ofI8 (((48 : UInt64) + (x108 % (10 : UInt64))).toNat : Int)]) (b := encS x109) (v := encS ([ofI8 (((48 : UInt64) + (x108 % (10 : UInt64))).toNat : Int)] ++ x109)) rfl rfl (bin_add_str (of_decide_eq_true (chk_true hu134)))) ?_
        refine WL.ex rfl (ex_assign (v := encS ([ofI8 (((48 : UInt64) + (x108 % (10 : UInt64))).toNat : Int)] ++ x109)) rfl) ?_
        refine WL.nil ?_
        refine WC.region ?_
        refine WL.ex rfl (ex_move (v := enc64 x108) s3_117) ?_
        obtain ⟨u135, hu135, H⟩ := bindE H
        refine WL.ex rfl (ex_bin (a := enc64 x108) (b := enc64 (10 : UInt64)) (v := enc64 (x108 / (10 : UInt64))) rfl rfl (bin_quo_u64 (by have h_ := chk_true hu135; simpa using h_))) ?_
        refine WL.ex rfl (ex_assign (v := enc64 (x108 / (10 : UInt64))) rfl) ?_
        refine WL.nil ?_
        exact ⟨k114, Nat.lt_succ_self _, ⟨_, (x108 / (10 : UInt64)), ([ofI8 (((48 : UInt64) + (x108 % (10 : UInt64))).toNat : Int)] ++ x109), HF, s2_117, rfl, s4_117, rfl, H⟩⟩
      ·
        refine WC.cond_f ((show _ = Value.bool z119 from s17_118).trans (congrArg Value.bool c124)) ?_
        refine WC.exit ?_
        obtain rfl := Option.some.inj H
        exact ⟨_, HF, s2_117, s4_117, s5_117⟩
    have Ho136 := H
    replace H := hz119
    refine WC.region ?_
    refine WL.ex rfl (ex_move (v := enc64 x108) s3_108) ?_
    refine WL.ex rfl (ex_bin (a := enc64 x108) (b := enc64 (0 : UInt64)) (v := .bool (decide ((0 : UInt64) < x108))) rfl rfl bin_gtr_u64) ?_
    refine WL.ex rfl (ex_move (v := .bool (decide ((0 : UInt64) < x108))) rfl) ?_
    rcases condE H with ⟨c137, H⟩ | ⟨c137, H⟩
    ·
      refine WL.guardNo rfl rfl rfl ((show _ = Value.bool (decide ((0 : UInt64) < x108)) from rfl).trans (congrArg Value.bool c137)) ?_
      refine WL.guardNo rfl rfl rfl ((show _ = Value.bool (decide ((0 : UInt64) < x108)) from rfl).trans (congrArg Value.bool c137)) ?_
      refine WL.ex rfl (ex_pick_t (v := .bool true) ((show _ = Value.bool (decide ((0 : UInt64) < x108)) from rfl).trans (congrArg Value.bool c137)) rfl) ?_
      refine WL.nil ?_
      obtain rfl := Option.some.inj H
      exact ⟨_, HF, s2_107, s3_108, s4_108, s5_109, rfl⟩
    ·
      refine WL.guardYes rfl rfl rfl ((show _ = Value.bool (decide ((0 : UInt64) < x108)) from rfl).trans (congrArg Value.bool c137)) ?_
      refine OW.ex rfl (ex_move (v := encS x109) s5_109) ?_
      refine WL.guardYes rfl rfl rfl ((show _ = Value.bool (decide ((0 : UInt64) < x108)) from rfl).trans (congrArg Value.bool c137)) ?_
      refine OW.ex rfl (ex_bin (a := encS x109) (b := encS ([] : List UInt8)) (v := .bool (x109 == ([] : List UInt8))) rfl rfl bin_eql_str) ?_
      refine WL.ex rfl (ex_pick_f (v := .bool (x109 == ([] : List UInt8))) ((show _ = Value.bool (decide ((0 : UInt64) < x108)) from rfl).trans (congrArg Value.bool c137)) rfl) ?_
      refine WL.nil ?_
      obtain rfl := Option.some.inj H
      exact ⟨_, HF, s2_107, s3_108, s4_108, s5_109, rfl⟩
  have Ho142 := H
  replace H := hz103
  refine WC.seq ?_
  refine WC.region ?_
  refine WL.ex rfl (ex_move (v := .int .i64 a0) rfl) ?_
  refine WL.ex rfl (ex_bin (a := .int .i64 a0) (b := .int .i64 0) (v := .bool (decide (a0 < 0))) rfl rfl bin_lss) ?_
  refine WL.nil ?_
  rcases condE H with ⟨c143, H⟩ | ⟨c143, H⟩
  ·
    refine WC.cond_t ((show _ = Value.bool (decide (a0 < 0)) from rfl).trans (congrArg Value.bool c143)) ?_
    refine WC.seq ?_
    refine WC.region ?_
    refine WL.ex rfl (ex_move (v := enc64 (ofI64 a0)) rfl) ?_
    refine WL.ex rfl (ex_bin (a := enc64 (0 : UInt64)) (b := enc64 (ofI64 a0)) (v := enc64 ((0 : UInt64) - (ofI64 a0))) rfl rfl bin_sub_u64) ?_
    refine WL.ex rfl (ex_assign (v := enc64 ((0 : UInt64) - (ofI64 a0))) rfl) ?_
    refine WL.nil ?_
    refine WC.region ?_
    refine WL.ex rfl (ex_assign (v := encS ([45] : List UInt8)) rfl) ?_
    refine WL.nil ?_
    obtain ⟨rfl, rfl⟩ := Prod.mk.inj (Option.some.inj H)
    exact ⟨_, HF, rfl, rfl, rfl⟩
  ·
    refine WC.cond_f ((show _ = Value.bool (decide (a0 < 0)) from rfl).trans (congrArg Value.bool c143)) ?_
    refine WC.skip ?_
    obtain ⟨rfl, rfl⟩ := Prod.mk.inj (Option.some.inj H)
    exact ⟨_, HF, rfl, rfl, rfl⟩

/-! ### octet_Writer_U8 -/
set_option maxRecDepth 100000 in
theorem octet_Writer_U8.calls (o0 : Tags) (w0 : World) (pb0 : Nat) (pv0_0 : Value) (a0 : T_octet_Writer) (a1 : UInt8) (r : T_octet_Writer) (hO : ∀ b, b < w0.heap.size → o0 b < 10) (hB0 : Bk o0 w0 2 pb0 [pv0_0] 26) (hO0_0 : Own Rep.u8 5 3 o0 w0 pv0_0 a0.f_B) (H : octet_Writer_U8.f a0 a1 = some r) :
    Calls Tryd.prog 27 [.pointer (some ⟨pb0, 0, none⟩), enc8 a1].toArray w0 fun e_ w_ => ∃ (o_ : Tags) (u0_0 : Value), e_ = .returned (one []) ∧ Step o0 w0 o_ w_ [2, 3] ∧ Bk o_ w_ 2 pb0 [u0_0] 26 ∧ Own Rep.u8 5 3 o_ w_ u0_0 r.f_B := by
  have HF := Fm.refl hO [2, 3]
  unfold octet_Writer_U8.f at H
  refine SX.calls [.pointer (some ⟨pb0, 0, none⟩), enc8 a1] Tryd.func27 rfl rfl ?_
  rw [Tryd.ntmps27]
  refine WC.seq ?_
  refine WC.region ?_
  refine WL.ex rfl (ex_move (v := .pointer (some ⟨pb0, 0, none⟩)) rfl) ?_
  refine WL.ex rfl (ex_bin (a := .pointer (some ⟨pb0, 0, none⟩)) (b := .pointer none) (v := .bool true) rfl rfl (bin_neq_ptrSN Tryd.underlying23)) ?_
  refine WL.nil ?_
  refine WC.cond_t rfl ?_
  refine WC.region ?_
  refine WL.ex rfl (ex_move (v := .pointer (some ⟨pb0, 0, none⟩)) rfl) ?_
  refine WL.ex rfl (ex_move (v := .pointer (some ⟨pb0, 0, none⟩)) rfl) ?_
  refine WL.ex rfl (ex_nilCheck rfl) ?_
  refine WL.ex rfl (ex_fieldAddr rfl Tryd.underlying26 rfl sz24) ?_
  refine WL.ex rfl (ex_load1 (v := pv0_0) rfl Tryd.underlying24 rfl (hB0.cell rfl)) ?_
  refine WL.ex rfl (ex_move (v := enc8 a1) rfl) ?_
  refine WL.op rfl ?_
  refine OW.row (r := Rep.u8) (xs := [a1]) [(0, enc8 a1)] [[enc8 a1]] 10 HF rfl Tryd.underlying24 sz5 zr5 rfl (evs_cons rfl rfl) rfl rfl ⟨rfl, trivial⟩ rfl rfl rfl rfl ?_
  intro o101 w102 v104 s103 hO105
  replace hO0_0 := hO0_0.step s103 rfl rfl
  replace hB0 := hB0.step s103 rfl
  replace HF := HF.step s103 rfl
  obtain ⟨A106, c107, q108_, _, q108⟩ := hO105.row
  obtain ⟨u109, hu109, H⟩ := bindE H
  refine WL.op rfl ?_
  refine OW.append (r := Rep.u8) (E := 5) (i := 3) rfl Tryd.underlying24 inf5 rfl (by decide) (by decide) (by decide) rfl ((show _ = (v104 : Value) from rfl).trans q108_) hO0_0 q108 rfl (of_decide_eq_true (chk_true hu109)) ?_
  intro o110 w111 v112 s113 hO114
  replace hB0 := hB0.step s113 rfl
  replace hO105 := hO105.step s113 rfl rfl
  replace HF := HF.step s113 rfl
  refine WL.ex rfl (ex_nilCheck rfl) ?_
  refine WL.ex rfl (ex_fieldAddr rfl Tryd.underlying26 rfl sz24) ?_
  refine WL.op rfl ?_
  refine OW.store [v112] rfl (vs := [v112]) ((congrArg Value.cells (show ev _ _ = (v112 : Value) from rfl)).trans (Own.cells1 hO114)) sz24 hB0 (Nat.le_of_ble_eq_true rfl) (by intro u_ hu_; simp only [List.mem_cons, List.not_mem_nil, or_false] at hu_; rcases hu_ with rfl; first | rfl | exact Own.oneCell hO114) rfl ?_
  intro w115 s116 hB117
  replace hO105 := hO105.step s116 rfl rfl
  replace hO114 := hO114.step s116 rfl rfl
  replace HF := HF.step s116 rfl
  refine WL.nil ?_
  obtain rfl := Option.some.inj H
  exact ⟨_, .nil, _, v112, rfl, HF.out, hB117, hO114⟩

/-! ### octet_Writer_Num -/
set_option maxRecDepth 100000 in
theorem octet_Writer_Num.calls (k : Nat) (o0 : Tags) (w0 : World) (pb0 : Nat) (pv0_0 : Value) (a0 : T_octet_Writer) (a1 : UInt64) (r : T_octet_Writer) (hO : ∀ b, b < w0.heap.size → o0 b < 10) (hB0 : Bk o0 w0 2 pb0 [pv0_0] 26) (hO0_0 : Own Rep.u8 5 3 o0 w0 pv0_0 a0.f_B) (H : octet_Writer_Num.f k a0 a1 = some r) :
    Calls Tryd.prog 28 [.pointer (some ⟨pb0, 0, none⟩), enc64 a1].toArray w0 fun e_ w_ => ∃ (o_ : Tags) (u0_0 : Value), e_ = .returned (one []) ∧ Step o0 w0 o_ w_ [2, 3] ∧ Bk o_ w_ 2 pb0 [u0_0] 26 ∧ Own Rep.u8 5 3 o_ w_ u0_0 r.f_B := by
  have HF := Fm.refl hO [2, 3]
  unfold octet_Writer_Num.f at H
  refine SX.calls [.pointer (some ⟨pb0, 0, none⟩), enc64 a1] Tryd.func28 rfl rfl ?_
  rw [Tryd.ntmps28]
  refine WC.seq ?_
  obtain ⟨z109, hz109, H⟩ := bindE H
  obtain ⟨x105, x106⟩ := z109
  refine WC.for (fun k_ ρ_ w_ => ∃ (o_ : Tags) (x101 : UInt64) (x102 : T_octet_Writer) (v103 : Value), Fm o0 w0 o_ w_ [2, 3] ∧ Bk o_ w_ 2 pb0 [v103] 26 ∧ Own Rep.u8 5 3 o_ w_ v103 x102.f_B ∧ ρ_ 0 = .pointer (some ⟨pb0, 0, none⟩) ∧ ρ_ 1 = enc64 x101 ∧ octet_Writer_Num.l1 k k_ x101 x102 = some (x105, x106)) k (fun ρ_ w_ => ∃ (o_ : Tags) (v107 : Value), Fm o0 w0 o_ w_ [2, 3] ∧ Bk o_ w_ 2 pb0 [v107] 26 ∧ Own Rep.u8 5 3 o_ w_ v107 x106.f_B ∧ ρ_ 0 = .pointer (some ⟨pb0, 0, none⟩) ∧ ρ_ 1 = enc64 x105) ⟨_, a1, a0, _, HF, hB0, hO0_0, rfl, rfl, hz109⟩ ?case110 ?_
  case case110 =>
    rintro ρ126 w124 ⟨o125, v107, HF, hB0, hO108, s0_104, s1_105⟩
    refine WC.region ?_
    refine WL.ex rfl (ex_move (v := .pointer (some ⟨pb0, 0, none⟩)) s0_104) ?_
    refine WL.ex rfl (ex_move (v := enc64 x105) s1_105) ?_
    refine WL.ex rfl (ex_conv_u8 (k := .u64) (a := (x105.toNat : Int)) rfl Tryd.underlying29 Tryd.underlying5) ?_
    obtain ⟨z127, hz127, H⟩ := bindE H
    refine WL.op rfl ?_
    refine OW.call [.pointer (some ⟨pb0, 0, none⟩), enc8 (ofI8 (x105.toNat : Int))] rfl Tryd.func27 (by kernel_rfl) (by kernel_rfl) (map_cons' rfl (map_cons' rfl rfl)) (octet_Writer_U8.calls _ _ pb0 v107 x106 (ofI8 (x105.toNat : Int)) z127 (HF.ten (V := [0]) (L := [2, 3]) rfl) (Bk.vw (V := [0]) (L := [2, 3]) hB0 rfl) (Own.vw (V := [0]) (L := [2, 3]) hO108 rfl rfl) hz127) ?_
    rintro _ w128 ⟨o129, v132, rfl, s130, hB131, hO133⟩
    refine ⟨_, rfl, ?_⟩
    replace hB131 := Bk.unO (J := []) 0 hB131 s130 rfl rfl rfl
    replace hO133 := Own.unO (J := []) 1 hO133 s130 rfl rfl rfl
    replace s130 := un_stepL (J := []) (L' := [2, 3]) s130 rfl rfl
    replace HF := HF.step s130 rfl
    refine WL.nil ?_
    obtain rfl := Option.some.inj H
    exact ⟨_, .nil, _, v132, rfl, HF.out, hB131, hO133⟩
  have Ho111 := H
  rintro k112 ρ113 w114 ⟨o115, x101, x102, v103, HF, hB0, hO104, s0_100, s1_101, H⟩
  cases k112 with
  | zero => cases H
  | succ k112 =>
  rw [octet_Writer_Num.l1.eq_2] at H
  refine WC.seq ?_
  refine WC.seq ?_
  refine WC.region ?_
  refine WL.ex rfl (ex_move (v := enc64 x101) s1_101) ?_
  refine WL.ex rfl (ex_bin (a := enc64 x101) (b := enc64 (128 : UInt64)) (v := .bool (decide ((128 : UInt64) ≤ x101))) rfl rfl bin_geq_u64) ?_
  refine WL.nil ?_
  rcases condE H with ⟨c116, H⟩ | ⟨c116, H⟩
  ·
    refine WC.cond_t ((show _ = Value.bool (decide ((128 : UInt64) ≤ x101)) from rfl).trans (congrArg Value.bool c116)) ?_
    refine WC.skip ?_
    refine WC.block ?_
    refine WC.seq ?_
    refine WC.region ?_
    refine WL.ex rfl (ex_move (v := .pointer (some ⟨pb0, 0, none⟩)) s0_100) ?_
    refine WL.ex rfl (ex_move (v := enc64 x101) s1_101) ?_
    refine WL.ex rfl (ex_conv_u8 (k := .u64) (a := (x101.toNat : Int)) rfl Tryd.underlying29 Tryd.underlying5) ?_
    refine WL.ex rfl (ex_bin (a := enc8 (ofI8 (x101.toNat : Int))) (b := enc8 (128 : UInt8)) (v := enc8 ((ofI8 (x101.toNat : Int)) ||| (128 : UInt8))) rfl rfl bin_or_u8) ?_
    obtain ⟨z117, hz117, H⟩ := bindE H
    refine WL.op rfl ?_
    refine OW.call [.pointer (some ⟨pb0, 0, none⟩), enc8 ((ofI8 (x101.toNat : Int)) ||| (128 : UInt8))] rfl Tryd.func27 (by kernel_rfl) (by kernel_rfl) (map_cons' rfl (map_cons' rfl rfl)) (octet_Writer_U8.calls _ _ pb0 v103 x102 ((ofI8 (x101.toNat : Int)) ||| (128 : UInt8)) z117 (HF.ten (V := [0]) (L := [2, 3]) rfl) (Bk.vw (V := [0]) (L := [2, 3]) hB0 rfl) (Own.vw (V := [0]) (L := [2, 3]) hO104 rfl rfl) hz117) ?_
    rintro _ w118 ⟨o119, v122, rfl, s120, hB121, hO123⟩
    refine ⟨_, rfl, ?_⟩
    replace hB121 := Bk.unO (J := []) 0 hB121 s120 rfl rfl rfl
    replace hO123 := Own.unO (J := []) 1 hO123 s120 rfl rfl rfl
    replace s120 := un_stepL (J := []) (L' := [2, 3]) s120 rfl rfl
    replace HF := HF.step s120 rfl
    refine WL.nil ?_
    refine WC.region ?_
    refine WL.ex rfl (ex_move (v := enc64 x101) s1_101) ?_
    refine WL.ex rfl (ex_bin (a := enc64 x101) (b := enc64 (7 : UInt64)) (v := enc64 (shr64 x101 7)) rfl rfl (bin_shr_u64n (n := 7))) ?_
    refine WL.ex rfl (ex_assign (v := enc64 (shr64 x101 7)) rfl) ?_
    refine WL.nil ?_
    exact ⟨k112, Nat.lt_succ_self _, ⟨_, shr64 x101 7, z117, _, HF, hB121, hO123, s0_100, rfl, H⟩⟩
  ·
    refine WC.cond_f ((show _ = Value.bool (decide ((128 : UInt64) ≤ x101)) from rfl).trans (congrArg Value.bool c116)) ?_
    refine WC.exit ?_
    obtain ⟨rfl, rfl⟩ := Prod.mk.inj (Option.some.inj H)
    exact ⟨_, _, HF, hB0, hO104, s0_100, s1_101⟩


/-! ### utf8.ValidString -/
theorem utf8_ValidString.calls (o0 : Tags) (w0 : World) (a0 : List UInt8) (r : Bool) (hO : ∀ b, b < w0.heap.size → o0 b < 10) (hG : Gl GG o0 w0) (H : utf8_ValidString.f a0 = some r) :
    Calls Tryd.prog 46 [encS a0].toArray w0 fun e_ w_ => ∃ (o_ : Tags), e_ = .returned (one [.bool r]) ∧ Step o0 w0 o_ w_ [] := by
  unfold utf8_ValidString.f at H
  obtain ⟨u, hu, H⟩ := bindE H
  obtain rfl := Option.some.inj H
  have h := Any.utf8_ValidString Tryd.lays196 ⟨a0.toArray⟩ w0 (by rw [size_enc]; exact of_decide_eq_true (chk_true hu)) hG.2.1
  refine Calls.mono h ?_
  rintro e w ⟨rfl, hb⟩
  exact ⟨o0, rfl, below_step hb⟩

/-! ### octet_Writer_Text -/
set_option maxRecDepth 100000 in
theorem octet_Writer_Text.calls (k : Nat) (o0 : Tags) (w0 : World) (pb0 : Nat) (pv0_0 : Value) (a0 : T_octet_Writer) (a1 : List UInt8) (r : Int × T_octet_Writer) (hO : ∀ b, b < w0.heap.size → o0 b < 10) (hB0 : Bk o0 w0 2 pb0 [pv0_0] 26) (hO0_0 : Own Rep.u8 5 3 o0 w0 pv0_0 a0.f_B) (hG : Gl GG o0 w0) (H : octet_Writer_Text.f k a0 a1 = some r) :
    Calls Tryd.prog 29 [.pointer (some ⟨pb0, 0, none⟩), encS a1].toArray w0 fun e_ w_ => ∃ (o_ : Tags) (u0_0 : Value), e_ = .returned (one [.int .i64 r.1]) ∧ Step o0 w0 o_ w_ [2, 3] ∧ Bk o_ w_ 2 pb0 [u0_0] 26 ∧ Own Rep.u8 5 3 o_ w_ u0_0 r.2.f_B := by
  have HF := Fm.refl hO [2, 3]
  unfold octet_Writer_Text.f at H
  refine SX.calls [.pointer (some ⟨pb0, 0, none⟩), encS a1] Tryd.func29 rfl rfl ?_
  rw [Tryd.ntmps29]
  refine WC.seq ?_
  refine WC.region ?_
  refine WL.ex rfl (ex_assign (v := .int .i64 0) rfl) ?_
  refine WL.nil ?_
  refine WC.seq ?_
  refine WC.block ?_
  refine WC.seq ?_
  refine WC.region ?_
  refine WL.ex rfl (ex_move (v := .pointer (some ⟨pb0, 0, none⟩)) rfl) ?_
  refine WL.ex rfl (ex_bin (a := .pointer (some ⟨pb0, 0, none⟩)) (b := .pointer none) (v := .bool false) rfl rfl (bin_eql_ptrSN Tryd.underlying23)) ?_
  refine WL.ex rfl (ex_assign (v := .bool false) rfl) ?_
  refine WL.nil ?_
  refine WC.cond_f rfl ?_
  refine WC.seq ?_
  refine WC.region ?_
  refine WL.ex rfl (ex_move (v := encS a1) rfl) ?_
  obtain ⟨z101, hz101, H⟩ := bindE H
  refine WL.op rfl ?_
  refine OW.call [encS a1] rfl Tryd.func46 (by kernel_rfl) (by kernel_rfl) (map_cons' rfl rfl) (utf8_ValidString.calls _ _ a1 z101 (HF.ten (V := [0]) (L := []) rfl) (Gl.vw (V := [0]) (L := []) hG rfl) hz101) ?_
  rintro _ w102 ⟨o103, rfl, s104⟩
  refine ⟨_, rfl, ?_⟩
  replace s104 := un_stepL (J := []) (L' := []) s104 rfl rfl
  replace hO0_0 := hO0_0.step s104 rfl rfl
  replace hB0 := hB0.step s104 rfl
  replace hG := hG.step s104 rfl
  replace HF := HF.step s104 rfl
  refine WL.ex rfl (ex_not (b := z101) rfl) ?_
  refine WL.ex rfl (ex_assign (v := .bool (!z101)) rfl) ?_
  refine WL.nil ?_
  rcases condE H with ⟨c105, H⟩ | ⟨c105, H⟩
  ·
    refine WC.cond_t ((show _ = Value.bool (!z101) from rfl).trans (congrArg Value.bool c105)) ?_
    refine WC.seq ?_
    refine WC.region ?_
    refine WL.ex rfl (ex_assign (v := .int .i64 12) rfl) ?_
    refine WL.nil ?_
    refine WC.ret ?_
    obtain rfl := Option.some.inj H
    exact ⟨_, (.tmp (.int .i64 12 : Value) rfl .nil), _, pv0_0, rfl, HF.out, hB0, hO0_0⟩
  ·
    refine WC.cond_f ((show _ = Value.bool (!z101) from rfl).trans (congrArg Value.bool c105)) ?_
    refine WC.seq ?_
    refine WC.region ?_
    refine WL.ex rfl (ex_move (v := encS a1) rfl) ?_
    refine WL.ex rfl (ex_len_str (s := a1) rfl Tryd.underlying9) ?_
    refine WL.ex rfl (ex_bin (a := .int .i64 (a1.length : Int)) (b := .int .i64 65536) (v := .bool (decide ((a1.length : Int) > 65536))) rfl rfl bin_gtr) ?_
    refine WL.ex rfl (ex_assign (v := .bool (decide ((a1.length : Int) > 65536))) rfl) ?_
    refine WL.nil ?_
    rcases condE H with ⟨c106, H⟩ | ⟨c106, H⟩
    ·
      refine WC.cond_t ((show _ = Value.bool (decide ((a1.length : Int) > 65536)) from rfl).trans (congrArg Value.bool c106)) ?_
      refine WC.seq ?_
      refine WC.region ?_
      refine WL.ex rfl (ex_assign (v := .int .i64 11) rfl) ?_
      refine WL.nil ?_
      refine WC.ret ?_
      obtain rfl := Option.some.inj H
      exact ⟨_, (.tmp (.int .i64 11 : Value) rfl .nil), _, pv0_0, rfl, HF.out, hB0, hO0_0⟩
    ·
      refine WC.cond_f ((show _ = Value.bool (decide ((a1.length : Int) > 65536)) from rfl).trans (congrArg Value.bool c106)) ?_
      refine WC.skip ?_
      refine WC.seq ?_
      refine WC.region ?_
      refine WL.ex rfl (ex_move (v := .pointer (some ⟨pb0, 0, none⟩)) rfl) ?_
      refine WL.ex rfl (ex_move (v := encS a1) rfl) ?_
      refine WL.ex rfl (ex_len_str (s := a1) rfl Tryd.underlying9) ?_
      refine WL.ex rfl (ex_conv_u64 (k := .i64) (a := (a1.length : Int)) rfl Tryd.underlying3 Tryd.underlying29) ?_
      obtain ⟨z107, hz107, H⟩ := bindE H
      refine WL.op rfl ?_
      refine OW.call [.pointer (some ⟨pb0, 0, none⟩), enc64 (ofI64 (a1.length : Int))] rfl Tryd.func28 (by kernel_rfl) (by kernel_rfl) (map_cons' rfl (map_cons' rfl rfl)) (octet_Writer_Num.calls k _ _ pb0 pv0_0 a0 (ofI64 (a1.length : Int)) z107 (HF.ten (V := [0]) (L := [2, 3]) rfl) (Bk.vw (V := [0]) (L := [2, 3]) hB0 rfl) (Own.vw (V := [0]) (L := [2, 3]) hO0_0 rfl rfl) hz107) ?_
      rintro _ w108 ⟨o109, v112, rfl, s110, hB111, hO113⟩
      refine ⟨_, rfl, ?_⟩
      replace hB111 := Bk.unO (J := []) 0 hB111 s110 rfl rfl rfl
      replace hO113 := Own.unO (J := []) 1 hO113 s110 rfl rfl rfl
      replace s110 := un_stepL (J := []) (L' := [2, 3]) s110 rfl rfl
      replace hG := hG.step s110 rfl
      replace HF := HF.step s110 rfl
      refine WL.nil ?_
      refine WC.seq ?_
      refine WC.region ?_
      refine WL.ex rfl (ex_move (v := .pointer (some ⟨pb0, 0, none⟩)) rfl) ?_
      refine WL.ex rfl (ex_move (v := .pointer (some ⟨pb0, 0, none⟩)) rfl) ?_
      refine WL.ex rfl (ex_nilCheck rfl) ?_
      refine WL.ex rfl (ex_fieldAddr rfl Tryd.underlying26 rfl sz24) ?_
      refine WL.ex rfl (ex_load1 (v := v112) rfl Tryd.underlying24 rfl (hB111.cell rfl)) ?_
      refine WL.ex rfl (ex_move (v := encS a1) rfl) ?_
      obtain ⟨u114, hu114, H⟩ := bindE H
      refine WL.op rfl ?_
      refine OW.appendStr (E := 5) (i := 3) (s := a1) rfl Tryd.underlying24 Tryd.underlying9 inf5 (by decide) rfl rfl hO113 (of_decide_eq_true (chk_true hu114)) ?_
      intro o115 w116 v117 s118 hO119
      replace hG := hG.step s118 rfl
      replace hB111 := hB111.step s118 rfl
      replace HF := HF.step s118 rfl
      refine WL.ex rfl (ex_nilCheck rfl) ?_
      refine WL.ex rfl (ex_fieldAddr rfl Tryd.underlying26 rfl sz24) ?_
      refine WL.op rfl ?_
      refine OW.store [v117] rfl (vs := [v117]) ((congrArg Value.cells (show ev _ _ = (v117 : Value) from rfl)).trans (Own.cells1 hO119)) sz24 hB111 (Nat.le_of_ble_eq_true rfl) (by intro u_ hu_; simp only [List.mem_cons, List.not_mem_nil, or_false] at hu_; rcases hu_ with rfl; first | rfl | exact Own.oneCell hO119) rfl ?_
      intro w120 s121 hB122
      replace hG := hG.step s121 rfl
      replace hO119 := hO119.step s121 rfl rfl
      replace HF := HF.step s121 rfl
      refine WL.nil ?_
      refine WC.seq ?_
      refine WC.region ?_
      refine WL.ex rfl (ex_assign (v := .int .i64 0) rfl) ?_
      refine WL.nil ?_
      refine WC.ret ?_
      obtain rfl := Option.some.inj H
      exact ⟨_, (.tmp (.int .i64 0 : Value) rfl .nil), _, v117, rfl, HF.out, hB122, hO119⟩

/-! ### bytes_Clone -/
set_option maxRecDepth 100000 in
theorem bytes_Clone.calls (o0 : Tags) (w0 : World) (pA0 : Option Addr) (pc0 : Nat) (a0 : (List UInt8)) (r : (List UInt8)) (hO : ∀ b, b < w0.heap.size → o0 b < 10) (hra0 : Row Rep.u8 (fun b_ => o0 b_ = 0) (fun b_ => o0 b_ = 0) w0 pA0 a0) (hla0 : a0.length ≤ pc0) (H : bytes_Clone.f a0 = some r) :
    Calls Tryd.prog 41 [.slice pA0 a0.length pc0].toArray w0 fun e_ w_ => ∃ (o_ : Tags) (rv0 : Value), e_ = .returned (one [rv0]) ∧ Step o0 w0 o_ w_ [] ∧ Own Rep.u8 5 9 o_ w_ rv0 r := by
  have HF := Fm.refl hO []
  unfold bytes_Clone.f at H
  refine SX.calls [.slice pA0 a0.length pc0] Tryd.func41 rfl rfl ?_
  rw [Tryd.ntmps41]
  refine WC.seq ?_
  refine WC.region ?_
  refine WL.ex rfl (ex_assign (v := .slice none ([] : List UInt8).length 0) rfl) ?_
  refine WL.nil ?_
  refine WC.seq ?_
  refine WC.seq ?_
  refine WC.region ?_
  refine WL.ex rfl (ex_move (v := .slice pA0 a0.length pc0) rfl) ?_
  rcases nilE H hra0 with ⟨rfl, H⟩ | ⟨ad101, rfl, H⟩
  ·
    refine WL.ex rfl (ex_bin (a := .slice none a0.length pc0) (b := .slice none 0 0) (v := .bool true) rfl rfl (bin_eql_slN Tryd.underlying24)) ?_
    refine WL.nil ?_
    refine WC.cond_t rfl ?_
    refine WC.seq ?_
    refine WC.region ?_
    refine WL.ex rfl (ex_assign (v := .slice none ([] : List UInt8).length 0) rfl) ?_
    refine WL.nil ?_
    refine WC.ret ?_
    obtain rfl := Option.some.inj H
    exact ⟨_, (.tmp (.slice none ([] : List UInt8).length 0 : Value) rfl .nil), _, (.slice none 0 0), rfl, HF.out, Own.nil⟩
  ·
    refine WL.ex rfl (ex_bin (a := .slice (some ad101) a0.length pc0) (b := .slice none 0 0) (v := .bool false) rfl rfl (bin_eql_slS Tryd.underlying24)) ?_
    refine WL.nil ?_
    refine WC.cond_f rfl ?_
    refine WC.skip ?_
    refine WC.seq ?_
    refine WC.region ?_
    refine WL.op rfl ?_
    refine OW.row (r := Rep.u8) (xs := ([] : List UInt8)) [] [] 10 HF rfl Tryd.underlying24 sz5 zr5 rfl rfl rfl rfl trivial rfl rfl rfl rfl ?_
    intro o102 w103 v105 s104 hO106
    replace hra0 := hra0.step s104 rfl
    replace HF := HF.step s104 rfl
    refine WL.ex rfl (ex_move (v := .slice (some ad101) a0.length pc0) rfl) ?_
    obtain ⟨u107, hu107, H⟩ := bindE H
    refine WL.op rfl ?_
    refine OW.append (r := Rep.u8) (E := 5) (i := 10) rfl Tryd.underlying24 inf5 rfl (by decide) (by decide) (by decide) rfl rfl hO106 (hra0) rfl (of_decide_eq_true (chk_true hu107)) ?_
    intro o108 w109 v110 s111 hO112
    replace hra0 := hra0.step s111 rfl
    replace HF := HF.step s111 rfl
    refine WL.ex rfl (ex_assign (v := v110) rfl) ?_
    refine WL.nil ?_
    refine WC.ret ?_
    obtain rfl := Option.some.inj H
    replace hO112 := Own.renTo (j := 9) hO112 rfl
    replace HF := HF.ren (i := 10) (j := 9) rfl
    exact ⟨_, (.tmp (v110 : Value) rfl .nil), _, v110, rfl, HF.out, hO112⟩

/-! ### octet_NewReader -/
set_option maxRecDepth 100000 in
theorem octet_NewReader.calls (o0 : Tags) (w0 : World) (pA0 : Option Addr) (pc0 : Nat) (a0 : (List UInt8)) (r : T_octet_Reader) (hO : ∀ b, b < w0.heap.size → o0 b < 10) (hra0 : Row Rep.u8 (fun b_ => o0 b_ = 0) (fun b_ => o0 b_ = 0) w0 pA0 a0) (hla0 : a0.length ≤ pc0) (H : octet_NewReader.f a0 = some r) :
    Calls Tryd.prog 19 [.slice pA0 a0.length pc0].toArray w0 fun e_ w_ => ∃ (o_ : Tags) (b_0 : Nat) (rv0_1 : Value), e_ = .returned (one [.pointer (some ⟨b_0, 0, none⟩)]) ∧ Step o0 w0 o_ w_ [] ∧ Bk o_ w_ 9 b_0 [.bool r.f_made, rv0_1] 68 ∧ Own Rep.u8 5 8 o_ w_ rv0_1 r.f_left := by
  have HF := Fm.refl hO []
  unfold octet_NewReader.f at H
  refine SX.calls [.slice pA0 a0.length pc0] Tryd.func19 rfl rfl ?_
  rw [Tryd.ntmps19]
  refine WC.seq ?_
  refine WC.region ?_
  refine WL.ex rfl (ex_assign (v := .pointer none) rfl) ?_
  refine WL.nil ?_
  refine WC.seq ?_
  refine WC.region ?_
  refine WL.ex rfl (ex_move (v := .slice pA0 a0.length pc0) rfl) ?_
  obtain ⟨z101, hz101, H⟩ := bindE H
  refine WL.op rfl ?_
  refine OW.call [.slice pA0 a0.length pc0] rfl Tryd.func41 (by kernel_rfl) (by kernel_rfl) (map_cons' rfl rfl) (bytes_Clone.calls _ _ pA0 pc0 a0 z101 (HF.ten (V := [0]) (L := []) rfl) (Row.vw (V := [0]) (L := []) hra0 rfl) hla0 hz101) ?_
  rintro _ w102 ⟨o103, v105, rfl, s104, hO106⟩
  refine ⟨_, rfl, ?_⟩
  replace hO106 := Own.un9 (J := [10]) 0 hO106 rfl s104 rfl rfl
  replace s104 := un_stepL (J := [10]) (L' := []) s104 rfl rfl
  replace hra0 := hra0.step s104 rfl
  replace HF := HF.step s104 rfl
  refine WL.ex rfl (ex_build (cs := [.bool true, v105]) [(0, 1), (1, 1)] [(0, .bool true), (1, v105)] [.bool false, .slice none 0 0] Tryd.underlying68 zr68 rfl (by kernel_rfl) (evs_cons rfl (evs_cons rfl rfl)) (by simp only [List.map_cons, List.map_nil, Own.cells1 hO106] <;> rfl)) ?_
  refine WL.op rfl ?_
  refine OW.box' [.bool true, v105] 11 HF rfl ((congrArg Value.cells (show ev _ _ = (.agg #[.bool true, v105] : Value) from rfl)).trans rfl) ?_
  intro o108 w109 b107 s110 hB111
  replace hra0 := hra0.step s110 rfl
  replace hO106 := hO106.step s110 rfl rfl
  replace HF := HF.step s110 rfl
  refine WL.ex rfl (ex_assign (v := .pointer (some ⟨b107, 0, none⟩)) rfl) ?_
  refine WL.nil ?_
  refine WC.ret ?_
  obtain rfl := Option.some.inj H
  replace hB111 := Bk.renTo (j := 9) hB111
  replace hO106 := Own.ren (i := 11) (j := 9) hO106 rfl rfl
  replace HF := HF.ren (i := 11) (j := 9) rfl
  replace hB111 := Bk.ren (i := 10) (j := 8) hB111 rfl
  replace hO106 := Own.renTo (j := 8) hO106 rfl
  replace HF := HF.ren (i := 10) (j := 8) rfl
  exact ⟨_, (.tmp (.pointer (some ⟨b107, 0, none⟩) : Value) rfl .nil), _, b107, v105, rfl, HF.out, hB111, hO106⟩

/-! ### octet_Reader_alive -/
set_option maxRecDepth 100000 in
theorem octet_Reader_alive.calls (o0 : Tags) (w0 : World) (pb0 : Nat) (pA0_1 : Option Addr) (pc0_1 : Nat) (a0 : T_octet_Reader) (r : Bool) (hO : ∀ b, b < w0.heap.size → o0 b < 10) (hB0 : Bk o0 w0 2 pb0 [.bool a0.f_made, .slice pA0_1 a0.f_left.length pc0_1] 68) (hra0_1 : Row Rep.u8 (fun b_ => o0 b_ = 0) (fun b_ => o0 b_ = 0) w0 pA0_1 a0.f_left) (hla0_1 : a0.f_left.length ≤ pc0_1) (H : octet_Reader_alive.f a0 = some r) :
    Calls Tryd.prog 43 [.pointer (some ⟨pb0, 0, none⟩)].toArray w0 fun e_ w_ => ∃ (o_ : Tags), e_ = .returned (one [.bool r]) ∧ Step o0 w0 o_ w_ [] := by
  have HF := Fm.refl hO []
  unfold octet_Reader_alive.f at H
  refine SX.calls [.pointer (some ⟨pb0, 0, none⟩)] Tryd.func43 rfl rfl ?_
  rw [Tryd.ntmps43]
  refine WC.seq ?_
  refine WC.region ?_
  refine WL.ex rfl (ex_assign (v := .bool false) rfl) ?_
  refine WL.nil ?_
  refine WC.seq ?_
  refine WC.region ?_
  refine WL.ex rfl (ex_move (v := .pointer (some ⟨pb0, 0, none⟩)) rfl) ?_
  refine WL.ex rfl (ex_bin (a := .pointer (some ⟨pb0, 0, none⟩)) (b := .pointer none) (v := .bool true) rfl rfl (bin_neq_ptrSN Tryd.underlying48)) ?_
  refine WL.ex rfl (ex_move (v := .bool true) rfl) ?_
  refine WL.guardYes rfl rfl rfl rfl ?_
  refine OW.ex rfl (ex_move (v := .pointer (some ⟨pb0, 0, none⟩)) rfl) ?_
  refine WL.guardYes rfl rfl rfl rfl ?_
  refine OW.ex rfl (ex_nilCheck rfl) ?_
  refine WL.guardYes rfl rfl rfl rfl ?_
  refine OW.ex rfl (ex_fieldAddr rfl Tryd.underlying68 rfl sz4) ?_
  refine WL.guardYes rfl rfl rfl rfl ?_
  refine OW.ex rfl (ex_load1 (v := .bool a0.f_made) rfl Tryd.underlying4 rfl (hB0.cell rfl)) ?_
  refine WL.ex rfl (ex_pick_t (v := .bool a0.f_made) rfl rfl) ?_
  refine WL.ex rfl (ex_assign (v := .bool a0.f_made) rfl) ?_
  refine WL.nil ?_
  refine WC.ret ?_
  obtain rfl := Option.some.inj H
  exact ⟨_, (.tmp (.bool a0.f_made : Value) rfl .nil), _, rfl, HF.out⟩

/-! ### octet_Reader_Num -/
set_option maxRecDepth 100000 in
theorem octet_Reader_Num.calls (k : Nat) (o0 : Tags) (w0 : World) (pb0 : Nat) (pA0_1 : Option Addr) (pc0_1 : Nat) (a0 : T_octet_Reader) (r : UInt64 × Int × T_octet_Reader) (hO : ∀ b, b < w0.heap.size → o0 b < 10) (hB0 : Bk o0 w0 2 pb0 [.bool a0.f_made, .slice pA0_1 a0.f_left.length pc0_1] 68) (hra0_1 : Row Rep.u8 (fun b_ => o0 b_ = 0) (fun b_ => o0 b_ = 0) w0 pA0_1 a0.f_left) (hla0_1 : a0.f_left.length ≤ pc0_1) (H : octet_Reader_Num.f k a0 = some r) :
    Calls Tryd.prog 21 [.pointer (some ⟨pb0, 0, none⟩)].toArray w0 fun e_ w_ => ∃ (o_ : Tags) (B_0_1 : Option Addr) (d_0_1 : Nat), e_ = .returned (one [enc64 r.1, .int .i64 r.2.1]) ∧ Step o0 w0 o_ w_ [2] ∧ Bk o_ w_ 2 pb0 [.bool r.2.2.f_made, .slice B_0_1 r.2.2.f_left.length d_0_1] 68 ∧ r.2.2.f_left.length ≤ d_0_1 ∧ Row Rep.u8 (fun b_ => o_ b_ = 0) (fun b_ => o_ b_ = 0) w_ B_0_1 r.2.2.f_left := by
  have HF := Fm.refl hO [2]
  unfold octet_Reader_Num.f at H
  refine SX.calls [.pointer (some ⟨pb0, 0, none⟩)] Tryd.func21 rfl rfl ?_
  rw [Tryd.ntmps21]
  refine WC.seq ?_
  refine WC.region ?_
  refine WL.ex rfl (ex_assign (v := enc64 (0 : UInt64)) rfl) ?_
  refine WL.ex rfl (ex_assign (v := .int .i64 0) rfl) ?_
  refine WL.nil ?_
  refine WC.seq ?_
  refine WC.seq ?_
  refine WC.region ?_
  refine WL.ex rfl (ex_move (v := .pointer (some ⟨pb0, 0, none⟩)) rfl) ?_
  obtain ⟨z101, hz101, H⟩ := bindE H
  refine WL.op rfl ?_
  refine OW.call [.pointer (some ⟨pb0, 0, none⟩)] rfl Tryd.func43 (by kernel_rfl) (by kernel_rfl) (map_cons' rfl rfl) (octet_Reader_alive.calls _ _ pb0 pA0_1 pc0_1 a0 z101 (HF.ten (V := [0]) (L := [2]) rfl) (Bk.vw (V := [0]) (L := [2]) hB0 rfl) (Row.vw (V := [0]) (L := [2]) hra0_1 rfl) hla0_1 hz101) ?_
  rintro _ w102 ⟨o103, rfl, s104⟩
  refine ⟨_, rfl, ?_⟩
  replace s104 := un_stepL (J := []) (L' := []) s104 rfl rfl
  replace hra0_1 := hra0_1.step s104 rfl
  replace hB0 := hB0.step s104 rfl
  replace HF := HF.step s104 rfl
  refine WL.ex rfl (ex_not (b := z101) rfl) ?_
  refine WL.nil ?_
  rcases condE H with ⟨c105, H⟩ | ⟨c105, H⟩
  ·
    refine WC.cond_t ((show _ = Value.bool (!z101) from rfl).trans (congrArg Value.bool c105)) ?_
    refine WC.seq ?_
    refine WC.region ?_
    refine WL.ex rfl (ex_assign (v := enc64 (0 : UInt64)) rfl) ?_
    refine WL.ex rfl (ex_assign (v := .int .i64 1) rfl) ?_
    refine WL.nil ?_
    refine WC.ret ?_
    obtain rfl := Option.some.inj H
    exact ⟨_, (.tmp (enc64 (0 : UInt64) : Value) rfl (.tmp (.int .i64 1 : Value) rfl .nil)), _, pA0_1, pc0_1, rfl, HF.out, hB0, hla0_1, hra0_1⟩
  ·
    refine WC.cond_f ((show _ = Value.bool (!z101) from rfl).trans (congrArg Value.bool c105)) ?_
    refine WC.skip ?_
    refine WC.seq ?_
    refine WC.region ?_
    refine WL.ex rfl (ex_assign (v := enc64 (0 : UInt64)) rfl) ?_
    refine WL.nil ?_
    refine WC.seq ?_
    refine WC.seq ?_
    refine WC.region ?_
    refine WL.ex rfl (ex_move (v := .pointer (some ⟨pb0, 0, none⟩)) rfl) ?_
    refine WL.ex rfl (ex_nilCheck rfl) ?_
    refine WL.ex rfl (ex_fieldAddr rfl Tryd.underlying68 rfl sz24) ?_
    refine WL.ex rfl (ex_load1 (v := .slice pA0_1 a0.f_left.length pc0_1) rfl Tryd.underlying24 rfl (hB0.cell rfl)) ?_
    refine WL.ex rfl (ex_len_slice (A := pA0_1) (m := a0.f_left.length) (c := pc0_1) rfl Tryd.underlying24) ?_
    refine WL.ex rfl (ex_move (v := .int .i64 0) rfl) ?_
    refine WL.nil ?_
    obtain ⟨z108, hz108, H⟩ := bindE H
    refine WC.for (fun k_ ρ_ w_ => ∃ (o_ : Tags) (x106 : UInt64) (x107 : Int), Fm o0 w0 o_ w_ [2] ∧ Row Rep.u8 (fun b_ => o_ b_ = 0) (fun b_ => o_ b_ = 0) w_ pA0_1 a0.f_left ∧ Bk o_ w_ 2 pb0 [.bool a0.f_made, .slice pA0_1 a0.f_left.length pc0_1] 68 ∧ ρ_ 0 = .pointer (some ⟨pb0, 0, none⟩) ∧ ρ_ 2 = enc64 (0 : UInt64) ∧ ρ_ 3 = .int .i64 0 ∧ ρ_ 4 = enc64 x106 ∧ ρ_ 13 = .slice pA0_1 a0.f_left.length pc0_1 ∧ ρ_ 14 = .int .i64 (a0.f_left.length : Int) ∧ ρ_ 15 = .int .i64 x107 ∧ octet_Reader_Num.l1 k a0 k_ x106 x107 = some z108) k (fun ρ_ w_ => ∃ (o_ : Tags), Fm o0 w0 o_ w_ [2] ∧ Bk o_ w_ 2 pb0 [.bool a0.f_made, .slice pA0_1 a0.f_left.length pc0_1] 68 ∧ Row Rep.u8 (fun b_ => o_ b_ = 0) (fun b_ => o_ b_ = 0) w_ pA0_1 a0.f_left ∧ ρ_ 2 = enc64 (0 : UInt64) ∧ ρ_ 3 = .int .i64 0 ∧ z108 = .inr ()) ⟨_, (0 : UInt64), 0, HF, hra0_1, hB0, rfl, rfl, rfl, rfl, rfl, rfl, rfl, hz108⟩ ?case109 ?_
    case case109 =>
      rintro ρ155 w153 ⟨o154, HF, hB0, hra0_1, s2_107, s3_107, rfl⟩
      dsimp only at H
      refine WC.seq ?_
      refine WC.region ?_
      refine WL.ex rfl (ex_assign (v := enc64 (0 : UInt64)) rfl) ?_
      refine WL.ex rfl (ex_assign (v := .int .i64 10) rfl) ?_
      refine WL.nil ?_
      refine WC.ret ?_
      obtain rfl := Option.some.inj H
      exact ⟨_, (.tmp (enc64 (0 : UInt64) : Value) rfl (.tmp (.int .i64 10 : Value) rfl .nil)), _, pA0_1, pc0_1, rfl, HF.out, hB0, hla0_1, hra0_1⟩
    have Ho110 := H
    rintro k111 ρ112 w113 ⟨o114, x106, x107, HF, hra0_1, hB0, s0_105, s2_105, s3_105, s4_106, s13_106, s14_106, s15_107, H⟩
    cases k111 with
    | zero => cases H
    | succ k111 =>
    rw [octet_Reader_Num.l1.eq_2] at H
    refine WC.seq ?_
    refine WC.region ?_
    refine WL.ex rfl (ex_bin (a := .int .i64 x107) (b := .int .i64 (a0.f_left.length : Int)) (v := .bool (decide (x107 < (a0.f_left.length : Int)))) s15_107 s14_106 bin_lss) ?_
    refine WL.nil ?_
    refine WC.seq ?_
    rcases condE H with ⟨c115, H⟩ | ⟨c115, H⟩
    ·
      refine WC.cond_t ((show _ = Value.bool (decide (x107 < (a0.f_left.length : Int))) from rfl).trans (congrArg Value.bool c115)) ?_
      refine WC.skip ?_
      refine WC.seq ?_
      refine WC.block ?_
      refine WC.seq ?_
      refine WC.region ?_
      refine WL.ex rfl (ex_move (v := .int .i64 x107) s15_107) ?_
      obtain ⟨x116, hx116, H⟩ := bindE H
      obtain ⟨ad117, e118, g119, g120, cell121⟩ := Row.ixS hra0_1 hx116
      refine WL.ex rfl (ex_indexAddr (i := x107) s13_106 e118 s15_107 Tryd.underlying24 sz5 g119 g120) ?_
      refine WL.ex rfl (ex_load1 (v := enc8 x116) rfl Tryd.underlying5 rfl cell121) ?_
      refine WL.ex rfl (ex_assign (v := .int .i64 x107) rfl) ?_
      refine WL.ex rfl (ex_assign (v := enc8 x116) rfl) ?_
      refine WL.nil ?_
      refine WC.seq ?_
      obtain ⟨z124, hz124, H⟩ := bindE H
      refine WC.cut (fun ρ_ w_ => ∃ (o_ : Tags), Fm o0 w0 o_ w_ [2] ∧ Row Rep.u8 (fun b_ => o_ b_ = 0) (fun b_ => o_ b_ = 0) w_ pA0_1 a0.f_left ∧ Bk o_ w_ 2 pb0 [.bool a0.f_made, .slice pA0_1 a0.f_left.length pc0_1] 68 ∧ ρ_ 0 = .pointer (some ⟨pb0, 0, none⟩) ∧ ρ_ 2 = enc64 (0 : UInt64) ∧ ρ_ 3 = .int .i64 0 ∧ ρ_ 4 = enc64 x106 ∧ ρ_ 5 = .int .i64 x107 ∧ ρ_ 6 = enc8 x116 ∧ ρ_ 13 = .slice pA0_1 a0.f_left.length pc0_1 ∧ ρ_ 14 = .int .i64 (a0.f_left.length : Int) ∧ ρ_ 15 = .int .i64 x107 ∧ ρ_ 25 = .bool z124) ?case125 ?_
      case case125 =>
        rintro ρ128 w126 ⟨o127, HF, hra0_1, hB0, s0_122, s2_122, s3_122, s4_122, s5_122, s6_122, s13_122, s14_122, s15_122, s25_123⟩
        rcases condE H with ⟨c129, H⟩ | ⟨c129, H⟩
        ·
          refine WC.cond_t ((show _ = Value.bool z124 from s25_123).trans (congrArg Value.bool c129)) ?_
          refine WC.seq ?_
          refine WC.region ?_
          refine WL.ex rfl (ex_assign (v := enc64 (0 : UInt64)) rfl) ?_
          refine WL.ex rfl (ex_assign (v := .int .i64 11) rfl) ?_
          refine WL.nil ?_
          refine WC.ret ?_
          obtain rfl := Option.some.inj H
          replace H := Ho110
          dsimp only at H
          obtain rfl := Option.some.inj H
          exact ⟨_, (.tmp (enc64 (0 : UInt64) : Value) rfl (.tmp (.int .i64 11 : Value) rfl .nil)), _, pA0_1, pc0_1, rfl, HF.out, hB0, hla0_1, hra0_1⟩
        ·
          refine WC.cond_f ((show _ = Value.bool z124 from s25_123).trans (congrArg Value.bool c129)) ?_
          refine WC.skip ?_
          refine WC.seq ?_
          refine WC.region ?_
          refine WL.ex rfl (ex_move (v := enc64 x106) s4_122) ?_
          refine WL.ex rfl (ex_move (v := enc8 x116) s6_122) ?_
          refine WL.ex rfl (ex_bin (a := enc8 x116) (b := enc8 (127 : UInt8)) (v := enc8 (x116 &&& (127 : UInt8))) rfl rfl bin_and_u8) ?_
          refine WL.ex rfl (ex_conv_u64 (k := .u8) (a := ((x116 &&& (127 : UInt8)).toNat : Int)) rfl Tryd.underlying5 Tryd.underlying29) ?_
          refine WL.ex rfl (ex_move (v := .int .i64 x107) s5_122) ?_
          refine WL.ex rfl (ex_bin (a := .int .i64 7) (b := .int .i64 x107) (v := .int .i64 (wrap64 (7 * x107))) rfl rfl bin_mul64) ?_
          obtain ⟨u130, hu130, H⟩ := bindE H
          refine WL.ex rfl (ex_bin (a := enc64 (ofI64 ((x116 &&& (127 : UInt8)).toNat : Int))) (b := .int .i64 (wrap64 (7 * x107))) (v := enc64 (shl64 (ofI64 ((x116 &&& (127 : UInt8)).toNat : Int)) (wrap64 (7 * x107)).toNat)) rfl rfl (bin_shl_u64 (of_decide_eq_true (chk_true hu130)))) ?_
          refine WL.ex rfl (ex_bin (a := enc64 x106) (b := enc64 (shl64 (ofI64 ((x116 &&& (127 : UInt8)).toNat : Int)) (wrap64 (7 * x107)).toNat)) (v := enc64 (x106 ||| (shl64 (ofI64 ((x116 &&& (127 : UInt8)).toNat : Int)) (wrap64 (7 * x107)).toNat))) rfl rfl bin_or_u64) ?_
          refine WL.ex rfl (ex_assign (v := enc64 (x106 ||| (shl64 (ofI64 ((x116 &&& (127 : UInt8)).toNat : Int)) (wrap64 (7 * x107)).toNat))) rfl) ?_
          refine WL.nil ?_
          refine WC.seq ?_
          refine WC.region ?_
          refine WL.ex rfl (ex_move (v := enc8 x116) s6_122) ?_
          refine WL.ex rfl (ex_bin (a := enc8 x116) (b := enc8 (128 : UInt8)) (v := .bool (decide (x116 < (128 : UInt8)))) rfl rfl bin_lss_u8) ?_
          refine WL.nil ?_
          rcases condE H with ⟨c131, H⟩ | ⟨c131, H⟩
          ·
            refine WC.cond_t ((show _ = Value.bool (decide (x116 < (128 : UInt8))) from rfl).trans (congrArg Value.bool c131)) ?_
            refine WC.seq ?_
            obtain ⟨z133, hz133, H⟩ := bindE H
            refine WC.cut (fun ρ_ w_ => ∃ (o_ : Tags), Fm o0 w0 o_ w_ [2] ∧ Row Rep.u8 (fun b_ => o_ b_ = 0) (fun b_ => o_ b_ = 0) w_ pA0_1 a0.f_left ∧ Bk o_ w_ 2 pb0 [.bool a0.f_made, .slice pA0_1 a0.f_left.length pc0_1] 68 ∧ ρ_ 0 = .pointer (some ⟨pb0, 0, none⟩) ∧ ρ_ 2 = enc64 (0 : UInt64) ∧ ρ_ 3 = .int .i64 0 ∧ ρ_ 4 = enc64 (x106 ||| (shl64 (ofI64 ((x116 &&& (127 : UInt8)).toNat : Int)) (wrap64 (7 * x107)).toNat)) ∧ ρ_ 5 = .int .i64 x107 ∧ ρ_ 13 = .slice pA0_1 a0.f_left.length pc0_1 ∧ ρ_ 14 = .int .i64 (a0.f_left.length : Int) ∧ ρ_ 15 = .int .i64 x107 ∧ ρ_ 41 = .bool z133) ?case134 ?_
            case case134 =>
              rintro ρ137 w135 ⟨o136, HF, hra0_1, hB0, s0_131, s2_131, s3_131, s4_131, s5_131, s13_131, s14_131, s15_131, s41_132⟩
              rcases condE H with ⟨c138, H⟩ | ⟨c138, H⟩
              ·
                refine WC.cond_t ((show _ = Value.bool z133 from s41_132).trans (congrArg Value.bool c138)) ?_
                refine WC.seq ?_
                refine WC.region ?_
                refine WL.ex rfl (ex_assign (v := enc64 (0 : UInt64)) rfl) ?_
                refine WL.ex rfl (ex_assign (v := .int .i64 11) rfl) ?_
                refine WL.nil ?_
                refine WC.ret ?_
                obtain rfl := Option.some.inj H
                replace H := Ho110
                dsimp only at H
                obtain rfl := Option.some.inj H
                exact ⟨_, (.tmp (enc64 (0 : UInt64) : Value) rfl (.tmp (.int .i64 11 : Value) rfl .nil)), _, pA0_1, pc0_1, rfl, HF.out, hB0, hla0_1, hra0_1⟩
              ·
                refine WC.cond_f ((show _ = Value.bool z133 from s41_132).trans (congrArg Value.bool c138)) ?_
                refine WC.skip ?_
                refine WC.seq ?_
                refine WC.region ?_
                refine WL.ex rfl (ex_move (v := .pointer (some ⟨pb0, 0, none⟩)) s0_131) ?_
                refine WL.ex rfl (ex_move (v := .pointer (some ⟨pb0, 0, none⟩)) s0_131) ?_
                refine WL.ex rfl (ex_nilCheck rfl) ?_
                refine WL.ex rfl (ex_fieldAddr rfl Tryd.underlying68 rfl sz24) ?_
                refine WL.ex rfl (ex_load1 (v := .slice pA0_1 a0.f_left.length pc0_1) rfl Tryd.underlying24 rfl (hB0.cell rfl)) ?_
                refine WL.ex rfl (ex_move (v := .int .i64 x107) s5_131) ?_
                refine WL.ex rfl (ex_bin (a := .int .i64 x107) (b := .int .i64 1) (v := .int .i64 (wrap64 (x107 + 1))) rfl rfl bin_add64) ?_
                obtain ⟨y139, hy139, H⟩ := bindE H
                have hr141 := Row.cut hra0_1 hla0_1 hy139
                obtain ⟨A142, el145⟩ : ∃ A_, A_ = subA pA0_1 pc0_1 (wrap64 (x107 + 1) : Int).toNat 1 := ⟨_, rfl⟩
                rw [show subA pA0_1 pc0_1 (wrap64 (x107 + 1) : Int).toNat Rep.u8.sz = A142 from el145.symm] at hr141
                have hl144 : y139.length ≤ pc0_1 - (wrap64 (x107 + 1) : Int).toNat := cut_le hla0_1 hy139
                refine WL.ex rfl (ex_slice' (l := (wrap64 (x107 + 1))) (h := (a0.f_left.length : Int)) rfl Tryd.underlying24 sz5 ⟨_, rfl⟩ rfl (cut_low hy139) (cut_mid hy139) (cut_cap hla0_1 hy139) el145 (cut_len hy139)) ?_
                refine WL.ex rfl (ex_nilCheck rfl) ?_
                refine WL.ex rfl (ex_fieldAddr rfl Tryd.underlying68 rfl sz24) ?_
                refine WL.op rfl ?_
                refine OW.store [.bool a0.f_made, .slice A142 y139.length (pc0_1 - (wrap64 (x107 + 1) : Int).toNat)] rfl (vs := [.slice A142 y139.length (pc0_1 - (wrap64 (x107 + 1) : Int).toNat)]) ((congrArg Value.cells (show ev _ _ = (.slice A142 y139.length (pc0_1 - (wrap64 (x107 + 1) : Int).toNat) : Value) from rfl)).trans rfl) sz24 hB0 (Nat.le_of_ble_eq_true rfl) (by intro u_ hu_; simp only [List.mem_cons, List.not_mem_nil, or_false] at hu_; rcases hu_ with rfl; first | rfl) rfl ?_
                intro w146 s147 hB148
                replace hra0_1 := hra0_1.step s147 rfl
                replace hr141 := hr141.step s147 rfl
                replace HF := HF.step s147 rfl
                refine WL.nil ?_
                refine WC.seq ?_
                refine WC.region ?_
                refine WL.ex rfl (ex_move (v := enc64 (x106 ||| (shl64 (ofI64 ((x116 &&& (127 : UInt8)).toNat : Int)) (wrap64 (7 * x107)).toNat))) s4_131) ?_
                refine WL.ex rfl (ex_assign (v := enc64 (x106 ||| (shl64 (ofI64 ((x116 &&& (127 : UInt8)).toNat : Int)) (wrap64 (7 * x107)).toNat))) rfl) ?_
                refine WL.ex rfl (ex_assign (v := .int .i64 0) rfl) ?_
                refine WL.nil ?_
                refine WC.ret ?_
                obtain rfl := Option.some.inj H
                replace H := Ho110
                dsimp only at H
                obtain rfl := Option.some.inj H
                exact ⟨_, (.tmp (enc64 (x106 ||| (shl64 (ofI64 ((x116 &&& (127 : UInt8)).toNat : Int)) (wrap64 (7 * x107)).toNat)) : Value) rfl (.tmp (.int .i64 0 : Value) rfl .nil)), _, A142, (pc0_1 - (wrap64 (x107 + 1) : Int).toNat), rfl, HF.out, hB148, hl144, hr141⟩
            have Ho149 := H
            replace H := hz133
            refine WC.region ?_
            refine WL.ex rfl (ex_move (v := enc8 x116) s6_122) ?_
            refine WL.ex rfl (ex_bin (a := enc8 x116) (b := enc8 (0 : UInt8)) (v := .bool (x116 == (0 : UInt8))) rfl rfl bin_eql_u8) ?_
            refine WL.ex rfl (ex_move (v := .bool (x116 == (0 : UInt8))) rfl) ?_
            rcases condE H with ⟨c150, H⟩ | ⟨c150, H⟩
            ·
              refine WL.guardYes rfl rfl rfl ((show _ = Value.bool (x116 == (0 : UInt8)) from rfl).trans (congrArg Value.bool c150)) ?_
              refine OW.ex rfl (ex_move (v := .int .i64 x107) s5_122) ?_
              refine WL.guardYes rfl rfl rfl ((show _ = Value.bool (x116 == (0 : UInt8)) from rfl).trans (congrArg Value.bool c150)) ?_
              refine OW.ex rfl (ex_bin (a := .int .i64 x107) (b := .int .i64 0) (v := .bool (decide (x107 > 0))) rfl rfl bin_gtr) ?_
              refine WL.ex rfl (ex_pick_t (v := .bool (decide (x107 > 0))) ((show _ = Value.bool (x116 == (0 : UInt8)) from rfl).trans (congrArg Value.bool c150)) rfl) ?_
              refine WL.nil ?_
              obtain rfl := Option.some.inj H
              exact ⟨_, HF, hra0_1, hB0, s0_122, s2_122, s3_122, rfl, s5_122, s13_122, s14_122, s15_122, rfl⟩
            ·
              refine WL.guardNo rfl rfl rfl ((show _ = Value.bool (x116 == (0 : UInt8)) from rfl).trans (congrArg Value.bool c150)) ?_
              refine WL.guardNo rfl rfl rfl ((show _ = Value.bool (x116 == (0 : UInt8)) from rfl).trans (congrArg Value.bool c150)) ?_
              refine WL.ex rfl (ex_pick_f (v := .bool false) ((show _ = Value.bool (x116 == (0 : UInt8)) from rfl).trans (congrArg Value.bool c150)) rfl) ?_
              refine WL.nil ?_
              obtain rfl := Option.some.inj H
              exact ⟨_, HF, hra0_1, hB0, s0_122, s2_122, s3_122, rfl, s5_122, s13_122, s14_122, s15_122, rfl⟩
          ·
            refine WC.cond_f ((show _ = Value.bool (decide (x116 < (128 : UInt8))) from rfl).trans (congrArg Value.bool c131)) ?_
            refine WC.skip ?_
            refine WC.region ?_
            refine WL.ex rfl (ex_bin (a := .int .i64 x107) (b := .int .i64 1) (v := .int .i64 (wrap64 (x107 + 1))) s15_122 rfl bin_add64) ?_
            refine WL.ex rfl (ex_move (v := .int .i64 (wrap64 (x107 + 1))) rfl) ?_
            refine WL.nil ?_
            exact ⟨k111, Nat.lt_succ_self _, ⟨_, (x106 ||| (shl64 (ofI64 ((x116 &&& (127 : UInt8)).toNat : Int)) (wrap64 (7 * x107)).toNat)), wrap64 (x107 + 1), HF, hra0_1, hB0, s0_122, s2_122, s3_122, rfl, s13_122, s14_122, rfl, H⟩⟩
      have Ho151 := H
      replace H := hz124
      refine WC.region ?_
      refine WL.ex rfl (ex_move (v := .int .i64 x107) rfl) ?_
      refine WL.ex rfl (ex_bin (a := .int .i64 x107) (b := .int .i64 9) (v := .bool (x107 == 9)) rfl rfl bin_eql) ?_
      refine WL.ex rfl (ex_move (v := .bool (x107 == 9)) rfl) ?_
      rcases condE H with ⟨c152, H⟩ | ⟨c152, H⟩
      ·
        refine WL.guardYes rfl rfl rfl ((show _ = Value.bool (x107 == 9) from rfl).trans (congrArg Value.bool c152)) ?_
        refine OW.ex rfl (ex_move (v := enc8 x116) rfl) ?_
        refine WL.guardYes rfl rfl rfl ((show _ = Value.bool (x107 == 9) from rfl).trans (congrArg Value.bool c152)) ?_
        refine OW.ex rfl (ex_bin (a := enc8 x116) (b := enc8 (1 : UInt8)) (v := .bool (decide ((1 : UInt8) < x116))) rfl rfl bin_gtr_u8) ?_
        refine WL.ex rfl (ex_pick_t (v := .bool (decide ((1 : UInt8) < x116))) ((show _ = Value.bool (x107 == 9) from rfl).trans (congrArg Value.bool c152)) rfl) ?_
        refine WL.nil ?_
        obtain rfl := Option.some.inj H
        exact ⟨_, HF, hra0_1, hB0, s0_105, s2_105, s3_105, s4_106, rfl, rfl, s13_106, s14_106, s15_107, rfl⟩
      ·
        refine WL.guardNo rfl rfl rfl ((show _ = Value.bool (x107 == 9) from rfl).trans (congrArg Value.bool c152)) ?_
        refine WL.guardNo rfl rfl rfl ((show _ = Value.bool (x107 == 9) from rfl).trans (congrArg Value.bool c152)) ?_
        refine WL.ex rfl (ex_pick_f (v := .bool false) ((show _ = Value.bool (x107 == 9) from rfl).trans (congrArg Value.bool c152)) rfl) ?_
        refine WL.nil ?_
        obtain rfl := Option.some.inj H
        exact ⟨_, HF, hra0_1, hB0, s0_105, s2_105, s3_105, s4_106, rfl, rfl, s13_106, s14_106, s15_107, rfl⟩
    ·
      refine WC.cond_f ((show _ = Value.bool (decide (x107 < (a0.f_left.length : Int))) from rfl).trans (congrArg Value.bool c115)) ?_
      refine WC.exit ?_
      obtain rfl := Option.some.inj H
      exact ⟨_, HF, hB0, hra0_1, s2_105, s3_105, rfl⟩

/-! ### octet_Sum -/
set_option maxRecDepth 100000 in
theorem octet_Sum.calls (k : Nat) (o0 : Tags) (w0 : World) (pA0 : Option Addr) (pc0 : Nat) (a0 : (List (List UInt8))) (r : UInt32) (hO : ∀ b, b < w0.heap.size → o0 b < 10) (hra0 : Row (Rep.slice Rep.u8) (fun b_ => o0 b_ = 0) (fun b_ => o0 b_ = 0) w0 pA0 a0) (hla0 : a0.length ≤ pc0) (H : octet_Sum.f k a0 = some r) :
    Calls Tryd.prog 15 [.slice pA0 a0.length pc0].toArray w0 fun e_ w_ => ∃ (o_ : Tags), e_ = .returned (one [enc32 r]) ∧ Step o0 w0 o_ w_ [] := by
  have HF := Fm.refl hO []
  unfold octet_Sum.f at H
  refine SX.calls [.slice pA0 a0.length pc0] Tryd.func15 rfl rfl ?_
  rw [Tryd.ntmps15]
  refine WC.seq ?_
  refine WC.region ?_
  refine WL.ex rfl (ex_assign (v := enc32 (0 : UInt32)) rfl) ?_
  refine WL.nil ?_
  refine WC.seq ?_
  refine WC.region ?_
  refine WL.ex rfl (ex_assign (v := enc32 (4294967295 : UInt32)) rfl) ?_
  refine WL.nil ?_
  refine WC.seq ?_
  refine WC.seq ?_
  refine WC.region ?_
  refine WL.ex rfl (ex_move (v := .slice pA0 a0.length pc0) rfl) ?_
  refine WL.ex rfl (ex_len_slice (A := pA0) (m := a0.length) (c := pc0) rfl Tryd.underlying80) ?_
  refine WL.ex rfl (ex_move (v := .int .i64 0) rfl) ?_
  refine WL.nil ?_
  obtain ⟨z104, hz104, H⟩ := bindE H
  refine WC.for (fun k_ ρ_ w_ => ∃ (o_ : Tags) (x101 : UInt32) (x102 : Int), Fm o0 w0 o_ w_ [] ∧ Row (Rep.slice Rep.u8) (fun b_ => o_ b_ = 0) (fun b_ => o_ b_ = 0) w_ pA0 a0 ∧ ρ_ 2 = enc32 (0 : UInt32) ∧ ρ_ 3 = enc32 x101 ∧ ρ_ 9 = .slice pA0 a0.length pc0 ∧ ρ_ 10 = .int .i64 (a0.length : Int) ∧ ρ_ 11 = .int .i64 x102 ∧ octet_Sum.l1 k a0 k_ x101 x102 = some z104) k (fun ρ_ w_ => ∃ (o_ : Tags), Fm o0 w0 o_ w_ [] ∧ ρ_ 2 = enc32 (0 : UInt32) ∧ ρ_ 3 = enc32 z104) ⟨_, (4294967295 : UInt32), 0, HF, hra0, rfl, rfl, rfl, rfl, rfl, hz104⟩ ?case105 ?_
  case case105 =>
    rintro ρ170 w168 ⟨o169, HF, s2_102, s3_103⟩
    refine WC.seq ?_
    refine WC.region ?_
    refine WL.ex rfl (ex_move (v := enc32 z104) s3_103) ?_
    refine WL.ex rfl (ex_not_u32 (a := z104) rfl) ?_
    refine WL.ex rfl (ex_assign (v := enc32 (~~~z104)) rfl) ?_
    refine WL.nil ?_
    refine WC.ret ?_
    obtain rfl := Option.some.inj H
    exact ⟨_, (.tmp (enc32 (~~~z104) : Value) rfl .nil), _, rfl, HF.out⟩
  have Ho106 := H
  rintro k107 ρ108 w109 ⟨o110, x101, x102, HF, hra0, s2_100, s3_101, s9_101, s10_101, s11_102, H⟩
  cases k107 with
  | zero => cases H
  | succ k107 =>
  rw [octet_Sum.l1.eq_2] at H
  refine WC.seq ?_
  refine WC.region ?_
  refine WL.ex rfl (ex_bin (a := .int .i64 x102) (b := .int .i64 (a0.length : Int)) (v := .bool (decide (x102 < (a0.length : Int)))) s11_102 s10_101 bin_lss) ?_
  refine WL.nil ?_
  refine WC.seq ?_
  rcases condE H with ⟨c111, H⟩ | ⟨c111, H⟩
  ·
    refine WC.cond_t ((show _ = Value.bool (decide (x102 < (a0.length : Int))) from rfl).trans (congrArg Value.bool c111)) ?_
    refine WC.skip ?_
    refine WC.seq ?_
    refine WC.block ?_
    refine WC.seq ?_
    refine WC.region ?_
    obtain ⟨x112, hx112, H⟩ := bindE H
    obtain ⟨ad113, u117, e114, g115, g116, hu118, cell119⟩ := Row.ix1 hra0 hx112 rfl
    obtain ⟨A120, c121, rfl, hl122, hr123⟩ := slice_open hu118
    refine WL.ex rfl (ex_indexAddr (i := x102) s9_101 e114 s11_102 Tryd.underlying80 sz24 g115 g116) ?_
    refine WL.ex rfl (ex_load1 (v := .slice A120 x112.length c121) rfl Tryd.underlying24 rfl cell119) ?_
    refine WL.ex rfl (ex_assign (v := .slice A120 x112.length c121) rfl) ?_
    refine WL.nil ?_
    refine WC.seq ?_
    refine WC.region ?_
    refine WL.ex rfl (ex_move (v := .slice A120 x112.length c121) rfl) ?_
    refine WL.ex rfl (ex_len_slice (A := A120) (m := x112.length) (c := c121) rfl Tryd.underlying24) ?_
    refine WL.ex rfl (ex_move (v := .int .i64 0) rfl) ?_
    refine WL.nil ?_
    obtain ⟨z128, hz128, H⟩ := bindE H
    refine WC.for (fun k_ ρ_ w_ => ∃ (o_ : Tags) (x125 : UInt32) (x126 : Int), Fm o0 w0 o_ w_ [] ∧ Row (Rep.slice Rep.u8) (fun b_ => o_ b_ = 0) (fun b_ => o_ b_ = 0) w_ pA0 a0 ∧ Row Rep.u8 (fun b_ => o_ b_ = 0) (fun b_ => o_ b_ = 0) w_ A120 x112 ∧ ρ_ 2 = enc32 (0 : UInt32) ∧ ρ_ 3 = enc32 x125 ∧ ρ_ 9 = .slice pA0 a0.length pc0 ∧ ρ_ 10 = .int .i64 (a0.length : Int) ∧ ρ_ 11 = .int .i64 x102 ∧ ρ_ 15 = .slice A120 x112.length c121 ∧ ρ_ 16 = .int .i64 (x112.length : Int) ∧ ρ_ 17 = .int .i64 x126 ∧ octet_Sum.l2 k x112 k_ x125 x126 = some z128) k (fun ρ_ w_ => ∃ (o_ : Tags), Fm o0 w0 o_ w_ [] ∧ Row (Rep.slice Rep.u8) (fun b_ => o_ b_ = 0) (fun b_ => o_ b_ = 0) w_ pA0 a0 ∧ ρ_ 2 = enc32 (0 : UInt32) ∧ ρ_ 3 = enc32 z128 ∧ ρ_ 9 = .slice pA0 a0.length pc0 ∧ ρ_ 10 = .int .i64 (a0.length : Int) ∧ ρ_ 11 = .int .i64 x102) ⟨_, x101, 0, HF, hra0, hr123, s2_100, s3_101, s9_101, s10_101, s11_102, rfl, rfl, rfl, hz128⟩ ?case129 ?_
    case case129 =>
      rintro ρ167 w165 ⟨o166, HF, hra0, s2_126, s3_127, s9_127, s10_127, s11_127⟩
      refine WC.region ?_
      refine WL.ex rfl (ex_bin (a := .int .i64 x102) (b := .int .i64 1) (v := .int .i64 (wrap64 (x102 + 1))) s11_127 rfl bin_add64) ?_
      refine WL.ex rfl (ex_move (v := .int .i64 (wrap64 (x102 + 1))) rfl) ?_
      refine WL.nil ?_
      exact ⟨k107, Nat.lt_succ_self _, ⟨_, z128, wrap64 (x102 + 1), HF, hra0, s2_126, s3_127, s9_127, s10_127, rfl, H⟩⟩
    have Ho130 := H
    rintro k131 ρ132 w133 ⟨o134, x125, x126, HF, hra0, hr123, s2_124, s3_125, s9_125, s10_125, s11_125, s15_125, s16_125, s17_126, H⟩
    cases k131 with
    | zero => cases H
    | succ k131 =>
    rw [octet_Sum.l2.eq_2] at H
    refine WC.seq ?_
    refine WC.region ?_
    refine WL.ex rfl (ex_bin (a := .int .i64 x126) (b := .int .i64 (x112.length : Int)) (v := .bool (decide (x126 < (x112.length : Int)))) s17_126 s16_125 bin_lss) ?_
    refine WL.nil ?_
    refine WC.seq ?_
    rcases condE H with ⟨c135, H⟩ | ⟨c135, H⟩
    ·
      refine WC.cond_t ((show _ = Value.bool (decide (x126 < (x112.length : Int))) from rfl).trans (congrArg Value.bool c135)) ?_
      refine WC.skip ?_
      refine WC.seq ?_
      refine WC.block ?_
      refine WC.seq ?_
      refine WC.region ?_
      obtain ⟨x136, hx136, H⟩ := bindE H
      obtain ⟨ad137, e138, g139, g140, cell141⟩ := Row.ixS hr123 hx136
      refine WL.ex rfl (ex_indexAddr (i := x126) s15_125 e138 s17_126 Tryd.underlying24 sz5 g139 g140) ?_
      refine WL.ex rfl (ex_load1 (v := enc8 x136) rfl Tryd.underlying5 rfl cell141) ?_
      refine WL.ex rfl (ex_assign (v := enc8 x136) rfl) ?_
      refine WL.nil ?_
      refine WC.seq ?_
      refine WC.region ?_
      refine WL.ex rfl (ex_move (v := enc32 x125) s3_125) ?_
      refine WL.ex rfl (ex_move (v := enc8 x136) rfl) ?_
      refine WL.ex rfl (ex_conv_u32 (k := .u8) (a := (x136.toNat : Int)) rfl Tryd.underlying5 Tryd.underlying36) ?_
      refine WL.ex rfl (ex_bin (a := enc32 x125) (b := enc32 (ofI32 (x136.toNat : Int))) (v := enc32 (x125 ^^^ (ofI32 (x136.toNat : Int)))) rfl rfl bin_xor_u32) ?_
      refine WL.ex rfl (ex_assign (v := enc32 (x125 ^^^ (ofI32 (x136.toNat : Int)))) rfl) ?_
      refine WL.nil ?_
      refine WC.seq ?_
      refine WC.region ?_
      refine WL.ex rfl (ex_move (v := .int .i64 0) rfl) ?_
      refine WL.nil ?_
      obtain ⟨z146, hz146, H⟩ := bindE H
      refine WC.for (fun k_ ρ_ w_ => ∃ (o_ : Tags) (x143 : UInt32) (x144 : Int), Fm o0 w0 o_ w_ [] ∧ Row (Rep.slice Rep.u8) (fun b_ => o_ b_ = 0) (fun b_ => o_ b_ = 0) w_ pA0 a0 ∧ Row Rep.u8 (fun b_ => o_ b_ = 0) (fun b_ => o_ b_ = 0) w_ A120 x112 ∧ ρ_ 2 = enc32 (0 : UInt32) ∧ ρ_ 3 = enc32 x143 ∧ ρ_ 9 = .slice pA0 a0.length pc0 ∧ ρ_ 10 = .int .i64 (a0.length : Int) ∧ ρ_ 11 = .int .i64 x102 ∧ ρ_ 15 = .slice A120 x112.length c121 ∧ ρ_ 16 = .int .i64 (x112.length : Int) ∧ ρ_ 17 = .int .i64 x126 ∧ ρ_ 25 = .int .i64 x144 ∧ octet_Sum.l3 k k_ x143 x144 = some z146) k (fun ρ_ w_ => ∃ (o_ : Tags), Fm o0 w0 o_ w_ [] ∧ Row (Rep.slice Rep.u8) (fun b_ => o_ b_ = 0) (fun b_ => o_ b_ = 0) w_ pA0 a0 ∧ Row Rep.u8 (fun b_ => o_ b_ = 0) (fun b_ => o_ b_ = 0) w_ A120 x112 ∧ ρ_ 2 = enc32 (0 : UInt32) ∧ ρ_ 3 = enc32 z146 ∧ ρ_ 9 = .slice pA0 a0.length pc0 ∧ ρ_ 10 = .int .i64 (a0.length : Int) ∧ ρ_ 11 = .int .i64 x102 ∧ ρ_ 15 = .slice A120 x112.length c121 ∧ ρ_ 16 = .int .i64 (x112.length : Int) ∧ ρ_ 17 = .int .i64 x126) ⟨_, (x125 ^^^ (ofI32 (x136.toNat : Int))), 0, HF, hra0, hr123, s2_124, rfl, s9_125, s10_125, s11_125, s15_125, s16_125, s17_126, rfl, hz146⟩ ?case147 ?_
      case case147 =>
        rintro ρ164 w162 ⟨o163, HF, hra0, hr123, s2_144, s3_145, s9_145, s10_145, s11_145, s15_145, s16_145, s17_145⟩
        refine WC.region ?_
        refine WL.ex rfl (ex_bin (a := .int .i64 x126) (b := .int .i64 1) (v := .int .i64 (wrap64 (x126 + 1))) s17_145 rfl bin_add64) ?_
        refine WL.ex rfl (ex_move (v := .int .i64 (wrap64 (x126 + 1))) rfl) ?_
        refine WL.nil ?_
        exact ⟨k131, Nat.lt_succ_self _, ⟨_, z146, wrap64 (x126 + 1), HF, hra0, hr123, s2_144, s3_145, s9_145, s10_145, s11_145, s15_145, s16_145, rfl, H⟩⟩
      have Ho148 := H
      rintro k149 ρ150 w151 ⟨o152, x143, x144, HF, hra0, hr123, s2_142, s3_143, s9_143, s10_143, s11_143, s15_143, s16_143, s17_143, s25_144, H⟩
      cases k149 with
      | zero => cases H
      | succ k149 =>
      rw [octet_Sum.l3.eq_2] at H
      refine WC.seq ?_
      refine WC.region ?_
      refine WL.ex rfl (ex_bin (a := .int .i64 x144) (b := .int .i64 8) (v := .bool (decide (x144 < 8))) s25_144 rfl bin_lss) ?_
      refine WL.nil ?_
      refine WC.seq ?_
      rcases condE H with ⟨c153, H⟩ | ⟨c153, H⟩
      ·
        refine WC.cond_t ((show _ = Value.bool (decide (x144 < 8)) from rfl).trans (congrArg Value.bool c153)) ?_
        refine WC.skip ?_
        obtain ⟨z155, hz155, H⟩ := bindE H
        refine WC.cut (fun ρ_ w_ => ∃ (o_ : Tags), Fm o0 w0 o_ w_ [] ∧ Row (Rep.slice Rep.u8) (fun b_ => o_ b_ = 0) (fun b_ => o_ b_ = 0) w_ pA0 a0 ∧ Row Rep.u8 (fun b_ => o_ b_ = 0) (fun b_ => o_ b_ = 0) w_ A120 x112 ∧ ρ_ 2 = enc32 (0 : UInt32) ∧ ρ_ 3 = enc32 z155 ∧ ρ_ 9 = .slice pA0 a0.length pc0 ∧ ρ_ 10 = .int .i64 (a0.length : Int) ∧ ρ_ 11 = .int .i64 x102 ∧ ρ_ 15 = .slice A120 x112.length c121 ∧ ρ_ 16 = .int .i64 (x112.length : Int) ∧ ρ_ 17 = .int .i64 x126 ∧ ρ_ 25 = .int .i64 x144) ?case156 ?_
        case case156 =>
          rintro ρ159 w157 ⟨o158, HF, hra0, hr123, s2_153, s3_154, s9_154, s10_154, s11_154, s15_154, s16_154, s17_154, s25_154⟩
          refine WC.region ?_
          refine WL.ex rfl (ex_bin (a := .int .i64 x144) (b := .int .i64 1) (v := .int .i64 (wrap64 (x144 + 1))) s25_154 rfl bin_add64) ?_
          refine WL.ex rfl (ex_move (v := .int .i64 (wrap64 (x144 + 1))) rfl) ?_
          refine WL.nil ?_
          exact ⟨k149, Nat.lt_succ_self _, ⟨_, z155, wrap64 (x144 + 1), HF, hra0, hr123, s2_153, s3_154, s9_154, s10_154, s11_154, s15_154, s16_154, s17_154, rfl, H⟩⟩
        have Ho160 := H
        replace H := hz155
        refine WC.block ?_
        refine WC.seq ?_
        refine WC.region ?_
        refine WL.ex rfl (ex_move (v := enc32 x143) s3_143) ?_
        refine WL.ex rfl (ex_bin (a := enc32 x143) (b := enc32 (1 : UInt32)) (v := enc32 (x143 &&& (1 : UInt32))) rfl rfl bin_and_u32) ?_
        refine WL.ex rfl (ex_assign (v := enc32 (x143 &&& (1 : UInt32))) rfl) ?_
        refine WL.nil ?_
        refine WC.seq ?_
        refine WC.region ?_
        refine WL.ex rfl (ex_move (v := enc32 x143) s3_143) ?_
        refine WL.ex rfl (ex_bin (a := enc32 x143) (b := enc64 (1 : UInt64)) (v := enc32 (shr32 x143 1)) rfl rfl (bin_shr_u32n (n := 1))) ?_
        refine WL.ex rfl (ex_assign (v := enc32 (shr32 x143 1)) rfl) ?_
        refine WL.nil ?_
        refine WC.seq ?_
        refine WC.region ?_
        refine WL.ex rfl (ex_move (v := enc32 (x143 &&& (1 : UInt32))) rfl) ?_
        refine WL.ex rfl (ex_bin (a := enc32 (x143 &&& (1 : UInt32))) (b := enc32 (1 : UInt32)) (v := .bool ((x143 &&& (1 : UInt32)) == (1 : UInt32))) rfl rfl bin_eql_u32) ?_
        refine WL.nil ?_
        rcases condE H with ⟨c161, H⟩ | ⟨c161, H⟩
        ·
          refine WC.cond_t ((show _ = Value.bool ((x143 &&& (1 : UInt32)) == (1 : UInt32)) from rfl).trans (congrArg Value.bool c161)) ?_
          refine WC.region ?_
          refine WL.ex rfl (ex_move (v := enc32 (shr32 x143 1)) rfl) ?_
          refine WL.ex rfl (ex_bin (a := enc32 (shr32 x143 1)) (b := enc32 (2197175160 : UInt32)) (v := enc32 ((shr32 x143 1) ^^^ (2197175160 : UInt32))) rfl rfl bin_xor_u32) ?_
          refine WL.ex rfl (ex_assign (v := enc32 ((shr32 x143 1) ^^^ (2197175160 : UInt32))) rfl) ?_
          refine WL.nil ?_
          obtain rfl := Option.some.inj H
          exact ⟨_, HF, hra0, hr123, s2_142, rfl, s9_143, s10_143, s11_143, s15_143, s16_143, s17_143, s25_144⟩
        ·
          refine WC.cond_f ((show _ = Value.bool ((x143 &&& (1 : UInt32)) == (1 : UInt32)) from rfl).trans (congrArg Value.bool c161)) ?_
          refine WC.skip ?_
          obtain rfl := Option.some.inj H
          exact ⟨_, HF, hra0, hr123, s2_142, rfl, s9_143, s10_143, s11_143, s15_143, s16_143, s17_143, s25_144⟩
      ·
        refine WC.cond_f ((show _ = Value.bool (decide (x144 < 8)) from rfl).trans (congrArg Value.bool c153)) ?_
        refine WC.exit ?_
        obtain rfl := Option.some.inj H
        exact ⟨_, HF, hra0, hr123, s2_142, s3_143, s9_143, s10_143, s11_143, s15_143, s16_143, s17_143⟩
    ·
      refine WC.cond_f ((show _ = Value.bool (decide (x126 < (x112.length : Int))) from rfl).trans (congrArg Value.bool c135)) ?_
      refine WC.exit ?_
      obtain rfl := Option.some.inj H
      exact ⟨_, HF, hra0, s2_124, s3_125, s9_125, s10_125, s11_125⟩
  ·
    refine WC.cond_f ((show _ = Value.bool (decide (x102 < (a0.length : Int))) from rfl).trans (congrArg Value.bool c111)) ?_
    refine WC.exit ?_
    obtain rfl := Option.some.inj H
    exact ⟨_, HF, s2_100, s3_101⟩

/-! ### octet_Seal -/
set_option maxRecDepth 100000 in
theorem octet_Seal.calls (k : Nat) (o0 : Tags) (w0 : World) (pA0 : Option Addr) (pc0 : Nat) (a0 : (List UInt8)) (r : (List UInt8)) (hO : ∀ b, b < w0.heap.size → o0 b < 10) (hra0 : Row Rep.u8 (fun b_ => o0 b_ = 0) (fun b_ => o0 b_ = 0) w0 pA0 a0) (hla0 : a0.length ≤ pc0) (H : octet_Seal.f k a0 = some r) :
    Calls Tryd.prog 13 [.slice pA0 a0.length pc0].toArray w0 fun e_ w_ => ∃ (o_ : Tags) (rv0 : Value), e_ = .returned (one [rv0]) ∧ Step o0 w0 o_ w_ [] ∧ Own Rep.u8 5 9 o_ w_ rv0 r := by
  have HF := Fm.refl hO []
  unfold octet_Seal.f at H
  refine SX.calls [.slice pA0 a0.length pc0] Tryd.func13 rfl rfl ?_
  rw [Tryd.ntmps13]
  refine WC.seq ?_
  refine WC.region ?_
  refine WL.ex rfl (ex_assign (v := .slice none ([] : List UInt8).length 0) rfl) ?_
  refine WL.nil ?_
  refine WC.seq ?_
  refine WC.region ?_
  refine WL.ex rfl (ex_move (v := .slice pA0 a0.length pc0) rfl) ?_
  obtain ⟨z101, hz101, H⟩ := bindE H
  refine WL.op rfl ?_
  refine OW.call [.slice pA0 a0.length pc0] rfl Tryd.func41 (by kernel_rfl) (by kernel_rfl) (map_cons' rfl rfl) (bytes_Clone.calls _ _ pA0 pc0 a0 z101 (HF.ten (V := [0]) (L := []) rfl) (Row.vw (V := [0]) (L := []) hra0 rfl) hla0 hz101) ?_
  rintro _ w102 ⟨o103, v105, rfl, s104, hO106⟩
  refine ⟨_, rfl, ?_⟩
  replace hO106 := Own.un9 (J := [10]) 0 hO106 rfl s104 rfl rfl
  replace s104 := un_stepL (J := [10]) (L' := []) s104 rfl rfl
  replace hra0 := hra0.step s104 rfl
  replace HF := HF.step s104 rfl
  refine WL.ex rfl (ex_assign (v := v105) rfl) ?_
  refine WL.nil ?_
  refine WC.seq ?_
  refine WC.region ?_
  refine WL.ex rfl (ex_move (v := .slice pA0 a0.length pc0) rfl) ?_
  refine WL.op rfl ?_
  refine OW.row (r := (Rep.slice Rep.u8)) (xs := [a0]) [(0, .slice pA0 a0.length pc0)] [[.slice pA0 a0.length pc0]] 11 HF rfl Tryd.underlying80 sz24 zr24 rfl (evs_cons rfl rfl) rfl rfl ⟨(slice_mk hla0 hra0), trivial⟩ rfl rfl rfl rfl ?_
  intro o107 w108 v110 s109 hO111
  replace hra0 := hra0.step s109 rfl
  replace hO106 := hO106.step s109 rfl rfl
  replace HF := HF.step s109 rfl
  obtain ⟨A112, c113, q114e, q114l, q114⟩ := Own.vwRow (V := [0, 11]) (L := []) hO111 rfl rfl
  obtain ⟨z115, hz115, H⟩ := bindE H
  have q114e' := q114e
  refine WL.op rfl ?_
  refine OW.call [v110] rfl Tryd.func15 (by kernel_rfl) (by kernel_rfl) (map_cons' rfl rfl) (by simp only [q114e]; exact (octet_Sum.calls k _ _ A112 c113 [a0] z115 (HF.ten (V := [0, 11]) (L := []) rfl) q114 q114l hz115)) ?_
  rintro _ w116 ⟨o117, rfl, s118⟩
  refine ⟨_, rfl, ?_⟩
  replace s118 := un_stepL (J := []) (L' := []) s118 rfl rfl
  replace hra0 := hra0.step s118 rfl
  replace hO106 := hO106.step s118 rfl rfl
  replace hO111 := hO111.step s118 rfl rfl
  replace HF := HF.step s118 rfl
  refine WL.ex rfl (ex_assign (v := enc32 z115) rfl) ?_
  refine WL.nil ?_
  refine WC.seq ?_
  refine WC.seq ?_
  refine WC.region ?_
  refine WL.ex rfl (ex_move (v := .int .i64 0) rfl) ?_
  refine WL.nil ?_
  obtain ⟨z126, hz126, H⟩ := bindE H
  refine WC.for (fun k_ ρ_ w_ => ∃ (o_ : Tags) (x121 : (List UInt8)) (x122 : Int) (v119 : Value), Fm o0 w0 o_ w_ [] ∧ Own Rep.u8 5 10 o_ w_ v119 x121 ∧ ρ_ 2 = .slice none ([] : List UInt8).length 0 ∧ ρ_ 3 = v119 ∧ ρ_ 4 = enc32 z115 ∧ ρ_ 11 = .int .i64 x122 ∧ octet_Seal.l1 k z115 k_ x121 x122 = some z126) k (fun ρ_ w_ => ∃ (o_ : Tags) (v123 : Value), Fm o0 w0 o_ w_ [] ∧ Own Rep.u8 5 10 o_ w_ v123 z126 ∧ ρ_ 2 = .slice none ([] : List UInt8).length 0 ∧ ρ_ 3 = v123) ⟨_, z101, 0, _, HF, hO106, rfl, rfl, rfl, rfl, hz126⟩ ?case127 ?_
  case case127 =>
    rintro ρ151 w149 ⟨o150, v123, HF, hO124, s2_122, s3_125⟩
    refine WC.seq ?_
    refine WC.region ?_
    refine WL.ex rfl (ex_move (v := v123) s3_125) ?_
    refine WL.ex rfl (ex_assign (v := v123) rfl) ?_
    refine WL.nil ?_
    refine WC.ret ?_
    obtain rfl := Option.some.inj H
    replace hO124 := Own.renTo (j := 9) hO124 rfl
    replace HF := HF.ren (i := 10) (j := 9) rfl
    exact ⟨_, (.tmp (v123 : Value) rfl .nil), _, v123, rfl, HF.out, hO124⟩
  have Ho128 := H
  rintro k129 ρ130 w131 ⟨o132, x121, x122, v119, HF, hO120, s2_118, s3_121, s4_121, s11_122, H⟩
  cases k129 with
  | zero => cases H
  | succ k129 =>
  rw [octet_Seal.l1.eq_2] at H
  refine WC.seq ?_
  refine WC.region ?_
  refine WL.ex rfl (ex_bin (a := .int .i64 x122) (b := .int .i64 4) (v := .bool (decide (x122 < 4))) s11_122 rfl bin_lss) ?_
  refine WL.nil ?_
  refine WC.seq ?_
  rcases condE H with ⟨c133, H⟩ | ⟨c133, H⟩
  ·
    refine WC.cond_t ((show _ = Value.bool (decide (x122 < 4)) from rfl).trans (congrArg Value.bool c133)) ?_
    refine WC.skip ?_
    refine WC.seq ?_
    refine WC.block ?_
    refine WC.seq ?_
    refine WC.region ?_
    refine WL.ex rfl (ex_move (v := .int .i64 x122) s11_122) ?_
    refine WL.ex rfl (ex_assign (v := .int .i64 x122) rfl) ?_
    refine WL.nil ?_
    refine WC.region ?_
    refine WL.ex rfl (ex_move (v := v119) s3_121) ?_
    refine WL.ex rfl (ex_move (v := enc32 z115) s4_121) ?_
    refine WL.ex rfl (ex_move (v := .int .i64 x122) rfl) ?_
    refine WL.ex rfl (ex_bin (a := .int .i64 8) (b := .int .i64 x122) (v := .int .i64 (wrap64 (8 * x122))) rfl rfl bin_mul64) ?_
    obtain ⟨u134, hu134, H⟩ := bindE H
    refine WL.ex rfl (ex_bin (a := enc32 z115) (b := .int .i64 (wrap64 (8 * x122))) (v := enc32 (shr32 z115 (wrap64 (8 * x122)).toNat)) rfl rfl (bin_shr_u32 (of_decide_eq_true (chk_true hu134)))) ?_
    refine WL.ex rfl (ex_conv_u8 (k := .u32) (a := ((shr32 z115 (wrap64 (8 * x122)).toNat).toNat : Int)) rfl Tryd.underlying36 Tryd.underlying5) ?_
    refine WL.op rfl ?_
    refine OW.row (r := Rep.u8) (xs := [ofI8 ((shr32 z115 (wrap64 (8 * x122)).toNat).toNat : Int)]) [(0, enc8 (ofI8 ((shr32 z115 (wrap64 (8 * x122)).toNat).toNat : Int)))] [[enc8 (ofI8 ((shr32 z115 (wrap64 (8 * x122)).toNat).toNat : Int))]] 12 HF rfl Tryd.underlying24 sz5 zr5 rfl (evs_cons rfl rfl) rfl rfl ⟨rfl, trivial⟩ rfl rfl rfl rfl ?_
    intro o135 w136 v138 s137 hO139
    replace hO120 := hO120.step s137 rfl rfl
    replace HF := HF.step s137 rfl
    obtain ⟨A140, c141, q142_, _, q142⟩ := hO139.row
    obtain ⟨u143, hu143, H⟩ := bindE H
    refine WL.op rfl ?_
    refine OW.append (r := Rep.u8) (E := 5) (i := 10) rfl Tryd.underlying24 inf5 rfl (by decide) (by decide) (by decide) rfl ((show _ = (v138 : Value) from rfl).trans q142_) hO120 q142 rfl (of_decide_eq_true (chk_true hu143)) ?_
    intro o144 w145 v146 s147 hO148
    replace hO139 := hO139.step s147 rfl rfl
    replace HF := HF.step s147 rfl
    refine WL.ex rfl (ex_assign (v := v146) rfl) ?_
    refine WL.nil ?_
    refine WC.region ?_
    refine WL.ex rfl (ex_bin (a := .int .i64 x122) (b := .int .i64 1) (v := .int .i64 (wrap64 (x122 + 1))) s11_122 rfl bin_add64) ?_
    refine WL.ex rfl (ex_move (v := .int .i64 (wrap64 (x122 + 1))) rfl) ?_
    refine WL.nil ?_
    exact ⟨k129, Nat.lt_succ_self _, ⟨_, (x121 ++ [ofI8 ((shr32 z115 (wrap64 (8 * x122)).toNat).toNat : Int)]), wrap64 (x122 + 1), _, HF, hO148, s2_118, rfl, s4_121, rfl, H⟩⟩
  ·
    refine WC.cond_f ((show _ = Value.bool (decide (x122 < 4)) from rfl).trans (congrArg Value.bool c133)) ?_
    refine WC.exit ?_
    obtain rfl := Option.some.inj H
    exact ⟨_, _, HF, hO120, s2_118, s3_121⟩

/-! ### bytes_Equal -/
set_option maxRecDepth 100000 in
theorem bytes_Equal.calls (o0 : Tags) (w0 : World) (pA0 : Option Addr) (pc0 : Nat) (pA1 : Option Addr) (pc1 : Nat) (a0 : (List UInt8)) (a1 : (List UInt8)) (r : Bool) (hO : ∀ b, b < w0.heap.size → o0 b < 10) (hra0 : Row Rep.u8 (fun b_ => o0 b_ = 0) (fun b_ => o0 b_ = 0) w0 pA0 a0) (hla0 : a0.length ≤ pc0) (hra1 : Row Rep.u8 (fun b_ => o0 b_ = 0) (fun b_ => o0 b_ = 0) w0 pA1 a1) (hla1 : a1.length ≤ pc1) (H : bytes_Equal.f a0 a1 = some r) :
    Calls Tryd.prog 42 [.slice pA0 a0.length pc0, .slice pA1 a1.length pc1].toArray w0 fun e_ w_ => ∃ (o_ : Tags), e_ = .returned (one [.bool r]) ∧ Step o0 w0 o_ w_ [] := by
  have HF := Fm.refl hO []
  unfold bytes_Equal.f at H
  refine SX.calls [.slice pA0 a0.length pc0, .slice pA1 a1.length pc1] Tryd.func42 rfl rfl ?_
  rw [Tryd.ntmps42]
  refine WC.seq ?_
  refine WC.region ?_
  refine WL.ex rfl (ex_assign (v := .bool false) rfl) ?_
  refine WL.nil ?_
  refine WC.seq ?_
  refine WC.region ?_
  refine WL.ex rfl (ex_move (v := .slice pA0 a0.length pc0) rfl) ?_
  refine WL.ex rfl (ex_bytes_str rfl Tryd.underlying24 Tryd.underlying5 Tryd.underlying9 hra0) ?_
  refine WL.ex rfl (ex_move (v := .slice pA1 a1.length pc1) rfl) ?_
  refine WL.ex rfl (ex_bytes_str rfl Tryd.underlying24 Tryd.underlying5 Tryd.underlying9 hra1) ?_
  refine WL.ex rfl (ex_bin (a := encS a0) (b := encS a1) (v := .bool (a0 == a1)) rfl rfl bin_eql_str) ?_
  refine WL.ex rfl (ex_assign (v := .bool (a0 == a1)) rfl) ?_
  refine WL.nil ?_
  refine WC.ret ?_
  obtain rfl := Option.some.inj H
  exact ⟨_, (.tmp (.bool (a0 == a1) : Value) rfl .nil), _, rfl, HF.out⟩
end Go.Proofs.YtaidlahjngmenaaDoor.X
