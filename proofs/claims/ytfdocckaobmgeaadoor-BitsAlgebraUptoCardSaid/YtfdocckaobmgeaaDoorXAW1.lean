import Derived.Test.YtfdocckaobmgeaaDoorXAW0
set_option maxRecDepth 20000
set_option linter.unusedVariables false
set_option linter.unusedSimpArgs false
set_option linter.unnecessarySimpa false
namespace Go.Proofs.YtfdocckaobmgeaaDoor.X
open Go Go.RowKit Go.Proofs.YtfdocckaobmgeaaDoor.SX

/-! ### (*strings.Builder).copyCheck -/
theorem sizeBd : (Tryd.prog.info? 74).map (·.size) = some 2 := by kernel_rfl
theorem info5 : (Tryd.prog.info? 5).map (fun i => (i.zero, i.size, i.bytes)) = some (some (.int .u8 0), 1, 1) := by kernel_rfl
theorem Bd_copyCheck (w0 : World) (b : Nat) (p v : Value) (hb : w0.heap[b]? = some (.cells #[p, v] 74 (0, 0))) (hp : p = .pointer none ∨ p = .pointer (some ⟨b, 0, none⟩)) :
    Calls Tryd.prog 63 [.pointer (some ⟨b, 0, none⟩)].toArray w0 fun e_ w_ => e_ = .returned (one []) ∧ Kept b w0 w_ ∧ w_.heap[b]? = some (.cells #[.pointer (some ⟨b, 0, none⟩), v] 74 (0, 0)) := by
  have hB : Bk (tagOne b) w0 11 b [p, v] 74 := ⟨tagOne_same b, hb⟩
  refine SX.calls [.pointer (some ⟨b, 0, none⟩)] Tryd.func63 rfl rfl ?_
  rw [Tryd.ntmps63]
  refine WC.seq ?_
  refine WC.region ?_
  refine WL.ex rfl (ex_move (v := .pointer (some ⟨b, 0, none⟩)) rfl) ?_
  refine WL.ex rfl (ex_nilCheck rfl) ?_
  refine WL.ex rfl (ex_fieldAddr (k := 0) rfl Tryd.underlying74 rfl (by kernel_rfl)) ?_
  refine WL.ex rfl (ex_load1 (v := p) rfl Tryd.underlying71 rfl (hB.cell rfl)) ?_
  rcases hp with rfl | rfl
  · refine WL.ex rfl (ex_bin (a := .pointer none) (b := .pointer none) (v := .bool true) rfl rfl (bin_eql_ptrNN Tryd.underlying71)) ?_
    refine WL.nil ?_
    refine WC.cond_t rfl ?_
    refine WC.region ?_
    refine WL.ex rfl (ex_move (v := .pointer (some ⟨b, 0, none⟩)) rfl) ?_
    refine WL.ex rfl (ex_move (v := .pointer (some ⟨b, 0, none⟩)) rfl) ?_
    refine WL.ex rfl (ex_to_unsafe rfl Tryd.underlying71 Tryd.underlying90 2 rfl sizeBd rfl hB) ?_
    refine WL.ex rfl (ex_extern1 (v := .pointer (some ⟨b, 0, none⟩)) (v' := .pointer (some ⟨b, 0, none⟩)) rfl Tryd.func72 (by kernel_rfl) (by kernel_rfl) (by kernel_rfl) (ee := Extern.AbiNoEscape.same) (by kernel_rfl) rfl) ?_
    refine WL.ex rfl (ex_from_unsafe rfl Tryd.underlying90 Tryd.underlying71 (by kernel_rfl) hB (by kernel_rfl)) ?_
    refine WL.ex rfl (ex_nilCheck rfl) ?_
    refine WL.ex rfl (ex_fieldAddr (k := 0) rfl Tryd.underlying74 rfl (by kernel_rfl)) ?_
    refine WL.op rfl ?_
    refine OW.store [.pointer (some ⟨b, 0, none⟩), v] rfl (vs := [.pointer (some ⟨b, 0, none⟩)]) rfl (by kernel_rfl) hB (Nat.le_of_ble_eq_true rfl) (by intro u hu; simp at hu; subst hu; rfl) rfl ?_
    intro w1 s1 h1
    refine WL.nil ?_
    exact ⟨_, .nil, rfl, s1.kept, h1.heap⟩
  · refine WL.ex rfl (ex_bin (a := .pointer (some ⟨b, 0, none⟩)) (b := .pointer none) (v := .bool false) rfl rfl (bin_eql_ptrSN Tryd.underlying71)) ?_
    refine WL.nil ?_
    refine WC.cond_f rfl ?_
    refine WC.seq ?_
    refine WC.region ?_
    refine WL.ex rfl (ex_move (v := .pointer (some ⟨b, 0, none⟩)) rfl) ?_
    refine WL.ex rfl (ex_nilCheck rfl) ?_
    refine WL.ex rfl (ex_fieldAddr (k := 0) rfl Tryd.underlying74 rfl (by kernel_rfl)) ?_
    refine WL.ex rfl (ex_load1 (v := .pointer (some ⟨b, 0, none⟩)) rfl Tryd.underlying71 rfl (hB.cell rfl)) ?_
    refine WL.ex rfl (ex_move (v := .pointer (some ⟨b, 0, none⟩)) rfl) ?_
    refine WL.ex rfl (ex_bin (a := .pointer (some ⟨b, 0, none⟩)) (b := .pointer (some ⟨b, 0, none⟩)) (v := .bool false) rfl rfl (bin_neq_ptrSame Tryd.underlying71 (by kernel_rfl))) ?_
    refine WL.nil ?_
    refine WC.cond_f rfl ?_
    refine WC.skip ?_
    exact ⟨_, .nil, rfl, (Step.refl _ _ _).kept, hb⟩


/-! ### (*strings.Builder).Grow of a builder just laid -/
theorem Builder_Grow.calls (o0 : Tags) (w0 : World) (b : Nat) (a1 : Int) (r : List UInt8) (hO : ∀ b, b < w0.heap.size → o0 b < 10) (hB0 : Bk o0 w0 2 b [.pointer none, .slice none 0 0] 74) (hl : b + 1 = w0.heap.size) (H : Builder_Grow.f a1 = some r) :
    Calls Tryd.prog 56 [.pointer (some ⟨b, 0, none⟩), .int .i64 a1].toArray w0 fun e_ w_ => ∃ (o_ : Tags), e_ = .returned (one []) ∧ Step o0 w0 o_ w_ [2] ∧ Bd 74 5 2 o_ w_ b r := by
  unfold Builder_Grow.f at H
  obtain ⟨u, hu, H⟩ := bindE H
  obtain rfl := Option.some.inj H
  have hu' := chk_true hu
  simp only [Bool.and_eq_true, decide_eq_true_eq] at hu'
  obtain ⟨n, rfl⟩ : ∃ n : Nat, a1 = n := ⟨a1.toNat, by omega⟩
  refine Calls.mono (Tryd.Builder_Grow_fresh b b n w0 (Nat.le_refl _) hB0.heap (by omega) (by omega)) ?_
  rintro e w ⟨rfl, hBA, hb⟩
  obtain ⟨o_, s, hBd⟩ := grow_bd hB0 hl hBA hb
  exact ⟨o_, rfl, s, hBd⟩


/-! ### (*strings.Builder).WriteString -/
theorem Builder_WriteString.calls (o0 : Tags) (w0 : World) (b : Nat) (a0 : List UInt8) (a1 : List UInt8) (r : Int × List UInt8) (hO : ∀ b, b < w0.heap.size → o0 b < 10) (hB0 : Bd 74 5 2 o0 w0 b a0) (H : Builder_WriteString.f a0 a1 = some r) :
    Calls Tryd.prog 57 [.pointer (some ⟨b, 0, none⟩), encS a1].toArray w0 fun e_ w_ => ∃ (o_ : Tags), e_ = .returned (one [.int .i64 r.1, .nilIface]) ∧ Step o0 w0 o_ w_ [2] ∧ Bd 74 5 2 o_ w_ b r.2 := by
  unfold Builder_WriteString.f at H
  obtain ⟨u, hu, H⟩ := bindE H
  obtain rfl := Option.some.inj H
  obtain ⟨p, v, hB0', hp, hO1⟩ := hB0
  have hb := hB0'.heap
  have hn := hO1.notin hb rfl
  have h0 : o0 b ≠ 0 := by rw [hB0'.tag]; decide
  have hO2 : Own Rep.u8 5 2 (apart1 o0 b) w0 v a0 := hO1.apart hn h0
  refine SX.calls [.pointer (some ⟨b, 0, none⟩), encS a1] Tryd.func57 rfl rfl ?_
  rw [Tryd.ntmps57]
  refine WC.seq ?_
  refine WC.region ?_
  refine WL.ex rfl (ex_assign (v := .int .i64 0) rfl) ?_
  refine WL.ex rfl (ex_assign (v := .nilIface) rfl) ?_
  refine WL.nil ?_
  refine WC.seq ?_
  refine WC.region ?_
  refine WL.ex rfl (ex_move (v := .pointer (some ⟨b, 0, none⟩)) rfl) ?_
  refine WL.op rfl ?_
  refine OW.call [.pointer (some ⟨b, 0, none⟩)] rfl Tryd.func63 (by kernel_rfl) (by kernel_rfl) rfl (Bd_copyCheck w0 b p v hb hp) ?_
  rintro _ w1 ⟨rfl, k1, hb1⟩
  refine ⟨_, rfl, ?_⟩
  have s1 : Step (apart1 o0 b) w0 (apart1 o0 b) w1 [11, 2] := Step.trans (k1.step (apart1_same o0 b)) (Step.refl _ _ []) rfl rfl
  replace hO2 := hO2.kept k1 hn (by rw [apart1_same]; decide)
  have hB : Bk (apart1 o0 b) w1 11 b [.pointer (some ⟨b, 0, none⟩), v] 74 := ⟨apart1_same o0 b, hb1⟩
  refine WL.nil ?_
  refine WC.seq ?_
  refine WC.region ?_
  refine WL.ex rfl (ex_move (v := .pointer (some ⟨b, 0, none⟩)) rfl) ?_
  refine WL.ex rfl (ex_move (v := .pointer (some ⟨b, 0, none⟩)) rfl) ?_
  refine WL.ex rfl (ex_nilCheck rfl) ?_
  refine WL.ex rfl (ex_fieldAddr (k := 0) rfl Tryd.underlying74 rfl (by kernel_rfl)) ?_
  refine WL.ex rfl (ex_load1 (v := v) rfl Tryd.underlying72 rfl (hB.cell rfl)) ?_
  refine WL.ex rfl (ex_move (v := encS a1) rfl) ?_
  refine WL.op rfl ?_
  refine OW.appendStr (E := 5) (i := 2) (s := a1) rfl Tryd.underlying72 Tryd.underlying9 info5 (by decide) rfl rfl hO2 (of_decide_eq_true (chk_true hu)) ?_
  intro o3 w3 v3 s3 hO2
  replace hB := hB.step s3 rfl
  replace s1 := Step.trans s1 s3 (M := [11, 2]) rfl rfl
  refine WL.ex rfl (ex_nilCheck rfl) ?_
  refine WL.ex rfl (ex_fieldAddr (k := 0) rfl Tryd.underlying74 rfl (by kernel_rfl)) ?_
  refine WL.op rfl ?_
  refine OW.store [.pointer (some ⟨b, 0, none⟩), v3] rfl (vs := [v3]) (by obtain ⟨A_, c_, e_⟩ := hO2.slice; show v3.cells = _; rw [e_]; rfl) (by kernel_rfl) hB (Nat.le_of_ble_eq_true rfl) (by intro u hu; simp at hu; subst hu; obtain ⟨A_, c_, e_⟩ := hO2.slice; rw [e_]; rfl) rfl ?_
  intro w4 s4 hB4
  replace hO2 := hO2.step s4 rfl rfl
  replace s1 := Step.trans s1 s4 (M := [11, 2]) rfl rfl
  refine WL.nil ?_
  refine WC.seq ?_
  refine WC.region ?_
  refine WL.ex rfl (ex_move (v := encS a1) rfl) ?_
  refine WL.ex rfl (ex_len_str (s := a1) rfl Tryd.underlying9) ?_
  refine WL.ex rfl (ex_assign (v := .int .i64 (a1.length : Int)) rfl) ?_
  refine WL.ex rfl (ex_assign (v := .nilIface) rfl) ?_
  refine WL.nil ?_
  refine WC.ret ?_
  exact ⟨_, .tmp (.int .i64 (a1.length : Int)) rfl (.tmp (.nilIface) rfl .nil), _, rfl, apart_step hO hB0'.tag s1 rfl, _, _, Bk.renTo hB4, .inr rfl, hO2.ren rfl rfl⟩


/-! ### (*strings.Builder).String -/
theorem unsafe_string (i : Nat) (o : Tags) (w : World) (A : Option Addr) (xs : List UInt8) (c : Nat) (p : Option Addr) (hO : Own Rep.u8 5 i o w (.slice A xs.length c) xs) (hp : xs ≠ [] → p = A) (hl : xs.length ≤ 9223372036854775807) :
    ∃ w', (Builtin.unsafeString_ #[83, 3] 9 #[.pointer p, .int .i64 xs.length]).run Tryd.prog w = .ok (encS xs) w' ∧ Step o w o w' [i] := by
  by_cases h0 : xs = []
  · subst h0
    exact ⟨w, by have := Lib.run_unsafeString_none (P := Tryd.prog) w 83 3 9 p; rw [List.length_nil]; rw [show ((0 : Nat) : Int) = 0 from rfl, this]; rfl, Step.refl _ _ _⟩
  · obtain rfl := hp h0
    obtain ⟨cells, hown, ht, hm⟩ := hO
    rcases hown.2 with ⟨_, hz⟩ | ⟨g, cap, cur, hv, _, hg, hn, hcm, hcs, htake⟩
    · exact absurd (List.eq_nil_of_length_eq_zero hz) h0
    · injection hv with e1 _ e3
      subst e1
      have hcz : cur.size = cap := by rw [hcs]; exact Nat.mul_one cap
      refine ⟨w.freeze ⟨g, 0, none⟩ xs.length, ?_, step_freeze (ht g rfl)⟩
      refine Lib.run_unsafeString_row (P := Tryd.prog) w 83 3 9 5 Tryd.underlying83 (by kernel_rfl) g cur.size (by simp [World.shape?, hg]) xs h0 (by omega) hl ?_
      intro j x hx
      have hcell := World.ownsRow.cells hown (g := g) rfl j (enc8 x)
      have hcs' : cells = xs.map enc8 := many_scalar hm
      rw [hcs'] at hcell
      exact hcell (by simp [hx])
theorem Builder_String.calls (o0 : Tags) (w0 : World) (b : Nat) (a0 : List UInt8) (r : List UInt8) (hO : ∀ b, b < w0.heap.size → o0 b < 10) (hB0 : Bd 74 5 2 o0 w0 b a0) (H : Builder_String.f a0 = some r) :
    Calls Tryd.prog 58 [.pointer (some ⟨b, 0, none⟩)].toArray w0 fun e_ w_ => ∃ (o_ : Tags), e_ = .returned (one [encS r]) ∧ Step o0 w0 o_ w_ [2] := by
  unfold Builder_String.f at H
  obtain ⟨u, hu, H⟩ := bindE H
  obtain rfl := Option.some.inj H
  have hl : a0.length ≤ 9223372036854775807 := of_decide_eq_true (chk_true hu)
  obtain ⟨p, v, hB0', hp, hO1⟩ := hB0
  have hb := hB0'.heap
  have hn := hO1.notin hb rfl
  have h0 : o0 b ≠ 0 := by rw [hB0'.tag]; decide
  have hO2 : Own Rep.u8 5 2 (apart1 o0 b) w0 v a0 := hO1.apart hn h0
  have HF := Fm.here2 (apart1 o0 b) w0
  have hB : Bk (apart1 o0 b) w0 11 b [p, v] 74 := ⟨apart1_same o0 b, hb⟩
  refine SX.calls [.pointer (some ⟨b, 0, none⟩)] Tryd.func58 rfl rfl ?_
  rw [Tryd.ntmps58]
  refine WC.seq ?_
  refine WC.region ?_
  refine WL.ex rfl (ex_assign (v := encS []) rfl) ?_
  refine WL.nil ?_
  refine WC.seq ?_
  refine WC.regionD' HF [2] 12 (by kernel_rfl) rfl ?_
  intro w1 s1
  replace hO2 := hO2.step s1 rfl rfl
  replace hB := hB.step s1 rfl
  replace HF := HF.step s1 rfl
  have hBD := hB
  have sR := HF.here [2]
  obtain ⟨A, c, e, hlc, hr⟩ := hO2.row
  subst e
  refine WA.ex 0 rfl (by kernel_rfl) (by kernel_rfl) (by kernel_rfl) rfl ⟨_, sR⟩ (fun w_ hS_ => ex_move (v := .pointer (some ⟨b, 0, none⟩)) rfl) ?_
  refine WA.ex 1 rfl (by kernel_rfl) (by kernel_rfl) (by kernel_rfl) rfl ⟨_, sR⟩ (fun w_ hS_ => ex_nilCheck rfl) ?_
  refine WA.ex 2 rfl (by kernel_rfl) (by kernel_rfl) (by kernel_rfl) rfl ⟨_, sR⟩ (fun w_ hS_ => ex_fieldAddr (k := 0) rfl Tryd.underlying74 rfl (by kernel_rfl)) ?_
  refine WA.ex 3 rfl (by kernel_rfl) (by kernel_rfl) (by kernel_rfl) rfl ⟨_, sR⟩ (fun w_ hS_ => ex_load1 (v := .slice A a0.length c) rfl Tryd.underlying72 rfl ((hBD.step hS_.choose_spec rfl).cell rfl)) ?_
  refine WA.ex 5 rfl (by kernel_rfl) (by kernel_rfl) (by kernel_rfl) rfl ⟨_, sR⟩ (fun w_ hS_ => ex_move (v := .pointer (some ⟨b, 0, none⟩)) rfl) ?_
  refine WA.ex 6 rfl (by kernel_rfl) (by kernel_rfl) (by kernel_rfl) rfl ⟨_, sR⟩ (fun w_ hS_ => ex_nilCheck rfl) ?_
  refine WA.ex 7 rfl (by kernel_rfl) (by kernel_rfl) (by kernel_rfl) rfl ⟨_, sR⟩ (fun w_ hS_ => ex_fieldAddr (k := 0) rfl Tryd.underlying74 rfl (by kernel_rfl)) ?_
  refine WA.ex 8 rfl (by kernel_rfl) (by kernel_rfl) (by kernel_rfl) rfl ⟨_, sR⟩ (fun w_ hS_ => ex_load1 (v := .slice A a0.length c) rfl Tryd.underlying72 rfl ((hBD.step hS_.choose_spec rfl).cell rfl)) ?_
  refine WA.ex 9 rfl (by kernel_rfl) (by kernel_rfl) (by kernel_rfl) rfl ⟨_, sR⟩ (fun w_ hS_ => ex_len_slice (A := A) (m := a0.length) (c := c) rfl Tryd.underlying72) ?_
  have hdata : ∃ q w2 o2, (Builtin.unsafeSliceData_ #[72] 83 #[.slice A a0.length c]).run Tryd.prog w1 = .ok (.pointer q) w2 ∧ Step (apart1 o0 b) w1 o2 w2 [] ∧ (a0 ≠ [] → q = A) := by
    cases A with
    | none => exact ⟨none, w1, _, Lib.run_unsafeSliceData_nil w1 _ _ _ _, Step.refl _ _ _, fun _ => rfl⟩
    | some ad =>
      by_cases hc : c = 0
      · subst hc
        obtain ⟨cells, hown, ht, hm⟩ := hO2
        rcases hown.2 with ⟨hz, _⟩ | ⟨g, cap, cur, hv, _, hg, _⟩
        · cases hz
        · injection hv with e1 _ e3
          injection e1 with e1
          subst e1
          exact ⟨_, _, _, Lib.run_unsafeSliceData_zero (P := Tryd.prog) w1 #[72] 83 5 Tryd.underlying83 ⟨g, 0, none⟩ a0.length (5, cur.size) (by simp [World.shape?, hg]), step_alloc (apart1 o0 b) w1 1 _ [], fun h => absurd (List.eq_nil_of_length_eq_zero (by omega)) h⟩
      · exact ⟨some ad, w1, _, Lib.run_unsafeSliceData_row w1 _ _ ad _ _ hc, Step.refl _ _ _, fun _ => rfl⟩
  obtain ⟨q, w2, o2, hr2, s2, hq⟩ := hdata
  refine WA.one 4 (by kernel_rfl) rfl rfl ?_
  refine OW.val (v := .pointer q) (w' := w2) rfl (run_usd (v := .slice A a0.length c) rfl hr2) ?_
  replace sR := Step.trans sR s2 (M := [2]) rfl rfl
  replace hO2 := hO2.step s2 rfl rfl
  refine ⟨⟨_, sR⟩, ?_⟩
  obtain ⟨w3, hr3, s3⟩ := unsafe_string 2 o2 w2 A a0 c q hO2 hq hl
  refine WA.one 10 (by kernel_rfl) rfl rfl ?_
  refine OW.val (v := encS a0) (w' := w3) rfl (run_us (v := .pointer q) (u := .int .i64 (a0.length : Int)) rfl rfl hr3) ?_
  replace sR := Step.trans sR s3 (M := [2]) rfl rfl
  refine ⟨⟨_, sR⟩, ?_⟩
  refine WA.one 11 (by kernel_rfl) rfl rfl ?_
  refine OW.ex rfl (ex_assign (v := encS a0) rfl) ?_
  refine ⟨⟨_, sR⟩, ?_⟩
  refine WA.done (by kernel_rfl) ?_
  refine WC.ret ?_
  exact ⟨_, .tmp (encS a0) rfl .nil, _, rfl, apart_step hO hB0'.tag (Step.trans s1 sR (M := [11, 2]) rfl rfl) rfl⟩

/-! ### strings_Join -/
set_option maxRecDepth 100000 in
theorem strings_Join.calls (k : Nat) (o0 : Tags) (w0 : World) (pA0 : Option Addr) (pc0 : Nat) (a0 : (List (List UInt8))) (a1 : List UInt8) (r : (List UInt8)) (hO : ∀ b, b < w0.heap.size → o0 b < 10) (hra0 : Row Rep.str (fun b_ => o0 b_ = 0) (fun b_ => o0 b_ = 0) w0 pA0 a0) (hla0 : a0.length ≤ pc0) (H : strings_Join.f k a0 a1 = some r) :
    Calls Tryd.prog 39 [.slice pA0 a0.length pc0, encS a1].toArray w0 fun e_ w_ => ∃ (o_ : Tags), e_ = .returned (one [encS r]) ∧ Step o0 w0 o_ w_ [] := by
  have HF := Fm.refl hO []
  unfold strings_Join.f at H
  refine SX.calls [.slice pA0 a0.length pc0, encS a1] Tryd.func39 rfl rfl ?_
  rw [Tryd.ntmps39]
  refine WC.seq ?_
  refine WC.region ?_
  refine WL.ex rfl (ex_assign (v := encS ([] : List UInt8)) rfl) ?_
  refine WL.nil ?_
  refine WC.seq ?_
  refine WC.seq ?_
  refine WC.region ?_
  refine WL.ex rfl (ex_move (v := .slice pA0 a0.length pc0) rfl) ?_
  refine WL.ex rfl (ex_len_slice (A := pA0) (m := a0.length) (c := pc0) rfl Tryd.underlying54) ?_
  refine WL.nil ?_
  refine WC.block ?_
  refine WC.seq ?_
  refine WC.region ?_
  refine WL.ex rfl (ex_bin (a := .int .i64 (a0.length : Int)) (b := .int .i64 0) (v := .bool ((a0.length : Int) == 0)) rfl rfl bin_eql) ?_
  refine WL.ex rfl (ex_assign (v := .bool ((a0.length : Int) == 0)) rfl) ?_
  refine WL.nil ?_
  rcases condE H with ⟨c101, H⟩ | ⟨c101, H⟩
  ·
    refine WC.cond_t ((show _ = Value.bool ((a0.length : Int) == 0) from rfl).trans (congrArg Value.bool c101)) ?_
    refine WC.seq ?_
    refine WC.region ?_
    refine WL.ex rfl (ex_assign (v := encS ([] : List UInt8)) rfl) ?_
    refine WL.nil ?_
    refine WC.ret ?_
    obtain rfl := Option.some.inj H
    exact ⟨_, (.tmp (encS ([] : List UInt8) : Value) rfl .nil), _, rfl, HF.out⟩
  ·
    refine WC.cond_f ((show _ = Value.bool ((a0.length : Int) == 0) from rfl).trans (congrArg Value.bool c101)) ?_
    refine WC.seq ?_
    refine WC.region ?_
    refine WL.ex rfl (ex_bin (a := .int .i64 (a0.length : Int)) (b := .int .i64 1) (v := .bool ((a0.length : Int) == 1)) rfl rfl bin_eql) ?_
    refine WL.ex rfl (ex_assign (v := .bool ((a0.length : Int) == 1)) rfl) ?_
    refine WL.nil ?_
    rcases condE H with ⟨c102, H⟩ | ⟨c102, H⟩
    ·
      refine WC.cond_t ((show _ = Value.bool ((a0.length : Int) == 1) from rfl).trans (congrArg Value.bool c102)) ?_
      refine WC.seq ?_
      refine WC.region ?_
      refine WL.ex rfl (ex_move (v := .slice pA0 a0.length pc0) rfl) ?_
      obtain ⟨x103, hx103, H⟩ := bindE H
      obtain ⟨ad104, e105, g106, g107, cell108⟩ := Row.ixS hra0 hx103
      refine WL.ex rfl (ex_indexAddr (i := (0 : Int)) rfl e105 rfl Tryd.underlying54 sz9 g106 g107) ?_
      refine WL.ex rfl (ex_load1 (v := encS x103) rfl Tryd.underlying9 rfl cell108) ?_
      refine WL.ex rfl (ex_assign (v := encS x103) rfl) ?_
      refine WL.nil ?_
      refine WC.ret ?_
      obtain rfl := Option.some.inj H
      exact ⟨_, (.tmp (encS x103 : Value) rfl .nil), _, rfl, HF.out⟩
    ·
      refine WC.cond_f ((show _ = Value.bool ((a0.length : Int) == 1) from rfl).trans (congrArg Value.bool c102)) ?_
      refine WC.skip ?_
      refine WC.seq ?_
      refine WC.region ?_
      refine WL.ex rfl (ex_assign (v := .int .i64 0) rfl) ?_
      refine WL.nil ?_
      obtain ⟨z111, hz111, H⟩ := bindE H
      refine WC.cut (fun ρ_ w_ => ∃ (o_ : Tags), Fm o0 w0 o_ w_ [] ∧ Row Rep.str (fun b_ => o_ b_ = 0) (fun b_ => o_ b_ = 0) w_ pA0 a0 ∧ ρ_ 0 = .slice pA0 a0.length pc0 ∧ ρ_ 1 = encS a1 ∧ ρ_ 4 = encS ([] : List UInt8) ∧ ρ_ 5 = .int .i64 z111) ?case112 ?_
      case case112 =>
        rintro ρ115 w113 ⟨o114, HF, hra0, s0_109, s1_109, s4_109, s5_110⟩
        refine WC.seq ?_
        refine WC.seq ?_
        refine WC.region ?_
        refine WL.ex rfl (ex_move (v := .slice pA0 a0.length pc0) s0_109) ?_
        refine WL.ex rfl (ex_len_slice (A := pA0) (m := a0.length) (c := pc0) rfl Tryd.underlying54) ?_
        refine WL.ex rfl (ex_move (v := .int .i64 0) rfl) ?_
        refine WL.nil ?_
        obtain ⟨z119, hz119, H⟩ := bindE H
        refine WC.for (fun k_ ρ_ w_ => ∃ (o_ : Tags) (x116 : Int) (x117 : Int), Fm o0 w0 o_ w_ [] ∧ Row Rep.str (fun b_ => o_ b_ = 0) (fun b_ => o_ b_ = 0) w_ pA0 a0 ∧ ρ_ 0 = .slice pA0 a0.length pc0 ∧ ρ_ 1 = encS a1 ∧ ρ_ 4 = encS ([] : List UInt8) ∧ ρ_ 5 = .int .i64 x116 ∧ ρ_ 39 = .slice pA0 a0.length pc0 ∧ ρ_ 40 = .int .i64 (a0.length : Int) ∧ ρ_ 41 = .int .i64 x117 ∧ strings_Join.l1 k a0 k_ x116 x117 = some z119) k (fun ρ_ w_ => ∃ (o_ : Tags), Fm o0 w0 o_ w_ [] ∧ Row Rep.str (fun b_ => o_ b_ = 0) (fun b_ => o_ b_ = 0) w_ pA0 a0 ∧ ρ_ 0 = .slice pA0 a0.length pc0 ∧ ρ_ 1 = encS a1 ∧ ρ_ 4 = encS ([] : List UInt8) ∧ ρ_ 5 = .int .i64 z119) ⟨_, z111, 0, HF, hra0, s0_109, s1_109, s4_109, s5_110, rfl, rfl, rfl, hz119⟩ ?case120 ?_
        case case120 =>
          rintro ρ135 w136 ⟨o137, HF, hra0, s0_117, s1_117, s4_117, s5_118⟩
          refine WC.seq ?_
          refine WC.region ?_
          refine WL.op rfl ?_
          refine OW.allocFr 10 HF rfl (by kernel_rfl) ?_
          intro o139 w140 b138 s141 hB142 hl143
          replace hra0 := hra0.step s141 rfl
          replace HF := HF.step s141 rfl
          refine WL.nil ?_
          refine WC.seq ?_
          refine WC.region ?_
          refine WL.ex rfl (ex_move (v := .int .i64 z119) s5_118) ?_
          obtain ⟨z144, hz144, H⟩ := bindE H
          refine WL.op rfl ?_
          refine OW.call [.pointer (some ⟨b138, 0, none⟩), .int .i64 z119] rfl Tryd.func56 (by kernel_rfl) (by kernel_rfl) (map_cons' rfl (map_cons' rfl rfl)) (Builder_Grow.calls _ _ b138 z119 z144 (HF.ten (V := [0]) (L := [10]) rfl) (Bk.vw (V := [0]) (L := [10]) hB142 rfl) hl143 hz144) ?_
          rintro _ w145 ⟨o146, rfl, s147, hB148⟩
          refine ⟨_, rfl, ?_⟩
          replace hB148 := Bd.unO (J := []) 0 hB148 s147 rfl rfl rfl
          replace s147 := un_stepL (J := []) (L' := [10]) s147 rfl rfl
          replace hra0 := hra0.step s147 rfl
          replace HF := HF.step s147 rfl
          refine WL.nil ?_
          refine WC.seq ?_
          refine WC.region ?_
          refine WL.ex rfl (ex_move (v := .slice pA0 a0.length pc0) s0_117) ?_
          obtain ⟨x149, hx149, H⟩ := bindE H
          obtain ⟨ad150, e151, g152, g153, cell154⟩ := Row.ixS hra0 hx149
          refine WL.ex rfl (ex_indexAddr (i := (0 : Int)) rfl e151 rfl Tryd.underlying54 sz9 g152 g153) ?_
          refine WL.ex rfl (ex_load1 (v := encS x149) rfl Tryd.underlying9 rfl cell154) ?_
          obtain ⟨z156, hz156, H⟩ := bindE H
          refine WL.op rfl ?_
          refine OW.call [.pointer (some ⟨b138, 0, none⟩), encS x149] rfl Tryd.func57 (by kernel_rfl) (by kernel_rfl) (map_cons' rfl (map_cons' rfl rfl)) (Builder_WriteString.calls _ _ b138 z144 x149 z156 (HF.ten (V := [0]) (L := [10]) rfl) (Bd.vw (V := [0]) (L := [10]) hB148 rfl rfl) hz156) ?_
          rintro _ w157 ⟨o158, rfl, s159, hB160⟩
          refine ⟨_, rfl, ?_⟩
          replace hB160 := Bd.unO (J := []) 0 hB160 s159 rfl rfl rfl
          replace s159 := un_stepL (J := []) (L' := [10]) s159 rfl rfl
          replace hra0 := hra0.step s159 rfl
          replace HF := HF.step s159 rfl
          refine WL.nil ?_
          refine WC.seq ?_
          refine WC.seq ?_
          refine WC.region ?_
          refine WL.ex rfl (ex_move (v := .slice pA0 a0.length pc0) s0_117) ?_
          obtain ⟨y161, hy161, H⟩ := bindE H
          have hr163 := Row.cut hra0 hla0 hy161
          obtain ⟨A164, el167⟩ : ∃ A_, A_ = subA pA0 pc0 (1 : Int).toNat 1 := ⟨_, rfl⟩
          rw [show subA pA0 pc0 (1 : Int).toNat Rep.str.sz = A164 from el167.symm] at hr163
          have hl166 : y161.length ≤ pc0 - (1 : Int).toNat := cut_le hla0 hy161
          refine WL.ex rfl (ex_slice' (l := 1) (h := (a0.length : Int)) rfl Tryd.underlying54 sz9 ⟨_, rfl⟩ rfl (cut_low hy161) (cut_mid hy161) (cut_cap hla0 hy161) el167 (cut_len hy161)) ?_
          refine WL.ex rfl (ex_len_slice (A := A164) (m := y161.length) (c := (pc0 - (1 : Int).toNat)) rfl Tryd.underlying54) ?_
          refine WL.ex rfl (ex_move (v := .int .i64 0) rfl) ?_
          refine WL.nil ?_
          obtain ⟨z171, hz171, H⟩ := bindE H
          refine WC.for (fun k_ ρ_ w_ => ∃ (o_ : Tags) (x168 : Int) (x169 : (List UInt8)), Fm o0 w0 o_ w_ [] ∧ Row Rep.str (fun b_ => o_ b_ = 0) (fun b_ => o_ b_ = 0) w_ A164 y161 ∧ Bd 74 5 10 o_ w_ b138 x169 ∧ ρ_ 1 = encS a1 ∧ ρ_ 4 = encS ([] : List UInt8) ∧ ρ_ 8 = .pointer (some ⟨b138, 0, none⟩) ∧ ρ_ 63 = .slice A164 y161.length (pc0 - (1 : Int).toNat) ∧ ρ_ 64 = .int .i64 (y161.length : Int) ∧ ρ_ 65 = .int .i64 x168 ∧ strings_Join.l2 k a1 y161 k_ x168 x169 = some z171) k (fun ρ_ w_ => ∃ (o_ : Tags), Fm o0 w0 o_ w_ [] ∧ Bd 74 5 10 o_ w_ b138 z171 ∧ ρ_ 4 = encS ([] : List UInt8) ∧ ρ_ 8 = .pointer (some ⟨b138, 0, none⟩)) ⟨_, 0, z156.2, HF, hr163, hB160, s1_117, s4_117, rfl, rfl, rfl, rfl, hz171⟩ ?case172 ?_
          case case172 =>
            rintro ρ196 w197 ⟨o198, HF, hB160, s4_169, s8_169⟩
            refine WC.seq ?_
            refine WC.region ?_
            obtain ⟨z199, hz199, H⟩ := bindE H
            refine WL.op rfl ?_
            refine OW.call [.pointer (some ⟨b138, 0, none⟩)] rfl Tryd.func58 (by kernel_rfl) (by kernel_rfl) (map_cons' s8_169 rfl) (Builder_String.calls _ _ b138 z171 z199 (HF.ten (V := [0]) (L := [10]) rfl) (Bd.vw (V := [0]) (L := [10]) hB160 rfl rfl) hz199) ?_
            rintro _ w200 ⟨o201, rfl, s202⟩
            refine ⟨_, rfl, ?_⟩
            replace s202 := un_stepL (J := []) (L' := [10]) s202 rfl rfl
            replace HF := HF.step s202 rfl
            refine WL.ex rfl (ex_assign (v := encS z199) rfl) ?_
            refine WL.nil ?_
            refine WC.ret ?_
            obtain rfl := Option.some.inj H
            exact ⟨_, (.tmp (encS z199 : Value) rfl .nil), _, rfl, HF.out⟩
          have Ho173 := H
          rintro k174 ρ175 w176 ⟨o177, x168, x169, HF, hr163, hB160, s1_167, s4_167, s8_167, s63_167, s64_167, s65_168, H⟩
          cases k174 with
          | zero => cases H
          | succ k174 =>
          rw [strings_Join.l2.eq_2] at H
          refine WC.seq ?_
          refine WC.region ?_
          refine WL.ex rfl (ex_bin (a := .int .i64 x168) (b := .int .i64 (y161.length : Int)) (v := .bool (decide (x168 < (y161.length : Int)))) s65_168 s64_167 bin_lss) ?_
          refine WL.nil ?_
          refine WC.seq ?_
          rcases condE H with ⟨c178, H⟩ | ⟨c178, H⟩
          ·
            refine WC.cond_t ((show _ = Value.bool (decide (x168 < (y161.length : Int))) from rfl).trans (congrArg Value.bool c178)) ?_
            refine WC.skip ?_
            refine WC.seq ?_
            refine WC.block ?_
            refine WC.seq ?_
            refine WC.region ?_
            obtain ⟨x179, hx179, H⟩ := bindE H
            obtain ⟨ad180, e181, g182, g183, cell184⟩ := Row.ixS hr163 hx179
            refine WL.ex rfl (ex_indexAddr (i := x168) s63_167 e181 s65_168 Tryd.underlying54 sz9 g182 g183) ?_
            refine WL.ex rfl (ex_load1 (v := encS x179) rfl Tryd.underlying9 rfl cell184) ?_
            refine WL.ex rfl (ex_assign (v := encS x179) rfl) ?_
            refine WL.nil ?_
            refine WC.seq ?_
            refine WC.region ?_
            refine WL.ex rfl (ex_move (v := encS a1) s1_167) ?_
            obtain ⟨z186, hz186, H⟩ := bindE H
            refine WL.op rfl ?_
            refine OW.call [.pointer (some ⟨b138, 0, none⟩), encS a1] rfl Tryd.func57 (by kernel_rfl) (by kernel_rfl) (map_cons' s8_167 (map_cons' rfl rfl)) (Builder_WriteString.calls _ _ b138 x169 a1 z186 (HF.ten (V := [0]) (L := [10]) rfl) (Bd.vw (V := [0]) (L := [10]) hB160 rfl rfl) hz186) ?_
            rintro _ w187 ⟨o188, rfl, s189, hB190⟩
            refine ⟨_, rfl, ?_⟩
            replace hB190 := Bd.unO (J := []) 0 hB190 s189 rfl rfl rfl
            replace s189 := un_stepL (J := []) (L' := [10]) s189 rfl rfl
            replace hr163 := hr163.step s189 rfl
            replace HF := HF.step s189 rfl
            refine WL.nil ?_
            refine WC.region ?_
            refine WL.ex rfl (ex_move (v := encS x179) rfl) ?_
            obtain ⟨z191, hz191, H⟩ := bindE H
            refine WL.op rfl ?_
            refine OW.call [.pointer (some ⟨b138, 0, none⟩), encS x179] rfl Tryd.func57 (by kernel_rfl) (by kernel_rfl) (map_cons' s8_167 (map_cons' rfl rfl)) (Builder_WriteString.calls _ _ b138 z186.2 x179 z191 (HF.ten (V := [0]) (L := [10]) rfl) (Bd.vw (V := [0]) (L := [10]) hB190 rfl rfl) hz191) ?_
            rintro _ w192 ⟨o193, rfl, s194, hB195⟩
            refine ⟨_, rfl, ?_⟩
            replace hB195 := Bd.unO (J := []) 0 hB195 s194 rfl rfl rfl
            replace s194 := un_stepL (J := []) (L' := [10]) s194 rfl rfl
            replace hr163 := hr163.step s194 rfl
            replace HF := HF.step s194 rfl
            refine WL.nil ?_
            refine WC.region ?_
            refine WL.ex rfl (ex_bin (a := .int .i64 x168) (b := .int .i64 1) (v := .int .i64 (wrap64 (x168 + 1))) s65_168 rfl bin_add64) ?_
            refine WL.ex rfl (ex_move (v := .int .i64 (wrap64 (x168 + 1))) rfl) ?_
            refine WL.nil ?_
            exact ⟨k174, Nat.lt_succ_self _, ⟨_, wrap64 (x168 + 1), z191.2, HF, hr163, hB195, s1_167, s4_167, s8_167, s63_167, s64_167, rfl, H⟩⟩
          ·
            refine WC.cond_f ((show _ = Value.bool (decide (x168 < (y161.length : Int))) from rfl).trans (congrArg Value.bool c178)) ?_
            refine WC.exit ?_
            obtain rfl := Option.some.inj H
            exact ⟨_, HF, hB160, s4_167, s8_167⟩
        have Ho121 := H
        rintro k122 ρ123 w124 ⟨o125, x116, x117, HF, hra0, s0_115, s1_115, s4_115, s5_116, s39_116, s40_116, s41_117, H⟩
        cases k122 with
        | zero => cases H
        | succ k122 =>
        rw [strings_Join.l1.eq_2] at H
        refine WC.seq ?_
        refine WC.region ?_
        refine WL.ex rfl (ex_bin (a := .int .i64 x117) (b := .int .i64 (a0.length : Int)) (v := .bool (decide (x117 < (a0.length : Int)))) s41_117 s40_116 bin_lss) ?_
        refine WL.nil ?_
        refine WC.seq ?_
        rcases condE H with ⟨c126, H⟩ | ⟨c126, H⟩
        ·
          refine WC.cond_t ((show _ = Value.bool (decide (x117 < (a0.length : Int))) from rfl).trans (congrArg Value.bool c126)) ?_
          refine WC.skip ?_
          refine WC.seq ?_
          refine WC.block ?_
          refine WC.seq ?_
          refine WC.region ?_
          obtain ⟨x127, hx127, H⟩ := bindE H
          obtain ⟨ad128, e129, g130, g131, cell132⟩ := Row.ixS hra0 hx127
          refine WL.ex rfl (ex_indexAddr (i := x117) s39_116 e129 s41_117 Tryd.underlying54 sz9 g130 g131) ?_
          refine WL.ex rfl (ex_load1 (v := encS x127) rfl Tryd.underlying9 rfl cell132) ?_
          refine WL.ex rfl (ex_assign (v := encS x127) rfl) ?_
          refine WL.nil ?_
          refine WC.seq ?_
          refine WC.seq ?_
          refine WC.region ?_
          refine WL.ex rfl (ex_move (v := encS x127) rfl) ?_
          refine WL.ex rfl (ex_len_str (s := x127) rfl Tryd.underlying9) ?_
          refine WL.ex rfl (ex_move (v := .int .i64 x116) s5_116) ?_
          refine WL.ex rfl (ex_bin (a := .int .i64 9223372036854775807) (b := .int .i64 x116) (v := .int .i64 (wrap64 (9223372036854775807 - x116))) rfl rfl bin_sub64) ?_
          refine WL.ex rfl (ex_bin (a := .int .i64 (x127.length : Int)) (b := .int .i64 (wrap64 (9223372036854775807 - x116))) (v := .bool (decide ((x127.length : Int) > (wrap64 (9223372036854775807 - x116))))) rfl rfl bin_gtr) ?_
          refine WL.nil ?_
          rcases condE H with ⟨c134, H⟩ | ⟨c134, H⟩
          ·
            refine WC.cond_t ((show _ = Value.bool (decide ((x127.length : Int) > (wrap64 (9223372036854775807 - x116)))) from rfl).trans (congrArg Value.bool c134)) ?_
            cases H
          ·
            refine WC.cond_f ((show _ = Value.bool (decide ((x127.length : Int) > (wrap64 (9223372036854775807 - x116)))) from rfl).trans (congrArg Value.bool c134)) ?_
            refine WC.skip ?_
            refine WC.region ?_
            refine WL.ex rfl (ex_move (v := .int .i64 x116) s5_116) ?_
            refine WL.ex rfl (ex_move (v := encS x127) rfl) ?_
            refine WL.ex rfl (ex_len_str (s := x127) rfl Tryd.underlying9) ?_
            refine WL.ex rfl (ex_bin (a := .int .i64 x116) (b := .int .i64 (x127.length : Int)) (v := .int .i64 (wrap64 (x116 + (x127.length : Int)))) rfl rfl bin_add64) ?_
            refine WL.ex rfl (ex_assign (v := .int .i64 (wrap64 (x116 + (x127.length : Int)))) rfl) ?_
            refine WL.nil ?_
            refine WC.region ?_
            refine WL.ex rfl (ex_bin (a := .int .i64 x117) (b := .int .i64 1) (v := .int .i64 (wrap64 (x117 + 1))) s41_117 rfl bin_add64) ?_
            refine WL.ex rfl (ex_move (v := .int .i64 (wrap64 (x117 + 1))) rfl) ?_
            refine WL.nil ?_
            exact ⟨k122, Nat.lt_succ_self _, ⟨_, wrap64 (x116 + (x127.length : Int)), wrap64 (x117 + 1), HF, hra0, s0_115, s1_115, s4_115, rfl, s39_116, s40_116, rfl, H⟩⟩
        ·
          refine WC.cond_f ((show _ = Value.bool (decide (x117 < (a0.length : Int))) from rfl).trans (congrArg Value.bool c126)) ?_
          refine WC.exit ?_
          obtain rfl := Option.some.inj H
          exact ⟨_, HF, hra0, s0_115, s1_115, s4_115, s5_116⟩
      have Ho203 := H
      replace H := hz111
      refine WC.seq ?_
      refine WC.region ?_
      refine WL.ex rfl (ex_move (v := encS a1) rfl) ?_
      refine WL.ex rfl (ex_len_str (s := a1) rfl Tryd.underlying9) ?_
      refine WL.ex rfl (ex_bin (a := .int .i64 (a1.length : Int)) (b := .int .i64 0) (v := .bool (decide ((a1.length : Int) > 0))) rfl rfl bin_gtr) ?_
      refine WL.nil ?_
      rcases condE H with ⟨c204, H⟩ | ⟨c204, H⟩
      ·
        refine WC.cond_t ((show _ = Value.bool (decide ((a1.length : Int) > 0)) from rfl).trans (congrArg Value.bool c204)) ?_
        refine WC.seq ?_
        refine WC.seq ?_
        refine WC.region ?_
        refine WL.ex rfl (ex_move (v := encS a1) rfl) ?_
        refine WL.ex rfl (ex_len_str (s := a1) rfl Tryd.underlying9) ?_
        refine WL.ex rfl (ex_move (v := .slice pA0 a0.length pc0) rfl) ?_
        refine WL.ex rfl (ex_len_slice (A := pA0) (m := a0.length) (c := pc0) rfl Tryd.underlying54) ?_
        refine WL.ex rfl (ex_bin (a := .int .i64 (a0.length : Int)) (b := .int .i64 1) (v := .int .i64 (wrap64 ((a0.length : Int) - 1))) rfl rfl bin_sub64) ?_
        obtain ⟨u205, hu205, H⟩ := bindE H
        refine WL.ex rfl (ex_bin (a := .int .i64 9223372036854775807) (b := .int .i64 (wrap64 ((a0.length : Int) - 1))) (v := .int .i64 (wrap64 ((9223372036854775807 : Int).tdiv (wrap64 ((a0.length : Int) - 1))))) rfl rfl (bin_quo64 (by have h_ := chk_true hu205; simpa using h_))) ?_
        refine WL.ex rfl (ex_bin (a := .int .i64 (a1.length : Int)) (b := .int .i64 (wrap64 ((9223372036854775807 : Int).tdiv (wrap64 ((a0.length : Int) - 1))))) (v := .bool (decide ((a1.length : Int) ≥ (wrap64 ((9223372036854775807 : Int).tdiv (wrap64 ((a0.length : Int) - 1))))))) rfl rfl bin_geq) ?_
        refine WL.nil ?_
        rcases condE H with ⟨c206, H⟩ | ⟨c206, H⟩
        ·
          refine WC.cond_t ((show _ = Value.bool (decide ((a1.length : Int) ≥ (wrap64 ((9223372036854775807 : Int).tdiv (wrap64 ((a0.length : Int) - 1)))))) from rfl).trans (congrArg Value.bool c206)) ?_
          cases H
        ·
          refine WC.cond_f ((show _ = Value.bool (decide ((a1.length : Int) ≥ (wrap64 ((9223372036854775807 : Int).tdiv (wrap64 ((a0.length : Int) - 1)))))) from rfl).trans (congrArg Value.bool c206)) ?_
          refine WC.skip ?_
          refine WC.region ?_
          refine WL.ex rfl (ex_move (v := .int .i64 0) rfl) ?_
          refine WL.ex rfl (ex_move (v := encS a1) rfl) ?_
          refine WL.ex rfl (ex_len_str (s := a1) rfl Tryd.underlying9) ?_
          refine WL.ex rfl (ex_move (v := .slice pA0 a0.length pc0) rfl) ?_
          refine WL.ex rfl (ex_len_slice (A := pA0) (m := a0.length) (c := pc0) rfl Tryd.underlying54) ?_
          refine WL.ex rfl (ex_bin (a := .int .i64 (a0.length : Int)) (b := .int .i64 1) (v := .int .i64 (wrap64 ((a0.length : Int) - 1))) rfl rfl bin_sub64) ?_
          refine WL.ex rfl (ex_bin (a := .int .i64 (a1.length : Int)) (b := .int .i64 (wrap64 ((a0.length : Int) - 1))) (v := .int .i64 (wrap64 ((a1.length : Int) * (wrap64 ((a0.length : Int) - 1))))) rfl rfl bin_mul64) ?_
          refine WL.ex rfl (ex_bin (a := .int .i64 0) (b := .int .i64 (wrap64 ((a1.length : Int) * (wrap64 ((a0.length : Int) - 1))))) (v := .int .i64 (wrap64 (0 + (wrap64 ((a1.length : Int) * (wrap64 ((a0.length : Int) - 1))))))) rfl rfl bin_add64) ?_
          refine WL.ex rfl (ex_assign (v := .int .i64 (wrap64 (0 + (wrap64 ((a1.length : Int) * (wrap64 ((a0.length : Int) - 1))))))) rfl) ?_
          refine WL.nil ?_
          obtain rfl := Option.some.inj H
          exact ⟨_, HF, hra0, rfl, rfl, rfl, rfl⟩
      ·
        refine WC.cond_f ((show _ = Value.bool (decide ((a1.length : Int) > 0)) from rfl).trans (congrArg Value.bool c204)) ?_
        refine WC.skip ?_
        obtain rfl := Option.some.inj H
        exact ⟨_, HF, hra0, rfl, rfl, rfl, rfl⟩

/-! ### bits_Text -/
set_option maxRecDepth 100000 in
theorem bits_Text.calls (k : Nat) (o0 : Tags) (w0 : World) (a0 : (List UInt64)) (r : (List UInt8)) (hO : ∀ b, b < w0.heap.size → o0 b < 10) (hla0 : a0.length = 16) (hG : Gl GG o0 w0) (H : bits_Text.f k a0 = some r) :
    Calls Tryd.prog 8 [.agg (List.map enc64 a0).toArray].toArray w0 fun e_ w_ => ∃ (o_ : Tags), e_ = .returned (one [encS r]) ∧ Step o0 w0 o_ w_ [] := by
  have HF := Fm.refl hO []
  unfold bits_Text.f at H
  refine SX.calls [.agg (List.map enc64 a0).toArray] Tryd.func8 rfl rfl ?_
  rw [Tryd.ntmps8]
  refine WC.seq ?_
  refine WC.region ?_
  refine WL.op rfl ?_
  refine OW.box' (List.map enc64 a0) 10 HF rfl ((congrArg Value.cells (show ev _ _ = (.agg (List.map enc64 a0).toArray : Value) from rfl)).trans rfl) ?_
  intro o102 w103 b101 s104 hB105
  replace hG := hG.step s104 rfl
  replace HF := HF.step s104 rfl
  refine WL.ex rfl (ex_assign (v := encS ([] : List UInt8)) rfl) ?_
  refine WL.nil ?_
  refine WC.seq ?_
  refine WC.region ?_
  refine WL.ex rfl (ex_assign (v := .slice none ([] : List (List UInt8)).length 0) rfl) ?_
  refine WL.nil ?_
  refine WC.seq ?_
  refine WC.seq ?_
  refine WC.region ?_
  refine WL.ex rfl (ex_loadAV (xs := a0) rfl Tryd.underlying24 sz24 hla0 hB105) ?_
  obtain ⟨z106, hz106, H⟩ := bindE H
  refine WL.op rfl ?_
  refine OW.call [.agg (List.map enc64 a0).toArray, .int .i64 0] rfl Tryd.func13 (by kernel_rfl) (by kernel_rfl) (map_cons' rfl (map_cons' rfl rfl)) (bits_Next.calls k _ _ a0 0 z106 (HF.ten (V := [0]) (L := []) rfl) hla0 (Gl.vw (V := [0]) (L := []) hG rfl) hz106) ?_
  rintro _ w107 ⟨o108, rfl, s109⟩
  refine ⟨_, rfl, ?_⟩
  replace s109 := un_stepL (J := []) (L' := []) s109 rfl rfl
  replace hG := hG.step s109 rfl
  replace hB105 := hB105.step s109 rfl
  replace HF := HF.step s109 rfl
  refine WL.ex rfl (ex_move (v := .tuple #[.int .i64 z106.1, .bool z106.2]) rfl) ?_
  refine WL.ex rfl (ex_extract (vs := #[.int .i64 z106.1, .bool z106.2]) (v := .int .i64 z106.1) rfl rfl) ?_
  refine WL.ex rfl (ex_extract (vs := #[.int .i64 z106.1, .bool z106.2]) (v := .bool z106.2) rfl rfl) ?_
  refine WL.ex rfl (ex_assign (v := .int .i64 z106.1) rfl) ?_
  refine WL.ex rfl (ex_assign (v := .bool z106.2) rfl) ?_
  refine WL.nil ?_
  obtain ⟨z118, hz118, H⟩ := bindE H
  refine WC.for (fun k_ ρ_ w_ => ∃ (o_ : Tags) (x112 : (List (List UInt8))) (x113 : Int) (x114 : Bool) (v110 : Value), Fm o0 w0 o_ w_ [] ∧ Own Rep.str 9 12 o_ w_ v110 x112 ∧ Bk o_ w_ 10 b101 (List.map enc64 a0) 24 ∧ Gl GG o_ w_ ∧ ρ_ 1 = .pointer (some ⟨b101, 0, none⟩) ∧ ρ_ 2 = encS ([] : List UInt8) ∧ ρ_ 3 = v110 ∧ ρ_ 4 = .int .i64 x113 ∧ ρ_ 5 = .bool x114 ∧ bits_Text.l1 k a0 k_ x112 x113 x114 = some z118) k (fun ρ_ w_ => ∃ (o_ : Tags) (v115 : Value), Fm o0 w0 o_ w_ [] ∧ Own Rep.str 9 12 o_ w_ v115 z118 ∧ Gl GG o_ w_ ∧ ρ_ 2 = encS ([] : List UInt8) ∧ ρ_ 3 = v115) ⟨_, ([] : List (List UInt8)), z106.1, z106.2, _, HF, Own.nil, hB105, hG, rfl, rfl, rfl, rfl, rfl, hz118⟩ ?case119 ?_
  case case119 =>
    rintro ρ179 w180 ⟨o181, v115, HF, hO116, hG, s2_114, s3_117⟩
    refine WC.seq ?_
    refine WC.region ?_
    refine WL.ex rfl (ex_move (v := v115) s3_117) ?_
    obtain ⟨A182, c183, q184e, q184l, q184⟩ := Own.vwRow (V := [0, 12]) (L := []) hO116 rfl rfl
    obtain ⟨z185, hz185, H⟩ := bindE H
    have q184e' := q184e
    refine WL.op rfl ?_
    refine OW.call [v115, encS ([44] : List UInt8)] rfl Tryd.func39 (by kernel_rfl) (by kernel_rfl) (map_cons' rfl (map_cons' rfl rfl)) (by simp only [q184e]; exact (strings_Join.calls k _ _ A182 c183 z118 ([44] : List UInt8) z185 (HF.ten (V := [0, 12]) (L := []) rfl) q184 q184l hz185)) ?_
    rintro _ w186 ⟨o187, rfl, s188⟩
    refine ⟨_, rfl, ?_⟩
    replace s188 := un_stepL (J := []) (L' := []) s188 rfl rfl
    replace hO116 := hO116.step s188 rfl rfl
    replace hG := hG.step s188 rfl
    replace HF := HF.step s188 rfl
    refine WL.ex rfl (ex_assign (v := encS z185) rfl) ?_
    refine WL.nil ?_
    refine WC.ret ?_
    obtain rfl := Option.some.inj H
    exact ⟨_, (.tmp (encS z185 : Value) rfl .nil), _, rfl, HF.out⟩
  have Ho120 := H
  rintro k121 ρ122 w123 ⟨o124, x112, x113, x114, v110, HF, hO111, hB105, hG, s1_109, s2_109, s3_112, s4_113, s5_114, H⟩
  cases k121 with
  | zero => cases H
  | succ k121 =>
  rw [bits_Text.l1.eq_2] at H
  refine WC.seq ?_
  refine WC.seq ?_
  refine WC.region ?_
  refine WL.ex rfl (ex_move (v := .bool x114) s5_114) ?_
  refine WL.nil ?_
  rcases condE H with ⟨c125, H⟩ | ⟨c125, H⟩
  ·
    refine WC.cond_t ((show _ = Value.bool x114 from rfl).trans (congrArg Value.bool c125)) ?_
    refine WC.skip ?_
    refine WC.block ?_
    refine WC.seq ?_
    refine WC.region ?_
    refine WL.ex rfl (ex_move (v := .int .i64 x113) s4_113) ?_
    refine WL.ex rfl (ex_assign (v := .int .i64 x113) rfl) ?_
    refine WL.nil ?_
    refine WC.seq ?_
    obtain ⟨z128, hz128, H⟩ := bindE H
    refine WC.for (fun k_ ρ_ w_ => ∃ (o_ : Tags) (x126 : Int), Fm o0 w0 o_ w_ [] ∧ Own Rep.str 9 12 o_ w_ v110 x112 ∧ Bk o_ w_ 10 b101 (List.map enc64 a0) 24 ∧ Gl GG o_ w_ ∧ ρ_ 1 = .pointer (some ⟨b101, 0, none⟩) ∧ ρ_ 2 = encS ([] : List UInt8) ∧ ρ_ 3 = v110 ∧ ρ_ 4 = .int .i64 x113 ∧ ρ_ 5 = .bool x114 ∧ ρ_ 6 = .int .i64 x126 ∧ bits_Text.l2 k a0 k_ x126 = some z128) k (fun ρ_ w_ => ∃ (o_ : Tags), Fm o0 w0 o_ w_ [] ∧ Own Rep.str 9 12 o_ w_ v110 x112 ∧ Bk o_ w_ 10 b101 (List.map enc64 a0) 24 ∧ Gl GG o_ w_ ∧ ρ_ 1 = .pointer (some ⟨b101, 0, none⟩) ∧ ρ_ 2 = encS ([] : List UInt8) ∧ ρ_ 3 = v110 ∧ ρ_ 4 = .int .i64 x113 ∧ ρ_ 5 = .bool x114 ∧ ρ_ 6 = .int .i64 z128) ⟨_, x113, HF, hO111, hB105, hG, s1_109, s2_109, s3_112, s4_113, s5_114, rfl, hz128⟩ ?case129 ?_
    case case129 =>
      rintro ρ140 w141 ⟨o142, HF, hO111, hB105, hG, s1_126, s2_126, s3_126, s4_126, s5_126, s6_127⟩
      refine WC.seq ?_
      refine WC.region ?_
      refine WL.ex rfl (ex_move (v := .int .i64 x113) s4_126) ?_
      obtain ⟨z143, hz143, H⟩ := bindE H
      refine WL.op rfl ?_
      refine OW.call [.int .i64 x113] rfl Tryd.func38 (by kernel_rfl) (by kernel_rfl) (map_cons' rfl rfl) (octet_Dec.calls _ _ x113 z143 (HF.ten (V := [0]) (L := []) rfl) (Gl.vw (V := [0]) (L := []) hG rfl) hz143) ?_
      rintro _ w144 ⟨o145, rfl, s146⟩
      refine ⟨_, rfl, ?_⟩
      replace s146 := un_stepL (J := []) (L' := []) s146 rfl rfl
      replace hO111 := hO111.step s146 rfl rfl
      replace hB105 := hB105.step s146 rfl
      replace hG := hG.step s146 rfl
      replace HF := HF.step s146 rfl
      refine WL.ex rfl (ex_assign (v := encS z143) rfl) ?_
      refine WL.nil ?_
      obtain ⟨z148, hz148, H⟩ := bindE H
      refine WC.cut (fun ρ_ w_ => ∃ (o_ : Tags), Fm o0 w0 o_ w_ [] ∧ Own Rep.str 9 12 o_ w_ v110 x112 ∧ Bk o_ w_ 10 b101 (List.map enc64 a0) 24 ∧ Gl GG o_ w_ ∧ ρ_ 1 = .pointer (some ⟨b101, 0, none⟩) ∧ ρ_ 2 = encS ([] : List UInt8) ∧ ρ_ 3 = v110 ∧ ρ_ 4 = .int .i64 x113 ∧ ρ_ 5 = .bool x114 ∧ ρ_ 6 = .int .i64 z128 ∧ ρ_ 7 = encS z148) ?case149 ?_
      case case149 =>
        rintro ρ152 w150 ⟨o151, HF, hO111, hB105, hG, s1_146, s2_146, s3_146, s4_146, s5_146, s6_146, s7_147⟩
        refine WC.seq ?_
        refine WC.region ?_
        refine WL.ex rfl (ex_move (v := v110) s3_146) ?_
        refine WL.ex rfl (ex_move (v := encS z148) s7_147) ?_
        refine WL.op rfl ?_
        refine OW.row (r := Rep.str) (xs := [z148]) [(0, encS z148)] [[encS z148]] 13 HF rfl Tryd.underlying54 sz9 zr9 rfl (evs_cons rfl rfl) rfl rfl ⟨rfl, trivial⟩ rfl rfl rfl rfl ?_
        intro o153 w154 v156 s155 hO157
        replace hO111 := hO111.step s155 rfl rfl
        replace hB105 := hB105.step s155 rfl
        replace hG := hG.step s155 rfl
        replace HF := HF.step s155 rfl
        obtain ⟨A158, c159, q160_, _, q160⟩ := hO157.row
        obtain ⟨u161, hu161, H⟩ := bindE H
        refine WL.op rfl ?_
        refine OW.append (r := Rep.str) (E := 9) (i := 12) rfl Tryd.underlying54 inf9 rfl (by decide) (by decide) (by decide) rfl ((show _ = (v156 : Value) from rfl).trans q160_) hO111 q160 rfl (of_decide_eq_true (chk_true hu161)) ?_
        intro o162 w163 v164 s165 hO166
        replace hB105 := hB105.step s165 rfl
        replace hG := hG.step s165 rfl
        replace hO157 := hO157.step s165 rfl rfl
        replace HF := HF.step s165 rfl
        refine WL.ex rfl (ex_assign (v := v164) rfl) ?_
        refine WL.nil ?_
        refine WC.region ?_
        refine WL.ex rfl (ex_loadAV (xs := a0) s1_146 Tryd.underlying24 sz24 hla0 hB105) ?_
        refine WL.ex rfl (ex_move (v := .int .i64 z128) s6_146) ?_
        refine WL.ex rfl (ex_bin (a := .int .i64 z128) (b := .int .i64 1) (v := .int .i64 (wrap64 (z128 + 1))) rfl rfl bin_add64) ?_
        obtain ⟨z167, hz167, H⟩ := bindE H
        refine WL.op rfl ?_
        refine OW.call [.agg (List.map enc64 a0).toArray, .int .i64 (wrap64 (z128 + 1))] rfl Tryd.func13 (by kernel_rfl) (by kernel_rfl) (map_cons' rfl (map_cons' rfl rfl)) (bits_Next.calls k _ _ a0 (wrap64 (z128 + 1)) z167 (HF.ten (V := [0]) (L := []) rfl) hla0 (Gl.vw (V := [0]) (L := []) hG rfl) hz167) ?_
        rintro _ w168 ⟨o169, rfl, s170⟩
        refine ⟨_, rfl, ?_⟩
        replace s170 := un_stepL (J := []) (L' := []) s170 rfl rfl
        replace hB105 := hB105.step s170 rfl
        replace hG := hG.step s170 rfl
        replace hO157 := hO157.step s170 rfl rfl
        replace hO166 := hO166.step s170 rfl rfl
        replace HF := HF.step s170 rfl
        refine WL.ex rfl (ex_move (v := .tuple #[.int .i64 z167.1, .bool z167.2]) rfl) ?_
        refine WL.ex rfl (ex_extract (vs := #[.int .i64 z167.1, .bool z167.2]) (v := .int .i64 z167.1) rfl rfl) ?_
        refine WL.ex rfl (ex_extract (vs := #[.int .i64 z167.1, .bool z167.2]) (v := .bool z167.2) rfl rfl) ?_
        refine WL.ex rfl (ex_assign (v := .int .i64 z167.1) rfl) ?_
        refine WL.ex rfl (ex_assign (v := .bool z167.2) rfl) ?_
        refine WL.nil ?_
        exact ⟨k121, Nat.lt_succ_self _, ⟨_, (x112 ++ [z148]), z167.1, z167.2, _, HF, hO166, hB105, hG, s1_146, s2_146, rfl, rfl, rfl, H⟩⟩
      have Ho171 := H
      replace H := hz148
      refine WC.seq ?_
      refine WC.region ?_
      refine WL.ex rfl (ex_move (v := .int .i64 z128) s6_127) ?_
      refine WL.ex rfl (ex_move (v := .int .i64 x113) s4_126) ?_
      refine WL.ex rfl (ex_bin (a := .int .i64 z128) (b := .int .i64 x113) (v := .bool (decide (z128 > x113))) rfl rfl bin_gtr) ?_
      refine WL.nil ?_
      rcases condE H with ⟨c172, H⟩ | ⟨c172, H⟩
      ·
        refine WC.cond_t ((show _ = Value.bool (decide (z128 > x113)) from rfl).trans (congrArg Value.bool c172)) ?_
        refine WC.region ?_
        refine WL.ex rfl (ex_move (v := encS z143) rfl) ?_
        refine WL.ex rfl (ex_move (v := .int .i64 z128) s6_127) ?_
        obtain ⟨z173, hz173, H⟩ := bindE H
        refine WL.op rfl ?_
        refine OW.call [.int .i64 z128] rfl Tryd.func38 (by kernel_rfl) (by kernel_rfl) (map_cons' rfl rfl) (octet_Dec.calls _ _ z128 z173 (HF.ten (V := [0]) (L := []) rfl) (Gl.vw (V := [0]) (L := []) hG rfl) hz173) ?_
        rintro _ w174 ⟨o175, rfl, s176⟩
        refine ⟨_, rfl, ?_⟩
        replace s176 := un_stepL (J := []) (L' := []) s176 rfl rfl
        replace hO111 := hO111.step s176 rfl rfl
        replace hB105 := hB105.step s176 rfl
        replace hG := hG.step s176 rfl
        replace HF := HF.step s176 rfl
        obtain ⟨u177, hu177, H⟩ := bindE H
        refine WL.ex rfl (ex_bin (a := encS ([45] : List UInt8)) (b := encS z173) (v := encS (([45] : List UInt8) ++ z173)) rfl rfl (bin_add_str (of_decide_eq_true (chk_true hu177)))) ?_
        obtain ⟨u178, hu178, H⟩ := bindE H
        refine WL.ex rfl (ex_bin (a := encS z143) (b := encS (([45] : List UInt8) ++ z173)) (v := encS (z143 ++ (([45] : List UInt8) ++ z173))) rfl rfl (bin_add_str (of_decide_eq_true (chk_true hu178)))) ?_
        refine WL.ex rfl (ex_assign (v := encS (z143 ++ (([45] : List UInt8) ++ z173))) rfl) ?_
        refine WL.nil ?_
        obtain rfl := Option.some.inj H
        exact ⟨_, HF, hO111, hB105, hG, s1_126, s2_126, s3_126, s4_126, s5_126, s6_127, rfl⟩
      ·
        refine WC.cond_f ((show _ = Value.bool (decide (z128 > x113)) from rfl).trans (congrArg Value.bool c172)) ?_
        refine WC.skip ?_
        obtain rfl := Option.some.inj H
        exact ⟨_, HF, hO111, hB105, hG, s1_126, s2_126, s3_126, s4_126, s5_126, s6_127, rfl⟩
    have Ho130 := H
    rintro k131 ρ132 w133 ⟨o134, x126, HF, hO111, hB105, hG, s1_125, s2_125, s3_125, s4_125, s5_125, s6_126, H⟩
    cases k131 with
    | zero => cases H
    | succ k131 =>
    rw [bits_Text.l2.eq_2] at H
    refine WC.seq ?_
    refine WC.seq ?_
    refine WC.region ?_
    refine WL.ex rfl (ex_loadAV (xs := a0) s1_125 Tryd.underlying24 sz24 hla0 hB105) ?_
    refine WL.ex rfl (ex_move (v := .int .i64 x126) s6_126) ?_
    refine WL.ex rfl (ex_bin (a := .int .i64 x126) (b := .int .i64 1) (v := .int .i64 (wrap64 (x126 + 1))) rfl rfl bin_add64) ?_
    obtain ⟨z135, hz135, H⟩ := bindE H
    refine WL.op rfl ?_
    refine OW.call [.agg (List.map enc64 a0).toArray, .int .i64 (wrap64 (x126 + 1))] rfl Tryd.func32 (by kernel_rfl) (by kernel_rfl) (map_cons' rfl (map_cons' rfl rfl)) (bits_Has.calls _ _ a0 (wrap64 (x126 + 1)) z135 (HF.ten (V := [0]) (L := []) rfl) hla0 hz135) ?_
    rintro _ w136 ⟨o137, rfl, s138⟩
    refine ⟨_, rfl, ?_⟩
    replace s138 := un_stepL (J := []) (L' := []) s138 rfl rfl
    replace hO111 := hO111.step s138 rfl rfl
    replace hB105 := hB105.step s138 rfl
    replace hG := hG.step s138 rfl
    replace HF := HF.step s138 rfl
    refine WL.nil ?_
    rcases condE H with ⟨c139, H⟩ | ⟨c139, H⟩
    ·
      refine WC.cond_t ((show _ = Value.bool z135 from rfl).trans (congrArg Value.bool c139)) ?_
      refine WC.skip ?_
      refine WC.block ?_
      refine WC.region ?_
      refine WL.ex rfl (ex_move (v := .int .i64 x126) s6_126) ?_
      refine WL.ex rfl (ex_bin (a := .int .i64 x126) (b := .int .i64 1) (v := .int .i64 (wrap64 (x126 + 1))) rfl rfl bin_add64) ?_
      refine WL.ex rfl (ex_assign (v := .int .i64 (wrap64 (x126 + 1))) rfl) ?_
      refine WL.nil ?_
      exact ⟨k131, Nat.lt_succ_self _, ⟨_, wrap64 (x126 + 1), HF, hO111, hB105, hG, s1_125, s2_125, s3_125, s4_125, s5_125, rfl, H⟩⟩
    ·
      refine WC.cond_f ((show _ = Value.bool z135 from rfl).trans (congrArg Value.bool c139)) ?_
      refine WC.exit ?_
      obtain rfl := Option.some.inj H
      exact ⟨_, HF, hO111, hB105, hG, s1_125, s2_125, s3_125, s4_125, s5_125, s6_126⟩
  ·
    refine WC.cond_f ((show _ = Value.bool x114 from rfl).trans (congrArg Value.bool c125)) ?_
    refine WC.exit ?_
    obtain rfl := Option.some.inj H
    exact ⟨_, _, HF, hO111, hG, s2_109, s3_112⟩

/-! ### bits_Parse -/
set_option maxRecDepth 100000 in
theorem bits_Parse.calls (k : Nat) (o0 : Tags) (w0 : World) (a0 : List UInt8) (r : (List UInt64) × Int) (hO : ∀ b, b < w0.heap.size → o0 b < 10) (hG : Gl GG o0 w0) (H : bits_Parse.f k a0 = some r) :
    Calls Tryd.prog 9 [encS a0].toArray w0 fun e_ w_ => ∃ (o_ : Tags), e_ = .returned (one [.agg (List.map enc64 r.1).toArray, .int .i64 r.2]) ∧ Step o0 w0 o_ w_ [] ∧ r.1.length = 16 := by
  have HF := Fm.refl hO []
  unfold bits_Parse.f at H
  refine SX.callsM [encS a0] Tryd.func9 rfl rfl ?_
  rw [Tryd.ntmps9]
  have hS : Shut 10 [] o0 w0 := Shut.nil
  refine WC.seq ?_
  refine WC.region ?_
  refine WL.op rfl ?_
  refine OW.alloc' (List.map enc64 (List.replicate 16 ((0 : UInt64)))) 11 HF rfl zr24 rfl ?_
  intro o102 w103 b101 s104 hB105
  replace hS := hS.step s104 rfl
  replace hG := hG.step s104 rfl
  replace HF := HF.step s104 rfl
  refine WL.op rfl ?_
  refine OW.alloc' [.int .i64 (0 : Int)] 12 HF rfl zr26 rfl ?_
  intro o107 w108 b106 s109 hB110
  replace hS := hS.step s109 rfl
  replace hG := hG.step s109 rfl
  replace hB105 := hB105.step s109 rfl
  replace HF := HF.step s109 rfl
  refine WL.nil ?_
  refine WC.seq ?_
  refine WC.region ?_
  refine WL.op rfl ?_
  refine OW.alloc' (List.map enc64 (List.replicate 16 ((0 : UInt64)))) 13 HF rfl zr24 rfl ?_
  intro o112 w113 b111 s114 hB115
  replace hS := hS.step s114 rfl
  replace hG := hG.step s114 rfl
  replace hB105 := hB105.step s114 rfl
  replace hB110 := hB110.step s114 rfl
  replace HF := HF.step s114 rfl
  refine WL.nil ?_
  refine WC.seq ?_
  refine WC.seq ?_
  refine WC.region ?_
  refine WL.ex rfl (ex_move (v := encS a0) rfl) ?_
  refine WL.ex rfl (ex_bin (a := encS a0) (b := encS ([] : List UInt8)) (v := .bool (a0 == ([] : List UInt8))) rfl rfl bin_eql_str) ?_
  refine WL.nil ?_
  rcases condE H with ⟨c116, H⟩ | ⟨c116, H⟩
  ·
    refine WC.cond_t ((show _ = Value.bool (a0 == ([] : List UInt8)) from rfl).trans (congrArg Value.bool c116)) ?_
    refine WC.seq ?_
    refine WC.region ?_
    refine WL.ex rfl (ex_loadAV (xs := (List.replicate 16 ((0 : UInt64)))) rfl Tryd.underlying24 sz24 rfl hB115) ?_
    refine WL.op rfl ?_
    refine OW.storeAV (ys := (List.replicate 16 ((0 : UInt64)))) rfl rfl (fun _ => rfl) sz24 rfl rfl hB105 ?_
    intro w117 s118 hB119
    replace hS := hS.step s118 rfl
    replace hG := hG.step s118 rfl
    replace hB110 := hB110.step s118 rfl
    replace hB115 := hB115.step s118 rfl
    replace HF := HF.step s118 rfl
    refine WL.op rfl ?_
    refine OW.store [.int .i64 0] rfl (vs := [.int .i64 0]) ((congrArg Value.cells (show ev _ _ = (.int .i64 0 : Value) from rfl)).trans rfl) sz26 hB110 (Nat.le_of_ble_eq_true rfl) (by intro u_ hu_; simp only [List.mem_cons, List.not_mem_nil, or_false] at hu_; rcases hu_ with rfl; first | rfl) rfl ?_
    intro w120 s121 hB122
    replace hS := hS.step s121 rfl
    replace hG := hG.step s121 rfl
    replace hB115 := hB115.step s121 rfl
    replace hB119 := hB119.step s121 rfl
    replace HF := HF.step s121 rfl
    refine WL.nil ?_
    refine WC.ret ?_
    obtain rfl := Option.some.inj H
    refine ⟨10, _, hS, ?_⟩
    intro w123 s124
    replace hG := hG.step s124 rfl
    replace hB115 := hB115.step s124 rfl
    replace hB119 := hB119.step s124 rfl
    replace hB122 := hB122.step s124 rfl
    replace HF := HF.step s124 rfl
    exact ⟨_, (.cell (.agg (List.map enc64 (List.replicate 16 ((0 : UInt64)))).toArray : Value) rfl (run_loadAV Tryd.underlying24 sz24 rfl hB119) (.cell (.int .i64 0 : Value) rfl (run_load1 Tryd.underlying26 rfl (hB122.cell rfl)) .nil)), _, rfl, HF.out, rfl⟩
  ·
    refine WC.cond_f ((show _ = Value.bool (a0 == ([] : List UInt8)) from rfl).trans (congrArg Value.bool c116)) ?_
    refine WC.skip ?_
    refine WC.seq ?_
    refine WC.seq ?_
    refine WC.region ?_
    refine WL.ex rfl (ex_move (v := encS a0) rfl) ?_
    obtain ⟨z125, hz125, H⟩ := bindE H
    refine WL.op rfl ?_
    refine OW.call [encS a0, encS ([44] : List UInt8)] rfl Tryd.func40 (by kernel_rfl) (by kernel_rfl) (map_cons' rfl (map_cons' rfl rfl)) (strings_SplitSeq.calls _ _ a0 ([44] : List UInt8) z125 (HF.ten (V := [0]) (L := []) rfl)  hz125) ?_
    rintro _ w126 ⟨o127, b129, b131, b133, rfl, s128, hB130, hB132, hB134⟩
    refine ⟨_, rfl, ?_⟩
    replace hB130 := Bk.un9 (J := [14, 15, 16]) 0 hB130 rfl s128 rfl rfl
    replace hB132 := Bk.un9 (J := [14, 15, 16]) 1 hB132 rfl s128 rfl rfl
    replace hB134 := Bk.un9 (J := [14, 15, 16]) 2 hB134 rfl s128 rfl rfl
    replace s128 := un_stepL (J := [14, 15, 16]) (L' := []) s128 rfl rfl
    replace hS := hS.step s128 rfl
    replace hG := hG.step s128 rfl
    replace hB105 := hB105.step s128 rfl
    replace hB110 := hB110.step s128 rfl
    replace hB115 := hB115.step s128 rfl
    replace HF := HF.step s128 rfl
    refine WL.nil ?_
    obtain ⟨xs137, hxs137, H⟩ := bindE H
    obtain ⟨z138, hz138, H⟩ := bindE H
    have Ho139 := H
    have hS140 := hS
    refine WC.rangeFor (C := fun q_ o_ w_ => Bk o_ w_ 14 b129 [encS z125.1] 9 ∧ Bk o_ w_ 15 b131 [encS (restOf (z125.1, z125.2.1, z125.2.2) q_)] 9 ∧ Bk o_ w_ 16 b133 [.int .i64 z125.2.2] 3) (xs := xs137) (encs := (fun x_ : List UInt8 => #[encS x_])) 15 17 HF rfl Tryd.func65 (by kernel_rfl) (by kernel_rfl) (strings_SplitSeq.iter rfl rfl hxs137) rfl (fun _ => rfl) (by kernel_rfl) (zs := (fun x_ : List UInt8 => [(19, encS x_)])) (fun _ => by simp [Array.toList_zip]) (fun q_ o_ w_ => ∃ (x135 : (List UInt64)), Fm o0 w0 o_ w_ [] ∧ Bk o_ w_ 11 b101 (List.map enc64 (List.replicate 16 ((0 : UInt64)))) 24 ∧ Bk o_ w_ 12 b106 [.int .i64 (0 : Int)] 26 ∧ Bk o_ w_ 13 b111 (List.map enc64 x135) 24 ∧ x135.length = 16 ∧ Gl GG o_ w_ ∧ Shut 10 [] o_ w_ ∧ bits_Parse.l1 k (List.drop q_ xs137) x135 = some z138) (fun o_ w_ => ∃ (x135 : (List UInt64)), Fm o0 w0 o_ w_ [] ∧ Bk o_ w_ 11 b101 (List.map enc64 (List.replicate 16 ((0 : UInt64)))) 24 ∧ Bk o_ w_ 12 b106 [.int .i64 (0 : Int)] 26 ∧ Bk o_ w_ 13 b111 (List.map enc64 x135) 24 ∧ x135.length = 16 ∧ Gl GG o_ w_ ∧ Shut 10 [] o_ w_ ∧ z138 = .inr x135) (fun o_ w_ => Fm o0 w0 o_ w_ [] ∧ Bk o_ w_ 11 b101 (List.map enc64 (List.replicate 16 ((0 : UInt64)))) 24 ∧ Bk o_ w_ 12 b106 [.int .i64 50] 26 ∧ Gl GG o_ w_ ∧ Shut 10 [] o_ w_ ∧ z138 = .inl ()) ?hR141 ?hP142 ?hX143 (fun q_ o_ w_ o2_ w2_ h_ s_ => ⟨h_.1.step s_ rfl, h_.2.1.step s_ rfl, h_.2.2.step s_ rfl⟩) ?h0144 ?hb145 ?he146 ?hp147 ?hr148
    case hR141 =>
      rintro q_ o_ w_ o2_ w2_ ⟨x135, HF, hB105, hB110, hB115, hl136, hG, hS, H⟩ s_
      replace hB105 := hB105.step s_ rfl
      replace hB110 := hB110.step s_ rfl
      replace hB115 := hB115.step s_ rfl
      replace hG := hG.step s_ rfl
      replace hS := hS.step s_ rfl
      replace HF := HF.step s_ rfl
      exact ⟨x135, HF, hB105, hB110, hB115, hl136, hG, hS, H⟩
    case hP142 =>
      rintro o_ w_ o2_ w2_ ⟨x135, HF, hB105, hB110, hB115, hl136, hG, hS, H⟩ s_
      replace hB105 := hB105.step s_ rfl
      replace hB110 := hB110.step s_ rfl
      replace hB115 := hB115.step s_ rfl
      replace hG := hG.step s_ rfl
      replace hS := hS.step s_ rfl
      replace HF := HF.step s_ rfl
      exact ⟨x135, HF, hB105, hB110, hB115, hl136, hG, hS, H⟩
    case hX143 =>
      rintro o_ w_ o2_ w2_ ⟨HF, hB165, hB168, hG, hS, H⟩ s_
      replace hB165 := hB165.step s_ rfl
      replace hB168 := hB168.step s_ rfl
      replace hG := hG.step s_ rfl
      replace hS := hS.step s_ rfl
      replace HF := HF.step s_ rfl
      exact ⟨HF, hB165, hB168, hG, hS, H⟩
    case h0144 =>
      intro o149 w150 s151
      replace hS := hS.step s151 rfl
      replace hG := hG.step s151 rfl
      replace hB105 := hB105.step s151 rfl
      replace hB110 := hB110.step s151 rfl
      replace hB115 := hB115.step s151 rfl
      replace hB130 := hB130.step s151 rfl
      replace hB132 := hB132.step s151 rfl
      replace hB134 := hB134.step s151 rfl
      replace HF := HF.step s151 rfl
      exact ⟨⟨(List.replicate 16 ((0 : UInt64))), HF, hB105, hB110, hB115, rfl, hG, hS, hz138⟩, ⟨hB130, (by simpa [restOf, restB] using hB132), hB134⟩⟩
    case hb145 =>
      rintro l153 D154 ob155 ob156 q157 x152 o158 w159 hx160 ⟨x135, HF, hB105, hB110, hB115, hl136, hG, hS, H⟩ ⟨hB130, hB132, hB134⟩ hL hD
      rw [drop_of hx160, bits_Parse.l1.eq_2] at H
      refine WC.regionR (by kernel_rfl) ?_
      refine WL.ex rfl (ex_assign (v := encS x152) rfl) ?_
      refine WL.nil ?_
      refine ⟨_, hL, hD, ?_⟩
      intro w161 s162 hL2 hD2
      replace hB105 := hB105.step s162 rfl
      replace hB110 := hB110.step s162 rfl
      replace hB115 := hB115.step s162 rfl
      replace hG := hG.step s162 rfl
      replace hS := hS.step s162 rfl
      replace hB130 := hB130.step s162 rfl
      replace hB132 := hB132.step s162 rfl
      replace hB134 := hB134.step s162 rfl
      replace HF := HF.step s162 rfl
      replace hL := hL2
      replace hD := hD2
      clear hL2 hD2
      refine WC.block ?_
      refine WC.seq ?_
      refine WC.regionR (by kernel_rfl) ?_
      refine WL.ex rfl (ex_move (v := encS x152) rfl) ?_
      obtain ⟨z163, hz163, H⟩ := bindE H
      refine WL.op rfl ?_
      refine OW.call [encS x152, encS ([45] : List UInt8)] rfl Tryd.func41 (by kernel_rfl) (by kernel_rfl) (map_cons' rfl (map_cons' rfl rfl)) (strings_Cut.calls _ _ x152 ([45] : List UInt8) z163 (HF.ten (V := [0]) (L := []) rfl)  hz163) ?_
      rintro _ w164 ⟨o165, rfl, s166⟩
      refine ⟨_, rfl, ?_⟩
      replace s166 := un_stepL (J := []) (L' := []) s166 rfl rfl
      replace hB105 := hB105.step s166 rfl
      replace hB110 := hB110.step s166 rfl
      replace hB115 := hB115.step s166 rfl
      replace hG := hG.step s166 rfl
      replace hS := hS.step s166 rfl
      replace hB130 := hB130.step s166 rfl
      replace hB132 := hB132.step s166 rfl
      replace hB134 := hB134.step s166 rfl
      replace hL := hL.step s166 rfl
      replace hD := hD.step s166 rfl
      replace HF := HF.step s166 rfl
      refine WL.ex rfl (ex_move (v := .tuple #[encS z163.1, encS z163.2.1, .bool z163.2.2]) rfl) ?_
      refine WL.ex rfl (ex_extract (vs := #[encS z163.1, encS z163.2.1, .bool z163.2.2]) (v := encS z163.1) rfl rfl) ?_
      refine WL.ex rfl (ex_extract (vs := #[encS z163.1, encS z163.2.1, .bool z163.2.2]) (v := encS z163.2.1) rfl rfl) ?_
      refine WL.ex rfl (ex_extract (vs := #[encS z163.1, encS z163.2.1, .bool z163.2.2]) (v := .bool z163.2.2) rfl rfl) ?_
      refine WL.ex rfl (ex_assign (v := encS z163.1) rfl) ?_
      refine WL.ex rfl (ex_assign (v := encS z163.2.1) rfl) ?_
      refine WL.ex rfl (ex_assign (v := .bool z163.2.2) rfl) ?_
      refine WL.nil ?_
      obtain ⟨z168, hz168, H⟩ := bindE H
      refine WC.cut (fun ρ_ w_ => ∃ (o_ : Tags), Fm o0 w0 o_ w_ [] ∧ Bk o_ w_ 11 b101 (List.map enc64 (List.replicate 16 ((0 : UInt64)))) 24 ∧ Bk o_ w_ 12 b106 [.int .i64 (0 : Int)] 26 ∧ Bk o_ w_ 13 b111 (List.map enc64 x135) 24 ∧ x135.length = 16 ∧ Gl GG o_ w_ ∧ Ob o_ w_ 17 l153 ob156 ∧ Ob o_ w_ 17 D154 (.deferred (some [])) ∧ Bk o_ w_ 14 b129 [encS z125.1] 9 ∧ Bk o_ w_ 15 b131 [encS (restOf (z125.1, z125.2.1, z125.2.2) q157)] 9 ∧ Bk o_ w_ 16 b133 [.int .i64 z125.2.2] 3 ∧ Shut 10 [] o_ w_ ∧ ρ_ 0 = encS a0 ∧ ρ_ 2 = .pointer (some ⟨b101, 0, none⟩) ∧ ρ_ 3 = .pointer (some ⟨b106, 0, none⟩) ∧ ρ_ 4 = .pointer (some ⟨b111, 0, none⟩) ∧ ρ_ 6 = encS z163.1 ∧ ρ_ 7 = encS z168) ?case169 ?_
      case case169 =>
        rintro ρ172 w170 ⟨o171, HF, hB105, hB110, hB115, hl136, hG, hL, hD, hB130, hB132, hB134, hS, s0_166, s2_166, s3_166, s4_166, s6_166, s7_167⟩
        refine WC.seq ?_
        refine WC.regionR (by kernel_rfl) ?_
        refine WL.ex rfl (ex_move (v := encS z163.1) s6_166) ?_
        obtain ⟨z173, hz173, H⟩ := bindE H
        refine WL.op rfl ?_
        refine OW.call [encS z163.1, .int .i64 1023] rfl Tryd.func42 (by kernel_rfl) (by kernel_rfl) (map_cons' rfl (map_cons' rfl rfl)) (octet_Undec.calls _ _ z163.1 1023 z173 (HF.ten (V := [0]) (L := []) rfl) (Gl.vw (V := [0]) (L := []) hG rfl) hz173) ?_
        rintro _ w174 ⟨o175, rfl, s176⟩
        refine ⟨_, rfl, ?_⟩
        replace s176 := un_stepL (J := []) (L' := []) s176 rfl rfl
        replace hB105 := hB105.step s176 rfl
        replace hB110 := hB110.step s176 rfl
        replace hB115 := hB115.step s176 rfl
        replace hG := hG.step s176 rfl
        replace hL := hL.step s176 rfl
        replace hD := hD.step s176 rfl
        replace hB130 := hB130.step s176 rfl
        replace hB132 := hB132.step s176 rfl
        replace hB134 := hB134.step s176 rfl
        replace hS := hS.step s176 rfl
        replace HF := HF.step s176 rfl
        refine WL.ex rfl (ex_move (v := .tuple #[.int .i64 z173.1, .int .i64 z173.2]) rfl) ?_
        refine WL.ex rfl (ex_extract (vs := #[.int .i64 z173.1, .int .i64 z173.2]) (v := .int .i64 z173.1) rfl rfl) ?_
        refine WL.ex rfl (ex_extract (vs := #[.int .i64 z173.1, .int .i64 z173.2]) (v := .int .i64 z173.2) rfl rfl) ?_
        refine WL.ex rfl (ex_assign (v := .int .i64 z173.1) rfl) ?_
        refine WL.ex rfl (ex_assign (v := .int .i64 z173.2) rfl) ?_
        refine WL.nil ?_
        refine WC.seq ?_
        refine WC.regionR (by kernel_rfl) ?_
        refine WL.ex rfl (ex_move (v := encS z168) s7_167) ?_
        obtain ⟨z177, hz177, H⟩ := bindE H
        refine WL.op rfl ?_
        refine OW.call [encS z168, .int .i64 1023] rfl Tryd.func42 (by kernel_rfl) (by kernel_rfl) (map_cons' rfl (map_cons' rfl rfl)) (octet_Undec.calls _ _ z168 1023 z177 (HF.ten (V := [0]) (L := []) rfl) (Gl.vw (V := [0]) (L := []) hG rfl) hz177) ?_
        rintro _ w178 ⟨o179, rfl, s180⟩
        refine ⟨_, rfl, ?_⟩
        replace s180 := un_stepL (J := []) (L' := []) s180 rfl rfl
        replace hB105 := hB105.step s180 rfl
        replace hB110 := hB110.step s180 rfl
        replace hB115 := hB115.step s180 rfl
        replace hG := hG.step s180 rfl
        replace hL := hL.step s180 rfl
        replace hD := hD.step s180 rfl
        replace hB130 := hB130.step s180 rfl
        replace hB132 := hB132.step s180 rfl
        replace hB134 := hB134.step s180 rfl
        replace hS := hS.step s180 rfl
        replace HF := HF.step s180 rfl
        refine WL.ex rfl (ex_move (v := .tuple #[.int .i64 z177.1, .int .i64 z177.2]) rfl) ?_
        refine WL.ex rfl (ex_extract (vs := #[.int .i64 z177.1, .int .i64 z177.2]) (v := .int .i64 z177.1) rfl rfl) ?_
        refine WL.ex rfl (ex_extract (vs := #[.int .i64 z177.1, .int .i64 z177.2]) (v := .int .i64 z177.2) rfl rfl) ?_
        refine WL.ex rfl (ex_assign (v := .int .i64 z177.1) rfl) ?_
        refine WL.ex rfl (ex_assign (v := .int .i64 z177.2) rfl) ?_
        refine WL.nil ?_
        refine WC.seq ?_
        obtain ⟨z182, hz182, H⟩ := bindE H
        refine WC.cut (fun ρ_ w_ => ∃ (o_ : Tags), Fm o0 w0 o_ w_ [] ∧ Bk o_ w_ 11 b101 (List.map enc64 (List.replicate 16 ((0 : UInt64)))) 24 ∧ Bk o_ w_ 12 b106 [.int .i64 (0 : Int)] 26 ∧ Bk o_ w_ 13 b111 (List.map enc64 x135) 24 ∧ x135.length = 16 ∧ Gl GG o_ w_ ∧ Ob o_ w_ 17 l153 ob156 ∧ Ob o_ w_ 17 D154 (.deferred (some [])) ∧ Bk o_ w_ 14 b129 [encS z125.1] 9 ∧ Bk o_ w_ 15 b131 [encS (restOf (z125.1, z125.2.1, z125.2.2) q157)] 9 ∧ Bk o_ w_ 16 b133 [.int .i64 z125.2.2] 3 ∧ Shut 10 [] o_ w_ ∧ ρ_ 0 = encS a0 ∧ ρ_ 2 = .pointer (some ⟨b101, 0, none⟩) ∧ ρ_ 3 = .pointer (some ⟨b106, 0, none⟩) ∧ ρ_ 4 = .pointer (some ⟨b111, 0, none⟩) ∧ ρ_ 9 = .int .i64 z173.1 ∧ ρ_ 11 = .int .i64 z177.1 ∧ ρ_ 44 = .bool z182) ?case183 ?_
        case case183 =>
          rintro ρ186 w184 ⟨o185, HF, hB105, hB110, hB115, hl136, hG, hL, hD, hB130, hB132, hB134, hS, s0_180, s2_180, s3_180, s4_180, s9_180, s11_180, s44_181⟩
          rcases condE H with ⟨c187, H⟩ | ⟨c187, H⟩
          ·
            refine WC.cond_t ((show _ = Value.bool z182 from s44_181).trans (congrArg Value.bool c187)) ?_
            refine WC.seq ?_
            refine WC.regionR (by kernel_rfl) ?_
            refine WL.ex rfl (ex_buildArr (cs := List.map enc64 (List.replicate 16 ((0 : UInt64)))) [] [.int .u64 0, .int .u64 0, .int .u64 0, .int .u64 0, .int .u64 0, .int .u64 0, .int .u64 0, .int .u64 0, .int .u64 0, .int .u64 0, .int .u64 0, .int .u64 0, .int .u64 0, .int .u64 0, .int .u64 0, .int .u64 0] Tryd.underlying24 zr24 rfl sz22 rfl rfl) ?_
            refine WL.op rfl ?_
            refine OW.storeAV (ys := (List.replicate 16 ((0 : UInt64)))) s2_180 rfl (fun _ => rfl) sz24 rfl rfl hB105 ?_
            intro w188 s189 hB190
            replace hB110 := hB110.step s189 rfl
            replace hB115 := hB115.step s189 rfl
            replace hG := hG.step s189 rfl
            replace hL := hL.step s189 rfl
            replace hD := hD.step s189 rfl
            replace hB130 := hB130.step s189 rfl
            replace hB132 := hB132.step s189 rfl
            replace hB134 := hB134.step s189 rfl
            replace hS := hS.step s189 rfl
            replace HF := HF.step s189 rfl
            refine WL.op rfl ?_
            refine OW.store [.int .i64 50] s3_180 (vs := [.int .i64 50]) ((congrArg Value.cells (show ev _ _ = (.int .i64 50 : Value) from rfl)).trans rfl) sz26 hB110 (Nat.le_of_ble_eq_true rfl) (by intro u_ hu_; simp only [List.mem_cons, List.not_mem_nil, or_false] at hu_; rcases hu_ with rfl; first | rfl) rfl ?_
            intro w191 s192 hB193
            replace hB115 := hB115.step s192 rfl
            replace hG := hG.step s192 rfl
            replace hL := hL.step s192 rfl
            replace hD := hD.step s192 rfl
            replace hB130 := hB130.step s192 rfl
            replace hB132 := hB132.step s192 rfl
            replace hB134 := hB134.step s192 rfl
            replace hS := hS.step s192 rfl
            replace hB190 := hB190.step s192 rfl
            replace HF := HF.step s192 rfl
            refine WL.nil ?_
            refine WC.ret ?_
            obtain rfl := Option.some.inj H
            exact ⟨_, hL, hD, ⟨HF, hB190, hB193, hG, hS, rfl⟩⟩
          ·
            refine WC.cond_f ((show _ = Value.bool z182 from s44_181).trans (congrArg Value.bool c187)) ?_
            refine WC.skip ?_
            refine WC.seq ?_
            refine WC.regionR (by kernel_rfl) ?_
            refine WL.ex rfl (ex_move (v := .int .i64 z173.1) s9_180) ?_
            refine WL.ex rfl (ex_assign (v := .int .i64 z173.1) rfl) ?_
            refine WL.nil ?_
            obtain ⟨z199, hz199, H⟩ := bindE H
            refine WC.for (fun k_ ρ_ w_ => ∃ (o_ : Tags) (x194 : Int) (x195 : (List UInt64)), Fm o0 w0 o_ w_ [] ∧ Bk o_ w_ 11 b101 (List.map enc64 (List.replicate 16 ((0 : UInt64)))) 24 ∧ Bk o_ w_ 12 b106 [.int .i64 (0 : Int)] 26 ∧ Bk o_ w_ 13 b111 (List.map enc64 x195) 24 ∧ x195.length = 16 ∧ Gl GG o_ w_ ∧ Ob o_ w_ 17 l153 ob156 ∧ Ob o_ w_ 17 D154 (.deferred (some [])) ∧ Bk o_ w_ 14 b129 [encS z125.1] 9 ∧ Bk o_ w_ 15 b131 [encS (restOf (z125.1, z125.2.1, z125.2.2) q157)] 9 ∧ Bk o_ w_ 16 b133 [.int .i64 z125.2.2] 3 ∧ Shut 10 [] o_ w_ ∧ ρ_ 0 = encS a0 ∧ ρ_ 2 = .pointer (some ⟨b101, 0, none⟩) ∧ ρ_ 3 = .pointer (some ⟨b106, 0, none⟩) ∧ ρ_ 4 = .pointer (some ⟨b111, 0, none⟩) ∧ ρ_ 11 = .int .i64 z177.1 ∧ ρ_ 13 = .int .i64 x194 ∧ bits_Parse.l2 k z177 k_ x194 x195 = some z199) k (fun ρ_ w_ => ∃ (o_ : Tags), Fm o0 w0 o_ w_ [] ∧ Bk o_ w_ 11 b101 (List.map enc64 (List.replicate 16 ((0 : UInt64)))) 24 ∧ Bk o_ w_ 12 b106 [.int .i64 (0 : Int)] 26 ∧ Bk o_ w_ 13 b111 (List.map enc64 z199) 24 ∧ z199.length = 16 ∧ Gl GG o_ w_ ∧ Ob o_ w_ 17 l153 ob156 ∧ Ob o_ w_ 17 D154 (.deferred (some [])) ∧ Bk o_ w_ 14 b129 [encS z125.1] 9 ∧ Bk o_ w_ 15 b131 [encS (restOf (z125.1, z125.2.1, z125.2.2) q157)] 9 ∧ Bk o_ w_ 16 b133 [.int .i64 z125.2.2] 3 ∧ Shut 10 [] o_ w_ ∧ ρ_ 0 = encS a0 ∧ ρ_ 2 = .pointer (some ⟨b101, 0, none⟩) ∧ ρ_ 3 = .pointer (some ⟨b106, 0, none⟩) ∧ ρ_ 4 = .pointer (some ⟨b111, 0, none⟩)) ⟨_, z173.1, x135, HF, hB105, hB110, hB115, hl136, hG, hL, hD, hB130, hB132, hB134, hS, s0_180, s2_180, s3_180, s4_180, s11_180, rfl, hz199⟩ ?case200 ?_
            case case200 =>
              rintro ρ216 w217 ⟨o218, HF, hB105, hB110, hB115, hl198, hG, hL, hD, hB130, hB132, hB134, hS, s0_196, s2_196, s3_196, s4_196⟩
              exact ⟨_, hL, hD, ⟨z199, HF, hB105, hB110, hB115, hl198, hG, hS, H⟩, ⟨hB130, hB132, hB134⟩⟩
            have Ho201 := H
            rintro k202 ρ203 w204 ⟨o205, x194, x195, HF, hB105, hB110, hB115, hl196, hG, hL, hD, hB130, hB132, hB134, hS, s0_193, s2_193, s3_193, s4_193, s11_193, s13_194, H⟩
            cases k202 with
            | zero => cases H
            | succ k202 =>
            rw [bits_Parse.l2.eq_2] at H
            refine WC.seq ?_
            refine WC.seq ?_
            refine WC.regionR (by kernel_rfl) ?_
            refine WL.ex rfl (ex_move (v := .int .i64 x194) s13_194) ?_
            refine WL.ex rfl (ex_move (v := .int .i64 z177.1) s11_193) ?_
            refine WL.ex rfl (ex_bin (a := .int .i64 x194) (b := .int .i64 z177.1) (v := .bool (decide (x194 ≤ z177.1))) rfl rfl bin_leq) ?_
            refine WL.nil ?_
            rcases condE H with ⟨c206, H⟩ | ⟨c206, H⟩
            ·
              refine WC.cond_t ((show _ = Value.bool (decide (x194 ≤ z177.1)) from rfl).trans (congrArg Value.bool c206)) ?_
              refine WC.skip ?_
              refine WC.seq ?_
              refine WC.block ?_
              refine WC.regionDR' HF [13] 10 (by kernel_rfl) (by kernel_rfl) rfl ?_
              intro w207 s208
              replace hB105 := hB105.step s208 rfl
              replace hB110 := hB110.step s208 rfl
              replace hB115 := hB115.step s208 rfl
              replace hG := hG.step s208 rfl
              replace hL := hL.step s208 rfl
              replace hD := hD.step s208 rfl
              replace hB130 := hB130.step s208 rfl
              replace hB132 := hB132.step s208 rfl
              replace hB134 := hB134.step s208 rfl
              replace hS := hS.step s208 rfl
              replace HF := HF.step s208 rfl
              have hB105D := hB105
              have hB110D := hB110
              have hB115D := hB115
              have hGD := hG
              have hLD := hL
              have hDD := hD
              have hB130D := hB130
              have hB132D := hB132
              have hB134D := hB134
              have hSD := hS
              have sR := HF.here [13]
              refine WA.norm (listed' := #[false, false, false, false, false, false, false, false, false, false]) (by kernel_rfl) ?_
              refine WA.ex 0 rfl (by kernel_rfl) (by kernel_rfl) (by kernel_rfl) rfl ⟨_, sR⟩ (fun w_ hS_ => ex_move (v := .int .i64 x194) s13_194) ?_
              refine WA.norm (listed' := #[true, false, false, false, false, false, false, false, false, false]) (by kernel_rfl) ?_
              refine WA.ex 1 rfl (by kernel_rfl) (by kernel_rfl) (by kernel_rfl) rfl ⟨_, sR⟩ (fun w_ hS_ => ex_bin (a := .int .i64 x194) (b := .int .i64 64) (v := .int .i64 (wrap64 (x194.tdiv 64))) rfl rfl (bin_quo64 (by decide))) ?_
              refine WA.norm (listed' := #[true, true, false, false, false, false, false, false, false, false]) (by kernel_rfl) ?_
              obtain ⟨x209, hx209, H⟩ := bindE H
              refine WA.ex 2 rfl (by kernel_rfl) (by kernel_rfl) (by kernel_rfl) rfl ⟨_, sR⟩ (fun w_ hS_ => ex_indexArrB (i := (wrap64 (x194.tdiv 64))) (xs := x195) s4_193 rfl Tryd.underlying24 sz22 hl196 hx209) ?_
              refine WA.norm (listed' := #[true, true, true, false, false, false, false, false, false, false]) (by kernel_rfl) ?_
              refine WA.ex 4 rfl (by kernel_rfl) (by kernel_rfl) (by kernel_rfl) rfl ⟨_, sR⟩ (fun w_ hS_ => ex_move (v := .int .i64 x194) s13_194) ?_
              refine WA.norm (listed' := #[true, true, true, false, true, false, false, false, false, false]) (by kernel_rfl) ?_
              refine WA.ex 5 rfl (by kernel_rfl) (by kernel_rfl) (by kernel_rfl) rfl ⟨_, sR⟩ (fun w_ hS_ => ex_bin (a := .int .i64 x194) (b := .int .i64 64) (v := .int .i64 (x194.tmod 64)) rfl rfl (bin_rem64 (by decide))) ?_
              refine WA.norm (listed' := #[true, true, true, false, true, true, false, false, false, false]) (by kernel_rfl) ?_
              obtain ⟨u210, hu210, H⟩ := bindE H
              refine WA.ex 6 rfl (by kernel_rfl) (by kernel_rfl) (by kernel_rfl) rfl ⟨_, sR⟩ (fun w_ hS_ => ex_bin (a := enc64 (1 : UInt64)) (b := .int .i64 (x194.tmod 64)) (v := enc64 (shl64 (1 : UInt64) (x194.tmod 64).toNat)) rfl rfl (bin_shl_u64 (of_decide_eq_true (chk_true hu210)))) ?_
              refine WA.norm (listed' := #[true, true, true, false, true, true, true, false, false, false]) (by kernel_rfl) ?_
              refine WA.one 3 (by kernel_rfl) rfl rfl ?_
              refine OW.ex rfl (ex_loadAE (enc := enc64) rfl Tryd.underlying22 rfl hB115 hx209) ?_
              refine ⟨⟨_, sR⟩, ?_⟩
              refine WA.norm (listed' := #[true, true, true, true, true, true, true, false, false, false]) (by kernel_rfl) ?_
              refine WA.ex 7 rfl (by kernel_rfl) (by kernel_rfl) (by kernel_rfl) rfl ⟨_, sR⟩ (fun w_ hS_ => ex_bin (a := enc64 x209) (b := enc64 (shl64 (1 : UInt64) (x194.tmod 64).toNat)) (v := enc64 (x209 ||| (shl64 (1 : UInt64) (x194.tmod 64).toNat))) rfl rfl bin_or_u64) ?_
              refine WA.norm (listed' := #[true, true, true, true, true, true, true, true, false, false]) (by kernel_rfl) ?_
              obtain ⟨x211, hx211, H⟩ := bindE H
              refine WA.ex 8 rfl (by kernel_rfl) (by kernel_rfl) (by kernel_rfl) rfl ⟨_, sR⟩ (fun w_ hS_ => ex_indexArrB (i := (wrap64 (x194.tdiv 64))) (xs := x195) s4_193 rfl Tryd.underlying24 sz22 hl196 hx211) ?_
              refine WA.norm (listed' := #[true, true, true, true, true, true, true, true, true, false]) (by kernel_rfl) ?_
              refine WA.one 9 (by kernel_rfl) rfl rfl ?_
              refine OW.storeAE (enc := enc64) (c := (x209 ||| (shl64 (1 : UInt64) (x194.tmod 64).toNat))) rfl rfl (cells64) (fun _ => rfl) sz22 hB115 hx211 ?_
              intro w212 s213 hB214
              replace hB105 := hB105.step s213 rfl
              replace hB110 := hB110.step s213 rfl
              replace hG := hG.step s213 rfl
              replace hL := hL.step s213 rfl
              replace hD := hD.step s213 rfl
              replace hB130 := hB130.step s213 rfl
              replace hB132 := hB132.step s213 rfl
              replace hB134 := hB134.step s213 rfl
              replace hS := hS.step s213 rfl
              replace HF := HF.step s213 rfl
              replace sR := Step.trans sR s213 (M := [13]) rfl rfl
              have hl215 := len_set (i := (wrap64 (x194.tdiv 64)).toNat) (a := (x209 ||| (shl64 (1 : UInt64) (x194.tmod 64).toNat))) hl196
              refine ⟨⟨_, sR⟩, ?_⟩
              refine WA.norm (listed' := #[true, true, true, true, true, true, true, true, true, true]) (by kernel_rfl) ?_
              refine WA.done (by kernel_rfl) ?_
              refine WC.regionR (by kernel_rfl) ?_
              refine WL.ex rfl (ex_move (v := .int .i64 x194) s13_194) ?_
              refine WL.ex rfl (ex_bin (a := .int .i64 x194) (b := .int .i64 1) (v := .int .i64 (wrap64 (x194 + 1))) rfl rfl bin_add64) ?_
              refine WL.ex rfl (ex_assign (v := .int .i64 (wrap64 (x194 + 1))) rfl) ?_
              refine WL.nil ?_
              exact ⟨k202, Nat.lt_succ_self _, ⟨_, wrap64 (x194 + 1), (x195.set (wrap64 (x194.tdiv 64)).toNat (x209 ||| (shl64 (1 : UInt64) (x194.tmod 64).toNat))), HF, hB105, hB110, hB214, hl215, hG, hL, hD, hB130, hB132, hB134, hS, s0_193, s2_193, s3_193, s4_193, s11_193, rfl, H⟩⟩
            ·
              refine WC.cond_f ((show _ = Value.bool (decide (x194 ≤ z177.1)) from rfl).trans (congrArg Value.bool c206)) ?_
              refine WC.exit ?_
              obtain rfl := Option.some.inj H
              exact ⟨_, HF, hB105, hB110, hB115, hl196, hG, hL, hD, hB130, hB132, hB134, hS, s0_193, s2_193, s3_193, s4_193⟩
        have Ho219 := H
        replace H := hz182
        refine WC.regionR (by kernel_rfl) ?_
        refine WL.ex rfl (ex_move (v := .int .i64 z173.2) rfl) ?_
        refine WL.ex rfl (ex_bin (a := .int .i64 z173.2) (b := .int .i64 0) (v := .bool (z173.2 != 0)) rfl rfl bin_neq) ?_
        refine WL.ex rfl (ex_move (v := .bool (z173.2 != 0)) rfl) ?_
        rcases condE H with ⟨c220, H⟩ | ⟨c220, H⟩
        ·
          refine WL.guardNo rfl rfl rfl ((show _ = Value.bool (z173.2 != 0) from rfl).trans (congrArg Value.bool c220)) ?_
          refine WL.guardNo rfl rfl rfl ((show _ = Value.bool (z173.2 != 0) from rfl).trans (congrArg Value.bool c220)) ?_
          refine WL.ex rfl (ex_pick_t (v := .bool true) ((show _ = Value.bool (z173.2 != 0) from rfl).trans (congrArg Value.bool c220)) rfl) ?_
          refine WL.nil ?_
          obtain rfl := Option.some.inj H
          exact ⟨_, HF, hB105, hB110, hB115, hl136, hG, hL, hD, hB130, hB132, hB134, hS, s0_166, s2_166, s3_166, s4_166, rfl, rfl, rfl⟩
        ·
          refine WL.guardYes rfl rfl rfl ((show _ = Value.bool (z173.2 != 0) from rfl).trans (congrArg Value.bool c220)) ?_
          refine OW.ex rfl (ex_move (v := .int .i64 z177.2) rfl) ?_
          refine WL.guardYes rfl rfl rfl ((show _ = Value.bool (z173.2 != 0) from rfl).trans (congrArg Value.bool c220)) ?_
          refine OW.ex rfl (ex_bin (a := .int .i64 z177.2) (b := .int .i64 0) (v := .bool (z177.2 != 0)) rfl rfl bin_neq) ?_
          refine WL.ex rfl (ex_pick_f (v := .bool (z177.2 != 0)) ((show _ = Value.bool (z173.2 != 0) from rfl).trans (congrArg Value.bool c220)) rfl) ?_
          refine WL.nil ?_
          obtain rfl := Option.some.inj H
          exact ⟨_, HF, hB105, hB110, hB115, hl136, hG, hL, hD, hB130, hB132, hB134, hS, s0_166, s2_166, s3_166, s4_166, rfl, rfl, rfl⟩
      have Ho221 := H
      replace H := hz168
      refine WC.seq ?_
      refine WC.regionR (by kernel_rfl) ?_
      refine WL.ex rfl (ex_move (v := .bool z163.2.2) rfl) ?_
      refine WL.ex rfl (ex_not (b := z163.2.2) rfl) ?_
      refine WL.nil ?_
      rcases condE H with ⟨c222, H⟩ | ⟨c222, H⟩
      ·
        refine WC.cond_t ((show _ = Value.bool (!z163.2.2) from rfl).trans (congrArg Value.bool c222)) ?_
        refine WC.regionR (by kernel_rfl) ?_
        refine WL.ex rfl (ex_move (v := encS z163.1) rfl) ?_
        refine WL.ex rfl (ex_assign (v := encS z163.1) rfl) ?_
        refine WL.nil ?_
        obtain rfl := Option.some.inj H
        exact ⟨_, HF, hB105, hB110, hB115, hl136, hG, hL, hD, hB130, hB132, hB134, hS, rfl, rfl, rfl, rfl, rfl, rfl⟩
      ·
        refine WC.cond_f ((show _ = Value.bool (!z163.2.2) from rfl).trans (congrArg Value.bool c222)) ?_
        refine WC.skip ?_
        obtain rfl := Option.some.inj H
        exact ⟨_, HF, hB105, hB110, hB115, hl136, hG, hL, hD, hB130, hB132, hB134, hS, rfl, rfl, rfl, rfl, rfl, rfl⟩
    case he146 =>
      rintro o_ w_ ⟨x135, HF, hB105, hB110, hB115, hl136, hG, hS, H⟩ hCc
      rw [List.drop_length, bits_Parse.l1.eq_1] at H
      obtain rfl := Option.some.inj H
      exact ⟨x135, HF, hB105, hB110, hB115, hl136, hG, hS, rfl⟩
    case hr148 =>
      rintro D223 o224 w225 ⟨HF, hB165, hB168, hG, hS, hz227⟩ hD hle226
      replace H := Ho139
      subst hz227
      dsimp only at H
      replace hB165 := hB165.ren (i := 17) (j := 10) rfl
      replace hB168 := hB168.ren (i := 17) (j := 10) rfl
      replace hG := hG.ren (i := 17) (j := 10) rfl
      replace hS := hS.ren (k := 17) (l := 10) rfl rfl
      replace hD := Ob.renTo (j := 10) hD
      replace HF := HF.ren (i := 17) (j := 10) rfl
      replace hS := Shut.more hS140 hS hD hle226
      obtain rfl := Option.some.inj H
      refine ⟨10, _, hS, ?_⟩
      intro w229 s230
      replace hB165 := hB165.step s230 rfl
      replace hB168 := hB168.step s230 rfl
      replace hG := hG.step s230 rfl
      replace HF := HF.step s230 rfl
      exact ⟨_, (.cell (.agg (List.map enc64 (List.replicate 16 ((0 : UInt64)))).toArray : Value) rfl (run_loadAV Tryd.underlying24 sz24 rfl hB165) (.cell (.int .i64 50 : Value) rfl (run_load1 Tryd.underlying26 rfl (hB168.cell rfl)) .nil)), _, rfl, HF.out, rfl⟩
    case hp147 =>
      rintro D231 o232 w233 ⟨x135, HF, hB105, hB110, hB115, hl136, hG, hS, hz235⟩ hD hle234
      replace H := Ho139
      subst hz235
      dsimp only at H
      replace hB105 := hB105.ren (i := 17) (j := 10) rfl
      replace hB110 := hB110.ren (i := 17) (j := 10) rfl
      replace hB115 := hB115.ren (i := 17) (j := 10) rfl
      replace hG := hG.ren (i := 17) (j := 10) rfl
      replace hS := hS.ren (k := 17) (l := 10) rfl rfl
      replace hD := Ob.renTo (j := 10) hD
      replace HF := HF.ren (i := 17) (j := 10) rfl
      replace hS := Shut.more hS140 hS hD hle234
      refine WC.seq ?_
      refine WC.seq ?_
      refine WC.region ?_
      refine WL.ex rfl (ex_loadAV (xs := x135) rfl Tryd.underlying24 sz24 hl136 hB115) ?_
      obtain ⟨z237, hz237, H⟩ := bindE H
      refine WL.op rfl ?_
      refine OW.call [.agg (List.map enc64 x135).toArray] rfl Tryd.func8 (by kernel_rfl) (by kernel_rfl) (map_cons' rfl rfl) (bits_Text.calls k _ _ x135 z237 (HF.ten (V := [0]) (L := []) rfl) hl136 (Gl.vw (V := [0]) (L := []) hG rfl) hz237) ?_
      rintro _ w238 ⟨o239, rfl, s240⟩
      refine ⟨_, rfl, ?_⟩
      replace s240 := un_stepL (J := []) (L' := []) s240 rfl rfl
      replace hB105 := hB105.step s240 rfl
      replace hB110 := hB110.step s240 rfl
      replace hB115 := hB115.step s240 rfl
      replace hG := hG.step s240 rfl
      replace hS := hS.step s240 rfl
      replace HF := HF.step s240 rfl
      refine WL.ex rfl (ex_move (v := encS a0) rfl) ?_
      refine WL.ex rfl (ex_bin (a := encS z237) (b := encS a0) (v := .bool (!(z237 == a0))) rfl rfl bin_neq_str) ?_
      refine WL.nil ?_
      rcases condE H with ⟨c241, H⟩ | ⟨c241, H⟩
      ·
        refine WC.cond_t ((show _ = Value.bool (!(z237 == a0)) from rfl).trans (congrArg Value.bool c241)) ?_
        refine WC.seq ?_
        refine WC.region ?_
        refine WL.ex rfl (ex_buildArr (cs := List.map enc64 (List.replicate 16 ((0 : UInt64)))) [] [.int .u64 0, .int .u64 0, .int .u64 0, .int .u64 0, .int .u64 0, .int .u64 0, .int .u64 0, .int .u64 0, .int .u64 0, .int .u64 0, .int .u64 0, .int .u64 0, .int .u64 0, .int .u64 0, .int .u64 0, .int .u64 0] Tryd.underlying24 zr24 rfl sz22 rfl rfl) ?_
        refine WL.op rfl ?_
        refine OW.storeAV (ys := (List.replicate 16 ((0 : UInt64)))) rfl rfl (fun _ => rfl) sz24 rfl rfl hB105 ?_
        intro w242 s243 hB244
        replace hB110 := hB110.step s243 rfl
        replace hB115 := hB115.step s243 rfl
        replace hG := hG.step s243 rfl
        replace hS := hS.step s243 rfl
        replace HF := HF.step s243 rfl
        refine WL.op rfl ?_
        refine OW.store [.int .i64 50] rfl (vs := [.int .i64 50]) ((congrArg Value.cells (show ev _ _ = (.int .i64 50 : Value) from rfl)).trans rfl) sz26 hB110 (Nat.le_of_ble_eq_true rfl) (by intro u_ hu_; simp only [List.mem_cons, List.not_mem_nil, or_false] at hu_; rcases hu_ with rfl; first | rfl) rfl ?_
        intro w245 s246 hB247
        replace hB115 := hB115.step s246 rfl
        replace hG := hG.step s246 rfl
        replace hS := hS.step s246 rfl
        replace hB244 := hB244.step s246 rfl
        replace HF := HF.step s246 rfl
        refine WL.nil ?_
        refine WC.ret ?_
        obtain rfl := Option.some.inj H
        refine ⟨10, _, hS, ?_⟩
        intro w248 s249
        replace hB115 := hB115.step s249 rfl
        replace hG := hG.step s249 rfl
        replace hB244 := hB244.step s249 rfl
        replace hB247 := hB247.step s249 rfl
        replace HF := HF.step s249 rfl
        exact ⟨_, (.cell (.agg (List.map enc64 (List.replicate 16 ((0 : UInt64)))).toArray : Value) rfl (run_loadAV Tryd.underlying24 sz24 rfl hB244) (.cell (.int .i64 50 : Value) rfl (run_load1 Tryd.underlying26 rfl (hB247.cell rfl)) .nil)), _, rfl, HF.out, rfl⟩
      ·
        refine WC.cond_f ((show _ = Value.bool (!(z237 == a0)) from rfl).trans (congrArg Value.bool c241)) ?_
        refine WC.skip ?_
        refine WC.seq ?_
        refine WC.region ?_
        refine WL.ex rfl (ex_loadAV (xs := x135) rfl Tryd.underlying24 sz24 hl136 hB115) ?_
        refine WL.op rfl ?_
        refine OW.storeAV (ys := x135) rfl rfl (fun _ => rfl) sz24 rfl hl136 hB105 ?_
        intro w250 s251 hB252
        replace hB110 := hB110.step s251 rfl
        replace hB115 := hB115.step s251 rfl
        replace hG := hG.step s251 rfl
        replace hS := hS.step s251 rfl
        replace HF := HF.step s251 rfl
        refine WL.op rfl ?_
        refine OW.store [.int .i64 0] rfl (vs := [.int .i64 0]) ((congrArg Value.cells (show ev _ _ = (.int .i64 0 : Value) from rfl)).trans rfl) sz26 hB110 (Nat.le_of_ble_eq_true rfl) (by intro u_ hu_; simp only [List.mem_cons, List.not_mem_nil, or_false] at hu_; rcases hu_ with rfl; first | rfl) rfl ?_
        intro w253 s254 hB255
        replace hB115 := hB115.step s254 rfl
        replace hG := hG.step s254 rfl
        replace hS := hS.step s254 rfl
        replace hB252 := hB252.step s254 rfl
        replace HF := HF.step s254 rfl
        refine WL.nil ?_
        refine WC.ret ?_
        obtain rfl := Option.some.inj H
        refine ⟨10, _, hS, ?_⟩
        intro w256 s257
        replace hB115 := hB115.step s257 rfl
        replace hG := hG.step s257 rfl
        replace hB252 := hB252.step s257 rfl
        replace hB255 := hB255.step s257 rfl
        replace HF := HF.step s257 rfl
        exact ⟨_, (.cell (.agg (List.map enc64 x135).toArray : Value) rfl (run_loadAV Tryd.underlying24 sz24 hl136 hB252) (.cell (.int .i64 0 : Value) rfl (run_load1 Tryd.underlying26 rfl (hB255.cell rfl)) .nil)), _, rfl, HF.out, hl136⟩

/-! ### bits_Put -/
set_option maxRecDepth 100000 in
theorem bits_Put.calls (k : Nat) (o0 : Tags) (w0 : World) (a0 : (List UInt64)) (a1 : Int) (r : (List UInt64) × Int) (hO : ∀ b, b < w0.heap.size → o0 b < 10) (hla0 : a0.length = 16) (H : bits_Put.f k a0 a1 = some r) :
    Calls Tryd.prog 30 [.agg (List.map enc64 a0).toArray, .int .i64 a1].toArray w0 fun e_ w_ => ∃ (o_ : Tags), e_ = .returned (one [.agg (List.map enc64 r.1).toArray, .int .i64 r.2]) ∧ Step o0 w0 o_ w_ [] ∧ r.1.length = 16 := by
  have HF := Fm.refl hO []
  unfold bits_Put.f at H
  refine SX.calls [.agg (List.map enc64 a0).toArray, .int .i64 a1] Tryd.func30 rfl rfl ?_
  rw [Tryd.ntmps30]
  refine WC.seq ?_
  refine WC.region ?_
  refine WL.op rfl ?_
  refine OW.box' (List.map enc64 a0) 10 HF rfl ((congrArg Value.cells (show ev _ _ = (.agg (List.map enc64 a0).toArray : Value) from rfl)).trans rfl) ?_
  intro o102 w103 b101 s104 hB105
  replace HF := HF.step s104 rfl
  refine WL.op rfl ?_
  refine OW.alloc' (List.map enc64 (List.replicate 16 ((0 : UInt64)))) 11 HF rfl zr24 rfl ?_
  intro o107 w108 b106 s109 hB110
  replace hB105 := hB105.step s109 rfl
  replace HF := HF.step s109 rfl
  refine WL.ex rfl (ex_assign (v := .int .i64 0) rfl) ?_
  refine WL.nil ?_
  refine WC.seq ?_
  refine WC.region ?_
  refine WL.ex rfl (ex_move (v := .int .i64 a1) rfl) ?_
  refine WL.op rfl ?_
  refine OW.row (r := (Rep.int .i64)) (xs := [a1]) [(0, .int .i64 a1)] [[.int .i64 a1]] 12 HF rfl Tryd.underlying38 sz3 zr3 rfl (evs_cons rfl rfl) rfl rfl ⟨rfl, trivial⟩ rfl rfl rfl rfl ?_
  intro o111 w112 v114 s113 hO115
  replace hB105 := hB105.step s113 rfl
  replace hB110 := hB110.step s113 rfl
  replace HF := HF.step s113 rfl
  obtain ⟨A116, c117, q118e, q118l, q118⟩ := Own.vwRow (V := [0, 12]) (L := []) hO115 rfl rfl
  obtain ⟨z119, hz119, H⟩ := bindE H
  have q118e' := q118e
  refine WL.op rfl ?_
  refine OW.call [v114] rfl Tryd.func28 (by kernel_rfl) (by kernel_rfl) (map_cons' rfl rfl) (by simp only [q118e]; exact (bits_Of.calls k _ _ A116 c117 [a1] z119 (HF.ten (V := [0, 12]) (L := []) rfl) q118 q118l hz119)) ?_
  rintro _ w120 ⟨o121, rfl, s122, hl123⟩
  refine ⟨_, rfl, ?_⟩
  replace s122 := un_stepL (J := []) (L' := []) s122 rfl rfl
  replace hB105 := hB105.step s122 rfl
  replace hB110 := hB110.step s122 rfl
  replace hO115 := hO115.step s122 rfl rfl
  replace HF := HF.step s122 rfl
  refine WL.ex rfl (ex_move (v := .tuple #[.agg (List.map enc64 z119.1).toArray, .int .i64 z119.2]) rfl) ?_
  refine WL.ex rfl (ex_extract (vs := #[.agg (List.map enc64 z119.1).toArray, .int .i64 z119.2]) (v := .agg (List.map enc64 z119.1).toArray) rfl rfl) ?_
  refine WL.ex rfl (ex_extract (vs := #[.agg (List.map enc64 z119.1).toArray, .int .i64 z119.2]) (v := .int .i64 z119.2) rfl rfl) ?_
  refine WL.op rfl ?_
  refine OW.alloc' (List.map enc64 (List.replicate 16 ((0 : UInt64)))) 13 HF rfl zr24 rfl ?_
  intro o125 w126 b124 s127 hB128
  replace hB105 := hB105.step s127 rfl
  replace hB110 := hB110.step s127 rfl
  replace hO115 := hO115.step s127 rfl rfl
  replace HF := HF.step s127 rfl
  refine WL.op rfl ?_
  refine OW.storeAV (ys := z119.1) rfl rfl (fun _ => rfl) sz24 rfl hl123 hB128 ?_
  intro w129 s130 hB131
  replace hB105 := hB105.step s130 rfl
  replace hB110 := hB110.step s130 rfl
  replace hO115 := hO115.step s130 rfl rfl
  replace HF := HF.step s130 rfl
  refine WL.ex rfl (ex_assign (v := .int .i64 z119.2) rfl) ?_
  refine WL.nil ?_
  refine WC.seq ?_
  refine WC.seq ?_
  refine WC.region ?_
  refine WL.ex rfl (ex_move (v := .int .i64 z119.2) rfl) ?_
  refine WL.ex rfl (ex_bin (a := .int .i64 z119.2) (b := .int .i64 0) (v := .bool (z119.2 != 0)) rfl rfl bin_neq) ?_
  refine WL.nil ?_
  rcases condE H with ⟨c132, H⟩ | ⟨c132, H⟩
  ·
    refine WC.cond_t ((show _ = Value.bool (z119.2 != 0) from rfl).trans (congrArg Value.bool c132)) ?_
    refine WC.seq ?_
    refine WC.region ?_
    refine WL.ex rfl (ex_buildArr (cs := List.map enc64 (List.replicate 16 ((0 : UInt64)))) [] [.int .u64 0, .int .u64 0, .int .u64 0, .int .u64 0, .int .u64 0, .int .u64 0, .int .u64 0, .int .u64 0, .int .u64 0, .int .u64 0, .int .u64 0, .int .u64 0, .int .u64 0, .int .u64 0, .int .u64 0, .int .u64 0] Tryd.underlying24 zr24 rfl sz22 rfl rfl) ?_
    refine WL.ex rfl (ex_move (v := .int .i64 z119.2) rfl) ?_
    refine WL.op rfl ?_
    refine OW.storeAV (ys := (List.replicate 16 ((0 : UInt64)))) rfl rfl (fun _ => rfl) sz24 rfl rfl hB110 ?_
    intro w133 s134 hB135
    replace hB105 := hB105.step s134 rfl
    replace hO115 := hO115.step s134 rfl rfl
    replace hB131 := hB131.step s134 rfl
    replace HF := HF.step s134 rfl
    refine WL.ex rfl (ex_assign (v := .int .i64 z119.2) rfl) ?_
    refine WL.nil ?_
    refine WC.ret ?_
    obtain rfl := Option.some.inj H
    exact ⟨_, (.cell (.agg (List.map enc64 (List.replicate 16 ((0 : UInt64)))).toArray : Value) rfl (run_loadAV Tryd.underlying24 sz24 rfl hB135) (.tmp (.int .i64 z119.2 : Value) rfl .nil)), _, rfl, HF.out, rfl⟩
  ·
    refine WC.cond_f ((show _ = Value.bool (z119.2 != 0) from rfl).trans (congrArg Value.bool c132)) ?_
    refine WC.skip ?_
    refine WC.seq ?_
    refine WC.region ?_
    refine WL.ex rfl (ex_loadAV (xs := a0) rfl Tryd.underlying24 sz24 hla0 hB105) ?_
    refine WL.ex rfl (ex_loadAV (xs := z119.1) rfl Tryd.underlying24 sz24 hl123 hB131) ?_
    obtain ⟨z136, hz136, H⟩ := bindE H
    refine WL.op rfl ?_
    refine OW.call [.agg (List.map enc64 a0).toArray, .agg (List.map enc64 z119.1).toArray] rfl Tryd.func15 (by kernel_rfl) (by kernel_rfl) (map_cons' rfl (map_cons' rfl rfl)) (bits_Union.calls k _ _ a0 z119.1 z136 (HF.ten (V := [0]) (L := []) rfl) hla0 hl123 hz136) ?_
    rintro _ w137 ⟨o138, rfl, s139, hl140⟩
    refine ⟨_, rfl, ?_⟩
    replace s139 := un_stepL (J := []) (L' := []) s139 rfl rfl
    replace hB105 := hB105.step s139 rfl
    replace hB110 := hB110.step s139 rfl
    replace hO115 := hO115.step s139 rfl rfl
    replace hB131 := hB131.step s139 rfl
    replace HF := HF.step s139 rfl
    refine WL.op rfl ?_
    refine OW.storeAV (ys := z136) rfl rfl (fun _ => rfl) sz24 rfl hl140 hB110 ?_
    intro w141 s142 hB143
    replace hB105 := hB105.step s142 rfl
    replace hO115 := hO115.step s142 rfl rfl
    replace hB131 := hB131.step s142 rfl
    replace HF := HF.step s142 rfl
    refine WL.ex rfl (ex_assign (v := .int .i64 0) rfl) ?_
    refine WL.nil ?_
    refine WC.ret ?_
    obtain rfl := Option.some.inj H
    exact ⟨_, (.cell (.agg (List.map enc64 z136).toArray : Value) rfl (run_loadAV Tryd.underlying24 sz24 hl140 hB143) (.tmp (.int .i64 0 : Value) rfl .nil)), _, rfl, HF.out, hl140⟩

/-! ### dictumlaw05_heads -/
set_option maxRecDepth 100000 in
theorem dictumlaw05_heads.calls (k : Nat) (o0 : Tags) (w0 : World) (r : Bool) (hO : ∀ b, b < w0.heap.size → o0 b < 10) (hG : Gl GG o0 w0) (H : dictumlaw05_heads.f k = some r) :
    Calls Tryd.prog 12 [].toArray w0 fun e_ w_ => ∃ (o_ : Tags), e_ = .returned (one [.bool r]) ∧ Step o0 w0 o_ w_ [] := by
  have HF := Fm.refl hO []
  unfold dictumlaw05_heads.f at H
  refine SX.calls [] Tryd.func12 rfl rfl ?_
  rw [Tryd.ntmps12]
  refine WC.seq ?_
  refine WC.region ?_
  refine WL.ex rfl (ex_assign (v := .bool false) rfl) ?_
  refine WL.nil ?_
  refine WC.seq ?_
  refine WC.region ?_
  refine WL.op rfl ?_
  refine OW.row (r := (Rep.int .i64)) (xs := [0, 1, 2, 5, 64]) [(0, .int .i64 0), (1, .int .i64 1), (2, .int .i64 2), (3, .int .i64 5), (4, .int .i64 64)] [[.int .i64 0], [.int .i64 1], [.int .i64 2], [.int .i64 5], [.int .i64 64]] 10 HF rfl Tryd.underlying38 sz3 zr3 rfl (evs_cons rfl (evs_cons rfl (evs_cons rfl (evs_cons rfl (evs_cons rfl rfl))))) rfl rfl ⟨rfl, rfl, rfl, rfl, rfl, trivial⟩ rfl rfl rfl rfl ?_
  intro o101 w102 v104 s103 hO105
  replace hG := hG.step s103 rfl
  replace HF := HF.step s103 rfl
  obtain ⟨A106, c107, q108e, q108l, q108⟩ := Own.vwRow (V := [0, 10]) (L := []) hO105 rfl rfl
  obtain ⟨z109, hz109, H⟩ := bindE H
  have q108e' := q108e
  refine WL.op rfl ?_
  refine OW.call [v104] rfl Tryd.func28 (by kernel_rfl) (by kernel_rfl) (map_cons' rfl rfl) (by simp only [q108e]; exact (bits_Of.calls k _ _ A106 c107 [0, 1, 2, 5, 64] z109 (HF.ten (V := [0, 10]) (L := []) rfl) q108 q108l hz109)) ?_
  rintro _ w110 ⟨o111, rfl, s112, hl113⟩
  refine ⟨_, rfl, ?_⟩
  replace s112 := un_stepL (J := []) (L' := []) s112 rfl rfl
  replace hG := hG.step s112 rfl
  replace hO105 := hO105.step s112 rfl rfl
  replace HF := HF.step s112 rfl
  refine WL.ex rfl (ex_move (v := .tuple #[.agg (List.map enc64 z109.1).toArray, .int .i64 z109.2]) rfl) ?_
  refine WL.ex rfl (ex_extract (vs := #[.agg (List.map enc64 z109.1).toArray, .int .i64 z109.2]) (v := .agg (List.map enc64 z109.1).toArray) rfl rfl) ?_
  refine WL.ex rfl (ex_extract (vs := #[.agg (List.map enc64 z109.1).toArray, .int .i64 z109.2]) (v := .int .i64 z109.2) rfl rfl) ?_
  refine WL.op rfl ?_
  refine OW.alloc' (List.map enc64 (List.replicate 16 ((0 : UInt64)))) 11 HF rfl zr24 rfl ?_
  intro o115 w116 b114 s117 hB118
  replace hG := hG.step s117 rfl
  replace hO105 := hO105.step s117 rfl rfl
  replace HF := HF.step s117 rfl
  refine WL.op rfl ?_
  refine OW.storeAV (ys := z109.1) rfl rfl (fun _ => rfl) sz24 rfl hl113 hB118 ?_
  intro w119 s120 hB121
  replace hG := hG.step s120 rfl
  replace hO105 := hO105.step s120 rfl rfl
  replace HF := HF.step s120 rfl
  refine WL.ex rfl (ex_assign (v := .int .i64 z109.2) rfl) ?_
  refine WL.nil ?_
  refine WC.seq ?_
  refine WC.region ?_
  refine WL.ex rfl (ex_loadAV (xs := z109.1) rfl Tryd.underlying24 sz24 hl113 hB121) ?_
  obtain ⟨z122, hz122, H⟩ := bindE H
  refine WL.op rfl ?_
  refine OW.call [.agg (List.map enc64 z109.1).toArray, .int .i64 6] rfl Tryd.func13 (by kernel_rfl) (by kernel_rfl) (map_cons' rfl (map_cons' rfl rfl)) (bits_Next.calls k _ _ z109.1 6 z122 (HF.ten (V := [0]) (L := []) rfl) hl113 (Gl.vw (V := [0]) (L := []) hG rfl) hz122) ?_
  rintro _ w123 ⟨o124, rfl, s125⟩
  refine ⟨_, rfl, ?_⟩
  replace s125 := un_stepL (J := []) (L' := []) s125 rfl rfl
  replace hG := hG.step s125 rfl
  replace hO105 := hO105.step s125 rfl rfl
  replace hB121 := hB121.step s125 rfl
  replace HF := HF.step s125 rfl
  refine WL.ex rfl (ex_move (v := .tuple #[.int .i64 z122.1, .bool z122.2]) rfl) ?_
  refine WL.ex rfl (ex_extract (vs := #[.int .i64 z122.1, .bool z122.2]) (v := .int .i64 z122.1) rfl rfl) ?_
  refine WL.ex rfl (ex_extract (vs := #[.int .i64 z122.1, .bool z122.2]) (v := .bool z122.2) rfl rfl) ?_
  refine WL.ex rfl (ex_assign (v := .int .i64 z122.1) rfl) ?_
  refine WL.ex rfl (ex_assign (v := .bool z122.2) rfl) ?_
  refine WL.nil ?_
  refine WC.seq ?_
  refine WC.region ?_
  obtain ⟨z126, hz126, H⟩ := bindE H
  refine WL.op rfl ?_
  refine OW.call [encS ([48, 45, 50, 44, 53, 44, 54, 52] : List UInt8)] rfl Tryd.func9 (by kernel_rfl) (by kernel_rfl) (map_cons' rfl rfl) (bits_Parse.calls k _ _ ([48, 45, 50, 44, 53, 44, 54, 52] : List UInt8) z126 (HF.ten (V := [0]) (L := []) rfl) (Gl.vw (V := [0]) (L := []) hG rfl) hz126) ?_
  rintro _ w127 ⟨o128, rfl, s129, hl130⟩
  refine ⟨_, rfl, ?_⟩
  replace s129 := un_stepL (J := []) (L' := []) s129 rfl rfl
  replace hG := hG.step s129 rfl
  replace hO105 := hO105.step s129 rfl rfl
  replace hB121 := hB121.step s129 rfl
  replace HF := HF.step s129 rfl
  refine WL.ex rfl (ex_move (v := .tuple #[.agg (List.map enc64 z126.1).toArray, .int .i64 z126.2]) rfl) ?_
  refine WL.ex rfl (ex_extract (vs := #[.agg (List.map enc64 z126.1).toArray, .int .i64 z126.2]) (v := .agg (List.map enc64 z126.1).toArray) rfl rfl) ?_
  refine WL.ex rfl (ex_extract (vs := #[.agg (List.map enc64 z126.1).toArray, .int .i64 z126.2]) (v := .int .i64 z126.2) rfl rfl) ?_
  refine WL.op rfl ?_
  refine OW.alloc' (List.map enc64 (List.replicate 16 ((0 : UInt64)))) 12 HF rfl zr24 rfl ?_
  intro o132 w133 b131 s134 hB135
  replace hG := hG.step s134 rfl
  replace hO105 := hO105.step s134 rfl rfl
  replace hB121 := hB121.step s134 rfl
  replace HF := HF.step s134 rfl
  refine WL.op rfl ?_
  refine OW.storeAV (ys := z126.1) rfl rfl (fun _ => rfl) sz24 rfl hl130 hB135 ?_
  intro w136 s137 hB138
  replace hG := hG.step s137 rfl
  replace hO105 := hO105.step s137 rfl rfl
  replace hB121 := hB121.step s137 rfl
  replace HF := HF.step s137 rfl
  refine WL.ex rfl (ex_assign (v := .int .i64 z126.2) rfl) ?_
  refine WL.nil ?_
  refine WC.seq ?_
  refine WC.region ?_
  obtain ⟨z139, hz139, H⟩ := bindE H
  refine WL.op rfl ?_
  refine OW.call [encS ([51, 45, 51] : List UInt8)] rfl Tryd.func9 (by kernel_rfl) (by kernel_rfl) (map_cons' rfl rfl) (bits_Parse.calls k _ _ ([51, 45, 51] : List UInt8) z139 (HF.ten (V := [0]) (L := []) rfl) (Gl.vw (V := [0]) (L := []) hG rfl) hz139) ?_
  rintro _ w140 ⟨o141, rfl, s142, hl143⟩
  refine ⟨_, rfl, ?_⟩
  replace s142 := un_stepL (J := []) (L' := []) s142 rfl rfl
  replace hG := hG.step s142 rfl
  replace hO105 := hO105.step s142 rfl rfl
  replace hB121 := hB121.step s142 rfl
  replace hB138 := hB138.step s142 rfl
  replace HF := HF.step s142 rfl
  refine WL.ex rfl (ex_move (v := .tuple #[.agg (List.map enc64 z139.1).toArray, .int .i64 z139.2]) rfl) ?_
  refine WL.ex rfl (ex_extract (vs := #[.agg (List.map enc64 z139.1).toArray, .int .i64 z139.2]) (v := .agg (List.map enc64 z139.1).toArray) rfl rfl) ?_
  refine WL.ex rfl (ex_extract (vs := #[.agg (List.map enc64 z139.1).toArray, .int .i64 z139.2]) (v := .int .i64 z139.2) rfl rfl) ?_
  refine WL.op rfl ?_
  refine OW.alloc' (List.map enc64 (List.replicate 16 ((0 : UInt64)))) 13 HF rfl zr24 rfl ?_
  intro o145 w146 b144 s147 hB148
  replace hG := hG.step s147 rfl
  replace hO105 := hO105.step s147 rfl rfl
  replace hB121 := hB121.step s147 rfl
  replace hB138 := hB138.step s147 rfl
  replace HF := HF.step s147 rfl
  refine WL.op rfl ?_
  refine OW.storeAV (ys := z139.1) rfl rfl (fun _ => rfl) sz24 rfl hl143 hB148 ?_
  intro w149 s150 hB151
  replace hG := hG.step s150 rfl
  replace hO105 := hO105.step s150 rfl rfl
  replace hB121 := hB121.step s150 rfl
  replace hB138 := hB138.step s150 rfl
  replace HF := HF.step s150 rfl
  refine WL.ex rfl (ex_assign (v := .int .i64 z139.2) rfl) ?_
  refine WL.nil ?_
  refine WC.seq ?_
  refine WC.region ?_
  refine WL.ex rfl (ex_loadAV (xs := z109.1) rfl Tryd.underlying24 sz24 hl113 hB121) ?_
  obtain ⟨z152, hz152, H⟩ := bindE H
  refine WL.op rfl ?_
  refine OW.call [.agg (List.map enc64 z109.1).toArray, .int .i64 1024] rfl Tryd.func30 (by kernel_rfl) (by kernel_rfl) (map_cons' rfl (map_cons' rfl rfl)) (bits_Put.calls k _ _ z109.1 1024 z152 (HF.ten (V := [0]) (L := []) rfl) hl113 hz152) ?_
  rintro _ w153 ⟨o154, rfl, s155, hl156⟩
  refine ⟨_, rfl, ?_⟩
  replace s155 := un_stepL (J := []) (L' := []) s155 rfl rfl
  replace hG := hG.step s155 rfl
  replace hO105 := hO105.step s155 rfl rfl
  replace hB121 := hB121.step s155 rfl
  replace hB138 := hB138.step s155 rfl
  replace hB151 := hB151.step s155 rfl
  replace HF := HF.step s155 rfl
  refine WL.ex rfl (ex_move (v := .tuple #[.agg (List.map enc64 z152.1).toArray, .int .i64 z152.2]) rfl) ?_
  refine WL.ex rfl (ex_extract (vs := #[.agg (List.map enc64 z152.1).toArray, .int .i64 z152.2]) (v := .agg (List.map enc64 z152.1).toArray) rfl rfl) ?_
  refine WL.ex rfl (ex_extract (vs := #[.agg (List.map enc64 z152.1).toArray, .int .i64 z152.2]) (v := .int .i64 z152.2) rfl rfl) ?_
  refine WL.op rfl ?_
  refine OW.alloc' (List.map enc64 (List.replicate 16 ((0 : UInt64)))) 14 HF rfl zr24 rfl ?_
  intro o158 w159 b157 s160 hB161
  replace hG := hG.step s160 rfl
  replace hO105 := hO105.step s160 rfl rfl
  replace hB121 := hB121.step s160 rfl
  replace hB138 := hB138.step s160 rfl
  replace hB151 := hB151.step s160 rfl
  replace HF := HF.step s160 rfl
  refine WL.op rfl ?_
  refine OW.storeAV (ys := z152.1) rfl rfl (fun _ => rfl) sz24 rfl hl156 hB161 ?_
  intro w162 s163 hB164
  replace hG := hG.step s163 rfl
  replace hO105 := hO105.step s163 rfl rfl
  replace hB121 := hB121.step s163 rfl
  replace hB138 := hB138.step s163 rfl
  replace hB151 := hB151.step s163 rfl
  replace HF := HF.step s163 rfl
  refine WL.ex rfl (ex_assign (v := .int .i64 z152.2) rfl) ?_
  refine WL.nil ?_
  refine WC.seq ?_
  refine WC.region ?_
  refine WL.ex rfl (ex_move (v := .int .i64 z109.2) rfl) ?_
  refine WL.ex rfl (ex_bin (a := .int .i64 z109.2) (b := .int .i64 0) (v := .bool (z109.2 == 0)) rfl rfl bin_eql) ?_
  refine WL.ex rfl (ex_move (v := .bool (z109.2 == 0)) rfl) ?_
  rcases condE H with ⟨c165, H⟩ | ⟨c165, H⟩
  ·
    refine WL.guardYes rfl rfl rfl ((show _ = Value.bool (z109.2 == 0) from rfl).trans (congrArg Value.bool c165)) ?_
    refine OW.ex rfl (ex_loadAV (xs := z109.1) rfl Tryd.underlying24 sz24 hl113 hB121) ?_
    refine WL.guardYes rfl rfl rfl ((show _ = Value.bool (z109.2 == 0) from rfl).trans (congrArg Value.bool c165)) ?_
    obtain ⟨z166, hz166, H⟩ := bindE H
    refine OW.call [.agg (List.map enc64 z109.1).toArray] rfl Tryd.func8 (by kernel_rfl) (by kernel_rfl) (map_cons' rfl rfl) (bits_Text.calls k _ _ z109.1 z166 (HF.ten (V := [0]) (L := []) rfl) hl113 (Gl.vw (V := [0]) (L := []) hG rfl) hz166) ?_
    rintro _ w167 ⟨o168, rfl, s169⟩
    refine ⟨_, rfl, ?_⟩
    replace s169 := un_stepL (J := []) (L' := []) s169 rfl rfl
    replace hG := hG.step s169 rfl
    replace hO105 := hO105.step s169 rfl rfl
    replace hB121 := hB121.step s169 rfl
    replace hB138 := hB138.step s169 rfl
    replace hB151 := hB151.step s169 rfl
    replace hB164 := hB164.step s169 rfl
    replace HF := HF.step s169 rfl
    refine WL.guardYes rfl rfl rfl ((show _ = Value.bool (z109.2 == 0) from rfl).trans (congrArg Value.bool c165)) ?_
    refine OW.ex rfl (ex_bin (a := encS z166) (b := encS ([48, 45, 50, 44, 53, 44, 54, 52] : List UInt8)) (v := .bool (z166 == ([48, 45, 50, 44, 53, 44, 54, 52] : List UInt8))) rfl rfl bin_eql_str) ?_
    refine WL.ex rfl (ex_pick_t (v := .bool (z166 == ([48, 45, 50, 44, 53, 44, 54, 52] : List UInt8))) ((show _ = Value.bool (z109.2 == 0) from rfl).trans (congrArg Value.bool c165)) rfl) ?_
    refine WL.ex rfl (ex_move (v := .bool (z166 == ([48, 45, 50, 44, 53, 44, 54, 52] : List UInt8))) rfl) ?_
    rcases condE H with ⟨c170, H⟩ | ⟨c170, H⟩
    ·
      refine WL.guardYes rfl rfl rfl ((show _ = Value.bool (z166 == ([48, 45, 50, 44, 53, 44, 54, 52] : List UInt8)) from rfl).trans (congrArg Value.bool c170)) ?_
      refine OW.ex rfl (ex_move (v := .int .i64 z122.1) rfl) ?_
      refine WL.guardYes rfl rfl rfl ((show _ = Value.bool (z166 == ([48, 45, 50, 44, 53, 44, 54, 52] : List UInt8)) from rfl).trans (congrArg Value.bool c170)) ?_
      refine OW.ex rfl (ex_bin (a := .int .i64 z122.1) (b := .int .i64 64) (v := .bool (z122.1 == 64)) rfl rfl bin_eql) ?_
      refine WL.ex rfl (ex_pick_t (v := .bool (z122.1 == 64)) ((show _ = Value.bool (z166 == ([48, 45, 50, 44, 53, 44, 54, 52] : List UInt8)) from rfl).trans (congrArg Value.bool c170)) rfl) ?_
      refine WL.ex rfl (ex_move (v := .bool (z122.1 == 64)) rfl) ?_
      rcases condE H with ⟨c171, H⟩ | ⟨c171, H⟩
      ·
        refine WL.guardYes rfl rfl rfl ((show _ = Value.bool (z122.1 == 64) from rfl).trans (congrArg Value.bool c171)) ?_
        refine OW.ex rfl (ex_move (v := .bool z122.2) rfl) ?_
        refine WL.ex rfl (ex_pick_t (v := .bool z122.2) ((show _ = Value.bool (z122.1 == 64) from rfl).trans (congrArg Value.bool c171)) rfl) ?_
        refine WL.ex rfl (ex_move (v := .bool z122.2) rfl) ?_
        rcases condE H with ⟨c172, H⟩ | ⟨c172, H⟩
        ·
          refine WL.guardYes rfl rfl rfl ((show _ = Value.bool z122.2 from rfl).trans (congrArg Value.bool c172)) ?_
          refine OW.ex rfl (ex_loadAV (xs := z126.1) rfl Tryd.underlying24 sz24 hl130 hB138) ?_
          refine WL.guardYes rfl rfl rfl ((show _ = Value.bool z122.2 from rfl).trans (congrArg Value.bool c172)) ?_
          refine OW.ex rfl (ex_loadAV (xs := z109.1) rfl Tryd.underlying24 sz24 hl113 hB121) ?_
          refine WL.guardYes rfl rfl rfl ((show _ = Value.bool z122.2 from rfl).trans (congrArg Value.bool c172)) ?_
          refine OW.ex rfl (ex_bin (a := .agg (List.map enc64 z126.1).toArray) (b := .agg (List.map enc64 z109.1).toArray) (v := .bool (z126.1 == z109.1)) rfl rfl (bin_eql_agg (by kernel_rfl) (EqR.arr Tryd.underlying24 sz22 Tryd.underlying22 rfl hl130 hl113 (fun _ _ => EqR.u64 Tryd.underlying22)))) ?_
          refine WL.ex rfl (ex_pick_t (v := .bool (z126.1 == z109.1)) ((show _ = Value.bool z122.2 from rfl).trans (congrArg Value.bool c172)) rfl) ?_
          refine WL.ex rfl (ex_move (v := .bool (z126.1 == z109.1)) rfl) ?_
          rcases condE H with ⟨c173, H⟩ | ⟨c173, H⟩
          ·
            refine WL.guardYes rfl rfl rfl ((show _ = Value.bool (z126.1 == z109.1) from rfl).trans (congrArg Value.bool c173)) ?_
            refine OW.ex rfl (ex_move (v := .int .i64 z126.2) rfl) ?_
            refine WL.guardYes rfl rfl rfl ((show _ = Value.bool (z126.1 == z109.1) from rfl).trans (congrArg Value.bool c173)) ?_
            refine OW.ex rfl (ex_bin (a := .int .i64 z126.2) (b := .int .i64 0) (v := .bool (z126.2 == 0)) rfl rfl bin_eql) ?_
            refine WL.ex rfl (ex_pick_t (v := .bool (z126.2 == 0)) ((show _ = Value.bool (z126.1 == z109.1) from rfl).trans (congrArg Value.bool c173)) rfl) ?_
            refine WL.ex rfl (ex_move (v := .bool (z126.2 == 0)) rfl) ?_
            rcases condE H with ⟨c174, H⟩ | ⟨c174, H⟩
            ·
              refine WL.guardYes rfl rfl rfl ((show _ = Value.bool (z126.2 == 0) from rfl).trans (congrArg Value.bool c174)) ?_
              refine OW.ex rfl (ex_move (v := .int .i64 z139.2) rfl) ?_
              refine WL.guardYes rfl rfl rfl ((show _ = Value.bool (z126.2 == 0) from rfl).trans (congrArg Value.bool c174)) ?_
              refine OW.ex rfl (ex_bin (a := .int .i64 z139.2) (b := .int .i64 50) (v := .bool (z139.2 == 50)) rfl rfl bin_eql) ?_
              refine WL.ex rfl (ex_pick_t (v := .bool (z139.2 == 50)) ((show _ = Value.bool (z126.2 == 0) from rfl).trans (congrArg Value.bool c174)) rfl) ?_
              refine WL.ex rfl (ex_move (v := .bool (z139.2 == 50)) rfl) ?_
              rcases condE H with ⟨c175, H⟩ | ⟨c175, H⟩
              ·
                refine WL.guardYes rfl rfl rfl ((show _ = Value.bool (z139.2 == 50) from rfl).trans (congrArg Value.bool c175)) ?_
                refine OW.ex rfl (ex_loadAV (xs := z152.1) rfl Tryd.underlying24 sz24 hl156 hB164) ?_
                refine WL.guardYes rfl rfl rfl ((show _ = Value.bool (z139.2 == 50) from rfl).trans (congrArg Value.bool c175)) ?_
                refine OW.ex rfl (ex_buildArr (cs := List.map enc64 (List.replicate 16 ((0 : UInt64)))) [] [.int .u64 0, .int .u64 0, .int .u64 0, .int .u64 0, .int .u64 0, .int .u64 0, .int .u64 0, .int .u64 0, .int .u64 0, .int .u64 0, .int .u64 0, .int .u64 0, .int .u64 0, .int .u64 0, .int .u64 0, .int .u64 0] Tryd.underlying24 zr24 rfl sz22 rfl rfl) ?_
                refine WL.guardYes rfl rfl rfl ((show _ = Value.bool (z139.2 == 50) from rfl).trans (congrArg Value.bool c175)) ?_
                refine OW.ex rfl (ex_bin (a := .agg (List.map enc64 z152.1).toArray) (b := .agg (List.map enc64 (List.replicate 16 ((0 : UInt64)))).toArray) (v := .bool (z152.1 == (List.replicate 16 ((0 : UInt64))))) rfl rfl (bin_eql_agg (by kernel_rfl) (EqR.arr Tryd.underlying24 sz22 Tryd.underlying22 rfl hl156 rfl (fun _ _ => EqR.u64 Tryd.underlying22)))) ?_
                refine WL.ex rfl (ex_pick_t (v := .bool (z152.1 == (List.replicate 16 ((0 : UInt64))))) ((show _ = Value.bool (z139.2 == 50) from rfl).trans (congrArg Value.bool c175)) rfl) ?_
                refine WL.ex rfl (ex_move (v := .bool (z152.1 == (List.replicate 16 ((0 : UInt64))))) rfl) ?_
                rcases condE H with ⟨c176, H⟩ | ⟨c176, H⟩
                ·
                  refine WL.guardYes rfl rfl rfl ((show _ = Value.bool (z152.1 == (List.replicate 16 ((0 : UInt64)))) from rfl).trans (congrArg Value.bool c176)) ?_
                  refine OW.ex rfl (ex_move (v := .int .i64 z152.2) rfl) ?_
                  refine WL.guardYes rfl rfl rfl ((show _ = Value.bool (z152.1 == (List.replicate 16 ((0 : UInt64)))) from rfl).trans (congrArg Value.bool c176)) ?_
                  refine OW.ex rfl (ex_bin (a := .int .i64 z152.2) (b := .int .i64 50) (v := .bool (z152.2 == 50)) rfl rfl bin_eql) ?_
                  refine WL.ex rfl (ex_pick_t (v := .bool (z152.2 == 50)) ((show _ = Value.bool (z152.1 == (List.replicate 16 ((0 : UInt64)))) from rfl).trans (congrArg Value.bool c176)) rfl) ?_
                  refine WL.ex rfl (ex_move (v := .bool (z152.2 == 50)) rfl) ?_
                  rcases condE H with ⟨c177, H⟩ | ⟨c177, H⟩
                  ·
                    refine WL.guardYes rfl rfl rfl ((show _ = Value.bool (z152.2 == 50) from rfl).trans (congrArg Value.bool c177)) ?_
                    refine OW.ex rfl (ex_loadAV (xs := z109.1) rfl Tryd.underlying24 sz24 hl113 hB121) ?_
                    refine WL.guardYes rfl rfl rfl ((show _ = Value.bool (z152.2 == 50) from rfl).trans (congrArg Value.bool c177)) ?_
                    obtain ⟨z178, hz178, H⟩ := bindE H
                    refine OW.call [.agg (List.map enc64 z109.1).toArray] rfl Tryd.func23 (by kernel_rfl) (by kernel_rfl) (map_cons' rfl rfl) (bits_Count.calls k _ _ z109.1 z178 (HF.ten (V := [0]) (L := []) rfl) hl113 hz178) ?_
                    rintro _ w179 ⟨o180, rfl, s181⟩
                    refine ⟨_, rfl, ?_⟩
                    replace s181 := un_stepL (J := []) (L' := []) s181 rfl rfl
                    replace hG := hG.step s181 rfl
                    replace hO105 := hO105.step s181 rfl rfl
                    replace hB121 := hB121.step s181 rfl
                    replace hB138 := hB138.step s181 rfl
                    replace hB151 := hB151.step s181 rfl
                    replace hB164 := hB164.step s181 rfl
                    replace HF := HF.step s181 rfl
                    refine WL.guardYes rfl rfl rfl ((show _ = Value.bool (z152.2 == 50) from rfl).trans (congrArg Value.bool c177)) ?_
                    refine OW.ex rfl (ex_bin (a := .int .i64 z178) (b := .int .i64 5) (v := .bool (z178 == 5)) rfl rfl bin_eql) ?_
                    refine WL.ex rfl (ex_pick_t (v := .bool (z178 == 5)) ((show _ = Value.bool (z152.2 == 50) from rfl).trans (congrArg Value.bool c177)) rfl) ?_
                    refine WL.ex rfl (ex_move (v := .bool (z178 == 5)) rfl) ?_
                    rcases condE H with ⟨c182, H⟩ | ⟨c182, H⟩
                    ·
                      refine WL.guardYes rfl rfl rfl ((show _ = Value.bool (z178 == 5) from rfl).trans (congrArg Value.bool c182)) ?_
                      refine OW.ex rfl (ex_loadAV (xs := z109.1) rfl Tryd.underlying24 sz24 hl113 hB121) ?_
                      refine WL.guardYes rfl rfl rfl ((show _ = Value.bool (z178 == 5) from rfl).trans (congrArg Value.bool c182)) ?_
                      obtain ⟨z183, hz183, H⟩ := bindE H
                      refine OW.call [.agg (List.map enc64 z109.1).toArray, .int .i64 64] rfl Tryd.func32 (by kernel_rfl) (by kernel_rfl) (map_cons' rfl (map_cons' rfl rfl)) (bits_Has.calls _ _ z109.1 64 z183 (HF.ten (V := [0]) (L := []) rfl) hl113 hz183) ?_
                      rintro _ w184 ⟨o185, rfl, s186⟩
                      refine ⟨_, rfl, ?_⟩
                      replace s186 := un_stepL (J := []) (L' := []) s186 rfl rfl
                      replace hG := hG.step s186 rfl
                      replace hO105 := hO105.step s186 rfl rfl
                      replace hB121 := hB121.step s186 rfl
                      replace hB138 := hB138.step s186 rfl
                      replace hB151 := hB151.step s186 rfl
                      replace hB164 := hB164.step s186 rfl
                      replace HF := HF.step s186 rfl
                      refine WL.ex rfl (ex_pick_t (v := .bool z183) ((show _ = Value.bool (z178 == 5) from rfl).trans (congrArg Value.bool c182)) rfl) ?_
                      refine WL.ex rfl (ex_move (v := .bool z183) rfl) ?_
                      rcases condE H with ⟨c187, H⟩ | ⟨c187, H⟩
                      ·
                        refine WL.guardYes rfl rfl rfl ((show _ = Value.bool z183 from rfl).trans (congrArg Value.bool c187)) ?_
                        refine OW.ex rfl (ex_loadAV (xs := z109.1) rfl Tryd.underlying24 sz24 hl113 hB121) ?_
                        refine WL.guardYes rfl rfl rfl ((show _ = Value.bool z183 from rfl).trans (congrArg Value.bool c187)) ?_
                        refine OW.ex rfl (ex_loadAV (xs := z152.1) rfl Tryd.underlying24 sz24 hl156 hB164) ?_
                        refine WL.guardYes rfl rfl rfl ((show _ = Value.bool z183 from rfl).trans (congrArg Value.bool c187)) ?_
                        obtain ⟨z188, hz188, H⟩ := bindE H
                        refine OW.call [.agg (List.map enc64 z109.1).toArray, .agg (List.map enc64 z152.1).toArray] rfl Tryd.func25 (by kernel_rfl) (by kernel_rfl) (map_cons' rfl (map_cons' rfl rfl)) (bits_Compare.calls k _ _ z109.1 z152.1 z188 (HF.ten (V := [0]) (L := []) rfl) hl113 hl156 (Gl.vw (V := [0]) (L := []) hG rfl) hz188) ?_
                        rintro _ w189 ⟨o190, rfl, s191⟩
                        refine ⟨_, rfl, ?_⟩
                        replace s191 := un_stepL (J := []) (L' := []) s191 rfl rfl
                        replace hG := hG.step s191 rfl
                        replace hO105 := hO105.step s191 rfl rfl
                        replace hB121 := hB121.step s191 rfl
                        replace hB138 := hB138.step s191 rfl
                        replace hB151 := hB151.step s191 rfl
                        replace hB164 := hB164.step s191 rfl
                        replace HF := HF.step s191 rfl
                        refine WL.guardYes rfl rfl rfl ((show _ = Value.bool z183 from rfl).trans (congrArg Value.bool c187)) ?_
                        refine OW.ex rfl (ex_bin (a := .int .i64 z188) (b := .int .i64 (-1)) (v := .bool (z188 == (-1))) rfl rfl bin_eql) ?_
                        refine WL.ex rfl (ex_pick_t (v := .bool (z188 == (-1))) ((show _ = Value.bool z183 from rfl).trans (congrArg Value.bool c187)) rfl) ?_
                        refine WL.ex rfl (ex_assign (v := .bool (z188 == (-1))) rfl) ?_
                        refine WL.nil ?_
                        refine WC.ret ?_
                        obtain rfl := Option.some.inj H
                        exact ⟨_, (.tmp (.bool (z188 == (-1)) : Value) rfl .nil), _, rfl, HF.out⟩
                      ·
                        refine WL.guardNo rfl rfl rfl ((show _ = Value.bool z183 from rfl).trans (congrArg Value.bool c187)) ?_
                        refine WL.guardNo rfl rfl rfl ((show _ = Value.bool z183 from rfl).trans (congrArg Value.bool c187)) ?_
                        refine WL.guardNo rfl rfl rfl ((show _ = Value.bool z183 from rfl).trans (congrArg Value.bool c187)) ?_
                        refine WL.guardNo rfl rfl rfl ((show _ = Value.bool z183 from rfl).trans (congrArg Value.bool c187)) ?_
                        refine WL.ex rfl (ex_pick_f (v := .bool false) ((show _ = Value.bool z183 from rfl).trans (congrArg Value.bool c187)) rfl) ?_
                        refine WL.ex rfl (ex_assign (v := .bool false) rfl) ?_
                        refine WL.nil ?_
                        refine WC.ret ?_
                        obtain rfl := Option.some.inj H
                        exact ⟨_, (.tmp (.bool false : Value) rfl .nil), _, rfl, HF.out⟩
                    ·
                      refine WL.guardNo rfl rfl rfl ((show _ = Value.bool (z178 == 5) from rfl).trans (congrArg Value.bool c182)) ?_
                      refine WL.guardNo rfl rfl rfl ((show _ = Value.bool (z178 == 5) from rfl).trans (congrArg Value.bool c182)) ?_
                      refine WL.ex rfl (ex_pick_f (v := .bool false) ((show _ = Value.bool (z178 == 5) from rfl).trans (congrArg Value.bool c182)) rfl) ?_
                      refine WL.ex rfl (ex_move (v := .bool false) rfl) ?_
                      refine WL.guardNo rfl rfl rfl rfl ?_
                      refine WL.guardNo rfl rfl rfl rfl ?_
                      refine WL.guardNo rfl rfl rfl rfl ?_
                      refine WL.guardNo rfl rfl rfl rfl ?_
                      refine WL.ex rfl (ex_pick_f (v := .bool false) rfl rfl) ?_
                      refine WL.ex rfl (ex_assign (v := .bool false) rfl) ?_
                      refine WL.nil ?_
                      refine WC.ret ?_
                      obtain rfl := Option.some.inj H
                      exact ⟨_, (.tmp (.bool false : Value) rfl .nil), _, rfl, HF.out⟩
                  ·
                    refine WL.guardNo rfl rfl rfl ((show _ = Value.bool (z152.2 == 50) from rfl).trans (congrArg Value.bool c177)) ?_
                    refine WL.guardNo rfl rfl rfl ((show _ = Value.bool (z152.2 == 50) from rfl).trans (congrArg Value.bool c177)) ?_
                    refine WL.guardNo rfl rfl rfl ((show _ = Value.bool (z152.2 == 50) from rfl).trans (congrArg Value.bool c177)) ?_
                    refine WL.ex rfl (ex_pick_f (v := .bool false) ((show _ = Value.bool (z152.2 == 50) from rfl).trans (congrArg Value.bool c177)) rfl) ?_
                    refine WL.ex rfl (ex_move (v := .bool false) rfl) ?_
                    refine WL.guardNo rfl rfl rfl rfl ?_
                    refine WL.guardNo rfl rfl rfl rfl ?_
                    refine WL.ex rfl (ex_pick_f (v := .bool false) rfl rfl) ?_
                    refine WL.ex rfl (ex_move (v := .bool false) rfl) ?_
                    refine WL.guardNo rfl rfl rfl rfl ?_
                    refine WL.guardNo rfl rfl rfl rfl ?_
                    refine WL.guardNo rfl rfl rfl rfl ?_
                    refine WL.guardNo rfl rfl rfl rfl ?_
                    refine WL.ex rfl (ex_pick_f (v := .bool false) rfl rfl) ?_
                    refine WL.ex rfl (ex_assign (v := .bool false) rfl) ?_
                    refine WL.nil ?_
                    refine WC.ret ?_
                    obtain rfl := Option.some.inj H
                    exact ⟨_, (.tmp (.bool false : Value) rfl .nil), _, rfl, HF.out⟩
                ·
                  refine WL.guardNo rfl rfl rfl ((show _ = Value.bool (z152.1 == (List.replicate 16 ((0 : UInt64)))) from rfl).trans (congrArg Value.bool c176)) ?_
                  refine WL.guardNo rfl rfl rfl ((show _ = Value.bool (z152.1 == (List.replicate 16 ((0 : UInt64)))) from rfl).trans (congrArg Value.bool c176)) ?_
                  refine WL.ex rfl (ex_pick_f (v := .bool false) ((show _ = Value.bool (z152.1 == (List.replicate 16 ((0 : UInt64)))) from rfl).trans (congrArg Value.bool c176)) rfl) ?_
                  refine WL.ex rfl (ex_move (v := .bool false) rfl) ?_
                  refine WL.guardNo rfl rfl rfl rfl ?_
                  refine WL.guardNo rfl rfl rfl rfl ?_
                  refine WL.guardNo rfl rfl rfl rfl ?_
                  refine WL.ex rfl (ex_pick_f (v := .bool false) rfl rfl) ?_
                  refine WL.ex rfl (ex_move (v := .bool false) rfl) ?_
                  refine WL.guardNo rfl rfl rfl rfl ?_
                  refine WL.guardNo rfl rfl rfl rfl ?_
                  refine WL.ex rfl (ex_pick_f (v := .bool false) rfl rfl) ?_
                  refine WL.ex rfl (ex_move (v := .bool false) rfl) ?_
                  refine WL.guardNo rfl rfl rfl rfl ?_
                  refine WL.guardNo rfl rfl rfl rfl ?_
                  refine WL.guardNo rfl rfl rfl rfl ?_
                  refine WL.guardNo rfl rfl rfl rfl ?_
                  refine WL.ex rfl (ex_pick_f (v := .bool false) rfl rfl) ?_
                  refine WL.ex rfl (ex_assign (v := .bool false) rfl) ?_
                  refine WL.nil ?_
                  refine WC.ret ?_
                  obtain rfl := Option.some.inj H
                  exact ⟨_, (.tmp (.bool false : Value) rfl .nil), _, rfl, HF.out⟩
              ·
                refine WL.guardNo rfl rfl rfl ((show _ = Value.bool (z139.2 == 50) from rfl).trans (congrArg Value.bool c175)) ?_
                refine WL.guardNo rfl rfl rfl ((show _ = Value.bool (z139.2 == 50) from rfl).trans (congrArg Value.bool c175)) ?_
                refine WL.guardNo rfl rfl rfl ((show _ = Value.bool (z139.2 == 50) from rfl).trans (congrArg Value.bool c175)) ?_
                refine WL.ex rfl (ex_pick_f (v := .bool false) ((show _ = Value.bool (z139.2 == 50) from rfl).trans (congrArg Value.bool c175)) rfl) ?_
                refine WL.ex rfl (ex_move (v := .bool false) rfl) ?_
                refine WL.guardNo rfl rfl rfl rfl ?_
                refine WL.guardNo rfl rfl rfl rfl ?_
                refine WL.ex rfl (ex_pick_f (v := .bool false) rfl rfl) ?_
                refine WL.ex rfl (ex_move (v := .bool false) rfl) ?_
                refine WL.guardNo rfl rfl rfl rfl ?_
                refine WL.guardNo rfl rfl rfl rfl ?_
                refine WL.guardNo rfl rfl rfl rfl ?_
                refine WL.ex rfl (ex_pick_f (v := .bool false) rfl rfl) ?_
                refine WL.ex rfl (ex_move (v := .bool false) rfl) ?_
                refine WL.guardNo rfl rfl rfl rfl ?_
                refine WL.guardNo rfl rfl rfl rfl ?_
                refine WL.ex rfl (ex_pick_f (v := .bool false) rfl rfl) ?_
                refine WL.ex rfl (ex_move (v := .bool false) rfl) ?_
                refine WL.guardNo rfl rfl rfl rfl ?_
                refine WL.guardNo rfl rfl rfl rfl ?_
                refine WL.guardNo rfl rfl rfl rfl ?_
                refine WL.guardNo rfl rfl rfl rfl ?_
                refine WL.ex rfl (ex_pick_f (v := .bool false) rfl rfl) ?_
                refine WL.ex rfl (ex_assign (v := .bool false) rfl) ?_
                refine WL.nil ?_
                refine WC.ret ?_
                obtain rfl := Option.some.inj H
                exact ⟨_, (.tmp (.bool false : Value) rfl .nil), _, rfl, HF.out⟩
            ·
              refine WL.guardNo rfl rfl rfl ((show _ = Value.bool (z126.2 == 0) from rfl).trans (congrArg Value.bool c174)) ?_
              refine WL.guardNo rfl rfl rfl ((show _ = Value.bool (z126.2 == 0) from rfl).trans (congrArg Value.bool c174)) ?_
              refine WL.ex rfl (ex_pick_f (v := .bool false) ((show _ = Value.bool (z126.2 == 0) from rfl).trans (congrArg Value.bool c174)) rfl) ?_
              refine WL.ex rfl (ex_move (v := .bool false) rfl) ?_
              refine WL.guardNo rfl rfl rfl rfl ?_
              refine WL.guardNo rfl rfl rfl rfl ?_
              refine WL.guardNo rfl rfl rfl rfl ?_
              refine WL.ex rfl (ex_pick_f (v := .bool false) rfl rfl) ?_
              refine WL.ex rfl (ex_move (v := .bool false) rfl) ?_
              refine WL.guardNo rfl rfl rfl rfl ?_
              refine WL.guardNo rfl rfl rfl rfl ?_
              refine WL.ex rfl (ex_pick_f (v := .bool false) rfl rfl) ?_
              refine WL.ex rfl (ex_move (v := .bool false) rfl) ?_
              refine WL.guardNo rfl rfl rfl rfl ?_
              refine WL.guardNo rfl rfl rfl rfl ?_
              refine WL.guardNo rfl rfl rfl rfl ?_
              refine WL.ex rfl (ex_pick_f (v := .bool false) rfl rfl) ?_
              refine WL.ex rfl (ex_move (v := .bool false) rfl) ?_
              refine WL.guardNo rfl rfl rfl rfl ?_
              refine WL.guardNo rfl rfl rfl rfl ?_
              refine WL.ex rfl (ex_pick_f (v := .bool false) rfl rfl) ?_
              refine WL.ex rfl (ex_move (v := .bool false) rfl) ?_
              refine WL.guardNo rfl rfl rfl rfl ?_
              refine WL.guardNo rfl rfl rfl rfl ?_
              refine WL.guardNo rfl rfl rfl rfl ?_
              refine WL.guardNo rfl rfl rfl rfl ?_
              refine WL.ex rfl (ex_pick_f (v := .bool false) rfl rfl) ?_
              refine WL.ex rfl (ex_assign (v := .bool false) rfl) ?_
              refine WL.nil ?_
              refine WC.ret ?_
              obtain rfl := Option.some.inj H
              exact ⟨_, (.tmp (.bool false : Value) rfl .nil), _, rfl, HF.out⟩
          ·
            refine WL.guardNo rfl rfl rfl ((show _ = Value.bool (z126.1 == z109.1) from rfl).trans (congrArg Value.bool c173)) ?_
            refine WL.guardNo rfl rfl rfl ((show _ = Value.bool (z126.1 == z109.1) from rfl).trans (congrArg Value.bool c173)) ?_
            refine WL.ex rfl (ex_pick_f (v := .bool false) ((show _ = Value.bool (z126.1 == z109.1) from rfl).trans (congrArg Value.bool c173)) rfl) ?_
            refine WL.ex rfl (ex_move (v := .bool false) rfl) ?_
            refine WL.guardNo rfl rfl rfl rfl ?_
            refine WL.guardNo rfl rfl rfl rfl ?_
            refine WL.ex rfl (ex_pick_f (v := .bool false) rfl rfl) ?_
            refine WL.ex rfl (ex_move (v := .bool false) rfl) ?_
            refine WL.guardNo rfl rfl rfl rfl ?_
            refine WL.guardNo rfl rfl rfl rfl ?_
            refine WL.guardNo rfl rfl rfl rfl ?_
            refine WL.ex rfl (ex_pick_f (v := .bool false) rfl rfl) ?_
            refine WL.ex rfl (ex_move (v := .bool false) rfl) ?_
            refine WL.guardNo rfl rfl rfl rfl ?_
            refine WL.guardNo rfl rfl rfl rfl ?_
            refine WL.ex rfl (ex_pick_f (v := .bool false) rfl rfl) ?_
            refine WL.ex rfl (ex_move (v := .bool false) rfl) ?_
            refine WL.guardNo rfl rfl rfl rfl ?_
            refine WL.guardNo rfl rfl rfl rfl ?_
            refine WL.guardNo rfl rfl rfl rfl ?_
            refine WL.ex rfl (ex_pick_f (v := .bool false) rfl rfl) ?_
            refine WL.ex rfl (ex_move (v := .bool false) rfl) ?_
            refine WL.guardNo rfl rfl rfl rfl ?_
            refine WL.guardNo rfl rfl rfl rfl ?_
            refine WL.ex rfl (ex_pick_f (v := .bool false) rfl rfl) ?_
            refine WL.ex rfl (ex_move (v := .bool false) rfl) ?_
            refine WL.guardNo rfl rfl rfl rfl ?_
            refine WL.guardNo rfl rfl rfl rfl ?_
            refine WL.guardNo rfl rfl rfl rfl ?_
            refine WL.guardNo rfl rfl rfl rfl ?_
            refine WL.ex rfl (ex_pick_f (v := .bool false) rfl rfl) ?_
            refine WL.ex rfl (ex_assign (v := .bool false) rfl) ?_
            refine WL.nil ?_
            refine WC.ret ?_
            obtain rfl := Option.some.inj H
            exact ⟨_, (.tmp (.bool false : Value) rfl .nil), _, rfl, HF.out⟩
        ·
          refine WL.guardNo rfl rfl rfl ((show _ = Value.bool z122.2 from rfl).trans (congrArg Value.bool c172)) ?_
          refine WL.guardNo rfl rfl rfl ((show _ = Value.bool z122.2 from rfl).trans (congrArg Value.bool c172)) ?_
          refine WL.guardNo rfl rfl rfl ((show _ = Value.bool z122.2 from rfl).trans (congrArg Value.bool c172)) ?_
          refine WL.ex rfl (ex_pick_f (v := .bool false) ((show _ = Value.bool z122.2 from rfl).trans (congrArg Value.bool c172)) rfl) ?_
          refine WL.ex rfl (ex_move (v := .bool false) rfl) ?_
          refine WL.guardNo rfl rfl rfl rfl ?_
          refine WL.guardNo rfl rfl rfl rfl ?_
          refine WL.ex rfl (ex_pick_f (v := .bool false) rfl rfl) ?_
          refine WL.ex rfl (ex_move (v := .bool false) rfl) ?_
          refine WL.guardNo rfl rfl rfl rfl ?_
          refine WL.guardNo rfl rfl rfl rfl ?_
          refine WL.ex rfl (ex_pick_f (v := .bool false) rfl rfl) ?_
          refine WL.ex rfl (ex_move (v := .bool false) rfl) ?_
          refine WL.guardNo rfl rfl rfl rfl ?_
          refine WL.guardNo rfl rfl rfl rfl ?_
          refine WL.guardNo rfl rfl rfl rfl ?_
          refine WL.ex rfl (ex_pick_f (v := .bool false) rfl rfl) ?_
          refine WL.ex rfl (ex_move (v := .bool false) rfl) ?_
          refine WL.guardNo rfl rfl rfl rfl ?_
          refine WL.guardNo rfl rfl rfl rfl ?_
          refine WL.ex rfl (ex_pick_f (v := .bool false) rfl rfl) ?_
          refine WL.ex rfl (ex_move (v := .bool false) rfl) ?_
          refine WL.guardNo rfl rfl rfl rfl ?_
          refine WL.guardNo rfl rfl rfl rfl ?_
          refine WL.guardNo rfl rfl rfl rfl ?_
          refine WL.ex rfl (ex_pick_f (v := .bool false) rfl rfl) ?_
          refine WL.ex rfl (ex_move (v := .bool false) rfl) ?_
          refine WL.guardNo rfl rfl rfl rfl ?_
          refine WL.guardNo rfl rfl rfl rfl ?_
          refine WL.ex rfl (ex_pick_f (v := .bool false) rfl rfl) ?_
          refine WL.ex rfl (ex_move (v := .bool false) rfl) ?_
          refine WL.guardNo rfl rfl rfl rfl ?_
          refine WL.guardNo rfl rfl rfl rfl ?_
          refine WL.guardNo rfl rfl rfl rfl ?_
          refine WL.guardNo rfl rfl rfl rfl ?_
          refine WL.ex rfl (ex_pick_f (v := .bool false) rfl rfl) ?_
          refine WL.ex rfl (ex_assign (v := .bool false) rfl) ?_
          refine WL.nil ?_
          refine WC.ret ?_
          obtain rfl := Option.some.inj H
          exact ⟨_, (.tmp (.bool false : Value) rfl .nil), _, rfl, HF.out⟩
      ·
        refine WL.guardNo rfl rfl rfl ((show _ = Value.bool (z122.1 == 64) from rfl).trans (congrArg Value.bool c171)) ?_
        refine WL.ex rfl (ex_pick_f (v := .bool false) ((show _ = Value.bool (z122.1 == 64) from rfl).trans (congrArg Value.bool c171)) rfl) ?_
        refine WL.ex rfl (ex_move (v := .bool false) rfl) ?_
        refine WL.guardNo rfl rfl rfl rfl ?_
        refine WL.guardNo rfl rfl rfl rfl ?_
        refine WL.guardNo rfl rfl rfl rfl ?_
        refine WL.ex rfl (ex_pick_f (v := .bool false) rfl rfl) ?_
        refine WL.ex rfl (ex_move (v := .bool false) rfl) ?_
        refine WL.guardNo rfl rfl rfl rfl ?_
        refine WL.guardNo rfl rfl rfl rfl ?_
        refine WL.ex rfl (ex_pick_f (v := .bool false) rfl rfl) ?_
        refine WL.ex rfl (ex_move (v := .bool false) rfl) ?_
        refine WL.guardNo rfl rfl rfl rfl ?_
        refine WL.guardNo rfl rfl rfl rfl ?_
        refine WL.ex rfl (ex_pick_f (v := .bool false) rfl rfl) ?_
        refine WL.ex rfl (ex_move (v := .bool false) rfl) ?_
        refine WL.guardNo rfl rfl rfl rfl ?_
        refine WL.guardNo rfl rfl rfl rfl ?_
        refine WL.guardNo rfl rfl rfl rfl ?_
        refine WL.ex rfl (ex_pick_f (v := .bool false) rfl rfl) ?_
        refine WL.ex rfl (ex_move (v := .bool false) rfl) ?_
        refine WL.guardNo rfl rfl rfl rfl ?_
        refine WL.guardNo rfl rfl rfl rfl ?_
        refine WL.ex rfl (ex_pick_f (v := .bool false) rfl rfl) ?_
        refine WL.ex rfl (ex_move (v := .bool false) rfl) ?_
        refine WL.guardNo rfl rfl rfl rfl ?_
        refine WL.guardNo rfl rfl rfl rfl ?_
        refine WL.guardNo rfl rfl rfl rfl ?_
        refine WL.ex rfl (ex_pick_f (v := .bool false) rfl rfl) ?_
        refine WL.ex rfl (ex_move (v := .bool false) rfl) ?_
        refine WL.guardNo rfl rfl rfl rfl ?_
        refine WL.guardNo rfl rfl rfl rfl ?_
        refine WL.ex rfl (ex_pick_f (v := .bool false) rfl rfl) ?_
        refine WL.ex rfl (ex_move (v := .bool false) rfl) ?_
        refine WL.guardNo rfl rfl rfl rfl ?_
        refine WL.guardNo rfl rfl rfl rfl ?_
        refine WL.guardNo rfl rfl rfl rfl ?_
        refine WL.guardNo rfl rfl rfl rfl ?_
        refine WL.ex rfl (ex_pick_f (v := .bool false) rfl rfl) ?_
        refine WL.ex rfl (ex_assign (v := .bool false) rfl) ?_
        refine WL.nil ?_
        refine WC.ret ?_
        obtain rfl := Option.some.inj H
        exact ⟨_, (.tmp (.bool false : Value) rfl .nil), _, rfl, HF.out⟩
    ·
      refine WL.guardNo rfl rfl rfl ((show _ = Value.bool (z166 == ([48, 45, 50, 44, 53, 44, 54, 52] : List UInt8)) from rfl).trans (congrArg Value.bool c170)) ?_
      refine WL.guardNo rfl rfl rfl ((show _ = Value.bool (z166 == ([48, 45, 50, 44, 53, 44, 54, 52] : List UInt8)) from rfl).trans (congrArg Value.bool c170)) ?_
      refine WL.ex rfl (ex_pick_f (v := .bool false) ((show _ = Value.bool (z166 == ([48, 45, 50, 44, 53, 44, 54, 52] : List UInt8)) from rfl).trans (congrArg Value.bool c170)) rfl) ?_
      refine WL.ex rfl (ex_move (v := .bool false) rfl) ?_
      refine WL.guardNo rfl rfl rfl rfl ?_
      refine WL.ex rfl (ex_pick_f (v := .bool false) rfl rfl) ?_
      refine WL.ex rfl (ex_move (v := .bool false) rfl) ?_
      refine WL.guardNo rfl rfl rfl rfl ?_
      refine WL.guardNo rfl rfl rfl rfl ?_
      refine WL.guardNo rfl rfl rfl rfl ?_
      refine WL.ex rfl (ex_pick_f (v := .bool false) rfl rfl) ?_
      refine WL.ex rfl (ex_move (v := .bool false) rfl) ?_
      refine WL.guardNo rfl rfl rfl rfl ?_
      refine WL.guardNo rfl rfl rfl rfl ?_
      refine WL.ex rfl (ex_pick_f (v := .bool false) rfl rfl) ?_
      refine WL.ex rfl (ex_move (v := .bool false) rfl) ?_
      refine WL.guardNo rfl rfl rfl rfl ?_
      refine WL.guardNo rfl rfl rfl rfl ?_
      refine WL.ex rfl (ex_pick_f (v := .bool false) rfl rfl) ?_
      refine WL.ex rfl (ex_move (v := .bool false) rfl) ?_
      refine WL.guardNo rfl rfl rfl rfl ?_
      refine WL.guardNo rfl rfl rfl rfl ?_
      refine WL.guardNo rfl rfl rfl rfl ?_
      refine WL.ex rfl (ex_pick_f (v := .bool false) rfl rfl) ?_
      refine WL.ex rfl (ex_move (v := .bool false) rfl) ?_
      refine WL.guardNo rfl rfl rfl rfl ?_
      refine WL.guardNo rfl rfl rfl rfl ?_
      refine WL.ex rfl (ex_pick_f (v := .bool false) rfl rfl) ?_
      refine WL.ex rfl (ex_move (v := .bool false) rfl) ?_
      refine WL.guardNo rfl rfl rfl rfl ?_
      refine WL.guardNo rfl rfl rfl rfl ?_
      refine WL.guardNo rfl rfl rfl rfl ?_
      refine WL.ex rfl (ex_pick_f (v := .bool false) rfl rfl) ?_
      refine WL.ex rfl (ex_move (v := .bool false) rfl) ?_
      refine WL.guardNo rfl rfl rfl rfl ?_
      refine WL.guardNo rfl rfl rfl rfl ?_
      refine WL.ex rfl (ex_pick_f (v := .bool false) rfl rfl) ?_
      refine WL.ex rfl (ex_move (v := .bool false) rfl) ?_
      refine WL.guardNo rfl rfl rfl rfl ?_
      refine WL.guardNo rfl rfl rfl rfl ?_
      refine WL.guardNo rfl rfl rfl rfl ?_
      refine WL.guardNo rfl rfl rfl rfl ?_
      refine WL.ex rfl (ex_pick_f (v := .bool false) rfl rfl) ?_
      refine WL.ex rfl (ex_assign (v := .bool false) rfl) ?_
      refine WL.nil ?_
      refine WC.ret ?_
      obtain rfl := Option.some.inj H
      exact ⟨_, (.tmp (.bool false : Value) rfl .nil), _, rfl, HF.out⟩
  ·
    refine WL.guardNo rfl rfl rfl ((show _ = Value.bool (z109.2 == 0) from rfl).trans (congrArg Value.bool c165)) ?_
    refine WL.guardNo rfl rfl rfl ((show _ = Value.bool (z109.2 == 0) from rfl).trans (congrArg Value.bool c165)) ?_
    refine WL.guardNo rfl rfl rfl ((show _ = Value.bool (z109.2 == 0) from rfl).trans (congrArg Value.bool c165)) ?_
    refine WL.ex rfl (ex_pick_f (v := .bool false) ((show _ = Value.bool (z109.2 == 0) from rfl).trans (congrArg Value.bool c165)) rfl) ?_
    refine WL.ex rfl (ex_move (v := .bool false) rfl) ?_
    refine WL.guardNo rfl rfl rfl rfl ?_
    refine WL.guardNo rfl rfl rfl rfl ?_
    refine WL.ex rfl (ex_pick_f (v := .bool false) rfl rfl) ?_
    refine WL.ex rfl (ex_move (v := .bool false) rfl) ?_
    refine WL.guardNo rfl rfl rfl rfl ?_
    refine WL.ex rfl (ex_pick_f (v := .bool false) rfl rfl) ?_
    refine WL.ex rfl (ex_move (v := .bool false) rfl) ?_
    refine WL.guardNo rfl rfl rfl rfl ?_
    refine WL.guardNo rfl rfl rfl rfl ?_
    refine WL.guardNo rfl rfl rfl rfl ?_
    refine WL.ex rfl (ex_pick_f (v := .bool false) rfl rfl) ?_
    refine WL.ex rfl (ex_move (v := .bool false) rfl) ?_
    refine WL.guardNo rfl rfl rfl rfl ?_
    refine WL.guardNo rfl rfl rfl rfl ?_
    refine WL.ex rfl (ex_pick_f (v := .bool false) rfl rfl) ?_
    refine WL.ex rfl (ex_move (v := .bool false) rfl) ?_
    refine WL.guardNo rfl rfl rfl rfl ?_
    refine WL.guardNo rfl rfl rfl rfl ?_
    refine WL.ex rfl (ex_pick_f (v := .bool false) rfl rfl) ?_
    refine WL.ex rfl (ex_move (v := .bool false) rfl) ?_
    refine WL.guardNo rfl rfl rfl rfl ?_
    refine WL.guardNo rfl rfl rfl rfl ?_
    refine WL.guardNo rfl rfl rfl rfl ?_
    refine WL.ex rfl (ex_pick_f (v := .bool false) rfl rfl) ?_
    refine WL.ex rfl (ex_move (v := .bool false) rfl) ?_
    refine WL.guardNo rfl rfl rfl rfl ?_
    refine WL.guardNo rfl rfl rfl rfl ?_
    refine WL.ex rfl (ex_pick_f (v := .bool false) rfl rfl) ?_
    refine WL.ex rfl (ex_move (v := .bool false) rfl) ?_
    refine WL.guardNo rfl rfl rfl rfl ?_
    refine WL.guardNo rfl rfl rfl rfl ?_
    refine WL.guardNo rfl rfl rfl rfl ?_
    refine WL.ex rfl (ex_pick_f (v := .bool false) rfl rfl) ?_
    refine WL.ex rfl (ex_move (v := .bool false) rfl) ?_
    refine WL.guardNo rfl rfl rfl rfl ?_
    refine WL.guardNo rfl rfl rfl rfl ?_
    refine WL.ex rfl (ex_pick_f (v := .bool false) rfl rfl) ?_
    refine WL.ex rfl (ex_move (v := .bool false) rfl) ?_
    refine WL.guardNo rfl rfl rfl rfl ?_
    refine WL.guardNo rfl rfl rfl rfl ?_
    refine WL.guardNo rfl rfl rfl rfl ?_
    refine WL.guardNo rfl rfl rfl rfl ?_
    refine WL.ex rfl (ex_pick_f (v := .bool false) rfl rfl) ?_
    refine WL.ex rfl (ex_assign (v := .bool false) rfl) ?_
    refine WL.nil ?_
    refine WC.ret ?_
    obtain rfl := Option.some.inj H
    exact ⟨_, (.tmp (.bool false : Value) rfl .nil), _, rfl, HF.out⟩
end Go.Proofs.YtfdocckaobmgeaaDoor.X
