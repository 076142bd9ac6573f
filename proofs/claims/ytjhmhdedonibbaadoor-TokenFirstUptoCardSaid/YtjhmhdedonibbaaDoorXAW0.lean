import Derived.Test.YtjhmhdedonibbaaDoorXAD
import Derived.Test.YtjhmhdedonibbaaDoorProg
import Derived.Test.YtjhmhdedonibbaaDoorSxQ
import Derived.Test.YtjhmhdedonibbaaDoorShelf
set_option maxRecDepth 20000
set_option linter.unusedVariables false
set_option linter.unusedSimpArgs false
set_option linter.unnecessarySimpa false
namespace Go.Proofs.YtjhmhdedonibbaaDoor.X
open Go Go.RowKit Go.Proofs.YtjhmhdedonibbaaDoor.SX
/-! What the program's variables hold -/
def GG : Glob := { L := [0, 1, 5, 3, 4], T := fun w => Lib.Utf8Tabs 0 1 w ∧ Lib.TabIs Tryd.prog w "internal/strconv.uint64pow10" .u64 Lib.pow10Tab ∧ (∃ tp p, w.var? Tryd.prog "strconv.ErrSyntax" = some #[.iface tp p]) ∧ (∃ tp p, w.var? Tryd.prog "strconv.ErrRange" = some #[.iface tp p]), move := fun {w w'} hk h => ⟨⟨fun c hc => by rw [cell_move (w := w) (hk 0 (by simp))]; exact h.1.1 c hc, fun i hi => ⟨by rw [cell_move (w := w) (hk 1 (by simp))]; exact (h.1.2 i hi).1, by rw [cell_move (w := w) (hk 1 (by simp))]; exact (h.1.2 i hi).2⟩⟩, (var_move (by kernel_rfl : Tryd.prog.globalNamed "internal/strconv.uint64pow10" = some 5) (hk 5 (by simp))).trans h.2.1, (by obtain ⟨tp, p, e⟩ := h.2.2.1; exact ⟨tp, p, (var_move (by kernel_rfl : Tryd.prog.globalNamed "strconv.ErrSyntax" = some 3) (hk 3 (by simp))).trans e⟩), (by obtain ⟨tp, p, e⟩ := h.2.2.2; exact ⟨tp, p, (var_move (by kernel_rfl : Tryd.prog.globalNamed "strconv.ErrRange" = some 4) (hk 4 (by simp))).trans e⟩)⟩ }

theorem inf9 : (Tryd.prog.info? 9).map (fun i => (i.zero, i.size, i.bytes)) = some (some (.string ⟨#[]⟩), 1, 16) := by kernel_rfl
theorem inf37 : (Tryd.prog.info? 37).map (fun i => (i.zero, i.size, i.bytes)) = some (some (.agg #[.int .i64 0, .string ⟨#[]⟩, .int .i64 0, .int .i64 0, .int .i64 0, .int .i64 0]), 6, 56) := by kernel_rfl
theorem sz3 : (Tryd.prog.info? 3).map (·.size) = some 1 := by kernel_rfl
theorem sz9 : (Tryd.prog.info? 9).map (·.size) = some 1 := by kernel_rfl
theorem sz23 : (Tryd.prog.info? 23).map (·.size) = some 3 := by kernel_rfl
theorem sz31 : (Tryd.prog.info? 31).map (·.size) = some 4 := by kernel_rfl
theorem sz35 : (Tryd.prog.info? 35).map (·.size) = some 1 := by kernel_rfl
theorem sz37 : (Tryd.prog.info? 37).map (·.size) = some 6 := by kernel_rfl
theorem zr9 : (Tryd.prog.info? 9).map (·.zero) = some (some (.string ⟨#[]⟩)) := by kernel_rfl
theorem zr23 : (Tryd.prog.info? 23).map (·.zero) = some (some (.agg #[.int .i64 0, .int .i64 0, .int .i64 0])) := by kernel_rfl
theorem zr31 : (Tryd.prog.info? 31).map (·.zero) = some (some (.agg #[.int .i64 0, .int .i64 0, .int .i64 0, .int .i64 0])) := by kernel_rfl
theorem zr37 : (Tryd.prog.info? 37).map (·.zero) = some (some (.agg #[.int .i64 0, .string ⟨#[]⟩, .int .i64 0, .int .i64 0, .int .i64 0, .int .i64 0])) := by kernel_rfl
theorem zr55 : (Tryd.prog.info? 55).map (·.zero) = some (some (.agg #[.string ⟨#[]⟩, .int .i64 0, .int .i64 0, .int .i64 0])) := by kernel_rfl
theorem zr80 : (Tryd.prog.info? 80).map (·.zero) = some (some (.agg #[.string ⟨#[]⟩, .string ⟨#[]⟩, .string ⟨#[]⟩, .string ⟨#[]⟩, .string ⟨#[]⟩, .string ⟨#[]⟩, .string ⟨#[]⟩, .string ⟨#[]⟩, .string ⟨#[]⟩, .string ⟨#[]⟩, .string ⟨#[]⟩, .string ⟨#[]⟩, .string ⟨#[]⟩, .string ⟨#[]⟩, .string ⟨#[]⟩, .string ⟨#[]⟩, .string ⟨#[]⟩, .string ⟨#[]⟩, .string ⟨#[]⟩, .string ⟨#[]⟩])) := by kernel_rfl

/-! ### token_cursor_here -/
set_option maxRecDepth 100000 in
theorem token_cursor_here.calls (o0 : Tags) (w0 : World) (pb0 : Nat) (a0 : T_token_cursor) (r : (List UInt8)) (hO : ∀ b, b < w0.heap.size → o0 b < 10) (hB0 : Bk o0 w0 2 pb0 [encS a0.f_s, .int .i64 a0.f_at.f_Line, .int .i64 a0.f_at.f_Col, .int .i64 a0.f_at.f_Off] 55) (H : token_cursor_here.f a0 = some r) :
    Calls Tryd.prog 27 [.pointer (some ⟨pb0, 0, none⟩)].toArray w0 fun e_ w_ => ∃ (o_ : Tags), e_ = .returned (one [encS r]) ∧ Step o0 w0 o_ w_ [] := by
  have HF := Fm.refl hO []
  unfold token_cursor_here.f at H
  refine SX.calls [.pointer (some ⟨pb0, 0, none⟩)] Tryd.func27 rfl rfl ?_
  rw [Tryd.ntmps27]
  refine WC.seq ?_
  refine WC.region ?_
  refine WL.ex rfl (ex_assign (v := encS ([] : List UInt8)) rfl) ?_
  refine WL.nil ?_
  refine WC.seq ?_
  refine WC.regionD' HF [] 11 (by kernel_rfl) rfl ?_
  intro w101 s102
  replace hB0 := hB0.step s102 rfl
  replace HF := HF.step s102 rfl
  have hB0D := hB0
  have sR := HF.here []
  refine WA.norm (listed' := #[false, false, false, false, false, false, false, false, false, false, false]) (by kernel_rfl) ?_
  refine WA.ex 0 rfl (by kernel_rfl) (by kernel_rfl) (by kernel_rfl) rfl ⟨_, sR⟩ (fun w_ hS_ => ex_move (v := .pointer (some ⟨pb0, 0, none⟩)) rfl) ?_
  refine WA.norm (listed' := #[true, false, false, false, false, false, false, false, false, false, false]) (by kernel_rfl) ?_
  refine WA.ex 1 rfl (by kernel_rfl) (by kernel_rfl) (by kernel_rfl) rfl ⟨_, sR⟩ (fun w_ hS_ => ex_nilCheck rfl) ?_
  refine WA.norm (listed' := #[true, true, false, false, false, false, false, false, false, false, false]) (by kernel_rfl) ?_
  refine WA.ex 2 rfl (by kernel_rfl) (by kernel_rfl) (by kernel_rfl) rfl ⟨_, sR⟩ (fun w_ hS_ => ex_fieldAddr rfl Tryd.underlying55 rfl sz9) ?_
  refine WA.norm (listed' := #[true, true, true, false, false, false, false, false, false, false, false]) (by kernel_rfl) ?_
  refine WA.ex 3 rfl (by kernel_rfl) (by kernel_rfl) (by kernel_rfl) rfl ⟨_, sR⟩ (fun w_ hS_ => ex_load1 (v := encS a0.f_s) rfl Tryd.underlying9 rfl ((hB0D.step hS_.choose_spec rfl).cell rfl)) ?_
  refine WA.norm (listed' := #[true, true, true, true, false, false, false, false, false, false, false]) (by kernel_rfl) ?_
  refine WA.ex 4 rfl (by kernel_rfl) (by kernel_rfl) (by kernel_rfl) rfl ⟨_, sR⟩ (fun w_ hS_ => ex_move (v := .pointer (some ⟨pb0, 0, none⟩)) rfl) ?_
  refine WA.norm (listed' := #[true, true, true, true, true, false, false, false, false, false, false]) (by kernel_rfl) ?_
  refine WA.ex 5 rfl (by kernel_rfl) (by kernel_rfl) (by kernel_rfl) rfl ⟨_, sR⟩ (fun w_ hS_ => ex_nilCheck rfl) ?_
  refine WA.norm (listed' := #[true, true, true, true, true, true, false, false, false, false, false]) (by kernel_rfl) ?_
  refine WA.ex 6 rfl (by kernel_rfl) (by kernel_rfl) (by kernel_rfl) rfl ⟨_, sR⟩ (fun w_ hS_ => ex_fieldAddr rfl Tryd.underlying55 rfl sz23) ?_
  refine WA.norm (listed' := #[true, true, true, true, true, true, true, false, false, false, false]) (by kernel_rfl) ?_
  refine WA.ex 7 rfl (by kernel_rfl) (by kernel_rfl) (by kernel_rfl) rfl ⟨_, sR⟩ (fun w_ hS_ => ex_fieldAddr rfl Tryd.underlying23 rfl sz3) ?_
  refine WA.norm (listed' := #[true, true, true, true, true, true, true, true, false, false, false]) (by kernel_rfl) ?_
  refine WA.ex 8 rfl (by kernel_rfl) (by kernel_rfl) (by kernel_rfl) rfl ⟨_, sR⟩ (fun w_ hS_ => ex_load1 (v := .int .i64 a0.f_at.f_Off) rfl Tryd.underlying3 rfl ((hB0D.step hS_.choose_spec rfl).cell rfl)) ?_
  refine WA.norm (listed' := #[true, true, true, true, true, true, true, true, true, false, false]) (by kernel_rfl) ?_
  obtain ⟨y103, hy103, H⟩ := bindE H
  refine WA.ex 9 rfl (by kernel_rfl) (by kernel_rfl) (by kernel_rfl) rfl ⟨_, sR⟩ (fun w_ hS_ => ex_slice_str (l := a0.f_at.f_Off) (h := (a0.f_s.length : Int)) rfl Tryd.underlying9 ⟨_, rfl⟩ rfl hy103) ?_
  refine WA.norm (listed' := #[true, true, true, true, true, true, true, true, true, true, false]) (by kernel_rfl) ?_
  refine WA.ex 10 rfl (by kernel_rfl) (by kernel_rfl) (by kernel_rfl) rfl ⟨_, sR⟩ (fun w_ hS_ => ex_assign (v := encS y103) rfl) ?_
  refine WA.norm (listed' := #[true, true, true, true, true, true, true, true, true, true, true]) (by kernel_rfl) ?_
  refine WA.done (by kernel_rfl) ?_
  refine WC.ret ?_
  obtain rfl := Option.some.inj H
  exact ⟨_, (.tmp (encS y103 : Value) rfl .nil), _, rfl, HF.out⟩


/-! ### utf8.DecodeRuneInString -/
theorem utf8_DecodeRuneInString.calls (o0 : Tags) (w0 : World) (a0 : List UInt8) (r : Int × Int) (hO : ∀ b, b < w0.heap.size → o0 b < 10) (hG : Gl GG o0 w0) (H : utf8_DecodeRuneInString.f a0 = some r) :
    Calls Tryd.prog 43 [encS a0].toArray w0 fun e_ w_ => ∃ (o_ : Tags), e_ = .returned (one [.int .i32 r.1, .int .i64 r.2]) ∧ Step o0 w0 o_ w_ [] := by
  obtain rfl := Option.some.inj H
  refine Calls.mono (Tryd.utf8_DecodeRuneInString ⟨a0.toArray⟩ w0 hG.2.1) ?_
  rintro e w ⟨rfl, hb⟩
  exact ⟨o0, rfl, below_step hb⟩

/-! ### token_cursor_skip -/
set_option maxRecDepth 100000 in
theorem token_cursor_skip.calls (k : Nat) (o0 : Tags) (w0 : World) (pb0 : Nat) (a0 : T_token_cursor) (a1 : Int) (r : T_token_cursor) (hO : ∀ b, b < w0.heap.size → o0 b < 10) (hB0 : Bk o0 w0 2 pb0 [encS a0.f_s, .int .i64 a0.f_at.f_Line, .int .i64 a0.f_at.f_Col, .int .i64 a0.f_at.f_Off] 55) (hG : Gl GG o0 w0) (H : token_cursor_skip.f k a0 a1 = some r) :
    Calls Tryd.prog 29 [.pointer (some ⟨pb0, 0, none⟩), .int .i64 a1].toArray w0 fun e_ w_ => ∃ (o_ : Tags), e_ = .returned (one []) ∧ Step o0 w0 o_ w_ [2] ∧ Bk o_ w_ 2 pb0 [encS r.f_s, .int .i64 r.f_at.f_Line, .int .i64 r.f_at.f_Col, .int .i64 r.f_at.f_Off] 55 := by
  have HF := Fm.refl hO [2]
  unfold token_cursor_skip.f at H
  refine SX.calls [.pointer (some ⟨pb0, 0, none⟩), .int .i64 a1] Tryd.func29 rfl rfl ?_
  rw [Tryd.ntmps29]
  refine WC.seq ?_
  refine WC.region ?_
  refine WL.ex rfl (ex_move (v := .pointer (some ⟨pb0, 0, none⟩)) rfl) ?_
  refine WL.ex rfl (ex_nilCheck rfl) ?_
  refine WL.ex rfl (ex_fieldAddr rfl Tryd.underlying55 rfl sz23) ?_
  refine WL.ex rfl (ex_fieldAddr rfl Tryd.underlying23 rfl sz3) ?_
  refine WL.ex rfl (ex_load1 (v := .int .i64 a0.f_at.f_Off) rfl Tryd.underlying3 rfl (hB0.cell rfl)) ?_
  refine WL.ex rfl (ex_move (v := .int .i64 a1) rfl) ?_
  refine WL.ex rfl (ex_bin (a := .int .i64 a0.f_at.f_Off) (b := .int .i64 a1) (v := .int .i64 (wrap64 (a0.f_at.f_Off + a1))) rfl rfl bin_add64) ?_
  refine WL.ex rfl (ex_assign (v := .int .i64 (wrap64 (a0.f_at.f_Off + a1))) rfl) ?_
  refine WL.nil ?_
  obtain ⟨z103, hz103, H⟩ := bindE H
  refine WC.for (fun k_ ρ_ w_ => ∃ (o_ : Tags) (x101 : T_token_cursor), Fm o0 w0 o_ w_ [2] ∧ Bk o_ w_ 2 pb0 [encS x101.f_s, .int .i64 x101.f_at.f_Line, .int .i64 x101.f_at.f_Col, .int .i64 x101.f_at.f_Off] 55 ∧ Gl GG o_ w_ ∧ ρ_ 0 = .pointer (some ⟨pb0, 0, none⟩) ∧ ρ_ 4 = .int .i64 (wrap64 (a0.f_at.f_Off + a1)) ∧ token_cursor_skip.l1 k a0 a1 k_ x101 = some z103) k (fun ρ_ w_ => ∃ (o_ : Tags), Fm o0 w0 o_ w_ [2] ∧ Bk o_ w_ 2 pb0 [encS z103.f_s, .int .i64 z103.f_at.f_Line, .int .i64 z103.f_at.f_Col, .int .i64 z103.f_at.f_Off] 55 ∧ Gl GG o_ w_) ⟨_, a0, HF, hB0, hG, rfl, rfl, hz103⟩ ?case104 ?_
  case case104 =>
    rintro ρ144 w142 ⟨o143, HF, hB0, hG⟩
    obtain rfl := Option.some.inj H
    exact ⟨_, .nil, _, rfl, HF.out, hB0⟩
  have Ho105 := H
  rintro k106 ρ107 w108 ⟨o109, x101, HF, hB0, hG, s0_100, s4_100, H⟩
  cases k106 with
  | zero => cases H
  | succ k106 =>
  rw [token_cursor_skip.l1.eq_2] at H
  refine WC.seq ?_
  refine WC.seq ?_
  refine WC.region ?_
  refine WL.ex rfl (ex_move (v := .pointer (some ⟨pb0, 0, none⟩)) s0_100) ?_
  refine WL.ex rfl (ex_nilCheck rfl) ?_
  refine WL.ex rfl (ex_fieldAddr rfl Tryd.underlying55 rfl sz23) ?_
  refine WL.ex rfl (ex_fieldAddr rfl Tryd.underlying23 rfl sz3) ?_
  refine WL.ex rfl (ex_load1 (v := .int .i64 x101.f_at.f_Off) rfl Tryd.underlying3 rfl (hB0.cell rfl)) ?_
  refine WL.ex rfl (ex_move (v := .int .i64 (wrap64 (a0.f_at.f_Off + a1))) s4_100) ?_
  refine WL.ex rfl (ex_bin (a := .int .i64 x101.f_at.f_Off) (b := .int .i64 (wrap64 (a0.f_at.f_Off + a1))) (v := .bool (decide (x101.f_at.f_Off < (wrap64 (a0.f_at.f_Off + a1))))) rfl rfl bin_lss) ?_
  refine WL.nil ?_
  rcases condE H with ⟨c110, H⟩ | ⟨c110, H⟩
  ·
    refine WC.cond_t ((show _ = Value.bool (decide (x101.f_at.f_Off < (wrap64 (a0.f_at.f_Off + a1)))) from rfl).trans (congrArg Value.bool c110)) ?_
    refine WC.skip ?_
    refine WC.block ?_
    refine WC.seq ?_
    refine WC.region ?_
    refine WL.ex rfl (ex_move (v := .pointer (some ⟨pb0, 0, none⟩)) s0_100) ?_
    obtain ⟨z111, hz111, H⟩ := bindE H
    refine WL.op rfl ?_
    refine OW.call [.pointer (some ⟨pb0, 0, none⟩)] rfl Tryd.func27 (by kernel_rfl) (by kernel_rfl) (map_cons' rfl rfl) (token_cursor_here.calls _ _ pb0 x101 z111 (HF.ten (V := [0]) (L := [2]) rfl) (Bk.vw (V := [0]) (L := [2]) hB0 rfl) hz111) ?_
    rintro _ w112 ⟨o113, rfl, s114⟩
    refine ⟨_, rfl, ?_⟩
    replace s114 := un_stepL (J := []) (L' := []) s114 rfl rfl
    replace hB0 := hB0.step s114 rfl
    replace hG := hG.step s114 rfl
    replace HF := HF.step s114 rfl
    obtain ⟨z115, hz115, H⟩ := bindE H
    refine WL.op rfl ?_
    refine OW.call [encS z111] rfl Tryd.func43 (by kernel_rfl) (by kernel_rfl) (map_cons' rfl rfl) (utf8_DecodeRuneInString.calls _ _ z111 z115 (HF.ten (V := [0]) (L := []) rfl) (Gl.vw (V := [0]) (L := []) hG rfl) hz115) ?_
    rintro _ w116 ⟨o117, rfl, s118⟩
    refine ⟨_, rfl, ?_⟩
    replace s118 := un_stepL (J := []) (L' := []) s118 rfl rfl
    replace hB0 := hB0.step s118 rfl
    replace hG := hG.step s118 rfl
    replace HF := HF.step s118 rfl
    refine WL.ex rfl (ex_move (v := .tuple #[.int .i32 z115.1, .int .i64 z115.2]) rfl) ?_
    refine WL.ex rfl (ex_extract (vs := #[.int .i32 z115.1, .int .i64 z115.2]) (v := .int .i32 z115.1) rfl rfl) ?_
    refine WL.ex rfl (ex_extract (vs := #[.int .i32 z115.1, .int .i64 z115.2]) (v := .int .i64 z115.2) rfl rfl) ?_
    refine WL.ex rfl (ex_assign (v := .int .i32 z115.1) rfl) ?_
    refine WL.ex rfl (ex_assign (v := .int .i64 z115.2) rfl) ?_
    refine WL.nil ?_
    obtain ⟨z120, hz120, H⟩ := bindE H
    refine WC.cut (fun ρ_ w_ => ∃ (o_ : Tags), Fm o0 w0 o_ w_ [2] ∧ Bk o_ w_ 2 pb0 [encS z120.f_s, .int .i64 z120.f_at.f_Line, .int .i64 z120.f_at.f_Col, .int .i64 z120.f_at.f_Off] 55 ∧ Gl GG o_ w_ ∧ ρ_ 0 = .pointer (some ⟨pb0, 0, none⟩) ∧ ρ_ 4 = .int .i64 (wrap64 (a0.f_at.f_Off + a1)) ∧ ρ_ 6 = .int .i64 z115.2) ?case121 ?_
    case case121 =>
      rintro ρ124 w122 ⟨o123, HF, hB128, hG, s0_118, s4_118, s6_118⟩
      refine WC.seq ?_
      refine WC.region ?_
      refine WL.ex rfl (ex_move (v := .pointer (some ⟨pb0, 0, none⟩)) s0_118) ?_
      refine WL.ex rfl (ex_nilCheck rfl) ?_
      refine WL.ex rfl (ex_fieldAddr rfl Tryd.underlying55 rfl sz23) ?_
      refine WL.ex rfl (ex_fieldAddr rfl Tryd.underlying23 rfl sz3) ?_
      refine WL.ex rfl (ex_load1 (v := .int .i64 z120.f_at.f_Col) rfl Tryd.underlying3 rfl (hB128.cell rfl)) ?_
      refine WL.ex rfl (ex_bin (a := .int .i64 z120.f_at.f_Col) (b := .int .i64 1) (v := .int .i64 (wrap64 (z120.f_at.f_Col + 1))) rfl rfl bin_add64) ?_
      refine WL.ex rfl (ex_nilCheck rfl) ?_
      refine WL.ex rfl (ex_fieldAddr rfl Tryd.underlying55 rfl sz23) ?_
      refine WL.ex rfl (ex_fieldAddr rfl Tryd.underlying23 rfl sz3) ?_
      refine WL.op rfl ?_
      refine OW.store [encS z120.f_s, .int .i64 z120.f_at.f_Line, .int .i64 (wrap64 (z120.f_at.f_Col + 1)), .int .i64 z120.f_at.f_Off] rfl (vs := [.int .i64 (wrap64 (z120.f_at.f_Col + 1))]) ((congrArg Value.cells (show ev _ _ = (.int .i64 (wrap64 (z120.f_at.f_Col + 1)) : Value) from rfl)).trans rfl) sz3 hB128 (Nat.le_of_ble_eq_true rfl) (by intro u_ hu_; simp only [List.mem_cons, List.not_mem_nil, or_false] at hu_; rcases hu_ with rfl; first | rfl) rfl ?_
      intro w125 s126 hB127
      replace hG := hG.step s126 rfl
      replace HF := HF.step s126 rfl
      refine WL.nil ?_
      refine WC.region ?_
      refine WL.ex rfl (ex_move (v := .pointer (some ⟨pb0, 0, none⟩)) s0_118) ?_
      refine WL.ex rfl (ex_nilCheck rfl) ?_
      refine WL.ex rfl (ex_fieldAddr rfl Tryd.underlying55 rfl sz23) ?_
      refine WL.ex rfl (ex_fieldAddr rfl Tryd.underlying23 rfl sz3) ?_
      refine WL.ex rfl (ex_load1 (v := .int .i64 z120.f_at.f_Off) rfl Tryd.underlying3 rfl (hB127.cell rfl)) ?_
      refine WL.ex rfl (ex_move (v := .int .i64 z115.2) s6_118) ?_
      refine WL.ex rfl (ex_bin (a := .int .i64 z120.f_at.f_Off) (b := .int .i64 z115.2) (v := .int .i64 (wrap64 (z120.f_at.f_Off + z115.2))) rfl rfl bin_add64) ?_
      refine WL.ex rfl (ex_nilCheck rfl) ?_
      refine WL.ex rfl (ex_fieldAddr rfl Tryd.underlying55 rfl sz23) ?_
      refine WL.ex rfl (ex_fieldAddr rfl Tryd.underlying23 rfl sz3) ?_
      refine WL.op rfl ?_
      refine OW.store [encS z120.f_s, .int .i64 z120.f_at.f_Line, .int .i64 (wrap64 (z120.f_at.f_Col + 1)), .int .i64 (wrap64 (z120.f_at.f_Off + z115.2))] rfl (vs := [.int .i64 (wrap64 (z120.f_at.f_Off + z115.2))]) ((congrArg Value.cells (show ev _ _ = (.int .i64 (wrap64 (z120.f_at.f_Off + z115.2)) : Value) from rfl)).trans rfl) sz3 hB127 (Nat.le_of_ble_eq_true rfl) (by intro u_ hu_; simp only [List.mem_cons, List.not_mem_nil, or_false] at hu_; rcases hu_ with rfl; first | rfl) rfl ?_
      intro w128 s129 hB130
      replace hG := hG.step s129 rfl
      replace HF := HF.step s129 rfl
      refine WL.nil ?_
      exact ⟨k106, Nat.lt_succ_self _, ⟨_, (⟨z120.f_s, (⟨z120.f_at.f_Line, wrap64 (z120.f_at.f_Col + 1), wrap64 (z120.f_at.f_Off + z115.2)⟩ : T_api_Spot)⟩ : T_token_cursor), HF, hB130, hG, s0_118, s4_118, H⟩⟩
    have Ho131 := H
    replace H := hz120
    refine WC.seq ?_
    refine WC.regionD' HF [] 11 (by kernel_rfl) rfl ?_
    intro w132 s133
    replace hB0 := hB0.step s133 rfl
    replace hG := hG.step s133 rfl
    replace HF := HF.step s133 rfl
    have hB0D := hB0
    have hGD := hG
    have sR := HF.here []
    refine WA.norm (listed' := #[false, false, false, false, false, false, false, false, false, false, false]) (by kernel_rfl) ?_
    refine WA.ex 0 rfl (by kernel_rfl) (by kernel_rfl) (by kernel_rfl) rfl ⟨_, sR⟩ (fun w_ hS_ => ex_move (v := .pointer (some ⟨pb0, 0, none⟩)) s0_100) ?_
    refine WA.norm (listed' := #[true, false, false, false, false, false, false, false, false, false, false]) (by kernel_rfl) ?_
    refine WA.ex 1 rfl (by kernel_rfl) (by kernel_rfl) (by kernel_rfl) rfl ⟨_, sR⟩ (fun w_ hS_ => ex_nilCheck rfl) ?_
    refine WA.norm (listed' := #[true, true, false, false, false, false, false, false, false, false, false]) (by kernel_rfl) ?_
    refine WA.ex 2 rfl (by kernel_rfl) (by kernel_rfl) (by kernel_rfl) rfl ⟨_, sR⟩ (fun w_ hS_ => ex_fieldAddr rfl Tryd.underlying55 rfl sz9) ?_
    refine WA.norm (listed' := #[true, true, true, false, false, false, false, false, false, false, false]) (by kernel_rfl) ?_
    refine WA.ex 3 rfl (by kernel_rfl) (by kernel_rfl) (by kernel_rfl) rfl ⟨_, sR⟩ (fun w_ hS_ => ex_load1 (v := encS x101.f_s) rfl Tryd.underlying9 rfl ((hB0D.step hS_.choose_spec rfl).cell rfl)) ?_
    refine WA.norm (listed' := #[true, true, true, true, false, false, false, false, false, false, false]) (by kernel_rfl) ?_
    refine WA.ex 4 rfl (by kernel_rfl) (by kernel_rfl) (by kernel_rfl) rfl ⟨_, sR⟩ (fun w_ hS_ => ex_move (v := .pointer (some ⟨pb0, 0, none⟩)) s0_100) ?_
    refine WA.norm (listed' := #[true, true, true, true, true, false, false, false, false, false, false]) (by kernel_rfl) ?_
    refine WA.ex 5 rfl (by kernel_rfl) (by kernel_rfl) (by kernel_rfl) rfl ⟨_, sR⟩ (fun w_ hS_ => ex_nilCheck rfl) ?_
    refine WA.norm (listed' := #[true, true, true, true, true, true, false, false, false, false, false]) (by kernel_rfl) ?_
    refine WA.ex 6 rfl (by kernel_rfl) (by kernel_rfl) (by kernel_rfl) rfl ⟨_, sR⟩ (fun w_ hS_ => ex_fieldAddr rfl Tryd.underlying55 rfl sz23) ?_
    refine WA.norm (listed' := #[true, true, true, true, true, true, true, false, false, false, false]) (by kernel_rfl) ?_
    refine WA.ex 7 rfl (by kernel_rfl) (by kernel_rfl) (by kernel_rfl) rfl ⟨_, sR⟩ (fun w_ hS_ => ex_fieldAddr rfl Tryd.underlying23 rfl sz3) ?_
    refine WA.norm (listed' := #[true, true, true, true, true, true, true, true, false, false, false]) (by kernel_rfl) ?_
    refine WA.ex 8 rfl (by kernel_rfl) (by kernel_rfl) (by kernel_rfl) rfl ⟨_, sR⟩ (fun w_ hS_ => ex_load1 (v := .int .i64 x101.f_at.f_Off) rfl Tryd.underlying3 rfl ((hB0D.step hS_.choose_spec rfl).cell rfl)) ?_
    refine WA.norm (listed' := #[true, true, true, true, true, true, true, true, true, false, false]) (by kernel_rfl) ?_
    obtain ⟨x134, hx134, H⟩ := bindE H
    refine WA.ex 9 rfl (by kernel_rfl) (by kernel_rfl) (by kernel_rfl) rfl ⟨_, sR⟩ (fun w_ hS_ => ex_index_str (i := x101.f_at.f_Off) rfl rfl Tryd.underlying9 (ix_some hx134).1 (ix_some hx134).2.2) ?_
    refine WA.norm (listed' := #[true, true, true, true, true, true, true, true, true, true, false]) (by kernel_rfl) ?_
    refine WA.ex 10 rfl (by kernel_rfl) (by kernel_rfl) (by kernel_rfl) rfl ⟨_, sR⟩ (fun w_ hS_ => ex_bin (a := enc8 x134) (b := enc8 (10 : UInt8)) (v := .bool (x134 == (10 : UInt8))) rfl rfl bin_eql_u8) ?_
    refine WA.norm (listed' := #[true, true, true, true, true, true, true, true, true, true, true]) (by kernel_rfl) ?_
    refine WA.done (by kernel_rfl) ?_
    rcases condE H with ⟨c135, H⟩ | ⟨c135, H⟩
    ·
      refine WC.cond_t ((show _ = Value.bool (x134 == (10 : UInt8)) from rfl).trans (congrArg Value.bool c135)) ?_
      refine WC.region ?_
      refine WL.ex rfl (ex_move (v := .pointer (some ⟨pb0, 0, none⟩)) s0_100) ?_
      refine WL.ex rfl (ex_move (v := .pointer (some ⟨pb0, 0, none⟩)) s0_100) ?_
      refine WL.ex rfl (ex_move (v := .pointer (some ⟨pb0, 0, none⟩)) s0_100) ?_
      refine WL.ex rfl (ex_nilCheck rfl) ?_
      refine WL.ex rfl (ex_fieldAddr rfl Tryd.underlying55 rfl sz23) ?_
      refine WL.ex rfl (ex_fieldAddr rfl Tryd.underlying23 rfl sz3) ?_
      refine WL.ex rfl (ex_load1 (v := .int .i64 x101.f_at.f_Line) rfl Tryd.underlying3 rfl (hB0.cell rfl)) ?_
      refine WL.ex rfl (ex_bin (a := .int .i64 x101.f_at.f_Line) (b := .int .i64 1) (v := .int .i64 (wrap64 (x101.f_at.f_Line + 1))) rfl rfl bin_add64) ?_
      refine WL.ex rfl (ex_nilCheck rfl) ?_
      refine WL.ex rfl (ex_fieldAddr rfl Tryd.underlying55 rfl sz23) ?_
      refine WL.ex rfl (ex_fieldAddr rfl Tryd.underlying23 rfl sz3) ?_
      refine WL.op rfl ?_
      refine OW.store [encS x101.f_s, .int .i64 (wrap64 (x101.f_at.f_Line + 1)), .int .i64 x101.f_at.f_Col, .int .i64 x101.f_at.f_Off] rfl (vs := [.int .i64 (wrap64 (x101.f_at.f_Line + 1))]) ((congrArg Value.cells (show ev _ _ = (.int .i64 (wrap64 (x101.f_at.f_Line + 1)) : Value) from rfl)).trans rfl) sz3 hB0 (Nat.le_of_ble_eq_true rfl) (by intro u_ hu_; simp only [List.mem_cons, List.not_mem_nil, or_false] at hu_; rcases hu_ with rfl; first | rfl) rfl ?_
      intro w136 s137 hB138
      replace hG := hG.step s137 rfl
      replace HF := HF.step s137 rfl
      refine WL.ex rfl (ex_nilCheck rfl) ?_
      refine WL.ex rfl (ex_fieldAddr rfl Tryd.underlying55 rfl sz23) ?_
      refine WL.ex rfl (ex_fieldAddr rfl Tryd.underlying23 rfl sz3) ?_
      refine WL.op rfl ?_
      refine OW.store [encS x101.f_s, .int .i64 (wrap64 (x101.f_at.f_Line + 1)), .int .i64 0, .int .i64 x101.f_at.f_Off] rfl (vs := [.int .i64 0]) ((congrArg Value.cells (show ev _ _ = (.int .i64 0 : Value) from rfl)).trans rfl) sz3 hB138 (Nat.le_of_ble_eq_true rfl) (by intro u_ hu_; simp only [List.mem_cons, List.not_mem_nil, or_false] at hu_; rcases hu_ with rfl; first | rfl) rfl ?_
      intro w139 s140 hB141
      replace hG := hG.step s140 rfl
      replace HF := HF.step s140 rfl
      refine WL.nil ?_
      obtain rfl := Option.some.inj H
      exact ⟨_, HF, hB141, hG, s0_100, s4_100, rfl⟩
    ·
      refine WC.cond_f ((show _ = Value.bool (x134 == (10 : UInt8)) from rfl).trans (congrArg Value.bool c135)) ?_
      refine WC.skip ?_
      obtain rfl := Option.some.inj H
      exact ⟨_, HF, hB0, hG, s0_100, s4_100, rfl⟩
  ·
    refine WC.cond_f ((show _ = Value.bool (decide (x101.f_at.f_Off < (wrap64 (a0.f_at.f_Off + a1)))) from rfl).trans (congrArg Value.bool c110)) ?_
    refine WC.exit ?_
    obtain rfl := Option.some.inj H
    exact ⟨_, HF, hB0, hG⟩


/-! ### strings.IndexByte -/
theorem strings_IndexByte.calls (o0 : Tags) (w0 : World) (a0 : List UInt8) (a1 : UInt8) (r : Int) (hO : ∀ b, b < w0.heap.size → o0 b < 10) (H : strings_IndexByte.f a0 a1 = some r) :
    Calls Tryd.prog 37 [encS a0, enc8 a1].toArray w0 fun e_ w_ => ∃ (o_ : Tags), e_ = .returned (one [.int .i64 r]) ∧ Step o0 w0 o_ w_ [] := by
  obtain rfl := Option.some.inj H
  refine Calls.mono (Tryd.strings_IndexByte ⟨a0.toArray⟩ (a1.toNat : Int) w0) ?_
  rintro e w ⟨rfl, rfl⟩
  exact ⟨o0, by simp [one], Step.refl _ _ _⟩

/-! ### token_cursor_space -/
set_option maxRecDepth 100000 in
theorem token_cursor_space.calls (k : Nat) (o0 : Tags) (w0 : World) (pb0 : Nat) (a0 : T_token_cursor) (r : T_token_cursor) (hO : ∀ b, b < w0.heap.size → o0 b < 10) (hB0 : Bk o0 w0 2 pb0 [encS a0.f_s, .int .i64 a0.f_at.f_Line, .int .i64 a0.f_at.f_Col, .int .i64 a0.f_at.f_Off] 55) (hG : Gl GG o0 w0) (H : token_cursor_space.f k a0 = some r) :
    Calls Tryd.prog 26 [.pointer (some ⟨pb0, 0, none⟩)].toArray w0 fun e_ w_ => ∃ (o_ : Tags), e_ = .returned (one []) ∧ Step o0 w0 o_ w_ [2] ∧ Bk o_ w_ 2 pb0 [encS r.f_s, .int .i64 r.f_at.f_Line, .int .i64 r.f_at.f_Col, .int .i64 r.f_at.f_Off] 55 := by
  have HF := Fm.refl hO [2]
  unfold token_cursor_space.f at H
  refine SX.calls [.pointer (some ⟨pb0, 0, none⟩)] Tryd.func26 rfl rfl ?_
  rw [Tryd.ntmps26]
  refine WC.scope ?_
  refine WC.seq ?_
  refine WC.label ?_
  refine WC.seq ?_
  refine WC.region ?_
  refine WL.ex rfl (ex_move (v := .pointer (some ⟨pb0, 0, none⟩)) rfl) ?_
  obtain ⟨z101, hz101, H⟩ := bindE H
  refine WL.op rfl ?_
  refine OW.call [.pointer (some ⟨pb0, 0, none⟩)] rfl Tryd.func27 (by kernel_rfl) (by kernel_rfl) (map_cons' rfl rfl) (token_cursor_here.calls _ _ pb0 a0 z101 (HF.ten (V := [0]) (L := [2]) rfl) (Bk.vw (V := [0]) (L := [2]) hB0 rfl) hz101) ?_
  rintro _ w102 ⟨o103, rfl, s104⟩
  refine ⟨_, rfl, ?_⟩
  replace s104 := un_stepL (J := []) (L' := []) s104 rfl rfl
  replace hB0 := hB0.step s104 rfl
  replace hG := hG.step s104 rfl
  replace HF := HF.step s104 rfl
  refine WL.ex rfl (ex_assign (v := encS z101) rfl) ?_
  refine WL.nil ?_
  obtain ⟨z108, hz108, H⟩ := bindE H
  refine WC.for (fun k_ ρ_ w_ => ∃ (o_ : Tags) (x105 : List UInt8) (x106 : T_token_cursor), Fm o0 w0 o_ w_ [2] ∧ Bk o_ w_ 2 pb0 [encS x106.f_s, .int .i64 x106.f_at.f_Line, .int .i64 x106.f_at.f_Col, .int .i64 x106.f_at.f_Off] 55 ∧ Gl GG o_ w_ ∧ ρ_ 0 = .pointer (some ⟨pb0, 0, none⟩) ∧ ρ_ 2 = encS x105 ∧ token_cursor_space.l1 k k_ x105 x106 = some z108) k (fun ρ_ w_ => ∃ (o_ : Tags), Fm o0 w0 o_ w_ [2] ∧ Bk o_ w_ 2 pb0 [encS z108.f_s, .int .i64 z108.f_at.f_Line, .int .i64 z108.f_at.f_Col, .int .i64 z108.f_at.f_Off] 55 ∧ Gl GG o_ w_) ⟨_, z101, a0, HF, hB0, hG, rfl, rfl, hz108⟩ ?case109 ?_
  case case109 =>
    rintro ρ161 w159 ⟨o160, HF, hB0, hG⟩
    refine ⟨fun l_ h_ => (by cases h_), ?_⟩
    obtain rfl := Option.some.inj H
    exact ⟨_, .nil, _, rfl, HF.out, hB0⟩
  have Ho110 := H
  rintro k111 ρ112 w113 ⟨o114, x105, x106, HF, hB0, hG, s0_104, s2_105, H⟩
  cases k111 with
  | zero => cases H
  | succ k111 =>
  rw [token_cursor_space.l1.eq_2] at H
  refine WC.seq ?_
  refine WC.seq ?_
  refine WC.region ?_
  refine WL.ex rfl (ex_move (v := encS x105) s2_105) ?_
  refine WL.ex rfl (ex_bin (a := encS x105) (b := encS ([] : List UInt8)) (v := .bool (!(x105 == ([] : List UInt8)))) rfl rfl bin_neq_str) ?_
  refine WL.nil ?_
  rcases condE H with ⟨c115, H⟩ | ⟨c115, H⟩
  ·
    refine WC.cond_t ((show _ = Value.bool (!(x105 == ([] : List UInt8))) from rfl).trans (congrArg Value.bool c115)) ?_
    refine WC.skip ?_
    refine WC.seq ?_
    refine WC.block ?_
    refine WC.seq ?_
    refine WC.region ?_
    refine WL.ex rfl (ex_move (v := encS x105) s2_105) ?_
    obtain ⟨x116, hx116, H⟩ := bindE H
    refine WL.ex rfl (ex_index_str (i := (0 : Int)) rfl rfl Tryd.underlying9 (ix_some hx116).1 (ix_some hx116).2.2) ?_
    refine WL.nil ?_
    refine WC.block ?_
    obtain ⟨z118, hz118, H⟩ := bindE H
    refine WC.cut (fun ρ_ w_ => ∃ (o_ : Tags), Fm o0 w0 o_ w_ [2] ∧ Bk o_ w_ 2 pb0 [encS x106.f_s, .int .i64 x106.f_at.f_Line, .int .i64 x106.f_at.f_Col, .int .i64 x106.f_at.f_Off] 55 ∧ Gl GG o_ w_ ∧ ρ_ 0 = .pointer (some ⟨pb0, 0, none⟩) ∧ ρ_ 2 = encS x105 ∧ ρ_ 11 = enc8 x116 ∧ ρ_ 12 = .bool z118) ?case119 ?_
    case case119 =>
      rintro ρ122 w120 ⟨o121, HF, hB0, hG, s0_116, s2_116, s11_116, s12_117⟩
      rcases condE H with ⟨c123, H⟩ | ⟨c123, H⟩
      ·
        refine WC.cond_t ((show _ = Value.bool z118 from s12_117).trans (congrArg Value.bool c123)) ?_
        refine WC.region ?_
        refine WL.ex rfl (ex_move (v := .pointer (some ⟨pb0, 0, none⟩)) s0_116) ?_
        obtain ⟨z124, hz124, H⟩ := bindE H
        refine WL.op rfl ?_
        refine OW.call [.pointer (some ⟨pb0, 0, none⟩), .int .i64 1] rfl Tryd.func29 (by kernel_rfl) (by kernel_rfl) (map_cons' rfl (map_cons' rfl rfl)) (token_cursor_skip.calls k _ _ pb0 x106 1 z124 (HF.ten (V := [0]) (L := [2]) rfl) (Bk.vw (V := [0]) (L := [2]) hB0 rfl) (Gl.vw (V := [0]) (L := [2]) hG rfl) hz124) ?_
        rintro _ w125 ⟨o126, rfl, s127, hB128⟩
        refine ⟨_, rfl, ?_⟩
        replace hB128 := Bk.unO (J := []) 0 hB128 s127 rfl rfl rfl
        replace s127 := un_stepL (J := []) (L' := [2]) s127 rfl rfl
        replace hG := hG.step s127 rfl
        replace HF := HF.step s127 rfl
        refine WL.nil ?_
        refine WC.region ?_
        refine WL.ex rfl (ex_move (v := .pointer (some ⟨pb0, 0, none⟩)) s0_116) ?_
        obtain ⟨z129, hz129, H⟩ := bindE H
        refine WL.op rfl ?_
        refine OW.call [.pointer (some ⟨pb0, 0, none⟩)] rfl Tryd.func27 (by kernel_rfl) (by kernel_rfl) (map_cons' rfl rfl) (token_cursor_here.calls _ _ pb0 z124 z129 (HF.ten (V := [0]) (L := [2]) rfl) (Bk.vw (V := [0]) (L := [2]) hB128 rfl) hz129) ?_
        rintro _ w130 ⟨o131, rfl, s132⟩
        refine ⟨_, rfl, ?_⟩
        replace s132 := un_stepL (J := []) (L' := []) s132 rfl rfl
        replace hG := hG.step s132 rfl
        replace hB128 := hB128.step s132 rfl
        replace HF := HF.step s132 rfl
        refine WL.ex rfl (ex_assign (v := encS z129) rfl) ?_
        refine WL.nil ?_
        exact ⟨k111, Nat.lt_succ_self _, ⟨_, z129, z124, HF, hB128, hG, s0_116, rfl, H⟩⟩
      ·
        refine WC.cond_f ((show _ = Value.bool z118 from s12_117).trans (congrArg Value.bool c123)) ?_
        refine WC.seq ?_
        refine WC.region ?_
        refine WL.ex rfl (ex_bin (a := enc8 x116) (b := enc8 (35 : UInt8)) (v := .bool (x116 == (35 : UInt8))) s11_116 rfl bin_eql_u8) ?_
        refine WL.ex rfl (ex_assign (v := .bool (x116 == (35 : UInt8))) rfl) ?_
        refine WL.nil ?_
        rcases condE H with ⟨c133, H⟩ | ⟨c133, H⟩
        ·
          refine WC.cond_t ((show _ = Value.bool (x116 == (35 : UInt8)) from rfl).trans (congrArg Value.bool c133)) ?_
          refine WC.seq ?_
          refine WC.region ?_
          refine WL.ex rfl (ex_move (v := encS x105) s2_116) ?_
          obtain ⟨z134, hz134, H⟩ := bindE H
          refine WL.op rfl ?_
          refine OW.call [encS x105, enc8 (10 : UInt8)] rfl Tryd.func37 (by kernel_rfl) (by kernel_rfl) (map_cons' rfl (map_cons' rfl rfl)) (strings_IndexByte.calls _ _ x105 (10 : UInt8) z134 (HF.ten (V := [0]) (L := []) rfl)  hz134) ?_
          rintro _ w135 ⟨o136, rfl, s137⟩
          refine ⟨_, rfl, ?_⟩
          replace s137 := un_stepL (J := []) (L' := []) s137 rfl rfl
          replace hB0 := hB0.step s137 rfl
          replace hG := hG.step s137 rfl
          replace HF := HF.step s137 rfl
          refine WL.ex rfl (ex_assign (v := .int .i64 z134) rfl) ?_
          refine WL.nil ?_
          obtain ⟨z139, hz139, H⟩ := bindE H
          refine WC.cut (fun ρ_ w_ => ∃ (o_ : Tags), Fm o0 w0 o_ w_ [2] ∧ Bk o_ w_ 2 pb0 [encS x106.f_s, .int .i64 x106.f_at.f_Line, .int .i64 x106.f_at.f_Col, .int .i64 x106.f_at.f_Off] 55 ∧ Gl GG o_ w_ ∧ ρ_ 0 = .pointer (some ⟨pb0, 0, none⟩) ∧ ρ_ 2 = encS x105 ∧ ρ_ 3 = .int .i64 z139) ?case140 ?_
          case case140 =>
            rintro ρ143 w141 ⟨o142, HF, hB0, hG, s0_137, s2_137, s3_138⟩
            refine WC.region ?_
            refine WL.ex rfl (ex_move (v := .pointer (some ⟨pb0, 0, none⟩)) s0_137) ?_
            refine WL.ex rfl (ex_move (v := .int .i64 z139) s3_138) ?_
            obtain ⟨z144, hz144, H⟩ := bindE H
            refine WL.op rfl ?_
            refine OW.call [.pointer (some ⟨pb0, 0, none⟩), .int .i64 z139] rfl Tryd.func29 (by kernel_rfl) (by kernel_rfl) (map_cons' rfl (map_cons' rfl rfl)) (token_cursor_skip.calls k _ _ pb0 x106 z139 z144 (HF.ten (V := [0]) (L := [2]) rfl) (Bk.vw (V := [0]) (L := [2]) hB0 rfl) (Gl.vw (V := [0]) (L := [2]) hG rfl) hz144) ?_
            rintro _ w145 ⟨o146, rfl, s147, hB148⟩
            refine ⟨_, rfl, ?_⟩
            replace hB148 := Bk.unO (J := []) 0 hB148 s147 rfl rfl rfl
            replace s147 := un_stepL (J := []) (L' := [2]) s147 rfl rfl
            replace hG := hG.step s147 rfl
            replace HF := HF.step s147 rfl
            refine WL.nil ?_
            refine WC.region ?_
            refine WL.ex rfl (ex_move (v := .pointer (some ⟨pb0, 0, none⟩)) s0_137) ?_
            obtain ⟨z149, hz149, H⟩ := bindE H
            refine WL.op rfl ?_
            refine OW.call [.pointer (some ⟨pb0, 0, none⟩)] rfl Tryd.func27 (by kernel_rfl) (by kernel_rfl) (map_cons' rfl rfl) (token_cursor_here.calls _ _ pb0 z144 z149 (HF.ten (V := [0]) (L := [2]) rfl) (Bk.vw (V := [0]) (L := [2]) hB148 rfl) hz149) ?_
            rintro _ w150 ⟨o151, rfl, s152⟩
            refine ⟨_, rfl, ?_⟩
            replace s152 := un_stepL (J := []) (L' := []) s152 rfl rfl
            replace hG := hG.step s152 rfl
            replace hB148 := hB148.step s152 rfl
            replace HF := HF.step s152 rfl
            refine WL.ex rfl (ex_assign (v := encS z149) rfl) ?_
            refine WL.nil ?_
            exact ⟨k111, Nat.lt_succ_self _, ⟨_, z149, z144, HF, hB148, hG, s0_137, rfl, H⟩⟩
          have Ho153 := H
          replace H := hz139
          refine WC.seq ?_
          refine WC.region ?_
          refine WL.ex rfl (ex_move (v := .int .i64 z134) rfl) ?_
          refine WL.ex rfl (ex_bin (a := .int .i64 z134) (b := .int .i64 0) (v := .bool (decide (z134 < 0))) rfl rfl bin_lss) ?_
          refine WL.nil ?_
          rcases condE H with ⟨c154, H⟩ | ⟨c154, H⟩
          ·
            refine WC.cond_t ((show _ = Value.bool (decide (z134 < 0)) from rfl).trans (congrArg Value.bool c154)) ?_
            refine WC.region ?_
            refine WL.ex rfl (ex_move (v := encS x105) s2_116) ?_
            refine WL.ex rfl (ex_len_str (s := x105) rfl Tryd.underlying9) ?_
            refine WL.ex rfl (ex_assign (v := .int .i64 (x105.length : Int)) rfl) ?_
            refine WL.nil ?_
            obtain rfl := Option.some.inj H
            exact ⟨_, HF, hB0, hG, s0_116, s2_116, rfl⟩
          ·
            refine WC.cond_f ((show _ = Value.bool (decide (z134 < 0)) from rfl).trans (congrArg Value.bool c154)) ?_
            refine WC.skip ?_
            obtain rfl := Option.some.inj H
            exact ⟨_, HF, hB0, hG, s0_116, s2_116, rfl⟩
        ·
          refine WC.cond_f ((show _ = Value.bool (x116 == (35 : UInt8)) from rfl).trans (congrArg Value.bool c133)) ?_
          refine WC.exit ?_
          obtain rfl := Option.some.inj H
          exact ⟨_, HF, hB0, hG⟩
    have Ho155 := H
    replace H := hz118
    refine WC.seq ?_
    refine WC.region ?_
    refine WL.ex rfl (ex_bin (a := enc8 x116) (b := enc8 (32 : UInt8)) (v := .bool (x116 == (32 : UInt8))) rfl rfl bin_eql_u8) ?_
    refine WL.ex rfl (ex_assign (v := .bool (x116 == (32 : UInt8))) rfl) ?_
    refine WL.nil ?_
    rcases condE H with ⟨c156, H⟩ | ⟨c156, H⟩
    ·
      refine WC.cond_t ((show _ = Value.bool (x116 == (32 : UInt8)) from rfl).trans (congrArg Value.bool c156)) ?_
      refine WC.skip ?_
      obtain rfl := Option.some.inj H
      exact ⟨_, HF, hB0, hG, s0_104, s2_105, rfl, rfl⟩
    ·
      refine WC.cond_f ((show _ = Value.bool (x116 == (32 : UInt8)) from rfl).trans (congrArg Value.bool c156)) ?_
      refine WC.seq ?_
      refine WC.region ?_
      refine WL.ex rfl (ex_bin (a := enc8 x116) (b := enc8 (9 : UInt8)) (v := .bool (x116 == (9 : UInt8))) rfl rfl bin_eql_u8) ?_
      refine WL.ex rfl (ex_assign (v := .bool (x116 == (9 : UInt8))) rfl) ?_
      refine WL.nil ?_
      rcases condE H with ⟨c157, H⟩ | ⟨c157, H⟩
      ·
        refine WC.cond_t ((show _ = Value.bool (x116 == (9 : UInt8)) from rfl).trans (congrArg Value.bool c157)) ?_
        refine WC.skip ?_
        obtain rfl := Option.some.inj H
        exact ⟨_, HF, hB0, hG, s0_104, s2_105, rfl, rfl⟩
      ·
        refine WC.cond_f ((show _ = Value.bool (x116 == (9 : UInt8)) from rfl).trans (congrArg Value.bool c157)) ?_
        refine WC.seq ?_
        refine WC.region ?_
        refine WL.ex rfl (ex_bin (a := enc8 x116) (b := enc8 (10 : UInt8)) (v := .bool (x116 == (10 : UInt8))) rfl rfl bin_eql_u8) ?_
        refine WL.ex rfl (ex_assign (v := .bool (x116 == (10 : UInt8))) rfl) ?_
        refine WL.nil ?_
        rcases condE H with ⟨c158, H⟩ | ⟨c158, H⟩
        ·
          refine WC.cond_t ((show _ = Value.bool (x116 == (10 : UInt8)) from rfl).trans (congrArg Value.bool c158)) ?_
          refine WC.skip ?_
          obtain rfl := Option.some.inj H
          exact ⟨_, HF, hB0, hG, s0_104, s2_105, rfl, rfl⟩
        ·
          refine WC.cond_f ((show _ = Value.bool (x116 == (10 : UInt8)) from rfl).trans (congrArg Value.bool c158)) ?_
          refine WC.region ?_
          refine WL.ex rfl (ex_bin (a := enc8 x116) (b := enc8 (13 : UInt8)) (v := .bool (x116 == (13 : UInt8))) rfl rfl bin_eql_u8) ?_
          refine WL.ex rfl (ex_assign (v := .bool (x116 == (13 : UInt8))) rfl) ?_
          refine WL.nil ?_
          obtain rfl := Option.some.inj H
          exact ⟨_, HF, hB0, hG, s0_104, s2_105, rfl, rfl⟩
  ·
    refine WC.cond_f ((show _ = Value.bool (!(x105 == ([] : List UInt8))) from rfl).trans (congrArg Value.bool c115)) ?_
    refine WC.exit ?_
    obtain rfl := Option.some.inj H
    exact ⟨_, HF, hB0, hG⟩

/-! ### token_letter -/
set_option maxRecDepth 100000 in
theorem token_letter.calls (o0 : Tags) (w0 : World) (a0 : UInt8) (r : Bool) (hO : ∀ b, b < w0.heap.size → o0 b < 10) (H : token_letter.f a0 = some r) :
    Calls Tryd.prog 38 [enc8 a0].toArray w0 fun e_ w_ => ∃ (o_ : Tags), e_ = .returned (one [.bool r]) ∧ Step o0 w0 o_ w_ [] := by
  have HF := Fm.refl hO []
  unfold token_letter.f at H
  refine SX.calls [enc8 a0] Tryd.func38 rfl rfl ?_
  rw [Tryd.ntmps38]
  refine WC.seq ?_
  refine WC.region ?_
  refine WL.ex rfl (ex_assign (v := .bool false) rfl) ?_
  refine WL.nil ?_
  refine WC.seq ?_
  refine WC.region ?_
  refine WL.ex rfl (ex_move (v := enc8 a0) rfl) ?_
  refine WL.ex rfl (ex_bin (a := enc8 a0) (b := enc8 (32 : UInt8)) (v := enc8 (a0 ||| (32 : UInt8))) rfl rfl bin_or_u8) ?_
  refine WL.ex rfl (ex_bin (a := enc8 (a0 ||| (32 : UInt8))) (b := enc8 (97 : UInt8)) (v := .bool (decide ((97 : UInt8) ≤ (a0 ||| (32 : UInt8))))) rfl rfl bin_geq_u8) ?_
  refine WL.ex rfl (ex_move (v := .bool (decide ((97 : UInt8) ≤ (a0 ||| (32 : UInt8))))) rfl) ?_
  rcases condE H with ⟨c101, H⟩ | ⟨c101, H⟩
  ·
    refine WL.guardYes rfl rfl rfl ((show _ = Value.bool (decide ((97 : UInt8) ≤ (a0 ||| (32 : UInt8)))) from rfl).trans (congrArg Value.bool c101)) ?_
    refine OW.ex rfl (ex_move (v := enc8 a0) rfl) ?_
    refine WL.guardYes rfl rfl rfl ((show _ = Value.bool (decide ((97 : UInt8) ≤ (a0 ||| (32 : UInt8)))) from rfl).trans (congrArg Value.bool c101)) ?_
    refine OW.ex rfl (ex_bin (a := enc8 a0) (b := enc8 (32 : UInt8)) (v := enc8 (a0 ||| (32 : UInt8))) rfl rfl bin_or_u8) ?_
    refine WL.guardYes rfl rfl rfl ((show _ = Value.bool (decide ((97 : UInt8) ≤ (a0 ||| (32 : UInt8)))) from rfl).trans (congrArg Value.bool c101)) ?_
    refine OW.ex rfl (ex_bin (a := enc8 (a0 ||| (32 : UInt8))) (b := enc8 (122 : UInt8)) (v := .bool (decide ((a0 ||| (32 : UInt8)) ≤ (122 : UInt8)))) rfl rfl bin_leq_u8) ?_
    refine WL.ex rfl (ex_pick_t (v := .bool (decide ((a0 ||| (32 : UInt8)) ≤ (122 : UInt8)))) ((show _ = Value.bool (decide ((97 : UInt8) ≤ (a0 ||| (32 : UInt8)))) from rfl).trans (congrArg Value.bool c101)) rfl) ?_
    refine WL.ex rfl (ex_move (v := .bool (decide ((a0 ||| (32 : UInt8)) ≤ (122 : UInt8)))) rfl) ?_
    rcases condE H with ⟨c102, H⟩ | ⟨c102, H⟩
    ·
      refine WL.guardNo rfl rfl rfl ((show _ = Value.bool (decide ((a0 ||| (32 : UInt8)) ≤ (122 : UInt8))) from rfl).trans (congrArg Value.bool c102)) ?_
      refine WL.guardNo rfl rfl rfl ((show _ = Value.bool (decide ((a0 ||| (32 : UInt8)) ≤ (122 : UInt8))) from rfl).trans (congrArg Value.bool c102)) ?_
      refine WL.ex rfl (ex_pick_t (v := .bool true) ((show _ = Value.bool (decide ((a0 ||| (32 : UInt8)) ≤ (122 : UInt8))) from rfl).trans (congrArg Value.bool c102)) rfl) ?_
      refine WL.ex rfl (ex_assign (v := .bool true) rfl) ?_
      refine WL.nil ?_
      refine WC.ret ?_
      obtain rfl := Option.some.inj H
      exact ⟨_, (.tmp (.bool true : Value) rfl .nil), _, rfl, HF.out⟩
    ·
      refine WL.guardYes rfl rfl rfl ((show _ = Value.bool (decide ((a0 ||| (32 : UInt8)) ≤ (122 : UInt8))) from rfl).trans (congrArg Value.bool c102)) ?_
      refine OW.ex rfl (ex_move (v := enc8 a0) rfl) ?_
      refine WL.guardYes rfl rfl rfl ((show _ = Value.bool (decide ((a0 ||| (32 : UInt8)) ≤ (122 : UInt8))) from rfl).trans (congrArg Value.bool c102)) ?_
      refine OW.ex rfl (ex_bin (a := enc8 a0) (b := enc8 (95 : UInt8)) (v := .bool (a0 == (95 : UInt8))) rfl rfl bin_eql_u8) ?_
      refine WL.ex rfl (ex_pick_f (v := .bool (a0 == (95 : UInt8))) ((show _ = Value.bool (decide ((a0 ||| (32 : UInt8)) ≤ (122 : UInt8))) from rfl).trans (congrArg Value.bool c102)) rfl) ?_
      refine WL.ex rfl (ex_assign (v := .bool (a0 == (95 : UInt8))) rfl) ?_
      refine WL.nil ?_
      refine WC.ret ?_
      obtain rfl := Option.some.inj H
      exact ⟨_, (.tmp (.bool (a0 == (95 : UInt8)) : Value) rfl .nil), _, rfl, HF.out⟩
  ·
    refine WL.guardNo rfl rfl rfl ((show _ = Value.bool (decide ((97 : UInt8) ≤ (a0 ||| (32 : UInt8)))) from rfl).trans (congrArg Value.bool c101)) ?_
    refine WL.guardNo rfl rfl rfl ((show _ = Value.bool (decide ((97 : UInt8) ≤ (a0 ||| (32 : UInt8)))) from rfl).trans (congrArg Value.bool c101)) ?_
    refine WL.guardNo rfl rfl rfl ((show _ = Value.bool (decide ((97 : UInt8) ≤ (a0 ||| (32 : UInt8)))) from rfl).trans (congrArg Value.bool c101)) ?_
    refine WL.ex rfl (ex_pick_f (v := .bool false) ((show _ = Value.bool (decide ((97 : UInt8) ≤ (a0 ||| (32 : UInt8)))) from rfl).trans (congrArg Value.bool c101)) rfl) ?_
    refine WL.ex rfl (ex_move (v := .bool false) rfl) ?_
    refine WL.guardYes rfl rfl rfl rfl ?_
    refine OW.ex rfl (ex_move (v := enc8 a0) rfl) ?_
    refine WL.guardYes rfl rfl rfl rfl ?_
    refine OW.ex rfl (ex_bin (a := enc8 a0) (b := enc8 (95 : UInt8)) (v := .bool (a0 == (95 : UInt8))) rfl rfl bin_eql_u8) ?_
    refine WL.ex rfl (ex_pick_f (v := .bool (a0 == (95 : UInt8))) rfl rfl) ?_
    refine WL.ex rfl (ex_assign (v := .bool (a0 == (95 : UInt8))) rfl) ?_
    refine WL.nil ?_
    refine WC.ret ?_
    obtain rfl := Option.some.inj H
    exact ⟨_, (.tmp (.bool (a0 == (95 : UInt8)) : Value) rfl .nil), _, rfl, HF.out⟩

/-! ### token_digit -/
set_option maxRecDepth 100000 in
theorem token_digit.calls (o0 : Tags) (w0 : World) (a0 : UInt8) (r : Bool) (hO : ∀ b, b < w0.heap.size → o0 b < 10) (H : token_digit.f a0 = some r) :
    Calls Tryd.prog 41 [enc8 a0].toArray w0 fun e_ w_ => ∃ (o_ : Tags), e_ = .returned (one [.bool r]) ∧ Step o0 w0 o_ w_ [] := by
  have HF := Fm.refl hO []
  unfold token_digit.f at H
  refine SX.calls [enc8 a0] Tryd.func41 rfl rfl ?_
  rw [Tryd.ntmps41]
  refine WC.seq ?_
  refine WC.region ?_
  refine WL.ex rfl (ex_assign (v := .bool false) rfl) ?_
  refine WL.nil ?_
  refine WC.seq ?_
  refine WC.region ?_
  refine WL.ex rfl (ex_move (v := enc8 a0) rfl) ?_
  refine WL.ex rfl (ex_bin (a := enc8 a0) (b := enc8 (48 : UInt8)) (v := .bool (decide ((48 : UInt8) ≤ a0))) rfl rfl bin_geq_u8) ?_
  refine WL.ex rfl (ex_move (v := .bool (decide ((48 : UInt8) ≤ a0))) rfl) ?_
  rcases condE H with ⟨c101, H⟩ | ⟨c101, H⟩
  ·
    refine WL.guardYes rfl rfl rfl ((show _ = Value.bool (decide ((48 : UInt8) ≤ a0)) from rfl).trans (congrArg Value.bool c101)) ?_
    refine OW.ex rfl (ex_move (v := enc8 a0) rfl) ?_
    refine WL.guardYes rfl rfl rfl ((show _ = Value.bool (decide ((48 : UInt8) ≤ a0)) from rfl).trans (congrArg Value.bool c101)) ?_
    refine OW.ex rfl (ex_bin (a := enc8 a0) (b := enc8 (57 : UInt8)) (v := .bool (decide (a0 ≤ (57 : UInt8)))) rfl rfl bin_leq_u8) ?_
    refine WL.ex rfl (ex_pick_t (v := .bool (decide (a0 ≤ (57 : UInt8)))) ((show _ = Value.bool (decide ((48 : UInt8) ≤ a0)) from rfl).trans (congrArg Value.bool c101)) rfl) ?_
    refine WL.ex rfl (ex_assign (v := .bool (decide (a0 ≤ (57 : UInt8)))) rfl) ?_
    refine WL.nil ?_
    refine WC.ret ?_
    obtain rfl := Option.some.inj H
    exact ⟨_, (.tmp (.bool (decide (a0 ≤ (57 : UInt8))) : Value) rfl .nil), _, rfl, HF.out⟩
  ·
    refine WL.guardNo rfl rfl rfl ((show _ = Value.bool (decide ((48 : UInt8) ≤ a0)) from rfl).trans (congrArg Value.bool c101)) ?_
    refine WL.guardNo rfl rfl rfl ((show _ = Value.bool (decide ((48 : UInt8) ≤ a0)) from rfl).trans (congrArg Value.bool c101)) ?_
    refine WL.ex rfl (ex_pick_f (v := .bool false) ((show _ = Value.bool (decide ((48 : UInt8) ≤ a0)) from rfl).trans (congrArg Value.bool c101)) rfl) ?_
    refine WL.ex rfl (ex_assign (v := .bool false) rfl) ?_
    refine WL.nil ?_
    refine WC.ret ?_
    obtain rfl := Option.some.inj H
    exact ⟨_, (.tmp (.bool false : Value) rfl .nil), _, rfl, HF.out⟩

/-! ### token_tail -/
set_option maxRecDepth 100000 in
theorem token_tail.calls (o0 : Tags) (w0 : World) (a0 : UInt8) (r : Bool) (hO : ∀ b, b < w0.heap.size → o0 b < 10) (H : token_tail.f a0 = some r) :
    Calls Tryd.prog 40 [enc8 a0].toArray w0 fun e_ w_ => ∃ (o_ : Tags), e_ = .returned (one [.bool r]) ∧ Step o0 w0 o_ w_ [] := by
  have HF := Fm.refl hO []
  unfold token_tail.f at H
  refine SX.calls [enc8 a0] Tryd.func40 rfl rfl ?_
  rw [Tryd.ntmps40]
  refine WC.seq ?_
  refine WC.region ?_
  refine WL.ex rfl (ex_assign (v := .bool false) rfl) ?_
  refine WL.nil ?_
  refine WC.seq ?_
  refine WC.region ?_
  refine WL.ex rfl (ex_move (v := enc8 a0) rfl) ?_
  obtain ⟨z101, hz101, H⟩ := bindE H
  refine WL.op rfl ?_
  refine OW.call [enc8 a0] rfl Tryd.func38 (by kernel_rfl) (by kernel_rfl) (map_cons' rfl rfl) (token_letter.calls _ _ a0 z101 (HF.ten (V := [0]) (L := []) rfl)  hz101) ?_
  rintro _ w102 ⟨o103, rfl, s104⟩
  refine ⟨_, rfl, ?_⟩
  replace s104 := un_stepL (J := []) (L' := []) s104 rfl rfl
  replace HF := HF.step s104 rfl
  refine WL.ex rfl (ex_move (v := .bool z101) rfl) ?_
  rcases condE H with ⟨c105, H⟩ | ⟨c105, H⟩
  ·
    refine WL.guardNo rfl rfl rfl ((show _ = Value.bool z101 from rfl).trans (congrArg Value.bool c105)) ?_
    refine WL.guardNo rfl rfl rfl ((show _ = Value.bool z101 from rfl).trans (congrArg Value.bool c105)) ?_
    refine WL.ex rfl (ex_pick_t (v := .bool true) ((show _ = Value.bool z101 from rfl).trans (congrArg Value.bool c105)) rfl) ?_
    refine WL.ex rfl (ex_move (v := .bool true) rfl) ?_
    refine WL.guardNo rfl rfl rfl rfl ?_
    refine WL.guardNo rfl rfl rfl rfl ?_
    refine WL.ex rfl (ex_pick_t (v := .bool true) rfl rfl) ?_
    refine WL.ex rfl (ex_assign (v := .bool true) rfl) ?_
    refine WL.nil ?_
    refine WC.ret ?_
    obtain rfl := Option.some.inj H
    exact ⟨_, (.tmp (.bool true : Value) rfl .nil), _, rfl, HF.out⟩
  ·
    refine WL.guardYes rfl rfl rfl ((show _ = Value.bool z101 from rfl).trans (congrArg Value.bool c105)) ?_
    refine OW.ex rfl (ex_move (v := enc8 a0) rfl) ?_
    refine WL.guardYes rfl rfl rfl ((show _ = Value.bool z101 from rfl).trans (congrArg Value.bool c105)) ?_
    obtain ⟨z106, hz106, H⟩ := bindE H
    refine OW.call [enc8 a0] rfl Tryd.func41 (by kernel_rfl) (by kernel_rfl) (map_cons' rfl rfl) (token_digit.calls _ _ a0 z106 (HF.ten (V := [0]) (L := []) rfl)  hz106) ?_
    rintro _ w107 ⟨o108, rfl, s109⟩
    refine ⟨_, rfl, ?_⟩
    replace s109 := un_stepL (J := []) (L' := []) s109 rfl rfl
    replace HF := HF.step s109 rfl
    refine WL.ex rfl (ex_pick_f (v := .bool z106) ((show _ = Value.bool z101 from rfl).trans (congrArg Value.bool c105)) rfl) ?_
    refine WL.ex rfl (ex_move (v := .bool z106) rfl) ?_
    rcases condE H with ⟨c110, H⟩ | ⟨c110, H⟩
    ·
      refine WL.guardNo rfl rfl rfl ((show _ = Value.bool z106 from rfl).trans (congrArg Value.bool c110)) ?_
      refine WL.guardNo rfl rfl rfl ((show _ = Value.bool z106 from rfl).trans (congrArg Value.bool c110)) ?_
      refine WL.ex rfl (ex_pick_t (v := .bool true) ((show _ = Value.bool z106 from rfl).trans (congrArg Value.bool c110)) rfl) ?_
      refine WL.ex rfl (ex_assign (v := .bool true) rfl) ?_
      refine WL.nil ?_
      refine WC.ret ?_
      obtain rfl := Option.some.inj H
      exact ⟨_, (.tmp (.bool true : Value) rfl .nil), _, rfl, HF.out⟩
    ·
      refine WL.guardYes rfl rfl rfl ((show _ = Value.bool z106 from rfl).trans (congrArg Value.bool c110)) ?_
      refine OW.ex rfl (ex_move (v := enc8 a0) rfl) ?_
      refine WL.guardYes rfl rfl rfl ((show _ = Value.bool z106 from rfl).trans (congrArg Value.bool c110)) ?_
      refine OW.ex rfl (ex_bin (a := enc8 a0) (b := enc8 (39 : UInt8)) (v := .bool (a0 == (39 : UInt8))) rfl rfl bin_eql_u8) ?_
      refine WL.ex rfl (ex_pick_f (v := .bool (a0 == (39 : UInt8))) ((show _ = Value.bool z106 from rfl).trans (congrArg Value.bool c110)) rfl) ?_
      refine WL.ex rfl (ex_assign (v := .bool (a0 == (39 : UInt8))) rfl) ?_
      refine WL.nil ?_
      refine WC.ret ?_
      obtain rfl := Option.some.inj H
      exact ⟨_, (.tmp (.bool (a0 == (39 : UInt8)) : Value) rfl .nil), _, rfl, HF.out⟩

/-! ### token_run_token_tail -/
set_option maxRecDepth 100000 in
theorem token_run_token_tail.calls (k : Nat) (o0 : Tags) (w0 : World) (a0 : List UInt8) (r : Int) (hO : ∀ b, b < w0.heap.size → o0 b < 10) (H : token_run_token_tail.f k a0 = some r) :
    Calls Tryd.prog 39 [encS a0, .func (.func 40) #[] #[]].toArray w0 fun e_ w_ => ∃ (o_ : Tags), e_ = .returned (one [.int .i64 r]) ∧ Step o0 w0 o_ w_ [] := by
  have HF := Fm.refl hO []
  unfold token_run_token_tail.f at H
  refine SX.calls [encS a0, .func (.func 40) #[] #[]] Tryd.func39 rfl rfl ?_
  rw [Tryd.ntmps39]
  refine WC.seq ?_
  refine WC.region ?_
  refine WL.ex rfl (ex_assign (v := .int .i64 0) rfl) ?_
  refine WL.nil ?_
  refine WC.seq ?_
  refine WC.region ?_
  refine WL.ex rfl (ex_assign (v := .int .i64 0) rfl) ?_
  refine WL.nil ?_
  refine WC.seq ?_
  obtain ⟨z103, hz103, H⟩ := bindE H
  refine WC.for (fun k_ ρ_ w_ => ∃ (o_ : Tags) (x101 : Int), Fm o0 w0 o_ w_ [] ∧ ρ_ 0 = encS a0 ∧ ρ_ 1 = .func (.func 40) #[] #[] ∧ ρ_ 4 = .int .i64 0 ∧ ρ_ 5 = .int .i64 x101 ∧ token_run_token_tail.l1 k a0 k_ x101 = some z103) k (fun ρ_ w_ => ∃ (o_ : Tags), Fm o0 w0 o_ w_ [] ∧ ρ_ 4 = .int .i64 0 ∧ ρ_ 5 = .int .i64 z103) ⟨_, 0, HF, rfl, rfl, rfl, rfl, hz103⟩ ?case104 ?_
  case case104 =>
    rintro ρ126 w124 ⟨o125, HF, s4_101, s5_102⟩
    refine WC.seq ?_
    refine WC.region ?_
    refine WL.ex rfl (ex_move (v := .int .i64 z103) s5_102) ?_
    refine WL.ex rfl (ex_assign (v := .int .i64 z103) rfl) ?_
    refine WL.nil ?_
    refine WC.ret ?_
    obtain rfl := Option.some.inj H
    exact ⟨_, (.tmp (.int .i64 z103 : Value) rfl .nil), _, rfl, HF.out⟩
  have Ho105 := H
  rintro k106 ρ107 w108 ⟨o109, x101, HF, s0_100, s1_100, s4_100, s5_101, H⟩
  cases k106 with
  | zero => cases H
  | succ k106 =>
  rw [token_run_token_tail.l1.eq_2] at H
  refine WC.seq ?_
  obtain ⟨z111, hz111, H⟩ := bindE H
  refine WC.cut (fun ρ_ w_ => ∃ (o_ : Tags), Fm o0 w0 o_ w_ [] ∧ ρ_ 0 = encS a0 ∧ ρ_ 1 = .func (.func 40) #[] #[] ∧ ρ_ 4 = .int .i64 0 ∧ ρ_ 5 = .int .i64 x101 ∧ ρ_ 16 = .bool z111) ?case112 ?_
  case case112 =>
    rintro ρ115 w113 ⟨o114, HF, s0_109, s1_109, s4_109, s5_109, s16_110⟩
    rcases condE H with ⟨c116, H⟩ | ⟨c116, H⟩
    ·
      refine WC.cond_t ((show _ = Value.bool z111 from s16_110).trans (congrArg Value.bool c116)) ?_
      refine WC.skip ?_
      refine WC.block ?_
      refine WC.region ?_
      refine WL.ex rfl (ex_move (v := .int .i64 x101) s5_109) ?_
      refine WL.ex rfl (ex_bin (a := .int .i64 x101) (b := .int .i64 1) (v := .int .i64 (wrap64 (x101 + 1))) rfl rfl bin_add64) ?_
      refine WL.ex rfl (ex_assign (v := .int .i64 (wrap64 (x101 + 1))) rfl) ?_
      refine WL.nil ?_
      exact ⟨k106, Nat.lt_succ_self _, ⟨_, wrap64 (x101 + 1), HF, s0_109, s1_109, s4_109, rfl, H⟩⟩
    ·
      refine WC.cond_f ((show _ = Value.bool z111 from s16_110).trans (congrArg Value.bool c116)) ?_
      refine WC.exit ?_
      obtain rfl := Option.some.inj H
      exact ⟨_, HF, s4_109, s5_109⟩
  have Ho117 := H
  replace H := hz111
  refine WC.region ?_
  refine WL.ex rfl (ex_move (v := .int .i64 x101) s5_101) ?_
  refine WL.ex rfl (ex_move (v := encS a0) s0_100) ?_
  refine WL.ex rfl (ex_len_str (s := a0) rfl Tryd.underlying9) ?_
  refine WL.ex rfl (ex_bin (a := .int .i64 x101) (b := .int .i64 (a0.length : Int)) (v := .bool (decide (x101 < (a0.length : Int)))) rfl rfl bin_lss) ?_
  refine WL.ex rfl (ex_move (v := .bool (decide (x101 < (a0.length : Int)))) rfl) ?_
  rcases condE H with ⟨c118, H⟩ | ⟨c118, H⟩
  ·
    refine WL.guardYes rfl rfl rfl ((show _ = Value.bool (decide (x101 < (a0.length : Int))) from rfl).trans (congrArg Value.bool c118)) ?_
    refine OW.ex rfl (ex_move (v := .func (.func 40) #[] #[]) s1_100) ?_
    refine WL.guardYes rfl rfl rfl ((show _ = Value.bool (decide (x101 < (a0.length : Int))) from rfl).trans (congrArg Value.bool c118)) ?_
    refine OW.ex rfl (ex_move (v := encS a0) s0_100) ?_
    refine WL.guardYes rfl rfl rfl ((show _ = Value.bool (decide (x101 < (a0.length : Int))) from rfl).trans (congrArg Value.bool c118)) ?_
    refine OW.ex rfl (ex_move (v := .int .i64 x101) s5_101) ?_
    refine WL.guardYes rfl rfl rfl ((show _ = Value.bool (decide (x101 < (a0.length : Int))) from rfl).trans (congrArg Value.bool c118)) ?_
    obtain ⟨x119, hx119, H⟩ := bindE H
    refine OW.ex rfl (ex_index_str (i := x101) rfl rfl Tryd.underlying9 (ix_some hx119).1 (ix_some hx119).2.2) ?_
    refine WL.guardYes rfl rfl rfl ((show _ = Value.bool (decide (x101 < (a0.length : Int))) from rfl).trans (congrArg Value.bool c118)) ?_
    obtain ⟨z120, hz120, H⟩ := bindE H
    refine OW.callV (show ev _ _ = .func (.func 40) #[] #[] from rfl) [enc8 x119] rfl Tryd.func40 (by kernel_rfl) (by kernel_rfl) (map_cons' rfl rfl) (token_tail.calls _ _ x119 z120 (HF.ten (V := [0]) (L := []) rfl)  hz120) ?_
    rintro _ w121 ⟨o122, rfl, s123⟩
    refine ⟨_, rfl, ?_⟩
    replace s123 := un_stepL (J := []) (L' := []) s123 rfl rfl
    replace HF := HF.step s123 rfl
    refine WL.ex rfl (ex_pick_t (v := .bool z120) ((show _ = Value.bool (decide (x101 < (a0.length : Int))) from rfl).trans (congrArg Value.bool c118)) rfl) ?_
    refine WL.nil ?_
    obtain rfl := Option.some.inj H
    exact ⟨_, HF, s0_100, s1_100, s4_100, s5_101, rfl⟩
  ·
    refine WL.guardNo rfl rfl rfl ((show _ = Value.bool (decide (x101 < (a0.length : Int))) from rfl).trans (congrArg Value.bool c118)) ?_
    refine WL.guardNo rfl rfl rfl ((show _ = Value.bool (decide (x101 < (a0.length : Int))) from rfl).trans (congrArg Value.bool c118)) ?_
    refine WL.guardNo rfl rfl rfl ((show _ = Value.bool (decide (x101 < (a0.length : Int))) from rfl).trans (congrArg Value.bool c118)) ?_
    refine WL.guardNo rfl rfl rfl ((show _ = Value.bool (decide (x101 < (a0.length : Int))) from rfl).trans (congrArg Value.bool c118)) ?_
    refine WL.guardNo rfl rfl rfl ((show _ = Value.bool (decide (x101 < (a0.length : Int))) from rfl).trans (congrArg Value.bool c118)) ?_
    refine WL.ex rfl (ex_pick_f (v := .bool false) ((show _ = Value.bool (decide (x101 < (a0.length : Int))) from rfl).trans (congrArg Value.bool c118)) rfl) ?_
    refine WL.nil ?_
    obtain rfl := Option.some.inj H
    exact ⟨_, HF, s0_100, s1_100, s4_100, s5_101, rfl⟩

/-! ### token_run_token_digit -/
set_option maxRecDepth 100000 in
theorem token_run_token_digit.calls (k : Nat) (o0 : Tags) (w0 : World) (a0 : List UInt8) (r : Int) (hO : ∀ b, b < w0.heap.size → o0 b < 10) (H : token_run_token_digit.f k a0 = some r) :
    Calls Tryd.prog 39 [encS a0, .func (.func 41) #[] #[]].toArray w0 fun e_ w_ => ∃ (o_ : Tags), e_ = .returned (one [.int .i64 r]) ∧ Step o0 w0 o_ w_ [] := by
  have HF := Fm.refl hO []
  unfold token_run_token_digit.f at H
  refine SX.calls [encS a0, .func (.func 41) #[] #[]] Tryd.func39 rfl rfl ?_
  rw [Tryd.ntmps39]
  refine WC.seq ?_
  refine WC.region ?_
  refine WL.ex rfl (ex_assign (v := .int .i64 0) rfl) ?_
  refine WL.nil ?_
  refine WC.seq ?_
  refine WC.region ?_
  refine WL.ex rfl (ex_assign (v := .int .i64 0) rfl) ?_
  refine WL.nil ?_
  refine WC.seq ?_
  obtain ⟨z103, hz103, H⟩ := bindE H
  refine WC.for (fun k_ ρ_ w_ => ∃ (o_ : Tags) (x101 : Int), Fm o0 w0 o_ w_ [] ∧ ρ_ 0 = encS a0 ∧ ρ_ 1 = .func (.func 41) #[] #[] ∧ ρ_ 4 = .int .i64 0 ∧ ρ_ 5 = .int .i64 x101 ∧ token_run_token_digit.l1 k a0 k_ x101 = some z103) k (fun ρ_ w_ => ∃ (o_ : Tags), Fm o0 w0 o_ w_ [] ∧ ρ_ 4 = .int .i64 0 ∧ ρ_ 5 = .int .i64 z103) ⟨_, 0, HF, rfl, rfl, rfl, rfl, hz103⟩ ?case104 ?_
  case case104 =>
    rintro ρ126 w124 ⟨o125, HF, s4_101, s5_102⟩
    refine WC.seq ?_
    refine WC.region ?_
    refine WL.ex rfl (ex_move (v := .int .i64 z103) s5_102) ?_
    refine WL.ex rfl (ex_assign (v := .int .i64 z103) rfl) ?_
    refine WL.nil ?_
    refine WC.ret ?_
    obtain rfl := Option.some.inj H
    exact ⟨_, (.tmp (.int .i64 z103 : Value) rfl .nil), _, rfl, HF.out⟩
  have Ho105 := H
  rintro k106 ρ107 w108 ⟨o109, x101, HF, s0_100, s1_100, s4_100, s5_101, H⟩
  cases k106 with
  | zero => cases H
  | succ k106 =>
  rw [token_run_token_digit.l1.eq_2] at H
  refine WC.seq ?_
  obtain ⟨z111, hz111, H⟩ := bindE H
  refine WC.cut (fun ρ_ w_ => ∃ (o_ : Tags), Fm o0 w0 o_ w_ [] ∧ ρ_ 0 = encS a0 ∧ ρ_ 1 = .func (.func 41) #[] #[] ∧ ρ_ 4 = .int .i64 0 ∧ ρ_ 5 = .int .i64 x101 ∧ ρ_ 16 = .bool z111) ?case112 ?_
  case case112 =>
    rintro ρ115 w113 ⟨o114, HF, s0_109, s1_109, s4_109, s5_109, s16_110⟩
    rcases condE H with ⟨c116, H⟩ | ⟨c116, H⟩
    ·
      refine WC.cond_t ((show _ = Value.bool z111 from s16_110).trans (congrArg Value.bool c116)) ?_
      refine WC.skip ?_
      refine WC.block ?_
      refine WC.region ?_
      refine WL.ex rfl (ex_move (v := .int .i64 x101) s5_109) ?_
      refine WL.ex rfl (ex_bin (a := .int .i64 x101) (b := .int .i64 1) (v := .int .i64 (wrap64 (x101 + 1))) rfl rfl bin_add64) ?_
      refine WL.ex rfl (ex_assign (v := .int .i64 (wrap64 (x101 + 1))) rfl) ?_
      refine WL.nil ?_
      exact ⟨k106, Nat.lt_succ_self _, ⟨_, wrap64 (x101 + 1), HF, s0_109, s1_109, s4_109, rfl, H⟩⟩
    ·
      refine WC.cond_f ((show _ = Value.bool z111 from s16_110).trans (congrArg Value.bool c116)) ?_
      refine WC.exit ?_
      obtain rfl := Option.some.inj H
      exact ⟨_, HF, s4_109, s5_109⟩
  have Ho117 := H
  replace H := hz111
  refine WC.region ?_
  refine WL.ex rfl (ex_move (v := .int .i64 x101) s5_101) ?_
  refine WL.ex rfl (ex_move (v := encS a0) s0_100) ?_
  refine WL.ex rfl (ex_len_str (s := a0) rfl Tryd.underlying9) ?_
  refine WL.ex rfl (ex_bin (a := .int .i64 x101) (b := .int .i64 (a0.length : Int)) (v := .bool (decide (x101 < (a0.length : Int)))) rfl rfl bin_lss) ?_
  refine WL.ex rfl (ex_move (v := .bool (decide (x101 < (a0.length : Int)))) rfl) ?_
  rcases condE H with ⟨c118, H⟩ | ⟨c118, H⟩
  ·
    refine WL.guardYes rfl rfl rfl ((show _ = Value.bool (decide (x101 < (a0.length : Int))) from rfl).trans (congrArg Value.bool c118)) ?_
    refine OW.ex rfl (ex_move (v := .func (.func 41) #[] #[]) s1_100) ?_
    refine WL.guardYes rfl rfl rfl ((show _ = Value.bool (decide (x101 < (a0.length : Int))) from rfl).trans (congrArg Value.bool c118)) ?_
    refine OW.ex rfl (ex_move (v := encS a0) s0_100) ?_
    refine WL.guardYes rfl rfl rfl ((show _ = Value.bool (decide (x101 < (a0.length : Int))) from rfl).trans (congrArg Value.bool c118)) ?_
    refine OW.ex rfl (ex_move (v := .int .i64 x101) s5_101) ?_
    refine WL.guardYes rfl rfl rfl ((show _ = Value.bool (decide (x101 < (a0.length : Int))) from rfl).trans (congrArg Value.bool c118)) ?_
    obtain ⟨x119, hx119, H⟩ := bindE H
    refine OW.ex rfl (ex_index_str (i := x101) rfl rfl Tryd.underlying9 (ix_some hx119).1 (ix_some hx119).2.2) ?_
    refine WL.guardYes rfl rfl rfl ((show _ = Value.bool (decide (x101 < (a0.length : Int))) from rfl).trans (congrArg Value.bool c118)) ?_
    obtain ⟨z120, hz120, H⟩ := bindE H
    refine OW.callV (show ev _ _ = .func (.func 41) #[] #[] from rfl) [enc8 x119] rfl Tryd.func41 (by kernel_rfl) (by kernel_rfl) (map_cons' rfl rfl) (token_digit.calls _ _ x119 z120 (HF.ten (V := [0]) (L := []) rfl)  hz120) ?_
    rintro _ w121 ⟨o122, rfl, s123⟩
    refine ⟨_, rfl, ?_⟩
    replace s123 := un_stepL (J := []) (L' := []) s123 rfl rfl
    replace HF := HF.step s123 rfl
    refine WL.ex rfl (ex_pick_t (v := .bool z120) ((show _ = Value.bool (decide (x101 < (a0.length : Int))) from rfl).trans (congrArg Value.bool c118)) rfl) ?_
    refine WL.nil ?_
    obtain rfl := Option.some.inj H
    exact ⟨_, HF, s0_100, s1_100, s4_100, s5_101, rfl⟩
  ·
    refine WL.guardNo rfl rfl rfl ((show _ = Value.bool (decide (x101 < (a0.length : Int))) from rfl).trans (congrArg Value.bool c118)) ?_
    refine WL.guardNo rfl rfl rfl ((show _ = Value.bool (decide (x101 < (a0.length : Int))) from rfl).trans (congrArg Value.bool c118)) ?_
    refine WL.guardNo rfl rfl rfl ((show _ = Value.bool (decide (x101 < (a0.length : Int))) from rfl).trans (congrArg Value.bool c118)) ?_
    refine WL.guardNo rfl rfl rfl ((show _ = Value.bool (decide (x101 < (a0.length : Int))) from rfl).trans (congrArg Value.bool c118)) ?_
    refine WL.guardNo rfl rfl rfl ((show _ = Value.bool (decide (x101 < (a0.length : Int))) from rfl).trans (congrArg Value.bool c118)) ?_
    refine WL.ex rfl (ex_pick_f (v := .bool false) ((show _ = Value.bool (decide (x101 < (a0.length : Int))) from rfl).trans (congrArg Value.bool c118)) rfl) ?_
    refine WL.nil ?_
    obtain rfl := Option.some.inj H
    exact ⟨_, HF, s0_100, s1_100, s4_100, s5_101, rfl⟩


/-! ### strconv.Atoi -/
theorem strconv_Atoi.calls (o0 : Tags) (w0 : World) (a0 : List UInt8) (r : Int × Bool) (hO : ∀ b, b < w0.heap.size → o0 b < 10) (hG : Gl GG o0 w0) (H : strconv_Atoi.f a0 = some r) :
    Calls Tryd.prog 42 [encS a0].toArray w0 fun e_ w_ => ∃ (o_ : Tags) (rv1 : Value), e_ = .returned (one [.int .i64 r.1, rv1]) ∧ Step o0 w0 o_ w_ [] ∧ IsErr r.2 rv1 := by
  unfold strconv_Atoi.f at H
  obtain ⟨u, hu, H⟩ := bindE H
  obtain rfl := Option.some.inj H
  have hl : a0.length ≤ 281474976710656 := of_decide_eq_true (chk_true hu)
  have hs : (⟨a0.toArray⟩ : ByteArray).size ≤ 281474976710656 := by rw [size_enc]; exact hl
  cases hc : Lib.atoiAll a0
  · rename_i v
    refine Calls.mono (Tryd.strconv_Atoi_ok ⟨a0.toArray⟩ (Nat.le_trans hs (by decide)) v hc w0) ?_
    rintro e w ⟨rfl, hw⟩
    refine ⟨o0, .nilIface, by simp [atoiF, hc, one], ?_, by simp [atoiF, hc, IsErr]⟩
    rcases hw with rfl | ⟨t, rfl⟩
    · exact Step.refl _ _ _
    · exact bytesWorld_step o0 w0 5 t
  · obtain ⟨tp, p, hv⟩ := hG.2.2.2.1
    refine Calls.mono (Tryd.strconv_Atoi_syntax_var ⟨a0.toArray⟩ hs (hc.trans (by rfl)) tp p w0 hv) ?_
    rintro e w ⟨N, rfl, _, _, hb⟩
    exact ⟨o0, _, by simp only [atoiF, hc, one]; rfl, below_step hb, by simp only [atoiF, hc, IsErr, cond_true]; exact ⟨_, _, rfl⟩⟩
  · obtain ⟨tp, p, hv⟩ := hG.2.2.2.2
    refine Calls.mono (Tryd.strconv_Atoi_range_var ⟨a0.toArray⟩ hs hc tp p w0 hv) ?_
    rintro e w ⟨N, rfl, _, _, hb⟩
    exact ⟨o0, _, by simp only [atoiF, hc, one]; rfl, below_step hb, by simp only [atoiF, hc, IsErr, cond_true]; exact ⟨_, _, rfl⟩⟩

/-! ### stringslite_HasPrefix -/
set_option maxRecDepth 100000 in
theorem stringslite_HasPrefix.calls (o0 : Tags) (w0 : World) (a0 : List UInt8) (a1 : List UInt8) (r : Bool) (hO : ∀ b, b < w0.heap.size → o0 b < 10) (H : stringslite_HasPrefix.f a0 a1 = some r) :
    Calls Tryd.prog 59 [encS a0, encS a1].toArray w0 fun e_ w_ => ∃ (o_ : Tags), e_ = .returned (one [.bool r]) ∧ Step o0 w0 o_ w_ [] := by
  have HF := Fm.refl hO []
  unfold stringslite_HasPrefix.f at H
  refine SX.calls [encS a0, encS a1] Tryd.func59 rfl rfl ?_
  rw [Tryd.ntmps59]
  refine WC.seq ?_
  refine WC.region ?_
  refine WL.ex rfl (ex_assign (v := .bool false) rfl) ?_
  refine WL.nil ?_
  refine WC.seq ?_
  refine WC.region ?_
  refine WL.ex rfl (ex_move (v := encS a0) rfl) ?_
  refine WL.ex rfl (ex_len_str (s := a0) rfl Tryd.underlying9) ?_
  refine WL.ex rfl (ex_move (v := encS a1) rfl) ?_
  refine WL.ex rfl (ex_len_str (s := a1) rfl Tryd.underlying9) ?_
  refine WL.ex rfl (ex_bin (a := .int .i64 (a0.length : Int)) (b := .int .i64 (a1.length : Int)) (v := .bool (decide ((a0.length : Int) ≥ (a1.length : Int)))) rfl rfl bin_geq) ?_
  refine WL.ex rfl (ex_move (v := .bool (decide ((a0.length : Int) ≥ (a1.length : Int)))) rfl) ?_
  rcases condE H with ⟨c101, H⟩ | ⟨c101, H⟩
  ·
    refine WL.guardYes rfl rfl rfl ((show _ = Value.bool (decide ((a0.length : Int) ≥ (a1.length : Int))) from rfl).trans (congrArg Value.bool c101)) ?_
    refine OW.ex rfl (ex_move (v := encS a0) rfl) ?_
    refine WL.guardYes rfl rfl rfl ((show _ = Value.bool (decide ((a0.length : Int) ≥ (a1.length : Int))) from rfl).trans (congrArg Value.bool c101)) ?_
    refine OW.ex rfl (ex_move (v := encS a1) rfl) ?_
    refine WL.guardYes rfl rfl rfl ((show _ = Value.bool (decide ((a0.length : Int) ≥ (a1.length : Int))) from rfl).trans (congrArg Value.bool c101)) ?_
    refine OW.ex rfl (ex_len_str (s := a1) rfl Tryd.underlying9) ?_
    refine WL.guardYes rfl rfl rfl ((show _ = Value.bool (decide ((a0.length : Int) ≥ (a1.length : Int))) from rfl).trans (congrArg Value.bool c101)) ?_
    obtain ⟨y102, hy102, H⟩ := bindE H
    refine OW.ex rfl (ex_slice_str (l := 0) (h := (a1.length : Int)) rfl Tryd.underlying9 rfl ⟨_, rfl⟩ hy102) ?_
    refine WL.guardYes rfl rfl rfl ((show _ = Value.bool (decide ((a0.length : Int) ≥ (a1.length : Int))) from rfl).trans (congrArg Value.bool c101)) ?_
    refine OW.ex rfl (ex_move (v := encS a1) rfl) ?_
    refine WL.guardYes rfl rfl rfl ((show _ = Value.bool (decide ((a0.length : Int) ≥ (a1.length : Int))) from rfl).trans (congrArg Value.bool c101)) ?_
    refine OW.ex rfl (ex_bin (a := encS y102) (b := encS a1) (v := .bool (y102 == a1)) rfl rfl bin_eql_str) ?_
    refine WL.ex rfl (ex_pick_t (v := .bool (y102 == a1)) ((show _ = Value.bool (decide ((a0.length : Int) ≥ (a1.length : Int))) from rfl).trans (congrArg Value.bool c101)) rfl) ?_
    refine WL.ex rfl (ex_assign (v := .bool (y102 == a1)) rfl) ?_
    refine WL.nil ?_
    refine WC.ret ?_
    obtain rfl := Option.some.inj H
    exact ⟨_, (.tmp (.bool (y102 == a1) : Value) rfl .nil), _, rfl, HF.out⟩
  ·
    refine WL.guardNo rfl rfl rfl ((show _ = Value.bool (decide ((a0.length : Int) ≥ (a1.length : Int))) from rfl).trans (congrArg Value.bool c101)) ?_
    refine WL.guardNo rfl rfl rfl ((show _ = Value.bool (decide ((a0.length : Int) ≥ (a1.length : Int))) from rfl).trans (congrArg Value.bool c101)) ?_
    refine WL.guardNo rfl rfl rfl ((show _ = Value.bool (decide ((a0.length : Int) ≥ (a1.length : Int))) from rfl).trans (congrArg Value.bool c101)) ?_
    refine WL.guardNo rfl rfl rfl ((show _ = Value.bool (decide ((a0.length : Int) ≥ (a1.length : Int))) from rfl).trans (congrArg Value.bool c101)) ?_
    refine WL.guardNo rfl rfl rfl ((show _ = Value.bool (decide ((a0.length : Int) ≥ (a1.length : Int))) from rfl).trans (congrArg Value.bool c101)) ?_
    refine WL.guardNo rfl rfl rfl ((show _ = Value.bool (decide ((a0.length : Int) ≥ (a1.length : Int))) from rfl).trans (congrArg Value.bool c101)) ?_
    refine WL.ex rfl (ex_pick_f (v := .bool false) ((show _ = Value.bool (decide ((a0.length : Int) ≥ (a1.length : Int))) from rfl).trans (congrArg Value.bool c101)) rfl) ?_
    refine WL.ex rfl (ex_assign (v := .bool false) rfl) ?_
    refine WL.nil ?_
    refine WC.ret ?_
    obtain rfl := Option.some.inj H
    exact ⟨_, (.tmp (.bool false : Value) rfl .nil), _, rfl, HF.out⟩

/-! ### strings_HasPrefix -/
set_option maxRecDepth 100000 in
theorem strings_HasPrefix.calls (o0 : Tags) (w0 : World) (a0 : List UInt8) (a1 : List UInt8) (r : Bool) (hO : ∀ b, b < w0.heap.size → o0 b < 10) (H : strings_HasPrefix.f a0 a1 = some r) :
    Calls Tryd.prog 49 [encS a0, encS a1].toArray w0 fun e_ w_ => ∃ (o_ : Tags), e_ = .returned (one [.bool r]) ∧ Step o0 w0 o_ w_ [] := by
  have HF := Fm.refl hO []
  unfold strings_HasPrefix.f at H
  refine SX.calls [encS a0, encS a1] Tryd.func49 rfl rfl ?_
  rw [Tryd.ntmps49]
  refine WC.seq ?_
  refine WC.region ?_
  refine WL.ex rfl (ex_assign (v := .bool false) rfl) ?_
  refine WL.nil ?_
  refine WC.seq ?_
  refine WC.region ?_
  refine WL.ex rfl (ex_move (v := encS a0) rfl) ?_
  refine WL.ex rfl (ex_move (v := encS a1) rfl) ?_
  obtain ⟨z101, hz101, H⟩ := bindE H
  refine WL.op rfl ?_
  refine OW.call [encS a0, encS a1] rfl Tryd.func59 (by kernel_rfl) (by kernel_rfl) (map_cons' rfl (map_cons' rfl rfl)) (stringslite_HasPrefix.calls _ _ a0 a1 z101 (HF.ten (V := [0]) (L := []) rfl)  hz101) ?_
  rintro _ w102 ⟨o103, rfl, s104⟩
  refine ⟨_, rfl, ?_⟩
  replace s104 := un_stepL (J := []) (L' := []) s104 rfl rfl
  replace HF := HF.step s104 rfl
  refine WL.ex rfl (ex_assign (v := .bool z101) rfl) ?_
  refine WL.nil ?_
  refine WC.ret ?_
  obtain rfl := Option.some.inj H
  exact ⟨_, (.tmp (.bool z101 : Value) rfl .nil), _, rfl, HF.out⟩

/-! ### token_sign -/
set_option maxRecDepth 100000 in
theorem token_sign.calls (k : Nat) (o0 : Tags) (w0 : World) (a0 : List UInt8) (r : (List UInt8) × Int) (hO : ∀ b, b < w0.heap.size → o0 b < 10) (hG : Gl GG o0 w0) (H : token_sign.f k a0 = some r) :
    Calls Tryd.prog 33 [encS a0].toArray w0 fun e_ w_ => ∃ (o_ : Tags), e_ = .returned (one [encS r.1, .int .i64 r.2]) ∧ Step o0 w0 o_ w_ [] := by
  have HF := Fm.refl hO []
  unfold token_sign.f at H
  refine SX.calls [encS a0] Tryd.func33 rfl rfl ?_
  rw [Tryd.ntmps33]
  refine WC.seq ?_
  refine WC.region ?_
  refine WL.ex rfl (ex_assign (v := encS ([] : List UInt8)) rfl) ?_
  refine WL.ex rfl (ex_assign (v := .int .i64 0) rfl) ?_
  refine WL.nil ?_
  refine WC.seq ?_
  refine WC.seq ?_
  refine WC.region ?_
  refine WL.ex rfl (ex_buildArr (cs := [encS ([60, 45, 62] : List UInt8), encS ([60, 61] : List UInt8), encS ([61, 62] : List UInt8), encS ([45, 62] : List UInt8), encS ([124, 45] : List UInt8), encS ([126] : List UInt8), encS ([38] : List UInt8), encS ([124] : List UInt8), encS ([40] : List UInt8), encS ([41] : List UInt8), encS ([91] : List UInt8), encS ([93] : List UInt8), encS ([123] : List UInt8), encS ([125] : List UInt8), encS ([44] : List UInt8), encS ([46] : List UInt8), encS ([58] : List UInt8), encS ([59] : List UInt8), encS ([61] : List UInt8), encS ([47] : List UInt8)]) [(0, encS ([60, 45, 62] : List UInt8)), (1, encS ([60, 61] : List UInt8)), (2, encS ([61, 62] : List UInt8)), (3, encS ([45, 62] : List UInt8)), (4, encS ([124, 45] : List UInt8)), (5, encS ([126] : List UInt8)), (6, encS ([38] : List UInt8)), (7, encS ([124] : List UInt8)), (8, encS ([40] : List UInt8)), (9, encS ([41] : List UInt8)), (10, encS ([91] : List UInt8)), (11, encS ([93] : List UInt8)), (12, encS ([123] : List UInt8)), (13, encS ([125] : List UInt8)), (14, encS ([44] : List UInt8)), (15, encS ([46] : List UInt8)), (16, encS ([58] : List UInt8)), (17, encS ([59] : List UInt8)), (18, encS ([61] : List UInt8)), (19, encS ([47] : List UInt8))] [.string ⟨#[]⟩, .string ⟨#[]⟩, .string ⟨#[]⟩, .string ⟨#[]⟩, .string ⟨#[]⟩, .string ⟨#[]⟩, .string ⟨#[]⟩, .string ⟨#[]⟩, .string ⟨#[]⟩, .string ⟨#[]⟩, .string ⟨#[]⟩, .string ⟨#[]⟩, .string ⟨#[]⟩, .string ⟨#[]⟩, .string ⟨#[]⟩, .string ⟨#[]⟩, .string ⟨#[]⟩, .string ⟨#[]⟩, .string ⟨#[]⟩, .string ⟨#[]⟩] Tryd.underlying80 zr80 rfl sz9 (evs_cons rfl (evs_cons rfl (evs_cons rfl (evs_cons rfl (evs_cons rfl (evs_cons rfl (evs_cons rfl (evs_cons rfl (evs_cons rfl (evs_cons rfl (evs_cons rfl (evs_cons rfl (evs_cons rfl (evs_cons rfl (evs_cons rfl (evs_cons rfl (evs_cons rfl (evs_cons rfl (evs_cons rfl (evs_cons rfl rfl)))))))))))))))))))) rfl) ?_
  refine WL.ex rfl (ex_move (v := .int .i64 0) rfl) ?_
  refine WL.nil ?_
  obtain ⟨z102, hz102, H⟩ := bindE H
  refine WC.for (fun k_ ρ_ w_ => ∃ (o_ : Tags) (x101 : Int), Fm o0 w0 o_ w_ [] ∧ Gl GG o_ w_ ∧ ρ_ 0 = encS a0 ∧ ρ_ 2 = encS ([] : List UInt8) ∧ ρ_ 3 = .int .i64 0 ∧ ρ_ 8 = .agg (List.map encS ([([60, 45, 62] : List UInt8), ([60, 61] : List UInt8), ([61, 62] : List UInt8), ([45, 62] : List UInt8), ([124, 45] : List UInt8), ([126] : List UInt8), ([38] : List UInt8), ([124] : List UInt8), ([40] : List UInt8), ([41] : List UInt8), ([91] : List UInt8), ([93] : List UInt8), ([123] : List UInt8), ([125] : List UInt8), ([44] : List UInt8), ([46] : List UInt8), ([58] : List UInt8), ([59] : List UInt8), ([61] : List UInt8), ([47] : List UInt8)] : List (List UInt8))).toArray ∧ ρ_ 9 = .int .i64 x101 ∧ token_sign.l1 k a0 k_ x101 = some z102) k (fun ρ_ w_ => ∃ (o_ : Tags), Fm o0 w0 o_ w_ [] ∧ Gl GG o_ w_ ∧ ρ_ 0 = encS a0 ∧ ρ_ 2 = encS ([] : List UInt8) ∧ ρ_ 3 = .int .i64 0 ∧ z102 = .inr ()) ⟨_, 0, HF, hG, rfl, rfl, rfl, rfl, rfl, hz102⟩ ?case103 ?_
  case case103 =>
    rintro ρ118 w116 ⟨o117, HF, hG, s0_101, s2_101, s3_101, rfl⟩
    dsimp only at H
    refine WC.seq ?_
    refine WC.region ?_
    refine WL.ex rfl (ex_move (v := encS a0) s0_101) ?_
    obtain ⟨z119, hz119, H⟩ := bindE H
    refine WL.op rfl ?_
    refine OW.call [encS a0] rfl Tryd.func43 (by kernel_rfl) (by kernel_rfl) (map_cons' rfl rfl) (utf8_DecodeRuneInString.calls _ _ a0 z119 (HF.ten (V := [0]) (L := []) rfl) (Gl.vw (V := [0]) (L := []) hG rfl) hz119) ?_
    rintro _ w120 ⟨o121, rfl, s122⟩
    refine ⟨_, rfl, ?_⟩
    replace s122 := un_stepL (J := []) (L' := []) s122 rfl rfl
    replace hG := hG.step s122 rfl
    replace HF := HF.step s122 rfl
    refine WL.ex rfl (ex_move (v := .tuple #[.int .i32 z119.1, .int .i64 z119.2]) rfl) ?_
    refine WL.ex rfl (ex_extract (vs := #[.int .i32 z119.1, .int .i64 z119.2]) (v := .int .i32 z119.1) rfl rfl) ?_
    refine WL.ex rfl (ex_extract (vs := #[.int .i32 z119.1, .int .i64 z119.2]) (v := .int .i64 z119.2) rfl rfl) ?_
    refine WL.ex rfl (ex_assign (v := .int .i32 z119.1) rfl) ?_
    refine WL.ex rfl (ex_assign (v := .int .i64 z119.2) rfl) ?_
    refine WL.nil ?_
    refine WC.seq ?_
    refine WC.seq ?_
    refine WC.region ?_
    refine WL.ex rfl (ex_move (v := .int .i32 z119.1) rfl) ?_
    refine WL.nil ?_
    refine WC.block ?_
    refine WC.seq ?_
    refine WC.region ?_
    refine WL.ex rfl (ex_bin (a := .int .i32 z119.1) (b := .int .i32 172) (v := .bool (z119.1 == 172)) rfl rfl bin_eql) ?_
    refine WL.ex rfl (ex_assign (v := .bool (z119.1 == 172)) rfl) ?_
    refine WL.nil ?_
    rcases condE H with ⟨c123, H⟩ | ⟨c123, H⟩
    ·
      refine WC.cond_t ((show _ = Value.bool (z119.1 == 172) from rfl).trans (congrArg Value.bool c123)) ?_
      refine WC.seq ?_
      refine WC.region ?_
      refine WL.ex rfl (ex_move (v := .int .i64 z119.2) rfl) ?_
      refine WL.ex rfl (ex_assign (v := encS ([126] : List UInt8)) rfl) ?_
      refine WL.ex rfl (ex_assign (v := .int .i64 z119.2) rfl) ?_
      refine WL.nil ?_
      refine WC.ret ?_
      obtain rfl := Option.some.inj H
      exact ⟨_, (.tmp (encS ([126] : List UInt8) : Value) rfl (.tmp (.int .i64 z119.2 : Value) rfl .nil)), _, rfl, HF.out⟩
    ·
      refine WC.cond_f ((show _ = Value.bool (z119.1 == 172) from rfl).trans (congrArg Value.bool c123)) ?_
      refine WC.seq ?_
      refine WC.region ?_
      refine WL.ex rfl (ex_bin (a := .int .i32 z119.1) (b := .int .i32 8743) (v := .bool (z119.1 == 8743)) rfl rfl bin_eql) ?_
      refine WL.ex rfl (ex_assign (v := .bool (z119.1 == 8743)) rfl) ?_
      refine WL.nil ?_
      rcases condE H with ⟨c124, H⟩ | ⟨c124, H⟩
      ·
        refine WC.cond_t ((show _ = Value.bool (z119.1 == 8743) from rfl).trans (congrArg Value.bool c124)) ?_
        refine WC.seq ?_
        refine WC.region ?_
        refine WL.ex rfl (ex_move (v := .int .i64 z119.2) rfl) ?_
        refine WL.ex rfl (ex_assign (v := encS ([38] : List UInt8)) rfl) ?_
        refine WL.ex rfl (ex_assign (v := .int .i64 z119.2) rfl) ?_
        refine WL.nil ?_
        refine WC.ret ?_
        obtain rfl := Option.some.inj H
        exact ⟨_, (.tmp (encS ([38] : List UInt8) : Value) rfl (.tmp (.int .i64 z119.2 : Value) rfl .nil)), _, rfl, HF.out⟩
      ·
        refine WC.cond_f ((show _ = Value.bool (z119.1 == 8743) from rfl).trans (congrArg Value.bool c124)) ?_
        refine WC.seq ?_
        refine WC.region ?_
        refine WL.ex rfl (ex_bin (a := .int .i32 z119.1) (b := .int .i32 8744) (v := .bool (z119.1 == 8744)) rfl rfl bin_eql) ?_
        refine WL.ex rfl (ex_assign (v := .bool (z119.1 == 8744)) rfl) ?_
        refine WL.nil ?_
        rcases condE H with ⟨c125, H⟩ | ⟨c125, H⟩
        ·
          refine WC.cond_t ((show _ = Value.bool (z119.1 == 8744) from rfl).trans (congrArg Value.bool c125)) ?_
          refine WC.seq ?_
          refine WC.region ?_
          refine WL.ex rfl (ex_move (v := .int .i64 z119.2) rfl) ?_
          refine WL.ex rfl (ex_assign (v := encS ([124] : List UInt8)) rfl) ?_
          refine WL.ex rfl (ex_assign (v := .int .i64 z119.2) rfl) ?_
          refine WL.nil ?_
          refine WC.ret ?_
          obtain rfl := Option.some.inj H
          exact ⟨_, (.tmp (encS ([124] : List UInt8) : Value) rfl (.tmp (.int .i64 z119.2 : Value) rfl .nil)), _, rfl, HF.out⟩
        ·
          refine WC.cond_f ((show _ = Value.bool (z119.1 == 8744) from rfl).trans (congrArg Value.bool c125)) ?_
          refine WC.seq ?_
          refine WC.region ?_
          refine WL.ex rfl (ex_bin (a := .int .i32 z119.1) (b := .int .i32 8594) (v := .bool (z119.1 == 8594)) rfl rfl bin_eql) ?_
          refine WL.ex rfl (ex_assign (v := .bool (z119.1 == 8594)) rfl) ?_
          refine WL.nil ?_
          rcases condE H with ⟨c126, H⟩ | ⟨c126, H⟩
          ·
            refine WC.cond_t ((show _ = Value.bool (z119.1 == 8594) from rfl).trans (congrArg Value.bool c126)) ?_
            refine WC.seq ?_
            refine WC.region ?_
            refine WL.ex rfl (ex_move (v := .int .i64 z119.2) rfl) ?_
            refine WL.ex rfl (ex_assign (v := encS ([45, 62] : List UInt8)) rfl) ?_
            refine WL.ex rfl (ex_assign (v := .int .i64 z119.2) rfl) ?_
            refine WL.nil ?_
            refine WC.ret ?_
            obtain rfl := Option.some.inj H
            exact ⟨_, (.tmp (encS ([45, 62] : List UInt8) : Value) rfl (.tmp (.int .i64 z119.2 : Value) rfl .nil)), _, rfl, HF.out⟩
          ·
            refine WC.cond_f ((show _ = Value.bool (z119.1 == 8594) from rfl).trans (congrArg Value.bool c126)) ?_
            refine WC.seq ?_
            refine WC.region ?_
            refine WL.ex rfl (ex_bin (a := .int .i32 z119.1) (b := .int .i32 8596) (v := .bool (z119.1 == 8596)) rfl rfl bin_eql) ?_
            refine WL.ex rfl (ex_assign (v := .bool (z119.1 == 8596)) rfl) ?_
            refine WL.nil ?_
            rcases condE H with ⟨c127, H⟩ | ⟨c127, H⟩
            ·
              refine WC.cond_t ((show _ = Value.bool (z119.1 == 8596) from rfl).trans (congrArg Value.bool c127)) ?_
              refine WC.seq ?_
              refine WC.region ?_
              refine WL.ex rfl (ex_move (v := .int .i64 z119.2) rfl) ?_
              refine WL.ex rfl (ex_assign (v := encS ([60, 45, 62] : List UInt8)) rfl) ?_
              refine WL.ex rfl (ex_assign (v := .int .i64 z119.2) rfl) ?_
              refine WL.nil ?_
              refine WC.ret ?_
              obtain rfl := Option.some.inj H
              exact ⟨_, (.tmp (encS ([60, 45, 62] : List UInt8) : Value) rfl (.tmp (.int .i64 z119.2 : Value) rfl .nil)), _, rfl, HF.out⟩
            ·
              refine WC.cond_f ((show _ = Value.bool (z119.1 == 8596) from rfl).trans (congrArg Value.bool c127)) ?_
              refine WC.seq ?_
              refine WC.region ?_
              refine WL.ex rfl (ex_bin (a := .int .i32 z119.1) (b := .int .i32 8866) (v := .bool (z119.1 == 8866)) rfl rfl bin_eql) ?_
              refine WL.ex rfl (ex_assign (v := .bool (z119.1 == 8866)) rfl) ?_
              refine WL.nil ?_
              rcases condE H with ⟨c128, H⟩ | ⟨c128, H⟩
              ·
                refine WC.cond_t ((show _ = Value.bool (z119.1 == 8866) from rfl).trans (congrArg Value.bool c128)) ?_
                refine WC.seq ?_
                refine WC.region ?_
                refine WL.ex rfl (ex_move (v := .int .i64 z119.2) rfl) ?_
                refine WL.ex rfl (ex_assign (v := encS ([124, 45] : List UInt8)) rfl) ?_
                refine WL.ex rfl (ex_assign (v := .int .i64 z119.2) rfl) ?_
                refine WL.nil ?_
                refine WC.ret ?_
                obtain rfl := Option.some.inj H
                exact ⟨_, (.tmp (encS ([124, 45] : List UInt8) : Value) rfl (.tmp (.int .i64 z119.2 : Value) rfl .nil)), _, rfl, HF.out⟩
              ·
                refine WC.cond_f ((show _ = Value.bool (z119.1 == 8866) from rfl).trans (congrArg Value.bool c128)) ?_
                refine WC.seq ?_
                refine WC.region ?_
                refine WL.ex rfl (ex_bin (a := .int .i32 z119.1) (b := .int .i32 8804) (v := .bool (z119.1 == 8804)) rfl rfl bin_eql) ?_
                refine WL.ex rfl (ex_assign (v := .bool (z119.1 == 8804)) rfl) ?_
                refine WL.nil ?_
                rcases condE H with ⟨c129, H⟩ | ⟨c129, H⟩
                ·
                  refine WC.cond_t ((show _ = Value.bool (z119.1 == 8804) from rfl).trans (congrArg Value.bool c129)) ?_
                  refine WC.seq ?_
                  refine WC.region ?_
                  refine WL.ex rfl (ex_move (v := .int .i64 z119.2) rfl) ?_
                  refine WL.ex rfl (ex_assign (v := encS ([60, 61] : List UInt8)) rfl) ?_
                  refine WL.ex rfl (ex_assign (v := .int .i64 z119.2) rfl) ?_
                  refine WL.nil ?_
                  refine WC.ret ?_
                  obtain rfl := Option.some.inj H
                  exact ⟨_, (.tmp (encS ([60, 61] : List UInt8) : Value) rfl (.tmp (.int .i64 z119.2 : Value) rfl .nil)), _, rfl, HF.out⟩
                ·
                  refine WC.cond_f ((show _ = Value.bool (z119.1 == 8804) from rfl).trans (congrArg Value.bool c129)) ?_
                  refine WC.skip ?_
                  refine WC.seq ?_
                  refine WC.region ?_
                  refine WL.ex rfl (ex_assign (v := encS ([] : List UInt8)) rfl) ?_
                  refine WL.ex rfl (ex_assign (v := .int .i64 0) rfl) ?_
                  refine WL.nil ?_
                  refine WC.ret ?_
                  obtain rfl := Option.some.inj H
                  exact ⟨_, (.tmp (encS ([] : List UInt8) : Value) rfl (.tmp (.int .i64 0 : Value) rfl .nil)), _, rfl, HF.out⟩
  have Ho104 := H
  rintro k105 ρ106 w107 ⟨o108, x101, HF, hG, s0_100, s2_100, s3_100, s8_100, s9_101, H⟩
  cases k105 with
  | zero => cases H
  | succ k105 =>
  rw [token_sign.l1.eq_2] at H
  refine WC.seq ?_
  refine WC.region ?_
  refine WL.ex rfl (ex_bin (a := .int .i64 x101) (b := .int .i64 20) (v := .bool (decide (x101 < 20))) s9_101 rfl bin_lss) ?_
  refine WL.nil ?_
  refine WC.seq ?_
  rcases condE H with ⟨c109, H⟩ | ⟨c109, H⟩
  ·
    refine WC.cond_t ((show _ = Value.bool (decide (x101 < 20)) from rfl).trans (congrArg Value.bool c109)) ?_
    refine WC.skip ?_
    refine WC.seq ?_
    refine WC.block ?_
    refine WC.seq ?_
    refine WC.region ?_
    obtain ⟨x110, hx110, H⟩ := bindE H
    refine WL.ex rfl (ex_indexAV (enc := encS) (i := x101) s8_100 s9_101 Tryd.underlying80 Tryd.underlying9 rfl sz9 rfl hx110) ?_
    refine WL.ex rfl (ex_assign (v := encS x110) rfl) ?_
    refine WL.nil ?_
    refine WC.seq ?_
    refine WC.region ?_
    refine WL.ex rfl (ex_move (v := encS a0) s0_100) ?_
    refine WL.ex rfl (ex_move (v := encS x110) rfl) ?_
    obtain ⟨z111, hz111, H⟩ := bindE H
    refine WL.op rfl ?_
    refine OW.call [encS a0, encS x110] rfl Tryd.func49 (by kernel_rfl) (by kernel_rfl) (map_cons' rfl (map_cons' rfl rfl)) (strings_HasPrefix.calls _ _ a0 x110 z111 (HF.ten (V := [0]) (L := []) rfl)  hz111) ?_
    rintro _ w112 ⟨o113, rfl, s114⟩
    refine ⟨_, rfl, ?_⟩
    replace s114 := un_stepL (J := []) (L' := []) s114 rfl rfl
    replace hG := hG.step s114 rfl
    replace HF := HF.step s114 rfl
    refine WL.nil ?_
    rcases condE H with ⟨c115, H⟩ | ⟨c115, H⟩
    ·
      refine WC.cond_t ((show _ = Value.bool z111 from rfl).trans (congrArg Value.bool c115)) ?_
      refine WC.seq ?_
      refine WC.region ?_
      refine WL.ex rfl (ex_move (v := encS x110) rfl) ?_
      refine WL.ex rfl (ex_move (v := encS x110) rfl) ?_
      refine WL.ex rfl (ex_len_str (s := x110) rfl Tryd.underlying9) ?_
      refine WL.ex rfl (ex_assign (v := encS x110) rfl) ?_
      refine WL.ex rfl (ex_assign (v := .int .i64 (x110.length : Int)) rfl) ?_
      refine WL.nil ?_
      refine WC.ret ?_
      obtain rfl := Option.some.inj H
      replace H := Ho104
      dsimp only at H
      obtain rfl := Option.some.inj H
      exact ⟨_, (.tmp (encS x110 : Value) rfl (.tmp (.int .i64 (x110.length : Int) : Value) rfl .nil)), _, rfl, HF.out⟩
    ·
      refine WC.cond_f ((show _ = Value.bool z111 from rfl).trans (congrArg Value.bool c115)) ?_
      refine WC.skip ?_
      refine WC.region ?_
      refine WL.ex rfl (ex_bin (a := .int .i64 x101) (b := .int .i64 1) (v := .int .i64 (wrap64 (x101 + 1))) s9_101 rfl bin_add64) ?_
      refine WL.ex rfl (ex_move (v := .int .i64 (wrap64 (x101 + 1))) rfl) ?_
      refine WL.nil ?_
      exact ⟨k105, Nat.lt_succ_self _, ⟨_, wrap64 (x101 + 1), HF, hG, s0_100, s2_100, s3_100, s8_100, rfl, H⟩⟩
  ·
    refine WC.cond_f ((show _ = Value.bool (decide (x101 < 20)) from rfl).trans (congrArg Value.bool c109)) ?_
    refine WC.exit ?_
    obtain rfl := Option.some.inj H
    exact ⟨_, HF, hG, s0_100, s2_100, s3_100, rfl⟩

/-! ### token_word -/
set_option maxRecDepth 100000 in
theorem token_word.calls (k : Nat) (o0 : Tags) (w0 : World) (a0 : List UInt8) (r : T_api_Token × Int × Int) (hO : ∀ b, b < w0.heap.size → o0 b < 10) (hG : Gl GG o0 w0) (H : token_word.f k a0 = some r) :
    Calls Tryd.prog 28 [encS a0].toArray w0 fun e_ w_ => ∃ (o_ : Tags), e_ = .returned (one [.agg #[.int .i64 r.1.f_Kind, encS r.1.f_Text, .int .i64 r.1.f_Int, .int .i64 r.1.f_At.f_Line, .int .i64 r.1.f_At.f_Col, .int .i64 r.1.f_At.f_Off], .int .i64 r.2.1, .int .i64 r.2.2]) ∧ Step o0 w0 o_ w_ [] := by
  have HF := Fm.refl hO []
  unfold token_word.f at H
  refine SX.calls [encS a0] Tryd.func28 rfl rfl ?_
  rw [Tryd.ntmps28]
  refine WC.seq ?_
  refine WC.region ?_
  refine WL.op rfl ?_
  refine OW.alloc' [.int .i64 (0 : Int), encS ([] : List UInt8), .int .i64 (0 : Int), .int .i64 (0 : Int), .int .i64 (0 : Int), .int .i64 (0 : Int)] 10 HF rfl zr37 rfl ?_
  intro o102 w103 b101 s104 hB105
  replace hG := hG.step s104 rfl
  replace HF := HF.step s104 rfl
  refine WL.ex rfl (ex_assign (v := .int .i64 0) rfl) ?_
  refine WL.ex rfl (ex_assign (v := .int .i64 0) rfl) ?_
  refine WL.nil ?_
  refine WC.seq ?_
  refine WC.block ?_
  refine WC.seq ?_
  refine WC.region ?_
  refine WL.ex rfl (ex_move (v := encS a0) rfl) ?_
  obtain ⟨x106, hx106, H⟩ := bindE H
  refine WL.ex rfl (ex_index_str (i := (0 : Int)) rfl rfl Tryd.underlying9 (ix_some hx106).1 (ix_some hx106).2.2) ?_
  obtain ⟨z107, hz107, H⟩ := bindE H
  refine WL.op rfl ?_
  refine OW.call [enc8 x106] rfl Tryd.func38 (by kernel_rfl) (by kernel_rfl) (map_cons' rfl rfl) (token_letter.calls _ _ x106 z107 (HF.ten (V := [0]) (L := []) rfl)  hz107) ?_
  rintro _ w108 ⟨o109, rfl, s110⟩
  refine ⟨_, rfl, ?_⟩
  replace s110 := un_stepL (J := []) (L' := []) s110 rfl rfl
  replace hG := hG.step s110 rfl
  replace hB105 := hB105.step s110 rfl
  replace HF := HF.step s110 rfl
  refine WL.ex rfl (ex_assign (v := .bool z107) rfl) ?_
  refine WL.nil ?_
  rcases condE H with ⟨c111, H⟩ | ⟨c111, H⟩
  ·
    refine WC.cond_t ((show _ = Value.bool z107 from rfl).trans (congrArg Value.bool c111)) ?_
    refine WC.seq ?_
    refine WC.region ?_
    refine WL.ex rfl (ex_move (v := encS a0) rfl) ?_
    obtain ⟨z112, hz112, H⟩ := bindE H
    refine WL.op rfl ?_
    refine OW.call [encS a0, .func (.func 40) #[] #[]] rfl Tryd.func39 (by kernel_rfl) (by kernel_rfl) (map_cons' rfl (map_cons' rfl rfl)) (token_run_token_tail.calls k _ _ a0 z112 (HF.ten (V := [0]) (L := []) rfl)  hz112) ?_
    rintro _ w113 ⟨o114, rfl, s115⟩
    refine ⟨_, rfl, ?_⟩
    replace s115 := un_stepL (J := []) (L' := []) s115 rfl rfl
    replace hG := hG.step s115 rfl
    replace hB105 := hB105.step s115 rfl
    replace HF := HF.step s115 rfl
    refine WL.ex rfl (ex_assign (v := .int .i64 z112) rfl) ?_
    refine WL.nil ?_
    refine WC.seq ?_
    refine WC.seq ?_
    refine WC.region ?_
    refine WL.ex rfl (ex_move (v := .int .i64 z112) rfl) ?_
    refine WL.ex rfl (ex_bin (a := .int .i64 z112) (b := .int .i64 31) (v := .bool (decide (z112 > 31))) rfl rfl bin_gtr) ?_
    refine WL.nil ?_
    rcases condE H with ⟨c116, H⟩ | ⟨c116, H⟩
    ·
      refine WC.cond_t ((show _ = Value.bool (decide (z112 > 31)) from rfl).trans (congrArg Value.bool c116)) ?_
      refine WC.seq ?_
      refine WC.region ?_
      refine WL.ex rfl (ex_build (cs := [.int .i64 (0 : Int), encS ([] : List UInt8), .int .i64 (0 : Int), .int .i64 (0 : Int), .int .i64 (0 : Int), .int .i64 (0 : Int)]) [(0, 1), (1, 1), (2, 1), (3, 3)] [] [.int .i64 0, .string ⟨#[]⟩, .int .i64 0, .int .i64 0, .int .i64 0, .int .i64 0] Tryd.underlying37 zr37 rfl (by kernel_rfl) rfl rfl) ?_
      refine WL.op rfl ?_
      refine OW.store [.int .i64 (0 : Int), encS ([] : List UInt8), .int .i64 (0 : Int), .int .i64 (0 : Int), .int .i64 (0 : Int), .int .i64 (0 : Int)] rfl (vs := [.int .i64 (0 : Int), encS ([] : List UInt8), .int .i64 (0 : Int), .int .i64 (0 : Int), .int .i64 (0 : Int), .int .i64 (0 : Int)]) ((congrArg Value.cells (show ev _ _ = (.agg #[.int .i64 (0 : Int), encS ([] : List UInt8), .int .i64 (0 : Int), .int .i64 (0 : Int), .int .i64 (0 : Int), .int .i64 (0 : Int)] : Value) from rfl)).trans rfl) sz37 hB105 (Nat.le_of_ble_eq_true rfl) (by intro u_ hu_; simp only [List.mem_cons, List.not_mem_nil, or_false] at hu_; rcases hu_ with rfl | rfl | rfl | rfl | rfl | rfl <;> first | rfl) rfl ?_
      intro w117 s118 hB119
      replace hG := hG.step s118 rfl
      replace HF := HF.step s118 rfl
      refine WL.ex rfl (ex_assign (v := .int .i64 0) rfl) ?_
      refine WL.ex rfl (ex_assign (v := .int .i64 22) rfl) ?_
      refine WL.nil ?_
      refine WC.ret ?_
      obtain rfl := Option.some.inj H
      exact ⟨_, (.cell (.agg #[.int .i64 (0 : Int), encS ([] : List UInt8), .int .i64 (0 : Int), .int .i64 (0 : Int), .int .i64 (0 : Int), .int .i64 (0 : Int)] : Value) rfl (run_loadN (cs := [.int .i64 (0 : Int), encS ([] : List UInt8), .int .i64 (0 : Int), .int .i64 (0 : Int), .int .i64 (0 : Int), .int .i64 (0 : Int)]) Tryd.underlying37 rfl sz37 (hB119.cells rfl)) (.tmp (.int .i64 0 : Value) rfl (.tmp (.int .i64 22 : Value) rfl .nil))), _, rfl, HF.out⟩
    ·
      refine WC.cond_f ((show _ = Value.bool (decide (z112 > 31)) from rfl).trans (congrArg Value.bool c116)) ?_
      refine WC.skip ?_
      refine WC.seq ?_
      refine WC.region ?_
      refine WL.ex rfl (ex_move (v := encS a0) rfl) ?_
      refine WL.ex rfl (ex_move (v := .int .i64 z112) rfl) ?_
      obtain ⟨y120, hy120, H⟩ := bindE H
      refine WL.ex rfl (ex_slice_str (l := 0) (h := z112) rfl Tryd.underlying9 rfl ⟨_, rfl⟩ hy120) ?_
      refine WL.ex rfl (ex_build (cs := [.int .i64 1, encS y120, .int .i64 (0 : Int), .int .i64 (0 : Int), .int .i64 (0 : Int), .int .i64 (0 : Int)]) [(0, 1), (1, 1), (2, 1), (3, 3)] [(0, .int .i64 1), (1, encS y120)] [.int .i64 0, .string ⟨#[]⟩, .int .i64 0, .int .i64 0, .int .i64 0, .int .i64 0] Tryd.underlying37 zr37 rfl (by kernel_rfl) (evs_cons rfl (evs_cons rfl rfl)) rfl) ?_
      refine WL.ex rfl (ex_move (v := .int .i64 z112) rfl) ?_
      refine WL.op rfl ?_
      refine OW.store [.int .i64 1, encS y120, .int .i64 (0 : Int), .int .i64 (0 : Int), .int .i64 (0 : Int), .int .i64 (0 : Int)] rfl (vs := [.int .i64 1, encS y120, .int .i64 (0 : Int), .int .i64 (0 : Int), .int .i64 (0 : Int), .int .i64 (0 : Int)]) ((congrArg Value.cells (show ev _ _ = (.agg #[.int .i64 1, encS y120, .int .i64 (0 : Int), .int .i64 (0 : Int), .int .i64 (0 : Int), .int .i64 (0 : Int)] : Value) from rfl)).trans rfl) sz37 hB105 (Nat.le_of_ble_eq_true rfl) (by intro u_ hu_; simp only [List.mem_cons, List.not_mem_nil, or_false] at hu_; rcases hu_ with rfl | rfl | rfl | rfl | rfl | rfl <;> first | rfl) rfl ?_
      intro w121 s122 hB123
      replace hG := hG.step s122 rfl
      replace HF := HF.step s122 rfl
      refine WL.ex rfl (ex_assign (v := .int .i64 z112) rfl) ?_
      refine WL.ex rfl (ex_assign (v := .int .i64 0) rfl) ?_
      refine WL.nil ?_
      refine WC.ret ?_
      obtain rfl := Option.some.inj H
      exact ⟨_, (.cell (.agg #[.int .i64 1, encS y120, .int .i64 (0 : Int), .int .i64 (0 : Int), .int .i64 (0 : Int), .int .i64 (0 : Int)] : Value) rfl (run_loadN (cs := [.int .i64 1, encS y120, .int .i64 (0 : Int), .int .i64 (0 : Int), .int .i64 (0 : Int), .int .i64 (0 : Int)]) Tryd.underlying37 rfl sz37 (hB123.cells rfl)) (.tmp (.int .i64 z112 : Value) rfl (.tmp (.int .i64 0 : Value) rfl .nil))), _, rfl, HF.out⟩
  ·
    refine WC.cond_f ((show _ = Value.bool z107 from rfl).trans (congrArg Value.bool c111)) ?_
    refine WC.seq ?_
    refine WC.region ?_
    refine WL.ex rfl (ex_move (v := encS a0) rfl) ?_
    obtain ⟨x124, hx124, H⟩ := bindE H
    refine WL.ex rfl (ex_index_str (i := (0 : Int)) rfl rfl Tryd.underlying9 (ix_some hx124).1 (ix_some hx124).2.2) ?_
    obtain ⟨z125, hz125, H⟩ := bindE H
    refine WL.op rfl ?_
    refine OW.call [enc8 x124] rfl Tryd.func41 (by kernel_rfl) (by kernel_rfl) (map_cons' rfl rfl) (token_digit.calls _ _ x124 z125 (HF.ten (V := [0]) (L := []) rfl)  hz125) ?_
    rintro _ w126 ⟨o127, rfl, s128⟩
    refine ⟨_, rfl, ?_⟩
    replace s128 := un_stepL (J := []) (L' := []) s128 rfl rfl
    replace hG := hG.step s128 rfl
    replace hB105 := hB105.step s128 rfl
    replace HF := HF.step s128 rfl
    refine WL.ex rfl (ex_assign (v := .bool z125) rfl) ?_
    refine WL.nil ?_
    rcases condE H with ⟨c129, H⟩ | ⟨c129, H⟩
    ·
      refine WC.cond_t ((show _ = Value.bool z125 from rfl).trans (congrArg Value.bool c129)) ?_
      refine WC.seq ?_
      refine WC.region ?_
      refine WL.ex rfl (ex_move (v := encS a0) rfl) ?_
      obtain ⟨z130, hz130, H⟩ := bindE H
      refine WL.op rfl ?_
      refine OW.call [encS a0, .func (.func 41) #[] #[]] rfl Tryd.func39 (by kernel_rfl) (by kernel_rfl) (map_cons' rfl (map_cons' rfl rfl)) (token_run_token_digit.calls k _ _ a0 z130 (HF.ten (V := [0]) (L := []) rfl)  hz130) ?_
      rintro _ w131 ⟨o132, rfl, s133⟩
      refine ⟨_, rfl, ?_⟩
      replace s133 := un_stepL (J := []) (L' := []) s133 rfl rfl
      replace hG := hG.step s133 rfl
      replace hB105 := hB105.step s133 rfl
      replace HF := HF.step s133 rfl
      refine WL.ex rfl (ex_assign (v := .int .i64 z130) rfl) ?_
      refine WL.nil ?_
      refine WC.seq ?_
      refine WC.region ?_
      refine WL.ex rfl (ex_move (v := encS a0) rfl) ?_
      refine WL.ex rfl (ex_move (v := .int .i64 z130) rfl) ?_
      obtain ⟨y134, hy134, H⟩ := bindE H
      refine WL.ex rfl (ex_slice_str (l := 0) (h := z130) rfl Tryd.underlying9 rfl ⟨_, rfl⟩ hy134) ?_
      obtain ⟨z135, hz135, H⟩ := bindE H
      refine WL.op rfl ?_
      refine OW.call [encS y134] rfl Tryd.func42 (by kernel_rfl) (by kernel_rfl) (map_cons' rfl rfl) (strconv_Atoi.calls _ _ y134 z135 (HF.ten (V := [0]) (L := []) rfl) (Gl.vw (V := [0]) (L := []) hG rfl) hz135) ?_
      rintro _ w136 ⟨o137, v139, rfl, s138, hE140⟩
      refine ⟨_, rfl, ?_⟩
      replace s138 := un_stepL (J := []) (L' := []) s138 rfl rfl
      replace hG := hG.step s138 rfl
      replace hB105 := hB105.step s138 rfl
      replace HF := HF.step s138 rfl
      refine WL.ex rfl (ex_move (v := .tuple #[.int .i64 z135.1, v139]) rfl) ?_
      refine WL.ex rfl (ex_extract (vs := #[.int .i64 z135.1, v139]) (v := .int .i64 z135.1) rfl rfl) ?_
      refine WL.ex rfl (ex_extract (vs := #[.int .i64 z135.1, v139]) (v := v139) rfl rfl) ?_
      refine WL.ex rfl (ex_assign (v := .int .i64 z135.1) rfl) ?_
      refine WL.ex rfl (ex_assign (v := v139) rfl) ?_
      refine WL.nil ?_
      refine WC.seq ?_
      obtain ⟨z142, hz142, H⟩ := bindE H
      refine WC.cut (fun ρ_ w_ => ∃ (o_ : Tags), Fm o0 w0 o_ w_ [] ∧ Bk o_ w_ 10 b101 [.int .i64 (0 : Int), encS ([] : List UInt8), .int .i64 (0 : Int), .int .i64 (0 : Int), .int .i64 (0 : Int), .int .i64 (0 : Int)] 37 ∧ Gl GG o_ w_ ∧ ρ_ 0 = encS a0 ∧ ρ_ 2 = .pointer (some ⟨b101, 0, none⟩) ∧ ρ_ 3 = .int .i64 0 ∧ ρ_ 4 = .int .i64 0 ∧ ρ_ 6 = .int .i64 z130 ∧ ρ_ 7 = .int .i64 z135.1 ∧ ρ_ 66 = .bool z142) ?case143 ?_
      case case143 =>
        rintro ρ146 w144 ⟨o145, HF, hB105, hG, s0_140, s2_140, s3_140, s4_140, s6_140, s7_140, s66_141⟩
        rcases condE H with ⟨c147, H⟩ | ⟨c147, H⟩
        ·
          refine WC.cond_t ((show _ = Value.bool z142 from s66_141).trans (congrArg Value.bool c147)) ?_
          refine WC.seq ?_
          refine WC.region ?_
          refine WL.ex rfl (ex_build (cs := [.int .i64 (0 : Int), encS ([] : List UInt8), .int .i64 (0 : Int), .int .i64 (0 : Int), .int .i64 (0 : Int), .int .i64 (0 : Int)]) [(0, 1), (1, 1), (2, 1), (3, 3)] [] [.int .i64 0, .string ⟨#[]⟩, .int .i64 0, .int .i64 0, .int .i64 0, .int .i64 0] Tryd.underlying37 zr37 rfl (by kernel_rfl) rfl rfl) ?_
          refine WL.op rfl ?_
          refine OW.store [.int .i64 (0 : Int), encS ([] : List UInt8), .int .i64 (0 : Int), .int .i64 (0 : Int), .int .i64 (0 : Int), .int .i64 (0 : Int)] s2_140 (vs := [.int .i64 (0 : Int), encS ([] : List UInt8), .int .i64 (0 : Int), .int .i64 (0 : Int), .int .i64 (0 : Int), .int .i64 (0 : Int)]) ((congrArg Value.cells (show ev _ _ = (.agg #[.int .i64 (0 : Int), encS ([] : List UInt8), .int .i64 (0 : Int), .int .i64 (0 : Int), .int .i64 (0 : Int), .int .i64 (0 : Int)] : Value) from rfl)).trans rfl) sz37 hB105 (Nat.le_of_ble_eq_true rfl) (by intro u_ hu_; simp only [List.mem_cons, List.not_mem_nil, or_false] at hu_; rcases hu_ with rfl | rfl | rfl | rfl | rfl | rfl <;> first | rfl) rfl ?_
          intro w148 s149 hB150
          replace hG := hG.step s149 rfl
          replace HF := HF.step s149 rfl
          refine WL.ex rfl (ex_assign (v := .int .i64 0) rfl) ?_
          refine WL.ex rfl (ex_assign (v := .int .i64 21) rfl) ?_
          refine WL.nil ?_
          refine WC.ret ?_
          obtain rfl := Option.some.inj H
          exact ⟨_, (.cell (.agg #[.int .i64 (0 : Int), encS ([] : List UInt8), .int .i64 (0 : Int), .int .i64 (0 : Int), .int .i64 (0 : Int), .int .i64 (0 : Int)] : Value) s2_140 (run_loadN (cs := [.int .i64 (0 : Int), encS ([] : List UInt8), .int .i64 (0 : Int), .int .i64 (0 : Int), .int .i64 (0 : Int), .int .i64 (0 : Int)]) Tryd.underlying37 rfl sz37 (hB150.cells rfl)) (.tmp (.int .i64 0 : Value) rfl (.tmp (.int .i64 21 : Value) rfl .nil))), _, rfl, HF.out⟩
        ·
          refine WC.cond_f ((show _ = Value.bool z142 from s66_141).trans (congrArg Value.bool c147)) ?_
          refine WC.skip ?_
          refine WC.seq ?_
          refine WC.region ?_
          refine WL.ex rfl (ex_move (v := .int .i64 z135.1) s7_140) ?_
          refine WL.ex rfl (ex_build (cs := [.int .i64 2, encS ([] : List UInt8), .int .i64 z135.1, .int .i64 (0 : Int), .int .i64 (0 : Int), .int .i64 (0 : Int)]) [(0, 1), (1, 1), (2, 1), (3, 3)] [(0, .int .i64 2), (2, .int .i64 z135.1)] [.int .i64 0, .string ⟨#[]⟩, .int .i64 0, .int .i64 0, .int .i64 0, .int .i64 0] Tryd.underlying37 zr37 rfl (by kernel_rfl) (evs_cons rfl (evs_cons rfl rfl)) rfl) ?_
          refine WL.ex rfl (ex_move (v := .int .i64 z130) s6_140) ?_
          refine WL.op rfl ?_
          refine OW.store [.int .i64 2, encS ([] : List UInt8), .int .i64 z135.1, .int .i64 (0 : Int), .int .i64 (0 : Int), .int .i64 (0 : Int)] s2_140 (vs := [.int .i64 2, encS ([] : List UInt8), .int .i64 z135.1, .int .i64 (0 : Int), .int .i64 (0 : Int), .int .i64 (0 : Int)]) ((congrArg Value.cells (show ev _ _ = (.agg #[.int .i64 2, encS ([] : List UInt8), .int .i64 z135.1, .int .i64 (0 : Int), .int .i64 (0 : Int), .int .i64 (0 : Int)] : Value) from rfl)).trans rfl) sz37 hB105 (Nat.le_of_ble_eq_true rfl) (by intro u_ hu_; simp only [List.mem_cons, List.not_mem_nil, or_false] at hu_; rcases hu_ with rfl | rfl | rfl | rfl | rfl | rfl <;> first | rfl) rfl ?_
          intro w151 s152 hB153
          replace hG := hG.step s152 rfl
          replace HF := HF.step s152 rfl
          refine WL.ex rfl (ex_assign (v := .int .i64 z130) rfl) ?_
          refine WL.ex rfl (ex_assign (v := .int .i64 0) rfl) ?_
          refine WL.nil ?_
          refine WC.ret ?_
          obtain rfl := Option.some.inj H
          exact ⟨_, (.cell (.agg #[.int .i64 2, encS ([] : List UInt8), .int .i64 z135.1, .int .i64 (0 : Int), .int .i64 (0 : Int), .int .i64 (0 : Int)] : Value) s2_140 (run_loadN (cs := [.int .i64 2, encS ([] : List UInt8), .int .i64 z135.1, .int .i64 (0 : Int), .int .i64 (0 : Int), .int .i64 (0 : Int)]) Tryd.underlying37 rfl sz37 (hB153.cells rfl)) (.tmp (.int .i64 z130 : Value) rfl (.tmp (.int .i64 0 : Value) rfl .nil))), _, rfl, HF.out⟩
      have Ho154 := H
      replace H := hz142
      refine WC.region ?_
      refine WL.ex rfl (ex_move (v := .int .i64 z130) rfl) ?_
      refine WL.ex rfl (ex_bin (a := .int .i64 z130) (b := .int .i64 1) (v := .bool (decide (z130 > 1))) rfl rfl bin_gtr) ?_
      refine WL.ex rfl (ex_move (v := .bool (decide (z130 > 1))) rfl) ?_
      rcases condE H with ⟨c155, H⟩ | ⟨c155, H⟩
      ·
        refine WL.guardYes rfl rfl rfl ((show _ = Value.bool (decide (z130 > 1)) from rfl).trans (congrArg Value.bool c155)) ?_
        refine OW.ex rfl (ex_move (v := encS a0) rfl) ?_
        refine WL.guardYes rfl rfl rfl ((show _ = Value.bool (decide (z130 > 1)) from rfl).trans (congrArg Value.bool c155)) ?_
        obtain ⟨x156, hx156, H⟩ := bindE H
        refine OW.ex rfl (ex_index_str (i := (0 : Int)) rfl rfl Tryd.underlying9 (ix_some hx156).1 (ix_some hx156).2.2) ?_
        refine WL.guardYes rfl rfl rfl ((show _ = Value.bool (decide (z130 > 1)) from rfl).trans (congrArg Value.bool c155)) ?_
        refine OW.ex rfl (ex_bin (a := enc8 x156) (b := enc8 (48 : UInt8)) (v := .bool (x156 == (48 : UInt8))) rfl rfl bin_eql_u8) ?_
        refine WL.ex rfl (ex_pick_t (v := .bool (x156 == (48 : UInt8))) ((show _ = Value.bool (decide (z130 > 1)) from rfl).trans (congrArg Value.bool c155)) rfl) ?_
        refine WL.ex rfl (ex_move (v := .bool (x156 == (48 : UInt8))) rfl) ?_
        rcases condE H with ⟨c157, H⟩ | ⟨c157, H⟩
        ·
          refine WL.guardNo rfl rfl rfl ((show _ = Value.bool (x156 == (48 : UInt8)) from rfl).trans (congrArg Value.bool c157)) ?_
          refine WL.guardNo rfl rfl rfl ((show _ = Value.bool (x156 == (48 : UInt8)) from rfl).trans (congrArg Value.bool c157)) ?_
          refine WL.ex rfl (ex_pick_t (v := .bool true) ((show _ = Value.bool (x156 == (48 : UInt8)) from rfl).trans (congrArg Value.bool c157)) rfl) ?_
          refine WL.ex rfl (ex_move (v := .bool true) rfl) ?_
          refine WL.guardNo rfl rfl rfl rfl ?_
          refine WL.guardNo rfl rfl rfl rfl ?_
          refine WL.ex rfl (ex_pick_t (v := .bool true) rfl rfl) ?_
          refine WL.ex rfl (ex_move (v := .bool true) rfl) ?_
          refine WL.guardNo rfl rfl rfl rfl ?_
          refine WL.guardNo rfl rfl rfl rfl ?_
          refine WL.guardNo rfl rfl rfl rfl ?_
          refine WL.guardNo rfl rfl rfl rfl ?_
          refine WL.guardNo rfl rfl rfl rfl ?_
          refine WL.guardUn rfl rfl rfl rfl ?_
          refine WL.guardUn rfl rfl rfl rfl ?_
          refine WL.guardUn rfl rfl rfl rfl ?_
          refine WL.guardUn rfl rfl rfl rfl ?_
          refine WL.guardNo rfl rfl rfl rfl ?_
          refine WL.ex rfl (ex_pick_t (v := .bool true) rfl rfl) ?_
          refine WL.nil ?_
          obtain rfl := Option.some.inj H
          exact ⟨_, HF, hB105, hG, rfl, rfl, rfl, rfl, rfl, rfl, rfl⟩
        ·
          refine WL.guardYes rfl rfl rfl ((show _ = Value.bool (x156 == (48 : UInt8)) from rfl).trans (congrArg Value.bool c157)) ?_
          refine OW.ex rfl (ex_move (v := v139) rfl) ?_
          refine WL.guardYes rfl rfl rfl ((show _ = Value.bool (x156 == (48 : UInt8)) from rfl).trans (congrArg Value.bool c157)) ?_
          refine OW.ex rfl (ex_errNeq (b := z135.2) rfl Tryd.underlying69 hE140) ?_
          refine WL.ex rfl (ex_pick_f (v := .bool z135.2) ((show _ = Value.bool (x156 == (48 : UInt8)) from rfl).trans (congrArg Value.bool c157)) rfl) ?_
          refine WL.ex rfl (ex_move (v := .bool z135.2) rfl) ?_
          rcases condE H with ⟨c158, H⟩ | ⟨c158, H⟩
          ·
            refine WL.guardNo rfl rfl rfl ((show _ = Value.bool z135.2 from rfl).trans (congrArg Value.bool c158)) ?_
            refine WL.guardNo rfl rfl rfl ((show _ = Value.bool z135.2 from rfl).trans (congrArg Value.bool c158)) ?_
            refine WL.ex rfl (ex_pick_t (v := .bool true) ((show _ = Value.bool z135.2 from rfl).trans (congrArg Value.bool c158)) rfl) ?_
            refine WL.ex rfl (ex_move (v := .bool true) rfl) ?_
            refine WL.guardNo rfl rfl rfl rfl ?_
            refine WL.guardNo rfl rfl rfl rfl ?_
            refine WL.guardNo rfl rfl rfl rfl ?_
            refine WL.guardNo rfl rfl rfl rfl ?_
            refine WL.guardNo rfl rfl rfl rfl ?_
            refine WL.guardUn rfl rfl rfl rfl ?_
            refine WL.guardUn rfl rfl rfl rfl ?_
            refine WL.guardUn rfl rfl rfl rfl ?_
            refine WL.guardUn rfl rfl rfl rfl ?_
            refine WL.guardNo rfl rfl rfl rfl ?_
            refine WL.ex rfl (ex_pick_t (v := .bool true) rfl rfl) ?_
            refine WL.nil ?_
            obtain rfl := Option.some.inj H
            exact ⟨_, HF, hB105, hG, rfl, rfl, rfl, rfl, rfl, rfl, rfl⟩
          ·
            refine WL.guardYes rfl rfl rfl ((show _ = Value.bool z135.2 from rfl).trans (congrArg Value.bool c158)) ?_
            refine OW.ex rfl (ex_move (v := .int .i64 z135.1) rfl) ?_
            refine WL.guardYes rfl rfl rfl ((show _ = Value.bool z135.2 from rfl).trans (congrArg Value.bool c158)) ?_
            refine OW.ex rfl (ex_bin (a := .int .i64 z135.1) (b := .int .i64 999999999) (v := .bool (decide (z135.1 > 999999999))) rfl rfl bin_gtr) ?_
            refine WL.ex rfl (ex_pick_f (v := .bool (decide (z135.1 > 999999999))) ((show _ = Value.bool z135.2 from rfl).trans (congrArg Value.bool c158)) rfl) ?_
            refine WL.ex rfl (ex_move (v := .bool (decide (z135.1 > 999999999))) rfl) ?_
            rcases condE H with ⟨c159, H⟩ | ⟨c159, H⟩
            ·
              refine WL.guardNo rfl rfl rfl ((show _ = Value.bool (decide (z135.1 > 999999999)) from rfl).trans (congrArg Value.bool c159)) ?_
              refine WL.guardNo rfl rfl rfl ((show _ = Value.bool (decide (z135.1 > 999999999)) from rfl).trans (congrArg Value.bool c159)) ?_
              refine WL.guardNo rfl rfl rfl ((show _ = Value.bool (decide (z135.1 > 999999999)) from rfl).trans (congrArg Value.bool c159)) ?_
              refine WL.guardNo rfl rfl rfl ((show _ = Value.bool (decide (z135.1 > 999999999)) from rfl).trans (congrArg Value.bool c159)) ?_
              refine WL.guardNo rfl rfl rfl ((show _ = Value.bool (decide (z135.1 > 999999999)) from rfl).trans (congrArg Value.bool c159)) ?_
              refine WL.guardUn rfl rfl rfl rfl ?_
              refine WL.guardUn rfl rfl rfl rfl ?_
              refine WL.guardUn rfl rfl rfl rfl ?_
              refine WL.guardUn rfl rfl rfl rfl ?_
              refine WL.guardNo rfl rfl rfl ((show _ = Value.bool (decide (z135.1 > 999999999)) from rfl).trans (congrArg Value.bool c159)) ?_
              refine WL.ex rfl (ex_pick_t (v := .bool true) ((show _ = Value.bool (decide (z135.1 > 999999999)) from rfl).trans (congrArg Value.bool c159)) rfl) ?_
              refine WL.nil ?_
              obtain rfl := Option.some.inj H
              exact ⟨_, HF, hB105, hG, rfl, rfl, rfl, rfl, rfl, rfl, rfl⟩
            ·
              refine WL.guardYes rfl rfl rfl ((show _ = Value.bool (decide (z135.1 > 999999999)) from rfl).trans (congrArg Value.bool c159)) ?_
              refine OW.ex rfl (ex_move (v := .int .i64 z130) rfl) ?_
              refine WL.guardYes rfl rfl rfl ((show _ = Value.bool (decide (z135.1 > 999999999)) from rfl).trans (congrArg Value.bool c159)) ?_
              refine OW.ex rfl (ex_move (v := encS a0) rfl) ?_
              refine WL.guardYes rfl rfl rfl ((show _ = Value.bool (decide (z135.1 > 999999999)) from rfl).trans (congrArg Value.bool c159)) ?_
              refine OW.ex rfl (ex_len_str (s := a0) rfl Tryd.underlying9) ?_
              refine WL.guardYes rfl rfl rfl ((show _ = Value.bool (decide (z135.1 > 999999999)) from rfl).trans (congrArg Value.bool c159)) ?_
              refine OW.ex rfl (ex_bin (a := .int .i64 z130) (b := .int .i64 (a0.length : Int)) (v := .bool (decide (z130 < (a0.length : Int)))) rfl rfl bin_lss) ?_
              refine WL.guardYes rfl rfl rfl ((show _ = Value.bool (decide (z135.1 > 999999999)) from rfl).trans (congrArg Value.bool c159)) ?_
              refine OW.ex rfl (ex_move (v := .bool (decide (z130 < (a0.length : Int)))) rfl) ?_
              rcases condE H with ⟨c160, H⟩ | ⟨c160, H⟩
              ·
                refine WL.guardYes rfl rfl rfl ((show _ = Value.bool (decide (z130 < (a0.length : Int))) from rfl).trans (congrArg Value.bool c160)) ?_
                refine OW.ex rfl (ex_move (v := encS a0) rfl) ?_
                refine WL.guardYes rfl rfl rfl ((show _ = Value.bool (decide (z130 < (a0.length : Int))) from rfl).trans (congrArg Value.bool c160)) ?_
                refine OW.ex rfl (ex_move (v := .int .i64 z130) rfl) ?_
                refine WL.guardYes rfl rfl rfl ((show _ = Value.bool (decide (z130 < (a0.length : Int))) from rfl).trans (congrArg Value.bool c160)) ?_
                obtain ⟨x161, hx161, H⟩ := bindE H
                refine OW.ex rfl (ex_index_str (i := z130) rfl rfl Tryd.underlying9 (ix_some hx161).1 (ix_some hx161).2.2) ?_
                refine WL.guardYes rfl rfl rfl ((show _ = Value.bool (decide (z130 < (a0.length : Int))) from rfl).trans (congrArg Value.bool c160)) ?_
                obtain ⟨z162, hz162, H⟩ := bindE H
                refine OW.call [enc8 x161] rfl Tryd.func40 (by kernel_rfl) (by kernel_rfl) (map_cons' rfl rfl) (token_tail.calls _ _ x161 z162 (HF.ten (V := [0]) (L := []) rfl)  hz162) ?_
                rintro _ w163 ⟨o164, rfl, s165⟩
                refine ⟨_, rfl, ?_⟩
                replace s165 := un_stepL (J := []) (L' := []) s165 rfl rfl
                replace hG := hG.step s165 rfl
                replace hB105 := hB105.step s165 rfl
                replace HF := HF.step s165 rfl
                refine WL.guardYes rfl rfl rfl ((show _ = Value.bool (decide (z135.1 > 999999999)) from rfl).trans (congrArg Value.bool c159)) ?_
                refine OW.ex rfl (ex_pick_t (v := .bool z162) ((show _ = Value.bool (decide (z130 < (a0.length : Int))) from rfl).trans (congrArg Value.bool c160)) rfl) ?_
                refine WL.ex rfl (ex_pick_f (v := .bool z162) ((show _ = Value.bool (decide (z135.1 > 999999999)) from rfl).trans (congrArg Value.bool c159)) rfl) ?_
                refine WL.nil ?_
                obtain rfl := Option.some.inj H
                exact ⟨_, HF, hB105, hG, rfl, rfl, rfl, rfl, rfl, rfl, rfl⟩
              ·
                refine WL.guardNo rfl rfl rfl ((show _ = Value.bool (decide (z130 < (a0.length : Int))) from rfl).trans (congrArg Value.bool c160)) ?_
                refine WL.guardNo rfl rfl rfl ((show _ = Value.bool (decide (z130 < (a0.length : Int))) from rfl).trans (congrArg Value.bool c160)) ?_
                refine WL.guardNo rfl rfl rfl ((show _ = Value.bool (decide (z130 < (a0.length : Int))) from rfl).trans (congrArg Value.bool c160)) ?_
                refine WL.guardNo rfl rfl rfl ((show _ = Value.bool (decide (z130 < (a0.length : Int))) from rfl).trans (congrArg Value.bool c160)) ?_
                refine WL.guardYes rfl rfl rfl ((show _ = Value.bool (decide (z135.1 > 999999999)) from rfl).trans (congrArg Value.bool c159)) ?_
                refine OW.ex rfl (ex_pick_f (v := .bool false) ((show _ = Value.bool (decide (z130 < (a0.length : Int))) from rfl).trans (congrArg Value.bool c160)) rfl) ?_
                refine WL.ex rfl (ex_pick_f (v := .bool false) ((show _ = Value.bool (decide (z135.1 > 999999999)) from rfl).trans (congrArg Value.bool c159)) rfl) ?_
                refine WL.nil ?_
                obtain rfl := Option.some.inj H
                exact ⟨_, HF, hB105, hG, rfl, rfl, rfl, rfl, rfl, rfl, rfl⟩
      ·
        refine WL.guardNo rfl rfl rfl ((show _ = Value.bool (decide (z130 > 1)) from rfl).trans (congrArg Value.bool c155)) ?_
        refine WL.guardNo rfl rfl rfl ((show _ = Value.bool (decide (z130 > 1)) from rfl).trans (congrArg Value.bool c155)) ?_
        refine WL.guardNo rfl rfl rfl ((show _ = Value.bool (decide (z130 > 1)) from rfl).trans (congrArg Value.bool c155)) ?_
        refine WL.ex rfl (ex_pick_f (v := .bool false) ((show _ = Value.bool (decide (z130 > 1)) from rfl).trans (congrArg Value.bool c155)) rfl) ?_
        refine WL.ex rfl (ex_move (v := .bool false) rfl) ?_
        refine WL.guardYes rfl rfl rfl rfl ?_
        refine OW.ex rfl (ex_move (v := v139) rfl) ?_
        refine WL.guardYes rfl rfl rfl rfl ?_
        refine OW.ex rfl (ex_errNeq (b := z135.2) rfl Tryd.underlying69 hE140) ?_
        refine WL.ex rfl (ex_pick_f (v := .bool z135.2) rfl rfl) ?_
        refine WL.ex rfl (ex_move (v := .bool z135.2) rfl) ?_
        rcases condE H with ⟨c166, H⟩ | ⟨c166, H⟩
        ·
          refine WL.guardNo rfl rfl rfl ((show _ = Value.bool z135.2 from rfl).trans (congrArg Value.bool c166)) ?_
          refine WL.guardNo rfl rfl rfl ((show _ = Value.bool z135.2 from rfl).trans (congrArg Value.bool c166)) ?_
          refine WL.ex rfl (ex_pick_t (v := .bool true) ((show _ = Value.bool z135.2 from rfl).trans (congrArg Value.bool c166)) rfl) ?_
          refine WL.ex rfl (ex_move (v := .bool true) rfl) ?_
          refine WL.guardNo rfl rfl rfl rfl ?_
          refine WL.guardNo rfl rfl rfl rfl ?_
          refine WL.guardNo rfl rfl rfl rfl ?_
          refine WL.guardNo rfl rfl rfl rfl ?_
          refine WL.guardNo rfl rfl rfl rfl ?_
          refine WL.guardUn rfl rfl rfl rfl ?_
          refine WL.guardUn rfl rfl rfl rfl ?_
          refine WL.guardUn rfl rfl rfl rfl ?_
          refine WL.guardUn rfl rfl rfl rfl ?_
          refine WL.guardNo rfl rfl rfl rfl ?_
          refine WL.ex rfl (ex_pick_t (v := .bool true) rfl rfl) ?_
          refine WL.nil ?_
          obtain rfl := Option.some.inj H
          exact ⟨_, HF, hB105, hG, rfl, rfl, rfl, rfl, rfl, rfl, rfl⟩
        ·
          refine WL.guardYes rfl rfl rfl ((show _ = Value.bool z135.2 from rfl).trans (congrArg Value.bool c166)) ?_
          refine OW.ex rfl (ex_move (v := .int .i64 z135.1) rfl) ?_
          refine WL.guardYes rfl rfl rfl ((show _ = Value.bool z135.2 from rfl).trans (congrArg Value.bool c166)) ?_
          refine OW.ex rfl (ex_bin (a := .int .i64 z135.1) (b := .int .i64 999999999) (v := .bool (decide (z135.1 > 999999999))) rfl rfl bin_gtr) ?_
          refine WL.ex rfl (ex_pick_f (v := .bool (decide (z135.1 > 999999999))) ((show _ = Value.bool z135.2 from rfl).trans (congrArg Value.bool c166)) rfl) ?_
          refine WL.ex rfl (ex_move (v := .bool (decide (z135.1 > 999999999))) rfl) ?_
          rcases condE H with ⟨c167, H⟩ | ⟨c167, H⟩
          ·
            refine WL.guardNo rfl rfl rfl ((show _ = Value.bool (decide (z135.1 > 999999999)) from rfl).trans (congrArg Value.bool c167)) ?_
            refine WL.guardNo rfl rfl rfl ((show _ = Value.bool (decide (z135.1 > 999999999)) from rfl).trans (congrArg Value.bool c167)) ?_
            refine WL.guardNo rfl rfl rfl ((show _ = Value.bool (decide (z135.1 > 999999999)) from rfl).trans (congrArg Value.bool c167)) ?_
            refine WL.guardNo rfl rfl rfl ((show _ = Value.bool (decide (z135.1 > 999999999)) from rfl).trans (congrArg Value.bool c167)) ?_
            refine WL.guardNo rfl rfl rfl ((show _ = Value.bool (decide (z135.1 > 999999999)) from rfl).trans (congrArg Value.bool c167)) ?_
            refine WL.guardUn rfl rfl rfl rfl ?_
            refine WL.guardUn rfl rfl rfl rfl ?_
            refine WL.guardUn rfl rfl rfl rfl ?_
            refine WL.guardUn rfl rfl rfl rfl ?_
            refine WL.guardNo rfl rfl rfl ((show _ = Value.bool (decide (z135.1 > 999999999)) from rfl).trans (congrArg Value.bool c167)) ?_
            refine WL.ex rfl (ex_pick_t (v := .bool true) ((show _ = Value.bool (decide (z135.1 > 999999999)) from rfl).trans (congrArg Value.bool c167)) rfl) ?_
            refine WL.nil ?_
            obtain rfl := Option.some.inj H
            exact ⟨_, HF, hB105, hG, rfl, rfl, rfl, rfl, rfl, rfl, rfl⟩
          ·
            refine WL.guardYes rfl rfl rfl ((show _ = Value.bool (decide (z135.1 > 999999999)) from rfl).trans (congrArg Value.bool c167)) ?_
            refine OW.ex rfl (ex_move (v := .int .i64 z130) rfl) ?_
            refine WL.guardYes rfl rfl rfl ((show _ = Value.bool (decide (z135.1 > 999999999)) from rfl).trans (congrArg Value.bool c167)) ?_
            refine OW.ex rfl (ex_move (v := encS a0) rfl) ?_
            refine WL.guardYes rfl rfl rfl ((show _ = Value.bool (decide (z135.1 > 999999999)) from rfl).trans (congrArg Value.bool c167)) ?_
            refine OW.ex rfl (ex_len_str (s := a0) rfl Tryd.underlying9) ?_
            refine WL.guardYes rfl rfl rfl ((show _ = Value.bool (decide (z135.1 > 999999999)) from rfl).trans (congrArg Value.bool c167)) ?_
            refine OW.ex rfl (ex_bin (a := .int .i64 z130) (b := .int .i64 (a0.length : Int)) (v := .bool (decide (z130 < (a0.length : Int)))) rfl rfl bin_lss) ?_
            refine WL.guardYes rfl rfl rfl ((show _ = Value.bool (decide (z135.1 > 999999999)) from rfl).trans (congrArg Value.bool c167)) ?_
            refine OW.ex rfl (ex_move (v := .bool (decide (z130 < (a0.length : Int)))) rfl) ?_
            rcases condE H with ⟨c168, H⟩ | ⟨c168, H⟩
            ·
              refine WL.guardYes rfl rfl rfl ((show _ = Value.bool (decide (z130 < (a0.length : Int))) from rfl).trans (congrArg Value.bool c168)) ?_
              refine OW.ex rfl (ex_move (v := encS a0) rfl) ?_
              refine WL.guardYes rfl rfl rfl ((show _ = Value.bool (decide (z130 < (a0.length : Int))) from rfl).trans (congrArg Value.bool c168)) ?_
              refine OW.ex rfl (ex_move (v := .int .i64 z130) rfl) ?_
              refine WL.guardYes rfl rfl rfl ((show _ = Value.bool (decide (z130 < (a0.length : Int))) from rfl).trans (congrArg Value.bool c168)) ?_
              obtain ⟨x169, hx169, H⟩ := bindE H
              refine OW.ex rfl (ex_index_str (i := z130) rfl rfl Tryd.underlying9 (ix_some hx169).1 (ix_some hx169).2.2) ?_
              refine WL.guardYes rfl rfl rfl ((show _ = Value.bool (decide (z130 < (a0.length : Int))) from rfl).trans (congrArg Value.bool c168)) ?_
              obtain ⟨z170, hz170, H⟩ := bindE H
              refine OW.call [enc8 x169] rfl Tryd.func40 (by kernel_rfl) (by kernel_rfl) (map_cons' rfl rfl) (token_tail.calls _ _ x169 z170 (HF.ten (V := [0]) (L := []) rfl)  hz170) ?_
              rintro _ w171 ⟨o172, rfl, s173⟩
              refine ⟨_, rfl, ?_⟩
              replace s173 := un_stepL (J := []) (L' := []) s173 rfl rfl
              replace hG := hG.step s173 rfl
              replace hB105 := hB105.step s173 rfl
              replace HF := HF.step s173 rfl
              refine WL.guardYes rfl rfl rfl ((show _ = Value.bool (decide (z135.1 > 999999999)) from rfl).trans (congrArg Value.bool c167)) ?_
              refine OW.ex rfl (ex_pick_t (v := .bool z170) ((show _ = Value.bool (decide (z130 < (a0.length : Int))) from rfl).trans (congrArg Value.bool c168)) rfl) ?_
              refine WL.ex rfl (ex_pick_f (v := .bool z170) ((show _ = Value.bool (decide (z135.1 > 999999999)) from rfl).trans (congrArg Value.bool c167)) rfl) ?_
              refine WL.nil ?_
              obtain rfl := Option.some.inj H
              exact ⟨_, HF, hB105, hG, rfl, rfl, rfl, rfl, rfl, rfl, rfl⟩
            ·
              refine WL.guardNo rfl rfl rfl ((show _ = Value.bool (decide (z130 < (a0.length : Int))) from rfl).trans (congrArg Value.bool c168)) ?_
              refine WL.guardNo rfl rfl rfl ((show _ = Value.bool (decide (z130 < (a0.length : Int))) from rfl).trans (congrArg Value.bool c168)) ?_
              refine WL.guardNo rfl rfl rfl ((show _ = Value.bool (decide (z130 < (a0.length : Int))) from rfl).trans (congrArg Value.bool c168)) ?_
              refine WL.guardNo rfl rfl rfl ((show _ = Value.bool (decide (z130 < (a0.length : Int))) from rfl).trans (congrArg Value.bool c168)) ?_
              refine WL.guardYes rfl rfl rfl ((show _ = Value.bool (decide (z135.1 > 999999999)) from rfl).trans (congrArg Value.bool c167)) ?_
              refine OW.ex rfl (ex_pick_f (v := .bool false) ((show _ = Value.bool (decide (z130 < (a0.length : Int))) from rfl).trans (congrArg Value.bool c168)) rfl) ?_
              refine WL.ex rfl (ex_pick_f (v := .bool false) ((show _ = Value.bool (decide (z135.1 > 999999999)) from rfl).trans (congrArg Value.bool c167)) rfl) ?_
              refine WL.nil ?_
              obtain rfl := Option.some.inj H
              exact ⟨_, HF, hB105, hG, rfl, rfl, rfl, rfl, rfl, rfl, rfl⟩
    ·
      refine WC.cond_f ((show _ = Value.bool z125 from rfl).trans (congrArg Value.bool c129)) ?_
      refine WC.skip ?_
      refine WC.seq ?_
      refine WC.seq ?_
      refine WC.region ?_
      refine WL.ex rfl (ex_move (v := encS a0) rfl) ?_
      obtain ⟨z174, hz174, H⟩ := bindE H
      refine WL.op rfl ?_
      refine OW.call [encS a0] rfl Tryd.func43 (by kernel_rfl) (by kernel_rfl) (map_cons' rfl rfl) (utf8_DecodeRuneInString.calls _ _ a0 z174 (HF.ten (V := [0]) (L := []) rfl) (Gl.vw (V := [0]) (L := []) hG rfl) hz174) ?_
      rintro _ w175 ⟨o176, rfl, s177⟩
      refine ⟨_, rfl, ?_⟩
      replace s177 := un_stepL (J := []) (L' := []) s177 rfl rfl
      replace hG := hG.step s177 rfl
      replace hB105 := hB105.step s177 rfl
      replace HF := HF.step s177 rfl
      refine WL.ex rfl (ex_move (v := .tuple #[.int .i32 z174.1, .int .i64 z174.2]) rfl) ?_
      refine WL.ex rfl (ex_extract (vs := #[.int .i32 z174.1, .int .i64 z174.2]) (v := .int .i32 z174.1) rfl rfl) ?_
      refine WL.ex rfl (ex_extract (vs := #[.int .i32 z174.1, .int .i64 z174.2]) (v := .int .i64 z174.2) rfl rfl) ?_
      refine WL.ex rfl (ex_assign (v := .int .i32 z174.1) rfl) ?_
      refine WL.ex rfl (ex_assign (v := .int .i64 z174.2) rfl) ?_
      refine WL.nil ?_
      refine WC.seq ?_
      refine WC.region ?_
      refine WL.ex rfl (ex_move (v := .int .i32 z174.1) rfl) ?_
      refine WL.nil ?_
      refine WC.block ?_
      refine WC.seq ?_
      refine WC.region ?_
      refine WL.ex rfl (ex_bin (a := .int .i32 z174.1) (b := .int .i32 8868) (v := .bool (z174.1 == 8868)) rfl rfl bin_eql) ?_
      refine WL.ex rfl (ex_assign (v := .bool (z174.1 == 8868)) rfl) ?_
      refine WL.nil ?_
      rcases condE H with ⟨c178, H⟩ | ⟨c178, H⟩
      ·
        refine WC.cond_t ((show _ = Value.bool (z174.1 == 8868) from rfl).trans (congrArg Value.bool c178)) ?_
        refine WC.seq ?_
        refine WC.region ?_
        refine WL.ex rfl (ex_build (cs := [.int .i64 1, encS ([116, 114, 117, 101] : List UInt8), .int .i64 (0 : Int), .int .i64 (0 : Int), .int .i64 (0 : Int), .int .i64 (0 : Int)]) [(0, 1), (1, 1), (2, 1), (3, 3)] [(0, .int .i64 1), (1, encS ([116, 114, 117, 101] : List UInt8))] [.int .i64 0, .string ⟨#[]⟩, .int .i64 0, .int .i64 0, .int .i64 0, .int .i64 0] Tryd.underlying37 zr37 rfl (by kernel_rfl) (evs_cons rfl (evs_cons rfl rfl)) rfl) ?_
        refine WL.ex rfl (ex_move (v := .int .i64 z174.2) rfl) ?_
        refine WL.op rfl ?_
        refine OW.store [.int .i64 1, encS ([116, 114, 117, 101] : List UInt8), .int .i64 (0 : Int), .int .i64 (0 : Int), .int .i64 (0 : Int), .int .i64 (0 : Int)] rfl (vs := [.int .i64 1, encS ([116, 114, 117, 101] : List UInt8), .int .i64 (0 : Int), .int .i64 (0 : Int), .int .i64 (0 : Int), .int .i64 (0 : Int)]) ((congrArg Value.cells (show ev _ _ = (.agg #[.int .i64 1, encS ([116, 114, 117, 101] : List UInt8), .int .i64 (0 : Int), .int .i64 (0 : Int), .int .i64 (0 : Int), .int .i64 (0 : Int)] : Value) from rfl)).trans rfl) sz37 hB105 (Nat.le_of_ble_eq_true rfl) (by intro u_ hu_; simp only [List.mem_cons, List.not_mem_nil, or_false] at hu_; rcases hu_ with rfl | rfl | rfl | rfl | rfl | rfl <;> first | rfl) rfl ?_
        intro w179 s180 hB181
        replace hG := hG.step s180 rfl
        replace HF := HF.step s180 rfl
        refine WL.ex rfl (ex_assign (v := .int .i64 z174.2) rfl) ?_
        refine WL.ex rfl (ex_assign (v := .int .i64 0) rfl) ?_
        refine WL.nil ?_
        refine WC.ret ?_
        obtain rfl := Option.some.inj H
        exact ⟨_, (.cell (.agg #[.int .i64 1, encS ([116, 114, 117, 101] : List UInt8), .int .i64 (0 : Int), .int .i64 (0 : Int), .int .i64 (0 : Int), .int .i64 (0 : Int)] : Value) rfl (run_loadN (cs := [.int .i64 1, encS ([116, 114, 117, 101] : List UInt8), .int .i64 (0 : Int), .int .i64 (0 : Int), .int .i64 (0 : Int), .int .i64 (0 : Int)]) Tryd.underlying37 rfl sz37 (hB181.cells rfl)) (.tmp (.int .i64 z174.2 : Value) rfl (.tmp (.int .i64 0 : Value) rfl .nil))), _, rfl, HF.out⟩
      ·
        refine WC.cond_f ((show _ = Value.bool (z174.1 == 8868) from rfl).trans (congrArg Value.bool c178)) ?_
        refine WC.seq ?_
        refine WC.region ?_
        refine WL.ex rfl (ex_bin (a := .int .i32 z174.1) (b := .int .i32 8869) (v := .bool (z174.1 == 8869)) rfl rfl bin_eql) ?_
        refine WL.ex rfl (ex_assign (v := .bool (z174.1 == 8869)) rfl) ?_
        refine WL.nil ?_
        rcases condE H with ⟨c182, H⟩ | ⟨c182, H⟩
        ·
          refine WC.cond_t ((show _ = Value.bool (z174.1 == 8869) from rfl).trans (congrArg Value.bool c182)) ?_
          refine WC.seq ?_
          refine WC.region ?_
          refine WL.ex rfl (ex_build (cs := [.int .i64 1, encS ([102, 97, 108, 115, 101] : List UInt8), .int .i64 (0 : Int), .int .i64 (0 : Int), .int .i64 (0 : Int), .int .i64 (0 : Int)]) [(0, 1), (1, 1), (2, 1), (3, 3)] [(0, .int .i64 1), (1, encS ([102, 97, 108, 115, 101] : List UInt8))] [.int .i64 0, .string ⟨#[]⟩, .int .i64 0, .int .i64 0, .int .i64 0, .int .i64 0] Tryd.underlying37 zr37 rfl (by kernel_rfl) (evs_cons rfl (evs_cons rfl rfl)) rfl) ?_
          refine WL.ex rfl (ex_move (v := .int .i64 z174.2) rfl) ?_
          refine WL.op rfl ?_
          refine OW.store [.int .i64 1, encS ([102, 97, 108, 115, 101] : List UInt8), .int .i64 (0 : Int), .int .i64 (0 : Int), .int .i64 (0 : Int), .int .i64 (0 : Int)] rfl (vs := [.int .i64 1, encS ([102, 97, 108, 115, 101] : List UInt8), .int .i64 (0 : Int), .int .i64 (0 : Int), .int .i64 (0 : Int), .int .i64 (0 : Int)]) ((congrArg Value.cells (show ev _ _ = (.agg #[.int .i64 1, encS ([102, 97, 108, 115, 101] : List UInt8), .int .i64 (0 : Int), .int .i64 (0 : Int), .int .i64 (0 : Int), .int .i64 (0 : Int)] : Value) from rfl)).trans rfl) sz37 hB105 (Nat.le_of_ble_eq_true rfl) (by intro u_ hu_; simp only [List.mem_cons, List.not_mem_nil, or_false] at hu_; rcases hu_ with rfl | rfl | rfl | rfl | rfl | rfl <;> first | rfl) rfl ?_
          intro w183 s184 hB185
          replace hG := hG.step s184 rfl
          replace HF := HF.step s184 rfl
          refine WL.ex rfl (ex_assign (v := .int .i64 z174.2) rfl) ?_
          refine WL.ex rfl (ex_assign (v := .int .i64 0) rfl) ?_
          refine WL.nil ?_
          refine WC.ret ?_
          obtain rfl := Option.some.inj H
          exact ⟨_, (.cell (.agg #[.int .i64 1, encS ([102, 97, 108, 115, 101] : List UInt8), .int .i64 (0 : Int), .int .i64 (0 : Int), .int .i64 (0 : Int), .int .i64 (0 : Int)] : Value) rfl (run_loadN (cs := [.int .i64 1, encS ([102, 97, 108, 115, 101] : List UInt8), .int .i64 (0 : Int), .int .i64 (0 : Int), .int .i64 (0 : Int), .int .i64 (0 : Int)]) Tryd.underlying37 rfl sz37 (hB185.cells rfl)) (.tmp (.int .i64 z174.2 : Value) rfl (.tmp (.int .i64 0 : Value) rfl .nil))), _, rfl, HF.out⟩
        ·
          refine WC.cond_f ((show _ = Value.bool (z174.1 == 8869) from rfl).trans (congrArg Value.bool c182)) ?_
          refine WC.skip ?_
          refine WC.seq ?_
          refine WC.region ?_
          refine WL.ex rfl (ex_move (v := encS a0) rfl) ?_
          obtain ⟨z186, hz186, H⟩ := bindE H
          refine WL.op rfl ?_
          refine OW.call [encS a0] rfl Tryd.func33 (by kernel_rfl) (by kernel_rfl) (map_cons' rfl rfl) (token_sign.calls k _ _ a0 z186 (HF.ten (V := [0]) (L := []) rfl) (Gl.vw (V := [0]) (L := []) hG rfl) hz186) ?_
          rintro _ w187 ⟨o188, rfl, s189⟩
          refine ⟨_, rfl, ?_⟩
          replace s189 := un_stepL (J := []) (L' := []) s189 rfl rfl
          replace hG := hG.step s189 rfl
          replace hB105 := hB105.step s189 rfl
          replace HF := HF.step s189 rfl
          refine WL.ex rfl (ex_move (v := .tuple #[encS z186.1, .int .i64 z186.2]) rfl) ?_
          refine WL.ex rfl (ex_extract (vs := #[encS z186.1, .int .i64 z186.2]) (v := encS z186.1) rfl rfl) ?_
          refine WL.ex rfl (ex_extract (vs := #[encS z186.1, .int .i64 z186.2]) (v := .int .i64 z186.2) rfl rfl) ?_
          refine WL.ex rfl (ex_assign (v := encS z186.1) rfl) ?_
          refine WL.ex rfl (ex_assign (v := .int .i64 z186.2) rfl) ?_
          refine WL.nil ?_
          refine WC.seq ?_
          refine WC.seq ?_
          refine WC.region ?_
          refine WL.ex rfl (ex_move (v := .int .i64 z186.2) rfl) ?_
          refine WL.ex rfl (ex_bin (a := .int .i64 z186.2) (b := .int .i64 0) (v := .bool (z186.2 == 0)) rfl rfl bin_eql) ?_
          refine WL.nil ?_
          rcases condE H with ⟨c190, H⟩ | ⟨c190, H⟩
          ·
            refine WC.cond_t ((show _ = Value.bool (z186.2 == 0) from rfl).trans (congrArg Value.bool c190)) ?_
            refine WC.seq ?_
            refine WC.region ?_
            refine WL.ex rfl (ex_build (cs := [.int .i64 (0 : Int), encS ([] : List UInt8), .int .i64 (0 : Int), .int .i64 (0 : Int), .int .i64 (0 : Int), .int .i64 (0 : Int)]) [(0, 1), (1, 1), (2, 1), (3, 3)] [] [.int .i64 0, .string ⟨#[]⟩, .int .i64 0, .int .i64 0, .int .i64 0, .int .i64 0] Tryd.underlying37 zr37 rfl (by kernel_rfl) rfl rfl) ?_
            refine WL.op rfl ?_
            refine OW.store [.int .i64 (0 : Int), encS ([] : List UInt8), .int .i64 (0 : Int), .int .i64 (0 : Int), .int .i64 (0 : Int), .int .i64 (0 : Int)] rfl (vs := [.int .i64 (0 : Int), encS ([] : List UInt8), .int .i64 (0 : Int), .int .i64 (0 : Int), .int .i64 (0 : Int), .int .i64 (0 : Int)]) ((congrArg Value.cells (show ev _ _ = (.agg #[.int .i64 (0 : Int), encS ([] : List UInt8), .int .i64 (0 : Int), .int .i64 (0 : Int), .int .i64 (0 : Int), .int .i64 (0 : Int)] : Value) from rfl)).trans rfl) sz37 hB105 (Nat.le_of_ble_eq_true rfl) (by intro u_ hu_; simp only [List.mem_cons, List.not_mem_nil, or_false] at hu_; rcases hu_ with rfl | rfl | rfl | rfl | rfl | rfl <;> first | rfl) rfl ?_
            intro w191 s192 hB193
            replace hG := hG.step s192 rfl
            replace HF := HF.step s192 rfl
            refine WL.ex rfl (ex_assign (v := .int .i64 0) rfl) ?_
            refine WL.ex rfl (ex_assign (v := .int .i64 20) rfl) ?_
            refine WL.nil ?_
            refine WC.ret ?_
            obtain rfl := Option.some.inj H
            exact ⟨_, (.cell (.agg #[.int .i64 (0 : Int), encS ([] : List UInt8), .int .i64 (0 : Int), .int .i64 (0 : Int), .int .i64 (0 : Int), .int .i64 (0 : Int)] : Value) rfl (run_loadN (cs := [.int .i64 (0 : Int), encS ([] : List UInt8), .int .i64 (0 : Int), .int .i64 (0 : Int), .int .i64 (0 : Int), .int .i64 (0 : Int)]) Tryd.underlying37 rfl sz37 (hB193.cells rfl)) (.tmp (.int .i64 0 : Value) rfl (.tmp (.int .i64 20 : Value) rfl .nil))), _, rfl, HF.out⟩
          ·
            refine WC.cond_f ((show _ = Value.bool (z186.2 == 0) from rfl).trans (congrArg Value.bool c190)) ?_
            refine WC.skip ?_
            refine WC.seq ?_
            refine WC.region ?_
            refine WL.ex rfl (ex_move (v := encS z186.1) rfl) ?_
            refine WL.ex rfl (ex_build (cs := [.int .i64 3, encS z186.1, .int .i64 (0 : Int), .int .i64 (0 : Int), .int .i64 (0 : Int), .int .i64 (0 : Int)]) [(0, 1), (1, 1), (2, 1), (3, 3)] [(0, .int .i64 3), (1, encS z186.1)] [.int .i64 0, .string ⟨#[]⟩, .int .i64 0, .int .i64 0, .int .i64 0, .int .i64 0] Tryd.underlying37 zr37 rfl (by kernel_rfl) (evs_cons rfl (evs_cons rfl rfl)) rfl) ?_
            refine WL.ex rfl (ex_move (v := .int .i64 z186.2) rfl) ?_
            refine WL.op rfl ?_
            refine OW.store [.int .i64 3, encS z186.1, .int .i64 (0 : Int), .int .i64 (0 : Int), .int .i64 (0 : Int), .int .i64 (0 : Int)] rfl (vs := [.int .i64 3, encS z186.1, .int .i64 (0 : Int), .int .i64 (0 : Int), .int .i64 (0 : Int), .int .i64 (0 : Int)]) ((congrArg Value.cells (show ev _ _ = (.agg #[.int .i64 3, encS z186.1, .int .i64 (0 : Int), .int .i64 (0 : Int), .int .i64 (0 : Int), .int .i64 (0 : Int)] : Value) from rfl)).trans rfl) sz37 hB105 (Nat.le_of_ble_eq_true rfl) (by intro u_ hu_; simp only [List.mem_cons, List.not_mem_nil, or_false] at hu_; rcases hu_ with rfl | rfl | rfl | rfl | rfl | rfl <;> first | rfl) rfl ?_
            intro w194 s195 hB196
            replace hG := hG.step s195 rfl
            replace HF := HF.step s195 rfl
            refine WL.ex rfl (ex_assign (v := .int .i64 z186.2) rfl) ?_
            refine WL.ex rfl (ex_assign (v := .int .i64 0) rfl) ?_
            refine WL.nil ?_
            refine WC.ret ?_
            obtain rfl := Option.some.inj H
            exact ⟨_, (.cell (.agg #[.int .i64 3, encS z186.1, .int .i64 (0 : Int), .int .i64 (0 : Int), .int .i64 (0 : Int), .int .i64 (0 : Int)] : Value) rfl (run_loadN (cs := [.int .i64 3, encS z186.1, .int .i64 (0 : Int), .int .i64 (0 : Int), .int .i64 (0 : Int), .int .i64 (0 : Int)]) Tryd.underlying37 rfl sz37 (hB196.cells rfl)) (.tmp (.int .i64 z186.2 : Value) rfl (.tmp (.int .i64 0 : Value) rfl .nil))), _, rfl, HF.out⟩

/-! ### token_Scan -/
set_option maxRecDepth 100000 in
theorem token_Scan.calls (k : Nat) (o0 : Tags) (w0 : World) (a0 : List UInt8) (r : (List T_api_Token) × T_api_Fault) (hO : ∀ b, b < w0.heap.size → o0 b < 10) (hG : Gl GG o0 w0) (H : token_Scan.f k a0 = some r) :
    Calls Tryd.prog 14 [encS a0].toArray w0 fun e_ w_ => ∃ (o_ : Tags) (rv0 : Value), e_ = .returned (one [rv0, .agg #[.int .i64 r.2.f_Code, .int .i64 r.2.f_At.f_Line, .int .i64 r.2.f_At.f_Col, .int .i64 r.2.f_At.f_Off]]) ∧ Step o0 w0 o_ w_ [] ∧ Own T_api_Token.rep 37 9 o_ w_ rv0 r.1 := by
  have HF := Fm.refl hO []
  unfold token_Scan.f at H
  refine SX.calls [encS a0] Tryd.func14 rfl rfl ?_
  rw [Tryd.ntmps14]
  refine WC.seq ?_
  refine WC.region ?_
  refine WL.ex rfl (ex_assign (v := .slice none ([] : List T_api_Token).length 0) rfl) ?_
  refine WL.op rfl ?_
  refine OW.alloc' [.int .i64 (0 : Int), .int .i64 (0 : Int), .int .i64 (0 : Int), .int .i64 (0 : Int)] 10 HF rfl zr31 rfl ?_
  intro o102 w103 b101 s104 hB105
  replace hG := hG.step s104 rfl
  replace HF := HF.step s104 rfl
  refine WL.nil ?_
  refine WC.seq ?_
  refine WC.region ?_
  refine WL.ex rfl (ex_move (v := encS a0) rfl) ?_
  refine WL.ex rfl (ex_build (cs := [.int .i64 1, .int .i64 1, .int .i64 (0 : Int)]) [(0, 1), (1, 1), (2, 1)] [(0, .int .i64 1), (1, .int .i64 1)] [.int .i64 0, .int .i64 0, .int .i64 0] Tryd.underlying23 zr23 rfl (by kernel_rfl) (evs_cons rfl (evs_cons rfl rfl)) rfl) ?_
  refine WL.ex rfl (ex_build (cs := [encS a0, .int .i64 1, .int .i64 1, .int .i64 (0 : Int)]) [(0, 1), (1, 3)] [(0, encS a0), (1, .agg #[.int .i64 1, .int .i64 1, .int .i64 (0 : Int)])] [.string ⟨#[]⟩, .int .i64 0, .int .i64 0, .int .i64 0] Tryd.underlying55 zr55 rfl (by kernel_rfl) (evs_cons rfl (evs_cons rfl rfl)) rfl) ?_
  refine WL.op rfl ?_
  refine OW.box' [encS a0, .int .i64 1, .int .i64 1, .int .i64 (0 : Int)] 11 HF rfl ((congrArg Value.cells (show ev _ _ = (.agg #[encS a0, .int .i64 1, .int .i64 1, .int .i64 (0 : Int)] : Value) from rfl)).trans rfl) ?_
  intro o107 w108 b106 s109 hB110
  replace hG := hG.step s109 rfl
  replace hB105 := hB105.step s109 rfl
  replace HF := HF.step s109 rfl
  refine WL.ex rfl (ex_assign (v := .pointer (some ⟨b106, 0, none⟩)) rfl) ?_
  refine WL.nil ?_
  refine WC.seq ?_
  refine WC.region ?_
  refine WL.ex rfl (ex_assign (v := .slice none ([] : List T_api_Token).length 0) rfl) ?_
  refine WL.nil ?_
  obtain ⟨z115, hz115, H⟩ := bindE H
  refine WC.for (fun k_ ρ_ w_ => ∃ (o_ : Tags) (x113 : (List T_api_Token)) (x114 : T_token_cursor) (v111 : Value), Fm o0 w0 o_ w_ [] ∧ Own T_api_Token.rep 37 16 o_ w_ v111 x113 ∧ Bk o_ w_ 10 b101 [.int .i64 (0 : Int), .int .i64 (0 : Int), .int .i64 (0 : Int), .int .i64 (0 : Int)] 31 ∧ Bk o_ w_ 11 b106 [encS x114.f_s, .int .i64 x114.f_at.f_Line, .int .i64 x114.f_at.f_Col, .int .i64 x114.f_at.f_Off] 55 ∧ Gl GG o_ w_ ∧ ρ_ 2 = .slice none ([] : List T_api_Token).length 0 ∧ ρ_ 3 = .pointer (some ⟨b101, 0, none⟩) ∧ ρ_ 4 = .pointer (some ⟨b106, 0, none⟩) ∧ ρ_ 5 = v111 ∧ token_Scan.l1 k k_ x113 x114 = some z115) k (fun ρ_ w_ => False) ⟨_, ([] : List T_api_Token), (⟨a0, (⟨1, 1, (0 : Int)⟩ : T_api_Spot)⟩ : T_token_cursor), _, HF, Own.nil, hB105, hB110, hG, rfl, rfl, rfl, rfl, hz115⟩ ?case116 ?_
  case case116 =>
    exact fun _ _ h_ => h_.elim
  have Ho117 := H
  rintro k118 ρ119 w120 ⟨o121, x113, x114, v111, HF, hO112, hB105, hB110, hG, s2_110, s3_110, s4_110, s5_113, H⟩
  cases k118 with
  | zero => cases H
  | succ k118 =>
  rw [token_Scan.l1.eq_2] at H
  refine WC.block ?_
  refine WC.seq ?_
  refine WC.region ?_
  refine WL.ex rfl (ex_move (v := .pointer (some ⟨b106, 0, none⟩)) s4_110) ?_
  obtain ⟨z122, hz122, H⟩ := bindE H
  refine WL.op rfl ?_
  refine OW.call [.pointer (some ⟨b106, 0, none⟩)] rfl Tryd.func26 (by kernel_rfl) (by kernel_rfl) (map_cons' rfl rfl) (token_cursor_space.calls k _ _ b106 x114 z122 (HF.ten (V := [0]) (L := [11]) rfl) (Bk.vw (V := [0]) (L := [11]) hB110 rfl) (Gl.vw (V := [0]) (L := [11]) hG rfl) hz122) ?_
  rintro _ w123 ⟨o124, rfl, s125, hB126⟩
  refine ⟨_, rfl, ?_⟩
  replace hB126 := Bk.unO (J := []) 0 hB126 s125 rfl rfl rfl
  replace s125 := un_stepL (J := []) (L' := [11]) s125 rfl rfl
  replace hO112 := hO112.step s125 rfl rfl
  replace hB105 := hB105.step s125 rfl
  replace hG := hG.step s125 rfl
  replace HF := HF.step s125 rfl
  refine WL.nil ?_
  refine WC.seq ?_
  refine WC.seq ?_
  refine WC.region ?_
  refine WL.ex rfl (ex_move (v := .pointer (some ⟨b106, 0, none⟩)) s4_110) ?_
  obtain ⟨z127, hz127, H⟩ := bindE H
  refine WL.op rfl ?_
  refine OW.call [.pointer (some ⟨b106, 0, none⟩)] rfl Tryd.func27 (by kernel_rfl) (by kernel_rfl) (map_cons' rfl rfl) (token_cursor_here.calls _ _ b106 z122 z127 (HF.ten (V := [0]) (L := [11]) rfl) (Bk.vw (V := [0]) (L := [11]) hB126 rfl) hz127) ?_
  rintro _ w128 ⟨o129, rfl, s130⟩
  refine ⟨_, rfl, ?_⟩
  replace s130 := un_stepL (J := []) (L' := []) s130 rfl rfl
  replace hO112 := hO112.step s130 rfl rfl
  replace hB105 := hB105.step s130 rfl
  replace hG := hG.step s130 rfl
  replace hB126 := hB126.step s130 rfl
  replace HF := HF.step s130 rfl
  refine WL.ex rfl (ex_bin (a := encS z127) (b := encS ([] : List UInt8)) (v := .bool (z127 == ([] : List UInt8))) rfl rfl bin_eql_str) ?_
  refine WL.nil ?_
  rcases condE H with ⟨c131, H⟩ | ⟨c131, H⟩
  ·
    refine WC.cond_t ((show _ = Value.bool (z127 == ([] : List UInt8)) from rfl).trans (congrArg Value.bool c131)) ?_
    refine WC.seq ?_
    refine WC.region ?_
    refine WL.ex rfl (ex_move (v := v111) s5_113) ?_
    refine WL.ex rfl (ex_move (v := .pointer (some ⟨b106, 0, none⟩)) s4_110) ?_
    refine WL.ex rfl (ex_nilCheck rfl) ?_
    refine WL.ex rfl (ex_fieldAddr rfl Tryd.underlying55 rfl sz23) ?_
    refine WL.ex rfl (ex_loadN (cs := [.int .i64 z122.f_at.f_Line, .int .i64 z122.f_at.f_Col, .int .i64 z122.f_at.f_Off]) rfl Tryd.underlying23 rfl sz23 (hB126.cells rfl)) ?_
    refine WL.ex rfl (ex_build (cs := [.int .i64 (0 : Int), encS ([] : List UInt8), .int .i64 (0 : Int), .int .i64 z122.f_at.f_Line, .int .i64 z122.f_at.f_Col, .int .i64 z122.f_at.f_Off]) [(0, 1), (1, 1), (2, 1), (3, 3)] [(3, .agg #[.int .i64 z122.f_at.f_Line, .int .i64 z122.f_at.f_Col, .int .i64 z122.f_at.f_Off])] [.int .i64 0, .string ⟨#[]⟩, .int .i64 0, .int .i64 0, .int .i64 0, .int .i64 0] Tryd.underlying37 zr37 rfl (by kernel_rfl) (evs_cons rfl rfl) rfl) ?_
    refine WL.op rfl ?_
    refine OW.row (r := T_api_Token.rep) (xs := [(⟨(0 : Int), ([] : List UInt8), (0 : Int), (⟨z122.f_at.f_Line, z122.f_at.f_Col, z122.f_at.f_Off⟩ : T_api_Spot)⟩ : T_api_Token)]) [(0, .agg #[.int .i64 (0 : Int), encS ([] : List UInt8), .int .i64 (0 : Int), .int .i64 z122.f_at.f_Line, .int .i64 z122.f_at.f_Col, .int .i64 z122.f_at.f_Off])] [[.int .i64 (0 : Int), encS ([] : List UInt8), .int .i64 (0 : Int), .int .i64 z122.f_at.f_Line, .int .i64 z122.f_at.f_Col, .int .i64 z122.f_at.f_Off]] 12 HF rfl Tryd.underlying28 sz37 zr37 rfl (evs_cons rfl rfl) rfl rfl ⟨(T_api_Token.mk' (⟨(0 : Int), ([] : List UInt8), (0 : Int), (⟨z122.f_at.f_Line, z122.f_at.f_Col, z122.f_at.f_Off⟩ : T_api_Spot)⟩ : T_api_Token) ), trivial⟩ rfl rfl rfl rfl ?_
    intro o132 w133 v135 s134 hO136
    replace hO112 := hO112.step s134 rfl rfl
    replace hB105 := hB105.step s134 rfl
    replace hG := hG.step s134 rfl
    replace hB126 := hB126.step s134 rfl
    replace HF := HF.step s134 rfl
    obtain ⟨A137, c138, q139_, _, q139⟩ := hO136.row
    obtain ⟨u140, hu140, H⟩ := bindE H
    refine WL.op rfl ?_
    refine OW.append (r := T_api_Token.rep) (E := 37) (i := 16) rfl Tryd.underlying28 inf37 rfl (by decide) (by decide) (by decide) rfl ((show _ = (v135 : Value) from rfl).trans q139_) hO112 q139 rfl (of_decide_eq_true (chk_true hu140)) ?_
    intro o141 w142 v143 s144 hO145
    replace hB105 := hB105.step s144 rfl
    replace hG := hG.step s144 rfl
    replace hB126 := hB126.step s144 rfl
    replace hO136 := hO136.step s144 rfl rfl
    replace HF := HF.step s144 rfl
    refine WL.ex rfl (ex_build (cs := [.int .i64 (0 : Int), .int .i64 (0 : Int), .int .i64 (0 : Int), .int .i64 (0 : Int)]) [(0, 1), (1, 3)] [] [.int .i64 0, .int .i64 0, .int .i64 0, .int .i64 0] Tryd.underlying31 zr31 rfl (by kernel_rfl) rfl rfl) ?_
    refine WL.ex rfl (ex_assign (v := v143) rfl) ?_
    refine WL.op rfl ?_
    refine OW.store [.int .i64 (0 : Int), .int .i64 (0 : Int), .int .i64 (0 : Int), .int .i64 (0 : Int)] s3_110 (vs := [.int .i64 (0 : Int), .int .i64 (0 : Int), .int .i64 (0 : Int), .int .i64 (0 : Int)]) ((congrArg Value.cells (show ev _ _ = (.agg #[.int .i64 (0 : Int), .int .i64 (0 : Int), .int .i64 (0 : Int), .int .i64 (0 : Int)] : Value) from rfl)).trans rfl) sz31 hB105 (Nat.le_of_ble_eq_true rfl) (by intro u_ hu_; simp only [List.mem_cons, List.not_mem_nil, or_false] at hu_; rcases hu_ with rfl | rfl | rfl | rfl <;> first | rfl) rfl ?_
    intro w146 s147 hB148
    replace hG := hG.step s147 rfl
    replace hB126 := hB126.step s147 rfl
    replace hO136 := hO136.step s147 rfl rfl
    replace hO145 := hO145.step s147 rfl rfl
    replace HF := HF.step s147 rfl
    refine WL.nil ?_
    refine WC.ret ?_
    obtain rfl := Option.some.inj H
    replace H := Ho117
    dsimp only at H
    obtain rfl := Option.some.inj H
    replace hO145 := Own.renTo (j := 9) hO145 rfl
    replace HF := HF.ren (i := 16) (j := 9) rfl
    exact ⟨_, (.tmp (v143 : Value) rfl (.cell (.agg #[.int .i64 (0 : Int), .int .i64 (0 : Int), .int .i64 (0 : Int), .int .i64 (0 : Int)] : Value) s3_110 (run_loadN (cs := [.int .i64 (0 : Int), .int .i64 (0 : Int), .int .i64 (0 : Int), .int .i64 (0 : Int)]) Tryd.underlying31 rfl sz31 (hB148.cells rfl)) .nil)), _, v143, rfl, HF.out, hO145⟩
  ·
    refine WC.cond_f ((show _ = Value.bool (z127 == ([] : List UInt8)) from rfl).trans (congrArg Value.bool c131)) ?_
    refine WC.skip ?_
    refine WC.seq ?_
    refine WC.region ?_
    refine WL.ex rfl (ex_move (v := .pointer (some ⟨b106, 0, none⟩)) s4_110) ?_
    obtain ⟨z149, hz149, H⟩ := bindE H
    refine WL.op rfl ?_
    refine OW.call [.pointer (some ⟨b106, 0, none⟩)] rfl Tryd.func27 (by kernel_rfl) (by kernel_rfl) (map_cons' rfl rfl) (token_cursor_here.calls _ _ b106 z122 z149 (HF.ten (V := [0]) (L := [11]) rfl) (Bk.vw (V := [0]) (L := [11]) hB126 rfl) hz149) ?_
    rintro _ w150 ⟨o151, rfl, s152⟩
    refine ⟨_, rfl, ?_⟩
    replace s152 := un_stepL (J := []) (L' := []) s152 rfl rfl
    replace hO112 := hO112.step s152 rfl rfl
    replace hB105 := hB105.step s152 rfl
    replace hG := hG.step s152 rfl
    replace hB126 := hB126.step s152 rfl
    replace HF := HF.step s152 rfl
    obtain ⟨z153, hz153, H⟩ := bindE H
    refine WL.op rfl ?_
    refine OW.call [encS z149] rfl Tryd.func28 (by kernel_rfl) (by kernel_rfl) (map_cons' rfl rfl) (token_word.calls k _ _ z149 z153 (HF.ten (V := [0]) (L := []) rfl) (Gl.vw (V := [0]) (L := []) hG rfl) hz153) ?_
    rintro _ w154 ⟨o155, rfl, s156⟩
    refine ⟨_, rfl, ?_⟩
    replace s156 := un_stepL (J := []) (L' := []) s156 rfl rfl
    replace hO112 := hO112.step s156 rfl rfl
    replace hB105 := hB105.step s156 rfl
    replace hG := hG.step s156 rfl
    replace hB126 := hB126.step s156 rfl
    replace HF := HF.step s156 rfl
    refine WL.ex rfl (ex_move (v := .tuple #[.agg #[.int .i64 z153.1.f_Kind, encS z153.1.f_Text, .int .i64 z153.1.f_Int, .int .i64 z153.1.f_At.f_Line, .int .i64 z153.1.f_At.f_Col, .int .i64 z153.1.f_At.f_Off], .int .i64 z153.2.1, .int .i64 z153.2.2]) rfl) ?_
    refine WL.ex rfl (ex_extract (vs := #[.agg #[.int .i64 z153.1.f_Kind, encS z153.1.f_Text, .int .i64 z153.1.f_Int, .int .i64 z153.1.f_At.f_Line, .int .i64 z153.1.f_At.f_Col, .int .i64 z153.1.f_At.f_Off], .int .i64 z153.2.1, .int .i64 z153.2.2]) (v := .agg #[.int .i64 z153.1.f_Kind, encS z153.1.f_Text, .int .i64 z153.1.f_Int, .int .i64 z153.1.f_At.f_Line, .int .i64 z153.1.f_At.f_Col, .int .i64 z153.1.f_At.f_Off]) rfl rfl) ?_
    refine WL.ex rfl (ex_extract (vs := #[.agg #[.int .i64 z153.1.f_Kind, encS z153.1.f_Text, .int .i64 z153.1.f_Int, .int .i64 z153.1.f_At.f_Line, .int .i64 z153.1.f_At.f_Col, .int .i64 z153.1.f_At.f_Off], .int .i64 z153.2.1, .int .i64 z153.2.2]) (v := .int .i64 z153.2.1) rfl rfl) ?_
    refine WL.ex rfl (ex_extract (vs := #[.agg #[.int .i64 z153.1.f_Kind, encS z153.1.f_Text, .int .i64 z153.1.f_Int, .int .i64 z153.1.f_At.f_Line, .int .i64 z153.1.f_At.f_Col, .int .i64 z153.1.f_At.f_Off], .int .i64 z153.2.1, .int .i64 z153.2.2]) (v := .int .i64 z153.2.2) rfl rfl) ?_
    refine WL.op rfl ?_
    refine OW.alloc' [.int .i64 (0 : Int), encS ([] : List UInt8), .int .i64 (0 : Int), .int .i64 (0 : Int), .int .i64 (0 : Int), .int .i64 (0 : Int)] 13 HF rfl zr37 rfl ?_
    intro o158 w159 b157 s160 hB161
    replace hO112 := hO112.step s160 rfl rfl
    replace hB105 := hB105.step s160 rfl
    replace hG := hG.step s160 rfl
    replace hB126 := hB126.step s160 rfl
    replace HF := HF.step s160 rfl
    refine WL.op rfl ?_
    refine OW.store [.int .i64 z153.1.f_Kind, encS z153.1.f_Text, .int .i64 z153.1.f_Int, .int .i64 z153.1.f_At.f_Line, .int .i64 z153.1.f_At.f_Col, .int .i64 z153.1.f_At.f_Off] rfl (vs := [.int .i64 z153.1.f_Kind, encS z153.1.f_Text, .int .i64 z153.1.f_Int, .int .i64 z153.1.f_At.f_Line, .int .i64 z153.1.f_At.f_Col, .int .i64 z153.1.f_At.f_Off]) ((congrArg Value.cells (show ev _ _ = (.agg #[.int .i64 z153.1.f_Kind, encS z153.1.f_Text, .int .i64 z153.1.f_Int, .int .i64 z153.1.f_At.f_Line, .int .i64 z153.1.f_At.f_Col, .int .i64 z153.1.f_At.f_Off] : Value) from rfl)).trans rfl) sz37 hB161 (Nat.le_of_ble_eq_true rfl) (by intro u_ hu_; simp only [List.mem_cons, List.not_mem_nil, or_false] at hu_; rcases hu_ with rfl | rfl | rfl | rfl | rfl | rfl <;> first | rfl) rfl ?_
    intro w162 s163 hB164
    replace hO112 := hO112.step s163 rfl rfl
    replace hB105 := hB105.step s163 rfl
    replace hG := hG.step s163 rfl
    replace hB126 := hB126.step s163 rfl
    replace HF := HF.step s163 rfl
    refine WL.ex rfl (ex_assign (v := .int .i64 z153.2.1) rfl) ?_
    refine WL.ex rfl (ex_assign (v := .int .i64 z153.2.2) rfl) ?_
    refine WL.nil ?_
    refine WC.seq ?_
    refine WC.seq ?_
    refine WC.region ?_
    refine WL.ex rfl (ex_move (v := .int .i64 z153.2.2) rfl) ?_
    refine WL.ex rfl (ex_bin (a := .int .i64 z153.2.2) (b := .int .i64 0) (v := .bool (z153.2.2 != 0)) rfl rfl bin_neq) ?_
    refine WL.nil ?_
    rcases condE H with ⟨c165, H⟩ | ⟨c165, H⟩
    ·
      refine WC.cond_t ((show _ = Value.bool (z153.2.2 != 0) from rfl).trans (congrArg Value.bool c165)) ?_
      refine WC.seq ?_
      refine WC.regionD' HF [10] 8 (by kernel_rfl) rfl ?_
      intro w166 s167
      replace hO112 := hO112.step s167 rfl rfl
      replace hB105 := hB105.step s167 rfl
      replace hG := hG.step s167 rfl
      replace hB126 := hB126.step s167 rfl
      replace hB164 := hB164.step s167 rfl
      replace HF := HF.step s167 rfl
      have hO112D := hO112
      have hB105D := hB105
      have hGD := hG
      have hB126D := hB126
      have hB164D := hB164
      have sR := HF.here [10]
      refine WA.norm (listed' := #[false, false, false, false, false, false, false, false]) (by kernel_rfl) ?_
      refine WA.ex 0 rfl (by kernel_rfl) (by kernel_rfl) (by kernel_rfl) rfl ⟨_, sR⟩ (fun w_ hS_ => ex_move (v := .int .i64 z153.2.2) rfl) ?_
      refine WA.norm (listed' := #[true, false, false, false, false, false, false, false]) (by kernel_rfl) ?_
      refine WA.ex 1 rfl (by kernel_rfl) (by kernel_rfl) (by kernel_rfl) rfl ⟨_, sR⟩ (fun w_ hS_ => ex_move (v := .pointer (some ⟨b106, 0, none⟩)) s4_110) ?_
      refine WA.norm (listed' := #[true, true, false, false, false, false, false, false]) (by kernel_rfl) ?_
      refine WA.ex 2 rfl (by kernel_rfl) (by kernel_rfl) (by kernel_rfl) rfl ⟨_, sR⟩ (fun w_ hS_ => ex_nilCheck rfl) ?_
      refine WA.norm (listed' := #[true, true, true, false, false, false, false, false]) (by kernel_rfl) ?_
      refine WA.ex 3 rfl (by kernel_rfl) (by kernel_rfl) (by kernel_rfl) rfl ⟨_, sR⟩ (fun w_ hS_ => ex_fieldAddr rfl Tryd.underlying55 rfl sz23) ?_
      refine WA.norm (listed' := #[true, true, true, true, false, false, false, false]) (by kernel_rfl) ?_
      refine WA.ex 4 rfl (by kernel_rfl) (by kernel_rfl) (by kernel_rfl) rfl ⟨_, sR⟩ (fun w_ hS_ => ex_loadN (cs := [.int .i64 z122.f_at.f_Line, .int .i64 z122.f_at.f_Col, .int .i64 z122.f_at.f_Off]) rfl Tryd.underlying23 rfl sz23 ((hB126D.step hS_.choose_spec rfl).cells rfl)) ?_
      refine WA.norm (listed' := #[true, true, true, true, true, false, false, false]) (by kernel_rfl) ?_
      refine WA.ex 5 rfl (by kernel_rfl) (by kernel_rfl) (by kernel_rfl) rfl ⟨_, sR⟩ (fun w_ hS_ => ex_build (cs := [.int .i64 z153.2.2, .int .i64 z122.f_at.f_Line, .int .i64 z122.f_at.f_Col, .int .i64 z122.f_at.f_Off]) [(0, 1), (1, 3)] [(0, .int .i64 z153.2.2), (1, .agg #[.int .i64 z122.f_at.f_Line, .int .i64 z122.f_at.f_Col, .int .i64 z122.f_at.f_Off])] [.int .i64 0, .int .i64 0, .int .i64 0, .int .i64 0] Tryd.underlying31 zr31 rfl (by kernel_rfl) (evs_cons rfl (evs_cons rfl rfl)) rfl) ?_
      refine WA.norm (listed' := #[true, true, true, true, true, true, false, false]) (by kernel_rfl) ?_
      refine WA.ex 6 rfl (by kernel_rfl) (by kernel_rfl) (by kernel_rfl) rfl ⟨_, sR⟩ (fun w_ hS_ => ex_assign (v := .slice none ([] : List T_api_Token).length 0) rfl) ?_
      refine WA.norm (listed' := #[true, true, true, true, true, true, true, false]) (by kernel_rfl) ?_
      refine WA.one 7 (by kernel_rfl) rfl rfl ?_
      refine OW.store [.int .i64 z153.2.2, .int .i64 z122.f_at.f_Line, .int .i64 z122.f_at.f_Col, .int .i64 z122.f_at.f_Off] s3_110 (vs := [.int .i64 z153.2.2, .int .i64 z122.f_at.f_Line, .int .i64 z122.f_at.f_Col, .int .i64 z122.f_at.f_Off]) ((congrArg Value.cells (show ev _ _ = (.agg #[.int .i64 z153.2.2, .int .i64 z122.f_at.f_Line, .int .i64 z122.f_at.f_Col, .int .i64 z122.f_at.f_Off] : Value) from rfl)).trans rfl) sz31 hB105 (Nat.le_of_ble_eq_true rfl) (by intro u_ hu_; simp only [List.mem_cons, List.not_mem_nil, or_false] at hu_; rcases hu_ with rfl | rfl | rfl | rfl <;> first | rfl) rfl ?_
      intro w168 s169 hB170
      replace hO112 := hO112.step s169 rfl rfl
      replace hG := hG.step s169 rfl
      replace hB126 := hB126.step s169 rfl
      replace hB164 := hB164.step s169 rfl
      replace HF := HF.step s169 rfl
      replace sR := Step.trans sR s169 (M := [10]) rfl rfl
      refine ⟨⟨_, sR⟩, ?_⟩
      refine WA.norm (listed' := #[true, true, true, true, true, true, true, true]) (by kernel_rfl) ?_
      refine WA.done (by kernel_rfl) ?_
      refine WC.ret ?_
      obtain rfl := Option.some.inj H
      replace H := Ho117
      dsimp only at H
      obtain rfl := Option.some.inj H
      exact ⟨_, (.tmp (.slice none ([] : List T_api_Token).length 0 : Value) rfl (.cell (.agg #[.int .i64 z153.2.2, .int .i64 z122.f_at.f_Line, .int .i64 z122.f_at.f_Col, .int .i64 z122.f_at.f_Off] : Value) s3_110 (run_loadN (cs := [.int .i64 z153.2.2, .int .i64 z122.f_at.f_Line, .int .i64 z122.f_at.f_Col, .int .i64 z122.f_at.f_Off]) Tryd.underlying31 rfl sz31 (hB170.cells rfl)) .nil)), _, (.slice none 0 0), rfl, HF.out, Own.nil⟩
    ·
      refine WC.cond_f ((show _ = Value.bool (z153.2.2 != 0) from rfl).trans (congrArg Value.bool c165)) ?_
      refine WC.skip ?_
      refine WC.seq ?_
      refine WC.region ?_
      refine WL.ex rfl (ex_move (v := .pointer (some ⟨b106, 0, none⟩)) s4_110) ?_
      refine WL.ex rfl (ex_nilCheck rfl) ?_
      refine WL.ex rfl (ex_fieldAddr rfl Tryd.underlying55 rfl sz23) ?_
      refine WL.ex rfl (ex_loadN (cs := [.int .i64 z122.f_at.f_Line, .int .i64 z122.f_at.f_Col, .int .i64 z122.f_at.f_Off]) rfl Tryd.underlying23 rfl sz23 (hB126.cells rfl)) ?_
      refine WL.ex rfl (ex_fieldAddr rfl Tryd.underlying37 rfl sz23) ?_
      refine WL.op rfl ?_
      refine OW.store [.int .i64 z153.1.f_Kind, encS z153.1.f_Text, .int .i64 z153.1.f_Int, .int .i64 z122.f_at.f_Line, .int .i64 z122.f_at.f_Col, .int .i64 z122.f_at.f_Off] rfl (vs := [.int .i64 z122.f_at.f_Line, .int .i64 z122.f_at.f_Col, .int .i64 z122.f_at.f_Off]) ((congrArg Value.cells (show ev _ _ = (.agg #[.int .i64 z122.f_at.f_Line, .int .i64 z122.f_at.f_Col, .int .i64 z122.f_at.f_Off] : Value) from rfl)).trans rfl) sz23 hB164 (Nat.le_of_ble_eq_true rfl) (by intro u_ hu_; simp only [List.mem_cons, List.not_mem_nil, or_false] at hu_; rcases hu_ with rfl | rfl | rfl <;> first | rfl) rfl ?_
      intro w171 s172 hB173
      replace hO112 := hO112.step s172 rfl rfl
      replace hB105 := hB105.step s172 rfl
      replace hG := hG.step s172 rfl
      replace hB126 := hB126.step s172 rfl
      replace HF := HF.step s172 rfl
      refine WL.nil ?_
      refine WC.seq ?_
      refine WC.region ?_
      refine WL.ex rfl (ex_move (v := v111) s5_113) ?_
      refine WL.ex rfl (ex_loadN (cs := [.int .i64 z153.1.f_Kind, encS z153.1.f_Text, .int .i64 z153.1.f_Int, .int .i64 z122.f_at.f_Line, .int .i64 z122.f_at.f_Col, .int .i64 z122.f_at.f_Off]) rfl Tryd.underlying37 rfl sz37 (hB173.cells rfl)) ?_
      refine WL.op rfl ?_
      refine OW.row (r := T_api_Token.rep) (xs := [(⟨z153.1.f_Kind, z153.1.f_Text, z153.1.f_Int, (⟨z122.f_at.f_Line, z122.f_at.f_Col, z122.f_at.f_Off⟩ : T_api_Spot)⟩ : T_api_Token)]) [(0, .agg #[.int .i64 z153.1.f_Kind, encS z153.1.f_Text, .int .i64 z153.1.f_Int, .int .i64 z122.f_at.f_Line, .int .i64 z122.f_at.f_Col, .int .i64 z122.f_at.f_Off])] [[.int .i64 z153.1.f_Kind, encS z153.1.f_Text, .int .i64 z153.1.f_Int, .int .i64 z122.f_at.f_Line, .int .i64 z122.f_at.f_Col, .int .i64 z122.f_at.f_Off]] 14 HF rfl Tryd.underlying28 sz37 zr37 rfl (evs_cons rfl rfl) rfl rfl ⟨(T_api_Token.mk' (⟨z153.1.f_Kind, z153.1.f_Text, z153.1.f_Int, (⟨z122.f_at.f_Line, z122.f_at.f_Col, z122.f_at.f_Off⟩ : T_api_Spot)⟩ : T_api_Token) ), trivial⟩ rfl rfl rfl rfl ?_
      intro o174 w175 v177 s176 hO178
      replace hO112 := hO112.step s176 rfl rfl
      replace hB105 := hB105.step s176 rfl
      replace hG := hG.step s176 rfl
      replace hB126 := hB126.step s176 rfl
      replace hB173 := hB173.step s176 rfl
      replace HF := HF.step s176 rfl
      obtain ⟨A179, c180, q181_, _, q181⟩ := hO178.row
      obtain ⟨u182, hu182, H⟩ := bindE H
      refine WL.op rfl ?_
      refine OW.append (r := T_api_Token.rep) (E := 37) (i := 16) rfl Tryd.underlying28 inf37 rfl (by decide) (by decide) (by decide) rfl ((show _ = (v177 : Value) from rfl).trans q181_) hO112 q181 rfl (of_decide_eq_true (chk_true hu182)) ?_
      intro o183 w184 v185 s186 hO187
      replace hB105 := hB105.step s186 rfl
      replace hG := hG.step s186 rfl
      replace hB126 := hB126.step s186 rfl
      replace hB173 := hB173.step s186 rfl
      replace hO178 := hO178.step s186 rfl rfl
      replace HF := HF.step s186 rfl
      refine WL.ex rfl (ex_assign (v := v185) rfl) ?_
      refine WL.nil ?_
      refine WC.region ?_
      refine WL.ex rfl (ex_move (v := .pointer (some ⟨b106, 0, none⟩)) s4_110) ?_
      refine WL.ex rfl (ex_move (v := .int .i64 z153.2.1) rfl) ?_
      obtain ⟨z188, hz188, H⟩ := bindE H
      refine WL.op rfl ?_
      refine OW.call [.pointer (some ⟨b106, 0, none⟩), .int .i64 z153.2.1] rfl Tryd.func29 (by kernel_rfl) (by kernel_rfl) (map_cons' rfl (map_cons' rfl rfl)) (token_cursor_skip.calls k _ _ b106 z122 z153.2.1 z188 (HF.ten (V := [0]) (L := [11]) rfl) (Bk.vw (V := [0]) (L := [11]) hB126 rfl) (Gl.vw (V := [0]) (L := [11]) hG rfl) hz188) ?_
      rintro _ w189 ⟨o190, rfl, s191, hB192⟩
      refine ⟨_, rfl, ?_⟩
      replace hB192 := Bk.unO (J := []) 0 hB192 s191 rfl rfl rfl
      replace s191 := un_stepL (J := []) (L' := [11]) s191 rfl rfl
      replace hB105 := hB105.step s191 rfl
      replace hG := hG.step s191 rfl
      replace hB173 := hB173.step s191 rfl
      replace hO178 := hO178.step s191 rfl rfl
      replace hO187 := hO187.step s191 rfl rfl
      replace HF := HF.step s191 rfl
      refine WL.nil ?_
      exact ⟨k118, Nat.lt_succ_self _, ⟨_, (x113 ++ [(⟨z153.1.f_Kind, z153.1.f_Text, z153.1.f_Int, (⟨z122.f_at.f_Line, z122.f_at.f_Col, z122.f_at.f_Off⟩ : T_api_Spot)⟩ : T_api_Token)]), z188, _, HF, hO187, hB105, hB192, hG, s2_110, s3_110, s4_110, rfl, H⟩⟩

/-! ### token_Name -/
set_option maxRecDepth 100000 in
theorem token_Name.calls (k : Nat) (o0 : Tags) (w0 : World) (a0 : List UInt8) (r : Bool) (hO : ∀ b, b < w0.heap.size → o0 b < 10) (hG : Gl GG o0 w0) (H : token_Name.f k a0 = some r) :
    Calls Tryd.prog 11 [encS a0].toArray w0 fun e_ w_ => ∃ (o_ : Tags), e_ = .returned (one [.bool r]) ∧ Step o0 w0 o_ w_ [] := by
  have HF := Fm.refl hO []
  unfold token_Name.f at H
  refine SX.calls [encS a0] Tryd.func11 rfl rfl ?_
  rw [Tryd.ntmps11]
  refine WC.seq ?_
  refine WC.region ?_
  refine WL.ex rfl (ex_assign (v := .bool false) rfl) ?_
  refine WL.nil ?_
  refine WC.seq ?_
  refine WC.region ?_
  refine WL.ex rfl (ex_move (v := encS a0) rfl) ?_
  obtain ⟨z101, hz101, H⟩ := bindE H
  refine WL.op rfl ?_
  refine OW.call [encS a0] rfl Tryd.func14 (by kernel_rfl) (by kernel_rfl) (map_cons' rfl rfl) (token_Scan.calls k _ _ a0 z101 (HF.ten (V := [0]) (L := []) rfl) (Gl.vw (V := [0]) (L := []) hG rfl) hz101) ?_
  rintro _ w102 ⟨o103, v105, rfl, s104, hO106⟩
  refine ⟨_, rfl, ?_⟩
  replace hO106 := Own.un9 (J := [10]) 0 hO106 rfl s104 rfl rfl
  replace s104 := un_stepL (J := [10]) (L' := []) s104 rfl rfl
  replace hG := hG.step s104 rfl
  replace HF := HF.step s104 rfl
  refine WL.ex rfl (ex_move (v := .tuple #[v105, .agg #[.int .i64 z101.2.f_Code, .int .i64 z101.2.f_At.f_Line, .int .i64 z101.2.f_At.f_Col, .int .i64 z101.2.f_At.f_Off]]) rfl) ?_
  refine WL.ex rfl (ex_extract (vs := #[v105, .agg #[.int .i64 z101.2.f_Code, .int .i64 z101.2.f_At.f_Line, .int .i64 z101.2.f_At.f_Col, .int .i64 z101.2.f_At.f_Off]]) (v := v105) rfl rfl) ?_
  refine WL.ex rfl (ex_extract (vs := #[v105, .agg #[.int .i64 z101.2.f_Code, .int .i64 z101.2.f_At.f_Line, .int .i64 z101.2.f_At.f_Col, .int .i64 z101.2.f_At.f_Off]]) (v := .agg #[.int .i64 z101.2.f_Code, .int .i64 z101.2.f_At.f_Line, .int .i64 z101.2.f_At.f_Col, .int .i64 z101.2.f_At.f_Off]) rfl rfl) ?_
  refine WL.op rfl ?_
  refine OW.alloc' [.int .i64 (0 : Int), .int .i64 (0 : Int), .int .i64 (0 : Int), .int .i64 (0 : Int)] 11 HF rfl zr31 rfl ?_
  intro o108 w109 b107 s110 hB111
  replace hG := hG.step s110 rfl
  replace hO106 := hO106.step s110 rfl rfl
  replace HF := HF.step s110 rfl
  refine WL.ex rfl (ex_assign (v := v105) rfl) ?_
  refine WL.op rfl ?_
  refine OW.store [.int .i64 z101.2.f_Code, .int .i64 z101.2.f_At.f_Line, .int .i64 z101.2.f_At.f_Col, .int .i64 z101.2.f_At.f_Off] rfl (vs := [.int .i64 z101.2.f_Code, .int .i64 z101.2.f_At.f_Line, .int .i64 z101.2.f_At.f_Col, .int .i64 z101.2.f_At.f_Off]) ((congrArg Value.cells (show ev _ _ = (.agg #[.int .i64 z101.2.f_Code, .int .i64 z101.2.f_At.f_Line, .int .i64 z101.2.f_At.f_Col, .int .i64 z101.2.f_At.f_Off] : Value) from rfl)).trans rfl) sz31 hB111 (Nat.le_of_ble_eq_true rfl) (by intro u_ hu_; simp only [List.mem_cons, List.not_mem_nil, or_false] at hu_; rcases hu_ with rfl | rfl | rfl | rfl <;> first | rfl) rfl ?_
  intro w112 s113 hB114
  replace hG := hG.step s113 rfl
  replace hO106 := hO106.step s113 rfl rfl
  replace HF := HF.step s113 rfl
  refine WL.nil ?_
  refine WC.seq ?_
  refine WC.region ?_
  refine WL.ex rfl (ex_loadN (cs := [.int .i64 z101.2.f_Code, .int .i64 z101.2.f_At.f_Line, .int .i64 z101.2.f_At.f_Col, .int .i64 z101.2.f_At.f_Off]) rfl Tryd.underlying31 rfl sz31 (hB114.cells rfl)) ?_
  refine WL.ex rfl (ex_build (cs := [.int .i64 (0 : Int), .int .i64 (0 : Int), .int .i64 (0 : Int), .int .i64 (0 : Int)]) [(0, 1), (1, 3)] [] [.int .i64 0, .int .i64 0, .int .i64 0, .int .i64 0] Tryd.underlying31 zr31 rfl (by kernel_rfl) rfl rfl) ?_
  refine WL.ex rfl (ex_bin (a := .agg #[.int .i64 z101.2.f_Code, .int .i64 z101.2.f_At.f_Line, .int .i64 z101.2.f_At.f_Col, .int .i64 z101.2.f_At.f_Off]) (b := .agg #[.int .i64 (0 : Int), .int .i64 (0 : Int), .int .i64 (0 : Int), .int .i64 (0 : Int)]) (v := .bool (T_api_Fault.eqb z101.2 (⟨(0 : Int), (⟨(0 : Int), (0 : Int), (0 : Int)⟩ : T_api_Spot)⟩ : T_api_Fault))) rfl rfl (bin_eql_agg (by kernel_rfl) (EqR.agg Tryd.underlying31 (by kernel_rfl) (EqF.cons (by decide) (PartR.one Tryd.underlying29 rfl rfl) (PartR.one Tryd.underlying29 rfl rfl) (EqR.int Tryd.underlying29) (EqF.cons (by decide) (PartR.many Tryd.underlying23 rfl sz23) (PartR.many Tryd.underlying23 rfl sz23) (EqR.agg Tryd.underlying23 (by kernel_rfl) (EqF.cons (by decide) (PartR.one Tryd.underlying3 rfl rfl) (PartR.one Tryd.underlying3 rfl rfl) (EqR.int Tryd.underlying3) (EqF.cons (by decide) (PartR.one Tryd.underlying3 rfl rfl) (PartR.one Tryd.underlying3 rfl rfl) (EqR.int Tryd.underlying3) (EqF.cons (by decide) (PartR.one Tryd.underlying3 rfl rfl) (PartR.one Tryd.underlying3 rfl rfl) (EqR.int Tryd.underlying3) EqF.nil)))) EqF.nil))))) ?_
  refine WL.ex rfl (ex_move (v := .bool (T_api_Fault.eqb z101.2 (⟨(0 : Int), (⟨(0 : Int), (0 : Int), (0 : Int)⟩ : T_api_Spot)⟩ : T_api_Fault))) rfl) ?_
  rcases condE H with ⟨c115, H⟩ | ⟨c115, H⟩
  ·
    refine WL.guardYes rfl rfl rfl ((show _ = Value.bool (T_api_Fault.eqb z101.2 (⟨(0 : Int), (⟨(0 : Int), (0 : Int), (0 : Int)⟩ : T_api_Spot)⟩ : T_api_Fault)) from rfl).trans (congrArg Value.bool c115)) ?_
    refine OW.ex rfl (ex_move (v := v105) rfl) ?_
    refine WL.guardYes rfl rfl rfl ((show _ = Value.bool (T_api_Fault.eqb z101.2 (⟨(0 : Int), (⟨(0 : Int), (0 : Int), (0 : Int)⟩ : T_api_Spot)⟩ : T_api_Fault)) from rfl).trans (congrArg Value.bool c115)) ?_
    obtain ⟨A116, c117, q118⟩ := hO106.slice
    refine OW.ex rfl (ex_len_slice ((show _ = (v105 : Value) from rfl).trans q118) Tryd.underlying28) ?_
    refine WL.guardYes rfl rfl rfl ((show _ = Value.bool (T_api_Fault.eqb z101.2 (⟨(0 : Int), (⟨(0 : Int), (0 : Int), (0 : Int)⟩ : T_api_Spot)⟩ : T_api_Fault)) from rfl).trans (congrArg Value.bool c115)) ?_
    refine OW.ex rfl (ex_bin (a := .int .i64 (z101.1.length : Int)) (b := .int .i64 2) (v := .bool ((z101.1.length : Int) == 2)) rfl rfl bin_eql) ?_
    refine WL.ex rfl (ex_pick_t (v := .bool ((z101.1.length : Int) == 2)) ((show _ = Value.bool (T_api_Fault.eqb z101.2 (⟨(0 : Int), (⟨(0 : Int), (0 : Int), (0 : Int)⟩ : T_api_Spot)⟩ : T_api_Fault)) from rfl).trans (congrArg Value.bool c115)) rfl) ?_
    refine WL.ex rfl (ex_move (v := .bool ((z101.1.length : Int) == 2)) rfl) ?_
    rcases condE H with ⟨c119, H⟩ | ⟨c119, H⟩
    ·
      refine WL.guardYes rfl rfl rfl ((show _ = Value.bool ((z101.1.length : Int) == 2) from rfl).trans (congrArg Value.bool c119)) ?_
      refine OW.ex rfl (ex_move (v := v105) rfl) ?_
      refine WL.guardYes rfl rfl rfl ((show _ = Value.bool ((z101.1.length : Int) == 2) from rfl).trans (congrArg Value.bool c119)) ?_
      obtain ⟨x120, hx120, H⟩ := bindE H
      obtain ⟨A125, c126, q127_⟩ := hO106.slice
      obtain ⟨ad121, cc128, e122, g123, g124, hl129, hR130, cell131⟩ := Row.ix (Own.rowOf hO106 q127_) hx120
      obtain rfl := T_api_Token.opn hR130
      refine OW.ex rfl (ex_indexAddr (i := (0 : Int)) ((show _ = (v105 : Value) from rfl).trans q127_) e122 rfl Tryd.underlying28 sz37 g123 g124) ?_
      refine WL.guardYes rfl rfl rfl ((show _ = Value.bool ((z101.1.length : Int) == 2) from rfl).trans (congrArg Value.bool c119)) ?_
      refine OW.ex rfl (ex_fieldAddr rfl Tryd.underlying37 rfl sz35) ?_
      refine WL.guardYes rfl rfl rfl ((show _ = Value.bool ((z101.1.length : Int) == 2) from rfl).trans (congrArg Value.bool c119)) ?_
      refine OW.ex rfl (ex_load1 (v := .int .i64 x120.f_Kind) rfl Tryd.underlying35 rfl (cell131 0 _ rfl)) ?_
      refine WL.guardYes rfl rfl rfl ((show _ = Value.bool ((z101.1.length : Int) == 2) from rfl).trans (congrArg Value.bool c119)) ?_
      refine OW.ex rfl (ex_bin (a := .int .i64 x120.f_Kind) (b := .int .i64 1) (v := .bool (x120.f_Kind == 1)) rfl rfl bin_eql) ?_
      refine WL.ex rfl (ex_pick_t (v := .bool (x120.f_Kind == 1)) ((show _ = Value.bool ((z101.1.length : Int) == 2) from rfl).trans (congrArg Value.bool c119)) rfl) ?_
      refine WL.ex rfl (ex_move (v := .bool (x120.f_Kind == 1)) rfl) ?_
      rcases condE H with ⟨c133, H⟩ | ⟨c133, H⟩
      ·
        refine WL.guardYes rfl rfl rfl ((show _ = Value.bool (x120.f_Kind == 1) from rfl).trans (congrArg Value.bool c133)) ?_
        refine OW.ex rfl (ex_move (v := v105) rfl) ?_
        refine WL.guardYes rfl rfl rfl ((show _ = Value.bool (x120.f_Kind == 1) from rfl).trans (congrArg Value.bool c133)) ?_
        obtain ⟨x134, hx134, H⟩ := bindE H
        obtain ⟨A139, c140, q141_⟩ := hO106.slice
        obtain ⟨ad135, cc142, e136, g137, g138, hl143, hR144, cell145⟩ := Row.ix (Own.rowOf hO106 q141_) hx134
        obtain rfl := T_api_Token.opn hR144
        refine OW.ex rfl (ex_indexAddr (i := (0 : Int)) ((show _ = (v105 : Value) from rfl).trans q141_) e136 rfl Tryd.underlying28 sz37 g137 g138) ?_
        refine WL.guardYes rfl rfl rfl ((show _ = Value.bool (x120.f_Kind == 1) from rfl).trans (congrArg Value.bool c133)) ?_
        refine OW.ex rfl (ex_fieldAddr rfl Tryd.underlying37 rfl sz9) ?_
        refine WL.guardYes rfl rfl rfl ((show _ = Value.bool (x120.f_Kind == 1) from rfl).trans (congrArg Value.bool c133)) ?_
        refine OW.ex rfl (ex_load1 (v := encS x134.f_Text) rfl Tryd.underlying9 rfl (cell145 1 _ rfl)) ?_
        refine WL.guardYes rfl rfl rfl ((show _ = Value.bool (x120.f_Kind == 1) from rfl).trans (congrArg Value.bool c133)) ?_
        refine OW.ex rfl (ex_move (v := encS a0) rfl) ?_
        refine WL.guardYes rfl rfl rfl ((show _ = Value.bool (x120.f_Kind == 1) from rfl).trans (congrArg Value.bool c133)) ?_
        refine OW.ex rfl (ex_bin (a := encS x134.f_Text) (b := encS a0) (v := .bool (x134.f_Text == a0)) rfl rfl bin_eql_str) ?_
        refine WL.ex rfl (ex_pick_t (v := .bool (x134.f_Text == a0)) ((show _ = Value.bool (x120.f_Kind == 1) from rfl).trans (congrArg Value.bool c133)) rfl) ?_
        refine WL.ex rfl (ex_assign (v := .bool (x134.f_Text == a0)) rfl) ?_
        refine WL.nil ?_
        refine WC.ret ?_
        obtain rfl := Option.some.inj H
        exact ⟨_, (.tmp (.bool (x134.f_Text == a0) : Value) rfl .nil), _, rfl, HF.out⟩
      ·
        refine WL.guardNo rfl rfl rfl ((show _ = Value.bool (x120.f_Kind == 1) from rfl).trans (congrArg Value.bool c133)) ?_
        refine WL.guardNo rfl rfl rfl ((show _ = Value.bool (x120.f_Kind == 1) from rfl).trans (congrArg Value.bool c133)) ?_
        refine WL.guardNo rfl rfl rfl ((show _ = Value.bool (x120.f_Kind == 1) from rfl).trans (congrArg Value.bool c133)) ?_
        refine WL.guardNo rfl rfl rfl ((show _ = Value.bool (x120.f_Kind == 1) from rfl).trans (congrArg Value.bool c133)) ?_
        refine WL.guardNo rfl rfl rfl ((show _ = Value.bool (x120.f_Kind == 1) from rfl).trans (congrArg Value.bool c133)) ?_
        refine WL.guardNo rfl rfl rfl ((show _ = Value.bool (x120.f_Kind == 1) from rfl).trans (congrArg Value.bool c133)) ?_
        refine WL.ex rfl (ex_pick_f (v := .bool false) ((show _ = Value.bool (x120.f_Kind == 1) from rfl).trans (congrArg Value.bool c133)) rfl) ?_
        refine WL.ex rfl (ex_assign (v := .bool false) rfl) ?_
        refine WL.nil ?_
        refine WC.ret ?_
        obtain rfl := Option.some.inj H
        exact ⟨_, (.tmp (.bool false : Value) rfl .nil), _, rfl, HF.out⟩
    ·
      refine WL.guardNo rfl rfl rfl ((show _ = Value.bool ((z101.1.length : Int) == 2) from rfl).trans (congrArg Value.bool c119)) ?_
      refine WL.guardNo rfl rfl rfl ((show _ = Value.bool ((z101.1.length : Int) == 2) from rfl).trans (congrArg Value.bool c119)) ?_
      refine WL.guardNo rfl rfl rfl ((show _ = Value.bool ((z101.1.length : Int) == 2) from rfl).trans (congrArg Value.bool c119)) ?_
      refine WL.guardNo rfl rfl rfl ((show _ = Value.bool ((z101.1.length : Int) == 2) from rfl).trans (congrArg Value.bool c119)) ?_
      refine WL.guardNo rfl rfl rfl ((show _ = Value.bool ((z101.1.length : Int) == 2) from rfl).trans (congrArg Value.bool c119)) ?_
      refine WL.ex rfl (ex_pick_f (v := .bool false) ((show _ = Value.bool ((z101.1.length : Int) == 2) from rfl).trans (congrArg Value.bool c119)) rfl) ?_
      refine WL.ex rfl (ex_move (v := .bool false) rfl) ?_
      refine WL.guardNo rfl rfl rfl rfl ?_
      refine WL.guardNo rfl rfl rfl rfl ?_
      refine WL.guardNo rfl rfl rfl rfl ?_
      refine WL.guardNo rfl rfl rfl rfl ?_
      refine WL.guardNo rfl rfl rfl rfl ?_
      refine WL.guardNo rfl rfl rfl rfl ?_
      refine WL.ex rfl (ex_pick_f (v := .bool false) rfl rfl) ?_
      refine WL.ex rfl (ex_assign (v := .bool false) rfl) ?_
      refine WL.nil ?_
      refine WC.ret ?_
      obtain rfl := Option.some.inj H
      exact ⟨_, (.tmp (.bool false : Value) rfl .nil), _, rfl, HF.out⟩
  ·
    refine WL.guardNo rfl rfl rfl ((show _ = Value.bool (T_api_Fault.eqb z101.2 (⟨(0 : Int), (⟨(0 : Int), (0 : Int), (0 : Int)⟩ : T_api_Spot)⟩ : T_api_Fault)) from rfl).trans (congrArg Value.bool c115)) ?_
    refine WL.guardNo rfl rfl rfl ((show _ = Value.bool (T_api_Fault.eqb z101.2 (⟨(0 : Int), (⟨(0 : Int), (0 : Int), (0 : Int)⟩ : T_api_Spot)⟩ : T_api_Fault)) from rfl).trans (congrArg Value.bool c115)) ?_
    refine WL.guardNo rfl rfl rfl ((show _ = Value.bool (T_api_Fault.eqb z101.2 (⟨(0 : Int), (⟨(0 : Int), (0 : Int), (0 : Int)⟩ : T_api_Spot)⟩ : T_api_Fault)) from rfl).trans (congrArg Value.bool c115)) ?_
    refine WL.ex rfl (ex_pick_f (v := .bool false) ((show _ = Value.bool (T_api_Fault.eqb z101.2 (⟨(0 : Int), (⟨(0 : Int), (0 : Int), (0 : Int)⟩ : T_api_Spot)⟩ : T_api_Fault)) from rfl).trans (congrArg Value.bool c115)) rfl) ?_
    refine WL.ex rfl (ex_move (v := .bool false) rfl) ?_
    refine WL.guardNo rfl rfl rfl rfl ?_
    refine WL.guardNo rfl rfl rfl rfl ?_
    refine WL.guardNo rfl rfl rfl rfl ?_
    refine WL.guardNo rfl rfl rfl rfl ?_
    refine WL.guardNo rfl rfl rfl rfl ?_
    refine WL.ex rfl (ex_pick_f (v := .bool false) rfl rfl) ?_
    refine WL.ex rfl (ex_move (v := .bool false) rfl) ?_
    refine WL.guardNo rfl rfl rfl rfl ?_
    refine WL.guardNo rfl rfl rfl rfl ?_
    refine WL.guardNo rfl rfl rfl rfl ?_
    refine WL.guardNo rfl rfl rfl rfl ?_
    refine WL.guardNo rfl rfl rfl rfl ?_
    refine WL.guardNo rfl rfl rfl rfl ?_
    refine WL.ex rfl (ex_pick_f (v := .bool false) rfl rfl) ?_
    refine WL.ex rfl (ex_assign (v := .bool false) rfl) ?_
    refine WL.nil ?_
    refine WC.ret ?_
    obtain rfl := Option.some.inj H
    exact ⟨_, (.tmp (.bool false : Value) rfl .nil), _, rfl, HF.out⟩


/-! ### strconv.Itoa -/
theorem strconv_Itoa.calls (o0 : Tags) (w0 : World) (a0 : Int) (r : List UInt8) (hO : ∀ b, b < w0.heap.size → o0 b < 10) (hG : Gl GG o0 w0) (H : strconv_Itoa.f a0 = some r) :
    Calls Tryd.prog 32 [.int .i64 a0].toArray w0 fun e_ w_ => ∃ (o_ : Tags), e_ = .returned (one [encS r]) ∧ Step o0 w0 o_ w_ [] := by
  unfold strconv_Itoa.f at H
  obtain ⟨u, hu, H⟩ := bindE H
  obtain rfl := Option.some.inj H
  have hu' := chk_true hu
  simp only [Bool.and_eq_true, decide_eq_true_eq] at hu'
  refine Calls.mono (Tryd.strconv_Itoa a0 hu'.1 hu'.2 w0 hG.2.2.1) ?_
  rintro e w ⟨rfl, k, os, rfl⟩
  exact ⟨o0, rfl, grow_step o0 w0 k os⟩

/-! ### token_Write -/
set_option maxRecDepth 100000 in
theorem token_Write.calls (k : Nat) (o0 : Tags) (w0 : World) (a0 : T_api_Token) (r : (List UInt8) × Int) (hO : ∀ b, b < w0.heap.size → o0 b < 10) (hG : Gl GG o0 w0) (H : token_Write.f k a0 = some r) :
    Calls Tryd.prog 17 [.agg #[.int .i64 a0.f_Kind, encS a0.f_Text, .int .i64 a0.f_Int, .int .i64 a0.f_At.f_Line, .int .i64 a0.f_At.f_Col, .int .i64 a0.f_At.f_Off]].toArray w0 fun e_ w_ => ∃ (o_ : Tags), e_ = .returned (one [encS r.1, .int .i64 r.2]) ∧ Step o0 w0 o_ w_ [] := by
  have HF := Fm.refl hO []
  unfold token_Write.f at H
  refine SX.calls [.agg #[.int .i64 a0.f_Kind, encS a0.f_Text, .int .i64 a0.f_Int, .int .i64 a0.f_At.f_Line, .int .i64 a0.f_At.f_Col, .int .i64 a0.f_At.f_Off]] Tryd.func17 rfl rfl ?_
  rw [Tryd.ntmps17]
  refine WC.seq ?_
  refine WC.region ?_
  refine WL.op rfl ?_
  refine OW.box' [.int .i64 a0.f_Kind, encS a0.f_Text, .int .i64 a0.f_Int, .int .i64 a0.f_At.f_Line, .int .i64 a0.f_At.f_Col, .int .i64 a0.f_At.f_Off] 10 HF rfl ((congrArg Value.cells (show ev _ _ = (.agg #[.int .i64 a0.f_Kind, encS a0.f_Text, .int .i64 a0.f_Int, .int .i64 a0.f_At.f_Line, .int .i64 a0.f_At.f_Col, .int .i64 a0.f_At.f_Off] : Value) from rfl)).trans rfl) ?_
  intro o102 w103 b101 s104 hB105
  replace hG := hG.step s104 rfl
  replace HF := HF.step s104 rfl
  refine WL.ex rfl (ex_assign (v := encS ([] : List UInt8)) rfl) ?_
  refine WL.ex rfl (ex_assign (v := .int .i64 0) rfl) ?_
  refine WL.nil ?_
  refine WC.seq ?_
  refine WC.region ?_
  refine WL.ex rfl (ex_build (cs := [.int .i64 (0 : Int), .int .i64 (0 : Int), .int .i64 (0 : Int)]) [(0, 1), (1, 1), (2, 1)] [] [.int .i64 0, .int .i64 0, .int .i64 0] Tryd.underlying23 zr23 rfl (by kernel_rfl) rfl rfl) ?_
  refine WL.ex rfl (ex_fieldAddr rfl Tryd.underlying37 rfl sz23) ?_
  refine WL.op rfl ?_
  refine OW.store [.int .i64 a0.f_Kind, encS a0.f_Text, .int .i64 a0.f_Int, .int .i64 (0 : Int), .int .i64 (0 : Int), .int .i64 (0 : Int)] rfl (vs := [.int .i64 (0 : Int), .int .i64 (0 : Int), .int .i64 (0 : Int)]) ((congrArg Value.cells (show ev _ _ = (.agg #[.int .i64 (0 : Int), .int .i64 (0 : Int), .int .i64 (0 : Int)] : Value) from rfl)).trans rfl) sz23 hB105 (Nat.le_of_ble_eq_true rfl) (by intro u_ hu_; simp only [List.mem_cons, List.not_mem_nil, or_false] at hu_; rcases hu_ with rfl | rfl | rfl <;> first | rfl) rfl ?_
  intro w106 s107 hB108
  replace hG := hG.step s107 rfl
  replace HF := HF.step s107 rfl
  refine WL.nil ?_
  refine WC.seq ?_
  refine WC.seq ?_
  refine WC.region ?_
  refine WL.ex rfl (ex_loadN (cs := [.int .i64 a0.f_Kind, encS a0.f_Text, .int .i64 a0.f_Int, .int .i64 (0 : Int), .int .i64 (0 : Int), .int .i64 (0 : Int)]) rfl Tryd.underlying37 rfl sz37 (hB108.cells rfl)) ?_
  refine WL.nil ?_
  refine WC.block ?_
  refine WC.seq ?_
  refine WC.region ?_
  refine WL.ex rfl (ex_build (cs := [.int .i64 (0 : Int), encS ([] : List UInt8), .int .i64 (0 : Int), .int .i64 (0 : Int), .int .i64 (0 : Int), .int .i64 (0 : Int)]) [(0, 1), (1, 1), (2, 1), (3, 3)] [] [.int .i64 0, .string ⟨#[]⟩, .int .i64 0, .int .i64 0, .int .i64 0, .int .i64 0] Tryd.underlying37 zr37 rfl (by kernel_rfl) rfl rfl) ?_
  refine WL.ex rfl (ex_bin (a := .agg #[.int .i64 a0.f_Kind, encS a0.f_Text, .int .i64 a0.f_Int, .int .i64 (0 : Int), .int .i64 (0 : Int), .int .i64 (0 : Int)]) (b := .agg #[.int .i64 (0 : Int), encS ([] : List UInt8), .int .i64 (0 : Int), .int .i64 (0 : Int), .int .i64 (0 : Int), .int .i64 (0 : Int)]) (v := .bool (T_api_Token.eqb (⟨a0.f_Kind, a0.f_Text, a0.f_Int, (⟨(0 : Int), (0 : Int), (0 : Int)⟩ : T_api_Spot)⟩ : T_api_Token) (⟨(0 : Int), ([] : List UInt8), (0 : Int), (⟨(0 : Int), (0 : Int), (0 : Int)⟩ : T_api_Spot)⟩ : T_api_Token))) rfl rfl (bin_eql_agg (by kernel_rfl) (EqR.agg Tryd.underlying37 (by kernel_rfl) (EqF.cons (by decide) (PartR.one Tryd.underlying35 rfl rfl) (PartR.one Tryd.underlying35 rfl rfl) (EqR.int Tryd.underlying35) (EqF.cons (by decide) (PartR.one Tryd.underlying9 rfl rfl) (PartR.one Tryd.underlying9 rfl rfl) (EqR.str Tryd.underlying9) (EqF.cons (by decide) (PartR.one Tryd.underlying3 rfl rfl) (PartR.one Tryd.underlying3 rfl rfl) (EqR.int Tryd.underlying3) (EqF.cons (by decide) (PartR.many Tryd.underlying23 rfl sz23) (PartR.many Tryd.underlying23 rfl sz23) (EqR.agg Tryd.underlying23 (by kernel_rfl) (EqF.cons (by decide) (PartR.one Tryd.underlying3 rfl rfl) (PartR.one Tryd.underlying3 rfl rfl) (EqR.int Tryd.underlying3) (EqF.cons (by decide) (PartR.one Tryd.underlying3 rfl rfl) (PartR.one Tryd.underlying3 rfl rfl) (EqR.int Tryd.underlying3) (EqF.cons (by decide) (PartR.one Tryd.underlying3 rfl rfl) (PartR.one Tryd.underlying3 rfl rfl) (EqR.int Tryd.underlying3) EqF.nil)))) EqF.nil))))))) ?_
  refine WL.ex rfl (ex_assign (v := .bool (T_api_Token.eqb (⟨a0.f_Kind, a0.f_Text, a0.f_Int, (⟨(0 : Int), (0 : Int), (0 : Int)⟩ : T_api_Spot)⟩ : T_api_Token) (⟨(0 : Int), ([] : List UInt8), (0 : Int), (⟨(0 : Int), (0 : Int), (0 : Int)⟩ : T_api_Spot)⟩ : T_api_Token))) rfl) ?_
  refine WL.nil ?_
  rcases condE H with ⟨c109, H⟩ | ⟨c109, H⟩
  ·
    refine WC.cond_t ((show _ = Value.bool (T_api_Token.eqb (⟨a0.f_Kind, a0.f_Text, a0.f_Int, (⟨(0 : Int), (0 : Int), (0 : Int)⟩ : T_api_Spot)⟩ : T_api_Token) (⟨(0 : Int), ([] : List UInt8), (0 : Int), (⟨(0 : Int), (0 : Int), (0 : Int)⟩ : T_api_Spot)⟩ : T_api_Token)) from rfl).trans (congrArg Value.bool c109)) ?_
    refine WC.seq ?_
    refine WC.region ?_
    refine WL.ex rfl (ex_assign (v := encS ([] : List UInt8)) rfl) ?_
    refine WL.ex rfl (ex_assign (v := .int .i64 0) rfl) ?_
    refine WL.nil ?_
    refine WC.ret ?_
    obtain rfl := Option.some.inj H
    exact ⟨_, (.tmp (encS ([] : List UInt8) : Value) rfl (.tmp (.int .i64 0 : Value) rfl .nil)), _, rfl, HF.out⟩
  ·
    refine WC.cond_f ((show _ = Value.bool (T_api_Token.eqb (⟨a0.f_Kind, a0.f_Text, a0.f_Int, (⟨(0 : Int), (0 : Int), (0 : Int)⟩ : T_api_Spot)⟩ : T_api_Token) (⟨(0 : Int), ([] : List UInt8), (0 : Int), (⟨(0 : Int), (0 : Int), (0 : Int)⟩ : T_api_Spot)⟩ : T_api_Token)) from rfl).trans (congrArg Value.bool c109)) ?_
    refine WC.seq ?_
    refine WC.region ?_
    refine WL.ex rfl (ex_fieldAddr rfl Tryd.underlying37 rfl sz9) ?_
    refine WL.ex rfl (ex_load1 (v := encS a0.f_Text) rfl Tryd.underlying9 rfl (hB108.cell rfl)) ?_
    refine WL.ex rfl (ex_build (cs := [.int .i64 1, encS a0.f_Text, .int .i64 (0 : Int), .int .i64 (0 : Int), .int .i64 (0 : Int), .int .i64 (0 : Int)]) [(0, 1), (1, 1), (2, 1), (3, 3)] [(0, .int .i64 1), (1, encS a0.f_Text)] [.int .i64 0, .string ⟨#[]⟩, .int .i64 0, .int .i64 0, .int .i64 0, .int .i64 0] Tryd.underlying37 zr37 rfl (by kernel_rfl) (evs_cons rfl (evs_cons rfl rfl)) rfl) ?_
    refine WL.ex rfl (ex_bin (a := .agg #[.int .i64 a0.f_Kind, encS a0.f_Text, .int .i64 a0.f_Int, .int .i64 (0 : Int), .int .i64 (0 : Int), .int .i64 (0 : Int)]) (b := .agg #[.int .i64 1, encS a0.f_Text, .int .i64 (0 : Int), .int .i64 (0 : Int), .int .i64 (0 : Int), .int .i64 (0 : Int)]) (v := .bool (T_api_Token.eqb (⟨a0.f_Kind, a0.f_Text, a0.f_Int, (⟨(0 : Int), (0 : Int), (0 : Int)⟩ : T_api_Spot)⟩ : T_api_Token) (⟨1, a0.f_Text, (0 : Int), (⟨(0 : Int), (0 : Int), (0 : Int)⟩ : T_api_Spot)⟩ : T_api_Token))) rfl rfl (bin_eql_agg (by kernel_rfl) (EqR.agg Tryd.underlying37 (by kernel_rfl) (EqF.cons (by decide) (PartR.one Tryd.underlying35 rfl rfl) (PartR.one Tryd.underlying35 rfl rfl) (EqR.int Tryd.underlying35) (EqF.cons (by decide) (PartR.one Tryd.underlying9 rfl rfl) (PartR.one Tryd.underlying9 rfl rfl) (EqR.str Tryd.underlying9) (EqF.cons (by decide) (PartR.one Tryd.underlying3 rfl rfl) (PartR.one Tryd.underlying3 rfl rfl) (EqR.int Tryd.underlying3) (EqF.cons (by decide) (PartR.many Tryd.underlying23 rfl sz23) (PartR.many Tryd.underlying23 rfl sz23) (EqR.agg Tryd.underlying23 (by kernel_rfl) (EqF.cons (by decide) (PartR.one Tryd.underlying3 rfl rfl) (PartR.one Tryd.underlying3 rfl rfl) (EqR.int Tryd.underlying3) (EqF.cons (by decide) (PartR.one Tryd.underlying3 rfl rfl) (PartR.one Tryd.underlying3 rfl rfl) (EqR.int Tryd.underlying3) (EqF.cons (by decide) (PartR.one Tryd.underlying3 rfl rfl) (PartR.one Tryd.underlying3 rfl rfl) (EqR.int Tryd.underlying3) EqF.nil)))) EqF.nil))))))) ?_
    refine WL.ex rfl (ex_assign (v := .bool (T_api_Token.eqb (⟨a0.f_Kind, a0.f_Text, a0.f_Int, (⟨(0 : Int), (0 : Int), (0 : Int)⟩ : T_api_Spot)⟩ : T_api_Token) (⟨1, a0.f_Text, (0 : Int), (⟨(0 : Int), (0 : Int), (0 : Int)⟩ : T_api_Spot)⟩ : T_api_Token))) rfl) ?_
    refine WL.nil ?_
    rcases condE H with ⟨c110, H⟩ | ⟨c110, H⟩
    ·
      refine WC.cond_t ((show _ = Value.bool (T_api_Token.eqb (⟨a0.f_Kind, a0.f_Text, a0.f_Int, (⟨(0 : Int), (0 : Int), (0 : Int)⟩ : T_api_Spot)⟩ : T_api_Token) (⟨1, a0.f_Text, (0 : Int), (⟨(0 : Int), (0 : Int), (0 : Int)⟩ : T_api_Spot)⟩ : T_api_Token)) from rfl).trans (congrArg Value.bool c110)) ?_
      refine WC.seq ?_
      refine WC.region ?_
      refine WL.ex rfl (ex_fieldAddr rfl Tryd.underlying37 rfl sz9) ?_
      refine WL.ex rfl (ex_load1 (v := encS a0.f_Text) rfl Tryd.underlying9 rfl (hB108.cell rfl)) ?_
      obtain ⟨z111, hz111, H⟩ := bindE H
      refine WL.op rfl ?_
      refine OW.call [encS a0.f_Text] rfl Tryd.func11 (by kernel_rfl) (by kernel_rfl) (map_cons' rfl rfl) (token_Name.calls k _ _ a0.f_Text z111 (HF.ten (V := [0]) (L := []) rfl) (Gl.vw (V := [0]) (L := []) hG rfl) hz111) ?_
      rintro _ w112 ⟨o113, rfl, s114⟩
      refine ⟨_, rfl, ?_⟩
      replace s114 := un_stepL (J := []) (L' := []) s114 rfl rfl
      replace hG := hG.step s114 rfl
      replace hB108 := hB108.step s114 rfl
      replace HF := HF.step s114 rfl
      refine WL.nil ?_
      rcases condE H with ⟨c115, H⟩ | ⟨c115, H⟩
      ·
        refine WC.cond_t ((show _ = Value.bool z111 from rfl).trans (congrArg Value.bool c115)) ?_
        refine WC.seq ?_
        refine WC.region ?_
        refine WL.ex rfl (ex_fieldAddr rfl Tryd.underlying37 rfl sz9) ?_
        refine WL.ex rfl (ex_load1 (v := encS a0.f_Text) rfl Tryd.underlying9 rfl (hB108.cell rfl)) ?_
        refine WL.ex rfl (ex_assign (v := encS a0.f_Text) rfl) ?_
        refine WL.ex rfl (ex_assign (v := .int .i64 0) rfl) ?_
        refine WL.nil ?_
        refine WC.ret ?_
        obtain rfl := Option.some.inj H
        exact ⟨_, (.tmp (encS a0.f_Text : Value) rfl (.tmp (.int .i64 0 : Value) rfl .nil)), _, rfl, HF.out⟩
      ·
        refine WC.cond_f ((show _ = Value.bool z111 from rfl).trans (congrArg Value.bool c115)) ?_
        refine WC.skip ?_
        refine WC.seq ?_
        refine WC.region ?_
        refine WL.ex rfl (ex_assign (v := encS ([] : List UInt8)) rfl) ?_
        refine WL.ex rfl (ex_assign (v := .int .i64 2) rfl) ?_
        refine WL.nil ?_
        refine WC.ret ?_
        obtain rfl := Option.some.inj H
        exact ⟨_, (.tmp (encS ([] : List UInt8) : Value) rfl (.tmp (.int .i64 2 : Value) rfl .nil)), _, rfl, HF.out⟩
    ·
      refine WC.cond_f ((show _ = Value.bool (T_api_Token.eqb (⟨a0.f_Kind, a0.f_Text, a0.f_Int, (⟨(0 : Int), (0 : Int), (0 : Int)⟩ : T_api_Spot)⟩ : T_api_Token) (⟨1, a0.f_Text, (0 : Int), (⟨(0 : Int), (0 : Int), (0 : Int)⟩ : T_api_Spot)⟩ : T_api_Token)) from rfl).trans (congrArg Value.bool c110)) ?_
      refine WC.seq ?_
      refine WC.region ?_
      refine WL.ex rfl (ex_fieldAddr rfl Tryd.underlying37 rfl sz3) ?_
      refine WL.ex rfl (ex_load1 (v := .int .i64 a0.f_Int) rfl Tryd.underlying3 rfl (hB108.cell rfl)) ?_
      refine WL.ex rfl (ex_build (cs := [.int .i64 2, encS ([] : List UInt8), .int .i64 a0.f_Int, .int .i64 (0 : Int), .int .i64 (0 : Int), .int .i64 (0 : Int)]) [(0, 1), (1, 1), (2, 1), (3, 3)] [(0, .int .i64 2), (2, .int .i64 a0.f_Int)] [.int .i64 0, .string ⟨#[]⟩, .int .i64 0, .int .i64 0, .int .i64 0, .int .i64 0] Tryd.underlying37 zr37 rfl (by kernel_rfl) (evs_cons rfl (evs_cons rfl rfl)) rfl) ?_
      refine WL.ex rfl (ex_bin (a := .agg #[.int .i64 a0.f_Kind, encS a0.f_Text, .int .i64 a0.f_Int, .int .i64 (0 : Int), .int .i64 (0 : Int), .int .i64 (0 : Int)]) (b := .agg #[.int .i64 2, encS ([] : List UInt8), .int .i64 a0.f_Int, .int .i64 (0 : Int), .int .i64 (0 : Int), .int .i64 (0 : Int)]) (v := .bool (T_api_Token.eqb (⟨a0.f_Kind, a0.f_Text, a0.f_Int, (⟨(0 : Int), (0 : Int), (0 : Int)⟩ : T_api_Spot)⟩ : T_api_Token) (⟨2, ([] : List UInt8), a0.f_Int, (⟨(0 : Int), (0 : Int), (0 : Int)⟩ : T_api_Spot)⟩ : T_api_Token))) rfl rfl (bin_eql_agg (by kernel_rfl) (EqR.agg Tryd.underlying37 (by kernel_rfl) (EqF.cons (by decide) (PartR.one Tryd.underlying35 rfl rfl) (PartR.one Tryd.underlying35 rfl rfl) (EqR.int Tryd.underlying35) (EqF.cons (by decide) (PartR.one Tryd.underlying9 rfl rfl) (PartR.one Tryd.underlying9 rfl rfl) (EqR.str Tryd.underlying9) (EqF.cons (by decide) (PartR.one Tryd.underlying3 rfl rfl) (PartR.one Tryd.underlying3 rfl rfl) (EqR.int Tryd.underlying3) (EqF.cons (by decide) (PartR.many Tryd.underlying23 rfl sz23) (PartR.many Tryd.underlying23 rfl sz23) (EqR.agg Tryd.underlying23 (by kernel_rfl) (EqF.cons (by decide) (PartR.one Tryd.underlying3 rfl rfl) (PartR.one Tryd.underlying3 rfl rfl) (EqR.int Tryd.underlying3) (EqF.cons (by decide) (PartR.one Tryd.underlying3 rfl rfl) (PartR.one Tryd.underlying3 rfl rfl) (EqR.int Tryd.underlying3) (EqF.cons (by decide) (PartR.one Tryd.underlying3 rfl rfl) (PartR.one Tryd.underlying3 rfl rfl) (EqR.int Tryd.underlying3) EqF.nil)))) EqF.nil))))))) ?_
      refine WL.ex rfl (ex_assign (v := .bool (T_api_Token.eqb (⟨a0.f_Kind, a0.f_Text, a0.f_Int, (⟨(0 : Int), (0 : Int), (0 : Int)⟩ : T_api_Spot)⟩ : T_api_Token) (⟨2, ([] : List UInt8), a0.f_Int, (⟨(0 : Int), (0 : Int), (0 : Int)⟩ : T_api_Spot)⟩ : T_api_Token))) rfl) ?_
      refine WL.nil ?_
      rcases condE H with ⟨c116, H⟩ | ⟨c116, H⟩
      ·
        refine WC.cond_t ((show _ = Value.bool (T_api_Token.eqb (⟨a0.f_Kind, a0.f_Text, a0.f_Int, (⟨(0 : Int), (0 : Int), (0 : Int)⟩ : T_api_Spot)⟩ : T_api_Token) (⟨2, ([] : List UInt8), a0.f_Int, (⟨(0 : Int), (0 : Int), (0 : Int)⟩ : T_api_Spot)⟩ : T_api_Token)) from rfl).trans (congrArg Value.bool c116)) ?_
        obtain ⟨z118, hz118, H⟩ := bindE H
        refine WC.cut (fun ρ_ w_ => ∃ (o_ : Tags), Fm o0 w0 o_ w_ [] ∧ Bk o_ w_ 10 b101 [.int .i64 a0.f_Kind, encS a0.f_Text, .int .i64 a0.f_Int, .int .i64 (0 : Int), .int .i64 (0 : Int), .int .i64 (0 : Int)] 37 ∧ Gl GG o_ w_ ∧ ρ_ 1 = .pointer (some ⟨b101, 0, none⟩) ∧ ρ_ 2 = encS ([] : List UInt8) ∧ ρ_ 3 = .int .i64 0 ∧ ρ_ 34 = .bool z118) ?case119 ?_
        case case119 =>
          rintro ρ122 w120 ⟨o121, HF, hB108, hG, s1_116, s2_116, s3_116, s34_117⟩
          rcases condE H with ⟨c123, H⟩ | ⟨c123, H⟩
          ·
            refine WC.cond_t ((show _ = Value.bool z118 from s34_117).trans (congrArg Value.bool c123)) ?_
            refine WC.seq ?_
            refine WC.region ?_
            refine WL.ex rfl (ex_fieldAddr s1_116 Tryd.underlying37 rfl sz3) ?_
            refine WL.ex rfl (ex_load1 (v := .int .i64 a0.f_Int) rfl Tryd.underlying3 rfl (hB108.cell rfl)) ?_
            obtain ⟨z124, hz124, H⟩ := bindE H
            refine WL.op rfl ?_
            refine OW.call [.int .i64 a0.f_Int] rfl Tryd.func32 (by kernel_rfl) (by kernel_rfl) (map_cons' rfl rfl) (strconv_Itoa.calls _ _ a0.f_Int z124 (HF.ten (V := [0]) (L := []) rfl) (Gl.vw (V := [0]) (L := []) hG rfl) hz124) ?_
            rintro _ w125 ⟨o126, rfl, s127⟩
            refine ⟨_, rfl, ?_⟩
            replace s127 := un_stepL (J := []) (L' := []) s127 rfl rfl
            replace hB108 := hB108.step s127 rfl
            replace hG := hG.step s127 rfl
            replace HF := HF.step s127 rfl
            refine WL.ex rfl (ex_assign (v := encS z124) rfl) ?_
            refine WL.ex rfl (ex_assign (v := .int .i64 0) rfl) ?_
            refine WL.nil ?_
            refine WC.ret ?_
            obtain rfl := Option.some.inj H
            exact ⟨_, (.tmp (encS z124 : Value) rfl (.tmp (.int .i64 0 : Value) rfl .nil)), _, rfl, HF.out⟩
          ·
            refine WC.cond_f ((show _ = Value.bool z118 from s34_117).trans (congrArg Value.bool c123)) ?_
            refine WC.skip ?_
            refine WC.seq ?_
            refine WC.region ?_
            refine WL.ex rfl (ex_assign (v := encS ([] : List UInt8)) rfl) ?_
            refine WL.ex rfl (ex_assign (v := .int .i64 2) rfl) ?_
            refine WL.nil ?_
            refine WC.ret ?_
            obtain rfl := Option.some.inj H
            exact ⟨_, (.tmp (encS ([] : List UInt8) : Value) rfl (.tmp (.int .i64 2 : Value) rfl .nil)), _, rfl, HF.out⟩
        have Ho128 := H
        replace H := hz118
        refine WC.region ?_
        refine WL.ex rfl (ex_fieldAddr rfl Tryd.underlying37 rfl sz3) ?_
        refine WL.ex rfl (ex_load1 (v := .int .i64 a0.f_Int) rfl Tryd.underlying3 rfl (hB108.cell rfl)) ?_
        refine WL.ex rfl (ex_bin (a := .int .i64 a0.f_Int) (b := .int .i64 0) (v := .bool (decide (a0.f_Int ≥ 0))) rfl rfl bin_geq) ?_
        refine WL.ex rfl (ex_move (v := .bool (decide (a0.f_Int ≥ 0))) rfl) ?_
        rcases condE H with ⟨c129, H⟩ | ⟨c129, H⟩
        ·
          refine WL.guardYes rfl rfl rfl ((show _ = Value.bool (decide (a0.f_Int ≥ 0)) from rfl).trans (congrArg Value.bool c129)) ?_
          refine OW.ex rfl (ex_fieldAddr rfl Tryd.underlying37 rfl sz3) ?_
          refine WL.guardYes rfl rfl rfl ((show _ = Value.bool (decide (a0.f_Int ≥ 0)) from rfl).trans (congrArg Value.bool c129)) ?_
          refine OW.ex rfl (ex_load1 (v := .int .i64 a0.f_Int) rfl Tryd.underlying3 rfl (hB108.cell rfl)) ?_
          refine WL.guardYes rfl rfl rfl ((show _ = Value.bool (decide (a0.f_Int ≥ 0)) from rfl).trans (congrArg Value.bool c129)) ?_
          refine OW.ex rfl (ex_bin (a := .int .i64 a0.f_Int) (b := .int .i64 999999999) (v := .bool (decide (a0.f_Int ≤ 999999999))) rfl rfl bin_leq) ?_
          refine WL.ex rfl (ex_pick_t (v := .bool (decide (a0.f_Int ≤ 999999999))) ((show _ = Value.bool (decide (a0.f_Int ≥ 0)) from rfl).trans (congrArg Value.bool c129)) rfl) ?_
          refine WL.nil ?_
          obtain rfl := Option.some.inj H
          exact ⟨_, HF, hB108, hG, rfl, rfl, rfl, rfl⟩
        ·
          refine WL.guardNo rfl rfl rfl ((show _ = Value.bool (decide (a0.f_Int ≥ 0)) from rfl).trans (congrArg Value.bool c129)) ?_
          refine WL.guardNo rfl rfl rfl ((show _ = Value.bool (decide (a0.f_Int ≥ 0)) from rfl).trans (congrArg Value.bool c129)) ?_
          refine WL.guardNo rfl rfl rfl ((show _ = Value.bool (decide (a0.f_Int ≥ 0)) from rfl).trans (congrArg Value.bool c129)) ?_
          refine WL.ex rfl (ex_pick_f (v := .bool false) ((show _ = Value.bool (decide (a0.f_Int ≥ 0)) from rfl).trans (congrArg Value.bool c129)) rfl) ?_
          refine WL.nil ?_
          obtain rfl := Option.some.inj H
          exact ⟨_, HF, hB108, hG, rfl, rfl, rfl, rfl⟩
      ·
        refine WC.cond_f ((show _ = Value.bool (T_api_Token.eqb (⟨a0.f_Kind, a0.f_Text, a0.f_Int, (⟨(0 : Int), (0 : Int), (0 : Int)⟩ : T_api_Spot)⟩ : T_api_Token) (⟨2, ([] : List UInt8), a0.f_Int, (⟨(0 : Int), (0 : Int), (0 : Int)⟩ : T_api_Spot)⟩ : T_api_Token)) from rfl).trans (congrArg Value.bool c116)) ?_
        refine WC.seq ?_
        refine WC.region ?_
        refine WL.ex rfl (ex_fieldAddr rfl Tryd.underlying37 rfl sz9) ?_
        refine WL.ex rfl (ex_load1 (v := encS a0.f_Text) rfl Tryd.underlying9 rfl (hB108.cell rfl)) ?_
        refine WL.ex rfl (ex_build (cs := [.int .i64 3, encS a0.f_Text, .int .i64 (0 : Int), .int .i64 (0 : Int), .int .i64 (0 : Int), .int .i64 (0 : Int)]) [(0, 1), (1, 1), (2, 1), (3, 3)] [(0, .int .i64 3), (1, encS a0.f_Text)] [.int .i64 0, .string ⟨#[]⟩, .int .i64 0, .int .i64 0, .int .i64 0, .int .i64 0] Tryd.underlying37 zr37 rfl (by kernel_rfl) (evs_cons rfl (evs_cons rfl rfl)) rfl) ?_
        refine WL.ex rfl (ex_bin (a := .agg #[.int .i64 a0.f_Kind, encS a0.f_Text, .int .i64 a0.f_Int, .int .i64 (0 : Int), .int .i64 (0 : Int), .int .i64 (0 : Int)]) (b := .agg #[.int .i64 3, encS a0.f_Text, .int .i64 (0 : Int), .int .i64 (0 : Int), .int .i64 (0 : Int), .int .i64 (0 : Int)]) (v := .bool (T_api_Token.eqb (⟨a0.f_Kind, a0.f_Text, a0.f_Int, (⟨(0 : Int), (0 : Int), (0 : Int)⟩ : T_api_Spot)⟩ : T_api_Token) (⟨3, a0.f_Text, (0 : Int), (⟨(0 : Int), (0 : Int), (0 : Int)⟩ : T_api_Spot)⟩ : T_api_Token))) rfl rfl (bin_eql_agg (by kernel_rfl) (EqR.agg Tryd.underlying37 (by kernel_rfl) (EqF.cons (by decide) (PartR.one Tryd.underlying35 rfl rfl) (PartR.one Tryd.underlying35 rfl rfl) (EqR.int Tryd.underlying35) (EqF.cons (by decide) (PartR.one Tryd.underlying9 rfl rfl) (PartR.one Tryd.underlying9 rfl rfl) (EqR.str Tryd.underlying9) (EqF.cons (by decide) (PartR.one Tryd.underlying3 rfl rfl) (PartR.one Tryd.underlying3 rfl rfl) (EqR.int Tryd.underlying3) (EqF.cons (by decide) (PartR.many Tryd.underlying23 rfl sz23) (PartR.many Tryd.underlying23 rfl sz23) (EqR.agg Tryd.underlying23 (by kernel_rfl) (EqF.cons (by decide) (PartR.one Tryd.underlying3 rfl rfl) (PartR.one Tryd.underlying3 rfl rfl) (EqR.int Tryd.underlying3) (EqF.cons (by decide) (PartR.one Tryd.underlying3 rfl rfl) (PartR.one Tryd.underlying3 rfl rfl) (EqR.int Tryd.underlying3) (EqF.cons (by decide) (PartR.one Tryd.underlying3 rfl rfl) (PartR.one Tryd.underlying3 rfl rfl) (EqR.int Tryd.underlying3) EqF.nil)))) EqF.nil))))))) ?_
        refine WL.ex rfl (ex_assign (v := .bool (T_api_Token.eqb (⟨a0.f_Kind, a0.f_Text, a0.f_Int, (⟨(0 : Int), (0 : Int), (0 : Int)⟩ : T_api_Spot)⟩ : T_api_Token) (⟨3, a0.f_Text, (0 : Int), (⟨(0 : Int), (0 : Int), (0 : Int)⟩ : T_api_Spot)⟩ : T_api_Token))) rfl) ?_
        refine WL.nil ?_
        rcases condE H with ⟨c130, H⟩ | ⟨c130, H⟩
        ·
          refine WC.cond_t ((show _ = Value.bool (T_api_Token.eqb (⟨a0.f_Kind, a0.f_Text, a0.f_Int, (⟨(0 : Int), (0 : Int), (0 : Int)⟩ : T_api_Spot)⟩ : T_api_Token) (⟨3, a0.f_Text, (0 : Int), (⟨(0 : Int), (0 : Int), (0 : Int)⟩ : T_api_Spot)⟩ : T_api_Token)) from rfl).trans (congrArg Value.bool c130)) ?_
          refine WC.seq ?_
          refine WC.region ?_
          refine WL.ex rfl (ex_fieldAddr rfl Tryd.underlying37 rfl sz9) ?_
          refine WL.ex rfl (ex_load1 (v := encS a0.f_Text) rfl Tryd.underlying9 rfl (hB108.cell rfl)) ?_
          obtain ⟨z131, hz131, H⟩ := bindE H
          refine WL.op rfl ?_
          refine OW.call [encS a0.f_Text] rfl Tryd.func33 (by kernel_rfl) (by kernel_rfl) (map_cons' rfl rfl) (token_sign.calls k _ _ a0.f_Text z131 (HF.ten (V := [0]) (L := []) rfl) (Gl.vw (V := [0]) (L := []) hG rfl) hz131) ?_
          rintro _ w132 ⟨o133, rfl, s134⟩
          refine ⟨_, rfl, ?_⟩
          replace s134 := un_stepL (J := []) (L' := []) s134 rfl rfl
          replace hG := hG.step s134 rfl
          replace hB108 := hB108.step s134 rfl
          replace HF := HF.step s134 rfl
          refine WL.ex rfl (ex_move (v := .tuple #[encS z131.1, .int .i64 z131.2]) rfl) ?_
          refine WL.ex rfl (ex_extract (vs := #[encS z131.1, .int .i64 z131.2]) (v := encS z131.1) rfl rfl) ?_
          refine WL.ex rfl (ex_extract (vs := #[encS z131.1, .int .i64 z131.2]) (v := .int .i64 z131.2) rfl rfl) ?_
          refine WL.ex rfl (ex_assign (v := encS z131.1) rfl) ?_
          refine WL.ex rfl (ex_assign (v := .int .i64 z131.2) rfl) ?_
          refine WL.nil ?_
          obtain ⟨z136, hz136, H⟩ := bindE H
          refine WC.cut (fun ρ_ w_ => ∃ (o_ : Tags), Fm o0 w0 o_ w_ [] ∧ Gl GG o_ w_ ∧ ρ_ 2 = encS ([] : List UInt8) ∧ ρ_ 3 = .int .i64 0 ∧ ρ_ 4 = encS z131.1 ∧ ρ_ 56 = .bool z136) ?case137 ?_
          case case137 =>
            rintro ρ140 w138 ⟨o139, HF, hG, s2_134, s3_134, s4_134, s56_135⟩
            rcases condE H with ⟨c141, H⟩ | ⟨c141, H⟩
            ·
              refine WC.cond_t ((show _ = Value.bool z136 from s56_135).trans (congrArg Value.bool c141)) ?_
              refine WC.seq ?_
              refine WC.region ?_
              refine WL.ex rfl (ex_move (v := encS z131.1) s4_134) ?_
              refine WL.ex rfl (ex_assign (v := encS z131.1) rfl) ?_
              refine WL.ex rfl (ex_assign (v := .int .i64 0) rfl) ?_
              refine WL.nil ?_
              refine WC.ret ?_
              obtain rfl := Option.some.inj H
              exact ⟨_, (.tmp (encS z131.1 : Value) rfl (.tmp (.int .i64 0 : Value) rfl .nil)), _, rfl, HF.out⟩
            ·
              refine WC.cond_f ((show _ = Value.bool z136 from s56_135).trans (congrArg Value.bool c141)) ?_
              refine WC.skip ?_
              refine WC.seq ?_
              refine WC.region ?_
              refine WL.ex rfl (ex_assign (v := encS ([] : List UInt8)) rfl) ?_
              refine WL.ex rfl (ex_assign (v := .int .i64 2) rfl) ?_
              refine WL.nil ?_
              refine WC.ret ?_
              obtain rfl := Option.some.inj H
              exact ⟨_, (.tmp (encS ([] : List UInt8) : Value) rfl (.tmp (.int .i64 2 : Value) rfl .nil)), _, rfl, HF.out⟩
          have Ho142 := H
          replace H := hz136
          refine WC.region ?_
          refine WL.ex rfl (ex_move (v := .int .i64 z131.2) rfl) ?_
          refine WL.ex rfl (ex_bin (a := .int .i64 z131.2) (b := .int .i64 0) (v := .bool (decide (z131.2 > 0))) rfl rfl bin_gtr) ?_
          refine WL.ex rfl (ex_move (v := .bool (decide (z131.2 > 0))) rfl) ?_
          rcases condE H with ⟨c143, H⟩ | ⟨c143, H⟩
          ·
            refine WL.guardYes rfl rfl rfl ((show _ = Value.bool (decide (z131.2 > 0)) from rfl).trans (congrArg Value.bool c143)) ?_
            refine OW.ex rfl (ex_move (v := encS z131.1) rfl) ?_
            refine WL.guardYes rfl rfl rfl ((show _ = Value.bool (decide (z131.2 > 0)) from rfl).trans (congrArg Value.bool c143)) ?_
            refine OW.ex rfl (ex_fieldAddr rfl Tryd.underlying37 rfl sz9) ?_
            refine WL.guardYes rfl rfl rfl ((show _ = Value.bool (decide (z131.2 > 0)) from rfl).trans (congrArg Value.bool c143)) ?_
            refine OW.ex rfl (ex_load1 (v := encS a0.f_Text) rfl Tryd.underlying9 rfl (hB108.cell rfl)) ?_
            refine WL.guardYes rfl rfl rfl ((show _ = Value.bool (decide (z131.2 > 0)) from rfl).trans (congrArg Value.bool c143)) ?_
            refine OW.ex rfl (ex_bin (a := encS z131.1) (b := encS a0.f_Text) (v := .bool (z131.1 == a0.f_Text)) rfl rfl bin_eql_str) ?_
            refine WL.ex rfl (ex_pick_t (v := .bool (z131.1 == a0.f_Text)) ((show _ = Value.bool (decide (z131.2 > 0)) from rfl).trans (congrArg Value.bool c143)) rfl) ?_
            refine WL.nil ?_
            obtain rfl := Option.some.inj H
            exact ⟨_, HF, hG, rfl, rfl, rfl, rfl⟩
          ·
            refine WL.guardNo rfl rfl rfl ((show _ = Value.bool (decide (z131.2 > 0)) from rfl).trans (congrArg Value.bool c143)) ?_
            refine WL.guardNo rfl rfl rfl ((show _ = Value.bool (decide (z131.2 > 0)) from rfl).trans (congrArg Value.bool c143)) ?_
            refine WL.guardNo rfl rfl rfl ((show _ = Value.bool (decide (z131.2 > 0)) from rfl).trans (congrArg Value.bool c143)) ?_
            refine WL.guardNo rfl rfl rfl ((show _ = Value.bool (decide (z131.2 > 0)) from rfl).trans (congrArg Value.bool c143)) ?_
            refine WL.ex rfl (ex_pick_f (v := .bool false) ((show _ = Value.bool (decide (z131.2 > 0)) from rfl).trans (congrArg Value.bool c143)) rfl) ?_
            refine WL.nil ?_
            obtain rfl := Option.some.inj H
            exact ⟨_, HF, hG, rfl, rfl, rfl, rfl⟩
        ·
          refine WC.cond_f ((show _ = Value.bool (T_api_Token.eqb (⟨a0.f_Kind, a0.f_Text, a0.f_Int, (⟨(0 : Int), (0 : Int), (0 : Int)⟩ : T_api_Spot)⟩ : T_api_Token) (⟨3, a0.f_Text, (0 : Int), (⟨(0 : Int), (0 : Int), (0 : Int)⟩ : T_api_Spot)⟩ : T_api_Token)) from rfl).trans (congrArg Value.bool c130)) ?_
          refine WC.skip ?_
          refine WC.seq ?_
          refine WC.region ?_
          refine WL.ex rfl (ex_assign (v := encS ([] : List UInt8)) rfl) ?_
          refine WL.ex rfl (ex_assign (v := .int .i64 2) rfl) ?_
          refine WL.nil ?_
          refine WC.ret ?_
          obtain rfl := Option.some.inj H
          exact ⟨_, (.tmp (encS ([] : List UInt8) : Value) rfl (.tmp (.int .i64 2 : Value) rfl .nil)), _, rfl, HF.out⟩


/-! ### (*strings.Builder).copyCheck -/
theorem sizeBd : (Tryd.prog.info? 84).map (·.size) = some 2 := by kernel_rfl
theorem info5 : (Tryd.prog.info? 5).map (fun i => (i.zero, i.size, i.bytes)) = some (some (.int .u8 0), 1, 1) := by kernel_rfl
theorem Bd_copyCheck (w0 : World) (b : Nat) (p v : Value) (hb : w0.heap[b]? = some (.cells #[p, v] 84 (0, 0))) (hp : p = .pointer none ∨ p = .pointer (some ⟨b, 0, none⟩)) :
    Calls Tryd.prog 60 [.pointer (some ⟨b, 0, none⟩)].toArray w0 fun e_ w_ => e_ = .returned (one []) ∧ Kept b w0 w_ ∧ w_.heap[b]? = some (.cells #[.pointer (some ⟨b, 0, none⟩), v] 84 (0, 0)) := by
  have hB : Bk (tagOne b) w0 11 b [p, v] 84 := ⟨tagOne_same b, hb⟩
  refine SX.calls [.pointer (some ⟨b, 0, none⟩)] Tryd.func60 rfl rfl ?_
  rw [Tryd.ntmps60]
  refine WC.seq ?_
  refine WC.region ?_
  refine WL.ex rfl (ex_move (v := .pointer (some ⟨b, 0, none⟩)) rfl) ?_
  refine WL.ex rfl (ex_nilCheck rfl) ?_
  refine WL.ex rfl (ex_fieldAddr (k := 0) rfl Tryd.underlying84 rfl (by kernel_rfl)) ?_
  refine WL.ex rfl (ex_load1 (v := p) rfl Tryd.underlying82 rfl (hB.cell rfl)) ?_
  rcases hp with rfl | rfl
  · refine WL.ex rfl (ex_bin (a := .pointer none) (b := .pointer none) (v := .bool true) rfl rfl (bin_eql_ptrNN Tryd.underlying82)) ?_
    refine WL.nil ?_
    refine WC.cond_t rfl ?_
    refine WC.region ?_
    refine WL.ex rfl (ex_move (v := .pointer (some ⟨b, 0, none⟩)) rfl) ?_
    refine WL.ex rfl (ex_move (v := .pointer (some ⟨b, 0, none⟩)) rfl) ?_
    refine WL.ex rfl (ex_to_unsafe rfl Tryd.underlying82 Tryd.underlying106 2 rfl sizeBd rfl hB) ?_
    refine WL.ex rfl (ex_extern1 (v := .pointer (some ⟨b, 0, none⟩)) (v' := .pointer (some ⟨b, 0, none⟩)) rfl Tryd.func72 (by kernel_rfl) (by kernel_rfl) (by kernel_rfl) (ee := Extern.AbiNoEscape.same) (by kernel_rfl) rfl) ?_
    refine WL.ex rfl (ex_from_unsafe rfl Tryd.underlying106 Tryd.underlying82 (by kernel_rfl) hB (by kernel_rfl)) ?_
    refine WL.ex rfl (ex_nilCheck rfl) ?_
    refine WL.ex rfl (ex_fieldAddr (k := 0) rfl Tryd.underlying84 rfl (by kernel_rfl)) ?_
    refine WL.op rfl ?_
    refine OW.store [.pointer (some ⟨b, 0, none⟩), v] rfl (vs := [.pointer (some ⟨b, 0, none⟩)]) rfl (by kernel_rfl) hB (Nat.le_of_ble_eq_true rfl) (by intro u hu; simp at hu; subst hu; rfl) rfl ?_
    intro w1 s1 h1
    refine WL.nil ?_
    exact ⟨_, .nil, rfl, s1.kept, h1.heap⟩
  · refine WL.ex rfl (ex_bin (a := .pointer (some ⟨b, 0, none⟩)) (b := .pointer none) (v := .bool false) rfl rfl (bin_eql_ptrSN Tryd.underlying82)) ?_
    refine WL.nil ?_
    refine WC.cond_f rfl ?_
    refine WC.seq ?_
    refine WC.region ?_
    refine WL.ex rfl (ex_move (v := .pointer (some ⟨b, 0, none⟩)) rfl) ?_
    refine WL.ex rfl (ex_nilCheck rfl) ?_
    refine WL.ex rfl (ex_fieldAddr (k := 0) rfl Tryd.underlying84 rfl (by kernel_rfl)) ?_
    refine WL.ex rfl (ex_load1 (v := .pointer (some ⟨b, 0, none⟩)) rfl Tryd.underlying82 rfl (hB.cell rfl)) ?_
    refine WL.ex rfl (ex_move (v := .pointer (some ⟨b, 0, none⟩)) rfl) ?_
    refine WL.ex rfl (ex_bin (a := .pointer (some ⟨b, 0, none⟩)) (b := .pointer (some ⟨b, 0, none⟩)) (v := .bool false) rfl rfl (bin_neq_ptrSame Tryd.underlying82 (by kernel_rfl))) ?_
    refine WL.nil ?_
    refine WC.cond_f rfl ?_
    refine WC.skip ?_
    exact ⟨_, .nil, rfl, (Step.refl _ _ _).kept, hb⟩


/-! ### (*strings.Builder).Grow of a builder just laid -/
theorem Builder_Grow.calls (o0 : Tags) (w0 : World) (b : Nat) (a1 : Int) (r : List UInt8) (hO : ∀ b, b < w0.heap.size → o0 b < 10) (hB0 : Bk o0 w0 2 b [.pointer none, .slice none 0 0] 84) (hl : b + 1 = w0.heap.size) (H : Builder_Grow.f a1 = some r) :
    Calls Tryd.prog 50 [.pointer (some ⟨b, 0, none⟩), .int .i64 a1].toArray w0 fun e_ w_ => ∃ (o_ : Tags), e_ = .returned (one []) ∧ Step o0 w0 o_ w_ [2] ∧ Bd 84 5 2 o_ w_ b r := by
  unfold Builder_Grow.f at H
  obtain ⟨u, hu, H⟩ := bindE H
  obtain rfl := Option.some.inj H
  have hu' := chk_true hu
  simp only [Bool.and_eq_true, decide_eq_true_eq] at hu'
  obtain ⟨n, rfl⟩ : ∃ n : Nat, a1 = n := ⟨a1.toNat, by omega⟩
  refine Calls.mono (Tryd.Builder_Grow_fresh b b n w0 (Nat.le_refl _) hB0.heap (by omega) (by omega)) ?_
  rintro e w ⟨rfl, hBA, hb⟩
  obtain ⟨o_, s, hBd⟩ := grow_bd hB0 hl hBA hb
  exact ⟨o_, rfl, s, hBd⟩


/-! ### (*strings.Builder).WriteString -/
theorem Builder_WriteString.calls (o0 : Tags) (w0 : World) (b : Nat) (a0 : List UInt8) (a1 : List UInt8) (r : Int × List UInt8) (hO : ∀ b, b < w0.heap.size → o0 b < 10) (hB0 : Bd 84 5 2 o0 w0 b a0) (H : Builder_WriteString.f a0 a1 = some r) :
    Calls Tryd.prog 51 [.pointer (some ⟨b, 0, none⟩), encS a1].toArray w0 fun e_ w_ => ∃ (o_ : Tags), e_ = .returned (one [.int .i64 r.1, .nilIface]) ∧ Step o0 w0 o_ w_ [2] ∧ Bd 84 5 2 o_ w_ b r.2 := by
  unfold Builder_WriteString.f at H
  obtain ⟨u, hu, H⟩ := bindE H
  obtain rfl := Option.some.inj H
  obtain ⟨p, v, hB0', hp, hO1⟩ := hB0
  have hb := hB0'.heap
  have hn := hO1.notin hb rfl
  have h0 : o0 b ≠ 0 := by rw [hB0'.tag]; decide
  have hO2 : Own Rep.u8 5 2 (apart1 o0 b) w0 v a0 := hO1.apart hn h0
  refine SX.calls [.pointer (some ⟨b, 0, none⟩), encS a1] Tryd.func51 rfl rfl ?_
  rw [Tryd.ntmps51]
  refine WC.seq ?_
  refine WC.region ?_
  refine WL.ex rfl (ex_assign (v := .int .i64 0) rfl) ?_
  refine WL.ex rfl (ex_assign (v := .nilIface) rfl) ?_
  refine WL.nil ?_
  refine WC.seq ?_
  refine WC.region ?_
  refine WL.ex rfl (ex_move (v := .pointer (some ⟨b, 0, none⟩)) rfl) ?_
  refine WL.op rfl ?_
  refine OW.call [.pointer (some ⟨b, 0, none⟩)] rfl Tryd.func60 (by kernel_rfl) (by kernel_rfl) rfl (Bd_copyCheck w0 b p v hb hp) ?_
  rintro _ w1 ⟨rfl, k1, hb1⟩
  refine ⟨_, rfl, ?_⟩
  have s1 : Step (apart1 o0 b) w0 (apart1 o0 b) w1 [11, 2] := Step.trans (k1.step (apart1_same o0 b)) (Step.refl _ _ []) rfl rfl
  replace hO2 := hO2.kept k1 hn (by rw [apart1_same]; decide)
  have hB : Bk (apart1 o0 b) w1 11 b [.pointer (some ⟨b, 0, none⟩), v] 84 := ⟨apart1_same o0 b, hb1⟩
  refine WL.nil ?_
  refine WC.seq ?_
  refine WC.region ?_
  refine WL.ex rfl (ex_move (v := .pointer (some ⟨b, 0, none⟩)) rfl) ?_
  refine WL.ex rfl (ex_move (v := .pointer (some ⟨b, 0, none⟩)) rfl) ?_
  refine WL.ex rfl (ex_nilCheck rfl) ?_
  refine WL.ex rfl (ex_fieldAddr (k := 0) rfl Tryd.underlying84 rfl (by kernel_rfl)) ?_
  refine WL.ex rfl (ex_load1 (v := v) rfl Tryd.underlying48 rfl (hB.cell rfl)) ?_
  refine WL.ex rfl (ex_move (v := encS a1) rfl) ?_
  refine WL.op rfl ?_
  refine OW.appendStr (E := 5) (i := 2) (s := a1) rfl Tryd.underlying48 Tryd.underlying9 info5 (by decide) rfl rfl hO2 (of_decide_eq_true (chk_true hu)) ?_
  intro o3 w3 v3 s3 hO2
  replace hB := hB.step s3 rfl
  replace s1 := Step.trans s1 s3 (M := [11, 2]) rfl rfl
  refine WL.ex rfl (ex_nilCheck rfl) ?_
  refine WL.ex rfl (ex_fieldAddr (k := 0) rfl Tryd.underlying84 rfl (by kernel_rfl)) ?_
  refine WL.op rfl ?_
  refine OW.store [.pointer (some ⟨b, 0, none⟩), v3] rfl (vs := [v3]) (by obtain ⟨A_, c_, e_⟩ := hO2.slice; show v3.cells = _; rw [e_]; rfl) (by kernel_rfl) hB (Nat.le_of_ble_eq_true rfl) (by intro u hu; simp at hu; subst hu; obtain ⟨A_, c_, e_⟩ := hO2.slice; rw [e_]; rfl) rfl ?_
  intro w4 s4 hB4
  replace hO2 := hO2.step s4 rfl rfl
  replace s1 := Step.trans s1 s4 (M := [11, 2]) rfl rfl
  refine WL.nil ?_
  refine WC.seq ?_
  refine WC.region ?_
  refine WL.ex rfl (ex_move (v := encS a1) rfl) ?_
  refine WL.ex rfl (ex_len_str (s := a1) rfl Tryd.underlying9) ?_
  refine WL.ex rfl (ex_assign (v := .int .i64 (a1.length : Int)) rfl) ?_
  refine WL.ex rfl (ex_assign (v := .nilIface) rfl) ?_
  refine WL.nil ?_
  refine WC.ret ?_
  exact ⟨_, .tmp (.int .i64 (a1.length : Int)) rfl (.tmp (.nilIface) rfl .nil), _, rfl, apart_step hO hB0'.tag s1 rfl, _, _, Bk.renTo hB4, .inr rfl, hO2.ren rfl rfl⟩


/-! ### (*strings.Builder).String -/
theorem unsafe_string (i : Nat) (o : Tags) (w : World) (A : Option Addr) (xs : List UInt8) (c : Nat) (p : Option Addr) (hO : Own Rep.u8 5 i o w (.slice A xs.length c) xs) (hp : xs ≠ [] → p = A) (hl : xs.length ≤ 9223372036854775807) :
    ∃ w', (Builtin.unsafeString_ #[88, 3] 9 #[.pointer p, .int .i64 xs.length]).run Tryd.prog w = .ok (encS xs) w' ∧ Step o w o w' [i] := by
  by_cases h0 : xs = []
  · subst h0
    exact ⟨w, by have := Lib.run_unsafeString_none (P := Tryd.prog) w 88 3 9 p; rw [List.length_nil]; rw [show ((0 : Nat) : Int) = 0 from rfl, this]; rfl, Step.refl _ _ _⟩
  · obtain rfl := hp h0
    obtain ⟨cells, hown, ht, hm⟩ := hO
    rcases hown.2 with ⟨_, hz⟩ | ⟨g, cap, cur, hv, _, hg, hn, hcm, hcs, htake⟩
    · exact absurd (List.eq_nil_of_length_eq_zero hz) h0
    · injection hv with e1 _ e3
      subst e1
      have hcz : cur.size = cap := by rw [hcs]; exact Nat.mul_one cap
      refine ⟨w.freeze ⟨g, 0, none⟩ xs.length, ?_, step_freeze (ht g rfl)⟩
      refine Lib.run_unsafeString_row (P := Tryd.prog) w 88 3 9 5 Tryd.underlying88 (by kernel_rfl) g cur.size (by simp [World.shape?, hg]) xs h0 (by omega) hl ?_
      intro j x hx
      have hcell := World.ownsRow.cells hown (g := g) rfl j (enc8 x)
      have hcs' : cells = xs.map enc8 := many_scalar hm
      rw [hcs'] at hcell
      exact hcell (by simp [hx])
theorem Builder_String.calls (o0 : Tags) (w0 : World) (b : Nat) (a0 : List UInt8) (r : List UInt8) (hO : ∀ b, b < w0.heap.size → o0 b < 10) (hB0 : Bd 84 5 2 o0 w0 b a0) (H : Builder_String.f a0 = some r) :
    Calls Tryd.prog 52 [.pointer (some ⟨b, 0, none⟩)].toArray w0 fun e_ w_ => ∃ (o_ : Tags), e_ = .returned (one [encS r]) ∧ Step o0 w0 o_ w_ [2] := by
  unfold Builder_String.f at H
  obtain ⟨u, hu, H⟩ := bindE H
  obtain rfl := Option.some.inj H
  have hl : a0.length ≤ 9223372036854775807 := of_decide_eq_true (chk_true hu)
  obtain ⟨p, v, hB0', hp, hO1⟩ := hB0
  have hb := hB0'.heap
  have hn := hO1.notin hb rfl
  have h0 : o0 b ≠ 0 := by rw [hB0'.tag]; decide
  have hO2 : Own Rep.u8 5 2 (apart1 o0 b) w0 v a0 := hO1.apart hn h0
  have HF := Fm.here2 (apart1 o0 b) w0
  have hB : Bk (apart1 o0 b) w0 11 b [p, v] 84 := ⟨apart1_same o0 b, hb⟩
  refine SX.calls [.pointer (some ⟨b, 0, none⟩)] Tryd.func52 rfl rfl ?_
  rw [Tryd.ntmps52]
  refine WC.seq ?_
  refine WC.region ?_
  refine WL.ex rfl (ex_assign (v := encS []) rfl) ?_
  refine WL.nil ?_
  refine WC.seq ?_
  refine WC.regionD' HF [2] 12 (by kernel_rfl) rfl ?_
  intro w1 s1
  replace hO2 := hO2.step s1 rfl rfl
  replace hB := hB.step s1 rfl
  replace HF := HF.step s1 rfl
  have hBD := hB
  have sR := HF.here [2]
  obtain ⟨A, c, e, hlc, hr⟩ := hO2.row
  subst e
  refine WA.ex 0 rfl (by kernel_rfl) (by kernel_rfl) (by kernel_rfl) rfl ⟨_, sR⟩ (fun w_ hS_ => ex_move (v := .pointer (some ⟨b, 0, none⟩)) rfl) ?_
  refine WA.ex 1 rfl (by kernel_rfl) (by kernel_rfl) (by kernel_rfl) rfl ⟨_, sR⟩ (fun w_ hS_ => ex_nilCheck rfl) ?_
  refine WA.ex 2 rfl (by kernel_rfl) (by kernel_rfl) (by kernel_rfl) rfl ⟨_, sR⟩ (fun w_ hS_ => ex_fieldAddr (k := 0) rfl Tryd.underlying84 rfl (by kernel_rfl)) ?_
  refine WA.ex 3 rfl (by kernel_rfl) (by kernel_rfl) (by kernel_rfl) rfl ⟨_, sR⟩ (fun w_ hS_ => ex_load1 (v := .slice A a0.length c) rfl Tryd.underlying48 rfl ((hBD.step hS_.choose_spec rfl).cell rfl)) ?_
  refine WA.ex 5 rfl (by kernel_rfl) (by kernel_rfl) (by kernel_rfl) rfl ⟨_, sR⟩ (fun w_ hS_ => ex_move (v := .pointer (some ⟨b, 0, none⟩)) rfl) ?_
  refine WA.ex 6 rfl (by kernel_rfl) (by kernel_rfl) (by kernel_rfl) rfl ⟨_, sR⟩ (fun w_ hS_ => ex_nilCheck rfl) ?_
  refine WA.ex 7 rfl (by kernel_rfl) (by kernel_rfl) (by kernel_rfl) rfl ⟨_, sR⟩ (fun w_ hS_ => ex_fieldAddr (k := 0) rfl Tryd.underlying84 rfl (by kernel_rfl)) ?_
  refine WA.ex 8 rfl (by kernel_rfl) (by kernel_rfl) (by kernel_rfl) rfl ⟨_, sR⟩ (fun w_ hS_ => ex_load1 (v := .slice A a0.length c) rfl Tryd.underlying48 rfl ((hBD.step hS_.choose_spec rfl).cell rfl)) ?_
  refine WA.ex 9 rfl (by kernel_rfl) (by kernel_rfl) (by kernel_rfl) rfl ⟨_, sR⟩ (fun w_ hS_ => ex_len_slice (A := A) (m := a0.length) (c := c) rfl Tryd.underlying48) ?_
  have hdata : ∃ q w2 o2, (Builtin.unsafeSliceData_ #[48] 88 #[.slice A a0.length c]).run Tryd.prog w1 = .ok (.pointer q) w2 ∧ Step (apart1 o0 b) w1 o2 w2 [] ∧ (a0 ≠ [] → q = A) := by
    cases A with
    | none => exact ⟨none, w1, _, Lib.run_unsafeSliceData_nil w1 _ _ _ _, Step.refl _ _ _, fun _ => rfl⟩
    | some ad =>
      by_cases hc : c = 0
      · subst hc
        obtain ⟨cells, hown, ht, hm⟩ := hO2
        rcases hown.2 with ⟨hz, _⟩ | ⟨g, cap, cur, hv, _, hg, _⟩
        · cases hz
        · injection hv with e1 _ e3
          injection e1 with e1
          subst e1
          exact ⟨_, _, _, Lib.run_unsafeSliceData_zero (P := Tryd.prog) w1 #[48] 88 5 Tryd.underlying88 ⟨g, 0, none⟩ a0.length (5, cur.size) (by simp [World.shape?, hg]), step_alloc (apart1 o0 b) w1 1 _ [], fun h => absurd (List.eq_nil_of_length_eq_zero (by omega)) h⟩
      · exact ⟨some ad, w1, _, Lib.run_unsafeSliceData_row w1 _ _ ad _ _ hc, Step.refl _ _ _, fun _ => rfl⟩
  obtain ⟨q, w2, o2, hr2, s2, hq⟩ := hdata
  refine WA.one 4 (by kernel_rfl) rfl rfl ?_
  refine OW.val (v := .pointer q) (w' := w2) rfl (run_usd (v := .slice A a0.length c) rfl hr2) ?_
  replace sR := Step.trans sR s2 (M := [2]) rfl rfl
  replace hO2 := hO2.step s2 rfl rfl
  refine ⟨⟨_, sR⟩, ?_⟩
  obtain ⟨w3, hr3, s3⟩ := unsafe_string 2 o2 w2 A a0 c q hO2 hq hl
  refine WA.one 10 (by kernel_rfl) rfl rfl ?_
  refine OW.val (v := encS a0) (w' := w3) rfl (run_us (v := .pointer q) (u := .int .i64 (a0.length : Int)) rfl rfl hr3) ?_
  replace sR := Step.trans sR s3 (M := [2]) rfl rfl
  refine ⟨⟨_, sR⟩, ?_⟩
  refine WA.one 11 (by kernel_rfl) rfl rfl ?_
  refine OW.ex rfl (ex_assign (v := encS a0) rfl) ?_
  refine ⟨⟨_, sR⟩, ?_⟩
  refine WA.done (by kernel_rfl) ?_
  refine WC.ret ?_
  exact ⟨_, .tmp (encS a0) rfl .nil, _, rfl, apart_step hO hB0'.tag (Step.trans s1 sR (M := [11, 2]) rfl rfl) rfl⟩
end Go.Proofs.YtjhmhdedonibbaaDoor.X
