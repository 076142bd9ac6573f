import Derived.Test.YtjhmhdedonibbaaDoorXAD
import Derived.Test.YtjhmhdedonibbaaDoorProg
import Derived.Test.YtjhmhdedonibbaaDoorSxQ
import Derived.Test.YtjhmhdedonibbaaDoorShelf
set_option maxRecDepth 20000
set_option linter.unusedVariables false
set_option linter.unusedSimpArgs false
set_option linter.unnecessarySimpa false
namespace Go.Proofs.YtjhmhdedonibbaaDoor.X
open Go Go.RowKit Go.Proofs.YtjhmhdedonibbaaDoor.SX
/-! What the program's variables hold -/
def GG : Glob := { L := [0, 1, 5, 3, 4], T := fun w => Lib.Utf8Tabs 0 1 w ∧ Lib.TabIs Tryd.prog w "internal/strconv.uint64pow10" .u64 Lib.pow10Tab ∧ (∃ tp p, w.var? Tryd.prog "strconv.ErrSyntax" = some #[.iface tp p]) ∧ (∃ tp p, w.var? Tryd.prog "strconv.ErrRange" = some #[.iface tp p]), move := fun {w w'} hk h => ⟨⟨fun c hc => by rw [cell_move (w := w) (hk 0 (by simp))]; exact h.1.1 c hc, fun i hi => ⟨by rw [cell_move (w := w) (hk 1 (by simp))]; exact (h.1.2 i hi).1, by rw [cell_move (w := w) (hk 1 (by simp))]; exact (h.1.2 i hi).2⟩⟩, (var_move (by kernel_rfl : Tryd.prog.globalNamed "internal/strconv.uint64pow10" = some 5) (hk 5 (by simp))).trans h.2.1, (by obtain ⟨tp, p, e⟩ := h.2.2.1; exact ⟨tp, p, (var_move (by kernel_rfl : Tryd.prog.globalNamed "strconv.ErrSyntax" = some 3) (hk 3 (by simp))).trans e⟩), (by obtain ⟨tp, p, e⟩ := h.2.2.2; exact ⟨tp, p, (var_move (by kernel_rfl : Tryd.prog.globalNamed "strconv.ErrRange" = some 4) (hk 4 (by simp))).trans e⟩)⟩ }

theorem inf9 : (Tryd.prog.info? 9).map (fun i => (i.zero, i.size, i.bytes)) = some (some (.string ⟨#[]⟩), 1, 16) := by kernel_rfl
theorem inf37 : (Tryd.prog.info? 37).map (fun i => (i.zero, i.size, i.bytes)) = some (some (.agg #[.int .i64 0, .string ⟨#[]⟩, .int .i64 0, .int .i64 0, .int .i64 0, .int .i64 0]), 6, 56) := by kernel_rfl
theorem sz3 : (Tryd.prog.info? 3).map (·.size) = some 1 := by kernel_rfl
theorem sz9 : (Tryd.prog.info? 9).map (·.size) = some 1 := by kernel_rfl
theorem sz23 : (Tryd.prog.info? 23).map (·.size) = some 3 := by kernel_rfl
theorem sz31 : (Tryd.prog.info? 31).map (·.size) = some 4 := by kernel_rfl
theorem sz35 : (Tryd.prog.info? 35).map (·.size) = some 1 := by kernel_rfl
theorem sz37 : (Tryd.prog.info? 37).map (·.size) = some 6 := by kernel_rfl
theorem zr9 : (Tryd.prog.info? 9).map (·.zero) = some (some (.string ⟨#[]⟩)) := by kernel_rfl
theorem zr23 : (Tryd.prog.info? 23).map (·.zero) = some (some (.agg #[.int .i64 0, .int .i64 0, .int .i64 0])) := by kernel_rfl
theorem zr31 : (Tryd.prog.info? 31).map (·.zero) = some (some (.agg #[.int .i64 0, .int .i64 0, .int .i64 0, .int .i64 0])) := by kernel_rfl
theorem zr37 : (Tryd.prog.info? 37).map (·.zero) = some (some (.agg #[.int .i64 0, .string ⟨#[]⟩, .int .i64 0, .int .i64 0, .int .i64 0, .int .i64 0])) := by kernel_rfl
theorem zr55 : (Tryd.prog.info? 55).map (·.zero) = some (some (.agg #[.string ⟨#[]⟩, .int .i64 0, .int .i64 0, .int .i64 0])) := by kernel_rfl
theorem zr80 : (Tryd.prog.info? 80).map (·.zero) = some (some (.agg #[.string ⟨#[]⟩, .string ⟨#[]⟩, .string ⟨#[]⟩, .string ⟨#[]⟩, .string ⟨#[]⟩, .string ⟨#[]⟩, .string ⟨#[]⟩, .string ⟨#[]⟩, .string ⟨#[]⟩, .string ⟨#[]⟩, .string ⟨#[]⟩, .string ⟨#[]⟩, .string ⟨#[]⟩, .string ⟨#[]⟩, .string ⟨#[]⟩, .string ⟨#[]⟩, .string ⟨#[]⟩, .string ⟨#[]⟩, .string ⟨#[]⟩, .string ⟨#[]⟩])) := by kernel_rfl

/-! ### token_At -/
set_option maxRecDepth 100000 in
theorem token_At.calls (k : Nat) (o0 : Tags) (w0 : World) (a0 : List UInt8) (a1 : Int) (r : T_api_Spot) (hO : ∀ b, b < w0.heap.size → o0 b < 10) (H : token_At.f k a0 a1 = some r) :
    Calls Tryd.prog 9 [encS a0, .int .i64 a1].toArray w0 fun e_ w_ => ∃ (o_ : Tags), e_ = .returned (one [.agg #[.int .i64 r.f_Line, .int .i64 r.f_Col, .int .i64 r.f_Off]]) ∧ Step o0 w0 o_ w_ [] := by
  have HF := Fm.refl hO []
  unfold token_At.f at H
  refine SX.calls [encS a0, .int .i64 a1] Tryd.func9 rfl rfl ?_
  rw [Tryd.ntmps9]
  refine WC.seq ?_
  refine WC.region ?_
  refine WL.op rfl ?_
  refine OW.alloc' [.int .i64 (0 : Int), .int .i64 (0 : Int), .int .i64 (0 : Int)] 10 HF rfl zr23 rfl ?_
  intro o102 w103 b101 s104 hB105
  replace HF := HF.step s104 rfl
  refine WL.nil ?_
  refine WC.seq ?_
  refine WC.region ?_
  refine WL.ex rfl (ex_move (v := .int .i64 a1) rfl) ?_
  refine WL.ex rfl (ex_move (v := encS a0) rfl) ?_
  refine WL.ex rfl (ex_len_str (s := a0) rfl Tryd.underlying9) ?_
  refine WL.ex rfl (ex_min (a := a1) (b := (a0.length : Int)) rfl rfl) ?_
  refine WL.ex rfl (ex_max (a := 0) (b := (if (a0.length : Int) < a1 then (a0.length : Int) else a1)) rfl rfl) ?_
  refine WL.ex rfl (ex_assign (v := .int .i64 (if (if (a0.length : Int) < a1 then (a0.length : Int) else a1) > 0 then (if (a0.length : Int) < a1 then (a0.length : Int) else a1) else 0)) rfl) ?_
  refine WL.nil ?_
  refine WC.seq ?_
  refine WC.region ?_
  refine WL.ex rfl (ex_move (v := .int .i64 (if (if (a0.length : Int) < a1 then (a0.length : Int) else a1) > 0 then (if (a0.length : Int) < a1 then (a0.length : Int) else a1) else 0)) rfl) ?_
  refine WL.ex rfl (ex_build (cs := [.int .i64 1, .int .i64 1, .int .i64 (if (if (a0.length : Int) < a1 then (a0.length : Int) else a1) > 0 then (if (a0.length : Int) < a1 then (a0.length : Int) else a1) else 0)]) [(0, 1), (1, 1), (2, 1)] [(0, .int .i64 1), (1, .int .i64 1), (2, .int .i64 (if (if (a0.length : Int) < a1 then (a0.length : Int) else a1) > 0 then (if (a0.length : Int) < a1 then (a0.length : Int) else a1) else 0))] [.int .i64 0, .int .i64 0, .int .i64 0] Tryd.underlying23 zr23 rfl (by kernel_rfl) (evs_cons rfl (evs_cons rfl (evs_cons rfl rfl))) rfl) ?_
  refine WL.op rfl ?_
  refine OW.alloc' [.int .i64 (0 : Int), .int .i64 (0 : Int), .int .i64 (0 : Int)] 11 HF rfl zr23 rfl ?_
  intro o107 w108 b106 s109 hB110
  replace hB105 := hB105.step s109 rfl
  replace HF := HF.step s109 rfl
  refine WL.op rfl ?_
  refine OW.store [.int .i64 1, .int .i64 1, .int .i64 (if (if (a0.length : Int) < a1 then (a0.length : Int) else a1) > 0 then (if (a0.length : Int) < a1 then (a0.length : Int) else a1) else 0)] rfl (vs := [.int .i64 1, .int .i64 1, .int .i64 (if (if (a0.length : Int) < a1 then (a0.length : Int) else a1) > 0 then (if (a0.length : Int) < a1 then (a0.length : Int) else a1) else 0)]) ((congrArg Value.cells (show ev _ _ = (.agg #[.int .i64 1, .int .i64 1, .int .i64 (if (if (a0.length : Int) < a1 then (a0.length : Int) else a1) > 0 then (if (a0.length : Int) < a1 then (a0.length : Int) else a1) else 0)] : Value) from rfl)).trans rfl) sz23 hB110 (Nat.le_of_ble_eq_true rfl) (by intro u_ hu_; simp only [List.mem_cons, List.not_mem_nil, or_false] at hu_; rcases hu_ with rfl | rfl | rfl <;> first | rfl) rfl ?_
  intro w111 s112 hB113
  replace hB105 := hB105.step s112 rfl
  replace HF := HF.step s112 rfl
  refine WL.nil ?_
  refine WC.seq ?_
  refine WC.seq ?_
  refine WC.region ?_
  refine WL.ex rfl (ex_move (v := encS a0) rfl) ?_
  refine WL.op rfl ?_
  refine OW.rangeStr (s := a0) 12 HF rfl Tryd.underlying9 rfl ?_
  intro o115 w116 b114 s117 hI118
  replace hB105 := hB105.step s117 rfl
  replace hB113 := hB113.step s117 rfl
  replace HF := HF.step s117 rfl
  refine WL.nil ?_
  obtain ⟨z122, hz122, H⟩ := bindE H
  refine WC.for (fun k_ ρ_ w_ => ∃ (o_ : Tags) (x119 : T_api_Spot) (x120 : Nat), Fm o0 w0 o_ w_ [] ∧ Bk o_ w_ 10 b101 [.int .i64 (0 : Int), .int .i64 (0 : Int), .int .i64 (0 : Int)] 23 ∧ Bk o_ w_ 11 b106 [.int .i64 x119.f_Line, .int .i64 x119.f_Col, .int .i64 x119.f_Off] 23 ∧ It 12 o_ w_ b114 a0 x120 ∧ ρ_ 1 = .int .i64 (if (if (a0.length : Int) < a1 then (a0.length : Int) else a1) > 0 then (if (a0.length : Int) < a1 then (a0.length : Int) else a1) else 0) ∧ ρ_ 4 = .pointer (some ⟨b101, 0, none⟩) ∧ ρ_ 5 = .pointer (some ⟨b106, 0, none⟩) ∧ ρ_ 16 = .pointer (some ⟨b114, 0, none⟩) ∧ token_At.l1 k a0 a1 k_ x119 x120 = some z122) k (fun ρ_ w_ => ∃ (o_ : Tags), Fm o0 w0 o_ w_ [] ∧ Bk o_ w_ 10 b101 [.int .i64 (0 : Int), .int .i64 (0 : Int), .int .i64 (0 : Int)] 23 ∧ Bk o_ w_ 11 b106 [.int .i64 z122.f_Line, .int .i64 z122.f_Col, .int .i64 z122.f_Off] 23 ∧ ρ_ 4 = .pointer (some ⟨b101, 0, none⟩) ∧ ρ_ 5 = .pointer (some ⟨b106, 0, none⟩)) ⟨_, (⟨1, 1, (if (if (a0.length : Int) < a1 then (a0.length : Int) else a1) > 0 then (if (a0.length : Int) < a1 then (a0.length : Int) else a1) else 0)⟩ : T_api_Spot), 0, HF, hB105, hB113, hI118, rfl, rfl, rfl, rfl, hz122⟩ ?case123 ?_
  case case123 =>
    rintro ρ146 w144 ⟨o145, HF, hB105, hB113, s4_120, s5_120⟩
    refine WC.seq ?_
    refine WC.region ?_
    refine WL.ex rfl (ex_loadN (cs := [.int .i64 z122.f_Line, .int .i64 z122.f_Col, .int .i64 z122.f_Off]) s5_120 Tryd.underlying23 rfl sz23 (hB113.cells rfl)) ?_
    refine WL.op rfl ?_
    refine OW.store [.int .i64 z122.f_Line, .int .i64 z122.f_Col, .int .i64 z122.f_Off] s4_120 (vs := [.int .i64 z122.f_Line, .int .i64 z122.f_Col, .int .i64 z122.f_Off]) ((congrArg Value.cells (show ev _ _ = (.agg #[.int .i64 z122.f_Line, .int .i64 z122.f_Col, .int .i64 z122.f_Off] : Value) from rfl)).trans rfl) sz23 hB105 (Nat.le_of_ble_eq_true rfl) (by intro u_ hu_; simp only [List.mem_cons, List.not_mem_nil, or_false] at hu_; rcases hu_ with rfl | rfl | rfl <;> first | rfl) rfl ?_
    intro w147 s148 hB149
    replace hB113 := hB113.step s148 rfl
    replace HF := HF.step s148 rfl
    refine WL.nil ?_
    refine WC.ret ?_
    obtain rfl := Option.some.inj H
    exact ⟨_, (.cell (.agg #[.int .i64 z122.f_Line, .int .i64 z122.f_Col, .int .i64 z122.f_Off] : Value) s4_120 (run_loadN (cs := [.int .i64 z122.f_Line, .int .i64 z122.f_Col, .int .i64 z122.f_Off]) Tryd.underlying23 rfl sz23 (hB149.cells rfl)) .nil), _, rfl, HF.out⟩
  have Ho124 := H
  rintro k125 ρ126 w127 ⟨o128, x119, x120, HF, hB105, hB113, hI118, s1_118, s4_118, s5_118, s16_118, H⟩
  cases k125 with
  | zero => cases H
  | succ k125 =>
  rw [token_At.l1.eq_2] at H
  refine WC.seq ?_
  refine WC.region ?_
  rcases condE H with ⟨c129, H⟩ | ⟨c129, H⟩
  ·
    refine WL.op rfl (OW.nextYes (q := x120) rfl s16_118 hI118 c129 ?_)
    intro w130 s131 hI132
    replace hB105 := hB105.step s131 rfl
    replace hB113 := hB113.step s131 rfl
    replace HF := HF.step s131 rfl
    refine WL.ex rfl (ex_extract (vs := #[.bool true, .int .i64 (x120 : Int), .int .i32 (runeAt a0 x120)]) (v := .bool true) rfl rfl) ?_
    refine WL.nil ?_
    refine WC.seq ?_
    refine WC.cond_t rfl ?_
    refine WC.skip ?_
    refine WC.block ?_
    refine WC.seq ?_
    refine WC.region ?_
    refine WL.ex rfl (ex_extract (vs := #[.bool true, .int .i64 (x120 : Int), .int .i32 (runeAt a0 x120)]) (v := .int .i64 (x120 : Int)) rfl rfl) ?_
    refine WL.ex rfl (ex_extract (vs := #[.bool true, .int .i64 (x120 : Int), .int .i32 (runeAt a0 x120)]) (v := .int .i32 (runeAt a0 x120)) rfl rfl) ?_
    refine WL.ex rfl (ex_assign (v := .int .i64 (x120 : Int)) rfl) ?_
    refine WL.ex rfl (ex_assign (v := .int .i32 (runeAt a0 x120)) rfl) ?_
    refine WL.nil ?_
    refine WC.seq ?_
    refine WC.seq ?_
    refine WC.region ?_
    refine WL.ex rfl (ex_move (v := .int .i64 (x120 : Int)) rfl) ?_
    refine WL.ex rfl (ex_move (v := .int .i64 (if (if (a0.length : Int) < a1 then (a0.length : Int) else a1) > 0 then (if (a0.length : Int) < a1 then (a0.length : Int) else a1) else 0)) s1_118) ?_
    refine WL.ex rfl (ex_bin (a := .int .i64 (x120 : Int)) (b := .int .i64 (if (if (a0.length : Int) < a1 then (a0.length : Int) else a1) > 0 then (if (a0.length : Int) < a1 then (a0.length : Int) else a1) else 0)) (v := .bool (decide ((x120 : Int) ≥ (if (if (a0.length : Int) < a1 then (a0.length : Int) else a1) > 0 then (if (a0.length : Int) < a1 then (a0.length : Int) else a1) else 0)))) rfl rfl bin_geq) ?_
    refine WL.nil ?_
    rcases condE H with ⟨c133, H⟩ | ⟨c133, H⟩
    ·
      refine WC.cond_t ((show _ = Value.bool (decide ((x120 : Int) ≥ (if (if (a0.length : Int) < a1 then (a0.length : Int) else a1) > 0 then (if (a0.length : Int) < a1 then (a0.length : Int) else a1) else 0))) from rfl).trans (congrArg Value.bool c133)) ?_
      refine WC.exit ?_
      obtain rfl := Option.some.inj H
      exact ⟨_, HF, hB105, hB113, s4_118, s5_118⟩
    ·
      refine WC.cond_f ((show _ = Value.bool (decide ((x120 : Int) ≥ (if (if (a0.length : Int) < a1 then (a0.length : Int) else a1) > 0 then (if (a0.length : Int) < a1 then (a0.length : Int) else a1) else 0))) from rfl).trans (congrArg Value.bool c133)) ?_
      refine WC.skip ?_
      refine WC.seq ?_
      refine WC.region ?_
      refine WL.ex rfl (ex_move (v := .int .i32 (runeAt a0 x120)) rfl) ?_
      refine WL.ex rfl (ex_bin (a := .int .i32 (runeAt a0 x120)) (b := .int .i32 10) (v := .bool ((runeAt a0 x120) == 10)) rfl rfl bin_eql) ?_
      refine WL.nil ?_
      rcases condE H with ⟨c134, H⟩ | ⟨c134, H⟩
      ·
        refine WC.cond_t ((show _ = Value.bool ((runeAt a0 x120) == 10) from rfl).trans (congrArg Value.bool c134)) ?_
        refine WC.region ?_
        refine WL.ex rfl (ex_fieldAddr s5_118 Tryd.underlying23 rfl sz3) ?_
        refine WL.ex rfl (ex_load1 (v := .int .i64 x119.f_Line) rfl Tryd.underlying3 rfl (hB113.cell rfl)) ?_
        refine WL.ex rfl (ex_bin (a := .int .i64 x119.f_Line) (b := .int .i64 1) (v := .int .i64 (wrap64 (x119.f_Line + 1))) rfl rfl bin_add64) ?_
        refine WL.ex rfl (ex_fieldAddr s5_118 Tryd.underlying23 rfl sz3) ?_
        refine WL.op rfl ?_
        refine OW.store [.int .i64 (wrap64 (x119.f_Line + 1)), .int .i64 x119.f_Col, .int .i64 x119.f_Off] rfl (vs := [.int .i64 (wrap64 (x119.f_Line + 1))]) ((congrArg Value.cells (show ev _ _ = (.int .i64 (wrap64 (x119.f_Line + 1)) : Value) from rfl)).trans rfl) sz3 hB113 (Nat.le_of_ble_eq_true rfl) (by intro u_ hu_; simp only [List.mem_cons, List.not_mem_nil, or_false] at hu_; rcases hu_ with rfl; first | rfl) rfl ?_
        intro w135 s136 hB137
        replace hB105 := hB105.step s136 rfl
        replace hI132 := hI132.step s136 rfl
        replace HF := HF.step s136 rfl
        refine WL.ex rfl (ex_fieldAddr s5_118 Tryd.underlying23 rfl sz3) ?_
        refine WL.op rfl ?_
        refine OW.store [.int .i64 (wrap64 (x119.f_Line + 1)), .int .i64 1, .int .i64 x119.f_Off] rfl (vs := [.int .i64 1]) ((congrArg Value.cells (show ev _ _ = (.int .i64 1 : Value) from rfl)).trans rfl) sz3 hB137 (Nat.le_of_ble_eq_true rfl) (by intro u_ hu_; simp only [List.mem_cons, List.not_mem_nil, or_false] at hu_; rcases hu_ with rfl; first | rfl) rfl ?_
        intro w138 s139 hB140
        replace hB105 := hB105.step s139 rfl
        replace hI132 := hI132.step s139 rfl
        replace HF := HF.step s139 rfl
        refine WL.nil ?_
        exact ⟨k125, Nat.lt_succ_self _, ⟨_, (⟨wrap64 (x119.f_Line + 1), 1, x119.f_Off⟩ : T_api_Spot), (x120 + wideAt a0 x120), HF, hB105, hB140, hI132, s1_118, s4_118, s5_118, s16_118, H⟩⟩
      ·
        refine WC.cond_f ((show _ = Value.bool ((runeAt a0 x120) == 10) from rfl).trans (congrArg Value.bool c134)) ?_
        refine WC.region ?_
        refine WL.ex rfl (ex_fieldAddr s5_118 Tryd.underlying23 rfl sz3) ?_
        refine WL.ex rfl (ex_load1 (v := .int .i64 x119.f_Col) rfl Tryd.underlying3 rfl (hB113.cell rfl)) ?_
        refine WL.ex rfl (ex_bin (a := .int .i64 x119.f_Col) (b := .int .i64 1) (v := .int .i64 (wrap64 (x119.f_Col + 1))) rfl rfl bin_add64) ?_
        refine WL.ex rfl (ex_fieldAddr s5_118 Tryd.underlying23 rfl sz3) ?_
        refine WL.op rfl ?_
        refine OW.store [.int .i64 x119.f_Line, .int .i64 (wrap64 (x119.f_Col + 1)), .int .i64 x119.f_Off] rfl (vs := [.int .i64 (wrap64 (x119.f_Col + 1))]) ((congrArg Value.cells (show ev _ _ = (.int .i64 (wrap64 (x119.f_Col + 1)) : Value) from rfl)).trans rfl) sz3 hB113 (Nat.le_of_ble_eq_true rfl) (by intro u_ hu_; simp only [List.mem_cons, List.not_mem_nil, or_false] at hu_; rcases hu_ with rfl; first | rfl) rfl ?_
        intro w141 s142 hB143
        replace hB105 := hB105.step s142 rfl
        replace hI132 := hI132.step s142 rfl
        replace HF := HF.step s142 rfl
        refine WL.nil ?_
        exact ⟨k125, Nat.lt_succ_self _, ⟨_, (⟨x119.f_Line, wrap64 (x119.f_Col + 1), x119.f_Off⟩ : T_api_Spot), (x120 + wideAt a0 x120), HF, hB105, hB143, hI132, s1_118, s4_118, s5_118, s16_118, H⟩⟩
  ·
    refine WL.op rfl (OW.nextNo (q := x120) rfl s16_118 hI118 c129 ?_)
    refine WL.ex rfl (ex_extract (vs := #[.bool false]) (v := .bool false) rfl rfl) ?_
    refine WL.nil ?_
    refine WC.seq ?_
    refine WC.cond_f rfl ?_
    refine WC.exit ?_
    obtain rfl := Option.some.inj H
    exact ⟨_, HF, hB105, hB113, s4_118, s5_118⟩

/-! ### dictumref02_more -/
set_option maxRecDepth 100000 in
theorem dictumref02_more.calls (o0 : Tags) (w0 : World) (a0 : List UInt8) (a1 : Int) (a2 : UInt8) (a3 : UInt8) (r : Bool) (hO : ∀ b, b < w0.heap.size → o0 b < 10) (H : dictumref02_more.f a0 a1 a2 a3 = some r) :
    Calls Tryd.prog 53 [encS a0, .int .i64 a1, enc8 a2, enc8 a3].toArray w0 fun e_ w_ => ∃ (o_ : Tags), e_ = .returned (one [.bool r]) ∧ Step o0 w0 o_ w_ [] := by
  have HF := Fm.refl hO []
  unfold dictumref02_more.f at H
  refine SX.calls [encS a0, .int .i64 a1, enc8 a2, enc8 a3] Tryd.func53 rfl rfl ?_
  rw [Tryd.ntmps53]
  refine WC.seq ?_
  refine WC.region ?_
  refine WL.ex rfl (ex_assign (v := .bool false) rfl) ?_
  refine WL.nil ?_
  refine WC.seq ?_
  refine WC.region ?_
  refine WL.ex rfl (ex_move (v := .int .i64 a1) rfl) ?_
  refine WL.ex rfl (ex_move (v := encS a0) rfl) ?_
  refine WL.ex rfl (ex_len_str (s := a0) rfl Tryd.underlying9) ?_
  refine WL.ex rfl (ex_bin (a := .int .i64 a1) (b := .int .i64 (a0.length : Int)) (v := .bool (decide (a1 < (a0.length : Int)))) rfl rfl bin_lss) ?_
  refine WL.ex rfl (ex_move (v := .bool (decide (a1 < (a0.length : Int)))) rfl) ?_
  rcases condE H with ⟨c101, H⟩ | ⟨c101, H⟩
  ·
    refine WL.guardYes rfl rfl rfl ((show _ = Value.bool (decide (a1 < (a0.length : Int))) from rfl).trans (congrArg Value.bool c101)) ?_
    refine OW.ex rfl (ex_move (v := encS a0) rfl) ?_
    refine WL.guardYes rfl rfl rfl ((show _ = Value.bool (decide (a1 < (a0.length : Int))) from rfl).trans (congrArg Value.bool c101)) ?_
    refine OW.ex rfl (ex_move (v := .int .i64 a1) rfl) ?_
    refine WL.guardYes rfl rfl rfl ((show _ = Value.bool (decide (a1 < (a0.length : Int))) from rfl).trans (congrArg Value.bool c101)) ?_
    obtain ⟨x102, hx102, H⟩ := bindE H
    refine OW.ex rfl (ex_index_str (i := a1) rfl rfl Tryd.underlying9 (ix_some hx102).1 (ix_some hx102).2.2) ?_
    refine WL.guardYes rfl rfl rfl ((show _ = Value.bool (decide (a1 < (a0.length : Int))) from rfl).trans (congrArg Value.bool c101)) ?_
    refine OW.ex rfl (ex_move (v := enc8 a2) rfl) ?_
    refine WL.guardYes rfl rfl rfl ((show _ = Value.bool (decide (a1 < (a0.length : Int))) from rfl).trans (congrArg Value.bool c101)) ?_
    refine OW.ex rfl (ex_bin (a := enc8 x102) (b := enc8 a2) (v := .bool (decide (a2 ≤ x102))) rfl rfl bin_geq_u8) ?_
    refine WL.ex rfl (ex_pick_t (v := .bool (decide (a2 ≤ x102))) ((show _ = Value.bool (decide (a1 < (a0.length : Int))) from rfl).trans (congrArg Value.bool c101)) rfl) ?_
    refine WL.ex rfl (ex_move (v := .bool (decide (a2 ≤ x102))) rfl) ?_
    rcases condE H with ⟨c103, H⟩ | ⟨c103, H⟩
    ·
      refine WL.guardYes rfl rfl rfl ((show _ = Value.bool (decide (a2 ≤ x102)) from rfl).trans (congrArg Value.bool c103)) ?_
      refine OW.ex rfl (ex_move (v := encS a0) rfl) ?_
      refine WL.guardYes rfl rfl rfl ((show _ = Value.bool (decide (a2 ≤ x102)) from rfl).trans (congrArg Value.bool c103)) ?_
      refine OW.ex rfl (ex_move (v := .int .i64 a1) rfl) ?_
      refine WL.guardYes rfl rfl rfl ((show _ = Value.bool (decide (a2 ≤ x102)) from rfl).trans (congrArg Value.bool c103)) ?_
      obtain ⟨x104, hx104, H⟩ := bindE H
      refine OW.ex rfl (ex_index_str (i := a1) rfl rfl Tryd.underlying9 (ix_some hx104).1 (ix_some hx104).2.2) ?_
      refine WL.guardYes rfl rfl rfl ((show _ = Value.bool (decide (a2 ≤ x102)) from rfl).trans (congrArg Value.bool c103)) ?_
      refine OW.ex rfl (ex_move (v := enc8 a3) rfl) ?_
      refine WL.guardYes rfl rfl rfl ((show _ = Value.bool (decide (a2 ≤ x102)) from rfl).trans (congrArg Value.bool c103)) ?_
      refine OW.ex rfl (ex_bin (a := enc8 x104) (b := enc8 a3) (v := .bool (decide (x104 ≤ a3))) rfl rfl bin_leq_u8) ?_
      refine WL.ex rfl (ex_pick_t (v := .bool (decide (x104 ≤ a3))) ((show _ = Value.bool (decide (a2 ≤ x102)) from rfl).trans (congrArg Value.bool c103)) rfl) ?_
      refine WL.ex rfl (ex_assign (v := .bool (decide (x104 ≤ a3))) rfl) ?_
      refine WL.nil ?_
      refine WC.ret ?_
      obtain rfl := Option.some.inj H
      exact ⟨_, (.tmp (.bool (decide (x104 ≤ a3)) : Value) rfl .nil), _, rfl, HF.out⟩
    ·
      refine WL.guardNo rfl rfl rfl ((show _ = Value.bool (decide (a2 ≤ x102)) from rfl).trans (congrArg Value.bool c103)) ?_
      refine WL.guardNo rfl rfl rfl ((show _ = Value.bool (decide (a2 ≤ x102)) from rfl).trans (congrArg Value.bool c103)) ?_
      refine WL.guardNo rfl rfl rfl ((show _ = Value.bool (decide (a2 ≤ x102)) from rfl).trans (congrArg Value.bool c103)) ?_
      refine WL.guardNo rfl rfl rfl ((show _ = Value.bool (decide (a2 ≤ x102)) from rfl).trans (congrArg Value.bool c103)) ?_
      refine WL.guardNo rfl rfl rfl ((show _ = Value.bool (decide (a2 ≤ x102)) from rfl).trans (congrArg Value.bool c103)) ?_
      refine WL.ex rfl (ex_pick_f (v := .bool false) ((show _ = Value.bool (decide (a2 ≤ x102)) from rfl).trans (congrArg Value.bool c103)) rfl) ?_
      refine WL.ex rfl (ex_assign (v := .bool false) rfl) ?_
      refine WL.nil ?_
      refine WC.ret ?_
      obtain rfl := Option.some.inj H
      exact ⟨_, (.tmp (.bool false : Value) rfl .nil), _, rfl, HF.out⟩
  ·
    refine WL.guardNo rfl rfl rfl ((show _ = Value.bool (decide (a1 < (a0.length : Int))) from rfl).trans (congrArg Value.bool c101)) ?_
    refine WL.guardNo rfl rfl rfl ((show _ = Value.bool (decide (a1 < (a0.length : Int))) from rfl).trans (congrArg Value.bool c101)) ?_
    refine WL.guardNo rfl rfl rfl ((show _ = Value.bool (decide (a1 < (a0.length : Int))) from rfl).trans (congrArg Value.bool c101)) ?_
    refine WL.guardNo rfl rfl rfl ((show _ = Value.bool (decide (a1 < (a0.length : Int))) from rfl).trans (congrArg Value.bool c101)) ?_
    refine WL.guardNo rfl rfl rfl ((show _ = Value.bool (decide (a1 < (a0.length : Int))) from rfl).trans (congrArg Value.bool c101)) ?_
    refine WL.ex rfl (ex_pick_f (v := .bool false) ((show _ = Value.bool (decide (a1 < (a0.length : Int))) from rfl).trans (congrArg Value.bool c101)) rfl) ?_
    refine WL.ex rfl (ex_move (v := .bool false) rfl) ?_
    refine WL.guardNo rfl rfl rfl rfl ?_
    refine WL.guardNo rfl rfl rfl rfl ?_
    refine WL.guardNo rfl rfl rfl rfl ?_
    refine WL.guardNo rfl rfl rfl rfl ?_
    refine WL.guardNo rfl rfl rfl rfl ?_
    refine WL.ex rfl (ex_pick_f (v := .bool false) rfl rfl) ?_
    refine WL.ex rfl (ex_assign (v := .bool false) rfl) ?_
    refine WL.nil ?_
    refine WC.ret ?_
    obtain rfl := Option.some.inj H
    exact ⟨_, (.tmp (.bool false : Value) rfl .nil), _, rfl, HF.out⟩

/-! ### dictumref02_size -/
set_option maxRecDepth 100000 in
theorem dictumref02_size.calls (o0 : Tags) (w0 : World) (a0 : List UInt8) (a1 : Int) (r : Int) (hO : ∀ b, b < w0.heap.size → o0 b < 10) (H : dictumref02_size.f a0 a1 = some r) :
    Calls Tryd.prog 35 [encS a0, .int .i64 a1].toArray w0 fun e_ w_ => ∃ (o_ : Tags), e_ = .returned (one [.int .i64 r]) ∧ Step o0 w0 o_ w_ [] := by
  have HF := Fm.refl hO []
  unfold dictumref02_size.f at H
  refine SX.calls [encS a0, .int .i64 a1] Tryd.func35 rfl rfl ?_
  rw [Tryd.ntmps35]
  refine WC.seq ?_
  refine WC.region ?_
  refine WL.ex rfl (ex_assign (v := .int .i64 0) rfl) ?_
  refine WL.nil ?_
  refine WC.seq ?_
  refine WC.region ?_
  refine WL.ex rfl (ex_move (v := encS a0) rfl) ?_
  refine WL.ex rfl (ex_move (v := .int .i64 a1) rfl) ?_
  obtain ⟨x101, hx101, H⟩ := bindE H
  refine WL.ex rfl (ex_index_str (i := a1) rfl rfl Tryd.underlying9 (ix_some hx101).1 (ix_some hx101).2.2) ?_
  refine WL.ex rfl (ex_assign (v := enc8 x101) rfl) ?_
  refine WL.nil ?_
  refine WC.seq ?_
  refine WC.block ?_
  obtain ⟨z103, hz103, H⟩ := bindE H
  refine WC.cut (fun ρ_ w_ => ∃ (o_ : Tags), Fm o0 w0 o_ w_ [] ∧ ρ_ 0 = encS a0 ∧ ρ_ 1 = .int .i64 a1 ∧ ρ_ 4 = .int .i64 0 ∧ ρ_ 5 = enc8 x101 ∧ ρ_ 9 = .bool z103) ?case104 ?_
  case case104 =>
    rintro ρ107 w105 ⟨o106, HF, s0_101, s1_101, s4_101, s5_101, s9_102⟩
    rcases condE H with ⟨c108, H⟩ | ⟨c108, H⟩
    ·
      refine WC.cond_t ((show _ = Value.bool z103 from s9_102).trans (congrArg Value.bool c108)) ?_
      refine WC.seq ?_
      refine WC.region ?_
      refine WL.ex rfl (ex_assign (v := .int .i64 2) rfl) ?_
      refine WL.nil ?_
      refine WC.ret ?_
      obtain rfl := Option.some.inj H
      exact ⟨_, (.tmp (.int .i64 2 : Value) rfl .nil), _, rfl, HF.out⟩
    ·
      refine WC.cond_f ((show _ = Value.bool z103 from s9_102).trans (congrArg Value.bool c108)) ?_
      obtain ⟨z110, hz110, H⟩ := bindE H
      refine WC.cut (fun ρ_ w_ => ∃ (o_ : Tags), Fm o0 w0 o_ w_ [] ∧ ρ_ 0 = encS a0 ∧ ρ_ 1 = .int .i64 a1 ∧ ρ_ 4 = .int .i64 0 ∧ ρ_ 5 = enc8 x101 ∧ ρ_ 22 = .bool z110) ?case111 ?_
      case case111 =>
        rintro ρ114 w112 ⟨o113, HF, s0_108, s1_108, s4_108, s5_108, s22_109⟩
        rcases condE H with ⟨c115, H⟩ | ⟨c115, H⟩
        ·
          refine WC.cond_t ((show _ = Value.bool z110 from s22_109).trans (congrArg Value.bool c115)) ?_
          refine WC.seq ?_
          refine WC.region ?_
          refine WL.ex rfl (ex_assign (v := .int .i64 3) rfl) ?_
          refine WL.nil ?_
          refine WC.ret ?_
          obtain rfl := Option.some.inj H
          exact ⟨_, (.tmp (.int .i64 3 : Value) rfl .nil), _, rfl, HF.out⟩
        ·
          refine WC.cond_f ((show _ = Value.bool z110 from s22_109).trans (congrArg Value.bool c115)) ?_
          obtain ⟨z117, hz117, H⟩ := bindE H
          refine WC.cut (fun ρ_ w_ => ∃ (o_ : Tags), Fm o0 w0 o_ w_ [] ∧ ρ_ 0 = encS a0 ∧ ρ_ 1 = .int .i64 a1 ∧ ρ_ 4 = .int .i64 0 ∧ ρ_ 5 = enc8 x101 ∧ ρ_ 37 = .bool z117) ?case118 ?_
          case case118 =>
            rintro ρ121 w119 ⟨o120, HF, s0_115, s1_115, s4_115, s5_115, s37_116⟩
            rcases condE H with ⟨c122, H⟩ | ⟨c122, H⟩
            ·
              refine WC.cond_t ((show _ = Value.bool z117 from s37_116).trans (congrArg Value.bool c122)) ?_
              refine WC.seq ?_
              refine WC.region ?_
              refine WL.ex rfl (ex_assign (v := .int .i64 3) rfl) ?_
              refine WL.nil ?_
              refine WC.ret ?_
              obtain rfl := Option.some.inj H
              exact ⟨_, (.tmp (.int .i64 3 : Value) rfl .nil), _, rfl, HF.out⟩
            ·
              refine WC.cond_f ((show _ = Value.bool z117 from s37_116).trans (congrArg Value.bool c122)) ?_
              obtain ⟨z124, hz124, H⟩ := bindE H
              refine WC.cut (fun ρ_ w_ => ∃ (o_ : Tags), Fm o0 w0 o_ w_ [] ∧ ρ_ 0 = encS a0 ∧ ρ_ 1 = .int .i64 a1 ∧ ρ_ 4 = .int .i64 0 ∧ ρ_ 5 = enc8 x101 ∧ ρ_ 52 = .bool z124) ?case125 ?_
              case case125 =>
                rintro ρ128 w126 ⟨o127, HF, s0_122, s1_122, s4_122, s5_122, s52_123⟩
                rcases condE H with ⟨c129, H⟩ | ⟨c129, H⟩
                ·
                  refine WC.cond_t ((show _ = Value.bool z124 from s52_123).trans (congrArg Value.bool c129)) ?_
                  refine WC.seq ?_
                  refine WC.region ?_
                  refine WL.ex rfl (ex_assign (v := .int .i64 3) rfl) ?_
                  refine WL.nil ?_
                  refine WC.ret ?_
                  obtain rfl := Option.some.inj H
                  exact ⟨_, (.tmp (.int .i64 3 : Value) rfl .nil), _, rfl, HF.out⟩
                ·
                  refine WC.cond_f ((show _ = Value.bool z124 from s52_123).trans (congrArg Value.bool c129)) ?_
                  obtain ⟨z131, hz131, H⟩ := bindE H
                  refine WC.cut (fun ρ_ w_ => ∃ (o_ : Tags), Fm o0 w0 o_ w_ [] ∧ ρ_ 0 = encS a0 ∧ ρ_ 1 = .int .i64 a1 ∧ ρ_ 4 = .int .i64 0 ∧ ρ_ 5 = enc8 x101 ∧ ρ_ 75 = .bool z131) ?case132 ?_
                  case case132 =>
                    rintro ρ135 w133 ⟨o134, HF, s0_129, s1_129, s4_129, s5_129, s75_130⟩
                    rcases condE H with ⟨c136, H⟩ | ⟨c136, H⟩
                    ·
                      refine WC.cond_t ((show _ = Value.bool z131 from s75_130).trans (congrArg Value.bool c136)) ?_
                      refine WC.seq ?_
                      refine WC.region ?_
                      refine WL.ex rfl (ex_assign (v := .int .i64 4) rfl) ?_
                      refine WL.nil ?_
                      refine WC.ret ?_
                      obtain rfl := Option.some.inj H
                      exact ⟨_, (.tmp (.int .i64 4 : Value) rfl .nil), _, rfl, HF.out⟩
                    ·
                      refine WC.cond_f ((show _ = Value.bool z131 from s75_130).trans (congrArg Value.bool c136)) ?_
                      obtain ⟨z138, hz138, H⟩ := bindE H
                      refine WC.cut (fun ρ_ w_ => ∃ (o_ : Tags), Fm o0 w0 o_ w_ [] ∧ ρ_ 0 = encS a0 ∧ ρ_ 1 = .int .i64 a1 ∧ ρ_ 4 = .int .i64 0 ∧ ρ_ 5 = enc8 x101 ∧ ρ_ 96 = .bool z138) ?case139 ?_
                      case case139 =>
                        rintro ρ142 w140 ⟨o141, HF, s0_136, s1_136, s4_136, s5_136, s96_137⟩
                        rcases condE H with ⟨c143, H⟩ | ⟨c143, H⟩
                        ·
                          refine WC.cond_t ((show _ = Value.bool z138 from s96_137).trans (congrArg Value.bool c143)) ?_
                          refine WC.seq ?_
                          refine WC.region ?_
                          refine WL.ex rfl (ex_assign (v := .int .i64 4) rfl) ?_
                          refine WL.nil ?_
                          refine WC.ret ?_
                          obtain rfl := Option.some.inj H
                          exact ⟨_, (.tmp (.int .i64 4 : Value) rfl .nil), _, rfl, HF.out⟩
                        ·
                          refine WC.cond_f ((show _ = Value.bool z138 from s96_137).trans (congrArg Value.bool c143)) ?_
                          obtain ⟨z145, hz145, H⟩ := bindE H
                          refine WC.cut (fun ρ_ w_ => ∃ (o_ : Tags), Fm o0 w0 o_ w_ [] ∧ ρ_ 4 = .int .i64 0 ∧ ρ_ 121 = .bool z145) ?case146 ?_
                          case case146 =>
                            rintro ρ149 w147 ⟨o148, HF, s4_143, s121_144⟩
                            rcases condE H with ⟨c150, H⟩ | ⟨c150, H⟩
                            ·
                              refine WC.cond_t ((show _ = Value.bool z145 from s121_144).trans (congrArg Value.bool c150)) ?_
                              refine WC.seq ?_
                              refine WC.region ?_
                              refine WL.ex rfl (ex_assign (v := .int .i64 4) rfl) ?_
                              refine WL.nil ?_
                              refine WC.ret ?_
                              obtain rfl := Option.some.inj H
                              exact ⟨_, (.tmp (.int .i64 4 : Value) rfl .nil), _, rfl, HF.out⟩
                            ·
                              refine WC.cond_f ((show _ = Value.bool z145 from s121_144).trans (congrArg Value.bool c150)) ?_
                              refine WC.skip ?_
                              refine WC.seq ?_
                              refine WC.region ?_
                              refine WL.ex rfl (ex_assign (v := .int .i64 1) rfl) ?_
                              refine WL.nil ?_
                              refine WC.ret ?_
                              obtain rfl := Option.some.inj H
                              exact ⟨_, (.tmp (.int .i64 1 : Value) rfl .nil), _, rfl, HF.out⟩
                          have Ho151 := H
                          replace H := hz145
                          refine WC.region ?_
                          refine WL.ex rfl (ex_move (v := enc8 x101) s5_136) ?_
                          refine WL.ex rfl (ex_bin (a := enc8 x101) (b := enc8 (244 : UInt8)) (v := .bool (x101 == (244 : UInt8))) rfl rfl bin_eql_u8) ?_
                          refine WL.ex rfl (ex_move (v := .bool (x101 == (244 : UInt8))) rfl) ?_
                          rcases condE H with ⟨c152, H⟩ | ⟨c152, H⟩
                          ·
                            refine WL.guardYes rfl rfl rfl ((show _ = Value.bool (x101 == (244 : UInt8)) from rfl).trans (congrArg Value.bool c152)) ?_
                            refine OW.ex rfl (ex_move (v := encS a0) s0_136) ?_
                            refine WL.guardYes rfl rfl rfl ((show _ = Value.bool (x101 == (244 : UInt8)) from rfl).trans (congrArg Value.bool c152)) ?_
                            refine OW.ex rfl (ex_move (v := .int .i64 a1) s1_136) ?_
                            refine WL.guardYes rfl rfl rfl ((show _ = Value.bool (x101 == (244 : UInt8)) from rfl).trans (congrArg Value.bool c152)) ?_
                            refine OW.ex rfl (ex_bin (a := .int .i64 a1) (b := .int .i64 1) (v := .int .i64 (wrap64 (a1 + 1))) rfl rfl bin_add64) ?_
                            refine WL.guardYes rfl rfl rfl ((show _ = Value.bool (x101 == (244 : UInt8)) from rfl).trans (congrArg Value.bool c152)) ?_
                            obtain ⟨z153, hz153, H⟩ := bindE H
                            refine OW.call [encS a0, .int .i64 (wrap64 (a1 + 1)), enc8 (128 : UInt8), enc8 (143 : UInt8)] rfl Tryd.func53 (by kernel_rfl) (by kernel_rfl) (map_cons' rfl (map_cons' rfl (map_cons' rfl (map_cons' rfl rfl)))) (dictumref02_more.calls _ _ a0 (wrap64 (a1 + 1)) (128 : UInt8) (143 : UInt8) z153 (HF.ten (V := [0]) (L := []) rfl)  hz153) ?_
                            rintro _ w154 ⟨o155, rfl, s156⟩
                            refine ⟨_, rfl, ?_⟩
                            replace s156 := un_stepL (J := []) (L' := []) s156 rfl rfl
                            replace HF := HF.step s156 rfl
                            refine WL.ex rfl (ex_pick_t (v := .bool z153) ((show _ = Value.bool (x101 == (244 : UInt8)) from rfl).trans (congrArg Value.bool c152)) rfl) ?_
                            refine WL.ex rfl (ex_move (v := .bool z153) rfl) ?_
                            rcases condE H with ⟨c157, H⟩ | ⟨c157, H⟩
                            ·
                              refine WL.guardYes rfl rfl rfl ((show _ = Value.bool z153 from rfl).trans (congrArg Value.bool c157)) ?_
                              refine OW.ex rfl (ex_move (v := encS a0) s0_136) ?_
                              refine WL.guardYes rfl rfl rfl ((show _ = Value.bool z153 from rfl).trans (congrArg Value.bool c157)) ?_
                              refine OW.ex rfl (ex_move (v := .int .i64 a1) s1_136) ?_
                              refine WL.guardYes rfl rfl rfl ((show _ = Value.bool z153 from rfl).trans (congrArg Value.bool c157)) ?_
                              refine OW.ex rfl (ex_bin (a := .int .i64 a1) (b := .int .i64 2) (v := .int .i64 (wrap64 (a1 + 2))) rfl rfl bin_add64) ?_
                              refine WL.guardYes rfl rfl rfl ((show _ = Value.bool z153 from rfl).trans (congrArg Value.bool c157)) ?_
                              obtain ⟨z158, hz158, H⟩ := bindE H
                              refine OW.call [encS a0, .int .i64 (wrap64 (a1 + 2)), enc8 (128 : UInt8), enc8 (191 : UInt8)] rfl Tryd.func53 (by kernel_rfl) (by kernel_rfl) (map_cons' rfl (map_cons' rfl (map_cons' rfl (map_cons' rfl rfl)))) (dictumref02_more.calls _ _ a0 (wrap64 (a1 + 2)) (128 : UInt8) (191 : UInt8) z158 (HF.ten (V := [0]) (L := []) rfl)  hz158) ?_
                              rintro _ w159 ⟨o160, rfl, s161⟩
                              refine ⟨_, rfl, ?_⟩
                              replace s161 := un_stepL (J := []) (L' := []) s161 rfl rfl
                              replace HF := HF.step s161 rfl
                              refine WL.ex rfl (ex_pick_t (v := .bool z158) ((show _ = Value.bool z153 from rfl).trans (congrArg Value.bool c157)) rfl) ?_
                              refine WL.ex rfl (ex_move (v := .bool z158) rfl) ?_
                              rcases condE H with ⟨c162, H⟩ | ⟨c162, H⟩
                              ·
                                refine WL.guardYes rfl rfl rfl ((show _ = Value.bool z158 from rfl).trans (congrArg Value.bool c162)) ?_
                                refine OW.ex rfl (ex_move (v := encS a0) s0_136) ?_
                                refine WL.guardYes rfl rfl rfl ((show _ = Value.bool z158 from rfl).trans (congrArg Value.bool c162)) ?_
                                refine OW.ex rfl (ex_move (v := .int .i64 a1) s1_136) ?_
                                refine WL.guardYes rfl rfl rfl ((show _ = Value.bool z158 from rfl).trans (congrArg Value.bool c162)) ?_
                                refine OW.ex rfl (ex_bin (a := .int .i64 a1) (b := .int .i64 3) (v := .int .i64 (wrap64 (a1 + 3))) rfl rfl bin_add64) ?_
                                refine WL.guardYes rfl rfl rfl ((show _ = Value.bool z158 from rfl).trans (congrArg Value.bool c162)) ?_
                                obtain ⟨z163, hz163, H⟩ := bindE H
                                refine OW.call [encS a0, .int .i64 (wrap64 (a1 + 3)), enc8 (128 : UInt8), enc8 (191 : UInt8)] rfl Tryd.func53 (by kernel_rfl) (by kernel_rfl) (map_cons' rfl (map_cons' rfl (map_cons' rfl (map_cons' rfl rfl)))) (dictumref02_more.calls _ _ a0 (wrap64 (a1 + 3)) (128 : UInt8) (191 : UInt8) z163 (HF.ten (V := [0]) (L := []) rfl)  hz163) ?_
                                rintro _ w164 ⟨o165, rfl, s166⟩
                                refine ⟨_, rfl, ?_⟩
                                replace s166 := un_stepL (J := []) (L' := []) s166 rfl rfl
                                replace HF := HF.step s166 rfl
                                refine WL.ex rfl (ex_pick_t (v := .bool z163) ((show _ = Value.bool z158 from rfl).trans (congrArg Value.bool c162)) rfl) ?_
                                refine WL.ex rfl (ex_assign (v := .bool z163) rfl) ?_
                                refine WL.nil ?_
                                obtain rfl := Option.some.inj H
                                exact ⟨_, HF, s4_136, rfl⟩
                              ·
                                refine WL.guardNo rfl rfl rfl ((show _ = Value.bool z158 from rfl).trans (congrArg Value.bool c162)) ?_
                                refine WL.guardNo rfl rfl rfl ((show _ = Value.bool z158 from rfl).trans (congrArg Value.bool c162)) ?_
                                refine WL.guardNo rfl rfl rfl ((show _ = Value.bool z158 from rfl).trans (congrArg Value.bool c162)) ?_
                                refine WL.guardNo rfl rfl rfl ((show _ = Value.bool z158 from rfl).trans (congrArg Value.bool c162)) ?_
                                refine WL.ex rfl (ex_pick_f (v := .bool false) ((show _ = Value.bool z158 from rfl).trans (congrArg Value.bool c162)) rfl) ?_
                                refine WL.ex rfl (ex_assign (v := .bool false) rfl) ?_
                                refine WL.nil ?_
                                obtain rfl := Option.some.inj H
                                exact ⟨_, HF, s4_136, rfl⟩
                            ·
                              refine WL.guardNo rfl rfl rfl ((show _ = Value.bool z153 from rfl).trans (congrArg Value.bool c157)) ?_
                              refine WL.guardNo rfl rfl rfl ((show _ = Value.bool z153 from rfl).trans (congrArg Value.bool c157)) ?_
                              refine WL.guardNo rfl rfl rfl ((show _ = Value.bool z153 from rfl).trans (congrArg Value.bool c157)) ?_
                              refine WL.guardNo rfl rfl rfl ((show _ = Value.bool z153 from rfl).trans (congrArg Value.bool c157)) ?_
                              refine WL.ex rfl (ex_pick_f (v := .bool false) ((show _ = Value.bool z153 from rfl).trans (congrArg Value.bool c157)) rfl) ?_
                              refine WL.ex rfl (ex_move (v := .bool false) rfl) ?_
                              refine WL.guardNo rfl rfl rfl rfl ?_
                              refine WL.guardNo rfl rfl rfl rfl ?_
                              refine WL.guardNo rfl rfl rfl rfl ?_
                              refine WL.guardNo rfl rfl rfl rfl ?_
                              refine WL.ex rfl (ex_pick_f (v := .bool false) rfl rfl) ?_
                              refine WL.ex rfl (ex_assign (v := .bool false) rfl) ?_
                              refine WL.nil ?_
                              obtain rfl := Option.some.inj H
                              exact ⟨_, HF, s4_136, rfl⟩
                          ·
                            refine WL.guardNo rfl rfl rfl ((show _ = Value.bool (x101 == (244 : UInt8)) from rfl).trans (congrArg Value.bool c152)) ?_
                            refine WL.guardNo rfl rfl rfl ((show _ = Value.bool (x101 == (244 : UInt8)) from rfl).trans (congrArg Value.bool c152)) ?_
                            refine WL.guardNo rfl rfl rfl ((show _ = Value.bool (x101 == (244 : UInt8)) from rfl).trans (congrArg Value.bool c152)) ?_
                            refine WL.guardNo rfl rfl rfl ((show _ = Value.bool (x101 == (244 : UInt8)) from rfl).trans (congrArg Value.bool c152)) ?_
                            refine WL.ex rfl (ex_pick_f (v := .bool false) ((show _ = Value.bool (x101 == (244 : UInt8)) from rfl).trans (congrArg Value.bool c152)) rfl) ?_
                            refine WL.ex rfl (ex_move (v := .bool false) rfl) ?_
                            refine WL.guardNo rfl rfl rfl rfl ?_
                            refine WL.guardNo rfl rfl rfl rfl ?_
                            refine WL.guardNo rfl rfl rfl rfl ?_
                            refine WL.guardNo rfl rfl rfl rfl ?_
                            refine WL.ex rfl (ex_pick_f (v := .bool false) rfl rfl) ?_
                            refine WL.ex rfl (ex_move (v := .bool false) rfl) ?_
                            refine WL.guardNo rfl rfl rfl rfl ?_
                            refine WL.guardNo rfl rfl rfl rfl ?_
                            refine WL.guardNo rfl rfl rfl rfl ?_
                            refine WL.guardNo rfl rfl rfl rfl ?_
                            refine WL.ex rfl (ex_pick_f (v := .bool false) rfl rfl) ?_
                            refine WL.ex rfl (ex_assign (v := .bool false) rfl) ?_
                            refine WL.nil ?_
                            obtain rfl := Option.some.inj H
                            exact ⟨_, HF, s4_136, rfl⟩
                      have Ho167 := H
                      replace H := hz138
                      refine WC.region ?_
                      refine WL.ex rfl (ex_move (v := enc8 x101) s5_129) ?_
                      refine WL.ex rfl (ex_bin (a := enc8 x101) (b := enc8 (241 : UInt8)) (v := .bool (decide ((241 : UInt8) ≤ x101))) rfl rfl bin_geq_u8) ?_
                      refine WL.ex rfl (ex_move (v := .bool (decide ((241 : UInt8) ≤ x101))) rfl) ?_
                      rcases condE H with ⟨c168, H⟩ | ⟨c168, H⟩
                      ·
                        refine WL.guardYes rfl rfl rfl ((show _ = Value.bool (decide ((241 : UInt8) ≤ x101)) from rfl).trans (congrArg Value.bool c168)) ?_
                        refine OW.ex rfl (ex_move (v := enc8 x101) s5_129) ?_
                        refine WL.guardYes rfl rfl rfl ((show _ = Value.bool (decide ((241 : UInt8) ≤ x101)) from rfl).trans (congrArg Value.bool c168)) ?_
                        refine OW.ex rfl (ex_bin (a := enc8 x101) (b := enc8 (243 : UInt8)) (v := .bool (decide (x101 ≤ (243 : UInt8)))) rfl rfl bin_leq_u8) ?_
                        refine WL.ex rfl (ex_pick_t (v := .bool (decide (x101 ≤ (243 : UInt8)))) ((show _ = Value.bool (decide ((241 : UInt8) ≤ x101)) from rfl).trans (congrArg Value.bool c168)) rfl) ?_
                        refine WL.ex rfl (ex_move (v := .bool (decide (x101 ≤ (243 : UInt8)))) rfl) ?_
                        rcases condE H with ⟨c169, H⟩ | ⟨c169, H⟩
                        ·
                          refine WL.guardYes rfl rfl rfl ((show _ = Value.bool (decide (x101 ≤ (243 : UInt8))) from rfl).trans (congrArg Value.bool c169)) ?_
                          refine OW.ex rfl (ex_move (v := encS a0) s0_129) ?_
                          refine WL.guardYes rfl rfl rfl ((show _ = Value.bool (decide (x101 ≤ (243 : UInt8))) from rfl).trans (congrArg Value.bool c169)) ?_
                          refine OW.ex rfl (ex_move (v := .int .i64 a1) s1_129) ?_
                          refine WL.guardYes rfl rfl rfl ((show _ = Value.bool (decide (x101 ≤ (243 : UInt8))) from rfl).trans (congrArg Value.bool c169)) ?_
                          refine OW.ex rfl (ex_bin (a := .int .i64 a1) (b := .int .i64 1) (v := .int .i64 (wrap64 (a1 + 1))) rfl rfl bin_add64) ?_
                          refine WL.guardYes rfl rfl rfl ((show _ = Value.bool (decide (x101 ≤ (243 : UInt8))) from rfl).trans (congrArg Value.bool c169)) ?_
                          obtain ⟨z170, hz170, H⟩ := bindE H
                          refine OW.call [encS a0, .int .i64 (wrap64 (a1 + 1)), enc8 (128 : UInt8), enc8 (191 : UInt8)] rfl Tryd.func53 (by kernel_rfl) (by kernel_rfl) (map_cons' rfl (map_cons' rfl (map_cons' rfl (map_cons' rfl rfl)))) (dictumref02_more.calls _ _ a0 (wrap64 (a1 + 1)) (128 : UInt8) (191 : UInt8) z170 (HF.ten (V := [0]) (L := []) rfl)  hz170) ?_
                          rintro _ w171 ⟨o172, rfl, s173⟩
                          refine ⟨_, rfl, ?_⟩
                          replace s173 := un_stepL (J := []) (L' := []) s173 rfl rfl
                          replace HF := HF.step s173 rfl
                          refine WL.ex rfl (ex_pick_t (v := .bool z170) ((show _ = Value.bool (decide (x101 ≤ (243 : UInt8))) from rfl).trans (congrArg Value.bool c169)) rfl) ?_
                          refine WL.ex rfl (ex_move (v := .bool z170) rfl) ?_
                          rcases condE H with ⟨c174, H⟩ | ⟨c174, H⟩
                          ·
                            refine WL.guardYes rfl rfl rfl ((show _ = Value.bool z170 from rfl).trans (congrArg Value.bool c174)) ?_
                            refine OW.ex rfl (ex_move (v := encS a0) s0_129) ?_
                            refine WL.guardYes rfl rfl rfl ((show _ = Value.bool z170 from rfl).trans (congrArg Value.bool c174)) ?_
                            refine OW.ex rfl (ex_move (v := .int .i64 a1) s1_129) ?_
                            refine WL.guardYes rfl rfl rfl ((show _ = Value.bool z170 from rfl).trans (congrArg Value.bool c174)) ?_
                            refine OW.ex rfl (ex_bin (a := .int .i64 a1) (b := .int .i64 2) (v := .int .i64 (wrap64 (a1 + 2))) rfl rfl bin_add64) ?_
                            refine WL.guardYes rfl rfl rfl ((show _ = Value.bool z170 from rfl).trans (congrArg Value.bool c174)) ?_
                            obtain ⟨z175, hz175, H⟩ := bindE H
                            refine OW.call [encS a0, .int .i64 (wrap64 (a1 + 2)), enc8 (128 : UInt8), enc8 (191 : UInt8)] rfl Tryd.func53 (by kernel_rfl) (by kernel_rfl) (map_cons' rfl (map_cons' rfl (map_cons' rfl (map_cons' rfl rfl)))) (dictumref02_more.calls _ _ a0 (wrap64 (a1 + 2)) (128 : UInt8) (191 : UInt8) z175 (HF.ten (V := [0]) (L := []) rfl)  hz175) ?_
                            rintro _ w176 ⟨o177, rfl, s178⟩
                            refine ⟨_, rfl, ?_⟩
                            replace s178 := un_stepL (J := []) (L' := []) s178 rfl rfl
                            replace HF := HF.step s178 rfl
                            refine WL.ex rfl (ex_pick_t (v := .bool z175) ((show _ = Value.bool z170 from rfl).trans (congrArg Value.bool c174)) rfl) ?_
                            refine WL.ex rfl (ex_move (v := .bool z175) rfl) ?_
                            rcases condE H with ⟨c179, H⟩ | ⟨c179, H⟩
                            ·
                              refine WL.guardYes rfl rfl rfl ((show _ = Value.bool z175 from rfl).trans (congrArg Value.bool c179)) ?_
                              refine OW.ex rfl (ex_move (v := encS a0) s0_129) ?_
                              refine WL.guardYes rfl rfl rfl ((show _ = Value.bool z175 from rfl).trans (congrArg Value.bool c179)) ?_
                              refine OW.ex rfl (ex_move (v := .int .i64 a1) s1_129) ?_
                              refine WL.guardYes rfl rfl rfl ((show _ = Value.bool z175 from rfl).trans (congrArg Value.bool c179)) ?_
                              refine OW.ex rfl (ex_bin (a := .int .i64 a1) (b := .int .i64 3) (v := .int .i64 (wrap64 (a1 + 3))) rfl rfl bin_add64) ?_
                              refine WL.guardYes rfl rfl rfl ((show _ = Value.bool z175 from rfl).trans (congrArg Value.bool c179)) ?_
                              obtain ⟨z180, hz180, H⟩ := bindE H
                              refine OW.call [encS a0, .int .i64 (wrap64 (a1 + 3)), enc8 (128 : UInt8), enc8 (191 : UInt8)] rfl Tryd.func53 (by kernel_rfl) (by kernel_rfl) (map_cons' rfl (map_cons' rfl (map_cons' rfl (map_cons' rfl rfl)))) (dictumref02_more.calls _ _ a0 (wrap64 (a1 + 3)) (128 : UInt8) (191 : UInt8) z180 (HF.ten (V := [0]) (L := []) rfl)  hz180) ?_
                              rintro _ w181 ⟨o182, rfl, s183⟩
                              refine ⟨_, rfl, ?_⟩
                              replace s183 := un_stepL (J := []) (L' := []) s183 rfl rfl
                              replace HF := HF.step s183 rfl
                              refine WL.ex rfl (ex_pick_t (v := .bool z180) ((show _ = Value.bool z175 from rfl).trans (congrArg Value.bool c179)) rfl) ?_
                              refine WL.ex rfl (ex_assign (v := .bool z180) rfl) ?_
                              refine WL.nil ?_
                              obtain rfl := Option.some.inj H
                              exact ⟨_, HF, s0_129, s1_129, s4_129, s5_129, rfl⟩
                            ·
                              refine WL.guardNo rfl rfl rfl ((show _ = Value.bool z175 from rfl).trans (congrArg Value.bool c179)) ?_
                              refine WL.guardNo rfl rfl rfl ((show _ = Value.bool z175 from rfl).trans (congrArg Value.bool c179)) ?_
                              refine WL.guardNo rfl rfl rfl ((show _ = Value.bool z175 from rfl).trans (congrArg Value.bool c179)) ?_
                              refine WL.guardNo rfl rfl rfl ((show _ = Value.bool z175 from rfl).trans (congrArg Value.bool c179)) ?_
                              refine WL.ex rfl (ex_pick_f (v := .bool false) ((show _ = Value.bool z175 from rfl).trans (congrArg Value.bool c179)) rfl) ?_
                              refine WL.ex rfl (ex_assign (v := .bool false) rfl) ?_
                              refine WL.nil ?_
                              obtain rfl := Option.some.inj H
                              exact ⟨_, HF, s0_129, s1_129, s4_129, s5_129, rfl⟩
                          ·
                            refine WL.guardNo rfl rfl rfl ((show _ = Value.bool z170 from rfl).trans (congrArg Value.bool c174)) ?_
                            refine WL.guardNo rfl rfl rfl ((show _ = Value.bool z170 from rfl).trans (congrArg Value.bool c174)) ?_
                            refine WL.guardNo rfl rfl rfl ((show _ = Value.bool z170 from rfl).trans (congrArg Value.bool c174)) ?_
                            refine WL.guardNo rfl rfl rfl ((show _ = Value.bool z170 from rfl).trans (congrArg Value.bool c174)) ?_
                            refine WL.ex rfl (ex_pick_f (v := .bool false) ((show _ = Value.bool z170 from rfl).trans (congrArg Value.bool c174)) rfl) ?_
                            refine WL.ex rfl (ex_move (v := .bool false) rfl) ?_
                            refine WL.guardNo rfl rfl rfl rfl ?_
                            refine WL.guardNo rfl rfl rfl rfl ?_
                            refine WL.guardNo rfl rfl rfl rfl ?_
                            refine WL.guardNo rfl rfl rfl rfl ?_
                            refine WL.ex rfl (ex_pick_f (v := .bool false) rfl rfl) ?_
                            refine WL.ex rfl (ex_assign (v := .bool false) rfl) ?_
                            refine WL.nil ?_
                            obtain rfl := Option.some.inj H
                            exact ⟨_, HF, s0_129, s1_129, s4_129, s5_129, rfl⟩
                        ·
                          refine WL.guardNo rfl rfl rfl ((show _ = Value.bool (decide (x101 ≤ (243 : UInt8))) from rfl).trans (congrArg Value.bool c169)) ?_
                          refine WL.guardNo rfl rfl rfl ((show _ = Value.bool (decide (x101 ≤ (243 : UInt8))) from rfl).trans (congrArg Value.bool c169)) ?_
                          refine WL.guardNo rfl rfl rfl ((show _ = Value.bool (decide (x101 ≤ (243 : UInt8))) from rfl).trans (congrArg Value.bool c169)) ?_
                          refine WL.guardNo rfl rfl rfl ((show _ = Value.bool (decide (x101 ≤ (243 : UInt8))) from rfl).trans (congrArg Value.bool c169)) ?_
                          refine WL.ex rfl (ex_pick_f (v := .bool false) ((show _ = Value.bool (decide (x101 ≤ (243 : UInt8))) from rfl).trans (congrArg Value.bool c169)) rfl) ?_
                          refine WL.ex rfl (ex_move (v := .bool false) rfl) ?_
                          refine WL.guardNo rfl rfl rfl rfl ?_
                          refine WL.guardNo rfl rfl rfl rfl ?_
                          refine WL.guardNo rfl rfl rfl rfl ?_
                          refine WL.guardNo rfl rfl rfl rfl ?_
                          refine WL.ex rfl (ex_pick_f (v := .bool false) rfl rfl) ?_
                          refine WL.ex rfl (ex_move (v := .bool false) rfl) ?_
                          refine WL.guardNo rfl rfl rfl rfl ?_
                          refine WL.guardNo rfl rfl rfl rfl ?_
                          refine WL.guardNo rfl rfl rfl rfl ?_
                          refine WL.guardNo rfl rfl rfl rfl ?_
                          refine WL.ex rfl (ex_pick_f (v := .bool false) rfl rfl) ?_
                          refine WL.ex rfl (ex_assign (v := .bool false) rfl) ?_
                          refine WL.nil ?_
                          obtain rfl := Option.some.inj H
                          exact ⟨_, HF, s0_129, s1_129, s4_129, s5_129, rfl⟩
                      ·
                        refine WL.guardNo rfl rfl rfl ((show _ = Value.bool (decide ((241 : UInt8) ≤ x101)) from rfl).trans (congrArg Value.bool c168)) ?_
                        refine WL.guardNo rfl rfl rfl ((show _ = Value.bool (decide ((241 : UInt8) ≤ x101)) from rfl).trans (congrArg Value.bool c168)) ?_
                        refine WL.ex rfl (ex_pick_f (v := .bool false) ((show _ = Value.bool (decide ((241 : UInt8) ≤ x101)) from rfl).trans (congrArg Value.bool c168)) rfl) ?_
                        refine WL.ex rfl (ex_move (v := .bool false) rfl) ?_
                        refine WL.guardNo rfl rfl rfl rfl ?_
                        refine WL.guardNo rfl rfl rfl rfl ?_
                        refine WL.guardNo rfl rfl rfl rfl ?_
                        refine WL.guardNo rfl rfl rfl rfl ?_
                        refine WL.ex rfl (ex_pick_f (v := .bool false) rfl rfl) ?_
                        refine WL.ex rfl (ex_move (v := .bool false) rfl) ?_
                        refine WL.guardNo rfl rfl rfl rfl ?_
                        refine WL.guardNo rfl rfl rfl rfl ?_
                        refine WL.guardNo rfl rfl rfl rfl ?_
                        refine WL.guardNo rfl rfl rfl rfl ?_
                        refine WL.ex rfl (ex_pick_f (v := .bool false) rfl rfl) ?_
                        refine WL.ex rfl (ex_move (v := .bool false) rfl) ?_
                        refine WL.guardNo rfl rfl rfl rfl ?_
                        refine WL.guardNo rfl rfl rfl rfl ?_
                        refine WL.guardNo rfl rfl rfl rfl ?_
                        refine WL.guardNo rfl rfl rfl rfl ?_
                        refine WL.ex rfl (ex_pick_f (v := .bool false) rfl rfl) ?_
                        refine WL.ex rfl (ex_assign (v := .bool false) rfl) ?_
                        refine WL.nil ?_
                        obtain rfl := Option.some.inj H
                        exact ⟨_, HF, s0_129, s1_129, s4_129, s5_129, rfl⟩
                  have Ho184 := H
                  replace H := hz131
                  refine WC.region ?_
                  refine WL.ex rfl (ex_move (v := enc8 x101) s5_122) ?_
                  refine WL.ex rfl (ex_bin (a := enc8 x101) (b := enc8 (240 : UInt8)) (v := .bool (x101 == (240 : UInt8))) rfl rfl bin_eql_u8) ?_
                  refine WL.ex rfl (ex_move (v := .bool (x101 == (240 : UInt8))) rfl) ?_
                  rcases condE H with ⟨c185, H⟩ | ⟨c185, H⟩
                  ·
                    refine WL.guardYes rfl rfl rfl ((show _ = Value.bool (x101 == (240 : UInt8)) from rfl).trans (congrArg Value.bool c185)) ?_
                    refine OW.ex rfl (ex_move (v := encS a0) s0_122) ?_
                    refine WL.guardYes rfl rfl rfl ((show _ = Value.bool (x101 == (240 : UInt8)) from rfl).trans (congrArg Value.bool c185)) ?_
                    refine OW.ex rfl (ex_move (v := .int .i64 a1) s1_122) ?_
                    refine WL.guardYes rfl rfl rfl ((show _ = Value.bool (x101 == (240 : UInt8)) from rfl).trans (congrArg Value.bool c185)) ?_
                    refine OW.ex rfl (ex_bin (a := .int .i64 a1) (b := .int .i64 1) (v := .int .i64 (wrap64 (a1 + 1))) rfl rfl bin_add64) ?_
                    refine WL.guardYes rfl rfl rfl ((show _ = Value.bool (x101 == (240 : UInt8)) from rfl).trans (congrArg Value.bool c185)) ?_
                    obtain ⟨z186, hz186, H⟩ := bindE H
                    refine OW.call [encS a0, .int .i64 (wrap64 (a1 + 1)), enc8 (144 : UInt8), enc8 (191 : UInt8)] rfl Tryd.func53 (by kernel_rfl) (by kernel_rfl) (map_cons' rfl (map_cons' rfl (map_cons' rfl (map_cons' rfl rfl)))) (dictumref02_more.calls _ _ a0 (wrap64 (a1 + 1)) (144 : UInt8) (191 : UInt8) z186 (HF.ten (V := [0]) (L := []) rfl)  hz186) ?_
                    rintro _ w187 ⟨o188, rfl, s189⟩
                    refine ⟨_, rfl, ?_⟩
                    replace s189 := un_stepL (J := []) (L' := []) s189 rfl rfl
                    replace HF := HF.step s189 rfl
                    refine WL.ex rfl (ex_pick_t (v := .bool z186) ((show _ = Value.bool (x101 == (240 : UInt8)) from rfl).trans (congrArg Value.bool c185)) rfl) ?_
                    refine WL.ex rfl (ex_move (v := .bool z186) rfl) ?_
                    rcases condE H with ⟨c190, H⟩ | ⟨c190, H⟩
                    ·
                      refine WL.guardYes rfl rfl rfl ((show _ = Value.bool z186 from rfl).trans (congrArg Value.bool c190)) ?_
                      refine OW.ex rfl (ex_move (v := encS a0) s0_122) ?_
                      refine WL.guardYes rfl rfl rfl ((show _ = Value.bool z186 from rfl).trans (congrArg Value.bool c190)) ?_
                      refine OW.ex rfl (ex_move (v := .int .i64 a1) s1_122) ?_
                      refine WL.guardYes rfl rfl rfl ((show _ = Value.bool z186 from rfl).trans (congrArg Value.bool c190)) ?_
                      refine OW.ex rfl (ex_bin (a := .int .i64 a1) (b := .int .i64 2) (v := .int .i64 (wrap64 (a1 + 2))) rfl rfl bin_add64) ?_
                      refine WL.guardYes rfl rfl rfl ((show _ = Value.bool z186 from rfl).trans (congrArg Value.bool c190)) ?_
                      obtain ⟨z191, hz191, H⟩ := bindE H
                      refine OW.call [encS a0, .int .i64 (wrap64 (a1 + 2)), enc8 (128 : UInt8), enc8 (191 : UInt8)] rfl Tryd.func53 (by kernel_rfl) (by kernel_rfl) (map_cons' rfl (map_cons' rfl (map_cons' rfl (map_cons' rfl rfl)))) (dictumref02_more.calls _ _ a0 (wrap64 (a1 + 2)) (128 : UInt8) (191 : UInt8) z191 (HF.ten (V := [0]) (L := []) rfl)  hz191) ?_
                      rintro _ w192 ⟨o193, rfl, s194⟩
                      refine ⟨_, rfl, ?_⟩
                      replace s194 := un_stepL (J := []) (L' := []) s194 rfl rfl
                      replace HF := HF.step s194 rfl
                      refine WL.ex rfl (ex_pick_t (v := .bool z191) ((show _ = Value.bool z186 from rfl).trans (congrArg Value.bool c190)) rfl) ?_
                      refine WL.ex rfl (ex_move (v := .bool z191) rfl) ?_
                      rcases condE H with ⟨c195, H⟩ | ⟨c195, H⟩
                      ·
                        refine WL.guardYes rfl rfl rfl ((show _ = Value.bool z191 from rfl).trans (congrArg Value.bool c195)) ?_
                        refine OW.ex rfl (ex_move (v := encS a0) s0_122) ?_
                        refine WL.guardYes rfl rfl rfl ((show _ = Value.bool z191 from rfl).trans (congrArg Value.bool c195)) ?_
                        refine OW.ex rfl (ex_move (v := .int .i64 a1) s1_122) ?_
                        refine WL.guardYes rfl rfl rfl ((show _ = Value.bool z191 from rfl).trans (congrArg Value.bool c195)) ?_
                        refine OW.ex rfl (ex_bin (a := .int .i64 a1) (b := .int .i64 3) (v := .int .i64 (wrap64 (a1 + 3))) rfl rfl bin_add64) ?_
                        refine WL.guardYes rfl rfl rfl ((show _ = Value.bool z191 from rfl).trans (congrArg Value.bool c195)) ?_
                        obtain ⟨z196, hz196, H⟩ := bindE H
                        refine OW.call [encS a0, .int .i64 (wrap64 (a1 + 3)), enc8 (128 : UInt8), enc8 (191 : UInt8)] rfl Tryd.func53 (by kernel_rfl) (by kernel_rfl) (map_cons' rfl (map_cons' rfl (map_cons' rfl (map_cons' rfl rfl)))) (dictumref02_more.calls _ _ a0 (wrap64 (a1 + 3)) (128 : UInt8) (191 : UInt8) z196 (HF.ten (V := [0]) (L := []) rfl)  hz196) ?_
                        rintro _ w197 ⟨o198, rfl, s199⟩
                        refine ⟨_, rfl, ?_⟩
                        replace s199 := un_stepL (J := []) (L' := []) s199 rfl rfl
                        replace HF := HF.step s199 rfl
                        refine WL.ex rfl (ex_pick_t (v := .bool z196) ((show _ = Value.bool z191 from rfl).trans (congrArg Value.bool c195)) rfl) ?_
                        refine WL.ex rfl (ex_assign (v := .bool z196) rfl) ?_
                        refine WL.nil ?_
                        obtain rfl := Option.some.inj H
                        exact ⟨_, HF, s0_122, s1_122, s4_122, s5_122, rfl⟩
                      ·
                        refine WL.guardNo rfl rfl rfl ((show _ = Value.bool z191 from rfl).trans (congrArg Value.bool c195)) ?_
                        refine WL.guardNo rfl rfl rfl ((show _ = Value.bool z191 from rfl).trans (congrArg Value.bool c195)) ?_
                        refine WL.guardNo rfl rfl rfl ((show _ = Value.bool z191 from rfl).trans (congrArg Value.bool c195)) ?_
                        refine WL.guardNo rfl rfl rfl ((show _ = Value.bool z191 from rfl).trans (congrArg Value.bool c195)) ?_
                        refine WL.ex rfl (ex_pick_f (v := .bool false) ((show _ = Value.bool z191 from rfl).trans (congrArg Value.bool c195)) rfl) ?_
                        refine WL.ex rfl (ex_assign (v := .bool false) rfl) ?_
                        refine WL.nil ?_
                        obtain rfl := Option.some.inj H
                        exact ⟨_, HF, s0_122, s1_122, s4_122, s5_122, rfl⟩
                    ·
                      refine WL.guardNo rfl rfl rfl ((show _ = Value.bool z186 from rfl).trans (congrArg Value.bool c190)) ?_
                      refine WL.guardNo rfl rfl rfl ((show _ = Value.bool z186 from rfl).trans (congrArg Value.bool c190)) ?_
                      refine WL.guardNo rfl rfl rfl ((show _ = Value.bool z186 from rfl).trans (congrArg Value.bool c190)) ?_
                      refine WL.guardNo rfl rfl rfl ((show _ = Value.bool z186 from rfl).trans (congrArg Value.bool c190)) ?_
                      refine WL.ex rfl (ex_pick_f (v := .bool false) ((show _ = Value.bool z186 from rfl).trans (congrArg Value.bool c190)) rfl) ?_
                      refine WL.ex rfl (ex_move (v := .bool false) rfl) ?_
                      refine WL.guardNo rfl rfl rfl rfl ?_
                      refine WL.guardNo rfl rfl rfl rfl ?_
                      refine WL.guardNo rfl rfl rfl rfl ?_
                      refine WL.guardNo rfl rfl rfl rfl ?_
                      refine WL.ex rfl (ex_pick_f (v := .bool false) rfl rfl) ?_
                      refine WL.ex rfl (ex_assign (v := .bool false) rfl) ?_
                      refine WL.nil ?_
                      obtain rfl := Option.some.inj H
                      exact ⟨_, HF, s0_122, s1_122, s4_122, s5_122, rfl⟩
                  ·
                    refine WL.guardNo rfl rfl rfl ((show _ = Value.bool (x101 == (240 : UInt8)) from rfl).trans (congrArg Value.bool c185)) ?_
                    refine WL.guardNo rfl rfl rfl ((show _ = Value.bool (x101 == (240 : UInt8)) from rfl).trans (congrArg Value.bool c185)) ?_
                    refine WL.guardNo rfl rfl rfl ((show _ = Value.bool (x101 == (240 : UInt8)) from rfl).trans (congrArg Value.bool c185)) ?_
                    refine WL.guardNo rfl rfl rfl ((show _ = Value.bool (x101 == (240 : UInt8)) from rfl).trans (congrArg Value.bool c185)) ?_
                    refine WL.ex rfl (ex_pick_f (v := .bool false) ((show _ = Value.bool (x101 == (240 : UInt8)) from rfl).trans (congrArg Value.bool c185)) rfl) ?_
                    refine WL.ex rfl (ex_move (v := .bool false) rfl) ?_
                    refine WL.guardNo rfl rfl rfl rfl ?_
                    refine WL.guardNo rfl rfl rfl rfl ?_
                    refine WL.guardNo rfl rfl rfl rfl ?_
                    refine WL.guardNo rfl rfl rfl rfl ?_
                    refine WL.ex rfl (ex_pick_f (v := .bool false) rfl rfl) ?_
                    refine WL.ex rfl (ex_move (v := .bool false) rfl) ?_
                    refine WL.guardNo rfl rfl rfl rfl ?_
                    refine WL.guardNo rfl rfl rfl rfl ?_
                    refine WL.guardNo rfl rfl rfl rfl ?_
                    refine WL.guardNo rfl rfl rfl rfl ?_
                    refine WL.ex rfl (ex_pick_f (v := .bool false) rfl rfl) ?_
                    refine WL.ex rfl (ex_assign (v := .bool false) rfl) ?_
                    refine WL.nil ?_
                    obtain rfl := Option.some.inj H
                    exact ⟨_, HF, s0_122, s1_122, s4_122, s5_122, rfl⟩
              have Ho200 := H
              replace H := hz124
              refine WC.region ?_
              refine WL.ex rfl (ex_move (v := enc8 x101) s5_115) ?_
              refine WL.ex rfl (ex_bin (a := enc8 x101) (b := enc8 (225 : UInt8)) (v := .bool (decide ((225 : UInt8) ≤ x101))) rfl rfl bin_geq_u8) ?_
              refine WL.ex rfl (ex_move (v := .bool (decide ((225 : UInt8) ≤ x101))) rfl) ?_
              rcases condE H with ⟨c201, H⟩ | ⟨c201, H⟩
              ·
                refine WL.guardYes rfl rfl rfl ((show _ = Value.bool (decide ((225 : UInt8) ≤ x101)) from rfl).trans (congrArg Value.bool c201)) ?_
                refine OW.ex rfl (ex_move (v := enc8 x101) s5_115) ?_
                refine WL.guardYes rfl rfl rfl ((show _ = Value.bool (decide ((225 : UInt8) ≤ x101)) from rfl).trans (congrArg Value.bool c201)) ?_
                refine OW.ex rfl (ex_bin (a := enc8 x101) (b := enc8 (239 : UInt8)) (v := .bool (decide (x101 ≤ (239 : UInt8)))) rfl rfl bin_leq_u8) ?_
                refine WL.ex rfl (ex_pick_t (v := .bool (decide (x101 ≤ (239 : UInt8)))) ((show _ = Value.bool (decide ((225 : UInt8) ≤ x101)) from rfl).trans (congrArg Value.bool c201)) rfl) ?_
                refine WL.ex rfl (ex_move (v := .bool (decide (x101 ≤ (239 : UInt8)))) rfl) ?_
                rcases condE H with ⟨c202, H⟩ | ⟨c202, H⟩
                ·
                  refine WL.guardYes rfl rfl rfl ((show _ = Value.bool (decide (x101 ≤ (239 : UInt8))) from rfl).trans (congrArg Value.bool c202)) ?_
                  refine OW.ex rfl (ex_move (v := enc8 x101) s5_115) ?_
                  refine WL.guardYes rfl rfl rfl ((show _ = Value.bool (decide (x101 ≤ (239 : UInt8))) from rfl).trans (congrArg Value.bool c202)) ?_
                  refine OW.ex rfl (ex_bin (a := enc8 x101) (b := enc8 (237 : UInt8)) (v := .bool (!(x101 == (237 : UInt8)))) rfl rfl bin_neq_u8) ?_
                  refine WL.ex rfl (ex_pick_t (v := .bool (!(x101 == (237 : UInt8)))) ((show _ = Value.bool (decide (x101 ≤ (239 : UInt8))) from rfl).trans (congrArg Value.bool c202)) rfl) ?_
                  refine WL.ex rfl (ex_move (v := .bool (!(x101 == (237 : UInt8)))) rfl) ?_
                  rcases condE H with ⟨c203, H⟩ | ⟨c203, H⟩
                  ·
                    refine WL.guardYes rfl rfl rfl ((show _ = Value.bool (!(x101 == (237 : UInt8))) from rfl).trans (congrArg Value.bool c203)) ?_
                    refine OW.ex rfl (ex_move (v := encS a0) s0_115) ?_
                    refine WL.guardYes rfl rfl rfl ((show _ = Value.bool (!(x101 == (237 : UInt8))) from rfl).trans (congrArg Value.bool c203)) ?_
                    refine OW.ex rfl (ex_move (v := .int .i64 a1) s1_115) ?_
                    refine WL.guardYes rfl rfl rfl ((show _ = Value.bool (!(x101 == (237 : UInt8))) from rfl).trans (congrArg Value.bool c203)) ?_
                    refine OW.ex rfl (ex_bin (a := .int .i64 a1) (b := .int .i64 1) (v := .int .i64 (wrap64 (a1 + 1))) rfl rfl bin_add64) ?_
                    refine WL.guardYes rfl rfl rfl ((show _ = Value.bool (!(x101 == (237 : UInt8))) from rfl).trans (congrArg Value.bool c203)) ?_
                    obtain ⟨z204, hz204, H⟩ := bindE H
                    refine OW.call [encS a0, .int .i64 (wrap64 (a1 + 1)), enc8 (128 : UInt8), enc8 (191 : UInt8)] rfl Tryd.func53 (by kernel_rfl) (by kernel_rfl) (map_cons' rfl (map_cons' rfl (map_cons' rfl (map_cons' rfl rfl)))) (dictumref02_more.calls _ _ a0 (wrap64 (a1 + 1)) (128 : UInt8) (191 : UInt8) z204 (HF.ten (V := [0]) (L := []) rfl)  hz204) ?_
                    rintro _ w205 ⟨o206, rfl, s207⟩
                    refine ⟨_, rfl, ?_⟩
                    replace s207 := un_stepL (J := []) (L' := []) s207 rfl rfl
                    replace HF := HF.step s207 rfl
                    refine WL.ex rfl (ex_pick_t (v := .bool z204) ((show _ = Value.bool (!(x101 == (237 : UInt8))) from rfl).trans (congrArg Value.bool c203)) rfl) ?_
                    refine WL.ex rfl (ex_move (v := .bool z204) rfl) ?_
                    rcases condE H with ⟨c208, H⟩ | ⟨c208, H⟩
                    ·
                      refine WL.guardYes rfl rfl rfl ((show _ = Value.bool z204 from rfl).trans (congrArg Value.bool c208)) ?_
                      refine OW.ex rfl (ex_move (v := encS a0) s0_115) ?_
                      refine WL.guardYes rfl rfl rfl ((show _ = Value.bool z204 from rfl).trans (congrArg Value.bool c208)) ?_
                      refine OW.ex rfl (ex_move (v := .int .i64 a1) s1_115) ?_
                      refine WL.guardYes rfl rfl rfl ((show _ = Value.bool z204 from rfl).trans (congrArg Value.bool c208)) ?_
                      refine OW.ex rfl (ex_bin (a := .int .i64 a1) (b := .int .i64 2) (v := .int .i64 (wrap64 (a1 + 2))) rfl rfl bin_add64) ?_
                      refine WL.guardYes rfl rfl rfl ((show _ = Value.bool z204 from rfl).trans (congrArg Value.bool c208)) ?_
                      obtain ⟨z209, hz209, H⟩ := bindE H
                      refine OW.call [encS a0, .int .i64 (wrap64 (a1 + 2)), enc8 (128 : UInt8), enc8 (191 : UInt8)] rfl Tryd.func53 (by kernel_rfl) (by kernel_rfl) (map_cons' rfl (map_cons' rfl (map_cons' rfl (map_cons' rfl rfl)))) (dictumref02_more.calls _ _ a0 (wrap64 (a1 + 2)) (128 : UInt8) (191 : UInt8) z209 (HF.ten (V := [0]) (L := []) rfl)  hz209) ?_
                      rintro _ w210 ⟨o211, rfl, s212⟩
                      refine ⟨_, rfl, ?_⟩
                      replace s212 := un_stepL (J := []) (L' := []) s212 rfl rfl
                      replace HF := HF.step s212 rfl
                      refine WL.ex rfl (ex_pick_t (v := .bool z209) ((show _ = Value.bool z204 from rfl).trans (congrArg Value.bool c208)) rfl) ?_
                      refine WL.ex rfl (ex_assign (v := .bool z209) rfl) ?_
                      refine WL.nil ?_
                      obtain rfl := Option.some.inj H
                      exact ⟨_, HF, s0_115, s1_115, s4_115, s5_115, rfl⟩
                    ·
                      refine WL.guardNo rfl rfl rfl ((show _ = Value.bool z204 from rfl).trans (congrArg Value.bool c208)) ?_
                      refine WL.guardNo rfl rfl rfl ((show _ = Value.bool z204 from rfl).trans (congrArg Value.bool c208)) ?_
                      refine WL.guardNo rfl rfl rfl ((show _ = Value.bool z204 from rfl).trans (congrArg Value.bool c208)) ?_
                      refine WL.guardNo rfl rfl rfl ((show _ = Value.bool z204 from rfl).trans (congrArg Value.bool c208)) ?_
                      refine WL.ex rfl (ex_pick_f (v := .bool false) ((show _ = Value.bool z204 from rfl).trans (congrArg Value.bool c208)) rfl) ?_
                      refine WL.ex rfl (ex_assign (v := .bool false) rfl) ?_
                      refine WL.nil ?_
                      obtain rfl := Option.some.inj H
                      exact ⟨_, HF, s0_115, s1_115, s4_115, s5_115, rfl⟩
                  ·
                    refine WL.guardNo rfl rfl rfl ((show _ = Value.bool (!(x101 == (237 : UInt8))) from rfl).trans (congrArg Value.bool c203)) ?_
                    refine WL.guardNo rfl rfl rfl ((show _ = Value.bool (!(x101 == (237 : UInt8))) from rfl).trans (congrArg Value.bool c203)) ?_
                    refine WL.guardNo rfl rfl rfl ((show _ = Value.bool (!(x101 == (237 : UInt8))) from rfl).trans (congrArg Value.bool c203)) ?_
                    refine WL.guardNo rfl rfl rfl ((show _ = Value.bool (!(x101 == (237 : UInt8))) from rfl).trans (congrArg Value.bool c203)) ?_
                    refine WL.ex rfl (ex_pick_f (v := .bool false) ((show _ = Value.bool (!(x101 == (237 : UInt8))) from rfl).trans (congrArg Value.bool c203)) rfl) ?_
                    refine WL.ex rfl (ex_move (v := .bool false) rfl) ?_
                    refine WL.guardNo rfl rfl rfl rfl ?_
                    refine WL.guardNo rfl rfl rfl rfl ?_
                    refine WL.guardNo rfl rfl rfl rfl ?_
                    refine WL.guardNo rfl rfl rfl rfl ?_
                    refine WL.ex rfl (ex_pick_f (v := .bool false) rfl rfl) ?_
                    refine WL.ex rfl (ex_assign (v := .bool false) rfl) ?_
                    refine WL.nil ?_
                    obtain rfl := Option.some.inj H
                    exact ⟨_, HF, s0_115, s1_115, s4_115, s5_115, rfl⟩
                ·
                  refine WL.guardNo rfl rfl rfl ((show _ = Value.bool (decide (x101 ≤ (239 : UInt8))) from rfl).trans (congrArg Value.bool c202)) ?_
                  refine WL.guardNo rfl rfl rfl ((show _ = Value.bool (decide (x101 ≤ (239 : UInt8))) from rfl).trans (congrArg Value.bool c202)) ?_
                  refine WL.ex rfl (ex_pick_f (v := .bool false) ((show _ = Value.bool (decide (x101 ≤ (239 : UInt8))) from rfl).trans (congrArg Value.bool c202)) rfl) ?_
                  refine WL.ex rfl (ex_move (v := .bool false) rfl) ?_
                  refine WL.guardNo rfl rfl rfl rfl ?_
                  refine WL.guardNo rfl rfl rfl rfl ?_
                  refine WL.guardNo rfl rfl rfl rfl ?_
                  refine WL.guardNo rfl rfl rfl rfl ?_
                  refine WL.ex rfl (ex_pick_f (v := .bool false) rfl rfl) ?_
                  refine WL.ex rfl (ex_move (v := .bool false) rfl) ?_
                  refine WL.guardNo rfl rfl rfl rfl ?_
                  refine WL.guardNo rfl rfl rfl rfl ?_
                  refine WL.guardNo rfl rfl rfl rfl ?_
                  refine WL.guardNo rfl rfl rfl rfl ?_
                  refine WL.ex rfl (ex_pick_f (v := .bool false) rfl rfl) ?_
                  refine WL.ex rfl (ex_assign (v := .bool false) rfl) ?_
                  refine WL.nil ?_
                  obtain rfl := Option.some.inj H
                  exact ⟨_, HF, s0_115, s1_115, s4_115, s5_115, rfl⟩
              ·
                refine WL.guardNo rfl rfl rfl ((show _ = Value.bool (decide ((225 : UInt8) ≤ x101)) from rfl).trans (congrArg Value.bool c201)) ?_
                refine WL.guardNo rfl rfl rfl ((show _ = Value.bool (decide ((225 : UInt8) ≤ x101)) from rfl).trans (congrArg Value.bool c201)) ?_
                refine WL.ex rfl (ex_pick_f (v := .bool false) ((show _ = Value.bool (decide ((225 : UInt8) ≤ x101)) from rfl).trans (congrArg Value.bool c201)) rfl) ?_
                refine WL.ex rfl (ex_move (v := .bool false) rfl) ?_
                refine WL.guardNo rfl rfl rfl rfl ?_
                refine WL.guardNo rfl rfl rfl rfl ?_
                refine WL.ex rfl (ex_pick_f (v := .bool false) rfl rfl) ?_
                refine WL.ex rfl (ex_move (v := .bool false) rfl) ?_
                refine WL.guardNo rfl rfl rfl rfl ?_
                refine WL.guardNo rfl rfl rfl rfl ?_
                refine WL.guardNo rfl rfl rfl rfl ?_
                refine WL.guardNo rfl rfl rfl rfl ?_
                refine WL.ex rfl (ex_pick_f (v := .bool false) rfl rfl) ?_
                refine WL.ex rfl (ex_move (v := .bool false) rfl) ?_
                refine WL.guardNo rfl rfl rfl rfl ?_
                refine WL.guardNo rfl rfl rfl rfl ?_
                refine WL.guardNo rfl rfl rfl rfl ?_
                refine WL.guardNo rfl rfl rfl rfl ?_
                refine WL.ex rfl (ex_pick_f (v := .bool false) rfl rfl) ?_
                refine WL.ex rfl (ex_assign (v := .bool false) rfl) ?_
                refine WL.nil ?_
                obtain rfl := Option.some.inj H
                exact ⟨_, HF, s0_115, s1_115, s4_115, s5_115, rfl⟩
          have Ho213 := H
          replace H := hz117
          refine WC.region ?_
          refine WL.ex rfl (ex_move (v := enc8 x101) s5_108) ?_
          refine WL.ex rfl (ex_bin (a := enc8 x101) (b := enc8 (237 : UInt8)) (v := .bool (x101 == (237 : UInt8))) rfl rfl bin_eql_u8) ?_
          refine WL.ex rfl (ex_move (v := .bool (x101 == (237 : UInt8))) rfl) ?_
          rcases condE H with ⟨c214, H⟩ | ⟨c214, H⟩
          ·
            refine WL.guardYes rfl rfl rfl ((show _ = Value.bool (x101 == (237 : UInt8)) from rfl).trans (congrArg Value.bool c214)) ?_
            refine OW.ex rfl (ex_move (v := encS a0) s0_108) ?_
            refine WL.guardYes rfl rfl rfl ((show _ = Value.bool (x101 == (237 : UInt8)) from rfl).trans (congrArg Value.bool c214)) ?_
            refine OW.ex rfl (ex_move (v := .int .i64 a1) s1_108) ?_
            refine WL.guardYes rfl rfl rfl ((show _ = Value.bool (x101 == (237 : UInt8)) from rfl).trans (congrArg Value.bool c214)) ?_
            refine OW.ex rfl (ex_bin (a := .int .i64 a1) (b := .int .i64 1) (v := .int .i64 (wrap64 (a1 + 1))) rfl rfl bin_add64) ?_
            refine WL.guardYes rfl rfl rfl ((show _ = Value.bool (x101 == (237 : UInt8)) from rfl).trans (congrArg Value.bool c214)) ?_
            obtain ⟨z215, hz215, H⟩ := bindE H
            refine OW.call [encS a0, .int .i64 (wrap64 (a1 + 1)), enc8 (128 : UInt8), enc8 (159 : UInt8)] rfl Tryd.func53 (by kernel_rfl) (by kernel_rfl) (map_cons' rfl (map_cons' rfl (map_cons' rfl (map_cons' rfl rfl)))) (dictumref02_more.calls _ _ a0 (wrap64 (a1 + 1)) (128 : UInt8) (159 : UInt8) z215 (HF.ten (V := [0]) (L := []) rfl)  hz215) ?_
            rintro _ w216 ⟨o217, rfl, s218⟩
            refine ⟨_, rfl, ?_⟩
            replace s218 := un_stepL (J := []) (L' := []) s218 rfl rfl
            replace HF := HF.step s218 rfl
            refine WL.ex rfl (ex_pick_t (v := .bool z215) ((show _ = Value.bool (x101 == (237 : UInt8)) from rfl).trans (congrArg Value.bool c214)) rfl) ?_
            refine WL.ex rfl (ex_move (v := .bool z215) rfl) ?_
            rcases condE H with ⟨c219, H⟩ | ⟨c219, H⟩
            ·
              refine WL.guardYes rfl rfl rfl ((show _ = Value.bool z215 from rfl).trans (congrArg Value.bool c219)) ?_
              refine OW.ex rfl (ex_move (v := encS a0) s0_108) ?_
              refine WL.guardYes rfl rfl rfl ((show _ = Value.bool z215 from rfl).trans (congrArg Value.bool c219)) ?_
              refine OW.ex rfl (ex_move (v := .int .i64 a1) s1_108) ?_
              refine WL.guardYes rfl rfl rfl ((show _ = Value.bool z215 from rfl).trans (congrArg Value.bool c219)) ?_
              refine OW.ex rfl (ex_bin (a := .int .i64 a1) (b := .int .i64 2) (v := .int .i64 (wrap64 (a1 + 2))) rfl rfl bin_add64) ?_
              refine WL.guardYes rfl rfl rfl ((show _ = Value.bool z215 from rfl).trans (congrArg Value.bool c219)) ?_
              obtain ⟨z220, hz220, H⟩ := bindE H
              refine OW.call [encS a0, .int .i64 (wrap64 (a1 + 2)), enc8 (128 : UInt8), enc8 (191 : UInt8)] rfl Tryd.func53 (by kernel_rfl) (by kernel_rfl) (map_cons' rfl (map_cons' rfl (map_cons' rfl (map_cons' rfl rfl)))) (dictumref02_more.calls _ _ a0 (wrap64 (a1 + 2)) (128 : UInt8) (191 : UInt8) z220 (HF.ten (V := [0]) (L := []) rfl)  hz220) ?_
              rintro _ w221 ⟨o222, rfl, s223⟩
              refine ⟨_, rfl, ?_⟩
              replace s223 := un_stepL (J := []) (L' := []) s223 rfl rfl
              replace HF := HF.step s223 rfl
              refine WL.ex rfl (ex_pick_t (v := .bool z220) ((show _ = Value.bool z215 from rfl).trans (congrArg Value.bool c219)) rfl) ?_
              refine WL.ex rfl (ex_assign (v := .bool z220) rfl) ?_
              refine WL.nil ?_
              obtain rfl := Option.some.inj H
              exact ⟨_, HF, s0_108, s1_108, s4_108, s5_108, rfl⟩
            ·
              refine WL.guardNo rfl rfl rfl ((show _ = Value.bool z215 from rfl).trans (congrArg Value.bool c219)) ?_
              refine WL.guardNo rfl rfl rfl ((show _ = Value.bool z215 from rfl).trans (congrArg Value.bool c219)) ?_
              refine WL.guardNo rfl rfl rfl ((show _ = Value.bool z215 from rfl).trans (congrArg Value.bool c219)) ?_
              refine WL.guardNo rfl rfl rfl ((show _ = Value.bool z215 from rfl).trans (congrArg Value.bool c219)) ?_
              refine WL.ex rfl (ex_pick_f (v := .bool false) ((show _ = Value.bool z215 from rfl).trans (congrArg Value.bool c219)) rfl) ?_
              refine WL.ex rfl (ex_assign (v := .bool false) rfl) ?_
              refine WL.nil ?_
              obtain rfl := Option.some.inj H
              exact ⟨_, HF, s0_108, s1_108, s4_108, s5_108, rfl⟩
          ·
            refine WL.guardNo rfl rfl rfl ((show _ = Value.bool (x101 == (237 : UInt8)) from rfl).trans (congrArg Value.bool c214)) ?_
            refine WL.guardNo rfl rfl rfl ((show _ = Value.bool (x101 == (237 : UInt8)) from rfl).trans (congrArg Value.bool c214)) ?_
            refine WL.guardNo rfl rfl rfl ((show _ = Value.bool (x101 == (237 : UInt8)) from rfl).trans (congrArg Value.bool c214)) ?_
            refine WL.guardNo rfl rfl rfl ((show _ = Value.bool (x101 == (237 : UInt8)) from rfl).trans (congrArg Value.bool c214)) ?_
            refine WL.ex rfl (ex_pick_f (v := .bool false) ((show _ = Value.bool (x101 == (237 : UInt8)) from rfl).trans (congrArg Value.bool c214)) rfl) ?_
            refine WL.ex rfl (ex_move (v := .bool false) rfl) ?_
            refine WL.guardNo rfl rfl rfl rfl ?_
            refine WL.guardNo rfl rfl rfl rfl ?_
            refine WL.guardNo rfl rfl rfl rfl ?_
            refine WL.guardNo rfl rfl rfl rfl ?_
            refine WL.ex rfl (ex_pick_f (v := .bool false) rfl rfl) ?_
            refine WL.ex rfl (ex_assign (v := .bool false) rfl) ?_
            refine WL.nil ?_
            obtain rfl := Option.some.inj H
            exact ⟨_, HF, s0_108, s1_108, s4_108, s5_108, rfl⟩
      have Ho224 := H
      replace H := hz110
      refine WC.region ?_
      refine WL.ex rfl (ex_move (v := enc8 x101) s5_101) ?_
      refine WL.ex rfl (ex_bin (a := enc8 x101) (b := enc8 (224 : UInt8)) (v := .bool (x101 == (224 : UInt8))) rfl rfl bin_eql_u8) ?_
      refine WL.ex rfl (ex_move (v := .bool (x101 == (224 : UInt8))) rfl) ?_
      rcases condE H with ⟨c225, H⟩ | ⟨c225, H⟩
      ·
        refine WL.guardYes rfl rfl rfl ((show _ = Value.bool (x101 == (224 : UInt8)) from rfl).trans (congrArg Value.bool c225)) ?_
        refine OW.ex rfl (ex_move (v := encS a0) s0_101) ?_
        refine WL.guardYes rfl rfl rfl ((show _ = Value.bool (x101 == (224 : UInt8)) from rfl).trans (congrArg Value.bool c225)) ?_
        refine OW.ex rfl (ex_move (v := .int .i64 a1) s1_101) ?_
        refine WL.guardYes rfl rfl rfl ((show _ = Value.bool (x101 == (224 : UInt8)) from rfl).trans (congrArg Value.bool c225)) ?_
        refine OW.ex rfl (ex_bin (a := .int .i64 a1) (b := .int .i64 1) (v := .int .i64 (wrap64 (a1 + 1))) rfl rfl bin_add64) ?_
        refine WL.guardYes rfl rfl rfl ((show _ = Value.bool (x101 == (224 : UInt8)) from rfl).trans (congrArg Value.bool c225)) ?_
        obtain ⟨z226, hz226, H⟩ := bindE H
        refine OW.call [encS a0, .int .i64 (wrap64 (a1 + 1)), enc8 (160 : UInt8), enc8 (191 : UInt8)] rfl Tryd.func53 (by kernel_rfl) (by kernel_rfl) (map_cons' rfl (map_cons' rfl (map_cons' rfl (map_cons' rfl rfl)))) (dictumref02_more.calls _ _ a0 (wrap64 (a1 + 1)) (160 : UInt8) (191 : UInt8) z226 (HF.ten (V := [0]) (L := []) rfl)  hz226) ?_
        rintro _ w227 ⟨o228, rfl, s229⟩
        refine ⟨_, rfl, ?_⟩
        replace s229 := un_stepL (J := []) (L' := []) s229 rfl rfl
        replace HF := HF.step s229 rfl
        refine WL.ex rfl (ex_pick_t (v := .bool z226) ((show _ = Value.bool (x101 == (224 : UInt8)) from rfl).trans (congrArg Value.bool c225)) rfl) ?_
        refine WL.ex rfl (ex_move (v := .bool z226) rfl) ?_
        rcases condE H with ⟨c230, H⟩ | ⟨c230, H⟩
        ·
          refine WL.guardYes rfl rfl rfl ((show _ = Value.bool z226 from rfl).trans (congrArg Value.bool c230)) ?_
          refine OW.ex rfl (ex_move (v := encS a0) s0_101) ?_
          refine WL.guardYes rfl rfl rfl ((show _ = Value.bool z226 from rfl).trans (congrArg Value.bool c230)) ?_
          refine OW.ex rfl (ex_move (v := .int .i64 a1) s1_101) ?_
          refine WL.guardYes rfl rfl rfl ((show _ = Value.bool z226 from rfl).trans (congrArg Value.bool c230)) ?_
          refine OW.ex rfl (ex_bin (a := .int .i64 a1) (b := .int .i64 2) (v := .int .i64 (wrap64 (a1 + 2))) rfl rfl bin_add64) ?_
          refine WL.guardYes rfl rfl rfl ((show _ = Value.bool z226 from rfl).trans (congrArg Value.bool c230)) ?_
          obtain ⟨z231, hz231, H⟩ := bindE H
          refine OW.call [encS a0, .int .i64 (wrap64 (a1 + 2)), enc8 (128 : UInt8), enc8 (191 : UInt8)] rfl Tryd.func53 (by kernel_rfl) (by kernel_rfl) (map_cons' rfl (map_cons' rfl (map_cons' rfl (map_cons' rfl rfl)))) (dictumref02_more.calls _ _ a0 (wrap64 (a1 + 2)) (128 : UInt8) (191 : UInt8) z231 (HF.ten (V := [0]) (L := []) rfl)  hz231) ?_
          rintro _ w232 ⟨o233, rfl, s234⟩
          refine ⟨_, rfl, ?_⟩
          replace s234 := un_stepL (J := []) (L' := []) s234 rfl rfl
          replace HF := HF.step s234 rfl
          refine WL.ex rfl (ex_pick_t (v := .bool z231) ((show _ = Value.bool z226 from rfl).trans (congrArg Value.bool c230)) rfl) ?_
          refine WL.ex rfl (ex_assign (v := .bool z231) rfl) ?_
          refine WL.nil ?_
          obtain rfl := Option.some.inj H
          exact ⟨_, HF, s0_101, s1_101, s4_101, s5_101, rfl⟩
        ·
          refine WL.guardNo rfl rfl rfl ((show _ = Value.bool z226 from rfl).trans (congrArg Value.bool c230)) ?_
          refine WL.guardNo rfl rfl rfl ((show _ = Value.bool z226 from rfl).trans (congrArg Value.bool c230)) ?_
          refine WL.guardNo rfl rfl rfl ((show _ = Value.bool z226 from rfl).trans (congrArg Value.bool c230)) ?_
          refine WL.guardNo rfl rfl rfl ((show _ = Value.bool z226 from rfl).trans (congrArg Value.bool c230)) ?_
          refine WL.ex rfl (ex_pick_f (v := .bool false) ((show _ = Value.bool z226 from rfl).trans (congrArg Value.bool c230)) rfl) ?_
          refine WL.ex rfl (ex_assign (v := .bool false) rfl) ?_
          refine WL.nil ?_
          obtain rfl := Option.some.inj H
          exact ⟨_, HF, s0_101, s1_101, s4_101, s5_101, rfl⟩
      ·
        refine WL.guardNo rfl rfl rfl ((show _ = Value.bool (x101 == (224 : UInt8)) from rfl).trans (congrArg Value.bool c225)) ?_
        refine WL.guardNo rfl rfl rfl ((show _ = Value.bool (x101 == (224 : UInt8)) from rfl).trans (congrArg Value.bool c225)) ?_
        refine WL.guardNo rfl rfl rfl ((show _ = Value.bool (x101 == (224 : UInt8)) from rfl).trans (congrArg Value.bool c225)) ?_
        refine WL.guardNo rfl rfl rfl ((show _ = Value.bool (x101 == (224 : UInt8)) from rfl).trans (congrArg Value.bool c225)) ?_
        refine WL.ex rfl (ex_pick_f (v := .bool false) ((show _ = Value.bool (x101 == (224 : UInt8)) from rfl).trans (congrArg Value.bool c225)) rfl) ?_
        refine WL.ex rfl (ex_move (v := .bool false) rfl) ?_
        refine WL.guardNo rfl rfl rfl rfl ?_
        refine WL.guardNo rfl rfl rfl rfl ?_
        refine WL.guardNo rfl rfl rfl rfl ?_
        refine WL.guardNo rfl rfl rfl rfl ?_
        refine WL.ex rfl (ex_pick_f (v := .bool false) rfl rfl) ?_
        refine WL.ex rfl (ex_assign (v := .bool false) rfl) ?_
        refine WL.nil ?_
        obtain rfl := Option.some.inj H
        exact ⟨_, HF, s0_101, s1_101, s4_101, s5_101, rfl⟩
  have Ho235 := H
  replace H := hz103
  refine WC.region ?_
  refine WL.ex rfl (ex_move (v := enc8 x101) rfl) ?_
  refine WL.ex rfl (ex_bin (a := enc8 x101) (b := enc8 (194 : UInt8)) (v := .bool (decide ((194 : UInt8) ≤ x101))) rfl rfl bin_geq_u8) ?_
  refine WL.ex rfl (ex_move (v := .bool (decide ((194 : UInt8) ≤ x101))) rfl) ?_
  rcases condE H with ⟨c236, H⟩ | ⟨c236, H⟩
  ·
    refine WL.guardYes rfl rfl rfl ((show _ = Value.bool (decide ((194 : UInt8) ≤ x101)) from rfl).trans (congrArg Value.bool c236)) ?_
    refine OW.ex rfl (ex_move (v := enc8 x101) rfl) ?_
    refine WL.guardYes rfl rfl rfl ((show _ = Value.bool (decide ((194 : UInt8) ≤ x101)) from rfl).trans (congrArg Value.bool c236)) ?_
    refine OW.ex rfl (ex_bin (a := enc8 x101) (b := enc8 (223 : UInt8)) (v := .bool (decide (x101 ≤ (223 : UInt8)))) rfl rfl bin_leq_u8) ?_
    refine WL.ex rfl (ex_pick_t (v := .bool (decide (x101 ≤ (223 : UInt8)))) ((show _ = Value.bool (decide ((194 : UInt8) ≤ x101)) from rfl).trans (congrArg Value.bool c236)) rfl) ?_
    refine WL.ex rfl (ex_move (v := .bool (decide (x101 ≤ (223 : UInt8)))) rfl) ?_
    rcases condE H with ⟨c237, H⟩ | ⟨c237, H⟩
    ·
      refine WL.guardYes rfl rfl rfl ((show _ = Value.bool (decide (x101 ≤ (223 : UInt8))) from rfl).trans (congrArg Value.bool c237)) ?_
      refine OW.ex rfl (ex_move (v := encS a0) rfl) ?_
      refine WL.guardYes rfl rfl rfl ((show _ = Value.bool (decide (x101 ≤ (223 : UInt8))) from rfl).trans (congrArg Value.bool c237)) ?_
      refine OW.ex rfl (ex_move (v := .int .i64 a1) rfl) ?_
      refine WL.guardYes rfl rfl rfl ((show _ = Value.bool (decide (x101 ≤ (223 : UInt8))) from rfl).trans (congrArg Value.bool c237)) ?_
      refine OW.ex rfl (ex_bin (a := .int .i64 a1) (b := .int .i64 1) (v := .int .i64 (wrap64 (a1 + 1))) rfl rfl bin_add64) ?_
      refine WL.guardYes rfl rfl rfl ((show _ = Value.bool (decide (x101 ≤ (223 : UInt8))) from rfl).trans (congrArg Value.bool c237)) ?_
      obtain ⟨z238, hz238, H⟩ := bindE H
      refine OW.call [encS a0, .int .i64 (wrap64 (a1 + 1)), enc8 (128 : UInt8), enc8 (191 : UInt8)] rfl Tryd.func53 (by kernel_rfl) (by kernel_rfl) (map_cons' rfl (map_cons' rfl (map_cons' rfl (map_cons' rfl rfl)))) (dictumref02_more.calls _ _ a0 (wrap64 (a1 + 1)) (128 : UInt8) (191 : UInt8) z238 (HF.ten (V := [0]) (L := []) rfl)  hz238) ?_
      rintro _ w239 ⟨o240, rfl, s241⟩
      refine ⟨_, rfl, ?_⟩
      replace s241 := un_stepL (J := []) (L' := []) s241 rfl rfl
      replace HF := HF.step s241 rfl
      refine WL.ex rfl (ex_pick_t (v := .bool z238) ((show _ = Value.bool (decide (x101 ≤ (223 : UInt8))) from rfl).trans (congrArg Value.bool c237)) rfl) ?_
      refine WL.ex rfl (ex_assign (v := .bool z238) rfl) ?_
      refine WL.nil ?_
      obtain rfl := Option.some.inj H
      exact ⟨_, HF, rfl, rfl, rfl, rfl, rfl⟩
    ·
      refine WL.guardNo rfl rfl rfl ((show _ = Value.bool (decide (x101 ≤ (223 : UInt8))) from rfl).trans (congrArg Value.bool c237)) ?_
      refine WL.guardNo rfl rfl rfl ((show _ = Value.bool (decide (x101 ≤ (223 : UInt8))) from rfl).trans (congrArg Value.bool c237)) ?_
      refine WL.guardNo rfl rfl rfl ((show _ = Value.bool (decide (x101 ≤ (223 : UInt8))) from rfl).trans (congrArg Value.bool c237)) ?_
      refine WL.guardNo rfl rfl rfl ((show _ = Value.bool (decide (x101 ≤ (223 : UInt8))) from rfl).trans (congrArg Value.bool c237)) ?_
      refine WL.ex rfl (ex_pick_f (v := .bool false) ((show _ = Value.bool (decide (x101 ≤ (223 : UInt8))) from rfl).trans (congrArg Value.bool c237)) rfl) ?_
      refine WL.ex rfl (ex_assign (v := .bool false) rfl) ?_
      refine WL.nil ?_
      obtain rfl := Option.some.inj H
      exact ⟨_, HF, rfl, rfl, rfl, rfl, rfl⟩
  ·
    refine WL.guardNo rfl rfl rfl ((show _ = Value.bool (decide ((194 : UInt8) ≤ x101)) from rfl).trans (congrArg Value.bool c236)) ?_
    refine WL.guardNo rfl rfl rfl ((show _ = Value.bool (decide ((194 : UInt8) ≤ x101)) from rfl).trans (congrArg Value.bool c236)) ?_
    refine WL.ex rfl (ex_pick_f (v := .bool false) ((show _ = Value.bool (decide ((194 : UInt8) ≤ x101)) from rfl).trans (congrArg Value.bool c236)) rfl) ?_
    refine WL.ex rfl (ex_move (v := .bool false) rfl) ?_
    refine WL.guardNo rfl rfl rfl rfl ?_
    refine WL.guardNo rfl rfl rfl rfl ?_
    refine WL.guardNo rfl rfl rfl rfl ?_
    refine WL.guardNo rfl rfl rfl rfl ?_
    refine WL.ex rfl (ex_pick_f (v := .bool false) rfl rfl) ?_
    refine WL.ex rfl (ex_assign (v := .bool false) rfl) ?_
    refine WL.nil ?_
    obtain rfl := Option.some.inj H
    exact ⟨_, HF, rfl, rfl, rfl, rfl, rfl⟩

/-! ### dictumref02_on -/
set_option maxRecDepth 100000 in
theorem dictumref02_on.calls (k : Nat) (o0 : Tags) (w0 : World) (a0 : List UInt8) (a1 : T_api_Spot) (a2 : Int) (r : T_api_Spot) (hO : ∀ b, b < w0.heap.size → o0 b < 10) (H : dictumref02_on.f k a0 a1 a2 = some r) :
    Calls Tryd.prog 23 [encS a0, .agg #[.int .i64 a1.f_Line, .int .i64 a1.f_Col, .int .i64 a1.f_Off], .int .i64 a2].toArray w0 fun e_ w_ => ∃ (o_ : Tags), e_ = .returned (one [.agg #[.int .i64 r.f_Line, .int .i64 r.f_Col, .int .i64 r.f_Off]]) ∧ Step o0 w0 o_ w_ [] := by
  have HF := Fm.refl hO []
  unfold dictumref02_on.f at H
  refine SX.calls [encS a0, .agg #[.int .i64 a1.f_Line, .int .i64 a1.f_Col, .int .i64 a1.f_Off], .int .i64 a2] Tryd.func23 rfl rfl ?_
  rw [Tryd.ntmps23]
  refine WC.seq ?_
  refine WC.region ?_
  refine WL.op rfl ?_
  refine OW.box' [.int .i64 a1.f_Line, .int .i64 a1.f_Col, .int .i64 a1.f_Off] 10 HF rfl ((congrArg Value.cells (show ev _ _ = (.agg #[.int .i64 a1.f_Line, .int .i64 a1.f_Col, .int .i64 a1.f_Off] : Value) from rfl)).trans rfl) ?_
  intro o102 w103 b101 s104 hB105
  replace HF := HF.step s104 rfl
  refine WL.op rfl ?_
  refine OW.alloc' [.int .i64 (0 : Int), .int .i64 (0 : Int), .int .i64 (0 : Int)] 11 HF rfl zr23 rfl ?_
  intro o107 w108 b106 s109 hB110
  replace hB105 := hB105.step s109 rfl
  replace HF := HF.step s109 rfl
  refine WL.nil ?_
  refine WC.seq ?_
  refine WC.seq ?_
  refine WC.region ?_
  refine WL.ex rfl (ex_fieldAddr rfl Tryd.underlying23 rfl sz3) ?_
  refine WL.ex rfl (ex_load1 (v := .int .i64 a1.f_Off) rfl Tryd.underlying3 rfl (hB105.cell rfl)) ?_
  refine WL.ex rfl (ex_assign (v := .int .i64 a1.f_Off) rfl) ?_
  refine WL.nil ?_
  obtain ⟨z114, hz114, H⟩ := bindE H
  refine WC.for (fun k_ ρ_ w_ => ∃ (o_ : Tags) (x111 : Int) (x112 : T_api_Spot), Fm o0 w0 o_ w_ [] ∧ Bk o_ w_ 10 b101 [.int .i64 x112.f_Line, .int .i64 x112.f_Col, .int .i64 x112.f_Off] 23 ∧ Bk o_ w_ 11 b106 [.int .i64 (0 : Int), .int .i64 (0 : Int), .int .i64 (0 : Int)] 23 ∧ ρ_ 0 = encS a0 ∧ ρ_ 2 = .int .i64 a2 ∧ ρ_ 4 = .pointer (some ⟨b101, 0, none⟩) ∧ ρ_ 6 = .pointer (some ⟨b106, 0, none⟩) ∧ ρ_ 7 = .int .i64 x111 ∧ dictumref02_on.l1 k a0 a2 k_ x111 x112 = some z114) k (fun ρ_ w_ => ∃ (o_ : Tags), Fm o0 w0 o_ w_ [] ∧ Bk o_ w_ 10 b101 [.int .i64 z114.f_Line, .int .i64 z114.f_Col, .int .i64 z114.f_Off] 23 ∧ Bk o_ w_ 11 b106 [.int .i64 (0 : Int), .int .i64 (0 : Int), .int .i64 (0 : Int)] 23 ∧ ρ_ 2 = .int .i64 a2 ∧ ρ_ 4 = .pointer (some ⟨b101, 0, none⟩) ∧ ρ_ 6 = .pointer (some ⟨b106, 0, none⟩)) ⟨_, a1.f_Off, (⟨a1.f_Line, a1.f_Col, a1.f_Off⟩ : T_api_Spot), HF, hB105, hB110, rfl, rfl, rfl, rfl, rfl, hz114⟩ ?case115 ?_
  case case115 =>
    rintro ρ146 w144 ⟨o145, HF, hB105, hB110, s2_112, s4_112, s6_112⟩
    refine WC.seq ?_
    refine WC.region ?_
    refine WL.ex rfl (ex_move (v := .int .i64 a2) s2_112) ?_
    refine WL.ex rfl (ex_fieldAddr s4_112 Tryd.underlying23 rfl sz3) ?_
    refine WL.op rfl ?_
    refine OW.store [.int .i64 z114.f_Line, .int .i64 z114.f_Col, .int .i64 a2] rfl (vs := [.int .i64 a2]) ((congrArg Value.cells (show ev _ _ = (.int .i64 a2 : Value) from rfl)).trans rfl) sz3 hB105 (Nat.le_of_ble_eq_true rfl) (by intro u_ hu_; simp only [List.mem_cons, List.not_mem_nil, or_false] at hu_; rcases hu_ with rfl; first | rfl) rfl ?_
    intro w147 s148 hB149
    replace hB110 := hB110.step s148 rfl
    replace HF := HF.step s148 rfl
    refine WL.nil ?_
    refine WC.seq ?_
    refine WC.region ?_
    refine WL.ex rfl (ex_loadN (cs := [.int .i64 z114.f_Line, .int .i64 z114.f_Col, .int .i64 a2]) s4_112 Tryd.underlying23 rfl sz23 (hB149.cells rfl)) ?_
    refine WL.op rfl ?_
    refine OW.store [.int .i64 z114.f_Line, .int .i64 z114.f_Col, .int .i64 a2] s6_112 (vs := [.int .i64 z114.f_Line, .int .i64 z114.f_Col, .int .i64 a2]) ((congrArg Value.cells (show ev _ _ = (.agg #[.int .i64 z114.f_Line, .int .i64 z114.f_Col, .int .i64 a2] : Value) from rfl)).trans rfl) sz23 hB110 (Nat.le_of_ble_eq_true rfl) (by intro u_ hu_; simp only [List.mem_cons, List.not_mem_nil, or_false] at hu_; rcases hu_ with rfl | rfl | rfl <;> first | rfl) rfl ?_
    intro w150 s151 hB152
    replace hB149 := hB149.step s151 rfl
    replace HF := HF.step s151 rfl
    refine WL.nil ?_
    refine WC.ret ?_
    obtain rfl := Option.some.inj H
    exact ⟨_, (.cell (.agg #[.int .i64 z114.f_Line, .int .i64 z114.f_Col, .int .i64 a2] : Value) s6_112 (run_loadN (cs := [.int .i64 z114.f_Line, .int .i64 z114.f_Col, .int .i64 a2]) Tryd.underlying23 rfl sz23 (hB152.cells rfl)) .nil), _, rfl, HF.out⟩
  have Ho116 := H
  rintro k117 ρ118 w119 ⟨o120, x111, x112, HF, hB105, hB110, s0_110, s2_110, s4_110, s6_110, s7_111, H⟩
  cases k117 with
  | zero => cases H
  | succ k117 =>
  rw [dictumref02_on.l1.eq_2] at H
  refine WC.seq ?_
  refine WC.seq ?_
  refine WC.region ?_
  refine WL.ex rfl (ex_move (v := .int .i64 x111) s7_111) ?_
  refine WL.ex rfl (ex_move (v := .int .i64 a2) s2_110) ?_
  refine WL.ex rfl (ex_bin (a := .int .i64 x111) (b := .int .i64 a2) (v := .bool (decide (x111 < a2))) rfl rfl bin_lss) ?_
  refine WL.nil ?_
  rcases condE H with ⟨c121, H⟩ | ⟨c121, H⟩
  ·
    refine WC.cond_t ((show _ = Value.bool (decide (x111 < a2)) from rfl).trans (congrArg Value.bool c121)) ?_
    refine WC.skip ?_
    obtain ⟨z123, hz123, H⟩ := bindE H
    refine WC.cut (fun ρ_ w_ => ∃ (o_ : Tags), Fm o0 w0 o_ w_ [] ∧ Bk o_ w_ 10 b101 [.int .i64 z123.f_Line, .int .i64 z123.f_Col, .int .i64 z123.f_Off] 23 ∧ Bk o_ w_ 11 b106 [.int .i64 (0 : Int), .int .i64 (0 : Int), .int .i64 (0 : Int)] 23 ∧ ρ_ 0 = encS a0 ∧ ρ_ 2 = .int .i64 a2 ∧ ρ_ 4 = .pointer (some ⟨b101, 0, none⟩) ∧ ρ_ 6 = .pointer (some ⟨b106, 0, none⟩) ∧ ρ_ 7 = .int .i64 x111) ?case124 ?_
    case case124 =>
      rintro ρ127 w125 ⟨o126, HF, hB132, hB110, s0_121, s2_121, s4_121, s6_121, s7_121⟩
      refine WC.region ?_
      refine WL.ex rfl (ex_move (v := .int .i64 x111) s7_121) ?_
      refine WL.ex rfl (ex_move (v := encS a0) s0_121) ?_
      refine WL.ex rfl (ex_move (v := .int .i64 x111) s7_121) ?_
      obtain ⟨z128, hz128, H⟩ := bindE H
      refine WL.op rfl ?_
      refine OW.call [encS a0, .int .i64 x111] rfl Tryd.func35 (by kernel_rfl) (by kernel_rfl) (map_cons' rfl (map_cons' rfl rfl)) (dictumref02_size.calls _ _ a0 x111 z128 (HF.ten (V := [0]) (L := []) rfl)  hz128) ?_
      rintro _ w129 ⟨o130, rfl, s131⟩
      refine ⟨_, rfl, ?_⟩
      replace s131 := un_stepL (J := []) (L' := []) s131 rfl rfl
      replace hB132 := hB132.step s131 rfl
      replace hB110 := hB110.step s131 rfl
      replace HF := HF.step s131 rfl
      refine WL.ex rfl (ex_bin (a := .int .i64 x111) (b := .int .i64 z128) (v := .int .i64 (wrap64 (x111 + z128))) rfl rfl bin_add64) ?_
      refine WL.ex rfl (ex_assign (v := .int .i64 (wrap64 (x111 + z128))) rfl) ?_
      refine WL.nil ?_
      exact ⟨k117, Nat.lt_succ_self _, ⟨_, wrap64 (x111 + z128), z123, HF, hB132, hB110, s0_121, s2_121, s4_121, s6_121, rfl, H⟩⟩
    have Ho132 := H
    replace H := hz123
    refine WC.block ?_
    refine WC.seq ?_
    refine WC.region ?_
    refine WL.ex rfl (ex_fieldAddr s4_110 Tryd.underlying23 rfl sz3) ?_
    refine WL.ex rfl (ex_load1 (v := .int .i64 x112.f_Col) rfl Tryd.underlying3 rfl (hB105.cell rfl)) ?_
    refine WL.ex rfl (ex_bin (a := .int .i64 x112.f_Col) (b := .int .i64 1) (v := .int .i64 (wrap64 (x112.f_Col + 1))) rfl rfl bin_add64) ?_
    refine WL.ex rfl (ex_fieldAddr s4_110 Tryd.underlying23 rfl sz3) ?_
    refine WL.op rfl ?_
    refine OW.store [.int .i64 x112.f_Line, .int .i64 (wrap64 (x112.f_Col + 1)), .int .i64 x112.f_Off] rfl (vs := [.int .i64 (wrap64 (x112.f_Col + 1))]) ((congrArg Value.cells (show ev _ _ = (.int .i64 (wrap64 (x112.f_Col + 1)) : Value) from rfl)).trans rfl) sz3 hB105 (Nat.le_of_ble_eq_true rfl) (by intro u_ hu_; simp only [List.mem_cons, List.not_mem_nil, or_false] at hu_; rcases hu_ with rfl; first | rfl) rfl ?_
    intro w133 s134 hB135
    replace hB110 := hB110.step s134 rfl
    replace HF := HF.step s134 rfl
    refine WL.nil ?_
    refine WC.seq ?_
    refine WC.region ?_
    refine WL.ex rfl (ex_move (v := encS a0) s0_110) ?_
    refine WL.ex rfl (ex_move (v := .int .i64 x111) s7_111) ?_
    obtain ⟨x136, hx136, H⟩ := bindE H
    refine WL.ex rfl (ex_index_str (i := x111) rfl rfl Tryd.underlying9 (ix_some hx136).1 (ix_some hx136).2.2) ?_
    refine WL.ex rfl (ex_bin (a := enc8 x136) (b := enc8 (10 : UInt8)) (v := .bool (x136 == (10 : UInt8))) rfl rfl bin_eql_u8) ?_
    refine WL.nil ?_
    rcases condE H with ⟨c137, H⟩ | ⟨c137, H⟩
    ·
      refine WC.cond_t ((show _ = Value.bool (x136 == (10 : UInt8)) from rfl).trans (congrArg Value.bool c137)) ?_
      refine WC.seq ?_
      refine WC.region ?_
      refine WL.ex rfl (ex_fieldAddr s4_110 Tryd.underlying23 rfl sz3) ?_
      refine WL.ex rfl (ex_load1 (v := .int .i64 x112.f_Line) rfl Tryd.underlying3 rfl (hB135.cell rfl)) ?_
      refine WL.ex rfl (ex_bin (a := .int .i64 x112.f_Line) (b := .int .i64 1) (v := .int .i64 (wrap64 (x112.f_Line + 1))) rfl rfl bin_add64) ?_
      refine WL.ex rfl (ex_fieldAddr s4_110 Tryd.underlying23 rfl sz3) ?_
      refine WL.op rfl ?_
      refine OW.store [.int .i64 (wrap64 (x112.f_Line + 1)), .int .i64 (wrap64 (x112.f_Col + 1)), .int .i64 x112.f_Off] rfl (vs := [.int .i64 (wrap64 (x112.f_Line + 1))]) ((congrArg Value.cells (show ev _ _ = (.int .i64 (wrap64 (x112.f_Line + 1)) : Value) from rfl)).trans rfl) sz3 hB135 (Nat.le_of_ble_eq_true rfl) (by intro u_ hu_; simp only [List.mem_cons, List.not_mem_nil, or_false] at hu_; rcases hu_ with rfl; first | rfl) rfl ?_
      intro w138 s139 hB140
      replace hB110 := hB110.step s139 rfl
      replace HF := HF.step s139 rfl
      refine WL.nil ?_
      refine WC.region ?_
      refine WL.ex rfl (ex_fieldAddr s4_110 Tryd.underlying23 rfl sz3) ?_
      refine WL.op rfl ?_
      refine OW.store [.int .i64 (wrap64 (x112.f_Line + 1)), .int .i64 1, .int .i64 x112.f_Off] rfl (vs := [.int .i64 1]) ((congrArg Value.cells (show ev _ _ = (.int .i64 1 : Value) from rfl)).trans rfl) sz3 hB140 (Nat.le_of_ble_eq_true rfl) (by intro u_ hu_; simp only [List.mem_cons, List.not_mem_nil, or_false] at hu_; rcases hu_ with rfl; first | rfl) rfl ?_
      intro w141 s142 hB143
      replace hB110 := hB110.step s142 rfl
      replace HF := HF.step s142 rfl
      refine WL.nil ?_
      obtain rfl := Option.some.inj H
      exact ⟨_, HF, hB143, hB110, s0_110, s2_110, s4_110, s6_110, s7_111⟩
    ·
      refine WC.cond_f ((show _ = Value.bool (x136 == (10 : UInt8)) from rfl).trans (congrArg Value.bool c137)) ?_
      refine WC.skip ?_
      obtain rfl := Option.some.inj H
      exact ⟨_, HF, hB135, hB110, s0_110, s2_110, s4_110, s6_110, s7_111⟩
  ·
    refine WC.cond_f ((show _ = Value.bool (decide (x111 < a2)) from rfl).trans (congrArg Value.bool c121)) ?_
    refine WC.exit ?_
    obtain rfl := Option.some.inj H
    exact ⟨_, HF, hB105, hB110, s2_110, s4_110, s6_110⟩

/-! ### dictumref02_At -/
set_option maxRecDepth 100000 in
theorem dictumref02_At.calls (k : Nat) (o0 : Tags) (w0 : World) (a0 : List UInt8) (a1 : Int) (r : T_api_Spot) (hO : ∀ b, b < w0.heap.size → o0 b < 10) (H : dictumref02_At.f k a0 a1 = some r) :
    Calls Tryd.prog 10 [encS a0, .int .i64 a1].toArray w0 fun e_ w_ => ∃ (o_ : Tags), e_ = .returned (one [.agg #[.int .i64 r.f_Line, .int .i64 r.f_Col, .int .i64 r.f_Off]]) ∧ Step o0 w0 o_ w_ [] := by
  have HF := Fm.refl hO []
  unfold dictumref02_At.f at H
  refine SX.calls [encS a0, .int .i64 a1] Tryd.func10 rfl rfl ?_
  rw [Tryd.ntmps10]
  refine WC.seq ?_
  refine WC.region ?_
  refine WL.op rfl ?_
  refine OW.alloc' [.int .i64 (0 : Int), .int .i64 (0 : Int), .int .i64 (0 : Int)] 10 HF rfl zr23 rfl ?_
  intro o102 w103 b101 s104 hB105
  replace HF := HF.step s104 rfl
  refine WL.nil ?_
  obtain ⟨z107, hz107, H⟩ := bindE H
  refine WC.cut (fun ρ_ w_ => ∃ (o_ : Tags), Fm o0 w0 o_ w_ [] ∧ Bk o_ w_ 10 b101 [.int .i64 (0 : Int), .int .i64 (0 : Int), .int .i64 (0 : Int)] 23 ∧ ρ_ 0 = encS a0 ∧ ρ_ 1 = .int .i64 z107 ∧ ρ_ 4 = .pointer (some ⟨b101, 0, none⟩)) ?case108 ?_
  case case108 =>
    rintro ρ111 w109 ⟨o110, HF, hB105, s0_105, s1_106, s4_106⟩
    obtain ⟨z113, hz113, H⟩ := bindE H
    refine WC.cut (fun ρ_ w_ => ∃ (o_ : Tags), Fm o0 w0 o_ w_ [] ∧ Bk o_ w_ 10 b101 [.int .i64 (0 : Int), .int .i64 (0 : Int), .int .i64 (0 : Int)] 23 ∧ ρ_ 0 = encS a0 ∧ ρ_ 1 = .int .i64 z113 ∧ ρ_ 4 = .pointer (some ⟨b101, 0, none⟩)) ?case114 ?_
    case case114 =>
      rintro ρ117 w115 ⟨o116, HF, hB105, s0_111, s1_112, s4_112⟩
      refine WC.seq ?_
      refine WC.region ?_
      refine WL.ex rfl (ex_move (v := encS a0) s0_111) ?_
      refine WL.ex rfl (ex_build (cs := [.int .i64 1, .int .i64 1, .int .i64 (0 : Int)]) [(0, 1), (1, 1), (2, 1)] [(0, .int .i64 1), (1, .int .i64 1)] [.int .i64 0, .int .i64 0, .int .i64 0] Tryd.underlying23 zr23 rfl (by kernel_rfl) (evs_cons rfl (evs_cons rfl rfl)) rfl) ?_
      refine WL.ex rfl (ex_move (v := .int .i64 z113) s1_112) ?_
      obtain ⟨z118, hz118, H⟩ := bindE H
      refine WL.op rfl ?_
      refine OW.call [encS a0, .agg #[.int .i64 1, .int .i64 1, .int .i64 (0 : Int)], .int .i64 z113] rfl Tryd.func23 (by kernel_rfl) (by kernel_rfl) (map_cons' rfl (map_cons' rfl (map_cons' rfl rfl))) (dictumref02_on.calls k _ _ a0 (⟨1, 1, (0 : Int)⟩ : T_api_Spot) z113 z118 (HF.ten (V := [0]) (L := []) rfl)  hz118) ?_
      rintro _ w119 ⟨o120, rfl, s121⟩
      refine ⟨_, rfl, ?_⟩
      replace s121 := un_stepL (J := []) (L' := []) s121 rfl rfl
      replace hB105 := hB105.step s121 rfl
      replace HF := HF.step s121 rfl
      refine WL.op rfl ?_
      refine OW.store [.int .i64 z118.f_Line, .int .i64 z118.f_Col, .int .i64 z118.f_Off] s4_112 (vs := [.int .i64 z118.f_Line, .int .i64 z118.f_Col, .int .i64 z118.f_Off]) ((congrArg Value.cells (show ev _ _ = (.agg #[.int .i64 z118.f_Line, .int .i64 z118.f_Col, .int .i64 z118.f_Off] : Value) from rfl)).trans rfl) sz23 hB105 (Nat.le_of_ble_eq_true rfl) (by intro u_ hu_; simp only [List.mem_cons, List.not_mem_nil, or_false] at hu_; rcases hu_ with rfl | rfl | rfl <;> first | rfl) rfl ?_
      intro w122 s123 hB124
      replace HF := HF.step s123 rfl
      refine WL.nil ?_
      refine WC.ret ?_
      obtain rfl := Option.some.inj H
      exact ⟨_, (.cell (.agg #[.int .i64 z118.f_Line, .int .i64 z118.f_Col, .int .i64 z118.f_Off] : Value) s4_112 (run_loadN (cs := [.int .i64 z118.f_Line, .int .i64 z118.f_Col, .int .i64 z118.f_Off]) Tryd.underlying23 rfl sz23 (hB124.cells rfl)) .nil), _, rfl, HF.out⟩
    have Ho125 := H
    replace H := hz113
    refine WC.seq ?_
    refine WC.region ?_
    refine WL.ex rfl (ex_move (v := .int .i64 z107) s1_106) ?_
    refine WL.ex rfl (ex_move (v := encS a0) s0_105) ?_
    refine WL.ex rfl (ex_len_str (s := a0) rfl Tryd.underlying9) ?_
    refine WL.ex rfl (ex_bin (a := .int .i64 z107) (b := .int .i64 (a0.length : Int)) (v := .bool (decide (z107 > (a0.length : Int)))) rfl rfl bin_gtr) ?_
    refine WL.nil ?_
    rcases condE H with ⟨c126, H⟩ | ⟨c126, H⟩
    ·
      refine WC.cond_t ((show _ = Value.bool (decide (z107 > (a0.length : Int))) from rfl).trans (congrArg Value.bool c126)) ?_
      refine WC.region ?_
      refine WL.ex rfl (ex_move (v := encS a0) s0_105) ?_
      refine WL.ex rfl (ex_len_str (s := a0) rfl Tryd.underlying9) ?_
      refine WL.ex rfl (ex_assign (v := .int .i64 (a0.length : Int)) rfl) ?_
      refine WL.nil ?_
      obtain rfl := Option.some.inj H
      exact ⟨_, HF, hB105, s0_105, rfl, s4_106⟩
    ·
      refine WC.cond_f ((show _ = Value.bool (decide (z107 > (a0.length : Int))) from rfl).trans (congrArg Value.bool c126)) ?_
      refine WC.skip ?_
      obtain rfl := Option.some.inj H
      exact ⟨_, HF, hB105, s0_105, s1_106, s4_106⟩
  have Ho127 := H
  replace H := hz107
  refine WC.seq ?_
  refine WC.region ?_
  refine WL.ex rfl (ex_move (v := .int .i64 a1) rfl) ?_
  refine WL.ex rfl (ex_bin (a := .int .i64 a1) (b := .int .i64 0) (v := .bool (decide (a1 < 0))) rfl rfl bin_lss) ?_
  refine WL.nil ?_
  rcases condE H with ⟨c128, H⟩ | ⟨c128, H⟩
  ·
    refine WC.cond_t ((show _ = Value.bool (decide (a1 < 0)) from rfl).trans (congrArg Value.bool c128)) ?_
    refine WC.region ?_
    refine WL.ex rfl (ex_assign (v := .int .i64 0) rfl) ?_
    refine WL.nil ?_
    obtain rfl := Option.some.inj H
    exact ⟨_, HF, hB105, rfl, rfl, rfl⟩
  ·
    refine WC.cond_f ((show _ = Value.bool (decide (a1 < 0)) from rfl).trans (congrArg Value.bool c128)) ?_
    refine WC.skip ?_
    obtain rfl := Option.some.inj H
    exact ⟨_, HF, hB105, rfl, rfl, rfl⟩

/-! ### token_cursor_here -/
set_option maxRecDepth 100000 in
theorem token_cursor_here.calls (o0 : Tags) (w0 : World) (pb0 : Nat) (a0 : T_token_cursor) (r : (List UInt8)) (hO : ∀ b, b < w0.heap.size → o0 b < 10) (hB0 : Bk o0 w0 2 pb0 [encS a0.f_s, .int .i64 a0.f_at.f_Line, .int .i64 a0.f_at.f_Col, .int .i64 a0.f_at.f_Off] 55) (H : token_cursor_here.f a0 = some r) :
    Calls Tryd.prog 27 [.pointer (some ⟨pb0, 0, none⟩)].toArray w0 fun e_ w_ => ∃ (o_ : Tags), e_ = .returned (one [encS r]) ∧ Step o0 w0 o_ w_ [] := by
  have HF := Fm.refl hO []
  unfold token_cursor_here.f at H
  refine SX.calls [.pointer (some ⟨pb0, 0, none⟩)] Tryd.func27 rfl rfl ?_
  rw [Tryd.ntmps27]
  refine WC.seq ?_
  refine WC.region ?_
  refine WL.ex rfl (ex_assign (v := encS ([] : List UInt8)) rfl) ?_
  refine WL.nil ?_
  refine WC.seq ?_
  refine WC.regionD' HF [] 11 (by kernel_rfl) rfl ?_
  intro w101 s102
  replace hB0 := hB0.step s102 rfl
  replace HF := HF.step s102 rfl
  have hB0D := hB0
  have sR := HF.here []
  refine WA.norm (listed' := #[false, false, false, false, false, false, false, false, false, false, false]) (by kernel_rfl) ?_
  refine WA.ex 0 rfl (by kernel_rfl) (by kernel_rfl) (by kernel_rfl) rfl ⟨_, sR⟩ (fun w_ hS_ => ex_move (v := .pointer (some ⟨pb0, 0, none⟩)) rfl) ?_
  refine WA.norm (listed' := #[true, false, false, false, false, false, false, false, false, false, false]) (by kernel_rfl) ?_
  refine WA.ex 1 rfl (by kernel_rfl) (by kernel_rfl) (by kernel_rfl) rfl ⟨_, sR⟩ (fun w_ hS_ => ex_nilCheck rfl) ?_
  refine WA.norm (listed' := #[true, true, false, false, false, false, false, false, false, false, false]) (by kernel_rfl) ?_
  refine WA.ex 2 rfl (by kernel_rfl) (by kernel_rfl) (by kernel_rfl) rfl ⟨_, sR⟩ (fun w_ hS_ => ex_fieldAddr rfl Tryd.underlying55 rfl sz9) ?_
  refine WA.norm (listed' := #[true, true, true, false, false, false, false, false, false, false, false]) (by kernel_rfl) ?_
  refine WA.ex 3 rfl (by kernel_rfl) (by kernel_rfl) (by kernel_rfl) rfl ⟨_, sR⟩ (fun w_ hS_ => ex_load1 (v := encS a0.f_s) rfl Tryd.underlying9 rfl ((hB0D.step hS_.choose_spec rfl).cell rfl)) ?_
  refine WA.norm (listed' := #[true, true, true, true, false, false, false, false, false, false, false]) (by kernel_rfl) ?_
  refine WA.ex 4 rfl (by kernel_rfl) (by kernel_rfl) (by kernel_rfl) rfl ⟨_, sR⟩ (fun w_ hS_ => ex_move (v := .pointer (some ⟨pb0, 0, none⟩)) rfl) ?_
  refine WA.norm (listed' := #[true, true, true, true, true, false, false, false, false, false, false]) (by kernel_rfl) ?_
  refine WA.ex 5 rfl (by kernel_rfl) (by kernel_rfl) (by kernel_rfl) rfl ⟨_, sR⟩ (fun w_ hS_ => ex_nilCheck rfl) ?_
  refine WA.norm (listed' := #[true, true, true, true, true, true, false, false, false, false, false]) (by kernel_rfl) ?_
  refine WA.ex 6 rfl (by kernel_rfl) (by kernel_rfl) (by kernel_rfl) rfl ⟨_, sR⟩ (fun w_ hS_ => ex_fieldAddr rfl Tryd.underlying55 rfl sz23) ?_
  refine WA.norm (listed' := #[true, true, true, true, true, true, true, false, false, false, false]) (by kernel_rfl) ?_
  refine WA.ex 7 rfl (by kernel_rfl) (by kernel_rfl) (by kernel_rfl) rfl ⟨_, sR⟩ (fun w_ hS_ => ex_fieldAddr rfl Tryd.underlying23 rfl sz3) ?_
  refine WA.norm (listed' := #[true, true, true, true, true, true, true, true, false, false, false]) (by kernel_rfl) ?_
  refine WA.ex 8 rfl (by kernel_rfl) (by kernel_rfl) (by kernel_rfl) rfl ⟨_, sR⟩ (fun w_ hS_ => ex_load1 (v := .int .i64 a0.f_at.f_Off) rfl Tryd.underlying3 rfl ((hB0D.step hS_.choose_spec rfl).cell rfl)) ?_
  refine WA.norm (listed' := #[true, true, true, true, true, true, true, true, true, false, false]) (by kernel_rfl) ?_
  obtain ⟨y103, hy103, H⟩ := bindE H
  refine WA.ex 9 rfl (by kernel_rfl) (by kernel_rfl) (by kernel_rfl) rfl ⟨_, sR⟩ (fun w_ hS_ => ex_slice_str (l := a0.f_at.f_Off) (h := (a0.f_s.length : Int)) rfl Tryd.underlying9 ⟨_, rfl⟩ rfl hy103) ?_
  refine WA.norm (listed' := #[true, true, true, true, true, true, true, true, true, true, false]) (by kernel_rfl) ?_
  refine WA.ex 10 rfl (by kernel_rfl) (by kernel_rfl) (by kernel_rfl) rfl ⟨_, sR⟩ (fun w_ hS_ => ex_assign (v := encS y103) rfl) ?_
  refine WA.norm (listed' := #[true, true, true, true, true, true, true, true, true, true, true]) (by kernel_rfl) ?_
  refine WA.done (by kernel_rfl) ?_
  refine WC.ret ?_
  obtain rfl := Option.some.inj H
  exact ⟨_, (.tmp (encS y103 : Value) rfl .nil), _, rfl, HF.out⟩


/-! ### utf8.DecodeRuneInString -/
theorem utf8_DecodeRuneInString.calls (o0 : Tags) (w0 : World) (a0 : List UInt8) (r : Int × Int) (hO : ∀ b, b < w0.heap.size → o0 b < 10) (hG : Gl GG o0 w0) (H : utf8_DecodeRuneInString.f a0 = some r) :
    Calls Tryd.prog 43 [encS a0].toArray w0 fun e_ w_ => ∃ (o_ : Tags), e_ = .returned (one [.int .i32 r.1, .int .i64 r.2]) ∧ Step o0 w0 o_ w_ [] := by
  obtain rfl := Option.some.inj H
  refine Calls.mono (Tryd.utf8_DecodeRuneInString ⟨a0.toArray⟩ w0 hG.2.1) ?_
  rintro e w ⟨rfl, hb⟩
  exact ⟨o0, rfl, below_step hb⟩

/-! ### token_cursor_skip -/
set_option maxRecDepth 100000 in
theorem token_cursor_skip.calls (k : Nat) (o0 : Tags) (w0 : World) (pb0 : Nat) (a0 : T_token_cursor) (a1 : Int) (r : T_token_cursor) (hO : ∀ b, b < w0.heap.size → o0 b < 10) (hB0 : Bk o0 w0 2 pb0 [encS a0.f_s, .int .i64 a0.f_at.f_Line, .int .i64 a0.f_at.f_Col, .int .i64 a0.f_at.f_Off] 55) (hG : Gl GG o0 w0) (H : token_cursor_skip.f k a0 a1 = some r) :
    Calls Tryd.prog 29 [.pointer (some ⟨pb0, 0, none⟩), .int .i64 a1].toArray w0 fun e_ w_ => ∃ (o_ : Tags), e_ = .returned (one []) ∧ Step o0 w0 o_ w_ [2] ∧ Bk o_ w_ 2 pb0 [encS r.f_s, .int .i64 r.f_at.f_Line, .int .i64 r.f_at.f_Col, .int .i64 r.f_at.f_Off] 55 := by
  have HF := Fm.refl hO [2]
  unfold token_cursor_skip.f at H
  refine SX.calls [.pointer (some ⟨pb0, 0, none⟩), .int .i64 a1] Tryd.func29 rfl rfl ?_
  rw [Tryd.ntmps29]
  refine WC.seq ?_
  refine WC.region ?_
  refine WL.ex rfl (ex_move (v := .pointer (some ⟨pb0, 0, none⟩)) rfl) ?_
  refine WL.ex rfl (ex_nilCheck rfl) ?_
  refine WL.ex rfl (ex_fieldAddr rfl Tryd.underlying55 rfl sz23) ?_
  refine WL.ex rfl (ex_fieldAddr rfl Tryd.underlying23 rfl sz3) ?_
  refine WL.ex rfl (ex_load1 (v := .int .i64 a0.f_at.f_Off) rfl Tryd.underlying3 rfl (hB0.cell rfl)) ?_
  refine WL.ex rfl (ex_move (v := .int .i64 a1) rfl) ?_
  refine WL.ex rfl (ex_bin (a := .int .i64 a0.f_at.f_Off) (b := .int .i64 a1) (v := .int .i64 (wrap64 (a0.f_at.f_Off + a1))) rfl rfl bin_add64) ?_
  refine WL.ex rfl (ex_assign (v := .int .i64 (wrap64 (a0.f_at.f_Off + a1))) rfl) ?_
  refine WL.nil ?_
  obtain ⟨z103, hz103, H⟩ := bindE H
  refine WC.for (fun k_ ρ_ w_ => ∃ (o_ : Tags) (x101 : T_token_cursor), Fm o0 w0 o_ w_ [2] ∧ Bk o_ w_ 2 pb0 [encS x101.f_s, .int .i64 x101.f_at.f_Line, .int .i64 x101.f_at.f_Col, .int .i64 x101.f_at.f_Off] 55 ∧ Gl GG o_ w_ ∧ ρ_ 0 = .pointer (some ⟨pb0, 0, none⟩) ∧ ρ_ 4 = .int .i64 (wrap64 (a0.f_at.f_Off + a1)) ∧ token_cursor_skip.l1 k a0 a1 k_ x101 = some z103) k (fun ρ_ w_ => ∃ (o_ : Tags), Fm o0 w0 o_ w_ [2] ∧ Bk o_ w_ 2 pb0 [encS z103.f_s, .int .i64 z103.f_at.f_Line, .int .i64 z103.f_at.f_Col, .int .i64 z103.f_at.f_Off] 55 ∧ Gl GG o_ w_) ⟨_, a0, HF, hB0, hG, rfl, rfl, hz103⟩ ?case104 ?_
  case case104 =>
    rintro ρ144 w142 ⟨o143, HF, hB0, hG⟩
    obtain rfl := Option.some.inj H
    exact ⟨_, .nil, _, rfl, HF.out, hB0⟩
  have Ho105 := H
  rintro k106 ρ107 w108 ⟨o109, x101, HF, hB0, hG, s0_100, s4_100, H⟩
  cases k106 with
  | zero => cases H
  | succ k106 =>
  rw [token_cursor_skip.l1.eq_2] at H
  refine WC.seq ?_
  refine WC.seq ?_
  refine WC.region ?_
  refine WL.ex rfl (ex_move (v := .pointer (some ⟨pb0, 0, none⟩)) s0_100) ?_
  refine WL.ex rfl (ex_nilCheck rfl) ?_
  refine WL.ex rfl (ex_fieldAddr rfl Tryd.underlying55 rfl sz23) ?_
  refine WL.ex rfl (ex_fieldAddr rfl Tryd.underlying23 rfl sz3) ?_
  refine WL.ex rfl (ex_load1 (v := .int .i64 x101.f_at.f_Off) rfl Tryd.underlying3 rfl (hB0.cell rfl)) ?_
  refine WL.ex rfl (ex_move (v := .int .i64 (wrap64 (a0.f_at.f_Off + a1))) s4_100) ?_
  refine WL.ex rfl (ex_bin (a := .int .i64 x101.f_at.f_Off) (b := .int .i64 (wrap64 (a0.f_at.f_Off + a1))) (v := .bool (decide (x101.f_at.f_Off < (wrap64 (a0.f_at.f_Off + a1))))) rfl rfl bin_lss) ?_
  refine WL.nil ?_
  rcases condE H with ⟨c110, H⟩ | ⟨c110, H⟩
  ·
    refine WC.cond_t ((show _ = Value.bool (decide (x101.f_at.f_Off < (wrap64 (a0.f_at.f_Off + a1)))) from rfl).trans (congrArg Value.bool c110)) ?_
    refine WC.skip ?_
    refine WC.block ?_
    refine WC.seq ?_
    refine WC.region ?_
    refine WL.ex rfl (ex_move (v := .pointer (some ⟨pb0, 0, none⟩)) s0_100) ?_
    obtain ⟨z111, hz111, H⟩ := bindE H
    refine WL.op rfl ?_
    refine OW.call [.pointer (some ⟨pb0, 0, none⟩)] rfl Tryd.func27 (by kernel_rfl) (by kernel_rfl) (map_cons' rfl rfl) (token_cursor_here.calls _ _ pb0 x101 z111 (HF.ten (V := [0]) (L := [2]) rfl) (Bk.vw (V := [0]) (L := [2]) hB0 rfl) hz111) ?_
    rintro _ w112 ⟨o113, rfl, s114⟩
    refine ⟨_, rfl, ?_⟩
    replace s114 := un_stepL (J := []) (L' := []) s114 rfl rfl
    replace hB0 := hB0.step s114 rfl
    replace hG := hG.step s114 rfl
    replace HF := HF.step s114 rfl
    obtain ⟨z115, hz115, H⟩ := bindE H
    refine WL.op rfl ?_
    refine OW.call [encS z111] rfl Tryd.func43 (by kernel_rfl) (by kernel_rfl) (map_cons' rfl rfl) (utf8_DecodeRuneInString.calls _ _ z111 z115 (HF.ten (V := [0]) (L := []) rfl) (Gl.vw (V := [0]) (L := []) hG rfl) hz115) ?_
    rintro _ w116 ⟨o117, rfl, s118⟩
    refine ⟨_, rfl, ?_⟩
    replace s118 := un_stepL (J := []) (L' := []) s118 rfl rfl
    replace hB0 := hB0.step s118 rfl
    replace hG := hG.step s118 rfl
    replace HF := HF.step s118 rfl
    refine WL.ex rfl (ex_move (v := .tuple #[.int .i32 z115.1, .int .i64 z115.2]) rfl) ?_
    refine WL.ex rfl (ex_extract (vs := #[.int .i32 z115.1, .int .i64 z115.2]) (v := .int .i32 z115.1) rfl rfl) ?_
    refine WL.ex rfl (ex_extract (vs := #[.int .i32 z115.1, .int .i64 z115.2]) (v := .int .i64 z115.2) rfl rfl) ?_
    refine WL.ex rfl (ex_assign (v := .int .i32 z115.1) rfl) ?_
    refine WL.ex rfl (ex_assign (v := .int .i64 z115.2) rfl) ?_
    refine WL.nil ?_
    obtain ⟨z120, hz120, H⟩ := bindE H
    refine WC.cut (fun ρ_ w_ => ∃ (o_ : Tags), Fm o0 w0 o_ w_ [2] ∧ Bk o_ w_ 2 pb0 [encS z120.f_s, .int .i64 z120.f_at.f_Line, .int .i64 z120.f_at.f_Col, .int .i64 z120.f_at.f_Off] 55 ∧ Gl GG o_ w_ ∧ ρ_ 0 = .pointer (some ⟨pb0, 0, none⟩) ∧ ρ_ 4 = .int .i64 (wrap64 (a0.f_at.f_Off + a1)) ∧ ρ_ 6 = .int .i64 z115.2) ?case121 ?_
    case case121 =>
      rintro ρ124 w122 ⟨o123, HF, hB128, hG, s0_118, s4_118, s6_118⟩
      refine WC.seq ?_
      refine WC.region ?_
      refine WL.ex rfl (ex_move (v := .pointer (some ⟨pb0, 0, none⟩)) s0_118) ?_
      refine WL.ex rfl (ex_nilCheck rfl) ?_
      refine WL.ex rfl (ex_fieldAddr rfl Tryd.underlying55 rfl sz23) ?_
      refine WL.ex rfl (ex_fieldAddr rfl Tryd.underlying23 rfl sz3) ?_
      refine WL.ex rfl (ex_load1 (v := .int .i64 z120.f_at.f_Col) rfl Tryd.underlying3 rfl (hB128.cell rfl)) ?_
      refine WL.ex rfl (ex_bin (a := .int .i64 z120.f_at.f_Col) (b := .int .i64 1) (v := .int .i64 (wrap64 (z120.f_at.f_Col + 1))) rfl rfl bin_add64) ?_
      refine WL.ex rfl (ex_nilCheck rfl) ?_
      refine WL.ex rfl (ex_fieldAddr rfl Tryd.underlying55 rfl sz23) ?_
      refine WL.ex rfl (ex_fieldAddr rfl Tryd.underlying23 rfl sz3) ?_
      refine WL.op rfl ?_
      refine OW.store [encS z120.f_s, .int .i64 z120.f_at.f_Line, .int .i64 (wrap64 (z120.f_at.f_Col + 1)), .int .i64 z120.f_at.f_Off] rfl (vs := [.int .i64 (wrap64 (z120.f_at.f_Col + 1))]) ((congrArg Value.cells (show ev _ _ = (.int .i64 (wrap64 (z120.f_at.f_Col + 1)) : Value) from rfl)).trans rfl) sz3 hB128 (Nat.le_of_ble_eq_true rfl) (by intro u_ hu_; simp only [List.mem_cons, List.not_mem_nil, or_false] at hu_; rcases hu_ with rfl; first | rfl) rfl ?_
      intro w125 s126 hB127
      replace hG := hG.step s126 rfl
      replace HF := HF.step s126 rfl
      refine WL.nil ?_
      refine WC.region ?_
      refine WL.ex rfl (ex_move (v := .pointer (some ⟨pb0, 0, none⟩)) s0_118) ?_
      refine WL.ex rfl (ex_nilCheck rfl) ?_
      refine WL.ex rfl (ex_fieldAddr rfl Tryd.underlying55 rfl sz23) ?_
      refine WL.ex rfl (ex_fieldAddr rfl Tryd.underlying23 rfl sz3) ?_
      refine WL.ex rfl (ex_load1 (v := .int .i64 z120.f_at.f_Off) rfl Tryd.underlying3 rfl (hB127.cell rfl)) ?_
      refine WL.ex rfl (ex_move (v := .int .i64 z115.2) s6_118) ?_
      refine WL.ex rfl (ex_bin (a := .int .i64 z120.f_at.f_Off) (b := .int .i64 z115.2) (v := .int .i64 (wrap64 (z120.f_at.f_Off + z115.2))) rfl rfl bin_add64) ?_
      refine WL.ex rfl (ex_nilCheck rfl) ?_
      refine WL.ex rfl (ex_fieldAddr rfl Tryd.underlying55 rfl sz23) ?_
      refine WL.ex rfl (ex_fieldAddr rfl Tryd.underlying23 rfl sz3) ?_
      refine WL.op rfl ?_
      refine OW.store [encS z120.f_s, .int .i64 z120.f_at.f_Line, .int .i64 (wrap64 (z120.f_at.f_Col + 1)), .int .i64 (wrap64 (z120.f_at.f_Off + z115.2))] rfl (vs := [.int .i64 (wrap64 (z120.f_at.f_Off + z115.2))]) ((congrArg Value.cells (show ev _ _ = (.int .i64 (wrap64 (z120.f_at.f_Off + z115.2)) : Value) from rfl)).trans rfl) sz3 hB127 (Nat.le_of_ble_eq_true rfl) (by intro u_ hu_; simp only [List.mem_cons, List.not_mem_nil, or_false] at hu_; rcases hu_ with rfl; first | rfl) rfl ?_
      intro w128 s129 hB130
      replace hG := hG.step s129 rfl
      replace HF := HF.step s129 rfl
      refine WL.nil ?_
      exact ⟨k106, Nat.lt_succ_self _, ⟨_, (⟨z120.f_s, (⟨z120.f_at.f_Line, wrap64 (z120.f_at.f_Col + 1), wrap64 (z120.f_at.f_Off + z115.2)⟩ : T_api_Spot)⟩ : T_token_cursor), HF, hB130, hG, s0_118, s4_118, H⟩⟩
    have Ho131 := H
    replace H := hz120
    refine WC.seq ?_
    refine WC.regionD' HF [] 11 (by kernel_rfl) rfl ?_
    intro w132 s133
    replace hB0 := hB0.step s133 rfl
    replace hG := hG.step s133 rfl
    replace HF := HF.step s133 rfl
    have hB0D := hB0
    have hGD := hG
    have sR := HF.here []
    refine WA.norm (listed' := #[false, false, false, false, false, false, false, false, false, false, false]) (by kernel_rfl) ?_
    refine WA.ex 0 rfl (by kernel_rfl) (by kernel_rfl) (by kernel_rfl) rfl ⟨_, sR⟩ (fun w_ hS_ => ex_move (v := .pointer (some ⟨pb0, 0, none⟩)) s0_100) ?_
    refine WA.norm (listed' := #[true, false, false, false, false, false, false, false, false, false, false]) (by kernel_rfl) ?_
    refine WA.ex 1 rfl (by kernel_rfl) (by kernel_rfl) (by kernel_rfl) rfl ⟨_, sR⟩ (fun w_ hS_ => ex_nilCheck rfl) ?_
    refine WA.norm (listed' := #[true, true, false, false, false, false, false, false, false, false, false]) (by kernel_rfl) ?_
    refine WA.ex 2 rfl (by kernel_rfl) (by kernel_rfl) (by kernel_rfl) rfl ⟨_, sR⟩ (fun w_ hS_ => ex_fieldAddr rfl Tryd.underlying55 rfl sz9) ?_
    refine WA.norm (listed' := #[true, true, true, false, false, false, false, false, false, false, false]) (by kernel_rfl) ?_
    refine WA.ex 3 rfl (by kernel_rfl) (by kernel_rfl) (by kernel_rfl) rfl ⟨_, sR⟩ (fun w_ hS_ => ex_load1 (v := encS x101.f_s) rfl Tryd.underlying9 rfl ((hB0D.step hS_.choose_spec rfl).cell rfl)) ?_
    refine WA.norm (listed' := #[true, true, true, true, false, false, false, false, false, false, false]) (by kernel_rfl) ?_
    refine WA.ex 4 rfl (by kernel_rfl) (by kernel_rfl) (by kernel_rfl) rfl ⟨_, sR⟩ (fun w_ hS_ => ex_move (v := .pointer (some ⟨pb0, 0, none⟩)) s0_100) ?_
    refine WA.norm (listed' := #[true, true, true, true, true, false, false, false, false, false, false]) (by kernel_rfl) ?_
    refine WA.ex 5 rfl (by kernel_rfl) (by kernel_rfl) (by kernel_rfl) rfl ⟨_, sR⟩ (fun w_ hS_ => ex_nilCheck rfl) ?_
    refine WA.norm (listed' := #[true, true, true, true, true, true, false, false, false, false, false]) (by kernel_rfl) ?_
    refine WA.ex 6 rfl (by kernel_rfl) (by kernel_rfl) (by kernel_rfl) rfl ⟨_, sR⟩ (fun w_ hS_ => ex_fieldAddr rfl Tryd.underlying55 rfl sz23) ?_
    refine WA.norm (listed' := #[true, true, true, true, true, true, true, false, false, false, false]) (by kernel_rfl) ?_
    refine WA.ex 7 rfl (by kernel_rfl) (by kernel_rfl) (by kernel_rfl) rfl ⟨_, sR⟩ (fun w_ hS_ => ex_fieldAddr rfl Tryd.underlying23 rfl sz3) ?_
    refine WA.norm (listed' := #[true, true, true, true, true, true, true, true, false, false, false]) (by kernel_rfl) ?_
    refine WA.ex 8 rfl (by kernel_rfl) (by kernel_rfl) (by kernel_rfl) rfl ⟨_, sR⟩ (fun w_ hS_ => ex_load1 (v := .int .i64 x101.f_at.f_Off) rfl Tryd.underlying3 rfl ((hB0D.step hS_.choose_spec rfl).cell rfl)) ?_
    refine WA.norm (listed' := #[true, true, true, true, true, true, true, true, true, false, false]) (by kernel_rfl) ?_
    obtain ⟨x134, hx134, H⟩ := bindE H
    refine WA.ex 9 rfl (by kernel_rfl) (by kernel_rfl) (by kernel_rfl) rfl ⟨_, sR⟩ (fun w_ hS_ => ex_index_str (i := x101.f_at.f_Off) rfl rfl Tryd.underlying9 (ix_some hx134).1 (ix_some hx134).2.2) ?_
    refine WA.norm (listed' := #[true, true, true, true, true, true, true, true, true, true, false]) (by kernel_rfl) ?_
    refine WA.ex 10 rfl (by kernel_rfl) (by kernel_rfl) (by kernel_rfl) rfl ⟨_, sR⟩ (fun w_ hS_ => ex_bin (a := enc8 x134) (b := enc8 (10 : UInt8)) (v := .bool (x134 == (10 : UInt8))) rfl rfl bin_eql_u8) ?_
    refine WA.norm (listed' := #[true, true, true, true, true, true, true, true, true, true, true]) (by kernel_rfl) ?_
    refine WA.done (by kernel_rfl) ?_
    rcases condE H with ⟨c135, H⟩ | ⟨c135, H⟩
    ·
      refine WC.cond_t ((show _ = Value.bool (x134 == (10 : UInt8)) from rfl).trans (congrArg Value.bool c135)) ?_
      refine WC.region ?_
      refine WL.ex rfl (ex_move (v := .pointer (some ⟨pb0, 0, none⟩)) s0_100) ?_
      refine WL.ex rfl (ex_move (v := .pointer (some ⟨pb0, 0, none⟩)) s0_100) ?_
      refine WL.ex rfl (ex_move (v := .pointer (some ⟨pb0, 0, none⟩)) s0_100) ?_
      refine WL.ex rfl (ex_nilCheck rfl) ?_
      refine WL.ex rfl (ex_fieldAddr rfl Tryd.underlying55 rfl sz23) ?_
      refine WL.ex rfl (ex_fieldAddr rfl Tryd.underlying23 rfl sz3) ?_
      refine WL.ex rfl (ex_load1 (v := .int .i64 x101.f_at.f_Line) rfl Tryd.underlying3 rfl (hB0.cell rfl)) ?_
      refine WL.ex rfl (ex_bin (a := .int .i64 x101.f_at.f_Line) (b := .int .i64 1) (v := .int .i64 (wrap64 (x101.f_at.f_Line + 1))) rfl rfl bin_add64) ?_
      refine WL.ex rfl (ex_nilCheck rfl) ?_
      refine WL.ex rfl (ex_fieldAddr rfl Tryd.underlying55 rfl sz23) ?_
      refine WL.ex rfl (ex_fieldAddr rfl Tryd.underlying23 rfl sz3) ?_
      refine WL.op rfl ?_
      refine OW.store [encS x101.f_s, .int .i64 (wrap64 (x101.f_at.f_Line + 1)), .int .i64 x101.f_at.f_Col, .int .i64 x101.f_at.f_Off] rfl (vs := [.int .i64 (wrap64 (x101.f_at.f_Line + 1))]) ((congrArg Value.cells (show ev _ _ = (.int .i64 (wrap64 (x101.f_at.f_Line + 1)) : Value) from rfl)).trans rfl) sz3 hB0 (Nat.le_of_ble_eq_true rfl) (by intro u_ hu_; simp only [List.mem_cons, List.not_mem_nil, or_false] at hu_; rcases hu_ with rfl; first | rfl) rfl ?_
      intro w136 s137 hB138
      replace hG := hG.step s137 rfl
      replace HF := HF.step s137 rfl
      refine WL.ex rfl (ex_nilCheck rfl) ?_
      refine WL.ex rfl (ex_fieldAddr rfl Tryd.underlying55 rfl sz23) ?_
      refine WL.ex rfl (ex_fieldAddr rfl Tryd.underlying23 rfl sz3) ?_
      refine WL.op rfl ?_
      refine OW.store [encS x101.f_s, .int .i64 (wrap64 (x101.f_at.f_Line + 1)), .int .i64 0, .int .i64 x101.f_at.f_Off] rfl (vs := [.int .i64 0]) ((congrArg Value.cells (show ev _ _ = (.int .i64 0 : Value) from rfl)).trans rfl) sz3 hB138 (Nat.le_of_ble_eq_true rfl) (by intro u_ hu_; simp only [List.mem_cons, List.not_mem_nil, or_false] at hu_; rcases hu_ with rfl; first | rfl) rfl ?_
      intro w139 s140 hB141
      replace hG := hG.step s140 rfl
      replace HF := HF.step s140 rfl
      refine WL.nil ?_
      obtain rfl := Option.some.inj H
      exact ⟨_, HF, hB141, hG, s0_100, s4_100, rfl⟩
    ·
      refine WC.cond_f ((show _ = Value.bool (x134 == (10 : UInt8)) from rfl).trans (congrArg Value.bool c135)) ?_
      refine WC.skip ?_
      obtain rfl := Option.some.inj H
      exact ⟨_, HF, hB0, hG, s0_100, s4_100, rfl⟩
  ·
    refine WC.cond_f ((show _ = Value.bool (decide (x101.f_at.f_Off < (wrap64 (a0.f_at.f_Off + a1)))) from rfl).trans (congrArg Value.bool c110)) ?_
    refine WC.exit ?_
    obtain rfl := Option.some.inj H
    exact ⟨_, HF, hB0, hG⟩


/-! ### strings.IndexByte -/
theorem strings_IndexByte.calls (o0 : Tags) (w0 : World) (a0 : List UInt8) (a1 : UInt8) (r : Int) (hO : ∀ b, b < w0.heap.size → o0 b < 10) (H : strings_IndexByte.f a0 a1 = some r) :
    Calls Tryd.prog 37 [encS a0, enc8 a1].toArray w0 fun e_ w_ => ∃ (o_ : Tags), e_ = .returned (one [.int .i64 r]) ∧ Step o0 w0 o_ w_ [] := by
  obtain rfl := Option.some.inj H
  refine Calls.mono (Tryd.strings_IndexByte ⟨a0.toArray⟩ (a1.toNat : Int) w0) ?_
  rintro e w ⟨rfl, rfl⟩
  exact ⟨o0, by simp [one], Step.refl _ _ _⟩

/-! ### token_cursor_space -/
set_option maxRecDepth 100000 in
theorem token_cursor_space.calls (k : Nat) (o0 : Tags) (w0 : World) (pb0 : Nat) (a0 : T_token_cursor) (r : T_token_cursor) (hO : ∀ b, b < w0.heap.size → o0 b < 10) (hB0 : Bk o0 w0 2 pb0 [encS a0.f_s, .int .i64 a0.f_at.f_Line, .int .i64 a0.f_at.f_Col, .int .i64 a0.f_at.f_Off] 55) (hG : Gl GG o0 w0) (H : token_cursor_space.f k a0 = some r) :
    Calls Tryd.prog 26 [.pointer (some ⟨pb0, 0, none⟩)].toArray w0 fun e_ w_ => ∃ (o_ : Tags), e_ = .returned (one []) ∧ Step o0 w0 o_ w_ [2] ∧ Bk o_ w_ 2 pb0 [encS r.f_s, .int .i64 r.f_at.f_Line, .int .i64 r.f_at.f_Col, .int .i64 r.f_at.f_Off] 55 := by
  have HF := Fm.refl hO [2]
  unfold token_cursor_space.f at H
  refine SX.calls [.pointer (some ⟨pb0, 0, none⟩)] Tryd.func26 rfl rfl ?_
  rw [Tryd.ntmps26]
  refine WC.scope ?_
  refine WC.seq ?_
  refine WC.label ?_
  refine WC.seq ?_
  refine WC.region ?_
  refine WL.ex rfl (ex_move (v := .pointer (some ⟨pb0, 0, none⟩)) rfl) ?_
  obtain ⟨z101, hz101, H⟩ := bindE H
  refine WL.op rfl ?_
  refine OW.call [.pointer (some ⟨pb0, 0, none⟩)] rfl Tryd.func27 (by kernel_rfl) (by kernel_rfl) (map_cons' rfl rfl) (token_cursor_here.calls _ _ pb0 a0 z101 (HF.ten (V := [0]) (L := [2]) rfl) (Bk.vw (V := [0]) (L := [2]) hB0 rfl) hz101) ?_
  rintro _ w102 ⟨o103, rfl, s104⟩
  refine ⟨_, rfl, ?_⟩
  replace s104 := un_stepL (J := []) (L' := []) s104 rfl rfl
  replace hB0 := hB0.step s104 rfl
  replace hG := hG.step s104 rfl
  replace HF := HF.step s104 rfl
  refine WL.ex rfl (ex_assign (v := encS z101) rfl) ?_
  refine WL.nil ?_
  obtain ⟨z108, hz108, H⟩ := bindE H
  refine WC.for (fun k_ ρ_ w_ => ∃ (o_ : Tags) (x105 : List UInt8) (x106 : T_token_cursor), Fm o0 w0 o_ w_ [2] ∧ Bk o_ w_ 2 pb0 [encS x106.f_s, .int .i64 x106.f_at.f_Line, .int .i64 x106.f_at.f_Col, .int .i64 x106.f_at.f_Off] 55 ∧ Gl GG o_ w_ ∧ ρ_ 0 = .pointer (some ⟨pb0, 0, none⟩) ∧ ρ_ 2 = encS x105 ∧ token_cursor_space.l1 k k_ x105 x106 = some z108) k (fun ρ_ w_ => ∃ (o_ : Tags), Fm o0 w0 o_ w_ [2] ∧ Bk o_ w_ 2 pb0 [encS z108.f_s, .int .i64 z108.f_at.f_Line, .int .i64 z108.f_at.f_Col, .int .i64 z108.f_at.f_Off] 55 ∧ Gl GG o_ w_) ⟨_, z101, a0, HF, hB0, hG, rfl, rfl, hz108⟩ ?case109 ?_
  case case109 =>
    rintro ρ161 w159 ⟨o160, HF, hB0, hG⟩
    refine ⟨fun l_ h_ => (by cases h_), ?_⟩
    obtain rfl := Option.some.inj H
    exact ⟨_, .nil, _, rfl, HF.out, hB0⟩
  have Ho110 := H
  rintro k111 ρ112 w113 ⟨o114, x105, x106, HF, hB0, hG, s0_104, s2_105, H⟩
  cases k111 with
  | zero => cases H
  | succ k111 =>
  rw [token_cursor_space.l1.eq_2] at H
  refine WC.seq ?_
  refine WC.seq ?_
  refine WC.region ?_
  refine WL.ex rfl (ex_move (v := encS x105) s2_105) ?_
  refine WL.ex rfl (ex_bin (a := encS x105) (b := encS ([] : List UInt8)) (v := .bool (!(x105 == ([] : List UInt8)))) rfl rfl bin_neq_str) ?_
  refine WL.nil ?_
  rcases condE H with ⟨c115, H⟩ | ⟨c115, H⟩
  ·
    refine WC.cond_t ((show _ = Value.bool (!(x105 == ([] : List UInt8))) from rfl).trans (congrArg Value.bool c115)) ?_
    refine WC.skip ?_
    refine WC.seq ?_
    refine WC.block ?_
    refine WC.seq ?_
    refine WC.region ?_
    refine WL.ex rfl (ex_move (v := encS x105) s2_105) ?_
    obtain ⟨x116, hx116, H⟩ := bindE H
    refine WL.ex rfl (ex_index_str (i := (0 : Int)) rfl rfl Tryd.underlying9 (ix_some hx116).1 (ix_some hx116).2.2) ?_
    refine WL.nil ?_
    refine WC.block ?_
    obtain ⟨z118, hz118, H⟩ := bindE H
    refine WC.cut (fun ρ_ w_ => ∃ (o_ : Tags), Fm o0 w0 o_ w_ [2] ∧ Bk o_ w_ 2 pb0 [encS x106.f_s, .int .i64 x106.f_at.f_Line, .int .i64 x106.f_at.f_Col, .int .i64 x106.f_at.f_Off] 55 ∧ Gl GG o_ w_ ∧ ρ_ 0 = .pointer (some ⟨pb0, 0, none⟩) ∧ ρ_ 2 = encS x105 ∧ ρ_ 11 = enc8 x116 ∧ ρ_ 12 = .bool z118) ?case119 ?_
    case case119 =>
      rintro ρ122 w120 ⟨o121, HF, hB0, hG, s0_116, s2_116, s11_116, s12_117⟩
      rcases condE H with ⟨c123, H⟩ | ⟨c123, H⟩
      ·
        refine WC.cond_t ((show _ = Value.bool z118 from s12_117).trans (congrArg Value.bool c123)) ?_
        refine WC.region ?_
        refine WL.ex rfl (ex_move (v := .pointer (some ⟨pb0, 0, none⟩)) s0_116) ?_
        obtain ⟨z124, hz124, H⟩ := bindE H
        refine WL.op rfl ?_
        refine OW.call [.pointer (some ⟨pb0, 0, none⟩), .int .i64 1] rfl Tryd.func29 (by kernel_rfl) (by kernel_rfl) (map_cons' rfl (map_cons' rfl rfl)) (token_cursor_skip.calls k _ _ pb0 x106 1 z124 (HF.ten (V := [0]) (L := [2]) rfl) (Bk.vw (V := [0]) (L := [2]) hB0 rfl) (Gl.vw (V := [0]) (L := [2]) hG rfl) hz124) ?_
        rintro _ w125 ⟨o126, rfl, s127, hB128⟩
        refine ⟨_, rfl, ?_⟩
        replace hB128 := Bk.unO (J := []) 0 hB128 s127 rfl rfl rfl
        replace s127 := un_stepL (J := []) (L' := [2]) s127 rfl rfl
        replace hG := hG.step s127 rfl
        replace HF := HF.step s127 rfl
        refine WL.nil ?_
        refine WC.region ?_
        refine WL.ex rfl (ex_move (v := .pointer (some ⟨pb0, 0, none⟩)) s0_116) ?_
        obtain ⟨z129, hz129, H⟩ := bindE H
        refine WL.op rfl ?_
        refine OW.call [.pointer (some ⟨pb0, 0, none⟩)] rfl Tryd.func27 (by kernel_rfl) (by kernel_rfl) (map_cons' rfl rfl) (token_cursor_here.calls _ _ pb0 z124 z129 (HF.ten (V := [0]) (L := [2]) rfl) (Bk.vw (V := [0]) (L := [2]) hB128 rfl) hz129) ?_
        rintro _ w130 ⟨o131, rfl, s132⟩
        refine ⟨_, rfl, ?_⟩
        replace s132 := un_stepL (J := []) (L' := []) s132 rfl rfl
        replace hG := hG.step s132 rfl
        replace hB128 := hB128.step s132 rfl
        replace HF := HF.step s132 rfl
        refine WL.ex rfl (ex_assign (v := encS z129) rfl) ?_
        refine WL.nil ?_
        exact ⟨k111, Nat.lt_succ_self _, ⟨_, z129, z124, HF, hB128, hG, s0_116, rfl, H⟩⟩
      ·
        refine WC.cond_f ((show _ = Value.bool z118 from s12_117).trans (congrArg Value.bool c123)) ?_
        refine WC.seq ?_
        refine WC.region ?_
        refine WL.ex rfl (ex_bin (a := enc8 x116) (b := enc8 (35 : UInt8)) (v := .bool (x116 == (35 : UInt8))) s11_116 rfl bin_eql_u8) ?_
        refine WL.ex rfl (ex_assign (v := .bool (x116 == (35 : UInt8))) rfl) ?_
        refine WL.nil ?_
        rcases condE H with ⟨c133, H⟩ | ⟨c133, H⟩
        ·
          refine WC.cond_t ((show _ = Value.bool (x116 == (35 : UInt8)) from rfl).trans (congrArg Value.bool c133)) ?_
          refine WC.seq ?_
          refine WC.region ?_
          refine WL.ex rfl (ex_move (v := encS x105) s2_116) ?_
          obtain ⟨z134, hz134, H⟩ := bindE H
          refine WL.op rfl ?_
          refine OW.call [encS x105, enc8 (10 : UInt8)] rfl Tryd.func37 (by kernel_rfl) (by kernel_rfl) (map_cons' rfl (map_cons' rfl rfl)) (strings_IndexByte.calls _ _ x105 (10 : UInt8) z134 (HF.ten (V := [0]) (L := []) rfl)  hz134) ?_
          rintro _ w135 ⟨o136, rfl, s137⟩
          refine ⟨_, rfl, ?_⟩
          replace s137 := un_stepL (J := []) (L' := []) s137 rfl rfl
          replace hB0 := hB0.step s137 rfl
          replace hG := hG.step s137 rfl
          replace HF := HF.step s137 rfl
          refine WL.ex rfl (ex_assign (v := .int .i64 z134) rfl) ?_
          refine WL.nil ?_
          obtain ⟨z139, hz139, H⟩ := bindE H
          refine WC.cut (fun ρ_ w_ => ∃ (o_ : Tags), Fm o0 w0 o_ w_ [2] ∧ Bk o_ w_ 2 pb0 [encS x106.f_s, .int .i64 x106.f_at.f_Line, .int .i64 x106.f_at.f_Col, .int .i64 x106.f_at.f_Off] 55 ∧ Gl GG o_ w_ ∧ ρ_ 0 = .pointer (some ⟨pb0, 0, none⟩) ∧ ρ_ 2 = encS x105 ∧ ρ_ 3 = .int .i64 z139) ?case140 ?_
          case case140 =>
            rintro ρ143 w141 ⟨o142, HF, hB0, hG, s0_137, s2_137, s3_138⟩
            refine WC.region ?_
            refine WL.ex rfl (ex_move (v := .pointer (some ⟨pb0, 0, none⟩)) s0_137) ?_
            refine WL.ex rfl (ex_move (v := .int .i64 z139) s3_138) ?_
            obtain ⟨z144, hz144, H⟩ := bindE H
            refine WL.op rfl ?_
            refine OW.call [.pointer (some ⟨pb0, 0, none⟩), .int .i64 z139] rfl Tryd.func29 (by kernel_rfl) (by kernel_rfl) (map_cons' rfl (map_cons' rfl rfl)) (token_cursor_skip.calls k _ _ pb0 x106 z139 z144 (HF.ten (V := [0]) (L := [2]) rfl) (Bk.vw (V := [0]) (L := [2]) hB0 rfl) (Gl.vw (V := [0]) (L := [2]) hG rfl) hz144) ?_
            rintro _ w145 ⟨o146, rfl, s147, hB148⟩
            refine ⟨_, rfl, ?_⟩
            replace hB148 := Bk.unO (J := []) 0 hB148 s147 rfl rfl rfl
            replace s147 := un_stepL (J := []) (L' := [2]) s147 rfl rfl
            replace hG := hG.step s147 rfl
            replace HF := HF.step s147 rfl
            refine WL.nil ?_
            refine WC.region ?_
            refine WL.ex rfl (ex_move (v := .pointer (some ⟨pb0, 0, none⟩)) s0_137) ?_
            obtain ⟨z149, hz149, H⟩ := bindE H
            refine WL.op rfl ?_
            refine OW.call [.pointer (some ⟨pb0, 0, none⟩)] rfl Tryd.func27 (by kernel_rfl) (by kernel_rfl) (map_cons' rfl rfl) (token_cursor_here.calls _ _ pb0 z144 z149 (HF.ten (V := [0]) (L := [2]) rfl) (Bk.vw (V := [0]) (L := [2]) hB148 rfl) hz149) ?_
            rintro _ w150 ⟨o151, rfl, s152⟩
            refine ⟨_, rfl, ?_⟩
            replace s152 := un_stepL (J := []) (L' := []) s152 rfl rfl
            replace hG := hG.step s152 rfl
            replace hB148 := hB148.step s152 rfl
            replace HF := HF.step s152 rfl
            refine WL.ex rfl (ex_assign (v := encS z149) rfl) ?_
            refine WL.nil ?_
            exact ⟨k111, Nat.lt_succ_self _, ⟨_, z149, z144, HF, hB148, hG, s0_137, rfl, H⟩⟩
          have Ho153 := H
          replace H := hz139
          refine WC.seq ?_
          refine WC.region ?_
          refine WL.ex rfl (ex_move (v := .int .i64 z134) rfl) ?_
          refine WL.ex rfl (ex_bin (a := .int .i64 z134) (b := .int .i64 0) (v := .bool (decide (z134 < 0))) rfl rfl bin_lss) ?_
          refine WL.nil ?_
          rcases condE H with ⟨c154, H⟩ | ⟨c154, H⟩
          ·
            refine WC.cond_t ((show _ = Value.bool (decide (z134 < 0)) from rfl).trans (congrArg Value.bool c154)) ?_
            refine WC.region ?_
            refine WL.ex rfl (ex_move (v := encS x105) s2_116) ?_
            refine WL.ex rfl (ex_len_str (s := x105) rfl Tryd.underlying9) ?_
            refine WL.ex rfl (ex_assign (v := .int .i64 (x105.length : Int)) rfl) ?_
            refine WL.nil ?_
            obtain rfl := Option.some.inj H
            exact ⟨_, HF, hB0, hG, s0_116, s2_116, rfl⟩
          ·
            refine WC.cond_f ((show _ = Value.bool (decide (z134 < 0)) from rfl).trans (congrArg Value.bool c154)) ?_
            refine WC.skip ?_
            obtain rfl := Option.some.inj H
            exact ⟨_, HF, hB0, hG, s0_116, s2_116, rfl⟩
        ·
          refine WC.cond_f ((show _ = Value.bool (x116 == (35 : UInt8)) from rfl).trans (congrArg Value.bool c133)) ?_
          refine WC.exit ?_
          obtain rfl := Option.some.inj H
          exact ⟨_, HF, hB0, hG⟩
    have Ho155 := H
    replace H := hz118
    refine WC.seq ?_
    refine WC.region ?_
    refine WL.ex rfl (ex_bin (a := enc8 x116) (b := enc8 (32 : UInt8)) (v := .bool (x116 == (32 : UInt8))) rfl rfl bin_eql_u8) ?_
    refine WL.ex rfl (ex_assign (v := .bool (x116 == (32 : UInt8))) rfl) ?_
    refine WL.nil ?_
    rcases condE H with ⟨c156, H⟩ | ⟨c156, H⟩
    ·
      refine WC.cond_t ((show _ = Value.bool (x116 == (32 : UInt8)) from rfl).trans (congrArg Value.bool c156)) ?_
      refine WC.skip ?_
      obtain rfl := Option.some.inj H
      exact ⟨_, HF, hB0, hG, s0_104, s2_105, rfl, rfl⟩
    ·
      refine WC.cond_f ((show _ = Value.bool (x116 == (32 : UInt8)) from rfl).trans (congrArg Value.bool c156)) ?_
      refine WC.seq ?_
      refine WC.region ?_
      refine WL.ex rfl (ex_bin (a := enc8 x116) (b := enc8 (9 : UInt8)) (v := .bool (x116 == (9 : UInt8))) rfl rfl bin_eql_u8) ?_
      refine WL.ex rfl (ex_assign (v := .bool (x116 == (9 : UInt8))) rfl) ?_
      refine WL.nil ?_
      rcases condE H with ⟨c157, H⟩ | ⟨c157, H⟩
      ·
        refine WC.cond_t ((show _ = Value.bool (x116 == (9 : UInt8)) from rfl).trans (congrArg Value.bool c157)) ?_
        refine WC.skip ?_
        obtain rfl := Option.some.inj H
        exact ⟨_, HF, hB0, hG, s0_104, s2_105, rfl, rfl⟩
      ·
        refine WC.cond_f ((show _ = Value.bool (x116 == (9 : UInt8)) from rfl).trans (congrArg Value.bool c157)) ?_
        refine WC.seq ?_
        refine WC.region ?_
        refine WL.ex rfl (ex_bin (a := enc8 x116) (b := enc8 (10 : UInt8)) (v := .bool (x116 == (10 : UInt8))) rfl rfl bin_eql_u8) ?_
        refine WL.ex rfl (ex_assign (v := .bool (x116 == (10 : UInt8))) rfl) ?_
        refine WL.nil ?_
        rcases condE H with ⟨c158, H⟩ | ⟨c158, H⟩
        ·
          refine WC.cond_t ((show _ = Value.bool (x116 == (10 : UInt8)) from rfl).trans (congrArg Value.bool c158)) ?_
          refine WC.skip ?_
          obtain rfl := Option.some.inj H
          exact ⟨_, HF, hB0, hG, s0_104, s2_105, rfl, rfl⟩
        ·
          refine WC.cond_f ((show _ = Value.bool (x116 == (10 : UInt8)) from rfl).trans (congrArg Value.bool c158)) ?_
          refine WC.region ?_
          refine WL.ex rfl (ex_bin (a := enc8 x116) (b := enc8 (13 : UInt8)) (v := .bool (x116 == (13 : UInt8))) rfl rfl bin_eql_u8) ?_
          refine WL.ex rfl (ex_assign (v := .bool (x116 == (13 : UInt8))) rfl) ?_
          refine WL.nil ?_
          obtain rfl := Option.some.inj H
          exact ⟨_, HF, hB0, hG, s0_104, s2_105, rfl, rfl⟩
  ·
    refine WC.cond_f ((show _ = Value.bool (!(x105 == ([] : List UInt8))) from rfl).trans (congrArg Value.bool c115)) ?_
    refine WC.exit ?_
    obtain rfl := Option.some.inj H
    exact ⟨_, HF, hB0, hG⟩

/-! ### token_letter -/
set_option maxRecDepth 100000 in
theorem token_letter.calls (o0 : Tags) (w0 : World) (a0 : UInt8) (r : Bool) (hO : ∀ b, b < w0.heap.size → o0 b < 10) (H : token_letter.f a0 = some r) :
    Calls Tryd.prog 38 [enc8 a0].toArray w0 fun e_ w_ => ∃ (o_ : Tags), e_ = .returned (one [.bool r]) ∧ Step o0 w0 o_ w_ [] := by
  have HF := Fm.refl hO []
  unfold token_letter.f at H
  refine SX.calls [enc8 a0] Tryd.func38 rfl rfl ?_
  rw [Tryd.ntmps38]
  refine WC.seq ?_
  refine WC.region ?_
  refine WL.ex rfl (ex_assign (v := .bool false) rfl) ?_
  refine WL.nil ?_
  refine WC.seq ?_
  refine WC.region ?_
  refine WL.ex rfl (ex_move (v := enc8 a0) rfl) ?_
  refine WL.ex rfl (ex_bin (a := enc8 a0) (b := enc8 (32 : UInt8)) (v := enc8 (a0 ||| (32 : UInt8))) rfl rfl bin_or_u8) ?_
  refine WL.ex rfl (ex_bin (a := enc8 (a0 ||| (32 : UInt8))) (b := enc8 (97 : UInt8)) (v := .bool (decide ((97 : UInt8) ≤ (a0 ||| (32 : UInt8))))) rfl rfl bin_geq_u8) ?_
  refine WL.ex rfl (ex_move (v := .bool (decide ((97 : UInt8) ≤ (a0 ||| (32 : UInt8))))) rfl) ?_
  rcases condE H with ⟨c101, H⟩ | ⟨c101, H⟩
  ·
    refine WL.guardYes rfl rfl rfl ((show _ = Value.bool (decide ((97 : UInt8) ≤ (a0 ||| (32 : UInt8)))) from rfl).trans (congrArg Value.bool c101)) ?_
    refine OW.ex rfl (ex_move (v := enc8 a0) rfl) ?_
    refine WL.guardYes rfl rfl rfl ((show _ = Value.bool (decide ((97 : UInt8) ≤ (a0 ||| (32 : UInt8)))) from rfl).trans (congrArg Value.bool c101)) ?_
    refine OW.ex rfl (ex_bin (a := enc8 a0) (b := enc8 (32 : UInt8)) (v := enc8 (a0 ||| (32 : UInt8))) rfl rfl bin_or_u8) ?_
    refine WL.guardYes rfl rfl rfl ((show _ = Value.bool (decide ((97 : UInt8) ≤ (a0 ||| (32 : UInt8)))) from rfl).trans (congrArg Value.bool c101)) ?_
    refine OW.ex rfl (ex_bin (a := enc8 (a0 ||| (32 : UInt8))) (b := enc8 (122 : UInt8)) (v := .bool (decide ((a0 ||| (32 : UInt8)) ≤ (122 : UInt8)))) rfl rfl bin_leq_u8) ?_
    refine WL.ex rfl (ex_pick_t (v := .bool (decide ((a0 ||| (32 : UInt8)) ≤ (122 : UInt8)))) ((show _ = Value.bool (decide ((97 : UInt8) ≤ (a0 ||| (32 : UInt8)))) from rfl).trans (congrArg Value.bool c101)) rfl) ?_
    refine WL.ex rfl (ex_move (v := .bool (decide ((a0 ||| (32 : UInt8)) ≤ (122 : UInt8)))) rfl) ?_
    rcases condE H with ⟨c102, H⟩ | ⟨c102, H⟩
    ·
      refine WL.guardNo rfl rfl rfl ((show _ = Value.bool (decide ((a0 ||| (32 : UInt8)) ≤ (122 : UInt8))) from rfl).trans (congrArg Value.bool c102)) ?_
      refine WL.guardNo rfl rfl rfl ((show _ = Value.bool (decide ((a0 ||| (32 : UInt8)) ≤ (122 : UInt8))) from rfl).trans (congrArg Value.bool c102)) ?_
      refine WL.ex rfl (ex_pick_t (v := .bool true) ((show _ = Value.bool (decide ((a0 ||| (32 : UInt8)) ≤ (122 : UInt8))) from rfl).trans (congrArg Value.bool c102)) rfl) ?_
      refine WL.ex rfl (ex_assign (v := .bool true) rfl) ?_
      refine WL.nil ?_
      refine WC.ret ?_
      obtain rfl := Option.some.inj H
      exact ⟨_, (.tmp (.bool true : Value) rfl .nil), _, rfl, HF.out⟩
    ·
      refine WL.guardYes rfl rfl rfl ((show _ = Value.bool (decide ((a0 ||| (32 : UInt8)) ≤ (122 : UInt8))) from rfl).trans (congrArg Value.bool c102)) ?_
      refine OW.ex rfl (ex_move (v := enc8 a0) rfl) ?_
      refine WL.guardYes rfl rfl rfl ((show _ = Value.bool (decide ((a0 ||| (32 : UInt8)) ≤ (122 : UInt8))) from rfl).trans (congrArg Value.bool c102)) ?_
      refine OW.ex rfl (ex_bin (a := enc8 a0) (b := enc8 (95 : UInt8)) (v := .bool (a0 == (95 : UInt8))) rfl rfl bin_eql_u8) ?_
      refine WL.ex rfl (ex_pick_f (v := .bool (a0 == (95 : UInt8))) ((show _ = Value.bool (decide ((a0 ||| (32 : UInt8)) ≤ (122 : UInt8))) from rfl).trans (congrArg Value.bool c102)) rfl) ?_
      refine WL.ex rfl (ex_assign (v := .bool (a0 == (95 : UInt8))) rfl) ?_
      refine WL.nil ?_
      refine WC.ret ?_
      obtain rfl := Option.some.inj H
      exact ⟨_, (.tmp (.bool (a0 == (95 : UInt8)) : Value) rfl .nil), _, rfl, HF.out⟩
  ·
    refine WL.guardNo rfl rfl rfl ((show _ = Value.bool (decide ((97 : UInt8) ≤ (a0 ||| (32 : UInt8)))) from rfl).trans (congrArg Value.bool c101)) ?_
    refine WL.guardNo rfl rfl rfl ((show _ = Value.bool (decide ((97 : UInt8) ≤ (a0 ||| (32 : UInt8)))) from rfl).trans (congrArg Value.bool c101)) ?_
    refine WL.guardNo rfl rfl rfl ((show _ = Value.bool (decide ((97 : UInt8) ≤ (a0 ||| (32 : UInt8)))) from rfl).trans (congrArg Value.bool c101)) ?_
    refine WL.ex rfl (ex_pick_f (v := .bool false) ((show _ = Value.bool (decide ((97 : UInt8) ≤ (a0 ||| (32 : UInt8)))) from rfl).trans (congrArg Value.bool c101)) rfl) ?_
    refine WL.ex rfl (ex_move (v := .bool false) rfl) ?_
    refine WL.guardYes rfl rfl rfl rfl ?_
    refine OW.ex rfl (ex_move (v := enc8 a0) rfl) ?_
    refine WL.guardYes rfl rfl rfl rfl ?_
    refine OW.ex rfl (ex_bin (a := enc8 a0) (b := enc8 (95 : UInt8)) (v := .bool (a0 == (95 : UInt8))) rfl rfl bin_eql_u8) ?_
    refine WL.ex rfl (ex_pick_f (v := .bool (a0 == (95 : UInt8))) rfl rfl) ?_
    refine WL.ex rfl (ex_assign (v := .bool (a0 == (95 : UInt8))) rfl) ?_
    refine WL.nil ?_
    refine WC.ret ?_
    obtain rfl := Option.some.inj H
    exact ⟨_, (.tmp (.bool (a0 == (95 : UInt8)) : Value) rfl .nil), _, rfl, HF.out⟩

/-! ### token_digit -/
set_option maxRecDepth 100000 in
theorem token_digit.calls (o0 : Tags) (w0 : World) (a0 : UInt8) (r : Bool) (hO : ∀ b, b < w0.heap.size → o0 b < 10) (H : token_digit.f a0 = some r) :
    Calls Tryd.prog 41 [enc8 a0].toArray w0 fun e_ w_ => ∃ (o_ : Tags), e_ = .returned (one [.bool r]) ∧ Step o0 w0 o_ w_ [] := by
  have HF := Fm.refl hO []
  unfold token_digit.f at H
  refine SX.calls [enc8 a0] Tryd.func41 rfl rfl ?_
  rw [Tryd.ntmps41]
  refine WC.seq ?_
  refine WC.region ?_
  refine WL.ex rfl (ex_assign (v := .bool false) rfl) ?_
  refine WL.nil ?_
  refine WC.seq ?_
  refine WC.region ?_
  refine WL.ex rfl (ex_move (v := enc8 a0) rfl) ?_
  refine WL.ex rfl (ex_bin (a := enc8 a0) (b := enc8 (48 : UInt8)) (v := .bool (decide ((48 : UInt8) ≤ a0))) rfl rfl bin_geq_u8) ?_
  refine WL.ex rfl (ex_move (v := .bool (decide ((48 : UInt8) ≤ a0))) rfl) ?_
  rcases condE H with ⟨c101, H⟩ | ⟨c101, H⟩
  ·
    refine WL.guardYes rfl rfl rfl ((show _ = Value.bool (decide ((48 : UInt8) ≤ a0)) from rfl).trans (congrArg Value.bool c101)) ?_
    refine OW.ex rfl (ex_move (v := enc8 a0) rfl) ?_
    refine WL.guardYes rfl rfl rfl ((show _ = Value.bool (decide ((48 : UInt8) ≤ a0)) from rfl).trans (congrArg Value.bool c101)) ?_
    refine OW.ex rfl (ex_bin (a := enc8 a0) (b := enc8 (57 : UInt8)) (v := .bool (decide (a0 ≤ (57 : UInt8)))) rfl rfl bin_leq_u8) ?_
    refine WL.ex rfl (ex_pick_t (v := .bool (decide (a0 ≤ (57 : UInt8)))) ((show _ = Value.bool (decide ((48 : UInt8) ≤ a0)) from rfl).trans (congrArg Value.bool c101)) rfl) ?_
    refine WL.ex rfl (ex_assign (v := .bool (decide (a0 ≤ (57 : UInt8)))) rfl) ?_
    refine WL.nil ?_
    refine WC.ret ?_
    obtain rfl := Option.some.inj H
    exact ⟨_, (.tmp (.bool (decide (a0 ≤ (57 : UInt8))) : Value) rfl .nil), _, rfl, HF.out⟩
  ·
    refine WL.guardNo rfl rfl rfl ((show _ = Value.bool (decide ((48 : UInt8) ≤ a0)) from rfl).trans (congrArg Value.bool c101)) ?_
    refine WL.guardNo rfl rfl rfl ((show _ = Value.bool (decide ((48 : UInt8) ≤ a0)) from rfl).trans (congrArg Value.bool c101)) ?_
    refine WL.ex rfl (ex_pick_f (v := .bool false) ((show _ = Value.bool (decide ((48 : UInt8) ≤ a0)) from rfl).trans (congrArg Value.bool c101)) rfl) ?_
    refine WL.ex rfl (ex_assign (v := .bool false) rfl) ?_
    refine WL.nil ?_
    refine WC.ret ?_
    obtain rfl := Option.some.inj H
    exact ⟨_, (.tmp (.bool false : Value) rfl .nil), _, rfl, HF.out⟩

/-! ### token_tail -/
set_option maxRecDepth 100000 in
theorem token_tail.calls (o0 : Tags) (w0 : World) (a0 : UInt8) (r : Bool) (hO : ∀ b, b < w0.heap.size → o0 b < 10) (H : token_tail.f a0 = some r) :
    Calls Tryd.prog 40 [enc8 a0].toArray w0 fun e_ w_ => ∃ (o_ : Tags), e_ = .returned (one [.bool r]) ∧ Step o0 w0 o_ w_ [] := by
  have HF := Fm.refl hO []
  unfold token_tail.f at H
  refine SX.calls [enc8 a0] Tryd.func40 rfl rfl ?_
  rw [Tryd.ntmps40]
  refine WC.seq ?_
  refine WC.region ?_
  refine WL.ex rfl (ex_assign (v := .bool false) rfl) ?_
  refine WL.nil ?_
  refine WC.seq ?_
  refine WC.region ?_
  refine WL.ex rfl (ex_move (v := enc8 a0) rfl) ?_
  obtain ⟨z101, hz101, H⟩ := bindE H
  refine WL.op rfl ?_
  refine OW.call [enc8 a0] rfl Tryd.func38 (by kernel_rfl) (by kernel_rfl) (map_cons' rfl rfl) (token_letter.calls _ _ a0 z101 (HF.ten (V := [0]) (L := []) rfl)  hz101) ?_
  rintro _ w102 ⟨o103, rfl, s104⟩
  refine ⟨_, rfl, ?_⟩
  replace s104 := un_stepL (J := []) (L' := []) s104 rfl rfl
  replace HF := HF.step s104 rfl
  refine WL.ex rfl (ex_move (v := .bool z101) rfl) ?_
  rcases condE H with ⟨c105, H⟩ | ⟨c105, H⟩
  ·
    refine WL.guardNo rfl rfl rfl ((show _ = Value.bool z101 from rfl).trans (congrArg Value.bool c105)) ?_
    refine WL.guardNo rfl rfl rfl ((show _ = Value.bool z101 from rfl).trans (congrArg Value.bool c105)) ?_
    refine WL.ex rfl (ex_pick_t (v := .bool true) ((show _ = Value.bool z101 from rfl).trans (congrArg Value.bool c105)) rfl) ?_
    refine WL.ex rfl (ex_move (v := .bool true) rfl) ?_
    refine WL.guardNo rfl rfl rfl rfl ?_
    refine WL.guardNo rfl rfl rfl rfl ?_
    refine WL.ex rfl (ex_pick_t (v := .bool true) rfl rfl) ?_
    refine WL.ex rfl (ex_assign (v := .bool true) rfl) ?_
    refine WL.nil ?_
    refine WC.ret ?_
    obtain rfl := Option.some.inj H
    exact ⟨_, (.tmp (.bool true : Value) rfl .nil), _, rfl, HF.out⟩
  ·
    refine WL.guardYes rfl rfl rfl ((show _ = Value.bool z101 from rfl).trans (congrArg Value.bool c105)) ?_
    refine OW.ex rfl (ex_move (v := enc8 a0) rfl) ?_
    refine WL.guardYes rfl rfl rfl ((show _ = Value.bool z101 from rfl).trans (congrArg Value.bool c105)) ?_
    obtain ⟨z106, hz106, H⟩ := bindE H
    refine OW.call [enc8 a0] rfl Tryd.func41 (by kernel_rfl) (by kernel_rfl) (map_cons' rfl rfl) (token_digit.calls _ _ a0 z106 (HF.ten (V := [0]) (L := []) rfl)  hz106) ?_
    rintro _ w107 ⟨o108, rfl, s109⟩
    refine ⟨_, rfl, ?_⟩
    replace s109 := un_stepL (J := []) (L' := []) s109 rfl rfl
    replace HF := HF.step s109 rfl
    refine WL.ex rfl (ex_pick_f (v := .bool z106) ((show _ = Value.bool z101 from rfl).trans (congrArg Value.bool c105)) rfl) ?_
    refine WL.ex rfl (ex_move (v := .bool z106) rfl) ?_
    rcases condE H with ⟨c110, H⟩ | ⟨c110, H⟩
    ·
      refine WL.guardNo rfl rfl rfl ((show _ = Value.bool z106 from rfl).trans (congrArg Value.bool c110)) ?_
      refine WL.guardNo rfl rfl rfl ((show _ = Value.bool z106 from rfl).trans (congrArg Value.bool c110)) ?_
      refine WL.ex rfl (ex_pick_t (v := .bool true) ((show _ = Value.bool z106 from rfl).trans (congrArg Value.bool c110)) rfl) ?_
      refine WL.ex rfl (ex_assign (v := .bool true) rfl) ?_
      refine WL.nil ?_
      refine WC.ret ?_
      obtain rfl := Option.some.inj H
      exact ⟨_, (.tmp (.bool true : Value) rfl .nil), _, rfl, HF.out⟩
    ·
      refine WL.guardYes rfl rfl rfl ((show _ = Value.bool z106 from rfl).trans (congrArg Value.bool c110)) ?_
      refine OW.ex rfl (ex_move (v := enc8 a0) rfl) ?_
      refine WL.guardYes rfl rfl rfl ((show _ = Value.bool z106 from rfl).trans (congrArg Value.bool c110)) ?_
      refine OW.ex rfl (ex_bin (a := enc8 a0) (b := enc8 (39 : UInt8)) (v := .bool (a0 == (39 : UInt8))) rfl rfl bin_eql_u8) ?_
      refine WL.ex rfl (ex_pick_f (v := .bool (a0 == (39 : UInt8))) ((show _ = Value.bool z106 from rfl).trans (congrArg Value.bool c110)) rfl) ?_
      refine WL.ex rfl (ex_assign (v := .bool (a0 == (39 : UInt8))) rfl) ?_
      refine WL.nil ?_
      refine WC.ret ?_
      obtain rfl := Option.some.inj H
      exact ⟨_, (.tmp (.bool (a0 == (39 : UInt8)) : Value) rfl .nil), _, rfl, HF.out⟩

/-! ### token_run_token_tail -/
set_option maxRecDepth 100000 in
theorem token_run_token_tail.calls (k : Nat) (o0 : Tags) (w0 : World) (a0 : List UInt8) (r : Int) (hO : ∀ b, b < w0.heap.size → o0 b < 10) (H : token_run_token_tail.f k a0 = some r) :
    Calls Tryd.prog 39 [encS a0, .func (.func 40) #[] #[]].toArray w0 fun e_ w_ => ∃ (o_ : Tags), e_ = .returned (one [.int .i64 r]) ∧ Step o0 w0 o_ w_ [] := by
  have HF := Fm.refl hO []
  unfold token_run_token_tail.f at H
  refine SX.calls [encS a0, .func (.func 40) #[] #[]] Tryd.func39 rfl rfl ?_
  rw [Tryd.ntmps39]
  refine WC.seq ?_
  refine WC.region ?_
  refine WL.ex rfl (ex_assign (v := .int .i64 0) rfl) ?_
  refine WL.nil ?_
  refine WC.seq ?_
  refine WC.region ?_
  refine WL.ex rfl (ex_assign (v := .int .i64 0) rfl) ?_
  refine WL.nil ?_
  refine WC.seq ?_
  obtain ⟨z103, hz103, H⟩ := bindE H
  refine WC.for (fun k_ ρ_ w_ => ∃ (o_ : Tags) (x101 : Int), Fm o0 w0 o_ w_ [] ∧ ρ_ 0 = encS a0 ∧ ρ_ 1 = .func (.func 40) #[] #[] ∧ ρ_ 4 = .int .i64 0 ∧ ρ_ 5 = .int .i64 x101 ∧ token_run_token_tail.l1 k a0 k_ x101 = some z103) k (fun ρ_ w_ => ∃ (o_ : Tags), Fm o0 w0 o_ w_ [] ∧ ρ_ 4 = .int .i64 0 ∧ ρ_ 5 = .int .i64 z103) ⟨_, 0, HF, rfl, rfl, rfl, rfl, hz103⟩ ?case104 ?_
  case case104 =>
    rintro ρ126 w124 ⟨o125, HF, s4_101, s5_102⟩
    refine WC.seq ?_
    refine WC.region ?_
    refine WL.ex rfl (ex_move (v := .int .i64 z103) s5_102) ?_
    refine WL.ex rfl (ex_assign (v := .int .i64 z103) rfl) ?_
    refine WL.nil ?_
    refine WC.ret ?_
    obtain rfl := Option.some.inj H
    exact ⟨_, (.tmp (.int .i64 z103 : Value) rfl .nil), _, rfl, HF.out⟩
  have Ho105 := H
  rintro k106 ρ107 w108 ⟨o109, x101, HF, s0_100, s1_100, s4_100, s5_101, H⟩
  cases k106 with
  | zero => cases H
  | succ k106 =>
  rw [token_run_token_tail.l1.eq_2] at H
  refine WC.seq ?_
  obtain ⟨z111, hz111, H⟩ := bindE H
  refine WC.cut (fun ρ_ w_ => ∃ (o_ : Tags), Fm o0 w0 o_ w_ [] ∧ ρ_ 0 = encS a0 ∧ ρ_ 1 = .func (.func 40) #[] #[] ∧ ρ_ 4 = .int .i64 0 ∧ ρ_ 5 = .int .i64 x101 ∧ ρ_ 16 = .bool z111) ?case112 ?_
  case case112 =>
    rintro ρ115 w113 ⟨o114, HF, s0_109, s1_109, s4_109, s5_109, s16_110⟩
    rcases condE H with ⟨c116, H⟩ | ⟨c116, H⟩
    ·
      refine WC.cond_t ((show _ = Value.bool z111 from s16_110).trans (congrArg Value.bool c116)) ?_
      refine WC.skip ?_
      refine WC.block ?_
      refine WC.region ?_
      refine WL.ex rfl (ex_move (v := .int .i64 x101) s5_109) ?_
      refine WL.ex rfl (ex_bin (a := .int .i64 x101) (b := .int .i64 1) (v := .int .i64 (wrap64 (x101 + 1))) rfl rfl bin_add64) ?_
      refine WL.ex rfl (ex_assign (v := .int .i64 (wrap64 (x101 + 1))) rfl) ?_
      refine WL.nil ?_
      exact ⟨k106, Nat.lt_succ_self _, ⟨_, wrap64 (x101 + 1), HF, s0_109, s1_109, s4_109, rfl, H⟩⟩
    ·
      refine WC.cond_f ((show _ = Value.bool z111 from s16_110).trans (congrArg Value.bool c116)) ?_
      refine WC.exit ?_
      obtain rfl := Option.some.inj H
      exact ⟨_, HF, s4_109, s5_109⟩
  have Ho117 := H
  replace H := hz111
  refine WC.region ?_
  refine WL.ex rfl (ex_move (v := .int .i64 x101) s5_101) ?_
  refine WL.ex rfl (ex_move (v := encS a0) s0_100) ?_
  refine WL.ex rfl (ex_len_str (s := a0) rfl Tryd.underlying9) ?_
  refine WL.ex rfl (ex_bin (a := .int .i64 x101) (b := .int .i64 (a0.length : Int)) (v := .bool (decide (x101 < (a0.length : Int)))) rfl rfl bin_lss) ?_
  refine WL.ex rfl (ex_move (v := .bool (decide (x101 < (a0.length : Int)))) rfl) ?_
  rcases condE H with ⟨c118, H⟩ | ⟨c118, H⟩
  ·
    refine WL.guardYes rfl rfl rfl ((show _ = Value.bool (decide (x101 < (a0.length : Int))) from rfl).trans (congrArg Value.bool c118)) ?_
    refine OW.ex rfl (ex_move (v := .func (.func 40) #[] #[]) s1_100) ?_
    refine WL.guardYes rfl rfl rfl ((show _ = Value.bool (decide (x101 < (a0.length : Int))) from rfl).trans (congrArg Value.bool c118)) ?_
    refine OW.ex rfl (ex_move (v := encS a0) s0_100) ?_
    refine WL.guardYes rfl rfl rfl ((show _ = Value.bool (decide (x101 < (a0.length : Int))) from rfl).trans (congrArg Value.bool c118)) ?_
    refine OW.ex rfl (ex_move (v := .int .i64 x101) s5_101) ?_
    refine WL.guardYes rfl rfl rfl ((show _ = Value.bool (decide (x101 < (a0.length : Int))) from rfl).trans (congrArg Value.bool c118)) ?_
    obtain ⟨x119, hx119, H⟩ := bindE H
    refine OW.ex rfl (ex_index_str (i := x101) rfl rfl Tryd.underlying9 (ix_some hx119).1 (ix_some hx119).2.2) ?_
    refine WL.guardYes rfl rfl rfl ((show _ = Value.bool (decide (x101 < (a0.length : Int))) from rfl).trans (congrArg Value.bool c118)) ?_
    obtain ⟨z120, hz120, H⟩ := bindE H
    refine OW.callV (show ev _ _ = .func (.func 40) #[] #[] from rfl) [enc8 x119] rfl Tryd.func40 (by kernel_rfl) (by kernel_rfl) (map_cons' rfl rfl) (token_tail.calls _ _ x119 z120 (HF.ten (V := [0]) (L := []) rfl)  hz120) ?_
    rintro _ w121 ⟨o122, rfl, s123⟩
    refine ⟨_, rfl, ?_⟩
    replace s123 := un_stepL (J := []) (L' := []) s123 rfl rfl
    replace HF := HF.step s123 rfl
    refine WL.ex rfl (ex_pick_t (v := .bool z120) ((show _ = Value.bool (decide (x101 < (a0.length : Int))) from rfl).trans (congrArg Value.bool c118)) rfl) ?_
    refine WL.nil ?_
    obtain rfl := Option.some.inj H
    exact ⟨_, HF, s0_100, s1_100, s4_100, s5_101, rfl⟩
  ·
    refine WL.guardNo rfl rfl rfl ((show _ = Value.bool (decide (x101 < (a0.length : Int))) from rfl).trans (congrArg Value.bool c118)) ?_
    refine WL.guardNo rfl rfl rfl ((show _ = Value.bool (decide (x101 < (a0.length : Int))) from rfl).trans (congrArg Value.bool c118)) ?_
    refine WL.guardNo rfl rfl rfl ((show _ = Value.bool (decide (x101 < (a0.length : Int))) from rfl).trans (congrArg Value.bool c118)) ?_
    refine WL.guardNo rfl rfl rfl ((show _ = Value.bool (decide (x101 < (a0.length : Int))) from rfl).trans (congrArg Value.bool c118)) ?_
    refine WL.guardNo rfl rfl rfl ((show _ = Value.bool (decide (x101 < (a0.length : Int))) from rfl).trans (congrArg Value.bool c118)) ?_
    refine WL.ex rfl (ex_pick_f (v := .bool false) ((show _ = Value.bool (decide (x101 < (a0.length : Int))) from rfl).trans (congrArg Value.bool c118)) rfl) ?_
    refine WL.nil ?_
    obtain rfl := Option.some.inj H
    exact ⟨_, HF, s0_100, s1_100, s4_100, s5_101, rfl⟩

/-! ### token_run_token_digit -/
set_option maxRecDepth 100000 in
theorem token_run_token_digit.calls (k : Nat) (o0 : Tags) (w0 : World) (a0 : List UInt8) (r : Int) (hO : ∀ b, b < w0.heap.size → o0 b < 10) (H : token_run_token_digit.f k a0 = some r) :
    Calls Tryd.prog 39 [encS a0, .func (.func 41) #[] #[]].toArray w0 fun e_ w_ => ∃ (o_ : Tags), e_ = .returned (one [.int .i64 r]) ∧ Step o0 w0 o_ w_ [] := by
  have HF := Fm.refl hO []
  unfold token_run_token_digit.f at H
  refine SX.calls [encS a0, .func (.func 41) #[] #[]] Tryd.func39 rfl rfl ?_
  rw [Tryd.ntmps39]
  refine WC.seq ?_
  refine WC.region ?_
  refine WL.ex rfl (ex_assign (v := .int .i64 0) rfl) ?_
  refine WL.nil ?_
  refine WC.seq ?_
  refine WC.region ?_
  refine WL.ex rfl (ex_assign (v := .int .i64 0) rfl) ?_
  refine WL.nil ?_
  refine WC.seq ?_
  obtain ⟨z103, hz103, H⟩ := bindE H
  refine WC.for (fun k_ ρ_ w_ => ∃ (o_ : Tags) (x101 : Int), Fm o0 w0 o_ w_ [] ∧ ρ_ 0 = encS a0 ∧ ρ_ 1 = .func (.func 41) #[] #[] ∧ ρ_ 4 = .int .i64 0 ∧ ρ_ 5 = .int .i64 x101 ∧ token_run_token_digit.l1 k a0 k_ x101 = some z103) k (fun ρ_ w_ => ∃ (o_ : Tags), Fm o0 w0 o_ w_ [] ∧ ρ_ 4 = .int .i64 0 ∧ ρ_ 5 = .int .i64 z103) ⟨_, 0, HF, rfl, rfl, rfl, rfl, hz103⟩ ?case104 ?_
  case case104 =>
    rintro ρ126 w124 ⟨o125, HF, s4_101, s5_102⟩
    refine WC.seq ?_
    refine WC.region ?_
    refine WL.ex rfl (ex_move (v := .int .i64 z103) s5_102) ?_
    refine WL.ex rfl (ex_assign (v := .int .i64 z103) rfl) ?_
    refine WL.nil ?_
    refine WC.ret ?_
    obtain rfl := Option.some.inj H
    exact ⟨_, (.tmp (.int .i64 z103 : Value) rfl .nil), _, rfl, HF.out⟩
  have Ho105 := H
  rintro k106 ρ107 w108 ⟨o109, x101, HF, s0_100, s1_100, s4_100, s5_101, H⟩
  cases k106 with
  | zero => cases H
  | succ k106 =>
  rw [token_run_token_digit.l1.eq_2] at H
  refine WC.seq ?_
  obtain ⟨z111, hz111, H⟩ := bindE H
  refine WC.cut (fun ρ_ w_ => ∃ (o_ : Tags), Fm o0 w0 o_ w_ [] ∧ ρ_ 0 = encS a0 ∧ ρ_ 1 = .func (.func 41) #[] #[] ∧ ρ_ 4 = .int .i64 0 ∧ ρ_ 5 = .int .i64 x101 ∧ ρ_ 16 = .bool z111) ?case112 ?_
  case case112 =>
    rintro ρ115 w113 ⟨o114, HF, s0_109, s1_109, s4_109, s5_109, s16_110⟩
    rcases condE H with ⟨c116, H⟩ | ⟨c116, H⟩
    ·
      refine WC.cond_t ((show _ = Value.bool z111 from s16_110).trans (congrArg Value.bool c116)) ?_
      refine WC.skip ?_
      refine WC.block ?_
      refine WC.region ?_
      refine WL.ex rfl (ex_move (v := .int .i64 x101) s5_109) ?_
      refine WL.ex rfl (ex_bin (a := .int .i64 x101) (b := .int .i64 1) (v := .int .i64 (wrap64 (x101 + 1))) rfl rfl bin_add64) ?_
      refine WL.ex rfl (ex_assign (v := .int .i64 (wrap64 (x101 + 1))) rfl) ?_
      refine WL.nil ?_
      exact ⟨k106, Nat.lt_succ_self _, ⟨_, wrap64 (x101 + 1), HF, s0_109, s1_109, s4_109, rfl, H⟩⟩
    ·
      refine WC.cond_f ((show _ = Value.bool z111 from s16_110).trans (congrArg Value.bool c116)) ?_
      refine WC.exit ?_
      obtain rfl := Option.some.inj H
      exact ⟨_, HF, s4_109, s5_109⟩
  have Ho117 := H
  replace H := hz111
  refine WC.region ?_
  refine WL.ex rfl (ex_move (v := .int .i64 x101) s5_101) ?_
  refine WL.ex rfl (ex_move (v := encS a0) s0_100) ?_
  refine WL.ex rfl (ex_len_str (s := a0) rfl Tryd.underlying9) ?_
  refine WL.ex rfl (ex_bin (a := .int .i64 x101) (b := .int .i64 (a0.length : Int)) (v := .bool (decide (x101 < (a0.length : Int)))) rfl rfl bin_lss) ?_
  refine WL.ex rfl (ex_move (v := .bool (decide (x101 < (a0.length : Int)))) rfl) ?_
  rcases condE H with ⟨c118, H⟩ | ⟨c118, H⟩
  ·
    refine WL.guardYes rfl rfl rfl ((show _ = Value.bool (decide (x101 < (a0.length : Int))) from rfl).trans (congrArg Value.bool c118)) ?_
    refine OW.ex rfl (ex_move (v := .func (.func 41) #[] #[]) s1_100) ?_
    refine WL.guardYes rfl rfl rfl ((show _ = Value.bool (decide (x101 < (a0.length : Int))) from rfl).trans (congrArg Value.bool c118)) ?_
    refine OW.ex rfl (ex_move (v := encS a0) s0_100) ?_
    refine WL.guardYes rfl rfl rfl ((show _ = Value.bool (decide (x101 < (a0.length : Int))) from rfl).trans (congrArg Value.bool c118)) ?_
    refine OW.ex rfl (ex_move (v := .int .i64 x101) s5_101) ?_
    refine WL.guardYes rfl rfl rfl ((show _ = Value.bool (decide (x101 < (a0.length : Int))) from rfl).trans (congrArg Value.bool c118)) ?_
    obtain ⟨x119, hx119, H⟩ := bindE H
    refine OW.ex rfl (ex_index_str (i := x101) rfl rfl Tryd.underlying9 (ix_some hx119).1 (ix_some hx119).2.2) ?_
    refine WL.guardYes rfl rfl rfl ((show _ = Value.bool (decide (x101 < (a0.length : Int))) from rfl).trans (congrArg Value.bool c118)) ?_
    obtain ⟨z120, hz120, H⟩ := bindE H
    refine OW.callV (show ev _ _ = .func (.func 41) #[] #[] from rfl) [enc8 x119] rfl Tryd.func41 (by kernel_rfl) (by kernel_rfl) (map_cons' rfl rfl) (token_digit.calls _ _ x119 z120 (HF.ten (V := [0]) (L := []) rfl)  hz120) ?_
    rintro _ w121 ⟨o122, rfl, s123⟩
    refine ⟨_, rfl, ?_⟩
    replace s123 := un_stepL (J := []) (L' := []) s123 rfl rfl
    replace HF := HF.step s123 rfl
    refine WL.ex rfl (ex_pick_t (v := .bool z120) ((show _ = Value.bool (decide (x101 < (a0.length : Int))) from rfl).trans (congrArg Value.bool c118)) rfl) ?_
    refine WL.nil ?_
    obtain rfl := Option.some.inj H
    exact ⟨_, HF, s0_100, s1_100, s4_100, s5_101, rfl⟩
  ·
    refine WL.guardNo rfl rfl rfl ((show _ = Value.bool (decide (x101 < (a0.length : Int))) from rfl).trans (congrArg Value.bool c118)) ?_
    refine WL.guardNo rfl rfl rfl ((show _ = Value.bool (decide (x101 < (a0.length : Int))) from rfl).trans (congrArg Value.bool c118)) ?_
    refine WL.guardNo rfl rfl rfl ((show _ = Value.bool (decide (x101 < (a0.length : Int))) from rfl).trans (congrArg Value.bool c118)) ?_
    refine WL.guardNo rfl rfl rfl ((show _ = Value.bool (decide (x101 < (a0.length : Int))) from rfl).trans (congrArg Value.bool c118)) ?_
    refine WL.guardNo rfl rfl rfl ((show _ = Value.bool (decide (x101 < (a0.length : Int))) from rfl).trans (congrArg Value.bool c118)) ?_
    refine WL.ex rfl (ex_pick_f (v := .bool false) ((show _ = Value.bool (decide (x101 < (a0.length : Int))) from rfl).trans (congrArg Value.bool c118)) rfl) ?_
    refine WL.nil ?_
    obtain rfl := Option.some.inj H
    exact ⟨_, HF, s0_100, s1_100, s4_100, s5_101, rfl⟩


/-! ### strconv.Atoi -/
theorem strconv_Atoi.calls (o0 : Tags) (w0 : World) (a0 : List UInt8) (r : Int × Bool) (hO : ∀ b, b < w0.heap.size → o0 b < 10) (hG : Gl GG o0 w0) (H : strconv_Atoi.f a0 = some r) :
    Calls Tryd.prog 42 [encS a0].toArray w0 fun e_ w_ => ∃ (o_ : Tags) (rv1 : Value), e_ = .returned (one [.int .i64 r.1, rv1]) ∧ Step o0 w0 o_ w_ [] ∧ IsErr r.2 rv1 := by
  unfold strconv_Atoi.f at H
  obtain ⟨u, hu, H⟩ := bindE H
  obtain rfl := Option.some.inj H
  have hl : a0.length ≤ 281474976710656 := of_decide_eq_true (chk_true hu)
  have hs : (⟨a0.toArray⟩ : ByteArray).size ≤ 281474976710656 := by rw [size_enc]; exact hl
  cases hc : Lib.atoiAll a0
  · rename_i v
    refine Calls.mono (Tryd.strconv_Atoi_ok ⟨a0.toArray⟩ (Nat.le_trans hs (by decide)) v hc w0) ?_
    rintro e w ⟨rfl, hw⟩
    refine ⟨o0, .nilIface, by simp [atoiF, hc, one], ?_, by simp [atoiF, hc, IsErr]⟩
    rcases hw with rfl | ⟨t, rfl⟩
    · exact Step.refl _ _ _
    · exact bytesWorld_step o0 w0 5 t
  · obtain ⟨tp, p, hv⟩ := hG.2.2.2.1
    refine Calls.mono (Tryd.strconv_Atoi_syntax_var ⟨a0.toArray⟩ hs (hc.trans (by rfl)) tp p w0 hv) ?_
    rintro e w ⟨N, rfl, _, _, hb⟩
    exact ⟨o0, _, by simp only [atoiF, hc, one]; rfl, below_step hb, by simp only [atoiF, hc, IsErr, cond_true]; exact ⟨_, _, rfl⟩⟩
  · obtain ⟨tp, p, hv⟩ := hG.2.2.2.2
    refine Calls.mono (Tryd.strconv_Atoi_range_var ⟨a0.toArray⟩ hs hc tp p w0 hv) ?_
    rintro e w ⟨N, rfl, _, _, hb⟩
    exact ⟨o0, _, by simp only [atoiF, hc, one]; rfl, below_step hb, by simp only [atoiF, hc, IsErr, cond_true]; exact ⟨_, _, rfl⟩⟩

/-! ### stringslite_HasPrefix -/
set_option maxRecDepth 100000 in
theorem stringslite_HasPrefix.calls (o0 : Tags) (w0 : World) (a0 : List UInt8) (a1 : List UInt8) (r : Bool) (hO : ∀ b, b < w0.heap.size → o0 b < 10) (H : stringslite_HasPrefix.f a0 a1 = some r) :
    Calls Tryd.prog 59 [encS a0, encS a1].toArray w0 fun e_ w_ => ∃ (o_ : Tags), e_ = .returned (one [.bool r]) ∧ Step o0 w0 o_ w_ [] := by
  have HF := Fm.refl hO []
  unfold stringslite_HasPrefix.f at H
  refine SX.calls [encS a0, encS a1] Tryd.func59 rfl rfl ?_
  rw [Tryd.ntmps59]
  refine WC.seq ?_
  refine WC.region ?_
  refine WL.ex rfl (ex_assign (v := .bool false) rfl) ?_
  refine WL.nil ?_
  refine WC.seq ?_
  refine WC.region ?_
  refine WL.ex rfl (ex_move (v := encS a0) rfl) ?_
  refine WL.ex rfl (ex_len_str (s := a0) rfl Tryd.underlying9) ?_
  refine WL.ex rfl (ex_move (v := encS a1) rfl) ?_
  refine WL.ex rfl (ex_len_str (s := a1) rfl Tryd.underlying9) ?_
  refine WL.ex rfl (ex_bin (a := .int .i64 (a0.length : Int)) (b := .int .i64 (a1.length : Int)) (v := .bool (decide ((a0.length : Int) ≥ (a1.length : Int)))) rfl rfl bin_geq) ?_
  refine WL.ex rfl (ex_move (v := .bool (decide ((a0.length : Int) ≥ (a1.length : Int)))) rfl) ?_
  rcases condE H with ⟨c101, H⟩ | ⟨c101, H⟩
  ·
    refine WL.guardYes rfl rfl rfl ((show _ = Value.bool (decide ((a0.length : Int) ≥ (a1.length : Int))) from rfl).trans (congrArg Value.bool c101)) ?_
    refine OW.ex rfl (ex_move (v := encS a0) rfl) ?_
    refine WL.guardYes rfl rfl rfl ((show _ = Value.bool (decide ((a0.length : Int) ≥ (a1.length : Int))) from rfl).trans (congrArg Value.bool c101)) ?_
    refine OW.ex rfl (ex_move (v := encS a1) rfl) ?_
    refine WL.guardYes rfl rfl rfl ((show _ = Value.bool (decide ((a0.length : Int) ≥ (a1.length : Int))) from rfl).trans (congrArg Value.bool c101)) ?_
    refine OW.ex rfl (ex_len_str (s := a1) rfl Tryd.underlying9) ?_
    refine WL.guardYes rfl rfl rfl ((show _ = Value.bool (decide ((a0.length : Int) ≥ (a1.length : Int))) from rfl).trans (congrArg Value.bool c101)) ?_
    obtain ⟨y102, hy102, H⟩ := bindE H
    refine OW.ex rfl (ex_slice_str (l := 0) (h := (a1.length : Int)) rfl Tryd.underlying9 rfl ⟨_, rfl⟩ hy102) ?_
    refine WL.guardYes rfl rfl rfl ((show _ = Value.bool (decide ((a0.length : Int) ≥ (a1.length : Int))) from rfl).trans (congrArg Value.bool c101)) ?_
    refine OW.ex rfl (ex_move (v := encS a1) rfl) ?_
    refine WL.guardYes rfl rfl rfl ((show _ = Value.bool (decide ((a0.length : Int) ≥ (a1.length : Int))) from rfl).trans (congrArg Value.bool c101)) ?_
    refine OW.ex rfl (ex_bin (a := encS y102) (b := encS a1) (v := .bool (y102 == a1)) rfl rfl bin_eql_str) ?_
    refine WL.ex rfl (ex_pick_t (v := .bool (y102 == a1)) ((show _ = Value.bool (decide ((a0.length : Int) ≥ (a1.length : Int))) from rfl).trans (congrArg Value.bool c101)) rfl) ?_
    refine WL.ex rfl (ex_assign (v := .bool (y102 == a1)) rfl) ?_
    refine WL.nil ?_
    refine WC.ret ?_
    obtain rfl := Option.some.inj H
    exact ⟨_, (.tmp (.bool (y102 == a1) : Value) rfl .nil), _, rfl, HF.out⟩
  ·
    refine WL.guardNo rfl rfl rfl ((show _ = Value.bool (decide ((a0.length : Int) ≥ (a1.length : Int))) from rfl).trans (congrArg Value.bool c101)) ?_
    refine WL.guardNo rfl rfl rfl ((show _ = Value.bool (decide ((a0.length : Int) ≥ (a1.length : Int))) from rfl).trans (congrArg Value.bool c101)) ?_
    refine WL.guardNo rfl rfl rfl ((show _ = Value.bool (decide ((a0.length : Int) ≥ (a1.length : Int))) from rfl).trans (congrArg Value.bool c101)) ?_
    refine WL.guardNo rfl rfl rfl ((show _ = Value.bool (decide ((a0.length : Int) ≥ (a1.length : Int))) from rfl).trans (congrArg Value.bool c101)) ?_
    refine WL.guardNo rfl rfl rfl ((show _ = Value.bool (decide ((a0.length : Int) ≥ (a1.length : Int))) from rfl).trans (congrArg Value.bool c101)) ?_
    refine WL.guardNo rfl rfl rfl ((show _ = Value.bool (decide ((a0.length : Int) ≥ (a1.length : Int))) from rfl).trans (congrArg Value.bool c101)) ?_
    refine WL.ex rfl (ex_pick_f (v := .bool false) ((show _ = Value.bool (decide ((a0.length : Int) ≥ (a1.length : Int))) from rfl).trans (congrArg Value.bool c101)) rfl) ?_
    refine WL.ex rfl (ex_assign (v := .bool false) rfl) ?_
    refine WL.nil ?_
    refine WC.ret ?_
    obtain rfl := Option.some.inj H
    exact ⟨_, (.tmp (.bool false : Value) rfl .nil), _, rfl, HF.out⟩

/-! ### strings_HasPrefix -/
set_option maxRecDepth 100000 in
theorem strings_HasPrefix.calls (o0 : Tags) (w0 : World) (a0 : List UInt8) (a1 : List UInt8) (r : Bool) (hO : ∀ b, b < w0.heap.size → o0 b < 10) (H : strings_HasPrefix.f a0 a1 = some r) :
    Calls Tryd.prog 49 [encS a0, encS a1].toArray w0 fun e_ w_ => ∃ (o_ : Tags), e_ = .returned (one [.bool r]) ∧ Step o0 w0 o_ w_ [] := by
  have HF := Fm.refl hO []
  unfold strings_HasPrefix.f at H
  refine SX.calls [encS a0, encS a1] Tryd.func49 rfl rfl ?_
  rw [Tryd.ntmps49]
  refine WC.seq ?_
  refine WC.region ?_
  refine WL.ex rfl (ex_assign (v := .bool false) rfl) ?_
  refine WL.nil ?_
  refine WC.seq ?_
  refine WC.region ?_
  refine WL.ex rfl (ex_move (v := encS a0) rfl) ?_
  refine WL.ex rfl (ex_move (v := encS a1) rfl) ?_
  obtain ⟨z101, hz101, H⟩ := bindE H
  refine WL.op rfl ?_
  refine OW.call [encS a0, encS a1] rfl Tryd.func59 (by kernel_rfl) (by kernel_rfl) (map_cons' rfl (map_cons' rfl rfl)) (stringslite_HasPrefix.calls _ _ a0 a1 z101 (HF.ten (V := [0]) (L := []) rfl)  hz101) ?_
  rintro _ w102 ⟨o103, rfl, s104⟩
  refine ⟨_, rfl, ?_⟩
  replace s104 := un_stepL (J := []) (L' := []) s104 rfl rfl
  replace HF := HF.step s104 rfl
  refine WL.ex rfl (ex_assign (v := .bool z101) rfl) ?_
  refine WL.nil ?_
  refine WC.ret ?_
  obtain rfl := Option.some.inj H
  exact ⟨_, (.tmp (.bool z101 : Value) rfl .nil), _, rfl, HF.out⟩

/-! ### token_sign -/
set_option maxRecDepth 100000 in
theorem token_sign.calls (k : Nat) (o0 : Tags) (w0 : World) (a0 : List UInt8) (r : (List UInt8) × Int) (hO : ∀ b, b < w0.heap.size → o0 b < 10) (hG : Gl GG o0 w0) (H : token_sign.f k a0 = some r) :
    Calls Tryd.prog 33 [encS a0].toArray w0 fun e_ w_ => ∃ (o_ : Tags), e_ = .returned (one [encS r.1, .int .i64 r.2]) ∧ Step o0 w0 o_ w_ [] := by
  have HF := Fm.refl hO []
  unfold token_sign.f at H
  refine SX.calls [encS a0] Tryd.func33 rfl rfl ?_
  rw [Tryd.ntmps33]
  refine WC.seq ?_
  refine WC.region ?_
  refine WL.ex rfl (ex_assign (v := encS ([] : List UInt8)) rfl) ?_
  refine WL.ex rfl (ex_assign (v := .int .i64 0) rfl) ?_
  refine WL.nil ?_
  refine WC.seq ?_
  refine WC.seq ?_
  refine WC.region ?_
  refine WL.ex rfl (ex_buildArr (cs := [encS ([60, 45, 62] : List UInt8), encS ([60, 61] : List UInt8), encS ([61, 62] : List UInt8), encS ([45, 62] : List UInt8), encS ([124, 45] : List UInt8), encS ([126] : List UInt8), encS ([38] : List UInt8), encS ([124] : List UInt8), encS ([40] : List UInt8), encS ([41] : List UInt8), encS ([91] : List UInt8), encS ([93] : List UInt8), encS ([123] : List UInt8), encS ([125] : List UInt8), encS ([44] : List UInt8), encS ([46] : List UInt8), encS ([58] : List UInt8), encS ([59] : List UInt8), encS ([61] : List UInt8), encS ([47] : List UInt8)]) [(0, encS ([60, 45, 62] : List UInt8)), (1, encS ([60, 61] : List UInt8)), (2, encS ([61, 62] : List UInt8)), (3, encS ([45, 62] : List UInt8)), (4, encS ([124, 45] : List UInt8)), (5, encS ([126] : List UInt8)), (6, encS ([38] : List UInt8)), (7, encS ([124] : List UInt8)), (8, encS ([40] : List UInt8)), (9, encS ([41] : List UInt8)), (10, encS ([91] : List UInt8)), (11, encS ([93] : List UInt8)), (12, encS ([123] : List UInt8)), (13, encS ([125] : List UInt8)), (14, encS ([44] : List UInt8)), (15, encS ([46] : List UInt8)), (16, encS ([58] : List UInt8)), (17, encS ([59] : List UInt8)), (18, encS ([61] : List UInt8)), (19, encS ([47] : List UInt8))] [.string ⟨#[]⟩, .string ⟨#[]⟩, .string ⟨#[]⟩, .string ⟨#[]⟩, .string ⟨#[]⟩, .string ⟨#[]⟩, .string ⟨#[]⟩, .string ⟨#[]⟩, .string ⟨#[]⟩, .string ⟨#[]⟩, .string ⟨#[]⟩, .string ⟨#[]⟩, .string ⟨#[]⟩, .string ⟨#[]⟩, .string ⟨#[]⟩, .string ⟨#[]⟩, .string ⟨#[]⟩, .string ⟨#[]⟩, .string ⟨#[]⟩, .string ⟨#[]⟩] Tryd.underlying80 zr80 rfl sz9 (evs_cons rfl (evs_cons rfl (evs_cons rfl (evs_cons rfl (evs_cons rfl (evs_cons rfl (evs_cons rfl (evs_cons rfl (evs_cons rfl (evs_cons rfl (evs_cons rfl (evs_cons rfl (evs_cons rfl (evs_cons rfl (evs_cons rfl (evs_cons rfl (evs_cons rfl (evs_cons rfl (evs_cons rfl (evs_cons rfl rfl)))))))))))))))))))) rfl) ?_
  refine WL.ex rfl (ex_move (v := .int .i64 0) rfl) ?_
  refine WL.nil ?_
  obtain ⟨z102, hz102, H⟩ := bindE H
  refine WC.for (fun k_ ρ_ w_ => ∃ (o_ : Tags) (x101 : Int), Fm o0 w0 o_ w_ [] ∧ Gl GG o_ w_ ∧ ρ_ 0 = encS a0 ∧ ρ_ 2 = encS ([] : List UInt8) ∧ ρ_ 3 = .int .i64 0 ∧ ρ_ 8 = .agg (List.map encS ([([60, 45, 62] : List UInt8), ([60, 61] : List UInt8), ([61, 62] : List UInt8), ([45, 62] : List UInt8), ([124, 45] : List UInt8), ([126] : List UInt8), ([38] : List UInt8), ([124] : List UInt8), ([40] : List UInt8), ([41] : List UInt8), ([91] : List UInt8), ([93] : List UInt8), ([123] : List UInt8), ([125] : List UInt8), ([44] : List UInt8), ([46] : List UInt8), ([58] : List UInt8), ([59] : List UInt8), ([61] : List UInt8), ([47] : List UInt8)] : List (List UInt8))).toArray ∧ ρ_ 9 = .int .i64 x101 ∧ token_sign.l1 k a0 k_ x101 = some z102) k (fun ρ_ w_ => ∃ (o_ : Tags), Fm o0 w0 o_ w_ [] ∧ Gl GG o_ w_ ∧ ρ_ 0 = encS a0 ∧ ρ_ 2 = encS ([] : List UInt8) ∧ ρ_ 3 = .int .i64 0 ∧ z102 = .inr ()) ⟨_, 0, HF, hG, rfl, rfl, rfl, rfl, rfl, hz102⟩ ?case103 ?_
  case case103 =>
    rintro ρ118 w116 ⟨o117, HF, hG, s0_101, s2_101, s3_101, rfl⟩
    dsimp only at H
    refine WC.seq ?_
    refine WC.region ?_
    refine WL.ex rfl (ex_move (v := encS a0) s0_101) ?_
    obtain ⟨z119, hz119, H⟩ := bindE H
    refine WL.op rfl ?_
    refine OW.call [encS a0] rfl Tryd.func43 (by kernel_rfl) (by kernel_rfl) (map_cons' rfl rfl) (utf8_DecodeRuneInString.calls _ _ a0 z119 (HF.ten (V := [0]) (L := []) rfl) (Gl.vw (V := [0]) (L := []) hG rfl) hz119) ?_
    rintro _ w120 ⟨o121, rfl, s122⟩
    refine ⟨_, rfl, ?_⟩
    replace s122 := un_stepL (J := []) (L' := []) s122 rfl rfl
    replace hG := hG.step s122 rfl
    replace HF := HF.step s122 rfl
    refine WL.ex rfl (ex_move (v := .tuple #[.int .i32 z119.1, .int .i64 z119.2]) rfl) ?_
    refine WL.ex rfl (ex_extract (vs := #[.int .i32 z119.1, .int .i64 z119.2]) (v := .int .i32 z119.1) rfl rfl) ?_
    refine WL.ex rfl (ex_extract (vs := #[.int .i32 z119.1, .int .i64 z119.2]) (v := .int .i64 z119.2) rfl rfl) ?_
    refine WL.ex rfl (ex_assign (v := .int .i32 z119.1) rfl) ?_
    refine WL.ex rfl (ex_assign (v := .int .i64 z119.2) rfl) ?_
    refine WL.nil ?_
    refine WC.seq ?_
    refine WC.seq ?_
    refine WC.region ?_
    refine WL.ex rfl (ex_move (v := .int .i32 z119.1) rfl) ?_
    refine WL.nil ?_
    refine WC.block ?_
    refine WC.seq ?_
    refine WC.region ?_
    refine WL.ex rfl (ex_bin (a := .int .i32 z119.1) (b := .int .i32 172) (v := .bool (z119.1 == 172)) rfl rfl bin_eql) ?_
    refine WL.ex rfl (ex_assign (v := .bool (z119.1 == 172)) rfl) ?_
    refine WL.nil ?_
    rcases condE H with ⟨c123, H⟩ | ⟨c123, H⟩
    ·
      refine WC.cond_t ((show _ = Value.bool (z119.1 == 172) from rfl).trans (congrArg Value.bool c123)) ?_
      refine WC.seq ?_
      refine WC.region ?_
      refine WL.ex rfl (ex_move (v := .int .i64 z119.2) rfl) ?_
      refine WL.ex rfl (ex_assign (v := encS ([126] : List UInt8)) rfl) ?_
      refine WL.ex rfl (ex_assign (v := .int .i64 z119.2) rfl) ?_
      refine WL.nil ?_
      refine WC.ret ?_
      obtain rfl := Option.some.inj H
      exact ⟨_, (.tmp (encS ([126] : List UInt8) : Value) rfl (.tmp (.int .i64 z119.2 : Value) rfl .nil)), _, rfl, HF.out⟩
    ·
      refine WC.cond_f ((show _ = Value.bool (z119.1 == 172) from rfl).trans (congrArg Value.bool c123)) ?_
      refine WC.seq ?_
      refine WC.region ?_
      refine WL.ex rfl (ex_bin (a := .int .i32 z119.1) (b := .int .i32 8743) (v := .bool (z119.1 == 8743)) rfl rfl bin_eql) ?_
      refine WL.ex rfl (ex_assign (v := .bool (z119.1 == 8743)) rfl) ?_
      refine WL.nil ?_
      rcases condE H with ⟨c124, H⟩ | ⟨c124, H⟩
      ·
        refine WC.cond_t ((show _ = Value.bool (z119.1 == 8743) from rfl).trans (congrArg Value.bool c124)) ?_
        refine WC.seq ?_
        refine WC.region ?_
        refine WL.ex rfl (ex_move (v := .int .i64 z119.2) rfl) ?_
        refine WL.ex rfl (ex_assign (v := encS ([38] : List UInt8)) rfl) ?_
        refine WL.ex rfl (ex_assign (v := .int .i64 z119.2) rfl) ?_
        refine WL.nil ?_
        refine WC.ret ?_
        obtain rfl := Option.some.inj H
        exact ⟨_, (.tmp (encS ([38] : List UInt8) : Value) rfl (.tmp (.int .i64 z119.2 : Value) rfl .nil)), _, rfl, HF.out⟩
      ·
        refine WC.cond_f ((show _ = Value.bool (z119.1 == 8743) from rfl).trans (congrArg Value.bool c124)) ?_
        refine WC.seq ?_
        refine WC.region ?_
        refine WL.ex rfl (ex_bin (a := .int .i32 z119.1) (b := .int .i32 8744) (v := .bool (z119.1 == 8744)) rfl rfl bin_eql) ?_
        refine WL.ex rfl (ex_assign (v := .bool (z119.1 == 8744)) rfl) ?_
        refine WL.nil ?_
        rcases condE H with ⟨c125, H⟩ | ⟨c125, H⟩
        ·
          refine WC.cond_t ((show _ = Value.bool (z119.1 == 8744) from rfl).trans (congrArg Value.bool c125)) ?_
          refine WC.seq ?_
          refine WC.region ?_
          refine WL.ex rfl (ex_move (v := .int .i64 z119.2) rfl) ?_
          refine WL.ex rfl (ex_assign (v := encS ([124] : List UInt8)) rfl) ?_
          refine WL.ex rfl (ex_assign (v := .int .i64 z119.2) rfl) ?_
          refine WL.nil ?_
          refine WC.ret ?_
          obtain rfl := Option.some.inj H
          exact ⟨_, (.tmp (encS ([124] : List UInt8) : Value) rfl (.tmp (.int .i64 z119.2 : Value) rfl .nil)), _, rfl, HF.out⟩
        ·
          refine WC.cond_f ((show _ = Value.bool (z119.1 == 8744) from rfl).trans (congrArg Value.bool c125)) ?_
          refine WC.seq ?_
          refine WC.region ?_
          refine WL.ex rfl (ex_bin (a := .int .i32 z119.1) (b := .int .i32 8594) (v := .bool (z119.1 == 8594)) rfl rfl bin_eql) ?_
          refine WL.ex rfl (ex_assign (v := .bool (z119.1 == 8594)) rfl) ?_
          refine WL.nil ?_
          rcases condE H with ⟨c126, H⟩ | ⟨c126, H⟩
          ·
            refine WC.cond_t ((show _ = Value.bool (z119.1 == 8594) from rfl).trans (congrArg Value.bool c126)) ?_
            refine WC.seq ?_
            refine WC.region ?_
            refine WL.ex rfl (ex_move (v := .int .i64 z119.2) rfl) ?_
            refine WL.ex rfl (ex_assign (v := encS ([45, 62] : List UInt8)) rfl) ?_
            refine WL.ex rfl (ex_assign (v := .int .i64 z119.2) rfl) ?_
            refine WL.nil ?_
            refine WC.ret ?_
            obtain rfl := Option.some.inj H
            exact ⟨_, (.tmp (encS ([45, 62] : List UInt8) : Value) rfl (.tmp (.int .i64 z119.2 : Value) rfl .nil)), _, rfl, HF.out⟩
          ·
            refine WC.cond_f ((show _ = Value.bool (z119.1 == 8594) from rfl).trans (congrArg Value.bool c126)) ?_
            refine WC.seq ?_
            refine WC.region ?_
            refine WL.ex rfl (ex_bin (a := .int .i32 z119.1) (b := .int .i32 8596) (v := .bool (z119.1 == 8596)) rfl rfl bin_eql) ?_
            refine WL.ex rfl (ex_assign (v := .bool (z119.1 == 8596)) rfl) ?_
            refine WL.nil ?_
            rcases condE H with ⟨c127, H⟩ | ⟨c127, H⟩
            ·
              refine WC.cond_t ((show _ = Value.bool (z119.1 == 8596) from rfl).trans (congrArg Value.bool c127)) ?_
              refine WC.seq ?_
              refine WC.region ?_
              refine WL.ex rfl (ex_move (v := .int .i64 z119.2) rfl) ?_
              refine WL.ex rfl (ex_assign (v := encS ([60, 45, 62] : List UInt8)) rfl) ?_
              refine WL.ex rfl (ex_assign (v := .int .i64 z119.2) rfl) ?_
              refine WL.nil ?_
              refine WC.ret ?_
              obtain rfl := Option.some.inj H
              exact ⟨_, (.tmp (encS ([60, 45, 62] : List UInt8) : Value) rfl (.tmp (.int .i64 z119.2 : Value) rfl .nil)), _, rfl, HF.out⟩
            ·
              refine WC.cond_f ((show _ = Value.bool (z119.1 == 8596) from rfl).trans (congrArg Value.bool c127)) ?_
              refine WC.seq ?_
              refine WC.region ?_
              refine WL.ex rfl (ex_bin (a := .int .i32 z119.1) (b := .int .i32 8866) (v := .bool (z119.1 == 8866)) rfl rfl bin_eql) ?_
              refine WL.ex rfl (ex_assign (v := .bool (z119.1 == 8866)) rfl) ?_
              refine WL.nil ?_
              rcases condE H with ⟨c128, H⟩ | ⟨c128, H⟩
              ·
                refine WC.cond_t ((show _ = Value.bool (z119.1 == 8866) from rfl).trans (congrArg Value.bool c128)) ?_
                refine WC.seq ?_
                refine WC.region ?_
                refine WL.ex rfl (ex_move (v := .int .i64 z119.2) rfl) ?_
                refine WL.ex rfl (ex_assign (v := encS ([124, 45] : List UInt8)) rfl) ?_
                refine WL.ex rfl (ex_assign (v := .int .i64 z119.2) rfl) ?_
                refine WL.nil ?_
                refine WC.ret ?_
                obtain rfl := Option.some.inj H
                exact ⟨_, (.tmp (encS ([124, 45] : List UInt8) : Value) rfl (.tmp (.int .i64 z119.2 : Value) rfl .nil)), _, rfl, HF.out⟩
              ·
                refine WC.cond_f ((show _ = Value.bool (z119.1 == 8866) from rfl).trans (congrArg Value.bool c128)) ?_
                refine WC.seq ?_
                refine WC.region ?_
                refine WL.ex rfl (ex_bin (a := .int .i32 z119.1) (b := .int .i32 8804) (v := .bool (z119.1 == 8804)) rfl rfl bin_eql) ?_
                refine WL.ex rfl (ex_assign (v := .bool (z119.1 == 8804)) rfl) ?_
                refine WL.nil ?_
                rcases condE H with ⟨c129, H⟩ | ⟨c129, H⟩
                ·
                  refine WC.cond_t ((show _ = Value.bool (z119.1 == 8804) from rfl).trans (congrArg Value.bool c129)) ?_
                  refine WC.seq ?_
                  refine WC.region ?_
                  refine WL.ex rfl (ex_move (v := .int .i64 z119.2) rfl) ?_
                  refine WL.ex rfl (ex_assign (v := encS ([60, 61] : List UInt8)) rfl) ?_
                  refine WL.ex rfl (ex_assign (v := .int .i64 z119.2) rfl) ?_
                  refine WL.nil ?_
                  refine WC.ret ?_
                  obtain rfl := Option.some.inj H
                  exact ⟨_, (.tmp (encS ([60, 61] : List UInt8) : Value) rfl (.tmp (.int .i64 z119.2 : Value) rfl .nil)), _, rfl, HF.out⟩
                ·
                  refine WC.cond_f ((show _ = Value.bool (z119.1 == 8804) from rfl).trans (congrArg Value.bool c129)) ?_
                  refine WC.skip ?_
                  refine WC.seq ?_
                  refine WC.region ?_
                  refine WL.ex rfl (ex_assign (v := encS ([] : List UInt8)) rfl) ?_
                  refine WL.ex rfl (ex_assign (v := .int .i64 0) rfl) ?_
                  refine WL.nil ?_
                  refine WC.ret ?_
                  obtain rfl := Option.some.inj H
                  exact ⟨_, (.tmp (encS ([] : List UInt8) : Value) rfl (.tmp (.int .i64 0 : Value) rfl .nil)), _, rfl, HF.out⟩
  have Ho104 := H
  rintro k105 ρ106 w107 ⟨o108, x101, HF, hG, s0_100, s2_100, s3_100, s8_100, s9_101, H⟩
  cases k105 with
  | zero => cases H
  | succ k105 =>
  rw [token_sign.l1.eq_2] at H
  refine WC.seq ?_
  refine WC.region ?_
  refine WL.ex rfl (ex_bin (a := .int .i64 x101) (b := .int .i64 20) (v := .bool (decide (x101 < 20))) s9_101 rfl bin_lss) ?_
  refine WL.nil ?_
  refine WC.seq ?_
  rcases condE H with ⟨c109, H⟩ | ⟨c109, H⟩
  ·
    refine WC.cond_t ((show _ = Value.bool (decide (x101 < 20)) from rfl).trans (congrArg Value.bool c109)) ?_
    refine WC.skip ?_
    refine WC.seq ?_
    refine WC.block ?_
    refine WC.seq ?_
    refine WC.region ?_
    obtain ⟨x110, hx110, H⟩ := bindE H
    refine WL.ex rfl (ex_indexAV (enc := encS) (i := x101) s8_100 s9_101 Tryd.underlying80 Tryd.underlying9 rfl sz9 rfl hx110) ?_
    refine WL.ex rfl (ex_assign (v := encS x110) rfl) ?_
    refine WL.nil ?_
    refine WC.seq ?_
    refine WC.region ?_
    refine WL.ex rfl (ex_move (v := encS a0) s0_100) ?_
    refine WL.ex rfl (ex_move (v := encS x110) rfl) ?_
    obtain ⟨z111, hz111, H⟩ := bindE H
    refine WL.op rfl ?_
    refine OW.call [encS a0, encS x110] rfl Tryd.func49 (by kernel_rfl) (by kernel_rfl) (map_cons' rfl (map_cons' rfl rfl)) (strings_HasPrefix.calls _ _ a0 x110 z111 (HF.ten (V := [0]) (L := []) rfl)  hz111) ?_
    rintro _ w112 ⟨o113, rfl, s114⟩
    refine ⟨_, rfl, ?_⟩
    replace s114 := un_stepL (J := []) (L' := []) s114 rfl rfl
    replace hG := hG.step s114 rfl
    replace HF := HF.step s114 rfl
    refine WL.nil ?_
    rcases condE H with ⟨c115, H⟩ | ⟨c115, H⟩
    ·
      refine WC.cond_t ((show _ = Value.bool z111 from rfl).trans (congrArg Value.bool c115)) ?_
      refine WC.seq ?_
      refine WC.region ?_
      refine WL.ex rfl (ex_move (v := encS x110) rfl) ?_
      refine WL.ex rfl (ex_move (v := encS x110) rfl) ?_
      refine WL.ex rfl (ex_len_str (s := x110) rfl Tryd.underlying9) ?_
      refine WL.ex rfl (ex_assign (v := encS x110) rfl) ?_
      refine WL.ex rfl (ex_assign (v := .int .i64 (x110.length : Int)) rfl) ?_
      refine WL.nil ?_
      refine WC.ret ?_
      obtain rfl := Option.some.inj H
      replace H := Ho104
      dsimp only at H
      obtain rfl := Option.some.inj H
      exact ⟨_, (.tmp (encS x110 : Value) rfl (.tmp (.int .i64 (x110.length : Int) : Value) rfl .nil)), _, rfl, HF.out⟩
    ·
      refine WC.cond_f ((show _ = Value.bool z111 from rfl).trans (congrArg Value.bool c115)) ?_
      refine WC.skip ?_
      refine WC.region ?_
      refine WL.ex rfl (ex_bin (a := .int .i64 x101) (b := .int .i64 1) (v := .int .i64 (wrap64 (x101 + 1))) s9_101 rfl bin_add64) ?_
      refine WL.ex rfl (ex_move (v := .int .i64 (wrap64 (x101 + 1))) rfl) ?_
      refine WL.nil ?_
      exact ⟨k105, Nat.lt_succ_self _, ⟨_, wrap64 (x101 + 1), HF, hG, s0_100, s2_100, s3_100, s8_100, rfl, H⟩⟩
  ·
    refine WC.cond_f ((show _ = Value.bool (decide (x101 < 20)) from rfl).trans (congrArg Value.bool c109)) ?_
    refine WC.exit ?_
    obtain rfl := Option.some.inj H
    exact ⟨_, HF, hG, s0_100, s2_100, s3_100, rfl⟩
end Go.Proofs.YtjhmhdedonibbaaDoor.X
