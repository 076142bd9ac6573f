import Derived.Test.YtjhmhdedonibbaaDoorXAW0
set_option maxRecDepth 20000
set_option linter.unusedVariables false
set_option linter.unusedSimpArgs false
set_option linter.unnecessarySimpa false
namespace Go.Proofs.YtjhmhdedonibbaaDoor.X
open Go Go.RowKit Go.Proofs.YtjhmhdedonibbaaDoor.SX
/-! ### dictumref02_number -/
set_option maxRecDepth 100000 in
theorem dictumref02_number.calls (k : Nat) (o0 : Tags) (w0 : World) (a0 : List UInt8) (a1 : Int) (r : T_api_Token × Int × Int) (hO : ∀ b, b < w0.heap.size → o0 b < 10) (H : dictumref02_number.f k a0 a1 = some r) :
    Calls Tryd.prog 44 [encS a0, .int .i64 a1].toArray w0 fun e_ w_ => ∃ (o_ : Tags), e_ = .returned (one [.agg #[.int .i64 r.1.f_Kind, encS r.1.f_Text, .int .i64 r.1.f_Int, .int .i64 r.1.f_At.f_Line, .int .i64 r.1.f_At.f_Col, .int .i64 r.1.f_At.f_Off], .int .i64 r.2.1, .int .i64 r.2.2]) ∧ Step o0 w0 o_ w_ [] := by
  have HF := Fm.refl hO []
  unfold dictumref02_number.f at H
  refine SX.calls [encS a0, .int .i64 a1] Tryd.func44 rfl rfl ?_
  rw [Tryd.ntmps44]
  refine WC.seq ?_
  refine WC.region ?_
  refine WL.op rfl ?_
  refine OW.alloc' [.int .i64 (0 : Int), encS ([] : List UInt8), .int .i64 (0 : Int), .int .i64 (0 : Int), .int .i64 (0 : Int), .int .i64 (0 : Int)] 10 HF rfl zr37 rfl ?_
  intro o102 w103 b101 s104 hB105
  replace HF := HF.step s104 rfl
  refine WL.ex rfl (ex_assign (v := .int .i64 0) rfl) ?_
  refine WL.ex rfl (ex_assign (v := .int .i64 0) rfl) ?_
  refine WL.nil ?_
  refine WC.seq ?_
  refine WC.region ?_
  refine WL.ex rfl (ex_assign (v := .int .i64 0) rfl) ?_
  refine WL.nil ?_
  refine WC.seq ?_
  refine WC.region ?_
  refine WL.ex rfl (ex_move (v := .int .i64 a1) rfl) ?_
  refine WL.ex rfl (ex_assign (v := .int .i64 a1) rfl) ?_
  refine WL.nil ?_
  refine WC.seq ?_
  obtain ⟨z110, hz110, H⟩ := bindE H
  obtain ⟨x108, x109⟩ := z110
  refine WC.for (fun k_ ρ_ w_ => ∃ (o_ : Tags) (x106 : Int) (x107 : Int), Fm o0 w0 o_ w_ [] ∧ Bk o_ w_ 10 b101 [.int .i64 (0 : Int), encS ([] : List UInt8), .int .i64 (0 : Int), .int .i64 (0 : Int), .int .i64 (0 : Int), .int .i64 (0 : Int)] 37 ∧ ρ_ 0 = encS a0 ∧ ρ_ 1 = .int .i64 a1 ∧ ρ_ 4 = .pointer (some ⟨b101, 0, none⟩) ∧ ρ_ 5 = .int .i64 0 ∧ ρ_ 6 = .int .i64 0 ∧ ρ_ 7 = .int .i64 x106 ∧ ρ_ 8 = .int .i64 x107 ∧ dictumref02_number.l1 k a0 k_ x106 x107 = some (x108, x109)) k (fun ρ_ w_ => ∃ (o_ : Tags), Fm o0 w0 o_ w_ [] ∧ Bk o_ w_ 10 b101 [.int .i64 (0 : Int), encS ([] : List UInt8), .int .i64 (0 : Int), .int .i64 (0 : Int), .int .i64 (0 : Int), .int .i64 (0 : Int)] 37 ∧ ρ_ 0 = encS a0 ∧ ρ_ 1 = .int .i64 a1 ∧ ρ_ 4 = .pointer (some ⟨b101, 0, none⟩) ∧ ρ_ 5 = .int .i64 0 ∧ ρ_ 6 = .int .i64 0 ∧ ρ_ 7 = .int .i64 x108 ∧ ρ_ 8 = .int .i64 x109) ⟨_, 0, a1, HF, hB105, rfl, rfl, rfl, rfl, rfl, rfl, rfl, hz110⟩ ?case111 ?_
  case case111 =>
    rintro ρ142 w140 ⟨o141, HF, hB105, s0_107, s1_107, s4_107, s5_107, s6_107, s7_108, s8_109⟩
    refine WC.seq ?_
    obtain ⟨z144, hz144, H⟩ := bindE H
    refine WC.cut (fun ρ_ w_ => ∃ (o_ : Tags), Fm o0 w0 o_ w_ [] ∧ Bk o_ w_ 10 b101 [.int .i64 (0 : Int), encS ([] : List UInt8), .int .i64 (0 : Int), .int .i64 (0 : Int), .int .i64 (0 : Int), .int .i64 (0 : Int)] 37 ∧ ρ_ 4 = .pointer (some ⟨b101, 0, none⟩) ∧ ρ_ 5 = .int .i64 0 ∧ ρ_ 6 = .int .i64 0 ∧ ρ_ 7 = .int .i64 x108 ∧ ρ_ 8 = .int .i64 x109 ∧ ρ_ 57 = .bool z144) ?case145 ?_
    case case145 =>
      rintro ρ148 w146 ⟨o147, HF, hB105, s4_142, s5_142, s6_142, s7_142, s8_142, s57_143⟩
      rcases condE H with ⟨c149, H⟩ | ⟨c149, H⟩
      ·
        refine WC.cond_t ((show _ = Value.bool z144 from s57_143).trans (congrArg Value.bool c149)) ?_
        refine WC.seq ?_
        refine WC.region ?_
        refine WL.ex rfl (ex_build (cs := [.int .i64 (0 : Int), encS ([] : List UInt8), .int .i64 (0 : Int), .int .i64 (0 : Int), .int .i64 (0 : Int), .int .i64 (0 : Int)]) [(0, 1), (1, 1), (2, 1), (3, 3)] [] [.int .i64 0, .string ⟨#[]⟩, .int .i64 0, .int .i64 0, .int .i64 0, .int .i64 0] Tryd.underlying37 zr37 rfl (by kernel_rfl) rfl rfl) ?_
        refine WL.ex rfl (ex_move (v := .int .i64 x109) s8_142) ?_
        refine WL.op rfl ?_
        refine OW.store [.int .i64 (0 : Int), encS ([] : List UInt8), .int .i64 (0 : Int), .int .i64 (0 : Int), .int .i64 (0 : Int), .int .i64 (0 : Int)] s4_142 (vs := [.int .i64 (0 : Int), encS ([] : List UInt8), .int .i64 (0 : Int), .int .i64 (0 : Int), .int .i64 (0 : Int), .int .i64 (0 : Int)]) ((congrArg Value.cells (show ev _ _ = (.agg #[.int .i64 (0 : Int), encS ([] : List UInt8), .int .i64 (0 : Int), .int .i64 (0 : Int), .int .i64 (0 : Int), .int .i64 (0 : Int)] : Value) from rfl)).trans rfl) sz37 hB105 (Nat.le_of_ble_eq_true rfl) (by intro u_ hu_; simp only [List.mem_cons, List.not_mem_nil, or_false] at hu_; rcases hu_ with rfl | rfl | rfl | rfl | rfl | rfl <;> first | rfl) rfl ?_
        intro w150 s151 hB152
        replace HF := HF.step s151 rfl
        refine WL.ex rfl (ex_assign (v := .int .i64 x109) rfl) ?_
        refine WL.ex rfl (ex_assign (v := .int .i64 21) rfl) ?_
        refine WL.nil ?_
        refine WC.ret ?_
        obtain rfl := Option.some.inj H
        exact ⟨_, (.cell (.agg #[.int .i64 (0 : Int), encS ([] : List UInt8), .int .i64 (0 : Int), .int .i64 (0 : Int), .int .i64 (0 : Int), .int .i64 (0 : Int)] : Value) s4_142 (run_loadN (cs := [.int .i64 (0 : Int), encS ([] : List UInt8), .int .i64 (0 : Int), .int .i64 (0 : Int), .int .i64 (0 : Int), .int .i64 (0 : Int)]) Tryd.underlying37 rfl sz37 (hB152.cells rfl)) (.tmp (.int .i64 x109 : Value) rfl (.tmp (.int .i64 21 : Value) rfl .nil))), _, rfl, HF.out⟩
      ·
        refine WC.cond_f ((show _ = Value.bool z144 from s57_143).trans (congrArg Value.bool c149)) ?_
        refine WC.skip ?_
        refine WC.seq ?_
        refine WC.region ?_
        refine WL.ex rfl (ex_move (v := .int .i64 x108) s7_142) ?_
        refine WL.ex rfl (ex_build (cs := [.int .i64 2, encS ([] : List UInt8), .int .i64 x108, .int .i64 (0 : Int), .int .i64 (0 : Int), .int .i64 (0 : Int)]) [(0, 1), (1, 1), (2, 1), (3, 3)] [(0, .int .i64 2), (2, .int .i64 x108)] [.int .i64 0, .string ⟨#[]⟩, .int .i64 0, .int .i64 0, .int .i64 0, .int .i64 0] Tryd.underlying37 zr37 rfl (by kernel_rfl) (evs_cons rfl (evs_cons rfl rfl)) rfl) ?_
        refine WL.ex rfl (ex_move (v := .int .i64 x109) s8_142) ?_
        refine WL.op rfl ?_
        refine OW.store [.int .i64 2, encS ([] : List UInt8), .int .i64 x108, .int .i64 (0 : Int), .int .i64 (0 : Int), .int .i64 (0 : Int)] s4_142 (vs := [.int .i64 2, encS ([] : List UInt8), .int .i64 x108, .int .i64 (0 : Int), .int .i64 (0 : Int), .int .i64 (0 : Int)]) ((congrArg Value.cells (show ev _ _ = (.agg #[.int .i64 2, encS ([] : List UInt8), .int .i64 x108, .int .i64 (0 : Int), .int .i64 (0 : Int), .int .i64 (0 : Int)] : Value) from rfl)).trans rfl) sz37 hB105 (Nat.le_of_ble_eq_true rfl) (by intro u_ hu_; simp only [List.mem_cons, List.not_mem_nil, or_false] at hu_; rcases hu_ with rfl | rfl | rfl | rfl | rfl | rfl <;> first | rfl) rfl ?_
        intro w153 s154 hB155
        replace HF := HF.step s154 rfl
        refine WL.ex rfl (ex_assign (v := .int .i64 x109) rfl) ?_
        refine WL.ex rfl (ex_assign (v := .int .i64 0) rfl) ?_
        refine WL.nil ?_
        refine WC.ret ?_
        obtain rfl := Option.some.inj H
        exact ⟨_, (.cell (.agg #[.int .i64 2, encS ([] : List UInt8), .int .i64 x108, .int .i64 (0 : Int), .int .i64 (0 : Int), .int .i64 (0 : Int)] : Value) s4_142 (run_loadN (cs := [.int .i64 2, encS ([] : List UInt8), .int .i64 x108, .int .i64 (0 : Int), .int .i64 (0 : Int), .int .i64 (0 : Int)]) Tryd.underlying37 rfl sz37 (hB155.cells rfl)) (.tmp (.int .i64 x109 : Value) rfl (.tmp (.int .i64 0 : Value) rfl .nil))), _, rfl, HF.out⟩
    have Ho156 := H
    replace H := hz144
    refine WC.region ?_
    refine WL.ex rfl (ex_move (v := encS a0) s0_107) ?_
    refine WL.ex rfl (ex_move (v := .int .i64 a1) s1_107) ?_
    obtain ⟨x157, hx157, H⟩ := bindE H
    refine WL.ex rfl (ex_index_str (i := a1) rfl rfl Tryd.underlying9 (ix_some hx157).1 (ix_some hx157).2.2) ?_
    refine WL.ex rfl (ex_bin (a := enc8 x157) (b := enc8 (48 : UInt8)) (v := .bool (x157 == (48 : UInt8))) rfl rfl bin_eql_u8) ?_
    refine WL.ex rfl (ex_move (v := .bool (x157 == (48 : UInt8))) rfl) ?_
    rcases condE H with ⟨c158, H⟩ | ⟨c158, H⟩
    ·
      refine WL.guardYes rfl rfl rfl ((show _ = Value.bool (x157 == (48 : UInt8)) from rfl).trans (congrArg Value.bool c158)) ?_
      refine OW.ex rfl (ex_move (v := .int .i64 x109) s8_109) ?_
      refine WL.guardYes rfl rfl rfl ((show _ = Value.bool (x157 == (48 : UInt8)) from rfl).trans (congrArg Value.bool c158)) ?_
      refine OW.ex rfl (ex_move (v := .int .i64 a1) s1_107) ?_
      refine WL.guardYes rfl rfl rfl ((show _ = Value.bool (x157 == (48 : UInt8)) from rfl).trans (congrArg Value.bool c158)) ?_
      refine OW.ex rfl (ex_bin (a := .int .i64 a1) (b := .int .i64 1) (v := .int .i64 (wrap64 (a1 + 1))) rfl rfl bin_add64) ?_
      refine WL.guardYes rfl rfl rfl ((show _ = Value.bool (x157 == (48 : UInt8)) from rfl).trans (congrArg Value.bool c158)) ?_
      refine OW.ex rfl (ex_bin (a := .int .i64 x109) (b := .int .i64 (wrap64 (a1 + 1))) (v := .bool (decide (x109 > (wrap64 (a1 + 1))))) rfl rfl bin_gtr) ?_
      refine WL.ex rfl (ex_pick_t (v := .bool (decide (x109 > (wrap64 (a1 + 1))))) ((show _ = Value.bool (x157 == (48 : UInt8)) from rfl).trans (congrArg Value.bool c158)) rfl) ?_
      refine WL.ex rfl (ex_move (v := .bool (decide (x109 > (wrap64 (a1 + 1))))) rfl) ?_
      rcases condE H with ⟨c159, H⟩ | ⟨c159, H⟩
      ·
        refine WL.guardNo rfl rfl rfl ((show _ = Value.bool (decide (x109 > (wrap64 (a1 + 1)))) from rfl).trans (congrArg Value.bool c159)) ?_
        refine WL.guardNo rfl rfl rfl ((show _ = Value.bool (decide (x109 > (wrap64 (a1 + 1)))) from rfl).trans (congrArg Value.bool c159)) ?_
        refine WL.ex rfl (ex_pick_t (v := .bool true) ((show _ = Value.bool (decide (x109 > (wrap64 (a1 + 1)))) from rfl).trans (congrArg Value.bool c159)) rfl) ?_
        refine WL.ex rfl (ex_move (v := .bool true) rfl) ?_
        refine WL.guardNo rfl rfl rfl rfl ?_
        refine WL.guardNo rfl rfl rfl rfl ?_
        refine WL.guardNo rfl rfl rfl rfl ?_
        refine WL.guardNo rfl rfl rfl rfl ?_
        refine WL.guardNo rfl rfl rfl rfl ?_
        refine WL.guardUn rfl rfl rfl rfl ?_
        refine WL.guardUn rfl rfl rfl rfl ?_
        refine WL.guardUn rfl rfl rfl rfl ?_
        refine WL.guardUn rfl rfl rfl rfl ?_
        refine WL.guardNo rfl rfl rfl rfl ?_
        refine WL.ex rfl (ex_pick_t (v := .bool true) rfl rfl) ?_
        refine WL.nil ?_
        obtain rfl := Option.some.inj H
        exact ⟨_, HF, hB105, s4_107, s5_107, s6_107, s7_108, s8_109, rfl⟩
      ·
        refine WL.guardYes rfl rfl rfl ((show _ = Value.bool (decide (x109 > (wrap64 (a1 + 1)))) from rfl).trans (congrArg Value.bool c159)) ?_
        refine OW.ex rfl (ex_move (v := .int .i64 x108) s7_108) ?_
        refine WL.guardYes rfl rfl rfl ((show _ = Value.bool (decide (x109 > (wrap64 (a1 + 1)))) from rfl).trans (congrArg Value.bool c159)) ?_
        refine OW.ex rfl (ex_bin (a := .int .i64 x108) (b := .int .i64 999999999) (v := .bool (decide (x108 > 999999999))) rfl rfl bin_gtr) ?_
        refine WL.ex rfl (ex_pick_f (v := .bool (decide (x108 > 999999999))) ((show _ = Value.bool (decide (x109 > (wrap64 (a1 + 1)))) from rfl).trans (congrArg Value.bool c159)) rfl) ?_
        refine WL.ex rfl (ex_move (v := .bool (decide (x108 > 999999999))) rfl) ?_
        rcases condE H with ⟨c160, H⟩ | ⟨c160, H⟩
        ·
          refine WL.guardNo rfl rfl rfl ((show _ = Value.bool (decide (x108 > 999999999)) from rfl).trans (congrArg Value.bool c160)) ?_
          refine WL.guardNo rfl rfl rfl ((show _ = Value.bool (decide (x108 > 999999999)) from rfl).trans (congrArg Value.bool c160)) ?_
          refine WL.guardNo rfl rfl rfl ((show _ = Value.bool (decide (x108 > 999999999)) from rfl).trans (congrArg Value.bool c160)) ?_
          refine WL.guardNo rfl rfl rfl ((show _ = Value.bool (decide (x108 > 999999999)) from rfl).trans (congrArg Value.bool c160)) ?_
          refine WL.guardNo rfl rfl rfl ((show _ = Value.bool (decide (x108 > 999999999)) from rfl).trans (congrArg Value.bool c160)) ?_
          refine WL.guardUn rfl rfl rfl rfl ?_
          refine WL.guardUn rfl rfl rfl rfl ?_
          refine WL.guardUn rfl rfl rfl rfl ?_
          refine WL.guardUn rfl rfl rfl rfl ?_
          refine WL.guardNo rfl rfl rfl ((show _ = Value.bool (decide (x108 > 999999999)) from rfl).trans (congrArg Value.bool c160)) ?_
          refine WL.ex rfl (ex_pick_t (v := .bool true) ((show _ = Value.bool (decide (x108 > 999999999)) from rfl).trans (congrArg Value.bool c160)) rfl) ?_
          refine WL.nil ?_
          obtain rfl := Option.some.inj H
          exact ⟨_, HF, hB105, s4_107, s5_107, s6_107, s7_108, s8_109, rfl⟩
        ·
          refine WL.guardYes rfl rfl rfl ((show _ = Value.bool (decide (x108 > 999999999)) from rfl).trans (congrArg Value.bool c160)) ?_
          refine OW.ex rfl (ex_move (v := .int .i64 x109) s8_109) ?_
          refine WL.guardYes rfl rfl rfl ((show _ = Value.bool (decide (x108 > 999999999)) from rfl).trans (congrArg Value.bool c160)) ?_
          refine OW.ex rfl (ex_move (v := encS a0) s0_107) ?_
          refine WL.guardYes rfl rfl rfl ((show _ = Value.bool (decide (x108 > 999999999)) from rfl).trans (congrArg Value.bool c160)) ?_
          refine OW.ex rfl (ex_len_str (s := a0) rfl Tryd.underlying9) ?_
          refine WL.guardYes rfl rfl rfl ((show _ = Value.bool (decide (x108 > 999999999)) from rfl).trans (congrArg Value.bool c160)) ?_
          refine OW.ex rfl (ex_bin (a := .int .i64 x109) (b := .int .i64 (a0.length : Int)) (v := .bool (decide (x109 < (a0.length : Int)))) rfl rfl bin_lss) ?_
          refine WL.guardYes rfl rfl rfl ((show _ = Value.bool (decide (x108 > 999999999)) from rfl).trans (congrArg Value.bool c160)) ?_
          refine OW.ex rfl (ex_move (v := .bool (decide (x109 < (a0.length : Int)))) rfl) ?_
          rcases condE H with ⟨c161, H⟩ | ⟨c161, H⟩
          ·
            refine WL.guardYes rfl rfl rfl ((show _ = Value.bool (decide (x109 < (a0.length : Int))) from rfl).trans (congrArg Value.bool c161)) ?_
            refine OW.ex rfl (ex_move (v := encS a0) s0_107) ?_
            refine WL.guardYes rfl rfl rfl ((show _ = Value.bool (decide (x109 < (a0.length : Int))) from rfl).trans (congrArg Value.bool c161)) ?_
            refine OW.ex rfl (ex_move (v := .int .i64 x109) s8_109) ?_
            refine WL.guardYes rfl rfl rfl ((show _ = Value.bool (decide (x109 < (a0.length : Int))) from rfl).trans (congrArg Value.bool c161)) ?_
            obtain ⟨x162, hx162, H⟩ := bindE H
            refine OW.ex rfl (ex_index_str (i := x109) rfl rfl Tryd.underlying9 (ix_some hx162).1 (ix_some hx162).2.2) ?_
            refine WL.guardYes rfl rfl rfl ((show _ = Value.bool (decide (x109 < (a0.length : Int))) from rfl).trans (congrArg Value.bool c161)) ?_
            obtain ⟨z163, hz163, H⟩ := bindE H
            refine OW.call [enc8 x162] rfl Tryd.func25 (by kernel_rfl) (by kernel_rfl) (map_cons' rfl rfl) (dictumref02_within.calls _ _ x162 z163 (HF.ten (V := [0]) (L := []) rfl)  hz163) ?_
            rintro _ w164 ⟨o165, rfl, s166⟩
            refine ⟨_, rfl, ?_⟩
            replace s166 := un_stepL (J := []) (L' := []) s166 rfl rfl
            replace hB105 := hB105.step s166 rfl
            replace HF := HF.step s166 rfl
            refine WL.guardYes rfl rfl rfl ((show _ = Value.bool (decide (x108 > 999999999)) from rfl).trans (congrArg Value.bool c160)) ?_
            refine OW.ex rfl (ex_pick_t (v := .bool z163) ((show _ = Value.bool (decide (x109 < (a0.length : Int))) from rfl).trans (congrArg Value.bool c161)) rfl) ?_
            refine WL.ex rfl (ex_pick_f (v := .bool z163) ((show _ = Value.bool (decide (x108 > 999999999)) from rfl).trans (congrArg Value.bool c160)) rfl) ?_
            refine WL.nil ?_
            obtain rfl := Option.some.inj H
            exact ⟨_, HF, hB105, s4_107, s5_107, s6_107, s7_108, s8_109, rfl⟩
          ·
            refine WL.guardNo rfl rfl rfl ((show _ = Value.bool (decide (x109 < (a0.length : Int))) from rfl).trans (congrArg Value.bool c161)) ?_
            refine WL.guardNo rfl rfl rfl ((show _ = Value.bool (decide (x109 < (a0.length : Int))) from rfl).trans (congrArg Value.bool c161)) ?_
            refine WL.guardNo rfl rfl rfl ((show _ = Value.bool (decide (x109 < (a0.length : Int))) from rfl).trans (congrArg Value.bool c161)) ?_
            refine WL.guardNo rfl rfl rfl ((show _ = Value.bool (decide (x109 < (a0.length : Int))) from rfl).trans (congrArg Value.bool c161)) ?_
            refine WL.guardYes rfl rfl rfl ((show _ = Value.bool (decide (x108 > 999999999)) from rfl).trans (congrArg Value.bool c160)) ?_
            refine OW.ex rfl (ex_pick_f (v := .bool false) ((show _ = Value.bool (decide (x109 < (a0.length : Int))) from rfl).trans (congrArg Value.bool c161)) rfl) ?_
            refine WL.ex rfl (ex_pick_f (v := .bool false) ((show _ = Value.bool (decide (x108 > 999999999)) from rfl).trans (congrArg Value.bool c160)) rfl) ?_
            refine WL.nil ?_
            obtain rfl := Option.some.inj H
            exact ⟨_, HF, hB105, s4_107, s5_107, s6_107, s7_108, s8_109, rfl⟩
    ·
      refine WL.guardNo rfl rfl rfl ((show _ = Value.bool (x157 == (48 : UInt8)) from rfl).trans (congrArg Value.bool c158)) ?_
      refine WL.guardNo rfl rfl rfl ((show _ = Value.bool (x157 == (48 : UInt8)) from rfl).trans (congrArg Value.bool c158)) ?_
      refine WL.guardNo rfl rfl rfl ((show _ = Value.bool (x157 == (48 : UInt8)) from rfl).trans (congrArg Value.bool c158)) ?_
      refine WL.guardNo rfl rfl rfl ((show _ = Value.bool (x157 == (48 : UInt8)) from rfl).trans (congrArg Value.bool c158)) ?_
      refine WL.ex rfl (ex_pick_f (v := .bool false) ((show _ = Value.bool (x157 == (48 : UInt8)) from rfl).trans (congrArg Value.bool c158)) rfl) ?_
      refine WL.ex rfl (ex_move (v := .bool false) rfl) ?_
      refine WL.guardYes rfl rfl rfl rfl ?_
      refine OW.ex rfl (ex_move (v := .int .i64 x108) s7_108) ?_
      refine WL.guardYes rfl rfl rfl rfl ?_
      refine OW.ex rfl (ex_bin (a := .int .i64 x108) (b := .int .i64 999999999) (v := .bool (decide (x108 > 999999999))) rfl rfl bin_gtr) ?_
      refine WL.ex rfl (ex_pick_f (v := .bool (decide (x108 > 999999999))) rfl rfl) ?_
      refine WL.ex rfl (ex_move (v := .bool (decide (x108 > 999999999))) rfl) ?_
      rcases condE H with ⟨c167, H⟩ | ⟨c167, H⟩
      ·
        refine WL.guardNo rfl rfl rfl ((show _ = Value.bool (decide (x108 > 999999999)) from rfl).trans (congrArg Value.bool c167)) ?_
        refine WL.guardNo rfl rfl rfl ((show _ = Value.bool (decide (x108 > 999999999)) from rfl).trans (congrArg Value.bool c167)) ?_
        refine WL.guardNo rfl rfl rfl ((show _ = Value.bool (decide (x108 > 999999999)) from rfl).trans (congrArg Value.bool c167)) ?_
        refine WL.guardNo rfl rfl rfl ((show _ = Value.bool (decide (x108 > 999999999)) from rfl).trans (congrArg Value.bool c167)) ?_
        refine WL.guardNo rfl rfl rfl ((show _ = Value.bool (decide (x108 > 999999999)) from rfl).trans (congrArg Value.bool c167)) ?_
        refine WL.guardUn rfl rfl rfl rfl ?_
        refine WL.guardUn rfl rfl rfl rfl ?_
        refine WL.guardUn rfl rfl rfl rfl ?_
        refine WL.guardUn rfl rfl rfl rfl ?_
        refine WL.guardNo rfl rfl rfl ((show _ = Value.bool (decide (x108 > 999999999)) from rfl).trans (congrArg Value.bool c167)) ?_
        refine WL.ex rfl (ex_pick_t (v := .bool true) ((show _ = Value.bool (decide (x108 > 999999999)) from rfl).trans (congrArg Value.bool c167)) rfl) ?_
        refine WL.nil ?_
        obtain rfl := Option.some.inj H
        exact ⟨_, HF, hB105, s4_107, s5_107, s6_107, s7_108, s8_109, rfl⟩
      ·
        refine WL.guardYes rfl rfl rfl ((show _ = Value.bool (decide (x108 > 999999999)) from rfl).trans (congrArg Value.bool c167)) ?_
        refine OW.ex rfl (ex_move (v := .int .i64 x109) s8_109) ?_
        refine WL.guardYes rfl rfl rfl ((show _ = Value.bool (decide (x108 > 999999999)) from rfl).trans (congrArg Value.bool c167)) ?_
        refine OW.ex rfl (ex_move (v := encS a0) s0_107) ?_
        refine WL.guardYes rfl rfl rfl ((show _ = Value.bool (decide (x108 > 999999999)) from rfl).trans (congrArg Value.bool c167)) ?_
        refine OW.ex rfl (ex_len_str (s := a0) rfl Tryd.underlying9) ?_
        refine WL.guardYes rfl rfl rfl ((show _ = Value.bool (decide (x108 > 999999999)) from rfl).trans (congrArg Value.bool c167)) ?_
        refine OW.ex rfl (ex_bin (a := .int .i64 x109) (b := .int .i64 (a0.length : Int)) (v := .bool (decide (x109 < (a0.length : Int)))) rfl rfl bin_lss) ?_
        refine WL.guardYes rfl rfl rfl ((show _ = Value.bool (decide (x108 > 999999999)) from rfl).trans (congrArg Value.bool c167)) ?_
        refine OW.ex rfl (ex_move (v := .bool (decide (x109 < (a0.length : Int)))) rfl) ?_
        rcases condE H with ⟨c168, H⟩ | ⟨c168, H⟩
        ·
          refine WL.guardYes rfl rfl rfl ((show _ = Value.bool (decide (x109 < (a0.length : Int))) from rfl).trans (congrArg Value.bool c168)) ?_
          refine OW.ex rfl (ex_move (v := encS a0) s0_107) ?_
          refine WL.guardYes rfl rfl rfl ((show _ = Value.bool (decide (x109 < (a0.length : Int))) from rfl).trans (congrArg Value.bool c168)) ?_
          refine OW.ex rfl (ex_move (v := .int .i64 x109) s8_109) ?_
          refine WL.guardYes rfl rfl rfl ((show _ = Value.bool (decide (x109 < (a0.length : Int))) from rfl).trans (congrArg Value.bool c168)) ?_
          obtain ⟨x169, hx169, H⟩ := bindE H
          refine OW.ex rfl (ex_index_str (i := x109) rfl rfl Tryd.underlying9 (ix_some hx169).1 (ix_some hx169).2.2) ?_
          refine WL.guardYes rfl rfl rfl ((show _ = Value.bool (decide (x109 < (a0.length : Int))) from rfl).trans (congrArg Value.bool c168)) ?_
          obtain ⟨z170, hz170, H⟩ := bindE H
          refine OW.call [enc8 x169] rfl Tryd.func25 (by kernel_rfl) (by kernel_rfl) (map_cons' rfl rfl) (dictumref02_within.calls _ _ x169 z170 (HF.ten (V := [0]) (L := []) rfl)  hz170) ?_
          rintro _ w171 ⟨o172, rfl, s173⟩
          refine ⟨_, rfl, ?_⟩
          replace s173 := un_stepL (J := []) (L' := []) s173 rfl rfl
          replace hB105 := hB105.step s173 rfl
          replace HF := HF.step s173 rfl
          refine WL.guardYes rfl rfl rfl ((show _ = Value.bool (decide (x108 > 999999999)) from rfl).trans (congrArg Value.bool c167)) ?_
          refine OW.ex rfl (ex_pick_t (v := .bool z170) ((show _ = Value.bool (decide (x109 < (a0.length : Int))) from rfl).trans (congrArg Value.bool c168)) rfl) ?_
          refine WL.ex rfl (ex_pick_f (v := .bool z170) ((show _ = Value.bool (decide (x108 > 999999999)) from rfl).trans (congrArg Value.bool c167)) rfl) ?_
          refine WL.nil ?_
          obtain rfl := Option.some.inj H
          exact ⟨_, HF, hB105, s4_107, s5_107, s6_107, s7_108, s8_109, rfl⟩
        ·
          refine WL.guardNo rfl rfl rfl ((show _ = Value.bool (decide (x109 < (a0.length : Int))) from rfl).trans (congrArg Value.bool c168)) ?_
          refine WL.guardNo rfl rfl rfl ((show _ = Value.bool (decide (x109 < (a0.length : Int))) from rfl).trans (congrArg Value.bool c168)) ?_
          refine WL.guardNo rfl rfl rfl ((show _ = Value.bool (decide (x109 < (a0.length : Int))) from rfl).trans (congrArg Value.bool c168)) ?_
          refine WL.guardNo rfl rfl rfl ((show _ = Value.bool (decide (x109 < (a0.length : Int))) from rfl).trans (congrArg Value.bool c168)) ?_
          refine WL.guardYes rfl rfl rfl ((show _ = Value.bool (decide (x108 > 999999999)) from rfl).trans (congrArg Value.bool c167)) ?_
          refine OW.ex rfl (ex_pick_f (v := .bool false) ((show _ = Value.bool (decide (x109 < (a0.length : Int))) from rfl).trans (congrArg Value.bool c168)) rfl) ?_
          refine WL.ex rfl (ex_pick_f (v := .bool false) ((show _ = Value.bool (decide (x108 > 999999999)) from rfl).trans (congrArg Value.bool c167)) rfl) ?_
          refine WL.nil ?_
          obtain rfl := Option.some.inj H
          exact ⟨_, HF, hB105, s4_107, s5_107, s6_107, s7_108, s8_109, rfl⟩
  have Ho112 := H
  rintro k113 ρ114 w115 ⟨o116, x106, x107, HF, hB105, s0_105, s1_105, s4_105, s5_105, s6_105, s7_106, s8_107, H⟩
  cases k113 with
  | zero => cases H
  | succ k113 =>
  rw [dictumref02_number.l1.eq_2] at H
  refine WC.seq ?_
  obtain ⟨z118, hz118, H⟩ := bindE H
  refine WC.cut (fun ρ_ w_ => ∃ (o_ : Tags), Fm o0 w0 o_ w_ [] ∧ Bk o_ w_ 10 b101 [.int .i64 (0 : Int), encS ([] : List UInt8), .int .i64 (0 : Int), .int .i64 (0 : Int), .int .i64 (0 : Int), .int .i64 (0 : Int)] 37 ∧ ρ_ 0 = encS a0 ∧ ρ_ 1 = .int .i64 a1 ∧ ρ_ 4 = .pointer (some ⟨b101, 0, none⟩) ∧ ρ_ 5 = .int .i64 0 ∧ ρ_ 6 = .int .i64 0 ∧ ρ_ 7 = .int .i64 x106 ∧ ρ_ 8 = .int .i64 x107 ∧ ρ_ 19 = .bool z118) ?case119 ?_
  case case119 =>
    rintro ρ122 w120 ⟨o121, HF, hB105, s0_116, s1_116, s4_116, s5_116, s6_116, s7_116, s8_116, s19_117⟩
    rcases condE H with ⟨c123, H⟩ | ⟨c123, H⟩
    ·
      refine WC.cond_t ((show _ = Value.bool z118 from s19_117).trans (congrArg Value.bool c123)) ?_
      refine WC.skip ?_
      refine WC.block ?_
      obtain ⟨z125, hz125, H⟩ := bindE H
      refine WC.cut (fun ρ_ w_ => ∃ (o_ : Tags), Fm o0 w0 o_ w_ [] ∧ Bk o_ w_ 10 b101 [.int .i64 (0 : Int), encS ([] : List UInt8), .int .i64 (0 : Int), .int .i64 (0 : Int), .int .i64 (0 : Int), .int .i64 (0 : Int)] 37 ∧ ρ_ 0 = encS a0 ∧ ρ_ 1 = .int .i64 a1 ∧ ρ_ 4 = .pointer (some ⟨b101, 0, none⟩) ∧ ρ_ 5 = .int .i64 0 ∧ ρ_ 6 = .int .i64 0 ∧ ρ_ 7 = .int .i64 z125 ∧ ρ_ 8 = .int .i64 x107) ?case126 ?_
      case case126 =>
        rintro ρ129 w127 ⟨o128, HF, hB105, s0_123, s1_123, s4_123, s5_123, s6_123, s7_124, s8_124⟩
        refine WC.region ?_
        refine WL.ex rfl (ex_move (v := .int .i64 x107) s8_124) ?_
        refine WL.ex rfl (ex_bin (a := .int .i64 x107) (b := .int .i64 1) (v := .int .i64 (wrap64 (x107 + 1))) rfl rfl bin_add64) ?_
        refine WL.ex rfl (ex_assign (v := .int .i64 (wrap64 (x107 + 1))) rfl) ?_
        refine WL.nil ?_
        exact ⟨k113, Nat.lt_succ_self _, ⟨_, z125, wrap64 (x107 + 1), HF, hB105, s0_123, s1_123, s4_123, s5_123, s6_123, s7_124, rfl, H⟩⟩
      have Ho130 := H
      replace H := hz125
      refine WC.seq ?_
      refine WC.region ?_
      refine WL.ex rfl (ex_move (v := .int .i64 x106) s7_116) ?_
      refine WL.ex rfl (ex_bin (a := .int .i64 x106) (b := .int .i64 999999999) (v := .bool (decide (x106 ≤ 999999999))) rfl rfl bin_leq) ?_
      refine WL.nil ?_
      rcases condE H with ⟨c131, H⟩ | ⟨c131, H⟩
      ·
        refine WC.cond_t ((show _ = Value.bool (decide (x106 ≤ 999999999)) from rfl).trans (congrArg Value.bool c131)) ?_
        refine WC.region ?_
        refine WL.ex rfl (ex_move (v := .int .i64 x106) s7_116) ?_
        refine WL.ex rfl (ex_bin (a := .int .i64 10) (b := .int .i64 x106) (v := .int .i64 (wrap64 (10 * x106))) rfl rfl bin_mul64) ?_
        refine WL.ex rfl (ex_move (v := encS a0) s0_116) ?_
        refine WL.ex rfl (ex_move (v := .int .i64 x107) s8_116) ?_
        obtain ⟨x132, hx132, H⟩ := bindE H
        refine WL.ex rfl (ex_index_str (i := x107) rfl rfl Tryd.underlying9 (ix_some hx132).1 (ix_some hx132).2.2) ?_
        refine WL.ex rfl (ex_bin (a := enc8 x132) (b := enc8 (48 : UInt8)) (v := enc8 (x132 - (48 : UInt8))) rfl rfl bin_sub_u8) ?_
        refine WL.ex rfl (ex_conv_small (a := ((x132 - (48 : UInt8)).toNat : Int)) rfl Tryd.underlying5 Tryd.underlying3 (small8 (x132 - (48 : UInt8)))) ?_
        refine WL.ex rfl (ex_bin (a := .int .i64 (wrap64 (10 * x106))) (b := .int .i64 ((x132 - (48 : UInt8)).toNat : Int)) (v := .int .i64 (wrap64 ((wrap64 (10 * x106)) + ((x132 - (48 : UInt8)).toNat : Int)))) rfl rfl bin_add64) ?_
        refine WL.ex rfl (ex_assign (v := .int .i64 (wrap64 ((wrap64 (10 * x106)) + ((x132 - (48 : UInt8)).toNat : Int)))) rfl) ?_
        refine WL.nil ?_
        obtain rfl := Option.some.inj H
        exact ⟨_, HF, hB105, s0_116, s1_116, s4_116, s5_116, s6_116, rfl, s8_116⟩
      ·
        refine WC.cond_f ((show _ = Value.bool (decide (x106 ≤ 999999999)) from rfl).trans (congrArg Value.bool c131)) ?_
        refine WC.skip ?_
        obtain rfl := Option.some.inj H
        exact ⟨_, HF, hB105, s0_116, s1_116, s4_116, s5_116, s6_116, s7_116, s8_116⟩
    ·
      refine WC.cond_f ((show _ = Value.bool z118 from s19_117).trans (congrArg Value.bool c123)) ?_
      refine WC.exit ?_
      obtain ⟨rfl, rfl⟩ := Prod.mk.inj (Option.some.inj H)
      exact ⟨_, HF, hB105, s0_116, s1_116, s4_116, s5_116, s6_116, s7_116, s8_116⟩
  have Ho133 := H
  replace H := hz118
  refine WC.region ?_
  refine WL.ex rfl (ex_move (v := .int .i64 x107) s8_107) ?_
  refine WL.ex rfl (ex_move (v := encS a0) s0_105) ?_
  refine WL.ex rfl (ex_len_str (s := a0) rfl Tryd.underlying9) ?_
  refine WL.ex rfl (ex_bin (a := .int .i64 x107) (b := .int .i64 (a0.length : Int)) (v := .bool (decide (x107 < (a0.length : Int)))) rfl rfl bin_lss) ?_
  refine WL.ex rfl (ex_move (v := .bool (decide (x107 < (a0.length : Int)))) rfl) ?_
  rcases condE H with ⟨c134, H⟩ | ⟨c134, H⟩
  ·
    refine WL.guardYes rfl rfl rfl ((show _ = Value.bool (decide (x107 < (a0.length : Int))) from rfl).trans (congrArg Value.bool c134)) ?_
    refine OW.ex rfl (ex_move (v := encS a0) s0_105) ?_
    refine WL.guardYes rfl rfl rfl ((show _ = Value.bool (decide (x107 < (a0.length : Int))) from rfl).trans (congrArg Value.bool c134)) ?_
    refine OW.ex rfl (ex_move (v := .int .i64 x107) s8_107) ?_
    refine WL.guardYes rfl rfl rfl ((show _ = Value.bool (decide (x107 < (a0.length : Int))) from rfl).trans (congrArg Value.bool c134)) ?_
    obtain ⟨x135, hx135, H⟩ := bindE H
    refine OW.ex rfl (ex_index_str (i := x107) rfl rfl Tryd.underlying9 (ix_some hx135).1 (ix_some hx135).2.2) ?_
    refine WL.guardYes rfl rfl rfl ((show _ = Value.bool (decide (x107 < (a0.length : Int))) from rfl).trans (congrArg Value.bool c134)) ?_
    obtain ⟨z136, hz136, H⟩ := bindE H
    refine OW.call [enc8 x135] rfl Tryd.func36 (by kernel_rfl) (by kernel_rfl) (map_cons' rfl rfl) (dictumref02_digit.calls _ _ x135 z136 (HF.ten (V := [0]) (L := []) rfl)  hz136) ?_
    rintro _ w137 ⟨o138, rfl, s139⟩
    refine ⟨_, rfl, ?_⟩
    replace s139 := un_stepL (J := []) (L' := []) s139 rfl rfl
    replace hB105 := hB105.step s139 rfl
    replace HF := HF.step s139 rfl
    refine WL.ex rfl (ex_pick_t (v := .bool z136) ((show _ = Value.bool (decide (x107 < (a0.length : Int))) from rfl).trans (congrArg Value.bool c134)) rfl) ?_
    refine WL.nil ?_
    obtain rfl := Option.some.inj H
    exact ⟨_, HF, hB105, s0_105, s1_105, s4_105, s5_105, s6_105, s7_106, s8_107, rfl⟩
  ·
    refine WL.guardNo rfl rfl rfl ((show _ = Value.bool (decide (x107 < (a0.length : Int))) from rfl).trans (congrArg Value.bool c134)) ?_
    refine WL.guardNo rfl rfl rfl ((show _ = Value.bool (decide (x107 < (a0.length : Int))) from rfl).trans (congrArg Value.bool c134)) ?_
    refine WL.guardNo rfl rfl rfl ((show _ = Value.bool (decide (x107 < (a0.length : Int))) from rfl).trans (congrArg Value.bool c134)) ?_
    refine WL.guardNo rfl rfl rfl ((show _ = Value.bool (decide (x107 < (a0.length : Int))) from rfl).trans (congrArg Value.bool c134)) ?_
    refine WL.ex rfl (ex_pick_f (v := .bool false) ((show _ = Value.bool (decide (x107 < (a0.length : Int))) from rfl).trans (congrArg Value.bool c134)) rfl) ?_
    refine WL.nil ?_
    obtain rfl := Option.some.inj H
    exact ⟨_, HF, hB105, s0_105, s1_105, s4_105, s5_105, s6_105, s7_106, s8_107, rfl⟩

/-! ### dictumref02_specials -/
set_option maxRecDepth 100000 in
theorem dictumref02_specials.calls (o0 : Tags) (w0 : World) (r : (List T_dictumref02_special)) (hO : ∀ b, b < w0.heap.size → o0 b < 10) (H : dictumref02_specials.f = some r) :
    Calls Tryd.prog 45 [].toArray w0 fun e_ w_ => ∃ (o_ : Tags) (rv0 : Value), e_ = .returned (one [rv0]) ∧ Step o0 w0 o_ w_ [] ∧ Own T_dictumref02_special.rep 78 9 o_ w_ rv0 r := by
  have HF := Fm.refl hO []
  unfold dictumref02_specials.f at H
  refine SX.calls [] Tryd.func45 rfl rfl ?_
  rw [Tryd.ntmps45]
  refine WC.seq ?_
  refine WC.region ?_
  refine WL.ex rfl (ex_assign (v := .slice none ([] : List T_dictumref02_special).length 0) rfl) ?_
  refine WL.nil ?_
  refine WC.seq ?_
  refine WC.region ?_
  refine WL.ex rfl (ex_assign (v := .int .i64 3) rfl) ?_
  refine WL.nil ?_
  refine WC.seq ?_
  refine WC.region ?_
  refine WL.ex rfl (ex_move (v := .int .i64 3) rfl) ?_
  refine WL.ex rfl (ex_build (cs := [encS ([194, 172] : List UInt8), .int .i64 3, encS ([126] : List UInt8)]) [(0, 1), (1, 1), (2, 1)] [(0, encS ([194, 172] : List UInt8)), (1, .int .i64 3), (2, encS ([126] : List UInt8))] [.string ⟨#[]⟩, .int .i64 0, .string ⟨#[]⟩] Tryd.underlying78 zr78 rfl (by kernel_rfl) (evs_cons rfl (evs_cons rfl (evs_cons rfl rfl))) rfl) ?_
  refine WL.ex rfl (ex_move (v := .int .i64 3) rfl) ?_
  refine WL.ex rfl (ex_build (cs := [encS ([226, 136, 167] : List UInt8), .int .i64 3, encS ([38] : List UInt8)]) [(0, 1), (1, 1), (2, 1)] [(0, encS ([226, 136, 167] : List UInt8)), (1, .int .i64 3), (2, encS ([38] : List UInt8))] [.string ⟨#[]⟩, .int .i64 0, .string ⟨#[]⟩] Tryd.underlying78 zr78 rfl (by kernel_rfl) (evs_cons rfl (evs_cons rfl (evs_cons rfl rfl))) rfl) ?_
  refine WL.ex rfl (ex_move (v := .int .i64 3) rfl) ?_
  refine WL.ex rfl (ex_build (cs := [encS ([226, 136, 168] : List UInt8), .int .i64 3, encS ([124] : List UInt8)]) [(0, 1), (1, 1), (2, 1)] [(0, encS ([226, 136, 168] : List UInt8)), (1, .int .i64 3), (2, encS ([124] : List UInt8))] [.string ⟨#[]⟩, .int .i64 0, .string ⟨#[]⟩] Tryd.underlying78 zr78 rfl (by kernel_rfl) (evs_cons rfl (evs_cons rfl (evs_cons rfl rfl))) rfl) ?_
  refine WL.ex rfl (ex_move (v := .int .i64 3) rfl) ?_
  refine WL.ex rfl (ex_build (cs := [encS ([226, 134, 146] : List UInt8), .int .i64 3, encS ([45, 62] : List UInt8)]) [(0, 1), (1, 1), (2, 1)] [(0, encS ([226, 134, 146] : List UInt8)), (1, .int .i64 3), (2, encS ([45, 62] : List UInt8))] [.string ⟨#[]⟩, .int .i64 0, .string ⟨#[]⟩] Tryd.underlying78 zr78 rfl (by kernel_rfl) (evs_cons rfl (evs_cons rfl (evs_cons rfl rfl))) rfl) ?_
  refine WL.ex rfl (ex_move (v := .int .i64 3) rfl) ?_
  refine WL.ex rfl (ex_build (cs := [encS ([226, 134, 148] : List UInt8), .int .i64 3, encS ([60, 45, 62] : List UInt8)]) [(0, 1), (1, 1), (2, 1)] [(0, encS ([226, 134, 148] : List UInt8)), (1, .int .i64 3), (2, encS ([60, 45, 62] : List UInt8))] [.string ⟨#[]⟩, .int .i64 0, .string ⟨#[]⟩] Tryd.underlying78 zr78 rfl (by kernel_rfl) (evs_cons rfl (evs_cons rfl (evs_cons rfl rfl))) rfl) ?_
  refine WL.ex rfl (ex_move (v := .int .i64 3) rfl) ?_
  refine WL.ex rfl (ex_build (cs := [encS ([226, 138, 162] : List UInt8), .int .i64 3, encS ([124, 45] : List UInt8)]) [(0, 1), (1, 1), (2, 1)] [(0, encS ([226, 138, 162] : List UInt8)), (1, .int .i64 3), (2, encS ([124, 45] : List UInt8))] [.string ⟨#[]⟩, .int .i64 0, .string ⟨#[]⟩] Tryd.underlying78 zr78 rfl (by kernel_rfl) (evs_cons rfl (evs_cons rfl (evs_cons rfl rfl))) rfl) ?_
  refine WL.ex rfl (ex_move (v := .int .i64 3) rfl) ?_
  refine WL.ex rfl (ex_build (cs := [encS ([226, 137, 164] : List UInt8), .int .i64 3, encS ([60, 61] : List UInt8)]) [(0, 1), (1, 1), (2, 1)] [(0, encS ([226, 137, 164] : List UInt8)), (1, .int .i64 3), (2, encS ([60, 61] : List UInt8))] [.string ⟨#[]⟩, .int .i64 0, .string ⟨#[]⟩] Tryd.underlying78 zr78 rfl (by kernel_rfl) (evs_cons rfl (evs_cons rfl (evs_cons rfl rfl))) rfl) ?_
  refine WL.ex rfl (ex_build (cs := [encS ([226, 138, 164] : List UInt8), .int .i64 1, encS ([116, 114, 117, 101] : List UInt8)]) [(0, 1), (1, 1), (2, 1)] [(0, encS ([226, 138, 164] : List UInt8)), (1, .int .i64 1), (2, encS ([116, 114, 117, 101] : List UInt8))] [.string ⟨#[]⟩, .int .i64 0, .string ⟨#[]⟩] Tryd.underlying78 zr78 rfl (by kernel_rfl) (evs_cons rfl (evs_cons rfl (evs_cons rfl rfl))) rfl) ?_
  refine WL.ex rfl (ex_build (cs := [encS ([226, 138, 165] : List UInt8), .int .i64 1, encS ([102, 97, 108, 115, 101] : List UInt8)]) [(0, 1), (1, 1), (2, 1)] [(0, encS ([226, 138, 165] : List UInt8)), (1, .int .i64 1), (2, encS ([102, 97, 108, 115, 101] : List UInt8))] [.string ⟨#[]⟩, .int .i64 0, .string ⟨#[]⟩] Tryd.underlying78 zr78 rfl (by kernel_rfl) (evs_cons rfl (evs_cons rfl (evs_cons rfl rfl))) rfl) ?_
  refine WL.op rfl ?_
  refine OW.row (r := T_dictumref02_special.rep) (xs := [(⟨([194, 172] : List UInt8), 3, ([126] : List UInt8)⟩ : T_dictumref02_special), (⟨([226, 136, 167] : List UInt8), 3, ([38] : List UInt8)⟩ : T_dictumref02_special), (⟨([226, 136, 168] : List UInt8), 3, ([124] : List UInt8)⟩ : T_dictumref02_special), (⟨([226, 134, 146] : List UInt8), 3, ([45, 62] : List UInt8)⟩ : T_dictumref02_special), (⟨([226, 134, 148] : List UInt8), 3, ([60, 45, 62] : List UInt8)⟩ : T_dictumref02_special), (⟨([226, 138, 162] : List UInt8), 3, ([124, 45] : List UInt8)⟩ : T_dictumref02_special), (⟨([226, 137, 164] : List UInt8), 3, ([60, 61] : List UInt8)⟩ : T_dictumref02_special), (⟨([226, 138, 164] : List UInt8), 1, ([116, 114, 117, 101] : List UInt8)⟩ : T_dictumref02_special), (⟨([226, 138, 165] : List UInt8), 1, ([102, 97, 108, 115, 101] : List UInt8)⟩ : T_dictumref02_special)]) [(0, .agg #[encS ([194, 172] : List UInt8), .int .i64 3, encS ([126] : List UInt8)]), (1, .agg #[encS ([226, 136, 167] : List UInt8), .int .i64 3, encS ([38] : List UInt8)]), (2, .agg #[encS ([226, 136, 168] : List UInt8), .int .i64 3, encS ([124] : List UInt8)]), (3, .agg #[encS ([226, 134, 146] : List UInt8), .int .i64 3, encS ([45, 62] : List UInt8)]), (4, .agg #[encS ([226, 134, 148] : List UInt8), .int .i64 3, encS ([60, 45, 62] : List UInt8)]), (5, .agg #[encS ([226, 138, 162] : List UInt8), .int .i64 3, encS ([124, 45] : List UInt8)]), (6, .agg #[encS ([226, 137, 164] : List UInt8), .int .i64 3, encS ([60, 61] : List UInt8)]), (7, .agg #[encS ([226, 138, 164] : List UInt8), .int .i64 1, encS ([116, 114, 117, 101] : List UInt8)]), (8, .agg #[encS ([226, 138, 165] : List UInt8), .int .i64 1, encS ([102, 97, 108, 115, 101] : List UInt8)])] [[encS ([194, 172] : List UInt8), .int .i64 3, encS ([126] : List UInt8)], [encS ([226, 136, 167] : List UInt8), .int .i64 3, encS ([38] : List UInt8)], [encS ([226, 136, 168] : List UInt8), .int .i64 3, encS ([124] : List UInt8)], [encS ([226, 134, 146] : List UInt8), .int .i64 3, encS ([45, 62] : List UInt8)], [encS ([226, 134, 148] : List UInt8), .int .i64 3, encS ([60, 45, 62] : List UInt8)], [encS ([226, 138, 162] : List UInt8), .int .i64 3, encS ([124, 45] : List UInt8)], [encS ([226, 137, 164] : List UInt8), .int .i64 3, encS ([60, 61] : List UInt8)], [encS ([226, 138, 164] : List UInt8), .int .i64 1, encS ([116, 114, 117, 101] : List UInt8)], [encS ([226, 138, 165] : List UInt8), .int .i64 1, encS ([102, 97, 108, 115, 101] : List UInt8)]] 10 HF rfl Tryd.underlying74 sz78 zr78 rfl (evs_cons rfl (evs_cons rfl (evs_cons rfl (evs_cons rfl (evs_cons rfl (evs_cons rfl (evs_cons rfl (evs_cons rfl (evs_cons rfl rfl))))))))) rfl rfl ⟨(T_dictumref02_special.mk' (⟨([194, 172] : List UInt8), 3, ([126] : List UInt8)⟩ : T_dictumref02_special) ), (T_dictumref02_special.mk' (⟨([226, 136, 167] : List UInt8), 3, ([38] : List UInt8)⟩ : T_dictumref02_special) ), (T_dictumref02_special.mk' (⟨([226, 136, 168] : List UInt8), 3, ([124] : List UInt8)⟩ : T_dictumref02_special) ), (T_dictumref02_special.mk' (⟨([226, 134, 146] : List UInt8), 3, ([45, 62] : List UInt8)⟩ : T_dictumref02_special) ), (T_dictumref02_special.mk' (⟨([226, 134, 148] : List UInt8), 3, ([60, 45, 62] : List UInt8)⟩ : T_dictumref02_special) ), (T_dictumref02_special.mk' (⟨([226, 138, 162] : List UInt8), 3, ([124, 45] : List UInt8)⟩ : T_dictumref02_special) ), (T_dictumref02_special.mk' (⟨([226, 137, 164] : List UInt8), 3, ([60, 61] : List UInt8)⟩ : T_dictumref02_special) ), (T_dictumref02_special.mk' (⟨([226, 138, 164] : List UInt8), 1, ([116, 114, 117, 101] : List UInt8)⟩ : T_dictumref02_special) ), (T_dictumref02_special.mk' (⟨([226, 138, 165] : List UInt8), 1, ([102, 97, 108, 115, 101] : List UInt8)⟩ : T_dictumref02_special) ), trivial⟩ rfl rfl rfl rfl ?_
  intro o101 w102 v104 s103 hO105
  replace HF := HF.step s103 rfl
  refine WL.ex rfl (ex_assign (v := v104) rfl) ?_
  refine WL.nil ?_
  refine WC.ret ?_
  obtain rfl := Option.some.inj H
  replace hO105 := Own.renTo (j := 9) hO105 rfl
  replace HF := HF.ren (i := 10) (j := 9) rfl
  exact ⟨_, (.tmp (v104 : Value) rfl .nil), _, v104, rfl, HF.out, hO105⟩

/-! ### dictumref02_at -/
set_option maxRecDepth 100000 in
theorem dictumref02_at.calls (o0 : Tags) (w0 : World) (a0 : List UInt8) (a1 : Int) (a2 : List UInt8) (r : Bool) (hO : ∀ b, b < w0.heap.size → o0 b < 10) (H : dictumref02_at.f a0 a1 a2 = some r) :
    Calls Tryd.prog 46 [encS a0, .int .i64 a1, encS a2].toArray w0 fun e_ w_ => ∃ (o_ : Tags), e_ = .returned (one [.bool r]) ∧ Step o0 w0 o_ w_ [] := by
  have HF := Fm.refl hO []
  unfold dictumref02_at.f at H
  refine SX.calls [encS a0, .int .i64 a1, encS a2] Tryd.func46 rfl rfl ?_
  rw [Tryd.ntmps46]
  refine WC.seq ?_
  refine WC.region ?_
  refine WL.ex rfl (ex_assign (v := .bool false) rfl) ?_
  refine WL.nil ?_
  refine WC.seq ?_
  refine WC.region ?_
  refine WL.ex rfl (ex_move (v := encS a0) rfl) ?_
  refine WL.ex rfl (ex_len_str (s := a0) rfl Tryd.underlying9) ?_
  refine WL.ex rfl (ex_move (v := .int .i64 a1) rfl) ?_
  refine WL.ex rfl (ex_bin (a := .int .i64 (a0.length : Int)) (b := .int .i64 a1) (v := .int .i64 (wrap64 ((a0.length : Int) - a1))) rfl rfl bin_sub64) ?_
  refine WL.ex rfl (ex_move (v := encS a2) rfl) ?_
  refine WL.ex rfl (ex_len_str (s := a2) rfl Tryd.underlying9) ?_
  refine WL.ex rfl (ex_bin (a := .int .i64 (wrap64 ((a0.length : Int) - a1))) (b := .int .i64 (a2.length : Int)) (v := .bool (decide ((wrap64 ((a0.length : Int) - a1)) ≥ (a2.length : Int)))) rfl rfl bin_geq) ?_
  refine WL.ex rfl (ex_move (v := .bool (decide ((wrap64 ((a0.length : Int) - a1)) ≥ (a2.length : Int)))) rfl) ?_
  rcases condE H with ⟨c101, H⟩ | ⟨c101, H⟩
  ·
    refine WL.guardYes rfl rfl rfl ((show _ = Value.bool (decide ((wrap64 ((a0.length : Int) - a1)) ≥ (a2.length : Int))) from rfl).trans (congrArg Value.bool c101)) ?_
    refine OW.ex rfl (ex_move (v := encS a0) rfl) ?_
    refine WL.guardYes rfl rfl rfl ((show _ = Value.bool (decide ((wrap64 ((a0.length : Int) - a1)) ≥ (a2.length : Int))) from rfl).trans (congrArg Value.bool c101)) ?_
    refine OW.ex rfl (ex_move (v := .int .i64 a1) rfl) ?_
    refine WL.guardYes rfl rfl rfl ((show _ = Value.bool (decide ((wrap64 ((a0.length : Int) - a1)) ≥ (a2.length : Int))) from rfl).trans (congrArg Value.bool c101)) ?_
    refine OW.ex rfl (ex_move (v := .int .i64 a1) rfl) ?_
    refine WL.guardYes rfl rfl rfl ((show _ = Value.bool (decide ((wrap64 ((a0.length : Int) - a1)) ≥ (a2.length : Int))) from rfl).trans (congrArg Value.bool c101)) ?_
    refine OW.ex rfl (ex_move (v := encS a2) rfl) ?_
    refine WL.guardYes rfl rfl rfl ((show _ = Value.bool (decide ((wrap64 ((a0.length : Int) - a1)) ≥ (a2.length : Int))) from rfl).trans (congrArg Value.bool c101)) ?_
    refine OW.ex rfl (ex_len_str (s := a2) rfl Tryd.underlying9) ?_
    refine WL.guardYes rfl rfl rfl ((show _ = Value.bool (decide ((wrap64 ((a0.length : Int) - a1)) ≥ (a2.length : Int))) from rfl).trans (congrArg Value.bool c101)) ?_
    refine OW.ex rfl (ex_bin (a := .int .i64 a1) (b := .int .i64 (a2.length : Int)) (v := .int .i64 (wrap64 (a1 + (a2.length : Int)))) rfl rfl bin_add64) ?_
    refine WL.guardYes rfl rfl rfl ((show _ = Value.bool (decide ((wrap64 ((a0.length : Int) - a1)) ≥ (a2.length : Int))) from rfl).trans (congrArg Value.bool c101)) ?_
    obtain ⟨y102, hy102, H⟩ := bindE H
    refine OW.ex rfl (ex_slice_str (l := a1) (h := (wrap64 (a1 + (a2.length : Int)))) rfl Tryd.underlying9 ⟨_, rfl⟩ ⟨_, rfl⟩ hy102) ?_
    refine WL.guardYes rfl rfl rfl ((show _ = Value.bool (decide ((wrap64 ((a0.length : Int) - a1)) ≥ (a2.length : Int))) from rfl).trans (congrArg Value.bool c101)) ?_
    refine OW.ex rfl (ex_move (v := encS a2) rfl) ?_
    refine WL.guardYes rfl rfl rfl ((show _ = Value.bool (decide ((wrap64 ((a0.length : Int) - a1)) ≥ (a2.length : Int))) from rfl).trans (congrArg Value.bool c101)) ?_
    refine OW.ex rfl (ex_bin (a := encS y102) (b := encS a2) (v := .bool (y102 == a2)) rfl rfl bin_eql_str) ?_
    refine WL.ex rfl (ex_pick_t (v := .bool (y102 == a2)) ((show _ = Value.bool (decide ((wrap64 ((a0.length : Int) - a1)) ≥ (a2.length : Int))) from rfl).trans (congrArg Value.bool c101)) rfl) ?_
    refine WL.ex rfl (ex_assign (v := .bool (y102 == a2)) rfl) ?_
    refine WL.nil ?_
    refine WC.ret ?_
    obtain rfl := Option.some.inj H
    exact ⟨_, (.tmp (.bool (y102 == a2) : Value) rfl .nil), _, rfl, HF.out⟩
  ·
    refine WL.guardNo rfl rfl rfl ((show _ = Value.bool (decide ((wrap64 ((a0.length : Int) - a1)) ≥ (a2.length : Int))) from rfl).trans (congrArg Value.bool c101)) ?_
    refine WL.guardNo rfl rfl rfl ((show _ = Value.bool (decide ((wrap64 ((a0.length : Int) - a1)) ≥ (a2.length : Int))) from rfl).trans (congrArg Value.bool c101)) ?_
    refine WL.guardNo rfl rfl rfl ((show _ = Value.bool (decide ((wrap64 ((a0.length : Int) - a1)) ≥ (a2.length : Int))) from rfl).trans (congrArg Value.bool c101)) ?_
    refine WL.guardNo rfl rfl rfl ((show _ = Value.bool (decide ((wrap64 ((a0.length : Int) - a1)) ≥ (a2.length : Int))) from rfl).trans (congrArg Value.bool c101)) ?_
    refine WL.guardNo rfl rfl rfl ((show _ = Value.bool (decide ((wrap64 ((a0.length : Int) - a1)) ≥ (a2.length : Int))) from rfl).trans (congrArg Value.bool c101)) ?_
    refine WL.guardNo rfl rfl rfl ((show _ = Value.bool (decide ((wrap64 ((a0.length : Int) - a1)) ≥ (a2.length : Int))) from rfl).trans (congrArg Value.bool c101)) ?_
    refine WL.guardNo rfl rfl rfl ((show _ = Value.bool (decide ((wrap64 ((a0.length : Int) - a1)) ≥ (a2.length : Int))) from rfl).trans (congrArg Value.bool c101)) ?_
    refine WL.guardNo rfl rfl rfl ((show _ = Value.bool (decide ((wrap64 ((a0.length : Int) - a1)) ≥ (a2.length : Int))) from rfl).trans (congrArg Value.bool c101)) ?_
    refine WL.guardNo rfl rfl rfl ((show _ = Value.bool (decide ((wrap64 ((a0.length : Int) - a1)) ≥ (a2.length : Int))) from rfl).trans (congrArg Value.bool c101)) ?_
    refine WL.ex rfl (ex_pick_f (v := .bool false) ((show _ = Value.bool (decide ((wrap64 ((a0.length : Int) - a1)) ≥ (a2.length : Int))) from rfl).trans (congrArg Value.bool c101)) rfl) ?_
    refine WL.ex rfl (ex_assign (v := .bool false) rfl) ?_
    refine WL.nil ?_
    refine WC.ret ?_
    obtain rfl := Option.some.inj H
    exact ⟨_, (.tmp (.bool false : Value) rfl .nil), _, rfl, HF.out⟩

/-! ### dictumref02_Signs -/
set_option maxRecDepth 100000 in
theorem dictumref02_Signs.calls (o0 : Tags) (w0 : World) (r : (List (List UInt8))) (hO : ∀ b, b < w0.heap.size → o0 b < 10) (H : dictumref02_Signs.f = some r) :
    Calls Tryd.prog 47 [].toArray w0 fun e_ w_ => ∃ (o_ : Tags) (rv0 : Value), e_ = .returned (one [rv0]) ∧ Step o0 w0 o_ w_ [] ∧ Own Rep.str 9 9 o_ w_ rv0 r := by
  have HF := Fm.refl hO []
  unfold dictumref02_Signs.f at H
  refine SX.calls [] Tryd.func47 rfl rfl ?_
  rw [Tryd.ntmps47]
  refine WC.seq ?_
  refine WC.region ?_
  refine WL.ex rfl (ex_assign (v := .slice none ([] : List (List UInt8)).length 0) rfl) ?_
  refine WL.nil ?_
  refine WC.seq ?_
  refine WC.region ?_
  refine WL.op rfl ?_
  refine OW.row (r := Rep.str) (xs := [([60, 45, 62] : List UInt8), ([60, 61] : List UInt8), ([61, 62] : List UInt8), ([45, 62] : List UInt8), ([124, 45] : List UInt8), ([126] : List UInt8), ([38] : List UInt8), ([124] : List UInt8), ([40] : List UInt8), ([41] : List UInt8), ([91] : List UInt8), ([93] : List UInt8), ([123] : List UInt8), ([125] : List UInt8), ([44] : List UInt8), ([46] : List UInt8), ([58] : List UInt8), ([59] : List UInt8), ([61] : List UInt8), ([47] : List UInt8)]) [(0, encS ([60, 45, 62] : List UInt8)), (1, encS ([60, 61] : List UInt8)), (2, encS ([61, 62] : List UInt8)), (3, encS ([45, 62] : List UInt8)), (4, encS ([124, 45] : List UInt8)), (5, encS ([126] : List UInt8)), (6, encS ([38] : List UInt8)), (7, encS ([124] : List UInt8)), (8, encS ([40] : List UInt8)), (9, encS ([41] : List UInt8)), (10, encS ([91] : List UInt8)), (11, encS ([93] : List UInt8)), (12, encS ([123] : List UInt8)), (13, encS ([125] : List UInt8)), (14, encS ([44] : List UInt8)), (15, encS ([46] : List UInt8)), (16, encS ([58] : List UInt8)), (17, encS ([59] : List UInt8)), (18, encS ([61] : List UInt8)), (19, encS ([47] : List UInt8))] [[encS ([60, 45, 62] : List UInt8)], [encS ([60, 61] : List UInt8)], [encS ([61, 62] : List UInt8)], [encS ([45, 62] : List UInt8)], [encS ([124, 45] : List UInt8)], [encS ([126] : List UInt8)], [encS ([38] : List UInt8)], [encS ([124] : List UInt8)], [encS ([40] : List UInt8)], [encS ([41] : List UInt8)], [encS ([91] : List UInt8)], [encS ([93] : List UInt8)], [encS ([123] : List UInt8)], [encS ([125] : List UInt8)], [encS ([44] : List UInt8)], [encS ([46] : List UInt8)], [encS ([58] : List UInt8)], [encS ([59] : List UInt8)], [encS ([61] : List UInt8)], [encS ([47] : List UInt8)]] 10 HF rfl Tryd.underlying49 sz9 zr9 rfl (evs_cons rfl (evs_cons rfl (evs_cons rfl (evs_cons rfl (evs_cons rfl (evs_cons rfl (evs_cons rfl (evs_cons rfl (evs_cons rfl (evs_cons rfl (evs_cons rfl (evs_cons rfl (evs_cons rfl (evs_cons rfl (evs_cons rfl (evs_cons rfl (evs_cons rfl (evs_cons rfl (evs_cons rfl (evs_cons rfl rfl)))))))))))))))))))) rfl rfl ⟨rfl, rfl, rfl, rfl, rfl, rfl, rfl, rfl, rfl, rfl, rfl, rfl, rfl, rfl, rfl, rfl, rfl, rfl, rfl, rfl, trivial⟩ rfl rfl rfl rfl ?_
  intro o101 w102 v104 s103 hO105
  replace HF := HF.step s103 rfl
  refine WL.ex rfl (ex_assign (v := v104) rfl) ?_
  refine WL.nil ?_
  refine WC.ret ?_
  obtain rfl := Option.some.inj H
  replace hO105 := Own.renTo (j := 9) hO105 rfl
  replace HF := HF.ren (i := 10) (j := 9) rfl
  exact ⟨_, (.tmp (v104 : Value) rfl .nil), _, v104, rfl, HF.out, hO105⟩

/-! ### dictumref02_one -/
set_option maxRecDepth 100000 in
theorem dictumref02_one.calls (k : Nat) (o0 : Tags) (w0 : World) (a0 : List UInt8) (a1 : Int) (r : T_api_Token × Int × Int) (hO : ∀ b, b < w0.heap.size → o0 b < 10) (H : dictumref02_one.f k a0 a1 = some r) :
    Calls Tryd.prog 31 [encS a0, .int .i64 a1].toArray w0 fun e_ w_ => ∃ (o_ : Tags), e_ = .returned (one [.agg #[.int .i64 r.1.f_Kind, encS r.1.f_Text, .int .i64 r.1.f_Int, .int .i64 r.1.f_At.f_Line, .int .i64 r.1.f_At.f_Col, .int .i64 r.1.f_At.f_Off], .int .i64 r.2.1, .int .i64 r.2.2]) ∧ Step o0 w0 o_ w_ [] := by
  have HF := Fm.refl hO []
  unfold dictumref02_one.f at H
  refine SX.calls [encS a0, .int .i64 a1] Tryd.func31 rfl rfl ?_
  rw [Tryd.ntmps31]
  refine WC.seq ?_
  refine WC.region ?_
  refine WL.op rfl ?_
  refine OW.alloc' [.int .i64 (0 : Int), encS ([] : List UInt8), .int .i64 (0 : Int), .int .i64 (0 : Int), .int .i64 (0 : Int), .int .i64 (0 : Int)] 10 HF rfl zr37 rfl ?_
  intro o102 w103 b101 s104 hB105
  replace HF := HF.step s104 rfl
  refine WL.ex rfl (ex_assign (v := .int .i64 0) rfl) ?_
  refine WL.ex rfl (ex_assign (v := .int .i64 0) rfl) ?_
  refine WL.nil ?_
  refine WC.seq ?_
  refine WC.seq ?_
  refine WC.region ?_
  refine WL.ex rfl (ex_move (v := .int .i64 a1) rfl) ?_
  refine WL.ex rfl (ex_move (v := encS a0) rfl) ?_
  refine WL.ex rfl (ex_len_str (s := a0) rfl Tryd.underlying9) ?_
  refine WL.ex rfl (ex_bin (a := .int .i64 a1) (b := .int .i64 (a0.length : Int)) (v := .bool (decide (a1 ≥ (a0.length : Int)))) rfl rfl bin_geq) ?_
  refine WL.nil ?_
  rcases condE H with ⟨c106, H⟩ | ⟨c106, H⟩
  ·
    refine WC.cond_t ((show _ = Value.bool (decide (a1 ≥ (a0.length : Int))) from rfl).trans (congrArg Value.bool c106)) ?_
    refine WC.seq ?_
    refine WC.region ?_
    refine WL.ex rfl (ex_build (cs := [.int .i64 (0 : Int), encS ([] : List UInt8), .int .i64 (0 : Int), .int .i64 (0 : Int), .int .i64 (0 : Int), .int .i64 (0 : Int)]) [(0, 1), (1, 1), (2, 1), (3, 3)] [] [.int .i64 0, .string ⟨#[]⟩, .int .i64 0, .int .i64 0, .int .i64 0, .int .i64 0] Tryd.underlying37 zr37 rfl (by kernel_rfl) rfl rfl) ?_
    refine WL.ex rfl (ex_move (v := .int .i64 a1) rfl) ?_
    refine WL.op rfl ?_
    refine OW.store [.int .i64 (0 : Int), encS ([] : List UInt8), .int .i64 (0 : Int), .int .i64 (0 : Int), .int .i64 (0 : Int), .int .i64 (0 : Int)] rfl (vs := [.int .i64 (0 : Int), encS ([] : List UInt8), .int .i64 (0 : Int), .int .i64 (0 : Int), .int .i64 (0 : Int), .int .i64 (0 : Int)]) ((congrArg Value.cells (show ev _ _ = (.agg #[.int .i64 (0 : Int), encS ([] : List UInt8), .int .i64 (0 : Int), .int .i64 (0 : Int), .int .i64 (0 : Int), .int .i64 (0 : Int)] : Value) from rfl)).trans rfl) sz37 hB105 (Nat.le_of_ble_eq_true rfl) (by intro u_ hu_; simp only [List.mem_cons, List.not_mem_nil, or_false] at hu_; rcases hu_ with rfl | rfl | rfl | rfl | rfl | rfl <;> first | rfl) rfl ?_
    intro w107 s108 hB109
    replace HF := HF.step s108 rfl
    refine WL.ex rfl (ex_assign (v := .int .i64 a1) rfl) ?_
    refine WL.ex rfl (ex_assign (v := .int .i64 0) rfl) ?_
    refine WL.nil ?_
    refine WC.ret ?_
    obtain rfl := Option.some.inj H
    exact ⟨_, (.cell (.agg #[.int .i64 (0 : Int), encS ([] : List UInt8), .int .i64 (0 : Int), .int .i64 (0 : Int), .int .i64 (0 : Int), .int .i64 (0 : Int)] : Value) rfl (run_loadN (cs := [.int .i64 (0 : Int), encS ([] : List UInt8), .int .i64 (0 : Int), .int .i64 (0 : Int), .int .i64 (0 : Int), .int .i64 (0 : Int)]) Tryd.underlying37 rfl sz37 (hB109.cells rfl)) (.tmp (.int .i64 a1 : Value) rfl (.tmp (.int .i64 0 : Value) rfl .nil))), _, rfl, HF.out⟩
  ·
    refine WC.cond_f ((show _ = Value.bool (decide (a1 ≥ (a0.length : Int))) from rfl).trans (congrArg Value.bool c106)) ?_
    refine WC.skip ?_
    refine WC.seq ?_
    refine WC.seq ?_
    refine WC.region ?_
    refine WL.ex rfl (ex_move (v := encS a0) rfl) ?_
    refine WL.ex rfl (ex_move (v := .int .i64 a1) rfl) ?_
    obtain ⟨x110, hx110, H⟩ := bindE H
    refine WL.ex rfl (ex_index_str (i := a1) rfl rfl Tryd.underlying9 (ix_some hx110).1 (ix_some hx110).2.2) ?_
    obtain ⟨z111, hz111, H⟩ := bindE H
    refine WL.op rfl ?_
    refine OW.call [enc8 x110] rfl Tryd.func24 (by kernel_rfl) (by kernel_rfl) (map_cons' rfl rfl) (dictumref02_letter.calls _ _ x110 z111 (HF.ten (V := [0]) (L := []) rfl)  hz111) ?_
    rintro _ w112 ⟨o113, rfl, s114⟩
    refine ⟨_, rfl, ?_⟩
    replace s114 := un_stepL (J := []) (L' := []) s114 rfl rfl
    replace hB105 := hB105.step s114 rfl
    replace HF := HF.step s114 rfl
    refine WL.nil ?_
    rcases condE H with ⟨c115, H⟩ | ⟨c115, H⟩
    ·
      refine WC.cond_t ((show _ = Value.bool z111 from rfl).trans (congrArg Value.bool c115)) ?_
      refine WC.seq ?_
      refine WC.region ?_
      refine WL.ex rfl (ex_move (v := .int .i64 a1) rfl) ?_
      refine WL.ex rfl (ex_assign (v := .int .i64 a1) rfl) ?_
      refine WL.nil ?_
      refine WC.seq ?_
      obtain ⟨z118, hz118, H⟩ := bindE H
      refine WC.for (fun k_ ρ_ w_ => ∃ (o_ : Tags) (x116 : Int), Fm o0 w0 o_ w_ [] ∧ Bk o_ w_ 10 b101 [.int .i64 (0 : Int), encS ([] : List UInt8), .int .i64 (0 : Int), .int .i64 (0 : Int), .int .i64 (0 : Int), .int .i64 (0 : Int)] 37 ∧ ρ_ 0 = encS a0 ∧ ρ_ 1 = .int .i64 a1 ∧ ρ_ 4 = .pointer (some ⟨b101, 0, none⟩) ∧ ρ_ 5 = .int .i64 0 ∧ ρ_ 6 = .int .i64 0 ∧ ρ_ 7 = .int .i64 x116 ∧ dictumref02_one.l1 k a0 k_ x116 = some z118) k (fun ρ_ w_ => ∃ (o_ : Tags), Fm o0 w0 o_ w_ [] ∧ Bk o_ w_ 10 b101 [.int .i64 (0 : Int), encS ([] : List UInt8), .int .i64 (0 : Int), .int .i64 (0 : Int), .int .i64 (0 : Int), .int .i64 (0 : Int)] 37 ∧ ρ_ 0 = encS a0 ∧ ρ_ 1 = .int .i64 a1 ∧ ρ_ 4 = .pointer (some ⟨b101, 0, none⟩) ∧ ρ_ 5 = .int .i64 0 ∧ ρ_ 6 = .int .i64 0 ∧ ρ_ 7 = .int .i64 z118) ⟨_, a1, HF, hB105, rfl, rfl, rfl, rfl, rfl, rfl, hz118⟩ ?case119 ?_
      case case119 =>
        rintro ρ141 w139 ⟨o140, HF, hB105, s0_116, s1_116, s4_116, s5_116, s6_116, s7_117⟩
        refine WC.seq ?_
        refine WC.seq ?_
        refine WC.region ?_
        refine WL.ex rfl (ex_move (v := .int .i64 z118) s7_117) ?_
        refine WL.ex rfl (ex_move (v := .int .i64 a1) s1_116) ?_
        refine WL.ex rfl (ex_bin (a := .int .i64 z118) (b := .int .i64 a1) (v := .int .i64 (wrap64 (z118 - a1))) rfl rfl bin_sub64) ?_
        refine WL.ex rfl (ex_bin (a := .int .i64 (wrap64 (z118 - a1))) (b := .int .i64 31) (v := .bool (decide ((wrap64 (z118 - a1)) > 31))) rfl rfl bin_gtr) ?_
        refine WL.nil ?_
        rcases condE H with ⟨c142, H⟩ | ⟨c142, H⟩
        ·
          refine WC.cond_t ((show _ = Value.bool (decide ((wrap64 (z118 - a1)) > 31)) from rfl).trans (congrArg Value.bool c142)) ?_
          refine WC.seq ?_
          refine WC.region ?_
          refine WL.ex rfl (ex_build (cs := [.int .i64 (0 : Int), encS ([] : List UInt8), .int .i64 (0 : Int), .int .i64 (0 : Int), .int .i64 (0 : Int), .int .i64 (0 : Int)]) [(0, 1), (1, 1), (2, 1), (3, 3)] [] [.int .i64 0, .string ⟨#[]⟩, .int .i64 0, .int .i64 0, .int .i64 0, .int .i64 0] Tryd.underlying37 zr37 rfl (by kernel_rfl) rfl rfl) ?_
          refine WL.ex rfl (ex_move (v := .int .i64 z118) s7_117) ?_
          refine WL.op rfl ?_
          refine OW.store [.int .i64 (0 : Int), encS ([] : List UInt8), .int .i64 (0 : Int), .int .i64 (0 : Int), .int .i64 (0 : Int), .int .i64 (0 : Int)] s4_116 (vs := [.int .i64 (0 : Int), encS ([] : List UInt8), .int .i64 (0 : Int), .int .i64 (0 : Int), .int .i64 (0 : Int), .int .i64 (0 : Int)]) ((congrArg Value.cells (show ev _ _ = (.agg #[.int .i64 (0 : Int), encS ([] : List UInt8), .int .i64 (0 : Int), .int .i64 (0 : Int), .int .i64 (0 : Int), .int .i64 (0 : Int)] : Value) from rfl)).trans rfl) sz37 hB105 (Nat.le_of_ble_eq_true rfl) (by intro u_ hu_; simp only [List.mem_cons, List.not_mem_nil, or_false] at hu_; rcases hu_ with rfl | rfl | rfl | rfl | rfl | rfl <;> first | rfl) rfl ?_
          intro w143 s144 hB145
          replace HF := HF.step s144 rfl
          refine WL.ex rfl (ex_assign (v := .int .i64 z118) rfl) ?_
          refine WL.ex rfl (ex_assign (v := .int .i64 22) rfl) ?_
          refine WL.nil ?_
          refine WC.ret ?_
          obtain rfl := Option.some.inj H
          exact ⟨_, (.cell (.agg #[.int .i64 (0 : Int), encS ([] : List UInt8), .int .i64 (0 : Int), .int .i64 (0 : Int), .int .i64 (0 : Int), .int .i64 (0 : Int)] : Value) s4_116 (run_loadN (cs := [.int .i64 (0 : Int), encS ([] : List UInt8), .int .i64 (0 : Int), .int .i64 (0 : Int), .int .i64 (0 : Int), .int .i64 (0 : Int)]) Tryd.underlying37 rfl sz37 (hB145.cells rfl)) (.tmp (.int .i64 z118 : Value) rfl (.tmp (.int .i64 22 : Value) rfl .nil))), _, rfl, HF.out⟩
        ·
          refine WC.cond_f ((show _ = Value.bool (decide ((wrap64 (z118 - a1)) > 31)) from rfl).trans (congrArg Value.bool c142)) ?_
          refine WC.skip ?_
          refine WC.seq ?_
          refine WC.region ?_
          refine WL.ex rfl (ex_move (v := encS a0) s0_116) ?_
          refine WL.ex rfl (ex_move (v := .int .i64 a1) s1_116) ?_
          refine WL.ex rfl (ex_move (v := .int .i64 z118) s7_117) ?_
          obtain ⟨y146, hy146, H⟩ := bindE H
          refine WL.ex rfl (ex_slice_str (l := a1) (h := z118) rfl Tryd.underlying9 ⟨_, rfl⟩ ⟨_, rfl⟩ hy146) ?_
          refine WL.ex rfl (ex_build (cs := [.int .i64 1, encS y146, .int .i64 (0 : Int), .int .i64 (0 : Int), .int .i64 (0 : Int), .int .i64 (0 : Int)]) [(0, 1), (1, 1), (2, 1), (3, 3)] [(0, .int .i64 1), (1, encS y146)] [.int .i64 0, .string ⟨#[]⟩, .int .i64 0, .int .i64 0, .int .i64 0, .int .i64 0] Tryd.underlying37 zr37 rfl (by kernel_rfl) (evs_cons rfl (evs_cons rfl rfl)) rfl) ?_
          refine WL.ex rfl (ex_move (v := .int .i64 z118) s7_117) ?_
          refine WL.op rfl ?_
          refine OW.store [.int .i64 1, encS y146, .int .i64 (0 : Int), .int .i64 (0 : Int), .int .i64 (0 : Int), .int .i64 (0 : Int)] s4_116 (vs := [.int .i64 1, encS y146, .int .i64 (0 : Int), .int .i64 (0 : Int), .int .i64 (0 : Int), .int .i64 (0 : Int)]) ((congrArg Value.cells (show ev _ _ = (.agg #[.int .i64 1, encS y146, .int .i64 (0 : Int), .int .i64 (0 : Int), .int .i64 (0 : Int), .int .i64 (0 : Int)] : Value) from rfl)).trans rfl) sz37 hB105 (Nat.le_of_ble_eq_true rfl) (by intro u_ hu_; simp only [List.mem_cons, List.not_mem_nil, or_false] at hu_; rcases hu_ with rfl | rfl | rfl | rfl | rfl | rfl <;> first | rfl) rfl ?_
          intro w147 s148 hB149
          replace HF := HF.step s148 rfl
          refine WL.ex rfl (ex_assign (v := .int .i64 z118) rfl) ?_
          refine WL.ex rfl (ex_assign (v := .int .i64 0) rfl) ?_
          refine WL.nil ?_
          refine WC.ret ?_
          obtain rfl := Option.some.inj H
          exact ⟨_, (.cell (.agg #[.int .i64 1, encS y146, .int .i64 (0 : Int), .int .i64 (0 : Int), .int .i64 (0 : Int), .int .i64 (0 : Int)] : Value) s4_116 (run_loadN (cs := [.int .i64 1, encS y146, .int .i64 (0 : Int), .int .i64 (0 : Int), .int .i64 (0 : Int), .int .i64 (0 : Int)]) Tryd.underlying37 rfl sz37 (hB149.cells rfl)) (.tmp (.int .i64 z118 : Value) rfl (.tmp (.int .i64 0 : Value) rfl .nil))), _, rfl, HF.out⟩
      have Ho120 := H
      rintro k121 ρ122 w123 ⟨o124, x116, HF, hB105, s0_115, s1_115, s4_115, s5_115, s6_115, s7_116, H⟩
      cases k121 with
      | zero => cases H
      | succ k121 =>
      rw [dictumref02_one.l1.eq_2] at H
      refine WC.seq ?_
      obtain ⟨z126, hz126, H⟩ := bindE H
      refine WC.cut (fun ρ_ w_ => ∃ (o_ : Tags), Fm o0 w0 o_ w_ [] ∧ Bk o_ w_ 10 b101 [.int .i64 (0 : Int), encS ([] : List UInt8), .int .i64 (0 : Int), .int .i64 (0 : Int), .int .i64 (0 : Int), .int .i64 (0 : Int)] 37 ∧ ρ_ 0 = encS a0 ∧ ρ_ 1 = .int .i64 a1 ∧ ρ_ 4 = .pointer (some ⟨b101, 0, none⟩) ∧ ρ_ 5 = .int .i64 0 ∧ ρ_ 6 = .int .i64 0 ∧ ρ_ 7 = .int .i64 x116 ∧ ρ_ 32 = .bool z126) ?case127 ?_
      case case127 =>
        rintro ρ130 w128 ⟨o129, HF, hB105, s0_124, s1_124, s4_124, s5_124, s6_124, s7_124, s32_125⟩
        rcases condE H with ⟨c131, H⟩ | ⟨c131, H⟩
        ·
          refine WC.cond_t ((show _ = Value.bool z126 from s32_125).trans (congrArg Value.bool c131)) ?_
          refine WC.skip ?_
          refine WC.block ?_
          refine WC.region ?_
          refine WL.ex rfl (ex_move (v := .int .i64 x116) s7_124) ?_
          refine WL.ex rfl (ex_bin (a := .int .i64 x116) (b := .int .i64 1) (v := .int .i64 (wrap64 (x116 + 1))) rfl rfl bin_add64) ?_
          refine WL.ex rfl (ex_assign (v := .int .i64 (wrap64 (x116 + 1))) rfl) ?_
          refine WL.nil ?_
          exact ⟨k121, Nat.lt_succ_self _, ⟨_, wrap64 (x116 + 1), HF, hB105, s0_124, s1_124, s4_124, s5_124, s6_124, rfl, H⟩⟩
        ·
          refine WC.cond_f ((show _ = Value.bool z126 from s32_125).trans (congrArg Value.bool c131)) ?_
          refine WC.exit ?_
          obtain rfl := Option.some.inj H
          exact ⟨_, HF, hB105, s0_124, s1_124, s4_124, s5_124, s6_124, s7_124⟩
      have Ho132 := H
      replace H := hz126
      refine WC.region ?_
      refine WL.ex rfl (ex_move (v := .int .i64 x116) s7_116) ?_
      refine WL.ex rfl (ex_move (v := encS a0) s0_115) ?_
      refine WL.ex rfl (ex_len_str (s := a0) rfl Tryd.underlying9) ?_
      refine WL.ex rfl (ex_bin (a := .int .i64 x116) (b := .int .i64 (a0.length : Int)) (v := .bool (decide (x116 < (a0.length : Int)))) rfl rfl bin_lss) ?_
      refine WL.ex rfl (ex_move (v := .bool (decide (x116 < (a0.length : Int)))) rfl) ?_
      rcases condE H with ⟨c133, H⟩ | ⟨c133, H⟩
      ·
        refine WL.guardYes rfl rfl rfl ((show _ = Value.bool (decide (x116 < (a0.length : Int))) from rfl).trans (congrArg Value.bool c133)) ?_
        refine OW.ex rfl (ex_move (v := encS a0) s0_115) ?_
        refine WL.guardYes rfl rfl rfl ((show _ = Value.bool (decide (x116 < (a0.length : Int))) from rfl).trans (congrArg Value.bool c133)) ?_
        refine OW.ex rfl (ex_move (v := .int .i64 x116) s7_116) ?_
        refine WL.guardYes rfl rfl rfl ((show _ = Value.bool (decide (x116 < (a0.length : Int))) from rfl).trans (congrArg Value.bool c133)) ?_
        obtain ⟨x134, hx134, H⟩ := bindE H
        refine OW.ex rfl (ex_index_str (i := x116) rfl rfl Tryd.underlying9 (ix_some hx134).1 (ix_some hx134).2.2) ?_
        refine WL.guardYes rfl rfl rfl ((show _ = Value.bool (decide (x116 < (a0.length : Int))) from rfl).trans (congrArg Value.bool c133)) ?_
        obtain ⟨z135, hz135, H⟩ := bindE H
        refine OW.call [enc8 x134] rfl Tryd.func25 (by kernel_rfl) (by kernel_rfl) (map_cons' rfl rfl) (dictumref02_within.calls _ _ x134 z135 (HF.ten (V := [0]) (L := []) rfl)  hz135) ?_
        rintro _ w136 ⟨o137, rfl, s138⟩
        refine ⟨_, rfl, ?_⟩
        replace s138 := un_stepL (J := []) (L' := []) s138 rfl rfl
        replace hB105 := hB105.step s138 rfl
        replace HF := HF.step s138 rfl
        refine WL.ex rfl (ex_pick_t (v := .bool z135) ((show _ = Value.bool (decide (x116 < (a0.length : Int))) from rfl).trans (congrArg Value.bool c133)) rfl) ?_
        refine WL.nil ?_
        obtain rfl := Option.some.inj H
        exact ⟨_, HF, hB105, s0_115, s1_115, s4_115, s5_115, s6_115, s7_116, rfl⟩
      ·
        refine WL.guardNo rfl rfl rfl ((show _ = Value.bool (decide (x116 < (a0.length : Int))) from rfl).trans (congrArg Value.bool c133)) ?_
        refine WL.guardNo rfl rfl rfl ((show _ = Value.bool (decide (x116 < (a0.length : Int))) from rfl).trans (congrArg Value.bool c133)) ?_
        refine WL.guardNo rfl rfl rfl ((show _ = Value.bool (decide (x116 < (a0.length : Int))) from rfl).trans (congrArg Value.bool c133)) ?_
        refine WL.guardNo rfl rfl rfl ((show _ = Value.bool (decide (x116 < (a0.length : Int))) from rfl).trans (congrArg Value.bool c133)) ?_
        refine WL.ex rfl (ex_pick_f (v := .bool false) ((show _ = Value.bool (decide (x116 < (a0.length : Int))) from rfl).trans (congrArg Value.bool c133)) rfl) ?_
        refine WL.nil ?_
        obtain rfl := Option.some.inj H
        exact ⟨_, HF, hB105, s0_115, s1_115, s4_115, s5_115, s6_115, s7_116, rfl⟩
    ·
      refine WC.cond_f ((show _ = Value.bool z111 from rfl).trans (congrArg Value.bool c115)) ?_
      refine WC.skip ?_
      refine WC.seq ?_
      refine WC.seq ?_
      refine WC.region ?_
      refine WL.ex rfl (ex_move (v := encS a0) rfl) ?_
      refine WL.ex rfl (ex_move (v := .int .i64 a1) rfl) ?_
      obtain ⟨x150, hx150, H⟩ := bindE H
      refine WL.ex rfl (ex_index_str (i := a1) rfl rfl Tryd.underlying9 (ix_some hx150).1 (ix_some hx150).2.2) ?_
      obtain ⟨z151, hz151, H⟩ := bindE H
      refine WL.op rfl ?_
      refine OW.call [enc8 x150] rfl Tryd.func36 (by kernel_rfl) (by kernel_rfl) (map_cons' rfl rfl) (dictumref02_digit.calls _ _ x150 z151 (HF.ten (V := [0]) (L := []) rfl)  hz151) ?_
      rintro _ w152 ⟨o153, rfl, s154⟩
      refine ⟨_, rfl, ?_⟩
      replace s154 := un_stepL (J := []) (L' := []) s154 rfl rfl
      replace hB105 := hB105.step s154 rfl
      replace HF := HF.step s154 rfl
      refine WL.nil ?_
      rcases condE H with ⟨c155, H⟩ | ⟨c155, H⟩
      ·
        refine WC.cond_t ((show _ = Value.bool z151 from rfl).trans (congrArg Value.bool c155)) ?_
        refine WC.seq ?_
        refine WC.region ?_
        refine WL.ex rfl (ex_move (v := encS a0) rfl) ?_
        refine WL.ex rfl (ex_move (v := .int .i64 a1) rfl) ?_
        obtain ⟨z156, hz156, H⟩ := bindE H
        refine WL.op rfl ?_
        refine OW.call [encS a0, .int .i64 a1] rfl Tryd.func44 (by kernel_rfl) (by kernel_rfl) (map_cons' rfl (map_cons' rfl rfl)) (dictumref02_number.calls k _ _ a0 a1 z156 (HF.ten (V := [0]) (L := []) rfl)  hz156) ?_
        rintro _ w157 ⟨o158, rfl, s159⟩
        refine ⟨_, rfl, ?_⟩
        replace s159 := un_stepL (J := []) (L' := []) s159 rfl rfl
        replace hB105 := hB105.step s159 rfl
        replace HF := HF.step s159 rfl
        refine WL.ex rfl (ex_extract (vs := #[.agg #[.int .i64 z156.1.f_Kind, encS z156.1.f_Text, .int .i64 z156.1.f_Int, .int .i64 z156.1.f_At.f_Line, .int .i64 z156.1.f_At.f_Col, .int .i64 z156.1.f_At.f_Off], .int .i64 z156.2.1, .int .i64 z156.2.2]) (v := .agg #[.int .i64 z156.1.f_Kind, encS z156.1.f_Text, .int .i64 z156.1.f_Int, .int .i64 z156.1.f_At.f_Line, .int .i64 z156.1.f_At.f_Col, .int .i64 z156.1.f_At.f_Off]) rfl rfl) ?_
        refine WL.ex rfl (ex_extract (vs := #[.agg #[.int .i64 z156.1.f_Kind, encS z156.1.f_Text, .int .i64 z156.1.f_Int, .int .i64 z156.1.f_At.f_Line, .int .i64 z156.1.f_At.f_Col, .int .i64 z156.1.f_At.f_Off], .int .i64 z156.2.1, .int .i64 z156.2.2]) (v := .int .i64 z156.2.1) rfl rfl) ?_
        refine WL.ex rfl (ex_extract (vs := #[.agg #[.int .i64 z156.1.f_Kind, encS z156.1.f_Text, .int .i64 z156.1.f_Int, .int .i64 z156.1.f_At.f_Line, .int .i64 z156.1.f_At.f_Col, .int .i64 z156.1.f_At.f_Off], .int .i64 z156.2.1, .int .i64 z156.2.2]) (v := .int .i64 z156.2.2) rfl rfl) ?_
        refine WL.op rfl ?_
        refine OW.store [.int .i64 z156.1.f_Kind, encS z156.1.f_Text, .int .i64 z156.1.f_Int, .int .i64 z156.1.f_At.f_Line, .int .i64 z156.1.f_At.f_Col, .int .i64 z156.1.f_At.f_Off] rfl (vs := [.int .i64 z156.1.f_Kind, encS z156.1.f_Text, .int .i64 z156.1.f_Int, .int .i64 z156.1.f_At.f_Line, .int .i64 z156.1.f_At.f_Col, .int .i64 z156.1.f_At.f_Off]) ((congrArg Value.cells (show ev _ _ = (.agg #[.int .i64 z156.1.f_Kind, encS z156.1.f_Text, .int .i64 z156.1.f_Int, .int .i64 z156.1.f_At.f_Line, .int .i64 z156.1.f_At.f_Col, .int .i64 z156.1.f_At.f_Off] : Value) from rfl)).trans rfl) sz37 hB105 (Nat.le_of_ble_eq_true rfl) (by intro u_ hu_; simp only [List.mem_cons, List.not_mem_nil, or_false] at hu_; rcases hu_ with rfl | rfl | rfl | rfl | rfl | rfl <;> first | rfl) rfl ?_
        intro w160 s161 hB162
        replace HF := HF.step s161 rfl
        refine WL.ex rfl (ex_assign (v := .int .i64 z156.2.1) rfl) ?_
        refine WL.ex rfl (ex_assign (v := .int .i64 z156.2.2) rfl) ?_
        refine WL.nil ?_
        refine WC.ret ?_
        obtain rfl := Option.some.inj H
        exact ⟨_, (.cell (.agg #[.int .i64 z156.1.f_Kind, encS z156.1.f_Text, .int .i64 z156.1.f_Int, .int .i64 z156.1.f_At.f_Line, .int .i64 z156.1.f_At.f_Col, .int .i64 z156.1.f_At.f_Off] : Value) rfl (run_loadN (cs := [.int .i64 z156.1.f_Kind, encS z156.1.f_Text, .int .i64 z156.1.f_Int, .int .i64 z156.1.f_At.f_Line, .int .i64 z156.1.f_At.f_Col, .int .i64 z156.1.f_At.f_Off]) Tryd.underlying37 rfl sz37 (hB162.cells rfl)) (.tmp (.int .i64 z156.2.1 : Value) rfl (.tmp (.int .i64 z156.2.2 : Value) rfl .nil))), _, rfl, HF.out⟩
      ·
        refine WC.cond_f ((show _ = Value.bool z151 from rfl).trans (congrArg Value.bool c155)) ?_
        refine WC.skip ?_
        refine WC.seq ?_
        refine WC.region ?_
        obtain ⟨z163, hz163, H⟩ := bindE H
        refine WL.op rfl ?_
        refine OW.call [] rfl Tryd.func45 (by kernel_rfl) (by kernel_rfl) rfl (dictumref02_specials.calls _ _ z163 (HF.ten (V := [0]) (L := []) rfl)  hz163) ?_
        rintro _ w164 ⟨o165, v167, rfl, s166, hO168⟩
        refine ⟨_, rfl, ?_⟩
        replace hO168 := Own.un9 (J := [11]) 0 hO168 rfl s166 rfl rfl
        replace s166 := un_stepL (J := [11]) (L' := []) s166 rfl rfl
        replace hB105 := hB105.step s166 rfl
        replace HF := HF.step s166 rfl
        refine WL.ex rfl (ex_assign (v := v167) rfl) ?_
        refine WL.nil ?_
        refine WC.seq ?_
        refine WC.seq ?_
        refine WC.region ?_
        refine WL.ex rfl (ex_assign (v := .int .i64 0) rfl) ?_
        refine WL.nil ?_
        obtain ⟨z170, hz170, H⟩ := bindE H
        refine WC.for (fun k_ ρ_ w_ => ∃ (o_ : Tags) (x169 : Int), Fm o0 w0 o_ w_ [] ∧ Own T_dictumref02_special.rep 78 11 o_ w_ v167 z163 ∧ Bk o_ w_ 10 b101 [.int .i64 (0 : Int), encS ([] : List UInt8), .int .i64 (0 : Int), .int .i64 (0 : Int), .int .i64 (0 : Int), .int .i64 (0 : Int)] 37 ∧ ρ_ 0 = encS a0 ∧ ρ_ 1 = .int .i64 a1 ∧ ρ_ 4 = .pointer (some ⟨b101, 0, none⟩) ∧ ρ_ 5 = .int .i64 0 ∧ ρ_ 6 = .int .i64 0 ∧ ρ_ 8 = v167 ∧ ρ_ 9 = .int .i64 x169 ∧ dictumref02_one.l2 k a0 a1 z163 k_ x169 = some z170) k (fun ρ_ w_ => ∃ (o_ : Tags), Fm o0 w0 o_ w_ [] ∧ Bk o_ w_ 10 b101 [.int .i64 (0 : Int), encS ([] : List UInt8), .int .i64 (0 : Int), .int .i64 (0 : Int), .int .i64 (0 : Int), .int .i64 (0 : Int)] 37 ∧ ρ_ 0 = encS a0 ∧ ρ_ 1 = .int .i64 a1 ∧ ρ_ 4 = .pointer (some ⟨b101, 0, none⟩) ∧ ρ_ 5 = .int .i64 0 ∧ ρ_ 6 = .int .i64 0 ∧ z170 = .inr ()) ⟨_, 0, HF, hO168, hB105, rfl, rfl, rfl, rfl, rfl, rfl, rfl, hz170⟩ ?case171 ?_
        case case171 =>
          rintro ρ245 w243 ⟨o244, HF, hB105, s0_169, s1_169, s4_169, s5_169, s6_169, rfl⟩
          dsimp only at H
          refine WC.seq ?_
          refine WC.region ?_
          obtain ⟨z246, hz246, H⟩ := bindE H
          refine WL.op rfl ?_
          refine OW.call [] rfl Tryd.func47 (by kernel_rfl) (by kernel_rfl) rfl (dictumref02_Signs.calls _ _ z246 (HF.ten (V := [0]) (L := []) rfl)  hz246) ?_
          rintro _ w247 ⟨o248, v250, rfl, s249, hO251⟩
          refine ⟨_, rfl, ?_⟩
          replace hO251 := Own.un9 (J := [12]) 0 hO251 rfl s249 rfl rfl
          replace s249 := un_stepL (J := [12]) (L' := []) s249 rfl rfl
          replace hB105 := hB105.step s249 rfl
          replace HF := HF.step s249 rfl
          refine WL.ex rfl (ex_assign (v := v250) rfl) ?_
          refine WL.nil ?_
          refine WC.seq ?_
          refine WC.seq ?_
          refine WC.region ?_
          refine WL.ex rfl (ex_assign (v := .int .i64 0) rfl) ?_
          refine WL.nil ?_
          obtain ⟨z253, hz253, H⟩ := bindE H
          refine WC.for (fun k_ ρ_ w_ => ∃ (o_ : Tags) (x252 : Int), Fm o0 w0 o_ w_ [] ∧ Own Rep.str 9 12 o_ w_ v250 z246 ∧ Bk o_ w_ 10 b101 [.int .i64 (0 : Int), encS ([] : List UInt8), .int .i64 (0 : Int), .int .i64 (0 : Int), .int .i64 (0 : Int), .int .i64 (0 : Int)] 37 ∧ ρ_ 0 = encS a0 ∧ ρ_ 1 = .int .i64 a1 ∧ ρ_ 4 = .pointer (some ⟨b101, 0, none⟩) ∧ ρ_ 5 = .int .i64 0 ∧ ρ_ 6 = .int .i64 0 ∧ ρ_ 10 = v250 ∧ ρ_ 11 = .int .i64 x252 ∧ dictumref02_one.l3 k a0 a1 z246 k_ x252 = some z253) k (fun ρ_ w_ => ∃ (o_ : Tags), Fm o0 w0 o_ w_ [] ∧ Bk o_ w_ 10 b101 [.int .i64 (0 : Int), encS ([] : List UInt8), .int .i64 (0 : Int), .int .i64 (0 : Int), .int .i64 (0 : Int), .int .i64 (0 : Int)] 37 ∧ ρ_ 1 = .int .i64 a1 ∧ ρ_ 4 = .pointer (some ⟨b101, 0, none⟩) ∧ ρ_ 5 = .int .i64 0 ∧ ρ_ 6 = .int .i64 0 ∧ z253 = .inr ()) ⟨_, 0, HF, hO251, hB105, s0_169, s1_169, s4_169, s5_169, s6_169, rfl, rfl, hz253⟩ ?case254 ?_
          case case254 =>
            rintro ρ306 w304 ⟨o305, HF, hB105, s1_252, s4_252, s5_252, s6_252, rfl⟩
            dsimp only at H
            refine WC.seq ?_
            refine WC.region ?_
            refine WL.ex rfl (ex_build (cs := [.int .i64 (0 : Int), encS ([] : List UInt8), .int .i64 (0 : Int), .int .i64 (0 : Int), .int .i64 (0 : Int), .int .i64 (0 : Int)]) [(0, 1), (1, 1), (2, 1), (3, 3)] [] [.int .i64 0, .string ⟨#[]⟩, .int .i64 0, .int .i64 0, .int .i64 0, .int .i64 0] Tryd.underlying37 zr37 rfl (by kernel_rfl) rfl rfl) ?_
            refine WL.ex rfl (ex_move (v := .int .i64 a1) s1_252) ?_
            refine WL.op rfl ?_
            refine OW.store [.int .i64 (0 : Int), encS ([] : List UInt8), .int .i64 (0 : Int), .int .i64 (0 : Int), .int .i64 (0 : Int), .int .i64 (0 : Int)] s4_252 (vs := [.int .i64 (0 : Int), encS ([] : List UInt8), .int .i64 (0 : Int), .int .i64 (0 : Int), .int .i64 (0 : Int), .int .i64 (0 : Int)]) ((congrArg Value.cells (show ev _ _ = (.agg #[.int .i64 (0 : Int), encS ([] : List UInt8), .int .i64 (0 : Int), .int .i64 (0 : Int), .int .i64 (0 : Int), .int .i64 (0 : Int)] : Value) from rfl)).trans rfl) sz37 hB105 (Nat.le_of_ble_eq_true rfl) (by intro u_ hu_; simp only [List.mem_cons, List.not_mem_nil, or_false] at hu_; rcases hu_ with rfl | rfl | rfl | rfl | rfl | rfl <;> first | rfl) rfl ?_
            intro w307 s308 hB309
            replace HF := HF.step s308 rfl
            refine WL.ex rfl (ex_assign (v := .int .i64 a1) rfl) ?_
            refine WL.ex rfl (ex_assign (v := .int .i64 20) rfl) ?_
            refine WL.nil ?_
            refine WC.ret ?_
            obtain rfl := Option.some.inj H
            exact ⟨_, (.cell (.agg #[.int .i64 (0 : Int), encS ([] : List UInt8), .int .i64 (0 : Int), .int .i64 (0 : Int), .int .i64 (0 : Int), .int .i64 (0 : Int)] : Value) s4_252 (run_loadN (cs := [.int .i64 (0 : Int), encS ([] : List UInt8), .int .i64 (0 : Int), .int .i64 (0 : Int), .int .i64 (0 : Int), .int .i64 (0 : Int)]) Tryd.underlying37 rfl sz37 (hB309.cells rfl)) (.tmp (.int .i64 a1 : Value) rfl (.tmp (.int .i64 20 : Value) rfl .nil))), _, rfl, HF.out⟩
          have Ho255 := H
          rintro k256 ρ257 w258 ⟨o259, x252, HF, hO251, hB105, s0_251, s1_251, s4_251, s5_251, s6_251, s10_251, s11_252, H⟩
          cases k256 with
          | zero => cases H
          | succ k256 =>
          rw [dictumref02_one.l3.eq_2] at H
          refine WC.seq ?_
          refine WC.seq ?_
          refine WC.region ?_
          refine WL.ex rfl (ex_move (v := .int .i64 x252) s11_252) ?_
          refine WL.ex rfl (ex_move (v := v250) s10_251) ?_
          obtain ⟨A260, c261, q262⟩ := hO251.slice
          refine WL.ex rfl (ex_len_slice ((show _ = (v250 : Value) from rfl).trans q262) Tryd.underlying49) ?_
          refine WL.ex rfl (ex_bin (a := .int .i64 x252) (b := .int .i64 (z246.length : Int)) (v := .bool (decide (x252 < (z246.length : Int)))) rfl rfl bin_lss) ?_
          refine WL.nil ?_
          rcases condE H with ⟨c263, H⟩ | ⟨c263, H⟩
          ·
            refine WC.cond_t ((show _ = Value.bool (decide (x252 < (z246.length : Int))) from rfl).trans (congrArg Value.bool c263)) ?_
            refine WC.skip ?_
            refine WC.seq ?_
            refine WC.block ?_
            refine WC.seq ?_
            refine WC.region ?_
            refine WL.ex rfl (ex_move (v := encS a0) s0_251) ?_
            refine WL.ex rfl (ex_move (v := .int .i64 a1) s1_251) ?_
            refine WL.ex rfl (ex_move (v := v250) s10_251) ?_
            refine WL.ex rfl (ex_move (v := .int .i64 x252) s11_252) ?_
            obtain ⟨x264, hx264, H⟩ := bindE H
            obtain ⟨A269, c270, q271_⟩ := hO251.slice
            obtain ⟨ad265, e266, g267, g268, cell272⟩ := Row.ixS (Own.rowOf hO251 q271_) hx264
            refine WL.ex rfl (ex_indexAddr (i := x252) ((show _ = (v250 : Value) from rfl).trans q271_) e266 rfl Tryd.underlying49 sz9 g267 g268) ?_
            refine WL.ex rfl (ex_load1 (v := encS x264) rfl Tryd.underlying9 rfl cell272) ?_
            obtain ⟨z274, hz274, H⟩ := bindE H
            refine WL.op rfl ?_
            refine OW.call [encS a0, .int .i64 a1, encS x264] rfl Tryd.func46 (by kernel_rfl) (by kernel_rfl) (map_cons' rfl (map_cons' rfl (map_cons' rfl rfl))) (dictumref02_at.calls _ _ a0 a1 x264 z274 (HF.ten (V := [0]) (L := []) rfl)  hz274) ?_
            rintro _ w275 ⟨o276, rfl, s277⟩
            refine ⟨_, rfl, ?_⟩
            replace s277 := un_stepL (J := []) (L' := []) s277 rfl rfl
            replace hO251 := hO251.step s277 rfl rfl
            replace hB105 := hB105.step s277 rfl
            replace HF := HF.step s277 rfl
            refine WL.nil ?_
            rcases condE H with ⟨c278, H⟩ | ⟨c278, H⟩
            ·
              refine WC.cond_t ((show _ = Value.bool z274 from rfl).trans (congrArg Value.bool c278)) ?_
              refine WC.seq ?_
              refine WC.regionD' HF [10] 15 (by kernel_rfl) rfl ?_
              intro w279 s280
              replace hO251 := hO251.step s280 rfl rfl
              replace hB105 := hB105.step s280 rfl
              replace HF := HF.step s280 rfl
              have hO251D := hO251
              have hB105D := hB105
              have sR := HF.here [10]
              refine WA.norm (listed' := #[false, false, false, false, false, false, false, false, false, false, false, false, false, false, false]) (by kernel_rfl) ?_
              refine WA.ex 0 rfl (by kernel_rfl) (by kernel_rfl) (by kernel_rfl) rfl ⟨_, sR⟩ (fun w_ hS_ => ex_move (v := v250) s10_251) ?_
              refine WA.norm (listed' := #[true, false, false, false, false, false, false, false, false, false, false, false, false, false, false]) (by kernel_rfl) ?_
              refine WA.ex 1 rfl (by kernel_rfl) (by kernel_rfl) (by kernel_rfl) rfl ⟨_, sR⟩ (fun w_ hS_ => ex_move (v := .int .i64 x252) s11_252) ?_
              refine WA.norm (listed' := #[true, true, false, false, false, false, false, false, false, false, false, false, false, false, false]) (by kernel_rfl) ?_
              obtain ⟨x281, hx281, H⟩ := bindE H
              obtain ⟨A286, c287, q288_⟩ := hO251.slice
              obtain ⟨ad282, e283, g284, g285, cell289⟩ := Row.ixS (Own.rowOf hO251D q288_) hx281
              have hk290 := Row.at (Own.rowOf hO251D q288_) e283 hx281 (x252.toNat * 1)
              replace cell289 := held_cell (Step.refl _ _ _) ⟨_, sR⟩ hk290 rfl cell289
              refine WA.ex 2 rfl (by kernel_rfl) (by kernel_rfl) (by kernel_rfl) rfl ⟨_, sR⟩ (fun w_ hS_ => ex_indexAddr (i := x252) ((show _ = (v250 : Value) from rfl).trans q288_) e283 rfl Tryd.underlying49 sz9 g284 g285) ?_
              refine WA.norm (listed' := #[true, true, true, false, false, false, false, false, false, false, false, false, false, false, false]) (by kernel_rfl) ?_
              refine WA.ex 3 rfl (by kernel_rfl) (by kernel_rfl) (by kernel_rfl) rfl ⟨_, sR⟩ (fun w_ hS_ => ex_load1 (v := encS x281) rfl Tryd.underlying9 rfl (held_cell sR hS_ hk290 rfl cell289)) ?_
              refine WA.norm (listed' := #[true, true, true, true, false, false, false, false, false, false, false, false, false, false, false]) (by kernel_rfl) ?_
              refine WA.ex 4 rfl (by kernel_rfl) (by kernel_rfl) (by kernel_rfl) rfl ⟨_, sR⟩ (fun w_ hS_ => ex_build (cs := [.int .i64 3, encS x281, .int .i64 (0 : Int), .int .i64 (0 : Int), .int .i64 (0 : Int), .int .i64 (0 : Int)]) [(0, 1), (1, 1), (2, 1), (3, 3)] [(0, .int .i64 3), (1, encS x281)] [.int .i64 0, .string ⟨#[]⟩, .int .i64 0, .int .i64 0, .int .i64 0, .int .i64 0] Tryd.underlying37 zr37 rfl (by kernel_rfl) (evs_cons rfl (evs_cons rfl rfl)) rfl) ?_
              refine WA.norm (listed' := #[true, true, true, true, true, false, false, false, false, false, false, false, false, false, false]) (by kernel_rfl) ?_
              refine WA.ex 5 rfl (by kernel_rfl) (by kernel_rfl) (by kernel_rfl) rfl ⟨_, sR⟩ (fun w_ hS_ => ex_move (v := .int .i64 a1) s1_251) ?_
              refine WA.norm (listed' := #[true, true, true, true, true, true, false, false, false, false, false, false, false, false, false]) (by kernel_rfl) ?_
              refine WA.ex 6 rfl (by kernel_rfl) (by kernel_rfl) (by kernel_rfl) rfl ⟨_, sR⟩ (fun w_ hS_ => ex_move (v := v250) s10_251) ?_
              refine WA.norm (listed' := #[true, true, true, true, true, true, true, false, false, false, false, false, false, false, false]) (by kernel_rfl) ?_
              refine WA.ex 7 rfl (by kernel_rfl) (by kernel_rfl) (by kernel_rfl) rfl ⟨_, sR⟩ (fun w_ hS_ => ex_move (v := .int .i64 x252) s11_252) ?_
              refine WA.norm (listed' := #[true, true, true, true, true, true, true, true, false, false, false, false, false, false, false]) (by kernel_rfl) ?_
              obtain ⟨x291, hx291, H⟩ := bindE H
              obtain ⟨A296, c297, q298_⟩ := hO251.slice
              obtain ⟨ad292, e293, g294, g295, cell299⟩ := Row.ixS (Own.rowOf hO251D q298_) hx291
              have hk300 := Row.at (Own.rowOf hO251D q298_) e293 hx291 (x252.toNat * 1)
              replace cell299 := held_cell (Step.refl _ _ _) ⟨_, sR⟩ hk300 rfl cell299
              refine WA.ex 8 rfl (by kernel_rfl) (by kernel_rfl) (by kernel_rfl) rfl ⟨_, sR⟩ (fun w_ hS_ => ex_indexAddr (i := x252) ((show _ = (v250 : Value) from rfl).trans q298_) e293 rfl Tryd.underlying49 sz9 g294 g295) ?_
              refine WA.norm (listed' := #[true, true, true, true, true, true, true, true, true, false, false, false, false, false, false]) (by kernel_rfl) ?_
              refine WA.ex 9 rfl (by kernel_rfl) (by kernel_rfl) (by kernel_rfl) rfl ⟨_, sR⟩ (fun w_ hS_ => ex_load1 (v := encS x291) rfl Tryd.underlying9 rfl (held_cell sR hS_ hk300 rfl cell299)) ?_
              refine WA.norm (listed' := #[true, true, true, true, true, true, true, true, true, true, false, false, false, false, false]) (by kernel_rfl) ?_
              refine WA.ex 10 rfl (by kernel_rfl) (by kernel_rfl) (by kernel_rfl) rfl ⟨_, sR⟩ (fun w_ hS_ => ex_len_str (s := x291) rfl Tryd.underlying9) ?_
              refine WA.norm (listed' := #[true, true, true, true, true, true, true, true, true, true, true, false, false, false, false]) (by kernel_rfl) ?_
              refine WA.ex 11 rfl (by kernel_rfl) (by kernel_rfl) (by kernel_rfl) rfl ⟨_, sR⟩ (fun w_ hS_ => ex_bin (a := .int .i64 a1) (b := .int .i64 (x291.length : Int)) (v := .int .i64 (wrap64 (a1 + (x291.length : Int)))) rfl rfl bin_add64) ?_
              refine WA.norm (listed' := #[true, true, true, true, true, true, true, true, true, true, true, true, false, false, false]) (by kernel_rfl) ?_
              refine WA.one 12 (by kernel_rfl) rfl rfl ?_
              refine OW.store [.int .i64 3, encS x281, .int .i64 (0 : Int), .int .i64 (0 : Int), .int .i64 (0 : Int), .int .i64 (0 : Int)] s4_251 (vs := [.int .i64 3, encS x281, .int .i64 (0 : Int), .int .i64 (0 : Int), .int .i64 (0 : Int), .int .i64 (0 : Int)]) ((congrArg Value.cells (show ev _ _ = (.agg #[.int .i64 3, encS x281, .int .i64 (0 : Int), .int .i64 (0 : Int), .int .i64 (0 : Int), .int .i64 (0 : Int)] : Value) from rfl)).trans rfl) sz37 hB105 (Nat.le_of_ble_eq_true rfl) (by intro u_ hu_; simp only [List.mem_cons, List.not_mem_nil, or_false] at hu_; rcases hu_ with rfl | rfl | rfl | rfl | rfl | rfl <;> first | rfl) rfl ?_
              intro w301 s302 hB303
              replace hO251 := hO251.step s302 rfl rfl
              replace HF := HF.step s302 rfl
              replace sR := Step.trans sR s302 (M := [10]) rfl rfl
              refine ⟨⟨_, sR⟩, ?_⟩
              refine WA.norm (listed' := #[true, true, true, true, true, true, true, true, true, true, true, true, true, false, false]) (by kernel_rfl) ?_
              refine WA.ex 13 rfl (by kernel_rfl) (by kernel_rfl) (by kernel_rfl) rfl ⟨_, sR⟩ (fun w_ hS_ => ex_assign (v := .int .i64 (wrap64 (a1 + (x291.length : Int)))) rfl) ?_
              refine WA.norm (listed' := #[true, true, true, true, true, true, true, true, true, true, true, true, true, true, false]) (by kernel_rfl) ?_
              refine WA.ex 14 rfl (by kernel_rfl) (by kernel_rfl) (by kernel_rfl) rfl ⟨_, sR⟩ (fun w_ hS_ => ex_assign (v := .int .i64 0) rfl) ?_
              refine WA.norm (listed' := #[true, true, true, true, true, true, true, true, true, true, true, true, true, true, true]) (by kernel_rfl) ?_
              refine WA.done (by kernel_rfl) ?_
              refine WC.ret ?_
              obtain rfl := Option.some.inj H
              replace H := Ho255
              dsimp only at H
              obtain rfl := Option.some.inj H
              exact ⟨_, (.cell (.agg #[.int .i64 3, encS x281, .int .i64 (0 : Int), .int .i64 (0 : Int), .int .i64 (0 : Int), .int .i64 (0 : Int)] : Value) s4_251 (run_loadN (cs := [.int .i64 3, encS x281, .int .i64 (0 : Int), .int .i64 (0 : Int), .int .i64 (0 : Int), .int .i64 (0 : Int)]) Tryd.underlying37 rfl sz37 (hB303.cells rfl)) (.tmp (.int .i64 (wrap64 (a1 + (x291.length : Int))) : Value) rfl (.tmp (.int .i64 0 : Value) rfl .nil))), _, rfl, HF.out⟩
            ·
              refine WC.cond_f ((show _ = Value.bool z274 from rfl).trans (congrArg Value.bool c278)) ?_
              refine WC.skip ?_
              refine WC.region ?_
              refine WL.ex rfl (ex_move (v := .int .i64 x252) s11_252) ?_
              refine WL.ex rfl (ex_bin (a := .int .i64 x252) (b := .int .i64 1) (v := .int .i64 (wrap64 (x252 + 1))) rfl rfl bin_add64) ?_
              refine WL.ex rfl (ex_assign (v := .int .i64 (wrap64 (x252 + 1))) rfl) ?_
              refine WL.nil ?_
              exact ⟨k256, Nat.lt_succ_self _, ⟨_, wrap64 (x252 + 1), HF, hO251, hB105, s0_251, s1_251, s4_251, s5_251, s6_251, s10_251, rfl, H⟩⟩
          ·
            refine WC.cond_f ((show _ = Value.bool (decide (x252 < (z246.length : Int))) from rfl).trans (congrArg Value.bool c263)) ?_
            refine WC.exit ?_
            obtain rfl := Option.some.inj H
            exact ⟨_, HF, hB105, s1_251, s4_251, s5_251, s6_251, rfl⟩
        have Ho172 := H
        rintro k173 ρ174 w175 ⟨o176, x169, HF, hO168, hB105, s0_168, s1_168, s4_168, s5_168, s6_168, s8_168, s9_169, H⟩
        cases k173 with
        | zero => cases H
        | succ k173 =>
        rw [dictumref02_one.l2.eq_2] at H
        refine WC.seq ?_
        refine WC.seq ?_
        refine WC.region ?_
        refine WL.ex rfl (ex_move (v := .int .i64 x169) s9_169) ?_
        refine WL.ex rfl (ex_move (v := v167) s8_168) ?_
        obtain ⟨A177, c178, q179⟩ := hO168.slice
        refine WL.ex rfl (ex_len_slice ((show _ = (v167 : Value) from rfl).trans q179) Tryd.underlying74) ?_
        refine WL.ex rfl (ex_bin (a := .int .i64 x169) (b := .int .i64 (z163.length : Int)) (v := .bool (decide (x169 < (z163.length : Int)))) rfl rfl bin_lss) ?_
        refine WL.nil ?_
        rcases condE H with ⟨c180, H⟩ | ⟨c180, H⟩
        ·
          refine WC.cond_t ((show _ = Value.bool (decide (x169 < (z163.length : Int))) from rfl).trans (congrArg Value.bool c180)) ?_
          refine WC.skip ?_
          refine WC.seq ?_
          refine WC.block ?_
          refine WC.seq ?_
          refine WC.region ?_
          refine WL.ex rfl (ex_move (v := encS a0) s0_168) ?_
          refine WL.ex rfl (ex_move (v := .int .i64 a1) s1_168) ?_
          refine WL.ex rfl (ex_move (v := v167) s8_168) ?_
          refine WL.ex rfl (ex_move (v := .int .i64 x169) s9_169) ?_
          obtain ⟨x181, hx181, H⟩ := bindE H
          obtain ⟨A186, c187, q188_⟩ := hO168.slice
          obtain ⟨ad182, cc189, e183, g184, g185, hl190, hR191, cell192⟩ := Row.ix (Own.rowOf hO168 q188_) hx181
          obtain rfl := T_dictumref02_special.opn hR191
          refine WL.ex rfl (ex_indexAddr (i := x169) ((show _ = (v167 : Value) from rfl).trans q188_) e183 rfl Tryd.underlying74 sz78 g184 g185) ?_
          refine WL.ex rfl (ex_fieldAddr rfl Tryd.underlying78 rfl sz9) ?_
          refine WL.ex rfl (ex_load1 (v := encS x181.f_Rune) rfl Tryd.underlying9 rfl (cell192 0 _ rfl)) ?_
          obtain ⟨z194, hz194, H⟩ := bindE H
          refine WL.op rfl ?_
          refine OW.call [encS a0, .int .i64 a1, encS x181.f_Rune] rfl Tryd.func46 (by kernel_rfl) (by kernel_rfl) (map_cons' rfl (map_cons' rfl (map_cons' rfl rfl))) (dictumref02_at.calls _ _ a0 a1 x181.f_Rune z194 (HF.ten (V := [0]) (L := []) rfl)  hz194) ?_
          rintro _ w195 ⟨o196, rfl, s197⟩
          refine ⟨_, rfl, ?_⟩
          replace s197 := un_stepL (J := []) (L' := []) s197 rfl rfl
          replace hO168 := hO168.step s197 rfl rfl
          replace hB105 := hB105.step s197 rfl
          replace HF := HF.step s197 rfl
          refine WL.nil ?_
          rcases condE H with ⟨c198, H⟩ | ⟨c198, H⟩
          ·
            refine WC.cond_t ((show _ = Value.bool z194 from rfl).trans (congrArg Value.bool c198)) ?_
            refine WC.seq ?_
            refine WC.regionD' HF [10] 22 (by kernel_rfl) rfl ?_
            intro w199 s200
            replace hO168 := hO168.step s200 rfl rfl
            replace hB105 := hB105.step s200 rfl
            replace HF := HF.step s200 rfl
            have hO168D := hO168
            have hB105D := hB105
            have sR := HF.here [10]
            refine WA.norm (listed' := #[false, false, false, false, false, false, false, false, false, false, false, false, false, false, false, false, false, false, false, false, false, false]) (by kernel_rfl) ?_
            refine WA.ex 0 rfl (by kernel_rfl) (by kernel_rfl) (by kernel_rfl) rfl ⟨_, sR⟩ (fun w_ hS_ => ex_move (v := v167) s8_168) ?_
            refine WA.norm (listed' := #[true, false, false, false, false, false, false, false, false, false, false, false, false, false, false, false, false, false, false, false, false, false]) (by kernel_rfl) ?_
            refine WA.ex 1 rfl (by kernel_rfl) (by kernel_rfl) (by kernel_rfl) rfl ⟨_, sR⟩ (fun w_ hS_ => ex_move (v := .int .i64 x169) s9_169) ?_
            refine WA.norm (listed' := #[true, true, false, false, false, false, false, false, false, false, false, false, false, false, false, false, false, false, false, false, false, false]) (by kernel_rfl) ?_
            obtain ⟨x201, hx201, H⟩ := bindE H
            obtain ⟨A206, c207, q208_⟩ := hO168.slice
            obtain ⟨ad202, cc209, e203, g204, g205, hl210, hR211, cell212⟩ := Row.ix (Own.rowOf hO168D q208_) hx201
            obtain rfl := T_dictumref02_special.opn hR211
            have hk213 := Row.at (Own.rowOf hO168D q208_) e203 hx201 (x169.toNat * 3)
            replace cell212 := fun j_ u_ hu_ => held_cell (Step.refl _ _ _) ⟨_, sR⟩ (by rw [add_block]; exact hk213) rfl (cell212 j_ u_ hu_)
            refine WA.ex 2 rfl (by kernel_rfl) (by kernel_rfl) (by kernel_rfl) rfl ⟨_, sR⟩ (fun w_ hS_ => ex_indexAddr (i := x169) ((show _ = (v167 : Value) from rfl).trans q208_) e203 rfl Tryd.underlying74 sz78 g204 g205) ?_
            refine WA.norm (listed' := #[true, true, true, false, false, false, false, false, false, false, false, false, false, false, false, false, false, false, false, false, false, false]) (by kernel_rfl) ?_
            refine WA.ex 3 rfl (by kernel_rfl) (by kernel_rfl) (by kernel_rfl) rfl ⟨_, sR⟩ (fun w_ hS_ => ex_fieldAddr rfl Tryd.underlying78 rfl sz35) ?_
            refine WA.norm (listed' := #[true, true, true, true, false, false, false, false, false, false, false, false, false, false, false, false, false, false, false, false, false, false]) (by kernel_rfl) ?_
            refine WA.ex 4 rfl (by kernel_rfl) (by kernel_rfl) (by kernel_rfl) rfl ⟨_, sR⟩ (fun w_ hS_ => ex_load1 (v := .int .i64 x201.f_Kind) rfl Tryd.underlying35 rfl (held_cell sR hS_ (by rw [add_block]; exact hk213) rfl (cell212 1 _ rfl))) ?_
            refine WA.norm (listed' := #[true, true, true, true, true, false, false, false, false, false, false, false, false, false, false, false, false, false, false, false, false, false]) (by kernel_rfl) ?_
            refine WA.ex 5 rfl (by kernel_rfl) (by kernel_rfl) (by kernel_rfl) rfl ⟨_, sR⟩ (fun w_ hS_ => ex_move (v := v167) s8_168) ?_
            refine WA.norm (listed' := #[true, true, true, true, true, true, false, false, false, false, false, false, false, false, false, false, false, false, false, false, false, false]) (by kernel_rfl) ?_
            refine WA.ex 6 rfl (by kernel_rfl) (by kernel_rfl) (by kernel_rfl) rfl ⟨_, sR⟩ (fun w_ hS_ => ex_move (v := .int .i64 x169) s9_169) ?_
            refine WA.norm (listed' := #[true, true, true, true, true, true, true, false, false, false, false, false, false, false, false, false, false, false, false, false, false, false]) (by kernel_rfl) ?_
            obtain ⟨x214, hx214, H⟩ := bindE H
            obtain ⟨A219, c220, q221_⟩ := hO168.slice
            obtain ⟨ad215, cc222, e216, g217, g218, hl223, hR224, cell225⟩ := Row.ix (Own.rowOf hO168D q221_) hx214
            obtain rfl := T_dictumref02_special.opn hR224
            have hk226 := Row.at (Own.rowOf hO168D q221_) e216 hx214 (x169.toNat * 3)
            replace cell225 := fun j_ u_ hu_ => held_cell (Step.refl _ _ _) ⟨_, sR⟩ (by rw [add_block]; exact hk226) rfl (cell225 j_ u_ hu_)
            refine WA.ex 7 rfl (by kernel_rfl) (by kernel_rfl) (by kernel_rfl) rfl ⟨_, sR⟩ (fun w_ hS_ => ex_indexAddr (i := x169) ((show _ = (v167 : Value) from rfl).trans q221_) e216 rfl Tryd.underlying74 sz78 g217 g218) ?_
            refine WA.norm (listed' := #[true, true, true, true, true, true, true, true, false, false, false, false, false, false, false, false, false, false, false, false, false, false]) (by kernel_rfl) ?_
            refine WA.ex 8 rfl (by kernel_rfl) (by kernel_rfl) (by kernel_rfl) rfl ⟨_, sR⟩ (fun w_ hS_ => ex_fieldAddr rfl Tryd.underlying78 rfl sz9) ?_
            refine WA.norm (listed' := #[true, true, true, true, true, true, true, true, true, false, false, false, false, false, false, false, false, false, false, false, false, false]) (by kernel_rfl) ?_
            refine WA.ex 9 rfl (by kernel_rfl) (by kernel_rfl) (by kernel_rfl) rfl ⟨_, sR⟩ (fun w_ hS_ => ex_load1 (v := encS x214.f_Text) rfl Tryd.underlying9 rfl (held_cell sR hS_ (by rw [add_block]; exact hk226) rfl (cell225 2 _ rfl))) ?_
            refine WA.norm (listed' := #[true, true, true, true, true, true, true, true, true, true, false, false, false, false, false, false, false, false, false, false, false, false]) (by kernel_rfl) ?_
            refine WA.ex 10 rfl (by kernel_rfl) (by kernel_rfl) (by kernel_rfl) rfl ⟨_, sR⟩ (fun w_ hS_ => ex_build (cs := [.int .i64 x201.f_Kind, encS x214.f_Text, .int .i64 (0 : Int), .int .i64 (0 : Int), .int .i64 (0 : Int), .int .i64 (0 : Int)]) [(0, 1), (1, 1), (2, 1), (3, 3)] [(0, .int .i64 x201.f_Kind), (1, encS x214.f_Text)] [.int .i64 0, .string ⟨#[]⟩, .int .i64 0, .int .i64 0, .int .i64 0, .int .i64 0] Tryd.underlying37 zr37 rfl (by kernel_rfl) (evs_cons rfl (evs_cons rfl rfl)) rfl) ?_
            refine WA.norm (listed' := #[true, true, true, true, true, true, true, true, true, true, true, false, false, false, false, false, false, false, false, false, false, false]) (by kernel_rfl) ?_
            refine WA.ex 11 rfl (by kernel_rfl) (by kernel_rfl) (by kernel_rfl) rfl ⟨_, sR⟩ (fun w_ hS_ => ex_move (v := .int .i64 a1) s1_168) ?_
            refine WA.norm (listed' := #[true, true, true, true, true, true, true, true, true, true, true, true, false, false, false, false, false, false, false, false, false, false]) (by kernel_rfl) ?_
            refine WA.ex 12 rfl (by kernel_rfl) (by kernel_rfl) (by kernel_rfl) rfl ⟨_, sR⟩ (fun w_ hS_ => ex_move (v := v167) s8_168) ?_
            refine WA.norm (listed' := #[true, true, true, true, true, true, true, true, true, true, true, true, true, false, false, false, false, false, false, false, false, false]) (by kernel_rfl) ?_
            refine WA.ex 13 rfl (by kernel_rfl) (by kernel_rfl) (by kernel_rfl) rfl ⟨_, sR⟩ (fun w_ hS_ => ex_move (v := .int .i64 x169) s9_169) ?_
            refine WA.norm (listed' := #[true, true, true, true, true, true, true, true, true, true, true, true, true, true, false, false, false, false, false, false, false, false]) (by kernel_rfl) ?_
            obtain ⟨x227, hx227, H⟩ := bindE H
            obtain ⟨A232, c233, q234_⟩ := hO168.slice
            obtain ⟨ad228, cc235, e229, g230, g231, hl236, hR237, cell238⟩ := Row.ix (Own.rowOf hO168D q234_) hx227
            obtain rfl := T_dictumref02_special.opn hR237
            have hk239 := Row.at (Own.rowOf hO168D q234_) e229 hx227 (x169.toNat * 3)
            replace cell238 := fun j_ u_ hu_ => held_cell (Step.refl _ _ _) ⟨_, sR⟩ (by rw [add_block]; exact hk239) rfl (cell238 j_ u_ hu_)
            refine WA.ex 14 rfl (by kernel_rfl) (by kernel_rfl) (by kernel_rfl) rfl ⟨_, sR⟩ (fun w_ hS_ => ex_indexAddr (i := x169) ((show _ = (v167 : Value) from rfl).trans q234_) e229 rfl Tryd.underlying74 sz78 g230 g231) ?_
            refine WA.norm (listed' := #[true, true, true, true, true, true, true, true, true, true, true, true, true, true, true, false, false, false, false, false, false, false]) (by kernel_rfl) ?_
            refine WA.ex 15 rfl (by kernel_rfl) (by kernel_rfl) (by kernel_rfl) rfl ⟨_, sR⟩ (fun w_ hS_ => ex_fieldAddr rfl Tryd.underlying78 rfl sz9) ?_
            refine WA.norm (listed' := #[true, true, true, true, true, true, true, true, true, true, true, true, true, true, true, true, false, false, false, false, false, false]) (by kernel_rfl) ?_
            refine WA.ex 16 rfl (by kernel_rfl) (by kernel_rfl) (by kernel_rfl) rfl ⟨_, sR⟩ (fun w_ hS_ => ex_load1 (v := encS x227.f_Rune) rfl Tryd.underlying9 rfl (held_cell sR hS_ (by rw [add_block]; exact hk239) rfl (cell238 0 _ rfl))) ?_
            refine WA.norm (listed' := #[true, true, true, true, true, true, true, true, true, true, true, true, true, true, true, true, true, false, false, false, false, false]) (by kernel_rfl) ?_
            refine WA.ex 17 rfl (by kernel_rfl) (by kernel_rfl) (by kernel_rfl) rfl ⟨_, sR⟩ (fun w_ hS_ => ex_len_str (s := x227.f_Rune) rfl Tryd.underlying9) ?_
            refine WA.norm (listed' := #[true, true, true, true, true, true, true, true, true, true, true, true, true, true, true, true, true, true, false, false, false, false]) (by kernel_rfl) ?_
            refine WA.ex 18 rfl (by kernel_rfl) (by kernel_rfl) (by kernel_rfl) rfl ⟨_, sR⟩ (fun w_ hS_ => ex_bin (a := .int .i64 a1) (b := .int .i64 (x227.f_Rune.length : Int)) (v := .int .i64 (wrap64 (a1 + (x227.f_Rune.length : Int)))) rfl rfl bin_add64) ?_
            refine WA.norm (listed' := #[true, true, true, true, true, true, true, true, true, true, true, true, true, true, true, true, true, true, true, false, false, false]) (by kernel_rfl) ?_
            refine WA.one 19 (by kernel_rfl) rfl rfl ?_
            refine OW.store [.int .i64 x201.f_Kind, encS x214.f_Text, .int .i64 (0 : Int), .int .i64 (0 : Int), .int .i64 (0 : Int), .int .i64 (0 : Int)] s4_168 (vs := [.int .i64 x201.f_Kind, encS x214.f_Text, .int .i64 (0 : Int), .int .i64 (0 : Int), .int .i64 (0 : Int), .int .i64 (0 : Int)]) ((congrArg Value.cells (show ev _ _ = (.agg #[.int .i64 x201.f_Kind, encS x214.f_Text, .int .i64 (0 : Int), .int .i64 (0 : Int), .int .i64 (0 : Int), .int .i64 (0 : Int)] : Value) from rfl)).trans rfl) sz37 hB105 (Nat.le_of_ble_eq_true rfl) (by intro u_ hu_; simp only [List.mem_cons, List.not_mem_nil, or_false] at hu_; rcases hu_ with rfl | rfl | rfl | rfl | rfl | rfl <;> first | rfl) rfl ?_
            intro w240 s241 hB242
            replace hO168 := hO168.step s241 rfl rfl
            replace HF := HF.step s241 rfl
            replace sR := Step.trans sR s241 (M := [10]) rfl rfl
            refine ⟨⟨_, sR⟩, ?_⟩
            refine WA.norm (listed' := #[true, true, true, true, true, true, true, true, true, true, true, true, true, true, true, true, true, true, true, true, false, false]) (by kernel_rfl) ?_
            refine WA.ex 20 rfl (by kernel_rfl) (by kernel_rfl) (by kernel_rfl) rfl ⟨_, sR⟩ (fun w_ hS_ => ex_assign (v := .int .i64 (wrap64 (a1 + (x227.f_Rune.length : Int)))) rfl) ?_
            refine WA.norm (listed' := #[true, true, true, true, true, true, true, true, true, true, true, true, true, true, true, true, true, true, true, true, true, false]) (by kernel_rfl) ?_
            refine WA.ex 21 rfl (by kernel_rfl) (by kernel_rfl) (by kernel_rfl) rfl ⟨_, sR⟩ (fun w_ hS_ => ex_assign (v := .int .i64 0) rfl) ?_
            refine WA.norm (listed' := #[true, true, true, true, true, true, true, true, true, true, true, true, true, true, true, true, true, true, true, true, true, true]) (by kernel_rfl) ?_
            refine WA.done (by kernel_rfl) ?_
            refine WC.ret ?_
            obtain rfl := Option.some.inj H
            replace H := Ho172
            dsimp only at H
            obtain rfl := Option.some.inj H
            exact ⟨_, (.cell (.agg #[.int .i64 x201.f_Kind, encS x214.f_Text, .int .i64 (0 : Int), .int .i64 (0 : Int), .int .i64 (0 : Int), .int .i64 (0 : Int)] : Value) s4_168 (run_loadN (cs := [.int .i64 x201.f_Kind, encS x214.f_Text, .int .i64 (0 : Int), .int .i64 (0 : Int), .int .i64 (0 : Int), .int .i64 (0 : Int)]) Tryd.underlying37 rfl sz37 (hB242.cells rfl)) (.tmp (.int .i64 (wrap64 (a1 + (x227.f_Rune.length : Int))) : Value) rfl (.tmp (.int .i64 0 : Value) rfl .nil))), _, rfl, HF.out⟩
          ·
            refine WC.cond_f ((show _ = Value.bool z194 from rfl).trans (congrArg Value.bool c198)) ?_
            refine WC.skip ?_
            refine WC.region ?_
            refine WL.ex rfl (ex_move (v := .int .i64 x169) s9_169) ?_
            refine WL.ex rfl (ex_bin (a := .int .i64 x169) (b := .int .i64 1) (v := .int .i64 (wrap64 (x169 + 1))) rfl rfl bin_add64) ?_
            refine WL.ex rfl (ex_assign (v := .int .i64 (wrap64 (x169 + 1))) rfl) ?_
            refine WL.nil ?_
            exact ⟨k173, Nat.lt_succ_self _, ⟨_, wrap64 (x169 + 1), HF, hO168, hB105, s0_168, s1_168, s4_168, s5_168, s6_168, s8_168, rfl, H⟩⟩
        ·
          refine WC.cond_f ((show _ = Value.bool (decide (x169 < (z163.length : Int))) from rfl).trans (congrArg Value.bool c180)) ?_
          refine WC.exit ?_
          obtain rfl := Option.some.inj H
          exact ⟨_, HF, hB105, s0_168, s1_168, s4_168, s5_168, s6_168, rfl⟩

/-! ### dictumref02_Write -/
set_option maxRecDepth 100000 in
theorem dictumref02_Write.calls (k : Nat) (o0 : Tags) (w0 : World) (a0 : T_api_Token) (r : (List UInt8) × Int) (hO : ∀ b, b < w0.heap.size → o0 b < 10) (hG : Gl GG o0 w0) (H : dictumref02_Write.f k a0 = some r) :
    Calls Tryd.prog 18 [.agg #[.int .i64 a0.f_Kind, encS a0.f_Text, .int .i64 a0.f_Int, .int .i64 a0.f_At.f_Line, .int .i64 a0.f_At.f_Col, .int .i64 a0.f_At.f_Off]].toArray w0 fun e_ w_ => ∃ (o_ : Tags), e_ = .returned (one [encS r.1, .int .i64 r.2]) ∧ Step o0 w0 o_ w_ [] := by
  have HF := Fm.refl hO []
  unfold dictumref02_Write.f at H
  refine SX.calls [.agg #[.int .i64 a0.f_Kind, encS a0.f_Text, .int .i64 a0.f_Int, .int .i64 a0.f_At.f_Line, .int .i64 a0.f_At.f_Col, .int .i64 a0.f_At.f_Off]] Tryd.func18 rfl rfl ?_
  rw [Tryd.ntmps18]
  refine WC.seq ?_
  refine WC.region ?_
  refine WL.op rfl ?_
  refine OW.box' [.int .i64 a0.f_Kind, encS a0.f_Text, .int .i64 a0.f_Int, .int .i64 a0.f_At.f_Line, .int .i64 a0.f_At.f_Col, .int .i64 a0.f_At.f_Off] 10 HF rfl ((congrArg Value.cells (show ev _ _ = (.agg #[.int .i64 a0.f_Kind, encS a0.f_Text, .int .i64 a0.f_Int, .int .i64 a0.f_At.f_Line, .int .i64 a0.f_At.f_Col, .int .i64 a0.f_At.f_Off] : Value) from rfl)).trans rfl) ?_
  intro o102 w103 b101 s104 hB105
  replace hG := hG.step s104 rfl
  replace HF := HF.step s104 rfl
  refine WL.ex rfl (ex_assign (v := encS ([] : List UInt8)) rfl) ?_
  refine WL.ex rfl (ex_assign (v := .int .i64 0) rfl) ?_
  refine WL.nil ?_
  refine WC.seq ?_
  refine WC.region ?_
  refine WL.ex rfl (ex_assign (v := encS ([] : List UInt8)) rfl) ?_
  refine WL.nil ?_
  obtain ⟨z107, hz107, H⟩ := bindE H
  refine WC.cut (fun ρ_ w_ => ∃ (o_ : Tags) (x106 : List UInt8), Fm o0 w0 o_ w_ [] ∧ Bk o_ w_ 10 b101 [.int .i64 a0.f_Kind, encS a0.f_Text, .int .i64 a0.f_Int, .int .i64 a0.f_At.f_Line, .int .i64 a0.f_At.f_Col, .int .i64 a0.f_At.f_Off] 37 ∧ Gl GG o_ w_ ∧ ρ_ 1 = .pointer (some ⟨b101, 0, none⟩) ∧ ρ_ 2 = encS ([] : List UInt8) ∧ ρ_ 3 = .int .i64 0 ∧ ρ_ 4 = encS x106 ∧ z107 = .inr x106) ?case108 ?_
  case case108 =>
    rintro ρ111 w109 ⟨o110, x106, HF, hB105, hG, s1_105, s2_105, s3_105, s4_106, rfl⟩
    replace H : _ = some _ := H
    dsimp only at H
    refine WC.seq ?_
    refine WC.region ?_
    refine WL.ex rfl (ex_move (v := encS x106) s4_106) ?_
    obtain ⟨z112, hz112, H⟩ := bindE H
    refine WL.op rfl ?_
    refine OW.call [encS x106, .int .i64 0] rfl Tryd.func31 (by kernel_rfl) (by kernel_rfl) (map_cons' rfl (map_cons' rfl rfl)) (dictumref02_one.calls k _ _ x106 0 z112 (HF.ten (V := [0]) (L := []) rfl)  hz112) ?_
    rintro _ w113 ⟨o114, rfl, s115⟩
    refine ⟨_, rfl, ?_⟩
    replace s115 := un_stepL (J := []) (L' := []) s115 rfl rfl
    replace hB105 := hB105.step s115 rfl
    replace hG := hG.step s115 rfl
    replace HF := HF.step s115 rfl
    refine WL.ex rfl (ex_move (v := .tuple #[.agg #[.int .i64 z112.1.f_Kind, encS z112.1.f_Text, .int .i64 z112.1.f_Int, .int .i64 z112.1.f_At.f_Line, .int .i64 z112.1.f_At.f_Col, .int .i64 z112.1.f_At.f_Off], .int .i64 z112.2.1, .int .i64 z112.2.2]) rfl) ?_
    refine WL.ex rfl (ex_extract (vs := #[.agg #[.int .i64 z112.1.f_Kind, encS z112.1.f_Text, .int .i64 z112.1.f_Int, .int .i64 z112.1.f_At.f_Line, .int .i64 z112.1.f_At.f_Col, .int .i64 z112.1.f_At.f_Off], .int .i64 z112.2.1, .int .i64 z112.2.2]) (v := .agg #[.int .i64 z112.1.f_Kind, encS z112.1.f_Text, .int .i64 z112.1.f_Int, .int .i64 z112.1.f_At.f_Line, .int .i64 z112.1.f_At.f_Col, .int .i64 z112.1.f_At.f_Off]) rfl rfl) ?_
    refine WL.ex rfl (ex_extract (vs := #[.agg #[.int .i64 z112.1.f_Kind, encS z112.1.f_Text, .int .i64 z112.1.f_Int, .int .i64 z112.1.f_At.f_Line, .int .i64 z112.1.f_At.f_Col, .int .i64 z112.1.f_At.f_Off], .int .i64 z112.2.1, .int .i64 z112.2.2]) (v := .int .i64 z112.2.1) rfl rfl) ?_
    refine WL.ex rfl (ex_extract (vs := #[.agg #[.int .i64 z112.1.f_Kind, encS z112.1.f_Text, .int .i64 z112.1.f_Int, .int .i64 z112.1.f_At.f_Line, .int .i64 z112.1.f_At.f_Col, .int .i64 z112.1.f_At.f_Off], .int .i64 z112.2.1, .int .i64 z112.2.2]) (v := .int .i64 z112.2.2) rfl rfl) ?_
    refine WL.op rfl ?_
    refine OW.alloc' [.int .i64 (0 : Int), encS ([] : List UInt8), .int .i64 (0 : Int), .int .i64 (0 : Int), .int .i64 (0 : Int), .int .i64 (0 : Int)] 11 HF rfl zr37 rfl ?_
    intro o117 w118 b116 s119 hB120
    replace hB105 := hB105.step s119 rfl
    replace hG := hG.step s119 rfl
    replace HF := HF.step s119 rfl
    refine WL.op rfl ?_
    refine OW.store [.int .i64 z112.1.f_Kind, encS z112.1.f_Text, .int .i64 z112.1.f_Int, .int .i64 z112.1.f_At.f_Line, .int .i64 z112.1.f_At.f_Col, .int .i64 z112.1.f_At.f_Off] rfl (vs := [.int .i64 z112.1.f_Kind, encS z112.1.f_Text, .int .i64 z112.1.f_Int, .int .i64 z112.1.f_At.f_Line, .int .i64 z112.1.f_At.f_Col, .int .i64 z112.1.f_At.f_Off]) ((congrArg Value.cells (show ev _ _ = (.agg #[.int .i64 z112.1.f_Kind, encS z112.1.f_Text, .int .i64 z112.1.f_Int, .int .i64 z112.1.f_At.f_Line, .int .i64 z112.1.f_At.f_Col, .int .i64 z112.1.f_At.f_Off] : Value) from rfl)).trans rfl) sz37 hB120 (Nat.le_of_ble_eq_true rfl) (by intro u_ hu_; simp only [List.mem_cons, List.not_mem_nil, or_false] at hu_; rcases hu_ with rfl | rfl | rfl | rfl | rfl | rfl <;> first | rfl) rfl ?_
    intro w121 s122 hB123
    replace hB105 := hB105.step s122 rfl
    replace hG := hG.step s122 rfl
    replace HF := HF.step s122 rfl
    refine WL.ex rfl (ex_assign (v := .int .i64 z112.2.1) rfl) ?_
    refine WL.ex rfl (ex_assign (v := .int .i64 z112.2.2) rfl) ?_
    refine WL.nil ?_
    refine WC.seq ?_
    obtain ⟨z125, hz125, H⟩ := bindE H
    refine WC.cut (fun ρ_ w_ => ∃ (o_ : Tags), Fm o0 w0 o_ w_ [] ∧ Gl GG o_ w_ ∧ ρ_ 2 = encS ([] : List UInt8) ∧ ρ_ 3 = .int .i64 0 ∧ ρ_ 4 = encS x106 ∧ ρ_ 56 = .bool z125) ?case126 ?_
    case case126 =>
      rintro ρ129 w127 ⟨o128, HF, hG, s2_123, s3_123, s4_123, s56_124⟩
      rcases condE H with ⟨c130, H⟩ | ⟨c130, H⟩
      ·
        refine WC.cond_t ((show _ = Value.bool z125 from s56_124).trans (congrArg Value.bool c130)) ?_
        refine WC.seq ?_
        refine WC.region ?_
        refine WL.ex rfl (ex_assign (v := encS ([] : List UInt8)) rfl) ?_
        refine WL.ex rfl (ex_assign (v := .int .i64 2) rfl) ?_
        refine WL.nil ?_
        refine WC.ret ?_
        obtain rfl := Option.some.inj H
        exact ⟨_, (.tmp (encS ([] : List UInt8) : Value) rfl (.tmp (.int .i64 2 : Value) rfl .nil)), _, rfl, HF.out⟩
      ·
        refine WC.cond_f ((show _ = Value.bool z125 from s56_124).trans (congrArg Value.bool c130)) ?_
        refine WC.skip ?_
        refine WC.seq ?_
        refine WC.region ?_
        refine WL.ex rfl (ex_move (v := encS x106) s4_123) ?_
        refine WL.ex rfl (ex_assign (v := encS x106) rfl) ?_
        refine WL.ex rfl (ex_assign (v := .int .i64 0) rfl) ?_
        refine WL.nil ?_
        refine WC.ret ?_
        obtain rfl := Option.some.inj H
        exact ⟨_, (.tmp (encS x106 : Value) rfl (.tmp (.int .i64 0 : Value) rfl .nil)), _, rfl, HF.out⟩
    have Ho131 := H
    replace H := hz125
    refine WC.region ?_
    refine WL.ex rfl (ex_move (v := .int .i64 z112.2.2) rfl) ?_
    refine WL.ex rfl (ex_bin (a := .int .i64 z112.2.2) (b := .int .i64 0) (v := .bool (z112.2.2 != 0)) rfl rfl bin_neq) ?_
    refine WL.ex rfl (ex_move (v := .bool (z112.2.2 != 0)) rfl) ?_
    rcases condE H with ⟨c132, H⟩ | ⟨c132, H⟩
    ·
      refine WL.guardNo rfl rfl rfl ((show _ = Value.bool (z112.2.2 != 0) from rfl).trans (congrArg Value.bool c132)) ?_
      refine WL.guardNo rfl rfl rfl ((show _ = Value.bool (z112.2.2 != 0) from rfl).trans (congrArg Value.bool c132)) ?_
      refine WL.guardNo rfl rfl rfl ((show _ = Value.bool (z112.2.2 != 0) from rfl).trans (congrArg Value.bool c132)) ?_
      refine WL.guardNo rfl rfl rfl ((show _ = Value.bool (z112.2.2 != 0) from rfl).trans (congrArg Value.bool c132)) ?_
      refine WL.ex rfl (ex_pick_t (v := .bool true) ((show _ = Value.bool (z112.2.2 != 0) from rfl).trans (congrArg Value.bool c132)) rfl) ?_
      refine WL.ex rfl (ex_move (v := .bool true) rfl) ?_
      refine WL.guardNo rfl rfl rfl rfl ?_
      refine WL.guardNo rfl rfl rfl rfl ?_
      refine WL.guardNo rfl rfl rfl rfl ?_
      refine WL.guardNo rfl rfl rfl rfl ?_
      refine WL.guardNo rfl rfl rfl rfl ?_
      refine WL.ex rfl (ex_pick_t (v := .bool true) rfl rfl) ?_
      refine WL.ex rfl (ex_move (v := .bool true) rfl) ?_
      refine WL.guardNo rfl rfl rfl rfl ?_
      refine WL.guardNo rfl rfl rfl rfl ?_
      refine WL.guardNo rfl rfl rfl rfl ?_
      refine WL.guardNo rfl rfl rfl rfl ?_
      refine WL.guardNo rfl rfl rfl rfl ?_
      refine WL.ex rfl (ex_pick_t (v := .bool true) rfl rfl) ?_
      refine WL.ex rfl (ex_move (v := .bool true) rfl) ?_
      refine WL.guardNo rfl rfl rfl rfl ?_
      refine WL.guardNo rfl rfl rfl rfl ?_
      refine WL.guardNo rfl rfl rfl rfl ?_
      refine WL.guardNo rfl rfl rfl rfl ?_
      refine WL.guardNo rfl rfl rfl rfl ?_
      refine WL.ex rfl (ex_pick_t (v := .bool true) rfl rfl) ?_
      refine WL.nil ?_
      obtain rfl := Option.some.inj H
      exact ⟨_, HF, hG, s2_105, s3_105, s4_106, rfl⟩
    ·
      refine WL.guardYes rfl rfl rfl ((show _ = Value.bool (z112.2.2 != 0) from rfl).trans (congrArg Value.bool c132)) ?_
      refine OW.ex rfl (ex_move (v := .int .i64 z112.2.1) rfl) ?_
      refine WL.guardYes rfl rfl rfl ((show _ = Value.bool (z112.2.2 != 0) from rfl).trans (congrArg Value.bool c132)) ?_
      refine OW.ex rfl (ex_move (v := encS x106) s4_106) ?_
      refine WL.guardYes rfl rfl rfl ((show _ = Value.bool (z112.2.2 != 0) from rfl).trans (congrArg Value.bool c132)) ?_
      refine OW.ex rfl (ex_len_str (s := x106) rfl Tryd.underlying9) ?_
      refine WL.guardYes rfl rfl rfl ((show _ = Value.bool (z112.2.2 != 0) from rfl).trans (congrArg Value.bool c132)) ?_
      refine OW.ex rfl (ex_bin (a := .int .i64 z112.2.1) (b := .int .i64 (x106.length : Int)) (v := .bool (z112.2.1 != (x106.length : Int))) rfl rfl bin_neq) ?_
      refine WL.ex rfl (ex_pick_f (v := .bool (z112.2.1 != (x106.length : Int))) ((show _ = Value.bool (z112.2.2 != 0) from rfl).trans (congrArg Value.bool c132)) rfl) ?_
      refine WL.ex rfl (ex_move (v := .bool (z112.2.1 != (x106.length : Int))) rfl) ?_
      rcases condE H with ⟨c133, H⟩ | ⟨c133, H⟩
      ·
        refine WL.guardNo rfl rfl rfl ((show _ = Value.bool (z112.2.1 != (x106.length : Int)) from rfl).trans (congrArg Value.bool c133)) ?_
        refine WL.guardNo rfl rfl rfl ((show _ = Value.bool (z112.2.1 != (x106.length : Int)) from rfl).trans (congrArg Value.bool c133)) ?_
        refine WL.guardNo rfl rfl rfl ((show _ = Value.bool (z112.2.1 != (x106.length : Int)) from rfl).trans (congrArg Value.bool c133)) ?_
        refine WL.guardNo rfl rfl rfl ((show _ = Value.bool (z112.2.1 != (x106.length : Int)) from rfl).trans (congrArg Value.bool c133)) ?_
        refine WL.guardNo rfl rfl rfl ((show _ = Value.bool (z112.2.1 != (x106.length : Int)) from rfl).trans (congrArg Value.bool c133)) ?_
        refine WL.ex rfl (ex_pick_t (v := .bool true) ((show _ = Value.bool (z112.2.1 != (x106.length : Int)) from rfl).trans (congrArg Value.bool c133)) rfl) ?_
        refine WL.ex rfl (ex_move (v := .bool true) rfl) ?_
        refine WL.guardNo rfl rfl rfl rfl ?_
        refine WL.guardNo rfl rfl rfl rfl ?_
        refine WL.guardNo rfl rfl rfl rfl ?_
        refine WL.guardNo rfl rfl rfl rfl ?_
        refine WL.guardNo rfl rfl rfl rfl ?_
        refine WL.ex rfl (ex_pick_t (v := .bool true) rfl rfl) ?_
        refine WL.ex rfl (ex_move (v := .bool true) rfl) ?_
        refine WL.guardNo rfl rfl rfl rfl ?_
        refine WL.guardNo rfl rfl rfl rfl ?_
        refine WL.guardNo rfl rfl rfl rfl ?_
        refine WL.guardNo rfl rfl rfl rfl ?_
        refine WL.guardNo rfl rfl rfl rfl ?_
        refine WL.ex rfl (ex_pick_t (v := .bool true) rfl rfl) ?_
        refine WL.nil ?_
        obtain rfl := Option.some.inj H
        exact ⟨_, HF, hG, s2_105, s3_105, s4_106, rfl⟩
      ·
        refine WL.guardYes rfl rfl rfl ((show _ = Value.bool (z112.2.1 != (x106.length : Int)) from rfl).trans (congrArg Value.bool c133)) ?_
        refine OW.ex rfl (ex_fieldAddr rfl Tryd.underlying37 rfl sz35) ?_
        refine WL.guardYes rfl rfl rfl ((show _ = Value.bool (z112.2.1 != (x106.length : Int)) from rfl).trans (congrArg Value.bool c133)) ?_
        refine OW.ex rfl (ex_load1 (v := .int .i64 z112.1.f_Kind) rfl Tryd.underlying35 rfl (hB123.cell rfl)) ?_
        refine WL.guardYes rfl rfl rfl ((show _ = Value.bool (z112.2.1 != (x106.length : Int)) from rfl).trans (congrArg Value.bool c133)) ?_
        refine OW.ex rfl (ex_fieldAddr s1_105 Tryd.underlying37 rfl sz35) ?_
        refine WL.guardYes rfl rfl rfl ((show _ = Value.bool (z112.2.1 != (x106.length : Int)) from rfl).trans (congrArg Value.bool c133)) ?_
        refine OW.ex rfl (ex_load1 (v := .int .i64 a0.f_Kind) rfl Tryd.underlying35 rfl (hB105.cell rfl)) ?_
        refine WL.guardYes rfl rfl rfl ((show _ = Value.bool (z112.2.1 != (x106.length : Int)) from rfl).trans (congrArg Value.bool c133)) ?_
        refine OW.ex rfl (ex_bin (a := .int .i64 z112.1.f_Kind) (b := .int .i64 a0.f_Kind) (v := .bool (z112.1.f_Kind != a0.f_Kind)) rfl rfl bin_neq) ?_
        refine WL.ex rfl (ex_pick_f (v := .bool (z112.1.f_Kind != a0.f_Kind)) ((show _ = Value.bool (z112.2.1 != (x106.length : Int)) from rfl).trans (congrArg Value.bool c133)) rfl) ?_
        refine WL.ex rfl (ex_move (v := .bool (z112.1.f_Kind != a0.f_Kind)) rfl) ?_
        rcases condE H with ⟨c134, H⟩ | ⟨c134, H⟩
        ·
          refine WL.guardNo rfl rfl rfl ((show _ = Value.bool (z112.1.f_Kind != a0.f_Kind) from rfl).trans (congrArg Value.bool c134)) ?_
          refine WL.guardNo rfl rfl rfl ((show _ = Value.bool (z112.1.f_Kind != a0.f_Kind) from rfl).trans (congrArg Value.bool c134)) ?_
          refine WL.guardNo rfl rfl rfl ((show _ = Value.bool (z112.1.f_Kind != a0.f_Kind) from rfl).trans (congrArg Value.bool c134)) ?_
          refine WL.guardNo rfl rfl rfl ((show _ = Value.bool (z112.1.f_Kind != a0.f_Kind) from rfl).trans (congrArg Value.bool c134)) ?_
          refine WL.guardNo rfl rfl rfl ((show _ = Value.bool (z112.1.f_Kind != a0.f_Kind) from rfl).trans (congrArg Value.bool c134)) ?_
          refine WL.ex rfl (ex_pick_t (v := .bool true) ((show _ = Value.bool (z112.1.f_Kind != a0.f_Kind) from rfl).trans (congrArg Value.bool c134)) rfl) ?_
          refine WL.ex rfl (ex_move (v := .bool true) rfl) ?_
          refine WL.guardNo rfl rfl rfl rfl ?_
          refine WL.guardNo rfl rfl rfl rfl ?_
          refine WL.guardNo rfl rfl rfl rfl ?_
          refine WL.guardNo rfl rfl rfl rfl ?_
          refine WL.guardNo rfl rfl rfl rfl ?_
          refine WL.ex rfl (ex_pick_t (v := .bool true) rfl rfl) ?_
          refine WL.nil ?_
          obtain rfl := Option.some.inj H
          exact ⟨_, HF, hG, s2_105, s3_105, s4_106, rfl⟩
        ·
          refine WL.guardYes rfl rfl rfl ((show _ = Value.bool (z112.1.f_Kind != a0.f_Kind) from rfl).trans (congrArg Value.bool c134)) ?_
          refine OW.ex rfl (ex_fieldAddr rfl Tryd.underlying37 rfl sz9) ?_
          refine WL.guardYes rfl rfl rfl ((show _ = Value.bool (z112.1.f_Kind != a0.f_Kind) from rfl).trans (congrArg Value.bool c134)) ?_
          refine OW.ex rfl (ex_load1 (v := encS z112.1.f_Text) rfl Tryd.underlying9 rfl (hB123.cell rfl)) ?_
          refine WL.guardYes rfl rfl rfl ((show _ = Value.bool (z112.1.f_Kind != a0.f_Kind) from rfl).trans (congrArg Value.bool c134)) ?_
          refine OW.ex rfl (ex_fieldAddr s1_105 Tryd.underlying37 rfl sz9) ?_
          refine WL.guardYes rfl rfl rfl ((show _ = Value.bool (z112.1.f_Kind != a0.f_Kind) from rfl).trans (congrArg Value.bool c134)) ?_
          refine OW.ex rfl (ex_load1 (v := encS a0.f_Text) rfl Tryd.underlying9 rfl (hB105.cell rfl)) ?_
          refine WL.guardYes rfl rfl rfl ((show _ = Value.bool (z112.1.f_Kind != a0.f_Kind) from rfl).trans (congrArg Value.bool c134)) ?_
          refine OW.ex rfl (ex_bin (a := encS z112.1.f_Text) (b := encS a0.f_Text) (v := .bool (!(z112.1.f_Text == a0.f_Text))) rfl rfl bin_neq_str) ?_
          refine WL.ex rfl (ex_pick_f (v := .bool (!(z112.1.f_Text == a0.f_Text))) ((show _ = Value.bool (z112.1.f_Kind != a0.f_Kind) from rfl).trans (congrArg Value.bool c134)) rfl) ?_
          refine WL.ex rfl (ex_move (v := .bool (!(z112.1.f_Text == a0.f_Text))) rfl) ?_
          rcases condE H with ⟨c135, H⟩ | ⟨c135, H⟩
          ·
            refine WL.guardNo rfl rfl rfl ((show _ = Value.bool (!(z112.1.f_Text == a0.f_Text)) from rfl).trans (congrArg Value.bool c135)) ?_
            refine WL.guardNo rfl rfl rfl ((show _ = Value.bool (!(z112.1.f_Text == a0.f_Text)) from rfl).trans (congrArg Value.bool c135)) ?_
            refine WL.guardNo rfl rfl rfl ((show _ = Value.bool (!(z112.1.f_Text == a0.f_Text)) from rfl).trans (congrArg Value.bool c135)) ?_
            refine WL.guardNo rfl rfl rfl ((show _ = Value.bool (!(z112.1.f_Text == a0.f_Text)) from rfl).trans (congrArg Value.bool c135)) ?_
            refine WL.guardNo rfl rfl rfl ((show _ = Value.bool (!(z112.1.f_Text == a0.f_Text)) from rfl).trans (congrArg Value.bool c135)) ?_
            refine WL.ex rfl (ex_pick_t (v := .bool true) ((show _ = Value.bool (!(z112.1.f_Text == a0.f_Text)) from rfl).trans (congrArg Value.bool c135)) rfl) ?_
            refine WL.nil ?_
            obtain rfl := Option.some.inj H
            exact ⟨_, HF, hG, s2_105, s3_105, s4_106, rfl⟩
          ·
            refine WL.guardYes rfl rfl rfl ((show _ = Value.bool (!(z112.1.f_Text == a0.f_Text)) from rfl).trans (congrArg Value.bool c135)) ?_
            refine OW.ex rfl (ex_fieldAddr rfl Tryd.underlying37 rfl sz3) ?_
            refine WL.guardYes rfl rfl rfl ((show _ = Value.bool (!(z112.1.f_Text == a0.f_Text)) from rfl).trans (congrArg Value.bool c135)) ?_
            refine OW.ex rfl (ex_load1 (v := .int .i64 z112.1.f_Int) rfl Tryd.underlying3 rfl (hB123.cell rfl)) ?_
            refine WL.guardYes rfl rfl rfl ((show _ = Value.bool (!(z112.1.f_Text == a0.f_Text)) from rfl).trans (congrArg Value.bool c135)) ?_
            refine OW.ex rfl (ex_fieldAddr s1_105 Tryd.underlying37 rfl sz3) ?_
            refine WL.guardYes rfl rfl rfl ((show _ = Value.bool (!(z112.1.f_Text == a0.f_Text)) from rfl).trans (congrArg Value.bool c135)) ?_
            refine OW.ex rfl (ex_load1 (v := .int .i64 a0.f_Int) rfl Tryd.underlying3 rfl (hB105.cell rfl)) ?_
            refine WL.guardYes rfl rfl rfl ((show _ = Value.bool (!(z112.1.f_Text == a0.f_Text)) from rfl).trans (congrArg Value.bool c135)) ?_
            refine OW.ex rfl (ex_bin (a := .int .i64 z112.1.f_Int) (b := .int .i64 a0.f_Int) (v := .bool (z112.1.f_Int != a0.f_Int)) rfl rfl bin_neq) ?_
            refine WL.ex rfl (ex_pick_f (v := .bool (z112.1.f_Int != a0.f_Int)) ((show _ = Value.bool (!(z112.1.f_Text == a0.f_Text)) from rfl).trans (congrArg Value.bool c135)) rfl) ?_
            refine WL.nil ?_
            obtain rfl := Option.some.inj H
            exact ⟨_, HF, hG, s2_105, s3_105, s4_106, rfl⟩
  have Ho136 := H
  replace H := hz107
  refine WC.seq ?_
  refine WC.region ?_
  refine WL.ex rfl (ex_fieldAddr rfl Tryd.underlying37 rfl sz35) ?_
  refine WL.ex rfl (ex_load1 (v := .int .i64 a0.f_Kind) rfl Tryd.underlying35 rfl (hB105.cell rfl)) ?_
  refine WL.nil ?_
  refine WC.block ?_
  refine WC.seq ?_
  refine WC.region ?_
  refine WL.ex rfl (ex_bin (a := .int .i64 a0.f_Kind) (b := .int .i64 0) (v := .bool (a0.f_Kind == 0)) rfl rfl bin_eql) ?_
  refine WL.ex rfl (ex_assign (v := .bool (a0.f_Kind == 0)) rfl) ?_
  refine WL.nil ?_
  rcases condE H with ⟨c137, H⟩ | ⟨c137, H⟩
  ·
    refine WC.cond_t ((show _ = Value.bool (a0.f_Kind == 0) from rfl).trans (congrArg Value.bool c137)) ?_
    refine WC.skip ?_
    obtain rfl := Option.some.inj H
    exact ⟨_, ([] : List UInt8), HF, hB105, hG, rfl, rfl, rfl, rfl, rfl⟩
  ·
    refine WC.cond_f ((show _ = Value.bool (a0.f_Kind == 0) from rfl).trans (congrArg Value.bool c137)) ?_
    obtain ⟨z139, hz139, H⟩ := bindE H
    refine WC.cut (fun ρ_ w_ => ∃ (o_ : Tags), Fm o0 w0 o_ w_ [] ∧ Bk o_ w_ 10 b101 [.int .i64 a0.f_Kind, encS a0.f_Text, .int .i64 a0.f_Int, .int .i64 a0.f_At.f_Line, .int .i64 a0.f_At.f_Col, .int .i64 a0.f_At.f_Off] 37 ∧ Gl GG o_ w_ ∧ ρ_ 1 = .pointer (some ⟨b101, 0, none⟩) ∧ ρ_ 2 = encS ([] : List UInt8) ∧ ρ_ 3 = .int .i64 0 ∧ ρ_ 4 = encS ([] : List UInt8) ∧ ρ_ 9 = .int .i64 a0.f_Kind ∧ ρ_ 12 = .bool z139) ?case140 ?_
    case case140 =>
      rintro ρ143 w141 ⟨o142, HF, hB105, hG, s1_137, s2_137, s3_137, s4_137, s9_137, s12_138⟩
      rcases condE H with ⟨c144, H⟩ | ⟨c144, H⟩
      ·
        refine WC.cond_t ((show _ = Value.bool z139 from s12_138).trans (congrArg Value.bool c144)) ?_
        refine WC.region ?_
        refine WL.ex rfl (ex_fieldAddr s1_137 Tryd.underlying37 rfl sz9) ?_
        refine WL.ex rfl (ex_load1 (v := encS a0.f_Text) rfl Tryd.underlying9 rfl (hB105.cell rfl)) ?_
        refine WL.ex rfl (ex_assign (v := encS a0.f_Text) rfl) ?_
        refine WL.nil ?_
        obtain rfl := Option.some.inj H
        exact ⟨_, a0.f_Text, HF, hB105, hG, s1_137, s2_137, s3_137, rfl, rfl⟩
      ·
        refine WC.cond_f ((show _ = Value.bool z139 from s12_138).trans (congrArg Value.bool c144)) ?_
        refine WC.seq ?_
        refine WC.region ?_
        refine WL.ex rfl (ex_bin (a := .int .i64 a0.f_Kind) (b := .int .i64 2) (v := .bool (a0.f_Kind == 2)) s9_137 rfl bin_eql) ?_
        refine WL.ex rfl (ex_assign (v := .bool (a0.f_Kind == 2)) rfl) ?_
        refine WL.nil ?_
        rcases condE H with ⟨c145, H⟩ | ⟨c145, H⟩
        ·
          refine WC.cond_t ((show _ = Value.bool (a0.f_Kind == 2) from rfl).trans (congrArg Value.bool c145)) ?_
          refine WC.region ?_
          refine WL.ex rfl (ex_fieldAddr s1_137 Tryd.underlying37 rfl sz3) ?_
          refine WL.ex rfl (ex_load1 (v := .int .i64 a0.f_Int) rfl Tryd.underlying3 rfl (hB105.cell rfl)) ?_
          obtain ⟨z146, hz146, H⟩ := bindE H
          refine WL.op rfl ?_
          refine OW.call [.int .i64 a0.f_Int] rfl Tryd.func32 (by kernel_rfl) (by kernel_rfl) (map_cons' rfl rfl) (strconv_Itoa.calls _ _ a0.f_Int z146 (HF.ten (V := [0]) (L := []) rfl) (Gl.vw (V := [0]) (L := []) hG rfl) hz146) ?_
          rintro _ w147 ⟨o148, rfl, s149⟩
          refine ⟨_, rfl, ?_⟩
          replace s149 := un_stepL (J := []) (L' := []) s149 rfl rfl
          replace hB105 := hB105.step s149 rfl
          replace hG := hG.step s149 rfl
          replace HF := HF.step s149 rfl
          refine WL.ex rfl (ex_assign (v := encS z146) rfl) ?_
          refine WL.nil ?_
          obtain rfl := Option.some.inj H
          exact ⟨_, z146, HF, hB105, hG, s1_137, s2_137, s3_137, rfl, rfl⟩
        ·
          refine WC.cond_f ((show _ = Value.bool (a0.f_Kind == 2) from rfl).trans (congrArg Value.bool c145)) ?_
          refine WC.seq ?_
          refine WC.region ?_
          refine WL.ex rfl (ex_assign (v := encS ([] : List UInt8)) rfl) ?_
          refine WL.ex rfl (ex_assign (v := .int .i64 2) rfl) ?_
          refine WL.nil ?_
          refine WC.ret ?_
          obtain rfl := Option.some.inj H
          replace H := Ho136
          dsimp only at H
          obtain rfl := Option.some.inj H
          exact ⟨_, (.tmp (encS ([] : List UInt8) : Value) rfl (.tmp (.int .i64 2 : Value) rfl .nil)), _, rfl, HF.out⟩
    have Ho150 := H
    replace H := hz139
    refine WC.seq ?_
    refine WC.region ?_
    refine WL.ex rfl (ex_bin (a := .int .i64 a0.f_Kind) (b := .int .i64 1) (v := .bool (a0.f_Kind == 1)) rfl rfl bin_eql) ?_
    refine WL.ex rfl (ex_assign (v := .bool (a0.f_Kind == 1)) rfl) ?_
    refine WL.nil ?_
    rcases condE H with ⟨c151, H⟩ | ⟨c151, H⟩
    ·
      refine WC.cond_t ((show _ = Value.bool (a0.f_Kind == 1) from rfl).trans (congrArg Value.bool c151)) ?_
      refine WC.skip ?_
      obtain rfl := Option.some.inj H
      exact ⟨_, HF, hB105, hG, rfl, rfl, rfl, rfl, rfl, rfl⟩
    ·
      refine WC.cond_f ((show _ = Value.bool (a0.f_Kind == 1) from rfl).trans (congrArg Value.bool c151)) ?_
      refine WC.region ?_
      refine WL.ex rfl (ex_bin (a := .int .i64 a0.f_Kind) (b := .int .i64 3) (v := .bool (a0.f_Kind == 3)) rfl rfl bin_eql) ?_
      refine WL.ex rfl (ex_assign (v := .bool (a0.f_Kind == 3)) rfl) ?_
      refine WL.nil ?_
      obtain rfl := Option.some.inj H
      exact ⟨_, HF, hB105, hG, rfl, rfl, rfl, rfl, rfl, rfl⟩


/-! ### (*strings.Builder).copyCheck -/
theorem sizeBd : (Tryd.prog.info? 84).map (·.size) = some 2 := by kernel_rfl
theorem info5 : (Tryd.prog.info? 5).map (fun i => (i.zero, i.size, i.bytes)) = some (some (.int .u8 0), 1, 1) := by kernel_rfl
theorem Bd_copyCheck (w0 : World) (b : Nat) (p v : Value) (hb : w0.heap[b]? = some (.cells #[p, v] 84 (0, 0))) (hp : p = .pointer none ∨ p = .pointer (some ⟨b, 0, none⟩)) :
    Calls Tryd.prog 60 [.pointer (some ⟨b, 0, none⟩)].toArray w0 fun e_ w_ => e_ = .returned (one []) ∧ Kept b w0 w_ ∧ w_.heap[b]? = some (.cells #[.pointer (some ⟨b, 0, none⟩), v] 84 (0, 0)) := by
  have hB : Bk (tagOne b) w0 11 b [p, v] 84 := ⟨tagOne_same b, hb⟩
  refine SX.calls [.pointer (some ⟨b, 0, none⟩)] Tryd.func60 rfl rfl ?_
  rw [Tryd.ntmps60]
  refine WC.seq ?_
  refine WC.region ?_
  refine WL.ex rfl (ex_move (v := .pointer (some ⟨b, 0, none⟩)) rfl) ?_
  refine WL.ex rfl (ex_nilCheck rfl) ?_
  refine WL.ex rfl (ex_fieldAddr (k := 0) rfl Tryd.underlying84 rfl (by kernel_rfl)) ?_
  refine WL.ex rfl (ex_load1 (v := p) rfl Tryd.underlying82 rfl (hB.cell rfl)) ?_
  rcases hp with rfl | rfl
  · refine WL.ex rfl (ex_bin (a := .pointer none) (b := .pointer none) (v := .bool true) rfl rfl (bin_eql_ptrNN Tryd.underlying82)) ?_
    refine WL.nil ?_
    refine WC.cond_t rfl ?_
    refine WC.region ?_
    refine WL.ex rfl (ex_move (v := .pointer (some ⟨b, 0, none⟩)) rfl) ?_
    refine WL.ex rfl (ex_move (v := .pointer (some ⟨b, 0, none⟩)) rfl) ?_
    refine WL.ex rfl (ex_to_unsafe rfl Tryd.underlying82 Tryd.underlying106 2 rfl sizeBd rfl hB) ?_
    refine WL.ex rfl (ex_extern1 (v := .pointer (some ⟨b, 0, none⟩)) (v' := .pointer (some ⟨b, 0, none⟩)) rfl Tryd.func72 (by kernel_rfl) (by kernel_rfl) (by kernel_rfl) (ee := Extern.AbiNoEscape.same) (by kernel_rfl) rfl) ?_
    refine WL.ex rfl (ex_from_unsafe rfl Tryd.underlying106 Tryd.underlying82 (by kernel_rfl) hB (by kernel_rfl)) ?_
    refine WL.ex rfl (ex_nilCheck rfl) ?_
    refine WL.ex rfl (ex_fieldAddr (k := 0) rfl Tryd.underlying84 rfl (by kernel_rfl)) ?_
    refine WL.op rfl ?_
    refine OW.store [.pointer (some ⟨b, 0, none⟩), v] rfl (vs := [.pointer (some ⟨b, 0, none⟩)]) rfl (by kernel_rfl) hB (Nat.le_of_ble_eq_true rfl) (by intro u hu; simp at hu; subst hu; rfl) rfl ?_
    intro w1 s1 h1
    refine WL.nil ?_
    exact ⟨_, .nil, rfl, s1.kept, h1.heap⟩
  · refine WL.ex rfl (ex_bin (a := .pointer (some ⟨b, 0, none⟩)) (b := .pointer none) (v := .bool false) rfl rfl (bin_eql_ptrSN Tryd.underlying82)) ?_
    refine WL.nil ?_
    refine WC.cond_f rfl ?_
    refine WC.seq ?_
    refine WC.region ?_
    refine WL.ex rfl (ex_move (v := .pointer (some ⟨b, 0, none⟩)) rfl) ?_
    refine WL.ex rfl (ex_nilCheck rfl) ?_
    refine WL.ex rfl (ex_fieldAddr (k := 0) rfl Tryd.underlying84 rfl (by kernel_rfl)) ?_
    refine WL.ex rfl (ex_load1 (v := .pointer (some ⟨b, 0, none⟩)) rfl Tryd.underlying82 rfl (hB.cell rfl)) ?_
    refine WL.ex rfl (ex_move (v := .pointer (some ⟨b, 0, none⟩)) rfl) ?_
    refine WL.ex rfl (ex_bin (a := .pointer (some ⟨b, 0, none⟩)) (b := .pointer (some ⟨b, 0, none⟩)) (v := .bool false) rfl rfl (bin_neq_ptrSame Tryd.underlying82 (by kernel_rfl))) ?_
    refine WL.nil ?_
    refine WC.cond_f rfl ?_
    refine WC.skip ?_
    exact ⟨_, .nil, rfl, (Step.refl _ _ _).kept, hb⟩


/-! ### (*strings.Builder).Grow of a builder just laid -/
theorem Builder_Grow.calls (o0 : Tags) (w0 : World) (b : Nat) (a1 : Int) (r : List UInt8) (hO : ∀ b, b < w0.heap.size → o0 b < 10) (hB0 : Bk o0 w0 2 b [.pointer none, .slice none 0 0] 84) (hl : b + 1 = w0.heap.size) (H : Builder_Grow.f a1 = some r) :
    Calls Tryd.prog 50 [.pointer (some ⟨b, 0, none⟩), .int .i64 a1].toArray w0 fun e_ w_ => ∃ (o_ : Tags), e_ = .returned (one []) ∧ Step o0 w0 o_ w_ [2] ∧ Bd 84 5 2 o_ w_ b r := by
  unfold Builder_Grow.f at H
  obtain ⟨u, hu, H⟩ := bindE H
  obtain rfl := Option.some.inj H
  have hu' := chk_true hu
  simp only [Bool.and_eq_true, decide_eq_true_eq] at hu'
  obtain ⟨n, rfl⟩ : ∃ n : Nat, a1 = n := ⟨a1.toNat, by omega⟩
  refine Calls.mono (Tryd.Builder_Grow_fresh b b n w0 (Nat.le_refl _) hB0.heap (by omega) (by omega)) ?_
  rintro e w ⟨rfl, hBA, hb⟩
  obtain ⟨o_, s, hBd⟩ := grow_bd hB0 hl hBA hb
  exact ⟨o_, rfl, s, hBd⟩


/-! ### (*strings.Builder).WriteString -/
theorem Builder_WriteString.calls (o0 : Tags) (w0 : World) (b : Nat) (a0 : List UInt8) (a1 : List UInt8) (r : Int × List UInt8) (hO : ∀ b, b < w0.heap.size → o0 b < 10) (hB0 : Bd 84 5 2 o0 w0 b a0) (H : Builder_WriteString.f a0 a1 = some r) :
    Calls Tryd.prog 51 [.pointer (some ⟨b, 0, none⟩), encS a1].toArray w0 fun e_ w_ => ∃ (o_ : Tags), e_ = .returned (one [.int .i64 r.1, .nilIface]) ∧ Step o0 w0 o_ w_ [2] ∧ Bd 84 5 2 o_ w_ b r.2 := by
  unfold Builder_WriteString.f at H
  obtain ⟨u, hu, H⟩ := bindE H
  obtain rfl := Option.some.inj H
  obtain ⟨p, v, hB0', hp, hO1⟩ := hB0
  have hb := hB0'.heap
  have hn := hO1.notin hb rfl
  have h0 : o0 b ≠ 0 := by rw [hB0'.tag]; decide
  have hO2 : Own Rep.u8 5 2 (apart1 o0 b) w0 v a0 := hO1.apart hn h0
  refine SX.calls [.pointer (some ⟨b, 0, none⟩), encS a1] Tryd.func51 rfl rfl ?_
  rw [Tryd.ntmps51]
  refine WC.seq ?_
  refine WC.region ?_
  refine WL.ex rfl (ex_assign (v := .int .i64 0) rfl) ?_
  refine WL.ex rfl (ex_assign (v := .nilIface) rfl) ?_
  refine WL.nil ?_
  refine WC.seq ?_
  refine WC.region ?_
  refine WL.ex rfl (ex_move (v := .pointer (some ⟨b, 0, none⟩)) rfl) ?_
  refine WL.op rfl ?_
  refine OW.call [.pointer (some ⟨b, 0, none⟩)] rfl Tryd.func60 (by kernel_rfl) (by kernel_rfl) rfl (Bd_copyCheck w0 b p v hb hp) ?_
  rintro _ w1 ⟨rfl, k1, hb1⟩
  refine ⟨_, rfl, ?_⟩
  have s1 : Step (apart1 o0 b) w0 (apart1 o0 b) w1 [11, 2] := Step.trans (k1.step (apart1_same o0 b)) (Step.refl _ _ []) rfl rfl
  replace hO2 := hO2.kept k1 hn (by rw [apart1_same]; decide)
  have hB : Bk (apart1 o0 b) w1 11 b [.pointer (some ⟨b, 0, none⟩), v] 84 := ⟨apart1_same o0 b, hb1⟩
  refine WL.nil ?_
  refine WC.seq ?_
  refine WC.region ?_
  refine WL.ex rfl (ex_move (v := .pointer (some ⟨b, 0, none⟩)) rfl) ?_
  refine WL.ex rfl (ex_move (v := .pointer (some ⟨b, 0, none⟩)) rfl) ?_
  refine WL.ex rfl (ex_nilCheck rfl) ?_
  refine WL.ex rfl (ex_fieldAddr (k := 0) rfl Tryd.underlying84 rfl (by kernel_rfl)) ?_
  refine WL.ex rfl (ex_load1 (v := v) rfl Tryd.underlying48 rfl (hB.cell rfl)) ?_
  refine WL.ex rfl (ex_move (v := encS a1) rfl) ?_
  refine WL.op rfl ?_
  refine OW.appendStr (E := 5) (i := 2) (s := a1) rfl Tryd.underlying48 Tryd.underlying9 info5 (by decide) rfl rfl hO2 (of_decide_eq_true (chk_true hu)) ?_
  intro o3 w3 v3 s3 hO2
  replace hB := hB.step s3 rfl
  replace s1 := Step.trans s1 s3 (M := [11, 2]) rfl rfl
  refine WL.ex rfl (ex_nilCheck rfl) ?_
  refine WL.ex rfl (ex_fieldAddr (k := 0) rfl Tryd.underlying84 rfl (by kernel_rfl)) ?_
  refine WL.op rfl ?_
  refine OW.store [.pointer (some ⟨b, 0, none⟩), v3] rfl (vs := [v3]) (by obtain ⟨A_, c_, e_⟩ := hO2.slice; show v3.cells = _; rw [e_]; rfl) (by kernel_rfl) hB (Nat.le_of_ble_eq_true rfl) (by intro u hu; simp at hu; subst hu; obtain ⟨A_, c_, e_⟩ := hO2.slice; rw [e_]; rfl) rfl ?_
  intro w4 s4 hB4
  replace hO2 := hO2.step s4 rfl rfl
  replace s1 := Step.trans s1 s4 (M := [11, 2]) rfl rfl
  refine WL.nil ?_
  refine WC.seq ?_
  refine WC.region ?_
  refine WL.ex rfl (ex_move (v := encS a1) rfl) ?_
  refine WL.ex rfl (ex_len_str (s := a1) rfl Tryd.underlying9) ?_
  refine WL.ex rfl (ex_assign (v := .int .i64 (a1.length : Int)) rfl) ?_
  refine WL.ex rfl (ex_assign (v := .nilIface) rfl) ?_
  refine WL.nil ?_
  refine WC.ret ?_
  exact ⟨_, .tmp (.int .i64 (a1.length : Int)) rfl (.tmp (.nilIface) rfl .nil), _, rfl, apart_step hO hB0'.tag s1 rfl, _, _, Bk.renTo hB4, .inr rfl, hO2.ren rfl rfl⟩


/-! ### (*strings.Builder).String -/
theorem unsafe_string (i : Nat) (o : Tags) (w : World) (A : Option Addr) (xs : List UInt8) (c : Nat) (p : Option Addr) (hO : Own Rep.u8 5 i o w (.slice A xs.length c) xs) (hp : xs ≠ [] → p = A) (hl : xs.length ≤ 9223372036854775807) :
    ∃ w', (Builtin.unsafeString_ #[88, 3] 9 #[.pointer p, .int .i64 xs.length]).run Tryd.prog w = .ok (encS xs) w' ∧ Step o w o w' [i] := by
  by_cases h0 : xs = []
  · subst h0
    exact ⟨w, by have := Lib.run_unsafeString_none (P := Tryd.prog) w 88 3 9 p; rw [List.length_nil]; rw [show ((0 : Nat) : Int) = 0 from rfl, this]; rfl, Step.refl _ _ _⟩
  · obtain rfl := hp h0
    obtain ⟨cells, hown, ht, hm⟩ := hO
    rcases hown.2 with ⟨_, hz⟩ | ⟨g, cap, cur, hv, _, hg, hn, hcm, hcs, htake⟩
    · exact absurd (List.eq_nil_of_length_eq_zero hz) h0
    · injection hv with e1 _ e3
      subst e1
      have hcz : cur.size = cap := by rw [hcs]; exact Nat.mul_one cap
      refine ⟨w.freeze ⟨g, 0, none⟩ xs.length, ?_, step_freeze (ht g rfl)⟩
      refine Lib.run_unsafeString_row (P := Tryd.prog) w 88 3 9 5 Tryd.underlying88 (by kernel_rfl) g cur.size (by simp [World.shape?, hg]) xs h0 (by omega) hl ?_
      intro j x hx
      have hcell := World.ownsRow.cells hown (g := g) rfl j (enc8 x)
      have hcs' : cells = xs.map enc8 := many_scalar hm
      rw [hcs'] at hcell
      exact hcell (by simp [hx])
theorem Builder_String.calls (o0 : Tags) (w0 : World) (b : Nat) (a0 : List UInt8) (r : List UInt8) (hO : ∀ b, b < w0.heap.size → o0 b < 10) (hB0 : Bd 84 5 2 o0 w0 b a0) (H : Builder_String.f a0 = some r) :
    Calls Tryd.prog 52 [.pointer (some ⟨b, 0, none⟩)].toArray w0 fun e_ w_ => ∃ (o_ : Tags), e_ = .returned (one [encS r]) ∧ Step o0 w0 o_ w_ [2] := by
  unfold Builder_String.f at H
  obtain ⟨u, hu, H⟩ := bindE H
  obtain rfl := Option.some.inj H
  have hl : a0.length ≤ 9223372036854775807 := of_decide_eq_true (chk_true hu)
  obtain ⟨p, v, hB0', hp, hO1⟩ := hB0
  have hb := hB0'.heap
  have hn := hO1.notin hb rfl
  have h0 : o0 b ≠ 0 := by rw [hB0'.tag]; decide
  have hO2 : Own Rep.u8 5 2 (apart1 o0 b) w0 v a0 := hO1.apart hn h0
  have HF := Fm.here2 (apart1 o0 b) w0
  have hB : Bk (apart1 o0 b) w0 11 b [p, v] 84 := ⟨apart1_same o0 b, hb⟩
  refine SX.calls [.pointer (some ⟨b, 0, none⟩)] Tryd.func52 rfl rfl ?_
  rw [Tryd.ntmps52]
  refine WC.seq ?_
  refine WC.region ?_
  refine WL.ex rfl (ex_assign (v := encS []) rfl) ?_
  refine WL.nil ?_
  refine WC.seq ?_
  refine WC.regionD' HF [2] 12 (by kernel_rfl) rfl ?_
  intro w1 s1
  replace hO2 := hO2.step s1 rfl rfl
  replace hB := hB.step s1 rfl
  replace HF := HF.step s1 rfl
  have hBD := hB
  have sR := HF.here [2]
  obtain ⟨A, c, e, hlc, hr⟩ := hO2.row
  subst e
  refine WA.ex 0 rfl (by kernel_rfl) (by kernel_rfl) (by kernel_rfl) rfl ⟨_, sR⟩ (fun w_ hS_ => ex_move (v := .pointer (some ⟨b, 0, none⟩)) rfl) ?_
  refine WA.ex 1 rfl (by kernel_rfl) (by kernel_rfl) (by kernel_rfl) rfl ⟨_, sR⟩ (fun w_ hS_ => ex_nilCheck rfl) ?_
  refine WA.ex 2 rfl (by kernel_rfl) (by kernel_rfl) (by kernel_rfl) rfl ⟨_, sR⟩ (fun w_ hS_ => ex_fieldAddr (k := 0) rfl Tryd.underlying84 rfl (by kernel_rfl)) ?_
  refine WA.ex 3 rfl (by kernel_rfl) (by kernel_rfl) (by kernel_rfl) rfl ⟨_, sR⟩ (fun w_ hS_ => ex_load1 (v := .slice A a0.length c) rfl Tryd.underlying48 rfl ((hBD.step hS_.choose_spec rfl).cell rfl)) ?_
  refine WA.ex 5 rfl (by kernel_rfl) (by kernel_rfl) (by kernel_rfl) rfl ⟨_, sR⟩ (fun w_ hS_ => ex_move (v := .pointer (some ⟨b, 0, none⟩)) rfl) ?_
  refine WA.ex 6 rfl (by kernel_rfl) (by kernel_rfl) (by kernel_rfl) rfl ⟨_, sR⟩ (fun w_ hS_ => ex_nilCheck rfl) ?_
  refine WA.ex 7 rfl (by kernel_rfl) (by kernel_rfl) (by kernel_rfl) rfl ⟨_, sR⟩ (fun w_ hS_ => ex_fieldAddr (k := 0) rfl Tryd.underlying84 rfl (by kernel_rfl)) ?_
  refine WA.ex 8 rfl (by kernel_rfl) (by kernel_rfl) (by kernel_rfl) rfl ⟨_, sR⟩ (fun w_ hS_ => ex_load1 (v := .slice A a0.length c) rfl Tryd.underlying48 rfl ((hBD.step hS_.choose_spec rfl).cell rfl)) ?_
  refine WA.ex 9 rfl (by kernel_rfl) (by kernel_rfl) (by kernel_rfl) rfl ⟨_, sR⟩ (fun w_ hS_ => ex_len_slice (A := A) (m := a0.length) (c := c) rfl Tryd.underlying48) ?_
  have hdata : ∃ q w2 o2, (Builtin.unsafeSliceData_ #[48] 88 #[.slice A a0.length c]).run Tryd.prog w1 = .ok (.pointer q) w2 ∧ Step (apart1 o0 b) w1 o2 w2 [] ∧ (a0 ≠ [] → q = A) := by
    cases A with
    | none => exact ⟨none, w1, _, Lib.run_unsafeSliceData_nil w1 _ _ _ _, Step.refl _ _ _, fun _ => rfl⟩
    | some ad =>
      by_cases hc : c = 0
      · subst hc
        obtain ⟨cells, hown, ht, hm⟩ := hO2
        rcases hown.2 with ⟨hz, _⟩ | ⟨g, cap, cur, hv, _, hg, _⟩
        · cases hz
        · injection hv with e1 _ e3
          injection e1 with e1
          subst e1
          exact ⟨_, _, _, Lib.run_unsafeSliceData_zero (P := Tryd.prog) w1 #[48] 88 5 Tryd.underlying88 ⟨g, 0, none⟩ a0.length (5, cur.size) (by simp [World.shape?, hg]), step_alloc (apart1 o0 b) w1 1 _ [], fun h => absurd (List.eq_nil_of_length_eq_zero (by omega)) h⟩
      · exact ⟨some ad, w1, _, Lib.run_unsafeSliceData_row w1 _ _ ad _ _ hc, Step.refl _ _ _, fun _ => rfl⟩
  obtain ⟨q, w2, o2, hr2, s2, hq⟩ := hdata
  refine WA.one 4 (by kernel_rfl) rfl rfl ?_
  refine OW.val (v := .pointer q) (w' := w2) rfl (run_usd (v := .slice A a0.length c) rfl hr2) ?_
  replace sR := Step.trans sR s2 (M := [2]) rfl rfl
  replace hO2 := hO2.step s2 rfl rfl
  refine ⟨⟨_, sR⟩, ?_⟩
  obtain ⟨w3, hr3, s3⟩ := unsafe_string 2 o2 w2 A a0 c q hO2 hq hl
  refine WA.one 10 (by kernel_rfl) rfl rfl ?_
  refine OW.val (v := encS a0) (w' := w3) rfl (run_us (v := .pointer q) (u := .int .i64 (a0.length : Int)) rfl rfl hr3) ?_
  replace sR := Step.trans sR s3 (M := [2]) rfl rfl
  refine ⟨⟨_, sR⟩, ?_⟩
  refine WA.one 11 (by kernel_rfl) rfl rfl ?_
  refine OW.ex rfl (ex_assign (v := encS a0) rfl) ?_
  refine ⟨⟨_, sR⟩, ?_⟩
  refine WA.done (by kernel_rfl) ?_
  refine WC.ret ?_
  exact ⟨_, .tmp (encS a0) rfl .nil, _, rfl, apart_step hO hB0'.tag (Step.trans s1 sR (M := [11, 2]) rfl rfl) rfl⟩

/-! ### strings_Join -/
set_option maxRecDepth 100000 in
theorem strings_Join.calls (k : Nat) (o0 : Tags) (w0 : World) (pA0 : Option Addr) (pc0 : Nat) (a0 : (List (List UInt8))) (a1 : List UInt8) (r : (List UInt8)) (hO : ∀ b, b < w0.heap.size → o0 b < 10) (hra0 : Row Rep.str (fun b_ => o0 b_ = 0) (fun b_ => o0 b_ = 0) w0 pA0 a0) (hla0 : a0.length ≤ pc0) (H : strings_Join.f k a0 a1 = some r) :
    Calls Tryd.prog 34 [.slice pA0 a0.length pc0, encS a1].toArray w0 fun e_ w_ => ∃ (o_ : Tags), e_ = .returned (one [encS r]) ∧ Step o0 w0 o_ w_ [] := by
  have HF := Fm.refl hO []
  unfold strings_Join.f at H
  refine SX.calls [.slice pA0 a0.length pc0, encS a1] Tryd.func34 rfl rfl ?_
  rw [Tryd.ntmps34]
  refine WC.seq ?_
  refine WC.region ?_
  refine WL.ex rfl (ex_assign (v := encS ([] : List UInt8)) rfl) ?_
  refine WL.nil ?_
  refine WC.seq ?_
  refine WC.seq ?_
  refine WC.region ?_
  refine WL.ex rfl (ex_move (v := .slice pA0 a0.length pc0) rfl) ?_
  refine WL.ex rfl (ex_len_slice (A := pA0) (m := a0.length) (c := pc0) rfl Tryd.underlying49) ?_
  refine WL.nil ?_
  refine WC.block ?_
  refine WC.seq ?_
  refine WC.region ?_
  refine WL.ex rfl (ex_bin (a := .int .i64 (a0.length : Int)) (b := .int .i64 0) (v := .bool ((a0.length : Int) == 0)) rfl rfl bin_eql) ?_
  refine WL.ex rfl (ex_assign (v := .bool ((a0.length : Int) == 0)) rfl) ?_
  refine WL.nil ?_
  rcases condE H with ⟨c101, H⟩ | ⟨c101, H⟩
  ·
    refine WC.cond_t ((show _ = Value.bool ((a0.length : Int) == 0) from rfl).trans (congrArg Value.bool c101)) ?_
    refine WC.seq ?_
    refine WC.region ?_
    refine WL.ex rfl (ex_assign (v := encS ([] : List UInt8)) rfl) ?_
    refine WL.nil ?_
    refine WC.ret ?_
    obtain rfl := Option.some.inj H
    exact ⟨_, (.tmp (encS ([] : List UInt8) : Value) rfl .nil), _, rfl, HF.out⟩
  ·
    refine WC.cond_f ((show _ = Value.bool ((a0.length : Int) == 0) from rfl).trans (congrArg Value.bool c101)) ?_
    refine WC.seq ?_
    refine WC.region ?_
    refine WL.ex rfl (ex_bin (a := .int .i64 (a0.length : Int)) (b := .int .i64 1) (v := .bool ((a0.length : Int) == 1)) rfl rfl bin_eql) ?_
    refine WL.ex rfl (ex_assign (v := .bool ((a0.length : Int) == 1)) rfl) ?_
    refine WL.nil ?_
    rcases condE H with ⟨c102, H⟩ | ⟨c102, H⟩
    ·
      refine WC.cond_t ((show _ = Value.bool ((a0.length : Int) == 1) from rfl).trans (congrArg Value.bool c102)) ?_
      refine WC.seq ?_
      refine WC.region ?_
      refine WL.ex rfl (ex_move (v := .slice pA0 a0.length pc0) rfl) ?_
      obtain ⟨x103, hx103, H⟩ := bindE H
      obtain ⟨ad104, e105, g106, g107, cell108⟩ := Row.ixS hra0 hx103
      refine WL.ex rfl (ex_indexAddr (i := (0 : Int)) rfl e105 rfl Tryd.underlying49 sz9 g106 g107) ?_
      refine WL.ex rfl (ex_load1 (v := encS x103) rfl Tryd.underlying9 rfl cell108) ?_
      refine WL.ex rfl (ex_assign (v := encS x103) rfl) ?_
      refine WL.nil ?_
      refine WC.ret ?_
      obtain rfl := Option.some.inj H
      exact ⟨_, (.tmp (encS x103 : Value) rfl .nil), _, rfl, HF.out⟩
    ·
      refine WC.cond_f ((show _ = Value.bool ((a0.length : Int) == 1) from rfl).trans (congrArg Value.bool c102)) ?_
      refine WC.skip ?_
      refine WC.seq ?_
      refine WC.region ?_
      refine WL.ex rfl (ex_assign (v := .int .i64 0) rfl) ?_
      refine WL.nil ?_
      obtain ⟨z111, hz111, H⟩ := bindE H
      refine WC.cut (fun ρ_ w_ => ∃ (o_ : Tags), Fm o0 w0 o_ w_ [] ∧ Row Rep.str (fun b_ => o_ b_ = 0) (fun b_ => o_ b_ = 0) w_ pA0 a0 ∧ ρ_ 0 = .slice pA0 a0.length pc0 ∧ ρ_ 1 = encS a1 ∧ ρ_ 4 = encS ([] : List UInt8) ∧ ρ_ 5 = .int .i64 z111) ?case112 ?_
      case case112 =>
        rintro ρ115 w113 ⟨o114, HF, hra0, s0_109, s1_109, s4_109, s5_110⟩
        refine WC.seq ?_
        refine WC.seq ?_
        refine WC.region ?_
        refine WL.ex rfl (ex_move (v := .slice pA0 a0.length pc0) s0_109) ?_
        refine WL.ex rfl (ex_len_slice (A := pA0) (m := a0.length) (c := pc0) rfl Tryd.underlying49) ?_
        refine WL.ex rfl (ex_move (v := .int .i64 0) rfl) ?_
        refine WL.nil ?_
        obtain ⟨z119, hz119, H⟩ := bindE H
        refine WC.for (fun k_ ρ_ w_ => ∃ (o_ : Tags) (x116 : Int) (x117 : Int), Fm o0 w0 o_ w_ [] ∧ Row Rep.str (fun b_ => o_ b_ = 0) (fun b_ => o_ b_ = 0) w_ pA0 a0 ∧ ρ_ 0 = .slice pA0 a0.length pc0 ∧ ρ_ 1 = encS a1 ∧ ρ_ 4 = encS ([] : List UInt8) ∧ ρ_ 5 = .int .i64 x116 ∧ ρ_ 39 = .slice pA0 a0.length pc0 ∧ ρ_ 40 = .int .i64 (a0.length : Int) ∧ ρ_ 41 = .int .i64 x117 ∧ strings_Join.l1 k a0 k_ x116 x117 = some z119) k (fun ρ_ w_ => ∃ (o_ : Tags), Fm o0 w0 o_ w_ [] ∧ Row Rep.str (fun b_ => o_ b_ = 0) (fun b_ => o_ b_ = 0) w_ pA0 a0 ∧ ρ_ 0 = .slice pA0 a0.length pc0 ∧ ρ_ 1 = encS a1 ∧ ρ_ 4 = encS ([] : List UInt8) ∧ ρ_ 5 = .int .i64 z119) ⟨_, z111, 0, HF, hra0, s0_109, s1_109, s4_109, s5_110, rfl, rfl, rfl, hz119⟩ ?case120 ?_
        case case120 =>
          rintro ρ137 w135 ⟨o136, HF, hra0, s0_117, s1_117, s4_117, s5_118⟩
          refine WC.seq ?_
          refine WC.region ?_
          refine WL.op rfl ?_
          refine OW.allocFr 10 HF rfl (by kernel_rfl) ?_
          intro o139 w140 b138 s141 hB142 hl143
          replace hra0 := hra0.step s141 rfl
          replace HF := HF.step s141 rfl
          refine WL.nil ?_
          refine WC.seq ?_
          refine WC.region ?_
          refine WL.ex rfl (ex_move (v := .int .i64 z119) s5_118) ?_
          obtain ⟨z144, hz144, H⟩ := bindE H
          refine WL.op rfl ?_
          refine OW.call [.pointer (some ⟨b138, 0, none⟩), .int .i64 z119] rfl Tryd.func50 (by kernel_rfl) (by kernel_rfl) (map_cons' rfl (map_cons' rfl rfl)) (Builder_Grow.calls _ _ b138 z119 z144 (HF.ten (V := [0]) (L := [10]) rfl) (Bk.vw (V := [0]) (L := [10]) hB142 rfl) hl143 hz144) ?_
          rintro _ w145 ⟨o146, rfl, s147, hB148⟩
          refine ⟨_, rfl, ?_⟩
          replace hB148 := Bd.unO (J := []) 0 hB148 s147 rfl rfl rfl
          replace s147 := un_stepL (J := []) (L' := [10]) s147 rfl rfl
          replace hra0 := hra0.step s147 rfl
          replace HF := HF.step s147 rfl
          refine WL.nil ?_
          refine WC.seq ?_
          refine WC.region ?_
          refine WL.ex rfl (ex_move (v := .slice pA0 a0.length pc0) s0_117) ?_
          obtain ⟨x149, hx149, H⟩ := bindE H
          obtain ⟨ad150, e151, g152, g153, cell154⟩ := Row.ixS hra0 hx149
          refine WL.ex rfl (ex_indexAddr (i := (0 : Int)) rfl e151 rfl Tryd.underlying49 sz9 g152 g153) ?_
          refine WL.ex rfl (ex_load1 (v := encS x149) rfl Tryd.underlying9 rfl cell154) ?_
          obtain ⟨z156, hz156, H⟩ := bindE H
          refine WL.op rfl ?_
          refine OW.call [.pointer (some ⟨b138, 0, none⟩), encS x149] rfl Tryd.func51 (by kernel_rfl) (by kernel_rfl) (map_cons' rfl (map_cons' rfl rfl)) (Builder_WriteString.calls _ _ b138 z144 x149 z156 (HF.ten (V := [0]) (L := [10]) rfl) (Bd.vw (V := [0]) (L := [10]) hB148 rfl rfl) hz156) ?_
          rintro _ w157 ⟨o158, rfl, s159, hB160⟩
          refine ⟨_, rfl, ?_⟩
          replace hB160 := Bd.unO (J := []) 0 hB160 s159 rfl rfl rfl
          replace s159 := un_stepL (J := []) (L' := [10]) s159 rfl rfl
          replace hra0 := hra0.step s159 rfl
          replace HF := HF.step s159 rfl
          refine WL.nil ?_
          refine WC.seq ?_
          refine WC.seq ?_
          refine WC.region ?_
          refine WL.ex rfl (ex_move (v := .slice pA0 a0.length pc0) s0_117) ?_
          obtain ⟨y161, hy161, H⟩ := bindE H
          have hr163 := Row.cut hra0 hla0 hy161
          obtain ⟨A164, el167⟩ : ∃ A_, A_ = subA pA0 pc0 (1 : Int).toNat 1 := ⟨_, rfl⟩
          rw [show subA pA0 pc0 (1 : Int).toNat Rep.str.sz = A164 from el167.symm] at hr163
          have hl166 : y161.length ≤ pc0 - (1 : Int).toNat := cut_le hla0 hy161
          refine WL.ex rfl (ex_slice' (l := 1) (h := (a0.length : Int)) rfl Tryd.underlying49 sz9 ⟨_, rfl⟩ rfl (cut_low hy161) (cut_mid hy161) (cut_cap hla0 hy161) el167 (cut_len hy161)) ?_
          refine WL.ex rfl (ex_len_slice (A := A164) (m := y161.length) (c := (pc0 - (1 : Int).toNat)) rfl Tryd.underlying49) ?_
          refine WL.ex rfl (ex_move (v := .int .i64 0) rfl) ?_
          refine WL.nil ?_
          obtain ⟨z171, hz171, H⟩ := bindE H
          refine WC.for (fun k_ ρ_ w_ => ∃ (o_ : Tags) (x168 : Int) (x169 : (List UInt8)), Fm o0 w0 o_ w_ [] ∧ Row Rep.str (fun b_ => o_ b_ = 0) (fun b_ => o_ b_ = 0) w_ A164 y161 ∧ Bd 84 5 10 o_ w_ b138 x169 ∧ ρ_ 1 = encS a1 ∧ ρ_ 4 = encS ([] : List UInt8) ∧ ρ_ 8 = .pointer (some ⟨b138, 0, none⟩) ∧ ρ_ 63 = .slice A164 y161.length (pc0 - (1 : Int).toNat) ∧ ρ_ 64 = .int .i64 (y161.length : Int) ∧ ρ_ 65 = .int .i64 x168 ∧ strings_Join.l2 k a1 y161 k_ x168 x169 = some z171) k (fun ρ_ w_ => ∃ (o_ : Tags), Fm o0 w0 o_ w_ [] ∧ Bd 84 5 10 o_ w_ b138 z171 ∧ ρ_ 4 = encS ([] : List UInt8) ∧ ρ_ 8 = .pointer (some ⟨b138, 0, none⟩)) ⟨_, 0, z156.2, HF, hr163, hB160, s1_117, s4_117, rfl, rfl, rfl, rfl, hz171⟩ ?case172 ?_
          case case172 =>
            rintro ρ198 w196 ⟨o197, HF, hB160, s4_169, s8_169⟩
            refine WC.seq ?_
            refine WC.region ?_
            obtain ⟨z199, hz199, H⟩ := bindE H
            refine WL.op rfl ?_
            refine OW.call [.pointer (some ⟨b138, 0, none⟩)] rfl Tryd.func52 (by kernel_rfl) (by kernel_rfl) (map_cons' s8_169 rfl) (Builder_String.calls _ _ b138 z171 z199 (HF.ten (V := [0]) (L := [10]) rfl) (Bd.vw (V := [0]) (L := [10]) hB160 rfl rfl) hz199) ?_
            rintro _ w200 ⟨o201, rfl, s202⟩
            refine ⟨_, rfl, ?_⟩
            replace s202 := un_stepL (J := []) (L' := [10]) s202 rfl rfl
            replace HF := HF.step s202 rfl
            refine WL.ex rfl (ex_assign (v := encS z199) rfl) ?_
            refine WL.nil ?_
            refine WC.ret ?_
            obtain rfl := Option.some.inj H
            exact ⟨_, (.tmp (encS z199 : Value) rfl .nil), _, rfl, HF.out⟩
          have Ho173 := H
          rintro k174 ρ175 w176 ⟨o177, x168, x169, HF, hr163, hB160, s1_167, s4_167, s8_167, s63_167, s64_167, s65_168, H⟩
          cases k174 with
          | zero => cases H
          | succ k174 =>
          rw [strings_Join.l2.eq_2] at H
          refine WC.seq ?_
          refine WC.region ?_
          refine WL.ex rfl (ex_bin (a := .int .i64 x168) (b := .int .i64 (y161.length : Int)) (v := .bool (decide (x168 < (y161.length : Int)))) s65_168 s64_167 bin_lss) ?_
          refine WL.nil ?_
          refine WC.seq ?_
          rcases condE H with ⟨c178, H⟩ | ⟨c178, H⟩
          ·
            refine WC.cond_t ((show _ = Value.bool (decide (x168 < (y161.length : Int))) from rfl).trans (congrArg Value.bool c178)) ?_
            refine WC.skip ?_
            refine WC.seq ?_
            refine WC.block ?_
            refine WC.seq ?_
            refine WC.region ?_
            obtain ⟨x179, hx179, H⟩ := bindE H
            obtain ⟨ad180, e181, g182, g183, cell184⟩ := Row.ixS hr163 hx179
            refine WL.ex rfl (ex_indexAddr (i := x168) s63_167 e181 s65_168 Tryd.underlying49 sz9 g182 g183) ?_
            refine WL.ex rfl (ex_load1 (v := encS x179) rfl Tryd.underlying9 rfl cell184) ?_
            refine WL.ex rfl (ex_assign (v := encS x179) rfl) ?_
            refine WL.nil ?_
            refine WC.seq ?_
            refine WC.region ?_
            refine WL.ex rfl (ex_move (v := encS a1) s1_167) ?_
            obtain ⟨z186, hz186, H⟩ := bindE H
            refine WL.op rfl ?_
            refine OW.call [.pointer (some ⟨b138, 0, none⟩), encS a1] rfl Tryd.func51 (by kernel_rfl) (by kernel_rfl) (map_cons' s8_167 (map_cons' rfl rfl)) (Builder_WriteString.calls _ _ b138 x169 a1 z186 (HF.ten (V := [0]) (L := [10]) rfl) (Bd.vw (V := [0]) (L := [10]) hB160 rfl rfl) hz186) ?_
            rintro _ w187 ⟨o188, rfl, s189, hB190⟩
            refine ⟨_, rfl, ?_⟩
            replace hB190 := Bd.unO (J := []) 0 hB190 s189 rfl rfl rfl
            replace s189 := un_stepL (J := []) (L' := [10]) s189 rfl rfl
            replace hr163 := hr163.step s189 rfl
            replace HF := HF.step s189 rfl
            refine WL.nil ?_
            refine WC.region ?_
            refine WL.ex rfl (ex_move (v := encS x179) rfl) ?_
            obtain ⟨z191, hz191, H⟩ := bindE H
            refine WL.op rfl ?_
            refine OW.call [.pointer (some ⟨b138, 0, none⟩), encS x179] rfl Tryd.func51 (by kernel_rfl) (by kernel_rfl) (map_cons' s8_167 (map_cons' rfl rfl)) (Builder_WriteString.calls _ _ b138 z186.2 x179 z191 (HF.ten (V := [0]) (L := [10]) rfl) (Bd.vw (V := [0]) (L := [10]) hB190 rfl rfl) hz191) ?_
            rintro _ w192 ⟨o193, rfl, s194, hB195⟩
            refine ⟨_, rfl, ?_⟩
            replace hB195 := Bd.unO (J := []) 0 hB195 s194 rfl rfl rfl
            replace s194 := un_stepL (J := []) (L' := [10]) s194 rfl rfl
            replace hr163 := hr163.step s194 rfl
            replace HF := HF.step s194 rfl
            refine WL.nil ?_
            refine WC.region ?_
            refine WL.ex rfl (ex_bin (a := .int .i64 x168) (b := .int .i64 1) (v := .int .i64 (wrap64 (x168 + 1))) s65_168 rfl bin_add64) ?_
            refine WL.ex rfl (ex_move (v := .int .i64 (wrap64 (x168 + 1))) rfl) ?_
            refine WL.nil ?_
            exact ⟨k174, Nat.lt_succ_self _, ⟨_, wrap64 (x168 + 1), z191.2, HF, hr163, hB195, s1_167, s4_167, s8_167, s63_167, s64_167, rfl, H⟩⟩
          ·
            refine WC.cond_f ((show _ = Value.bool (decide (x168 < (y161.length : Int))) from rfl).trans (congrArg Value.bool c178)) ?_
            refine WC.exit ?_
            obtain rfl := Option.some.inj H
            exact ⟨_, HF, hB160, s4_167, s8_167⟩
        have Ho121 := H
        rintro k122 ρ123 w124 ⟨o125, x116, x117, HF, hra0, s0_115, s1_115, s4_115, s5_116, s39_116, s40_116, s41_117, H⟩
        cases k122 with
        | zero => cases H
        | succ k122 =>
        rw [strings_Join.l1.eq_2] at H
        refine WC.seq ?_
        refine WC.region ?_
        refine WL.ex rfl (ex_bin (a := .int .i64 x117) (b := .int .i64 (a0.length : Int)) (v := .bool (decide (x117 < (a0.length : Int)))) s41_117 s40_116 bin_lss) ?_
        refine WL.nil ?_
        refine WC.seq ?_
        rcases condE H with ⟨c126, H⟩ | ⟨c126, H⟩
        ·
          refine WC.cond_t ((show _ = Value.bool (decide (x117 < (a0.length : Int))) from rfl).trans (congrArg Value.bool c126)) ?_
          refine WC.skip ?_
          refine WC.seq ?_
          refine WC.block ?_
          refine WC.seq ?_
          refine WC.region ?_
          obtain ⟨x127, hx127, H⟩ := bindE H
          obtain ⟨ad128, e129, g130, g131, cell132⟩ := Row.ixS hra0 hx127
          refine WL.ex rfl (ex_indexAddr (i := x117) s39_116 e129 s41_117 Tryd.underlying49 sz9 g130 g131) ?_
          refine WL.ex rfl (ex_load1 (v := encS x127) rfl Tryd.underlying9 rfl cell132) ?_
          refine WL.ex rfl (ex_assign (v := encS x127) rfl) ?_
          refine WL.nil ?_
          refine WC.seq ?_
          refine WC.seq ?_
          refine WC.region ?_
          refine WL.ex rfl (ex_move (v := encS x127) rfl) ?_
          refine WL.ex rfl (ex_len_str (s := x127) rfl Tryd.underlying9) ?_
          refine WL.ex rfl (ex_move (v := .int .i64 x116) s5_116) ?_
          refine WL.ex rfl (ex_bin (a := .int .i64 9223372036854775807) (b := .int .i64 x116) (v := .int .i64 (wrap64 (9223372036854775807 - x116))) rfl rfl bin_sub64) ?_
          refine WL.ex rfl (ex_bin (a := .int .i64 (x127.length : Int)) (b := .int .i64 (wrap64 (9223372036854775807 - x116))) (v := .bool (decide ((x127.length : Int) > (wrap64 (9223372036854775807 - x116))))) rfl rfl bin_gtr) ?_
          refine WL.nil ?_
          rcases condE H with ⟨c134, H⟩ | ⟨c134, H⟩
          ·
            refine WC.cond_t ((show _ = Value.bool (decide ((x127.length : Int) > (wrap64 (9223372036854775807 - x116)))) from rfl).trans (congrArg Value.bool c134)) ?_
            cases H
          ·
            refine WC.cond_f ((show _ = Value.bool (decide ((x127.length : Int) > (wrap64 (9223372036854775807 - x116)))) from rfl).trans (congrArg Value.bool c134)) ?_
            refine WC.skip ?_
            refine WC.region ?_
            refine WL.ex rfl (ex_move (v := .int .i64 x116) s5_116) ?_
            refine WL.ex rfl (ex_move (v := encS x127) rfl) ?_
            refine WL.ex rfl (ex_len_str (s := x127) rfl Tryd.underlying9) ?_
            refine WL.ex rfl (ex_bin (a := .int .i64 x116) (b := .int .i64 (x127.length : Int)) (v := .int .i64 (wrap64 (x116 + (x127.length : Int)))) rfl rfl bin_add64) ?_
            refine WL.ex rfl (ex_assign (v := .int .i64 (wrap64 (x116 + (x127.length : Int)))) rfl) ?_
            refine WL.nil ?_
            refine WC.region ?_
            refine WL.ex rfl (ex_bin (a := .int .i64 x117) (b := .int .i64 1) (v := .int .i64 (wrap64 (x117 + 1))) s41_117 rfl bin_add64) ?_
            refine WL.ex rfl (ex_move (v := .int .i64 (wrap64 (x117 + 1))) rfl) ?_
            refine WL.nil ?_
            exact ⟨k122, Nat.lt_succ_self _, ⟨_, wrap64 (x116 + (x127.length : Int)), wrap64 (x117 + 1), HF, hra0, s0_115, s1_115, s4_115, rfl, s39_116, s40_116, rfl, H⟩⟩
        ·
          refine WC.cond_f ((show _ = Value.bool (decide (x117 < (a0.length : Int))) from rfl).trans (congrArg Value.bool c126)) ?_
          refine WC.exit ?_
          obtain rfl := Option.some.inj H
          exact ⟨_, HF, hra0, s0_115, s1_115, s4_115, s5_116⟩
      have Ho203 := H
      replace H := hz111
      refine WC.seq ?_
      refine WC.region ?_
      refine WL.ex rfl (ex_move (v := encS a1) rfl) ?_
      refine WL.ex rfl (ex_len_str (s := a1) rfl Tryd.underlying9) ?_
      refine WL.ex rfl (ex_bin (a := .int .i64 (a1.length : Int)) (b := .int .i64 0) (v := .bool (decide ((a1.length : Int) > 0))) rfl rfl bin_gtr) ?_
      refine WL.nil ?_
      rcases condE H with ⟨c204, H⟩ | ⟨c204, H⟩
      ·
        refine WC.cond_t ((show _ = Value.bool (decide ((a1.length : Int) > 0)) from rfl).trans (congrArg Value.bool c204)) ?_
        refine WC.seq ?_
        refine WC.seq ?_
        refine WC.region ?_
        refine WL.ex rfl (ex_move (v := encS a1) rfl) ?_
        refine WL.ex rfl (ex_len_str (s := a1) rfl Tryd.underlying9) ?_
        refine WL.ex rfl (ex_move (v := .slice pA0 a0.length pc0) rfl) ?_
        refine WL.ex rfl (ex_len_slice (A := pA0) (m := a0.length) (c := pc0) rfl Tryd.underlying49) ?_
        refine WL.ex rfl (ex_bin (a := .int .i64 (a0.length : Int)) (b := .int .i64 1) (v := .int .i64 (wrap64 ((a0.length : Int) - 1))) rfl rfl bin_sub64) ?_
        obtain ⟨u205, hu205, H⟩ := bindE H
        refine WL.ex rfl (ex_bin (a := .int .i64 9223372036854775807) (b := .int .i64 (wrap64 ((a0.length : Int) - 1))) (v := .int .i64 (wrap64 ((9223372036854775807 : Int).tdiv (wrap64 ((a0.length : Int) - 1))))) rfl rfl (bin_quo64 (by have h_ := chk_true hu205; simpa using h_))) ?_
        refine WL.ex rfl (ex_bin (a := .int .i64 (a1.length : Int)) (b := .int .i64 (wrap64 ((9223372036854775807 : Int).tdiv (wrap64 ((a0.length : Int) - 1))))) (v := .bool (decide ((a1.length : Int) ≥ (wrap64 ((9223372036854775807 : Int).tdiv (wrap64 ((a0.length : Int) - 1))))))) rfl rfl bin_geq) ?_
        refine WL.nil ?_
        rcases condE H with ⟨c206, H⟩ | ⟨c206, H⟩
        ·
          refine WC.cond_t ((show _ = Value.bool (decide ((a1.length : Int) ≥ (wrap64 ((9223372036854775807 : Int).tdiv (wrap64 ((a0.length : Int) - 1)))))) from rfl).trans (congrArg Value.bool c206)) ?_
          cases H
        ·
          refine WC.cond_f ((show _ = Value.bool (decide ((a1.length : Int) ≥ (wrap64 ((9223372036854775807 : Int).tdiv (wrap64 ((a0.length : Int) - 1)))))) from rfl).trans (congrArg Value.bool c206)) ?_
          refine WC.skip ?_
          refine WC.region ?_
          refine WL.ex rfl (ex_move (v := .int .i64 0) rfl) ?_
          refine WL.ex rfl (ex_move (v := encS a1) rfl) ?_
          refine WL.ex rfl (ex_len_str (s := a1) rfl Tryd.underlying9) ?_
          refine WL.ex rfl (ex_move (v := .slice pA0 a0.length pc0) rfl) ?_
          refine WL.ex rfl (ex_len_slice (A := pA0) (m := a0.length) (c := pc0) rfl Tryd.underlying49) ?_
          refine WL.ex rfl (ex_bin (a := .int .i64 (a0.length : Int)) (b := .int .i64 1) (v := .int .i64 (wrap64 ((a0.length : Int) - 1))) rfl rfl bin_sub64) ?_
          refine WL.ex rfl (ex_bin (a := .int .i64 (a1.length : Int)) (b := .int .i64 (wrap64 ((a0.length : Int) - 1))) (v := .int .i64 (wrap64 ((a1.length : Int) * (wrap64 ((a0.length : Int) - 1))))) rfl rfl bin_mul64) ?_
          refine WL.ex rfl (ex_bin (a := .int .i64 0) (b := .int .i64 (wrap64 ((a1.length : Int) * (wrap64 ((a0.length : Int) - 1))))) (v := .int .i64 (wrap64 (0 + (wrap64 ((a1.length : Int) * (wrap64 ((a0.length : Int) - 1))))))) rfl rfl bin_add64) ?_
          refine WL.ex rfl (ex_assign (v := .int .i64 (wrap64 (0 + (wrap64 ((a1.length : Int) * (wrap64 ((a0.length : Int) - 1))))))) rfl) ?_
          refine WL.nil ?_
          obtain rfl := Option.some.inj H
          exact ⟨_, HF, hra0, rfl, rfl, rfl, rfl⟩
      ·
        refine WC.cond_f ((show _ = Value.bool (decide ((a1.length : Int) > 0)) from rfl).trans (congrArg Value.bool c204)) ?_
        refine WC.skip ?_
        obtain rfl := Option.some.inj H
        exact ⟨_, HF, hra0, rfl, rfl, rfl, rfl⟩

/-! ### token_Join -/
set_option maxRecDepth 100000 in
theorem token_Join.calls (k : Nat) (o0 : Tags) (w0 : World) (pA0 : Option Addr) (pc0 : Nat) (a0 : (List T_api_Token)) (r : (List UInt8) × Int) (hO : ∀ b, b < w0.heap.size → o0 b < 10) (hra0 : Row T_api_Token.rep (fun b_ => o0 b_ = 0) (fun b_ => o0 b_ = 0) w0 pA0 a0) (hla0 : a0.length ≤ pc0) (hG : Gl GG o0 w0) (H : token_Join.f k a0 = some r) :
    Calls Tryd.prog 19 [.slice pA0 a0.length pc0].toArray w0 fun e_ w_ => ∃ (o_ : Tags), e_ = .returned (one [encS r.1, .int .i64 r.2]) ∧ Step o0 w0 o_ w_ [] := by
  have HF := Fm.refl hO []
  unfold token_Join.f at H
  refine SX.calls [.slice pA0 a0.length pc0] Tryd.func19 rfl rfl ?_
  rw [Tryd.ntmps19]
  refine WC.seq ?_
  refine WC.region ?_
  refine WL.ex rfl (ex_assign (v := encS ([] : List UInt8)) rfl) ?_
  refine WL.ex rfl (ex_assign (v := .int .i64 0) rfl) ?_
  refine WL.nil ?_
  refine WC.seq ?_
  refine WC.region ?_
  refine WL.ex rfl (ex_assign (v := .slice none ([] : List (List UInt8)).length 0) rfl) ?_
  refine WL.nil ?_
  refine WC.seq ?_
  refine WC.seq ?_
  refine WC.region ?_
  refine WL.ex rfl (ex_move (v := .slice pA0 a0.length pc0) rfl) ?_
  refine WL.ex rfl (ex_len_slice (A := pA0) (m := a0.length) (c := pc0) rfl Tryd.underlying28) ?_
  refine WL.ex rfl (ex_move (v := .int .i64 0) rfl) ?_
  refine WL.nil ?_
  obtain ⟨z108, hz108, H⟩ := bindE H
  refine WC.for (fun k_ ρ_ w_ => ∃ (o_ : Tags) (x103 : (List (List UInt8))) (x104 : Int) (v101 : Value), Fm o0 w0 o_ w_ [] ∧ Row T_api_Token.rep (fun b_ => o_ b_ = 0) (fun b_ => o_ b_ = 0) w_ pA0 a0 ∧ Own Rep.str 9 12 o_ w_ v101 x103 ∧ Gl GG o_ w_ ∧ ρ_ 0 = .slice pA0 a0.length pc0 ∧ ρ_ 2 = encS ([] : List UInt8) ∧ ρ_ 3 = .int .i64 0 ∧ ρ_ 4 = v101 ∧ ρ_ 9 = .slice pA0 a0.length pc0 ∧ ρ_ 10 = .int .i64 (a0.length : Int) ∧ ρ_ 11 = .int .i64 x104 ∧ token_Join.l1 k a0 k_ x103 x104 = some z108) k (fun ρ_ w_ => ∃ (o_ : Tags) (x107 : (List (List UInt8))) (v105 : Value), Fm o0 w0 o_ w_ [] ∧ Own Rep.str 9 12 o_ w_ v105 x107 ∧ Gl GG o_ w_ ∧ ρ_ 2 = encS ([] : List UInt8) ∧ ρ_ 3 = .int .i64 0 ∧ ρ_ 4 = v105 ∧ z108 = .inr x107) ⟨_, ([] : List (List UInt8)), 0, _, HF, hra0, Own.nil, hG, rfl, rfl, rfl, rfl, rfl, rfl, rfl, hz108⟩ ?case109 ?_
  case case109 =>
    rintro ρ164 w162 ⟨o163, x107, v105, HF, hO106, hG, s2_104, s3_104, s4_107, rfl⟩
    dsimp only at H
    refine WC.seq ?_
    refine WC.region ?_
    refine WL.ex rfl (ex_move (v := v105) s4_107) ?_
    obtain ⟨A165, c166, q167e, q167l, q167⟩ := Own.vwRow (V := [0, 12]) (L := []) hO106 rfl rfl
    obtain ⟨z168, hz168, H⟩ := bindE H
    have q167e' := q167e
    refine WL.op rfl ?_
    refine OW.call [v105, encS ([32] : List UInt8)] rfl Tryd.func34 (by kernel_rfl) (by kernel_rfl) (map_cons' rfl (map_cons' rfl rfl)) (by simp only [q167e]; exact (strings_Join.calls k _ _ A165 c166 x107 ([32] : List UInt8) z168 (HF.ten (V := [0, 12]) (L := []) rfl) q167 q167l hz168)) ?_
    rintro _ w169 ⟨o170, rfl, s171⟩
    refine ⟨_, rfl, ?_⟩
    replace s171 := un_stepL (J := []) (L' := []) s171 rfl rfl
    replace hO106 := hO106.step s171 rfl rfl
    replace hG := hG.step s171 rfl
    replace HF := HF.step s171 rfl
    refine WL.ex rfl (ex_assign (v := encS z168) rfl) ?_
    refine WL.ex rfl (ex_assign (v := .int .i64 0) rfl) ?_
    refine WL.nil ?_
    refine WC.ret ?_
    obtain rfl := Option.some.inj H
    exact ⟨_, (.tmp (encS z168 : Value) rfl (.tmp (.int .i64 0 : Value) rfl .nil)), _, rfl, HF.out⟩
  have Ho110 := H
  rintro k111 ρ112 w113 ⟨o114, x103, x104, v101, HF, hra0, hO102, hG, s0_100, s2_100, s3_100, s4_103, s9_103, s10_103, s11_104, H⟩
  cases k111 with
  | zero => cases H
  | succ k111 =>
  rw [token_Join.l1.eq_2] at H
  refine WC.seq ?_
  refine WC.region ?_
  refine WL.ex rfl (ex_bin (a := .int .i64 x104) (b := .int .i64 (a0.length : Int)) (v := .bool (decide (x104 < (a0.length : Int)))) s11_104 s10_103 bin_lss) ?_
  refine WL.nil ?_
  refine WC.seq ?_
  rcases condE H with ⟨c115, H⟩ | ⟨c115, H⟩
  ·
    refine WC.cond_t ((show _ = Value.bool (decide (x104 < (a0.length : Int))) from rfl).trans (congrArg Value.bool c115)) ?_
    refine WC.skip ?_
    refine WC.seq ?_
    refine WC.block ?_
    refine WC.seq ?_
    refine WC.region ?_
    refine WL.ex rfl (ex_move (v := .int .i64 x104) s11_104) ?_
    obtain ⟨x116, hx116, H⟩ := bindE H
    obtain ⟨ad117, cc121, e118, g119, g120, hl122, hR123, cell124⟩ := Row.ix hra0 hx116
    obtain rfl := T_api_Token.opn hR123
    refine WL.ex rfl (ex_indexAddr (i := x104) s9_103 e118 s11_104 Tryd.underlying28 sz37 g119 g120) ?_
    refine WL.ex rfl (ex_loadN (cs := [.int .i64 x116.f_Kind, encS x116.f_Text, .int .i64 x116.f_Int, .int .i64 x116.f_At.f_Line, .int .i64 x116.f_At.f_Col, .int .i64 x116.f_At.f_Off]) rfl Tryd.underlying37 rfl sz37 cell124) ?_
    refine WL.op rfl ?_
    refine OW.alloc' [.int .i64 (0 : Int), encS ([] : List UInt8), .int .i64 (0 : Int), .int .i64 (0 : Int), .int .i64 (0 : Int), .int .i64 (0 : Int)] 10 HF rfl zr37 rfl ?_
    intro o127 w128 b126 s129 hB130
    replace hra0 := hra0.step s129 rfl
    replace hO102 := hO102.step s129 rfl rfl
    replace hG := hG.step s129 rfl
    replace HF := HF.step s129 rfl
    refine WL.ex rfl (ex_assign (v := .int .i64 x104) rfl) ?_
    refine WL.op rfl ?_
    refine OW.store [.int .i64 x116.f_Kind, encS x116.f_Text, .int .i64 x116.f_Int, .int .i64 x116.f_At.f_Line, .int .i64 x116.f_At.f_Col, .int .i64 x116.f_At.f_Off] rfl (vs := [.int .i64 x116.f_Kind, encS x116.f_Text, .int .i64 x116.f_Int, .int .i64 x116.f_At.f_Line, .int .i64 x116.f_At.f_Col, .int .i64 x116.f_At.f_Off]) ((congrArg Value.cells (show ev _ _ = (.agg #[.int .i64 x116.f_Kind, encS x116.f_Text, .int .i64 x116.f_Int, .int .i64 x116.f_At.f_Line, .int .i64 x116.f_At.f_Col, .int .i64 x116.f_At.f_Off] : Value) from rfl)).trans rfl) sz37 hB130 (Nat.le_of_ble_eq_true rfl) (by intro u_ hu_; simp only [List.mem_cons, List.not_mem_nil, or_false] at hu_; rcases hu_ with rfl | rfl | rfl | rfl | rfl | rfl <;> first | rfl) rfl ?_
    intro w131 s132 hB133
    replace hra0 := hra0.step s132 rfl
    replace hO102 := hO102.step s132 rfl rfl
    replace hG := hG.step s132 rfl
    replace HF := HF.step s132 rfl
    refine WL.nil ?_
    refine WC.seq ?_
    refine WC.region ?_
    refine WL.ex rfl (ex_loadN (cs := [.int .i64 x116.f_Kind, encS x116.f_Text, .int .i64 x116.f_Int, .int .i64 x116.f_At.f_Line, .int .i64 x116.f_At.f_Col, .int .i64 x116.f_At.f_Off]) rfl Tryd.underlying37 rfl sz37 (hB133.cells rfl)) ?_
    obtain ⟨z134, hz134, H⟩ := bindE H
    refine WL.op rfl ?_
    refine OW.call [.agg #[.int .i64 x116.f_Kind, encS x116.f_Text, .int .i64 x116.f_Int, .int .i64 x116.f_At.f_Line, .int .i64 x116.f_At.f_Col, .int .i64 x116.f_At.f_Off]] rfl Tryd.func17 (by kernel_rfl) (by kernel_rfl) (map_cons' rfl rfl) (token_Write.calls k _ _ x116 z134 (HF.ten (V := [0]) (L := []) rfl) (Gl.vw (V := [0]) (L := []) hG rfl) hz134) ?_
    rintro _ w135 ⟨o136, rfl, s137⟩
    refine ⟨_, rfl, ?_⟩
    replace s137 := un_stepL (J := []) (L' := []) s137 rfl rfl
    replace hra0 := hra0.step s137 rfl
    replace hO102 := hO102.step s137 rfl rfl
    replace hG := hG.step s137 rfl
    replace hB133 := hB133.step s137 rfl
    replace HF := HF.step s137 rfl
    refine WL.ex rfl (ex_move (v := .tuple #[encS z134.1, .int .i64 z134.2]) rfl) ?_
    refine WL.ex rfl (ex_extract (vs := #[encS z134.1, .int .i64 z134.2]) (v := encS z134.1) rfl rfl) ?_
    refine WL.ex rfl (ex_extract (vs := #[encS z134.1, .int .i64 z134.2]) (v := .int .i64 z134.2) rfl rfl) ?_
    refine WL.ex rfl (ex_assign (v := encS z134.1) rfl) ?_
    refine WL.ex rfl (ex_assign (v := .int .i64 z134.2) rfl) ?_
    refine WL.nil ?_
    refine WC.seq ?_
    obtain ⟨z139, hz139, H⟩ := bindE H
    refine WC.cut (fun ρ_ w_ => ∃ (o_ : Tags), Fm o0 w0 o_ w_ [] ∧ Row T_api_Token.rep (fun b_ => o_ b_ = 0) (fun b_ => o_ b_ = 0) w_ pA0 a0 ∧ Own Rep.str 9 12 o_ w_ v101 x103 ∧ Gl GG o_ w_ ∧ ρ_ 0 = .slice pA0 a0.length pc0 ∧ ρ_ 2 = encS ([] : List UInt8) ∧ ρ_ 3 = .int .i64 0 ∧ ρ_ 4 = v101 ∧ ρ_ 7 = encS z134.1 ∧ ρ_ 9 = .slice pA0 a0.length pc0 ∧ ρ_ 10 = .int .i64 (a0.length : Int) ∧ ρ_ 11 = .int .i64 x104 ∧ ρ_ 34 = .bool z139) ?case140 ?_
    case case140 =>
      rintro ρ143 w141 ⟨o142, HF, hra0, hO102, hG, s0_137, s2_137, s3_137, s4_137, s7_137, s9_137, s10_137, s11_137, s34_138⟩
      rcases condE H with ⟨c144, H⟩ | ⟨c144, H⟩
      ·
        refine WC.cond_t ((show _ = Value.bool z139 from s34_138).trans (congrArg Value.bool c144)) ?_
        refine WC.seq ?_
        refine WC.region ?_
        refine WL.ex rfl (ex_assign (v := encS ([] : List UInt8)) rfl) ?_
        refine WL.ex rfl (ex_assign (v := .int .i64 2) rfl) ?_
        refine WL.nil ?_
        refine WC.ret ?_
        obtain rfl := Option.some.inj H
        replace H := Ho110
        dsimp only at H
        obtain rfl := Option.some.inj H
        exact ⟨_, (.tmp (encS ([] : List UInt8) : Value) rfl (.tmp (.int .i64 2 : Value) rfl .nil)), _, rfl, HF.out⟩
      ·
        refine WC.cond_f ((show _ = Value.bool z139 from s34_138).trans (congrArg Value.bool c144)) ?_
        refine WC.skip ?_
        refine WC.region ?_
        refine WL.ex rfl (ex_move (v := v101) s4_137) ?_
        refine WL.ex rfl (ex_move (v := encS z134.1) s7_137) ?_
        refine WL.op rfl ?_
        refine OW.row (r := Rep.str) (xs := [z134.1]) [(0, encS z134.1)] [[encS z134.1]] 11 HF rfl Tryd.underlying49 sz9 zr9 rfl (evs_cons rfl rfl) rfl rfl ⟨rfl, trivial⟩ rfl rfl rfl rfl ?_
        intro o145 w146 v148 s147 hO149
        replace hra0 := hra0.step s147 rfl
        replace hO102 := hO102.step s147 rfl rfl
        replace hG := hG.step s147 rfl
        replace HF := HF.step s147 rfl
        obtain ⟨A150, c151, q152_, _, q152⟩ := hO149.row
        obtain ⟨u153, hu153, H⟩ := bindE H
        refine WL.op rfl ?_
        refine OW.append (r := Rep.str) (E := 9) (i := 12) rfl Tryd.underlying49 inf9 rfl (by decide) (by decide) (by decide) rfl ((show _ = (v148 : Value) from rfl).trans q152_) hO102 q152 rfl (of_decide_eq_true (chk_true hu153)) ?_
        intro o154 w155 v156 s157 hO158
        replace hra0 := hra0.step s157 rfl
        replace hG := hG.step s157 rfl
        replace hO149 := hO149.step s157 rfl rfl
        replace HF := HF.step s157 rfl
        refine WL.ex rfl (ex_assign (v := v156) rfl) ?_
        refine WL.nil ?_
        refine WC.region ?_
        refine WL.ex rfl (ex_bin (a := .int .i64 x104) (b := .int .i64 1) (v := .int .i64 (wrap64 (x104 + 1))) s11_137 rfl bin_add64) ?_
        refine WL.ex rfl (ex_move (v := .int .i64 (wrap64 (x104 + 1))) rfl) ?_
        refine WL.nil ?_
        exact ⟨k111, Nat.lt_succ_self _, ⟨_, (x103 ++ [z134.1]), wrap64 (x104 + 1), _, HF, hra0, hO158, hG, s0_137, s2_137, s3_137, rfl, s9_137, s10_137, rfl, H⟩⟩
    have Ho159 := H
    replace H := hz139
    refine WC.region ?_
    refine WL.ex rfl (ex_move (v := .int .i64 z134.2) rfl) ?_
    refine WL.ex rfl (ex_bin (a := .int .i64 z134.2) (b := .int .i64 0) (v := .bool (z134.2 != 0)) rfl rfl bin_neq) ?_
    refine WL.ex rfl (ex_move (v := .bool (z134.2 != 0)) rfl) ?_
    rcases condE H with ⟨c160, H⟩ | ⟨c160, H⟩
    ·
      refine WL.guardNo rfl rfl rfl ((show _ = Value.bool (z134.2 != 0) from rfl).trans (congrArg Value.bool c160)) ?_
      refine WL.guardNo rfl rfl rfl ((show _ = Value.bool (z134.2 != 0) from rfl).trans (congrArg Value.bool c160)) ?_
      refine WL.guardNo rfl rfl rfl ((show _ = Value.bool (z134.2 != 0) from rfl).trans (congrArg Value.bool c160)) ?_
      refine WL.guardNo rfl rfl rfl ((show _ = Value.bool (z134.2 != 0) from rfl).trans (congrArg Value.bool c160)) ?_
      refine WL.guardUn rfl rfl rfl rfl ?_
      refine WL.guardUn rfl rfl rfl rfl ?_
      refine WL.guardUn rfl rfl rfl rfl ?_
      refine WL.guardUn rfl rfl rfl rfl ?_
      refine WL.guardUn rfl rfl rfl rfl ?_
      refine WL.guardNo rfl rfl rfl ((show _ = Value.bool (z134.2 != 0) from rfl).trans (congrArg Value.bool c160)) ?_
      refine WL.ex rfl (ex_pick_t (v := .bool true) ((show _ = Value.bool (z134.2 != 0) from rfl).trans (congrArg Value.bool c160)) rfl) ?_
      refine WL.nil ?_
      obtain rfl := Option.some.inj H
      exact ⟨_, HF, hra0, hO102, hG, s0_100, s2_100, s3_100, s4_103, rfl, s9_103, s10_103, s11_104, rfl⟩
    ·
      refine WL.guardYes rfl rfl rfl ((show _ = Value.bool (z134.2 != 0) from rfl).trans (congrArg Value.bool c160)) ?_
      refine OW.ex rfl (ex_fieldAddr rfl Tryd.underlying37 rfl sz35) ?_
      refine WL.guardYes rfl rfl rfl ((show _ = Value.bool (z134.2 != 0) from rfl).trans (congrArg Value.bool c160)) ?_
      refine OW.ex rfl (ex_load1 (v := .int .i64 x116.f_Kind) rfl Tryd.underlying35 rfl (hB133.cell rfl)) ?_
      refine WL.guardYes rfl rfl rfl ((show _ = Value.bool (z134.2 != 0) from rfl).trans (congrArg Value.bool c160)) ?_
      refine OW.ex rfl (ex_bin (a := .int .i64 x116.f_Kind) (b := .int .i64 0) (v := .bool (x116.f_Kind == 0)) rfl rfl bin_eql) ?_
      refine WL.guardYes rfl rfl rfl ((show _ = Value.bool (z134.2 != 0) from rfl).trans (congrArg Value.bool c160)) ?_
      refine OW.ex rfl (ex_move (v := .bool (x116.f_Kind == 0)) rfl) ?_
      rcases condE H with ⟨c161, H⟩ | ⟨c161, H⟩
      ·
        refine WL.guardYes rfl rfl rfl ((show _ = Value.bool (x116.f_Kind == 0) from rfl).trans (congrArg Value.bool c161)) ?_
        refine OW.ex rfl (ex_move (v := .int .i64 x104) rfl) ?_
        refine WL.guardYes rfl rfl rfl ((show _ = Value.bool (x116.f_Kind == 0) from rfl).trans (congrArg Value.bool c161)) ?_
        refine OW.ex rfl (ex_move (v := .slice pA0 a0.length pc0) s0_100) ?_
        refine WL.guardYes rfl rfl rfl ((show _ = Value.bool (x116.f_Kind == 0) from rfl).trans (congrArg Value.bool c161)) ?_
        refine OW.ex rfl (ex_len_slice (A := pA0) (m := a0.length) (c := pc0) rfl Tryd.underlying28) ?_
        refine WL.guardYes rfl rfl rfl ((show _ = Value.bool (x116.f_Kind == 0) from rfl).trans (congrArg Value.bool c161)) ?_
        refine OW.ex rfl (ex_bin (a := .int .i64 (a0.length : Int)) (b := .int .i64 1) (v := .int .i64 (wrap64 ((a0.length : Int) - 1))) rfl rfl bin_sub64) ?_
        refine WL.guardYes rfl rfl rfl ((show _ = Value.bool (x116.f_Kind == 0) from rfl).trans (congrArg Value.bool c161)) ?_
        refine OW.ex rfl (ex_bin (a := .int .i64 x104) (b := .int .i64 (wrap64 ((a0.length : Int) - 1))) (v := .bool (decide (x104 < (wrap64 ((a0.length : Int) - 1))))) rfl rfl bin_lss) ?_
        refine WL.guardYes rfl rfl rfl ((show _ = Value.bool (z134.2 != 0) from rfl).trans (congrArg Value.bool c160)) ?_
        refine OW.ex rfl (ex_pick_t (v := .bool (decide (x104 < (wrap64 ((a0.length : Int) - 1))))) ((show _ = Value.bool (x116.f_Kind == 0) from rfl).trans (congrArg Value.bool c161)) rfl) ?_
        refine WL.ex rfl (ex_pick_f (v := .bool (decide (x104 < (wrap64 ((a0.length : Int) - 1))))) ((show _ = Value.bool (z134.2 != 0) from rfl).trans (congrArg Value.bool c160)) rfl) ?_
        refine WL.nil ?_
        obtain rfl := Option.some.inj H
        exact ⟨_, HF, hra0, hO102, hG, s0_100, s2_100, s3_100, s4_103, rfl, s9_103, s10_103, s11_104, rfl⟩
      ·
        refine WL.guardNo rfl rfl rfl ((show _ = Value.bool (x116.f_Kind == 0) from rfl).trans (congrArg Value.bool c161)) ?_
        refine WL.guardNo rfl rfl rfl ((show _ = Value.bool (x116.f_Kind == 0) from rfl).trans (congrArg Value.bool c161)) ?_
        refine WL.guardNo rfl rfl rfl ((show _ = Value.bool (x116.f_Kind == 0) from rfl).trans (congrArg Value.bool c161)) ?_
        refine WL.guardNo rfl rfl rfl ((show _ = Value.bool (x116.f_Kind == 0) from rfl).trans (congrArg Value.bool c161)) ?_
        refine WL.guardNo rfl rfl rfl ((show _ = Value.bool (x116.f_Kind == 0) from rfl).trans (congrArg Value.bool c161)) ?_
        refine WL.guardYes rfl rfl rfl ((show _ = Value.bool (z134.2 != 0) from rfl).trans (congrArg Value.bool c160)) ?_
        refine OW.ex rfl (ex_pick_f (v := .bool false) ((show _ = Value.bool (x116.f_Kind == 0) from rfl).trans (congrArg Value.bool c161)) rfl) ?_
        refine WL.ex rfl (ex_pick_f (v := .bool false) ((show _ = Value.bool (z134.2 != 0) from rfl).trans (congrArg Value.bool c160)) rfl) ?_
        refine WL.nil ?_
        obtain rfl := Option.some.inj H
        exact ⟨_, HF, hra0, hO102, hG, s0_100, s2_100, s3_100, s4_103, rfl, s9_103, s10_103, s11_104, rfl⟩
  ·
    refine WC.cond_f ((show _ = Value.bool (decide (x104 < (a0.length : Int))) from rfl).trans (congrArg Value.bool c115)) ?_
    refine WC.exit ?_
    obtain rfl := Option.some.inj H
    exact ⟨_, x103, _, HF, hO102, hG, s2_100, s3_100, s4_103, rfl⟩

/-! ### dictumref02_Join -/
set_option maxRecDepth 100000 in
theorem dictumref02_Join.calls (k : Nat) (o0 : Tags) (w0 : World) (pA0 : Option Addr) (pc0 : Nat) (a0 : (List T_api_Token)) (r : (List UInt8) × Int) (hO : ∀ b, b < w0.heap.size → o0 b < 10) (hra0 : Row T_api_Token.rep (fun b_ => o0 b_ = 0) (fun b_ => o0 b_ = 0) w0 pA0 a0) (hla0 : a0.length ≤ pc0) (hG : Gl GG o0 w0) (H : dictumref02_Join.f k a0 = some r) :
    Calls Tryd.prog 20 [.slice pA0 a0.length pc0].toArray w0 fun e_ w_ => ∃ (o_ : Tags), e_ = .returned (one [encS r.1, .int .i64 r.2]) ∧ Step o0 w0 o_ w_ [] := by
  have HF := Fm.refl hO []
  unfold dictumref02_Join.f at H
  refine SX.calls [.slice pA0 a0.length pc0] Tryd.func20 rfl rfl ?_
  rw [Tryd.ntmps20]
  refine WC.seq ?_
  refine WC.region ?_
  refine WL.ex rfl (ex_assign (v := encS ([] : List UInt8)) rfl) ?_
  refine WL.ex rfl (ex_assign (v := .int .i64 0) rfl) ?_
  refine WL.nil ?_
  refine WC.seq ?_
  refine WC.region ?_
  refine WL.ex rfl (ex_assign (v := encS ([] : List UInt8)) rfl) ?_
  refine WL.nil ?_
  refine WC.seq ?_
  refine WC.seq ?_
  refine WC.region ?_
  refine WL.ex rfl (ex_assign (v := .int .i64 0) rfl) ?_
  refine WL.nil ?_
  obtain ⟨z104, hz104, H⟩ := bindE H
  refine WC.for (fun k_ ρ_ w_ => ∃ (o_ : Tags) (x101 : List UInt8) (x102 : Int), Fm o0 w0 o_ w_ [] ∧ Row T_api_Token.rep (fun b_ => o_ b_ = 0) (fun b_ => o_ b_ = 0) w_ pA0 a0 ∧ Gl GG o_ w_ ∧ ρ_ 0 = .slice pA0 a0.length pc0 ∧ ρ_ 2 = encS ([] : List UInt8) ∧ ρ_ 3 = .int .i64 0 ∧ ρ_ 4 = encS x101 ∧ ρ_ 5 = .int .i64 x102 ∧ dictumref02_Join.l1 k a0 k_ x101 x102 = some z104) k (fun ρ_ w_ => ∃ (o_ : Tags) (x103 : List UInt8), Fm o0 w0 o_ w_ [] ∧ Gl GG o_ w_ ∧ ρ_ 2 = encS ([] : List UInt8) ∧ ρ_ 3 = .int .i64 0 ∧ ρ_ 4 = encS x103 ∧ z104 = .inr x103) ⟨_, ([] : List UInt8), 0, HF, hra0, hG, rfl, rfl, rfl, rfl, rfl, hz104⟩ ?case105 ?_
  case case105 =>
    rintro ρ158 w156 ⟨o157, x103, HF, hG, s2_102, s3_102, s4_103, rfl⟩
    dsimp only at H
    refine WC.seq ?_
    refine WC.region ?_
    refine WL.ex rfl (ex_move (v := encS x103) s4_103) ?_
    refine WL.ex rfl (ex_assign (v := encS x103) rfl) ?_
    refine WL.ex rfl (ex_assign (v := .int .i64 0) rfl) ?_
    refine WL.nil ?_
    refine WC.ret ?_
    obtain rfl := Option.some.inj H
    exact ⟨_, (.tmp (encS x103 : Value) rfl (.tmp (.int .i64 0 : Value) rfl .nil)), _, rfl, HF.out⟩
  have Ho106 := H
  rintro k107 ρ108 w109 ⟨o110, x101, x102, HF, hra0, hG, s0_100, s2_100, s3_100, s4_101, s5_102, H⟩
  cases k107 with
  | zero => cases H
  | succ k107 =>
  rw [dictumref02_Join.l1.eq_2] at H
  refine WC.seq ?_
  refine WC.seq ?_
  refine WC.region ?_
  refine WL.ex rfl (ex_move (v := .int .i64 x102) s5_102) ?_
  refine WL.ex rfl (ex_move (v := .slice pA0 a0.length pc0) s0_100) ?_
  refine WL.ex rfl (ex_len_slice (A := pA0) (m := a0.length) (c := pc0) rfl Tryd.underlying28) ?_
  refine WL.ex rfl (ex_bin (a := .int .i64 x102) (b := .int .i64 (a0.length : Int)) (v := .bool (decide (x102 < (a0.length : Int)))) rfl rfl bin_lss) ?_
  refine WL.nil ?_
  rcases condE H with ⟨c111, H⟩ | ⟨c111, H⟩
  ·
    refine WC.cond_t ((show _ = Value.bool (decide (x102 < (a0.length : Int))) from rfl).trans (congrArg Value.bool c111)) ?_
    refine WC.skip ?_
    refine WC.seq ?_
    refine WC.block ?_
    refine WC.seq ?_
    refine WC.region ?_
    refine WL.ex rfl (ex_move (v := .slice pA0 a0.length pc0) s0_100) ?_
    refine WL.ex rfl (ex_move (v := .int .i64 x102) s5_102) ?_
    obtain ⟨x112, hx112, H⟩ := bindE H
    obtain ⟨ad113, cc117, e114, g115, g116, hl118, hR119, cell120⟩ := Row.ix hra0 hx112
    obtain rfl := T_api_Token.opn hR119
    refine WL.ex rfl (ex_indexAddr (i := x102) rfl e114 rfl Tryd.underlying28 sz37 g115 g116) ?_
    refine WL.ex rfl (ex_loadN (cs := [.int .i64 x112.f_Kind, encS x112.f_Text, .int .i64 x112.f_Int, .int .i64 x112.f_At.f_Line, .int .i64 x112.f_At.f_Col, .int .i64 x112.f_At.f_Off]) rfl Tryd.underlying37 rfl sz37 cell120) ?_
    obtain ⟨z122, hz122, H⟩ := bindE H
    refine WL.op rfl ?_
    refine OW.call [.agg #[.int .i64 x112.f_Kind, encS x112.f_Text, .int .i64 x112.f_Int, .int .i64 x112.f_At.f_Line, .int .i64 x112.f_At.f_Col, .int .i64 x112.f_At.f_Off]] rfl Tryd.func18 (by kernel_rfl) (by kernel_rfl) (map_cons' rfl rfl) (dictumref02_Write.calls k _ _ x112 z122 (HF.ten (V := [0]) (L := []) rfl) (Gl.vw (V := [0]) (L := []) hG rfl) hz122) ?_
    rintro _ w123 ⟨o124, rfl, s125⟩
    refine ⟨_, rfl, ?_⟩
    replace s125 := un_stepL (J := []) (L' := []) s125 rfl rfl
    replace hra0 := hra0.step s125 rfl
    replace hG := hG.step s125 rfl
    replace HF := HF.step s125 rfl
    refine WL.ex rfl (ex_move (v := .tuple #[encS z122.1, .int .i64 z122.2]) rfl) ?_
    refine WL.ex rfl (ex_extract (vs := #[encS z122.1, .int .i64 z122.2]) (v := encS z122.1) rfl rfl) ?_
    refine WL.ex rfl (ex_extract (vs := #[encS z122.1, .int .i64 z122.2]) (v := .int .i64 z122.2) rfl rfl) ?_
    refine WL.ex rfl (ex_assign (v := encS z122.1) rfl) ?_
    refine WL.ex rfl (ex_assign (v := .int .i64 z122.2) rfl) ?_
    refine WL.nil ?_
    refine WC.seq ?_
    obtain ⟨z127, hz127, H⟩ := bindE H
    refine WC.cut (fun ρ_ w_ => ∃ (o_ : Tags), Fm o0 w0 o_ w_ [] ∧ Row T_api_Token.rep (fun b_ => o_ b_ = 0) (fun b_ => o_ b_ = 0) w_ pA0 a0 ∧ Gl GG o_ w_ ∧ ρ_ 0 = .slice pA0 a0.length pc0 ∧ ρ_ 2 = encS ([] : List UInt8) ∧ ρ_ 3 = .int .i64 0 ∧ ρ_ 4 = encS x101 ∧ ρ_ 5 = .int .i64 x102 ∧ ρ_ 6 = encS z122.1 ∧ ρ_ 38 = .bool z127) ?case128 ?_
    case case128 =>
      rintro ρ131 w129 ⟨o130, HF, hra0, hG, s0_125, s2_125, s3_125, s4_125, s5_125, s6_125, s38_126⟩
      rcases condE H with ⟨c132, H⟩ | ⟨c132, H⟩
      ·
        refine WC.cond_t ((show _ = Value.bool z127 from s38_126).trans (congrArg Value.bool c132)) ?_
        refine WC.seq ?_
        refine WC.region ?_
        refine WL.ex rfl (ex_assign (v := encS ([] : List UInt8)) rfl) ?_
        refine WL.ex rfl (ex_assign (v := .int .i64 2) rfl) ?_
        refine WL.nil ?_
        refine WC.ret ?_
        obtain rfl := Option.some.inj H
        replace H := Ho106
        dsimp only at H
        obtain rfl := Option.some.inj H
        exact ⟨_, (.tmp (encS ([] : List UInt8) : Value) rfl (.tmp (.int .i64 2 : Value) rfl .nil)), _, rfl, HF.out⟩
      ·
        refine WC.cond_f ((show _ = Value.bool z127 from s38_126).trans (congrArg Value.bool c132)) ?_
        refine WC.skip ?_
        obtain ⟨z134, hz134, H⟩ := bindE H
        refine WC.cut (fun ρ_ w_ => ∃ (o_ : Tags), Fm o0 w0 o_ w_ [] ∧ Row T_api_Token.rep (fun b_ => o_ b_ = 0) (fun b_ => o_ b_ = 0) w_ pA0 a0 ∧ Gl GG o_ w_ ∧ ρ_ 0 = .slice pA0 a0.length pc0 ∧ ρ_ 2 = encS ([] : List UInt8) ∧ ρ_ 3 = .int .i64 0 ∧ ρ_ 4 = encS z134 ∧ ρ_ 5 = .int .i64 x102 ∧ ρ_ 6 = encS z122.1) ?case135 ?_
        case case135 =>
          rintro ρ138 w136 ⟨o137, HF, hra0, hG, s0_132, s2_132, s3_132, s4_133, s5_133, s6_133⟩
          refine WC.region ?_
          refine WL.ex rfl (ex_move (v := encS z134) s4_133) ?_
          refine WL.ex rfl (ex_move (v := encS z122.1) s6_133) ?_
          obtain ⟨u139, hu139, H⟩ := bindE H
          refine WL.ex rfl (ex_bin (a := encS z134) (b := encS z122.1) (v := encS (z134 ++ z122.1)) rfl rfl (bin_add_str (of_decide_eq_true (chk_true hu139)))) ?_
          refine WL.ex rfl (ex_assign (v := encS (z134 ++ z122.1)) rfl) ?_
          refine WL.nil ?_
          refine WC.region ?_
          refine WL.ex rfl (ex_move (v := .int .i64 x102) s5_133) ?_
          refine WL.ex rfl (ex_bin (a := .int .i64 x102) (b := .int .i64 1) (v := .int .i64 (wrap64 (x102 + 1))) rfl rfl bin_add64) ?_
          refine WL.ex rfl (ex_assign (v := .int .i64 (wrap64 (x102 + 1))) rfl) ?_
          refine WL.nil ?_
          exact ⟨k107, Nat.lt_succ_self _, ⟨_, (z134 ++ z122.1), wrap64 (x102 + 1), HF, hra0, hG, s0_132, s2_132, s3_132, rfl, rfl, H⟩⟩
        have Ho140 := H
        replace H := hz134
        refine WC.seq ?_
        refine WC.region ?_
        refine WL.ex rfl (ex_move (v := .int .i64 x102) s5_125) ?_
        refine WL.ex rfl (ex_bin (a := .int .i64 x102) (b := .int .i64 0) (v := .bool (decide (x102 > 0))) rfl rfl bin_gtr) ?_
        refine WL.nil ?_
        rcases condE H with ⟨c141, H⟩ | ⟨c141, H⟩
        ·
          refine WC.cond_t ((show _ = Value.bool (decide (x102 > 0)) from rfl).trans (congrArg Value.bool c141)) ?_
          refine WC.region ?_
          refine WL.ex rfl (ex_move (v := encS x101) s4_125) ?_
          obtain ⟨u142, hu142, H⟩ := bindE H
          refine WL.ex rfl (ex_bin (a := encS x101) (b := encS ([32] : List UInt8)) (v := encS (x101 ++ ([32] : List UInt8))) rfl rfl (bin_add_str (of_decide_eq_true (chk_true hu142)))) ?_
          refine WL.ex rfl (ex_assign (v := encS (x101 ++ ([32] : List UInt8))) rfl) ?_
          refine WL.nil ?_
          obtain rfl := Option.some.inj H
          exact ⟨_, HF, hra0, hG, s0_125, s2_125, s3_125, rfl, s5_125, s6_125⟩
        ·
          refine WC.cond_f ((show _ = Value.bool (decide (x102 > 0)) from rfl).trans (congrArg Value.bool c141)) ?_
          refine WC.skip ?_
          obtain rfl := Option.some.inj H
          exact ⟨_, HF, hra0, hG, s0_125, s2_125, s3_125, s4_125, s5_125, s6_125⟩
    have Ho143 := H
    replace H := hz127
    refine WC.region ?_
    refine WL.ex rfl (ex_move (v := .int .i64 z122.2) rfl) ?_
    refine WL.ex rfl (ex_bin (a := .int .i64 z122.2) (b := .int .i64 0) (v := .bool (z122.2 != 0)) rfl rfl bin_neq) ?_
    refine WL.ex rfl (ex_move (v := .bool (z122.2 != 0)) rfl) ?_
    rcases condE H with ⟨c144, H⟩ | ⟨c144, H⟩
    ·
      refine WL.guardNo rfl rfl rfl ((show _ = Value.bool (z122.2 != 0) from rfl).trans (congrArg Value.bool c144)) ?_
      refine WL.guardNo rfl rfl rfl ((show _ = Value.bool (z122.2 != 0) from rfl).trans (congrArg Value.bool c144)) ?_
      refine WL.guardNo rfl rfl rfl ((show _ = Value.bool (z122.2 != 0) from rfl).trans (congrArg Value.bool c144)) ?_
      refine WL.guardNo rfl rfl rfl ((show _ = Value.bool (z122.2 != 0) from rfl).trans (congrArg Value.bool c144)) ?_
      refine WL.guardNo rfl rfl rfl ((show _ = Value.bool (z122.2 != 0) from rfl).trans (congrArg Value.bool c144)) ?_
      refine WL.guardNo rfl rfl rfl ((show _ = Value.bool (z122.2 != 0) from rfl).trans (congrArg Value.bool c144)) ?_
      refine WL.guardNo rfl rfl rfl ((show _ = Value.bool (z122.2 != 0) from rfl).trans (congrArg Value.bool c144)) ?_
      refine WL.guardUn rfl rfl rfl rfl ?_
      refine WL.guardUn rfl rfl rfl rfl ?_
      refine WL.guardUn rfl rfl rfl rfl ?_
      refine WL.guardUn rfl rfl rfl rfl ?_
      refine WL.guardUn rfl rfl rfl rfl ?_
      refine WL.guardNo rfl rfl rfl ((show _ = Value.bool (z122.2 != 0) from rfl).trans (congrArg Value.bool c144)) ?_
      refine WL.ex rfl (ex_pick_t (v := .bool true) ((show _ = Value.bool (z122.2 != 0) from rfl).trans (congrArg Value.bool c144)) rfl) ?_
      refine WL.nil ?_
      obtain rfl := Option.some.inj H
      exact ⟨_, HF, hra0, hG, s0_100, s2_100, s3_100, s4_101, s5_102, rfl, rfl⟩
    ·
      refine WL.guardYes rfl rfl rfl ((show _ = Value.bool (z122.2 != 0) from rfl).trans (congrArg Value.bool c144)) ?_
      refine OW.ex rfl (ex_move (v := .slice pA0 a0.length pc0) s0_100) ?_
      refine WL.guardYes rfl rfl rfl ((show _ = Value.bool (z122.2 != 0) from rfl).trans (congrArg Value.bool c144)) ?_
      refine OW.ex rfl (ex_move (v := .int .i64 x102) s5_102) ?_
      refine WL.guardYes rfl rfl rfl ((show _ = Value.bool (z122.2 != 0) from rfl).trans (congrArg Value.bool c144)) ?_
      obtain ⟨x145, hx145, H⟩ := bindE H
      obtain ⟨ad146, cc150, e147, g148, g149, hl151, hR152, cell153⟩ := Row.ix hra0 hx145
      obtain rfl := T_api_Token.opn hR152
      refine OW.ex rfl (ex_indexAddr (i := x102) rfl e147 rfl Tryd.underlying28 sz37 g148 g149) ?_
      refine WL.guardYes rfl rfl rfl ((show _ = Value.bool (z122.2 != 0) from rfl).trans (congrArg Value.bool c144)) ?_
      refine OW.ex rfl (ex_fieldAddr rfl Tryd.underlying37 rfl sz35) ?_
      refine WL.guardYes rfl rfl rfl ((show _ = Value.bool (z122.2 != 0) from rfl).trans (congrArg Value.bool c144)) ?_
      refine OW.ex rfl (ex_load1 (v := .int .i64 x145.f_Kind) rfl Tryd.underlying35 rfl (cell153 0 _ rfl)) ?_
      refine WL.guardYes rfl rfl rfl ((show _ = Value.bool (z122.2 != 0) from rfl).trans (congrArg Value.bool c144)) ?_
      refine OW.ex rfl (ex_bin (a := .int .i64 x145.f_Kind) (b := .int .i64 0) (v := .bool (x145.f_Kind == 0)) rfl rfl bin_eql) ?_
      refine WL.guardYes rfl rfl rfl ((show _ = Value.bool (z122.2 != 0) from rfl).trans (congrArg Value.bool c144)) ?_
      refine OW.ex rfl (ex_move (v := .bool (x145.f_Kind == 0)) rfl) ?_
      rcases condE H with ⟨c155, H⟩ | ⟨c155, H⟩
      ·
        refine WL.guardYes rfl rfl rfl ((show _ = Value.bool (x145.f_Kind == 0) from rfl).trans (congrArg Value.bool c155)) ?_
        refine OW.ex rfl (ex_move (v := .int .i64 x102) s5_102) ?_
        refine WL.guardYes rfl rfl rfl ((show _ = Value.bool (x145.f_Kind == 0) from rfl).trans (congrArg Value.bool c155)) ?_
        refine OW.ex rfl (ex_move (v := .slice pA0 a0.length pc0) s0_100) ?_
        refine WL.guardYes rfl rfl rfl ((show _ = Value.bool (x145.f_Kind == 0) from rfl).trans (congrArg Value.bool c155)) ?_
        refine OW.ex rfl (ex_len_slice (A := pA0) (m := a0.length) (c := pc0) rfl Tryd.underlying28) ?_
        refine WL.guardYes rfl rfl rfl ((show _ = Value.bool (x145.f_Kind == 0) from rfl).trans (congrArg Value.bool c155)) ?_
        refine OW.ex rfl (ex_bin (a := .int .i64 (a0.length : Int)) (b := .int .i64 1) (v := .int .i64 (wrap64 ((a0.length : Int) - 1))) rfl rfl bin_sub64) ?_
        refine WL.guardYes rfl rfl rfl ((show _ = Value.bool (x145.f_Kind == 0) from rfl).trans (congrArg Value.bool c155)) ?_
        refine OW.ex rfl (ex_bin (a := .int .i64 x102) (b := .int .i64 (wrap64 ((a0.length : Int) - 1))) (v := .bool (decide (x102 < (wrap64 ((a0.length : Int) - 1))))) rfl rfl bin_lss) ?_
        refine WL.guardYes rfl rfl rfl ((show _ = Value.bool (z122.2 != 0) from rfl).trans (congrArg Value.bool c144)) ?_
        refine OW.ex rfl (ex_pick_t (v := .bool (decide (x102 < (wrap64 ((a0.length : Int) - 1))))) ((show _ = Value.bool (x145.f_Kind == 0) from rfl).trans (congrArg Value.bool c155)) rfl) ?_
        refine WL.ex rfl (ex_pick_f (v := .bool (decide (x102 < (wrap64 ((a0.length : Int) - 1))))) ((show _ = Value.bool (z122.2 != 0) from rfl).trans (congrArg Value.bool c144)) rfl) ?_
        refine WL.nil ?_
        obtain rfl := Option.some.inj H
        exact ⟨_, HF, hra0, hG, s0_100, s2_100, s3_100, s4_101, s5_102, rfl, rfl⟩
      ·
        refine WL.guardNo rfl rfl rfl ((show _ = Value.bool (x145.f_Kind == 0) from rfl).trans (congrArg Value.bool c155)) ?_
        refine WL.guardNo rfl rfl rfl ((show _ = Value.bool (x145.f_Kind == 0) from rfl).trans (congrArg Value.bool c155)) ?_
        refine WL.guardNo rfl rfl rfl ((show _ = Value.bool (x145.f_Kind == 0) from rfl).trans (congrArg Value.bool c155)) ?_
        refine WL.guardNo rfl rfl rfl ((show _ = Value.bool (x145.f_Kind == 0) from rfl).trans (congrArg Value.bool c155)) ?_
        refine WL.guardNo rfl rfl rfl ((show _ = Value.bool (x145.f_Kind == 0) from rfl).trans (congrArg Value.bool c155)) ?_
        refine WL.guardYes rfl rfl rfl ((show _ = Value.bool (z122.2 != 0) from rfl).trans (congrArg Value.bool c144)) ?_
        refine OW.ex rfl (ex_pick_f (v := .bool false) ((show _ = Value.bool (x145.f_Kind == 0) from rfl).trans (congrArg Value.bool c155)) rfl) ?_
        refine WL.ex rfl (ex_pick_f (v := .bool false) ((show _ = Value.bool (z122.2 != 0) from rfl).trans (congrArg Value.bool c144)) rfl) ?_
        refine WL.nil ?_
        obtain rfl := Option.some.inj H
        exact ⟨_, HF, hra0, hG, s0_100, s2_100, s3_100, s4_101, s5_102, rfl, rfl⟩
  ·
    refine WC.cond_f ((show _ = Value.bool (decide (x102 < (a0.length : Int))) from rfl).trans (congrArg Value.bool c111)) ?_
    refine WC.exit ?_
    obtain rfl := Option.some.inj H
    exact ⟨_, x101, HF, hG, s2_100, s3_100, s4_101, rfl⟩

/-! ### dictumlaw02_num -/
set_option maxRecDepth 100000 in
theorem dictumlaw02_num.calls (o0 : Tags) (w0 : World) (a0 : Int) (r : Int) (hO : ∀ b, b < w0.heap.size → o0 b < 10) (H : dictumlaw02_num.f a0 = some r) :
    Calls Tryd.prog 21 [.int .i64 a0].toArray w0 fun e_ w_ => ∃ (o_ : Tags), e_ = .returned (one [.int .i64 r]) ∧ Step o0 w0 o_ w_ [] := by
  have HF := Fm.refl hO []
  unfold dictumlaw02_num.f at H
  refine SX.calls [.int .i64 a0] Tryd.func21 rfl rfl ?_
  rw [Tryd.ntmps21]
  refine WC.seq ?_
  refine WC.region ?_
  refine WL.ex rfl (ex_assign (v := .int .i64 0) rfl) ?_
  refine WL.nil ?_
  refine WC.seq ?_
  refine WC.region ?_
  refine WL.ex rfl (ex_move (v := .int .i64 a0) rfl) ?_
  refine WL.ex rfl (ex_assign (v := .int .i64 a0) rfl) ?_
  refine WL.nil ?_
  refine WC.ret ?_
  obtain rfl := Option.some.inj H
  exact ⟨_, (.tmp (.int .i64 a0 : Value) rfl .nil), _, rfl, HF.out⟩

/-! ### token_At -/
set_option maxRecDepth 100000 in
theorem token_At.calls (k : Nat) (o0 : Tags) (w0 : World) (a0 : List UInt8) (a1 : Int) (r : T_api_Spot) (hO : ∀ b, b < w0.heap.size → o0 b < 10) (H : token_At.f k a0 a1 = some r) :
    Calls Tryd.prog 9 [encS a0, .int .i64 a1].toArray w0 fun e_ w_ => ∃ (o_ : Tags), e_ = .returned (one [.agg #[.int .i64 r.f_Line, .int .i64 r.f_Col, .int .i64 r.f_Off]]) ∧ Step o0 w0 o_ w_ [] := by
  have HF := Fm.refl hO []
  unfold token_At.f at H
  refine SX.calls [encS a0, .int .i64 a1] Tryd.func9 rfl rfl ?_
  rw [Tryd.ntmps9]
  refine WC.seq ?_
  refine WC.region ?_
  refine WL.op rfl ?_
  refine OW.alloc' [.int .i64 (0 : Int), .int .i64 (0 : Int), .int .i64 (0 : Int)] 10 HF rfl zr23 rfl ?_
  intro o102 w103 b101 s104 hB105
  replace HF := HF.step s104 rfl
  refine WL.nil ?_
  refine WC.seq ?_
  refine WC.region ?_
  refine WL.ex rfl (ex_move (v := .int .i64 a1) rfl) ?_
  refine WL.ex rfl (ex_move (v := encS a0) rfl) ?_
  refine WL.ex rfl (ex_len_str (s := a0) rfl Tryd.underlying9) ?_
  refine WL.ex rfl (ex_min (a := a1) (b := (a0.length : Int)) rfl rfl) ?_
  refine WL.ex rfl (ex_max (a := 0) (b := (if (a0.length : Int) < a1 then (a0.length : Int) else a1)) rfl rfl) ?_
  refine WL.ex rfl (ex_assign (v := .int .i64 (if (if (a0.length : Int) < a1 then (a0.length : Int) else a1) > 0 then (if (a0.length : Int) < a1 then (a0.length : Int) else a1) else 0)) rfl) ?_
  refine WL.nil ?_
  refine WC.seq ?_
  refine WC.region ?_
  refine WL.ex rfl (ex_move (v := .int .i64 (if (if (a0.length : Int) < a1 then (a0.length : Int) else a1) > 0 then (if (a0.length : Int) < a1 then (a0.length : Int) else a1) else 0)) rfl) ?_
  refine WL.ex rfl (ex_build (cs := [.int .i64 1, .int .i64 1, .int .i64 (if (if (a0.length : Int) < a1 then (a0.length : Int) else a1) > 0 then (if (a0.length : Int) < a1 then (a0.length : Int) else a1) else 0)]) [(0, 1), (1, 1), (2, 1)] [(0, .int .i64 1), (1, .int .i64 1), (2, .int .i64 (if (if (a0.length : Int) < a1 then (a0.length : Int) else a1) > 0 then (if (a0.length : Int) < a1 then (a0.length : Int) else a1) else 0))] [.int .i64 0, .int .i64 0, .int .i64 0] Tryd.underlying23 zr23 rfl (by kernel_rfl) (evs_cons rfl (evs_cons rfl (evs_cons rfl rfl))) rfl) ?_
  refine WL.op rfl ?_
  refine OW.alloc' [.int .i64 (0 : Int), .int .i64 (0 : Int), .int .i64 (0 : Int)] 11 HF rfl zr23 rfl ?_
  intro o107 w108 b106 s109 hB110
  replace hB105 := hB105.step s109 rfl
  replace HF := HF.step s109 rfl
  refine WL.op rfl ?_
  refine OW.store [.int .i64 1, .int .i64 1, .int .i64 (if (if (a0.length : Int) < a1 then (a0.length : Int) else a1) > 0 then (if (a0.length : Int) < a1 then (a0.length : Int) else a1) else 0)] rfl (vs := [.int .i64 1, .int .i64 1, .int .i64 (if (if (a0.length : Int) < a1 then (a0.length : Int) else a1) > 0 then (if (a0.length : Int) < a1 then (a0.length : Int) else a1) else 0)]) ((congrArg Value.cells (show ev _ _ = (.agg #[.int .i64 1, .int .i64 1, .int .i64 (if (if (a0.length : Int) < a1 then (a0.length : Int) else a1) > 0 then (if (a0.length : Int) < a1 then (a0.length : Int) else a1) else 0)] : Value) from rfl)).trans rfl) sz23 hB110 (Nat.le_of_ble_eq_true rfl) (by intro u_ hu_; simp only [List.mem_cons, List.not_mem_nil, or_false] at hu_; rcases hu_ with rfl | rfl | rfl <;> first | rfl) rfl ?_
  intro w111 s112 hB113
  replace hB105 := hB105.step s112 rfl
  replace HF := HF.step s112 rfl
  refine WL.nil ?_
  refine WC.seq ?_
  refine WC.seq ?_
  refine WC.region ?_
  refine WL.ex rfl (ex_move (v := encS a0) rfl) ?_
  refine WL.op rfl ?_
  refine OW.rangeStr (s := a0) 12 HF rfl Tryd.underlying9 rfl ?_
  intro o115 w116 b114 s117 hI118
  replace hB105 := hB105.step s117 rfl
  replace hB113 := hB113.step s117 rfl
  replace HF := HF.step s117 rfl
  refine WL.nil ?_
  obtain ⟨z122, hz122, H⟩ := bindE H
  refine WC.for (fun k_ ρ_ w_ => ∃ (o_ : Tags) (x119 : T_api_Spot) (x120 : Nat), Fm o0 w0 o_ w_ [] ∧ Bk o_ w_ 10 b101 [.int .i64 (0 : Int), .int .i64 (0 : Int), .int .i64 (0 : Int)] 23 ∧ Bk o_ w_ 11 b106 [.int .i64 x119.f_Line, .int .i64 x119.f_Col, .int .i64 x119.f_Off] 23 ∧ It 12 o_ w_ b114 a0 x120 ∧ ρ_ 1 = .int .i64 (if (if (a0.length : Int) < a1 then (a0.length : Int) else a1) > 0 then (if (a0.length : Int) < a1 then (a0.length : Int) else a1) else 0) ∧ ρ_ 4 = .pointer (some ⟨b101, 0, none⟩) ∧ ρ_ 5 = .pointer (some ⟨b106, 0, none⟩) ∧ ρ_ 16 = .pointer (some ⟨b114, 0, none⟩) ∧ token_At.l1 k a0 a1 k_ x119 x120 = some z122) k (fun ρ_ w_ => ∃ (o_ : Tags), Fm o0 w0 o_ w_ [] ∧ Bk o_ w_ 10 b101 [.int .i64 (0 : Int), .int .i64 (0 : Int), .int .i64 (0 : Int)] 23 ∧ Bk o_ w_ 11 b106 [.int .i64 z122.f_Line, .int .i64 z122.f_Col, .int .i64 z122.f_Off] 23 ∧ ρ_ 4 = .pointer (some ⟨b101, 0, none⟩) ∧ ρ_ 5 = .pointer (some ⟨b106, 0, none⟩)) ⟨_, (⟨1, 1, (if (if (a0.length : Int) < a1 then (a0.length : Int) else a1) > 0 then (if (a0.length : Int) < a1 then (a0.length : Int) else a1) else 0)⟩ : T_api_Spot), 0, HF, hB105, hB113, hI118, rfl, rfl, rfl, rfl, hz122⟩ ?case123 ?_
  case case123 =>
    rintro ρ146 w144 ⟨o145, HF, hB105, hB113, s4_120, s5_120⟩
    refine WC.seq ?_
    refine WC.region ?_
    refine WL.ex rfl (ex_loadN (cs := [.int .i64 z122.f_Line, .int .i64 z122.f_Col, .int .i64 z122.f_Off]) s5_120 Tryd.underlying23 rfl sz23 (hB113.cells rfl)) ?_
    refine WL.op rfl ?_
    refine OW.store [.int .i64 z122.f_Line, .int .i64 z122.f_Col, .int .i64 z122.f_Off] s4_120 (vs := [.int .i64 z122.f_Line, .int .i64 z122.f_Col, .int .i64 z122.f_Off]) ((congrArg Value.cells (show ev _ _ = (.agg #[.int .i64 z122.f_Line, .int .i64 z122.f_Col, .int .i64 z122.f_Off] : Value) from rfl)).trans rfl) sz23 hB105 (Nat.le_of_ble_eq_true rfl) (by intro u_ hu_; simp only [List.mem_cons, List.not_mem_nil, or_false] at hu_; rcases hu_ with rfl | rfl | rfl <;> first | rfl) rfl ?_
    intro w147 s148 hB149
    replace hB113 := hB113.step s148 rfl
    replace HF := HF.step s148 rfl
    refine WL.nil ?_
    refine WC.ret ?_
    obtain rfl := Option.some.inj H
    exact ⟨_, (.cell (.agg #[.int .i64 z122.f_Line, .int .i64 z122.f_Col, .int .i64 z122.f_Off] : Value) s4_120 (run_loadN (cs := [.int .i64 z122.f_Line, .int .i64 z122.f_Col, .int .i64 z122.f_Off]) Tryd.underlying23 rfl sz23 (hB149.cells rfl)) .nil), _, rfl, HF.out⟩
  have Ho124 := H
  rintro k125 ρ126 w127 ⟨o128, x119, x120, HF, hB105, hB113, hI118, s1_118, s4_118, s5_118, s16_118, H⟩
  cases k125 with
  | zero => cases H
  | succ k125 =>
  rw [token_At.l1.eq_2] at H
  refine WC.seq ?_
  refine WC.region ?_
  rcases condE H with ⟨c129, H⟩ | ⟨c129, H⟩
  ·
    refine WL.op rfl (OW.nextYes (q := x120) rfl s16_118 hI118 c129 ?_)
    intro w130 s131 hI132
    replace hB105 := hB105.step s131 rfl
    replace hB113 := hB113.step s131 rfl
    replace HF := HF.step s131 rfl
    refine WL.ex rfl (ex_extract (vs := #[.bool true, .int .i64 (x120 : Int), .int .i32 (runeAt a0 x120)]) (v := .bool true) rfl rfl) ?_
    refine WL.nil ?_
    refine WC.seq ?_
    refine WC.cond_t rfl ?_
    refine WC.skip ?_
    refine WC.block ?_
    refine WC.seq ?_
    refine WC.region ?_
    refine WL.ex rfl (ex_extract (vs := #[.bool true, .int .i64 (x120 : Int), .int .i32 (runeAt a0 x120)]) (v := .int .i64 (x120 : Int)) rfl rfl) ?_
    refine WL.ex rfl (ex_extract (vs := #[.bool true, .int .i64 (x120 : Int), .int .i32 (runeAt a0 x120)]) (v := .int .i32 (runeAt a0 x120)) rfl rfl) ?_
    refine WL.ex rfl (ex_assign (v := .int .i64 (x120 : Int)) rfl) ?_
    refine WL.ex rfl (ex_assign (v := .int .i32 (runeAt a0 x120)) rfl) ?_
    refine WL.nil ?_
    refine WC.seq ?_
    refine WC.seq ?_
    refine WC.region ?_
    refine WL.ex rfl (ex_move (v := .int .i64 (x120 : Int)) rfl) ?_
    refine WL.ex rfl (ex_move (v := .int .i64 (if (if (a0.length : Int) < a1 then (a0.length : Int) else a1) > 0 then (if (a0.length : Int) < a1 then (a0.length : Int) else a1) else 0)) s1_118) ?_
    refine WL.ex rfl (ex_bin (a := .int .i64 (x120 : Int)) (b := .int .i64 (if (if (a0.length : Int) < a1 then (a0.length : Int) else a1) > 0 then (if (a0.length : Int) < a1 then (a0.length : Int) else a1) else 0)) (v := .bool (decide ((x120 : Int) ≥ (if (if (a0.length : Int) < a1 then (a0.length : Int) else a1) > 0 then (if (a0.length : Int) < a1 then (a0.length : Int) else a1) else 0)))) rfl rfl bin_geq) ?_
    refine WL.nil ?_
    rcases condE H with ⟨c133, H⟩ | ⟨c133, H⟩
    ·
      refine WC.cond_t ((show _ = Value.bool (decide ((x120 : Int) ≥ (if (if (a0.length : Int) < a1 then (a0.length : Int) else a1) > 0 then (if (a0.length : Int) < a1 then (a0.length : Int) else a1) else 0))) from rfl).trans (congrArg Value.bool c133)) ?_
      refine WC.exit ?_
      obtain rfl := Option.some.inj H
      exact ⟨_, HF, hB105, hB113, s4_118, s5_118⟩
    ·
      refine WC.cond_f ((show _ = Value.bool (decide ((x120 : Int) ≥ (if (if (a0.length : Int) < a1 then (a0.length : Int) else a1) > 0 then (if (a0.length : Int) < a1 then (a0.length : Int) else a1) else 0))) from rfl).trans (congrArg Value.bool c133)) ?_
      refine WC.skip ?_
      refine WC.seq ?_
      refine WC.region ?_
      refine WL.ex rfl (ex_move (v := .int .i32 (runeAt a0 x120)) rfl) ?_
      refine WL.ex rfl (ex_bin (a := .int .i32 (runeAt a0 x120)) (b := .int .i32 10) (v := .bool ((runeAt a0 x120) == 10)) rfl rfl bin_eql) ?_
      refine WL.nil ?_
      rcases condE H with ⟨c134, H⟩ | ⟨c134, H⟩
      ·
        refine WC.cond_t ((show _ = Value.bool ((runeAt a0 x120) == 10) from rfl).trans (congrArg Value.bool c134)) ?_
        refine WC.region ?_
        refine WL.ex rfl (ex_fieldAddr s5_118 Tryd.underlying23 rfl sz3) ?_
        refine WL.ex rfl (ex_load1 (v := .int .i64 x119.f_Line) rfl Tryd.underlying3 rfl (hB113.cell rfl)) ?_
        refine WL.ex rfl (ex_bin (a := .int .i64 x119.f_Line) (b := .int .i64 1) (v := .int .i64 (wrap64 (x119.f_Line + 1))) rfl rfl bin_add64) ?_
        refine WL.ex rfl (ex_fieldAddr s5_118 Tryd.underlying23 rfl sz3) ?_
        refine WL.op rfl ?_
        refine OW.store [.int .i64 (wrap64 (x119.f_Line + 1)), .int .i64 x119.f_Col, .int .i64 x119.f_Off] rfl (vs := [.int .i64 (wrap64 (x119.f_Line + 1))]) ((congrArg Value.cells (show ev _ _ = (.int .i64 (wrap64 (x119.f_Line + 1)) : Value) from rfl)).trans rfl) sz3 hB113 (Nat.le_of_ble_eq_true rfl) (by intro u_ hu_; simp only [List.mem_cons, List.not_mem_nil, or_false] at hu_; rcases hu_ with rfl; first | rfl) rfl ?_
        intro w135 s136 hB137
        replace hB105 := hB105.step s136 rfl
        replace hI132 := hI132.step s136 rfl
        replace HF := HF.step s136 rfl
        refine WL.ex rfl (ex_fieldAddr s5_118 Tryd.underlying23 rfl sz3) ?_
        refine WL.op rfl ?_
        refine OW.store [.int .i64 (wrap64 (x119.f_Line + 1)), .int .i64 1, .int .i64 x119.f_Off] rfl (vs := [.int .i64 1]) ((congrArg Value.cells (show ev _ _ = (.int .i64 1 : Value) from rfl)).trans rfl) sz3 hB137 (Nat.le_of_ble_eq_true rfl) (by intro u_ hu_; simp only [List.mem_cons, List.not_mem_nil, or_false] at hu_; rcases hu_ with rfl; first | rfl) rfl ?_
        intro w138 s139 hB140
        replace hB105 := hB105.step s139 rfl
        replace hI132 := hI132.step s139 rfl
        replace HF := HF.step s139 rfl
        refine WL.nil ?_
        exact ⟨k125, Nat.lt_succ_self _, ⟨_, (⟨wrap64 (x119.f_Line + 1), 1, x119.f_Off⟩ : T_api_Spot), (x120 + wideAt a0 x120), HF, hB105, hB140, hI132, s1_118, s4_118, s5_118, s16_118, H⟩⟩
      ·
        refine WC.cond_f ((show _ = Value.bool ((runeAt a0 x120) == 10) from rfl).trans (congrArg Value.bool c134)) ?_
        refine WC.region ?_
        refine WL.ex rfl (ex_fieldAddr s5_118 Tryd.underlying23 rfl sz3) ?_
        refine WL.ex rfl (ex_load1 (v := .int .i64 x119.f_Col) rfl Tryd.underlying3 rfl (hB113.cell rfl)) ?_
        refine WL.ex rfl (ex_bin (a := .int .i64 x119.f_Col) (b := .int .i64 1) (v := .int .i64 (wrap64 (x119.f_Col + 1))) rfl rfl bin_add64) ?_
        refine WL.ex rfl (ex_fieldAddr s5_118 Tryd.underlying23 rfl sz3) ?_
        refine WL.op rfl ?_
        refine OW.store [.int .i64 x119.f_Line, .int .i64 (wrap64 (x119.f_Col + 1)), .int .i64 x119.f_Off] rfl (vs := [.int .i64 (wrap64 (x119.f_Col + 1))]) ((congrArg Value.cells (show ev _ _ = (.int .i64 (wrap64 (x119.f_Col + 1)) : Value) from rfl)).trans rfl) sz3 hB113 (Nat.le_of_ble_eq_true rfl) (by intro u_ hu_; simp only [List.mem_cons, List.not_mem_nil, or_false] at hu_; rcases hu_ with rfl; first | rfl) rfl ?_
        intro w141 s142 hB143
        replace hB105 := hB105.step s142 rfl
        replace hI132 := hI132.step s142 rfl
        replace HF := HF.step s142 rfl
        refine WL.nil ?_
        exact ⟨k125, Nat.lt_succ_self _, ⟨_, (⟨x119.f_Line, wrap64 (x119.f_Col + 1), x119.f_Off⟩ : T_api_Spot), (x120 + wideAt a0 x120), HF, hB105, hB143, hI132, s1_118, s4_118, s5_118, s16_118, H⟩⟩
  ·
    refine WL.op rfl (OW.nextNo (q := x120) rfl s16_118 hI118 c129 ?_)
    refine WL.ex rfl (ex_extract (vs := #[.bool false]) (v := .bool false) rfl rfl) ?_
    refine WL.nil ?_
    refine WC.seq ?_
    refine WC.cond_f rfl ?_
    refine WC.exit ?_
    obtain rfl := Option.some.inj H
    exact ⟨_, HF, hB105, hB113, s4_118, s5_118⟩
end Go.Proofs.YtjhmhdedonibbaaDoor.X
