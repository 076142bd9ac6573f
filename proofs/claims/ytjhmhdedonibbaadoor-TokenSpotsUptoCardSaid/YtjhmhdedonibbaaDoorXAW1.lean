import Derived.Test.YtjhmhdedonibbaaDoorXAW0
set_option maxRecDepth 20000
set_option linter.unusedVariables false
set_option linter.unusedSimpArgs false
set_option linter.unnecessarySimpa false
namespace Go.Proofs.YtjhmhdedonibbaaDoor.X
open Go Go.RowKit Go.Proofs.YtjhmhdedonibbaaDoor.SX
/-! ### token_word -/
set_option maxRecDepth 100000 in
theorem token_word.calls (k : Nat) (o0 : Tags) (w0 : World) (a0 : List UInt8) (r : T_api_Token × Int × Int) (hO : ∀ b, b < w0.heap.size → o0 b < 10) (hG : Gl GG o0 w0) (H : token_word.f k a0 = some r) :
    Calls Tryd.prog 28 [encS a0].toArray w0 fun e_ w_ => ∃ (o_ : Tags), e_ = .returned (one [.agg #[.int .i64 r.1.f_Kind, encS r.1.f_Text, .int .i64 r.1.f_Int, .int .i64 r.1.f_At.f_Line, .int .i64 r.1.f_At.f_Col, .int .i64 r.1.f_At.f_Off], .int .i64 r.2.1, .int .i64 r.2.2]) ∧ Step o0 w0 o_ w_ [] := by
  have HF := Fm.refl hO []
  unfold token_word.f at H
  refine SX.calls [encS a0] Tryd.func28 rfl rfl ?_
  rw [Tryd.ntmps28]
  refine WC.seq ?_
  refine WC.region ?_
  refine WL.op rfl ?_
  refine OW.alloc' [.int .i64 (0 : Int), encS ([] : List UInt8), .int .i64 (0 : Int), .int .i64 (0 : Int), .int .i64 (0 : Int), .int .i64 (0 : Int)] 10 HF rfl zr37 rfl ?_
  intro o102 w103 b101 s104 hB105
  replace hG := hG.step s104 rfl
  replace HF := HF.step s104 rfl
  refine WL.ex rfl (ex_assign (v := .int .i64 0) rfl) ?_
  refine WL.ex rfl (ex_assign (v := .int .i64 0) rfl) ?_
  refine WL.nil ?_
  refine WC.seq ?_
  refine WC.block ?_
  refine WC.seq ?_
  refine WC.region ?_
  refine WL.ex rfl (ex_move (v := encS a0) rfl) ?_
  obtain ⟨x106, hx106, H⟩ := bindE H
  refine WL.ex rfl (ex_index_str (i := (0 : Int)) rfl rfl Tryd.underlying9 (ix_some hx106).1 (ix_some hx106).2.2) ?_
  obtain ⟨z107, hz107, H⟩ := bindE H
  refine WL.op rfl ?_
  refine OW.call [enc8 x106] rfl Tryd.func38 (by kernel_rfl) (by kernel_rfl) (map_cons' rfl rfl) (token_letter.calls _ _ x106 z107 (HF.ten (V := [0]) (L := []) rfl)  hz107) ?_
  rintro _ w108 ⟨o109, rfl, s110⟩
  refine ⟨_, rfl, ?_⟩
  replace s110 := un_stepL (J := []) (L' := []) s110 rfl rfl
  replace hG := hG.step s110 rfl
  replace hB105 := hB105.step s110 rfl
  replace HF := HF.step s110 rfl
  refine WL.ex rfl (ex_assign (v := .bool z107) rfl) ?_
  refine WL.nil ?_
  rcases condE H with ⟨c111, H⟩ | ⟨c111, H⟩
  ·
    refine WC.cond_t ((show _ = Value.bool z107 from rfl).trans (congrArg Value.bool c111)) ?_
    refine WC.seq ?_
    refine WC.region ?_
    refine WL.ex rfl (ex_move (v := encS a0) rfl) ?_
    obtain ⟨z112, hz112, H⟩ := bindE H
    refine WL.op rfl ?_
    refine OW.call [encS a0, .func (.func 40) #[] #[]] rfl Tryd.func39 (by kernel_rfl) (by kernel_rfl) (map_cons' rfl (map_cons' rfl rfl)) (token_run_token_tail.calls k _ _ a0 z112 (HF.ten (V := [0]) (L := []) rfl)  hz112) ?_
    rintro _ w113 ⟨o114, rfl, s115⟩
    refine ⟨_, rfl, ?_⟩
    replace s115 := un_stepL (J := []) (L' := []) s115 rfl rfl
    replace hG := hG.step s115 rfl
    replace hB105 := hB105.step s115 rfl
    replace HF := HF.step s115 rfl
    refine WL.ex rfl (ex_assign (v := .int .i64 z112) rfl) ?_
    refine WL.nil ?_
    refine WC.seq ?_
    refine WC.seq ?_
    refine WC.region ?_
    refine WL.ex rfl (ex_move (v := .int .i64 z112) rfl) ?_
    refine WL.ex rfl (ex_bin (a := .int .i64 z112) (b := .int .i64 31) (v := .bool (decide (z112 > 31))) rfl rfl bin_gtr) ?_
    refine WL.nil ?_
    rcases condE H with ⟨c116, H⟩ | ⟨c116, H⟩
    ·
      refine WC.cond_t ((show _ = Value.bool (decide (z112 > 31)) from rfl).trans (congrArg Value.bool c116)) ?_
      refine WC.seq ?_
      refine WC.region ?_
      refine WL.ex rfl (ex_build (cs := [.int .i64 (0 : Int), encS ([] : List UInt8), .int .i64 (0 : Int), .int .i64 (0 : Int), .int .i64 (0 : Int), .int .i64 (0 : Int)]) [(0, 1), (1, 1), (2, 1), (3, 3)] [] [.int .i64 0, .string ⟨#[]⟩, .int .i64 0, .int .i64 0, .int .i64 0, .int .i64 0] Tryd.underlying37 zr37 rfl (by kernel_rfl) rfl rfl) ?_
      refine WL.op rfl ?_
      refine OW.store [.int .i64 (0 : Int), encS ([] : List UInt8), .int .i64 (0 : Int), .int .i64 (0 : Int), .int .i64 (0 : Int), .int .i64 (0 : Int)] rfl (vs := [.int .i64 (0 : Int), encS ([] : List UInt8), .int .i64 (0 : Int), .int .i64 (0 : Int), .int .i64 (0 : Int), .int .i64 (0 : Int)]) ((congrArg Value.cells (show ev _ _ = (.agg #[.int .i64 (0 : Int), encS ([] : List UInt8), .int .i64 (0 : Int), .int .i64 (0 : Int), .int .i64 (0 : Int), .int .i64 (0 : Int)] : Value) from rfl)).trans rfl) sz37 hB105 (Nat.le_of_ble_eq_true rfl) (by intro u_ hu_; simp only [List.mem_cons, List.not_mem_nil, or_false] at hu_; rcases hu_ with rfl | rfl | rfl | rfl | rfl | rfl <;> first | rfl) rfl ?_
      intro w117 s118 hB119
      replace hG := hG.step s118 rfl
      replace HF := HF.step s118 rfl
      refine WL.ex rfl (ex_assign (v := .int .i64 0) rfl) ?_
      refine WL.ex rfl (ex_assign (v := .int .i64 22) rfl) ?_
      refine WL.nil ?_
      refine WC.ret ?_
      obtain rfl := Option.some.inj H
      exact ⟨_, (.cell (.agg #[.int .i64 (0 : Int), encS ([] : List UInt8), .int .i64 (0 : Int), .int .i64 (0 : Int), .int .i64 (0 : Int), .int .i64 (0 : Int)] : Value) rfl (run_loadN (cs := [.int .i64 (0 : Int), encS ([] : List UInt8), .int .i64 (0 : Int), .int .i64 (0 : Int), .int .i64 (0 : Int), .int .i64 (0 : Int)]) Tryd.underlying37 rfl sz37 (hB119.cells rfl)) (.tmp (.int .i64 0 : Value) rfl (.tmp (.int .i64 22 : Value) rfl .nil))), _, rfl, HF.out⟩
    ·
      refine WC.cond_f ((show _ = Value.bool (decide (z112 > 31)) from rfl).trans (congrArg Value.bool c116)) ?_
      refine WC.skip ?_
      refine WC.seq ?_
      refine WC.region ?_
      refine WL.ex rfl (ex_move (v := encS a0) rfl) ?_
      refine WL.ex rfl (ex_move (v := .int .i64 z112) rfl) ?_
      obtain ⟨y120, hy120, H⟩ := bindE H
      refine WL.ex rfl (ex_slice_str (l := 0) (h := z112) rfl Tryd.underlying9 rfl ⟨_, rfl⟩ hy120) ?_
      refine WL.ex rfl (ex_build (cs := [.int .i64 1, encS y120, .int .i64 (0 : Int), .int .i64 (0 : Int), .int .i64 (0 : Int), .int .i64 (0 : Int)]) [(0, 1), (1, 1), (2, 1), (3, 3)] [(0, .int .i64 1), (1, encS y120)] [.int .i64 0, .string ⟨#[]⟩, .int .i64 0, .int .i64 0, .int .i64 0, .int .i64 0] Tryd.underlying37 zr37 rfl (by kernel_rfl) (evs_cons rfl (evs_cons rfl rfl)) rfl) ?_
      refine WL.ex rfl (ex_move (v := .int .i64 z112) rfl) ?_
      refine WL.op rfl ?_
      refine OW.store [.int .i64 1, encS y120, .int .i64 (0 : Int), .int .i64 (0 : Int), .int .i64 (0 : Int), .int .i64 (0 : Int)] rfl (vs := [.int .i64 1, encS y120, .int .i64 (0 : Int), .int .i64 (0 : Int), .int .i64 (0 : Int), .int .i64 (0 : Int)]) ((congrArg Value.cells (show ev _ _ = (.agg #[.int .i64 1, encS y120, .int .i64 (0 : Int), .int .i64 (0 : Int), .int .i64 (0 : Int), .int .i64 (0 : Int)] : Value) from rfl)).trans rfl) sz37 hB105 (Nat.le_of_ble_eq_true rfl) (by intro u_ hu_; simp only [List.mem_cons, List.not_mem_nil, or_false] at hu_; rcases hu_ with rfl | rfl | rfl | rfl | rfl | rfl <;> first | rfl) rfl ?_
      intro w121 s122 hB123
      replace hG := hG.step s122 rfl
      replace HF := HF.step s122 rfl
      refine WL.ex rfl (ex_assign (v := .int .i64 z112) rfl) ?_
      refine WL.ex rfl (ex_assign (v := .int .i64 0) rfl) ?_
      refine WL.nil ?_
      refine WC.ret ?_
      obtain rfl := Option.some.inj H
      exact ⟨_, (.cell (.agg #[.int .i64 1, encS y120, .int .i64 (0 : Int), .int .i64 (0 : Int), .int .i64 (0 : Int), .int .i64 (0 : Int)] : Value) rfl (run_loadN (cs := [.int .i64 1, encS y120, .int .i64 (0 : Int), .int .i64 (0 : Int), .int .i64 (0 : Int), .int .i64 (0 : Int)]) Tryd.underlying37 rfl sz37 (hB123.cells rfl)) (.tmp (.int .i64 z112 : Value) rfl (.tmp (.int .i64 0 : Value) rfl .nil))), _, rfl, HF.out⟩
  ·
    refine WC.cond_f ((show _ = Value.bool z107 from rfl).trans (congrArg Value.bool c111)) ?_
    refine WC.seq ?_
    refine WC.region ?_
    refine WL.ex rfl (ex_move (v := encS a0) rfl) ?_
    obtain ⟨x124, hx124, H⟩ := bindE H
    refine WL.ex rfl (ex_index_str (i := (0 : Int)) rfl rfl Tryd.underlying9 (ix_some hx124).1 (ix_some hx124).2.2) ?_
    obtain ⟨z125, hz125, H⟩ := bindE H
    refine WL.op rfl ?_
    refine OW.call [enc8 x124] rfl Tryd.func41 (by kernel_rfl) (by kernel_rfl) (map_cons' rfl rfl) (token_digit.calls _ _ x124 z125 (HF.ten (V := [0]) (L := []) rfl)  hz125) ?_
    rintro _ w126 ⟨o127, rfl, s128⟩
    refine ⟨_, rfl, ?_⟩
    replace s128 := un_stepL (J := []) (L' := []) s128 rfl rfl
    replace hG := hG.step s128 rfl
    replace hB105 := hB105.step s128 rfl
    replace HF := HF.step s128 rfl
    refine WL.ex rfl (ex_assign (v := .bool z125) rfl) ?_
    refine WL.nil ?_
    rcases condE H with ⟨c129, H⟩ | ⟨c129, H⟩
    ·
      refine WC.cond_t ((show _ = Value.bool z125 from rfl).trans (congrArg Value.bool c129)) ?_
      refine WC.seq ?_
      refine WC.region ?_
      refine WL.ex rfl (ex_move (v := encS a0) rfl) ?_
      obtain ⟨z130, hz130, H⟩ := bindE H
      refine WL.op rfl ?_
      refine OW.call [encS a0, .func (.func 41) #[] #[]] rfl Tryd.func39 (by kernel_rfl) (by kernel_rfl) (map_cons' rfl (map_cons' rfl rfl)) (token_run_token_digit.calls k _ _ a0 z130 (HF.ten (V := [0]) (L := []) rfl)  hz130) ?_
      rintro _ w131 ⟨o132, rfl, s133⟩
      refine ⟨_, rfl, ?_⟩
      replace s133 := un_stepL (J := []) (L' := []) s133 rfl rfl
      replace hG := hG.step s133 rfl
      replace hB105 := hB105.step s133 rfl
      replace HF := HF.step s133 rfl
      refine WL.ex rfl (ex_assign (v := .int .i64 z130) rfl) ?_
      refine WL.nil ?_
      refine WC.seq ?_
      refine WC.region ?_
      refine WL.ex rfl (ex_move (v := encS a0) rfl) ?_
      refine WL.ex rfl (ex_move (v := .int .i64 z130) rfl) ?_
      obtain ⟨y134, hy134, H⟩ := bindE H
      refine WL.ex rfl (ex_slice_str (l := 0) (h := z130) rfl Tryd.underlying9 rfl ⟨_, rfl⟩ hy134) ?_
      obtain ⟨z135, hz135, H⟩ := bindE H
      refine WL.op rfl ?_
      refine OW.call [encS y134] rfl Tryd.func42 (by kernel_rfl) (by kernel_rfl) (map_cons' rfl rfl) (strconv_Atoi.calls _ _ y134 z135 (HF.ten (V := [0]) (L := []) rfl) (Gl.vw (V := [0]) (L := []) hG rfl) hz135) ?_
      rintro _ w136 ⟨o137, v139, rfl, s138, hE140⟩
      refine ⟨_, rfl, ?_⟩
      replace s138 := un_stepL (J := []) (L' := []) s138 rfl rfl
      replace hG := hG.step s138 rfl
      replace hB105 := hB105.step s138 rfl
      replace HF := HF.step s138 rfl
      refine WL.ex rfl (ex_move (v := .tuple #[.int .i64 z135.1, v139]) rfl) ?_
      refine WL.ex rfl (ex_extract (vs := #[.int .i64 z135.1, v139]) (v := .int .i64 z135.1) rfl rfl) ?_
      refine WL.ex rfl (ex_extract (vs := #[.int .i64 z135.1, v139]) (v := v139) rfl rfl) ?_
      refine WL.ex rfl (ex_assign (v := .int .i64 z135.1) rfl) ?_
      refine WL.ex rfl (ex_assign (v := v139) rfl) ?_
      refine WL.nil ?_
      refine WC.seq ?_
      obtain ⟨z142, hz142, H⟩ := bindE H
      refine WC.cut (fun ρ_ w_ => ∃ (o_ : Tags), Fm o0 w0 o_ w_ [] ∧ Bk o_ w_ 10 b101 [.int .i64 (0 : Int), encS ([] : List UInt8), .int .i64 (0 : Int), .int .i64 (0 : Int), .int .i64 (0 : Int), .int .i64 (0 : Int)] 37 ∧ Gl GG o_ w_ ∧ ρ_ 0 = encS a0 ∧ ρ_ 2 = .pointer (some ⟨b101, 0, none⟩) ∧ ρ_ 3 = .int .i64 0 ∧ ρ_ 4 = .int .i64 0 ∧ ρ_ 6 = .int .i64 z130 ∧ ρ_ 7 = .int .i64 z135.1 ∧ ρ_ 66 = .bool z142) ?case143 ?_
      case case143 =>
        rintro ρ146 w144 ⟨o145, HF, hB105, hG, s0_140, s2_140, s3_140, s4_140, s6_140, s7_140, s66_141⟩
        rcases condE H with ⟨c147, H⟩ | ⟨c147, H⟩
        ·
          refine WC.cond_t ((show _ = Value.bool z142 from s66_141).trans (congrArg Value.bool c147)) ?_
          refine WC.seq ?_
          refine WC.region ?_
          refine WL.ex rfl (ex_build (cs := [.int .i64 (0 : Int), encS ([] : List UInt8), .int .i64 (0 : Int), .int .i64 (0 : Int), .int .i64 (0 : Int), .int .i64 (0 : Int)]) [(0, 1), (1, 1), (2, 1), (3, 3)] [] [.int .i64 0, .string ⟨#[]⟩, .int .i64 0, .int .i64 0, .int .i64 0, .int .i64 0] Tryd.underlying37 zr37 rfl (by kernel_rfl) rfl rfl) ?_
          refine WL.op rfl ?_
          refine OW.store [.int .i64 (0 : Int), encS ([] : List UInt8), .int .i64 (0 : Int), .int .i64 (0 : Int), .int .i64 (0 : Int), .int .i64 (0 : Int)] s2_140 (vs := [.int .i64 (0 : Int), encS ([] : List UInt8), .int .i64 (0 : Int), .int .i64 (0 : Int), .int .i64 (0 : Int), .int .i64 (0 : Int)]) ((congrArg Value.cells (show ev _ _ = (.agg #[.int .i64 (0 : Int), encS ([] : List UInt8), .int .i64 (0 : Int), .int .i64 (0 : Int), .int .i64 (0 : Int), .int .i64 (0 : Int)] : Value) from rfl)).trans rfl) sz37 hB105 (Nat.le_of_ble_eq_true rfl) (by intro u_ hu_; simp only [List.mem_cons, List.not_mem_nil, or_false] at hu_; rcases hu_ with rfl | rfl | rfl | rfl | rfl | rfl <;> first | rfl) rfl ?_
          intro w148 s149 hB150
          replace hG := hG.step s149 rfl
          replace HF := HF.step s149 rfl
          refine WL.ex rfl (ex_assign (v := .int .i64 0) rfl) ?_
          refine WL.ex rfl (ex_assign (v := .int .i64 21) rfl) ?_
          refine WL.nil ?_
          refine WC.ret ?_
          obtain rfl := Option.some.inj H
          exact ⟨_, (.cell (.agg #[.int .i64 (0 : Int), encS ([] : List UInt8), .int .i64 (0 : Int), .int .i64 (0 : Int), .int .i64 (0 : Int), .int .i64 (0 : Int)] : Value) s2_140 (run_loadN (cs := [.int .i64 (0 : Int), encS ([] : List UInt8), .int .i64 (0 : Int), .int .i64 (0 : Int), .int .i64 (0 : Int), .int .i64 (0 : Int)]) Tryd.underlying37 rfl sz37 (hB150.cells rfl)) (.tmp (.int .i64 0 : Value) rfl (.tmp (.int .i64 21 : Value) rfl .nil))), _, rfl, HF.out⟩
        ·
          refine WC.cond_f ((show _ = Value.bool z142 from s66_141).trans (congrArg Value.bool c147)) ?_
          refine WC.skip ?_
          refine WC.seq ?_
          refine WC.region ?_
          refine WL.ex rfl (ex_move (v := .int .i64 z135.1) s7_140) ?_
          refine WL.ex rfl (ex_build (cs := [.int .i64 2, encS ([] : List UInt8), .int .i64 z135.1, .int .i64 (0 : Int), .int .i64 (0 : Int), .int .i64 (0 : Int)]) [(0, 1), (1, 1), (2, 1), (3, 3)] [(0, .int .i64 2), (2, .int .i64 z135.1)] [.int .i64 0, .string ⟨#[]⟩, .int .i64 0, .int .i64 0, .int .i64 0, .int .i64 0] Tryd.underlying37 zr37 rfl (by kernel_rfl) (evs_cons rfl (evs_cons rfl rfl)) rfl) ?_
          refine WL.ex rfl (ex_move (v := .int .i64 z130) s6_140) ?_
          refine WL.op rfl ?_
          refine OW.store [.int .i64 2, encS ([] : List UInt8), .int .i64 z135.1, .int .i64 (0 : Int), .int .i64 (0 : Int), .int .i64 (0 : Int)] s2_140 (vs := [.int .i64 2, encS ([] : List UInt8), .int .i64 z135.1, .int .i64 (0 : Int), .int .i64 (0 : Int), .int .i64 (0 : Int)]) ((congrArg Value.cells (show ev _ _ = (.agg #[.int .i64 2, encS ([] : List UInt8), .int .i64 z135.1, .int .i64 (0 : Int), .int .i64 (0 : Int), .int .i64 (0 : Int)] : Value) from rfl)).trans rfl) sz37 hB105 (Nat.le_of_ble_eq_true rfl) (by intro u_ hu_; simp only [List.mem_cons, List.not_mem_nil, or_false] at hu_; rcases hu_ with rfl | rfl | rfl | rfl | rfl | rfl <;> first | rfl) rfl ?_
          intro w151 s152 hB153
          replace hG := hG.step s152 rfl
          replace HF := HF.step s152 rfl
          refine WL.ex rfl (ex_assign (v := .int .i64 z130) rfl) ?_
          refine WL.ex rfl (ex_assign (v := .int .i64 0) rfl) ?_
          refine WL.nil ?_
          refine WC.ret ?_
          obtain rfl := Option.some.inj H
          exact ⟨_, (.cell (.agg #[.int .i64 2, encS ([] : List UInt8), .int .i64 z135.1, .int .i64 (0 : Int), .int .i64 (0 : Int), .int .i64 (0 : Int)] : Value) s2_140 (run_loadN (cs := [.int .i64 2, encS ([] : List UInt8), .int .i64 z135.1, .int .i64 (0 : Int), .int .i64 (0 : Int), .int .i64 (0 : Int)]) Tryd.underlying37 rfl sz37 (hB153.cells rfl)) (.tmp (.int .i64 z130 : Value) rfl (.tmp (.int .i64 0 : Value) rfl .nil))), _, rfl, HF.out⟩
      have Ho154 := H
      replace H := hz142
      refine WC.region ?_
      refine WL.ex rfl (ex_move (v := .int .i64 z130) rfl) ?_
      refine WL.ex rfl (ex_bin (a := .int .i64 z130) (b := .int .i64 1) (v := .bool (decide (z130 > 1))) rfl rfl bin_gtr) ?_
      refine WL.ex rfl (ex_move (v := .bool (decide (z130 > 1))) rfl) ?_
      rcases condE H with ⟨c155, H⟩ | ⟨c155, H⟩
      ·
        refine WL.guardYes rfl rfl rfl ((show _ = Value.bool (decide (z130 > 1)) from rfl).trans (congrArg Value.bool c155)) ?_
        refine OW.ex rfl (ex_move (v := encS a0) rfl) ?_
        refine WL.guardYes rfl rfl rfl ((show _ = Value.bool (decide (z130 > 1)) from rfl).trans (congrArg Value.bool c155)) ?_
        obtain ⟨x156, hx156, H⟩ := bindE H
        refine OW.ex rfl (ex_index_str (i := (0 : Int)) rfl rfl Tryd.underlying9 (ix_some hx156).1 (ix_some hx156).2.2) ?_
        refine WL.guardYes rfl rfl rfl ((show _ = Value.bool (decide (z130 > 1)) from rfl).trans (congrArg Value.bool c155)) ?_
        refine OW.ex rfl (ex_bin (a := enc8 x156) (b := enc8 (48 : UInt8)) (v := .bool (x156 == (48 : UInt8))) rfl rfl bin_eql_u8) ?_
        refine WL.ex rfl (ex_pick_t (v := .bool (x156 == (48 : UInt8))) ((show _ = Value.bool (decide (z130 > 1)) from rfl).trans (congrArg Value.bool c155)) rfl) ?_
        refine WL.ex rfl (ex_move (v := .bool (x156 == (48 : UInt8))) rfl) ?_
        rcases condE H with ⟨c157, H⟩ | ⟨c157, H⟩
        ·
          refine WL.guardNo rfl rfl rfl ((show _ = Value.bool (x156 == (48 : UInt8)) from rfl).trans (congrArg Value.bool c157)) ?_
          refine WL.guardNo rfl rfl rfl ((show _ = Value.bool (x156 == (48 : UInt8)) from rfl).trans (congrArg Value.bool c157)) ?_
          refine WL.ex rfl (ex_pick_t (v := .bool true) ((show _ = Value.bool (x156 == (48 : UInt8)) from rfl).trans (congrArg Value.bool c157)) rfl) ?_
          refine WL.ex rfl (ex_move (v := .bool true) rfl) ?_
          refine WL.guardNo rfl rfl rfl rfl ?_
          refine WL.guardNo rfl rfl rfl rfl ?_
          refine WL.ex rfl (ex_pick_t (v := .bool true) rfl rfl) ?_
          refine WL.ex rfl (ex_move (v := .bool true) rfl) ?_
          refine WL.guardNo rfl rfl rfl rfl ?_
          refine WL.guardNo rfl rfl rfl rfl ?_
          refine WL.guardNo rfl rfl rfl rfl ?_
          refine WL.guardNo rfl rfl rfl rfl ?_
          refine WL.guardNo rfl rfl rfl rfl ?_
          refine WL.guardUn rfl rfl rfl rfl ?_
          refine WL.guardUn rfl rfl rfl rfl ?_
          refine WL.guardUn rfl rfl rfl rfl ?_
          refine WL.guardUn rfl rfl rfl rfl ?_
          refine WL.guardNo rfl rfl rfl rfl ?_
          refine WL.ex rfl (ex_pick_t (v := .bool true) rfl rfl) ?_
          refine WL.nil ?_
          obtain rfl := Option.some.inj H
          exact ⟨_, HF, hB105, hG, rfl, rfl, rfl, rfl, rfl, rfl, rfl⟩
        ·
          refine WL.guardYes rfl rfl rfl ((show _ = Value.bool (x156 == (48 : UInt8)) from rfl).trans (congrArg Value.bool c157)) ?_
          refine OW.ex rfl (ex_move (v := v139) rfl) ?_
          refine WL.guardYes rfl rfl rfl ((show _ = Value.bool (x156 == (48 : UInt8)) from rfl).trans (congrArg Value.bool c157)) ?_
          refine OW.ex rfl (ex_errNeq (b := z135.2) rfl Tryd.underlying69 hE140) ?_
          refine WL.ex rfl (ex_pick_f (v := .bool z135.2) ((show _ = Value.bool (x156 == (48 : UInt8)) from rfl).trans (congrArg Value.bool c157)) rfl) ?_
          refine WL.ex rfl (ex_move (v := .bool z135.2) rfl) ?_
          rcases condE H with ⟨c158, H⟩ | ⟨c158, H⟩
          ·
            refine WL.guardNo rfl rfl rfl ((show _ = Value.bool z135.2 from rfl).trans (congrArg Value.bool c158)) ?_
            refine WL.guardNo rfl rfl rfl ((show _ = Value.bool z135.2 from rfl).trans (congrArg Value.bool c158)) ?_
            refine WL.ex rfl (ex_pick_t (v := .bool true) ((show _ = Value.bool z135.2 from rfl).trans (congrArg Value.bool c158)) rfl) ?_
            refine WL.ex rfl (ex_move (v := .bool true) rfl) ?_
            refine WL.guardNo rfl rfl rfl rfl ?_
            refine WL.guardNo rfl rfl rfl rfl ?_
            refine WL.guardNo rfl rfl rfl rfl ?_
            refine WL.guardNo rfl rfl rfl rfl ?_
            refine WL.guardNo rfl rfl rfl rfl ?_
            refine WL.guardUn rfl rfl rfl rfl ?_
            refine WL.guardUn rfl rfl rfl rfl ?_
            refine WL.guardUn rfl rfl rfl rfl ?_
            refine WL.guardUn rfl rfl rfl rfl ?_
            refine WL.guardNo rfl rfl rfl rfl ?_
            refine WL.ex rfl (ex_pick_t (v := .bool true) rfl rfl) ?_
            refine WL.nil ?_
            obtain rfl := Option.some.inj H
            exact ⟨_, HF, hB105, hG, rfl, rfl, rfl, rfl, rfl, rfl, rfl⟩
          ·
            refine WL.guardYes rfl rfl rfl ((show _ = Value.bool z135.2 from rfl).trans (congrArg Value.bool c158)) ?_
            refine OW.ex rfl (ex_move (v := .int .i64 z135.1) rfl) ?_
            refine WL.guardYes rfl rfl rfl ((show _ = Value.bool z135.2 from rfl).trans (congrArg Value.bool c158)) ?_
            refine OW.ex rfl (ex_bin (a := .int .i64 z135.1) (b := .int .i64 999999999) (v := .bool (decide (z135.1 > 999999999))) rfl rfl bin_gtr) ?_
            refine WL.ex rfl (ex_pick_f (v := .bool (decide (z135.1 > 999999999))) ((show _ = Value.bool z135.2 from rfl).trans (congrArg Value.bool c158)) rfl) ?_
            refine WL.ex rfl (ex_move (v := .bool (decide (z135.1 > 999999999))) rfl) ?_
            rcases condE H with ⟨c159, H⟩ | ⟨c159, H⟩
            ·
              refine WL.guardNo rfl rfl rfl ((show _ = Value.bool (decide (z135.1 > 999999999)) from rfl).trans (congrArg Value.bool c159)) ?_
              refine WL.guardNo rfl rfl rfl ((show _ = Value.bool (decide (z135.1 > 999999999)) from rfl).trans (congrArg Value.bool c159)) ?_
              refine WL.guardNo rfl rfl rfl ((show _ = Value.bool (decide (z135.1 > 999999999)) from rfl).trans (congrArg Value.bool c159)) ?_
              refine WL.guardNo rfl rfl rfl ((show _ = Value.bool (decide (z135.1 > 999999999)) from rfl).trans (congrArg Value.bool c159)) ?_
              refine WL.guardNo rfl rfl rfl ((show _ = Value.bool (decide (z135.1 > 999999999)) from rfl).trans (congrArg Value.bool c159)) ?_
              refine WL.guardUn rfl rfl rfl rfl ?_
              refine WL.guardUn rfl rfl rfl rfl ?_
              refine WL.guardUn rfl rfl rfl rfl ?_
              refine WL.guardUn rfl rfl rfl rfl ?_
              refine WL.guardNo rfl rfl rfl ((show _ = Value.bool (decide (z135.1 > 999999999)) from rfl).trans (congrArg Value.bool c159)) ?_
              refine WL.ex rfl (ex_pick_t (v := .bool true) ((show _ = Value.bool (decide (z135.1 > 999999999)) from rfl).trans (congrArg Value.bool c159)) rfl) ?_
              refine WL.nil ?_
              obtain rfl := Option.some.inj H
              exact ⟨_, HF, hB105, hG, rfl, rfl, rfl, rfl, rfl, rfl, rfl⟩
            ·
              refine WL.guardYes rfl rfl rfl ((show _ = Value.bool (decide (z135.1 > 999999999)) from rfl).trans (congrArg Value.bool c159)) ?_
              refine OW.ex rfl (ex_move (v := .int .i64 z130) rfl) ?_
              refine WL.guardYes rfl rfl rfl ((show _ = Value.bool (decide (z135.1 > 999999999)) from rfl).trans (congrArg Value.bool c159)) ?_
              refine OW.ex rfl (ex_move (v := encS a0) rfl) ?_
              refine WL.guardYes rfl rfl rfl ((show _ = Value.bool (decide (z135.1 > 999999999)) from rfl).trans (congrArg Value.bool c159)) ?_
              refine OW.ex rfl (ex_len_str (s := a0) rfl Tryd.underlying9) ?_
              refine WL.guardYes rfl rfl rfl ((show _ = Value.bool (decide (z135.1 > 999999999)) from rfl).trans (congrArg Value.bool c159)) ?_
              refine OW.ex rfl (ex_bin (a := .int .i64 z130) (b := .int .i64 (a0.length : Int)) (v := .bool (decide (z130 < (a0.length : Int)))) rfl rfl bin_lss) ?_
              refine WL.guardYes rfl rfl rfl ((show _ = Value.bool (decide (z135.1 > 999999999)) from rfl).trans (congrArg Value.bool c159)) ?_
              refine OW.ex rfl (ex_move (v := .bool (decide (z130 < (a0.length : Int)))) rfl) ?_
              rcases condE H with ⟨c160, H⟩ | ⟨c160, H⟩
              ·
                refine WL.guardYes rfl rfl rfl ((show _ = Value.bool (decide (z130 < (a0.length : Int))) from rfl).trans (congrArg Value.bool c160)) ?_
                refine OW.ex rfl (ex_move (v := encS a0) rfl) ?_
                refine WL.guardYes rfl rfl rfl ((show _ = Value.bool (decide (z130 < (a0.length : Int))) from rfl).trans (congrArg Value.bool c160)) ?_
                refine OW.ex rfl (ex_move (v := .int .i64 z130) rfl) ?_
                refine WL.guardYes rfl rfl rfl ((show _ = Value.bool (decide (z130 < (a0.length : Int))) from rfl).trans (congrArg Value.bool c160)) ?_
                obtain ⟨x161, hx161, H⟩ := bindE H
                refine OW.ex rfl (ex_index_str (i := z130) rfl rfl Tryd.underlying9 (ix_some hx161).1 (ix_some hx161).2.2) ?_
                refine WL.guardYes rfl rfl rfl ((show _ = Value.bool (decide (z130 < (a0.length : Int))) from rfl).trans (congrArg Value.bool c160)) ?_
                obtain ⟨z162, hz162, H⟩ := bindE H
                refine OW.call [enc8 x161] rfl Tryd.func40 (by kernel_rfl) (by kernel_rfl) (map_cons' rfl rfl) (token_tail.calls _ _ x161 z162 (HF.ten (V := [0]) (L := []) rfl)  hz162) ?_
                rintro _ w163 ⟨o164, rfl, s165⟩
                refine ⟨_, rfl, ?_⟩
                replace s165 := un_stepL (J := []) (L' := []) s165 rfl rfl
                replace hG := hG.step s165 rfl
                replace hB105 := hB105.step s165 rfl
                replace HF := HF.step s165 rfl
                refine WL.guardYes rfl rfl rfl ((show _ = Value.bool (decide (z135.1 > 999999999)) from rfl).trans (congrArg Value.bool c159)) ?_
                refine OW.ex rfl (ex_pick_t (v := .bool z162) ((show _ = Value.bool (decide (z130 < (a0.length : Int))) from rfl).trans (congrArg Value.bool c160)) rfl) ?_
                refine WL.ex rfl (ex_pick_f (v := .bool z162) ((show _ = Value.bool (decide (z135.1 > 999999999)) from rfl).trans (congrArg Value.bool c159)) rfl) ?_
                refine WL.nil ?_
                obtain rfl := Option.some.inj H
                exact ⟨_, HF, hB105, hG, rfl, rfl, rfl, rfl, rfl, rfl, rfl⟩
              ·
                refine WL.guardNo rfl rfl rfl ((show _ = Value.bool (decide (z130 < (a0.length : Int))) from rfl).trans (congrArg Value.bool c160)) ?_
                refine WL.guardNo rfl rfl rfl ((show _ = Value.bool (decide (z130 < (a0.length : Int))) from rfl).trans (congrArg Value.bool c160)) ?_
                refine WL.guardNo rfl rfl rfl ((show _ = Value.bool (decide (z130 < (a0.length : Int))) from rfl).trans (congrArg Value.bool c160)) ?_
                refine WL.guardNo rfl rfl rfl ((show _ = Value.bool (decide (z130 < (a0.length : Int))) from rfl).trans (congrArg Value.bool c160)) ?_
                refine WL.guardYes rfl rfl rfl ((show _ = Value.bool (decide (z135.1 > 999999999)) from rfl).trans (congrArg Value.bool c159)) ?_
                refine OW.ex rfl (ex_pick_f (v := .bool false) ((show _ = Value.bool (decide (z130 < (a0.length : Int))) from rfl).trans (congrArg Value.bool c160)) rfl) ?_
                refine WL.ex rfl (ex_pick_f (v := .bool false) ((show _ = Value.bool (decide (z135.1 > 999999999)) from rfl).trans (congrArg Value.bool c159)) rfl) ?_
                refine WL.nil ?_
                obtain rfl := Option.some.inj H
                exact ⟨_, HF, hB105, hG, rfl, rfl, rfl, rfl, rfl, rfl, rfl⟩
      ·
        refine WL.guardNo rfl rfl rfl ((show _ = Value.bool (decide (z130 > 1)) from rfl).trans (congrArg Value.bool c155)) ?_
        refine WL.guardNo rfl rfl rfl ((show _ = Value.bool (decide (z130 > 1)) from rfl).trans (congrArg Value.bool c155)) ?_
        refine WL.guardNo rfl rfl rfl ((show _ = Value.bool (decide (z130 > 1)) from rfl).trans (congrArg Value.bool c155)) ?_
        refine WL.ex rfl (ex_pick_f (v := .bool false) ((show _ = Value.bool (decide (z130 > 1)) from rfl).trans (congrArg Value.bool c155)) rfl) ?_
        refine WL.ex rfl (ex_move (v := .bool false) rfl) ?_
        refine WL.guardYes rfl rfl rfl rfl ?_
        refine OW.ex rfl (ex_move (v := v139) rfl) ?_
        refine WL.guardYes rfl rfl rfl rfl ?_
        refine OW.ex rfl (ex_errNeq (b := z135.2) rfl Tryd.underlying69 hE140) ?_
        refine WL.ex rfl (ex_pick_f (v := .bool z135.2) rfl rfl) ?_
        refine WL.ex rfl (ex_move (v := .bool z135.2) rfl) ?_
        rcases condE H with ⟨c166, H⟩ | ⟨c166, H⟩
        ·
          refine WL.guardNo rfl rfl rfl ((show _ = Value.bool z135.2 from rfl).trans (congrArg Value.bool c166)) ?_
          refine WL.guardNo rfl rfl rfl ((show _ = Value.bool z135.2 from rfl).trans (congrArg Value.bool c166)) ?_
          refine WL.ex rfl (ex_pick_t (v := .bool true) ((show _ = Value.bool z135.2 from rfl).trans (congrArg Value.bool c166)) rfl) ?_
          refine WL.ex rfl (ex_move (v := .bool true) rfl) ?_
          refine WL.guardNo rfl rfl rfl rfl ?_
          refine WL.guardNo rfl rfl rfl rfl ?_
          refine WL.guardNo rfl rfl rfl rfl ?_
          refine WL.guardNo rfl rfl rfl rfl ?_
          refine WL.guardNo rfl rfl rfl rfl ?_
          refine WL.guardUn rfl rfl rfl rfl ?_
          refine WL.guardUn rfl rfl rfl rfl ?_
          refine WL.guardUn rfl rfl rfl rfl ?_
          refine WL.guardUn rfl rfl rfl rfl ?_
          refine WL.guardNo rfl rfl rfl rfl ?_
          refine WL.ex rfl (ex_pick_t (v := .bool true) rfl rfl) ?_
          refine WL.nil ?_
          obtain rfl := Option.some.inj H
          exact ⟨_, HF, hB105, hG, rfl, rfl, rfl, rfl, rfl, rfl, rfl⟩
        ·
          refine WL.guardYes rfl rfl rfl ((show _ = Value.bool z135.2 from rfl).trans (congrArg Value.bool c166)) ?_
          refine OW.ex rfl (ex_move (v := .int .i64 z135.1) rfl) ?_
          refine WL.guardYes rfl rfl rfl ((show _ = Value.bool z135.2 from rfl).trans (congrArg Value.bool c166)) ?_
          refine OW.ex rfl (ex_bin (a := .int .i64 z135.1) (b := .int .i64 999999999) (v := .bool (decide (z135.1 > 999999999))) rfl rfl bin_gtr) ?_
          refine WL.ex rfl (ex_pick_f (v := .bool (decide (z135.1 > 999999999))) ((show _ = Value.bool z135.2 from rfl).trans (congrArg Value.bool c166)) rfl) ?_
          refine WL.ex rfl (ex_move (v := .bool (decide (z135.1 > 999999999))) rfl) ?_
          rcases condE H with ⟨c167, H⟩ | ⟨c167, H⟩
          ·
            refine WL.guardNo rfl rfl rfl ((show _ = Value.bool (decide (z135.1 > 999999999)) from rfl).trans (congrArg Value.bool c167)) ?_
            refine WL.guardNo rfl rfl rfl ((show _ = Value.bool (decide (z135.1 > 999999999)) from rfl).trans (congrArg Value.bool c167)) ?_
            refine WL.guardNo rfl rfl rfl ((show _ = Value.bool (decide (z135.1 > 999999999)) from rfl).trans (congrArg Value.bool c167)) ?_
            refine WL.guardNo rfl rfl rfl ((show _ = Value.bool (decide (z135.1 > 999999999)) from rfl).trans (congrArg Value.bool c167)) ?_
            refine WL.guardNo rfl rfl rfl ((show _ = Value.bool (decide (z135.1 > 999999999)) from rfl).trans (congrArg Value.bool c167)) ?_
            refine WL.guardUn rfl rfl rfl rfl ?_
            refine WL.guardUn rfl rfl rfl rfl ?_
            refine WL.guardUn rfl rfl rfl rfl ?_
            refine WL.guardUn rfl rfl rfl rfl ?_
            refine WL.guardNo rfl rfl rfl ((show _ = Value.bool (decide (z135.1 > 999999999)) from rfl).trans (congrArg Value.bool c167)) ?_
            refine WL.ex rfl (ex_pick_t (v := .bool true) ((show _ = Value.bool (decide (z135.1 > 999999999)) from rfl).trans (congrArg Value.bool c167)) rfl) ?_
            refine WL.nil ?_
            obtain rfl := Option.some.inj H
            exact ⟨_, HF, hB105, hG, rfl, rfl, rfl, rfl, rfl, rfl, rfl⟩
          ·
            refine WL.guardYes rfl rfl rfl ((show _ = Value.bool (decide (z135.1 > 999999999)) from rfl).trans (congrArg Value.bool c167)) ?_
            refine OW.ex rfl (ex_move (v := .int .i64 z130) rfl) ?_
            refine WL.guardYes rfl rfl rfl ((show _ = Value.bool (decide (z135.1 > 999999999)) from rfl).trans (congrArg Value.bool c167)) ?_
            refine OW.ex rfl (ex_move (v := encS a0) rfl) ?_
            refine WL.guardYes rfl rfl rfl ((show _ = Value.bool (decide (z135.1 > 999999999)) from rfl).trans (congrArg Value.bool c167)) ?_
            refine OW.ex rfl (ex_len_str (s := a0) rfl Tryd.underlying9) ?_
            refine WL.guardYes rfl rfl rfl ((show _ = Value.bool (decide (z135.1 > 999999999)) from rfl).trans (congrArg Value.bool c167)) ?_
            refine OW.ex rfl (ex_bin (a := .int .i64 z130) (b := .int .i64 (a0.length : Int)) (v := .bool (decide (z130 < (a0.length : Int)))) rfl rfl bin_lss) ?_
            refine WL.guardYes rfl rfl rfl ((show _ = Value.bool (decide (z135.1 > 999999999)) from rfl).trans (congrArg Value.bool c167)) ?_
            refine OW.ex rfl (ex_move (v := .bool (decide (z130 < (a0.length : Int)))) rfl) ?_
            rcases condE H with ⟨c168, H⟩ | ⟨c168, H⟩
            ·
              refine WL.guardYes rfl rfl rfl ((show _ = Value.bool (decide (z130 < (a0.length : Int))) from rfl).trans (congrArg Value.bool c168)) ?_
              refine OW.ex rfl (ex_move (v := encS a0) rfl) ?_
              refine WL.guardYes rfl rfl rfl ((show _ = Value.bool (decide (z130 < (a0.length : Int))) from rfl).trans (congrArg Value.bool c168)) ?_
              refine OW.ex rfl (ex_move (v := .int .i64 z130) rfl) ?_
              refine WL.guardYes rfl rfl rfl ((show _ = Value.bool (decide (z130 < (a0.length : Int))) from rfl).trans (congrArg Value.bool c168)) ?_
              obtain ⟨x169, hx169, H⟩ := bindE H
              refine OW.ex rfl (ex_index_str (i := z130) rfl rfl Tryd.underlying9 (ix_some hx169).1 (ix_some hx169).2.2) ?_
              refine WL.guardYes rfl rfl rfl ((show _ = Value.bool (decide (z130 < (a0.length : Int))) from rfl).trans (congrArg Value.bool c168)) ?_
              obtain ⟨z170, hz170, H⟩ := bindE H
              refine OW.call [enc8 x169] rfl Tryd.func40 (by kernel_rfl) (by kernel_rfl) (map_cons' rfl rfl) (token_tail.calls _ _ x169 z170 (HF.ten (V := [0]) (L := []) rfl)  hz170) ?_
              rintro _ w171 ⟨o172, rfl, s173⟩
              refine ⟨_, rfl, ?_⟩
              replace s173 := un_stepL (J := []) (L' := []) s173 rfl rfl
              replace hG := hG.step s173 rfl
              replace hB105 := hB105.step s173 rfl
              replace HF := HF.step s173 rfl
              refine WL.guardYes rfl rfl rfl ((show _ = Value.bool (decide (z135.1 > 999999999)) from rfl).trans (congrArg Value.bool c167)) ?_
              refine OW.ex rfl (ex_pick_t (v := .bool z170) ((show _ = Value.bool (decide (z130 < (a0.length : Int))) from rfl).trans (congrArg Value.bool c168)) rfl) ?_
              refine WL.ex rfl (ex_pick_f (v := .bool z170) ((show _ = Value.bool (decide (z135.1 > 999999999)) from rfl).trans (congrArg Value.bool c167)) rfl) ?_
              refine WL.nil ?_
              obtain rfl := Option.some.inj H
              exact ⟨_, HF, hB105, hG, rfl, rfl, rfl, rfl, rfl, rfl, rfl⟩
            ·
              refine WL.guardNo rfl rfl rfl ((show _ = Value.bool (decide (z130 < (a0.length : Int))) from rfl).trans (congrArg Value.bool c168)) ?_
              refine WL.guardNo rfl rfl rfl ((show _ = Value.bool (decide (z130 < (a0.length : Int))) from rfl).trans (congrArg Value.bool c168)) ?_
              refine WL.guardNo rfl rfl rfl ((show _ = Value.bool (decide (z130 < (a0.length : Int))) from rfl).trans (congrArg Value.bool c168)) ?_
              refine WL.guardNo rfl rfl rfl ((show _ = Value.bool (decide (z130 < (a0.length : Int))) from rfl).trans (congrArg Value.bool c168)) ?_
              refine WL.guardYes rfl rfl rfl ((show _ = Value.bool (decide (z135.1 > 999999999)) from rfl).trans (congrArg Value.bool c167)) ?_
              refine OW.ex rfl (ex_pick_f (v := .bool false) ((show _ = Value.bool (decide (z130 < (a0.length : Int))) from rfl).trans (congrArg Value.bool c168)) rfl) ?_
              refine WL.ex rfl (ex_pick_f (v := .bool false) ((show _ = Value.bool (decide (z135.1 > 999999999)) from rfl).trans (congrArg Value.bool c167)) rfl) ?_
              refine WL.nil ?_
              obtain rfl := Option.some.inj H
              exact ⟨_, HF, hB105, hG, rfl, rfl, rfl, rfl, rfl, rfl, rfl⟩
    ·
      refine WC.cond_f ((show _ = Value.bool z125 from rfl).trans (congrArg Value.bool c129)) ?_
      refine WC.skip ?_
      refine WC.seq ?_
      refine WC.seq ?_
      refine WC.region ?_
      refine WL.ex rfl (ex_move (v := encS a0) rfl) ?_
      obtain ⟨z174, hz174, H⟩ := bindE H
      refine WL.op rfl ?_
      refine OW.call [encS a0] rfl Tryd.func43 (by kernel_rfl) (by kernel_rfl) (map_cons' rfl rfl) (utf8_DecodeRuneInString.calls _ _ a0 z174 (HF.ten (V := [0]) (L := []) rfl) (Gl.vw (V := [0]) (L := []) hG rfl) hz174) ?_
      rintro _ w175 ⟨o176, rfl, s177⟩
      refine ⟨_, rfl, ?_⟩
      replace s177 := un_stepL (J := []) (L' := []) s177 rfl rfl
      replace hG := hG.step s177 rfl
      replace hB105 := hB105.step s177 rfl
      replace HF := HF.step s177 rfl
      refine WL.ex rfl (ex_move (v := .tuple #[.int .i32 z174.1, .int .i64 z174.2]) rfl) ?_
      refine WL.ex rfl (ex_extract (vs := #[.int .i32 z174.1, .int .i64 z174.2]) (v := .int .i32 z174.1) rfl rfl) ?_
      refine WL.ex rfl (ex_extract (vs := #[.int .i32 z174.1, .int .i64 z174.2]) (v := .int .i64 z174.2) rfl rfl) ?_
      refine WL.ex rfl (ex_assign (v := .int .i32 z174.1) rfl) ?_
      refine WL.ex rfl (ex_assign (v := .int .i64 z174.2) rfl) ?_
      refine WL.nil ?_
      refine WC.seq ?_
      refine WC.region ?_
      refine WL.ex rfl (ex_move (v := .int .i32 z174.1) rfl) ?_
      refine WL.nil ?_
      refine WC.block ?_
      refine WC.seq ?_
      refine WC.region ?_
      refine WL.ex rfl (ex_bin (a := .int .i32 z174.1) (b := .int .i32 8868) (v := .bool (z174.1 == 8868)) rfl rfl bin_eql) ?_
      refine WL.ex rfl (ex_assign (v := .bool (z174.1 == 8868)) rfl) ?_
      refine WL.nil ?_
      rcases condE H with ⟨c178, H⟩ | ⟨c178, H⟩
      ·
        refine WC.cond_t ((show _ = Value.bool (z174.1 == 8868) from rfl).trans (congrArg Value.bool c178)) ?_
        refine WC.seq ?_
        refine WC.region ?_
        refine WL.ex rfl (ex_build (cs := [.int .i64 1, encS ([116, 114, 117, 101] : List UInt8), .int .i64 (0 : Int), .int .i64 (0 : Int), .int .i64 (0 : Int), .int .i64 (0 : Int)]) [(0, 1), (1, 1), (2, 1), (3, 3)] [(0, .int .i64 1), (1, encS ([116, 114, 117, 101] : List UInt8))] [.int .i64 0, .string ⟨#[]⟩, .int .i64 0, .int .i64 0, .int .i64 0, .int .i64 0] Tryd.underlying37 zr37 rfl (by kernel_rfl) (evs_cons rfl (evs_cons rfl rfl)) rfl) ?_
        refine WL.ex rfl (ex_move (v := .int .i64 z174.2) rfl) ?_
        refine WL.op rfl ?_
        refine OW.store [.int .i64 1, encS ([116, 114, 117, 101] : List UInt8), .int .i64 (0 : Int), .int .i64 (0 : Int), .int .i64 (0 : Int), .int .i64 (0 : Int)] rfl (vs := [.int .i64 1, encS ([116, 114, 117, 101] : List UInt8), .int .i64 (0 : Int), .int .i64 (0 : Int), .int .i64 (0 : Int), .int .i64 (0 : Int)]) ((congrArg Value.cells (show ev _ _ = (.agg #[.int .i64 1, encS ([116, 114, 117, 101] : List UInt8), .int .i64 (0 : Int), .int .i64 (0 : Int), .int .i64 (0 : Int), .int .i64 (0 : Int)] : Value) from rfl)).trans rfl) sz37 hB105 (Nat.le_of_ble_eq_true rfl) (by intro u_ hu_; simp only [List.mem_cons, List.not_mem_nil, or_false] at hu_; rcases hu_ with rfl | rfl | rfl | rfl | rfl | rfl <;> first | rfl) rfl ?_
        intro w179 s180 hB181
        replace hG := hG.step s180 rfl
        replace HF := HF.step s180 rfl
        refine WL.ex rfl (ex_assign (v := .int .i64 z174.2) rfl) ?_
        refine WL.ex rfl (ex_assign (v := .int .i64 0) rfl) ?_
        refine WL.nil ?_
        refine WC.ret ?_
        obtain rfl := Option.some.inj H
        exact ⟨_, (.cell (.agg #[.int .i64 1, encS ([116, 114, 117, 101] : List UInt8), .int .i64 (0 : Int), .int .i64 (0 : Int), .int .i64 (0 : Int), .int .i64 (0 : Int)] : Value) rfl (run_loadN (cs := [.int .i64 1, encS ([116, 114, 117, 101] : List UInt8), .int .i64 (0 : Int), .int .i64 (0 : Int), .int .i64 (0 : Int), .int .i64 (0 : Int)]) Tryd.underlying37 rfl sz37 (hB181.cells rfl)) (.tmp (.int .i64 z174.2 : Value) rfl (.tmp (.int .i64 0 : Value) rfl .nil))), _, rfl, HF.out⟩
      ·
        refine WC.cond_f ((show _ = Value.bool (z174.1 == 8868) from rfl).trans (congrArg Value.bool c178)) ?_
        refine WC.seq ?_
        refine WC.region ?_
        refine WL.ex rfl (ex_bin (a := .int .i32 z174.1) (b := .int .i32 8869) (v := .bool (z174.1 == 8869)) rfl rfl bin_eql) ?_
        refine WL.ex rfl (ex_assign (v := .bool (z174.1 == 8869)) rfl) ?_
        refine WL.nil ?_
        rcases condE H with ⟨c182, H⟩ | ⟨c182, H⟩
        ·
          refine WC.cond_t ((show _ = Value.bool (z174.1 == 8869) from rfl).trans (congrArg Value.bool c182)) ?_
          refine WC.seq ?_
          refine WC.region ?_
          refine WL.ex rfl (ex_build (cs := [.int .i64 1, encS ([102, 97, 108, 115, 101] : List UInt8), .int .i64 (0 : Int), .int .i64 (0 : Int), .int .i64 (0 : Int), .int .i64 (0 : Int)]) [(0, 1), (1, 1), (2, 1), (3, 3)] [(0, .int .i64 1), (1, encS ([102, 97, 108, 115, 101] : List UInt8))] [.int .i64 0, .string ⟨#[]⟩, .int .i64 0, .int .i64 0, .int .i64 0, .int .i64 0] Tryd.underlying37 zr37 rfl (by kernel_rfl) (evs_cons rfl (evs_cons rfl rfl)) rfl) ?_
          refine WL.ex rfl (ex_move (v := .int .i64 z174.2) rfl) ?_
          refine WL.op rfl ?_
          refine OW.store [.int .i64 1, encS ([102, 97, 108, 115, 101] : List UInt8), .int .i64 (0 : Int), .int .i64 (0 : Int), .int .i64 (0 : Int), .int .i64 (0 : Int)] rfl (vs := [.int .i64 1, encS ([102, 97, 108, 115, 101] : List UInt8), .int .i64 (0 : Int), .int .i64 (0 : Int), .int .i64 (0 : Int), .int .i64 (0 : Int)]) ((congrArg Value.cells (show ev _ _ = (.agg #[.int .i64 1, encS ([102, 97, 108, 115, 101] : List UInt8), .int .i64 (0 : Int), .int .i64 (0 : Int), .int .i64 (0 : Int), .int .i64 (0 : Int)] : Value) from rfl)).trans rfl) sz37 hB105 (Nat.le_of_ble_eq_true rfl) (by intro u_ hu_; simp only [List.mem_cons, List.not_mem_nil, or_false] at hu_; rcases hu_ with rfl | rfl | rfl | rfl | rfl | rfl <;> first | rfl) rfl ?_
          intro w183 s184 hB185
          replace hG := hG.step s184 rfl
          replace HF := HF.step s184 rfl
          refine WL.ex rfl (ex_assign (v := .int .i64 z174.2) rfl) ?_
          refine WL.ex rfl (ex_assign (v := .int .i64 0) rfl) ?_
          refine WL.nil ?_
          refine WC.ret ?_
          obtain rfl := Option.some.inj H
          exact ⟨_, (.cell (.agg #[.int .i64 1, encS ([102, 97, 108, 115, 101] : List UInt8), .int .i64 (0 : Int), .int .i64 (0 : Int), .int .i64 (0 : Int), .int .i64 (0 : Int)] : Value) rfl (run_loadN (cs := [.int .i64 1, encS ([102, 97, 108, 115, 101] : List UInt8), .int .i64 (0 : Int), .int .i64 (0 : Int), .int .i64 (0 : Int), .int .i64 (0 : Int)]) Tryd.underlying37 rfl sz37 (hB185.cells rfl)) (.tmp (.int .i64 z174.2 : Value) rfl (.tmp (.int .i64 0 : Value) rfl .nil))), _, rfl, HF.out⟩
        ·
          refine WC.cond_f ((show _ = Value.bool (z174.1 == 8869) from rfl).trans (congrArg Value.bool c182)) ?_
          refine WC.skip ?_
          refine WC.seq ?_
          refine WC.region ?_
          refine WL.ex rfl (ex_move (v := encS a0) rfl) ?_
          obtain ⟨z186, hz186, H⟩ := bindE H
          refine WL.op rfl ?_
          refine OW.call [encS a0] rfl Tryd.func33 (by kernel_rfl) (by kernel_rfl) (map_cons' rfl rfl) (token_sign.calls k _ _ a0 z186 (HF.ten (V := [0]) (L := []) rfl) (Gl.vw (V := [0]) (L := []) hG rfl) hz186) ?_
          rintro _ w187 ⟨o188, rfl, s189⟩
          refine ⟨_, rfl, ?_⟩
          replace s189 := un_stepL (J := []) (L' := []) s189 rfl rfl
          replace hG := hG.step s189 rfl
          replace hB105 := hB105.step s189 rfl
          replace HF := HF.step s189 rfl
          refine WL.ex rfl (ex_move (v := .tuple #[encS z186.1, .int .i64 z186.2]) rfl) ?_
          refine WL.ex rfl (ex_extract (vs := #[encS z186.1, .int .i64 z186.2]) (v := encS z186.1) rfl rfl) ?_
          refine WL.ex rfl (ex_extract (vs := #[encS z186.1, .int .i64 z186.2]) (v := .int .i64 z186.2) rfl rfl) ?_
          refine WL.ex rfl (ex_assign (v := encS z186.1) rfl) ?_
          refine WL.ex rfl (ex_assign (v := .int .i64 z186.2) rfl) ?_
          refine WL.nil ?_
          refine WC.seq ?_
          refine WC.seq ?_
          refine WC.region ?_
          refine WL.ex rfl (ex_move (v := .int .i64 z186.2) rfl) ?_
          refine WL.ex rfl (ex_bin (a := .int .i64 z186.2) (b := .int .i64 0) (v := .bool (z186.2 == 0)) rfl rfl bin_eql) ?_
          refine WL.nil ?_
          rcases condE H with ⟨c190, H⟩ | ⟨c190, H⟩
          ·
            refine WC.cond_t ((show _ = Value.bool (z186.2 == 0) from rfl).trans (congrArg Value.bool c190)) ?_
            refine WC.seq ?_
            refine WC.region ?_
            refine WL.ex rfl (ex_build (cs := [.int .i64 (0 : Int), encS ([] : List UInt8), .int .i64 (0 : Int), .int .i64 (0 : Int), .int .i64 (0 : Int), .int .i64 (0 : Int)]) [(0, 1), (1, 1), (2, 1), (3, 3)] [] [.int .i64 0, .string ⟨#[]⟩, .int .i64 0, .int .i64 0, .int .i64 0, .int .i64 0] Tryd.underlying37 zr37 rfl (by kernel_rfl) rfl rfl) ?_
            refine WL.op rfl ?_
            refine OW.store [.int .i64 (0 : Int), encS ([] : List UInt8), .int .i64 (0 : Int), .int .i64 (0 : Int), .int .i64 (0 : Int), .int .i64 (0 : Int)] rfl (vs := [.int .i64 (0 : Int), encS ([] : List UInt8), .int .i64 (0 : Int), .int .i64 (0 : Int), .int .i64 (0 : Int), .int .i64 (0 : Int)]) ((congrArg Value.cells (show ev _ _ = (.agg #[.int .i64 (0 : Int), encS ([] : List UInt8), .int .i64 (0 : Int), .int .i64 (0 : Int), .int .i64 (0 : Int), .int .i64 (0 : Int)] : Value) from rfl)).trans rfl) sz37 hB105 (Nat.le_of_ble_eq_true rfl) (by intro u_ hu_; simp only [List.mem_cons, List.not_mem_nil, or_false] at hu_; rcases hu_ with rfl | rfl | rfl | rfl | rfl | rfl <;> first | rfl) rfl ?_
            intro w191 s192 hB193
            replace hG := hG.step s192 rfl
            replace HF := HF.step s192 rfl
            refine WL.ex rfl (ex_assign (v := .int .i64 0) rfl) ?_
            refine WL.ex rfl (ex_assign (v := .int .i64 20) rfl) ?_
            refine WL.nil ?_
            refine WC.ret ?_
            obtain rfl := Option.some.inj H
            exact ⟨_, (.cell (.agg #[.int .i64 (0 : Int), encS ([] : List UInt8), .int .i64 (0 : Int), .int .i64 (0 : Int), .int .i64 (0 : Int), .int .i64 (0 : Int)] : Value) rfl (run_loadN (cs := [.int .i64 (0 : Int), encS ([] : List UInt8), .int .i64 (0 : Int), .int .i64 (0 : Int), .int .i64 (0 : Int), .int .i64 (0 : Int)]) Tryd.underlying37 rfl sz37 (hB193.cells rfl)) (.tmp (.int .i64 0 : Value) rfl (.tmp (.int .i64 20 : Value) rfl .nil))), _, rfl, HF.out⟩
          ·
            refine WC.cond_f ((show _ = Value.bool (z186.2 == 0) from rfl).trans (congrArg Value.bool c190)) ?_
            refine WC.skip ?_
            refine WC.seq ?_
            refine WC.region ?_
            refine WL.ex rfl (ex_move (v := encS z186.1) rfl) ?_
            refine WL.ex rfl (ex_build (cs := [.int .i64 3, encS z186.1, .int .i64 (0 : Int), .int .i64 (0 : Int), .int .i64 (0 : Int), .int .i64 (0 : Int)]) [(0, 1), (1, 1), (2, 1), (3, 3)] [(0, .int .i64 3), (1, encS z186.1)] [.int .i64 0, .string ⟨#[]⟩, .int .i64 0, .int .i64 0, .int .i64 0, .int .i64 0] Tryd.underlying37 zr37 rfl (by kernel_rfl) (evs_cons rfl (evs_cons rfl rfl)) rfl) ?_
            refine WL.ex rfl (ex_move (v := .int .i64 z186.2) rfl) ?_
            refine WL.op rfl ?_
            refine OW.store [.int .i64 3, encS z186.1, .int .i64 (0 : Int), .int .i64 (0 : Int), .int .i64 (0 : Int), .int .i64 (0 : Int)] rfl (vs := [.int .i64 3, encS z186.1, .int .i64 (0 : Int), .int .i64 (0 : Int), .int .i64 (0 : Int), .int .i64 (0 : Int)]) ((congrArg Value.cells (show ev _ _ = (.agg #[.int .i64 3, encS z186.1, .int .i64 (0 : Int), .int .i64 (0 : Int), .int .i64 (0 : Int), .int .i64 (0 : Int)] : Value) from rfl)).trans rfl) sz37 hB105 (Nat.le_of_ble_eq_true rfl) (by intro u_ hu_; simp only [List.mem_cons, List.not_mem_nil, or_false] at hu_; rcases hu_ with rfl | rfl | rfl | rfl | rfl | rfl <;> first | rfl) rfl ?_
            intro w194 s195 hB196
            replace hG := hG.step s195 rfl
            replace HF := HF.step s195 rfl
            refine WL.ex rfl (ex_assign (v := .int .i64 z186.2) rfl) ?_
            refine WL.ex rfl (ex_assign (v := .int .i64 0) rfl) ?_
            refine WL.nil ?_
            refine WC.ret ?_
            obtain rfl := Option.some.inj H
            exact ⟨_, (.cell (.agg #[.int .i64 3, encS z186.1, .int .i64 (0 : Int), .int .i64 (0 : Int), .int .i64 (0 : Int), .int .i64 (0 : Int)] : Value) rfl (run_loadN (cs := [.int .i64 3, encS z186.1, .int .i64 (0 : Int), .int .i64 (0 : Int), .int .i64 (0 : Int), .int .i64 (0 : Int)]) Tryd.underlying37 rfl sz37 (hB196.cells rfl)) (.tmp (.int .i64 z186.2 : Value) rfl (.tmp (.int .i64 0 : Value) rfl .nil))), _, rfl, HF.out⟩

/-! ### token_Scan -/
set_option maxRecDepth 100000 in
theorem token_Scan.calls (k : Nat) (o0 : Tags) (w0 : World) (a0 : List UInt8) (r : (List T_api_Token) × T_api_Fault) (hO : ∀ b, b < w0.heap.size → o0 b < 10) (hG : Gl GG o0 w0) (H : token_Scan.f k a0 = some r) :
    Calls Tryd.prog 14 [encS a0].toArray w0 fun e_ w_ => ∃ (o_ : Tags) (rv0 : Value), e_ = .returned (one [rv0, .agg #[.int .i64 r.2.f_Code, .int .i64 r.2.f_At.f_Line, .int .i64 r.2.f_At.f_Col, .int .i64 r.2.f_At.f_Off]]) ∧ Step o0 w0 o_ w_ [] ∧ Own T_api_Token.rep 37 9 o_ w_ rv0 r.1 := by
  have HF := Fm.refl hO []
  unfold token_Scan.f at H
  refine SX.calls [encS a0] Tryd.func14 rfl rfl ?_
  rw [Tryd.ntmps14]
  refine WC.seq ?_
  refine WC.region ?_
  refine WL.ex rfl (ex_assign (v := .slice none ([] : List T_api_Token).length 0) rfl) ?_
  refine WL.op rfl ?_
  refine OW.alloc' [.int .i64 (0 : Int), .int .i64 (0 : Int), .int .i64 (0 : Int), .int .i64 (0 : Int)] 10 HF rfl zr31 rfl ?_
  intro o102 w103 b101 s104 hB105
  replace hG := hG.step s104 rfl
  replace HF := HF.step s104 rfl
  refine WL.nil ?_
  refine WC.seq ?_
  refine WC.region ?_
  refine WL.ex rfl (ex_move (v := encS a0) rfl) ?_
  refine WL.ex rfl (ex_build (cs := [.int .i64 1, .int .i64 1, .int .i64 (0 : Int)]) [(0, 1), (1, 1), (2, 1)] [(0, .int .i64 1), (1, .int .i64 1)] [.int .i64 0, .int .i64 0, .int .i64 0] Tryd.underlying23 zr23 rfl (by kernel_rfl) (evs_cons rfl (evs_cons rfl rfl)) rfl) ?_
  refine WL.ex rfl (ex_build (cs := [encS a0, .int .i64 1, .int .i64 1, .int .i64 (0 : Int)]) [(0, 1), (1, 3)] [(0, encS a0), (1, .agg #[.int .i64 1, .int .i64 1, .int .i64 (0 : Int)])] [.string ⟨#[]⟩, .int .i64 0, .int .i64 0, .int .i64 0] Tryd.underlying55 zr55 rfl (by kernel_rfl) (evs_cons rfl (evs_cons rfl rfl)) rfl) ?_
  refine WL.op rfl ?_
  refine OW.box' [encS a0, .int .i64 1, .int .i64 1, .int .i64 (0 : Int)] 11 HF rfl ((congrArg Value.cells (show ev _ _ = (.agg #[encS a0, .int .i64 1, .int .i64 1, .int .i64 (0 : Int)] : Value) from rfl)).trans rfl) ?_
  intro o107 w108 b106 s109 hB110
  replace hG := hG.step s109 rfl
  replace hB105 := hB105.step s109 rfl
  replace HF := HF.step s109 rfl
  refine WL.ex rfl (ex_assign (v := .pointer (some ⟨b106, 0, none⟩)) rfl) ?_
  refine WL.nil ?_
  refine WC.seq ?_
  refine WC.region ?_
  refine WL.ex rfl (ex_assign (v := .slice none ([] : List T_api_Token).length 0) rfl) ?_
  refine WL.nil ?_
  obtain ⟨z115, hz115, H⟩ := bindE H
  refine WC.for (fun k_ ρ_ w_ => ∃ (o_ : Tags) (x113 : (List T_api_Token)) (x114 : T_token_cursor) (v111 : Value), Fm o0 w0 o_ w_ [] ∧ Own T_api_Token.rep 37 16 o_ w_ v111 x113 ∧ Bk o_ w_ 10 b101 [.int .i64 (0 : Int), .int .i64 (0 : Int), .int .i64 (0 : Int), .int .i64 (0 : Int)] 31 ∧ Bk o_ w_ 11 b106 [encS x114.f_s, .int .i64 x114.f_at.f_Line, .int .i64 x114.f_at.f_Col, .int .i64 x114.f_at.f_Off] 55 ∧ Gl GG o_ w_ ∧ ρ_ 2 = .slice none ([] : List T_api_Token).length 0 ∧ ρ_ 3 = .pointer (some ⟨b101, 0, none⟩) ∧ ρ_ 4 = .pointer (some ⟨b106, 0, none⟩) ∧ ρ_ 5 = v111 ∧ token_Scan.l1 k k_ x113 x114 = some z115) k (fun ρ_ w_ => False) ⟨_, ([] : List T_api_Token), (⟨a0, (⟨1, 1, (0 : Int)⟩ : T_api_Spot)⟩ : T_token_cursor), _, HF, Own.nil, hB105, hB110, hG, rfl, rfl, rfl, rfl, hz115⟩ ?case116 ?_
  case case116 =>
    exact fun _ _ h_ => h_.elim
  have Ho117 := H
  rintro k118 ρ119 w120 ⟨o121, x113, x114, v111, HF, hO112, hB105, hB110, hG, s2_110, s3_110, s4_110, s5_113, H⟩
  cases k118 with
  | zero => cases H
  | succ k118 =>
  rw [token_Scan.l1.eq_2] at H
  refine WC.block ?_
  refine WC.seq ?_
  refine WC.region ?_
  refine WL.ex rfl (ex_move (v := .pointer (some ⟨b106, 0, none⟩)) s4_110) ?_
  obtain ⟨z122, hz122, H⟩ := bindE H
  refine WL.op rfl ?_
  refine OW.call [.pointer (some ⟨b106, 0, none⟩)] rfl Tryd.func26 (by kernel_rfl) (by kernel_rfl) (map_cons' rfl rfl) (token_cursor_space.calls k _ _ b106 x114 z122 (HF.ten (V := [0]) (L := [11]) rfl) (Bk.vw (V := [0]) (L := [11]) hB110 rfl) (Gl.vw (V := [0]) (L := [11]) hG rfl) hz122) ?_
  rintro _ w123 ⟨o124, rfl, s125, hB126⟩
  refine ⟨_, rfl, ?_⟩
  replace hB126 := Bk.unO (J := []) 0 hB126 s125 rfl rfl rfl
  replace s125 := un_stepL (J := []) (L' := [11]) s125 rfl rfl
  replace hO112 := hO112.step s125 rfl rfl
  replace hB105 := hB105.step s125 rfl
  replace hG := hG.step s125 rfl
  replace HF := HF.step s125 rfl
  refine WL.nil ?_
  refine WC.seq ?_
  refine WC.seq ?_
  refine WC.region ?_
  refine WL.ex rfl (ex_move (v := .pointer (some ⟨b106, 0, none⟩)) s4_110) ?_
  obtain ⟨z127, hz127, H⟩ := bindE H
  refine WL.op rfl ?_
  refine OW.call [.pointer (some ⟨b106, 0, none⟩)] rfl Tryd.func27 (by kernel_rfl) (by kernel_rfl) (map_cons' rfl rfl) (token_cursor_here.calls _ _ b106 z122 z127 (HF.ten (V := [0]) (L := [11]) rfl) (Bk.vw (V := [0]) (L := [11]) hB126 rfl) hz127) ?_
  rintro _ w128 ⟨o129, rfl, s130⟩
  refine ⟨_, rfl, ?_⟩
  replace s130 := un_stepL (J := []) (L' := []) s130 rfl rfl
  replace hO112 := hO112.step s130 rfl rfl
  replace hB105 := hB105.step s130 rfl
  replace hG := hG.step s130 rfl
  replace hB126 := hB126.step s130 rfl
  replace HF := HF.step s130 rfl
  refine WL.ex rfl (ex_bin (a := encS z127) (b := encS ([] : List UInt8)) (v := .bool (z127 == ([] : List UInt8))) rfl rfl bin_eql_str) ?_
  refine WL.nil ?_
  rcases condE H with ⟨c131, H⟩ | ⟨c131, H⟩
  ·
    refine WC.cond_t ((show _ = Value.bool (z127 == ([] : List UInt8)) from rfl).trans (congrArg Value.bool c131)) ?_
    refine WC.seq ?_
    refine WC.region ?_
    refine WL.ex rfl (ex_move (v := v111) s5_113) ?_
    refine WL.ex rfl (ex_move (v := .pointer (some ⟨b106, 0, none⟩)) s4_110) ?_
    refine WL.ex rfl (ex_nilCheck rfl) ?_
    refine WL.ex rfl (ex_fieldAddr rfl Tryd.underlying55 rfl sz23) ?_
    refine WL.ex rfl (ex_loadN (cs := [.int .i64 z122.f_at.f_Line, .int .i64 z122.f_at.f_Col, .int .i64 z122.f_at.f_Off]) rfl Tryd.underlying23 rfl sz23 (hB126.cells rfl)) ?_
    refine WL.ex rfl (ex_build (cs := [.int .i64 (0 : Int), encS ([] : List UInt8), .int .i64 (0 : Int), .int .i64 z122.f_at.f_Line, .int .i64 z122.f_at.f_Col, .int .i64 z122.f_at.f_Off]) [(0, 1), (1, 1), (2, 1), (3, 3)] [(3, .agg #[.int .i64 z122.f_at.f_Line, .int .i64 z122.f_at.f_Col, .int .i64 z122.f_at.f_Off])] [.int .i64 0, .string ⟨#[]⟩, .int .i64 0, .int .i64 0, .int .i64 0, .int .i64 0] Tryd.underlying37 zr37 rfl (by kernel_rfl) (evs_cons rfl rfl) rfl) ?_
    refine WL.op rfl ?_
    refine OW.row (r := T_api_Token.rep) (xs := [(⟨(0 : Int), ([] : List UInt8), (0 : Int), (⟨z122.f_at.f_Line, z122.f_at.f_Col, z122.f_at.f_Off⟩ : T_api_Spot)⟩ : T_api_Token)]) [(0, .agg #[.int .i64 (0 : Int), encS ([] : List UInt8), .int .i64 (0 : Int), .int .i64 z122.f_at.f_Line, .int .i64 z122.f_at.f_Col, .int .i64 z122.f_at.f_Off])] [[.int .i64 (0 : Int), encS ([] : List UInt8), .int .i64 (0 : Int), .int .i64 z122.f_at.f_Line, .int .i64 z122.f_at.f_Col, .int .i64 z122.f_at.f_Off]] 12 HF rfl Tryd.underlying28 sz37 zr37 rfl (evs_cons rfl rfl) rfl rfl ⟨(T_api_Token.mk' (⟨(0 : Int), ([] : List UInt8), (0 : Int), (⟨z122.f_at.f_Line, z122.f_at.f_Col, z122.f_at.f_Off⟩ : T_api_Spot)⟩ : T_api_Token) ), trivial⟩ rfl rfl rfl rfl ?_
    intro o132 w133 v135 s134 hO136
    replace hO112 := hO112.step s134 rfl rfl
    replace hB105 := hB105.step s134 rfl
    replace hG := hG.step s134 rfl
    replace hB126 := hB126.step s134 rfl
    replace HF := HF.step s134 rfl
    obtain ⟨A137, c138, q139_, _, q139⟩ := hO136.row
    obtain ⟨u140, hu140, H⟩ := bindE H
    refine WL.op rfl ?_
    refine OW.append (r := T_api_Token.rep) (E := 37) (i := 16) rfl Tryd.underlying28 inf37 rfl (by decide) (by decide) (by decide) rfl ((show _ = (v135 : Value) from rfl).trans q139_) hO112 q139 rfl (of_decide_eq_true (chk_true hu140)) ?_
    intro o141 w142 v143 s144 hO145
    replace hB105 := hB105.step s144 rfl
    replace hG := hG.step s144 rfl
    replace hB126 := hB126.step s144 rfl
    replace hO136 := hO136.step s144 rfl rfl
    replace HF := HF.step s144 rfl
    refine WL.ex rfl (ex_build (cs := [.int .i64 (0 : Int), .int .i64 (0 : Int), .int .i64 (0 : Int), .int .i64 (0 : Int)]) [(0, 1), (1, 3)] [] [.int .i64 0, .int .i64 0, .int .i64 0, .int .i64 0] Tryd.underlying31 zr31 rfl (by kernel_rfl) rfl rfl) ?_
    refine WL.ex rfl (ex_assign (v := v143) rfl) ?_
    refine WL.op rfl ?_
    refine OW.store [.int .i64 (0 : Int), .int .i64 (0 : Int), .int .i64 (0 : Int), .int .i64 (0 : Int)] s3_110 (vs := [.int .i64 (0 : Int), .int .i64 (0 : Int), .int .i64 (0 : Int), .int .i64 (0 : Int)]) ((congrArg Value.cells (show ev _ _ = (.agg #[.int .i64 (0 : Int), .int .i64 (0 : Int), .int .i64 (0 : Int), .int .i64 (0 : Int)] : Value) from rfl)).trans rfl) sz31 hB105 (Nat.le_of_ble_eq_true rfl) (by intro u_ hu_; simp only [List.mem_cons, List.not_mem_nil, or_false] at hu_; rcases hu_ with rfl | rfl | rfl | rfl <;> first | rfl) rfl ?_
    intro w146 s147 hB148
    replace hG := hG.step s147 rfl
    replace hB126 := hB126.step s147 rfl
    replace hO136 := hO136.step s147 rfl rfl
    replace hO145 := hO145.step s147 rfl rfl
    replace HF := HF.step s147 rfl
    refine WL.nil ?_
    refine WC.ret ?_
    obtain rfl := Option.some.inj H
    replace H := Ho117
    dsimp only at H
    obtain rfl := Option.some.inj H
    replace hO145 := Own.renTo (j := 9) hO145 rfl
    replace HF := HF.ren (i := 16) (j := 9) rfl
    exact ⟨_, (.tmp (v143 : Value) rfl (.cell (.agg #[.int .i64 (0 : Int), .int .i64 (0 : Int), .int .i64 (0 : Int), .int .i64 (0 : Int)] : Value) s3_110 (run_loadN (cs := [.int .i64 (0 : Int), .int .i64 (0 : Int), .int .i64 (0 : Int), .int .i64 (0 : Int)]) Tryd.underlying31 rfl sz31 (hB148.cells rfl)) .nil)), _, v143, rfl, HF.out, hO145⟩
  ·
    refine WC.cond_f ((show _ = Value.bool (z127 == ([] : List UInt8)) from rfl).trans (congrArg Value.bool c131)) ?_
    refine WC.skip ?_
    refine WC.seq ?_
    refine WC.region ?_
    refine WL.ex rfl (ex_move (v := .pointer (some ⟨b106, 0, none⟩)) s4_110) ?_
    obtain ⟨z149, hz149, H⟩ := bindE H
    refine WL.op rfl ?_
    refine OW.call [.pointer (some ⟨b106, 0, none⟩)] rfl Tryd.func27 (by kernel_rfl) (by kernel_rfl) (map_cons' rfl rfl) (token_cursor_here.calls _ _ b106 z122 z149 (HF.ten (V := [0]) (L := [11]) rfl) (Bk.vw (V := [0]) (L := [11]) hB126 rfl) hz149) ?_
    rintro _ w150 ⟨o151, rfl, s152⟩
    refine ⟨_, rfl, ?_⟩
    replace s152 := un_stepL (J := []) (L' := []) s152 rfl rfl
    replace hO112 := hO112.step s152 rfl rfl
    replace hB105 := hB105.step s152 rfl
    replace hG := hG.step s152 rfl
    replace hB126 := hB126.step s152 rfl
    replace HF := HF.step s152 rfl
    obtain ⟨z153, hz153, H⟩ := bindE H
    refine WL.op rfl ?_
    refine OW.call [encS z149] rfl Tryd.func28 (by kernel_rfl) (by kernel_rfl) (map_cons' rfl rfl) (token_word.calls k _ _ z149 z153 (HF.ten (V := [0]) (L := []) rfl) (Gl.vw (V := [0]) (L := []) hG rfl) hz153) ?_
    rintro _ w154 ⟨o155, rfl, s156⟩
    refine ⟨_, rfl, ?_⟩
    replace s156 := un_stepL (J := []) (L' := []) s156 rfl rfl
    replace hO112 := hO112.step s156 rfl rfl
    replace hB105 := hB105.step s156 rfl
    replace hG := hG.step s156 rfl
    replace hB126 := hB126.step s156 rfl
    replace HF := HF.step s156 rfl
    refine WL.ex rfl (ex_move (v := .tuple #[.agg #[.int .i64 z153.1.f_Kind, encS z153.1.f_Text, .int .i64 z153.1.f_Int, .int .i64 z153.1.f_At.f_Line, .int .i64 z153.1.f_At.f_Col, .int .i64 z153.1.f_At.f_Off], .int .i64 z153.2.1, .int .i64 z153.2.2]) rfl) ?_
    refine WL.ex rfl (ex_extract (vs := #[.agg #[.int .i64 z153.1.f_Kind, encS z153.1.f_Text, .int .i64 z153.1.f_Int, .int .i64 z153.1.f_At.f_Line, .int .i64 z153.1.f_At.f_Col, .int .i64 z153.1.f_At.f_Off], .int .i64 z153.2.1, .int .i64 z153.2.2]) (v := .agg #[.int .i64 z153.1.f_Kind, encS z153.1.f_Text, .int .i64 z153.1.f_Int, .int .i64 z153.1.f_At.f_Line, .int .i64 z153.1.f_At.f_Col, .int .i64 z153.1.f_At.f_Off]) rfl rfl) ?_
    refine WL.ex rfl (ex_extract (vs := #[.agg #[.int .i64 z153.1.f_Kind, encS z153.1.f_Text, .int .i64 z153.1.f_Int, .int .i64 z153.1.f_At.f_Line, .int .i64 z153.1.f_At.f_Col, .int .i64 z153.1.f_At.f_Off], .int .i64 z153.2.1, .int .i64 z153.2.2]) (v := .int .i64 z153.2.1) rfl rfl) ?_
    refine WL.ex rfl (ex_extract (vs := #[.agg #[.int .i64 z153.1.f_Kind, encS z153.1.f_Text, .int .i64 z153.1.f_Int, .int .i64 z153.1.f_At.f_Line, .int .i64 z153.1.f_At.f_Col, .int .i64 z153.1.f_At.f_Off], .int .i64 z153.2.1, .int .i64 z153.2.2]) (v := .int .i64 z153.2.2) rfl rfl) ?_
    refine WL.op rfl ?_
    refine OW.alloc' [.int .i64 (0 : Int), encS ([] : List UInt8), .int .i64 (0 : Int), .int .i64 (0 : Int), .int .i64 (0 : Int), .int .i64 (0 : Int)] 13 HF rfl zr37 rfl ?_
    intro o158 w159 b157 s160 hB161
    replace hO112 := hO112.step s160 rfl rfl
    replace hB105 := hB105.step s160 rfl
    replace hG := hG.step s160 rfl
    replace hB126 := hB126.step s160 rfl
    replace HF := HF.step s160 rfl
    refine WL.op rfl ?_
    refine OW.store [.int .i64 z153.1.f_Kind, encS z153.1.f_Text, .int .i64 z153.1.f_Int, .int .i64 z153.1.f_At.f_Line, .int .i64 z153.1.f_At.f_Col, .int .i64 z153.1.f_At.f_Off] rfl (vs := [.int .i64 z153.1.f_Kind, encS z153.1.f_Text, .int .i64 z153.1.f_Int, .int .i64 z153.1.f_At.f_Line, .int .i64 z153.1.f_At.f_Col, .int .i64 z153.1.f_At.f_Off]) ((congrArg Value.cells (show ev _ _ = (.agg #[.int .i64 z153.1.f_Kind, encS z153.1.f_Text, .int .i64 z153.1.f_Int, .int .i64 z153.1.f_At.f_Line, .int .i64 z153.1.f_At.f_Col, .int .i64 z153.1.f_At.f_Off] : Value) from rfl)).trans rfl) sz37 hB161 (Nat.le_of_ble_eq_true rfl) (by intro u_ hu_; simp only [List.mem_cons, List.not_mem_nil, or_false] at hu_; rcases hu_ with rfl | rfl | rfl | rfl | rfl | rfl <;> first | rfl) rfl ?_
    intro w162 s163 hB164
    replace hO112 := hO112.step s163 rfl rfl
    replace hB105 := hB105.step s163 rfl
    replace hG := hG.step s163 rfl
    replace hB126 := hB126.step s163 rfl
    replace HF := HF.step s163 rfl
    refine WL.ex rfl (ex_assign (v := .int .i64 z153.2.1) rfl) ?_
    refine WL.ex rfl (ex_assign (v := .int .i64 z153.2.2) rfl) ?_
    refine WL.nil ?_
    refine WC.seq ?_
    refine WC.seq ?_
    refine WC.region ?_
    refine WL.ex rfl (ex_move (v := .int .i64 z153.2.2) rfl) ?_
    refine WL.ex rfl (ex_bin (a := .int .i64 z153.2.2) (b := .int .i64 0) (v := .bool (z153.2.2 != 0)) rfl rfl bin_neq) ?_
    refine WL.nil ?_
    rcases condE H with ⟨c165, H⟩ | ⟨c165, H⟩
    ·
      refine WC.cond_t ((show _ = Value.bool (z153.2.2 != 0) from rfl).trans (congrArg Value.bool c165)) ?_
      refine WC.seq ?_
      refine WC.regionD' HF [10] 8 (by kernel_rfl) rfl ?_
      intro w166 s167
      replace hO112 := hO112.step s167 rfl rfl
      replace hB105 := hB105.step s167 rfl
      replace hG := hG.step s167 rfl
      replace hB126 := hB126.step s167 rfl
      replace hB164 := hB164.step s167 rfl
      replace HF := HF.step s167 rfl
      have hO112D := hO112
      have hB105D := hB105
      have hGD := hG
      have hB126D := hB126
      have hB164D := hB164
      have sR := HF.here [10]
      refine WA.norm (listed' := #[false, false, false, false, false, false, false, false]) (by kernel_rfl) ?_
      refine WA.ex 0 rfl (by kernel_rfl) (by kernel_rfl) (by kernel_rfl) rfl ⟨_, sR⟩ (fun w_ hS_ => ex_move (v := .int .i64 z153.2.2) rfl) ?_
      refine WA.norm (listed' := #[true, false, false, false, false, false, false, false]) (by kernel_rfl) ?_
      refine WA.ex 1 rfl (by kernel_rfl) (by kernel_rfl) (by kernel_rfl) rfl ⟨_, sR⟩ (fun w_ hS_ => ex_move (v := .pointer (some ⟨b106, 0, none⟩)) s4_110) ?_
      refine WA.norm (listed' := #[true, true, false, false, false, false, false, false]) (by kernel_rfl) ?_
      refine WA.ex 2 rfl (by kernel_rfl) (by kernel_rfl) (by kernel_rfl) rfl ⟨_, sR⟩ (fun w_ hS_ => ex_nilCheck rfl) ?_
      refine WA.norm (listed' := #[true, true, true, false, false, false, false, false]) (by kernel_rfl) ?_
      refine WA.ex 3 rfl (by kernel_rfl) (by kernel_rfl) (by kernel_rfl) rfl ⟨_, sR⟩ (fun w_ hS_ => ex_fieldAddr rfl Tryd.underlying55 rfl sz23) ?_
      refine WA.norm (listed' := #[true, true, true, true, false, false, false, false]) (by kernel_rfl) ?_
      refine WA.ex 4 rfl (by kernel_rfl) (by kernel_rfl) (by kernel_rfl) rfl ⟨_, sR⟩ (fun w_ hS_ => ex_loadN (cs := [.int .i64 z122.f_at.f_Line, .int .i64 z122.f_at.f_Col, .int .i64 z122.f_at.f_Off]) rfl Tryd.underlying23 rfl sz23 ((hB126D.step hS_.choose_spec rfl).cells rfl)) ?_
      refine WA.norm (listed' := #[true, true, true, true, true, false, false, false]) (by kernel_rfl) ?_
      refine WA.ex 5 rfl (by kernel_rfl) (by kernel_rfl) (by kernel_rfl) rfl ⟨_, sR⟩ (fun w_ hS_ => ex_build (cs := [.int .i64 z153.2.2, .int .i64 z122.f_at.f_Line, .int .i64 z122.f_at.f_Col, .int .i64 z122.f_at.f_Off]) [(0, 1), (1, 3)] [(0, .int .i64 z153.2.2), (1, .agg #[.int .i64 z122.f_at.f_Line, .int .i64 z122.f_at.f_Col, .int .i64 z122.f_at.f_Off])] [.int .i64 0, .int .i64 0, .int .i64 0, .int .i64 0] Tryd.underlying31 zr31 rfl (by kernel_rfl) (evs_cons rfl (evs_cons rfl rfl)) rfl) ?_
      refine WA.norm (listed' := #[true, true, true, true, true, true, false, false]) (by kernel_rfl) ?_
      refine WA.ex 6 rfl (by kernel_rfl) (by kernel_rfl) (by kernel_rfl) rfl ⟨_, sR⟩ (fun w_ hS_ => ex_assign (v := .slice none ([] : List T_api_Token).length 0) rfl) ?_
      refine WA.norm (listed' := #[true, true, true, true, true, true, true, false]) (by kernel_rfl) ?_
      refine WA.one 7 (by kernel_rfl) rfl rfl ?_
      refine OW.store [.int .i64 z153.2.2, .int .i64 z122.f_at.f_Line, .int .i64 z122.f_at.f_Col, .int .i64 z122.f_at.f_Off] s3_110 (vs := [.int .i64 z153.2.2, .int .i64 z122.f_at.f_Line, .int .i64 z122.f_at.f_Col, .int .i64 z122.f_at.f_Off]) ((congrArg Value.cells (show ev _ _ = (.agg #[.int .i64 z153.2.2, .int .i64 z122.f_at.f_Line, .int .i64 z122.f_at.f_Col, .int .i64 z122.f_at.f_Off] : Value) from rfl)).trans rfl) sz31 hB105 (Nat.le_of_ble_eq_true rfl) (by intro u_ hu_; simp only [List.mem_cons, List.not_mem_nil, or_false] at hu_; rcases hu_ with rfl | rfl | rfl | rfl <;> first | rfl) rfl ?_
      intro w168 s169 hB170
      replace hO112 := hO112.step s169 rfl rfl
      replace hG := hG.step s169 rfl
      replace hB126 := hB126.step s169 rfl
      replace hB164 := hB164.step s169 rfl
      replace HF := HF.step s169 rfl
      replace sR := Step.trans sR s169 (M := [10]) rfl rfl
      refine ⟨⟨_, sR⟩, ?_⟩
      refine WA.norm (listed' := #[true, true, true, true, true, true, true, true]) (by kernel_rfl) ?_
      refine WA.done (by kernel_rfl) ?_
      refine WC.ret ?_
      obtain rfl := Option.some.inj H
      replace H := Ho117
      dsimp only at H
      obtain rfl := Option.some.inj H
      exact ⟨_, (.tmp (.slice none ([] : List T_api_Token).length 0 : Value) rfl (.cell (.agg #[.int .i64 z153.2.2, .int .i64 z122.f_at.f_Line, .int .i64 z122.f_at.f_Col, .int .i64 z122.f_at.f_Off] : Value) s3_110 (run_loadN (cs := [.int .i64 z153.2.2, .int .i64 z122.f_at.f_Line, .int .i64 z122.f_at.f_Col, .int .i64 z122.f_at.f_Off]) Tryd.underlying31 rfl sz31 (hB170.cells rfl)) .nil)), _, (.slice none 0 0), rfl, HF.out, Own.nil⟩
    ·
      refine WC.cond_f ((show _ = Value.bool (z153.2.2 != 0) from rfl).trans (congrArg Value.bool c165)) ?_
      refine WC.skip ?_
      refine WC.seq ?_
      refine WC.region ?_
      refine WL.ex rfl (ex_move (v := .pointer (some ⟨b106, 0, none⟩)) s4_110) ?_
      refine WL.ex rfl (ex_nilCheck rfl) ?_
      refine WL.ex rfl (ex_fieldAddr rfl Tryd.underlying55 rfl sz23) ?_
      refine WL.ex rfl (ex_loadN (cs := [.int .i64 z122.f_at.f_Line, .int .i64 z122.f_at.f_Col, .int .i64 z122.f_at.f_Off]) rfl Tryd.underlying23 rfl sz23 (hB126.cells rfl)) ?_
      refine WL.ex rfl (ex_fieldAddr rfl Tryd.underlying37 rfl sz23) ?_
      refine WL.op rfl ?_
      refine OW.store [.int .i64 z153.1.f_Kind, encS z153.1.f_Text, .int .i64 z153.1.f_Int, .int .i64 z122.f_at.f_Line, .int .i64 z122.f_at.f_Col, .int .i64 z122.f_at.f_Off] rfl (vs := [.int .i64 z122.f_at.f_Line, .int .i64 z122.f_at.f_Col, .int .i64 z122.f_at.f_Off]) ((congrArg Value.cells (show ev _ _ = (.agg #[.int .i64 z122.f_at.f_Line, .int .i64 z122.f_at.f_Col, .int .i64 z122.f_at.f_Off] : Value) from rfl)).trans rfl) sz23 hB164 (Nat.le_of_ble_eq_true rfl) (by intro u_ hu_; simp only [List.mem_cons, List.not_mem_nil, or_false] at hu_; rcases hu_ with rfl | rfl | rfl <;> first | rfl) rfl ?_
      intro w171 s172 hB173
      replace hO112 := hO112.step s172 rfl rfl
      replace hB105 := hB105.step s172 rfl
      replace hG := hG.step s172 rfl
      replace hB126 := hB126.step s172 rfl
      replace HF := HF.step s172 rfl
      refine WL.nil ?_
      refine WC.seq ?_
      refine WC.region ?_
      refine WL.ex rfl (ex_move (v := v111) s5_113) ?_
      refine WL.ex rfl (ex_loadN (cs := [.int .i64 z153.1.f_Kind, encS z153.1.f_Text, .int .i64 z153.1.f_Int, .int .i64 z122.f_at.f_Line, .int .i64 z122.f_at.f_Col, .int .i64 z122.f_at.f_Off]) rfl Tryd.underlying37 rfl sz37 (hB173.cells rfl)) ?_
      refine WL.op rfl ?_
      refine OW.row (r := T_api_Token.rep) (xs := [(⟨z153.1.f_Kind, z153.1.f_Text, z153.1.f_Int, (⟨z122.f_at.f_Line, z122.f_at.f_Col, z122.f_at.f_Off⟩ : T_api_Spot)⟩ : T_api_Token)]) [(0, .agg #[.int .i64 z153.1.f_Kind, encS z153.1.f_Text, .int .i64 z153.1.f_Int, .int .i64 z122.f_at.f_Line, .int .i64 z122.f_at.f_Col, .int .i64 z122.f_at.f_Off])] [[.int .i64 z153.1.f_Kind, encS z153.1.f_Text, .int .i64 z153.1.f_Int, .int .i64 z122.f_at.f_Line, .int .i64 z122.f_at.f_Col, .int .i64 z122.f_at.f_Off]] 14 HF rfl Tryd.underlying28 sz37 zr37 rfl (evs_cons rfl rfl) rfl rfl ⟨(T_api_Token.mk' (⟨z153.1.f_Kind, z153.1.f_Text, z153.1.f_Int, (⟨z122.f_at.f_Line, z122.f_at.f_Col, z122.f_at.f_Off⟩ : T_api_Spot)⟩ : T_api_Token) ), trivial⟩ rfl rfl rfl rfl ?_
      intro o174 w175 v177 s176 hO178
      replace hO112 := hO112.step s176 rfl rfl
      replace hB105 := hB105.step s176 rfl
      replace hG := hG.step s176 rfl
      replace hB126 := hB126.step s176 rfl
      replace hB173 := hB173.step s176 rfl
      replace HF := HF.step s176 rfl
      obtain ⟨A179, c180, q181_, _, q181⟩ := hO178.row
      obtain ⟨u182, hu182, H⟩ := bindE H
      refine WL.op rfl ?_
      refine OW.append (r := T_api_Token.rep) (E := 37) (i := 16) rfl Tryd.underlying28 inf37 rfl (by decide) (by decide) (by decide) rfl ((show _ = (v177 : Value) from rfl).trans q181_) hO112 q181 rfl (of_decide_eq_true (chk_true hu182)) ?_
      intro o183 w184 v185 s186 hO187
      replace hB105 := hB105.step s186 rfl
      replace hG := hG.step s186 rfl
      replace hB126 := hB126.step s186 rfl
      replace hB173 := hB173.step s186 rfl
      replace hO178 := hO178.step s186 rfl rfl
      replace HF := HF.step s186 rfl
      refine WL.ex rfl (ex_assign (v := v185) rfl) ?_
      refine WL.nil ?_
      refine WC.region ?_
      refine WL.ex rfl (ex_move (v := .pointer (some ⟨b106, 0, none⟩)) s4_110) ?_
      refine WL.ex rfl (ex_move (v := .int .i64 z153.2.1) rfl) ?_
      obtain ⟨z188, hz188, H⟩ := bindE H
      refine WL.op rfl ?_
      refine OW.call [.pointer (some ⟨b106, 0, none⟩), .int .i64 z153.2.1] rfl Tryd.func29 (by kernel_rfl) (by kernel_rfl) (map_cons' rfl (map_cons' rfl rfl)) (token_cursor_skip.calls k _ _ b106 z122 z153.2.1 z188 (HF.ten (V := [0]) (L := [11]) rfl) (Bk.vw (V := [0]) (L := [11]) hB126 rfl) (Gl.vw (V := [0]) (L := [11]) hG rfl) hz188) ?_
      rintro _ w189 ⟨o190, rfl, s191, hB192⟩
      refine ⟨_, rfl, ?_⟩
      replace hB192 := Bk.unO (J := []) 0 hB192 s191 rfl rfl rfl
      replace s191 := un_stepL (J := []) (L' := [11]) s191 rfl rfl
      replace hB105 := hB105.step s191 rfl
      replace hG := hG.step s191 rfl
      replace hB173 := hB173.step s191 rfl
      replace hO178 := hO178.step s191 rfl rfl
      replace hO187 := hO187.step s191 rfl rfl
      replace HF := HF.step s191 rfl
      refine WL.nil ?_
      exact ⟨k118, Nat.lt_succ_self _, ⟨_, (x113 ++ [(⟨z153.1.f_Kind, z153.1.f_Text, z153.1.f_Int, (⟨z122.f_at.f_Line, z122.f_at.f_Col, z122.f_at.f_Off⟩ : T_api_Spot)⟩ : T_api_Token)]), z188, _, HF, hO187, hB105, hB192, hG, s2_110, s3_110, s4_110, rfl, H⟩⟩

/-! ### token_Name -/
set_option maxRecDepth 100000 in
theorem token_Name.calls (k : Nat) (o0 : Tags) (w0 : World) (a0 : List UInt8) (r : Bool) (hO : ∀ b, b < w0.heap.size → o0 b < 10) (hG : Gl GG o0 w0) (H : token_Name.f k a0 = some r) :
    Calls Tryd.prog 11 [encS a0].toArray w0 fun e_ w_ => ∃ (o_ : Tags), e_ = .returned (one [.bool r]) ∧ Step o0 w0 o_ w_ [] := by
  have HF := Fm.refl hO []
  unfold token_Name.f at H
  refine SX.calls [encS a0] Tryd.func11 rfl rfl ?_
  rw [Tryd.ntmps11]
  refine WC.seq ?_
  refine WC.region ?_
  refine WL.ex rfl (ex_assign (v := .bool false) rfl) ?_
  refine WL.nil ?_
  refine WC.seq ?_
  refine WC.region ?_
  refine WL.ex rfl (ex_move (v := encS a0) rfl) ?_
  obtain ⟨z101, hz101, H⟩ := bindE H
  refine WL.op rfl ?_
  refine OW.call [encS a0] rfl Tryd.func14 (by kernel_rfl) (by kernel_rfl) (map_cons' rfl rfl) (token_Scan.calls k _ _ a0 z101 (HF.ten (V := [0]) (L := []) rfl) (Gl.vw (V := [0]) (L := []) hG rfl) hz101) ?_
  rintro _ w102 ⟨o103, v105, rfl, s104, hO106⟩
  refine ⟨_, rfl, ?_⟩
  replace hO106 := Own.un9 (J := [10]) 0 hO106 rfl s104 rfl rfl
  replace s104 := un_stepL (J := [10]) (L' := []) s104 rfl rfl
  replace hG := hG.step s104 rfl
  replace HF := HF.step s104 rfl
  refine WL.ex rfl (ex_move (v := .tuple #[v105, .agg #[.int .i64 z101.2.f_Code, .int .i64 z101.2.f_At.f_Line, .int .i64 z101.2.f_At.f_Col, .int .i64 z101.2.f_At.f_Off]]) rfl) ?_
  refine WL.ex rfl (ex_extract (vs := #[v105, .agg #[.int .i64 z101.2.f_Code, .int .i64 z101.2.f_At.f_Line, .int .i64 z101.2.f_At.f_Col, .int .i64 z101.2.f_At.f_Off]]) (v := v105) rfl rfl) ?_
  refine WL.ex rfl (ex_extract (vs := #[v105, .agg #[.int .i64 z101.2.f_Code, .int .i64 z101.2.f_At.f_Line, .int .i64 z101.2.f_At.f_Col, .int .i64 z101.2.f_At.f_Off]]) (v := .agg #[.int .i64 z101.2.f_Code, .int .i64 z101.2.f_At.f_Line, .int .i64 z101.2.f_At.f_Col, .int .i64 z101.2.f_At.f_Off]) rfl rfl) ?_
  refine WL.op rfl ?_
  refine OW.alloc' [.int .i64 (0 : Int), .int .i64 (0 : Int), .int .i64 (0 : Int), .int .i64 (0 : Int)] 11 HF rfl zr31 rfl ?_
  intro o108 w109 b107 s110 hB111
  replace hG := hG.step s110 rfl
  replace hO106 := hO106.step s110 rfl rfl
  replace HF := HF.step s110 rfl
  refine WL.ex rfl (ex_assign (v := v105) rfl) ?_
  refine WL.op rfl ?_
  refine OW.store [.int .i64 z101.2.f_Code, .int .i64 z101.2.f_At.f_Line, .int .i64 z101.2.f_At.f_Col, .int .i64 z101.2.f_At.f_Off] rfl (vs := [.int .i64 z101.2.f_Code, .int .i64 z101.2.f_At.f_Line, .int .i64 z101.2.f_At.f_Col, .int .i64 z101.2.f_At.f_Off]) ((congrArg Value.cells (show ev _ _ = (.agg #[.int .i64 z101.2.f_Code, .int .i64 z101.2.f_At.f_Line, .int .i64 z101.2.f_At.f_Col, .int .i64 z101.2.f_At.f_Off] : Value) from rfl)).trans rfl) sz31 hB111 (Nat.le_of_ble_eq_true rfl) (by intro u_ hu_; simp only [List.mem_cons, List.not_mem_nil, or_false] at hu_; rcases hu_ with rfl | rfl | rfl | rfl <;> first | rfl) rfl ?_
  intro w112 s113 hB114
  replace hG := hG.step s113 rfl
  replace hO106 := hO106.step s113 rfl rfl
  replace HF := HF.step s113 rfl
  refine WL.nil ?_
  refine WC.seq ?_
  refine WC.region ?_
  refine WL.ex rfl (ex_loadN (cs := [.int .i64 z101.2.f_Code, .int .i64 z101.2.f_At.f_Line, .int .i64 z101.2.f_At.f_Col, .int .i64 z101.2.f_At.f_Off]) rfl Tryd.underlying31 rfl sz31 (hB114.cells rfl)) ?_
  refine WL.ex rfl (ex_build (cs := [.int .i64 (0 : Int), .int .i64 (0 : Int), .int .i64 (0 : Int), .int .i64 (0 : Int)]) [(0, 1), (1, 3)] [] [.int .i64 0, .int .i64 0, .int .i64 0, .int .i64 0] Tryd.underlying31 zr31 rfl (by kernel_rfl) rfl rfl) ?_
  refine WL.ex rfl (ex_bin (a := .agg #[.int .i64 z101.2.f_Code, .int .i64 z101.2.f_At.f_Line, .int .i64 z101.2.f_At.f_Col, .int .i64 z101.2.f_At.f_Off]) (b := .agg #[.int .i64 (0 : Int), .int .i64 (0 : Int), .int .i64 (0 : Int), .int .i64 (0 : Int)]) (v := .bool (T_api_Fault.eqb z101.2 (⟨(0 : Int), (⟨(0 : Int), (0 : Int), (0 : Int)⟩ : T_api_Spot)⟩ : T_api_Fault))) rfl rfl (bin_eql_agg (by kernel_rfl) (EqR.agg Tryd.underlying31 (by kernel_rfl) (EqF.cons (by decide) (PartR.one Tryd.underlying29 rfl rfl) (PartR.one Tryd.underlying29 rfl rfl) (EqR.int Tryd.underlying29) (EqF.cons (by decide) (PartR.many Tryd.underlying23 rfl sz23) (PartR.many Tryd.underlying23 rfl sz23) (EqR.agg Tryd.underlying23 (by kernel_rfl) (EqF.cons (by decide) (PartR.one Tryd.underlying3 rfl rfl) (PartR.one Tryd.underlying3 rfl rfl) (EqR.int Tryd.underlying3) (EqF.cons (by decide) (PartR.one Tryd.underlying3 rfl rfl) (PartR.one Tryd.underlying3 rfl rfl) (EqR.int Tryd.underlying3) (EqF.cons (by decide) (PartR.one Tryd.underlying3 rfl rfl) (PartR.one Tryd.underlying3 rfl rfl) (EqR.int Tryd.underlying3) EqF.nil)))) EqF.nil))))) ?_
  refine WL.ex rfl (ex_move (v := .bool (T_api_Fault.eqb z101.2 (⟨(0 : Int), (⟨(0 : Int), (0 : Int), (0 : Int)⟩ : T_api_Spot)⟩ : T_api_Fault))) rfl) ?_
  rcases condE H with ⟨c115, H⟩ | ⟨c115, H⟩
  ·
    refine WL.guardYes rfl rfl rfl ((show _ = Value.bool (T_api_Fault.eqb z101.2 (⟨(0 : Int), (⟨(0 : Int), (0 : Int), (0 : Int)⟩ : T_api_Spot)⟩ : T_api_Fault)) from rfl).trans (congrArg Value.bool c115)) ?_
    refine OW.ex rfl (ex_move (v := v105) rfl) ?_
    refine WL.guardYes rfl rfl rfl ((show _ = Value.bool (T_api_Fault.eqb z101.2 (⟨(0 : Int), (⟨(0 : Int), (0 : Int), (0 : Int)⟩ : T_api_Spot)⟩ : T_api_Fault)) from rfl).trans (congrArg Value.bool c115)) ?_
    obtain ⟨A116, c117, q118⟩ := hO106.slice
    refine OW.ex rfl (ex_len_slice ((show _ = (v105 : Value) from rfl).trans q118) Tryd.underlying28) ?_
    refine WL.guardYes rfl rfl rfl ((show _ = Value.bool (T_api_Fault.eqb z101.2 (⟨(0 : Int), (⟨(0 : Int), (0 : Int), (0 : Int)⟩ : T_api_Spot)⟩ : T_api_Fault)) from rfl).trans (congrArg Value.bool c115)) ?_
    refine OW.ex rfl (ex_bin (a := .int .i64 (z101.1.length : Int)) (b := .int .i64 2) (v := .bool ((z101.1.length : Int) == 2)) rfl rfl bin_eql) ?_
    refine WL.ex rfl (ex_pick_t (v := .bool ((z101.1.length : Int) == 2)) ((show _ = Value.bool (T_api_Fault.eqb z101.2 (⟨(0 : Int), (⟨(0 : Int), (0 : Int), (0 : Int)⟩ : T_api_Spot)⟩ : T_api_Fault)) from rfl).trans (congrArg Value.bool c115)) rfl) ?_
    refine WL.ex rfl (ex_move (v := .bool ((z101.1.length : Int) == 2)) rfl) ?_
    rcases condE H with ⟨c119, H⟩ | ⟨c119, H⟩
    ·
      refine WL.guardYes rfl rfl rfl ((show _ = Value.bool ((z101.1.length : Int) == 2) from rfl).trans (congrArg Value.bool c119)) ?_
      refine OW.ex rfl (ex_move (v := v105) rfl) ?_
      refine WL.guardYes rfl rfl rfl ((show _ = Value.bool ((z101.1.length : Int) == 2) from rfl).trans (congrArg Value.bool c119)) ?_
      obtain ⟨x120, hx120, H⟩ := bindE H
      obtain ⟨A125, c126, q127_⟩ := hO106.slice
      obtain ⟨ad121, cc128, e122, g123, g124, hl129, hR130, cell131⟩ := Row.ix (Own.rowOf hO106 q127_) hx120
      obtain rfl := T_api_Token.opn hR130
      refine OW.ex rfl (ex_indexAddr (i := (0 : Int)) ((show _ = (v105 : Value) from rfl).trans q127_) e122 rfl Tryd.underlying28 sz37 g123 g124) ?_
      refine WL.guardYes rfl rfl rfl ((show _ = Value.bool ((z101.1.length : Int) == 2) from rfl).trans (congrArg Value.bool c119)) ?_
      refine OW.ex rfl (ex_fieldAddr rfl Tryd.underlying37 rfl sz35) ?_
      refine WL.guardYes rfl rfl rfl ((show _ = Value.bool ((z101.1.length : Int) == 2) from rfl).trans (congrArg Value.bool c119)) ?_
      refine OW.ex rfl (ex_load1 (v := .int .i64 x120.f_Kind) rfl Tryd.underlying35 rfl (cell131 0 _ rfl)) ?_
      refine WL.guardYes rfl rfl rfl ((show _ = Value.bool ((z101.1.length : Int) == 2) from rfl).trans (congrArg Value.bool c119)) ?_
      refine OW.ex rfl (ex_bin (a := .int .i64 x120.f_Kind) (b := .int .i64 1) (v := .bool (x120.f_Kind == 1)) rfl rfl bin_eql) ?_
      refine WL.ex rfl (ex_pick_t (v := .bool (x120.f_Kind == 1)) ((show _ = Value.bool ((z101.1.length : Int) == 2) from rfl).trans (congrArg Value.bool c119)) rfl) ?_
      refine WL.ex rfl (ex_move (v := .bool (x120.f_Kind == 1)) rfl) ?_
      rcases condE H with ⟨c133, H⟩ | ⟨c133, H⟩
      ·
        refine WL.guardYes rfl rfl rfl ((show _ = Value.bool (x120.f_Kind == 1) from rfl).trans (congrArg Value.bool c133)) ?_
        refine OW.ex rfl (ex_move (v := v105) rfl) ?_
        refine WL.guardYes rfl rfl rfl ((show _ = Value.bool (x120.f_Kind == 1) from rfl).trans (congrArg Value.bool c133)) ?_
        obtain ⟨x134, hx134, H⟩ := bindE H
        obtain ⟨A139, c140, q141_⟩ := hO106.slice
        obtain ⟨ad135, cc142, e136, g137, g138, hl143, hR144, cell145⟩ := Row.ix (Own.rowOf hO106 q141_) hx134
        obtain rfl := T_api_Token.opn hR144
        refine OW.ex rfl (ex_indexAddr (i := (0 : Int)) ((show _ = (v105 : Value) from rfl).trans q141_) e136 rfl Tryd.underlying28 sz37 g137 g138) ?_
        refine WL.guardYes rfl rfl rfl ((show _ = Value.bool (x120.f_Kind == 1) from rfl).trans (congrArg Value.bool c133)) ?_
        refine OW.ex rfl (ex_fieldAddr rfl Tryd.underlying37 rfl sz9) ?_
        refine WL.guardYes rfl rfl rfl ((show _ = Value.bool (x120.f_Kind == 1) from rfl).trans (congrArg Value.bool c133)) ?_
        refine OW.ex rfl (ex_load1 (v := encS x134.f_Text) rfl Tryd.underlying9 rfl (cell145 1 _ rfl)) ?_
        refine WL.guardYes rfl rfl rfl ((show _ = Value.bool (x120.f_Kind == 1) from rfl).trans (congrArg Value.bool c133)) ?_
        refine OW.ex rfl (ex_move (v := encS a0) rfl) ?_
        refine WL.guardYes rfl rfl rfl ((show _ = Value.bool (x120.f_Kind == 1) from rfl).trans (congrArg Value.bool c133)) ?_
        refine OW.ex rfl (ex_bin (a := encS x134.f_Text) (b := encS a0) (v := .bool (x134.f_Text == a0)) rfl rfl bin_eql_str) ?_
        refine WL.ex rfl (ex_pick_t (v := .bool (x134.f_Text == a0)) ((show _ = Value.bool (x120.f_Kind == 1) from rfl).trans (congrArg Value.bool c133)) rfl) ?_
        refine WL.ex rfl (ex_assign (v := .bool (x134.f_Text == a0)) rfl) ?_
        refine WL.nil ?_
        refine WC.ret ?_
        obtain rfl := Option.some.inj H
        exact ⟨_, (.tmp (.bool (x134.f_Text == a0) : Value) rfl .nil), _, rfl, HF.out⟩
      ·
        refine WL.guardNo rfl rfl rfl ((show _ = Value.bool (x120.f_Kind == 1) from rfl).trans (congrArg Value.bool c133)) ?_
        refine WL.guardNo rfl rfl rfl ((show _ = Value.bool (x120.f_Kind == 1) from rfl).trans (congrArg Value.bool c133)) ?_
        refine WL.guardNo rfl rfl rfl ((show _ = Value.bool (x120.f_Kind == 1) from rfl).trans (congrArg Value.bool c133)) ?_
        refine WL.guardNo rfl rfl rfl ((show _ = Value.bool (x120.f_Kind == 1) from rfl).trans (congrArg Value.bool c133)) ?_
        refine WL.guardNo rfl rfl rfl ((show _ = Value.bool (x120.f_Kind == 1) from rfl).trans (congrArg Value.bool c133)) ?_
        refine WL.guardNo rfl rfl rfl ((show _ = Value.bool (x120.f_Kind == 1) from rfl).trans (congrArg Value.bool c133)) ?_
        refine WL.ex rfl (ex_pick_f (v := .bool false) ((show _ = Value.bool (x120.f_Kind == 1) from rfl).trans (congrArg Value.bool c133)) rfl) ?_
        refine WL.ex rfl (ex_assign (v := .bool false) rfl) ?_
        refine WL.nil ?_
        refine WC.ret ?_
        obtain rfl := Option.some.inj H
        exact ⟨_, (.tmp (.bool false : Value) rfl .nil), _, rfl, HF.out⟩
    ·
      refine WL.guardNo rfl rfl rfl ((show _ = Value.bool ((z101.1.length : Int) == 2) from rfl).trans (congrArg Value.bool c119)) ?_
      refine WL.guardNo rfl rfl rfl ((show _ = Value.bool ((z101.1.length : Int) == 2) from rfl).trans (congrArg Value.bool c119)) ?_
      refine WL.guardNo rfl rfl rfl ((show _ = Value.bool ((z101.1.length : Int) == 2) from rfl).trans (congrArg Value.bool c119)) ?_
      refine WL.guardNo rfl rfl rfl ((show _ = Value.bool ((z101.1.length : Int) == 2) from rfl).trans (congrArg Value.bool c119)) ?_
      refine WL.guardNo rfl rfl rfl ((show _ = Value.bool ((z101.1.length : Int) == 2) from rfl).trans (congrArg Value.bool c119)) ?_
      refine WL.ex rfl (ex_pick_f (v := .bool false) ((show _ = Value.bool ((z101.1.length : Int) == 2) from rfl).trans (congrArg Value.bool c119)) rfl) ?_
      refine WL.ex rfl (ex_move (v := .bool false) rfl) ?_
      refine WL.guardNo rfl rfl rfl rfl ?_
      refine WL.guardNo rfl rfl rfl rfl ?_
      refine WL.guardNo rfl rfl rfl rfl ?_
      refine WL.guardNo rfl rfl rfl rfl ?_
      refine WL.guardNo rfl rfl rfl rfl ?_
      refine WL.guardNo rfl rfl rfl rfl ?_
      refine WL.ex rfl (ex_pick_f (v := .bool false) rfl rfl) ?_
      refine WL.ex rfl (ex_assign (v := .bool false) rfl) ?_
      refine WL.nil ?_
      refine WC.ret ?_
      obtain rfl := Option.some.inj H
      exact ⟨_, (.tmp (.bool false : Value) rfl .nil), _, rfl, HF.out⟩
  ·
    refine WL.guardNo rfl rfl rfl ((show _ = Value.bool (T_api_Fault.eqb z101.2 (⟨(0 : Int), (⟨(0 : Int), (0 : Int), (0 : Int)⟩ : T_api_Spot)⟩ : T_api_Fault)) from rfl).trans (congrArg Value.bool c115)) ?_
    refine WL.guardNo rfl rfl rfl ((show _ = Value.bool (T_api_Fault.eqb z101.2 (⟨(0 : Int), (⟨(0 : Int), (0 : Int), (0 : Int)⟩ : T_api_Spot)⟩ : T_api_Fault)) from rfl).trans (congrArg Value.bool c115)) ?_
    refine WL.guardNo rfl rfl rfl ((show _ = Value.bool (T_api_Fault.eqb z101.2 (⟨(0 : Int), (⟨(0 : Int), (0 : Int), (0 : Int)⟩ : T_api_Spot)⟩ : T_api_Fault)) from rfl).trans (congrArg Value.bool c115)) ?_
    refine WL.ex rfl (ex_pick_f (v := .bool false) ((show _ = Value.bool (T_api_Fault.eqb z101.2 (⟨(0 : Int), (⟨(0 : Int), (0 : Int), (0 : Int)⟩ : T_api_Spot)⟩ : T_api_Fault)) from rfl).trans (congrArg Value.bool c115)) rfl) ?_
    refine WL.ex rfl (ex_move (v := .bool false) rfl) ?_
    refine WL.guardNo rfl rfl rfl rfl ?_
    refine WL.guardNo rfl rfl rfl rfl ?_
    refine WL.guardNo rfl rfl rfl rfl ?_
    refine WL.guardNo rfl rfl rfl rfl ?_
    refine WL.guardNo rfl rfl rfl rfl ?_
    refine WL.ex rfl (ex_pick_f (v := .bool false) rfl rfl) ?_
    refine WL.ex rfl (ex_move (v := .bool false) rfl) ?_
    refine WL.guardNo rfl rfl rfl rfl ?_
    refine WL.guardNo rfl rfl rfl rfl ?_
    refine WL.guardNo rfl rfl rfl rfl ?_
    refine WL.guardNo rfl rfl rfl rfl ?_
    refine WL.guardNo rfl rfl rfl rfl ?_
    refine WL.guardNo rfl rfl rfl rfl ?_
    refine WL.ex rfl (ex_pick_f (v := .bool false) rfl rfl) ?_
    refine WL.ex rfl (ex_assign (v := .bool false) rfl) ?_
    refine WL.nil ?_
    refine WC.ret ?_
    obtain rfl := Option.some.inj H
    exact ⟨_, (.tmp (.bool false : Value) rfl .nil), _, rfl, HF.out⟩

/-! ### dictumref02_letter -/
set_option maxRecDepth 100000 in
theorem dictumref02_letter.calls (o0 : Tags) (w0 : World) (a0 : UInt8) (r : Bool) (hO : ∀ b, b < w0.heap.size → o0 b < 10) (H : dictumref02_letter.f a0 = some r) :
    Calls Tryd.prog 24 [enc8 a0].toArray w0 fun e_ w_ => ∃ (o_ : Tags), e_ = .returned (one [.bool r]) ∧ Step o0 w0 o_ w_ [] := by
  have HF := Fm.refl hO []
  unfold dictumref02_letter.f at H
  refine SX.calls [enc8 a0] Tryd.func24 rfl rfl ?_
  rw [Tryd.ntmps24]
  refine WC.seq ?_
  refine WC.region ?_
  refine WL.ex rfl (ex_assign (v := .bool false) rfl) ?_
  refine WL.nil ?_
  refine WC.seq ?_
  refine WC.region ?_
  refine WL.ex rfl (ex_move (v := enc8 a0) rfl) ?_
  refine WL.ex rfl (ex_bin (a := enc8 a0) (b := enc8 (97 : UInt8)) (v := .bool (decide ((97 : UInt8) ≤ a0))) rfl rfl bin_geq_u8) ?_
  refine WL.ex rfl (ex_move (v := .bool (decide ((97 : UInt8) ≤ a0))) rfl) ?_
  rcases condE H with ⟨c101, H⟩ | ⟨c101, H⟩
  ·
    refine WL.guardYes rfl rfl rfl ((show _ = Value.bool (decide ((97 : UInt8) ≤ a0)) from rfl).trans (congrArg Value.bool c101)) ?_
    refine OW.ex rfl (ex_move (v := enc8 a0) rfl) ?_
    refine WL.guardYes rfl rfl rfl ((show _ = Value.bool (decide ((97 : UInt8) ≤ a0)) from rfl).trans (congrArg Value.bool c101)) ?_
    refine OW.ex rfl (ex_bin (a := enc8 a0) (b := enc8 (122 : UInt8)) (v := .bool (decide (a0 ≤ (122 : UInt8)))) rfl rfl bin_leq_u8) ?_
    refine WL.ex rfl (ex_pick_t (v := .bool (decide (a0 ≤ (122 : UInt8)))) ((show _ = Value.bool (decide ((97 : UInt8) ≤ a0)) from rfl).trans (congrArg Value.bool c101)) rfl) ?_
    refine WL.ex rfl (ex_move (v := .bool (decide (a0 ≤ (122 : UInt8)))) rfl) ?_
    rcases condE H with ⟨c102, H⟩ | ⟨c102, H⟩
    ·
      refine WL.guardNo rfl rfl rfl ((show _ = Value.bool (decide (a0 ≤ (122 : UInt8))) from rfl).trans (congrArg Value.bool c102)) ?_
      refine WL.guardNo rfl rfl rfl ((show _ = Value.bool (decide (a0 ≤ (122 : UInt8))) from rfl).trans (congrArg Value.bool c102)) ?_
      refine WL.guardNo rfl rfl rfl ((show _ = Value.bool (decide (a0 ≤ (122 : UInt8))) from rfl).trans (congrArg Value.bool c102)) ?_
      refine WL.guardUn rfl rfl rfl rfl ?_
      refine WL.guardUn rfl rfl rfl rfl ?_
      refine WL.guardNo rfl rfl rfl ((show _ = Value.bool (decide (a0 ≤ (122 : UInt8))) from rfl).trans (congrArg Value.bool c102)) ?_
      refine WL.ex rfl (ex_pick_t (v := .bool true) ((show _ = Value.bool (decide (a0 ≤ (122 : UInt8))) from rfl).trans (congrArg Value.bool c102)) rfl) ?_
      refine WL.ex rfl (ex_move (v := .bool true) rfl) ?_
      refine WL.guardNo rfl rfl rfl rfl ?_
      refine WL.guardNo rfl rfl rfl rfl ?_
      refine WL.ex rfl (ex_pick_t (v := .bool true) rfl rfl) ?_
      refine WL.ex rfl (ex_assign (v := .bool true) rfl) ?_
      refine WL.nil ?_
      refine WC.ret ?_
      obtain rfl := Option.some.inj H
      exact ⟨_, (.tmp (.bool true : Value) rfl .nil), _, rfl, HF.out⟩
    ·
      refine WL.guardYes rfl rfl rfl ((show _ = Value.bool (decide (a0 ≤ (122 : UInt8))) from rfl).trans (congrArg Value.bool c102)) ?_
      refine OW.ex rfl (ex_move (v := enc8 a0) rfl) ?_
      refine WL.guardYes rfl rfl rfl ((show _ = Value.bool (decide (a0 ≤ (122 : UInt8))) from rfl).trans (congrArg Value.bool c102)) ?_
      refine OW.ex rfl (ex_bin (a := enc8 a0) (b := enc8 (65 : UInt8)) (v := .bool (decide ((65 : UInt8) ≤ a0))) rfl rfl bin_geq_u8) ?_
      refine WL.guardYes rfl rfl rfl ((show _ = Value.bool (decide (a0 ≤ (122 : UInt8))) from rfl).trans (congrArg Value.bool c102)) ?_
      refine OW.ex rfl (ex_move (v := .bool (decide ((65 : UInt8) ≤ a0))) rfl) ?_
      rcases condE H with ⟨c103, H⟩ | ⟨c103, H⟩
      ·
        refine WL.guardYes rfl rfl rfl ((show _ = Value.bool (decide ((65 : UInt8) ≤ a0)) from rfl).trans (congrArg Value.bool c103)) ?_
        refine OW.ex rfl (ex_move (v := enc8 a0) rfl) ?_
        refine WL.guardYes rfl rfl rfl ((show _ = Value.bool (decide ((65 : UInt8) ≤ a0)) from rfl).trans (congrArg Value.bool c103)) ?_
        refine OW.ex rfl (ex_bin (a := enc8 a0) (b := enc8 (90 : UInt8)) (v := .bool (decide (a0 ≤ (90 : UInt8)))) rfl rfl bin_leq_u8) ?_
        refine WL.guardYes rfl rfl rfl ((show _ = Value.bool (decide (a0 ≤ (122 : UInt8))) from rfl).trans (congrArg Value.bool c102)) ?_
        refine OW.ex rfl (ex_pick_t (v := .bool (decide (a0 ≤ (90 : UInt8)))) ((show _ = Value.bool (decide ((65 : UInt8) ≤ a0)) from rfl).trans (congrArg Value.bool c103)) rfl) ?_
        refine WL.ex rfl (ex_pick_f (v := .bool (decide (a0 ≤ (90 : UInt8)))) ((show _ = Value.bool (decide (a0 ≤ (122 : UInt8))) from rfl).trans (congrArg Value.bool c102)) rfl) ?_
        refine WL.ex rfl (ex_move (v := .bool (decide (a0 ≤ (90 : UInt8)))) rfl) ?_
        rcases condE H with ⟨c104, H⟩ | ⟨c104, H⟩
        ·
          refine WL.guardNo rfl rfl rfl ((show _ = Value.bool (decide (a0 ≤ (90 : UInt8))) from rfl).trans (congrArg Value.bool c104)) ?_
          refine WL.guardNo rfl rfl rfl ((show _ = Value.bool (decide (a0 ≤ (90 : UInt8))) from rfl).trans (congrArg Value.bool c104)) ?_
          refine WL.ex rfl (ex_pick_t (v := .bool true) ((show _ = Value.bool (decide (a0 ≤ (90 : UInt8))) from rfl).trans (congrArg Value.bool c104)) rfl) ?_
          refine WL.ex rfl (ex_assign (v := .bool true) rfl) ?_
          refine WL.nil ?_
          refine WC.ret ?_
          obtain rfl := Option.some.inj H
          exact ⟨_, (.tmp (.bool true : Value) rfl .nil), _, rfl, HF.out⟩
        ·
          refine WL.guardYes rfl rfl rfl ((show _ = Value.bool (decide (a0 ≤ (90 : UInt8))) from rfl).trans (congrArg Value.bool c104)) ?_
          refine OW.ex rfl (ex_move (v := enc8 a0) rfl) ?_
          refine WL.guardYes rfl rfl rfl ((show _ = Value.bool (decide (a0 ≤ (90 : UInt8))) from rfl).trans (congrArg Value.bool c104)) ?_
          refine OW.ex rfl (ex_bin (a := enc8 a0) (b := enc8 (95 : UInt8)) (v := .bool (a0 == (95 : UInt8))) rfl rfl bin_eql_u8) ?_
          refine WL.ex rfl (ex_pick_f (v := .bool (a0 == (95 : UInt8))) ((show _ = Value.bool (decide (a0 ≤ (90 : UInt8))) from rfl).trans (congrArg Value.bool c104)) rfl) ?_
          refine WL.ex rfl (ex_assign (v := .bool (a0 == (95 : UInt8))) rfl) ?_
          refine WL.nil ?_
          refine WC.ret ?_
          obtain rfl := Option.some.inj H
          exact ⟨_, (.tmp (.bool (a0 == (95 : UInt8)) : Value) rfl .nil), _, rfl, HF.out⟩
      ·
        refine WL.guardNo rfl rfl rfl ((show _ = Value.bool (decide ((65 : UInt8) ≤ a0)) from rfl).trans (congrArg Value.bool c103)) ?_
        refine WL.guardNo rfl rfl rfl ((show _ = Value.bool (decide ((65 : UInt8) ≤ a0)) from rfl).trans (congrArg Value.bool c103)) ?_
        refine WL.guardYes rfl rfl rfl ((show _ = Value.bool (decide (a0 ≤ (122 : UInt8))) from rfl).trans (congrArg Value.bool c102)) ?_
        refine OW.ex rfl (ex_pick_f (v := .bool false) ((show _ = Value.bool (decide ((65 : UInt8) ≤ a0)) from rfl).trans (congrArg Value.bool c103)) rfl) ?_
        refine WL.ex rfl (ex_pick_f (v := .bool false) ((show _ = Value.bool (decide (a0 ≤ (122 : UInt8))) from rfl).trans (congrArg Value.bool c102)) rfl) ?_
        refine WL.ex rfl (ex_move (v := .bool false) rfl) ?_
        refine WL.guardYes rfl rfl rfl rfl ?_
        refine OW.ex rfl (ex_move (v := enc8 a0) rfl) ?_
        refine WL.guardYes rfl rfl rfl rfl ?_
        refine OW.ex rfl (ex_bin (a := enc8 a0) (b := enc8 (95 : UInt8)) (v := .bool (a0 == (95 : UInt8))) rfl rfl bin_eql_u8) ?_
        refine WL.ex rfl (ex_pick_f (v := .bool (a0 == (95 : UInt8))) rfl rfl) ?_
        refine WL.ex rfl (ex_assign (v := .bool (a0 == (95 : UInt8))) rfl) ?_
        refine WL.nil ?_
        refine WC.ret ?_
        obtain rfl := Option.some.inj H
        exact ⟨_, (.tmp (.bool (a0 == (95 : UInt8)) : Value) rfl .nil), _, rfl, HF.out⟩
  ·
    refine WL.guardNo rfl rfl rfl ((show _ = Value.bool (decide ((97 : UInt8) ≤ a0)) from rfl).trans (congrArg Value.bool c101)) ?_
    refine WL.guardNo rfl rfl rfl ((show _ = Value.bool (decide ((97 : UInt8) ≤ a0)) from rfl).trans (congrArg Value.bool c101)) ?_
    refine WL.ex rfl (ex_pick_f (v := .bool false) ((show _ = Value.bool (decide ((97 : UInt8) ≤ a0)) from rfl).trans (congrArg Value.bool c101)) rfl) ?_
    refine WL.ex rfl (ex_move (v := .bool false) rfl) ?_
    refine WL.guardYes rfl rfl rfl rfl ?_
    refine OW.ex rfl (ex_move (v := enc8 a0) rfl) ?_
    refine WL.guardYes rfl rfl rfl rfl ?_
    refine OW.ex rfl (ex_bin (a := enc8 a0) (b := enc8 (65 : UInt8)) (v := .bool (decide ((65 : UInt8) ≤ a0))) rfl rfl bin_geq_u8) ?_
    refine WL.guardYes rfl rfl rfl rfl ?_
    refine OW.ex rfl (ex_move (v := .bool (decide ((65 : UInt8) ≤ a0))) rfl) ?_
    rcases condE H with ⟨c105, H⟩ | ⟨c105, H⟩
    ·
      refine WL.guardYes rfl rfl rfl ((show _ = Value.bool (decide ((65 : UInt8) ≤ a0)) from rfl).trans (congrArg Value.bool c105)) ?_
      refine OW.ex rfl (ex_move (v := enc8 a0) rfl) ?_
      refine WL.guardYes rfl rfl rfl ((show _ = Value.bool (decide ((65 : UInt8) ≤ a0)) from rfl).trans (congrArg Value.bool c105)) ?_
      refine OW.ex rfl (ex_bin (a := enc8 a0) (b := enc8 (90 : UInt8)) (v := .bool (decide (a0 ≤ (90 : UInt8)))) rfl rfl bin_leq_u8) ?_
      refine WL.guardYes rfl rfl rfl rfl ?_
      refine OW.ex rfl (ex_pick_t (v := .bool (decide (a0 ≤ (90 : UInt8)))) ((show _ = Value.bool (decide ((65 : UInt8) ≤ a0)) from rfl).trans (congrArg Value.bool c105)) rfl) ?_
      refine WL.ex rfl (ex_pick_f (v := .bool (decide (a0 ≤ (90 : UInt8)))) rfl rfl) ?_
      refine WL.ex rfl (ex_move (v := .bool (decide (a0 ≤ (90 : UInt8)))) rfl) ?_
      rcases condE H with ⟨c106, H⟩ | ⟨c106, H⟩
      ·
        refine WL.guardNo rfl rfl rfl ((show _ = Value.bool (decide (a0 ≤ (90 : UInt8))) from rfl).trans (congrArg Value.bool c106)) ?_
        refine WL.guardNo rfl rfl rfl ((show _ = Value.bool (decide (a0 ≤ (90 : UInt8))) from rfl).trans (congrArg Value.bool c106)) ?_
        refine WL.ex rfl (ex_pick_t (v := .bool true) ((show _ = Value.bool (decide (a0 ≤ (90 : UInt8))) from rfl).trans (congrArg Value.bool c106)) rfl) ?_
        refine WL.ex rfl (ex_assign (v := .bool true) rfl) ?_
        refine WL.nil ?_
        refine WC.ret ?_
        obtain rfl := Option.some.inj H
        exact ⟨_, (.tmp (.bool true : Value) rfl .nil), _, rfl, HF.out⟩
      ·
        refine WL.guardYes rfl rfl rfl ((show _ = Value.bool (decide (a0 ≤ (90 : UInt8))) from rfl).trans (congrArg Value.bool c106)) ?_
        refine OW.ex rfl (ex_move (v := enc8 a0) rfl) ?_
        refine WL.guardYes rfl rfl rfl ((show _ = Value.bool (decide (a0 ≤ (90 : UInt8))) from rfl).trans (congrArg Value.bool c106)) ?_
        refine OW.ex rfl (ex_bin (a := enc8 a0) (b := enc8 (95 : UInt8)) (v := .bool (a0 == (95 : UInt8))) rfl rfl bin_eql_u8) ?_
        refine WL.ex rfl (ex_pick_f (v := .bool (a0 == (95 : UInt8))) ((show _ = Value.bool (decide (a0 ≤ (90 : UInt8))) from rfl).trans (congrArg Value.bool c106)) rfl) ?_
        refine WL.ex rfl (ex_assign (v := .bool (a0 == (95 : UInt8))) rfl) ?_
        refine WL.nil ?_
        refine WC.ret ?_
        obtain rfl := Option.some.inj H
        exact ⟨_, (.tmp (.bool (a0 == (95 : UInt8)) : Value) rfl .nil), _, rfl, HF.out⟩
    ·
      refine WL.guardNo rfl rfl rfl ((show _ = Value.bool (decide ((65 : UInt8) ≤ a0)) from rfl).trans (congrArg Value.bool c105)) ?_
      refine WL.guardNo rfl rfl rfl ((show _ = Value.bool (decide ((65 : UInt8) ≤ a0)) from rfl).trans (congrArg Value.bool c105)) ?_
      refine WL.guardYes rfl rfl rfl rfl ?_
      refine OW.ex rfl (ex_pick_f (v := .bool false) ((show _ = Value.bool (decide ((65 : UInt8) ≤ a0)) from rfl).trans (congrArg Value.bool c105)) rfl) ?_
      refine WL.ex rfl (ex_pick_f (v := .bool false) rfl rfl) ?_
      refine WL.ex rfl (ex_move (v := .bool false) rfl) ?_
      refine WL.guardYes rfl rfl rfl rfl ?_
      refine OW.ex rfl (ex_move (v := enc8 a0) rfl) ?_
      refine WL.guardYes rfl rfl rfl rfl ?_
      refine OW.ex rfl (ex_bin (a := enc8 a0) (b := enc8 (95 : UInt8)) (v := .bool (a0 == (95 : UInt8))) rfl rfl bin_eql_u8) ?_
      refine WL.ex rfl (ex_pick_f (v := .bool (a0 == (95 : UInt8))) rfl rfl) ?_
      refine WL.ex rfl (ex_assign (v := .bool (a0 == (95 : UInt8))) rfl) ?_
      refine WL.nil ?_
      refine WC.ret ?_
      obtain rfl := Option.some.inj H
      exact ⟨_, (.tmp (.bool (a0 == (95 : UInt8)) : Value) rfl .nil), _, rfl, HF.out⟩

/-! ### dictumref02_digit -/
set_option maxRecDepth 100000 in
theorem dictumref02_digit.calls (o0 : Tags) (w0 : World) (a0 : UInt8) (r : Bool) (hO : ∀ b, b < w0.heap.size → o0 b < 10) (H : dictumref02_digit.f a0 = some r) :
    Calls Tryd.prog 36 [enc8 a0].toArray w0 fun e_ w_ => ∃ (o_ : Tags), e_ = .returned (one [.bool r]) ∧ Step o0 w0 o_ w_ [] := by
  have HF := Fm.refl hO []
  unfold dictumref02_digit.f at H
  refine SX.calls [enc8 a0] Tryd.func36 rfl rfl ?_
  rw [Tryd.ntmps36]
  refine WC.seq ?_
  refine WC.region ?_
  refine WL.ex rfl (ex_assign (v := .bool false) rfl) ?_
  refine WL.nil ?_
  refine WC.seq ?_
  refine WC.region ?_
  refine WL.ex rfl (ex_move (v := enc8 a0) rfl) ?_
  refine WL.ex rfl (ex_bin (a := enc8 a0) (b := enc8 (48 : UInt8)) (v := .bool (decide ((48 : UInt8) ≤ a0))) rfl rfl bin_geq_u8) ?_
  refine WL.ex rfl (ex_move (v := .bool (decide ((48 : UInt8) ≤ a0))) rfl) ?_
  rcases condE H with ⟨c101, H⟩ | ⟨c101, H⟩
  ·
    refine WL.guardYes rfl rfl rfl ((show _ = Value.bool (decide ((48 : UInt8) ≤ a0)) from rfl).trans (congrArg Value.bool c101)) ?_
    refine OW.ex rfl (ex_move (v := enc8 a0) rfl) ?_
    refine WL.guardYes rfl rfl rfl ((show _ = Value.bool (decide ((48 : UInt8) ≤ a0)) from rfl).trans (congrArg Value.bool c101)) ?_
    refine OW.ex rfl (ex_bin (a := enc8 a0) (b := enc8 (57 : UInt8)) (v := .bool (decide (a0 ≤ (57 : UInt8)))) rfl rfl bin_leq_u8) ?_
    refine WL.ex rfl (ex_pick_t (v := .bool (decide (a0 ≤ (57 : UInt8)))) ((show _ = Value.bool (decide ((48 : UInt8) ≤ a0)) from rfl).trans (congrArg Value.bool c101)) rfl) ?_
    refine WL.ex rfl (ex_assign (v := .bool (decide (a0 ≤ (57 : UInt8)))) rfl) ?_
    refine WL.nil ?_
    refine WC.ret ?_
    obtain rfl := Option.some.inj H
    exact ⟨_, (.tmp (.bool (decide (a0 ≤ (57 : UInt8))) : Value) rfl .nil), _, rfl, HF.out⟩
  ·
    refine WL.guardNo rfl rfl rfl ((show _ = Value.bool (decide ((48 : UInt8) ≤ a0)) from rfl).trans (congrArg Value.bool c101)) ?_
    refine WL.guardNo rfl rfl rfl ((show _ = Value.bool (decide ((48 : UInt8) ≤ a0)) from rfl).trans (congrArg Value.bool c101)) ?_
    refine WL.ex rfl (ex_pick_f (v := .bool false) ((show _ = Value.bool (decide ((48 : UInt8) ≤ a0)) from rfl).trans (congrArg Value.bool c101)) rfl) ?_
    refine WL.ex rfl (ex_assign (v := .bool false) rfl) ?_
    refine WL.nil ?_
    refine WC.ret ?_
    obtain rfl := Option.some.inj H
    exact ⟨_, (.tmp (.bool false : Value) rfl .nil), _, rfl, HF.out⟩

/-! ### dictumref02_within -/
set_option maxRecDepth 100000 in
theorem dictumref02_within.calls (o0 : Tags) (w0 : World) (a0 : UInt8) (r : Bool) (hO : ∀ b, b < w0.heap.size → o0 b < 10) (H : dictumref02_within.f a0 = some r) :
    Calls Tryd.prog 25 [enc8 a0].toArray w0 fun e_ w_ => ∃ (o_ : Tags), e_ = .returned (one [.bool r]) ∧ Step o0 w0 o_ w_ [] := by
  have HF := Fm.refl hO []
  unfold dictumref02_within.f at H
  refine SX.calls [enc8 a0] Tryd.func25 rfl rfl ?_
  rw [Tryd.ntmps25]
  refine WC.seq ?_
  refine WC.region ?_
  refine WL.ex rfl (ex_assign (v := .bool false) rfl) ?_
  refine WL.nil ?_
  refine WC.seq ?_
  refine WC.region ?_
  refine WL.ex rfl (ex_move (v := enc8 a0) rfl) ?_
  obtain ⟨z101, hz101, H⟩ := bindE H
  refine WL.op rfl ?_
  refine OW.call [enc8 a0] rfl Tryd.func24 (by kernel_rfl) (by kernel_rfl) (map_cons' rfl rfl) (dictumref02_letter.calls _ _ a0 z101 (HF.ten (V := [0]) (L := []) rfl)  hz101) ?_
  rintro _ w102 ⟨o103, rfl, s104⟩
  refine ⟨_, rfl, ?_⟩
  replace s104 := un_stepL (J := []) (L' := []) s104 rfl rfl
  replace HF := HF.step s104 rfl
  refine WL.ex rfl (ex_move (v := .bool z101) rfl) ?_
  rcases condE H with ⟨c105, H⟩ | ⟨c105, H⟩
  ·
    refine WL.guardNo rfl rfl rfl ((show _ = Value.bool z101 from rfl).trans (congrArg Value.bool c105)) ?_
    refine WL.guardNo rfl rfl rfl ((show _ = Value.bool z101 from rfl).trans (congrArg Value.bool c105)) ?_
    refine WL.ex rfl (ex_pick_t (v := .bool true) ((show _ = Value.bool z101 from rfl).trans (congrArg Value.bool c105)) rfl) ?_
    refine WL.ex rfl (ex_move (v := .bool true) rfl) ?_
    refine WL.guardNo rfl rfl rfl rfl ?_
    refine WL.guardNo rfl rfl rfl rfl ?_
    refine WL.ex rfl (ex_pick_t (v := .bool true) rfl rfl) ?_
    refine WL.ex rfl (ex_assign (v := .bool true) rfl) ?_
    refine WL.nil ?_
    refine WC.ret ?_
    obtain rfl := Option.some.inj H
    exact ⟨_, (.tmp (.bool true : Value) rfl .nil), _, rfl, HF.out⟩
  ·
    refine WL.guardYes rfl rfl rfl ((show _ = Value.bool z101 from rfl).trans (congrArg Value.bool c105)) ?_
    refine OW.ex rfl (ex_move (v := enc8 a0) rfl) ?_
    refine WL.guardYes rfl rfl rfl ((show _ = Value.bool z101 from rfl).trans (congrArg Value.bool c105)) ?_
    obtain ⟨z106, hz106, H⟩ := bindE H
    refine OW.call [enc8 a0] rfl Tryd.func36 (by kernel_rfl) (by kernel_rfl) (map_cons' rfl rfl) (dictumref02_digit.calls _ _ a0 z106 (HF.ten (V := [0]) (L := []) rfl)  hz106) ?_
    rintro _ w107 ⟨o108, rfl, s109⟩
    refine ⟨_, rfl, ?_⟩
    replace s109 := un_stepL (J := []) (L' := []) s109 rfl rfl
    replace HF := HF.step s109 rfl
    refine WL.ex rfl (ex_pick_f (v := .bool z106) ((show _ = Value.bool z101 from rfl).trans (congrArg Value.bool c105)) rfl) ?_
    refine WL.ex rfl (ex_move (v := .bool z106) rfl) ?_
    rcases condE H with ⟨c110, H⟩ | ⟨c110, H⟩
    ·
      refine WL.guardNo rfl rfl rfl ((show _ = Value.bool z106 from rfl).trans (congrArg Value.bool c110)) ?_
      refine WL.guardNo rfl rfl rfl ((show _ = Value.bool z106 from rfl).trans (congrArg Value.bool c110)) ?_
      refine WL.ex rfl (ex_pick_t (v := .bool true) ((show _ = Value.bool z106 from rfl).trans (congrArg Value.bool c110)) rfl) ?_
      refine WL.ex rfl (ex_assign (v := .bool true) rfl) ?_
      refine WL.nil ?_
      refine WC.ret ?_
      obtain rfl := Option.some.inj H
      exact ⟨_, (.tmp (.bool true : Value) rfl .nil), _, rfl, HF.out⟩
    ·
      refine WL.guardYes rfl rfl rfl ((show _ = Value.bool z106 from rfl).trans (congrArg Value.bool c110)) ?_
      refine OW.ex rfl (ex_move (v := enc8 a0) rfl) ?_
      refine WL.guardYes rfl rfl rfl ((show _ = Value.bool z106 from rfl).trans (congrArg Value.bool c110)) ?_
      refine OW.ex rfl (ex_bin (a := enc8 a0) (b := enc8 (39 : UInt8)) (v := .bool (a0 == (39 : UInt8))) rfl rfl bin_eql_u8) ?_
      refine WL.ex rfl (ex_pick_f (v := .bool (a0 == (39 : UInt8))) ((show _ = Value.bool z106 from rfl).trans (congrArg Value.bool c110)) rfl) ?_
      refine WL.ex rfl (ex_assign (v := .bool (a0 == (39 : UInt8))) rfl) ?_
      refine WL.nil ?_
      refine WC.ret ?_
      obtain rfl := Option.some.inj H
      exact ⟨_, (.tmp (.bool (a0 == (39 : UInt8)) : Value) rfl .nil), _, rfl, HF.out⟩

/-! ### dictumref02_Name -/
set_option maxRecDepth 100000 in
theorem dictumref02_Name.calls (k : Nat) (o0 : Tags) (w0 : World) (a0 : List UInt8) (r : Bool) (hO : ∀ b, b < w0.heap.size → o0 b < 10) (H : dictumref02_Name.f k a0 = some r) :
    Calls Tryd.prog 12 [encS a0].toArray w0 fun e_ w_ => ∃ (o_ : Tags), e_ = .returned (one [.bool r]) ∧ Step o0 w0 o_ w_ [] := by
  have HF := Fm.refl hO []
  unfold dictumref02_Name.f at H
  refine SX.calls [encS a0] Tryd.func12 rfl rfl ?_
  rw [Tryd.ntmps12]
  refine WC.seq ?_
  refine WC.region ?_
  refine WL.ex rfl (ex_assign (v := .bool false) rfl) ?_
  refine WL.nil ?_
  refine WC.seq ?_
  obtain ⟨z102, hz102, H⟩ := bindE H
  refine WC.cut (fun ρ_ w_ => ∃ (o_ : Tags), Fm o0 w0 o_ w_ [] ∧ ρ_ 0 = encS a0 ∧ ρ_ 2 = .bool false ∧ ρ_ 17 = .bool z102) ?case103 ?_
  case case103 =>
    rintro ρ106 w104 ⟨o105, HF, s0_100, s2_100, s17_101⟩
    rcases condE H with ⟨c107, H⟩ | ⟨c107, H⟩
    ·
      refine WC.cond_t ((show _ = Value.bool z102 from s17_101).trans (congrArg Value.bool c107)) ?_
      refine WC.seq ?_
      refine WC.region ?_
      refine WL.ex rfl (ex_assign (v := .bool false) rfl) ?_
      refine WL.nil ?_
      refine WC.ret ?_
      obtain rfl := Option.some.inj H
      exact ⟨_, (.tmp (.bool false : Value) rfl .nil), _, rfl, HF.out⟩
    ·
      refine WC.cond_f ((show _ = Value.bool z102 from s17_101).trans (congrArg Value.bool c107)) ?_
      refine WC.skip ?_
      refine WC.seq ?_
      refine WC.seq ?_
      refine WC.region ?_
      refine WL.ex rfl (ex_assign (v := .int .i64 0) rfl) ?_
      refine WL.nil ?_
      obtain ⟨z109, hz109, H⟩ := bindE H
      refine WC.for (fun k_ ρ_ w_ => ∃ (o_ : Tags) (x108 : Int), Fm o0 w0 o_ w_ [] ∧ ρ_ 0 = encS a0 ∧ ρ_ 2 = .bool false ∧ ρ_ 3 = .int .i64 x108 ∧ dictumref02_Name.l1 k a0 k_ x108 = some z109) k (fun ρ_ w_ => ∃ (o_ : Tags), Fm o0 w0 o_ w_ [] ∧ ρ_ 2 = .bool false ∧ z109 = .inr ()) ⟨_, 0, HF, s0_100, s2_100, rfl, hz109⟩ ?case110 ?_
      case case110 =>
        rintro ρ125 w123 ⟨o124, HF, s2_108, rfl⟩
        dsimp only at H
        refine WC.seq ?_
        refine WC.region ?_
        refine WL.ex rfl (ex_assign (v := .bool true) rfl) ?_
        refine WL.nil ?_
        refine WC.ret ?_
        obtain rfl := Option.some.inj H
        exact ⟨_, (.tmp (.bool true : Value) rfl .nil), _, rfl, HF.out⟩
      have Ho111 := H
      rintro k112 ρ113 w114 ⟨o115, x108, HF, s0_107, s2_107, s3_108, H⟩
      cases k112 with
      | zero => cases H
      | succ k112 =>
      rw [dictumref02_Name.l1.eq_2] at H
      refine WC.seq ?_
      refine WC.seq ?_
      refine WC.region ?_
      refine WL.ex rfl (ex_move (v := .int .i64 x108) s3_108) ?_
      refine WL.ex rfl (ex_move (v := encS a0) s0_107) ?_
      refine WL.ex rfl (ex_len_str (s := a0) rfl Tryd.underlying9) ?_
      refine WL.ex rfl (ex_bin (a := .int .i64 x108) (b := .int .i64 (a0.length : Int)) (v := .bool (decide (x108 < (a0.length : Int)))) rfl rfl bin_lss) ?_
      refine WL.nil ?_
      rcases condE H with ⟨c116, H⟩ | ⟨c116, H⟩
      ·
        refine WC.cond_t ((show _ = Value.bool (decide (x108 < (a0.length : Int))) from rfl).trans (congrArg Value.bool c116)) ?_
        refine WC.skip ?_
        refine WC.seq ?_
        refine WC.block ?_
        refine WC.seq ?_
        refine WC.region ?_
        refine WL.ex rfl (ex_move (v := encS a0) s0_107) ?_
        refine WL.ex rfl (ex_move (v := .int .i64 x108) s3_108) ?_
        obtain ⟨x117, hx117, H⟩ := bindE H
        refine WL.ex rfl (ex_index_str (i := x108) rfl rfl Tryd.underlying9 (ix_some hx117).1 (ix_some hx117).2.2) ?_
        obtain ⟨z118, hz118, H⟩ := bindE H
        refine WL.op rfl ?_
        refine OW.call [enc8 x117] rfl Tryd.func25 (by kernel_rfl) (by kernel_rfl) (map_cons' rfl rfl) (dictumref02_within.calls _ _ x117 z118 (HF.ten (V := [0]) (L := []) rfl)  hz118) ?_
        rintro _ w119 ⟨o120, rfl, s121⟩
        refine ⟨_, rfl, ?_⟩
        replace s121 := un_stepL (J := []) (L' := []) s121 rfl rfl
        replace HF := HF.step s121 rfl
        refine WL.ex rfl (ex_not (b := z118) rfl) ?_
        refine WL.nil ?_
        rcases condE H with ⟨c122, H⟩ | ⟨c122, H⟩
        ·
          refine WC.cond_t ((show _ = Value.bool (!z118) from rfl).trans (congrArg Value.bool c122)) ?_
          refine WC.seq ?_
          refine WC.region ?_
          refine WL.ex rfl (ex_assign (v := .bool false) rfl) ?_
          refine WL.nil ?_
          refine WC.ret ?_
          obtain rfl := Option.some.inj H
          replace H := Ho111
          dsimp only at H
          obtain rfl := Option.some.inj H
          exact ⟨_, (.tmp (.bool false : Value) rfl .nil), _, rfl, HF.out⟩
        ·
          refine WC.cond_f ((show _ = Value.bool (!z118) from rfl).trans (congrArg Value.bool c122)) ?_
          refine WC.skip ?_
          refine WC.region ?_
          refine WL.ex rfl (ex_move (v := .int .i64 x108) s3_108) ?_
          refine WL.ex rfl (ex_bin (a := .int .i64 x108) (b := .int .i64 1) (v := .int .i64 (wrap64 (x108 + 1))) rfl rfl bin_add64) ?_
          refine WL.ex rfl (ex_assign (v := .int .i64 (wrap64 (x108 + 1))) rfl) ?_
          refine WL.nil ?_
          exact ⟨k112, Nat.lt_succ_self _, ⟨_, wrap64 (x108 + 1), HF, s0_107, s2_107, rfl, H⟩⟩
      ·
        refine WC.cond_f ((show _ = Value.bool (decide (x108 < (a0.length : Int))) from rfl).trans (congrArg Value.bool c116)) ?_
        refine WC.exit ?_
        obtain rfl := Option.some.inj H
        exact ⟨_, HF, s2_107, rfl⟩
  have Ho126 := H
  replace H := hz102
  refine WC.region ?_
  refine WL.ex rfl (ex_move (v := encS a0) rfl) ?_
  refine WL.ex rfl (ex_len_str (s := a0) rfl Tryd.underlying9) ?_
  refine WL.ex rfl (ex_bin (a := .int .i64 (a0.length : Int)) (b := .int .i64 0) (v := .bool ((a0.length : Int) == 0)) rfl rfl bin_eql) ?_
  refine WL.ex rfl (ex_move (v := .bool ((a0.length : Int) == 0)) rfl) ?_
  rcases condE H with ⟨c127, H⟩ | ⟨c127, H⟩
  ·
    refine WL.guardNo rfl rfl rfl ((show _ = Value.bool ((a0.length : Int) == 0) from rfl).trans (congrArg Value.bool c127)) ?_
    refine WL.guardNo rfl rfl rfl ((show _ = Value.bool ((a0.length : Int) == 0) from rfl).trans (congrArg Value.bool c127)) ?_
    refine WL.guardNo rfl rfl rfl ((show _ = Value.bool ((a0.length : Int) == 0) from rfl).trans (congrArg Value.bool c127)) ?_
    refine WL.ex rfl (ex_pick_t (v := .bool true) ((show _ = Value.bool ((a0.length : Int) == 0) from rfl).trans (congrArg Value.bool c127)) rfl) ?_
    refine WL.ex rfl (ex_move (v := .bool true) rfl) ?_
    refine WL.guardNo rfl rfl rfl rfl ?_
    refine WL.guardNo rfl rfl rfl rfl ?_
    refine WL.guardNo rfl rfl rfl rfl ?_
    refine WL.guardNo rfl rfl rfl rfl ?_
    refine WL.ex rfl (ex_pick_t (v := .bool true) rfl rfl) ?_
    refine WL.nil ?_
    obtain rfl := Option.some.inj H
    exact ⟨_, HF, rfl, rfl, rfl⟩
  ·
    refine WL.guardYes rfl rfl rfl ((show _ = Value.bool ((a0.length : Int) == 0) from rfl).trans (congrArg Value.bool c127)) ?_
    refine OW.ex rfl (ex_move (v := encS a0) rfl) ?_
    refine WL.guardYes rfl rfl rfl ((show _ = Value.bool ((a0.length : Int) == 0) from rfl).trans (congrArg Value.bool c127)) ?_
    refine OW.ex rfl (ex_len_str (s := a0) rfl Tryd.underlying9) ?_
    refine WL.guardYes rfl rfl rfl ((show _ = Value.bool ((a0.length : Int) == 0) from rfl).trans (congrArg Value.bool c127)) ?_
    refine OW.ex rfl (ex_bin (a := .int .i64 (a0.length : Int)) (b := .int .i64 31) (v := .bool (decide ((a0.length : Int) > 31))) rfl rfl bin_gtr) ?_
    refine WL.ex rfl (ex_pick_f (v := .bool (decide ((a0.length : Int) > 31))) ((show _ = Value.bool ((a0.length : Int) == 0) from rfl).trans (congrArg Value.bool c127)) rfl) ?_
    refine WL.ex rfl (ex_move (v := .bool (decide ((a0.length : Int) > 31))) rfl) ?_
    rcases condE H with ⟨c128, H⟩ | ⟨c128, H⟩
    ·
      refine WL.guardNo rfl rfl rfl ((show _ = Value.bool (decide ((a0.length : Int) > 31)) from rfl).trans (congrArg Value.bool c128)) ?_
      refine WL.guardNo rfl rfl rfl ((show _ = Value.bool (decide ((a0.length : Int) > 31)) from rfl).trans (congrArg Value.bool c128)) ?_
      refine WL.guardNo rfl rfl rfl ((show _ = Value.bool (decide ((a0.length : Int) > 31)) from rfl).trans (congrArg Value.bool c128)) ?_
      refine WL.guardNo rfl rfl rfl ((show _ = Value.bool (decide ((a0.length : Int) > 31)) from rfl).trans (congrArg Value.bool c128)) ?_
      refine WL.ex rfl (ex_pick_t (v := .bool true) ((show _ = Value.bool (decide ((a0.length : Int) > 31)) from rfl).trans (congrArg Value.bool c128)) rfl) ?_
      refine WL.nil ?_
      obtain rfl := Option.some.inj H
      exact ⟨_, HF, rfl, rfl, rfl⟩
    ·
      refine WL.guardYes rfl rfl rfl ((show _ = Value.bool (decide ((a0.length : Int) > 31)) from rfl).trans (congrArg Value.bool c128)) ?_
      refine OW.ex rfl (ex_move (v := encS a0) rfl) ?_
      refine WL.guardYes rfl rfl rfl ((show _ = Value.bool (decide ((a0.length : Int) > 31)) from rfl).trans (congrArg Value.bool c128)) ?_
      obtain ⟨x129, hx129, H⟩ := bindE H
      refine OW.ex rfl (ex_index_str (i := (0 : Int)) rfl rfl Tryd.underlying9 (ix_some hx129).1 (ix_some hx129).2.2) ?_
      refine WL.guardYes rfl rfl rfl ((show _ = Value.bool (decide ((a0.length : Int) > 31)) from rfl).trans (congrArg Value.bool c128)) ?_
      obtain ⟨z130, hz130, H⟩ := bindE H
      refine OW.call [enc8 x129] rfl Tryd.func24 (by kernel_rfl) (by kernel_rfl) (map_cons' rfl rfl) (dictumref02_letter.calls _ _ x129 z130 (HF.ten (V := [0]) (L := []) rfl)  hz130) ?_
      rintro _ w131 ⟨o132, rfl, s133⟩
      refine ⟨_, rfl, ?_⟩
      replace s133 := un_stepL (J := []) (L' := []) s133 rfl rfl
      replace HF := HF.step s133 rfl
      refine WL.guardYes rfl rfl rfl ((show _ = Value.bool (decide ((a0.length : Int) > 31)) from rfl).trans (congrArg Value.bool c128)) ?_
      refine OW.ex rfl (ex_not (b := z130) rfl) ?_
      refine WL.ex rfl (ex_pick_f (v := .bool (!z130)) ((show _ = Value.bool (decide ((a0.length : Int) > 31)) from rfl).trans (congrArg Value.bool c128)) rfl) ?_
      refine WL.nil ?_
      obtain rfl := Option.some.inj H
      exact ⟨_, HF, rfl, rfl, rfl⟩


/-! ### strconv.Itoa -/
theorem strconv_Itoa.calls (o0 : Tags) (w0 : World) (a0 : Int) (r : List UInt8) (hO : ∀ b, b < w0.heap.size → o0 b < 10) (hG : Gl GG o0 w0) (H : strconv_Itoa.f a0 = some r) :
    Calls Tryd.prog 32 [.int .i64 a0].toArray w0 fun e_ w_ => ∃ (o_ : Tags), e_ = .returned (one [encS r]) ∧ Step o0 w0 o_ w_ [] := by
  unfold strconv_Itoa.f at H
  obtain ⟨u, hu, H⟩ := bindE H
  obtain rfl := Option.some.inj H
  have hu' := chk_true hu
  simp only [Bool.and_eq_true, decide_eq_true_eq] at hu'
  refine Calls.mono (Tryd.strconv_Itoa a0 hu'.1 hu'.2 w0 hG.2.2.1) ?_
  rintro e w ⟨rfl, k, os, rfl⟩
  exact ⟨o0, rfl, grow_step o0 w0 k os⟩

/-! ### token_Write -/
set_option maxRecDepth 100000 in
theorem token_Write.calls (k : Nat) (o0 : Tags) (w0 : World) (a0 : T_api_Token) (r : (List UInt8) × Int) (hO : ∀ b, b < w0.heap.size → o0 b < 10) (hG : Gl GG o0 w0) (H : token_Write.f k a0 = some r) :
    Calls Tryd.prog 17 [.agg #[.int .i64 a0.f_Kind, encS a0.f_Text, .int .i64 a0.f_Int, .int .i64 a0.f_At.f_Line, .int .i64 a0.f_At.f_Col, .int .i64 a0.f_At.f_Off]].toArray w0 fun e_ w_ => ∃ (o_ : Tags), e_ = .returned (one [encS r.1, .int .i64 r.2]) ∧ Step o0 w0 o_ w_ [] := by
  have HF := Fm.refl hO []
  unfold token_Write.f at H
  refine SX.calls [.agg #[.int .i64 a0.f_Kind, encS a0.f_Text, .int .i64 a0.f_Int, .int .i64 a0.f_At.f_Line, .int .i64 a0.f_At.f_Col, .int .i64 a0.f_At.f_Off]] Tryd.func17 rfl rfl ?_
  rw [Tryd.ntmps17]
  refine WC.seq ?_
  refine WC.region ?_
  refine WL.op rfl ?_
  refine OW.box' [.int .i64 a0.f_Kind, encS a0.f_Text, .int .i64 a0.f_Int, .int .i64 a0.f_At.f_Line, .int .i64 a0.f_At.f_Col, .int .i64 a0.f_At.f_Off] 10 HF rfl ((congrArg Value.cells (show ev _ _ = (.agg #[.int .i64 a0.f_Kind, encS a0.f_Text, .int .i64 a0.f_Int, .int .i64 a0.f_At.f_Line, .int .i64 a0.f_At.f_Col, .int .i64 a0.f_At.f_Off] : Value) from rfl)).trans rfl) ?_
  intro o102 w103 b101 s104 hB105
  replace hG := hG.step s104 rfl
  replace HF := HF.step s104 rfl
  refine WL.ex rfl (ex_assign (v := encS ([] : List UInt8)) rfl) ?_
  refine WL.ex rfl (ex_assign (v := .int .i64 0) rfl) ?_
  refine WL.nil ?_
  refine WC.seq ?_
  refine WC.region ?_
  refine WL.ex rfl (ex_build (cs := [.int .i64 (0 : Int), .int .i64 (0 : Int), .int .i64 (0 : Int)]) [(0, 1), (1, 1), (2, 1)] [] [.int .i64 0, .int .i64 0, .int .i64 0] Tryd.underlying23 zr23 rfl (by kernel_rfl) rfl rfl) ?_
  refine WL.ex rfl (ex_fieldAddr rfl Tryd.underlying37 rfl sz23) ?_
  refine WL.op rfl ?_
  refine OW.store [.int .i64 a0.f_Kind, encS a0.f_Text, .int .i64 a0.f_Int, .int .i64 (0 : Int), .int .i64 (0 : Int), .int .i64 (0 : Int)] rfl (vs := [.int .i64 (0 : Int), .int .i64 (0 : Int), .int .i64 (0 : Int)]) ((congrArg Value.cells (show ev _ _ = (.agg #[.int .i64 (0 : Int), .int .i64 (0 : Int), .int .i64 (0 : Int)] : Value) from rfl)).trans rfl) sz23 hB105 (Nat.le_of_ble_eq_true rfl) (by intro u_ hu_; simp only [List.mem_cons, List.not_mem_nil, or_false] at hu_; rcases hu_ with rfl | rfl | rfl <;> first | rfl) rfl ?_
  intro w106 s107 hB108
  replace hG := hG.step s107 rfl
  replace HF := HF.step s107 rfl
  refine WL.nil ?_
  refine WC.seq ?_
  refine WC.seq ?_
  refine WC.region ?_
  refine WL.ex rfl (ex_loadN (cs := [.int .i64 a0.f_Kind, encS a0.f_Text, .int .i64 a0.f_Int, .int .i64 (0 : Int), .int .i64 (0 : Int), .int .i64 (0 : Int)]) rfl Tryd.underlying37 rfl sz37 (hB108.cells rfl)) ?_
  refine WL.nil ?_
  refine WC.block ?_
  refine WC.seq ?_
  refine WC.region ?_
  refine WL.ex rfl (ex_build (cs := [.int .i64 (0 : Int), encS ([] : List UInt8), .int .i64 (0 : Int), .int .i64 (0 : Int), .int .i64 (0 : Int), .int .i64 (0 : Int)]) [(0, 1), (1, 1), (2, 1), (3, 3)] [] [.int .i64 0, .string ⟨#[]⟩, .int .i64 0, .int .i64 0, .int .i64 0, .int .i64 0] Tryd.underlying37 zr37 rfl (by kernel_rfl) rfl rfl) ?_
  refine WL.ex rfl (ex_bin (a := .agg #[.int .i64 a0.f_Kind, encS a0.f_Text, .int .i64 a0.f_Int, .int .i64 (0 : Int), .int .i64 (0 : Int), .int .i64 (0 : Int)]) (b := .agg #[.int .i64 (0 : Int), encS ([] : List UInt8), .int .i64 (0 : Int), .int .i64 (0 : Int), .int .i64 (0 : Int), .int .i64 (0 : Int)]) (v := .bool (T_api_Token.eqb (⟨a0.f_Kind, a0.f_Text, a0.f_Int, (⟨(0 : Int), (0 : Int), (0 : Int)⟩ : T_api_Spot)⟩ : T_api_Token) (⟨(0 : Int), ([] : List UInt8), (0 : Int), (⟨(0 : Int), (0 : Int), (0 : Int)⟩ : T_api_Spot)⟩ : T_api_Token))) rfl rfl (bin_eql_agg (by kernel_rfl) (EqR.agg Tryd.underlying37 (by kernel_rfl) (EqF.cons (by decide) (PartR.one Tryd.underlying35 rfl rfl) (PartR.one Tryd.underlying35 rfl rfl) (EqR.int Tryd.underlying35) (EqF.cons (by decide) (PartR.one Tryd.underlying9 rfl rfl) (PartR.one Tryd.underlying9 rfl rfl) (EqR.str Tryd.underlying9) (EqF.cons (by decide) (PartR.one Tryd.underlying3 rfl rfl) (PartR.one Tryd.underlying3 rfl rfl) (EqR.int Tryd.underlying3) (EqF.cons (by decide) (PartR.many Tryd.underlying23 rfl sz23) (PartR.many Tryd.underlying23 rfl sz23) (EqR.agg Tryd.underlying23 (by kernel_rfl) (EqF.cons (by decide) (PartR.one Tryd.underlying3 rfl rfl) (PartR.one Tryd.underlying3 rfl rfl) (EqR.int Tryd.underlying3) (EqF.cons (by decide) (PartR.one Tryd.underlying3 rfl rfl) (PartR.one Tryd.underlying3 rfl rfl) (EqR.int Tryd.underlying3) (EqF.cons (by decide) (PartR.one Tryd.underlying3 rfl rfl) (PartR.one Tryd.underlying3 rfl rfl) (EqR.int Tryd.underlying3) EqF.nil)))) EqF.nil))))))) ?_
  refine WL.ex rfl (ex_assign (v := .bool (T_api_Token.eqb (⟨a0.f_Kind, a0.f_Text, a0.f_Int, (⟨(0 : Int), (0 : Int), (0 : Int)⟩ : T_api_Spot)⟩ : T_api_Token) (⟨(0 : Int), ([] : List UInt8), (0 : Int), (⟨(0 : Int), (0 : Int), (0 : Int)⟩ : T_api_Spot)⟩ : T_api_Token))) rfl) ?_
  refine WL.nil ?_
  rcases condE H with ⟨c109, H⟩ | ⟨c109, H⟩
  ·
    refine WC.cond_t ((show _ = Value.bool (T_api_Token.eqb (⟨a0.f_Kind, a0.f_Text, a0.f_Int, (⟨(0 : Int), (0 : Int), (0 : Int)⟩ : T_api_Spot)⟩ : T_api_Token) (⟨(0 : Int), ([] : List UInt8), (0 : Int), (⟨(0 : Int), (0 : Int), (0 : Int)⟩ : T_api_Spot)⟩ : T_api_Token)) from rfl).trans (congrArg Value.bool c109)) ?_
    refine WC.seq ?_
    refine WC.region ?_
    refine WL.ex rfl (ex_assign (v := encS ([] : List UInt8)) rfl) ?_
    refine WL.ex rfl (ex_assign (v := .int .i64 0) rfl) ?_
    refine WL.nil ?_
    refine WC.ret ?_
    obtain rfl := Option.some.inj H
    exact ⟨_, (.tmp (encS ([] : List UInt8) : Value) rfl (.tmp (.int .i64 0 : Value) rfl .nil)), _, rfl, HF.out⟩
  ·
    refine WC.cond_f ((show _ = Value.bool (T_api_Token.eqb (⟨a0.f_Kind, a0.f_Text, a0.f_Int, (⟨(0 : Int), (0 : Int), (0 : Int)⟩ : T_api_Spot)⟩ : T_api_Token) (⟨(0 : Int), ([] : List UInt8), (0 : Int), (⟨(0 : Int), (0 : Int), (0 : Int)⟩ : T_api_Spot)⟩ : T_api_Token)) from rfl).trans (congrArg Value.bool c109)) ?_
    refine WC.seq ?_
    refine WC.region ?_
    refine WL.ex rfl (ex_fieldAddr rfl Tryd.underlying37 rfl sz9) ?_
    refine WL.ex rfl (ex_load1 (v := encS a0.f_Text) rfl Tryd.underlying9 rfl (hB108.cell rfl)) ?_
    refine WL.ex rfl (ex_build (cs := [.int .i64 1, encS a0.f_Text, .int .i64 (0 : Int), .int .i64 (0 : Int), .int .i64 (0 : Int), .int .i64 (0 : Int)]) [(0, 1), (1, 1), (2, 1), (3, 3)] [(0, .int .i64 1), (1, encS a0.f_Text)] [.int .i64 0, .string ⟨#[]⟩, .int .i64 0, .int .i64 0, .int .i64 0, .int .i64 0] Tryd.underlying37 zr37 rfl (by kernel_rfl) (evs_cons rfl (evs_cons rfl rfl)) rfl) ?_
    refine WL.ex rfl (ex_bin (a := .agg #[.int .i64 a0.f_Kind, encS a0.f_Text, .int .i64 a0.f_Int, .int .i64 (0 : Int), .int .i64 (0 : Int), .int .i64 (0 : Int)]) (b := .agg #[.int .i64 1, encS a0.f_Text, .int .i64 (0 : Int), .int .i64 (0 : Int), .int .i64 (0 : Int), .int .i64 (0 : Int)]) (v := .bool (T_api_Token.eqb (⟨a0.f_Kind, a0.f_Text, a0.f_Int, (⟨(0 : Int), (0 : Int), (0 : Int)⟩ : T_api_Spot)⟩ : T_api_Token) (⟨1, a0.f_Text, (0 : Int), (⟨(0 : Int), (0 : Int), (0 : Int)⟩ : T_api_Spot)⟩ : T_api_Token))) rfl rfl (bin_eql_agg (by kernel_rfl) (EqR.agg Tryd.underlying37 (by kernel_rfl) (EqF.cons (by decide) (PartR.one Tryd.underlying35 rfl rfl) (PartR.one Tryd.underlying35 rfl rfl) (EqR.int Tryd.underlying35) (EqF.cons (by decide) (PartR.one Tryd.underlying9 rfl rfl) (PartR.one Tryd.underlying9 rfl rfl) (EqR.str Tryd.underlying9) (EqF.cons (by decide) (PartR.one Tryd.underlying3 rfl rfl) (PartR.one Tryd.underlying3 rfl rfl) (EqR.int Tryd.underlying3) (EqF.cons (by decide) (PartR.many Tryd.underlying23 rfl sz23) (PartR.many Tryd.underlying23 rfl sz23) (EqR.agg Tryd.underlying23 (by kernel_rfl) (EqF.cons (by decide) (PartR.one Tryd.underlying3 rfl rfl) (PartR.one Tryd.underlying3 rfl rfl) (EqR.int Tryd.underlying3) (EqF.cons (by decide) (PartR.one Tryd.underlying3 rfl rfl) (PartR.one Tryd.underlying3 rfl rfl) (EqR.int Tryd.underlying3) (EqF.cons (by decide) (PartR.one Tryd.underlying3 rfl rfl) (PartR.one Tryd.underlying3 rfl rfl) (EqR.int Tryd.underlying3) EqF.nil)))) EqF.nil))))))) ?_
    refine WL.ex rfl (ex_assign (v := .bool (T_api_Token.eqb (⟨a0.f_Kind, a0.f_Text, a0.f_Int, (⟨(0 : Int), (0 : Int), (0 : Int)⟩ : T_api_Spot)⟩ : T_api_Token) (⟨1, a0.f_Text, (0 : Int), (⟨(0 : Int), (0 : Int), (0 : Int)⟩ : T_api_Spot)⟩ : T_api_Token))) rfl) ?_
    refine WL.nil ?_
    rcases condE H with ⟨c110, H⟩ | ⟨c110, H⟩
    ·
      refine WC.cond_t ((show _ = Value.bool (T_api_Token.eqb (⟨a0.f_Kind, a0.f_Text, a0.f_Int, (⟨(0 : Int), (0 : Int), (0 : Int)⟩ : T_api_Spot)⟩ : T_api_Token) (⟨1, a0.f_Text, (0 : Int), (⟨(0 : Int), (0 : Int), (0 : Int)⟩ : T_api_Spot)⟩ : T_api_Token)) from rfl).trans (congrArg Value.bool c110)) ?_
      refine WC.seq ?_
      refine WC.region ?_
      refine WL.ex rfl (ex_fieldAddr rfl Tryd.underlying37 rfl sz9) ?_
      refine WL.ex rfl (ex_load1 (v := encS a0.f_Text) rfl Tryd.underlying9 rfl (hB108.cell rfl)) ?_
      obtain ⟨z111, hz111, H⟩ := bindE H
      refine WL.op rfl ?_
      refine OW.call [encS a0.f_Text] rfl Tryd.func11 (by kernel_rfl) (by kernel_rfl) (map_cons' rfl rfl) (token_Name.calls k _ _ a0.f_Text z111 (HF.ten (V := [0]) (L := []) rfl) (Gl.vw (V := [0]) (L := []) hG rfl) hz111) ?_
      rintro _ w112 ⟨o113, rfl, s114⟩
      refine ⟨_, rfl, ?_⟩
      replace s114 := un_stepL (J := []) (L' := []) s114 rfl rfl
      replace hG := hG.step s114 rfl
      replace hB108 := hB108.step s114 rfl
      replace HF := HF.step s114 rfl
      refine WL.nil ?_
      rcases condE H with ⟨c115, H⟩ | ⟨c115, H⟩
      ·
        refine WC.cond_t ((show _ = Value.bool z111 from rfl).trans (congrArg Value.bool c115)) ?_
        refine WC.seq ?_
        refine WC.region ?_
        refine WL.ex rfl (ex_fieldAddr rfl Tryd.underlying37 rfl sz9) ?_
        refine WL.ex rfl (ex_load1 (v := encS a0.f_Text) rfl Tryd.underlying9 rfl (hB108.cell rfl)) ?_
        refine WL.ex rfl (ex_assign (v := encS a0.f_Text) rfl) ?_
        refine WL.ex rfl (ex_assign (v := .int .i64 0) rfl) ?_
        refine WL.nil ?_
        refine WC.ret ?_
        obtain rfl := Option.some.inj H
        exact ⟨_, (.tmp (encS a0.f_Text : Value) rfl (.tmp (.int .i64 0 : Value) rfl .nil)), _, rfl, HF.out⟩
      ·
        refine WC.cond_f ((show _ = Value.bool z111 from rfl).trans (congrArg Value.bool c115)) ?_
        refine WC.skip ?_
        refine WC.seq ?_
        refine WC.region ?_
        refine WL.ex rfl (ex_assign (v := encS ([] : List UInt8)) rfl) ?_
        refine WL.ex rfl (ex_assign (v := .int .i64 2) rfl) ?_
        refine WL.nil ?_
        refine WC.ret ?_
        obtain rfl := Option.some.inj H
        exact ⟨_, (.tmp (encS ([] : List UInt8) : Value) rfl (.tmp (.int .i64 2 : Value) rfl .nil)), _, rfl, HF.out⟩
    ·
      refine WC.cond_f ((show _ = Value.bool (T_api_Token.eqb (⟨a0.f_Kind, a0.f_Text, a0.f_Int, (⟨(0 : Int), (0 : Int), (0 : Int)⟩ : T_api_Spot)⟩ : T_api_Token) (⟨1, a0.f_Text, (0 : Int), (⟨(0 : Int), (0 : Int), (0 : Int)⟩ : T_api_Spot)⟩ : T_api_Token)) from rfl).trans (congrArg Value.bool c110)) ?_
      refine WC.seq ?_
      refine WC.region ?_
      refine WL.ex rfl (ex_fieldAddr rfl Tryd.underlying37 rfl sz3) ?_
      refine WL.ex rfl (ex_load1 (v := .int .i64 a0.f_Int) rfl Tryd.underlying3 rfl (hB108.cell rfl)) ?_
      refine WL.ex rfl (ex_build (cs := [.int .i64 2, encS ([] : List UInt8), .int .i64 a0.f_Int, .int .i64 (0 : Int), .int .i64 (0 : Int), .int .i64 (0 : Int)]) [(0, 1), (1, 1), (2, 1), (3, 3)] [(0, .int .i64 2), (2, .int .i64 a0.f_Int)] [.int .i64 0, .string ⟨#[]⟩, .int .i64 0, .int .i64 0, .int .i64 0, .int .i64 0] Tryd.underlying37 zr37 rfl (by kernel_rfl) (evs_cons rfl (evs_cons rfl rfl)) rfl) ?_
      refine WL.ex rfl (ex_bin (a := .agg #[.int .i64 a0.f_Kind, encS a0.f_Text, .int .i64 a0.f_Int, .int .i64 (0 : Int), .int .i64 (0 : Int), .int .i64 (0 : Int)]) (b := .agg #[.int .i64 2, encS ([] : List UInt8), .int .i64 a0.f_Int, .int .i64 (0 : Int), .int .i64 (0 : Int), .int .i64 (0 : Int)]) (v := .bool (T_api_Token.eqb (⟨a0.f_Kind, a0.f_Text, a0.f_Int, (⟨(0 : Int), (0 : Int), (0 : Int)⟩ : T_api_Spot)⟩ : T_api_Token) (⟨2, ([] : List UInt8), a0.f_Int, (⟨(0 : Int), (0 : Int), (0 : Int)⟩ : T_api_Spot)⟩ : T_api_Token))) rfl rfl (bin_eql_agg (by kernel_rfl) (EqR.agg Tryd.underlying37 (by kernel_rfl) (EqF.cons (by decide) (PartR.one Tryd.underlying35 rfl rfl) (PartR.one Tryd.underlying35 rfl rfl) (EqR.int Tryd.underlying35) (EqF.cons (by decide) (PartR.one Tryd.underlying9 rfl rfl) (PartR.one Tryd.underlying9 rfl rfl) (EqR.str Tryd.underlying9) (EqF.cons (by decide) (PartR.one Tryd.underlying3 rfl rfl) (PartR.one Tryd.underlying3 rfl rfl) (EqR.int Tryd.underlying3) (EqF.cons (by decide) (PartR.many Tryd.underlying23 rfl sz23) (PartR.many Tryd.underlying23 rfl sz23) (EqR.agg Tryd.underlying23 (by kernel_rfl) (EqF.cons (by decide) (PartR.one Tryd.underlying3 rfl rfl) (PartR.one Tryd.underlying3 rfl rfl) (EqR.int Tryd.underlying3) (EqF.cons (by decide) (PartR.one Tryd.underlying3 rfl rfl) (PartR.one Tryd.underlying3 rfl rfl) (EqR.int Tryd.underlying3) (EqF.cons (by decide) (PartR.one Tryd.underlying3 rfl rfl) (PartR.one Tryd.underlying3 rfl rfl) (EqR.int Tryd.underlying3) EqF.nil)))) EqF.nil))))))) ?_
      refine WL.ex rfl (ex_assign (v := .bool (T_api_Token.eqb (⟨a0.f_Kind, a0.f_Text, a0.f_Int, (⟨(0 : Int), (0 : Int), (0 : Int)⟩ : T_api_Spot)⟩ : T_api_Token) (⟨2, ([] : List UInt8), a0.f_Int, (⟨(0 : Int), (0 : Int), (0 : Int)⟩ : T_api_Spot)⟩ : T_api_Token))) rfl) ?_
      refine WL.nil ?_
      rcases condE H with ⟨c116, H⟩ | ⟨c116, H⟩
      ·
        refine WC.cond_t ((show _ = Value.bool (T_api_Token.eqb (⟨a0.f_Kind, a0.f_Text, a0.f_Int, (⟨(0 : Int), (0 : Int), (0 : Int)⟩ : T_api_Spot)⟩ : T_api_Token) (⟨2, ([] : List UInt8), a0.f_Int, (⟨(0 : Int), (0 : Int), (0 : Int)⟩ : T_api_Spot)⟩ : T_api_Token)) from rfl).trans (congrArg Value.bool c116)) ?_
        obtain ⟨z118, hz118, H⟩ := bindE H
        refine WC.cut (fun ρ_ w_ => ∃ (o_ : Tags), Fm o0 w0 o_ w_ [] ∧ Bk o_ w_ 10 b101 [.int .i64 a0.f_Kind, encS a0.f_Text, .int .i64 a0.f_Int, .int .i64 (0 : Int), .int .i64 (0 : Int), .int .i64 (0 : Int)] 37 ∧ Gl GG o_ w_ ∧ ρ_ 1 = .pointer (some ⟨b101, 0, none⟩) ∧ ρ_ 2 = encS ([] : List UInt8) ∧ ρ_ 3 = .int .i64 0 ∧ ρ_ 34 = .bool z118) ?case119 ?_
        case case119 =>
          rintro ρ122 w120 ⟨o121, HF, hB108, hG, s1_116, s2_116, s3_116, s34_117⟩
          rcases condE H with ⟨c123, H⟩ | ⟨c123, H⟩
          ·
            refine WC.cond_t ((show _ = Value.bool z118 from s34_117).trans (congrArg Value.bool c123)) ?_
            refine WC.seq ?_
            refine WC.region ?_
            refine WL.ex rfl (ex_fieldAddr s1_116 Tryd.underlying37 rfl sz3) ?_
            refine WL.ex rfl (ex_load1 (v := .int .i64 a0.f_Int) rfl Tryd.underlying3 rfl (hB108.cell rfl)) ?_
            obtain ⟨z124, hz124, H⟩ := bindE H
            refine WL.op rfl ?_
            refine OW.call [.int .i64 a0.f_Int] rfl Tryd.func32 (by kernel_rfl) (by kernel_rfl) (map_cons' rfl rfl) (strconv_Itoa.calls _ _ a0.f_Int z124 (HF.ten (V := [0]) (L := []) rfl) (Gl.vw (V := [0]) (L := []) hG rfl) hz124) ?_
            rintro _ w125 ⟨o126, rfl, s127⟩
            refine ⟨_, rfl, ?_⟩
            replace s127 := un_stepL (J := []) (L' := []) s127 rfl rfl
            replace hB108 := hB108.step s127 rfl
            replace hG := hG.step s127 rfl
            replace HF := HF.step s127 rfl
            refine WL.ex rfl (ex_assign (v := encS z124) rfl) ?_
            refine WL.ex rfl (ex_assign (v := .int .i64 0) rfl) ?_
            refine WL.nil ?_
            refine WC.ret ?_
            obtain rfl := Option.some.inj H
            exact ⟨_, (.tmp (encS z124 : Value) rfl (.tmp (.int .i64 0 : Value) rfl .nil)), _, rfl, HF.out⟩
          ·
            refine WC.cond_f ((show _ = Value.bool z118 from s34_117).trans (congrArg Value.bool c123)) ?_
            refine WC.skip ?_
            refine WC.seq ?_
            refine WC.region ?_
            refine WL.ex rfl (ex_assign (v := encS ([] : List UInt8)) rfl) ?_
            refine WL.ex rfl (ex_assign (v := .int .i64 2) rfl) ?_
            refine WL.nil ?_
            refine WC.ret ?_
            obtain rfl := Option.some.inj H
            exact ⟨_, (.tmp (encS ([] : List UInt8) : Value) rfl (.tmp (.int .i64 2 : Value) rfl .nil)), _, rfl, HF.out⟩
        have Ho128 := H
        replace H := hz118
        refine WC.region ?_
        refine WL.ex rfl (ex_fieldAddr rfl Tryd.underlying37 rfl sz3) ?_
        refine WL.ex rfl (ex_load1 (v := .int .i64 a0.f_Int) rfl Tryd.underlying3 rfl (hB108.cell rfl)) ?_
        refine WL.ex rfl (ex_bin (a := .int .i64 a0.f_Int) (b := .int .i64 0) (v := .bool (decide (a0.f_Int ≥ 0))) rfl rfl bin_geq) ?_
        refine WL.ex rfl (ex_move (v := .bool (decide (a0.f_Int ≥ 0))) rfl) ?_
        rcases condE H with ⟨c129, H⟩ | ⟨c129, H⟩
        ·
          refine WL.guardYes rfl rfl rfl ((show _ = Value.bool (decide (a0.f_Int ≥ 0)) from rfl).trans (congrArg Value.bool c129)) ?_
          refine OW.ex rfl (ex_fieldAddr rfl Tryd.underlying37 rfl sz3) ?_
          refine WL.guardYes rfl rfl rfl ((show _ = Value.bool (decide (a0.f_Int ≥ 0)) from rfl).trans (congrArg Value.bool c129)) ?_
          refine OW.ex rfl (ex_load1 (v := .int .i64 a0.f_Int) rfl Tryd.underlying3 rfl (hB108.cell rfl)) ?_
          refine WL.guardYes rfl rfl rfl ((show _ = Value.bool (decide (a0.f_Int ≥ 0)) from rfl).trans (congrArg Value.bool c129)) ?_
          refine OW.ex rfl (ex_bin (a := .int .i64 a0.f_Int) (b := .int .i64 999999999) (v := .bool (decide (a0.f_Int ≤ 999999999))) rfl rfl bin_leq) ?_
          refine WL.ex rfl (ex_pick_t (v := .bool (decide (a0.f_Int ≤ 999999999))) ((show _ = Value.bool (decide (a0.f_Int ≥ 0)) from rfl).trans (congrArg Value.bool c129)) rfl) ?_
          refine WL.nil ?_
          obtain rfl := Option.some.inj H
          exact ⟨_, HF, hB108, hG, rfl, rfl, rfl, rfl⟩
        ·
          refine WL.guardNo rfl rfl rfl ((show _ = Value.bool (decide (a0.f_Int ≥ 0)) from rfl).trans (congrArg Value.bool c129)) ?_
          refine WL.guardNo rfl rfl rfl ((show _ = Value.bool (decide (a0.f_Int ≥ 0)) from rfl).trans (congrArg Value.bool c129)) ?_
          refine WL.guardNo rfl rfl rfl ((show _ = Value.bool (decide (a0.f_Int ≥ 0)) from rfl).trans (congrArg Value.bool c129)) ?_
          refine WL.ex rfl (ex_pick_f (v := .bool false) ((show _ = Value.bool (decide (a0.f_Int ≥ 0)) from rfl).trans (congrArg Value.bool c129)) rfl) ?_
          refine WL.nil ?_
          obtain rfl := Option.some.inj H
          exact ⟨_, HF, hB108, hG, rfl, rfl, rfl, rfl⟩
      ·
        refine WC.cond_f ((show _ = Value.bool (T_api_Token.eqb (⟨a0.f_Kind, a0.f_Text, a0.f_Int, (⟨(0 : Int), (0 : Int), (0 : Int)⟩ : T_api_Spot)⟩ : T_api_Token) (⟨2, ([] : List UInt8), a0.f_Int, (⟨(0 : Int), (0 : Int), (0 : Int)⟩ : T_api_Spot)⟩ : T_api_Token)) from rfl).trans (congrArg Value.bool c116)) ?_
        refine WC.seq ?_
        refine WC.region ?_
        refine WL.ex rfl (ex_fieldAddr rfl Tryd.underlying37 rfl sz9) ?_
        refine WL.ex rfl (ex_load1 (v := encS a0.f_Text) rfl Tryd.underlying9 rfl (hB108.cell rfl)) ?_
        refine WL.ex rfl (ex_build (cs := [.int .i64 3, encS a0.f_Text, .int .i64 (0 : Int), .int .i64 (0 : Int), .int .i64 (0 : Int), .int .i64 (0 : Int)]) [(0, 1), (1, 1), (2, 1), (3, 3)] [(0, .int .i64 3), (1, encS a0.f_Text)] [.int .i64 0, .string ⟨#[]⟩, .int .i64 0, .int .i64 0, .int .i64 0, .int .i64 0] Tryd.underlying37 zr37 rfl (by kernel_rfl) (evs_cons rfl (evs_cons rfl rfl)) rfl) ?_
        refine WL.ex rfl (ex_bin (a := .agg #[.int .i64 a0.f_Kind, encS a0.f_Text, .int .i64 a0.f_Int, .int .i64 (0 : Int), .int .i64 (0 : Int), .int .i64 (0 : Int)]) (b := .agg #[.int .i64 3, encS a0.f_Text, .int .i64 (0 : Int), .int .i64 (0 : Int), .int .i64 (0 : Int), .int .i64 (0 : Int)]) (v := .bool (T_api_Token.eqb (⟨a0.f_Kind, a0.f_Text, a0.f_Int, (⟨(0 : Int), (0 : Int), (0 : Int)⟩ : T_api_Spot)⟩ : T_api_Token) (⟨3, a0.f_Text, (0 : Int), (⟨(0 : Int), (0 : Int), (0 : Int)⟩ : T_api_Spot)⟩ : T_api_Token))) rfl rfl (bin_eql_agg (by kernel_rfl) (EqR.agg Tryd.underlying37 (by kernel_rfl) (EqF.cons (by decide) (PartR.one Tryd.underlying35 rfl rfl) (PartR.one Tryd.underlying35 rfl rfl) (EqR.int Tryd.underlying35) (EqF.cons (by decide) (PartR.one Tryd.underlying9 rfl rfl) (PartR.one Tryd.underlying9 rfl rfl) (EqR.str Tryd.underlying9) (EqF.cons (by decide) (PartR.one Tryd.underlying3 rfl rfl) (PartR.one Tryd.underlying3 rfl rfl) (EqR.int Tryd.underlying3) (EqF.cons (by decide) (PartR.many Tryd.underlying23 rfl sz23) (PartR.many Tryd.underlying23 rfl sz23) (EqR.agg Tryd.underlying23 (by kernel_rfl) (EqF.cons (by decide) (PartR.one Tryd.underlying3 rfl rfl) (PartR.one Tryd.underlying3 rfl rfl) (EqR.int Tryd.underlying3) (EqF.cons (by decide) (PartR.one Tryd.underlying3 rfl rfl) (PartR.one Tryd.underlying3 rfl rfl) (EqR.int Tryd.underlying3) (EqF.cons (by decide) (PartR.one Tryd.underlying3 rfl rfl) (PartR.one Tryd.underlying3 rfl rfl) (EqR.int Tryd.underlying3) EqF.nil)))) EqF.nil))))))) ?_
        refine WL.ex rfl (ex_assign (v := .bool (T_api_Token.eqb (⟨a0.f_Kind, a0.f_Text, a0.f_Int, (⟨(0 : Int), (0 : Int), (0 : Int)⟩ : T_api_Spot)⟩ : T_api_Token) (⟨3, a0.f_Text, (0 : Int), (⟨(0 : Int), (0 : Int), (0 : Int)⟩ : T_api_Spot)⟩ : T_api_Token))) rfl) ?_
        refine WL.nil ?_
        rcases condE H with ⟨c130, H⟩ | ⟨c130, H⟩
        ·
          refine WC.cond_t ((show _ = Value.bool (T_api_Token.eqb (⟨a0.f_Kind, a0.f_Text, a0.f_Int, (⟨(0 : Int), (0 : Int), (0 : Int)⟩ : T_api_Spot)⟩ : T_api_Token) (⟨3, a0.f_Text, (0 : Int), (⟨(0 : Int), (0 : Int), (0 : Int)⟩ : T_api_Spot)⟩ : T_api_Token)) from rfl).trans (congrArg Value.bool c130)) ?_
          refine WC.seq ?_
          refine WC.region ?_
          refine WL.ex rfl (ex_fieldAddr rfl Tryd.underlying37 rfl sz9) ?_
          refine WL.ex rfl (ex_load1 (v := encS a0.f_Text) rfl Tryd.underlying9 rfl (hB108.cell rfl)) ?_
          obtain ⟨z131, hz131, H⟩ := bindE H
          refine WL.op rfl ?_
          refine OW.call [encS a0.f_Text] rfl Tryd.func33 (by kernel_rfl) (by kernel_rfl) (map_cons' rfl rfl) (token_sign.calls k _ _ a0.f_Text z131 (HF.ten (V := [0]) (L := []) rfl) (Gl.vw (V := [0]) (L := []) hG rfl) hz131) ?_
          rintro _ w132 ⟨o133, rfl, s134⟩
          refine ⟨_, rfl, ?_⟩
          replace s134 := un_stepL (J := []) (L' := []) s134 rfl rfl
          replace hG := hG.step s134 rfl
          replace hB108 := hB108.step s134 rfl
          replace HF := HF.step s134 rfl
          refine WL.ex rfl (ex_move (v := .tuple #[encS z131.1, .int .i64 z131.2]) rfl) ?_
          refine WL.ex rfl (ex_extract (vs := #[encS z131.1, .int .i64 z131.2]) (v := encS z131.1) rfl rfl) ?_
          refine WL.ex rfl (ex_extract (vs := #[encS z131.1, .int .i64 z131.2]) (v := .int .i64 z131.2) rfl rfl) ?_
          refine WL.ex rfl (ex_assign (v := encS z131.1) rfl) ?_
          refine WL.ex rfl (ex_assign (v := .int .i64 z131.2) rfl) ?_
          refine WL.nil ?_
          obtain ⟨z136, hz136, H⟩ := bindE H
          refine WC.cut (fun ρ_ w_ => ∃ (o_ : Tags), Fm o0 w0 o_ w_ [] ∧ Gl GG o_ w_ ∧ ρ_ 2 = encS ([] : List UInt8) ∧ ρ_ 3 = .int .i64 0 ∧ ρ_ 4 = encS z131.1 ∧ ρ_ 56 = .bool z136) ?case137 ?_
          case case137 =>
            rintro ρ140 w138 ⟨o139, HF, hG, s2_134, s3_134, s4_134, s56_135⟩
            rcases condE H with ⟨c141, H⟩ | ⟨c141, H⟩
            ·
              refine WC.cond_t ((show _ = Value.bool z136 from s56_135).trans (congrArg Value.bool c141)) ?_
              refine WC.seq ?_
              refine WC.region ?_
              refine WL.ex rfl (ex_move (v := encS z131.1) s4_134) ?_
              refine WL.ex rfl (ex_assign (v := encS z131.1) rfl) ?_
              refine WL.ex rfl (ex_assign (v := .int .i64 0) rfl) ?_
              refine WL.nil ?_
              refine WC.ret ?_
              obtain rfl := Option.some.inj H
              exact ⟨_, (.tmp (encS z131.1 : Value) rfl (.tmp (.int .i64 0 : Value) rfl .nil)), _, rfl, HF.out⟩
            ·
              refine WC.cond_f ((show _ = Value.bool z136 from s56_135).trans (congrArg Value.bool c141)) ?_
              refine WC.skip ?_
              refine WC.seq ?_
              refine WC.region ?_
              refine WL.ex rfl (ex_assign (v := encS ([] : List UInt8)) rfl) ?_
              refine WL.ex rfl (ex_assign (v := .int .i64 2) rfl) ?_
              refine WL.nil ?_
              refine WC.ret ?_
              obtain rfl := Option.some.inj H
              exact ⟨_, (.tmp (encS ([] : List UInt8) : Value) rfl (.tmp (.int .i64 2 : Value) rfl .nil)), _, rfl, HF.out⟩
          have Ho142 := H
          replace H := hz136
          refine WC.region ?_
          refine WL.ex rfl (ex_move (v := .int .i64 z131.2) rfl) ?_
          refine WL.ex rfl (ex_bin (a := .int .i64 z131.2) (b := .int .i64 0) (v := .bool (decide (z131.2 > 0))) rfl rfl bin_gtr) ?_
          refine WL.ex rfl (ex_move (v := .bool (decide (z131.2 > 0))) rfl) ?_
          rcases condE H with ⟨c143, H⟩ | ⟨c143, H⟩
          ·
            refine WL.guardYes rfl rfl rfl ((show _ = Value.bool (decide (z131.2 > 0)) from rfl).trans (congrArg Value.bool c143)) ?_
            refine OW.ex rfl (ex_move (v := encS z131.1) rfl) ?_
            refine WL.guardYes rfl rfl rfl ((show _ = Value.bool (decide (z131.2 > 0)) from rfl).trans (congrArg Value.bool c143)) ?_
            refine OW.ex rfl (ex_fieldAddr rfl Tryd.underlying37 rfl sz9) ?_
            refine WL.guardYes rfl rfl rfl ((show _ = Value.bool (decide (z131.2 > 0)) from rfl).trans (congrArg Value.bool c143)) ?_
            refine OW.ex rfl (ex_load1 (v := encS a0.f_Text) rfl Tryd.underlying9 rfl (hB108.cell rfl)) ?_
            refine WL.guardYes rfl rfl rfl ((show _ = Value.bool (decide (z131.2 > 0)) from rfl).trans (congrArg Value.bool c143)) ?_
            refine OW.ex rfl (ex_bin (a := encS z131.1) (b := encS a0.f_Text) (v := .bool (z131.1 == a0.f_Text)) rfl rfl bin_eql_str) ?_
            refine WL.ex rfl (ex_pick_t (v := .bool (z131.1 == a0.f_Text)) ((show _ = Value.bool (decide (z131.2 > 0)) from rfl).trans (congrArg Value.bool c143)) rfl) ?_
            refine WL.nil ?_
            obtain rfl := Option.some.inj H
            exact ⟨_, HF, hG, rfl, rfl, rfl, rfl⟩
          ·
            refine WL.guardNo rfl rfl rfl ((show _ = Value.bool (decide (z131.2 > 0)) from rfl).trans (congrArg Value.bool c143)) ?_
            refine WL.guardNo rfl rfl rfl ((show _ = Value.bool (decide (z131.2 > 0)) from rfl).trans (congrArg Value.bool c143)) ?_
            refine WL.guardNo rfl rfl rfl ((show _ = Value.bool (decide (z131.2 > 0)) from rfl).trans (congrArg Value.bool c143)) ?_
            refine WL.guardNo rfl rfl rfl ((show _ = Value.bool (decide (z131.2 > 0)) from rfl).trans (congrArg Value.bool c143)) ?_
            refine WL.ex rfl (ex_pick_f (v := .bool false) ((show _ = Value.bool (decide (z131.2 > 0)) from rfl).trans (congrArg Value.bool c143)) rfl) ?_
            refine WL.nil ?_
            obtain rfl := Option.some.inj H
            exact ⟨_, HF, hG, rfl, rfl, rfl, rfl⟩
        ·
          refine WC.cond_f ((show _ = Value.bool (T_api_Token.eqb (⟨a0.f_Kind, a0.f_Text, a0.f_Int, (⟨(0 : Int), (0 : Int), (0 : Int)⟩ : T_api_Spot)⟩ : T_api_Token) (⟨3, a0.f_Text, (0 : Int), (⟨(0 : Int), (0 : Int), (0 : Int)⟩ : T_api_Spot)⟩ : T_api_Token)) from rfl).trans (congrArg Value.bool c130)) ?_
          refine WC.skip ?_
          refine WC.seq ?_
          refine WC.region ?_
          refine WL.ex rfl (ex_assign (v := encS ([] : List UInt8)) rfl) ?_
          refine WL.ex rfl (ex_assign (v := .int .i64 2) rfl) ?_
          refine WL.nil ?_
          refine WC.ret ?_
          obtain rfl := Option.some.inj H
          exact ⟨_, (.tmp (encS ([] : List UInt8) : Value) rfl (.tmp (.int .i64 2 : Value) rfl .nil)), _, rfl, HF.out⟩


/-! ### (*strings.Builder).copyCheck -/
theorem sizeBd : (Tryd.prog.info? 84).map (·.size) = some 2 := by kernel_rfl
theorem info5 : (Tryd.prog.info? 5).map (fun i => (i.zero, i.size, i.bytes)) = some (some (.int .u8 0), 1, 1) := by kernel_rfl
theorem Bd_copyCheck (w0 : World) (b : Nat) (p v : Value) (hb : w0.heap[b]? = some (.cells #[p, v] 84 (0, 0))) (hp : p = .pointer none ∨ p = .pointer (some ⟨b, 0, none⟩)) :
    Calls Tryd.prog 60 [.pointer (some ⟨b, 0, none⟩)].toArray w0 fun e_ w_ => e_ = .returned (one []) ∧ Kept b w0 w_ ∧ w_.heap[b]? = some (.cells #[.pointer (some ⟨b, 0, none⟩), v] 84 (0, 0)) := by
  have hB : Bk (tagOne b) w0 11 b [p, v] 84 := ⟨tagOne_same b, hb⟩
  refine SX.calls [.pointer (some ⟨b, 0, none⟩)] Tryd.func60 rfl rfl ?_
  rw [Tryd.ntmps60]
  refine WC.seq ?_
  refine WC.region ?_
  refine WL.ex rfl (ex_move (v := .pointer (some ⟨b, 0, none⟩)) rfl) ?_
  refine WL.ex rfl (ex_nilCheck rfl) ?_
  refine WL.ex rfl (ex_fieldAddr (k := 0) rfl Tryd.underlying84 rfl (by kernel_rfl)) ?_
  refine WL.ex rfl (ex_load1 (v := p) rfl Tryd.underlying82 rfl (hB.cell rfl)) ?_
  rcases hp with rfl | rfl
  · refine WL.ex rfl (ex_bin (a := .pointer none) (b := .pointer none) (v := .bool true) rfl rfl (bin_eql_ptrNN Tryd.underlying82)) ?_
    refine WL.nil ?_
    refine WC.cond_t rfl ?_
    refine WC.region ?_
    refine WL.ex rfl (ex_move (v := .pointer (some ⟨b, 0, none⟩)) rfl) ?_
    refine WL.ex rfl (ex_move (v := .pointer (some ⟨b, 0, none⟩)) rfl) ?_
    refine WL.ex rfl (ex_to_unsafe rfl Tryd.underlying82 Tryd.underlying106 2 rfl sizeBd rfl hB) ?_
    refine WL.ex rfl (ex_extern1 (v := .pointer (some ⟨b, 0, none⟩)) (v' := .pointer (some ⟨b, 0, none⟩)) rfl Tryd.func72 (by kernel_rfl) (by kernel_rfl) (by kernel_rfl) (ee := Extern.AbiNoEscape.same) (by kernel_rfl) rfl) ?_
    refine WL.ex rfl (ex_from_unsafe rfl Tryd.underlying106 Tryd.underlying82 (by kernel_rfl) hB (by kernel_rfl)) ?_
    refine WL.ex rfl (ex_nilCheck rfl) ?_
    refine WL.ex rfl (ex_fieldAddr (k := 0) rfl Tryd.underlying84 rfl (by kernel_rfl)) ?_
    refine WL.op rfl ?_
    refine OW.store [.pointer (some ⟨b, 0, none⟩), v] rfl (vs := [.pointer (some ⟨b, 0, none⟩)]) rfl (by kernel_rfl) hB (Nat.le_of_ble_eq_true rfl) (by intro u hu; simp at hu; subst hu; rfl) rfl ?_
    intro w1 s1 h1
    refine WL.nil ?_
    exact ⟨_, .nil, rfl, s1.kept, h1.heap⟩
  · refine WL.ex rfl (ex_bin (a := .pointer (some ⟨b, 0, none⟩)) (b := .pointer none) (v := .bool false) rfl rfl (bin_eql_ptrSN Tryd.underlying82)) ?_
    refine WL.nil ?_
    refine WC.cond_f rfl ?_
    refine WC.seq ?_
    refine WC.region ?_
    refine WL.ex rfl (ex_move (v := .pointer (some ⟨b, 0, none⟩)) rfl) ?_
    refine WL.ex rfl (ex_nilCheck rfl) ?_
    refine WL.ex rfl (ex_fieldAddr (k := 0) rfl Tryd.underlying84 rfl (by kernel_rfl)) ?_
    refine WL.ex rfl (ex_load1 (v := .pointer (some ⟨b, 0, none⟩)) rfl Tryd.underlying82 rfl (hB.cell rfl)) ?_
    refine WL.ex rfl (ex_move (v := .pointer (some ⟨b, 0, none⟩)) rfl) ?_
    refine WL.ex rfl (ex_bin (a := .pointer (some ⟨b, 0, none⟩)) (b := .pointer (some ⟨b, 0, none⟩)) (v := .bool false) rfl rfl (bin_neq_ptrSame Tryd.underlying82 (by kernel_rfl))) ?_
    refine WL.nil ?_
    refine WC.cond_f rfl ?_
    refine WC.skip ?_
    exact ⟨_, .nil, rfl, (Step.refl _ _ _).kept, hb⟩


/-! ### (*strings.Builder).Grow of a builder just laid -/
theorem Builder_Grow.calls (o0 : Tags) (w0 : World) (b : Nat) (a1 : Int) (r : List UInt8) (hO : ∀ b, b < w0.heap.size → o0 b < 10) (hB0 : Bk o0 w0 2 b [.pointer none, .slice none 0 0] 84) (hl : b + 1 = w0.heap.size) (H : Builder_Grow.f a1 = some r) :
    Calls Tryd.prog 50 [.pointer (some ⟨b, 0, none⟩), .int .i64 a1].toArray w0 fun e_ w_ => ∃ (o_ : Tags), e_ = .returned (one []) ∧ Step o0 w0 o_ w_ [2] ∧ Bd 84 5 2 o_ w_ b r := by
  unfold Builder_Grow.f at H
  obtain ⟨u, hu, H⟩ := bindE H
  obtain rfl := Option.some.inj H
  have hu' := chk_true hu
  simp only [Bool.and_eq_true, decide_eq_true_eq] at hu'
  obtain ⟨n, rfl⟩ : ∃ n : Nat, a1 = n := ⟨a1.toNat, by omega⟩
  refine Calls.mono (Tryd.Builder_Grow_fresh b b n w0 (Nat.le_refl _) hB0.heap (by omega) (by omega)) ?_
  rintro e w ⟨rfl, hBA, hb⟩
  obtain ⟨o_, s, hBd⟩ := grow_bd hB0 hl hBA hb
  exact ⟨o_, rfl, s, hBd⟩


/-! ### (*strings.Builder).WriteString -/
theorem Builder_WriteString.calls (o0 : Tags) (w0 : World) (b : Nat) (a0 : List UInt8) (a1 : List UInt8) (r : Int × List UInt8) (hO : ∀ b, b < w0.heap.size → o0 b < 10) (hB0 : Bd 84 5 2 o0 w0 b a0) (H : Builder_WriteString.f a0 a1 = some r) :
    Calls Tryd.prog 51 [.pointer (some ⟨b, 0, none⟩), encS a1].toArray w0 fun e_ w_ => ∃ (o_ : Tags), e_ = .returned (one [.int .i64 r.1, .nilIface]) ∧ Step o0 w0 o_ w_ [2] ∧ Bd 84 5 2 o_ w_ b r.2 := by
  unfold Builder_WriteString.f at H
  obtain ⟨u, hu, H⟩ := bindE H
  obtain rfl := Option.some.inj H
  obtain ⟨p, v, hB0', hp, hO1⟩ := hB0
  have hb := hB0'.heap
  have hn := hO1.notin hb rfl
  have h0 : o0 b ≠ 0 := by rw [hB0'.tag]; decide
  have hO2 : Own Rep.u8 5 2 (apart1 o0 b) w0 v a0 := hO1.apart hn h0
  refine SX.calls [.pointer (some ⟨b, 0, none⟩), encS a1] Tryd.func51 rfl rfl ?_
  rw [Tryd.ntmps51]
  refine WC.seq ?_
  refine WC.region ?_
  refine WL.ex rfl (ex_assign (v := .int .i64 0) rfl) ?_
  refine WL.ex rfl (ex_assign (v := .nilIface) rfl) ?_
  refine WL.nil ?_
  refine WC.seq ?_
  refine WC.region ?_
  refine WL.ex rfl (ex_move (v := .pointer (some ⟨b, 0, none⟩)) rfl) ?_
  refine WL.op rfl ?_
  refine OW.call [.pointer (some ⟨b, 0, none⟩)] rfl Tryd.func60 (by kernel_rfl) (by kernel_rfl) rfl (Bd_copyCheck w0 b p v hb hp) ?_
  rintro _ w1 ⟨rfl, k1, hb1⟩
  refine ⟨_, rfl, ?_⟩
  have s1 : Step (apart1 o0 b) w0 (apart1 o0 b) w1 [11, 2] := Step.trans (k1.step (apart1_same o0 b)) (Step.refl _ _ []) rfl rfl
  replace hO2 := hO2.kept k1 hn (by rw [apart1_same]; decide)
  have hB : Bk (apart1 o0 b) w1 11 b [.pointer (some ⟨b, 0, none⟩), v] 84 := ⟨apart1_same o0 b, hb1⟩
  refine WL.nil ?_
  refine WC.seq ?_
  refine WC.region ?_
  refine WL.ex rfl (ex_move (v := .pointer (some ⟨b, 0, none⟩)) rfl) ?_
  refine WL.ex rfl (ex_move (v := .pointer (some ⟨b, 0, none⟩)) rfl) ?_
  refine WL.ex rfl (ex_nilCheck rfl) ?_
  refine WL.ex rfl (ex_fieldAddr (k := 0) rfl Tryd.underlying84 rfl (by kernel_rfl)) ?_
  refine WL.ex rfl (ex_load1 (v := v) rfl Tryd.underlying48 rfl (hB.cell rfl)) ?_
  refine WL.ex rfl (ex_move (v := encS a1) rfl) ?_
  refine WL.op rfl ?_
  refine OW.appendStr (E := 5) (i := 2) (s := a1) rfl Tryd.underlying48 Tryd.underlying9 info5 (by decide) rfl rfl hO2 (of_decide_eq_true (chk_true hu)) ?_
  intro o3 w3 v3 s3 hO2
  replace hB := hB.step s3 rfl
  replace s1 := Step.trans s1 s3 (M := [11, 2]) rfl rfl
  refine WL.ex rfl (ex_nilCheck rfl) ?_
  refine WL.ex rfl (ex_fieldAddr (k := 0) rfl Tryd.underlying84 rfl (by kernel_rfl)) ?_
  refine WL.op rfl ?_
  refine OW.store [.pointer (some ⟨b, 0, none⟩), v3] rfl (vs := [v3]) (by obtain ⟨A_, c_, e_⟩ := hO2.slice; show v3.cells = _; rw [e_]; rfl) (by kernel_rfl) hB (Nat.le_of_ble_eq_true rfl) (by intro u hu; simp at hu; subst hu; obtain ⟨A_, c_, e_⟩ := hO2.slice; rw [e_]; rfl) rfl ?_
  intro w4 s4 hB4
  replace hO2 := hO2.step s4 rfl rfl
  replace s1 := Step.trans s1 s4 (M := [11, 2]) rfl rfl
  refine WL.nil ?_
  refine WC.seq ?_
  refine WC.region ?_
  refine WL.ex rfl (ex_move (v := encS a1) rfl) ?_
  refine WL.ex rfl (ex_len_str (s := a1) rfl Tryd.underlying9) ?_
  refine WL.ex rfl (ex_assign (v := .int .i64 (a1.length : Int)) rfl) ?_
  refine WL.ex rfl (ex_assign (v := .nilIface) rfl) ?_
  refine WL.nil ?_
  refine WC.ret ?_
  exact ⟨_, .tmp (.int .i64 (a1.length : Int)) rfl (.tmp (.nilIface) rfl .nil), _, rfl, apart_step hO hB0'.tag s1 rfl, _, _, Bk.renTo hB4, .inr rfl, hO2.ren rfl rfl⟩


/-! ### (*strings.Builder).String -/
theorem unsafe_string (i : Nat) (o : Tags) (w : World) (A : Option Addr) (xs : List UInt8) (c : Nat) (p : Option Addr) (hO : Own Rep.u8 5 i o w (.slice A xs.length c) xs) (hp : xs ≠ [] → p = A) (hl : xs.length ≤ 9223372036854775807) :
    ∃ w', (Builtin.unsafeString_ #[88, 3] 9 #[.pointer p, .int .i64 xs.length]).run Tryd.prog w = .ok (encS xs) w' ∧ Step o w o w' [i] := by
  by_cases h0 : xs = []
  · subst h0
    exact ⟨w, by have := Lib.run_unsafeString_none (P := Tryd.prog) w 88 3 9 p; rw [List.length_nil]; rw [show ((0 : Nat) : Int) = 0 from rfl, this]; rfl, Step.refl _ _ _⟩
  · obtain rfl := hp h0
    obtain ⟨cells, hown, ht, hm⟩ := hO
    rcases hown.2 with ⟨_, hz⟩ | ⟨g, cap, cur, hv, _, hg, hn, hcm, hcs, htake⟩
    · exact absurd (List.eq_nil_of_length_eq_zero hz) h0
    · injection hv with e1 _ e3
      subst e1
      have hcz : cur.size = cap := by rw [hcs]; exact Nat.mul_one cap
      refine ⟨w.freeze ⟨g, 0, none⟩ xs.length, ?_, step_freeze (ht g rfl)⟩
      refine Lib.run_unsafeString_row (P := Tryd.prog) w 88 3 9 5 Tryd.underlying88 (by kernel_rfl) g cur.size (by simp [World.shape?, hg]) xs h0 (by omega) hl ?_
      intro j x hx
      have hcell := World.ownsRow.cells hown (g := g) rfl j (enc8 x)
      have hcs' : cells = xs.map enc8 := many_scalar hm
      rw [hcs'] at hcell
      exact hcell (by simp [hx])
theorem Builder_String.calls (o0 : Tags) (w0 : World) (b : Nat) (a0 : List UInt8) (r : List UInt8) (hO : ∀ b, b < w0.heap.size → o0 b < 10) (hB0 : Bd 84 5 2 o0 w0 b a0) (H : Builder_String.f a0 = some r) :
    Calls Tryd.prog 52 [.pointer (some ⟨b, 0, none⟩)].toArray w0 fun e_ w_ => ∃ (o_ : Tags), e_ = .returned (one [encS r]) ∧ Step o0 w0 o_ w_ [2] := by
  unfold Builder_String.f at H
  obtain ⟨u, hu, H⟩ := bindE H
  obtain rfl := Option.some.inj H
  have hl : a0.length ≤ 9223372036854775807 := of_decide_eq_true (chk_true hu)
  obtain ⟨p, v, hB0', hp, hO1⟩ := hB0
  have hb := hB0'.heap
  have hn := hO1.notin hb rfl
  have h0 : o0 b ≠ 0 := by rw [hB0'.tag]; decide
  have hO2 : Own Rep.u8 5 2 (apart1 o0 b) w0 v a0 := hO1.apart hn h0
  have HF := Fm.here2 (apart1 o0 b) w0
  have hB : Bk (apart1 o0 b) w0 11 b [p, v] 84 := ⟨apart1_same o0 b, hb⟩
  refine SX.calls [.pointer (some ⟨b, 0, none⟩)] Tryd.func52 rfl rfl ?_
  rw [Tryd.ntmps52]
  refine WC.seq ?_
  refine WC.region ?_
  refine WL.ex rfl (ex_assign (v := encS []) rfl) ?_
  refine WL.nil ?_
  refine WC.seq ?_
  refine WC.regionD' HF [2] 12 (by kernel_rfl) rfl ?_
  intro w1 s1
  replace hO2 := hO2.step s1 rfl rfl
  replace hB := hB.step s1 rfl
  replace HF := HF.step s1 rfl
  have hBD := hB
  have sR := HF.here [2]
  obtain ⟨A, c, e, hlc, hr⟩ := hO2.row
  subst e
  refine WA.ex 0 rfl (by kernel_rfl) (by kernel_rfl) (by kernel_rfl) rfl ⟨_, sR⟩ (fun w_ hS_ => ex_move (v := .pointer (some ⟨b, 0, none⟩)) rfl) ?_
  refine WA.ex 1 rfl (by kernel_rfl) (by kernel_rfl) (by kernel_rfl) rfl ⟨_, sR⟩ (fun w_ hS_ => ex_nilCheck rfl) ?_
  refine WA.ex 2 rfl (by kernel_rfl) (by kernel_rfl) (by kernel_rfl) rfl ⟨_, sR⟩ (fun w_ hS_ => ex_fieldAddr (k := 0) rfl Tryd.underlying84 rfl (by kernel_rfl)) ?_
  refine WA.ex 3 rfl (by kernel_rfl) (by kernel_rfl) (by kernel_rfl) rfl ⟨_, sR⟩ (fun w_ hS_ => ex_load1 (v := .slice A a0.length c) rfl Tryd.underlying48 rfl ((hBD.step hS_.choose_spec rfl).cell rfl)) ?_
  refine WA.ex 5 rfl (by kernel_rfl) (by kernel_rfl) (by kernel_rfl) rfl ⟨_, sR⟩ (fun w_ hS_ => ex_move (v := .pointer (some ⟨b, 0, none⟩)) rfl) ?_
  refine WA.ex 6 rfl (by kernel_rfl) (by kernel_rfl) (by kernel_rfl) rfl ⟨_, sR⟩ (fun w_ hS_ => ex_nilCheck rfl) ?_
  refine WA.ex 7 rfl (by kernel_rfl) (by kernel_rfl) (by kernel_rfl) rfl ⟨_, sR⟩ (fun w_ hS_ => ex_fieldAddr (k := 0) rfl Tryd.underlying84 rfl (by kernel_rfl)) ?_
  refine WA.ex 8 rfl (by kernel_rfl) (by kernel_rfl) (by kernel_rfl) rfl ⟨_, sR⟩ (fun w_ hS_ => ex_load1 (v := .slice A a0.length c) rfl Tryd.underlying48 rfl ((hBD.step hS_.choose_spec rfl).cell rfl)) ?_
  refine WA.ex 9 rfl (by kernel_rfl) (by kernel_rfl) (by kernel_rfl) rfl ⟨_, sR⟩ (fun w_ hS_ => ex_len_slice (A := A) (m := a0.length) (c := c) rfl Tryd.underlying48) ?_
  have hdata : ∃ q w2 o2, (Builtin.unsafeSliceData_ #[48] 88 #[.slice A a0.length c]).run Tryd.prog w1 = .ok (.pointer q) w2 ∧ Step (apart1 o0 b) w1 o2 w2 [] ∧ (a0 ≠ [] → q = A) := by
    cases A with
    | none => exact ⟨none, w1, _, Lib.run_unsafeSliceData_nil w1 _ _ _ _, Step.refl _ _ _, fun _ => rfl⟩
    | some ad =>
      by_cases hc : c = 0
      · subst hc
        obtain ⟨cells, hown, ht, hm⟩ := hO2
        rcases hown.2 with ⟨hz, _⟩ | ⟨g, cap, cur, hv, _, hg, _⟩
        · cases hz
        · injection hv with e1 _ e3
          injection e1 with e1
          subst e1
          exact ⟨_, _, _, Lib.run_unsafeSliceData_zero (P := Tryd.prog) w1 #[48] 88 5 Tryd.underlying88 ⟨g, 0, none⟩ a0.length (5, cur.size) (by simp [World.shape?, hg]), step_alloc (apart1 o0 b) w1 1 _ [], fun h => absurd (List.eq_nil_of_length_eq_zero (by omega)) h⟩
      · exact ⟨some ad, w1, _, Lib.run_unsafeSliceData_row w1 _ _ ad _ _ hc, Step.refl _ _ _, fun _ => rfl⟩
  obtain ⟨q, w2, o2, hr2, s2, hq⟩ := hdata
  refine WA.one 4 (by kernel_rfl) rfl rfl ?_
  refine OW.val (v := .pointer q) (w' := w2) rfl (run_usd (v := .slice A a0.length c) rfl hr2) ?_
  replace sR := Step.trans sR s2 (M := [2]) rfl rfl
  replace hO2 := hO2.step s2 rfl rfl
  refine ⟨⟨_, sR⟩, ?_⟩
  obtain ⟨w3, hr3, s3⟩ := unsafe_string 2 o2 w2 A a0 c q hO2 hq hl
  refine WA.one 10 (by kernel_rfl) rfl rfl ?_
  refine OW.val (v := encS a0) (w' := w3) rfl (run_us (v := .pointer q) (u := .int .i64 (a0.length : Int)) rfl rfl hr3) ?_
  replace sR := Step.trans sR s3 (M := [2]) rfl rfl
  refine ⟨⟨_, sR⟩, ?_⟩
  refine WA.one 11 (by kernel_rfl) rfl rfl ?_
  refine OW.ex rfl (ex_assign (v := encS a0) rfl) ?_
  refine ⟨⟨_, sR⟩, ?_⟩
  refine WA.done (by kernel_rfl) ?_
  refine WC.ret ?_
  exact ⟨_, .tmp (encS a0) rfl .nil, _, rfl, apart_step hO hB0'.tag (Step.trans s1 sR (M := [11, 2]) rfl rfl) rfl⟩

/-! ### strings_Join -/
set_option maxRecDepth 100000 in
theorem strings_Join.calls (k : Nat) (o0 : Tags) (w0 : World) (pA0 : Option Addr) (pc0 : Nat) (a0 : (List (List UInt8))) (a1 : List UInt8) (r : (List UInt8)) (hO : ∀ b, b < w0.heap.size → o0 b < 10) (hra0 : Row Rep.str (fun b_ => o0 b_ = 0) (fun b_ => o0 b_ = 0) w0 pA0 a0) (hla0 : a0.length ≤ pc0) (H : strings_Join.f k a0 a1 = some r) :
    Calls Tryd.prog 34 [.slice pA0 a0.length pc0, encS a1].toArray w0 fun e_ w_ => ∃ (o_ : Tags), e_ = .returned (one [encS r]) ∧ Step o0 w0 o_ w_ [] := by
  have HF := Fm.refl hO []
  unfold strings_Join.f at H
  refine SX.calls [.slice pA0 a0.length pc0, encS a1] Tryd.func34 rfl rfl ?_
  rw [Tryd.ntmps34]
  refine WC.seq ?_
  refine WC.region ?_
  refine WL.ex rfl (ex_assign (v := encS ([] : List UInt8)) rfl) ?_
  refine WL.nil ?_
  refine WC.seq ?_
  refine WC.seq ?_
  refine WC.region ?_
  refine WL.ex rfl (ex_move (v := .slice pA0 a0.length pc0) rfl) ?_
  refine WL.ex rfl (ex_len_slice (A := pA0) (m := a0.length) (c := pc0) rfl Tryd.underlying49) ?_
  refine WL.nil ?_
  refine WC.block ?_
  refine WC.seq ?_
  refine WC.region ?_
  refine WL.ex rfl (ex_bin (a := .int .i64 (a0.length : Int)) (b := .int .i64 0) (v := .bool ((a0.length : Int) == 0)) rfl rfl bin_eql) ?_
  refine WL.ex rfl (ex_assign (v := .bool ((a0.length : Int) == 0)) rfl) ?_
  refine WL.nil ?_
  rcases condE H with ⟨c101, H⟩ | ⟨c101, H⟩
  ·
    refine WC.cond_t ((show _ = Value.bool ((a0.length : Int) == 0) from rfl).trans (congrArg Value.bool c101)) ?_
    refine WC.seq ?_
    refine WC.region ?_
    refine WL.ex rfl (ex_assign (v := encS ([] : List UInt8)) rfl) ?_
    refine WL.nil ?_
    refine WC.ret ?_
    obtain rfl := Option.some.inj H
    exact ⟨_, (.tmp (encS ([] : List UInt8) : Value) rfl .nil), _, rfl, HF.out⟩
  ·
    refine WC.cond_f ((show _ = Value.bool ((a0.length : Int) == 0) from rfl).trans (congrArg Value.bool c101)) ?_
    refine WC.seq ?_
    refine WC.region ?_
    refine WL.ex rfl (ex_bin (a := .int .i64 (a0.length : Int)) (b := .int .i64 1) (v := .bool ((a0.length : Int) == 1)) rfl rfl bin_eql) ?_
    refine WL.ex rfl (ex_assign (v := .bool ((a0.length : Int) == 1)) rfl) ?_
    refine WL.nil ?_
    rcases condE H with ⟨c102, H⟩ | ⟨c102, H⟩
    ·
      refine WC.cond_t ((show _ = Value.bool ((a0.length : Int) == 1) from rfl).trans (congrArg Value.bool c102)) ?_
      refine WC.seq ?_
      refine WC.region ?_
      refine WL.ex rfl (ex_move (v := .slice pA0 a0.length pc0) rfl) ?_
      obtain ⟨x103, hx103, H⟩ := bindE H
      obtain ⟨ad104, e105, g106, g107, cell108⟩ := Row.ixS hra0 hx103
      refine WL.ex rfl (ex_indexAddr (i := (0 : Int)) rfl e105 rfl Tryd.underlying49 sz9 g106 g107) ?_
      refine WL.ex rfl (ex_load1 (v := encS x103) rfl Tryd.underlying9 rfl cell108) ?_
      refine WL.ex rfl (ex_assign (v := encS x103) rfl) ?_
      refine WL.nil ?_
      refine WC.ret ?_
      obtain rfl := Option.some.inj H
      exact ⟨_, (.tmp (encS x103 : Value) rfl .nil), _, rfl, HF.out⟩
    ·
      refine WC.cond_f ((show _ = Value.bool ((a0.length : Int) == 1) from rfl).trans (congrArg Value.bool c102)) ?_
      refine WC.skip ?_
      refine WC.seq ?_
      refine WC.region ?_
      refine WL.ex rfl (ex_assign (v := .int .i64 0) rfl) ?_
      refine WL.nil ?_
      obtain ⟨z111, hz111, H⟩ := bindE H
      refine WC.cut (fun ρ_ w_ => ∃ (o_ : Tags), Fm o0 w0 o_ w_ [] ∧ Row Rep.str (fun b_ => o_ b_ = 0) (fun b_ => o_ b_ = 0) w_ pA0 a0 ∧ ρ_ 0 = .slice pA0 a0.length pc0 ∧ ρ_ 1 = encS a1 ∧ ρ_ 4 = encS ([] : List UInt8) ∧ ρ_ 5 = .int .i64 z111) ?case112 ?_
      case case112 =>
        rintro ρ115 w113 ⟨o114, HF, hra0, s0_109, s1_109, s4_109, s5_110⟩
        refine WC.seq ?_
        refine WC.seq ?_
        refine WC.region ?_
        refine WL.ex rfl (ex_move (v := .slice pA0 a0.length pc0) s0_109) ?_
        refine WL.ex rfl (ex_len_slice (A := pA0) (m := a0.length) (c := pc0) rfl Tryd.underlying49) ?_
        refine WL.ex rfl (ex_move (v := .int .i64 0) rfl) ?_
        refine WL.nil ?_
        obtain ⟨z119, hz119, H⟩ := bindE H
        refine WC.for (fun k_ ρ_ w_ => ∃ (o_ : Tags) (x116 : Int) (x117 : Int), Fm o0 w0 o_ w_ [] ∧ Row Rep.str (fun b_ => o_ b_ = 0) (fun b_ => o_ b_ = 0) w_ pA0 a0 ∧ ρ_ 0 = .slice pA0 a0.length pc0 ∧ ρ_ 1 = encS a1 ∧ ρ_ 4 = encS ([] : List UInt8) ∧ ρ_ 5 = .int .i64 x116 ∧ ρ_ 39 = .slice pA0 a0.length pc0 ∧ ρ_ 40 = .int .i64 (a0.length : Int) ∧ ρ_ 41 = .int .i64 x117 ∧ strings_Join.l1 k a0 k_ x116 x117 = some z119) k (fun ρ_ w_ => ∃ (o_ : Tags), Fm o0 w0 o_ w_ [] ∧ Row Rep.str (fun b_ => o_ b_ = 0) (fun b_ => o_ b_ = 0) w_ pA0 a0 ∧ ρ_ 0 = .slice pA0 a0.length pc0 ∧ ρ_ 1 = encS a1 ∧ ρ_ 4 = encS ([] : List UInt8) ∧ ρ_ 5 = .int .i64 z119) ⟨_, z111, 0, HF, hra0, s0_109, s1_109, s4_109, s5_110, rfl, rfl, rfl, hz119⟩ ?case120 ?_
        case case120 =>
          rintro ρ137 w135 ⟨o136, HF, hra0, s0_117, s1_117, s4_117, s5_118⟩
          refine WC.seq ?_
          refine WC.region ?_
          refine WL.op rfl ?_
          refine OW.allocFr 10 HF rfl (by kernel_rfl) ?_
          intro o139 w140 b138 s141 hB142 hl143
          replace hra0 := hra0.step s141 rfl
          replace HF := HF.step s141 rfl
          refine WL.nil ?_
          refine WC.seq ?_
          refine WC.region ?_
          refine WL.ex rfl (ex_move (v := .int .i64 z119) s5_118) ?_
          obtain ⟨z144, hz144, H⟩ := bindE H
          refine WL.op rfl ?_
          refine OW.call [.pointer (some ⟨b138, 0, none⟩), .int .i64 z119] rfl Tryd.func50 (by kernel_rfl) (by kernel_rfl) (map_cons' rfl (map_cons' rfl rfl)) (Builder_Grow.calls _ _ b138 z119 z144 (HF.ten (V := [0]) (L := [10]) rfl) (Bk.vw (V := [0]) (L := [10]) hB142 rfl) hl143 hz144) ?_
          rintro _ w145 ⟨o146, rfl, s147, hB148⟩
          refine ⟨_, rfl, ?_⟩
          replace hB148 := Bd.unO (J := []) 0 hB148 s147 rfl rfl rfl
          replace s147 := un_stepL (J := []) (L' := [10]) s147 rfl rfl
          replace hra0 := hra0.step s147 rfl
          replace HF := HF.step s147 rfl
          refine WL.nil ?_
          refine WC.seq ?_
          refine WC.region ?_
          refine WL.ex rfl (ex_move (v := .slice pA0 a0.length pc0) s0_117) ?_
          obtain ⟨x149, hx149, H⟩ := bindE H
          obtain ⟨ad150, e151, g152, g153, cell154⟩ := Row.ixS hra0 hx149
          refine WL.ex rfl (ex_indexAddr (i := (0 : Int)) rfl e151 rfl Tryd.underlying49 sz9 g152 g153) ?_
          refine WL.ex rfl (ex_load1 (v := encS x149) rfl Tryd.underlying9 rfl cell154) ?_
          obtain ⟨z156, hz156, H⟩ := bindE H
          refine WL.op rfl ?_
          refine OW.call [.pointer (some ⟨b138, 0, none⟩), encS x149] rfl Tryd.func51 (by kernel_rfl) (by kernel_rfl) (map_cons' rfl (map_cons' rfl rfl)) (Builder_WriteString.calls _ _ b138 z144 x149 z156 (HF.ten (V := [0]) (L := [10]) rfl) (Bd.vw (V := [0]) (L := [10]) hB148 rfl rfl) hz156) ?_
          rintro _ w157 ⟨o158, rfl, s159, hB160⟩
          refine ⟨_, rfl, ?_⟩
          replace hB160 := Bd.unO (J := []) 0 hB160 s159 rfl rfl rfl
          replace s159 := un_stepL (J := []) (L' := [10]) s159 rfl rfl
          replace hra0 := hra0.step s159 rfl
          replace HF := HF.step s159 rfl
          refine WL.nil ?_
          refine WC.seq ?_
          refine WC.seq ?_
          refine WC.region ?_
          refine WL.ex rfl (ex_move (v := .slice pA0 a0.length pc0) s0_117) ?_
          obtain ⟨y161, hy161, H⟩ := bindE H
          have hr163 := Row.cut hra0 hla0 hy161
          obtain ⟨A164, el167⟩ : ∃ A_, A_ = subA pA0 pc0 (1 : Int).toNat 1 := ⟨_, rfl⟩
          rw [show subA pA0 pc0 (1 : Int).toNat Rep.str.sz = A164 from el167.symm] at hr163
          have hl166 : y161.length ≤ pc0 - (1 : Int).toNat := cut_le hla0 hy161
          refine WL.ex rfl (ex_slice' (l := 1) (h := (a0.length : Int)) rfl Tryd.underlying49 sz9 ⟨_, rfl⟩ rfl (cut_low hy161) (cut_mid hy161) (cut_cap hla0 hy161) el167 (cut_len hy161)) ?_
          refine WL.ex rfl (ex_len_slice (A := A164) (m := y161.length) (c := (pc0 - (1 : Int).toNat)) rfl Tryd.underlying49) ?_
          refine WL.ex rfl (ex_move (v := .int .i64 0) rfl) ?_
          refine WL.nil ?_
          obtain ⟨z171, hz171, H⟩ := bindE H
          refine WC.for (fun k_ ρ_ w_ => ∃ (o_ : Tags) (x168 : Int) (x169 : (List UInt8)), Fm o0 w0 o_ w_ [] ∧ Row Rep.str (fun b_ => o_ b_ = 0) (fun b_ => o_ b_ = 0) w_ A164 y161 ∧ Bd 84 5 10 o_ w_ b138 x169 ∧ ρ_ 1 = encS a1 ∧ ρ_ 4 = encS ([] : List UInt8) ∧ ρ_ 8 = .pointer (some ⟨b138, 0, none⟩) ∧ ρ_ 63 = .slice A164 y161.length (pc0 - (1 : Int).toNat) ∧ ρ_ 64 = .int .i64 (y161.length : Int) ∧ ρ_ 65 = .int .i64 x168 ∧ strings_Join.l2 k a1 y161 k_ x168 x169 = some z171) k (fun ρ_ w_ => ∃ (o_ : Tags), Fm o0 w0 o_ w_ [] ∧ Bd 84 5 10 o_ w_ b138 z171 ∧ ρ_ 4 = encS ([] : List UInt8) ∧ ρ_ 8 = .pointer (some ⟨b138, 0, none⟩)) ⟨_, 0, z156.2, HF, hr163, hB160, s1_117, s4_117, rfl, rfl, rfl, rfl, hz171⟩ ?case172 ?_
          case case172 =>
            rintro ρ198 w196 ⟨o197, HF, hB160, s4_169, s8_169⟩
            refine WC.seq ?_
            refine WC.region ?_
            obtain ⟨z199, hz199, H⟩ := bindE H
            refine WL.op rfl ?_
            refine OW.call [.pointer (some ⟨b138, 0, none⟩)] rfl Tryd.func52 (by kernel_rfl) (by kernel_rfl) (map_cons' s8_169 rfl) (Builder_String.calls _ _ b138 z171 z199 (HF.ten (V := [0]) (L := [10]) rfl) (Bd.vw (V := [0]) (L := [10]) hB160 rfl rfl) hz199) ?_
            rintro _ w200 ⟨o201, rfl, s202⟩
            refine ⟨_, rfl, ?_⟩
            replace s202 := un_stepL (J := []) (L' := [10]) s202 rfl rfl
            replace HF := HF.step s202 rfl
            refine WL.ex rfl (ex_assign (v := encS z199) rfl) ?_
            refine WL.nil ?_
            refine WC.ret ?_
            obtain rfl := Option.some.inj H
            exact ⟨_, (.tmp (encS z199 : Value) rfl .nil), _, rfl, HF.out⟩
          have Ho173 := H
          rintro k174 ρ175 w176 ⟨o177, x168, x169, HF, hr163, hB160, s1_167, s4_167, s8_167, s63_167, s64_167, s65_168, H⟩
          cases k174 with
          | zero => cases H
          | succ k174 =>
          rw [strings_Join.l2.eq_2] at H
          refine WC.seq ?_
          refine WC.region ?_
          refine WL.ex rfl (ex_bin (a := .int .i64 x168) (b := .int .i64 (y161.length : Int)) (v := .bool (decide (x168 < (y161.length : Int)))) s65_168 s64_167 bin_lss) ?_
          refine WL.nil ?_
          refine WC.seq ?_
          rcases condE H with ⟨c178, H⟩ | ⟨c178, H⟩
          ·
            refine WC.cond_t ((show _ = Value.bool (decide (x168 < (y161.length : Int))) from rfl).trans (congrArg Value.bool c178)) ?_
            refine WC.skip ?_
            refine WC.seq ?_
            refine WC.block ?_
            refine WC.seq ?_
            refine WC.region ?_
            obtain ⟨x179, hx179, H⟩ := bindE H
            obtain ⟨ad180, e181, g182, g183, cell184⟩ := Row.ixS hr163 hx179
            refine WL.ex rfl (ex_indexAddr (i := x168) s63_167 e181 s65_168 Tryd.underlying49 sz9 g182 g183) ?_
            refine WL.ex rfl (ex_load1 (v := encS x179) rfl Tryd.underlying9 rfl cell184) ?_
            refine WL.ex rfl (ex_assign (v := encS x179) rfl) ?_
            refine WL.nil ?_
            refine WC.seq ?_
            refine WC.region ?_
            refine WL.ex rfl (ex_move (v := encS a1) s1_167) ?_
            obtain ⟨z186, hz186, H⟩ := bindE H
            refine WL.op rfl ?_
            refine OW.call [.pointer (some ⟨b138, 0, none⟩), encS a1] rfl Tryd.func51 (by kernel_rfl) (by kernel_rfl) (map_cons' s8_167 (map_cons' rfl rfl)) (Builder_WriteString.calls _ _ b138 x169 a1 z186 (HF.ten (V := [0]) (L := [10]) rfl) (Bd.vw (V := [0]) (L := [10]) hB160 rfl rfl) hz186) ?_
            rintro _ w187 ⟨o188, rfl, s189, hB190⟩
            refine ⟨_, rfl, ?_⟩
            replace hB190 := Bd.unO (J := []) 0 hB190 s189 rfl rfl rfl
            replace s189 := un_stepL (J := []) (L' := [10]) s189 rfl rfl
            replace hr163 := hr163.step s189 rfl
            replace HF := HF.step s189 rfl
            refine WL.nil ?_
            refine WC.region ?_
            refine WL.ex rfl (ex_move (v := encS x179) rfl) ?_
            obtain ⟨z191, hz191, H⟩ := bindE H
            refine WL.op rfl ?_
            refine OW.call [.pointer (some ⟨b138, 0, none⟩), encS x179] rfl Tryd.func51 (by kernel_rfl) (by kernel_rfl) (map_cons' s8_167 (map_cons' rfl rfl)) (Builder_WriteString.calls _ _ b138 z186.2 x179 z191 (HF.ten (V := [0]) (L := [10]) rfl) (Bd.vw (V := [0]) (L := [10]) hB190 rfl rfl) hz191) ?_
            rintro _ w192 ⟨o193, rfl, s194, hB195⟩
            refine ⟨_, rfl, ?_⟩
            replace hB195 := Bd.unO (J := []) 0 hB195 s194 rfl rfl rfl
            replace s194 := un_stepL (J := []) (L' := [10]) s194 rfl rfl
            replace hr163 := hr163.step s194 rfl
            replace HF := HF.step s194 rfl
            refine WL.nil ?_
            refine WC.region ?_
            refine WL.ex rfl (ex_bin (a := .int .i64 x168) (b := .int .i64 1) (v := .int .i64 (wrap64 (x168 + 1))) s65_168 rfl bin_add64) ?_
            refine WL.ex rfl (ex_move (v := .int .i64 (wrap64 (x168 + 1))) rfl) ?_
            refine WL.nil ?_
            exact ⟨k174, Nat.lt_succ_self _, ⟨_, wrap64 (x168 + 1), z191.2, HF, hr163, hB195, s1_167, s4_167, s8_167, s63_167, s64_167, rfl, H⟩⟩
          ·
            refine WC.cond_f ((show _ = Value.bool (decide (x168 < (y161.length : Int))) from rfl).trans (congrArg Value.bool c178)) ?_
            refine WC.exit ?_
            obtain rfl := Option.some.inj H
            exact ⟨_, HF, hB160, s4_167, s8_167⟩
        have Ho121 := H
        rintro k122 ρ123 w124 ⟨o125, x116, x117, HF, hra0, s0_115, s1_115, s4_115, s5_116, s39_116, s40_116, s41_117, H⟩
        cases k122 with
        | zero => cases H
        | succ k122 =>
        rw [strings_Join.l1.eq_2] at H
        refine WC.seq ?_
        refine WC.region ?_
        refine WL.ex rfl (ex_bin (a := .int .i64 x117) (b := .int .i64 (a0.length : Int)) (v := .bool (decide (x117 < (a0.length : Int)))) s41_117 s40_116 bin_lss) ?_
        refine WL.nil ?_
        refine WC.seq ?_
        rcases condE H with ⟨c126, H⟩ | ⟨c126, H⟩
        ·
          refine WC.cond_t ((show _ = Value.bool (decide (x117 < (a0.length : Int))) from rfl).trans (congrArg Value.bool c126)) ?_
          refine WC.skip ?_
          refine WC.seq ?_
          refine WC.block ?_
          refine WC.seq ?_
          refine WC.region ?_
          obtain ⟨x127, hx127, H⟩ := bindE H
          obtain ⟨ad128, e129, g130, g131, cell132⟩ := Row.ixS hra0 hx127
          refine WL.ex rfl (ex_indexAddr (i := x117) s39_116 e129 s41_117 Tryd.underlying49 sz9 g130 g131) ?_
          refine WL.ex rfl (ex_load1 (v := encS x127) rfl Tryd.underlying9 rfl cell132) ?_
          refine WL.ex rfl (ex_assign (v := encS x127) rfl) ?_
          refine WL.nil ?_
          refine WC.seq ?_
          refine WC.seq ?_
          refine WC.region ?_
          refine WL.ex rfl (ex_move (v := encS x127) rfl) ?_
          refine WL.ex rfl (ex_len_str (s := x127) rfl Tryd.underlying9) ?_
          refine WL.ex rfl (ex_move (v := .int .i64 x116) s5_116) ?_
          refine WL.ex rfl (ex_bin (a := .int .i64 9223372036854775807) (b := .int .i64 x116) (v := .int .i64 (wrap64 (9223372036854775807 - x116))) rfl rfl bin_sub64) ?_
          refine WL.ex rfl (ex_bin (a := .int .i64 (x127.length : Int)) (b := .int .i64 (wrap64 (9223372036854775807 - x116))) (v := .bool (decide ((x127.length : Int) > (wrap64 (9223372036854775807 - x116))))) rfl rfl bin_gtr) ?_
          refine WL.nil ?_
          rcases condE H with ⟨c134, H⟩ | ⟨c134, H⟩
          ·
            refine WC.cond_t ((show _ = Value.bool (decide ((x127.length : Int) > (wrap64 (9223372036854775807 - x116)))) from rfl).trans (congrArg Value.bool c134)) ?_
            cases H
          ·
            refine WC.cond_f ((show _ = Value.bool (decide ((x127.length : Int) > (wrap64 (9223372036854775807 - x116)))) from rfl).trans (congrArg Value.bool c134)) ?_
            refine WC.skip ?_
            refine WC.region ?_
            refine WL.ex rfl (ex_move (v := .int .i64 x116) s5_116) ?_
            refine WL.ex rfl (ex_move (v := encS x127) rfl) ?_
            refine WL.ex rfl (ex_len_str (s := x127) rfl Tryd.underlying9) ?_
            refine WL.ex rfl (ex_bin (a := .int .i64 x116) (b := .int .i64 (x127.length : Int)) (v := .int .i64 (wrap64 (x116 + (x127.length : Int)))) rfl rfl bin_add64) ?_
            refine WL.ex rfl (ex_assign (v := .int .i64 (wrap64 (x116 + (x127.length : Int)))) rfl) ?_
            refine WL.nil ?_
            refine WC.region ?_
            refine WL.ex rfl (ex_bin (a := .int .i64 x117) (b := .int .i64 1) (v := .int .i64 (wrap64 (x117 + 1))) s41_117 rfl bin_add64) ?_
            refine WL.ex rfl (ex_move (v := .int .i64 (wrap64 (x117 + 1))) rfl) ?_
            refine WL.nil ?_
            exact ⟨k122, Nat.lt_succ_self _, ⟨_, wrap64 (x116 + (x127.length : Int)), wrap64 (x117 + 1), HF, hra0, s0_115, s1_115, s4_115, rfl, s39_116, s40_116, rfl, H⟩⟩
        ·
          refine WC.cond_f ((show _ = Value.bool (decide (x117 < (a0.length : Int))) from rfl).trans (congrArg Value.bool c126)) ?_
          refine WC.exit ?_
          obtain rfl := Option.some.inj H
          exact ⟨_, HF, hra0, s0_115, s1_115, s4_115, s5_116⟩
      have Ho203 := H
      replace H := hz111
      refine WC.seq ?_
      refine WC.region ?_
      refine WL.ex rfl (ex_move (v := encS a1) rfl) ?_
      refine WL.ex rfl (ex_len_str (s := a1) rfl Tryd.underlying9) ?_
      refine WL.ex rfl (ex_bin (a := .int .i64 (a1.length : Int)) (b := .int .i64 0) (v := .bool (decide ((a1.length : Int) > 0))) rfl rfl bin_gtr) ?_
      refine WL.nil ?_
      rcases condE H with ⟨c204, H⟩ | ⟨c204, H⟩
      ·
        refine WC.cond_t ((show _ = Value.bool (decide ((a1.length : Int) > 0)) from rfl).trans (congrArg Value.bool c204)) ?_
        refine WC.seq ?_
        refine WC.seq ?_
        refine WC.region ?_
        refine WL.ex rfl (ex_move (v := encS a1) rfl) ?_
        refine WL.ex rfl (ex_len_str (s := a1) rfl Tryd.underlying9) ?_
        refine WL.ex rfl (ex_move (v := .slice pA0 a0.length pc0) rfl) ?_
        refine WL.ex rfl (ex_len_slice (A := pA0) (m := a0.length) (c := pc0) rfl Tryd.underlying49) ?_
        refine WL.ex rfl (ex_bin (a := .int .i64 (a0.length : Int)) (b := .int .i64 1) (v := .int .i64 (wrap64 ((a0.length : Int) - 1))) rfl rfl bin_sub64) ?_
        obtain ⟨u205, hu205, H⟩ := bindE H
        refine WL.ex rfl (ex_bin (a := .int .i64 9223372036854775807) (b := .int .i64 (wrap64 ((a0.length : Int) - 1))) (v := .int .i64 (wrap64 ((9223372036854775807 : Int).tdiv (wrap64 ((a0.length : Int) - 1))))) rfl rfl (bin_quo64 (by have h_ := chk_true hu205; simpa using h_))) ?_
        refine WL.ex rfl (ex_bin (a := .int .i64 (a1.length : Int)) (b := .int .i64 (wrap64 ((9223372036854775807 : Int).tdiv (wrap64 ((a0.length : Int) - 1))))) (v := .bool (decide ((a1.length : Int) ≥ (wrap64 ((9223372036854775807 : Int).tdiv (wrap64 ((a0.length : Int) - 1))))))) rfl rfl bin_geq) ?_
        refine WL.nil ?_
        rcases condE H with ⟨c206, H⟩ | ⟨c206, H⟩
        ·
          refine WC.cond_t ((show _ = Value.bool (decide ((a1.length : Int) ≥ (wrap64 ((9223372036854775807 : Int).tdiv (wrap64 ((a0.length : Int) - 1)))))) from rfl).trans (congrArg Value.bool c206)) ?_
          cases H
        ·
          refine WC.cond_f ((show _ = Value.bool (decide ((a1.length : Int) ≥ (wrap64 ((9223372036854775807 : Int).tdiv (wrap64 ((a0.length : Int) - 1)))))) from rfl).trans (congrArg Value.bool c206)) ?_
          refine WC.skip ?_
          refine WC.region ?_
          refine WL.ex rfl (ex_move (v := .int .i64 0) rfl) ?_
          refine WL.ex rfl (ex_move (v := encS a1) rfl) ?_
          refine WL.ex rfl (ex_len_str (s := a1) rfl Tryd.underlying9) ?_
          refine WL.ex rfl (ex_move (v := .slice pA0 a0.length pc0) rfl) ?_
          refine WL.ex rfl (ex_len_slice (A := pA0) (m := a0.length) (c := pc0) rfl Tryd.underlying49) ?_
          refine WL.ex rfl (ex_bin (a := .int .i64 (a0.length : Int)) (b := .int .i64 1) (v := .int .i64 (wrap64 ((a0.length : Int) - 1))) rfl rfl bin_sub64) ?_
          refine WL.ex rfl (ex_bin (a := .int .i64 (a1.length : Int)) (b := .int .i64 (wrap64 ((a0.length : Int) - 1))) (v := .int .i64 (wrap64 ((a1.length : Int) * (wrap64 ((a0.length : Int) - 1))))) rfl rfl bin_mul64) ?_
          refine WL.ex rfl (ex_bin (a := .int .i64 0) (b := .int .i64 (wrap64 ((a1.length : Int) * (wrap64 ((a0.length : Int) - 1))))) (v := .int .i64 (wrap64 (0 + (wrap64 ((a1.length : Int) * (wrap64 ((a0.length : Int) - 1))))))) rfl rfl bin_add64) ?_
          refine WL.ex rfl (ex_assign (v := .int .i64 (wrap64 (0 + (wrap64 ((a1.length : Int) * (wrap64 ((a0.length : Int) - 1))))))) rfl) ?_
          refine WL.nil ?_
          obtain rfl := Option.some.inj H
          exact ⟨_, HF, hra0, rfl, rfl, rfl, rfl⟩
      ·
        refine WC.cond_f ((show _ = Value.bool (decide ((a1.length : Int) > 0)) from rfl).trans (congrArg Value.bool c204)) ?_
        refine WC.skip ?_
        obtain rfl := Option.some.inj H
        exact ⟨_, HF, hra0, rfl, rfl, rfl, rfl⟩

/-! ### token_Join -/
set_option maxRecDepth 100000 in
theorem token_Join.calls (k : Nat) (o0 : Tags) (w0 : World) (pA0 : Option Addr) (pc0 : Nat) (a0 : (List T_api_Token)) (r : (List UInt8) × Int) (hO : ∀ b, b < w0.heap.size → o0 b < 10) (hra0 : Row T_api_Token.rep (fun b_ => o0 b_ = 0) (fun b_ => o0 b_ = 0) w0 pA0 a0) (hla0 : a0.length ≤ pc0) (hG : Gl GG o0 w0) (H : token_Join.f k a0 = some r) :
    Calls Tryd.prog 19 [.slice pA0 a0.length pc0].toArray w0 fun e_ w_ => ∃ (o_ : Tags), e_ = .returned (one [encS r.1, .int .i64 r.2]) ∧ Step o0 w0 o_ w_ [] := by
  have HF := Fm.refl hO []
  unfold token_Join.f at H
  refine SX.calls [.slice pA0 a0.length pc0] Tryd.func19 rfl rfl ?_
  rw [Tryd.ntmps19]
  refine WC.seq ?_
  refine WC.region ?_
  refine WL.ex rfl (ex_assign (v := encS ([] : List UInt8)) rfl) ?_
  refine WL.ex rfl (ex_assign (v := .int .i64 0) rfl) ?_
  refine WL.nil ?_
  refine WC.seq ?_
  refine WC.region ?_
  refine WL.ex rfl (ex_assign (v := .slice none ([] : List (List UInt8)).length 0) rfl) ?_
  refine WL.nil ?_
  refine WC.seq ?_
  refine WC.seq ?_
  refine WC.region ?_
  refine WL.ex rfl (ex_move (v := .slice pA0 a0.length pc0) rfl) ?_
  refine WL.ex rfl (ex_len_slice (A := pA0) (m := a0.length) (c := pc0) rfl Tryd.underlying28) ?_
  refine WL.ex rfl (ex_move (v := .int .i64 0) rfl) ?_
  refine WL.nil ?_
  obtain ⟨z108, hz108, H⟩ := bindE H
  refine WC.for (fun k_ ρ_ w_ => ∃ (o_ : Tags) (x103 : (List (List UInt8))) (x104 : Int) (v101 : Value), Fm o0 w0 o_ w_ [] ∧ Row T_api_Token.rep (fun b_ => o_ b_ = 0) (fun b_ => o_ b_ = 0) w_ pA0 a0 ∧ Own Rep.str 9 12 o_ w_ v101 x103 ∧ Gl GG o_ w_ ∧ ρ_ 0 = .slice pA0 a0.length pc0 ∧ ρ_ 2 = encS ([] : List UInt8) ∧ ρ_ 3 = .int .i64 0 ∧ ρ_ 4 = v101 ∧ ρ_ 9 = .slice pA0 a0.length pc0 ∧ ρ_ 10 = .int .i64 (a0.length : Int) ∧ ρ_ 11 = .int .i64 x104 ∧ token_Join.l1 k a0 k_ x103 x104 = some z108) k (fun ρ_ w_ => ∃ (o_ : Tags) (x107 : (List (List UInt8))) (v105 : Value), Fm o0 w0 o_ w_ [] ∧ Own Rep.str 9 12 o_ w_ v105 x107 ∧ Gl GG o_ w_ ∧ ρ_ 2 = encS ([] : List UInt8) ∧ ρ_ 3 = .int .i64 0 ∧ ρ_ 4 = v105 ∧ z108 = .inr x107) ⟨_, ([] : List (List UInt8)), 0, _, HF, hra0, Own.nil, hG, rfl, rfl, rfl, rfl, rfl, rfl, rfl, hz108⟩ ?case109 ?_
  case case109 =>
    rintro ρ164 w162 ⟨o163, x107, v105, HF, hO106, hG, s2_104, s3_104, s4_107, rfl⟩
    dsimp only at H
    refine WC.seq ?_
    refine WC.region ?_
    refine WL.ex rfl (ex_move (v := v105) s4_107) ?_
    obtain ⟨A165, c166, q167e, q167l, q167⟩ := Own.vwRow (V := [0, 12]) (L := []) hO106 rfl rfl
    obtain ⟨z168, hz168, H⟩ := bindE H
    have q167e' := q167e
    refine WL.op rfl ?_
    refine OW.call [v105, encS ([32] : List UInt8)] rfl Tryd.func34 (by kernel_rfl) (by kernel_rfl) (map_cons' rfl (map_cons' rfl rfl)) (by simp only [q167e]; exact (strings_Join.calls k _ _ A165 c166 x107 ([32] : List UInt8) z168 (HF.ten (V := [0, 12]) (L := []) rfl) q167 q167l hz168)) ?_
    rintro _ w169 ⟨o170, rfl, s171⟩
    refine ⟨_, rfl, ?_⟩
    replace s171 := un_stepL (J := []) (L' := []) s171 rfl rfl
    replace hO106 := hO106.step s171 rfl rfl
    replace hG := hG.step s171 rfl
    replace HF := HF.step s171 rfl
    refine WL.ex rfl (ex_assign (v := encS z168) rfl) ?_
    refine WL.ex rfl (ex_assign (v := .int .i64 0) rfl) ?_
    refine WL.nil ?_
    refine WC.ret ?_
    obtain rfl := Option.some.inj H
    exact ⟨_, (.tmp (encS z168 : Value) rfl (.tmp (.int .i64 0 : Value) rfl .nil)), _, rfl, HF.out⟩
  have Ho110 := H
  rintro k111 ρ112 w113 ⟨o114, x103, x104, v101, HF, hra0, hO102, hG, s0_100, s2_100, s3_100, s4_103, s9_103, s10_103, s11_104, H⟩
  cases k111 with
  | zero => cases H
  | succ k111 =>
  rw [token_Join.l1.eq_2] at H
  refine WC.seq ?_
  refine WC.region ?_
  refine WL.ex rfl (ex_bin (a := .int .i64 x104) (b := .int .i64 (a0.length : Int)) (v := .bool (decide (x104 < (a0.length : Int)))) s11_104 s10_103 bin_lss) ?_
  refine WL.nil ?_
  refine WC.seq ?_
  rcases condE H with ⟨c115, H⟩ | ⟨c115, H⟩
  ·
    refine WC.cond_t ((show _ = Value.bool (decide (x104 < (a0.length : Int))) from rfl).trans (congrArg Value.bool c115)) ?_
    refine WC.skip ?_
    refine WC.seq ?_
    refine WC.block ?_
    refine WC.seq ?_
    refine WC.region ?_
    refine WL.ex rfl (ex_move (v := .int .i64 x104) s11_104) ?_
    obtain ⟨x116, hx116, H⟩ := bindE H
    obtain ⟨ad117, cc121, e118, g119, g120, hl122, hR123, cell124⟩ := Row.ix hra0 hx116
    obtain rfl := T_api_Token.opn hR123
    refine WL.ex rfl (ex_indexAddr (i := x104) s9_103 e118 s11_104 Tryd.underlying28 sz37 g119 g120) ?_
    refine WL.ex rfl (ex_loadN (cs := [.int .i64 x116.f_Kind, encS x116.f_Text, .int .i64 x116.f_Int, .int .i64 x116.f_At.f_Line, .int .i64 x116.f_At.f_Col, .int .i64 x116.f_At.f_Off]) rfl Tryd.underlying37 rfl sz37 cell124) ?_
    refine WL.op rfl ?_
    refine OW.alloc' [.int .i64 (0 : Int), encS ([] : List UInt8), .int .i64 (0 : Int), .int .i64 (0 : Int), .int .i64 (0 : Int), .int .i64 (0 : Int)] 10 HF rfl zr37 rfl ?_
    intro o127 w128 b126 s129 hB130
    replace hra0 := hra0.step s129 rfl
    replace hO102 := hO102.step s129 rfl rfl
    replace hG := hG.step s129 rfl
    replace HF := HF.step s129 rfl
    refine WL.ex rfl (ex_assign (v := .int .i64 x104) rfl) ?_
    refine WL.op rfl ?_
    refine OW.store [.int .i64 x116.f_Kind, encS x116.f_Text, .int .i64 x116.f_Int, .int .i64 x116.f_At.f_Line, .int .i64 x116.f_At.f_Col, .int .i64 x116.f_At.f_Off] rfl (vs := [.int .i64 x116.f_Kind, encS x116.f_Text, .int .i64 x116.f_Int, .int .i64 x116.f_At.f_Line, .int .i64 x116.f_At.f_Col, .int .i64 x116.f_At.f_Off]) ((congrArg Value.cells (show ev _ _ = (.agg #[.int .i64 x116.f_Kind, encS x116.f_Text, .int .i64 x116.f_Int, .int .i64 x116.f_At.f_Line, .int .i64 x116.f_At.f_Col, .int .i64 x116.f_At.f_Off] : Value) from rfl)).trans rfl) sz37 hB130 (Nat.le_of_ble_eq_true rfl) (by intro u_ hu_; simp only [List.mem_cons, List.not_mem_nil, or_false] at hu_; rcases hu_ with rfl | rfl | rfl | rfl | rfl | rfl <;> first | rfl) rfl ?_
    intro w131 s132 hB133
    replace hra0 := hra0.step s132 rfl
    replace hO102 := hO102.step s132 rfl rfl
    replace hG := hG.step s132 rfl
    replace HF := HF.step s132 rfl
    refine WL.nil ?_
    refine WC.seq ?_
    refine WC.region ?_
    refine WL.ex rfl (ex_loadN (cs := [.int .i64 x116.f_Kind, encS x116.f_Text, .int .i64 x116.f_Int, .int .i64 x116.f_At.f_Line, .int .i64 x116.f_At.f_Col, .int .i64 x116.f_At.f_Off]) rfl Tryd.underlying37 rfl sz37 (hB133.cells rfl)) ?_
    obtain ⟨z134, hz134, H⟩ := bindE H
    refine WL.op rfl ?_
    refine OW.call [.agg #[.int .i64 x116.f_Kind, encS x116.f_Text, .int .i64 x116.f_Int, .int .i64 x116.f_At.f_Line, .int .i64 x116.f_At.f_Col, .int .i64 x116.f_At.f_Off]] rfl Tryd.func17 (by kernel_rfl) (by kernel_rfl) (map_cons' rfl rfl) (token_Write.calls k _ _ x116 z134 (HF.ten (V := [0]) (L := []) rfl) (Gl.vw (V := [0]) (L := []) hG rfl) hz134) ?_
    rintro _ w135 ⟨o136, rfl, s137⟩
    refine ⟨_, rfl, ?_⟩
    replace s137 := un_stepL (J := []) (L' := []) s137 rfl rfl
    replace hra0 := hra0.step s137 rfl
    replace hO102 := hO102.step s137 rfl rfl
    replace hG := hG.step s137 rfl
    replace hB133 := hB133.step s137 rfl
    replace HF := HF.step s137 rfl
    refine WL.ex rfl (ex_move (v := .tuple #[encS z134.1, .int .i64 z134.2]) rfl) ?_
    refine WL.ex rfl (ex_extract (vs := #[encS z134.1, .int .i64 z134.2]) (v := encS z134.1) rfl rfl) ?_
    refine WL.ex rfl (ex_extract (vs := #[encS z134.1, .int .i64 z134.2]) (v := .int .i64 z134.2) rfl rfl) ?_
    refine WL.ex rfl (ex_assign (v := encS z134.1) rfl) ?_
    refine WL.ex rfl (ex_assign (v := .int .i64 z134.2) rfl) ?_
    refine WL.nil ?_
    refine WC.seq ?_
    obtain ⟨z139, hz139, H⟩ := bindE H
    refine WC.cut (fun ρ_ w_ => ∃ (o_ : Tags), Fm o0 w0 o_ w_ [] ∧ Row T_api_Token.rep (fun b_ => o_ b_ = 0) (fun b_ => o_ b_ = 0) w_ pA0 a0 ∧ Own Rep.str 9 12 o_ w_ v101 x103 ∧ Gl GG o_ w_ ∧ ρ_ 0 = .slice pA0 a0.length pc0 ∧ ρ_ 2 = encS ([] : List UInt8) ∧ ρ_ 3 = .int .i64 0 ∧ ρ_ 4 = v101 ∧ ρ_ 7 = encS z134.1 ∧ ρ_ 9 = .slice pA0 a0.length pc0 ∧ ρ_ 10 = .int .i64 (a0.length : Int) ∧ ρ_ 11 = .int .i64 x104 ∧ ρ_ 34 = .bool z139) ?case140 ?_
    case case140 =>
      rintro ρ143 w141 ⟨o142, HF, hra0, hO102, hG, s0_137, s2_137, s3_137, s4_137, s7_137, s9_137, s10_137, s11_137, s34_138⟩
      rcases condE H with ⟨c144, H⟩ | ⟨c144, H⟩
      ·
        refine WC.cond_t ((show _ = Value.bool z139 from s34_138).trans (congrArg Value.bool c144)) ?_
        refine WC.seq ?_
        refine WC.region ?_
        refine WL.ex rfl (ex_assign (v := encS ([] : List UInt8)) rfl) ?_
        refine WL.ex rfl (ex_assign (v := .int .i64 2) rfl) ?_
        refine WL.nil ?_
        refine WC.ret ?_
        obtain rfl := Option.some.inj H
        replace H := Ho110
        dsimp only at H
        obtain rfl := Option.some.inj H
        exact ⟨_, (.tmp (encS ([] : List UInt8) : Value) rfl (.tmp (.int .i64 2 : Value) rfl .nil)), _, rfl, HF.out⟩
      ·
        refine WC.cond_f ((show _ = Value.bool z139 from s34_138).trans (congrArg Value.bool c144)) ?_
        refine WC.skip ?_
        refine WC.region ?_
        refine WL.ex rfl (ex_move (v := v101) s4_137) ?_
        refine WL.ex rfl (ex_move (v := encS z134.1) s7_137) ?_
        refine WL.op rfl ?_
        refine OW.row (r := Rep.str) (xs := [z134.1]) [(0, encS z134.1)] [[encS z134.1]] 11 HF rfl Tryd.underlying49 sz9 zr9 rfl (evs_cons rfl rfl) rfl rfl ⟨rfl, trivial⟩ rfl rfl rfl rfl ?_
        intro o145 w146 v148 s147 hO149
        replace hra0 := hra0.step s147 rfl
        replace hO102 := hO102.step s147 rfl rfl
        replace hG := hG.step s147 rfl
        replace HF := HF.step s147 rfl
        obtain ⟨A150, c151, q152_, _, q152⟩ := hO149.row
        obtain ⟨u153, hu153, H⟩ := bindE H
        refine WL.op rfl ?_
        refine OW.append (r := Rep.str) (E := 9) (i := 12) rfl Tryd.underlying49 inf9 rfl (by decide) (by decide) (by decide) rfl ((show _ = (v148 : Value) from rfl).trans q152_) hO102 q152 rfl (of_decide_eq_true (chk_true hu153)) ?_
        intro o154 w155 v156 s157 hO158
        replace hra0 := hra0.step s157 rfl
        replace hG := hG.step s157 rfl
        replace hO149 := hO149.step s157 rfl rfl
        replace HF := HF.step s157 rfl
        refine WL.ex rfl (ex_assign (v := v156) rfl) ?_
        refine WL.nil ?_
        refine WC.region ?_
        refine WL.ex rfl (ex_bin (a := .int .i64 x104) (b := .int .i64 1) (v := .int .i64 (wrap64 (x104 + 1))) s11_137 rfl bin_add64) ?_
        refine WL.ex rfl (ex_move (v := .int .i64 (wrap64 (x104 + 1))) rfl) ?_
        refine WL.nil ?_
        exact ⟨k111, Nat.lt_succ_self _, ⟨_, (x103 ++ [z134.1]), wrap64 (x104 + 1), _, HF, hra0, hO158, hG, s0_137, s2_137, s3_137, rfl, s9_137, s10_137, rfl, H⟩⟩
    have Ho159 := H
    replace H := hz139
    refine WC.region ?_
    refine WL.ex rfl (ex_move (v := .int .i64 z134.2) rfl) ?_
    refine WL.ex rfl (ex_bin (a := .int .i64 z134.2) (b := .int .i64 0) (v := .bool (z134.2 != 0)) rfl rfl bin_neq) ?_
    refine WL.ex rfl (ex_move (v := .bool (z134.2 != 0)) rfl) ?_
    rcases condE H with ⟨c160, H⟩ | ⟨c160, H⟩
    ·
      refine WL.guardNo rfl rfl rfl ((show _ = Value.bool (z134.2 != 0) from rfl).trans (congrArg Value.bool c160)) ?_
      refine WL.guardNo rfl rfl rfl ((show _ = Value.bool (z134.2 != 0) from rfl).trans (congrArg Value.bool c160)) ?_
      refine WL.guardNo rfl rfl rfl ((show _ = Value.bool (z134.2 != 0) from rfl).trans (congrArg Value.bool c160)) ?_
      refine WL.guardNo rfl rfl rfl ((show _ = Value.bool (z134.2 != 0) from rfl).trans (congrArg Value.bool c160)) ?_
      refine WL.guardUn rfl rfl rfl rfl ?_
      refine WL.guardUn rfl rfl rfl rfl ?_
      refine WL.guardUn rfl rfl rfl rfl ?_
      refine WL.guardUn rfl rfl rfl rfl ?_
      refine WL.guardUn rfl rfl rfl rfl ?_
      refine WL.guardNo rfl rfl rfl ((show _ = Value.bool (z134.2 != 0) from rfl).trans (congrArg Value.bool c160)) ?_
      refine WL.ex rfl (ex_pick_t (v := .bool true) ((show _ = Value.bool (z134.2 != 0) from rfl).trans (congrArg Value.bool c160)) rfl) ?_
      refine WL.nil ?_
      obtain rfl := Option.some.inj H
      exact ⟨_, HF, hra0, hO102, hG, s0_100, s2_100, s3_100, s4_103, rfl, s9_103, s10_103, s11_104, rfl⟩
    ·
      refine WL.guardYes rfl rfl rfl ((show _ = Value.bool (z134.2 != 0) from rfl).trans (congrArg Value.bool c160)) ?_
      refine OW.ex rfl (ex_fieldAddr rfl Tryd.underlying37 rfl sz35) ?_
      refine WL.guardYes rfl rfl rfl ((show _ = Value.bool (z134.2 != 0) from rfl).trans (congrArg Value.bool c160)) ?_
      refine OW.ex rfl (ex_load1 (v := .int .i64 x116.f_Kind) rfl Tryd.underlying35 rfl (hB133.cell rfl)) ?_
      refine WL.guardYes rfl rfl rfl ((show _ = Value.bool (z134.2 != 0) from rfl).trans (congrArg Value.bool c160)) ?_
      refine OW.ex rfl (ex_bin (a := .int .i64 x116.f_Kind) (b := .int .i64 0) (v := .bool (x116.f_Kind == 0)) rfl rfl bin_eql) ?_
      refine WL.guardYes rfl rfl rfl ((show _ = Value.bool (z134.2 != 0) from rfl).trans (congrArg Value.bool c160)) ?_
      refine OW.ex rfl (ex_move (v := .bool (x116.f_Kind == 0)) rfl) ?_
      rcases condE H with ⟨c161, H⟩ | ⟨c161, H⟩
      ·
        refine WL.guardYes rfl rfl rfl ((show _ = Value.bool (x116.f_Kind == 0) from rfl).trans (congrArg Value.bool c161)) ?_
        refine OW.ex rfl (ex_move (v := .int .i64 x104) rfl) ?_
        refine WL.guardYes rfl rfl rfl ((show _ = Value.bool (x116.f_Kind == 0) from rfl).trans (congrArg Value.bool c161)) ?_
        refine OW.ex rfl (ex_move (v := .slice pA0 a0.length pc0) s0_100) ?_
        refine WL.guardYes rfl rfl rfl ((show _ = Value.bool (x116.f_Kind == 0) from rfl).trans (congrArg Value.bool c161)) ?_
        refine OW.ex rfl (ex_len_slice (A := pA0) (m := a0.length) (c := pc0) rfl Tryd.underlying28) ?_
        refine WL.guardYes rfl rfl rfl ((show _ = Value.bool (x116.f_Kind == 0) from rfl).trans (congrArg Value.bool c161)) ?_
        refine OW.ex rfl (ex_bin (a := .int .i64 (a0.length : Int)) (b := .int .i64 1) (v := .int .i64 (wrap64 ((a0.length : Int) - 1))) rfl rfl bin_sub64) ?_
        refine WL.guardYes rfl rfl rfl ((show _ = Value.bool (x116.f_Kind == 0) from rfl).trans (congrArg Value.bool c161)) ?_
        refine OW.ex rfl (ex_bin (a := .int .i64 x104) (b := .int .i64 (wrap64 ((a0.length : Int) - 1))) (v := .bool (decide (x104 < (wrap64 ((a0.length : Int) - 1))))) rfl rfl bin_lss) ?_
        refine WL.guardYes rfl rfl rfl ((show _ = Value.bool (z134.2 != 0) from rfl).trans (congrArg Value.bool c160)) ?_
        refine OW.ex rfl (ex_pick_t (v := .bool (decide (x104 < (wrap64 ((a0.length : Int) - 1))))) ((show _ = Value.bool (x116.f_Kind == 0) from rfl).trans (congrArg Value.bool c161)) rfl) ?_
        refine WL.ex rfl (ex_pick_f (v := .bool (decide (x104 < (wrap64 ((a0.length : Int) - 1))))) ((show _ = Value.bool (z134.2 != 0) from rfl).trans (congrArg Value.bool c160)) rfl) ?_
        refine WL.nil ?_
        obtain rfl := Option.some.inj H
        exact ⟨_, HF, hra0, hO102, hG, s0_100, s2_100, s3_100, s4_103, rfl, s9_103, s10_103, s11_104, rfl⟩
      ·
        refine WL.guardNo rfl rfl rfl ((show _ = Value.bool (x116.f_Kind == 0) from rfl).trans (congrArg Value.bool c161)) ?_
        refine WL.guardNo rfl rfl rfl ((show _ = Value.bool (x116.f_Kind == 0) from rfl).trans (congrArg Value.bool c161)) ?_
        refine WL.guardNo rfl rfl rfl ((show _ = Value.bool (x116.f_Kind == 0) from rfl).trans (congrArg Value.bool c161)) ?_
        refine WL.guardNo rfl rfl rfl ((show _ = Value.bool (x116.f_Kind == 0) from rfl).trans (congrArg Value.bool c161)) ?_
        refine WL.guardNo rfl rfl rfl ((show _ = Value.bool (x116.f_Kind == 0) from rfl).trans (congrArg Value.bool c161)) ?_
        refine WL.guardYes rfl rfl rfl ((show _ = Value.bool (z134.2 != 0) from rfl).trans (congrArg Value.bool c160)) ?_
        refine OW.ex rfl (ex_pick_f (v := .bool false) ((show _ = Value.bool (x116.f_Kind == 0) from rfl).trans (congrArg Value.bool c161)) rfl) ?_
        refine WL.ex rfl (ex_pick_f (v := .bool false) ((show _ = Value.bool (z134.2 != 0) from rfl).trans (congrArg Value.bool c160)) rfl) ?_
        refine WL.nil ?_
        obtain rfl := Option.some.inj H
        exact ⟨_, HF, hra0, hO102, hG, s0_100, s2_100, s3_100, s4_103, rfl, s9_103, s10_103, s11_104, rfl⟩
  ·
    refine WC.cond_f ((show _ = Value.bool (decide (x104 < (a0.length : Int))) from rfl).trans (congrArg Value.bool c115)) ?_
    refine WC.exit ?_
    obtain rfl := Option.some.inj H
    exact ⟨_, x103, _, HF, hO102, hG, s2_100, s3_100, s4_103, rfl⟩

/-! ### dictumlaw02_num -/
set_option maxRecDepth 100000 in
theorem dictumlaw02_num.calls (o0 : Tags) (w0 : World) (a0 : Int) (r : Int) (hO : ∀ b, b < w0.heap.size → o0 b < 10) (H : dictumlaw02_num.f a0 = some r) :
    Calls Tryd.prog 21 [.int .i64 a0].toArray w0 fun e_ w_ => ∃ (o_ : Tags), e_ = .returned (one [.int .i64 r]) ∧ Step o0 w0 o_ w_ [] := by
  have HF := Fm.refl hO []
  unfold dictumlaw02_num.f at H
  refine SX.calls [.int .i64 a0] Tryd.func21 rfl rfl ?_
  rw [Tryd.ntmps21]
  refine WC.seq ?_
  refine WC.region ?_
  refine WL.ex rfl (ex_assign (v := .int .i64 0) rfl) ?_
  refine WL.nil ?_
  refine WC.seq ?_
  refine WC.region ?_
  refine WL.ex rfl (ex_move (v := .int .i64 a0) rfl) ?_
  refine WL.ex rfl (ex_assign (v := .int .i64 a0) rfl) ?_
  refine WL.nil ?_
  refine WC.ret ?_
  obtain rfl := Option.some.inj H
  exact ⟨_, (.tmp (.int .i64 a0 : Value) rfl .nil), _, rfl, HF.out⟩
end Go.Proofs.YtjhmhdedonibbaaDoor.X
