import Derived.Test.YtjhmhdedonibbaaDoorXAW2
set_option maxRecDepth 20000
set_option linter.unusedVariables false
set_option linter.unusedSimpArgs false
set_option linter.unnecessarySimpa false
namespace Go.Proofs.YtjhmhdedonibbaaDoor.X
open Go Go.RowKit Go.Proofs.YtjhmhdedonibbaaDoor.SX
/-! ### dictumlaw02_TokenScans -/
set_option maxRecDepth 100000 in
theorem dictumlaw02_TokenScans.calls (k : Nat) (o0 : Tags) (w0 : World) (a0 : List UInt8) (r : Bool) (hO : ∀ b, b < w0.heap.size → o0 b < 10) (hG : Gl GG o0 w0) (H : dictumlaw02_TokenScans.f k a0 = some r) :
    Calls Tryd.prog 4 [encS a0].toArray w0 fun e_ w_ => ∃ (o_ : Tags), e_ = .returned (one [.bool r]) ∧ Step o0 w0 o_ w_ [] := by
  have HF := Fm.refl hO []
  unfold dictumlaw02_TokenScans.f at H
  refine SX.calls [encS a0] Tryd.func4 rfl rfl ?_
  rw [Tryd.ntmps4]
  refine WC.seq ?_
  refine WC.region ?_
  refine WL.ex rfl (ex_assign (v := .bool false) rfl) ?_
  refine WL.nil ?_
  refine WC.seq ?_
  refine WC.region ?_
  refine WL.ex rfl (ex_move (v := encS a0) rfl) ?_
  obtain ⟨z101, hz101, H⟩ := bindE H
  refine WL.op rfl ?_
  refine OW.call [encS a0] rfl Tryd.func14 (by kernel_rfl) (by kernel_rfl) (map_cons' rfl rfl) (token_Scan.calls k _ _ a0 z101 (HF.ten (V := [0]) (L := []) rfl) (Gl.vw (V := [0]) (L := []) hG rfl) hz101) ?_
  rintro _ w102 ⟨o103, v105, rfl, s104, hO106⟩
  refine ⟨_, rfl, ?_⟩
  replace hO106 := Own.un9 (J := [10]) 0 hO106 rfl s104 rfl rfl
  replace s104 := un_stepL (J := [10]) (L' := []) s104 rfl rfl
  replace hG := hG.step s104 rfl
  replace HF := HF.step s104 rfl
  refine WL.ex rfl (ex_move (v := .tuple #[v105, .agg #[.int .i64 z101.2.f_Code, .int .i64 z101.2.f_At.f_Line, .int .i64 z101.2.f_At.f_Col, .int .i64 z101.2.f_At.f_Off]]) rfl) ?_
  refine WL.ex rfl (ex_extract (vs := #[v105, .agg #[.int .i64 z101.2.f_Code, .int .i64 z101.2.f_At.f_Line, .int .i64 z101.2.f_At.f_Col, .int .i64 z101.2.f_At.f_Off]]) (v := v105) rfl rfl) ?_
  refine WL.ex rfl (ex_extract (vs := #[v105, .agg #[.int .i64 z101.2.f_Code, .int .i64 z101.2.f_At.f_Line, .int .i64 z101.2.f_At.f_Col, .int .i64 z101.2.f_At.f_Off]]) (v := .agg #[.int .i64 z101.2.f_Code, .int .i64 z101.2.f_At.f_Line, .int .i64 z101.2.f_At.f_Col, .int .i64 z101.2.f_At.f_Off]) rfl rfl) ?_
  refine WL.op rfl ?_
  refine OW.alloc' [.int .i64 (0 : Int), .int .i64 (0 : Int), .int .i64 (0 : Int), .int .i64 (0 : Int)] 11 HF rfl zr31 rfl ?_
  intro o108 w109 b107 s110 hB111
  replace hG := hG.step s110 rfl
  replace hO106 := hO106.step s110 rfl rfl
  replace HF := HF.step s110 rfl
  refine WL.ex rfl (ex_assign (v := v105) rfl) ?_
  refine WL.op rfl ?_
  refine OW.store [.int .i64 z101.2.f_Code, .int .i64 z101.2.f_At.f_Line, .int .i64 z101.2.f_At.f_Col, .int .i64 z101.2.f_At.f_Off] rfl (vs := [.int .i64 z101.2.f_Code, .int .i64 z101.2.f_At.f_Line, .int .i64 z101.2.f_At.f_Col, .int .i64 z101.2.f_At.f_Off]) ((congrArg Value.cells (show ev _ _ = (.agg #[.int .i64 z101.2.f_Code, .int .i64 z101.2.f_At.f_Line, .int .i64 z101.2.f_At.f_Col, .int .i64 z101.2.f_At.f_Off] : Value) from rfl)).trans rfl) sz31 hB111 (Nat.le_of_ble_eq_true rfl) (by intro u_ hu_; simp only [List.mem_cons, List.not_mem_nil, or_false] at hu_; rcases hu_ with rfl | rfl | rfl | rfl <;> first | rfl) rfl ?_
  intro w112 s113 hB114
  replace hG := hG.step s113 rfl
  replace hO106 := hO106.step s113 rfl rfl
  replace HF := HF.step s113 rfl
  refine WL.nil ?_
  refine WC.seq ?_
  refine WC.region ?_
  refine WL.ex rfl (ex_move (v := encS a0) rfl) ?_
  obtain ⟨z115, hz115, H⟩ := bindE H
  refine WL.op rfl ?_
  refine OW.call [encS a0] rfl Tryd.func15 (by kernel_rfl) (by kernel_rfl) (map_cons' rfl rfl) (dictumref02_Scan.calls k _ _ a0 z115 (HF.ten (V := [0]) (L := []) rfl)  hz115) ?_
  rintro _ w116 ⟨o117, v119, rfl, s118, hO120⟩
  refine ⟨_, rfl, ?_⟩
  replace hO120 := Own.un9 (J := [12]) 0 hO120 rfl s118 rfl rfl
  replace s118 := un_stepL (J := [12]) (L' := []) s118 rfl rfl
  replace hG := hG.step s118 rfl
  replace hO106 := hO106.step s118 rfl rfl
  replace hB114 := hB114.step s118 rfl
  replace HF := HF.step s118 rfl
  refine WL.ex rfl (ex_move (v := .tuple #[v119, .agg #[.int .i64 z115.2.f_Code, .int .i64 z115.2.f_At.f_Line, .int .i64 z115.2.f_At.f_Col, .int .i64 z115.2.f_At.f_Off]]) rfl) ?_
  refine WL.ex rfl (ex_extract (vs := #[v119, .agg #[.int .i64 z115.2.f_Code, .int .i64 z115.2.f_At.f_Line, .int .i64 z115.2.f_At.f_Col, .int .i64 z115.2.f_At.f_Off]]) (v := v119) rfl rfl) ?_
  refine WL.ex rfl (ex_extract (vs := #[v119, .agg #[.int .i64 z115.2.f_Code, .int .i64 z115.2.f_At.f_Line, .int .i64 z115.2.f_At.f_Col, .int .i64 z115.2.f_At.f_Off]]) (v := .agg #[.int .i64 z115.2.f_Code, .int .i64 z115.2.f_At.f_Line, .int .i64 z115.2.f_At.f_Col, .int .i64 z115.2.f_At.f_Off]) rfl rfl) ?_
  refine WL.op rfl ?_
  refine OW.alloc' [.int .i64 (0 : Int), .int .i64 (0 : Int), .int .i64 (0 : Int), .int .i64 (0 : Int)] 13 HF rfl zr31 rfl ?_
  intro o122 w123 b121 s124 hB125
  replace hG := hG.step s124 rfl
  replace hO106 := hO106.step s124 rfl rfl
  replace hB114 := hB114.step s124 rfl
  replace hO120 := hO120.step s124 rfl rfl
  replace HF := HF.step s124 rfl
  refine WL.ex rfl (ex_assign (v := v119) rfl) ?_
  refine WL.op rfl ?_
  refine OW.store [.int .i64 z115.2.f_Code, .int .i64 z115.2.f_At.f_Line, .int .i64 z115.2.f_At.f_Col, .int .i64 z115.2.f_At.f_Off] rfl (vs := [.int .i64 z115.2.f_Code, .int .i64 z115.2.f_At.f_Line, .int .i64 z115.2.f_At.f_Col, .int .i64 z115.2.f_At.f_Off]) ((congrArg Value.cells (show ev _ _ = (.agg #[.int .i64 z115.2.f_Code, .int .i64 z115.2.f_At.f_Line, .int .i64 z115.2.f_At.f_Col, .int .i64 z115.2.f_At.f_Off] : Value) from rfl)).trans rfl) sz31 hB125 (Nat.le_of_ble_eq_true rfl) (by intro u_ hu_; simp only [List.mem_cons, List.not_mem_nil, or_false] at hu_; rcases hu_ with rfl | rfl | rfl | rfl <;> first | rfl) rfl ?_
  intro w126 s127 hB128
  replace hG := hG.step s127 rfl
  replace hO106 := hO106.step s127 rfl rfl
  replace hB114 := hB114.step s127 rfl
  replace hO120 := hO120.step s127 rfl rfl
  replace HF := HF.step s127 rfl
  refine WL.nil ?_
  refine WC.seq ?_
  refine WC.region ?_
  refine WL.ex rfl (ex_loadN (cs := [.int .i64 z101.2.f_Code, .int .i64 z101.2.f_At.f_Line, .int .i64 z101.2.f_At.f_Col, .int .i64 z101.2.f_At.f_Off]) rfl Tryd.underlying31 rfl sz31 (hB114.cells rfl)) ?_
  refine WL.ex rfl (ex_loadN (cs := [.int .i64 z115.2.f_Code, .int .i64 z115.2.f_At.f_Line, .int .i64 z115.2.f_At.f_Col, .int .i64 z115.2.f_At.f_Off]) rfl Tryd.underlying31 rfl sz31 (hB128.cells rfl)) ?_
  refine WL.ex rfl (ex_bin (a := .agg #[.int .i64 z101.2.f_Code, .int .i64 z101.2.f_At.f_Line, .int .i64 z101.2.f_At.f_Col, .int .i64 z101.2.f_At.f_Off]) (b := .agg #[.int .i64 z115.2.f_Code, .int .i64 z115.2.f_At.f_Line, .int .i64 z115.2.f_At.f_Col, .int .i64 z115.2.f_At.f_Off]) (v := .bool (T_api_Fault.eqb z101.2 z115.2)) rfl rfl (bin_eql_agg (by kernel_rfl) (EqR.agg Tryd.underlying31 (by kernel_rfl) (EqF.cons (by decide) (PartR.one Tryd.underlying29 rfl rfl) (PartR.one Tryd.underlying29 rfl rfl) (EqR.int Tryd.underlying29) (EqF.cons (by decide) (PartR.many Tryd.underlying23 rfl sz23) (PartR.many Tryd.underlying23 rfl sz23) (EqR.agg Tryd.underlying23 (by kernel_rfl) (EqF.cons (by decide) (PartR.one Tryd.underlying3 rfl rfl) (PartR.one Tryd.underlying3 rfl rfl) (EqR.int Tryd.underlying3) (EqF.cons (by decide) (PartR.one Tryd.underlying3 rfl rfl) (PartR.one Tryd.underlying3 rfl rfl) (EqR.int Tryd.underlying3) (EqF.cons (by decide) (PartR.one Tryd.underlying3 rfl rfl) (PartR.one Tryd.underlying3 rfl rfl) (EqR.int Tryd.underlying3) EqF.nil)))) EqF.nil))))) ?_
  refine WL.ex rfl (ex_move (v := .bool (T_api_Fault.eqb z101.2 z115.2)) rfl) ?_
  rcases condE H with ⟨c129, H⟩ | ⟨c129, H⟩
  ·
    refine WL.guardYes rfl rfl rfl ((show _ = Value.bool (T_api_Fault.eqb z101.2 z115.2) from rfl).trans (congrArg Value.bool c129)) ?_
    refine OW.ex rfl (ex_move (v := v105) rfl) ?_
    refine WL.guardYes rfl rfl rfl ((show _ = Value.bool (T_api_Fault.eqb z101.2 z115.2) from rfl).trans (congrArg Value.bool c129)) ?_
    refine OW.ex rfl (ex_move (v := v119) rfl) ?_
    refine WL.guardYes rfl rfl rfl ((show _ = Value.bool (T_api_Fault.eqb z101.2 z115.2) from rfl).trans (congrArg Value.bool c129)) ?_
    obtain ⟨A130, c131, q132e, q132l, q132⟩ := Own.vwRow (V := [0, 10, 12]) (L := []) hO106 rfl rfl
    obtain ⟨A133, c134, q135e, q135l, q135⟩ := Own.vwRow (V := [0, 10, 12]) (L := []) hO120 rfl rfl
    obtain ⟨z136, hz136, H⟩ := bindE H
    have q132e' := q132e
    have q135e' := q135e
    refine OW.call [v105, v119] rfl Tryd.func16 (by kernel_rfl) (by kernel_rfl) (map_cons' rfl (map_cons' rfl rfl)) (by simp only [q132e, q135e]; exact (dictumlaw02_same.calls k _ _ A130 c131 A133 c134 z101.1 z115.1 z136 (HF.ten (V := [0, 10, 12]) (L := []) rfl) q132 q132l q135 q135l hz136)) ?_
    rintro _ w137 ⟨o138, rfl, s139⟩
    refine ⟨_, rfl, ?_⟩
    replace s139 := un_stepL (J := []) (L' := []) s139 rfl rfl
    replace hG := hG.step s139 rfl
    replace hO106 := hO106.step s139 rfl rfl
    replace hB114 := hB114.step s139 rfl
    replace hO120 := hO120.step s139 rfl rfl
    replace hB128 := hB128.step s139 rfl
    replace HF := HF.step s139 rfl
    refine WL.ex rfl (ex_pick_t (v := .bool z136) ((show _ = Value.bool (T_api_Fault.eqb z101.2 z115.2) from rfl).trans (congrArg Value.bool c129)) rfl) ?_
    refine WL.ex rfl (ex_move (v := .bool z136) rfl) ?_
    rcases condE H with ⟨c140, H⟩ | ⟨c140, H⟩
    ·
      refine WL.guardYes rfl rfl rfl ((show _ = Value.bool z136 from rfl).trans (congrArg Value.bool c140)) ?_
      obtain ⟨z141, hz141, H⟩ := bindE H
      refine OW.call [] rfl Tryd.func13 (by kernel_rfl) (by kernel_rfl) rfl (dictumlaw02_alive.calls k _ _ z141 (HF.ten (V := [0]) (L := []) rfl) (Gl.vw (V := [0]) (L := []) hG rfl) hz141) ?_
      rintro _ w142 ⟨o143, rfl, s144⟩
      refine ⟨_, rfl, ?_⟩
      replace s144 := un_stepL (J := []) (L' := []) s144 rfl rfl
      replace hG := hG.step s144 rfl
      replace hO106 := hO106.step s144 rfl rfl
      replace hB114 := hB114.step s144 rfl
      replace hO120 := hO120.step s144 rfl rfl
      replace hB128 := hB128.step s144 rfl
      replace HF := HF.step s144 rfl
      refine WL.ex rfl (ex_pick_t (v := .bool z141) ((show _ = Value.bool z136 from rfl).trans (congrArg Value.bool c140)) rfl) ?_
      refine WL.ex rfl (ex_assign (v := .bool z141) rfl) ?_
      refine WL.nil ?_
      refine WC.ret ?_
      obtain rfl := Option.some.inj H
      exact ⟨_, (.tmp (.bool z141 : Value) rfl .nil), _, rfl, HF.out⟩
    ·
      refine WL.guardNo rfl rfl rfl ((show _ = Value.bool z136 from rfl).trans (congrArg Value.bool c140)) ?_
      refine WL.ex rfl (ex_pick_f (v := .bool false) ((show _ = Value.bool z136 from rfl).trans (congrArg Value.bool c140)) rfl) ?_
      refine WL.ex rfl (ex_assign (v := .bool false) rfl) ?_
      refine WL.nil ?_
      refine WC.ret ?_
      obtain rfl := Option.some.inj H
      exact ⟨_, (.tmp (.bool false : Value) rfl .nil), _, rfl, HF.out⟩
  ·
    refine WL.guardNo rfl rfl rfl ((show _ = Value.bool (T_api_Fault.eqb z101.2 z115.2) from rfl).trans (congrArg Value.bool c129)) ?_
    refine WL.guardNo rfl rfl rfl ((show _ = Value.bool (T_api_Fault.eqb z101.2 z115.2) from rfl).trans (congrArg Value.bool c129)) ?_
    refine WL.guardNo rfl rfl rfl ((show _ = Value.bool (T_api_Fault.eqb z101.2 z115.2) from rfl).trans (congrArg Value.bool c129)) ?_
    refine WL.ex rfl (ex_pick_f (v := .bool false) ((show _ = Value.bool (T_api_Fault.eqb z101.2 z115.2) from rfl).trans (congrArg Value.bool c129)) rfl) ?_
    refine WL.ex rfl (ex_move (v := .bool false) rfl) ?_
    refine WL.guardNo rfl rfl rfl rfl ?_
    refine WL.ex rfl (ex_pick_f (v := .bool false) rfl rfl) ?_
    refine WL.ex rfl (ex_assign (v := .bool false) rfl) ?_
    refine WL.nil ?_
    refine WC.ret ?_
    obtain rfl := Option.some.inj H
    exact ⟨_, (.tmp (.bool false : Value) rfl .nil), _, rfl, HF.out⟩
end Go.Proofs.YtjhmhdedonibbaaDoor.X
