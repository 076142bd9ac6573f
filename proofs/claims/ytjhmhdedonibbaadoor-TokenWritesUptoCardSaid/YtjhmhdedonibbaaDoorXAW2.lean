import Derived.Test.YtjhmhdedonibbaaDoorXAW1
set_option maxRecDepth 20000
set_option linter.unusedVariables false
set_option linter.unusedSimpArgs false
set_option linter.unnecessarySimpa false
namespace Go.Proofs.YtjhmhdedonibbaaDoor.X
open Go Go.RowKit Go.Proofs.YtjhmhdedonibbaaDoor.SX
/-! ### dictumlaw02_alive -/
set_option maxRecDepth 100000 in
theorem dictumlaw02_alive.calls (k : Nat) (o0 : Tags) (w0 : World) (r : Bool) (hO : ∀ b, b < w0.heap.size → o0 b < 10) (hG : Gl GG o0 w0) (H : dictumlaw02_alive.f k = some r) :
    Calls Tryd.prog 13 [].toArray w0 fun e_ w_ => ∃ (o_ : Tags), e_ = .returned (one [.bool r]) ∧ Step o0 w0 o_ w_ [] := by
  have HF := Fm.refl hO []
  unfold dictumlaw02_alive.f at H
  refine SX.calls [] Tryd.func13 rfl rfl ?_
  rw [Tryd.ntmps13]
  refine WC.seq ?_
  refine WC.region ?_
  refine WL.ex rfl (ex_assign (v := .bool false) rfl) ?_
  refine WL.nil ?_
  refine WC.seq ?_
  refine WC.region ?_
  obtain ⟨z101, hz101, H⟩ := bindE H
  refine WL.op rfl ?_
  refine OW.call [encS ([112, 32, 45, 62, 32, 40, 113, 49, 41, 32, 35, 32, 120] : List UInt8)] rfl Tryd.func14 (by kernel_rfl) (by kernel_rfl) (map_cons' rfl rfl) (token_Scan.calls k _ _ ([112, 32, 45, 62, 32, 40, 113, 49, 41, 32, 35, 32, 120] : List UInt8) z101 (HF.ten (V := [0]) (L := []) rfl) (Gl.vw (V := [0]) (L := []) hG rfl) hz101) ?_
  rintro _ w102 ⟨o103, v105, rfl, s104, hO106⟩
  refine ⟨_, rfl, ?_⟩
  replace hO106 := Own.un9 (J := [10]) 0 hO106 rfl s104 rfl rfl
  replace s104 := un_stepL (J := [10]) (L' := []) s104 rfl rfl
  replace hG := hG.step s104 rfl
  replace HF := HF.step s104 rfl
  refine WL.ex rfl (ex_move (v := .tuple #[v105, .agg #[.int .i64 z101.2.f_Code, .int .i64 z101.2.f_At.f_Line, .int .i64 z101.2.f_At.f_Col, .int .i64 z101.2.f_At.f_Off]]) rfl) ?_
  refine WL.ex rfl (ex_extract (vs := #[v105, .agg #[.int .i64 z101.2.f_Code, .int .i64 z101.2.f_At.f_Line, .int .i64 z101.2.f_At.f_Col, .int .i64 z101.2.f_At.f_Off]]) (v := v105) rfl rfl) ?_
  refine WL.ex rfl (ex_extract (vs := #[v105, .agg #[.int .i64 z101.2.f_Code, .int .i64 z101.2.f_At.f_Line, .int .i64 z101.2.f_At.f_Col, .int .i64 z101.2.f_At.f_Off]]) (v := .agg #[.int .i64 z101.2.f_Code, .int .i64 z101.2.f_At.f_Line, .int .i64 z101.2.f_At.f_Col, .int .i64 z101.2.f_At.f_Off]) rfl rfl) ?_
  refine WL.op rfl ?_
  refine OW.alloc' [.int .i64 (0 : Int), .int .i64 (0 : Int), .int .i64 (0 : Int), .int .i64 (0 : Int)] 11 HF rfl zr31 rfl ?_
  intro o108 w109 b107 s110 hB111
  replace hG := hG.step s110 rfl
  replace hO106 := hO106.step s110 rfl rfl
  replace HF := HF.step s110 rfl
  refine WL.ex rfl (ex_assign (v := v105) rfl) ?_
  refine WL.op rfl ?_
  refine OW.store [.int .i64 z101.2.f_Code, .int .i64 z101.2.f_At.f_Line, .int .i64 z101.2.f_At.f_Col, .int .i64 z101.2.f_At.f_Off] rfl (vs := [.int .i64 z101.2.f_Code, .int .i64 z101.2.f_At.f_Line, .int .i64 z101.2.f_At.f_Col, .int .i64 z101.2.f_At.f_Off]) ((congrArg Value.cells (show ev _ _ = (.agg #[.int .i64 z101.2.f_Code, .int .i64 z101.2.f_At.f_Line, .int .i64 z101.2.f_At.f_Col, .int .i64 z101.2.f_At.f_Off] : Value) from rfl)).trans rfl) sz31 hB111 (Nat.le_of_ble_eq_true rfl) (by intro u_ hu_; simp only [List.mem_cons, List.not_mem_nil, or_false] at hu_; rcases hu_ with rfl | rfl | rfl | rfl <;> first | rfl) rfl ?_
  intro w112 s113 hB114
  replace hG := hG.step s113 rfl
  replace hO106 := hO106.step s113 rfl rfl
  replace HF := HF.step s113 rfl
  refine WL.nil ?_
  refine WC.seq ?_
  refine WC.region ?_
  obtain ⟨z115, hz115, H⟩ := bindE H
  refine WL.op rfl ?_
  refine OW.call [encS ([97, 10, 32, 48, 48, 55] : List UInt8)] rfl Tryd.func14 (by kernel_rfl) (by kernel_rfl) (map_cons' rfl rfl) (token_Scan.calls k _ _ ([97, 10, 32, 48, 48, 55] : List UInt8) z115 (HF.ten (V := [0]) (L := []) rfl) (Gl.vw (V := [0]) (L := []) hG rfl) hz115) ?_
  rintro _ w116 ⟨o117, v119, rfl, s118, hO120⟩
  refine ⟨_, rfl, ?_⟩
  replace hO120 := Own.un9 (J := [12]) 0 hO120 rfl s118 rfl rfl
  replace s118 := un_stepL (J := [12]) (L' := []) s118 rfl rfl
  replace hG := hG.step s118 rfl
  replace hO106 := hO106.step s118 rfl rfl
  replace hB114 := hB114.step s118 rfl
  replace HF := HF.step s118 rfl
  refine WL.ex rfl (ex_move (v := .tuple #[v119, .agg #[.int .i64 z115.2.f_Code, .int .i64 z115.2.f_At.f_Line, .int .i64 z115.2.f_At.f_Col, .int .i64 z115.2.f_At.f_Off]]) rfl) ?_
  refine WL.ex rfl (ex_extract (vs := #[v119, .agg #[.int .i64 z115.2.f_Code, .int .i64 z115.2.f_At.f_Line, .int .i64 z115.2.f_At.f_Col, .int .i64 z115.2.f_At.f_Off]]) (v := v119) rfl rfl) ?_
  refine WL.ex rfl (ex_extract (vs := #[v119, .agg #[.int .i64 z115.2.f_Code, .int .i64 z115.2.f_At.f_Line, .int .i64 z115.2.f_At.f_Col, .int .i64 z115.2.f_At.f_Off]]) (v := .agg #[.int .i64 z115.2.f_Code, .int .i64 z115.2.f_At.f_Line, .int .i64 z115.2.f_At.f_Col, .int .i64 z115.2.f_At.f_Off]) rfl rfl) ?_
  refine WL.op rfl ?_
  refine OW.alloc' [.int .i64 (0 : Int), .int .i64 (0 : Int), .int .i64 (0 : Int), .int .i64 (0 : Int)] 13 HF rfl zr31 rfl ?_
  intro o122 w123 b121 s124 hB125
  replace hG := hG.step s124 rfl
  replace hO106 := hO106.step s124 rfl rfl
  replace hB114 := hB114.step s124 rfl
  replace hO120 := hO120.step s124 rfl rfl
  replace HF := HF.step s124 rfl
  refine WL.ex rfl (ex_assign (v := v119) rfl) ?_
  refine WL.op rfl ?_
  refine OW.store [.int .i64 z115.2.f_Code, .int .i64 z115.2.f_At.f_Line, .int .i64 z115.2.f_At.f_Col, .int .i64 z115.2.f_At.f_Off] rfl (vs := [.int .i64 z115.2.f_Code, .int .i64 z115.2.f_At.f_Line, .int .i64 z115.2.f_At.f_Col, .int .i64 z115.2.f_At.f_Off]) ((congrArg Value.cells (show ev _ _ = (.agg #[.int .i64 z115.2.f_Code, .int .i64 z115.2.f_At.f_Line, .int .i64 z115.2.f_At.f_Col, .int .i64 z115.2.f_At.f_Off] : Value) from rfl)).trans rfl) sz31 hB125 (Nat.le_of_ble_eq_true rfl) (by intro u_ hu_; simp only [List.mem_cons, List.not_mem_nil, or_false] at hu_; rcases hu_ with rfl | rfl | rfl | rfl <;> first | rfl) rfl ?_
  intro w126 s127 hB128
  replace hG := hG.step s127 rfl
  replace hO106 := hO106.step s127 rfl rfl
  replace hB114 := hB114.step s127 rfl
  replace hO120 := hO120.step s127 rfl rfl
  replace HF := HF.step s127 rfl
  refine WL.nil ?_
  refine WC.seq ?_
  refine WC.region ?_
  refine WL.ex rfl (ex_build (cs := [.int .i64 1, encS ([97] : List UInt8), .int .i64 (0 : Int), .int .i64 (0 : Int), .int .i64 (0 : Int), .int .i64 (0 : Int)]) [(0, 1), (1, 1), (2, 1), (3, 3)] [(0, .int .i64 1), (1, encS ([97] : List UInt8))] [.int .i64 0, .string ⟨#[]⟩, .int .i64 0, .int .i64 0, .int .i64 0, .int .i64 0] Tryd.underlying37 zr37 rfl (by kernel_rfl) (evs_cons rfl (evs_cons rfl rfl)) rfl) ?_
  refine WL.ex rfl (ex_build (cs := [.int .i64 3, encS ([45, 62] : List UInt8), .int .i64 (0 : Int), .int .i64 (0 : Int), .int .i64 (0 : Int), .int .i64 (0 : Int)]) [(0, 1), (1, 1), (2, 1), (3, 3)] [(0, .int .i64 3), (1, encS ([45, 62] : List UInt8))] [.int .i64 0, .string ⟨#[]⟩, .int .i64 0, .int .i64 0, .int .i64 0, .int .i64 0] Tryd.underlying37 zr37 rfl (by kernel_rfl) (evs_cons rfl (evs_cons rfl rfl)) rfl) ?_
  refine WL.ex rfl (ex_build (cs := [.int .i64 2, encS ([] : List UInt8), .int .i64 7, .int .i64 (0 : Int), .int .i64 (0 : Int), .int .i64 (0 : Int)]) [(0, 1), (1, 1), (2, 1), (3, 3)] [(0, .int .i64 2), (2, .int .i64 7)] [.int .i64 0, .string ⟨#[]⟩, .int .i64 0, .int .i64 0, .int .i64 0, .int .i64 0] Tryd.underlying37 zr37 rfl (by kernel_rfl) (evs_cons rfl (evs_cons rfl rfl)) rfl) ?_
  refine WL.op rfl ?_
  refine OW.row (r := T_api_Token.rep) (xs := [(⟨1, ([97] : List UInt8), (0 : Int), (⟨(0 : Int), (0 : Int), (0 : Int)⟩ : T_api_Spot)⟩ : T_api_Token), (⟨3, ([45, 62] : List UInt8), (0 : Int), (⟨(0 : Int), (0 : Int), (0 : Int)⟩ : T_api_Spot)⟩ : T_api_Token), (⟨2, ([] : List UInt8), 7, (⟨(0 : Int), (0 : Int), (0 : Int)⟩ : T_api_Spot)⟩ : T_api_Token)]) [(0, .agg #[.int .i64 1, encS ([97] : List UInt8), .int .i64 (0 : Int), .int .i64 (0 : Int), .int .i64 (0 : Int), .int .i64 (0 : Int)]), (1, .agg #[.int .i64 3, encS ([45, 62] : List UInt8), .int .i64 (0 : Int), .int .i64 (0 : Int), .int .i64 (0 : Int), .int .i64 (0 : Int)]), (2, .agg #[.int .i64 2, encS ([] : List UInt8), .int .i64 7, .int .i64 (0 : Int), .int .i64 (0 : Int), .int .i64 (0 : Int)])] [[.int .i64 1, encS ([97] : List UInt8), .int .i64 (0 : Int), .int .i64 (0 : Int), .int .i64 (0 : Int), .int .i64 (0 : Int)], [.int .i64 3, encS ([45, 62] : List UInt8), .int .i64 (0 : Int), .int .i64 (0 : Int), .int .i64 (0 : Int), .int .i64 (0 : Int)], [.int .i64 2, encS ([] : List UInt8), .int .i64 7, .int .i64 (0 : Int), .int .i64 (0 : Int), .int .i64 (0 : Int)]] 14 HF rfl Tryd.underlying28 sz37 zr37 rfl (evs_cons rfl (evs_cons rfl (evs_cons rfl rfl))) rfl rfl ⟨(T_api_Token.mk' (⟨1, ([97] : List UInt8), (0 : Int), (⟨(0 : Int), (0 : Int), (0 : Int)⟩ : T_api_Spot)⟩ : T_api_Token) ), (T_api_Token.mk' (⟨3, ([45, 62] : List UInt8), (0 : Int), (⟨(0 : Int), (0 : Int), (0 : Int)⟩ : T_api_Spot)⟩ : T_api_Token) ), (T_api_Token.mk' (⟨2, ([] : List UInt8), 7, (⟨(0 : Int), (0 : Int), (0 : Int)⟩ : T_api_Spot)⟩ : T_api_Token) ), trivial⟩ rfl rfl rfl rfl ?_
  intro o129 w130 v132 s131 hO133
  replace hG := hG.step s131 rfl
  replace hO106 := hO106.step s131 rfl rfl
  replace hB114 := hB114.step s131 rfl
  replace hO120 := hO120.step s131 rfl rfl
  replace hB128 := hB128.step s131 rfl
  replace HF := HF.step s131 rfl
  obtain ⟨A134, c135, q136e, q136l, q136⟩ := Own.vwRow (V := [0, 14]) (L := []) hO133 rfl rfl
  obtain ⟨z137, hz137, H⟩ := bindE H
  have q136e' := q136e
  refine WL.op rfl ?_
  refine OW.call [v132] rfl Tryd.func19 (by kernel_rfl) (by kernel_rfl) (map_cons' rfl rfl) (by simp only [q136e]; exact (token_Join.calls k _ _ A134 c135 ([(⟨1, ([97] : List UInt8), (0 : Int), (⟨(0 : Int), (0 : Int), (0 : Int)⟩ : T_api_Spot)⟩ : T_api_Token), (⟨3, ([45, 62] : List UInt8), (0 : Int), (⟨(0 : Int), (0 : Int), (0 : Int)⟩ : T_api_Spot)⟩ : T_api_Token), (⟨2, ([] : List UInt8), 7, (⟨(0 : Int), (0 : Int), (0 : Int)⟩ : T_api_Spot)⟩ : T_api_Token)]) z137 (HF.ten (V := [0, 14]) (L := []) rfl) q136 q136l (Gl.vw (V := [0, 14]) (L := []) hG rfl) hz137)) ?_
  rintro _ w138 ⟨o139, rfl, s140⟩
  refine ⟨_, rfl, ?_⟩
  replace s140 := un_stepL (J := []) (L' := []) s140 rfl rfl
  replace hG := hG.step s140 rfl
  replace hO106 := hO106.step s140 rfl rfl
  replace hB114 := hB114.step s140 rfl
  replace hO120 := hO120.step s140 rfl rfl
  replace hB128 := hB128.step s140 rfl
  replace hO133 := hO133.step s140 rfl rfl
  replace HF := HF.step s140 rfl
  refine WL.ex rfl (ex_move (v := .tuple #[encS z137.1, .int .i64 z137.2]) rfl) ?_
  refine WL.ex rfl (ex_extract (vs := #[encS z137.1, .int .i64 z137.2]) (v := encS z137.1) rfl rfl) ?_
  refine WL.ex rfl (ex_extract (vs := #[encS z137.1, .int .i64 z137.2]) (v := .int .i64 z137.2) rfl rfl) ?_
  refine WL.ex rfl (ex_assign (v := encS z137.1) rfl) ?_
  refine WL.ex rfl (ex_assign (v := .int .i64 z137.2) rfl) ?_
  refine WL.nil ?_
  refine WC.seq ?_
  refine WC.region ?_
  obtain ⟨z141, hz141, H⟩ := bindE H
  refine WL.op rfl ?_
  refine OW.call [encS ([194, 172, 112, 226, 136, 168, 226, 138, 165] : List UInt8)] rfl Tryd.func14 (by kernel_rfl) (by kernel_rfl) (map_cons' rfl rfl) (token_Scan.calls k _ _ ([194, 172, 112, 226, 136, 168, 226, 138, 165] : List UInt8) z141 (HF.ten (V := [0]) (L := []) rfl) (Gl.vw (V := [0]) (L := []) hG rfl) hz141) ?_
  rintro _ w142 ⟨o143, v145, rfl, s144, hO146⟩
  refine ⟨_, rfl, ?_⟩
  replace hO146 := Own.un9 (J := [15]) 0 hO146 rfl s144 rfl rfl
  replace s144 := un_stepL (J := [15]) (L' := []) s144 rfl rfl
  replace hG := hG.step s144 rfl
  replace hO106 := hO106.step s144 rfl rfl
  replace hB114 := hB114.step s144 rfl
  replace hO120 := hO120.step s144 rfl rfl
  replace hB128 := hB128.step s144 rfl
  replace hO133 := hO133.step s144 rfl rfl
  replace HF := HF.step s144 rfl
  refine WL.ex rfl (ex_move (v := .tuple #[v145, .agg #[.int .i64 z141.2.f_Code, .int .i64 z141.2.f_At.f_Line, .int .i64 z141.2.f_At.f_Col, .int .i64 z141.2.f_At.f_Off]]) rfl) ?_
  refine WL.ex rfl (ex_extract (vs := #[v145, .agg #[.int .i64 z141.2.f_Code, .int .i64 z141.2.f_At.f_Line, .int .i64 z141.2.f_At.f_Col, .int .i64 z141.2.f_At.f_Off]]) (v := v145) rfl rfl) ?_
  refine WL.ex rfl (ex_extract (vs := #[v145, .agg #[.int .i64 z141.2.f_Code, .int .i64 z141.2.f_At.f_Line, .int .i64 z141.2.f_At.f_Col, .int .i64 z141.2.f_At.f_Off]]) (v := .agg #[.int .i64 z141.2.f_Code, .int .i64 z141.2.f_At.f_Line, .int .i64 z141.2.f_At.f_Col, .int .i64 z141.2.f_At.f_Off]) rfl rfl) ?_
  refine WL.op rfl ?_
  refine OW.alloc' [.int .i64 (0 : Int), .int .i64 (0 : Int), .int .i64 (0 : Int), .int .i64 (0 : Int)] 16 HF rfl zr31 rfl ?_
  intro o148 w149 b147 s150 hB151
  replace hG := hG.step s150 rfl
  replace hO106 := hO106.step s150 rfl rfl
  replace hB114 := hB114.step s150 rfl
  replace hO120 := hO120.step s150 rfl rfl
  replace hB128 := hB128.step s150 rfl
  replace hO133 := hO133.step s150 rfl rfl
  replace hO146 := hO146.step s150 rfl rfl
  replace HF := HF.step s150 rfl
  refine WL.ex rfl (ex_assign (v := v145) rfl) ?_
  refine WL.op rfl ?_
  refine OW.store [.int .i64 z141.2.f_Code, .int .i64 z141.2.f_At.f_Line, .int .i64 z141.2.f_At.f_Col, .int .i64 z141.2.f_At.f_Off] rfl (vs := [.int .i64 z141.2.f_Code, .int .i64 z141.2.f_At.f_Line, .int .i64 z141.2.f_At.f_Col, .int .i64 z141.2.f_At.f_Off]) ((congrArg Value.cells (show ev _ _ = (.agg #[.int .i64 z141.2.f_Code, .int .i64 z141.2.f_At.f_Line, .int .i64 z141.2.f_At.f_Col, .int .i64 z141.2.f_At.f_Off] : Value) from rfl)).trans rfl) sz31 hB151 (Nat.le_of_ble_eq_true rfl) (by intro u_ hu_; simp only [List.mem_cons, List.not_mem_nil, or_false] at hu_; rcases hu_ with rfl | rfl | rfl | rfl <;> first | rfl) rfl ?_
  intro w152 s153 hB154
  replace hG := hG.step s153 rfl
  replace hO106 := hO106.step s153 rfl rfl
  replace hB114 := hB114.step s153 rfl
  replace hO120 := hO120.step s153 rfl rfl
  replace hB128 := hB128.step s153 rfl
  replace hO133 := hO133.step s153 rfl rfl
  replace hO146 := hO146.step s153 rfl rfl
  replace HF := HF.step s153 rfl
  refine WL.nil ?_
  refine WC.seq ?_
  refine WC.region ?_
  refine WL.ex rfl (ex_loadN (cs := [.int .i64 z101.2.f_Code, .int .i64 z101.2.f_At.f_Line, .int .i64 z101.2.f_At.f_Col, .int .i64 z101.2.f_At.f_Off]) rfl Tryd.underlying31 rfl sz31 (hB114.cells rfl)) ?_
  refine WL.ex rfl (ex_build (cs := [.int .i64 (0 : Int), .int .i64 (0 : Int), .int .i64 (0 : Int), .int .i64 (0 : Int)]) [(0, 1), (1, 3)] [] [.int .i64 0, .int .i64 0, .int .i64 0, .int .i64 0] Tryd.underlying31 zr31 rfl (by kernel_rfl) rfl rfl) ?_
  refine WL.ex rfl (ex_bin (a := .agg #[.int .i64 z101.2.f_Code, .int .i64 z101.2.f_At.f_Line, .int .i64 z101.2.f_At.f_Col, .int .i64 z101.2.f_At.f_Off]) (b := .agg #[.int .i64 (0 : Int), .int .i64 (0 : Int), .int .i64 (0 : Int), .int .i64 (0 : Int)]) (v := .bool (T_api_Fault.eqb z101.2 (⟨(0 : Int), (⟨(0 : Int), (0 : Int), (0 : Int)⟩ : T_api_Spot)⟩ : T_api_Fault))) rfl rfl (bin_eql_agg (by kernel_rfl) (EqR.agg Tryd.underlying31 (by kernel_rfl) (EqF.cons (by decide) (PartR.one Tryd.underlying29 rfl rfl) (PartR.one Tryd.underlying29 rfl rfl) (EqR.int Tryd.underlying29) (EqF.cons (by decide) (PartR.many Tryd.underlying23 rfl sz23) (PartR.many Tryd.underlying23 rfl sz23) (EqR.agg Tryd.underlying23 (by kernel_rfl) (EqF.cons (by decide) (PartR.one Tryd.underlying3 rfl rfl) (PartR.one Tryd.underlying3 rfl rfl) (EqR.int Tryd.underlying3) (EqF.cons (by decide) (PartR.one Tryd.underlying3 rfl rfl) (PartR.one Tryd.underlying3 rfl rfl) (EqR.int Tryd.underlying3) (EqF.cons (by decide) (PartR.one Tryd.underlying3 rfl rfl) (PartR.one Tryd.underlying3 rfl rfl) (EqR.int Tryd.underlying3) EqF.nil)))) EqF.nil))))) ?_
  refine WL.ex rfl (ex_move (v := .bool (T_api_Fault.eqb z101.2 (⟨(0 : Int), (⟨(0 : Int), (0 : Int), (0 : Int)⟩ : T_api_Spot)⟩ : T_api_Fault))) rfl) ?_
  rcases condE H with ⟨c155, H⟩ | ⟨c155, H⟩
  ·
    refine WL.guardYes rfl rfl rfl ((show _ = Value.bool (T_api_Fault.eqb z101.2 (⟨(0 : Int), (⟨(0 : Int), (0 : Int), (0 : Int)⟩ : T_api_Spot)⟩ : T_api_Fault)) from rfl).trans (congrArg Value.bool c155)) ?_
    refine OW.ex rfl (ex_move (v := v105) rfl) ?_
    refine WL.guardYes rfl rfl rfl ((show _ = Value.bool (T_api_Fault.eqb z101.2 (⟨(0 : Int), (⟨(0 : Int), (0 : Int), (0 : Int)⟩ : T_api_Spot)⟩ : T_api_Fault)) from rfl).trans (congrArg Value.bool c155)) ?_
    obtain ⟨A156, c157, q158⟩ := hO106.slice
    refine OW.ex rfl (ex_len_slice ((show _ = (v105 : Value) from rfl).trans q158) Tryd.underlying28) ?_
    refine WL.guardYes rfl rfl rfl ((show _ = Value.bool (T_api_Fault.eqb z101.2 (⟨(0 : Int), (⟨(0 : Int), (0 : Int), (0 : Int)⟩ : T_api_Spot)⟩ : T_api_Fault)) from rfl).trans (congrArg Value.bool c155)) ?_
    refine OW.ex rfl (ex_bin (a := .int .i64 (z101.1.length : Int)) (b := .int .i64 6) (v := .bool ((z101.1.length : Int) == 6)) rfl rfl bin_eql) ?_
    refine WL.ex rfl (ex_pick_t (v := .bool ((z101.1.length : Int) == 6)) ((show _ = Value.bool (T_api_Fault.eqb z101.2 (⟨(0 : Int), (⟨(0 : Int), (0 : Int), (0 : Int)⟩ : T_api_Spot)⟩ : T_api_Fault)) from rfl).trans (congrArg Value.bool c155)) rfl) ?_
    refine WL.ex rfl (ex_move (v := .bool ((z101.1.length : Int) == 6)) rfl) ?_
    rcases condE H with ⟨c159, H⟩ | ⟨c159, H⟩
    ·
      refine WL.guardYes rfl rfl rfl ((show _ = Value.bool ((z101.1.length : Int) == 6) from rfl).trans (congrArg Value.bool c159)) ?_
      refine OW.ex rfl (ex_move (v := v105) rfl) ?_
      refine WL.guardYes rfl rfl rfl ((show _ = Value.bool ((z101.1.length : Int) == 6) from rfl).trans (congrArg Value.bool c159)) ?_
      obtain ⟨x160, hx160, H⟩ := bindE H
      obtain ⟨A165, c166, q167_⟩ := hO106.slice
      obtain ⟨ad161, cc168, e162, g163, g164, hl169, hR170, cell171⟩ := Row.ix (Own.rowOf hO106 q167_) hx160
      obtain rfl := T_api_Token.opn hR170
      refine OW.ex rfl (ex_indexAddr (i := (1 : Int)) ((show _ = (v105 : Value) from rfl).trans q167_) e162 rfl Tryd.underlying28 sz37 g163 g164) ?_
      refine WL.guardYes rfl rfl rfl ((show _ = Value.bool ((z101.1.length : Int) == 6) from rfl).trans (congrArg Value.bool c159)) ?_
      refine OW.ex rfl (ex_fieldAddr rfl Tryd.underlying37 rfl sz9) ?_
      refine WL.guardYes rfl rfl rfl ((show _ = Value.bool ((z101.1.length : Int) == 6) from rfl).trans (congrArg Value.bool c159)) ?_
      refine OW.ex rfl (ex_load1 (v := encS x160.f_Text) rfl Tryd.underlying9 rfl (cell171 1 _ rfl)) ?_
      refine WL.guardYes rfl rfl rfl ((show _ = Value.bool ((z101.1.length : Int) == 6) from rfl).trans (congrArg Value.bool c159)) ?_
      refine OW.ex rfl (ex_bin (a := encS x160.f_Text) (b := encS ([45, 62] : List UInt8)) (v := .bool (x160.f_Text == ([45, 62] : List UInt8))) rfl rfl bin_eql_str) ?_
      refine WL.ex rfl (ex_pick_t (v := .bool (x160.f_Text == ([45, 62] : List UInt8))) ((show _ = Value.bool ((z101.1.length : Int) == 6) from rfl).trans (congrArg Value.bool c159)) rfl) ?_
      refine WL.ex rfl (ex_move (v := .bool (x160.f_Text == ([45, 62] : List UInt8))) rfl) ?_
      rcases condE H with ⟨c173, H⟩ | ⟨c173, H⟩
      ·
        refine WL.guardYes rfl rfl rfl ((show _ = Value.bool (x160.f_Text == ([45, 62] : List UInt8)) from rfl).trans (congrArg Value.bool c173)) ?_
        refine OW.ex rfl (ex_move (v := v105) rfl) ?_
        refine WL.guardYes rfl rfl rfl ((show _ = Value.bool (x160.f_Text == ([45, 62] : List UInt8)) from rfl).trans (congrArg Value.bool c173)) ?_
        obtain ⟨x174, hx174, H⟩ := bindE H
        obtain ⟨A179, c180, q181_⟩ := hO106.slice
        obtain ⟨ad175, cc182, e176, g177, g178, hl183, hR184, cell185⟩ := Row.ix (Own.rowOf hO106 q181_) hx174
        obtain rfl := T_api_Token.opn hR184
        refine OW.ex rfl (ex_indexAddr (i := (3 : Int)) ((show _ = (v105 : Value) from rfl).trans q181_) e176 rfl Tryd.underlying28 sz37 g177 g178) ?_
        refine WL.guardYes rfl rfl rfl ((show _ = Value.bool (x160.f_Text == ([45, 62] : List UInt8)) from rfl).trans (congrArg Value.bool c173)) ?_
        refine OW.ex rfl (ex_fieldAddr rfl Tryd.underlying37 rfl sz9) ?_
        refine WL.guardYes rfl rfl rfl ((show _ = Value.bool (x160.f_Text == ([45, 62] : List UInt8)) from rfl).trans (congrArg Value.bool c173)) ?_
        refine OW.ex rfl (ex_load1 (v := encS x174.f_Text) rfl Tryd.underlying9 rfl (cell185 1 _ rfl)) ?_
        refine WL.guardYes rfl rfl rfl ((show _ = Value.bool (x160.f_Text == ([45, 62] : List UInt8)) from rfl).trans (congrArg Value.bool c173)) ?_
        refine OW.ex rfl (ex_bin (a := encS x174.f_Text) (b := encS ([113, 49] : List UInt8)) (v := .bool (x174.f_Text == ([113, 49] : List UInt8))) rfl rfl bin_eql_str) ?_
        refine WL.ex rfl (ex_pick_t (v := .bool (x174.f_Text == ([113, 49] : List UInt8))) ((show _ = Value.bool (x160.f_Text == ([45, 62] : List UInt8)) from rfl).trans (congrArg Value.bool c173)) rfl) ?_
        refine WL.ex rfl (ex_move (v := .bool (x174.f_Text == ([113, 49] : List UInt8))) rfl) ?_
        rcases condE H with ⟨c187, H⟩ | ⟨c187, H⟩
        ·
          refine WL.guardYes rfl rfl rfl ((show _ = Value.bool (x174.f_Text == ([113, 49] : List UInt8)) from rfl).trans (congrArg Value.bool c187)) ?_
          refine OW.ex rfl (ex_move (v := v105) rfl) ?_
          refine WL.guardYes rfl rfl rfl ((show _ = Value.bool (x174.f_Text == ([113, 49] : List UInt8)) from rfl).trans (congrArg Value.bool c187)) ?_
          obtain ⟨x188, hx188, H⟩ := bindE H
          obtain ⟨A193, c194, q195_⟩ := hO106.slice
          obtain ⟨ad189, cc196, e190, g191, g192, hl197, hR198, cell199⟩ := Row.ix (Own.rowOf hO106 q195_) hx188
          obtain rfl := T_api_Token.opn hR198
          refine OW.ex rfl (ex_indexAddr (i := (3 : Int)) ((show _ = (v105 : Value) from rfl).trans q195_) e190 rfl Tryd.underlying28 sz37 g191 g192) ?_
          refine WL.guardYes rfl rfl rfl ((show _ = Value.bool (x174.f_Text == ([113, 49] : List UInt8)) from rfl).trans (congrArg Value.bool c187)) ?_
          refine OW.ex rfl (ex_fieldAddr rfl Tryd.underlying37 rfl sz23) ?_
          refine WL.guardYes rfl rfl rfl ((show _ = Value.bool (x174.f_Text == ([113, 49] : List UInt8)) from rfl).trans (congrArg Value.bool c187)) ?_
          refine OW.ex rfl (ex_fieldAddr rfl Tryd.underlying23 rfl sz3) ?_
          refine WL.guardYes rfl rfl rfl ((show _ = Value.bool (x174.f_Text == ([113, 49] : List UInt8)) from rfl).trans (congrArg Value.bool c187)) ?_
          refine OW.ex rfl (ex_load1 (v := .int .i64 x188.f_At.f_Off) rfl Tryd.underlying3 rfl (cell199 5 _ rfl)) ?_
          refine WL.guardYes rfl rfl rfl ((show _ = Value.bool (x174.f_Text == ([113, 49] : List UInt8)) from rfl).trans (congrArg Value.bool c187)) ?_
          refine OW.ex rfl (ex_bin (a := .int .i64 x188.f_At.f_Off) (b := .int .i64 6) (v := .bool (x188.f_At.f_Off == 6)) rfl rfl bin_eql) ?_
          refine WL.ex rfl (ex_pick_t (v := .bool (x188.f_At.f_Off == 6)) ((show _ = Value.bool (x174.f_Text == ([113, 49] : List UInt8)) from rfl).trans (congrArg Value.bool c187)) rfl) ?_
          refine WL.ex rfl (ex_move (v := .bool (x188.f_At.f_Off == 6)) rfl) ?_
          rcases condE H with ⟨c201, H⟩ | ⟨c201, H⟩
          ·
            refine WL.guardYes rfl rfl rfl ((show _ = Value.bool (x188.f_At.f_Off == 6) from rfl).trans (congrArg Value.bool c201)) ?_
            refine OW.ex rfl (ex_move (v := v105) rfl) ?_
            refine WL.guardYes rfl rfl rfl ((show _ = Value.bool (x188.f_At.f_Off == 6) from rfl).trans (congrArg Value.bool c201)) ?_
            obtain ⟨x202, hx202, H⟩ := bindE H
            obtain ⟨A207, c208, q209_⟩ := hO106.slice
            obtain ⟨ad203, cc210, e204, g205, g206, hl211, hR212, cell213⟩ := Row.ix (Own.rowOf hO106 q209_) hx202
            obtain rfl := T_api_Token.opn hR212
            refine OW.ex rfl (ex_indexAddr (i := (5 : Int)) ((show _ = (v105 : Value) from rfl).trans q209_) e204 rfl Tryd.underlying28 sz37 g205 g206) ?_
            refine WL.guardYes rfl rfl rfl ((show _ = Value.bool (x188.f_At.f_Off == 6) from rfl).trans (congrArg Value.bool c201)) ?_
            refine OW.ex rfl (ex_fieldAddr rfl Tryd.underlying37 rfl sz35) ?_
            refine WL.guardYes rfl rfl rfl ((show _ = Value.bool (x188.f_At.f_Off == 6) from rfl).trans (congrArg Value.bool c201)) ?_
            refine OW.ex rfl (ex_load1 (v := .int .i64 x202.f_Kind) rfl Tryd.underlying35 rfl (cell213 0 _ rfl)) ?_
            refine WL.guardYes rfl rfl rfl ((show _ = Value.bool (x188.f_At.f_Off == 6) from rfl).trans (congrArg Value.bool c201)) ?_
            refine OW.ex rfl (ex_bin (a := .int .i64 x202.f_Kind) (b := .int .i64 0) (v := .bool (x202.f_Kind == 0)) rfl rfl bin_eql) ?_
            refine WL.ex rfl (ex_pick_t (v := .bool (x202.f_Kind == 0)) ((show _ = Value.bool (x188.f_At.f_Off == 6) from rfl).trans (congrArg Value.bool c201)) rfl) ?_
            refine WL.ex rfl (ex_move (v := .bool (x202.f_Kind == 0)) rfl) ?_
            rcases condE H with ⟨c215, H⟩ | ⟨c215, H⟩
            ·
              refine WL.guardYes rfl rfl rfl ((show _ = Value.bool (x202.f_Kind == 0) from rfl).trans (congrArg Value.bool c215)) ?_
              refine OW.ex rfl (ex_loadN (cs := [.int .i64 z115.2.f_Code, .int .i64 z115.2.f_At.f_Line, .int .i64 z115.2.f_At.f_Col, .int .i64 z115.2.f_At.f_Off]) rfl Tryd.underlying31 rfl sz31 (hB128.cells rfl)) ?_
              refine WL.guardYes rfl rfl rfl ((show _ = Value.bool (x202.f_Kind == 0) from rfl).trans (congrArg Value.bool c215)) ?_
              refine OW.ex rfl (ex_build (cs := [.int .i64 2, .int .i64 2, .int .i64 3]) [(0, 1), (1, 1), (2, 1)] [(2, .int .i64 3), (0, .int .i64 2), (1, .int .i64 2)] [.int .i64 0, .int .i64 0, .int .i64 0] Tryd.underlying23 zr23 rfl (by kernel_rfl) (evs_cons rfl (evs_cons rfl (evs_cons rfl rfl))) rfl) ?_
              refine WL.guardYes rfl rfl rfl ((show _ = Value.bool (x202.f_Kind == 0) from rfl).trans (congrArg Value.bool c215)) ?_
              refine OW.ex rfl (ex_build (cs := [.int .i64 21, .int .i64 2, .int .i64 2, .int .i64 3]) [(0, 1), (1, 3)] [(0, .int .i64 21), (1, .agg #[.int .i64 2, .int .i64 2, .int .i64 3])] [.int .i64 0, .int .i64 0, .int .i64 0, .int .i64 0] Tryd.underlying31 zr31 rfl (by kernel_rfl) (evs_cons rfl (evs_cons rfl rfl)) rfl) ?_
              refine WL.guardYes rfl rfl rfl ((show _ = Value.bool (x202.f_Kind == 0) from rfl).trans (congrArg Value.bool c215)) ?_
              refine OW.ex rfl (ex_bin (a := .agg #[.int .i64 z115.2.f_Code, .int .i64 z115.2.f_At.f_Line, .int .i64 z115.2.f_At.f_Col, .int .i64 z115.2.f_At.f_Off]) (b := .agg #[.int .i64 21, .int .i64 2, .int .i64 2, .int .i64 3]) (v := .bool (T_api_Fault.eqb z115.2 (⟨21, (⟨2, 2, 3⟩ : T_api_Spot)⟩ : T_api_Fault))) rfl rfl (bin_eql_agg (by kernel_rfl) (EqR.agg Tryd.underlying31 (by kernel_rfl) (EqF.cons (by decide) (PartR.one Tryd.underlying29 rfl rfl) (PartR.one Tryd.underlying29 rfl rfl) (EqR.int Tryd.underlying29) (EqF.cons (by decide) (PartR.many Tryd.underlying23 rfl sz23) (PartR.many Tryd.underlying23 rfl sz23) (EqR.agg Tryd.underlying23 (by kernel_rfl) (EqF.cons (by decide) (PartR.one Tryd.underlying3 rfl rfl) (PartR.one Tryd.underlying3 rfl rfl) (EqR.int Tryd.underlying3) (EqF.cons (by decide) (PartR.one Tryd.underlying3 rfl rfl) (PartR.one Tryd.underlying3 rfl rfl) (EqR.int Tryd.underlying3) (EqF.cons (by decide) (PartR.one Tryd.underlying3 rfl rfl) (PartR.one Tryd.underlying3 rfl rfl) (EqR.int Tryd.underlying3) EqF.nil)))) EqF.nil))))) ?_
              refine WL.ex rfl (ex_pick_t (v := .bool (T_api_Fault.eqb z115.2 (⟨21, (⟨2, 2, 3⟩ : T_api_Spot)⟩ : T_api_Fault))) ((show _ = Value.bool (x202.f_Kind == 0) from rfl).trans (congrArg Value.bool c215)) rfl) ?_
              refine WL.ex rfl (ex_move (v := .bool (T_api_Fault.eqb z115.2 (⟨21, (⟨2, 2, 3⟩ : T_api_Spot)⟩ : T_api_Fault))) rfl) ?_
              rcases condE H with ⟨c216, H⟩ | ⟨c216, H⟩
              ·
                refine WL.guardYes rfl rfl rfl ((show _ = Value.bool (T_api_Fault.eqb z115.2 (⟨21, (⟨2, 2, 3⟩ : T_api_Spot)⟩ : T_api_Fault)) from rfl).trans (congrArg Value.bool c216)) ?_
                refine OW.ex rfl (ex_move (v := .int .i64 z137.2) rfl) ?_
                refine WL.guardYes rfl rfl rfl ((show _ = Value.bool (T_api_Fault.eqb z115.2 (⟨21, (⟨2, 2, 3⟩ : T_api_Spot)⟩ : T_api_Fault)) from rfl).trans (congrArg Value.bool c216)) ?_
                obtain ⟨z217, hz217, H⟩ := bindE H
                refine OW.call [.int .i64 z137.2] rfl Tryd.func21 (by kernel_rfl) (by kernel_rfl) (map_cons' rfl rfl) (dictumlaw02_num.calls _ _ z137.2 z217 (HF.ten (V := [0]) (L := []) rfl)  hz217) ?_
                rintro _ w218 ⟨o219, rfl, s220⟩
                refine ⟨_, rfl, ?_⟩
                replace s220 := un_stepL (J := []) (L' := []) s220 rfl rfl
                replace hG := hG.step s220 rfl
                replace hO106 := hO106.step s220 rfl rfl
                replace hB114 := hB114.step s220 rfl
                replace hO120 := hO120.step s220 rfl rfl
                replace hB128 := hB128.step s220 rfl
                replace hO133 := hO133.step s220 rfl rfl
                replace hO146 := hO146.step s220 rfl rfl
                replace hB154 := hB154.step s220 rfl
                replace HF := HF.step s220 rfl
                refine WL.guardYes rfl rfl rfl ((show _ = Value.bool (T_api_Fault.eqb z115.2 (⟨21, (⟨2, 2, 3⟩ : T_api_Spot)⟩ : T_api_Fault)) from rfl).trans (congrArg Value.bool c216)) ?_
                refine OW.ex rfl (ex_bin (a := .int .i64 z217) (b := .int .i64 0) (v := .bool (z217 == 0)) rfl rfl bin_eql) ?_
                refine WL.ex rfl (ex_pick_t (v := .bool (z217 == 0)) ((show _ = Value.bool (T_api_Fault.eqb z115.2 (⟨21, (⟨2, 2, 3⟩ : T_api_Spot)⟩ : T_api_Fault)) from rfl).trans (congrArg Value.bool c216)) rfl) ?_
                refine WL.ex rfl (ex_move (v := .bool (z217 == 0)) rfl) ?_
                rcases condE H with ⟨c221, H⟩ | ⟨c221, H⟩
                ·
                  refine WL.guardYes rfl rfl rfl ((show _ = Value.bool (z217 == 0) from rfl).trans (congrArg Value.bool c221)) ?_
                  refine OW.ex rfl (ex_move (v := encS z137.1) rfl) ?_
                  refine WL.guardYes rfl rfl rfl ((show _ = Value.bool (z217 == 0) from rfl).trans (congrArg Value.bool c221)) ?_
                  refine OW.ex rfl (ex_bin (a := encS z137.1) (b := encS ([97, 32, 45, 62, 32, 55] : List UInt8)) (v := .bool (z137.1 == ([97, 32, 45, 62, 32, 55] : List UInt8))) rfl rfl bin_eql_str) ?_
                  refine WL.ex rfl (ex_pick_t (v := .bool (z137.1 == ([97, 32, 45, 62, 32, 55] : List UInt8))) ((show _ = Value.bool (z217 == 0) from rfl).trans (congrArg Value.bool c221)) rfl) ?_
                  refine WL.ex rfl (ex_move (v := .bool (z137.1 == ([97, 32, 45, 62, 32, 55] : List UInt8))) rfl) ?_
                  rcases condE H with ⟨c222, H⟩ | ⟨c222, H⟩
                  ·
                    refine WL.guardYes rfl rfl rfl ((show _ = Value.bool (z137.1 == ([97, 32, 45, 62, 32, 55] : List UInt8)) from rfl).trans (congrArg Value.bool c222)) ?_
                    refine OW.ex rfl (ex_loadN (cs := [.int .i64 z141.2.f_Code, .int .i64 z141.2.f_At.f_Line, .int .i64 z141.2.f_At.f_Col, .int .i64 z141.2.f_At.f_Off]) rfl Tryd.underlying31 rfl sz31 (hB154.cells rfl)) ?_
                    refine WL.guardYes rfl rfl rfl ((show _ = Value.bool (z137.1 == ([97, 32, 45, 62, 32, 55] : List UInt8)) from rfl).trans (congrArg Value.bool c222)) ?_
                    refine OW.ex rfl (ex_build (cs := [.int .i64 (0 : Int), .int .i64 (0 : Int), .int .i64 (0 : Int), .int .i64 (0 : Int)]) [(0, 1), (1, 3)] [] [.int .i64 0, .int .i64 0, .int .i64 0, .int .i64 0] Tryd.underlying31 zr31 rfl (by kernel_rfl) rfl rfl) ?_
                    refine WL.guardYes rfl rfl rfl ((show _ = Value.bool (z137.1 == ([97, 32, 45, 62, 32, 55] : List UInt8)) from rfl).trans (congrArg Value.bool c222)) ?_
                    refine OW.ex rfl (ex_bin (a := .agg #[.int .i64 z141.2.f_Code, .int .i64 z141.2.f_At.f_Line, .int .i64 z141.2.f_At.f_Col, .int .i64 z141.2.f_At.f_Off]) (b := .agg #[.int .i64 (0 : Int), .int .i64 (0 : Int), .int .i64 (0 : Int), .int .i64 (0 : Int)]) (v := .bool (T_api_Fault.eqb z141.2 (⟨(0 : Int), (⟨(0 : Int), (0 : Int), (0 : Int)⟩ : T_api_Spot)⟩ : T_api_Fault))) rfl rfl (bin_eql_agg (by kernel_rfl) (EqR.agg Tryd.underlying31 (by kernel_rfl) (EqF.cons (by decide) (PartR.one Tryd.underlying29 rfl rfl) (PartR.one Tryd.underlying29 rfl rfl) (EqR.int Tryd.underlying29) (EqF.cons (by decide) (PartR.many Tryd.underlying23 rfl sz23) (PartR.many Tryd.underlying23 rfl sz23) (EqR.agg Tryd.underlying23 (by kernel_rfl) (EqF.cons (by decide) (PartR.one Tryd.underlying3 rfl rfl) (PartR.one Tryd.underlying3 rfl rfl) (EqR.int Tryd.underlying3) (EqF.cons (by decide) (PartR.one Tryd.underlying3 rfl rfl) (PartR.one Tryd.underlying3 rfl rfl) (EqR.int Tryd.underlying3) (EqF.cons (by decide) (PartR.one Tryd.underlying3 rfl rfl) (PartR.one Tryd.underlying3 rfl rfl) (EqR.int Tryd.underlying3) EqF.nil)))) EqF.nil))))) ?_
                    refine WL.ex rfl (ex_pick_t (v := .bool (T_api_Fault.eqb z141.2 (⟨(0 : Int), (⟨(0 : Int), (0 : Int), (0 : Int)⟩ : T_api_Spot)⟩ : T_api_Fault))) ((show _ = Value.bool (z137.1 == ([97, 32, 45, 62, 32, 55] : List UInt8)) from rfl).trans (congrArg Value.bool c222)) rfl) ?_
                    refine WL.ex rfl (ex_move (v := .bool (T_api_Fault.eqb z141.2 (⟨(0 : Int), (⟨(0 : Int), (0 : Int), (0 : Int)⟩ : T_api_Spot)⟩ : T_api_Fault))) rfl) ?_
                    rcases condE H with ⟨c223, H⟩ | ⟨c223, H⟩
                    ·
                      refine WL.guardYes rfl rfl rfl ((show _ = Value.bool (T_api_Fault.eqb z141.2 (⟨(0 : Int), (⟨(0 : Int), (0 : Int), (0 : Int)⟩ : T_api_Spot)⟩ : T_api_Fault)) from rfl).trans (congrArg Value.bool c223)) ?_
                      refine OW.ex rfl (ex_move (v := v145) rfl) ?_
                      refine WL.guardYes rfl rfl rfl ((show _ = Value.bool (T_api_Fault.eqb z141.2 (⟨(0 : Int), (⟨(0 : Int), (0 : Int), (0 : Int)⟩ : T_api_Spot)⟩ : T_api_Fault)) from rfl).trans (congrArg Value.bool c223)) ?_
                      obtain ⟨A224, c225, q226⟩ := hO146.slice
                      refine OW.ex rfl (ex_len_slice ((show _ = (v145 : Value) from rfl).trans q226) Tryd.underlying28) ?_
                      refine WL.guardYes rfl rfl rfl ((show _ = Value.bool (T_api_Fault.eqb z141.2 (⟨(0 : Int), (⟨(0 : Int), (0 : Int), (0 : Int)⟩ : T_api_Spot)⟩ : T_api_Fault)) from rfl).trans (congrArg Value.bool c223)) ?_
                      refine OW.ex rfl (ex_bin (a := .int .i64 (z141.1.length : Int)) (b := .int .i64 5) (v := .bool ((z141.1.length : Int) == 5)) rfl rfl bin_eql) ?_
                      refine WL.ex rfl (ex_pick_t (v := .bool ((z141.1.length : Int) == 5)) ((show _ = Value.bool (T_api_Fault.eqb z141.2 (⟨(0 : Int), (⟨(0 : Int), (0 : Int), (0 : Int)⟩ : T_api_Spot)⟩ : T_api_Fault)) from rfl).trans (congrArg Value.bool c223)) rfl) ?_
                      refine WL.ex rfl (ex_move (v := .bool ((z141.1.length : Int) == 5)) rfl) ?_
                      rcases condE H with ⟨c227, H⟩ | ⟨c227, H⟩
                      ·
                        refine WL.guardYes rfl rfl rfl ((show _ = Value.bool ((z141.1.length : Int) == 5) from rfl).trans (congrArg Value.bool c227)) ?_
                        refine OW.ex rfl (ex_move (v := v145) rfl) ?_
                        refine WL.guardYes rfl rfl rfl ((show _ = Value.bool ((z141.1.length : Int) == 5) from rfl).trans (congrArg Value.bool c227)) ?_
                        obtain ⟨x228, hx228, H⟩ := bindE H
                        obtain ⟨A233, c234, q235_⟩ := hO146.slice
                        obtain ⟨ad229, cc236, e230, g231, g232, hl237, hR238, cell239⟩ := Row.ix (Own.rowOf hO146 q235_) hx228
                        obtain rfl := T_api_Token.opn hR238
                        refine OW.ex rfl (ex_indexAddr (i := (0 : Int)) ((show _ = (v145 : Value) from rfl).trans q235_) e230 rfl Tryd.underlying28 sz37 g231 g232) ?_
                        refine WL.guardYes rfl rfl rfl ((show _ = Value.bool ((z141.1.length : Int) == 5) from rfl).trans (congrArg Value.bool c227)) ?_
                        refine OW.ex rfl (ex_fieldAddr rfl Tryd.underlying37 rfl sz9) ?_
                        refine WL.guardYes rfl rfl rfl ((show _ = Value.bool ((z141.1.length : Int) == 5) from rfl).trans (congrArg Value.bool c227)) ?_
                        refine OW.ex rfl (ex_load1 (v := encS x228.f_Text) rfl Tryd.underlying9 rfl (cell239 1 _ rfl)) ?_
                        refine WL.guardYes rfl rfl rfl ((show _ = Value.bool ((z141.1.length : Int) == 5) from rfl).trans (congrArg Value.bool c227)) ?_
                        refine OW.ex rfl (ex_bin (a := encS x228.f_Text) (b := encS ([126] : List UInt8)) (v := .bool (x228.f_Text == ([126] : List UInt8))) rfl rfl bin_eql_str) ?_
                        refine WL.ex rfl (ex_pick_t (v := .bool (x228.f_Text == ([126] : List UInt8))) ((show _ = Value.bool ((z141.1.length : Int) == 5) from rfl).trans (congrArg Value.bool c227)) rfl) ?_
                        refine WL.ex rfl (ex_move (v := .bool (x228.f_Text == ([126] : List UInt8))) rfl) ?_
                        rcases condE H with ⟨c241, H⟩ | ⟨c241, H⟩
                        ·
                          refine WL.guardYes rfl rfl rfl ((show _ = Value.bool (x228.f_Text == ([126] : List UInt8)) from rfl).trans (congrArg Value.bool c241)) ?_
                          refine OW.ex rfl (ex_move (v := v145) rfl) ?_
                          refine WL.guardYes rfl rfl rfl ((show _ = Value.bool (x228.f_Text == ([126] : List UInt8)) from rfl).trans (congrArg Value.bool c241)) ?_
                          obtain ⟨x242, hx242, H⟩ := bindE H
                          obtain ⟨A247, c248, q249_⟩ := hO146.slice
                          obtain ⟨ad243, cc250, e244, g245, g246, hl251, hR252, cell253⟩ := Row.ix (Own.rowOf hO146 q249_) hx242
                          obtain rfl := T_api_Token.opn hR252
                          refine OW.ex rfl (ex_indexAddr (i := (3 : Int)) ((show _ = (v145 : Value) from rfl).trans q249_) e244 rfl Tryd.underlying28 sz37 g245 g246) ?_
                          refine WL.guardYes rfl rfl rfl ((show _ = Value.bool (x228.f_Text == ([126] : List UInt8)) from rfl).trans (congrArg Value.bool c241)) ?_
                          refine OW.ex rfl (ex_fieldAddr rfl Tryd.underlying37 rfl sz9) ?_
                          refine WL.guardYes rfl rfl rfl ((show _ = Value.bool (x228.f_Text == ([126] : List UInt8)) from rfl).trans (congrArg Value.bool c241)) ?_
                          refine OW.ex rfl (ex_load1 (v := encS x242.f_Text) rfl Tryd.underlying9 rfl (cell253 1 _ rfl)) ?_
                          refine WL.guardYes rfl rfl rfl ((show _ = Value.bool (x228.f_Text == ([126] : List UInt8)) from rfl).trans (congrArg Value.bool c241)) ?_
                          refine OW.ex rfl (ex_bin (a := encS x242.f_Text) (b := encS ([102, 97, 108, 115, 101] : List UInt8)) (v := .bool (x242.f_Text == ([102, 97, 108, 115, 101] : List UInt8))) rfl rfl bin_eql_str) ?_
                          refine WL.ex rfl (ex_pick_t (v := .bool (x242.f_Text == ([102, 97, 108, 115, 101] : List UInt8))) ((show _ = Value.bool (x228.f_Text == ([126] : List UInt8)) from rfl).trans (congrArg Value.bool c241)) rfl) ?_
                          refine WL.ex rfl (ex_move (v := .bool (x242.f_Text == ([102, 97, 108, 115, 101] : List UInt8))) rfl) ?_
                          rcases condE H with ⟨c255, H⟩ | ⟨c255, H⟩
                          ·
                            refine WL.guardYes rfl rfl rfl ((show _ = Value.bool (x242.f_Text == ([102, 97, 108, 115, 101] : List UInt8)) from rfl).trans (congrArg Value.bool c255)) ?_
                            refine OW.ex rfl (ex_move (v := v145) rfl) ?_
                            refine WL.guardYes rfl rfl rfl ((show _ = Value.bool (x242.f_Text == ([102, 97, 108, 115, 101] : List UInt8)) from rfl).trans (congrArg Value.bool c255)) ?_
                            obtain ⟨x256, hx256, H⟩ := bindE H
                            obtain ⟨A261, c262, q263_⟩ := hO146.slice
                            obtain ⟨ad257, cc264, e258, g259, g260, hl265, hR266, cell267⟩ := Row.ix (Own.rowOf hO146 q263_) hx256
                            obtain rfl := T_api_Token.opn hR266
                            refine OW.ex rfl (ex_indexAddr (i := (3 : Int)) ((show _ = (v145 : Value) from rfl).trans q263_) e258 rfl Tryd.underlying28 sz37 g259 g260) ?_
                            refine WL.guardYes rfl rfl rfl ((show _ = Value.bool (x242.f_Text == ([102, 97, 108, 115, 101] : List UInt8)) from rfl).trans (congrArg Value.bool c255)) ?_
                            refine OW.ex rfl (ex_fieldAddr rfl Tryd.underlying37 rfl sz35) ?_
                            refine WL.guardYes rfl rfl rfl ((show _ = Value.bool (x242.f_Text == ([102, 97, 108, 115, 101] : List UInt8)) from rfl).trans (congrArg Value.bool c255)) ?_
                            refine OW.ex rfl (ex_load1 (v := .int .i64 x256.f_Kind) rfl Tryd.underlying35 rfl (cell267 0 _ rfl)) ?_
                            refine WL.guardYes rfl rfl rfl ((show _ = Value.bool (x242.f_Text == ([102, 97, 108, 115, 101] : List UInt8)) from rfl).trans (congrArg Value.bool c255)) ?_
                            refine OW.ex rfl (ex_bin (a := .int .i64 x256.f_Kind) (b := .int .i64 1) (v := .bool (x256.f_Kind == 1)) rfl rfl bin_eql) ?_
                            refine WL.ex rfl (ex_pick_t (v := .bool (x256.f_Kind == 1)) ((show _ = Value.bool (x242.f_Text == ([102, 97, 108, 115, 101] : List UInt8)) from rfl).trans (congrArg Value.bool c255)) rfl) ?_
                            refine WL.ex rfl (ex_move (v := .bool (x256.f_Kind == 1)) rfl) ?_
                            rcases condE H with ⟨c269, H⟩ | ⟨c269, H⟩
                            ·
                              refine WL.guardYes rfl rfl rfl ((show _ = Value.bool (x256.f_Kind == 1) from rfl).trans (congrArg Value.bool c269)) ?_
                              obtain ⟨z270, hz270, H⟩ := bindE H
                              refine OW.call [encS ([113, 95, 49, 39] : List UInt8)] rfl Tryd.func11 (by kernel_rfl) (by kernel_rfl) (map_cons' rfl rfl) (token_Name.calls k _ _ ([113, 95, 49, 39] : List UInt8) z270 (HF.ten (V := [0]) (L := []) rfl) (Gl.vw (V := [0]) (L := []) hG rfl) hz270) ?_
                              rintro _ w271 ⟨o272, rfl, s273⟩
                              refine ⟨_, rfl, ?_⟩
                              replace s273 := un_stepL (J := []) (L' := []) s273 rfl rfl
                              replace hG := hG.step s273 rfl
                              replace hO106 := hO106.step s273 rfl rfl
                              replace hB114 := hB114.step s273 rfl
                              replace hO120 := hO120.step s273 rfl rfl
                              replace hB128 := hB128.step s273 rfl
                              replace hO133 := hO133.step s273 rfl rfl
                              replace hO146 := hO146.step s273 rfl rfl
                              replace hB154 := hB154.step s273 rfl
                              replace HF := HF.step s273 rfl
                              refine WL.ex rfl (ex_pick_t (v := .bool z270) ((show _ = Value.bool (x256.f_Kind == 1) from rfl).trans (congrArg Value.bool c269)) rfl) ?_
                              refine WL.ex rfl (ex_move (v := .bool z270) rfl) ?_
                              rcases condE H with ⟨c274, H⟩ | ⟨c274, H⟩
                              ·
                                refine WL.guardYes rfl rfl rfl ((show _ = Value.bool z270 from rfl).trans (congrArg Value.bool c274)) ?_
                                obtain ⟨z275, hz275, H⟩ := bindE H
                                refine OW.call [encS ([49, 113] : List UInt8)] rfl Tryd.func11 (by kernel_rfl) (by kernel_rfl) (map_cons' rfl rfl) (token_Name.calls k _ _ ([49, 113] : List UInt8) z275 (HF.ten (V := [0]) (L := []) rfl) (Gl.vw (V := [0]) (L := []) hG rfl) hz275) ?_
                                rintro _ w276 ⟨o277, rfl, s278⟩
                                refine ⟨_, rfl, ?_⟩
                                replace s278 := un_stepL (J := []) (L' := []) s278 rfl rfl
                                replace hG := hG.step s278 rfl
                                replace hO106 := hO106.step s278 rfl rfl
                                replace hB114 := hB114.step s278 rfl
                                replace hO120 := hO120.step s278 rfl rfl
                                replace hB128 := hB128.step s278 rfl
                                replace hO133 := hO133.step s278 rfl rfl
                                replace hO146 := hO146.step s278 rfl rfl
                                replace hB154 := hB154.step s278 rfl
                                replace HF := HF.step s278 rfl
                                refine WL.guardYes rfl rfl rfl ((show _ = Value.bool z270 from rfl).trans (congrArg Value.bool c274)) ?_
                                refine OW.ex rfl (ex_not (b := z275) rfl) ?_
                                refine WL.ex rfl (ex_pick_t (v := .bool (!z275)) ((show _ = Value.bool z270 from rfl).trans (congrArg Value.bool c274)) rfl) ?_
                                refine WL.ex rfl (ex_move (v := .bool (!z275)) rfl) ?_
                                rcases condE H with ⟨c279, H⟩ | ⟨c279, H⟩
                                ·
                                  refine WL.guardYes rfl rfl rfl ((show _ = Value.bool (!z275) from rfl).trans (congrArg Value.bool c279)) ?_
                                  obtain ⟨z280, hz280, H⟩ := bindE H
                                  refine OW.call [encS ([97, 195, 169, 10, 98] : List UInt8), .int .i64 4] rfl Tryd.func9 (by kernel_rfl) (by kernel_rfl) (map_cons' rfl (map_cons' rfl rfl)) (token_At.calls k _ _ ([97, 195, 169, 10, 98] : List UInt8) 4 z280 (HF.ten (V := [0]) (L := []) rfl)  hz280) ?_
                                  rintro _ w281 ⟨o282, rfl, s283⟩
                                  refine ⟨_, rfl, ?_⟩
                                  replace s283 := un_stepL (J := []) (L' := []) s283 rfl rfl
                                  replace hG := hG.step s283 rfl
                                  replace hO106 := hO106.step s283 rfl rfl
                                  replace hB114 := hB114.step s283 rfl
                                  replace hO120 := hO120.step s283 rfl rfl
                                  replace hB128 := hB128.step s283 rfl
                                  replace hO133 := hO133.step s283 rfl rfl
                                  replace hO146 := hO146.step s283 rfl rfl
                                  replace hB154 := hB154.step s283 rfl
                                  replace HF := HF.step s283 rfl
                                  refine WL.guardYes rfl rfl rfl ((show _ = Value.bool (!z275) from rfl).trans (congrArg Value.bool c279)) ?_
                                  refine OW.ex rfl (ex_build (cs := [.int .i64 2, .int .i64 1, .int .i64 4]) [(0, 1), (1, 1), (2, 1)] [(2, .int .i64 4), (0, .int .i64 2), (1, .int .i64 1)] [.int .i64 0, .int .i64 0, .int .i64 0] Tryd.underlying23 zr23 rfl (by kernel_rfl) (evs_cons rfl (evs_cons rfl (evs_cons rfl rfl))) rfl) ?_
                                  refine WL.guardYes rfl rfl rfl ((show _ = Value.bool (!z275) from rfl).trans (congrArg Value.bool c279)) ?_
                                  refine OW.ex rfl (ex_bin (a := .agg #[.int .i64 z280.f_Line, .int .i64 z280.f_Col, .int .i64 z280.f_Off]) (b := .agg #[.int .i64 2, .int .i64 1, .int .i64 4]) (v := .bool (T_api_Spot.eqb z280 (⟨2, 1, 4⟩ : T_api_Spot))) rfl rfl (bin_eql_agg (by kernel_rfl) (EqR.agg Tryd.underlying23 (by kernel_rfl) (EqF.cons (by decide) (PartR.one Tryd.underlying3 rfl rfl) (PartR.one Tryd.underlying3 rfl rfl) (EqR.int Tryd.underlying3) (EqF.cons (by decide) (PartR.one Tryd.underlying3 rfl rfl) (PartR.one Tryd.underlying3 rfl rfl) (EqR.int Tryd.underlying3) (EqF.cons (by decide) (PartR.one Tryd.underlying3 rfl rfl) (PartR.one Tryd.underlying3 rfl rfl) (EqR.int Tryd.underlying3) EqF.nil)))))) ?_
                                  refine WL.ex rfl (ex_pick_t (v := .bool (T_api_Spot.eqb z280 (⟨2, 1, 4⟩ : T_api_Spot))) ((show _ = Value.bool (!z275) from rfl).trans (congrArg Value.bool c279)) rfl) ?_
                                  refine WL.ex rfl (ex_assign (v := .bool (T_api_Spot.eqb z280 (⟨2, 1, 4⟩ : T_api_Spot))) rfl) ?_
                                  refine WL.nil ?_
                                  refine WC.ret ?_
                                  obtain rfl := Option.some.inj H
                                  exact ⟨_, (.tmp (.bool (T_api_Spot.eqb z280 (⟨2, 1, 4⟩ : T_api_Spot)) : Value) rfl .nil), _, rfl, HF.out⟩
                                ·
                                  refine WL.guardNo rfl rfl rfl ((show _ = Value.bool (!z275) from rfl).trans (congrArg Value.bool c279)) ?_
                                  refine WL.guardNo rfl rfl rfl ((show _ = Value.bool (!z275) from rfl).trans (congrArg Value.bool c279)) ?_
                                  refine WL.guardNo rfl rfl rfl ((show _ = Value.bool (!z275) from rfl).trans (congrArg Value.bool c279)) ?_
                                  refine WL.ex rfl (ex_pick_f (v := .bool false) ((show _ = Value.bool (!z275) from rfl).trans (congrArg Value.bool c279)) rfl) ?_
                                  refine WL.ex rfl (ex_assign (v := .bool false) rfl) ?_
                                  refine WL.nil ?_
                                  refine WC.ret ?_
                                  obtain rfl := Option.some.inj H
                                  exact ⟨_, (.tmp (.bool false : Value) rfl .nil), _, rfl, HF.out⟩
                              ·
                                refine WL.guardNo rfl rfl rfl ((show _ = Value.bool z270 from rfl).trans (congrArg Value.bool c274)) ?_
                                refine WL.guardNo rfl rfl rfl ((show _ = Value.bool z270 from rfl).trans (congrArg Value.bool c274)) ?_
                                refine WL.ex rfl (ex_pick_f (v := .bool false) ((show _ = Value.bool z270 from rfl).trans (congrArg Value.bool c274)) rfl) ?_
                                refine WL.ex rfl (ex_move (v := .bool false) rfl) ?_
                                refine WL.guardNo rfl rfl rfl rfl ?_
                                refine WL.guardNo rfl rfl rfl rfl ?_
                                refine WL.guardNo rfl rfl rfl rfl ?_
                                refine WL.ex rfl (ex_pick_f (v := .bool false) rfl rfl) ?_
                                refine WL.ex rfl (ex_assign (v := .bool false) rfl) ?_
                                refine WL.nil ?_
                                refine WC.ret ?_
                                obtain rfl := Option.some.inj H
                                exact ⟨_, (.tmp (.bool false : Value) rfl .nil), _, rfl, HF.out⟩
                            ·
                              refine WL.guardNo rfl rfl rfl ((show _ = Value.bool (x256.f_Kind == 1) from rfl).trans (congrArg Value.bool c269)) ?_
                              refine WL.ex rfl (ex_pick_f (v := .bool false) ((show _ = Value.bool (x256.f_Kind == 1) from rfl).trans (congrArg Value.bool c269)) rfl) ?_
                              refine WL.ex rfl (ex_move (v := .bool false) rfl) ?_
                              refine WL.guardNo rfl rfl rfl rfl ?_
                              refine WL.guardNo rfl rfl rfl rfl ?_
                              refine WL.ex rfl (ex_pick_f (v := .bool false) rfl rfl) ?_
                              refine WL.ex rfl (ex_move (v := .bool false) rfl) ?_
                              refine WL.guardNo rfl rfl rfl rfl ?_
                              refine WL.guardNo rfl rfl rfl rfl ?_
                              refine WL.guardNo rfl rfl rfl rfl ?_
                              refine WL.ex rfl (ex_pick_f (v := .bool false) rfl rfl) ?_
                              refine WL.ex rfl (ex_assign (v := .bool false) rfl) ?_
                              refine WL.nil ?_
                              refine WC.ret ?_
                              obtain rfl := Option.some.inj H
                              exact ⟨_, (.tmp (.bool false : Value) rfl .nil), _, rfl, HF.out⟩
                          ·
                            refine WL.guardNo rfl rfl rfl ((show _ = Value.bool (x242.f_Text == ([102, 97, 108, 115, 101] : List UInt8)) from rfl).trans (congrArg Value.bool c255)) ?_
                            refine WL.guardNo rfl rfl rfl ((show _ = Value.bool (x242.f_Text == ([102, 97, 108, 115, 101] : List UInt8)) from rfl).trans (congrArg Value.bool c255)) ?_
                            refine WL.guardNo rfl rfl rfl ((show _ = Value.bool (x242.f_Text == ([102, 97, 108, 115, 101] : List UInt8)) from rfl).trans (congrArg Value.bool c255)) ?_
                            refine WL.guardNo rfl rfl rfl ((show _ = Value.bool (x242.f_Text == ([102, 97, 108, 115, 101] : List UInt8)) from rfl).trans (congrArg Value.bool c255)) ?_
                            refine WL.guardNo rfl rfl rfl ((show _ = Value.bool (x242.f_Text == ([102, 97, 108, 115, 101] : List UInt8)) from rfl).trans (congrArg Value.bool c255)) ?_
                            refine WL.ex rfl (ex_pick_f (v := .bool false) ((show _ = Value.bool (x242.f_Text == ([102, 97, 108, 115, 101] : List UInt8)) from rfl).trans (congrArg Value.bool c255)) rfl) ?_
                            refine WL.ex rfl (ex_move (v := .bool false) rfl) ?_
                            refine WL.guardNo rfl rfl rfl rfl ?_
                            refine WL.ex rfl (ex_pick_f (v := .bool false) rfl rfl) ?_
                            refine WL.ex rfl (ex_move (v := .bool false) rfl) ?_
                            refine WL.guardNo rfl rfl rfl rfl ?_
                            refine WL.guardNo rfl rfl rfl rfl ?_
                            refine WL.ex rfl (ex_pick_f (v := .bool false) rfl rfl) ?_
                            refine WL.ex rfl (ex_move (v := .bool false) rfl) ?_
                            refine WL.guardNo rfl rfl rfl rfl ?_
                            refine WL.guardNo rfl rfl rfl rfl ?_
                            refine WL.guardNo rfl rfl rfl rfl ?_
                            refine WL.ex rfl (ex_pick_f (v := .bool false) rfl rfl) ?_
                            refine WL.ex rfl (ex_assign (v := .bool false) rfl) ?_
                            refine WL.nil ?_
                            refine WC.ret ?_
                            obtain rfl := Option.some.inj H
                            exact ⟨_, (.tmp (.bool false : Value) rfl .nil), _, rfl, HF.out⟩
                        ·
                          refine WL.guardNo rfl rfl rfl ((show _ = Value.bool (x228.f_Text == ([126] : List UInt8)) from rfl).trans (congrArg Value.bool c241)) ?_
                          refine WL.guardNo rfl rfl rfl ((show _ = Value.bool (x228.f_Text == ([126] : List UInt8)) from rfl).trans (congrArg Value.bool c241)) ?_
                          refine WL.guardNo rfl rfl rfl ((show _ = Value.bool (x228.f_Text == ([126] : List UInt8)) from rfl).trans (congrArg Value.bool c241)) ?_
                          refine WL.guardNo rfl rfl rfl ((show _ = Value.bool (x228.f_Text == ([126] : List UInt8)) from rfl).trans (congrArg Value.bool c241)) ?_
                          refine WL.guardNo rfl rfl rfl ((show _ = Value.bool (x228.f_Text == ([126] : List UInt8)) from rfl).trans (congrArg Value.bool c241)) ?_
                          refine WL.ex rfl (ex_pick_f (v := .bool false) ((show _ = Value.bool (x228.f_Text == ([126] : List UInt8)) from rfl).trans (congrArg Value.bool c241)) rfl) ?_
                          refine WL.ex rfl (ex_move (v := .bool false) rfl) ?_
                          refine WL.guardNo rfl rfl rfl rfl ?_
                          refine WL.guardNo rfl rfl rfl rfl ?_
                          refine WL.guardNo rfl rfl rfl rfl ?_
                          refine WL.guardNo rfl rfl rfl rfl ?_
                          refine WL.guardNo rfl rfl rfl rfl ?_
                          refine WL.ex rfl (ex_pick_f (v := .bool false) rfl rfl) ?_
                          refine WL.ex rfl (ex_move (v := .bool false) rfl) ?_
                          refine WL.guardNo rfl rfl rfl rfl ?_
                          refine WL.ex rfl (ex_pick_f (v := .bool false) rfl rfl) ?_
                          refine WL.ex rfl (ex_move (v := .bool false) rfl) ?_
                          refine WL.guardNo rfl rfl rfl rfl ?_
                          refine WL.guardNo rfl rfl rfl rfl ?_
                          refine WL.ex rfl (ex_pick_f (v := .bool false) rfl rfl) ?_
                          refine WL.ex rfl (ex_move (v := .bool false) rfl) ?_
                          refine WL.guardNo rfl rfl rfl rfl ?_
                          refine WL.guardNo rfl rfl rfl rfl ?_
                          refine WL.guardNo rfl rfl rfl rfl ?_
                          refine WL.ex rfl (ex_pick_f (v := .bool false) rfl rfl) ?_
                          refine WL.ex rfl (ex_assign (v := .bool false) rfl) ?_
                          refine WL.nil ?_
                          refine WC.ret ?_
                          obtain rfl := Option.some.inj H
                          exact ⟨_, (.tmp (.bool false : Value) rfl .nil), _, rfl, HF.out⟩
                      ·
                        refine WL.guardNo rfl rfl rfl ((show _ = Value.bool ((z141.1.length : Int) == 5) from rfl).trans (congrArg Value.bool c227)) ?_
                        refine WL.guardNo rfl rfl rfl ((show _ = Value.bool ((z141.1.length : Int) == 5) from rfl).trans (congrArg Value.bool c227)) ?_
                        refine WL.guardNo rfl rfl rfl ((show _ = Value.bool ((z141.1.length : Int) == 5) from rfl).trans (congrArg Value.bool c227)) ?_
                        refine WL.guardNo rfl rfl rfl ((show _ = Value.bool ((z141.1.length : Int) == 5) from rfl).trans (congrArg Value.bool c227)) ?_
                        refine WL.guardNo rfl rfl rfl ((show _ = Value.bool ((z141.1.length : Int) == 5) from rfl).trans (congrArg Value.bool c227)) ?_
                        refine WL.ex rfl (ex_pick_f (v := .bool false) ((show _ = Value.bool ((z141.1.length : Int) == 5) from rfl).trans (congrArg Value.bool c227)) rfl) ?_
                        refine WL.ex rfl (ex_move (v := .bool false) rfl) ?_
                        refine WL.guardNo rfl rfl rfl rfl ?_
                        refine WL.guardNo rfl rfl rfl rfl ?_
                        refine WL.guardNo rfl rfl rfl rfl ?_
                        refine WL.guardNo rfl rfl rfl rfl ?_
                        refine WL.guardNo rfl rfl rfl rfl ?_
                        refine WL.ex rfl (ex_pick_f (v := .bool false) rfl rfl) ?_
                        refine WL.ex rfl (ex_move (v := .bool false) rfl) ?_
                        refine WL.guardNo rfl rfl rfl rfl ?_
                        refine WL.guardNo rfl rfl rfl rfl ?_
                        refine WL.guardNo rfl rfl rfl rfl ?_
                        refine WL.guardNo rfl rfl rfl rfl ?_
                        refine WL.guardNo rfl rfl rfl rfl ?_
                        refine WL.ex rfl (ex_pick_f (v := .bool false) rfl rfl) ?_
                        refine WL.ex rfl (ex_move (v := .bool false) rfl) ?_
                        refine WL.guardNo rfl rfl rfl rfl ?_
                        refine WL.ex rfl (ex_pick_f (v := .bool false) rfl rfl) ?_
                        refine WL.ex rfl (ex_move (v := .bool false) rfl) ?_
                        refine WL.guardNo rfl rfl rfl rfl ?_
                        refine WL.guardNo rfl rfl rfl rfl ?_
                        refine WL.ex rfl (ex_pick_f (v := .bool false) rfl rfl) ?_
                        refine WL.ex rfl (ex_move (v := .bool false) rfl) ?_
                        refine WL.guardNo rfl rfl rfl rfl ?_
                        refine WL.guardNo rfl rfl rfl rfl ?_
                        refine WL.guardNo rfl rfl rfl rfl ?_
                        refine WL.ex rfl (ex_pick_f (v := .bool false) rfl rfl) ?_
                        refine WL.ex rfl (ex_assign (v := .bool false) rfl) ?_
                        refine WL.nil ?_
                        refine WC.ret ?_
                        obtain rfl := Option.some.inj H
                        exact ⟨_, (.tmp (.bool false : Value) rfl .nil), _, rfl, HF.out⟩
                    ·
                      refine WL.guardNo rfl rfl rfl ((show _ = Value.bool (T_api_Fault.eqb z141.2 (⟨(0 : Int), (⟨(0 : Int), (0 : Int), (0 : Int)⟩ : T_api_Spot)⟩ : T_api_Fault)) from rfl).trans (congrArg Value.bool c223)) ?_
                      refine WL.guardNo rfl rfl rfl ((show _ = Value.bool (T_api_Fault.eqb z141.2 (⟨(0 : Int), (⟨(0 : Int), (0 : Int), (0 : Int)⟩ : T_api_Spot)⟩ : T_api_Fault)) from rfl).trans (congrArg Value.bool c223)) ?_
                      refine WL.guardNo rfl rfl rfl ((show _ = Value.bool (T_api_Fault.eqb z141.2 (⟨(0 : Int), (⟨(0 : Int), (0 : Int), (0 : Int)⟩ : T_api_Spot)⟩ : T_api_Fault)) from rfl).trans (congrArg Value.bool c223)) ?_
                      refine WL.ex rfl (ex_pick_f (v := .bool false) ((show _ = Value.bool (T_api_Fault.eqb z141.2 (⟨(0 : Int), (⟨(0 : Int), (0 : Int), (0 : Int)⟩ : T_api_Spot)⟩ : T_api_Fault)) from rfl).trans (congrArg Value.bool c223)) rfl) ?_
                      refine WL.ex rfl (ex_move (v := .bool false) rfl) ?_
                      refine WL.guardNo rfl rfl rfl rfl ?_
                      refine WL.guardNo rfl rfl rfl rfl ?_
                      refine WL.guardNo rfl rfl rfl rfl ?_
                      refine WL.guardNo rfl rfl rfl rfl ?_
                      refine WL.guardNo rfl rfl rfl rfl ?_
                      refine WL.ex rfl (ex_pick_f (v := .bool false) rfl rfl) ?_
                      refine WL.ex rfl (ex_move (v := .bool false) rfl) ?_
                      refine WL.guardNo rfl rfl rfl rfl ?_
                      refine WL.guardNo rfl rfl rfl rfl ?_
                      refine WL.guardNo rfl rfl rfl rfl ?_
                      refine WL.guardNo rfl rfl rfl rfl ?_
                      refine WL.guardNo rfl rfl rfl rfl ?_
                      refine WL.ex rfl (ex_pick_f (v := .bool false) rfl rfl) ?_
                      refine WL.ex rfl (ex_move (v := .bool false) rfl) ?_
                      refine WL.guardNo rfl rfl rfl rfl ?_
                      refine WL.guardNo rfl rfl rfl rfl ?_
                      refine WL.guardNo rfl rfl rfl rfl ?_
                      refine WL.guardNo rfl rfl rfl rfl ?_
                      refine WL.guardNo rfl rfl rfl rfl ?_
                      refine WL.ex rfl (ex_pick_f (v := .bool false) rfl rfl) ?_
                      refine WL.ex rfl (ex_move (v := .bool false) rfl) ?_
                      refine WL.guardNo rfl rfl rfl rfl ?_
                      refine WL.ex rfl (ex_pick_f (v := .bool false) rfl rfl) ?_
                      refine WL.ex rfl (ex_move (v := .bool false) rfl) ?_
                      refine WL.guardNo rfl rfl rfl rfl ?_
                      refine WL.guardNo rfl rfl rfl rfl ?_
                      refine WL.ex rfl (ex_pick_f (v := .bool false) rfl rfl) ?_
                      refine WL.ex rfl (ex_move (v := .bool false) rfl) ?_
                      refine WL.guardNo rfl rfl rfl rfl ?_
                      refine WL.guardNo rfl rfl rfl rfl ?_
                      refine WL.guardNo rfl rfl rfl rfl ?_
                      refine WL.ex rfl (ex_pick_f (v := .bool false) rfl rfl) ?_
                      refine WL.ex rfl (ex_assign (v := .bool false) rfl) ?_
                      refine WL.nil ?_
                      refine WC.ret ?_
                      obtain rfl := Option.some.inj H
                      exact ⟨_, (.tmp (.bool false : Value) rfl .nil), _, rfl, HF.out⟩
                  ·
                    refine WL.guardNo rfl rfl rfl ((show _ = Value.bool (z137.1 == ([97, 32, 45, 62, 32, 55] : List UInt8)) from rfl).trans (congrArg Value.bool c222)) ?_
                    refine WL.guardNo rfl rfl rfl ((show _ = Value.bool (z137.1 == ([97, 32, 45, 62, 32, 55] : List UInt8)) from rfl).trans (congrArg Value.bool c222)) ?_
                    refine WL.guardNo rfl rfl rfl ((show _ = Value.bool (z137.1 == ([97, 32, 45, 62, 32, 55] : List UInt8)) from rfl).trans (congrArg Value.bool c222)) ?_
                    refine WL.ex rfl (ex_pick_f (v := .bool false) ((show _ = Value.bool (z137.1 == ([97, 32, 45, 62, 32, 55] : List UInt8)) from rfl).trans (congrArg Value.bool c222)) rfl) ?_
                    refine WL.ex rfl (ex_move (v := .bool false) rfl) ?_
                    refine WL.guardNo rfl rfl rfl rfl ?_
                    refine WL.guardNo rfl rfl rfl rfl ?_
                    refine WL.guardNo rfl rfl rfl rfl ?_
                    refine WL.ex rfl (ex_pick_f (v := .bool false) rfl rfl) ?_
                    refine WL.ex rfl (ex_move (v := .bool false) rfl) ?_
                    refine WL.guardNo rfl rfl rfl rfl ?_
                    refine WL.guardNo rfl rfl rfl rfl ?_
                    refine WL.guardNo rfl rfl rfl rfl ?_
                    refine WL.guardNo rfl rfl rfl rfl ?_
                    refine WL.guardNo rfl rfl rfl rfl ?_
                    refine WL.ex rfl (ex_pick_f (v := .bool false) rfl rfl) ?_
                    refine WL.ex rfl (ex_move (v := .bool false) rfl) ?_
                    refine WL.guardNo rfl rfl rfl rfl ?_
                    refine WL.guardNo rfl rfl rfl rfl ?_
                    refine WL.guardNo rfl rfl rfl rfl ?_
                    refine WL.guardNo rfl rfl rfl rfl ?_
                    refine WL.guardNo rfl rfl rfl rfl ?_
                    refine WL.ex rfl (ex_pick_f (v := .bool false) rfl rfl) ?_
                    refine WL.ex rfl (ex_move (v := .bool false) rfl) ?_
                    refine WL.guardNo rfl rfl rfl rfl ?_
                    refine WL.guardNo rfl rfl rfl rfl ?_
                    refine WL.guardNo rfl rfl rfl rfl ?_
                    refine WL.guardNo rfl rfl rfl rfl ?_
                    refine WL.guardNo rfl rfl rfl rfl ?_
                    refine WL.ex rfl (ex_pick_f (v := .bool false) rfl rfl) ?_
                    refine WL.ex rfl (ex_move (v := .bool false) rfl) ?_
                    refine WL.guardNo rfl rfl rfl rfl ?_
                    refine WL.ex rfl (ex_pick_f (v := .bool false) rfl rfl) ?_
                    refine WL.ex rfl (ex_move (v := .bool false) rfl) ?_
                    refine WL.guardNo rfl rfl rfl rfl ?_
                    refine WL.guardNo rfl rfl rfl rfl ?_
                    refine WL.ex rfl (ex_pick_f (v := .bool false) rfl rfl) ?_
                    refine WL.ex rfl (ex_move (v := .bool false) rfl) ?_
                    refine WL.guardNo rfl rfl rfl rfl ?_
                    refine WL.guardNo rfl rfl rfl rfl ?_
                    refine WL.guardNo rfl rfl rfl rfl ?_
                    refine WL.ex rfl (ex_pick_f (v := .bool false) rfl rfl) ?_
                    refine WL.ex rfl (ex_assign (v := .bool false) rfl) ?_
                    refine WL.nil ?_
                    refine WC.ret ?_
                    obtain rfl := Option.some.inj H
                    exact ⟨_, (.tmp (.bool false : Value) rfl .nil), _, rfl, HF.out⟩
                ·
                  refine WL.guardNo rfl rfl rfl ((show _ = Value.bool (z217 == 0) from rfl).trans (congrArg Value.bool c221)) ?_
                  refine WL.guardNo rfl rfl rfl ((show _ = Value.bool (z217 == 0) from rfl).trans (congrArg Value.bool c221)) ?_
                  refine WL.ex rfl (ex_pick_f (v := .bool false) ((show _ = Value.bool (z217 == 0) from rfl).trans (congrArg Value.bool c221)) rfl) ?_
                  refine WL.ex rfl (ex_move (v := .bool false) rfl) ?_
                  refine WL.guardNo rfl rfl rfl rfl ?_
                  refine WL.guardNo rfl rfl rfl rfl ?_
                  refine WL.guardNo rfl rfl rfl rfl ?_
                  refine WL.ex rfl (ex_pick_f (v := .bool false) rfl rfl) ?_
                  refine WL.ex rfl (ex_move (v := .bool false) rfl) ?_
                  refine WL.guardNo rfl rfl rfl rfl ?_
                  refine WL.guardNo rfl rfl rfl rfl ?_
                  refine WL.guardNo rfl rfl rfl rfl ?_
                  refine WL.ex rfl (ex_pick_f (v := .bool false) rfl rfl) ?_
                  refine WL.ex rfl (ex_move (v := .bool false) rfl) ?_
                  refine WL.guardNo rfl rfl rfl rfl ?_
                  refine WL.guardNo rfl rfl rfl rfl ?_
                  refine WL.guardNo rfl rfl rfl rfl ?_
                  refine WL.guardNo rfl rfl rfl rfl ?_
                  refine WL.guardNo rfl rfl rfl rfl ?_
                  refine WL.ex rfl (ex_pick_f (v := .bool false) rfl rfl) ?_
                  refine WL.ex rfl (ex_move (v := .bool false) rfl) ?_
                  refine WL.guardNo rfl rfl rfl rfl ?_
                  refine WL.guardNo rfl rfl rfl rfl ?_
                  refine WL.guardNo rfl rfl rfl rfl ?_
                  refine WL.guardNo rfl rfl rfl rfl ?_
                  refine WL.guardNo rfl rfl rfl rfl ?_
                  refine WL.ex rfl (ex_pick_f (v := .bool false) rfl rfl) ?_
                  refine WL.ex rfl (ex_move (v := .bool false) rfl) ?_
                  refine WL.guardNo rfl rfl rfl rfl ?_
                  refine WL.guardNo rfl rfl rfl rfl ?_
                  refine WL.guardNo rfl rfl rfl rfl ?_
                  refine WL.guardNo rfl rfl rfl rfl ?_
                  refine WL.guardNo rfl rfl rfl rfl ?_
                  refine WL.ex rfl (ex_pick_f (v := .bool false) rfl rfl) ?_
                  refine WL.ex rfl (ex_move (v := .bool false) rfl) ?_
                  refine WL.guardNo rfl rfl rfl rfl ?_
                  refine WL.ex rfl (ex_pick_f (v := .bool false) rfl rfl) ?_
                  refine WL.ex rfl (ex_move (v := .bool false) rfl) ?_
                  refine WL.guardNo rfl rfl rfl rfl ?_
                  refine WL.guardNo rfl rfl rfl rfl ?_
                  refine WL.ex rfl (ex_pick_f (v := .bool false) rfl rfl) ?_
                  refine WL.ex rfl (ex_move (v := .bool false) rfl) ?_
                  refine WL.guardNo rfl rfl rfl rfl ?_
                  refine WL.guardNo rfl rfl rfl rfl ?_
                  refine WL.guardNo rfl rfl rfl rfl ?_
                  refine WL.ex rfl (ex_pick_f (v := .bool false) rfl rfl) ?_
                  refine WL.ex rfl (ex_assign (v := .bool false) rfl) ?_
                  refine WL.nil ?_
                  refine WC.ret ?_
                  obtain rfl := Option.some.inj H
                  exact ⟨_, (.tmp (.bool false : Value) rfl .nil), _, rfl, HF.out⟩
              ·
                refine WL.guardNo rfl rfl rfl ((show _ = Value.bool (T_api_Fault.eqb z115.2 (⟨21, (⟨2, 2, 3⟩ : T_api_Spot)⟩ : T_api_Fault)) from rfl).trans (congrArg Value.bool c216)) ?_
                refine WL.guardNo rfl rfl rfl ((show _ = Value.bool (T_api_Fault.eqb z115.2 (⟨21, (⟨2, 2, 3⟩ : T_api_Spot)⟩ : T_api_Fault)) from rfl).trans (congrArg Value.bool c216)) ?_
                refine WL.guardNo rfl rfl rfl ((show _ = Value.bool (T_api_Fault.eqb z115.2 (⟨21, (⟨2, 2, 3⟩ : T_api_Spot)⟩ : T_api_Fault)) from rfl).trans (congrArg Value.bool c216)) ?_
                refine WL.ex rfl (ex_pick_f (v := .bool false) ((show _ = Value.bool (T_api_Fault.eqb z115.2 (⟨21, (⟨2, 2, 3⟩ : T_api_Spot)⟩ : T_api_Fault)) from rfl).trans (congrArg Value.bool c216)) rfl) ?_
                refine WL.ex rfl (ex_move (v := .bool false) rfl) ?_
                refine WL.guardNo rfl rfl rfl rfl ?_
                refine WL.guardNo rfl rfl rfl rfl ?_
                refine WL.ex rfl (ex_pick_f (v := .bool false) rfl rfl) ?_
                refine WL.ex rfl (ex_move (v := .bool false) rfl) ?_
                refine WL.guardNo rfl rfl rfl rfl ?_
                refine WL.guardNo rfl rfl rfl rfl ?_
                refine WL.guardNo rfl rfl rfl rfl ?_
                refine WL.ex rfl (ex_pick_f (v := .bool false) rfl rfl) ?_
                refine WL.ex rfl (ex_move (v := .bool false) rfl) ?_
                refine WL.guardNo rfl rfl rfl rfl ?_
                refine WL.guardNo rfl rfl rfl rfl ?_
                refine WL.guardNo rfl rfl rfl rfl ?_
                refine WL.ex rfl (ex_pick_f (v := .bool false) rfl rfl) ?_
                refine WL.ex rfl (ex_move (v := .bool false) rfl) ?_
                refine WL.guardNo rfl rfl rfl rfl ?_
                refine WL.guardNo rfl rfl rfl rfl ?_
                refine WL.guardNo rfl rfl rfl rfl ?_
                refine WL.guardNo rfl rfl rfl rfl ?_
                refine WL.guardNo rfl rfl rfl rfl ?_
                refine WL.ex rfl (ex_pick_f (v := .bool false) rfl rfl) ?_
                refine WL.ex rfl (ex_move (v := .bool false) rfl) ?_
                refine WL.guardNo rfl rfl rfl rfl ?_
                refine WL.guardNo rfl rfl rfl rfl ?_
                refine WL.guardNo rfl rfl rfl rfl ?_
                refine WL.guardNo rfl rfl rfl rfl ?_
                refine WL.guardNo rfl rfl rfl rfl ?_
                refine WL.ex rfl (ex_pick_f (v := .bool false) rfl rfl) ?_
                refine WL.ex rfl (ex_move (v := .bool false) rfl) ?_
                refine WL.guardNo rfl rfl rfl rfl ?_
                refine WL.guardNo rfl rfl rfl rfl ?_
                refine WL.guardNo rfl rfl rfl rfl ?_
                refine WL.guardNo rfl rfl rfl rfl ?_
                refine WL.guardNo rfl rfl rfl rfl ?_
                refine WL.ex rfl (ex_pick_f (v := .bool false) rfl rfl) ?_
                refine WL.ex rfl (ex_move (v := .bool false) rfl) ?_
                refine WL.guardNo rfl rfl rfl rfl ?_
                refine WL.ex rfl (ex_pick_f (v := .bool false) rfl rfl) ?_
                refine WL.ex rfl (ex_move (v := .bool false) rfl) ?_
                refine WL.guardNo rfl rfl rfl rfl ?_
                refine WL.guardNo rfl rfl rfl rfl ?_
                refine WL.ex rfl (ex_pick_f (v := .bool false) rfl rfl) ?_
                refine WL.ex rfl (ex_move (v := .bool false) rfl) ?_
                refine WL.guardNo rfl rfl rfl rfl ?_
                refine WL.guardNo rfl rfl rfl rfl ?_
                refine WL.guardNo rfl rfl rfl rfl ?_
                refine WL.ex rfl (ex_pick_f (v := .bool false) rfl rfl) ?_
                refine WL.ex rfl (ex_assign (v := .bool false) rfl) ?_
                refine WL.nil ?_
                refine WC.ret ?_
                obtain rfl := Option.some.inj H
                exact ⟨_, (.tmp (.bool false : Value) rfl .nil), _, rfl, HF.out⟩
            ·
              refine WL.guardNo rfl rfl rfl ((show _ = Value.bool (x202.f_Kind == 0) from rfl).trans (congrArg Value.bool c215)) ?_
              refine WL.guardNo rfl rfl rfl ((show _ = Value.bool (x202.f_Kind == 0) from rfl).trans (congrArg Value.bool c215)) ?_
              refine WL.guardNo rfl rfl rfl ((show _ = Value.bool (x202.f_Kind == 0) from rfl).trans (congrArg Value.bool c215)) ?_
              refine WL.guardNo rfl rfl rfl ((show _ = Value.bool (x202.f_Kind == 0) from rfl).trans (congrArg Value.bool c215)) ?_
              refine WL.ex rfl (ex_pick_f (v := .bool false) ((show _ = Value.bool (x202.f_Kind == 0) from rfl).trans (congrArg Value.bool c215)) rfl) ?_
              refine WL.ex rfl (ex_move (v := .bool false) rfl) ?_
              refine WL.guardNo rfl rfl rfl rfl ?_
              refine WL.guardNo rfl rfl rfl rfl ?_
              refine WL.guardNo rfl rfl rfl rfl ?_
              refine WL.ex rfl (ex_pick_f (v := .bool false) rfl rfl) ?_
              refine WL.ex rfl (ex_move (v := .bool false) rfl) ?_
              refine WL.guardNo rfl rfl rfl rfl ?_
              refine WL.guardNo rfl rfl rfl rfl ?_
              refine WL.ex rfl (ex_pick_f (v := .bool false) rfl rfl) ?_
              refine WL.ex rfl (ex_move (v := .bool false) rfl) ?_
              refine WL.guardNo rfl rfl rfl rfl ?_
              refine WL.guardNo rfl rfl rfl rfl ?_
              refine WL.guardNo rfl rfl rfl rfl ?_
              refine WL.ex rfl (ex_pick_f (v := .bool false) rfl rfl) ?_
              refine WL.ex rfl (ex_move (v := .bool false) rfl) ?_
              refine WL.guardNo rfl rfl rfl rfl ?_
              refine WL.guardNo rfl rfl rfl rfl ?_
              refine WL.guardNo rfl rfl rfl rfl ?_
              refine WL.ex rfl (ex_pick_f (v := .bool false) rfl rfl) ?_
              refine WL.ex rfl (ex_move (v := .bool false) rfl) ?_
              refine WL.guardNo rfl rfl rfl rfl ?_
              refine WL.guardNo rfl rfl rfl rfl ?_
              refine WL.guardNo rfl rfl rfl rfl ?_
              refine WL.guardNo rfl rfl rfl rfl ?_
              refine WL.guardNo rfl rfl rfl rfl ?_
              refine WL.ex rfl (ex_pick_f (v := .bool false) rfl rfl) ?_
              refine WL.ex rfl (ex_move (v := .bool false) rfl) ?_
              refine WL.guardNo rfl rfl rfl rfl ?_
              refine WL.guardNo rfl rfl rfl rfl ?_
              refine WL.guardNo rfl rfl rfl rfl ?_
              refine WL.guardNo rfl rfl rfl rfl ?_
              refine WL.guardNo rfl rfl rfl rfl ?_
              refine WL.ex rfl (ex_pick_f (v := .bool false) rfl rfl) ?_
              refine WL.ex rfl (ex_move (v := .bool false) rfl) ?_
              refine WL.guardNo rfl rfl rfl rfl ?_
              refine WL.guardNo rfl rfl rfl rfl ?_
              refine WL.guardNo rfl rfl rfl rfl ?_
              refine WL.guardNo rfl rfl rfl rfl ?_
              refine WL.guardNo rfl rfl rfl rfl ?_
              refine WL.ex rfl (ex_pick_f (v := .bool false) rfl rfl) ?_
              refine WL.ex rfl (ex_move (v := .bool false) rfl) ?_
              refine WL.guardNo rfl rfl rfl rfl ?_
              refine WL.ex rfl (ex_pick_f (v := .bool false) rfl rfl) ?_
              refine WL.ex rfl (ex_move (v := .bool false) rfl) ?_
              refine WL.guardNo rfl rfl rfl rfl ?_
              refine WL.guardNo rfl rfl rfl rfl ?_
              refine WL.ex rfl (ex_pick_f (v := .bool false) rfl rfl) ?_
              refine WL.ex rfl (ex_move (v := .bool false) rfl) ?_
              refine WL.guardNo rfl rfl rfl rfl ?_
              refine WL.guardNo rfl rfl rfl rfl ?_
              refine WL.guardNo rfl rfl rfl rfl ?_
              refine WL.ex rfl (ex_pick_f (v := .bool false) rfl rfl) ?_
              refine WL.ex rfl (ex_assign (v := .bool false) rfl) ?_
              refine WL.nil ?_
              refine WC.ret ?_
              obtain rfl := Option.some.inj H
              exact ⟨_, (.tmp (.bool false : Value) rfl .nil), _, rfl, HF.out⟩
          ·
            refine WL.guardNo rfl rfl rfl ((show _ = Value.bool (x188.f_At.f_Off == 6) from rfl).trans (congrArg Value.bool c201)) ?_
            refine WL.guardNo rfl rfl rfl ((show _ = Value.bool (x188.f_At.f_Off == 6) from rfl).trans (congrArg Value.bool c201)) ?_
            refine WL.guardNo rfl rfl rfl ((show _ = Value.bool (x188.f_At.f_Off == 6) from rfl).trans (congrArg Value.bool c201)) ?_
            refine WL.guardNo rfl rfl rfl ((show _ = Value.bool (x188.f_At.f_Off == 6) from rfl).trans (congrArg Value.bool c201)) ?_
            refine WL.guardNo rfl rfl rfl ((show _ = Value.bool (x188.f_At.f_Off == 6) from rfl).trans (congrArg Value.bool c201)) ?_
            refine WL.ex rfl (ex_pick_f (v := .bool false) ((show _ = Value.bool (x188.f_At.f_Off == 6) from rfl).trans (congrArg Value.bool c201)) rfl) ?_
            refine WL.ex rfl (ex_move (v := .bool false) rfl) ?_
            refine WL.guardNo rfl rfl rfl rfl ?_
            refine WL.guardNo rfl rfl rfl rfl ?_
            refine WL.guardNo rfl rfl rfl rfl ?_
            refine WL.guardNo rfl rfl rfl rfl ?_
            refine WL.ex rfl (ex_pick_f (v := .bool false) rfl rfl) ?_
            refine WL.ex rfl (ex_move (v := .bool false) rfl) ?_
            refine WL.guardNo rfl rfl rfl rfl ?_
            refine WL.guardNo rfl rfl rfl rfl ?_
            refine WL.guardNo rfl rfl rfl rfl ?_
            refine WL.ex rfl (ex_pick_f (v := .bool false) rfl rfl) ?_
            refine WL.ex rfl (ex_move (v := .bool false) rfl) ?_
            refine WL.guardNo rfl rfl rfl rfl ?_
            refine WL.guardNo rfl rfl rfl rfl ?_
            refine WL.ex rfl (ex_pick_f (v := .bool false) rfl rfl) ?_
            refine WL.ex rfl (ex_move (v := .bool false) rfl) ?_
            refine WL.guardNo rfl rfl rfl rfl ?_
            refine WL.guardNo rfl rfl rfl rfl ?_
            refine WL.guardNo rfl rfl rfl rfl ?_
            refine WL.ex rfl (ex_pick_f (v := .bool false) rfl rfl) ?_
            refine WL.ex rfl (ex_move (v := .bool false) rfl) ?_
            refine WL.guardNo rfl rfl rfl rfl ?_
            refine WL.guardNo rfl rfl rfl rfl ?_
            refine WL.guardNo rfl rfl rfl rfl ?_
            refine WL.ex rfl (ex_pick_f (v := .bool false) rfl rfl) ?_
            refine WL.ex rfl (ex_move (v := .bool false) rfl) ?_
            refine WL.guardNo rfl rfl rfl rfl ?_
            refine WL.guardNo rfl rfl rfl rfl ?_
            refine WL.guardNo rfl rfl rfl rfl ?_
            refine WL.guardNo rfl rfl rfl rfl ?_
            refine WL.guardNo rfl rfl rfl rfl ?_
            refine WL.ex rfl (ex_pick_f (v := .bool false) rfl rfl) ?_
            refine WL.ex rfl (ex_move (v := .bool false) rfl) ?_
            refine WL.guardNo rfl rfl rfl rfl ?_
            refine WL.guardNo rfl rfl rfl rfl ?_
            refine WL.guardNo rfl rfl rfl rfl ?_
            refine WL.guardNo rfl rfl rfl rfl ?_
            refine WL.guardNo rfl rfl rfl rfl ?_
            refine WL.ex rfl (ex_pick_f (v := .bool false) rfl rfl) ?_
            refine WL.ex rfl (ex_move (v := .bool false) rfl) ?_
            refine WL.guardNo rfl rfl rfl rfl ?_
            refine WL.guardNo rfl rfl rfl rfl ?_
            refine WL.guardNo rfl rfl rfl rfl ?_
            refine WL.guardNo rfl rfl rfl rfl ?_
            refine WL.guardNo rfl rfl rfl rfl ?_
            refine WL.ex rfl (ex_pick_f (v := .bool false) rfl rfl) ?_
            refine WL.ex rfl (ex_move (v := .bool false) rfl) ?_
            refine WL.guardNo rfl rfl rfl rfl ?_
            refine WL.ex rfl (ex_pick_f (v := .bool false) rfl rfl) ?_
            refine WL.ex rfl (ex_move (v := .bool false) rfl) ?_
            refine WL.guardNo rfl rfl rfl rfl ?_
            refine WL.guardNo rfl rfl rfl rfl ?_
            refine WL.ex rfl (ex_pick_f (v := .bool false) rfl rfl) ?_
            refine WL.ex rfl (ex_move (v := .bool false) rfl) ?_
            refine WL.guardNo rfl rfl rfl rfl ?_
            refine WL.guardNo rfl rfl rfl rfl ?_
            refine WL.guardNo rfl rfl rfl rfl ?_
            refine WL.ex rfl (ex_pick_f (v := .bool false) rfl rfl) ?_
            refine WL.ex rfl (ex_assign (v := .bool false) rfl) ?_
            refine WL.nil ?_
            refine WC.ret ?_
            obtain rfl := Option.some.inj H
            exact ⟨_, (.tmp (.bool false : Value) rfl .nil), _, rfl, HF.out⟩
        ·
          refine WL.guardNo rfl rfl rfl ((show _ = Value.bool (x174.f_Text == ([113, 49] : List UInt8)) from rfl).trans (congrArg Value.bool c187)) ?_
          refine WL.guardNo rfl rfl rfl ((show _ = Value.bool (x174.f_Text == ([113, 49] : List UInt8)) from rfl).trans (congrArg Value.bool c187)) ?_
          refine WL.guardNo rfl rfl rfl ((show _ = Value.bool (x174.f_Text == ([113, 49] : List UInt8)) from rfl).trans (congrArg Value.bool c187)) ?_
          refine WL.guardNo rfl rfl rfl ((show _ = Value.bool (x174.f_Text == ([113, 49] : List UInt8)) from rfl).trans (congrArg Value.bool c187)) ?_
          refine WL.guardNo rfl rfl rfl ((show _ = Value.bool (x174.f_Text == ([113, 49] : List UInt8)) from rfl).trans (congrArg Value.bool c187)) ?_
          refine WL.guardNo rfl rfl rfl ((show _ = Value.bool (x174.f_Text == ([113, 49] : List UInt8)) from rfl).trans (congrArg Value.bool c187)) ?_
          refine WL.ex rfl (ex_pick_f (v := .bool false) ((show _ = Value.bool (x174.f_Text == ([113, 49] : List UInt8)) from rfl).trans (congrArg Value.bool c187)) rfl) ?_
          refine WL.ex rfl (ex_move (v := .bool false) rfl) ?_
          refine WL.guardNo rfl rfl rfl rfl ?_
          refine WL.guardNo rfl rfl rfl rfl ?_
          refine WL.guardNo rfl rfl rfl rfl ?_
          refine WL.guardNo rfl rfl rfl rfl ?_
          refine WL.guardNo rfl rfl rfl rfl ?_
          refine WL.ex rfl (ex_pick_f (v := .bool false) rfl rfl) ?_
          refine WL.ex rfl (ex_move (v := .bool false) rfl) ?_
          refine WL.guardNo rfl rfl rfl rfl ?_
          refine WL.guardNo rfl rfl rfl rfl ?_
          refine WL.guardNo rfl rfl rfl rfl ?_
          refine WL.guardNo rfl rfl rfl rfl ?_
          refine WL.ex rfl (ex_pick_f (v := .bool false) rfl rfl) ?_
          refine WL.ex rfl (ex_move (v := .bool false) rfl) ?_
          refine WL.guardNo rfl rfl rfl rfl ?_
          refine WL.guardNo rfl rfl rfl rfl ?_
          refine WL.guardNo rfl rfl rfl rfl ?_
          refine WL.ex rfl (ex_pick_f (v := .bool false) rfl rfl) ?_
          refine WL.ex rfl (ex_move (v := .bool false) rfl) ?_
          refine WL.guardNo rfl rfl rfl rfl ?_
          refine WL.guardNo rfl rfl rfl rfl ?_
          refine WL.ex rfl (ex_pick_f (v := .bool false) rfl rfl) ?_
          refine WL.ex rfl (ex_move (v := .bool false) rfl) ?_
          refine WL.guardNo rfl rfl rfl rfl ?_
          refine WL.guardNo rfl rfl rfl rfl ?_
          refine WL.guardNo rfl rfl rfl rfl ?_
          refine WL.ex rfl (ex_pick_f (v := .bool false) rfl rfl) ?_
          refine WL.ex rfl (ex_move (v := .bool false) rfl) ?_
          refine WL.guardNo rfl rfl rfl rfl ?_
          refine WL.guardNo rfl rfl rfl rfl ?_
          refine WL.guardNo rfl rfl rfl rfl ?_
          refine WL.ex rfl (ex_pick_f (v := .bool false) rfl rfl) ?_
          refine WL.ex rfl (ex_move (v := .bool false) rfl) ?_
          refine WL.guardNo rfl rfl rfl rfl ?_
          refine WL.guardNo rfl rfl rfl rfl ?_
          refine WL.guardNo rfl rfl rfl rfl ?_
          refine WL.guardNo rfl rfl rfl rfl ?_
          refine WL.guardNo rfl rfl rfl rfl ?_
          refine WL.ex rfl (ex_pick_f (v := .bool false) rfl rfl) ?_
          refine WL.ex rfl (ex_move (v := .bool false) rfl) ?_
          refine WL.guardNo rfl rfl rfl rfl ?_
          refine WL.guardNo rfl rfl rfl rfl ?_
          refine WL.guardNo rfl rfl rfl rfl ?_
          refine WL.guardNo rfl rfl rfl rfl ?_
          refine WL.guardNo rfl rfl rfl rfl ?_
          refine WL.ex rfl (ex_pick_f (v := .bool false) rfl rfl) ?_
          refine WL.ex rfl (ex_move (v := .bool false) rfl) ?_
          refine WL.guardNo rfl rfl rfl rfl ?_
          refine WL.guardNo rfl rfl rfl rfl ?_
          refine WL.guardNo rfl rfl rfl rfl ?_
          refine WL.guardNo rfl rfl rfl rfl ?_
          refine WL.guardNo rfl rfl rfl rfl ?_
          refine WL.ex rfl (ex_pick_f (v := .bool false) rfl rfl) ?_
          refine WL.ex rfl (ex_move (v := .bool false) rfl) ?_
          refine WL.guardNo rfl rfl rfl rfl ?_
          refine WL.ex rfl (ex_pick_f (v := .bool false) rfl rfl) ?_
          refine WL.ex rfl (ex_move (v := .bool false) rfl) ?_
          refine WL.guardNo rfl rfl rfl rfl ?_
          refine WL.guardNo rfl rfl rfl rfl ?_
          refine WL.ex rfl (ex_pick_f (v := .bool false) rfl rfl) ?_
          refine WL.ex rfl (ex_move (v := .bool false) rfl) ?_
          refine WL.guardNo rfl rfl rfl rfl ?_
          refine WL.guardNo rfl rfl rfl rfl ?_
          refine WL.guardNo rfl rfl rfl rfl ?_
          refine WL.ex rfl (ex_pick_f (v := .bool false) rfl rfl) ?_
          refine WL.ex rfl (ex_assign (v := .bool false) rfl) ?_
          refine WL.nil ?_
          refine WC.ret ?_
          obtain rfl := Option.some.inj H
          exact ⟨_, (.tmp (.bool false : Value) rfl .nil), _, rfl, HF.out⟩
      ·
        refine WL.guardNo rfl rfl rfl ((show _ = Value.bool (x160.f_Text == ([45, 62] : List UInt8)) from rfl).trans (congrArg Value.bool c173)) ?_
        refine WL.guardNo rfl rfl rfl ((show _ = Value.bool (x160.f_Text == ([45, 62] : List UInt8)) from rfl).trans (congrArg Value.bool c173)) ?_
        refine WL.guardNo rfl rfl rfl ((show _ = Value.bool (x160.f_Text == ([45, 62] : List UInt8)) from rfl).trans (congrArg Value.bool c173)) ?_
        refine WL.guardNo rfl rfl rfl ((show _ = Value.bool (x160.f_Text == ([45, 62] : List UInt8)) from rfl).trans (congrArg Value.bool c173)) ?_
        refine WL.guardNo rfl rfl rfl ((show _ = Value.bool (x160.f_Text == ([45, 62] : List UInt8)) from rfl).trans (congrArg Value.bool c173)) ?_
        refine WL.ex rfl (ex_pick_f (v := .bool false) ((show _ = Value.bool (x160.f_Text == ([45, 62] : List UInt8)) from rfl).trans (congrArg Value.bool c173)) rfl) ?_
        refine WL.ex rfl (ex_move (v := .bool false) rfl) ?_
        refine WL.guardNo rfl rfl rfl rfl ?_
        refine WL.guardNo rfl rfl rfl rfl ?_
        refine WL.guardNo rfl rfl rfl rfl ?_
        refine WL.guardNo rfl rfl rfl rfl ?_
        refine WL.guardNo rfl rfl rfl rfl ?_
        refine WL.guardNo rfl rfl rfl rfl ?_
        refine WL.ex rfl (ex_pick_f (v := .bool false) rfl rfl) ?_
        refine WL.ex rfl (ex_move (v := .bool false) rfl) ?_
        refine WL.guardNo rfl rfl rfl rfl ?_
        refine WL.guardNo rfl rfl rfl rfl ?_
        refine WL.guardNo rfl rfl rfl rfl ?_
        refine WL.guardNo rfl rfl rfl rfl ?_
        refine WL.guardNo rfl rfl rfl rfl ?_
        refine WL.ex rfl (ex_pick_f (v := .bool false) rfl rfl) ?_
        refine WL.ex rfl (ex_move (v := .bool false) rfl) ?_
        refine WL.guardNo rfl rfl rfl rfl ?_
        refine WL.guardNo rfl rfl rfl rfl ?_
        refine WL.guardNo rfl rfl rfl rfl ?_
        refine WL.guardNo rfl rfl rfl rfl ?_
        refine WL.ex rfl (ex_pick_f (v := .bool false) rfl rfl) ?_
        refine WL.ex rfl (ex_move (v := .bool false) rfl) ?_
        refine WL.guardNo rfl rfl rfl rfl ?_
        refine WL.guardNo rfl rfl rfl rfl ?_
        refine WL.guardNo rfl rfl rfl rfl ?_
        refine WL.ex rfl (ex_pick_f (v := .bool false) rfl rfl) ?_
        refine WL.ex rfl (ex_move (v := .bool false) rfl) ?_
        refine WL.guardNo rfl rfl rfl rfl ?_
        refine WL.guardNo rfl rfl rfl rfl ?_
        refine WL.ex rfl (ex_pick_f (v := .bool false) rfl rfl) ?_
        refine WL.ex rfl (ex_move (v := .bool false) rfl) ?_
        refine WL.guardNo rfl rfl rfl rfl ?_
        refine WL.guardNo rfl rfl rfl rfl ?_
        refine WL.guardNo rfl rfl rfl rfl ?_
        refine WL.ex rfl (ex_pick_f (v := .bool false) rfl rfl) ?_
        refine WL.ex rfl (ex_move (v := .bool false) rfl) ?_
        refine WL.guardNo rfl rfl rfl rfl ?_
        refine WL.guardNo rfl rfl rfl rfl ?_
        refine WL.guardNo rfl rfl rfl rfl ?_
        refine WL.ex rfl (ex_pick_f (v := .bool false) rfl rfl) ?_
        refine WL.ex rfl (ex_move (v := .bool false) rfl) ?_
        refine WL.guardNo rfl rfl rfl rfl ?_
        refine WL.guardNo rfl rfl rfl rfl ?_
        refine WL.guardNo rfl rfl rfl rfl ?_
        refine WL.guardNo rfl rfl rfl rfl ?_
        refine WL.guardNo rfl rfl rfl rfl ?_
        refine WL.ex rfl (ex_pick_f (v := .bool false) rfl rfl) ?_
        refine WL.ex rfl (ex_move (v := .bool false) rfl) ?_
        refine WL.guardNo rfl rfl rfl rfl ?_
        refine WL.guardNo rfl rfl rfl rfl ?_
        refine WL.guardNo rfl rfl rfl rfl ?_
        refine WL.guardNo rfl rfl rfl rfl ?_
        refine WL.guardNo rfl rfl rfl rfl ?_
        refine WL.ex rfl (ex_pick_f (v := .bool false) rfl rfl) ?_
        refine WL.ex rfl (ex_move (v := .bool false) rfl) ?_
        refine WL.guardNo rfl rfl rfl rfl ?_
        refine WL.guardNo rfl rfl rfl rfl ?_
        refine WL.guardNo rfl rfl rfl rfl ?_
        refine WL.guardNo rfl rfl rfl rfl ?_
        refine WL.guardNo rfl rfl rfl rfl ?_
        refine WL.ex rfl (ex_pick_f (v := .bool false) rfl rfl) ?_
        refine WL.ex rfl (ex_move (v := .bool false) rfl) ?_
        refine WL.guardNo rfl rfl rfl rfl ?_
        refine WL.ex rfl (ex_pick_f (v := .bool false) rfl rfl) ?_
        refine WL.ex rfl (ex_move (v := .bool false) rfl) ?_
        refine WL.guardNo rfl rfl rfl rfl ?_
        refine WL.guardNo rfl rfl rfl rfl ?_
        refine WL.ex rfl (ex_pick_f (v := .bool false) rfl rfl) ?_
        refine WL.ex rfl (ex_move (v := .bool false) rfl) ?_
        refine WL.guardNo rfl rfl rfl rfl ?_
        refine WL.guardNo rfl rfl rfl rfl ?_
        refine WL.guardNo rfl rfl rfl rfl ?_
        refine WL.ex rfl (ex_pick_f (v := .bool false) rfl rfl) ?_
        refine WL.ex rfl (ex_assign (v := .bool false) rfl) ?_
        refine WL.nil ?_
        refine WC.ret ?_
        obtain rfl := Option.some.inj H
        exact ⟨_, (.tmp (.bool false : Value) rfl .nil), _, rfl, HF.out⟩
    ·
      refine WL.guardNo rfl rfl rfl ((show _ = Value.bool ((z101.1.length : Int) == 6) from rfl).trans (congrArg Value.bool c159)) ?_
      refine WL.guardNo rfl rfl rfl ((show _ = Value.bool ((z101.1.length : Int) == 6) from rfl).trans (congrArg Value.bool c159)) ?_
      refine WL.guardNo rfl rfl rfl ((show _ = Value.bool ((z101.1.length : Int) == 6) from rfl).trans (congrArg Value.bool c159)) ?_
      refine WL.guardNo rfl rfl rfl ((show _ = Value.bool ((z101.1.length : Int) == 6) from rfl).trans (congrArg Value.bool c159)) ?_
      refine WL.guardNo rfl rfl rfl ((show _ = Value.bool ((z101.1.length : Int) == 6) from rfl).trans (congrArg Value.bool c159)) ?_
      refine WL.ex rfl (ex_pick_f (v := .bool false) ((show _ = Value.bool ((z101.1.length : Int) == 6) from rfl).trans (congrArg Value.bool c159)) rfl) ?_
      refine WL.ex rfl (ex_move (v := .bool false) rfl) ?_
      refine WL.guardNo rfl rfl rfl rfl ?_
      refine WL.guardNo rfl rfl rfl rfl ?_
      refine WL.guardNo rfl rfl rfl rfl ?_
      refine WL.guardNo rfl rfl rfl rfl ?_
      refine WL.guardNo rfl rfl rfl rfl ?_
      refine WL.ex rfl (ex_pick_f (v := .bool false) rfl rfl) ?_
      refine WL.ex rfl (ex_move (v := .bool false) rfl) ?_
      refine WL.guardNo rfl rfl rfl rfl ?_
      refine WL.guardNo rfl rfl rfl rfl ?_
      refine WL.guardNo rfl rfl rfl rfl ?_
      refine WL.guardNo rfl rfl rfl rfl ?_
      refine WL.guardNo rfl rfl rfl rfl ?_
      refine WL.guardNo rfl rfl rfl rfl ?_
      refine WL.ex rfl (ex_pick_f (v := .bool false) rfl rfl) ?_
      refine WL.ex rfl (ex_move (v := .bool false) rfl) ?_
      refine WL.guardNo rfl rfl rfl rfl ?_
      refine WL.guardNo rfl rfl rfl rfl ?_
      refine WL.guardNo rfl rfl rfl rfl ?_
      refine WL.guardNo rfl rfl rfl rfl ?_
      refine WL.guardNo rfl rfl rfl rfl ?_
      refine WL.ex rfl (ex_pick_f (v := .bool false) rfl rfl) ?_
      refine WL.ex rfl (ex_move (v := .bool false) rfl) ?_
      refine WL.guardNo rfl rfl rfl rfl ?_
      refine WL.guardNo rfl rfl rfl rfl ?_
      refine WL.guardNo rfl rfl rfl rfl ?_
      refine WL.guardNo rfl rfl rfl rfl ?_
      refine WL.ex rfl (ex_pick_f (v := .bool false) rfl rfl) ?_
      refine WL.ex rfl (ex_move (v := .bool false) rfl) ?_
      refine WL.guardNo rfl rfl rfl rfl ?_
      refine WL.guardNo rfl rfl rfl rfl ?_
      refine WL.guardNo rfl rfl rfl rfl ?_
      refine WL.ex rfl (ex_pick_f (v := .bool false) rfl rfl) ?_
      refine WL.ex rfl (ex_move (v := .bool false) rfl) ?_
      refine WL.guardNo rfl rfl rfl rfl ?_
      refine WL.guardNo rfl rfl rfl rfl ?_
      refine WL.ex rfl (ex_pick_f (v := .bool false) rfl rfl) ?_
      refine WL.ex rfl (ex_move (v := .bool false) rfl) ?_
      refine WL.guardNo rfl rfl rfl rfl ?_
      refine WL.guardNo rfl rfl rfl rfl ?_
      refine WL.guardNo rfl rfl rfl rfl ?_
      refine WL.ex rfl (ex_pick_f (v := .bool false) rfl rfl) ?_
      refine WL.ex rfl (ex_move (v := .bool false) rfl) ?_
      refine WL.guardNo rfl rfl rfl rfl ?_
      refine WL.guardNo rfl rfl rfl rfl ?_
      refine WL.guardNo rfl rfl rfl rfl ?_
      refine WL.ex rfl (ex_pick_f (v := .bool false) rfl rfl) ?_
      refine WL.ex rfl (ex_move (v := .bool false) rfl) ?_
      refine WL.guardNo rfl rfl rfl rfl ?_
      refine WL.guardNo rfl rfl rfl rfl ?_
      refine WL.guardNo rfl rfl rfl rfl ?_
      refine WL.guardNo rfl rfl rfl rfl ?_
      refine WL.guardNo rfl rfl rfl rfl ?_
      refine WL.ex rfl (ex_pick_f (v := .bool false) rfl rfl) ?_
      refine WL.ex rfl (ex_move (v := .bool false) rfl) ?_
      refine WL.guardNo rfl rfl rfl rfl ?_
      refine WL.guardNo rfl rfl rfl rfl ?_
      refine WL.guardNo rfl rfl rfl rfl ?_
      refine WL.guardNo rfl rfl rfl rfl ?_
      refine WL.guardNo rfl rfl rfl rfl ?_
      refine WL.ex rfl (ex_pick_f (v := .bool false) rfl rfl) ?_
      refine WL.ex rfl (ex_move (v := .bool false) rfl) ?_
      refine WL.guardNo rfl rfl rfl rfl ?_
      refine WL.guardNo rfl rfl rfl rfl ?_
      refine WL.guardNo rfl rfl rfl rfl ?_
      refine WL.guardNo rfl rfl rfl rfl ?_
      refine WL.guardNo rfl rfl rfl rfl ?_
      refine WL.ex rfl (ex_pick_f (v := .bool false) rfl rfl) ?_
      refine WL.ex rfl (ex_move (v := .bool false) rfl) ?_
      refine WL.guardNo rfl rfl rfl rfl ?_
      refine WL.ex rfl (ex_pick_f (v := .bool false) rfl rfl) ?_
      refine WL.ex rfl (ex_move (v := .bool false) rfl) ?_
      refine WL.guardNo rfl rfl rfl rfl ?_
      refine WL.guardNo rfl rfl rfl rfl ?_
      refine WL.ex rfl (ex_pick_f (v := .bool false) rfl rfl) ?_
      refine WL.ex rfl (ex_move (v := .bool false) rfl) ?_
      refine WL.guardNo rfl rfl rfl rfl ?_
      refine WL.guardNo rfl rfl rfl rfl ?_
      refine WL.guardNo rfl rfl rfl rfl ?_
      refine WL.ex rfl (ex_pick_f (v := .bool false) rfl rfl) ?_
      refine WL.ex rfl (ex_assign (v := .bool false) rfl) ?_
      refine WL.nil ?_
      refine WC.ret ?_
      obtain rfl := Option.some.inj H
      exact ⟨_, (.tmp (.bool false : Value) rfl .nil), _, rfl, HF.out⟩
  ·
    refine WL.guardNo rfl rfl rfl ((show _ = Value.bool (T_api_Fault.eqb z101.2 (⟨(0 : Int), (⟨(0 : Int), (0 : Int), (0 : Int)⟩ : T_api_Spot)⟩ : T_api_Fault)) from rfl).trans (congrArg Value.bool c155)) ?_
    refine WL.guardNo rfl rfl rfl ((show _ = Value.bool (T_api_Fault.eqb z101.2 (⟨(0 : Int), (⟨(0 : Int), (0 : Int), (0 : Int)⟩ : T_api_Spot)⟩ : T_api_Fault)) from rfl).trans (congrArg Value.bool c155)) ?_
    refine WL.guardNo rfl rfl rfl ((show _ = Value.bool (T_api_Fault.eqb z101.2 (⟨(0 : Int), (⟨(0 : Int), (0 : Int), (0 : Int)⟩ : T_api_Spot)⟩ : T_api_Fault)) from rfl).trans (congrArg Value.bool c155)) ?_
    refine WL.ex rfl (ex_pick_f (v := .bool false) ((show _ = Value.bool (T_api_Fault.eqb z101.2 (⟨(0 : Int), (⟨(0 : Int), (0 : Int), (0 : Int)⟩ : T_api_Spot)⟩ : T_api_Fault)) from rfl).trans (congrArg Value.bool c155)) rfl) ?_
    refine WL.ex rfl (ex_move (v := .bool false) rfl) ?_
    refine WL.guardNo rfl rfl rfl rfl ?_
    refine WL.guardNo rfl rfl rfl rfl ?_
    refine WL.guardNo rfl rfl rfl rfl ?_
    refine WL.guardNo rfl rfl rfl rfl ?_
    refine WL.guardNo rfl rfl rfl rfl ?_
    refine WL.ex rfl (ex_pick_f (v := .bool false) rfl rfl) ?_
    refine WL.ex rfl (ex_move (v := .bool false) rfl) ?_
    refine WL.guardNo rfl rfl rfl rfl ?_
    refine WL.guardNo rfl rfl rfl rfl ?_
    refine WL.guardNo rfl rfl rfl rfl ?_
    refine WL.guardNo rfl rfl rfl rfl ?_
    refine WL.guardNo rfl rfl rfl rfl ?_
    refine WL.ex rfl (ex_pick_f (v := .bool false) rfl rfl) ?_
    refine WL.ex rfl (ex_move (v := .bool false) rfl) ?_
    refine WL.guardNo rfl rfl rfl rfl ?_
    refine WL.guardNo rfl rfl rfl rfl ?_
    refine WL.guardNo rfl rfl rfl rfl ?_
    refine WL.guardNo rfl rfl rfl rfl ?_
    refine WL.guardNo rfl rfl rfl rfl ?_
    refine WL.guardNo rfl rfl rfl rfl ?_
    refine WL.ex rfl (ex_pick_f (v := .bool false) rfl rfl) ?_
    refine WL.ex rfl (ex_move (v := .bool false) rfl) ?_
    refine WL.guardNo rfl rfl rfl rfl ?_
    refine WL.guardNo rfl rfl rfl rfl ?_
    refine WL.guardNo rfl rfl rfl rfl ?_
    refine WL.guardNo rfl rfl rfl rfl ?_
    refine WL.guardNo rfl rfl rfl rfl ?_
    refine WL.ex rfl (ex_pick_f (v := .bool false) rfl rfl) ?_
    refine WL.ex rfl (ex_move (v := .bool false) rfl) ?_
    refine WL.guardNo rfl rfl rfl rfl ?_
    refine WL.guardNo rfl rfl rfl rfl ?_
    refine WL.guardNo rfl rfl rfl rfl ?_
    refine WL.guardNo rfl rfl rfl rfl ?_
    refine WL.ex rfl (ex_pick_f (v := .bool false) rfl rfl) ?_
    refine WL.ex rfl (ex_move (v := .bool false) rfl) ?_
    refine WL.guardNo rfl rfl rfl rfl ?_
    refine WL.guardNo rfl rfl rfl rfl ?_
    refine WL.guardNo rfl rfl rfl rfl ?_
    refine WL.ex rfl (ex_pick_f (v := .bool false) rfl rfl) ?_
    refine WL.ex rfl (ex_move (v := .bool false) rfl) ?_
    refine WL.guardNo rfl rfl rfl rfl ?_
    refine WL.guardNo rfl rfl rfl rfl ?_
    refine WL.ex rfl (ex_pick_f (v := .bool false) rfl rfl) ?_
    refine WL.ex rfl (ex_move (v := .bool false) rfl) ?_
    refine WL.guardNo rfl rfl rfl rfl ?_
    refine WL.guardNo rfl rfl rfl rfl ?_
    refine WL.guardNo rfl rfl rfl rfl ?_
    refine WL.ex rfl (ex_pick_f (v := .bool false) rfl rfl) ?_
    refine WL.ex rfl (ex_move (v := .bool false) rfl) ?_
    refine WL.guardNo rfl rfl rfl rfl ?_
    refine WL.guardNo rfl rfl rfl rfl ?_
    refine WL.guardNo rfl rfl rfl rfl ?_
    refine WL.ex rfl (ex_pick_f (v := .bool false) rfl rfl) ?_
    refine WL.ex rfl (ex_move (v := .bool false) rfl) ?_
    refine WL.guardNo rfl rfl rfl rfl ?_
    refine WL.guardNo rfl rfl rfl rfl ?_
    refine WL.guardNo rfl rfl rfl rfl ?_
    refine WL.guardNo rfl rfl rfl rfl ?_
    refine WL.guardNo rfl rfl rfl rfl ?_
    refine WL.ex rfl (ex_pick_f (v := .bool false) rfl rfl) ?_
    refine WL.ex rfl (ex_move (v := .bool false) rfl) ?_
    refine WL.guardNo rfl rfl rfl rfl ?_
    refine WL.guardNo rfl rfl rfl rfl ?_
    refine WL.guardNo rfl rfl rfl rfl ?_
    refine WL.guardNo rfl rfl rfl rfl ?_
    refine WL.guardNo rfl rfl rfl rfl ?_
    refine WL.ex rfl (ex_pick_f (v := .bool false) rfl rfl) ?_
    refine WL.ex rfl (ex_move (v := .bool false) rfl) ?_
    refine WL.guardNo rfl rfl rfl rfl ?_
    refine WL.guardNo rfl rfl rfl rfl ?_
    refine WL.guardNo rfl rfl rfl rfl ?_
    refine WL.guardNo rfl rfl rfl rfl ?_
    refine WL.guardNo rfl rfl rfl rfl ?_
    refine WL.ex rfl (ex_pick_f (v := .bool false) rfl rfl) ?_
    refine WL.ex rfl (ex_move (v := .bool false) rfl) ?_
    refine WL.guardNo rfl rfl rfl rfl ?_
    refine WL.ex rfl (ex_pick_f (v := .bool false) rfl rfl) ?_
    refine WL.ex rfl (ex_move (v := .bool false) rfl) ?_
    refine WL.guardNo rfl rfl rfl rfl ?_
    refine WL.guardNo rfl rfl rfl rfl ?_
    refine WL.ex rfl (ex_pick_f (v := .bool false) rfl rfl) ?_
    refine WL.ex rfl (ex_move (v := .bool false) rfl) ?_
    refine WL.guardNo rfl rfl rfl rfl ?_
    refine WL.guardNo rfl rfl rfl rfl ?_
    refine WL.guardNo rfl rfl rfl rfl ?_
    refine WL.ex rfl (ex_pick_f (v := .bool false) rfl rfl) ?_
    refine WL.ex rfl (ex_assign (v := .bool false) rfl) ?_
    refine WL.nil ?_
    refine WC.ret ?_
    obtain rfl := Option.some.inj H
    exact ⟨_, (.tmp (.bool false : Value) rfl .nil), _, rfl, HF.out⟩

/-! ### dictumlaw02_TokenWrites -/
set_option maxRecDepth 100000 in
theorem dictumlaw02_TokenWrites.calls (k : Nat) (o0 : Tags) (w0 : World) (pA1 : Option Addr) (pc1 : Nat) (a0 : T_api_Token) (a1 : (List T_api_Token)) (r : Bool) (hO : ∀ b, b < w0.heap.size → o0 b < 10) (hra1 : Row T_api_Token.rep (fun b_ => o0 b_ = 0) (fun b_ => o0 b_ = 0) w0 pA1 a1) (hla1 : a1.length ≤ pc1) (hG : Gl GG o0 w0) (H : dictumlaw02_TokenWrites.f k a0 a1 = some r) :
    Calls Tryd.prog 5 [.agg #[.int .i64 a0.f_Kind, encS a0.f_Text, .int .i64 a0.f_Int, .int .i64 a0.f_At.f_Line, .int .i64 a0.f_At.f_Col, .int .i64 a0.f_At.f_Off], .slice pA1 a1.length pc1].toArray w0 fun e_ w_ => ∃ (o_ : Tags), e_ = .returned (one [.bool r]) ∧ Step o0 w0 o_ w_ [] := by
  have HF := Fm.refl hO []
  unfold dictumlaw02_TokenWrites.f at H
  refine SX.calls [.agg #[.int .i64 a0.f_Kind, encS a0.f_Text, .int .i64 a0.f_Int, .int .i64 a0.f_At.f_Line, .int .i64 a0.f_At.f_Col, .int .i64 a0.f_At.f_Off], .slice pA1 a1.length pc1] Tryd.func5 rfl rfl ?_
  rw [Tryd.ntmps5]
  refine WC.seq ?_
  refine WC.region ?_
  refine WL.op rfl ?_
  refine OW.box' [.int .i64 a0.f_Kind, encS a0.f_Text, .int .i64 a0.f_Int, .int .i64 a0.f_At.f_Line, .int .i64 a0.f_At.f_Col, .int .i64 a0.f_At.f_Off] 10 HF rfl ((congrArg Value.cells (show ev _ _ = (.agg #[.int .i64 a0.f_Kind, encS a0.f_Text, .int .i64 a0.f_Int, .int .i64 a0.f_At.f_Line, .int .i64 a0.f_At.f_Col, .int .i64 a0.f_At.f_Off] : Value) from rfl)).trans rfl) ?_
  intro o102 w103 b101 s104 hB105
  replace hra1 := hra1.step s104 rfl
  replace hG := hG.step s104 rfl
  replace HF := HF.step s104 rfl
  refine WL.ex rfl (ex_assign (v := .bool false) rfl) ?_
  refine WL.nil ?_
  refine WC.seq ?_
  refine WC.region ?_
  refine WL.ex rfl (ex_loadN (cs := [.int .i64 a0.f_Kind, encS a0.f_Text, .int .i64 a0.f_Int, .int .i64 a0.f_At.f_Line, .int .i64 a0.f_At.f_Col, .int .i64 a0.f_At.f_Off]) rfl Tryd.underlying37 rfl sz37 (hB105.cells rfl)) ?_
  obtain ⟨z106, hz106, H⟩ := bindE H
  refine WL.op rfl ?_
  refine OW.call [.agg #[.int .i64 a0.f_Kind, encS a0.f_Text, .int .i64 a0.f_Int, .int .i64 a0.f_At.f_Line, .int .i64 a0.f_At.f_Col, .int .i64 a0.f_At.f_Off]] rfl Tryd.func17 (by kernel_rfl) (by kernel_rfl) (map_cons' rfl rfl) (token_Write.calls k _ _ (⟨a0.f_Kind, a0.f_Text, a0.f_Int, (⟨a0.f_At.f_Line, a0.f_At.f_Col, a0.f_At.f_Off⟩ : T_api_Spot)⟩ : T_api_Token) z106 (HF.ten (V := [0]) (L := []) rfl) (Gl.vw (V := [0]) (L := []) hG rfl) hz106) ?_
  rintro _ w107 ⟨o108, rfl, s109⟩
  refine ⟨_, rfl, ?_⟩
  replace s109 := un_stepL (J := []) (L' := []) s109 rfl rfl
  replace hra1 := hra1.step s109 rfl
  replace hG := hG.step s109 rfl
  replace hB105 := hB105.step s109 rfl
  replace HF := HF.step s109 rfl
  refine WL.ex rfl (ex_move (v := .tuple #[encS z106.1, .int .i64 z106.2]) rfl) ?_
  refine WL.ex rfl (ex_extract (vs := #[encS z106.1, .int .i64 z106.2]) (v := encS z106.1) rfl rfl) ?_
  refine WL.ex rfl (ex_extract (vs := #[encS z106.1, .int .i64 z106.2]) (v := .int .i64 z106.2) rfl rfl) ?_
  refine WL.ex rfl (ex_assign (v := encS z106.1) rfl) ?_
  refine WL.ex rfl (ex_assign (v := .int .i64 z106.2) rfl) ?_
  refine WL.nil ?_
  refine WC.seq ?_
  refine WC.region ?_
  refine WL.ex rfl (ex_loadN (cs := [.int .i64 a0.f_Kind, encS a0.f_Text, .int .i64 a0.f_Int, .int .i64 a0.f_At.f_Line, .int .i64 a0.f_At.f_Col, .int .i64 a0.f_At.f_Off]) rfl Tryd.underlying37 rfl sz37 (hB105.cells rfl)) ?_
  obtain ⟨z110, hz110, H⟩ := bindE H
  refine WL.op rfl ?_
  refine OW.call [.agg #[.int .i64 a0.f_Kind, encS a0.f_Text, .int .i64 a0.f_Int, .int .i64 a0.f_At.f_Line, .int .i64 a0.f_At.f_Col, .int .i64 a0.f_At.f_Off]] rfl Tryd.func18 (by kernel_rfl) (by kernel_rfl) (map_cons' rfl rfl) (dictumref02_Write.calls k _ _ (⟨a0.f_Kind, a0.f_Text, a0.f_Int, (⟨a0.f_At.f_Line, a0.f_At.f_Col, a0.f_At.f_Off⟩ : T_api_Spot)⟩ : T_api_Token) z110 (HF.ten (V := [0]) (L := []) rfl) (Gl.vw (V := [0]) (L := []) hG rfl) hz110) ?_
  rintro _ w111 ⟨o112, rfl, s113⟩
  refine ⟨_, rfl, ?_⟩
  replace s113 := un_stepL (J := []) (L' := []) s113 rfl rfl
  replace hra1 := hra1.step s113 rfl
  replace hG := hG.step s113 rfl
  replace hB105 := hB105.step s113 rfl
  replace HF := HF.step s113 rfl
  refine WL.ex rfl (ex_move (v := .tuple #[encS z110.1, .int .i64 z110.2]) rfl) ?_
  refine WL.ex rfl (ex_extract (vs := #[encS z110.1, .int .i64 z110.2]) (v := encS z110.1) rfl rfl) ?_
  refine WL.ex rfl (ex_extract (vs := #[encS z110.1, .int .i64 z110.2]) (v := .int .i64 z110.2) rfl rfl) ?_
  refine WL.ex rfl (ex_assign (v := encS z110.1) rfl) ?_
  refine WL.ex rfl (ex_assign (v := .int .i64 z110.2) rfl) ?_
  refine WL.nil ?_
  refine WC.seq ?_
  refine WC.region ?_
  refine WL.ex rfl (ex_move (v := .slice pA1 a1.length pc1) rfl) ?_
  obtain ⟨z114, hz114, H⟩ := bindE H
  refine WL.op rfl ?_
  refine OW.call [.slice pA1 a1.length pc1] rfl Tryd.func19 (by kernel_rfl) (by kernel_rfl) (map_cons' rfl rfl) (token_Join.calls k _ _ pA1 pc1 a1 z114 (HF.ten (V := [0]) (L := []) rfl) (Row.vw (V := [0]) (L := []) hra1 rfl) hla1 (Gl.vw (V := [0]) (L := []) hG rfl) hz114) ?_
  rintro _ w115 ⟨o116, rfl, s117⟩
  refine ⟨_, rfl, ?_⟩
  replace s117 := un_stepL (J := []) (L' := []) s117 rfl rfl
  replace hra1 := hra1.step s117 rfl
  replace hG := hG.step s117 rfl
  replace hB105 := hB105.step s117 rfl
  replace HF := HF.step s117 rfl
  refine WL.ex rfl (ex_move (v := .tuple #[encS z114.1, .int .i64 z114.2]) rfl) ?_
  refine WL.ex rfl (ex_extract (vs := #[encS z114.1, .int .i64 z114.2]) (v := encS z114.1) rfl rfl) ?_
  refine WL.ex rfl (ex_extract (vs := #[encS z114.1, .int .i64 z114.2]) (v := .int .i64 z114.2) rfl rfl) ?_
  refine WL.ex rfl (ex_assign (v := encS z114.1) rfl) ?_
  refine WL.ex rfl (ex_assign (v := .int .i64 z114.2) rfl) ?_
  refine WL.nil ?_
  refine WC.seq ?_
  refine WC.region ?_
  refine WL.ex rfl (ex_move (v := .slice pA1 a1.length pc1) rfl) ?_
  obtain ⟨z118, hz118, H⟩ := bindE H
  refine WL.op rfl ?_
  refine OW.call [.slice pA1 a1.length pc1] rfl Tryd.func20 (by kernel_rfl) (by kernel_rfl) (map_cons' rfl rfl) (dictumref02_Join.calls k _ _ pA1 pc1 a1 z118 (HF.ten (V := [0]) (L := []) rfl) (Row.vw (V := [0]) (L := []) hra1 rfl) hla1 (Gl.vw (V := [0]) (L := []) hG rfl) hz118) ?_
  rintro _ w119 ⟨o120, rfl, s121⟩
  refine ⟨_, rfl, ?_⟩
  replace s121 := un_stepL (J := []) (L' := []) s121 rfl rfl
  replace hra1 := hra1.step s121 rfl
  replace hG := hG.step s121 rfl
  replace hB105 := hB105.step s121 rfl
  replace HF := HF.step s121 rfl
  refine WL.ex rfl (ex_move (v := .tuple #[encS z118.1, .int .i64 z118.2]) rfl) ?_
  refine WL.ex rfl (ex_extract (vs := #[encS z118.1, .int .i64 z118.2]) (v := encS z118.1) rfl rfl) ?_
  refine WL.ex rfl (ex_extract (vs := #[encS z118.1, .int .i64 z118.2]) (v := .int .i64 z118.2) rfl rfl) ?_
  refine WL.ex rfl (ex_assign (v := encS z118.1) rfl) ?_
  refine WL.ex rfl (ex_assign (v := .int .i64 z118.2) rfl) ?_
  refine WL.nil ?_
  refine WC.seq ?_
  refine WC.region ?_
  refine WL.ex rfl (ex_move (v := encS z106.1) rfl) ?_
  refine WL.ex rfl (ex_move (v := encS z110.1) rfl) ?_
  refine WL.ex rfl (ex_bin (a := encS z106.1) (b := encS z110.1) (v := .bool (z106.1 == z110.1)) rfl rfl bin_eql_str) ?_
  refine WL.ex rfl (ex_move (v := .bool (z106.1 == z110.1)) rfl) ?_
  rcases condE H with ⟨c122, H⟩ | ⟨c122, H⟩
  ·
    refine WL.guardYes rfl rfl rfl ((show _ = Value.bool (z106.1 == z110.1) from rfl).trans (congrArg Value.bool c122)) ?_
    refine OW.ex rfl (ex_move (v := .int .i64 z106.2) rfl) ?_
    refine WL.guardYes rfl rfl rfl ((show _ = Value.bool (z106.1 == z110.1) from rfl).trans (congrArg Value.bool c122)) ?_
    obtain ⟨z123, hz123, H⟩ := bindE H
    refine OW.call [.int .i64 z106.2] rfl Tryd.func21 (by kernel_rfl) (by kernel_rfl) (map_cons' rfl rfl) (dictumlaw02_num.calls _ _ z106.2 z123 (HF.ten (V := [0]) (L := []) rfl)  hz123) ?_
    rintro _ w124 ⟨o125, rfl, s126⟩
    refine ⟨_, rfl, ?_⟩
    replace s126 := un_stepL (J := []) (L' := []) s126 rfl rfl
    replace hra1 := hra1.step s126 rfl
    replace hG := hG.step s126 rfl
    replace hB105 := hB105.step s126 rfl
    replace HF := HF.step s126 rfl
    refine WL.guardYes rfl rfl rfl ((show _ = Value.bool (z106.1 == z110.1) from rfl).trans (congrArg Value.bool c122)) ?_
    refine OW.ex rfl (ex_move (v := .int .i64 z110.2) rfl) ?_
    refine WL.guardYes rfl rfl rfl ((show _ = Value.bool (z106.1 == z110.1) from rfl).trans (congrArg Value.bool c122)) ?_
    refine OW.ex rfl (ex_bin (a := .int .i64 z123) (b := .int .i64 z110.2) (v := .bool (z123 == z110.2)) rfl rfl bin_eql) ?_
    refine WL.ex rfl (ex_pick_t (v := .bool (z123 == z110.2)) ((show _ = Value.bool (z106.1 == z110.1) from rfl).trans (congrArg Value.bool c122)) rfl) ?_
    refine WL.ex rfl (ex_move (v := .bool (z123 == z110.2)) rfl) ?_
    rcases condE H with ⟨c127, H⟩ | ⟨c127, H⟩
    ·
      refine WL.guardYes rfl rfl rfl ((show _ = Value.bool (z123 == z110.2) from rfl).trans (congrArg Value.bool c127)) ?_
      refine OW.ex rfl (ex_move (v := encS z114.1) rfl) ?_
      refine WL.guardYes rfl rfl rfl ((show _ = Value.bool (z123 == z110.2) from rfl).trans (congrArg Value.bool c127)) ?_
      refine OW.ex rfl (ex_move (v := encS z118.1) rfl) ?_
      refine WL.guardYes rfl rfl rfl ((show _ = Value.bool (z123 == z110.2) from rfl).trans (congrArg Value.bool c127)) ?_
      refine OW.ex rfl (ex_bin (a := encS z114.1) (b := encS z118.1) (v := .bool (z114.1 == z118.1)) rfl rfl bin_eql_str) ?_
      refine WL.ex rfl (ex_pick_t (v := .bool (z114.1 == z118.1)) ((show _ = Value.bool (z123 == z110.2) from rfl).trans (congrArg Value.bool c127)) rfl) ?_
      refine WL.ex rfl (ex_move (v := .bool (z114.1 == z118.1)) rfl) ?_
      rcases condE H with ⟨c128, H⟩ | ⟨c128, H⟩
      ·
        refine WL.guardYes rfl rfl rfl ((show _ = Value.bool (z114.1 == z118.1) from rfl).trans (congrArg Value.bool c128)) ?_
        refine OW.ex rfl (ex_move (v := .int .i64 z114.2) rfl) ?_
        refine WL.guardYes rfl rfl rfl ((show _ = Value.bool (z114.1 == z118.1) from rfl).trans (congrArg Value.bool c128)) ?_
        obtain ⟨z129, hz129, H⟩ := bindE H
        refine OW.call [.int .i64 z114.2] rfl Tryd.func21 (by kernel_rfl) (by kernel_rfl) (map_cons' rfl rfl) (dictumlaw02_num.calls _ _ z114.2 z129 (HF.ten (V := [0]) (L := []) rfl)  hz129) ?_
        rintro _ w130 ⟨o131, rfl, s132⟩
        refine ⟨_, rfl, ?_⟩
        replace s132 := un_stepL (J := []) (L' := []) s132 rfl rfl
        replace hra1 := hra1.step s132 rfl
        replace hG := hG.step s132 rfl
        replace hB105 := hB105.step s132 rfl
        replace HF := HF.step s132 rfl
        refine WL.guardYes rfl rfl rfl ((show _ = Value.bool (z114.1 == z118.1) from rfl).trans (congrArg Value.bool c128)) ?_
        refine OW.ex rfl (ex_move (v := .int .i64 z118.2) rfl) ?_
        refine WL.guardYes rfl rfl rfl ((show _ = Value.bool (z114.1 == z118.1) from rfl).trans (congrArg Value.bool c128)) ?_
        refine OW.ex rfl (ex_bin (a := .int .i64 z129) (b := .int .i64 z118.2) (v := .bool (z129 == z118.2)) rfl rfl bin_eql) ?_
        refine WL.ex rfl (ex_pick_t (v := .bool (z129 == z118.2)) ((show _ = Value.bool (z114.1 == z118.1) from rfl).trans (congrArg Value.bool c128)) rfl) ?_
        refine WL.ex rfl (ex_move (v := .bool (z129 == z118.2)) rfl) ?_
        rcases condE H with ⟨c133, H⟩ | ⟨c133, H⟩
        ·
          refine WL.guardYes rfl rfl rfl ((show _ = Value.bool (z129 == z118.2) from rfl).trans (congrArg Value.bool c133)) ?_
          obtain ⟨z134, hz134, H⟩ := bindE H
          refine OW.call [] rfl Tryd.func13 (by kernel_rfl) (by kernel_rfl) rfl (dictumlaw02_alive.calls k _ _ z134 (HF.ten (V := [0]) (L := []) rfl) (Gl.vw (V := [0]) (L := []) hG rfl) hz134) ?_
          rintro _ w135 ⟨o136, rfl, s137⟩
          refine ⟨_, rfl, ?_⟩
          replace s137 := un_stepL (J := []) (L' := []) s137 rfl rfl
          replace hra1 := hra1.step s137 rfl
          replace hG := hG.step s137 rfl
          replace hB105 := hB105.step s137 rfl
          replace HF := HF.step s137 rfl
          refine WL.ex rfl (ex_pick_t (v := .bool z134) ((show _ = Value.bool (z129 == z118.2) from rfl).trans (congrArg Value.bool c133)) rfl) ?_
          refine WL.ex rfl (ex_assign (v := .bool z134) rfl) ?_
          refine WL.nil ?_
          refine WC.ret ?_
          obtain rfl := Option.some.inj H
          exact ⟨_, (.tmp (.bool z134 : Value) rfl .nil), _, rfl, HF.out⟩
        ·
          refine WL.guardNo rfl rfl rfl ((show _ = Value.bool (z129 == z118.2) from rfl).trans (congrArg Value.bool c133)) ?_
          refine WL.ex rfl (ex_pick_f (v := .bool false) ((show _ = Value.bool (z129 == z118.2) from rfl).trans (congrArg Value.bool c133)) rfl) ?_
          refine WL.ex rfl (ex_assign (v := .bool false) rfl) ?_
          refine WL.nil ?_
          refine WC.ret ?_
          obtain rfl := Option.some.inj H
          exact ⟨_, (.tmp (.bool false : Value) rfl .nil), _, rfl, HF.out⟩
      ·
        refine WL.guardNo rfl rfl rfl ((show _ = Value.bool (z114.1 == z118.1) from rfl).trans (congrArg Value.bool c128)) ?_
        refine WL.guardNo rfl rfl rfl ((show _ = Value.bool (z114.1 == z118.1) from rfl).trans (congrArg Value.bool c128)) ?_
        refine WL.guardNo rfl rfl rfl ((show _ = Value.bool (z114.1 == z118.1) from rfl).trans (congrArg Value.bool c128)) ?_
        refine WL.guardNo rfl rfl rfl ((show _ = Value.bool (z114.1 == z118.1) from rfl).trans (congrArg Value.bool c128)) ?_
        refine WL.ex rfl (ex_pick_f (v := .bool false) ((show _ = Value.bool (z114.1 == z118.1) from rfl).trans (congrArg Value.bool c128)) rfl) ?_
        refine WL.ex rfl (ex_move (v := .bool false) rfl) ?_
        refine WL.guardNo rfl rfl rfl rfl ?_
        refine WL.ex rfl (ex_pick_f (v := .bool false) rfl rfl) ?_
        refine WL.ex rfl (ex_assign (v := .bool false) rfl) ?_
        refine WL.nil ?_
        refine WC.ret ?_
        obtain rfl := Option.some.inj H
        exact ⟨_, (.tmp (.bool false : Value) rfl .nil), _, rfl, HF.out⟩
    ·
      refine WL.guardNo rfl rfl rfl ((show _ = Value.bool (z123 == z110.2) from rfl).trans (congrArg Value.bool c127)) ?_
      refine WL.guardNo rfl rfl rfl ((show _ = Value.bool (z123 == z110.2) from rfl).trans (congrArg Value.bool c127)) ?_
      refine WL.guardNo rfl rfl rfl ((show _ = Value.bool (z123 == z110.2) from rfl).trans (congrArg Value.bool c127)) ?_
      refine WL.ex rfl (ex_pick_f (v := .bool false) ((show _ = Value.bool (z123 == z110.2) from rfl).trans (congrArg Value.bool c127)) rfl) ?_
      refine WL.ex rfl (ex_move (v := .bool false) rfl) ?_
      refine WL.guardNo rfl rfl rfl rfl ?_
      refine WL.guardNo rfl rfl rfl rfl ?_
      refine WL.guardNo rfl rfl rfl rfl ?_
      refine WL.guardNo rfl rfl rfl rfl ?_
      refine WL.ex rfl (ex_pick_f (v := .bool false) rfl rfl) ?_
      refine WL.ex rfl (ex_move (v := .bool false) rfl) ?_
      refine WL.guardNo rfl rfl rfl rfl ?_
      refine WL.ex rfl (ex_pick_f (v := .bool false) rfl rfl) ?_
      refine WL.ex rfl (ex_assign (v := .bool false) rfl) ?_
      refine WL.nil ?_
      refine WC.ret ?_
      obtain rfl := Option.some.inj H
      exact ⟨_, (.tmp (.bool false : Value) rfl .nil), _, rfl, HF.out⟩
  ·
    refine WL.guardNo rfl rfl rfl ((show _ = Value.bool (z106.1 == z110.1) from rfl).trans (congrArg Value.bool c122)) ?_
    refine WL.guardNo rfl rfl rfl ((show _ = Value.bool (z106.1 == z110.1) from rfl).trans (congrArg Value.bool c122)) ?_
    refine WL.guardNo rfl rfl rfl ((show _ = Value.bool (z106.1 == z110.1) from rfl).trans (congrArg Value.bool c122)) ?_
    refine WL.guardNo rfl rfl rfl ((show _ = Value.bool (z106.1 == z110.1) from rfl).trans (congrArg Value.bool c122)) ?_
    refine WL.ex rfl (ex_pick_f (v := .bool false) ((show _ = Value.bool (z106.1 == z110.1) from rfl).trans (congrArg Value.bool c122)) rfl) ?_
    refine WL.ex rfl (ex_move (v := .bool false) rfl) ?_
    refine WL.guardNo rfl rfl rfl rfl ?_
    refine WL.guardNo rfl rfl rfl rfl ?_
    refine WL.guardNo rfl rfl rfl rfl ?_
    refine WL.ex rfl (ex_pick_f (v := .bool false) rfl rfl) ?_
    refine WL.ex rfl (ex_move (v := .bool false) rfl) ?_
    refine WL.guardNo rfl rfl rfl rfl ?_
    refine WL.guardNo rfl rfl rfl rfl ?_
    refine WL.guardNo rfl rfl rfl rfl ?_
    refine WL.guardNo rfl rfl rfl rfl ?_
    refine WL.ex rfl (ex_pick_f (v := .bool false) rfl rfl) ?_
    refine WL.ex rfl (ex_move (v := .bool false) rfl) ?_
    refine WL.guardNo rfl rfl rfl rfl ?_
    refine WL.ex rfl (ex_pick_f (v := .bool false) rfl rfl) ?_
    refine WL.ex rfl (ex_assign (v := .bool false) rfl) ?_
    refine WL.nil ?_
    refine WC.ret ?_
    obtain rfl := Option.some.inj H
    exact ⟨_, (.tmp (.bool false : Value) rfl .nil), _, rfl, HF.out⟩
end Go.Proofs.YtjhmhdedonibbaaDoor.X
