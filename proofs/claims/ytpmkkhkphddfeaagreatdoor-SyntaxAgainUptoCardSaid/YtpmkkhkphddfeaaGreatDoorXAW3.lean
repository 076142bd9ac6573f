import Derived.Test.YtpmkkhkphddfeaaGreatDoorXAW2
set_option maxRecDepth 20000
set_option linter.unusedVariables false
set_option linter.unusedSimpArgs false
set_option linter.unnecessarySimpa false
namespace Go.Proofs.YtpmkkhkphddfeaaGreatDoor.X
open Go Go.RowKit Go.Proofs.YtpmkkhkphddfeaaGreatDoor.SX
/-! ### dictumlaw04_heads -/
set_option maxRecDepth 100000 in
theorem dictumlaw04_heads.calls (k : Nat) (o0 : Tags) (w0 : World) {r : Bool} (H : dictumlaw04_heads.f k = some r) (hO : ∀ b, b < w0.heap.size → o0 b < 40) (hG : Gl GG o0 w0) :
  Calls Tryz.prog 13 [].toArray w0 fun e_ w_ => ∃ (o_ : Tags), e_ = .returned (one [.bool r]) ∧ Step o0 w0 o_ w_ [] := by
 have HF := Fm.refl hO []
 unfold dictumlaw04_heads.f at H
 refine SX.calls [] Tryz.func13 rfl rfl ?_
 rw [Tryz.ntmps13]
 refine WC.seq <|
  WC.region <|
  E rfl (sg (.bool false) rfl) <|
  WL.nil <|
  WC.seq <|
  WC.region ?_
 obtain ⟨z101, hz101, H⟩ := bindE H
 refine WL.op rfl <|
  OW.call [] rfl Tryz.func21 (by kernel_rfl) (by kernel_rfl) rfl (formula_New.calls _ _ hz101 (HF.ten (V := [0]) (L := []) rfl) ) ?_
 rintro _ w102 ⟨o103, b105, v107, b109, rfl, s104, hB106, hO108, hM110⟩
 refine ⟨_, rfl, ?_⟩
 replace hB106 := Bk.un9 (J := [40, 41, 42]) 0 hB106 rfl s104 rfl rfl
 replace hO108 := Own.un9 (J := [40, 41, 42]) 1 hO108 rfl s104 rfl rfl
 replace hM110 := Mp.un9 (J := [40, 41, 42]) 2 hM110 rfl s104 rfl rfl
 replace s104 := un_stepL (J := [40, 41, 42]) (L' := []) s104 rfl rfl
 refine E rfl (sg (pp b105 0) rfl) <|
  WL.nil <|
  WC.seq <|
  WC.region <|
  E rfl (mv (pp b105 0) rfl) ?_
 obtain ⟨z111, hz111, H⟩ := bindE H
 refine WL.op rfl ?_
 replace hG := hG.step s104 rfl
 replace HF := HF.step s104 rfl
 refine OW.call [pp b105 0, encS ([112, 32, 45, 62, 32, 113, 32, 38, 32, 112] : List UInt8)] rfl Tryz.func12 (by kernel_rfl) (by kernel_rfl) (map_cons' rfl (map_cons' rfl rfl)) (syntax_Parse.calls k _ _ b105 v107 b109 (a0 := z101.1) hz111 (HF.ten (V := [0]) (L := [40, 41, 42]) rfl) (Bk.vw hB106 rfl) (Own.vw hO108 rfl rfl) (Mp.vw hM110 rfl) (Gl.vw hG rfl)) ?_
 rintro _ w112 ⟨o113, v116, rfl, s114, hB115, hO117, hM118⟩
 refine ⟨_, rfl, ?_⟩
 replace hB115 := Bk.unO (J := []) 0 hB115 s114 rfl rfl rfl
 replace hO117 := Own.unO (J := []) 1 hO117 s114 rfl rfl rfl
 replace hM118 := Mp.unO (J := []) 2 hM118 s114 rfl rfl rfl
 replace s114 := un_stepL (J := []) (L' := [40, 41, 42]) s114 rfl rfl
 refine E rfl (mv (.tuple #[ii z111.1, .agg #[ii z111.2.1.f_Code, ii z111.2.1.f_At.f_Line, ii z111.2.1.f_At.f_Col, ii z111.2.1.f_At.f_Off]]) rfl) <|
  E rfl (ex_extract rfl rfl) <|
  E rfl (ex_extract rfl rfl) <|
  WL.op rfl ?_
 replace HF := HF.step s114 rfl
 refine OW.alloc' [ii (0 : Int), ii (0 : Int), ii (0 : Int), ii (0 : Int)] 43 HF rfl zr36 rfl ?_
 intro o120 w121 b119 s122 hB123
 refine E rfl (sg (ii z111.1) rfl) <|
  WL.op rfl <|
  OW.storeW rfl rfl sz36 hB123 rfl (oa rfl) ?_
 intro w124 s125 hB126
 refine WL.nil <|
  WC.seq <|
  WC.region <|
  E rfl (mv (pp b105 0) rfl) ?_
 obtain ⟨z127, hz127, H⟩ := bindE H
 refine WL.op rfl ?_
 have k122_125 := s122.t s125
 replace hB115 := hB115.step k122_125 rfl
 replace hO117 := hO117.step k122_125 rfl rfl
 replace hM118 := hM118.step k122_125 rfl
 replace HF := HF.step k122_125 rfl
 have k114_125 := s114.t k122_125
 replace hG := hG.step k114_125 rfl
 refine OW.call [pp b105 0, encS ([126, 112] : List UInt8)] rfl Tryz.func12 (by kernel_rfl) (by kernel_rfl) (map_cons' rfl (map_cons' rfl rfl)) (syntax_Parse.calls k _ _ b105 v116 b109 (a0 := z111.2.2.1) hz127 (HF.ten (V := [0]) (L := [40, 41, 42]) rfl) (Bk.vw hB115 rfl) (Own.vw hO117 rfl rfl) (Mp.vw hM118 rfl) (Gl.vw hG rfl)) ?_
 rintro _ w128 ⟨o129, v132, rfl, s130, hB131, hO133, hM134⟩
 refine ⟨_, rfl, ?_⟩
 replace hB131 := Bk.unO (J := []) 0 hB131 s130 rfl rfl rfl
 replace hO133 := Own.unO (J := []) 1 hO133 s130 rfl rfl rfl
 replace hM134 := Mp.unO (J := []) 2 hM134 s130 rfl rfl rfl
 replace s130 := un_stepL (J := []) (L' := [40, 41, 42]) s130 rfl rfl
 refine E rfl (mv (.tuple #[ii z127.1, .agg #[ii z127.2.1.f_Code, ii z127.2.1.f_At.f_Line, ii z127.2.1.f_At.f_Col, ii z127.2.1.f_At.f_Off]]) rfl) <|
  E rfl (ex_extract rfl rfl) <|
  E rfl (ex_extract rfl rfl) <|
  WL.op rfl ?_
 replace HF := HF.step s130 rfl
 refine OW.alloc' [ii (0 : Int), ii (0 : Int), ii (0 : Int), ii (0 : Int)] 44 HF rfl zr36 rfl ?_
 intro o136 w137 b135 s138 hB139
 refine E rfl (sg (ii z127.1) rfl) <|
  WL.op rfl <|
  OW.storeW rfl rfl sz36 hB139 rfl (oa rfl) ?_
 intro w140 s141 hB142
 refine WL.nil <|
  WC.seq <|
  WC.region <|
  E rfl (mv (pp b105 0) rfl) ?_
 obtain ⟨z143, hz143, H⟩ := bindE H
 refine WL.op rfl ?_
 have k138_141 := s138.t s141
 replace hB131 := hB131.step k138_141 rfl
 replace hO133 := hO133.step k138_141 rfl rfl
 replace hM134 := hM134.step k138_141 rfl
 replace HF := HF.step k138_141 rfl
 have k130_141 := s130.t k138_141
 replace hG := hG.step k130_141 rfl
 refine OW.call [pp b105 0, encS ([112, 32, 60, 45, 62, 32, 113] : List UInt8)] rfl Tryz.func12 (by kernel_rfl) (by kernel_rfl) (map_cons' rfl (map_cons' rfl rfl)) (syntax_Parse.calls k _ _ b105 v132 b109 (a0 := z127.2.2.1) hz143 (HF.ten (V := [0]) (L := [40, 41, 42]) rfl) (Bk.vw hB131 rfl) (Own.vw hO133 rfl rfl) (Mp.vw hM134 rfl) (Gl.vw hG rfl)) ?_
 rintro _ w144 ⟨o145, v148, rfl, s146, hB147, hO149, hM150⟩
 refine ⟨_, rfl, ?_⟩
 replace hB147 := Bk.unO (J := []) 0 hB147 s146 rfl rfl rfl
 replace hO149 := Own.unO (J := []) 1 hO149 s146 rfl rfl rfl
 replace hM150 := Mp.unO (J := []) 2 hM150 s146 rfl rfl rfl
 replace s146 := un_stepL (J := []) (L' := [40, 41, 42]) s146 rfl rfl
 refine E rfl (mv (.tuple #[ii z143.1, .agg #[ii z143.2.1.f_Code, ii z143.2.1.f_At.f_Line, ii z143.2.1.f_At.f_Col, ii z143.2.1.f_At.f_Off]]) rfl) <|
  E rfl (ex_extract rfl rfl) <|
  E rfl (ex_extract rfl rfl) <|
  WL.op rfl ?_
 replace HF := HF.step s146 rfl
 refine OW.alloc' [ii (0 : Int), ii (0 : Int), ii (0 : Int), ii (0 : Int)] 45 HF rfl zr36 rfl ?_
 intro o152 w153 b151 s154 hB155
 refine E rfl (sg (ii z143.1) rfl) <|
  WL.op rfl <|
  OW.storeW rfl rfl sz36 hB155 rfl (oa rfl) ?_
 intro w156 s157 hB158
 refine WL.nil <|
  WC.seq <|
  WC.region <|
  E rfl (mv (pp b105 0) rfl) <|
  E rfl (mv (ii z143.1) rfl) ?_
 obtain ⟨z159, hz159, H⟩ := bindE H
 refine WL.op rfl ?_
 have k154_157 := s154.t s157
 replace hB147 := hB147.step k154_157 rfl
 replace hO149 := hO149.step k154_157 rfl rfl
 replace hM150 := hM150.step k154_157 rfl
 replace HF := HF.step k154_157 rfl
 refine OW.call [pp b105 0, ii z143.1] rfl Tryz.func9 (by kernel_rfl) (by kernel_rfl) (map_cons' rfl (map_cons' rfl rfl)) (syntax_Print.calls k _ _ b105 v148 b109 (a0 := z143.2.2.1) hz159 (HF.ten (V := [0]) (L := [40, 41, 42]) rfl) (Bk.vw hB147 rfl) (Own.vw hO149 rfl rfl) (Mp.vw hM150 rfl)) ?_
 rintro _ w160 ⟨o161, rfl, s162⟩
 refine ⟨_, rfl, ?_⟩
 replace s162 := un_stepL (J := []) (L' := []) s162 rfl rfl
 refine E rfl (mv (.tuple #[encS z159.1, ii z159.2]) rfl) <|
  E rfl (ex_extract rfl rfl) <|
  E rfl (ex_extract rfl rfl) <|
  E rfl (sg (encS z159.1) rfl) <|
  E rfl (sg (ii z159.2) rfl) <|
  WL.nil <|
  WC.seq <|
  WC.region <|
  E rfl (mv (pp b105 0) rfl) ?_
 obtain ⟨z163, hz163, H⟩ := bindE H
 refine WL.op rfl ?_
 replace hB147 := hB147.step s162 rfl
 replace hO149 := hO149.step s162 rfl rfl
 replace hM150 := hM150.step s162 rfl
 replace HF := HF.step s162 rfl
 have k146_162 := ((s146.t s154).t s157).t s162
 replace hG := hG.step k146_162 rfl
 refine OW.call [pp b105 0, encS ([112, 32, 38, 32, 38, 32, 36] : List UInt8)] rfl Tryz.func12 (by kernel_rfl) (by kernel_rfl) (map_cons' rfl (map_cons' rfl rfl)) (syntax_Parse.calls k _ _ b105 v148 b109 (a0 := z143.2.2.1) hz163 (HF.ten (V := [0]) (L := [40, 41, 42]) rfl) (Bk.vw hB147 rfl) (Own.vw hO149 rfl rfl) (Mp.vw hM150 rfl) (Gl.vw hG rfl)) ?_
 rintro _ w164 ⟨o165, v168, rfl, s166, hB167, hO169, hM170⟩
 refine ⟨_, rfl, ?_⟩
 replace hB167 := Bk.unO (J := []) 0 hB167 s166 rfl rfl rfl
 replace hO169 := Own.unO (J := []) 1 hO169 s166 rfl rfl rfl
 replace hM170 := Mp.unO (J := []) 2 hM170 s166 rfl rfl rfl
 replace s166 := un_stepL (J := []) (L' := [40, 41, 42]) s166 rfl rfl
 refine E rfl (mv (.tuple #[ii z163.1, .agg #[ii z163.2.1.f_Code, ii z163.2.1.f_At.f_Line, ii z163.2.1.f_At.f_Col, ii z163.2.1.f_At.f_Off]]) rfl) <|
  E rfl (ex_extract rfl rfl) <|
  E rfl (ex_extract rfl rfl) <|
  WL.op rfl ?_
 replace HF := HF.step s166 rfl
 refine OW.alloc' [ii (0 : Int), ii (0 : Int), ii (0 : Int), ii (0 : Int)] 46 HF rfl zr36 rfl ?_
 intro o172 w173 b171 s174 hB175
 refine E rfl (sg (ii z163.1) rfl) <|
  WL.op rfl <|
  OW.storeW rfl rfl sz36 hB175 rfl (oa rfl) ?_
 intro w176 s177 hB178
 refine WL.nil <|
  WC.seq <|
  WC.region <|
  E rfl (mv (pp b105 0) rfl) <|
  E rfl (ex_build (cs := [ii 1, encS ([112] : List UInt8), ii (0 : Int), ii (0 : Int), ii (0 : Int), ii (0 : Int)]) [(0, 1), (1, 1), (2, 1), (3, 3)] [(0, ii 1), (1, encS ([112] : List UInt8))] [ii 0, .string ⟨#[]⟩, ii 0, ii 0, ii 0, ii 0] U76 zr76 rfl (by kernel_rfl) (evs_cons rfl (evs_cons rfl rfl)) rfl) <|
  E rfl (ex_build (cs := [ii 3, encS ([44] : List UInt8), ii (0 : Int), ii (0 : Int), ii (0 : Int), ii (0 : Int)]) [(0, 1), (1, 1), (2, 1), (3, 3)] [(0, ii 3), (1, encS ([44] : List UInt8))] [ii 0, .string ⟨#[]⟩, ii 0, ii 0, ii 0, ii 0] U76 zr76 rfl (by kernel_rfl) (evs_cons rfl (evs_cons rfl rfl)) rfl) <|
  WL.op rfl ?_
 have k174_177 := s174.t s177
 replace HF := HF.step k174_177 rfl
 refine OW.row (r := T_api_Token.rep) (xs := [(⟨1, ([112] : List UInt8), (0 : Int), (⟨(0 : Int), (0 : Int), (0 : Int)⟩ : T_api_Spot)⟩ : T_api_Token), (⟨3, ([44] : List UInt8), (0 : Int), (⟨(0 : Int), (0 : Int), (0 : Int)⟩ : T_api_Spot)⟩ : T_api_Token)]) [(0, .agg #[ii 1, encS ([112] : List UInt8), ii (0 : Int), ii (0 : Int), ii (0 : Int), ii (0 : Int)]), (1, .agg #[ii 3, encS ([44] : List UInt8), ii (0 : Int), ii (0 : Int), ii (0 : Int), ii (0 : Int)])] [[ii 1, encS ([112] : List UInt8), ii (0 : Int), ii (0 : Int), ii (0 : Int), ii (0 : Int)], [ii 3, encS ([44] : List UInt8), ii (0 : Int), ii (0 : Int), ii (0 : Int), ii (0 : Int)]] 47 HF rfl U71 sz76 zr76 rfl (evs_cons rfl (evs_cons rfl rfl)) rfl rfl ⟨(T_api_Token.mk' (⟨1, ([112] : List UInt8), (0 : Int), (⟨(0 : Int), (0 : Int), (0 : Int)⟩ : T_api_Spot)⟩ : T_api_Token) ), (T_api_Token.mk' (⟨3, ([44] : List UInt8), (0 : Int), (⟨(0 : Int), (0 : Int), (0 : Int)⟩ : T_api_Spot)⟩ : T_api_Token) ), trivial⟩ rfl rfl rfl rfl ?_
 intro o179 w180 v182 s181 hO183
 obtain ⟨A184, c185, q186e, q186l, q186⟩ := Own.vwRow (V := [0, 47]) (L := [40, 41, 42]) hO183 rfl rfl
 obtain ⟨z187, hz187, H⟩ := bindE H
 have q186e' := q186e
 refine WL.op rfl ?_
 replace HF := HF.step s181 rfl
 have k174_181 := k174_177.t s181
 replace hB167 := hB167.step k174_181 rfl
 replace hO169 := hO169.step k174_181 rfl rfl
 replace hM170 := hM170.step k174_181 rfl
 refine OW.call [pp b105 0, v182] rfl Tryz.func35 (by kernel_rfl) (by kernel_rfl) (map_cons' rfl (map_cons' rfl rfl)) (by simp only [q186e]; exact (syntax_Take.calls k _ _ b105 v168 A184 c185 b109 (a0 := z163.2.2.1) hz187 (HF.ten (V := [0, 47]) (L := [40, 41, 42]) rfl) (Bk.vw hB167 rfl) (Own.vw hO169 rfl rfl) q186 q186l (Mp.vw hM170 rfl))) ?_
 rintro _ w188 ⟨o189, v192, rfl, s190, hB191, hO193, hM194⟩
 refine ⟨_, rfl, ?_⟩
 replace hB191 := Bk.unO (J := []) 0 hB191 s190 rfl rfl rfl
 replace hO193 := Own.unOf (J := []) 1 (fun h => h) hO193 s190 rfl rfl rfl
 replace hM194 := Mp.unO (J := []) 2 hM194 s190 rfl rfl rfl
 replace s190 := un_stepL (J := []) (L' := [40, 41, 42]) s190 rfl rfl
 refine E rfl (mv (.tuple #[ii z187.1, ii z187.2.1, .agg #[ii z187.2.2.1.f_Code, ii z187.2.2.1.f_At.f_Line, ii z187.2.2.1.f_At.f_Col, ii z187.2.2.1.f_At.f_Off]]) rfl) <|
  E rfl (ex_extract rfl rfl) <|
  E rfl (ex_extract rfl rfl) <|
  E rfl (ex_extract rfl rfl) <|
  WL.op rfl ?_
 replace HF := HF.step s190 rfl
 refine OW.alloc' [ii (0 : Int), ii (0 : Int), ii (0 : Int), ii (0 : Int)] 48 HF rfl zr36 rfl ?_
 intro o196 w197 b195 s198 hB199
 refine E rfl (sg (ii z187.1) rfl) <|
  E rfl (sg (ii z187.2.1) rfl) <|
  WL.op rfl <|
  OW.storeW rfl rfl sz36 hB199 rfl (oa rfl) ?_
 intro w200 s201 hB202
 refine WL.nil <|
  WC.seq <|
  WC.region <|
  E rfl (mv (ii z111.1) rfl) <|
  E rfl (e2 bin_eql rfl rfl) <|
  E rfl (mv (.bool (z111.1 == 3)) rfl) ?_
 rcases condE H with ⟨c203, H⟩ | ⟨c203, H⟩
 ·
  refine WL.guardYes rfl rfl rfl (vb c203 rfl) <|
   OW.ex rfl (mv (ii z127.1) rfl) <|
   WL.guardYes rfl rfl rfl (vb c203 rfl) <|
   OW.ex rfl (e2 bin_eql rfl rfl) <|
   E rfl (ex_pick_t (v := .bool (z127.1 == 5)) (vb c203 rfl) rfl) <|
   E rfl (mv (.bool (z127.1 == 5)) rfl) ?_
  rcases condE H with ⟨c204, H⟩ | ⟨c204, H⟩
  ·
   refine WL.guardYes rfl rfl rfl (vb c204 rfl) <|
    OW.ex rfl (mv (ii z143.1) rfl) <|
    WL.guardYes rfl rfl rfl (vb c204 rfl) <|
    OW.ex rfl (e2 bin_eql rfl rfl) <|
    E rfl (ex_pick_t (v := .bool (z143.1 == 8)) (vb c204 rfl) rfl) <|
    E rfl (mv (.bool (z143.1 == 8)) rfl) ?_
   rcases condE H with ⟨c205, H⟩ | ⟨c205, H⟩
   ·
    refine WL.guardYes rfl rfl rfl (vb c205 rfl) ?_
    have k130_201 := ((((((((((k130_141.t s146).t s154).t s157).t s162).t s166).t s174).t s177).t s181).t s190).t s198).t s201
    replace hB126 := hB126.step k130_201 rfl
    refine OW.ex rfl (ex_loadN (cs := [ii z111.2.1.f_Code, ii z111.2.1.f_At.f_Line, ii z111.2.1.f_At.f_Col, ii z111.2.1.f_At.f_Off]) rfl U36 rfl sz36 (hB126.cells rfl)) <|
     WL.guardYes rfl rfl rfl (vb c205 rfl) <|
     OW.ex rfl (ex_build (cs := [ii (0 : Int), ii (0 : Int), ii (0 : Int), ii (0 : Int)]) [(0, 1), (1, 3)] [] [ii 0, ii 0, ii 0, ii 0] U36 zr36 rfl (by kernel_rfl) rfl rfl) <|
     WL.guardYes rfl rfl rfl (vb c205 rfl) <|
     OW.ex rfl (ex_bin (a := .agg #[ii z111.2.1.f_Code, ii z111.2.1.f_At.f_Line, ii z111.2.1.f_At.f_Col, ii z111.2.1.f_At.f_Off]) (b := .agg #[ii (0 : Int), ii (0 : Int), ii (0 : Int), ii (0 : Int)]) (v := .bool (T_api_Fault.eqb z111.2.1 (⟨(0 : Int), (⟨(0 : Int), (0 : Int), (0 : Int)⟩ : T_api_Spot)⟩ : T_api_Fault))) rfl rfl (bin_eql_agg (by kernel_rfl) (EqR.agg U36 (by kernel_rfl) (EqF.cons (by decide) (PartR.one U28 rfl rfl) (PartR.one U28 rfl rfl) (EqR.int U28) (EqF.cons (by decide) (PartR.many U34 rfl sz34) (PartR.many U34 rfl sz34) (EqR.agg U34 (by kernel_rfl) (EqF.cons (by decide) (PartR.one U3 rfl rfl) (PartR.one U3 rfl rfl) (EqR.int U3) (EqF.cons (by decide) (PartR.one U3 rfl rfl) (PartR.one U3 rfl rfl) (EqR.int U3) (EqF.cons (by decide) (PartR.one U3 rfl rfl) (PartR.one U3 rfl rfl) (EqR.int U3) EqF.nil)))) EqF.nil))))) <|
     E rfl (ex_pick_t (v := .bool (T_api_Fault.eqb z111.2.1 (⟨(0 : Int), (⟨(0 : Int), (0 : Int), (0 : Int)⟩ : T_api_Spot)⟩ : T_api_Fault))) (vb c205 rfl) rfl) <|
     E rfl (mv (.bool (T_api_Fault.eqb z111.2.1 (⟨(0 : Int), (⟨(0 : Int), (0 : Int), (0 : Int)⟩ : T_api_Spot)⟩ : T_api_Fault))) rfl) ?_
    rcases condE H with ⟨c206, H⟩ | ⟨c206, H⟩
    ·
     refine WL.guardYes rfl rfl rfl (vb c206 rfl) ?_
     have k146_201 := ((((((k146_162.t s166).t s174).t s177).t s181).t s190).t s198).t s201
     replace hB142 := hB142.step k146_201 rfl
     refine OW.ex rfl (ex_loadN (cs := [ii z127.2.1.f_Code, ii z127.2.1.f_At.f_Line, ii z127.2.1.f_At.f_Col, ii z127.2.1.f_At.f_Off]) rfl U36 rfl sz36 (hB142.cells rfl)) <|
      WL.guardYes rfl rfl rfl (vb c206 rfl) <|
      OW.ex rfl (ex_loadN (cs := [ii z111.2.1.f_Code, ii z111.2.1.f_At.f_Line, ii z111.2.1.f_At.f_Col, ii z111.2.1.f_At.f_Off]) rfl U36 rfl sz36 (hB126.cells rfl)) <|
      WL.guardYes rfl rfl rfl (vb c206 rfl) <|
      OW.ex rfl (ex_bin (a := .agg #[ii z127.2.1.f_Code, ii z127.2.1.f_At.f_Line, ii z127.2.1.f_At.f_Col, ii z127.2.1.f_At.f_Off]) (b := .agg #[ii z111.2.1.f_Code, ii z111.2.1.f_At.f_Line, ii z111.2.1.f_At.f_Col, ii z111.2.1.f_At.f_Off]) (v := .bool (T_api_Fault.eqb z127.2.1 z111.2.1)) rfl rfl (bin_eql_agg (by kernel_rfl) (EqR.agg U36 (by kernel_rfl) (EqF.cons (by decide) (PartR.one U28 rfl rfl) (PartR.one U28 rfl rfl) (EqR.int U28) (EqF.cons (by decide) (PartR.many U34 rfl sz34) (PartR.many U34 rfl sz34) (EqR.agg U34 (by kernel_rfl) (EqF.cons (by decide) (PartR.one U3 rfl rfl) (PartR.one U3 rfl rfl) (EqR.int U3) (EqF.cons (by decide) (PartR.one U3 rfl rfl) (PartR.one U3 rfl rfl) (EqR.int U3) (EqF.cons (by decide) (PartR.one U3 rfl rfl) (PartR.one U3 rfl rfl) (EqR.int U3) EqF.nil)))) EqF.nil))))) <|
      E rfl (ex_pick_t (v := .bool (T_api_Fault.eqb z127.2.1 z111.2.1)) (vb c206 rfl) rfl) <|
      E rfl (mv (.bool (T_api_Fault.eqb z127.2.1 z111.2.1)) rfl) ?_
     rcases condE H with ⟨c207, H⟩ | ⟨c207, H⟩
     ·
      refine WL.guardYes rfl rfl rfl (vb c207 rfl) ?_
      have k162_201 := ((((((s162.t s166).t s174).t s177).t s181).t s190).t s198).t s201
      replace hB158 := hB158.step k162_201 rfl
      refine OW.ex rfl (ex_loadN (cs := [ii z143.2.1.f_Code, ii z143.2.1.f_At.f_Line, ii z143.2.1.f_At.f_Col, ii z143.2.1.f_At.f_Off]) rfl U36 rfl sz36 (hB158.cells rfl)) <|
       WL.guardYes rfl rfl rfl (vb c207 rfl) <|
       OW.ex rfl (ex_loadN (cs := [ii z111.2.1.f_Code, ii z111.2.1.f_At.f_Line, ii z111.2.1.f_At.f_Col, ii z111.2.1.f_At.f_Off]) rfl U36 rfl sz36 (hB126.cells rfl)) <|
       WL.guardYes rfl rfl rfl (vb c207 rfl) <|
       OW.ex rfl (ex_bin (a := .agg #[ii z143.2.1.f_Code, ii z143.2.1.f_At.f_Line, ii z143.2.1.f_At.f_Col, ii z143.2.1.f_At.f_Off]) (b := .agg #[ii z111.2.1.f_Code, ii z111.2.1.f_At.f_Line, ii z111.2.1.f_At.f_Col, ii z111.2.1.f_At.f_Off]) (v := .bool (T_api_Fault.eqb z143.2.1 z111.2.1)) rfl rfl (bin_eql_agg (by kernel_rfl) (EqR.agg U36 (by kernel_rfl) (EqF.cons (by decide) (PartR.one U28 rfl rfl) (PartR.one U28 rfl rfl) (EqR.int U28) (EqF.cons (by decide) (PartR.many U34 rfl sz34) (PartR.many U34 rfl sz34) (EqR.agg U34 (by kernel_rfl) (EqF.cons (by decide) (PartR.one U3 rfl rfl) (PartR.one U3 rfl rfl) (EqR.int U3) (EqF.cons (by decide) (PartR.one U3 rfl rfl) (PartR.one U3 rfl rfl) (EqR.int U3) (EqF.cons (by decide) (PartR.one U3 rfl rfl) (PartR.one U3 rfl rfl) (EqR.int U3) EqF.nil)))) EqF.nil))))) <|
       E rfl (ex_pick_t (v := .bool (T_api_Fault.eqb z143.2.1 z111.2.1)) (vb c207 rfl) rfl) <|
       E rfl (mv (.bool (T_api_Fault.eqb z143.2.1 z111.2.1)) rfl) ?_
      rcases condE H with ⟨c208, H⟩ | ⟨c208, H⟩
      ·
       refine WL.guardYes rfl rfl rfl (vb c208 rfl) <|
        OW.ex rfl (mv (encS z159.1) rfl) <|
        WL.guardYes rfl rfl rfl (vb c208 rfl) <|
        OW.ex rfl (e2 bin_eql_str rfl rfl) <|
        E rfl (ex_pick_t (v := .bool (z159.1 == ([40, 112, 32, 45, 62, 32, 113, 41, 32, 38, 32, 40, 113, 32, 45, 62, 32, 112, 41] : List UInt8))) (vb c208 rfl) rfl) <|
        E rfl (mv (.bool (z159.1 == ([40, 112, 32, 45, 62, 32, 113, 41, 32, 38, 32, 40, 113, 32, 45, 62, 32, 112, 41] : List UInt8))) rfl) ?_
       rcases condE H with ⟨c209, H⟩ | ⟨c209, H⟩
       ·
        refine WL.guardYes rfl rfl rfl (vb c209 rfl) <|
         OW.ex rfl (mv (ii z159.2) rfl) <|
         WL.guardYes rfl rfl rfl (vb c209 rfl) ?_
        obtain ⟨z210, hz210, H⟩ := bindE H
        have k198_201 := s198.t s201
        replace HF := HF.step k198_201 rfl
        refine OW.call [ii z159.2] rfl Tryz.func10 (by kernel_rfl) (by kernel_rfl) (map_cons' rfl rfl) (dictumlaw04_num.calls _ _ hz210 (HF.ten (V := [0]) (L := []) rfl) ) ?_
        rintro _ w211 ⟨o212, rfl, s213⟩
        refine ⟨_, rfl, ?_⟩
        replace s213 := un_stepL (J := []) (L' := []) s213 rfl rfl
        refine WL.guardYes rfl rfl rfl (vb c209 rfl) <|
         OW.ex rfl (e2 bin_eql rfl rfl) <|
         E rfl (ex_pick_t (v := .bool (z210 == 0)) (vb c209 rfl) rfl) <|
         E rfl (mv (.bool (z210 == 0)) rfl) ?_
        rcases condE H with ⟨c214, H⟩ | ⟨c214, H⟩
        ·
         refine WL.guardYes rfl rfl rfl (vb c214 rfl) ?_
         have k181_213 := (((s181.t s190).t s198).t s201).t s213
         replace hB178 := hB178.step k181_213 rfl
         refine OW.ex rfl (ex_loadN (cs := [ii z163.2.1.f_Code, ii z163.2.1.f_At.f_Line, ii z163.2.1.f_At.f_Col, ii z163.2.1.f_At.f_Off]) rfl U36 rfl sz36 (hB178.cells rfl)) <|
          WL.guardYes rfl rfl rfl (vb c214 rfl) <|
          OW.ex rfl (ex_build (cs := [ii 1, ii 5, ii 4]) [(0, 1), (1, 1), (2, 1)] [(0, ii 1), (1, ii 5), (2, ii 4)] [ii 0, ii 0, ii 0] U34 zr34 rfl (by kernel_rfl) (evs_cons rfl (evs_cons rfl (evs_cons rfl rfl))) rfl) <|
          WL.guardYes rfl rfl rfl (vb c214 rfl) <|
          OW.ex rfl (ex_build (cs := [ii 41, ii 1, ii 5, ii 4]) [(0, 1), (1, 3)] [(0, ii 41), (1, .agg #[ii 1, ii 5, ii 4])] [ii 0, ii 0, ii 0, ii 0] U36 zr36 rfl (by kernel_rfl) (evs_cons rfl (evs_cons rfl rfl)) rfl) <|
          WL.guardYes rfl rfl rfl (vb c214 rfl) <|
          OW.ex rfl (ex_bin (a := .agg #[ii z163.2.1.f_Code, ii z163.2.1.f_At.f_Line, ii z163.2.1.f_At.f_Col, ii z163.2.1.f_At.f_Off]) (b := .agg #[ii 41, ii 1, ii 5, ii 4]) (v := .bool (T_api_Fault.eqb z163.2.1 (⟨41, (⟨1, 5, 4⟩ : T_api_Spot)⟩ : T_api_Fault))) rfl rfl (bin_eql_agg (by kernel_rfl) (EqR.agg U36 (by kernel_rfl) (EqF.cons (by decide) (PartR.one U28 rfl rfl) (PartR.one U28 rfl rfl) (EqR.int U28) (EqF.cons (by decide) (PartR.many U34 rfl sz34) (PartR.many U34 rfl sz34) (EqR.agg U34 (by kernel_rfl) (EqF.cons (by decide) (PartR.one U3 rfl rfl) (PartR.one U3 rfl rfl) (EqR.int U3) (EqF.cons (by decide) (PartR.one U3 rfl rfl) (PartR.one U3 rfl rfl) (EqR.int U3) (EqF.cons (by decide) (PartR.one U3 rfl rfl) (PartR.one U3 rfl rfl) (EqR.int U3) EqF.nil)))) EqF.nil))))) <|
          E rfl (ex_pick_t (v := .bool (T_api_Fault.eqb z163.2.1 (⟨41, (⟨1, 5, 4⟩ : T_api_Spot)⟩ : T_api_Fault))) (vb c214 rfl) rfl) <|
          E rfl (mv (.bool (T_api_Fault.eqb z163.2.1 (⟨41, (⟨1, 5, 4⟩ : T_api_Spot)⟩ : T_api_Fault))) rfl) ?_
         rcases condE H with ⟨c215, H⟩ | ⟨c215, H⟩
         ·
          refine WL.guardYes rfl rfl rfl (vb c215 rfl) <|
           OW.ex rfl (mv (ii z187.1) rfl) <|
           WL.guardYes rfl rfl rfl (vb c215 rfl) <|
           OW.ex rfl (e2 bin_eql rfl rfl) <|
           E rfl (ex_pick_t (v := .bool (z187.1 == 0)) (vb c215 rfl) rfl) <|
           E rfl (mv (.bool (z187.1 == 0)) rfl) ?_
          rcases condE H with ⟨c216, H⟩ | ⟨c216, H⟩
          ·
           refine WL.guardYes rfl rfl rfl (vb c216 rfl) <|
            OW.ex rfl (mv (ii z187.2.1) rfl) <|
            WL.guardYes rfl rfl rfl (vb c216 rfl) <|
            OW.ex rfl (e2 bin_eql rfl rfl) <|
            E rfl (ex_pick_t (v := .bool (z187.2.1 == 1)) (vb c216 rfl) rfl) <|
            E rfl (mv (.bool (z187.2.1 == 1)) rfl) ?_
           rcases condE H with ⟨c217, H⟩ | ⟨c217, H⟩
           ·
            refine WL.guardYes rfl rfl rfl (vb c217 rfl) ?_
            replace hB202 := hB202.step s213 rfl
            refine OW.ex rfl (ex_loadN (cs := [ii z187.2.2.1.f_Code, ii z187.2.2.1.f_At.f_Line, ii z187.2.2.1.f_At.f_Col, ii z187.2.2.1.f_At.f_Off]) rfl U36 rfl sz36 (hB202.cells rfl)) <|
             WL.guardYes rfl rfl rfl (vb c217 rfl) ?_
            replace hB126 := hB126.step s213 rfl
            refine OW.ex rfl (ex_loadN (cs := [ii z111.2.1.f_Code, ii z111.2.1.f_At.f_Line, ii z111.2.1.f_At.f_Col, ii z111.2.1.f_At.f_Off]) rfl U36 rfl sz36 (hB126.cells rfl)) <|
             WL.guardYes rfl rfl rfl (vb c217 rfl) <|
             OW.ex rfl (ex_bin (a := .agg #[ii z187.2.2.1.f_Code, ii z187.2.2.1.f_At.f_Line, ii z187.2.2.1.f_At.f_Col, ii z187.2.2.1.f_At.f_Off]) (b := .agg #[ii z111.2.1.f_Code, ii z111.2.1.f_At.f_Line, ii z111.2.1.f_At.f_Col, ii z111.2.1.f_At.f_Off]) (v := .bool (T_api_Fault.eqb z187.2.2.1 z111.2.1)) rfl rfl (bin_eql_agg (by kernel_rfl) (EqR.agg U36 (by kernel_rfl) (EqF.cons (by decide) (PartR.one U28 rfl rfl) (PartR.one U28 rfl rfl) (EqR.int U28) (EqF.cons (by decide) (PartR.many U34 rfl sz34) (PartR.many U34 rfl sz34) (EqR.agg U34 (by kernel_rfl) (EqF.cons (by decide) (PartR.one U3 rfl rfl) (PartR.one U3 rfl rfl) (EqR.int U3) (EqF.cons (by decide) (PartR.one U3 rfl rfl) (PartR.one U3 rfl rfl) (EqR.int U3) (EqF.cons (by decide) (PartR.one U3 rfl rfl) (PartR.one U3 rfl rfl) (EqR.int U3) EqF.nil)))) EqF.nil))))) <|
             E rfl (ex_pick_t (v := .bool (T_api_Fault.eqb z187.2.2.1 z111.2.1)) (vb c217 rfl) rfl) <|
             E rfl (mv (.bool (T_api_Fault.eqb z187.2.2.1 z111.2.1)) rfl) ?_
            rcases condE H with ⟨c218, H⟩ | ⟨c218, H⟩
            ·
             refine WL.guardYes rfl rfl rfl (vb c218 rfl) <|
              OW.ex rfl (mv (pp b105 0) rfl) <|
              WL.guardYes rfl rfl rfl (vb c218 rfl) ?_
             obtain ⟨z219, hz219, H⟩ := bindE H
             replace HF := HF.step s213 rfl
             have k198_213 := k198_201.t s213
             replace hB191 := hB191.step k198_213 rfl
             replace hO193 := hO193.step k198_213 rfl rfl
             replace hM194 := hM194.step k198_213 rfl
             refine OW.call [pp b105 0] rfl Tryz.func8 (by kernel_rfl) (by kernel_rfl) (map_cons' rfl rfl) (formula_Table_Len.calls _ _ b105 v192 b109 (a0 := z187.2.2.2.1) hz219 (HF.ten (V := [0]) (L := [40, 41, 42]) rfl) (Bk.vw hB191 rfl) (Own.vw hO193 rfl rfl) (Mp.vw hM194 rfl)) ?_
             rintro _ w220 ⟨o221, rfl, s222⟩
             refine ⟨_, rfl, ?_⟩
             replace s222 := un_stepL (J := []) (L' := []) s222 rfl rfl
             refine WL.guardYes rfl rfl rfl (vb c218 rfl) <|
              OW.ex rfl (e2 bin_eql rfl rfl) <|
              E rfl (ex_pick_t (v := .bool (z219 == 9)) (vb c218 rfl) rfl) <|
              E rfl (mv (.bool (z219 == 9)) rfl) ?_
             rcases condE H with ⟨c223, H⟩ | ⟨c223, H⟩
             ·
              refine WL.guardYes rfl rfl rfl (vb c223 rfl) ?_
              obtain ⟨z224, hz224, H⟩ := bindE H
              replace HF := HF.step s222 rfl
              have k166_222 := (((((((s166.t s174).t s177).t s181).t s190).t s198).t s201).t s213).t s222
              replace hG := hG.step k166_222 rfl
              refine OW.call [encS ([112, 32, 38, 32, 126, 113, 32, 36, 32, 114] : List UInt8)] rfl Tryz.func11 (by kernel_rfl) (by kernel_rfl) (map_cons' rfl rfl) (syntax_Count.calls k _ _ hz224 (HF.ten (V := [0]) (L := []) rfl) (Gl.vw hG rfl)) ?_
              rintro _ w225 ⟨o226, rfl, s227⟩
              refine ⟨_, rfl, ?_⟩
              replace s227 := un_stepL (J := []) (L' := []) s227 rfl rfl
              refine WL.guardYes rfl rfl rfl (vb c223 rfl) <|
               OW.ex rfl (e2 bin_eql rfl rfl) <|
               E rfl (ex_pick_t (v := .bool (z224 == 4)) (vb c223 rfl) rfl) <|
               E rfl (sg (.bool (z224 == 4)) rfl) <|
               WL.nil <|
               WC.ret ?_
              obtain rfl := Option.some.inj H
              replace HF := HF.step s227 rfl
              exact ⟨_, (.tmp _ rfl .nil), _, rfl, HF.out⟩
             ·
              refine WL.guardNo rfl rfl rfl (vb c223 rfl) <|
               WL.guardNo rfl rfl rfl (vb c223 rfl) <|
               E rfl (ex_pick_f (v := .bool false) (vb c223 rfl) rfl) <|
               E rfl (sg (.bool false) rfl) <|
               WL.nil <|
               WC.ret ?_
              obtain rfl := Option.some.inj H
              replace HF := HF.step s222 rfl
              exact ⟨_, (.tmp _ rfl .nil), _, rfl, HF.out⟩
            ·
             refine WL.guardNo rfl rfl rfl (vb c218 rfl) <|
              WL.guardNo rfl rfl rfl (vb c218 rfl) <|
              WL.guardNo rfl rfl rfl (vb c218 rfl) <|
              E rfl (ex_pick_f (v := .bool false) (vb c218 rfl) rfl) <|
              E rfl (mv (.bool false) rfl) <|
              WL.guardNo rfl rfl rfl rfl <|
              WL.guardNo rfl rfl rfl rfl <|
              E rfl (ex_pick_f (v := .bool false) rfl rfl) <|
              E rfl (sg (.bool false) rfl) <|
              WL.nil <|
              WC.ret ?_
             obtain rfl := Option.some.inj H
             replace HF := HF.step s213 rfl
             exact ⟨_, (.tmp _ rfl .nil), _, rfl, HF.out⟩
           ·
            refine WL.guardNo rfl rfl rfl (vb c217 rfl) <|
             WL.guardNo rfl rfl rfl (vb c217 rfl) <|
             WL.guardNo rfl rfl rfl (vb c217 rfl) <|
             E rfl (ex_pick_f (v := .bool false) (vb c217 rfl) rfl) <|
             E rfl (mv (.bool false) rfl) <|
             WL.guardNo rfl rfl rfl rfl <|
             WL.guardNo rfl rfl rfl rfl <|
             WL.guardNo rfl rfl rfl rfl <|
             E rfl (ex_pick_f (v := .bool false) rfl rfl) <|
             E rfl (mv (.bool false) rfl) <|
             WL.guardNo rfl rfl rfl rfl <|
             WL.guardNo rfl rfl rfl rfl <|
             E rfl (ex_pick_f (v := .bool false) rfl rfl) <|
             E rfl (sg (.bool false) rfl) <|
             WL.nil <|
             WC.ret ?_
            obtain rfl := Option.some.inj H
            replace HF := HF.step s213 rfl
            exact ⟨_, (.tmp _ rfl .nil), _, rfl, HF.out⟩
          ·
           refine WL.guardNo rfl rfl rfl (vb c216 rfl) <|
            WL.guardNo rfl rfl rfl (vb c216 rfl) <|
            E rfl (ex_pick_f (v := .bool false) (vb c216 rfl) rfl) <|
            E rfl (mv (.bool false) rfl) <|
            WL.guardNo rfl rfl rfl rfl <|
            WL.guardNo rfl rfl rfl rfl <|
            WL.guardNo rfl rfl rfl rfl <|
            E rfl (ex_pick_f (v := .bool false) rfl rfl) <|
            E rfl (mv (.bool false) rfl) <|
            WL.guardNo rfl rfl rfl rfl <|
            WL.guardNo rfl rfl rfl rfl <|
            WL.guardNo rfl rfl rfl rfl <|
            E rfl (ex_pick_f (v := .bool false) rfl rfl) <|
            E rfl (mv (.bool false) rfl) <|
            WL.guardNo rfl rfl rfl rfl <|
            WL.guardNo rfl rfl rfl rfl <|
            E rfl (ex_pick_f (v := .bool false) rfl rfl) <|
            E rfl (sg (.bool false) rfl) <|
            WL.nil <|
            WC.ret ?_
           obtain rfl := Option.some.inj H
           replace HF := HF.step s213 rfl
           exact ⟨_, (.tmp _ rfl .nil), _, rfl, HF.out⟩
         ·
          refine WL.guardNo rfl rfl rfl (vb c215 rfl) <|
           WL.guardNo rfl rfl rfl (vb c215 rfl) <|
           E rfl (ex_pick_f (v := .bool false) (vb c215 rfl) rfl) <|
           E rfl (mv (.bool false) rfl) <|
           WL.guardNo rfl rfl rfl rfl <|
           WL.guardNo rfl rfl rfl rfl <|
           E rfl (ex_pick_f (v := .bool false) rfl rfl) <|
           E rfl (mv (.bool false) rfl) <|
           WL.guardNo rfl rfl rfl rfl <|
           WL.guardNo rfl rfl rfl rfl <|
           WL.guardNo rfl rfl rfl rfl <|
           E rfl (ex_pick_f (v := .bool false) rfl rfl) <|
           E rfl (mv (.bool false) rfl) <|
           WL.guardNo rfl rfl rfl rfl <|
           WL.guardNo rfl rfl rfl rfl <|
           WL.guardNo rfl rfl rfl rfl <|
           E rfl (ex_pick_f (v := .bool false) rfl rfl) <|
           E rfl (mv (.bool false) rfl) <|
           WL.guardNo rfl rfl rfl rfl <|
           WL.guardNo rfl rfl rfl rfl <|
           E rfl (ex_pick_f (v := .bool false) rfl rfl) <|
           E rfl (sg (.bool false) rfl) <|
           WL.nil <|
           WC.ret ?_
          obtain rfl := Option.some.inj H
          replace HF := HF.step s213 rfl
          exact ⟨_, (.tmp _ rfl .nil), _, rfl, HF.out⟩
        ·
         refine WL.guardNo rfl rfl rfl (vb c214 rfl) <|
          WL.guardNo rfl rfl rfl (vb c214 rfl) <|
          WL.guardNo rfl rfl rfl (vb c214 rfl) <|
          WL.guardNo rfl rfl rfl (vb c214 rfl) <|
          E rfl (ex_pick_f (v := .bool false) (vb c214 rfl) rfl) <|
          E rfl (mv (.bool false) rfl) <|
          WL.guardNo rfl rfl rfl rfl <|
          WL.guardNo rfl rfl rfl rfl <|
          E rfl (ex_pick_f (v := .bool false) rfl rfl) <|
          E rfl (mv (.bool false) rfl) <|
          WL.guardNo rfl rfl rfl rfl <|
          WL.guardNo rfl rfl rfl rfl <|
          E rfl (ex_pick_f (v := .bool false) rfl rfl) <|
          E rfl (mv (.bool false) rfl) <|
          WL.guardNo rfl rfl rfl rfl <|
          WL.guardNo rfl rfl rfl rfl <|
          WL.guardNo rfl rfl rfl rfl <|
          E rfl (ex_pick_f (v := .bool false) rfl rfl) <|
          E rfl (mv (.bool false) rfl) <|
          WL.guardNo rfl rfl rfl rfl <|
          WL.guardNo rfl rfl rfl rfl <|
          WL.guardNo rfl rfl rfl rfl <|
          E rfl (ex_pick_f (v := .bool false) rfl rfl) <|
          E rfl (mv (.bool false) rfl) <|
          WL.guardNo rfl rfl rfl rfl ?_
         refine WL.guardNo rfl rfl rfl rfl <|
          E rfl (ex_pick_f (v := .bool false) rfl rfl) <|
          E rfl (sg (.bool false) rfl) <|
          WL.nil <|
          WC.ret ?_
         obtain rfl := Option.some.inj H
         replace HF := HF.step s213 rfl
         exact ⟨_, (.tmp _ rfl .nil), _, rfl, HF.out⟩
       ·
        refine WL.guardNo rfl rfl rfl (vb c209 rfl) <|
         WL.guardNo rfl rfl rfl (vb c209 rfl) <|
         WL.guardNo rfl rfl rfl (vb c209 rfl) <|
         E rfl (ex_pick_f (v := .bool false) (vb c209 rfl) rfl) <|
         E rfl (mv (.bool false) rfl) <|
         WL.guardNo rfl rfl rfl rfl <|
         WL.guardNo rfl rfl rfl rfl <|
         WL.guardNo rfl rfl rfl rfl <|
         WL.guardNo rfl rfl rfl rfl <|
         E rfl (ex_pick_f (v := .bool false) rfl rfl) <|
         E rfl (mv (.bool false) rfl) <|
         WL.guardNo rfl rfl rfl rfl <|
         WL.guardNo rfl rfl rfl rfl <|
         E rfl (ex_pick_f (v := .bool false) rfl rfl) <|
         E rfl (mv (.bool false) rfl) <|
         WL.guardNo rfl rfl rfl rfl <|
         WL.guardNo rfl rfl rfl rfl <|
         E rfl (ex_pick_f (v := .bool false) rfl rfl) <|
         E rfl (mv (.bool false) rfl) <|
         WL.guardNo rfl rfl rfl rfl <|
         WL.guardNo rfl rfl rfl rfl <|
         WL.guardNo rfl rfl rfl rfl <|
         E rfl (ex_pick_f (v := .bool false) rfl rfl) <|
         E rfl (mv (.bool false) rfl) <|
         WL.guardNo rfl rfl rfl rfl ?_
        refine WL.guardNo rfl rfl rfl rfl <|
         WL.guardNo rfl rfl rfl rfl <|
         E rfl (ex_pick_f (v := .bool false) rfl rfl) <|
         E rfl (mv (.bool false) rfl) <|
         WL.guardNo rfl rfl rfl rfl <|
         WL.guardNo rfl rfl rfl rfl <|
         E rfl (ex_pick_f (v := .bool false) rfl rfl) <|
         E rfl (sg (.bool false) rfl) <|
         WL.nil <|
         WC.ret ?_
        obtain rfl := Option.some.inj H
        have k198_201 := s198.t s201
        replace HF := HF.step k198_201 rfl
        exact ⟨_, (.tmp _ rfl .nil), _, rfl, HF.out⟩
      ·
       refine WL.guardNo rfl rfl rfl (vb c208 rfl) <|
        WL.guardNo rfl rfl rfl (vb c208 rfl) <|
        E rfl (ex_pick_f (v := .bool false) (vb c208 rfl) rfl) <|
        E rfl (mv (.bool false) rfl) <|
        WL.guardNo rfl rfl rfl rfl <|
        WL.guardNo rfl rfl rfl rfl <|
        WL.guardNo rfl rfl rfl rfl <|
        E rfl (ex_pick_f (v := .bool false) rfl rfl) <|
        E rfl (mv (.bool false) rfl) <|
        WL.guardNo rfl rfl rfl rfl <|
        WL.guardNo rfl rfl rfl rfl <|
        WL.guardNo rfl rfl rfl rfl <|
        WL.guardNo rfl rfl rfl rfl <|
        E rfl (ex_pick_f (v := .bool false) rfl rfl) <|
        E rfl (mv (.bool false) rfl) <|
        WL.guardNo rfl rfl rfl rfl <|
        WL.guardNo rfl rfl rfl rfl <|
        E rfl (ex_pick_f (v := .bool false) rfl rfl) <|
        E rfl (mv (.bool false) rfl) <|
        WL.guardNo rfl rfl rfl rfl <|
        WL.guardNo rfl rfl rfl rfl <|
        E rfl (ex_pick_f (v := .bool false) rfl rfl) <|
        E rfl (mv (.bool false) rfl) <|
        WL.guardNo rfl rfl rfl rfl <|
        WL.guardNo rfl rfl rfl rfl ?_
       refine WL.guardNo rfl rfl rfl rfl <|
        E rfl (ex_pick_f (v := .bool false) rfl rfl) <|
        E rfl (mv (.bool false) rfl) <|
        WL.guardNo rfl rfl rfl rfl <|
        WL.guardNo rfl rfl rfl rfl <|
        WL.guardNo rfl rfl rfl rfl <|
        E rfl (ex_pick_f (v := .bool false) rfl rfl) <|
        E rfl (mv (.bool false) rfl) <|
        WL.guardNo rfl rfl rfl rfl <|
        WL.guardNo rfl rfl rfl rfl <|
        E rfl (ex_pick_f (v := .bool false) rfl rfl) <|
        E rfl (sg (.bool false) rfl) <|
        WL.nil <|
        WC.ret ?_
       obtain rfl := Option.some.inj H
       have k198_201 := s198.t s201
       replace HF := HF.step k198_201 rfl
       exact ⟨_, (.tmp _ rfl .nil), _, rfl, HF.out⟩
     ·
      refine WL.guardNo rfl rfl rfl (vb c207 rfl) <|
       WL.guardNo rfl rfl rfl (vb c207 rfl) <|
       WL.guardNo rfl rfl rfl (vb c207 rfl) <|
       E rfl (ex_pick_f (v := .bool false) (vb c207 rfl) rfl) <|
       E rfl (mv (.bool false) rfl) <|
       WL.guardNo rfl rfl rfl rfl <|
       WL.guardNo rfl rfl rfl rfl <|
       E rfl (ex_pick_f (v := .bool false) rfl rfl) <|
       E rfl (mv (.bool false) rfl) <|
       WL.guardNo rfl rfl rfl rfl <|
       WL.guardNo rfl rfl rfl rfl <|
       WL.guardNo rfl rfl rfl rfl <|
       E rfl (ex_pick_f (v := .bool false) rfl rfl) <|
       E rfl (mv (.bool false) rfl) <|
       WL.guardNo rfl rfl rfl rfl <|
       WL.guardNo rfl rfl rfl rfl <|
       WL.guardNo rfl rfl rfl rfl <|
       WL.guardNo rfl rfl rfl rfl <|
       E rfl (ex_pick_f (v := .bool false) rfl rfl) <|
       E rfl (mv (.bool false) rfl) <|
       WL.guardNo rfl rfl rfl rfl <|
       WL.guardNo rfl rfl rfl rfl <|
       E rfl (ex_pick_f (v := .bool false) rfl rfl) <|
       E rfl (mv (.bool false) rfl) <|
       WL.guardNo rfl rfl rfl rfl ?_
      refine WL.guardNo rfl rfl rfl rfl <|
       E rfl (ex_pick_f (v := .bool false) rfl rfl) <|
       E rfl (mv (.bool false) rfl) <|
       WL.guardNo rfl rfl rfl rfl <|
       WL.guardNo rfl rfl rfl rfl <|
       WL.guardNo rfl rfl rfl rfl <|
       E rfl (ex_pick_f (v := .bool false) rfl rfl) <|
       E rfl (mv (.bool false) rfl) <|
       WL.guardNo rfl rfl rfl rfl <|
       WL.guardNo rfl rfl rfl rfl <|
       WL.guardNo rfl rfl rfl rfl <|
       E rfl (ex_pick_f (v := .bool false) rfl rfl) <|
       E rfl (mv (.bool false) rfl) <|
       WL.guardNo rfl rfl rfl rfl <|
       WL.guardNo rfl rfl rfl rfl <|
       E rfl (ex_pick_f (v := .bool false) rfl rfl) <|
       E rfl (sg (.bool false) rfl) <|
       WL.nil <|
       WC.ret ?_
      obtain rfl := Option.some.inj H
      have k198_201 := s198.t s201
      replace HF := HF.step k198_201 rfl
      exact ⟨_, (.tmp _ rfl .nil), _, rfl, HF.out⟩
    ·
     refine WL.guardNo rfl rfl rfl (vb c206 rfl) <|
      WL.guardNo rfl rfl rfl (vb c206 rfl) <|
      WL.guardNo rfl rfl rfl (vb c206 rfl) <|
      E rfl (ex_pick_f (v := .bool false) (vb c206 rfl) rfl) <|
      E rfl (mv (.bool false) rfl) <|
      WL.guardNo rfl rfl rfl rfl <|
      WL.guardNo rfl rfl rfl rfl <|
      WL.guardNo rfl rfl rfl rfl <|
      E rfl (ex_pick_f (v := .bool false) rfl rfl) <|
      E rfl (mv (.bool false) rfl) <|
      WL.guardNo rfl rfl rfl rfl <|
      WL.guardNo rfl rfl rfl rfl <|
      E rfl (ex_pick_f (v := .bool false) rfl rfl) <|
      E rfl (mv (.bool false) rfl) <|
      WL.guardNo rfl rfl rfl rfl <|
      WL.guardNo rfl rfl rfl rfl <|
      WL.guardNo rfl rfl rfl rfl <|
      E rfl (ex_pick_f (v := .bool false) rfl rfl) <|
      E rfl (mv (.bool false) rfl) <|
      WL.guardNo rfl rfl rfl rfl <|
      WL.guardNo rfl rfl rfl rfl <|
      WL.guardNo rfl rfl rfl rfl <|
      WL.guardNo rfl rfl rfl rfl <|
      E rfl (ex_pick_f (v := .bool false) rfl rfl) <|
      E rfl (mv (.bool false) rfl) ?_
     refine WL.guardNo rfl rfl rfl rfl <|
      WL.guardNo rfl rfl rfl rfl <|
      E rfl (ex_pick_f (v := .bool false) rfl rfl) <|
      E rfl (mv (.bool false) rfl) <|
      WL.guardNo rfl rfl rfl rfl <|
      WL.guardNo rfl rfl rfl rfl <|
      E rfl (ex_pick_f (v := .bool false) rfl rfl) <|
      E rfl (mv (.bool false) rfl) <|
      WL.guardNo rfl rfl rfl rfl <|
      WL.guardNo rfl rfl rfl rfl <|
      WL.guardNo rfl rfl rfl rfl <|
      E rfl (ex_pick_f (v := .bool false) rfl rfl) <|
      E rfl (mv (.bool false) rfl) <|
      WL.guardNo rfl rfl rfl rfl <|
      WL.guardNo rfl rfl rfl rfl <|
      WL.guardNo rfl rfl rfl rfl <|
      E rfl (ex_pick_f (v := .bool false) rfl rfl) <|
      E rfl (mv (.bool false) rfl) <|
      WL.guardNo rfl rfl rfl rfl <|
      WL.guardNo rfl rfl rfl rfl <|
      E rfl (ex_pick_f (v := .bool false) rfl rfl) <|
      E rfl (sg (.bool false) rfl) <|
      WL.nil <|
      WC.ret ?_
     obtain rfl := Option.some.inj H
     have k198_201 := s198.t s201
     replace HF := HF.step k198_201 rfl
     exact ⟨_, (.tmp _ rfl .nil), _, rfl, HF.out⟩
   ·
    refine WL.guardNo rfl rfl rfl (vb c205 rfl) <|
     WL.guardNo rfl rfl rfl (vb c205 rfl) <|
     WL.guardNo rfl rfl rfl (vb c205 rfl) <|
     E rfl (ex_pick_f (v := .bool false) (vb c205 rfl) rfl) <|
     E rfl (mv (.bool false) rfl) <|
     WL.guardNo rfl rfl rfl rfl <|
     WL.guardNo rfl rfl rfl rfl <|
     WL.guardNo rfl rfl rfl rfl <|
     E rfl (ex_pick_f (v := .bool false) rfl rfl) <|
     E rfl (mv (.bool false) rfl) <|
     WL.guardNo rfl rfl rfl rfl <|
     WL.guardNo rfl rfl rfl rfl <|
     WL.guardNo rfl rfl rfl rfl <|
     E rfl (ex_pick_f (v := .bool false) rfl rfl) <|
     E rfl (mv (.bool false) rfl) <|
     WL.guardNo rfl rfl rfl rfl <|
     WL.guardNo rfl rfl rfl rfl <|
     E rfl (ex_pick_f (v := .bool false) rfl rfl) <|
     E rfl (mv (.bool false) rfl) <|
     WL.guardNo rfl rfl rfl rfl <|
     WL.guardNo rfl rfl rfl rfl <|
     WL.guardNo rfl rfl rfl rfl <|
     E rfl (ex_pick_f (v := .bool false) rfl rfl) <|
     E rfl (mv (.bool false) rfl) <|
     WL.guardNo rfl rfl rfl rfl ?_
    refine WL.guardNo rfl rfl rfl rfl <|
     WL.guardNo rfl rfl rfl rfl <|
     WL.guardNo rfl rfl rfl rfl <|
     E rfl (ex_pick_f (v := .bool false) rfl rfl) <|
     E rfl (mv (.bool false) rfl) <|
     WL.guardNo rfl rfl rfl rfl <|
     WL.guardNo rfl rfl rfl rfl <|
     E rfl (ex_pick_f (v := .bool false) rfl rfl) <|
     E rfl (mv (.bool false) rfl) <|
     WL.guardNo rfl rfl rfl rfl <|
     WL.guardNo rfl rfl rfl rfl <|
     E rfl (ex_pick_f (v := .bool false) rfl rfl) <|
     E rfl (mv (.bool false) rfl) <|
     WL.guardNo rfl rfl rfl rfl <|
     WL.guardNo rfl rfl rfl rfl <|
     WL.guardNo rfl rfl rfl rfl <|
     E rfl (ex_pick_f (v := .bool false) rfl rfl) <|
     E rfl (mv (.bool false) rfl) <|
     WL.guardNo rfl rfl rfl rfl <|
     WL.guardNo rfl rfl rfl rfl <|
     WL.guardNo rfl rfl rfl rfl <|
     E rfl (ex_pick_f (v := .bool false) rfl rfl) <|
     E rfl (mv (.bool false) rfl) <|
     WL.guardNo rfl rfl rfl rfl <|
     WL.guardNo rfl rfl rfl rfl ?_
    refine E rfl (ex_pick_f (v := .bool false) rfl rfl) <|
     E rfl (sg (.bool false) rfl) <|
     WL.nil <|
     WC.ret ?_
    obtain rfl := Option.some.inj H
    have k198_201 := s198.t s201
    replace HF := HF.step k198_201 rfl
    exact ⟨_, (.tmp _ rfl .nil), _, rfl, HF.out⟩
  ·
   refine WL.guardNo rfl rfl rfl (vb c204 rfl) <|
    WL.guardNo rfl rfl rfl (vb c204 rfl) <|
    E rfl (ex_pick_f (v := .bool false) (vb c204 rfl) rfl) <|
    E rfl (mv (.bool false) rfl) <|
    WL.guardNo rfl rfl rfl rfl <|
    WL.guardNo rfl rfl rfl rfl <|
    WL.guardNo rfl rfl rfl rfl <|
    E rfl (ex_pick_f (v := .bool false) rfl rfl) <|
    E rfl (mv (.bool false) rfl) <|
    WL.guardNo rfl rfl rfl rfl <|
    WL.guardNo rfl rfl rfl rfl <|
    WL.guardNo rfl rfl rfl rfl <|
    E rfl (ex_pick_f (v := .bool false) rfl rfl) <|
    E rfl (mv (.bool false) rfl) <|
    WL.guardNo rfl rfl rfl rfl <|
    WL.guardNo rfl rfl rfl rfl <|
    WL.guardNo rfl rfl rfl rfl <|
    E rfl (ex_pick_f (v := .bool false) rfl rfl) <|
    E rfl (mv (.bool false) rfl) <|
    WL.guardNo rfl rfl rfl rfl <|
    WL.guardNo rfl rfl rfl rfl <|
    E rfl (ex_pick_f (v := .bool false) rfl rfl) <|
    E rfl (mv (.bool false) rfl) <|
    WL.guardNo rfl rfl rfl rfl <|
    WL.guardNo rfl rfl rfl rfl ?_
   refine WL.guardNo rfl rfl rfl rfl <|
    E rfl (ex_pick_f (v := .bool false) rfl rfl) <|
    E rfl (mv (.bool false) rfl) <|
    WL.guardNo rfl rfl rfl rfl <|
    WL.guardNo rfl rfl rfl rfl <|
    WL.guardNo rfl rfl rfl rfl <|
    WL.guardNo rfl rfl rfl rfl <|
    E rfl (ex_pick_f (v := .bool false) rfl rfl) <|
    E rfl (mv (.bool false) rfl) <|
    WL.guardNo rfl rfl rfl rfl <|
    WL.guardNo rfl rfl rfl rfl <|
    E rfl (ex_pick_f (v := .bool false) rfl rfl) <|
    E rfl (mv (.bool false) rfl) <|
    WL.guardNo rfl rfl rfl rfl <|
    WL.guardNo rfl rfl rfl rfl <|
    E rfl (ex_pick_f (v := .bool false) rfl rfl) <|
    E rfl (mv (.bool false) rfl) <|
    WL.guardNo rfl rfl rfl rfl <|
    WL.guardNo rfl rfl rfl rfl <|
    WL.guardNo rfl rfl rfl rfl <|
    E rfl (ex_pick_f (v := .bool false) rfl rfl) <|
    E rfl (mv (.bool false) rfl) <|
    WL.guardNo rfl rfl rfl rfl <|
    WL.guardNo rfl rfl rfl rfl <|
    WL.guardNo rfl rfl rfl rfl ?_
   refine E rfl (ex_pick_f (v := .bool false) rfl rfl) <|
    E rfl (mv (.bool false) rfl) <|
    WL.guardNo rfl rfl rfl rfl <|
    WL.guardNo rfl rfl rfl rfl <|
    E rfl (ex_pick_f (v := .bool false) rfl rfl) <|
    E rfl (sg (.bool false) rfl) <|
    WL.nil <|
    WC.ret ?_
   obtain rfl := Option.some.inj H
   have k198_201 := s198.t s201
   replace HF := HF.step k198_201 rfl
   exact ⟨_, (.tmp _ rfl .nil), _, rfl, HF.out⟩
 ·
  refine WL.guardNo rfl rfl rfl (vb c203 rfl) <|
   WL.guardNo rfl rfl rfl (vb c203 rfl) <|
   E rfl (ex_pick_f (v := .bool false) (vb c203 rfl) rfl) <|
   E rfl (mv (.bool false) rfl) <|
   WL.guardNo rfl rfl rfl rfl <|
   WL.guardNo rfl rfl rfl rfl <|
   E rfl (ex_pick_f (v := .bool false) rfl rfl) <|
   E rfl (mv (.bool false) rfl) <|
   WL.guardNo rfl rfl rfl rfl <|
   WL.guardNo rfl rfl rfl rfl <|
   WL.guardNo rfl rfl rfl rfl <|
   E rfl (ex_pick_f (v := .bool false) rfl rfl) <|
   E rfl (mv (.bool false) rfl) <|
   WL.guardNo rfl rfl rfl rfl <|
   WL.guardNo rfl rfl rfl rfl <|
   WL.guardNo rfl rfl rfl rfl <|
   E rfl (ex_pick_f (v := .bool false) rfl rfl) <|
   E rfl (mv (.bool false) rfl) <|
   WL.guardNo rfl rfl rfl rfl <|
   WL.guardNo rfl rfl rfl rfl <|
   WL.guardNo rfl rfl rfl rfl <|
   E rfl (ex_pick_f (v := .bool false) rfl rfl) <|
   E rfl (mv (.bool false) rfl) <|
   WL.guardNo rfl rfl rfl rfl <|
   WL.guardNo rfl rfl rfl rfl ?_
  refine E rfl (ex_pick_f (v := .bool false) rfl rfl) <|
   E rfl (mv (.bool false) rfl) <|
   WL.guardNo rfl rfl rfl rfl <|
   WL.guardNo rfl rfl rfl rfl <|
   WL.guardNo rfl rfl rfl rfl <|
   E rfl (ex_pick_f (v := .bool false) rfl rfl) <|
   E rfl (mv (.bool false) rfl) <|
   WL.guardNo rfl rfl rfl rfl <|
   WL.guardNo rfl rfl rfl rfl <|
   WL.guardNo rfl rfl rfl rfl <|
   WL.guardNo rfl rfl rfl rfl <|
   E rfl (ex_pick_f (v := .bool false) rfl rfl) <|
   E rfl (mv (.bool false) rfl) <|
   WL.guardNo rfl rfl rfl rfl <|
   WL.guardNo rfl rfl rfl rfl <|
   E rfl (ex_pick_f (v := .bool false) rfl rfl) <|
   E rfl (mv (.bool false) rfl) <|
   WL.guardNo rfl rfl rfl rfl <|
   WL.guardNo rfl rfl rfl rfl <|
   E rfl (ex_pick_f (v := .bool false) rfl rfl) <|
   E rfl (mv (.bool false) rfl) <|
   WL.guardNo rfl rfl rfl rfl <|
   WL.guardNo rfl rfl rfl rfl <|
   WL.guardNo rfl rfl rfl rfl <|
   E rfl (ex_pick_f (v := .bool false) rfl rfl) ?_
  refine E rfl (mv (.bool false) rfl) <|
   WL.guardNo rfl rfl rfl rfl <|
   WL.guardNo rfl rfl rfl rfl <|
   WL.guardNo rfl rfl rfl rfl <|
   E rfl (ex_pick_f (v := .bool false) rfl rfl) <|
   E rfl (mv (.bool false) rfl) <|
   WL.guardNo rfl rfl rfl rfl <|
   WL.guardNo rfl rfl rfl rfl <|
   E rfl (ex_pick_f (v := .bool false) rfl rfl) <|
   E rfl (sg (.bool false) rfl) <|
   WL.nil <|
   WC.ret ?_
  obtain rfl := Option.some.inj H
  have k198_201 := s198.t s201
  replace HF := HF.step k198_201 rfl
  exact ⟨_, (.tmp _ rfl .nil), _, rfl, HF.out⟩

/-! ### dictumlaw04_SyntaxAgain -/
set_option maxRecDepth 100000 in
theorem dictumlaw04_SyntaxAgain.calls (k : Nat) (o0 : Tags) (w0 : World) (pA0 : Option Addr) (pc0 : Nat) {a0 : (List T_api_Node)} {a1 : List UInt8} {r : Bool} (H : dictumlaw04_SyntaxAgain.f k a0 a1 = some r) (hO : ∀ b, b < w0.heap.size → o0 b < 40) (hra0 : Row T_api_Node.rep (fun b_ => o0 b_ = 0) (fun b_ => o0 b_ = 0) w0 pA0 a0) (hla0 : a0.length ≤ pc0) (hG : Gl GG o0 w0) :
  Calls Tryz.prog 6 [.slice pA0 a0.length pc0, encS a1].toArray w0 fun e_ w_ => ∃ (o_ : Tags), e_ = .returned (one [.bool r]) ∧ Step o0 w0 o_ w_ [] := by
 have HF := Fm.refl hO []
 unfold dictumlaw04_SyntaxAgain.f at H
 refine SX.calls [.slice pA0 a0.length pc0, encS a1] Tryz.func6 rfl rfl ?_
 rw [Tryz.ntmps6]
 refine WC.seq <|
  WC.region <|
  E rfl (sg (.bool false) rfl) <|
  WL.nil <|
  WC.seq <|
  WC.region <|
  E rfl (mv (.slice pA0 a0.length pc0) rfl) ?_
 obtain ⟨z101, hz101, H⟩ := bindE H
 refine WL.op rfl <|
  OW.call [.slice pA0 a0.length pc0] rfl Tryz.func7 (by kernel_rfl) (by kernel_rfl) (map_cons' rfl rfl) (dictumlaw04_Tables.calls k _ _ pA0 pc0 hz101 (HF.ten (V := [0]) (L := []) rfl) (Row.vw hra0 rfl) hla0) ?_
 rintro _ w102 ⟨o103, b105, v107, b109, b111, v113, rfl, s104, hB106, hO108, hM110, hB112, hO114⟩
 refine ⟨_, rfl, ?_⟩
 replace hB106 := Bk.un9 (J := [40, 41, 42, 43, 44]) 0 hB106 rfl s104 rfl rfl
 replace hO108 := Own.un9 (J := [40, 41, 42, 43, 44]) 1 hO108 rfl s104 rfl rfl
 replace hM110 := Mp.un9 (J := [40, 41, 42, 43, 44]) 2 hM110 rfl s104 rfl rfl
 replace hB112 := Bk.un9 (J := [40, 41, 42, 43, 44]) 3 hB112 rfl s104 rfl rfl
 replace hO114 := Own.un9 (J := [40, 41, 42, 43, 44]) 4 hO114 rfl s104 rfl rfl
 replace s104 := un_stepL (J := [40, 41, 42, 43, 44]) (L' := []) s104 rfl rfl
 refine E rfl (mv (.tuple #[pp b105 0, pp b111 0]) rfl) <|
  E rfl (ex_extract rfl rfl) <|
  E rfl (ex_extract rfl rfl) <|
  E rfl (sg (pp b105 0) rfl) <|
  E rfl (sg (pp b111 0) rfl) <|
  WL.nil <|
  WC.seq <|
  WC.region <|
  E rfl (mv (pp b105 0) rfl) ?_
 obtain ⟨z115, hz115, H⟩ := bindE H
 refine WL.op rfl ?_
 replace HF := HF.step s104 rfl
 refine OW.call [pp b105 0] rfl Tryz.func18 (by kernel_rfl) (by kernel_rfl) (map_cons' rfl rfl) (formula_Table_Rows.calls _ _ b105 v107 b109 (a0 := z101.1.1) hz115 (HF.ten (V := [0]) (L := [40, 41, 42]) rfl) (Bk.vw hB106 rfl) (Own.vw hO108 rfl rfl) (Mp.vw hM110 rfl)) ?_
 rintro _ w116 ⟨o117, v119, rfl, s118, hO120⟩
 refine ⟨_, rfl, ?_⟩
 replace hO120 := Own.un9 (J := [45]) 0 hO120 rfl s118 rfl rfl
 replace s118 := un_stepL (J := [45]) (L' := []) s118 rfl rfl
 refine E rfl (sg v119 rfl) <|
  WL.nil <|
  WC.seq <|
  WC.region <|
  E rfl (mv (pp b105 0) rfl) <|
  E rfl (mv (encS a1) rfl) ?_
 obtain ⟨z121, hz121, H⟩ := bindE H
 refine WL.op rfl ?_
 replace hB106 := hB106.step s118 rfl
 replace hO108 := hO108.step s118 rfl rfl
 replace hM110 := hM110.step s118 rfl
 replace HF := HF.step s118 rfl
 have k104_118 := s104.t s118
 replace hG := hG.step k104_118 rfl
 refine OW.call [pp b105 0, encS a1] rfl Tryz.func12 (by kernel_rfl) (by kernel_rfl) (map_cons' rfl (map_cons' rfl rfl)) (syntax_Parse.calls k _ _ b105 v107 b109 (a0 := z101.1.1) hz121 (HF.ten (V := [0]) (L := [40, 41, 42]) rfl) (Bk.vw hB106 rfl) (Own.vw hO108 rfl rfl) (Mp.vw hM110 rfl) (Gl.vw hG rfl)) ?_
 rintro _ w122 ⟨o123, v126, rfl, s124, hB125, hO127, hM128⟩
 refine ⟨_, rfl, ?_⟩
 replace hB125 := Bk.unO (J := []) 0 hB125 s124 rfl rfl rfl
 replace hO127 := Own.unO (J := []) 1 hO127 s124 rfl rfl rfl
 replace hM128 := Mp.unO (J := []) 2 hM128 s124 rfl rfl rfl
 replace s124 := un_stepL (J := []) (L' := [40, 41, 42]) s124 rfl rfl
 refine E rfl (mv (.tuple #[ii z121.1, .agg #[ii z121.2.1.f_Code, ii z121.2.1.f_At.f_Line, ii z121.2.1.f_At.f_Col, ii z121.2.1.f_At.f_Off]]) rfl) <|
  E rfl (ex_extract rfl rfl) <|
  E rfl (ex_extract rfl rfl) <|
  WL.op rfl ?_
 replace HF := HF.step s124 rfl
 refine OW.alloc' [ii (0 : Int), ii (0 : Int), ii (0 : Int), ii (0 : Int)] 46 HF rfl zr36 rfl ?_
 intro o130 w131 b129 s132 hB133
 refine E rfl (sg (ii z121.1) rfl) <|
  WL.op rfl <|
  OW.storeW rfl rfl sz36 hB133 rfl (oa rfl) ?_
 intro w134 s135 hB136
 refine WL.nil <|
  WC.seq <|
  WC.seq <|
  WC.region <|
  E rfl (ex_loadN (cs := [ii z121.2.1.f_Code, ii z121.2.1.f_At.f_Line, ii z121.2.1.f_At.f_Col, ii z121.2.1.f_At.f_Off]) rfl U36 rfl sz36 (hB136.cells rfl)) <|
  E rfl (ex_build (cs := [ii (0 : Int), ii (0 : Int), ii (0 : Int), ii (0 : Int)]) [(0, 1), (1, 3)] [] [ii 0, ii 0, ii 0, ii 0] U36 zr36 rfl (by kernel_rfl) rfl rfl) <|
  E rfl (ex_bin (a := .agg #[ii z121.2.1.f_Code, ii z121.2.1.f_At.f_Line, ii z121.2.1.f_At.f_Col, ii z121.2.1.f_At.f_Off]) (b := .agg #[ii (0 : Int), ii (0 : Int), ii (0 : Int), ii (0 : Int)]) (v := .bool (!(T_api_Fault.eqb z121.2.1 (⟨(0 : Int), (⟨(0 : Int), (0 : Int), (0 : Int)⟩ : T_api_Spot)⟩ : T_api_Fault)))) rfl rfl (bin_neq_agg (by kernel_rfl) (EqR.agg U36 (by kernel_rfl) (EqF.cons (by decide) (PartR.one U28 rfl rfl) (PartR.one U28 rfl rfl) (EqR.int U28) (EqF.cons (by decide) (PartR.many U34 rfl sz34) (PartR.many U34 rfl sz34) (EqR.agg U34 (by kernel_rfl) (EqF.cons (by decide) (PartR.one U3 rfl rfl) (PartR.one U3 rfl rfl) (EqR.int U3) (EqF.cons (by decide) (PartR.one U3 rfl rfl) (PartR.one U3 rfl rfl) (EqR.int U3) (EqF.cons (by decide) (PartR.one U3 rfl rfl) (PartR.one U3 rfl rfl) (EqR.int U3) EqF.nil)))) EqF.nil))))) <|
  WL.nil ?_
 rcases condE H with ⟨c137, H⟩ | ⟨c137, H⟩
 ·
  refine WC.cond_t (vb c137 rfl) <|
   WC.seq <|
   WC.region <|
   E rfl (mv (ii z121.1) rfl) <|
   E rfl (e2 bin_eql rfl rfl) <|
   E rfl (mv (.bool (z121.1 == 0)) rfl) ?_
  rcases condE H with ⟨c138, H⟩ | ⟨c138, H⟩
  ·
   refine WL.guardYes rfl rfl rfl (vb c138 rfl) <|
    OW.ex rfl (mv v119 rfl) <|
    WL.guardYes rfl rfl rfl (vb c138 rfl) <|
    OW.ex rfl (mv (pp b105 0) rfl) <|
    WL.guardYes rfl rfl rfl (vb c138 rfl) ?_
   obtain ⟨z139, hz139, H⟩ := bindE H
   have k132_135 := s132.t s135
   replace hB125 := hB125.step k132_135 rfl
   replace hO127 := hO127.step k132_135 rfl rfl
   replace hM128 := hM128.step k132_135 rfl
   replace HF := HF.step k132_135 rfl
   refine OW.call [pp b105 0] rfl Tryz.func18 (by kernel_rfl) (by kernel_rfl) (map_cons' rfl rfl) (formula_Table_Rows.calls _ _ b105 v126 b109 (a0 := z121.2.2.1) hz139 (HF.ten (V := [0]) (L := [40, 41, 42]) rfl) (Bk.vw hB125 rfl) (Own.vw hO127 rfl rfl) (Mp.vw hM128 rfl)) ?_
   rintro _ w140 ⟨o141, v143, rfl, s142, hO144⟩
   refine ⟨_, rfl, ?_⟩
   replace hO144 := Own.un9 (J := [47]) 0 hO144 rfl s142 rfl rfl
   replace s142 := un_stepL (J := [47]) (L' := []) s142 rfl rfl
   refine WL.guardYes rfl rfl rfl (vb c138 rfl) ?_
   have k124_142 := ((s124.t s132).t s135).t s142
   replace hO120 := hO120.step k124_142 rfl rfl
   obtain ⟨A145, c146, q147e, q147l, q147⟩ := Own.vwRow (V := [0, 45, 47]) (L := []) hO120 rfl rfl
   obtain ⟨A148, c149, q150e, q150l, q150⟩ := Own.vwRow (V := [0, 45, 47]) (L := []) hO144 rfl rfl
   obtain ⟨z151, hz151, H⟩ := bindE H
   have q147e' := q147e
   have q150e' := q150e
   replace HF := HF.step s142 rfl
   refine OW.call [v119, v143] rfl Tryz.func19 (by kernel_rfl) (by kernel_rfl) (map_cons' rfl (map_cons' rfl rfl)) (by simp only [q147e, q150e]; exact (dictumref03_Same.calls k _ _ A145 c146 A148 c149 hz151 (HF.ten (V := [0, 45, 47]) (L := []) rfl) q147 q147l q150 q150l)) ?_
   rintro _ w152 ⟨o153, rfl, s154⟩
   refine ⟨_, rfl, ?_⟩
   replace s154 := un_stepL (J := []) (L' := []) s154 rfl rfl
   refine E rfl (ex_pick_t (v := .bool z151) (vb c138 rfl) rfl) <|
    E rfl (mv (.bool z151) rfl) ?_
   rcases condE H with ⟨c155, H⟩ | ⟨c155, H⟩
   ·
    refine WL.guardYes rfl rfl rfl (vb c155 rfl) ?_
    obtain ⟨z156, hz156, H⟩ := bindE H
    replace HF := HF.step s154 rfl
    have k124_154 := k124_142.t s154
    replace hG := hG.step k124_154 rfl
    refine OW.call [] rfl Tryz.func13 (by kernel_rfl) (by kernel_rfl) rfl (dictumlaw04_heads.calls k _ _ hz156 (HF.ten (V := [0]) (L := []) rfl) (Gl.vw hG rfl)) ?_
    rintro _ w157 ⟨o158, rfl, s159⟩
    refine ⟨_, rfl, ?_⟩
    replace s159 := un_stepL (J := []) (L' := []) s159 rfl rfl
    refine E rfl (ex_pick_t (v := .bool z156) (vb c155 rfl) rfl) <|
     E rfl (sg (.bool z156) rfl) <|
     WL.nil <|
     WC.ret ?_
    obtain rfl := Option.some.inj H
    replace HF := HF.step s159 rfl
    exact ⟨_, (.tmp _ rfl .nil), _, rfl, HF.out⟩
   ·
    refine WL.guardNo rfl rfl rfl (vb c155 rfl) <|
     E rfl (ex_pick_f (v := .bool false) (vb c155 rfl) rfl) <|
     E rfl (sg (.bool false) rfl) <|
     WL.nil <|
     WC.ret ?_
    obtain rfl := Option.some.inj H
    replace HF := HF.step s154 rfl
    exact ⟨_, (.tmp _ rfl .nil), _, rfl, HF.out⟩
  ·
   refine WL.guardNo rfl rfl rfl (vb c138 rfl) <|
    WL.guardNo rfl rfl rfl (vb c138 rfl) <|
    WL.guardNo rfl rfl rfl (vb c138 rfl) <|
    WL.guardNo rfl rfl rfl (vb c138 rfl) <|
    E rfl (ex_pick_f (v := .bool false) (vb c138 rfl) rfl) <|
    E rfl (mv (.bool false) rfl) <|
    WL.guardNo rfl rfl rfl rfl <|
    E rfl (ex_pick_f (v := .bool false) rfl rfl) <|
    E rfl (sg (.bool false) rfl) <|
    WL.nil <|
    WC.ret ?_
   obtain rfl := Option.some.inj H
   have k132_135 := s132.t s135
   replace HF := HF.step k132_135 rfl
   exact ⟨_, (.tmp _ rfl .nil), _, rfl, HF.out⟩
 ·
  refine WC.cond_f (vb c137 rfl) <|
   WC.skip <|
   WC.seq <|
   WC.region <|
   E rfl (mv (pp b105 0) rfl) ?_
  obtain ⟨z160, hz160, H⟩ := bindE H
  refine WL.op rfl ?_
  have k132_135 := s132.t s135
  replace hB125 := hB125.step k132_135 rfl
  replace hO127 := hO127.step k132_135 rfl rfl
  replace hM128 := hM128.step k132_135 rfl
  replace HF := HF.step k132_135 rfl
  refine OW.call [pp b105 0] rfl Tryz.func8 (by kernel_rfl) (by kernel_rfl) (map_cons' rfl rfl) (formula_Table_Len.calls _ _ b105 v126 b109 (a0 := z121.2.2.1) hz160 (HF.ten (V := [0]) (L := [40, 41, 42]) rfl) (Bk.vw hB125 rfl) (Own.vw hO127 rfl rfl) (Mp.vw hM128 rfl)) ?_
  rintro _ w161 ⟨o162, rfl, s163⟩
  refine ⟨_, rfl, ?_⟩
  replace s163 := un_stepL (J := []) (L' := []) s163 rfl rfl
  refine E rfl (sg (ii z160) rfl) <|
   WL.nil <|
   WC.seq <|
   WC.region <|
   E rfl (mv (pp b105 0) rfl) <|
   E rfl (mv (encS a1) rfl) ?_
  obtain ⟨z164, hz164, H⟩ := bindE H
  refine WL.op rfl ?_
  replace hB125 := hB125.step s163 rfl
  replace hO127 := hO127.step s163 rfl rfl
  replace hM128 := hM128.step s163 rfl
  replace HF := HF.step s163 rfl
  have k124_163 := ((s124.t s132).t s135).t s163
  replace hG := hG.step k124_163 rfl
  refine OW.call [pp b105 0, encS a1] rfl Tryz.func12 (by kernel_rfl) (by kernel_rfl) (map_cons' rfl (map_cons' rfl rfl)) (syntax_Parse.calls k _ _ b105 v126 b109 (a0 := z121.2.2.1) hz164 (HF.ten (V := [0]) (L := [40, 41, 42]) rfl) (Bk.vw hB125 rfl) (Own.vw hO127 rfl rfl) (Mp.vw hM128 rfl) (Gl.vw hG rfl)) ?_
  rintro _ w165 ⟨o166, v169, rfl, s167, hB168, hO170, hM171⟩
  refine ⟨_, rfl, ?_⟩
  replace hB168 := Bk.unO (J := []) 0 hB168 s167 rfl rfl rfl
  replace hO170 := Own.unO (J := []) 1 hO170 s167 rfl rfl rfl
  replace hM171 := Mp.unO (J := []) 2 hM171 s167 rfl rfl rfl
  replace s167 := un_stepL (J := []) (L' := [40, 41, 42]) s167 rfl rfl
  refine E rfl (mv (.tuple #[ii z164.1, .agg #[ii z164.2.1.f_Code, ii z164.2.1.f_At.f_Line, ii z164.2.1.f_At.f_Col, ii z164.2.1.f_At.f_Off]]) rfl) <|
   E rfl (ex_extract rfl rfl) <|
   E rfl (ex_extract rfl rfl) <|
   WL.op rfl ?_
  replace HF := HF.step s167 rfl
  refine OW.alloc' [ii (0 : Int), ii (0 : Int), ii (0 : Int), ii (0 : Int)] 48 HF rfl zr36 rfl ?_
  intro o173 w174 b172 s175 hB176
  refine E rfl (sg (ii z164.1) rfl) <|
   WL.op rfl <|
   OW.storeW rfl rfl sz36 hB176 rfl (oa rfl) ?_
  intro w177 s178 hB179
  refine WL.nil <|
   WC.seq ?_
  obtain ⟨z181, hz181, H⟩ := bindE H
  refine WC.cut (fun ρ_ w_ => ∃ (o_ : Tags), Fm o0 w0 o_ w_ [] ∧ Own T_api_Node.rep 60 45 o_ w_ v119 z115 ∧ Bk o_ w_ 40 b105 [v169, .map (some b109)] 56 ∧ Own T_api_Node.rep 60 41 o_ w_ v169 z164.2.2.1.f_rows ∧ Bk o_ w_ 46 b129 [ii z121.2.1.f_Code, ii z121.2.1.f_At.f_Line, ii z121.2.1.f_At.f_Col, ii z121.2.1.f_At.f_Off] 36 ∧ Mp (fun x_ : T_api_Node => Value.agg #[ii x_.f_Kind, encS x_.f_Name, ii x_.f_L, ii x_.f_R]) (fun v_ : Int => ii v_) 42 o_ w_ b109 z164.2.2.2 ∧ Gl GG o_ w_ ∧ ρ_ 1 = encS a1 ∧ ρ_ 4 = .bool false ∧ ρ_ 5 = pp b105 0 ∧ ρ_ 7 = v119 ∧ ρ_ 8 = ii z121.1 ∧ ρ_ 9 = pp b129 0 ∧ ρ_ 10 = ii z160 ∧ ρ_ 64 = .bool z181) ?case182 ?_
  case case182 =>
   rintro ρ185 w183 ⟨o184, HF, hO120, hB168, hO170, hB136, hM171, hG, s1_179, s4_179, s5_179, s7_179, s8_179, s9_179, s10_179, s64_180⟩
   rcases condE H with ⟨c186, H⟩ | ⟨c186, H⟩
   ·
    refine WC.cond_t (vb c186 s64_180) <|
     WC.seq <|
     WC.region <|
     E rfl (sg (.bool false) rfl) <|
     WL.nil <|
     WC.ret ?_
    obtain rfl := Option.some.inj H
    exact ⟨_, (.tmp _ rfl .nil), _, rfl, HF.out⟩
   ·
    refine WC.cond_f (vb c186 s64_180) <|
     WC.skip ?_
    obtain ⟨z191, hz191, H⟩ := bindE H
    refine WC.cut (fun ρ_ w_ => ∃ (o_ : Tags) (x187 : T_formula_Table) (x190 : (List (T_api_Node × Int))) (v188 : Value), Fm o0 w0 o_ w_ [] ∧ Own T_api_Node.rep 60 45 o_ w_ v119 z115 ∧ Bk o_ w_ 40 b105 [v188, .map (some b109)] 56 ∧ Own T_api_Node.rep 60 41 o_ w_ v188 x187.f_rows ∧ Mp (fun x_ : T_api_Node => Value.agg #[ii x_.f_Kind, encS x_.f_Name, ii x_.f_L, ii x_.f_R]) (fun v_ : Int => ii v_) 42 o_ w_ b109 x190 ∧ Gl GG o_ w_ ∧ ρ_ 4 = .bool false ∧ ρ_ 5 = pp b105 0 ∧ ρ_ 7 = v119 ∧ z191 = .inr (x187, x190)) ?case192 ?_
    case case192 =>
     rintro ρ195 w193 ⟨o194, x187, x190, v188, HF, hO120, hB194, hO189, hM197, hG, s4_186, s5_186, s7_186, rfl⟩
     replace H : _ = some _ := H
     dsimp only at H
     refine WC.seq <|
      WC.region <|
      E rfl (mv (pp b105 0) s5_186) ?_
     obtain ⟨z196, hz196, H⟩ := bindE H
     refine WL.op rfl <|
      OW.call [pp b105 0] rfl Tryz.func18 (by kernel_rfl) (by kernel_rfl) (map_cons' rfl rfl) (formula_Table_Rows.calls _ _ b105 v188 b109 (a0 := x187) hz196 (HF.ten (V := [0]) (L := [40, 41, 42]) rfl) (Bk.vw hB194 rfl) (Own.vw hO189 rfl rfl) (Mp.vw hM197 rfl)) ?_
     rintro _ w197 ⟨o198, v200, rfl, s199, hO201⟩
     refine ⟨_, rfl, ?_⟩
     replace hO201 := Own.un9 (J := [49]) 0 hO201 rfl s199 rfl rfl
     replace s199 := un_stepL (J := [49]) (L' := []) s199 rfl rfl
     refine E rfl (sg v200 rfl) <|
      WL.nil <|
      WC.seq <|
      WC.region <|
      E rfl (mv v200 rfl) ?_
     obtain ⟨A202, c203, q204⟩ := hO201.slice
     refine E rfl (ex_len_slice ((show _ = (v200 : Value) from rfl).trans q204) U22) <|
      E rfl (mv v119 s7_186) ?_
     replace hO120 := hO120.step s199 rfl rfl
     obtain ⟨A205, c206, q207⟩ := hO120.slice
     refine E rfl (ex_len_slice ((show _ = (v119 : Value) from rfl).trans q207) U22) <|
      E rfl (e2 bin_geq rfl rfl) <|
      E rfl (mv (.bool (decide ((z196.length : Int) ≥ (z115.length : Int)))) rfl) ?_
     rcases condE H with ⟨c208, H⟩ | ⟨c208, H⟩
     ·
      refine WL.guardYes rfl rfl rfl (vb c208 rfl) <|
       OW.ex rfl (mv v200 rfl) <|
       WL.guardYes rfl rfl rfl (vb c208 rfl) <|
       OW.ex rfl (mv v119 s7_186) <|
       WL.guardYes rfl rfl rfl (vb c208 rfl) ?_
      obtain ⟨A209, c210, q211⟩ := hO120.slice
      refine OW.ex rfl (ex_len_slice ((show _ = (v119 : Value) from rfl).trans q211) U22) <|
       WL.guardYes rfl rfl rfl (vb c208 rfl) ?_
      obtain ⟨y212, hy212, H⟩ := bindE H
      obtain ⟨A214, c215, q216, hl217, hO218⟩ := Own.take hO201 (cut_pos hy212) (cut_high hy212)
      obtain ⟨v219, e220⟩ : ∃ v_, v_ = Value.slice A214 ((z115.length : Int) : Int).toNat c215 := ⟨_, rfl⟩
      rw [← e220, cut_take hy212] at hO218
      refine OW.ex rfl (ex_take (h := (z115.length : Int)) ((show _ = (v200 : Value) from rfl).trans q216) U22 sz60 ⟨_, rfl⟩ (cut_pos hy212) (Int.le_trans (cut_high hy212) (Int.ofNat_le.2 hl217)) e220) <|
       WL.guardYes rfl rfl rfl (vb c208 rfl) <|
       OW.ex rfl (mv v119 s7_186) <|
       WL.guardYes rfl rfl rfl (vb c208 rfl) ?_
      obtain ⟨A221, c222, q223e, q223l, q223⟩ := Own.vwRow (V := [0, 49, 45]) (L := []) hO218 rfl rfl
      obtain ⟨A224, c225, q226e, q226l, q226⟩ := Own.vwRow (V := [0, 49, 45]) (L := []) hO120 rfl rfl
      obtain ⟨z227, hz227, H⟩ := bindE H
      have q223e' := q223e
      have q226e' := q226e
      replace HF := HF.step s199 rfl
      refine OW.call [v219, v119] rfl Tryz.func19 (by kernel_rfl) (by kernel_rfl) (map_cons' rfl (map_cons' rfl rfl)) (by simp only [q223e, q226e]; exact (dictumref03_Same.calls k _ _ A221 c222 A224 c225 hz227 (HF.ten (V := [0, 49, 45]) (L := []) rfl) q223 q223l q226 q226l)) ?_
      rintro _ w228 ⟨o229, rfl, s230⟩
      refine ⟨_, rfl, ?_⟩
      replace s230 := un_stepL (J := []) (L' := []) s230 rfl rfl
      refine E rfl (ex_pick_t (v := .bool z227) (vb c208 rfl) rfl) <|
       E rfl (mv (.bool z227) rfl) ?_
      rcases condE H with ⟨c231, H⟩ | ⟨c231, H⟩
      ·
       refine WL.guardYes rfl rfl rfl (vb c231 rfl) ?_
       obtain ⟨z232, hz232, H⟩ := bindE H
       replace HF := HF.step s230 rfl
       have k199_230 := s199.t s230
       replace hG := hG.step k199_230 rfl
       refine OW.call [] rfl Tryz.func13 (by kernel_rfl) (by kernel_rfl) rfl (dictumlaw04_heads.calls k _ _ hz232 (HF.ten (V := [0]) (L := []) rfl) (Gl.vw hG rfl)) ?_
       rintro _ w233 ⟨o234, rfl, s235⟩
       refine ⟨_, rfl, ?_⟩
       replace s235 := un_stepL (J := []) (L' := []) s235 rfl rfl
       refine E rfl (ex_pick_t (v := .bool z232) (vb c231 rfl) rfl) <|
        E rfl (sg (.bool z232) rfl) <|
        WL.nil <|
        WC.ret ?_
       obtain rfl := Option.some.inj H
       replace HF := HF.step s235 rfl
       exact ⟨_, (.tmp _ rfl .nil), _, rfl, HF.out⟩
      ·
       refine WL.guardNo rfl rfl rfl (vb c231 rfl) <|
        E rfl (ex_pick_f (v := .bool false) (vb c231 rfl) rfl) <|
        E rfl (sg (.bool false) rfl) <|
        WL.nil <|
        WC.ret ?_
       obtain rfl := Option.some.inj H
       replace HF := HF.step s230 rfl
       exact ⟨_, (.tmp _ rfl .nil), _, rfl, HF.out⟩
     ·
      refine WL.guardNo rfl rfl rfl (vb c208 rfl) <|
       WL.guardNo rfl rfl rfl (vb c208 rfl) <|
       WL.guardNo rfl rfl rfl (vb c208 rfl) <|
       WL.guardNo rfl rfl rfl (vb c208 rfl) <|
       WL.guardNo rfl rfl rfl (vb c208 rfl) <|
       WL.guardNo rfl rfl rfl (vb c208 rfl) <|
       E rfl (ex_pick_f (v := .bool false) (vb c208 rfl) rfl) <|
       E rfl (mv (.bool false) rfl) <|
       WL.guardNo rfl rfl rfl rfl <|
       E rfl (ex_pick_f (v := .bool false) rfl rfl) <|
       E rfl (sg (.bool false) rfl) <|
       WL.nil <|
       WC.ret ?_
      obtain rfl := Option.some.inj H
      replace HF := HF.step s199 rfl
      exact ⟨_, (.tmp _ rfl .nil), _, rfl, HF.out⟩
    have Ho236 := H
    replace H := hz191
    refine WC.seq <|
     WC.region <|
     E rfl (mv (encS a1) s1_179) <|
     E rfl (ex_len_str (s := a1) rfl U9) <|
     E rfl (e2 bin_lss rfl rfl) <|
     WL.nil ?_
    rcases condE H with ⟨c237, H⟩ | ⟨c237, H⟩
    ·
     refine WC.cond_t (vb c237 rfl) <|
      WC.seq <|
      WC.region <|
      E rfl (mv (pp b105 0) s5_179) <|
      E rfl (mv (encS a1) s1_179) ?_
     obtain ⟨u238, hu238, H⟩ := bindE H
     refine E rfl (ex_bin (a := encS ([40] : List UInt8)) (b := encS a1) (v := encS (([40] : List UInt8) ++ a1)) rfl rfl (bin_add_str (of_decide_eq_true (chk_true hu238)))) ?_
     obtain ⟨u239, hu239, H⟩ := bindE H
     refine E rfl (ex_bin (a := encS (([40] : List UInt8) ++ a1)) (b := encS ([10, 41] : List UInt8)) (v := encS ((([40] : List UInt8) ++ a1) ++ ([10, 41] : List UInt8))) rfl rfl (bin_add_str (of_decide_eq_true (chk_true hu239)))) ?_
     obtain ⟨z240, hz240, H⟩ := bindE H
     refine WL.op rfl <|
      OW.call [pp b105 0, encS ((([40] : List UInt8) ++ a1) ++ ([10, 41] : List UInt8))] rfl Tryz.func12 (by kernel_rfl) (by kernel_rfl) (map_cons' rfl (map_cons' rfl rfl)) (syntax_Parse.calls k _ _ b105 v169 b109 (a0 := z164.2.2.1) hz240 (HF.ten (V := [0]) (L := [40, 41, 42]) rfl) (Bk.vw hB168 rfl) (Own.vw hO170 rfl rfl) (Mp.vw hM171 rfl) (Gl.vw hG rfl)) ?_
     rintro _ w241 ⟨o242, v245, rfl, s243, hB244, hO246, hM247⟩
     refine ⟨_, rfl, ?_⟩
     replace hB244 := Bk.unO (J := []) 0 hB244 s243 rfl rfl rfl
     replace hO246 := Own.unO (J := []) 1 hO246 s243 rfl rfl rfl
     replace hM247 := Mp.unO (J := []) 2 hM247 s243 rfl rfl rfl
     replace s243 := un_stepL (J := []) (L' := [40, 41, 42]) s243 rfl rfl
     refine E rfl (mv (.tuple #[ii z240.1, .agg #[ii z240.2.1.f_Code, ii z240.2.1.f_At.f_Line, ii z240.2.1.f_At.f_Col, ii z240.2.1.f_At.f_Off]]) rfl) <|
      E rfl (ex_extract rfl rfl) <|
      E rfl (ex_extract rfl rfl) <|
      WL.op rfl ?_
     replace HF := HF.step s243 rfl
     refine OW.alloc' [ii (0 : Int), ii (0 : Int), ii (0 : Int), ii (0 : Int)] 50 HF rfl zr36 rfl ?_
     intro o249 w250 b248 s251 hB252
     refine E rfl (sg (ii z240.1) rfl) <|
      WL.op rfl <|
      OW.storeW rfl rfl sz36 hB252 rfl (oa rfl) ?_
     intro w253 s254 hB255
     refine WL.nil ?_
     obtain ⟨z257, hz257, H⟩ := bindE H
     refine WC.cut (fun ρ_ w_ => ∃ (o_ : Tags), Fm o0 w0 o_ w_ [] ∧ Own T_api_Node.rep 60 45 o_ w_ v119 z115 ∧ Bk o_ w_ 40 b105 [v245, .map (some b109)] 56 ∧ Own T_api_Node.rep 60 41 o_ w_ v245 z240.2.2.1.f_rows ∧ Mp (fun x_ : T_api_Node => Value.agg #[ii x_.f_Kind, encS x_.f_Name, ii x_.f_L, ii x_.f_R]) (fun v_ : Int => ii v_) 42 o_ w_ b109 z240.2.2.2 ∧ Gl GG o_ w_ ∧ ρ_ 4 = .bool false ∧ ρ_ 5 = pp b105 0 ∧ ρ_ 7 = v119 ∧ ρ_ 89 = .bool z257) ?case258 ?_
     case case258 =>
      rintro ρ261 w259 ⟨o260, HF, hO120, hB244, hO246, hM247, hG, s4_255, s5_255, s7_255, s89_256⟩
      rcases condE H with ⟨c262, H⟩ | ⟨c262, H⟩
      ·
       refine WC.cond_t (vb c262 s89_256) <|
        WC.seq <|
        WC.region <|
        E rfl (sg (.bool false) rfl) <|
        WL.nil <|
        WC.ret ?_
       obtain rfl := Option.some.inj H
       replace H := Ho236
       dsimp only at H
       obtain rfl := Option.some.inj H
       exact ⟨_, (.tmp _ rfl .nil), _, rfl, HF.out⟩
      ·
       refine WC.cond_f (vb c262 s89_256) <|
        WC.skip ?_
       obtain rfl := Option.some.inj H
       exact ⟨_, z240.2.2.1, z240.2.2.2, _, HF, hO120, hB244, hO246, hM247, hG, s4_255, s5_255, s7_255, rfl⟩
     have Ho263 := H
     replace H := hz257
     refine WC.region <|
      E rfl (mv (ii z240.1) rfl) <|
      E rfl (mv (ii z121.1) s8_179) <|
      E rfl (e2 bin_neq rfl rfl) <|
      E rfl (mv (.bool (z240.1 != z121.1)) rfl) ?_
     rcases condE H with ⟨c264, H⟩ | ⟨c264, H⟩
     ·
      refine WL.guardNo rfl rfl rfl (vb c264 rfl) <|
       WL.guardNo rfl rfl rfl (vb c264 rfl) <|
       WL.guardNo rfl rfl rfl (vb c264 rfl) <|
       E rfl (ex_pick_t (v := .bool true) (vb c264 rfl) rfl) <|
       E rfl (mv (.bool true) rfl) <|
       WL.guardNo rfl rfl rfl rfl <|
       WL.guardNo rfl rfl rfl rfl <|
       WL.guardNo rfl rfl rfl rfl <|
       WL.guardNo rfl rfl rfl rfl <|
       E rfl (ex_pick_t (v := .bool true) rfl rfl) <|
       WL.nil ?_
      obtain rfl := Option.some.inj H
      have k251_254 := s251.t s254
      replace hB244 := hB244.step k251_254 rfl
      replace hO246 := hO246.step k251_254 rfl rfl
      replace hM247 := hM247.step k251_254 rfl
      replace HF := HF.step k251_254 rfl
      have k243_254 := s243.t k251_254
      replace hO120 := hO120.step k243_254 rfl rfl
      replace hG := hG.step k243_254 rfl
      exact ⟨_, HF, hO120, hB244, hO246, hM247, hG, s4_179, s5_179, s7_179, rfl⟩
     ·
      refine WL.guardYes rfl rfl rfl (vb c264 rfl) <|
       OW.ex rfl (ex_loadN (cs := [ii z240.2.1.f_Code, ii z240.2.1.f_At.f_Line, ii z240.2.1.f_At.f_Col, ii z240.2.1.f_At.f_Off]) rfl U36 rfl sz36 (hB255.cells rfl)) <|
       WL.guardYes rfl rfl rfl (vb c264 rfl) ?_
      have k243_254 := (s243.t s251).t s254
      replace hB136 := hB136.step k243_254 rfl
      refine OW.ex rfl (ex_loadN (cs := [ii z121.2.1.f_Code, ii z121.2.1.f_At.f_Line, ii z121.2.1.f_At.f_Col, ii z121.2.1.f_At.f_Off]) s9_179 U36 rfl sz36 (hB136.cells rfl)) <|
       WL.guardYes rfl rfl rfl (vb c264 rfl) <|
       OW.ex rfl (ex_bin (a := .agg #[ii z240.2.1.f_Code, ii z240.2.1.f_At.f_Line, ii z240.2.1.f_At.f_Col, ii z240.2.1.f_At.f_Off]) (b := .agg #[ii z121.2.1.f_Code, ii z121.2.1.f_At.f_Line, ii z121.2.1.f_At.f_Col, ii z121.2.1.f_At.f_Off]) (v := .bool (!(T_api_Fault.eqb z240.2.1 z121.2.1))) rfl rfl (bin_neq_agg (by kernel_rfl) (EqR.agg U36 (by kernel_rfl) (EqF.cons (by decide) (PartR.one U28 rfl rfl) (PartR.one U28 rfl rfl) (EqR.int U28) (EqF.cons (by decide) (PartR.many U34 rfl sz34) (PartR.many U34 rfl sz34) (EqR.agg U34 (by kernel_rfl) (EqF.cons (by decide) (PartR.one U3 rfl rfl) (PartR.one U3 rfl rfl) (EqR.int U3) (EqF.cons (by decide) (PartR.one U3 rfl rfl) (PartR.one U3 rfl rfl) (EqR.int U3) (EqF.cons (by decide) (PartR.one U3 rfl rfl) (PartR.one U3 rfl rfl) (EqR.int U3) EqF.nil)))) EqF.nil))))) <|
       E rfl (ex_pick_f (v := .bool (!(T_api_Fault.eqb z240.2.1 z121.2.1))) (vb c264 rfl) rfl) <|
       E rfl (mv (.bool (!(T_api_Fault.eqb z240.2.1 z121.2.1))) rfl) ?_
      rcases condE H with ⟨c265, H⟩ | ⟨c265, H⟩
      ·
       refine WL.guardNo rfl rfl rfl (vb c265 rfl) <|
        WL.guardNo rfl rfl rfl (vb c265 rfl) <|
        WL.guardNo rfl rfl rfl (vb c265 rfl) <|
        WL.guardNo rfl rfl rfl (vb c265 rfl) <|
        E rfl (ex_pick_t (v := .bool true) (vb c265 rfl) rfl) <|
        WL.nil ?_
       obtain rfl := Option.some.inj H
       have k251_254 := s251.t s254
       replace hB244 := hB244.step k251_254 rfl
       replace hO246 := hO246.step k251_254 rfl rfl
       replace hM247 := hM247.step k251_254 rfl
       replace HF := HF.step k251_254 rfl
       replace hO120 := hO120.step k243_254 rfl rfl
       replace hG := hG.step k243_254 rfl
       exact ⟨_, HF, hO120, hB244, hO246, hM247, hG, s4_179, s5_179, s7_179, rfl⟩
      ·
       refine WL.guardYes rfl rfl rfl (vb c265 rfl) <|
        OW.ex rfl (mv (pp b105 0) s5_179) <|
        WL.guardYes rfl rfl rfl (vb c265 rfl) ?_
       obtain ⟨z266, hz266, H⟩ := bindE H
       have k251_254 := s251.t s254
       replace hB244 := hB244.step k251_254 rfl
       replace hO246 := hO246.step k251_254 rfl rfl
       replace hM247 := hM247.step k251_254 rfl
       replace HF := HF.step k251_254 rfl
       refine OW.call [pp b105 0] rfl Tryz.func8 (by kernel_rfl) (by kernel_rfl) (map_cons' rfl rfl) (formula_Table_Len.calls _ _ b105 v245 b109 (a0 := z240.2.2.1) hz266 (HF.ten (V := [0]) (L := [40, 41, 42]) rfl) (Bk.vw hB244 rfl) (Own.vw hO246 rfl rfl) (Mp.vw hM247 rfl)) ?_
       rintro _ w267 ⟨o268, rfl, s269⟩
       refine ⟨_, rfl, ?_⟩
       replace s269 := un_stepL (J := []) (L' := []) s269 rfl rfl
       refine WL.guardYes rfl rfl rfl (vb c265 rfl) <|
        OW.ex rfl (mv (ii z160) s10_179) <|
        WL.guardYes rfl rfl rfl (vb c265 rfl) <|
        OW.ex rfl (e2 bin_neq rfl rfl) <|
        E rfl (ex_pick_f (v := .bool (z266 != z160)) (vb c265 rfl) rfl) <|
        WL.nil ?_
       obtain rfl := Option.some.inj H
       replace hB244 := hB244.step s269 rfl
       replace hO246 := hO246.step s269 rfl rfl
       replace hM247 := hM247.step s269 rfl
       replace HF := HF.step s269 rfl
       have k243_269 := k243_254.t s269
       replace hO120 := hO120.step k243_269 rfl rfl
       replace hG := hG.step k243_269 rfl
       exact ⟨_, HF, hO120, hB244, hO246, hM247, hG, s4_179, s5_179, s7_179, rfl⟩
    ·
     refine WC.cond_f (vb c237 rfl) <|
      WC.skip ?_
     obtain rfl := Option.some.inj H
     exact ⟨_, z164.2.2.1, z164.2.2.2, _, HF, hO120, hB168, hO170, hM171, hG, s4_179, s5_179, s7_179, rfl⟩
  have Ho270 := H
  replace H := hz181
  refine WC.region <|
   E rfl (mv (ii z164.1) rfl) <|
   E rfl (mv (ii z121.1) rfl) <|
   E rfl (e2 bin_neq rfl rfl) <|
   E rfl (mv (.bool (z164.1 != z121.1)) rfl) ?_
  rcases condE H with ⟨c271, H⟩ | ⟨c271, H⟩
  ·
   refine WL.guardNo rfl rfl rfl (vb c271 rfl) <|
    WL.guardNo rfl rfl rfl (vb c271 rfl) <|
    WL.guardNo rfl rfl rfl (vb c271 rfl) <|
    E rfl (ex_pick_t (v := .bool true) (vb c271 rfl) rfl) <|
    E rfl (mv (.bool true) rfl) <|
    WL.guardNo rfl rfl rfl rfl <|
    WL.guardNo rfl rfl rfl rfl <|
    WL.guardNo rfl rfl rfl rfl <|
    WL.guardNo rfl rfl rfl rfl <|
    E rfl (ex_pick_t (v := .bool true) rfl rfl) <|
    WL.nil ?_
   obtain rfl := Option.some.inj H
   have k175_178 := s175.t s178
   replace hB168 := hB168.step k175_178 rfl
   replace hO170 := hO170.step k175_178 rfl rfl
   replace hM171 := hM171.step k175_178 rfl
   replace HF := HF.step k175_178 rfl
   have k167_178 := s167.t k175_178
   replace hG := hG.step k167_178 rfl
   have k163_178 := s163.t k167_178
   replace hB136 := hB136.step k163_178 rfl
   have k124_178 := k124_163.t k167_178
   replace hO120 := hO120.step k124_178 rfl rfl
   exact ⟨_, HF, hO120, hB168, hO170, hB136, hM171, hG, rfl, rfl, rfl, rfl, rfl, rfl, rfl, rfl⟩
  ·
   refine WL.guardYes rfl rfl rfl (vb c271 rfl) <|
    OW.ex rfl (ex_loadN (cs := [ii z164.2.1.f_Code, ii z164.2.1.f_At.f_Line, ii z164.2.1.f_At.f_Col, ii z164.2.1.f_At.f_Off]) rfl U36 rfl sz36 (hB179.cells rfl)) <|
    WL.guardYes rfl rfl rfl (vb c271 rfl) ?_
   have k163_178 := ((s163.t s167).t s175).t s178
   replace hB136 := hB136.step k163_178 rfl
   refine OW.ex rfl (ex_loadN (cs := [ii z121.2.1.f_Code, ii z121.2.1.f_At.f_Line, ii z121.2.1.f_At.f_Col, ii z121.2.1.f_At.f_Off]) rfl U36 rfl sz36 (hB136.cells rfl)) <|
    WL.guardYes rfl rfl rfl (vb c271 rfl) <|
    OW.ex rfl (ex_bin (a := .agg #[ii z164.2.1.f_Code, ii z164.2.1.f_At.f_Line, ii z164.2.1.f_At.f_Col, ii z164.2.1.f_At.f_Off]) (b := .agg #[ii z121.2.1.f_Code, ii z121.2.1.f_At.f_Line, ii z121.2.1.f_At.f_Col, ii z121.2.1.f_At.f_Off]) (v := .bool (!(T_api_Fault.eqb z164.2.1 z121.2.1))) rfl rfl (bin_neq_agg (by kernel_rfl) (EqR.agg U36 (by kernel_rfl) (EqF.cons (by decide) (PartR.one U28 rfl rfl) (PartR.one U28 rfl rfl) (EqR.int U28) (EqF.cons (by decide) (PartR.many U34 rfl sz34) (PartR.many U34 rfl sz34) (EqR.agg U34 (by kernel_rfl) (EqF.cons (by decide) (PartR.one U3 rfl rfl) (PartR.one U3 rfl rfl) (EqR.int U3) (EqF.cons (by decide) (PartR.one U3 rfl rfl) (PartR.one U3 rfl rfl) (EqR.int U3) (EqF.cons (by decide) (PartR.one U3 rfl rfl) (PartR.one U3 rfl rfl) (EqR.int U3) EqF.nil)))) EqF.nil))))) <|
    E rfl (ex_pick_f (v := .bool (!(T_api_Fault.eqb z164.2.1 z121.2.1))) (vb c271 rfl) rfl) <|
    E rfl (mv (.bool (!(T_api_Fault.eqb z164.2.1 z121.2.1))) rfl) ?_
   rcases condE H with ⟨c272, H⟩ | ⟨c272, H⟩
   ·
    refine WL.guardNo rfl rfl rfl (vb c272 rfl) <|
     WL.guardNo rfl rfl rfl (vb c272 rfl) <|
     WL.guardNo rfl rfl rfl (vb c272 rfl) <|
     WL.guardNo rfl rfl rfl (vb c272 rfl) <|
     E rfl (ex_pick_t (v := .bool true) (vb c272 rfl) rfl) <|
     WL.nil ?_
    obtain rfl := Option.some.inj H
    have k175_178 := s175.t s178
    replace hB168 := hB168.step k175_178 rfl
    replace hO170 := hO170.step k175_178 rfl rfl
    replace hM171 := hM171.step k175_178 rfl
    replace HF := HF.step k175_178 rfl
    have k167_178 := s167.t k175_178
    replace hG := hG.step k167_178 rfl
    have k124_178 := k124_163.t k167_178
    replace hO120 := hO120.step k124_178 rfl rfl
    exact ⟨_, HF, hO120, hB168, hO170, hB136, hM171, hG, rfl, rfl, rfl, rfl, rfl, rfl, rfl, rfl⟩
   ·
    refine WL.guardYes rfl rfl rfl (vb c272 rfl) <|
     OW.ex rfl (mv (pp b105 0) rfl) <|
     WL.guardYes rfl rfl rfl (vb c272 rfl) ?_
    obtain ⟨z273, hz273, H⟩ := bindE H
    have k175_178 := s175.t s178
    replace hB168 := hB168.step k175_178 rfl
    replace hO170 := hO170.step k175_178 rfl rfl
    replace hM171 := hM171.step k175_178 rfl
    replace HF := HF.step k175_178 rfl
    refine OW.call [pp b105 0] rfl Tryz.func8 (by kernel_rfl) (by kernel_rfl) (map_cons' rfl rfl) (formula_Table_Len.calls _ _ b105 v169 b109 (a0 := z164.2.2.1) hz273 (HF.ten (V := [0]) (L := [40, 41, 42]) rfl) (Bk.vw hB168 rfl) (Own.vw hO170 rfl rfl) (Mp.vw hM171 rfl)) ?_
    rintro _ w274 ⟨o275, rfl, s276⟩
    refine ⟨_, rfl, ?_⟩
    replace s276 := un_stepL (J := []) (L' := []) s276 rfl rfl
    refine WL.guardYes rfl rfl rfl (vb c272 rfl) <|
     OW.ex rfl (mv (ii z160) rfl) <|
     WL.guardYes rfl rfl rfl (vb c272 rfl) <|
     OW.ex rfl (e2 bin_neq rfl rfl) <|
     E rfl (ex_pick_f (v := .bool (z273 != z160)) (vb c272 rfl) rfl) <|
     WL.nil ?_
    obtain rfl := Option.some.inj H
    replace hB136 := hB136.step s276 rfl
    replace hB168 := hB168.step s276 rfl
    replace hO170 := hO170.step s276 rfl rfl
    replace hM171 := hM171.step s276 rfl
    replace HF := HF.step s276 rfl
    have k167_276 := ((s167.t s175).t s178).t s276
    replace hG := hG.step k167_276 rfl
    have k124_276 := k124_163.t k167_276
    replace hO120 := hO120.step k124_276 rfl rfl
    exact ⟨_, HF, hO120, hB168, hO170, hB136, hM171, hG, rfl, rfl, rfl, rfl, rfl, rfl, rfl, rfl⟩
end Go.Proofs.YtpmkkhkphddfeaaGreatDoor.X
