import Derived.Test.YtpmkkhkphddfeaaGreatDoorXAW2
set_option maxRecDepth 20000
set_option linter.unusedVariables false
set_option linter.unusedSimpArgs false
set_option linter.unnecessarySimpa false
namespace Go.Proofs.YtpmkkhkphddfeaaGreatDoor.X
open Go Go.RowKit Go.Proofs.YtpmkkhkphddfeaaGreatDoor.SX
/-! ### dictumlaw04_heads -/
set_option maxRecDepth 100000 in
theorem dictumlaw04_heads.calls (k : Nat) (o0 : Tags) (w0 : World) {r : Bool} (H : dictumlaw04_heads.f k = some r) (hO : ∀ b, b < w0.heap.size → o0 b < 40) (hG : Gl GG o0 w0) :
  Calls Tryz.prog 13 [].toArray w0 fun e_ w_ => ∃ (o_ : Tags), e_ = .returned (one [.bool r]) ∧ Step o0 w0 o_ w_ [] := by
 have HF := Fm.refl hO []
 unfold dictumlaw04_heads.f at H
 refine SX.calls [] Tryz.func13 rfl rfl ?_
 rw [Tryz.ntmps13]
 refine WC.seq <|
  WC.region <|
  E rfl (sg (.bool false) rfl) <|
  WL.nil <|
  WC.seq <|
  WC.region ?_
 obtain ⟨z101, hz101, H⟩ := bindE H
 refine WL.op rfl <|
  OW.call [] rfl Tryz.func21 (by kernel_rfl) (by kernel_rfl) rfl (formula_New.calls _ _ hz101 (HF.ten (V := [0]) (L := []) rfl) ) ?_
 rintro _ w102 ⟨o103, b105, v107, b109, rfl, s104, hB106, hO108, hM110⟩
 refine ⟨_, rfl, ?_⟩
 replace hB106 := Bk.un9 (J := [40, 41, 42]) 0 hB106 rfl s104 rfl rfl
 replace hO108 := Own.un9 (J := [40, 41, 42]) 1 hO108 rfl s104 rfl rfl
 replace hM110 := Mp.un9 (J := [40, 41, 42]) 2 hM110 rfl s104 rfl rfl
 replace s104 := un_stepL (J := [40, 41, 42]) (L' := []) s104 rfl rfl
 refine E rfl (sg (pp b105 0) rfl) <|
  WL.nil <|
  WC.seq <|
  WC.region <|
  E rfl (mv (pp b105 0) rfl) ?_
 obtain ⟨z111, hz111, H⟩ := bindE H
 refine WL.op rfl ?_
 replace hG := hG.step s104 rfl
 replace HF := HF.step s104 rfl
 refine OW.call [pp b105 0, encS ([112, 32, 45, 62, 32, 113, 32, 38, 32, 112] : List UInt8)] rfl Tryz.func12 (by kernel_rfl) (by kernel_rfl) (map_cons' rfl (map_cons' rfl rfl)) (syntax_Parse.calls k _ _ b105 v107 b109 (a0 := z101.1) hz111 (HF.ten (V := [0]) (L := [40, 41, 42]) rfl) (Bk.vw hB106 rfl) (Own.vw hO108 rfl rfl) (Mp.vw hM110 rfl) (Gl.vw hG rfl)) ?_
 rintro _ w112 ⟨o113, v116, rfl, s114, hB115, hO117, hM118⟩
 refine ⟨_, rfl, ?_⟩
 replace hB115 := Bk.unO (J := []) 0 hB115 s114 rfl rfl rfl
 replace hO117 := Own.unO (J := []) 1 hO117 s114 rfl rfl rfl
 replace hM118 := Mp.unO (J := []) 2 hM118 s114 rfl rfl rfl
 replace s114 := un_stepL (J := []) (L' := [40, 41, 42]) s114 rfl rfl
 refine E rfl (mv (.tuple #[ii z111.1, .agg #[ii z111.2.1.f_Code, ii z111.2.1.f_At.f_Line, ii z111.2.1.f_At.f_Col, ii z111.2.1.f_At.f_Off]]) rfl) <|
  E rfl (ex_extract rfl rfl) <|
  E rfl (ex_extract rfl rfl) <|
  WL.op rfl ?_
 replace HF := HF.step s114 rfl
 refine OW.alloc' [ii (0 : Int), ii (0 : Int), ii (0 : Int), ii (0 : Int)] 43 HF rfl zr36 rfl ?_
 intro o120 w121 b119 s122 hB123
 refine E rfl (sg (ii z111.1) rfl) <|
  WL.op rfl <|
  OW.storeW rfl rfl sz36 hB123 rfl (oa rfl) ?_
 intro w124 s125 hB126
 refine WL.nil <|
  WC.seq <|
  WC.region <|
  E rfl (mv (pp b105 0) rfl) ?_
 obtain ⟨z127, hz127, H⟩ := bindE H
 refine WL.op rfl ?_
 have k122_125 := s122.t s125
 replace hB115 := hB115.step k122_125 rfl
 replace hO117 := hO117.step k122_125 rfl rfl
 replace hM118 := hM118.step k122_125 rfl
 replace HF := HF.step k122_125 rfl
 have k114_125 := s114.t k122_125
 replace hG := hG.step k114_125 rfl
 refine OW.call [pp b105 0, encS ([126, 112] : List UInt8)] rfl Tryz.func12 (by kernel_rfl) (by kernel_rfl) (map_cons' rfl (map_cons' rfl rfl)) (syntax_Parse.calls k _ _ b105 v116 b109 (a0 := z111.2.2.1) hz127 (HF.ten (V := [0]) (L := [40, 41, 42]) rfl) (Bk.vw hB115 rfl) (Own.vw hO117 rfl rfl) (Mp.vw hM118 rfl) (Gl.vw hG rfl)) ?_
 rintro _ w128 ⟨o129, v132, rfl, s130, hB131, hO133, hM134⟩
 refine ⟨_, rfl, ?_⟩
 replace hB131 := Bk.unO (J := []) 0 hB131 s130 rfl rfl rfl
 replace hO133 := Own.unO (J := []) 1 hO133 s130 rfl rfl rfl
 replace hM134 := Mp.unO (J := []) 2 hM134 s130 rfl rfl rfl
 replace s130 := un_stepL (J := []) (L' := [40, 41, 42]) s130 rfl rfl
 refine E rfl (mv (.tuple #[ii z127.1, .agg #[ii z127.2.1.f_Code, ii z127.2.1.f_At.f_Line, ii z127.2.1.f_At.f_Col, ii z127.2.1.f_At.f_Off]]) rfl) <|
  E rfl (ex_extract rfl rfl) <|
  E rfl (ex_extract rfl rfl) <|
  WL.op rfl ?_
 replace HF := HF.step s130 rfl
 refine OW.alloc' [ii (0 : Int), ii (0 : Int), ii (0 : Int), ii (0 : Int)] 44 HF rfl zr36 rfl ?_
 intro o136 w137 b135 s138 hB139
 refine E rfl (sg (ii z127.1) rfl) <|
  WL.op rfl <|
  OW.storeW rfl rfl sz36 hB139 rfl (oa rfl) ?_
 intro w140 s141 hB142
 refine WL.nil <|
  WC.seq <|
  WC.region <|
  E rfl (mv (pp b105 0) rfl) ?_
 obtain ⟨z143, hz143, H⟩ := bindE H
 refine WL.op rfl ?_
 have k138_141 := s138.t s141
 replace hB131 := hB131.step k138_141 rfl
 replace hO133 := hO133.step k138_141 rfl rfl
 replace hM134 := hM134.step k138_141 rfl
 replace HF := HF.step k138_141 rfl
 have k130_141 := s130.t k138_141
 replace hG := hG.step k130_141 rfl
 refine OW.call [pp b105 0, encS ([112, 32, 60, 45, 62, 32, 113] : List UInt8)] rfl Tryz.func12 (by kernel_rfl) (by kernel_rfl) (map_cons' rfl (map_cons' rfl rfl)) (syntax_Parse.calls k _ _ b105 v132 b109 (a0 := z127.2.2.1) hz143 (HF.ten (V := [0]) (L := [40, 41, 42]) rfl) (Bk.vw hB131 rfl) (Own.vw hO133 rfl rfl) (Mp.vw hM134 rfl) (Gl.vw hG rfl)) ?_
 rintro _ w144 ⟨o145, v148, rfl, s146, hB147, hO149, hM150⟩
 refine ⟨_, rfl, ?_⟩
 replace hB147 := Bk.unO (J := []) 0 hB147 s146 rfl rfl rfl
 replace hO149 := Own.unO (J := []) 1 hO149 s146 rfl rfl rfl
 replace hM150 := Mp.unO (J := []) 2 hM150 s146 rfl rfl rfl
 replace s146 := un_stepL (J := []) (L' := [40, 41, 42]) s146 rfl rfl
 refine E rfl (mv (.tuple #[ii z143.1, .agg #[ii z143.2.1.f_Code, ii z143.2.1.f_At.f_Line, ii z143.2.1.f_At.f_Col, ii z143.2.1.f_At.f_Off]]) rfl) <|
  E rfl (ex_extract rfl rfl) <|
  E rfl (ex_extract rfl rfl) <|
  WL.op rfl ?_
 replace HF := HF.step s146 rfl
 refine OW.alloc' [ii (0 : Int), ii (0 : Int), ii (0 : Int), ii (0 : Int)] 45 HF rfl zr36 rfl ?_
 intro o152 w153 b151 s154 hB155
 refine E rfl (sg (ii z143.1) rfl) <|
  WL.op rfl <|
  OW.storeW rfl rfl sz36 hB155 rfl (oa rfl) ?_
 intro w156 s157 hB158
 refine WL.nil <|
  WC.seq <|
  WC.region <|
  E rfl (mv (pp b105 0) rfl) <|
  E rfl (mv (ii z143.1) rfl) ?_
 obtain ⟨z159, hz159, H⟩ := bindE H
 refine WL.op rfl ?_
 have k154_157 := s154.t s157
 replace hB147 := hB147.step k154_157 rfl
 replace hO149 := hO149.step k154_157 rfl rfl
 replace hM150 := hM150.step k154_157 rfl
 replace HF := HF.step k154_157 rfl
 refine OW.call [pp b105 0, ii z143.1] rfl Tryz.func9 (by kernel_rfl) (by kernel_rfl) (map_cons' rfl (map_cons' rfl rfl)) (syntax_Print.calls k _ _ b105 v148 b109 (a0 := z143.2.2.1) hz159 (HF.ten (V := [0]) (L := [40, 41, 42]) rfl) (Bk.vw hB147 rfl) (Own.vw hO149 rfl rfl) (Mp.vw hM150 rfl)) ?_
 rintro _ w160 ⟨o161, rfl, s162⟩
 refine ⟨_, rfl, ?_⟩
 replace s162 := un_stepL (J := []) (L' := []) s162 rfl rfl
 refine E rfl (mv (.tuple #[encS z159.1, ii z159.2]) rfl) <|
  E rfl (ex_extract rfl rfl) <|
  E rfl (ex_extract rfl rfl) <|
  E rfl (sg (encS z159.1) rfl) <|
  E rfl (sg (ii z159.2) rfl) <|
  WL.nil <|
  WC.seq <|
  WC.region <|
  E rfl (mv (pp b105 0) rfl) ?_
 obtain ⟨z163, hz163, H⟩ := bindE H
 refine WL.op rfl ?_
 replace hB147 := hB147.step s162 rfl
 replace hO149 := hO149.step s162 rfl rfl
 replace hM150 := hM150.step s162 rfl
 replace HF := HF.step s162 rfl
 have k146_162 := ((s146.t s154).t s157).t s162
 replace hG := hG.step k146_162 rfl
 refine OW.call [pp b105 0, encS ([112, 32, 38, 32, 38, 32, 36] : List UInt8)] rfl Tryz.func12 (by kernel_rfl) (by kernel_rfl) (map_cons' rfl (map_cons' rfl rfl)) (syntax_Parse.calls k _ _ b105 v148 b109 (a0 := z143.2.2.1) hz163 (HF.ten (V := [0]) (L := [40, 41, 42]) rfl) (Bk.vw hB147 rfl) (Own.vw hO149 rfl rfl) (Mp.vw hM150 rfl) (Gl.vw hG rfl)) ?_
 rintro _ w164 ⟨o165, v168, rfl, s166, hB167, hO169, hM170⟩
 refine ⟨_, rfl, ?_⟩
 replace hB167 := Bk.unO (J := []) 0 hB167 s166 rfl rfl rfl
 replace hO169 := Own.unO (J := []) 1 hO169 s166 rfl rfl rfl
 replace hM170 := Mp.unO (J := []) 2 hM170 s166 rfl rfl rfl
 replace s166 := un_stepL (J := []) (L' := [40, 41, 42]) s166 rfl rfl
 refine E rfl (mv (.tuple #[ii z163.1, .agg #[ii z163.2.1.f_Code, ii z163.2.1.f_At.f_Line, ii z163.2.1.f_At.f_Col, ii z163.2.1.f_At.f_Off]]) rfl) <|
  E rfl (ex_extract rfl rfl) <|
  E rfl (ex_extract rfl rfl) <|
  WL.op rfl ?_
 replace HF := HF.step s166 rfl
 refine OW.alloc' [ii (0 : Int), ii (0 : Int), ii (0 : Int), ii (0 : Int)] 46 HF rfl zr36 rfl ?_
 intro o172 w173 b171 s174 hB175
 refine E rfl (sg (ii z163.1) rfl) <|
  WL.op rfl <|
  OW.storeW rfl rfl sz36 hB175 rfl (oa rfl) ?_
 intro w176 s177 hB178
 refine WL.nil <|
  WC.seq <|
  WC.region <|
  E rfl (mv (pp b105 0) rfl) <|
  E rfl (ex_build (cs := [ii 1, encS ([112] : List UInt8), ii (0 : Int), ii (0 : Int), ii (0 : Int), ii (0 : Int)]) [(0, 1), (1, 1), (2, 1), (3, 3)] [(0, ii 1), (1, encS ([112] : List UInt8))] [ii 0, .string ⟨#[]⟩, ii 0, ii 0, ii 0, ii 0] U76 zr76 rfl (by kernel_rfl) (evs_cons rfl (evs_cons rfl rfl)) rfl) <|
  E rfl (ex_build (cs := [ii 3, encS ([44] : List UInt8), ii (0 : Int), ii (0 : Int), ii (0 : Int), ii (0 : Int)]) [(0, 1), (1, 1), (2, 1), (3, 3)] [(0, ii 3), (1, encS ([44] : List UInt8))] [ii 0, .string ⟨#[]⟩, ii 0, ii 0, ii 0, ii 0] U76 zr76 rfl (by kernel_rfl) (evs_cons rfl (evs_cons rfl rfl)) rfl) <|
  WL.op rfl ?_
 have k174_177 := s174.t s177
 replace HF := HF.step k174_177 rfl
 refine OW.row (r := T_api_Token.rep) (xs := [(⟨1, ([112] : List UInt8), (0 : Int), (⟨(0 : Int), (0 : Int), (0 : Int)⟩ : T_api_Spot)⟩ : T_api_Token), (⟨3, ([44] : List UInt8), (0 : Int), (⟨(0 : Int), (0 : Int), (0 : Int)⟩ : T_api_Spot)⟩ : T_api_Token)]) [(0, .agg #[ii 1, encS ([112] : List UInt8), ii (0 : Int), ii (0 : Int), ii (0 : Int), ii (0 : Int)]), (1, .agg #[ii 3, encS ([44] : List UInt8), ii (0 : Int), ii (0 : Int), ii (0 : Int), ii (0 : Int)])] [[ii 1, encS ([112] : List UInt8), ii (0 : Int), ii (0 : Int), ii (0 : Int), ii (0 : Int)], [ii 3, encS ([44] : List UInt8), ii (0 : Int), ii (0 : Int), ii (0 : Int), ii (0 : Int)]] 47 HF rfl U71 sz76 zr76 rfl (evs_cons rfl (evs_cons rfl rfl)) rfl rfl ⟨(T_api_Token.mk' (⟨1, ([112] : List UInt8), (0 : Int), (⟨(0 : Int), (0 : Int), (0 : Int)⟩ : T_api_Spot)⟩ : T_api_Token) ), (T_api_Token.mk' (⟨3, ([44] : List UInt8), (0 : Int), (⟨(0 : Int), (0 : Int), (0 : Int)⟩ : T_api_Spot)⟩ : T_api_Token) ), trivial⟩ rfl rfl rfl rfl ?_
 intro o179 w180 v182 s181 hO183
 obtain ⟨A184, c185, q186e, q186l, q186⟩ := Own.vwRow (V := [0, 47]) (L := [40, 41, 42]) hO183 rfl rfl
 obtain ⟨z187, hz187, H⟩ := bindE H
 have q186e' := q186e
 refine WL.op rfl ?_
 replace HF := HF.step s181 rfl
 have k174_181 := k174_177.t s181
 replace hB167 := hB167.step k174_181 rfl
 replace hO169 := hO169.step k174_181 rfl rfl
 replace hM170 := hM170.step k174_181 rfl
 refine OW.call [pp b105 0, v182] rfl Tryz.func35 (by kernel_rfl) (by kernel_rfl) (map_cons' rfl (map_cons' rfl rfl)) (by simp only [q186e]; exact (syntax_Take.calls k _ _ b105 v168 A184 c185 b109 (a0 := z163.2.2.1) hz187 (HF.ten (V := [0, 47]) (L := [40, 41, 42]) rfl) (Bk.vw hB167 rfl) (Own.vw hO169 rfl rfl) q186 q186l (Mp.vw hM170 rfl))) ?_
 rintro _ w188 ⟨o189, v192, rfl, s190, hB191, hO193, hM194⟩
 refine ⟨_, rfl, ?_⟩
 replace hB191 := Bk.unO (J := []) 0 hB191 s190 rfl rfl rfl
 replace hO193 := Own.unOf (J := []) 1 (fun h => h) hO193 s190 rfl rfl rfl
 replace hM194 := Mp.unO (J := []) 2 hM194 s190 rfl rfl rfl
 replace s190 := un_stepL (J := []) (L' := [40, 41, 42]) s190 rfl rfl
 refine E rfl (mv (.tuple #[ii z187.1, ii z187.2.1, .agg #[ii z187.2.2.1.f_Code, ii z187.2.2.1.f_At.f_Line, ii z187.2.2.1.f_At.f_Col, ii z187.2.2.1.f_At.f_Off]]) rfl) <|
  E rfl (ex_extract rfl rfl) <|
  E rfl (ex_extract rfl rfl) <|
  E rfl (ex_extract rfl rfl) <|
  WL.op rfl ?_
 replace HF := HF.step s190 rfl
 refine OW.alloc' [ii (0 : Int), ii (0 : Int), ii (0 : Int), ii (0 : Int)] 48 HF rfl zr36 rfl ?_
 intro o196 w197 b195 s198 hB199
 refine E rfl (sg (ii z187.1) rfl) <|
  E rfl (sg (ii z187.2.1) rfl) <|
  WL.op rfl <|
  OW.storeW rfl rfl sz36 hB199 rfl (oa rfl) ?_
 intro w200 s201 hB202
 refine WL.nil <|
  WC.seq <|
  WC.region <|
  E rfl (mv (ii z111.1) rfl) <|
  E rfl (e2 bin_eql rfl rfl) <|
  E rfl (mv (.bool (z111.1 == 3)) rfl) ?_
 rcases condE H with ⟨c203, H⟩ | ⟨c203, H⟩
 ·
  refine WL.guardYes rfl rfl rfl (vb c203 rfl) <|
   OW.ex rfl (mv (ii z127.1) rfl) <|
   WL.guardYes rfl rfl rfl (vb c203 rfl) <|
   OW.ex rfl (e2 bin_eql rfl rfl) <|
   E rfl (ex_pick_t (v := .bool (z127.1 == 5)) (vb c203 rfl) rfl) <|
   E rfl (mv (.bool (z127.1 == 5)) rfl) ?_
  rcases condE H with ⟨c204, H⟩ | ⟨c204, H⟩
  ·
   refine WL.guardYes rfl rfl rfl (vb c204 rfl) <|
    OW.ex rfl (mv (ii z143.1) rfl) <|
    WL.guardYes rfl rfl rfl (vb c204 rfl) <|
    OW.ex rfl (e2 bin_eql rfl rfl) <|
    E rfl (ex_pick_t (v := .bool (z143.1 == 8)) (vb c204 rfl) rfl) <|
    E rfl (mv (.bool (z143.1 == 8)) rfl) ?_
   rcases condE H with ⟨c205, H⟩ | ⟨c205, H⟩
   ·
    refine WL.guardYes rfl rfl rfl (vb c205 rfl) ?_
    have k130_201 := ((((((((((k130_141.t s146).t s154).t s157).t s162).t s166).t s174).t s177).t s181).t s190).t s198).t s201
    replace hB126 := hB126.step k130_201 rfl
    refine OW.ex rfl (ex_loadN (cs := [ii z111.2.1.f_Code, ii z111.2.1.f_At.f_Line, ii z111.2.1.f_At.f_Col, ii z111.2.1.f_At.f_Off]) rfl U36 rfl sz36 (hB126.cells rfl)) <|
     WL.guardYes rfl rfl rfl (vb c205 rfl) <|
     OW.ex rfl (ex_build (cs := [ii (0 : Int), ii (0 : Int), ii (0 : Int), ii (0 : Int)]) [(0, 1), (1, 3)] [] [ii 0, ii 0, ii 0, ii 0] U36 zr36 rfl (by kernel_rfl) rfl rfl) <|
     WL.guardYes rfl rfl rfl (vb c205 rfl) <|
     OW.ex rfl (ex_bin (a := .agg #[ii z111.2.1.f_Code, ii z111.2.1.f_At.f_Line, ii z111.2.1.f_At.f_Col, ii z111.2.1.f_At.f_Off]) (b := .agg #[ii (0 : Int), ii (0 : Int), ii (0 : Int), ii (0 : Int)]) (v := .bool (T_api_Fault.eqb z111.2.1 (⟨(0 : Int), (⟨(0 : Int), (0 : Int), (0 : Int)⟩ : T_api_Spot)⟩ : T_api_Fault))) rfl rfl (bin_eql_agg (by kernel_rfl) (EqR.agg U36 (by kernel_rfl) (EqF.cons (by decide) (PartR.one U28 rfl rfl) (PartR.one U28 rfl rfl) (EqR.int U28) (EqF.cons (by decide) (PartR.many U34 rfl sz34) (PartR.many U34 rfl sz34) (EqR.agg U34 (by kernel_rfl) (EqF.cons (by decide) (PartR.one U3 rfl rfl) (PartR.one U3 rfl rfl) (EqR.int U3) (EqF.cons (by decide) (PartR.one U3 rfl rfl) (PartR.one U3 rfl rfl) (EqR.int U3) (EqF.cons (by decide) (PartR.one U3 rfl rfl) (PartR.one U3 rfl rfl) (EqR.int U3) EqF.nil)))) EqF.nil))))) <|
     E rfl (ex_pick_t (v := .bool (T_api_Fault.eqb z111.2.1 (⟨(0 : Int), (⟨(0 : Int), (0 : Int), (0 : Int)⟩ : T_api_Spot)⟩ : T_api_Fault))) (vb c205 rfl) rfl) <|
     E rfl (mv (.bool (T_api_Fault.eqb z111.2.1 (⟨(0 : Int), (⟨(0 : Int), (0 : Int), (0 : Int)⟩ : T_api_Spot)⟩ : T_api_Fault))) rfl) ?_
    rcases condE H with ⟨c206, H⟩ | ⟨c206, H⟩
    ·
     refine WL.guardYes rfl rfl rfl (vb c206 rfl) ?_
     have k146_201 := ((((((k146_162.t s166).t s174).t s177).t s181).t s190).t s198).t s201
     replace hB142 := hB142.step k146_201 rfl
     refine OW.ex rfl (ex_loadN (cs := [ii z127.2.1.f_Code, ii z127.2.1.f_At.f_Line, ii z127.2.1.f_At.f_Col, ii z127.2.1.f_At.f_Off]) rfl U36 rfl sz36 (hB142.cells rfl)) <|
      WL.guardYes rfl rfl rfl (vb c206 rfl) <|
      OW.ex rfl (ex_loadN (cs := [ii z111.2.1.f_Code, ii z111.2.1.f_At.f_Line, ii z111.2.1.f_At.f_Col, ii z111.2.1.f_At.f_Off]) rfl U36 rfl sz36 (hB126.cells rfl)) <|
      WL.guardYes rfl rfl rfl (vb c206 rfl) <|
      OW.ex rfl (ex_bin (a := .agg #[ii z127.2.1.f_Code, ii z127.2.1.f_At.f_Line, ii z127.2.1.f_At.f_Col, ii z127.2.1.f_At.f_Off]) (b := .agg #[ii z111.2.1.f_Code, ii z111.2.1.f_At.f_Line, ii z111.2.1.f_At.f_Col, ii z111.2.1.f_At.f_Off]) (v := .bool (T_api_Fault.eqb z127.2.1 z111.2.1)) rfl rfl (bin_eql_agg (by kernel_rfl) (EqR.agg U36 (by kernel_rfl) (EqF.cons (by decide) (PartR.one U28 rfl rfl) (PartR.one U28 rfl rfl) (EqR.int U28) (EqF.cons (by decide) (PartR.many U34 rfl sz34) (PartR.many U34 rfl sz34) (EqR.agg U34 (by kernel_rfl) (EqF.cons (by decide) (PartR.one U3 rfl rfl) (PartR.one U3 rfl rfl) (EqR.int U3) (EqF.cons (by decide) (PartR.one U3 rfl rfl) (PartR.one U3 rfl rfl) (EqR.int U3) (EqF.cons (by decide) (PartR.one U3 rfl rfl) (PartR.one U3 rfl rfl) (EqR.int U3) EqF.nil)))) EqF.nil))))) <|
      E rfl (ex_pick_t (v := .bool (T_api_Fault.eqb z127.2.1 z111.2.1)) (vb c206 rfl) rfl) <|
      E rfl (mv (.bool (T_api_Fault.eqb z127.2.1 z111.2.1)) rfl) ?_
     rcases condE H with ⟨c207, H⟩ | ⟨c207, H⟩
     ·
      refine WL.guardYes rfl rfl rfl (vb c207 rfl) ?_
      have k162_201 := ((((((s162.t s166).t s174).t s177).t s181).t s190).t s198).t s201
      replace hB158 := hB158.step k162_201 rfl
      refine OW.ex rfl (ex_loadN (cs := [ii z143.2.1.f_Code, ii z143.2.1.f_At.f_Line, ii z143.2.1.f_At.f_Col, ii z143.2.1.f_At.f_Off]) rfl U36 rfl sz36 (hB158.cells rfl)) <|
       WL.guardYes rfl rfl rfl (vb c207 rfl) <|
       OW.ex rfl (ex_loadN (cs := [ii z111.2.1.f_Code, ii z111.2.1.f_At.f_Line, ii z111.2.1.f_At.f_Col, ii z111.2.1.f_At.f_Off]) rfl U36 rfl sz36 (hB126.cells rfl)) <|
       WL.guardYes rfl rfl rfl (vb c207 rfl) <|
       OW.ex rfl (ex_bin (a := .agg #[ii z143.2.1.f_Code, ii z143.2.1.f_At.f_Line, ii z143.2.1.f_At.f_Col, ii z143.2.1.f_At.f_Off]) (b := .agg #[ii z111.2.1.f_Code, ii z111.2.1.f_At.f_Line, ii z111.2.1.f_At.f_Col, ii z111.2.1.f_At.f_Off]) (v := .bool (T_api_Fault.eqb z143.2.1 z111.2.1)) rfl rfl (bin_eql_agg (by kernel_rfl) (EqR.agg U36 (by kernel_rfl) (EqF.cons (by decide) (PartR.one U28 rfl rfl) (PartR.one U28 rfl rfl) (EqR.int U28) (EqF.cons (by decide) (PartR.many U34 rfl sz34) (PartR.many U34 rfl sz34) (EqR.agg U34 (by kernel_rfl) (EqF.cons (by decide) (PartR.one U3 rfl rfl) (PartR.one U3 rfl rfl) (EqR.int U3) (EqF.cons (by decide) (PartR.one U3 rfl rfl) (PartR.one U3 rfl rfl) (EqR.int U3) (EqF.cons (by decide) (PartR.one U3 rfl rfl) (PartR.one U3 rfl rfl) (EqR.int U3) EqF.nil)))) EqF.nil))))) <|
       E rfl (ex_pick_t (v := .bool (T_api_Fault.eqb z143.2.1 z111.2.1)) (vb c207 rfl) rfl) <|
       E rfl (mv (.bool (T_api_Fault.eqb z143.2.1 z111.2.1)) rfl) ?_
      rcases condE H with ⟨c208, H⟩ | ⟨c208, H⟩
      ·
       refine WL.guardYes rfl rfl rfl (vb c208 rfl) <|
        OW.ex rfl (mv (encS z159.1) rfl) <|
        WL.guardYes rfl rfl rfl (vb c208 rfl) <|
        OW.ex rfl (e2 bin_eql_str rfl rfl) <|
        E rfl (ex_pick_t (v := .bool (z159.1 == ([40, 112, 32, 45, 62, 32, 113, 41, 32, 38, 32, 40, 113, 32, 45, 62, 32, 112, 41] : List UInt8))) (vb c208 rfl) rfl) <|
        E rfl (mv (.bool (z159.1 == ([40, 112, 32, 45, 62, 32, 113, 41, 32, 38, 32, 40, 113, 32, 45, 62, 32, 112, 41] : List UInt8))) rfl) ?_
       rcases condE H with ⟨c209, H⟩ | ⟨c209, H⟩
       ·
        refine WL.guardYes rfl rfl rfl (vb c209 rfl) <|
         OW.ex rfl (mv (ii z159.2) rfl) <|
         WL.guardYes rfl rfl rfl (vb c209 rfl) ?_
        obtain ⟨z210, hz210, H⟩ := bindE H
        have k198_201 := s198.t s201
        replace HF := HF.step k198_201 rfl
        refine OW.call [ii z159.2] rfl Tryz.func10 (by kernel_rfl) (by kernel_rfl) (map_cons' rfl rfl) (dictumlaw04_num.calls _ _ hz210 (HF.ten (V := [0]) (L := []) rfl) ) ?_
        rintro _ w211 ⟨o212, rfl, s213⟩
        refine ⟨_, rfl, ?_⟩
        replace s213 := un_stepL (J := []) (L' := []) s213 rfl rfl
        refine WL.guardYes rfl rfl rfl (vb c209 rfl) <|
         OW.ex rfl (e2 bin_eql rfl rfl) <|
         E rfl (ex_pick_t (v := .bool (z210 == 0)) (vb c209 rfl) rfl) <|
         E rfl (mv (.bool (z210 == 0)) rfl) ?_
        rcases condE H with ⟨c214, H⟩ | ⟨c214, H⟩
        ·
         refine WL.guardYes rfl rfl rfl (vb c214 rfl) ?_
         have k181_213 := (((s181.t s190).t s198).t s201).t s213
         replace hB178 := hB178.step k181_213 rfl
         refine OW.ex rfl (ex_loadN (cs := [ii z163.2.1.f_Code, ii z163.2.1.f_At.f_Line, ii z163.2.1.f_At.f_Col, ii z163.2.1.f_At.f_Off]) rfl U36 rfl sz36 (hB178.cells rfl)) <|
          WL.guardYes rfl rfl rfl (vb c214 rfl) <|
          OW.ex rfl (ex_build (cs := [ii 1, ii 5, ii 4]) [(0, 1), (1, 1), (2, 1)] [(0, ii 1), (1, ii 5), (2, ii 4)] [ii 0, ii 0, ii 0] U34 zr34 rfl (by kernel_rfl) (evs_cons rfl (evs_cons rfl (evs_cons rfl rfl))) rfl) <|
          WL.guardYes rfl rfl rfl (vb c214 rfl) <|
          OW.ex rfl (ex_build (cs := [ii 41, ii 1, ii 5, ii 4]) [(0, 1), (1, 3)] [(0, ii 41), (1, .agg #[ii 1, ii 5, ii 4])] [ii 0, ii 0, ii 0, ii 0] U36 zr36 rfl (by kernel_rfl) (evs_cons rfl (evs_cons rfl rfl)) rfl) <|
          WL.guardYes rfl rfl rfl (vb c214 rfl) <|
          OW.ex rfl (ex_bin (a := .agg #[ii z163.2.1.f_Code, ii z163.2.1.f_At.f_Line, ii z163.2.1.f_At.f_Col, ii z163.2.1.f_At.f_Off]) (b := .agg #[ii 41, ii 1, ii 5, ii 4]) (v := .bool (T_api_Fault.eqb z163.2.1 (⟨41, (⟨1, 5, 4⟩ : T_api_Spot)⟩ : T_api_Fault))) rfl rfl (bin_eql_agg (by kernel_rfl) (EqR.agg U36 (by kernel_rfl) (EqF.cons (by decide) (PartR.one U28 rfl rfl) (PartR.one U28 rfl rfl) (EqR.int U28) (EqF.cons (by decide) (PartR.many U34 rfl sz34) (PartR.many U34 rfl sz34) (EqR.agg U34 (by kernel_rfl) (EqF.cons (by decide) (PartR.one U3 rfl rfl) (PartR.one U3 rfl rfl) (EqR.int U3) (EqF.cons (by decide) (PartR.one U3 rfl rfl) (PartR.one U3 rfl rfl) (EqR.int U3) (EqF.cons (by decide) (PartR.one U3 rfl rfl) (PartR.one U3 rfl rfl) (EqR.int U3) EqF.nil)))) EqF.nil))))) <|
          E rfl (ex_pick_t (v := .bool (T_api_Fault.eqb z163.2.1 (⟨41, (⟨1, 5, 4⟩ : T_api_Spot)⟩ : T_api_Fault))) (vb c214 rfl) rfl) <|
          E rfl (mv (.bool (T_api_Fault.eqb z163.2.1 (⟨41, (⟨1, 5, 4⟩ : T_api_Spot)⟩ : T_api_Fault))) rfl) ?_
         rcases condE H with ⟨c215, H⟩ | ⟨c215, H⟩
         ·
          refine WL.guardYes rfl rfl rfl (vb c215 rfl) <|
           OW.ex rfl (mv (ii z187.1) rfl) <|
           WL.guardYes rfl rfl rfl (vb c215 rfl) <|
           OW.ex rfl (e2 bin_eql rfl rfl) <|
           E rfl (ex_pick_t (v := .bool (z187.1 == 0)) (vb c215 rfl) rfl) <|
           E rfl (mv (.bool (z187.1 == 0)) rfl) ?_
          rcases condE H with ⟨c216, H⟩ | ⟨c216, H⟩
          ·
           refine WL.guardYes rfl rfl rfl (vb c216 rfl) <|
            OW.ex rfl (mv (ii z187.2.1) rfl) <|
            WL.guardYes rfl rfl rfl (vb c216 rfl) <|
            OW.ex rfl (e2 bin_eql rfl rfl) <|
            E rfl (ex_pick_t (v := .bool (z187.2.1 == 1)) (vb c216 rfl) rfl) <|
            E rfl (mv (.bool (z187.2.1 == 1)) rfl) ?_
           rcases condE H with ⟨c217, H⟩ | ⟨c217, H⟩
           ·
            refine WL.guardYes rfl rfl rfl (vb c217 rfl) ?_
            replace hB202 := hB202.step s213 rfl
            refine OW.ex rfl (ex_loadN (cs := [ii z187.2.2.1.f_Code, ii z187.2.2.1.f_At.f_Line, ii z187.2.2.1.f_At.f_Col, ii z187.2.2.1.f_At.f_Off]) rfl U36 rfl sz36 (hB202.cells rfl)) <|
             WL.guardYes rfl rfl rfl (vb c217 rfl) ?_
            replace hB126 := hB126.step s213 rfl
            refine OW.ex rfl (ex_loadN (cs := [ii z111.2.1.f_Code, ii z111.2.1.f_At.f_Line, ii z111.2.1.f_At.f_Col, ii z111.2.1.f_At.f_Off]) rfl U36 rfl sz36 (hB126.cells rfl)) <|
             WL.guardYes rfl rfl rfl (vb c217 rfl) <|
             OW.ex rfl (ex_bin (a := .agg #[ii z187.2.2.1.f_Code, ii z187.2.2.1.f_At.f_Line, ii z187.2.2.1.f_At.f_Col, ii z187.2.2.1.f_At.f_Off]) (b := .agg #[ii z111.2.1.f_Code, ii z111.2.1.f_At.f_Line, ii z111.2.1.f_At.f_Col, ii z111.2.1.f_At.f_Off]) (v := .bool (T_api_Fault.eqb z187.2.2.1 z111.2.1)) rfl rfl (bin_eql_agg (by kernel_rfl) (EqR.agg U36 (by kernel_rfl) (EqF.cons (by decide) (PartR.one U28 rfl rfl) (PartR.one U28 rfl rfl) (EqR.int U28) (EqF.cons (by decide) (PartR.many U34 rfl sz34) (PartR.many U34 rfl sz34) (EqR.agg U34 (by kernel_rfl) (EqF.cons (by decide) (PartR.one U3 rfl rfl) (PartR.one U3 rfl rfl) (EqR.int U3) (EqF.cons (by decide) (PartR.one U3 rfl rfl) (PartR.one U3 rfl rfl) (EqR.int U3) (EqF.cons (by decide) (PartR.one U3 rfl rfl) (PartR.one U3 rfl rfl) (EqR.int U3) EqF.nil)))) EqF.nil))))) <|
             E rfl (ex_pick_t (v := .bool (T_api_Fault.eqb z187.2.2.1 z111.2.1)) (vb c217 rfl) rfl) <|
             E rfl (mv (.bool (T_api_Fault.eqb z187.2.2.1 z111.2.1)) rfl) ?_
            rcases condE H with ⟨c218, H⟩ | ⟨c218, H⟩
            ·
             refine WL.guardYes rfl rfl rfl (vb c218 rfl) <|
              OW.ex rfl (mv (pp b105 0) rfl) <|
              WL.guardYes rfl rfl rfl (vb c218 rfl) ?_
             obtain ⟨z219, hz219, H⟩ := bindE H
             replace HF := HF.step s213 rfl
             have k198_213 := k198_201.t s213
             replace hB191 := hB191.step k198_213 rfl
             replace hO193 := hO193.step k198_213 rfl rfl
             replace hM194 := hM194.step k198_213 rfl
             refine OW.call [pp b105 0] rfl Tryz.func8 (by kernel_rfl) (by kernel_rfl) (map_cons' rfl rfl) (formula_Table_Len.calls _ _ b105 v192 b109 (a0 := z187.2.2.2.1) hz219 (HF.ten (V := [0]) (L := [40, 41, 42]) rfl) (Bk.vw hB191 rfl) (Own.vw hO193 rfl rfl) (Mp.vw hM194 rfl)) ?_
             rintro _ w220 ⟨o221, rfl, s222⟩
             refine ⟨_, rfl, ?_⟩
             replace s222 := un_stepL (J := []) (L' := []) s222 rfl rfl
             refine WL.guardYes rfl rfl rfl (vb c218 rfl) <|
              OW.ex rfl (e2 bin_eql rfl rfl) <|
              E rfl (ex_pick_t (v := .bool (z219 == 9)) (vb c218 rfl) rfl) <|
              E rfl (mv (.bool (z219 == 9)) rfl) ?_
             rcases condE H with ⟨c223, H⟩ | ⟨c223, H⟩
             ·
              refine WL.guardYes rfl rfl rfl (vb c223 rfl) ?_
              obtain ⟨z224, hz224, H⟩ := bindE H
              replace HF := HF.step s222 rfl
              have k166_222 := (((((((s166.t s174).t s177).t s181).t s190).t s198).t s201).t s213).t s222
              replace hG := hG.step k166_222 rfl
              refine OW.call [encS ([112, 32, 38, 32, 126, 113, 32, 36, 32, 114] : List UInt8)] rfl Tryz.func11 (by kernel_rfl) (by kernel_rfl) (map_cons' rfl rfl) (syntax_Count.calls k _ _ hz224 (HF.ten (V := [0]) (L := []) rfl) (Gl.vw hG rfl)) ?_
              rintro _ w225 ⟨o226, rfl, s227⟩
              refine ⟨_, rfl, ?_⟩
              replace s227 := un_stepL (J := []) (L' := []) s227 rfl rfl
              refine WL.guardYes rfl rfl rfl (vb c223 rfl) <|
               OW.ex rfl (e2 bin_eql rfl rfl) <|
               E rfl (ex_pick_t (v := .bool (z224 == 4)) (vb c223 rfl) rfl) <|
               E rfl (sg (.bool (z224 == 4)) rfl) <|
               WL.nil <|
               WC.ret ?_
              obtain rfl := Option.some.inj H
              replace HF := HF.step s227 rfl
              exact ⟨_, (.tmp _ rfl .nil), _, rfl, HF.out⟩
             ·
              refine WL.guardNo rfl rfl rfl (vb c223 rfl) <|
               WL.guardNo rfl rfl rfl (vb c223 rfl) <|
               E rfl (ex_pick_f (v := .bool false) (vb c223 rfl) rfl) <|
               E rfl (sg (.bool false) rfl) <|
               WL.nil <|
               WC.ret ?_
              obtain rfl := Option.some.inj H
              replace HF := HF.step s222 rfl
              exact ⟨_, (.tmp _ rfl .nil), _, rfl, HF.out⟩
            ·
             refine WL.guardNo rfl rfl rfl (vb c218 rfl) <|
              WL.guardNo rfl rfl rfl (vb c218 rfl) <|
              WL.guardNo rfl rfl rfl (vb c218 rfl) <|
              E rfl (ex_pick_f (v := .bool false) (vb c218 rfl) rfl) <|
              E rfl (mv (.bool false) rfl) <|
              WL.guardNo rfl rfl rfl rfl <|
              WL.guardNo rfl rfl rfl rfl <|
              E rfl (ex_pick_f (v := .bool false) rfl rfl) <|
              E rfl (sg (.bool false) rfl) <|
              WL.nil <|
              WC.ret ?_
             obtain rfl := Option.some.inj H
             replace HF := HF.step s213 rfl
             exact ⟨_, (.tmp _ rfl .nil), _, rfl, HF.out⟩
           ·
            refine WL.guardNo rfl rfl rfl (vb c217 rfl) <|
             WL.guardNo rfl rfl rfl (vb c217 rfl) <|
             WL.guardNo rfl rfl rfl (vb c217 rfl) <|
             E rfl (ex_pick_f (v := .bool false) (vb c217 rfl) rfl) <|
             E rfl (mv (.bool false) rfl) <|
             WL.guardNo rfl rfl rfl rfl <|
             WL.guardNo rfl rfl rfl rfl <|
             WL.guardNo rfl rfl rfl rfl <|
             E rfl (ex_pick_f (v := .bool false) rfl rfl) <|
             E rfl (mv (.bool false) rfl) <|
             WL.guardNo rfl rfl rfl rfl <|
             WL.guardNo rfl rfl rfl rfl <|
             E rfl (ex_pick_f (v := .bool false) rfl rfl) <|
             E rfl (sg (.bool false) rfl) <|
             WL.nil <|
             WC.ret ?_
            obtain rfl := Option.some.inj H
            replace HF := HF.step s213 rfl
            exact ⟨_, (.tmp _ rfl .nil), _, rfl, HF.out⟩
          ·
           refine WL.guardNo rfl rfl rfl (vb c216 rfl) <|
            WL.guardNo rfl rfl rfl (vb c216 rfl) <|
            E rfl (ex_pick_f (v := .bool false) (vb c216 rfl) rfl) <|
            E rfl (mv (.bool false) rfl) <|
            WL.guardNo rfl rfl rfl rfl <|
            WL.guardNo rfl rfl rfl rfl <|
            WL.guardNo rfl rfl rfl rfl <|
            E rfl (ex_pick_f (v := .bool false) rfl rfl) <|
            E rfl (mv (.bool false) rfl) <|
            WL.guardNo rfl rfl rfl rfl <|
            WL.guardNo rfl rfl rfl rfl <|
            WL.guardNo rfl rfl rfl rfl <|
            E rfl (ex_pick_f (v := .bool false) rfl rfl) <|
            E rfl (mv (.bool false) rfl) <|
            WL.guardNo rfl rfl rfl rfl <|
            WL.guardNo rfl rfl rfl rfl <|
            E rfl (ex_pick_f (v := .bool false) rfl rfl) <|
            E rfl (sg (.bool false) rfl) <|
            WL.nil <|
            WC.ret ?_
           obtain rfl := Option.some.inj H
           replace HF := HF.step s213 rfl
           exact ⟨_, (.tmp _ rfl .nil), _, rfl, HF.out⟩
         ·
          refine WL.guardNo rfl rfl rfl (vb c215 rfl) <|
           WL.guardNo rfl rfl rfl (vb c215 rfl) <|
           E rfl (ex_pick_f (v := .bool false) (vb c215 rfl) rfl) <|
           E rfl (mv (.bool false) rfl) <|
           WL.guardNo rfl rfl rfl rfl <|
           WL.guardNo rfl rfl rfl rfl <|
           E rfl (ex_pick_f (v := .bool false) rfl rfl) <|
           E rfl (mv (.bool false) rfl) <|
           WL.guardNo rfl rfl rfl rfl <|
           WL.guardNo rfl rfl rfl rfl <|
           WL.guardNo rfl rfl rfl rfl <|
           E rfl (ex_pick_f (v := .bool false) rfl rfl) <|
           E rfl (mv (.bool false) rfl) <|
           WL.guardNo rfl rfl rfl rfl <|
           WL.guardNo rfl rfl rfl rfl <|
           WL.guardNo rfl rfl rfl rfl <|
           E rfl (ex_pick_f (v := .bool false) rfl rfl) <|
           E rfl (mv (.bool false) rfl) <|
           WL.guardNo rfl rfl rfl rfl <|
           WL.guardNo rfl rfl rfl rfl <|
           E rfl (ex_pick_f (v := .bool false) rfl rfl) <|
           E rfl (sg (.bool false) rfl) <|
           WL.nil <|
           WC.ret ?_
          obtain rfl := Option.some.inj H
          replace HF := HF.step s213 rfl
          exact ⟨_, (.tmp _ rfl .nil), _, rfl, HF.out⟩
        ·
         refine WL.guardNo rfl rfl rfl (vb c214 rfl) <|
          WL.guardNo rfl rfl rfl (vb c214 rfl) <|
          WL.guardNo rfl rfl rfl (vb c214 rfl) <|
          WL.guardNo rfl rfl rfl (vb c214 rfl) <|
          E rfl (ex_pick_f (v := .bool false) (vb c214 rfl) rfl) <|
          E rfl (mv (.bool false) rfl) <|
          WL.guardNo rfl rfl rfl rfl <|
          WL.guardNo rfl rfl rfl rfl <|
          E rfl (ex_pick_f (v := .bool false) rfl rfl) <|
          E rfl (mv (.bool false) rfl) <|
          WL.guardNo rfl rfl rfl rfl <|
          WL.guardNo rfl rfl rfl rfl <|
          E rfl (ex_pick_f (v := .bool false) rfl rfl) <|
          E rfl (mv (.bool false) rfl) <|
          WL.guardNo rfl rfl rfl rfl <|
          WL.guardNo rfl rfl rfl rfl <|
          WL.guardNo rfl rfl rfl rfl <|
          E rfl (ex_pick_f (v := .bool false) rfl rfl) <|
          E rfl (mv (.bool false) rfl) <|
          WL.guardNo rfl rfl rfl rfl <|
          WL.guardNo rfl rfl rfl rfl <|
          WL.guardNo rfl rfl rfl rfl <|
          E rfl (ex_pick_f (v := .bool false) rfl rfl) <|
          E rfl (mv (.bool false) rfl) <|
          WL.guardNo rfl rfl rfl rfl ?_
         refine WL.guardNo rfl rfl rfl rfl <|
          E rfl (ex_pick_f (v := .bool false) rfl rfl) <|
          E rfl (sg (.bool false) rfl) <|
          WL.nil <|
          WC.ret ?_
         obtain rfl := Option.some.inj H
         replace HF := HF.step s213 rfl
         exact ⟨_, (.tmp _ rfl .nil), _, rfl, HF.out⟩
       ·
        refine WL.guardNo rfl rfl rfl (vb c209 rfl) <|
         WL.guardNo rfl rfl rfl (vb c209 rfl) <|
         WL.guardNo rfl rfl rfl (vb c209 rfl) <|
         E rfl (ex_pick_f (v := .bool false) (vb c209 rfl) rfl) <|
         E rfl (mv (.bool false) rfl) <|
         WL.guardNo rfl rfl rfl rfl <|
         WL.guardNo rfl rfl rfl rfl <|
         WL.guardNo rfl rfl rfl rfl <|
         WL.guardNo rfl rfl rfl rfl <|
         E rfl (ex_pick_f (v := .bool false) rfl rfl) <|
         E rfl (mv (.bool false) rfl) <|
         WL.guardNo rfl rfl rfl rfl <|
         WL.guardNo rfl rfl rfl rfl <|
         E rfl (ex_pick_f (v := .bool false) rfl rfl) <|
         E rfl (mv (.bool false) rfl) <|
         WL.guardNo rfl rfl rfl rfl <|
         WL.guardNo rfl rfl rfl rfl <|
         E rfl (ex_pick_f (v := .bool false) rfl rfl) <|
         E rfl (mv (.bool false) rfl) <|
         WL.guardNo rfl rfl rfl rfl <|
         WL.guardNo rfl rfl rfl rfl <|
         WL.guardNo rfl rfl rfl rfl <|
         E rfl (ex_pick_f (v := .bool false) rfl rfl) <|
         E rfl (mv (.bool false) rfl) <|
         WL.guardNo rfl rfl rfl rfl ?_
        refine WL.guardNo rfl rfl rfl rfl <|
         WL.guardNo rfl rfl rfl rfl <|
         E rfl (ex_pick_f (v := .bool false) rfl rfl) <|
         E rfl (mv (.bool false) rfl) <|
         WL.guardNo rfl rfl rfl rfl <|
         WL.guardNo rfl rfl rfl rfl <|
         E rfl (ex_pick_f (v := .bool false) rfl rfl) <|
         E rfl (sg (.bool false) rfl) <|
         WL.nil <|
         WC.ret ?_
        obtain rfl := Option.some.inj H
        have k198_201 := s198.t s201
        replace HF := HF.step k198_201 rfl
        exact ⟨_, (.tmp _ rfl .nil), _, rfl, HF.out⟩
      ·
       refine WL.guardNo rfl rfl rfl (vb c208 rfl) <|
        WL.guardNo rfl rfl rfl (vb c208 rfl) <|
        E rfl (ex_pick_f (v := .bool false) (vb c208 rfl) rfl) <|
        E rfl (mv (.bool false) rfl) <|
        WL.guardNo rfl rfl rfl rfl <|
        WL.guardNo rfl rfl rfl rfl <|
        WL.guardNo rfl rfl rfl rfl <|
        E rfl (ex_pick_f (v := .bool false) rfl rfl) <|
        E rfl (mv (.bool false) rfl) <|
        WL.guardNo rfl rfl rfl rfl <|
        WL.guardNo rfl rfl rfl rfl <|
        WL.guardNo rfl rfl rfl rfl <|
        WL.guardNo rfl rfl rfl rfl <|
        E rfl (ex_pick_f (v := .bool false) rfl rfl) <|
        E rfl (mv (.bool false) rfl) <|
        WL.guardNo rfl rfl rfl rfl <|
        WL.guardNo rfl rfl rfl rfl <|
        E rfl (ex_pick_f (v := .bool false) rfl rfl) <|
        E rfl (mv (.bool false) rfl) <|
        WL.guardNo rfl rfl rfl rfl <|
        WL.guardNo rfl rfl rfl rfl <|
        E rfl (ex_pick_f (v := .bool false) rfl rfl) <|
        E rfl (mv (.bool false) rfl) <|
        WL.guardNo rfl rfl rfl rfl <|
        WL.guardNo rfl rfl rfl rfl ?_
       refine WL.guardNo rfl rfl rfl rfl <|
        E rfl (ex_pick_f (v := .bool false) rfl rfl) <|
        E rfl (mv (.bool false) rfl) <|
        WL.guardNo rfl rfl rfl rfl <|
        WL.guardNo rfl rfl rfl rfl <|
        WL.guardNo rfl rfl rfl rfl <|
        E rfl (ex_pick_f (v := .bool false) rfl rfl) <|
        E rfl (mv (.bool false) rfl) <|
        WL.guardNo rfl rfl rfl rfl <|
        WL.guardNo rfl rfl rfl rfl <|
        E rfl (ex_pick_f (v := .bool false) rfl rfl) <|
        E rfl (sg (.bool false) rfl) <|
        WL.nil <|
        WC.ret ?_
       obtain rfl := Option.some.inj H
       have k198_201 := s198.t s201
       replace HF := HF.step k198_201 rfl
       exact ⟨_, (.tmp _ rfl .nil), _, rfl, HF.out⟩
     ·
      refine WL.guardNo rfl rfl rfl (vb c207 rfl) <|
       WL.guardNo rfl rfl rfl (vb c207 rfl) <|
       WL.guardNo rfl rfl rfl (vb c207 rfl) <|
       E rfl (ex_pick_f (v := .bool false) (vb c207 rfl) rfl) <|
       E rfl (mv (.bool false) rfl) <|
       WL.guardNo rfl rfl rfl rfl <|
       WL.guardNo rfl rfl rfl rfl <|
       E rfl (ex_pick_f (v := .bool false) rfl rfl) <|
       E rfl (mv (.bool false) rfl) <|
       WL.guardNo rfl rfl rfl rfl <|
       WL.guardNo rfl rfl rfl rfl <|
       WL.guardNo rfl rfl rfl rfl <|
       E rfl (ex_pick_f (v := .bool false) rfl rfl) <|
       E rfl (mv (.bool false) rfl) <|
       WL.guardNo rfl rfl rfl rfl <|
       WL.guardNo rfl rfl rfl rfl <|
       WL.guardNo rfl rfl rfl rfl <|
       WL.guardNo rfl rfl rfl rfl <|
       E rfl (ex_pick_f (v := .bool false) rfl rfl) <|
       E rfl (mv (.bool false) rfl) <|
       WL.guardNo rfl rfl rfl rfl <|
       WL.guardNo rfl rfl rfl rfl <|
       E rfl (ex_pick_f (v := .bool false) rfl rfl) <|
       E rfl (mv (.bool false) rfl) <|
       WL.guardNo rfl rfl rfl rfl ?_
      refine WL.guardNo rfl rfl rfl rfl <|
       E rfl (ex_pick_f (v := .bool false) rfl rfl) <|
       E rfl (mv (.bool false) rfl) <|
       WL.guardNo rfl rfl rfl rfl <|
       WL.guardNo rfl rfl rfl rfl <|
       WL.guardNo rfl rfl rfl rfl <|
       E rfl (ex_pick_f (v := .bool false) rfl rfl) <|
       E rfl (mv (.bool false) rfl) <|
       WL.guardNo rfl rfl rfl rfl <|
       WL.guardNo rfl rfl rfl rfl <|
       WL.guardNo rfl rfl rfl rfl <|
       E rfl (ex_pick_f (v := .bool false) rfl rfl) <|
       E rfl (mv (.bool false) rfl) <|
       WL.guardNo rfl rfl rfl rfl <|
       WL.guardNo rfl rfl rfl rfl <|
       E rfl (ex_pick_f (v := .bool false) rfl rfl) <|
       E rfl (sg (.bool false) rfl) <|
       WL.nil <|
       WC.ret ?_
      obtain rfl := Option.some.inj H
      have k198_201 := s198.t s201
      replace HF := HF.step k198_201 rfl
      exact ⟨_, (.tmp _ rfl .nil), _, rfl, HF.out⟩
    ·
     refine WL.guardNo rfl rfl rfl (vb c206 rfl) <|
      WL.guardNo rfl rfl rfl (vb c206 rfl) <|
      WL.guardNo rfl rfl rfl (vb c206 rfl) <|
      E rfl (ex_pick_f (v := .bool false) (vb c206 rfl) rfl) <|
      E rfl (mv (.bool false) rfl) <|
      WL.guardNo rfl rfl rfl rfl <|
      WL.guardNo rfl rfl rfl rfl <|
      WL.guardNo rfl rfl rfl rfl <|
      E rfl (ex_pick_f (v := .bool false) rfl rfl) <|
      E rfl (mv (.bool false) rfl) <|
      WL.guardNo rfl rfl rfl rfl <|
      WL.guardNo rfl rfl rfl rfl <|
      E rfl (ex_pick_f (v := .bool false) rfl rfl) <|
      E rfl (mv (.bool false) rfl) <|
      WL.guardNo rfl rfl rfl rfl <|
      WL.guardNo rfl rfl rfl rfl <|
      WL.guardNo rfl rfl rfl rfl <|
      E rfl (ex_pick_f (v := .bool false) rfl rfl) <|
      E rfl (mv (.bool false) rfl) <|
      WL.guardNo rfl rfl rfl rfl <|
      WL.guardNo rfl rfl rfl rfl <|
      WL.guardNo rfl rfl rfl rfl <|
      WL.guardNo rfl rfl rfl rfl <|
      E rfl (ex_pick_f (v := .bool false) rfl rfl) <|
      E rfl (mv (.bool false) rfl) ?_
     refine WL.guardNo rfl rfl rfl rfl <|
      WL.guardNo rfl rfl rfl rfl <|
      E rfl (ex_pick_f (v := .bool false) rfl rfl) <|
      E rfl (mv (.bool false) rfl) <|
      WL.guardNo rfl rfl rfl rfl <|
      WL.guardNo rfl rfl rfl rfl <|
      E rfl (ex_pick_f (v := .bool false) rfl rfl) <|
      E rfl (mv (.bool false) rfl) <|
      WL.guardNo rfl rfl rfl rfl <|
      WL.guardNo rfl rfl rfl rfl <|
      WL.guardNo rfl rfl rfl rfl <|
      E rfl (ex_pick_f (v := .bool false) rfl rfl) <|
      E rfl (mv (.bool false) rfl) <|
      WL.guardNo rfl rfl rfl rfl <|
      WL.guardNo rfl rfl rfl rfl <|
      WL.guardNo rfl rfl rfl rfl <|
      E rfl (ex_pick_f (v := .bool false) rfl rfl) <|
      E rfl (mv (.bool false) rfl) <|
      WL.guardNo rfl rfl rfl rfl <|
      WL.guardNo rfl rfl rfl rfl <|
      E rfl (ex_pick_f (v := .bool false) rfl rfl) <|
      E rfl (sg (.bool false) rfl) <|
      WL.nil <|
      WC.ret ?_
     obtain rfl := Option.some.inj H
     have k198_201 := s198.t s201
     replace HF := HF.step k198_201 rfl
     exact ⟨_, (.tmp _ rfl .nil), _, rfl, HF.out⟩
   ·
    refine WL.guardNo rfl rfl rfl (vb c205 rfl) <|
     WL.guardNo rfl rfl rfl (vb c205 rfl) <|
     WL.guardNo rfl rfl rfl (vb c205 rfl) <|
     E rfl (ex_pick_f (v := .bool false) (vb c205 rfl) rfl) <|
     E rfl (mv (.bool false) rfl) <|
     WL.guardNo rfl rfl rfl rfl <|
     WL.guardNo rfl rfl rfl rfl <|
     WL.guardNo rfl rfl rfl rfl <|
     E rfl (ex_pick_f (v := .bool false) rfl rfl) <|
     E rfl (mv (.bool false) rfl) <|
     WL.guardNo rfl rfl rfl rfl <|
     WL.guardNo rfl rfl rfl rfl <|
     WL.guardNo rfl rfl rfl rfl <|
     E rfl (ex_pick_f (v := .bool false) rfl rfl) <|
     E rfl (mv (.bool false) rfl) <|
     WL.guardNo rfl rfl rfl rfl <|
     WL.guardNo rfl rfl rfl rfl <|
     E rfl (ex_pick_f (v := .bool false) rfl rfl) <|
     E rfl (mv (.bool false) rfl) <|
     WL.guardNo rfl rfl rfl rfl <|
     WL.guardNo rfl rfl rfl rfl <|
     WL.guardNo rfl rfl rfl rfl <|
     E rfl (ex_pick_f (v := .bool false) rfl rfl) <|
     E rfl (mv (.bool false) rfl) <|
     WL.guardNo rfl rfl rfl rfl ?_
    refine WL.guardNo rfl rfl rfl rfl <|
     WL.guardNo rfl rfl rfl rfl <|
     WL.guardNo rfl rfl rfl rfl <|
     E rfl (ex_pick_f (v := .bool false) rfl rfl) <|
     E rfl (mv (.bool false) rfl) <|
     WL.guardNo rfl rfl rfl rfl <|
     WL.guardNo rfl rfl rfl rfl <|
     E rfl (ex_pick_f (v := .bool false) rfl rfl) <|
     E rfl (mv (.bool false) rfl) <|
     WL.guardNo rfl rfl rfl rfl <|
     WL.guardNo rfl rfl rfl rfl <|
     E rfl (ex_pick_f (v := .bool false) rfl rfl) <|
     E rfl (mv (.bool false) rfl) <|
     WL.guardNo rfl rfl rfl rfl <|
     WL.guardNo rfl rfl rfl rfl <|
     WL.guardNo rfl rfl rfl rfl <|
     E rfl (ex_pick_f (v := .bool false) rfl rfl) <|
     E rfl (mv (.bool false) rfl) <|
     WL.guardNo rfl rfl rfl rfl <|
     WL.guardNo rfl rfl rfl rfl <|
     WL.guardNo rfl rfl rfl rfl <|
     E rfl (ex_pick_f (v := .bool false) rfl rfl) <|
     E rfl (mv (.bool false) rfl) <|
     WL.guardNo rfl rfl rfl rfl <|
     WL.guardNo rfl rfl rfl rfl ?_
    refine E rfl (ex_pick_f (v := .bool false) rfl rfl) <|
     E rfl (sg (.bool false) rfl) <|
     WL.nil <|
     WC.ret ?_
    obtain rfl := Option.some.inj H
    have k198_201 := s198.t s201
    replace HF := HF.step k198_201 rfl
    exact ⟨_, (.tmp _ rfl .nil), _, rfl, HF.out⟩
  ·
   refine WL.guardNo rfl rfl rfl (vb c204 rfl) <|
    WL.guardNo rfl rfl rfl (vb c204 rfl) <|
    E rfl (ex_pick_f (v := .bool false) (vb c204 rfl) rfl) <|
    E rfl (mv (.bool false) rfl) <|
    WL.guardNo rfl rfl rfl rfl <|
    WL.guardNo rfl rfl rfl rfl <|
    WL.guardNo rfl rfl rfl rfl <|
    E rfl (ex_pick_f (v := .bool false) rfl rfl) <|
    E rfl (mv (.bool false) rfl) <|
    WL.guardNo rfl rfl rfl rfl <|
    WL.guardNo rfl rfl rfl rfl <|
    WL.guardNo rfl rfl rfl rfl <|
    E rfl (ex_pick_f (v := .bool false) rfl rfl) <|
    E rfl (mv (.bool false) rfl) <|
    WL.guardNo rfl rfl rfl rfl <|
    WL.guardNo rfl rfl rfl rfl <|
    WL.guardNo rfl rfl rfl rfl <|
    E rfl (ex_pick_f (v := .bool false) rfl rfl) <|
    E rfl (mv (.bool false) rfl) <|
    WL.guardNo rfl rfl rfl rfl <|
    WL.guardNo rfl rfl rfl rfl <|
    E rfl (ex_pick_f (v := .bool false) rfl rfl) <|
    E rfl (mv (.bool false) rfl) <|
    WL.guardNo rfl rfl rfl rfl <|
    WL.guardNo rfl rfl rfl rfl ?_
   refine WL.guardNo rfl rfl rfl rfl <|
    E rfl (ex_pick_f (v := .bool false) rfl rfl) <|
    E rfl (mv (.bool false) rfl) <|
    WL.guardNo rfl rfl rfl rfl <|
    WL.guardNo rfl rfl rfl rfl <|
    WL.guardNo rfl rfl rfl rfl <|
    WL.guardNo rfl rfl rfl rfl <|
    E rfl (ex_pick_f (v := .bool false) rfl rfl) <|
    E rfl (mv (.bool false) rfl) <|
    WL.guardNo rfl rfl rfl rfl <|
    WL.guardNo rfl rfl rfl rfl <|
    E rfl (ex_pick_f (v := .bool false) rfl rfl) <|
    E rfl (mv (.bool false) rfl) <|
    WL.guardNo rfl rfl rfl rfl <|
    WL.guardNo rfl rfl rfl rfl <|
    E rfl (ex_pick_f (v := .bool false) rfl rfl) <|
    E rfl (mv (.bool false) rfl) <|
    WL.guardNo rfl rfl rfl rfl <|
    WL.guardNo rfl rfl rfl rfl <|
    WL.guardNo rfl rfl rfl rfl <|
    E rfl (ex_pick_f (v := .bool false) rfl rfl) <|
    E rfl (mv (.bool false) rfl) <|
    WL.guardNo rfl rfl rfl rfl <|
    WL.guardNo rfl rfl rfl rfl <|
    WL.guardNo rfl rfl rfl rfl ?_
   refine E rfl (ex_pick_f (v := .bool false) rfl rfl) <|
    E rfl (mv (.bool false) rfl) <|
    WL.guardNo rfl rfl rfl rfl <|
    WL.guardNo rfl rfl rfl rfl <|
    E rfl (ex_pick_f (v := .bool false) rfl rfl) <|
    E rfl (sg (.bool false) rfl) <|
    WL.nil <|
    WC.ret ?_
   obtain rfl := Option.some.inj H
   have k198_201 := s198.t s201
   replace HF := HF.step k198_201 rfl
   exact ⟨_, (.tmp _ rfl .nil), _, rfl, HF.out⟩
 ·
  refine WL.guardNo rfl rfl rfl (vb c203 rfl) <|
   WL.guardNo rfl rfl rfl (vb c203 rfl) <|
   E rfl (ex_pick_f (v := .bool false) (vb c203 rfl) rfl) <|
   E rfl (mv (.bool false) rfl) <|
   WL.guardNo rfl rfl rfl rfl <|
   WL.guardNo rfl rfl rfl rfl <|
   E rfl (ex_pick_f (v := .bool false) rfl rfl) <|
   E rfl (mv (.bool false) rfl) <|
   WL.guardNo rfl rfl rfl rfl <|
   WL.guardNo rfl rfl rfl rfl <|
   WL.guardNo rfl rfl rfl rfl <|
   E rfl (ex_pick_f (v := .bool false) rfl rfl) <|
   E rfl (mv (.bool false) rfl) <|
   WL.guardNo rfl rfl rfl rfl <|
   WL.guardNo rfl rfl rfl rfl <|
   WL.guardNo rfl rfl rfl rfl <|
   E rfl (ex_pick_f (v := .bool false) rfl rfl) <|
   E rfl (mv (.bool false) rfl) <|
   WL.guardNo rfl rfl rfl rfl <|
   WL.guardNo rfl rfl rfl rfl <|
   WL.guardNo rfl rfl rfl rfl <|
   E rfl (ex_pick_f (v := .bool false) rfl rfl) <|
   E rfl (mv (.bool false) rfl) <|
   WL.guardNo rfl rfl rfl rfl <|
   WL.guardNo rfl rfl rfl rfl ?_
  refine E rfl (ex_pick_f (v := .bool false) rfl rfl) <|
   E rfl (mv (.bool false) rfl) <|
   WL.guardNo rfl rfl rfl rfl <|
   WL.guardNo rfl rfl rfl rfl <|
   WL.guardNo rfl rfl rfl rfl <|
   E rfl (ex_pick_f (v := .bool false) rfl rfl) <|
   E rfl (mv (.bool false) rfl) <|
   WL.guardNo rfl rfl rfl rfl <|
   WL.guardNo rfl rfl rfl rfl <|
   WL.guardNo rfl rfl rfl rfl <|
   WL.guardNo rfl rfl rfl rfl <|
   E rfl (ex_pick_f (v := .bool false) rfl rfl) <|
   E rfl (mv (.bool false) rfl) <|
   WL.guardNo rfl rfl rfl rfl <|
   WL.guardNo rfl rfl rfl rfl <|
   E rfl (ex_pick_f (v := .bool false) rfl rfl) <|
   E rfl (mv (.bool false) rfl) <|
   WL.guardNo rfl rfl rfl rfl <|
   WL.guardNo rfl rfl rfl rfl <|
   E rfl (ex_pick_f (v := .bool false) rfl rfl) <|
   E rfl (mv (.bool false) rfl) <|
   WL.guardNo rfl rfl rfl rfl <|
   WL.guardNo rfl rfl rfl rfl <|
   WL.guardNo rfl rfl rfl rfl <|
   E rfl (ex_pick_f (v := .bool false) rfl rfl) ?_
  refine E rfl (mv (.bool false) rfl) <|
   WL.guardNo rfl rfl rfl rfl <|
   WL.guardNo rfl rfl rfl rfl <|
   WL.guardNo rfl rfl rfl rfl <|
   E rfl (ex_pick_f (v := .bool false) rfl rfl) <|
   E rfl (mv (.bool false) rfl) <|
   WL.guardNo rfl rfl rfl rfl <|
   WL.guardNo rfl rfl rfl rfl <|
   E rfl (ex_pick_f (v := .bool false) rfl rfl) <|
   E rfl (sg (.bool false) rfl) <|
   WL.nil <|
   WC.ret ?_
  obtain rfl := Option.some.inj H
  have k198_201 := s198.t s201
  replace HF := HF.step k198_201 rfl
  exact ⟨_, (.tmp _ rfl .nil), _, rfl, HF.out⟩

/-! ### dictumlaw04_SyntaxBack -/
set_option maxRecDepth 100000 in
theorem dictumlaw04_SyntaxBack.calls (k : Nat) (o0 : Tags) (w0 : World) (pA0 : Option Addr) (pc0 : Nat) {a0 : (List T_api_Node)} {r : Bool} (H : dictumlaw04_SyntaxBack.f k a0 = some r) (hO : ∀ b, b < w0.heap.size → o0 b < 40) (hra0 : Row T_api_Node.rep (fun b_ => o0 b_ = 0) (fun b_ => o0 b_ = 0) w0 pA0 a0) (hla0 : a0.length ≤ pc0) (hG : Gl GG o0 w0) :
  Calls Tryz.prog 3 [.slice pA0 a0.length pc0].toArray w0 fun e_ w_ => ∃ (o_ : Tags), e_ = .returned (one [.bool r]) ∧ Step o0 w0 o_ w_ [] := by
 have HF := Fm.refl hO []
 unfold dictumlaw04_SyntaxBack.f at H
 refine SX.calls [.slice pA0 a0.length pc0] Tryz.func3 rfl rfl ?_
 rw [Tryz.ntmps3]
 refine WC.seq <|
  WC.region <|
  E rfl (sg (.bool false) rfl) <|
  WL.nil <|
  WC.seq <|
  WC.region <|
  E rfl (mv (.slice pA0 a0.length pc0) rfl) ?_
 obtain ⟨z101, hz101, H⟩ := bindE H
 refine WL.op rfl <|
  OW.call [.slice pA0 a0.length pc0] rfl Tryz.func7 (by kernel_rfl) (by kernel_rfl) (map_cons' rfl rfl) (dictumlaw04_Tables.calls k _ _ pA0 pc0 hz101 (HF.ten (V := [0]) (L := []) rfl) (Row.vw hra0 rfl) hla0) ?_
 rintro _ w102 ⟨o103, b105, v107, b109, b111, v113, rfl, s104, hB106, hO108, hM110, hB112, hO114⟩
 refine ⟨_, rfl, ?_⟩
 replace hB106 := Bk.un9 (J := [40, 41, 42, 43, 44]) 0 hB106 rfl s104 rfl rfl
 replace hO108 := Own.un9 (J := [40, 41, 42, 43, 44]) 1 hO108 rfl s104 rfl rfl
 replace hM110 := Mp.un9 (J := [40, 41, 42, 43, 44]) 2 hM110 rfl s104 rfl rfl
 replace hB112 := Bk.un9 (J := [40, 41, 42, 43, 44]) 3 hB112 rfl s104 rfl rfl
 replace hO114 := Own.un9 (J := [40, 41, 42, 43, 44]) 4 hO114 rfl s104 rfl rfl
 replace s104 := un_stepL (J := [40, 41, 42, 43, 44]) (L' := []) s104 rfl rfl
 refine E rfl (mv (.tuple #[pp b105 0, pp b111 0]) rfl) <|
  E rfl (ex_extract rfl rfl) <|
  E rfl (ex_extract rfl rfl) <|
  E rfl (sg (pp b105 0) rfl) <|
  E rfl (sg (pp b111 0) rfl) <|
  WL.nil <|
  WC.seq <|
  WC.region <|
  E rfl (mv (pp b105 0) rfl) ?_
 obtain ⟨z115, hz115, H⟩ := bindE H
 refine WL.op rfl ?_
 replace HF := HF.step s104 rfl
 refine OW.call [pp b105 0] rfl Tryz.func8 (by kernel_rfl) (by kernel_rfl) (map_cons' rfl rfl) (formula_Table_Len.calls _ _ b105 v107 b109 (a0 := z101.1.1) hz115 (HF.ten (V := [0]) (L := [40, 41, 42]) rfl) (Bk.vw hB106 rfl) (Own.vw hO108 rfl rfl) (Mp.vw hM110 rfl)) ?_
 rintro _ w116 ⟨o117, rfl, s118⟩
 refine ⟨_, rfl, ?_⟩
 replace s118 := un_stepL (J := []) (L' := []) s118 rfl rfl
 refine E rfl (sg (ii z115) rfl) <|
  WL.nil <|
  WC.seq <|
  WC.seq <|
  WC.region <|
  E rfl (sg (ii 0) rfl) <|
  WL.nil ?_
 obtain ⟨z124, hz124, H⟩ := bindE H
 replace hB106 := hB106.step s118 rfl
 replace hO108 := hO108.step s118 rfl rfl
 replace hM110 := hM110.step s118 rfl
 replace HF := HF.step s118 rfl
 have k104_118 := s104.t s118
 replace hG := hG.step k104_118 rfl
 refine WC.for (fun k_ ρ_ w_ => ∃ (o_ : Tags) (x119 : Int) (x120 : T_formula_Table) (x123 : (List (T_api_Node × Int))) (v121 : Value), Fm o0 w0 o_ w_ [] ∧ Bk o_ w_ 40 b105 [v121, .map (some b109)] 56 ∧ Own T_api_Node.rep 60 41 o_ w_ v121 x120.f_rows ∧ Mp (fun x_ : T_api_Node => Value.agg #[ii x_.f_Kind, encS x_.f_Name, ii x_.f_L, ii x_.f_R]) (fun v_ : Int => ii v_) 42 o_ w_ b109 x123 ∧ Gl GG o_ w_ ∧ ρ_ 2 = .bool false ∧ ρ_ 3 = pp b105 0 ∧ ρ_ 5 = ii z115 ∧ ρ_ 6 = ii x119 ∧ dictumlaw04_SyntaxBack.l1 k z115 k_ x119 x120 x123 = some z124) k (fun ρ_ w_ => ∃ (o_ : Tags), Fm o0 w0 o_ w_ [] ∧ Gl GG o_ w_ ∧ ρ_ 2 = .bool false ∧ z124 = .inr ()) ⟨_, 0, z101.1.1, z101.1.2, _, HF, hB106, hO108, hM110, hG, rfl, rfl, rfl, rfl, hz124⟩ ?case125 ?_
 case case125 =>
  rintro ρ201 w202 ⟨o203, HF, hG, s2_123, rfl⟩
  dsimp only at H
  refine WC.seq <|
   WC.region ?_
  obtain ⟨z204, hz204, H⟩ := bindE H
  refine WL.op rfl <|
   OW.call [] rfl Tryz.func13 (by kernel_rfl) (by kernel_rfl) rfl (dictumlaw04_heads.calls k _ _ hz204 (HF.ten (V := [0]) (L := []) rfl) (Gl.vw hG rfl)) ?_
  rintro _ w205 ⟨o206, rfl, s207⟩
  refine ⟨_, rfl, ?_⟩
  replace s207 := un_stepL (J := []) (L' := []) s207 rfl rfl
  refine E rfl (sg (.bool z204) rfl) <|
   WL.nil <|
   WC.ret ?_
  obtain rfl := Option.some.inj H
  replace HF := HF.step s207 rfl
  exact ⟨_, (.tmp _ rfl .nil), _, rfl, HF.out⟩
 have Ho126 := H
 rintro k127 ρ128 w129 ⟨o130, x119, x120, x123, v121, HF, hB106, hO122, hM110, hG, s2_118, s3_118, s5_118, s6_119, H⟩
 cases k127 with
 | zero => cases H
 | succ k127 =>
 rw [dictumlaw04_SyntaxBack.l1.eq_2] at H
 refine WC.seq ?_
 obtain ⟨z132, hz132, H⟩ := bindE H
 refine WC.cut (fun ρ_ w_ => ∃ (o_ : Tags), Fm o0 w0 o_ w_ [] ∧ Bk o_ w_ 40 b105 [v121, .map (some b109)] 56 ∧ Own T_api_Node.rep 60 41 o_ w_ v121 x120.f_rows ∧ Mp (fun x_ : T_api_Node => Value.agg #[ii x_.f_Kind, encS x_.f_Name, ii x_.f_L, ii x_.f_R]) (fun v_ : Int => ii v_) 42 o_ w_ b109 x123 ∧ Gl GG o_ w_ ∧ ρ_ 2 = .bool false ∧ ρ_ 3 = pp b105 0 ∧ ρ_ 5 = ii z115 ∧ ρ_ 6 = ii x119 ∧ ρ_ 24 = .bool z132) ?case133 ?_
 case case133 =>
  rintro ρ136 w134 ⟨o135, HF, hB106, hO122, hM110, hG, s2_130, s3_130, s5_130, s6_130, s24_131⟩
  rcases condE H with ⟨c137, H⟩ | ⟨c137, H⟩
  ·
   refine WC.cond_t (vb c137 s24_131) <|
    WC.skip ?_
   obtain ⟨z142, hz142, H⟩ := bindE H
   refine WC.cut (fun ρ_ w_ => ∃ (o_ : Tags) (x138 : T_formula_Table) (x141 : (List (T_api_Node × Int))) (v139 : Value), Fm o0 w0 o_ w_ [] ∧ Bk o_ w_ 40 b105 [v139, .map (some b109)] 56 ∧ Own T_api_Node.rep 60 41 o_ w_ v139 x138.f_rows ∧ Mp (fun x_ : T_api_Node => Value.agg #[ii x_.f_Kind, encS x_.f_Name, ii x_.f_L, ii x_.f_R]) (fun v_ : Int => ii v_) 42 o_ w_ b109 x141 ∧ Gl GG o_ w_ ∧ ρ_ 2 = .bool false ∧ ρ_ 3 = pp b105 0 ∧ ρ_ 5 = ii z115 ∧ ρ_ 6 = ii x119 ∧ z142 = .inr (x138, x141)) ?case143 ?_
   case case143 =>
    rintro ρ146 w144 ⟨o145, x138, x141, v139, HF, hB106, hO140, hM110, hG, s2_137, s3_137, s5_137, s6_137, rfl⟩
    replace H : _ = some _ := H
    dsimp only at H
    refine WC.region <|
     E rfl (mv (ii x119) s6_137) <|
     E rfl (e2 bin_add64 rfl rfl) <|
     E rfl (sg (ii (wrap64 (x119 + 1))) rfl) <|
     WL.nil ?_
    exact ⟨k127, Nat.lt_succ_self _, ⟨_, wrap64 (x119 + 1), x138, x141, _, HF, hB106, hO140, hM110, hG, s2_137, s3_137, s5_137, rfl, H⟩⟩
   have Ho147 := H
   replace H := hz142
   refine WC.block <|
    WC.seq <|
    WC.region <|
    E rfl (mv (pp b105 0) s3_130) <|
    E rfl (mv (ii x119) s6_130) ?_
   obtain ⟨z148, hz148, H⟩ := bindE H
   refine WL.op rfl <|
    OW.call [pp b105 0, ii x119] rfl Tryz.func9 (by kernel_rfl) (by kernel_rfl) (map_cons' rfl (map_cons' rfl rfl)) (syntax_Print.calls k _ _ b105 v121 b109 (a0 := x120) hz148 (HF.ten (V := [0]) (L := [40, 41, 42]) rfl) (Bk.vw hB106 rfl) (Own.vw hO122 rfl rfl) (Mp.vw hM110 rfl)) ?_
   rintro _ w149 ⟨o150, rfl, s151⟩
   refine ⟨_, rfl, ?_⟩
   replace s151 := un_stepL (J := []) (L' := []) s151 rfl rfl
   refine E rfl (mv (.tuple #[encS z148.1, ii z148.2]) rfl) <|
    E rfl (ex_extract rfl rfl) <|
    E rfl (ex_extract rfl rfl) <|
    E rfl (sg (encS z148.1) rfl) <|
    E rfl (sg (ii z148.2) rfl) <|
    WL.nil <|
    WC.seq ?_
   obtain ⟨z153, hz153, H⟩ := bindE H
   refine WC.cut (fun ρ_ w_ => ∃ (o_ : Tags), Fm o0 w0 o_ w_ [] ∧ Bk o_ w_ 40 b105 [v121, .map (some b109)] 56 ∧ Own T_api_Node.rep 60 41 o_ w_ v121 x120.f_rows ∧ Mp (fun x_ : T_api_Node => Value.agg #[ii x_.f_Kind, encS x_.f_Name, ii x_.f_L, ii x_.f_R]) (fun v_ : Int => ii v_) 42 o_ w_ b109 x123 ∧ Gl GG o_ w_ ∧ ρ_ 2 = .bool false ∧ ρ_ 3 = pp b105 0 ∧ ρ_ 5 = ii z115 ∧ ρ_ 6 = ii x119 ∧ ρ_ 7 = encS z148.1 ∧ ρ_ 40 = .bool z153) ?case154 ?_
   case case154 =>
    rintro ρ157 w155 ⟨o156, HF, hB106, hO122, hM110, hG, s2_151, s3_151, s5_151, s6_151, s7_151, s40_152⟩
    rcases condE H with ⟨c158, H⟩ | ⟨c158, H⟩
    ·
     refine WC.cond_t (vb c158 s40_152) <|
      WC.exit ?_
     obtain rfl := Option.some.inj H
     exact ⟨_, x120, x123, _, HF, hB106, hO122, hM110, hG, s2_151, s3_151, s5_151, s6_151, rfl⟩
    ·
     refine WC.cond_f (vb c158 s40_152) <|
      WC.skip <|
      WC.seq <|
      WC.region <|
      E rfl (mv (pp b105 0) s3_151) <|
      E rfl (mv (encS z148.1) s7_151) ?_
     obtain ⟨z159, hz159, H⟩ := bindE H
     refine WL.op rfl <|
      OW.call [pp b105 0, encS z148.1] rfl Tryz.func12 (by kernel_rfl) (by kernel_rfl) (map_cons' rfl (map_cons' rfl rfl)) (syntax_Parse.calls k _ _ b105 v121 b109 (a0 := x120) hz159 (HF.ten (V := [0]) (L := [40, 41, 42]) rfl) (Bk.vw hB106 rfl) (Own.vw hO122 rfl rfl) (Mp.vw hM110 rfl) (Gl.vw hG rfl)) ?_
     rintro _ w160 ⟨o161, v164, rfl, s162, hB163, hO165, hM166⟩
     refine ⟨_, rfl, ?_⟩
     replace hB163 := Bk.unO (J := []) 0 hB163 s162 rfl rfl rfl
     replace hO165 := Own.unO (J := []) 1 hO165 s162 rfl rfl rfl
     replace hM166 := Mp.unO (J := []) 2 hM166 s162 rfl rfl rfl
     replace s162 := un_stepL (J := []) (L' := [40, 41, 42]) s162 rfl rfl
     refine E rfl (mv (.tuple #[ii z159.1, .agg #[ii z159.2.1.f_Code, ii z159.2.1.f_At.f_Line, ii z159.2.1.f_At.f_Col, ii z159.2.1.f_At.f_Off]]) rfl) <|
      E rfl (ex_extract rfl rfl) <|
      E rfl (ex_extract rfl rfl) <|
      WL.op rfl ?_
     replace HF := HF.step s162 rfl
     refine OW.alloc' [ii (0 : Int), ii (0 : Int), ii (0 : Int), ii (0 : Int)] 45 HF rfl zr36 rfl ?_
     intro o168 w169 b167 s170 hB171
     refine E rfl (sg (ii z159.1) rfl) <|
      WL.op rfl <|
      OW.storeW rfl rfl sz36 hB171 rfl (oa rfl) ?_
     intro w172 s173 hB174
     refine WL.nil ?_
     obtain ⟨z176, hz176, H⟩ := bindE H
     refine WC.cut (fun ρ_ w_ => ∃ (o_ : Tags), Fm o0 w0 o_ w_ [] ∧ Bk o_ w_ 40 b105 [v164, .map (some b109)] 56 ∧ Own T_api_Node.rep 60 41 o_ w_ v164 z159.2.2.1.f_rows ∧ Mp (fun x_ : T_api_Node => Value.agg #[ii x_.f_Kind, encS x_.f_Name, ii x_.f_L, ii x_.f_R]) (fun v_ : Int => ii v_) 42 o_ w_ b109 z159.2.2.2 ∧ Gl GG o_ w_ ∧ ρ_ 2 = .bool false ∧ ρ_ 3 = pp b105 0 ∧ ρ_ 5 = ii z115 ∧ ρ_ 6 = ii x119 ∧ ρ_ 60 = .bool z176) ?case177 ?_
     case case177 =>
      rintro ρ180 w178 ⟨o179, HF, hB163, hO165, hM166, hG, s2_174, s3_174, s5_174, s6_174, s60_175⟩
      rcases condE H with ⟨c181, H⟩ | ⟨c181, H⟩
      ·
       refine WC.cond_t (vb c181 s60_175) <|
        WC.seq <|
        WC.region <|
        E rfl (sg (.bool false) rfl) <|
        WL.nil <|
        WC.ret ?_
       obtain rfl := Option.some.inj H
       replace H := Ho147
       dsimp only at H
       obtain rfl := Option.some.inj H
       replace H := Ho126
       dsimp only at H
       obtain rfl := Option.some.inj H
       exact ⟨_, (.tmp _ rfl .nil), _, rfl, HF.out⟩
      ·
       refine WC.cond_f (vb c181 s60_175) <|
        WC.skip ?_
       obtain rfl := Option.some.inj H
       exact ⟨_, z159.2.2.1, z159.2.2.2, _, HF, hB163, hO165, hM166, hG, s2_174, s3_174, s5_174, s6_174, rfl⟩
     have Ho182 := H
     replace H := hz176
     refine WC.region <|
      E rfl (ex_loadN (cs := [ii z159.2.1.f_Code, ii z159.2.1.f_At.f_Line, ii z159.2.1.f_At.f_Col, ii z159.2.1.f_At.f_Off]) rfl U36 rfl sz36 (hB174.cells rfl)) <|
      E rfl (ex_build (cs := [ii (0 : Int), ii (0 : Int), ii (0 : Int), ii (0 : Int)]) [(0, 1), (1, 3)] [] [ii 0, ii 0, ii 0, ii 0] U36 zr36 rfl (by kernel_rfl) rfl rfl) <|
      E rfl (ex_bin (a := .agg #[ii z159.2.1.f_Code, ii z159.2.1.f_At.f_Line, ii z159.2.1.f_At.f_Col, ii z159.2.1.f_At.f_Off]) (b := .agg #[ii (0 : Int), ii (0 : Int), ii (0 : Int), ii (0 : Int)]) (v := .bool (!(T_api_Fault.eqb z159.2.1 (⟨(0 : Int), (⟨(0 : Int), (0 : Int), (0 : Int)⟩ : T_api_Spot)⟩ : T_api_Fault)))) rfl rfl (bin_neq_agg (by kernel_rfl) (EqR.agg U36 (by kernel_rfl) (EqF.cons (by decide) (PartR.one U28 rfl rfl) (PartR.one U28 rfl rfl) (EqR.int U28) (EqF.cons (by decide) (PartR.many U34 rfl sz34) (PartR.many U34 rfl sz34) (EqR.agg U34 (by kernel_rfl) (EqF.cons (by decide) (PartR.one U3 rfl rfl) (PartR.one U3 rfl rfl) (EqR.int U3) (EqF.cons (by decide) (PartR.one U3 rfl rfl) (PartR.one U3 rfl rfl) (EqR.int U3) (EqF.cons (by decide) (PartR.one U3 rfl rfl) (PartR.one U3 rfl rfl) (EqR.int U3) EqF.nil)))) EqF.nil))))) <|
      E rfl (mv (.bool (!(T_api_Fault.eqb z159.2.1 (⟨(0 : Int), (⟨(0 : Int), (0 : Int), (0 : Int)⟩ : T_api_Spot)⟩ : T_api_Fault)))) rfl) ?_
     rcases condE H with ⟨c183, H⟩ | ⟨c183, H⟩
     ·
      refine WL.guardNo rfl rfl rfl (vb c183 rfl) <|
       WL.guardNo rfl rfl rfl (vb c183 rfl) <|
       WL.guardNo rfl rfl rfl (vb c183 rfl) <|
       E rfl (ex_pick_t (v := .bool true) (vb c183 rfl) rfl) <|
       E rfl (mv (.bool true) rfl) <|
       WL.guardNo rfl rfl rfl rfl <|
       WL.guardNo rfl rfl rfl rfl <|
       WL.guardNo rfl rfl rfl rfl <|
       WL.guardNo rfl rfl rfl rfl <|
       E rfl (ex_pick_t (v := .bool true) rfl rfl) <|
       WL.nil ?_
      obtain rfl := Option.some.inj H
      have k170_173 := s170.t s173
      replace hB163 := hB163.step k170_173 rfl
      replace hO165 := hO165.step k170_173 rfl rfl
      replace hM166 := hM166.step k170_173 rfl
      replace HF := HF.step k170_173 rfl
      have k162_173 := s162.t k170_173
      replace hG := hG.step k162_173 rfl
      exact ⟨_, HF, hB163, hO165, hM166, hG, s2_151, s3_151, s5_151, s6_151, rfl⟩
     ·
      refine WL.guardYes rfl rfl rfl (vb c183 rfl) <|
       OW.ex rfl (mv (ii z159.1) rfl) <|
       WL.guardYes rfl rfl rfl (vb c183 rfl) <|
       OW.ex rfl (mv (ii x119) s6_151) <|
       WL.guardYes rfl rfl rfl (vb c183 rfl) <|
       OW.ex rfl (e2 bin_neq rfl rfl) <|
       E rfl (ex_pick_f (v := .bool (z159.1 != x119)) (vb c183 rfl) rfl) <|
       E rfl (mv (.bool (z159.1 != x119)) rfl) ?_
      rcases condE H with ⟨c184, H⟩ | ⟨c184, H⟩
      ·
       refine WL.guardNo rfl rfl rfl (vb c184 rfl) <|
        WL.guardNo rfl rfl rfl (vb c184 rfl) <|
        WL.guardNo rfl rfl rfl (vb c184 rfl) <|
        WL.guardNo rfl rfl rfl (vb c184 rfl) <|
        E rfl (ex_pick_t (v := .bool true) (vb c184 rfl) rfl) <|
        WL.nil ?_
       obtain rfl := Option.some.inj H
       have k170_173 := s170.t s173
       replace hB163 := hB163.step k170_173 rfl
       replace hO165 := hO165.step k170_173 rfl rfl
       replace hM166 := hM166.step k170_173 rfl
       replace HF := HF.step k170_173 rfl
       have k162_173 := s162.t k170_173
       replace hG := hG.step k162_173 rfl
       exact ⟨_, HF, hB163, hO165, hM166, hG, s2_151, s3_151, s5_151, s6_151, rfl⟩
      ·
       refine WL.guardYes rfl rfl rfl (vb c184 rfl) <|
        OW.ex rfl (mv (pp b105 0) s3_151) <|
        WL.guardYes rfl rfl rfl (vb c184 rfl) ?_
       obtain ⟨z185, hz185, H⟩ := bindE H
       have k170_173 := s170.t s173
       replace hB163 := hB163.step k170_173 rfl
       replace hO165 := hO165.step k170_173 rfl rfl
       replace hM166 := hM166.step k170_173 rfl
       replace HF := HF.step k170_173 rfl
       refine OW.call [pp b105 0] rfl Tryz.func8 (by kernel_rfl) (by kernel_rfl) (map_cons' rfl rfl) (formula_Table_Len.calls _ _ b105 v164 b109 (a0 := z159.2.2.1) hz185 (HF.ten (V := [0]) (L := [40, 41, 42]) rfl) (Bk.vw hB163 rfl) (Own.vw hO165 rfl rfl) (Mp.vw hM166 rfl)) ?_
       rintro _ w186 ⟨o187, rfl, s188⟩
       refine ⟨_, rfl, ?_⟩
       replace s188 := un_stepL (J := []) (L' := []) s188 rfl rfl
       refine WL.guardYes rfl rfl rfl (vb c184 rfl) <|
        OW.ex rfl (mv (ii z115) s5_151) <|
        WL.guardYes rfl rfl rfl (vb c184 rfl) <|
        OW.ex rfl (e2 bin_neq rfl rfl) <|
        E rfl (ex_pick_f (v := .bool (z185 != z115)) (vb c184 rfl) rfl) <|
        WL.nil ?_
       obtain rfl := Option.some.inj H
       replace hB163 := hB163.step s188 rfl
       replace hO165 := hO165.step s188 rfl rfl
       replace hM166 := hM166.step s188 rfl
       replace HF := HF.step s188 rfl
       have k162_188 := ((s162.t s170).t s173).t s188
       replace hG := hG.step k162_188 rfl
       exact ⟨_, HF, hB163, hO165, hM166, hG, s2_151, s3_151, s5_151, s6_151, rfl⟩
   have Ho189 := H
   replace H := hz153
   refine WC.region <|
    E rfl (mv (ii z148.2) rfl) ?_
   obtain ⟨z190, hz190, H⟩ := bindE H
   refine WL.op rfl ?_
   replace HF := HF.step s151 rfl
   refine OW.call [ii z148.2] rfl Tryz.func10 (by kernel_rfl) (by kernel_rfl) (map_cons' rfl rfl) (dictumlaw04_num.calls _ _ hz190 (HF.ten (V := [0]) (L := []) rfl) ) ?_
   rintro _ w191 ⟨o192, rfl, s193⟩
   refine ⟨_, rfl, ?_⟩
   replace s193 := un_stepL (J := []) (L' := []) s193 rfl rfl
   refine E rfl (e2 bin_neq rfl rfl) <|
    E rfl (mv (.bool (z190 != 0)) rfl) ?_
   rcases condE H with ⟨c194, H⟩ | ⟨c194, H⟩
   ·
    refine WL.guardNo rfl rfl rfl (vb c194 rfl) <|
     WL.guardNo rfl rfl rfl (vb c194 rfl) <|
     WL.guardNo rfl rfl rfl (vb c194 rfl) <|
     E rfl (ex_pick_t (v := .bool true) (vb c194 rfl) rfl) <|
     WL.nil ?_
    obtain rfl := Option.some.inj H
    replace HF := HF.step s193 rfl
    have k151_193 := s151.t s193
    replace hB106 := hB106.step k151_193 rfl
    replace hO122 := hO122.step k151_193 rfl rfl
    replace hM110 := hM110.step k151_193 rfl
    replace hG := hG.step k151_193 rfl
    exact ⟨_, HF, hB106, hO122, hM110, hG, s2_130, s3_130, s5_130, s6_130, rfl, rfl⟩
   ·
    refine WL.guardYes rfl rfl rfl (vb c194 rfl) <|
     OW.ex rfl (mv (encS z148.1) rfl) <|
     WL.guardYes rfl rfl rfl (vb c194 rfl) ?_
    obtain ⟨z195, hz195, H⟩ := bindE H
    replace HF := HF.step s193 rfl
    have k151_193 := s151.t s193
    replace hG := hG.step k151_193 rfl
    refine OW.call [encS z148.1] rfl Tryz.func11 (by kernel_rfl) (by kernel_rfl) (map_cons' rfl rfl) (syntax_Count.calls k _ _ hz195 (HF.ten (V := [0]) (L := []) rfl) (Gl.vw hG rfl)) ?_
    rintro _ w196 ⟨o197, rfl, s198⟩
    refine ⟨_, rfl, ?_⟩
    replace s198 := un_stepL (J := []) (L' := []) s198 rfl rfl
    refine WL.guardYes rfl rfl rfl (vb c194 rfl) <|
     OW.ex rfl (e2 bin_gtr rfl rfl) <|
     E rfl (ex_pick_f (v := .bool (decide (z195 > 512))) (vb c194 rfl) rfl) <|
     WL.nil ?_
    obtain rfl := Option.some.inj H
    replace hG := hG.step s198 rfl
    replace HF := HF.step s198 rfl
    have k151_198 := k151_193.t s198
    replace hB106 := hB106.step k151_198 rfl
    replace hO122 := hO122.step k151_198 rfl rfl
    replace hM110 := hM110.step k151_198 rfl
    exact ⟨_, HF, hB106, hO122, hM110, hG, s2_130, s3_130, s5_130, s6_130, rfl, rfl⟩
  ·
   refine WC.cond_f (vb c137 s24_131) <|
    WC.exit ?_
   obtain rfl := Option.some.inj H
   exact ⟨_, HF, hG, s2_130, rfl⟩
 have Ho199 := H
 replace H := hz132
 refine WC.region <|
  E rfl (mv (ii x119) s6_119) <|
  E rfl (mv (ii z115) s5_118) <|
  E rfl (e2 bin_lss rfl rfl) <|
  E rfl (mv (.bool (decide (x119 < z115))) rfl) ?_
 rcases condE H with ⟨c200, H⟩ | ⟨c200, H⟩
 ·
  refine WL.guardYes rfl rfl rfl (vb c200 rfl) <|
   OW.ex rfl (mv (ii x119) s6_119) <|
   WL.guardYes rfl rfl rfl (vb c200 rfl) <|
   OW.ex rfl (e2 bin_lss rfl rfl) <|
   E rfl (ex_pick_t (v := .bool (decide (x119 < 40))) (vb c200 rfl) rfl) <|
   WL.nil ?_
  obtain rfl := Option.some.inj H
  exact ⟨_, HF, hB106, hO122, hM110, hG, s2_118, s3_118, s5_118, s6_119, rfl⟩
 ·
  refine WL.guardNo rfl rfl rfl (vb c200 rfl) <|
   WL.guardNo rfl rfl rfl (vb c200 rfl) <|
   E rfl (ex_pick_f (v := .bool false) (vb c200 rfl) rfl) <|
   WL.nil ?_
  obtain rfl := Option.some.inj H
  exact ⟨_, HF, hB106, hO122, hM110, hG, s2_118, s3_118, s5_118, s6_119, rfl⟩
end Go.Proofs.YtpmkkhkphddfeaaGreatDoor.X
