import Derived.Test.YtpmkkhkphddfeaaGreatDoorXAW2
set_option maxRecDepth 20000
set_option linter.unusedVariables false
set_option linter.unusedSimpArgs false
set_option linter.unnecessarySimpa false
namespace Go.Proofs.YtpmkkhkphddfeaaGreatDoor.X
open Go Go.RowKit Go.Proofs.YtpmkkhkphddfeaaGreatDoor.SX
/-! ### syntax_Parse -/
set_option maxRecDepth 100000 in
theorem syntax_Parse.calls (k : Nat) (o0 : Tags) (w0 : World) (pb0 : Nat) (pv0_0 : Value) (pb0_1 : Nat) {a0 : T_formula_Table} {a1 : List UInt8} {a0_1 : (List (T_api_Node × Int))} {r : Int × T_api_Fault × T_formula_Table × (List (T_api_Node × Int))} (H : syntax_Parse.f k a0 a1 a0_1 = some r) (hO : ∀ b, b < w0.heap.size → o0 b < 40) (hB0 : Bk o0 w0 2 pb0 [pv0_0, .map (some pb0_1)] 56) (hO0_0 : Own T_api_Node.rep 60 3 o0 w0 pv0_0 a0.f_rows) (hM0_1 : Mp (fun x_ : T_api_Node => Value.agg #[ii x_.f_Kind, encS x_.f_Name, ii x_.f_L, ii x_.f_R]) (fun v_ : Int => ii v_) 4 o0 w0 pb0_1 a0_1) (hG : Gl GG o0 w0) :
  Calls Tryz.prog 12 [pp pb0 0, encS a1].toArray w0 fun e_ w_ => ∃ (o_ : Tags) (u0_0 : Value), e_ = .returned (one [ii r.1, .agg #[ii r.2.1.f_Code, ii r.2.1.f_At.f_Line, ii r.2.1.f_At.f_Col, ii r.2.1.f_At.f_Off]]) ∧ Step o0 w0 o_ w_ [2, 3, 4] ∧ Bk o_ w_ 2 pb0 [u0_0, .map (some pb0_1)] 56 ∧ Own T_api_Node.rep 60 3 o_ w_ u0_0 r.2.2.1.f_rows ∧ Mp (fun x_ : T_api_Node => Value.agg #[ii x_.f_Kind, encS x_.f_Name, ii x_.f_L, ii x_.f_R]) (fun v_ : Int => ii v_) 4 o_ w_ pb0_1 r.2.2.2 := by
 have HF := Fm.refl hO [2, 3, 4]
 unfold syntax_Parse.f at H
 refine SX.calls [pp pb0 0, encS a1] Tryz.func12 rfl rfl ?_
 rw [Tryz.ntmps12]
 refine WC.seq <|
  WC.region <|
  E rfl (sg (ii 0) rfl) <|
  WL.op rfl <|
  OW.alloc' [ii (0 : Int), ii (0 : Int), ii (0 : Int), ii (0 : Int)] 40 HF rfl zr36 rfl ?_
 intro o102 w103 b101 s104 hB105
 refine WL.nil <|
  WC.seq <|
  WC.seq <|
  WC.region <|
  E rfl (mv (pp pb0 0) rfl) ?_
 obtain ⟨z106, hz106, H⟩ := bindE H
 refine WL.op rfl ?_
 replace hO0_0 := hO0_0.step s104 rfl rfl
 replace hB0 := hB0.step s104 rfl
 replace hM0_1 := hM0_1.step s104 rfl
 replace HF := HF.step s104 rfl
 refine OW.call [pp pb0 0] rfl Tryz.func23 (by kernel_rfl) (by kernel_rfl) (map_cons' rfl rfl) (syntax_known.calls k _ _ pb0 pv0_0 pb0_1 (a0 := a0) hz106 (HF.ten (V := [0]) (L := [2, 3, 4]) rfl) (Bk.vw hB0 rfl) (Own.vw hO0_0 rfl rfl) (Mp.vw hM0_1 rfl)) ?_
 rintro _ w107 ⟨o108, rfl, s109⟩
 refine ⟨_, rfl, ?_⟩
 replace s109 := un_stepL (J := []) (L' := []) s109 rfl rfl
 refine E rfl (ex_not (b := z106) rfl) <|
  WL.nil ?_
 rcases condE H with ⟨c110, H⟩ | ⟨c110, H⟩
 ·
  refine WC.cond_t (vb c110 rfl) <|
   WC.seq <|
   WC.region <|
   E rfl (ex_build (cs := [ii 1, ii (0 : Int), ii (0 : Int), ii (0 : Int)]) [(0, 1), (1, 3)] [(0, ii 1)] [ii 0, ii 0, ii 0, ii 0] U36 zr36 rfl (by kernel_rfl) (evs_cons rfl rfl) rfl) <|
   E rfl (sg (ii 0) rfl) <|
   WL.op rfl ?_
  replace hB105 := hB105.step s109 rfl
  refine OW.storeW rfl rfl sz36 hB105 rfl (oa rfl) ?_
  intro w111 s112 hB113
  refine WL.nil <|
   WC.ret ?_
  obtain rfl := Option.some.inj H
  have k109_112 := s109.t s112
  replace hO0_0 := hO0_0.step k109_112 rfl rfl
  replace hB0 := hB0.step k109_112 rfl
  replace hM0_1 := hM0_1.step k109_112 rfl
  replace HF := HF.step k109_112 rfl
  exact ⟨_, (.tmp _ rfl (.cell _ rfl (run_loadN (cs := [ii 1, ii (0 : Int), ii (0 : Int), ii (0 : Int)]) U36 rfl sz36 (hB113.cells rfl)) .nil)), _, pv0_0, rfl, HF.out, hB0, hO0_0, hM0_1⟩
 ·
  refine WC.cond_f (vb c110 rfl) <|
   WC.skip <|
   WC.seq <|
   WC.region <|
   E rfl (mv (encS a1) rfl) ?_
  obtain ⟨z114, hz114, H⟩ := bindE H
  refine WL.op rfl ?_
  replace HF := HF.step s109 rfl
  have k104_109 := s104.t s109
  replace hG := hG.step k104_109 rfl
  refine OW.call [encS a1] rfl Tryz.func28 (by kernel_rfl) (by kernel_rfl) (map_cons' rfl rfl) (syntax_ahead.calls k _ _ hz114 (HF.ten (V := [0]) (L := []) rfl) (Gl.vw hG rfl)) ?_
  rintro _ w115 ⟨o116, v118, rfl, s117, hO119⟩
  refine ⟨_, rfl, ?_⟩
  replace hO119 := Own.un9 (J := [41]) 0 hO119 rfl s117 rfl rfl
  replace s117 := un_stepL (J := [41]) (L' := []) s117 rfl rfl
  refine E rfl (mv (.tuple #[v118, .agg #[ii z114.2.f_Code, ii z114.2.f_At.f_Line, ii z114.2.f_At.f_Col, ii z114.2.f_At.f_Off]]) rfl) <|
   E rfl (ex_extract rfl rfl) <|
   E rfl (ex_extract rfl rfl) <|
   WL.op rfl ?_
  replace HF := HF.step s117 rfl
  refine OW.alloc' [ii (0 : Int), ii (0 : Int), ii (0 : Int), ii (0 : Int)] 42 HF rfl zr36 rfl ?_
  intro o121 w122 b120 s123 hB124
  refine E rfl (sg v118 rfl) <|
   WL.op rfl <|
   OW.storeW rfl rfl sz36 hB124 rfl (oa rfl) ?_
  intro w125 s126 hB127
  refine WL.nil <|
   WC.seq <|
   WC.region <|
   E rfl (sg (ii 0) rfl) <|
   WL.nil <|
   WC.seq <|
   WC.seq <|
   WC.region <|
   E rfl (mv v118 rfl) ?_
  have k123_126 := s123.t s126
  replace hO119 := hO119.step k123_126 rfl rfl
  obtain ⟨A128, c129, q130⟩ := hO119.slice
  refine E rfl (ex_len_slice ((show _ = (v118 : Value) from rfl).trans q130) U71) <|
   E rfl (mv (ii 0) rfl) <|
   WL.nil ?_
  obtain ⟨z133, hz133, H⟩ := bindE H
  replace HF := HF.step k123_126 rfl
  have k117_126 := s117.t k123_126
  replace hG := hG.step k117_126 rfl
  have k109_126 := s109.t k117_126
  replace hO0_0 := hO0_0.step k109_126 rfl rfl
  replace hB0 := hB0.step k109_126 rfl
  replace hM0_1 := hM0_1.step k109_126 rfl
  replace hB105 := hB105.step k109_126 rfl
  refine WC.for (fun k_ ρ_ w_ => ∃ (o_ : Tags) (x131 : Int) (x132 : Int), Fm o0 w0 o_ w_ [2, 3, 4] ∧ Own T_api_Token.rep 76 41 o_ w_ v118 z114.1 ∧ Bk o_ w_ 2 pb0 [pv0_0, .map (some pb0_1)] 56 ∧ Own T_api_Node.rep 60 3 o_ w_ pv0_0 a0.f_rows ∧ Mp (fun x_ : T_api_Node => Value.agg #[ii x_.f_Kind, encS x_.f_Name, ii x_.f_L, ii x_.f_R]) (fun v_ : Int => ii v_) 4 o_ w_ pb0_1 a0_1 ∧ Bk o_ w_ 40 b101 [ii (0 : Int), ii (0 : Int), ii (0 : Int), ii (0 : Int)] 36 ∧ Bk o_ w_ 42 b120 [ii z114.2.f_Code, ii z114.2.f_At.f_Line, ii z114.2.f_At.f_Col, ii z114.2.f_At.f_Off] 36 ∧ Gl GG o_ w_ ∧ ρ_ 0 = pp pb0 0 ∧ ρ_ 4 = ii 0 ∧ ρ_ 5 = pp b101 0 ∧ ρ_ 6 = v118 ∧ ρ_ 7 = pp b120 0 ∧ ρ_ 8 = ii x131 ∧ ρ_ 23 = v118 ∧ ρ_ 24 = ii (z114.1.length : Int) ∧ ρ_ 25 = ii x132 ∧ syntax_Parse.l1 k a0 a0_1 z114 k_ x131 x132 = some z133) k (fun ρ_ w_ => ∃ (o_ : Tags), Fm o0 w0 o_ w_ [2, 3, 4] ∧ Own T_api_Token.rep 76 41 o_ w_ v118 z114.1 ∧ Bk o_ w_ 2 pb0 [pv0_0, .map (some pb0_1)] 56 ∧ Own T_api_Node.rep 60 3 o_ w_ pv0_0 a0.f_rows ∧ Mp (fun x_ : T_api_Node => Value.agg #[ii x_.f_Kind, encS x_.f_Name, ii x_.f_L, ii x_.f_R]) (fun v_ : Int => ii v_) 4 o_ w_ pb0_1 a0_1 ∧ Bk o_ w_ 40 b101 [ii (0 : Int), ii (0 : Int), ii (0 : Int), ii (0 : Int)] 36 ∧ Bk o_ w_ 42 b120 [ii z114.2.f_Code, ii z114.2.f_At.f_Line, ii z114.2.f_At.f_Col, ii z114.2.f_At.f_Off] 36 ∧ Gl GG o_ w_ ∧ ρ_ 0 = pp pb0 0 ∧ ρ_ 4 = ii 0 ∧ ρ_ 5 = pp b101 0 ∧ ρ_ 6 = v118 ∧ ρ_ 7 = pp b120 0 ∧ z133 = .inr ()) ⟨_, 0, 0, HF, hO119, hB0, hO0_0, hM0_1, hB105, hB127, hG, rfl, rfl, rfl, rfl, rfl, rfl, rfl, rfl, rfl, hz133⟩ ?case134 ?_
  case case134 =>
   rintro ρ180 w181 ⟨o182, HF, hO119, hB0, hO0_0, hM0_1, hB105, hB127, hG, s0_132, s4_132, s5_132, s6_132, s7_132, rfl⟩
   dsimp only at H
   refine WC.seq <|
    WC.region <|
    E rfl (mv (pp pb0 0) s0_132) <|
    E rfl (mv v118 s6_132) <|
    E rfl (ex_build (cs := [pp pb0 0, v118, ii (0 : Int), ii (0 : Int), ii (0 : Int), .bool false, .bool false]) [(0, 1), (1, 1), (2, 1), (3, 1), (4, 1), (5, 1), (6, 1)] [(0, pp pb0 0), (1, v118)] [.pointer none, .slice none 0 0, ii 0, ii 0, ii 0, .bool false, .bool false] U80 zr80 rfl (by kernel_rfl) (evs_cons rfl (evs_cons rfl rfl)) (by simp only [List.map_cons, List.map_nil, Own.cells1 hO119] <;> rfl)) <|
    WL.op rfl <|
    OW.box' [pp pb0 0, v118, ii (0 : Int), ii (0 : Int), ii (0 : Int), .bool false, .bool false] 44 HF rfl ((congrArg Value.cells (show ev _ _ = (.agg #[pp pb0 0, v118, ii (0 : Int), ii (0 : Int), ii (0 : Int), .bool false, .bool false] : Value) from rfl)).trans rfl) ?_
   intro o184 w185 b183 s186 hB187
   refine WL.op rfl ?_
   replace HF := HF.step s186 rfl
   refine OW.alloc' [.pointer none] 45 HF rfl zr78 rfl ?_
   intro o189 w190 b188 s191 hB192
   refine WL.op rfl <|
    OW.storeW rfl rfl sz78 hB192 rfl (oa rfl) ?_
   intro w193 s194 hB195
   refine WL.nil <|
    WC.seq <|
    WC.region <|
    WL.op rfl ?_
   have k191_194 := s191.t s194
   replace HF := HF.step k191_194 rfl
   refine OW.alloc' [ii (0 : Int)] 46 HF rfl zr3 rfl ?_
   intro o197 w198 b196 s199 hB200
   refine WL.op rfl <|
    OW.storeW rfl rfl sz3 hB200 rfl (oa rfl) ?_
   intro w201 s202 hB203
   refine WL.nil <|
    WC.seq <|
    WC.region ?_
   have k199_202 := s199.t s202
   replace hB195 := hB195.step k199_202 rfl
   refine E rfl (ex_load1 rfl U78 rfl (hB195.cell rfl)) <|
    E rfl (ex_makeFuncC [pp b188 0, pp b196 0, pp b120 0] (map_cons' rfl (map_cons' rfl (map_cons' s7_132 rfl)))) ?_
   have k186_202 := ((s186.t s191).t s194).t k199_202
   replace hO119 := hO119.step k186_202 rfl rfl
   obtain ⟨A204, c205, rfl, hl206, hr207⟩ := hO119.pubRow
   replace hB0 := hB0.step k186_202 rfl
   replace hB0 := hB0.pub 41 rfl
   replace hO0_0 := hO0_0.step k186_202 rfl rfl
   replace hO0_0 := hO0_0.pub 41 rfl
   replace hM0_1 := hM0_1.step k186_202 rfl
   replace hM0_1 := hM0_1.pub 41 rfl
   replace hB105 := hB105.step k186_202 rfl
   replace hB105 := hB105.pub 41 rfl
   replace hB127 := hB127.step k186_202 rfl
   replace hB127 := hB127.pub 41 rfl
   replace hG := hG.step k186_202 rfl
   replace hG := hG.pub 41
   have k191_202 := k191_194.t k199_202
   replace hB187 := hB187.step k191_202 rfl
   replace hB187 := hB187.pub 41 rfl
   replace hB195 := hB195.pub 41 rfl
   replace hB203 := hB203.pub 41 rfl
   replace HF := HF.step k199_202 rfl
   replace HF := HF.pub 41 rfl
   obtain ⟨z208, hz208, H⟩ := bindE H
   refine WL.op rfl <|
    OW.call [pp b183 0, .func (.func 31) #[] #[pp b188 0, pp b196 0, pp b120 0]] rfl Tryz.func30 (by kernel_rfl) (by kernel_rfl) (map_cons' rfl (map_cons' rfl rfl)) (syntax_reader_read_syntax_Parse_1.calls k _ _ b183 A204 c205 pb0 pv0_0 b188 b196 b120 pb0_1 (a0 := (⟨z114.1, (0 : Int), (0 : Int), (0 : Int), false, false⟩ : T_syntax_reader)) (a0_0 := a0) (a1_2 := z114.2) hz208 (HF.ten (V := [0]) (L := [44, 2, 3, 45, 46, 42, 4]) rfl) (Bk.vw hB187 rfl) (Row.vw hr207 rfl) hl206 (Bk.vw hB0 rfl) (Own.vw hO0_0 rfl rfl) (Bk.vw hB195 rfl) (Bk.vw hB203 rfl) (Bk.vw hB127 rfl) (Mp.vw hM0_1 rfl)) ?_
   rintro _ w209 ⟨o210, A213, c214, v218, rfl, s211, hB212, hl215, hr216, hB217, hO219, hB220, hM221⟩
   refine ⟨_, rfl, ?_⟩
   replace hB212 := Bk.unO (J := []) 0 hB212 s211 rfl rfl rfl
   replace hr216 := hr216.un (J := []) s211
   replace hB217 := Bk.unO (J := []) 1 hB217 s211 rfl rfl rfl
   replace hO219 := Own.unO (J := []) 2 hO219 s211 rfl rfl rfl
   replace hB220 := Bk.unO (J := []) 4 hB220 s211 rfl rfl rfl
   replace hM221 := Mp.unO (J := []) 6 hM221 s211 rfl rfl rfl
   replace s211 := un_stepL (J := []) (L' := [44, 2, 3, 46, 4]) s211 rfl rfl
   refine WL.op rfl ?_
   replace HF := HF.step s211 rfl
   refine OW.alloc' [ii (0 : Int), ii (0 : Int), ii (0 : Int), ii (0 : Int)] 47 HF rfl zr36 rfl ?_
   intro o223 w224 b222 s225 hB226
   refine WL.op rfl <|
    OW.storeW rfl rfl sz36 hB226 rfl (oa rfl) ?_
   intro w227 s228 hB229
   refine WL.nil <|
    WC.seq <|
    WC.seq <|
    WC.region <|
    E rfl (ex_fieldAddr rfl U36 rfl sz28) <|
    E rfl (ex_load1 rfl U28 rfl (hB229.cell rfl)) <|
    E rfl (e2 bin_neq rfl rfl) <|
    WL.nil ?_
   rcases condE H with ⟨c230, H⟩ | ⟨c230, H⟩
   ·
    refine WC.cond_t (vb c230 rfl) <|
     WC.seq ?_
    have k225_228 := s225.t s228
    replace HF := HF.step k225_228 rfl
    refine WC.regionD' HF [] 2 3 (by kernel_rfl) rfl ?_
    intro w231 s232
    replace hB229 := hB229.step s232 rfl
    have hB229D := hB229
    replace HF := HF.step s232 rfl
    have sR := HF.here []
    refine WA.seq [0, 1] (lb 3 3) 1 (by kernel_rfl) rfl ⟨_, sR⟩ <|
     X1 rfl (fun w_ hS_ => ex_loadN (cs := [ii z208.1.f_Code, ii z208.1.f_At.f_Line, ii z208.1.f_At.f_Col, ii z208.1.f_At.f_Off]) rfl U36 rfl sz36 ((hB229D.step hS_.choose_spec rfl).cells rfl)) <|
     X1 rfl (fun w_ hS_ => ex_assign (v := ii 0) rfl) <|
     WA.last 2 (by kernel_rfl) (by kernel_rfl) rfl rfl rfl ?_
    have k211_232 := ((s211.t s225).t s228).t s232
    replace hB105 := hB105.step k211_232 rfl
    refine OW.storeW rfl s5_132 sz36 hB105 rfl (oa rfl) ?_
    intro w233 s234 hB235
    refine WC.ret ?_
    obtain rfl := Option.some.inj H
    replace HF := HF.step s234 rfl
    have k225_234 := (k225_228.t s232).t s234
    replace hB217 := hB217.step k225_234 rfl
    replace hO219 := hO219.step k225_234 rfl rfl
    replace hM221 := hM221.step k225_234 rfl
    exact ⟨_, (.tmp _ rfl (.cell _ s5_132 (run_loadN (cs := [ii z208.1.f_Code, ii z208.1.f_At.f_Line, ii z208.1.f_At.f_Col, ii z208.1.f_At.f_Off]) U36 rfl sz36 (hB235.cells rfl)) .nil)), _, v218, rfl, HF.out, hB217, hO219, hM221⟩
   ·
    refine WC.cond_f (vb c230 rfl) <|
     WC.skip <|
     WC.seq ?_
    have k225_228 := s225.t s228
    replace HF := HF.step k225_228 rfl
    refine WC.regionD' HF [] 3 4 (by kernel_rfl) rfl ?_
    intro w236 s237
    have k225_237 := k225_228.t s237
    replace hB220 := hB220.step k225_237 rfl
    have hB220D := hB220
    replace hB229 := hB229.step s237 rfl
    have hB229D := hB229
    replace HF := HF.step s237 rfl
    have sR := HF.here []
    refine WA.seq [0, 1, 2] (lb 4 7) 1 (by kernel_rfl) rfl ⟨_, sR⟩ <|
     X1 rfl (fun w_ hS_ => ex_load1 (v := ii z208.2.2.2.1) rfl U3 rfl ((hB220D.step hS_.choose_spec rfl).cell rfl)) <|
     X1 rfl (fun w_ hS_ => ex_loadN (cs := [ii z208.1.f_Code, ii z208.1.f_At.f_Line, ii z208.1.f_At.f_Col, ii z208.1.f_At.f_Off]) rfl U36 rfl sz36 ((hB229D.step hS_.choose_spec rfl).cells rfl)) <|
     X1 rfl (fun w_ hS_ => ex_assign (v := ii z208.2.2.2.1) rfl) <|
     WA.last 3 (by kernel_rfl) (by kernel_rfl) rfl rfl rfl ?_
    have k211_237 := s211.t k225_237
    replace hB105 := hB105.step k211_237 rfl
    refine OW.storeW rfl s5_132 sz36 hB105 rfl (oa rfl) ?_
    intro w238 s239 hB240
    refine WC.ret ?_
    obtain rfl := Option.some.inj H
    replace HF := HF.step s239 rfl
    have k225_239 := k225_237.t s239
    replace hB217 := hB217.step k225_239 rfl
    replace hO219 := hO219.step k225_239 rfl rfl
    replace hM221 := hM221.step k225_239 rfl
    exact ⟨_, (.tmp _ rfl (.cell _ s5_132 (run_loadN (cs := [ii z208.1.f_Code, ii z208.1.f_At.f_Line, ii z208.1.f_At.f_Col, ii z208.1.f_At.f_Off]) U36 rfl sz36 (hB240.cells rfl)) .nil)), _, v218, rfl, HF.out, hB217, hO219, hM221⟩
  have Ho135 := H
  rintro k136 ρ137 w138 ⟨o139, x131, x132, HF, hO119, hB0, hO0_0, hM0_1, hB105, hB127, hG, s0_130, s4_130, s5_130, s6_130, s7_130, s8_131, s23_131, s24_131, s25_132, H⟩
  cases k136 with
  | zero => cases H
  | succ k136 =>
  rw [syntax_Parse.l1.eq_2] at H
  refine WC.seq <|
   WC.region <|
   E rfl (e2 bin_lss s25_132 s24_131) <|
   WL.nil <|
   WC.seq ?_
  rcases condE H with ⟨c140, H⟩ | ⟨c140, H⟩
  ·
   refine WC.cond_t (vb c140 rfl) <|
    WC.skip ?_
   obtain ⟨z142, hz142, H⟩ := bindE H
   refine WC.cut (fun ρ_ w_ => ∃ (o_ : Tags) (x141 : Int), Fm o0 w0 o_ w_ [2, 3, 4] ∧ Own T_api_Token.rep 76 41 o_ w_ v118 z114.1 ∧ Bk o_ w_ 2 pb0 [pv0_0, .map (some pb0_1)] 56 ∧ Own T_api_Node.rep 60 3 o_ w_ pv0_0 a0.f_rows ∧ Mp (fun x_ : T_api_Node => Value.agg #[ii x_.f_Kind, encS x_.f_Name, ii x_.f_L, ii x_.f_R]) (fun v_ : Int => ii v_) 4 o_ w_ pb0_1 a0_1 ∧ Bk o_ w_ 40 b101 [ii (0 : Int), ii (0 : Int), ii (0 : Int), ii (0 : Int)] 36 ∧ Bk o_ w_ 42 b120 [ii z114.2.f_Code, ii z114.2.f_At.f_Line, ii z114.2.f_At.f_Col, ii z114.2.f_At.f_Off] 36 ∧ Gl GG o_ w_ ∧ ρ_ 0 = pp pb0 0 ∧ ρ_ 4 = ii 0 ∧ ρ_ 5 = pp b101 0 ∧ ρ_ 6 = v118 ∧ ρ_ 7 = pp b120 0 ∧ ρ_ 8 = ii x141 ∧ ρ_ 23 = v118 ∧ ρ_ 24 = ii (z114.1.length : Int) ∧ ρ_ 25 = ii x132 ∧ z142 = .inr x141) ?case143 ?_
   case case143 =>
    rintro ρ146 w144 ⟨o145, x141, HF, hO119, hB0, hO0_0, hM0_1, hB105, hB127, hG, s0_140, s4_140, s5_140, s6_140, s7_140, s8_141, s23_141, s24_141, s25_141, rfl⟩
    replace H : _ = some _ := H
    dsimp only at H
    refine WC.region <|
     E rfl (e2 bin_add64 s25_141 rfl) <|
     E rfl (mv (ii (wrap64 (x132 + 1))) rfl) <|
     WL.nil ?_
    exact ⟨k136, Nat.lt_succ_self _, ⟨_, x141, wrap64 (x132 + 1), HF, hO119, hB0, hO0_0, hM0_1, hB105, hB127, hG, s0_140, s4_140, s5_140, s6_140, s7_140, s8_141, s23_141, s24_141, rfl, H⟩⟩
   have Ho147 := H
   replace H := hz142
   refine WC.block <|
    WC.seq <|
    WC.region ?_
   obtain ⟨x148, hx148, H⟩ := bindE H
   obtain ⟨A153, c154, q155_⟩ := hO119.slice
   obtain ⟨ad149, cc156, e150, g151, g152, hl157, hR158, cell159⟩ := Row.ix (Own.rowOf hO119 q155_) hx148
   obtain rfl := T_api_Token.opn hR158
   refine E rfl (ex_indexAddr (i := x132) ((show _ = (v118 : Value) from s23_131).trans q155_) e150 s25_132 U71 sz76 g151 g152) <|
    E rfl (ex_loadN (cs := [ii x148.f_Kind, encS x148.f_Text, ii x148.f_Int, ii x148.f_At.f_Line, ii x148.f_At.f_Col, ii x148.f_At.f_Off]) rfl U76 rfl sz76 cell159) <|
    WL.op rfl <|
    OW.alloc' [ii (0 : Int), encS ([] : List UInt8), ii (0 : Int), ii (0 : Int), ii (0 : Int), ii (0 : Int)] 43 HF rfl zr76 rfl ?_
   intro o162 w163 b161 s164 hB165
   refine WL.op rfl <|
    OW.storeW rfl rfl sz76 hB165 rfl (oa rfl) ?_
   intro w166 s167 hB168
   refine WL.nil <|
    WC.seq <|
    WC.region <|
    E rfl (ex_loadN (cs := [ii x148.f_Kind, encS x148.f_Text, ii x148.f_Int, ii x148.f_At.f_Line, ii x148.f_At.f_Col, ii x148.f_At.f_Off]) rfl U76 rfl sz76 (hB168.cells rfl)) ?_
   obtain ⟨z169, hz169, H⟩ := bindE H
   refine WL.op rfl ?_
   have k164_167 := s164.t s167
   replace HF := HF.step k164_167 rfl
   refine OW.call [.agg #[ii x148.f_Kind, encS x148.f_Text, ii x148.f_Int, ii x148.f_At.f_Line, ii x148.f_At.f_Col, ii x148.f_At.f_Off]] rfl Tryz.func29 (by kernel_rfl) (by kernel_rfl) (map_cons' rfl rfl) (syntax_counted.calls _ _ (a0 := x148) hz169 (HF.ten (V := [0]) (L := []) rfl) ) ?_
   rintro _ w170 ⟨o171, rfl, s172⟩
   refine ⟨_, rfl, ?_⟩
   replace s172 := un_stepL (J := []) (L' := []) s172 rfl rfl
   refine WL.nil ?_
   rcases condE H with ⟨c173, H⟩ | ⟨c173, H⟩
   ·
    refine WC.cond_t (vb c173 rfl) <|
     WC.seq <|
     WC.region <|
     E rfl (mv (ii x131) s8_131) <|
     E rfl (e2 bin_add64 rfl rfl) <|
     E rfl (sg (ii (wrap64 (x131 + 1))) rfl) <|
     WL.nil <|
     WC.seq <|
     WC.region <|
     E rfl (mv (ii (wrap64 (x131 + 1))) rfl) <|
     E rfl (e2 bin_gtr rfl rfl) <|
     WL.nil ?_
    rcases condE H with ⟨c174, H⟩ | ⟨c174, H⟩
    ·
     refine WC.cond_t (vb c174 rfl) <|
      WC.seq ?_
     replace HF := HF.step s172 rfl
     refine WC.regionD' HF [] 4 5 (by kernel_rfl) rfl ?_
     intro w175 s176
     have k172_176 := s172.t s176
     replace hB168 := hB168.step k172_176 rfl
     have hB168D := hB168
     replace HF := HF.step s176 rfl
     have sR := HF.here []
     refine WA.seq [0, 1, 2, 3] (lb 5 15) 1 (by kernel_rfl) rfl ⟨_, sR⟩ <|
      X1 rfl (fun w_ hS_ => ex_fieldAddr rfl U76 rfl sz34) <|
      X1 rfl (fun w_ hS_ => ex_loadN (cs := [ii x148.f_At.f_Line, ii x148.f_At.f_Col, ii x148.f_At.f_Off]) rfl U34 rfl sz34 ((hB168D.step hS_.choose_spec rfl).cells rfl)) <|
      X1 rfl (fun w_ hS_ => ex_build (cs := [ii 40, ii x148.f_At.f_Line, ii x148.f_At.f_Col, ii x148.f_At.f_Off]) [(0, 1), (1, 3)] [(0, ii 40), (1, .agg #[ii x148.f_At.f_Line, ii x148.f_At.f_Col, ii x148.f_At.f_Off])] [ii 0, ii 0, ii 0, ii 0] U36 zr36 rfl (by kernel_rfl) (evs_cons rfl (evs_cons rfl rfl)) rfl) <|
      X1 rfl (fun w_ hS_ => ex_assign (v := ii 0) rfl) <|
      WA.last 4 (by kernel_rfl) (by kernel_rfl) rfl rfl rfl ?_
     have k164_176 := k164_167.t k172_176
     replace hB105 := hB105.step k164_176 rfl
     refine OW.storeW rfl s5_130 sz36 hB105 rfl (oa rfl) ?_
     intro w177 s178 hB179
     refine WC.ret ?_
     obtain rfl := Option.some.inj H
     replace H := Ho147
     dsimp only at H
     obtain rfl := Option.some.inj H
     replace H := Ho135
     dsimp only at H
     obtain rfl := Option.some.inj H
     replace HF := HF.step s178 rfl
     have k164_178 := k164_176.t s178
     replace hB0 := hB0.step k164_178 rfl
     replace hO0_0 := hO0_0.step k164_178 rfl rfl
     replace hM0_1 := hM0_1.step k164_178 rfl
     exact ⟨_, (.tmp _ rfl (.cell _ s5_130 (run_loadN (cs := [ii 40, ii x148.f_At.f_Line, ii x148.f_At.f_Col, ii x148.f_At.f_Off]) U36 rfl sz36 (hB179.cells rfl)) .nil)), _, pv0_0, rfl, HF.out, hB0, hO0_0, hM0_1⟩
    ·
     refine WC.cond_f (vb c174 rfl) <|
      WC.skip ?_
     obtain rfl := Option.some.inj H
     replace HF := HF.step s172 rfl
     have k164_172 := k164_167.t s172
     replace hO119 := hO119.step k164_172 rfl rfl
     replace hB0 := hB0.step k164_172 rfl
     replace hO0_0 := hO0_0.step k164_172 rfl rfl
     replace hM0_1 := hM0_1.step k164_172 rfl
     replace hB105 := hB105.step k164_172 rfl
     replace hB127 := hB127.step k164_172 rfl
     replace hG := hG.step k164_172 rfl
     exact ⟨_, wrap64 (x131 + 1), HF, hO119, hB0, hO0_0, hM0_1, hB105, hB127, hG, s0_130, s4_130, s5_130, s6_130, s7_130, rfl, s23_131, s24_131, s25_132, rfl⟩
   ·
    refine WC.cond_f (vb c173 rfl) <|
     WC.skip ?_
    obtain rfl := Option.some.inj H
    replace HF := HF.step s172 rfl
    have k164_172 := k164_167.t s172
    replace hO119 := hO119.step k164_172 rfl rfl
    replace hB0 := hB0.step k164_172 rfl
    replace hO0_0 := hO0_0.step k164_172 rfl rfl
    replace hM0_1 := hM0_1.step k164_172 rfl
    replace hB105 := hB105.step k164_172 rfl
    replace hB127 := hB127.step k164_172 rfl
    replace hG := hG.step k164_172 rfl
    exact ⟨_, x131, HF, hO119, hB0, hO0_0, hM0_1, hB105, hB127, hG, s0_130, s4_130, s5_130, s6_130, s7_130, s8_131, s23_131, s24_131, s25_132, rfl⟩
  ·
   refine WC.cond_f (vb c140 rfl) <|
    WC.exit ?_
   obtain rfl := Option.some.inj H
   exact ⟨_, HF, hO119, hB0, hO0_0, hM0_1, hB105, hB127, hG, s0_130, s4_130, s5_130, s6_130, s7_130, rfl⟩

/-! ### syntax_Take_1 -/
set_option maxRecDepth 100000 in
theorem syntax_Take_1.calls (k : Nat) (o0 : Tags) (w0 : World) (pb0 : Nat) (pb1 : Nat) (pb0_0 : Nat) (pA0_0_1 : Option Addr) (pc0_0_1 : Nat) (pb0_0_0 : Nat) (pv0_0_0_0 : Value) (pb0_0_0_1 : Nat) {a1 : Int} {a0_0 : T_syntax_reader} {a0_0_0 : T_formula_Table} {a0_0_0_1 : (List (T_api_Node × Int))} {r : Exn (T_syntax_broken × Int × T_syntax_reader × T_formula_Table × (List (T_api_Node × Int))) (Int × T_syntax_reader × T_formula_Table × (List (T_api_Node × Int)))} (H : syntax_Take_1.f k a1 a0_0 a0_0_0 a0_0_0_1 = some r) (hO : ∀ b, b < w0.heap.size → o0 b < 40) (hB0 : Bk o0 w0 2 pb0 [pp pb0_0 0] 78) (hB1 : Bk o0 w0 3 pb1 [ii a1] 3) (hB0_0 : Bk o0 w0 4 pb0_0 [pp pb0_0_0 0, .slice pA0_0_1 a0_0.f_l.length pc0_0_1, ii a0_0.f_i, ii a0_0.f_names, ii a0_0.f_nest, .bool a0_0.f_counts, .bool a0_0.f_full] 80) (hra0_0_1 : Row T_api_Token.rep (fun b_ => o0 b_ = 0) (fun b_ => o0 b_ = 0) w0 pA0_0_1 a0_0.f_l) (hla0_0_1 : a0_0.f_l.length ≤ pc0_0_1) (hB0_0_0 : Bk o0 w0 5 pb0_0_0 [pv0_0_0_0, .map (some pb0_0_0_1)] 56) (hO0_0_0_0 : Own T_api_Node.rep 60 6 o0 w0 pv0_0_0_0 a0_0_0.f_rows) (hM0_0_0_1 : Mp (fun x_ : T_api_Node => Value.agg #[ii x_.f_Kind, encS x_.f_Name, ii x_.f_L, ii x_.f_R]) (fun v_ : Int => ii v_) 7 o0 w0 pb0_0_0_1 a0_0_0_1) :
  Calls Tryz.prog 60 [pp pb0 0, pp pb1 0].toArray w0 fun e_ w_ => ∃ (o_ : Tags), ((∃ p_, r = .ex p_ ∧ ∃ (B_2_1 : Option Addr) (d_2_1 : Nat) (u3_0 : Value), e_ = .panicked (pc (.iface 111 (.agg #[ii p_.1.f_f.f_Code, ii p_.1.f_f.f_At.f_Line, ii p_.1.f_f.f_At.f_Col, ii p_.1.f_f.f_At.f_Off]))) ∧ Step o0 w0 o_ w_ [3, 4, 5, 6, 7] ∧ Bk o_ w_ 3 pb1 [ii p_.2.1] 3 ∧ Bk o_ w_ 4 pb0_0 [pp pb0_0_0 0, .slice B_2_1 p_.2.2.1.f_l.length d_2_1, ii p_.2.2.1.f_i, ii p_.2.2.1.f_names, ii p_.2.2.1.f_nest, .bool p_.2.2.1.f_counts, .bool p_.2.2.1.f_full] 80 ∧ p_.2.2.1.f_l.length ≤ d_2_1 ∧ Row T_api_Token.rep (fun b_ => o_ b_ = 0) (fun b_ => o_ b_ = 0) w_ B_2_1 p_.2.2.1.f_l ∧ Bk o_ w_ 5 pb0_0_0 [u3_0, .map (some pb0_0_0_1)] 56 ∧ Own T_api_Node.rep 60 6 o_ w_ u3_0 p_.2.2.2.1.f_rows ∧ Mp (fun x_ : T_api_Node => Value.agg #[ii x_.f_Kind, encS x_.f_Name, ii x_.f_L, ii x_.f_R]) (fun v_ : Int => ii v_) 7 o_ w_ pb0_0_0_1 p_.2.2.2.2) ∨ ∃ q_, r = .ok q_ ∧ ∃ (B_2_1 : Option Addr) (d_2_1 : Nat) (u3_0 : Value), e_ = .returned (one []) ∧ Step o0 w0 o_ w_ [3, 4, 5, 6, 7] ∧ Bk o_ w_ 3 pb1 [ii q_.1] 3 ∧ Bk o_ w_ 4 pb0_0 [pp pb0_0_0 0, .slice B_2_1 q_.2.1.f_l.length d_2_1, ii q_.2.1.f_i, ii q_.2.1.f_names, ii q_.2.1.f_nest, .bool q_.2.1.f_counts, .bool q_.2.1.f_full] 80 ∧ q_.2.1.f_l.length ≤ d_2_1 ∧ Row T_api_Token.rep (fun b_ => o_ b_ = 0) (fun b_ => o_ b_ = 0) w_ B_2_1 q_.2.1.f_l ∧ Bk o_ w_ 5 pb0_0_0 [u3_0, .map (some pb0_0_0_1)] 56 ∧ Own T_api_Node.rep 60 6 o_ w_ u3_0 q_.2.2.1.f_rows ∧ Mp (fun x_ : T_api_Node => Value.agg #[ii x_.f_Kind, encS x_.f_Name, ii x_.f_L, ii x_.f_R]) (fun v_ : Int => ii v_) 7 o_ w_ pb0_0_0_1 q_.2.2.2) := by
 have HF := Fm.refl hO [3, 4, 5, 6, 7]
 unfold syntax_Take_1.f at H
 refine SX.calls [pp pb0 0, pp pb1 0] Tryz.func60 rfl rfl ?_
 rw [Tryz.ntmps60]
 refine WC.region <|
  E rfl (ex_load1 rfl U78 rfl (hB0.cell rfl)) ?_
 obtain ⟨z101, hz101, H⟩ := bindE H
 refine WL.op rfl <|
  OW.callP [pp pb0_0 0] rfl Tryz.func32 (by kernel_rfl) (by kernel_rfl) (map_cons' rfl rfl) (syntax_reader_formula.calls k _ _ pb0_0 pA0_0_1 pc0_0_1 pb0_0_0 pv0_0_0_0 pb0_0_0_1 (a0 := a0_0) (a0_0 := a0_0_0) hz101 (HF.ten (V := [0]) (L := [4, 5, 6, 7]) rfl) (Bk.vw hB0_0 rfl) (Row.vw hra0_0_1 rfl) hla0_0_1 (Bk.vw hB0_0_0 rfl) (Own.vw hO0_0_0_0 rfl rfl) (Mp.vw hM0_0_0_1 rfl)) ?_
 rintro _ w102 ⟨o103, (⟨p104, rfl, A109, c110, v114, rfl, s106, hB108, hl111, hr112, hB113, hO115, hM116⟩ | ⟨q105, rfl, A118, c119, v123, rfl, s107, hB117, hl120, hr121, hB122, hO124, hM125⟩)⟩
 ·
  refine Or.inr ⟨_, rfl, ?_⟩
  dsimp only at H
  replace hB108 := Bk.unO (J := []) 0 hB108 s106 rfl rfl rfl
  replace hr112 := hr112.un (J := []) s106
  replace hB113 := Bk.unO (J := []) 1 hB113 s106 rfl rfl rfl
  replace hO115 := Own.unO (J := []) 2 hO115 s106 rfl rfl rfl
  replace hM116 := Mp.unO (J := []) 3 hM116 s106 rfl rfl rfl
  replace s106 := un_stepL (J := []) (L' := [4, 5, 6, 7]) s106 rfl rfl
  obtain rfl := Option.some.inj H
  replace hB1 := hB1.step s106 rfl
  replace HF := HF.step s106 rfl
  exact ⟨_, Or.inl ⟨_, rfl, A109, c110, v114, rfl, HF.out, hB1, hB108, hl111, hr112, hB113, hO115, hM116⟩⟩
 ·
  refine Or.inl ⟨_, rfl, ?_⟩
  dsimp only at H
  replace hB117 := Bk.unO (J := []) 0 hB117 s107 rfl rfl rfl
  replace hr121 := hr121.un (J := []) s107
  replace hB122 := Bk.unO (J := []) 1 hB122 s107 rfl rfl rfl
  replace hO124 := Own.unO (J := []) 2 hO124 s107 rfl rfl rfl
  replace hM125 := Mp.unO (J := []) 3 hM125 s107 rfl rfl rfl
  replace s107 := un_stepL (J := []) (L' := [4, 5, 6, 7]) s107 rfl rfl
  refine WL.op rfl ?_
  replace hB1 := hB1.step s107 rfl
  refine OW.storeW rfl rfl sz3 hB1 rfl (oa rfl) ?_
  intro w126 s127 hB128
  refine WL.nil ?_
  obtain rfl := Option.some.inj H
  replace hB117 := hB117.step s127 rfl
  replace hr121 := hr121.step s127 rfl
  replace hB122 := hB122.step s127 rfl
  replace hO124 := hO124.step s127 rfl rfl
  replace hM125 := hM125.step s127 rfl
  have k107_127 := s107.t s127
  replace HF := HF.step k107_127 rfl
  exact ⟨_, .nil, _, Or.inr ⟨_, rfl, A118, c119, v123, rfl, HF.out, hB128, hB117, hl120, hr121, hB122, hO124, hM125⟩⟩

/-! ### syntax_reader_read_syntax_Take_1 -/
set_option maxRecDepth 100000 in
theorem syntax_reader_read_syntax_Take_1.calls (k : Nat) (o0 : Tags) (w0 : World) (pb0 : Nat) (pA0_1 : Option Addr) (pc0_1 : Nat) (pb0_0 : Nat) (pv0_0_0 : Value) (pb1_0 : Nat) (pb1_1 : Nat) (pb0_0_1 : Nat) {a0 : T_syntax_reader} {a0_0 : T_formula_Table} {a1_1 : Int} {a0_0_1 : (List (T_api_Node × Int))} {r : T_api_Fault × T_syntax_reader × T_formula_Table × Int × (List (T_api_Node × Int))} (H : syntax_reader_read_syntax_Take_1.f k a0 a0_0 a1_1 a0_0_1 = some r) (hO : ∀ b, b < w0.heap.size → o0 b < 40) (hB0 : Bk o0 w0 2 pb0 [pp pb0_0 0, .slice pA0_1 a0.f_l.length pc0_1, ii a0.f_i, ii a0.f_names, ii a0.f_nest, .bool a0.f_counts, .bool a0.f_full] 80) (hra0_1 : Row T_api_Token.rep (fun b_ => o0 b_ = 0) (fun b_ => o0 b_ = 0) w0 pA0_1 a0.f_l) (hla0_1 : a0.f_l.length ≤ pc0_1) (hB0_0 : Bk o0 w0 3 pb0_0 [pv0_0_0, .map (some pb0_0_1)] 56) (hO0_0_0 : Own T_api_Node.rep 60 4 o0 w0 pv0_0_0 a0_0.f_rows) (hB1_0 : Bk o0 w0 5 pb1_0 [pp pb0 0] 78) (hB1_1 : Bk o0 w0 6 pb1_1 [ii a1_1] 3) (hM0_0_1 : Mp (fun x_ : T_api_Node => Value.agg #[ii x_.f_Kind, encS x_.f_Name, ii x_.f_L, ii x_.f_R]) (fun v_ : Int => ii v_) 7 o0 w0 pb0_0_1 a0_0_1) :
  Calls Tryz.prog 30 [pp pb0 0, .func (.func 60) #[] #[pp pb1_0 0, pp pb1_1 0]].toArray w0 fun e_ w_ => ∃ (o_ : Tags) (B_0_1 : Option Addr) (d_0_1 : Nat) (u2_0 : Value), e_ = .returned (one [.agg #[ii r.1.f_Code, ii r.1.f_At.f_Line, ii r.1.f_At.f_Col, ii r.1.f_At.f_Off]]) ∧ Step o0 w0 o_ w_ [2, 3, 4, 6, 7] ∧ Bk o_ w_ 2 pb0 [pp pb0_0 0, .slice B_0_1 r.2.1.f_l.length d_0_1, ii r.2.1.f_i, ii r.2.1.f_names, ii r.2.1.f_nest, .bool r.2.1.f_counts, .bool r.2.1.f_full] 80 ∧ r.2.1.f_l.length ≤ d_0_1 ∧ Row T_api_Token.rep (fun b_ => o_ b_ = 0) (fun b_ => o_ b_ = 0) w_ B_0_1 r.2.1.f_l ∧ Bk o_ w_ 3 pb0_0 [u2_0, .map (some pb0_0_1)] 56 ∧ Own T_api_Node.rep 60 4 o_ w_ u2_0 r.2.2.1.f_rows ∧ Bk o_ w_ 6 pb1_1 [ii r.2.2.2.1] 3 ∧ Mp (fun x_ : T_api_Node => Value.agg #[ii x_.f_Kind, encS x_.f_Name, ii x_.f_L, ii x_.f_R]) (fun v_ : Int => ii v_) 7 o_ w_ pb0_0_1 r.2.2.2.2 := by
 have HF := Fm.refl hO [2, 3, 4, 6, 7]
 unfold syntax_reader_read_syntax_Take_1.f at H
 refine SX.callsD [pp pb0 0, .func (.func 60) #[] #[pp pb1_0 0, pp pb1_1 0]] Tryz.func30 rfl rfl ?_
 rw [Tryz.ntmps30]
 refine WC.seq <|
  WC.region <|
  WL.op rfl <|
  OW.box' [pp pb0 0] 40 HF rfl ((congrArg Value.cells (show ev _ _ = (pp pb0 0 : Value) from rfl)).trans rfl) ?_
 intro o102 w103 b101 s104 hB105
 refine WL.op rfl ?_
 replace HF := HF.step s104 rfl
 refine OW.alloc' [ii (0 : Int), ii (0 : Int), ii (0 : Int), ii (0 : Int)] 41 HF rfl zr36 rfl ?_
 intro o107 w108 b106 s109 hB110
 refine WL.nil <|
  WC.seq <|
  WC.region ?_
 replace hB105 := hB105.step s109 rfl
 refine E rfl (ex_load1 rfl U78 rfl (hB105.cell rfl)) <|
  E rfl (ex_nilCheck rfl) <|
  E rfl (ex_fieldAddr rfl U80 rfl sz23) ?_
 have k104_109 := s104.t s109
 replace hB0 := hB0.step k104_109 rfl
 refine E rfl (ex_load1 rfl U23 rfl (hB0.cell rfl)) ?_
 obtain ⟨z111, hz111, H⟩ := bindE H
 refine WL.op rfl ?_
 replace HF := HF.step s109 rfl
 replace hO0_0_0 := hO0_0_0.step k104_109 rfl rfl
 replace hB0_0 := hB0_0.step k104_109 rfl
 replace hM0_0_1 := hM0_0_1.step k104_109 rfl
 refine OW.call [pp pb0_0 0] rfl Tryz.func8 (by kernel_rfl) (by kernel_rfl) (map_cons' rfl rfl) (formula_Table_Len.calls _ _ pb0_0 pv0_0_0 pb0_0_1 (a0 := a0_0) hz111 (HF.ten (V := [0]) (L := [3, 4, 7]) rfl) (Bk.vw hB0_0 rfl) (Own.vw hO0_0_0 rfl rfl) (Mp.vw hM0_0_1 rfl)) ?_
 rintro _ w112 ⟨o113, rfl, s114⟩
 refine ⟨_, rfl, ?_⟩
 replace s114 := un_stepL (J := []) (L' := []) s114 rfl rfl
 refine WL.op rfl ?_
 replace HF := HF.step s114 rfl
 refine OW.alloc' [ii (0 : Int)] 42 HF rfl zr3 rfl ?_
 intro o116 w117 b115 s118 hB119
 refine WL.op rfl <|
  OW.storeW rfl rfl sz3 hB119 rfl (oa rfl) ?_
 intro w120 s121 hB122
 refine WL.nil <|
  WC.seq <|
  WC.region <|
  E rfl (ex_makeFuncC [pp b101 0, pp b115 0, pp b106 0] (map_cons' rfl (map_cons' rfl (map_cons' rfl rfl)))) <|
  WL.op rfl <|
  OW.defer [] [pp b101 0, pp b115 0, pp b106 0] rfl [] rfl <|
  WL.nil <|
  WC.seq <|
  WC.region <|
  E rfl (mv (.func (.func 60) #[] #[pp pb1_0 0, pp pb1_1 0]) rfl) ?_
 obtain ⟨z123, hz123, H⟩ := bindE H
 refine WL.op rfl ?_
 have k118_121 := s118.t s121
 replace HF := HF.step k118_121 rfl
 have k114_121 := s114.t k118_121
 replace hB0 := hB0.step k114_121 rfl
 replace hO0_0_0 := hO0_0_0.step k114_121 rfl rfl
 replace hB0_0 := hB0_0.step k114_121 rfl
 replace hM0_0_1 := hM0_0_1.step k114_121 rfl
 have k104_121 := k104_109.t k114_121
 replace hra0_1 := hra0_1.step k104_121 rfl
 replace hB1_0 := hB1_0.step k104_121 rfl
 replace hB1_1 := hB1_1.step k104_121 rfl
 refine OW.callFP [] [pp pb1_0 0, pp pb1_1 0] (show ev _ _ = .func (.func 60) #[] #[pp pb1_0 0, pp pb1_1 0] from rfl) [] rfl Tryz.func60 (by kernel_rfl) (by kernel_rfl) rfl (syntax_Take_1.calls k _ _ pb1_0 pb1_1 pb0 pA0_1 pc0_1 pb0_0 pv0_0_0 pb0_0_1 (a0_0 := a0) (a0_0_0 := a0_0) hz123 (HF.ten (V := [0]) (L := [5, 6, 2, 3, 4, 7]) rfl) (Bk.vw hB1_0 rfl) (Bk.vw hB1_1 rfl) (Bk.vw hB0 rfl) (Row.vw hra0_1 rfl) hla0_1 (Bk.vw hB0_0 rfl) (Own.vw hO0_0_0 rfl rfl) (Mp.vw hM0_0_1 rfl)) ?_
 rintro _ w124 ⟨o125, (⟨p126, rfl, A132, c133, v137, rfl, s128, hB130, hB131, hl134, hr135, hB136, hO138, hM139⟩ | ⟨q127, rfl, A142, c143, v147, rfl, s129, hB140, hB141, hl144, hr145, hB146, hO148, hM149⟩)⟩
 ·
  refine Or.inr ⟨_, rfl, ?_⟩
  dsimp only at H
  replace hB130 := Bk.unO (J := []) 1 hB130 s128 rfl rfl rfl
  replace hB131 := Bk.unO (J := []) 2 hB131 s128 rfl rfl rfl
  replace hr135 := hr135.un (J := []) s128
  replace hB136 := Bk.unO (J := []) 3 hB136 s128 rfl rfl rfl
  replace hO138 := Own.unO (J := []) 4 hO138 s128 rfl rfl rfl
  replace hM139 := Mp.unO (J := []) 5 hM139 s128 rfl rfl rfl
  replace s128 := un_stepL (J := []) (L' := [6, 2, 3, 4, 7]) s128 rfl rfl
  obtain ⟨z150, hz150, H⟩ := bindE H
  replace hB122 := hB122.step s128 rfl
  replace HF := HF.step s128 rfl
  have k114_128 := k114_121.t s128
  replace hB105 := hB105.step k114_128 rfl
  replace hB110 := hB110.step k114_128 rfl
  refine lv_one (xs := []) (cs := [pp b101 0, pp b115 0, pp b106 0]) (fun h_ => by cases h_) Tryz.func55 (by kernel_rfl) (by kernel_rfl) (DCalls.mono (syntax_reader_read_1_rec.dcalls k _ _ b101 b115 b106 pb0 A132 c133 pb0_0 v137 pb0_0_1 (a2 := (⟨(0 : Int), (⟨(0 : Int), (0 : Int), (0 : Int)⟩ : T_api_Spot)⟩ : T_api_Fault)) (a0_0 := p126.2.2.1) (a0_0_0 := p126.2.2.2.1) (p0 := p126.1) hz150 (HF.ten (V := [0]) (L := [40, 42, 41, 2, 3, 4, 7]) rfl) (Bk.vw hB105 rfl) (Bk.vw hB122 rfl) (Bk.vw hB110 rfl) (Bk.vw hB131 rfl) (Row.vw hr135 rfl) hl134 (Bk.vw hB136 rfl) (Own.vw hO138 rfl rfl) (Mp.vw hM139 rfl)) ?_)
  rintro _ _ w151 ⟨rfl, o152, v156, rfl, s153, hB154, hB155, hO157, hM158⟩
  replace hB154 := Bk.unO (J := []) 2 hB154 s153 rfl rfl rfl
  replace hB155 := Bk.unO (J := []) 4 hB155 s153 rfl rfl rfl
  replace hO157 := Own.unO (J := []) 5 hO157 s153 rfl rfl rfl
  replace hM158 := Mp.unO (J := []) 6 hM158 s153 rfl rfl rfl
  replace s153 := un_stepL (J := []) (L' := [41, 3, 4, 7]) s153 rfl rfl
  refine Lv.doneR ?_
  obtain rfl := Option.some.inj H
  replace hB130 := hB130.step s153 rfl
  replace hB131 := hB131.step s153 rfl
  replace hr135 := hr135.step s153 rfl
  replace HF := HF.step s153 rfl
  exact ⟨_, (.cell _ rfl (run_loadN (cs := [ii z150.1.f_Code, ii z150.1.f_At.f_Line, ii z150.1.f_At.f_Col, ii z150.1.f_At.f_Off]) U36 rfl sz36 (hB154.cells rfl)) .nil), _, A132, c133, v156, rfl, HF.out, hB131, hl134, hr135, hB155, hO157, hB130, hM158⟩
 ·
  refine Or.inl ⟨_, rfl, ?_⟩
  dsimp only at H
  replace hB140 := Bk.unO (J := []) 1 hB140 s129 rfl rfl rfl
  replace hB141 := Bk.unO (J := []) 2 hB141 s129 rfl rfl rfl
  replace hr145 := hr145.un (J := []) s129
  replace hB146 := Bk.unO (J := []) 3 hB146 s129 rfl rfl rfl
  replace hO148 := Own.unO (J := []) 4 hO148 s129 rfl rfl rfl
  replace hM149 := Mp.unO (J := []) 5 hM149 s129 rfl rfl rfl
  replace s129 := un_stepL (J := []) (L' := [6, 2, 3, 4, 7]) s129 rfl rfl
  refine WL.nil <|
   WC.seq <|
   WC.seq <|
   WC.region ?_
  have k114_129 := k114_121.t s129
  replace hB105 := hB105.step k114_129 rfl
  refine E rfl (ex_load1 rfl U78 rfl (hB105.cell rfl)) <|
   E rfl (ex_nilCheck rfl) <|
   E rfl (ex_fieldAddr rfl U80 rfl sz4) <|
   E rfl (ex_load1 rfl U4 rfl (hB141.cell rfl)) <|
   WL.nil ?_
  rcases condE H with ⟨c159, H⟩ | ⟨c159, H⟩
  ·
   refine WC.cond_t (vb c159 rfl) <|
    WC.region <|
    E rfl (ex_build (cs := [ii 30, ii (0 : Int), ii (0 : Int), ii (0 : Int)]) [(0, 1), (1, 3)] [(0, ii 30)] [ii 0, ii 0, ii 0, ii 0] U36 zr36 rfl (by kernel_rfl) (evs_cons rfl rfl) rfl) <|
    E rfl (ex_build (cs := [ii 30, ii (0 : Int), ii (0 : Int), ii (0 : Int)]) [(0, 4)] [(0, .agg #[ii 30, ii (0 : Int), ii (0 : Int), ii (0 : Int)])] [ii 0, ii 0, ii 0, ii 0] U111 zr111 rfl (by kernel_rfl) (evs_cons rfl rfl) rfl) <|
    E rfl (ex_makeInterface (v := .agg #[ii 30, ii (0 : Int), ii (0 : Int), ii (0 : Int)]) rfl U111 rfl) <|
    WL.op rfl <|
    OW.panic (T := 111) (v := .agg #[ii 30, ii (0 : Int), ii (0 : Int), ii (0 : Int)]) rfl ?_
   obtain ⟨z160, hz160, H⟩ := bindE H
   replace hB122 := hB122.step s129 rfl
   replace HF := HF.step s129 rfl
   replace hB110 := hB110.step k114_129 rfl
   refine lv_one (xs := []) (cs := [pp b101 0, pp b115 0, pp b106 0]) (fun h_ => by cases h_) Tryz.func55 (by kernel_rfl) (by kernel_rfl) (DCalls.mono (syntax_reader_read_1_rec.dcalls k _ _ b101 b115 b106 pb0 A142 c143 pb0_0 v147 pb0_0_1 (a2 := (⟨(0 : Int), (⟨(0 : Int), (0 : Int), (0 : Int)⟩ : T_api_Spot)⟩ : T_api_Fault)) (a0_0 := q127.2.1) (a0_0_0 := q127.2.2.1) (p0 := (⟨(⟨30, (⟨(0 : Int), (0 : Int), (0 : Int)⟩ : T_api_Spot)⟩ : T_api_Fault)⟩ : T_syntax_broken)) hz160 (HF.ten (V := [0]) (L := [40, 42, 41, 2, 3, 4, 7]) rfl) (Bk.vw hB105 rfl) (Bk.vw hB122 rfl) (Bk.vw hB110 rfl) (Bk.vw hB141 rfl) (Row.vw hr145 rfl) hl144 (Bk.vw hB146 rfl) (Own.vw hO148 rfl rfl) (Mp.vw hM149 rfl)) ?_)
   rintro _ _ w161 ⟨rfl, o162, v166, rfl, s163, hB164, hB165, hO167, hM168⟩
   replace hB164 := Bk.unO (J := []) 2 hB164 s163 rfl rfl rfl
   replace hB165 := Bk.unO (J := []) 4 hB165 s163 rfl rfl rfl
   replace hO167 := Own.unO (J := []) 5 hO167 s163 rfl rfl rfl
   replace hM168 := Mp.unO (J := []) 6 hM168 s163 rfl rfl rfl
   replace s163 := un_stepL (J := []) (L' := [41, 3, 4, 7]) s163 rfl rfl
   refine Lv.doneR ?_
   obtain rfl := Option.some.inj H
   replace hB140 := hB140.step s163 rfl
   replace hB141 := hB141.step s163 rfl
   replace hr145 := hr145.step s163 rfl
   replace HF := HF.step s163 rfl
   exact ⟨_, (.cell _ rfl (run_loadN (cs := [ii z160.1.f_Code, ii z160.1.f_At.f_Line, ii z160.1.f_At.f_Col, ii z160.1.f_At.f_Off]) U36 rfl sz36 (hB164.cells rfl)) .nil), _, A142, c143, v166, rfl, HF.out, hB141, hl144, hr145, hB165, hO167, hB140, hM168⟩
  ·
   refine WC.cond_f (vb c159 rfl) <|
    WC.skip <|
    WC.seq <|
    WC.region <|
    E rfl (ex_build (cs := [ii (0 : Int), ii (0 : Int), ii (0 : Int), ii (0 : Int)]) [(0, 1), (1, 3)] [] [ii 0, ii 0, ii 0, ii 0] U36 zr36 rfl (by kernel_rfl) rfl rfl) <|
    WL.op rfl ?_
   replace hB110 := hB110.step k114_129 rfl
   refine OW.storeW rfl rfl sz36 hB110 rfl (oa rfl) ?_
   intro w169 s170 hB171
   refine WL.nil <|
    WC.ret ?_
   obtain ⟨z172, hz172, H⟩ := bindE H
   replace hB105 := hB105.step s170 rfl
   replace hB141 := hB141.step s170 rfl
   replace hr145 := hr145.step s170 rfl
   replace hB146 := hB146.step s170 rfl
   replace hO148 := hO148.step s170 rfl rfl
   replace hM149 := hM149.step s170 rfl
   have k129_170 := s129.t s170
   replace hB122 := hB122.step k129_170 rfl
   replace HF := HF.step k129_170 rfl
   refine lv_one (xs := []) (cs := [pp b101 0, pp b115 0, pp b106 0]) (fun h_ => by cases h_) Tryz.func55 (by kernel_rfl) (by kernel_rfl) (DCalls.mono (syntax_reader_read_1_ret.dcalls _ _ b101 b115 b106 pb0 A142 c143 pb0_0 v147 pb0_0_1 (a2 := (⟨(0 : Int), (⟨(0 : Int), (0 : Int), (0 : Int)⟩ : T_api_Spot)⟩ : T_api_Fault)) (a0_0 := q127.2.1) (a0_0_0 := q127.2.2.1) hz172 (HF.ten (V := [0]) (L := [40, 42, 41, 2, 3, 4, 7]) rfl) (Bk.vw hB105 rfl) (Bk.vw hB122 rfl) (Bk.vw hB171 rfl) (Bk.vw hB141 rfl) (Row.vw hr145 rfl) hl144 (Bk.vw hB146 rfl) (Own.vw hO148 rfl rfl) (Mp.vw hM149 rfl)) ?_)
   obtain rfl := Option.some.inj (show some () = some z172 from hz172)
   rintro _ _ w173 ⟨rfl, o174, rfl, s175⟩
   replace s175 := un_stepL (J := []) (L' := []) s175 rfl rfl
   refine Lv.done ?_
   obtain rfl := Option.some.inj H
   replace hB141 := hB141.step s175 rfl
   replace hr145 := hr145.step s175 rfl
   replace hB146 := hB146.step s175 rfl
   replace hO148 := hO148.step s175 rfl rfl
   replace hM149 := hM149.step s175 rfl
   replace hB171 := hB171.step s175 rfl
   replace HF := HF.step s175 rfl
   have k170_175 := s170.t s175
   replace hB140 := hB140.step k170_175 rfl
   exact ⟨_, (.cell _ rfl (run_loadN (cs := [ii (0 : Int), ii (0 : Int), ii (0 : Int), ii (0 : Int)]) U36 rfl sz36 (hB171.cells rfl)) .nil), _, A142, c143, v147, rfl, HF.out, hB141, hl144, hr145, hB146, hO148, hB140, hM149⟩

/-! ### syntax_Take -/
set_option maxRecDepth 100000 in
theorem syntax_Take.calls (k : Nat) (o0 : Tags) (w0 : World) (pb0 : Nat) (pv0_0 : Value) (pA1 : Option Addr) (pc1 : Nat) (pb0_1 : Nat) {a0 : T_formula_Table} {a1 : (List T_api_Token)} {a0_1 : (List (T_api_Node × Int))} {r : Int × Int × T_api_Fault × T_formula_Table × (List (T_api_Node × Int))} (H : syntax_Take.f k a0 a1 a0_1 = some r) (hO : ∀ b, b < w0.heap.size → o0 b < 40) (hB0 : Bk o0 w0 2 pb0 [pv0_0, .map (some pb0_1)] 56) (hO0_0 : Own T_api_Node.rep 60 3 o0 w0 pv0_0 a0.f_rows) (hra1 : Row T_api_Token.rep (fun b_ => o0 b_ = 0) (fun b_ => o0 b_ = 0) w0 pA1 a1) (hla1 : a1.length ≤ pc1) (hM0_1 : Mp (fun x_ : T_api_Node => Value.agg #[ii x_.f_Kind, encS x_.f_Name, ii x_.f_L, ii x_.f_R]) (fun v_ : Int => ii v_) 4 o0 w0 pb0_1 a0_1) :
  Calls Tryz.prog 35 [pp pb0 0, .slice pA1 a1.length pc1].toArray w0 fun e_ w_ => ∃ (o_ : Tags) (u0_0 : Value), e_ = .returned (one [ii r.1, ii r.2.1, .agg #[ii r.2.2.1.f_Code, ii r.2.2.1.f_At.f_Line, ii r.2.2.1.f_At.f_Col, ii r.2.2.1.f_At.f_Off]]) ∧ Step o0 w0 o_ w_ [2, 3, 4] ∧ Bk o_ w_ 2 pb0 [u0_0, .map (some pb0_1)] 56 ∧ Own T_api_Node.rep 60 3 o_ w_ u0_0 r.2.2.2.1.f_rows ∧ Mp (fun x_ : T_api_Node => Value.agg #[ii x_.f_Kind, encS x_.f_Name, ii x_.f_L, ii x_.f_R]) (fun v_ : Int => ii v_) 4 o_ w_ pb0_1 r.2.2.2.2 := by
 have HF := Fm.refl hO [2, 3, 4]
 unfold syntax_Take.f at H
 refine SX.calls [pp pb0 0, .slice pA1 a1.length pc1] Tryz.func35 rfl rfl ?_
 rw [Tryz.ntmps35]
 refine WC.seq <|
  WC.region <|
  E rfl (sg (ii 0) rfl) <|
  E rfl (sg (ii 0) rfl) <|
  WL.op rfl <|
  OW.alloc' [ii (0 : Int), ii (0 : Int), ii (0 : Int), ii (0 : Int)] 40 HF rfl zr36 rfl ?_
 intro o102 w103 b101 s104 hB105
 refine WL.nil <|
  WC.seq <|
  WC.seq <|
  WC.region <|
  E rfl (mv (pp pb0 0) rfl) ?_
 obtain ⟨z106, hz106, H⟩ := bindE H
 refine WL.op rfl ?_
 replace hO0_0 := hO0_0.step s104 rfl rfl
 replace hB0 := hB0.step s104 rfl
 replace hM0_1 := hM0_1.step s104 rfl
 replace HF := HF.step s104 rfl
 refine OW.call [pp pb0 0] rfl Tryz.func23 (by kernel_rfl) (by kernel_rfl) (map_cons' rfl rfl) (syntax_known.calls k _ _ pb0 pv0_0 pb0_1 (a0 := a0) hz106 (HF.ten (V := [0]) (L := [2, 3, 4]) rfl) (Bk.vw hB0 rfl) (Own.vw hO0_0 rfl rfl) (Mp.vw hM0_1 rfl)) ?_
 rintro _ w107 ⟨o108, rfl, s109⟩
 refine ⟨_, rfl, ?_⟩
 replace s109 := un_stepL (J := []) (L' := []) s109 rfl rfl
 refine E rfl (ex_not (b := z106) rfl) <|
  WL.nil ?_
 rcases condE H with ⟨c110, H⟩ | ⟨c110, H⟩
 ·
  refine WC.cond_t (vb c110 rfl) <|
   WC.seq <|
   WC.region <|
   E rfl (ex_build (cs := [ii 1, ii (0 : Int), ii (0 : Int), ii (0 : Int)]) [(0, 1), (1, 3)] [(0, ii 1)] [ii 0, ii 0, ii 0, ii 0] U36 zr36 rfl (by kernel_rfl) (evs_cons rfl rfl) rfl) <|
   E rfl (sg (ii 0) rfl) <|
   E rfl (sg (ii 0) rfl) <|
   WL.op rfl ?_
  replace hB105 := hB105.step s109 rfl
  refine OW.storeW rfl rfl sz36 hB105 rfl (oa rfl) ?_
  intro w111 s112 hB113
  refine WL.nil <|
   WC.ret ?_
  obtain rfl := Option.some.inj H
  have k109_112 := s109.t s112
  replace hO0_0 := hO0_0.step k109_112 rfl rfl
  replace hB0 := hB0.step k109_112 rfl
  replace hM0_1 := hM0_1.step k109_112 rfl
  replace HF := HF.step k109_112 rfl
  exact ⟨_, (.tmp _ rfl (.tmp _ rfl (.cell _ rfl (run_loadN (cs := [ii 1, ii (0 : Int), ii (0 : Int), ii (0 : Int)]) U36 rfl sz36 (hB113.cells rfl)) .nil))), _, pv0_0, rfl, HF.out, hB0, hO0_0, hM0_1⟩
 ·
  refine WC.cond_f (vb c110 rfl) <|
   WC.skip <|
   WC.seq <|
   WC.region <|
   E rfl (mv (pp pb0 0) rfl) <|
   E rfl (mv (.slice pA1 a1.length pc1) rfl) <|
   E rfl (ex_build (cs := [pp pb0 0, .slice pA1 a1.length pc1, ii (0 : Int), ii (0 : Int), ii (0 : Int), .bool true, .bool false]) [(0, 1), (1, 1), (2, 1), (3, 1), (4, 1), (5, 1), (6, 1)] [(0, pp pb0 0), (1, .slice pA1 a1.length pc1), (5, .bool true)] [.pointer none, .slice none 0 0, ii 0, ii 0, ii 0, .bool false, .bool false] U80 zr80 rfl (by kernel_rfl) (evs_cons rfl (evs_cons rfl (evs_cons rfl rfl))) rfl) <|
   WL.op rfl ?_
  replace HF := HF.step s109 rfl
  refine OW.box' [pp pb0 0, .slice pA1 a1.length pc1, ii (0 : Int), ii (0 : Int), ii (0 : Int), .bool true, .bool false] 41 HF rfl ((congrArg Value.cells (show ev _ _ = (.agg #[pp pb0 0, .slice pA1 a1.length pc1, ii (0 : Int), ii (0 : Int), ii (0 : Int), .bool true, .bool false] : Value) from rfl)).trans rfl) ?_
  intro o115 w116 b114 s117 hB118
  refine WL.op rfl ?_
  replace HF := HF.step s117 rfl
  refine OW.alloc' [.pointer none] 42 HF rfl zr78 rfl ?_
  intro o120 w121 b119 s122 hB123
  refine WL.op rfl <|
   OW.storeW rfl rfl sz78 hB123 rfl (oa rfl) ?_
  intro w124 s125 hB126
  refine WL.nil <|
   WC.seq <|
   WC.region <|
   WL.op rfl ?_
  have k122_125 := s122.t s125
  replace HF := HF.step k122_125 rfl
  refine OW.alloc' [ii (0 : Int)] 43 HF rfl zr3 rfl ?_
  intro o128 w129 b127 s130 hB131
  refine WL.op rfl <|
   OW.storeW rfl rfl sz3 hB131 rfl (oa rfl) ?_
  intro w132 s133 hB134
  refine WL.nil <|
   WC.seq <|
   WC.region ?_
  have k130_133 := s130.t s133
  replace hB126 := hB126.step k130_133 rfl
  refine E rfl (ex_load1 rfl U78 rfl (hB126.cell rfl)) <|
   E rfl (ex_makeFuncC [pp b119 0, pp b127 0] (map_cons' rfl (map_cons' rfl rfl))) ?_
  obtain ⟨z135, hz135, H⟩ := bindE H
  refine WL.op rfl ?_
  replace HF := HF.step k130_133 rfl
  have k122_133 := k122_125.t k130_133
  replace hB118 := hB118.step k122_133 rfl
  have k109_133 := (s109.t s117).t k122_133
  replace hO0_0 := hO0_0.step k109_133 rfl rfl
  replace hB0 := hB0.step k109_133 rfl
  replace hM0_1 := hM0_1.step k109_133 rfl
  have k104_133 := s104.t k109_133
  replace hra1 := hra1.step k104_133 rfl
  refine OW.call [pp b114 0, .func (.func 60) #[] #[pp b119 0, pp b127 0]] rfl Tryz.func30 (by kernel_rfl) (by kernel_rfl) (map_cons' rfl (map_cons' rfl rfl)) (syntax_reader_read_syntax_Take_1.calls k _ _ b114 pA1 pc1 pb0 pv0_0 b119 b127 pb0_1 (a0 := (⟨a1, (0 : Int), (0 : Int), (0 : Int), true, false⟩ : T_syntax_reader)) (a0_0 := a0) hz135 (HF.ten (V := [0]) (L := [41, 2, 3, 42, 43, 4]) rfl) (Bk.vw hB118 rfl) (Row.vw hra1 rfl) hla1 (Bk.vw hB0 rfl) (Own.vw hO0_0 rfl rfl) (Bk.vw hB126 rfl) (Bk.vw hB134 rfl) (Mp.vw hM0_1 rfl)) ?_
  rintro _ w136 ⟨o137, A140, c141, v145, rfl, s138, hB139, hl142, hr143, hB144, hO146, hB147, hM148⟩
  refine ⟨_, rfl, ?_⟩
  replace hB139 := Bk.unO (J := []) 0 hB139 s138 rfl rfl rfl
  replace hr143 := hr143.un (J := []) s138
  replace hB144 := Bk.unO (J := []) 1 hB144 s138 rfl rfl rfl
  replace hO146 := Own.unO (J := []) 2 hO146 s138 rfl rfl rfl
  replace hB147 := Bk.unO (J := []) 4 hB147 s138 rfl rfl rfl
  replace hM148 := Mp.unO (J := []) 5 hM148 s138 rfl rfl rfl
  replace s138 := un_stepL (J := []) (L' := [41, 2, 3, 43, 4]) s138 rfl rfl
  refine WL.op rfl ?_
  replace HF := HF.step s138 rfl
  refine OW.alloc' [ii (0 : Int), ii (0 : Int), ii (0 : Int), ii (0 : Int)] 44 HF rfl zr36 rfl ?_
  intro o150 w151 b149 s152 hB153
  refine WL.op rfl <|
   OW.storeW rfl rfl sz36 hB153 rfl (oa rfl) ?_
  intro w154 s155 hB156
  refine WL.nil <|
   WC.seq <|
   WC.seq <|
   WC.region <|
   E rfl (ex_fieldAddr rfl U36 rfl sz28) <|
   E rfl (ex_load1 rfl U28 rfl (hB156.cell rfl)) <|
   E rfl (e2 bin_neq rfl rfl) <|
   WL.nil ?_
  rcases condE H with ⟨c157, H⟩ | ⟨c157, H⟩
  ·
   refine WC.cond_t (vb c157 rfl) <|
    WC.seq ?_
   have k152_155 := s152.t s155
   replace HF := HF.step k152_155 rfl
   refine WC.regionD' HF [] 3 4 (by kernel_rfl) rfl ?_
   intro w158 s159
   replace hB156 := hB156.step s159 rfl
   have hB156D := hB156
   replace HF := HF.step s159 rfl
   have sR := HF.here []
   refine WA.seq [0, 1, 2] (lb 4 7) 1 (by kernel_rfl) rfl ⟨_, sR⟩ <|
    X1 rfl (fun w_ hS_ => ex_loadN (cs := [ii z135.1.f_Code, ii z135.1.f_At.f_Line, ii z135.1.f_At.f_Col, ii z135.1.f_At.f_Off]) rfl U36 rfl sz36 ((hB156D.step hS_.choose_spec rfl).cells rfl)) <|
    X1 rfl (fun w_ hS_ => ex_assign (v := ii 0) rfl) <|
    X1 rfl (fun w_ hS_ => ex_assign (v := ii 0) rfl) <|
    WA.last 3 (by kernel_rfl) (by kernel_rfl) rfl rfl rfl ?_
   have k109_159 := (((k109_133.t s138).t s152).t s155).t s159
   replace hB105 := hB105.step k109_159 rfl
   refine OW.storeW rfl rfl sz36 hB105 rfl (oa rfl) ?_
   intro w160 s161 hB162
   refine WC.ret ?_
   obtain rfl := Option.some.inj H
   replace HF := HF.step s161 rfl
   have k152_161 := (k152_155.t s159).t s161
   replace hB144 := hB144.step k152_161 rfl
   replace hO146 := hO146.step k152_161 rfl rfl
   replace hM148 := hM148.step k152_161 rfl
   exact ⟨_, (.tmp _ rfl (.tmp _ rfl (.cell _ rfl (run_loadN (cs := [ii z135.1.f_Code, ii z135.1.f_At.f_Line, ii z135.1.f_At.f_Col, ii z135.1.f_At.f_Off]) U36 rfl sz36 (hB162.cells rfl)) .nil))), _, v145, rfl, HF.out, hB144, hO146, hM148⟩
  ·
   refine WC.cond_f (vb c157 rfl) <|
    WC.skip <|
    WC.seq ?_
   have k152_155 := s152.t s155
   replace HF := HF.step k152_155 rfl
   refine WC.regionD' HF [] 8 9 (by kernel_rfl) rfl ?_
   intro w163 s164
   have k138_164 := ((s138.t s152).t s155).t s164
   replace hB126 := hB126.step k138_164 rfl
   have hB126D := hB126
   have k152_164 := k152_155.t s164
   replace hB139 := hB139.step k152_164 rfl
   have hB139D := hB139
   replace hB147 := hB147.step k152_164 rfl
   have hB147D := hB147
   replace hB156 := hB156.step s164 rfl
   have hB156D := hB156
   replace HF := HF.step s164 rfl
   have sR := HF.here []
   refine WA.seq [0, 1, 2, 3, 4, 5, 6, 7] (lb 9 255) 1 (by kernel_rfl) rfl ⟨_, sR⟩ <|
    X1 rfl (fun w_ hS_ => ex_load1 (v := ii z135.2.2.2.1) rfl U3 rfl ((hB147D.step hS_.choose_spec rfl).cell rfl)) <|
    X1 rfl (fun w_ hS_ => ex_load1 (v := pp b114 0) rfl U78 rfl ((hB126D.step hS_.choose_spec rfl).cell rfl)) <|
    X1 rfl (fun w_ hS_ => ex_nilCheck rfl) <|
    X1 rfl (fun w_ hS_ => ex_fieldAddr rfl U80 rfl sz3) <|
    X1 rfl (fun w_ hS_ => ex_load1 (v := ii z135.2.1.f_i) rfl U3 rfl ((hB139D.step hS_.choose_spec rfl).cell rfl)) <|
    X1 rfl (fun w_ hS_ => ex_loadN (cs := [ii z135.1.f_Code, ii z135.1.f_At.f_Line, ii z135.1.f_At.f_Col, ii z135.1.f_At.f_Off]) rfl U36 rfl sz36 ((hB156D.step hS_.choose_spec rfl).cells rfl)) <|
    X1 rfl (fun w_ hS_ => ex_assign (v := ii z135.2.2.2.1) rfl) <|
    X1 rfl (fun w_ hS_ => ex_assign (v := ii z135.2.1.f_i) rfl) <|
    WA.last 8 (by kernel_rfl) (by kernel_rfl) rfl rfl rfl ?_
   have k109_164 := k109_133.t k138_164
   replace hB105 := hB105.step k109_164 rfl
   refine OW.storeW rfl rfl sz36 hB105 rfl (oa rfl) ?_
   intro w165 s166 hB167
   refine WC.ret ?_
   obtain rfl := Option.some.inj H
   replace HF := HF.step s166 rfl
   have k152_166 := k152_164.t s166
   replace hB144 := hB144.step k152_166 rfl
   replace hO146 := hO146.step k152_166 rfl rfl
   replace hM148 := hM148.step k152_166 rfl
   exact ⟨_, (.tmp _ rfl (.tmp _ rfl (.cell _ rfl (run_loadN (cs := [ii z135.1.f_Code, ii z135.1.f_At.f_Line, ii z135.1.f_At.f_Col, ii z135.1.f_At.f_Off]) U36 rfl sz36 (hB167.cells rfl)) .nil))), _, v145, rfl, HF.out, hB144, hO146, hM148⟩

/-! ### syntax_Count -/
set_option maxRecDepth 100000 in
theorem syntax_Count.calls (k : Nat) (o0 : Tags) (w0 : World) {a0 : List UInt8} {r : Int} (H : syntax_Count.f k a0 = some r) (hO : ∀ b, b < w0.heap.size → o0 b < 40) (hG : Gl GG o0 w0) :
  Calls Tryz.prog 11 [encS a0].toArray w0 fun e_ w_ => ∃ (o_ : Tags), e_ = .returned (one [ii r]) ∧ Step o0 w0 o_ w_ [] := by
 have HF := Fm.refl hO []
 unfold syntax_Count.f at H
 refine SX.calls [encS a0] Tryz.func11 rfl rfl ?_
 rw [Tryz.ntmps11]
 refine WC.seq <|
  WC.region <|
  E rfl (sg (ii 0) rfl) <|
  WL.nil <|
  WC.seq <|
  WC.region <|
  E rfl (mv (encS a0) rfl) ?_
 obtain ⟨z101, hz101, H⟩ := bindE H
 refine WL.op rfl <|
  OW.call [encS a0] rfl Tryz.func28 (by kernel_rfl) (by kernel_rfl) (map_cons' rfl rfl) (syntax_ahead.calls k _ _ hz101 (HF.ten (V := [0]) (L := []) rfl) (Gl.vw hG rfl)) ?_
 rintro _ w102 ⟨o103, v105, rfl, s104, hO106⟩
 refine ⟨_, rfl, ?_⟩
 replace hO106 := Own.un9 (J := [40]) 0 hO106 rfl s104 rfl rfl
 replace s104 := un_stepL (J := [40]) (L' := []) s104 rfl rfl
 refine E rfl (mv (.tuple #[v105, .agg #[ii z101.2.f_Code, ii z101.2.f_At.f_Line, ii z101.2.f_At.f_Col, ii z101.2.f_At.f_Off]]) rfl) <|
  E rfl (ex_extract rfl rfl) <|
  E rfl (ex_extract rfl rfl) <|
  WL.op rfl ?_
 replace HF := HF.step s104 rfl
 refine OW.alloc' [ii (0 : Int), ii (0 : Int), ii (0 : Int), ii (0 : Int)] 41 HF rfl zr36 rfl ?_
 intro o108 w109 b107 s110 hB111
 refine E rfl (sg v105 rfl) <|
  WL.op rfl <|
  OW.storeW rfl rfl sz36 hB111 rfl (oa rfl) ?_
 intro w112 s113 hB114
 refine WL.nil <|
  WC.seq <|
  WC.region <|
  E rfl (sg (ii 0) rfl) <|
  WL.nil <|
  WC.seq <|
  WC.seq <|
  WC.region <|
  E rfl (mv v105 rfl) ?_
 have k110_113 := s110.t s113
 replace hO106 := hO106.step k110_113 rfl rfl
 obtain ⟨A115, c116, q117⟩ := hO106.slice
 refine E rfl (ex_len_slice ((show _ = (v105 : Value) from rfl).trans q117) U71) <|
  E rfl (mv (ii 0) rfl) <|
  WL.nil ?_
 obtain ⟨z121, hz121, H⟩ := bindE H
 replace HF := HF.step k110_113 rfl
 have k104_113 := s104.t k110_113
 replace hG := hG.step k104_113 rfl
 refine WC.for (fun k_ ρ_ w_ => ∃ (o_ : Tags) (x118 : Int) (x119 : Int), Fm o0 w0 o_ w_ [] ∧ Own T_api_Token.rep 76 40 o_ w_ v105 z101.1 ∧ Gl GG o_ w_ ∧ ρ_ 2 = ii 0 ∧ ρ_ 5 = ii x118 ∧ ρ_ 13 = v105 ∧ ρ_ 14 = ii (z101.1.length : Int) ∧ ρ_ 15 = ii x119 ∧ syntax_Count.l1 k z101 k_ x118 x119 = some z121) k (fun ρ_ w_ => ∃ (o_ : Tags), Fm o0 w0 o_ w_ [] ∧ Gl GG o_ w_ ∧ ρ_ 2 = ii 0 ∧ ρ_ 5 = ii z121) ⟨_, 0, 0, HF, hO106, hG, rfl, rfl, rfl, rfl, rfl, hz121⟩ ?case122 ?_
 case case122 =>
  rintro ρ162 w163 ⟨o164, HF, hG, s2_119, s5_120⟩
  refine WC.seq <|
   WC.region <|
   E rfl (mv (ii z121) s5_120) <|
   E rfl (sg (ii z121) rfl) <|
   WL.nil <|
   WC.ret ?_
  obtain rfl := Option.some.inj H
  exact ⟨_, (.tmp _ rfl .nil), _, rfl, HF.out⟩
 have Ho123 := H
 rintro k124 ρ125 w126 ⟨o127, x118, x119, HF, hO106, hG, s2_117, s5_118, s13_118, s14_118, s15_119, H⟩
 cases k124 with
 | zero => cases H
 | succ k124 =>
 rw [syntax_Count.l1.eq_2] at H
 refine WC.seq <|
  WC.region <|
  E rfl (e2 bin_lss s15_119 s14_118) <|
  WL.nil <|
  WC.seq ?_
 rcases condE H with ⟨c128, H⟩ | ⟨c128, H⟩
 ·
  refine WC.cond_t (vb c128 rfl) <|
   WC.skip ?_
  obtain ⟨z130, hz130, H⟩ := bindE H
  refine WC.cut (fun ρ_ w_ => ∃ (o_ : Tags), Fm o0 w0 o_ w_ [] ∧ Own T_api_Token.rep 76 40 o_ w_ v105 z101.1 ∧ Gl GG o_ w_ ∧ ρ_ 2 = ii 0 ∧ ρ_ 5 = ii z130 ∧ ρ_ 13 = v105 ∧ ρ_ 14 = ii (z101.1.length : Int) ∧ ρ_ 15 = ii x119) ?case131 ?_
  case case131 =>
   rintro ρ134 w132 ⟨o133, HF, hO106, hG, s2_128, s5_129, s13_129, s14_129, s15_129⟩
   refine WC.region <|
    E rfl (e2 bin_add64 s15_129 rfl) <|
    E rfl (mv (ii (wrap64 (x119 + 1))) rfl) <|
    WL.nil ?_
   exact ⟨k124, Nat.lt_succ_self _, ⟨_, z130, wrap64 (x119 + 1), HF, hO106, hG, s2_128, s5_129, s13_129, s14_129, rfl, H⟩⟩
  have Ho135 := H
  replace H := hz130
  refine WC.block <|
   WC.seq <|
   WC.region ?_
  obtain ⟨x136, hx136, H⟩ := bindE H
  obtain ⟨A141, c142, q143_⟩ := hO106.slice
  obtain ⟨ad137, cc144, e138, g139, g140, hl145, hR146, cell147⟩ := Row.ix (Own.rowOf hO106 q143_) hx136
  obtain rfl := T_api_Token.opn hR146
  refine E rfl (ex_indexAddr (i := x119) ((show _ = (v105 : Value) from s13_118).trans q143_) e138 s15_119 U71 sz76 g139 g140) <|
   E rfl (ex_loadN (cs := [ii x136.f_Kind, encS x136.f_Text, ii x136.f_Int, ii x136.f_At.f_Line, ii x136.f_At.f_Col, ii x136.f_At.f_Off]) rfl U76 rfl sz76 cell147) <|
   WL.op rfl <|
   OW.alloc' [ii (0 : Int), encS ([] : List UInt8), ii (0 : Int), ii (0 : Int), ii (0 : Int), ii (0 : Int)] 42 HF rfl zr76 rfl ?_
  intro o150 w151 b149 s152 hB153
  refine WL.op rfl <|
   OW.storeW rfl rfl sz76 hB153 rfl (oa rfl) ?_
  intro w154 s155 hB156
  refine WL.nil <|
   WC.seq <|
   WC.region <|
   E rfl (ex_loadN (cs := [ii x136.f_Kind, encS x136.f_Text, ii x136.f_Int, ii x136.f_At.f_Line, ii x136.f_At.f_Col, ii x136.f_At.f_Off]) rfl U76 rfl sz76 (hB156.cells rfl)) ?_
  obtain ⟨z157, hz157, H⟩ := bindE H
  refine WL.op rfl ?_
  have k152_155 := s152.t s155
  replace HF := HF.step k152_155 rfl
  refine OW.call [.agg #[ii x136.f_Kind, encS x136.f_Text, ii x136.f_Int, ii x136.f_At.f_Line, ii x136.f_At.f_Col, ii x136.f_At.f_Off]] rfl Tryz.func29 (by kernel_rfl) (by kernel_rfl) (map_cons' rfl rfl) (syntax_counted.calls _ _ (a0 := x136) hz157 (HF.ten (V := [0]) (L := []) rfl) ) ?_
  rintro _ w158 ⟨o159, rfl, s160⟩
  refine ⟨_, rfl, ?_⟩
  replace s160 := un_stepL (J := []) (L' := []) s160 rfl rfl
  refine WL.nil ?_
  rcases condE H with ⟨c161, H⟩ | ⟨c161, H⟩
  ·
   refine WC.cond_t (vb c161 rfl) <|
    WC.region <|
    E rfl (mv (ii x118) s5_118) <|
    E rfl (e2 bin_add64 rfl rfl) <|
    E rfl (sg (ii (wrap64 (x118 + 1))) rfl) <|
    WL.nil ?_
   obtain rfl := Option.some.inj H
   replace HF := HF.step s160 rfl
   have k152_160 := k152_155.t s160
   replace hO106 := hO106.step k152_160 rfl rfl
   replace hG := hG.step k152_160 rfl
   exact ⟨_, HF, hO106, hG, s2_117, rfl, s13_118, s14_118, s15_119⟩
  ·
   refine WC.cond_f (vb c161 rfl) <|
    WC.skip ?_
   obtain rfl := Option.some.inj H
   replace HF := HF.step s160 rfl
   have k152_160 := k152_155.t s160
   replace hO106 := hO106.step k152_160 rfl rfl
   replace hG := hG.step k152_160 rfl
   exact ⟨_, HF, hO106, hG, s2_117, s5_118, s13_118, s14_118, s15_119⟩
 ·
  refine WC.cond_f (vb c128 rfl) <|
   WC.exit ?_
  obtain rfl := Option.some.inj H
  exact ⟨_, HF, hG, s2_117, s5_118⟩

/-! ### dictumlaw04_heads -/
set_option maxRecDepth 100000 in
theorem dictumlaw04_heads.calls (k : Nat) (o0 : Tags) (w0 : World) {r : Bool} (H : dictumlaw04_heads.f k = some r) (hO : ∀ b, b < w0.heap.size → o0 b < 40) (hG : Gl GG o0 w0) :
  Calls Tryz.prog 13 [].toArray w0 fun e_ w_ => ∃ (o_ : Tags), e_ = .returned (one [.bool r]) ∧ Step o0 w0 o_ w_ [] := by
 have HF := Fm.refl hO []
 unfold dictumlaw04_heads.f at H
 refine SX.calls [] Tryz.func13 rfl rfl ?_
 rw [Tryz.ntmps13]
 refine WC.seq <|
  WC.region <|
  E rfl (sg (.bool false) rfl) <|
  WL.nil <|
  WC.seq <|
  WC.region ?_
 obtain ⟨z101, hz101, H⟩ := bindE H
 refine WL.op rfl <|
  OW.call [] rfl Tryz.func21 (by kernel_rfl) (by kernel_rfl) rfl (formula_New.calls _ _ hz101 (HF.ten (V := [0]) (L := []) rfl) ) ?_
 rintro _ w102 ⟨o103, b105, v107, b109, rfl, s104, hB106, hO108, hM110⟩
 refine ⟨_, rfl, ?_⟩
 replace hB106 := Bk.un9 (J := [40, 41, 42]) 0 hB106 rfl s104 rfl rfl
 replace hO108 := Own.un9 (J := [40, 41, 42]) 1 hO108 rfl s104 rfl rfl
 replace hM110 := Mp.un9 (J := [40, 41, 42]) 2 hM110 rfl s104 rfl rfl
 replace s104 := un_stepL (J := [40, 41, 42]) (L' := []) s104 rfl rfl
 refine E rfl (sg (pp b105 0) rfl) <|
  WL.nil <|
  WC.seq <|
  WC.region <|
  E rfl (mv (pp b105 0) rfl) ?_
 obtain ⟨z111, hz111, H⟩ := bindE H
 refine WL.op rfl ?_
 replace hG := hG.step s104 rfl
 replace HF := HF.step s104 rfl
 refine OW.call [pp b105 0, encS ([112, 32, 45, 62, 32, 113, 32, 38, 32, 112] : List UInt8)] rfl Tryz.func12 (by kernel_rfl) (by kernel_rfl) (map_cons' rfl (map_cons' rfl rfl)) (syntax_Parse.calls k _ _ b105 v107 b109 (a0 := z101.1) hz111 (HF.ten (V := [0]) (L := [40, 41, 42]) rfl) (Bk.vw hB106 rfl) (Own.vw hO108 rfl rfl) (Mp.vw hM110 rfl) (Gl.vw hG rfl)) ?_
 rintro _ w112 ⟨o113, v116, rfl, s114, hB115, hO117, hM118⟩
 refine ⟨_, rfl, ?_⟩
 replace hB115 := Bk.unO (J := []) 0 hB115 s114 rfl rfl rfl
 replace hO117 := Own.unO (J := []) 1 hO117 s114 rfl rfl rfl
 replace hM118 := Mp.unO (J := []) 2 hM118 s114 rfl rfl rfl
 replace s114 := un_stepL (J := []) (L' := [40, 41, 42]) s114 rfl rfl
 refine E rfl (mv (.tuple #[ii z111.1, .agg #[ii z111.2.1.f_Code, ii z111.2.1.f_At.f_Line, ii z111.2.1.f_At.f_Col, ii z111.2.1.f_At.f_Off]]) rfl) <|
  E rfl (ex_extract rfl rfl) <|
  E rfl (ex_extract rfl rfl) <|
  WL.op rfl ?_
 replace HF := HF.step s114 rfl
 refine OW.alloc' [ii (0 : Int), ii (0 : Int), ii (0 : Int), ii (0 : Int)] 43 HF rfl zr36 rfl ?_
 intro o120 w121 b119 s122 hB123
 refine E rfl (sg (ii z111.1) rfl) <|
  WL.op rfl <|
  OW.storeW rfl rfl sz36 hB123 rfl (oa rfl) ?_
 intro w124 s125 hB126
 refine WL.nil <|
  WC.seq <|
  WC.region <|
  E rfl (mv (pp b105 0) rfl) ?_
 obtain ⟨z127, hz127, H⟩ := bindE H
 refine WL.op rfl ?_
 have k122_125 := s122.t s125
 replace hB115 := hB115.step k122_125 rfl
 replace hO117 := hO117.step k122_125 rfl rfl
 replace hM118 := hM118.step k122_125 rfl
 replace HF := HF.step k122_125 rfl
 have k114_125 := s114.t k122_125
 replace hG := hG.step k114_125 rfl
 refine OW.call [pp b105 0, encS ([126, 112] : List UInt8)] rfl Tryz.func12 (by kernel_rfl) (by kernel_rfl) (map_cons' rfl (map_cons' rfl rfl)) (syntax_Parse.calls k _ _ b105 v116 b109 (a0 := z111.2.2.1) hz127 (HF.ten (V := [0]) (L := [40, 41, 42]) rfl) (Bk.vw hB115 rfl) (Own.vw hO117 rfl rfl) (Mp.vw hM118 rfl) (Gl.vw hG rfl)) ?_
 rintro _ w128 ⟨o129, v132, rfl, s130, hB131, hO133, hM134⟩
 refine ⟨_, rfl, ?_⟩
 replace hB131 := Bk.unO (J := []) 0 hB131 s130 rfl rfl rfl
 replace hO133 := Own.unO (J := []) 1 hO133 s130 rfl rfl rfl
 replace hM134 := Mp.unO (J := []) 2 hM134 s130 rfl rfl rfl
 replace s130 := un_stepL (J := []) (L' := [40, 41, 42]) s130 rfl rfl
 refine E rfl (mv (.tuple #[ii z127.1, .agg #[ii z127.2.1.f_Code, ii z127.2.1.f_At.f_Line, ii z127.2.1.f_At.f_Col, ii z127.2.1.f_At.f_Off]]) rfl) <|
  E rfl (ex_extract rfl rfl) <|
  E rfl (ex_extract rfl rfl) <|
  WL.op rfl ?_
 replace HF := HF.step s130 rfl
 refine OW.alloc' [ii (0 : Int), ii (0 : Int), ii (0 : Int), ii (0 : Int)] 44 HF rfl zr36 rfl ?_
 intro o136 w137 b135 s138 hB139
 refine E rfl (sg (ii z127.1) rfl) <|
  WL.op rfl <|
  OW.storeW rfl rfl sz36 hB139 rfl (oa rfl) ?_
 intro w140 s141 hB142
 refine WL.nil <|
  WC.seq <|
  WC.region <|
  E rfl (mv (pp b105 0) rfl) ?_
 obtain ⟨z143, hz143, H⟩ := bindE H
 refine WL.op rfl ?_
 have k138_141 := s138.t s141
 replace hB131 := hB131.step k138_141 rfl
 replace hO133 := hO133.step k138_141 rfl rfl
 replace hM134 := hM134.step k138_141 rfl
 replace HF := HF.step k138_141 rfl
 have k130_141 := s130.t k138_141
 replace hG := hG.step k130_141 rfl
 refine OW.call [pp b105 0, encS ([112, 32, 60, 45, 62, 32, 113] : List UInt8)] rfl Tryz.func12 (by kernel_rfl) (by kernel_rfl) (map_cons' rfl (map_cons' rfl rfl)) (syntax_Parse.calls k _ _ b105 v132 b109 (a0 := z127.2.2.1) hz143 (HF.ten (V := [0]) (L := [40, 41, 42]) rfl) (Bk.vw hB131 rfl) (Own.vw hO133 rfl rfl) (Mp.vw hM134 rfl) (Gl.vw hG rfl)) ?_
 rintro _ w144 ⟨o145, v148, rfl, s146, hB147, hO149, hM150⟩
 refine ⟨_, rfl, ?_⟩
 replace hB147 := Bk.unO (J := []) 0 hB147 s146 rfl rfl rfl
 replace hO149 := Own.unO (J := []) 1 hO149 s146 rfl rfl rfl
 replace hM150 := Mp.unO (J := []) 2 hM150 s146 rfl rfl rfl
 replace s146 := un_stepL (J := []) (L' := [40, 41, 42]) s146 rfl rfl
 refine E rfl (mv (.tuple #[ii z143.1, .agg #[ii z143.2.1.f_Code, ii z143.2.1.f_At.f_Line, ii z143.2.1.f_At.f_Col, ii z143.2.1.f_At.f_Off]]) rfl) <|
  E rfl (ex_extract rfl rfl) <|
  E rfl (ex_extract rfl rfl) <|
  WL.op rfl ?_
 replace HF := HF.step s146 rfl
 refine OW.alloc' [ii (0 : Int), ii (0 : Int), ii (0 : Int), ii (0 : Int)] 45 HF rfl zr36 rfl ?_
 intro o152 w153 b151 s154 hB155
 refine E rfl (sg (ii z143.1) rfl) <|
  WL.op rfl <|
  OW.storeW rfl rfl sz36 hB155 rfl (oa rfl) ?_
 intro w156 s157 hB158
 refine WL.nil <|
  WC.seq <|
  WC.region <|
  E rfl (mv (pp b105 0) rfl) <|
  E rfl (mv (ii z143.1) rfl) ?_
 obtain ⟨z159, hz159, H⟩ := bindE H
 refine WL.op rfl ?_
 have k154_157 := s154.t s157
 replace hB147 := hB147.step k154_157 rfl
 replace hO149 := hO149.step k154_157 rfl rfl
 replace hM150 := hM150.step k154_157 rfl
 replace HF := HF.step k154_157 rfl
 refine OW.call [pp b105 0, ii z143.1] rfl Tryz.func9 (by kernel_rfl) (by kernel_rfl) (map_cons' rfl (map_cons' rfl rfl)) (syntax_Print.calls k _ _ b105 v148 b109 (a0 := z143.2.2.1) hz159 (HF.ten (V := [0]) (L := [40, 41, 42]) rfl) (Bk.vw hB147 rfl) (Own.vw hO149 rfl rfl) (Mp.vw hM150 rfl)) ?_
 rintro _ w160 ⟨o161, rfl, s162⟩
 refine ⟨_, rfl, ?_⟩
 replace s162 := un_stepL (J := []) (L' := []) s162 rfl rfl
 refine E rfl (mv (.tuple #[encS z159.1, ii z159.2]) rfl) <|
  E rfl (ex_extract rfl rfl) <|
  E rfl (ex_extract rfl rfl) <|
  E rfl (sg (encS z159.1) rfl) <|
  E rfl (sg (ii z159.2) rfl) <|
  WL.nil <|
  WC.seq <|
  WC.region <|
  E rfl (mv (pp b105 0) rfl) ?_
 obtain ⟨z163, hz163, H⟩ := bindE H
 refine WL.op rfl ?_
 replace hB147 := hB147.step s162 rfl
 replace hO149 := hO149.step s162 rfl rfl
 replace hM150 := hM150.step s162 rfl
 replace HF := HF.step s162 rfl
 have k146_162 := ((s146.t s154).t s157).t s162
 replace hG := hG.step k146_162 rfl
 refine OW.call [pp b105 0, encS ([112, 32, 38, 32, 38, 32, 36] : List UInt8)] rfl Tryz.func12 (by kernel_rfl) (by kernel_rfl) (map_cons' rfl (map_cons' rfl rfl)) (syntax_Parse.calls k _ _ b105 v148 b109 (a0 := z143.2.2.1) hz163 (HF.ten (V := [0]) (L := [40, 41, 42]) rfl) (Bk.vw hB147 rfl) (Own.vw hO149 rfl rfl) (Mp.vw hM150 rfl) (Gl.vw hG rfl)) ?_
 rintro _ w164 ⟨o165, v168, rfl, s166, hB167, hO169, hM170⟩
 refine ⟨_, rfl, ?_⟩
 replace hB167 := Bk.unO (J := []) 0 hB167 s166 rfl rfl rfl
 replace hO169 := Own.unO (J := []) 1 hO169 s166 rfl rfl rfl
 replace hM170 := Mp.unO (J := []) 2 hM170 s166 rfl rfl rfl
 replace s166 := un_stepL (J := []) (L' := [40, 41, 42]) s166 rfl rfl
 refine E rfl (mv (.tuple #[ii z163.1, .agg #[ii z163.2.1.f_Code, ii z163.2.1.f_At.f_Line, ii z163.2.1.f_At.f_Col, ii z163.2.1.f_At.f_Off]]) rfl) <|
  E rfl (ex_extract rfl rfl) <|
  E rfl (ex_extract rfl rfl) <|
  WL.op rfl ?_
 replace HF := HF.step s166 rfl
 refine OW.alloc' [ii (0 : Int), ii (0 : Int), ii (0 : Int), ii (0 : Int)] 46 HF rfl zr36 rfl ?_
 intro o172 w173 b171 s174 hB175
 refine E rfl (sg (ii z163.1) rfl) <|
  WL.op rfl <|
  OW.storeW rfl rfl sz36 hB175 rfl (oa rfl) ?_
 intro w176 s177 hB178
 refine WL.nil <|
  WC.seq <|
  WC.region <|
  E rfl (mv (pp b105 0) rfl) <|
  E rfl (ex_build (cs := [ii 1, encS ([112] : List UInt8), ii (0 : Int), ii (0 : Int), ii (0 : Int), ii (0 : Int)]) [(0, 1), (1, 1), (2, 1), (3, 3)] [(0, ii 1), (1, encS ([112] : List UInt8))] [ii 0, .string ⟨#[]⟩, ii 0, ii 0, ii 0, ii 0] U76 zr76 rfl (by kernel_rfl) (evs_cons rfl (evs_cons rfl rfl)) rfl) <|
  E rfl (ex_build (cs := [ii 3, encS ([44] : List UInt8), ii (0 : Int), ii (0 : Int), ii (0 : Int), ii (0 : Int)]) [(0, 1), (1, 1), (2, 1), (3, 3)] [(0, ii 3), (1, encS ([44] : List UInt8))] [ii 0, .string ⟨#[]⟩, ii 0, ii 0, ii 0, ii 0] U76 zr76 rfl (by kernel_rfl) (evs_cons rfl (evs_cons rfl rfl)) rfl) <|
  WL.op rfl ?_
 have k174_177 := s174.t s177
 replace HF := HF.step k174_177 rfl
 refine OW.row (r := T_api_Token.rep) (xs := [(⟨1, ([112] : List UInt8), (0 : Int), (⟨(0 : Int), (0 : Int), (0 : Int)⟩ : T_api_Spot)⟩ : T_api_Token), (⟨3, ([44] : List UInt8), (0 : Int), (⟨(0 : Int), (0 : Int), (0 : Int)⟩ : T_api_Spot)⟩ : T_api_Token)]) [(0, .agg #[ii 1, encS ([112] : List UInt8), ii (0 : Int), ii (0 : Int), ii (0 : Int), ii (0 : Int)]), (1, .agg #[ii 3, encS ([44] : List UInt8), ii (0 : Int), ii (0 : Int), ii (0 : Int), ii (0 : Int)])] [[ii 1, encS ([112] : List UInt8), ii (0 : Int), ii (0 : Int), ii (0 : Int), ii (0 : Int)], [ii 3, encS ([44] : List UInt8), ii (0 : Int), ii (0 : Int), ii (0 : Int), ii (0 : Int)]] 47 HF rfl U71 sz76 zr76 rfl (evs_cons rfl (evs_cons rfl rfl)) rfl rfl ⟨(T_api_Token.mk' (⟨1, ([112] : List UInt8), (0 : Int), (⟨(0 : Int), (0 : Int), (0 : Int)⟩ : T_api_Spot)⟩ : T_api_Token) ), (T_api_Token.mk' (⟨3, ([44] : List UInt8), (0 : Int), (⟨(0 : Int), (0 : Int), (0 : Int)⟩ : T_api_Spot)⟩ : T_api_Token) ), trivial⟩ rfl rfl rfl rfl ?_
 intro o179 w180 v182 s181 hO183
 obtain ⟨A184, c185, q186e, q186l, q186⟩ := Own.vwRow (V := [0, 47]) (L := [40, 41, 42]) hO183 rfl rfl
 obtain ⟨z187, hz187, H⟩ := bindE H
 have q186e' := q186e
 refine WL.op rfl ?_
 replace HF := HF.step s181 rfl
 have k174_181 := k174_177.t s181
 replace hB167 := hB167.step k174_181 rfl
 replace hO169 := hO169.step k174_181 rfl rfl
 replace hM170 := hM170.step k174_181 rfl
 refine OW.call [pp b105 0, v182] rfl Tryz.func35 (by kernel_rfl) (by kernel_rfl) (map_cons' rfl (map_cons' rfl rfl)) (by simp only [q186e]; exact (syntax_Take.calls k _ _ b105 v168 A184 c185 b109 (a0 := z163.2.2.1) hz187 (HF.ten (V := [0, 47]) (L := [40, 41, 42]) rfl) (Bk.vw hB167 rfl) (Own.vw hO169 rfl rfl) q186 q186l (Mp.vw hM170 rfl))) ?_
 rintro _ w188 ⟨o189, v192, rfl, s190, hB191, hO193, hM194⟩
 refine ⟨_, rfl, ?_⟩
 replace hB191 := Bk.unO (J := []) 0 hB191 s190 rfl rfl rfl
 replace hO193 := Own.unOf (J := []) 1 (fun h => h) hO193 s190 rfl rfl rfl
 replace hM194 := Mp.unO (J := []) 2 hM194 s190 rfl rfl rfl
 replace s190 := un_stepL (J := []) (L' := [40, 41, 42]) s190 rfl rfl
 refine E rfl (mv (.tuple #[ii z187.1, ii z187.2.1, .agg #[ii z187.2.2.1.f_Code, ii z187.2.2.1.f_At.f_Line, ii z187.2.2.1.f_At.f_Col, ii z187.2.2.1.f_At.f_Off]]) rfl) <|
  E rfl (ex_extract rfl rfl) <|
  E rfl (ex_extract rfl rfl) <|
  E rfl (ex_extract rfl rfl) <|
  WL.op rfl ?_
 replace HF := HF.step s190 rfl
 refine OW.alloc' [ii (0 : Int), ii (0 : Int), ii (0 : Int), ii (0 : Int)] 48 HF rfl zr36 rfl ?_
 intro o196 w197 b195 s198 hB199
 refine E rfl (sg (ii z187.1) rfl) <|
  E rfl (sg (ii z187.2.1) rfl) <|
  WL.op rfl <|
  OW.storeW rfl rfl sz36 hB199 rfl (oa rfl) ?_
 intro w200 s201 hB202
 refine WL.nil <|
  WC.seq <|
  WC.region <|
  E rfl (mv (ii z111.1) rfl) <|
  E rfl (e2 bin_eql rfl rfl) <|
  E rfl (mv (.bool (z111.1 == 3)) rfl) ?_
 rcases condE H with ⟨c203, H⟩ | ⟨c203, H⟩
 ·
  refine WL.guardYes rfl rfl rfl (vb c203 rfl) <|
   OW.ex rfl (mv (ii z127.1) rfl) <|
   WL.guardYes rfl rfl rfl (vb c203 rfl) <|
   OW.ex rfl (e2 bin_eql rfl rfl) <|
   E rfl (ex_pick_t (v := .bool (z127.1 == 5)) (vb c203 rfl) rfl) <|
   E rfl (mv (.bool (z127.1 == 5)) rfl) ?_
  rcases condE H with ⟨c204, H⟩ | ⟨c204, H⟩
  ·
   refine WL.guardYes rfl rfl rfl (vb c204 rfl) <|
    OW.ex rfl (mv (ii z143.1) rfl) <|
    WL.guardYes rfl rfl rfl (vb c204 rfl) <|
    OW.ex rfl (e2 bin_eql rfl rfl) <|
    E rfl (ex_pick_t (v := .bool (z143.1 == 8)) (vb c204 rfl) rfl) <|
    E rfl (mv (.bool (z143.1 == 8)) rfl) ?_
   rcases condE H with ⟨c205, H⟩ | ⟨c205, H⟩
   ·
    refine WL.guardYes rfl rfl rfl (vb c205 rfl) ?_
    have k130_201 := ((((((((((k130_141.t s146).t s154).t s157).t s162).t s166).t s174).t s177).t s181).t s190).t s198).t s201
    replace hB126 := hB126.step k130_201 rfl
    refine OW.ex rfl (ex_loadN (cs := [ii z111.2.1.f_Code, ii z111.2.1.f_At.f_Line, ii z111.2.1.f_At.f_Col, ii z111.2.1.f_At.f_Off]) rfl U36 rfl sz36 (hB126.cells rfl)) <|
     WL.guardYes rfl rfl rfl (vb c205 rfl) <|
     OW.ex rfl (ex_build (cs := [ii (0 : Int), ii (0 : Int), ii (0 : Int), ii (0 : Int)]) [(0, 1), (1, 3)] [] [ii 0, ii 0, ii 0, ii 0] U36 zr36 rfl (by kernel_rfl) rfl rfl) <|
     WL.guardYes rfl rfl rfl (vb c205 rfl) <|
     OW.ex rfl (ex_bin (a := .agg #[ii z111.2.1.f_Code, ii z111.2.1.f_At.f_Line, ii z111.2.1.f_At.f_Col, ii z111.2.1.f_At.f_Off]) (b := .agg #[ii (0 : Int), ii (0 : Int), ii (0 : Int), ii (0 : Int)]) (v := .bool (T_api_Fault.eqb z111.2.1 (⟨(0 : Int), (⟨(0 : Int), (0 : Int), (0 : Int)⟩ : T_api_Spot)⟩ : T_api_Fault))) rfl rfl (bin_eql_agg (by kernel_rfl) (EqR.agg U36 (by kernel_rfl) (EqF.cons (by decide) (PartR.one U28 rfl rfl) (PartR.one U28 rfl rfl) (EqR.int U28) (EqF.cons (by decide) (PartR.many U34 rfl sz34) (PartR.many U34 rfl sz34) (EqR.agg U34 (by kernel_rfl) (EqF.cons (by decide) (PartR.one U3 rfl rfl) (PartR.one U3 rfl rfl) (EqR.int U3) (EqF.cons (by decide) (PartR.one U3 rfl rfl) (PartR.one U3 rfl rfl) (EqR.int U3) (EqF.cons (by decide) (PartR.one U3 rfl rfl) (PartR.one U3 rfl rfl) (EqR.int U3) EqF.nil)))) EqF.nil))))) <|
     E rfl (ex_pick_t (v := .bool (T_api_Fault.eqb z111.2.1 (⟨(0 : Int), (⟨(0 : Int), (0 : Int), (0 : Int)⟩ : T_api_Spot)⟩ : T_api_Fault))) (vb c205 rfl) rfl) <|
     E rfl (mv (.bool (T_api_Fault.eqb z111.2.1 (⟨(0 : Int), (⟨(0 : Int), (0 : Int), (0 : Int)⟩ : T_api_Spot)⟩ : T_api_Fault))) rfl) ?_
    rcases condE H with ⟨c206, H⟩ | ⟨c206, H⟩
    ·
     refine WL.guardYes rfl rfl rfl (vb c206 rfl) ?_
     have k146_201 := ((((((k146_162.t s166).t s174).t s177).t s181).t s190).t s198).t s201
     replace hB142 := hB142.step k146_201 rfl
     refine OW.ex rfl (ex_loadN (cs := [ii z127.2.1.f_Code, ii z127.2.1.f_At.f_Line, ii z127.2.1.f_At.f_Col, ii z127.2.1.f_At.f_Off]) rfl U36 rfl sz36 (hB142.cells rfl)) <|
      WL.guardYes rfl rfl rfl (vb c206 rfl) <|
      OW.ex rfl (ex_loadN (cs := [ii z111.2.1.f_Code, ii z111.2.1.f_At.f_Line, ii z111.2.1.f_At.f_Col, ii z111.2.1.f_At.f_Off]) rfl U36 rfl sz36 (hB126.cells rfl)) <|
      WL.guardYes rfl rfl rfl (vb c206 rfl) <|
      OW.ex rfl (ex_bin (a := .agg #[ii z127.2.1.f_Code, ii z127.2.1.f_At.f_Line, ii z127.2.1.f_At.f_Col, ii z127.2.1.f_At.f_Off]) (b := .agg #[ii z111.2.1.f_Code, ii z111.2.1.f_At.f_Line, ii z111.2.1.f_At.f_Col, ii z111.2.1.f_At.f_Off]) (v := .bool (T_api_Fault.eqb z127.2.1 z111.2.1)) rfl rfl (bin_eql_agg (by kernel_rfl) (EqR.agg U36 (by kernel_rfl) (EqF.cons (by decide) (PartR.one U28 rfl rfl) (PartR.one U28 rfl rfl) (EqR.int U28) (EqF.cons (by decide) (PartR.many U34 rfl sz34) (PartR.many U34 rfl sz34) (EqR.agg U34 (by kernel_rfl) (EqF.cons (by decide) (PartR.one U3 rfl rfl) (PartR.one U3 rfl rfl) (EqR.int U3) (EqF.cons (by decide) (PartR.one U3 rfl rfl) (PartR.one U3 rfl rfl) (EqR.int U3) (EqF.cons (by decide) (PartR.one U3 rfl rfl) (PartR.one U3 rfl rfl) (EqR.int U3) EqF.nil)))) EqF.nil))))) <|
      E rfl (ex_pick_t (v := .bool (T_api_Fault.eqb z127.2.1 z111.2.1)) (vb c206 rfl) rfl) <|
      E rfl (mv (.bool (T_api_Fault.eqb z127.2.1 z111.2.1)) rfl) ?_
     rcases condE H with ⟨c207, H⟩ | ⟨c207, H⟩
     ·
      refine WL.guardYes rfl rfl rfl (vb c207 rfl) ?_
      have k162_201 := ((((((s162.t s166).t s174).t s177).t s181).t s190).t s198).t s201
      replace hB158 := hB158.step k162_201 rfl
      refine OW.ex rfl (ex_loadN (cs := [ii z143.2.1.f_Code, ii z143.2.1.f_At.f_Line, ii z143.2.1.f_At.f_Col, ii z143.2.1.f_At.f_Off]) rfl U36 rfl sz36 (hB158.cells rfl)) <|
       WL.guardYes rfl rfl rfl (vb c207 rfl) <|
       OW.ex rfl (ex_loadN (cs := [ii z111.2.1.f_Code, ii z111.2.1.f_At.f_Line, ii z111.2.1.f_At.f_Col, ii z111.2.1.f_At.f_Off]) rfl U36 rfl sz36 (hB126.cells rfl)) <|
       WL.guardYes rfl rfl rfl (vb c207 rfl) <|
       OW.ex rfl (ex_bin (a := .agg #[ii z143.2.1.f_Code, ii z143.2.1.f_At.f_Line, ii z143.2.1.f_At.f_Col, ii z143.2.1.f_At.f_Off]) (b := .agg #[ii z111.2.1.f_Code, ii z111.2.1.f_At.f_Line, ii z111.2.1.f_At.f_Col, ii z111.2.1.f_At.f_Off]) (v := .bool (T_api_Fault.eqb z143.2.1 z111.2.1)) rfl rfl (bin_eql_agg (by kernel_rfl) (EqR.agg U36 (by kernel_rfl) (EqF.cons (by decide) (PartR.one U28 rfl rfl) (PartR.one U28 rfl rfl) (EqR.int U28) (EqF.cons (by decide) (PartR.many U34 rfl sz34) (PartR.many U34 rfl sz34) (EqR.agg U34 (by kernel_rfl) (EqF.cons (by decide) (PartR.one U3 rfl rfl) (PartR.one U3 rfl rfl) (EqR.int U3) (EqF.cons (by decide) (PartR.one U3 rfl rfl) (PartR.one U3 rfl rfl) (EqR.int U3) (EqF.cons (by decide) (PartR.one U3 rfl rfl) (PartR.one U3 rfl rfl) (EqR.int U3) EqF.nil)))) EqF.nil))))) <|
       E rfl (ex_pick_t (v := .bool (T_api_Fault.eqb z143.2.1 z111.2.1)) (vb c207 rfl) rfl) <|
       E rfl (mv (.bool (T_api_Fault.eqb z143.2.1 z111.2.1)) rfl) ?_
      rcases condE H with ⟨c208, H⟩ | ⟨c208, H⟩
      ·
       refine WL.guardYes rfl rfl rfl (vb c208 rfl) <|
        OW.ex rfl (mv (encS z159.1) rfl) <|
        WL.guardYes rfl rfl rfl (vb c208 rfl) <|
        OW.ex rfl (e2 bin_eql_str rfl rfl) <|
        E rfl (ex_pick_t (v := .bool (z159.1 == ([40, 112, 32, 45, 62, 32, 113, 41, 32, 38, 32, 40, 113, 32, 45, 62, 32, 112, 41] : List UInt8))) (vb c208 rfl) rfl) <|
        E rfl (mv (.bool (z159.1 == ([40, 112, 32, 45, 62, 32, 113, 41, 32, 38, 32, 40, 113, 32, 45, 62, 32, 112, 41] : List UInt8))) rfl) ?_
       rcases condE H with ⟨c209, H⟩ | ⟨c209, H⟩
       ·
        refine WL.guardYes rfl rfl rfl (vb c209 rfl) <|
         OW.ex rfl (mv (ii z159.2) rfl) <|
         WL.guardYes rfl rfl rfl (vb c209 rfl) ?_
        obtain ⟨z210, hz210, H⟩ := bindE H
        have k198_201 := s198.t s201
        replace HF := HF.step k198_201 rfl
        refine OW.call [ii z159.2] rfl Tryz.func10 (by kernel_rfl) (by kernel_rfl) (map_cons' rfl rfl) (dictumlaw04_num.calls _ _ hz210 (HF.ten (V := [0]) (L := []) rfl) ) ?_
        rintro _ w211 ⟨o212, rfl, s213⟩
        refine ⟨_, rfl, ?_⟩
        replace s213 := un_stepL (J := []) (L' := []) s213 rfl rfl
        refine WL.guardYes rfl rfl rfl (vb c209 rfl) <|
         OW.ex rfl (e2 bin_eql rfl rfl) <|
         E rfl (ex_pick_t (v := .bool (z210 == 0)) (vb c209 rfl) rfl) <|
         E rfl (mv (.bool (z210 == 0)) rfl) ?_
        rcases condE H with ⟨c214, H⟩ | ⟨c214, H⟩
        ·
         refine WL.guardYes rfl rfl rfl (vb c214 rfl) ?_
         have k181_213 := (((s181.t s190).t s198).t s201).t s213
         replace hB178 := hB178.step k181_213 rfl
         refine OW.ex rfl (ex_loadN (cs := [ii z163.2.1.f_Code, ii z163.2.1.f_At.f_Line, ii z163.2.1.f_At.f_Col, ii z163.2.1.f_At.f_Off]) rfl U36 rfl sz36 (hB178.cells rfl)) <|
          WL.guardYes rfl rfl rfl (vb c214 rfl) <|
          OW.ex rfl (ex_build (cs := [ii 1, ii 5, ii 4]) [(0, 1), (1, 1), (2, 1)] [(0, ii 1), (1, ii 5), (2, ii 4)] [ii 0, ii 0, ii 0] U34 zr34 rfl (by kernel_rfl) (evs_cons rfl (evs_cons rfl (evs_cons rfl rfl))) rfl) <|
          WL.guardYes rfl rfl rfl (vb c214 rfl) <|
          OW.ex rfl (ex_build (cs := [ii 41, ii 1, ii 5, ii 4]) [(0, 1), (1, 3)] [(0, ii 41), (1, .agg #[ii 1, ii 5, ii 4])] [ii 0, ii 0, ii 0, ii 0] U36 zr36 rfl (by kernel_rfl) (evs_cons rfl (evs_cons rfl rfl)) rfl) <|
          WL.guardYes rfl rfl rfl (vb c214 rfl) <|
          OW.ex rfl (ex_bin (a := .agg #[ii z163.2.1.f_Code, ii z163.2.1.f_At.f_Line, ii z163.2.1.f_At.f_Col, ii z163.2.1.f_At.f_Off]) (b := .agg #[ii 41, ii 1, ii 5, ii 4]) (v := .bool (T_api_Fault.eqb z163.2.1 (⟨41, (⟨1, 5, 4⟩ : T_api_Spot)⟩ : T_api_Fault))) rfl rfl (bin_eql_agg (by kernel_rfl) (EqR.agg U36 (by kernel_rfl) (EqF.cons (by decide) (PartR.one U28 rfl rfl) (PartR.one U28 rfl rfl) (EqR.int U28) (EqF.cons (by decide) (PartR.many U34 rfl sz34) (PartR.many U34 rfl sz34) (EqR.agg U34 (by kernel_rfl) (EqF.cons (by decide) (PartR.one U3 rfl rfl) (PartR.one U3 rfl rfl) (EqR.int U3) (EqF.cons (by decide) (PartR.one U3 rfl rfl) (PartR.one U3 rfl rfl) (EqR.int U3) (EqF.cons (by decide) (PartR.one U3 rfl rfl) (PartR.one U3 rfl rfl) (EqR.int U3) EqF.nil)))) EqF.nil))))) <|
          E rfl (ex_pick_t (v := .bool (T_api_Fault.eqb z163.2.1 (⟨41, (⟨1, 5, 4⟩ : T_api_Spot)⟩ : T_api_Fault))) (vb c214 rfl) rfl) <|
          E rfl (mv (.bool (T_api_Fault.eqb z163.2.1 (⟨41, (⟨1, 5, 4⟩ : T_api_Spot)⟩ : T_api_Fault))) rfl) ?_
         rcases condE H with ⟨c215, H⟩ | ⟨c215, H⟩
         ·
          refine WL.guardYes rfl rfl rfl (vb c215 rfl) <|
           OW.ex rfl (mv (ii z187.1) rfl) <|
           WL.guardYes rfl rfl rfl (vb c215 rfl) <|
           OW.ex rfl (e2 bin_eql rfl rfl) <|
           E rfl (ex_pick_t (v := .bool (z187.1 == 0)) (vb c215 rfl) rfl) <|
           E rfl (mv (.bool (z187.1 == 0)) rfl) ?_
          rcases condE H with ⟨c216, H⟩ | ⟨c216, H⟩
          ·
           refine WL.guardYes rfl rfl rfl (vb c216 rfl) <|
            OW.ex rfl (mv (ii z187.2.1) rfl) <|
            WL.guardYes rfl rfl rfl (vb c216 rfl) <|
            OW.ex rfl (e2 bin_eql rfl rfl) <|
            E rfl (ex_pick_t (v := .bool (z187.2.1 == 1)) (vb c216 rfl) rfl) <|
            E rfl (mv (.bool (z187.2.1 == 1)) rfl) ?_
           rcases condE H with ⟨c217, H⟩ | ⟨c217, H⟩
           ·
            refine WL.guardYes rfl rfl rfl (vb c217 rfl) ?_
            replace hB202 := hB202.step s213 rfl
            refine OW.ex rfl (ex_loadN (cs := [ii z187.2.2.1.f_Code, ii z187.2.2.1.f_At.f_Line, ii z187.2.2.1.f_At.f_Col, ii z187.2.2.1.f_At.f_Off]) rfl U36 rfl sz36 (hB202.cells rfl)) <|
             WL.guardYes rfl rfl rfl (vb c217 rfl) ?_
            replace hB126 := hB126.step s213 rfl
            refine OW.ex rfl (ex_loadN (cs := [ii z111.2.1.f_Code, ii z111.2.1.f_At.f_Line, ii z111.2.1.f_At.f_Col, ii z111.2.1.f_At.f_Off]) rfl U36 rfl sz36 (hB126.cells rfl)) <|
             WL.guardYes rfl rfl rfl (vb c217 rfl) <|
             OW.ex rfl (ex_bin (a := .agg #[ii z187.2.2.1.f_Code, ii z187.2.2.1.f_At.f_Line, ii z187.2.2.1.f_At.f_Col, ii z187.2.2.1.f_At.f_Off]) (b := .agg #[ii z111.2.1.f_Code, ii z111.2.1.f_At.f_Line, ii z111.2.1.f_At.f_Col, ii z111.2.1.f_At.f_Off]) (v := .bool (T_api_Fault.eqb z187.2.2.1 z111.2.1)) rfl rfl (bin_eql_agg (by kernel_rfl) (EqR.agg U36 (by kernel_rfl) (EqF.cons (by decide) (PartR.one U28 rfl rfl) (PartR.one U28 rfl rfl) (EqR.int U28) (EqF.cons (by decide) (PartR.many U34 rfl sz34) (PartR.many U34 rfl sz34) (EqR.agg U34 (by kernel_rfl) (EqF.cons (by decide) (PartR.one U3 rfl rfl) (PartR.one U3 rfl rfl) (EqR.int U3) (EqF.cons (by decide) (PartR.one U3 rfl rfl) (PartR.one U3 rfl rfl) (EqR.int U3) (EqF.cons (by decide) (PartR.one U3 rfl rfl) (PartR.one U3 rfl rfl) (EqR.int U3) EqF.nil)))) EqF.nil))))) <|
             E rfl (ex_pick_t (v := .bool (T_api_Fault.eqb z187.2.2.1 z111.2.1)) (vb c217 rfl) rfl) <|
             E rfl (mv (.bool (T_api_Fault.eqb z187.2.2.1 z111.2.1)) rfl) ?_
            rcases condE H with ⟨c218, H⟩ | ⟨c218, H⟩
            ·
             refine WL.guardYes rfl rfl rfl (vb c218 rfl) <|
              OW.ex rfl (mv (pp b105 0) rfl) <|
              WL.guardYes rfl rfl rfl (vb c218 rfl) ?_
             obtain ⟨z219, hz219, H⟩ := bindE H
             replace HF := HF.step s213 rfl
             have k198_213 := k198_201.t s213
             replace hB191 := hB191.step k198_213 rfl
             replace hO193 := hO193.step k198_213 rfl rfl
             replace hM194 := hM194.step k198_213 rfl
             refine OW.call [pp b105 0] rfl Tryz.func8 (by kernel_rfl) (by kernel_rfl) (map_cons' rfl rfl) (formula_Table_Len.calls _ _ b105 v192 b109 (a0 := z187.2.2.2.1) hz219 (HF.ten (V := [0]) (L := [40, 41, 42]) rfl) (Bk.vw hB191 rfl) (Own.vw hO193 rfl rfl) (Mp.vw hM194 rfl)) ?_
             rintro _ w220 ⟨o221, rfl, s222⟩
             refine ⟨_, rfl, ?_⟩
             replace s222 := un_stepL (J := []) (L' := []) s222 rfl rfl
             refine WL.guardYes rfl rfl rfl (vb c218 rfl) <|
              OW.ex rfl (e2 bin_eql rfl rfl) <|
              E rfl (ex_pick_t (v := .bool (z219 == 9)) (vb c218 rfl) rfl) <|
              E rfl (mv (.bool (z219 == 9)) rfl) ?_
             rcases condE H with ⟨c223, H⟩ | ⟨c223, H⟩
             ·
              refine WL.guardYes rfl rfl rfl (vb c223 rfl) ?_
              obtain ⟨z224, hz224, H⟩ := bindE H
              replace HF := HF.step s222 rfl
              have k166_222 := (((((((s166.t s174).t s177).t s181).t s190).t s198).t s201).t s213).t s222
              replace hG := hG.step k166_222 rfl
              refine OW.call [encS ([112, 32, 38, 32, 126, 113, 32, 36, 32, 114] : List UInt8)] rfl Tryz.func11 (by kernel_rfl) (by kernel_rfl) (map_cons' rfl rfl) (syntax_Count.calls k _ _ hz224 (HF.ten (V := [0]) (L := []) rfl) (Gl.vw hG rfl)) ?_
              rintro _ w225 ⟨o226, rfl, s227⟩
              refine ⟨_, rfl, ?_⟩
              replace s227 := un_stepL (J := []) (L' := []) s227 rfl rfl
              refine WL.guardYes rfl rfl rfl (vb c223 rfl) <|
               OW.ex rfl (e2 bin_eql rfl rfl) <|
               E rfl (ex_pick_t (v := .bool (z224 == 4)) (vb c223 rfl) rfl) <|
               E rfl (sg (.bool (z224 == 4)) rfl) <|
               WL.nil <|
               WC.ret ?_
              obtain rfl := Option.some.inj H
              replace HF := HF.step s227 rfl
              exact ⟨_, (.tmp _ rfl .nil), _, rfl, HF.out⟩
             ·
              refine WL.guardNo rfl rfl rfl (vb c223 rfl) <|
               WL.guardNo rfl rfl rfl (vb c223 rfl) <|
               E rfl (ex_pick_f (v := .bool false) (vb c223 rfl) rfl) <|
               E rfl (sg (.bool false) rfl) <|
               WL.nil <|
               WC.ret ?_
              obtain rfl := Option.some.inj H
              replace HF := HF.step s222 rfl
              exact ⟨_, (.tmp _ rfl .nil), _, rfl, HF.out⟩
            ·
             refine WL.guardNo rfl rfl rfl (vb c218 rfl) <|
              WL.guardNo rfl rfl rfl (vb c218 rfl) <|
              WL.guardNo rfl rfl rfl (vb c218 rfl) <|
              E rfl (ex_pick_f (v := .bool false) (vb c218 rfl) rfl) <|
              E rfl (mv (.bool false) rfl) <|
              WL.guardNo rfl rfl rfl rfl <|
              WL.guardNo rfl rfl rfl rfl <|
              E rfl (ex_pick_f (v := .bool false) rfl rfl) <|
              E rfl (sg (.bool false) rfl) <|
              WL.nil <|
              WC.ret ?_
             obtain rfl := Option.some.inj H
             replace HF := HF.step s213 rfl
             exact ⟨_, (.tmp _ rfl .nil), _, rfl, HF.out⟩
           ·
            refine WL.guardNo rfl rfl rfl (vb c217 rfl) <|
             WL.guardNo rfl rfl rfl (vb c217 rfl) <|
             WL.guardNo rfl rfl rfl (vb c217 rfl) <|
             E rfl (ex_pick_f (v := .bool false) (vb c217 rfl) rfl) <|
             E rfl (mv (.bool false) rfl) <|
             WL.guardNo rfl rfl rfl rfl <|
             WL.guardNo rfl rfl rfl rfl <|
             WL.guardNo rfl rfl rfl rfl <|
             E rfl (ex_pick_f (v := .bool false) rfl rfl) <|
             E rfl (mv (.bool false) rfl) <|
             WL.guardNo rfl rfl rfl rfl <|
             WL.guardNo rfl rfl rfl rfl <|
             E rfl (ex_pick_f (v := .bool false) rfl rfl) <|
             E rfl (sg (.bool false) rfl) <|
             WL.nil <|
             WC.ret ?_
            obtain rfl := Option.some.inj H
            replace HF := HF.step s213 rfl
            exact ⟨_, (.tmp _ rfl .nil), _, rfl, HF.out⟩
          ·
           refine WL.guardNo rfl rfl rfl (vb c216 rfl) <|
            WL.guardNo rfl rfl rfl (vb c216 rfl) <|
            E rfl (ex_pick_f (v := .bool false) (vb c216 rfl) rfl) <|
            E rfl (mv (.bool false) rfl) <|
            WL.guardNo rfl rfl rfl rfl <|
            WL.guardNo rfl rfl rfl rfl <|
            WL.guardNo rfl rfl rfl rfl <|
            E rfl (ex_pick_f (v := .bool false) rfl rfl) <|
            E rfl (mv (.bool false) rfl) <|
            WL.guardNo rfl rfl rfl rfl <|
            WL.guardNo rfl rfl rfl rfl <|
            WL.guardNo rfl rfl rfl rfl <|
            E rfl (ex_pick_f (v := .bool false) rfl rfl) <|
            E rfl (mv (.bool false) rfl) <|
            WL.guardNo rfl rfl rfl rfl <|
            WL.guardNo rfl rfl rfl rfl <|
            E rfl (ex_pick_f (v := .bool false) rfl rfl) <|
            E rfl (sg (.bool false) rfl) <|
            WL.nil <|
            WC.ret ?_
           obtain rfl := Option.some.inj H
           replace HF := HF.step s213 rfl
           exact ⟨_, (.tmp _ rfl .nil), _, rfl, HF.out⟩
         ·
          refine WL.guardNo rfl rfl rfl (vb c215 rfl) <|
           WL.guardNo rfl rfl rfl (vb c215 rfl) <|
           E rfl (ex_pick_f (v := .bool false) (vb c215 rfl) rfl) <|
           E rfl (mv (.bool false) rfl) <|
           WL.guardNo rfl rfl rfl rfl <|
           WL.guardNo rfl rfl rfl rfl <|
           E rfl (ex_pick_f (v := .bool false) rfl rfl) <|
           E rfl (mv (.bool false) rfl) <|
           WL.guardNo rfl rfl rfl rfl <|
           WL.guardNo rfl rfl rfl rfl <|
           WL.guardNo rfl rfl rfl rfl <|
           E rfl (ex_pick_f (v := .bool false) rfl rfl) <|
           E rfl (mv (.bool false) rfl) <|
           WL.guardNo rfl rfl rfl rfl <|
           WL.guardNo rfl rfl rfl rfl <|
           WL.guardNo rfl rfl rfl rfl <|
           E rfl (ex_pick_f (v := .bool false) rfl rfl) <|
           E rfl (mv (.bool false) rfl) <|
           WL.guardNo rfl rfl rfl rfl <|
           WL.guardNo rfl rfl rfl rfl <|
           E rfl (ex_pick_f (v := .bool false) rfl rfl) <|
           E rfl (sg (.bool false) rfl) <|
           WL.nil <|
           WC.ret ?_
          obtain rfl := Option.some.inj H
          replace HF := HF.step s213 rfl
          exact ⟨_, (.tmp _ rfl .nil), _, rfl, HF.out⟩
        ·
         refine WL.guardNo rfl rfl rfl (vb c214 rfl) <|
          WL.guardNo rfl rfl rfl (vb c214 rfl) <|
          WL.guardNo rfl rfl rfl (vb c214 rfl) <|
          WL.guardNo rfl rfl rfl (vb c214 rfl) <|
          E rfl (ex_pick_f (v := .bool false) (vb c214 rfl) rfl) <|
          E rfl (mv (.bool false) rfl) <|
          WL.guardNo rfl rfl rfl rfl <|
          WL.guardNo rfl rfl rfl rfl <|
          E rfl (ex_pick_f (v := .bool false) rfl rfl) <|
          E rfl (mv (.bool false) rfl) <|
          WL.guardNo rfl rfl rfl rfl <|
          WL.guardNo rfl rfl rfl rfl <|
          E rfl (ex_pick_f (v := .bool false) rfl rfl) <|
          E rfl (mv (.bool false) rfl) <|
          WL.guardNo rfl rfl rfl rfl <|
          WL.guardNo rfl rfl rfl rfl <|
          WL.guardNo rfl rfl rfl rfl <|
          E rfl (ex_pick_f (v := .bool false) rfl rfl) <|
          E rfl (mv (.bool false) rfl) <|
          WL.guardNo rfl rfl rfl rfl <|
          WL.guardNo rfl rfl rfl rfl <|
          WL.guardNo rfl rfl rfl rfl <|
          E rfl (ex_pick_f (v := .bool false) rfl rfl) <|
          E rfl (mv (.bool false) rfl) <|
          WL.guardNo rfl rfl rfl rfl ?_
         refine WL.guardNo rfl rfl rfl rfl <|
          E rfl (ex_pick_f (v := .bool false) rfl rfl) <|
          E rfl (sg (.bool false) rfl) <|
          WL.nil <|
          WC.ret ?_
         obtain rfl := Option.some.inj H
         replace HF := HF.step s213 rfl
         exact ⟨_, (.tmp _ rfl .nil), _, rfl, HF.out⟩
       ·
        refine WL.guardNo rfl rfl rfl (vb c209 rfl) <|
         WL.guardNo rfl rfl rfl (vb c209 rfl) <|
         WL.guardNo rfl rfl rfl (vb c209 rfl) <|
         E rfl (ex_pick_f (v := .bool false) (vb c209 rfl) rfl) <|
         E rfl (mv (.bool false) rfl) <|
         WL.guardNo rfl rfl rfl rfl <|
         WL.guardNo rfl rfl rfl rfl <|
         WL.guardNo rfl rfl rfl rfl <|
         WL.guardNo rfl rfl rfl rfl <|
         E rfl (ex_pick_f (v := .bool false) rfl rfl) <|
         E rfl (mv (.bool false) rfl) <|
         WL.guardNo rfl rfl rfl rfl <|
         WL.guardNo rfl rfl rfl rfl <|
         E rfl (ex_pick_f (v := .bool false) rfl rfl) <|
         E rfl (mv (.bool false) rfl) <|
         WL.guardNo rfl rfl rfl rfl <|
         WL.guardNo rfl rfl rfl rfl <|
         E rfl (ex_pick_f (v := .bool false) rfl rfl) <|
         E rfl (mv (.bool false) rfl) <|
         WL.guardNo rfl rfl rfl rfl <|
         WL.guardNo rfl rfl rfl rfl <|
         WL.guardNo rfl rfl rfl rfl <|
         E rfl (ex_pick_f (v := .bool false) rfl rfl) <|
         E rfl (mv (.bool false) rfl) <|
         WL.guardNo rfl rfl rfl rfl ?_
        refine WL.guardNo rfl rfl rfl rfl <|
         WL.guardNo rfl rfl rfl rfl <|
         E rfl (ex_pick_f (v := .bool false) rfl rfl) <|
         E rfl (mv (.bool false) rfl) <|
         WL.guardNo rfl rfl rfl rfl <|
         WL.guardNo rfl rfl rfl rfl <|
         E rfl (ex_pick_f (v := .bool false) rfl rfl) <|
         E rfl (sg (.bool false) rfl) <|
         WL.nil <|
         WC.ret ?_
        obtain rfl := Option.some.inj H
        have k198_201 := s198.t s201
        replace HF := HF.step k198_201 rfl
        exact ⟨_, (.tmp _ rfl .nil), _, rfl, HF.out⟩
      ·
       refine WL.guardNo rfl rfl rfl (vb c208 rfl) <|
        WL.guardNo rfl rfl rfl (vb c208 rfl) <|
        E rfl (ex_pick_f (v := .bool false) (vb c208 rfl) rfl) <|
        E rfl (mv (.bool false) rfl) <|
        WL.guardNo rfl rfl rfl rfl <|
        WL.guardNo rfl rfl rfl rfl <|
        WL.guardNo rfl rfl rfl rfl <|
        E rfl (ex_pick_f (v := .bool false) rfl rfl) <|
        E rfl (mv (.bool false) rfl) <|
        WL.guardNo rfl rfl rfl rfl <|
        WL.guardNo rfl rfl rfl rfl <|
        WL.guardNo rfl rfl rfl rfl <|
        WL.guardNo rfl rfl rfl rfl <|
        E rfl (ex_pick_f (v := .bool false) rfl rfl) <|
        E rfl (mv (.bool false) rfl) <|
        WL.guardNo rfl rfl rfl rfl <|
        WL.guardNo rfl rfl rfl rfl <|
        E rfl (ex_pick_f (v := .bool false) rfl rfl) <|
        E rfl (mv (.bool false) rfl) <|
        WL.guardNo rfl rfl rfl rfl <|
        WL.guardNo rfl rfl rfl rfl <|
        E rfl (ex_pick_f (v := .bool false) rfl rfl) <|
        E rfl (mv (.bool false) rfl) <|
        WL.guardNo rfl rfl rfl rfl <|
        WL.guardNo rfl rfl rfl rfl ?_
       refine WL.guardNo rfl rfl rfl rfl <|
        E rfl (ex_pick_f (v := .bool false) rfl rfl) <|
        E rfl (mv (.bool false) rfl) <|
        WL.guardNo rfl rfl rfl rfl <|
        WL.guardNo rfl rfl rfl rfl <|
        WL.guardNo rfl rfl rfl rfl <|
        E rfl (ex_pick_f (v := .bool false) rfl rfl) <|
        E rfl (mv (.bool false) rfl) <|
        WL.guardNo rfl rfl rfl rfl <|
        WL.guardNo rfl rfl rfl rfl <|
        E rfl (ex_pick_f (v := .bool false) rfl rfl) <|
        E rfl (sg (.bool false) rfl) <|
        WL.nil <|
        WC.ret ?_
       obtain rfl := Option.some.inj H
       have k198_201 := s198.t s201
       replace HF := HF.step k198_201 rfl
       exact ⟨_, (.tmp _ rfl .nil), _, rfl, HF.out⟩
     ·
      refine WL.guardNo rfl rfl rfl (vb c207 rfl) <|
       WL.guardNo rfl rfl rfl (vb c207 rfl) <|
       WL.guardNo rfl rfl rfl (vb c207 rfl) <|
       E rfl (ex_pick_f (v := .bool false) (vb c207 rfl) rfl) <|
       E rfl (mv (.bool false) rfl) <|
       WL.guardNo rfl rfl rfl rfl <|
       WL.guardNo rfl rfl rfl rfl <|
       E rfl (ex_pick_f (v := .bool false) rfl rfl) <|
       E rfl (mv (.bool false) rfl) <|
       WL.guardNo rfl rfl rfl rfl <|
       WL.guardNo rfl rfl rfl rfl <|
       WL.guardNo rfl rfl rfl rfl <|
       E rfl (ex_pick_f (v := .bool false) rfl rfl) <|
       E rfl (mv (.bool false) rfl) <|
       WL.guardNo rfl rfl rfl rfl <|
       WL.guardNo rfl rfl rfl rfl <|
       WL.guardNo rfl rfl rfl rfl <|
       WL.guardNo rfl rfl rfl rfl <|
       E rfl (ex_pick_f (v := .bool false) rfl rfl) <|
       E rfl (mv (.bool false) rfl) <|
       WL.guardNo rfl rfl rfl rfl <|
       WL.guardNo rfl rfl rfl rfl <|
       E rfl (ex_pick_f (v := .bool false) rfl rfl) <|
       E rfl (mv (.bool false) rfl) <|
       WL.guardNo rfl rfl rfl rfl ?_
      refine WL.guardNo rfl rfl rfl rfl <|
       E rfl (ex_pick_f (v := .bool false) rfl rfl) <|
       E rfl (mv (.bool false) rfl) <|
       WL.guardNo rfl rfl rfl rfl <|
       WL.guardNo rfl rfl rfl rfl <|
       WL.guardNo rfl rfl rfl rfl <|
       E rfl (ex_pick_f (v := .bool false) rfl rfl) <|
       E rfl (mv (.bool false) rfl) <|
       WL.guardNo rfl rfl rfl rfl <|
       WL.guardNo rfl rfl rfl rfl <|
       WL.guardNo rfl rfl rfl rfl <|
       E rfl (ex_pick_f (v := .bool false) rfl rfl) <|
       E rfl (mv (.bool false) rfl) <|
       WL.guardNo rfl rfl rfl rfl <|
       WL.guardNo rfl rfl rfl rfl <|
       E rfl (ex_pick_f (v := .bool false) rfl rfl) <|
       E rfl (sg (.bool false) rfl) <|
       WL.nil <|
       WC.ret ?_
      obtain rfl := Option.some.inj H
      have k198_201 := s198.t s201
      replace HF := HF.step k198_201 rfl
      exact ⟨_, (.tmp _ rfl .nil), _, rfl, HF.out⟩
    ·
     refine WL.guardNo rfl rfl rfl (vb c206 rfl) <|
      WL.guardNo rfl rfl rfl (vb c206 rfl) <|
      WL.guardNo rfl rfl rfl (vb c206 rfl) <|
      E rfl (ex_pick_f (v := .bool false) (vb c206 rfl) rfl) <|
      E rfl (mv (.bool false) rfl) <|
      WL.guardNo rfl rfl rfl rfl <|
      WL.guardNo rfl rfl rfl rfl <|
      WL.guardNo rfl rfl rfl rfl <|
      E rfl (ex_pick_f (v := .bool false) rfl rfl) <|
      E rfl (mv (.bool false) rfl) <|
      WL.guardNo rfl rfl rfl rfl <|
      WL.guardNo rfl rfl rfl rfl <|
      E rfl (ex_pick_f (v := .bool false) rfl rfl) <|
      E rfl (mv (.bool false) rfl) <|
      WL.guardNo rfl rfl rfl rfl <|
      WL.guardNo rfl rfl rfl rfl <|
      WL.guardNo rfl rfl rfl rfl <|
      E rfl (ex_pick_f (v := .bool false) rfl rfl) <|
      E rfl (mv (.bool false) rfl) <|
      WL.guardNo rfl rfl rfl rfl <|
      WL.guardNo rfl rfl rfl rfl <|
      WL.guardNo rfl rfl rfl rfl <|
      WL.guardNo rfl rfl rfl rfl <|
      E rfl (ex_pick_f (v := .bool false) rfl rfl) <|
      E rfl (mv (.bool false) rfl) ?_
     refine WL.guardNo rfl rfl rfl rfl <|
      WL.guardNo rfl rfl rfl rfl <|
      E rfl (ex_pick_f (v := .bool false) rfl rfl) <|
      E rfl (mv (.bool false) rfl) <|
      WL.guardNo rfl rfl rfl rfl <|
      WL.guardNo rfl rfl rfl rfl <|
      E rfl (ex_pick_f (v := .bool false) rfl rfl) <|
      E rfl (mv (.bool false) rfl) <|
      WL.guardNo rfl rfl rfl rfl <|
      WL.guardNo rfl rfl rfl rfl <|
      WL.guardNo rfl rfl rfl rfl <|
      E rfl (ex_pick_f (v := .bool false) rfl rfl) <|
      E rfl (mv (.bool false) rfl) <|
      WL.guardNo rfl rfl rfl rfl <|
      WL.guardNo rfl rfl rfl rfl <|
      WL.guardNo rfl rfl rfl rfl <|
      E rfl (ex_pick_f (v := .bool false) rfl rfl) <|
      E rfl (mv (.bool false) rfl) <|
      WL.guardNo rfl rfl rfl rfl <|
      WL.guardNo rfl rfl rfl rfl <|
      E rfl (ex_pick_f (v := .bool false) rfl rfl) <|
      E rfl (sg (.bool false) rfl) <|
      WL.nil <|
      WC.ret ?_
     obtain rfl := Option.some.inj H
     have k198_201 := s198.t s201
     replace HF := HF.step k198_201 rfl
     exact ⟨_, (.tmp _ rfl .nil), _, rfl, HF.out⟩
   ·
    refine WL.guardNo rfl rfl rfl (vb c205 rfl) <|
     WL.guardNo rfl rfl rfl (vb c205 rfl) <|
     WL.guardNo rfl rfl rfl (vb c205 rfl) <|
     E rfl (ex_pick_f (v := .bool false) (vb c205 rfl) rfl) <|
     E rfl (mv (.bool false) rfl) <|
     WL.guardNo rfl rfl rfl rfl <|
     WL.guardNo rfl rfl rfl rfl <|
     WL.guardNo rfl rfl rfl rfl <|
     E rfl (ex_pick_f (v := .bool false) rfl rfl) <|
     E rfl (mv (.bool false) rfl) <|
     WL.guardNo rfl rfl rfl rfl <|
     WL.guardNo rfl rfl rfl rfl <|
     WL.guardNo rfl rfl rfl rfl <|
     E rfl (ex_pick_f (v := .bool false) rfl rfl) <|
     E rfl (mv (.bool false) rfl) <|
     WL.guardNo rfl rfl rfl rfl <|
     WL.guardNo rfl rfl rfl rfl <|
     E rfl (ex_pick_f (v := .bool false) rfl rfl) <|
     E rfl (mv (.bool false) rfl) <|
     WL.guardNo rfl rfl rfl rfl <|
     WL.guardNo rfl rfl rfl rfl <|
     WL.guardNo rfl rfl rfl rfl <|
     E rfl (ex_pick_f (v := .bool false) rfl rfl) <|
     E rfl (mv (.bool false) rfl) <|
     WL.guardNo rfl rfl rfl rfl ?_
    refine WL.guardNo rfl rfl rfl rfl <|
     WL.guardNo rfl rfl rfl rfl <|
     WL.guardNo rfl rfl rfl rfl <|
     E rfl (ex_pick_f (v := .bool false) rfl rfl) <|
     E rfl (mv (.bool false) rfl) <|
     WL.guardNo rfl rfl rfl rfl <|
     WL.guardNo rfl rfl rfl rfl <|
     E rfl (ex_pick_f (v := .bool false) rfl rfl) <|
     E rfl (mv (.bool false) rfl) <|
     WL.guardNo rfl rfl rfl rfl <|
     WL.guardNo rfl rfl rfl rfl <|
     E rfl (ex_pick_f (v := .bool false) rfl rfl) <|
     E rfl (mv (.bool false) rfl) <|
     WL.guardNo rfl rfl rfl rfl <|
     WL.guardNo rfl rfl rfl rfl <|
     WL.guardNo rfl rfl rfl rfl <|
     E rfl (ex_pick_f (v := .bool false) rfl rfl) <|
     E rfl (mv (.bool false) rfl) <|
     WL.guardNo rfl rfl rfl rfl <|
     WL.guardNo rfl rfl rfl rfl <|
     WL.guardNo rfl rfl rfl rfl <|
     E rfl (ex_pick_f (v := .bool false) rfl rfl) <|
     E rfl (mv (.bool false) rfl) <|
     WL.guardNo rfl rfl rfl rfl <|
     WL.guardNo rfl rfl rfl rfl ?_
    refine E rfl (ex_pick_f (v := .bool false) rfl rfl) <|
     E rfl (sg (.bool false) rfl) <|
     WL.nil <|
     WC.ret ?_
    obtain rfl := Option.some.inj H
    have k198_201 := s198.t s201
    replace HF := HF.step k198_201 rfl
    exact ⟨_, (.tmp _ rfl .nil), _, rfl, HF.out⟩
  ·
   refine WL.guardNo rfl rfl rfl (vb c204 rfl) <|
    WL.guardNo rfl rfl rfl (vb c204 rfl) <|
    E rfl (ex_pick_f (v := .bool false) (vb c204 rfl) rfl) <|
    E rfl (mv (.bool false) rfl) <|
    WL.guardNo rfl rfl rfl rfl <|
    WL.guardNo rfl rfl rfl rfl <|
    WL.guardNo rfl rfl rfl rfl <|
    E rfl (ex_pick_f (v := .bool false) rfl rfl) <|
    E rfl (mv (.bool false) rfl) <|
    WL.guardNo rfl rfl rfl rfl <|
    WL.guardNo rfl rfl rfl rfl <|
    WL.guardNo rfl rfl rfl rfl <|
    E rfl (ex_pick_f (v := .bool false) rfl rfl) <|
    E rfl (mv (.bool false) rfl) <|
    WL.guardNo rfl rfl rfl rfl <|
    WL.guardNo rfl rfl rfl rfl <|
    WL.guardNo rfl rfl rfl rfl <|
    E rfl (ex_pick_f (v := .bool false) rfl rfl) <|
    E rfl (mv (.bool false) rfl) <|
    WL.guardNo rfl rfl rfl rfl <|
    WL.guardNo rfl rfl rfl rfl <|
    E rfl (ex_pick_f (v := .bool false) rfl rfl) <|
    E rfl (mv (.bool false) rfl) <|
    WL.guardNo rfl rfl rfl rfl <|
    WL.guardNo rfl rfl rfl rfl ?_
   refine WL.guardNo rfl rfl rfl rfl <|
    E rfl (ex_pick_f (v := .bool false) rfl rfl) <|
    E rfl (mv (.bool false) rfl) <|
    WL.guardNo rfl rfl rfl rfl <|
    WL.guardNo rfl rfl rfl rfl <|
    WL.guardNo rfl rfl rfl rfl <|
    WL.guardNo rfl rfl rfl rfl <|
    E rfl (ex_pick_f (v := .bool false) rfl rfl) <|
    E rfl (mv (.bool false) rfl) <|
    WL.guardNo rfl rfl rfl rfl <|
    WL.guardNo rfl rfl rfl rfl <|
    E rfl (ex_pick_f (v := .bool false) rfl rfl) <|
    E rfl (mv (.bool false) rfl) <|
    WL.guardNo rfl rfl rfl rfl <|
    WL.guardNo rfl rfl rfl rfl <|
    E rfl (ex_pick_f (v := .bool false) rfl rfl) <|
    E rfl (mv (.bool false) rfl) <|
    WL.guardNo rfl rfl rfl rfl <|
    WL.guardNo rfl rfl rfl rfl <|
    WL.guardNo rfl rfl rfl rfl <|
    E rfl (ex_pick_f (v := .bool false) rfl rfl) <|
    E rfl (mv (.bool false) rfl) <|
    WL.guardNo rfl rfl rfl rfl <|
    WL.guardNo rfl rfl rfl rfl <|
    WL.guardNo rfl rfl rfl rfl ?_
   refine E rfl (ex_pick_f (v := .bool false) rfl rfl) <|
    E rfl (mv (.bool false) rfl) <|
    WL.guardNo rfl rfl rfl rfl <|
    WL.guardNo rfl rfl rfl rfl <|
    E rfl (ex_pick_f (v := .bool false) rfl rfl) <|
    E rfl (sg (.bool false) rfl) <|
    WL.nil <|
    WC.ret ?_
   obtain rfl := Option.some.inj H
   have k198_201 := s198.t s201
   replace HF := HF.step k198_201 rfl
   exact ⟨_, (.tmp _ rfl .nil), _, rfl, HF.out⟩
 ·
  refine WL.guardNo rfl rfl rfl (vb c203 rfl) <|
   WL.guardNo rfl rfl rfl (vb c203 rfl) <|
   E rfl (ex_pick_f (v := .bool false) (vb c203 rfl) rfl) <|
   E rfl (mv (.bool false) rfl) <|
   WL.guardNo rfl rfl rfl rfl <|
   WL.guardNo rfl rfl rfl rfl <|
   E rfl (ex_pick_f (v := .bool false) rfl rfl) <|
   E rfl (mv (.bool false) rfl) <|
   WL.guardNo rfl rfl rfl rfl <|
   WL.guardNo rfl rfl rfl rfl <|
   WL.guardNo rfl rfl rfl rfl <|
   E rfl (ex_pick_f (v := .bool false) rfl rfl) <|
   E rfl (mv (.bool false) rfl) <|
   WL.guardNo rfl rfl rfl rfl <|
   WL.guardNo rfl rfl rfl rfl <|
   WL.guardNo rfl rfl rfl rfl <|
   E rfl (ex_pick_f (v := .bool false) rfl rfl) <|
   E rfl (mv (.bool false) rfl) <|
   WL.guardNo rfl rfl rfl rfl <|
   WL.guardNo rfl rfl rfl rfl <|
   WL.guardNo rfl rfl rfl rfl <|
   E rfl (ex_pick_f (v := .bool false) rfl rfl) <|
   E rfl (mv (.bool false) rfl) <|
   WL.guardNo rfl rfl rfl rfl <|
   WL.guardNo rfl rfl rfl rfl ?_
  refine E rfl (ex_pick_f (v := .bool false) rfl rfl) <|
   E rfl (mv (.bool false) rfl) <|
   WL.guardNo rfl rfl rfl rfl <|
   WL.guardNo rfl rfl rfl rfl <|
   WL.guardNo rfl rfl rfl rfl <|
   E rfl (ex_pick_f (v := .bool false) rfl rfl) <|
   E rfl (mv (.bool false) rfl) <|
   WL.guardNo rfl rfl rfl rfl <|
   WL.guardNo rfl rfl rfl rfl <|
   WL.guardNo rfl rfl rfl rfl <|
   WL.guardNo rfl rfl rfl rfl <|
   E rfl (ex_pick_f (v := .bool false) rfl rfl) <|
   E rfl (mv (.bool false) rfl) <|
   WL.guardNo rfl rfl rfl rfl <|
   WL.guardNo rfl rfl rfl rfl <|
   E rfl (ex_pick_f (v := .bool false) rfl rfl) <|
   E rfl (mv (.bool false) rfl) <|
   WL.guardNo rfl rfl rfl rfl <|
   WL.guardNo rfl rfl rfl rfl <|
   E rfl (ex_pick_f (v := .bool false) rfl rfl) <|
   E rfl (mv (.bool false) rfl) <|
   WL.guardNo rfl rfl rfl rfl <|
   WL.guardNo rfl rfl rfl rfl <|
   WL.guardNo rfl rfl rfl rfl <|
   E rfl (ex_pick_f (v := .bool false) rfl rfl) ?_
  refine E rfl (mv (.bool false) rfl) <|
   WL.guardNo rfl rfl rfl rfl <|
   WL.guardNo rfl rfl rfl rfl <|
   WL.guardNo rfl rfl rfl rfl <|
   E rfl (ex_pick_f (v := .bool false) rfl rfl) <|
   E rfl (mv (.bool false) rfl) <|
   WL.guardNo rfl rfl rfl rfl <|
   WL.guardNo rfl rfl rfl rfl <|
   E rfl (ex_pick_f (v := .bool false) rfl rfl) <|
   E rfl (sg (.bool false) rfl) <|
   WL.nil <|
   WC.ret ?_
  obtain rfl := Option.some.inj H
  have k198_201 := s198.t s201
  replace HF := HF.step k198_201 rfl
  exact ⟨_, (.tmp _ rfl .nil), _, rfl, HF.out⟩

/-! ### dictumlaw04_SyntaxPrints -/
set_option maxRecDepth 100000 in
theorem dictumlaw04_SyntaxPrints.calls (k : Nat) (o0 : Tags) (w0 : World) (pA0 : Option Addr) (pc0 : Nat) {a0 : (List T_api_Node)} {a1 : Int} {r : Bool} (H : dictumlaw04_SyntaxPrints.f k a0 a1 = some r) (hO : ∀ b, b < w0.heap.size → o0 b < 40) (hra0 : Row T_api_Node.rep (fun b_ => o0 b_ = 0) (fun b_ => o0 b_ = 0) w0 pA0 a0) (hla0 : a0.length ≤ pc0) (hG : Gl GG o0 w0) :
  Calls Tryz.prog 5 [.slice pA0 a0.length pc0, ii a1].toArray w0 fun e_ w_ => ∃ (o_ : Tags), e_ = .returned (one [.bool r]) ∧ Step o0 w0 o_ w_ [] := by
 have HF := Fm.refl hO []
 unfold dictumlaw04_SyntaxPrints.f at H
 refine SX.calls [.slice pA0 a0.length pc0, ii a1] Tryz.func5 rfl rfl ?_
 rw [Tryz.ntmps5]
 refine WC.seq <|
  WC.region <|
  E rfl (sg (.bool false) rfl) <|
  WL.nil <|
  WC.seq <|
  WC.region <|
  E rfl (mv (.slice pA0 a0.length pc0) rfl) ?_
 obtain ⟨z101, hz101, H⟩ := bindE H
 refine WL.op rfl <|
  OW.call [.slice pA0 a0.length pc0] rfl Tryz.func7 (by kernel_rfl) (by kernel_rfl) (map_cons' rfl rfl) (dictumlaw04_Tables.calls k _ _ pA0 pc0 hz101 (HF.ten (V := [0]) (L := []) rfl) (Row.vw hra0 rfl) hla0) ?_
 rintro _ w102 ⟨o103, b105, v107, b109, b111, v113, rfl, s104, hB106, hO108, hM110, hB112, hO114⟩
 refine ⟨_, rfl, ?_⟩
 replace hB106 := Bk.un9 (J := [40, 41, 42, 43, 44]) 0 hB106 rfl s104 rfl rfl
 replace hO108 := Own.un9 (J := [40, 41, 42, 43, 44]) 1 hO108 rfl s104 rfl rfl
 replace hM110 := Mp.un9 (J := [40, 41, 42, 43, 44]) 2 hM110 rfl s104 rfl rfl
 replace hB112 := Bk.un9 (J := [40, 41, 42, 43, 44]) 3 hB112 rfl s104 rfl rfl
 replace hO114 := Own.un9 (J := [40, 41, 42, 43, 44]) 4 hO114 rfl s104 rfl rfl
 replace s104 := un_stepL (J := [40, 41, 42, 43, 44]) (L' := []) s104 rfl rfl
 refine E rfl (mv (.tuple #[pp b105 0, pp b111 0]) rfl) <|
  E rfl (ex_extract rfl rfl) <|
  E rfl (ex_extract rfl rfl) <|
  E rfl (sg (pp b105 0) rfl) <|
  E rfl (sg (pp b111 0) rfl) <|
  WL.nil <|
  WC.seq <|
  WC.region <|
  E rfl (mv (pp b105 0) rfl) <|
  E rfl (mv (ii a1) rfl) ?_
 obtain ⟨z115, hz115, H⟩ := bindE H
 refine WL.op rfl ?_
 replace HF := HF.step s104 rfl
 refine OW.call [pp b105 0, ii a1] rfl Tryz.func9 (by kernel_rfl) (by kernel_rfl) (map_cons' rfl (map_cons' rfl rfl)) (syntax_Print.calls k _ _ b105 v107 b109 (a0 := z101.1.1) hz115 (HF.ten (V := [0]) (L := [40, 41, 42]) rfl) (Bk.vw hB106 rfl) (Own.vw hO108 rfl rfl) (Mp.vw hM110 rfl)) ?_
 rintro _ w116 ⟨o117, rfl, s118⟩
 refine ⟨_, rfl, ?_⟩
 replace s118 := un_stepL (J := []) (L' := []) s118 rfl rfl
 refine E rfl (mv (.tuple #[encS z115.1, ii z115.2]) rfl) <|
  E rfl (ex_extract rfl rfl) <|
  E rfl (ex_extract rfl rfl) <|
  E rfl (sg (encS z115.1) rfl) <|
  E rfl (sg (ii z115.2) rfl) <|
  WL.nil <|
  WC.seq <|
  WC.region <|
  E rfl (mv (pp b111 0) rfl) <|
  E rfl (mv (ii a1) rfl) ?_
 obtain ⟨z119, hz119, H⟩ := bindE H
 refine WL.op rfl ?_
 replace hB112 := hB112.step s118 rfl
 replace hO114 := hO114.step s118 rfl rfl
 replace HF := HF.step s118 rfl
 refine OW.call [pp b111 0, ii a1] rfl Tryz.func17 (by kernel_rfl) (by kernel_rfl) (map_cons' rfl (map_cons' rfl rfl)) (dictumref04_Print.calls k _ _ b111 v113 (a0 := z101.2) hz119 (HF.ten (V := [0]) (L := [43, 44]) rfl) (Bk.vw hB112 rfl) (Own.vw hO114 rfl rfl)) ?_
 rintro _ w120 ⟨o121, rfl, s122⟩
 refine ⟨_, rfl, ?_⟩
 replace s122 := un_stepL (J := []) (L' := []) s122 rfl rfl
 refine E rfl (mv (.tuple #[encS z119.1, ii z119.2]) rfl) <|
  E rfl (ex_extract rfl rfl) <|
  E rfl (ex_extract rfl rfl) <|
  E rfl (sg (encS z119.1) rfl) <|
  E rfl (sg (ii z119.2) rfl) <|
  WL.nil <|
  WC.seq <|
  WC.region <|
  E rfl (mv (encS z115.1) rfl) <|
  E rfl (mv (encS z119.1) rfl) <|
  E rfl (e2 bin_eql_str rfl rfl) <|
  E rfl (mv (.bool (z115.1 == z119.1)) rfl) ?_
 rcases condE H with ⟨c123, H⟩ | ⟨c123, H⟩
 ·
  refine WL.guardYes rfl rfl rfl (vb c123 rfl) <|
   OW.ex rfl (mv (ii z115.2) rfl) <|
   WL.guardYes rfl rfl rfl (vb c123 rfl) ?_
  obtain ⟨z124, hz124, H⟩ := bindE H
  replace HF := HF.step s122 rfl
  refine OW.call [ii z115.2] rfl Tryz.func10 (by kernel_rfl) (by kernel_rfl) (map_cons' rfl rfl) (dictumlaw04_num.calls _ _ hz124 (HF.ten (V := [0]) (L := []) rfl) ) ?_
  rintro _ w125 ⟨o126, rfl, s127⟩
  refine ⟨_, rfl, ?_⟩
  replace s127 := un_stepL (J := []) (L' := []) s127 rfl rfl
  refine WL.guardYes rfl rfl rfl (vb c123 rfl) <|
   OW.ex rfl (mv (ii z119.2) rfl) <|
   WL.guardYes rfl rfl rfl (vb c123 rfl) <|
   OW.ex rfl (e2 bin_eql rfl rfl) <|
   E rfl (ex_pick_t (v := .bool (z124 == z119.2)) (vb c123 rfl) rfl) <|
   E rfl (mv (.bool (z124 == z119.2)) rfl) ?_
  rcases condE H with ⟨c128, H⟩ | ⟨c128, H⟩
  ·
   refine WL.guardYes rfl rfl rfl (vb c128 rfl) <|
    OW.ex rfl (mv (pp b105 0) rfl) <|
    WL.guardYes rfl rfl rfl (vb c128 rfl) <|
    OW.ex rfl (mv (pp b111 0) rfl) <|
    WL.guardYes rfl rfl rfl (vb c128 rfl) ?_
   obtain ⟨z129, hz129, H⟩ := bindE H
   replace HF := HF.step s127 rfl
   have k122_127 := s122.t s127
   replace hB112 := hB112.step k122_127 rfl
   replace hO114 := hO114.step k122_127 rfl rfl
   have k118_127 := s118.t k122_127
   replace hB106 := hB106.step k118_127 rfl
   replace hO108 := hO108.step k118_127 rfl rfl
   replace hM110 := hM110.step k118_127 rfl
   refine OW.call [pp b105 0, pp b111 0] rfl Tryz.func15 (by kernel_rfl) (by kernel_rfl) (map_cons' rfl (map_cons' rfl rfl)) (dictumlaw03_Like.calls k _ _ b105 v107 b111 v113 b109 (a0 := z101.1.1) (a1 := z101.2) hz129 (HF.ten (V := [0]) (L := [40, 41, 43, 44, 42]) rfl) (Bk.vw hB106 rfl) (Own.vw hO108 rfl rfl) (Bk.vw hB112 rfl) (Own.vw hO114 rfl rfl) (Mp.vw hM110 rfl)) ?_
   rintro _ w130 ⟨o131, rfl, s132⟩
   refine ⟨_, rfl, ?_⟩
   replace s132 := un_stepL (J := []) (L' := []) s132 rfl rfl
   refine E rfl (ex_pick_t (v := .bool z129) (vb c128 rfl) rfl) <|
    E rfl (mv (.bool z129) rfl) ?_
   rcases condE H with ⟨c133, H⟩ | ⟨c133, H⟩
   ·
    refine WL.guardYes rfl rfl rfl (vb c133 rfl) ?_
    obtain ⟨z134, hz134, H⟩ := bindE H
    replace HF := HF.step s132 rfl
    have k104_132 := (((s104.t s118).t s122).t s127).t s132
    replace hG := hG.step k104_132 rfl
    refine OW.call [] rfl Tryz.func13 (by kernel_rfl) (by kernel_rfl) rfl (dictumlaw04_heads.calls k _ _ hz134 (HF.ten (V := [0]) (L := []) rfl) (Gl.vw hG rfl)) ?_
    rintro _ w135 ⟨o136, rfl, s137⟩
    refine ⟨_, rfl, ?_⟩
    replace s137 := un_stepL (J := []) (L' := []) s137 rfl rfl
    refine E rfl (ex_pick_t (v := .bool z134) (vb c133 rfl) rfl) <|
     E rfl (sg (.bool z134) rfl) <|
     WL.nil <|
     WC.ret ?_
    obtain rfl := Option.some.inj H
    replace HF := HF.step s137 rfl
    exact ⟨_, (.tmp _ rfl .nil), _, rfl, HF.out⟩
   ·
    refine WL.guardNo rfl rfl rfl (vb c133 rfl) <|
     E rfl (ex_pick_f (v := .bool false) (vb c133 rfl) rfl) <|
     E rfl (sg (.bool false) rfl) <|
     WL.nil <|
     WC.ret ?_
    obtain rfl := Option.some.inj H
    replace HF := HF.step s132 rfl
    exact ⟨_, (.tmp _ rfl .nil), _, rfl, HF.out⟩
  ·
   refine WL.guardNo rfl rfl rfl (vb c128 rfl) <|
    WL.guardNo rfl rfl rfl (vb c128 rfl) <|
    WL.guardNo rfl rfl rfl (vb c128 rfl) <|
    E rfl (ex_pick_f (v := .bool false) (vb c128 rfl) rfl) <|
    E rfl (mv (.bool false) rfl) <|
    WL.guardNo rfl rfl rfl rfl <|
    E rfl (ex_pick_f (v := .bool false) rfl rfl) <|
    E rfl (sg (.bool false) rfl) <|
    WL.nil <|
    WC.ret ?_
   obtain rfl := Option.some.inj H
   replace HF := HF.step s127 rfl
   exact ⟨_, (.tmp _ rfl .nil), _, rfl, HF.out⟩
 ·
  refine WL.guardNo rfl rfl rfl (vb c123 rfl) <|
   WL.guardNo rfl rfl rfl (vb c123 rfl) <|
   WL.guardNo rfl rfl rfl (vb c123 rfl) <|
   WL.guardNo rfl rfl rfl (vb c123 rfl) <|
   E rfl (ex_pick_f (v := .bool false) (vb c123 rfl) rfl) <|
   E rfl (mv (.bool false) rfl) <|
   WL.guardNo rfl rfl rfl rfl <|
   WL.guardNo rfl rfl rfl rfl <|
   WL.guardNo rfl rfl rfl rfl <|
   E rfl (ex_pick_f (v := .bool false) rfl rfl) <|
   E rfl (mv (.bool false) rfl) <|
   WL.guardNo rfl rfl rfl rfl <|
   E rfl (ex_pick_f (v := .bool false) rfl rfl) <|
   E rfl (sg (.bool false) rfl) <|
   WL.nil <|
   WC.ret ?_
  obtain rfl := Option.some.inj H
  replace HF := HF.step s122 rfl
  exact ⟨_, (.tmp _ rfl .nil), _, rfl, HF.out⟩
end Go.Proofs.YtpmkkhkphddfeaaGreatDoor.X
