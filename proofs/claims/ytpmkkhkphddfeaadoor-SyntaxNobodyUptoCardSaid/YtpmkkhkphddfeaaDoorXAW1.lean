import Derived.Test.YtpmkkhkphddfeaaDoorXAW0
set_option maxRecDepth 20000
set_option linter.unusedVariables false
set_option linter.unusedSimpArgs false
set_option linter.unnecessarySimpa false
namespace Go.Proofs.YtpmkkhkphddfeaaDoor.X
open Go Go.RowKit Go.Proofs.YtpmkkhkphddfeaaDoor.SX
/-! ### syntax_reader_take -/
set_option maxRecDepth 100000 in
theorem syntax_reader_take.calls (o0 : Tags) (w0 : World) (pb0 : Nat) (pA0_1 : Option Addr) (pc0_1 : Nat) (pb0_0 : Nat) (pv0_0_0 : Value) (pb0_0_1 : Nat) (a0 : T_syntax_reader) (a0_0 : T_formula_Table) (a0_0_1 : (List (T_api_Node × Int))) (r : Exn (T_syntax_broken × T_syntax_reader) (T_api_Token × T_syntax_reader)) (hO : ∀ b, b < w0.heap.size → o0 b < 40) (hB0 : Bk o0 w0 2 pb0 [pp pb0_0 0, .slice pA0_1 a0.f_l.length pc0_1, ii a0.f_i, ii a0.f_names, ii a0.f_nest, .bool a0.f_counts, .bool a0.f_full] 55) (hra0_1 : Row T_api_Token.rep (fun b_ => o0 b_ = 0) (fun b_ => o0 b_ = 0) w0 pA0_1 a0.f_l) (hla0_1 : a0.f_l.length ≤ pc0_1) (hB0_0 : Bk o0 w0 3 pb0_0 [pv0_0_0, .map (some pb0_0_1)] 28) (hO0_0_0 : Own T_api_Node.rep 61 4 o0 w0 pv0_0_0 a0_0.f_rows) (hM0_0_1 : Mp (fun x_ : T_api_Node => Value.agg #[ii x_.f_Kind, encS x_.f_Name, ii x_.f_L, ii x_.f_R]) (fun v_ : Int => ii v_) 5 o0 w0 pb0_0_1 a0_0_1) (H : syntax_reader_take.f a0 a0_0 a0_0_1 = some r) :
  Calls Tryd.prog 45 [pp pb0 0].toArray w0 fun e_ w_ => ∃ (o_ : Tags), ((∃ p_, r = .ex p_ ∧ ∃ (B_0_1 : Option Addr) (d_0_1 : Nat), e_ = .panicked (pc (.iface 73 (.agg #[ii p_.1.f_f.f_Code, ii p_.1.f_f.f_At.f_Line, ii p_.1.f_f.f_At.f_Col, ii p_.1.f_f.f_At.f_Off]))) ∧ Step o0 w0 o_ w_ [2] ∧ Bk o_ w_ 2 pb0 [pp pb0_0 0, .slice B_0_1 p_.2.f_l.length d_0_1, ii p_.2.f_i, ii p_.2.f_names, ii p_.2.f_nest, .bool p_.2.f_counts, .bool p_.2.f_full] 55 ∧ p_.2.f_l.length ≤ d_0_1 ∧ Row T_api_Token.rep (fun b_ => o_ b_ = 0) (fun b_ => o_ b_ = 0) w_ B_0_1 p_.2.f_l) ∨ ∃ q_, r = .ok q_ ∧ ∃ (B_0_1 : Option Addr) (d_0_1 : Nat), e_ = .returned (one [.agg #[ii q_.1.f_Kind, encS q_.1.f_Text, ii q_.1.f_Int, ii q_.1.f_At.f_Line, ii q_.1.f_At.f_Col, ii q_.1.f_At.f_Off]]) ∧ Step o0 w0 o_ w_ [2] ∧ Bk o_ w_ 2 pb0 [pp pb0_0 0, .slice B_0_1 q_.2.f_l.length d_0_1, ii q_.2.f_i, ii q_.2.f_names, ii q_.2.f_nest, .bool q_.2.f_counts, .bool q_.2.f_full] 55 ∧ q_.2.f_l.length ≤ d_0_1 ∧ Row T_api_Token.rep (fun b_ => o_ b_ = 0) (fun b_ => o_ b_ = 0) w_ B_0_1 q_.2.f_l) := by
 have HF := Fm.refl hO [2]
 unfold syntax_reader_take.f at H
 refine SX.calls [pp pb0 0] Tryd.func45 rfl rfl ?_
 rw [Tryd.ntmps45]
 refine WC.seq <|
  WC.region <|
  WL.op rfl <|
  OW.alloc' [ii (0 : Int), encS ([] : List UInt8), ii (0 : Int), ii (0 : Int), ii (0 : Int), ii (0 : Int)] 40 HF rfl zr45 rfl ?_
 intro o102 w103 b101 s104 hB105
 replace hra0_1 := hra0_1.step s104 rfl
 replace hB0 := hB0.step s104 rfl
 replace hO0_0_0 := hO0_0_0.step s104 rfl rfl
 replace hB0_0 := hB0_0.step s104 rfl
 replace hM0_0_1 := hM0_0_1.step s104 rfl
 replace HF := HF.step s104 rfl
 refine WL.nil <|
  WC.seq <|
  WC.region <|
  E rfl (mv (pp pb0 0) rfl) ?_
 obtain ⟨z106, hz106, H⟩ := bindE H
 refine WL.op rfl <|
  OW.call [pp pb0 0] rfl Tryd.func19 (by kernel_rfl) (by kernel_rfl) (map_cons' rfl rfl) (syntax_reader_now.calls _ _ pb0 pA0_1 pc0_1 pb0_0 pv0_0_0 pb0_0_1 a0 a0_0 a0_0_1 z106 (HF.ten (V := [0]) (L := [2, 3, 4, 5]) rfl) (Bk.vw hB0 rfl) (Row.vw hra0_1 rfl) hla0_1 (Bk.vw hB0_0 rfl) (Own.vw hO0_0_0 rfl rfl) (Mp.vw hM0_0_1 rfl) hz106) ?_
 rintro _ w107 ⟨o108, rfl, s109⟩
 refine ⟨_, rfl, ?_⟩
 replace s109 := un_stepL (J := []) (L' := []) s109 rfl rfl
 replace hra0_1 := hra0_1.step s109 rfl
 replace hB0 := hB0.step s109 rfl
 replace hO0_0_0 := hO0_0_0.step s109 rfl rfl
 replace hB0_0 := hB0_0.step s109 rfl
 replace hM0_0_1 := hM0_0_1.step s109 rfl
 replace hB105 := hB105.step s109 rfl
 replace HF := HF.step s109 rfl
 refine WL.op rfl <|
  OW.alloc' [ii (0 : Int), encS ([] : List UInt8), ii (0 : Int), ii (0 : Int), ii (0 : Int), ii (0 : Int)] 41 HF rfl zr45 rfl ?_
 intro o111 w112 b110 s113 hB114
 replace hra0_1 := hra0_1.step s113 rfl
 replace hB0 := hB0.step s113 rfl
 replace hO0_0_0 := hO0_0_0.step s113 rfl rfl
 replace hB0_0 := hB0_0.step s113 rfl
 replace hM0_0_1 := hM0_0_1.step s113 rfl
 replace hB105 := hB105.step s113 rfl
 replace HF := HF.step s113 rfl
 refine WL.op rfl <|
  OW.storeW rfl rfl sz45 hB114 rfl (oa rfl) ?_
 intro w115 s116 hB117
 replace hra0_1 := hra0_1.step s116 rfl
 replace hB0 := hB0.step s116 rfl
 replace hO0_0_0 := hO0_0_0.step s116 rfl rfl
 replace hB0_0 := hB0_0.step s116 rfl
 replace hM0_0_1 := hM0_0_1.step s116 rfl
 replace hB105 := hB105.step s116 rfl
 replace HF := HF.step s116 rfl
 refine WL.nil ?_
 obtain ⟨z123, hz123, H⟩ := bindE H
 refine WC.cut (fun ρ_ w_ => ∃ (o_ : Tags) (x118 : T_syntax_reader) (A119 : Option Addr) (c120 : Nat), Fm o0 w0 o_ w_ [2] ∧ Bk o_ w_ 2 pb0 [pp pb0_0 0, .slice A119 x118.f_l.length c120, ii x118.f_i, ii x118.f_names, ii x118.f_nest, .bool x118.f_counts, .bool x118.f_full] 55 ∧ Row T_api_Token.rep (fun b_ => o_ b_ = 0) (fun b_ => o_ b_ = 0) w_ A119 x118.f_l ∧ x118.f_l.length ≤ c120 ∧ Bk o_ w_ 3 pb0_0 [pv0_0_0, .map (some pb0_0_1)] 28 ∧ Own T_api_Node.rep 61 4 o_ w_ pv0_0_0 a0_0.f_rows ∧ Mp (fun x_ : T_api_Node => Value.agg #[ii x_.f_Kind, encS x_.f_Name, ii x_.f_L, ii x_.f_R]) (fun v_ : Int => ii v_) 5 o_ w_ pb0_0_1 a0_0_1 ∧ Bk o_ w_ 40 b101 [ii (0 : Int), encS ([] : List UInt8), ii (0 : Int), ii (0 : Int), ii (0 : Int), ii (0 : Int)] 45 ∧ Bk o_ w_ 41 b110 [ii z106.f_Kind, encS z106.f_Text, ii z106.f_Int, ii z106.f_At.f_Line, ii z106.f_At.f_Col, ii z106.f_At.f_Off] 45 ∧ ρ_ 0 = pp pb0 0 ∧ ρ_ 2 = pp b101 0 ∧ ρ_ 3 = pp b110 0 ∧ z123 = .inr x118) ?case124 ?_
 case case124 =>
  rintro ρ127 w125 ⟨o126, x118, A119, c120, HF, hB132, hr121, hl122, hB0_0, hO0_0_0, hM0_0_1, hB105, hB117, s0_117, s2_117, s3_117, rfl⟩
  replace H : _ = some _ := H
  dsimp only at H
  refine WC.seq <|
   WC.region <|
   E rfl (mv (pp pb0 0) s0_117) <|
   E rfl (ex_nilCheck rfl) <|
   E rfl (ex_fieldAddr rfl U55 rfl sz3) <|
   E rfl (ex_load1 rfl U3 rfl (hB132.cell rfl)) <|
   E rfl (e2 bin_add64 rfl rfl) <|
   E rfl (ex_nilCheck rfl) <|
   E rfl (ex_fieldAddr rfl U55 rfl sz3) <|
   WL.op rfl <|
   OW.store [pp pb0_0 0, .slice A119 x118.f_l.length c120, ii (wrap64 (x118.f_i + 1)), ii x118.f_names, ii x118.f_nest, .bool x118.f_counts, .bool x118.f_full] rfl (vs := [ii (wrap64 (x118.f_i + 1))]) rfl sz3 hB132 (Nat.le_of_ble_eq_true rfl) (oa rfl) rfl ?_
  intro w128 s129 hB130
  replace hr121 := hr121.step s129 rfl
  replace hB0_0 := hB0_0.step s129 rfl
  replace hO0_0_0 := hO0_0_0.step s129 rfl rfl
  replace hM0_0_1 := hM0_0_1.step s129 rfl
  replace hB105 := hB105.step s129 rfl
  replace hB117 := hB117.step s129 rfl
  replace HF := HF.step s129 rfl
  refine WL.nil <|
   WC.seq <|
   WC.region <|
   E rfl (ex_loadN (cs := [ii z106.f_Kind, encS z106.f_Text, ii z106.f_Int, ii z106.f_At.f_Line, ii z106.f_At.f_Col, ii z106.f_At.f_Off]) s3_117 U45 rfl sz45 (hB117.cells rfl)) <|
   WL.op rfl <|
   OW.storeW rfl s2_117 sz45 hB105 rfl (oa rfl) ?_
  intro w131 s132 hB133
  replace hr121 := hr121.step s132 rfl
  replace hB0_0 := hB0_0.step s132 rfl
  replace hO0_0_0 := hO0_0_0.step s132 rfl rfl
  replace hM0_0_1 := hM0_0_1.step s132 rfl
  replace hB117 := hB117.step s132 rfl
  replace hB130 := hB130.step s132 rfl
  replace HF := HF.step s132 rfl
  refine WL.nil <|
   WC.ret ?_
  obtain rfl := Option.some.inj H
  exact ⟨_, (.cell (.agg #[ii z106.f_Kind, encS z106.f_Text, ii z106.f_Int, ii z106.f_At.f_Line, ii z106.f_At.f_Col, ii z106.f_At.f_Off] : Value) s2_117 (run_loadN (cs := [ii z106.f_Kind, encS z106.f_Text, ii z106.f_Int, ii z106.f_At.f_Line, ii z106.f_At.f_Col, ii z106.f_At.f_Off]) U45 rfl sz45 (hB133.cells rfl)) .nil), _, Or.inr ⟨_, rfl, A119, c120, rfl, HF.out, hB130, hl122, hr121⟩⟩
 have Ho134 := H
 replace H := hz123
 obtain ⟨z136, hz136, H⟩ := bindE H
 refine WC.cut (fun ρ_ w_ => ∃ (o_ : Tags), Fm o0 w0 o_ w_ [2] ∧ Bk o_ w_ 2 pb0 [pp pb0_0 0, .slice pA0_1 a0.f_l.length pc0_1, ii a0.f_i, ii a0.f_names, ii a0.f_nest, .bool a0.f_counts, .bool a0.f_full] 55 ∧ Row T_api_Token.rep (fun b_ => o_ b_ = 0) (fun b_ => o_ b_ = 0) w_ pA0_1 a0.f_l ∧ Bk o_ w_ 3 pb0_0 [pv0_0_0, .map (some pb0_0_1)] 28 ∧ Own T_api_Node.rep 61 4 o_ w_ pv0_0_0 a0_0.f_rows ∧ Mp (fun x_ : T_api_Node => Value.agg #[ii x_.f_Kind, encS x_.f_Name, ii x_.f_L, ii x_.f_R]) (fun v_ : Int => ii v_) 5 o_ w_ pb0_0_1 a0_0_1 ∧ Bk o_ w_ 40 b101 [ii (0 : Int), encS ([] : List UInt8), ii (0 : Int), ii (0 : Int), ii (0 : Int), ii (0 : Int)] 45 ∧ Bk o_ w_ 41 b110 [ii z106.f_Kind, encS z106.f_Text, ii z106.f_Int, ii z106.f_At.f_Line, ii z106.f_At.f_Col, ii z106.f_At.f_Off] 45 ∧ ρ_ 0 = pp pb0 0 ∧ ρ_ 2 = pp b101 0 ∧ ρ_ 3 = pp b110 0 ∧ ρ_ 13 = .bool z136) ?case137 ?_
 case case137 =>
  rintro ρ140 w138 ⟨o139, HF, hB0, hra0_1, hB0_0, hO0_0_0, hM0_0_1, hB105, hB117, s0_134, s2_134, s3_134, s13_135⟩
  rcases condE H with ⟨c141, H⟩ | ⟨c141, H⟩
  ·
   refine WC.cond_t (vb c141 s13_135) ?_
   obtain ⟨z142, hz142, H⟩ := bindE H
   refine WC.cut (fun ρ_ w_ => ∃ (o_ : Tags), Fm o0 w0 o_ w_ [2] ∧ Bk o_ w_ 2 pb0 [pp pb0_0 0, .slice pA0_1 a0.f_l.length pc0_1, ii a0.f_i, ii a0.f_names, ii a0.f_nest, .bool a0.f_counts, .bool a0.f_full] 55 ∧ Row T_api_Token.rep (fun b_ => o_ b_ = 0) (fun b_ => o_ b_ = 0) w_ pA0_1 a0.f_l ∧ Bk o_ w_ 3 pb0_0 [pv0_0_0, .map (some pb0_0_1)] 28 ∧ Own T_api_Node.rep 61 4 o_ w_ pv0_0_0 a0_0.f_rows ∧ Mp (fun x_ : T_api_Node => Value.agg #[ii x_.f_Kind, encS x_.f_Name, ii x_.f_L, ii x_.f_R]) (fun v_ : Int => ii v_) 5 o_ w_ pb0_0_1 a0_0_1 ∧ Bk o_ w_ 40 b101 [ii (0 : Int), encS ([] : List UInt8), ii (0 : Int), ii (0 : Int), ii (0 : Int), ii (0 : Int)] 45 ∧ Bk o_ w_ 41 b110 [ii z106.f_Kind, encS z106.f_Text, ii z106.f_Int, ii z106.f_At.f_Line, ii z106.f_At.f_Col, ii z106.f_At.f_Off] 45 ∧ ρ_ 0 = pp pb0 0 ∧ ρ_ 2 = pp b101 0 ∧ ρ_ 3 = pp b110 0 ∧ z142 = .inr ()) ?case143 ?_
   case case143 =>
    rintro ρ146 w144 ⟨o145, HF, hB0, hra0_1, hB0_0, hO0_0_0, hM0_0_1, hB105, hB117, s0_141, s2_141, s3_141, rfl⟩
    replace H : _ = some _ := H
    dsimp only at H
    refine WC.region <|
     E rfl (mv (pp pb0 0) s0_141) <|
     E rfl (ex_nilCheck rfl) <|
     E rfl (ex_fieldAddr rfl U55 rfl sz3) <|
     E rfl (ex_load1 rfl U3 rfl (hB0.cell rfl)) <|
     E rfl (e2 bin_add64 rfl rfl) <|
     E rfl (ex_nilCheck rfl) <|
     E rfl (ex_fieldAddr rfl U55 rfl sz3) <|
     WL.op rfl <|
     OW.store [pp pb0_0 0, .slice pA0_1 a0.f_l.length pc0_1, ii a0.f_i, ii (wrap64 (a0.f_names + 1)), ii a0.f_nest, .bool a0.f_counts, .bool a0.f_full] rfl (vs := [ii (wrap64 (a0.f_names + 1))]) rfl sz3 hB0 (Nat.le_of_ble_eq_true rfl) (oa rfl) rfl ?_
    intro w147 s148 hB149
    replace hra0_1 := hra0_1.step s148 rfl
    replace hB0_0 := hB0_0.step s148 rfl
    replace hO0_0_0 := hO0_0_0.step s148 rfl rfl
    replace hM0_0_1 := hM0_0_1.step s148 rfl
    replace hB105 := hB105.step s148 rfl
    replace hB117 := hB117.step s148 rfl
    replace HF := HF.step s148 rfl
    refine WL.nil ?_
    obtain rfl := Option.some.inj H
    exact ⟨_, (⟨a0.f_l, a0.f_i, wrap64 (a0.f_names + 1), a0.f_nest, a0.f_counts, a0.f_full⟩ : T_syntax_reader), _, _, HF, hB149, hra0_1, hla0_1, hB0_0, hO0_0_0, hM0_0_1, hB105, hB117, s0_141, s2_141, s3_141, rfl⟩
   have Ho150 := H
   replace H := hz142
   refine WC.seq <|
    WC.region <|
    E rfl (mv (pp pb0 0) s0_134) <|
    E rfl (ex_nilCheck rfl) <|
    E rfl (ex_fieldAddr rfl U55 rfl sz3) <|
    E rfl (ex_load1 rfl U3 rfl (hB0.cell rfl)) <|
    E rfl (e2 bin_eql rfl rfl) <|
    WL.nil ?_
   rcases condE H with ⟨c151, H⟩ | ⟨c151, H⟩
   ·
    refine WC.cond_t (vb c151 rfl) <|
     WC.region <|
     E rfl (mv (pp pb0 0) s0_134) ?_
    obtain ⟨z152, hz152, H⟩ := bindE H
    refine WL.op rfl <|
     OW.callP [pp pb0 0, ii 40] rfl Tryd.func20 (by kernel_rfl) (by kernel_rfl) (map_cons' rfl (map_cons' rfl rfl)) (syntax_reader_fail.calls _ _ pb0 pA0_1 pc0_1 pb0_0 pv0_0_0 pb0_0_1 a0 40 a0_0 a0_0_1 z152 (HF.ten (V := [0]) (L := [2, 3, 4, 5]) rfl) (Bk.vw hB0 rfl) (Row.vw hra0_1 rfl) hla0_1 (Bk.vw hB0_0 rfl) (Own.vw hO0_0_0 rfl rfl) (Mp.vw hM0_0_1 rfl) hz152) ?_
    rintro _ w153 ⟨o154, (⟨p155, rfl, rfl, s157⟩ | ⟨q156, rfl, rfl, s158⟩)⟩
    ·
     refine Or.inr ⟨_, rfl, ?_⟩
     dsimp only at H
     replace s157 := un_stepL (J := []) (L' := []) s157 rfl rfl
     replace hB0 := hB0.step s157 rfl
     replace hra0_1 := hra0_1.step s157 rfl
     replace hB0_0 := hB0_0.step s157 rfl
     replace hO0_0_0 := hO0_0_0.step s157 rfl rfl
     replace hM0_0_1 := hM0_0_1.step s157 rfl
     replace hB105 := hB105.step s157 rfl
     replace hB117 := hB117.step s157 rfl
     replace HF := HF.step s157 rfl
     obtain rfl := Option.some.inj H
     replace H := Ho150
     dsimp only at H
     obtain rfl := Option.some.inj H
     replace H := Ho134
     dsimp only at H
     obtain rfl := Option.some.inj H
     exact ⟨_, Or.inl ⟨_, rfl, pA0_1, pc0_1, rfl, HF.out, hB0, hla0_1, hra0_1⟩⟩
    ·
     refine Or.inl ⟨_, rfl, ?_⟩
     dsimp only at H
     replace s158 := un_stepL (J := []) (L' := []) s158 rfl rfl
     replace hB0 := hB0.step s158 rfl
     replace hra0_1 := hra0_1.step s158 rfl
     replace hB0_0 := hB0_0.step s158 rfl
     replace hO0_0_0 := hO0_0_0.step s158 rfl rfl
     replace hM0_0_1 := hM0_0_1.step s158 rfl
     replace hB105 := hB105.step s158 rfl
     replace hB117 := hB117.step s158 rfl
     replace HF := HF.step s158 rfl
     refine WL.nil ?_
     obtain rfl := Option.some.inj H
     exact ⟨_, HF, hB0, hra0_1, hB0_0, hO0_0_0, hM0_0_1, hB105, hB117, s0_134, s2_134, s3_134, rfl⟩
   ·
    refine WC.cond_f (vb c151 rfl) <|
     WC.skip ?_
    obtain rfl := Option.some.inj H
    exact ⟨_, HF, hB0, hra0_1, hB0_0, hO0_0_0, hM0_0_1, hB105, hB117, s0_134, s2_134, s3_134, rfl⟩
  ·
   refine WC.cond_f (vb c141 s13_135) <|
    WC.skip ?_
   obtain rfl := Option.some.inj H
   exact ⟨_, a0, _, _, HF, hB0, hra0_1, hla0_1, hB0_0, hO0_0_0, hM0_0_1, hB105, hB117, s0_134, s2_134, s3_134, rfl⟩
 have Ho159 := H
 replace H := hz136
 refine WC.region <|
  E rfl (ex_loadN (cs := [ii z106.f_Kind, encS z106.f_Text, ii z106.f_Int, ii z106.f_At.f_Line, ii z106.f_At.f_Col, ii z106.f_At.f_Off]) rfl U45 rfl sz45 (hB117.cells rfl)) ?_
 obtain ⟨z160, hz160, H⟩ := bindE H
 refine WL.op rfl <|
  OW.call [.agg #[ii z106.f_Kind, encS z106.f_Text, ii z106.f_Int, ii z106.f_At.f_Line, ii z106.f_At.f_Col, ii z106.f_At.f_Off]] rfl Tryd.func15 (by kernel_rfl) (by kernel_rfl) (map_cons' rfl rfl) (syntax_counted.calls _ _ z106 z160 (HF.ten (V := [0]) (L := []) rfl)  hz160) ?_
 rintro _ w161 ⟨o162, rfl, s163⟩
 refine ⟨_, rfl, ?_⟩
 replace s163 := un_stepL (J := []) (L' := []) s163 rfl rfl
 replace hra0_1 := hra0_1.step s163 rfl
 replace hB0 := hB0.step s163 rfl
 replace hO0_0_0 := hO0_0_0.step s163 rfl rfl
 replace hB0_0 := hB0_0.step s163 rfl
 replace hM0_0_1 := hM0_0_1.step s163 rfl
 replace hB105 := hB105.step s163 rfl
 replace hB117 := hB117.step s163 rfl
 replace HF := HF.step s163 rfl
 refine E rfl (mv (.bool z160) rfl) ?_
 rcases condE H with ⟨c164, H⟩ | ⟨c164, H⟩
 ·
  refine WL.guardYes rfl rfl rfl (vb c164 rfl) <|
   OW.ex rfl (mv (pp pb0 0) rfl) <|
   WL.guardYes rfl rfl rfl (vb c164 rfl) <|
   OW.ex rfl (ex_nilCheck rfl) <|
   WL.guardYes rfl rfl rfl (vb c164 rfl) <|
   OW.ex rfl (ex_fieldAddr rfl U55 rfl sz4) <|
   WL.guardYes rfl rfl rfl (vb c164 rfl) <|
   OW.ex rfl (ex_load1 rfl U4 rfl (hB0.cell rfl)) <|
   E rfl (ex_pick_t (v := .bool a0.f_counts) (vb c164 rfl) rfl) <|
   WL.nil ?_
  obtain rfl := Option.some.inj H
  exact ⟨_, HF, hB0, hra0_1, hB0_0, hO0_0_0, hM0_0_1, hB105, hB117, rfl, rfl, rfl, rfl⟩
 ·
  refine WL.guardNo rfl rfl rfl (vb c164 rfl) <|
   WL.guardNo rfl rfl rfl (vb c164 rfl) <|
   WL.guardNo rfl rfl rfl (vb c164 rfl) <|
   WL.guardNo rfl rfl rfl (vb c164 rfl) <|
   E rfl (ex_pick_f (v := .bool false) (vb c164 rfl) rfl) <|
   WL.nil ?_
  obtain rfl := Option.some.inj H
  exact ⟨_, HF, hB0, hra0_1, hB0_0, hO0_0_0, hM0_0_1, hB105, hB117, rfl, rfl, rfl, rfl⟩

/-! ### syntax_reader_sign -/
set_option maxRecDepth 100000 in
theorem syntax_reader_sign.calls (o0 : Tags) (w0 : World) (pb0 : Nat) (pA0_1 : Option Addr) (pc0_1 : Nat) (pb0_0 : Nat) (pv0_0_0 : Value) (pb0_0_1 : Nat) (a0 : T_syntax_reader) (a1 : List UInt8) (a0_0 : T_formula_Table) (a0_0_1 : (List (T_api_Node × Int))) (r : Exn (T_syntax_broken × T_syntax_reader) (Bool × T_syntax_reader)) (hO : ∀ b, b < w0.heap.size → o0 b < 40) (hB0 : Bk o0 w0 2 pb0 [pp pb0_0 0, .slice pA0_1 a0.f_l.length pc0_1, ii a0.f_i, ii a0.f_names, ii a0.f_nest, .bool a0.f_counts, .bool a0.f_full] 55) (hra0_1 : Row T_api_Token.rep (fun b_ => o0 b_ = 0) (fun b_ => o0 b_ = 0) w0 pA0_1 a0.f_l) (hla0_1 : a0.f_l.length ≤ pc0_1) (hB0_0 : Bk o0 w0 3 pb0_0 [pv0_0_0, .map (some pb0_0_1)] 28) (hO0_0_0 : Own T_api_Node.rep 61 4 o0 w0 pv0_0_0 a0_0.f_rows) (hM0_0_1 : Mp (fun x_ : T_api_Node => Value.agg #[ii x_.f_Kind, encS x_.f_Name, ii x_.f_L, ii x_.f_R]) (fun v_ : Int => ii v_) 5 o0 w0 pb0_0_1 a0_0_1) (H : syntax_reader_sign.f a0 a1 a0_0 a0_0_1 = some r) :
  Calls Tryd.prog 32 [pp pb0 0, encS a1].toArray w0 fun e_ w_ => ∃ (o_ : Tags), ((∃ p_, r = .ex p_ ∧ ∃ (B_0_1 : Option Addr) (d_0_1 : Nat), e_ = .panicked (pc (.iface 73 (.agg #[ii p_.1.f_f.f_Code, ii p_.1.f_f.f_At.f_Line, ii p_.1.f_f.f_At.f_Col, ii p_.1.f_f.f_At.f_Off]))) ∧ Step o0 w0 o_ w_ [2] ∧ Bk o_ w_ 2 pb0 [pp pb0_0 0, .slice B_0_1 p_.2.f_l.length d_0_1, ii p_.2.f_i, ii p_.2.f_names, ii p_.2.f_nest, .bool p_.2.f_counts, .bool p_.2.f_full] 55 ∧ p_.2.f_l.length ≤ d_0_1 ∧ Row T_api_Token.rep (fun b_ => o_ b_ = 0) (fun b_ => o_ b_ = 0) w_ B_0_1 p_.2.f_l) ∨ ∃ q_, r = .ok q_ ∧ ∃ (B_0_1 : Option Addr) (d_0_1 : Nat), e_ = .returned (one [.bool q_.1]) ∧ Step o0 w0 o_ w_ [2] ∧ Bk o_ w_ 2 pb0 [pp pb0_0 0, .slice B_0_1 q_.2.f_l.length d_0_1, ii q_.2.f_i, ii q_.2.f_names, ii q_.2.f_nest, .bool q_.2.f_counts, .bool q_.2.f_full] 55 ∧ q_.2.f_l.length ≤ d_0_1 ∧ Row T_api_Token.rep (fun b_ => o_ b_ = 0) (fun b_ => o_ b_ = 0) w_ B_0_1 q_.2.f_l) := by
 have HF := Fm.refl hO [2]
 unfold syntax_reader_sign.f at H
 refine SX.calls [pp pb0 0, encS a1] Tryd.func32 rfl rfl ?_
 rw [Tryd.ntmps32]
 refine WC.seq <|
  WC.region <|
  E rfl (sg (.bool false) rfl) <|
  WL.nil <|
  WC.seq <|
  WC.region <|
  E rfl (mv (pp pb0 0) rfl) ?_
 obtain ⟨z101, hz101, H⟩ := bindE H
 refine WL.op rfl <|
  OW.call [pp pb0 0] rfl Tryd.func19 (by kernel_rfl) (by kernel_rfl) (map_cons' rfl rfl) (syntax_reader_now.calls _ _ pb0 pA0_1 pc0_1 pb0_0 pv0_0_0 pb0_0_1 a0 a0_0 a0_0_1 z101 (HF.ten (V := [0]) (L := [2, 3, 4, 5]) rfl) (Bk.vw hB0 rfl) (Row.vw hra0_1 rfl) hla0_1 (Bk.vw hB0_0 rfl) (Own.vw hO0_0_0 rfl rfl) (Mp.vw hM0_0_1 rfl) hz101) ?_
 rintro _ w102 ⟨o103, rfl, s104⟩
 refine ⟨_, rfl, ?_⟩
 replace s104 := un_stepL (J := []) (L' := []) s104 rfl rfl
 replace hra0_1 := hra0_1.step s104 rfl
 replace hB0 := hB0.step s104 rfl
 replace hO0_0_0 := hO0_0_0.step s104 rfl rfl
 replace hB0_0 := hB0_0.step s104 rfl
 replace hM0_0_1 := hM0_0_1.step s104 rfl
 replace HF := HF.step s104 rfl
 refine WL.op rfl <|
  OW.alloc' [ii (0 : Int), encS ([] : List UInt8), ii (0 : Int), ii (0 : Int), ii (0 : Int), ii (0 : Int)] 40 HF rfl zr45 rfl ?_
 intro o106 w107 b105 s108 hB109
 replace hra0_1 := hra0_1.step s108 rfl
 replace hB0 := hB0.step s108 rfl
 replace hO0_0_0 := hO0_0_0.step s108 rfl rfl
 replace hB0_0 := hB0_0.step s108 rfl
 replace hM0_0_1 := hM0_0_1.step s108 rfl
 replace HF := HF.step s108 rfl
 refine WL.op rfl <|
  OW.storeW rfl rfl sz45 hB109 rfl (oa rfl) ?_
 intro w110 s111 hB112
 replace hra0_1 := hra0_1.step s111 rfl
 replace hB0 := hB0.step s111 rfl
 replace hO0_0_0 := hO0_0_0.step s111 rfl rfl
 replace hB0_0 := hB0_0.step s111 rfl
 replace hM0_0_1 := hM0_0_1.step s111 rfl
 replace HF := HF.step s111 rfl
 refine WL.nil <|
  WC.seq ?_
 obtain ⟨z114, hz114, H⟩ := bindE H
 refine WC.cut (fun ρ_ w_ => ∃ (o_ : Tags), Fm o0 w0 o_ w_ [2] ∧ Bk o_ w_ 2 pb0 [pp pb0_0 0, .slice pA0_1 a0.f_l.length pc0_1, ii a0.f_i, ii a0.f_names, ii a0.f_nest, .bool a0.f_counts, .bool a0.f_full] 55 ∧ Row T_api_Token.rep (fun b_ => o_ b_ = 0) (fun b_ => o_ b_ = 0) w_ pA0_1 a0.f_l ∧ Bk o_ w_ 3 pb0_0 [pv0_0_0, .map (some pb0_0_1)] 28 ∧ Own T_api_Node.rep 61 4 o_ w_ pv0_0_0 a0_0.f_rows ∧ Mp (fun x_ : T_api_Node => Value.agg #[ii x_.f_Kind, encS x_.f_Name, ii x_.f_L, ii x_.f_R]) (fun v_ : Int => ii v_) 5 o_ w_ pb0_0_1 a0_0_1 ∧ ρ_ 0 = pp pb0 0 ∧ ρ_ 4 = .bool false ∧ ρ_ 16 = .bool z114) ?case115 ?_
 case case115 =>
  rintro ρ118 w116 ⟨o117, HF, hB0, hra0_1, hB0_0, hO0_0_0, hM0_0_1, s0_112, s4_112, s16_113⟩
  rcases condE H with ⟨c119, H⟩ | ⟨c119, H⟩
  ·
   refine WC.cond_t (vb c119 s16_113) <|
    WC.seq <|
    WC.region <|
    E rfl (sg (.bool false) rfl) <|
    WL.nil <|
    WC.ret ?_
   obtain rfl := Option.some.inj H
   exact ⟨_, (.tmp (.bool false : Value) rfl .nil), _, Or.inr ⟨_, rfl, pA0_1, pc0_1, rfl, HF.out, hB0, hla0_1, hra0_1⟩⟩
  ·
   refine WC.cond_f (vb c119 s16_113) <|
    WC.skip <|
    WC.seq <|
    WC.region <|
    E rfl (mv (pp pb0 0) s0_112) ?_
   obtain ⟨z120, hz120, H⟩ := bindE H
   refine WL.op rfl <|
    OW.callP [pp pb0 0] rfl Tryd.func45 (by kernel_rfl) (by kernel_rfl) (map_cons' rfl rfl) (syntax_reader_take.calls _ _ pb0 pA0_1 pc0_1 pb0_0 pv0_0_0 pb0_0_1 a0 a0_0 a0_0_1 z120 (HF.ten (V := [0]) (L := [2, 3, 4, 5]) rfl) (Bk.vw hB0 rfl) (Row.vw hra0_1 rfl) hla0_1 (Bk.vw hB0_0 rfl) (Own.vw hO0_0_0 rfl rfl) (Mp.vw hM0_0_1 rfl) hz120) ?_
   rintro _ w121 ⟨o122, (⟨p123, rfl, A128, c129, rfl, s125, hB127, hl130, hr131⟩ | ⟨q124, rfl, A133, c134, rfl, s126, hB132, hl135, hr136⟩)⟩
   ·
    refine Or.inr ⟨_, rfl, ?_⟩
    dsimp only at H
    replace hB127 := Bk.unO (J := []) 0 hB127 s125 rfl rfl rfl
    replace hr131 := hr131.un (J := []) s125
    replace s125 := un_stepL (J := []) (L' := [2]) s125 rfl rfl
    replace hra0_1 := hra0_1.step s125 rfl
    replace hB0_0 := hB0_0.step s125 rfl
    replace hO0_0_0 := hO0_0_0.step s125 rfl rfl
    replace hM0_0_1 := hM0_0_1.step s125 rfl
    replace HF := HF.step s125 rfl
    obtain rfl := Option.some.inj H
    exact ⟨_, Or.inl ⟨_, rfl, A128, c129, rfl, HF.out, hB127, hl130, hr131⟩⟩
   ·
    refine Or.inl ⟨_, rfl, ?_⟩
    dsimp only at H
    replace hB132 := Bk.unO (J := []) 0 hB132 s126 rfl rfl rfl
    replace hr136 := hr136.un (J := []) s126
    replace s126 := un_stepL (J := []) (L' := [2]) s126 rfl rfl
    replace hra0_1 := hra0_1.step s126 rfl
    replace hB0_0 := hB0_0.step s126 rfl
    replace hO0_0_0 := hO0_0_0.step s126 rfl rfl
    replace hM0_0_1 := hM0_0_1.step s126 rfl
    replace HF := HF.step s126 rfl
    refine WL.nil <|
     WC.seq <|
     WC.region <|
     E rfl (sg (.bool true) rfl) <|
     WL.nil <|
     WC.ret ?_
    obtain rfl := Option.some.inj H
    exact ⟨_, (.tmp (.bool true : Value) rfl .nil), _, Or.inr ⟨_, rfl, A133, c134, rfl, HF.out, hB132, hl135, hr136⟩⟩
 have Ho137 := H
 replace H := hz114
 refine WC.region <|
  E rfl (ex_fieldAddr rfl U45 rfl sz43) <|
  E rfl (ex_load1 rfl U43 rfl (hB112.cell rfl)) <|
  E rfl (e2 bin_neq rfl rfl) <|
  E rfl (mv (.bool (z101.f_Kind != 3)) rfl) ?_
 rcases condE H with ⟨c138, H⟩ | ⟨c138, H⟩
 ·
  refine WL.guardNo rfl rfl rfl (vb c138 rfl) <|
   WL.guardNo rfl rfl rfl (vb c138 rfl) <|
   WL.guardNo rfl rfl rfl (vb c138 rfl) <|
   WL.guardNo rfl rfl rfl (vb c138 rfl) <|
   E rfl (ex_pick_t (v := .bool true) (vb c138 rfl) rfl) <|
   WL.nil ?_
  obtain rfl := Option.some.inj H
  exact ⟨_, HF, hB0, hra0_1, hB0_0, hO0_0_0, hM0_0_1, rfl, rfl, rfl⟩
 ·
  refine WL.guardYes rfl rfl rfl (vb c138 rfl) <|
   OW.ex rfl (ex_fieldAddr rfl U45 rfl sz9) <|
   WL.guardYes rfl rfl rfl (vb c138 rfl) <|
   OW.ex rfl (ex_load1 rfl U9 rfl (hB112.cell rfl)) <|
   WL.guardYes rfl rfl rfl (vb c138 rfl) <|
   OW.ex rfl (mv (encS a1) rfl) <|
   WL.guardYes rfl rfl rfl (vb c138 rfl) <|
   OW.ex rfl (e2 bin_neq_str rfl rfl) <|
   E rfl (ex_pick_f (v := .bool (!(z101.f_Text == a1))) (vb c138 rfl) rfl) <|
   WL.nil ?_
  obtain rfl := Option.some.inj H
  exact ⟨_, HF, hB0, hra0_1, hB0_0, hO0_0_0, hM0_0_1, rfl, rfl, rfl⟩

/-! ### formula_reserved -/
set_option maxRecDepth 100000 in
theorem formula_reserved.calls (o0 : Tags) (w0 : World) (a0 : List UInt8) (r : Bool) (hO : ∀ b, b < w0.heap.size → o0 b < 40) (H : formula_reserved.f a0 = some r) :
  Calls Tryd.prog 74 [encS a0].toArray w0 fun e_ w_ => ∃ (o_ : Tags), e_ = .returned (one [.bool r]) ∧ Step o0 w0 o_ w_ [] := by
 have HF := Fm.refl hO []
 unfold formula_reserved.f at H
 refine SX.calls [encS a0] Tryd.func74 rfl rfl ?_
 rw [Tryd.ntmps74]
 refine WC.seq <|
  WC.region <|
  E rfl (sg (.bool false) rfl) <|
  WL.nil <|
  WC.seq <|
  WC.seq <|
  WC.region <|
  E rfl (mv (encS a0) rfl) <|
  WL.nil <|
  WC.block ?_
 obtain ⟨z102, hz102, H⟩ := bindE H
 refine WC.cut (fun ρ_ w_ => ∃ (o_ : Tags), Fm o0 w0 o_ w_ [] ∧ ρ_ 2 = .bool false ∧ ρ_ 4 = .bool z102) ?case103 ?_
 case case103 =>
  rintro ρ106 w104 ⟨o105, HF, s2_100, s4_101⟩
  rcases condE H with ⟨c107, H⟩ | ⟨c107, H⟩
  ·
   refine WC.cond_t (vb c107 s4_101) <|
    WC.seq <|
    WC.region <|
    E rfl (sg (.bool true) rfl) <|
    WL.nil <|
    WC.ret ?_
   obtain rfl := Option.some.inj H
   exact ⟨_, (.tmp (.bool true : Value) rfl .nil), _, rfl, HF.out⟩
  ·
   refine WC.cond_f (vb c107 s4_101) <|
    WC.skip <|
    WC.seq <|
    WC.region <|
    E rfl (sg (.bool false) rfl) <|
    WL.nil <|
    WC.ret ?_
   obtain rfl := Option.some.inj H
   exact ⟨_, (.tmp (.bool false : Value) rfl .nil), _, rfl, HF.out⟩
 have Ho108 := H
 replace H := hz102
 refine WC.seq <|
  WC.region <|
  E rfl (e2 bin_eql_str rfl rfl) <|
  E rfl (sg (.bool (a0 == ([97, 98, 111, 114, 116] : List UInt8))) rfl) <|
  WL.nil ?_
 rcases condE H with ⟨c109, H⟩ | ⟨c109, H⟩
 ·
  refine WC.cond_t (vb c109 rfl) <|
   WC.skip ?_
  obtain rfl := Option.some.inj H
  exact ⟨_, HF, rfl, rfl⟩
 ·
  refine WC.cond_f (vb c109 rfl) <|
   WC.seq <|
   WC.region <|
   E rfl (e2 bin_eql_str rfl rfl) <|
   E rfl (sg (.bool (a0 == ([99, 97, 115, 101] : List UInt8))) rfl) <|
   WL.nil ?_
  rcases condE H with ⟨c110, H⟩ | ⟨c110, H⟩
  ·
   refine WC.cond_t (vb c110 rfl) <|
    WC.skip ?_
   obtain rfl := Option.some.inj H
   exact ⟨_, HF, rfl, rfl⟩
  ·
   refine WC.cond_f (vb c110 rfl) <|
    WC.seq <|
    WC.region <|
    E rfl (e2 bin_eql_str rfl rfl) <|
    E rfl (sg (.bool (a0 == ([102, 97, 108, 115, 101] : List UInt8))) rfl) <|
    WL.nil ?_
   rcases condE H with ⟨c111, H⟩ | ⟨c111, H⟩
   ·
    refine WC.cond_t (vb c111 rfl) <|
     WC.skip ?_
    obtain rfl := Option.some.inj H
    exact ⟨_, HF, rfl, rfl⟩
   ·
    refine WC.cond_f (vb c111 rfl) <|
     WC.seq <|
     WC.region <|
     E rfl (e2 bin_eql_str rfl rfl) <|
     E rfl (sg (.bool (a0 == ([102, 115, 116] : List UInt8))) rfl) <|
     WL.nil ?_
    rcases condE H with ⟨c112, H⟩ | ⟨c112, H⟩
    ·
     refine WC.cond_t (vb c112 rfl) <|
      WC.skip ?_
     obtain rfl := Option.some.inj H
     exact ⟨_, HF, rfl, rfl⟩
    ·
     refine WC.cond_f (vb c112 rfl) <|
      WC.seq <|
      WC.region <|
      E rfl (e2 bin_eql_str rfl rfl) <|
      E rfl (sg (.bool (a0 == ([102, 117, 110] : List UInt8))) rfl) <|
      WL.nil ?_
     rcases condE H with ⟨c113, H⟩ | ⟨c113, H⟩
     ·
      refine WC.cond_t (vb c113 rfl) <|
       WC.skip ?_
      obtain rfl := Option.some.inj H
      exact ⟨_, HF, rfl, rfl⟩
     ·
      refine WC.cond_f (vb c113 rfl) <|
       WC.seq <|
       WC.region <|
       E rfl (e2 bin_eql_str rfl rfl) <|
       E rfl (sg (.bool (a0 == ([105, 110] : List UInt8))) rfl) <|
       WL.nil ?_
      rcases condE H with ⟨c114, H⟩ | ⟨c114, H⟩
      ·
       refine WC.cond_t (vb c114 rfl) <|
        WC.skip ?_
       obtain rfl := Option.some.inj H
       exact ⟨_, HF, rfl, rfl⟩
      ·
       refine WC.cond_f (vb c114 rfl) <|
        WC.seq <|
        WC.region <|
        E rfl (e2 bin_eql_str rfl rfl) <|
        E rfl (sg (.bool (a0 == ([105, 110, 108] : List UInt8))) rfl) <|
        WL.nil ?_
       rcases condE H with ⟨c115, H⟩ | ⟨c115, H⟩
       ·
        refine WC.cond_t (vb c115 rfl) <|
         WC.skip ?_
        obtain rfl := Option.some.inj H
        exact ⟨_, HF, rfl, rfl⟩
       ·
        refine WC.cond_f (vb c115 rfl) <|
         WC.seq <|
         WC.region <|
         E rfl (e2 bin_eql_str rfl rfl) <|
         E rfl (sg (.bool (a0 == ([105, 110, 114] : List UInt8))) rfl) <|
         WL.nil ?_
        rcases condE H with ⟨c116, H⟩ | ⟨c116, H⟩
        ·
         refine WC.cond_t (vb c116 rfl) <|
          WC.skip ?_
         obtain rfl := Option.some.inj H
         exact ⟨_, HF, rfl, rfl⟩
        ·
         refine WC.cond_f (vb c116 rfl) <|
          WC.seq <|
          WC.region <|
          E rfl (e2 bin_eql_str rfl rfl) <|
          E rfl (sg (.bool (a0 == ([108, 101, 116] : List UInt8))) rfl) <|
          WL.nil ?_
         rcases condE H with ⟨c117, H⟩ | ⟨c117, H⟩
         ·
          refine WC.cond_t (vb c117 rfl) <|
           WC.skip ?_
          obtain rfl := Option.some.inj H
          exact ⟨_, HF, rfl, rfl⟩
         ·
          refine WC.cond_f (vb c117 rfl) <|
           WC.seq <|
           WC.region <|
           E rfl (e2 bin_eql_str rfl rfl) <|
           E rfl (sg (.bool (a0 == ([111, 102] : List UInt8))) rfl) <|
           WL.nil ?_
          rcases condE H with ⟨c118, H⟩ | ⟨c118, H⟩
          ·
           refine WC.cond_t (vb c118 rfl) <|
            WC.skip ?_
           obtain rfl := Option.some.inj H
           exact ⟨_, HF, rfl, rfl⟩
          ·
           refine WC.cond_f (vb c118 rfl) <|
            WC.seq <|
            WC.region <|
            E rfl (e2 bin_eql_str rfl rfl) <|
            E rfl (sg (.bool (a0 == ([115, 110, 100] : List UInt8))) rfl) <|
            WL.nil ?_
           rcases condE H with ⟨c119, H⟩ | ⟨c119, H⟩
           ·
            refine WC.cond_t (vb c119 rfl) <|
             WC.skip ?_
            obtain rfl := Option.some.inj H
            exact ⟨_, HF, rfl, rfl⟩
           ·
            refine WC.cond_f (vb c119 rfl) <|
             WC.region <|
             E rfl (e2 bin_eql_str rfl rfl) <|
             E rfl (sg (.bool (a0 == ([116, 114, 117, 101] : List UInt8))) rfl) <|
             WL.nil ?_
            obtain rfl := Option.some.inj H
            exact ⟨_, HF, rfl, rfl⟩

/-! ### formula_Word -/
set_option maxRecDepth 100000 in
theorem formula_Word.calls (k : Nat) (o0 : Tags) (w0 : World) (a0 : List UInt8) (r : Bool) (hO : ∀ b, b < w0.heap.size → o0 b < 40) (H : formula_Word.f k a0 = some r) :
  Calls Tryd.prog 66 [encS a0].toArray w0 fun e_ w_ => ∃ (o_ : Tags), e_ = .returned (one [.bool r]) ∧ Step o0 w0 o_ w_ [] := by
 have HF := Fm.refl hO []
 unfold formula_Word.f at H
 refine SX.calls [encS a0] Tryd.func66 rfl rfl ?_
 rw [Tryd.ntmps66]
 refine WC.seq <|
  WC.region <|
  E rfl (sg (.bool false) rfl) <|
  WL.nil <|
  WC.seq <|
  WC.seq <|
  WC.region <|
  E rfl (mv (encS a0) rfl) <|
  E rfl (ex_len_str (s := a0) rfl U9) <|
  E rfl (mv (ii 0) rfl) <|
  WL.nil ?_
 obtain ⟨z102, hz102, H⟩ := bindE H
 refine WC.for (fun k_ ρ_ w_ => ∃ (o_ : Tags) (x101 : Int), Fm o0 w0 o_ w_ [] ∧ ρ_ 0 = encS a0 ∧ ρ_ 2 = .bool false ∧ ρ_ 8 = ii (a0.length : Int) ∧ ρ_ 9 = ii x101 ∧ formula_Word.l1 k a0 k_ x101 = some z102) k (fun ρ_ w_ => ∃ (o_ : Tags), Fm o0 w0 o_ w_ [] ∧ ρ_ 0 = encS a0 ∧ ρ_ 2 = .bool false ∧ z102 = .inr ()) ⟨_, 0, HF, rfl, rfl, rfl, rfl, hz102⟩ ?case103 ?_
 case case103 =>
  rintro ρ132 w133 ⟨o134, HF, s0_101, s2_101, rfl⟩
  dsimp only at H
  refine WC.seq <|
   WC.region <|
   E rfl (mv (encS a0) s0_101) <|
   E rfl (e2 bin_neq_str rfl rfl) <|
   E rfl (mv (.bool (!(a0 == ([] : List UInt8)))) rfl) ?_
  rcases condE H with ⟨c135, H⟩ | ⟨c135, H⟩
  ·
   refine WL.guardYes rfl rfl rfl (vb c135 rfl) <|
    OW.ex rfl (mv (encS a0) s0_101) <|
    WL.guardYes rfl rfl rfl (vb c135 rfl) <|
    OW.ex rfl (ex_len_str (s := a0) rfl U9) <|
    WL.guardYes rfl rfl rfl (vb c135 rfl) <|
    OW.ex rfl (e2 bin_leq rfl rfl) <|
    E rfl (ex_pick_t (v := .bool (decide ((a0.length : Int) ≤ 31))) (vb c135 rfl) rfl) <|
    E rfl (mv (.bool (decide ((a0.length : Int) ≤ 31))) rfl) ?_
   rcases condE H with ⟨c136, H⟩ | ⟨c136, H⟩
   ·
    refine WL.guardYes rfl rfl rfl (vb c136 rfl) <|
     OW.ex rfl (mv (encS a0) s0_101) <|
     WL.guardYes rfl rfl rfl (vb c136 rfl) ?_
    obtain ⟨z137, hz137, H⟩ := bindE H
    refine OW.call [encS a0] rfl Tryd.func74 (by kernel_rfl) (by kernel_rfl) (map_cons' rfl rfl) (formula_reserved.calls _ _ a0 z137 (HF.ten (V := [0]) (L := []) rfl)  hz137) ?_
    rintro _ w138 ⟨o139, rfl, s140⟩
    refine ⟨_, rfl, ?_⟩
    replace s140 := un_stepL (J := []) (L' := []) s140 rfl rfl
    replace HF := HF.step s140 rfl
    refine WL.guardYes rfl rfl rfl (vb c136 rfl) <|
     OW.ex rfl (ex_not (b := z137) rfl) <|
     E rfl (ex_pick_t (v := .bool (!z137)) (vb c136 rfl) rfl) <|
     E rfl (sg (.bool (!z137)) rfl) <|
     WL.nil <|
     WC.ret ?_
    obtain rfl := Option.some.inj H
    exact ⟨_, (.tmp (.bool (!z137) : Value) rfl .nil), _, rfl, HF.out⟩
   ·
    refine WL.guardNo rfl rfl rfl (vb c136 rfl) <|
     WL.guardNo rfl rfl rfl (vb c136 rfl) <|
     WL.guardNo rfl rfl rfl (vb c136 rfl) <|
     E rfl (ex_pick_f (v := .bool false) (vb c136 rfl) rfl) <|
     E rfl (sg (.bool false) rfl) <|
     WL.nil <|
     WC.ret ?_
    obtain rfl := Option.some.inj H
    exact ⟨_, (.tmp (.bool false : Value) rfl .nil), _, rfl, HF.out⟩
  ·
   refine WL.guardNo rfl rfl rfl (vb c135 rfl) <|
    WL.guardNo rfl rfl rfl (vb c135 rfl) <|
    WL.guardNo rfl rfl rfl (vb c135 rfl) <|
    E rfl (ex_pick_f (v := .bool false) (vb c135 rfl) rfl) <|
    E rfl (mv (.bool false) rfl) <|
    WL.guardNo rfl rfl rfl rfl <|
    WL.guardNo rfl rfl rfl rfl <|
    WL.guardNo rfl rfl rfl rfl <|
    E rfl (ex_pick_f (v := .bool false) rfl rfl) <|
    E rfl (sg (.bool false) rfl) <|
    WL.nil <|
    WC.ret ?_
   obtain rfl := Option.some.inj H
   exact ⟨_, (.tmp (.bool false : Value) rfl .nil), _, rfl, HF.out⟩
 have Ho104 := H
 rintro k105 ρ106 w107 ⟨o108, x101, HF, s0_100, s2_100, s8_100, s9_101, H⟩
 cases k105 with
 | zero => cases H
 | succ k105 =>
 rw [formula_Word.l1.eq_2] at H
 refine WC.seq <|
  WC.region <|
  E rfl (e2 bin_lss s9_101 s8_100) <|
  WL.nil <|
  WC.seq ?_
 rcases condE H with ⟨c109, H⟩ | ⟨c109, H⟩
 ·
  refine WC.cond_t (vb c109 rfl) <|
   WC.skip <|
   WC.seq <|
   WC.block <|
   WC.seq <|
   WC.region <|
   E rfl (mv (ii x101) s9_101) <|
   E rfl (sg (ii x101) rfl) <|
   WL.nil <|
   WC.seq <|
   WC.region <|
   E rfl (mv (encS a0) s0_100) <|
   E rfl (mv (ii x101) rfl) ?_
  obtain ⟨x110, hx110, H⟩ := bindE H
  refine E rfl (ex_index_str (i := x101) rfl rfl U9 (ix_some hx110).1 (ix_some hx110).2.2) <|
   E rfl (sg (enc8 x110) rfl) <|
   WL.nil <|
   WC.seq <|
   WC.region <|
   E rfl (mv (enc8 x110) rfl) <|
   E rfl (e2 bin_or_u8 rfl rfl) <|
   E rfl (sg (enc8 (x110 ||| (32 : UInt8))) rfl) <|
   WL.nil ?_
  obtain ⟨z112, hz112, H⟩ := bindE H
  refine WC.cut (fun ρ_ w_ => ∃ (o_ : Tags), Fm o0 w0 o_ w_ [] ∧ ρ_ 0 = encS a0 ∧ ρ_ 2 = .bool false ∧ ρ_ 3 = ii x101 ∧ ρ_ 4 = enc8 x110 ∧ ρ_ 6 = .bool z112 ∧ ρ_ 8 = ii (a0.length : Int) ∧ ρ_ 9 = ii x101) ?case113 ?_
  case case113 =>
   rintro ρ116 w114 ⟨o115, HF, s0_110, s2_110, s3_110, s4_110, s6_111, s8_111, s9_111⟩
   obtain ⟨z118, hz118, H⟩ := bindE H
   refine WC.cut (fun ρ_ w_ => ∃ (o_ : Tags), Fm o0 w0 o_ w_ [] ∧ ρ_ 0 = encS a0 ∧ ρ_ 2 = .bool false ∧ ρ_ 8 = ii (a0.length : Int) ∧ ρ_ 9 = ii x101 ∧ ρ_ 44 = .bool z118) ?case119 ?_
   case case119 =>
    rintro ρ122 w120 ⟨o121, HF, s0_116, s2_116, s8_116, s9_116, s44_117⟩
    rcases condE H with ⟨c123, H⟩ | ⟨c123, H⟩
    ·
     refine WC.cond_t (vb c123 s44_117) <|
      WC.seq <|
      WC.region <|
      E rfl (sg (.bool false) rfl) <|
      WL.nil <|
      WC.ret ?_
     obtain rfl := Option.some.inj H
     replace H := Ho104
     dsimp only at H
     obtain rfl := Option.some.inj H
     exact ⟨_, (.tmp (.bool false : Value) rfl .nil), _, rfl, HF.out⟩
    ·
     refine WC.cond_f (vb c123 s44_117) <|
      WC.skip <|
      WC.region <|
      E rfl (e2 bin_add64 s9_116 rfl) <|
      E rfl (mv (ii (wrap64 (x101 + 1))) rfl) <|
      WL.nil ?_
     exact ⟨k105, Nat.lt_succ_self _, ⟨_, wrap64 (x101 + 1), HF, s0_116, s2_116, s8_116, rfl, H⟩⟩
   have Ho124 := H
   replace H := hz118
   refine WC.region <|
    E rfl (mv (.bool z112) s6_111) <|
    E rfl (ex_not (b := z112) rfl) <|
    E rfl (mv (.bool (!z112)) rfl) ?_
   rcases condE H with ⟨c125, H⟩ | ⟨c125, H⟩
   ·
    refine WL.guardYes rfl rfl rfl (vb c125 rfl) <|
     OW.ex rfl (mv (ii x101) s3_110) <|
     WL.guardYes rfl rfl rfl (vb c125 rfl) <|
     OW.ex rfl (e2 bin_eql rfl rfl) <|
     WL.guardYes rfl rfl rfl (vb c125 rfl) <|
     OW.ex rfl (mv (.bool (x101 == 0)) rfl) ?_
    rcases condE H with ⟨c126, H⟩ | ⟨c126, H⟩
    ·
     refine WL.guardNo rfl rfl rfl (vb c126 rfl) <|
      WL.guardNo rfl rfl rfl (vb c126 rfl) <|
      WL.guardNo rfl rfl rfl (vb c126 rfl) <|
      WL.guardUn rfl rfl rfl rfl <|
      WL.guardUn rfl rfl rfl rfl <|
      WL.guardNo rfl rfl rfl (vb c126 rfl) <|
      WL.guardNo rfl rfl rfl (vb c126 rfl) <|
      WL.guardUn rfl rfl rfl rfl <|
      WL.guardUn rfl rfl rfl rfl <|
      WL.guardUn rfl rfl rfl rfl <|
      WL.guardUn rfl rfl rfl rfl <|
      WL.guardUn rfl rfl rfl rfl <|
      WL.guardUn rfl rfl rfl rfl <|
      WL.guardNo rfl rfl rfl (vb c126 rfl) <|
      WL.guardYes rfl rfl rfl (vb c125 rfl) <|
      OW.ex rfl (ex_pick_t (v := .bool true) (vb c126 rfl) rfl) <|
      E rfl (ex_pick_t (v := .bool true) (vb c125 rfl) rfl) <|
      WL.nil ?_
     obtain rfl := Option.some.inj H
     exact ⟨_, HF, s0_110, s2_110, s8_111, s9_111, rfl⟩
    ·
     refine WL.guardYes rfl rfl rfl (vb c126 rfl) <|
      OW.ex rfl (mv (enc8 x110) s4_110) <|
      WL.guardYes rfl rfl rfl (vb c126 rfl) <|
      OW.ex rfl (e2 bin_neq_u8 rfl rfl) <|
      WL.guardYes rfl rfl rfl (vb c126 rfl) <|
      OW.ex rfl (mv (.bool (!(x110 == (95 : UInt8)))) rfl) ?_
     rcases condE H with ⟨c127, H⟩ | ⟨c127, H⟩
     ·
      refine WL.guardYes rfl rfl rfl (vb c127 rfl) <|
       OW.ex rfl (mv (enc8 x110) s4_110) <|
       WL.guardYes rfl rfl rfl (vb c127 rfl) <|
       OW.ex rfl (e2 bin_neq_u8 rfl rfl) <|
       WL.guardYes rfl rfl rfl (vb c126 rfl) <|
       OW.ex rfl (ex_pick_t (v := .bool (!(x110 == (39 : UInt8)))) (vb c127 rfl) rfl) <|
       WL.guardYes rfl rfl rfl (vb c126 rfl) <|
       OW.ex rfl (mv (.bool (!(x110 == (39 : UInt8)))) rfl) ?_
      rcases condE H with ⟨c128, H⟩ | ⟨c128, H⟩
      ·
       refine WL.guardYes rfl rfl rfl (vb c128 rfl) <|
        OW.ex rfl (mv (enc8 x110) s4_110) <|
        WL.guardYes rfl rfl rfl (vb c128 rfl) <|
        OW.ex rfl (e2 bin_lss_u8 rfl rfl) <|
        WL.guardYes rfl rfl rfl (vb c128 rfl) <|
        OW.ex rfl (mv (.bool (decide (x110 < (48 : UInt8)))) rfl) ?_
       rcases condE H with ⟨c129, H⟩ | ⟨c129, H⟩
       ·
        refine WL.guardNo rfl rfl rfl (vb c129 rfl) <|
         WL.guardNo rfl rfl rfl (vb c129 rfl) <|
         WL.guardYes rfl rfl rfl (vb c128 rfl) <|
         OW.ex rfl (ex_pick_t (v := .bool true) (vb c129 rfl) rfl) <|
         WL.guardYes rfl rfl rfl (vb c126 rfl) <|
         OW.ex rfl (ex_pick_t (v := .bool true) (vb c128 rfl) rfl) <|
         WL.guardYes rfl rfl rfl (vb c125 rfl) <|
         OW.ex rfl (ex_pick_f (v := .bool true) (vb c126 rfl) rfl) <|
         E rfl (ex_pick_t (v := .bool true) (vb c125 rfl) rfl) <|
         WL.nil ?_
        obtain rfl := Option.some.inj H
        exact ⟨_, HF, s0_110, s2_110, s8_111, s9_111, rfl⟩
       ·
        refine WL.guardYes rfl rfl rfl (vb c129 rfl) <|
         OW.ex rfl (mv (enc8 x110) s4_110) <|
         WL.guardYes rfl rfl rfl (vb c129 rfl) <|
         OW.ex rfl (e2 bin_gtr_u8 rfl rfl) <|
         WL.guardYes rfl rfl rfl (vb c128 rfl) <|
         OW.ex rfl (ex_pick_f (v := .bool (decide ((57 : UInt8) < x110))) (vb c129 rfl) rfl) <|
         WL.guardYes rfl rfl rfl (vb c126 rfl) <|
         OW.ex rfl (ex_pick_t (v := .bool (decide ((57 : UInt8) < x110))) (vb c128 rfl) rfl) <|
         WL.guardYes rfl rfl rfl (vb c125 rfl) <|
         OW.ex rfl (ex_pick_f (v := .bool (decide ((57 : UInt8) < x110))) (vb c126 rfl) rfl) <|
         E rfl (ex_pick_t (v := .bool (decide ((57 : UInt8) < x110))) (vb c125 rfl) rfl) <|
         WL.nil ?_
        obtain rfl := Option.some.inj H
        exact ⟨_, HF, s0_110, s2_110, s8_111, s9_111, rfl⟩
      ·
       refine WL.guardNo rfl rfl rfl (vb c128 rfl) <|
        WL.guardNo rfl rfl rfl (vb c128 rfl) <|
        WL.guardNo rfl rfl rfl (vb c128 rfl) <|
        WL.guardUn rfl rfl rfl rfl <|
        WL.guardUn rfl rfl rfl rfl <|
        WL.guardNo rfl rfl rfl (vb c128 rfl) <|
        WL.guardYes rfl rfl rfl (vb c126 rfl) <|
        OW.ex rfl (ex_pick_f (v := .bool false) (vb c128 rfl) rfl) <|
        WL.guardYes rfl rfl rfl (vb c125 rfl) <|
        OW.ex rfl (ex_pick_f (v := .bool false) (vb c126 rfl) rfl) <|
        E rfl (ex_pick_t (v := .bool false) (vb c125 rfl) rfl) <|
        WL.nil ?_
       obtain rfl := Option.some.inj H
       exact ⟨_, HF, s0_110, s2_110, s8_111, s9_111, rfl⟩
     ·
      refine WL.guardNo rfl rfl rfl (vb c127 rfl) <|
       WL.guardNo rfl rfl rfl (vb c127 rfl) <|
       WL.guardYes rfl rfl rfl (vb c126 rfl) <|
       OW.ex rfl (ex_pick_f (v := .bool false) (vb c127 rfl) rfl) <|
       WL.guardYes rfl rfl rfl (vb c126 rfl) <|
       OW.ex rfl (mv (.bool false) rfl) <|
       WL.guardNo rfl rfl rfl rfl <|
       WL.guardNo rfl rfl rfl rfl <|
       WL.guardNo rfl rfl rfl rfl <|
       WL.guardUn rfl rfl rfl rfl <|
       WL.guardUn rfl rfl rfl rfl <|
       WL.guardNo rfl rfl rfl rfl <|
       WL.guardYes rfl rfl rfl (vb c126 rfl) <|
       OW.ex rfl (ex_pick_f (v := .bool false) rfl rfl) <|
       WL.guardYes rfl rfl rfl (vb c125 rfl) <|
       OW.ex rfl (ex_pick_f (v := .bool false) (vb c126 rfl) rfl) <|
       E rfl (ex_pick_t (v := .bool false) (vb c125 rfl) rfl) <|
       WL.nil ?_
      obtain rfl := Option.some.inj H
      exact ⟨_, HF, s0_110, s2_110, s8_111, s9_111, rfl⟩
   ·
    refine WL.guardNo rfl rfl rfl (vb c125 rfl) <|
     WL.guardNo rfl rfl rfl (vb c125 rfl) <|
     WL.guardNo rfl rfl rfl (vb c125 rfl) <|
     WL.guardUn rfl rfl rfl rfl <|
     WL.guardUn rfl rfl rfl rfl <|
     WL.guardUn rfl rfl rfl rfl <|
     WL.guardUn rfl rfl rfl rfl <|
     WL.guardUn rfl rfl rfl rfl <|
     WL.guardUn rfl rfl rfl rfl <|
     WL.guardUn rfl rfl rfl rfl <|
     WL.guardUn rfl rfl rfl rfl <|
     WL.guardUn rfl rfl rfl rfl <|
     WL.guardUn rfl rfl rfl rfl <|
     WL.guardUn rfl rfl rfl rfl <|
     WL.guardUn rfl rfl rfl rfl <|
     WL.guardUn rfl rfl rfl rfl <|
     WL.guardUn rfl rfl rfl rfl <|
     WL.guardNo rfl rfl rfl (vb c125 rfl) <|
     E rfl (ex_pick_f (v := .bool false) (vb c125 rfl) rfl) <|
     WL.nil ?_
    obtain rfl := Option.some.inj H
    exact ⟨_, HF, s0_110, s2_110, s8_111, s9_111, rfl⟩
  have Ho130 := H
  replace H := hz112
  refine WC.region <|
   E rfl (mv (enc8 (x110 ||| (32 : UInt8))) rfl) <|
   E rfl (e2 bin_geq_u8 rfl rfl) <|
   E rfl (mv (.bool (decide ((97 : UInt8) ≤ (x110 ||| (32 : UInt8))))) rfl) ?_
  rcases condE H with ⟨c131, H⟩ | ⟨c131, H⟩
  ·
   refine WL.guardYes rfl rfl rfl (vb c131 rfl) <|
    OW.ex rfl (mv (enc8 (x110 ||| (32 : UInt8))) rfl) <|
    WL.guardYes rfl rfl rfl (vb c131 rfl) <|
    OW.ex rfl (e2 bin_leq_u8 rfl rfl) <|
    E rfl (ex_pick_t (v := .bool (decide ((x110 ||| (32 : UInt8)) ≤ (122 : UInt8)))) (vb c131 rfl) rfl) <|
    E rfl (sg (.bool (decide ((x110 ||| (32 : UInt8)) ≤ (122 : UInt8)))) rfl) <|
    WL.nil ?_
   obtain rfl := Option.some.inj H
   exact ⟨_, HF, s0_100, s2_100, rfl, rfl, rfl, s8_100, s9_101⟩
  ·
   refine WL.guardNo rfl rfl rfl (vb c131 rfl) <|
    WL.guardNo rfl rfl rfl (vb c131 rfl) <|
    E rfl (ex_pick_f (v := .bool false) (vb c131 rfl) rfl) <|
    E rfl (sg (.bool false) rfl) <|
    WL.nil ?_
   obtain rfl := Option.some.inj H
   exact ⟨_, HF, s0_100, s2_100, rfl, rfl, rfl, s8_100, s9_101⟩
 ·
  refine WC.cond_f (vb c109 rfl) <|
   WC.exit ?_
  obtain rfl := Option.some.inj H
  exact ⟨_, HF, s0_100, s2_100, rfl⟩

/-! ### formula_Table_has -/
set_option maxRecDepth 100000 in
theorem formula_Table_has.calls (o0 : Tags) (w0 : World) (pb0 : Nat) (pv0_0 : Value) (pb0_1 : Nat) (a0 : T_formula_Table) (a1 : Int) (a0_1 : (List (T_api_Node × Int))) (r : Bool) (hO : ∀ b, b < w0.heap.size → o0 b < 40) (hB0 : Bk o0 w0 2 pb0 [pv0_0, .map (some pb0_1)] 28) (hO0_0 : Own T_api_Node.rep 61 3 o0 w0 pv0_0 a0.f_rows) (hM0_1 : Mp (fun x_ : T_api_Node => Value.agg #[ii x_.f_Kind, encS x_.f_Name, ii x_.f_L, ii x_.f_R]) (fun v_ : Int => ii v_) 4 o0 w0 pb0_1 a0_1) (H : formula_Table_has.f a0 a1 a0_1 = some r) :
  Calls Tryd.prog 34 [pp pb0 0, ii a1].toArray w0 fun e_ w_ => ∃ (o_ : Tags), e_ = .returned (one [.bool r]) ∧ Step o0 w0 o_ w_ [] := by
 have HF := Fm.refl hO []
 unfold formula_Table_has.f at H
 refine SX.calls [pp pb0 0, ii a1] Tryd.func34 rfl rfl ?_
 rw [Tryd.ntmps34]
 refine WC.seq <|
  WC.region <|
  E rfl (sg (.bool false) rfl) <|
  WL.nil <|
  WC.seq <|
  WC.region <|
  E rfl (mv (ii a1) rfl) <|
  E rfl (e2 bin_geq rfl rfl) <|
  E rfl (mv (.bool (decide (a1 ≥ 0))) rfl) ?_
 rcases condE H with ⟨c101, H⟩ | ⟨c101, H⟩
 ·
  refine WL.guardYes rfl rfl rfl (vb c101 rfl) <|
   OW.ex rfl (mv (ii a1) rfl) <|
   WL.guardYes rfl rfl rfl (vb c101 rfl) <|
   OW.ex rfl (mv (pp pb0 0) rfl) <|
   WL.guardYes rfl rfl rfl (vb c101 rfl) <|
   OW.ex rfl (ex_nilCheck rfl) <|
   WL.guardYes rfl rfl rfl (vb c101 rfl) <|
   OW.ex rfl (ex_fieldAddr rfl U28 rfl sz25) <|
   WL.guardYes rfl rfl rfl (vb c101 rfl) <|
   OW.ex rfl (ex_load1 rfl U25 rfl (hB0.cell rfl)) <|
   WL.guardYes rfl rfl rfl (vb c101 rfl) ?_
  obtain ⟨A102, c103, q104⟩ := hO0_0.slice
  refine OW.ex rfl (ex_len_slice ((show _ = (pv0_0 : Value) from rfl).trans q104) U25) <|
   WL.guardYes rfl rfl rfl (vb c101 rfl) <|
   OW.ex rfl (e2 bin_lss rfl rfl) <|
   E rfl (ex_pick_t (v := .bool (decide (a1 < (a0.f_rows.length : Int)))) (vb c101 rfl) rfl) <|
   E rfl (sg (.bool (decide (a1 < (a0.f_rows.length : Int)))) rfl) <|
   WL.nil <|
   WC.ret ?_
  obtain rfl := Option.some.inj H
  exact ⟨_, (.tmp (.bool (decide (a1 < (a0.f_rows.length : Int))) : Value) rfl .nil), _, rfl, HF.out⟩
 ·
  refine WL.guardNo rfl rfl rfl (vb c101 rfl) <|
   WL.guardNo rfl rfl rfl (vb c101 rfl) <|
   WL.guardNo rfl rfl rfl (vb c101 rfl) <|
   WL.guardNo rfl rfl rfl (vb c101 rfl) <|
   WL.guardNo rfl rfl rfl (vb c101 rfl) <|
   WL.guardNo rfl rfl rfl (vb c101 rfl) <|
   WL.guardNo rfl rfl rfl (vb c101 rfl) <|
   E rfl (ex_pick_f (v := .bool false) (vb c101 rfl) rfl) <|
   E rfl (sg (.bool false) rfl) <|
   WL.nil <|
   WC.ret ?_
  obtain rfl := Option.some.inj H
  exact ⟨_, (.tmp (.bool false : Value) rfl .nil), _, rfl, HF.out⟩

/-! ### formula_Table_fits -/
set_option maxRecDepth 100000 in
theorem formula_Table_fits.calls (k : Nat) (o0 : Tags) (w0 : World) (pb0 : Nat) (pv0_0 : Value) (pb0_1 : Nat) (a0 : T_formula_Table) (a1 : T_api_Node) (a0_1 : (List (T_api_Node × Int))) (r : Int) (hO : ∀ b, b < w0.heap.size → o0 b < 40) (hB0 : Bk o0 w0 2 pb0 [pv0_0, .map (some pb0_1)] 28) (hO0_0 : Own T_api_Node.rep 61 3 o0 w0 pv0_0 a0.f_rows) (hM0_1 : Mp (fun x_ : T_api_Node => Value.agg #[ii x_.f_Kind, encS x_.f_Name, ii x_.f_L, ii x_.f_R]) (fun v_ : Int => ii v_) 4 o0 w0 pb0_1 a0_1) (H : formula_Table_fits.f k a0 a1 a0_1 = some r) :
  Calls Tryd.prog 59 [pp pb0 0, .agg #[ii a1.f_Kind, encS a1.f_Name, ii a1.f_L, ii a1.f_R]].toArray w0 fun e_ w_ => ∃ (o_ : Tags), e_ = .returned (one [ii r]) ∧ Step o0 w0 o_ w_ [] := by
 have HF := Fm.refl hO []
 unfold formula_Table_fits.f at H
 refine SX.calls [pp pb0 0, .agg #[ii a1.f_Kind, encS a1.f_Name, ii a1.f_L, ii a1.f_R]] Tryd.func59 rfl rfl ?_
 rw [Tryd.ntmps59]
 refine WC.seq <|
  WC.region <|
  WL.op rfl <|
  OW.box' [ii a1.f_Kind, encS a1.f_Name, ii a1.f_L, ii a1.f_R] 40 HF rfl ((congrArg Value.cells (show ev _ _ = (.agg #[ii a1.f_Kind, encS a1.f_Name, ii a1.f_L, ii a1.f_R] : Value) from rfl)).trans rfl) ?_
 intro o102 w103 b101 s104 hB105
 replace hO0_0 := hO0_0.step s104 rfl rfl
 replace hB0 := hB0.step s104 rfl
 replace hM0_1 := hM0_1.step s104 rfl
 replace HF := HF.step s104 rfl
 refine E rfl (sg (ii 0) rfl) <|
  WL.nil <|
  WC.seq <|
  WC.seq <|
  WC.region <|
  E rfl (ex_fieldAddr rfl U61 rfl sz59) <|
  E rfl (ex_load1 rfl U59 rfl (hB105.cell rfl)) <|
  WL.nil <|
  WC.block <|
  WC.seq <|
  WC.region <|
  E rfl (e2 bin_eql rfl rfl) <|
  E rfl (sg (.bool (a1.f_Kind == 1)) rfl) <|
  WL.nil ?_
 rcases condE H with ⟨c106, H⟩ | ⟨c106, H⟩
 ·
  refine WC.cond_t (vb c106 rfl) <|
   WC.seq ?_
  obtain ⟨z108, hz108, H⟩ := bindE H
  refine WC.cut (fun ρ_ w_ => ∃ (o_ : Tags), Fm o0 w0 o_ w_ [] ∧ Bk o_ w_ 2 pb0 [pv0_0, .map (some pb0_1)] 28 ∧ Own T_api_Node.rep 61 3 o_ w_ pv0_0 a0.f_rows ∧ Mp (fun x_ : T_api_Node => Value.agg #[ii x_.f_Kind, encS x_.f_Name, ii x_.f_L, ii x_.f_R]) (fun v_ : Int => ii v_) 4 o_ w_ pb0_1 a0_1 ∧ Bk o_ w_ 40 b101 [ii a1.f_Kind, encS a1.f_Name, ii a1.f_L, ii a1.f_R] 61 ∧ ρ_ 3 = pp b101 0 ∧ ρ_ 4 = ii 0 ∧ ρ_ 16 = .bool z108) ?case109 ?_
  case case109 =>
   rintro ρ112 w110 ⟨o111, HF, hB0, hO0_0, hM0_1, hB105, s3_106, s4_106, s16_107⟩
   rcases condE H with ⟨c113, H⟩ | ⟨c113, H⟩
   ·
    refine WC.cond_t (vb c113 s16_107) <|
     WC.seq <|
     WC.region <|
     E rfl (sg (ii 31) rfl) <|
     WL.nil <|
     WC.ret ?_
    obtain rfl := Option.some.inj H
    exact ⟨_, (.tmp (ii 31 : Value) rfl .nil), _, rfl, HF.out⟩
   ·
    refine WC.cond_f (vb c113 s16_107) <|
     WC.skip <|
     WC.seq <|
     WC.region <|
     E rfl (ex_fieldAddr s3_106 U61 rfl sz9) <|
     E rfl (ex_load1 rfl U9 rfl (hB105.cell rfl)) ?_
    obtain ⟨z114, hz114, H⟩ := bindE H
    refine WL.op rfl <|
     OW.call [encS a1.f_Name] rfl Tryd.func66 (by kernel_rfl) (by kernel_rfl) (map_cons' rfl rfl) (formula_Word.calls k _ _ a1.f_Name z114 (HF.ten (V := [0]) (L := []) rfl)  hz114) ?_
    rintro _ w115 ⟨o116, rfl, s117⟩
    refine ⟨_, rfl, ?_⟩
    replace s117 := un_stepL (J := []) (L' := []) s117 rfl rfl
    replace hB0 := hB0.step s117 rfl
    replace hO0_0 := hO0_0.step s117 rfl rfl
    replace hM0_1 := hM0_1.step s117 rfl
    replace hB105 := hB105.step s117 rfl
    replace HF := HF.step s117 rfl
    refine E rfl (ex_not (b := z114) rfl) <|
     WL.nil ?_
    rcases condE H with ⟨c118, H⟩ | ⟨c118, H⟩
    ·
     refine WC.cond_t (vb c118 rfl) <|
      WC.seq <|
      WC.region <|
      E rfl (sg (ii 32) rfl) <|
      WL.nil <|
      WC.ret ?_
     obtain rfl := Option.some.inj H
     exact ⟨_, (.tmp (ii 32 : Value) rfl .nil), _, rfl, HF.out⟩
    ·
     refine WC.cond_f (vb c118 rfl) <|
      WC.skip <|
      WC.seq <|
      WC.region <|
      E rfl (sg (ii 0) rfl) <|
      WL.nil <|
      WC.ret ?_
     obtain rfl := Option.some.inj H
     exact ⟨_, (.tmp (ii 0 : Value) rfl .nil), _, rfl, HF.out⟩
  have Ho119 := H
  replace H := hz108
  refine WC.region <|
   E rfl (ex_fieldAddr rfl U61 rfl sz3) <|
   E rfl (ex_load1 rfl U3 rfl (hB105.cell rfl)) <|
   E rfl (e2 bin_neq rfl rfl) <|
   E rfl (mv (.bool (a1.f_L != 0)) rfl) ?_
  rcases condE H with ⟨c120, H⟩ | ⟨c120, H⟩
  ·
   refine WL.guardNo rfl rfl rfl (vb c120 rfl) <|
    WL.guardNo rfl rfl rfl (vb c120 rfl) <|
    WL.guardNo rfl rfl rfl (vb c120 rfl) <|
    E rfl (ex_pick_t (v := .bool true) (vb c120 rfl) rfl) <|
    WL.nil ?_
   obtain rfl := Option.some.inj H
   exact ⟨_, HF, hB0, hO0_0, hM0_1, hB105, rfl, rfl, rfl⟩
  ·
   refine WL.guardYes rfl rfl rfl (vb c120 rfl) <|
    OW.ex rfl (ex_fieldAddr rfl U61 rfl sz3) <|
    WL.guardYes rfl rfl rfl (vb c120 rfl) <|
    OW.ex rfl (ex_load1 rfl U3 rfl (hB105.cell rfl)) <|
    WL.guardYes rfl rfl rfl (vb c120 rfl) <|
    OW.ex rfl (e2 bin_neq rfl rfl) <|
    E rfl (ex_pick_f (v := .bool (a1.f_R != 0)) (vb c120 rfl) rfl) <|
    WL.nil ?_
   obtain rfl := Option.some.inj H
   exact ⟨_, HF, hB0, hO0_0, hM0_1, hB105, rfl, rfl, rfl⟩
 ·
  refine WC.cond_f (vb c106 rfl) <|
   WC.seq <|
   WC.region <|
   E rfl (e2 bin_eql rfl rfl) <|
   E rfl (sg (.bool (a1.f_Kind == 2)) rfl) <|
   WL.nil ?_
  rcases condE H with ⟨c121, H⟩ | ⟨c121, H⟩
  ·
   refine WC.cond_t (vb c121 rfl) <|
    WC.seq <|
    WC.region <|
    E rfl (ex_loadN (cs := [ii a1.f_Kind, encS a1.f_Name, ii a1.f_L, ii a1.f_R]) rfl U61 rfl sz61 (hB105.cells rfl)) <|
    E rfl (ex_build (cs := [ii 2, encS ([] : List UInt8), ii (0 : Int), ii (0 : Int)]) [(0, 1), (1, 1), (2, 1), (3, 1)] [(0, ii 2)] [ii 0, .string ⟨#[]⟩, ii 0, ii 0] U61 zr61 rfl (by kernel_rfl) (evs_cons rfl rfl) rfl) <|
    E rfl (ex_bin (a := .agg #[ii a1.f_Kind, encS a1.f_Name, ii a1.f_L, ii a1.f_R]) (b := .agg #[ii 2, encS ([] : List UInt8), ii (0 : Int), ii (0 : Int)]) (v := .bool (!(T_api_Node.eqb (⟨a1.f_Kind, a1.f_Name, a1.f_L, a1.f_R⟩ : T_api_Node) (⟨2, ([] : List UInt8), (0 : Int), (0 : Int)⟩ : T_api_Node)))) rfl rfl (bin_neq_agg (by kernel_rfl) (EqR.agg U61 (by kernel_rfl) (EqF.cons (by decide) (PartR.one U59 rfl rfl) (PartR.one U59 rfl rfl) (EqR.int U59) (EqF.cons (by decide) (PartR.one U9 rfl rfl) (PartR.one U9 rfl rfl) (EqR.str U9) (EqF.cons (by decide) (PartR.one U3 rfl rfl) (PartR.one U3 rfl rfl) (EqR.int U3) (EqF.cons (by decide) (PartR.one U3 rfl rfl) (PartR.one U3 rfl rfl) (EqR.int U3) EqF.nil))))))) <|
    WL.nil ?_
   rcases condE H with ⟨c122, H⟩ | ⟨c122, H⟩
   ·
    refine WC.cond_t (vb c122 rfl) <|
     WC.seq <|
     WC.region <|
     E rfl (sg (ii 31) rfl) <|
     WL.nil <|
     WC.ret ?_
    obtain rfl := Option.some.inj H
    exact ⟨_, (.tmp (ii 31 : Value) rfl .nil), _, rfl, HF.out⟩
   ·
    refine WC.cond_f (vb c122 rfl) <|
     WC.skip <|
     WC.seq <|
     WC.region <|
     E rfl (sg (ii 0) rfl) <|
     WL.nil <|
     WC.ret ?_
    obtain rfl := Option.some.inj H
    exact ⟨_, (.tmp (ii 0 : Value) rfl .nil), _, rfl, HF.out⟩
  ·
   refine WC.cond_f (vb c121 rfl) ?_
   obtain ⟨z124, hz124, H⟩ := bindE H
   refine WC.cut (fun ρ_ w_ => ∃ (o_ : Tags), Fm o0 w0 o_ w_ [] ∧ Bk o_ w_ 2 pb0 [pv0_0, .map (some pb0_1)] 28 ∧ Own T_api_Node.rep 61 3 o_ w_ pv0_0 a0.f_rows ∧ Mp (fun x_ : T_api_Node => Value.agg #[ii x_.f_Kind, encS x_.f_Name, ii x_.f_L, ii x_.f_R]) (fun v_ : Int => ii v_) 4 o_ w_ pb0_1 a0_1 ∧ Bk o_ w_ 40 b101 [ii a1.f_Kind, encS a1.f_Name, ii a1.f_L, ii a1.f_R] 61 ∧ ρ_ 0 = pp pb0 0 ∧ ρ_ 3 = pp b101 0 ∧ ρ_ 4 = ii 0 ∧ ρ_ 26 = .bool z124) ?case125 ?_
   case case125 =>
    rintro ρ128 w126 ⟨o127, HF, hB0, hO0_0, hM0_1, hB105, s0_122, s3_122, s4_122, s26_123⟩
    rcases condE H with ⟨c129, H⟩ | ⟨c129, H⟩
    ·
     refine WC.cond_t (vb c129 s26_123) ?_
     obtain ⟨z131, hz131, H⟩ := bindE H
     refine WC.cut (fun ρ_ w_ => ∃ (o_ : Tags), Fm o0 w0 o_ w_ [] ∧ Bk o_ w_ 2 pb0 [pv0_0, .map (some pb0_1)] 28 ∧ Own T_api_Node.rep 61 3 o_ w_ pv0_0 a0.f_rows ∧ Mp (fun x_ : T_api_Node => Value.agg #[ii x_.f_Kind, encS x_.f_Name, ii x_.f_L, ii x_.f_R]) (fun v_ : Int => ii v_) 4 o_ w_ pb0_1 a0_1 ∧ ρ_ 4 = ii 0 ∧ ρ_ 46 = .bool z131) ?case132 ?_
     case case132 =>
      rintro ρ135 w133 ⟨o134, HF, hB0, hO0_0, hM0_1, s4_129, s46_130⟩
      rcases condE H with ⟨c136, H⟩ | ⟨c136, H⟩
      ·
       refine WC.cond_t (vb c136 s46_130) <|
        WC.seq <|
        WC.region <|
        E rfl (sg (ii 31) rfl) <|
        WL.nil <|
        WC.ret ?_
       obtain rfl := Option.some.inj H
       exact ⟨_, (.tmp (ii 31 : Value) rfl .nil), _, rfl, HF.out⟩
      ·
       refine WC.cond_f (vb c136 s46_130) <|
        WC.skip <|
        WC.seq <|
        WC.region <|
        E rfl (sg (ii 0) rfl) <|
        WL.nil <|
        WC.ret ?_
       obtain rfl := Option.some.inj H
       exact ⟨_, (.tmp (ii 0 : Value) rfl .nil), _, rfl, HF.out⟩
     have Ho137 := H
     replace H := hz131
     refine WC.region <|
      E rfl (ex_fieldAddr s3_122 U61 rfl sz9) <|
      E rfl (ex_load1 rfl U9 rfl (hB105.cell rfl)) <|
      E rfl (e2 bin_neq_str rfl rfl) <|
      E rfl (mv (.bool (!(a1.f_Name == ([] : List UInt8)))) rfl) ?_
     rcases condE H with ⟨c138, H⟩ | ⟨c138, H⟩
     ·
      refine WL.guardNo rfl rfl rfl (vb c138 rfl) <|
       WL.guardNo rfl rfl rfl (vb c138 rfl) <|
       WL.guardNo rfl rfl rfl (vb c138 rfl) <|
       WL.guardNo rfl rfl rfl (vb c138 rfl) <|
       WL.guardNo rfl rfl rfl (vb c138 rfl) <|
       E rfl (ex_pick_t (v := .bool true) (vb c138 rfl) rfl) <|
       E rfl (mv (.bool true) rfl) <|
       WL.guardNo rfl rfl rfl rfl <|
       WL.guardNo rfl rfl rfl rfl <|
       WL.guardNo rfl rfl rfl rfl <|
       WL.guardNo rfl rfl rfl rfl <|
       WL.guardNo rfl rfl rfl rfl <|
       E rfl (ex_pick_t (v := .bool true) rfl rfl) <|
       WL.nil ?_
      obtain rfl := Option.some.inj H
      exact ⟨_, HF, hB0, hO0_0, hM0_1, s4_122, rfl⟩
     ·
      refine WL.guardYes rfl rfl rfl (vb c138 rfl) <|
       OW.ex rfl (mv (pp pb0 0) s0_122) <|
       WL.guardYes rfl rfl rfl (vb c138 rfl) <|
       OW.ex rfl (ex_fieldAddr s3_122 U61 rfl sz3) <|
       WL.guardYes rfl rfl rfl (vb c138 rfl) <|
       OW.ex rfl (ex_load1 rfl U3 rfl (hB105.cell rfl)) <|
       WL.guardYes rfl rfl rfl (vb c138 rfl) ?_
      obtain ⟨z139, hz139, H⟩ := bindE H
      refine OW.call [pp pb0 0, ii a1.f_L] rfl Tryd.func34 (by kernel_rfl) (by kernel_rfl) (map_cons' rfl (map_cons' rfl rfl)) (formula_Table_has.calls _ _ pb0 pv0_0 pb0_1 a0 a1.f_L a0_1 z139 (HF.ten (V := [0]) (L := [2, 3, 4]) rfl) (Bk.vw hB0 rfl) (Own.vw hO0_0 rfl rfl) (Mp.vw hM0_1 rfl) hz139) ?_
      rintro _ w140 ⟨o141, rfl, s142⟩
      refine ⟨_, rfl, ?_⟩
      replace s142 := un_stepL (J := []) (L' := []) s142 rfl rfl
      replace hB0 := hB0.step s142 rfl
      replace hO0_0 := hO0_0.step s142 rfl rfl
      replace hM0_1 := hM0_1.step s142 rfl
      replace hB105 := hB105.step s142 rfl
      replace HF := HF.step s142 rfl
      refine WL.guardYes rfl rfl rfl (vb c138 rfl) <|
       OW.ex rfl (ex_not (b := z139) rfl) <|
       E rfl (ex_pick_f (v := .bool (!z139)) (vb c138 rfl) rfl) <|
       E rfl (mv (.bool (!z139)) rfl) ?_
      rcases condE H with ⟨c143, H⟩ | ⟨c143, H⟩
      ·
       refine WL.guardNo rfl rfl rfl (vb c143 rfl) <|
        WL.guardNo rfl rfl rfl (vb c143 rfl) <|
        WL.guardNo rfl rfl rfl (vb c143 rfl) <|
        WL.guardNo rfl rfl rfl (vb c143 rfl) <|
        WL.guardNo rfl rfl rfl (vb c143 rfl) <|
        E rfl (ex_pick_t (v := .bool true) (vb c143 rfl) rfl) <|
        WL.nil ?_
       obtain rfl := Option.some.inj H
       exact ⟨_, HF, hB0, hO0_0, hM0_1, s4_122, rfl⟩
      ·
       refine WL.guardYes rfl rfl rfl (vb c143 rfl) <|
        OW.ex rfl (mv (pp pb0 0) s0_122) <|
        WL.guardYes rfl rfl rfl (vb c143 rfl) <|
        OW.ex rfl (ex_fieldAddr s3_122 U61 rfl sz3) <|
        WL.guardYes rfl rfl rfl (vb c143 rfl) <|
        OW.ex rfl (ex_load1 rfl U3 rfl (hB105.cell rfl)) <|
        WL.guardYes rfl rfl rfl (vb c143 rfl) ?_
       obtain ⟨z144, hz144, H⟩ := bindE H
       refine OW.call [pp pb0 0, ii a1.f_R] rfl Tryd.func34 (by kernel_rfl) (by kernel_rfl) (map_cons' rfl (map_cons' rfl rfl)) (formula_Table_has.calls _ _ pb0 pv0_0 pb0_1 a0 a1.f_R a0_1 z144 (HF.ten (V := [0]) (L := [2, 3, 4]) rfl) (Bk.vw hB0 rfl) (Own.vw hO0_0 rfl rfl) (Mp.vw hM0_1 rfl) hz144) ?_
       rintro _ w145 ⟨o146, rfl, s147⟩
       refine ⟨_, rfl, ?_⟩
       replace s147 := un_stepL (J := []) (L' := []) s147 rfl rfl
       replace hB0 := hB0.step s147 rfl
       replace hO0_0 := hO0_0.step s147 rfl rfl
       replace hM0_1 := hM0_1.step s147 rfl
       replace hB105 := hB105.step s147 rfl
       replace HF := HF.step s147 rfl
       refine WL.guardYes rfl rfl rfl (vb c143 rfl) <|
        OW.ex rfl (ex_not (b := z144) rfl) <|
        E rfl (ex_pick_f (v := .bool (!z144)) (vb c143 rfl) rfl) <|
        WL.nil ?_
       obtain rfl := Option.some.inj H
       exact ⟨_, HF, hB0, hO0_0, hM0_1, s4_122, rfl⟩
    ·
     refine WC.cond_f (vb c129 s26_123) <|
      WC.seq <|
      WC.region <|
      E rfl (sg (ii 31) rfl) <|
      WL.nil <|
      WC.ret ?_
     obtain rfl := Option.some.inj H
     exact ⟨_, (.tmp (ii 31 : Value) rfl .nil), _, rfl, HF.out⟩
   have Ho148 := H
   replace H := hz124
   refine WC.seq <|
    WC.region <|
    E rfl (e2 bin_eql rfl rfl) <|
    E rfl (sg (.bool (a1.f_Kind == 3)) rfl) <|
    WL.nil ?_
   rcases condE H with ⟨c149, H⟩ | ⟨c149, H⟩
   ·
    refine WC.cond_t (vb c149 rfl) <|
     WC.skip ?_
    obtain rfl := Option.some.inj H
    exact ⟨_, HF, hB0, hO0_0, hM0_1, hB105, rfl, rfl, rfl, rfl⟩
   ·
    refine WC.cond_f (vb c149 rfl) <|
     WC.seq <|
     WC.region <|
     E rfl (e2 bin_eql rfl rfl) <|
     E rfl (sg (.bool (a1.f_Kind == 4)) rfl) <|
     WL.nil ?_
    rcases condE H with ⟨c150, H⟩ | ⟨c150, H⟩
    ·
     refine WC.cond_t (vb c150 rfl) <|
      WC.skip ?_
     obtain rfl := Option.some.inj H
     exact ⟨_, HF, hB0, hO0_0, hM0_1, hB105, rfl, rfl, rfl, rfl⟩
    ·
     refine WC.cond_f (vb c150 rfl) <|
      WC.region <|
      E rfl (e2 bin_eql rfl rfl) <|
      E rfl (sg (.bool (a1.f_Kind == 5)) rfl) <|
      WL.nil ?_
     obtain rfl := Option.some.inj H
     exact ⟨_, HF, hB0, hO0_0, hM0_1, hB105, rfl, rfl, rfl, rfl⟩

/-! ### formula_Table_Put -/
set_option maxRecDepth 100000 in
theorem formula_Table_Put.calls (k : Nat) (o0 : Tags) (w0 : World) (pb0 : Nat) (pv0_0 : Value) (pb0_1 : Nat) (a0 : T_formula_Table) (a1 : T_api_Node) (a0_1 : (List (T_api_Node × Int))) (r : Int × Int × T_formula_Table × (List (T_api_Node × Int))) (hO : ∀ b, b < w0.heap.size → o0 b < 40) (hB0 : Bk o0 w0 2 pb0 [pv0_0, .map (some pb0_1)] 28) (hO0_0 : Own T_api_Node.rep 61 3 o0 w0 pv0_0 a0.f_rows) (hM0_1 : Mp (fun x_ : T_api_Node => Value.agg #[ii x_.f_Kind, encS x_.f_Name, ii x_.f_L, ii x_.f_R]) (fun v_ : Int => ii v_) 4 o0 w0 pb0_1 a0_1) (H : formula_Table_Put.f k a0 a1 a0_1 = some r) :
  Calls Tryd.prog 47 [pp pb0 0, .agg #[ii a1.f_Kind, encS a1.f_Name, ii a1.f_L, ii a1.f_R]].toArray w0 fun e_ w_ => ∃ (o_ : Tags) (u0_0 : Value), e_ = .returned (one [ii r.1, ii r.2.1]) ∧ Step o0 w0 o_ w_ [2, 3, 4] ∧ Bk o_ w_ 2 pb0 [u0_0, .map (some pb0_1)] 28 ∧ Own T_api_Node.rep 61 3 o_ w_ u0_0 r.2.2.1.f_rows ∧ Mp (fun x_ : T_api_Node => Value.agg #[ii x_.f_Kind, encS x_.f_Name, ii x_.f_L, ii x_.f_R]) (fun v_ : Int => ii v_) 4 o_ w_ pb0_1 r.2.2.2 := by
 have HF := Fm.refl hO [2, 3, 4]
 unfold formula_Table_Put.f at H
 refine SX.calls [pp pb0 0, .agg #[ii a1.f_Kind, encS a1.f_Name, ii a1.f_L, ii a1.f_R]] Tryd.func47 rfl rfl ?_
 rw [Tryd.ntmps47]
 refine WC.seq <|
  WC.region <|
  WL.op rfl <|
  OW.box' [ii a1.f_Kind, encS a1.f_Name, ii a1.f_L, ii a1.f_R] 40 HF rfl ((congrArg Value.cells (show ev _ _ = (.agg #[ii a1.f_Kind, encS a1.f_Name, ii a1.f_L, ii a1.f_R] : Value) from rfl)).trans rfl) ?_
 intro o102 w103 b101 s104 hB105
 replace hO0_0 := hO0_0.step s104 rfl rfl
 replace hB0 := hB0.step s104 rfl
 replace hM0_1 := hM0_1.step s104 rfl
 replace HF := HF.step s104 rfl
 refine E rfl (sg (ii 0) rfl) <|
  E rfl (sg (ii 0) rfl) <|
  WL.nil <|
  WC.seq <|
  WC.seq <|
  WC.region <|
  E rfl (mv (pp pb0 0) rfl) ?_
 obtain ⟨z106, hz106, H⟩ := bindE H
 refine WL.op rfl <|
  OW.call [pp pb0 0] rfl Tryd.func26 (by kernel_rfl) (by kernel_rfl) (map_cons' rfl rfl) (formula_Table_alive.calls _ _ pb0 pv0_0 pb0_1 a0 a0_1 z106 (HF.ten (V := [0]) (L := [2, 3, 4]) rfl) (Bk.vw hB0 rfl) (Own.vw hO0_0 rfl rfl) (Mp.vw hM0_1 rfl) hz106) ?_
 obtain rfl := Option.some.inj (show some true = some z106 from hz106)
 rintro _ w107 ⟨o108, rfl, s109⟩
 refine ⟨_, rfl, ?_⟩
 replace s109 := un_stepL (J := []) (L' := []) s109 rfl rfl
 replace hO0_0 := hO0_0.step s109 rfl rfl
 replace hB0 := hB0.step s109 rfl
 replace hM0_1 := hM0_1.step s109 rfl
 replace hB105 := hB105.step s109 rfl
 replace HF := HF.step s109 rfl
 refine E rfl (ex_not (b := true) rfl) <|
  WL.nil <|
  WC.cond_f rfl <|
  WC.skip <|
  WC.seq <|
  WC.seq <|
  WC.region <|
  E rfl (mv (pp pb0 0) rfl) <|
  E rfl (ex_loadN (cs := [ii a1.f_Kind, encS a1.f_Name, ii a1.f_L, ii a1.f_R]) rfl U61 rfl sz61 (hB105.cells rfl)) ?_
 obtain ⟨z110, hz110, H⟩ := bindE H
 refine WL.op rfl <|
  OW.call [pp pb0 0, .agg #[ii a1.f_Kind, encS a1.f_Name, ii a1.f_L, ii a1.f_R]] rfl Tryd.func59 (by kernel_rfl) (by kernel_rfl) (map_cons' rfl (map_cons' rfl rfl)) (formula_Table_fits.calls k _ _ pb0 pv0_0 pb0_1 a0 (⟨a1.f_Kind, a1.f_Name, a1.f_L, a1.f_R⟩ : T_api_Node) a0_1 z110 (HF.ten (V := [0]) (L := [2, 3, 4]) rfl) (Bk.vw hB0 rfl) (Own.vw hO0_0 rfl rfl) (Mp.vw hM0_1 rfl) hz110) ?_
 rintro _ w111 ⟨o112, rfl, s113⟩
 refine ⟨_, rfl, ?_⟩
 replace s113 := un_stepL (J := []) (L' := []) s113 rfl rfl
 replace hO0_0 := hO0_0.step s113 rfl rfl
 replace hB0 := hB0.step s113 rfl
 replace hM0_1 := hM0_1.step s113 rfl
 replace hB105 := hB105.step s113 rfl
 replace HF := HF.step s113 rfl
 refine E rfl (sg (ii z110) rfl) <|
  WL.nil <|
  WC.seq <|
  WC.region <|
  E rfl (mv (ii z110) rfl) <|
  E rfl (e2 bin_neq rfl rfl) <|
  WL.nil ?_
 rcases condE H with ⟨c114, H⟩ | ⟨c114, H⟩
 ·
  refine WC.cond_t (vb c114 rfl) <|
   WC.seq <|
   WC.region <|
   E rfl (mv (ii z110) rfl) <|
   E rfl (sg (ii 0) rfl) <|
   E rfl (sg (ii z110) rfl) <|
   WL.nil <|
   WC.ret ?_
  obtain rfl := Option.some.inj H
  exact ⟨_, (.tmp (ii 0 : Value) rfl (.tmp (ii z110 : Value) rfl .nil)), _, pv0_0, rfl, HF.out, hB0, hO0_0, hM0_1⟩
 ·
  refine WC.cond_f (vb c114 rfl) <|
   WC.skip <|
   WC.seq <|
   WC.seq <|
   WC.regionD' HF [] 11 11 (by kernel_rfl) rfl ?_
  intro w115 s116
  replace hO0_0 := hO0_0.step s116 rfl rfl
  replace hB0 := hB0.step s116 rfl
  replace hM0_1 := hM0_1.step s116 rfl
  replace hB105 := hB105.step s116 rfl
  replace HF := HF.step s116 rfl
  have hO0_0D := hO0_0
  have hB0D := hB0
  have hM0_1D := hM0_1
  have hB105D := hB105
  have sR := HF.here []
  refine WA.norm (listed' := #[false, false, false, false, false, false, false, false, false, false, false]) (by kernel_rfl) <|
   WA.ex 0 rfl (by kernel_rfl) (by kernel_rfl) (by kernel_rfl) rfl ⟨_, sR⟩ (fun w_ hS_ => ex_move (v := pp pb0 0) rfl) <|
   WA.norm (listed' := #[true, false, false, false, false, false, false, false, false, false, false]) (by kernel_rfl) <|
   WA.ex 1 rfl (by kernel_rfl) (by kernel_rfl) (by kernel_rfl) rfl ⟨_, sR⟩ (fun w_ hS_ => ex_nilCheck rfl) <|
   WA.norm (listed' := #[true, true, false, false, false, false, false, false, false, false, false]) (by kernel_rfl) <|
   WA.ex 2 rfl (by kernel_rfl) (by kernel_rfl) (by kernel_rfl) rfl ⟨_, sR⟩ (fun w_ hS_ => ex_fieldAddr rfl U28 rfl sz26) <|
   WA.norm (listed' := #[true, true, true, false, false, false, false, false, false, false, false]) (by kernel_rfl) <|
   WA.ex 3 rfl (by kernel_rfl) (by kernel_rfl) (by kernel_rfl) rfl ⟨_, sR⟩ (fun w_ hS_ => ex_load1 (v := .map (some pb0_1)) rfl U26 rfl ((hB0D.step hS_.choose_spec rfl).cell rfl)) <|
   WA.norm (listed' := #[true, true, true, true, false, false, false, false, false, false, false]) (by kernel_rfl) <|
   WA.ex 4 rfl (by kernel_rfl) (by kernel_rfl) (by kernel_rfl) rfl ⟨_, sR⟩ (fun w_ hS_ => ex_loadN (cs := [ii a1.f_Kind, encS a1.f_Name, ii a1.f_L, ii a1.f_R]) rfl U61 rfl sz61 ((hB105D.step hS_.choose_spec rfl).cells rfl)) <|
   WA.norm (listed' := #[true, true, true, true, true, false, false, false, false, false, false]) (by kernel_rfl) <|
   WA.ex 5 rfl (by kernel_rfl) (by kernel_rfl) (by kernel_rfl) rfl ⟨_, sR⟩ (fun w_ hS_ => ex_lookup2 (ek := (fun x_ : T_api_Node => Value.agg #[ii x_.f_Kind, encS x_.f_Name, ii x_.f_L, ii x_.f_R])) (ev := (fun v_ : Int => ii v_)) (eq := T_api_Node.eqb) (x := (⟨a1.f_Kind, a1.f_Name, a1.f_L, a1.f_R⟩ : T_api_Node)) (z := (0 : Int)) rfl rfl U26 key61 (hM0_1D.step hS_.choose_spec rfl) zr3) <|
   WA.norm (listed' := #[true, true, true, true, true, true, false, false, false, false, false]) (by kernel_rfl) <|
   WA.ex 6 rfl (by kernel_rfl) (by kernel_rfl) (by kernel_rfl) rfl ⟨_, sR⟩ (fun w_ hS_ => ex_move (v := .tuple #[ii ((mget T_api_Node.eqb a0_1 (⟨a1.f_Kind, a1.f_Name, a1.f_L, a1.f_R⟩ : T_api_Node)).getD (0 : Int)), .bool ((mget T_api_Node.eqb a0_1 (⟨a1.f_Kind, a1.f_Name, a1.f_L, a1.f_R⟩ : T_api_Node)).isSome)]) rfl) <|
   WA.norm (listed' := #[true, true, true, true, true, true, true, false, false, false, false]) (by kernel_rfl) <|
   WA.ex 7 rfl (by kernel_rfl) (by kernel_rfl) (by kernel_rfl) rfl ⟨_, sR⟩ (fun w_ hS_ => ex_extract (vs := #[ii ((mget T_api_Node.eqb a0_1 (⟨a1.f_Kind, a1.f_Name, a1.f_L, a1.f_R⟩ : T_api_Node)).getD (0 : Int)), .bool ((mget T_api_Node.eqb a0_1 (⟨a1.f_Kind, a1.f_Name, a1.f_L, a1.f_R⟩ : T_api_Node)).isSome)]) (v := ii ((mget T_api_Node.eqb a0_1 (⟨a1.f_Kind, a1.f_Name, a1.f_L, a1.f_R⟩ : T_api_Node)).getD (0 : Int))) rfl rfl) <|
   WA.norm (listed' := #[true, true, true, true, true, true, true, true, false, false, false]) (by kernel_rfl) <|
   WA.ex 8 rfl (by kernel_rfl) (by kernel_rfl) (by kernel_rfl) rfl ⟨_, sR⟩ (fun w_ hS_ => ex_extract (vs := #[ii ((mget T_api_Node.eqb a0_1 (⟨a1.f_Kind, a1.f_Name, a1.f_L, a1.f_R⟩ : T_api_Node)).getD (0 : Int)), .bool ((mget T_api_Node.eqb a0_1 (⟨a1.f_Kind, a1.f_Name, a1.f_L, a1.f_R⟩ : T_api_Node)).isSome)]) (v := .bool ((mget T_api_Node.eqb a0_1 (⟨a1.f_Kind, a1.f_Name, a1.f_L, a1.f_R⟩ : T_api_Node)).isSome)) rfl rfl) <|
   WA.norm (listed' := #[true, true, true, true, true, true, true, true, true, false, false]) (by kernel_rfl) <|
   WA.ex 9 rfl (by kernel_rfl) (by kernel_rfl) (by kernel_rfl) rfl ⟨_, sR⟩ (fun w_ hS_ => ex_assign (v := ii ((mget T_api_Node.eqb a0_1 (⟨a1.f_Kind, a1.f_Name, a1.f_L, a1.f_R⟩ : T_api_Node)).getD (0 : Int))) rfl) <|
   WA.norm (listed' := #[true, true, true, true, true, true, true, true, true, true, false]) (by kernel_rfl) <|
   WA.ex 10 rfl (by kernel_rfl) (by kernel_rfl) (by kernel_rfl) rfl ⟨_, sR⟩ (fun w_ hS_ => ex_assign (v := .bool ((mget T_api_Node.eqb a0_1 (⟨a1.f_Kind, a1.f_Name, a1.f_L, a1.f_R⟩ : T_api_Node)).isSome)) rfl) <|
   WA.norm (listed' := #[true, true, true, true, true, true, true, true, true, true, true]) (by kernel_rfl) <|
   WA.done (by kernel_rfl) <|
   WC.seq ?_
  refine WC.region <|
   E rfl (mv (.bool ((mget T_api_Node.eqb a0_1 (⟨a1.f_Kind, a1.f_Name, a1.f_L, a1.f_R⟩ : T_api_Node)).isSome)) rfl) <|
   WL.nil ?_
  rcases condE H with ⟨c117, H⟩ | ⟨c117, H⟩
  ·
   refine WC.cond_t (vb c117 rfl) <|
    WC.seq <|
    WC.region <|
    E rfl (mv (ii ((mget T_api_Node.eqb a0_1 (⟨a1.f_Kind, a1.f_Name, a1.f_L, a1.f_R⟩ : T_api_Node)).getD (0 : Int))) rfl) <|
    E rfl (sg (ii ((mget T_api_Node.eqb a0_1 (⟨a1.f_Kind, a1.f_Name, a1.f_L, a1.f_R⟩ : T_api_Node)).getD (0 : Int))) rfl) <|
    E rfl (sg (ii 0) rfl) <|
    WL.nil <|
    WC.ret ?_
   obtain rfl := Option.some.inj H
   exact ⟨_, (.tmp (ii ((mget T_api_Node.eqb a0_1 (⟨a1.f_Kind, a1.f_Name, a1.f_L, a1.f_R⟩ : T_api_Node)).getD (0 : Int)) : Value) rfl (.tmp (ii 0 : Value) rfl .nil)), _, pv0_0, rfl, HF.out, hB0, hO0_0, hM0_1⟩
  ·
   refine WC.cond_f (vb c117 rfl) <|
    WC.skip <|
    WC.seq <|
    WC.region <|
    E rfl (mv (pp pb0 0) rfl) <|
    E rfl (ex_nilCheck rfl) <|
    E rfl (ex_fieldAddr rfl U28 rfl sz25) <|
    E rfl (ex_load1 rfl U25 rfl (hB0.cell rfl)) ?_
   obtain ⟨A118, c119, q120⟩ := hO0_0.slice
   refine E rfl (ex_len_slice ((show _ = (pv0_0 : Value) from rfl).trans q120) U25) <|
    E rfl (sg (ii (a0.f_rows.length : Int)) rfl) <|
    WL.nil <|
    WC.seq <|
    WC.seq <|
    WC.region <|
    E rfl (mv (ii (a0.f_rows.length : Int)) rfl) <|
    E rfl (e2 bin_geq rfl rfl) <|
    WL.nil ?_
   rcases condE H with ⟨c121, H⟩ | ⟨c121, H⟩
   ·
    refine WC.cond_t (vb c121 rfl) <|
     WC.seq <|
     WC.region <|
     E rfl (sg (ii 0) rfl) <|
     E rfl (sg (ii 30) rfl) <|
     WL.nil <|
     WC.ret ?_
    obtain rfl := Option.some.inj H
    exact ⟨_, (.tmp (ii 0 : Value) rfl (.tmp (ii 30 : Value) rfl .nil)), _, pv0_0, rfl, HF.out, hB0, hO0_0, hM0_1⟩
   ·
    refine WC.cond_f (vb c121 rfl) <|
     WC.skip ?_
    obtain ⟨z125, hz125, H⟩ := bindE H
    refine WC.cut (fun ρ_ w_ => ∃ (o_ : Tags) (v123 : Value), Fm o0 w0 o_ w_ [2, 3, 4] ∧ Bk o_ w_ 2 pb0 [v123, .map (some pb0_1)] 28 ∧ Own T_api_Node.rep 61 3 o_ w_ v123 z125.f_rows ∧ Mp (fun x_ : T_api_Node => Value.agg #[ii x_.f_Kind, encS x_.f_Name, ii x_.f_L, ii x_.f_R]) (fun v_ : Int => ii v_) 4 o_ w_ pb0_1 a0_1 ∧ Bk o_ w_ 40 b101 [ii a1.f_Kind, encS a1.f_Name, ii a1.f_L, ii a1.f_R] 61 ∧ ρ_ 0 = pp pb0 0 ∧ ρ_ 3 = pp b101 0 ∧ ρ_ 4 = ii 0 ∧ ρ_ 5 = ii 0 ∧ ρ_ 9 = ii (a0.f_rows.length : Int)) ?case126 ?_
    case case126 =>
     rintro ρ129 w127 ⟨o128, v123, HF, hB140, hO124, hM0_1, hB105, s0_121, s3_121, s4_121, s5_121, s9_121⟩
     refine WC.seq <|
      WC.regionD' HF [] 6 7 (by kernel_rfl) rfl ?_
     intro w130 s131
     replace hB140 := hB140.step s131 rfl
     replace hO124 := hO124.step s131 rfl rfl
     replace hM0_1 := hM0_1.step s131 rfl
     replace hB105 := hB105.step s131 rfl
     replace HF := HF.step s131 rfl
     have hB140D := hB140
     have hO124D := hO124
     have hM0_1D := hM0_1
     have hB105D := hB105
     have sR := HF.here []
     refine WA.norm (listed' := #[false, false, false, false, false, false, false]) (by kernel_rfl) <|
      WA.ex 0 rfl (by kernel_rfl) (by kernel_rfl) (by kernel_rfl) rfl ⟨_, sR⟩ (fun w_ hS_ => ex_move (v := pp pb0 0) s0_121) <|
      WA.norm (listed' := #[true, false, false, false, false, false, false]) (by kernel_rfl) <|
      WA.ex 1 rfl (by kernel_rfl) (by kernel_rfl) (by kernel_rfl) rfl ⟨_, sR⟩ (fun w_ hS_ => ex_nilCheck rfl) <|
      WA.norm (listed' := #[true, true, false, false, false, false, false]) (by kernel_rfl) <|
      WA.ex 2 rfl (by kernel_rfl) (by kernel_rfl) (by kernel_rfl) rfl ⟨_, sR⟩ (fun w_ hS_ => ex_fieldAddr rfl U28 rfl sz26) <|
      WA.norm (listed' := #[true, true, true, false, false, false, false]) (by kernel_rfl) <|
      WA.ex 3 rfl (by kernel_rfl) (by kernel_rfl) (by kernel_rfl) rfl ⟨_, sR⟩ (fun w_ hS_ => ex_load1 (v := .map (some pb0_1)) rfl U26 rfl ((hB140D.step hS_.choose_spec rfl).cell rfl)) <|
      WA.norm (listed' := #[true, true, true, true, false, false, false]) (by kernel_rfl) <|
      WA.ex 4 rfl (by kernel_rfl) (by kernel_rfl) (by kernel_rfl) rfl ⟨_, sR⟩ (fun w_ hS_ => ex_loadN (cs := [ii a1.f_Kind, encS a1.f_Name, ii a1.f_L, ii a1.f_R]) s3_121 U61 rfl sz61 ((hB105D.step hS_.choose_spec rfl).cells rfl)) <|
      WA.norm (listed' := #[true, true, true, true, true, false, false]) (by kernel_rfl) <|
      WA.ex 5 rfl (by kernel_rfl) (by kernel_rfl) (by kernel_rfl) rfl ⟨_, sR⟩ (fun w_ hS_ => ex_move (v := ii (a0.f_rows.length : Int)) s9_121) <|
      WA.norm (listed' := #[true, true, true, true, true, true, false]) (by kernel_rfl) <|
      WA.last 6 (by kernel_rfl) (by kernel_rfl) rfl rfl rfl <|
      OW.mapUpdate (ek := (fun x_ : T_api_Node => Value.agg #[ii x_.f_Kind, encS x_.f_Name, ii x_.f_L, ii x_.f_R])) (ev := (fun v_ : Int => ii v_)) (eq := T_api_Node.eqb) (kx := (⟨a1.f_Kind, a1.f_Name, a1.f_L, a1.f_R⟩ : T_api_Node)) (vx := (a0.f_rows.length : Int)) rfl rfl rfl U26 key61 hM0_1 ?_
     intro w132 s133 hM134
     replace hB140 := hB140.step s133 rfl
     replace hO124 := hO124.step s133 rfl rfl
     replace hB105 := hB105.step s133 rfl
     replace HF := HF.step s133 rfl
     refine WC.seq <|
      WC.region <|
      E rfl (mv (ii (a0.f_rows.length : Int)) s9_121) <|
      E rfl (sg (ii (a0.f_rows.length : Int)) rfl) <|
      E rfl (sg (ii 0) rfl) <|
      WL.nil <|
      WC.ret ?_
     obtain rfl := Option.some.inj H
     exact ⟨_, (.tmp (ii (a0.f_rows.length : Int) : Value) rfl (.tmp (ii 0 : Value) rfl .nil)), _, v123, rfl, HF.out, hB140, hO124, hM134⟩
    have Ho135 := H
    replace H := hz125
    refine WC.regionD' HF [2, 3] 11 11 (by kernel_rfl) rfl ?_
    intro w136 s137
    replace hO0_0 := hO0_0.step s137 rfl rfl
    replace hB0 := hB0.step s137 rfl
    replace hM0_1 := hM0_1.step s137 rfl
    replace hB105 := hB105.step s137 rfl
    replace HF := HF.step s137 rfl
    have hO0_0D := hO0_0
    have hB0D := hB0
    have hM0_1D := hM0_1
    have hB105D := hB105
    have sR := HF.here [2, 3]
    refine WA.norm (listed' := #[false, false, false, false, false, false, false, false, false, false, false]) (by kernel_rfl) <|
     WA.ex 0 rfl (by kernel_rfl) (by kernel_rfl) (by kernel_rfl) rfl ⟨_, sR⟩ (fun w_ hS_ => ex_move (v := pp pb0 0) rfl) <|
     WA.norm (listed' := #[true, false, false, false, false, false, false, false, false, false, false]) (by kernel_rfl) <|
     WA.ex 1 rfl (by kernel_rfl) (by kernel_rfl) (by kernel_rfl) rfl ⟨_, sR⟩ (fun w_ hS_ => ex_move (v := pp pb0 0) rfl) <|
     WA.norm (listed' := #[true, true, false, false, false, false, false, false, false, false, false]) (by kernel_rfl) <|
     WA.ex 2 rfl (by kernel_rfl) (by kernel_rfl) (by kernel_rfl) rfl ⟨_, sR⟩ (fun w_ hS_ => ex_nilCheck rfl) <|
     WA.norm (listed' := #[true, true, true, false, false, false, false, false, false, false, false]) (by kernel_rfl) <|
     WA.ex 3 rfl (by kernel_rfl) (by kernel_rfl) (by kernel_rfl) rfl ⟨_, sR⟩ (fun w_ hS_ => ex_fieldAddr rfl U28 rfl sz25) <|
     WA.norm (listed' := #[true, true, true, true, false, false, false, false, false, false, false]) (by kernel_rfl) <|
     WA.ex 5 rfl (by kernel_rfl) (by kernel_rfl) (by kernel_rfl) rfl ⟨_, sR⟩ (fun w_ hS_ => ex_loadN (cs := [ii a1.f_Kind, encS a1.f_Name, ii a1.f_L, ii a1.f_R]) rfl U61 rfl sz61 ((hB105D.step hS_.choose_spec rfl).cells rfl)) <|
     WA.norm (listed' := #[true, true, true, true, false, true, false, false, false, false, false]) (by kernel_rfl) ?_
    refine WA.both 4 6 (by kernel_rfl) rfl rfl rfl rfl ?_ ?_
    ·
     refine OW.ex rfl (ex_load1 rfl U25 rfl (hB0.cell rfl)) ?_
     refine ⟨⟨_, sR⟩, ?_⟩
     refine WA.norm (listed' := #[true, true, true, true, true, true, false, false, false, false, false]) (by kernel_rfl) <|
      WA.one 6 (by kernel_rfl) rfl rfl <|
      OW.row (r := T_api_Node.rep) (xs := [(⟨a1.f_Kind, a1.f_Name, a1.f_L, a1.f_R⟩ : T_api_Node)]) [(0, .agg #[ii a1.f_Kind, encS a1.f_Name, ii a1.f_L, ii a1.f_R])] [[ii a1.f_Kind, encS a1.f_Name, ii a1.f_L, ii a1.f_R]] 41 HF rfl U25 sz61 zr61 rfl (evs_cons rfl rfl) rfl rfl ⟨(T_api_Node.mk' (⟨a1.f_Kind, a1.f_Name, a1.f_L, a1.f_R⟩ : T_api_Node) ), trivial⟩ rfl rfl rfl rfl ?_
     intro o138 w139 v141 s140 hO142
     replace hO0_0 := hO0_0.step s140 rfl rfl
     replace hB0 := hB0.step s140 rfl
     replace hM0_1 := hM0_1.step s140 rfl
     replace hB105 := hB105.step s140 rfl
     replace HF := HF.step s140 rfl
     replace sR := Step.trans sR s140 (M := [2, 3]) rfl rfl
     refine ⟨⟨_, sR⟩, ?_⟩
     refine WA.norm (listed' := #[true, true, true, true, true, true, true, false, false, false, false]) (by kernel_rfl) ?_
     obtain ⟨A143, c144, q145_, _, q145⟩ := hO142.row
     obtain ⟨u146, hu146, H⟩ := bindE H
     refine WA.one 7 (by kernel_rfl) rfl rfl <|
      OW.append (r := T_api_Node.rep) (E := 61) (i := 3) rfl U25 inf61 rfl (by decide) (by decide) (by decide) rfl ((show _ = (v141 : Value) from rfl).trans q145_) hO0_0 q145 rfl (of_decide_eq_true (chk_true hu146)) ?_
     intro o147 w148 v149 s150 hO151
     replace hB0 := hB0.step s150 rfl
     replace hM0_1 := hM0_1.step s150 rfl
     replace hB105 := hB105.step s150 rfl
     replace hO142 := hO142.step s150 rfl rfl
     replace HF := HF.step s150 rfl
     replace sR := Step.trans sR s150 (M := [2, 3]) rfl rfl
     refine ⟨⟨_, sR⟩, ?_⟩
     refine WA.norm (listed' := #[true, true, true, true, true, true, true, true, false, false, false]) (by kernel_rfl) <|
      WA.ex 8 rfl (by kernel_rfl) (by kernel_rfl) (by kernel_rfl) rfl ⟨_, sR⟩ (fun w_ hS_ => ex_nilCheck rfl) <|
      WA.norm (listed' := #[true, true, true, true, true, true, true, true, true, false, false]) (by kernel_rfl) <|
      WA.ex 9 rfl (by kernel_rfl) (by kernel_rfl) (by kernel_rfl) rfl ⟨_, sR⟩ (fun w_ hS_ => ex_fieldAddr rfl U28 rfl sz25) <|
      WA.norm (listed' := #[true, true, true, true, true, true, true, true, true, true, false]) (by kernel_rfl) <|
      WA.one 10 (by kernel_rfl) rfl rfl <|
      OW.store [v149, .map (some pb0_1)] rfl (vs := [v149]) ((congrArg Value.cells (show ev _ _ = (v149 : Value) from rfl)).trans (Own.cells1 hO151)) sz25 hB0 (Nat.le_of_ble_eq_true rfl) (by intro u_ hu_; simp only [List.mem_cons, List.not_mem_nil, or_false] at hu_; rcases hu_ with rfl; first | rfl | exact Own.oneCell hO151) rfl ?_
     intro w152 s153 hB154
     replace hM0_1 := hM0_1.step s153 rfl
     replace hB105 := hB105.step s153 rfl
     replace hO142 := hO142.step s153 rfl rfl
     replace hO151 := hO151.step s153 rfl rfl
     replace HF := HF.step s153 rfl
     replace sR := Step.trans sR s153 (M := [2, 3]) rfl rfl
     refine ⟨⟨_, sR⟩, ?_⟩
     refine WA.norm (listed' := #[true, true, true, true, true, true, true, true, true, true, true]) (by kernel_rfl) <|
      WA.done (by kernel_rfl) ?_
     obtain rfl := Option.some.inj H
     exact ⟨_, _, HF, hB154, hO151, hM0_1, hB105, rfl, rfl, rfl, rfl, rfl⟩
    ·
     refine OW.row (r := T_api_Node.rep) (xs := [(⟨a1.f_Kind, a1.f_Name, a1.f_L, a1.f_R⟩ : T_api_Node)]) [(0, .agg #[ii a1.f_Kind, encS a1.f_Name, ii a1.f_L, ii a1.f_R])] [[ii a1.f_Kind, encS a1.f_Name, ii a1.f_L, ii a1.f_R]] 41 HF rfl U25 sz61 zr61 rfl (evs_cons rfl rfl) rfl rfl ⟨(T_api_Node.mk' (⟨a1.f_Kind, a1.f_Name, a1.f_L, a1.f_R⟩ : T_api_Node) ), trivial⟩ rfl rfl rfl rfl ?_
     intro o138 w139 v141 s140 hO142
     replace hO0_0 := hO0_0.step s140 rfl rfl
     replace hB0 := hB0.step s140 rfl
     replace hM0_1 := hM0_1.step s140 rfl
     replace hB105 := hB105.step s140 rfl
     replace HF := HF.step s140 rfl
     replace sR := Step.trans sR s140 (M := [2, 3]) rfl rfl
     refine ⟨⟨_, sR⟩, ?_⟩
     refine WA.norm (listed' := #[true, true, true, true, false, true, true, false, false, false, false]) (by kernel_rfl) <|
      WA.one 4 (by kernel_rfl) rfl rfl <|
      OW.ex rfl (ex_load1 rfl U25 rfl (hB0.cell rfl)) ?_
     refine ⟨⟨_, sR⟩, ?_⟩
     refine WA.norm (listed' := #[true, true, true, true, true, true, true, false, false, false, false]) (by kernel_rfl) ?_
     obtain ⟨A143, c144, q145_, _, q145⟩ := hO142.row
     obtain ⟨u146, hu146, H⟩ := bindE H
     refine WA.one 7 (by kernel_rfl) rfl rfl <|
      OW.append (r := T_api_Node.rep) (E := 61) (i := 3) rfl U25 inf61 rfl (by decide) (by decide) (by decide) rfl ((show _ = (v141 : Value) from rfl).trans q145_) hO0_0 q145 rfl (of_decide_eq_true (chk_true hu146)) ?_
     intro o147 w148 v149 s150 hO151
     replace hB0 := hB0.step s150 rfl
     replace hM0_1 := hM0_1.step s150 rfl
     replace hB105 := hB105.step s150 rfl
     replace hO142 := hO142.step s150 rfl rfl
     replace HF := HF.step s150 rfl
     replace sR := Step.trans sR s150 (M := [2, 3]) rfl rfl
     refine ⟨⟨_, sR⟩, ?_⟩
     refine WA.norm (listed' := #[true, true, true, true, true, true, true, true, false, false, false]) (by kernel_rfl) <|
      WA.ex 8 rfl (by kernel_rfl) (by kernel_rfl) (by kernel_rfl) rfl ⟨_, sR⟩ (fun w_ hS_ => ex_nilCheck rfl) <|
      WA.norm (listed' := #[true, true, true, true, true, true, true, true, true, false, false]) (by kernel_rfl) <|
      WA.ex 9 rfl (by kernel_rfl) (by kernel_rfl) (by kernel_rfl) rfl ⟨_, sR⟩ (fun w_ hS_ => ex_fieldAddr rfl U28 rfl sz25) <|
      WA.norm (listed' := #[true, true, true, true, true, true, true, true, true, true, false]) (by kernel_rfl) <|
      WA.one 10 (by kernel_rfl) rfl rfl <|
      OW.store [v149, .map (some pb0_1)] rfl (vs := [v149]) ((congrArg Value.cells (show ev _ _ = (v149 : Value) from rfl)).trans (Own.cells1 hO151)) sz25 hB0 (Nat.le_of_ble_eq_true rfl) (by intro u_ hu_; simp only [List.mem_cons, List.not_mem_nil, or_false] at hu_; rcases hu_ with rfl; first | rfl | exact Own.oneCell hO151) rfl ?_
     intro w152 s153 hB154
     replace hM0_1 := hM0_1.step s153 rfl
     replace hB105 := hB105.step s153 rfl
     replace hO142 := hO142.step s153 rfl rfl
     replace hO151 := hO151.step s153 rfl rfl
     replace HF := HF.step s153 rfl
     replace sR := Step.trans sR s153 (M := [2, 3]) rfl rfl
     refine ⟨⟨_, sR⟩, ?_⟩
     refine WA.norm (listed' := #[true, true, true, true, true, true, true, true, true, true, true]) (by kernel_rfl) <|
      WA.done (by kernel_rfl) ?_
     obtain rfl := Option.some.inj H
     exact ⟨_, _, HF, hB154, hO151, hM0_1, hB105, rfl, rfl, rfl, rfl, rfl⟩

/-! ### syntax_reader_put -/
set_option maxRecDepth 100000 in
theorem syntax_reader_put.calls (o0 : Tags) (w0 : World) (pb0 : Nat) (pA0_1 : Option Addr) (pc0_1 : Nat) (pb0_0 : Nat) (pv0_0_0 : Value) (pb0_0_1 : Nat) (a0 : T_syntax_reader) (a1 : Int) (a2 : Int) (a0_0 : T_formula_Table) (a0_0_1 : (List (T_api_Node × Int))) (r : Int × T_syntax_reader) (hO : ∀ b, b < w0.heap.size → o0 b < 40) (hB0 : Bk o0 w0 2 pb0 [pp pb0_0 0, .slice pA0_1 a0.f_l.length pc0_1, ii a0.f_i, ii a0.f_names, ii a0.f_nest, .bool a0.f_counts, .bool a0.f_full] 55) (hra0_1 : Row T_api_Token.rep (fun b_ => o0 b_ = 0) (fun b_ => o0 b_ = 0) w0 pA0_1 a0.f_l) (hla0_1 : a0.f_l.length ≤ pc0_1) (hB0_0 : Bk o0 w0 3 pb0_0 [pv0_0_0, .map (some pb0_0_1)] 28) (hO0_0_0 : Own T_api_Node.rep 61 4 o0 w0 pv0_0_0 a0_0.f_rows) (hM0_0_1 : Mp (fun x_ : T_api_Node => Value.agg #[ii x_.f_Kind, encS x_.f_Name, ii x_.f_L, ii x_.f_R]) (fun v_ : Int => ii v_) 5 o0 w0 pb0_0_1 a0_0_1) (H : syntax_reader_put.f a0 a1 a2 a0_0 a0_0_1 = some r) :
  Calls Tryd.prog 46 [pp pb0 0, ii a1, ii a2].toArray w0 fun e_ w_ => ∃ (o_ : Tags) (B_0_1 : Option Addr) (d_0_1 : Nat), e_ = .returned (one [ii r.1]) ∧ Step o0 w0 o_ w_ [2] ∧ Bk o_ w_ 2 pb0 [pp pb0_0 0, .slice B_0_1 r.2.f_l.length d_0_1, ii r.2.f_i, ii r.2.f_names, ii r.2.f_nest, .bool r.2.f_counts, .bool r.2.f_full] 55 ∧ r.2.f_l.length ≤ d_0_1 ∧ Row T_api_Token.rep (fun b_ => o_ b_ = 0) (fun b_ => o_ b_ = 0) w_ B_0_1 r.2.f_l := by
 have HF := Fm.refl hO [2]
 unfold syntax_reader_put.f at H
 refine SX.calls [pp pb0 0, ii a1, ii a2] Tryd.func46 rfl rfl ?_
 rw [Tryd.ntmps46]
 refine WC.seq <|
  WC.region <|
  E rfl (sg (ii 0) rfl) <|
  WL.nil <|
  WC.seq <|
  WC.region <|
  E rfl (mv (pp pb0 0) rfl) <|
  E rfl (mv (pp pb0 0) rfl) <|
  E rfl (ex_nilCheck rfl) <|
  E rfl (ex_fieldAddr rfl U55 rfl sz4) <|
  E rfl (ex_load1 rfl U4 rfl (hB0.cell rfl)) <|
  E rfl (mv (.bool a0.f_full) rfl) ?_
 rcases condE H with ⟨c101, H⟩ | ⟨c101, H⟩
 ·
  refine WL.guardNo rfl rfl rfl (vb c101 rfl) <|
   WL.guardNo rfl rfl rfl (vb c101 rfl) <|
   E rfl (ex_pick_t (v := .bool true) (vb c101 rfl) rfl) <|
   E rfl (ex_nilCheck rfl) <|
   E rfl (ex_fieldAddr rfl U55 rfl sz4) <|
   WL.op rfl <|
   OW.store [pp pb0_0 0, .slice pA0_1 a0.f_l.length pc0_1, ii a0.f_i, ii a0.f_names, ii a0.f_nest, .bool a0.f_counts, .bool true] rfl (vs := [.bool true]) rfl sz4 hB0 (Nat.le_of_ble_eq_true rfl) (oa rfl) rfl ?_
  intro w102 s103 hB104
  replace hra0_1 := hra0_1.step s103 rfl
  replace hO0_0_0 := hO0_0_0.step s103 rfl rfl
  replace hB0_0 := hB0_0.step s103 rfl
  replace hM0_0_1 := hM0_0_1.step s103 rfl
  replace HF := HF.step s103 rfl
  refine WL.nil <|
   WC.seq <|
   WC.region <|
   E rfl (mv (ii a1) rfl) <|
   E rfl (sg (ii a1) rfl) <|
   WL.nil <|
   WC.ret ?_
  obtain rfl := Option.some.inj H
  exact ⟨_, (.tmp (ii a1 : Value) rfl .nil), _, pA0_1, pc0_1, rfl, HF.out, hB104, hla0_1, hra0_1⟩
 ·
  refine WL.guardYes rfl rfl rfl (vb c101 rfl) <|
   OW.ex rfl (mv (ii a2) rfl) <|
   WL.guardYes rfl rfl rfl (vb c101 rfl) <|
   OW.ex rfl (e2 bin_eql rfl rfl) <|
   E rfl (ex_pick_f (v := .bool (a2 == 30)) (vb c101 rfl) rfl) <|
   E rfl (ex_nilCheck rfl) <|
   E rfl (ex_fieldAddr rfl U55 rfl sz4) <|
   WL.op rfl <|
   OW.store [pp pb0_0 0, .slice pA0_1 a0.f_l.length pc0_1, ii a0.f_i, ii a0.f_names, ii a0.f_nest, .bool a0.f_counts, .bool (a2 == 30)] rfl (vs := [.bool (a2 == 30)]) rfl sz4 hB0 (Nat.le_of_ble_eq_true rfl) (oa rfl) rfl ?_
  intro w105 s106 hB107
  replace hra0_1 := hra0_1.step s106 rfl
  replace hO0_0_0 := hO0_0_0.step s106 rfl rfl
  replace hB0_0 := hB0_0.step s106 rfl
  replace hM0_0_1 := hM0_0_1.step s106 rfl
  replace HF := HF.step s106 rfl
  refine WL.nil <|
   WC.seq <|
   WC.region <|
   E rfl (mv (ii a1) rfl) <|
   E rfl (sg (ii a1) rfl) <|
   WL.nil <|
   WC.ret ?_
  obtain rfl := Option.some.inj H
  exact ⟨_, (.tmp (ii a1 : Value) rfl .nil), _, pA0_1, pc0_1, rfl, HF.out, hB107, hla0_1, hra0_1⟩

/-! ### syntax_reader_node -/
set_option maxRecDepth 100000 in
theorem syntax_reader_node.calls (k : Nat) (o0 : Tags) (w0 : World) (pb0 : Nat) (pA0_1 : Option Addr) (pc0_1 : Nat) (pb0_0 : Nat) (pv0_0_0 : Value) (pb0_0_1 : Nat) (a0 : T_syntax_reader) (a1 : Int) (a2 : List UInt8) (a3 : Int) (a4 : Int) (a0_0 : T_formula_Table) (a0_0_1 : (List (T_api_Node × Int))) (r : Int × T_syntax_reader × T_formula_Table × (List (T_api_Node × Int))) (hO : ∀ b, b < w0.heap.size → o0 b < 40) (hB0 : Bk o0 w0 2 pb0 [pp pb0_0 0, .slice pA0_1 a0.f_l.length pc0_1, ii a0.f_i, ii a0.f_names, ii a0.f_nest, .bool a0.f_counts, .bool a0.f_full] 55) (hra0_1 : Row T_api_Token.rep (fun b_ => o0 b_ = 0) (fun b_ => o0 b_ = 0) w0 pA0_1 a0.f_l) (hla0_1 : a0.f_l.length ≤ pc0_1) (hB0_0 : Bk o0 w0 3 pb0_0 [pv0_0_0, .map (some pb0_0_1)] 28) (hO0_0_0 : Own T_api_Node.rep 61 4 o0 w0 pv0_0_0 a0_0.f_rows) (hM0_0_1 : Mp (fun x_ : T_api_Node => Value.agg #[ii x_.f_Kind, encS x_.f_Name, ii x_.f_L, ii x_.f_R]) (fun v_ : Int => ii v_) 5 o0 w0 pb0_0_1 a0_0_1) (H : syntax_reader_node.f k a0 a1 a2 a3 a4 a0_0 a0_0_1 = some r) :
  Calls Tryd.prog 33 [pp pb0 0, ii a1, encS a2, ii a3, ii a4].toArray w0 fun e_ w_ => ∃ (o_ : Tags) (B_0_1 : Option Addr) (d_0_1 : Nat) (u5_0 : Value), e_ = .returned (one [ii r.1]) ∧ Step o0 w0 o_ w_ [2, 3, 4, 5] ∧ Bk o_ w_ 2 pb0 [pp pb0_0 0, .slice B_0_1 r.2.1.f_l.length d_0_1, ii r.2.1.f_i, ii r.2.1.f_names, ii r.2.1.f_nest, .bool r.2.1.f_counts, .bool r.2.1.f_full] 55 ∧ r.2.1.f_l.length ≤ d_0_1 ∧ Row T_api_Token.rep (fun b_ => o_ b_ = 0) (fun b_ => o_ b_ = 0) w_ B_0_1 r.2.1.f_l ∧ Bk o_ w_ 3 pb0_0 [u5_0, .map (some pb0_0_1)] 28 ∧ Own T_api_Node.rep 61 4 o_ w_ u5_0 r.2.2.1.f_rows ∧ Mp (fun x_ : T_api_Node => Value.agg #[ii x_.f_Kind, encS x_.f_Name, ii x_.f_L, ii x_.f_R]) (fun v_ : Int => ii v_) 5 o_ w_ pb0_0_1 r.2.2.2 := by
 have HF := Fm.refl hO [2, 3, 4, 5]
 unfold syntax_reader_node.f at H
 refine SX.calls [pp pb0 0, ii a1, encS a2, ii a3, ii a4] Tryd.func33 rfl rfl ?_
 rw [Tryd.ntmps33]
 refine WC.seq <|
  WC.region <|
  E rfl (sg (ii 0) rfl) <|
  WL.nil <|
  WC.seq <|
  WC.seq <|
  WC.region <|
  E rfl (mv (pp pb0 0) rfl) <|
  E rfl (ex_nilCheck rfl) <|
  E rfl (ex_fieldAddr rfl U55 rfl sz4) <|
  E rfl (ex_load1 rfl U4 rfl (hB0.cell rfl)) <|
  WL.nil ?_
 rcases condE H with ⟨c101, H⟩ | ⟨c101, H⟩
 ·
  refine WC.cond_t (vb c101 rfl) <|
   WC.seq <|
   WC.region <|
   E rfl (sg (ii 0) rfl) <|
   WL.nil <|
   WC.ret ?_
  obtain rfl := Option.some.inj H
  exact ⟨_, (.tmp (ii 0 : Value) rfl .nil), _, pA0_1, pc0_1, pv0_0_0, rfl, HF.out, hB0, hla0_1, hra0_1, hB0_0, hO0_0_0, hM0_0_1⟩
 ·
  refine WC.cond_f (vb c101 rfl) <|
   WC.skip <|
   WC.seq <|
   WC.region <|
   E rfl (mv (pp pb0 0) rfl) <|
   E rfl (mv (pp pb0 0) rfl) <|
   E rfl (ex_nilCheck rfl) <|
   E rfl (ex_fieldAddr rfl U55 rfl sz23) <|
   E rfl (ex_load1 rfl U23 rfl (hB0.cell rfl)) <|
   E rfl (mv (ii a1) rfl) <|
   E rfl (mv (encS a2) rfl) <|
   E rfl (mv (ii a3) rfl) <|
   E rfl (mv (ii a4) rfl) <|
   E rfl (ex_build (cs := [ii a1, encS a2, ii a3, ii a4]) [(0, 1), (1, 1), (2, 1), (3, 1)] [(0, ii a1), (1, encS a2), (2, ii a3), (3, ii a4)] [ii 0, .string ⟨#[]⟩, ii 0, ii 0] U61 zr61 rfl (by kernel_rfl) (evs_cons rfl (evs_cons rfl (evs_cons rfl (evs_cons rfl rfl)))) rfl) ?_
  obtain ⟨z102, hz102, H⟩ := bindE H
  refine WL.op rfl <|
   OW.call [pp pb0_0 0, .agg #[ii a1, encS a2, ii a3, ii a4]] rfl Tryd.func47 (by kernel_rfl) (by kernel_rfl) (map_cons' rfl (map_cons' rfl rfl)) (formula_Table_Put.calls k _ _ pb0_0 pv0_0_0 pb0_0_1 a0_0 (⟨a1, a2, a3, a4⟩ : T_api_Node) a0_0_1 z102 (HF.ten (V := [0]) (L := [3, 4, 5]) rfl) (Bk.vw hB0_0 rfl) (Own.vw hO0_0_0 rfl rfl) (Mp.vw hM0_0_1 rfl) hz102) ?_
  rintro _ w103 ⟨o104, v107, rfl, s105, hB106, hO108, hM109⟩
  refine ⟨_, rfl, ?_⟩
  replace hB106 := Bk.unO (J := []) 0 hB106 s105 rfl rfl rfl
  replace hO108 := Own.unO (J := []) 1 hO108 s105 rfl rfl rfl
  replace hM109 := Mp.unO (J := []) 2 hM109 s105 rfl rfl rfl
  replace s105 := un_stepL (J := []) (L' := [3, 4, 5]) s105 rfl rfl
  replace hra0_1 := hra0_1.step s105 rfl
  replace hB0 := hB0.step s105 rfl
  replace HF := HF.step s105 rfl
  refine E rfl (ex_extract rfl rfl) <|
   E rfl (ex_extract rfl rfl) ?_
  obtain ⟨z110, hz110, H⟩ := bindE H
  refine WL.op rfl <|
   OW.call [pp pb0 0, ii z102.1, ii z102.2.1] rfl Tryd.func46 (by kernel_rfl) (by kernel_rfl) (map_cons' rfl (map_cons' rfl (map_cons' rfl rfl))) (syntax_reader_put.calls _ _ pb0 pA0_1 pc0_1 pb0_0 v107 pb0_0_1 a0 z102.1 z102.2.1 z102.2.2.1 z102.2.2.2 z110 (HF.ten (V := [0]) (L := [2, 3, 4, 5]) rfl) (Bk.vw hB0 rfl) (Row.vw hra0_1 rfl) hla0_1 (Bk.vw hB106 rfl) (Own.vw hO108 rfl rfl) (Mp.vw hM109 rfl) hz110) ?_
  rintro _ w111 ⟨o112, A115, c116, rfl, s113, hB114, hl117, hr118⟩
  refine ⟨_, rfl, ?_⟩
  replace hB114 := Bk.unO (J := []) 0 hB114 s113 rfl rfl rfl
  replace hr118 := hr118.un (J := []) s113
  replace s113 := un_stepL (J := []) (L' := [2]) s113 rfl rfl
  replace hra0_1 := hra0_1.step s113 rfl
  replace hB106 := hB106.step s113 rfl
  replace hO108 := hO108.step s113 rfl rfl
  replace hM109 := hM109.step s113 rfl
  replace HF := HF.step s113 rfl
  refine E rfl (sg (ii z110.1) rfl) <|
   WL.nil <|
   WC.ret ?_
  obtain rfl := Option.some.inj H
  exact ⟨_, (.tmp (ii z110.1 : Value) rfl .nil), _, A115, c116, v107, rfl, HF.out, hB114, hl117, hr118, hB106, hO108, hM109⟩
end Go.Proofs.YtpmkkhkphddfeaaDoor.X
