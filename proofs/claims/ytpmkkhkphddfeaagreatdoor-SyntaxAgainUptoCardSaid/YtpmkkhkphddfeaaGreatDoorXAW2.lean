import Derived.Test.YtpmkkhkphddfeaaGreatDoorXAW1
set_option maxRecDepth 20000
set_option linter.unusedVariables false
set_option linter.unusedSimpArgs false
set_option linter.unnecessarySimpa false
namespace Go.Proofs.YtpmkkhkphddfeaaGreatDoor.X
open Go Go.RowKit Go.Proofs.YtpmkkhkphddfeaaGreatDoor.SX
/-! ### syntax_Parse_1 -/
set_option maxRecDepth 100000 in
theorem syntax_Parse_1.calls (k : Nat) (o0 : Tags) (w0 : World) (pb0 : Nat) (pb1 : Nat) (pb2 : Nat) (pb0_0 : Nat) (pA0_0_1 : Option Addr) (pc0_0_1 : Nat) (pb0_0_0 : Nat) (pv0_0_0_0 : Value) (pb0_0_0_1 : Nat) {a1 : Int} {a2 : T_api_Fault} {a0_0 : T_syntax_reader} {a0_0_0 : T_formula_Table} {a0_0_0_1 : (List (T_api_Node × Int))} {r : Exn (T_syntax_broken × Int × T_syntax_reader × T_formula_Table × (List (T_api_Node × Int))) (Int × T_syntax_reader × T_formula_Table × (List (T_api_Node × Int)))} (H : syntax_Parse_1.f k a1 a2 a0_0 a0_0_0 a0_0_0_1 = some r) (hO : ∀ b, b < w0.heap.size → o0 b < 40) (hB0 : Bk o0 w0 2 pb0 [pp pb0_0 0] 78) (hB1 : Bk o0 w0 3 pb1 [ii a1] 3) (hB2 : Bk o0 w0 4 pb2 [ii a2.f_Code, ii a2.f_At.f_Line, ii a2.f_At.f_Col, ii a2.f_At.f_Off] 36) (hB0_0 : Bk o0 w0 5 pb0_0 [pp pb0_0_0 0, .slice pA0_0_1 a0_0.f_l.length pc0_0_1, ii a0_0.f_i, ii a0_0.f_names, ii a0_0.f_nest, .bool a0_0.f_counts, .bool a0_0.f_full] 80) (hra0_0_1 : Row T_api_Token.rep (fun b_ => o0 b_ = 0) (fun b_ => o0 b_ = 0) w0 pA0_0_1 a0_0.f_l) (hla0_0_1 : a0_0.f_l.length ≤ pc0_0_1) (hB0_0_0 : Bk o0 w0 6 pb0_0_0 [pv0_0_0_0, .map (some pb0_0_0_1)] 56) (hO0_0_0_0 : Own T_api_Node.rep 60 7 o0 w0 pv0_0_0_0 a0_0_0.f_rows) (hM0_0_0_1 : Mp (fun x_ : T_api_Node => Value.agg #[ii x_.f_Kind, encS x_.f_Name, ii x_.f_L, ii x_.f_R]) (fun v_ : Int => ii v_) 8 o0 w0 pb0_0_0_1 a0_0_0_1) :
  Calls Tryz.prog 31 [pp pb0 0, pp pb1 0, pp pb2 0].toArray w0 fun e_ w_ => ∃ (o_ : Tags), ((∃ p_, r = .ex p_ ∧ ∃ (B_3_1 : Option Addr) (d_3_1 : Nat) (u4_0 : Value), e_ = .panicked (pc (.iface 111 (.agg #[ii p_.1.f_f.f_Code, ii p_.1.f_f.f_At.f_Line, ii p_.1.f_f.f_At.f_Col, ii p_.1.f_f.f_At.f_Off]))) ∧ Step o0 w0 o_ w_ [3, 5, 6, 7, 8] ∧ Bk o_ w_ 3 pb1 [ii p_.2.1] 3 ∧ Bk o_ w_ 5 pb0_0 [pp pb0_0_0 0, .slice B_3_1 p_.2.2.1.f_l.length d_3_1, ii p_.2.2.1.f_i, ii p_.2.2.1.f_names, ii p_.2.2.1.f_nest, .bool p_.2.2.1.f_counts, .bool p_.2.2.1.f_full] 80 ∧ p_.2.2.1.f_l.length ≤ d_3_1 ∧ Row T_api_Token.rep (fun b_ => o_ b_ = 0) (fun b_ => o_ b_ = 0) w_ B_3_1 p_.2.2.1.f_l ∧ Bk o_ w_ 6 pb0_0_0 [u4_0, .map (some pb0_0_0_1)] 56 ∧ Own T_api_Node.rep 60 7 o_ w_ u4_0 p_.2.2.2.1.f_rows ∧ Mp (fun x_ : T_api_Node => Value.agg #[ii x_.f_Kind, encS x_.f_Name, ii x_.f_L, ii x_.f_R]) (fun v_ : Int => ii v_) 8 o_ w_ pb0_0_0_1 p_.2.2.2.2) ∨ ∃ q_, r = .ok q_ ∧ ∃ (B_3_1 : Option Addr) (d_3_1 : Nat) (u4_0 : Value), e_ = .returned (one []) ∧ Step o0 w0 o_ w_ [3, 5, 6, 7, 8] ∧ Bk o_ w_ 3 pb1 [ii q_.1] 3 ∧ Bk o_ w_ 5 pb0_0 [pp pb0_0_0 0, .slice B_3_1 q_.2.1.f_l.length d_3_1, ii q_.2.1.f_i, ii q_.2.1.f_names, ii q_.2.1.f_nest, .bool q_.2.1.f_counts, .bool q_.2.1.f_full] 80 ∧ q_.2.1.f_l.length ≤ d_3_1 ∧ Row T_api_Token.rep (fun b_ => o_ b_ = 0) (fun b_ => o_ b_ = 0) w_ B_3_1 q_.2.1.f_l ∧ Bk o_ w_ 6 pb0_0_0 [u4_0, .map (some pb0_0_0_1)] 56 ∧ Own T_api_Node.rep 60 7 o_ w_ u4_0 q_.2.2.1.f_rows ∧ Mp (fun x_ : T_api_Node => Value.agg #[ii x_.f_Kind, encS x_.f_Name, ii x_.f_L, ii x_.f_R]) (fun v_ : Int => ii v_) 8 o_ w_ pb0_0_0_1 q_.2.2.2) := by
 have HF := Fm.refl hO [3, 5, 6, 7, 8]
 unfold syntax_Parse_1.f at H
 refine SX.calls [pp pb0 0, pp pb1 0, pp pb2 0] Tryz.func31 rfl rfl ?_
 rw [Tryz.ntmps31]
 refine WC.seq <|
  WC.region <|
  E rfl (ex_load1 rfl U78 rfl (hB0.cell rfl)) ?_
 obtain ⟨z101, hz101, H⟩ := bindE H
 refine WL.op rfl <|
  OW.callP [pp pb0_0 0] rfl Tryz.func32 (by kernel_rfl) (by kernel_rfl) (map_cons' rfl rfl) (syntax_reader_formula.calls k _ _ pb0_0 pA0_0_1 pc0_0_1 pb0_0_0 pv0_0_0_0 pb0_0_0_1 (a0 := a0_0) (a0_0 := a0_0_0) hz101 (HF.ten (V := [0]) (L := [5, 6, 7, 8]) rfl) (Bk.vw hB0_0 rfl) (Row.vw hra0_0_1 rfl) hla0_0_1 (Bk.vw hB0_0_0 rfl) (Own.vw hO0_0_0_0 rfl rfl) (Mp.vw hM0_0_0_1 rfl)) ?_
 rintro _ w102 ⟨o103, (⟨p104, rfl, A109, c110, v114, rfl, s106, hB108, hl111, hr112, hB113, hO115, hM116⟩ | ⟨q105, rfl, A118, c119, v123, rfl, s107, hB117, hl120, hr121, hB122, hO124, hM125⟩)⟩
 ·
  refine Or.inr ⟨_, rfl, ?_⟩
  dsimp only at H
  replace hB108 := Bk.unO (J := []) 0 hB108 s106 rfl rfl rfl
  replace hr112 := hr112.un (J := []) s106
  replace hB113 := Bk.unO (J := []) 1 hB113 s106 rfl rfl rfl
  replace hO115 := Own.unO (J := []) 2 hO115 s106 rfl rfl rfl
  replace hM116 := Mp.unO (J := []) 3 hM116 s106 rfl rfl rfl
  replace s106 := un_stepL (J := []) (L' := [5, 6, 7, 8]) s106 rfl rfl
  obtain rfl := Option.some.inj H
  replace hB1 := hB1.step s106 rfl
  replace HF := HF.step s106 rfl
  exact ⟨_, Or.inl ⟨_, rfl, A109, c110, v114, rfl, HF.out, hB1, hB108, hl111, hr112, hB113, hO115, hM116⟩⟩
 ·
  refine Or.inl ⟨_, rfl, ?_⟩
  dsimp only at H
  replace hB117 := Bk.unO (J := []) 0 hB117 s107 rfl rfl rfl
  replace hr121 := hr121.un (J := []) s107
  replace hB122 := Bk.unO (J := []) 1 hB122 s107 rfl rfl rfl
  replace hO124 := Own.unO (J := []) 2 hO124 s107 rfl rfl rfl
  replace hM125 := Mp.unO (J := []) 3 hM125 s107 rfl rfl rfl
  replace s107 := un_stepL (J := []) (L' := [5, 6, 7, 8]) s107 rfl rfl
  refine WL.op rfl ?_
  replace hB1 := hB1.step s107 rfl
  refine OW.storeW rfl rfl sz3 hB1 rfl (oa rfl) ?_
  intro w126 s127 hB128
  refine WL.nil ?_
  obtain ⟨z130, hz130, H⟩ := bindE H
  refine WC.cut (fun ρ_ w_ => ∃ (o_ : Tags), Fm o0 w0 o_ w_ [3, 5, 6, 7, 8] ∧ Bk o_ w_ 2 pb0 [pp pb0_0 0] 78 ∧ Bk o_ w_ 3 pb1 [ii q105.1] 3 ∧ Bk o_ w_ 4 pb2 [ii a2.f_Code, ii a2.f_At.f_Line, ii a2.f_At.f_Col, ii a2.f_At.f_Off] 36 ∧ Bk o_ w_ 5 pb0_0 [pp pb0_0_0 0, .slice A118 q105.2.1.f_l.length c119, ii q105.2.1.f_i, ii q105.2.1.f_names, ii q105.2.1.f_nest, .bool q105.2.1.f_counts, .bool q105.2.1.f_full] 80 ∧ Row T_api_Token.rep (fun b_ => o_ b_ = 0) (fun b_ => o_ b_ = 0) w_ A118 q105.2.1.f_l ∧ Bk o_ w_ 6 pb0_0_0 [v123, .map (some pb0_0_0_1)] 56 ∧ Own T_api_Node.rep 60 7 o_ w_ v123 q105.2.2.1.f_rows ∧ Mp (fun x_ : T_api_Node => Value.agg #[ii x_.f_Kind, encS x_.f_Name, ii x_.f_L, ii x_.f_R]) (fun v_ : Int => ii v_) 8 o_ w_ pb0_0_0_1 q105.2.2.2 ∧ ρ_ 0 = pp pb0 0 ∧ ρ_ 13 = .bool z130) ?case131 ?_
  case case131 =>
   rintro ρ134 w132 ⟨o133, HF, hB0, hB128, hB2, hB117, hr121, hB122, hO124, hM125, s0_128, s13_129⟩
   rcases condE H with ⟨c135, H⟩ | ⟨c135, H⟩
   ·
    refine WC.cond_t (vb c135 s13_129) <|
     WC.region <|
     E rfl (ex_load1 s0_128 U78 rfl (hB0.cell rfl)) ?_
    obtain ⟨z136, hz136, H⟩ := bindE H
    refine WL.op rfl <|
     OW.callP [pp pb0_0 0, ii 41] rfl Tryz.func34 (by kernel_rfl) (by kernel_rfl) (map_cons' rfl (map_cons' rfl rfl)) (syntax_reader_fail.calls _ _ pb0_0 A118 c119 pb0_0_0 v123 pb0_0_0_1 (a0 := q105.2.1) (a0_0 := q105.2.2.1) hz136 (HF.ten (V := [0]) (L := [5, 6, 7, 8]) rfl) (Bk.vw hB117 rfl) (Row.vw hr121 rfl) hl120 (Bk.vw hB122 rfl) (Own.vw hO124 rfl rfl) (Mp.vw hM125 rfl)) ?_
    rintro _ w137 ⟨o138, (⟨p139, rfl, rfl, s141⟩ | ⟨q140, rfl, rfl, s142⟩)⟩
    ·
     refine Or.inr ⟨_, rfl, ?_⟩
     dsimp only at H
     replace s141 := un_stepL (J := []) (L' := []) s141 rfl rfl
     obtain rfl := Option.some.inj H
     replace hB128 := hB128.step s141 rfl
     replace hB117 := hB117.step s141 rfl
     replace hr121 := hr121.step s141 rfl
     replace hB122 := hB122.step s141 rfl
     replace hO124 := hO124.step s141 rfl rfl
     replace hM125 := hM125.step s141 rfl
     replace HF := HF.step s141 rfl
     exact ⟨_, Or.inl ⟨_, rfl, A118, c119, v123, rfl, HF.out, hB128, hB117, hl120, hr121, hB122, hO124, hM125⟩⟩
    ·
     refine Or.inl ⟨_, rfl, ?_⟩
     dsimp only at H
     replace s142 := un_stepL (J := []) (L' := []) s142 rfl rfl
     refine WL.nil ?_
     obtain rfl := Option.some.inj H
     replace hB128 := hB128.step s142 rfl
     replace hB117 := hB117.step s142 rfl
     replace hr121 := hr121.step s142 rfl
     replace hB122 := hB122.step s142 rfl
     replace hO124 := hO124.step s142 rfl rfl
     replace hM125 := hM125.step s142 rfl
     replace HF := HF.step s142 rfl
     exact ⟨_, .nil, _, Or.inr ⟨_, rfl, A118, c119, v123, rfl, HF.out, hB128, hB117, hl120, hr121, hB122, hO124, hM125⟩⟩
   ·
    refine WC.cond_f (vb c135 s13_129) <|
     WC.skip ?_
    obtain rfl := Option.some.inj H
    exact ⟨_, .nil, _, Or.inr ⟨_, rfl, A118, c119, v123, rfl, HF.out, hB128, hB117, hl120, hr121, hB122, hO124, hM125⟩⟩
  have Ho143 := H
  replace H := hz130
  refine WC.region ?_
  have k107_127 := s107.t s127
  replace hB0 := hB0.step k107_127 rfl
  refine E rfl (ex_load1 rfl U78 rfl (hB0.cell rfl)) ?_
  obtain ⟨z144, hz144, H⟩ := bindE H
  refine WL.op rfl ?_
  replace hB117 := hB117.step s127 rfl
  replace hr121 := hr121.step s127 rfl
  replace hB122 := hB122.step s127 rfl
  replace hO124 := hO124.step s127 rfl rfl
  replace hM125 := hM125.step s127 rfl
  replace HF := HF.step k107_127 rfl
  refine OW.call [pp pb0_0 0] rfl Tryz.func33 (by kernel_rfl) (by kernel_rfl) (map_cons' rfl rfl) (syntax_reader_now.calls _ _ pb0_0 A118 c119 pb0_0_0 v123 pb0_0_0_1 (a0 := q105.2.1) (a0_0 := q105.2.2.1) hz144 (HF.ten (V := [0]) (L := [5, 6, 7, 8]) rfl) (Bk.vw hB117 rfl) (Row.vw hr121 rfl) hl120 (Bk.vw hB122 rfl) (Own.vw hO124 rfl rfl) (Mp.vw hM125 rfl)) ?_
  rintro _ w145 ⟨o146, rfl, s147⟩
  refine ⟨_, rfl, ?_⟩
  replace s147 := un_stepL (J := []) (L' := []) s147 rfl rfl
  refine E rfl (ex_field1 rfl U76 rfl U74 rfl rfl) <|
   E rfl (e2 bin_neq rfl rfl) <|
   E rfl (mv (.bool (z144.f_Kind != 0)) rfl) ?_
  rcases condE H with ⟨c148, H⟩ | ⟨c148, H⟩
  ·
   refine WL.guardNo rfl rfl rfl (vb c148 rfl) <|
    WL.guardNo rfl rfl rfl (vb c148 rfl) <|
    WL.guardNo rfl rfl rfl (vb c148 rfl) <|
    E rfl (ex_pick_t (v := .bool true) (vb c148 rfl) rfl) <|
    WL.nil ?_
   obtain rfl := Option.some.inj H
   replace hB0 := hB0.step s147 rfl
   replace hB117 := hB117.step s147 rfl
   replace hr121 := hr121.step s147 rfl
   replace hB122 := hB122.step s147 rfl
   replace hO124 := hO124.step s147 rfl rfl
   replace hM125 := hM125.step s147 rfl
   replace hB128 := hB128.step s147 rfl
   replace HF := HF.step s147 rfl
   have k107_147 := k107_127.t s147
   replace hB2 := hB2.step k107_147 rfl
   exact ⟨_, HF, hB0, hB128, hB2, hB117, hr121, hB122, hO124, hM125, rfl, rfl⟩
  ·
   refine WL.guardYes rfl rfl rfl (vb c148 rfl) <|
    OW.ex rfl (ex_fieldAddr rfl U36 rfl sz28) <|
    WL.guardYes rfl rfl rfl (vb c148 rfl) ?_
   have k107_147 := k107_127.t s147
   replace hB2 := hB2.step k107_147 rfl
   refine OW.ex rfl (ex_load1 rfl U28 rfl (hB2.cell rfl)) <|
    WL.guardYes rfl rfl rfl (vb c148 rfl) <|
    OW.ex rfl (e2 bin_neq rfl rfl) <|
    E rfl (ex_pick_f (v := .bool (a2.f_Code != 0)) (vb c148 rfl) rfl) <|
    WL.nil ?_
   obtain rfl := Option.some.inj H
   replace hB0 := hB0.step s147 rfl
   replace hB117 := hB117.step s147 rfl
   replace hr121 := hr121.step s147 rfl
   replace hB122 := hB122.step s147 rfl
   replace hO124 := hO124.step s147 rfl rfl
   replace hM125 := hM125.step s147 rfl
   replace hB128 := hB128.step s147 rfl
   replace HF := HF.step s147 rfl
   exact ⟨_, HF, hB0, hB128, hB2, hB117, hr121, hB122, hO124, hM125, rfl, rfl⟩

/-! ### formula_Table_Cut -/
set_option maxRecDepth 100000 in
theorem formula_Table_Cut.calls (k : Nat) (o0 : Tags) (w0 : World) (pb0 : Nat) (pv0_0 : Value) (pb0_1 : Nat) {a0 : T_formula_Table} {a1 : Int} {a0_1 : (List (T_api_Node × Int))} {r : Int × T_formula_Table × (List (T_api_Node × Int))} (H : formula_Table_Cut.f k a0 a1 a0_1 = some r) (hO : ∀ b, b < w0.heap.size → o0 b < 40) (hB0 : Bk o0 w0 2 pb0 [pv0_0, .map (some pb0_1)] 56) (hO0_0 : Own T_api_Node.rep 60 3 o0 w0 pv0_0 a0.f_rows) (hM0_1 : Mp (fun x_ : T_api_Node => Value.agg #[ii x_.f_Kind, encS x_.f_Name, ii x_.f_L, ii x_.f_R]) (fun v_ : Int => ii v_) 4 o0 w0 pb0_1 a0_1) :
  Calls Tryz.prog 56 [pp pb0 0, ii a1].toArray w0 fun e_ w_ => ∃ (o_ : Tags) (u0_0 : Value), e_ = .returned (one [ii r.1]) ∧ Step o0 w0 o_ w_ [2, 3, 4] ∧ Bk o_ w_ 2 pb0 [u0_0, .map (some pb0_1)] 56 ∧ Own T_api_Node.rep 60 3 o_ w_ u0_0 r.2.1.f_rows ∧ Mp (fun x_ : T_api_Node => Value.agg #[ii x_.f_Kind, encS x_.f_Name, ii x_.f_L, ii x_.f_R]) (fun v_ : Int => ii v_) 4 o_ w_ pb0_1 r.2.2 := by
 have HF := Fm.refl hO [2, 3, 4]
 unfold formula_Table_Cut.f at H
 refine SX.calls [pp pb0 0, ii a1] Tryz.func56 rfl rfl ?_
 rw [Tryz.ntmps56]
 refine WC.seq <|
  WC.region <|
  E rfl (sg (ii 0) rfl) <|
  WL.nil <|
  WC.seq <|
  WC.block <|
  WC.seq <|
  WC.region <|
  E rfl (mv (pp pb0 0) rfl) ?_
 obtain ⟨z101, hz101, H⟩ := bindE H
 refine WL.op rfl <|
  OW.call [pp pb0 0] rfl Tryz.func22 (by kernel_rfl) (by kernel_rfl) (map_cons' rfl rfl) (formula_Table_alive.calls _ _ pb0 pv0_0 pb0_1 (a0 := a0) hz101 (HF.ten (V := [0]) (L := [2, 3, 4]) rfl) (Bk.vw hB0 rfl) (Own.vw hO0_0 rfl rfl) (Mp.vw hM0_1 rfl)) ?_
 obtain rfl := Option.some.inj (show some true = some z101 from hz101)
 rintro _ w102 ⟨o103, rfl, s104⟩
 refine ⟨_, rfl, ?_⟩
 replace s104 := un_stepL (J := []) (L' := []) s104 rfl rfl
 refine E rfl (ex_not (b := true) rfl) <|
  E rfl (sg (.bool false) rfl) <|
  WL.nil <|
  WC.cond_f rfl ?_
 obtain ⟨z106, hz106, H⟩ := bindE H
 refine WC.cut (fun ρ_ w_ => ∃ (o_ : Tags), Fm o0 w0 o_ w_ [2, 3, 4] ∧ Bk o_ w_ 2 pb0 [pv0_0, .map (some pb0_1)] 56 ∧ Own T_api_Node.rep 60 3 o_ w_ pv0_0 a0.f_rows ∧ Mp (fun x_ : T_api_Node => Value.agg #[ii x_.f_Kind, encS x_.f_Name, ii x_.f_L, ii x_.f_R]) (fun v_ : Int => ii v_) 4 o_ w_ pb0_1 a0_1 ∧ ρ_ 0 = pp pb0 0 ∧ ρ_ 1 = ii a1 ∧ ρ_ 4 = ii 0 ∧ ρ_ 11 = .bool z106) ?case107 ?_
 case case107 =>
  rintro ρ110 w108 ⟨o109, HF, hB0, hO0_0, hM0_1, s0_104, s1_104, s4_104, s11_105⟩
  rcases condE H with ⟨c111, H⟩ | ⟨c111, H⟩
  ·
   refine WC.cond_t (vb c111 s11_105) <|
    WC.seq <|
    WC.region <|
    E rfl (sg (ii 2) rfl) <|
    WL.nil <|
    WC.ret ?_
   obtain rfl := Option.some.inj H
   exact ⟨_, (.tmp _ rfl .nil), _, pv0_0, rfl, HF.out, hB0, hO0_0, hM0_1⟩
  ·
   refine WC.cond_f (vb c111 s11_105) <|
    WC.skip <|
    WC.seq <|
    WC.seq <|
    WC.region <|
    E rfl (mv (pp pb0 0) s0_104) <|
    E rfl (ex_nilCheck rfl) <|
    E rfl (ex_fieldAddr rfl U56 rfl sz22) <|
    E rfl (ex_load1 rfl U22 rfl (hB0.cell rfl)) <|
    E rfl (mv (ii a1) s1_104) ?_
   obtain ⟨A112, c113, q114, hl115, hr116⟩ := hO0_0.row
   obtain ⟨y117, hy117, H⟩ := bindE H
   have hr119 := Row.cut hr116 hl115 hy117
   obtain ⟨A120, el123⟩ : ∃ A_, A_ = subA A112 c113 (a1 : Int).toNat 4 := ⟨_, rfl⟩
   rw [show subA A112 c113 (a1 : Int).toNat T_api_Node.rep.sz = A120 from el123.symm] at hr119
   have hl122 : y117.length ≤ c113 - (a1 : Int).toNat := cut_le hl115 hy117
   refine E rfl (ex_slice' (l := a1) (h := (a0.f_rows.length : Int)) ((show _ = (pv0_0 : Value) from rfl).trans q114) U22 sz60 ⟨_, rfl⟩ rfl (cut_low hy117) (cut_mid hy117) (cut_cap hl115 hy117) el123 (cut_len hy117)) <|
    E rfl (ex_len_slice (A := A120) (m := y117.length) (c := (c113 - (a1 : Int).toNat)) rfl U22) <|
    E rfl (mv (ii 0) rfl) <|
    WL.nil ?_
   obtain ⟨z127, hz127, H⟩ := bindE H
   refine WC.for (fun k_ ρ_ w_ => ∃ (o_ : Tags) (x124 : Int) (x125 : (List (T_api_Node × Int))), Fm o0 w0 o_ w_ [2, 3, 4] ∧ Row T_api_Node.rep (fun b_ => o_ b_ = 3) (fun b_ => o_ b_ = 0) w_ A120 y117 ∧ Bk o_ w_ 2 pb0 [pv0_0, .map (some pb0_1)] 56 ∧ Own T_api_Node.rep 60 3 o_ w_ pv0_0 a0.f_rows ∧ Mp (fun x_ : T_api_Node => Value.agg #[ii x_.f_Kind, encS x_.f_Name, ii x_.f_L, ii x_.f_R]) (fun v_ : Int => ii v_) 4 o_ w_ pb0_1 x125 ∧ ρ_ 0 = pp pb0 0 ∧ ρ_ 1 = ii a1 ∧ ρ_ 4 = ii 0 ∧ ρ_ 28 = .slice A120 y117.length (c113 - (a1 : Int).toNat) ∧ ρ_ 29 = ii (y117.length : Int) ∧ ρ_ 30 = ii x124 ∧ formula_Table_Cut.l1 k y117 k_ x124 x125 = some z127) k (fun ρ_ w_ => ∃ (o_ : Tags), Fm o0 w0 o_ w_ [2, 3, 4] ∧ Bk o_ w_ 2 pb0 [pv0_0, .map (some pb0_1)] 56 ∧ Own T_api_Node.rep 60 3 o_ w_ pv0_0 a0.f_rows ∧ Mp (fun x_ : T_api_Node => Value.agg #[ii x_.f_Kind, encS x_.f_Name, ii x_.f_L, ii x_.f_R]) (fun v_ : Int => ii v_) 4 o_ w_ pb0_1 z127 ∧ ρ_ 0 = pp pb0 0 ∧ ρ_ 1 = ii a1 ∧ ρ_ 4 = ii 0) ⟨_, 0, a0_1, HF, hr119, hB0, hO0_0, hM0_1, s0_104, s1_104, s4_104, rfl, rfl, rfl, hz127⟩ ?case128 ?_
   case case128 =>
    rintro ρ158 w159 ⟨o160, HF, hB0, hO0_0, hM0_1, s0_125, s1_125, s4_125⟩
    refine WC.seq <|
     WC.region <|
     E rfl (mv (pp pb0 0) s0_125) <|
     E rfl (mv (pp pb0 0) s0_125) <|
     E rfl (ex_nilCheck rfl) <|
     E rfl (ex_fieldAddr rfl U56 rfl sz22) <|
     E rfl (ex_load1 rfl U22 rfl (hB0.cell rfl)) <|
     E rfl (mv (ii a1) s1_125) ?_
    obtain ⟨y161, hy161, H⟩ := bindE H
    obtain ⟨A163, c164, q165, hl166, hO167⟩ := Own.take hO0_0 (cut_pos hy161) (cut_high hy161)
    obtain ⟨v168, e169⟩ : ∃ v_, v_ = Value.slice A163 (a1 : Int).toNat c164 := ⟨_, rfl⟩
    rw [← e169, cut_take hy161] at hO167
    refine E rfl (ex_take (h := a1) ((show _ = (pv0_0 : Value) from rfl).trans q165) U22 sz60 ⟨_, rfl⟩ (cut_pos hy161) (Int.le_trans (cut_high hy161) (Int.ofNat_le.2 hl166)) e169) <|
     E rfl (ex_nilCheck rfl) <|
     E rfl (ex_fieldAddr rfl U56 rfl sz22) <|
     WL.op rfl <|
     OW.store [v168, .map (some pb0_1)] rfl (vs := [v168]) ((congrArg Value.cells (show ev _ _ = (v168 : Value) from rfl)).trans (Own.cells1 hO167)) sz22 hB0 (Nat.le_of_ble_eq_true rfl) (by intro u_ hu_; simp only [List.mem_cons, List.not_mem_nil, or_false] at hu_; rcases hu_ with rfl; first | rfl | exact Own.oneCell hO167) rfl ?_
    intro w170 s171 hB172
    refine WL.nil <|
     WC.seq <|
     WC.region <|
     E rfl (sg (ii 0) rfl) <|
     WL.nil <|
     WC.ret ?_
    obtain rfl := Option.some.inj H
    replace hM0_1 := hM0_1.step s171 rfl
    replace hO167 := hO167.step s171 rfl rfl
    replace HF := HF.step s171 rfl
    exact ⟨_, (.tmp _ rfl .nil), _, v168, rfl, HF.out, hB172, hO167, hM0_1⟩
   have Ho129 := H
   rintro k130 ρ131 w132 ⟨o133, x124, x125, HF, hr119, hB0, hO0_0, hM0_1, s0_123, s1_123, s4_123, s28_123, s29_123, s30_124, H⟩
   cases k130 with
   | zero => cases H
   | succ k130 =>
   rw [formula_Table_Cut.l1.eq_2] at H
   refine WC.seq <|
    WC.region <|
    E rfl (e2 bin_lss s30_124 s29_123) <|
    WL.nil <|
    WC.seq ?_
   rcases condE H with ⟨c134, H⟩ | ⟨c134, H⟩
   ·
    refine WC.cond_t (vb c134 rfl) <|
     WC.skip <|
     WC.seq <|
     WC.block <|
     WC.seq <|
     WC.region ?_
    obtain ⟨x135, hx135, H⟩ := bindE H
    obtain ⟨ad136, cc140, e137, g138, g139, hl141, hR142, cell143⟩ := Row.ix hr119 hx135
    obtain rfl := T_api_Node.opn hR142
    refine E rfl (ex_indexAddr (i := x124) s28_123 e137 s30_124 U22 sz60 g138 g139) <|
     E rfl (ex_loadN (cs := [ii x135.f_Kind, encS x135.f_Name, ii x135.f_L, ii x135.f_R]) rfl U60 rfl sz60 cell143) <|
     WL.op rfl <|
     OW.alloc' [ii (0 : Int), encS ([] : List UInt8), ii (0 : Int), ii (0 : Int)] 40 HF rfl zr60 rfl ?_
    intro o146 w147 b145 s148 hB149
    refine WL.op rfl <|
     OW.storeW rfl rfl sz60 hB149 rfl (oa rfl) ?_
    intro w150 s151 hB152
    refine WL.nil ?_
    have k148_151 := s148.t s151
    replace HF := HF.step k148_151 rfl
    refine WC.regionD' HF [4] 6 6 (by kernel_rfl) rfl ?_
    intro w153 s154
    have k148_154 := k148_151.t s154
    replace hB0 := hB0.step k148_154 rfl
    have hB0D := hB0
    replace hB152 := hB152.step s154 rfl
    have hB152D := hB152
    replace HF := HF.step s154 rfl
    have sR := HF.here [4]
    refine WA.seq [0, 1, 2, 3, 4] (lb 6 31) 1 (by kernel_rfl) rfl ⟨_, sR⟩ <|
     X1 rfl (fun w_ hS_ => ex_move (v := pp pb0 0) s0_123) <|
     X1 rfl (fun w_ hS_ => ex_nilCheck rfl) <|
     X1 rfl (fun w_ hS_ => ex_fieldAddr rfl U56 rfl sz54) <|
     X1 rfl (fun w_ hS_ => ex_load1 (v := .map (some pb0_1)) rfl U54 rfl ((hB0D.step hS_.choose_spec rfl).cell rfl)) <|
     X1 rfl (fun w_ hS_ => ex_loadN (cs := [ii x135.f_Kind, encS x135.f_Name, ii x135.f_L, ii x135.f_R]) rfl U60 rfl sz60 ((hB152D.step hS_.choose_spec rfl).cells rfl)) <|
     WA.one 5 (by kernel_rfl) rfl rfl ?_
    replace hM0_1 := hM0_1.step k148_154 rfl
    refine OW.delete (ek := (fun x_ : T_api_Node => Value.agg #[ii x_.f_Kind, encS x_.f_Name, ii x_.f_L, ii x_.f_R])) (ev := (fun v_ : Int => ii v_)) (eq := T_api_Node.eqb) (kx := x135) rfl rfl U54 key60 hM0_1 ?_
    intro w155 s156 hM157
    replace sR := Step.trans sR s156 (M := [4]) rfl rfl
    refine ⟨⟨_, sR⟩, ?_⟩
    refine WA.norm (listed' := lb 6 63) (by kernel_rfl) <|
     WA.done (by kernel_rfl) <|
     WC.region <|
     E rfl (e2 bin_add64 s30_124 rfl) <|
     E rfl (mv (ii (wrap64 (x124 + 1))) rfl) <|
     WL.nil ?_
    replace hB0 := hB0.step s156 rfl
    replace HF := HF.step s156 rfl
    have k148_156 := k148_154.t s156
    replace hr119 := hr119.stepB k148_156 rfl rfl
    replace hO0_0 := hO0_0.step k148_156 rfl rfl
    exact ⟨k130, Nat.lt_succ_self _, ⟨_, wrap64 (x124 + 1), (mdel T_api_Node.eqb x125 x135), HF, hr119, hB0, hO0_0, hM157, s0_123, s1_123, s4_123, s28_123, s29_123, rfl, H⟩⟩
   ·
    refine WC.cond_f (vb c134 rfl) <|
     WC.exit ?_
    obtain rfl := Option.some.inj H
    exact ⟨_, HF, hB0, hO0_0, hM0_1, s0_123, s1_123, s4_123⟩
 have Ho173 := H
 replace H := hz106
 refine WC.region <|
  E rfl (mv (ii a1) rfl) <|
  E rfl (e2 bin_lss rfl rfl) <|
  E rfl (mv (.bool (decide (a1 < 0))) rfl) ?_
 rcases condE H with ⟨c174, H⟩ | ⟨c174, H⟩
 ·
  refine WL.guardNo rfl rfl rfl (vb c174 rfl) <|
   WL.guardNo rfl rfl rfl (vb c174 rfl) <|
   WL.guardNo rfl rfl rfl (vb c174 rfl) <|
   WL.guardNo rfl rfl rfl (vb c174 rfl) <|
   WL.guardNo rfl rfl rfl (vb c174 rfl) <|
   WL.guardNo rfl rfl rfl (vb c174 rfl) <|
   WL.guardNo rfl rfl rfl (vb c174 rfl) <|
   E rfl (ex_pick_t (v := .bool true) (vb c174 rfl) rfl) <|
   E rfl (sg (.bool true) rfl) <|
   WL.nil ?_
  obtain rfl := Option.some.inj H
  replace hO0_0 := hO0_0.step s104 rfl rfl
  replace hB0 := hB0.step s104 rfl
  replace hM0_1 := hM0_1.step s104 rfl
  replace HF := HF.step s104 rfl
  exact ⟨_, HF, hB0, hO0_0, hM0_1, rfl, rfl, rfl, rfl⟩
 ·
  refine WL.guardYes rfl rfl rfl (vb c174 rfl) <|
   OW.ex rfl (mv (ii a1) rfl) <|
   WL.guardYes rfl rfl rfl (vb c174 rfl) <|
   OW.ex rfl (mv (pp pb0 0) rfl) <|
   WL.guardYes rfl rfl rfl (vb c174 rfl) <|
   OW.ex rfl (ex_nilCheck rfl) <|
   WL.guardYes rfl rfl rfl (vb c174 rfl) <|
   OW.ex rfl (ex_fieldAddr rfl U56 rfl sz22) <|
   WL.guardYes rfl rfl rfl (vb c174 rfl) ?_
  replace hB0 := hB0.step s104 rfl
  refine OW.ex rfl (ex_load1 rfl U22 rfl (hB0.cell rfl)) <|
   WL.guardYes rfl rfl rfl (vb c174 rfl) ?_
  replace hO0_0 := hO0_0.step s104 rfl rfl
  obtain ⟨A175, c176, q177⟩ := hO0_0.slice
  refine OW.ex rfl (ex_len_slice ((show _ = (pv0_0 : Value) from rfl).trans q177) U22) <|
   WL.guardYes rfl rfl rfl (vb c174 rfl) <|
   OW.ex rfl (e2 bin_gtr rfl rfl) <|
   E rfl (ex_pick_f (v := .bool (decide (a1 > (a0.f_rows.length : Int)))) (vb c174 rfl) rfl) <|
   E rfl (sg (.bool (decide (a1 > (a0.f_rows.length : Int)))) rfl) <|
   WL.nil ?_
  obtain rfl := Option.some.inj H
  replace hM0_1 := hM0_1.step s104 rfl
  replace HF := HF.step s104 rfl
  exact ⟨_, HF, hB0, hO0_0, hM0_1, rfl, rfl, rfl, rfl⟩

/-! ### syntax_reader_read_1_rec -/
set_option maxRecDepth 100000 in
theorem syntax_reader_read_1_rec.dcalls (k : Nat) (o0 : Tags) (w0 : World) (pb0 : Nat) (pb1 : Nat) (pb2 : Nat) (pb0_0 : Nat) (pA0_0_1 : Option Addr) (pc0_0_1 : Nat) (pb0_0_0 : Nat) (pv0_0_0_0 : Value) (pb0_0_0_1 : Nat) {a1 : Int} {a2 : T_api_Fault} {a0_0 : T_syntax_reader} {a0_0_0 : T_formula_Table} {a0_0_0_1 : (List (T_api_Node × Int))} {p0 : T_syntax_broken} {r : T_api_Fault × T_formula_Table × (List (T_api_Node × Int))} (H : syntax_reader_read_1_rec.f k a1 a2 a0_0 a0_0_0 a0_0_0_1 p0 = some r) (hO : ∀ b, b < w0.heap.size → o0 b < 40) (hB0 : Bk o0 w0 2 pb0 [pp pb0_0 0] 78) (hB1 : Bk o0 w0 3 pb1 [ii a1] 3) (hB2 : Bk o0 w0 4 pb2 [ii a2.f_Code, ii a2.f_At.f_Line, ii a2.f_At.f_Col, ii a2.f_At.f_Off] 36) (hB0_0 : Bk o0 w0 5 pb0_0 [pp pb0_0_0 0, .slice pA0_0_1 a0_0.f_l.length pc0_0_1, ii a0_0.f_i, ii a0_0.f_names, ii a0_0.f_nest, .bool a0_0.f_counts, .bool a0_0.f_full] 80) (hra0_0_1 : Row T_api_Token.rep (fun b_ => o0 b_ = 0) (fun b_ => o0 b_ = 0) w0 pA0_0_1 a0_0.f_l) (hla0_0_1 : a0_0.f_l.length ≤ pc0_0_1) (hB0_0_0 : Bk o0 w0 6 pb0_0_0 [pv0_0_0_0, .map (some pb0_0_0_1)] 56) (hO0_0_0_0 : Own T_api_Node.rep 60 7 o0 w0 pv0_0_0_0 a0_0_0.f_rows) (hM0_0_0_1 : Mp (fun x_ : T_api_Node => Value.agg #[ii x_.f_Kind, encS x_.f_Name, ii x_.f_L, ii x_.f_R]) (fun v_ : Int => ii v_) 8 o0 w0 pb0_0_0_1 a0_0_0_1) :
  DCalls Tryz.prog 55 [pp pb0 0, pp pb1 0, pp pb2 0].toArray (.panicking (pc (.iface 111 (.agg #[ii p0.f_f.f_Code, ii p0.f_f.f_At.f_Line, ii p0.f_f.f_At.f_Col, ii p0.f_f.f_At.f_Off])))) w0 fun e_ u_ w_ => u_ = recd (.iface 111 (.agg #[ii p0.f_f.f_Code, ii p0.f_f.f_At.f_Line, ii p0.f_f.f_At.f_Col, ii p0.f_f.f_At.f_Off])) ∧ ∃ (o_ : Tags) (u4_0 : Value), e_ = .returned (one []) ∧ Step o0 w0 o_ w_ [4, 6, 7, 8] ∧ Bk o_ w_ 4 pb2 [ii r.1.f_Code, ii r.1.f_At.f_Line, ii r.1.f_At.f_Col, ii r.1.f_At.f_Off] 36 ∧ Bk o_ w_ 6 pb0_0_0 [u4_0, .map (some pb0_0_0_1)] 56 ∧ Own T_api_Node.rep 60 7 o_ w_ u4_0 r.2.1.f_rows ∧ Mp (fun x_ : T_api_Node => Value.agg #[ii x_.f_Kind, encS x_.f_Name, ii x_.f_L, ii x_.f_R]) (fun v_ : Int => ii v_) 8 o_ w_ pb0_0_0_1 r.2.2 := by
 have HF := Fm.refl hO [4, 6, 7, 8]
 unfold syntax_reader_read_1_rec.f at H
 refine dcalls_rec (rv := .iface 111 (.agg #[ii p0.f_f.f_Code, ii p0.f_f.f_At.f_Line, ii p0.f_f.f_At.f_Col, ii p0.f_f.f_At.f_Off])) [pp pb0 0, pp pb1 0, pp pb2 0] Tryz.func55 rfl rfl rfl (.inr ⟨rfl, rfl⟩) ?_
 rw [Tryz.ntmps55]
 refine WC.block <|
  WC.seq <|
  WC.region <|
  E rfl (ex_errEql (b := true) rfl U20 isErr_if) <|
  WL.nil <|
  WC.cond_f rfl <|
  WC.seq <|
  WC.region <|
  E rfl (ex_typeAssertY (v := .agg #[ii p0.f_f.f_Code, ii p0.f_f.f_At.f_Line, ii p0.f_f.f_At.f_Col, ii p0.f_f.f_At.f_Off]) rfl U111 rfl) <|
  E rfl (ex_extract rfl rfl) <|
  E rfl (ex_extract rfl rfl) <|
  WL.nil <|
  WC.cond_t rfl <|
  WC.seq <|
  WC.region <|
  WL.op rfl <|
  OW.alloc' [ii (0 : Int), ii (0 : Int), ii (0 : Int), ii (0 : Int)] 40 HF rfl zr111 rfl ?_
 intro o102 w103 b101 s104 hB105
 refine WL.op rfl <|
  OW.storeW rfl rfl sz111 hB105 rfl (oa rfl) ?_
 intro w106 s107 hB108
 refine WL.nil <|
  WC.seq ?_
 have k104_107 := s104.t s107
 replace HF := HF.step k104_107 rfl
 refine WC.regionD' HF [6, 7, 8] 6 6 (by kernel_rfl) rfl ?_
 intro w109 s110
 have k104_110 := k104_107.t s110
 replace hB0 := hB0.step k104_110 rfl
 have hB0D := hB0
 replace hB1 := hB1.step k104_110 rfl
 have hB1D := hB1
 replace hB0_0 := hB0_0.step k104_110 rfl
 have hB0_0D := hB0_0
 replace HF := HF.step s110 rfl
 have sR := HF.here [6, 7, 8]
 refine WA.seq [0, 1, 2, 3, 4] (lb 6 31) 1 (by kernel_rfl) rfl ⟨_, sR⟩ <|
  X1 rfl (fun w_ hS_ => ex_load1 (v := pp pb0_0 0) rfl U78 rfl ((hB0D.step hS_.choose_spec rfl).cell rfl)) <|
  X1 rfl (fun w_ hS_ => ex_nilCheck rfl) <|
  X1 rfl (fun w_ hS_ => ex_fieldAddr rfl U80 rfl sz23) <|
  X1 rfl (fun w_ hS_ => ex_load1 (v := pp pb0_0_0 0) rfl U23 rfl ((hB0_0D.step hS_.choose_spec rfl).cell rfl)) <|
  X1 rfl (fun w_ hS_ => ex_load1 (v := ii a1) rfl U3 rfl ((hB1D.step hS_.choose_spec rfl).cell rfl)) ?_
 obtain ⟨z111, hz111, H⟩ := bindE H
 refine WA.one 5 (by kernel_rfl) rfl rfl ?_
 replace hO0_0_0_0 := hO0_0_0_0.step k104_110 rfl rfl
 replace hB0_0_0 := hB0_0_0.step k104_110 rfl
 replace hM0_0_0_1 := hM0_0_0_1.step k104_110 rfl
 refine OW.call [pp pb0_0_0 0, ii a1] rfl Tryz.func56 (by kernel_rfl) (by kernel_rfl) (map_cons' rfl (map_cons' rfl rfl)) (formula_Table_Cut.calls k _ _ pb0_0_0 pv0_0_0_0 pb0_0_0_1 (a0 := a0_0_0) hz111 (HF.ten (V := [0]) (L := [6, 7, 8]) rfl) (Bk.vw hB0_0_0 rfl) (Own.vw hO0_0_0_0 rfl rfl) (Mp.vw hM0_0_0_1 rfl)) ?_
 rintro _ w112 ⟨o113, v116, rfl, s114, hB115, hO117, hM118⟩
 refine ⟨_, rfl, ?_⟩
 replace hB115 := Bk.unO (J := []) 0 hB115 s114 rfl rfl rfl
 replace hO117 := Own.unO (J := []) 1 hO117 s114 rfl rfl rfl
 replace hM118 := Mp.unO (J := []) 2 hM118 s114 rfl rfl rfl
 replace s114 := un_stepL (J := []) (L' := [6, 7, 8]) s114 rfl rfl
 replace sR := Step.trans sR s114 (M := [6, 7, 8]) rfl rfl
 refine ⟨⟨_, sR⟩, ?_⟩
 refine WA.norm (listed' := lb 6 63) (by kernel_rfl) <|
  WA.done (by kernel_rfl) <|
  WC.region <|
  E rfl (ex_fieldAddr rfl U111 rfl sz36) ?_
 have k110_114 := s110.t s114
 replace hB108 := hB108.step k110_114 rfl
 refine E rfl (ex_loadN (cs := [ii p0.f_f.f_Code, ii p0.f_f.f_At.f_Line, ii p0.f_f.f_At.f_Col, ii p0.f_f.f_At.f_Off]) rfl U36 rfl sz36 (hB108.cells rfl)) <|
  WL.op rfl ?_
 have k104_114 := k104_110.t s114
 replace hB2 := hB2.step k104_114 rfl
 refine OW.storeW rfl rfl sz36 hB2 rfl (oa rfl) ?_
 intro w119 s120 hB121
 refine WL.nil ?_
 obtain rfl := Option.some.inj H
 replace hB115 := hB115.step s120 rfl
 replace hO117 := hO117.step s120 rfl rfl
 replace hM118 := hM118.step s120 rfl
 have k114_120 := s114.t s120
 replace HF := HF.step k114_120 rfl
 exact ⟨_, .nil, _, v116, rfl, HF.out, hB121, hB115, hO117, hM118⟩

/-! ### syntax_reader_read_1_ret -/
set_option maxRecDepth 100000 in
theorem syntax_reader_read_1_ret.dcalls (o0 : Tags) (w0 : World) (pb0 : Nat) (pb1 : Nat) (pb2 : Nat) (pb0_0 : Nat) (pA0_0_1 : Option Addr) (pc0_0_1 : Nat) (pb0_0_0 : Nat) (pv0_0_0_0 : Value) (pb0_0_0_1 : Nat) {a1 : Int} {a2 : T_api_Fault} {a0_0 : T_syntax_reader} {a0_0_0 : T_formula_Table} {a0_0_0_1 : (List (T_api_Node × Int))} {r : Unit} (H : syntax_reader_read_1_ret.f a1 a2 a0_0 a0_0_0 a0_0_0_1 = some r) (hO : ∀ b, b < w0.heap.size → o0 b < 40) (hB0 : Bk o0 w0 2 pb0 [pp pb0_0 0] 78) (hB1 : Bk o0 w0 3 pb1 [ii a1] 3) (hB2 : Bk o0 w0 4 pb2 [ii a2.f_Code, ii a2.f_At.f_Line, ii a2.f_At.f_Col, ii a2.f_At.f_Off] 36) (hB0_0 : Bk o0 w0 5 pb0_0 [pp pb0_0_0 0, .slice pA0_0_1 a0_0.f_l.length pc0_0_1, ii a0_0.f_i, ii a0_0.f_names, ii a0_0.f_nest, .bool a0_0.f_counts, .bool a0_0.f_full] 80) (hra0_0_1 : Row T_api_Token.rep (fun b_ => o0 b_ = 0) (fun b_ => o0 b_ = 0) w0 pA0_0_1 a0_0.f_l) (hla0_0_1 : a0_0.f_l.length ≤ pc0_0_1) (hB0_0_0 : Bk o0 w0 6 pb0_0_0 [pv0_0_0_0, .map (some pb0_0_0_1)] 56) (hO0_0_0_0 : Own T_api_Node.rep 60 7 o0 w0 pv0_0_0_0 a0_0_0.f_rows) (hM0_0_0_1 : Mp (fun x_ : T_api_Node => Value.agg #[ii x_.f_Kind, encS x_.f_Name, ii x_.f_L, ii x_.f_R]) (fun v_ : Int => ii v_) 8 o0 w0 pb0_0_0_1 a0_0_0_1) :
  DCalls Tryz.prog 55 [pp pb0 0, pp pb1 0, pp pb2 0].toArray .returning w0 fun e_ u_ w_ => u_ = .returning ∧ ∃ (o_ : Tags), e_ = .returned (one []) ∧ Step o0 w0 o_ w_ [] := by
 have HF := Fm.refl hO []
 unfold syntax_reader_read_1_ret.f at H
 refine dcalls_rec (rv := .nilIface) [pp pb0 0, pp pb1 0, pp pb2 0] Tryz.func55 rfl rfl rfl (.inl ⟨rfl, rfl, rfl⟩) ?_
 rw [Tryz.ntmps55]
 refine WC.block <|
  WC.seq <|
  WC.region <|
  E rfl (ex_errEql (b := false) rfl U20 isErr_ni) <|
  WL.nil <|
  WC.cond_t rfl <|
  WC.region <|
  E rfl (sg .nilIface rfl) <|
  WL.nil ?_
 obtain rfl := Option.some.inj H
 exact ⟨_, .nil, _, rfl, HF.out⟩

/-! ### syntax_reader_read_syntax_Parse_1 -/
set_option maxRecDepth 100000 in
theorem syntax_reader_read_syntax_Parse_1.calls (k : Nat) (o0 : Tags) (w0 : World) (pb0 : Nat) (pA0_1 : Option Addr) (pc0_1 : Nat) (pb0_0 : Nat) (pv0_0_0 : Value) (pb1_0 : Nat) (pb1_1 : Nat) (pb1_2 : Nat) (pb0_0_1 : Nat) {a0 : T_syntax_reader} {a0_0 : T_formula_Table} {a1_1 : Int} {a1_2 : T_api_Fault} {a0_0_1 : (List (T_api_Node × Int))} {r : T_api_Fault × T_syntax_reader × T_formula_Table × Int × (List (T_api_Node × Int))} (H : syntax_reader_read_syntax_Parse_1.f k a0 a0_0 a1_1 a1_2 a0_0_1 = some r) (hO : ∀ b, b < w0.heap.size → o0 b < 40) (hB0 : Bk o0 w0 2 pb0 [pp pb0_0 0, .slice pA0_1 a0.f_l.length pc0_1, ii a0.f_i, ii a0.f_names, ii a0.f_nest, .bool a0.f_counts, .bool a0.f_full] 80) (hra0_1 : Row T_api_Token.rep (fun b_ => o0 b_ = 0) (fun b_ => o0 b_ = 0) w0 pA0_1 a0.f_l) (hla0_1 : a0.f_l.length ≤ pc0_1) (hB0_0 : Bk o0 w0 3 pb0_0 [pv0_0_0, .map (some pb0_0_1)] 56) (hO0_0_0 : Own T_api_Node.rep 60 4 o0 w0 pv0_0_0 a0_0.f_rows) (hB1_0 : Bk o0 w0 5 pb1_0 [pp pb0 0] 78) (hB1_1 : Bk o0 w0 6 pb1_1 [ii a1_1] 3) (hB1_2 : Bk o0 w0 7 pb1_2 [ii a1_2.f_Code, ii a1_2.f_At.f_Line, ii a1_2.f_At.f_Col, ii a1_2.f_At.f_Off] 36) (hM0_0_1 : Mp (fun x_ : T_api_Node => Value.agg #[ii x_.f_Kind, encS x_.f_Name, ii x_.f_L, ii x_.f_R]) (fun v_ : Int => ii v_) 8 o0 w0 pb0_0_1 a0_0_1) :
  Calls Tryz.prog 30 [pp pb0 0, .func (.func 31) #[] #[pp pb1_0 0, pp pb1_1 0, pp pb1_2 0]].toArray w0 fun e_ w_ => ∃ (o_ : Tags) (B_0_1 : Option Addr) (d_0_1 : Nat) (u2_0 : Value), e_ = .returned (one [.agg #[ii r.1.f_Code, ii r.1.f_At.f_Line, ii r.1.f_At.f_Col, ii r.1.f_At.f_Off]]) ∧ Step o0 w0 o_ w_ [2, 3, 4, 6, 8] ∧ Bk o_ w_ 2 pb0 [pp pb0_0 0, .slice B_0_1 r.2.1.f_l.length d_0_1, ii r.2.1.f_i, ii r.2.1.f_names, ii r.2.1.f_nest, .bool r.2.1.f_counts, .bool r.2.1.f_full] 80 ∧ r.2.1.f_l.length ≤ d_0_1 ∧ Row T_api_Token.rep (fun b_ => o_ b_ = 0) (fun b_ => o_ b_ = 0) w_ B_0_1 r.2.1.f_l ∧ Bk o_ w_ 3 pb0_0 [u2_0, .map (some pb0_0_1)] 56 ∧ Own T_api_Node.rep 60 4 o_ w_ u2_0 r.2.2.1.f_rows ∧ Bk o_ w_ 6 pb1_1 [ii r.2.2.2.1] 3 ∧ Mp (fun x_ : T_api_Node => Value.agg #[ii x_.f_Kind, encS x_.f_Name, ii x_.f_L, ii x_.f_R]) (fun v_ : Int => ii v_) 8 o_ w_ pb0_0_1 r.2.2.2.2 := by
 have HF := Fm.refl hO [2, 3, 4, 6, 8]
 unfold syntax_reader_read_syntax_Parse_1.f at H
 refine SX.callsD [pp pb0 0, .func (.func 31) #[] #[pp pb1_0 0, pp pb1_1 0, pp pb1_2 0]] Tryz.func30 rfl rfl ?_
 rw [Tryz.ntmps30]
 refine WC.seq <|
  WC.region <|
  WL.op rfl <|
  OW.box' [pp pb0 0] 40 HF rfl ((congrArg Value.cells (show ev _ _ = (pp pb0 0 : Value) from rfl)).trans rfl) ?_
 intro o102 w103 b101 s104 hB105
 refine WL.op rfl ?_
 replace HF := HF.step s104 rfl
 refine OW.alloc' [ii (0 : Int), ii (0 : Int), ii (0 : Int), ii (0 : Int)] 41 HF rfl zr36 rfl ?_
 intro o107 w108 b106 s109 hB110
 refine WL.nil <|
  WC.seq <|
  WC.region ?_
 replace hB105 := hB105.step s109 rfl
 refine E rfl (ex_load1 rfl U78 rfl (hB105.cell rfl)) <|
  E rfl (ex_nilCheck rfl) <|
  E rfl (ex_fieldAddr rfl U80 rfl sz23) ?_
 have k104_109 := s104.t s109
 replace hB0 := hB0.step k104_109 rfl
 refine E rfl (ex_load1 rfl U23 rfl (hB0.cell rfl)) ?_
 obtain ⟨z111, hz111, H⟩ := bindE H
 refine WL.op rfl ?_
 replace HF := HF.step s109 rfl
 replace hO0_0_0 := hO0_0_0.step k104_109 rfl rfl
 replace hB0_0 := hB0_0.step k104_109 rfl
 replace hM0_0_1 := hM0_0_1.step k104_109 rfl
 refine OW.call [pp pb0_0 0] rfl Tryz.func8 (by kernel_rfl) (by kernel_rfl) (map_cons' rfl rfl) (formula_Table_Len.calls _ _ pb0_0 pv0_0_0 pb0_0_1 (a0 := a0_0) hz111 (HF.ten (V := [0]) (L := [3, 4, 8]) rfl) (Bk.vw hB0_0 rfl) (Own.vw hO0_0_0 rfl rfl) (Mp.vw hM0_0_1 rfl)) ?_
 rintro _ w112 ⟨o113, rfl, s114⟩
 refine ⟨_, rfl, ?_⟩
 replace s114 := un_stepL (J := []) (L' := []) s114 rfl rfl
 refine WL.op rfl ?_
 replace HF := HF.step s114 rfl
 refine OW.alloc' [ii (0 : Int)] 42 HF rfl zr3 rfl ?_
 intro o116 w117 b115 s118 hB119
 refine WL.op rfl <|
  OW.storeW rfl rfl sz3 hB119 rfl (oa rfl) ?_
 intro w120 s121 hB122
 refine WL.nil <|
  WC.seq <|
  WC.region <|
  E rfl (ex_makeFuncC [pp b101 0, pp b115 0, pp b106 0] (map_cons' rfl (map_cons' rfl (map_cons' rfl rfl)))) <|
  WL.op rfl <|
  OW.defer [] [pp b101 0, pp b115 0, pp b106 0] rfl [] rfl <|
  WL.nil <|
  WC.seq <|
  WC.region <|
  E rfl (mv (.func (.func 31) #[] #[pp pb1_0 0, pp pb1_1 0, pp pb1_2 0]) rfl) ?_
 obtain ⟨z123, hz123, H⟩ := bindE H
 refine WL.op rfl ?_
 have k118_121 := s118.t s121
 replace HF := HF.step k118_121 rfl
 have k114_121 := s114.t k118_121
 replace hB0 := hB0.step k114_121 rfl
 replace hO0_0_0 := hO0_0_0.step k114_121 rfl rfl
 replace hB0_0 := hB0_0.step k114_121 rfl
 replace hM0_0_1 := hM0_0_1.step k114_121 rfl
 have k104_121 := k104_109.t k114_121
 replace hra0_1 := hra0_1.step k104_121 rfl
 replace hB1_0 := hB1_0.step k104_121 rfl
 replace hB1_1 := hB1_1.step k104_121 rfl
 replace hB1_2 := hB1_2.step k104_121 rfl
 refine OW.callFP [] [pp pb1_0 0, pp pb1_1 0, pp pb1_2 0] (show ev _ _ = .func (.func 31) #[] #[pp pb1_0 0, pp pb1_1 0, pp pb1_2 0] from rfl) [] rfl Tryz.func31 (by kernel_rfl) (by kernel_rfl) rfl (syntax_Parse_1.calls k _ _ pb1_0 pb1_1 pb1_2 pb0 pA0_1 pc0_1 pb0_0 pv0_0_0 pb0_0_1 (a2 := a1_2) (a0_0 := a0) (a0_0_0 := a0_0) hz123 (HF.ten (V := [0]) (L := [5, 6, 7, 2, 3, 4, 8]) rfl) (Bk.vw hB1_0 rfl) (Bk.vw hB1_1 rfl) (Bk.vw hB1_2 rfl) (Bk.vw hB0 rfl) (Row.vw hra0_1 rfl) hla0_1 (Bk.vw hB0_0 rfl) (Own.vw hO0_0_0 rfl rfl) (Mp.vw hM0_0_1 rfl)) ?_
 rintro _ w124 ⟨o125, (⟨p126, rfl, A132, c133, v137, rfl, s128, hB130, hB131, hl134, hr135, hB136, hO138, hM139⟩ | ⟨q127, rfl, A142, c143, v147, rfl, s129, hB140, hB141, hl144, hr145, hB146, hO148, hM149⟩)⟩
 ·
  refine Or.inr ⟨_, rfl, ?_⟩
  dsimp only at H
  replace hB130 := Bk.unO (J := []) 1 hB130 s128 rfl rfl rfl
  replace hB131 := Bk.unO (J := []) 3 hB131 s128 rfl rfl rfl
  replace hr135 := hr135.un (J := []) s128
  replace hB136 := Bk.unO (J := []) 4 hB136 s128 rfl rfl rfl
  replace hO138 := Own.unO (J := []) 5 hO138 s128 rfl rfl rfl
  replace hM139 := Mp.unO (J := []) 6 hM139 s128 rfl rfl rfl
  replace s128 := un_stepL (J := []) (L' := [6, 2, 3, 4, 8]) s128 rfl rfl
  obtain ⟨z150, hz150, H⟩ := bindE H
  replace hB122 := hB122.step s128 rfl
  replace HF := HF.step s128 rfl
  have k114_128 := k114_121.t s128
  replace hB105 := hB105.step k114_128 rfl
  replace hB110 := hB110.step k114_128 rfl
  refine lv_one (xs := []) (cs := [pp b101 0, pp b115 0, pp b106 0]) (fun h_ => by cases h_) Tryz.func55 (by kernel_rfl) (by kernel_rfl) (DCalls.mono (syntax_reader_read_1_rec.dcalls k _ _ b101 b115 b106 pb0 A132 c133 pb0_0 v137 pb0_0_1 (a2 := (⟨(0 : Int), (⟨(0 : Int), (0 : Int), (0 : Int)⟩ : T_api_Spot)⟩ : T_api_Fault)) (a0_0 := p126.2.2.1) (a0_0_0 := p126.2.2.2.1) (p0 := p126.1) hz150 (HF.ten (V := [0]) (L := [40, 42, 41, 2, 3, 4, 8]) rfl) (Bk.vw hB105 rfl) (Bk.vw hB122 rfl) (Bk.vw hB110 rfl) (Bk.vw hB131 rfl) (Row.vw hr135 rfl) hl134 (Bk.vw hB136 rfl) (Own.vw hO138 rfl rfl) (Mp.vw hM139 rfl)) ?_)
  rintro _ _ w151 ⟨rfl, o152, v156, rfl, s153, hB154, hB155, hO157, hM158⟩
  replace hB154 := Bk.unO (J := []) 2 hB154 s153 rfl rfl rfl
  replace hB155 := Bk.unO (J := []) 4 hB155 s153 rfl rfl rfl
  replace hO157 := Own.unO (J := []) 5 hO157 s153 rfl rfl rfl
  replace hM158 := Mp.unO (J := []) 6 hM158 s153 rfl rfl rfl
  replace s153 := un_stepL (J := []) (L' := [41, 3, 4, 8]) s153 rfl rfl
  refine Lv.doneR ?_
  obtain rfl := Option.some.inj H
  replace hB130 := hB130.step s153 rfl
  replace hB131 := hB131.step s153 rfl
  replace hr135 := hr135.step s153 rfl
  replace HF := HF.step s153 rfl
  exact ⟨_, (.cell _ rfl (run_loadN (cs := [ii z150.1.f_Code, ii z150.1.f_At.f_Line, ii z150.1.f_At.f_Col, ii z150.1.f_At.f_Off]) U36 rfl sz36 (hB154.cells rfl)) .nil), _, A132, c133, v156, rfl, HF.out, hB131, hl134, hr135, hB155, hO157, hB130, hM158⟩
 ·
  refine Or.inl ⟨_, rfl, ?_⟩
  dsimp only at H
  replace hB140 := Bk.unO (J := []) 1 hB140 s129 rfl rfl rfl
  replace hB141 := Bk.unO (J := []) 3 hB141 s129 rfl rfl rfl
  replace hr145 := hr145.un (J := []) s129
  replace hB146 := Bk.unO (J := []) 4 hB146 s129 rfl rfl rfl
  replace hO148 := Own.unO (J := []) 5 hO148 s129 rfl rfl rfl
  replace hM149 := Mp.unO (J := []) 6 hM149 s129 rfl rfl rfl
  replace s129 := un_stepL (J := []) (L' := [6, 2, 3, 4, 8]) s129 rfl rfl
  refine WL.nil <|
   WC.seq <|
   WC.seq <|
   WC.region ?_
  have k114_129 := k114_121.t s129
  replace hB105 := hB105.step k114_129 rfl
  refine E rfl (ex_load1 rfl U78 rfl (hB105.cell rfl)) <|
   E rfl (ex_nilCheck rfl) <|
   E rfl (ex_fieldAddr rfl U80 rfl sz4) <|
   E rfl (ex_load1 rfl U4 rfl (hB141.cell rfl)) <|
   WL.nil ?_
  rcases condE H with ⟨c159, H⟩ | ⟨c159, H⟩
  ·
   refine WC.cond_t (vb c159 rfl) <|
    WC.region <|
    E rfl (ex_build (cs := [ii 30, ii (0 : Int), ii (0 : Int), ii (0 : Int)]) [(0, 1), (1, 3)] [(0, ii 30)] [ii 0, ii 0, ii 0, ii 0] U36 zr36 rfl (by kernel_rfl) (evs_cons rfl rfl) rfl) <|
    E rfl (ex_build (cs := [ii 30, ii (0 : Int), ii (0 : Int), ii (0 : Int)]) [(0, 4)] [(0, .agg #[ii 30, ii (0 : Int), ii (0 : Int), ii (0 : Int)])] [ii 0, ii 0, ii 0, ii 0] U111 zr111 rfl (by kernel_rfl) (evs_cons rfl rfl) rfl) <|
    E rfl (ex_makeInterface (v := .agg #[ii 30, ii (0 : Int), ii (0 : Int), ii (0 : Int)]) rfl U111 rfl) <|
    WL.op rfl <|
    OW.panic (T := 111) (v := .agg #[ii 30, ii (0 : Int), ii (0 : Int), ii (0 : Int)]) rfl ?_
   obtain ⟨z160, hz160, H⟩ := bindE H
   replace hB122 := hB122.step s129 rfl
   replace HF := HF.step s129 rfl
   replace hB110 := hB110.step k114_129 rfl
   refine lv_one (xs := []) (cs := [pp b101 0, pp b115 0, pp b106 0]) (fun h_ => by cases h_) Tryz.func55 (by kernel_rfl) (by kernel_rfl) (DCalls.mono (syntax_reader_read_1_rec.dcalls k _ _ b101 b115 b106 pb0 A142 c143 pb0_0 v147 pb0_0_1 (a2 := (⟨(0 : Int), (⟨(0 : Int), (0 : Int), (0 : Int)⟩ : T_api_Spot)⟩ : T_api_Fault)) (a0_0 := q127.2.1) (a0_0_0 := q127.2.2.1) (p0 := (⟨(⟨30, (⟨(0 : Int), (0 : Int), (0 : Int)⟩ : T_api_Spot)⟩ : T_api_Fault)⟩ : T_syntax_broken)) hz160 (HF.ten (V := [0]) (L := [40, 42, 41, 2, 3, 4, 8]) rfl) (Bk.vw hB105 rfl) (Bk.vw hB122 rfl) (Bk.vw hB110 rfl) (Bk.vw hB141 rfl) (Row.vw hr145 rfl) hl144 (Bk.vw hB146 rfl) (Own.vw hO148 rfl rfl) (Mp.vw hM149 rfl)) ?_)
   rintro _ _ w161 ⟨rfl, o162, v166, rfl, s163, hB164, hB165, hO167, hM168⟩
   replace hB164 := Bk.unO (J := []) 2 hB164 s163 rfl rfl rfl
   replace hB165 := Bk.unO (J := []) 4 hB165 s163 rfl rfl rfl
   replace hO167 := Own.unO (J := []) 5 hO167 s163 rfl rfl rfl
   replace hM168 := Mp.unO (J := []) 6 hM168 s163 rfl rfl rfl
   replace s163 := un_stepL (J := []) (L' := [41, 3, 4, 8]) s163 rfl rfl
   refine Lv.doneR ?_
   obtain rfl := Option.some.inj H
   replace hB140 := hB140.step s163 rfl
   replace hB141 := hB141.step s163 rfl
   replace hr145 := hr145.step s163 rfl
   replace HF := HF.step s163 rfl
   exact ⟨_, (.cell _ rfl (run_loadN (cs := [ii z160.1.f_Code, ii z160.1.f_At.f_Line, ii z160.1.f_At.f_Col, ii z160.1.f_At.f_Off]) U36 rfl sz36 (hB164.cells rfl)) .nil), _, A142, c143, v166, rfl, HF.out, hB141, hl144, hr145, hB165, hO167, hB140, hM168⟩
  ·
   refine WC.cond_f (vb c159 rfl) <|
    WC.skip <|
    WC.seq <|
    WC.region <|
    E rfl (ex_build (cs := [ii (0 : Int), ii (0 : Int), ii (0 : Int), ii (0 : Int)]) [(0, 1), (1, 3)] [] [ii 0, ii 0, ii 0, ii 0] U36 zr36 rfl (by kernel_rfl) rfl rfl) <|
    WL.op rfl ?_
   replace hB110 := hB110.step k114_129 rfl
   refine OW.storeW rfl rfl sz36 hB110 rfl (oa rfl) ?_
   intro w169 s170 hB171
   refine WL.nil <|
    WC.ret ?_
   obtain ⟨z172, hz172, H⟩ := bindE H
   replace hB105 := hB105.step s170 rfl
   replace hB141 := hB141.step s170 rfl
   replace hr145 := hr145.step s170 rfl
   replace hB146 := hB146.step s170 rfl
   replace hO148 := hO148.step s170 rfl rfl
   replace hM149 := hM149.step s170 rfl
   have k129_170 := s129.t s170
   replace hB122 := hB122.step k129_170 rfl
   replace HF := HF.step k129_170 rfl
   refine lv_one (xs := []) (cs := [pp b101 0, pp b115 0, pp b106 0]) (fun h_ => by cases h_) Tryz.func55 (by kernel_rfl) (by kernel_rfl) (DCalls.mono (syntax_reader_read_1_ret.dcalls _ _ b101 b115 b106 pb0 A142 c143 pb0_0 v147 pb0_0_1 (a2 := (⟨(0 : Int), (⟨(0 : Int), (0 : Int), (0 : Int)⟩ : T_api_Spot)⟩ : T_api_Fault)) (a0_0 := q127.2.1) (a0_0_0 := q127.2.2.1) hz172 (HF.ten (V := [0]) (L := [40, 42, 41, 2, 3, 4, 8]) rfl) (Bk.vw hB105 rfl) (Bk.vw hB122 rfl) (Bk.vw hB171 rfl) (Bk.vw hB141 rfl) (Row.vw hr145 rfl) hl144 (Bk.vw hB146 rfl) (Own.vw hO148 rfl rfl) (Mp.vw hM149 rfl)) ?_)
   obtain rfl := Option.some.inj (show some () = some z172 from hz172)
   rintro _ _ w173 ⟨rfl, o174, rfl, s175⟩
   replace s175 := un_stepL (J := []) (L' := []) s175 rfl rfl
   refine Lv.done ?_
   obtain rfl := Option.some.inj H
   replace hB141 := hB141.step s175 rfl
   replace hr145 := hr145.step s175 rfl
   replace hB146 := hB146.step s175 rfl
   replace hO148 := hO148.step s175 rfl rfl
   replace hM149 := hM149.step s175 rfl
   replace hB171 := hB171.step s175 rfl
   replace HF := HF.step s175 rfl
   have k170_175 := s170.t s175
   replace hB140 := hB140.step k170_175 rfl
   exact ⟨_, (.cell _ rfl (run_loadN (cs := [ii (0 : Int), ii (0 : Int), ii (0 : Int), ii (0 : Int)]) U36 rfl sz36 (hB171.cells rfl)) .nil), _, A142, c143, v147, rfl, HF.out, hB141, hl144, hr145, hB146, hO148, hB140, hM149⟩

/-! ### syntax_Parse -/
set_option maxRecDepth 100000 in
theorem syntax_Parse.calls (k : Nat) (o0 : Tags) (w0 : World) (pb0 : Nat) (pv0_0 : Value) (pb0_1 : Nat) {a0 : T_formula_Table} {a1 : List UInt8} {a0_1 : (List (T_api_Node × Int))} {r : Int × T_api_Fault × T_formula_Table × (List (T_api_Node × Int))} (H : syntax_Parse.f k a0 a1 a0_1 = some r) (hO : ∀ b, b < w0.heap.size → o0 b < 40) (hB0 : Bk o0 w0 2 pb0 [pv0_0, .map (some pb0_1)] 56) (hO0_0 : Own T_api_Node.rep 60 3 o0 w0 pv0_0 a0.f_rows) (hM0_1 : Mp (fun x_ : T_api_Node => Value.agg #[ii x_.f_Kind, encS x_.f_Name, ii x_.f_L, ii x_.f_R]) (fun v_ : Int => ii v_) 4 o0 w0 pb0_1 a0_1) (hG : Gl GG o0 w0) :
  Calls Tryz.prog 12 [pp pb0 0, encS a1].toArray w0 fun e_ w_ => ∃ (o_ : Tags) (u0_0 : Value), e_ = .returned (one [ii r.1, .agg #[ii r.2.1.f_Code, ii r.2.1.f_At.f_Line, ii r.2.1.f_At.f_Col, ii r.2.1.f_At.f_Off]]) ∧ Step o0 w0 o_ w_ [2, 3, 4] ∧ Bk o_ w_ 2 pb0 [u0_0, .map (some pb0_1)] 56 ∧ Own T_api_Node.rep 60 3 o_ w_ u0_0 r.2.2.1.f_rows ∧ Mp (fun x_ : T_api_Node => Value.agg #[ii x_.f_Kind, encS x_.f_Name, ii x_.f_L, ii x_.f_R]) (fun v_ : Int => ii v_) 4 o_ w_ pb0_1 r.2.2.2 := by
 have HF := Fm.refl hO [2, 3, 4]
 unfold syntax_Parse.f at H
 refine SX.calls [pp pb0 0, encS a1] Tryz.func12 rfl rfl ?_
 rw [Tryz.ntmps12]
 refine WC.seq <|
  WC.region <|
  E rfl (sg (ii 0) rfl) <|
  WL.op rfl <|
  OW.alloc' [ii (0 : Int), ii (0 : Int), ii (0 : Int), ii (0 : Int)] 40 HF rfl zr36 rfl ?_
 intro o102 w103 b101 s104 hB105
 refine WL.nil <|
  WC.seq <|
  WC.seq <|
  WC.region <|
  E rfl (mv (pp pb0 0) rfl) ?_
 obtain ⟨z106, hz106, H⟩ := bindE H
 refine WL.op rfl ?_
 replace hO0_0 := hO0_0.step s104 rfl rfl
 replace hB0 := hB0.step s104 rfl
 replace hM0_1 := hM0_1.step s104 rfl
 replace HF := HF.step s104 rfl
 refine OW.call [pp pb0 0] rfl Tryz.func23 (by kernel_rfl) (by kernel_rfl) (map_cons' rfl rfl) (syntax_known.calls k _ _ pb0 pv0_0 pb0_1 (a0 := a0) hz106 (HF.ten (V := [0]) (L := [2, 3, 4]) rfl) (Bk.vw hB0 rfl) (Own.vw hO0_0 rfl rfl) (Mp.vw hM0_1 rfl)) ?_
 rintro _ w107 ⟨o108, rfl, s109⟩
 refine ⟨_, rfl, ?_⟩
 replace s109 := un_stepL (J := []) (L' := []) s109 rfl rfl
 refine E rfl (ex_not (b := z106) rfl) <|
  WL.nil ?_
 rcases condE H with ⟨c110, H⟩ | ⟨c110, H⟩
 ·
  refine WC.cond_t (vb c110 rfl) <|
   WC.seq <|
   WC.region <|
   E rfl (ex_build (cs := [ii 1, ii (0 : Int), ii (0 : Int), ii (0 : Int)]) [(0, 1), (1, 3)] [(0, ii 1)] [ii 0, ii 0, ii 0, ii 0] U36 zr36 rfl (by kernel_rfl) (evs_cons rfl rfl) rfl) <|
   E rfl (sg (ii 0) rfl) <|
   WL.op rfl ?_
  replace hB105 := hB105.step s109 rfl
  refine OW.storeW rfl rfl sz36 hB105 rfl (oa rfl) ?_
  intro w111 s112 hB113
  refine WL.nil <|
   WC.ret ?_
  obtain rfl := Option.some.inj H
  have k109_112 := s109.t s112
  replace hO0_0 := hO0_0.step k109_112 rfl rfl
  replace hB0 := hB0.step k109_112 rfl
  replace hM0_1 := hM0_1.step k109_112 rfl
  replace HF := HF.step k109_112 rfl
  exact ⟨_, (.tmp _ rfl (.cell _ rfl (run_loadN (cs := [ii 1, ii (0 : Int), ii (0 : Int), ii (0 : Int)]) U36 rfl sz36 (hB113.cells rfl)) .nil)), _, pv0_0, rfl, HF.out, hB0, hO0_0, hM0_1⟩
 ·
  refine WC.cond_f (vb c110 rfl) <|
   WC.skip <|
   WC.seq <|
   WC.region <|
   E rfl (mv (encS a1) rfl) ?_
  obtain ⟨z114, hz114, H⟩ := bindE H
  refine WL.op rfl ?_
  replace HF := HF.step s109 rfl
  have k104_109 := s104.t s109
  replace hG := hG.step k104_109 rfl
  refine OW.call [encS a1] rfl Tryz.func28 (by kernel_rfl) (by kernel_rfl) (map_cons' rfl rfl) (syntax_ahead.calls k _ _ hz114 (HF.ten (V := [0]) (L := []) rfl) (Gl.vw hG rfl)) ?_
  rintro _ w115 ⟨o116, v118, rfl, s117, hO119⟩
  refine ⟨_, rfl, ?_⟩
  replace hO119 := Own.un9 (J := [41]) 0 hO119 rfl s117 rfl rfl
  replace s117 := un_stepL (J := [41]) (L' := []) s117 rfl rfl
  refine E rfl (mv (.tuple #[v118, .agg #[ii z114.2.f_Code, ii z114.2.f_At.f_Line, ii z114.2.f_At.f_Col, ii z114.2.f_At.f_Off]]) rfl) <|
   E rfl (ex_extract rfl rfl) <|
   E rfl (ex_extract rfl rfl) <|
   WL.op rfl ?_
  replace HF := HF.step s117 rfl
  refine OW.alloc' [ii (0 : Int), ii (0 : Int), ii (0 : Int), ii (0 : Int)] 42 HF rfl zr36 rfl ?_
  intro o121 w122 b120 s123 hB124
  refine E rfl (sg v118 rfl) <|
   WL.op rfl <|
   OW.storeW rfl rfl sz36 hB124 rfl (oa rfl) ?_
  intro w125 s126 hB127
  refine WL.nil <|
   WC.seq <|
   WC.region <|
   E rfl (sg (ii 0) rfl) <|
   WL.nil <|
   WC.seq <|
   WC.seq <|
   WC.region <|
   E rfl (mv v118 rfl) ?_
  have k123_126 := s123.t s126
  replace hO119 := hO119.step k123_126 rfl rfl
  obtain ⟨A128, c129, q130⟩ := hO119.slice
  refine E rfl (ex_len_slice ((show _ = (v118 : Value) from rfl).trans q130) U71) <|
   E rfl (mv (ii 0) rfl) <|
   WL.nil ?_
  obtain ⟨z133, hz133, H⟩ := bindE H
  replace HF := HF.step k123_126 rfl
  have k117_126 := s117.t k123_126
  replace hG := hG.step k117_126 rfl
  have k109_126 := s109.t k117_126
  replace hO0_0 := hO0_0.step k109_126 rfl rfl
  replace hB0 := hB0.step k109_126 rfl
  replace hM0_1 := hM0_1.step k109_126 rfl
  replace hB105 := hB105.step k109_126 rfl
  refine WC.for (fun k_ ρ_ w_ => ∃ (o_ : Tags) (x131 : Int) (x132 : Int), Fm o0 w0 o_ w_ [2, 3, 4] ∧ Own T_api_Token.rep 76 41 o_ w_ v118 z114.1 ∧ Bk o_ w_ 2 pb0 [pv0_0, .map (some pb0_1)] 56 ∧ Own T_api_Node.rep 60 3 o_ w_ pv0_0 a0.f_rows ∧ Mp (fun x_ : T_api_Node => Value.agg #[ii x_.f_Kind, encS x_.f_Name, ii x_.f_L, ii x_.f_R]) (fun v_ : Int => ii v_) 4 o_ w_ pb0_1 a0_1 ∧ Bk o_ w_ 40 b101 [ii (0 : Int), ii (0 : Int), ii (0 : Int), ii (0 : Int)] 36 ∧ Bk o_ w_ 42 b120 [ii z114.2.f_Code, ii z114.2.f_At.f_Line, ii z114.2.f_At.f_Col, ii z114.2.f_At.f_Off] 36 ∧ Gl GG o_ w_ ∧ ρ_ 0 = pp pb0 0 ∧ ρ_ 4 = ii 0 ∧ ρ_ 5 = pp b101 0 ∧ ρ_ 6 = v118 ∧ ρ_ 7 = pp b120 0 ∧ ρ_ 8 = ii x131 ∧ ρ_ 23 = v118 ∧ ρ_ 24 = ii (z114.1.length : Int) ∧ ρ_ 25 = ii x132 ∧ syntax_Parse.l1 k a0 a0_1 z114 k_ x131 x132 = some z133) k (fun ρ_ w_ => ∃ (o_ : Tags), Fm o0 w0 o_ w_ [2, 3, 4] ∧ Own T_api_Token.rep 76 41 o_ w_ v118 z114.1 ∧ Bk o_ w_ 2 pb0 [pv0_0, .map (some pb0_1)] 56 ∧ Own T_api_Node.rep 60 3 o_ w_ pv0_0 a0.f_rows ∧ Mp (fun x_ : T_api_Node => Value.agg #[ii x_.f_Kind, encS x_.f_Name, ii x_.f_L, ii x_.f_R]) (fun v_ : Int => ii v_) 4 o_ w_ pb0_1 a0_1 ∧ Bk o_ w_ 40 b101 [ii (0 : Int), ii (0 : Int), ii (0 : Int), ii (0 : Int)] 36 ∧ Bk o_ w_ 42 b120 [ii z114.2.f_Code, ii z114.2.f_At.f_Line, ii z114.2.f_At.f_Col, ii z114.2.f_At.f_Off] 36 ∧ Gl GG o_ w_ ∧ ρ_ 0 = pp pb0 0 ∧ ρ_ 4 = ii 0 ∧ ρ_ 5 = pp b101 0 ∧ ρ_ 6 = v118 ∧ ρ_ 7 = pp b120 0 ∧ z133 = .inr ()) ⟨_, 0, 0, HF, hO119, hB0, hO0_0, hM0_1, hB105, hB127, hG, rfl, rfl, rfl, rfl, rfl, rfl, rfl, rfl, rfl, hz133⟩ ?case134 ?_
  case case134 =>
   rintro ρ180 w181 ⟨o182, HF, hO119, hB0, hO0_0, hM0_1, hB105, hB127, hG, s0_132, s4_132, s5_132, s6_132, s7_132, rfl⟩
   dsimp only at H
   refine WC.seq <|
    WC.region <|
    E rfl (mv (pp pb0 0) s0_132) <|
    E rfl (mv v118 s6_132) <|
    E rfl (ex_build (cs := [pp pb0 0, v118, ii (0 : Int), ii (0 : Int), ii (0 : Int), .bool false, .bool false]) [(0, 1), (1, 1), (2, 1), (3, 1), (4, 1), (5, 1), (6, 1)] [(0, pp pb0 0), (1, v118)] [.pointer none, .slice none 0 0, ii 0, ii 0, ii 0, .bool false, .bool false] U80 zr80 rfl (by kernel_rfl) (evs_cons rfl (evs_cons rfl rfl)) (by simp only [List.map_cons, List.map_nil, Own.cells1 hO119] <;> rfl)) <|
    WL.op rfl <|
    OW.box' [pp pb0 0, v118, ii (0 : Int), ii (0 : Int), ii (0 : Int), .bool false, .bool false] 44 HF rfl ((congrArg Value.cells (show ev _ _ = (.agg #[pp pb0 0, v118, ii (0 : Int), ii (0 : Int), ii (0 : Int), .bool false, .bool false] : Value) from rfl)).trans rfl) ?_
   intro o184 w185 b183 s186 hB187
   refine WL.op rfl ?_
   replace HF := HF.step s186 rfl
   refine OW.alloc' [.pointer none] 45 HF rfl zr78 rfl ?_
   intro o189 w190 b188 s191 hB192
   refine WL.op rfl <|
    OW.storeW rfl rfl sz78 hB192 rfl (oa rfl) ?_
   intro w193 s194 hB195
   refine WL.nil <|
    WC.seq <|
    WC.region <|
    WL.op rfl ?_
   have k191_194 := s191.t s194
   replace HF := HF.step k191_194 rfl
   refine OW.alloc' [ii (0 : Int)] 46 HF rfl zr3 rfl ?_
   intro o197 w198 b196 s199 hB200
   refine WL.op rfl <|
    OW.storeW rfl rfl sz3 hB200 rfl (oa rfl) ?_
   intro w201 s202 hB203
   refine WL.nil <|
    WC.seq <|
    WC.region ?_
   have k199_202 := s199.t s202
   replace hB195 := hB195.step k199_202 rfl
   refine E rfl (ex_load1 rfl U78 rfl (hB195.cell rfl)) <|
    E rfl (ex_makeFuncC [pp b188 0, pp b196 0, pp b120 0] (map_cons' rfl (map_cons' rfl (map_cons' s7_132 rfl)))) ?_
   have k186_202 := ((s186.t s191).t s194).t k199_202
   replace hO119 := hO119.step k186_202 rfl rfl
   obtain ⟨A204, c205, rfl, hl206, hr207⟩ := hO119.pubRow
   replace hB0 := hB0.step k186_202 rfl
   replace hB0 := hB0.pub 41 rfl
   replace hO0_0 := hO0_0.step k186_202 rfl rfl
   replace hO0_0 := hO0_0.pub 41 rfl
   replace hM0_1 := hM0_1.step k186_202 rfl
   replace hM0_1 := hM0_1.pub 41 rfl
   replace hB105 := hB105.step k186_202 rfl
   replace hB105 := hB105.pub 41 rfl
   replace hB127 := hB127.step k186_202 rfl
   replace hB127 := hB127.pub 41 rfl
   replace hG := hG.step k186_202 rfl
   replace hG := hG.pub 41
   have k191_202 := k191_194.t k199_202
   replace hB187 := hB187.step k191_202 rfl
   replace hB187 := hB187.pub 41 rfl
   replace hB195 := hB195.pub 41 rfl
   replace hB203 := hB203.pub 41 rfl
   replace HF := HF.step k199_202 rfl
   replace HF := HF.pub 41 rfl
   obtain ⟨z208, hz208, H⟩ := bindE H
   refine WL.op rfl <|
    OW.call [pp b183 0, .func (.func 31) #[] #[pp b188 0, pp b196 0, pp b120 0]] rfl Tryz.func30 (by kernel_rfl) (by kernel_rfl) (map_cons' rfl (map_cons' rfl rfl)) (syntax_reader_read_syntax_Parse_1.calls k _ _ b183 A204 c205 pb0 pv0_0 b188 b196 b120 pb0_1 (a0 := (⟨z114.1, (0 : Int), (0 : Int), (0 : Int), false, false⟩ : T_syntax_reader)) (a0_0 := a0) (a1_2 := z114.2) hz208 (HF.ten (V := [0]) (L := [44, 2, 3, 45, 46, 42, 4]) rfl) (Bk.vw hB187 rfl) (Row.vw hr207 rfl) hl206 (Bk.vw hB0 rfl) (Own.vw hO0_0 rfl rfl) (Bk.vw hB195 rfl) (Bk.vw hB203 rfl) (Bk.vw hB127 rfl) (Mp.vw hM0_1 rfl)) ?_
   rintro _ w209 ⟨o210, A213, c214, v218, rfl, s211, hB212, hl215, hr216, hB217, hO219, hB220, hM221⟩
   refine ⟨_, rfl, ?_⟩
   replace hB212 := Bk.unO (J := []) 0 hB212 s211 rfl rfl rfl
   replace hr216 := hr216.un (J := []) s211
   replace hB217 := Bk.unO (J := []) 1 hB217 s211 rfl rfl rfl
   replace hO219 := Own.unO (J := []) 2 hO219 s211 rfl rfl rfl
   replace hB220 := Bk.unO (J := []) 4 hB220 s211 rfl rfl rfl
   replace hM221 := Mp.unO (J := []) 6 hM221 s211 rfl rfl rfl
   replace s211 := un_stepL (J := []) (L' := [44, 2, 3, 46, 4]) s211 rfl rfl
   refine WL.op rfl ?_
   replace HF := HF.step s211 rfl
   refine OW.alloc' [ii (0 : Int), ii (0 : Int), ii (0 : Int), ii (0 : Int)] 47 HF rfl zr36 rfl ?_
   intro o223 w224 b222 s225 hB226
   refine WL.op rfl <|
    OW.storeW rfl rfl sz36 hB226 rfl (oa rfl) ?_
   intro w227 s228 hB229
   refine WL.nil <|
    WC.seq <|
    WC.seq <|
    WC.region <|
    E rfl (ex_fieldAddr rfl U36 rfl sz28) <|
    E rfl (ex_load1 rfl U28 rfl (hB229.cell rfl)) <|
    E rfl (e2 bin_neq rfl rfl) <|
    WL.nil ?_
   rcases condE H with ⟨c230, H⟩ | ⟨c230, H⟩
   ·
    refine WC.cond_t (vb c230 rfl) <|
     WC.seq ?_
    have k225_228 := s225.t s228
    replace HF := HF.step k225_228 rfl
    refine WC.regionD' HF [] 2 3 (by kernel_rfl) rfl ?_
    intro w231 s232
    replace hB229 := hB229.step s232 rfl
    have hB229D := hB229
    replace HF := HF.step s232 rfl
    have sR := HF.here []
    refine WA.seq [0, 1] (lb 3 3) 1 (by kernel_rfl) rfl ⟨_, sR⟩ <|
     X1 rfl (fun w_ hS_ => ex_loadN (cs := [ii z208.1.f_Code, ii z208.1.f_At.f_Line, ii z208.1.f_At.f_Col, ii z208.1.f_At.f_Off]) rfl U36 rfl sz36 ((hB229D.step hS_.choose_spec rfl).cells rfl)) <|
     X1 rfl (fun w_ hS_ => ex_assign (v := ii 0) rfl) <|
     WA.last 2 (by kernel_rfl) (by kernel_rfl) rfl rfl rfl ?_
    have k211_232 := ((s211.t s225).t s228).t s232
    replace hB105 := hB105.step k211_232 rfl
    refine OW.storeW rfl s5_132 sz36 hB105 rfl (oa rfl) ?_
    intro w233 s234 hB235
    refine WC.ret ?_
    obtain rfl := Option.some.inj H
    replace HF := HF.step s234 rfl
    have k225_234 := (k225_228.t s232).t s234
    replace hB217 := hB217.step k225_234 rfl
    replace hO219 := hO219.step k225_234 rfl rfl
    replace hM221 := hM221.step k225_234 rfl
    exact ⟨_, (.tmp _ rfl (.cell _ s5_132 (run_loadN (cs := [ii z208.1.f_Code, ii z208.1.f_At.f_Line, ii z208.1.f_At.f_Col, ii z208.1.f_At.f_Off]) U36 rfl sz36 (hB235.cells rfl)) .nil)), _, v218, rfl, HF.out, hB217, hO219, hM221⟩
   ·
    refine WC.cond_f (vb c230 rfl) <|
     WC.skip <|
     WC.seq ?_
    have k225_228 := s225.t s228
    replace HF := HF.step k225_228 rfl
    refine WC.regionD' HF [] 3 4 (by kernel_rfl) rfl ?_
    intro w236 s237
    have k225_237 := k225_228.t s237
    replace hB220 := hB220.step k225_237 rfl
    have hB220D := hB220
    replace hB229 := hB229.step s237 rfl
    have hB229D := hB229
    replace HF := HF.step s237 rfl
    have sR := HF.here []
    refine WA.seq [0, 1, 2] (lb 4 7) 1 (by kernel_rfl) rfl ⟨_, sR⟩ <|
     X1 rfl (fun w_ hS_ => ex_load1 (v := ii z208.2.2.2.1) rfl U3 rfl ((hB220D.step hS_.choose_spec rfl).cell rfl)) <|
     X1 rfl (fun w_ hS_ => ex_loadN (cs := [ii z208.1.f_Code, ii z208.1.f_At.f_Line, ii z208.1.f_At.f_Col, ii z208.1.f_At.f_Off]) rfl U36 rfl sz36 ((hB229D.step hS_.choose_spec rfl).cells rfl)) <|
     X1 rfl (fun w_ hS_ => ex_assign (v := ii z208.2.2.2.1) rfl) <|
     WA.last 3 (by kernel_rfl) (by kernel_rfl) rfl rfl rfl ?_
    have k211_237 := s211.t k225_237
    replace hB105 := hB105.step k211_237 rfl
    refine OW.storeW rfl s5_132 sz36 hB105 rfl (oa rfl) ?_
    intro w238 s239 hB240
    refine WC.ret ?_
    obtain rfl := Option.some.inj H
    replace HF := HF.step s239 rfl
    have k225_239 := k225_237.t s239
    replace hB217 := hB217.step k225_239 rfl
    replace hO219 := hO219.step k225_239 rfl rfl
    replace hM221 := hM221.step k225_239 rfl
    exact ⟨_, (.tmp _ rfl (.cell _ s5_132 (run_loadN (cs := [ii z208.1.f_Code, ii z208.1.f_At.f_Line, ii z208.1.f_At.f_Col, ii z208.1.f_At.f_Off]) U36 rfl sz36 (hB240.cells rfl)) .nil)), _, v218, rfl, HF.out, hB217, hO219, hM221⟩
  have Ho135 := H
  rintro k136 ρ137 w138 ⟨o139, x131, x132, HF, hO119, hB0, hO0_0, hM0_1, hB105, hB127, hG, s0_130, s4_130, s5_130, s6_130, s7_130, s8_131, s23_131, s24_131, s25_132, H⟩
  cases k136 with
  | zero => cases H
  | succ k136 =>
  rw [syntax_Parse.l1.eq_2] at H
  refine WC.seq <|
   WC.region <|
   E rfl (e2 bin_lss s25_132 s24_131) <|
   WL.nil <|
   WC.seq ?_
  rcases condE H with ⟨c140, H⟩ | ⟨c140, H⟩
  ·
   refine WC.cond_t (vb c140 rfl) <|
    WC.skip ?_
   obtain ⟨z142, hz142, H⟩ := bindE H
   refine WC.cut (fun ρ_ w_ => ∃ (o_ : Tags) (x141 : Int), Fm o0 w0 o_ w_ [2, 3, 4] ∧ Own T_api_Token.rep 76 41 o_ w_ v118 z114.1 ∧ Bk o_ w_ 2 pb0 [pv0_0, .map (some pb0_1)] 56 ∧ Own T_api_Node.rep 60 3 o_ w_ pv0_0 a0.f_rows ∧ Mp (fun x_ : T_api_Node => Value.agg #[ii x_.f_Kind, encS x_.f_Name, ii x_.f_L, ii x_.f_R]) (fun v_ : Int => ii v_) 4 o_ w_ pb0_1 a0_1 ∧ Bk o_ w_ 40 b101 [ii (0 : Int), ii (0 : Int), ii (0 : Int), ii (0 : Int)] 36 ∧ Bk o_ w_ 42 b120 [ii z114.2.f_Code, ii z114.2.f_At.f_Line, ii z114.2.f_At.f_Col, ii z114.2.f_At.f_Off] 36 ∧ Gl GG o_ w_ ∧ ρ_ 0 = pp pb0 0 ∧ ρ_ 4 = ii 0 ∧ ρ_ 5 = pp b101 0 ∧ ρ_ 6 = v118 ∧ ρ_ 7 = pp b120 0 ∧ ρ_ 8 = ii x141 ∧ ρ_ 23 = v118 ∧ ρ_ 24 = ii (z114.1.length : Int) ∧ ρ_ 25 = ii x132 ∧ z142 = .inr x141) ?case143 ?_
   case case143 =>
    rintro ρ146 w144 ⟨o145, x141, HF, hO119, hB0, hO0_0, hM0_1, hB105, hB127, hG, s0_140, s4_140, s5_140, s6_140, s7_140, s8_141, s23_141, s24_141, s25_141, rfl⟩
    replace H : _ = some _ := H
    dsimp only at H
    refine WC.region <|
     E rfl (e2 bin_add64 s25_141 rfl) <|
     E rfl (mv (ii (wrap64 (x132 + 1))) rfl) <|
     WL.nil ?_
    exact ⟨k136, Nat.lt_succ_self _, ⟨_, x141, wrap64 (x132 + 1), HF, hO119, hB0, hO0_0, hM0_1, hB105, hB127, hG, s0_140, s4_140, s5_140, s6_140, s7_140, s8_141, s23_141, s24_141, rfl, H⟩⟩
   have Ho147 := H
   replace H := hz142
   refine WC.block <|
    WC.seq <|
    WC.region ?_
   obtain ⟨x148, hx148, H⟩ := bindE H
   obtain ⟨A153, c154, q155_⟩ := hO119.slice
   obtain ⟨ad149, cc156, e150, g151, g152, hl157, hR158, cell159⟩ := Row.ix (Own.rowOf hO119 q155_) hx148
   obtain rfl := T_api_Token.opn hR158
   refine E rfl (ex_indexAddr (i := x132) ((show _ = (v118 : Value) from s23_131).trans q155_) e150 s25_132 U71 sz76 g151 g152) <|
    E rfl (ex_loadN (cs := [ii x148.f_Kind, encS x148.f_Text, ii x148.f_Int, ii x148.f_At.f_Line, ii x148.f_At.f_Col, ii x148.f_At.f_Off]) rfl U76 rfl sz76 cell159) <|
    WL.op rfl <|
    OW.alloc' [ii (0 : Int), encS ([] : List UInt8), ii (0 : Int), ii (0 : Int), ii (0 : Int), ii (0 : Int)] 43 HF rfl zr76 rfl ?_
   intro o162 w163 b161 s164 hB165
   refine WL.op rfl <|
    OW.storeW rfl rfl sz76 hB165 rfl (oa rfl) ?_
   intro w166 s167 hB168
   refine WL.nil <|
    WC.seq <|
    WC.region <|
    E rfl (ex_loadN (cs := [ii x148.f_Kind, encS x148.f_Text, ii x148.f_Int, ii x148.f_At.f_Line, ii x148.f_At.f_Col, ii x148.f_At.f_Off]) rfl U76 rfl sz76 (hB168.cells rfl)) ?_
   obtain ⟨z169, hz169, H⟩ := bindE H
   refine WL.op rfl ?_
   have k164_167 := s164.t s167
   replace HF := HF.step k164_167 rfl
   refine OW.call [.agg #[ii x148.f_Kind, encS x148.f_Text, ii x148.f_Int, ii x148.f_At.f_Line, ii x148.f_At.f_Col, ii x148.f_At.f_Off]] rfl Tryz.func29 (by kernel_rfl) (by kernel_rfl) (map_cons' rfl rfl) (syntax_counted.calls _ _ (a0 := x148) hz169 (HF.ten (V := [0]) (L := []) rfl) ) ?_
   rintro _ w170 ⟨o171, rfl, s172⟩
   refine ⟨_, rfl, ?_⟩
   replace s172 := un_stepL (J := []) (L' := []) s172 rfl rfl
   refine WL.nil ?_
   rcases condE H with ⟨c173, H⟩ | ⟨c173, H⟩
   ·
    refine WC.cond_t (vb c173 rfl) <|
     WC.seq <|
     WC.region <|
     E rfl (mv (ii x131) s8_131) <|
     E rfl (e2 bin_add64 rfl rfl) <|
     E rfl (sg (ii (wrap64 (x131 + 1))) rfl) <|
     WL.nil <|
     WC.seq <|
     WC.region <|
     E rfl (mv (ii (wrap64 (x131 + 1))) rfl) <|
     E rfl (e2 bin_gtr rfl rfl) <|
     WL.nil ?_
    rcases condE H with ⟨c174, H⟩ | ⟨c174, H⟩
    ·
     refine WC.cond_t (vb c174 rfl) <|
      WC.seq ?_
     replace HF := HF.step s172 rfl
     refine WC.regionD' HF [] 4 5 (by kernel_rfl) rfl ?_
     intro w175 s176
     have k172_176 := s172.t s176
     replace hB168 := hB168.step k172_176 rfl
     have hB168D := hB168
     replace HF := HF.step s176 rfl
     have sR := HF.here []
     refine WA.seq [0, 1, 2, 3] (lb 5 15) 1 (by kernel_rfl) rfl ⟨_, sR⟩ <|
      X1 rfl (fun w_ hS_ => ex_fieldAddr rfl U76 rfl sz34) <|
      X1 rfl (fun w_ hS_ => ex_loadN (cs := [ii x148.f_At.f_Line, ii x148.f_At.f_Col, ii x148.f_At.f_Off]) rfl U34 rfl sz34 ((hB168D.step hS_.choose_spec rfl).cells rfl)) <|
      X1 rfl (fun w_ hS_ => ex_build (cs := [ii 40, ii x148.f_At.f_Line, ii x148.f_At.f_Col, ii x148.f_At.f_Off]) [(0, 1), (1, 3)] [(0, ii 40), (1, .agg #[ii x148.f_At.f_Line, ii x148.f_At.f_Col, ii x148.f_At.f_Off])] [ii 0, ii 0, ii 0, ii 0] U36 zr36 rfl (by kernel_rfl) (evs_cons rfl (evs_cons rfl rfl)) rfl) <|
      X1 rfl (fun w_ hS_ => ex_assign (v := ii 0) rfl) <|
      WA.last 4 (by kernel_rfl) (by kernel_rfl) rfl rfl rfl ?_
     have k164_176 := k164_167.t k172_176
     replace hB105 := hB105.step k164_176 rfl
     refine OW.storeW rfl s5_130 sz36 hB105 rfl (oa rfl) ?_
     intro w177 s178 hB179
     refine WC.ret ?_
     obtain rfl := Option.some.inj H
     replace H := Ho147
     dsimp only at H
     obtain rfl := Option.some.inj H
     replace H := Ho135
     dsimp only at H
     obtain rfl := Option.some.inj H
     replace HF := HF.step s178 rfl
     have k164_178 := k164_176.t s178
     replace hB0 := hB0.step k164_178 rfl
     replace hO0_0 := hO0_0.step k164_178 rfl rfl
     replace hM0_1 := hM0_1.step k164_178 rfl
     exact ⟨_, (.tmp _ rfl (.cell _ s5_130 (run_loadN (cs := [ii 40, ii x148.f_At.f_Line, ii x148.f_At.f_Col, ii x148.f_At.f_Off]) U36 rfl sz36 (hB179.cells rfl)) .nil)), _, pv0_0, rfl, HF.out, hB0, hO0_0, hM0_1⟩
    ·
     refine WC.cond_f (vb c174 rfl) <|
      WC.skip ?_
     obtain rfl := Option.some.inj H
     replace HF := HF.step s172 rfl
     have k164_172 := k164_167.t s172
     replace hO119 := hO119.step k164_172 rfl rfl
     replace hB0 := hB0.step k164_172 rfl
     replace hO0_0 := hO0_0.step k164_172 rfl rfl
     replace hM0_1 := hM0_1.step k164_172 rfl
     replace hB105 := hB105.step k164_172 rfl
     replace hB127 := hB127.step k164_172 rfl
     replace hG := hG.step k164_172 rfl
     exact ⟨_, wrap64 (x131 + 1), HF, hO119, hB0, hO0_0, hM0_1, hB105, hB127, hG, s0_130, s4_130, s5_130, s6_130, s7_130, rfl, s23_131, s24_131, s25_132, rfl⟩
   ·
    refine WC.cond_f (vb c173 rfl) <|
     WC.skip ?_
    obtain rfl := Option.some.inj H
    replace HF := HF.step s172 rfl
    have k164_172 := k164_167.t s172
    replace hO119 := hO119.step k164_172 rfl rfl
    replace hB0 := hB0.step k164_172 rfl
    replace hO0_0 := hO0_0.step k164_172 rfl rfl
    replace hM0_1 := hM0_1.step k164_172 rfl
    replace hB105 := hB105.step k164_172 rfl
    replace hB127 := hB127.step k164_172 rfl
    replace hG := hG.step k164_172 rfl
    exact ⟨_, x131, HF, hO119, hB0, hO0_0, hM0_1, hB105, hB127, hG, s0_130, s4_130, s5_130, s6_130, s7_130, s8_131, s23_131, s24_131, s25_132, rfl⟩
  ·
   refine WC.cond_f (vb c140 rfl) <|
    WC.exit ?_
   obtain rfl := Option.some.inj H
   exact ⟨_, HF, hO119, hB0, hO0_0, hM0_1, hB105, hB127, hG, s0_130, s4_130, s5_130, s6_130, s7_130, rfl⟩

/-! ### dictumref03_Same -/
set_option maxRecDepth 100000 in
theorem dictumref03_Same.calls (k : Nat) (o0 : Tags) (w0 : World) (pA0 : Option Addr) (pc0 : Nat) (pA1 : Option Addr) (pc1 : Nat) {a0 : (List T_api_Node)} {a1 : (List T_api_Node)} {r : Bool} (H : dictumref03_Same.f k a0 a1 = some r) (hO : ∀ b, b < w0.heap.size → o0 b < 40) (hra0 : Row T_api_Node.rep (fun b_ => o0 b_ = 0) (fun b_ => o0 b_ = 0) w0 pA0 a0) (hla0 : a0.length ≤ pc0) (hra1 : Row T_api_Node.rep (fun b_ => o0 b_ = 0) (fun b_ => o0 b_ = 0) w0 pA1 a1) (hla1 : a1.length ≤ pc1) :
  Calls Tryz.prog 19 [.slice pA0 a0.length pc0, .slice pA1 a1.length pc1].toArray w0 fun e_ w_ => ∃ (o_ : Tags), e_ = .returned (one [.bool r]) ∧ Step o0 w0 o_ w_ [] := by
 have HF := Fm.refl hO []
 unfold dictumref03_Same.f at H
 refine SX.calls [.slice pA0 a0.length pc0, .slice pA1 a1.length pc1] Tryz.func19 rfl rfl ?_
 rw [Tryz.ntmps19]
 refine WC.seq <|
  WC.region <|
  E rfl (sg (.bool false) rfl) <|
  WL.nil <|
  WC.seq <|
  WC.seq <|
  WC.region <|
  E rfl (mv (.slice pA0 a0.length pc0) rfl) <|
  E rfl (ex_len_slice (A := pA0) (m := a0.length) (c := pc0) rfl U22) <|
  E rfl (mv (.slice pA1 a1.length pc1) rfl) <|
  E rfl (ex_len_slice (A := pA1) (m := a1.length) (c := pc1) rfl U22) <|
  E rfl (e2 bin_neq rfl rfl) <|
  WL.nil ?_
 rcases condE H with ⟨c101, H⟩ | ⟨c101, H⟩
 ·
  refine WC.cond_t (vb c101 rfl) <|
   WC.seq <|
   WC.region <|
   E rfl (sg (.bool false) rfl) <|
   WL.nil <|
   WC.ret ?_
  obtain rfl := Option.some.inj H
  exact ⟨_, (.tmp _ rfl .nil), _, rfl, HF.out⟩
 ·
  refine WC.cond_f (vb c101 rfl) <|
   WC.skip <|
   WC.seq <|
   WC.seq <|
   WC.region <|
   E rfl (sg (ii 0) rfl) <|
   WL.nil ?_
  obtain ⟨z103, hz103, H⟩ := bindE H
  refine WC.for (fun k_ ρ_ w_ => ∃ (o_ : Tags) (x102 : Int), Fm o0 w0 o_ w_ [] ∧ Row T_api_Node.rep (fun b_ => o_ b_ = 0) (fun b_ => o_ b_ = 0) w_ pA0 a0 ∧ Row T_api_Node.rep (fun b_ => o_ b_ = 0) (fun b_ => o_ b_ = 0) w_ pA1 a1 ∧ ρ_ 0 = .slice pA0 a0.length pc0 ∧ ρ_ 1 = .slice pA1 a1.length pc1 ∧ ρ_ 4 = .bool false ∧ ρ_ 5 = ii x102 ∧ dictumref03_Same.l1 k a0 a1 k_ x102 = some z103) k (fun ρ_ w_ => ∃ (o_ : Tags), Fm o0 w0 o_ w_ [] ∧ ρ_ 4 = .bool false ∧ z103 = .inr ()) ⟨_, 0, HF, hra0, hra1, rfl, rfl, rfl, rfl, hz103⟩ ?case104 ?_
  case case104 =>
   rintro ρ134 w135 ⟨o136, HF, s4_102, rfl⟩
   dsimp only at H
   refine WC.seq <|
    WC.region <|
    E rfl (sg (.bool true) rfl) <|
    WL.nil <|
    WC.ret ?_
   obtain rfl := Option.some.inj H
   exact ⟨_, (.tmp _ rfl .nil), _, rfl, HF.out⟩
  have Ho105 := H
  rintro k106 ρ107 w108 ⟨o109, x102, HF, hra0, hra1, s0_101, s1_101, s4_101, s5_102, H⟩
  cases k106 with
  | zero => cases H
  | succ k106 =>
  rw [dictumref03_Same.l1.eq_2] at H
  refine WC.seq <|
   WC.seq <|
   WC.region <|
   E rfl (mv (ii x102) s5_102) <|
   E rfl (mv (.slice pA0 a0.length pc0) s0_101) <|
   E rfl (ex_len_slice (A := pA0) (m := a0.length) (c := pc0) rfl U22) <|
   E rfl (e2 bin_lss rfl rfl) <|
   WL.nil ?_
  rcases condE H with ⟨c110, H⟩ | ⟨c110, H⟩
  ·
   refine WC.cond_t (vb c110 rfl) <|
    WC.skip <|
    WC.seq <|
    WC.block <|
    WC.seq <|
    WC.regionD' HF [] 9 9 (by kernel_rfl) rfl ?_
   intro w111 s112
   replace hra0 := hra0.step s112 rfl
   have hra0D := hra0
   replace hra1 := hra1.step s112 rfl
   have hra1D := hra1
   replace HF := HF.step s112 rfl
   have sR := HF.here []
   refine WA.seq [0, 1, 2, 3, 4, 5, 6, 7, 8] (lb 9 511) 0 (by kernel_rfl) rfl ⟨_, sR⟩ <|
    X1 rfl (fun w_ hS_ => ex_move (v := .slice pA0 a0.length pc0) s0_101) <|
    X1 rfl (fun w_ hS_ => ex_move (v := ii x102) s5_102) ?_
   obtain ⟨x113, hx113, H⟩ := bindE H
   obtain ⟨ad114, cc118, e115, g116, g117, hl119, hR120, cell121⟩ := Row.ix hra0D hx113
   obtain rfl := T_api_Node.opn hR120
   have hk122 := Row.at hra0D e115 hx113 (x102.toNat * 4)
   replace cell121 := fun j_ u_ hu_ => held_cell (Step.refl _ _ _) ⟨_, sR⟩ (by rw [add_block]; exact hk122) rfl (cell121 j_ u_ hu_)
   refine X1 rfl (fun w_ hS_ => ex_indexAddr (i := x102) rfl e115 rfl U22 sz60 g116 g117) <|
    X1 rfl (fun w_ hS_ => ex_loadN (cs := [ii x113.f_Kind, encS x113.f_Name, ii x113.f_L, ii x113.f_R]) rfl U60 rfl sz60 (fun j_ u_ hu_ => held_cell sR hS_ (by rw [add_block]; exact hk122) rfl (cell121 j_ u_ hu_))) <|
    X1 rfl (fun w_ hS_ => ex_move (v := .slice pA1 a1.length pc1) s1_101) <|
    X1 rfl (fun w_ hS_ => ex_move (v := ii x102) s5_102) ?_
   obtain ⟨x123, hx123, H⟩ := bindE H
   obtain ⟨ad124, cc128, e125, g126, g127, hl129, hR130, cell131⟩ := Row.ix hra1D hx123
   obtain rfl := T_api_Node.opn hR130
   have hk132 := Row.at hra1D e125 hx123 (x102.toNat * 4)
   replace cell131 := fun j_ u_ hu_ => held_cell (Step.refl _ _ _) ⟨_, sR⟩ (by rw [add_block]; exact hk132) rfl (cell131 j_ u_ hu_)
   refine X1 rfl (fun w_ hS_ => ex_indexAddr (i := x102) rfl e125 rfl U22 sz60 g126 g127) <|
    X1 rfl (fun w_ hS_ => ex_loadN (cs := [ii x123.f_Kind, encS x123.f_Name, ii x123.f_L, ii x123.f_R]) rfl U60 rfl sz60 (fun j_ u_ hu_ => held_cell sR hS_ (by rw [add_block]; exact hk132) rfl (cell131 j_ u_ hu_))) <|
    X1 rfl (fun w_ hS_ => ex_bin (a := .agg #[ii x113.f_Kind, encS x113.f_Name, ii x113.f_L, ii x113.f_R]) (b := .agg #[ii x123.f_Kind, encS x123.f_Name, ii x123.f_L, ii x123.f_R]) (v := .bool (!(T_api_Node.eqb x113 x123))) rfl rfl (bin_neq_agg (by kernel_rfl) (EqR.agg U60 (by kernel_rfl) (EqF.cons (by decide) (PartR.one U58 rfl rfl) (PartR.one U58 rfl rfl) (EqR.int U58) (EqF.cons (by decide) (PartR.one U9 rfl rfl) (PartR.one U9 rfl rfl) (EqR.str U9) (EqF.cons (by decide) (PartR.one U3 rfl rfl) (PartR.one U3 rfl rfl) (EqR.int U3) (EqF.cons (by decide) (PartR.one U3 rfl rfl) (PartR.one U3 rfl rfl) (EqR.int U3) EqF.nil))))))) <|
    WA.done (by kernel_rfl) ?_
   rcases condE H with ⟨c133, H⟩ | ⟨c133, H⟩
   ·
    refine WC.cond_t (vb c133 rfl) <|
     WC.seq <|
     WC.region <|
     E rfl (sg (.bool false) rfl) <|
     WL.nil <|
     WC.ret ?_
    obtain rfl := Option.some.inj H
    replace H := Ho105
    dsimp only at H
    obtain rfl := Option.some.inj H
    exact ⟨_, (.tmp _ rfl .nil), _, rfl, HF.out⟩
   ·
    refine WC.cond_f (vb c133 rfl) <|
     WC.skip <|
     WC.region <|
     E rfl (mv (ii x102) s5_102) <|
     E rfl (e2 bin_add64 rfl rfl) <|
     E rfl (sg (ii (wrap64 (x102 + 1))) rfl) <|
     WL.nil ?_
    exact ⟨k106, Nat.lt_succ_self _, ⟨_, wrap64 (x102 + 1), HF, hra0, hra1, s0_101, s1_101, s4_101, rfl, H⟩⟩
  ·
   refine WC.cond_f (vb c110 rfl) <|
    WC.exit ?_
   obtain rfl := Option.some.inj H
   exact ⟨_, HF, s4_101, rfl⟩

/-! ### formula_Table_Node -/
set_option maxRecDepth 100000 in
theorem formula_Table_Node.calls (o0 : Tags) (w0 : World) (pb0 : Nat) (pv0_0 : Value) (pb0_1 : Nat) {a0 : T_formula_Table} {a1 : Int} {a0_1 : (List (T_api_Node × Int))} {r : T_api_Node × Bool} (H : formula_Table_Node.f a0 a1 a0_1 = some r) (hO : ∀ b, b < w0.heap.size → o0 b < 40) (hB0 : Bk o0 w0 2 pb0 [pv0_0, .map (some pb0_1)] 56) (hO0_0 : Own T_api_Node.rep 60 3 o0 w0 pv0_0 a0.f_rows) (hM0_1 : Mp (fun x_ : T_api_Node => Value.agg #[ii x_.f_Kind, encS x_.f_Name, ii x_.f_L, ii x_.f_R]) (fun v_ : Int => ii v_) 4 o0 w0 pb0_1 a0_1) :
  Calls Tryz.prog 24 [pp pb0 0, ii a1].toArray w0 fun e_ w_ => ∃ (o_ : Tags), e_ = .returned (one [.agg #[ii r.1.f_Kind, encS r.1.f_Name, ii r.1.f_L, ii r.1.f_R], .bool r.2]) ∧ Step o0 w0 o_ w_ [] := by
 have HF := Fm.refl hO []
 unfold formula_Table_Node.f at H
 refine SX.calls [pp pb0 0, ii a1] Tryz.func24 rfl rfl ?_
 rw [Tryz.ntmps24]
 refine WC.seq <|
  WC.region <|
  WL.op rfl <|
  OW.alloc' [ii (0 : Int), encS ([] : List UInt8), ii (0 : Int), ii (0 : Int)] 40 HF rfl zr60 rfl ?_
 intro o102 w103 b101 s104 hB105
 refine E rfl (sg (.bool false) rfl) <|
  WL.nil <|
  WC.seq <|
  WC.seq <|
  WC.region <|
  E rfl (mv (pp pb0 0) rfl) ?_
 obtain ⟨z106, hz106, H⟩ := bindE H
 refine WL.op rfl ?_
 replace hO0_0 := hO0_0.step s104 rfl rfl
 replace hB0 := hB0.step s104 rfl
 replace hM0_1 := hM0_1.step s104 rfl
 replace HF := HF.step s104 rfl
 refine OW.call [pp pb0 0] rfl Tryz.func22 (by kernel_rfl) (by kernel_rfl) (map_cons' rfl rfl) (formula_Table_alive.calls _ _ pb0 pv0_0 pb0_1 (a0 := a0) hz106 (HF.ten (V := [0]) (L := [2, 3, 4]) rfl) (Bk.vw hB0 rfl) (Own.vw hO0_0 rfl rfl) (Mp.vw hM0_1 rfl)) ?_
 obtain rfl := Option.some.inj (show some true = some z106 from hz106)
 rintro _ w107 ⟨o108, rfl, s109⟩
 refine ⟨_, rfl, ?_⟩
 replace s109 := un_stepL (J := []) (L' := []) s109 rfl rfl
 refine E rfl (ex_not (b := true) rfl) <|
  E rfl (mv (.bool false) rfl) <|
  WL.guardYes rfl rfl rfl rfl <|
  OW.ex rfl (mv (pp pb0 0) rfl) <|
  WL.guardYes rfl rfl rfl rfl <|
  OW.ex rfl (mv (ii a1) rfl) <|
  WL.guardYes rfl rfl rfl rfl ?_
 obtain ⟨z110, hz110, H⟩ := bindE H
 replace hO0_0 := hO0_0.step s109 rfl rfl
 replace hB0 := hB0.step s109 rfl
 replace hM0_1 := hM0_1.step s109 rfl
 replace HF := HF.step s109 rfl
 refine OW.call [pp pb0 0, ii a1] rfl Tryz.func49 (by kernel_rfl) (by kernel_rfl) (map_cons' rfl (map_cons' rfl rfl)) (formula_Table_has.calls _ _ pb0 pv0_0 pb0_1 (a0 := a0) hz110 (HF.ten (V := [0]) (L := [2, 3, 4]) rfl) (Bk.vw hB0 rfl) (Own.vw hO0_0 rfl rfl) (Mp.vw hM0_1 rfl)) ?_
 rintro _ w111 ⟨o112, rfl, s113⟩
 refine ⟨_, rfl, ?_⟩
 replace s113 := un_stepL (J := []) (L' := []) s113 rfl rfl
 refine WL.guardYes rfl rfl rfl rfl <|
  OW.ex rfl (ex_not (b := z110) rfl) <|
  E rfl (ex_pick_f (v := .bool (!z110)) rfl rfl) <|
  WL.nil ?_
 rcases condE H with ⟨c114, H⟩ | ⟨c114, H⟩
 ·
  refine WC.cond_t (vb c114 rfl) <|
   WC.seq <|
   WC.region <|
   E rfl (ex_build (cs := [ii (0 : Int), encS ([] : List UInt8), ii (0 : Int), ii (0 : Int)]) [(0, 1), (1, 1), (2, 1), (3, 1)] [] [ii 0, .string ⟨#[]⟩, ii 0, ii 0] U60 zr60 rfl (by kernel_rfl) rfl rfl) <|
   WL.op rfl ?_
  have k109_113 := s109.t s113
  replace hB105 := hB105.step k109_113 rfl
  refine OW.storeW rfl rfl sz60 hB105 rfl (oa rfl) ?_
  intro w115 s116 hB117
  refine E rfl (sg (.bool false) rfl) <|
   WL.nil <|
   WC.ret ?_
  obtain rfl := Option.some.inj H
  have k113_116 := s113.t s116
  replace HF := HF.step k113_116 rfl
  exact ⟨_, (.cell _ rfl (run_loadN (cs := [ii (0 : Int), encS ([] : List UInt8), ii (0 : Int), ii (0 : Int)]) U60 rfl sz60 (hB117.cells rfl)) (.tmp _ rfl .nil)), _, rfl, HF.out⟩
 ·
  refine WC.cond_f (vb c114 rfl) <|
   WC.skip <|
   WC.seq <|
   WC.region <|
   E rfl (mv (pp pb0 0) rfl) <|
   E rfl (ex_nilCheck rfl) <|
   E rfl (ex_fieldAddr rfl U56 rfl sz22) ?_
  replace hB0 := hB0.step s113 rfl
  refine E rfl (ex_load1 rfl U22 rfl (hB0.cell rfl)) <|
   E rfl (mv (ii a1) rfl) ?_
  obtain ⟨x118, hx118, H⟩ := bindE H
  replace hO0_0 := hO0_0.step s113 rfl rfl
  obtain ⟨A123, c124, q125_⟩ := hO0_0.slice
  obtain ⟨ad119, cc126, e120, g121, g122, hl127, hR128, cell129⟩ := Row.ix (Own.rowOf hO0_0 q125_) hx118
  obtain rfl := T_api_Node.opn hR128
  refine E rfl (ex_indexAddr (i := a1) ((show _ = (pv0_0 : Value) from rfl).trans q125_) e120 rfl U22 sz60 g121 g122) <|
   E rfl (ex_loadN (cs := [ii x118.f_Kind, encS x118.f_Name, ii x118.f_L, ii x118.f_R]) rfl U60 rfl sz60 cell129) <|
   WL.op rfl ?_
  have k109_113 := s109.t s113
  replace hB105 := hB105.step k109_113 rfl
  refine OW.storeW rfl rfl sz60 hB105 rfl (oa rfl) ?_
  intro w131 s132 hB133
  refine E rfl (sg (.bool true) rfl) <|
   WL.nil <|
   WC.ret ?_
  obtain rfl := Option.some.inj H
  have k113_132 := s113.t s132
  replace HF := HF.step k113_132 rfl
  exact ⟨_, (.cell _ rfl (run_loadN (cs := [ii x118.f_Kind, encS x118.f_Name, ii x118.f_L, ii x118.f_R]) U60 rfl sz60 (hB133.cells rfl)) (.tmp _ rfl .nil)), _, rfl, HF.out⟩

/-! ### syntax_bot -/
set_option maxRecDepth 100000 in
theorem syntax_bot.calls (o0 : Tags) (w0 : World) (pb0 : Nat) (pv0_0 : Value) (pb0_1 : Nat) {a0 : T_formula_Table} {a1 : Int} {a0_1 : (List (T_api_Node × Int))} {r : Bool} (H : syntax_bot.f a0 a1 a0_1 = some r) (hO : ∀ b, b < w0.heap.size → o0 b < 40) (hB0 : Bk o0 w0 2 pb0 [pv0_0, .map (some pb0_1)] 56) (hO0_0 : Own T_api_Node.rep 60 3 o0 w0 pv0_0 a0.f_rows) (hM0_1 : Mp (fun x_ : T_api_Node => Value.agg #[ii x_.f_Kind, encS x_.f_Name, ii x_.f_L, ii x_.f_R]) (fun v_ : Int => ii v_) 4 o0 w0 pb0_1 a0_1) :
  Calls Tryz.prog 73 [pp pb0 0, ii a1].toArray w0 fun e_ w_ => ∃ (o_ : Tags), e_ = .returned (one [.bool r]) ∧ Step o0 w0 o_ w_ [] := by
 have HF := Fm.refl hO []
 unfold syntax_bot.f at H
 refine SX.calls [pp pb0 0, ii a1] Tryz.func73 rfl rfl ?_
 rw [Tryz.ntmps73]
 refine WC.seq <|
  WC.region <|
  E rfl (sg (.bool false) rfl) <|
  WL.nil <|
  WC.seq <|
  WC.region <|
  E rfl (mv (pp pb0 0) rfl) <|
  E rfl (mv (ii a1) rfl) ?_
 obtain ⟨z101, hz101, H⟩ := bindE H
 refine WL.op rfl <|
  OW.call [pp pb0 0, ii a1] rfl Tryz.func24 (by kernel_rfl) (by kernel_rfl) (map_cons' rfl (map_cons' rfl rfl)) (formula_Table_Node.calls _ _ pb0 pv0_0 pb0_1 (a0 := a0) hz101 (HF.ten (V := [0]) (L := [2, 3, 4]) rfl) (Bk.vw hB0 rfl) (Own.vw hO0_0 rfl rfl) (Mp.vw hM0_1 rfl)) ?_
 rintro _ w102 ⟨o103, rfl, s104⟩
 refine ⟨_, rfl, ?_⟩
 replace s104 := un_stepL (J := []) (L' := []) s104 rfl rfl
 refine E rfl (mv (.tuple #[.agg #[ii z101.1.f_Kind, encS z101.1.f_Name, ii z101.1.f_L, ii z101.1.f_R], .bool z101.2]) rfl) <|
  E rfl (ex_extract rfl rfl) <|
  E rfl (ex_extract rfl rfl) <|
  WL.op rfl ?_
 replace HF := HF.step s104 rfl
 refine OW.alloc' [ii (0 : Int), encS ([] : List UInt8), ii (0 : Int), ii (0 : Int)] 40 HF rfl zr60 rfl ?_
 intro o106 w107 b105 s108 hB109
 refine WL.op rfl <|
  OW.storeW rfl rfl sz60 hB109 rfl (oa rfl) ?_
 intro w110 s111 hB112
 refine E rfl (sg (.bool z101.2) rfl) <|
  WL.nil <|
  WC.seq <|
  WC.region <|
  E rfl (ex_fieldAddr rfl U60 rfl sz58) <|
  E rfl (ex_load1 rfl U58 rfl (hB112.cell rfl)) <|
  E rfl (e2 bin_eql rfl rfl) <|
  E rfl (sg (.bool (z101.1.f_Kind == 2)) rfl) <|
  WL.nil <|
  WC.ret ?_
 obtain rfl := Option.some.inj H
 have k108_111 := s108.t s111
 replace HF := HF.step k108_111 rfl
 exact ⟨_, (.tmp _ rfl .nil), _, rfl, HF.out⟩

/-! ### syntax_pieces -/
set_option maxRecDepth 100000 in
theorem syntax_pieces.calls (o0 : Tags) (w0 : World) (pb0 : Nat) (pv0_0 : Value) (pb0_1 : Nat) {a0 : T_formula_Table} {a1 : T_api_Node} {a0_1 : (List (T_api_Node × Int))} {r : (List UInt8) × (List Int) × (List Int)} (H : syntax_pieces.f a0 a1 a0_1 = some r) (hO : ∀ b, b < w0.heap.size → o0 b < 40) (hB0 : Bk o0 w0 2 pb0 [pv0_0, .map (some pb0_1)] 56) (hO0_0 : Own T_api_Node.rep 60 3 o0 w0 pv0_0 a0.f_rows) (hM0_1 : Mp (fun x_ : T_api_Node => Value.agg #[ii x_.f_Kind, encS x_.f_Name, ii x_.f_L, ii x_.f_R]) (fun v_ : Int => ii v_) 4 o0 w0 pb0_1 a0_1) :
  Calls Tryz.prog 50 [pp pb0 0, .agg #[ii a1.f_Kind, encS a1.f_Name, ii a1.f_L, ii a1.f_R]].toArray w0 fun e_ w_ => ∃ (o_ : Tags) (rv1 : Value) (rv2 : Value), e_ = .returned (one [encS r.1, rv1, rv2]) ∧ Step o0 w0 o_ w_ [] ∧ Own (Rep.int .i64) 3 39 o_ w_ rv1 r.2.1 ∧ Own (Rep.int .i64) 3 38 o_ w_ rv2 r.2.2 := by
 have HF := Fm.refl hO []
 unfold syntax_pieces.f at H
 refine SX.calls [pp pb0 0, .agg #[ii a1.f_Kind, encS a1.f_Name, ii a1.f_L, ii a1.f_R]] Tryz.func50 rfl rfl ?_
 rw [Tryz.ntmps50]
 refine WC.seq <|
  WC.region <|
  WL.op rfl <|
  OW.box' [ii a1.f_Kind, encS a1.f_Name, ii a1.f_L, ii a1.f_R] 40 HF rfl ((congrArg Value.cells (show ev _ _ = (.agg #[ii a1.f_Kind, encS a1.f_Name, ii a1.f_L, ii a1.f_R] : Value) from rfl)).trans rfl) ?_
 intro o102 w103 b101 s104 hB105
 refine E rfl (sg (encS ([] : List UInt8)) rfl) <|
  E rfl (sg (.slice none ([] : List Int).length 0) rfl) <|
  E rfl (sg (.slice none ([] : List Int).length 0) rfl) <|
  WL.nil <|
  WC.seq <|
  WC.seq <|
  WC.region <|
  E rfl (ex_fieldAddr rfl U60 rfl sz58) <|
  E rfl (ex_load1 rfl U58 rfl (hB105.cell rfl)) <|
  WL.nil <|
  WC.block <|
  WC.seq <|
  WC.region <|
  E rfl (e2 bin_eql rfl rfl) <|
  E rfl (sg (.bool (a1.f_Kind == 3)) rfl) <|
  WL.nil ?_
 rcases condE H with ⟨c106, H⟩ | ⟨c106, H⟩
 ·
  refine WC.cond_t (vb c106 rfl) <|
   WC.seq ?_
  replace HF := HF.step s104 rfl
  refine WC.regionD' HF [] 9 9 (by kernel_rfl) rfl ?_
  intro w107 s108
  replace hB105 := hB105.step s108 rfl
  have hB105D := hB105
  replace HF := HF.step s108 rfl
  have sR := HF.here []
  refine WA.seq [0, 1, 2, 3, 6] (lb 9 79) 4 (by kernel_rfl) rfl ⟨_, sR⟩ <|
   X1 rfl (fun w_ hS_ => ex_fieldAddr rfl U60 rfl sz3) <|
   X1 rfl (fun w_ hS_ => ex_load1 (v := ii a1.f_L) rfl U3 rfl ((hB105D.step hS_.choose_spec rfl).cell rfl)) <|
   X1 rfl (fun w_ hS_ => ex_fieldAddr rfl U60 rfl sz3) <|
   X1 rfl (fun w_ hS_ => ex_load1 (v := ii a1.f_R) rfl U3 rfl ((hB105D.step hS_.choose_spec rfl).cell rfl)) <|
   X1 rfl (fun w_ hS_ => ex_assign (v := encS ([32, 38, 32] : List UInt8)) rfl) ?_
  refine WA.both 4 5 (by kernel_rfl) rfl rfl rfl rfl ?_ ?_
  ·
   refine OW.row (r := (Rep.int .i64)) (xs := [a1.f_L, a1.f_R]) [(0, ii a1.f_L), (1, ii a1.f_R)] [[ii a1.f_L], [ii a1.f_R]] 41 HF rfl U92 sz3 zr3 rfl (evs_cons rfl (evs_cons rfl rfl)) rfl rfl ⟨rfl, rfl, trivial⟩ rfl rfl rfl rfl ?_
   intro o109 w110 v112 s111 hO113
   replace sR := Step.trans sR s111 (M := []) rfl rfl
   refine ⟨⟨_, sR⟩, ?_⟩
   refine WA.norm (listed' := lb 9 95) (by kernel_rfl) <|
    WA.seq [7] (lb 9 223) 2 (by kernel_rfl) rfl ⟨_, sR⟩ <|
    X1 rfl (fun w_ hS_ => ex_assign (v := v112) rfl) <|
    WA.one 5 (by kernel_rfl) rfl rfl ?_
   replace HF := HF.step s111 rfl
   refine OW.row (r := (Rep.int .i64)) (xs := [2, 3]) [(0, ii 2), (1, ii 3)] [[ii 2], [ii 3]] 42 HF rfl U92 sz3 zr3 rfl (evs_cons rfl (evs_cons rfl rfl)) rfl rfl ⟨rfl, rfl, trivial⟩ rfl rfl rfl rfl ?_
   intro o114 w115 v117 s116 hO118
   replace sR := Step.trans sR s116 (M := []) rfl rfl
   refine ⟨⟨_, sR⟩, ?_⟩
   refine WA.norm (listed' := lb 9 255) (by kernel_rfl) <|
    WA.seq [8] (lb 9 511) 0 (by kernel_rfl) rfl ⟨_, sR⟩ <|
    X1 rfl (fun w_ hS_ => ex_assign (v := v117) rfl) <|
    WA.done (by kernel_rfl) <|
    WC.ret ?_
   obtain rfl := Option.some.inj H
   replace hO113 := hO113.step s116 rfl rfl
   replace hO113 := Own.renTo (j := 39) hO113 rfl
   replace hO118 := Own.ren (i := 41) (j := 39) hO118 rfl rfl
   replace HF := HF.step s116 rfl
   replace HF := HF.ren (i := 41) (j := 39) rfl
   replace hO113 := Own.ren (i := 42) (j := 38) hO113 rfl rfl
   replace hO118 := Own.renTo (j := 38) hO118 rfl
   replace HF := HF.ren (i := 42) (j := 38) rfl
   exact ⟨_, (.tmp _ rfl (.tmp _ rfl (.tmp _ rfl .nil))), _, v112, v117, rfl, HF.out, hO113, hO118⟩
  ·
   refine OW.row (r := (Rep.int .i64)) (xs := [2, 3]) [(0, ii 2), (1, ii 3)] [[ii 2], [ii 3]] 41 HF rfl U92 sz3 zr3 rfl (evs_cons rfl (evs_cons rfl rfl)) rfl rfl ⟨rfl, rfl, trivial⟩ rfl rfl rfl rfl ?_
   intro o109 w110 v112 s111 hO113
   replace sR := Step.trans sR s111 (M := []) rfl rfl
   refine ⟨⟨_, sR⟩, ?_⟩
   refine WA.norm (listed' := lb 9 111) (by kernel_rfl) <|
    WA.one 4 (by kernel_rfl) rfl rfl ?_
   replace HF := HF.step s111 rfl
   refine OW.row (r := (Rep.int .i64)) (xs := [a1.f_L, a1.f_R]) [(0, ii a1.f_L), (1, ii a1.f_R)] [[ii a1.f_L], [ii a1.f_R]] 42 HF rfl U92 sz3 zr3 rfl (evs_cons rfl (evs_cons rfl rfl)) rfl rfl ⟨rfl, rfl, trivial⟩ rfl rfl rfl rfl ?_
   intro o114 w115 v117 s116 hO118
   replace sR := Step.trans sR s116 (M := []) rfl rfl
   refine ⟨⟨_, sR⟩, ?_⟩
   refine WA.norm (listed' := lb 9 127) (by kernel_rfl) <|
    WA.seq [7, 8] (lb 9 511) 0 (by kernel_rfl) rfl ⟨_, sR⟩ <|
    X1 rfl (fun w_ hS_ => ex_assign (v := v117) rfl) <|
    X1 rfl (fun w_ hS_ => ex_assign (v := v112) rfl) <|
    WA.done (by kernel_rfl) <|
    WC.ret ?_
   obtain rfl := Option.some.inj H
   replace hO118 := Own.renTo (j := 39) hO118 rfl
   replace hO113 := hO113.step s116 rfl rfl
   replace hO113 := Own.ren (i := 42) (j := 39) hO113 rfl rfl
   replace HF := HF.step s116 rfl
   replace HF := HF.ren (i := 42) (j := 39) rfl
   replace hO118 := Own.ren (i := 41) (j := 38) hO118 rfl rfl
   replace hO113 := Own.renTo (j := 38) hO113 rfl
   replace HF := HF.ren (i := 41) (j := 38) rfl
   exact ⟨_, (.tmp _ rfl (.tmp _ rfl (.tmp _ rfl .nil))), _, v117, v112, rfl, HF.out, hO118, hO113⟩
 ·
  refine WC.cond_f (vb c106 rfl) <|
   WC.seq <|
   WC.region <|
   E rfl (e2 bin_eql rfl rfl) <|
   E rfl (sg (.bool (a1.f_Kind == 4)) rfl) <|
   WL.nil ?_
  rcases condE H with ⟨c119, H⟩ | ⟨c119, H⟩
  ·
   refine WC.cond_t (vb c119 rfl) <|
    WC.seq ?_
   replace HF := HF.step s104 rfl
   refine WC.regionD' HF [] 9 9 (by kernel_rfl) rfl ?_
   intro w120 s121
   replace hB105 := hB105.step s121 rfl
   have hB105D := hB105
   replace HF := HF.step s121 rfl
   have sR := HF.here []
   refine WA.seq [0, 1, 2, 3, 6] (lb 9 79) 4 (by kernel_rfl) rfl ⟨_, sR⟩ <|
    X1 rfl (fun w_ hS_ => ex_fieldAddr rfl U60 rfl sz3) <|
    X1 rfl (fun w_ hS_ => ex_load1 (v := ii a1.f_L) rfl U3 rfl ((hB105D.step hS_.choose_spec rfl).cell rfl)) <|
    X1 rfl (fun w_ hS_ => ex_fieldAddr rfl U60 rfl sz3) <|
    X1 rfl (fun w_ hS_ => ex_load1 (v := ii a1.f_R) rfl U3 rfl ((hB105D.step hS_.choose_spec rfl).cell rfl)) <|
    X1 rfl (fun w_ hS_ => ex_assign (v := encS ([32, 124, 32] : List UInt8)) rfl) ?_
   refine WA.both 4 5 (by kernel_rfl) rfl rfl rfl rfl ?_ ?_
   ·
    refine OW.row (r := (Rep.int .i64)) (xs := [a1.f_L, a1.f_R]) [(0, ii a1.f_L), (1, ii a1.f_R)] [[ii a1.f_L], [ii a1.f_R]] 43 HF rfl U92 sz3 zr3 rfl (evs_cons rfl (evs_cons rfl rfl)) rfl rfl ⟨rfl, rfl, trivial⟩ rfl rfl rfl rfl ?_
    intro o122 w123 v125 s124 hO126
    replace sR := Step.trans sR s124 (M := []) rfl rfl
    refine ⟨⟨_, sR⟩, ?_⟩
    refine WA.norm (listed' := lb 9 95) (by kernel_rfl) <|
     WA.seq [7] (lb 9 223) 2 (by kernel_rfl) rfl ⟨_, sR⟩ <|
     X1 rfl (fun w_ hS_ => ex_assign (v := v125) rfl) <|
     WA.one 5 (by kernel_rfl) rfl rfl ?_
    replace HF := HF.step s124 rfl
    refine OW.row (r := (Rep.int .i64)) (xs := [1, 2]) [(0, ii 1), (1, ii 2)] [[ii 1], [ii 2]] 44 HF rfl U92 sz3 zr3 rfl (evs_cons rfl (evs_cons rfl rfl)) rfl rfl ⟨rfl, rfl, trivial⟩ rfl rfl rfl rfl ?_
    intro o127 w128 v130 s129 hO131
    replace sR := Step.trans sR s129 (M := []) rfl rfl
    refine ⟨⟨_, sR⟩, ?_⟩
    refine WA.norm (listed' := lb 9 255) (by kernel_rfl) <|
     WA.seq [8] (lb 9 511) 0 (by kernel_rfl) rfl ⟨_, sR⟩ <|
     X1 rfl (fun w_ hS_ => ex_assign (v := v130) rfl) <|
     WA.done (by kernel_rfl) <|
     WC.ret ?_
    obtain rfl := Option.some.inj H
    replace hO126 := hO126.step s129 rfl rfl
    replace hO126 := Own.renTo (j := 39) hO126 rfl
    replace hO131 := Own.ren (i := 43) (j := 39) hO131 rfl rfl
    replace HF := HF.step s129 rfl
    replace HF := HF.ren (i := 43) (j := 39) rfl
    replace hO126 := Own.ren (i := 44) (j := 38) hO126 rfl rfl
    replace hO131 := Own.renTo (j := 38) hO131 rfl
    replace HF := HF.ren (i := 44) (j := 38) rfl
    exact ⟨_, (.tmp _ rfl (.tmp _ rfl (.tmp _ rfl .nil))), _, v125, v130, rfl, HF.out, hO126, hO131⟩
   ·
    refine OW.row (r := (Rep.int .i64)) (xs := [1, 2]) [(0, ii 1), (1, ii 2)] [[ii 1], [ii 2]] 43 HF rfl U92 sz3 zr3 rfl (evs_cons rfl (evs_cons rfl rfl)) rfl rfl ⟨rfl, rfl, trivial⟩ rfl rfl rfl rfl ?_
    intro o122 w123 v125 s124 hO126
    replace sR := Step.trans sR s124 (M := []) rfl rfl
    refine ⟨⟨_, sR⟩, ?_⟩
    refine WA.norm (listed' := lb 9 111) (by kernel_rfl) <|
     WA.one 4 (by kernel_rfl) rfl rfl ?_
    replace HF := HF.step s124 rfl
    refine OW.row (r := (Rep.int .i64)) (xs := [a1.f_L, a1.f_R]) [(0, ii a1.f_L), (1, ii a1.f_R)] [[ii a1.f_L], [ii a1.f_R]] 44 HF rfl U92 sz3 zr3 rfl (evs_cons rfl (evs_cons rfl rfl)) rfl rfl ⟨rfl, rfl, trivial⟩ rfl rfl rfl rfl ?_
    intro o127 w128 v130 s129 hO131
    replace sR := Step.trans sR s129 (M := []) rfl rfl
    refine ⟨⟨_, sR⟩, ?_⟩
    refine WA.norm (listed' := lb 9 127) (by kernel_rfl) <|
     WA.seq [7, 8] (lb 9 511) 0 (by kernel_rfl) rfl ⟨_, sR⟩ <|
     X1 rfl (fun w_ hS_ => ex_assign (v := v130) rfl) <|
     X1 rfl (fun w_ hS_ => ex_assign (v := v125) rfl) <|
     WA.done (by kernel_rfl) <|
     WC.ret ?_
    obtain rfl := Option.some.inj H
    replace hO131 := Own.renTo (j := 39) hO131 rfl
    replace hO126 := hO126.step s129 rfl rfl
    replace hO126 := Own.ren (i := 44) (j := 39) hO126 rfl rfl
    replace HF := HF.step s129 rfl
    replace HF := HF.ren (i := 44) (j := 39) rfl
    replace hO131 := Own.ren (i := 43) (j := 38) hO131 rfl rfl
    replace hO126 := Own.renTo (j := 38) hO126 rfl
    replace HF := HF.ren (i := 43) (j := 38) rfl
    exact ⟨_, (.tmp _ rfl (.tmp _ rfl (.tmp _ rfl .nil))), _, v130, v125, rfl, HF.out, hO131, hO126⟩
  ·
   refine WC.cond_f (vb c119 rfl) <|
    WC.seq <|
    WC.region <|
    E rfl (e2 bin_eql rfl rfl) <|
    E rfl (sg (.bool (a1.f_Kind == 5)) rfl) <|
    WL.nil ?_
   rcases condE H with ⟨c132, H⟩ | ⟨c132, H⟩
   ·
    refine WC.cond_t (vb c132 rfl) <|
     WC.seq <|
     WC.block ?_
    obtain ⟨z134, hz134, H⟩ := bindE H
    refine WC.cut (fun ρ_ w_ => ∃ (o_ : Tags), Fm o0 w0 o_ w_ [] ∧ Bk o_ w_ 2 pb0 [pv0_0, .map (some pb0_1)] 56 ∧ Own T_api_Node.rep 60 3 o_ w_ pv0_0 a0.f_rows ∧ Mp (fun x_ : T_api_Node => Value.agg #[ii x_.f_Kind, encS x_.f_Name, ii x_.f_L, ii x_.f_R]) (fun v_ : Int => ii v_) 4 o_ w_ pb0_1 a0_1 ∧ Bk o_ w_ 40 b101 [ii a1.f_Kind, encS a1.f_Name, ii a1.f_L, ii a1.f_R] 60 ∧ ρ_ 0 = pp pb0 0 ∧ ρ_ 3 = pp b101 0 ∧ ρ_ 4 = encS ([] : List UInt8) ∧ ρ_ 5 = .slice none ([] : List Int).length 0 ∧ ρ_ 6 = .slice none ([] : List Int).length 0 ∧ ρ_ 27 = .bool z134) ?case135 ?_
    case case135 =>
     rintro ρ138 w136 ⟨o137, HF, hB0, hO0_0, hM0_1, hB105, s0_132, s3_132, s4_132, s5_132, s6_132, s27_133⟩
     rcases condE H with ⟨c139, H⟩ | ⟨c139, H⟩
     ·
      refine WC.cond_t (vb c139 s27_133) <|
       WC.seq <|
       WC.region <|
       E rfl (sg (encS ([116, 114, 117, 101] : List UInt8)) rfl) <|
       E rfl (sg (.slice none ([] : List Int).length 0) rfl) <|
       E rfl (sg (.slice none ([] : List Int).length 0) rfl) <|
       WL.nil <|
       WC.ret ?_
      obtain rfl := Option.some.inj H
      exact ⟨_, (.tmp _ rfl (.tmp _ rfl (.tmp _ rfl .nil))), _, (.slice none 0 0), (.slice none 0 0), rfl, HF.out, Own.nil, Own.nil⟩
     ·
      refine WC.cond_f (vb c139 s27_133) <|
       WC.seq <|
       WC.region <|
       E rfl (mv (pp pb0 0) s0_132) <|
       E rfl (ex_fieldAddr s3_132 U60 rfl sz3) <|
       E rfl (ex_load1 rfl U3 rfl (hB105.cell rfl)) ?_
      obtain ⟨z140, hz140, H⟩ := bindE H
      refine WL.op rfl <|
       OW.call [pp pb0 0, ii a1.f_R] rfl Tryz.func73 (by kernel_rfl) (by kernel_rfl) (map_cons' rfl (map_cons' rfl rfl)) (syntax_bot.calls _ _ pb0 pv0_0 pb0_1 (a0 := a0) hz140 (HF.ten (V := [0]) (L := [2, 3, 4]) rfl) (Bk.vw hB0 rfl) (Own.vw hO0_0 rfl rfl) (Mp.vw hM0_1 rfl)) ?_
      rintro _ w141 ⟨o142, rfl, s143⟩
      refine ⟨_, rfl, ?_⟩
      replace s143 := un_stepL (J := []) (L' := []) s143 rfl rfl
      refine E rfl (sg (.bool z140) rfl) <|
       WL.nil ?_
      rcases condE H with ⟨c144, H⟩ | ⟨c144, H⟩
      ·
       refine WC.cond_t (vb c144 rfl) <|
        WC.seq ?_
       replace HF := HF.step s143 rfl
       refine WC.regionD' HF [] 7 7 (by kernel_rfl) rfl ?_
       intro w145 s146
       have k143_146 := s143.t s146
       replace hB105 := hB105.step k143_146 rfl
       have hB105D := hB105
       replace HF := HF.step s146 rfl
       have sR := HF.here []
       refine WA.seq [0, 1, 4] (lb 7 19) 4 (by kernel_rfl) rfl ⟨_, sR⟩ <|
        X1 rfl (fun w_ hS_ => ex_fieldAddr s3_132 U60 rfl sz3) <|
        X1 rfl (fun w_ hS_ => ex_load1 (v := ii a1.f_L) rfl U3 rfl ((hB105D.step hS_.choose_spec rfl).cell rfl)) <|
        X1 rfl (fun w_ hS_ => ex_assign (v := encS ([126] : List UInt8)) rfl) ?_
       refine WA.both 2 3 (by kernel_rfl) rfl rfl rfl rfl ?_ ?_
       ·
        refine OW.row (r := (Rep.int .i64)) (xs := [a1.f_L]) [(0, ii a1.f_L)] [[ii a1.f_L]] 45 HF rfl U92 sz3 zr3 rfl (evs_cons rfl rfl) rfl rfl ⟨rfl, trivial⟩ rfl rfl rfl rfl ?_
        intro o147 w148 v150 s149 hO151
        replace sR := Step.trans sR s149 (M := []) rfl rfl
        refine ⟨⟨_, sR⟩, ?_⟩
        refine WA.norm (listed' := lb 7 23) (by kernel_rfl) <|
         WA.seq [5] (lb 7 55) 2 (by kernel_rfl) rfl ⟨_, sR⟩ <|
         X1 rfl (fun w_ hS_ => ex_assign (v := v150) rfl) <|
         WA.one 3 (by kernel_rfl) rfl rfl ?_
        replace HF := HF.step s149 rfl
        refine OW.row (r := (Rep.int .i64)) (xs := [3]) [(0, ii 3)] [[ii 3]] 46 HF rfl U92 sz3 zr3 rfl (evs_cons rfl rfl) rfl rfl ⟨rfl, trivial⟩ rfl rfl rfl rfl ?_
        intro o152 w153 v155 s154 hO156
        replace sR := Step.trans sR s154 (M := []) rfl rfl
        refine ⟨⟨_, sR⟩, ?_⟩
        refine WA.norm (listed' := lb 7 63) (by kernel_rfl) <|
         WA.seq [6] (lb 7 127) 0 (by kernel_rfl) rfl ⟨_, sR⟩ <|
         X1 rfl (fun w_ hS_ => ex_assign (v := v155) rfl) <|
         WA.done (by kernel_rfl) <|
         WC.ret ?_
        obtain rfl := Option.some.inj H
        replace hO151 := hO151.step s154 rfl rfl
        replace hO151 := Own.renTo (j := 39) hO151 rfl
        replace hO156 := Own.ren (i := 45) (j := 39) hO156 rfl rfl
        replace HF := HF.step s154 rfl
        replace HF := HF.ren (i := 45) (j := 39) rfl
        replace hO151 := Own.ren (i := 46) (j := 38) hO151 rfl rfl
        replace hO156 := Own.renTo (j := 38) hO156 rfl
        replace HF := HF.ren (i := 46) (j := 38) rfl
        exact ⟨_, (.tmp _ rfl (.tmp _ rfl (.tmp _ rfl .nil))), _, v150, v155, rfl, HF.out, hO151, hO156⟩
       ·
        refine OW.row (r := (Rep.int .i64)) (xs := [3]) [(0, ii 3)] [[ii 3]] 45 HF rfl U92 sz3 zr3 rfl (evs_cons rfl rfl) rfl rfl ⟨rfl, trivial⟩ rfl rfl rfl rfl ?_
        intro o147 w148 v150 s149 hO151
        replace sR := Step.trans sR s149 (M := []) rfl rfl
        refine ⟨⟨_, sR⟩, ?_⟩
        refine WA.norm (listed' := lb 7 27) (by kernel_rfl) <|
         WA.one 2 (by kernel_rfl) rfl rfl ?_
        replace HF := HF.step s149 rfl
        refine OW.row (r := (Rep.int .i64)) (xs := [a1.f_L]) [(0, ii a1.f_L)] [[ii a1.f_L]] 46 HF rfl U92 sz3 zr3 rfl (evs_cons rfl rfl) rfl rfl ⟨rfl, trivial⟩ rfl rfl rfl rfl ?_
        intro o152 w153 v155 s154 hO156
        replace sR := Step.trans sR s154 (M := []) rfl rfl
        refine ⟨⟨_, sR⟩, ?_⟩
        refine WA.norm (listed' := lb 7 31) (by kernel_rfl) <|
         WA.seq [5, 6] (lb 7 127) 0 (by kernel_rfl) rfl ⟨_, sR⟩ <|
         X1 rfl (fun w_ hS_ => ex_assign (v := v155) rfl) <|
         X1 rfl (fun w_ hS_ => ex_assign (v := v150) rfl) <|
         WA.done (by kernel_rfl) <|
         WC.ret ?_
        obtain rfl := Option.some.inj H
        replace hO156 := Own.renTo (j := 39) hO156 rfl
        replace hO151 := hO151.step s154 rfl rfl
        replace hO151 := Own.ren (i := 46) (j := 39) hO151 rfl rfl
        replace HF := HF.step s154 rfl
        replace HF := HF.ren (i := 46) (j := 39) rfl
        replace hO156 := Own.ren (i := 45) (j := 38) hO156 rfl rfl
        replace hO151 := Own.renTo (j := 38) hO151 rfl
        replace HF := HF.ren (i := 45) (j := 38) rfl
        exact ⟨_, (.tmp _ rfl (.tmp _ rfl (.tmp _ rfl .nil))), _, v155, v150, rfl, HF.out, hO156, hO151⟩
      ·
       refine WC.cond_f (vb c144 rfl) <|
        WC.skip <|
        WC.seq ?_
       replace HF := HF.step s143 rfl
       refine WC.regionD' HF [] 9 9 (by kernel_rfl) rfl ?_
       intro w157 s158
       have k143_158 := s143.t s158
       replace hB105 := hB105.step k143_158 rfl
       have hB105D := hB105
       replace HF := HF.step s158 rfl
       have sR := HF.here []
       refine WA.seq [0, 1, 2, 3, 6] (lb 9 79) 4 (by kernel_rfl) rfl ⟨_, sR⟩ <|
        X1 rfl (fun w_ hS_ => ex_fieldAddr s3_132 U60 rfl sz3) <|
        X1 rfl (fun w_ hS_ => ex_load1 (v := ii a1.f_L) rfl U3 rfl ((hB105D.step hS_.choose_spec rfl).cell rfl)) <|
        X1 rfl (fun w_ hS_ => ex_fieldAddr s3_132 U60 rfl sz3) <|
        X1 rfl (fun w_ hS_ => ex_load1 (v := ii a1.f_R) rfl U3 rfl ((hB105D.step hS_.choose_spec rfl).cell rfl)) <|
        X1 rfl (fun w_ hS_ => ex_assign (v := encS ([32, 45, 62, 32] : List UInt8)) rfl) ?_
       refine WA.both 4 5 (by kernel_rfl) rfl rfl rfl rfl ?_ ?_
       ·
        refine OW.row (r := (Rep.int .i64)) (xs := [a1.f_L, a1.f_R]) [(0, ii a1.f_L), (1, ii a1.f_R)] [[ii a1.f_L], [ii a1.f_R]] 47 HF rfl U92 sz3 zr3 rfl (evs_cons rfl (evs_cons rfl rfl)) rfl rfl ⟨rfl, rfl, trivial⟩ rfl rfl rfl rfl ?_
        intro o159 w160 v162 s161 hO163
        replace sR := Step.trans sR s161 (M := []) rfl rfl
        refine ⟨⟨_, sR⟩, ?_⟩
        refine WA.norm (listed' := lb 9 95) (by kernel_rfl) <|
         WA.seq [7] (lb 9 223) 2 (by kernel_rfl) rfl ⟨_, sR⟩ <|
         X1 rfl (fun w_ hS_ => ex_assign (v := v162) rfl) <|
         WA.one 5 (by kernel_rfl) rfl rfl ?_
        replace HF := HF.step s161 rfl
        refine OW.row (r := (Rep.int .i64)) (xs := [1, 0]) [(0, ii 1), (1, ii 0)] [[ii 1], [ii 0]] 48 HF rfl U92 sz3 zr3 rfl (evs_cons rfl (evs_cons rfl rfl)) rfl rfl ⟨rfl, rfl, trivial⟩ rfl rfl rfl rfl ?_
        intro o164 w165 v167 s166 hO168
        replace sR := Step.trans sR s166 (M := []) rfl rfl
        refine ⟨⟨_, sR⟩, ?_⟩
        refine WA.norm (listed' := lb 9 255) (by kernel_rfl) <|
         WA.seq [8] (lb 9 511) 0 (by kernel_rfl) rfl ⟨_, sR⟩ <|
         X1 rfl (fun w_ hS_ => ex_assign (v := v167) rfl) <|
         WA.done (by kernel_rfl) <|
         WC.ret ?_
        obtain rfl := Option.some.inj H
        replace hO163 := hO163.step s166 rfl rfl
        replace hO163 := Own.renTo (j := 39) hO163 rfl
        replace hO168 := Own.ren (i := 47) (j := 39) hO168 rfl rfl
        replace HF := HF.step s166 rfl
        replace HF := HF.ren (i := 47) (j := 39) rfl
        replace hO163 := Own.ren (i := 48) (j := 38) hO163 rfl rfl
        replace hO168 := Own.renTo (j := 38) hO168 rfl
        replace HF := HF.ren (i := 48) (j := 38) rfl
        exact ⟨_, (.tmp _ rfl (.tmp _ rfl (.tmp _ rfl .nil))), _, v162, v167, rfl, HF.out, hO163, hO168⟩
       ·
        refine OW.row (r := (Rep.int .i64)) (xs := [1, 0]) [(0, ii 1), (1, ii 0)] [[ii 1], [ii 0]] 47 HF rfl U92 sz3 zr3 rfl (evs_cons rfl (evs_cons rfl rfl)) rfl rfl ⟨rfl, rfl, trivial⟩ rfl rfl rfl rfl ?_
        intro o159 w160 v162 s161 hO163
        replace sR := Step.trans sR s161 (M := []) rfl rfl
        refine ⟨⟨_, sR⟩, ?_⟩
        refine WA.norm (listed' := lb 9 111) (by kernel_rfl) <|
         WA.one 4 (by kernel_rfl) rfl rfl ?_
        replace HF := HF.step s161 rfl
        refine OW.row (r := (Rep.int .i64)) (xs := [a1.f_L, a1.f_R]) [(0, ii a1.f_L), (1, ii a1.f_R)] [[ii a1.f_L], [ii a1.f_R]] 48 HF rfl U92 sz3 zr3 rfl (evs_cons rfl (evs_cons rfl rfl)) rfl rfl ⟨rfl, rfl, trivial⟩ rfl rfl rfl rfl ?_
        intro o164 w165 v167 s166 hO168
        replace sR := Step.trans sR s166 (M := []) rfl rfl
        refine ⟨⟨_, sR⟩, ?_⟩
        refine WA.norm (listed' := lb 9 127) (by kernel_rfl) <|
         WA.seq [7, 8] (lb 9 511) 0 (by kernel_rfl) rfl ⟨_, sR⟩ <|
         X1 rfl (fun w_ hS_ => ex_assign (v := v167) rfl) <|
         X1 rfl (fun w_ hS_ => ex_assign (v := v162) rfl) <|
         WA.done (by kernel_rfl) <|
         WC.ret ?_
        obtain rfl := Option.some.inj H
        replace hO168 := Own.renTo (j := 39) hO168 rfl
        replace hO163 := hO163.step s166 rfl rfl
        replace hO163 := Own.ren (i := 48) (j := 39) hO163 rfl rfl
        replace HF := HF.step s166 rfl
        replace HF := HF.ren (i := 48) (j := 39) rfl
        replace hO168 := Own.ren (i := 47) (j := 38) hO168 rfl rfl
        replace hO163 := Own.renTo (j := 38) hO163 rfl
        replace HF := HF.ren (i := 47) (j := 38) rfl
        exact ⟨_, (.tmp _ rfl (.tmp _ rfl (.tmp _ rfl .nil))), _, v167, v162, rfl, HF.out, hO168, hO163⟩
    have Ho169 := H
    replace H := hz134
    refine WC.region <|
     E rfl (mv (pp pb0 0) rfl) <|
     E rfl (ex_fieldAddr rfl U60 rfl sz3) <|
     E rfl (ex_load1 rfl U3 rfl (hB105.cell rfl)) ?_
    obtain ⟨z170, hz170, H⟩ := bindE H
    refine WL.op rfl ?_
    replace hO0_0 := hO0_0.step s104 rfl rfl
    replace hB0 := hB0.step s104 rfl
    replace hM0_1 := hM0_1.step s104 rfl
    replace HF := HF.step s104 rfl
    refine OW.call [pp pb0 0, ii a1.f_L] rfl Tryz.func73 (by kernel_rfl) (by kernel_rfl) (map_cons' rfl (map_cons' rfl rfl)) (syntax_bot.calls _ _ pb0 pv0_0 pb0_1 (a0 := a0) hz170 (HF.ten (V := [0]) (L := [2, 3, 4]) rfl) (Bk.vw hB0 rfl) (Own.vw hO0_0 rfl rfl) (Mp.vw hM0_1 rfl)) ?_
    rintro _ w171 ⟨o172, rfl, s173⟩
    refine ⟨_, rfl, ?_⟩
    replace s173 := un_stepL (J := []) (L' := []) s173 rfl rfl
    refine E rfl (mv (.bool z170) rfl) ?_
    rcases condE H with ⟨c174, H⟩ | ⟨c174, H⟩
    ·
     refine WL.guardYes rfl rfl rfl (vb c174 rfl) <|
      OW.ex rfl (mv (pp pb0 0) rfl) <|
      WL.guardYes rfl rfl rfl (vb c174 rfl) <|
      OW.ex rfl (ex_fieldAddr rfl U60 rfl sz3) <|
      WL.guardYes rfl rfl rfl (vb c174 rfl) ?_
     replace hB105 := hB105.step s173 rfl
     refine OW.ex rfl (ex_load1 rfl U3 rfl (hB105.cell rfl)) <|
      WL.guardYes rfl rfl rfl (vb c174 rfl) ?_
     obtain ⟨z175, hz175, H⟩ := bindE H
     replace hO0_0 := hO0_0.step s173 rfl rfl
     replace hB0 := hB0.step s173 rfl
     replace hM0_1 := hM0_1.step s173 rfl
     replace HF := HF.step s173 rfl
     refine OW.call [pp pb0 0, ii a1.f_R] rfl Tryz.func73 (by kernel_rfl) (by kernel_rfl) (map_cons' rfl (map_cons' rfl rfl)) (syntax_bot.calls _ _ pb0 pv0_0 pb0_1 (a0 := a0) hz175 (HF.ten (V := [0]) (L := [2, 3, 4]) rfl) (Bk.vw hB0 rfl) (Own.vw hO0_0 rfl rfl) (Mp.vw hM0_1 rfl)) ?_
     rintro _ w176 ⟨o177, rfl, s178⟩
     refine ⟨_, rfl, ?_⟩
     replace s178 := un_stepL (J := []) (L' := []) s178 rfl rfl
     refine E rfl (ex_pick_t (v := .bool z175) (vb c174 rfl) rfl) <|
      E rfl (sg (.bool z175) rfl) <|
      WL.nil ?_
     obtain rfl := Option.some.inj H
     replace hO0_0 := hO0_0.step s178 rfl rfl
     replace hB0 := hB0.step s178 rfl
     replace hM0_1 := hM0_1.step s178 rfl
     replace hB105 := hB105.step s178 rfl
     replace HF := HF.step s178 rfl
     exact ⟨_, HF, hB0, hO0_0, hM0_1, hB105, rfl, rfl, rfl, rfl, rfl, rfl⟩
    ·
     refine WL.guardNo rfl rfl rfl (vb c174 rfl) <|
      WL.guardNo rfl rfl rfl (vb c174 rfl) <|
      WL.guardNo rfl rfl rfl (vb c174 rfl) <|
      WL.guardNo rfl rfl rfl (vb c174 rfl) <|
      E rfl (ex_pick_f (v := .bool false) (vb c174 rfl) rfl) <|
      E rfl (sg (.bool false) rfl) <|
      WL.nil ?_
     obtain rfl := Option.some.inj H
     replace hO0_0 := hO0_0.step s173 rfl rfl
     replace hB0 := hB0.step s173 rfl
     replace hM0_1 := hM0_1.step s173 rfl
     replace hB105 := hB105.step s173 rfl
     replace HF := HF.step s173 rfl
     exact ⟨_, HF, hB0, hO0_0, hM0_1, hB105, rfl, rfl, rfl, rfl, rfl, rfl⟩
   ·
    refine WC.cond_f (vb c132 rfl) <|
     WC.seq <|
     WC.region <|
     E rfl (e2 bin_eql rfl rfl) <|
     E rfl (sg (.bool (a1.f_Kind == 2)) rfl) <|
     WL.nil ?_
    rcases condE H with ⟨c179, H⟩ | ⟨c179, H⟩
    ·
     refine WC.cond_t (vb c179 rfl) <|
      WC.seq <|
      WC.region <|
      E rfl (sg (encS ([102, 97, 108, 115, 101] : List UInt8)) rfl) <|
      E rfl (sg (.slice none ([] : List Int).length 0) rfl) <|
      E rfl (sg (.slice none ([] : List Int).length 0) rfl) <|
      WL.nil <|
      WC.ret ?_
     obtain rfl := Option.some.inj H
     replace HF := HF.step s104 rfl
     exact ⟨_, (.tmp _ rfl (.tmp _ rfl (.tmp _ rfl .nil))), _, (.slice none 0 0), (.slice none 0 0), rfl, HF.out, Own.nil, Own.nil⟩
    ·
     refine WC.cond_f (vb c179 rfl) <|
      WC.skip <|
      WC.seq <|
      WC.region <|
      E rfl (ex_fieldAddr rfl U60 rfl sz9) <|
      E rfl (ex_load1 rfl U9 rfl (hB105.cell rfl)) <|
      E rfl (sg (encS a1.f_Name) rfl) <|
      E rfl (sg (.slice none ([] : List Int).length 0) rfl) <|
      E rfl (sg (.slice none ([] : List Int).length 0) rfl) <|
      WL.nil <|
      WC.ret ?_
     obtain rfl := Option.some.inj H
     replace HF := HF.step s104 rfl
     exact ⟨_, (.tmp _ rfl (.tmp _ rfl (.tmp _ rfl .nil))), _, (.slice none 0 0), (.slice none 0 0), rfl, HF.out, Own.nil, Own.nil⟩

/-! ### syntax_level -/
set_option maxRecDepth 100000 in
theorem syntax_level.calls (o0 : Tags) (w0 : World) (pb0 : Nat) (pv0_0 : Value) (pb0_1 : Nat) {a0 : T_formula_Table} {a1 : Int} {a0_1 : (List (T_api_Node × Int))} {r : Int} (H : syntax_level.f a0 a1 a0_1 = some r) (hO : ∀ b, b < w0.heap.size → o0 b < 40) (hB0 : Bk o0 w0 2 pb0 [pv0_0, .map (some pb0_1)] 56) (hO0_0 : Own T_api_Node.rep 60 3 o0 w0 pv0_0 a0.f_rows) (hM0_1 : Mp (fun x_ : T_api_Node => Value.agg #[ii x_.f_Kind, encS x_.f_Name, ii x_.f_L, ii x_.f_R]) (fun v_ : Int => ii v_) 4 o0 w0 pb0_1 a0_1) :
  Calls Tryz.prog 51 [pp pb0 0, ii a1].toArray w0 fun e_ w_ => ∃ (o_ : Tags), e_ = .returned (one [ii r]) ∧ Step o0 w0 o_ w_ [] := by
 have HF := Fm.refl hO []
 unfold syntax_level.f at H
 refine SX.calls [pp pb0 0, ii a1] Tryz.func51 rfl rfl ?_
 rw [Tryz.ntmps51]
 refine WC.seq <|
  WC.region <|
  E rfl (sg (ii 0) rfl) <|
  WL.nil <|
  WC.seq <|
  WC.region <|
  E rfl (mv (pp pb0 0) rfl) <|
  E rfl (mv (ii a1) rfl) ?_
 obtain ⟨z101, hz101, H⟩ := bindE H
 refine WL.op rfl <|
  OW.call [pp pb0 0, ii a1] rfl Tryz.func24 (by kernel_rfl) (by kernel_rfl) (map_cons' rfl (map_cons' rfl rfl)) (formula_Table_Node.calls _ _ pb0 pv0_0 pb0_1 (a0 := a0) hz101 (HF.ten (V := [0]) (L := [2, 3, 4]) rfl) (Bk.vw hB0 rfl) (Own.vw hO0_0 rfl rfl) (Mp.vw hM0_1 rfl)) ?_
 rintro _ w102 ⟨o103, rfl, s104⟩
 refine ⟨_, rfl, ?_⟩
 replace s104 := un_stepL (J := []) (L' := []) s104 rfl rfl
 refine E rfl (mv (.tuple #[.agg #[ii z101.1.f_Kind, encS z101.1.f_Name, ii z101.1.f_L, ii z101.1.f_R], .bool z101.2]) rfl) <|
  E rfl (ex_extract rfl rfl) <|
  E rfl (ex_extract rfl rfl) <|
  WL.op rfl ?_
 replace HF := HF.step s104 rfl
 refine OW.alloc' [ii (0 : Int), encS ([] : List UInt8), ii (0 : Int), ii (0 : Int)] 40 HF rfl zr60 rfl ?_
 intro o106 w107 b105 s108 hB109
 refine WL.op rfl <|
  OW.storeW rfl rfl sz60 hB109 rfl (oa rfl) ?_
 intro w110 s111 hB112
 refine E rfl (sg (.bool z101.2) rfl) <|
  WL.nil <|
  WC.seq <|
  WC.seq <|
  WC.region <|
  E rfl (ex_fieldAddr rfl U60 rfl sz58) <|
  E rfl (ex_load1 rfl U58 rfl (hB112.cell rfl)) <|
  WL.nil <|
  WC.block <|
  WC.seq <|
  WC.region <|
  E rfl (e2 bin_eql rfl rfl) <|
  E rfl (sg (.bool (z101.1.f_Kind == 3)) rfl) <|
  WL.nil ?_
 rcases condE H with ⟨c113, H⟩ | ⟨c113, H⟩
 ·
  refine WC.cond_t (vb c113 rfl) <|
   WC.seq <|
   WC.region <|
   E rfl (sg (ii 2) rfl) <|
   WL.nil <|
   WC.ret ?_
  obtain rfl := Option.some.inj H
  have k108_111 := s108.t s111
  replace HF := HF.step k108_111 rfl
  exact ⟨_, (.tmp _ rfl .nil), _, rfl, HF.out⟩
 ·
  refine WC.cond_f (vb c113 rfl) <|
   WC.seq <|
   WC.region <|
   E rfl (e2 bin_eql rfl rfl) <|
   E rfl (sg (.bool (z101.1.f_Kind == 4)) rfl) <|
   WL.nil ?_
  rcases condE H with ⟨c114, H⟩ | ⟨c114, H⟩
  ·
   refine WC.cond_t (vb c114 rfl) <|
    WC.seq <|
    WC.region <|
    E rfl (sg (ii 1) rfl) <|
    WL.nil <|
    WC.ret ?_
   obtain rfl := Option.some.inj H
   have k108_111 := s108.t s111
   replace HF := HF.step k108_111 rfl
   exact ⟨_, (.tmp _ rfl .nil), _, rfl, HF.out⟩
  ·
   refine WC.cond_f (vb c114 rfl) <|
    WC.seq <|
    WC.region <|
    E rfl (e2 bin_eql rfl rfl) <|
    E rfl (sg (.bool (z101.1.f_Kind == 5)) rfl) <|
    WL.nil ?_
   rcases condE H with ⟨c115, H⟩ | ⟨c115, H⟩
   ·
    refine WC.cond_t (vb c115 rfl) <|
     WC.seq <|
     WC.seq <|
     WC.region <|
     E rfl (mv (pp pb0 0) rfl) <|
     E rfl (ex_fieldAddr rfl U60 rfl sz3) <|
     E rfl (ex_load1 rfl U3 rfl (hB112.cell rfl)) ?_
    obtain ⟨z116, hz116, H⟩ := bindE H
    refine WL.op rfl ?_
    have k108_111 := s108.t s111
    replace HF := HF.step k108_111 rfl
    have k104_111 := s104.t k108_111
    replace hO0_0 := hO0_0.step k104_111 rfl rfl
    replace hB0 := hB0.step k104_111 rfl
    replace hM0_1 := hM0_1.step k104_111 rfl
    refine OW.call [pp pb0 0, ii z101.1.f_R] rfl Tryz.func73 (by kernel_rfl) (by kernel_rfl) (map_cons' rfl (map_cons' rfl rfl)) (syntax_bot.calls _ _ pb0 pv0_0 pb0_1 (a0 := a0) hz116 (HF.ten (V := [0]) (L := [2, 3, 4]) rfl) (Bk.vw hB0 rfl) (Own.vw hO0_0 rfl rfl) (Mp.vw hM0_1 rfl)) ?_
    rintro _ w117 ⟨o118, rfl, s119⟩
    refine ⟨_, rfl, ?_⟩
    replace s119 := un_stepL (J := []) (L' := []) s119 rfl rfl
    refine WL.nil ?_
    rcases condE H with ⟨c120, H⟩ | ⟨c120, H⟩
    ·
     refine WC.cond_t (vb c120 rfl) <|
      WC.seq <|
      WC.region <|
      E rfl (sg (ii 3) rfl) <|
      WL.nil <|
      WC.ret ?_
     obtain rfl := Option.some.inj H
     replace HF := HF.step s119 rfl
     exact ⟨_, (.tmp _ rfl .nil), _, rfl, HF.out⟩
    ·
     refine WC.cond_f (vb c120 rfl) <|
      WC.skip <|
      WC.seq <|
      WC.region <|
      E rfl (sg (ii 0) rfl) <|
      WL.nil <|
      WC.ret ?_
     obtain rfl := Option.some.inj H
     replace HF := HF.step s119 rfl
     exact ⟨_, (.tmp _ rfl .nil), _, rfl, HF.out⟩
   ·
    refine WC.cond_f (vb c115 rfl) <|
     WC.skip <|
     WC.seq <|
     WC.region <|
     E rfl (sg (ii 3) rfl) <|
     WL.nil <|
     WC.ret ?_
    obtain rfl := Option.some.inj H
    have k108_111 := s108.t s111
    replace HF := HF.step k108_111 rfl
    exact ⟨_, (.tmp _ rfl .nil), _, rfl, HF.out⟩

def syntax_width.Spec (g_ : T_formula_Table → Int → (List (Int × Int)) → (List (T_api_Node × Int)) → Option (Int × (List (Int × Int)))) : Prop := ∀ (o0 : Tags) (w0 : World) (pb0 : Nat) (pv0_0 : Value) (pb2 : Nat) (pb0_1 : Nat) {a0 : T_formula_Table} {a1 : Int} {a2 : (List (Int × Int))} {a0_1 : (List (T_api_Node × Int))} {r : Int × (List (Int × Int))} (H : g_ a0 a1 a2 a0_1 = some r) (hO : ∀ b, b < w0.heap.size → o0 b < 40) (hB0 : Bk o0 w0 2 pb0 [pv0_0, .map (some pb0_1)] 56) (hO0_0 : Own T_api_Node.rep 60 3 o0 w0 pv0_0 a0.f_rows) (hM2 : Mp (fun n_ : Int => Value.int .i64 n_) (fun v_ : Int => ii v_) 4 o0 w0 pb2 a2) (hM0_1 : Mp (fun x_ : T_api_Node => Value.agg #[ii x_.f_Kind, encS x_.f_Name, ii x_.f_L, ii x_.f_R]) (fun v_ : Int => ii v_) 5 o0 w0 pb0_1 a0_1),
  Calls Tryz.prog 25 [pp pb0 0, ii a1, .map (some pb2)].toArray w0 fun e_ w_ => ∃ (o_ : Tags), e_ = .returned (one [ii r.1]) ∧ Step o0 w0 o_ w_ [4] ∧ Mp (fun n_ : Int => Value.int .i64 n_) (fun v_ : Int => ii v_) 4 o_ w_ pb2 r.2
structure G_syntax_width.OK (R : G_syntax_width) : Prop where
 syntax_width : syntax_width.Spec R.syntax_width
/-! ### syntax_width -/
set_option maxRecDepth 100000 in
theorem syntax_width.callsF (k : Nat) (R : G_syntax_width) (hR : G_syntax_width.OK R) : syntax_width.Spec (syntax_width.F k R) := by
 intro o0 w0 pb0 pv0_0 pb2 pb0_1 a0 a1 a2 a0_1 r H hO hB0 hO0_0 hM2 hM0_1
 have HF := Fm.refl hO [4]
 unfold syntax_width.F at H
 refine SX.calls [pp pb0 0, ii a1, .map (some pb2)] Tryz.func25 rfl rfl ?_
 rw [Tryz.ntmps25]
 refine WC.seq <|
  WC.region <|
  E rfl (sg (ii 0) rfl) <|
  WL.nil <|
  WC.seq <|
  WC.seq <|
  WC.region <|
  E rfl (mv (.map (some pb2)) rfl) <|
  E rfl (mv (ii a1) rfl) <|
  E rfl (ex_lookup2 (ek := (fun n_ : Int => Value.int .i64 n_)) (ev := (fun v_ : Int => ii v_)) (eq := (fun a_ b_ : Int => a_ == b_)) (x := a1) (z := (0 : Int)) rfl rfl U64 (keyT_int U3) hM2 zr3) <|
  E rfl (mv (.tuple #[ii ((mget (fun a_ b_ : Int => a_ == b_) a2 a1).getD (0 : Int)), .bool ((mget (fun a_ b_ : Int => a_ == b_) a2 a1).isSome)]) rfl) <|
  E rfl (ex_extract rfl rfl) <|
  E rfl (ex_extract rfl rfl) <|
  E rfl (sg (ii ((mget (fun a_ b_ : Int => a_ == b_) a2 a1).getD (0 : Int))) rfl) <|
  E rfl (sg (.bool ((mget (fun a_ b_ : Int => a_ == b_) a2 a1).isSome)) rfl) <|
  WL.nil <|
  WC.seq <|
  WC.region <|
  E rfl (mv (.bool ((mget (fun a_ b_ : Int => a_ == b_) a2 a1).isSome)) rfl) <|
  WL.nil ?_
 rcases condE H with ⟨c101, H⟩ | ⟨c101, H⟩
 ·
  refine WC.cond_t (vb c101 rfl) <|
   WC.seq <|
   WC.region <|
   E rfl (mv (ii ((mget (fun a_ b_ : Int => a_ == b_) a2 a1).getD (0 : Int))) rfl) <|
   E rfl (sg (ii ((mget (fun a_ b_ : Int => a_ == b_) a2 a1).getD (0 : Int))) rfl) <|
   WL.nil <|
   WC.ret ?_
  obtain rfl := Option.some.inj H
  exact ⟨_, (.tmp _ rfl .nil), _, rfl, HF.out, hM2⟩
 ·
  refine WC.cond_f (vb c101 rfl) <|
   WC.skip <|
   WC.seq <|
   WC.region <|
   E rfl (mv (pp pb0 0) rfl) <|
   E rfl (mv (ii a1) rfl) ?_
  obtain ⟨z102, hz102, H⟩ := bindE H
  refine WL.op rfl <|
   OW.call [pp pb0 0, ii a1] rfl Tryz.func24 (by kernel_rfl) (by kernel_rfl) (map_cons' rfl (map_cons' rfl rfl)) (formula_Table_Node.calls _ _ pb0 pv0_0 pb0_1 (a0 := a0) hz102 (HF.ten (V := [0]) (L := [2, 3, 5]) rfl) (Bk.vw hB0 rfl) (Own.vw hO0_0 rfl rfl) (Mp.vw hM0_1 rfl)) ?_
  rintro _ w103 ⟨o104, rfl, s105⟩
  refine ⟨_, rfl, ?_⟩
  replace s105 := un_stepL (J := []) (L' := []) s105 rfl rfl
  refine E rfl (mv (.tuple #[.agg #[ii z102.1.f_Kind, encS z102.1.f_Name, ii z102.1.f_L, ii z102.1.f_R], .bool z102.2]) rfl) <|
   E rfl (ex_extract rfl rfl) <|
   E rfl (ex_extract rfl rfl) <|
   WL.op rfl ?_
  replace HF := HF.step s105 rfl
  refine OW.alloc' [ii (0 : Int), encS ([] : List UInt8), ii (0 : Int), ii (0 : Int)] 40 HF rfl zr60 rfl ?_
  intro o107 w108 b106 s109 hB110
  refine WL.op rfl <|
   OW.storeW rfl rfl sz60 hB110 rfl (oa rfl) ?_
  intro w111 s112 hB113
  refine E rfl (sg (.bool z102.2) rfl) <|
   WL.nil <|
   WC.seq <|
   WC.region <|
   E rfl (mv (pp pb0 0) rfl) <|
   E rfl (ex_loadN (cs := [ii z102.1.f_Kind, encS z102.1.f_Name, ii z102.1.f_L, ii z102.1.f_R]) rfl U60 rfl sz60 (hB113.cells rfl)) ?_
  obtain ⟨z114, hz114, H⟩ := bindE H
  refine WL.op rfl ?_
  have k109_112 := s109.t s112
  replace HF := HF.step k109_112 rfl
  have k105_112 := s105.t k109_112
  replace hO0_0 := hO0_0.step k105_112 rfl rfl
  replace hB0 := hB0.step k105_112 rfl
  replace hM0_1 := hM0_1.step k105_112 rfl
  refine OW.call [pp pb0 0, .agg #[ii z102.1.f_Kind, encS z102.1.f_Name, ii z102.1.f_L, ii z102.1.f_R]] rfl Tryz.func50 (by kernel_rfl) (by kernel_rfl) (map_cons' rfl (map_cons' rfl rfl)) (syntax_pieces.calls _ _ pb0 pv0_0 pb0_1 (a0 := a0) (a1 := z102.1) hz114 (HF.ten (V := [0]) (L := [2, 3, 5]) rfl) (Bk.vw hB0 rfl) (Own.vw hO0_0 rfl rfl) (Mp.vw hM0_1 rfl)) ?_
  rintro _ w115 ⟨o116, v118, v120, rfl, s117, hO119, hO121⟩
  refine ⟨_, rfl, ?_⟩
  replace hO119 := Own.un9 (J := [41, 42]) 0 hO119 rfl s117 rfl rfl
  replace hO121 := Own.un9 (J := [41, 42]) 1 hO121 rfl s117 rfl rfl
  replace s117 := un_stepL (J := [41, 42]) (L' := []) s117 rfl rfl
  refine E rfl (mv (.tuple #[encS z114.1, v118, v120]) rfl) <|
   E rfl (ex_extract rfl rfl) <|
   E rfl (ex_extract rfl rfl) <|
   E rfl (ex_extract rfl rfl) <|
   E rfl (sg (encS z114.1) rfl) <|
   E rfl (sg v118 rfl) <|
   E rfl (sg v120 rfl) <|
   WL.nil <|
   WC.seq <|
   WC.region <|
   E rfl (mv (encS z114.1) rfl) <|
   E rfl (ex_len_str (s := z114.1) rfl U9) <|
   E rfl (sg (ii (z114.1.length : Int)) rfl) <|
   WL.nil <|
   WC.seq <|
   WC.seq <|
   WC.region <|
   E rfl (mv v118 rfl) ?_
  obtain ⟨A122, c123, q124⟩ := hO119.slice
  refine E rfl (ex_len_slice ((show _ = (v118 : Value) from rfl).trans q124) U92) <|
   E rfl (mv (ii 0) rfl) <|
   WL.nil ?_
  obtain ⟨z130, hz130, H⟩ := bindE H
  obtain ⟨x128, x129⟩ := z130
  replace hO0_0 := hO0_0.step s117 rfl rfl
  replace hB0 := hB0.step s117 rfl
  replace hM0_1 := hM0_1.step s117 rfl
  replace HF := HF.step s117 rfl
  have k105_117 := k105_112.t s117
  replace hM2 := hM2.step k105_117 rfl
  refine WC.for (fun k_ ρ_ w_ => ∃ (o_ : Tags) (x125 : Int) (x126 : Int) (x127 : (List (Int × Int))), Fm o0 w0 o_ w_ [4] ∧ Own (Rep.int .i64) 3 42 o_ w_ v120 z114.2.2 ∧ Own (Rep.int .i64) 3 41 o_ w_ v118 z114.2.1 ∧ Bk o_ w_ 2 pb0 [pv0_0, .map (some pb0_1)] 56 ∧ Own T_api_Node.rep 60 3 o_ w_ pv0_0 a0.f_rows ∧ Mp (fun n_ : Int => Value.int .i64 n_) (fun v_ : Int => ii v_) 4 o_ w_ pb2 x127 ∧ Mp (fun x_ : T_api_Node => Value.agg #[ii x_.f_Kind, encS x_.f_Name, ii x_.f_L, ii x_.f_R]) (fun v_ : Int => ii v_) 5 o_ w_ pb0_1 a0_1 ∧ ρ_ 0 = pp pb0 0 ∧ ρ_ 1 = ii a1 ∧ ρ_ 2 = .map (some pb2) ∧ ρ_ 6 = ii 0 ∧ ρ_ 13 = v120 ∧ ρ_ 14 = ii x125 ∧ ρ_ 40 = v118 ∧ ρ_ 41 = ii (z114.2.1.length : Int) ∧ ρ_ 42 = ii x126 ∧ syntax_width.l1 k a0 a0_1 R z114 k_ x125 x126 x127 = some (x128, x129)) k (fun ρ_ w_ => ∃ (o_ : Tags), Fm o0 w0 o_ w_ [4] ∧ Bk o_ w_ 2 pb0 [pv0_0, .map (some pb0_1)] 56 ∧ Own T_api_Node.rep 60 3 o_ w_ pv0_0 a0.f_rows ∧ Mp (fun n_ : Int => Value.int .i64 n_) (fun v_ : Int => ii v_) 4 o_ w_ pb2 x129 ∧ Mp (fun x_ : T_api_Node => Value.agg #[ii x_.f_Kind, encS x_.f_Name, ii x_.f_L, ii x_.f_R]) (fun v_ : Int => ii v_) 5 o_ w_ pb0_1 a0_1 ∧ ρ_ 1 = ii a1 ∧ ρ_ 2 = .map (some pb2) ∧ ρ_ 6 = ii 0 ∧ ρ_ 14 = ii x128) ⟨_, (z114.1.length : Int), 0, a2, HF, hO121, hO119, hB0, hO0_0, hM2, hM0_1, rfl, rfl, rfl, rfl, rfl, rfl, rfl, rfl, rfl, hz130⟩ ?case131 ?_
  case case131 =>
   rintro ρ178 w179 ⟨o180, HF, hB0, hO0_0, hM2, hM0_1, s1_127, s2_127, s6_127, s14_128⟩
   refine WC.seq <|
    WC.region <|
    E rfl (mv (.map (some pb2)) s2_127) <|
    E rfl (mv (ii a1) s1_127) <|
    E rfl (mv (ii x128) s14_128) <|
    E rfl (ex_min (a := x128) (b := 65537) rfl rfl) <|
    WL.op rfl <|
    OW.mapUpdate (ek := (fun n_ : Int => Value.int .i64 n_)) (ev := (fun v_ : Int => ii v_)) (eq := (fun a_ b_ : Int => a_ == b_)) (kx := a1) (vx := (if 65537 < x128 then 65537 else x128)) rfl rfl rfl U64 (keyT_int U3) hM2 ?_
   intro w181 s182 hM183
   refine WL.nil <|
    WC.seq <|
    WC.region <|
    E rfl (mv (.map (some pb2)) s2_127) <|
    E rfl (mv (ii a1) s1_127) <|
    E rfl (ex_lookup1 (ek := (fun n_ : Int => Value.int .i64 n_)) (ev := (fun v_ : Int => ii v_)) (eq := (fun a_ b_ : Int => a_ == b_)) (x := a1) (z := (0 : Int)) rfl rfl U64 (keyT_int U3) hM183 zr3) <|
    E rfl (sg (ii ((mget (fun a_ b_ : Int => a_ == b_) (mput (fun a_ b_ : Int => a_ == b_) x129 a1 (if 65537 < x128 then 65537 else x128)) a1).getD (0 : Int))) rfl) <|
    WL.nil <|
    WC.ret ?_
   obtain rfl := Option.some.inj H
   replace HF := HF.step s182 rfl
   exact ⟨_, (.tmp _ rfl .nil), _, rfl, HF.out, hM183⟩
  have Ho132 := H
  rintro k133 ρ134 w135 ⟨o136, x125, x126, x127, HF, hO121, hO119, hB0, hO0_0, hM2, hM0_1, s0_124, s1_124, s2_124, s6_124, s13_124, s14_125, s40_125, s41_125, s42_126, H⟩
  cases k133 with
  | zero => cases H
  | succ k133 =>
  rw [syntax_width.l1.eq_2] at H
  refine WC.seq <|
   WC.region <|
   E rfl (e2 bin_lss s42_126 s41_125) <|
   WL.nil <|
   WC.seq ?_
  rcases condE H with ⟨c137, H⟩ | ⟨c137, H⟩
  ·
   refine WC.cond_t (vb c137 rfl) <|
    WC.skip ?_
   obtain ⟨z140, hz140, H⟩ := bindE H
   obtain ⟨x138, x139⟩ := z140
   refine WC.cut (fun ρ_ w_ => ∃ (o_ : Tags), Fm o0 w0 o_ w_ [4] ∧ Own (Rep.int .i64) 3 42 o_ w_ v120 z114.2.2 ∧ Own (Rep.int .i64) 3 41 o_ w_ v118 z114.2.1 ∧ Bk o_ w_ 2 pb0 [pv0_0, .map (some pb0_1)] 56 ∧ Own T_api_Node.rep 60 3 o_ w_ pv0_0 a0.f_rows ∧ Mp (fun n_ : Int => Value.int .i64 n_) (fun v_ : Int => ii v_) 4 o_ w_ pb2 x139 ∧ Mp (fun x_ : T_api_Node => Value.agg #[ii x_.f_Kind, encS x_.f_Name, ii x_.f_L, ii x_.f_R]) (fun v_ : Int => ii v_) 5 o_ w_ pb0_1 a0_1 ∧ ρ_ 0 = pp pb0 0 ∧ ρ_ 1 = ii a1 ∧ ρ_ 2 = .map (some pb2) ∧ ρ_ 6 = ii 0 ∧ ρ_ 13 = v120 ∧ ρ_ 14 = ii x138 ∧ ρ_ 40 = v118 ∧ ρ_ 41 = ii (z114.2.1.length : Int) ∧ ρ_ 42 = ii x126) ?case141 ?_
   case case141 =>
    rintro ρ144 w142 ⟨o143, HF, hO121, hO119, hB0, hO0_0, hM152, hM0_1, s0_137, s1_137, s2_137, s6_137, s13_137, s14_138, s40_138, s41_138, s42_138⟩
    refine WC.region <|
     E rfl (e2 bin_add64 s42_138 rfl) <|
     E rfl (mv (ii (wrap64 (x126 + 1))) rfl) <|
     WL.nil ?_
    exact ⟨k133, Nat.lt_succ_self _, ⟨_, x138, wrap64 (x126 + 1), x139, HF, hO121, hO119, hB0, hO0_0, hM152, hM0_1, s0_137, s1_137, s2_137, s6_137, s13_137, s14_138, s40_138, s41_138, rfl, H⟩⟩
   have Ho145 := H
   replace H := hz140
   refine WC.block <|
    WC.seq <|
    WC.region <|
    E rfl (mv (ii x126) s42_126) ?_
   obtain ⟨x146, hx146, H⟩ := bindE H
   obtain ⟨A151, c152, q153_⟩ := hO119.slice
   obtain ⟨ad147, e148, g149, g150, cell154⟩ := Row.ixS (Own.rowOf hO119 q153_) hx146
   refine E rfl (ex_indexAddr (i := x126) ((show _ = (v118 : Value) from s40_125).trans q153_) e148 s42_126 U92 sz3 g149 g150) <|
    E rfl (ex_load1 (v := ii x146) rfl U3 rfl cell154) <|
    E rfl (sg (ii x126) rfl) <|
    E rfl (sg (ii x146) rfl) <|
    WL.nil <|
    WC.seq <|
    WC.region <|
    E rfl (mv (ii x125) s14_125) <|
    E rfl (mv (pp pb0 0) s0_124) <|
    E rfl (mv (ii x146) rfl) <|
    E rfl (mv (.map (some pb2)) s2_124) ?_
   obtain ⟨z156, hz156, H⟩ := bindE H
   refine WL.op rfl <|
    OW.call [pp pb0 0, ii x146, .map (some pb2)] rfl Tryz.func25 (by kernel_rfl) (by kernel_rfl) (map_cons' rfl (map_cons' rfl (map_cons' rfl rfl))) (hR.syntax_width _ _ pb0 pv0_0 pb2 pb0_1 (a0 := a0) hz156 (HF.ten (V := [0]) (L := [2, 3, 4, 5]) rfl) (Bk.vw hB0 rfl) (Own.vw hO0_0 rfl rfl) (Mp.vw hM2 rfl) (Mp.vw hM0_1 rfl)) ?_
   rintro _ w157 ⟨o158, rfl, s159, hM160⟩
   refine ⟨_, rfl, ?_⟩
   replace hM160 := Mp.unO (J := []) 2 hM160 s159 rfl rfl rfl
   replace s159 := un_stepL (J := []) (L' := [4]) s159 rfl rfl
   refine E rfl (e2 bin_add64 rfl rfl) <|
    E rfl (sg (ii (wrap64 (x125 + z156.1))) rfl) <|
    WL.nil <|
    WC.seq ?_
   replace HF := HF.step s159 rfl
   refine WC.regionD' HF [] 8 8 (by kernel_rfl) rfl ?_
   intro w161 s162
   have k159_162 := s159.t s162
   replace hO121 := hO121.step k159_162 rfl rfl
   have hO121D := hO121
   replace HF := HF.step s162 rfl
   have sR := HF.here []
   refine WA.seq [0, 1, 3, 4, 5, 6] (lb 8 123) 2 (by kernel_rfl) rfl ⟨_, sR⟩ <|
    X1 rfl (fun w_ hS_ => ex_move (v := pp pb0 0) s0_124) <|
    X1 rfl (fun w_ hS_ => ex_move (v := ii x146) rfl) <|
    X1 rfl (fun w_ hS_ => ex_move (v := v120) s13_124) <|
    X1 rfl (fun w_ hS_ => ex_move (v := ii x126) rfl) ?_
   obtain ⟨x163, hx163, H⟩ := bindE H
   obtain ⟨A168, c169, q170_⟩ := hO121.slice
   obtain ⟨ad164, e165, g166, g167, cell171⟩ := Row.ixS (Own.rowOf hO121D q170_) hx163
   have hk172 := Row.at (Own.rowOf hO121D q170_) e165 hx163 (x126.toNat * 1)
   replace cell171 := held_cell (Step.refl _ _ _) ⟨_, sR⟩ hk172 rfl cell171
   refine X1 rfl (fun w_ hS_ => ex_indexAddr (i := x126) ((show _ = (v120 : Value) from rfl).trans q170_) e165 rfl U92 sz3 g166 g167) <|
    X1 rfl (fun w_ hS_ => ex_load1 (v := ii x163) rfl U3 rfl (held_cell sR hS_ hk172 rfl cell171)) ?_
   obtain ⟨z173, hz173, H⟩ := bindE H
   refine WA.one 2 (by kernel_rfl) rfl rfl ?_
   replace hB0 := hB0.step k159_162 rfl
   replace hO0_0 := hO0_0.step k159_162 rfl rfl
   replace hM0_1 := hM0_1.step k159_162 rfl
   refine OW.call [pp pb0 0, ii x146] rfl Tryz.func51 (by kernel_rfl) (by kernel_rfl) (map_cons' rfl (map_cons' rfl rfl)) (syntax_level.calls _ _ pb0 pv0_0 pb0_1 (a0 := a0) hz173 (HF.ten (V := [0]) (L := [2, 3, 5]) rfl) (Bk.vw hB0 rfl) (Own.vw hO0_0 rfl rfl) (Mp.vw hM0_1 rfl)) ?_
   rintro _ w174 ⟨o175, rfl, s176⟩
   refine ⟨_, rfl, ?_⟩
   replace s176 := un_stepL (J := []) (L' := []) s176 rfl rfl
   replace sR := Step.trans sR s176 (M := []) rfl rfl
   refine ⟨⟨_, sR⟩, ?_⟩
   refine WA.norm (listed' := lb 8 127) (by kernel_rfl) <|
    WA.seq [7] (lb 8 255) 0 (by kernel_rfl) rfl ⟨_, sR⟩ <|
    X1 rfl (fun w_ hS_ => ex_bin (a := ii z173) (b := ii x163) (v := .bool (decide (z173 < x163))) rfl rfl bin_lss) <|
    WA.done (by kernel_rfl) ?_
   rcases condE H with ⟨c177, H⟩ | ⟨c177, H⟩
   ·
    refine WC.cond_t (vb c177 rfl) <|
     WC.region <|
     E rfl (mv (ii (wrap64 (x125 + z156.1))) rfl) <|
     E rfl (e2 bin_add64 rfl rfl) <|
     E rfl (sg (ii (wrap64 ((wrap64 (x125 + z156.1)) + 2))) rfl) <|
     WL.nil ?_
    obtain ⟨rfl, rfl⟩ := Prod.mk.inj (Option.some.inj H)
    replace hO121 := hO121.step s176 rfl rfl
    replace hB0 := hB0.step s176 rfl
    replace hO0_0 := hO0_0.step s176 rfl rfl
    replace hM0_1 := hM0_1.step s176 rfl
    replace HF := HF.step s176 rfl
    have k162_176 := s162.t s176
    replace hM160 := hM160.step k162_176 rfl
    have k159_176 := k159_162.t s176
    replace hO119 := hO119.step k159_176 rfl rfl
    exact ⟨_, HF, hO121, hO119, hB0, hO0_0, hM160, hM0_1, s0_124, s1_124, s2_124, s6_124, s13_124, rfl, s40_125, s41_125, s42_126⟩
   ·
    refine WC.cond_f (vb c177 rfl) <|
     WC.skip ?_
    obtain ⟨rfl, rfl⟩ := Prod.mk.inj (Option.some.inj H)
    replace hO121 := hO121.step s176 rfl rfl
    replace hB0 := hB0.step s176 rfl
    replace hO0_0 := hO0_0.step s176 rfl rfl
    replace hM0_1 := hM0_1.step s176 rfl
    replace HF := HF.step s176 rfl
    have k162_176 := s162.t s176
    replace hM160 := hM160.step k162_176 rfl
    have k159_176 := k159_162.t s176
    replace hO119 := hO119.step k159_176 rfl rfl
    exact ⟨_, HF, hO121, hO119, hB0, hO0_0, hM160, hM0_1, s0_124, s1_124, s2_124, s6_124, s13_124, rfl, s40_125, s41_125, s42_126⟩
  ·
   refine WC.cond_f (vb c137 rfl) <|
    WC.exit ?_
   obtain ⟨rfl, rfl⟩ := Prod.mk.inj (Option.some.inj H)
   exact ⟨_, HF, hB0, hO0_0, hM2, hM0_1, s1_124, s2_124, s6_124, s14_125⟩

theorem G_syntax_width.ok (k : Nat) : ∀ n, G_syntax_width.OK (G_syntax_width.rec_ k n)
 | 0 => ⟨(by intro o0 w0 pb0 pv0_0 pb2 pb0_1 a0 a1 a2 a0_1 r H hO hB0 hO0_0 hM2 hM0_1; exact nomatch (show (none : Option (Int × (List (Int × Int)))) = some r from H))⟩
 | n + 1 => ⟨syntax_width.callsF k (G_syntax_width.rec_ k n) (G_syntax_width.ok k n)⟩
theorem syntax_width.calls (k : Nat) : syntax_width.Spec (syntax_width.f k) := (G_syntax_width.ok k k).syntax_width


/-! ### (*strings.Builder).copyCheck -/
theorem sizeBd : (Tryz.prog.info? 68).map (·.size) = some 2 := by kernel_rfl
theorem info5 : (Tryz.prog.info? 5).map (fun i => (i.zero, i.size, i.bytes)) = some (some (.int .u8 0), 1, 1) := by kernel_rfl
theorem Bd_copyCheck (w0 : World) (b : Nat) (p v : Value) (hb : w0.heap[b]? = some (.cells #[p, v] 68 (0, 0))) (hp : p = .pointer none ∨ p = .pointer (some ⟨b, 0, none⟩)) :
    Calls Tryz.prog 74 [.pointer (some ⟨b, 0, none⟩)].toArray w0 fun e_ w_ => e_ = .returned (one []) ∧ Kept b w0 w_ ∧ w_.heap[b]? = some (.cells #[.pointer (some ⟨b, 0, none⟩), v] 68 (0, 0)) := by
  have hB : Bk (tagOne b) w0 41 b [p, v] 68 := ⟨tagOne_same b, hb⟩
  refine SX.calls [.pointer (some ⟨b, 0, none⟩)] Tryz.func74 rfl rfl ?_
  rw [Tryz.ntmps74]
  refine WC.seq ?_
  refine WC.region ?_
  refine WL.ex rfl (ex_move (v := .pointer (some ⟨b, 0, none⟩)) rfl) ?_
  refine WL.ex rfl (ex_nilCheck rfl) ?_
  refine WL.ex rfl (ex_fieldAddr (k := 0) rfl Tryz.underlying68 rfl (by kernel_rfl)) ?_
  refine WL.ex rfl (ex_load1 (v := p) rfl Tryz.underlying65 rfl (hB.cell rfl)) ?_
  rcases hp with rfl | rfl
  · refine WL.ex rfl (ex_bin (a := .pointer none) (b := .pointer none) (v := .bool true) rfl rfl (bin_eql_ptrNN Tryz.underlying65)) ?_
    refine WL.nil ?_
    refine WC.cond_t rfl ?_
    refine WC.region ?_
    refine WL.ex rfl (ex_move (v := .pointer (some ⟨b, 0, none⟩)) rfl) ?_
    refine WL.ex rfl (ex_move (v := .pointer (some ⟨b, 0, none⟩)) rfl) ?_
    refine WL.ex rfl (ex_to_unsafe rfl Tryz.underlying65 Tryz.underlying140 2 rfl sizeBd rfl hB) ?_
    refine WL.ex rfl (ex_extern1 (v := .pointer (some ⟨b, 0, none⟩)) (v' := .pointer (some ⟨b, 0, none⟩)) rfl Tryz.func91 (by kernel_rfl) (by kernel_rfl) (by kernel_rfl) (ee := Extern.AbiNoEscape.same) (by kernel_rfl) rfl) ?_
    refine WL.ex rfl (ex_from_unsafe rfl Tryz.underlying140 Tryz.underlying65 (by kernel_rfl) hB (by kernel_rfl)) ?_
    refine WL.ex rfl (ex_nilCheck rfl) ?_
    refine WL.ex rfl (ex_fieldAddr (k := 0) rfl Tryz.underlying68 rfl (by kernel_rfl)) ?_
    refine WL.op rfl ?_
    refine OW.store [.pointer (some ⟨b, 0, none⟩), v] rfl (vs := [.pointer (some ⟨b, 0, none⟩)]) rfl (by kernel_rfl) hB (Nat.le_of_ble_eq_true rfl) (by intro u hu; simp at hu; subst hu; rfl) rfl ?_
    intro w1 s1 h1
    refine WL.nil ?_
    exact ⟨_, .nil, rfl, s1.kept, h1.heap⟩
  · refine WL.ex rfl (ex_bin (a := .pointer (some ⟨b, 0, none⟩)) (b := .pointer none) (v := .bool false) rfl rfl (bin_eql_ptrSN Tryz.underlying65)) ?_
    refine WL.nil ?_
    refine WC.cond_f rfl ?_
    refine WC.seq ?_
    refine WC.region ?_
    refine WL.ex rfl (ex_move (v := .pointer (some ⟨b, 0, none⟩)) rfl) ?_
    refine WL.ex rfl (ex_nilCheck rfl) ?_
    refine WL.ex rfl (ex_fieldAddr (k := 0) rfl Tryz.underlying68 rfl (by kernel_rfl)) ?_
    refine WL.ex rfl (ex_load1 (v := .pointer (some ⟨b, 0, none⟩)) rfl Tryz.underlying65 rfl (hB.cell rfl)) ?_
    refine WL.ex rfl (ex_move (v := .pointer (some ⟨b, 0, none⟩)) rfl) ?_
    refine WL.ex rfl (ex_bin (a := .pointer (some ⟨b, 0, none⟩)) (b := .pointer (some ⟨b, 0, none⟩)) (v := .bool false) rfl rfl (bin_neq_ptrSame Tryz.underlying65 (by kernel_rfl))) ?_
    refine WL.nil ?_
    refine WC.cond_f rfl ?_
    refine WC.skip ?_
    exact ⟨_, .nil, rfl, (Step.refl _ _ _).kept, hb⟩


/-! ### (*strings.Builder).WriteByte -/
theorem Builder_WriteByte.calls (o0 : Tags) (w0 : World) (b : Nat) (a0 : List UInt8) (a1 : UInt8) (r : List UInt8) (hO : ∀ b, b < w0.heap.size → o0 b < 40) (hB0 : Bd 68 5 2 o0 w0 b a0) (H : Builder_WriteByte.f a0 a1 = some r) :
    Calls Tryz.prog 52 [.pointer (some ⟨b, 0, none⟩), enc8 a1].toArray w0 fun e_ w_ => ∃ (o_ : Tags), e_ = .returned (one [.nilIface]) ∧ Step o0 w0 o_ w_ [2] ∧ Bd 68 5 2 o_ w_ b r := by
  unfold Builder_WriteByte.f at H
  obtain ⟨u, hu, H⟩ := bindE H
  obtain rfl := Option.some.inj H
  obtain ⟨p, v, hB0', hp, hO1⟩ := hB0
  have hb := hB0'.heap
  have hn := hO1.notin hb rfl
  have h0 : o0 b ≠ 0 := by rw [hB0'.tag]; decide
  have hO2 : Own Rep.u8 5 2 (apart1 o0 b) w0 v a0 := hO1.apart hn h0
  refine SX.calls [.pointer (some ⟨b, 0, none⟩), enc8 a1] Tryz.func52 rfl rfl ?_
  rw [Tryz.ntmps52]
  refine WC.seq ?_
  refine WC.region ?_
  refine WL.ex rfl (ex_assign (v := .nilIface) rfl) ?_
  refine WL.nil ?_
  refine WC.seq ?_
  refine WC.region ?_
  refine WL.ex rfl (ex_move (v := .pointer (some ⟨b, 0, none⟩)) rfl) ?_
  refine WL.op rfl ?_
  refine OW.call [.pointer (some ⟨b, 0, none⟩)] rfl Tryz.func74 (by kernel_rfl) (by kernel_rfl) rfl (Bd_copyCheck w0 b p v hb hp) ?_
  rintro _ w1 ⟨rfl, k1, hb1⟩
  refine ⟨_, rfl, ?_⟩
  have s1 : Step (apart1 o0 b) w0 (apart1 o0 b) w1 [41, 2] := Step.trans (k1.step (apart1_same o0 b)) (Step.refl _ _ []) rfl rfl
  replace hO2 := hO2.kept k1 hn (by rw [apart1_same]; decide)
  have hB : Bk (apart1 o0 b) w1 41 b [.pointer (some ⟨b, 0, none⟩), v] 68 := ⟨apart1_same o0 b, hb1⟩
  refine WL.nil ?_
  refine WC.seq ?_
  refine WC.region ?_
  refine WL.ex rfl (ex_move (v := .pointer (some ⟨b, 0, none⟩)) rfl) ?_
  refine WL.ex rfl (ex_move (v := .pointer (some ⟨b, 0, none⟩)) rfl) ?_
  refine WL.ex rfl (ex_nilCheck rfl) ?_
  refine WL.ex rfl (ex_fieldAddr (k := 0) rfl Tryz.underlying68 rfl (by kernel_rfl)) ?_
  refine WL.ex rfl (ex_load1 (v := v) rfl Tryz.underlying66 rfl (hB.cell rfl)) ?_
  refine WL.ex rfl (ex_move (v := enc8 a1) rfl) ?_
  refine WL.op rfl ?_
  refine OW.row (r := Rep.u8) (xs := [a1]) [(0, enc8 a1)] [[enc8 a1]] 42 (Fm.here2 (apart1 o0 b) w1) rfl Tryz.underlying66 (by kernel_rfl) (by kernel_rfl : (Tryz.prog.info? 5).map (·.zero) = some (some (.int .u8 0))) rfl rfl rfl rfl ⟨rfl, trivial⟩ rfl rfl rfl rfl ?_
  intro o2 w2 v2 s2 hO4
  replace hO2 := hO2.step s2 rfl rfl
  replace hB := hB.step s2 rfl
  replace s1 := Step.trans s1 s2 (M := [41, 2]) rfl rfl
  obtain ⟨A4, c4, q4, _, hr4⟩ := hO4.row
  refine WL.op rfl ?_
  refine OW.append (r := Rep.u8) (E := 5) (i := 2) rfl Tryz.underlying66 info5 rfl (by decide) (by decide) (by decide) rfl q4 hO2 hr4 rfl (of_decide_eq_true (chk_true hu)) ?_
  intro o3 w3 v3 s3 hO2
  replace hB := hB.step s3 rfl
  replace s1 := Step.trans s1 s3 (M := [41, 2]) rfl rfl
  refine WL.ex rfl (ex_nilCheck rfl) ?_
  refine WL.ex rfl (ex_fieldAddr (k := 0) rfl Tryz.underlying68 rfl (by kernel_rfl)) ?_
  refine WL.op rfl ?_
  refine OW.store [.pointer (some ⟨b, 0, none⟩), v3] rfl (vs := [v3]) (by obtain ⟨A_, c_, e_⟩ := hO2.slice; show v3.cells = _; rw [e_]; rfl) (by kernel_rfl) hB (Nat.le_of_ble_eq_true rfl) (by intro u hu; simp at hu; subst hu; obtain ⟨A_, c_, e_⟩ := hO2.slice; rw [e_]; rfl) rfl ?_
  intro w4 s4 hB4
  replace hO2 := hO2.step s4 rfl rfl
  replace s1 := Step.trans s1 s4 (M := [41, 2]) rfl rfl
  refine WL.nil ?_
  refine WC.seq ?_
  refine WC.region ?_
  refine WL.ex rfl (ex_assign (v := .nilIface) rfl) ?_
  refine WL.nil ?_
  refine WC.ret ?_
  exact ⟨_, .tmp (.nilIface) rfl .nil, _, rfl, apart_step hO hB0'.tag s1 rfl, _, _, Bk.renTo hB4, .inr rfl, hO2.ren rfl rfl⟩


/-! ### (*strings.Builder).WriteString -/
theorem Builder_WriteString.calls (o0 : Tags) (w0 : World) (b : Nat) (a0 : List UInt8) (a1 : List UInt8) (r : Int × List UInt8) (hO : ∀ b, b < w0.heap.size → o0 b < 40) (hB0 : Bd 68 5 2 o0 w0 b a0) (H : Builder_WriteString.f a0 a1 = some r) :
    Calls Tryz.prog 53 [.pointer (some ⟨b, 0, none⟩), encS a1].toArray w0 fun e_ w_ => ∃ (o_ : Tags), e_ = .returned (one [.int .i64 r.1, .nilIface]) ∧ Step o0 w0 o_ w_ [2] ∧ Bd 68 5 2 o_ w_ b r.2 := by
  unfold Builder_WriteString.f at H
  obtain ⟨u, hu, H⟩ := bindE H
  obtain rfl := Option.some.inj H
  obtain ⟨p, v, hB0', hp, hO1⟩ := hB0
  have hb := hB0'.heap
  have hn := hO1.notin hb rfl
  have h0 : o0 b ≠ 0 := by rw [hB0'.tag]; decide
  have hO2 : Own Rep.u8 5 2 (apart1 o0 b) w0 v a0 := hO1.apart hn h0
  refine SX.calls [.pointer (some ⟨b, 0, none⟩), encS a1] Tryz.func53 rfl rfl ?_
  rw [Tryz.ntmps53]
  refine WC.seq ?_
  refine WC.region ?_
  refine WL.ex rfl (ex_assign (v := .int .i64 0) rfl) ?_
  refine WL.ex rfl (ex_assign (v := .nilIface) rfl) ?_
  refine WL.nil ?_
  refine WC.seq ?_
  refine WC.region ?_
  refine WL.ex rfl (ex_move (v := .pointer (some ⟨b, 0, none⟩)) rfl) ?_
  refine WL.op rfl ?_
  refine OW.call [.pointer (some ⟨b, 0, none⟩)] rfl Tryz.func74 (by kernel_rfl) (by kernel_rfl) rfl (Bd_copyCheck w0 b p v hb hp) ?_
  rintro _ w1 ⟨rfl, k1, hb1⟩
  refine ⟨_, rfl, ?_⟩
  have s1 : Step (apart1 o0 b) w0 (apart1 o0 b) w1 [41, 2] := Step.trans (k1.step (apart1_same o0 b)) (Step.refl _ _ []) rfl rfl
  replace hO2 := hO2.kept k1 hn (by rw [apart1_same]; decide)
  have hB : Bk (apart1 o0 b) w1 41 b [.pointer (some ⟨b, 0, none⟩), v] 68 := ⟨apart1_same o0 b, hb1⟩
  refine WL.nil ?_
  refine WC.seq ?_
  refine WC.region ?_
  refine WL.ex rfl (ex_move (v := .pointer (some ⟨b, 0, none⟩)) rfl) ?_
  refine WL.ex rfl (ex_move (v := .pointer (some ⟨b, 0, none⟩)) rfl) ?_
  refine WL.ex rfl (ex_nilCheck rfl) ?_
  refine WL.ex rfl (ex_fieldAddr (k := 0) rfl Tryz.underlying68 rfl (by kernel_rfl)) ?_
  refine WL.ex rfl (ex_load1 (v := v) rfl Tryz.underlying66 rfl (hB.cell rfl)) ?_
  refine WL.ex rfl (ex_move (v := encS a1) rfl) ?_
  refine WL.op rfl ?_
  refine OW.appendStr (E := 5) (i := 2) (s := a1) rfl Tryz.underlying66 Tryz.underlying9 info5 (by decide) rfl rfl hO2 (of_decide_eq_true (chk_true hu)) ?_
  intro o3 w3 v3 s3 hO2
  replace hB := hB.step s3 rfl
  replace s1 := Step.trans s1 s3 (M := [41, 2]) rfl rfl
  refine WL.ex rfl (ex_nilCheck rfl) ?_
  refine WL.ex rfl (ex_fieldAddr (k := 0) rfl Tryz.underlying68 rfl (by kernel_rfl)) ?_
  refine WL.op rfl ?_
  refine OW.store [.pointer (some ⟨b, 0, none⟩), v3] rfl (vs := [v3]) (by obtain ⟨A_, c_, e_⟩ := hO2.slice; show v3.cells = _; rw [e_]; rfl) (by kernel_rfl) hB (Nat.le_of_ble_eq_true rfl) (by intro u hu; simp at hu; subst hu; obtain ⟨A_, c_, e_⟩ := hO2.slice; rw [e_]; rfl) rfl ?_
  intro w4 s4 hB4
  replace hO2 := hO2.step s4 rfl rfl
  replace s1 := Step.trans s1 s4 (M := [41, 2]) rfl rfl
  refine WL.nil ?_
  refine WC.seq ?_
  refine WC.region ?_
  refine WL.ex rfl (ex_move (v := encS a1) rfl) ?_
  refine WL.ex rfl (ex_len_str (s := a1) rfl Tryz.underlying9) ?_
  refine WL.ex rfl (ex_assign (v := .int .i64 (a1.length : Int)) rfl) ?_
  refine WL.ex rfl (ex_assign (v := .nilIface) rfl) ?_
  refine WL.nil ?_
  refine WC.ret ?_
  exact ⟨_, .tmp (.int .i64 (a1.length : Int)) rfl (.tmp (.nilIface) rfl .nil), _, rfl, apart_step hO hB0'.tag s1 rfl, _, _, Bk.renTo hB4, .inr rfl, hO2.ren rfl rfl⟩

def syntax_write.Spec (g_ : (List UInt8) → T_formula_Table → Int → Int → (List (T_api_Node × Int)) → Option ((List UInt8))) : Prop := ∀ (o0 : Tags) (w0 : World) (pb0 : Nat) (pb1 : Nat) (pv1_0 : Value) (pb1_1 : Nat) {a0 : (List UInt8)} {a1 : T_formula_Table} {a2 : Int} {a3 : Int} {a1_1 : (List (T_api_Node × Int))} {r : (List UInt8)} (H : g_ a0 a1 a2 a3 a1_1 = some r) (hO : ∀ b, b < w0.heap.size → o0 b < 40) (hB0 : Bd 68 5 2 o0 w0 pb0 a0) (hB1 : Bk o0 w0 3 pb1 [pv1_0, .map (some pb1_1)] 56) (hO1_0 : Own T_api_Node.rep 60 4 o0 w0 pv1_0 a1.f_rows) (hM1_1 : Mp (fun x_ : T_api_Node => Value.agg #[ii x_.f_Kind, encS x_.f_Name, ii x_.f_L, ii x_.f_R]) (fun v_ : Int => ii v_) 5 o0 w0 pb1_1 a1_1),
  Calls Tryz.prog 26 [pp pb0 0, pp pb1 0, ii a2, ii a3].toArray w0 fun e_ w_ => ∃ (o_ : Tags), e_ = .returned (one []) ∧ Step o0 w0 o_ w_ [2] ∧ Bd 68 5 2 o_ w_ pb0 r
structure G_syntax_write.OK (R : G_syntax_write) : Prop where
 syntax_write : syntax_write.Spec R.syntax_write
/-! ### syntax_write -/
set_option maxRecDepth 100000 in
theorem syntax_write.callsF (k : Nat) (R : G_syntax_write) (hR : G_syntax_write.OK R) : syntax_write.Spec (syntax_write.F k R) := by
 intro o0 w0 pb0 pb1 pv1_0 pb1_1 a0 a1 a2 a3 a1_1 r H hO hB0 hB1 hO1_0 hM1_1
 have HF := Fm.refl hO [2]
 unfold syntax_write.F at H
 refine SX.calls [pp pb0 0, pp pb1 0, ii a2, ii a3] Tryz.func26 rfl rfl ?_
 rw [Tryz.ntmps26]
 refine WC.seq <|
  WC.region <|
  E rfl (mv (pp pb1 0) rfl) <|
  E rfl (mv (ii a2) rfl) ?_
 obtain ⟨z101, hz101, H⟩ := bindE H
 refine WL.op rfl <|
  OW.call [pp pb1 0, ii a2] rfl Tryz.func24 (by kernel_rfl) (by kernel_rfl) (map_cons' rfl (map_cons' rfl rfl)) (formula_Table_Node.calls _ _ pb1 pv1_0 pb1_1 (a0 := a1) hz101 (HF.ten (V := [0]) (L := [3, 4, 5]) rfl) (Bk.vw hB1 rfl) (Own.vw hO1_0 rfl rfl) (Mp.vw hM1_1 rfl)) ?_
 rintro _ w102 ⟨o103, rfl, s104⟩
 refine ⟨_, rfl, ?_⟩
 replace s104 := un_stepL (J := []) (L' := []) s104 rfl rfl
 refine E rfl (mv (.tuple #[.agg #[ii z101.1.f_Kind, encS z101.1.f_Name, ii z101.1.f_L, ii z101.1.f_R], .bool z101.2]) rfl) <|
  E rfl (ex_extract rfl rfl) <|
  E rfl (ex_extract rfl rfl) <|
  WL.op rfl ?_
 replace HF := HF.step s104 rfl
 refine OW.alloc' [ii (0 : Int), encS ([] : List UInt8), ii (0 : Int), ii (0 : Int)] 40 HF rfl zr60 rfl ?_
 intro o106 w107 b105 s108 hB109
 refine WL.op rfl <|
  OW.storeW rfl rfl sz60 hB109 rfl (oa rfl) ?_
 intro w110 s111 hB112
 refine E rfl (sg (.bool z101.2) rfl) <|
  WL.nil <|
  WC.seq <|
  WC.region <|
  E rfl (mv (pp pb1 0) rfl) <|
  E rfl (ex_loadN (cs := [ii z101.1.f_Kind, encS z101.1.f_Name, ii z101.1.f_L, ii z101.1.f_R]) rfl U60 rfl sz60 (hB112.cells rfl)) ?_
 obtain ⟨z113, hz113, H⟩ := bindE H
 refine WL.op rfl ?_
 have k108_111 := s108.t s111
 replace HF := HF.step k108_111 rfl
 have k104_111 := s104.t k108_111
 replace hO1_0 := hO1_0.step k104_111 rfl rfl
 replace hB1 := hB1.step k104_111 rfl
 replace hM1_1 := hM1_1.step k104_111 rfl
 refine OW.call [pp pb1 0, .agg #[ii z101.1.f_Kind, encS z101.1.f_Name, ii z101.1.f_L, ii z101.1.f_R]] rfl Tryz.func50 (by kernel_rfl) (by kernel_rfl) (map_cons' rfl (map_cons' rfl rfl)) (syntax_pieces.calls _ _ pb1 pv1_0 pb1_1 (a0 := a1) (a1 := z101.1) hz113 (HF.ten (V := [0]) (L := [3, 4, 5]) rfl) (Bk.vw hB1 rfl) (Own.vw hO1_0 rfl rfl) (Mp.vw hM1_1 rfl)) ?_
 rintro _ w114 ⟨o115, v117, v119, rfl, s116, hO118, hO120⟩
 refine ⟨_, rfl, ?_⟩
 replace hO118 := Own.un9 (J := [41, 42]) 0 hO118 rfl s116 rfl rfl
 replace hO120 := Own.un9 (J := [41, 42]) 1 hO120 rfl s116 rfl rfl
 replace s116 := un_stepL (J := [41, 42]) (L' := []) s116 rfl rfl
 refine E rfl (mv (.tuple #[encS z113.1, v117, v119]) rfl) <|
  E rfl (ex_extract rfl rfl) <|
  E rfl (ex_extract rfl rfl) <|
  E rfl (ex_extract rfl rfl) <|
  E rfl (sg (encS z113.1) rfl) <|
  E rfl (sg v117 rfl) <|
  E rfl (sg v119 rfl) <|
  WL.nil <|
  WC.seq <|
  WC.region <|
  E rfl (mv (pp pb1 0) rfl) <|
  E rfl (mv (ii a2) rfl) ?_
 obtain ⟨z121, hz121, H⟩ := bindE H
 refine WL.op rfl ?_
 replace hO1_0 := hO1_0.step s116 rfl rfl
 replace hB1 := hB1.step s116 rfl
 replace hM1_1 := hM1_1.step s116 rfl
 replace HF := HF.step s116 rfl
 refine OW.call [pp pb1 0, ii a2] rfl Tryz.func51 (by kernel_rfl) (by kernel_rfl) (map_cons' rfl (map_cons' rfl rfl)) (syntax_level.calls _ _ pb1 pv1_0 pb1_1 (a0 := a1) hz121 (HF.ten (V := [0]) (L := [3, 4, 5]) rfl) (Bk.vw hB1 rfl) (Own.vw hO1_0 rfl rfl) (Mp.vw hM1_1 rfl)) ?_
 rintro _ w122 ⟨o123, rfl, s124⟩
 refine ⟨_, rfl, ?_⟩
 replace s124 := un_stepL (J := []) (L' := []) s124 rfl rfl
 refine E rfl (mv (ii a3) rfl) <|
  E rfl (e2 bin_lss rfl rfl) <|
  E rfl (sg (.bool (decide (z121 < a3))) rfl) <|
  WL.nil ?_
 obtain ⟨z126, hz126, H⟩ := bindE H
 refine WC.cut (fun ρ_ w_ => ∃ (o_ : Tags), Fm o0 w0 o_ w_ [2] ∧ Own (Rep.int .i64) 3 41 o_ w_ v117 z113.2.1 ∧ Own (Rep.int .i64) 3 42 o_ w_ v119 z113.2.2 ∧ Bd 68 5 2 o_ w_ pb0 z126 ∧ Bk o_ w_ 3 pb1 [pv1_0, .map (some pb1_1)] 56 ∧ Own T_api_Node.rep 60 4 o_ w_ pv1_0 a1.f_rows ∧ Mp (fun x_ : T_api_Node => Value.agg #[ii x_.f_Kind, encS x_.f_Name, ii x_.f_L, ii x_.f_R]) (fun v_ : Int => ii v_) 5 o_ w_ pb1_1 a1_1 ∧ ρ_ 0 = pp pb0 0 ∧ ρ_ 1 = pp pb1 0 ∧ ρ_ 10 = encS z113.1 ∧ ρ_ 11 = v117 ∧ ρ_ 12 = v119 ∧ ρ_ 13 = .bool (decide (z121 < a3))) ?case127 ?_
 case case127 =>
  rintro ρ130 w128 ⟨o129, HF, hO118, hO120, hB130, hB1, hO1_0, hM1_1, s0_124, s1_124, s10_124, s11_124, s12_124, s13_124⟩
  obtain ⟨z132, hz132, H⟩ := bindE H
  refine WC.cut (fun ρ_ w_ => ∃ (o_ : Tags), Fm o0 w0 o_ w_ [2] ∧ Own (Rep.int .i64) 3 41 o_ w_ v117 z113.2.1 ∧ Own (Rep.int .i64) 3 42 o_ w_ v119 z113.2.2 ∧ Bd 68 5 2 o_ w_ pb0 z132 ∧ Bk o_ w_ 3 pb1 [pv1_0, .map (some pb1_1)] 56 ∧ Own T_api_Node.rep 60 4 o_ w_ pv1_0 a1.f_rows ∧ Mp (fun x_ : T_api_Node => Value.agg #[ii x_.f_Kind, encS x_.f_Name, ii x_.f_L, ii x_.f_R]) (fun v_ : Int => ii v_) 5 o_ w_ pb1_1 a1_1 ∧ ρ_ 0 = pp pb0 0 ∧ ρ_ 1 = pp pb1 0 ∧ ρ_ 10 = encS z113.1 ∧ ρ_ 11 = v117 ∧ ρ_ 12 = v119 ∧ ρ_ 13 = .bool (decide (z121 < a3))) ?case133 ?_
  case case133 =>
   rintro ρ136 w134 ⟨o135, HF, hO118, hO120, hB139, hB1, hO1_0, hM1_1, s0_130, s1_130, s10_130, s11_130, s12_130, s13_130⟩
   refine WC.seq <|
    WC.seq <|
    WC.region <|
    E rfl (mv v117 s11_130) ?_
   obtain ⟨A137, c138, q139⟩ := hO118.slice
   refine E rfl (ex_len_slice ((show _ = (v117 : Value) from rfl).trans q139) U92) <|
    E rfl (mv (ii 0) rfl) <|
    WL.nil ?_
   obtain ⟨z143, hz143, H⟩ := bindE H
   refine WC.for (fun k_ ρ_ w_ => ∃ (o_ : Tags) (x140 : Int) (x141 : (List UInt8)), Fm o0 w0 o_ w_ [2] ∧ Own (Rep.int .i64) 3 42 o_ w_ v119 z113.2.2 ∧ Own (Rep.int .i64) 3 41 o_ w_ v117 z113.2.1 ∧ Bd 68 5 2 o_ w_ pb0 x141 ∧ Bk o_ w_ 3 pb1 [pv1_0, .map (some pb1_1)] 56 ∧ Own T_api_Node.rep 60 4 o_ w_ pv1_0 a1.f_rows ∧ Mp (fun x_ : T_api_Node => Value.agg #[ii x_.f_Kind, encS x_.f_Name, ii x_.f_L, ii x_.f_R]) (fun v_ : Int => ii v_) 5 o_ w_ pb1_1 a1_1 ∧ ρ_ 0 = pp pb0 0 ∧ ρ_ 1 = pp pb1 0 ∧ ρ_ 10 = encS z113.1 ∧ ρ_ 12 = v119 ∧ ρ_ 13 = .bool (decide (z121 < a3)) ∧ ρ_ 43 = v117 ∧ ρ_ 44 = ii (z113.2.1.length : Int) ∧ ρ_ 45 = ii x140 ∧ syntax_write.l1 k a1 a1_1 R z113 k_ x140 x141 = some z143) k (fun ρ_ w_ => ∃ (o_ : Tags), Fm o0 w0 o_ w_ [2] ∧ Bd 68 5 2 o_ w_ pb0 z143 ∧ Bk o_ w_ 3 pb1 [pv1_0, .map (some pb1_1)] 56 ∧ Own T_api_Node.rep 60 4 o_ w_ pv1_0 a1.f_rows ∧ Mp (fun x_ : T_api_Node => Value.agg #[ii x_.f_Kind, encS x_.f_Name, ii x_.f_L, ii x_.f_R]) (fun v_ : Int => ii v_) 5 o_ w_ pb1_1 a1_1 ∧ ρ_ 0 = pp pb0 0 ∧ ρ_ 13 = .bool (decide (z121 < a3))) ⟨_, 0, z132, HF, hO120, hO118, hB139, hB1, hO1_0, hM1_1, s0_130, s1_130, s10_130, s12_130, s13_130, rfl, rfl, rfl, hz143⟩ ?case144 ?_
   case case144 =>
    rintro ρ189 w190 ⟨o191, HF, hB139, hB1, hO1_0, hM1_1, s0_141, s13_141⟩
    refine WC.seq <|
     WC.region <|
     E rfl (mv (.bool (decide (z121 < a3))) s13_141) <|
     WL.nil ?_
    rcases condE H with ⟨c192, H⟩ | ⟨c192, H⟩
    ·
     refine WC.cond_t (vb c192 rfl) <|
      WC.region <|
      E rfl (mv (pp pb0 0) s0_141) ?_
     obtain ⟨z193, hz193, H⟩ := bindE H
     refine WL.op rfl <|
      OW.call [pp pb0 0, enc8 (41 : UInt8)] rfl Tryz.func52 (by kernel_rfl) (by kernel_rfl) (map_cons' rfl (map_cons' rfl rfl)) (Builder_WriteByte.calls _ _ pb0 z143 (41 : UInt8) z193 (HF.ten (V := [0]) (L := [2]) rfl) (Bd.vw hB139 rfl rfl) hz193) ?_
     rintro _ w194 ⟨o195, rfl, s196, hB197⟩
     refine ⟨_, rfl, ?_⟩
     replace hB197 := Bd.unO (J := []) 0 hB197 s196 rfl rfl rfl
     replace s196 := un_stepL (J := []) (L' := [2]) s196 rfl rfl
     refine WL.nil ?_
     obtain rfl := Option.some.inj H
     replace HF := HF.step s196 rfl
     exact ⟨_, .nil, _, rfl, HF.out, hB197⟩
    ·
     refine WC.cond_f (vb c192 rfl) <|
      WC.skip ?_
     obtain rfl := Option.some.inj H
     exact ⟨_, .nil, _, rfl, HF.out, hB139⟩
   have Ho145 := H
   rintro k146 ρ147 w148 ⟨o149, x140, x141, HF, hO120, hO118, hB139, hB1, hO1_0, hM1_1, s0_139, s1_139, s10_139, s12_139, s13_139, s43_139, s44_139, s45_140, H⟩
   cases k146 with
   | zero => cases H
   | succ k146 =>
   rw [syntax_write.l1.eq_2] at H
   refine WC.seq <|
    WC.region <|
    E rfl (e2 bin_lss s45_140 s44_139) <|
    WL.nil <|
    WC.seq ?_
   rcases condE H with ⟨c150, H⟩ | ⟨c150, H⟩
   ·
    refine WC.cond_t (vb c150 rfl) <|
     WC.skip <|
     WC.seq <|
     WC.block <|
     WC.seq <|
     WC.region <|
     E rfl (mv (ii x140) s45_140) ?_
    obtain ⟨x151, hx151, H⟩ := bindE H
    obtain ⟨A156, c157, q158_⟩ := hO118.slice
    obtain ⟨ad152, e153, g154, g155, cell159⟩ := Row.ixS (Own.rowOf hO118 q158_) hx151
    refine E rfl (ex_indexAddr (i := x140) ((show _ = (v117 : Value) from s43_139).trans q158_) e153 s45_140 U92 sz3 g154 g155) <|
     E rfl (ex_load1 (v := ii x151) rfl U3 rfl cell159) <|
     E rfl (sg (ii x140) rfl) <|
     E rfl (sg (ii x151) rfl) <|
     WL.nil ?_
    obtain ⟨z162, hz162, H⟩ := bindE H
    refine WC.cut (fun ρ_ w_ => ∃ (o_ : Tags), Fm o0 w0 o_ w_ [2] ∧ Own (Rep.int .i64) 3 42 o_ w_ v119 z113.2.2 ∧ Own (Rep.int .i64) 3 41 o_ w_ v117 z113.2.1 ∧ Bd 68 5 2 o_ w_ pb0 z162 ∧ Bk o_ w_ 3 pb1 [pv1_0, .map (some pb1_1)] 56 ∧ Own T_api_Node.rep 60 4 o_ w_ pv1_0 a1.f_rows ∧ Mp (fun x_ : T_api_Node => Value.agg #[ii x_.f_Kind, encS x_.f_Name, ii x_.f_L, ii x_.f_R]) (fun v_ : Int => ii v_) 5 o_ w_ pb1_1 a1_1 ∧ ρ_ 0 = pp pb0 0 ∧ ρ_ 1 = pp pb1 0 ∧ ρ_ 10 = encS z113.1 ∧ ρ_ 12 = v119 ∧ ρ_ 13 = .bool (decide (z121 < a3)) ∧ ρ_ 14 = ii x140 ∧ ρ_ 15 = ii x151 ∧ ρ_ 43 = v117 ∧ ρ_ 44 = ii (z113.2.1.length : Int) ∧ ρ_ 45 = ii x140) ?case163 ?_
    case case163 =>
     rintro ρ166 w164 ⟨o165, HF, hO120, hO118, hB166, hB1, hO1_0, hM1_1, s0_160, s1_160, s10_160, s12_160, s13_160, s14_160, s15_160, s43_160, s44_160, s45_160⟩
     refine WC.region <|
      E rfl (mv (pp pb0 0) s0_160) <|
      E rfl (mv (pp pb1 0) s1_160) <|
      E rfl (mv (ii x151) s15_160) <|
      E rfl (mv v119 s12_160) <|
      E rfl (mv (ii x140) s14_160) ?_
     obtain ⟨x167, hx167, H⟩ := bindE H
     obtain ⟨A172, c173, q174_⟩ := hO120.slice
     obtain ⟨ad168, e169, g170, g171, cell175⟩ := Row.ixS (Own.rowOf hO120 q174_) hx167
     refine E rfl (ex_indexAddr (i := x140) ((show _ = (v119 : Value) from rfl).trans q174_) e169 rfl U92 sz3 g170 g171) <|
      E rfl (ex_load1 (v := ii x167) rfl U3 rfl cell175) ?_
     obtain ⟨z177, hz177, H⟩ := bindE H
     refine WL.op rfl <|
      OW.call [pp pb0 0, pp pb1 0, ii x151, ii x167] rfl Tryz.func26 (by kernel_rfl) (by kernel_rfl) (map_cons' rfl (map_cons' rfl (map_cons' rfl (map_cons' rfl rfl)))) (hR.syntax_write _ _ pb0 pb1 pv1_0 pb1_1 (a1 := a1) hz177 (HF.ten (V := [0]) (L := [2, 3, 4, 5]) rfl) (Bd.vw hB166 rfl rfl) (Bk.vw hB1 rfl) (Own.vw hO1_0 rfl rfl) (Mp.vw hM1_1 rfl)) ?_
     rintro _ w178 ⟨o179, rfl, s180, hB181⟩
     refine ⟨_, rfl, ?_⟩
     replace hB181 := Bd.unO (J := []) 0 hB181 s180 rfl rfl rfl
     replace s180 := un_stepL (J := []) (L' := [2]) s180 rfl rfl
     refine WL.nil <|
      WC.region <|
      E rfl (e2 bin_add64 s45_160 rfl) <|
      E rfl (mv (ii (wrap64 (x140 + 1))) rfl) <|
      WL.nil ?_
     replace hO120 := hO120.step s180 rfl rfl
     replace hO118 := hO118.step s180 rfl rfl
     replace hB1 := hB1.step s180 rfl
     replace hO1_0 := hO1_0.step s180 rfl rfl
     replace hM1_1 := hM1_1.step s180 rfl
     replace HF := HF.step s180 rfl
     exact ⟨k146, Nat.lt_succ_self _, ⟨_, wrap64 (x140 + 1), z177, HF, hO120, hO118, hB181, hB1, hO1_0, hM1_1, s0_160, s1_160, s10_160, s12_160, s13_160, s43_160, s44_160, rfl, H⟩⟩
    have Ho182 := H
    replace H := hz162
    refine WC.seq <|
     WC.region <|
     E rfl (mv (ii x140) rfl) <|
     E rfl (e2 bin_eql rfl rfl) <|
     WL.nil ?_
    rcases condE H with ⟨c183, H⟩ | ⟨c183, H⟩
    ·
     refine WC.cond_t (vb c183 rfl) <|
      WC.region <|
      E rfl (mv (pp pb0 0) s0_139) <|
      E rfl (mv (encS z113.1) s10_139) ?_
     obtain ⟨z184, hz184, H⟩ := bindE H
     refine WL.op rfl <|
      OW.call [pp pb0 0, encS z113.1] rfl Tryz.func53 (by kernel_rfl) (by kernel_rfl) (map_cons' rfl (map_cons' rfl rfl)) (Builder_WriteString.calls _ _ pb0 x141 z113.1 z184 (HF.ten (V := [0]) (L := [2]) rfl) (Bd.vw hB139 rfl rfl) hz184) ?_
     rintro _ w185 ⟨o186, rfl, s187, hB188⟩
     refine ⟨_, rfl, ?_⟩
     replace hB188 := Bd.unO (J := []) 0 hB188 s187 rfl rfl rfl
     replace s187 := un_stepL (J := []) (L' := [2]) s187 rfl rfl
     refine WL.nil ?_
     obtain rfl := Option.some.inj H
     replace hO120 := hO120.step s187 rfl rfl
     replace hO118 := hO118.step s187 rfl rfl
     replace hB1 := hB1.step s187 rfl
     replace hO1_0 := hO1_0.step s187 rfl rfl
     replace hM1_1 := hM1_1.step s187 rfl
     replace HF := HF.step s187 rfl
     exact ⟨_, HF, hO120, hO118, hB188, hB1, hO1_0, hM1_1, s0_139, s1_139, s10_139, s12_139, s13_139, rfl, rfl, s43_139, s44_139, s45_140⟩
    ·
     refine WC.cond_f (vb c183 rfl) <|
      WC.skip ?_
     obtain rfl := Option.some.inj H
     exact ⟨_, HF, hO120, hO118, hB139, hB1, hO1_0, hM1_1, s0_139, s1_139, s10_139, s12_139, s13_139, rfl, rfl, s43_139, s44_139, s45_140⟩
   ·
    refine WC.cond_f (vb c150 rfl) <|
     WC.exit ?_
    obtain rfl := Option.some.inj H
    exact ⟨_, HF, hB139, hB1, hO1_0, hM1_1, s0_139, s13_139⟩
  have Ho198 := H
  replace H := hz132
  refine WC.seq <|
   WC.region <|
   E rfl (mv v117 s11_124) ?_
  obtain ⟨A199, c200, q201⟩ := hO118.slice
  refine E rfl (ex_len_slice ((show _ = (v117 : Value) from rfl).trans q201) U92) <|
   E rfl (e2 bin_neq rfl rfl) <|
   WL.nil ?_
  rcases condE H with ⟨c202, H⟩ | ⟨c202, H⟩
  ·
   refine WC.cond_t (vb c202 rfl) <|
    WC.region <|
    E rfl (mv (pp pb0 0) s0_124) <|
    E rfl (mv (encS z113.1) s10_124) ?_
   obtain ⟨z203, hz203, H⟩ := bindE H
   refine WL.op rfl <|
    OW.call [pp pb0 0, encS z113.1] rfl Tryz.func53 (by kernel_rfl) (by kernel_rfl) (map_cons' rfl (map_cons' rfl rfl)) (Builder_WriteString.calls _ _ pb0 z126 z113.1 z203 (HF.ten (V := [0]) (L := [2]) rfl) (Bd.vw hB130 rfl rfl) hz203) ?_
   rintro _ w204 ⟨o205, rfl, s206, hB207⟩
   refine ⟨_, rfl, ?_⟩
   replace hB207 := Bd.unO (J := []) 0 hB207 s206 rfl rfl rfl
   replace s206 := un_stepL (J := []) (L' := [2]) s206 rfl rfl
   refine WL.nil ?_
   obtain rfl := Option.some.inj H
   replace hO118 := hO118.step s206 rfl rfl
   replace hO120 := hO120.step s206 rfl rfl
   replace hB1 := hB1.step s206 rfl
   replace hO1_0 := hO1_0.step s206 rfl rfl
   replace hM1_1 := hM1_1.step s206 rfl
   replace HF := HF.step s206 rfl
   exact ⟨_, HF, hO118, hO120, hB207, hB1, hO1_0, hM1_1, s0_124, s1_124, s10_124, s11_124, s12_124, s13_124⟩
  ·
   refine WC.cond_f (vb c202 rfl) <|
    WC.skip ?_
   obtain rfl := Option.some.inj H
   exact ⟨_, HF, hO118, hO120, hB130, hB1, hO1_0, hM1_1, s0_124, s1_124, s10_124, s11_124, s12_124, s13_124⟩
 have Ho208 := H
 replace H := hz126
 refine WC.seq <|
  WC.region <|
  E rfl (mv (.bool (decide (z121 < a3))) rfl) <|
  WL.nil ?_
 rcases condE H with ⟨c209, H⟩ | ⟨c209, H⟩
 ·
  refine WC.cond_t (vb c209 rfl) <|
   WC.region <|
   E rfl (mv (pp pb0 0) rfl) ?_
  obtain ⟨z210, hz210, H⟩ := bindE H
  refine WL.op rfl ?_
  replace HF := HF.step s124 rfl
  have k104_124 := (k104_111.t s116).t s124
  replace hB0 := hB0.step k104_124 rfl rfl
  refine OW.call [pp pb0 0, enc8 (40 : UInt8)] rfl Tryz.func52 (by kernel_rfl) (by kernel_rfl) (map_cons' rfl (map_cons' rfl rfl)) (Builder_WriteByte.calls _ _ pb0 a0 (40 : UInt8) z210 (HF.ten (V := [0]) (L := [2]) rfl) (Bd.vw hB0 rfl rfl) hz210) ?_
  rintro _ w211 ⟨o212, rfl, s213, hB214⟩
  refine ⟨_, rfl, ?_⟩
  replace hB214 := Bd.unO (J := []) 0 hB214 s213 rfl rfl rfl
  replace s213 := un_stepL (J := []) (L' := [2]) s213 rfl rfl
  refine WL.nil ?_
  obtain rfl := Option.some.inj H
  replace HF := HF.step s213 rfl
  have k124_213 := s124.t s213
  replace hO1_0 := hO1_0.step k124_213 rfl rfl
  replace hB1 := hB1.step k124_213 rfl
  replace hM1_1 := hM1_1.step k124_213 rfl
  replace hO118 := hO118.step k124_213 rfl rfl
  replace hO120 := hO120.step k124_213 rfl rfl
  exact ⟨_, HF, hO118, hO120, hB214, hB1, hO1_0, hM1_1, rfl, rfl, rfl, rfl, rfl, rfl⟩
 ·
  refine WC.cond_f (vb c209 rfl) <|
   WC.skip ?_
  obtain rfl := Option.some.inj H
  replace hO1_0 := hO1_0.step s124 rfl rfl
  replace hB1 := hB1.step s124 rfl
  replace hM1_1 := hM1_1.step s124 rfl
  replace hO118 := hO118.step s124 rfl rfl
  replace hO120 := hO120.step s124 rfl rfl
  replace HF := HF.step s124 rfl
  have k104_124 := (k104_111.t s116).t s124
  replace hB0 := hB0.step k104_124 rfl rfl
  exact ⟨_, HF, hO118, hO120, hB0, hB1, hO1_0, hM1_1, rfl, rfl, rfl, rfl, rfl, rfl⟩

theorem G_syntax_write.ok (k : Nat) : ∀ n, G_syntax_write.OK (G_syntax_write.rec_ k n)
 | 0 => ⟨(by intro o0 w0 pb0 pb1 pv1_0 pb1_1 a0 a1 a2 a3 a1_1 r H hO hB0 hB1 hO1_0 hM1_1; exact nomatch (show (none : Option ((List UInt8))) = some r from H))⟩
 | n + 1 => ⟨syntax_write.callsF k (G_syntax_write.rec_ k n) (G_syntax_write.ok k n)⟩
theorem syntax_write.calls (k : Nat) : syntax_write.Spec (syntax_write.f k) := (G_syntax_write.ok k k).syntax_write


/-! ### (*strings.Builder).String -/
theorem unsafe_string (i : Nat) (o : Tags) (w : World) (A : Option Addr) (xs : List UInt8) (c : Nat) (p : Option Addr) (hO : Own Rep.u8 5 i o w (.slice A xs.length c) xs) (hp : xs ≠ [] → p = A) (hl : xs.length ≤ 9223372036854775807) :
    ∃ w', (Builtin.unsafeString_ #[109, 3] 9 #[.pointer p, .int .i64 xs.length]).run Tryz.prog w = .ok (encS xs) w' ∧ Step o w o w' [i] := by
  by_cases h0 : xs = []
  · subst h0
    exact ⟨w, by have := Lib.run_unsafeString_none (P := Tryz.prog) w 109 3 9 p; rw [List.length_nil]; rw [show ((0 : Nat) : Int) = 0 from rfl, this]; rfl, Step.refl _ _ _⟩
  · obtain rfl := hp h0
    obtain ⟨cells, hown, ht, hm⟩ := hO
    rcases hown.2 with ⟨_, hz⟩ | ⟨g, cap, cur, hv, _, hg, hn, hcm, hcs, htake⟩
    · exact absurd (List.eq_nil_of_length_eq_zero hz) h0
    · injection hv with e1 _ e3
      subst e1
      have hcz : cur.size = cap := by rw [hcs]; exact Nat.mul_one cap
      refine ⟨w.freeze ⟨g, 0, none⟩ xs.length, ?_, step_freeze (ht g rfl)⟩
      refine Lib.run_unsafeString_row (P := Tryz.prog) w 109 3 9 5 Tryz.underlying109 (by kernel_rfl) g cur.size (by simp [World.shape?, hg]) xs h0 (by omega) hl ?_
      intro j x hx
      have hcell := World.ownsRow.cells hown (g := g) rfl j (enc8 x)
      have hcs' : cells = xs.map enc8 := many_scalar hm
      rw [hcs'] at hcell
      exact hcell (by simp [hx])
theorem Builder_String.calls (o0 : Tags) (w0 : World) (b : Nat) (a0 : List UInt8) (r : List UInt8) (hO : ∀ b, b < w0.heap.size → o0 b < 40) (hB0 : Bd 68 5 2 o0 w0 b a0) (H : Builder_String.f a0 = some r) :
    Calls Tryz.prog 27 [.pointer (some ⟨b, 0, none⟩)].toArray w0 fun e_ w_ => ∃ (o_ : Tags), e_ = .returned (one [encS r]) ∧ Step o0 w0 o_ w_ [2] := by
  unfold Builder_String.f at H
  obtain ⟨u, hu, H⟩ := bindE H
  obtain rfl := Option.some.inj H
  have hl : a0.length ≤ 9223372036854775807 := of_decide_eq_true (chk_true hu)
  obtain ⟨p, v, hB0', hp, hO1⟩ := hB0
  have hb := hB0'.heap
  have hn := hO1.notin hb rfl
  have h0 : o0 b ≠ 0 := by rw [hB0'.tag]; decide
  have hO2 : Own Rep.u8 5 2 (apart1 o0 b) w0 v a0 := hO1.apart hn h0
  have HF := Fm.here2 (apart1 o0 b) w0
  have hB : Bk (apart1 o0 b) w0 41 b [p, v] 68 := ⟨apart1_same o0 b, hb⟩
  refine SX.calls [.pointer (some ⟨b, 0, none⟩)] Tryz.func27 rfl rfl ?_
  rw [Tryz.ntmps27]
  refine WC.seq ?_
  refine WC.region ?_
  refine WL.ex rfl (ex_assign (v := encS []) rfl) ?_
  refine WL.nil ?_
  refine WC.seq ?_
  refine WC.regionD' HF [2] 12 12 (by kernel_rfl) rfl ?_
  intro w1 s1
  replace hO2 := hO2.step s1 rfl rfl
  replace hB := hB.step s1 rfl
  replace HF := HF.step s1 rfl
  have hBD := hB
  have sR := HF.here [2]
  obtain ⟨A, c, e, hlc, hr⟩ := hO2.row
  subst e
  refine WA.ex 0 rfl (by kernel_rfl) (by kernel_rfl) (by kernel_rfl) rfl ⟨_, sR⟩ (fun w_ hS_ => ex_move (v := .pointer (some ⟨b, 0, none⟩)) rfl) ?_
  refine WA.ex 1 rfl (by kernel_rfl) (by kernel_rfl) (by kernel_rfl) rfl ⟨_, sR⟩ (fun w_ hS_ => ex_nilCheck rfl) ?_
  refine WA.ex 2 rfl (by kernel_rfl) (by kernel_rfl) (by kernel_rfl) rfl ⟨_, sR⟩ (fun w_ hS_ => ex_fieldAddr (k := 0) rfl Tryz.underlying68 rfl (by kernel_rfl)) ?_
  refine WA.ex 3 rfl (by kernel_rfl) (by kernel_rfl) (by kernel_rfl) rfl ⟨_, sR⟩ (fun w_ hS_ => ex_load1 (v := .slice A a0.length c) rfl Tryz.underlying66 rfl ((hBD.step hS_.choose_spec rfl).cell rfl)) ?_
  refine WA.ex 5 rfl (by kernel_rfl) (by kernel_rfl) (by kernel_rfl) rfl ⟨_, sR⟩ (fun w_ hS_ => ex_move (v := .pointer (some ⟨b, 0, none⟩)) rfl) ?_
  refine WA.ex 6 rfl (by kernel_rfl) (by kernel_rfl) (by kernel_rfl) rfl ⟨_, sR⟩ (fun w_ hS_ => ex_nilCheck rfl) ?_
  refine WA.ex 7 rfl (by kernel_rfl) (by kernel_rfl) (by kernel_rfl) rfl ⟨_, sR⟩ (fun w_ hS_ => ex_fieldAddr (k := 0) rfl Tryz.underlying68 rfl (by kernel_rfl)) ?_
  refine WA.ex 8 rfl (by kernel_rfl) (by kernel_rfl) (by kernel_rfl) rfl ⟨_, sR⟩ (fun w_ hS_ => ex_load1 (v := .slice A a0.length c) rfl Tryz.underlying66 rfl ((hBD.step hS_.choose_spec rfl).cell rfl)) ?_
  refine WA.ex 9 rfl (by kernel_rfl) (by kernel_rfl) (by kernel_rfl) rfl ⟨_, sR⟩ (fun w_ hS_ => ex_len_slice (A := A) (m := a0.length) (c := c) rfl Tryz.underlying66) ?_
  have hdata : ∃ q w2 o2, (Builtin.unsafeSliceData_ #[66] 109 #[.slice A a0.length c]).run Tryz.prog w1 = .ok (.pointer q) w2 ∧ Step (apart1 o0 b) w1 o2 w2 [] ∧ (a0 ≠ [] → q = A) := by
    cases A with
    | none => exact ⟨none, w1, _, Lib.run_unsafeSliceData_nil w1 _ _ _ _, Step.refl _ _ _, fun _ => rfl⟩
    | some ad =>
      by_cases hc : c = 0
      · subst hc
        obtain ⟨cells, hown, ht, hm⟩ := hO2
        rcases hown.2 with ⟨hz, _⟩ | ⟨g, cap, cur, hv, _, hg, _⟩
        · cases hz
        · injection hv with e1 _ e3
          injection e1 with e1
          subst e1
          exact ⟨_, _, _, Lib.run_unsafeSliceData_zero (P := Tryz.prog) w1 #[66] 109 5 Tryz.underlying109 ⟨g, 0, none⟩ a0.length (5, cur.size) (by simp [World.shape?, hg]), step_alloc (apart1 o0 b) w1 1 _ [], fun h => absurd (List.eq_nil_of_length_eq_zero (by omega)) h⟩
      · exact ⟨some ad, w1, _, Lib.run_unsafeSliceData_row w1 _ _ ad _ _ hc, Step.refl _ _ _, fun _ => rfl⟩
  obtain ⟨q, w2, o2, hr2, s2, hq⟩ := hdata
  refine WA.one 4 (by kernel_rfl) rfl rfl ?_
  refine OW.val (v := .pointer q) (w' := w2) rfl (run_usd (v := .slice A a0.length c) rfl hr2) ?_
  replace sR := Step.trans sR s2 (M := [2]) rfl rfl
  replace hO2 := hO2.step s2 rfl rfl
  refine ⟨⟨_, sR⟩, ?_⟩
  obtain ⟨w3, hr3, s3⟩ := unsafe_string 2 o2 w2 A a0 c q hO2 hq hl
  refine WA.one 10 (by kernel_rfl) rfl rfl ?_
  refine OW.val (v := encS a0) (w' := w3) rfl (run_us (v := .pointer q) (u := .int .i64 (a0.length : Int)) rfl rfl hr3) ?_
  replace sR := Step.trans sR s3 (M := [2]) rfl rfl
  refine ⟨⟨_, sR⟩, ?_⟩
  refine WA.one 11 (by kernel_rfl) rfl rfl ?_
  refine OW.ex rfl (ex_assign (v := encS a0) rfl) ?_
  refine ⟨⟨_, sR⟩, ?_⟩
  refine WA.done (by kernel_rfl) ?_
  refine WC.ret ?_
  exact ⟨_, .tmp (encS a0) rfl .nil, _, rfl, apart_step hO hB0'.tag (Step.trans s1 sR (M := [41, 2]) rfl rfl) rfl⟩

/-! ### syntax_Print -/
set_option maxRecDepth 100000 in
theorem syntax_Print.calls (k : Nat) (o0 : Tags) (w0 : World) (pb0 : Nat) (pv0_0 : Value) (pb0_1 : Nat) {a0 : T_formula_Table} {a1 : Int} {a0_1 : (List (T_api_Node × Int))} {r : (List UInt8) × Int} (H : syntax_Print.f k a0 a1 a0_1 = some r) (hO : ∀ b, b < w0.heap.size → o0 b < 40) (hB0 : Bk o0 w0 2 pb0 [pv0_0, .map (some pb0_1)] 56) (hO0_0 : Own T_api_Node.rep 60 3 o0 w0 pv0_0 a0.f_rows) (hM0_1 : Mp (fun x_ : T_api_Node => Value.agg #[ii x_.f_Kind, encS x_.f_Name, ii x_.f_L, ii x_.f_R]) (fun v_ : Int => ii v_) 4 o0 w0 pb0_1 a0_1) :
  Calls Tryz.prog 9 [pp pb0 0, ii a1].toArray w0 fun e_ w_ => ∃ (o_ : Tags), e_ = .returned (one [encS r.1, ii r.2]) ∧ Step o0 w0 o_ w_ [] := by
 have HF := Fm.refl hO []
 unfold syntax_Print.f at H
 refine SX.calls [pp pb0 0, ii a1] Tryz.func9 rfl rfl ?_
 rw [Tryz.ntmps9]
 refine WC.seq <|
  WC.region <|
  E rfl (sg (encS ([] : List UInt8)) rfl) <|
  E rfl (sg (ii 0) rfl) <|
  WL.nil <|
  WC.seq <|
  WC.seq <|
  WC.region <|
  E rfl (mv (pp pb0 0) rfl) ?_
 obtain ⟨z101, hz101, H⟩ := bindE H
 refine WL.op rfl <|
  OW.call [pp pb0 0] rfl Tryz.func23 (by kernel_rfl) (by kernel_rfl) (map_cons' rfl rfl) (syntax_known.calls k _ _ pb0 pv0_0 pb0_1 (a0 := a0) hz101 (HF.ten (V := [0]) (L := [2, 3, 4]) rfl) (Bk.vw hB0 rfl) (Own.vw hO0_0 rfl rfl) (Mp.vw hM0_1 rfl)) ?_
 rintro _ w102 ⟨o103, rfl, s104⟩
 refine ⟨_, rfl, ?_⟩
 replace s104 := un_stepL (J := []) (L' := []) s104 rfl rfl
 refine E rfl (ex_not (b := z101) rfl) <|
  WL.nil ?_
 rcases condE H with ⟨c105, H⟩ | ⟨c105, H⟩
 ·
  refine WC.cond_t (vb c105 rfl) <|
   WC.seq <|
   WC.region <|
   E rfl (sg (encS ([] : List UInt8)) rfl) <|
   E rfl (sg (ii 1) rfl) <|
   WL.nil <|
   WC.ret ?_
  obtain rfl := Option.some.inj H
  replace HF := HF.step s104 rfl
  exact ⟨_, (.tmp _ rfl (.tmp _ rfl .nil)), _, rfl, HF.out⟩
 ·
  refine WC.cond_f (vb c105 rfl) <|
   WC.skip <|
   WC.seq <|
   WC.seq <|
   WC.region <|
   E rfl (mv (pp pb0 0) rfl) <|
   E rfl (mv (ii a1) rfl) ?_
  obtain ⟨z106, hz106, H⟩ := bindE H
  refine WL.op rfl ?_
  replace hO0_0 := hO0_0.step s104 rfl rfl
  replace hB0 := hB0.step s104 rfl
  replace hM0_1 := hM0_1.step s104 rfl
  replace HF := HF.step s104 rfl
  refine OW.call [pp pb0 0, ii a1] rfl Tryz.func24 (by kernel_rfl) (by kernel_rfl) (map_cons' rfl (map_cons' rfl rfl)) (formula_Table_Node.calls _ _ pb0 pv0_0 pb0_1 (a0 := a0) hz106 (HF.ten (V := [0]) (L := [2, 3, 4]) rfl) (Bk.vw hB0 rfl) (Own.vw hO0_0 rfl rfl) (Mp.vw hM0_1 rfl)) ?_
  rintro _ w107 ⟨o108, rfl, s109⟩
  refine ⟨_, rfl, ?_⟩
  replace s109 := un_stepL (J := []) (L' := []) s109 rfl rfl
  refine E rfl (mv (.tuple #[.agg #[ii z106.1.f_Kind, encS z106.1.f_Name, ii z106.1.f_L, ii z106.1.f_R], .bool z106.2]) rfl) <|
   E rfl (ex_extract rfl rfl) <|
   E rfl (ex_extract rfl rfl) <|
   WL.op rfl ?_
  replace HF := HF.step s109 rfl
  refine OW.alloc' [ii (0 : Int), encS ([] : List UInt8), ii (0 : Int), ii (0 : Int)] 40 HF rfl zr60 rfl ?_
  intro o111 w112 b110 s113 hB114
  refine WL.op rfl <|
   OW.storeW rfl rfl sz60 hB114 rfl (oa rfl) ?_
  intro w115 s116 hB117
  refine E rfl (sg (.bool z106.2) rfl) <|
   WL.nil <|
   WC.seq <|
   WC.region <|
   E rfl (mv (.bool z106.2) rfl) <|
   E rfl (ex_not (b := z106.2) rfl) <|
   WL.nil ?_
  rcases condE H with ⟨c118, H⟩ | ⟨c118, H⟩
  ·
   refine WC.cond_t (vb c118 rfl) <|
    WC.seq <|
    WC.region <|
    E rfl (sg (encS ([] : List UInt8)) rfl) <|
    E rfl (sg (ii 31) rfl) <|
    WL.nil <|
    WC.ret ?_
   obtain rfl := Option.some.inj H
   have k113_116 := s113.t s116
   replace HF := HF.step k113_116 rfl
   exact ⟨_, (.tmp _ rfl (.tmp _ rfl .nil)), _, rfl, HF.out⟩
  ·
   refine WC.cond_f (vb c118 rfl) <|
    WC.skip <|
    WC.seq <|
    WC.seq <|
    WC.region <|
    E rfl (mv (pp pb0 0) rfl) <|
    E rfl (mv (ii a1) rfl) <|
    WL.op rfl ?_
   have k113_116 := s113.t s116
   replace HF := HF.step k113_116 rfl
   refine OW.makeMap (fun n_ : Int => Value.int .i64 n_) (fun v_ : Int => ii v_) 41 HF rfl ?_
   intro o120 w121 b119 s122 hM123
   obtain ⟨z124, hz124, H⟩ := bindE H
   refine WL.op rfl ?_
   replace HF := HF.step s122 rfl
   have k109_122 := ((s109.t s113).t s116).t s122
   replace hO0_0 := hO0_0.step k109_122 rfl rfl
   replace hB0 := hB0.step k109_122 rfl
   replace hM0_1 := hM0_1.step k109_122 rfl
   refine OW.call [pp pb0 0, ii a1, .map (some b119)] rfl Tryz.func25 (by kernel_rfl) (by kernel_rfl) (map_cons' rfl (map_cons' rfl (map_cons' rfl rfl))) (syntax_width.calls k _ _ pb0 pv0_0 b119 pb0_1 (a0 := a0) hz124 (HF.ten (V := [0]) (L := [2, 3, 41, 4]) rfl) (Bk.vw hB0 rfl) (Own.vw hO0_0 rfl rfl) (Mp.vw hM123 rfl) (Mp.vw hM0_1 rfl)) ?_
   rintro _ w125 ⟨o126, rfl, s127, hM128⟩
   refine ⟨_, rfl, ?_⟩
   replace hM128 := Mp.unO (J := []) 2 hM128 s127 rfl rfl rfl
   replace s127 := un_stepL (J := []) (L' := [41]) s127 rfl rfl
   refine E rfl (e2 bin_gtr rfl rfl) <|
    WL.nil ?_
   rcases condE H with ⟨c129, H⟩ | ⟨c129, H⟩
   ·
    refine WC.cond_t (vb c129 rfl) <|
     WC.seq <|
     WC.region <|
     E rfl (sg (encS ([] : List UInt8)) rfl) <|
     E rfl (sg (ii 11) rfl) <|
     WL.nil <|
     WC.ret ?_
    obtain rfl := Option.some.inj H
    replace HF := HF.step s127 rfl
    exact ⟨_, (.tmp _ rfl (.tmp _ rfl .nil)), _, rfl, HF.out⟩
   ·
    refine WC.cond_f (vb c129 rfl) <|
     WC.skip <|
     WC.seq <|
     WC.region <|
     WL.op rfl ?_
    replace HF := HF.step s127 rfl
    refine OW.allocFr 42 HF rfl (by kernel_rfl) ?_
    intro o131 w132 b130 s133 hB134 hl135
    refine WL.nil <|
     WC.seq <|
     WC.region <|
     E rfl (mv (pp pb0 0) rfl) <|
     E rfl (mv (ii a1) rfl) ?_
    have hB136 := Bd.fresh (E := 5) hB134
    obtain ⟨z137, hz137, H⟩ := bindE H
    refine WL.op rfl ?_
    replace HF := HF.step s133 rfl
    have k127_133 := s127.t s133
    replace hO0_0 := hO0_0.step k127_133 rfl rfl
    replace hB0 := hB0.step k127_133 rfl
    replace hM0_1 := hM0_1.step k127_133 rfl
    refine OW.call [pp b130 0, pp pb0 0, ii a1, ii 0] rfl Tryz.func26 (by kernel_rfl) (by kernel_rfl) (map_cons' rfl (map_cons' rfl (map_cons' rfl (map_cons' rfl rfl)))) (syntax_write.calls k _ _ b130 pb0 pv0_0 pb0_1 (a1 := a0) hz137 (HF.ten (V := [0]) (L := [42, 2, 3, 4]) rfl) (Bd.vw hB136 rfl rfl) (Bk.vw hB0 rfl) (Own.vw hO0_0 rfl rfl) (Mp.vw hM0_1 rfl)) ?_
    rintro _ w138 ⟨o139, rfl, s140, hB141⟩
    refine ⟨_, rfl, ?_⟩
    replace hB141 := Bd.unO (J := []) 0 hB141 s140 rfl rfl rfl
    replace s140 := un_stepL (J := []) (L' := [42]) s140 rfl rfl
    refine WL.nil <|
     WC.seq <|
     WC.region ?_
    obtain ⟨z142, hz142, H⟩ := bindE H
    refine WL.op rfl ?_
    replace HF := HF.step s140 rfl
    refine OW.call [pp b130 0] rfl Tryz.func27 (by kernel_rfl) (by kernel_rfl) (map_cons' rfl rfl) (Builder_String.calls _ _ b130 z137 z142 (HF.ten (V := [0]) (L := [42]) rfl) (Bd.vw hB141 rfl rfl) hz142) ?_
    rintro _ w143 ⟨o144, rfl, s145⟩
    refine ⟨_, rfl, ?_⟩
    replace s145 := un_stepL (J := []) (L' := [42]) s145 rfl rfl
    refine E rfl (sg (encS z142) rfl) <|
     E rfl (sg (ii 0) rfl) <|
     WL.nil <|
     WC.ret ?_
    obtain rfl := Option.some.inj H
    replace HF := HF.step s145 rfl
    exact ⟨_, (.tmp _ rfl (.tmp _ rfl .nil)), _, rfl, HF.out⟩

/-! ### syntax_Take_1 -/
set_option maxRecDepth 100000 in
theorem syntax_Take_1.calls (k : Nat) (o0 : Tags) (w0 : World) (pb0 : Nat) (pb1 : Nat) (pb0_0 : Nat) (pA0_0_1 : Option Addr) (pc0_0_1 : Nat) (pb0_0_0 : Nat) (pv0_0_0_0 : Value) (pb0_0_0_1 : Nat) {a1 : Int} {a0_0 : T_syntax_reader} {a0_0_0 : T_formula_Table} {a0_0_0_1 : (List (T_api_Node × Int))} {r : Exn (T_syntax_broken × Int × T_syntax_reader × T_formula_Table × (List (T_api_Node × Int))) (Int × T_syntax_reader × T_formula_Table × (List (T_api_Node × Int)))} (H : syntax_Take_1.f k a1 a0_0 a0_0_0 a0_0_0_1 = some r) (hO : ∀ b, b < w0.heap.size → o0 b < 40) (hB0 : Bk o0 w0 2 pb0 [pp pb0_0 0] 78) (hB1 : Bk o0 w0 3 pb1 [ii a1] 3) (hB0_0 : Bk o0 w0 4 pb0_0 [pp pb0_0_0 0, .slice pA0_0_1 a0_0.f_l.length pc0_0_1, ii a0_0.f_i, ii a0_0.f_names, ii a0_0.f_nest, .bool a0_0.f_counts, .bool a0_0.f_full] 80) (hra0_0_1 : Row T_api_Token.rep (fun b_ => o0 b_ = 0) (fun b_ => o0 b_ = 0) w0 pA0_0_1 a0_0.f_l) (hla0_0_1 : a0_0.f_l.length ≤ pc0_0_1) (hB0_0_0 : Bk o0 w0 5 pb0_0_0 [pv0_0_0_0, .map (some pb0_0_0_1)] 56) (hO0_0_0_0 : Own T_api_Node.rep 60 6 o0 w0 pv0_0_0_0 a0_0_0.f_rows) (hM0_0_0_1 : Mp (fun x_ : T_api_Node => Value.agg #[ii x_.f_Kind, encS x_.f_Name, ii x_.f_L, ii x_.f_R]) (fun v_ : Int => ii v_) 7 o0 w0 pb0_0_0_1 a0_0_0_1) :
  Calls Tryz.prog 60 [pp pb0 0, pp pb1 0].toArray w0 fun e_ w_ => ∃ (o_ : Tags), ((∃ p_, r = .ex p_ ∧ ∃ (B_2_1 : Option Addr) (d_2_1 : Nat) (u3_0 : Value), e_ = .panicked (pc (.iface 111 (.agg #[ii p_.1.f_f.f_Code, ii p_.1.f_f.f_At.f_Line, ii p_.1.f_f.f_At.f_Col, ii p_.1.f_f.f_At.f_Off]))) ∧ Step o0 w0 o_ w_ [3, 4, 5, 6, 7] ∧ Bk o_ w_ 3 pb1 [ii p_.2.1] 3 ∧ Bk o_ w_ 4 pb0_0 [pp pb0_0_0 0, .slice B_2_1 p_.2.2.1.f_l.length d_2_1, ii p_.2.2.1.f_i, ii p_.2.2.1.f_names, ii p_.2.2.1.f_nest, .bool p_.2.2.1.f_counts, .bool p_.2.2.1.f_full] 80 ∧ p_.2.2.1.f_l.length ≤ d_2_1 ∧ Row T_api_Token.rep (fun b_ => o_ b_ = 0) (fun b_ => o_ b_ = 0) w_ B_2_1 p_.2.2.1.f_l ∧ Bk o_ w_ 5 pb0_0_0 [u3_0, .map (some pb0_0_0_1)] 56 ∧ Own T_api_Node.rep 60 6 o_ w_ u3_0 p_.2.2.2.1.f_rows ∧ Mp (fun x_ : T_api_Node => Value.agg #[ii x_.f_Kind, encS x_.f_Name, ii x_.f_L, ii x_.f_R]) (fun v_ : Int => ii v_) 7 o_ w_ pb0_0_0_1 p_.2.2.2.2) ∨ ∃ q_, r = .ok q_ ∧ ∃ (B_2_1 : Option Addr) (d_2_1 : Nat) (u3_0 : Value), e_ = .returned (one []) ∧ Step o0 w0 o_ w_ [3, 4, 5, 6, 7] ∧ Bk o_ w_ 3 pb1 [ii q_.1] 3 ∧ Bk o_ w_ 4 pb0_0 [pp pb0_0_0 0, .slice B_2_1 q_.2.1.f_l.length d_2_1, ii q_.2.1.f_i, ii q_.2.1.f_names, ii q_.2.1.f_nest, .bool q_.2.1.f_counts, .bool q_.2.1.f_full] 80 ∧ q_.2.1.f_l.length ≤ d_2_1 ∧ Row T_api_Token.rep (fun b_ => o_ b_ = 0) (fun b_ => o_ b_ = 0) w_ B_2_1 q_.2.1.f_l ∧ Bk o_ w_ 5 pb0_0_0 [u3_0, .map (some pb0_0_0_1)] 56 ∧ Own T_api_Node.rep 60 6 o_ w_ u3_0 q_.2.2.1.f_rows ∧ Mp (fun x_ : T_api_Node => Value.agg #[ii x_.f_Kind, encS x_.f_Name, ii x_.f_L, ii x_.f_R]) (fun v_ : Int => ii v_) 7 o_ w_ pb0_0_0_1 q_.2.2.2) := by
 have HF := Fm.refl hO [3, 4, 5, 6, 7]
 unfold syntax_Take_1.f at H
 refine SX.calls [pp pb0 0, pp pb1 0] Tryz.func60 rfl rfl ?_
 rw [Tryz.ntmps60]
 refine WC.region <|
  E rfl (ex_load1 rfl U78 rfl (hB0.cell rfl)) ?_
 obtain ⟨z101, hz101, H⟩ := bindE H
 refine WL.op rfl <|
  OW.callP [pp pb0_0 0] rfl Tryz.func32 (by kernel_rfl) (by kernel_rfl) (map_cons' rfl rfl) (syntax_reader_formula.calls k _ _ pb0_0 pA0_0_1 pc0_0_1 pb0_0_0 pv0_0_0_0 pb0_0_0_1 (a0 := a0_0) (a0_0 := a0_0_0) hz101 (HF.ten (V := [0]) (L := [4, 5, 6, 7]) rfl) (Bk.vw hB0_0 rfl) (Row.vw hra0_0_1 rfl) hla0_0_1 (Bk.vw hB0_0_0 rfl) (Own.vw hO0_0_0_0 rfl rfl) (Mp.vw hM0_0_0_1 rfl)) ?_
 rintro _ w102 ⟨o103, (⟨p104, rfl, A109, c110, v114, rfl, s106, hB108, hl111, hr112, hB113, hO115, hM116⟩ | ⟨q105, rfl, A118, c119, v123, rfl, s107, hB117, hl120, hr121, hB122, hO124, hM125⟩)⟩
 ·
  refine Or.inr ⟨_, rfl, ?_⟩
  dsimp only at H
  replace hB108 := Bk.unO (J := []) 0 hB108 s106 rfl rfl rfl
  replace hr112 := hr112.un (J := []) s106
  replace hB113 := Bk.unO (J := []) 1 hB113 s106 rfl rfl rfl
  replace hO115 := Own.unO (J := []) 2 hO115 s106 rfl rfl rfl
  replace hM116 := Mp.unO (J := []) 3 hM116 s106 rfl rfl rfl
  replace s106 := un_stepL (J := []) (L' := [4, 5, 6, 7]) s106 rfl rfl
  obtain rfl := Option.some.inj H
  replace hB1 := hB1.step s106 rfl
  replace HF := HF.step s106 rfl
  exact ⟨_, Or.inl ⟨_, rfl, A109, c110, v114, rfl, HF.out, hB1, hB108, hl111, hr112, hB113, hO115, hM116⟩⟩
 ·
  refine Or.inl ⟨_, rfl, ?_⟩
  dsimp only at H
  replace hB117 := Bk.unO (J := []) 0 hB117 s107 rfl rfl rfl
  replace hr121 := hr121.un (J := []) s107
  replace hB122 := Bk.unO (J := []) 1 hB122 s107 rfl rfl rfl
  replace hO124 := Own.unO (J := []) 2 hO124 s107 rfl rfl rfl
  replace hM125 := Mp.unO (J := []) 3 hM125 s107 rfl rfl rfl
  replace s107 := un_stepL (J := []) (L' := [4, 5, 6, 7]) s107 rfl rfl
  refine WL.op rfl ?_
  replace hB1 := hB1.step s107 rfl
  refine OW.storeW rfl rfl sz3 hB1 rfl (oa rfl) ?_
  intro w126 s127 hB128
  refine WL.nil ?_
  obtain rfl := Option.some.inj H
  replace hB117 := hB117.step s127 rfl
  replace hr121 := hr121.step s127 rfl
  replace hB122 := hB122.step s127 rfl
  replace hO124 := hO124.step s127 rfl rfl
  replace hM125 := hM125.step s127 rfl
  have k107_127 := s107.t s127
  replace HF := HF.step k107_127 rfl
  exact ⟨_, .nil, _, Or.inr ⟨_, rfl, A118, c119, v123, rfl, HF.out, hB128, hB117, hl120, hr121, hB122, hO124, hM125⟩⟩

/-! ### syntax_reader_read_syntax_Take_1 -/
set_option maxRecDepth 100000 in
theorem syntax_reader_read_syntax_Take_1.calls (k : Nat) (o0 : Tags) (w0 : World) (pb0 : Nat) (pA0_1 : Option Addr) (pc0_1 : Nat) (pb0_0 : Nat) (pv0_0_0 : Value) (pb1_0 : Nat) (pb1_1 : Nat) (pb0_0_1 : Nat) {a0 : T_syntax_reader} {a0_0 : T_formula_Table} {a1_1 : Int} {a0_0_1 : (List (T_api_Node × Int))} {r : T_api_Fault × T_syntax_reader × T_formula_Table × Int × (List (T_api_Node × Int))} (H : syntax_reader_read_syntax_Take_1.f k a0 a0_0 a1_1 a0_0_1 = some r) (hO : ∀ b, b < w0.heap.size → o0 b < 40) (hB0 : Bk o0 w0 2 pb0 [pp pb0_0 0, .slice pA0_1 a0.f_l.length pc0_1, ii a0.f_i, ii a0.f_names, ii a0.f_nest, .bool a0.f_counts, .bool a0.f_full] 80) (hra0_1 : Row T_api_Token.rep (fun b_ => o0 b_ = 0) (fun b_ => o0 b_ = 0) w0 pA0_1 a0.f_l) (hla0_1 : a0.f_l.length ≤ pc0_1) (hB0_0 : Bk o0 w0 3 pb0_0 [pv0_0_0, .map (some pb0_0_1)] 56) (hO0_0_0 : Own T_api_Node.rep 60 4 o0 w0 pv0_0_0 a0_0.f_rows) (hB1_0 : Bk o0 w0 5 pb1_0 [pp pb0 0] 78) (hB1_1 : Bk o0 w0 6 pb1_1 [ii a1_1] 3) (hM0_0_1 : Mp (fun x_ : T_api_Node => Value.agg #[ii x_.f_Kind, encS x_.f_Name, ii x_.f_L, ii x_.f_R]) (fun v_ : Int => ii v_) 7 o0 w0 pb0_0_1 a0_0_1) :
  Calls Tryz.prog 30 [pp pb0 0, .func (.func 60) #[] #[pp pb1_0 0, pp pb1_1 0]].toArray w0 fun e_ w_ => ∃ (o_ : Tags) (B_0_1 : Option Addr) (d_0_1 : Nat) (u2_0 : Value), e_ = .returned (one [.agg #[ii r.1.f_Code, ii r.1.f_At.f_Line, ii r.1.f_At.f_Col, ii r.1.f_At.f_Off]]) ∧ Step o0 w0 o_ w_ [2, 3, 4, 6, 7] ∧ Bk o_ w_ 2 pb0 [pp pb0_0 0, .slice B_0_1 r.2.1.f_l.length d_0_1, ii r.2.1.f_i, ii r.2.1.f_names, ii r.2.1.f_nest, .bool r.2.1.f_counts, .bool r.2.1.f_full] 80 ∧ r.2.1.f_l.length ≤ d_0_1 ∧ Row T_api_Token.rep (fun b_ => o_ b_ = 0) (fun b_ => o_ b_ = 0) w_ B_0_1 r.2.1.f_l ∧ Bk o_ w_ 3 pb0_0 [u2_0, .map (some pb0_0_1)] 56 ∧ Own T_api_Node.rep 60 4 o_ w_ u2_0 r.2.2.1.f_rows ∧ Bk o_ w_ 6 pb1_1 [ii r.2.2.2.1] 3 ∧ Mp (fun x_ : T_api_Node => Value.agg #[ii x_.f_Kind, encS x_.f_Name, ii x_.f_L, ii x_.f_R]) (fun v_ : Int => ii v_) 7 o_ w_ pb0_0_1 r.2.2.2.2 := by
 have HF := Fm.refl hO [2, 3, 4, 6, 7]
 unfold syntax_reader_read_syntax_Take_1.f at H
 refine SX.callsD [pp pb0 0, .func (.func 60) #[] #[pp pb1_0 0, pp pb1_1 0]] Tryz.func30 rfl rfl ?_
 rw [Tryz.ntmps30]
 refine WC.seq <|
  WC.region <|
  WL.op rfl <|
  OW.box' [pp pb0 0] 40 HF rfl ((congrArg Value.cells (show ev _ _ = (pp pb0 0 : Value) from rfl)).trans rfl) ?_
 intro o102 w103 b101 s104 hB105
 refine WL.op rfl ?_
 replace HF := HF.step s104 rfl
 refine OW.alloc' [ii (0 : Int), ii (0 : Int), ii (0 : Int), ii (0 : Int)] 41 HF rfl zr36 rfl ?_
 intro o107 w108 b106 s109 hB110
 refine WL.nil <|
  WC.seq <|
  WC.region ?_
 replace hB105 := hB105.step s109 rfl
 refine E rfl (ex_load1 rfl U78 rfl (hB105.cell rfl)) <|
  E rfl (ex_nilCheck rfl) <|
  E rfl (ex_fieldAddr rfl U80 rfl sz23) ?_
 have k104_109 := s104.t s109
 replace hB0 := hB0.step k104_109 rfl
 refine E rfl (ex_load1 rfl U23 rfl (hB0.cell rfl)) ?_
 obtain ⟨z111, hz111, H⟩ := bindE H
 refine WL.op rfl ?_
 replace HF := HF.step s109 rfl
 replace hO0_0_0 := hO0_0_0.step k104_109 rfl rfl
 replace hB0_0 := hB0_0.step k104_109 rfl
 replace hM0_0_1 := hM0_0_1.step k104_109 rfl
 refine OW.call [pp pb0_0 0] rfl Tryz.func8 (by kernel_rfl) (by kernel_rfl) (map_cons' rfl rfl) (formula_Table_Len.calls _ _ pb0_0 pv0_0_0 pb0_0_1 (a0 := a0_0) hz111 (HF.ten (V := [0]) (L := [3, 4, 7]) rfl) (Bk.vw hB0_0 rfl) (Own.vw hO0_0_0 rfl rfl) (Mp.vw hM0_0_1 rfl)) ?_
 rintro _ w112 ⟨o113, rfl, s114⟩
 refine ⟨_, rfl, ?_⟩
 replace s114 := un_stepL (J := []) (L' := []) s114 rfl rfl
 refine WL.op rfl ?_
 replace HF := HF.step s114 rfl
 refine OW.alloc' [ii (0 : Int)] 42 HF rfl zr3 rfl ?_
 intro o116 w117 b115 s118 hB119
 refine WL.op rfl <|
  OW.storeW rfl rfl sz3 hB119 rfl (oa rfl) ?_
 intro w120 s121 hB122
 refine WL.nil <|
  WC.seq <|
  WC.region <|
  E rfl (ex_makeFuncC [pp b101 0, pp b115 0, pp b106 0] (map_cons' rfl (map_cons' rfl (map_cons' rfl rfl)))) <|
  WL.op rfl <|
  OW.defer [] [pp b101 0, pp b115 0, pp b106 0] rfl [] rfl <|
  WL.nil <|
  WC.seq <|
  WC.region <|
  E rfl (mv (.func (.func 60) #[] #[pp pb1_0 0, pp pb1_1 0]) rfl) ?_
 obtain ⟨z123, hz123, H⟩ := bindE H
 refine WL.op rfl ?_
 have k118_121 := s118.t s121
 replace HF := HF.step k118_121 rfl
 have k114_121 := s114.t k118_121
 replace hB0 := hB0.step k114_121 rfl
 replace hO0_0_0 := hO0_0_0.step k114_121 rfl rfl
 replace hB0_0 := hB0_0.step k114_121 rfl
 replace hM0_0_1 := hM0_0_1.step k114_121 rfl
 have k104_121 := k104_109.t k114_121
 replace hra0_1 := hra0_1.step k104_121 rfl
 replace hB1_0 := hB1_0.step k104_121 rfl
 replace hB1_1 := hB1_1.step k104_121 rfl
 refine OW.callFP [] [pp pb1_0 0, pp pb1_1 0] (show ev _ _ = .func (.func 60) #[] #[pp pb1_0 0, pp pb1_1 0] from rfl) [] rfl Tryz.func60 (by kernel_rfl) (by kernel_rfl) rfl (syntax_Take_1.calls k _ _ pb1_0 pb1_1 pb0 pA0_1 pc0_1 pb0_0 pv0_0_0 pb0_0_1 (a0_0 := a0) (a0_0_0 := a0_0) hz123 (HF.ten (V := [0]) (L := [5, 6, 2, 3, 4, 7]) rfl) (Bk.vw hB1_0 rfl) (Bk.vw hB1_1 rfl) (Bk.vw hB0 rfl) (Row.vw hra0_1 rfl) hla0_1 (Bk.vw hB0_0 rfl) (Own.vw hO0_0_0 rfl rfl) (Mp.vw hM0_0_1 rfl)) ?_
 rintro _ w124 ⟨o125, (⟨p126, rfl, A132, c133, v137, rfl, s128, hB130, hB131, hl134, hr135, hB136, hO138, hM139⟩ | ⟨q127, rfl, A142, c143, v147, rfl, s129, hB140, hB141, hl144, hr145, hB146, hO148, hM149⟩)⟩
 ·
  refine Or.inr ⟨_, rfl, ?_⟩
  dsimp only at H
  replace hB130 := Bk.unO (J := []) 1 hB130 s128 rfl rfl rfl
  replace hB131 := Bk.unO (J := []) 2 hB131 s128 rfl rfl rfl
  replace hr135 := hr135.un (J := []) s128
  replace hB136 := Bk.unO (J := []) 3 hB136 s128 rfl rfl rfl
  replace hO138 := Own.unO (J := []) 4 hO138 s128 rfl rfl rfl
  replace hM139 := Mp.unO (J := []) 5 hM139 s128 rfl rfl rfl
  replace s128 := un_stepL (J := []) (L' := [6, 2, 3, 4, 7]) s128 rfl rfl
  obtain ⟨z150, hz150, H⟩ := bindE H
  replace hB122 := hB122.step s128 rfl
  replace HF := HF.step s128 rfl
  have k114_128 := k114_121.t s128
  replace hB105 := hB105.step k114_128 rfl
  replace hB110 := hB110.step k114_128 rfl
  refine lv_one (xs := []) (cs := [pp b101 0, pp b115 0, pp b106 0]) (fun h_ => by cases h_) Tryz.func55 (by kernel_rfl) (by kernel_rfl) (DCalls.mono (syntax_reader_read_1_rec.dcalls k _ _ b101 b115 b106 pb0 A132 c133 pb0_0 v137 pb0_0_1 (a2 := (⟨(0 : Int), (⟨(0 : Int), (0 : Int), (0 : Int)⟩ : T_api_Spot)⟩ : T_api_Fault)) (a0_0 := p126.2.2.1) (a0_0_0 := p126.2.2.2.1) (p0 := p126.1) hz150 (HF.ten (V := [0]) (L := [40, 42, 41, 2, 3, 4, 7]) rfl) (Bk.vw hB105 rfl) (Bk.vw hB122 rfl) (Bk.vw hB110 rfl) (Bk.vw hB131 rfl) (Row.vw hr135 rfl) hl134 (Bk.vw hB136 rfl) (Own.vw hO138 rfl rfl) (Mp.vw hM139 rfl)) ?_)
  rintro _ _ w151 ⟨rfl, o152, v156, rfl, s153, hB154, hB155, hO157, hM158⟩
  replace hB154 := Bk.unO (J := []) 2 hB154 s153 rfl rfl rfl
  replace hB155 := Bk.unO (J := []) 4 hB155 s153 rfl rfl rfl
  replace hO157 := Own.unO (J := []) 5 hO157 s153 rfl rfl rfl
  replace hM158 := Mp.unO (J := []) 6 hM158 s153 rfl rfl rfl
  replace s153 := un_stepL (J := []) (L' := [41, 3, 4, 7]) s153 rfl rfl
  refine Lv.doneR ?_
  obtain rfl := Option.some.inj H
  replace hB130 := hB130.step s153 rfl
  replace hB131 := hB131.step s153 rfl
  replace hr135 := hr135.step s153 rfl
  replace HF := HF.step s153 rfl
  exact ⟨_, (.cell _ rfl (run_loadN (cs := [ii z150.1.f_Code, ii z150.1.f_At.f_Line, ii z150.1.f_At.f_Col, ii z150.1.f_At.f_Off]) U36 rfl sz36 (hB154.cells rfl)) .nil), _, A132, c133, v156, rfl, HF.out, hB131, hl134, hr135, hB155, hO157, hB130, hM158⟩
 ·
  refine Or.inl ⟨_, rfl, ?_⟩
  dsimp only at H
  replace hB140 := Bk.unO (J := []) 1 hB140 s129 rfl rfl rfl
  replace hB141 := Bk.unO (J := []) 2 hB141 s129 rfl rfl rfl
  replace hr145 := hr145.un (J := []) s129
  replace hB146 := Bk.unO (J := []) 3 hB146 s129 rfl rfl rfl
  replace hO148 := Own.unO (J := []) 4 hO148 s129 rfl rfl rfl
  replace hM149 := Mp.unO (J := []) 5 hM149 s129 rfl rfl rfl
  replace s129 := un_stepL (J := []) (L' := [6, 2, 3, 4, 7]) s129 rfl rfl
  refine WL.nil <|
   WC.seq <|
   WC.seq <|
   WC.region ?_
  have k114_129 := k114_121.t s129
  replace hB105 := hB105.step k114_129 rfl
  refine E rfl (ex_load1 rfl U78 rfl (hB105.cell rfl)) <|
   E rfl (ex_nilCheck rfl) <|
   E rfl (ex_fieldAddr rfl U80 rfl sz4) <|
   E rfl (ex_load1 rfl U4 rfl (hB141.cell rfl)) <|
   WL.nil ?_
  rcases condE H with ⟨c159, H⟩ | ⟨c159, H⟩
  ·
   refine WC.cond_t (vb c159 rfl) <|
    WC.region <|
    E rfl (ex_build (cs := [ii 30, ii (0 : Int), ii (0 : Int), ii (0 : Int)]) [(0, 1), (1, 3)] [(0, ii 30)] [ii 0, ii 0, ii 0, ii 0] U36 zr36 rfl (by kernel_rfl) (evs_cons rfl rfl) rfl) <|
    E rfl (ex_build (cs := [ii 30, ii (0 : Int), ii (0 : Int), ii (0 : Int)]) [(0, 4)] [(0, .agg #[ii 30, ii (0 : Int), ii (0 : Int), ii (0 : Int)])] [ii 0, ii 0, ii 0, ii 0] U111 zr111 rfl (by kernel_rfl) (evs_cons rfl rfl) rfl) <|
    E rfl (ex_makeInterface (v := .agg #[ii 30, ii (0 : Int), ii (0 : Int), ii (0 : Int)]) rfl U111 rfl) <|
    WL.op rfl <|
    OW.panic (T := 111) (v := .agg #[ii 30, ii (0 : Int), ii (0 : Int), ii (0 : Int)]) rfl ?_
   obtain ⟨z160, hz160, H⟩ := bindE H
   replace hB122 := hB122.step s129 rfl
   replace HF := HF.step s129 rfl
   replace hB110 := hB110.step k114_129 rfl
   refine lv_one (xs := []) (cs := [pp b101 0, pp b115 0, pp b106 0]) (fun h_ => by cases h_) Tryz.func55 (by kernel_rfl) (by kernel_rfl) (DCalls.mono (syntax_reader_read_1_rec.dcalls k _ _ b101 b115 b106 pb0 A142 c143 pb0_0 v147 pb0_0_1 (a2 := (⟨(0 : Int), (⟨(0 : Int), (0 : Int), (0 : Int)⟩ : T_api_Spot)⟩ : T_api_Fault)) (a0_0 := q127.2.1) (a0_0_0 := q127.2.2.1) (p0 := (⟨(⟨30, (⟨(0 : Int), (0 : Int), (0 : Int)⟩ : T_api_Spot)⟩ : T_api_Fault)⟩ : T_syntax_broken)) hz160 (HF.ten (V := [0]) (L := [40, 42, 41, 2, 3, 4, 7]) rfl) (Bk.vw hB105 rfl) (Bk.vw hB122 rfl) (Bk.vw hB110 rfl) (Bk.vw hB141 rfl) (Row.vw hr145 rfl) hl144 (Bk.vw hB146 rfl) (Own.vw hO148 rfl rfl) (Mp.vw hM149 rfl)) ?_)
   rintro _ _ w161 ⟨rfl, o162, v166, rfl, s163, hB164, hB165, hO167, hM168⟩
   replace hB164 := Bk.unO (J := []) 2 hB164 s163 rfl rfl rfl
   replace hB165 := Bk.unO (J := []) 4 hB165 s163 rfl rfl rfl
   replace hO167 := Own.unO (J := []) 5 hO167 s163 rfl rfl rfl
   replace hM168 := Mp.unO (J := []) 6 hM168 s163 rfl rfl rfl
   replace s163 := un_stepL (J := []) (L' := [41, 3, 4, 7]) s163 rfl rfl
   refine Lv.doneR ?_
   obtain rfl := Option.some.inj H
   replace hB140 := hB140.step s163 rfl
   replace hB141 := hB141.step s163 rfl
   replace hr145 := hr145.step s163 rfl
   replace HF := HF.step s163 rfl
   exact ⟨_, (.cell _ rfl (run_loadN (cs := [ii z160.1.f_Code, ii z160.1.f_At.f_Line, ii z160.1.f_At.f_Col, ii z160.1.f_At.f_Off]) U36 rfl sz36 (hB164.cells rfl)) .nil), _, A142, c143, v166, rfl, HF.out, hB141, hl144, hr145, hB165, hO167, hB140, hM168⟩
  ·
   refine WC.cond_f (vb c159 rfl) <|
    WC.skip <|
    WC.seq <|
    WC.region <|
    E rfl (ex_build (cs := [ii (0 : Int), ii (0 : Int), ii (0 : Int), ii (0 : Int)]) [(0, 1), (1, 3)] [] [ii 0, ii 0, ii 0, ii 0] U36 zr36 rfl (by kernel_rfl) rfl rfl) <|
    WL.op rfl ?_
   replace hB110 := hB110.step k114_129 rfl
   refine OW.storeW rfl rfl sz36 hB110 rfl (oa rfl) ?_
   intro w169 s170 hB171
   refine WL.nil <|
    WC.ret ?_
   obtain ⟨z172, hz172, H⟩ := bindE H
   replace hB105 := hB105.step s170 rfl
   replace hB141 := hB141.step s170 rfl
   replace hr145 := hr145.step s170 rfl
   replace hB146 := hB146.step s170 rfl
   replace hO148 := hO148.step s170 rfl rfl
   replace hM149 := hM149.step s170 rfl
   have k129_170 := s129.t s170
   replace hB122 := hB122.step k129_170 rfl
   replace HF := HF.step k129_170 rfl
   refine lv_one (xs := []) (cs := [pp b101 0, pp b115 0, pp b106 0]) (fun h_ => by cases h_) Tryz.func55 (by kernel_rfl) (by kernel_rfl) (DCalls.mono (syntax_reader_read_1_ret.dcalls _ _ b101 b115 b106 pb0 A142 c143 pb0_0 v147 pb0_0_1 (a2 := (⟨(0 : Int), (⟨(0 : Int), (0 : Int), (0 : Int)⟩ : T_api_Spot)⟩ : T_api_Fault)) (a0_0 := q127.2.1) (a0_0_0 := q127.2.2.1) hz172 (HF.ten (V := [0]) (L := [40, 42, 41, 2, 3, 4, 7]) rfl) (Bk.vw hB105 rfl) (Bk.vw hB122 rfl) (Bk.vw hB171 rfl) (Bk.vw hB141 rfl) (Row.vw hr145 rfl) hl144 (Bk.vw hB146 rfl) (Own.vw hO148 rfl rfl) (Mp.vw hM149 rfl)) ?_)
   obtain rfl := Option.some.inj (show some () = some z172 from hz172)
   rintro _ _ w173 ⟨rfl, o174, rfl, s175⟩
   replace s175 := un_stepL (J := []) (L' := []) s175 rfl rfl
   refine Lv.done ?_
   obtain rfl := Option.some.inj H
   replace hB141 := hB141.step s175 rfl
   replace hr145 := hr145.step s175 rfl
   replace hB146 := hB146.step s175 rfl
   replace hO148 := hO148.step s175 rfl rfl
   replace hM149 := hM149.step s175 rfl
   replace hB171 := hB171.step s175 rfl
   replace HF := HF.step s175 rfl
   have k170_175 := s170.t s175
   replace hB140 := hB140.step k170_175 rfl
   exact ⟨_, (.cell _ rfl (run_loadN (cs := [ii (0 : Int), ii (0 : Int), ii (0 : Int), ii (0 : Int)]) U36 rfl sz36 (hB171.cells rfl)) .nil), _, A142, c143, v147, rfl, HF.out, hB141, hl144, hr145, hB146, hO148, hB140, hM149⟩

/-! ### syntax_Take -/
set_option maxRecDepth 100000 in
theorem syntax_Take.calls (k : Nat) (o0 : Tags) (w0 : World) (pb0 : Nat) (pv0_0 : Value) (pA1 : Option Addr) (pc1 : Nat) (pb0_1 : Nat) {a0 : T_formula_Table} {a1 : (List T_api_Token)} {a0_1 : (List (T_api_Node × Int))} {r : Int × Int × T_api_Fault × T_formula_Table × (List (T_api_Node × Int))} (H : syntax_Take.f k a0 a1 a0_1 = some r) (hO : ∀ b, b < w0.heap.size → o0 b < 40) (hB0 : Bk o0 w0 2 pb0 [pv0_0, .map (some pb0_1)] 56) (hO0_0 : Own T_api_Node.rep 60 3 o0 w0 pv0_0 a0.f_rows) (hra1 : Row T_api_Token.rep (fun b_ => o0 b_ = 0) (fun b_ => o0 b_ = 0) w0 pA1 a1) (hla1 : a1.length ≤ pc1) (hM0_1 : Mp (fun x_ : T_api_Node => Value.agg #[ii x_.f_Kind, encS x_.f_Name, ii x_.f_L, ii x_.f_R]) (fun v_ : Int => ii v_) 4 o0 w0 pb0_1 a0_1) :
  Calls Tryz.prog 35 [pp pb0 0, .slice pA1 a1.length pc1].toArray w0 fun e_ w_ => ∃ (o_ : Tags) (u0_0 : Value), e_ = .returned (one [ii r.1, ii r.2.1, .agg #[ii r.2.2.1.f_Code, ii r.2.2.1.f_At.f_Line, ii r.2.2.1.f_At.f_Col, ii r.2.2.1.f_At.f_Off]]) ∧ Step o0 w0 o_ w_ [2, 3, 4] ∧ Bk o_ w_ 2 pb0 [u0_0, .map (some pb0_1)] 56 ∧ Own T_api_Node.rep 60 3 o_ w_ u0_0 r.2.2.2.1.f_rows ∧ Mp (fun x_ : T_api_Node => Value.agg #[ii x_.f_Kind, encS x_.f_Name, ii x_.f_L, ii x_.f_R]) (fun v_ : Int => ii v_) 4 o_ w_ pb0_1 r.2.2.2.2 := by
 have HF := Fm.refl hO [2, 3, 4]
 unfold syntax_Take.f at H
 refine SX.calls [pp pb0 0, .slice pA1 a1.length pc1] Tryz.func35 rfl rfl ?_
 rw [Tryz.ntmps35]
 refine WC.seq <|
  WC.region <|
  E rfl (sg (ii 0) rfl) <|
  E rfl (sg (ii 0) rfl) <|
  WL.op rfl <|
  OW.alloc' [ii (0 : Int), ii (0 : Int), ii (0 : Int), ii (0 : Int)] 40 HF rfl zr36 rfl ?_
 intro o102 w103 b101 s104 hB105
 refine WL.nil <|
  WC.seq <|
  WC.seq <|
  WC.region <|
  E rfl (mv (pp pb0 0) rfl) ?_
 obtain ⟨z106, hz106, H⟩ := bindE H
 refine WL.op rfl ?_
 replace hO0_0 := hO0_0.step s104 rfl rfl
 replace hB0 := hB0.step s104 rfl
 replace hM0_1 := hM0_1.step s104 rfl
 replace HF := HF.step s104 rfl
 refine OW.call [pp pb0 0] rfl Tryz.func23 (by kernel_rfl) (by kernel_rfl) (map_cons' rfl rfl) (syntax_known.calls k _ _ pb0 pv0_0 pb0_1 (a0 := a0) hz106 (HF.ten (V := [0]) (L := [2, 3, 4]) rfl) (Bk.vw hB0 rfl) (Own.vw hO0_0 rfl rfl) (Mp.vw hM0_1 rfl)) ?_
 rintro _ w107 ⟨o108, rfl, s109⟩
 refine ⟨_, rfl, ?_⟩
 replace s109 := un_stepL (J := []) (L' := []) s109 rfl rfl
 refine E rfl (ex_not (b := z106) rfl) <|
  WL.nil ?_
 rcases condE H with ⟨c110, H⟩ | ⟨c110, H⟩
 ·
  refine WC.cond_t (vb c110 rfl) <|
   WC.seq <|
   WC.region <|
   E rfl (ex_build (cs := [ii 1, ii (0 : Int), ii (0 : Int), ii (0 : Int)]) [(0, 1), (1, 3)] [(0, ii 1)] [ii 0, ii 0, ii 0, ii 0] U36 zr36 rfl (by kernel_rfl) (evs_cons rfl rfl) rfl) <|
   E rfl (sg (ii 0) rfl) <|
   E rfl (sg (ii 0) rfl) <|
   WL.op rfl ?_
  replace hB105 := hB105.step s109 rfl
  refine OW.storeW rfl rfl sz36 hB105 rfl (oa rfl) ?_
  intro w111 s112 hB113
  refine WL.nil <|
   WC.ret ?_
  obtain rfl := Option.some.inj H
  have k109_112 := s109.t s112
  replace hO0_0 := hO0_0.step k109_112 rfl rfl
  replace hB0 := hB0.step k109_112 rfl
  replace hM0_1 := hM0_1.step k109_112 rfl
  replace HF := HF.step k109_112 rfl
  exact ⟨_, (.tmp _ rfl (.tmp _ rfl (.cell _ rfl (run_loadN (cs := [ii 1, ii (0 : Int), ii (0 : Int), ii (0 : Int)]) U36 rfl sz36 (hB113.cells rfl)) .nil))), _, pv0_0, rfl, HF.out, hB0, hO0_0, hM0_1⟩
 ·
  refine WC.cond_f (vb c110 rfl) <|
   WC.skip <|
   WC.seq <|
   WC.region <|
   E rfl (mv (pp pb0 0) rfl) <|
   E rfl (mv (.slice pA1 a1.length pc1) rfl) <|
   E rfl (ex_build (cs := [pp pb0 0, .slice pA1 a1.length pc1, ii (0 : Int), ii (0 : Int), ii (0 : Int), .bool true, .bool false]) [(0, 1), (1, 1), (2, 1), (3, 1), (4, 1), (5, 1), (6, 1)] [(0, pp pb0 0), (1, .slice pA1 a1.length pc1), (5, .bool true)] [.pointer none, .slice none 0 0, ii 0, ii 0, ii 0, .bool false, .bool false] U80 zr80 rfl (by kernel_rfl) (evs_cons rfl (evs_cons rfl (evs_cons rfl rfl))) rfl) <|
   WL.op rfl ?_
  replace HF := HF.step s109 rfl
  refine OW.box' [pp pb0 0, .slice pA1 a1.length pc1, ii (0 : Int), ii (0 : Int), ii (0 : Int), .bool true, .bool false] 41 HF rfl ((congrArg Value.cells (show ev _ _ = (.agg #[pp pb0 0, .slice pA1 a1.length pc1, ii (0 : Int), ii (0 : Int), ii (0 : Int), .bool true, .bool false] : Value) from rfl)).trans rfl) ?_
  intro o115 w116 b114 s117 hB118
  refine WL.op rfl ?_
  replace HF := HF.step s117 rfl
  refine OW.alloc' [.pointer none] 42 HF rfl zr78 rfl ?_
  intro o120 w121 b119 s122 hB123
  refine WL.op rfl <|
   OW.storeW rfl rfl sz78 hB123 rfl (oa rfl) ?_
  intro w124 s125 hB126
  refine WL.nil <|
   WC.seq <|
   WC.region <|
   WL.op rfl ?_
  have k122_125 := s122.t s125
  replace HF := HF.step k122_125 rfl
  refine OW.alloc' [ii (0 : Int)] 43 HF rfl zr3 rfl ?_
  intro o128 w129 b127 s130 hB131
  refine WL.op rfl <|
   OW.storeW rfl rfl sz3 hB131 rfl (oa rfl) ?_
  intro w132 s133 hB134
  refine WL.nil <|
   WC.seq <|
   WC.region ?_
  have k130_133 := s130.t s133
  replace hB126 := hB126.step k130_133 rfl
  refine E rfl (ex_load1 rfl U78 rfl (hB126.cell rfl)) <|
   E rfl (ex_makeFuncC [pp b119 0, pp b127 0] (map_cons' rfl (map_cons' rfl rfl))) ?_
  obtain ⟨z135, hz135, H⟩ := bindE H
  refine WL.op rfl ?_
  replace HF := HF.step k130_133 rfl
  have k122_133 := k122_125.t k130_133
  replace hB118 := hB118.step k122_133 rfl
  have k109_133 := (s109.t s117).t k122_133
  replace hO0_0 := hO0_0.step k109_133 rfl rfl
  replace hB0 := hB0.step k109_133 rfl
  replace hM0_1 := hM0_1.step k109_133 rfl
  have k104_133 := s104.t k109_133
  replace hra1 := hra1.step k104_133 rfl
  refine OW.call [pp b114 0, .func (.func 60) #[] #[pp b119 0, pp b127 0]] rfl Tryz.func30 (by kernel_rfl) (by kernel_rfl) (map_cons' rfl (map_cons' rfl rfl)) (syntax_reader_read_syntax_Take_1.calls k _ _ b114 pA1 pc1 pb0 pv0_0 b119 b127 pb0_1 (a0 := (⟨a1, (0 : Int), (0 : Int), (0 : Int), true, false⟩ : T_syntax_reader)) (a0_0 := a0) hz135 (HF.ten (V := [0]) (L := [41, 2, 3, 42, 43, 4]) rfl) (Bk.vw hB118 rfl) (Row.vw hra1 rfl) hla1 (Bk.vw hB0 rfl) (Own.vw hO0_0 rfl rfl) (Bk.vw hB126 rfl) (Bk.vw hB134 rfl) (Mp.vw hM0_1 rfl)) ?_
  rintro _ w136 ⟨o137, A140, c141, v145, rfl, s138, hB139, hl142, hr143, hB144, hO146, hB147, hM148⟩
  refine ⟨_, rfl, ?_⟩
  replace hB139 := Bk.unO (J := []) 0 hB139 s138 rfl rfl rfl
  replace hr143 := hr143.un (J := []) s138
  replace hB144 := Bk.unO (J := []) 1 hB144 s138 rfl rfl rfl
  replace hO146 := Own.unO (J := []) 2 hO146 s138 rfl rfl rfl
  replace hB147 := Bk.unO (J := []) 4 hB147 s138 rfl rfl rfl
  replace hM148 := Mp.unO (J := []) 5 hM148 s138 rfl rfl rfl
  replace s138 := un_stepL (J := []) (L' := [41, 2, 3, 43, 4]) s138 rfl rfl
  refine WL.op rfl ?_
  replace HF := HF.step s138 rfl
  refine OW.alloc' [ii (0 : Int), ii (0 : Int), ii (0 : Int), ii (0 : Int)] 44 HF rfl zr36 rfl ?_
  intro o150 w151 b149 s152 hB153
  refine WL.op rfl <|
   OW.storeW rfl rfl sz36 hB153 rfl (oa rfl) ?_
  intro w154 s155 hB156
  refine WL.nil <|
   WC.seq <|
   WC.seq <|
   WC.region <|
   E rfl (ex_fieldAddr rfl U36 rfl sz28) <|
   E rfl (ex_load1 rfl U28 rfl (hB156.cell rfl)) <|
   E rfl (e2 bin_neq rfl rfl) <|
   WL.nil ?_
  rcases condE H with ⟨c157, H⟩ | ⟨c157, H⟩
  ·
   refine WC.cond_t (vb c157 rfl) <|
    WC.seq ?_
   have k152_155 := s152.t s155
   replace HF := HF.step k152_155 rfl
   refine WC.regionD' HF [] 3 4 (by kernel_rfl) rfl ?_
   intro w158 s159
   replace hB156 := hB156.step s159 rfl
   have hB156D := hB156
   replace HF := HF.step s159 rfl
   have sR := HF.here []
   refine WA.seq [0, 1, 2] (lb 4 7) 1 (by kernel_rfl) rfl ⟨_, sR⟩ <|
    X1 rfl (fun w_ hS_ => ex_loadN (cs := [ii z135.1.f_Code, ii z135.1.f_At.f_Line, ii z135.1.f_At.f_Col, ii z135.1.f_At.f_Off]) rfl U36 rfl sz36 ((hB156D.step hS_.choose_spec rfl).cells rfl)) <|
    X1 rfl (fun w_ hS_ => ex_assign (v := ii 0) rfl) <|
    X1 rfl (fun w_ hS_ => ex_assign (v := ii 0) rfl) <|
    WA.last 3 (by kernel_rfl) (by kernel_rfl) rfl rfl rfl ?_
   have k109_159 := (((k109_133.t s138).t s152).t s155).t s159
   replace hB105 := hB105.step k109_159 rfl
   refine OW.storeW rfl rfl sz36 hB105 rfl (oa rfl) ?_
   intro w160 s161 hB162
   refine WC.ret ?_
   obtain rfl := Option.some.inj H
   replace HF := HF.step s161 rfl
   have k152_161 := (k152_155.t s159).t s161
   replace hB144 := hB144.step k152_161 rfl
   replace hO146 := hO146.step k152_161 rfl rfl
   replace hM148 := hM148.step k152_161 rfl
   exact ⟨_, (.tmp _ rfl (.tmp _ rfl (.cell _ rfl (run_loadN (cs := [ii z135.1.f_Code, ii z135.1.f_At.f_Line, ii z135.1.f_At.f_Col, ii z135.1.f_At.f_Off]) U36 rfl sz36 (hB162.cells rfl)) .nil))), _, v145, rfl, HF.out, hB144, hO146, hM148⟩
  ·
   refine WC.cond_f (vb c157 rfl) <|
    WC.skip <|
    WC.seq ?_
   have k152_155 := s152.t s155
   replace HF := HF.step k152_155 rfl
   refine WC.regionD' HF [] 8 9 (by kernel_rfl) rfl ?_
   intro w163 s164
   have k138_164 := ((s138.t s152).t s155).t s164
   replace hB126 := hB126.step k138_164 rfl
   have hB126D := hB126
   have k152_164 := k152_155.t s164
   replace hB139 := hB139.step k152_164 rfl
   have hB139D := hB139
   replace hB147 := hB147.step k152_164 rfl
   have hB147D := hB147
   replace hB156 := hB156.step s164 rfl
   have hB156D := hB156
   replace HF := HF.step s164 rfl
   have sR := HF.here []
   refine WA.seq [0, 1, 2, 3, 4, 5, 6, 7] (lb 9 255) 1 (by kernel_rfl) rfl ⟨_, sR⟩ <|
    X1 rfl (fun w_ hS_ => ex_load1 (v := ii z135.2.2.2.1) rfl U3 rfl ((hB147D.step hS_.choose_spec rfl).cell rfl)) <|
    X1 rfl (fun w_ hS_ => ex_load1 (v := pp b114 0) rfl U78 rfl ((hB126D.step hS_.choose_spec rfl).cell rfl)) <|
    X1 rfl (fun w_ hS_ => ex_nilCheck rfl) <|
    X1 rfl (fun w_ hS_ => ex_fieldAddr rfl U80 rfl sz3) <|
    X1 rfl (fun w_ hS_ => ex_load1 (v := ii z135.2.1.f_i) rfl U3 rfl ((hB139D.step hS_.choose_spec rfl).cell rfl)) <|
    X1 rfl (fun w_ hS_ => ex_loadN (cs := [ii z135.1.f_Code, ii z135.1.f_At.f_Line, ii z135.1.f_At.f_Col, ii z135.1.f_At.f_Off]) rfl U36 rfl sz36 ((hB156D.step hS_.choose_spec rfl).cells rfl)) <|
    X1 rfl (fun w_ hS_ => ex_assign (v := ii z135.2.2.2.1) rfl) <|
    X1 rfl (fun w_ hS_ => ex_assign (v := ii z135.2.1.f_i) rfl) <|
    WA.last 8 (by kernel_rfl) (by kernel_rfl) rfl rfl rfl ?_
   have k109_164 := k109_133.t k138_164
   replace hB105 := hB105.step k109_164 rfl
   refine OW.storeW rfl rfl sz36 hB105 rfl (oa rfl) ?_
   intro w165 s166 hB167
   refine WC.ret ?_
   obtain rfl := Option.some.inj H
   replace HF := HF.step s166 rfl
   have k152_166 := k152_164.t s166
   replace hB144 := hB144.step k152_166 rfl
   replace hO146 := hO146.step k152_166 rfl rfl
   replace hM148 := hM148.step k152_166 rfl
   exact ⟨_, (.tmp _ rfl (.tmp _ rfl (.cell _ rfl (run_loadN (cs := [ii z135.1.f_Code, ii z135.1.f_At.f_Line, ii z135.1.f_At.f_Col, ii z135.1.f_At.f_Off]) U36 rfl sz36 (hB167.cells rfl)) .nil))), _, v145, rfl, HF.out, hB144, hO146, hM148⟩

/-! ### dictumlaw04_num -/
set_option maxRecDepth 100000 in
theorem dictumlaw04_num.calls (o0 : Tags) (w0 : World) {a0 : Int} {r : Int} (H : dictumlaw04_num.f a0 = some r) (hO : ∀ b, b < w0.heap.size → o0 b < 40) :
  Calls Tryz.prog 10 [ii a0].toArray w0 fun e_ w_ => ∃ (o_ : Tags), e_ = .returned (one [ii r]) ∧ Step o0 w0 o_ w_ [] := by
 have HF := Fm.refl hO []
 unfold dictumlaw04_num.f at H
 refine SX.calls [ii a0] Tryz.func10 rfl rfl ?_
 rw [Tryz.ntmps10]
 refine WC.seq <|
  WC.region <|
  E rfl (sg (ii 0) rfl) <|
  WL.nil <|
  WC.seq <|
  WC.region <|
  E rfl (mv (ii a0) rfl) <|
  E rfl (sg (ii a0) rfl) <|
  WL.nil <|
  WC.ret ?_
 obtain rfl := Option.some.inj H
 exact ⟨_, (.tmp _ rfl .nil), _, rfl, HF.out⟩

/-! ### syntax_Count -/
set_option maxRecDepth 100000 in
theorem syntax_Count.calls (k : Nat) (o0 : Tags) (w0 : World) {a0 : List UInt8} {r : Int} (H : syntax_Count.f k a0 = some r) (hO : ∀ b, b < w0.heap.size → o0 b < 40) (hG : Gl GG o0 w0) :
  Calls Tryz.prog 11 [encS a0].toArray w0 fun e_ w_ => ∃ (o_ : Tags), e_ = .returned (one [ii r]) ∧ Step o0 w0 o_ w_ [] := by
 have HF := Fm.refl hO []
 unfold syntax_Count.f at H
 refine SX.calls [encS a0] Tryz.func11 rfl rfl ?_
 rw [Tryz.ntmps11]
 refine WC.seq <|
  WC.region <|
  E rfl (sg (ii 0) rfl) <|
  WL.nil <|
  WC.seq <|
  WC.region <|
  E rfl (mv (encS a0) rfl) ?_
 obtain ⟨z101, hz101, H⟩ := bindE H
 refine WL.op rfl <|
  OW.call [encS a0] rfl Tryz.func28 (by kernel_rfl) (by kernel_rfl) (map_cons' rfl rfl) (syntax_ahead.calls k _ _ hz101 (HF.ten (V := [0]) (L := []) rfl) (Gl.vw hG rfl)) ?_
 rintro _ w102 ⟨o103, v105, rfl, s104, hO106⟩
 refine ⟨_, rfl, ?_⟩
 replace hO106 := Own.un9 (J := [40]) 0 hO106 rfl s104 rfl rfl
 replace s104 := un_stepL (J := [40]) (L' := []) s104 rfl rfl
 refine E rfl (mv (.tuple #[v105, .agg #[ii z101.2.f_Code, ii z101.2.f_At.f_Line, ii z101.2.f_At.f_Col, ii z101.2.f_At.f_Off]]) rfl) <|
  E rfl (ex_extract rfl rfl) <|
  E rfl (ex_extract rfl rfl) <|
  WL.op rfl ?_
 replace HF := HF.step s104 rfl
 refine OW.alloc' [ii (0 : Int), ii (0 : Int), ii (0 : Int), ii (0 : Int)] 41 HF rfl zr36 rfl ?_
 intro o108 w109 b107 s110 hB111
 refine E rfl (sg v105 rfl) <|
  WL.op rfl <|
  OW.storeW rfl rfl sz36 hB111 rfl (oa rfl) ?_
 intro w112 s113 hB114
 refine WL.nil <|
  WC.seq <|
  WC.region <|
  E rfl (sg (ii 0) rfl) <|
  WL.nil <|
  WC.seq <|
  WC.seq <|
  WC.region <|
  E rfl (mv v105 rfl) ?_
 have k110_113 := s110.t s113
 replace hO106 := hO106.step k110_113 rfl rfl
 obtain ⟨A115, c116, q117⟩ := hO106.slice
 refine E rfl (ex_len_slice ((show _ = (v105 : Value) from rfl).trans q117) U71) <|
  E rfl (mv (ii 0) rfl) <|
  WL.nil ?_
 obtain ⟨z121, hz121, H⟩ := bindE H
 replace HF := HF.step k110_113 rfl
 have k104_113 := s104.t k110_113
 replace hG := hG.step k104_113 rfl
 refine WC.for (fun k_ ρ_ w_ => ∃ (o_ : Tags) (x118 : Int) (x119 : Int), Fm o0 w0 o_ w_ [] ∧ Own T_api_Token.rep 76 40 o_ w_ v105 z101.1 ∧ Gl GG o_ w_ ∧ ρ_ 2 = ii 0 ∧ ρ_ 5 = ii x118 ∧ ρ_ 13 = v105 ∧ ρ_ 14 = ii (z101.1.length : Int) ∧ ρ_ 15 = ii x119 ∧ syntax_Count.l1 k z101 k_ x118 x119 = some z121) k (fun ρ_ w_ => ∃ (o_ : Tags), Fm o0 w0 o_ w_ [] ∧ Gl GG o_ w_ ∧ ρ_ 2 = ii 0 ∧ ρ_ 5 = ii z121) ⟨_, 0, 0, HF, hO106, hG, rfl, rfl, rfl, rfl, rfl, hz121⟩ ?case122 ?_
 case case122 =>
  rintro ρ162 w163 ⟨o164, HF, hG, s2_119, s5_120⟩
  refine WC.seq <|
   WC.region <|
   E rfl (mv (ii z121) s5_120) <|
   E rfl (sg (ii z121) rfl) <|
   WL.nil <|
   WC.ret ?_
  obtain rfl := Option.some.inj H
  exact ⟨_, (.tmp _ rfl .nil), _, rfl, HF.out⟩
 have Ho123 := H
 rintro k124 ρ125 w126 ⟨o127, x118, x119, HF, hO106, hG, s2_117, s5_118, s13_118, s14_118, s15_119, H⟩
 cases k124 with
 | zero => cases H
 | succ k124 =>
 rw [syntax_Count.l1.eq_2] at H
 refine WC.seq <|
  WC.region <|
  E rfl (e2 bin_lss s15_119 s14_118) <|
  WL.nil <|
  WC.seq ?_
 rcases condE H with ⟨c128, H⟩ | ⟨c128, H⟩
 ·
  refine WC.cond_t (vb c128 rfl) <|
   WC.skip ?_
  obtain ⟨z130, hz130, H⟩ := bindE H
  refine WC.cut (fun ρ_ w_ => ∃ (o_ : Tags), Fm o0 w0 o_ w_ [] ∧ Own T_api_Token.rep 76 40 o_ w_ v105 z101.1 ∧ Gl GG o_ w_ ∧ ρ_ 2 = ii 0 ∧ ρ_ 5 = ii z130 ∧ ρ_ 13 = v105 ∧ ρ_ 14 = ii (z101.1.length : Int) ∧ ρ_ 15 = ii x119) ?case131 ?_
  case case131 =>
   rintro ρ134 w132 ⟨o133, HF, hO106, hG, s2_128, s5_129, s13_129, s14_129, s15_129⟩
   refine WC.region <|
    E rfl (e2 bin_add64 s15_129 rfl) <|
    E rfl (mv (ii (wrap64 (x119 + 1))) rfl) <|
    WL.nil ?_
   exact ⟨k124, Nat.lt_succ_self _, ⟨_, z130, wrap64 (x119 + 1), HF, hO106, hG, s2_128, s5_129, s13_129, s14_129, rfl, H⟩⟩
  have Ho135 := H
  replace H := hz130
  refine WC.block <|
   WC.seq <|
   WC.region ?_
  obtain ⟨x136, hx136, H⟩ := bindE H
  obtain ⟨A141, c142, q143_⟩ := hO106.slice
  obtain ⟨ad137, cc144, e138, g139, g140, hl145, hR146, cell147⟩ := Row.ix (Own.rowOf hO106 q143_) hx136
  obtain rfl := T_api_Token.opn hR146
  refine E rfl (ex_indexAddr (i := x119) ((show _ = (v105 : Value) from s13_118).trans q143_) e138 s15_119 U71 sz76 g139 g140) <|
   E rfl (ex_loadN (cs := [ii x136.f_Kind, encS x136.f_Text, ii x136.f_Int, ii x136.f_At.f_Line, ii x136.f_At.f_Col, ii x136.f_At.f_Off]) rfl U76 rfl sz76 cell147) <|
   WL.op rfl <|
   OW.alloc' [ii (0 : Int), encS ([] : List UInt8), ii (0 : Int), ii (0 : Int), ii (0 : Int), ii (0 : Int)] 42 HF rfl zr76 rfl ?_
  intro o150 w151 b149 s152 hB153
  refine WL.op rfl <|
   OW.storeW rfl rfl sz76 hB153 rfl (oa rfl) ?_
  intro w154 s155 hB156
  refine WL.nil <|
   WC.seq <|
   WC.region <|
   E rfl (ex_loadN (cs := [ii x136.f_Kind, encS x136.f_Text, ii x136.f_Int, ii x136.f_At.f_Line, ii x136.f_At.f_Col, ii x136.f_At.f_Off]) rfl U76 rfl sz76 (hB156.cells rfl)) ?_
  obtain ⟨z157, hz157, H⟩ := bindE H
  refine WL.op rfl ?_
  have k152_155 := s152.t s155
  replace HF := HF.step k152_155 rfl
  refine OW.call [.agg #[ii x136.f_Kind, encS x136.f_Text, ii x136.f_Int, ii x136.f_At.f_Line, ii x136.f_At.f_Col, ii x136.f_At.f_Off]] rfl Tryz.func29 (by kernel_rfl) (by kernel_rfl) (map_cons' rfl rfl) (syntax_counted.calls _ _ (a0 := x136) hz157 (HF.ten (V := [0]) (L := []) rfl) ) ?_
  rintro _ w158 ⟨o159, rfl, s160⟩
  refine ⟨_, rfl, ?_⟩
  replace s160 := un_stepL (J := []) (L' := []) s160 rfl rfl
  refine WL.nil ?_
  rcases condE H with ⟨c161, H⟩ | ⟨c161, H⟩
  ·
   refine WC.cond_t (vb c161 rfl) <|
    WC.region <|
    E rfl (mv (ii x118) s5_118) <|
    E rfl (e2 bin_add64 rfl rfl) <|
    E rfl (sg (ii (wrap64 (x118 + 1))) rfl) <|
    WL.nil ?_
   obtain rfl := Option.some.inj H
   replace HF := HF.step s160 rfl
   have k152_160 := k152_155.t s160
   replace hO106 := hO106.step k152_160 rfl rfl
   replace hG := hG.step k152_160 rfl
   exact ⟨_, HF, hO106, hG, s2_117, rfl, s13_118, s14_118, s15_119⟩
  ·
   refine WC.cond_f (vb c161 rfl) <|
    WC.skip ?_
   obtain rfl := Option.some.inj H
   replace HF := HF.step s160 rfl
   have k152_160 := k152_155.t s160
   replace hO106 := hO106.step k152_160 rfl rfl
   replace hG := hG.step k152_160 rfl
   exact ⟨_, HF, hO106, hG, s2_117, s5_118, s13_118, s14_118, s15_119⟩
 ·
  refine WC.cond_f (vb c128 rfl) <|
   WC.exit ?_
  obtain rfl := Option.some.inj H
  exact ⟨_, HF, hG, s2_117, s5_118⟩
end Go.Proofs.YtpmkkhkphddfeaaGreatDoor.X
