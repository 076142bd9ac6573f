import Derived.Test.YtjhmhdedonibbaaDoorXAW0
set_option maxRecDepth 20000
set_option linter.unusedVariables false
set_option linter.unusedSimpArgs false
set_option linter.unnecessarySimpa false
namespace Go.Proofs.YtjhmhdedonibbaaDoor.X
open Go Go.RowKit Go.Proofs.YtjhmhdedonibbaaDoor.SX
/-! ### dictumref02_size -/
set_option maxRecDepth 100000 in
theorem dictumref02_size.calls (o0 : Tags) (w0 : World) (a0 : List UInt8) (a1 : Int) (r : Int) (hO : ∀ b, b < w0.heap.size → o0 b < 10) (H : dictumref02_size.f a0 a1 = some r) :
    Calls Tryd.prog 35 [encS a0, .int .i64 a1].toArray w0 fun e_ w_ => ∃ (o_ : Tags), e_ = .returned (one [.int .i64 r]) ∧ Step o0 w0 o_ w_ [] := by
  have HF := Fm.refl hO []
  unfold dictumref02_size.f at H
  refine SX.calls [encS a0, .int .i64 a1] Tryd.func35 rfl rfl ?_
  rw [Tryd.ntmps35]
  refine WC.seq ?_
  refine WC.region ?_
  refine WL.ex rfl (ex_assign (v := .int .i64 0) rfl) ?_
  refine WL.nil ?_
  refine WC.seq ?_
  refine WC.region ?_
  refine WL.ex rfl (ex_move (v := encS a0) rfl) ?_
  refine WL.ex rfl (ex_move (v := .int .i64 a1) rfl) ?_
  obtain ⟨x101, hx101, H⟩ := bindE H
  refine WL.ex rfl (ex_index_str (i := a1) rfl rfl Tryd.underlying9 (ix_some hx101).1 (ix_some hx101).2.2) ?_
  refine WL.ex rfl (ex_assign (v := enc8 x101) rfl) ?_
  refine WL.nil ?_
  refine WC.seq ?_
  refine WC.block ?_
  obtain ⟨z103, hz103, H⟩ := bindE H
  refine WC.cut (fun ρ_ w_ => ∃ (o_ : Tags), Fm o0 w0 o_ w_ [] ∧ ρ_ 0 = encS a0 ∧ ρ_ 1 = .int .i64 a1 ∧ ρ_ 4 = .int .i64 0 ∧ ρ_ 5 = enc8 x101 ∧ ρ_ 9 = .bool z103) ?case104 ?_
  case case104 =>
    rintro ρ107 w105 ⟨o106, HF, s0_101, s1_101, s4_101, s5_101, s9_102⟩
    rcases condE H with ⟨c108, H⟩ | ⟨c108, H⟩
    ·
      refine WC.cond_t ((show _ = Value.bool z103 from s9_102).trans (congrArg Value.bool c108)) ?_
      refine WC.seq ?_
      refine WC.region ?_
      refine WL.ex rfl (ex_assign (v := .int .i64 2) rfl) ?_
      refine WL.nil ?_
      refine WC.ret ?_
      obtain rfl := Option.some.inj H
      exact ⟨_, (.tmp (.int .i64 2 : Value) rfl .nil), _, rfl, HF.out⟩
    ·
      refine WC.cond_f ((show _ = Value.bool z103 from s9_102).trans (congrArg Value.bool c108)) ?_
      obtain ⟨z110, hz110, H⟩ := bindE H
      refine WC.cut (fun ρ_ w_ => ∃ (o_ : Tags), Fm o0 w0 o_ w_ [] ∧ ρ_ 0 = encS a0 ∧ ρ_ 1 = .int .i64 a1 ∧ ρ_ 4 = .int .i64 0 ∧ ρ_ 5 = enc8 x101 ∧ ρ_ 22 = .bool z110) ?case111 ?_
      case case111 =>
        rintro ρ114 w112 ⟨o113, HF, s0_108, s1_108, s4_108, s5_108, s22_109⟩
        rcases condE H with ⟨c115, H⟩ | ⟨c115, H⟩
        ·
          refine WC.cond_t ((show _ = Value.bool z110 from s22_109).trans (congrArg Value.bool c115)) ?_
          refine WC.seq ?_
          refine WC.region ?_
          refine WL.ex rfl (ex_assign (v := .int .i64 3) rfl) ?_
          refine WL.nil ?_
          refine WC.ret ?_
          obtain rfl := Option.some.inj H
          exact ⟨_, (.tmp (.int .i64 3 : Value) rfl .nil), _, rfl, HF.out⟩
        ·
          refine WC.cond_f ((show _ = Value.bool z110 from s22_109).trans (congrArg Value.bool c115)) ?_
          obtain ⟨z117, hz117, H⟩ := bindE H
          refine WC.cut (fun ρ_ w_ => ∃ (o_ : Tags), Fm o0 w0 o_ w_ [] ∧ ρ_ 0 = encS a0 ∧ ρ_ 1 = .int .i64 a1 ∧ ρ_ 4 = .int .i64 0 ∧ ρ_ 5 = enc8 x101 ∧ ρ_ 37 = .bool z117) ?case118 ?_
          case case118 =>
            rintro ρ121 w119 ⟨o120, HF, s0_115, s1_115, s4_115, s5_115, s37_116⟩
            rcases condE H with ⟨c122, H⟩ | ⟨c122, H⟩
            ·
              refine WC.cond_t ((show _ = Value.bool z117 from s37_116).trans (congrArg Value.bool c122)) ?_
              refine WC.seq ?_
              refine WC.region ?_
              refine WL.ex rfl (ex_assign (v := .int .i64 3) rfl) ?_
              refine WL.nil ?_
              refine WC.ret ?_
              obtain rfl := Option.some.inj H
              exact ⟨_, (.tmp (.int .i64 3 : Value) rfl .nil), _, rfl, HF.out⟩
            ·
              refine WC.cond_f ((show _ = Value.bool z117 from s37_116).trans (congrArg Value.bool c122)) ?_
              obtain ⟨z124, hz124, H⟩ := bindE H
              refine WC.cut (fun ρ_ w_ => ∃ (o_ : Tags), Fm o0 w0 o_ w_ [] ∧ ρ_ 0 = encS a0 ∧ ρ_ 1 = .int .i64 a1 ∧ ρ_ 4 = .int .i64 0 ∧ ρ_ 5 = enc8 x101 ∧ ρ_ 52 = .bool z124) ?case125 ?_
              case case125 =>
                rintro ρ128 w126 ⟨o127, HF, s0_122, s1_122, s4_122, s5_122, s52_123⟩
                rcases condE H with ⟨c129, H⟩ | ⟨c129, H⟩
                ·
                  refine WC.cond_t ((show _ = Value.bool z124 from s52_123).trans (congrArg Value.bool c129)) ?_
                  refine WC.seq ?_
                  refine WC.region ?_
                  refine WL.ex rfl (ex_assign (v := .int .i64 3) rfl) ?_
                  refine WL.nil ?_
                  refine WC.ret ?_
                  obtain rfl := Option.some.inj H
                  exact ⟨_, (.tmp (.int .i64 3 : Value) rfl .nil), _, rfl, HF.out⟩
                ·
                  refine WC.cond_f ((show _ = Value.bool z124 from s52_123).trans (congrArg Value.bool c129)) ?_
                  obtain ⟨z131, hz131, H⟩ := bindE H
                  refine WC.cut (fun ρ_ w_ => ∃ (o_ : Tags), Fm o0 w0 o_ w_ [] ∧ ρ_ 0 = encS a0 ∧ ρ_ 1 = .int .i64 a1 ∧ ρ_ 4 = .int .i64 0 ∧ ρ_ 5 = enc8 x101 ∧ ρ_ 75 = .bool z131) ?case132 ?_
                  case case132 =>
                    rintro ρ135 w133 ⟨o134, HF, s0_129, s1_129, s4_129, s5_129, s75_130⟩
                    rcases condE H with ⟨c136, H⟩ | ⟨c136, H⟩
                    ·
                      refine WC.cond_t ((show _ = Value.bool z131 from s75_130).trans (congrArg Value.bool c136)) ?_
                      refine WC.seq ?_
                      refine WC.region ?_
                      refine WL.ex rfl (ex_assign (v := .int .i64 4) rfl) ?_
                      refine WL.nil ?_
                      refine WC.ret ?_
                      obtain rfl := Option.some.inj H
                      exact ⟨_, (.tmp (.int .i64 4 : Value) rfl .nil), _, rfl, HF.out⟩
                    ·
                      refine WC.cond_f ((show _ = Value.bool z131 from s75_130).trans (congrArg Value.bool c136)) ?_
                      obtain ⟨z138, hz138, H⟩ := bindE H
                      refine WC.cut (fun ρ_ w_ => ∃ (o_ : Tags), Fm o0 w0 o_ w_ [] ∧ ρ_ 0 = encS a0 ∧ ρ_ 1 = .int .i64 a1 ∧ ρ_ 4 = .int .i64 0 ∧ ρ_ 5 = enc8 x101 ∧ ρ_ 96 = .bool z138) ?case139 ?_
                      case case139 =>
                        rintro ρ142 w140 ⟨o141, HF, s0_136, s1_136, s4_136, s5_136, s96_137⟩
                        rcases condE H with ⟨c143, H⟩ | ⟨c143, H⟩
                        ·
                          refine WC.cond_t ((show _ = Value.bool z138 from s96_137).trans (congrArg Value.bool c143)) ?_
                          refine WC.seq ?_
                          refine WC.region ?_
                          refine WL.ex rfl (ex_assign (v := .int .i64 4) rfl) ?_
                          refine WL.nil ?_
                          refine WC.ret ?_
                          obtain rfl := Option.some.inj H
                          exact ⟨_, (.tmp (.int .i64 4 : Value) rfl .nil), _, rfl, HF.out⟩
                        ·
                          refine WC.cond_f ((show _ = Value.bool z138 from s96_137).trans (congrArg Value.bool c143)) ?_
                          obtain ⟨z145, hz145, H⟩ := bindE H
                          refine WC.cut (fun ρ_ w_ => ∃ (o_ : Tags), Fm o0 w0 o_ w_ [] ∧ ρ_ 4 = .int .i64 0 ∧ ρ_ 121 = .bool z145) ?case146 ?_
                          case case146 =>
                            rintro ρ149 w147 ⟨o148, HF, s4_143, s121_144⟩
                            rcases condE H with ⟨c150, H⟩ | ⟨c150, H⟩
                            ·
                              refine WC.cond_t ((show _ = Value.bool z145 from s121_144).trans (congrArg Value.bool c150)) ?_
                              refine WC.seq ?_
                              refine WC.region ?_
                              refine WL.ex rfl (ex_assign (v := .int .i64 4) rfl) ?_
                              refine WL.nil ?_
                              refine WC.ret ?_
                              obtain rfl := Option.some.inj H
                              exact ⟨_, (.tmp (.int .i64 4 : Value) rfl .nil), _, rfl, HF.out⟩
                            ·
                              refine WC.cond_f ((show _ = Value.bool z145 from s121_144).trans (congrArg Value.bool c150)) ?_
                              refine WC.skip ?_
                              refine WC.seq ?_
                              refine WC.region ?_
                              refine WL.ex rfl (ex_assign (v := .int .i64 1) rfl) ?_
                              refine WL.nil ?_
                              refine WC.ret ?_
                              obtain rfl := Option.some.inj H
                              exact ⟨_, (.tmp (.int .i64 1 : Value) rfl .nil), _, rfl, HF.out⟩
                          have Ho151 := H
                          replace H := hz145
                          refine WC.region ?_
                          refine WL.ex rfl (ex_move (v := enc8 x101) s5_136) ?_
                          refine WL.ex rfl (ex_bin (a := enc8 x101) (b := enc8 (244 : UInt8)) (v := .bool (x101 == (244 : UInt8))) rfl rfl bin_eql_u8) ?_
                          refine WL.ex rfl (ex_move (v := .bool (x101 == (244 : UInt8))) rfl) ?_
                          rcases condE H with ⟨c152, H⟩ | ⟨c152, H⟩
                          ·
                            refine WL.guardYes rfl rfl rfl ((show _ = Value.bool (x101 == (244 : UInt8)) from rfl).trans (congrArg Value.bool c152)) ?_
                            refine OW.ex rfl (ex_move (v := encS a0) s0_136) ?_
                            refine WL.guardYes rfl rfl rfl ((show _ = Value.bool (x101 == (244 : UInt8)) from rfl).trans (congrArg Value.bool c152)) ?_
                            refine OW.ex rfl (ex_move (v := .int .i64 a1) s1_136) ?_
                            refine WL.guardYes rfl rfl rfl ((show _ = Value.bool (x101 == (244 : UInt8)) from rfl).trans (congrArg Value.bool c152)) ?_
                            refine OW.ex rfl (ex_bin (a := .int .i64 a1) (b := .int .i64 1) (v := .int .i64 (wrap64 (a1 + 1))) rfl rfl bin_add64) ?_
                            refine WL.guardYes rfl rfl rfl ((show _ = Value.bool (x101 == (244 : UInt8)) from rfl).trans (congrArg Value.bool c152)) ?_
                            obtain ⟨z153, hz153, H⟩ := bindE H
                            refine OW.call [encS a0, .int .i64 (wrap64 (a1 + 1)), enc8 (128 : UInt8), enc8 (143 : UInt8)] rfl Tryd.func53 (by kernel_rfl) (by kernel_rfl) (map_cons' rfl (map_cons' rfl (map_cons' rfl (map_cons' rfl rfl)))) (dictumref02_more.calls _ _ a0 (wrap64 (a1 + 1)) (128 : UInt8) (143 : UInt8) z153 (HF.ten (V := [0]) (L := []) rfl)  hz153) ?_
                            rintro _ w154 ⟨o155, rfl, s156⟩
                            refine ⟨_, rfl, ?_⟩
                            replace s156 := un_stepL (J := []) (L' := []) s156 rfl rfl
                            replace HF := HF.step s156 rfl
                            refine WL.ex rfl (ex_pick_t (v := .bool z153) ((show _ = Value.bool (x101 == (244 : UInt8)) from rfl).trans (congrArg Value.bool c152)) rfl) ?_
                            refine WL.ex rfl (ex_move (v := .bool z153) rfl) ?_
                            rcases condE H with ⟨c157, H⟩ | ⟨c157, H⟩
                            ·
                              refine WL.guardYes rfl rfl rfl ((show _ = Value.bool z153 from rfl).trans (congrArg Value.bool c157)) ?_
                              refine OW.ex rfl (ex_move (v := encS a0) s0_136) ?_
                              refine WL.guardYes rfl rfl rfl ((show _ = Value.bool z153 from rfl).trans (congrArg Value.bool c157)) ?_
                              refine OW.ex rfl (ex_move (v := .int .i64 a1) s1_136) ?_
                              refine WL.guardYes rfl rfl rfl ((show _ = Value.bool z153 from rfl).trans (congrArg Value.bool c157)) ?_
                              refine OW.ex rfl (ex_bin (a := .int .i64 a1) (b := .int .i64 2) (v := .int .i64 (wrap64 (a1 + 2))) rfl rfl bin_add64) ?_
                              refine WL.guardYes rfl rfl rfl ((show _ = Value.bool z153 from rfl).trans (congrArg Value.bool c157)) ?_
                              obtain ⟨z158, hz158, H⟩ := bindE H
                              refine OW.call [encS a0, .int .i64 (wrap64 (a1 + 2)), enc8 (128 : UInt8), enc8 (191 : UInt8)] rfl Tryd.func53 (by kernel_rfl) (by kernel_rfl) (map_cons' rfl (map_cons' rfl (map_cons' rfl (map_cons' rfl rfl)))) (dictumref02_more.calls _ _ a0 (wrap64 (a1 + 2)) (128 : UInt8) (191 : UInt8) z158 (HF.ten (V := [0]) (L := []) rfl)  hz158) ?_
                              rintro _ w159 ⟨o160, rfl, s161⟩
                              refine ⟨_, rfl, ?_⟩
                              replace s161 := un_stepL (J := []) (L' := []) s161 rfl rfl
                              replace HF := HF.step s161 rfl
                              refine WL.ex rfl (ex_pick_t (v := .bool z158) ((show _ = Value.bool z153 from rfl).trans (congrArg Value.bool c157)) rfl) ?_
                              refine WL.ex rfl (ex_move (v := .bool z158) rfl) ?_
                              rcases condE H with ⟨c162, H⟩ | ⟨c162, H⟩
                              ·
                                refine WL.guardYes rfl rfl rfl ((show _ = Value.bool z158 from rfl).trans (congrArg Value.bool c162)) ?_
                                refine OW.ex rfl (ex_move (v := encS a0) s0_136) ?_
                                refine WL.guardYes rfl rfl rfl ((show _ = Value.bool z158 from rfl).trans (congrArg Value.bool c162)) ?_
                                refine OW.ex rfl (ex_move (v := .int .i64 a1) s1_136) ?_
                                refine WL.guardYes rfl rfl rfl ((show _ = Value.bool z158 from rfl).trans (congrArg Value.bool c162)) ?_
                                refine OW.ex rfl (ex_bin (a := .int .i64 a1) (b := .int .i64 3) (v := .int .i64 (wrap64 (a1 + 3))) rfl rfl bin_add64) ?_
                                refine WL.guardYes rfl rfl rfl ((show _ = Value.bool z158 from rfl).trans (congrArg Value.bool c162)) ?_
                                obtain ⟨z163, hz163, H⟩ := bindE H
                                refine OW.call [encS a0, .int .i64 (wrap64 (a1 + 3)), enc8 (128 : UInt8), enc8 (191 : UInt8)] rfl Tryd.func53 (by kernel_rfl) (by kernel_rfl) (map_cons' rfl (map_cons' rfl (map_cons' rfl (map_cons' rfl rfl)))) (dictumref02_more.calls _ _ a0 (wrap64 (a1 + 3)) (128 : UInt8) (191 : UInt8) z163 (HF.ten (V := [0]) (L := []) rfl)  hz163) ?_
                                rintro _ w164 ⟨o165, rfl, s166⟩
                                refine ⟨_, rfl, ?_⟩
                                replace s166 := un_stepL (J := []) (L' := []) s166 rfl rfl
                                replace HF := HF.step s166 rfl
                                refine WL.ex rfl (ex_pick_t (v := .bool z163) ((show _ = Value.bool z158 from rfl).trans (congrArg Value.bool c162)) rfl) ?_
                                refine WL.ex rfl (ex_assign (v := .bool z163) rfl) ?_
                                refine WL.nil ?_
                                obtain rfl := Option.some.inj H
                                exact ⟨_, HF, s4_136, rfl⟩
                              ·
                                refine WL.guardNo rfl rfl rfl ((show _ = Value.bool z158 from rfl).trans (congrArg Value.bool c162)) ?_
                                refine WL.guardNo rfl rfl rfl ((show _ = Value.bool z158 from rfl).trans (congrArg Value.bool c162)) ?_
                                refine WL.guardNo rfl rfl rfl ((show _ = Value.bool z158 from rfl).trans (congrArg Value.bool c162)) ?_
                                refine WL.guardNo rfl rfl rfl ((show _ = Value.bool z158 from rfl).trans (congrArg Value.bool c162)) ?_
                                refine WL.ex rfl (ex_pick_f (v := .bool false) ((show _ = Value.bool z158 from rfl).trans (congrArg Value.bool c162)) rfl) ?_
                                refine WL.ex rfl (ex_assign (v := .bool false) rfl) ?_
                                refine WL.nil ?_
                                obtain rfl := Option.some.inj H
                                exact ⟨_, HF, s4_136, rfl⟩
                            ·
                              refine WL.guardNo rfl rfl rfl ((show _ = Value.bool z153 from rfl).trans (congrArg Value.bool c157)) ?_
                              refine WL.guardNo rfl rfl rfl ((show _ = Value.bool z153 from rfl).trans (congrArg Value.bool c157)) ?_
                              refine WL.guardNo rfl rfl rfl ((show _ = Value.bool z153 from rfl).trans (congrArg Value.bool c157)) ?_
                              refine WL.guardNo rfl rfl rfl ((show _ = Value.bool z153 from rfl).trans (congrArg Value.bool c157)) ?_
                              refine WL.ex rfl (ex_pick_f (v := .bool false) ((show _ = Value.bool z153 from rfl).trans (congrArg Value.bool c157)) rfl) ?_
                              refine WL.ex rfl (ex_move (v := .bool false) rfl) ?_
                              refine WL.guardNo rfl rfl rfl rfl ?_
                              refine WL.guardNo rfl rfl rfl rfl ?_
                              refine WL.guardNo rfl rfl rfl rfl ?_
                              refine WL.guardNo rfl rfl rfl rfl ?_
                              refine WL.ex rfl (ex_pick_f (v := .bool false) rfl rfl) ?_
                              refine WL.ex rfl (ex_assign (v := .bool false) rfl) ?_
                              refine WL.nil ?_
                              obtain rfl := Option.some.inj H
                              exact ⟨_, HF, s4_136, rfl⟩
                          ·
                            refine WL.guardNo rfl rfl rfl ((show _ = Value.bool (x101 == (244 : UInt8)) from rfl).trans (congrArg Value.bool c152)) ?_
                            refine WL.guardNo rfl rfl rfl ((show _ = Value.bool (x101 == (244 : UInt8)) from rfl).trans (congrArg Value.bool c152)) ?_
                            refine WL.guardNo rfl rfl rfl ((show _ = Value.bool (x101 == (244 : UInt8)) from rfl).trans (congrArg Value.bool c152)) ?_
                            refine WL.guardNo rfl rfl rfl ((show _ = Value.bool (x101 == (244 : UInt8)) from rfl).trans (congrArg Value.bool c152)) ?_
                            refine WL.ex rfl (ex_pick_f (v := .bool false) ((show _ = Value.bool (x101 == (244 : UInt8)) from rfl).trans (congrArg Value.bool c152)) rfl) ?_
                            refine WL.ex rfl (ex_move (v := .bool false) rfl) ?_
                            refine WL.guardNo rfl rfl rfl rfl ?_
                            refine WL.guardNo rfl rfl rfl rfl ?_
                            refine WL.guardNo rfl rfl rfl rfl ?_
                            refine WL.guardNo rfl rfl rfl rfl ?_
                            refine WL.ex rfl (ex_pick_f (v := .bool false) rfl rfl) ?_
                            refine WL.ex rfl (ex_move (v := .bool false) rfl) ?_
                            refine WL.guardNo rfl rfl rfl rfl ?_
                            refine WL.guardNo rfl rfl rfl rfl ?_
                            refine WL.guardNo rfl rfl rfl rfl ?_
                            refine WL.guardNo rfl rfl rfl rfl ?_
                            refine WL.ex rfl (ex_pick_f (v := .bool false) rfl rfl) ?_
                            refine WL.ex rfl (ex_assign (v := .bool false) rfl) ?_
                            refine WL.nil ?_
                            obtain rfl := Option.some.inj H
                            exact ⟨_, HF, s4_136, rfl⟩
                      have Ho167 := H
                      replace H := hz138
                      refine WC.region ?_
                      refine WL.ex rfl (ex_move (v := enc8 x101) s5_129) ?_
                      refine WL.ex rfl (ex_bin (a := enc8 x101) (b := enc8 (241 : UInt8)) (v := .bool (decide ((241 : UInt8) ≤ x101))) rfl rfl bin_geq_u8) ?_
                      refine WL.ex rfl (ex_move (v := .bool (decide ((241 : UInt8) ≤ x101))) rfl) ?_
                      rcases condE H with ⟨c168, H⟩ | ⟨c168, H⟩
                      ·
                        refine WL.guardYes rfl rfl rfl ((show _ = Value.bool (decide ((241 : UInt8) ≤ x101)) from rfl).trans (congrArg Value.bool c168)) ?_
                        refine OW.ex rfl (ex_move (v := enc8 x101) s5_129) ?_
                        refine WL.guardYes rfl rfl rfl ((show _ = Value.bool (decide ((241 : UInt8) ≤ x101)) from rfl).trans (congrArg Value.bool c168)) ?_
                        refine OW.ex rfl (ex_bin (a := enc8 x101) (b := enc8 (243 : UInt8)) (v := .bool (decide (x101 ≤ (243 : UInt8)))) rfl rfl bin_leq_u8) ?_
                        refine WL.ex rfl (ex_pick_t (v := .bool (decide (x101 ≤ (243 : UInt8)))) ((show _ = Value.bool (decide ((241 : UInt8) ≤ x101)) from rfl).trans (congrArg Value.bool c168)) rfl) ?_
                        refine WL.ex rfl (ex_move (v := .bool (decide (x101 ≤ (243 : UInt8)))) rfl) ?_
                        rcases condE H with ⟨c169, H⟩ | ⟨c169, H⟩
                        ·
                          refine WL.guardYes rfl rfl rfl ((show _ = Value.bool (decide (x101 ≤ (243 : UInt8))) from rfl).trans (congrArg Value.bool c169)) ?_
                          refine OW.ex rfl (ex_move (v := encS a0) s0_129) ?_
                          refine WL.guardYes rfl rfl rfl ((show _ = Value.bool (decide (x101 ≤ (243 : UInt8))) from rfl).trans (congrArg Value.bool c169)) ?_
                          refine OW.ex rfl (ex_move (v := .int .i64 a1) s1_129) ?_
                          refine WL.guardYes rfl rfl rfl ((show _ = Value.bool (decide (x101 ≤ (243 : UInt8))) from rfl).trans (congrArg Value.bool c169)) ?_
                          refine OW.ex rfl (ex_bin (a := .int .i64 a1) (b := .int .i64 1) (v := .int .i64 (wrap64 (a1 + 1))) rfl rfl bin_add64) ?_
                          refine WL.guardYes rfl rfl rfl ((show _ = Value.bool (decide (x101 ≤ (243 : UInt8))) from rfl).trans (congrArg Value.bool c169)) ?_
                          obtain ⟨z170, hz170, H⟩ := bindE H
                          refine OW.call [encS a0, .int .i64 (wrap64 (a1 + 1)), enc8 (128 : UInt8), enc8 (191 : UInt8)] rfl Tryd.func53 (by kernel_rfl) (by kernel_rfl) (map_cons' rfl (map_cons' rfl (map_cons' rfl (map_cons' rfl rfl)))) (dictumref02_more.calls _ _ a0 (wrap64 (a1 + 1)) (128 : UInt8) (191 : UInt8) z170 (HF.ten (V := [0]) (L := []) rfl)  hz170) ?_
                          rintro _ w171 ⟨o172, rfl, s173⟩
                          refine ⟨_, rfl, ?_⟩
                          replace s173 := un_stepL (J := []) (L' := []) s173 rfl rfl
                          replace HF := HF.step s173 rfl
                          refine WL.ex rfl (ex_pick_t (v := .bool z170) ((show _ = Value.bool (decide (x101 ≤ (243 : UInt8))) from rfl).trans (congrArg Value.bool c169)) rfl) ?_
                          refine WL.ex rfl (ex_move (v := .bool z170) rfl) ?_
                          rcases condE H with ⟨c174, H⟩ | ⟨c174, H⟩
                          ·
                            refine WL.guardYes rfl rfl rfl ((show _ = Value.bool z170 from rfl).trans (congrArg Value.bool c174)) ?_
                            refine OW.ex rfl (ex_move (v := encS a0) s0_129) ?_
                            refine WL.guardYes rfl rfl rfl ((show _ = Value.bool z170 from rfl).trans (congrArg Value.bool c174)) ?_
                            refine OW.ex rfl (ex_move (v := .int .i64 a1) s1_129) ?_
                            refine WL.guardYes rfl rfl rfl ((show _ = Value.bool z170 from rfl).trans (congrArg Value.bool c174)) ?_
                            refine OW.ex rfl (ex_bin (a := .int .i64 a1) (b := .int .i64 2) (v := .int .i64 (wrap64 (a1 + 2))) rfl rfl bin_add64) ?_
                            refine WL.guardYes rfl rfl rfl ((show _ = Value.bool z170 from rfl).trans (congrArg Value.bool c174)) ?_
                            obtain ⟨z175, hz175, H⟩ := bindE H
                            refine OW.call [encS a0, .int .i64 (wrap64 (a1 + 2)), enc8 (128 : UInt8), enc8 (191 : UInt8)] rfl Tryd.func53 (by kernel_rfl) (by kernel_rfl) (map_cons' rfl (map_cons' rfl (map_cons' rfl (map_cons' rfl rfl)))) (dictumref02_more.calls _ _ a0 (wrap64 (a1 + 2)) (128 : UInt8) (191 : UInt8) z175 (HF.ten (V := [0]) (L := []) rfl)  hz175) ?_
                            rintro _ w176 ⟨o177, rfl, s178⟩
                            refine ⟨_, rfl, ?_⟩
                            replace s178 := un_stepL (J := []) (L' := []) s178 rfl rfl
                            replace HF := HF.step s178 rfl
                            refine WL.ex rfl (ex_pick_t (v := .bool z175) ((show _ = Value.bool z170 from rfl).trans (congrArg Value.bool c174)) rfl) ?_
                            refine WL.ex rfl (ex_move (v := .bool z175) rfl) ?_
                            rcases condE H with ⟨c179, H⟩ | ⟨c179, H⟩
                            ·
                              refine WL.guardYes rfl rfl rfl ((show _ = Value.bool z175 from rfl).trans (congrArg Value.bool c179)) ?_
                              refine OW.ex rfl (ex_move (v := encS a0) s0_129) ?_
                              refine WL.guardYes rfl rfl rfl ((show _ = Value.bool z175 from rfl).trans (congrArg Value.bool c179)) ?_
                              refine OW.ex rfl (ex_move (v := .int .i64 a1) s1_129) ?_
                              refine WL.guardYes rfl rfl rfl ((show _ = Value.bool z175 from rfl).trans (congrArg Value.bool c179)) ?_
                              refine OW.ex rfl (ex_bin (a := .int .i64 a1) (b := .int .i64 3) (v := .int .i64 (wrap64 (a1 + 3))) rfl rfl bin_add64) ?_
                              refine WL.guardYes rfl rfl rfl ((show _ = Value.bool z175 from rfl).trans (congrArg Value.bool c179)) ?_
                              obtain ⟨z180, hz180, H⟩ := bindE H
                              refine OW.call [encS a0, .int .i64 (wrap64 (a1 + 3)), enc8 (128 : UInt8), enc8 (191 : UInt8)] rfl Tryd.func53 (by kernel_rfl) (by kernel_rfl) (map_cons' rfl (map_cons' rfl (map_cons' rfl (map_cons' rfl rfl)))) (dictumref02_more.calls _ _ a0 (wrap64 (a1 + 3)) (128 : UInt8) (191 : UInt8) z180 (HF.ten (V := [0]) (L := []) rfl)  hz180) ?_
                              rintro _ w181 ⟨o182, rfl, s183⟩
                              refine ⟨_, rfl, ?_⟩
                              replace s183 := un_stepL (J := []) (L' := []) s183 rfl rfl
                              replace HF := HF.step s183 rfl
                              refine WL.ex rfl (ex_pick_t (v := .bool z180) ((show _ = Value.bool z175 from rfl).trans (congrArg Value.bool c179)) rfl) ?_
                              refine WL.ex rfl (ex_assign (v := .bool z180) rfl) ?_
                              refine WL.nil ?_
                              obtain rfl := Option.some.inj H
                              exact ⟨_, HF, s0_129, s1_129, s4_129, s5_129, rfl⟩
                            ·
                              refine WL.guardNo rfl rfl rfl ((show _ = Value.bool z175 from rfl).trans (congrArg Value.bool c179)) ?_
                              refine WL.guardNo rfl rfl rfl ((show _ = Value.bool z175 from rfl).trans (congrArg Value.bool c179)) ?_
                              refine WL.guardNo rfl rfl rfl ((show _ = Value.bool z175 from rfl).trans (congrArg Value.bool c179)) ?_
                              refine WL.guardNo rfl rfl rfl ((show _ = Value.bool z175 from rfl).trans (congrArg Value.bool c179)) ?_
                              refine WL.ex rfl (ex_pick_f (v := .bool false) ((show _ = Value.bool z175 from rfl).trans (congrArg Value.bool c179)) rfl) ?_
                              refine WL.ex rfl (ex_assign (v := .bool false) rfl) ?_
                              refine WL.nil ?_
                              obtain rfl := Option.some.inj H
                              exact ⟨_, HF, s0_129, s1_129, s4_129, s5_129, rfl⟩
                          ·
                            refine WL.guardNo rfl rfl rfl ((show _ = Value.bool z170 from rfl).trans (congrArg Value.bool c174)) ?_
                            refine WL.guardNo rfl rfl rfl ((show _ = Value.bool z170 from rfl).trans (congrArg Value.bool c174)) ?_
                            refine WL.guardNo rfl rfl rfl ((show _ = Value.bool z170 from rfl).trans (congrArg Value.bool c174)) ?_
                            refine WL.guardNo rfl rfl rfl ((show _ = Value.bool z170 from rfl).trans (congrArg Value.bool c174)) ?_
                            refine WL.ex rfl (ex_pick_f (v := .bool false) ((show _ = Value.bool z170 from rfl).trans (congrArg Value.bool c174)) rfl) ?_
                            refine WL.ex rfl (ex_move (v := .bool false) rfl) ?_
                            refine WL.guardNo rfl rfl rfl rfl ?_
                            refine WL.guardNo rfl rfl rfl rfl ?_
                            refine WL.guardNo rfl rfl rfl rfl ?_
                            refine WL.guardNo rfl rfl rfl rfl ?_
                            refine WL.ex rfl (ex_pick_f (v := .bool false) rfl rfl) ?_
                            refine WL.ex rfl (ex_assign (v := .bool false) rfl) ?_
                            refine WL.nil ?_
                            obtain rfl := Option.some.inj H
                            exact ⟨_, HF, s0_129, s1_129, s4_129, s5_129, rfl⟩
                        ·
                          refine WL.guardNo rfl rfl rfl ((show _ = Value.bool (decide (x101 ≤ (243 : UInt8))) from rfl).trans (congrArg Value.bool c169)) ?_
                          refine WL.guardNo rfl rfl rfl ((show _ = Value.bool (decide (x101 ≤ (243 : UInt8))) from rfl).trans (congrArg Value.bool c169)) ?_
                          refine WL.guardNo rfl rfl rfl ((show _ = Value.bool (decide (x101 ≤ (243 : UInt8))) from rfl).trans (congrArg Value.bool c169)) ?_
                          refine WL.guardNo rfl rfl rfl ((show _ = Value.bool (decide (x101 ≤ (243 : UInt8))) from rfl).trans (congrArg Value.bool c169)) ?_
                          refine WL.ex rfl (ex_pick_f (v := .bool false) ((show _ = Value.bool (decide (x101 ≤ (243 : UInt8))) from rfl).trans (congrArg Value.bool c169)) rfl) ?_
                          refine WL.ex rfl (ex_move (v := .bool false) rfl) ?_
                          refine WL.guardNo rfl rfl rfl rfl ?_
                          refine WL.guardNo rfl rfl rfl rfl ?_
                          refine WL.guardNo rfl rfl rfl rfl ?_
                          refine WL.guardNo rfl rfl rfl rfl ?_
                          refine WL.ex rfl (ex_pick_f (v := .bool false) rfl rfl) ?_
                          refine WL.ex rfl (ex_move (v := .bool false) rfl) ?_
                          refine WL.guardNo rfl rfl rfl rfl ?_
                          refine WL.guardNo rfl rfl rfl rfl ?_
                          refine WL.guardNo rfl rfl rfl rfl ?_
                          refine WL.guardNo rfl rfl rfl rfl ?_
                          refine WL.ex rfl (ex_pick_f (v := .bool false) rfl rfl) ?_
                          refine WL.ex rfl (ex_assign (v := .bool false) rfl) ?_
                          refine WL.nil ?_
                          obtain rfl := Option.some.inj H
                          exact ⟨_, HF, s0_129, s1_129, s4_129, s5_129, rfl⟩
                      ·
                        refine WL.guardNo rfl rfl rfl ((show _ = Value.bool (decide ((241 : UInt8) ≤ x101)) from rfl).trans (congrArg Value.bool c168)) ?_
                        refine WL.guardNo rfl rfl rfl ((show _ = Value.bool (decide ((241 : UInt8) ≤ x101)) from rfl).trans (congrArg Value.bool c168)) ?_
                        refine WL.ex rfl (ex_pick_f (v := .bool false) ((show _ = Value.bool (decide ((241 : UInt8) ≤ x101)) from rfl).trans (congrArg Value.bool c168)) rfl) ?_
                        refine WL.ex rfl (ex_move (v := .bool false) rfl) ?_
                        refine WL.guardNo rfl rfl rfl rfl ?_
                        refine WL.guardNo rfl rfl rfl rfl ?_
                        refine WL.guardNo rfl rfl rfl rfl ?_
                        refine WL.guardNo rfl rfl rfl rfl ?_
                        refine WL.ex rfl (ex_pick_f (v := .bool false) rfl rfl) ?_
                        refine WL.ex rfl (ex_move (v := .bool false) rfl) ?_
                        refine WL.guardNo rfl rfl rfl rfl ?_
                        refine WL.guardNo rfl rfl rfl rfl ?_
                        refine WL.guardNo rfl rfl rfl rfl ?_
                        refine WL.guardNo rfl rfl rfl rfl ?_
                        refine WL.ex rfl (ex_pick_f (v := .bool false) rfl rfl) ?_
                        refine WL.ex rfl (ex_move (v := .bool false) rfl) ?_
                        refine WL.guardNo rfl rfl rfl rfl ?_
                        refine WL.guardNo rfl rfl rfl rfl ?_
                        refine WL.guardNo rfl rfl rfl rfl ?_
                        refine WL.guardNo rfl rfl rfl rfl ?_
                        refine WL.ex rfl (ex_pick_f (v := .bool false) rfl rfl) ?_
                        refine WL.ex rfl (ex_assign (v := .bool false) rfl) ?_
                        refine WL.nil ?_
                        obtain rfl := Option.some.inj H
                        exact ⟨_, HF, s0_129, s1_129, s4_129, s5_129, rfl⟩
                  have Ho184 := H
                  replace H := hz131
                  refine WC.region ?_
                  refine WL.ex rfl (ex_move (v := enc8 x101) s5_122) ?_
                  refine WL.ex rfl (ex_bin (a := enc8 x101) (b := enc8 (240 : UInt8)) (v := .bool (x101 == (240 : UInt8))) rfl rfl bin_eql_u8) ?_
                  refine WL.ex rfl (ex_move (v := .bool (x101 == (240 : UInt8))) rfl) ?_
                  rcases condE H with ⟨c185, H⟩ | ⟨c185, H⟩
                  ·
                    refine WL.guardYes rfl rfl rfl ((show _ = Value.bool (x101 == (240 : UInt8)) from rfl).trans (congrArg Value.bool c185)) ?_
                    refine OW.ex rfl (ex_move (v := encS a0) s0_122) ?_
                    refine WL.guardYes rfl rfl rfl ((show _ = Value.bool (x101 == (240 : UInt8)) from rfl).trans (congrArg Value.bool c185)) ?_
                    refine OW.ex rfl (ex_move (v := .int .i64 a1) s1_122) ?_
                    refine WL.guardYes rfl rfl rfl ((show _ = Value.bool (x101 == (240 : UInt8)) from rfl).trans (congrArg Value.bool c185)) ?_
                    refine OW.ex rfl (ex_bin (a := .int .i64 a1) (b := .int .i64 1) (v := .int .i64 (wrap64 (a1 + 1))) rfl rfl bin_add64) ?_
                    refine WL.guardYes rfl rfl rfl ((show _ = Value.bool (x101 == (240 : UInt8)) from rfl).trans (congrArg Value.bool c185)) ?_
                    obtain ⟨z186, hz186, H⟩ := bindE H
                    refine OW.call [encS a0, .int .i64 (wrap64 (a1 + 1)), enc8 (144 : UInt8), enc8 (191 : UInt8)] rfl Tryd.func53 (by kernel_rfl) (by kernel_rfl) (map_cons' rfl (map_cons' rfl (map_cons' rfl (map_cons' rfl rfl)))) (dictumref02_more.calls _ _ a0 (wrap64 (a1 + 1)) (144 : UInt8) (191 : UInt8) z186 (HF.ten (V := [0]) (L := []) rfl)  hz186) ?_
                    rintro _ w187 ⟨o188, rfl, s189⟩
                    refine ⟨_, rfl, ?_⟩
                    replace s189 := un_stepL (J := []) (L' := []) s189 rfl rfl
                    replace HF := HF.step s189 rfl
                    refine WL.ex rfl (ex_pick_t (v := .bool z186) ((show _ = Value.bool (x101 == (240 : UInt8)) from rfl).trans (congrArg Value.bool c185)) rfl) ?_
                    refine WL.ex rfl (ex_move (v := .bool z186) rfl) ?_
                    rcases condE H with ⟨c190, H⟩ | ⟨c190, H⟩
                    ·
                      refine WL.guardYes rfl rfl rfl ((show _ = Value.bool z186 from rfl).trans (congrArg Value.bool c190)) ?_
                      refine OW.ex rfl (ex_move (v := encS a0) s0_122) ?_
                      refine WL.guardYes rfl rfl rfl ((show _ = Value.bool z186 from rfl).trans (congrArg Value.bool c190)) ?_
                      refine OW.ex rfl (ex_move (v := .int .i64 a1) s1_122) ?_
                      refine WL.guardYes rfl rfl rfl ((show _ = Value.bool z186 from rfl).trans (congrArg Value.bool c190)) ?_
                      refine OW.ex rfl (ex_bin (a := .int .i64 a1) (b := .int .i64 2) (v := .int .i64 (wrap64 (a1 + 2))) rfl rfl bin_add64) ?_
                      refine WL.guardYes rfl rfl rfl ((show _ = Value.bool z186 from rfl).trans (congrArg Value.bool c190)) ?_
                      obtain ⟨z191, hz191, H⟩ := bindE H
                      refine OW.call [encS a0, .int .i64 (wrap64 (a1 + 2)), enc8 (128 : UInt8), enc8 (191 : UInt8)] rfl Tryd.func53 (by kernel_rfl) (by kernel_rfl) (map_cons' rfl (map_cons' rfl (map_cons' rfl (map_cons' rfl rfl)))) (dictumref02_more.calls _ _ a0 (wrap64 (a1 + 2)) (128 : UInt8) (191 : UInt8) z191 (HF.ten (V := [0]) (L := []) rfl)  hz191) ?_
                      rintro _ w192 ⟨o193, rfl, s194⟩
                      refine ⟨_, rfl, ?_⟩
                      replace s194 := un_stepL (J := []) (L' := []) s194 rfl rfl
                      replace HF := HF.step s194 rfl
                      refine WL.ex rfl (ex_pick_t (v := .bool z191) ((show _ = Value.bool z186 from rfl).trans (congrArg Value.bool c190)) rfl) ?_
                      refine WL.ex rfl (ex_move (v := .bool z191) rfl) ?_
                      rcases condE H with ⟨c195, H⟩ | ⟨c195, H⟩
                      ·
                        refine WL.guardYes rfl rfl rfl ((show _ = Value.bool z191 from rfl).trans (congrArg Value.bool c195)) ?_
                        refine OW.ex rfl (ex_move (v := encS a0) s0_122) ?_
                        refine WL.guardYes rfl rfl rfl ((show _ = Value.bool z191 from rfl).trans (congrArg Value.bool c195)) ?_
                        refine OW.ex rfl (ex_move (v := .int .i64 a1) s1_122) ?_
                        refine WL.guardYes rfl rfl rfl ((show _ = Value.bool z191 from rfl).trans (congrArg Value.bool c195)) ?_
                        refine OW.ex rfl (ex_bin (a := .int .i64 a1) (b := .int .i64 3) (v := .int .i64 (wrap64 (a1 + 3))) rfl rfl bin_add64) ?_
                        refine WL.guardYes rfl rfl rfl ((show _ = Value.bool z191 from rfl).trans (congrArg Value.bool c195)) ?_
                        obtain ⟨z196, hz196, H⟩ := bindE H
                        refine OW.call [encS a0, .int .i64 (wrap64 (a1 + 3)), enc8 (128 : UInt8), enc8 (191 : UInt8)] rfl Tryd.func53 (by kernel_rfl) (by kernel_rfl) (map_cons' rfl (map_cons' rfl (map_cons' rfl (map_cons' rfl rfl)))) (dictumref02_more.calls _ _ a0 (wrap64 (a1 + 3)) (128 : UInt8) (191 : UInt8) z196 (HF.ten (V := [0]) (L := []) rfl)  hz196) ?_
                        rintro _ w197 ⟨o198, rfl, s199⟩
                        refine ⟨_, rfl, ?_⟩
                        replace s199 := un_stepL (J := []) (L' := []) s199 rfl rfl
                        replace HF := HF.step s199 rfl
                        refine WL.ex rfl (ex_pick_t (v := .bool z196) ((show _ = Value.bool z191 from rfl).trans (congrArg Value.bool c195)) rfl) ?_
                        refine WL.ex rfl (ex_assign (v := .bool z196) rfl) ?_
                        refine WL.nil ?_
                        obtain rfl := Option.some.inj H
                        exact ⟨_, HF, s0_122, s1_122, s4_122, s5_122, rfl⟩
                      ·
                        refine WL.guardNo rfl rfl rfl ((show _ = Value.bool z191 from rfl).trans (congrArg Value.bool c195)) ?_
                        refine WL.guardNo rfl rfl rfl ((show _ = Value.bool z191 from rfl).trans (congrArg Value.bool c195)) ?_
                        refine WL.guardNo rfl rfl rfl ((show _ = Value.bool z191 from rfl).trans (congrArg Value.bool c195)) ?_
                        refine WL.guardNo rfl rfl rfl ((show _ = Value.bool z191 from rfl).trans (congrArg Value.bool c195)) ?_
                        refine WL.ex rfl (ex_pick_f (v := .bool false) ((show _ = Value.bool z191 from rfl).trans (congrArg Value.bool c195)) rfl) ?_
                        refine WL.ex rfl (ex_assign (v := .bool false) rfl) ?_
                        refine WL.nil ?_
                        obtain rfl := Option.some.inj H
                        exact ⟨_, HF, s0_122, s1_122, s4_122, s5_122, rfl⟩
                    ·
                      refine WL.guardNo rfl rfl rfl ((show _ = Value.bool z186 from rfl).trans (congrArg Value.bool c190)) ?_
                      refine WL.guardNo rfl rfl rfl ((show _ = Value.bool z186 from rfl).trans (congrArg Value.bool c190)) ?_
                      refine WL.guardNo rfl rfl rfl ((show _ = Value.bool z186 from rfl).trans (congrArg Value.bool c190)) ?_
                      refine WL.guardNo rfl rfl rfl ((show _ = Value.bool z186 from rfl).trans (congrArg Value.bool c190)) ?_
                      refine WL.ex rfl (ex_pick_f (v := .bool false) ((show _ = Value.bool z186 from rfl).trans (congrArg Value.bool c190)) rfl) ?_
                      refine WL.ex rfl (ex_move (v := .bool false) rfl) ?_
                      refine WL.guardNo rfl rfl rfl rfl ?_
                      refine WL.guardNo rfl rfl rfl rfl ?_
                      refine WL.guardNo rfl rfl rfl rfl ?_
                      refine WL.guardNo rfl rfl rfl rfl ?_
                      refine WL.ex rfl (ex_pick_f (v := .bool false) rfl rfl) ?_
                      refine WL.ex rfl (ex_assign (v := .bool false) rfl) ?_
                      refine WL.nil ?_
                      obtain rfl := Option.some.inj H
                      exact ⟨_, HF, s0_122, s1_122, s4_122, s5_122, rfl⟩
                  ·
                    refine WL.guardNo rfl rfl rfl ((show _ = Value.bool (x101 == (240 : UInt8)) from rfl).trans (congrArg Value.bool c185)) ?_
                    refine WL.guardNo rfl rfl rfl ((show _ = Value.bool (x101 == (240 : UInt8)) from rfl).trans (congrArg Value.bool c185)) ?_
                    refine WL.guardNo rfl rfl rfl ((show _ = Value.bool (x101 == (240 : UInt8)) from rfl).trans (congrArg Value.bool c185)) ?_
                    refine WL.guardNo rfl rfl rfl ((show _ = Value.bool (x101 == (240 : UInt8)) from rfl).trans (congrArg Value.bool c185)) ?_
                    refine WL.ex rfl (ex_pick_f (v := .bool false) ((show _ = Value.bool (x101 == (240 : UInt8)) from rfl).trans (congrArg Value.bool c185)) rfl) ?_
                    refine WL.ex rfl (ex_move (v := .bool false) rfl) ?_
                    refine WL.guardNo rfl rfl rfl rfl ?_
                    refine WL.guardNo rfl rfl rfl rfl ?_
                    refine WL.guardNo rfl rfl rfl rfl ?_
                    refine WL.guardNo rfl rfl rfl rfl ?_
                    refine WL.ex rfl (ex_pick_f (v := .bool false) rfl rfl) ?_
                    refine WL.ex rfl (ex_move (v := .bool false) rfl) ?_
                    refine WL.guardNo rfl rfl rfl rfl ?_
                    refine WL.guardNo rfl rfl rfl rfl ?_
                    refine WL.guardNo rfl rfl rfl rfl ?_
                    refine WL.guardNo rfl rfl rfl rfl ?_
                    refine WL.ex rfl (ex_pick_f (v := .bool false) rfl rfl) ?_
                    refine WL.ex rfl (ex_assign (v := .bool false) rfl) ?_
                    refine WL.nil ?_
                    obtain rfl := Option.some.inj H
                    exact ⟨_, HF, s0_122, s1_122, s4_122, s5_122, rfl⟩
              have Ho200 := H
              replace H := hz124
              refine WC.region ?_
              refine WL.ex rfl (ex_move (v := enc8 x101) s5_115) ?_
              refine WL.ex rfl (ex_bin (a := enc8 x101) (b := enc8 (225 : UInt8)) (v := .bool (decide ((225 : UInt8) ≤ x101))) rfl rfl bin_geq_u8) ?_
              refine WL.ex rfl (ex_move (v := .bool (decide ((225 : UInt8) ≤ x101))) rfl) ?_
              rcases condE H with ⟨c201, H⟩ | ⟨c201, H⟩
              ·
                refine WL.guardYes rfl rfl rfl ((show _ = Value.bool (decide ((225 : UInt8) ≤ x101)) from rfl).trans (congrArg Value.bool c201)) ?_
                refine OW.ex rfl (ex_move (v := enc8 x101) s5_115) ?_
                refine WL.guardYes rfl rfl rfl ((show _ = Value.bool (decide ((225 : UInt8) ≤ x101)) from rfl).trans (congrArg Value.bool c201)) ?_
                refine OW.ex rfl (ex_bin (a := enc8 x101) (b := enc8 (239 : UInt8)) (v := .bool (decide (x101 ≤ (239 : UInt8)))) rfl rfl bin_leq_u8) ?_
                refine WL.ex rfl (ex_pick_t (v := .bool (decide (x101 ≤ (239 : UInt8)))) ((show _ = Value.bool (decide ((225 : UInt8) ≤ x101)) from rfl).trans (congrArg Value.bool c201)) rfl) ?_
                refine WL.ex rfl (ex_move (v := .bool (decide (x101 ≤ (239 : UInt8)))) rfl) ?_
                rcases condE H with ⟨c202, H⟩ | ⟨c202, H⟩
                ·
                  refine WL.guardYes rfl rfl rfl ((show _ = Value.bool (decide (x101 ≤ (239 : UInt8))) from rfl).trans (congrArg Value.bool c202)) ?_
                  refine OW.ex rfl (ex_move (v := enc8 x101) s5_115) ?_
                  refine WL.guardYes rfl rfl rfl ((show _ = Value.bool (decide (x101 ≤ (239 : UInt8))) from rfl).trans (congrArg Value.bool c202)) ?_
                  refine OW.ex rfl (ex_bin (a := enc8 x101) (b := enc8 (237 : UInt8)) (v := .bool (!(x101 == (237 : UInt8)))) rfl rfl bin_neq_u8) ?_
                  refine WL.ex rfl (ex_pick_t (v := .bool (!(x101 == (237 : UInt8)))) ((show _ = Value.bool (decide (x101 ≤ (239 : UInt8))) from rfl).trans (congrArg Value.bool c202)) rfl) ?_
                  refine WL.ex rfl (ex_move (v := .bool (!(x101 == (237 : UInt8)))) rfl) ?_
                  rcases condE H with ⟨c203, H⟩ | ⟨c203, H⟩
                  ·
                    refine WL.guardYes rfl rfl rfl ((show _ = Value.bool (!(x101 == (237 : UInt8))) from rfl).trans (congrArg Value.bool c203)) ?_
                    refine OW.ex rfl (ex_move (v := encS a0) s0_115) ?_
                    refine WL.guardYes rfl rfl rfl ((show _ = Value.bool (!(x101 == (237 : UInt8))) from rfl).trans (congrArg Value.bool c203)) ?_
                    refine OW.ex rfl (ex_move (v := .int .i64 a1) s1_115) ?_
                    refine WL.guardYes rfl rfl rfl ((show _ = Value.bool (!(x101 == (237 : UInt8))) from rfl).trans (congrArg Value.bool c203)) ?_
                    refine OW.ex rfl (ex_bin (a := .int .i64 a1) (b := .int .i64 1) (v := .int .i64 (wrap64 (a1 + 1))) rfl rfl bin_add64) ?_
                    refine WL.guardYes rfl rfl rfl ((show _ = Value.bool (!(x101 == (237 : UInt8))) from rfl).trans (congrArg Value.bool c203)) ?_
                    obtain ⟨z204, hz204, H⟩ := bindE H
                    refine OW.call [encS a0, .int .i64 (wrap64 (a1 + 1)), enc8 (128 : UInt8), enc8 (191 : UInt8)] rfl Tryd.func53 (by kernel_rfl) (by kernel_rfl) (map_cons' rfl (map_cons' rfl (map_cons' rfl (map_cons' rfl rfl)))) (dictumref02_more.calls _ _ a0 (wrap64 (a1 + 1)) (128 : UInt8) (191 : UInt8) z204 (HF.ten (V := [0]) (L := []) rfl)  hz204) ?_
                    rintro _ w205 ⟨o206, rfl, s207⟩
                    refine ⟨_, rfl, ?_⟩
                    replace s207 := un_stepL (J := []) (L' := []) s207 rfl rfl
                    replace HF := HF.step s207 rfl
                    refine WL.ex rfl (ex_pick_t (v := .bool z204) ((show _ = Value.bool (!(x101 == (237 : UInt8))) from rfl).trans (congrArg Value.bool c203)) rfl) ?_
                    refine WL.ex rfl (ex_move (v := .bool z204) rfl) ?_
                    rcases condE H with ⟨c208, H⟩ | ⟨c208, H⟩
                    ·
                      refine WL.guardYes rfl rfl rfl ((show _ = Value.bool z204 from rfl).trans (congrArg Value.bool c208)) ?_
                      refine OW.ex rfl (ex_move (v := encS a0) s0_115) ?_
                      refine WL.guardYes rfl rfl rfl ((show _ = Value.bool z204 from rfl).trans (congrArg Value.bool c208)) ?_
                      refine OW.ex rfl (ex_move (v := .int .i64 a1) s1_115) ?_
                      refine WL.guardYes rfl rfl rfl ((show _ = Value.bool z204 from rfl).trans (congrArg Value.bool c208)) ?_
                      refine OW.ex rfl (ex_bin (a := .int .i64 a1) (b := .int .i64 2) (v := .int .i64 (wrap64 (a1 + 2))) rfl rfl bin_add64) ?_
                      refine WL.guardYes rfl rfl rfl ((show _ = Value.bool z204 from rfl).trans (congrArg Value.bool c208)) ?_
                      obtain ⟨z209, hz209, H⟩ := bindE H
                      refine OW.call [encS a0, .int .i64 (wrap64 (a1 + 2)), enc8 (128 : UInt8), enc8 (191 : UInt8)] rfl Tryd.func53 (by kernel_rfl) (by kernel_rfl) (map_cons' rfl (map_cons' rfl (map_cons' rfl (map_cons' rfl rfl)))) (dictumref02_more.calls _ _ a0 (wrap64 (a1 + 2)) (128 : UInt8) (191 : UInt8) z209 (HF.ten (V := [0]) (L := []) rfl)  hz209) ?_
                      rintro _ w210 ⟨o211, rfl, s212⟩
                      refine ⟨_, rfl, ?_⟩
                      replace s212 := un_stepL (J := []) (L' := []) s212 rfl rfl
                      replace HF := HF.step s212 rfl
                      refine WL.ex rfl (ex_pick_t (v := .bool z209) ((show _ = Value.bool z204 from rfl).trans (congrArg Value.bool c208)) rfl) ?_
                      refine WL.ex rfl (ex_assign (v := .bool z209) rfl) ?_
                      refine WL.nil ?_
                      obtain rfl := Option.some.inj H
                      exact ⟨_, HF, s0_115, s1_115, s4_115, s5_115, rfl⟩
                    ·
                      refine WL.guardNo rfl rfl rfl ((show _ = Value.bool z204 from rfl).trans (congrArg Value.bool c208)) ?_
                      refine WL.guardNo rfl rfl rfl ((show _ = Value.bool z204 from rfl).trans (congrArg Value.bool c208)) ?_
                      refine WL.guardNo rfl rfl rfl ((show _ = Value.bool z204 from rfl).trans (congrArg Value.bool c208)) ?_
                      refine WL.guardNo rfl rfl rfl ((show _ = Value.bool z204 from rfl).trans (congrArg Value.bool c208)) ?_
                      refine WL.ex rfl (ex_pick_f (v := .bool false) ((show _ = Value.bool z204 from rfl).trans (congrArg Value.bool c208)) rfl) ?_
                      refine WL.ex rfl (ex_assign (v := .bool false) rfl) ?_
                      refine WL.nil ?_
                      obtain rfl := Option.some.inj H
                      exact ⟨_, HF, s0_115, s1_115, s4_115, s5_115, rfl⟩
                  ·
                    refine WL.guardNo rfl rfl rfl ((show _ = Value.bool (!(x101 == (237 : UInt8))) from rfl).trans (congrArg Value.bool c203)) ?_
                    refine WL.guardNo rfl rfl rfl ((show _ = Value.bool (!(x101 == (237 : UInt8))) from rfl).trans (congrArg Value.bool c203)) ?_
                    refine WL.guardNo rfl rfl rfl ((show _ = Value.bool (!(x101 == (237 : UInt8))) from rfl).trans (congrArg Value.bool c203)) ?_
                    refine WL.guardNo rfl rfl rfl ((show _ = Value.bool (!(x101 == (237 : UInt8))) from rfl).trans (congrArg Value.bool c203)) ?_
                    refine WL.ex rfl (ex_pick_f (v := .bool false) ((show _ = Value.bool (!(x101 == (237 : UInt8))) from rfl).trans (congrArg Value.bool c203)) rfl) ?_
                    refine WL.ex rfl (ex_move (v := .bool false) rfl) ?_
                    refine WL.guardNo rfl rfl rfl rfl ?_
                    refine WL.guardNo rfl rfl rfl rfl ?_
                    refine WL.guardNo rfl rfl rfl rfl ?_
                    refine WL.guardNo rfl rfl rfl rfl ?_
                    refine WL.ex rfl (ex_pick_f (v := .bool false) rfl rfl) ?_
                    refine WL.ex rfl (ex_assign (v := .bool false) rfl) ?_
                    refine WL.nil ?_
                    obtain rfl := Option.some.inj H
                    exact ⟨_, HF, s0_115, s1_115, s4_115, s5_115, rfl⟩
                ·
                  refine WL.guardNo rfl rfl rfl ((show _ = Value.bool (decide (x101 ≤ (239 : UInt8))) from rfl).trans (congrArg Value.bool c202)) ?_
                  refine WL.guardNo rfl rfl rfl ((show _ = Value.bool (decide (x101 ≤ (239 : UInt8))) from rfl).trans (congrArg Value.bool c202)) ?_
                  refine WL.ex rfl (ex_pick_f (v := .bool false) ((show _ = Value.bool (decide (x101 ≤ (239 : UInt8))) from rfl).trans (congrArg Value.bool c202)) rfl) ?_
                  refine WL.ex rfl (ex_move (v := .bool false) rfl) ?_
                  refine WL.guardNo rfl rfl rfl rfl ?_
                  refine WL.guardNo rfl rfl rfl rfl ?_
                  refine WL.guardNo rfl rfl rfl rfl ?_
                  refine WL.guardNo rfl rfl rfl rfl ?_
                  refine WL.ex rfl (ex_pick_f (v := .bool false) rfl rfl) ?_
                  refine WL.ex rfl (ex_move (v := .bool false) rfl) ?_
                  refine WL.guardNo rfl rfl rfl rfl ?_
                  refine WL.guardNo rfl rfl rfl rfl ?_
                  refine WL.guardNo rfl rfl rfl rfl ?_
                  refine WL.guardNo rfl rfl rfl rfl ?_
                  refine WL.ex rfl (ex_pick_f (v := .bool false) rfl rfl) ?_
                  refine WL.ex rfl (ex_assign (v := .bool false) rfl) ?_
                  refine WL.nil ?_
                  obtain rfl := Option.some.inj H
                  exact ⟨_, HF, s0_115, s1_115, s4_115, s5_115, rfl⟩
              ·
                refine WL.guardNo rfl rfl rfl ((show _ = Value.bool (decide ((225 : UInt8) ≤ x101)) from rfl).trans (congrArg Value.bool c201)) ?_
                refine WL.guardNo rfl rfl rfl ((show _ = Value.bool (decide ((225 : UInt8) ≤ x101)) from rfl).trans (congrArg Value.bool c201)) ?_
                refine WL.ex rfl (ex_pick_f (v := .bool false) ((show _ = Value.bool (decide ((225 : UInt8) ≤ x101)) from rfl).trans (congrArg Value.bool c201)) rfl) ?_
                refine WL.ex rfl (ex_move (v := .bool false) rfl) ?_
                refine WL.guardNo rfl rfl rfl rfl ?_
                refine WL.guardNo rfl rfl rfl rfl ?_
                refine WL.ex rfl (ex_pick_f (v := .bool false) rfl rfl) ?_
                refine WL.ex rfl (ex_move (v := .bool false) rfl) ?_
                refine WL.guardNo rfl rfl rfl rfl ?_
                refine WL.guardNo rfl rfl rfl rfl ?_
                refine WL.guardNo rfl rfl rfl rfl ?_
                refine WL.guardNo rfl rfl rfl rfl ?_
                refine WL.ex rfl (ex_pick_f (v := .bool false) rfl rfl) ?_
                refine WL.ex rfl (ex_move (v := .bool false) rfl) ?_
                refine WL.guardNo rfl rfl rfl rfl ?_
                refine WL.guardNo rfl rfl rfl rfl ?_
                refine WL.guardNo rfl rfl rfl rfl ?_
                refine WL.guardNo rfl rfl rfl rfl ?_
                refine WL.ex rfl (ex_pick_f (v := .bool false) rfl rfl) ?_
                refine WL.ex rfl (ex_assign (v := .bool false) rfl) ?_
                refine WL.nil ?_
                obtain rfl := Option.some.inj H
                exact ⟨_, HF, s0_115, s1_115, s4_115, s5_115, rfl⟩
          have Ho213 := H
          replace H := hz117
          refine WC.region ?_
          refine WL.ex rfl (ex_move (v := enc8 x101) s5_108) ?_
          refine WL.ex rfl (ex_bin (a := enc8 x101) (b := enc8 (237 : UInt8)) (v := .bool (x101 == (237 : UInt8))) rfl rfl bin_eql_u8) ?_
          refine WL.ex rfl (ex_move (v := .bool (x101 == (237 : UInt8))) rfl) ?_
          rcases condE H with ⟨c214, H⟩ | ⟨c214, H⟩
          ·
            refine WL.guardYes rfl rfl rfl ((show _ = Value.bool (x101 == (237 : UInt8)) from rfl).trans (congrArg Value.bool c214)) ?_
            refine OW.ex rfl (ex_move (v := encS a0) s0_108) ?_
            refine WL.guardYes rfl rfl rfl ((show _ = Value.bool (x101 == (237 : UInt8)) from rfl).trans (congrArg Value.bool c214)) ?_
            refine OW.ex rfl (ex_move (v := .int .i64 a1) s1_108) ?_
            refine WL.guardYes rfl rfl rfl ((show _ = Value.bool (x101 == (237 : UInt8)) from rfl).trans (congrArg Value.bool c214)) ?_
            refine OW.ex rfl (ex_bin (a := .int .i64 a1) (b := .int .i64 1) (v := .int .i64 (wrap64 (a1 + 1))) rfl rfl bin_add64) ?_
            refine WL.guardYes rfl rfl rfl ((show _ = Value.bool (x101 == (237 : UInt8)) from rfl).trans (congrArg Value.bool c214)) ?_
            obtain ⟨z215, hz215, H⟩ := bindE H
            refine OW.call [encS a0, .int .i64 (wrap64 (a1 + 1)), enc8 (128 : UInt8), enc8 (159 : UInt8)] rfl Tryd.func53 (by kernel_rfl) (by kernel_rfl) (map_cons' rfl (map_cons' rfl (map_cons' rfl (map_cons' rfl rfl)))) (dictumref02_more.calls _ _ a0 (wrap64 (a1 + 1)) (128 : UInt8) (159 : UInt8) z215 (HF.ten (V := [0]) (L := []) rfl)  hz215) ?_
            rintro _ w216 ⟨o217, rfl, s218⟩
            refine ⟨_, rfl, ?_⟩
            replace s218 := un_stepL (J := []) (L' := []) s218 rfl rfl
            replace HF := HF.step s218 rfl
            refine WL.ex rfl (ex_pick_t (v := .bool z215) ((show _ = Value.bool (x101 == (237 : UInt8)) from rfl).trans (congrArg Value.bool c214)) rfl) ?_
            refine WL.ex rfl (ex_move (v := .bool z215) rfl) ?_
            rcases condE H with ⟨c219, H⟩ | ⟨c219, H⟩
            ·
              refine WL.guardYes rfl rfl rfl ((show _ = Value.bool z215 from rfl).trans (congrArg Value.bool c219)) ?_
              refine OW.ex rfl (ex_move (v := encS a0) s0_108) ?_
              refine WL.guardYes rfl rfl rfl ((show _ = Value.bool z215 from rfl).trans (congrArg Value.bool c219)) ?_
              refine OW.ex rfl (ex_move (v := .int .i64 a1) s1_108) ?_
              refine WL.guardYes rfl rfl rfl ((show _ = Value.bool z215 from rfl).trans (congrArg Value.bool c219)) ?_
              refine OW.ex rfl (ex_bin (a := .int .i64 a1) (b := .int .i64 2) (v := .int .i64 (wrap64 (a1 + 2))) rfl rfl bin_add64) ?_
              refine WL.guardYes rfl rfl rfl ((show _ = Value.bool z215 from rfl).trans (congrArg Value.bool c219)) ?_
              obtain ⟨z220, hz220, H⟩ := bindE H
              refine OW.call [encS a0, .int .i64 (wrap64 (a1 + 2)), enc8 (128 : UInt8), enc8 (191 : UInt8)] rfl Tryd.func53 (by kernel_rfl) (by kernel_rfl) (map_cons' rfl (map_cons' rfl (map_cons' rfl (map_cons' rfl rfl)))) (dictumref02_more.calls _ _ a0 (wrap64 (a1 + 2)) (128 : UInt8) (191 : UInt8) z220 (HF.ten (V := [0]) (L := []) rfl)  hz220) ?_
              rintro _ w221 ⟨o222, rfl, s223⟩
              refine ⟨_, rfl, ?_⟩
              replace s223 := un_stepL (J := []) (L' := []) s223 rfl rfl
              replace HF := HF.step s223 rfl
              refine WL.ex rfl (ex_pick_t (v := .bool z220) ((show _ = Value.bool z215 from rfl).trans (congrArg Value.bool c219)) rfl) ?_
              refine WL.ex rfl (ex_assign (v := .bool z220) rfl) ?_
              refine WL.nil ?_
              obtain rfl := Option.some.inj H
              exact ⟨_, HF, s0_108, s1_108, s4_108, s5_108, rfl⟩
            ·
              refine WL.guardNo rfl rfl rfl ((show _ = Value.bool z215 from rfl).trans (congrArg Value.bool c219)) ?_
              refine WL.guardNo rfl rfl rfl ((show _ = Value.bool z215 from rfl).trans (congrArg Value.bool c219)) ?_
              refine WL.guardNo rfl rfl rfl ((show _ = Value.bool z215 from rfl).trans (congrArg Value.bool c219)) ?_
              refine WL.guardNo rfl rfl rfl ((show _ = Value.bool z215 from rfl).trans (congrArg Value.bool c219)) ?_
              refine WL.ex rfl (ex_pick_f (v := .bool false) ((show _ = Value.bool z215 from rfl).trans (congrArg Value.bool c219)) rfl) ?_
              refine WL.ex rfl (ex_assign (v := .bool false) rfl) ?_
              refine WL.nil ?_
              obtain rfl := Option.some.inj H
              exact ⟨_, HF, s0_108, s1_108, s4_108, s5_108, rfl⟩
          ·
            refine WL.guardNo rfl rfl rfl ((show _ = Value.bool (x101 == (237 : UInt8)) from rfl).trans (congrArg Value.bool c214)) ?_
            refine WL.guardNo rfl rfl rfl ((show _ = Value.bool (x101 == (237 : UInt8)) from rfl).trans (congrArg Value.bool c214)) ?_
            refine WL.guardNo rfl rfl rfl ((show _ = Value.bool (x101 == (237 : UInt8)) from rfl).trans (congrArg Value.bool c214)) ?_
            refine WL.guardNo rfl rfl rfl ((show _ = Value.bool (x101 == (237 : UInt8)) from rfl).trans (congrArg Value.bool c214)) ?_
            refine WL.ex rfl (ex_pick_f (v := .bool false) ((show _ = Value.bool (x101 == (237 : UInt8)) from rfl).trans (congrArg Value.bool c214)) rfl) ?_
            refine WL.ex rfl (ex_move (v := .bool false) rfl) ?_
            refine WL.guardNo rfl rfl rfl rfl ?_
            refine WL.guardNo rfl rfl rfl rfl ?_
            refine WL.guardNo rfl rfl rfl rfl ?_
            refine WL.guardNo rfl rfl rfl rfl ?_
            refine WL.ex rfl (ex_pick_f (v := .bool false) rfl rfl) ?_
            refine WL.ex rfl (ex_assign (v := .bool false) rfl) ?_
            refine WL.nil ?_
            obtain rfl := Option.some.inj H
            exact ⟨_, HF, s0_108, s1_108, s4_108, s5_108, rfl⟩
      have Ho224 := H
      replace H := hz110
      refine WC.region ?_
      refine WL.ex rfl (ex_move (v := enc8 x101) s5_101) ?_
      refine WL.ex rfl (ex_bin (a := enc8 x101) (b := enc8 (224 : UInt8)) (v := .bool (x101 == (224 : UInt8))) rfl rfl bin_eql_u8) ?_
      refine WL.ex rfl (ex_move (v := .bool (x101 == (224 : UInt8))) rfl) ?_
      rcases condE H with ⟨c225, H⟩ | ⟨c225, H⟩
      ·
        refine WL.guardYes rfl rfl rfl ((show _ = Value.bool (x101 == (224 : UInt8)) from rfl).trans (congrArg Value.bool c225)) ?_
        refine OW.ex rfl (ex_move (v := encS a0) s0_101) ?_
        refine WL.guardYes rfl rfl rfl ((show _ = Value.bool (x101 == (224 : UInt8)) from rfl).trans (congrArg Value.bool c225)) ?_
        refine OW.ex rfl (ex_move (v := .int .i64 a1) s1_101) ?_
        refine WL.guardYes rfl rfl rfl ((show _ = Value.bool (x101 == (224 : UInt8)) from rfl).trans (congrArg Value.bool c225)) ?_
        refine OW.ex rfl (ex_bin (a := .int .i64 a1) (b := .int .i64 1) (v := .int .i64 (wrap64 (a1 + 1))) rfl rfl bin_add64) ?_
        refine WL.guardYes rfl rfl rfl ((show _ = Value.bool (x101 == (224 : UInt8)) from rfl).trans (congrArg Value.bool c225)) ?_
        obtain ⟨z226, hz226, H⟩ := bindE H
        refine OW.call [encS a0, .int .i64 (wrap64 (a1 + 1)), enc8 (160 : UInt8), enc8 (191 : UInt8)] rfl Tryd.func53 (by kernel_rfl) (by kernel_rfl) (map_cons' rfl (map_cons' rfl (map_cons' rfl (map_cons' rfl rfl)))) (dictumref02_more.calls _ _ a0 (wrap64 (a1 + 1)) (160 : UInt8) (191 : UInt8) z226 (HF.ten (V := [0]) (L := []) rfl)  hz226) ?_
        rintro _ w227 ⟨o228, rfl, s229⟩
        refine ⟨_, rfl, ?_⟩
        replace s229 := un_stepL (J := []) (L' := []) s229 rfl rfl
        replace HF := HF.step s229 rfl
        refine WL.ex rfl (ex_pick_t (v := .bool z226) ((show _ = Value.bool (x101 == (224 : UInt8)) from rfl).trans (congrArg Value.bool c225)) rfl) ?_
        refine WL.ex rfl (ex_move (v := .bool z226) rfl) ?_
        rcases condE H with ⟨c230, H⟩ | ⟨c230, H⟩
        ·
          refine WL.guardYes rfl rfl rfl ((show _ = Value.bool z226 from rfl).trans (congrArg Value.bool c230)) ?_
          refine OW.ex rfl (ex_move (v := encS a0) s0_101) ?_
          refine WL.guardYes rfl rfl rfl ((show _ = Value.bool z226 from rfl).trans (congrArg Value.bool c230)) ?_
          refine OW.ex rfl (ex_move (v := .int .i64 a1) s1_101) ?_
          refine WL.guardYes rfl rfl rfl ((show _ = Value.bool z226 from rfl).trans (congrArg Value.bool c230)) ?_
          refine OW.ex rfl (ex_bin (a := .int .i64 a1) (b := .int .i64 2) (v := .int .i64 (wrap64 (a1 + 2))) rfl rfl bin_add64) ?_
          refine WL.guardYes rfl rfl rfl ((show _ = Value.bool z226 from rfl).trans (congrArg Value.bool c230)) ?_
          obtain ⟨z231, hz231, H⟩ := bindE H
          refine OW.call [encS a0, .int .i64 (wrap64 (a1 + 2)), enc8 (128 : UInt8), enc8 (191 : UInt8)] rfl Tryd.func53 (by kernel_rfl) (by kernel_rfl) (map_cons' rfl (map_cons' rfl (map_cons' rfl (map_cons' rfl rfl)))) (dictumref02_more.calls _ _ a0 (wrap64 (a1 + 2)) (128 : UInt8) (191 : UInt8) z231 (HF.ten (V := [0]) (L := []) rfl)  hz231) ?_
          rintro _ w232 ⟨o233, rfl, s234⟩
          refine ⟨_, rfl, ?_⟩
          replace s234 := un_stepL (J := []) (L' := []) s234 rfl rfl
          replace HF := HF.step s234 rfl
          refine WL.ex rfl (ex_pick_t (v := .bool z231) ((show _ = Value.bool z226 from rfl).trans (congrArg Value.bool c230)) rfl) ?_
          refine WL.ex rfl (ex_assign (v := .bool z231) rfl) ?_
          refine WL.nil ?_
          obtain rfl := Option.some.inj H
          exact ⟨_, HF, s0_101, s1_101, s4_101, s5_101, rfl⟩
        ·
          refine WL.guardNo rfl rfl rfl ((show _ = Value.bool z226 from rfl).trans (congrArg Value.bool c230)) ?_
          refine WL.guardNo rfl rfl rfl ((show _ = Value.bool z226 from rfl).trans (congrArg Value.bool c230)) ?_
          refine WL.guardNo rfl rfl rfl ((show _ = Value.bool z226 from rfl).trans (congrArg Value.bool c230)) ?_
          refine WL.guardNo rfl rfl rfl ((show _ = Value.bool z226 from rfl).trans (congrArg Value.bool c230)) ?_
          refine WL.ex rfl (ex_pick_f (v := .bool false) ((show _ = Value.bool z226 from rfl).trans (congrArg Value.bool c230)) rfl) ?_
          refine WL.ex rfl (ex_assign (v := .bool false) rfl) ?_
          refine WL.nil ?_
          obtain rfl := Option.some.inj H
          exact ⟨_, HF, s0_101, s1_101, s4_101, s5_101, rfl⟩
      ·
        refine WL.guardNo rfl rfl rfl ((show _ = Value.bool (x101 == (224 : UInt8)) from rfl).trans (congrArg Value.bool c225)) ?_
        refine WL.guardNo rfl rfl rfl ((show _ = Value.bool (x101 == (224 : UInt8)) from rfl).trans (congrArg Value.bool c225)) ?_
        refine WL.guardNo rfl rfl rfl ((show _ = Value.bool (x101 == (224 : UInt8)) from rfl).trans (congrArg Value.bool c225)) ?_
        refine WL.guardNo rfl rfl rfl ((show _ = Value.bool (x101 == (224 : UInt8)) from rfl).trans (congrArg Value.bool c225)) ?_
        refine WL.ex rfl (ex_pick_f (v := .bool false) ((show _ = Value.bool (x101 == (224 : UInt8)) from rfl).trans (congrArg Value.bool c225)) rfl) ?_
        refine WL.ex rfl (ex_move (v := .bool false) rfl) ?_
        refine WL.guardNo rfl rfl rfl rfl ?_
        refine WL.guardNo rfl rfl rfl rfl ?_
        refine WL.guardNo rfl rfl rfl rfl ?_
        refine WL.guardNo rfl rfl rfl rfl ?_
        refine WL.ex rfl (ex_pick_f (v := .bool false) rfl rfl) ?_
        refine WL.ex rfl (ex_assign (v := .bool false) rfl) ?_
        refine WL.nil ?_
        obtain rfl := Option.some.inj H
        exact ⟨_, HF, s0_101, s1_101, s4_101, s5_101, rfl⟩
  have Ho235 := H
  replace H := hz103
  refine WC.region ?_
  refine WL.ex rfl (ex_move (v := enc8 x101) rfl) ?_
  refine WL.ex rfl (ex_bin (a := enc8 x101) (b := enc8 (194 : UInt8)) (v := .bool (decide ((194 : UInt8) ≤ x101))) rfl rfl bin_geq_u8) ?_
  refine WL.ex rfl (ex_move (v := .bool (decide ((194 : UInt8) ≤ x101))) rfl) ?_
  rcases condE H with ⟨c236, H⟩ | ⟨c236, H⟩
  ·
    refine WL.guardYes rfl rfl rfl ((show _ = Value.bool (decide ((194 : UInt8) ≤ x101)) from rfl).trans (congrArg Value.bool c236)) ?_
    refine OW.ex rfl (ex_move (v := enc8 x101) rfl) ?_
    refine WL.guardYes rfl rfl rfl ((show _ = Value.bool (decide ((194 : UInt8) ≤ x101)) from rfl).trans (congrArg Value.bool c236)) ?_
    refine OW.ex rfl (ex_bin (a := enc8 x101) (b := enc8 (223 : UInt8)) (v := .bool (decide (x101 ≤ (223 : UInt8)))) rfl rfl bin_leq_u8) ?_
    refine WL.ex rfl (ex_pick_t (v := .bool (decide (x101 ≤ (223 : UInt8)))) ((show _ = Value.bool (decide ((194 : UInt8) ≤ x101)) from rfl).trans (congrArg Value.bool c236)) rfl) ?_
    refine WL.ex rfl (ex_move (v := .bool (decide (x101 ≤ (223 : UInt8)))) rfl) ?_
    rcases condE H with ⟨c237, H⟩ | ⟨c237, H⟩
    ·
      refine WL.guardYes rfl rfl rfl ((show _ = Value.bool (decide (x101 ≤ (223 : UInt8))) from rfl).trans (congrArg Value.bool c237)) ?_
      refine OW.ex rfl (ex_move (v := encS a0) rfl) ?_
      refine WL.guardYes rfl rfl rfl ((show _ = Value.bool (decide (x101 ≤ (223 : UInt8))) from rfl).trans (congrArg Value.bool c237)) ?_
      refine OW.ex rfl (ex_move (v := .int .i64 a1) rfl) ?_
      refine WL.guardYes rfl rfl rfl ((show _ = Value.bool (decide (x101 ≤ (223 : UInt8))) from rfl).trans (congrArg Value.bool c237)) ?_
      refine OW.ex rfl (ex_bin (a := .int .i64 a1) (b := .int .i64 1) (v := .int .i64 (wrap64 (a1 + 1))) rfl rfl bin_add64) ?_
      refine WL.guardYes rfl rfl rfl ((show _ = Value.bool (decide (x101 ≤ (223 : UInt8))) from rfl).trans (congrArg Value.bool c237)) ?_
      obtain ⟨z238, hz238, H⟩ := bindE H
      refine OW.call [encS a0, .int .i64 (wrap64 (a1 + 1)), enc8 (128 : UInt8), enc8 (191 : UInt8)] rfl Tryd.func53 (by kernel_rfl) (by kernel_rfl) (map_cons' rfl (map_cons' rfl (map_cons' rfl (map_cons' rfl rfl)))) (dictumref02_more.calls _ _ a0 (wrap64 (a1 + 1)) (128 : UInt8) (191 : UInt8) z238 (HF.ten (V := [0]) (L := []) rfl)  hz238) ?_
      rintro _ w239 ⟨o240, rfl, s241⟩
      refine ⟨_, rfl, ?_⟩
      replace s241 := un_stepL (J := []) (L' := []) s241 rfl rfl
      replace HF := HF.step s241 rfl
      refine WL.ex rfl (ex_pick_t (v := .bool z238) ((show _ = Value.bool (decide (x101 ≤ (223 : UInt8))) from rfl).trans (congrArg Value.bool c237)) rfl) ?_
      refine WL.ex rfl (ex_assign (v := .bool z238) rfl) ?_
      refine WL.nil ?_
      obtain rfl := Option.some.inj H
      exact ⟨_, HF, rfl, rfl, rfl, rfl, rfl⟩
    ·
      refine WL.guardNo rfl rfl rfl ((show _ = Value.bool (decide (x101 ≤ (223 : UInt8))) from rfl).trans (congrArg Value.bool c237)) ?_
      refine WL.guardNo rfl rfl rfl ((show _ = Value.bool (decide (x101 ≤ (223 : UInt8))) from rfl).trans (congrArg Value.bool c237)) ?_
      refine WL.guardNo rfl rfl rfl ((show _ = Value.bool (decide (x101 ≤ (223 : UInt8))) from rfl).trans (congrArg Value.bool c237)) ?_
      refine WL.guardNo rfl rfl rfl ((show _ = Value.bool (decide (x101 ≤ (223 : UInt8))) from rfl).trans (congrArg Value.bool c237)) ?_
      refine WL.ex rfl (ex_pick_f (v := .bool false) ((show _ = Value.bool (decide (x101 ≤ (223 : UInt8))) from rfl).trans (congrArg Value.bool c237)) rfl) ?_
      refine WL.ex rfl (ex_assign (v := .bool false) rfl) ?_
      refine WL.nil ?_
      obtain rfl := Option.some.inj H
      exact ⟨_, HF, rfl, rfl, rfl, rfl, rfl⟩
  ·
    refine WL.guardNo rfl rfl rfl ((show _ = Value.bool (decide ((194 : UInt8) ≤ x101)) from rfl).trans (congrArg Value.bool c236)) ?_
    refine WL.guardNo rfl rfl rfl ((show _ = Value.bool (decide ((194 : UInt8) ≤ x101)) from rfl).trans (congrArg Value.bool c236)) ?_
    refine WL.ex rfl (ex_pick_f (v := .bool false) ((show _ = Value.bool (decide ((194 : UInt8) ≤ x101)) from rfl).trans (congrArg Value.bool c236)) rfl) ?_
    refine WL.ex rfl (ex_move (v := .bool false) rfl) ?_
    refine WL.guardNo rfl rfl rfl rfl ?_
    refine WL.guardNo rfl rfl rfl rfl ?_
    refine WL.guardNo rfl rfl rfl rfl ?_
    refine WL.guardNo rfl rfl rfl rfl ?_
    refine WL.ex rfl (ex_pick_f (v := .bool false) rfl rfl) ?_
    refine WL.ex rfl (ex_assign (v := .bool false) rfl) ?_
    refine WL.nil ?_
    obtain rfl := Option.some.inj H
    exact ⟨_, HF, rfl, rfl, rfl, rfl, rfl⟩

/-! ### dictumref02_on -/
set_option maxRecDepth 100000 in
theorem dictumref02_on.calls (k : Nat) (o0 : Tags) (w0 : World) (a0 : List UInt8) (a1 : T_api_Spot) (a2 : Int) (r : T_api_Spot) (hO : ∀ b, b < w0.heap.size → o0 b < 10) (H : dictumref02_on.f k a0 a1 a2 = some r) :
    Calls Tryd.prog 23 [encS a0, .agg #[.int .i64 a1.f_Line, .int .i64 a1.f_Col, .int .i64 a1.f_Off], .int .i64 a2].toArray w0 fun e_ w_ => ∃ (o_ : Tags), e_ = .returned (one [.agg #[.int .i64 r.f_Line, .int .i64 r.f_Col, .int .i64 r.f_Off]]) ∧ Step o0 w0 o_ w_ [] := by
  have HF := Fm.refl hO []
  unfold dictumref02_on.f at H
  refine SX.calls [encS a0, .agg #[.int .i64 a1.f_Line, .int .i64 a1.f_Col, .int .i64 a1.f_Off], .int .i64 a2] Tryd.func23 rfl rfl ?_
  rw [Tryd.ntmps23]
  refine WC.seq ?_
  refine WC.region ?_
  refine WL.op rfl ?_
  refine OW.box' [.int .i64 a1.f_Line, .int .i64 a1.f_Col, .int .i64 a1.f_Off] 10 HF rfl ((congrArg Value.cells (show ev _ _ = (.agg #[.int .i64 a1.f_Line, .int .i64 a1.f_Col, .int .i64 a1.f_Off] : Value) from rfl)).trans rfl) ?_
  intro o102 w103 b101 s104 hB105
  replace HF := HF.step s104 rfl
  refine WL.op rfl ?_
  refine OW.alloc' [.int .i64 (0 : Int), .int .i64 (0 : Int), .int .i64 (0 : Int)] 11 HF rfl zr23 rfl ?_
  intro o107 w108 b106 s109 hB110
  replace hB105 := hB105.step s109 rfl
  replace HF := HF.step s109 rfl
  refine WL.nil ?_
  refine WC.seq ?_
  refine WC.seq ?_
  refine WC.region ?_
  refine WL.ex rfl (ex_fieldAddr rfl Tryd.underlying23 rfl sz3) ?_
  refine WL.ex rfl (ex_load1 (v := .int .i64 a1.f_Off) rfl Tryd.underlying3 rfl (hB105.cell rfl)) ?_
  refine WL.ex rfl (ex_assign (v := .int .i64 a1.f_Off) rfl) ?_
  refine WL.nil ?_
  obtain ⟨z114, hz114, H⟩ := bindE H
  refine WC.for (fun k_ ρ_ w_ => ∃ (o_ : Tags) (x111 : Int) (x112 : T_api_Spot), Fm o0 w0 o_ w_ [] ∧ Bk o_ w_ 10 b101 [.int .i64 x112.f_Line, .int .i64 x112.f_Col, .int .i64 x112.f_Off] 23 ∧ Bk o_ w_ 11 b106 [.int .i64 (0 : Int), .int .i64 (0 : Int), .int .i64 (0 : Int)] 23 ∧ ρ_ 0 = encS a0 ∧ ρ_ 2 = .int .i64 a2 ∧ ρ_ 4 = .pointer (some ⟨b101, 0, none⟩) ∧ ρ_ 6 = .pointer (some ⟨b106, 0, none⟩) ∧ ρ_ 7 = .int .i64 x111 ∧ dictumref02_on.l1 k a0 a2 k_ x111 x112 = some z114) k (fun ρ_ w_ => ∃ (o_ : Tags), Fm o0 w0 o_ w_ [] ∧ Bk o_ w_ 10 b101 [.int .i64 z114.f_Line, .int .i64 z114.f_Col, .int .i64 z114.f_Off] 23 ∧ Bk o_ w_ 11 b106 [.int .i64 (0 : Int), .int .i64 (0 : Int), .int .i64 (0 : Int)] 23 ∧ ρ_ 2 = .int .i64 a2 ∧ ρ_ 4 = .pointer (some ⟨b101, 0, none⟩) ∧ ρ_ 6 = .pointer (some ⟨b106, 0, none⟩)) ⟨_, a1.f_Off, (⟨a1.f_Line, a1.f_Col, a1.f_Off⟩ : T_api_Spot), HF, hB105, hB110, rfl, rfl, rfl, rfl, rfl, hz114⟩ ?case115 ?_
  case case115 =>
    rintro ρ146 w144 ⟨o145, HF, hB105, hB110, s2_112, s4_112, s6_112⟩
    refine WC.seq ?_
    refine WC.region ?_
    refine WL.ex rfl (ex_move (v := .int .i64 a2) s2_112) ?_
    refine WL.ex rfl (ex_fieldAddr s4_112 Tryd.underlying23 rfl sz3) ?_
    refine WL.op rfl ?_
    refine OW.store [.int .i64 z114.f_Line, .int .i64 z114.f_Col, .int .i64 a2] rfl (vs := [.int .i64 a2]) ((congrArg Value.cells (show ev _ _ = (.int .i64 a2 : Value) from rfl)).trans rfl) sz3 hB105 (Nat.le_of_ble_eq_true rfl) (by intro u_ hu_; simp only [List.mem_cons, List.not_mem_nil, or_false] at hu_; rcases hu_ with rfl; first | rfl) rfl ?_
    intro w147 s148 hB149
    replace hB110 := hB110.step s148 rfl
    replace HF := HF.step s148 rfl
    refine WL.nil ?_
    refine WC.seq ?_
    refine WC.region ?_
    refine WL.ex rfl (ex_loadN (cs := [.int .i64 z114.f_Line, .int .i64 z114.f_Col, .int .i64 a2]) s4_112 Tryd.underlying23 rfl sz23 (hB149.cells rfl)) ?_
    refine WL.op rfl ?_
    refine OW.store [.int .i64 z114.f_Line, .int .i64 z114.f_Col, .int .i64 a2] s6_112 (vs := [.int .i64 z114.f_Line, .int .i64 z114.f_Col, .int .i64 a2]) ((congrArg Value.cells (show ev _ _ = (.agg #[.int .i64 z114.f_Line, .int .i64 z114.f_Col, .int .i64 a2] : Value) from rfl)).trans rfl) sz23 hB110 (Nat.le_of_ble_eq_true rfl) (by intro u_ hu_; simp only [List.mem_cons, List.not_mem_nil, or_false] at hu_; rcases hu_ with rfl | rfl | rfl <;> first | rfl) rfl ?_
    intro w150 s151 hB152
    replace hB149 := hB149.step s151 rfl
    replace HF := HF.step s151 rfl
    refine WL.nil ?_
    refine WC.ret ?_
    obtain rfl := Option.some.inj H
    exact ⟨_, (.cell (.agg #[.int .i64 z114.f_Line, .int .i64 z114.f_Col, .int .i64 a2] : Value) s6_112 (run_loadN (cs := [.int .i64 z114.f_Line, .int .i64 z114.f_Col, .int .i64 a2]) Tryd.underlying23 rfl sz23 (hB152.cells rfl)) .nil), _, rfl, HF.out⟩
  have Ho116 := H
  rintro k117 ρ118 w119 ⟨o120, x111, x112, HF, hB105, hB110, s0_110, s2_110, s4_110, s6_110, s7_111, H⟩
  cases k117 with
  | zero => cases H
  | succ k117 =>
  rw [dictumref02_on.l1.eq_2] at H
  refine WC.seq ?_
  refine WC.seq ?_
  refine WC.region ?_
  refine WL.ex rfl (ex_move (v := .int .i64 x111) s7_111) ?_
  refine WL.ex rfl (ex_move (v := .int .i64 a2) s2_110) ?_
  refine WL.ex rfl (ex_bin (a := .int .i64 x111) (b := .int .i64 a2) (v := .bool (decide (x111 < a2))) rfl rfl bin_lss) ?_
  refine WL.nil ?_
  rcases condE H with ⟨c121, H⟩ | ⟨c121, H⟩
  ·
    refine WC.cond_t ((show _ = Value.bool (decide (x111 < a2)) from rfl).trans (congrArg Value.bool c121)) ?_
    refine WC.skip ?_
    obtain ⟨z123, hz123, H⟩ := bindE H
    refine WC.cut (fun ρ_ w_ => ∃ (o_ : Tags), Fm o0 w0 o_ w_ [] ∧ Bk o_ w_ 10 b101 [.int .i64 z123.f_Line, .int .i64 z123.f_Col, .int .i64 z123.f_Off] 23 ∧ Bk o_ w_ 11 b106 [.int .i64 (0 : Int), .int .i64 (0 : Int), .int .i64 (0 : Int)] 23 ∧ ρ_ 0 = encS a0 ∧ ρ_ 2 = .int .i64 a2 ∧ ρ_ 4 = .pointer (some ⟨b101, 0, none⟩) ∧ ρ_ 6 = .pointer (some ⟨b106, 0, none⟩) ∧ ρ_ 7 = .int .i64 x111) ?case124 ?_
    case case124 =>
      rintro ρ127 w125 ⟨o126, HF, hB132, hB110, s0_121, s2_121, s4_121, s6_121, s7_121⟩
      refine WC.region ?_
      refine WL.ex rfl (ex_move (v := .int .i64 x111) s7_121) ?_
      refine WL.ex rfl (ex_move (v := encS a0) s0_121) ?_
      refine WL.ex rfl (ex_move (v := .int .i64 x111) s7_121) ?_
      obtain ⟨z128, hz128, H⟩ := bindE H
      refine WL.op rfl ?_
      refine OW.call [encS a0, .int .i64 x111] rfl Tryd.func35 (by kernel_rfl) (by kernel_rfl) (map_cons' rfl (map_cons' rfl rfl)) (dictumref02_size.calls _ _ a0 x111 z128 (HF.ten (V := [0]) (L := []) rfl)  hz128) ?_
      rintro _ w129 ⟨o130, rfl, s131⟩
      refine ⟨_, rfl, ?_⟩
      replace s131 := un_stepL (J := []) (L' := []) s131 rfl rfl
      replace hB132 := hB132.step s131 rfl
      replace hB110 := hB110.step s131 rfl
      replace HF := HF.step s131 rfl
      refine WL.ex rfl (ex_bin (a := .int .i64 x111) (b := .int .i64 z128) (v := .int .i64 (wrap64 (x111 + z128))) rfl rfl bin_add64) ?_
      refine WL.ex rfl (ex_assign (v := .int .i64 (wrap64 (x111 + z128))) rfl) ?_
      refine WL.nil ?_
      exact ⟨k117, Nat.lt_succ_self _, ⟨_, wrap64 (x111 + z128), z123, HF, hB132, hB110, s0_121, s2_121, s4_121, s6_121, rfl, H⟩⟩
    have Ho132 := H
    replace H := hz123
    refine WC.block ?_
    refine WC.seq ?_
    refine WC.region ?_
    refine WL.ex rfl (ex_fieldAddr s4_110 Tryd.underlying23 rfl sz3) ?_
    refine WL.ex rfl (ex_load1 (v := .int .i64 x112.f_Col) rfl Tryd.underlying3 rfl (hB105.cell rfl)) ?_
    refine WL.ex rfl (ex_bin (a := .int .i64 x112.f_Col) (b := .int .i64 1) (v := .int .i64 (wrap64 (x112.f_Col + 1))) rfl rfl bin_add64) ?_
    refine WL.ex rfl (ex_fieldAddr s4_110 Tryd.underlying23 rfl sz3) ?_
    refine WL.op rfl ?_
    refine OW.store [.int .i64 x112.f_Line, .int .i64 (wrap64 (x112.f_Col + 1)), .int .i64 x112.f_Off] rfl (vs := [.int .i64 (wrap64 (x112.f_Col + 1))]) ((congrArg Value.cells (show ev _ _ = (.int .i64 (wrap64 (x112.f_Col + 1)) : Value) from rfl)).trans rfl) sz3 hB105 (Nat.le_of_ble_eq_true rfl) (by intro u_ hu_; simp only [List.mem_cons, List.not_mem_nil, or_false] at hu_; rcases hu_ with rfl; first | rfl) rfl ?_
    intro w133 s134 hB135
    replace hB110 := hB110.step s134 rfl
    replace HF := HF.step s134 rfl
    refine WL.nil ?_
    refine WC.seq ?_
    refine WC.region ?_
    refine WL.ex rfl (ex_move (v := encS a0) s0_110) ?_
    refine WL.ex rfl (ex_move (v := .int .i64 x111) s7_111) ?_
    obtain ⟨x136, hx136, H⟩ := bindE H
    refine WL.ex rfl (ex_index_str (i := x111) rfl rfl Tryd.underlying9 (ix_some hx136).1 (ix_some hx136).2.2) ?_
    refine WL.ex rfl (ex_bin (a := enc8 x136) (b := enc8 (10 : UInt8)) (v := .bool (x136 == (10 : UInt8))) rfl rfl bin_eql_u8) ?_
    refine WL.nil ?_
    rcases condE H with ⟨c137, H⟩ | ⟨c137, H⟩
    ·
      refine WC.cond_t ((show _ = Value.bool (x136 == (10 : UInt8)) from rfl).trans (congrArg Value.bool c137)) ?_
      refine WC.seq ?_
      refine WC.region ?_
      refine WL.ex rfl (ex_fieldAddr s4_110 Tryd.underlying23 rfl sz3) ?_
      refine WL.ex rfl (ex_load1 (v := .int .i64 x112.f_Line) rfl Tryd.underlying3 rfl (hB135.cell rfl)) ?_
      refine WL.ex rfl (ex_bin (a := .int .i64 x112.f_Line) (b := .int .i64 1) (v := .int .i64 (wrap64 (x112.f_Line + 1))) rfl rfl bin_add64) ?_
      refine WL.ex rfl (ex_fieldAddr s4_110 Tryd.underlying23 rfl sz3) ?_
      refine WL.op rfl ?_
      refine OW.store [.int .i64 (wrap64 (x112.f_Line + 1)), .int .i64 (wrap64 (x112.f_Col + 1)), .int .i64 x112.f_Off] rfl (vs := [.int .i64 (wrap64 (x112.f_Line + 1))]) ((congrArg Value.cells (show ev _ _ = (.int .i64 (wrap64 (x112.f_Line + 1)) : Value) from rfl)).trans rfl) sz3 hB135 (Nat.le_of_ble_eq_true rfl) (by intro u_ hu_; simp only [List.mem_cons, List.not_mem_nil, or_false] at hu_; rcases hu_ with rfl; first | rfl) rfl ?_
      intro w138 s139 hB140
      replace hB110 := hB110.step s139 rfl
      replace HF := HF.step s139 rfl
      refine WL.nil ?_
      refine WC.region ?_
      refine WL.ex rfl (ex_fieldAddr s4_110 Tryd.underlying23 rfl sz3) ?_
      refine WL.op rfl ?_
      refine OW.store [.int .i64 (wrap64 (x112.f_Line + 1)), .int .i64 1, .int .i64 x112.f_Off] rfl (vs := [.int .i64 1]) ((congrArg Value.cells (show ev _ _ = (.int .i64 1 : Value) from rfl)).trans rfl) sz3 hB140 (Nat.le_of_ble_eq_true rfl) (by intro u_ hu_; simp only [List.mem_cons, List.not_mem_nil, or_false] at hu_; rcases hu_ with rfl; first | rfl) rfl ?_
      intro w141 s142 hB143
      replace hB110 := hB110.step s142 rfl
      replace HF := HF.step s142 rfl
      refine WL.nil ?_
      obtain rfl := Option.some.inj H
      exact ⟨_, HF, hB143, hB110, s0_110, s2_110, s4_110, s6_110, s7_111⟩
    ·
      refine WC.cond_f ((show _ = Value.bool (x136 == (10 : UInt8)) from rfl).trans (congrArg Value.bool c137)) ?_
      refine WC.skip ?_
      obtain rfl := Option.some.inj H
      exact ⟨_, HF, hB135, hB110, s0_110, s2_110, s4_110, s6_110, s7_111⟩
  ·
    refine WC.cond_f ((show _ = Value.bool (decide (x111 < a2)) from rfl).trans (congrArg Value.bool c121)) ?_
    refine WC.exit ?_
    obtain rfl := Option.some.inj H
    exact ⟨_, HF, hB105, hB110, s2_110, s4_110, s6_110⟩

/-! ### dictumref02_letter -/
set_option maxRecDepth 100000 in
theorem dictumref02_letter.calls (o0 : Tags) (w0 : World) (a0 : UInt8) (r : Bool) (hO : ∀ b, b < w0.heap.size → o0 b < 10) (H : dictumref02_letter.f a0 = some r) :
    Calls Tryd.prog 24 [enc8 a0].toArray w0 fun e_ w_ => ∃ (o_ : Tags), e_ = .returned (one [.bool r]) ∧ Step o0 w0 o_ w_ [] := by
  have HF := Fm.refl hO []
  unfold dictumref02_letter.f at H
  refine SX.calls [enc8 a0] Tryd.func24 rfl rfl ?_
  rw [Tryd.ntmps24]
  refine WC.seq ?_
  refine WC.region ?_
  refine WL.ex rfl (ex_assign (v := .bool false) rfl) ?_
  refine WL.nil ?_
  refine WC.seq ?_
  refine WC.region ?_
  refine WL.ex rfl (ex_move (v := enc8 a0) rfl) ?_
  refine WL.ex rfl (ex_bin (a := enc8 a0) (b := enc8 (97 : UInt8)) (v := .bool (decide ((97 : UInt8) ≤ a0))) rfl rfl bin_geq_u8) ?_
  refine WL.ex rfl (ex_move (v := .bool (decide ((97 : UInt8) ≤ a0))) rfl) ?_
  rcases condE H with ⟨c101, H⟩ | ⟨c101, H⟩
  ·
    refine WL.guardYes rfl rfl rfl ((show _ = Value.bool (decide ((97 : UInt8) ≤ a0)) from rfl).trans (congrArg Value.bool c101)) ?_
    refine OW.ex rfl (ex_move (v := enc8 a0) rfl) ?_
    refine WL.guardYes rfl rfl rfl ((show _ = Value.bool (decide ((97 : UInt8) ≤ a0)) from rfl).trans (congrArg Value.bool c101)) ?_
    refine OW.ex rfl (ex_bin (a := enc8 a0) (b := enc8 (122 : UInt8)) (v := .bool (decide (a0 ≤ (122 : UInt8)))) rfl rfl bin_leq_u8) ?_
    refine WL.ex rfl (ex_pick_t (v := .bool (decide (a0 ≤ (122 : UInt8)))) ((show _ = Value.bool (decide ((97 : UInt8) ≤ a0)) from rfl).trans (congrArg Value.bool c101)) rfl) ?_
    refine WL.ex rfl (ex_move (v := .bool (decide (a0 ≤ (122 : UInt8)))) rfl) ?_
    rcases condE H with ⟨c102, H⟩ | ⟨c102, H⟩
    ·
      refine WL.guardNo rfl rfl rfl ((show _ = Value.bool (decide (a0 ≤ (122 : UInt8))) from rfl).trans (congrArg Value.bool c102)) ?_
      refine WL.guardNo rfl rfl rfl ((show _ = Value.bool (decide (a0 ≤ (122 : UInt8))) from rfl).trans (congrArg Value.bool c102)) ?_
      refine WL.guardNo rfl rfl rfl ((show _ = Value.bool (decide (a0 ≤ (122 : UInt8))) from rfl).trans (congrArg Value.bool c102)) ?_
      refine WL.guardUn rfl rfl rfl rfl ?_
      refine WL.guardUn rfl rfl rfl rfl ?_
      refine WL.guardNo rfl rfl rfl ((show _ = Value.bool (decide (a0 ≤ (122 : UInt8))) from rfl).trans (congrArg Value.bool c102)) ?_
      refine WL.ex rfl (ex_pick_t (v := .bool true) ((show _ = Value.bool (decide (a0 ≤ (122 : UInt8))) from rfl).trans (congrArg Value.bool c102)) rfl) ?_
      refine WL.ex rfl (ex_move (v := .bool true) rfl) ?_
      refine WL.guardNo rfl rfl rfl rfl ?_
      refine WL.guardNo rfl rfl rfl rfl ?_
      refine WL.ex rfl (ex_pick_t (v := .bool true) rfl rfl) ?_
      refine WL.ex rfl (ex_assign (v := .bool true) rfl) ?_
      refine WL.nil ?_
      refine WC.ret ?_
      obtain rfl := Option.some.inj H
      exact ⟨_, (.tmp (.bool true : Value) rfl .nil), _, rfl, HF.out⟩
    ·
      refine WL.guardYes rfl rfl rfl ((show _ = Value.bool (decide (a0 ≤ (122 : UInt8))) from rfl).trans (congrArg Value.bool c102)) ?_
      refine OW.ex rfl (ex_move (v := enc8 a0) rfl) ?_
      refine WL.guardYes rfl rfl rfl ((show _ = Value.bool (decide (a0 ≤ (122 : UInt8))) from rfl).trans (congrArg Value.bool c102)) ?_
      refine OW.ex rfl (ex_bin (a := enc8 a0) (b := enc8 (65 : UInt8)) (v := .bool (decide ((65 : UInt8) ≤ a0))) rfl rfl bin_geq_u8) ?_
      refine WL.guardYes rfl rfl rfl ((show _ = Value.bool (decide (a0 ≤ (122 : UInt8))) from rfl).trans (congrArg Value.bool c102)) ?_
      refine OW.ex rfl (ex_move (v := .bool (decide ((65 : UInt8) ≤ a0))) rfl) ?_
      rcases condE H with ⟨c103, H⟩ | ⟨c103, H⟩
      ·
        refine WL.guardYes rfl rfl rfl ((show _ = Value.bool (decide ((65 : UInt8) ≤ a0)) from rfl).trans (congrArg Value.bool c103)) ?_
        refine OW.ex rfl (ex_move (v := enc8 a0) rfl) ?_
        refine WL.guardYes rfl rfl rfl ((show _ = Value.bool (decide ((65 : UInt8) ≤ a0)) from rfl).trans (congrArg Value.bool c103)) ?_
        refine OW.ex rfl (ex_bin (a := enc8 a0) (b := enc8 (90 : UInt8)) (v := .bool (decide (a0 ≤ (90 : UInt8)))) rfl rfl bin_leq_u8) ?_
        refine WL.guardYes rfl rfl rfl ((show _ = Value.bool (decide (a0 ≤ (122 : UInt8))) from rfl).trans (congrArg Value.bool c102)) ?_
        refine OW.ex rfl (ex_pick_t (v := .bool (decide (a0 ≤ (90 : UInt8)))) ((show _ = Value.bool (decide ((65 : UInt8) ≤ a0)) from rfl).trans (congrArg Value.bool c103)) rfl) ?_
        refine WL.ex rfl (ex_pick_f (v := .bool (decide (a0 ≤ (90 : UInt8)))) ((show _ = Value.bool (decide (a0 ≤ (122 : UInt8))) from rfl).trans (congrArg Value.bool c102)) rfl) ?_
        refine WL.ex rfl (ex_move (v := .bool (decide (a0 ≤ (90 : UInt8)))) rfl) ?_
        rcases condE H with ⟨c104, H⟩ | ⟨c104, H⟩
        ·
          refine WL.guardNo rfl rfl rfl ((show _ = Value.bool (decide (a0 ≤ (90 : UInt8))) from rfl).trans (congrArg Value.bool c104)) ?_
          refine WL.guardNo rfl rfl rfl ((show _ = Value.bool (decide (a0 ≤ (90 : UInt8))) from rfl).trans (congrArg Value.bool c104)) ?_
          refine WL.ex rfl (ex_pick_t (v := .bool true) ((show _ = Value.bool (decide (a0 ≤ (90 : UInt8))) from rfl).trans (congrArg Value.bool c104)) rfl) ?_
          refine WL.ex rfl (ex_assign (v := .bool true) rfl) ?_
          refine WL.nil ?_
          refine WC.ret ?_
          obtain rfl := Option.some.inj H
          exact ⟨_, (.tmp (.bool true : Value) rfl .nil), _, rfl, HF.out⟩
        ·
          refine WL.guardYes rfl rfl rfl ((show _ = Value.bool (decide (a0 ≤ (90 : UInt8))) from rfl).trans (congrArg Value.bool c104)) ?_
          refine OW.ex rfl (ex_move (v := enc8 a0) rfl) ?_
          refine WL.guardYes rfl rfl rfl ((show _ = Value.bool (decide (a0 ≤ (90 : UInt8))) from rfl).trans (congrArg Value.bool c104)) ?_
          refine OW.ex rfl (ex_bin (a := enc8 a0) (b := enc8 (95 : UInt8)) (v := .bool (a0 == (95 : UInt8))) rfl rfl bin_eql_u8) ?_
          refine WL.ex rfl (ex_pick_f (v := .bool (a0 == (95 : UInt8))) ((show _ = Value.bool (decide (a0 ≤ (90 : UInt8))) from rfl).trans (congrArg Value.bool c104)) rfl) ?_
          refine WL.ex rfl (ex_assign (v := .bool (a0 == (95 : UInt8))) rfl) ?_
          refine WL.nil ?_
          refine WC.ret ?_
          obtain rfl := Option.some.inj H
          exact ⟨_, (.tmp (.bool (a0 == (95 : UInt8)) : Value) rfl .nil), _, rfl, HF.out⟩
      ·
        refine WL.guardNo rfl rfl rfl ((show _ = Value.bool (decide ((65 : UInt8) ≤ a0)) from rfl).trans (congrArg Value.bool c103)) ?_
        refine WL.guardNo rfl rfl rfl ((show _ = Value.bool (decide ((65 : UInt8) ≤ a0)) from rfl).trans (congrArg Value.bool c103)) ?_
        refine WL.guardYes rfl rfl rfl ((show _ = Value.bool (decide (a0 ≤ (122 : UInt8))) from rfl).trans (congrArg Value.bool c102)) ?_
        refine OW.ex rfl (ex_pick_f (v := .bool false) ((show _ = Value.bool (decide ((65 : UInt8) ≤ a0)) from rfl).trans (congrArg Value.bool c103)) rfl) ?_
        refine WL.ex rfl (ex_pick_f (v := .bool false) ((show _ = Value.bool (decide (a0 ≤ (122 : UInt8))) from rfl).trans (congrArg Value.bool c102)) rfl) ?_
        refine WL.ex rfl (ex_move (v := .bool false) rfl) ?_
        refine WL.guardYes rfl rfl rfl rfl ?_
        refine OW.ex rfl (ex_move (v := enc8 a0) rfl) ?_
        refine WL.guardYes rfl rfl rfl rfl ?_
        refine OW.ex rfl (ex_bin (a := enc8 a0) (b := enc8 (95 : UInt8)) (v := .bool (a0 == (95 : UInt8))) rfl rfl bin_eql_u8) ?_
        refine WL.ex rfl (ex_pick_f (v := .bool (a0 == (95 : UInt8))) rfl rfl) ?_
        refine WL.ex rfl (ex_assign (v := .bool (a0 == (95 : UInt8))) rfl) ?_
        refine WL.nil ?_
        refine WC.ret ?_
        obtain rfl := Option.some.inj H
        exact ⟨_, (.tmp (.bool (a0 == (95 : UInt8)) : Value) rfl .nil), _, rfl, HF.out⟩
  ·
    refine WL.guardNo rfl rfl rfl ((show _ = Value.bool (decide ((97 : UInt8) ≤ a0)) from rfl).trans (congrArg Value.bool c101)) ?_
    refine WL.guardNo rfl rfl rfl ((show _ = Value.bool (decide ((97 : UInt8) ≤ a0)) from rfl).trans (congrArg Value.bool c101)) ?_
    refine WL.ex rfl (ex_pick_f (v := .bool false) ((show _ = Value.bool (decide ((97 : UInt8) ≤ a0)) from rfl).trans (congrArg Value.bool c101)) rfl) ?_
    refine WL.ex rfl (ex_move (v := .bool false) rfl) ?_
    refine WL.guardYes rfl rfl rfl rfl ?_
    refine OW.ex rfl (ex_move (v := enc8 a0) rfl) ?_
    refine WL.guardYes rfl rfl rfl rfl ?_
    refine OW.ex rfl (ex_bin (a := enc8 a0) (b := enc8 (65 : UInt8)) (v := .bool (decide ((65 : UInt8) ≤ a0))) rfl rfl bin_geq_u8) ?_
    refine WL.guardYes rfl rfl rfl rfl ?_
    refine OW.ex rfl (ex_move (v := .bool (decide ((65 : UInt8) ≤ a0))) rfl) ?_
    rcases condE H with ⟨c105, H⟩ | ⟨c105, H⟩
    ·
      refine WL.guardYes rfl rfl rfl ((show _ = Value.bool (decide ((65 : UInt8) ≤ a0)) from rfl).trans (congrArg Value.bool c105)) ?_
      refine OW.ex rfl (ex_move (v := enc8 a0) rfl) ?_
      refine WL.guardYes rfl rfl rfl ((show _ = Value.bool (decide ((65 : UInt8) ≤ a0)) from rfl).trans (congrArg Value.bool c105)) ?_
      refine OW.ex rfl (ex_bin (a := enc8 a0) (b := enc8 (90 : UInt8)) (v := .bool (decide (a0 ≤ (90 : UInt8)))) rfl rfl bin_leq_u8) ?_
      refine WL.guardYes rfl rfl rfl rfl ?_
      refine OW.ex rfl (ex_pick_t (v := .bool (decide (a0 ≤ (90 : UInt8)))) ((show _ = Value.bool (decide ((65 : UInt8) ≤ a0)) from rfl).trans (congrArg Value.bool c105)) rfl) ?_
      refine WL.ex rfl (ex_pick_f (v := .bool (decide (a0 ≤ (90 : UInt8)))) rfl rfl) ?_
      refine WL.ex rfl (ex_move (v := .bool (decide (a0 ≤ (90 : UInt8)))) rfl) ?_
      rcases condE H with ⟨c106, H⟩ | ⟨c106, H⟩
      ·
        refine WL.guardNo rfl rfl rfl ((show _ = Value.bool (decide (a0 ≤ (90 : UInt8))) from rfl).trans (congrArg Value.bool c106)) ?_
        refine WL.guardNo rfl rfl rfl ((show _ = Value.bool (decide (a0 ≤ (90 : UInt8))) from rfl).trans (congrArg Value.bool c106)) ?_
        refine WL.ex rfl (ex_pick_t (v := .bool true) ((show _ = Value.bool (decide (a0 ≤ (90 : UInt8))) from rfl).trans (congrArg Value.bool c106)) rfl) ?_
        refine WL.ex rfl (ex_assign (v := .bool true) rfl) ?_
        refine WL.nil ?_
        refine WC.ret ?_
        obtain rfl := Option.some.inj H
        exact ⟨_, (.tmp (.bool true : Value) rfl .nil), _, rfl, HF.out⟩
      ·
        refine WL.guardYes rfl rfl rfl ((show _ = Value.bool (decide (a0 ≤ (90 : UInt8))) from rfl).trans (congrArg Value.bool c106)) ?_
        refine OW.ex rfl (ex_move (v := enc8 a0) rfl) ?_
        refine WL.guardYes rfl rfl rfl ((show _ = Value.bool (decide (a0 ≤ (90 : UInt8))) from rfl).trans (congrArg Value.bool c106)) ?_
        refine OW.ex rfl (ex_bin (a := enc8 a0) (b := enc8 (95 : UInt8)) (v := .bool (a0 == (95 : UInt8))) rfl rfl bin_eql_u8) ?_
        refine WL.ex rfl (ex_pick_f (v := .bool (a0 == (95 : UInt8))) ((show _ = Value.bool (decide (a0 ≤ (90 : UInt8))) from rfl).trans (congrArg Value.bool c106)) rfl) ?_
        refine WL.ex rfl (ex_assign (v := .bool (a0 == (95 : UInt8))) rfl) ?_
        refine WL.nil ?_
        refine WC.ret ?_
        obtain rfl := Option.some.inj H
        exact ⟨_, (.tmp (.bool (a0 == (95 : UInt8)) : Value) rfl .nil), _, rfl, HF.out⟩
    ·
      refine WL.guardNo rfl rfl rfl ((show _ = Value.bool (decide ((65 : UInt8) ≤ a0)) from rfl).trans (congrArg Value.bool c105)) ?_
      refine WL.guardNo rfl rfl rfl ((show _ = Value.bool (decide ((65 : UInt8) ≤ a0)) from rfl).trans (congrArg Value.bool c105)) ?_
      refine WL.guardYes rfl rfl rfl rfl ?_
      refine OW.ex rfl (ex_pick_f (v := .bool false) ((show _ = Value.bool (decide ((65 : UInt8) ≤ a0)) from rfl).trans (congrArg Value.bool c105)) rfl) ?_
      refine WL.ex rfl (ex_pick_f (v := .bool false) rfl rfl) ?_
      refine WL.ex rfl (ex_move (v := .bool false) rfl) ?_
      refine WL.guardYes rfl rfl rfl rfl ?_
      refine OW.ex rfl (ex_move (v := enc8 a0) rfl) ?_
      refine WL.guardYes rfl rfl rfl rfl ?_
      refine OW.ex rfl (ex_bin (a := enc8 a0) (b := enc8 (95 : UInt8)) (v := .bool (a0 == (95 : UInt8))) rfl rfl bin_eql_u8) ?_
      refine WL.ex rfl (ex_pick_f (v := .bool (a0 == (95 : UInt8))) rfl rfl) ?_
      refine WL.ex rfl (ex_assign (v := .bool (a0 == (95 : UInt8))) rfl) ?_
      refine WL.nil ?_
      refine WC.ret ?_
      obtain rfl := Option.some.inj H
      exact ⟨_, (.tmp (.bool (a0 == (95 : UInt8)) : Value) rfl .nil), _, rfl, HF.out⟩

/-! ### dictumref02_digit -/
set_option maxRecDepth 100000 in
theorem dictumref02_digit.calls (o0 : Tags) (w0 : World) (a0 : UInt8) (r : Bool) (hO : ∀ b, b < w0.heap.size → o0 b < 10) (H : dictumref02_digit.f a0 = some r) :
    Calls Tryd.prog 36 [enc8 a0].toArray w0 fun e_ w_ => ∃ (o_ : Tags), e_ = .returned (one [.bool r]) ∧ Step o0 w0 o_ w_ [] := by
  have HF := Fm.refl hO []
  unfold dictumref02_digit.f at H
  refine SX.calls [enc8 a0] Tryd.func36 rfl rfl ?_
  rw [Tryd.ntmps36]
  refine WC.seq ?_
  refine WC.region ?_
  refine WL.ex rfl (ex_assign (v := .bool false) rfl) ?_
  refine WL.nil ?_
  refine WC.seq ?_
  refine WC.region ?_
  refine WL.ex rfl (ex_move (v := enc8 a0) rfl) ?_
  refine WL.ex rfl (ex_bin (a := enc8 a0) (b := enc8 (48 : UInt8)) (v := .bool (decide ((48 : UInt8) ≤ a0))) rfl rfl bin_geq_u8) ?_
  refine WL.ex rfl (ex_move (v := .bool (decide ((48 : UInt8) ≤ a0))) rfl) ?_
  rcases condE H with ⟨c101, H⟩ | ⟨c101, H⟩
  ·
    refine WL.guardYes rfl rfl rfl ((show _ = Value.bool (decide ((48 : UInt8) ≤ a0)) from rfl).trans (congrArg Value.bool c101)) ?_
    refine OW.ex rfl (ex_move (v := enc8 a0) rfl) ?_
    refine WL.guardYes rfl rfl rfl ((show _ = Value.bool (decide ((48 : UInt8) ≤ a0)) from rfl).trans (congrArg Value.bool c101)) ?_
    refine OW.ex rfl (ex_bin (a := enc8 a0) (b := enc8 (57 : UInt8)) (v := .bool (decide (a0 ≤ (57 : UInt8)))) rfl rfl bin_leq_u8) ?_
    refine WL.ex rfl (ex_pick_t (v := .bool (decide (a0 ≤ (57 : UInt8)))) ((show _ = Value.bool (decide ((48 : UInt8) ≤ a0)) from rfl).trans (congrArg Value.bool c101)) rfl) ?_
    refine WL.ex rfl (ex_assign (v := .bool (decide (a0 ≤ (57 : UInt8)))) rfl) ?_
    refine WL.nil ?_
    refine WC.ret ?_
    obtain rfl := Option.some.inj H
    exact ⟨_, (.tmp (.bool (decide (a0 ≤ (57 : UInt8))) : Value) rfl .nil), _, rfl, HF.out⟩
  ·
    refine WL.guardNo rfl rfl rfl ((show _ = Value.bool (decide ((48 : UInt8) ≤ a0)) from rfl).trans (congrArg Value.bool c101)) ?_
    refine WL.guardNo rfl rfl rfl ((show _ = Value.bool (decide ((48 : UInt8) ≤ a0)) from rfl).trans (congrArg Value.bool c101)) ?_
    refine WL.ex rfl (ex_pick_f (v := .bool false) ((show _ = Value.bool (decide ((48 : UInt8) ≤ a0)) from rfl).trans (congrArg Value.bool c101)) rfl) ?_
    refine WL.ex rfl (ex_assign (v := .bool false) rfl) ?_
    refine WL.nil ?_
    refine WC.ret ?_
    obtain rfl := Option.some.inj H
    exact ⟨_, (.tmp (.bool false : Value) rfl .nil), _, rfl, HF.out⟩

/-! ### dictumref02_within -/
set_option maxRecDepth 100000 in
theorem dictumref02_within.calls (o0 : Tags) (w0 : World) (a0 : UInt8) (r : Bool) (hO : ∀ b, b < w0.heap.size → o0 b < 10) (H : dictumref02_within.f a0 = some r) :
    Calls Tryd.prog 25 [enc8 a0].toArray w0 fun e_ w_ => ∃ (o_ : Tags), e_ = .returned (one [.bool r]) ∧ Step o0 w0 o_ w_ [] := by
  have HF := Fm.refl hO []
  unfold dictumref02_within.f at H
  refine SX.calls [enc8 a0] Tryd.func25 rfl rfl ?_
  rw [Tryd.ntmps25]
  refine WC.seq ?_
  refine WC.region ?_
  refine WL.ex rfl (ex_assign (v := .bool false) rfl) ?_
  refine WL.nil ?_
  refine WC.seq ?_
  refine WC.region ?_
  refine WL.ex rfl (ex_move (v := enc8 a0) rfl) ?_
  obtain ⟨z101, hz101, H⟩ := bindE H
  refine WL.op rfl ?_
  refine OW.call [enc8 a0] rfl Tryd.func24 (by kernel_rfl) (by kernel_rfl) (map_cons' rfl rfl) (dictumref02_letter.calls _ _ a0 z101 (HF.ten (V := [0]) (L := []) rfl)  hz101) ?_
  rintro _ w102 ⟨o103, rfl, s104⟩
  refine ⟨_, rfl, ?_⟩
  replace s104 := un_stepL (J := []) (L' := []) s104 rfl rfl
  replace HF := HF.step s104 rfl
  refine WL.ex rfl (ex_move (v := .bool z101) rfl) ?_
  rcases condE H with ⟨c105, H⟩ | ⟨c105, H⟩
  ·
    refine WL.guardNo rfl rfl rfl ((show _ = Value.bool z101 from rfl).trans (congrArg Value.bool c105)) ?_
    refine WL.guardNo rfl rfl rfl ((show _ = Value.bool z101 from rfl).trans (congrArg Value.bool c105)) ?_
    refine WL.ex rfl (ex_pick_t (v := .bool true) ((show _ = Value.bool z101 from rfl).trans (congrArg Value.bool c105)) rfl) ?_
    refine WL.ex rfl (ex_move (v := .bool true) rfl) ?_
    refine WL.guardNo rfl rfl rfl rfl ?_
    refine WL.guardNo rfl rfl rfl rfl ?_
    refine WL.ex rfl (ex_pick_t (v := .bool true) rfl rfl) ?_
    refine WL.ex rfl (ex_assign (v := .bool true) rfl) ?_
    refine WL.nil ?_
    refine WC.ret ?_
    obtain rfl := Option.some.inj H
    exact ⟨_, (.tmp (.bool true : Value) rfl .nil), _, rfl, HF.out⟩
  ·
    refine WL.guardYes rfl rfl rfl ((show _ = Value.bool z101 from rfl).trans (congrArg Value.bool c105)) ?_
    refine OW.ex rfl (ex_move (v := enc8 a0) rfl) ?_
    refine WL.guardYes rfl rfl rfl ((show _ = Value.bool z101 from rfl).trans (congrArg Value.bool c105)) ?_
    obtain ⟨z106, hz106, H⟩ := bindE H
    refine OW.call [enc8 a0] rfl Tryd.func36 (by kernel_rfl) (by kernel_rfl) (map_cons' rfl rfl) (dictumref02_digit.calls _ _ a0 z106 (HF.ten (V := [0]) (L := []) rfl)  hz106) ?_
    rintro _ w107 ⟨o108, rfl, s109⟩
    refine ⟨_, rfl, ?_⟩
    replace s109 := un_stepL (J := []) (L' := []) s109 rfl rfl
    replace HF := HF.step s109 rfl
    refine WL.ex rfl (ex_pick_f (v := .bool z106) ((show _ = Value.bool z101 from rfl).trans (congrArg Value.bool c105)) rfl) ?_
    refine WL.ex rfl (ex_move (v := .bool z106) rfl) ?_
    rcases condE H with ⟨c110, H⟩ | ⟨c110, H⟩
    ·
      refine WL.guardNo rfl rfl rfl ((show _ = Value.bool z106 from rfl).trans (congrArg Value.bool c110)) ?_
      refine WL.guardNo rfl rfl rfl ((show _ = Value.bool z106 from rfl).trans (congrArg Value.bool c110)) ?_
      refine WL.ex rfl (ex_pick_t (v := .bool true) ((show _ = Value.bool z106 from rfl).trans (congrArg Value.bool c110)) rfl) ?_
      refine WL.ex rfl (ex_assign (v := .bool true) rfl) ?_
      refine WL.nil ?_
      refine WC.ret ?_
      obtain rfl := Option.some.inj H
      exact ⟨_, (.tmp (.bool true : Value) rfl .nil), _, rfl, HF.out⟩
    ·
      refine WL.guardYes rfl rfl rfl ((show _ = Value.bool z106 from rfl).trans (congrArg Value.bool c110)) ?_
      refine OW.ex rfl (ex_move (v := enc8 a0) rfl) ?_
      refine WL.guardYes rfl rfl rfl ((show _ = Value.bool z106 from rfl).trans (congrArg Value.bool c110)) ?_
      refine OW.ex rfl (ex_bin (a := enc8 a0) (b := enc8 (39 : UInt8)) (v := .bool (a0 == (39 : UInt8))) rfl rfl bin_eql_u8) ?_
      refine WL.ex rfl (ex_pick_f (v := .bool (a0 == (39 : UInt8))) ((show _ = Value.bool z106 from rfl).trans (congrArg Value.bool c110)) rfl) ?_
      refine WL.ex rfl (ex_assign (v := .bool (a0 == (39 : UInt8))) rfl) ?_
      refine WL.nil ?_
      refine WC.ret ?_
      obtain rfl := Option.some.inj H
      exact ⟨_, (.tmp (.bool (a0 == (39 : UInt8)) : Value) rfl .nil), _, rfl, HF.out⟩

/-! ### dictumref02_number -/
set_option maxRecDepth 100000 in
theorem dictumref02_number.calls (k : Nat) (o0 : Tags) (w0 : World) (a0 : List UInt8) (a1 : Int) (r : T_api_Token × Int × Int) (hO : ∀ b, b < w0.heap.size → o0 b < 10) (H : dictumref02_number.f k a0 a1 = some r) :
    Calls Tryd.prog 44 [encS a0, .int .i64 a1].toArray w0 fun e_ w_ => ∃ (o_ : Tags), e_ = .returned (one [.agg #[.int .i64 r.1.f_Kind, encS r.1.f_Text, .int .i64 r.1.f_Int, .int .i64 r.1.f_At.f_Line, .int .i64 r.1.f_At.f_Col, .int .i64 r.1.f_At.f_Off], .int .i64 r.2.1, .int .i64 r.2.2]) ∧ Step o0 w0 o_ w_ [] := by
  have HF := Fm.refl hO []
  unfold dictumref02_number.f at H
  refine SX.calls [encS a0, .int .i64 a1] Tryd.func44 rfl rfl ?_
  rw [Tryd.ntmps44]
  refine WC.seq ?_
  refine WC.region ?_
  refine WL.op rfl ?_
  refine OW.alloc' [.int .i64 (0 : Int), encS ([] : List UInt8), .int .i64 (0 : Int), .int .i64 (0 : Int), .int .i64 (0 : Int), .int .i64 (0 : Int)] 10 HF rfl zr37 rfl ?_
  intro o102 w103 b101 s104 hB105
  replace HF := HF.step s104 rfl
  refine WL.ex rfl (ex_assign (v := .int .i64 0) rfl) ?_
  refine WL.ex rfl (ex_assign (v := .int .i64 0) rfl) ?_
  refine WL.nil ?_
  refine WC.seq ?_
  refine WC.region ?_
  refine WL.ex rfl (ex_assign (v := .int .i64 0) rfl) ?_
  refine WL.nil ?_
  refine WC.seq ?_
  refine WC.region ?_
  refine WL.ex rfl (ex_move (v := .int .i64 a1) rfl) ?_
  refine WL.ex rfl (ex_assign (v := .int .i64 a1) rfl) ?_
  refine WL.nil ?_
  refine WC.seq ?_
  obtain ⟨z110, hz110, H⟩ := bindE H
  obtain ⟨x108, x109⟩ := z110
  refine WC.for (fun k_ ρ_ w_ => ∃ (o_ : Tags) (x106 : Int) (x107 : Int), Fm o0 w0 o_ w_ [] ∧ Bk o_ w_ 10 b101 [.int .i64 (0 : Int), encS ([] : List UInt8), .int .i64 (0 : Int), .int .i64 (0 : Int), .int .i64 (0 : Int), .int .i64 (0 : Int)] 37 ∧ ρ_ 0 = encS a0 ∧ ρ_ 1 = .int .i64 a1 ∧ ρ_ 4 = .pointer (some ⟨b101, 0, none⟩) ∧ ρ_ 5 = .int .i64 0 ∧ ρ_ 6 = .int .i64 0 ∧ ρ_ 7 = .int .i64 x106 ∧ ρ_ 8 = .int .i64 x107 ∧ dictumref02_number.l1 k a0 k_ x106 x107 = some (x108, x109)) k (fun ρ_ w_ => ∃ (o_ : Tags), Fm o0 w0 o_ w_ [] ∧ Bk o_ w_ 10 b101 [.int .i64 (0 : Int), encS ([] : List UInt8), .int .i64 (0 : Int), .int .i64 (0 : Int), .int .i64 (0 : Int), .int .i64 (0 : Int)] 37 ∧ ρ_ 0 = encS a0 ∧ ρ_ 1 = .int .i64 a1 ∧ ρ_ 4 = .pointer (some ⟨b101, 0, none⟩) ∧ ρ_ 5 = .int .i64 0 ∧ ρ_ 6 = .int .i64 0 ∧ ρ_ 7 = .int .i64 x108 ∧ ρ_ 8 = .int .i64 x109) ⟨_, 0, a1, HF, hB105, rfl, rfl, rfl, rfl, rfl, rfl, rfl, hz110⟩ ?case111 ?_
  case case111 =>
    rintro ρ142 w140 ⟨o141, HF, hB105, s0_107, s1_107, s4_107, s5_107, s6_107, s7_108, s8_109⟩
    refine WC.seq ?_
    obtain ⟨z144, hz144, H⟩ := bindE H
    refine WC.cut (fun ρ_ w_ => ∃ (o_ : Tags), Fm o0 w0 o_ w_ [] ∧ Bk o_ w_ 10 b101 [.int .i64 (0 : Int), encS ([] : List UInt8), .int .i64 (0 : Int), .int .i64 (0 : Int), .int .i64 (0 : Int), .int .i64 (0 : Int)] 37 ∧ ρ_ 4 = .pointer (some ⟨b101, 0, none⟩) ∧ ρ_ 5 = .int .i64 0 ∧ ρ_ 6 = .int .i64 0 ∧ ρ_ 7 = .int .i64 x108 ∧ ρ_ 8 = .int .i64 x109 ∧ ρ_ 57 = .bool z144) ?case145 ?_
    case case145 =>
      rintro ρ148 w146 ⟨o147, HF, hB105, s4_142, s5_142, s6_142, s7_142, s8_142, s57_143⟩
      rcases condE H with ⟨c149, H⟩ | ⟨c149, H⟩
      ·
        refine WC.cond_t ((show _ = Value.bool z144 from s57_143).trans (congrArg Value.bool c149)) ?_
        refine WC.seq ?_
        refine WC.region ?_
        refine WL.ex rfl (ex_build (cs := [.int .i64 (0 : Int), encS ([] : List UInt8), .int .i64 (0 : Int), .int .i64 (0 : Int), .int .i64 (0 : Int), .int .i64 (0 : Int)]) [(0, 1), (1, 1), (2, 1), (3, 3)] [] [.int .i64 0, .string ⟨#[]⟩, .int .i64 0, .int .i64 0, .int .i64 0, .int .i64 0] Tryd.underlying37 zr37 rfl (by kernel_rfl) rfl rfl) ?_
        refine WL.ex rfl (ex_move (v := .int .i64 x109) s8_142) ?_
        refine WL.op rfl ?_
        refine OW.store [.int .i64 (0 : Int), encS ([] : List UInt8), .int .i64 (0 : Int), .int .i64 (0 : Int), .int .i64 (0 : Int), .int .i64 (0 : Int)] s4_142 (vs := [.int .i64 (0 : Int), encS ([] : List UInt8), .int .i64 (0 : Int), .int .i64 (0 : Int), .int .i64 (0 : Int), .int .i64 (0 : Int)]) ((congrArg Value.cells (show ev _ _ = (.agg #[.int .i64 (0 : Int), encS ([] : List UInt8), .int .i64 (0 : Int), .int .i64 (0 : Int), .int .i64 (0 : Int), .int .i64 (0 : Int)] : Value) from rfl)).trans rfl) sz37 hB105 (Nat.le_of_ble_eq_true rfl) (by intro u_ hu_; simp only [List.mem_cons, List.not_mem_nil, or_false] at hu_; rcases hu_ with rfl | rfl | rfl | rfl | rfl | rfl <;> first | rfl) rfl ?_
        intro w150 s151 hB152
        replace HF := HF.step s151 rfl
        refine WL.ex rfl (ex_assign (v := .int .i64 x109) rfl) ?_
        refine WL.ex rfl (ex_assign (v := .int .i64 21) rfl) ?_
        refine WL.nil ?_
        refine WC.ret ?_
        obtain rfl := Option.some.inj H
        exact ⟨_, (.cell (.agg #[.int .i64 (0 : Int), encS ([] : List UInt8), .int .i64 (0 : Int), .int .i64 (0 : Int), .int .i64 (0 : Int), .int .i64 (0 : Int)] : Value) s4_142 (run_loadN (cs := [.int .i64 (0 : Int), encS ([] : List UInt8), .int .i64 (0 : Int), .int .i64 (0 : Int), .int .i64 (0 : Int), .int .i64 (0 : Int)]) Tryd.underlying37 rfl sz37 (hB152.cells rfl)) (.tmp (.int .i64 x109 : Value) rfl (.tmp (.int .i64 21 : Value) rfl .nil))), _, rfl, HF.out⟩
      ·
        refine WC.cond_f ((show _ = Value.bool z144 from s57_143).trans (congrArg Value.bool c149)) ?_
        refine WC.skip ?_
        refine WC.seq ?_
        refine WC.region ?_
        refine WL.ex rfl (ex_move (v := .int .i64 x108) s7_142) ?_
        refine WL.ex rfl (ex_build (cs := [.int .i64 2, encS ([] : List UInt8), .int .i64 x108, .int .i64 (0 : Int), .int .i64 (0 : Int), .int .i64 (0 : Int)]) [(0, 1), (1, 1), (2, 1), (3, 3)] [(0, .int .i64 2), (2, .int .i64 x108)] [.int .i64 0, .string ⟨#[]⟩, .int .i64 0, .int .i64 0, .int .i64 0, .int .i64 0] Tryd.underlying37 zr37 rfl (by kernel_rfl) (evs_cons rfl (evs_cons rfl rfl)) rfl) ?_
        refine WL.ex rfl (ex_move (v := .int .i64 x109) s8_142) ?_
        refine WL.op rfl ?_
        refine OW.store [.int .i64 2, encS ([] : List UInt8), .int .i64 x108, .int .i64 (0 : Int), .int .i64 (0 : Int), .int .i64 (0 : Int)] s4_142 (vs := [.int .i64 2, encS ([] : List UInt8), .int .i64 x108, .int .i64 (0 : Int), .int .i64 (0 : Int), .int .i64 (0 : Int)]) ((congrArg Value.cells (show ev _ _ = (.agg #[.int .i64 2, encS ([] : List UInt8), .int .i64 x108, .int .i64 (0 : Int), .int .i64 (0 : Int), .int .i64 (0 : Int)] : Value) from rfl)).trans rfl) sz37 hB105 (Nat.le_of_ble_eq_true rfl) (by intro u_ hu_; simp only [List.mem_cons, List.not_mem_nil, or_false] at hu_; rcases hu_ with rfl | rfl | rfl | rfl | rfl | rfl <;> first | rfl) rfl ?_
        intro w153 s154 hB155
        replace HF := HF.step s154 rfl
        refine WL.ex rfl (ex_assign (v := .int .i64 x109) rfl) ?_
        refine WL.ex rfl (ex_assign (v := .int .i64 0) rfl) ?_
        refine WL.nil ?_
        refine WC.ret ?_
        obtain rfl := Option.some.inj H
        exact ⟨_, (.cell (.agg #[.int .i64 2, encS ([] : List UInt8), .int .i64 x108, .int .i64 (0 : Int), .int .i64 (0 : Int), .int .i64 (0 : Int)] : Value) s4_142 (run_loadN (cs := [.int .i64 2, encS ([] : List UInt8), .int .i64 x108, .int .i64 (0 : Int), .int .i64 (0 : Int), .int .i64 (0 : Int)]) Tryd.underlying37 rfl sz37 (hB155.cells rfl)) (.tmp (.int .i64 x109 : Value) rfl (.tmp (.int .i64 0 : Value) rfl .nil))), _, rfl, HF.out⟩
    have Ho156 := H
    replace H := hz144
    refine WC.region ?_
    refine WL.ex rfl (ex_move (v := encS a0) s0_107) ?_
    refine WL.ex rfl (ex_move (v := .int .i64 a1) s1_107) ?_
    obtain ⟨x157, hx157, H⟩ := bindE H
    refine WL.ex rfl (ex_index_str (i := a1) rfl rfl Tryd.underlying9 (ix_some hx157).1 (ix_some hx157).2.2) ?_
    refine WL.ex rfl (ex_bin (a := enc8 x157) (b := enc8 (48 : UInt8)) (v := .bool (x157 == (48 : UInt8))) rfl rfl bin_eql_u8) ?_
    refine WL.ex rfl (ex_move (v := .bool (x157 == (48 : UInt8))) rfl) ?_
    rcases condE H with ⟨c158, H⟩ | ⟨c158, H⟩
    ·
      refine WL.guardYes rfl rfl rfl ((show _ = Value.bool (x157 == (48 : UInt8)) from rfl).trans (congrArg Value.bool c158)) ?_
      refine OW.ex rfl (ex_move (v := .int .i64 x109) s8_109) ?_
      refine WL.guardYes rfl rfl rfl ((show _ = Value.bool (x157 == (48 : UInt8)) from rfl).trans (congrArg Value.bool c158)) ?_
      refine OW.ex rfl (ex_move (v := .int .i64 a1) s1_107) ?_
      refine WL.guardYes rfl rfl rfl ((show _ = Value.bool (x157 == (48 : UInt8)) from rfl).trans (congrArg Value.bool c158)) ?_
      refine OW.ex rfl (ex_bin (a := .int .i64 a1) (b := .int .i64 1) (v := .int .i64 (wrap64 (a1 + 1))) rfl rfl bin_add64) ?_
      refine WL.guardYes rfl rfl rfl ((show _ = Value.bool (x157 == (48 : UInt8)) from rfl).trans (congrArg Value.bool c158)) ?_
      refine OW.ex rfl (ex_bin (a := .int .i64 x109) (b := .int .i64 (wrap64 (a1 + 1))) (v := .bool (decide (x109 > (wrap64 (a1 + 1))))) rfl rfl bin_gtr) ?_
      refine WL.ex rfl (ex_pick_t (v := .bool (decide (x109 > (wrap64 (a1 + 1))))) ((show _ = Value.bool (x157 == (48 : UInt8)) from rfl).trans (congrArg Value.bool c158)) rfl) ?_
      refine WL.ex rfl (ex_move (v := .bool (decide (x109 > (wrap64 (a1 + 1))))) rfl) ?_
      rcases condE H with ⟨c159, H⟩ | ⟨c159, H⟩
      ·
        refine WL.guardNo rfl rfl rfl ((show _ = Value.bool (decide (x109 > (wrap64 (a1 + 1)))) from rfl).trans (congrArg Value.bool c159)) ?_
        refine WL.guardNo rfl rfl rfl ((show _ = Value.bool (decide (x109 > (wrap64 (a1 + 1)))) from rfl).trans (congrArg Value.bool c159)) ?_
        refine WL.ex rfl (ex_pick_t (v := .bool true) ((show _ = Value.bool (decide (x109 > (wrap64 (a1 + 1)))) from rfl).trans (congrArg Value.bool c159)) rfl) ?_
        refine WL.ex rfl (ex_move (v := .bool true) rfl) ?_
        refine WL.guardNo rfl rfl rfl rfl ?_
        refine WL.guardNo rfl rfl rfl rfl ?_
        refine WL.guardNo rfl rfl rfl rfl ?_
        refine WL.guardNo rfl rfl rfl rfl ?_
        refine WL.guardNo rfl rfl rfl rfl ?_
        refine WL.guardUn rfl rfl rfl rfl ?_
        refine WL.guardUn rfl rfl rfl rfl ?_
        refine WL.guardUn rfl rfl rfl rfl ?_
        refine WL.guardUn rfl rfl rfl rfl ?_
        refine WL.guardNo rfl rfl rfl rfl ?_
        refine WL.ex rfl (ex_pick_t (v := .bool true) rfl rfl) ?_
        refine WL.nil ?_
        obtain rfl := Option.some.inj H
        exact ⟨_, HF, hB105, s4_107, s5_107, s6_107, s7_108, s8_109, rfl⟩
      ·
        refine WL.guardYes rfl rfl rfl ((show _ = Value.bool (decide (x109 > (wrap64 (a1 + 1)))) from rfl).trans (congrArg Value.bool c159)) ?_
        refine OW.ex rfl (ex_move (v := .int .i64 x108) s7_108) ?_
        refine WL.guardYes rfl rfl rfl ((show _ = Value.bool (decide (x109 > (wrap64 (a1 + 1)))) from rfl).trans (congrArg Value.bool c159)) ?_
        refine OW.ex rfl (ex_bin (a := .int .i64 x108) (b := .int .i64 999999999) (v := .bool (decide (x108 > 999999999))) rfl rfl bin_gtr) ?_
        refine WL.ex rfl (ex_pick_f (v := .bool (decide (x108 > 999999999))) ((show _ = Value.bool (decide (x109 > (wrap64 (a1 + 1)))) from rfl).trans (congrArg Value.bool c159)) rfl) ?_
        refine WL.ex rfl (ex_move (v := .bool (decide (x108 > 999999999))) rfl) ?_
        rcases condE H with ⟨c160, H⟩ | ⟨c160, H⟩
        ·
          refine WL.guardNo rfl rfl rfl ((show _ = Value.bool (decide (x108 > 999999999)) from rfl).trans (congrArg Value.bool c160)) ?_
          refine WL.guardNo rfl rfl rfl ((show _ = Value.bool (decide (x108 > 999999999)) from rfl).trans (congrArg Value.bool c160)) ?_
          refine WL.guardNo rfl rfl rfl ((show _ = Value.bool (decide (x108 > 999999999)) from rfl).trans (congrArg Value.bool c160)) ?_
          refine WL.guardNo rfl rfl rfl ((show _ = Value.bool (decide (x108 > 999999999)) from rfl).trans (congrArg Value.bool c160)) ?_
          refine WL.guardNo rfl rfl rfl ((show _ = Value.bool (decide (x108 > 999999999)) from rfl).trans (congrArg Value.bool c160)) ?_
          refine WL.guardUn rfl rfl rfl rfl ?_
          refine WL.guardUn rfl rfl rfl rfl ?_
          refine WL.guardUn rfl rfl rfl rfl ?_
          refine WL.guardUn rfl rfl rfl rfl ?_
          refine WL.guardNo rfl rfl rfl ((show _ = Value.bool (decide (x108 > 999999999)) from rfl).trans (congrArg Value.bool c160)) ?_
          refine WL.ex rfl (ex_pick_t (v := .bool true) ((show _ = Value.bool (decide (x108 > 999999999)) from rfl).trans (congrArg Value.bool c160)) rfl) ?_
          refine WL.nil ?_
          obtain rfl := Option.some.inj H
          exact ⟨_, HF, hB105, s4_107, s5_107, s6_107, s7_108, s8_109, rfl⟩
        ·
          refine WL.guardYes rfl rfl rfl ((show _ = Value.bool (decide (x108 > 999999999)) from rfl).trans (congrArg Value.bool c160)) ?_
          refine OW.ex rfl (ex_move (v := .int .i64 x109) s8_109) ?_
          refine WL.guardYes rfl rfl rfl ((show _ = Value.bool (decide (x108 > 999999999)) from rfl).trans (congrArg Value.bool c160)) ?_
          refine OW.ex rfl (ex_move (v := encS a0) s0_107) ?_
          refine WL.guardYes rfl rfl rfl ((show _ = Value.bool (decide (x108 > 999999999)) from rfl).trans (congrArg Value.bool c160)) ?_
          refine OW.ex rfl (ex_len_str (s := a0) rfl Tryd.underlying9) ?_
          refine WL.guardYes rfl rfl rfl ((show _ = Value.bool (decide (x108 > 999999999)) from rfl).trans (congrArg Value.bool c160)) ?_
          refine OW.ex rfl (ex_bin (a := .int .i64 x109) (b := .int .i64 (a0.length : Int)) (v := .bool (decide (x109 < (a0.length : Int)))) rfl rfl bin_lss) ?_
          refine WL.guardYes rfl rfl rfl ((show _ = Value.bool (decide (x108 > 999999999)) from rfl).trans (congrArg Value.bool c160)) ?_
          refine OW.ex rfl (ex_move (v := .bool (decide (x109 < (a0.length : Int)))) rfl) ?_
          rcases condE H with ⟨c161, H⟩ | ⟨c161, H⟩
          ·
            refine WL.guardYes rfl rfl rfl ((show _ = Value.bool (decide (x109 < (a0.length : Int))) from rfl).trans (congrArg Value.bool c161)) ?_
            refine OW.ex rfl (ex_move (v := encS a0) s0_107) ?_
            refine WL.guardYes rfl rfl rfl ((show _ = Value.bool (decide (x109 < (a0.length : Int))) from rfl).trans (congrArg Value.bool c161)) ?_
            refine OW.ex rfl (ex_move (v := .int .i64 x109) s8_109) ?_
            refine WL.guardYes rfl rfl rfl ((show _ = Value.bool (decide (x109 < (a0.length : Int))) from rfl).trans (congrArg Value.bool c161)) ?_
            obtain ⟨x162, hx162, H⟩ := bindE H
            refine OW.ex rfl (ex_index_str (i := x109) rfl rfl Tryd.underlying9 (ix_some hx162).1 (ix_some hx162).2.2) ?_
            refine WL.guardYes rfl rfl rfl ((show _ = Value.bool (decide (x109 < (a0.length : Int))) from rfl).trans (congrArg Value.bool c161)) ?_
            obtain ⟨z163, hz163, H⟩ := bindE H
            refine OW.call [enc8 x162] rfl Tryd.func25 (by kernel_rfl) (by kernel_rfl) (map_cons' rfl rfl) (dictumref02_within.calls _ _ x162 z163 (HF.ten (V := [0]) (L := []) rfl)  hz163) ?_
            rintro _ w164 ⟨o165, rfl, s166⟩
            refine ⟨_, rfl, ?_⟩
            replace s166 := un_stepL (J := []) (L' := []) s166 rfl rfl
            replace hB105 := hB105.step s166 rfl
            replace HF := HF.step s166 rfl
            refine WL.guardYes rfl rfl rfl ((show _ = Value.bool (decide (x108 > 999999999)) from rfl).trans (congrArg Value.bool c160)) ?_
            refine OW.ex rfl (ex_pick_t (v := .bool z163) ((show _ = Value.bool (decide (x109 < (a0.length : Int))) from rfl).trans (congrArg Value.bool c161)) rfl) ?_
            refine WL.ex rfl (ex_pick_f (v := .bool z163) ((show _ = Value.bool (decide (x108 > 999999999)) from rfl).trans (congrArg Value.bool c160)) rfl) ?_
            refine WL.nil ?_
            obtain rfl := Option.some.inj H
            exact ⟨_, HF, hB105, s4_107, s5_107, s6_107, s7_108, s8_109, rfl⟩
          ·
            refine WL.guardNo rfl rfl rfl ((show _ = Value.bool (decide (x109 < (a0.length : Int))) from rfl).trans (congrArg Value.bool c161)) ?_
            refine WL.guardNo rfl rfl rfl ((show _ = Value.bool (decide (x109 < (a0.length : Int))) from rfl).trans (congrArg Value.bool c161)) ?_
            refine WL.guardNo rfl rfl rfl ((show _ = Value.bool (decide (x109 < (a0.length : Int))) from rfl).trans (congrArg Value.bool c161)) ?_
            refine WL.guardNo rfl rfl rfl ((show _ = Value.bool (decide (x109 < (a0.length : Int))) from rfl).trans (congrArg Value.bool c161)) ?_
            refine WL.guardYes rfl rfl rfl ((show _ = Value.bool (decide (x108 > 999999999)) from rfl).trans (congrArg Value.bool c160)) ?_
            refine OW.ex rfl (ex_pick_f (v := .bool false) ((show _ = Value.bool (decide (x109 < (a0.length : Int))) from rfl).trans (congrArg Value.bool c161)) rfl) ?_
            refine WL.ex rfl (ex_pick_f (v := .bool false) ((show _ = Value.bool (decide (x108 > 999999999)) from rfl).trans (congrArg Value.bool c160)) rfl) ?_
            refine WL.nil ?_
            obtain rfl := Option.some.inj H
            exact ⟨_, HF, hB105, s4_107, s5_107, s6_107, s7_108, s8_109, rfl⟩
    ·
      refine WL.guardNo rfl rfl rfl ((show _ = Value.bool (x157 == (48 : UInt8)) from rfl).trans (congrArg Value.bool c158)) ?_
      refine WL.guardNo rfl rfl rfl ((show _ = Value.bool (x157 == (48 : UInt8)) from rfl).trans (congrArg Value.bool c158)) ?_
      refine WL.guardNo rfl rfl rfl ((show _ = Value.bool (x157 == (48 : UInt8)) from rfl).trans (congrArg Value.bool c158)) ?_
      refine WL.guardNo rfl rfl rfl ((show _ = Value.bool (x157 == (48 : UInt8)) from rfl).trans (congrArg Value.bool c158)) ?_
      refine WL.ex rfl (ex_pick_f (v := .bool false) ((show _ = Value.bool (x157 == (48 : UInt8)) from rfl).trans (congrArg Value.bool c158)) rfl) ?_
      refine WL.ex rfl (ex_move (v := .bool false) rfl) ?_
      refine WL.guardYes rfl rfl rfl rfl ?_
      refine OW.ex rfl (ex_move (v := .int .i64 x108) s7_108) ?_
      refine WL.guardYes rfl rfl rfl rfl ?_
      refine OW.ex rfl (ex_bin (a := .int .i64 x108) (b := .int .i64 999999999) (v := .bool (decide (x108 > 999999999))) rfl rfl bin_gtr) ?_
      refine WL.ex rfl (ex_pick_f (v := .bool (decide (x108 > 999999999))) rfl rfl) ?_
      refine WL.ex rfl (ex_move (v := .bool (decide (x108 > 999999999))) rfl) ?_
      rcases condE H with ⟨c167, H⟩ | ⟨c167, H⟩
      ·
        refine WL.guardNo rfl rfl rfl ((show _ = Value.bool (decide (x108 > 999999999)) from rfl).trans (congrArg Value.bool c167)) ?_
        refine WL.guardNo rfl rfl rfl ((show _ = Value.bool (decide (x108 > 999999999)) from rfl).trans (congrArg Value.bool c167)) ?_
        refine WL.guardNo rfl rfl rfl ((show _ = Value.bool (decide (x108 > 999999999)) from rfl).trans (congrArg Value.bool c167)) ?_
        refine WL.guardNo rfl rfl rfl ((show _ = Value.bool (decide (x108 > 999999999)) from rfl).trans (congrArg Value.bool c167)) ?_
        refine WL.guardNo rfl rfl rfl ((show _ = Value.bool (decide (x108 > 999999999)) from rfl).trans (congrArg Value.bool c167)) ?_
        refine WL.guardUn rfl rfl rfl rfl ?_
        refine WL.guardUn rfl rfl rfl rfl ?_
        refine WL.guardUn rfl rfl rfl rfl ?_
        refine WL.guardUn rfl rfl rfl rfl ?_
        refine WL.guardNo rfl rfl rfl ((show _ = Value.bool (decide (x108 > 999999999)) from rfl).trans (congrArg Value.bool c167)) ?_
        refine WL.ex rfl (ex_pick_t (v := .bool true) ((show _ = Value.bool (decide (x108 > 999999999)) from rfl).trans (congrArg Value.bool c167)) rfl) ?_
        refine WL.nil ?_
        obtain rfl := Option.some.inj H
        exact ⟨_, HF, hB105, s4_107, s5_107, s6_107, s7_108, s8_109, rfl⟩
      ·
        refine WL.guardYes rfl rfl rfl ((show _ = Value.bool (decide (x108 > 999999999)) from rfl).trans (congrArg Value.bool c167)) ?_
        refine OW.ex rfl (ex_move (v := .int .i64 x109) s8_109) ?_
        refine WL.guardYes rfl rfl rfl ((show _ = Value.bool (decide (x108 > 999999999)) from rfl).trans (congrArg Value.bool c167)) ?_
        refine OW.ex rfl (ex_move (v := encS a0) s0_107) ?_
        refine WL.guardYes rfl rfl rfl ((show _ = Value.bool (decide (x108 > 999999999)) from rfl).trans (congrArg Value.bool c167)) ?_
        refine OW.ex rfl (ex_len_str (s := a0) rfl Tryd.underlying9) ?_
        refine WL.guardYes rfl rfl rfl ((show _ = Value.bool (decide (x108 > 999999999)) from rfl).trans (congrArg Value.bool c167)) ?_
        refine OW.ex rfl (ex_bin (a := .int .i64 x109) (b := .int .i64 (a0.length : Int)) (v := .bool (decide (x109 < (a0.length : Int)))) rfl rfl bin_lss) ?_
        refine WL.guardYes rfl rfl rfl ((show _ = Value.bool (decide (x108 > 999999999)) from rfl).trans (congrArg Value.bool c167)) ?_
        refine OW.ex rfl (ex_move (v := .bool (decide (x109 < (a0.length : Int)))) rfl) ?_
        rcases condE H with ⟨c168, H⟩ | ⟨c168, H⟩
        ·
          refine WL.guardYes rfl rfl rfl ((show _ = Value.bool (decide (x109 < (a0.length : Int))) from rfl).trans (congrArg Value.bool c168)) ?_
          refine OW.ex rfl (ex_move (v := encS a0) s0_107) ?_
          refine WL.guardYes rfl rfl rfl ((show _ = Value.bool (decide (x109 < (a0.length : Int))) from rfl).trans (congrArg Value.bool c168)) ?_
          refine OW.ex rfl (ex_move (v := .int .i64 x109) s8_109) ?_
          refine WL.guardYes rfl rfl rfl ((show _ = Value.bool (decide (x109 < (a0.length : Int))) from rfl).trans (congrArg Value.bool c168)) ?_
          obtain ⟨x169, hx169, H⟩ := bindE H
          refine OW.ex rfl (ex_index_str (i := x109) rfl rfl Tryd.underlying9 (ix_some hx169).1 (ix_some hx169).2.2) ?_
          refine WL.guardYes rfl rfl rfl ((show _ = Value.bool (decide (x109 < (a0.length : Int))) from rfl).trans (congrArg Value.bool c168)) ?_
          obtain ⟨z170, hz170, H⟩ := bindE H
          refine OW.call [enc8 x169] rfl Tryd.func25 (by kernel_rfl) (by kernel_rfl) (map_cons' rfl rfl) (dictumref02_within.calls _ _ x169 z170 (HF.ten (V := [0]) (L := []) rfl)  hz170) ?_
          rintro _ w171 ⟨o172, rfl, s173⟩
          refine ⟨_, rfl, ?_⟩
          replace s173 := un_stepL (J := []) (L' := []) s173 rfl rfl
          replace hB105 := hB105.step s173 rfl
          replace HF := HF.step s173 rfl
          refine WL.guardYes rfl rfl rfl ((show _ = Value.bool (decide (x108 > 999999999)) from rfl).trans (congrArg Value.bool c167)) ?_
          refine OW.ex rfl (ex_pick_t (v := .bool z170) ((show _ = Value.bool (decide (x109 < (a0.length : Int))) from rfl).trans (congrArg Value.bool c168)) rfl) ?_
          refine WL.ex rfl (ex_pick_f (v := .bool z170) ((show _ = Value.bool (decide (x108 > 999999999)) from rfl).trans (congrArg Value.bool c167)) rfl) ?_
          refine WL.nil ?_
          obtain rfl := Option.some.inj H
          exact ⟨_, HF, hB105, s4_107, s5_107, s6_107, s7_108, s8_109, rfl⟩
        ·
          refine WL.guardNo rfl rfl rfl ((show _ = Value.bool (decide (x109 < (a0.length : Int))) from rfl).trans (congrArg Value.bool c168)) ?_
          refine WL.guardNo rfl rfl rfl ((show _ = Value.bool (decide (x109 < (a0.length : Int))) from rfl).trans (congrArg Value.bool c168)) ?_
          refine WL.guardNo rfl rfl rfl ((show _ = Value.bool (decide (x109 < (a0.length : Int))) from rfl).trans (congrArg Value.bool c168)) ?_
          refine WL.guardNo rfl rfl rfl ((show _ = Value.bool (decide (x109 < (a0.length : Int))) from rfl).trans (congrArg Value.bool c168)) ?_
          refine WL.guardYes rfl rfl rfl ((show _ = Value.bool (decide (x108 > 999999999)) from rfl).trans (congrArg Value.bool c167)) ?_
          refine OW.ex rfl (ex_pick_f (v := .bool false) ((show _ = Value.bool (decide (x109 < (a0.length : Int))) from rfl).trans (congrArg Value.bool c168)) rfl) ?_
          refine WL.ex rfl (ex_pick_f (v := .bool false) ((show _ = Value.bool (decide (x108 > 999999999)) from rfl).trans (congrArg Value.bool c167)) rfl) ?_
          refine WL.nil ?_
          obtain rfl := Option.some.inj H
          exact ⟨_, HF, hB105, s4_107, s5_107, s6_107, s7_108, s8_109, rfl⟩
  have Ho112 := H
  rintro k113 ρ114 w115 ⟨o116, x106, x107, HF, hB105, s0_105, s1_105, s4_105, s5_105, s6_105, s7_106, s8_107, H⟩
  cases k113 with
  | zero => cases H
  | succ k113 =>
  rw [dictumref02_number.l1.eq_2] at H
  refine WC.seq ?_
  obtain ⟨z118, hz118, H⟩ := bindE H
  refine WC.cut (fun ρ_ w_ => ∃ (o_ : Tags), Fm o0 w0 o_ w_ [] ∧ Bk o_ w_ 10 b101 [.int .i64 (0 : Int), encS ([] : List UInt8), .int .i64 (0 : Int), .int .i64 (0 : Int), .int .i64 (0 : Int), .int .i64 (0 : Int)] 37 ∧ ρ_ 0 = encS a0 ∧ ρ_ 1 = .int .i64 a1 ∧ ρ_ 4 = .pointer (some ⟨b101, 0, none⟩) ∧ ρ_ 5 = .int .i64 0 ∧ ρ_ 6 = .int .i64 0 ∧ ρ_ 7 = .int .i64 x106 ∧ ρ_ 8 = .int .i64 x107 ∧ ρ_ 19 = .bool z118) ?case119 ?_
  case case119 =>
    rintro ρ122 w120 ⟨o121, HF, hB105, s0_116, s1_116, s4_116, s5_116, s6_116, s7_116, s8_116, s19_117⟩
    rcases condE H with ⟨c123, H⟩ | ⟨c123, H⟩
    ·
      refine WC.cond_t ((show _ = Value.bool z118 from s19_117).trans (congrArg Value.bool c123)) ?_
      refine WC.skip ?_
      refine WC.block ?_
      obtain ⟨z125, hz125, H⟩ := bindE H
      refine WC.cut (fun ρ_ w_ => ∃ (o_ : Tags), Fm o0 w0 o_ w_ [] ∧ Bk o_ w_ 10 b101 [.int .i64 (0 : Int), encS ([] : List UInt8), .int .i64 (0 : Int), .int .i64 (0 : Int), .int .i64 (0 : Int), .int .i64 (0 : Int)] 37 ∧ ρ_ 0 = encS a0 ∧ ρ_ 1 = .int .i64 a1 ∧ ρ_ 4 = .pointer (some ⟨b101, 0, none⟩) ∧ ρ_ 5 = .int .i64 0 ∧ ρ_ 6 = .int .i64 0 ∧ ρ_ 7 = .int .i64 z125 ∧ ρ_ 8 = .int .i64 x107) ?case126 ?_
      case case126 =>
        rintro ρ129 w127 ⟨o128, HF, hB105, s0_123, s1_123, s4_123, s5_123, s6_123, s7_124, s8_124⟩
        refine WC.region ?_
        refine WL.ex rfl (ex_move (v := .int .i64 x107) s8_124) ?_
        refine WL.ex rfl (ex_bin (a := .int .i64 x107) (b := .int .i64 1) (v := .int .i64 (wrap64 (x107 + 1))) rfl rfl bin_add64) ?_
        refine WL.ex rfl (ex_assign (v := .int .i64 (wrap64 (x107 + 1))) rfl) ?_
        refine WL.nil ?_
        exact ⟨k113, Nat.lt_succ_self _, ⟨_, z125, wrap64 (x107 + 1), HF, hB105, s0_123, s1_123, s4_123, s5_123, s6_123, s7_124, rfl, H⟩⟩
      have Ho130 := H
      replace H := hz125
      refine WC.seq ?_
      refine WC.region ?_
      refine WL.ex rfl (ex_move (v := .int .i64 x106) s7_116) ?_
      refine WL.ex rfl (ex_bin (a := .int .i64 x106) (b := .int .i64 999999999) (v := .bool (decide (x106 ≤ 999999999))) rfl rfl bin_leq) ?_
      refine WL.nil ?_
      rcases condE H with ⟨c131, H⟩ | ⟨c131, H⟩
      ·
        refine WC.cond_t ((show _ = Value.bool (decide (x106 ≤ 999999999)) from rfl).trans (congrArg Value.bool c131)) ?_
        refine WC.region ?_
        refine WL.ex rfl (ex_move (v := .int .i64 x106) s7_116) ?_
        refine WL.ex rfl (ex_bin (a := .int .i64 10) (b := .int .i64 x106) (v := .int .i64 (wrap64 (10 * x106))) rfl rfl bin_mul64) ?_
        refine WL.ex rfl (ex_move (v := encS a0) s0_116) ?_
        refine WL.ex rfl (ex_move (v := .int .i64 x107) s8_116) ?_
        obtain ⟨x132, hx132, H⟩ := bindE H
        refine WL.ex rfl (ex_index_str (i := x107) rfl rfl Tryd.underlying9 (ix_some hx132).1 (ix_some hx132).2.2) ?_
        refine WL.ex rfl (ex_bin (a := enc8 x132) (b := enc8 (48 : UInt8)) (v := enc8 (x132 - (48 : UInt8))) rfl rfl bin_sub_u8) ?_
        refine WL.ex rfl (ex_conv_small (a := ((x132 - (48 : UInt8)).toNat : Int)) rfl Tryd.underlying5 Tryd.underlying3 (small8 (x132 - (48 : UInt8)))) ?_
        refine WL.ex rfl (ex_bin (a := .int .i64 (wrap64 (10 * x106))) (b := .int .i64 ((x132 - (48 : UInt8)).toNat : Int)) (v := .int .i64 (wrap64 ((wrap64 (10 * x106)) + ((x132 - (48 : UInt8)).toNat : Int)))) rfl rfl bin_add64) ?_
        refine WL.ex rfl (ex_assign (v := .int .i64 (wrap64 ((wrap64 (10 * x106)) + ((x132 - (48 : UInt8)).toNat : Int)))) rfl) ?_
        refine WL.nil ?_
        obtain rfl := Option.some.inj H
        exact ⟨_, HF, hB105, s0_116, s1_116, s4_116, s5_116, s6_116, rfl, s8_116⟩
      ·
        refine WC.cond_f ((show _ = Value.bool (decide (x106 ≤ 999999999)) from rfl).trans (congrArg Value.bool c131)) ?_
        refine WC.skip ?_
        obtain rfl := Option.some.inj H
        exact ⟨_, HF, hB105, s0_116, s1_116, s4_116, s5_116, s6_116, s7_116, s8_116⟩
    ·
      refine WC.cond_f ((show _ = Value.bool z118 from s19_117).trans (congrArg Value.bool c123)) ?_
      refine WC.exit ?_
      obtain ⟨rfl, rfl⟩ := Prod.mk.inj (Option.some.inj H)
      exact ⟨_, HF, hB105, s0_116, s1_116, s4_116, s5_116, s6_116, s7_116, s8_116⟩
  have Ho133 := H
  replace H := hz118
  refine WC.region ?_
  refine WL.ex rfl (ex_move (v := .int .i64 x107) s8_107) ?_
  refine WL.ex rfl (ex_move (v := encS a0) s0_105) ?_
  refine WL.ex rfl (ex_len_str (s := a0) rfl Tryd.underlying9) ?_
  refine WL.ex rfl (ex_bin (a := .int .i64 x107) (b := .int .i64 (a0.length : Int)) (v := .bool (decide (x107 < (a0.length : Int)))) rfl rfl bin_lss) ?_
  refine WL.ex rfl (ex_move (v := .bool (decide (x107 < (a0.length : Int)))) rfl) ?_
  rcases condE H with ⟨c134, H⟩ | ⟨c134, H⟩
  ·
    refine WL.guardYes rfl rfl rfl ((show _ = Value.bool (decide (x107 < (a0.length : Int))) from rfl).trans (congrArg Value.bool c134)) ?_
    refine OW.ex rfl (ex_move (v := encS a0) s0_105) ?_
    refine WL.guardYes rfl rfl rfl ((show _ = Value.bool (decide (x107 < (a0.length : Int))) from rfl).trans (congrArg Value.bool c134)) ?_
    refine OW.ex rfl (ex_move (v := .int .i64 x107) s8_107) ?_
    refine WL.guardYes rfl rfl rfl ((show _ = Value.bool (decide (x107 < (a0.length : Int))) from rfl).trans (congrArg Value.bool c134)) ?_
    obtain ⟨x135, hx135, H⟩ := bindE H
    refine OW.ex rfl (ex_index_str (i := x107) rfl rfl Tryd.underlying9 (ix_some hx135).1 (ix_some hx135).2.2) ?_
    refine WL.guardYes rfl rfl rfl ((show _ = Value.bool (decide (x107 < (a0.length : Int))) from rfl).trans (congrArg Value.bool c134)) ?_
    obtain ⟨z136, hz136, H⟩ := bindE H
    refine OW.call [enc8 x135] rfl Tryd.func36 (by kernel_rfl) (by kernel_rfl) (map_cons' rfl rfl) (dictumref02_digit.calls _ _ x135 z136 (HF.ten (V := [0]) (L := []) rfl)  hz136) ?_
    rintro _ w137 ⟨o138, rfl, s139⟩
    refine ⟨_, rfl, ?_⟩
    replace s139 := un_stepL (J := []) (L' := []) s139 rfl rfl
    replace hB105 := hB105.step s139 rfl
    replace HF := HF.step s139 rfl
    refine WL.ex rfl (ex_pick_t (v := .bool z136) ((show _ = Value.bool (decide (x107 < (a0.length : Int))) from rfl).trans (congrArg Value.bool c134)) rfl) ?_
    refine WL.nil ?_
    obtain rfl := Option.some.inj H
    exact ⟨_, HF, hB105, s0_105, s1_105, s4_105, s5_105, s6_105, s7_106, s8_107, rfl⟩
  ·
    refine WL.guardNo rfl rfl rfl ((show _ = Value.bool (decide (x107 < (a0.length : Int))) from rfl).trans (congrArg Value.bool c134)) ?_
    refine WL.guardNo rfl rfl rfl ((show _ = Value.bool (decide (x107 < (a0.length : Int))) from rfl).trans (congrArg Value.bool c134)) ?_
    refine WL.guardNo rfl rfl rfl ((show _ = Value.bool (decide (x107 < (a0.length : Int))) from rfl).trans (congrArg Value.bool c134)) ?_
    refine WL.guardNo rfl rfl rfl ((show _ = Value.bool (decide (x107 < (a0.length : Int))) from rfl).trans (congrArg Value.bool c134)) ?_
    refine WL.ex rfl (ex_pick_f (v := .bool false) ((show _ = Value.bool (decide (x107 < (a0.length : Int))) from rfl).trans (congrArg Value.bool c134)) rfl) ?_
    refine WL.nil ?_
    obtain rfl := Option.some.inj H
    exact ⟨_, HF, hB105, s0_105, s1_105, s4_105, s5_105, s6_105, s7_106, s8_107, rfl⟩

/-! ### dictumref02_specials -/
set_option maxRecDepth 100000 in
theorem dictumref02_specials.calls (o0 : Tags) (w0 : World) (r : (List T_dictumref02_special)) (hO : ∀ b, b < w0.heap.size → o0 b < 10) (H : dictumref02_specials.f = some r) :
    Calls Tryd.prog 45 [].toArray w0 fun e_ w_ => ∃ (o_ : Tags) (rv0 : Value), e_ = .returned (one [rv0]) ∧ Step o0 w0 o_ w_ [] ∧ Own T_dictumref02_special.rep 78 9 o_ w_ rv0 r := by
  have HF := Fm.refl hO []
  unfold dictumref02_specials.f at H
  refine SX.calls [] Tryd.func45 rfl rfl ?_
  rw [Tryd.ntmps45]
  refine WC.seq ?_
  refine WC.region ?_
  refine WL.ex rfl (ex_assign (v := .slice none ([] : List T_dictumref02_special).length 0) rfl) ?_
  refine WL.nil ?_
  refine WC.seq ?_
  refine WC.region ?_
  refine WL.ex rfl (ex_assign (v := .int .i64 3) rfl) ?_
  refine WL.nil ?_
  refine WC.seq ?_
  refine WC.region ?_
  refine WL.ex rfl (ex_move (v := .int .i64 3) rfl) ?_
  refine WL.ex rfl (ex_build (cs := [encS ([194, 172] : List UInt8), .int .i64 3, encS ([126] : List UInt8)]) [(0, 1), (1, 1), (2, 1)] [(0, encS ([194, 172] : List UInt8)), (1, .int .i64 3), (2, encS ([126] : List UInt8))] [.string ⟨#[]⟩, .int .i64 0, .string ⟨#[]⟩] Tryd.underlying78 zr78 rfl (by kernel_rfl) (evs_cons rfl (evs_cons rfl (evs_cons rfl rfl))) rfl) ?_
  refine WL.ex rfl (ex_move (v := .int .i64 3) rfl) ?_
  refine WL.ex rfl (ex_build (cs := [encS ([226, 136, 167] : List UInt8), .int .i64 3, encS ([38] : List UInt8)]) [(0, 1), (1, 1), (2, 1)] [(0, encS ([226, 136, 167] : List UInt8)), (1, .int .i64 3), (2, encS ([38] : List UInt8))] [.string ⟨#[]⟩, .int .i64 0, .string ⟨#[]⟩] Tryd.underlying78 zr78 rfl (by kernel_rfl) (evs_cons rfl (evs_cons rfl (evs_cons rfl rfl))) rfl) ?_
  refine WL.ex rfl (ex_move (v := .int .i64 3) rfl) ?_
  refine WL.ex rfl (ex_build (cs := [encS ([226, 136, 168] : List UInt8), .int .i64 3, encS ([124] : List UInt8)]) [(0, 1), (1, 1), (2, 1)] [(0, encS ([226, 136, 168] : List UInt8)), (1, .int .i64 3), (2, encS ([124] : List UInt8))] [.string ⟨#[]⟩, .int .i64 0, .string ⟨#[]⟩] Tryd.underlying78 zr78 rfl (by kernel_rfl) (evs_cons rfl (evs_cons rfl (evs_cons rfl rfl))) rfl) ?_
  refine WL.ex rfl (ex_move (v := .int .i64 3) rfl) ?_
  refine WL.ex rfl (ex_build (cs := [encS ([226, 134, 146] : List UInt8), .int .i64 3, encS ([45, 62] : List UInt8)]) [(0, 1), (1, 1), (2, 1)] [(0, encS ([226, 134, 146] : List UInt8)), (1, .int .i64 3), (2, encS ([45, 62] : List UInt8))] [.string ⟨#[]⟩, .int .i64 0, .string ⟨#[]⟩] Tryd.underlying78 zr78 rfl (by kernel_rfl) (evs_cons rfl (evs_cons rfl (evs_cons rfl rfl))) rfl) ?_
  refine WL.ex rfl (ex_move (v := .int .i64 3) rfl) ?_
  refine WL.ex rfl (ex_build (cs := [encS ([226, 134, 148] : List UInt8), .int .i64 3, encS ([60, 45, 62] : List UInt8)]) [(0, 1), (1, 1), (2, 1)] [(0, encS ([226, 134, 148] : List UInt8)), (1, .int .i64 3), (2, encS ([60, 45, 62] : List UInt8))] [.string ⟨#[]⟩, .int .i64 0, .string ⟨#[]⟩] Tryd.underlying78 zr78 rfl (by kernel_rfl) (evs_cons rfl (evs_cons rfl (evs_cons rfl rfl))) rfl) ?_
  refine WL.ex rfl (ex_move (v := .int .i64 3) rfl) ?_
  refine WL.ex rfl (ex_build (cs := [encS ([226, 138, 162] : List UInt8), .int .i64 3, encS ([124, 45] : List UInt8)]) [(0, 1), (1, 1), (2, 1)] [(0, encS ([226, 138, 162] : List UInt8)), (1, .int .i64 3), (2, encS ([124, 45] : List UInt8))] [.string ⟨#[]⟩, .int .i64 0, .string ⟨#[]⟩] Tryd.underlying78 zr78 rfl (by kernel_rfl) (evs_cons rfl (evs_cons rfl (evs_cons rfl rfl))) rfl) ?_
  refine WL.ex rfl (ex_move (v := .int .i64 3) rfl) ?_
  refine WL.ex rfl (ex_build (cs := [encS ([226, 137, 164] : List UInt8), .int .i64 3, encS ([60, 61] : List UInt8)]) [(0, 1), (1, 1), (2, 1)] [(0, encS ([226, 137, 164] : List UInt8)), (1, .int .i64 3), (2, encS ([60, 61] : List UInt8))] [.string ⟨#[]⟩, .int .i64 0, .string ⟨#[]⟩] Tryd.underlying78 zr78 rfl (by kernel_rfl) (evs_cons rfl (evs_cons rfl (evs_cons rfl rfl))) rfl) ?_
  refine WL.ex rfl (ex_build (cs := [encS ([226, 138, 164] : List UInt8), .int .i64 1, encS ([116, 114, 117, 101] : List UInt8)]) [(0, 1), (1, 1), (2, 1)] [(0, encS ([226, 138, 164] : List UInt8)), (1, .int .i64 1), (2, encS ([116, 114, 117, 101] : List UInt8))] [.string ⟨#[]⟩, .int .i64 0, .string ⟨#[]⟩] Tryd.underlying78 zr78 rfl (by kernel_rfl) (evs_cons rfl (evs_cons rfl (evs_cons rfl rfl))) rfl) ?_
  refine WL.ex rfl (ex_build (cs := [encS ([226, 138, 165] : List UInt8), .int .i64 1, encS ([102, 97, 108, 115, 101] : List UInt8)]) [(0, 1), (1, 1), (2, 1)] [(0, encS ([226, 138, 165] : List UInt8)), (1, .int .i64 1), (2, encS ([102, 97, 108, 115, 101] : List UInt8))] [.string ⟨#[]⟩, .int .i64 0, .string ⟨#[]⟩] Tryd.underlying78 zr78 rfl (by kernel_rfl) (evs_cons rfl (evs_cons rfl (evs_cons rfl rfl))) rfl) ?_
  refine WL.op rfl ?_
  refine OW.row (r := T_dictumref02_special.rep) (xs := [(⟨([194, 172] : List UInt8), 3, ([126] : List UInt8)⟩ : T_dictumref02_special), (⟨([226, 136, 167] : List UInt8), 3, ([38] : List UInt8)⟩ : T_dictumref02_special), (⟨([226, 136, 168] : List UInt8), 3, ([124] : List UInt8)⟩ : T_dictumref02_special), (⟨([226, 134, 146] : List UInt8), 3, ([45, 62] : List UInt8)⟩ : T_dictumref02_special), (⟨([226, 134, 148] : List UInt8), 3, ([60, 45, 62] : List UInt8)⟩ : T_dictumref02_special), (⟨([226, 138, 162] : List UInt8), 3, ([124, 45] : List UInt8)⟩ : T_dictumref02_special), (⟨([226, 137, 164] : List UInt8), 3, ([60, 61] : List UInt8)⟩ : T_dictumref02_special), (⟨([226, 138, 164] : List UInt8), 1, ([116, 114, 117, 101] : List UInt8)⟩ : T_dictumref02_special), (⟨([226, 138, 165] : List UInt8), 1, ([102, 97, 108, 115, 101] : List UInt8)⟩ : T_dictumref02_special)]) [(0, .agg #[encS ([194, 172] : List UInt8), .int .i64 3, encS ([126] : List UInt8)]), (1, .agg #[encS ([226, 136, 167] : List UInt8), .int .i64 3, encS ([38] : List UInt8)]), (2, .agg #[encS ([226, 136, 168] : List UInt8), .int .i64 3, encS ([124] : List UInt8)]), (3, .agg #[encS ([226, 134, 146] : List UInt8), .int .i64 3, encS ([45, 62] : List UInt8)]), (4, .agg #[encS ([226, 134, 148] : List UInt8), .int .i64 3, encS ([60, 45, 62] : List UInt8)]), (5, .agg #[encS ([226, 138, 162] : List UInt8), .int .i64 3, encS ([124, 45] : List UInt8)]), (6, .agg #[encS ([226, 137, 164] : List UInt8), .int .i64 3, encS ([60, 61] : List UInt8)]), (7, .agg #[encS ([226, 138, 164] : List UInt8), .int .i64 1, encS ([116, 114, 117, 101] : List UInt8)]), (8, .agg #[encS ([226, 138, 165] : List UInt8), .int .i64 1, encS ([102, 97, 108, 115, 101] : List UInt8)])] [[encS ([194, 172] : List UInt8), .int .i64 3, encS ([126] : List UInt8)], [encS ([226, 136, 167] : List UInt8), .int .i64 3, encS ([38] : List UInt8)], [encS ([226, 136, 168] : List UInt8), .int .i64 3, encS ([124] : List UInt8)], [encS ([226, 134, 146] : List UInt8), .int .i64 3, encS ([45, 62] : List UInt8)], [encS ([226, 134, 148] : List UInt8), .int .i64 3, encS ([60, 45, 62] : List UInt8)], [encS ([226, 138, 162] : List UInt8), .int .i64 3, encS ([124, 45] : List UInt8)], [encS ([226, 137, 164] : List UInt8), .int .i64 3, encS ([60, 61] : List UInt8)], [encS ([226, 138, 164] : List UInt8), .int .i64 1, encS ([116, 114, 117, 101] : List UInt8)], [encS ([226, 138, 165] : List UInt8), .int .i64 1, encS ([102, 97, 108, 115, 101] : List UInt8)]] 10 HF rfl Tryd.underlying74 sz78 zr78 rfl (evs_cons rfl (evs_cons rfl (evs_cons rfl (evs_cons rfl (evs_cons rfl (evs_cons rfl (evs_cons rfl (evs_cons rfl (evs_cons rfl rfl))))))))) rfl rfl ⟨(T_dictumref02_special.mk' (⟨([194, 172] : List UInt8), 3, ([126] : List UInt8)⟩ : T_dictumref02_special) ), (T_dictumref02_special.mk' (⟨([226, 136, 167] : List UInt8), 3, ([38] : List UInt8)⟩ : T_dictumref02_special) ), (T_dictumref02_special.mk' (⟨([226, 136, 168] : List UInt8), 3, ([124] : List UInt8)⟩ : T_dictumref02_special) ), (T_dictumref02_special.mk' (⟨([226, 134, 146] : List UInt8), 3, ([45, 62] : List UInt8)⟩ : T_dictumref02_special) ), (T_dictumref02_special.mk' (⟨([226, 134, 148] : List UInt8), 3, ([60, 45, 62] : List UInt8)⟩ : T_dictumref02_special) ), (T_dictumref02_special.mk' (⟨([226, 138, 162] : List UInt8), 3, ([124, 45] : List UInt8)⟩ : T_dictumref02_special) ), (T_dictumref02_special.mk' (⟨([226, 137, 164] : List UInt8), 3, ([60, 61] : List UInt8)⟩ : T_dictumref02_special) ), (T_dictumref02_special.mk' (⟨([226, 138, 164] : List UInt8), 1, ([116, 114, 117, 101] : List UInt8)⟩ : T_dictumref02_special) ), (T_dictumref02_special.mk' (⟨([226, 138, 165] : List UInt8), 1, ([102, 97, 108, 115, 101] : List UInt8)⟩ : T_dictumref02_special) ), trivial⟩ rfl rfl rfl rfl ?_
  intro o101 w102 v104 s103 hO105
  replace HF := HF.step s103 rfl
  refine WL.ex rfl (ex_assign (v := v104) rfl) ?_
  refine WL.nil ?_
  refine WC.ret ?_
  obtain rfl := Option.some.inj H
  replace hO105 := Own.renTo (j := 9) hO105 rfl
  replace HF := HF.ren (i := 10) (j := 9) rfl
  exact ⟨_, (.tmp (v104 : Value) rfl .nil), _, v104, rfl, HF.out, hO105⟩

/-! ### dictumref02_at -/
set_option maxRecDepth 100000 in
theorem dictumref02_at.calls (o0 : Tags) (w0 : World) (a0 : List UInt8) (a1 : Int) (a2 : List UInt8) (r : Bool) (hO : ∀ b, b < w0.heap.size → o0 b < 10) (H : dictumref02_at.f a0 a1 a2 = some r) :
    Calls Tryd.prog 46 [encS a0, .int .i64 a1, encS a2].toArray w0 fun e_ w_ => ∃ (o_ : Tags), e_ = .returned (one [.bool r]) ∧ Step o0 w0 o_ w_ [] := by
  have HF := Fm.refl hO []
  unfold dictumref02_at.f at H
  refine SX.calls [encS a0, .int .i64 a1, encS a2] Tryd.func46 rfl rfl ?_
  rw [Tryd.ntmps46]
  refine WC.seq ?_
  refine WC.region ?_
  refine WL.ex rfl (ex_assign (v := .bool false) rfl) ?_
  refine WL.nil ?_
  refine WC.seq ?_
  refine WC.region ?_
  refine WL.ex rfl (ex_move (v := encS a0) rfl) ?_
  refine WL.ex rfl (ex_len_str (s := a0) rfl Tryd.underlying9) ?_
  refine WL.ex rfl (ex_move (v := .int .i64 a1) rfl) ?_
  refine WL.ex rfl (ex_bin (a := .int .i64 (a0.length : Int)) (b := .int .i64 a1) (v := .int .i64 (wrap64 ((a0.length : Int) - a1))) rfl rfl bin_sub64) ?_
  refine WL.ex rfl (ex_move (v := encS a2) rfl) ?_
  refine WL.ex rfl (ex_len_str (s := a2) rfl Tryd.underlying9) ?_
  refine WL.ex rfl (ex_bin (a := .int .i64 (wrap64 ((a0.length : Int) - a1))) (b := .int .i64 (a2.length : Int)) (v := .bool (decide ((wrap64 ((a0.length : Int) - a1)) ≥ (a2.length : Int)))) rfl rfl bin_geq) ?_
  refine WL.ex rfl (ex_move (v := .bool (decide ((wrap64 ((a0.length : Int) - a1)) ≥ (a2.length : Int)))) rfl) ?_
  rcases condE H with ⟨c101, H⟩ | ⟨c101, H⟩
  ·
    refine WL.guardYes rfl rfl rfl ((show _ = Value.bool (decide ((wrap64 ((a0.length : Int) - a1)) ≥ (a2.length : Int))) from rfl).trans (congrArg Value.bool c101)) ?_
    refine OW.ex rfl (ex_move (v := encS a0) rfl) ?_
    refine WL.guardYes rfl rfl rfl ((show _ = Value.bool (decide ((wrap64 ((a0.length : Int) - a1)) ≥ (a2.length : Int))) from rfl).trans (congrArg Value.bool c101)) ?_
    refine OW.ex rfl (ex_move (v := .int .i64 a1) rfl) ?_
    refine WL.guardYes rfl rfl rfl ((show _ = Value.bool (decide ((wrap64 ((a0.length : Int) - a1)) ≥ (a2.length : Int))) from rfl).trans (congrArg Value.bool c101)) ?_
    refine OW.ex rfl (ex_move (v := .int .i64 a1) rfl) ?_
    refine WL.guardYes rfl rfl rfl ((show _ = Value.bool (decide ((wrap64 ((a0.length : Int) - a1)) ≥ (a2.length : Int))) from rfl).trans (congrArg Value.bool c101)) ?_
    refine OW.ex rfl (ex_move (v := encS a2) rfl) ?_
    refine WL.guardYes rfl rfl rfl ((show _ = Value.bool (decide ((wrap64 ((a0.length : Int) - a1)) ≥ (a2.length : Int))) from rfl).trans (congrArg Value.bool c101)) ?_
    refine OW.ex rfl (ex_len_str (s := a2) rfl Tryd.underlying9) ?_
    refine WL.guardYes rfl rfl rfl ((show _ = Value.bool (decide ((wrap64 ((a0.length : Int) - a1)) ≥ (a2.length : Int))) from rfl).trans (congrArg Value.bool c101)) ?_
    refine OW.ex rfl (ex_bin (a := .int .i64 a1) (b := .int .i64 (a2.length : Int)) (v := .int .i64 (wrap64 (a1 + (a2.length : Int)))) rfl rfl bin_add64) ?_
    refine WL.guardYes rfl rfl rfl ((show _ = Value.bool (decide ((wrap64 ((a0.length : Int) - a1)) ≥ (a2.length : Int))) from rfl).trans (congrArg Value.bool c101)) ?_
    obtain ⟨y102, hy102, H⟩ := bindE H
    refine OW.ex rfl (ex_slice_str (l := a1) (h := (wrap64 (a1 + (a2.length : Int)))) rfl Tryd.underlying9 ⟨_, rfl⟩ ⟨_, rfl⟩ hy102) ?_
    refine WL.guardYes rfl rfl rfl ((show _ = Value.bool (decide ((wrap64 ((a0.length : Int) - a1)) ≥ (a2.length : Int))) from rfl).trans (congrArg Value.bool c101)) ?_
    refine OW.ex rfl (ex_move (v := encS a2) rfl) ?_
    refine WL.guardYes rfl rfl rfl ((show _ = Value.bool (decide ((wrap64 ((a0.length : Int) - a1)) ≥ (a2.length : Int))) from rfl).trans (congrArg Value.bool c101)) ?_
    refine OW.ex rfl (ex_bin (a := encS y102) (b := encS a2) (v := .bool (y102 == a2)) rfl rfl bin_eql_str) ?_
    refine WL.ex rfl (ex_pick_t (v := .bool (y102 == a2)) ((show _ = Value.bool (decide ((wrap64 ((a0.length : Int) - a1)) ≥ (a2.length : Int))) from rfl).trans (congrArg Value.bool c101)) rfl) ?_
    refine WL.ex rfl (ex_assign (v := .bool (y102 == a2)) rfl) ?_
    refine WL.nil ?_
    refine WC.ret ?_
    obtain rfl := Option.some.inj H
    exact ⟨_, (.tmp (.bool (y102 == a2) : Value) rfl .nil), _, rfl, HF.out⟩
  ·
    refine WL.guardNo rfl rfl rfl ((show _ = Value.bool (decide ((wrap64 ((a0.length : Int) - a1)) ≥ (a2.length : Int))) from rfl).trans (congrArg Value.bool c101)) ?_
    refine WL.guardNo rfl rfl rfl ((show _ = Value.bool (decide ((wrap64 ((a0.length : Int) - a1)) ≥ (a2.length : Int))) from rfl).trans (congrArg Value.bool c101)) ?_
    refine WL.guardNo rfl rfl rfl ((show _ = Value.bool (decide ((wrap64 ((a0.length : Int) - a1)) ≥ (a2.length : Int))) from rfl).trans (congrArg Value.bool c101)) ?_
    refine WL.guardNo rfl rfl rfl ((show _ = Value.bool (decide ((wrap64 ((a0.length : Int) - a1)) ≥ (a2.length : Int))) from rfl).trans (congrArg Value.bool c101)) ?_
    refine WL.guardNo rfl rfl rfl ((show _ = Value.bool (decide ((wrap64 ((a0.length : Int) - a1)) ≥ (a2.length : Int))) from rfl).trans (congrArg Value.bool c101)) ?_
    refine WL.guardNo rfl rfl rfl ((show _ = Value.bool (decide ((wrap64 ((a0.length : Int) - a1)) ≥ (a2.length : Int))) from rfl).trans (congrArg Value.bool c101)) ?_
    refine WL.guardNo rfl rfl rfl ((show _ = Value.bool (decide ((wrap64 ((a0.length : Int) - a1)) ≥ (a2.length : Int))) from rfl).trans (congrArg Value.bool c101)) ?_
    refine WL.guardNo rfl rfl rfl ((show _ = Value.bool (decide ((wrap64 ((a0.length : Int) - a1)) ≥ (a2.length : Int))) from rfl).trans (congrArg Value.bool c101)) ?_
    refine WL.guardNo rfl rfl rfl ((show _ = Value.bool (decide ((wrap64 ((a0.length : Int) - a1)) ≥ (a2.length : Int))) from rfl).trans (congrArg Value.bool c101)) ?_
    refine WL.ex rfl (ex_pick_f (v := .bool false) ((show _ = Value.bool (decide ((wrap64 ((a0.length : Int) - a1)) ≥ (a2.length : Int))) from rfl).trans (congrArg Value.bool c101)) rfl) ?_
    refine WL.ex rfl (ex_assign (v := .bool false) rfl) ?_
    refine WL.nil ?_
    refine WC.ret ?_
    obtain rfl := Option.some.inj H
    exact ⟨_, (.tmp (.bool false : Value) rfl .nil), _, rfl, HF.out⟩

/-! ### dictumref02_Signs -/
set_option maxRecDepth 100000 in
theorem dictumref02_Signs.calls (o0 : Tags) (w0 : World) (r : (List (List UInt8))) (hO : ∀ b, b < w0.heap.size → o0 b < 10) (H : dictumref02_Signs.f = some r) :
    Calls Tryd.prog 47 [].toArray w0 fun e_ w_ => ∃ (o_ : Tags) (rv0 : Value), e_ = .returned (one [rv0]) ∧ Step o0 w0 o_ w_ [] ∧ Own Rep.str 9 9 o_ w_ rv0 r := by
  have HF := Fm.refl hO []
  unfold dictumref02_Signs.f at H
  refine SX.calls [] Tryd.func47 rfl rfl ?_
  rw [Tryd.ntmps47]
  refine WC.seq ?_
  refine WC.region ?_
  refine WL.ex rfl (ex_assign (v := .slice none ([] : List (List UInt8)).length 0) rfl) ?_
  refine WL.nil ?_
  refine WC.seq ?_
  refine WC.region ?_
  refine WL.op rfl ?_
  refine OW.row (r := Rep.str) (xs := [([60, 45, 62] : List UInt8), ([60, 61] : List UInt8), ([61, 62] : List UInt8), ([45, 62] : List UInt8), ([124, 45] : List UInt8), ([126] : List UInt8), ([38] : List UInt8), ([124] : List UInt8), ([40] : List UInt8), ([41] : List UInt8), ([91] : List UInt8), ([93] : List UInt8), ([123] : List UInt8), ([125] : List UInt8), ([44] : List UInt8), ([46] : List UInt8), ([58] : List UInt8), ([59] : List UInt8), ([61] : List UInt8), ([47] : List UInt8)]) [(0, encS ([60, 45, 62] : List UInt8)), (1, encS ([60, 61] : List UInt8)), (2, encS ([61, 62] : List UInt8)), (3, encS ([45, 62] : List UInt8)), (4, encS ([124, 45] : List UInt8)), (5, encS ([126] : List UInt8)), (6, encS ([38] : List UInt8)), (7, encS ([124] : List UInt8)), (8, encS ([40] : List UInt8)), (9, encS ([41] : List UInt8)), (10, encS ([91] : List UInt8)), (11, encS ([93] : List UInt8)), (12, encS ([123] : List UInt8)), (13, encS ([125] : List UInt8)), (14, encS ([44] : List UInt8)), (15, encS ([46] : List UInt8)), (16, encS ([58] : List UInt8)), (17, encS ([59] : List UInt8)), (18, encS ([61] : List UInt8)), (19, encS ([47] : List UInt8))] [[encS ([60, 45, 62] : List UInt8)], [encS ([60, 61] : List UInt8)], [encS ([61, 62] : List UInt8)], [encS ([45, 62] : List UInt8)], [encS ([124, 45] : List UInt8)], [encS ([126] : List UInt8)], [encS ([38] : List UInt8)], [encS ([124] : List UInt8)], [encS ([40] : List UInt8)], [encS ([41] : List UInt8)], [encS ([91] : List UInt8)], [encS ([93] : List UInt8)], [encS ([123] : List UInt8)], [encS ([125] : List UInt8)], [encS ([44] : List UInt8)], [encS ([46] : List UInt8)], [encS ([58] : List UInt8)], [encS ([59] : List UInt8)], [encS ([61] : List UInt8)], [encS ([47] : List UInt8)]] 10 HF rfl Tryd.underlying49 sz9 zr9 rfl (evs_cons rfl (evs_cons rfl (evs_cons rfl (evs_cons rfl (evs_cons rfl (evs_cons rfl (evs_cons rfl (evs_cons rfl (evs_cons rfl (evs_cons rfl (evs_cons rfl (evs_cons rfl (evs_cons rfl (evs_cons rfl (evs_cons rfl (evs_cons rfl (evs_cons rfl (evs_cons rfl (evs_cons rfl (evs_cons rfl rfl)))))))))))))))))))) rfl rfl ⟨rfl, rfl, rfl, rfl, rfl, rfl, rfl, rfl, rfl, rfl, rfl, rfl, rfl, rfl, rfl, rfl, rfl, rfl, rfl, rfl, trivial⟩ rfl rfl rfl rfl ?_
  intro o101 w102 v104 s103 hO105
  replace HF := HF.step s103 rfl
  refine WL.ex rfl (ex_assign (v := v104) rfl) ?_
  refine WL.nil ?_
  refine WC.ret ?_
  obtain rfl := Option.some.inj H
  replace hO105 := Own.renTo (j := 9) hO105 rfl
  replace HF := HF.ren (i := 10) (j := 9) rfl
  exact ⟨_, (.tmp (v104 : Value) rfl .nil), _, v104, rfl, HF.out, hO105⟩

/-! ### dictumref02_one -/
set_option maxRecDepth 100000 in
theorem dictumref02_one.calls (k : Nat) (o0 : Tags) (w0 : World) (a0 : List UInt8) (a1 : Int) (r : T_api_Token × Int × Int) (hO : ∀ b, b < w0.heap.size → o0 b < 10) (H : dictumref02_one.f k a0 a1 = some r) :
    Calls Tryd.prog 31 [encS a0, .int .i64 a1].toArray w0 fun e_ w_ => ∃ (o_ : Tags), e_ = .returned (one [.agg #[.int .i64 r.1.f_Kind, encS r.1.f_Text, .int .i64 r.1.f_Int, .int .i64 r.1.f_At.f_Line, .int .i64 r.1.f_At.f_Col, .int .i64 r.1.f_At.f_Off], .int .i64 r.2.1, .int .i64 r.2.2]) ∧ Step o0 w0 o_ w_ [] := by
  have HF := Fm.refl hO []
  unfold dictumref02_one.f at H
  refine SX.calls [encS a0, .int .i64 a1] Tryd.func31 rfl rfl ?_
  rw [Tryd.ntmps31]
  refine WC.seq ?_
  refine WC.region ?_
  refine WL.op rfl ?_
  refine OW.alloc' [.int .i64 (0 : Int), encS ([] : List UInt8), .int .i64 (0 : Int), .int .i64 (0 : Int), .int .i64 (0 : Int), .int .i64 (0 : Int)] 10 HF rfl zr37 rfl ?_
  intro o102 w103 b101 s104 hB105
  replace HF := HF.step s104 rfl
  refine WL.ex rfl (ex_assign (v := .int .i64 0) rfl) ?_
  refine WL.ex rfl (ex_assign (v := .int .i64 0) rfl) ?_
  refine WL.nil ?_
  refine WC.seq ?_
  refine WC.seq ?_
  refine WC.region ?_
  refine WL.ex rfl (ex_move (v := .int .i64 a1) rfl) ?_
  refine WL.ex rfl (ex_move (v := encS a0) rfl) ?_
  refine WL.ex rfl (ex_len_str (s := a0) rfl Tryd.underlying9) ?_
  refine WL.ex rfl (ex_bin (a := .int .i64 a1) (b := .int .i64 (a0.length : Int)) (v := .bool (decide (a1 ≥ (a0.length : Int)))) rfl rfl bin_geq) ?_
  refine WL.nil ?_
  rcases condE H with ⟨c106, H⟩ | ⟨c106, H⟩
  ·
    refine WC.cond_t ((show _ = Value.bool (decide (a1 ≥ (a0.length : Int))) from rfl).trans (congrArg Value.bool c106)) ?_
    refine WC.seq ?_
    refine WC.region ?_
    refine WL.ex rfl (ex_build (cs := [.int .i64 (0 : Int), encS ([] : List UInt8), .int .i64 (0 : Int), .int .i64 (0 : Int), .int .i64 (0 : Int), .int .i64 (0 : Int)]) [(0, 1), (1, 1), (2, 1), (3, 3)] [] [.int .i64 0, .string ⟨#[]⟩, .int .i64 0, .int .i64 0, .int .i64 0, .int .i64 0] Tryd.underlying37 zr37 rfl (by kernel_rfl) rfl rfl) ?_
    refine WL.ex rfl (ex_move (v := .int .i64 a1) rfl) ?_
    refine WL.op rfl ?_
    refine OW.store [.int .i64 (0 : Int), encS ([] : List UInt8), .int .i64 (0 : Int), .int .i64 (0 : Int), .int .i64 (0 : Int), .int .i64 (0 : Int)] rfl (vs := [.int .i64 (0 : Int), encS ([] : List UInt8), .int .i64 (0 : Int), .int .i64 (0 : Int), .int .i64 (0 : Int), .int .i64 (0 : Int)]) ((congrArg Value.cells (show ev _ _ = (.agg #[.int .i64 (0 : Int), encS ([] : List UInt8), .int .i64 (0 : Int), .int .i64 (0 : Int), .int .i64 (0 : Int), .int .i64 (0 : Int)] : Value) from rfl)).trans rfl) sz37 hB105 (Nat.le_of_ble_eq_true rfl) (by intro u_ hu_; simp only [List.mem_cons, List.not_mem_nil, or_false] at hu_; rcases hu_ with rfl | rfl | rfl | rfl | rfl | rfl <;> first | rfl) rfl ?_
    intro w107 s108 hB109
    replace HF := HF.step s108 rfl
    refine WL.ex rfl (ex_assign (v := .int .i64 a1) rfl) ?_
    refine WL.ex rfl (ex_assign (v := .int .i64 0) rfl) ?_
    refine WL.nil ?_
    refine WC.ret ?_
    obtain rfl := Option.some.inj H
    exact ⟨_, (.cell (.agg #[.int .i64 (0 : Int), encS ([] : List UInt8), .int .i64 (0 : Int), .int .i64 (0 : Int), .int .i64 (0 : Int), .int .i64 (0 : Int)] : Value) rfl (run_loadN (cs := [.int .i64 (0 : Int), encS ([] : List UInt8), .int .i64 (0 : Int), .int .i64 (0 : Int), .int .i64 (0 : Int), .int .i64 (0 : Int)]) Tryd.underlying37 rfl sz37 (hB109.cells rfl)) (.tmp (.int .i64 a1 : Value) rfl (.tmp (.int .i64 0 : Value) rfl .nil))), _, rfl, HF.out⟩
  ·
    refine WC.cond_f ((show _ = Value.bool (decide (a1 ≥ (a0.length : Int))) from rfl).trans (congrArg Value.bool c106)) ?_
    refine WC.skip ?_
    refine WC.seq ?_
    refine WC.seq ?_
    refine WC.region ?_
    refine WL.ex rfl (ex_move (v := encS a0) rfl) ?_
    refine WL.ex rfl (ex_move (v := .int .i64 a1) rfl) ?_
    obtain ⟨x110, hx110, H⟩ := bindE H
    refine WL.ex rfl (ex_index_str (i := a1) rfl rfl Tryd.underlying9 (ix_some hx110).1 (ix_some hx110).2.2) ?_
    obtain ⟨z111, hz111, H⟩ := bindE H
    refine WL.op rfl ?_
    refine OW.call [enc8 x110] rfl Tryd.func24 (by kernel_rfl) (by kernel_rfl) (map_cons' rfl rfl) (dictumref02_letter.calls _ _ x110 z111 (HF.ten (V := [0]) (L := []) rfl)  hz111) ?_
    rintro _ w112 ⟨o113, rfl, s114⟩
    refine ⟨_, rfl, ?_⟩
    replace s114 := un_stepL (J := []) (L' := []) s114 rfl rfl
    replace hB105 := hB105.step s114 rfl
    replace HF := HF.step s114 rfl
    refine WL.nil ?_
    rcases condE H with ⟨c115, H⟩ | ⟨c115, H⟩
    ·
      refine WC.cond_t ((show _ = Value.bool z111 from rfl).trans (congrArg Value.bool c115)) ?_
      refine WC.seq ?_
      refine WC.region ?_
      refine WL.ex rfl (ex_move (v := .int .i64 a1) rfl) ?_
      refine WL.ex rfl (ex_assign (v := .int .i64 a1) rfl) ?_
      refine WL.nil ?_
      refine WC.seq ?_
      obtain ⟨z118, hz118, H⟩ := bindE H
      refine WC.for (fun k_ ρ_ w_ => ∃ (o_ : Tags) (x116 : Int), Fm o0 w0 o_ w_ [] ∧ Bk o_ w_ 10 b101 [.int .i64 (0 : Int), encS ([] : List UInt8), .int .i64 (0 : Int), .int .i64 (0 : Int), .int .i64 (0 : Int), .int .i64 (0 : Int)] 37 ∧ ρ_ 0 = encS a0 ∧ ρ_ 1 = .int .i64 a1 ∧ ρ_ 4 = .pointer (some ⟨b101, 0, none⟩) ∧ ρ_ 5 = .int .i64 0 ∧ ρ_ 6 = .int .i64 0 ∧ ρ_ 7 = .int .i64 x116 ∧ dictumref02_one.l1 k a0 k_ x116 = some z118) k (fun ρ_ w_ => ∃ (o_ : Tags), Fm o0 w0 o_ w_ [] ∧ Bk o_ w_ 10 b101 [.int .i64 (0 : Int), encS ([] : List UInt8), .int .i64 (0 : Int), .int .i64 (0 : Int), .int .i64 (0 : Int), .int .i64 (0 : Int)] 37 ∧ ρ_ 0 = encS a0 ∧ ρ_ 1 = .int .i64 a1 ∧ ρ_ 4 = .pointer (some ⟨b101, 0, none⟩) ∧ ρ_ 5 = .int .i64 0 ∧ ρ_ 6 = .int .i64 0 ∧ ρ_ 7 = .int .i64 z118) ⟨_, a1, HF, hB105, rfl, rfl, rfl, rfl, rfl, rfl, hz118⟩ ?case119 ?_
      case case119 =>
        rintro ρ141 w139 ⟨o140, HF, hB105, s0_116, s1_116, s4_116, s5_116, s6_116, s7_117⟩
        refine WC.seq ?_
        refine WC.seq ?_
        refine WC.region ?_
        refine WL.ex rfl (ex_move (v := .int .i64 z118) s7_117) ?_
        refine WL.ex rfl (ex_move (v := .int .i64 a1) s1_116) ?_
        refine WL.ex rfl (ex_bin (a := .int .i64 z118) (b := .int .i64 a1) (v := .int .i64 (wrap64 (z118 - a1))) rfl rfl bin_sub64) ?_
        refine WL.ex rfl (ex_bin (a := .int .i64 (wrap64 (z118 - a1))) (b := .int .i64 31) (v := .bool (decide ((wrap64 (z118 - a1)) > 31))) rfl rfl bin_gtr) ?_
        refine WL.nil ?_
        rcases condE H with ⟨c142, H⟩ | ⟨c142, H⟩
        ·
          refine WC.cond_t ((show _ = Value.bool (decide ((wrap64 (z118 - a1)) > 31)) from rfl).trans (congrArg Value.bool c142)) ?_
          refine WC.seq ?_
          refine WC.region ?_
          refine WL.ex rfl (ex_build (cs := [.int .i64 (0 : Int), encS ([] : List UInt8), .int .i64 (0 : Int), .int .i64 (0 : Int), .int .i64 (0 : Int), .int .i64 (0 : Int)]) [(0, 1), (1, 1), (2, 1), (3, 3)] [] [.int .i64 0, .string ⟨#[]⟩, .int .i64 0, .int .i64 0, .int .i64 0, .int .i64 0] Tryd.underlying37 zr37 rfl (by kernel_rfl) rfl rfl) ?_
          refine WL.ex rfl (ex_move (v := .int .i64 z118) s7_117) ?_
          refine WL.op rfl ?_
          refine OW.store [.int .i64 (0 : Int), encS ([] : List UInt8), .int .i64 (0 : Int), .int .i64 (0 : Int), .int .i64 (0 : Int), .int .i64 (0 : Int)] s4_116 (vs := [.int .i64 (0 : Int), encS ([] : List UInt8), .int .i64 (0 : Int), .int .i64 (0 : Int), .int .i64 (0 : Int), .int .i64 (0 : Int)]) ((congrArg Value.cells (show ev _ _ = (.agg #[.int .i64 (0 : Int), encS ([] : List UInt8), .int .i64 (0 : Int), .int .i64 (0 : Int), .int .i64 (0 : Int), .int .i64 (0 : Int)] : Value) from rfl)).trans rfl) sz37 hB105 (Nat.le_of_ble_eq_true rfl) (by intro u_ hu_; simp only [List.mem_cons, List.not_mem_nil, or_false] at hu_; rcases hu_ with rfl | rfl | rfl | rfl | rfl | rfl <;> first | rfl) rfl ?_
          intro w143 s144 hB145
          replace HF := HF.step s144 rfl
          refine WL.ex rfl (ex_assign (v := .int .i64 z118) rfl) ?_
          refine WL.ex rfl (ex_assign (v := .int .i64 22) rfl) ?_
          refine WL.nil ?_
          refine WC.ret ?_
          obtain rfl := Option.some.inj H
          exact ⟨_, (.cell (.agg #[.int .i64 (0 : Int), encS ([] : List UInt8), .int .i64 (0 : Int), .int .i64 (0 : Int), .int .i64 (0 : Int), .int .i64 (0 : Int)] : Value) s4_116 (run_loadN (cs := [.int .i64 (0 : Int), encS ([] : List UInt8), .int .i64 (0 : Int), .int .i64 (0 : Int), .int .i64 (0 : Int), .int .i64 (0 : Int)]) Tryd.underlying37 rfl sz37 (hB145.cells rfl)) (.tmp (.int .i64 z118 : Value) rfl (.tmp (.int .i64 22 : Value) rfl .nil))), _, rfl, HF.out⟩
        ·
          refine WC.cond_f ((show _ = Value.bool (decide ((wrap64 (z118 - a1)) > 31)) from rfl).trans (congrArg Value.bool c142)) ?_
          refine WC.skip ?_
          refine WC.seq ?_
          refine WC.region ?_
          refine WL.ex rfl (ex_move (v := encS a0) s0_116) ?_
          refine WL.ex rfl (ex_move (v := .int .i64 a1) s1_116) ?_
          refine WL.ex rfl (ex_move (v := .int .i64 z118) s7_117) ?_
          obtain ⟨y146, hy146, H⟩ := bindE H
          refine WL.ex rfl (ex_slice_str (l := a1) (h := z118) rfl Tryd.underlying9 ⟨_, rfl⟩ ⟨_, rfl⟩ hy146) ?_
          refine WL.ex rfl (ex_build (cs := [.int .i64 1, encS y146, .int .i64 (0 : Int), .int .i64 (0 : Int), .int .i64 (0 : Int), .int .i64 (0 : Int)]) [(0, 1), (1, 1), (2, 1), (3, 3)] [(0, .int .i64 1), (1, encS y146)] [.int .i64 0, .string ⟨#[]⟩, .int .i64 0, .int .i64 0, .int .i64 0, .int .i64 0] Tryd.underlying37 zr37 rfl (by kernel_rfl) (evs_cons rfl (evs_cons rfl rfl)) rfl) ?_
          refine WL.ex rfl (ex_move (v := .int .i64 z118) s7_117) ?_
          refine WL.op rfl ?_
          refine OW.store [.int .i64 1, encS y146, .int .i64 (0 : Int), .int .i64 (0 : Int), .int .i64 (0 : Int), .int .i64 (0 : Int)] s4_116 (vs := [.int .i64 1, encS y146, .int .i64 (0 : Int), .int .i64 (0 : Int), .int .i64 (0 : Int), .int .i64 (0 : Int)]) ((congrArg Value.cells (show ev _ _ = (.agg #[.int .i64 1, encS y146, .int .i64 (0 : Int), .int .i64 (0 : Int), .int .i64 (0 : Int), .int .i64 (0 : Int)] : Value) from rfl)).trans rfl) sz37 hB105 (Nat.le_of_ble_eq_true rfl) (by intro u_ hu_; simp only [List.mem_cons, List.not_mem_nil, or_false] at hu_; rcases hu_ with rfl | rfl | rfl | rfl | rfl | rfl <;> first | rfl) rfl ?_
          intro w147 s148 hB149
          replace HF := HF.step s148 rfl
          refine WL.ex rfl (ex_assign (v := .int .i64 z118) rfl) ?_
          refine WL.ex rfl (ex_assign (v := .int .i64 0) rfl) ?_
          refine WL.nil ?_
          refine WC.ret ?_
          obtain rfl := Option.some.inj H
          exact ⟨_, (.cell (.agg #[.int .i64 1, encS y146, .int .i64 (0 : Int), .int .i64 (0 : Int), .int .i64 (0 : Int), .int .i64 (0 : Int)] : Value) s4_116 (run_loadN (cs := [.int .i64 1, encS y146, .int .i64 (0 : Int), .int .i64 (0 : Int), .int .i64 (0 : Int), .int .i64 (0 : Int)]) Tryd.underlying37 rfl sz37 (hB149.cells rfl)) (.tmp (.int .i64 z118 : Value) rfl (.tmp (.int .i64 0 : Value) rfl .nil))), _, rfl, HF.out⟩
      have Ho120 := H
      rintro k121 ρ122 w123 ⟨o124, x116, HF, hB105, s0_115, s1_115, s4_115, s5_115, s6_115, s7_116, H⟩
      cases k121 with
      | zero => cases H
      | succ k121 =>
      rw [dictumref02_one.l1.eq_2] at H
      refine WC.seq ?_
      obtain ⟨z126, hz126, H⟩ := bindE H
      refine WC.cut (fun ρ_ w_ => ∃ (o_ : Tags), Fm o0 w0 o_ w_ [] ∧ Bk o_ w_ 10 b101 [.int .i64 (0 : Int), encS ([] : List UInt8), .int .i64 (0 : Int), .int .i64 (0 : Int), .int .i64 (0 : Int), .int .i64 (0 : Int)] 37 ∧ ρ_ 0 = encS a0 ∧ ρ_ 1 = .int .i64 a1 ∧ ρ_ 4 = .pointer (some ⟨b101, 0, none⟩) ∧ ρ_ 5 = .int .i64 0 ∧ ρ_ 6 = .int .i64 0 ∧ ρ_ 7 = .int .i64 x116 ∧ ρ_ 32 = .bool z126) ?case127 ?_
      case case127 =>
        rintro ρ130 w128 ⟨o129, HF, hB105, s0_124, s1_124, s4_124, s5_124, s6_124, s7_124, s32_125⟩
        rcases condE H with ⟨c131, H⟩ | ⟨c131, H⟩
        ·
          refine WC.cond_t ((show _ = Value.bool z126 from s32_125).trans (congrArg Value.bool c131)) ?_
          refine WC.skip ?_
          refine WC.block ?_
          refine WC.region ?_
          refine WL.ex rfl (ex_move (v := .int .i64 x116) s7_124) ?_
          refine WL.ex rfl (ex_bin (a := .int .i64 x116) (b := .int .i64 1) (v := .int .i64 (wrap64 (x116 + 1))) rfl rfl bin_add64) ?_
          refine WL.ex rfl (ex_assign (v := .int .i64 (wrap64 (x116 + 1))) rfl) ?_
          refine WL.nil ?_
          exact ⟨k121, Nat.lt_succ_self _, ⟨_, wrap64 (x116 + 1), HF, hB105, s0_124, s1_124, s4_124, s5_124, s6_124, rfl, H⟩⟩
        ·
          refine WC.cond_f ((show _ = Value.bool z126 from s32_125).trans (congrArg Value.bool c131)) ?_
          refine WC.exit ?_
          obtain rfl := Option.some.inj H
          exact ⟨_, HF, hB105, s0_124, s1_124, s4_124, s5_124, s6_124, s7_124⟩
      have Ho132 := H
      replace H := hz126
      refine WC.region ?_
      refine WL.ex rfl (ex_move (v := .int .i64 x116) s7_116) ?_
      refine WL.ex rfl (ex_move (v := encS a0) s0_115) ?_
      refine WL.ex rfl (ex_len_str (s := a0) rfl Tryd.underlying9) ?_
      refine WL.ex rfl (ex_bin (a := .int .i64 x116) (b := .int .i64 (a0.length : Int)) (v := .bool (decide (x116 < (a0.length : Int)))) rfl rfl bin_lss) ?_
      refine WL.ex rfl (ex_move (v := .bool (decide (x116 < (a0.length : Int)))) rfl) ?_
      rcases condE H with ⟨c133, H⟩ | ⟨c133, H⟩
      ·
        refine WL.guardYes rfl rfl rfl ((show _ = Value.bool (decide (x116 < (a0.length : Int))) from rfl).trans (congrArg Value.bool c133)) ?_
        refine OW.ex rfl (ex_move (v := encS a0) s0_115) ?_
        refine WL.guardYes rfl rfl rfl ((show _ = Value.bool (decide (x116 < (a0.length : Int))) from rfl).trans (congrArg Value.bool c133)) ?_
        refine OW.ex rfl (ex_move (v := .int .i64 x116) s7_116) ?_
        refine WL.guardYes rfl rfl rfl ((show _ = Value.bool (decide (x116 < (a0.length : Int))) from rfl).trans (congrArg Value.bool c133)) ?_
        obtain ⟨x134, hx134, H⟩ := bindE H
        refine OW.ex rfl (ex_index_str (i := x116) rfl rfl Tryd.underlying9 (ix_some hx134).1 (ix_some hx134).2.2) ?_
        refine WL.guardYes rfl rfl rfl ((show _ = Value.bool (decide (x116 < (a0.length : Int))) from rfl).trans (congrArg Value.bool c133)) ?_
        obtain ⟨z135, hz135, H⟩ := bindE H
        refine OW.call [enc8 x134] rfl Tryd.func25 (by kernel_rfl) (by kernel_rfl) (map_cons' rfl rfl) (dictumref02_within.calls _ _ x134 z135 (HF.ten (V := [0]) (L := []) rfl)  hz135) ?_
        rintro _ w136 ⟨o137, rfl, s138⟩
        refine ⟨_, rfl, ?_⟩
        replace s138 := un_stepL (J := []) (L' := []) s138 rfl rfl
        replace hB105 := hB105.step s138 rfl
        replace HF := HF.step s138 rfl
        refine WL.ex rfl (ex_pick_t (v := .bool z135) ((show _ = Value.bool (decide (x116 < (a0.length : Int))) from rfl).trans (congrArg Value.bool c133)) rfl) ?_
        refine WL.nil ?_
        obtain rfl := Option.some.inj H
        exact ⟨_, HF, hB105, s0_115, s1_115, s4_115, s5_115, s6_115, s7_116, rfl⟩
      ·
        refine WL.guardNo rfl rfl rfl ((show _ = Value.bool (decide (x116 < (a0.length : Int))) from rfl).trans (congrArg Value.bool c133)) ?_
        refine WL.guardNo rfl rfl rfl ((show _ = Value.bool (decide (x116 < (a0.length : Int))) from rfl).trans (congrArg Value.bool c133)) ?_
        refine WL.guardNo rfl rfl rfl ((show _ = Value.bool (decide (x116 < (a0.length : Int))) from rfl).trans (congrArg Value.bool c133)) ?_
        refine WL.guardNo rfl rfl rfl ((show _ = Value.bool (decide (x116 < (a0.length : Int))) from rfl).trans (congrArg Value.bool c133)) ?_
        refine WL.ex rfl (ex_pick_f (v := .bool false) ((show _ = Value.bool (decide (x116 < (a0.length : Int))) from rfl).trans (congrArg Value.bool c133)) rfl) ?_
        refine WL.nil ?_
        obtain rfl := Option.some.inj H
        exact ⟨_, HF, hB105, s0_115, s1_115, s4_115, s5_115, s6_115, s7_116, rfl⟩
    ·
      refine WC.cond_f ((show _ = Value.bool z111 from rfl).trans (congrArg Value.bool c115)) ?_
      refine WC.skip ?_
      refine WC.seq ?_
      refine WC.seq ?_
      refine WC.region ?_
      refine WL.ex rfl (ex_move (v := encS a0) rfl) ?_
      refine WL.ex rfl (ex_move (v := .int .i64 a1) rfl) ?_
      obtain ⟨x150, hx150, H⟩ := bindE H
      refine WL.ex rfl (ex_index_str (i := a1) rfl rfl Tryd.underlying9 (ix_some hx150).1 (ix_some hx150).2.2) ?_
      obtain ⟨z151, hz151, H⟩ := bindE H
      refine WL.op rfl ?_
      refine OW.call [enc8 x150] rfl Tryd.func36 (by kernel_rfl) (by kernel_rfl) (map_cons' rfl rfl) (dictumref02_digit.calls _ _ x150 z151 (HF.ten (V := [0]) (L := []) rfl)  hz151) ?_
      rintro _ w152 ⟨o153, rfl, s154⟩
      refine ⟨_, rfl, ?_⟩
      replace s154 := un_stepL (J := []) (L' := []) s154 rfl rfl
      replace hB105 := hB105.step s154 rfl
      replace HF := HF.step s154 rfl
      refine WL.nil ?_
      rcases condE H with ⟨c155, H⟩ | ⟨c155, H⟩
      ·
        refine WC.cond_t ((show _ = Value.bool z151 from rfl).trans (congrArg Value.bool c155)) ?_
        refine WC.seq ?_
        refine WC.region ?_
        refine WL.ex rfl (ex_move (v := encS a0) rfl) ?_
        refine WL.ex rfl (ex_move (v := .int .i64 a1) rfl) ?_
        obtain ⟨z156, hz156, H⟩ := bindE H
        refine WL.op rfl ?_
        refine OW.call [encS a0, .int .i64 a1] rfl Tryd.func44 (by kernel_rfl) (by kernel_rfl) (map_cons' rfl (map_cons' rfl rfl)) (dictumref02_number.calls k _ _ a0 a1 z156 (HF.ten (V := [0]) (L := []) rfl)  hz156) ?_
        rintro _ w157 ⟨o158, rfl, s159⟩
        refine ⟨_, rfl, ?_⟩
        replace s159 := un_stepL (J := []) (L' := []) s159 rfl rfl
        replace hB105 := hB105.step s159 rfl
        replace HF := HF.step s159 rfl
        refine WL.ex rfl (ex_extract (vs := #[.agg #[.int .i64 z156.1.f_Kind, encS z156.1.f_Text, .int .i64 z156.1.f_Int, .int .i64 z156.1.f_At.f_Line, .int .i64 z156.1.f_At.f_Col, .int .i64 z156.1.f_At.f_Off], .int .i64 z156.2.1, .int .i64 z156.2.2]) (v := .agg #[.int .i64 z156.1.f_Kind, encS z156.1.f_Text, .int .i64 z156.1.f_Int, .int .i64 z156.1.f_At.f_Line, .int .i64 z156.1.f_At.f_Col, .int .i64 z156.1.f_At.f_Off]) rfl rfl) ?_
        refine WL.ex rfl (ex_extract (vs := #[.agg #[.int .i64 z156.1.f_Kind, encS z156.1.f_Text, .int .i64 z156.1.f_Int, .int .i64 z156.1.f_At.f_Line, .int .i64 z156.1.f_At.f_Col, .int .i64 z156.1.f_At.f_Off], .int .i64 z156.2.1, .int .i64 z156.2.2]) (v := .int .i64 z156.2.1) rfl rfl) ?_
        refine WL.ex rfl (ex_extract (vs := #[.agg #[.int .i64 z156.1.f_Kind, encS z156.1.f_Text, .int .i64 z156.1.f_Int, .int .i64 z156.1.f_At.f_Line, .int .i64 z156.1.f_At.f_Col, .int .i64 z156.1.f_At.f_Off], .int .i64 z156.2.1, .int .i64 z156.2.2]) (v := .int .i64 z156.2.2) rfl rfl) ?_
        refine WL.op rfl ?_
        refine OW.store [.int .i64 z156.1.f_Kind, encS z156.1.f_Text, .int .i64 z156.1.f_Int, .int .i64 z156.1.f_At.f_Line, .int .i64 z156.1.f_At.f_Col, .int .i64 z156.1.f_At.f_Off] rfl (vs := [.int .i64 z156.1.f_Kind, encS z156.1.f_Text, .int .i64 z156.1.f_Int, .int .i64 z156.1.f_At.f_Line, .int .i64 z156.1.f_At.f_Col, .int .i64 z156.1.f_At.f_Off]) ((congrArg Value.cells (show ev _ _ = (.agg #[.int .i64 z156.1.f_Kind, encS z156.1.f_Text, .int .i64 z156.1.f_Int, .int .i64 z156.1.f_At.f_Line, .int .i64 z156.1.f_At.f_Col, .int .i64 z156.1.f_At.f_Off] : Value) from rfl)).trans rfl) sz37 hB105 (Nat.le_of_ble_eq_true rfl) (by intro u_ hu_; simp only [List.mem_cons, List.not_mem_nil, or_false] at hu_; rcases hu_ with rfl | rfl | rfl | rfl | rfl | rfl <;> first | rfl) rfl ?_
        intro w160 s161 hB162
        replace HF := HF.step s161 rfl
        refine WL.ex rfl (ex_assign (v := .int .i64 z156.2.1) rfl) ?_
        refine WL.ex rfl (ex_assign (v := .int .i64 z156.2.2) rfl) ?_
        refine WL.nil ?_
        refine WC.ret ?_
        obtain rfl := Option.some.inj H
        exact ⟨_, (.cell (.agg #[.int .i64 z156.1.f_Kind, encS z156.1.f_Text, .int .i64 z156.1.f_Int, .int .i64 z156.1.f_At.f_Line, .int .i64 z156.1.f_At.f_Col, .int .i64 z156.1.f_At.f_Off] : Value) rfl (run_loadN (cs := [.int .i64 z156.1.f_Kind, encS z156.1.f_Text, .int .i64 z156.1.f_Int, .int .i64 z156.1.f_At.f_Line, .int .i64 z156.1.f_At.f_Col, .int .i64 z156.1.f_At.f_Off]) Tryd.underlying37 rfl sz37 (hB162.cells rfl)) (.tmp (.int .i64 z156.2.1 : Value) rfl (.tmp (.int .i64 z156.2.2 : Value) rfl .nil))), _, rfl, HF.out⟩
      ·
        refine WC.cond_f ((show _ = Value.bool z151 from rfl).trans (congrArg Value.bool c155)) ?_
        refine WC.skip ?_
        refine WC.seq ?_
        refine WC.region ?_
        obtain ⟨z163, hz163, H⟩ := bindE H
        refine WL.op rfl ?_
        refine OW.call [] rfl Tryd.func45 (by kernel_rfl) (by kernel_rfl) rfl (dictumref02_specials.calls _ _ z163 (HF.ten (V := [0]) (L := []) rfl)  hz163) ?_
        rintro _ w164 ⟨o165, v167, rfl, s166, hO168⟩
        refine ⟨_, rfl, ?_⟩
        replace hO168 := Own.un9 (J := [11]) 0 hO168 rfl s166 rfl rfl
        replace s166 := un_stepL (J := [11]) (L' := []) s166 rfl rfl
        replace hB105 := hB105.step s166 rfl
        replace HF := HF.step s166 rfl
        refine WL.ex rfl (ex_assign (v := v167) rfl) ?_
        refine WL.nil ?_
        refine WC.seq ?_
        refine WC.seq ?_
        refine WC.region ?_
        refine WL.ex rfl (ex_assign (v := .int .i64 0) rfl) ?_
        refine WL.nil ?_
        obtain ⟨z170, hz170, H⟩ := bindE H
        refine WC.for (fun k_ ρ_ w_ => ∃ (o_ : Tags) (x169 : Int), Fm o0 w0 o_ w_ [] ∧ Own T_dictumref02_special.rep 78 11 o_ w_ v167 z163 ∧ Bk o_ w_ 10 b101 [.int .i64 (0 : Int), encS ([] : List UInt8), .int .i64 (0 : Int), .int .i64 (0 : Int), .int .i64 (0 : Int), .int .i64 (0 : Int)] 37 ∧ ρ_ 0 = encS a0 ∧ ρ_ 1 = .int .i64 a1 ∧ ρ_ 4 = .pointer (some ⟨b101, 0, none⟩) ∧ ρ_ 5 = .int .i64 0 ∧ ρ_ 6 = .int .i64 0 ∧ ρ_ 8 = v167 ∧ ρ_ 9 = .int .i64 x169 ∧ dictumref02_one.l2 k a0 a1 z163 k_ x169 = some z170) k (fun ρ_ w_ => ∃ (o_ : Tags), Fm o0 w0 o_ w_ [] ∧ Bk o_ w_ 10 b101 [.int .i64 (0 : Int), encS ([] : List UInt8), .int .i64 (0 : Int), .int .i64 (0 : Int), .int .i64 (0 : Int), .int .i64 (0 : Int)] 37 ∧ ρ_ 0 = encS a0 ∧ ρ_ 1 = .int .i64 a1 ∧ ρ_ 4 = .pointer (some ⟨b101, 0, none⟩) ∧ ρ_ 5 = .int .i64 0 ∧ ρ_ 6 = .int .i64 0 ∧ z170 = .inr ()) ⟨_, 0, HF, hO168, hB105, rfl, rfl, rfl, rfl, rfl, rfl, rfl, hz170⟩ ?case171 ?_
        case case171 =>
          rintro ρ245 w243 ⟨o244, HF, hB105, s0_169, s1_169, s4_169, s5_169, s6_169, rfl⟩
          dsimp only at H
          refine WC.seq ?_
          refine WC.region ?_
          obtain ⟨z246, hz246, H⟩ := bindE H
          refine WL.op rfl ?_
          refine OW.call [] rfl Tryd.func47 (by kernel_rfl) (by kernel_rfl) rfl (dictumref02_Signs.calls _ _ z246 (HF.ten (V := [0]) (L := []) rfl)  hz246) ?_
          rintro _ w247 ⟨o248, v250, rfl, s249, hO251⟩
          refine ⟨_, rfl, ?_⟩
          replace hO251 := Own.un9 (J := [12]) 0 hO251 rfl s249 rfl rfl
          replace s249 := un_stepL (J := [12]) (L' := []) s249 rfl rfl
          replace hB105 := hB105.step s249 rfl
          replace HF := HF.step s249 rfl
          refine WL.ex rfl (ex_assign (v := v250) rfl) ?_
          refine WL.nil ?_
          refine WC.seq ?_
          refine WC.seq ?_
          refine WC.region ?_
          refine WL.ex rfl (ex_assign (v := .int .i64 0) rfl) ?_
          refine WL.nil ?_
          obtain ⟨z253, hz253, H⟩ := bindE H
          refine WC.for (fun k_ ρ_ w_ => ∃ (o_ : Tags) (x252 : Int), Fm o0 w0 o_ w_ [] ∧ Own Rep.str 9 12 o_ w_ v250 z246 ∧ Bk o_ w_ 10 b101 [.int .i64 (0 : Int), encS ([] : List UInt8), .int .i64 (0 : Int), .int .i64 (0 : Int), .int .i64 (0 : Int), .int .i64 (0 : Int)] 37 ∧ ρ_ 0 = encS a0 ∧ ρ_ 1 = .int .i64 a1 ∧ ρ_ 4 = .pointer (some ⟨b101, 0, none⟩) ∧ ρ_ 5 = .int .i64 0 ∧ ρ_ 6 = .int .i64 0 ∧ ρ_ 10 = v250 ∧ ρ_ 11 = .int .i64 x252 ∧ dictumref02_one.l3 k a0 a1 z246 k_ x252 = some z253) k (fun ρ_ w_ => ∃ (o_ : Tags), Fm o0 w0 o_ w_ [] ∧ Bk o_ w_ 10 b101 [.int .i64 (0 : Int), encS ([] : List UInt8), .int .i64 (0 : Int), .int .i64 (0 : Int), .int .i64 (0 : Int), .int .i64 (0 : Int)] 37 ∧ ρ_ 1 = .int .i64 a1 ∧ ρ_ 4 = .pointer (some ⟨b101, 0, none⟩) ∧ ρ_ 5 = .int .i64 0 ∧ ρ_ 6 = .int .i64 0 ∧ z253 = .inr ()) ⟨_, 0, HF, hO251, hB105, s0_169, s1_169, s4_169, s5_169, s6_169, rfl, rfl, hz253⟩ ?case254 ?_
          case case254 =>
            rintro ρ306 w304 ⟨o305, HF, hB105, s1_252, s4_252, s5_252, s6_252, rfl⟩
            dsimp only at H
            refine WC.seq ?_
            refine WC.region ?_
            refine WL.ex rfl (ex_build (cs := [.int .i64 (0 : Int), encS ([] : List UInt8), .int .i64 (0 : Int), .int .i64 (0 : Int), .int .i64 (0 : Int), .int .i64 (0 : Int)]) [(0, 1), (1, 1), (2, 1), (3, 3)] [] [.int .i64 0, .string ⟨#[]⟩, .int .i64 0, .int .i64 0, .int .i64 0, .int .i64 0] Tryd.underlying37 zr37 rfl (by kernel_rfl) rfl rfl) ?_
            refine WL.ex rfl (ex_move (v := .int .i64 a1) s1_252) ?_
            refine WL.op rfl ?_
            refine OW.store [.int .i64 (0 : Int), encS ([] : List UInt8), .int .i64 (0 : Int), .int .i64 (0 : Int), .int .i64 (0 : Int), .int .i64 (0 : Int)] s4_252 (vs := [.int .i64 (0 : Int), encS ([] : List UInt8), .int .i64 (0 : Int), .int .i64 (0 : Int), .int .i64 (0 : Int), .int .i64 (0 : Int)]) ((congrArg Value.cells (show ev _ _ = (.agg #[.int .i64 (0 : Int), encS ([] : List UInt8), .int .i64 (0 : Int), .int .i64 (0 : Int), .int .i64 (0 : Int), .int .i64 (0 : Int)] : Value) from rfl)).trans rfl) sz37 hB105 (Nat.le_of_ble_eq_true rfl) (by intro u_ hu_; simp only [List.mem_cons, List.not_mem_nil, or_false] at hu_; rcases hu_ with rfl | rfl | rfl | rfl | rfl | rfl <;> first | rfl) rfl ?_
            intro w307 s308 hB309
            replace HF := HF.step s308 rfl
            refine WL.ex rfl (ex_assign (v := .int .i64 a1) rfl) ?_
            refine WL.ex rfl (ex_assign (v := .int .i64 20) rfl) ?_
            refine WL.nil ?_
            refine WC.ret ?_
            obtain rfl := Option.some.inj H
            exact ⟨_, (.cell (.agg #[.int .i64 (0 : Int), encS ([] : List UInt8), .int .i64 (0 : Int), .int .i64 (0 : Int), .int .i64 (0 : Int), .int .i64 (0 : Int)] : Value) s4_252 (run_loadN (cs := [.int .i64 (0 : Int), encS ([] : List UInt8), .int .i64 (0 : Int), .int .i64 (0 : Int), .int .i64 (0 : Int), .int .i64 (0 : Int)]) Tryd.underlying37 rfl sz37 (hB309.cells rfl)) (.tmp (.int .i64 a1 : Value) rfl (.tmp (.int .i64 20 : Value) rfl .nil))), _, rfl, HF.out⟩
          have Ho255 := H
          rintro k256 ρ257 w258 ⟨o259, x252, HF, hO251, hB105, s0_251, s1_251, s4_251, s5_251, s6_251, s10_251, s11_252, H⟩
          cases k256 with
          | zero => cases H
          | succ k256 =>
          rw [dictumref02_one.l3.eq_2] at H
          refine WC.seq ?_
          refine WC.seq ?_
          refine WC.region ?_
          refine WL.ex rfl (ex_move (v := .int .i64 x252) s11_252) ?_
          refine WL.ex rfl (ex_move (v := v250) s10_251) ?_
          obtain ⟨A260, c261, q262⟩ := hO251.slice
          refine WL.ex rfl (ex_len_slice ((show _ = (v250 : Value) from rfl).trans q262) Tryd.underlying49) ?_
          refine WL.ex rfl (ex_bin (a := .int .i64 x252) (b := .int .i64 (z246.length : Int)) (v := .bool (decide (x252 < (z246.length : Int)))) rfl rfl bin_lss) ?_
          refine WL.nil ?_
          rcases condE H with ⟨c263, H⟩ | ⟨c263, H⟩
          ·
            refine WC.cond_t ((show _ = Value.bool (decide (x252 < (z246.length : Int))) from rfl).trans (congrArg Value.bool c263)) ?_
            refine WC.skip ?_
            refine WC.seq ?_
            refine WC.block ?_
            refine WC.seq ?_
            refine WC.region ?_
            refine WL.ex rfl (ex_move (v := encS a0) s0_251) ?_
            refine WL.ex rfl (ex_move (v := .int .i64 a1) s1_251) ?_
            refine WL.ex rfl (ex_move (v := v250) s10_251) ?_
            refine WL.ex rfl (ex_move (v := .int .i64 x252) s11_252) ?_
            obtain ⟨x264, hx264, H⟩ := bindE H
            obtain ⟨A269, c270, q271_⟩ := hO251.slice
            obtain ⟨ad265, e266, g267, g268, cell272⟩ := Row.ixS (Own.rowOf hO251 q271_) hx264
            refine WL.ex rfl (ex_indexAddr (i := x252) ((show _ = (v250 : Value) from rfl).trans q271_) e266 rfl Tryd.underlying49 sz9 g267 g268) ?_
            refine WL.ex rfl (ex_load1 (v := encS x264) rfl Tryd.underlying9 rfl cell272) ?_
            obtain ⟨z274, hz274, H⟩ := bindE H
            refine WL.op rfl ?_
            refine OW.call [encS a0, .int .i64 a1, encS x264] rfl Tryd.func46 (by kernel_rfl) (by kernel_rfl) (map_cons' rfl (map_cons' rfl (map_cons' rfl rfl))) (dictumref02_at.calls _ _ a0 a1 x264 z274 (HF.ten (V := [0]) (L := []) rfl)  hz274) ?_
            rintro _ w275 ⟨o276, rfl, s277⟩
            refine ⟨_, rfl, ?_⟩
            replace s277 := un_stepL (J := []) (L' := []) s277 rfl rfl
            replace hO251 := hO251.step s277 rfl rfl
            replace hB105 := hB105.step s277 rfl
            replace HF := HF.step s277 rfl
            refine WL.nil ?_
            rcases condE H with ⟨c278, H⟩ | ⟨c278, H⟩
            ·
              refine WC.cond_t ((show _ = Value.bool z274 from rfl).trans (congrArg Value.bool c278)) ?_
              refine WC.seq ?_
              refine WC.regionD' HF [10] 15 (by kernel_rfl) rfl ?_
              intro w279 s280
              replace hO251 := hO251.step s280 rfl rfl
              replace hB105 := hB105.step s280 rfl
              replace HF := HF.step s280 rfl
              have hO251D := hO251
              have hB105D := hB105
              have sR := HF.here [10]
              refine WA.norm (listed' := #[false, false, false, false, false, false, false, false, false, false, false, false, false, false, false]) (by kernel_rfl) ?_
              refine WA.ex 0 rfl (by kernel_rfl) (by kernel_rfl) (by kernel_rfl) rfl ⟨_, sR⟩ (fun w_ hS_ => ex_move (v := v250) s10_251) ?_
              refine WA.norm (listed' := #[true, false, false, false, false, false, false, false, false, false, false, false, false, false, false]) (by kernel_rfl) ?_
              refine WA.ex 1 rfl (by kernel_rfl) (by kernel_rfl) (by kernel_rfl) rfl ⟨_, sR⟩ (fun w_ hS_ => ex_move (v := .int .i64 x252) s11_252) ?_
              refine WA.norm (listed' := #[true, true, false, false, false, false, false, false, false, false, false, false, false, false, false]) (by kernel_rfl) ?_
              obtain ⟨x281, hx281, H⟩ := bindE H
              obtain ⟨A286, c287, q288_⟩ := hO251.slice
              obtain ⟨ad282, e283, g284, g285, cell289⟩ := Row.ixS (Own.rowOf hO251D q288_) hx281
              have hk290 := Row.at (Own.rowOf hO251D q288_) e283 hx281 (x252.toNat * 1)
              replace cell289 := held_cell (Step.refl _ _ _) ⟨_, sR⟩ hk290 rfl cell289
              refine WA.ex 2 rfl (by kernel_rfl) (by kernel_rfl) (by kernel_rfl) rfl ⟨_, sR⟩ (fun w_ hS_ => ex_indexAddr (i := x252) ((show _ = (v250 : Value) from rfl).trans q288_) e283 rfl Tryd.underlying49 sz9 g284 g285) ?_
              refine WA.norm (listed' := #[true, true, true, false, false, false, false, false, false, false, false, false, false, false, false]) (by kernel_rfl) ?_
              refine WA.ex 3 rfl (by kernel_rfl) (by kernel_rfl) (by kernel_rfl) rfl ⟨_, sR⟩ (fun w_ hS_ => ex_load1 (v := encS x281) rfl Tryd.underlying9 rfl (held_cell sR hS_ hk290 rfl cell289)) ?_
              refine WA.norm (listed' := #[true, true, true, true, false, false, false, false, false, false, false, false, false, false, false]) (by kernel_rfl) ?_
              refine WA.ex 4 rfl (by kernel_rfl) (by kernel_rfl) (by kernel_rfl) rfl ⟨_, sR⟩ (fun w_ hS_ => ex_build (cs := [.int .i64 3, encS x281, .int .i64 (0 : Int), .int .i64 (0 : Int), .int .i64 (0 : Int), .int .i64 (0 : Int)]) [(0, 1), (1, 1), (2, 1), (3, 3)] [(0, .int .i64 3), (1, encS x281)] [.int .i64 0, .string ⟨#[]⟩, .int .i64 0, .int .i64 0, .int .i64 0, .int .i64 0] Tryd.underlying37 zr37 rfl (by kernel_rfl) (evs_cons rfl (evs_cons rfl rfl)) rfl) ?_
              refine WA.norm (listed' := #[true, true, true, true, true, false, false, false, false, false, false, false, false, false, false]) (by kernel_rfl) ?_
              refine WA.ex 5 rfl (by kernel_rfl) (by kernel_rfl) (by kernel_rfl) rfl ⟨_, sR⟩ (fun w_ hS_ => ex_move (v := .int .i64 a1) s1_251) ?_
              refine WA.norm (listed' := #[true, true, true, true, true, true, false, false, false, false, false, false, false, false, false]) (by kernel_rfl) ?_
              refine WA.ex 6 rfl (by kernel_rfl) (by kernel_rfl) (by kernel_rfl) rfl ⟨_, sR⟩ (fun w_ hS_ => ex_move (v := v250) s10_251) ?_
              refine WA.norm (listed' := #[true, true, true, true, true, true, true, false, false, false, false, false, false, false, false]) (by kernel_rfl) ?_
              refine WA.ex 7 rfl (by kernel_rfl) (by kernel_rfl) (by kernel_rfl) rfl ⟨_, sR⟩ (fun w_ hS_ => ex_move (v := .int .i64 x252) s11_252) ?_
              refine WA.norm (listed' := #[true, true, true, true, true, true, true, true, false, false, false, false, false, false, false]) (by kernel_rfl) ?_
              obtain ⟨x291, hx291, H⟩ := bindE H
              obtain ⟨A296, c297, q298_⟩ := hO251.slice
              obtain ⟨ad292, e293, g294, g295, cell299⟩ := Row.ixS (Own.rowOf hO251D q298_) hx291
              have hk300 := Row.at (Own.rowOf hO251D q298_) e293 hx291 (x252.toNat * 1)
              replace cell299 := held_cell (Step.refl _ _ _) ⟨_, sR⟩ hk300 rfl cell299
              refine WA.ex 8 rfl (by kernel_rfl) (by kernel_rfl) (by kernel_rfl) rfl ⟨_, sR⟩ (fun w_ hS_ => ex_indexAddr (i := x252) ((show _ = (v250 : Value) from rfl).trans q298_) e293 rfl Tryd.underlying49 sz9 g294 g295) ?_
              refine WA.norm (listed' := #[true, true, true, true, true, true, true, true, true, false, false, false, false, false, false]) (by kernel_rfl) ?_
              refine WA.ex 9 rfl (by kernel_rfl) (by kernel_rfl) (by kernel_rfl) rfl ⟨_, sR⟩ (fun w_ hS_ => ex_load1 (v := encS x291) rfl Tryd.underlying9 rfl (held_cell sR hS_ hk300 rfl cell299)) ?_
              refine WA.norm (listed' := #[true, true, true, true, true, true, true, true, true, true, false, false, false, false, false]) (by kernel_rfl) ?_
              refine WA.ex 10 rfl (by kernel_rfl) (by kernel_rfl) (by kernel_rfl) rfl ⟨_, sR⟩ (fun w_ hS_ => ex_len_str (s := x291) rfl Tryd.underlying9) ?_
              refine WA.norm (listed' := #[true, true, true, true, true, true, true, true, true, true, true, false, false, false, false]) (by kernel_rfl) ?_
              refine WA.ex 11 rfl (by kernel_rfl) (by kernel_rfl) (by kernel_rfl) rfl ⟨_, sR⟩ (fun w_ hS_ => ex_bin (a := .int .i64 a1) (b := .int .i64 (x291.length : Int)) (v := .int .i64 (wrap64 (a1 + (x291.length : Int)))) rfl rfl bin_add64) ?_
              refine WA.norm (listed' := #[true, true, true, true, true, true, true, true, true, true, true, true, false, false, false]) (by kernel_rfl) ?_
              refine WA.one 12 (by kernel_rfl) rfl rfl ?_
              refine OW.store [.int .i64 3, encS x281, .int .i64 (0 : Int), .int .i64 (0 : Int), .int .i64 (0 : Int), .int .i64 (0 : Int)] s4_251 (vs := [.int .i64 3, encS x281, .int .i64 (0 : Int), .int .i64 (0 : Int), .int .i64 (0 : Int), .int .i64 (0 : Int)]) ((congrArg Value.cells (show ev _ _ = (.agg #[.int .i64 3, encS x281, .int .i64 (0 : Int), .int .i64 (0 : Int), .int .i64 (0 : Int), .int .i64 (0 : Int)] : Value) from rfl)).trans rfl) sz37 hB105 (Nat.le_of_ble_eq_true rfl) (by intro u_ hu_; simp only [List.mem_cons, List.not_mem_nil, or_false] at hu_; rcases hu_ with rfl | rfl | rfl | rfl | rfl | rfl <;> first | rfl) rfl ?_
              intro w301 s302 hB303
              replace hO251 := hO251.step s302 rfl rfl
              replace HF := HF.step s302 rfl
              replace sR := Step.trans sR s302 (M := [10]) rfl rfl
              refine ⟨⟨_, sR⟩, ?_⟩
              refine WA.norm (listed' := #[true, true, true, true, true, true, true, true, true, true, true, true, true, false, false]) (by kernel_rfl) ?_
              refine WA.ex 13 rfl (by kernel_rfl) (by kernel_rfl) (by kernel_rfl) rfl ⟨_, sR⟩ (fun w_ hS_ => ex_assign (v := .int .i64 (wrap64 (a1 + (x291.length : Int)))) rfl) ?_
              refine WA.norm (listed' := #[true, true, true, true, true, true, true, true, true, true, true, true, true, true, false]) (by kernel_rfl) ?_
              refine WA.ex 14 rfl (by kernel_rfl) (by kernel_rfl) (by kernel_rfl) rfl ⟨_, sR⟩ (fun w_ hS_ => ex_assign (v := .int .i64 0) rfl) ?_
              refine WA.norm (listed' := #[true, true, true, true, true, true, true, true, true, true, true, true, true, true, true]) (by kernel_rfl) ?_
              refine WA.done (by kernel_rfl) ?_
              refine WC.ret ?_
              obtain rfl := Option.some.inj H
              replace H := Ho255
              dsimp only at H
              obtain rfl := Option.some.inj H
              exact ⟨_, (.cell (.agg #[.int .i64 3, encS x281, .int .i64 (0 : Int), .int .i64 (0 : Int), .int .i64 (0 : Int), .int .i64 (0 : Int)] : Value) s4_251 (run_loadN (cs := [.int .i64 3, encS x281, .int .i64 (0 : Int), .int .i64 (0 : Int), .int .i64 (0 : Int), .int .i64 (0 : Int)]) Tryd.underlying37 rfl sz37 (hB303.cells rfl)) (.tmp (.int .i64 (wrap64 (a1 + (x291.length : Int))) : Value) rfl (.tmp (.int .i64 0 : Value) rfl .nil))), _, rfl, HF.out⟩
            ·
              refine WC.cond_f ((show _ = Value.bool z274 from rfl).trans (congrArg Value.bool c278)) ?_
              refine WC.skip ?_
              refine WC.region ?_
              refine WL.ex rfl (ex_move (v := .int .i64 x252) s11_252) ?_
              refine WL.ex rfl (ex_bin (a := .int .i64 x252) (b := .int .i64 1) (v := .int .i64 (wrap64 (x252 + 1))) rfl rfl bin_add64) ?_
              refine WL.ex rfl (ex_assign (v := .int .i64 (wrap64 (x252 + 1))) rfl) ?_
              refine WL.nil ?_
              exact ⟨k256, Nat.lt_succ_self _, ⟨_, wrap64 (x252 + 1), HF, hO251, hB105, s0_251, s1_251, s4_251, s5_251, s6_251, s10_251, rfl, H⟩⟩
          ·
            refine WC.cond_f ((show _ = Value.bool (decide (x252 < (z246.length : Int))) from rfl).trans (congrArg Value.bool c263)) ?_
            refine WC.exit ?_
            obtain rfl := Option.some.inj H
            exact ⟨_, HF, hB105, s1_251, s4_251, s5_251, s6_251, rfl⟩
        have Ho172 := H
        rintro k173 ρ174 w175 ⟨o176, x169, HF, hO168, hB105, s0_168, s1_168, s4_168, s5_168, s6_168, s8_168, s9_169, H⟩
        cases k173 with
        | zero => cases H
        | succ k173 =>
        rw [dictumref02_one.l2.eq_2] at H
        refine WC.seq ?_
        refine WC.seq ?_
        refine WC.region ?_
        refine WL.ex rfl (ex_move (v := .int .i64 x169) s9_169) ?_
        refine WL.ex rfl (ex_move (v := v167) s8_168) ?_
        obtain ⟨A177, c178, q179⟩ := hO168.slice
        refine WL.ex rfl (ex_len_slice ((show _ = (v167 : Value) from rfl).trans q179) Tryd.underlying74) ?_
        refine WL.ex rfl (ex_bin (a := .int .i64 x169) (b := .int .i64 (z163.length : Int)) (v := .bool (decide (x169 < (z163.length : Int)))) rfl rfl bin_lss) ?_
        refine WL.nil ?_
        rcases condE H with ⟨c180, H⟩ | ⟨c180, H⟩
        ·
          refine WC.cond_t ((show _ = Value.bool (decide (x169 < (z163.length : Int))) from rfl).trans (congrArg Value.bool c180)) ?_
          refine WC.skip ?_
          refine WC.seq ?_
          refine WC.block ?_
          refine WC.seq ?_
          refine WC.region ?_
          refine WL.ex rfl (ex_move (v := encS a0) s0_168) ?_
          refine WL.ex rfl (ex_move (v := .int .i64 a1) s1_168) ?_
          refine WL.ex rfl (ex_move (v := v167) s8_168) ?_
          refine WL.ex rfl (ex_move (v := .int .i64 x169) s9_169) ?_
          obtain ⟨x181, hx181, H⟩ := bindE H
          obtain ⟨A186, c187, q188_⟩ := hO168.slice
          obtain ⟨ad182, cc189, e183, g184, g185, hl190, hR191, cell192⟩ := Row.ix (Own.rowOf hO168 q188_) hx181
          obtain rfl := T_dictumref02_special.opn hR191
          refine WL.ex rfl (ex_indexAddr (i := x169) ((show _ = (v167 : Value) from rfl).trans q188_) e183 rfl Tryd.underlying74 sz78 g184 g185) ?_
          refine WL.ex rfl (ex_fieldAddr rfl Tryd.underlying78 rfl sz9) ?_
          refine WL.ex rfl (ex_load1 (v := encS x181.f_Rune) rfl Tryd.underlying9 rfl (cell192 0 _ rfl)) ?_
          obtain ⟨z194, hz194, H⟩ := bindE H
          refine WL.op rfl ?_
          refine OW.call [encS a0, .int .i64 a1, encS x181.f_Rune] rfl Tryd.func46 (by kernel_rfl) (by kernel_rfl) (map_cons' rfl (map_cons' rfl (map_cons' rfl rfl))) (dictumref02_at.calls _ _ a0 a1 x181.f_Rune z194 (HF.ten (V := [0]) (L := []) rfl)  hz194) ?_
          rintro _ w195 ⟨o196, rfl, s197⟩
          refine ⟨_, rfl, ?_⟩
          replace s197 := un_stepL (J := []) (L' := []) s197 rfl rfl
          replace hO168 := hO168.step s197 rfl rfl
          replace hB105 := hB105.step s197 rfl
          replace HF := HF.step s197 rfl
          refine WL.nil ?_
          rcases condE H with ⟨c198, H⟩ | ⟨c198, H⟩
          ·
            refine WC.cond_t ((show _ = Value.bool z194 from rfl).trans (congrArg Value.bool c198)) ?_
            refine WC.seq ?_
            refine WC.regionD' HF [10] 22 (by kernel_rfl) rfl ?_
            intro w199 s200
            replace hO168 := hO168.step s200 rfl rfl
            replace hB105 := hB105.step s200 rfl
            replace HF := HF.step s200 rfl
            have hO168D := hO168
            have hB105D := hB105
            have sR := HF.here [10]
            refine WA.norm (listed' := #[false, false, false, false, false, false, false, false, false, false, false, false, false, false, false, false, false, false, false, false, false, false]) (by kernel_rfl) ?_
            refine WA.ex 0 rfl (by kernel_rfl) (by kernel_rfl) (by kernel_rfl) rfl ⟨_, sR⟩ (fun w_ hS_ => ex_move (v := v167) s8_168) ?_
            refine WA.norm (listed' := #[true, false, false, false, false, false, false, false, false, false, false, false, false, false, false, false, false, false, false, false, false, false]) (by kernel_rfl) ?_
            refine WA.ex 1 rfl (by kernel_rfl) (by kernel_rfl) (by kernel_rfl) rfl ⟨_, sR⟩ (fun w_ hS_ => ex_move (v := .int .i64 x169) s9_169) ?_
            refine WA.norm (listed' := #[true, true, false, false, false, false, false, false, false, false, false, false, false, false, false, false, false, false, false, false, false, false]) (by kernel_rfl) ?_
            obtain ⟨x201, hx201, H⟩ := bindE H
            obtain ⟨A206, c207, q208_⟩ := hO168.slice
            obtain ⟨ad202, cc209, e203, g204, g205, hl210, hR211, cell212⟩ := Row.ix (Own.rowOf hO168D q208_) hx201
            obtain rfl := T_dictumref02_special.opn hR211
            have hk213 := Row.at (Own.rowOf hO168D q208_) e203 hx201 (x169.toNat * 3)
            replace cell212 := fun j_ u_ hu_ => held_cell (Step.refl _ _ _) ⟨_, sR⟩ (by rw [add_block]; exact hk213) rfl (cell212 j_ u_ hu_)
            refine WA.ex 2 rfl (by kernel_rfl) (by kernel_rfl) (by kernel_rfl) rfl ⟨_, sR⟩ (fun w_ hS_ => ex_indexAddr (i := x169) ((show _ = (v167 : Value) from rfl).trans q208_) e203 rfl Tryd.underlying74 sz78 g204 g205) ?_
            refine WA.norm (listed' := #[true, true, true, false, false, false, false, false, false, false, false, false, false, false, false, false, false, false, false, false, false, false]) (by kernel_rfl) ?_
            refine WA.ex 3 rfl (by kernel_rfl) (by kernel_rfl) (by kernel_rfl) rfl ⟨_, sR⟩ (fun w_ hS_ => ex_fieldAddr rfl Tryd.underlying78 rfl sz35) ?_
            refine WA.norm (listed' := #[true, true, true, true, false, false, false, false, false, false, false, false, false, false, false, false, false, false, false, false, false, false]) (by kernel_rfl) ?_
            refine WA.ex 4 rfl (by kernel_rfl) (by kernel_rfl) (by kernel_rfl) rfl ⟨_, sR⟩ (fun w_ hS_ => ex_load1 (v := .int .i64 x201.f_Kind) rfl Tryd.underlying35 rfl (held_cell sR hS_ (by rw [add_block]; exact hk213) rfl (cell212 1 _ rfl))) ?_
            refine WA.norm (listed' := #[true, true, true, true, true, false, false, false, false, false, false, false, false, false, false, false, false, false, false, false, false, false]) (by kernel_rfl) ?_
            refine WA.ex 5 rfl (by kernel_rfl) (by kernel_rfl) (by kernel_rfl) rfl ⟨_, sR⟩ (fun w_ hS_ => ex_move (v := v167) s8_168) ?_
            refine WA.norm (listed' := #[true, true, true, true, true, true, false, false, false, false, false, false, false, false, false, false, false, false, false, false, false, false]) (by kernel_rfl) ?_
            refine WA.ex 6 rfl (by kernel_rfl) (by kernel_rfl) (by kernel_rfl) rfl ⟨_, sR⟩ (fun w_ hS_ => ex_move (v := .int .i64 x169) s9_169) ?_
            refine WA.norm (listed' := #[true, true, true, true, true, true, true, false, false, false, false, false, false, false, false, false, false, false, false, false, false, false]) (by kernel_rfl) ?_
            obtain ⟨x214, hx214, H⟩ := bindE H
            obtain ⟨A219, c220, q221_⟩ := hO168.slice
            obtain ⟨ad215, cc222, e216, g217, g218, hl223, hR224, cell225⟩ := Row.ix (Own.rowOf hO168D q221_) hx214
            obtain rfl := T_dictumref02_special.opn hR224
            have hk226 := Row.at (Own.rowOf hO168D q221_) e216 hx214 (x169.toNat * 3)
            replace cell225 := fun j_ u_ hu_ => held_cell (Step.refl _ _ _) ⟨_, sR⟩ (by rw [add_block]; exact hk226) rfl (cell225 j_ u_ hu_)
            refine WA.ex 7 rfl (by kernel_rfl) (by kernel_rfl) (by kernel_rfl) rfl ⟨_, sR⟩ (fun w_ hS_ => ex_indexAddr (i := x169) ((show _ = (v167 : Value) from rfl).trans q221_) e216 rfl Tryd.underlying74 sz78 g217 g218) ?_
            refine WA.norm (listed' := #[true, true, true, true, true, true, true, true, false, false, false, false, false, false, false, false, false, false, false, false, false, false]) (by kernel_rfl) ?_
            refine WA.ex 8 rfl (by kernel_rfl) (by kernel_rfl) (by kernel_rfl) rfl ⟨_, sR⟩ (fun w_ hS_ => ex_fieldAddr rfl Tryd.underlying78 rfl sz9) ?_
            refine WA.norm (listed' := #[true, true, true, true, true, true, true, true, true, false, false, false, false, false, false, false, false, false, false, false, false, false]) (by kernel_rfl) ?_
            refine WA.ex 9 rfl (by kernel_rfl) (by kernel_rfl) (by kernel_rfl) rfl ⟨_, sR⟩ (fun w_ hS_ => ex_load1 (v := encS x214.f_Text) rfl Tryd.underlying9 rfl (held_cell sR hS_ (by rw [add_block]; exact hk226) rfl (cell225 2 _ rfl))) ?_
            refine WA.norm (listed' := #[true, true, true, true, true, true, true, true, true, true, false, false, false, false, false, false, false, false, false, false, false, false]) (by kernel_rfl) ?_
            refine WA.ex 10 rfl (by kernel_rfl) (by kernel_rfl) (by kernel_rfl) rfl ⟨_, sR⟩ (fun w_ hS_ => ex_build (cs := [.int .i64 x201.f_Kind, encS x214.f_Text, .int .i64 (0 : Int), .int .i64 (0 : Int), .int .i64 (0 : Int), .int .i64 (0 : Int)]) [(0, 1), (1, 1), (2, 1), (3, 3)] [(0, .int .i64 x201.f_Kind), (1, encS x214.f_Text)] [.int .i64 0, .string ⟨#[]⟩, .int .i64 0, .int .i64 0, .int .i64 0, .int .i64 0] Tryd.underlying37 zr37 rfl (by kernel_rfl) (evs_cons rfl (evs_cons rfl rfl)) rfl) ?_
            refine WA.norm (listed' := #[true, true, true, true, true, true, true, true, true, true, true, false, false, false, false, false, false, false, false, false, false, false]) (by kernel_rfl) ?_
            refine WA.ex 11 rfl (by kernel_rfl) (by kernel_rfl) (by kernel_rfl) rfl ⟨_, sR⟩ (fun w_ hS_ => ex_move (v := .int .i64 a1) s1_168) ?_
            refine WA.norm (listed' := #[true, true, true, true, true, true, true, true, true, true, true, true, false, false, false, false, false, false, false, false, false, false]) (by kernel_rfl) ?_
            refine WA.ex 12 rfl (by kernel_rfl) (by kernel_rfl) (by kernel_rfl) rfl ⟨_, sR⟩ (fun w_ hS_ => ex_move (v := v167) s8_168) ?_
            refine WA.norm (listed' := #[true, true, true, true, true, true, true, true, true, true, true, true, true, false, false, false, false, false, false, false, false, false]) (by kernel_rfl) ?_
            refine WA.ex 13 rfl (by kernel_rfl) (by kernel_rfl) (by kernel_rfl) rfl ⟨_, sR⟩ (fun w_ hS_ => ex_move (v := .int .i64 x169) s9_169) ?_
            refine WA.norm (listed' := #[true, true, true, true, true, true, true, true, true, true, true, true, true, true, false, false, false, false, false, false, false, false]) (by kernel_rfl) ?_
            obtain ⟨x227, hx227, H⟩ := bindE H
            obtain ⟨A232, c233, q234_⟩ := hO168.slice
            obtain ⟨ad228, cc235, e229, g230, g231, hl236, hR237, cell238⟩ := Row.ix (Own.rowOf hO168D q234_) hx227
            obtain rfl := T_dictumref02_special.opn hR237
            have hk239 := Row.at (Own.rowOf hO168D q234_) e229 hx227 (x169.toNat * 3)
            replace cell238 := fun j_ u_ hu_ => held_cell (Step.refl _ _ _) ⟨_, sR⟩ (by rw [add_block]; exact hk239) rfl (cell238 j_ u_ hu_)
            refine WA.ex 14 rfl (by kernel_rfl) (by kernel_rfl) (by kernel_rfl) rfl ⟨_, sR⟩ (fun w_ hS_ => ex_indexAddr (i := x169) ((show _ = (v167 : Value) from rfl).trans q234_) e229 rfl Tryd.underlying74 sz78 g230 g231) ?_
            refine WA.norm (listed' := #[true, true, true, true, true, true, true, true, true, true, true, true, true, true, true, false, false, false, false, false, false, false]) (by kernel_rfl) ?_
            refine WA.ex 15 rfl (by kernel_rfl) (by kernel_rfl) (by kernel_rfl) rfl ⟨_, sR⟩ (fun w_ hS_ => ex_fieldAddr rfl Tryd.underlying78 rfl sz9) ?_
            refine WA.norm (listed' := #[true, true, true, true, true, true, true, true, true, true, true, true, true, true, true, true, false, false, false, false, false, false]) (by kernel_rfl) ?_
            refine WA.ex 16 rfl (by kernel_rfl) (by kernel_rfl) (by kernel_rfl) rfl ⟨_, sR⟩ (fun w_ hS_ => ex_load1 (v := encS x227.f_Rune) rfl Tryd.underlying9 rfl (held_cell sR hS_ (by rw [add_block]; exact hk239) rfl (cell238 0 _ rfl))) ?_
            refine WA.norm (listed' := #[true, true, true, true, true, true, true, true, true, true, true, true, true, true, true, true, true, false, false, false, false, false]) (by kernel_rfl) ?_
            refine WA.ex 17 rfl (by kernel_rfl) (by kernel_rfl) (by kernel_rfl) rfl ⟨_, sR⟩ (fun w_ hS_ => ex_len_str (s := x227.f_Rune) rfl Tryd.underlying9) ?_
            refine WA.norm (listed' := #[true, true, true, true, true, true, true, true, true, true, true, true, true, true, true, true, true, true, false, false, false, false]) (by kernel_rfl) ?_
            refine WA.ex 18 rfl (by kernel_rfl) (by kernel_rfl) (by kernel_rfl) rfl ⟨_, sR⟩ (fun w_ hS_ => ex_bin (a := .int .i64 a1) (b := .int .i64 (x227.f_Rune.length : Int)) (v := .int .i64 (wrap64 (a1 + (x227.f_Rune.length : Int)))) rfl rfl bin_add64) ?_
            refine WA.norm (listed' := #[true, true, true, true, true, true, true, true, true, true, true, true, true, true, true, true, true, true, true, false, false, false]) (by kernel_rfl) ?_
            refine WA.one 19 (by kernel_rfl) rfl rfl ?_
            refine OW.store [.int .i64 x201.f_Kind, encS x214.f_Text, .int .i64 (0 : Int), .int .i64 (0 : Int), .int .i64 (0 : Int), .int .i64 (0 : Int)] s4_168 (vs := [.int .i64 x201.f_Kind, encS x214.f_Text, .int .i64 (0 : Int), .int .i64 (0 : Int), .int .i64 (0 : Int), .int .i64 (0 : Int)]) ((congrArg Value.cells (show ev _ _ = (.agg #[.int .i64 x201.f_Kind, encS x214.f_Text, .int .i64 (0 : Int), .int .i64 (0 : Int), .int .i64 (0 : Int), .int .i64 (0 : Int)] : Value) from rfl)).trans rfl) sz37 hB105 (Nat.le_of_ble_eq_true rfl) (by intro u_ hu_; simp only [List.mem_cons, List.not_mem_nil, or_false] at hu_; rcases hu_ with rfl | rfl | rfl | rfl | rfl | rfl <;> first | rfl) rfl ?_
            intro w240 s241 hB242
            replace hO168 := hO168.step s241 rfl rfl
            replace HF := HF.step s241 rfl
            replace sR := Step.trans sR s241 (M := [10]) rfl rfl
            refine ⟨⟨_, sR⟩, ?_⟩
            refine WA.norm (listed' := #[true, true, true, true, true, true, true, true, true, true, true, true, true, true, true, true, true, true, true, true, false, false]) (by kernel_rfl) ?_
            refine WA.ex 20 rfl (by kernel_rfl) (by kernel_rfl) (by kernel_rfl) rfl ⟨_, sR⟩ (fun w_ hS_ => ex_assign (v := .int .i64 (wrap64 (a1 + (x227.f_Rune.length : Int)))) rfl) ?_
            refine WA.norm (listed' := #[true, true, true, true, true, true, true, true, true, true, true, true, true, true, true, true, true, true, true, true, true, false]) (by kernel_rfl) ?_
            refine WA.ex 21 rfl (by kernel_rfl) (by kernel_rfl) (by kernel_rfl) rfl ⟨_, sR⟩ (fun w_ hS_ => ex_assign (v := .int .i64 0) rfl) ?_
            refine WA.norm (listed' := #[true, true, true, true, true, true, true, true, true, true, true, true, true, true, true, true, true, true, true, true, true, true]) (by kernel_rfl) ?_
            refine WA.done (by kernel_rfl) ?_
            refine WC.ret ?_
            obtain rfl := Option.some.inj H
            replace H := Ho172
            dsimp only at H
            obtain rfl := Option.some.inj H
            exact ⟨_, (.cell (.agg #[.int .i64 x201.f_Kind, encS x214.f_Text, .int .i64 (0 : Int), .int .i64 (0 : Int), .int .i64 (0 : Int), .int .i64 (0 : Int)] : Value) s4_168 (run_loadN (cs := [.int .i64 x201.f_Kind, encS x214.f_Text, .int .i64 (0 : Int), .int .i64 (0 : Int), .int .i64 (0 : Int), .int .i64 (0 : Int)]) Tryd.underlying37 rfl sz37 (hB242.cells rfl)) (.tmp (.int .i64 (wrap64 (a1 + (x227.f_Rune.length : Int))) : Value) rfl (.tmp (.int .i64 0 : Value) rfl .nil))), _, rfl, HF.out⟩
          ·
            refine WC.cond_f ((show _ = Value.bool z194 from rfl).trans (congrArg Value.bool c198)) ?_
            refine WC.skip ?_
            refine WC.region ?_
            refine WL.ex rfl (ex_move (v := .int .i64 x169) s9_169) ?_
            refine WL.ex rfl (ex_bin (a := .int .i64 x169) (b := .int .i64 1) (v := .int .i64 (wrap64 (x169 + 1))) rfl rfl bin_add64) ?_
            refine WL.ex rfl (ex_assign (v := .int .i64 (wrap64 (x169 + 1))) rfl) ?_
            refine WL.nil ?_
            exact ⟨k173, Nat.lt_succ_self _, ⟨_, wrap64 (x169 + 1), HF, hO168, hB105, s0_168, s1_168, s4_168, s5_168, s6_168, s8_168, rfl, H⟩⟩
        ·
          refine WC.cond_f ((show _ = Value.bool (decide (x169 < (z163.length : Int))) from rfl).trans (congrArg Value.bool c180)) ?_
          refine WC.exit ?_
          obtain rfl := Option.some.inj H
          exact ⟨_, HF, hB105, s0_168, s1_168, s4_168, s5_168, s6_168, rfl⟩

/-! ### dictumref02_Scan -/
set_option maxRecDepth 100000 in
theorem dictumref02_Scan.calls (k : Nat) (o0 : Tags) (w0 : World) (a0 : List UInt8) (r : (List T_api_Token) × T_api_Fault) (hO : ∀ b, b < w0.heap.size → o0 b < 10) (H : dictumref02_Scan.f k a0 = some r) :
    Calls Tryd.prog 15 [encS a0].toArray w0 fun e_ w_ => ∃ (o_ : Tags) (rv0 : Value), e_ = .returned (one [rv0, .agg #[.int .i64 r.2.f_Code, .int .i64 r.2.f_At.f_Line, .int .i64 r.2.f_At.f_Col, .int .i64 r.2.f_At.f_Off]]) ∧ Step o0 w0 o_ w_ [] ∧ Own T_api_Token.rep 37 9 o_ w_ rv0 r.1 := by
  have HF := Fm.refl hO []
  unfold dictumref02_Scan.f at H
  refine SX.calls [encS a0] Tryd.func15 rfl rfl ?_
  rw [Tryd.ntmps15]
  refine WC.seq ?_
  refine WC.region ?_
  refine WL.ex rfl (ex_assign (v := .slice none ([] : List T_api_Token).length 0) rfl) ?_
  refine WL.op rfl ?_
  refine OW.alloc' [.int .i64 (0 : Int), .int .i64 (0 : Int), .int .i64 (0 : Int), .int .i64 (0 : Int)] 10 HF rfl zr31 rfl ?_
  intro o102 w103 b101 s104 hB105
  replace HF := HF.step s104 rfl
  refine WL.nil ?_
  refine WC.seq ?_
  refine WC.region ?_
  refine WL.ex rfl (ex_assign (v := .slice none ([] : List T_api_Token).length 0) rfl) ?_
  refine WL.nil ?_
  refine WC.seq ?_
  refine WC.region ?_
  refine WL.ex rfl (ex_assign (v := .int .i64 0) rfl) ?_
  refine WL.nil ?_
  refine WC.seq ?_
  refine WC.region ?_
  refine WL.ex rfl (ex_build (cs := [.int .i64 1, .int .i64 1, .int .i64 (0 : Int)]) [(0, 1), (1, 1), (2, 1)] [(0, .int .i64 1), (1, .int .i64 1)] [.int .i64 0, .int .i64 0, .int .i64 0] Tryd.underlying23 zr23 rfl (by kernel_rfl) (evs_cons rfl (evs_cons rfl rfl)) rfl) ?_
  refine WL.op rfl ?_
  refine OW.alloc' [.int .i64 (0 : Int), .int .i64 (0 : Int), .int .i64 (0 : Int)] 11 HF rfl zr23 rfl ?_
  intro o107 w108 b106 s109 hB110
  replace hB105 := hB105.step s109 rfl
  replace HF := HF.step s109 rfl
  refine WL.op rfl ?_
  refine OW.store [.int .i64 1, .int .i64 1, .int .i64 (0 : Int)] rfl (vs := [.int .i64 1, .int .i64 1, .int .i64 (0 : Int)]) ((congrArg Value.cells (show ev _ _ = (.agg #[.int .i64 1, .int .i64 1, .int .i64 (0 : Int)] : Value) from rfl)).trans rfl) sz23 hB110 (Nat.le_of_ble_eq_true rfl) (by intro u_ hu_; simp only [List.mem_cons, List.not_mem_nil, or_false] at hu_; rcases hu_ with rfl | rfl | rfl <;> first | rfl) rfl ?_
  intro w111 s112 hB113
  replace hB105 := hB105.step s112 rfl
  replace HF := HF.step s112 rfl
  refine WL.nil ?_
  obtain ⟨z119, hz119, H⟩ := bindE H
  refine WC.for (fun k_ ρ_ w_ => ∃ (o_ : Tags) (x116 : (List T_api_Token)) (x117 : Int) (x118 : T_api_Spot) (v114 : Value), Fm o0 w0 o_ w_ [] ∧ Own T_api_Token.rep 37 14 o_ w_ v114 x116 ∧ Bk o_ w_ 10 b101 [.int .i64 (0 : Int), .int .i64 (0 : Int), .int .i64 (0 : Int), .int .i64 (0 : Int)] 31 ∧ Bk o_ w_ 11 b106 [.int .i64 x118.f_Line, .int .i64 x118.f_Col, .int .i64 x118.f_Off] 23 ∧ ρ_ 0 = encS a0 ∧ ρ_ 2 = .slice none ([] : List T_api_Token).length 0 ∧ ρ_ 3 = .pointer (some ⟨b101, 0, none⟩) ∧ ρ_ 4 = v114 ∧ ρ_ 5 = .int .i64 x117 ∧ ρ_ 6 = .pointer (some ⟨b106, 0, none⟩) ∧ dictumref02_Scan.l1 k a0 k_ x116 x117 x118 = some z119) k (fun ρ_ w_ => False) ⟨_, ([] : List T_api_Token), 0, (⟨1, 1, (0 : Int)⟩ : T_api_Spot), _, HF, Own.nil, hB105, hB113, rfl, rfl, rfl, rfl, rfl, rfl, hz119⟩ ?case120 ?_
  case case120 =>
    exact fun _ _ h_ => h_.elim
  have Ho121 := H
  rintro k122 ρ123 w124 ⟨o125, x116, x117, x118, v114, HF, hO115, hB105, hB113, s0_113, s2_113, s3_113, s4_116, s5_117, s6_117, H⟩
  cases k122 with
  | zero => cases H
  | succ k122 =>
  rw [dictumref02_Scan.l1.eq_2] at H
  refine WC.block ?_
  refine WC.seq ?_
  refine WC.region ?_
  refine WL.ex rfl (ex_move (v := encS a0) s0_113) ?_
  refine WL.ex rfl (ex_move (v := .int .i64 x117) s5_117) ?_
  obtain ⟨z126, hz126, H⟩ := bindE H
  refine WL.op rfl ?_
  refine OW.call [encS a0, .int .i64 x117] rfl Tryd.func30 (by kernel_rfl) (by kernel_rfl) (map_cons' rfl (map_cons' rfl rfl)) (dictumref02_skip.calls k _ _ a0 x117 z126 (HF.ten (V := [0]) (L := []) rfl)  hz126) ?_
  rintro _ w127 ⟨o128, rfl, s129⟩
  refine ⟨_, rfl, ?_⟩
  replace s129 := un_stepL (J := []) (L' := []) s129 rfl rfl
  replace hO115 := hO115.step s129 rfl rfl
  replace hB105 := hB105.step s129 rfl
  replace hB113 := hB113.step s129 rfl
  replace HF := HF.step s129 rfl
  refine WL.ex rfl (ex_assign (v := .int .i64 z126) rfl) ?_
  refine WL.nil ?_
  refine WC.seq ?_
  refine WC.region ?_
  refine WL.ex rfl (ex_move (v := encS a0) s0_113) ?_
  refine WL.ex rfl (ex_loadN (cs := [.int .i64 x118.f_Line, .int .i64 x118.f_Col, .int .i64 x118.f_Off]) s6_117 Tryd.underlying23 rfl sz23 (hB113.cells rfl)) ?_
  refine WL.ex rfl (ex_move (v := .int .i64 z126) rfl) ?_
  obtain ⟨z130, hz130, H⟩ := bindE H
  refine WL.op rfl ?_
  refine OW.call [encS a0, .agg #[.int .i64 x118.f_Line, .int .i64 x118.f_Col, .int .i64 x118.f_Off], .int .i64 z126] rfl Tryd.func23 (by kernel_rfl) (by kernel_rfl) (map_cons' rfl (map_cons' rfl (map_cons' rfl rfl))) (dictumref02_on.calls k _ _ a0 x118 z126 z130 (HF.ten (V := [0]) (L := []) rfl)  hz130) ?_
  rintro _ w131 ⟨o132, rfl, s133⟩
  refine ⟨_, rfl, ?_⟩
  replace s133 := un_stepL (J := []) (L' := []) s133 rfl rfl
  replace hO115 := hO115.step s133 rfl rfl
  replace hB105 := hB105.step s133 rfl
  replace hB113 := hB113.step s133 rfl
  replace HF := HF.step s133 rfl
  refine WL.op rfl ?_
  refine OW.store [.int .i64 z130.f_Line, .int .i64 z130.f_Col, .int .i64 z130.f_Off] s6_117 (vs := [.int .i64 z130.f_Line, .int .i64 z130.f_Col, .int .i64 z130.f_Off]) ((congrArg Value.cells (show ev _ _ = (.agg #[.int .i64 z130.f_Line, .int .i64 z130.f_Col, .int .i64 z130.f_Off] : Value) from rfl)).trans rfl) sz23 hB113 (Nat.le_of_ble_eq_true rfl) (by intro u_ hu_; simp only [List.mem_cons, List.not_mem_nil, or_false] at hu_; rcases hu_ with rfl | rfl | rfl <;> first | rfl) rfl ?_
  intro w134 s135 hB136
  replace hO115 := hO115.step s135 rfl rfl
  replace hB105 := hB105.step s135 rfl
  replace HF := HF.step s135 rfl
  refine WL.nil ?_
  refine WC.seq ?_
  refine WC.region ?_
  refine WL.ex rfl (ex_move (v := encS a0) s0_113) ?_
  refine WL.ex rfl (ex_move (v := .int .i64 z126) rfl) ?_
  obtain ⟨z137, hz137, H⟩ := bindE H
  refine WL.op rfl ?_
  refine OW.call [encS a0, .int .i64 z126] rfl Tryd.func31 (by kernel_rfl) (by kernel_rfl) (map_cons' rfl (map_cons' rfl rfl)) (dictumref02_one.calls k _ _ a0 z126 z137 (HF.ten (V := [0]) (L := []) rfl)  hz137) ?_
  rintro _ w138 ⟨o139, rfl, s140⟩
  refine ⟨_, rfl, ?_⟩
  replace s140 := un_stepL (J := []) (L' := []) s140 rfl rfl
  replace hO115 := hO115.step s140 rfl rfl
  replace hB105 := hB105.step s140 rfl
  replace hB136 := hB136.step s140 rfl
  replace HF := HF.step s140 rfl
  refine WL.ex rfl (ex_move (v := .tuple #[.agg #[.int .i64 z137.1.f_Kind, encS z137.1.f_Text, .int .i64 z137.1.f_Int, .int .i64 z137.1.f_At.f_Line, .int .i64 z137.1.f_At.f_Col, .int .i64 z137.1.f_At.f_Off], .int .i64 z137.2.1, .int .i64 z137.2.2]) rfl) ?_
  refine WL.ex rfl (ex_extract (vs := #[.agg #[.int .i64 z137.1.f_Kind, encS z137.1.f_Text, .int .i64 z137.1.f_Int, .int .i64 z137.1.f_At.f_Line, .int .i64 z137.1.f_At.f_Col, .int .i64 z137.1.f_At.f_Off], .int .i64 z137.2.1, .int .i64 z137.2.2]) (v := .agg #[.int .i64 z137.1.f_Kind, encS z137.1.f_Text, .int .i64 z137.1.f_Int, .int .i64 z137.1.f_At.f_Line, .int .i64 z137.1.f_At.f_Col, .int .i64 z137.1.f_At.f_Off]) rfl rfl) ?_
  refine WL.ex rfl (ex_extract (vs := #[.agg #[.int .i64 z137.1.f_Kind, encS z137.1.f_Text, .int .i64 z137.1.f_Int, .int .i64 z137.1.f_At.f_Line, .int .i64 z137.1.f_At.f_Col, .int .i64 z137.1.f_At.f_Off], .int .i64 z137.2.1, .int .i64 z137.2.2]) (v := .int .i64 z137.2.1) rfl rfl) ?_
  refine WL.ex rfl (ex_extract (vs := #[.agg #[.int .i64 z137.1.f_Kind, encS z137.1.f_Text, .int .i64 z137.1.f_Int, .int .i64 z137.1.f_At.f_Line, .int .i64 z137.1.f_At.f_Col, .int .i64 z137.1.f_At.f_Off], .int .i64 z137.2.1, .int .i64 z137.2.2]) (v := .int .i64 z137.2.2) rfl rfl) ?_
  refine WL.op rfl ?_
  refine OW.alloc' [.int .i64 (0 : Int), encS ([] : List UInt8), .int .i64 (0 : Int), .int .i64 (0 : Int), .int .i64 (0 : Int), .int .i64 (0 : Int)] 12 HF rfl zr37 rfl ?_
  intro o142 w143 b141 s144 hB145
  replace hO115 := hO115.step s144 rfl rfl
  replace hB105 := hB105.step s144 rfl
  replace hB136 := hB136.step s144 rfl
  replace HF := HF.step s144 rfl
  refine WL.op rfl ?_
  refine OW.store [.int .i64 z137.1.f_Kind, encS z137.1.f_Text, .int .i64 z137.1.f_Int, .int .i64 z137.1.f_At.f_Line, .int .i64 z137.1.f_At.f_Col, .int .i64 z137.1.f_At.f_Off] rfl (vs := [.int .i64 z137.1.f_Kind, encS z137.1.f_Text, .int .i64 z137.1.f_Int, .int .i64 z137.1.f_At.f_Line, .int .i64 z137.1.f_At.f_Col, .int .i64 z137.1.f_At.f_Off]) ((congrArg Value.cells (show ev _ _ = (.agg #[.int .i64 z137.1.f_Kind, encS z137.1.f_Text, .int .i64 z137.1.f_Int, .int .i64 z137.1.f_At.f_Line, .int .i64 z137.1.f_At.f_Col, .int .i64 z137.1.f_At.f_Off] : Value) from rfl)).trans rfl) sz37 hB145 (Nat.le_of_ble_eq_true rfl) (by intro u_ hu_; simp only [List.mem_cons, List.not_mem_nil, or_false] at hu_; rcases hu_ with rfl | rfl | rfl | rfl | rfl | rfl <;> first | rfl) rfl ?_
  intro w146 s147 hB148
  replace hO115 := hO115.step s147 rfl rfl
  replace hB105 := hB105.step s147 rfl
  replace hB136 := hB136.step s147 rfl
  replace HF := HF.step s147 rfl
  refine WL.ex rfl (ex_assign (v := .int .i64 z137.2.1) rfl) ?_
  refine WL.ex rfl (ex_assign (v := .int .i64 z137.2.2) rfl) ?_
  refine WL.nil ?_
  refine WC.seq ?_
  refine WC.seq ?_
  refine WC.region ?_
  refine WL.ex rfl (ex_move (v := .int .i64 z137.2.2) rfl) ?_
  refine WL.ex rfl (ex_bin (a := .int .i64 z137.2.2) (b := .int .i64 0) (v := .bool (z137.2.2 != 0)) rfl rfl bin_neq) ?_
  refine WL.nil ?_
  rcases condE H with ⟨c149, H⟩ | ⟨c149, H⟩
  ·
    refine WC.cond_t ((show _ = Value.bool (z137.2.2 != 0) from rfl).trans (congrArg Value.bool c149)) ?_
    refine WC.seq ?_
    refine WC.regionD' HF [10] 5 (by kernel_rfl) rfl ?_
    intro w150 s151
    replace hO115 := hO115.step s151 rfl rfl
    replace hB105 := hB105.step s151 rfl
    replace hB136 := hB136.step s151 rfl
    replace hB148 := hB148.step s151 rfl
    replace HF := HF.step s151 rfl
    have hO115D := hO115
    have hB105D := hB105
    have hB136D := hB136
    have hB148D := hB148
    have sR := HF.here [10]
    refine WA.norm (listed' := #[false, false, false, false, false]) (by kernel_rfl) ?_
    refine WA.ex 0 rfl (by kernel_rfl) (by kernel_rfl) (by kernel_rfl) rfl ⟨_, sR⟩ (fun w_ hS_ => ex_move (v := .int .i64 z137.2.2) rfl) ?_
    refine WA.norm (listed' := #[true, false, false, false, false]) (by kernel_rfl) ?_
    refine WA.ex 1 rfl (by kernel_rfl) (by kernel_rfl) (by kernel_rfl) rfl ⟨_, sR⟩ (fun w_ hS_ => ex_loadN (cs := [.int .i64 z130.f_Line, .int .i64 z130.f_Col, .int .i64 z130.f_Off]) s6_117 Tryd.underlying23 rfl sz23 ((hB136D.step hS_.choose_spec rfl).cells rfl)) ?_
    refine WA.norm (listed' := #[true, true, false, false, false]) (by kernel_rfl) ?_
    refine WA.ex 2 rfl (by kernel_rfl) (by kernel_rfl) (by kernel_rfl) rfl ⟨_, sR⟩ (fun w_ hS_ => ex_build (cs := [.int .i64 z137.2.2, .int .i64 z130.f_Line, .int .i64 z130.f_Col, .int .i64 z130.f_Off]) [(0, 1), (1, 3)] [(0, .int .i64 z137.2.2), (1, .agg #[.int .i64 z130.f_Line, .int .i64 z130.f_Col, .int .i64 z130.f_Off])] [.int .i64 0, .int .i64 0, .int .i64 0, .int .i64 0] Tryd.underlying31 zr31 rfl (by kernel_rfl) (evs_cons rfl (evs_cons rfl rfl)) rfl) ?_
    refine WA.norm (listed' := #[true, true, true, false, false]) (by kernel_rfl) ?_
    refine WA.ex 3 rfl (by kernel_rfl) (by kernel_rfl) (by kernel_rfl) rfl ⟨_, sR⟩ (fun w_ hS_ => ex_assign (v := .slice none ([] : List T_api_Token).length 0) rfl) ?_
    refine WA.norm (listed' := #[true, true, true, true, false]) (by kernel_rfl) ?_
    refine WA.one 4 (by kernel_rfl) rfl rfl ?_
    refine OW.store [.int .i64 z137.2.2, .int .i64 z130.f_Line, .int .i64 z130.f_Col, .int .i64 z130.f_Off] s3_113 (vs := [.int .i64 z137.2.2, .int .i64 z130.f_Line, .int .i64 z130.f_Col, .int .i64 z130.f_Off]) ((congrArg Value.cells (show ev _ _ = (.agg #[.int .i64 z137.2.2, .int .i64 z130.f_Line, .int .i64 z130.f_Col, .int .i64 z130.f_Off] : Value) from rfl)).trans rfl) sz31 hB105 (Nat.le_of_ble_eq_true rfl) (by intro u_ hu_; simp only [List.mem_cons, List.not_mem_nil, or_false] at hu_; rcases hu_ with rfl | rfl | rfl | rfl <;> first | rfl) rfl ?_
    intro w152 s153 hB154
    replace hO115 := hO115.step s153 rfl rfl
    replace hB136 := hB136.step s153 rfl
    replace hB148 := hB148.step s153 rfl
    replace HF := HF.step s153 rfl
    replace sR := Step.trans sR s153 (M := [10]) rfl rfl
    refine ⟨⟨_, sR⟩, ?_⟩
    refine WA.norm (listed' := #[true, true, true, true, true]) (by kernel_rfl) ?_
    refine WA.done (by kernel_rfl) ?_
    refine WC.ret ?_
    obtain rfl := Option.some.inj H
    replace H := Ho121
    dsimp only at H
    obtain rfl := Option.some.inj H
    exact ⟨_, (.tmp (.slice none ([] : List T_api_Token).length 0 : Value) rfl (.cell (.agg #[.int .i64 z137.2.2, .int .i64 z130.f_Line, .int .i64 z130.f_Col, .int .i64 z130.f_Off] : Value) s3_113 (run_loadN (cs := [.int .i64 z137.2.2, .int .i64 z130.f_Line, .int .i64 z130.f_Col, .int .i64 z130.f_Off]) Tryd.underlying31 rfl sz31 (hB154.cells rfl)) .nil)), _, (.slice none 0 0), rfl, HF.out, Own.nil⟩
  ·
    refine WC.cond_f ((show _ = Value.bool (z137.2.2 != 0) from rfl).trans (congrArg Value.bool c149)) ?_
    refine WC.skip ?_
    refine WC.seq ?_
    refine WC.region ?_
    refine WL.ex rfl (ex_loadN (cs := [.int .i64 z130.f_Line, .int .i64 z130.f_Col, .int .i64 z130.f_Off]) s6_117 Tryd.underlying23 rfl sz23 (hB136.cells rfl)) ?_
    refine WL.ex rfl (ex_fieldAddr rfl Tryd.underlying37 rfl sz23) ?_
    refine WL.op rfl ?_
    refine OW.store [.int .i64 z137.1.f_Kind, encS z137.1.f_Text, .int .i64 z137.1.f_Int, .int .i64 z130.f_Line, .int .i64 z130.f_Col, .int .i64 z130.f_Off] rfl (vs := [.int .i64 z130.f_Line, .int .i64 z130.f_Col, .int .i64 z130.f_Off]) ((congrArg Value.cells (show ev _ _ = (.agg #[.int .i64 z130.f_Line, .int .i64 z130.f_Col, .int .i64 z130.f_Off] : Value) from rfl)).trans rfl) sz23 hB148 (Nat.le_of_ble_eq_true rfl) (by intro u_ hu_; simp only [List.mem_cons, List.not_mem_nil, or_false] at hu_; rcases hu_ with rfl | rfl | rfl <;> first | rfl) rfl ?_
    intro w155 s156 hB157
    replace hO115 := hO115.step s156 rfl rfl
    replace hB105 := hB105.step s156 rfl
    replace hB136 := hB136.step s156 rfl
    replace HF := HF.step s156 rfl
    refine WL.nil ?_
    refine WC.seq ?_
    refine WC.region ?_
    refine WL.ex rfl (ex_move (v := v114) s4_116) ?_
    refine WL.ex rfl (ex_loadN (cs := [.int .i64 z137.1.f_Kind, encS z137.1.f_Text, .int .i64 z137.1.f_Int, .int .i64 z130.f_Line, .int .i64 z130.f_Col, .int .i64 z130.f_Off]) rfl Tryd.underlying37 rfl sz37 (hB157.cells rfl)) ?_
    refine WL.op rfl ?_
    refine OW.row (r := T_api_Token.rep) (xs := [(⟨z137.1.f_Kind, z137.1.f_Text, z137.1.f_Int, (⟨z130.f_Line, z130.f_Col, z130.f_Off⟩ : T_api_Spot)⟩ : T_api_Token)]) [(0, .agg #[.int .i64 z137.1.f_Kind, encS z137.1.f_Text, .int .i64 z137.1.f_Int, .int .i64 z130.f_Line, .int .i64 z130.f_Col, .int .i64 z130.f_Off])] [[.int .i64 z137.1.f_Kind, encS z137.1.f_Text, .int .i64 z137.1.f_Int, .int .i64 z130.f_Line, .int .i64 z130.f_Col, .int .i64 z130.f_Off]] 13 HF rfl Tryd.underlying28 sz37 zr37 rfl (evs_cons rfl rfl) rfl rfl ⟨(T_api_Token.mk' (⟨z137.1.f_Kind, z137.1.f_Text, z137.1.f_Int, (⟨z130.f_Line, z130.f_Col, z130.f_Off⟩ : T_api_Spot)⟩ : T_api_Token) ), trivial⟩ rfl rfl rfl rfl ?_
    intro o158 w159 v161 s160 hO162
    replace hO115 := hO115.step s160 rfl rfl
    replace hB105 := hB105.step s160 rfl
    replace hB136 := hB136.step s160 rfl
    replace hB157 := hB157.step s160 rfl
    replace HF := HF.step s160 rfl
    obtain ⟨A163, c164, q165_, _, q165⟩ := hO162.row
    obtain ⟨u166, hu166, H⟩ := bindE H
    refine WL.op rfl ?_
    refine OW.append (r := T_api_Token.rep) (E := 37) (i := 14) rfl Tryd.underlying28 inf37 rfl (by decide) (by decide) (by decide) rfl ((show _ = (v161 : Value) from rfl).trans q165_) hO115 q165 rfl (of_decide_eq_true (chk_true hu166)) ?_
    intro o167 w168 v169 s170 hO171
    replace hB105 := hB105.step s170 rfl
    replace hB136 := hB136.step s170 rfl
    replace hB157 := hB157.step s170 rfl
    replace hO162 := hO162.step s170 rfl rfl
    replace HF := HF.step s170 rfl
    refine WL.ex rfl (ex_assign (v := v169) rfl) ?_
    refine WL.nil ?_
    refine WC.seq ?_
    refine WC.seq ?_
    refine WC.region ?_
    refine WL.ex rfl (ex_fieldAddr rfl Tryd.underlying37 rfl sz35) ?_
    refine WL.ex rfl (ex_load1 (v := .int .i64 z137.1.f_Kind) rfl Tryd.underlying35 rfl (hB157.cell rfl)) ?_
    refine WL.ex rfl (ex_bin (a := .int .i64 z137.1.f_Kind) (b := .int .i64 0) (v := .bool (z137.1.f_Kind == 0)) rfl rfl bin_eql) ?_
    refine WL.nil ?_
    rcases condE H with ⟨c172, H⟩ | ⟨c172, H⟩
    ·
      refine WC.cond_t ((show _ = Value.bool (z137.1.f_Kind == 0) from rfl).trans (congrArg Value.bool c172)) ?_
      refine WC.seq ?_
      refine WC.region ?_
      refine WL.ex rfl (ex_move (v := v169) rfl) ?_
      refine WL.ex rfl (ex_build (cs := [.int .i64 (0 : Int), .int .i64 (0 : Int), .int .i64 (0 : Int), .int .i64 (0 : Int)]) [(0, 1), (1, 3)] [] [.int .i64 0, .int .i64 0, .int .i64 0, .int .i64 0] Tryd.underlying31 zr31 rfl (by kernel_rfl) rfl rfl) ?_
      refine WL.ex rfl (ex_assign (v := v169) rfl) ?_
      refine WL.op rfl ?_
      refine OW.store [.int .i64 (0 : Int), .int .i64 (0 : Int), .int .i64 (0 : Int), .int .i64 (0 : Int)] s3_113 (vs := [.int .i64 (0 : Int), .int .i64 (0 : Int), .int .i64 (0 : Int), .int .i64 (0 : Int)]) ((congrArg Value.cells (show ev _ _ = (.agg #[.int .i64 (0 : Int), .int .i64 (0 : Int), .int .i64 (0 : Int), .int .i64 (0 : Int)] : Value) from rfl)).trans rfl) sz31 hB105 (Nat.le_of_ble_eq_true rfl) (by intro u_ hu_; simp only [List.mem_cons, List.not_mem_nil, or_false] at hu_; rcases hu_ with rfl | rfl | rfl | rfl <;> first | rfl) rfl ?_
      intro w173 s174 hB175
      replace hB136 := hB136.step s174 rfl
      replace hB157 := hB157.step s174 rfl
      replace hO162 := hO162.step s174 rfl rfl
      replace hO171 := hO171.step s174 rfl rfl
      replace HF := HF.step s174 rfl
      refine WL.nil ?_
      refine WC.ret ?_
      obtain rfl := Option.some.inj H
      replace H := Ho121
      dsimp only at H
      obtain rfl := Option.some.inj H
      replace hO171 := Own.renTo (j := 9) hO171 rfl
      replace HF := HF.ren (i := 14) (j := 9) rfl
      exact ⟨_, (.tmp (v169 : Value) rfl (.cell (.agg #[.int .i64 (0 : Int), .int .i64 (0 : Int), .int .i64 (0 : Int), .int .i64 (0 : Int)] : Value) s3_113 (run_loadN (cs := [.int .i64 (0 : Int), .int .i64 (0 : Int), .int .i64 (0 : Int), .int .i64 (0 : Int)]) Tryd.underlying31 rfl sz31 (hB175.cells rfl)) .nil)), _, v169, rfl, HF.out, hO171⟩
    ·
      refine WC.cond_f ((show _ = Value.bool (z137.1.f_Kind == 0) from rfl).trans (congrArg Value.bool c172)) ?_
      refine WC.skip ?_
      refine WC.region ?_
      refine WL.ex rfl (ex_move (v := .int .i64 z137.2.1) rfl) ?_
      refine WL.ex rfl (ex_assign (v := .int .i64 z137.2.1) rfl) ?_
      refine WL.nil ?_
      exact ⟨k122, Nat.lt_succ_self _, ⟨_, (x116 ++ [(⟨z137.1.f_Kind, z137.1.f_Text, z137.1.f_Int, (⟨z130.f_Line, z130.f_Col, z130.f_Off⟩ : T_api_Spot)⟩ : T_api_Token)]), z137.2.1, z130, _, HF, hO171, hB105, hB136, s0_113, s2_113, s3_113, rfl, rfl, s6_117, H⟩⟩
end Go.Proofs.YtjhmhdedonibbaaDoor.X
