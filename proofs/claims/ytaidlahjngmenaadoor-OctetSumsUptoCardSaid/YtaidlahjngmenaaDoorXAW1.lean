import Derived.Test.YtaidlahjngmenaaDoorXAW0
set_option maxRecDepth 20000
set_option linter.unusedVariables false
set_option linter.unusedSimpArgs false
namespace Go.Proofs.YtaidlahjngmenaaDoor.X
open Go Go.RowKit Go.Proofs.YtaidlahjngmenaaDoor.SX
/-! ### dictumlaw01_OctetSums -/
set_option maxRecDepth 100000 in
theorem dictumlaw01_OctetSums.calls (k : Nat) (o0 : Tags) (w0 : World) (pA0 : Option Addr) (pc0 : Nat) (pA2 : Option Addr) (pc2 : Nat) (a0 : (List UInt8)) (a1 : Int) (a2 : (List UInt8)) (r : Bool) (hO : ∀ b, b < w0.heap.size → o0 b < 10) (hra0 : Row Rep.u8 (fun b_ => o0 b_ = 0) (fun b_ => o0 b_ = 0) w0 pA0 a0) (hla0 : a0.length ≤ pc0) (hra2 : Row Rep.u8 (fun b_ => o0 b_ = 0) (fun b_ => o0 b_ = 0) w0 pA2 a2) (hla2 : a2.length ≤ pc2) (hG : Gl GG o0 w0) (H : dictumlaw01_OctetSums.f k a0 a1 a2 = some r) :
    Calls Tryd.prog 4 [.slice pA0 a0.length pc0, .int .i64 a1, .slice pA2 a2.length pc2].toArray w0 fun e_ w_ => ∃ (o_ : Tags), e_ = .returned (one [.bool r]) ∧ Step o0 w0 o_ w_ [] := by
  have HF := Fm.refl hO []
  unfold dictumlaw01_OctetSums.f at H
  refine SX.calls [.slice pA0 a0.length pc0, .int .i64 a1, .slice pA2 a2.length pc2] Tryd.func4 rfl rfl ?_
  rw [Tryd.ntmps4]
  refine WC.seq ?_
  refine WC.region ?_
  refine WL.ex rfl (ex_assign (v := .bool false) rfl) ?_
  refine WL.nil ?_
  refine WC.seq ?_
  refine WC.region ?_
  refine WL.ex rfl (ex_move (v := .int .i64 a1) rfl) ?_
  refine WL.ex rfl (ex_conv_u64 (k := .i64) (a := a1) rfl Tryd.underlying3 Tryd.underlying29) ?_
  refine WL.ex rfl (ex_move (v := .slice pA0 a0.length pc0) rfl) ?_
  refine WL.ex rfl (ex_len_slice (A := pA0) (m := a0.length) (c := pc0) rfl Tryd.underlying24) ?_
  refine WL.ex rfl (ex_bin (a := .int .i64 (a0.length : Int)) (b := .int .i64 1) (v := .int .i64 (wrap64 ((a0.length : Int) + 1))) rfl rfl bin_add64) ?_
  refine WL.ex rfl (ex_conv_u64 (k := .i64) (a := (wrap64 ((a0.length : Int) + 1))) rfl Tryd.underlying3 Tryd.underlying29) ?_
  obtain ⟨u101, hu101, H⟩ := bindE H
  refine WL.ex rfl (ex_bin (a := enc64 (ofI64 a1)) (b := enc64 (ofI64 (wrap64 ((a0.length : Int) + 1)))) (v := enc64 ((ofI64 a1) % (ofI64 (wrap64 ((a0.length : Int) + 1))))) rfl rfl (bin_rem_u64 (by have h_ := chk_true hu101; simpa using h_))) ?_
  refine WL.ex rfl (ex_conv64 (k := .u64) (a := (((ofI64 a1) % (ofI64 (wrap64 ((a0.length : Int) + 1)))).toNat : Int)) rfl Tryd.underlying29 Tryd.underlying3) ?_
  refine WL.ex rfl (ex_assign (v := .int .i64 (wrap64 (((ofI64 a1) % (ofI64 (wrap64 ((a0.length : Int) + 1)))).toNat : Int))) rfl) ?_
  refine WL.nil ?_
  refine WC.seq ?_
  refine WC.region ?_
  refine WL.op rfl ?_
  refine OW.row (r := Rep.u8) (xs := ([] : List UInt8)) [] [] 10 HF rfl Tryd.underlying24 sz5 zr5 rfl rfl rfl rfl trivial rfl rfl rfl rfl ?_
  intro o102 w103 v105 s104 hO106
  replace hra0 := hra0.step s104 rfl
  replace hra2 := hra2.step s104 rfl
  replace hG := hG.step s104 rfl
  replace HF := HF.step s104 rfl
  refine WL.ex rfl (ex_move (v := .slice pA0 a0.length pc0) rfl) ?_
  obtain ⟨u107, hu107, H⟩ := bindE H
  refine WL.op rfl ?_
  refine OW.append (r := Rep.u8) (E := 5) (i := 10) rfl Tryd.underlying24 inf5 rfl (by decide) (by decide) (by decide) rfl rfl hO106 (hra0) rfl (of_decide_eq_true (chk_true hu107)) ?_
  intro o108 w109 v110 s111 hO112
  replace hra0 := hra0.step s111 rfl
  replace hra2 := hra2.step s111 rfl
  replace hG := hG.step s111 rfl
  replace HF := HF.step s111 rfl
  refine WL.ex rfl (ex_assign (v := v110) rfl) ?_
  refine WL.nil ?_
  refine WC.seq ?_
  refine WC.region ?_
  refine WL.ex rfl (ex_move (v := v110) rfl) ?_
  obtain ⟨A113, c114, q115e, q115l, q115⟩ := Own.vwRow (V := [0, 10]) (L := []) hO112 rfl rfl
  obtain ⟨z116, hz116, H⟩ := bindE H
  have q115e' := q115e
  refine WL.op rfl ?_
  refine OW.call [v110] rfl Tryd.func13 (by kernel_rfl) (by kernel_rfl) (map_cons' rfl rfl) (by simp only [q115e]; exact (octet_Seal.calls k _ _ A113 c114 (([] : List UInt8) ++ a0) z116 (HF.ten (V := [0, 10]) (L := []) rfl) q115 q115l hz116)) ?_
  rintro _ w117 ⟨o118, v120, rfl, s119, hO121⟩
  refine ⟨_, rfl, ?_⟩
  replace hO121 := Own.un9f (J := [11]) 0 (fun h => h) hO121 rfl s119 rfl rfl
  replace s119 := un_stepL (J := [11]) (L' := []) s119 rfl rfl
  replace hra0 := hra0.step s119 rfl
  replace hra2 := hra2.step s119 rfl
  replace hG := hG.step s119 rfl
  replace hO112 := hO112.step s119 rfl rfl
  replace HF := HF.step s119 rfl
  refine WL.ex rfl (ex_assign (v := v120) rfl) ?_
  refine WL.nil ?_
  refine WC.seq ?_
  obtain ⟨z127, hz127, H⟩ := bindE H
  refine WC.cut (fun ρ_ w_ => ∃ (o_ : Tags) (A122 : Option Addr) (c123 : Nat), Fm o0 w0 o_ w_ [] ∧ Row Rep.u8 (fun b_ => o_ b_ = 0) (fun b_ => o_ b_ = 0) w_ pA0 a0 ∧ Row Rep.u8 (fun b_ => o_ b_ = 0) (fun b_ => o_ b_ = 0) w_ pA2 a2 ∧ Row Rep.u8 (fun b_ => o_ b_ = 0) (fun b_ => o_ b_ = 0) w_ A122 (([] : List UInt8) ++ a0) ∧ (([] : List UInt8) ++ a0).length ≤ c123 ∧ Own Rep.u8 5 11 o_ w_ v120 z116 ∧ Gl GG o_ w_ ∧ ρ_ 0 = .slice pA0 a0.length pc0 ∧ ρ_ 2 = .slice pA2 a2.length pc2 ∧ ρ_ 6 = .bool false ∧ ρ_ 8 = .slice A122 (([] : List UInt8) ++ a0).length c123 ∧ ρ_ 9 = v120 ∧ ρ_ 59 = .bool z127) ?case128 ?_
  case case128 =>
    rintro ρ131 w129 ⟨o130, A122, c123, HF, hra0, hra2, hr124, hl125, hO121, hG, s0_121, s2_121, s6_121, s8_125, s9_125, s59_126⟩
    rcases condE H with ⟨c132, H⟩ | ⟨c132, H⟩
    ·
      refine WC.cond_t ((show _ = Value.bool z127 from s59_126).trans (congrArg Value.bool c132)) ?_
      refine WC.seq ?_
      refine WC.region ?_
      refine WL.ex rfl (ex_assign (v := .bool false) rfl) ?_
      refine WL.nil ?_
      refine WC.ret ?_
      obtain rfl := Option.some.inj H
      exact ⟨_, (.tmp (.bool false : Value) rfl .nil), _, rfl, HF.out⟩
    ·
      refine WC.cond_f ((show _ = Value.bool z127 from s59_126).trans (congrArg Value.bool c132)) ?_
      refine WC.skip ?_
      refine WC.seq ?_
      refine WC.region ?_
      refine WL.ex rfl (ex_move (v := v120) s9_125) ?_
      obtain ⟨A133, c134, q135e, q135l, q135⟩ := Own.vwRow (V := [0, 11]) (L := []) hO121 rfl rfl
      obtain ⟨z136, hz136, H⟩ := bindE H
      have q135e' := q135e
      refine WL.op rfl ?_
      refine OW.call [v120] rfl Tryd.func17 (by kernel_rfl) (by kernel_rfl) (map_cons' rfl rfl) (by simp only [q135e]; exact (octet_Open.calls k _ _ A133 c134 z116 z136 (HF.ten (V := [0, 11]) (L := []) rfl) q135 q135l hz136)) ?_
      rintro _ w137 ⟨o138, v140, rfl, s139, hO141⟩
      refine ⟨_, rfl, ?_⟩
      replace hO141 := Own.un9f (J := [12]) 0 (fun h => h) hO141 rfl s139 rfl rfl
      replace s139 := un_stepL (J := [12]) (L' := []) s139 rfl rfl
      replace hra0 := hra0.step s139 rfl
      replace hra2 := hra2.step s139 rfl
      replace hr124 := hr124.step s139 rfl
      replace hO121 := hO121.step s139 rfl rfl
      replace hG := hG.step s139 rfl
      replace HF := HF.step s139 rfl
      refine WL.ex rfl (ex_move (v := .tuple #[v140, .int .i64 z136.2]) rfl) ?_
      refine WL.ex rfl (ex_extract (vs := #[v140, .int .i64 z136.2]) (v := v140) rfl rfl) ?_
      refine WL.ex rfl (ex_extract (vs := #[v140, .int .i64 z136.2]) (v := .int .i64 z136.2) rfl rfl) ?_
      refine WL.ex rfl (ex_assign (v := v140) rfl) ?_
      refine WL.ex rfl (ex_assign (v := .int .i64 z136.2) rfl) ?_
      refine WL.nil ?_
      refine WC.seq ?_
      obtain ⟨z143, hz143, H⟩ := bindE H
      refine WC.cut (fun ρ_ w_ => ∃ (o_ : Tags), Fm o0 w0 o_ w_ [] ∧ Row Rep.u8 (fun b_ => o_ b_ = 0) (fun b_ => o_ b_ = 0) w_ pA0 a0 ∧ Row Rep.u8 (fun b_ => o_ b_ = 0) (fun b_ => o_ b_ = 0) w_ pA2 a2 ∧ Row Rep.u8 (fun b_ => o_ b_ = 0) (fun b_ => o_ b_ = 0) w_ A122 (([] : List UInt8) ++ a0) ∧ (([] : List UInt8) ++ a0).length ≤ c123 ∧ Own Rep.u8 5 11 o_ w_ v120 z116 ∧ Own Rep.u8 5 12 o_ w_ v140 z136.1 ∧ Gl GG o_ w_ ∧ ρ_ 0 = .slice pA0 a0.length pc0 ∧ ρ_ 2 = .slice pA2 a2.length pc2 ∧ ρ_ 6 = .bool false ∧ ρ_ 8 = .slice A122 (([] : List UInt8) ++ a0).length c123 ∧ ρ_ 9 = v120 ∧ ρ_ 10 = v140 ∧ ρ_ 72 = .bool z143) ?case144 ?_
      case case144 =>
        rintro ρ147 w145 ⟨o146, HF, hra0, hra2, hr124, hl125, hO121, hO141, hG, s0_141, s2_141, s6_141, s8_141, s9_141, s10_141, s72_142⟩
        rcases condE H with ⟨c148, H⟩ | ⟨c148, H⟩
        ·
          refine WC.cond_t ((show _ = Value.bool z143 from s72_142).trans (congrArg Value.bool c148)) ?_
          refine WC.seq ?_
          refine WC.region ?_
          refine WL.ex rfl (ex_assign (v := .bool false) rfl) ?_
          refine WL.nil ?_
          refine WC.ret ?_
          obtain rfl := Option.some.inj H
          exact ⟨_, (.tmp (.bool false : Value) rfl .nil), _, rfl, HF.out⟩
        ·
          refine WC.cond_f ((show _ = Value.bool z143 from s72_142).trans (congrArg Value.bool c148)) ?_
          refine WC.skip ?_
          refine WC.seq ?_
          refine WC.seq ?_
          refine WC.region ?_
          refine WL.ex rfl (ex_assign (v := .int .i64 0) rfl) ?_
          refine WL.nil ?_
          obtain ⟨z153, hz153, H⟩ := bindE H
          refine WC.for (fun k_ ρ_ w_ => ∃ (o_ : Tags) (x151 : (List UInt8)) (x152 : Int) (v149 : Value), Fm o0 w0 o_ w_ [] ∧ Row Rep.u8 (fun b_ => o_ b_ = 0) (fun b_ => o_ b_ = 0) w_ pA0 a0 ∧ Row Rep.u8 (fun b_ => o_ b_ = 0) (fun b_ => o_ b_ = 0) w_ pA2 a2 ∧ Row Rep.u8 (fun b_ => o_ b_ = 0) (fun b_ => o_ b_ = 0) w_ A122 (([] : List UInt8) ++ a0) ∧ (([] : List UInt8) ++ a0).length ≤ c123 ∧ Own Rep.u8 5 11 o_ w_ v120 z116 ∧ Own Rep.u8 5 12 o_ w_ v149 x151 ∧ Gl GG o_ w_ ∧ ρ_ 0 = .slice pA0 a0.length pc0 ∧ ρ_ 2 = .slice pA2 a2.length pc2 ∧ ρ_ 6 = .bool false ∧ ρ_ 8 = .slice A122 (([] : List UInt8) ++ a0).length c123 ∧ ρ_ 9 = v120 ∧ ρ_ 10 = v149 ∧ ρ_ 12 = .int .i64 x152 ∧ dictumlaw01_OctetSums.l1 k k_ x151 x152 = some z153) k (fun ρ_ w_ => ∃ (o_ : Tags), Fm o0 w0 o_ w_ [] ∧ Row Rep.u8 (fun b_ => o_ b_ = 0) (fun b_ => o_ b_ = 0) w_ pA0 a0 ∧ Row Rep.u8 (fun b_ => o_ b_ = 0) (fun b_ => o_ b_ = 0) w_ pA2 a2 ∧ Row Rep.u8 (fun b_ => o_ b_ = 0) (fun b_ => o_ b_ = 0) w_ A122 (([] : List UInt8) ++ a0) ∧ (([] : List UInt8) ++ a0).length ≤ c123 ∧ Own Rep.u8 5 11 o_ w_ v120 z116 ∧ Gl GG o_ w_ ∧ ρ_ 0 = .slice pA0 a0.length pc0 ∧ ρ_ 2 = .slice pA2 a2.length pc2 ∧ ρ_ 6 = .bool false ∧ ρ_ 8 = .slice A122 (([] : List UInt8) ++ a0).length c123 ∧ ρ_ 9 = v120) ⟨_, z136.1, 0, _, HF, hra0, hra2, hr124, hl125, hO121, hO141, hG, s0_141, s2_141, s6_141, s8_141, s9_141, s10_141, rfl, hz153⟩ ?case154 ?_
          case case154 =>
            rintro ρ189 w187 ⟨o188, HF, hra0, hra2, hr124, hl125, hO121, hG, s0_152, s2_152, s6_152, s8_152, s9_152⟩
            refine WC.seq ?_
            refine WC.region ?_
            refine WL.ex rfl (ex_move (v := .slice pA2 a2.length pc2) s2_152) ?_
            obtain ⟨z190, hz190, H⟩ := bindE H
            refine WL.op rfl ?_
            refine OW.call [.slice pA2 a2.length pc2] rfl Tryd.func17 (by kernel_rfl) (by kernel_rfl) (map_cons' rfl rfl) (octet_Open.calls k _ _ pA2 pc2 a2 z190 (HF.ten (V := [0]) (L := []) rfl) (Row.vw (V := [0]) (L := []) hra2 rfl) hla2 hz190) ?_
            rintro _ w191 ⟨o192, v194, rfl, s193, hO195⟩
            refine ⟨_, rfl, ?_⟩
            replace hO195 := Own.un9 (J := [13]) 0 hO195 rfl s193 rfl rfl
            replace s193 := un_stepL (J := [13]) (L' := []) s193 rfl rfl
            replace hra0 := hra0.step s193 rfl
            replace hra2 := hra2.step s193 rfl
            replace hr124 := hr124.step s193 rfl
            replace hO121 := hO121.step s193 rfl rfl
            replace hG := hG.step s193 rfl
            replace HF := HF.step s193 rfl
            refine WL.ex rfl (ex_move (v := .tuple #[v194, .int .i64 z190.2]) rfl) ?_
            refine WL.ex rfl (ex_extract (vs := #[v194, .int .i64 z190.2]) (v := v194) rfl rfl) ?_
            refine WL.ex rfl (ex_extract (vs := #[v194, .int .i64 z190.2]) (v := .int .i64 z190.2) rfl rfl) ?_
            refine WL.ex rfl (ex_assign (v := v194) rfl) ?_
            refine WL.ex rfl (ex_assign (v := .int .i64 z190.2) rfl) ?_
            refine WL.nil ?_
            refine WC.seq ?_
            refine WC.region ?_
            refine WL.ex rfl (ex_move (v := .slice pA2 a2.length pc2) s2_152) ?_
            obtain ⟨z196, hz196, H⟩ := bindE H
            refine WL.op rfl ?_
            refine OW.call [.slice pA2 a2.length pc2] rfl Tryd.func18 (by kernel_rfl) (by kernel_rfl) (map_cons' rfl rfl) (dictumref01_Open.calls k _ _ pA2 pc2 a2 z196 (HF.ten (V := [0]) (L := []) rfl) (Row.vw (V := [0]) (L := []) hra2 rfl) hla2 hz196) ?_
            rintro _ w197 ⟨o198, A200, c201, rfl, s199, hl202, hr203⟩
            refine ⟨_, rfl, ?_⟩
            replace hr203 := hr203.un (J := []) s199
            replace s199 := un_stepL (J := []) (L' := []) s199 rfl rfl
            replace hra0 := hra0.step s199 rfl
            replace hra2 := hra2.step s199 rfl
            replace hr124 := hr124.step s199 rfl
            replace hO121 := hO121.step s199 rfl rfl
            replace hG := hG.step s199 rfl
            replace hO195 := hO195.step s199 rfl rfl
            replace HF := HF.step s199 rfl
            refine WL.ex rfl (ex_move (v := .tuple #[.slice A200 z196.1.length c201, .int .i64 z196.2]) rfl) ?_
            refine WL.ex rfl (ex_extract (vs := #[.slice A200 z196.1.length c201, .int .i64 z196.2]) (v := .slice A200 z196.1.length c201) rfl rfl) ?_
            refine WL.ex rfl (ex_extract (vs := #[.slice A200 z196.1.length c201, .int .i64 z196.2]) (v := .int .i64 z196.2) rfl rfl) ?_
            refine WL.ex rfl (ex_assign (v := .slice A200 z196.1.length c201) rfl) ?_
            refine WL.ex rfl (ex_assign (v := .int .i64 z196.2) rfl) ?_
            refine WL.nil ?_
            refine WC.seq ?_
            refine WC.region ?_
            refine WL.ex rfl (ex_move (v := v120) s9_152) ?_
            refine WL.ex rfl (ex_move (v := .slice pA0 a0.length pc0) s0_152) ?_
            obtain ⟨z204, hz204, H⟩ := bindE H
            refine WL.op rfl ?_
            refine OW.call [.slice pA0 a0.length pc0] rfl Tryd.func14 (by kernel_rfl) (by kernel_rfl) (map_cons' rfl rfl) (dictumref01_Seal.calls k _ _ pA0 pc0 a0 z204 (HF.ten (V := [0]) (L := []) rfl) (Row.vw (V := [0]) (L := []) hra0 rfl) hla0 hz204) ?_
            rintro _ w205 ⟨o206, v208, rfl, s207, hO209⟩
            refine ⟨_, rfl, ?_⟩
            replace hO209 := Own.un9 (J := [14]) 0 hO209 rfl s207 rfl rfl
            replace s207 := un_stepL (J := [14]) (L' := []) s207 rfl rfl
            replace hra0 := hra0.step s207 rfl
            replace hra2 := hra2.step s207 rfl
            replace hr124 := hr124.step s207 rfl
            replace hO121 := hO121.step s207 rfl rfl
            replace hG := hG.step s207 rfl
            replace hO195 := hO195.step s207 rfl rfl
            replace hr203 := hr203.step s207 rfl
            replace HF := HF.step s207 rfl
            obtain ⟨A210, c211, q212e, q212l, q212⟩ := Own.vwRow (V := [0, 11, 14]) (L := []) hO121 rfl rfl
            obtain ⟨A213, c214, q215e, q215l, q215⟩ := Own.vwRow (V := [0, 11, 14]) (L := []) hO209 rfl rfl
            obtain ⟨z216, hz216, H⟩ := bindE H
            have q212e' := q212e
            have q215e' := q215e
            refine WL.op rfl ?_
            refine OW.call [v120, v208] rfl Tryd.func11 (by kernel_rfl) (by kernel_rfl) (map_cons' rfl (map_cons' rfl rfl)) (by simp only [q212e, q215e]; exact (dictumref01_Same.calls k _ _ A210 c211 A213 c214 z116 z204 z216 (HF.ten (V := [0, 11, 14]) (L := []) rfl) q212 q212l q215 q215l hz216)) ?_
            rintro _ w217 ⟨o218, rfl, s219⟩
            refine ⟨_, rfl, ?_⟩
            replace s219 := un_stepL (J := []) (L' := []) s219 rfl rfl
            replace hra0 := hra0.step s219 rfl
            replace hra2 := hra2.step s219 rfl
            replace hr124 := hr124.step s219 rfl
            replace hO121 := hO121.step s219 rfl rfl
            replace hG := hG.step s219 rfl
            replace hO195 := hO195.step s219 rfl rfl
            replace hr203 := hr203.step s219 rfl
            replace hO209 := hO209.step s219 rfl rfl
            replace HF := HF.step s219 rfl
            refine WL.ex rfl (ex_move (v := .bool z216) rfl) ?_
            rcases condE H with ⟨c220, H⟩ | ⟨c220, H⟩
            ·
              refine WL.guardYes rfl rfl rfl ((show _ = Value.bool z216 from rfl).trans (congrArg Value.bool c220)) ?_
              refine OW.ex rfl (ex_move (v := .slice A122 (([] : List UInt8) ++ a0).length c123) s8_152) ?_
              refine WL.guardYes rfl rfl rfl ((show _ = Value.bool z216 from rfl).trans (congrArg Value.bool c220)) ?_
              refine OW.ex rfl (ex_move (v := .slice pA0 a0.length pc0) s0_152) ?_
              refine WL.guardYes rfl rfl rfl ((show _ = Value.bool z216 from rfl).trans (congrArg Value.bool c220)) ?_
              obtain ⟨z221, hz221, H⟩ := bindE H
              refine OW.call [.slice A122 (([] : List UInt8) ++ a0).length c123, .slice pA0 a0.length pc0] rfl Tryd.func11 (by kernel_rfl) (by kernel_rfl) (map_cons' rfl (map_cons' rfl rfl)) (dictumref01_Same.calls k _ _ A122 c123 pA0 pc0 (([] : List UInt8) ++ a0) a0 z221 (HF.ten (V := [0]) (L := []) rfl) (Row.vw (V := [0]) (L := []) hr124 rfl) hl125 (Row.vw (V := [0]) (L := []) hra0 rfl) hla0 hz221) ?_
              rintro _ w222 ⟨o223, rfl, s224⟩
              refine ⟨_, rfl, ?_⟩
              replace s224 := un_stepL (J := []) (L' := []) s224 rfl rfl
              replace hra0 := hra0.step s224 rfl
              replace hra2 := hra2.step s224 rfl
              replace hr124 := hr124.step s224 rfl
              replace hO121 := hO121.step s224 rfl rfl
              replace hG := hG.step s224 rfl
              replace hO195 := hO195.step s224 rfl rfl
              replace hr203 := hr203.step s224 rfl
              replace hO209 := hO209.step s224 rfl rfl
              replace HF := HF.step s224 rfl
              refine WL.ex rfl (ex_pick_t (v := .bool z221) ((show _ = Value.bool z216 from rfl).trans (congrArg Value.bool c220)) rfl) ?_
              refine WL.ex rfl (ex_move (v := .bool z221) rfl) ?_
              rcases condE H with ⟨c225, H⟩ | ⟨c225, H⟩
              ·
                refine WL.guardYes rfl rfl rfl ((show _ = Value.bool z221 from rfl).trans (congrArg Value.bool c225)) ?_
                refine OW.ex rfl (ex_move (v := v194) rfl) ?_
                refine WL.guardYes rfl rfl rfl ((show _ = Value.bool z221 from rfl).trans (congrArg Value.bool c225)) ?_
                refine OW.ex rfl (ex_move (v := .slice A200 z196.1.length c201) rfl) ?_
                refine WL.guardYes rfl rfl rfl ((show _ = Value.bool z221 from rfl).trans (congrArg Value.bool c225)) ?_
                obtain ⟨A226, c227, q228e, q228l, q228⟩ := Own.vwRow (V := [0, 13]) (L := []) hO195 rfl rfl
                obtain ⟨z229, hz229, H⟩ := bindE H
                have q228e' := q228e
                refine OW.call [v194, .slice A200 z196.1.length c201] rfl Tryd.func11 (by kernel_rfl) (by kernel_rfl) (map_cons' rfl (map_cons' rfl rfl)) (by simp only [q228e]; exact (dictumref01_Same.calls k _ _ A226 c227 A200 c201 z190.1 z196.1 z229 (HF.ten (V := [0, 13]) (L := []) rfl) q228 q228l (Row.vw (V := [0, 13]) (L := []) hr203 rfl) hl202 hz229)) ?_
                rintro _ w230 ⟨o231, rfl, s232⟩
                refine ⟨_, rfl, ?_⟩
                replace s232 := un_stepL (J := []) (L' := []) s232 rfl rfl
                replace hra0 := hra0.step s232 rfl
                replace hra2 := hra2.step s232 rfl
                replace hr124 := hr124.step s232 rfl
                replace hO121 := hO121.step s232 rfl rfl
                replace hG := hG.step s232 rfl
                replace hO195 := hO195.step s232 rfl rfl
                replace hr203 := hr203.step s232 rfl
                replace hO209 := hO209.step s232 rfl rfl
                replace HF := HF.step s232 rfl
                refine WL.ex rfl (ex_pick_t (v := .bool z229) ((show _ = Value.bool z221 from rfl).trans (congrArg Value.bool c225)) rfl) ?_
                refine WL.ex rfl (ex_move (v := .bool z229) rfl) ?_
                rcases condE H with ⟨c233, H⟩ | ⟨c233, H⟩
                ·
                  refine WL.guardYes rfl rfl rfl ((show _ = Value.bool z229 from rfl).trans (congrArg Value.bool c233)) ?_
                  refine OW.ex rfl (ex_move (v := .int .i64 z190.2) rfl) ?_
                  refine WL.guardYes rfl rfl rfl ((show _ = Value.bool z229 from rfl).trans (congrArg Value.bool c233)) ?_
                  refine OW.ex rfl (ex_move (v := .int .i64 z196.2) rfl) ?_
                  refine WL.guardYes rfl rfl rfl ((show _ = Value.bool z229 from rfl).trans (congrArg Value.bool c233)) ?_
                  refine OW.ex rfl (ex_bin (a := .int .i64 z190.2) (b := .int .i64 z196.2) (v := .bool (z190.2 == z196.2)) rfl rfl bin_eql) ?_
                  refine WL.ex rfl (ex_pick_t (v := .bool (z190.2 == z196.2)) ((show _ = Value.bool z229 from rfl).trans (congrArg Value.bool c233)) rfl) ?_
                  refine WL.ex rfl (ex_move (v := .bool (z190.2 == z196.2)) rfl) ?_
                  rcases condE H with ⟨c234, H⟩ | ⟨c234, H⟩
                  ·
                    refine WL.guardYes rfl rfl rfl ((show _ = Value.bool (z190.2 == z196.2) from rfl).trans (congrArg Value.bool c234)) ?_
                    obtain ⟨z235, hz235, H⟩ := bindE H
                    refine OW.call [] rfl Tryd.func12 (by kernel_rfl) (by kernel_rfl) rfl (dictumlaw01_heads.calls k _ _ z235 (HF.ten (V := [0]) (L := []) rfl) (Gl.vw (V := [0]) (L := []) hG rfl) hz235) ?_
                    rintro _ w236 ⟨o237, rfl, s238⟩
                    refine ⟨_, rfl, ?_⟩
                    replace s238 := un_stepL (J := []) (L' := []) s238 rfl rfl
                    replace hra0 := hra0.step s238 rfl
                    replace hra2 := hra2.step s238 rfl
                    replace hr124 := hr124.step s238 rfl
                    replace hO121 := hO121.step s238 rfl rfl
                    replace hG := hG.step s238 rfl
                    replace hO195 := hO195.step s238 rfl rfl
                    replace hr203 := hr203.step s238 rfl
                    replace hO209 := hO209.step s238 rfl rfl
                    replace HF := HF.step s238 rfl
                    refine WL.ex rfl (ex_pick_t (v := .bool z235) ((show _ = Value.bool (z190.2 == z196.2) from rfl).trans (congrArg Value.bool c234)) rfl) ?_
                    refine WL.ex rfl (ex_assign (v := .bool z235) rfl) ?_
                    refine WL.nil ?_
                    refine WC.ret ?_
                    obtain rfl := Option.some.inj H
                    exact ⟨_, (.tmp (.bool z235 : Value) rfl .nil), _, rfl, HF.out⟩
                  ·
                    refine WL.guardNo rfl rfl rfl ((show _ = Value.bool (z190.2 == z196.2) from rfl).trans (congrArg Value.bool c234)) ?_
                    refine WL.ex rfl (ex_pick_f (v := .bool false) ((show _ = Value.bool (z190.2 == z196.2) from rfl).trans (congrArg Value.bool c234)) rfl) ?_
                    refine WL.ex rfl (ex_assign (v := .bool false) rfl) ?_
                    refine WL.nil ?_
                    refine WC.ret ?_
                    obtain rfl := Option.some.inj H
                    exact ⟨_, (.tmp (.bool false : Value) rfl .nil), _, rfl, HF.out⟩
                ·
                  refine WL.guardNo rfl rfl rfl ((show _ = Value.bool z229 from rfl).trans (congrArg Value.bool c233)) ?_
                  refine WL.guardNo rfl rfl rfl ((show _ = Value.bool z229 from rfl).trans (congrArg Value.bool c233)) ?_
                  refine WL.guardNo rfl rfl rfl ((show _ = Value.bool z229 from rfl).trans (congrArg Value.bool c233)) ?_
                  refine WL.ex rfl (ex_pick_f (v := .bool false) ((show _ = Value.bool z229 from rfl).trans (congrArg Value.bool c233)) rfl) ?_
                  refine WL.ex rfl (ex_move (v := .bool false) rfl) ?_
                  refine WL.guardNo rfl rfl rfl rfl ?_
                  refine WL.ex rfl (ex_pick_f (v := .bool false) rfl rfl) ?_
                  refine WL.ex rfl (ex_assign (v := .bool false) rfl) ?_
                  refine WL.nil ?_
                  refine WC.ret ?_
                  obtain rfl := Option.some.inj H
                  exact ⟨_, (.tmp (.bool false : Value) rfl .nil), _, rfl, HF.out⟩
              ·
                refine WL.guardNo rfl rfl rfl ((show _ = Value.bool z221 from rfl).trans (congrArg Value.bool c225)) ?_
                refine WL.guardNo rfl rfl rfl ((show _ = Value.bool z221 from rfl).trans (congrArg Value.bool c225)) ?_
                refine WL.guardNo rfl rfl rfl ((show _ = Value.bool z221 from rfl).trans (congrArg Value.bool c225)) ?_
                refine WL.ex rfl (ex_pick_f (v := .bool false) ((show _ = Value.bool z221 from rfl).trans (congrArg Value.bool c225)) rfl) ?_
                refine WL.ex rfl (ex_move (v := .bool false) rfl) ?_
                refine WL.guardNo rfl rfl rfl rfl ?_
                refine WL.guardNo rfl rfl rfl rfl ?_
                refine WL.guardNo rfl rfl rfl rfl ?_
                refine WL.ex rfl (ex_pick_f (v := .bool false) rfl rfl) ?_
                refine WL.ex rfl (ex_move (v := .bool false) rfl) ?_
                refine WL.guardNo rfl rfl rfl rfl ?_
                refine WL.ex rfl (ex_pick_f (v := .bool false) rfl rfl) ?_
                refine WL.ex rfl (ex_assign (v := .bool false) rfl) ?_
                refine WL.nil ?_
                refine WC.ret ?_
                obtain rfl := Option.some.inj H
                exact ⟨_, (.tmp (.bool false : Value) rfl .nil), _, rfl, HF.out⟩
            ·
              refine WL.guardNo rfl rfl rfl ((show _ = Value.bool z216 from rfl).trans (congrArg Value.bool c220)) ?_
              refine WL.guardNo rfl rfl rfl ((show _ = Value.bool z216 from rfl).trans (congrArg Value.bool c220)) ?_
              refine WL.guardNo rfl rfl rfl ((show _ = Value.bool z216 from rfl).trans (congrArg Value.bool c220)) ?_
              refine WL.ex rfl (ex_pick_f (v := .bool false) ((show _ = Value.bool z216 from rfl).trans (congrArg Value.bool c220)) rfl) ?_
              refine WL.ex rfl (ex_move (v := .bool false) rfl) ?_
              refine WL.guardNo rfl rfl rfl rfl ?_
              refine WL.guardNo rfl rfl rfl rfl ?_
              refine WL.guardNo rfl rfl rfl rfl ?_
              refine WL.ex rfl (ex_pick_f (v := .bool false) rfl rfl) ?_
              refine WL.ex rfl (ex_move (v := .bool false) rfl) ?_
              refine WL.guardNo rfl rfl rfl rfl ?_
              refine WL.guardNo rfl rfl rfl rfl ?_
              refine WL.guardNo rfl rfl rfl rfl ?_
              refine WL.ex rfl (ex_pick_f (v := .bool false) rfl rfl) ?_
              refine WL.ex rfl (ex_move (v := .bool false) rfl) ?_
              refine WL.guardNo rfl rfl rfl rfl ?_
              refine WL.ex rfl (ex_pick_f (v := .bool false) rfl rfl) ?_
              refine WL.ex rfl (ex_assign (v := .bool false) rfl) ?_
              refine WL.nil ?_
              refine WC.ret ?_
              obtain rfl := Option.some.inj H
              exact ⟨_, (.tmp (.bool false : Value) rfl .nil), _, rfl, HF.out⟩
          have Ho155 := H
          rintro k156 ρ157 w158 ⟨o159, x151, x152, v149, HF, hra0, hra2, hr124, hl125, hO121, hO150, hG, s0_148, s2_148, s6_148, s8_148, s9_148, s10_151, s12_152, H⟩
          cases k156 with
          | zero => cases H
          | succ k156 =>
          rw [dictumlaw01_OctetSums.l1.eq_2] at H
          refine WC.seq ?_
          refine WC.seq ?_
          refine WC.region ?_
          refine WL.ex rfl (ex_move (v := .int .i64 x152) s12_152) ?_
          refine WL.ex rfl (ex_move (v := v149) s10_151) ?_
          obtain ⟨A160, c161, q162⟩ := hO150.slice
          refine WL.ex rfl (ex_len_slice ((show _ = (v149 : Value) from rfl).trans q162) Tryd.underlying24) ?_
          refine WL.ex rfl (ex_bin (a := .int .i64 x152) (b := .int .i64 (x151.length : Int)) (v := .bool (decide (x152 < (x151.length : Int)))) rfl rfl bin_lss) ?_
          refine WL.nil ?_
          rcases condE H with ⟨c163, H⟩ | ⟨c163, H⟩
          ·
            refine WC.cond_t ((show _ = Value.bool (decide (x152 < (x151.length : Int))) from rfl).trans (congrArg Value.bool c163)) ?_
            refine WC.skip ?_
            refine WC.seq ?_
            refine WC.block ?_
            refine WC.region ?_
            refine WL.ex rfl (ex_move (v := v149) s10_151) ?_
            refine WL.ex rfl (ex_move (v := .int .i64 x152) s12_152) ?_
            refine WL.ex rfl (ex_move (v := v149) s10_151) ?_
            refine WL.ex rfl (ex_move (v := .int .i64 x152) s12_152) ?_
            obtain ⟨x164, hx164, H⟩ := bindE H
            obtain ⟨A169, c170, q171_⟩ := hO150.slice
            obtain ⟨ad165, e166, g167, g168, cell172⟩ := Row.ixS (Own.rowOf hO150 q171_) hx164
            refine WL.ex rfl (ex_indexAddr (i := x152) ((show _ = (v149 : Value) from rfl).trans q171_) e166 rfl Tryd.underlying24 sz5 g167 g168) ?_
            refine WL.ex rfl (ex_load1 (v := enc8 x164) rfl Tryd.underlying5 rfl cell172) ?_
            refine WL.ex rfl (ex_bin (a := enc8 x164) (b := enc8 (255 : UInt8)) (v := enc8 (x164 ^^^ (255 : UInt8))) rfl rfl bin_xor_u8) ?_
            obtain ⟨x174, hx174, H⟩ := bindE H
            obtain ⟨A179, c180, q181_⟩ := hO150.slice
            obtain ⟨ad175, e176, g177, g178, cell182⟩ := Row.ixS (Own.rowOf hO150 q181_) hx174
            refine WL.ex rfl (ex_indexAddr (i := x152) ((show _ = (v149 : Value) from rfl).trans q181_) e176 rfl Tryd.underlying24 sz5 g177 g178) ?_
            refine WL.op rfl ?_
            refine OW.storeElem (r := Rep.u8) (j := x152) (vs := [enc8 (x164 ^^^ (255 : UInt8))]) hO150 (q181_.trans (by rw [e176])) rfl g177 g178 ((congrArg Value.cells (show ev _ _ = (enc8 (x164 ^^^ (255 : UInt8)) : Value) from rfl)).trans rfl) sz5 rfl (by decide) ?_
            intro w184 s185 hO186
            replace hra0 := hra0.step s185 rfl
            replace hra2 := hra2.step s185 rfl
            replace hr124 := hr124.step s185 rfl
            replace hO121 := hO121.step s185 rfl rfl
            replace hG := hG.step s185 rfl
            replace HF := HF.step s185 rfl
            refine WL.nil ?_
            refine WC.region ?_
            refine WL.ex rfl (ex_move (v := .int .i64 x152) s12_152) ?_
            refine WL.ex rfl (ex_bin (a := .int .i64 x152) (b := .int .i64 1) (v := .int .i64 (wrap64 (x152 + 1))) rfl rfl bin_add64) ?_
            refine WL.ex rfl (ex_assign (v := .int .i64 (wrap64 (x152 + 1))) rfl) ?_
            refine WL.nil ?_
            exact ⟨k156, Nat.lt_succ_self _, ⟨_, (x151.set x152.toNat (x164 ^^^ (255 : UInt8))), wrap64 (x152 + 1), _, HF, hra0, hra2, hr124, hl125, hO121, hO186, hG, s0_148, s2_148, s6_148, s8_148, s9_148, s10_151, rfl, H⟩⟩
          ·
            refine WC.cond_f ((show _ = Value.bool (decide (x152 < (x151.length : Int))) from rfl).trans (congrArg Value.bool c163)) ?_
            refine WC.exit ?_
            exact ⟨_, HF, hra0, hra2, hr124, hl125, hO121, hG, s0_148, s2_148, s6_148, s8_148, s9_148⟩
      have Ho239 := H
      replace H := hz143
      refine WC.region ?_
      refine WL.ex rfl (ex_move (v := .int .i64 z136.2) rfl) ?_
      refine WL.ex rfl (ex_bin (a := .int .i64 z136.2) (b := .int .i64 0) (v := .bool (z136.2 != 0)) rfl rfl bin_neq) ?_
      refine WL.ex rfl (ex_move (v := .bool (z136.2 != 0)) rfl) ?_
      rcases condE H with ⟨c240, H⟩ | ⟨c240, H⟩
      ·
        refine WL.guardNo rfl rfl rfl ((show _ = Value.bool (z136.2 != 0) from rfl).trans (congrArg Value.bool c240)) ?_
        refine WL.guardNo rfl rfl rfl ((show _ = Value.bool (z136.2 != 0) from rfl).trans (congrArg Value.bool c240)) ?_
        refine WL.guardNo rfl rfl rfl ((show _ = Value.bool (z136.2 != 0) from rfl).trans (congrArg Value.bool c240)) ?_
        refine WL.guardNo rfl rfl rfl ((show _ = Value.bool (z136.2 != 0) from rfl).trans (congrArg Value.bool c240)) ?_
        refine WL.ex rfl (ex_pick_t (v := .bool true) ((show _ = Value.bool (z136.2 != 0) from rfl).trans (congrArg Value.bool c240)) rfl) ?_
        refine WL.nil ?_
        obtain rfl := Option.some.inj H
        exact ⟨_, HF, hra0, hra2, hr124, hl125, hO121, hO141, hG, s0_121, s2_121, s6_121, s8_125, s9_125, rfl, rfl⟩
      ·
        refine WL.guardYes rfl rfl rfl ((show _ = Value.bool (z136.2 != 0) from rfl).trans (congrArg Value.bool c240)) ?_
        refine OW.ex rfl (ex_move (v := v140) rfl) ?_
        refine WL.guardYes rfl rfl rfl ((show _ = Value.bool (z136.2 != 0) from rfl).trans (congrArg Value.bool c240)) ?_
        refine OW.ex rfl (ex_move (v := .slice pA0 a0.length pc0) s0_121) ?_
        refine WL.guardYes rfl rfl rfl ((show _ = Value.bool (z136.2 != 0) from rfl).trans (congrArg Value.bool c240)) ?_
        obtain ⟨A241, c242, q243e, q243l, q243⟩ := Own.vwRow (V := [0, 12]) (L := []) hO141 rfl rfl
        obtain ⟨z244, hz244, H⟩ := bindE H
        have q243e' := q243e
        refine OW.call [v140, .slice pA0 a0.length pc0] rfl Tryd.func11 (by kernel_rfl) (by kernel_rfl) (map_cons' rfl (map_cons' rfl rfl)) (by simp only [q243e]; exact (dictumref01_Same.calls k _ _ A241 c242 pA0 pc0 z136.1 a0 z244 (HF.ten (V := [0, 12]) (L := []) rfl) q243 q243l (Row.vw (V := [0, 12]) (L := []) hra0 rfl) hla0 hz244)) ?_
        rintro _ w245 ⟨o246, rfl, s247⟩
        refine ⟨_, rfl, ?_⟩
        replace s247 := un_stepL (J := []) (L' := []) s247 rfl rfl
        replace hra0 := hra0.step s247 rfl
        replace hra2 := hra2.step s247 rfl
        replace hr124 := hr124.step s247 rfl
        replace hO121 := hO121.step s247 rfl rfl
        replace hG := hG.step s247 rfl
        replace hO141 := hO141.step s247 rfl rfl
        replace HF := HF.step s247 rfl
        refine WL.guardYes rfl rfl rfl ((show _ = Value.bool (z136.2 != 0) from rfl).trans (congrArg Value.bool c240)) ?_
        refine OW.ex rfl (ex_not (b := z244) rfl) ?_
        refine WL.ex rfl (ex_pick_f (v := .bool (!z244)) ((show _ = Value.bool (z136.2 != 0) from rfl).trans (congrArg Value.bool c240)) rfl) ?_
        refine WL.nil ?_
        obtain rfl := Option.some.inj H
        exact ⟨_, HF, hra0, hra2, hr124, hl125, hO121, hO141, hG, s0_121, s2_121, s6_121, s8_125, s9_125, rfl, rfl⟩
  have Ho248 := H
  replace H := hz127
  obtain ⟨A249, c250, rfl, hl251, hr252⟩ := hO112.pubRow
  replace hra0 := hra0.pub 10
  replace hra2 := hra2.pub 10
  replace hG := hG.pub 10
  replace hO121 := hO121.pub 10 rfl
  replace HF := HF.pub 10 rfl
  refine WC.regionD' HF [] 30 (by kernel_rfl) rfl ?_
  intro w253 s254
  replace hra0 := hra0.step s254 rfl
  replace hra2 := hra2.step s254 rfl
  replace hG := hG.step s254 rfl
  replace hO121 := hO121.step s254 rfl rfl
  replace hr252 := hr252.step s254 rfl
  replace HF := HF.step s254 rfl
  have hra0D := hra0
  have hra2D := hra2
  have hGD := hG
  have hO121D := hO121
  have hr252D := hr252
  have sR := HF.here []
  refine WA.norm (listed' := #[false, false, false, false, false, false, false, false, false, false, false, false, false, false, false, false, false, false, false, false, false, false, false, false, false, false, false, false, false, false]) (by kernel_rfl) ?_
  refine WA.ex 0 rfl (by kernel_rfl) (by kernel_rfl) (by kernel_rfl) rfl ⟨_, sR⟩ (fun w_ hS_ => ex_move (v := v120) rfl) ?_
  refine WA.norm (listed' := #[true, false, false, false, false, false, false, false, false, false, false, false, false, false, false, false, false, false, false, false, false, false, false, false, false, false, false, false, false, false]) (by kernel_rfl) ?_
  refine WA.ex 1 rfl (by kernel_rfl) (by kernel_rfl) (by kernel_rfl) rfl ⟨_, sR⟩ (fun w_ hS_ => ex_move (v := .slice pA0 a0.length pc0) rfl) ?_
  refine WA.norm (listed' := #[true, true, false, false, false, false, false, false, false, false, false, false, false, false, false, false, false, false, false, false, false, false, false, false, false, false, false, false, false, false]) (by kernel_rfl) ?_
  obtain ⟨z255, hz255, H⟩ := bindE H
  refine WA.one 2 (by kernel_rfl) rfl rfl ?_
  refine OW.call [.slice pA0 a0.length pc0] rfl Tryd.func14 (by kernel_rfl) (by kernel_rfl) (map_cons' rfl rfl) (dictumref01_Seal.calls k _ _ pA0 pc0 a0 z255 (HF.ten (V := [0]) (L := []) rfl) (Row.vw (V := [0]) (L := []) hra0 rfl) hla0 hz255) ?_
  rintro _ w256 ⟨o257, v259, rfl, s258, hO260⟩
  refine ⟨_, rfl, ?_⟩
  replace hO260 := Own.un9 (J := [15]) 0 hO260 rfl s258 rfl rfl
  replace s258 := un_stepL (J := [15]) (L' := []) s258 rfl rfl
  replace hra0 := hra0.step s258 rfl
  replace hra2 := hra2.step s258 rfl
  replace hG := hG.step s258 rfl
  replace hO121 := hO121.step s258 rfl rfl
  replace hr252 := hr252.step s258 rfl
  replace HF := HF.step s258 rfl
  replace sR := Step.trans sR s258 (M := []) rfl rfl
  refine ⟨⟨_, sR⟩, ?_⟩
  refine WA.norm (listed' := #[true, true, true, false, false, false, false, false, false, false, false, false, false, false, false, false, false, false, false, false, false, false, false, false, false, false, false, false, false, false]) (by kernel_rfl) ?_
  obtain ⟨A261, c262, q263e, q263l, q263⟩ := Own.vwRow (V := [0, 11, 15]) (L := []) hO121 rfl rfl
  obtain ⟨A264, c265, q266e, q266l, q266⟩ := Own.vwRow (V := [0, 11, 15]) (L := []) hO260 rfl rfl
  obtain ⟨z267, hz267, H⟩ := bindE H
  have q263e' := q263e
  have q266e' := q266e
  refine WA.one 3 (by kernel_rfl) rfl rfl ?_
  refine OW.call [v120, v259] rfl Tryd.func11 (by kernel_rfl) (by kernel_rfl) (map_cons' rfl (map_cons' rfl rfl)) (by simp only [q263e, q266e]; exact (dictumref01_Same.calls k _ _ A261 c262 A264 c265 z116 z255 z267 (HF.ten (V := [0, 11, 15]) (L := []) rfl) q263 q263l q266 q266l hz267)) ?_
  rintro _ w268 ⟨o269, rfl, s270⟩
  refine ⟨_, rfl, ?_⟩
  replace s270 := un_stepL (J := []) (L' := []) s270 rfl rfl
  replace hra0 := hra0.step s270 rfl
  replace hra2 := hra2.step s270 rfl
  replace hG := hG.step s270 rfl
  replace hO121 := hO121.step s270 rfl rfl
  replace hr252 := hr252.step s270 rfl
  replace hO260 := hO260.step s270 rfl rfl
  replace HF := HF.step s270 rfl
  replace sR := Step.trans sR s270 (M := []) rfl rfl
  refine ⟨⟨_, sR⟩, ?_⟩
  refine WA.norm (listed' := #[true, true, true, true, false, false, false, false, false, false, false, false, false, false, false, false, false, false, false, false, false, false, false, false, false, false, false, false, false, false]) (by kernel_rfl) ?_
  refine WA.ex 4 rfl (by kernel_rfl) (by kernel_rfl) (by kernel_rfl) rfl ⟨_, sR⟩ (fun w_ hS_ => ex_not (b := z267) rfl) ?_
  refine WA.norm (listed' := #[true, true, true, true, true, false, false, false, false, false, false, false, false, false, false, false, false, false, false, false, false, false, false, false, false, false, false, false, false, false]) (by kernel_rfl) ?_
  refine WA.ex 5 rfl (by kernel_rfl) (by kernel_rfl) (by kernel_rfl) rfl ⟨_, sR⟩ (fun w_ hS_ => ex_move (v := .bool (!z267)) rfl) ?_
  refine WA.norm (listed' := #[true, true, true, true, true, true, false, false, false, false, false, false, false, false, false, false, false, false, false, false, false, false, false, false, false, false, false, false, false, false]) (by kernel_rfl) ?_
  rcases condE H with ⟨c271, H⟩ | ⟨c271, H⟩
  ·
    refine WA.takeNo 6 rfl (by kernel_rfl) (by kernel_rfl) (by kernel_rfl) rfl rfl rfl ((show _ = Value.bool (!z267) from rfl).trans (congrArg Value.bool c271)) ⟨_, sR⟩ ?_
    refine WA.norm (listed' := #[true, true, true, true, true, true, true, false, false, false, false, false, false, false, false, false, false, false, false, false, false, false, false, false, false, false, false, false, false, false]) (by kernel_rfl) ?_
    refine WA.takeNo 7 rfl (by kernel_rfl) (by kernel_rfl) (by kernel_rfl) rfl rfl rfl ((show _ = Value.bool (!z267) from rfl).trans (congrArg Value.bool c271)) ⟨_, sR⟩ ?_
    refine WA.norm (listed' := #[true, true, true, true, true, true, true, true, false, false, false, false, false, false, false, false, false, false, false, false, false, false, false, false, false, false, false, false, false, false]) (by kernel_rfl) ?_
    refine WA.takeNo 8 rfl (by kernel_rfl) (by kernel_rfl) (by kernel_rfl) rfl rfl rfl ((show _ = Value.bool (!z267) from rfl).trans (congrArg Value.bool c271)) ⟨_, sR⟩ ?_
    refine WA.norm (listed' := #[true, true, true, true, true, true, true, true, true, false, false, false, false, false, false, false, false, false, false, false, false, false, false, false, false, false, false, false, false, false]) (by kernel_rfl) ?_
    refine WA.takeNo 9 rfl (by kernel_rfl) (by kernel_rfl) (by kernel_rfl) rfl rfl rfl ((show _ = Value.bool (!z267) from rfl).trans (congrArg Value.bool c271)) ⟨_, sR⟩ ?_
    refine WA.norm (listed' := #[true, true, true, true, true, true, true, true, true, true, false, false, false, false, false, false, false, false, false, false, false, false, false, false, false, false, false, false, false, false]) (by kernel_rfl) ?_
    refine WA.takeNo 10 rfl (by kernel_rfl) (by kernel_rfl) (by kernel_rfl) rfl rfl rfl ((show _ = Value.bool (!z267) from rfl).trans (congrArg Value.bool c271)) ⟨_, sR⟩ ?_
    refine WA.norm (listed' := #[true, true, true, true, true, true, true, true, true, true, true, false, false, false, false, false, false, false, false, false, false, false, false, false, false, false, false, false, false, false]) (by kernel_rfl) ?_
    refine WA.takeNo 11 rfl (by kernel_rfl) (by kernel_rfl) (by kernel_rfl) rfl rfl rfl ((show _ = Value.bool (!z267) from rfl).trans (congrArg Value.bool c271)) ⟨_, sR⟩ ?_
    refine WA.norm (listed' := #[true, true, true, true, true, true, true, true, true, true, true, true, false, false, false, false, false, false, false, false, false, false, false, false, false, false, false, false, false, false]) (by kernel_rfl) ?_
    refine WA.takeNo 12 rfl (by kernel_rfl) (by kernel_rfl) (by kernel_rfl) rfl rfl rfl ((show _ = Value.bool (!z267) from rfl).trans (congrArg Value.bool c271)) ⟨_, sR⟩ ?_
    refine WA.norm (listed' := #[true, true, true, true, true, true, true, true, true, true, true, true, true, false, false, false, false, false, false, false, false, false, false, false, false, false, false, false, false, false]) (by kernel_rfl) ?_
    refine WA.takeNo 13 rfl (by kernel_rfl) (by kernel_rfl) (by kernel_rfl) rfl rfl rfl ((show _ = Value.bool (!z267) from rfl).trans (congrArg Value.bool c271)) ⟨_, sR⟩ ?_
    refine WA.norm (listed' := #[true, true, true, true, true, true, true, true, true, true, true, true, true, true, false, false, false, false, false, false, false, false, false, false, false, false, false, false, false, false]) (by kernel_rfl) ?_
    refine WA.takeNo 14 rfl (by kernel_rfl) (by kernel_rfl) (by kernel_rfl) rfl rfl rfl ((show _ = Value.bool (!z267) from rfl).trans (congrArg Value.bool c271)) ⟨_, sR⟩ ?_
    refine WA.norm (listed' := #[true, true, true, true, true, true, true, true, true, true, true, true, true, true, true, false, false, false, false, false, false, false, false, false, false, false, false, false, false, false]) (by kernel_rfl) ?_
    refine WA.takeNo 15 rfl (by kernel_rfl) (by kernel_rfl) (by kernel_rfl) rfl rfl rfl ((show _ = Value.bool (!z267) from rfl).trans (congrArg Value.bool c271)) ⟨_, sR⟩ ?_
    refine WA.norm (listed' := #[true, true, true, true, true, true, true, true, true, true, true, true, true, true, true, true, false, false, false, false, false, false, false, false, false, false, false, false, false, false]) (by kernel_rfl) ?_
    refine WA.takeNo 16 rfl (by kernel_rfl) (by kernel_rfl) (by kernel_rfl) rfl rfl rfl ((show _ = Value.bool (!z267) from rfl).trans (congrArg Value.bool c271)) ⟨_, sR⟩ ?_
    refine WA.norm (listed' := #[true, true, true, true, true, true, true, true, true, true, true, true, true, true, true, true, true, false, false, false, false, false, false, false, false, false, false, false, false, false]) (by kernel_rfl) ?_
    refine WA.ex 17 rfl (by kernel_rfl) (by kernel_rfl) (by kernel_rfl) rfl ⟨_, sR⟩ (fun w_ hS_ => ex_pick_t (v := .bool true) ((show _ = Value.bool (!z267) from rfl).trans (congrArg Value.bool c271)) rfl) ?_
    refine WA.norm (listed' := #[true, true, true, true, true, true, true, true, true, true, true, true, true, true, true, true, true, true, false, false, false, false, false, false, false, false, false, false, false, false]) (by kernel_rfl) ?_
    refine WA.ex 18 rfl (by kernel_rfl) (by kernel_rfl) (by kernel_rfl) rfl ⟨_, sR⟩ (fun w_ hS_ => ex_move (v := .bool true) rfl) ?_
    refine WA.norm (listed' := #[true, true, true, true, true, true, true, true, true, true, true, true, true, true, true, true, true, true, true, false, false, false, false, false, false, false, false, false, false, false]) (by kernel_rfl) ?_
    refine WA.takeNo 19 rfl (by kernel_rfl) (by kernel_rfl) (by kernel_rfl) rfl rfl rfl rfl ⟨_, sR⟩ ?_
    refine WA.norm (listed' := #[true, true, true, true, true, true, true, true, true, true, true, true, true, true, true, true, true, true, true, true, false, false, false, false, false, false, false, false, false, false]) (by kernel_rfl) ?_
    refine WA.takeNo 20 rfl (by kernel_rfl) (by kernel_rfl) (by kernel_rfl) rfl rfl rfl rfl ⟨_, sR⟩ ?_
    refine WA.norm (listed' := #[true, true, true, true, true, true, true, true, true, true, true, true, true, true, true, true, true, true, true, true, true, false, false, false, false, false, false, false, false, false]) (by kernel_rfl) ?_
    refine WA.takeNo 21 rfl (by kernel_rfl) (by kernel_rfl) (by kernel_rfl) rfl rfl rfl rfl ⟨_, sR⟩ ?_
    refine WA.norm (listed' := #[true, true, true, true, true, true, true, true, true, true, true, true, true, true, true, true, true, true, true, true, true, true, false, false, false, false, false, false, false, false]) (by kernel_rfl) ?_
    refine WA.takeNo 22 rfl (by kernel_rfl) (by kernel_rfl) (by kernel_rfl) rfl rfl rfl rfl ⟨_, sR⟩ ?_
    refine WA.norm (listed' := #[true, true, true, true, true, true, true, true, true, true, true, true, true, true, true, true, true, true, true, true, true, true, true, false, false, false, false, false, false, false]) (by kernel_rfl) ?_
    refine WA.takeNo 23 rfl (by kernel_rfl) (by kernel_rfl) (by kernel_rfl) rfl rfl rfl rfl ⟨_, sR⟩ ?_
    refine WA.norm (listed' := #[true, true, true, true, true, true, true, true, true, true, true, true, true, true, true, true, true, true, true, true, true, true, true, true, false, false, false, false, false, false]) (by kernel_rfl) ?_
    refine WA.takeNo 24 rfl (by kernel_rfl) (by kernel_rfl) (by kernel_rfl) rfl rfl rfl rfl ⟨_, sR⟩ ?_
    refine WA.norm (listed' := #[true, true, true, true, true, true, true, true, true, true, true, true, true, true, true, true, true, true, true, true, true, true, true, true, true, false, false, false, false, false]) (by kernel_rfl) ?_
    refine WA.ex 25 rfl (by kernel_rfl) (by kernel_rfl) (by kernel_rfl) rfl ⟨_, sR⟩ (fun w_ hS_ => ex_pick_t (v := .bool true) rfl rfl) ?_
    refine WA.norm (listed' := #[true, true, true, true, true, true, true, true, true, true, true, true, true, true, true, true, true, true, true, true, true, true, true, true, true, true, false, false, false, false]) (by kernel_rfl) ?_
    refine WA.ex 26 rfl (by kernel_rfl) (by kernel_rfl) (by kernel_rfl) rfl ⟨_, sR⟩ (fun w_ hS_ => ex_move (v := .bool true) rfl) ?_
    refine WA.norm (listed' := #[true, true, true, true, true, true, true, true, true, true, true, true, true, true, true, true, true, true, true, true, true, true, true, true, true, true, true, false, false, false]) (by kernel_rfl) ?_
    refine WA.takeNo 27 rfl (by kernel_rfl) (by kernel_rfl) (by kernel_rfl) rfl rfl rfl rfl ⟨_, sR⟩ ?_
    refine WA.norm (listed' := #[true, true, true, true, true, true, true, true, true, true, true, true, true, true, true, true, true, true, true, true, true, true, true, true, true, true, true, true, false, false]) (by kernel_rfl) ?_
    refine WA.takeNo 28 rfl (by kernel_rfl) (by kernel_rfl) (by kernel_rfl) rfl rfl rfl rfl ⟨_, sR⟩ ?_
    refine WA.norm (listed' := #[true, true, true, true, true, true, true, true, true, true, true, true, true, true, true, true, true, true, true, true, true, true, true, true, true, true, true, true, true, false]) (by kernel_rfl) ?_
    refine WA.ex 29 rfl (by kernel_rfl) (by kernel_rfl) (by kernel_rfl) rfl ⟨_, sR⟩ (fun w_ hS_ => ex_pick_t (v := .bool true) rfl rfl) ?_
    refine WA.norm (listed' := #[true, true, true, true, true, true, true, true, true, true, true, true, true, true, true, true, true, true, true, true, true, true, true, true, true, true, true, true, true, true]) (by kernel_rfl) ?_
    refine WA.done (by kernel_rfl) ?_
    obtain rfl := Option.some.inj H
    exact ⟨_, _, _, HF, hra0, hra2, hr252, hl251, hO121, hG, rfl, rfl, rfl, rfl, rfl, rfl⟩
  ·
    refine WA.exYes (i := 6) rfl (by kernel_rfl) (by kernel_rfl) (by kernel_rfl) rfl rfl rfl ((show _ = Value.bool (!z267) from rfl).trans (congrArg Value.bool c271)) ⟨_, sR⟩ (fun w_ hS_ => ex_move (v := .slice A249 (([] : List UInt8) ++ a0).length c250) rfl) ?_
    refine WA.norm (listed' := #[true, true, true, true, true, true, true, false, false, false, false, false, false, false, false, false, false, false, false, false, false, false, false, false, false, false, false, false, false, false]) (by kernel_rfl) ?_
    refine WA.exYes (i := 7) rfl (by kernel_rfl) (by kernel_rfl) (by kernel_rfl) rfl rfl rfl ((show _ = Value.bool (!z267) from rfl).trans (congrArg Value.bool c271)) ⟨_, sR⟩ (fun w_ hS_ => ex_move (v := .int .i64 (wrap64 (((ofI64 a1) % (ofI64 (wrap64 ((a0.length : Int) + 1)))).toNat : Int))) rfl) ?_
    refine WA.norm (listed' := #[true, true, true, true, true, true, true, true, false, false, false, false, false, false, false, false, false, false, false, false, false, false, false, false, false, false, false, false, false, false]) (by kernel_rfl) ?_
    obtain ⟨y272, hy272, H⟩ := bindE H
    have hr274 := Row.cut hr252 hl251 hy272
    obtain ⟨A275, el278⟩ : ∃ A_, A_ = subA A249 c250 (0 : Int).toNat 1 := ⟨_, rfl⟩
    rw [show subA A249 c250 (0 : Int).toNat Rep.u8.sz = A275 from el278.symm] at hr274
    have hl277 : y272.length ≤ c250 - (0 : Int).toNat := cut_le hl251 hy272
    have hr274D := Row.cut hr252D hl251 hy272
    rw [show subA A249 c250 (0 : Int).toNat Rep.u8.sz = A275 from el278.symm] at hr274D
    refine WA.exYes (i := 8) rfl (by kernel_rfl) (by kernel_rfl) (by kernel_rfl) rfl rfl rfl ((show _ = Value.bool (!z267) from rfl).trans (congrArg Value.bool c271)) ⟨_, sR⟩ (fun w_ hS_ => ex_slice' (l := 0) (h := (wrap64 (((ofI64 a1) % (ofI64 (wrap64 ((a0.length : Int) + 1)))).toNat : Int))) rfl Tryd.underlying24 sz5 rfl ⟨_, rfl⟩ (cut_low hy272) (cut_mid hy272) (cut_cap hl251 hy272) el278 (cut_len hy272)) ?_
    refine WA.norm (listed' := #[true, true, true, true, true, true, true, true, true, false, false, false, false, false, false, false, false, false, false, false, false, false, false, false, false, false, false, false, false, false]) (by kernel_rfl) ?_
    refine WA.exYes (i := 9) rfl (by kernel_rfl) (by kernel_rfl) (by kernel_rfl) rfl rfl rfl ((show _ = Value.bool (!z267) from rfl).trans (congrArg Value.bool c271)) ⟨_, sR⟩ (fun w_ hS_ => ex_move (v := .slice A249 (([] : List UInt8) ++ a0).length c250) rfl) ?_
    refine WA.norm (listed' := #[true, true, true, true, true, true, true, true, true, true, false, false, false, false, false, false, false, false, false, false, false, false, false, false, false, false, false, false, false, false]) (by kernel_rfl) ?_
    refine WA.exYes (i := 10) rfl (by kernel_rfl) (by kernel_rfl) (by kernel_rfl) rfl rfl rfl ((show _ = Value.bool (!z267) from rfl).trans (congrArg Value.bool c271)) ⟨_, sR⟩ (fun w_ hS_ => ex_move (v := .int .i64 (wrap64 (((ofI64 a1) % (ofI64 (wrap64 ((a0.length : Int) + 1)))).toNat : Int))) rfl) ?_
    refine WA.norm (listed' := #[true, true, true, true, true, true, true, true, true, true, true, false, false, false, false, false, false, false, false, false, false, false, false, false, false, false, false, false, false, false]) (by kernel_rfl) ?_
    obtain ⟨y279, hy279, H⟩ := bindE H
    have hr281 := Row.cut hr252 hl251 hy279
    obtain ⟨A282, el285⟩ : ∃ A_, A_ = subA A249 c250 (wrap64 (((ofI64 a1) % (ofI64 (wrap64 ((a0.length : Int) + 1)))).toNat : Int) : Int).toNat 1 := ⟨_, rfl⟩
    rw [show subA A249 c250 (wrap64 (((ofI64 a1) % (ofI64 (wrap64 ((a0.length : Int) + 1)))).toNat : Int) : Int).toNat Rep.u8.sz = A282 from el285.symm] at hr281
    have hl284 : y279.length ≤ c250 - (wrap64 (((ofI64 a1) % (ofI64 (wrap64 ((a0.length : Int) + 1)))).toNat : Int) : Int).toNat := cut_le hl251 hy279
    have hr281D := Row.cut hr252D hl251 hy279
    rw [show subA A249 c250 (wrap64 (((ofI64 a1) % (ofI64 (wrap64 ((a0.length : Int) + 1)))).toNat : Int) : Int).toNat Rep.u8.sz = A282 from el285.symm] at hr281D
    refine WA.exYes (i := 11) rfl (by kernel_rfl) (by kernel_rfl) (by kernel_rfl) rfl rfl rfl ((show _ = Value.bool (!z267) from rfl).trans (congrArg Value.bool c271)) ⟨_, sR⟩ (fun w_ hS_ => ex_slice' (l := (wrap64 (((ofI64 a1) % (ofI64 (wrap64 ((a0.length : Int) + 1)))).toNat : Int))) (h := ((([] : List UInt8) ++ a0).length : Int)) rfl Tryd.underlying24 sz5 ⟨_, rfl⟩ rfl (cut_low hy279) (cut_mid hy279) (cut_cap hl251 hy279) el285 (cut_len hy279)) ?_
    refine WA.norm (listed' := #[true, true, true, true, true, true, true, true, true, true, true, true, false, false, false, false, false, false, false, false, false, false, false, false, false, false, false, false, false, false]) (by kernel_rfl) ?_
    refine WA.exYes (i := 14) rfl (by kernel_rfl) (by kernel_rfl) (by kernel_rfl) rfl rfl rfl ((show _ = Value.bool (!z267) from rfl).trans (congrArg Value.bool c271)) ⟨_, sR⟩ (fun w_ hS_ => ex_move (v := .slice pA0 a0.length pc0) rfl) ?_
    refine WA.norm (listed' := #[true, true, true, true, true, true, true, true, true, true, true, true, false, false, true, false, false, false, false, false, false, false, false, false, false, false, false, false, false, false]) (by kernel_rfl) ?_
    refine WA.oneYes 12 (by kernel_rfl) rfl rfl rfl rfl ((show _ = Value.bool (!z267) from rfl).trans (congrArg Value.bool c271)) ?_
    refine OW.row (r := (Rep.slice Rep.u8)) (xs := [y272, y279]) [(0, .slice A275 y272.length (c250 - (0 : Int).toNat)), (1, .slice A282 y279.length (c250 - (wrap64 (((ofI64 a1) % (ofI64 (wrap64 ((a0.length : Int) + 1)))).toNat : Int) : Int).toNat))] [[.slice A275 y272.length (c250 - (0 : Int).toNat)], [.slice A282 y279.length (c250 - (wrap64 (((ofI64 a1) % (ofI64 (wrap64 ((a0.length : Int) + 1)))).toNat : Int) : Int).toNat)]] 16 HF rfl Tryd.underlying80 sz24 zr24 rfl (evs_cons rfl (evs_cons rfl rfl)) rfl rfl ⟨(slice_mk hl277 hr274), (slice_mk hl284 hr281), trivial⟩ rfl rfl rfl rfl ?_
    intro o286 w287 v289 s288 hO290
    replace hra0 := hra0.step s288 rfl
    replace hra2 := hra2.step s288 rfl
    replace hG := hG.step s288 rfl
    replace hO121 := hO121.step s288 rfl rfl
    replace hr252 := hr252.step s288 rfl
    replace hO260 := hO260.step s288 rfl rfl
    replace hr274 := hr274.step s288 rfl
    replace hr281 := hr281.step s288 rfl
    replace HF := HF.step s288 rfl
    replace sR := Step.trans sR s288 (M := []) rfl rfl
    refine ⟨⟨_, sR⟩, ?_⟩
    refine WA.norm (listed' := #[true, true, true, true, true, true, true, true, true, true, true, true, true, false, true, false, false, false, false, false, false, false, false, false, false, false, false, false, false, false]) (by kernel_rfl) ?_
    obtain ⟨A291, c292, q293e, q293l, q293⟩ := Own.vwRow (V := [0, 16]) (L := []) hO290 rfl rfl
    obtain ⟨z294, hz294, H⟩ := bindE H
    have q293e' := q293e
    refine WA.oneYes 13 (by kernel_rfl) rfl rfl rfl rfl ((show _ = Value.bool (!z267) from rfl).trans (congrArg Value.bool c271)) ?_
    refine OW.call [v289] rfl Tryd.func15 (by kernel_rfl) (by kernel_rfl) (map_cons' rfl rfl) (by simp only [q293e]; exact (octet_Sum.calls k _ _ A291 c292 [y272, y279] z294 (HF.ten (V := [0, 16]) (L := []) rfl) q293 q293l hz294)) ?_
    rintro _ w295 ⟨o296, rfl, s297⟩
    refine ⟨_, rfl, ?_⟩
    replace s297 := un_stepL (J := []) (L' := []) s297 rfl rfl
    replace hra0 := hra0.step s297 rfl
    replace hra2 := hra2.step s297 rfl
    replace hG := hG.step s297 rfl
    replace hO121 := hO121.step s297 rfl rfl
    replace hr252 := hr252.step s297 rfl
    replace hO260 := hO260.step s297 rfl rfl
    replace hr274 := hr274.step s297 rfl
    replace hr281 := hr281.step s297 rfl
    replace hO290 := hO290.step s297 rfl rfl
    replace HF := HF.step s297 rfl
    replace sR := Step.trans sR s297 (M := []) rfl rfl
    refine ⟨⟨_, sR⟩, ?_⟩
    refine WA.norm (listed' := #[true, true, true, true, true, true, true, true, true, true, true, true, true, true, true, false, false, false, false, false, false, false, false, false, false, false, false, false, false, false]) (by kernel_rfl) ?_
    obtain ⟨z298, hz298, H⟩ := bindE H
    refine WA.oneYes 15 (by kernel_rfl) rfl rfl rfl rfl ((show _ = Value.bool (!z267) from rfl).trans (congrArg Value.bool c271)) ?_
    refine OW.call [.slice pA0 a0.length pc0] rfl Tryd.func16 (by kernel_rfl) (by kernel_rfl) (map_cons' rfl rfl) (dictumref01_Sum.calls k _ _ pA0 pc0 a0 z298 (HF.ten (V := [0]) (L := []) rfl) (Row.vw (V := [0]) (L := []) hra0 rfl) hla0 hz298) ?_
    rintro _ w299 ⟨o300, rfl, s301⟩
    refine ⟨_, rfl, ?_⟩
    replace s301 := un_stepL (J := []) (L' := []) s301 rfl rfl
    replace hra0 := hra0.step s301 rfl
    replace hra2 := hra2.step s301 rfl
    replace hG := hG.step s301 rfl
    replace hO121 := hO121.step s301 rfl rfl
    replace hr252 := hr252.step s301 rfl
    replace hO260 := hO260.step s301 rfl rfl
    replace hr274 := hr274.step s301 rfl
    replace hr281 := hr281.step s301 rfl
    replace hO290 := hO290.step s301 rfl rfl
    replace HF := HF.step s301 rfl
    replace sR := Step.trans sR s301 (M := []) rfl rfl
    refine ⟨⟨_, sR⟩, ?_⟩
    refine WA.norm (listed' := #[true, true, true, true, true, true, true, true, true, true, true, true, true, true, true, true, false, false, false, false, false, false, false, false, false, false, false, false, false, false]) (by kernel_rfl) ?_
    refine WA.exYes (i := 16) rfl (by kernel_rfl) (by kernel_rfl) (by kernel_rfl) rfl rfl rfl ((show _ = Value.bool (!z267) from rfl).trans (congrArg Value.bool c271)) ⟨_, sR⟩ (fun w_ hS_ => ex_bin (a := enc32 z294) (b := enc32 z298) (v := .bool (!(z294 == z298))) rfl rfl bin_neq_u32) ?_
    refine WA.norm (listed' := #[true, true, true, true, true, true, true, true, true, true, true, true, true, true, true, true, true, false, false, false, false, false, false, false, false, false, false, false, false, false]) (by kernel_rfl) ?_
    refine WA.ex 17 rfl (by kernel_rfl) (by kernel_rfl) (by kernel_rfl) rfl ⟨_, sR⟩ (fun w_ hS_ => ex_pick_f (v := .bool (!(z294 == z298))) ((show _ = Value.bool (!z267) from rfl).trans (congrArg Value.bool c271)) rfl) ?_
    refine WA.norm (listed' := #[true, true, true, true, true, true, true, true, true, true, true, true, true, true, true, true, true, true, false, false, false, false, false, false, false, false, false, false, false, false]) (by kernel_rfl) ?_
    refine WA.ex 18 rfl (by kernel_rfl) (by kernel_rfl) (by kernel_rfl) rfl ⟨_, sR⟩ (fun w_ hS_ => ex_move (v := .bool (!(z294 == z298))) rfl) ?_
    refine WA.norm (listed' := #[true, true, true, true, true, true, true, true, true, true, true, true, true, true, true, true, true, true, true, false, false, false, false, false, false, false, false, false, false, false]) (by kernel_rfl) ?_
    rcases condE H with ⟨c302, H⟩ | ⟨c302, H⟩
    ·
      refine WA.takeNo 19 rfl (by kernel_rfl) (by kernel_rfl) (by kernel_rfl) rfl rfl rfl ((show _ = Value.bool (!(z294 == z298)) from rfl).trans (congrArg Value.bool c302)) ⟨_, sR⟩ ?_
      refine WA.norm (listed' := #[true, true, true, true, true, true, true, true, true, true, true, true, true, true, true, true, true, true, true, true, false, false, false, false, false, false, false, false, false, false]) (by kernel_rfl) ?_
      refine WA.takeNo 20 rfl (by kernel_rfl) (by kernel_rfl) (by kernel_rfl) rfl rfl rfl ((show _ = Value.bool (!(z294 == z298)) from rfl).trans (congrArg Value.bool c302)) ⟨_, sR⟩ ?_
      refine WA.norm (listed' := #[true, true, true, true, true, true, true, true, true, true, true, true, true, true, true, true, true, true, true, true, true, false, false, false, false, false, false, false, false, false]) (by kernel_rfl) ?_
      refine WA.takeNo 21 rfl (by kernel_rfl) (by kernel_rfl) (by kernel_rfl) rfl rfl rfl ((show _ = Value.bool (!(z294 == z298)) from rfl).trans (congrArg Value.bool c302)) ⟨_, sR⟩ ?_
      refine WA.norm (listed' := #[true, true, true, true, true, true, true, true, true, true, true, true, true, true, true, true, true, true, true, true, true, true, false, false, false, false, false, false, false, false]) (by kernel_rfl) ?_
      refine WA.takeNo 22 rfl (by kernel_rfl) (by kernel_rfl) (by kernel_rfl) rfl rfl rfl ((show _ = Value.bool (!(z294 == z298)) from rfl).trans (congrArg Value.bool c302)) ⟨_, sR⟩ ?_
      refine WA.norm (listed' := #[true, true, true, true, true, true, true, true, true, true, true, true, true, true, true, true, true, true, true, true, true, true, true, false, false, false, false, false, false, false]) (by kernel_rfl) ?_
      refine WA.takeNo 23 rfl (by kernel_rfl) (by kernel_rfl) (by kernel_rfl) rfl rfl rfl ((show _ = Value.bool (!(z294 == z298)) from rfl).trans (congrArg Value.bool c302)) ⟨_, sR⟩ ?_
      refine WA.norm (listed' := #[true, true, true, true, true, true, true, true, true, true, true, true, true, true, true, true, true, true, true, true, true, true, true, true, false, false, false, false, false, false]) (by kernel_rfl) ?_
      refine WA.takeNo 24 rfl (by kernel_rfl) (by kernel_rfl) (by kernel_rfl) rfl rfl rfl ((show _ = Value.bool (!(z294 == z298)) from rfl).trans (congrArg Value.bool c302)) ⟨_, sR⟩ ?_
      refine WA.norm (listed' := #[true, true, true, true, true, true, true, true, true, true, true, true, true, true, true, true, true, true, true, true, true, true, true, true, true, false, false, false, false, false]) (by kernel_rfl) ?_
      refine WA.ex 25 rfl (by kernel_rfl) (by kernel_rfl) (by kernel_rfl) rfl ⟨_, sR⟩ (fun w_ hS_ => ex_pick_t (v := .bool true) ((show _ = Value.bool (!(z294 == z298)) from rfl).trans (congrArg Value.bool c302)) rfl) ?_
      refine WA.norm (listed' := #[true, true, true, true, true, true, true, true, true, true, true, true, true, true, true, true, true, true, true, true, true, true, true, true, true, true, false, false, false, false]) (by kernel_rfl) ?_
      refine WA.ex 26 rfl (by kernel_rfl) (by kernel_rfl) (by kernel_rfl) rfl ⟨_, sR⟩ (fun w_ hS_ => ex_move (v := .bool true) rfl) ?_
      refine WA.norm (listed' := #[true, true, true, true, true, true, true, true, true, true, true, true, true, true, true, true, true, true, true, true, true, true, true, true, true, true, true, false, false, false]) (by kernel_rfl) ?_
      refine WA.takeNo 27 rfl (by kernel_rfl) (by kernel_rfl) (by kernel_rfl) rfl rfl rfl rfl ⟨_, sR⟩ ?_
      refine WA.norm (listed' := #[true, true, true, true, true, true, true, true, true, true, true, true, true, true, true, true, true, true, true, true, true, true, true, true, true, true, true, true, false, false]) (by kernel_rfl) ?_
      refine WA.takeNo 28 rfl (by kernel_rfl) (by kernel_rfl) (by kernel_rfl) rfl rfl rfl rfl ⟨_, sR⟩ ?_
      refine WA.norm (listed' := #[true, true, true, true, true, true, true, true, true, true, true, true, true, true, true, true, true, true, true, true, true, true, true, true, true, true, true, true, true, false]) (by kernel_rfl) ?_
      refine WA.ex 29 rfl (by kernel_rfl) (by kernel_rfl) (by kernel_rfl) rfl ⟨_, sR⟩ (fun w_ hS_ => ex_pick_t (v := .bool true) rfl rfl) ?_
      refine WA.norm (listed' := #[true, true, true, true, true, true, true, true, true, true, true, true, true, true, true, true, true, true, true, true, true, true, true, true, true, true, true, true, true, true]) (by kernel_rfl) ?_
      refine WA.done (by kernel_rfl) ?_
      obtain rfl := Option.some.inj H
      exact ⟨_, _, _, HF, hra0, hra2, hr252, hl251, hO121, hG, rfl, rfl, rfl, rfl, rfl, rfl⟩
    ·
      refine WA.exYes (i := 19) rfl (by kernel_rfl) (by kernel_rfl) (by kernel_rfl) rfl rfl rfl ((show _ = Value.bool (!(z294 == z298)) from rfl).trans (congrArg Value.bool c302)) ⟨_, sR⟩ (fun w_ hS_ => ex_move (v := .slice A249 (([] : List UInt8) ++ a0).length c250) rfl) ?_
      refine WA.norm (listed' := #[true, true, true, true, true, true, true, true, true, true, true, true, true, true, true, true, true, true, true, true, false, false, false, false, false, false, false, false, false, false]) (by kernel_rfl) ?_
      refine WA.exYes (i := 22) rfl (by kernel_rfl) (by kernel_rfl) (by kernel_rfl) rfl rfl rfl ((show _ = Value.bool (!(z294 == z298)) from rfl).trans (congrArg Value.bool c302)) ⟨_, sR⟩ (fun w_ hS_ => ex_move (v := .slice pA0 a0.length pc0) rfl) ?_
      refine WA.norm (listed' := #[true, true, true, true, true, true, true, true, true, true, true, true, true, true, true, true, true, true, true, true, false, false, true, false, false, false, false, false, false, false]) (by kernel_rfl) ?_
      refine WA.oneYes 20 (by kernel_rfl) rfl rfl rfl rfl ((show _ = Value.bool (!(z294 == z298)) from rfl).trans (congrArg Value.bool c302)) ?_
      refine OW.row (r := (Rep.slice Rep.u8)) (xs := [(([] : List UInt8) ++ a0)]) [(0, .slice A249 (([] : List UInt8) ++ a0).length c250)] [[.slice A249 (([] : List UInt8) ++ a0).length c250]] 17 HF rfl Tryd.underlying80 sz24 zr24 rfl (evs_cons rfl rfl) rfl rfl ⟨(slice_mk hl251 hr252), trivial⟩ rfl rfl rfl rfl ?_
      intro o303 w304 v306 s305 hO307
      replace hra0 := hra0.step s305 rfl
      replace hra2 := hra2.step s305 rfl
      replace hG := hG.step s305 rfl
      replace hO121 := hO121.step s305 rfl rfl
      replace hr252 := hr252.step s305 rfl
      replace hO260 := hO260.step s305 rfl rfl
      replace hr274 := hr274.step s305 rfl
      replace hr281 := hr281.step s305 rfl
      replace hO290 := hO290.step s305 rfl rfl
      replace HF := HF.step s305 rfl
      replace sR := Step.trans sR s305 (M := []) rfl rfl
      refine ⟨⟨_, sR⟩, ?_⟩
      refine WA.norm (listed' := #[true, true, true, true, true, true, true, true, true, true, true, true, true, true, true, true, true, true, true, true, true, false, true, false, false, false, false, false, false, false]) (by kernel_rfl) ?_
      obtain ⟨A308, c309, q310e, q310l, q310⟩ := Own.vwRow (V := [0, 17]) (L := []) hO307 rfl rfl
      obtain ⟨z311, hz311, H⟩ := bindE H
      have q310e' := q310e
      refine WA.oneYes 21 (by kernel_rfl) rfl rfl rfl rfl ((show _ = Value.bool (!(z294 == z298)) from rfl).trans (congrArg Value.bool c302)) ?_
      refine OW.call [v306] rfl Tryd.func15 (by kernel_rfl) (by kernel_rfl) (map_cons' rfl rfl) (by simp only [q310e]; exact (octet_Sum.calls k _ _ A308 c309 ([(([] : List UInt8) ++ a0)]) z311 (HF.ten (V := [0, 17]) (L := []) rfl) q310 q310l hz311)) ?_
      rintro _ w312 ⟨o313, rfl, s314⟩
      refine ⟨_, rfl, ?_⟩
      replace s314 := un_stepL (J := []) (L' := []) s314 rfl rfl
      replace hra0 := hra0.step s314 rfl
      replace hra2 := hra2.step s314 rfl
      replace hG := hG.step s314 rfl
      replace hO121 := hO121.step s314 rfl rfl
      replace hr252 := hr252.step s314 rfl
      replace hO260 := hO260.step s314 rfl rfl
      replace hr274 := hr274.step s314 rfl
      replace hr281 := hr281.step s314 rfl
      replace hO290 := hO290.step s314 rfl rfl
      replace hO307 := hO307.step s314 rfl rfl
      replace HF := HF.step s314 rfl
      replace sR := Step.trans sR s314 (M := []) rfl rfl
      refine ⟨⟨_, sR⟩, ?_⟩
      refine WA.norm (listed' := #[true, true, true, true, true, true, true, true, true, true, true, true, true, true, true, true, true, true, true, true, true, true, true, false, false, false, false, false, false, false]) (by kernel_rfl) ?_
      obtain ⟨z315, hz315, H⟩ := bindE H
      refine WA.oneYes 23 (by kernel_rfl) rfl rfl rfl rfl ((show _ = Value.bool (!(z294 == z298)) from rfl).trans (congrArg Value.bool c302)) ?_
      refine OW.call [.slice pA0 a0.length pc0] rfl Tryd.func16 (by kernel_rfl) (by kernel_rfl) (map_cons' rfl rfl) (dictumref01_Sum.calls k _ _ pA0 pc0 a0 z315 (HF.ten (V := [0]) (L := []) rfl) (Row.vw (V := [0]) (L := []) hra0 rfl) hla0 hz315) ?_
      rintro _ w316 ⟨o317, rfl, s318⟩
      refine ⟨_, rfl, ?_⟩
      replace s318 := un_stepL (J := []) (L' := []) s318 rfl rfl
      replace hra0 := hra0.step s318 rfl
      replace hra2 := hra2.step s318 rfl
      replace hG := hG.step s318 rfl
      replace hO121 := hO121.step s318 rfl rfl
      replace hr252 := hr252.step s318 rfl
      replace hO260 := hO260.step s318 rfl rfl
      replace hr274 := hr274.step s318 rfl
      replace hr281 := hr281.step s318 rfl
      replace hO290 := hO290.step s318 rfl rfl
      replace hO307 := hO307.step s318 rfl rfl
      replace HF := HF.step s318 rfl
      replace sR := Step.trans sR s318 (M := []) rfl rfl
      refine ⟨⟨_, sR⟩, ?_⟩
      refine WA.norm (listed' := #[true, true, true, true, true, true, true, true, true, true, true, true, true, true, true, true, true, true, true, true, true, true, true, true, false, false, false, false, false, false]) (by kernel_rfl) ?_
      refine WA.exYes (i := 24) rfl (by kernel_rfl) (by kernel_rfl) (by kernel_rfl) rfl rfl rfl ((show _ = Value.bool (!(z294 == z298)) from rfl).trans (congrArg Value.bool c302)) ⟨_, sR⟩ (fun w_ hS_ => ex_bin (a := enc32 z311) (b := enc32 z315) (v := .bool (!(z311 == z315))) rfl rfl bin_neq_u32) ?_
      refine WA.norm (listed' := #[true, true, true, true, true, true, true, true, true, true, true, true, true, true, true, true, true, true, true, true, true, true, true, true, true, false, false, false, false, false]) (by kernel_rfl) ?_
      refine WA.ex 25 rfl (by kernel_rfl) (by kernel_rfl) (by kernel_rfl) rfl ⟨_, sR⟩ (fun w_ hS_ => ex_pick_f (v := .bool (!(z311 == z315))) ((show _ = Value.bool (!(z294 == z298)) from rfl).trans (congrArg Value.bool c302)) rfl) ?_
      refine WA.norm (listed' := #[true, true, true, true, true, true, true, true, true, true, true, true, true, true, true, true, true, true, true, true, true, true, true, true, true, true, false, false, false, false]) (by kernel_rfl) ?_
      refine WA.ex 26 rfl (by kernel_rfl) (by kernel_rfl) (by kernel_rfl) rfl ⟨_, sR⟩ (fun w_ hS_ => ex_move (v := .bool (!(z311 == z315))) rfl) ?_
      refine WA.norm (listed' := #[true, true, true, true, true, true, true, true, true, true, true, true, true, true, true, true, true, true, true, true, true, true, true, true, true, true, true, false, false, false]) (by kernel_rfl) ?_
      rcases condE H with ⟨c319, H⟩ | ⟨c319, H⟩
      ·
        refine WA.takeNo 27 rfl (by kernel_rfl) (by kernel_rfl) (by kernel_rfl) rfl rfl rfl ((show _ = Value.bool (!(z311 == z315)) from rfl).trans (congrArg Value.bool c319)) ⟨_, sR⟩ ?_
        refine WA.norm (listed' := #[true, true, true, true, true, true, true, true, true, true, true, true, true, true, true, true, true, true, true, true, true, true, true, true, true, true, true, true, false, false]) (by kernel_rfl) ?_
        refine WA.takeNo 28 rfl (by kernel_rfl) (by kernel_rfl) (by kernel_rfl) rfl rfl rfl ((show _ = Value.bool (!(z311 == z315)) from rfl).trans (congrArg Value.bool c319)) ⟨_, sR⟩ ?_
        refine WA.norm (listed' := #[true, true, true, true, true, true, true, true, true, true, true, true, true, true, true, true, true, true, true, true, true, true, true, true, true, true, true, true, true, false]) (by kernel_rfl) ?_
        refine WA.ex 29 rfl (by kernel_rfl) (by kernel_rfl) (by kernel_rfl) rfl ⟨_, sR⟩ (fun w_ hS_ => ex_pick_t (v := .bool true) ((show _ = Value.bool (!(z311 == z315)) from rfl).trans (congrArg Value.bool c319)) rfl) ?_
        refine WA.norm (listed' := #[true, true, true, true, true, true, true, true, true, true, true, true, true, true, true, true, true, true, true, true, true, true, true, true, true, true, true, true, true, true]) (by kernel_rfl) ?_
        refine WA.done (by kernel_rfl) ?_
        obtain rfl := Option.some.inj H
        exact ⟨_, _, _, HF, hra0, hra2, hr252, hl251, hO121, hG, rfl, rfl, rfl, rfl, rfl, rfl⟩
      ·
        obtain ⟨z320, hz320, H⟩ := bindE H
        refine WA.oneYes 27 (by kernel_rfl) rfl rfl rfl rfl ((show _ = Value.bool (!(z311 == z315)) from rfl).trans (congrArg Value.bool c319)) ?_
        refine OW.call [.slice none ([] : List (List UInt8)).length 0] rfl Tryd.func15 (by kernel_rfl) (by kernel_rfl) (map_cons' rfl rfl) (octet_Sum.calls k _ _ none 0 ([] : List (List UInt8)) z320 (HF.ten (V := [0]) (L := []) rfl) (Row.vw (V := [0]) (L := []) (Row.nil (A := none)) rfl) (Nat.zero_le _) hz320) ?_
        rintro _ w321 ⟨o322, rfl, s323⟩
        refine ⟨_, rfl, ?_⟩
        replace s323 := un_stepL (J := []) (L' := []) s323 rfl rfl
        replace hra0 := hra0.step s323 rfl
        replace hra2 := hra2.step s323 rfl
        replace hG := hG.step s323 rfl
        replace hO121 := hO121.step s323 rfl rfl
        replace hr252 := hr252.step s323 rfl
        replace hO260 := hO260.step s323 rfl rfl
        replace hr274 := hr274.step s323 rfl
        replace hr281 := hr281.step s323 rfl
        replace hO290 := hO290.step s323 rfl rfl
        replace hO307 := hO307.step s323 rfl rfl
        replace HF := HF.step s323 rfl
        replace sR := Step.trans sR s323 (M := []) rfl rfl
        refine ⟨⟨_, sR⟩, ?_⟩
        refine WA.norm (listed' := #[true, true, true, true, true, true, true, true, true, true, true, true, true, true, true, true, true, true, true, true, true, true, true, true, true, true, true, true, false, false]) (by kernel_rfl) ?_
        refine WA.exYes (i := 28) rfl (by kernel_rfl) (by kernel_rfl) (by kernel_rfl) rfl rfl rfl ((show _ = Value.bool (!(z311 == z315)) from rfl).trans (congrArg Value.bool c319)) ⟨_, sR⟩ (fun w_ hS_ => ex_bin (a := enc32 z320) (b := enc32 (0 : UInt32)) (v := .bool (!(z320 == (0 : UInt32)))) rfl rfl bin_neq_u32) ?_
        refine WA.norm (listed' := #[true, true, true, true, true, true, true, true, true, true, true, true, true, true, true, true, true, true, true, true, true, true, true, true, true, true, true, true, true, false]) (by kernel_rfl) ?_
        refine WA.ex 29 rfl (by kernel_rfl) (by kernel_rfl) (by kernel_rfl) rfl ⟨_, sR⟩ (fun w_ hS_ => ex_pick_f (v := .bool (!(z320 == (0 : UInt32)))) ((show _ = Value.bool (!(z311 == z315)) from rfl).trans (congrArg Value.bool c319)) rfl) ?_
        refine WA.norm (listed' := #[true, true, true, true, true, true, true, true, true, true, true, true, true, true, true, true, true, true, true, true, true, true, true, true, true, true, true, true, true, true]) (by kernel_rfl) ?_
        refine WA.done (by kernel_rfl) ?_
        obtain rfl := Option.some.inj H
        exact ⟨_, _, _, HF, hra0, hra2, hr252, hl251, hO121, hG, rfl, rfl, rfl, rfl, rfl, rfl⟩
end Go.Proofs.YtaidlahjngmenaaDoor.X
