import Derived.Test.YtaidlahjngmenaaDoorXAW2
set_option maxRecDepth 20000
set_option linter.unusedVariables false
set_option linter.unusedSimpArgs false
namespace Go.Proofs.YtaidlahjngmenaaDoor.X
open Go Go.RowKit Go.Proofs.YtaidlahjngmenaaDoor.SX
/-! ### dictumlaw01_OctetReads -/
set_option maxRecDepth 100000 in
theorem dictumlaw01_OctetReads.calls (k : Nat) (o0 : Tags) (w0 : World) (pA0 : Option Addr) (pc0 : Nat) (pA1 : Option Addr) (pc1 : Nat) (a0 : (List UInt8)) (a1 : (List Int)) (r : Bool) (hO : ∀ b, b < w0.heap.size → o0 b < 10) (hra0 : Row Rep.u8 (fun b_ => o0 b_ = 0) (fun b_ => o0 b_ = 0) w0 pA0 a0) (hla0 : a0.length ≤ pc0) (hra1 : Row (Rep.int .i64) (fun b_ => o0 b_ = 0) (fun b_ => o0 b_ = 0) w0 pA1 a1) (hla1 : a1.length ≤ pc1) (hG : Gl GG o0 w0) (H : dictumlaw01_OctetReads.f k a0 a1 = some r) :
    Calls Tryd.prog 6 [.slice pA0 a0.length pc0, .slice pA1 a1.length pc1].toArray w0 fun e_ w_ => ∃ (o_ : Tags), e_ = .returned (one [.bool r]) ∧ Step o0 w0 o_ w_ [] := by
  have HF := Fm.refl hO []
  unfold dictumlaw01_OctetReads.f at H
  refine SX.calls [.slice pA0 a0.length pc0, .slice pA1 a1.length pc1] Tryd.func6 rfl rfl ?_
  rw [Tryd.ntmps6]
  refine WC.seq ?_
  refine WC.region ?_
  refine WL.ex rfl (ex_assign (v := .bool false) rfl) ?_
  refine WL.nil ?_
  refine WC.seq ?_
  refine WC.region ?_
  refine WL.op rfl ?_
  refine OW.row (r := Rep.u8) (xs := ([] : List UInt8)) [] [] 10 HF rfl Tryd.underlying24 sz5 zr5 rfl rfl rfl rfl trivial rfl rfl rfl rfl ?_
  intro o101 w102 v104 s103 hO105
  replace hra0 := hra0.step s103 rfl
  replace hra1 := hra1.step s103 rfl
  replace hG := hG.step s103 rfl
  replace HF := HF.step s103 rfl
  refine WL.ex rfl (ex_move (v := .slice pA0 a0.length pc0) rfl) ?_
  obtain ⟨u106, hu106, H⟩ := bindE H
  refine WL.op rfl ?_
  refine OW.append (r := Rep.u8) (E := 5) (i := 10) rfl Tryd.underlying24 inf5 rfl (by decide) (by decide) (by decide) rfl rfl hO105 (hra0) rfl (of_decide_eq_true (chk_true hu106)) ?_
  intro o107 w108 v109 s110 hO111
  replace hra0 := hra0.step s110 rfl
  replace hra1 := hra1.step s110 rfl
  replace hG := hG.step s110 rfl
  replace HF := HF.step s110 rfl
  refine WL.ex rfl (ex_assign (v := v109) rfl) ?_
  refine WL.nil ?_
  refine WC.seq ?_
  refine WC.region ?_
  refine WL.ex rfl (ex_move (v := v109) rfl) ?_
  obtain ⟨A112, c113, q114e, q114l, q114⟩ := Own.vwRow (V := [0, 10]) (L := []) hO111 rfl rfl
  obtain ⟨z115, hz115, H⟩ := bindE H
  have q114e' := q114e
  refine WL.op rfl ?_
  refine OW.call [v109] rfl Tryd.func19 (by kernel_rfl) (by kernel_rfl) (map_cons' rfl rfl) (by simp only [q114e]; exact (octet_NewReader.calls _ _ A112 c113 (([] : List UInt8) ++ a0) z115 (HF.ten (V := [0, 10]) (L := []) rfl) q114 q114l hz115)) ?_
  rintro _ w116 ⟨o117, b119, v121, rfl, s118, hB120, hO122⟩
  refine ⟨_, rfl, ?_⟩
  replace hB120 := Bk.un9 (J := [11, 12]) 0 hB120 rfl s118 rfl rfl
  replace hO122 := Own.un9f (J := [11, 12]) 1 (fun h => h) hO122 rfl s118 rfl rfl
  replace s118 := un_stepL (J := [11, 12]) (L' := []) s118 rfl rfl
  replace hra0 := hra0.step s118 rfl
  replace hra1 := hra1.step s118 rfl
  replace hG := hG.step s118 rfl
  replace hO111 := hO111.step s118 rfl rfl
  replace HF := HF.step s118 rfl
  refine WL.ex rfl (ex_assign (v := .pointer (some ⟨b119, 0, none⟩)) rfl) ?_
  refine WL.nil ?_
  refine WC.seq ?_
  refine WC.seq ?_
  refine WC.region ?_
  refine WL.ex rfl (ex_move (v := .pointer (some ⟨b119, 0, none⟩)) rfl) ?_
  refine WL.ex rfl (ex_bin (a := .pointer (some ⟨b119, 0, none⟩)) (b := .pointer none) (v := .bool false) rfl rfl (bin_eql_ptrSN Tryd.underlying48)) ?_
  refine WL.nil ?_
  refine WC.cond_f rfl ?_
  refine WC.skip ?_
  refine WC.seq ?_
  refine WC.seq ?_
  refine WC.region ?_
  refine WL.ex rfl (ex_assign (v := .int .i64 0) rfl) ?_
  refine WL.nil ?_
  obtain ⟨z127, hz127, H⟩ := bindE H
  refine WC.for (fun k_ ρ_ w_ => ∃ (o_ : Tags) (x125 : (List UInt8)) (x126 : Int) (v123 : Value), Fm o0 w0 o_ w_ [] ∧ Row Rep.u8 (fun b_ => o_ b_ = 0) (fun b_ => o_ b_ = 0) w_ pA0 a0 ∧ Row (Rep.int .i64) (fun b_ => o_ b_ = 0) (fun b_ => o_ b_ = 0) w_ pA1 a1 ∧ Own Rep.u8 5 10 o_ w_ v123 x125 ∧ Bk o_ w_ 11 b119 [.bool z115.f_made, v121] 68 ∧ Own Rep.u8 5 12 o_ w_ v121 z115.f_left ∧ Gl GG o_ w_ ∧ ρ_ 0 = .slice pA0 a0.length pc0 ∧ ρ_ 1 = .slice pA1 a1.length pc1 ∧ ρ_ 4 = .bool false ∧ ρ_ 5 = v123 ∧ ρ_ 6 = .pointer (some ⟨b119, 0, none⟩) ∧ ρ_ 7 = .int .i64 x126 ∧ dictumlaw01_OctetReads.l1 k k_ x125 x126 = some z127) k (fun ρ_ w_ => ∃ (o_ : Tags), Fm o0 w0 o_ w_ [] ∧ Row Rep.u8 (fun b_ => o_ b_ = 0) (fun b_ => o_ b_ = 0) w_ pA0 a0 ∧ Row (Rep.int .i64) (fun b_ => o_ b_ = 0) (fun b_ => o_ b_ = 0) w_ pA1 a1 ∧ Bk o_ w_ 11 b119 [.bool z115.f_made, v121] 68 ∧ Own Rep.u8 5 12 o_ w_ v121 z115.f_left ∧ Gl GG o_ w_ ∧ ρ_ 0 = .slice pA0 a0.length pc0 ∧ ρ_ 1 = .slice pA1 a1.length pc1 ∧ ρ_ 4 = .bool false ∧ ρ_ 6 = .pointer (some ⟨b119, 0, none⟩)) ⟨_, (([] : List UInt8) ++ a0), 0, _, HF, hra0, hra1, hO111, hB120, hO122, hG, rfl, rfl, rfl, rfl, rfl, rfl, hz127⟩ ?case128 ?_
  case case128 =>
    rintro ρ163 w161 ⟨o162, HF, hra0, hra1, hB120, hO122, hG, s0_126, s1_126, s4_126, s6_126⟩
    refine WC.seq ?_
    refine WC.region ?_
    refine WL.ex rfl (ex_move (v := .slice pA0 a0.length pc0) s0_126) ?_
    refine WL.ex rfl (ex_assign (v := .slice pA0 a0.length pc0) rfl) ?_
    refine WL.nil ?_
    refine WC.seq ?_
    refine WC.seq ?_
    refine WC.region ?_
    refine WL.ex rfl (ex_assign (v := .int .i64 0) rfl) ?_
    refine WL.nil ?_
    obtain ⟨A175, c176, rfl, hl177, hr178⟩ := hO122.pubRow
    replace hra0 := hra0.pub 12
    replace hra1 := hra1.pub 12
    replace hB120 := hB120.pub 12 rfl
    replace hG := hG.pub 12
    replace HF := HF.pub 12 rfl
    obtain ⟨z179, hz179, H⟩ := bindE H
    refine WC.for (fun k_ ρ_ w_ => ∃ (o_ : Tags) (x168 : (List UInt8)) (x169 : Int) (x170 : T_octet_Reader) (A164 : Option Addr) (c165 : Nat) (A171 : Option Addr) (c172 : Nat), Fm o0 w0 o_ w_ [] ∧ Row (Rep.int .i64) (fun b_ => o_ b_ = 0) (fun b_ => o_ b_ = 0) w_ pA1 a1 ∧ Row Rep.u8 (fun b_ => o_ b_ = 0) (fun b_ => o_ b_ = 0) w_ A164 x168 ∧ x168.length ≤ c165 ∧ Bk o_ w_ 11 b119 [.bool x170.f_made, .slice A171 x170.f_left.length c172] 68 ∧ Row Rep.u8 (fun b_ => o_ b_ = 0) (fun b_ => o_ b_ = 0) w_ A171 x170.f_left ∧ x170.f_left.length ≤ c172 ∧ Gl GG o_ w_ ∧ ρ_ 1 = .slice pA1 a1.length pc1 ∧ ρ_ 4 = .bool false ∧ ρ_ 6 = .pointer (some ⟨b119, 0, none⟩) ∧ ρ_ 8 = .slice A164 x168.length c165 ∧ ρ_ 9 = .int .i64 x169 ∧ dictumlaw01_OctetReads.l2 k a1 k_ x168 x169 x170 = some z179) k (fun ρ_ w_ => ∃ (o_ : Tags), Fm o0 w0 o_ w_ [] ∧ Gl GG o_ w_ ∧ ρ_ 4 = .bool false ∧ z179 = .inr ()) ⟨_, a0, 0, z115, _, _, _, _, HF, hra1, hra0, hla0, hB120, hr178, hl177, hG, s1_126, s4_126, s6_126, rfl, rfl, hz179⟩ ?case180 ?_
    case case180 =>
      rintro ρ340 w338 ⟨o339, HF, hG, s4_174, rfl⟩
      dsimp only at H
      refine WC.seq ?_
      refine WC.region ?_
      obtain ⟨z341, hz341, H⟩ := bindE H
      refine WL.op rfl ?_
      refine OW.call [] rfl Tryd.func12 (by kernel_rfl) (by kernel_rfl) rfl (dictumlaw01_heads.calls k _ _ z341 (HF.ten (V := [0]) (L := []) rfl) (Gl.vw (V := [0]) (L := []) hG rfl) hz341) ?_
      rintro _ w342 ⟨o343, rfl, s344⟩
      refine ⟨_, rfl, ?_⟩
      replace s344 := un_stepL (J := []) (L' := []) s344 rfl rfl
      replace hG := hG.step s344 rfl
      replace HF := HF.step s344 rfl
      refine WL.ex rfl (ex_assign (v := .bool z341) rfl) ?_
      refine WL.nil ?_
      refine WC.ret ?_
      obtain rfl := Option.some.inj H
      exact ⟨_, (.tmp (.bool z341 : Value) rfl .nil), _, rfl, HF.out⟩
    have Ho181 := H
    rintro k182 ρ183 w184 ⟨o185, x168, x169, x170, A164, c165, A171, c172, HF, hra1, hr166, hl167, hB120, hr173, hl174, hG, s1_163, s4_163, s6_163, s8_168, s9_169, H⟩
    cases k182 with
    | zero => cases H
    | succ k182 =>
    rw [dictumlaw01_OctetReads.l2.eq_2] at H
    refine WC.seq ?_
    refine WC.seq ?_
    refine WC.region ?_
    refine WL.ex rfl (ex_move (v := .int .i64 x169) s9_169) ?_
    refine WL.ex rfl (ex_move (v := .slice pA1 a1.length pc1) s1_163) ?_
    refine WL.ex rfl (ex_len_slice (A := pA1) (m := a1.length) (c := pc1) rfl Tryd.underlying47) ?_
    refine WL.ex rfl (ex_bin (a := .int .i64 x169) (b := .int .i64 (a1.length : Int)) (v := .bool (decide (x169 < (a1.length : Int)))) rfl rfl bin_lss) ?_
    refine WL.nil ?_
    rcases condE H with ⟨c186, H⟩ | ⟨c186, H⟩
    ·
      refine WC.cond_t ((show _ = Value.bool (decide (x169 < (a1.length : Int))) from rfl).trans (congrArg Value.bool c186)) ?_
      refine WC.skip ?_
      refine WC.seq ?_
      refine WC.block ?_
      obtain ⟨z197, hz197, H⟩ := bindE H
      refine WC.cut (fun ρ_ w_ => ∃ (o_ : Tags) (x191 : (List UInt8)) (x192 : T_octet_Reader) (A187 : Option Addr) (c188 : Nat) (A193 : Option Addr) (c194 : Nat), Fm o0 w0 o_ w_ [] ∧ Row (Rep.int .i64) (fun b_ => o_ b_ = 0) (fun b_ => o_ b_ = 0) w_ pA1 a1 ∧ Row Rep.u8 (fun b_ => o_ b_ = 0) (fun b_ => o_ b_ = 0) w_ A187 x191 ∧ x191.length ≤ c188 ∧ Bk o_ w_ 11 b119 [.bool x192.f_made, .slice A193 x192.f_left.length c194] 68 ∧ Row Rep.u8 (fun b_ => o_ b_ = 0) (fun b_ => o_ b_ = 0) w_ A193 x192.f_left ∧ x192.f_left.length ≤ c194 ∧ Gl GG o_ w_ ∧ ρ_ 1 = .slice pA1 a1.length pc1 ∧ ρ_ 4 = .bool false ∧ ρ_ 6 = .pointer (some ⟨b119, 0, none⟩) ∧ ρ_ 8 = .slice A187 x191.length c188 ∧ ρ_ 9 = .int .i64 x169 ∧ z197 = .inr (x191, x192)) ?case198 ?_
      case case198 =>
        rintro ρ201 w199 ⟨o200, x191, x192, A187, c188, A193, c194, HF, hra1, hr189, hl190, hB199, hr195, hl196, hG, s1_186, s4_186, s6_186, s8_191, s9_191, rfl⟩
        replace H : _ = some _ := H
        dsimp only at H
        refine WC.seq ?_
        refine WC.region ?_
        refine WL.ex rfl (ex_assign (v := .int .i64 0) rfl) ?_
        refine WL.nil ?_
        obtain ⟨z203, hz203, H⟩ := bindE H
        refine WC.cut (fun ρ_ w_ => ∃ (o_ : Tags), Fm o0 w0 o_ w_ [] ∧ Row (Rep.int .i64) (fun b_ => o_ b_ = 0) (fun b_ => o_ b_ = 0) w_ pA1 a1 ∧ Row Rep.u8 (fun b_ => o_ b_ = 0) (fun b_ => o_ b_ = 0) w_ A187 x191 ∧ x191.length ≤ c188 ∧ Bk o_ w_ 11 b119 [.bool x192.f_made, .slice A193 x192.f_left.length c194] 68 ∧ Row Rep.u8 (fun b_ => o_ b_ = 0) (fun b_ => o_ b_ = 0) w_ A193 x192.f_left ∧ x192.f_left.length ≤ c194 ∧ Gl GG o_ w_ ∧ ρ_ 1 = .slice pA1 a1.length pc1 ∧ ρ_ 4 = .bool false ∧ ρ_ 6 = .pointer (some ⟨b119, 0, none⟩) ∧ ρ_ 8 = .slice A187 x191.length c188 ∧ ρ_ 9 = .int .i64 x169 ∧ ρ_ 22 = .int .i64 z203) ?case204 ?_
        case case204 =>
          rintro ρ207 w205 ⟨o206, HF, hra1, hr189, hl190, hB199, hr195, hl196, hG, s1_201, s4_201, s6_201, s8_201, s9_201, s22_202⟩
          obtain ⟨z209, hz209, H⟩ := bindE H
          refine WC.cut (fun ρ_ w_ => ∃ (o_ : Tags), Fm o0 w0 o_ w_ [] ∧ Row (Rep.int .i64) (fun b_ => o_ b_ = 0) (fun b_ => o_ b_ = 0) w_ pA1 a1 ∧ Row Rep.u8 (fun b_ => o_ b_ = 0) (fun b_ => o_ b_ = 0) w_ A187 x191 ∧ x191.length ≤ c188 ∧ Bk o_ w_ 11 b119 [.bool x192.f_made, .slice A193 x192.f_left.length c194] 68 ∧ Row Rep.u8 (fun b_ => o_ b_ = 0) (fun b_ => o_ b_ = 0) w_ A193 x192.f_left ∧ x192.f_left.length ≤ c194 ∧ Gl GG o_ w_ ∧ ρ_ 1 = .slice pA1 a1.length pc1 ∧ ρ_ 4 = .bool false ∧ ρ_ 6 = .pointer (some ⟨b119, 0, none⟩) ∧ ρ_ 8 = .slice A187 x191.length c188 ∧ ρ_ 9 = .int .i64 x169 ∧ ρ_ 143 = .bool z209) ?case210 ?_
          case case210 =>
            rintro ρ213 w211 ⟨o212, HF, hra1, hr189, hl190, hB199, hr195, hl196, hG, s1_207, s4_207, s6_207, s8_207, s9_207, s143_208⟩
            rcases condE H with ⟨c214, H⟩ | ⟨c214, H⟩
            ·
              refine WC.cond_t ((show _ = Value.bool z209 from s143_208).trans (congrArg Value.bool c214)) ?_
              refine WC.seq ?_
              refine WC.region ?_
              refine WL.ex rfl (ex_assign (v := .bool false) rfl) ?_
              refine WL.nil ?_
              refine WC.ret ?_
              obtain rfl := Option.some.inj H
              replace H := Ho181
              dsimp only at H
              obtain rfl := Option.some.inj H
              exact ⟨_, (.tmp (.bool false : Value) rfl .nil), _, rfl, HF.out⟩
            ·
              refine WC.cond_f ((show _ = Value.bool z209 from s143_208).trans (congrArg Value.bool c214)) ?_
              refine WC.skip ?_
              refine WC.region ?_
              refine WL.ex rfl (ex_move (v := .int .i64 x169) s9_207) ?_
              refine WL.ex rfl (ex_bin (a := .int .i64 x169) (b := .int .i64 1) (v := .int .i64 (wrap64 (x169 + 1))) rfl rfl bin_add64) ?_
              refine WL.ex rfl (ex_assign (v := .int .i64 (wrap64 (x169 + 1))) rfl) ?_
              refine WL.nil ?_
              exact ⟨k182, Nat.lt_succ_self _, ⟨_, x191, wrap64 (x169 + 1), x192, _, _, _, _, HF, hra1, hr189, hl190, hB199, hr195, hl196, hG, s1_207, s4_207, s6_207, s8_207, rfl, H⟩⟩
          have Ho215 := H
          replace H := hz209
          refine WC.region ?_
          refine WL.ex rfl (ex_move (v := .pointer (some ⟨b119, 0, none⟩)) s6_201) ?_
          obtain ⟨z216, hz216, H⟩ := bindE H
          refine WL.op rfl ?_
          refine OW.call [.pointer (some ⟨b119, 0, none⟩)] rfl Tryd.func25 (by kernel_rfl) (by kernel_rfl) (map_cons' rfl rfl) (octet_Reader_Left.calls _ _ b119 A193 c194 x192 z216 (HF.ten (V := [0]) (L := [11]) rfl) (Bk.vw (V := [0]) (L := [11]) hB199 rfl) (Row.vw (V := [0]) (L := [11]) hr195 rfl) hl196 hz216) ?_
          rintro _ w217 ⟨o218, rfl, s219⟩
          refine ⟨_, rfl, ?_⟩
          replace s219 := un_stepL (J := []) (L' := []) s219 rfl rfl
          replace hra1 := hra1.step s219 rfl
          replace hr189 := hr189.step s219 rfl
          replace hB199 := hB199.step s219 rfl
          replace hr195 := hr195.step s219 rfl
          replace hG := hG.step s219 rfl
          replace HF := HF.step s219 rfl
          refine WL.ex rfl (ex_move (v := .slice A187 x191.length c188) s8_201) ?_
          refine WL.ex rfl (ex_len_slice (A := A187) (m := x191.length) (c := c188) rfl Tryd.underlying24) ?_
          refine WL.ex rfl (ex_bin (a := .int .i64 z216) (b := .int .i64 (x191.length : Int)) (v := .bool (z216 != (x191.length : Int))) rfl rfl bin_neq) ?_
          refine WL.ex rfl (ex_move (v := .bool (z216 != (x191.length : Int))) rfl) ?_
          rcases condE H with ⟨c220, H⟩ | ⟨c220, H⟩
          ·
            refine WL.guardNo rfl rfl rfl ((show _ = Value.bool (z216 != (x191.length : Int)) from rfl).trans (congrArg Value.bool c220)) ?_
            refine WL.guardNo rfl rfl rfl ((show _ = Value.bool (z216 != (x191.length : Int)) from rfl).trans (congrArg Value.bool c220)) ?_
            refine WL.guardNo rfl rfl rfl ((show _ = Value.bool (z216 != (x191.length : Int)) from rfl).trans (congrArg Value.bool c220)) ?_
            refine WL.guardNo rfl rfl rfl ((show _ = Value.bool (z216 != (x191.length : Int)) from rfl).trans (congrArg Value.bool c220)) ?_
            refine WL.ex rfl (ex_pick_t (v := .bool true) ((show _ = Value.bool (z216 != (x191.length : Int)) from rfl).trans (congrArg Value.bool c220)) rfl) ?_
            refine WL.nil ?_
            obtain rfl := Option.some.inj H
            exact ⟨_, HF, hra1, hr189, hl190, hB199, hr195, hl196, hG, s1_201, s4_201, s6_201, s8_201, s9_201, rfl⟩
          ·
            refine WL.guardYes rfl rfl rfl ((show _ = Value.bool (z216 != (x191.length : Int)) from rfl).trans (congrArg Value.bool c220)) ?_
            refine OW.ex rfl (ex_move (v := .pointer (some ⟨b119, 0, none⟩)) s6_201) ?_
            refine WL.guardYes rfl rfl rfl ((show _ = Value.bool (z216 != (x191.length : Int)) from rfl).trans (congrArg Value.bool c220)) ?_
            obtain ⟨z221, hz221, H⟩ := bindE H
            refine OW.call [.pointer (some ⟨b119, 0, none⟩)] rfl Tryd.func26 (by kernel_rfl) (by kernel_rfl) (map_cons' rfl rfl) (octet_Reader_End.calls _ _ b119 A193 c194 x192 z221 (HF.ten (V := [0]) (L := [11]) rfl) (Bk.vw (V := [0]) (L := [11]) hB199 rfl) (Row.vw (V := [0]) (L := [11]) hr195 rfl) hl196 hz221) ?_
            rintro _ w222 ⟨o223, rfl, s224⟩
            refine ⟨_, rfl, ?_⟩
            replace s224 := un_stepL (J := []) (L' := []) s224 rfl rfl
            replace hra1 := hra1.step s224 rfl
            replace hr189 := hr189.step s224 rfl
            replace hB199 := hB199.step s224 rfl
            replace hr195 := hr195.step s224 rfl
            replace hG := hG.step s224 rfl
            replace HF := HF.step s224 rfl
            refine WL.guardYes rfl rfl rfl ((show _ = Value.bool (z216 != (x191.length : Int)) from rfl).trans (congrArg Value.bool c220)) ?_
            refine OW.ex rfl (ex_move (v := .int .i64 z203) s22_202) ?_
            refine WL.guardYes rfl rfl rfl ((show _ = Value.bool (z216 != (x191.length : Int)) from rfl).trans (congrArg Value.bool c220)) ?_
            refine OW.ex rfl (ex_bin (a := .int .i64 z221) (b := .int .i64 z203) (v := .bool (z221 != z203)) rfl rfl bin_neq) ?_
            refine WL.ex rfl (ex_pick_f (v := .bool (z221 != z203)) ((show _ = Value.bool (z216 != (x191.length : Int)) from rfl).trans (congrArg Value.bool c220)) rfl) ?_
            refine WL.nil ?_
            obtain rfl := Option.some.inj H
            exact ⟨_, HF, hra1, hr189, hl190, hB199, hr195, hl196, hG, s1_201, s4_201, s6_201, s8_201, s9_201, rfl⟩
        have Ho225 := H
        replace H := hz203
        refine WC.seq ?_
        refine WC.region ?_
        refine WL.ex rfl (ex_move (v := .slice A187 x191.length c188) s8_191) ?_
        refine WL.ex rfl (ex_len_slice (A := A187) (m := x191.length) (c := c188) rfl Tryd.underlying24) ?_
        refine WL.ex rfl (ex_bin (a := .int .i64 (x191.length : Int)) (b := .int .i64 0) (v := .bool (decide ((x191.length : Int) > 0))) rfl rfl bin_gtr) ?_
        refine WL.nil ?_
        rcases condE H with ⟨c226, H⟩ | ⟨c226, H⟩
        ·
          refine WC.cond_t ((show _ = Value.bool (decide ((x191.length : Int) > 0)) from rfl).trans (congrArg Value.bool c226)) ?_
          refine WC.region ?_
          refine WL.ex rfl (ex_assign (v := .int .i64 11) rfl) ?_
          refine WL.nil ?_
          obtain rfl := Option.some.inj H
          exact ⟨_, HF, hra1, hr189, hl190, hB199, hr195, hl196, hG, s1_186, s4_186, s6_186, s8_191, s9_191, rfl⟩
        ·
          refine WC.cond_f ((show _ = Value.bool (decide ((x191.length : Int) > 0)) from rfl).trans (congrArg Value.bool c226)) ?_
          refine WC.skip ?_
          obtain rfl := Option.some.inj H
          exact ⟨_, HF, hra1, hr189, hl190, hB199, hr195, hl196, hG, s1_186, s4_186, s6_186, s8_191, s9_191, rfl⟩
      have Ho227 := H
      replace H := hz197
      refine WC.seq ?_
      refine WC.region ?_
      refine WL.ex rfl (ex_move (v := .slice pA1 a1.length pc1) s1_163) ?_
      refine WL.ex rfl (ex_move (v := .int .i64 x169) s9_169) ?_
      obtain ⟨x228, hx228, H⟩ := bindE H
      obtain ⟨ad229, e230, g231, g232, cell233⟩ := Row.ixS hra1 hx228
      refine WL.ex rfl (ex_indexAddr (i := x169) rfl e230 rfl Tryd.underlying47 sz3 g231 g232) ?_
      refine WL.ex rfl (ex_load1 (v := .int .i64 x228) rfl Tryd.underlying3 rfl cell233) ?_
      refine WL.nil ?_
      refine WC.block ?_
      refine WC.seq ?_
      refine WC.region ?_
      refine WL.ex rfl (ex_bin (a := .int .i64 x228) (b := .int .i64 0) (v := .bool (x228 == 0)) rfl rfl bin_eql) ?_
      refine WL.ex rfl (ex_assign (v := .bool (x228 == 0)) rfl) ?_
      refine WL.nil ?_
      rcases condE H with ⟨c235, H⟩ | ⟨c235, H⟩
      ·
        refine WC.cond_t ((show _ = Value.bool (x228 == 0) from rfl).trans (congrArg Value.bool c235)) ?_
        refine WC.seq ?_
        refine WC.region ?_
        refine WL.ex rfl (ex_move (v := .pointer (some ⟨b119, 0, none⟩)) s6_163) ?_
        obtain ⟨z236, hz236, H⟩ := bindE H
        refine WL.op rfl ?_
        refine OW.call [.pointer (some ⟨b119, 0, none⟩)] rfl Tryd.func20 (by kernel_rfl) (by kernel_rfl) (map_cons' rfl rfl) (octet_Reader_U8.calls _ _ b119 A171 c172 x170 z236 (HF.ten (V := [0]) (L := [11]) rfl) (Bk.vw (V := [0]) (L := [11]) hB120 rfl) (Row.vw (V := [0]) (L := [11]) hr173 rfl) hl174 hz236) ?_
        rintro _ w237 ⟨o238, A241, c242, rfl, s239, hB240, hl243, hr244⟩
        refine ⟨_, rfl, ?_⟩
        replace hB240 := Bk.unO (J := []) 0 hB240 s239 rfl rfl rfl
        replace hr244 := hr244.un (J := []) s239
        replace s239 := un_stepL (J := []) (L' := [11]) s239 rfl rfl
        replace hra1 := hra1.step s239 rfl
        replace hr166 := hr166.step s239 rfl
        replace hr173 := hr173.step s239 rfl
        replace hG := hG.step s239 rfl
        replace HF := HF.step s239 rfl
        refine WL.ex rfl (ex_move (v := .tuple #[enc8 z236.1, .int .i64 z236.2.1]) rfl) ?_
        refine WL.ex rfl (ex_extract (vs := #[enc8 z236.1, .int .i64 z236.2.1]) (v := enc8 z236.1) rfl rfl) ?_
        refine WL.ex rfl (ex_extract (vs := #[enc8 z236.1, .int .i64 z236.2.1]) (v := .int .i64 z236.2.1) rfl rfl) ?_
        refine WL.ex rfl (ex_assign (v := enc8 z236.1) rfl) ?_
        refine WL.ex rfl (ex_assign (v := .int .i64 z236.2.1) rfl) ?_
        refine WL.nil ?_
        refine WC.seq ?_
        refine WC.seq ?_
        refine WC.region ?_
        refine WL.ex rfl (ex_move (v := .slice A164 x168.length c165) s8_168) ?_
        refine WL.ex rfl (ex_len_slice (A := A164) (m := x168.length) (c := c165) rfl Tryd.underlying24) ?_
        refine WL.ex rfl (ex_bin (a := .int .i64 (x168.length : Int)) (b := .int .i64 0) (v := .bool ((x168.length : Int) == 0)) rfl rfl bin_eql) ?_
        refine WL.nil ?_
        rcases condE H with ⟨c245, H⟩ | ⟨c245, H⟩
        ·
          refine WC.cond_t ((show _ = Value.bool ((x168.length : Int) == 0) from rfl).trans (congrArg Value.bool c245)) ?_
          refine WC.seq ?_
          obtain ⟨z247, hz247, H⟩ := bindE H
          refine WC.cut (fun ρ_ w_ => ∃ (o_ : Tags), Fm o0 w0 o_ w_ [] ∧ Row (Rep.int .i64) (fun b_ => o_ b_ = 0) (fun b_ => o_ b_ = 0) w_ pA1 a1 ∧ Row Rep.u8 (fun b_ => o_ b_ = 0) (fun b_ => o_ b_ = 0) w_ A164 x168 ∧ x168.length ≤ c165 ∧ Bk o_ w_ 11 b119 [.bool z236.2.2.f_made, .slice A241 z236.2.2.f_left.length c242] 68 ∧ Row Rep.u8 (fun b_ => o_ b_ = 0) (fun b_ => o_ b_ = 0) w_ A241 z236.2.2.f_left ∧ Gl GG o_ w_ ∧ ρ_ 1 = .slice pA1 a1.length pc1 ∧ ρ_ 4 = .bool false ∧ ρ_ 6 = .pointer (some ⟨b119, 0, none⟩) ∧ ρ_ 8 = .slice A164 x168.length c165 ∧ ρ_ 9 = .int .i64 x169 ∧ ρ_ 10 = enc8 z236.1 ∧ ρ_ 11 = .int .i64 z236.2.1 ∧ ρ_ 70 = .bool z247) ?case248 ?_
          case case248 =>
            rintro ρ251 w249 ⟨o250, HF, hra1, hr166, hl167, hB240, hr244, hG, s1_245, s4_245, s6_245, s8_245, s9_245, s10_245, s11_245, s70_246⟩
            rcases condE H with ⟨c252, H⟩ | ⟨c252, H⟩
            ·
              refine WC.cond_t ((show _ = Value.bool z247 from s70_246).trans (congrArg Value.bool c252)) ?_
              refine WC.seq ?_
              refine WC.region ?_
              refine WL.ex rfl (ex_assign (v := .bool false) rfl) ?_
              refine WL.nil ?_
              refine WC.ret ?_
              obtain rfl := Option.some.inj H
              replace H := Ho227
              dsimp only at H
              obtain rfl := Option.some.inj H
              replace H := Ho181
              dsimp only at H
              obtain rfl := Option.some.inj H
              exact ⟨_, (.tmp (.bool false : Value) rfl .nil), _, rfl, HF.out⟩
            ·
              refine WC.cond_f ((show _ = Value.bool z247 from s70_246).trans (congrArg Value.bool c252)) ?_
              refine WC.skip ?_
              refine WC.exit ?_
              obtain rfl := Option.some.inj H
              exact ⟨_, x168, z236.2.2, _, _, _, _, HF, hra1, hr166, hl167, hB240, hr244, hl243, hG, s1_245, s4_245, s6_245, s8_245, s9_245, rfl⟩
          have Ho253 := H
          replace H := hz247
          refine WC.region ?_
          refine WL.ex rfl (ex_move (v := enc8 z236.1) rfl) ?_
          refine WL.ex rfl (ex_bin (a := enc8 z236.1) (b := enc8 (0 : UInt8)) (v := .bool (!(z236.1 == (0 : UInt8)))) rfl rfl bin_neq_u8) ?_
          refine WL.ex rfl (ex_move (v := .bool (!(z236.1 == (0 : UInt8)))) rfl) ?_
          rcases condE H with ⟨c254, H⟩ | ⟨c254, H⟩
          ·
            refine WL.guardNo rfl rfl rfl ((show _ = Value.bool (!(z236.1 == (0 : UInt8))) from rfl).trans (congrArg Value.bool c254)) ?_
            refine WL.guardNo rfl rfl rfl ((show _ = Value.bool (!(z236.1 == (0 : UInt8))) from rfl).trans (congrArg Value.bool c254)) ?_
            refine WL.ex rfl (ex_pick_t (v := .bool true) ((show _ = Value.bool (!(z236.1 == (0 : UInt8))) from rfl).trans (congrArg Value.bool c254)) rfl) ?_
            refine WL.nil ?_
            obtain rfl := Option.some.inj H
            exact ⟨_, HF, hra1, hr166, hl167, hB240, hr244, hG, s1_163, s4_163, s6_163, s8_168, s9_169, rfl, rfl, rfl⟩
          ·
            refine WL.guardYes rfl rfl rfl ((show _ = Value.bool (!(z236.1 == (0 : UInt8))) from rfl).trans (congrArg Value.bool c254)) ?_
            refine OW.ex rfl (ex_move (v := .int .i64 z236.2.1) rfl) ?_
            refine WL.guardYes rfl rfl rfl ((show _ = Value.bool (!(z236.1 == (0 : UInt8))) from rfl).trans (congrArg Value.bool c254)) ?_
            refine OW.ex rfl (ex_bin (a := .int .i64 z236.2.1) (b := .int .i64 10) (v := .bool (z236.2.1 != 10)) rfl rfl bin_neq) ?_
            refine WL.ex rfl (ex_pick_f (v := .bool (z236.2.1 != 10)) ((show _ = Value.bool (!(z236.1 == (0 : UInt8))) from rfl).trans (congrArg Value.bool c254)) rfl) ?_
            refine WL.nil ?_
            obtain rfl := Option.some.inj H
            exact ⟨_, HF, hra1, hr166, hl167, hB240, hr244, hG, s1_163, s4_163, s6_163, s8_168, s9_169, rfl, rfl, rfl⟩
        ·
          refine WC.cond_f ((show _ = Value.bool ((x168.length : Int) == 0) from rfl).trans (congrArg Value.bool c245)) ?_
          refine WC.skip ?_
          refine WC.seq ?_
          obtain ⟨z256, hz256, H⟩ := bindE H
          refine WC.cut (fun ρ_ w_ => ∃ (o_ : Tags), Fm o0 w0 o_ w_ [] ∧ Row (Rep.int .i64) (fun b_ => o_ b_ = 0) (fun b_ => o_ b_ = 0) w_ pA1 a1 ∧ Row Rep.u8 (fun b_ => o_ b_ = 0) (fun b_ => o_ b_ = 0) w_ A164 x168 ∧ x168.length ≤ c165 ∧ Bk o_ w_ 11 b119 [.bool z236.2.2.f_made, .slice A241 z236.2.2.f_left.length c242] 68 ∧ Row Rep.u8 (fun b_ => o_ b_ = 0) (fun b_ => o_ b_ = 0) w_ A241 z236.2.2.f_left ∧ Gl GG o_ w_ ∧ ρ_ 1 = .slice pA1 a1.length pc1 ∧ ρ_ 4 = .bool false ∧ ρ_ 6 = .pointer (some ⟨b119, 0, none⟩) ∧ ρ_ 8 = .slice A164 x168.length c165 ∧ ρ_ 9 = .int .i64 x169 ∧ ρ_ 79 = .bool z256) ?case257 ?_
          case case257 =>
            rintro ρ260 w258 ⟨o259, HF, hra1, hr166, hl167, hB240, hr244, hG, s1_254, s4_254, s6_254, s8_254, s9_254, s79_255⟩
            rcases condE H with ⟨c261, H⟩ | ⟨c261, H⟩
            ·
              refine WC.cond_t ((show _ = Value.bool z256 from s79_255).trans (congrArg Value.bool c261)) ?_
              refine WC.seq ?_
              refine WC.region ?_
              refine WL.ex rfl (ex_assign (v := .bool false) rfl) ?_
              refine WL.nil ?_
              refine WC.ret ?_
              obtain rfl := Option.some.inj H
              replace H := Ho227
              dsimp only at H
              obtain rfl := Option.some.inj H
              replace H := Ho181
              dsimp only at H
              obtain rfl := Option.some.inj H
              exact ⟨_, (.tmp (.bool false : Value) rfl .nil), _, rfl, HF.out⟩
            ·
              refine WC.cond_f ((show _ = Value.bool z256 from s79_255).trans (congrArg Value.bool c261)) ?_
              refine WC.skip ?_
              refine WC.region ?_
              refine WL.ex rfl (ex_move (v := .slice A164 x168.length c165) s8_254) ?_
              obtain ⟨y262, hy262, H⟩ := bindE H
              have hr264 := Row.cut hr166 hl167 hy262
              obtain ⟨A265, el268⟩ : ∃ A_, A_ = subA A164 c165 (1 : Int).toNat 1 := ⟨_, rfl⟩
              rw [show subA A164 c165 (1 : Int).toNat Rep.u8.sz = A265 from el268.symm] at hr264
              have hl267 : y262.length ≤ c165 - (1 : Int).toNat := cut_le hl167 hy262
              refine WL.ex rfl (ex_slice' (l := 1) (h := (x168.length : Int)) rfl Tryd.underlying24 sz5 ⟨_, rfl⟩ rfl (cut_low hy262) (cut_mid hy262) (cut_cap hl167 hy262) el268 (cut_len hy262)) ?_
              refine WL.ex rfl (ex_assign (v := .slice A265 y262.length (c165 - (1 : Int).toNat)) rfl) ?_
              refine WL.nil ?_
              obtain rfl := Option.some.inj H
              exact ⟨_, y262, z236.2.2, _, _, _, _, HF, hra1, hr264, hl267, hB240, hr244, hl243, hG, s1_254, s4_254, s6_254, rfl, s9_254, rfl⟩
          have Ho269 := H
          replace H := hz256
          refine WC.region ?_
          refine WL.ex rfl (ex_move (v := enc8 z236.1) rfl) ?_
          refine WL.ex rfl (ex_move (v := .slice A164 x168.length c165) s8_168) ?_
          obtain ⟨x270, hx270, H⟩ := bindE H
          obtain ⟨ad271, e272, g273, g274, cell275⟩ := Row.ixS hr166 hx270
          refine WL.ex rfl (ex_indexAddr (i := (0 : Int)) rfl e272 rfl Tryd.underlying24 sz5 g273 g274) ?_
          refine WL.ex rfl (ex_load1 (v := enc8 x270) rfl Tryd.underlying5 rfl cell275) ?_
          refine WL.ex rfl (ex_bin (a := enc8 z236.1) (b := enc8 x270) (v := .bool (!(z236.1 == x270))) rfl rfl bin_neq_u8) ?_
          refine WL.ex rfl (ex_move (v := .bool (!(z236.1 == x270))) rfl) ?_
          rcases condE H with ⟨c277, H⟩ | ⟨c277, H⟩
          ·
            refine WL.guardNo rfl rfl rfl ((show _ = Value.bool (!(z236.1 == x270)) from rfl).trans (congrArg Value.bool c277)) ?_
            refine WL.guardNo rfl rfl rfl ((show _ = Value.bool (!(z236.1 == x270)) from rfl).trans (congrArg Value.bool c277)) ?_
            refine WL.ex rfl (ex_pick_t (v := .bool true) ((show _ = Value.bool (!(z236.1 == x270)) from rfl).trans (congrArg Value.bool c277)) rfl) ?_
            refine WL.nil ?_
            obtain rfl := Option.some.inj H
            exact ⟨_, HF, hra1, hr166, hl167, hB240, hr244, hG, s1_163, s4_163, s6_163, s8_168, s9_169, rfl⟩
          ·
            refine WL.guardYes rfl rfl rfl ((show _ = Value.bool (!(z236.1 == x270)) from rfl).trans (congrArg Value.bool c277)) ?_
            refine OW.ex rfl (ex_move (v := .int .i64 z236.2.1) rfl) ?_
            refine WL.guardYes rfl rfl rfl ((show _ = Value.bool (!(z236.1 == x270)) from rfl).trans (congrArg Value.bool c277)) ?_
            refine OW.ex rfl (ex_bin (a := .int .i64 z236.2.1) (b := .int .i64 0) (v := .bool (z236.2.1 != 0)) rfl rfl bin_neq) ?_
            refine WL.ex rfl (ex_pick_f (v := .bool (z236.2.1 != 0)) ((show _ = Value.bool (!(z236.1 == x270)) from rfl).trans (congrArg Value.bool c277)) rfl) ?_
            refine WL.nil ?_
            obtain rfl := Option.some.inj H
            exact ⟨_, HF, hra1, hr166, hl167, hB240, hr244, hG, s1_163, s4_163, s6_163, s8_168, s9_169, rfl⟩
      ·
        refine WC.cond_f ((show _ = Value.bool (x228 == 0) from rfl).trans (congrArg Value.bool c235)) ?_
        refine WC.seq ?_
        refine WC.region ?_
        refine WL.ex rfl (ex_bin (a := .int .i64 x228) (b := .int .i64 1) (v := .bool (x228 == 1)) rfl rfl bin_eql) ?_
        refine WL.ex rfl (ex_assign (v := .bool (x228 == 1)) rfl) ?_
        refine WL.nil ?_
        rcases condE H with ⟨c278, H⟩ | ⟨c278, H⟩
        ·
          refine WC.cond_t ((show _ = Value.bool (x228 == 1) from rfl).trans (congrArg Value.bool c278)) ?_
          refine WC.seq ?_
          refine WC.region ?_
          refine WL.ex rfl (ex_move (v := .pointer (some ⟨b119, 0, none⟩)) s6_163) ?_
          obtain ⟨z279, hz279, H⟩ := bindE H
          refine WL.op rfl ?_
          refine OW.call [.pointer (some ⟨b119, 0, none⟩)] rfl Tryd.func21 (by kernel_rfl) (by kernel_rfl) (map_cons' rfl rfl) (octet_Reader_Num.calls k _ _ b119 A171 c172 x170 z279 (HF.ten (V := [0]) (L := [11]) rfl) (Bk.vw (V := [0]) (L := [11]) hB120 rfl) (Row.vw (V := [0]) (L := [11]) hr173 rfl) hl174 hz279) ?_
          rintro _ w280 ⟨o281, A284, c285, rfl, s282, hB283, hl286, hr287⟩
          refine ⟨_, rfl, ?_⟩
          replace hB283 := Bk.unO (J := []) 0 hB283 s282 rfl rfl rfl
          replace hr287 := hr287.un (J := []) s282
          replace s282 := un_stepL (J := []) (L' := [11]) s282 rfl rfl
          replace hra1 := hra1.step s282 rfl
          replace hr166 := hr166.step s282 rfl
          replace hr173 := hr173.step s282 rfl
          replace hG := hG.step s282 rfl
          replace HF := HF.step s282 rfl
          refine WL.ex rfl (ex_move (v := .tuple #[enc64 z279.1, .int .i64 z279.2.1]) rfl) ?_
          refine WL.ex rfl (ex_extract (vs := #[enc64 z279.1, .int .i64 z279.2.1]) (v := enc64 z279.1) rfl rfl) ?_
          refine WL.ex rfl (ex_extract (vs := #[enc64 z279.1, .int .i64 z279.2.1]) (v := .int .i64 z279.2.1) rfl rfl) ?_
          refine WL.ex rfl (ex_assign (v := enc64 z279.1) rfl) ?_
          refine WL.ex rfl (ex_assign (v := .int .i64 z279.2.1) rfl) ?_
          refine WL.nil ?_
          refine WC.seq ?_
          refine WC.region ?_
          refine WL.ex rfl (ex_move (v := .slice A164 x168.length c165) s8_168) ?_
          obtain ⟨z288, hz288, H⟩ := bindE H
          refine WL.op rfl ?_
          refine OW.call [.slice A164 x168.length c165] rfl Tryd.func22 (by kernel_rfl) (by kernel_rfl) (map_cons' rfl rfl) (dictumref01_TakeNum.calls k _ _ A164 c165 x168 z288 (HF.ten (V := [0]) (L := []) rfl) (Row.vw (V := [0]) (L := []) hr166 rfl) hl167 hz288) ?_
          rintro _ w289 ⟨o290, rfl, s291⟩
          refine ⟨_, rfl, ?_⟩
          replace s291 := un_stepL (J := []) (L' := []) s291 rfl rfl
          replace hra1 := hra1.step s291 rfl
          replace hr166 := hr166.step s291 rfl
          replace hr173 := hr173.step s291 rfl
          replace hG := hG.step s291 rfl
          replace hB283 := hB283.step s291 rfl
          replace hr287 := hr287.step s291 rfl
          replace HF := HF.step s291 rfl
          refine WL.ex rfl (ex_move (v := .tuple #[enc64 z288.1, .int .i64 z288.2.1, .int .i64 z288.2.2]) rfl) ?_
          refine WL.ex rfl (ex_extract (vs := #[enc64 z288.1, .int .i64 z288.2.1, .int .i64 z288.2.2]) (v := enc64 z288.1) rfl rfl) ?_
          refine WL.ex rfl (ex_extract (vs := #[enc64 z288.1, .int .i64 z288.2.1, .int .i64 z288.2.2]) (v := .int .i64 z288.2.1) rfl rfl) ?_
          refine WL.ex rfl (ex_extract (vs := #[enc64 z288.1, .int .i64 z288.2.1, .int .i64 z288.2.2]) (v := .int .i64 z288.2.2) rfl rfl) ?_
          refine WL.ex rfl (ex_assign (v := enc64 z288.1) rfl) ?_
          refine WL.ex rfl (ex_assign (v := .int .i64 z288.2.1) rfl) ?_
          refine WL.ex rfl (ex_assign (v := .int .i64 z288.2.2) rfl) ?_
          refine WL.nil ?_
          refine WC.seq ?_
          obtain ⟨z293, hz293, H⟩ := bindE H
          refine WC.cut (fun ρ_ w_ => ∃ (o_ : Tags), Fm o0 w0 o_ w_ [] ∧ Row (Rep.int .i64) (fun b_ => o_ b_ = 0) (fun b_ => o_ b_ = 0) w_ pA1 a1 ∧ Row Rep.u8 (fun b_ => o_ b_ = 0) (fun b_ => o_ b_ = 0) w_ A164 x168 ∧ x168.length ≤ c165 ∧ Bk o_ w_ 11 b119 [.bool z279.2.2.f_made, .slice A284 z279.2.2.f_left.length c285] 68 ∧ Row Rep.u8 (fun b_ => o_ b_ = 0) (fun b_ => o_ b_ = 0) w_ A284 z279.2.2.f_left ∧ Gl GG o_ w_ ∧ ρ_ 1 = .slice pA1 a1.length pc1 ∧ ρ_ 4 = .bool false ∧ ρ_ 6 = .pointer (some ⟨b119, 0, none⟩) ∧ ρ_ 8 = .slice A164 x168.length c165 ∧ ρ_ 9 = .int .i64 x169 ∧ ρ_ 15 = .int .i64 z288.2.1 ∧ ρ_ 102 = .bool z293) ?case294 ?_
          case case294 =>
            rintro ρ297 w295 ⟨o296, HF, hra1, hr166, hl167, hB283, hr287, hG, s1_291, s4_291, s6_291, s8_291, s9_291, s15_291, s102_292⟩
            rcases condE H with ⟨c298, H⟩ | ⟨c298, H⟩
            ·
              refine WC.cond_t ((show _ = Value.bool z293 from s102_292).trans (congrArg Value.bool c298)) ?_
              refine WC.seq ?_
              refine WC.region ?_
              refine WL.ex rfl (ex_assign (v := .bool false) rfl) ?_
              refine WL.nil ?_
              refine WC.ret ?_
              obtain rfl := Option.some.inj H
              replace H := Ho227
              dsimp only at H
              obtain rfl := Option.some.inj H
              replace H := Ho181
              dsimp only at H
              obtain rfl := Option.some.inj H
              exact ⟨_, (.tmp (.bool false : Value) rfl .nil), _, rfl, HF.out⟩
            ·
              refine WC.cond_f ((show _ = Value.bool z293 from s102_292).trans (congrArg Value.bool c298)) ?_
              refine WC.skip ?_
              refine WC.region ?_
              refine WL.ex rfl (ex_move (v := .slice A164 x168.length c165) s8_291) ?_
              refine WL.ex rfl (ex_move (v := .int .i64 z288.2.1) s15_291) ?_
              obtain ⟨y299, hy299, H⟩ := bindE H
              have hr301 := Row.cut hr166 hl167 hy299
              obtain ⟨A302, el305⟩ : ∃ A_, A_ = subA A164 c165 (z288.2.1 : Int).toNat 1 := ⟨_, rfl⟩
              rw [show subA A164 c165 (z288.2.1 : Int).toNat Rep.u8.sz = A302 from el305.symm] at hr301
              have hl304 : y299.length ≤ c165 - (z288.2.1 : Int).toNat := cut_le hl167 hy299
              refine WL.ex rfl (ex_slice' (l := z288.2.1) (h := (x168.length : Int)) rfl Tryd.underlying24 sz5 ⟨_, rfl⟩ rfl (cut_low hy299) (cut_mid hy299) (cut_cap hl167 hy299) el305 (cut_len hy299)) ?_
              refine WL.ex rfl (ex_assign (v := .slice A302 y299.length (c165 - (z288.2.1 : Int).toNat)) rfl) ?_
              refine WL.nil ?_
              obtain rfl := Option.some.inj H
              exact ⟨_, y299, z279.2.2, _, _, _, _, HF, hra1, hr301, hl304, hB283, hr287, hl286, hG, s1_291, s4_291, s6_291, rfl, s9_291, rfl⟩
          have Ho306 := H
          replace H := hz293
          refine WC.region ?_
          refine WL.ex rfl (ex_move (v := enc64 z279.1) rfl) ?_
          refine WL.ex rfl (ex_move (v := enc64 z288.1) rfl) ?_
          refine WL.ex rfl (ex_bin (a := enc64 z279.1) (b := enc64 z288.1) (v := .bool (!(z279.1 == z288.1))) rfl rfl bin_neq_u64) ?_
          refine WL.ex rfl (ex_move (v := .bool (!(z279.1 == z288.1))) rfl) ?_
          rcases condE H with ⟨c307, H⟩ | ⟨c307, H⟩
          ·
            refine WL.guardNo rfl rfl rfl ((show _ = Value.bool (!(z279.1 == z288.1)) from rfl).trans (congrArg Value.bool c307)) ?_
            refine WL.guardNo rfl rfl rfl ((show _ = Value.bool (!(z279.1 == z288.1)) from rfl).trans (congrArg Value.bool c307)) ?_
            refine WL.guardNo rfl rfl rfl ((show _ = Value.bool (!(z279.1 == z288.1)) from rfl).trans (congrArg Value.bool c307)) ?_
            refine WL.ex rfl (ex_pick_t (v := .bool true) ((show _ = Value.bool (!(z279.1 == z288.1)) from rfl).trans (congrArg Value.bool c307)) rfl) ?_
            refine WL.nil ?_
            obtain rfl := Option.some.inj H
            exact ⟨_, HF, hra1, hr166, hl167, hB283, hr287, hG, s1_163, s4_163, s6_163, s8_168, s9_169, rfl, rfl⟩
          ·
            refine WL.guardYes rfl rfl rfl ((show _ = Value.bool (!(z279.1 == z288.1)) from rfl).trans (congrArg Value.bool c307)) ?_
            refine OW.ex rfl (ex_move (v := .int .i64 z279.2.1) rfl) ?_
            refine WL.guardYes rfl rfl rfl ((show _ = Value.bool (!(z279.1 == z288.1)) from rfl).trans (congrArg Value.bool c307)) ?_
            refine OW.ex rfl (ex_move (v := .int .i64 z288.2.2) rfl) ?_
            refine WL.guardYes rfl rfl rfl ((show _ = Value.bool (!(z279.1 == z288.1)) from rfl).trans (congrArg Value.bool c307)) ?_
            refine OW.ex rfl (ex_bin (a := .int .i64 z279.2.1) (b := .int .i64 z288.2.2) (v := .bool (z279.2.1 != z288.2.2)) rfl rfl bin_neq) ?_
            refine WL.ex rfl (ex_pick_f (v := .bool (z279.2.1 != z288.2.2)) ((show _ = Value.bool (!(z279.1 == z288.1)) from rfl).trans (congrArg Value.bool c307)) rfl) ?_
            refine WL.nil ?_
            obtain rfl := Option.some.inj H
            exact ⟨_, HF, hra1, hr166, hl167, hB283, hr287, hG, s1_163, s4_163, s6_163, s8_168, s9_169, rfl, rfl⟩
        ·
          refine WC.cond_f ((show _ = Value.bool (x228 == 1) from rfl).trans (congrArg Value.bool c278)) ?_
          refine WC.seq ?_
          refine WC.region ?_
          refine WL.ex rfl (ex_bin (a := .int .i64 x228) (b := .int .i64 2) (v := .bool (x228 == 2)) rfl rfl bin_eql) ?_
          refine WL.ex rfl (ex_assign (v := .bool (x228 == 2)) rfl) ?_
          refine WL.nil ?_
          rcases condE H with ⟨c308, H⟩ | ⟨c308, H⟩
          ·
            refine WC.cond_t ((show _ = Value.bool (x228 == 2) from rfl).trans (congrArg Value.bool c308)) ?_
            refine WC.seq ?_
            refine WC.region ?_
            refine WL.ex rfl (ex_move (v := .pointer (some ⟨b119, 0, none⟩)) s6_163) ?_
            obtain ⟨z309, hz309, H⟩ := bindE H
            refine WL.op rfl ?_
            refine OW.call [.pointer (some ⟨b119, 0, none⟩)] rfl Tryd.func23 (by kernel_rfl) (by kernel_rfl) (map_cons' rfl rfl) (octet_Reader_Text.calls k _ _ b119 A171 c172 x170 z309 (HF.ten (V := [0]) (L := [11]) rfl) (Bk.vw (V := [0]) (L := [11]) hB120 rfl) (Row.vw (V := [0]) (L := [11]) hr173 rfl) hl174 (Gl.vw (V := [0]) (L := [11]) hG rfl) hz309) ?_
            rintro _ w310 ⟨o311, A314, c315, rfl, s312, hB313, hl316, hr317⟩
            refine ⟨_, rfl, ?_⟩
            replace hB313 := Bk.unO (J := []) 0 hB313 s312 rfl rfl rfl
            replace hr317 := hr317.un (J := []) s312
            replace s312 := un_stepL (J := []) (L' := [11]) s312 rfl rfl
            replace hra1 := hra1.step s312 rfl
            replace hr166 := hr166.step s312 rfl
            replace hr173 := hr173.step s312 rfl
            replace hG := hG.step s312 rfl
            replace HF := HF.step s312 rfl
            refine WL.ex rfl (ex_move (v := .tuple #[encS z309.1, .int .i64 z309.2.1]) rfl) ?_
            refine WL.ex rfl (ex_extract (vs := #[encS z309.1, .int .i64 z309.2.1]) (v := encS z309.1) rfl rfl) ?_
            refine WL.ex rfl (ex_extract (vs := #[encS z309.1, .int .i64 z309.2.1]) (v := .int .i64 z309.2.1) rfl rfl) ?_
            refine WL.ex rfl (ex_assign (v := encS z309.1) rfl) ?_
            refine WL.ex rfl (ex_assign (v := .int .i64 z309.2.1) rfl) ?_
            refine WL.nil ?_
            refine WC.seq ?_
            refine WC.region ?_
            refine WL.ex rfl (ex_move (v := .slice A164 x168.length c165) s8_168) ?_
            obtain ⟨z318, hz318, H⟩ := bindE H
            refine WL.op rfl ?_
            refine OW.call [.slice A164 x168.length c165] rfl Tryd.func24 (by kernel_rfl) (by kernel_rfl) (map_cons' rfl rfl) (dictumref01_TakeText.calls k _ _ A164 c165 x168 z318 (HF.ten (V := [0]) (L := []) rfl) (Row.vw (V := [0]) (L := []) hr166 rfl) hl167 hz318) ?_
            rintro _ w319 ⟨o320, rfl, s321⟩
            refine ⟨_, rfl, ?_⟩
            replace s321 := un_stepL (J := []) (L' := []) s321 rfl rfl
            replace hra1 := hra1.step s321 rfl
            replace hr166 := hr166.step s321 rfl
            replace hr173 := hr173.step s321 rfl
            replace hG := hG.step s321 rfl
            replace hB313 := hB313.step s321 rfl
            replace hr317 := hr317.step s321 rfl
            replace HF := HF.step s321 rfl
            refine WL.ex rfl (ex_move (v := .tuple #[encS z318.1, .int .i64 z318.2.1, .int .i64 z318.2.2]) rfl) ?_
            refine WL.ex rfl (ex_extract (vs := #[encS z318.1, .int .i64 z318.2.1, .int .i64 z318.2.2]) (v := encS z318.1) rfl rfl) ?_
            refine WL.ex rfl (ex_extract (vs := #[encS z318.1, .int .i64 z318.2.1, .int .i64 z318.2.2]) (v := .int .i64 z318.2.1) rfl rfl) ?_
            refine WL.ex rfl (ex_extract (vs := #[encS z318.1, .int .i64 z318.2.1, .int .i64 z318.2.2]) (v := .int .i64 z318.2.2) rfl rfl) ?_
            refine WL.ex rfl (ex_assign (v := encS z318.1) rfl) ?_
            refine WL.ex rfl (ex_assign (v := .int .i64 z318.2.1) rfl) ?_
            refine WL.ex rfl (ex_assign (v := .int .i64 z318.2.2) rfl) ?_
            refine WL.nil ?_
            refine WC.seq ?_
            obtain ⟨z323, hz323, H⟩ := bindE H
            refine WC.cut (fun ρ_ w_ => ∃ (o_ : Tags), Fm o0 w0 o_ w_ [] ∧ Row (Rep.int .i64) (fun b_ => o_ b_ = 0) (fun b_ => o_ b_ = 0) w_ pA1 a1 ∧ Row Rep.u8 (fun b_ => o_ b_ = 0) (fun b_ => o_ b_ = 0) w_ A164 x168 ∧ x168.length ≤ c165 ∧ Bk o_ w_ 11 b119 [.bool z309.2.2.f_made, .slice A314 z309.2.2.f_left.length c315] 68 ∧ Row Rep.u8 (fun b_ => o_ b_ = 0) (fun b_ => o_ b_ = 0) w_ A314 z309.2.2.f_left ∧ Gl GG o_ w_ ∧ ρ_ 1 = .slice pA1 a1.length pc1 ∧ ρ_ 4 = .bool false ∧ ρ_ 6 = .pointer (some ⟨b119, 0, none⟩) ∧ ρ_ 8 = .slice A164 x168.length c165 ∧ ρ_ 9 = .int .i64 x169 ∧ ρ_ 20 = .int .i64 z318.2.1 ∧ ρ_ 126 = .bool z323) ?case324 ?_
            case case324 =>
              rintro ρ327 w325 ⟨o326, HF, hra1, hr166, hl167, hB313, hr317, hG, s1_321, s4_321, s6_321, s8_321, s9_321, s20_321, s126_322⟩
              rcases condE H with ⟨c328, H⟩ | ⟨c328, H⟩
              ·
                refine WC.cond_t ((show _ = Value.bool z323 from s126_322).trans (congrArg Value.bool c328)) ?_
                refine WC.seq ?_
                refine WC.region ?_
                refine WL.ex rfl (ex_assign (v := .bool false) rfl) ?_
                refine WL.nil ?_
                refine WC.ret ?_
                obtain rfl := Option.some.inj H
                replace H := Ho227
                dsimp only at H
                obtain rfl := Option.some.inj H
                replace H := Ho181
                dsimp only at H
                obtain rfl := Option.some.inj H
                exact ⟨_, (.tmp (.bool false : Value) rfl .nil), _, rfl, HF.out⟩
              ·
                refine WC.cond_f ((show _ = Value.bool z323 from s126_322).trans (congrArg Value.bool c328)) ?_
                refine WC.skip ?_
                refine WC.region ?_
                refine WL.ex rfl (ex_move (v := .slice A164 x168.length c165) s8_321) ?_
                refine WL.ex rfl (ex_move (v := .int .i64 z318.2.1) s20_321) ?_
                obtain ⟨y329, hy329, H⟩ := bindE H
                have hr331 := Row.cut hr166 hl167 hy329
                obtain ⟨A332, el335⟩ : ∃ A_, A_ = subA A164 c165 (z318.2.1 : Int).toNat 1 := ⟨_, rfl⟩
                rw [show subA A164 c165 (z318.2.1 : Int).toNat Rep.u8.sz = A332 from el335.symm] at hr331
                have hl334 : y329.length ≤ c165 - (z318.2.1 : Int).toNat := cut_le hl167 hy329
                refine WL.ex rfl (ex_slice' (l := z318.2.1) (h := (x168.length : Int)) rfl Tryd.underlying24 sz5 ⟨_, rfl⟩ rfl (cut_low hy329) (cut_mid hy329) (cut_cap hl167 hy329) el335 (cut_len hy329)) ?_
                refine WL.ex rfl (ex_assign (v := .slice A332 y329.length (c165 - (z318.2.1 : Int).toNat)) rfl) ?_
                refine WL.nil ?_
                obtain rfl := Option.some.inj H
                exact ⟨_, y329, z309.2.2, _, _, _, _, HF, hra1, hr331, hl334, hB313, hr317, hl316, hG, s1_321, s4_321, s6_321, rfl, s9_321, rfl⟩
            have Ho336 := H
            replace H := hz323
            refine WC.region ?_
            refine WL.ex rfl (ex_move (v := encS z309.1) rfl) ?_
            refine WL.ex rfl (ex_move (v := encS z318.1) rfl) ?_
            refine WL.ex rfl (ex_bin (a := encS z309.1) (b := encS z318.1) (v := .bool (!(z309.1 == z318.1))) rfl rfl bin_neq_str) ?_
            refine WL.ex rfl (ex_move (v := .bool (!(z309.1 == z318.1))) rfl) ?_
            rcases condE H with ⟨c337, H⟩ | ⟨c337, H⟩
            ·
              refine WL.guardNo rfl rfl rfl ((show _ = Value.bool (!(z309.1 == z318.1)) from rfl).trans (congrArg Value.bool c337)) ?_
              refine WL.guardNo rfl rfl rfl ((show _ = Value.bool (!(z309.1 == z318.1)) from rfl).trans (congrArg Value.bool c337)) ?_
              refine WL.guardNo rfl rfl rfl ((show _ = Value.bool (!(z309.1 == z318.1)) from rfl).trans (congrArg Value.bool c337)) ?_
              refine WL.ex rfl (ex_pick_t (v := .bool true) ((show _ = Value.bool (!(z309.1 == z318.1)) from rfl).trans (congrArg Value.bool c337)) rfl) ?_
              refine WL.nil ?_
              obtain rfl := Option.some.inj H
              exact ⟨_, HF, hra1, hr166, hl167, hB313, hr317, hG, s1_163, s4_163, s6_163, s8_168, s9_169, rfl, rfl⟩
            ·
              refine WL.guardYes rfl rfl rfl ((show _ = Value.bool (!(z309.1 == z318.1)) from rfl).trans (congrArg Value.bool c337)) ?_
              refine OW.ex rfl (ex_move (v := .int .i64 z309.2.1) rfl) ?_
              refine WL.guardYes rfl rfl rfl ((show _ = Value.bool (!(z309.1 == z318.1)) from rfl).trans (congrArg Value.bool c337)) ?_
              refine OW.ex rfl (ex_move (v := .int .i64 z318.2.2) rfl) ?_
              refine WL.guardYes rfl rfl rfl ((show _ = Value.bool (!(z309.1 == z318.1)) from rfl).trans (congrArg Value.bool c337)) ?_
              refine OW.ex rfl (ex_bin (a := .int .i64 z309.2.1) (b := .int .i64 z318.2.2) (v := .bool (z309.2.1 != z318.2.2)) rfl rfl bin_neq) ?_
              refine WL.ex rfl (ex_pick_f (v := .bool (z309.2.1 != z318.2.2)) ((show _ = Value.bool (!(z309.1 == z318.1)) from rfl).trans (congrArg Value.bool c337)) rfl) ?_
              refine WL.nil ?_
              obtain rfl := Option.some.inj H
              exact ⟨_, HF, hra1, hr166, hl167, hB313, hr317, hG, s1_163, s4_163, s6_163, s8_168, s9_169, rfl, rfl⟩
          ·
            refine WC.cond_f ((show _ = Value.bool (x228 == 2) from rfl).trans (congrArg Value.bool c308)) ?_
            refine WC.skip ?_
            obtain rfl := Option.some.inj H
            exact ⟨_, x168, x170, _, _, _, _, HF, hra1, hr166, hl167, hB120, hr173, hl174, hG, s1_163, s4_163, s6_163, s8_168, s9_169, rfl⟩
    ·
      refine WC.cond_f ((show _ = Value.bool (decide (x169 < (a1.length : Int))) from rfl).trans (congrArg Value.bool c186)) ?_
      refine WC.exit ?_
      obtain rfl := Option.some.inj H
      exact ⟨_, HF, hG, s4_163, rfl⟩
  have Ho129 := H
  rintro k130 ρ131 w132 ⟨o133, x125, x126, v123, HF, hra0, hra1, hO124, hB120, hO122, hG, s0_122, s1_122, s4_122, s5_125, s6_125, s7_126, H⟩
  cases k130 with
  | zero => cases H
  | succ k130 =>
  rw [dictumlaw01_OctetReads.l1.eq_2] at H
  refine WC.seq ?_
  refine WC.seq ?_
  refine WC.region ?_
  refine WL.ex rfl (ex_move (v := .int .i64 x126) s7_126) ?_
  refine WL.ex rfl (ex_move (v := v123) s5_125) ?_
  obtain ⟨A134, c135, q136⟩ := hO124.slice
  refine WL.ex rfl (ex_len_slice ((show _ = (v123 : Value) from rfl).trans q136) Tryd.underlying24) ?_
  refine WL.ex rfl (ex_bin (a := .int .i64 x126) (b := .int .i64 (x125.length : Int)) (v := .bool (decide (x126 < (x125.length : Int)))) rfl rfl bin_lss) ?_
  refine WL.nil ?_
  rcases condE H with ⟨c137, H⟩ | ⟨c137, H⟩
  ·
    refine WC.cond_t ((show _ = Value.bool (decide (x126 < (x125.length : Int))) from rfl).trans (congrArg Value.bool c137)) ?_
    refine WC.skip ?_
    refine WC.seq ?_
    refine WC.block ?_
    refine WC.region ?_
    refine WL.ex rfl (ex_move (v := v123) s5_125) ?_
    refine WL.ex rfl (ex_move (v := .int .i64 x126) s7_126) ?_
    refine WL.ex rfl (ex_move (v := v123) s5_125) ?_
    refine WL.ex rfl (ex_move (v := .int .i64 x126) s7_126) ?_
    obtain ⟨x138, hx138, H⟩ := bindE H
    obtain ⟨A143, c144, q145_⟩ := hO124.slice
    obtain ⟨ad139, e140, g141, g142, cell146⟩ := Row.ixS (Own.rowOf hO124 q145_) hx138
    refine WL.ex rfl (ex_indexAddr (i := x126) ((show _ = (v123 : Value) from rfl).trans q145_) e140 rfl Tryd.underlying24 sz5 g141 g142) ?_
    refine WL.ex rfl (ex_load1 (v := enc8 x138) rfl Tryd.underlying5 rfl cell146) ?_
    refine WL.ex rfl (ex_bin (a := enc8 x138) (b := enc8 (85 : UInt8)) (v := enc8 (x138 ^^^ (85 : UInt8))) rfl rfl bin_xor_u8) ?_
    obtain ⟨x148, hx148, H⟩ := bindE H
    obtain ⟨A153, c154, q155_⟩ := hO124.slice
    obtain ⟨ad149, e150, g151, g152, cell156⟩ := Row.ixS (Own.rowOf hO124 q155_) hx148
    refine WL.ex rfl (ex_indexAddr (i := x126) ((show _ = (v123 : Value) from rfl).trans q155_) e150 rfl Tryd.underlying24 sz5 g151 g152) ?_
    refine WL.op rfl ?_
    refine OW.storeElem (r := Rep.u8) (j := x126) (vs := [enc8 (x138 ^^^ (85 : UInt8))]) hO124 (q155_.trans (by rw [e150])) rfl g151 g152 ((congrArg Value.cells (show ev _ _ = (enc8 (x138 ^^^ (85 : UInt8)) : Value) from rfl)).trans rfl) sz5 rfl (by decide) ?_
    intro w158 s159 hO160
    replace hra0 := hra0.step s159 rfl
    replace hra1 := hra1.step s159 rfl
    replace hB120 := hB120.step s159 rfl
    replace hO122 := hO122.step s159 rfl rfl
    replace hG := hG.step s159 rfl
    replace HF := HF.step s159 rfl
    refine WL.nil ?_
    refine WC.region ?_
    refine WL.ex rfl (ex_move (v := .int .i64 x126) s7_126) ?_
    refine WL.ex rfl (ex_bin (a := .int .i64 x126) (b := .int .i64 1) (v := .int .i64 (wrap64 (x126 + 1))) rfl rfl bin_add64) ?_
    refine WL.ex rfl (ex_assign (v := .int .i64 (wrap64 (x126 + 1))) rfl) ?_
    refine WL.nil ?_
    exact ⟨k130, Nat.lt_succ_self _, ⟨_, (x125.set x126.toNat (x138 ^^^ (85 : UInt8))), wrap64 (x126 + 1), _, HF, hra0, hra1, hO160, hB120, hO122, hG, s0_122, s1_122, s4_122, s5_125, s6_125, rfl, H⟩⟩
  ·
    refine WC.cond_f ((show _ = Value.bool (decide (x126 < (x125.length : Int))) from rfl).trans (congrArg Value.bool c137)) ?_
    refine WC.exit ?_
    exact ⟨_, HF, hra0, hra1, hB120, hO122, hG, s0_122, s1_122, s4_122, s6_125⟩
end Go.Proofs.YtaidlahjngmenaaDoor.X
