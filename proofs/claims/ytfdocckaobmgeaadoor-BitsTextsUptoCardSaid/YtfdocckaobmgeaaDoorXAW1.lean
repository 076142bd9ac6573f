import Derived.Test.YtfdocckaobmgeaaDoorXAW0
set_option maxRecDepth 20000
set_option linter.unusedVariables false
set_option linter.unusedSimpArgs false
set_option linter.unnecessarySimpa false
namespace Go.Proofs.YtfdocckaobmgeaaDoor.X
open Go Go.RowKit Go.Proofs.YtfdocckaobmgeaaDoor.SX
/-! ### dictumref05_Parse -/
set_option maxRecDepth 100000 in
theorem dictumref05_Parse.calls (k : Nat) (o0 : Tags) (w0 : World) (a0 : List UInt8) (r : (List UInt64) × Int) (hO : ∀ b, b < w0.heap.size → o0 b < 10) (H : dictumref05_Parse.f k a0 = some r) :
    Calls Tryd.prog 10 [encS a0].toArray w0 fun e_ w_ => ∃ (o_ : Tags), e_ = .returned (one [.agg (List.map enc64 r.1).toArray, .int .i64 r.2]) ∧ Step o0 w0 o_ w_ [] ∧ r.1.length = 16 := by
  have HF := Fm.refl hO []
  unfold dictumref05_Parse.f at H
  refine SX.calls [encS a0] Tryd.func10 rfl rfl ?_
  rw [Tryd.ntmps10]
  refine WC.seq ?_
  refine WC.region ?_
  refine WL.op rfl ?_
  refine OW.alloc' (List.map enc64 (List.replicate 16 ((0 : UInt64)))) 10 HF rfl zr24 rfl ?_
  intro o102 w103 b101 s104 hB105
  replace HF := HF.step s104 rfl
  refine WL.ex rfl (ex_assign (v := .int .i64 0) rfl) ?_
  refine WL.nil ?_
  refine WC.seq ?_
  refine WC.region ?_
  refine WL.ex rfl (ex_buildArr (cs := List.map enc64 (List.replicate 16 ((0 : UInt64)))) [] [.int .u64 0, .int .u64 0, .int .u64 0, .int .u64 0, .int .u64 0, .int .u64 0, .int .u64 0, .int .u64 0, .int .u64 0, .int .u64 0, .int .u64 0, .int .u64 0, .int .u64 0, .int .u64 0, .int .u64 0, .int .u64 0] Tryd.underlying24 zr24 rfl sz22 rfl rfl) ?_
  refine WL.op rfl ?_
  refine OW.alloc' (List.map enc64 (List.replicate 16 ((0 : UInt64)))) 11 HF rfl zr24 rfl ?_
  intro o107 w108 b106 s109 hB110
  replace hB105 := hB105.step s109 rfl
  replace HF := HF.step s109 rfl
  refine WL.op rfl ?_
  refine OW.storeAV (ys := (List.replicate 16 ((0 : UInt64)))) rfl rfl (fun _ => rfl) sz24 rfl rfl hB110 ?_
  intro w111 s112 hB113
  replace hB105 := hB105.step s112 rfl
  replace HF := HF.step s112 rfl
  refine WL.nil ?_
  refine WC.seq ?_
  refine WC.region ?_
  refine WL.ex rfl (ex_assign (v := .int .i64 0) rfl) ?_
  refine WL.nil ?_
  refine WC.seq ?_
  refine WC.region ?_
  refine WL.ex rfl (ex_assign (v := .int .i64 (-1)) rfl) ?_
  refine WL.nil ?_
  refine WC.seq ?_
  refine WC.seq ?_
  refine WC.region ?_
  refine WL.ex rfl (ex_assign (v := .int .i64 0) rfl) ?_
  refine WL.nil ?_
  obtain ⟨z121, hz121, H⟩ := bindE H
  refine WC.for (fun k_ ρ_ w_ => ∃ (o_ : Tags) (x114 : Int) (x115 : Int) (x116 : Int) (x117 : (List UInt64)), Fm o0 w0 o_ w_ [] ∧ Bk o_ w_ 10 b101 (List.map enc64 (List.replicate 16 ((0 : UInt64)))) 24 ∧ Bk o_ w_ 11 b106 (List.map enc64 x117) 24 ∧ x117.length = 16 ∧ ρ_ 0 = encS a0 ∧ ρ_ 2 = .pointer (some ⟨b101, 0, none⟩) ∧ ρ_ 3 = .int .i64 0 ∧ ρ_ 4 = .pointer (some ⟨b106, 0, none⟩) ∧ ρ_ 5 = .int .i64 x114 ∧ ρ_ 6 = .int .i64 x115 ∧ ρ_ 7 = .int .i64 x116 ∧ dictumref05_Parse.l1 k a0 k_ x114 x115 x116 x117 = some z121) k (fun ρ_ w_ => ∃ (o_ : Tags) (x119 : (List UInt64)), Fm o0 w0 o_ w_ [] ∧ Bk o_ w_ 10 b101 (List.map enc64 (List.replicate 16 ((0 : UInt64)))) 24 ∧ Bk o_ w_ 11 b106 (List.map enc64 x119) 24 ∧ x119.length = 16 ∧ ρ_ 0 = encS a0 ∧ ρ_ 2 = .pointer (some ⟨b101, 0, none⟩) ∧ ρ_ 3 = .int .i64 0 ∧ ρ_ 4 = .pointer (some ⟨b106, 0, none⟩) ∧ z121 = .inr x119) ⟨_, 0, (-1), 0, (List.replicate 16 ((0 : UInt64))), HF, hB105, hB113, rfl, rfl, rfl, rfl, rfl, rfl, rfl, rfl, hz121⟩ ?case122 ?_
  case case122 =>
    rintro ρ217 w218 ⟨o219, x119, HF, hB105, hB113, hl120, s0_118, s2_118, s3_118, s4_118, rfl⟩
    dsimp only at H
    refine WC.seq ?_
    refine WC.seq ?_
    refine WC.region ?_
    refine WL.ex rfl (ex_loadAV (xs := x119) s4_118 Tryd.underlying24 sz24 hl120 hB113) ?_
    obtain ⟨z220, hz220, H⟩ := bindE H
    refine WL.op rfl ?_
    refine OW.call [.agg (List.map enc64 x119).toArray] rfl Tryd.func11 (by kernel_rfl) (by kernel_rfl) (map_cons' rfl rfl) (dictumref05_Text.calls k _ _ x119 z220 (HF.ten (V := [0]) (L := []) rfl) hl120 hz220) ?_
    rintro _ w221 ⟨o222, rfl, s223⟩
    refine ⟨_, rfl, ?_⟩
    replace s223 := un_stepL (J := []) (L' := []) s223 rfl rfl
    replace hB105 := hB105.step s223 rfl
    replace hB113 := hB113.step s223 rfl
    replace HF := HF.step s223 rfl
    refine WL.ex rfl (ex_move (v := encS a0) s0_118) ?_
    refine WL.ex rfl (ex_bin (a := encS z220) (b := encS a0) (v := .bool (!(z220 == a0))) rfl rfl bin_neq_str) ?_
    refine WL.nil ?_
    rcases condE H with ⟨c224, H⟩ | ⟨c224, H⟩
    ·
      refine WC.cond_t ((show _ = Value.bool (!(z220 == a0)) from rfl).trans (congrArg Value.bool c224)) ?_
      refine WC.seq ?_
      refine WC.region ?_
      refine WL.ex rfl (ex_buildArr (cs := List.map enc64 (List.replicate 16 ((0 : UInt64)))) [] [.int .u64 0, .int .u64 0, .int .u64 0, .int .u64 0, .int .u64 0, .int .u64 0, .int .u64 0, .int .u64 0, .int .u64 0, .int .u64 0, .int .u64 0, .int .u64 0, .int .u64 0, .int .u64 0, .int .u64 0, .int .u64 0] Tryd.underlying24 zr24 rfl sz22 rfl rfl) ?_
      refine WL.op rfl ?_
      refine OW.storeAV (ys := (List.replicate 16 ((0 : UInt64)))) s2_118 rfl (fun _ => rfl) sz24 rfl rfl hB105 ?_
      intro w225 s226 hB227
      replace hB113 := hB113.step s226 rfl
      replace HF := HF.step s226 rfl
      refine WL.ex rfl (ex_assign (v := .int .i64 50) rfl) ?_
      refine WL.nil ?_
      refine WC.ret ?_
      obtain rfl := Option.some.inj H
      exact ⟨_, (.cell (.agg (List.map enc64 (List.replicate 16 ((0 : UInt64)))).toArray : Value) s2_118 (run_loadAV Tryd.underlying24 sz24 rfl hB227) (.tmp (.int .i64 50 : Value) rfl .nil)), _, rfl, HF.out, rfl⟩
    ·
      refine WC.cond_f ((show _ = Value.bool (!(z220 == a0)) from rfl).trans (congrArg Value.bool c224)) ?_
      refine WC.skip ?_
      refine WC.seq ?_
      refine WC.region ?_
      refine WL.ex rfl (ex_loadAV (xs := x119) s4_118 Tryd.underlying24 sz24 hl120 hB113) ?_
      refine WL.op rfl ?_
      refine OW.storeAV (ys := x119) s2_118 rfl (fun _ => rfl) sz24 rfl hl120 hB105 ?_
      intro w228 s229 hB230
      replace hB113 := hB113.step s229 rfl
      replace HF := HF.step s229 rfl
      refine WL.ex rfl (ex_assign (v := .int .i64 0) rfl) ?_
      refine WL.nil ?_
      refine WC.ret ?_
      obtain rfl := Option.some.inj H
      exact ⟨_, (.cell (.agg (List.map enc64 x119).toArray : Value) s2_118 (run_loadAV Tryd.underlying24 sz24 hl120 hB230) (.tmp (.int .i64 0 : Value) rfl .nil)), _, rfl, HF.out, hl120⟩
  have Ho123 := H
  rintro k124 ρ125 w126 ⟨o127, x114, x115, x116, x117, HF, hB105, hB113, hl118, s0_113, s2_113, s3_113, s4_113, s5_114, s6_115, s7_116, H⟩
  cases k124 with
  | zero => cases H
  | succ k124 =>
  rw [dictumref05_Parse.l1.eq_2] at H
  refine WC.seq ?_
  refine WC.seq ?_
  refine WC.region ?_
  refine WL.ex rfl (ex_move (v := .int .i64 x116) s7_116) ?_
  refine WL.ex rfl (ex_move (v := encS a0) s0_113) ?_
  refine WL.ex rfl (ex_len_str (s := a0) rfl Tryd.underlying9) ?_
  refine WL.ex rfl (ex_bin (a := .int .i64 x116) (b := .int .i64 (a0.length : Int)) (v := .bool (decide (x116 ≤ (a0.length : Int)))) rfl rfl bin_leq) ?_
  refine WL.nil ?_
  rcases condE H with ⟨c128, H⟩ | ⟨c128, H⟩
  ·
    refine WC.cond_t ((show _ = Value.bool (decide (x116 ≤ (a0.length : Int))) from rfl).trans (congrArg Value.bool c128)) ?_
    refine WC.skip ?_
    refine WC.seq ?_
    refine WC.block ?_
    refine WC.seq ?_
    obtain ⟨z130, hz130, H⟩ := bindE H
    refine WC.cut (fun ρ_ w_ => ∃ (o_ : Tags), Fm o0 w0 o_ w_ [] ∧ Bk o_ w_ 10 b101 (List.map enc64 (List.replicate 16 ((0 : UInt64)))) 24 ∧ Bk o_ w_ 11 b106 (List.map enc64 x117) 24 ∧ x117.length = 16 ∧ ρ_ 0 = encS a0 ∧ ρ_ 2 = .pointer (some ⟨b101, 0, none⟩) ∧ ρ_ 3 = .int .i64 0 ∧ ρ_ 4 = .pointer (some ⟨b106, 0, none⟩) ∧ ρ_ 5 = .int .i64 x114 ∧ ρ_ 6 = .int .i64 x115 ∧ ρ_ 7 = .int .i64 x116 ∧ ρ_ 33 = .bool z130) ?case131 ?_
    case case131 =>
      rintro ρ134 w132 ⟨o133, HF, hB105, hB113, hl118, s0_128, s2_128, s3_128, s4_128, s5_128, s6_128, s7_128, s33_129⟩
      rcases condE H with ⟨c135, H⟩ | ⟨c135, H⟩
      ·
        refine WC.cond_t ((show _ = Value.bool z130 from s33_129).trans (congrArg Value.bool c135)) ?_
        refine WC.exit ?_
        refine WC.region ?_
        refine WL.ex rfl (ex_move (v := .int .i64 x116) s7_128) ?_
        refine WL.ex rfl (ex_bin (a := .int .i64 x116) (b := .int .i64 1) (v := .int .i64 (wrap64 (x116 + 1))) rfl rfl bin_add64) ?_
        refine WL.ex rfl (ex_assign (v := .int .i64 (wrap64 (x116 + 1))) rfl) ?_
        refine WL.nil ?_
        exact ⟨k124, Nat.lt_succ_self _, ⟨_, x114, x115, wrap64 (x116 + 1), x117, HF, hB105, hB113, hl118, s0_128, s2_128, s3_128, s4_128, s5_128, s6_128, rfl, H⟩⟩
      ·
        refine WC.cond_f ((show _ = Value.bool z130 from s33_129).trans (congrArg Value.bool c135)) ?_
        refine WC.skip ?_
        refine WC.seq ?_
        refine WC.seq ?_
        refine WC.region ?_
        refine WL.ex rfl (ex_move (v := encS a0) s0_128) ?_
        refine WL.ex rfl (ex_bin (a := encS a0) (b := encS ([] : List UInt8)) (v := .bool (a0 == ([] : List UInt8))) rfl rfl bin_eql_str) ?_
        refine WL.nil ?_
        rcases condE H with ⟨c136, H⟩ | ⟨c136, H⟩
        ·
          refine WC.cond_t ((show _ = Value.bool (a0 == ([] : List UInt8)) from rfl).trans (congrArg Value.bool c136)) ?_
          refine WC.exit ?_
          obtain rfl := Option.some.inj H
          exact ⟨_, x117, HF, hB105, hB113, hl118, s0_128, s2_128, s3_128, s4_128, rfl⟩
        ·
          refine WC.cond_f ((show _ = Value.bool (a0 == ([] : List UInt8)) from rfl).trans (congrArg Value.bool c136)) ?_
          refine WC.skip ?_
          refine WC.seq ?_
          refine WC.region ?_
          refine WL.ex rfl (ex_move (v := encS a0) s0_128) ?_
          refine WL.ex rfl (ex_move (v := .int .i64 x114) s5_128) ?_
          refine WL.ex rfl (ex_move (v := .int .i64 x116) s7_128) ?_
          obtain ⟨y137, hy137, H⟩ := bindE H
          refine WL.ex rfl (ex_slice_str (l := x114) (h := x116) rfl Tryd.underlying9 ⟨_, rfl⟩ ⟨_, rfl⟩ hy137) ?_
          obtain ⟨z138, hz138, H⟩ := bindE H
          refine WL.op rfl ?_
          refine OW.call [encS y137, .int .i64 1023] rfl Tryd.func43 (by kernel_rfl) (by kernel_rfl) (map_cons' rfl (map_cons' rfl rfl)) (dictumref01_Undec.calls k _ _ y137 1023 z138 (HF.ten (V := [0]) (L := []) rfl)  hz138) ?_
          rintro _ w139 ⟨o140, rfl, s141⟩
          refine ⟨_, rfl, ?_⟩
          replace s141 := un_stepL (J := []) (L' := []) s141 rfl rfl
          replace hB105 := hB105.step s141 rfl
          replace hB113 := hB113.step s141 rfl
          replace HF := HF.step s141 rfl
          refine WL.ex rfl (ex_move (v := .tuple #[.int .i64 z138.1, .int .i64 z138.2]) rfl) ?_
          refine WL.ex rfl (ex_extract (vs := #[.int .i64 z138.1, .int .i64 z138.2]) (v := .int .i64 z138.1) rfl rfl) ?_
          refine WL.ex rfl (ex_extract (vs := #[.int .i64 z138.1, .int .i64 z138.2]) (v := .int .i64 z138.2) rfl rfl) ?_
          refine WL.ex rfl (ex_assign (v := .int .i64 z138.1) rfl) ?_
          refine WL.ex rfl (ex_assign (v := .int .i64 z138.2) rfl) ?_
          refine WL.nil ?_
          refine WC.seq ?_
          refine WC.seq ?_
          refine WC.region ?_
          refine WL.ex rfl (ex_move (v := .int .i64 z138.2) rfl) ?_
          refine WL.ex rfl (ex_bin (a := .int .i64 z138.2) (b := .int .i64 0) (v := .bool (z138.2 != 0)) rfl rfl bin_neq) ?_
          refine WL.nil ?_
          rcases condE H with ⟨c142, H⟩ | ⟨c142, H⟩
          ·
            refine WC.cond_t ((show _ = Value.bool (z138.2 != 0) from rfl).trans (congrArg Value.bool c142)) ?_
            refine WC.seq ?_
            refine WC.region ?_
            refine WL.ex rfl (ex_buildArr (cs := List.map enc64 (List.replicate 16 ((0 : UInt64)))) [] [.int .u64 0, .int .u64 0, .int .u64 0, .int .u64 0, .int .u64 0, .int .u64 0, .int .u64 0, .int .u64 0, .int .u64 0, .int .u64 0, .int .u64 0, .int .u64 0, .int .u64 0, .int .u64 0, .int .u64 0, .int .u64 0] Tryd.underlying24 zr24 rfl sz22 rfl rfl) ?_
            refine WL.op rfl ?_
            refine OW.storeAV (ys := (List.replicate 16 ((0 : UInt64)))) s2_128 rfl (fun _ => rfl) sz24 rfl rfl hB105 ?_
            intro w143 s144 hB145
            replace hB113 := hB113.step s144 rfl
            replace HF := HF.step s144 rfl
            refine WL.ex rfl (ex_assign (v := .int .i64 50) rfl) ?_
            refine WL.nil ?_
            refine WC.ret ?_
            obtain rfl := Option.some.inj H
            replace H := Ho123
            dsimp only at H
            obtain rfl := Option.some.inj H
            exact ⟨_, (.cell (.agg (List.map enc64 (List.replicate 16 ((0 : UInt64)))).toArray : Value) s2_128 (run_loadAV Tryd.underlying24 sz24 rfl hB145) (.tmp (.int .i64 50 : Value) rfl .nil)), _, rfl, HF.out, rfl⟩
          ·
            refine WC.cond_f ((show _ = Value.bool (z138.2 != 0) from rfl).trans (congrArg Value.bool c142)) ?_
            refine WC.skip ?_
            obtain ⟨z148, hz148, H⟩ := bindE H
            refine WC.cut (fun ρ_ w_ => ∃ (o_ : Tags), Fm o0 w0 o_ w_ [] ∧ Bk o_ w_ 10 b101 (List.map enc64 (List.replicate 16 ((0 : UInt64)))) 24 ∧ Bk o_ w_ 11 b106 (List.map enc64 z148) 24 ∧ z148.length = 16 ∧ ρ_ 0 = encS a0 ∧ ρ_ 2 = .pointer (some ⟨b101, 0, none⟩) ∧ ρ_ 3 = .int .i64 0 ∧ ρ_ 4 = .pointer (some ⟨b106, 0, none⟩) ∧ ρ_ 5 = .int .i64 x114 ∧ ρ_ 6 = .int .i64 x115 ∧ ρ_ 7 = .int .i64 x116 ∧ ρ_ 8 = .int .i64 z138.1) ?case149 ?_
            case case149 =>
              rintro ρ152 w150 ⟨o151, HF, hB105, hB154, hl147, s0_145, s2_145, s3_145, s4_145, s5_145, s6_145, s7_145, s8_145⟩
              refine WC.seq ?_
              refine WC.seq ?_
              refine WC.region ?_
              refine WL.ex rfl (ex_move (v := .int .i64 x115) s6_145) ?_
              refine WL.ex rfl (ex_assign (v := .int .i64 x115) rfl) ?_
              refine WL.nil ?_
              obtain ⟨z158, hz158, H⟩ := bindE H
              refine WC.for (fun k_ ρ_ w_ => ∃ (o_ : Tags) (x153 : Int) (x154 : (List UInt64)), Fm o0 w0 o_ w_ [] ∧ Bk o_ w_ 10 b101 (List.map enc64 (List.replicate 16 ((0 : UInt64)))) 24 ∧ Bk o_ w_ 11 b106 (List.map enc64 x154) 24 ∧ x154.length = 16 ∧ ρ_ 0 = encS a0 ∧ ρ_ 2 = .pointer (some ⟨b101, 0, none⟩) ∧ ρ_ 3 = .int .i64 0 ∧ ρ_ 4 = .pointer (some ⟨b106, 0, none⟩) ∧ ρ_ 5 = .int .i64 x114 ∧ ρ_ 6 = .int .i64 x115 ∧ ρ_ 7 = .int .i64 x116 ∧ ρ_ 8 = .int .i64 z138.1 ∧ ρ_ 10 = .int .i64 x153 ∧ dictumref05_Parse.l2 k x115 z138 k_ x153 x154 = some z158) k (fun ρ_ w_ => ∃ (o_ : Tags), Fm o0 w0 o_ w_ [] ∧ Bk o_ w_ 10 b101 (List.map enc64 (List.replicate 16 ((0 : UInt64)))) 24 ∧ Bk o_ w_ 11 b106 (List.map enc64 z158) 24 ∧ z158.length = 16 ∧ ρ_ 0 = encS a0 ∧ ρ_ 2 = .pointer (some ⟨b101, 0, none⟩) ∧ ρ_ 3 = .int .i64 0 ∧ ρ_ 4 = .pointer (some ⟨b106, 0, none⟩) ∧ ρ_ 5 = .int .i64 x114 ∧ ρ_ 6 = .int .i64 x115 ∧ ρ_ 7 = .int .i64 x116 ∧ ρ_ 8 = .int .i64 z138.1) ⟨_, x115, z148, HF, hB105, hB154, hl147, s0_145, s2_145, s3_145, s4_145, s5_145, s6_145, s7_145, s8_145, rfl, hz158⟩ ?case159 ?_
              case case159 =>
                rintro ρ182 w183 ⟨o184, HF, hB105, hB154, hl157, s0_155, s2_155, s3_155, s4_155, s5_155, s6_155, s7_155, s8_155⟩
                refine WC.seq ?_
                refine WC.region ?_
                refine WL.ex rfl (ex_assign (v := .int .i64 (-1)) rfl) ?_
                refine WL.nil ?_
                obtain ⟨z186, hz186, H⟩ := bindE H
                refine WC.cut (fun ρ_ w_ => ∃ (o_ : Tags), Fm o0 w0 o_ w_ [] ∧ Bk o_ w_ 10 b101 (List.map enc64 (List.replicate 16 ((0 : UInt64)))) 24 ∧ Bk o_ w_ 11 b106 (List.map enc64 z158) 24 ∧ z158.length = 16 ∧ ρ_ 0 = encS a0 ∧ ρ_ 2 = .pointer (some ⟨b101, 0, none⟩) ∧ ρ_ 3 = .int .i64 0 ∧ ρ_ 4 = .pointer (some ⟨b106, 0, none⟩) ∧ ρ_ 5 = .int .i64 x114 ∧ ρ_ 6 = .int .i64 z186 ∧ ρ_ 7 = .int .i64 x116) ?case187 ?_
                case case187 =>
                  rintro ρ190 w188 ⟨o189, HF, hB105, hB154, hl157, s0_184, s2_184, s3_184, s4_184, s5_184, s6_185, s7_185⟩
                  refine WC.region ?_
                  refine WL.ex rfl (ex_move (v := .int .i64 x116) s7_185) ?_
                  refine WL.ex rfl (ex_bin (a := .int .i64 x116) (b := .int .i64 1) (v := .int .i64 (wrap64 (x116 + 1))) rfl rfl bin_add64) ?_
                  refine WL.ex rfl (ex_assign (v := .int .i64 (wrap64 (x116 + 1))) rfl) ?_
                  refine WL.nil ?_
                  refine WC.region ?_
                  refine WL.ex rfl (ex_move (v := .int .i64 x116) s7_185) ?_
                  refine WL.ex rfl (ex_bin (a := .int .i64 x116) (b := .int .i64 1) (v := .int .i64 (wrap64 (x116 + 1))) rfl rfl bin_add64) ?_
                  refine WL.ex rfl (ex_assign (v := .int .i64 (wrap64 (x116 + 1))) rfl) ?_
                  refine WL.nil ?_
                  exact ⟨k124, Nat.lt_succ_self _, ⟨_, wrap64 (x116 + 1), z186, wrap64 (x116 + 1), z158, HF, hB105, hB154, hl157, s0_184, s2_184, s3_184, s4_184, rfl, s6_185, rfl, H⟩⟩
                have Ho191 := H
                replace H := hz186
                obtain ⟨z193, hz193, H⟩ := bindE H
                refine WC.cut (fun ρ_ w_ => ∃ (o_ : Tags), Fm o0 w0 o_ w_ [] ∧ Bk o_ w_ 10 b101 (List.map enc64 (List.replicate 16 ((0 : UInt64)))) 24 ∧ Bk o_ w_ 11 b106 (List.map enc64 z158) 24 ∧ z158.length = 16 ∧ ρ_ 0 = encS a0 ∧ ρ_ 2 = .pointer (some ⟨b101, 0, none⟩) ∧ ρ_ 3 = .int .i64 0 ∧ ρ_ 4 = .pointer (some ⟨b106, 0, none⟩) ∧ ρ_ 5 = .int .i64 x114 ∧ ρ_ 6 = .int .i64 (-1) ∧ ρ_ 7 = .int .i64 x116 ∧ ρ_ 8 = .int .i64 z138.1 ∧ ρ_ 74 = .bool z193) ?case194 ?_
                case case194 =>
                  rintro ρ197 w195 ⟨o196, HF, hB105, hB154, hl157, s0_191, s2_191, s3_191, s4_191, s5_191, s6_191, s7_191, s8_191, s74_192⟩
                  rcases condE H with ⟨c198, H⟩ | ⟨c198, H⟩
                  ·
                    refine WC.cond_t ((show _ = Value.bool z193 from s74_192).trans (congrArg Value.bool c198)) ?_
                    refine WC.region ?_
                    refine WL.ex rfl (ex_move (v := .int .i64 z138.1) s8_191) ?_
                    refine WL.ex rfl (ex_assign (v := .int .i64 z138.1) rfl) ?_
                    refine WL.nil ?_
                    obtain rfl := Option.some.inj H
                    exact ⟨_, HF, hB105, hB154, hl157, s0_191, s2_191, s3_191, s4_191, s5_191, rfl, s7_191⟩
                  ·
                    refine WC.cond_f ((show _ = Value.bool z193 from s74_192).trans (congrArg Value.bool c198)) ?_
                    refine WC.skip ?_
                    obtain rfl := Option.some.inj H
                    exact ⟨_, HF, hB105, hB154, hl157, s0_191, s2_191, s3_191, s4_191, s5_191, s6_191, s7_191⟩
                have Ho199 := H
                replace H := hz193
                refine WC.region ?_
                refine WL.ex rfl (ex_move (v := .int .i64 x116) s7_155) ?_
                refine WL.ex rfl (ex_move (v := encS a0) s0_155) ?_
                refine WL.ex rfl (ex_len_str (s := a0) rfl Tryd.underlying9) ?_
                refine WL.ex rfl (ex_bin (a := .int .i64 x116) (b := .int .i64 (a0.length : Int)) (v := .bool (decide (x116 < (a0.length : Int)))) rfl rfl bin_lss) ?_
                refine WL.ex rfl (ex_move (v := .bool (decide (x116 < (a0.length : Int)))) rfl) ?_
                rcases condE H with ⟨c200, H⟩ | ⟨c200, H⟩
                ·
                  refine WL.guardYes rfl rfl rfl ((show _ = Value.bool (decide (x116 < (a0.length : Int))) from rfl).trans (congrArg Value.bool c200)) ?_
                  refine OW.ex rfl (ex_move (v := encS a0) s0_155) ?_
                  refine WL.guardYes rfl rfl rfl ((show _ = Value.bool (decide (x116 < (a0.length : Int))) from rfl).trans (congrArg Value.bool c200)) ?_
                  refine OW.ex rfl (ex_move (v := .int .i64 x116) s7_155) ?_
                  refine WL.guardYes rfl rfl rfl ((show _ = Value.bool (decide (x116 < (a0.length : Int))) from rfl).trans (congrArg Value.bool c200)) ?_
                  obtain ⟨x201, hx201, H⟩ := bindE H
                  refine OW.ex rfl (ex_index_str (i := x116) rfl rfl Tryd.underlying9 (ix_some hx201).1 (ix_some hx201).2.2) ?_
                  refine WL.guardYes rfl rfl rfl ((show _ = Value.bool (decide (x116 < (a0.length : Int))) from rfl).trans (congrArg Value.bool c200)) ?_
                  refine OW.ex rfl (ex_bin (a := enc8 x201) (b := enc8 (45 : UInt8)) (v := .bool (x201 == (45 : UInt8))) rfl rfl bin_eql_u8) ?_
                  refine WL.ex rfl (ex_pick_t (v := .bool (x201 == (45 : UInt8))) ((show _ = Value.bool (decide (x116 < (a0.length : Int))) from rfl).trans (congrArg Value.bool c200)) rfl) ?_
                  refine WL.nil ?_
                  obtain rfl := Option.some.inj H
                  exact ⟨_, HF, hB105, hB154, hl157, s0_155, s2_155, s3_155, s4_155, s5_155, rfl, s7_155, s8_155, rfl⟩
                ·
                  refine WL.guardNo rfl rfl rfl ((show _ = Value.bool (decide (x116 < (a0.length : Int))) from rfl).trans (congrArg Value.bool c200)) ?_
                  refine WL.guardNo rfl rfl rfl ((show _ = Value.bool (decide (x116 < (a0.length : Int))) from rfl).trans (congrArg Value.bool c200)) ?_
                  refine WL.guardNo rfl rfl rfl ((show _ = Value.bool (decide (x116 < (a0.length : Int))) from rfl).trans (congrArg Value.bool c200)) ?_
                  refine WL.guardNo rfl rfl rfl ((show _ = Value.bool (decide (x116 < (a0.length : Int))) from rfl).trans (congrArg Value.bool c200)) ?_
                  refine WL.ex rfl (ex_pick_f (v := .bool false) ((show _ = Value.bool (decide (x116 < (a0.length : Int))) from rfl).trans (congrArg Value.bool c200)) rfl) ?_
                  refine WL.nil ?_
                  obtain rfl := Option.some.inj H
                  exact ⟨_, HF, hB105, hB154, hl157, s0_155, s2_155, s3_155, s4_155, s5_155, rfl, s7_155, s8_155, rfl⟩
              have Ho160 := H
              rintro k161 ρ162 w163 ⟨o164, x153, x154, HF, hB105, hB154, hl155, s0_152, s2_152, s3_152, s4_152, s5_152, s6_152, s7_152, s8_152, s10_153, H⟩
              cases k161 with
              | zero => cases H
              | succ k161 =>
              rw [dictumref05_Parse.l2.eq_2] at H
              refine WC.seq ?_
              obtain ⟨z166, hz166, H⟩ := bindE H
              refine WC.cut (fun ρ_ w_ => ∃ (o_ : Tags), Fm o0 w0 o_ w_ [] ∧ Bk o_ w_ 10 b101 (List.map enc64 (List.replicate 16 ((0 : UInt64)))) 24 ∧ Bk o_ w_ 11 b106 (List.map enc64 x154) 24 ∧ x154.length = 16 ∧ ρ_ 0 = encS a0 ∧ ρ_ 2 = .pointer (some ⟨b101, 0, none⟩) ∧ ρ_ 3 = .int .i64 0 ∧ ρ_ 4 = .pointer (some ⟨b106, 0, none⟩) ∧ ρ_ 5 = .int .i64 x114 ∧ ρ_ 6 = .int .i64 x115 ∧ ρ_ 7 = .int .i64 x116 ∧ ρ_ 8 = .int .i64 z138.1 ∧ ρ_ 10 = .int .i64 x153 ∧ ρ_ 59 = .bool z166) ?case167 ?_
              case case167 =>
                rintro ρ170 w168 ⟨o169, HF, hB105, hB154, hl155, s0_164, s2_164, s3_164, s4_164, s5_164, s6_164, s7_164, s8_164, s10_164, s59_165⟩
                rcases condE H with ⟨c171, H⟩ | ⟨c171, H⟩
                ·
                  refine WC.cond_t ((show _ = Value.bool z166 from s59_165).trans (congrArg Value.bool c171)) ?_
                  refine WC.skip ?_
                  refine WC.seq ?_
                  refine WC.block ?_
                  refine WC.region ?_
                  refine WL.ex rfl (ex_loadAV (xs := x154) s4_164 Tryd.underlying24 sz24 hl155 hB154) ?_
                  refine WL.ex rfl (ex_move (v := .int .i64 x153) s10_164) ?_
                  obtain ⟨z172, hz172, H⟩ := bindE H
                  refine WL.op rfl ?_
                  refine OW.call [.agg (List.map enc64 x154).toArray, .int .i64 x153] rfl Tryd.func44 (by kernel_rfl) (by kernel_rfl) (map_cons' rfl (map_cons' rfl rfl)) (dictumref05_With.calls _ _ x154 x153 z172 (HF.ten (V := [0]) (L := []) rfl) hl155 hz172) ?_
                  rintro _ w173 ⟨o174, rfl, s175, hl176⟩
                  refine ⟨_, rfl, ?_⟩
                  replace s175 := un_stepL (J := []) (L' := []) s175 rfl rfl
                  replace hB105 := hB105.step s175 rfl
                  replace hB154 := hB154.step s175 rfl
                  replace HF := HF.step s175 rfl
                  refine WL.op rfl ?_
                  refine OW.storeAV (ys := z172) s4_164 rfl (fun _ => rfl) sz24 hl155 hl176 hB154 ?_
                  intro w177 s178 hB179
                  replace hB105 := hB105.step s178 rfl
                  replace HF := HF.step s178 rfl
                  refine WL.nil ?_
                  refine WC.region ?_
                  refine WL.ex rfl (ex_move (v := .int .i64 x153) s10_164) ?_
                  refine WL.ex rfl (ex_bin (a := .int .i64 x153) (b := .int .i64 1) (v := .int .i64 (wrap64 (x153 + 1))) rfl rfl bin_add64) ?_
                  refine WL.ex rfl (ex_assign (v := .int .i64 (wrap64 (x153 + 1))) rfl) ?_
                  refine WL.nil ?_
                  exact ⟨k161, Nat.lt_succ_self _, ⟨_, wrap64 (x153 + 1), z172, HF, hB105, hB179, hl176, s0_164, s2_164, s3_164, s4_164, s5_164, s6_164, s7_164, s8_164, rfl, H⟩⟩
                ·
                  refine WC.cond_f ((show _ = Value.bool z166 from s59_165).trans (congrArg Value.bool c171)) ?_
                  refine WC.exit ?_
                  obtain rfl := Option.some.inj H
                  exact ⟨_, HF, hB105, hB154, hl155, s0_164, s2_164, s3_164, s4_164, s5_164, s6_164, s7_164, s8_164⟩
              have Ho180 := H
              replace H := hz166
              refine WC.region ?_
              refine WL.ex rfl (ex_move (v := .int .i64 x115) s6_152) ?_
              refine WL.ex rfl (ex_bin (a := .int .i64 x115) (b := .int .i64 0) (v := .bool (decide (x115 ≥ 0))) rfl rfl bin_geq) ?_
              refine WL.ex rfl (ex_move (v := .bool (decide (x115 ≥ 0))) rfl) ?_
              rcases condE H with ⟨c181, H⟩ | ⟨c181, H⟩
              ·
                refine WL.guardYes rfl rfl rfl ((show _ = Value.bool (decide (x115 ≥ 0)) from rfl).trans (congrArg Value.bool c181)) ?_
                refine OW.ex rfl (ex_move (v := .int .i64 x153) s10_153) ?_
                refine WL.guardYes rfl rfl rfl ((show _ = Value.bool (decide (x115 ≥ 0)) from rfl).trans (congrArg Value.bool c181)) ?_
                refine OW.ex rfl (ex_move (v := .int .i64 z138.1) s8_152) ?_
                refine WL.guardYes rfl rfl rfl ((show _ = Value.bool (decide (x115 ≥ 0)) from rfl).trans (congrArg Value.bool c181)) ?_
                refine OW.ex rfl (ex_bin (a := .int .i64 x153) (b := .int .i64 z138.1) (v := .bool (decide (x153 ≤ z138.1))) rfl rfl bin_leq) ?_
                refine WL.ex rfl (ex_pick_t (v := .bool (decide (x153 ≤ z138.1))) ((show _ = Value.bool (decide (x115 ≥ 0)) from rfl).trans (congrArg Value.bool c181)) rfl) ?_
                refine WL.nil ?_
                obtain rfl := Option.some.inj H
                exact ⟨_, HF, hB105, hB154, hl155, s0_152, s2_152, s3_152, s4_152, s5_152, s6_152, s7_152, s8_152, s10_153, rfl⟩
              ·
                refine WL.guardNo rfl rfl rfl ((show _ = Value.bool (decide (x115 ≥ 0)) from rfl).trans (congrArg Value.bool c181)) ?_
                refine WL.guardNo rfl rfl rfl ((show _ = Value.bool (decide (x115 ≥ 0)) from rfl).trans (congrArg Value.bool c181)) ?_
                refine WL.guardNo rfl rfl rfl ((show _ = Value.bool (decide (x115 ≥ 0)) from rfl).trans (congrArg Value.bool c181)) ?_
                refine WL.ex rfl (ex_pick_f (v := .bool false) ((show _ = Value.bool (decide (x115 ≥ 0)) from rfl).trans (congrArg Value.bool c181)) rfl) ?_
                refine WL.nil ?_
                obtain rfl := Option.some.inj H
                exact ⟨_, HF, hB105, hB154, hl155, s0_152, s2_152, s3_152, s4_152, s5_152, s6_152, s7_152, s8_152, s10_153, rfl⟩
            have Ho202 := H
            replace H := hz148
            refine WC.seq ?_
            refine WC.region ?_
            refine WL.ex rfl (ex_move (v := .int .i64 x115) s6_128) ?_
            refine WL.ex rfl (ex_bin (a := .int .i64 x115) (b := .int .i64 0) (v := .bool (decide (x115 < 0))) rfl rfl bin_lss) ?_
            refine WL.nil ?_
            rcases condE H with ⟨c203, H⟩ | ⟨c203, H⟩
            ·
              refine WC.cond_t ((show _ = Value.bool (decide (x115 < 0)) from rfl).trans (congrArg Value.bool c203)) ?_
              refine WC.region ?_
              refine WL.ex rfl (ex_loadAV (xs := x117) s4_128 Tryd.underlying24 sz24 hl118 hB113) ?_
              refine WL.ex rfl (ex_move (v := .int .i64 z138.1) rfl) ?_
              obtain ⟨z204, hz204, H⟩ := bindE H
              refine WL.op rfl ?_
              refine OW.call [.agg (List.map enc64 x117).toArray, .int .i64 z138.1] rfl Tryd.func44 (by kernel_rfl) (by kernel_rfl) (map_cons' rfl (map_cons' rfl rfl)) (dictumref05_With.calls _ _ x117 z138.1 z204 (HF.ten (V := [0]) (L := []) rfl) hl118 hz204) ?_
              rintro _ w205 ⟨o206, rfl, s207, hl208⟩
              refine ⟨_, rfl, ?_⟩
              replace s207 := un_stepL (J := []) (L' := []) s207 rfl rfl
              replace hB105 := hB105.step s207 rfl
              replace hB113 := hB113.step s207 rfl
              replace HF := HF.step s207 rfl
              refine WL.op rfl ?_
              refine OW.storeAV (ys := z204) s4_128 rfl (fun _ => rfl) sz24 hl118 hl208 hB113 ?_
              intro w209 s210 hB211
              replace hB105 := hB105.step s210 rfl
              replace HF := HF.step s210 rfl
              refine WL.nil ?_
              obtain rfl := Option.some.inj H
              exact ⟨_, HF, hB105, hB211, hl208, s0_128, s2_128, s3_128, s4_128, s5_128, s6_128, s7_128, rfl⟩
            ·
              refine WC.cond_f ((show _ = Value.bool (decide (x115 < 0)) from rfl).trans (congrArg Value.bool c203)) ?_
              refine WC.skip ?_
              obtain rfl := Option.some.inj H
              exact ⟨_, HF, hB105, hB113, hl118, s0_128, s2_128, s3_128, s4_128, s5_128, s6_128, s7_128, rfl⟩
    have Ho212 := H
    replace H := hz130
    refine WC.region ?_
    refine WL.ex rfl (ex_move (v := .int .i64 x116) s7_116) ?_
    refine WL.ex rfl (ex_move (v := encS a0) s0_113) ?_
    refine WL.ex rfl (ex_len_str (s := a0) rfl Tryd.underlying9) ?_
    refine WL.ex rfl (ex_bin (a := .int .i64 x116) (b := .int .i64 (a0.length : Int)) (v := .bool (decide (x116 < (a0.length : Int)))) rfl rfl bin_lss) ?_
    refine WL.ex rfl (ex_move (v := .bool (decide (x116 < (a0.length : Int)))) rfl) ?_
    rcases condE H with ⟨c213, H⟩ | ⟨c213, H⟩
    ·
      refine WL.guardYes rfl rfl rfl ((show _ = Value.bool (decide (x116 < (a0.length : Int))) from rfl).trans (congrArg Value.bool c213)) ?_
      refine OW.ex rfl (ex_move (v := encS a0) s0_113) ?_
      refine WL.guardYes rfl rfl rfl ((show _ = Value.bool (decide (x116 < (a0.length : Int))) from rfl).trans (congrArg Value.bool c213)) ?_
      refine OW.ex rfl (ex_move (v := .int .i64 x116) s7_116) ?_
      refine WL.guardYes rfl rfl rfl ((show _ = Value.bool (decide (x116 < (a0.length : Int))) from rfl).trans (congrArg Value.bool c213)) ?_
      obtain ⟨x214, hx214, H⟩ := bindE H
      refine OW.ex rfl (ex_index_str (i := x116) rfl rfl Tryd.underlying9 (ix_some hx214).1 (ix_some hx214).2.2) ?_
      refine WL.guardYes rfl rfl rfl ((show _ = Value.bool (decide (x116 < (a0.length : Int))) from rfl).trans (congrArg Value.bool c213)) ?_
      refine OW.ex rfl (ex_bin (a := enc8 x214) (b := enc8 (48 : UInt8)) (v := .bool (decide ((48 : UInt8) ≤ x214))) rfl rfl bin_geq_u8) ?_
      refine WL.ex rfl (ex_pick_t (v := .bool (decide ((48 : UInt8) ≤ x214))) ((show _ = Value.bool (decide (x116 < (a0.length : Int))) from rfl).trans (congrArg Value.bool c213)) rfl) ?_
      refine WL.ex rfl (ex_move (v := .bool (decide ((48 : UInt8) ≤ x214))) rfl) ?_
      rcases condE H with ⟨c215, H⟩ | ⟨c215, H⟩
      ·
        refine WL.guardYes rfl rfl rfl ((show _ = Value.bool (decide ((48 : UInt8) ≤ x214)) from rfl).trans (congrArg Value.bool c215)) ?_
        refine OW.ex rfl (ex_move (v := encS a0) s0_113) ?_
        refine WL.guardYes rfl rfl rfl ((show _ = Value.bool (decide ((48 : UInt8) ≤ x214)) from rfl).trans (congrArg Value.bool c215)) ?_
        refine OW.ex rfl (ex_move (v := .int .i64 x116) s7_116) ?_
        refine WL.guardYes rfl rfl rfl ((show _ = Value.bool (decide ((48 : UInt8) ≤ x214)) from rfl).trans (congrArg Value.bool c215)) ?_
        obtain ⟨x216, hx216, H⟩ := bindE H
        refine OW.ex rfl (ex_index_str (i := x116) rfl rfl Tryd.underlying9 (ix_some hx216).1 (ix_some hx216).2.2) ?_
        refine WL.guardYes rfl rfl rfl ((show _ = Value.bool (decide ((48 : UInt8) ≤ x214)) from rfl).trans (congrArg Value.bool c215)) ?_
        refine OW.ex rfl (ex_bin (a := enc8 x216) (b := enc8 (57 : UInt8)) (v := .bool (decide (x216 ≤ (57 : UInt8)))) rfl rfl bin_leq_u8) ?_
        refine WL.ex rfl (ex_pick_t (v := .bool (decide (x216 ≤ (57 : UInt8)))) ((show _ = Value.bool (decide ((48 : UInt8) ≤ x214)) from rfl).trans (congrArg Value.bool c215)) rfl) ?_
        refine WL.nil ?_
        obtain rfl := Option.some.inj H
        exact ⟨_, HF, hB105, hB113, hl118, s0_113, s2_113, s3_113, s4_113, s5_114, s6_115, s7_116, rfl⟩
      ·
        refine WL.guardNo rfl rfl rfl ((show _ = Value.bool (decide ((48 : UInt8) ≤ x214)) from rfl).trans (congrArg Value.bool c215)) ?_
        refine WL.guardNo rfl rfl rfl ((show _ = Value.bool (decide ((48 : UInt8) ≤ x214)) from rfl).trans (congrArg Value.bool c215)) ?_
        refine WL.guardNo rfl rfl rfl ((show _ = Value.bool (decide ((48 : UInt8) ≤ x214)) from rfl).trans (congrArg Value.bool c215)) ?_
        refine WL.guardNo rfl rfl rfl ((show _ = Value.bool (decide ((48 : UInt8) ≤ x214)) from rfl).trans (congrArg Value.bool c215)) ?_
        refine WL.ex rfl (ex_pick_f (v := .bool false) ((show _ = Value.bool (decide ((48 : UInt8) ≤ x214)) from rfl).trans (congrArg Value.bool c215)) rfl) ?_
        refine WL.nil ?_
        obtain rfl := Option.some.inj H
        exact ⟨_, HF, hB105, hB113, hl118, s0_113, s2_113, s3_113, s4_113, s5_114, s6_115, s7_116, rfl⟩
    ·
      refine WL.guardNo rfl rfl rfl ((show _ = Value.bool (decide (x116 < (a0.length : Int))) from rfl).trans (congrArg Value.bool c213)) ?_
      refine WL.guardNo rfl rfl rfl ((show _ = Value.bool (decide (x116 < (a0.length : Int))) from rfl).trans (congrArg Value.bool c213)) ?_
      refine WL.guardNo rfl rfl rfl ((show _ = Value.bool (decide (x116 < (a0.length : Int))) from rfl).trans (congrArg Value.bool c213)) ?_
      refine WL.guardNo rfl rfl rfl ((show _ = Value.bool (decide (x116 < (a0.length : Int))) from rfl).trans (congrArg Value.bool c213)) ?_
      refine WL.ex rfl (ex_pick_f (v := .bool false) ((show _ = Value.bool (decide (x116 < (a0.length : Int))) from rfl).trans (congrArg Value.bool c213)) rfl) ?_
      refine WL.ex rfl (ex_move (v := .bool false) rfl) ?_
      refine WL.guardNo rfl rfl rfl rfl ?_
      refine WL.guardNo rfl rfl rfl rfl ?_
      refine WL.guardNo rfl rfl rfl rfl ?_
      refine WL.guardNo rfl rfl rfl rfl ?_
      refine WL.ex rfl (ex_pick_f (v := .bool false) rfl rfl) ?_
      refine WL.nil ?_
      obtain rfl := Option.some.inj H
      exact ⟨_, HF, hB105, hB113, hl118, s0_113, s2_113, s3_113, s4_113, s5_114, s6_115, s7_116, rfl⟩
  ·
    refine WC.cond_f ((show _ = Value.bool (decide (x116 ≤ (a0.length : Int))) from rfl).trans (congrArg Value.bool c128)) ?_
    refine WC.exit ?_
    obtain rfl := Option.some.inj H
    exact ⟨_, x117, HF, hB105, hB113, hl118, s0_113, s2_113, s3_113, s4_113, rfl⟩

/-! ### bits_Of -/
set_option maxRecDepth 100000 in
theorem bits_Of.calls (k : Nat) (o0 : Tags) (w0 : World) (pA0 : Option Addr) (pc0 : Nat) (a0 : (List Int)) (r : (List UInt64) × Int) (hO : ∀ b, b < w0.heap.size → o0 b < 10) (hra0 : Row (Rep.int .i64) (fun b_ => o0 b_ = 0) (fun b_ => o0 b_ = 0) w0 pA0 a0) (hla0 : a0.length ≤ pc0) (H : bits_Of.f k a0 = some r) :
    Calls Tryd.prog 28 [.slice pA0 a0.length pc0].toArray w0 fun e_ w_ => ∃ (o_ : Tags), e_ = .returned (one [.agg (List.map enc64 r.1).toArray, .int .i64 r.2]) ∧ Step o0 w0 o_ w_ [] ∧ r.1.length = 16 := by
  have HF := Fm.refl hO []
  unfold bits_Of.f at H
  refine SX.calls [.slice pA0 a0.length pc0] Tryd.func28 rfl rfl ?_
  rw [Tryd.ntmps28]
  refine WC.seq ?_
  refine WC.region ?_
  refine WL.op rfl ?_
  refine OW.alloc' (List.map enc64 (List.replicate 16 ((0 : UInt64)))) 10 HF rfl zr24 rfl ?_
  intro o102 w103 b101 s104 hB105
  replace hra0 := hra0.step s104 rfl
  replace HF := HF.step s104 rfl
  refine WL.ex rfl (ex_assign (v := .int .i64 0) rfl) ?_
  refine WL.nil ?_
  refine WC.seq ?_
  refine WC.region ?_
  refine WL.op rfl ?_
  refine OW.alloc' (List.map enc64 (List.replicate 16 ((0 : UInt64)))) 11 HF rfl zr24 rfl ?_
  intro o107 w108 b106 s109 hB110
  replace hra0 := hra0.step s109 rfl
  replace hB105 := hB105.step s109 rfl
  replace HF := HF.step s109 rfl
  refine WL.nil ?_
  refine WC.seq ?_
  refine WC.seq ?_
  refine WC.region ?_
  refine WL.ex rfl (ex_move (v := .slice pA0 a0.length pc0) rfl) ?_
  refine WL.ex rfl (ex_len_slice (A := pA0) (m := a0.length) (c := pc0) rfl Tryd.underlying38) ?_
  refine WL.ex rfl (ex_move (v := .int .i64 0) rfl) ?_
  refine WL.nil ?_
  obtain ⟨z116, hz116, H⟩ := bindE H
  refine WC.for (fun k_ ρ_ w_ => ∃ (o_ : Tags) (x111 : Int) (x112 : (List UInt64)), Fm o0 w0 o_ w_ [] ∧ Row (Rep.int .i64) (fun b_ => o_ b_ = 0) (fun b_ => o_ b_ = 0) w_ pA0 a0 ∧ Bk o_ w_ 10 b101 (List.map enc64 (List.replicate 16 ((0 : UInt64)))) 24 ∧ Bk o_ w_ 11 b106 (List.map enc64 x112) 24 ∧ x112.length = 16 ∧ ρ_ 2 = .pointer (some ⟨b101, 0, none⟩) ∧ ρ_ 3 = .int .i64 0 ∧ ρ_ 4 = .pointer (some ⟨b106, 0, none⟩) ∧ ρ_ 7 = .slice pA0 a0.length pc0 ∧ ρ_ 8 = .int .i64 (a0.length : Int) ∧ ρ_ 9 = .int .i64 x111 ∧ bits_Of.l1 k a0 k_ x111 x112 = some z116) k (fun ρ_ w_ => ∃ (o_ : Tags) (x114 : (List UInt64)), Fm o0 w0 o_ w_ [] ∧ Bk o_ w_ 10 b101 (List.map enc64 (List.replicate 16 ((0 : UInt64)))) 24 ∧ Bk o_ w_ 11 b106 (List.map enc64 x114) 24 ∧ x114.length = 16 ∧ ρ_ 2 = .pointer (some ⟨b101, 0, none⟩) ∧ ρ_ 3 = .int .i64 0 ∧ ρ_ 4 = .pointer (some ⟨b106, 0, none⟩) ∧ z116 = .inr x114) ⟨_, 0, (List.replicate 16 ((0 : UInt64))), HF, hra0, hB105, hB110, rfl, rfl, rfl, rfl, rfl, rfl, rfl, hz116⟩ ?case117 ?_
  case case117 =>
    rintro ρ148 w149 ⟨o150, x114, HF, hB105, hB110, hl115, s2_113, s3_113, s4_113, rfl⟩
    dsimp only at H
    refine WC.seq ?_
    refine WC.region ?_
    refine WL.ex rfl (ex_loadAV (xs := x114) s4_113 Tryd.underlying24 sz24 hl115 hB110) ?_
    refine WL.op rfl ?_
    refine OW.storeAV (ys := x114) s2_113 rfl (fun _ => rfl) sz24 rfl hl115 hB105 ?_
    intro w151 s152 hB153
    replace hB110 := hB110.step s152 rfl
    replace HF := HF.step s152 rfl
    refine WL.ex rfl (ex_assign (v := .int .i64 0) rfl) ?_
    refine WL.nil ?_
    refine WC.ret ?_
    obtain rfl := Option.some.inj H
    exact ⟨_, (.cell (.agg (List.map enc64 x114).toArray : Value) s2_113 (run_loadAV Tryd.underlying24 sz24 hl115 hB153) (.tmp (.int .i64 0 : Value) rfl .nil)), _, rfl, HF.out, hl115⟩
  have Ho118 := H
  rintro k119 ρ120 w121 ⟨o122, x111, x112, HF, hra0, hB105, hB110, hl113, s2_110, s3_110, s4_110, s7_110, s8_110, s9_111, H⟩
  cases k119 with
  | zero => cases H
  | succ k119 =>
  rw [bits_Of.l1.eq_2] at H
  refine WC.seq ?_
  refine WC.region ?_
  refine WL.ex rfl (ex_bin (a := .int .i64 x111) (b := .int .i64 (a0.length : Int)) (v := .bool (decide (x111 < (a0.length : Int)))) s9_111 s8_110 bin_lss) ?_
  refine WL.nil ?_
  refine WC.seq ?_
  rcases condE H with ⟨c123, H⟩ | ⟨c123, H⟩
  ·
    refine WC.cond_t ((show _ = Value.bool (decide (x111 < (a0.length : Int))) from rfl).trans (congrArg Value.bool c123)) ?_
    refine WC.skip ?_
    refine WC.seq ?_
    refine WC.block ?_
    refine WC.seq ?_
    refine WC.region ?_
    obtain ⟨x124, hx124, H⟩ := bindE H
    obtain ⟨ad125, e126, g127, g128, cell129⟩ := Row.ixS hra0 hx124
    refine WL.ex rfl (ex_indexAddr (i := x111) s7_110 e126 s9_111 Tryd.underlying38 sz3 g127 g128) ?_
    refine WL.ex rfl (ex_load1 (v := .int .i64 x124) rfl Tryd.underlying3 rfl cell129) ?_
    refine WL.ex rfl (ex_assign (v := .int .i64 x124) rfl) ?_
    refine WL.nil ?_
    refine WC.seq ?_
    refine WC.seq ?_
    refine WC.region ?_
    refine WL.ex rfl (ex_move (v := .int .i64 x124) rfl) ?_
    obtain ⟨z131, hz131, H⟩ := bindE H
    refine WL.op rfl ?_
    refine OW.call [.int .i64 x124] rfl Tryd.func46 (by kernel_rfl) (by kernel_rfl) (map_cons' rfl rfl) (bits_inside.calls _ _ x124 z131 (HF.ten (V := [0]) (L := []) rfl)  hz131) ?_
    rintro _ w132 ⟨o133, rfl, s134⟩
    refine ⟨_, rfl, ?_⟩
    replace s134 := un_stepL (J := []) (L' := []) s134 rfl rfl
    replace hra0 := hra0.step s134 rfl
    replace hB105 := hB105.step s134 rfl
    replace hB110 := hB110.step s134 rfl
    replace HF := HF.step s134 rfl
    refine WL.ex rfl (ex_not (b := z131) rfl) ?_
    refine WL.nil ?_
    rcases condE H with ⟨c135, H⟩ | ⟨c135, H⟩
    ·
      refine WC.cond_t ((show _ = Value.bool (!z131) from rfl).trans (congrArg Value.bool c135)) ?_
      refine WC.seq ?_
      refine WC.region ?_
      refine WL.ex rfl (ex_buildArr (cs := List.map enc64 (List.replicate 16 ((0 : UInt64)))) [] [.int .u64 0, .int .u64 0, .int .u64 0, .int .u64 0, .int .u64 0, .int .u64 0, .int .u64 0, .int .u64 0, .int .u64 0, .int .u64 0, .int .u64 0, .int .u64 0, .int .u64 0, .int .u64 0, .int .u64 0, .int .u64 0] Tryd.underlying24 zr24 rfl sz22 rfl rfl) ?_
      refine WL.op rfl ?_
      refine OW.storeAV (ys := (List.replicate 16 ((0 : UInt64)))) s2_110 rfl (fun _ => rfl) sz24 rfl rfl hB105 ?_
      intro w136 s137 hB138
      replace hra0 := hra0.step s137 rfl
      replace hB110 := hB110.step s137 rfl
      replace HF := HF.step s137 rfl
      refine WL.ex rfl (ex_assign (v := .int .i64 50) rfl) ?_
      refine WL.nil ?_
      refine WC.ret ?_
      obtain rfl := Option.some.inj H
      replace H := Ho118
      dsimp only at H
      obtain rfl := Option.some.inj H
      exact ⟨_, (.cell (.agg (List.map enc64 (List.replicate 16 ((0 : UInt64)))).toArray : Value) s2_110 (run_loadAV Tryd.underlying24 sz24 rfl hB138) (.tmp (.int .i64 50 : Value) rfl .nil)), _, rfl, HF.out, rfl⟩
    ·
      refine WC.cond_f ((show _ = Value.bool (!z131) from rfl).trans (congrArg Value.bool c135)) ?_
      refine WC.skip ?_
      refine WC.regionD' HF [11] 10 (by kernel_rfl) rfl ?_
      intro w139 s140
      replace hra0 := hra0.step s140 rfl
      replace hB105 := hB105.step s140 rfl
      replace hB110 := hB110.step s140 rfl
      replace HF := HF.step s140 rfl
      have hra0D := hra0
      have hB105D := hB105
      have hB110D := hB110
      have sR := HF.here [11]
      refine WA.norm (listed' := #[false, false, false, false, false, false, false, false, false, false]) (by kernel_rfl) ?_
      refine WA.ex 0 rfl (by kernel_rfl) (by kernel_rfl) (by kernel_rfl) rfl ⟨_, sR⟩ (fun w_ hS_ => ex_move (v := .int .i64 x124) rfl) ?_
      refine WA.norm (listed' := #[true, false, false, false, false, false, false, false, false, false]) (by kernel_rfl) ?_
      refine WA.ex 1 rfl (by kernel_rfl) (by kernel_rfl) (by kernel_rfl) rfl ⟨_, sR⟩ (fun w_ hS_ => ex_bin (a := .int .i64 x124) (b := .int .i64 64) (v := .int .i64 (wrap64 (x124.tdiv 64))) rfl rfl (bin_quo64 (by decide))) ?_
      refine WA.norm (listed' := #[true, true, false, false, false, false, false, false, false, false]) (by kernel_rfl) ?_
      obtain ⟨x141, hx141, H⟩ := bindE H
      refine WA.ex 2 rfl (by kernel_rfl) (by kernel_rfl) (by kernel_rfl) rfl ⟨_, sR⟩ (fun w_ hS_ => ex_indexArrB (i := (wrap64 (x124.tdiv 64))) (xs := x112) s4_110 rfl Tryd.underlying24 sz22 hl113 hx141) ?_
      refine WA.norm (listed' := #[true, true, true, false, false, false, false, false, false, false]) (by kernel_rfl) ?_
      refine WA.ex 4 rfl (by kernel_rfl) (by kernel_rfl) (by kernel_rfl) rfl ⟨_, sR⟩ (fun w_ hS_ => ex_move (v := .int .i64 x124) rfl) ?_
      refine WA.norm (listed' := #[true, true, true, false, true, false, false, false, false, false]) (by kernel_rfl) ?_
      refine WA.ex 5 rfl (by kernel_rfl) (by kernel_rfl) (by kernel_rfl) rfl ⟨_, sR⟩ (fun w_ hS_ => ex_bin (a := .int .i64 x124) (b := .int .i64 64) (v := .int .i64 (x124.tmod 64)) rfl rfl (bin_rem64 (by decide))) ?_
      refine WA.norm (listed' := #[true, true, true, false, true, true, false, false, false, false]) (by kernel_rfl) ?_
      obtain ⟨u142, hu142, H⟩ := bindE H
      refine WA.ex 6 rfl (by kernel_rfl) (by kernel_rfl) (by kernel_rfl) rfl ⟨_, sR⟩ (fun w_ hS_ => ex_bin (a := enc64 (1 : UInt64)) (b := .int .i64 (x124.tmod 64)) (v := enc64 (shl64 (1 : UInt64) (x124.tmod 64).toNat)) rfl rfl (bin_shl_u64 (of_decide_eq_true (chk_true hu142)))) ?_
      refine WA.norm (listed' := #[true, true, true, false, true, true, true, false, false, false]) (by kernel_rfl) ?_
      refine WA.one 3 (by kernel_rfl) rfl rfl ?_
      refine OW.ex rfl (ex_loadAE (enc := enc64) rfl Tryd.underlying22 rfl hB110 hx141) ?_
      refine ⟨⟨_, sR⟩, ?_⟩
      refine WA.norm (listed' := #[true, true, true, true, true, true, true, false, false, false]) (by kernel_rfl) ?_
      refine WA.ex 7 rfl (by kernel_rfl) (by kernel_rfl) (by kernel_rfl) rfl ⟨_, sR⟩ (fun w_ hS_ => ex_bin (a := enc64 x141) (b := enc64 (shl64 (1 : UInt64) (x124.tmod 64).toNat)) (v := enc64 (x141 ||| (shl64 (1 : UInt64) (x124.tmod 64).toNat))) rfl rfl bin_or_u64) ?_
      refine WA.norm (listed' := #[true, true, true, true, true, true, true, true, false, false]) (by kernel_rfl) ?_
      obtain ⟨x143, hx143, H⟩ := bindE H
      refine WA.ex 8 rfl (by kernel_rfl) (by kernel_rfl) (by kernel_rfl) rfl ⟨_, sR⟩ (fun w_ hS_ => ex_indexArrB (i := (wrap64 (x124.tdiv 64))) (xs := x112) s4_110 rfl Tryd.underlying24 sz22 hl113 hx143) ?_
      refine WA.norm (listed' := #[true, true, true, true, true, true, true, true, true, false]) (by kernel_rfl) ?_
      refine WA.one 9 (by kernel_rfl) rfl rfl ?_
      refine OW.storeAE (enc := enc64) (c := (x141 ||| (shl64 (1 : UInt64) (x124.tmod 64).toNat))) rfl rfl (cells64) (fun _ => rfl) sz22 hB110 hx143 ?_
      intro w144 s145 hB146
      replace hra0 := hra0.step s145 rfl
      replace hB105 := hB105.step s145 rfl
      replace HF := HF.step s145 rfl
      replace sR := Step.trans sR s145 (M := [11]) rfl rfl
      have hl147 := len_set (i := (wrap64 (x124.tdiv 64)).toNat) (a := (x141 ||| (shl64 (1 : UInt64) (x124.tmod 64).toNat))) hl113
      refine ⟨⟨_, sR⟩, ?_⟩
      refine WA.norm (listed' := #[true, true, true, true, true, true, true, true, true, true]) (by kernel_rfl) ?_
      refine WA.done (by kernel_rfl) ?_
      refine WC.region ?_
      refine WL.ex rfl (ex_bin (a := .int .i64 x111) (b := .int .i64 1) (v := .int .i64 (wrap64 (x111 + 1))) s9_111 rfl bin_add64) ?_
      refine WL.ex rfl (ex_move (v := .int .i64 (wrap64 (x111 + 1))) rfl) ?_
      refine WL.nil ?_
      exact ⟨k119, Nat.lt_succ_self _, ⟨_, wrap64 (x111 + 1), (x112.set (wrap64 (x124.tdiv 64)).toNat (x141 ||| (shl64 (1 : UInt64) (x124.tmod 64).toNat))), HF, hra0, hB105, hB146, hl147, s2_110, s3_110, s4_110, s7_110, s8_110, rfl, H⟩⟩
  ·
    refine WC.cond_f ((show _ = Value.bool (decide (x111 < (a0.length : Int))) from rfl).trans (congrArg Value.bool c123)) ?_
    refine WC.exit ?_
    obtain rfl := Option.some.inj H
    exact ⟨_, x112, HF, hB105, hB110, hl113, s2_110, s3_110, s4_110, rfl⟩

/-! ### bits_Union_1 -/
set_option maxRecDepth 100000 in
theorem bits_Union_1.calls (o0 : Tags) (w0 : World) (a0 : UInt64) (a1 : UInt64) (r : UInt64) (hO : ∀ b, b < w0.heap.size → o0 b < 10) (H : bits_Union_1.f a0 a1 = some r) :
    Calls Tryd.prog 49 [enc64 a0, enc64 a1].toArray w0 fun e_ w_ => ∃ (o_ : Tags), e_ = .returned (one [enc64 r]) ∧ Step o0 w0 o_ w_ [] := by
  have HF := Fm.refl hO []
  unfold bits_Union_1.f at H
  refine SX.calls [enc64 a0, enc64 a1] Tryd.func49 rfl rfl ?_
  rw [Tryd.ntmps49]
  refine WC.seq ?_
  refine WC.region ?_
  refine WL.ex rfl (ex_assign (v := enc64 (0 : UInt64)) rfl) ?_
  refine WL.nil ?_
  refine WC.seq ?_
  refine WC.region ?_
  refine WL.ex rfl (ex_move (v := enc64 a0) rfl) ?_
  refine WL.ex rfl (ex_move (v := enc64 a1) rfl) ?_
  refine WL.ex rfl (ex_bin (a := enc64 a0) (b := enc64 a1) (v := enc64 (a0 ||| a1)) rfl rfl bin_or_u64) ?_
  refine WL.ex rfl (ex_assign (v := enc64 (a0 ||| a1)) rfl) ?_
  refine WL.nil ?_
  refine WC.ret ?_
  obtain rfl := Option.some.inj H
  exact ⟨_, (.tmp (enc64 (a0 ||| a1) : Value) rfl .nil), _, rfl, HF.out⟩

/-! ### bits_each_bits_Union_1 -/
set_option maxRecDepth 100000 in
theorem bits_each_bits_Union_1.calls (k : Nat) (o0 : Tags) (w0 : World) (a0 : (List UInt64)) (a1 : (List UInt64)) (r : (List UInt64)) (hO : ∀ b, b < w0.heap.size → o0 b < 10) (hla0 : a0.length = 16) (hla1 : a1.length = 16) (H : bits_each_bits_Union_1.f k a0 a1 = some r) :
    Calls Tryd.prog 48 [.agg (List.map enc64 a0).toArray, .agg (List.map enc64 a1).toArray, .func (.func 49) #[] #[]].toArray w0 fun e_ w_ => ∃ (o_ : Tags), e_ = .returned (one [.agg (List.map enc64 r).toArray]) ∧ Step o0 w0 o_ w_ [] ∧ r.length = 16 := by
  have HF := Fm.refl hO []
  unfold bits_each_bits_Union_1.f at H
  refine SX.calls [.agg (List.map enc64 a0).toArray, .agg (List.map enc64 a1).toArray, .func (.func 49) #[] #[]] Tryd.func48 rfl rfl ?_
  rw [Tryd.ntmps48]
  refine WC.seq ?_
  refine WC.region ?_
  refine WL.op rfl ?_
  refine OW.box' (List.map enc64 a0) 10 HF rfl ((congrArg Value.cells (show ev _ _ = (.agg (List.map enc64 a0).toArray : Value) from rfl)).trans rfl) ?_
  intro o102 w103 b101 s104 hB105
  replace HF := HF.step s104 rfl
  refine WL.op rfl ?_
  refine OW.box' (List.map enc64 a1) 11 HF rfl ((congrArg Value.cells (show ev _ _ = (.agg (List.map enc64 a1).toArray : Value) from rfl)).trans rfl) ?_
  intro o107 w108 b106 s109 hB110
  replace hB105 := hB105.step s109 rfl
  replace HF := HF.step s109 rfl
  refine WL.op rfl ?_
  refine OW.alloc' (List.map enc64 (List.replicate 16 ((0 : UInt64)))) 12 HF rfl zr24 rfl ?_
  intro o112 w113 b111 s114 hB115
  replace hB105 := hB105.step s114 rfl
  replace hB110 := hB110.step s114 rfl
  replace HF := HF.step s114 rfl
  refine WL.nil ?_
  refine WC.seq ?_
  refine WC.seq ?_
  refine WC.region ?_
  refine WL.ex rfl (ex_move (v := .int .i64 0) rfl) ?_
  refine WL.nil ?_
  obtain ⟨z121, hz121, H⟩ := bindE H
  refine WC.for (fun k_ ρ_ w_ => ∃ (o_ : Tags) (x116 : Int) (x117 : (List UInt64)), Fm o0 w0 o_ w_ [] ∧ Bk o_ w_ 10 b101 (List.map enc64 x117) 24 ∧ x117.length = 16 ∧ Bk o_ w_ 11 b106 (List.map enc64 a1) 24 ∧ Bk o_ w_ 12 b111 (List.map enc64 (List.replicate 16 ((0 : UInt64)))) 24 ∧ ρ_ 2 = .func (.func 49) #[] #[] ∧ ρ_ 3 = .pointer (some ⟨b101, 0, none⟩) ∧ ρ_ 4 = .pointer (some ⟨b106, 0, none⟩) ∧ ρ_ 6 = .pointer (some ⟨b111, 0, none⟩) ∧ ρ_ 8 = .int .i64 x116 ∧ bits_each_bits_Union_1.l1 k a1 k_ x116 x117 = some z121) k (fun ρ_ w_ => ∃ (o_ : Tags), Fm o0 w0 o_ w_ [] ∧ Bk o_ w_ 10 b101 (List.map enc64 z121) 24 ∧ z121.length = 16 ∧ Bk o_ w_ 12 b111 (List.map enc64 (List.replicate 16 ((0 : UInt64)))) 24 ∧ ρ_ 3 = .pointer (some ⟨b101, 0, none⟩) ∧ ρ_ 6 = .pointer (some ⟨b111, 0, none⟩)) ⟨_, 0, a0, HF, hB105, hla0, hB110, hB115, rfl, rfl, rfl, rfl, rfl, hz121⟩ ?case122 ?_
  case case122 =>
    rintro ρ142 w143 ⟨o144, HF, hB105, hl120, hB115, s3_118, s6_118⟩
    refine WC.seq ?_
    refine WC.region ?_
    refine WL.ex rfl (ex_loadAV (xs := z121) s3_118 Tryd.underlying24 sz24 hl120 hB105) ?_
    refine WL.op rfl ?_
    refine OW.storeAV (ys := z121) s6_118 rfl (fun _ => rfl) sz24 rfl hl120 hB115 ?_
    intro w145 s146 hB147
    replace hB105 := hB105.step s146 rfl
    replace HF := HF.step s146 rfl
    refine WL.nil ?_
    refine WC.ret ?_
    obtain rfl := Option.some.inj H
    exact ⟨_, (.cell (.agg (List.map enc64 z121).toArray : Value) s6_118 (run_loadAV Tryd.underlying24 sz24 hl120 hB147) .nil), _, rfl, HF.out, hl120⟩
  have Ho123 := H
  rintro k124 ρ125 w126 ⟨o127, x116, x117, HF, hB105, hl118, hB110, hB115, s2_115, s3_115, s4_115, s6_115, s8_116, H⟩
  cases k124 with
  | zero => cases H
  | succ k124 =>
  rw [bits_each_bits_Union_1.l1.eq_2] at H
  refine WC.seq ?_
  refine WC.region ?_
  refine WL.ex rfl (ex_bin (a := .int .i64 x116) (b := .int .i64 16) (v := .bool (decide (x116 < 16))) s8_116 rfl bin_lss) ?_
  refine WL.nil ?_
  refine WC.seq ?_
  rcases condE H with ⟨c128, H⟩ | ⟨c128, H⟩
  ·
    refine WC.cond_t ((show _ = Value.bool (decide (x116 < 16)) from rfl).trans (congrArg Value.bool c128)) ?_
    refine WC.skip ?_
    refine WC.seq ?_
    refine WC.block ?_
    refine WC.seq ?_
    refine WC.region ?_
    refine WL.ex rfl (ex_move (v := .int .i64 x116) s8_116) ?_
    refine WL.ex rfl (ex_assign (v := .int .i64 x116) rfl) ?_
    refine WL.nil ?_
    refine WC.regionD' HF [10] 11 (by kernel_rfl) rfl ?_
    intro w129 s130
    replace hB105 := hB105.step s130 rfl
    replace hB110 := hB110.step s130 rfl
    replace hB115 := hB115.step s130 rfl
    replace HF := HF.step s130 rfl
    have hB105D := hB105
    have hB110D := hB110
    have hB115D := hB115
    have sR := HF.here [10]
    refine WA.norm (listed' := #[false, false, false, false, false, false, false, false, false, false, false]) (by kernel_rfl) ?_
    refine WA.ex 0 rfl (by kernel_rfl) (by kernel_rfl) (by kernel_rfl) rfl ⟨_, sR⟩ (fun w_ hS_ => ex_move (v := .int .i64 x116) rfl) ?_
    refine WA.norm (listed' := #[true, false, false, false, false, false, false, false, false, false, false]) (by kernel_rfl) ?_
    refine WA.ex 1 rfl (by kernel_rfl) (by kernel_rfl) (by kernel_rfl) rfl ⟨_, sR⟩ (fun w_ hS_ => ex_move (v := .func (.func 49) #[] #[]) s2_115) ?_
    refine WA.norm (listed' := #[true, true, false, false, false, false, false, false, false, false, false]) (by kernel_rfl) ?_
    refine WA.ex 2 rfl (by kernel_rfl) (by kernel_rfl) (by kernel_rfl) rfl ⟨_, sR⟩ (fun w_ hS_ => ex_move (v := .int .i64 x116) rfl) ?_
    refine WA.norm (listed' := #[true, true, true, false, false, false, false, false, false, false, false]) (by kernel_rfl) ?_
    obtain ⟨x131, hx131, H⟩ := bindE H
    refine WA.ex 3 rfl (by kernel_rfl) (by kernel_rfl) (by kernel_rfl) rfl ⟨_, sR⟩ (fun w_ hS_ => ex_indexArrB (i := x116) (xs := x117) s3_115 rfl Tryd.underlying24 sz22 hl118 hx131) ?_
    refine WA.norm (listed' := #[true, true, true, true, false, false, false, false, false, false, false]) (by kernel_rfl) ?_
    refine WA.ex 5 rfl (by kernel_rfl) (by kernel_rfl) (by kernel_rfl) rfl ⟨_, sR⟩ (fun w_ hS_ => ex_move (v := .int .i64 x116) rfl) ?_
    refine WA.norm (listed' := #[true, true, true, true, false, true, false, false, false, false, false]) (by kernel_rfl) ?_
    obtain ⟨x132, hx132, H⟩ := bindE H
    refine WA.ex 6 rfl (by kernel_rfl) (by kernel_rfl) (by kernel_rfl) rfl ⟨_, sR⟩ (fun w_ hS_ => ex_indexArrB (i := x116) (xs := a1) s4_115 rfl Tryd.underlying24 sz22 hla1 hx132) ?_
    refine WA.norm (listed' := #[true, true, true, true, false, true, true, false, false, false, false]) (by kernel_rfl) ?_
    refine WA.ex 7 rfl (by kernel_rfl) (by kernel_rfl) (by kernel_rfl) rfl ⟨_, sR⟩ (fun w_ hS_ => ex_loadAE (enc := enc64) rfl Tryd.underlying22 rfl (hB110D.step hS_.choose_spec rfl) hx132) ?_
    refine WA.norm (listed' := #[true, true, true, true, false, true, true, true, false, false, false]) (by kernel_rfl) ?_
    refine WA.one 4 (by kernel_rfl) rfl rfl ?_
    refine OW.ex rfl (ex_loadAE (enc := enc64) rfl Tryd.underlying22 rfl hB105 hx131) ?_
    refine ⟨⟨_, sR⟩, ?_⟩
    refine WA.norm (listed' := #[true, true, true, true, true, true, true, true, false, false, false]) (by kernel_rfl) ?_
    obtain ⟨z133, hz133, H⟩ := bindE H
    refine WA.one 8 (by kernel_rfl) rfl rfl ?_
    refine OW.callV (show ev _ _ = .func (.func 49) #[] #[] from rfl) [enc64 x131, enc64 x132] rfl Tryd.func49 (by kernel_rfl) (by kernel_rfl) (map_cons' rfl (map_cons' rfl rfl)) (bits_Union_1.calls _ _ x131 x132 z133 (HF.ten (V := [0]) (L := []) rfl)  hz133) ?_
    rintro _ w134 ⟨o135, rfl, s136⟩
    refine ⟨_, rfl, ?_⟩
    replace s136 := un_stepL (J := []) (L' := []) s136 rfl rfl
    replace hB105 := hB105.step s136 rfl
    replace hB110 := hB110.step s136 rfl
    replace hB115 := hB115.step s136 rfl
    replace HF := HF.step s136 rfl
    replace sR := Step.trans sR s136 (M := [10]) rfl rfl
    refine ⟨⟨_, sR⟩, ?_⟩
    refine WA.norm (listed' := #[true, true, true, true, true, true, true, true, true, false, false]) (by kernel_rfl) ?_
    obtain ⟨x137, hx137, H⟩ := bindE H
    refine WA.ex 9 rfl (by kernel_rfl) (by kernel_rfl) (by kernel_rfl) rfl ⟨_, sR⟩ (fun w_ hS_ => ex_indexArrB (i := x116) (xs := x117) s3_115 rfl Tryd.underlying24 sz22 hl118 hx137) ?_
    refine WA.norm (listed' := #[true, true, true, true, true, true, true, true, true, true, false]) (by kernel_rfl) ?_
    refine WA.one 10 (by kernel_rfl) rfl rfl ?_
    refine OW.storeAE (enc := enc64) (c := z133) rfl rfl (cells64) (fun _ => rfl) sz22 hB105 hx137 ?_
    intro w138 s139 hB140
    replace hB110 := hB110.step s139 rfl
    replace hB115 := hB115.step s139 rfl
    replace HF := HF.step s139 rfl
    replace sR := Step.trans sR s139 (M := [10]) rfl rfl
    have hl141 := len_set (i := x116.toNat) (a := z133) hl118
    refine ⟨⟨_, sR⟩, ?_⟩
    refine WA.norm (listed' := #[true, true, true, true, true, true, true, true, true, true, true]) (by kernel_rfl) ?_
    refine WA.done (by kernel_rfl) ?_
    refine WC.region ?_
    refine WL.ex rfl (ex_bin (a := .int .i64 x116) (b := .int .i64 1) (v := .int .i64 (wrap64 (x116 + 1))) s8_116 rfl bin_add64) ?_
    refine WL.ex rfl (ex_move (v := .int .i64 (wrap64 (x116 + 1))) rfl) ?_
    refine WL.nil ?_
    exact ⟨k124, Nat.lt_succ_self _, ⟨_, wrap64 (x116 + 1), (x117.set x116.toNat z133), HF, hB140, hl141, hB110, hB115, s2_115, s3_115, s4_115, s6_115, rfl, H⟩⟩
  ·
    refine WC.cond_f ((show _ = Value.bool (decide (x116 < 16)) from rfl).trans (congrArg Value.bool c128)) ?_
    refine WC.exit ?_
    obtain rfl := Option.some.inj H
    exact ⟨_, HF, hB105, hl118, hB115, s3_115, s6_115⟩

/-! ### bits_Union -/
set_option maxRecDepth 100000 in
theorem bits_Union.calls (k : Nat) (o0 : Tags) (w0 : World) (a0 : (List UInt64)) (a1 : (List UInt64)) (r : (List UInt64)) (hO : ∀ b, b < w0.heap.size → o0 b < 10) (hla0 : a0.length = 16) (hla1 : a1.length = 16) (H : bits_Union.f k a0 a1 = some r) :
    Calls Tryd.prog 15 [.agg (List.map enc64 a0).toArray, .agg (List.map enc64 a1).toArray].toArray w0 fun e_ w_ => ∃ (o_ : Tags), e_ = .returned (one [.agg (List.map enc64 r).toArray]) ∧ Step o0 w0 o_ w_ [] ∧ r.length = 16 := by
  have HF := Fm.refl hO []
  unfold bits_Union.f at H
  refine SX.calls [.agg (List.map enc64 a0).toArray, .agg (List.map enc64 a1).toArray] Tryd.func15 rfl rfl ?_
  rw [Tryd.ntmps15]
  refine WC.seq ?_
  refine WC.region ?_
  refine WL.op rfl ?_
  refine OW.box' (List.map enc64 a0) 10 HF rfl ((congrArg Value.cells (show ev _ _ = (.agg (List.map enc64 a0).toArray : Value) from rfl)).trans rfl) ?_
  intro o102 w103 b101 s104 hB105
  replace HF := HF.step s104 rfl
  refine WL.op rfl ?_
  refine OW.box' (List.map enc64 a1) 11 HF rfl ((congrArg Value.cells (show ev _ _ = (.agg (List.map enc64 a1).toArray : Value) from rfl)).trans rfl) ?_
  intro o107 w108 b106 s109 hB110
  replace hB105 := hB105.step s109 rfl
  replace HF := HF.step s109 rfl
  refine WL.op rfl ?_
  refine OW.alloc' (List.map enc64 (List.replicate 16 ((0 : UInt64)))) 12 HF rfl zr24 rfl ?_
  intro o112 w113 b111 s114 hB115
  replace hB105 := hB105.step s114 rfl
  replace hB110 := hB110.step s114 rfl
  replace HF := HF.step s114 rfl
  refine WL.nil ?_
  refine WC.seq ?_
  refine WC.region ?_
  refine WL.ex rfl (ex_loadAV (xs := a0) rfl Tryd.underlying24 sz24 hla0 hB105) ?_
  refine WL.ex rfl (ex_loadAV (xs := a1) rfl Tryd.underlying24 sz24 hla1 hB110) ?_
  obtain ⟨z116, hz116, H⟩ := bindE H
  refine WL.op rfl ?_
  refine OW.call [.agg (List.map enc64 a0).toArray, .agg (List.map enc64 a1).toArray, .func (.func 49) #[] #[]] rfl Tryd.func48 (by kernel_rfl) (by kernel_rfl) (map_cons' rfl (map_cons' rfl (map_cons' rfl rfl))) (bits_each_bits_Union_1.calls k _ _ a0 a1 z116 (HF.ten (V := [0]) (L := []) rfl) hla0 hla1 hz116) ?_
  rintro _ w117 ⟨o118, rfl, s119, hl120⟩
  refine ⟨_, rfl, ?_⟩
  replace s119 := un_stepL (J := []) (L' := []) s119 rfl rfl
  replace hB105 := hB105.step s119 rfl
  replace hB110 := hB110.step s119 rfl
  replace hB115 := hB115.step s119 rfl
  replace HF := HF.step s119 rfl
  refine WL.op rfl ?_
  refine OW.storeAV (ys := z116) rfl rfl (fun _ => rfl) sz24 rfl hl120 hB115 ?_
  intro w121 s122 hB123
  replace hB105 := hB105.step s122 rfl
  replace hB110 := hB110.step s122 rfl
  replace HF := HF.step s122 rfl
  refine WL.nil ?_
  refine WC.ret ?_
  obtain rfl := Option.some.inj H
  exact ⟨_, (.cell (.agg (List.map enc64 z116).toArray : Value) rfl (run_loadAV Tryd.underlying24 sz24 hl120 hB123) .nil), _, rfl, HF.out, hl120⟩

/-! ### bits_Put -/
set_option maxRecDepth 100000 in
theorem bits_Put.calls (k : Nat) (o0 : Tags) (w0 : World) (a0 : (List UInt64)) (a1 : Int) (r : (List UInt64) × Int) (hO : ∀ b, b < w0.heap.size → o0 b < 10) (hla0 : a0.length = 16) (H : bits_Put.f k a0 a1 = some r) :
    Calls Tryd.prog 30 [.agg (List.map enc64 a0).toArray, .int .i64 a1].toArray w0 fun e_ w_ => ∃ (o_ : Tags), e_ = .returned (one [.agg (List.map enc64 r.1).toArray, .int .i64 r.2]) ∧ Step o0 w0 o_ w_ [] ∧ r.1.length = 16 := by
  have HF := Fm.refl hO []
  unfold bits_Put.f at H
  refine SX.calls [.agg (List.map enc64 a0).toArray, .int .i64 a1] Tryd.func30 rfl rfl ?_
  rw [Tryd.ntmps30]
  refine WC.seq ?_
  refine WC.region ?_
  refine WL.op rfl ?_
  refine OW.box' (List.map enc64 a0) 10 HF rfl ((congrArg Value.cells (show ev _ _ = (.agg (List.map enc64 a0).toArray : Value) from rfl)).trans rfl) ?_
  intro o102 w103 b101 s104 hB105
  replace HF := HF.step s104 rfl
  refine WL.op rfl ?_
  refine OW.alloc' (List.map enc64 (List.replicate 16 ((0 : UInt64)))) 11 HF rfl zr24 rfl ?_
  intro o107 w108 b106 s109 hB110
  replace hB105 := hB105.step s109 rfl
  replace HF := HF.step s109 rfl
  refine WL.ex rfl (ex_assign (v := .int .i64 0) rfl) ?_
  refine WL.nil ?_
  refine WC.seq ?_
  refine WC.region ?_
  refine WL.ex rfl (ex_move (v := .int .i64 a1) rfl) ?_
  refine WL.op rfl ?_
  refine OW.row (r := (Rep.int .i64)) (xs := [a1]) [(0, .int .i64 a1)] [[.int .i64 a1]] 12 HF rfl Tryd.underlying38 sz3 zr3 rfl (evs_cons rfl rfl) rfl rfl ⟨rfl, trivial⟩ rfl rfl rfl rfl ?_
  intro o111 w112 v114 s113 hO115
  replace hB105 := hB105.step s113 rfl
  replace hB110 := hB110.step s113 rfl
  replace HF := HF.step s113 rfl
  obtain ⟨A116, c117, q118e, q118l, q118⟩ := Own.vwRow (V := [0, 12]) (L := []) hO115 rfl rfl
  obtain ⟨z119, hz119, H⟩ := bindE H
  have q118e' := q118e
  refine WL.op rfl ?_
  refine OW.call [v114] rfl Tryd.func28 (by kernel_rfl) (by kernel_rfl) (map_cons' rfl rfl) (by simp only [q118e]; exact (bits_Of.calls k _ _ A116 c117 [a1] z119 (HF.ten (V := [0, 12]) (L := []) rfl) q118 q118l hz119)) ?_
  rintro _ w120 ⟨o121, rfl, s122, hl123⟩
  refine ⟨_, rfl, ?_⟩
  replace s122 := un_stepL (J := []) (L' := []) s122 rfl rfl
  replace hB105 := hB105.step s122 rfl
  replace hB110 := hB110.step s122 rfl
  replace hO115 := hO115.step s122 rfl rfl
  replace HF := HF.step s122 rfl
  refine WL.ex rfl (ex_move (v := .tuple #[.agg (List.map enc64 z119.1).toArray, .int .i64 z119.2]) rfl) ?_
  refine WL.ex rfl (ex_extract (vs := #[.agg (List.map enc64 z119.1).toArray, .int .i64 z119.2]) (v := .agg (List.map enc64 z119.1).toArray) rfl rfl) ?_
  refine WL.ex rfl (ex_extract (vs := #[.agg (List.map enc64 z119.1).toArray, .int .i64 z119.2]) (v := .int .i64 z119.2) rfl rfl) ?_
  refine WL.op rfl ?_
  refine OW.alloc' (List.map enc64 (List.replicate 16 ((0 : UInt64)))) 13 HF rfl zr24 rfl ?_
  intro o125 w126 b124 s127 hB128
  replace hB105 := hB105.step s127 rfl
  replace hB110 := hB110.step s127 rfl
  replace hO115 := hO115.step s127 rfl rfl
  replace HF := HF.step s127 rfl
  refine WL.op rfl ?_
  refine OW.storeAV (ys := z119.1) rfl rfl (fun _ => rfl) sz24 rfl hl123 hB128 ?_
  intro w129 s130 hB131
  replace hB105 := hB105.step s130 rfl
  replace hB110 := hB110.step s130 rfl
  replace hO115 := hO115.step s130 rfl rfl
  replace HF := HF.step s130 rfl
  refine WL.ex rfl (ex_assign (v := .int .i64 z119.2) rfl) ?_
  refine WL.nil ?_
  refine WC.seq ?_
  refine WC.seq ?_
  refine WC.region ?_
  refine WL.ex rfl (ex_move (v := .int .i64 z119.2) rfl) ?_
  refine WL.ex rfl (ex_bin (a := .int .i64 z119.2) (b := .int .i64 0) (v := .bool (z119.2 != 0)) rfl rfl bin_neq) ?_
  refine WL.nil ?_
  rcases condE H with ⟨c132, H⟩ | ⟨c132, H⟩
  ·
    refine WC.cond_t ((show _ = Value.bool (z119.2 != 0) from rfl).trans (congrArg Value.bool c132)) ?_
    refine WC.seq ?_
    refine WC.region ?_
    refine WL.ex rfl (ex_buildArr (cs := List.map enc64 (List.replicate 16 ((0 : UInt64)))) [] [.int .u64 0, .int .u64 0, .int .u64 0, .int .u64 0, .int .u64 0, .int .u64 0, .int .u64 0, .int .u64 0, .int .u64 0, .int .u64 0, .int .u64 0, .int .u64 0, .int .u64 0, .int .u64 0, .int .u64 0, .int .u64 0] Tryd.underlying24 zr24 rfl sz22 rfl rfl) ?_
    refine WL.ex rfl (ex_move (v := .int .i64 z119.2) rfl) ?_
    refine WL.op rfl ?_
    refine OW.storeAV (ys := (List.replicate 16 ((0 : UInt64)))) rfl rfl (fun _ => rfl) sz24 rfl rfl hB110 ?_
    intro w133 s134 hB135
    replace hB105 := hB105.step s134 rfl
    replace hO115 := hO115.step s134 rfl rfl
    replace hB131 := hB131.step s134 rfl
    replace HF := HF.step s134 rfl
    refine WL.ex rfl (ex_assign (v := .int .i64 z119.2) rfl) ?_
    refine WL.nil ?_
    refine WC.ret ?_
    obtain rfl := Option.some.inj H
    exact ⟨_, (.cell (.agg (List.map enc64 (List.replicate 16 ((0 : UInt64)))).toArray : Value) rfl (run_loadAV Tryd.underlying24 sz24 rfl hB135) (.tmp (.int .i64 z119.2 : Value) rfl .nil)), _, rfl, HF.out, rfl⟩
  ·
    refine WC.cond_f ((show _ = Value.bool (z119.2 != 0) from rfl).trans (congrArg Value.bool c132)) ?_
    refine WC.skip ?_
    refine WC.seq ?_
    refine WC.region ?_
    refine WL.ex rfl (ex_loadAV (xs := a0) rfl Tryd.underlying24 sz24 hla0 hB105) ?_
    refine WL.ex rfl (ex_loadAV (xs := z119.1) rfl Tryd.underlying24 sz24 hl123 hB131) ?_
    obtain ⟨z136, hz136, H⟩ := bindE H
    refine WL.op rfl ?_
    refine OW.call [.agg (List.map enc64 a0).toArray, .agg (List.map enc64 z119.1).toArray] rfl Tryd.func15 (by kernel_rfl) (by kernel_rfl) (map_cons' rfl (map_cons' rfl rfl)) (bits_Union.calls k _ _ a0 z119.1 z136 (HF.ten (V := [0]) (L := []) rfl) hla0 hl123 hz136) ?_
    rintro _ w137 ⟨o138, rfl, s139, hl140⟩
    refine ⟨_, rfl, ?_⟩
    replace s139 := un_stepL (J := []) (L' := []) s139 rfl rfl
    replace hB105 := hB105.step s139 rfl
    replace hB110 := hB110.step s139 rfl
    replace hO115 := hO115.step s139 rfl rfl
    replace hB131 := hB131.step s139 rfl
    replace HF := HF.step s139 rfl
    refine WL.op rfl ?_
    refine OW.storeAV (ys := z136) rfl rfl (fun _ => rfl) sz24 rfl hl140 hB110 ?_
    intro w141 s142 hB143
    replace hB105 := hB105.step s142 rfl
    replace hO115 := hO115.step s142 rfl rfl
    replace hB131 := hB131.step s142 rfl
    replace HF := HF.step s142 rfl
    refine WL.ex rfl (ex_assign (v := .int .i64 0) rfl) ?_
    refine WL.nil ?_
    refine WC.ret ?_
    obtain rfl := Option.some.inj H
    exact ⟨_, (.cell (.agg (List.map enc64 z136).toArray : Value) rfl (run_loadAV Tryd.underlying24 sz24 hl140 hB143) (.tmp (.int .i64 0 : Value) rfl .nil)), _, rfl, HF.out, hl140⟩

/-! ### bits_OnesCount64 -/
set_option maxRecDepth 100000 in
theorem bits_OnesCount64.calls (o0 : Tags) (w0 : World) (a0 : UInt64) (r : Int) (hO : ∀ b, b < w0.heap.size → o0 b < 10) (H : bits_OnesCount64.f a0 = some r) :
    Calls Tryd.prog 52 [enc64 a0].toArray w0 fun e_ w_ => ∃ (o_ : Tags), e_ = .returned (one [.int .i64 r]) ∧ Step o0 w0 o_ w_ [] := by
  have HF := Fm.refl hO []
  unfold bits_OnesCount64.f at H
  refine SX.calls [enc64 a0] Tryd.func52 rfl rfl ?_
  rw [Tryd.ntmps52]
  refine WC.seq ?_
  refine WC.region ?_
  refine WL.ex rfl (ex_assign (v := .int .i64 0) rfl) ?_
  refine WL.nil ?_
  refine WC.seq ?_
  refine WC.region ?_
  refine WL.ex rfl (ex_move (v := enc64 a0) rfl) ?_
  refine WL.ex rfl (ex_bin (a := enc64 a0) (b := enc64 (1 : UInt64)) (v := enc64 (shr64 a0 1)) rfl rfl (bin_shr_u64n (n := 1))) ?_
  refine WL.ex rfl (ex_bin (a := enc64 (shr64 a0 1)) (b := enc64 (6148914691236517205 : UInt64)) (v := enc64 ((shr64 a0 1) &&& (6148914691236517205 : UInt64))) rfl rfl bin_and_u64) ?_
  refine WL.ex rfl (ex_move (v := enc64 a0) rfl) ?_
  refine WL.ex rfl (ex_bin (a := enc64 a0) (b := enc64 (6148914691236517205 : UInt64)) (v := enc64 (a0 &&& (6148914691236517205 : UInt64))) rfl rfl bin_and_u64) ?_
  refine WL.ex rfl (ex_bin (a := enc64 ((shr64 a0 1) &&& (6148914691236517205 : UInt64))) (b := enc64 (a0 &&& (6148914691236517205 : UInt64))) (v := enc64 (((shr64 a0 1) &&& (6148914691236517205 : UInt64)) + (a0 &&& (6148914691236517205 : UInt64)))) rfl rfl bin_add_u64) ?_
  refine WL.ex rfl (ex_assign (v := enc64 (((shr64 a0 1) &&& (6148914691236517205 : UInt64)) + (a0 &&& (6148914691236517205 : UInt64)))) rfl) ?_
  refine WL.nil ?_
  refine WC.seq ?_
  refine WC.region ?_
  refine WL.ex rfl (ex_move (v := enc64 (((shr64 a0 1) &&& (6148914691236517205 : UInt64)) + (a0 &&& (6148914691236517205 : UInt64)))) rfl) ?_
  refine WL.ex rfl (ex_bin (a := enc64 (((shr64 a0 1) &&& (6148914691236517205 : UInt64)) + (a0 &&& (6148914691236517205 : UInt64)))) (b := enc64 (2 : UInt64)) (v := enc64 (shr64 (((shr64 a0 1) &&& (6148914691236517205 : UInt64)) + (a0 &&& (6148914691236517205 : UInt64))) 2)) rfl rfl (bin_shr_u64n (n := 2))) ?_
  refine WL.ex rfl (ex_bin (a := enc64 (shr64 (((shr64 a0 1) &&& (6148914691236517205 : UInt64)) + (a0 &&& (6148914691236517205 : UInt64))) 2)) (b := enc64 (3689348814741910323 : UInt64)) (v := enc64 ((shr64 (((shr64 a0 1) &&& (6148914691236517205 : UInt64)) + (a0 &&& (6148914691236517205 : UInt64))) 2) &&& (3689348814741910323 : UInt64))) rfl rfl bin_and_u64) ?_
  refine WL.ex rfl (ex_move (v := enc64 (((shr64 a0 1) &&& (6148914691236517205 : UInt64)) + (a0 &&& (6148914691236517205 : UInt64)))) rfl) ?_
  refine WL.ex rfl (ex_bin (a := enc64 (((shr64 a0 1) &&& (6148914691236517205 : UInt64)) + (a0 &&& (6148914691236517205 : UInt64)))) (b := enc64 (3689348814741910323 : UInt64)) (v := enc64 ((((shr64 a0 1) &&& (6148914691236517205 : UInt64)) + (a0 &&& (6148914691236517205 : UInt64))) &&& (3689348814741910323 : UInt64))) rfl rfl bin_and_u64) ?_
  refine WL.ex rfl (ex_bin (a := enc64 ((shr64 (((shr64 a0 1) &&& (6148914691236517205 : UInt64)) + (a0 &&& (6148914691236517205 : UInt64))) 2) &&& (3689348814741910323 : UInt64))) (b := enc64 ((((shr64 a0 1) &&& (6148914691236517205 : UInt64)) + (a0 &&& (6148914691236517205 : UInt64))) &&& (3689348814741910323 : UInt64))) (v := enc64 (((shr64 (((shr64 a0 1) &&& (6148914691236517205 : UInt64)) + (a0 &&& (6148914691236517205 : UInt64))) 2) &&& (3689348814741910323 : UInt64)) + ((((shr64 a0 1) &&& (6148914691236517205 : UInt64)) + (a0 &&& (6148914691236517205 : UInt64))) &&& (3689348814741910323 : UInt64)))) rfl rfl bin_add_u64) ?_
  refine WL.ex rfl (ex_assign (v := enc64 (((shr64 (((shr64 a0 1) &&& (6148914691236517205 : UInt64)) + (a0 &&& (6148914691236517205 : UInt64))) 2) &&& (3689348814741910323 : UInt64)) + ((((shr64 a0 1) &&& (6148914691236517205 : UInt64)) + (a0 &&& (6148914691236517205 : UInt64))) &&& (3689348814741910323 : UInt64)))) rfl) ?_
  refine WL.nil ?_
  refine WC.seq ?_
  refine WC.region ?_
  refine WL.ex rfl (ex_move (v := enc64 (((shr64 (((shr64 a0 1) &&& (6148914691236517205 : UInt64)) + (a0 &&& (6148914691236517205 : UInt64))) 2) &&& (3689348814741910323 : UInt64)) + ((((shr64 a0 1) &&& (6148914691236517205 : UInt64)) + (a0 &&& (6148914691236517205 : UInt64))) &&& (3689348814741910323 : UInt64)))) rfl) ?_
  refine WL.ex rfl (ex_bin (a := enc64 (((shr64 (((shr64 a0 1) &&& (6148914691236517205 : UInt64)) + (a0 &&& (6148914691236517205 : UInt64))) 2) &&& (3689348814741910323 : UInt64)) + ((((shr64 a0 1) &&& (6148914691236517205 : UInt64)) + (a0 &&& (6148914691236517205 : UInt64))) &&& (3689348814741910323 : UInt64)))) (b := enc64 (4 : UInt64)) (v := enc64 (shr64 (((shr64 (((shr64 a0 1) &&& (6148914691236517205 : UInt64)) + (a0 &&& (6148914691236517205 : UInt64))) 2) &&& (3689348814741910323 : UInt64)) + ((((shr64 a0 1) &&& (6148914691236517205 : UInt64)) + (a0 &&& (6148914691236517205 : UInt64))) &&& (3689348814741910323 : UInt64))) 4)) rfl rfl (bin_shr_u64n (n := 4))) ?_
  refine WL.ex rfl (ex_move (v := enc64 (((shr64 (((shr64 a0 1) &&& (6148914691236517205 : UInt64)) + (a0 &&& (6148914691236517205 : UInt64))) 2) &&& (3689348814741910323 : UInt64)) + ((((shr64 a0 1) &&& (6148914691236517205 : UInt64)) + (a0 &&& (6148914691236517205 : UInt64))) &&& (3689348814741910323 : UInt64)))) rfl) ?_
  refine WL.ex rfl (ex_bin (a := enc64 (shr64 (((shr64 (((shr64 a0 1) &&& (6148914691236517205 : UInt64)) + (a0 &&& (6148914691236517205 : UInt64))) 2) &&& (3689348814741910323 : UInt64)) + ((((shr64 a0 1) &&& (6148914691236517205 : UInt64)) + (a0 &&& (6148914691236517205 : UInt64))) &&& (3689348814741910323 : UInt64))) 4)) (b := enc64 (((shr64 (((shr64 a0 1) &&& (6148914691236517205 : UInt64)) + (a0 &&& (6148914691236517205 : UInt64))) 2) &&& (3689348814741910323 : UInt64)) + ((((shr64 a0 1) &&& (6148914691236517205 : UInt64)) + (a0 &&& (6148914691236517205 : UInt64))) &&& (3689348814741910323 : UInt64)))) (v := enc64 ((shr64 (((shr64 (((shr64 a0 1) &&& (6148914691236517205 : UInt64)) + (a0 &&& (6148914691236517205 : UInt64))) 2) &&& (3689348814741910323 : UInt64)) + ((((shr64 a0 1) &&& (6148914691236517205 : UInt64)) + (a0 &&& (6148914691236517205 : UInt64))) &&& (3689348814741910323 : UInt64))) 4) + (((shr64 (((shr64 a0 1) &&& (6148914691236517205 : UInt64)) + (a0 &&& (6148914691236517205 : UInt64))) 2) &&& (3689348814741910323 : UInt64)) + ((((shr64 a0 1) &&& (6148914691236517205 : UInt64)) + (a0 &&& (6148914691236517205 : UInt64))) &&& (3689348814741910323 : UInt64))))) rfl rfl bin_add_u64) ?_
  refine WL.ex rfl (ex_bin (a := enc64 ((shr64 (((shr64 (((shr64 a0 1) &&& (6148914691236517205 : UInt64)) + (a0 &&& (6148914691236517205 : UInt64))) 2) &&& (3689348814741910323 : UInt64)) + ((((shr64 a0 1) &&& (6148914691236517205 : UInt64)) + (a0 &&& (6148914691236517205 : UInt64))) &&& (3689348814741910323 : UInt64))) 4) + (((shr64 (((shr64 a0 1) &&& (6148914691236517205 : UInt64)) + (a0 &&& (6148914691236517205 : UInt64))) 2) &&& (3689348814741910323 : UInt64)) + ((((shr64 a0 1) &&& (6148914691236517205 : UInt64)) + (a0 &&& (6148914691236517205 : UInt64))) &&& (3689348814741910323 : UInt64))))) (b := enc64 (1085102592571150095 : UInt64)) (v := enc64 (((shr64 (((shr64 (((shr64 a0 1) &&& (6148914691236517205 : UInt64)) + (a0 &&& (6148914691236517205 : UInt64))) 2) &&& (3689348814741910323 : UInt64)) + ((((shr64 a0 1) &&& (6148914691236517205 : UInt64)) + (a0 &&& (6148914691236517205 : UInt64))) &&& (3689348814741910323 : UInt64))) 4) + (((shr64 (((shr64 a0 1) &&& (6148914691236517205 : UInt64)) + (a0 &&& (6148914691236517205 : UInt64))) 2) &&& (3689348814741910323 : UInt64)) + ((((shr64 a0 1) &&& (6148914691236517205 : UInt64)) + (a0 &&& (6148914691236517205 : UInt64))) &&& (3689348814741910323 : UInt64)))) &&& (1085102592571150095 : UInt64))) rfl rfl bin_and_u64) ?_
  refine WL.ex rfl (ex_assign (v := enc64 (((shr64 (((shr64 (((shr64 a0 1) &&& (6148914691236517205 : UInt64)) + (a0 &&& (6148914691236517205 : UInt64))) 2) &&& (3689348814741910323 : UInt64)) + ((((shr64 a0 1) &&& (6148914691236517205 : UInt64)) + (a0 &&& (6148914691236517205 : UInt64))) &&& (3689348814741910323 : UInt64))) 4) + (((shr64 (((shr64 a0 1) &&& (6148914691236517205 : UInt64)) + (a0 &&& (6148914691236517205 : UInt64))) 2) &&& (3689348814741910323 : UInt64)) + ((((shr64 a0 1) &&& (6148914691236517205 : UInt64)) + (a0 &&& (6148914691236517205 : UInt64))) &&& (3689348814741910323 : UInt64)))) &&& (1085102592571150095 : UInt64))) rfl) ?_
  refine WL.nil ?_
  refine WC.seq ?_
  refine WC.region ?_
  refine WL.ex rfl (ex_move (v := enc64 (((shr64 (((shr64 (((shr64 a0 1) &&& (6148914691236517205 : UInt64)) + (a0 &&& (6148914691236517205 : UInt64))) 2) &&& (3689348814741910323 : UInt64)) + ((((shr64 a0 1) &&& (6148914691236517205 : UInt64)) + (a0 &&& (6148914691236517205 : UInt64))) &&& (3689348814741910323 : UInt64))) 4) + (((shr64 (((shr64 a0 1) &&& (6148914691236517205 : UInt64)) + (a0 &&& (6148914691236517205 : UInt64))) 2) &&& (3689348814741910323 : UInt64)) + ((((shr64 a0 1) &&& (6148914691236517205 : UInt64)) + (a0 &&& (6148914691236517205 : UInt64))) &&& (3689348814741910323 : UInt64)))) &&& (1085102592571150095 : UInt64))) rfl) ?_
  refine WL.ex rfl (ex_move (v := enc64 (((shr64 (((shr64 (((shr64 a0 1) &&& (6148914691236517205 : UInt64)) + (a0 &&& (6148914691236517205 : UInt64))) 2) &&& (3689348814741910323 : UInt64)) + ((((shr64 a0 1) &&& (6148914691236517205 : UInt64)) + (a0 &&& (6148914691236517205 : UInt64))) &&& (3689348814741910323 : UInt64))) 4) + (((shr64 (((shr64 a0 1) &&& (6148914691236517205 : UInt64)) + (a0 &&& (6148914691236517205 : UInt64))) 2) &&& (3689348814741910323 : UInt64)) + ((((shr64 a0 1) &&& (6148914691236517205 : UInt64)) + (a0 &&& (6148914691236517205 : UInt64))) &&& (3689348814741910323 : UInt64)))) &&& (1085102592571150095 : UInt64))) rfl) ?_
  refine WL.ex rfl (ex_bin (a := enc64 (((shr64 (((shr64 (((shr64 a0 1) &&& (6148914691236517205 : UInt64)) + (a0 &&& (6148914691236517205 : UInt64))) 2) &&& (3689348814741910323 : UInt64)) + ((((shr64 a0 1) &&& (6148914691236517205 : UInt64)) + (a0 &&& (6148914691236517205 : UInt64))) &&& (3689348814741910323 : UInt64))) 4) + (((shr64 (((shr64 a0 1) &&& (6148914691236517205 : UInt64)) + (a0 &&& (6148914691236517205 : UInt64))) 2) &&& (3689348814741910323 : UInt64)) + ((((shr64 a0 1) &&& (6148914691236517205 : UInt64)) + (a0 &&& (6148914691236517205 : UInt64))) &&& (3689348814741910323 : UInt64)))) &&& (1085102592571150095 : UInt64))) (b := enc64 (8 : UInt64)) (v := enc64 (shr64 (((shr64 (((shr64 (((shr64 a0 1) &&& (6148914691236517205 : UInt64)) + (a0 &&& (6148914691236517205 : UInt64))) 2) &&& (3689348814741910323 : UInt64)) + ((((shr64 a0 1) &&& (6148914691236517205 : UInt64)) + (a0 &&& (6148914691236517205 : UInt64))) &&& (3689348814741910323 : UInt64))) 4) + (((shr64 (((shr64 a0 1) &&& (6148914691236517205 : UInt64)) + (a0 &&& (6148914691236517205 : UInt64))) 2) &&& (3689348814741910323 : UInt64)) + ((((shr64 a0 1) &&& (6148914691236517205 : UInt64)) + (a0 &&& (6148914691236517205 : UInt64))) &&& (3689348814741910323 : UInt64)))) &&& (1085102592571150095 : UInt64)) 8)) rfl rfl (bin_shr_u64n (n := 8))) ?_
  refine WL.ex rfl (ex_bin (a := enc64 (((shr64 (((shr64 (((shr64 a0 1) &&& (6148914691236517205 : UInt64)) + (a0 &&& (6148914691236517205 : UInt64))) 2) &&& (3689348814741910323 : UInt64)) + ((((shr64 a0 1) &&& (6148914691236517205 : UInt64)) + (a0 &&& (6148914691236517205 : UInt64))) &&& (3689348814741910323 : UInt64))) 4) + (((shr64 (((shr64 a0 1) &&& (6148914691236517205 : UInt64)) + (a0 &&& (6148914691236517205 : UInt64))) 2) &&& (3689348814741910323 : UInt64)) + ((((shr64 a0 1) &&& (6148914691236517205 : UInt64)) + (a0 &&& (6148914691236517205 : UInt64))) &&& (3689348814741910323 : UInt64)))) &&& (1085102592571150095 : UInt64))) (b := enc64 (shr64 (((shr64 (((shr64 (((shr64 a0 1) &&& (6148914691236517205 : UInt64)) + (a0 &&& (6148914691236517205 : UInt64))) 2) &&& (3689348814741910323 : UInt64)) + ((((shr64 a0 1) &&& (6148914691236517205 : UInt64)) + (a0 &&& (6148914691236517205 : UInt64))) &&& (3689348814741910323 : UInt64))) 4) + (((shr64 (((shr64 a0 1) &&& (6148914691236517205 : UInt64)) + (a0 &&& (6148914691236517205 : UInt64))) 2) &&& (3689348814741910323 : UInt64)) + ((((shr64 a0 1) &&& (6148914691236517205 : UInt64)) + (a0 &&& (6148914691236517205 : UInt64))) &&& (3689348814741910323 : UInt64)))) &&& (1085102592571150095 : UInt64)) 8)) (v := enc64 ((((shr64 (((shr64 (((shr64 a0 1) &&& (6148914691236517205 : UInt64)) + (a0 &&& (6148914691236517205 : UInt64))) 2) &&& (3689348814741910323 : UInt64)) + ((((shr64 a0 1) &&& (6148914691236517205 : UInt64)) + (a0 &&& (6148914691236517205 : UInt64))) &&& (3689348814741910323 : UInt64))) 4) + (((shr64 (((shr64 a0 1) &&& (6148914691236517205 : UInt64)) + (a0 &&& (6148914691236517205 : UInt64))) 2) &&& (3689348814741910323 : UInt64)) + ((((shr64 a0 1) &&& (6148914691236517205 : UInt64)) + (a0 &&& (6148914691236517205 : UInt64))) &&& (3689348814741910323 : UInt64)))) &&& (1085102592571150095 : UInt64)) + (shr64 (((shr64 (((shr64 (((shr64 a0 1) &&& (6148914691236517205 : UInt64)) + (a0 &&& (6148914691236517205 : UInt64))) 2) &&& (3689348814741910323 : UInt64)) + ((((shr64 a0 1) &&& (6148914691236517205 : UInt64)) + (a0 &&& (6148914691236517205 : UInt64))) &&& (3689348814741910323 : UInt64))) 4) + (((shr64 (((shr64 a0 1) &&& (6148914691236517205 : UInt64)) + (a0 &&& (6148914691236517205 : UInt64))) 2) &&& (3689348814741910323 : UInt64)) + ((((shr64 a0 1) &&& (6148914691236517205 : UInt64)) + (a0 &&& (6148914691236517205 : UInt64))) &&& (3689348814741910323 : UInt64)))) &&& (1085102592571150095 : UInt64)) 8))) rfl rfl bin_add_u64) ?_
  refine WL.ex rfl (ex_assign (v := enc64 ((((shr64 (((shr64 (((shr64 a0 1) &&& (6148914691236517205 : UInt64)) + (a0 &&& (6148914691236517205 : UInt64))) 2) &&& (3689348814741910323 : UInt64)) + ((((shr64 a0 1) &&& (6148914691236517205 : UInt64)) + (a0 &&& (6148914691236517205 : UInt64))) &&& (3689348814741910323 : UInt64))) 4) + (((shr64 (((shr64 a0 1) &&& (6148914691236517205 : UInt64)) + (a0 &&& (6148914691236517205 : UInt64))) 2) &&& (3689348814741910323 : UInt64)) + ((((shr64 a0 1) &&& (6148914691236517205 : UInt64)) + (a0 &&& (6148914691236517205 : UInt64))) &&& (3689348814741910323 : UInt64)))) &&& (1085102592571150095 : UInt64)) + (shr64 (((shr64 (((shr64 (((shr64 a0 1) &&& (6148914691236517205 : UInt64)) + (a0 &&& (6148914691236517205 : UInt64))) 2) &&& (3689348814741910323 : UInt64)) + ((((shr64 a0 1) &&& (6148914691236517205 : UInt64)) + (a0 &&& (6148914691236517205 : UInt64))) &&& (3689348814741910323 : UInt64))) 4) + (((shr64 (((shr64 a0 1) &&& (6148914691236517205 : UInt64)) + (a0 &&& (6148914691236517205 : UInt64))) 2) &&& (3689348814741910323 : UInt64)) + ((((shr64 a0 1) &&& (6148914691236517205 : UInt64)) + (a0 &&& (6148914691236517205 : UInt64))) &&& (3689348814741910323 : UInt64)))) &&& (1085102592571150095 : UInt64)) 8))) rfl) ?_
  refine WL.nil ?_
  refine WC.seq ?_
  refine WC.region ?_
  refine WL.ex rfl (ex_move (v := enc64 ((((shr64 (((shr64 (((shr64 a0 1) &&& (6148914691236517205 : UInt64)) + (a0 &&& (6148914691236517205 : UInt64))) 2) &&& (3689348814741910323 : UInt64)) + ((((shr64 a0 1) &&& (6148914691236517205 : UInt64)) + (a0 &&& (6148914691236517205 : UInt64))) &&& (3689348814741910323 : UInt64))) 4) + (((shr64 (((shr64 a0 1) &&& (6148914691236517205 : UInt64)) + (a0 &&& (6148914691236517205 : UInt64))) 2) &&& (3689348814741910323 : UInt64)) + ((((shr64 a0 1) &&& (6148914691236517205 : UInt64)) + (a0 &&& (6148914691236517205 : UInt64))) &&& (3689348814741910323 : UInt64)))) &&& (1085102592571150095 : UInt64)) + (shr64 (((shr64 (((shr64 (((shr64 a0 1) &&& (6148914691236517205 : UInt64)) + (a0 &&& (6148914691236517205 : UInt64))) 2) &&& (3689348814741910323 : UInt64)) + ((((shr64 a0 1) &&& (6148914691236517205 : UInt64)) + (a0 &&& (6148914691236517205 : UInt64))) &&& (3689348814741910323 : UInt64))) 4) + (((shr64 (((shr64 a0 1) &&& (6148914691236517205 : UInt64)) + (a0 &&& (6148914691236517205 : UInt64))) 2) &&& (3689348814741910323 : UInt64)) + ((((shr64 a0 1) &&& (6148914691236517205 : UInt64)) + (a0 &&& (6148914691236517205 : UInt64))) &&& (3689348814741910323 : UInt64)))) &&& (1085102592571150095 : UInt64)) 8))) rfl) ?_
  refine WL.ex rfl (ex_move (v := enc64 ((((shr64 (((shr64 (((shr64 a0 1) &&& (6148914691236517205 : UInt64)) + (a0 &&& (6148914691236517205 : UInt64))) 2) &&& (3689348814741910323 : UInt64)) + ((((shr64 a0 1) &&& (6148914691236517205 : UInt64)) + (a0 &&& (6148914691236517205 : UInt64))) &&& (3689348814741910323 : UInt64))) 4) + (((shr64 (((shr64 a0 1) &&& (6148914691236517205 : UInt64)) + (a0 &&& (6148914691236517205 : UInt64))) 2) &&& (3689348814741910323 : UInt64)) + ((((shr64 a0 1) &&& (6148914691236517205 : UInt64)) + (a0 &&& (6148914691236517205 : UInt64))) &&& (3689348814741910323 : UInt64)))) &&& (1085102592571150095 : UInt64)) + (shr64 (((shr64 (((shr64 (((shr64 a0 1) &&& (6148914691236517205 : UInt64)) + (a0 &&& (6148914691236517205 : UInt64))) 2) &&& (3689348814741910323 : UInt64)) + ((((shr64 a0 1) &&& (6148914691236517205 : UInt64)) + (a0 &&& (6148914691236517205 : UInt64))) &&& (3689348814741910323 : UInt64))) 4) + (((shr64 (((shr64 a0 1) &&& (6148914691236517205 : UInt64)) + (a0 &&& (6148914691236517205 : UInt64))) 2) &&& (3689348814741910323 : UInt64)) + ((((shr64 a0 1) &&& (6148914691236517205 : UInt64)) + (a0 &&& (6148914691236517205 : UInt64))) &&& (3689348814741910323 : UInt64)))) &&& (1085102592571150095 : UInt64)) 8))) rfl) ?_
  refine WL.ex rfl (ex_bin (a := enc64 ((((shr64 (((shr64 (((shr64 a0 1) &&& (6148914691236517205 : UInt64)) + (a0 &&& (6148914691236517205 : UInt64))) 2) &&& (3689348814741910323 : UInt64)) + ((((shr64 a0 1) &&& (6148914691236517205 : UInt64)) + (a0 &&& (6148914691236517205 : UInt64))) &&& (3689348814741910323 : UInt64))) 4) + (((shr64 (((shr64 a0 1) &&& (6148914691236517205 : UInt64)) + (a0 &&& (6148914691236517205 : UInt64))) 2) &&& (3689348814741910323 : UInt64)) + ((((shr64 a0 1) &&& (6148914691236517205 : UInt64)) + (a0 &&& (6148914691236517205 : UInt64))) &&& (3689348814741910323 : UInt64)))) &&& (1085102592571150095 : UInt64)) + (shr64 (((shr64 (((shr64 (((shr64 a0 1) &&& (6148914691236517205 : UInt64)) + (a0 &&& (6148914691236517205 : UInt64))) 2) &&& (3689348814741910323 : UInt64)) + ((((shr64 a0 1) &&& (6148914691236517205 : UInt64)) + (a0 &&& (6148914691236517205 : UInt64))) &&& (3689348814741910323 : UInt64))) 4) + (((shr64 (((shr64 a0 1) &&& (6148914691236517205 : UInt64)) + (a0 &&& (6148914691236517205 : UInt64))) 2) &&& (3689348814741910323 : UInt64)) + ((((shr64 a0 1) &&& (6148914691236517205 : UInt64)) + (a0 &&& (6148914691236517205 : UInt64))) &&& (3689348814741910323 : UInt64)))) &&& (1085102592571150095 : UInt64)) 8))) (b := enc64 (16 : UInt64)) (v := enc64 (shr64 ((((shr64 (((shr64 (((shr64 a0 1) &&& (6148914691236517205 : UInt64)) + (a0 &&& (6148914691236517205 : UInt64))) 2) &&& (3689348814741910323 : UInt64)) + ((((shr64 a0 1) &&& (6148914691236517205 : UInt64)) + (a0 &&& (6148914691236517205 : UInt64))) &&& (3689348814741910323 : UInt64))) 4) + (((shr64 (((shr64 a0 1) &&& (6148914691236517205 : UInt64)) + (a0 &&& (6148914691236517205 : UInt64))) 2) &&& (3689348814741910323 : UInt64)) + ((((shr64 a0 1) &&& (6148914691236517205 : UInt64)) + (a0 &&& (6148914691236517205 : UInt64))) &&& (3689348814741910323 : UInt64)))) &&& (1085102592571150095 : UInt64)) + (shr64 (((shr64 (((shr64 (((shr64 a0 1) &&& (6148914691236517205 : UInt64)) + (a0 &&& (6148914691236517205 : UInt64))) 2) &&& (3689348814741910323 : UInt64)) + ((((shr64 a0 1) &&& (6148914691236517205 : UInt64)) + (a0 &&& (6148914691236517205 : UInt64))) &&& (3689348814741910323 : UInt64))) 4) + (((shr64 (((shr64 a0 1) &&& (6148914691236517205 : UInt64)) + (a0 &&& (6148914691236517205 : UInt64))) 2) &&& (3689348814741910323 : UInt64)) + ((((shr64 a0 1) &&& (6148914691236517205 : UInt64)) + (a0 &&& (6148914691236517205 : UInt64))) &&& (3689348814741910323 : UInt64)))) &&& (1085102592571150095 : UInt64)) 8)) 16)) rfl rfl (bin_shr_u64n (n := 16))) ?_
  refine WL.ex rfl (ex_bin (a := enc64 ((((shr64 (((shr64 (((shr64 a0 1) &&& (6148914691236517205 : UInt64)) + (a0 &&& (6148914691236517205 : UInt64))) 2) &&& (3689348814741910323 : UInt64)) + ((((shr64 a0 1) &&& (6148914691236517205 : UInt64)) + (a0 &&& (6148914691236517205 : UInt64))) &&& (3689348814741910323 : UInt64))) 4) + (((shr64 (((shr64 a0 1) &&& (6148914691236517205 : UInt64)) + (a0 &&& (6148914691236517205 : UInt64))) 2) &&& (3689348814741910323 : UInt64)) + ((((shr64 a0 1) &&& (6148914691236517205 : UInt64)) + (a0 &&& (6148914691236517205 : UInt64))) &&& (3689348814741910323 : UInt64)))) &&& (1085102592571150095 : UInt64)) + (shr64 (((shr64 (((shr64 (((shr64 a0 1) &&& (6148914691236517205 : UInt64)) + (a0 &&& (6148914691236517205 : UInt64))) 2) &&& (3689348814741910323 : UInt64)) + ((((shr64 a0 1) &&& (6148914691236517205 : UInt64)) + (a0 &&& (6148914691236517205 : UInt64))) &&& (3689348814741910323 : UInt64))) 4) + (((shr64 (((shr64 a0 1) &&& (6148914691236517205 : UInt64)) + (a0 &&& (6148914691236517205 : UInt64))) 2) &&& (3689348814741910323 : UInt64)) + ((((shr64 a0 1) &&& (6148914691236517205 : UInt64)) + (a0 &&& (6148914691236517205 : UInt64))) &&& (3689348814741910323 : UInt64)))) &&& (1085102592571150095 : UInt64)) 8))) (b := enc64 (shr64 ((((shr64 (((shr64 (((shr64 a0 1) &&& (6148914691236517205 : UInt64)) + (a0 &&& (6148914691236517205 : UInt64))) 2) &&& (3689348814741910323 : UInt64)) + ((((shr64 a0 1) &&& (6148914691236517205 : UInt64)) + (a0 &&& (6148914691236517205 : UInt64))) &&& (3689348814741910323 : UInt64))) 4) + (((shr64 (((shr64 a0 1) &&& (6148914691236517205 : UInt64)) + (a0 &&& (6148914691236517205 : UInt64))) 2) &&& (3689348814741910323 : UInt64)) + ((((shr64 a0 1) &&& (6148914691236517205 : UInt64)) + (a0 &&& (6148914691236517205 : UInt64))) &&& (3689348814741910323 : UInt64)))) &&& (1085102592571150095 : UInt64)) + (shr64 (((shr64 (((shr64 (((shr64 a0 1) &&& (6148914691236517205 : UInt64)) + (a0 &&& (6148914691236517205 : UInt64))) 2) &&& (3689348814741910323 : UInt64)) + ((((shr64 a0 1) &&& (6148914691236517205 : UInt64)) + (a0 &&& (6148914691236517205 : UInt64))) &&& (3689348814741910323 : UInt64))) 4) + (((shr64 (((shr64 a0 1) &&& (6148914691236517205 : UInt64)) + (a0 &&& (6148914691236517205 : UInt64))) 2) &&& (3689348814741910323 : UInt64)) + ((((shr64 a0 1) &&& (6148914691236517205 : UInt64)) + (a0 &&& (6148914691236517205 : UInt64))) &&& (3689348814741910323 : UInt64)))) &&& (1085102592571150095 : UInt64)) 8)) 16)) (v := enc64 (((((shr64 (((shr64 (((shr64 a0 1) &&& (6148914691236517205 : UInt64)) + (a0 &&& (6148914691236517205 : UInt64))) 2) &&& (3689348814741910323 : UInt64)) + ((((shr64 a0 1) &&& (6148914691236517205 : UInt64)) + (a0 &&& (6148914691236517205 : UInt64))) &&& (3689348814741910323 : UInt64))) 4) + (((shr64 (((shr64 a0 1) &&& (6148914691236517205 : UInt64)) + (a0 &&& (6148914691236517205 : UInt64))) 2) &&& (3689348814741910323 : UInt64)) + ((((shr64 a0 1) &&& (6148914691236517205 : UInt64)) + (a0 &&& (6148914691236517205 : UInt64))) &&& (3689348814741910323 : UInt64)))) &&& (1085102592571150095 : UInt64)) + (shr64 (((shr64 (((shr64 (((shr64 a0 1) &&& (6148914691236517205 : UInt64)) + (a0 &&& (6148914691236517205 : UInt64))) 2) &&& (3689348814741910323 : UInt64)) + ((((shr64 a0 1) &&& (6148914691236517205 : UInt64)) + (a0 &&& (6148914691236517205 : UInt64))) &&& (3689348814741910323 : UInt64))) 4) + (((shr64 (((shr64 a0 1) &&& (6148914691236517205 : UInt64)) + (a0 &&& (6148914691236517205 : UInt64))) 2) &&& (3689348814741910323 : UInt64)) + ((((shr64 a0 1) &&& (6148914691236517205 : UInt64)) + (a0 &&& (6148914691236517205 : UInt64))) &&& (3689348814741910323 : UInt64)))) &&& (1085102592571150095 : UInt64)) 8)) + (shr64 ((((shr64 (((shr64 (((shr64 a0 1) &&& (6148914691236517205 : UInt64)) + (a0 &&& (6148914691236517205 : UInt64))) 2) &&& (3689348814741910323 : UInt64)) + ((((shr64 a0 1) &&& (6148914691236517205 : UInt64)) + (a0 &&& (6148914691236517205 : UInt64))) &&& (3689348814741910323 : UInt64))) 4) + (((shr64 (((shr64 a0 1) &&& (6148914691236517205 : UInt64)) + (a0 &&& (6148914691236517205 : UInt64))) 2) &&& (3689348814741910323 : UInt64)) + ((((shr64 a0 1) &&& (6148914691236517205 : UInt64)) + (a0 &&& (6148914691236517205 : UInt64))) &&& (3689348814741910323 : UInt64)))) &&& (1085102592571150095 : UInt64)) + (shr64 (((shr64 (((shr64 (((shr64 a0 1) &&& (6148914691236517205 : UInt64)) + (a0 &&& (6148914691236517205 : UInt64))) 2) &&& (3689348814741910323 : UInt64)) + ((((shr64 a0 1) &&& (6148914691236517205 : UInt64)) + (a0 &&& (6148914691236517205 : UInt64))) &&& (3689348814741910323 : UInt64))) 4) + (((shr64 (((shr64 a0 1) &&& (6148914691236517205 : UInt64)) + (a0 &&& (6148914691236517205 : UInt64))) 2) &&& (3689348814741910323 : UInt64)) + ((((shr64 a0 1) &&& (6148914691236517205 : UInt64)) + (a0 &&& (6148914691236517205 : UInt64))) &&& (3689348814741910323 : UInt64)))) &&& (1085102592571150095 : UInt64)) 8)) 16))) rfl rfl bin_add_u64) ?_
  refine WL.ex rfl (ex_assign (v := enc64 (((((shr64 (((shr64 (((shr64 a0 1) &&& (6148914691236517205 : UInt64)) + (a0 &&& (6148914691236517205 : UInt64))) 2) &&& (3689348814741910323 : UInt64)) + ((((shr64 a0 1) &&& (6148914691236517205 : UInt64)) + (a0 &&& (6148914691236517205 : UInt64))) &&& (3689348814741910323 : UInt64))) 4) + (((shr64 (((shr64 a0 1) &&& (6148914691236517205 : UInt64)) + (a0 &&& (6148914691236517205 : UInt64))) 2) &&& (3689348814741910323 : UInt64)) + ((((shr64 a0 1) &&& (6148914691236517205 : UInt64)) + (a0 &&& (6148914691236517205 : UInt64))) &&& (3689348814741910323 : UInt64)))) &&& (1085102592571150095 : UInt64)) + (shr64 (((shr64 (((shr64 (((shr64 a0 1) &&& (6148914691236517205 : UInt64)) + (a0 &&& (6148914691236517205 : UInt64))) 2) &&& (3689348814741910323 : UInt64)) + ((((shr64 a0 1) &&& (6148914691236517205 : UInt64)) + (a0 &&& (6148914691236517205 : UInt64))) &&& (3689348814741910323 : UInt64))) 4) + (((shr64 (((shr64 a0 1) &&& (6148914691236517205 : UInt64)) + (a0 &&& (6148914691236517205 : UInt64))) 2) &&& (3689348814741910323 : UInt64)) + ((((shr64 a0 1) &&& (6148914691236517205 : UInt64)) + (a0 &&& (6148914691236517205 : UInt64))) &&& (3689348814741910323 : UInt64)))) &&& (1085102592571150095 : UInt64)) 8)) + (shr64 ((((shr64 (((shr64 (((shr64 a0 1) &&& (6148914691236517205 : UInt64)) + (a0 &&& (6148914691236517205 : UInt64))) 2) &&& (3689348814741910323 : UInt64)) + ((((shr64 a0 1) &&& (6148914691236517205 : UInt64)) + (a0 &&& (6148914691236517205 : UInt64))) &&& (3689348814741910323 : UInt64))) 4) + (((shr64 (((shr64 a0 1) &&& (6148914691236517205 : UInt64)) + (a0 &&& (6148914691236517205 : UInt64))) 2) &&& (3689348814741910323 : UInt64)) + ((((shr64 a0 1) &&& (6148914691236517205 : UInt64)) + (a0 &&& (6148914691236517205 : UInt64))) &&& (3689348814741910323 : UInt64)))) &&& (1085102592571150095 : UInt64)) + (shr64 (((shr64 (((shr64 (((shr64 a0 1) &&& (6148914691236517205 : UInt64)) + (a0 &&& (6148914691236517205 : UInt64))) 2) &&& (3689348814741910323 : UInt64)) + ((((shr64 a0 1) &&& (6148914691236517205 : UInt64)) + (a0 &&& (6148914691236517205 : UInt64))) &&& (3689348814741910323 : UInt64))) 4) + (((shr64 (((shr64 a0 1) &&& (6148914691236517205 : UInt64)) + (a0 &&& (6148914691236517205 : UInt64))) 2) &&& (3689348814741910323 : UInt64)) + ((((shr64 a0 1) &&& (6148914691236517205 : UInt64)) + (a0 &&& (6148914691236517205 : UInt64))) &&& (3689348814741910323 : UInt64)))) &&& (1085102592571150095 : UInt64)) 8)) 16))) rfl) ?_
  refine WL.nil ?_
  refine WC.seq ?_
  refine WC.region ?_
  refine WL.ex rfl (ex_move (v := enc64 (((((shr64 (((shr64 (((shr64 a0 1) &&& (6148914691236517205 : UInt64)) + (a0 &&& (6148914691236517205 : UInt64))) 2) &&& (3689348814741910323 : UInt64)) + ((((shr64 a0 1) &&& (6148914691236517205 : UInt64)) + (a0 &&& (6148914691236517205 : UInt64))) &&& (3689348814741910323 : UInt64))) 4) + (((shr64 (((shr64 a0 1) &&& (6148914691236517205 : UInt64)) + (a0 &&& (6148914691236517205 : UInt64))) 2) &&& (3689348814741910323 : UInt64)) + ((((shr64 a0 1) &&& (6148914691236517205 : UInt64)) + (a0 &&& (6148914691236517205 : UInt64))) &&& (3689348814741910323 : UInt64)))) &&& (1085102592571150095 : UInt64)) + (shr64 (((shr64 (((shr64 (((shr64 a0 1) &&& (6148914691236517205 : UInt64)) + (a0 &&& (6148914691236517205 : UInt64))) 2) &&& (3689348814741910323 : UInt64)) + ((((shr64 a0 1) &&& (6148914691236517205 : UInt64)) + (a0 &&& (6148914691236517205 : UInt64))) &&& (3689348814741910323 : UInt64))) 4) + (((shr64 (((shr64 a0 1) &&& (6148914691236517205 : UInt64)) + (a0 &&& (6148914691236517205 : UInt64))) 2) &&& (3689348814741910323 : UInt64)) + ((((shr64 a0 1) &&& (6148914691236517205 : UInt64)) + (a0 &&& (6148914691236517205 : UInt64))) &&& (3689348814741910323 : UInt64)))) &&& (1085102592571150095 : UInt64)) 8)) + (shr64 ((((shr64 (((shr64 (((shr64 a0 1) &&& (6148914691236517205 : UInt64)) + (a0 &&& (6148914691236517205 : UInt64))) 2) &&& (3689348814741910323 : UInt64)) + ((((shr64 a0 1) &&& (6148914691236517205 : UInt64)) + (a0 &&& (6148914691236517205 : UInt64))) &&& (3689348814741910323 : UInt64))) 4) + (((shr64 (((shr64 a0 1) &&& (6148914691236517205 : UInt64)) + (a0 &&& (6148914691236517205 : UInt64))) 2) &&& (3689348814741910323 : UInt64)) + ((((shr64 a0 1) &&& (6148914691236517205 : UInt64)) + (a0 &&& (6148914691236517205 : UInt64))) &&& (3689348814741910323 : UInt64)))) &&& (1085102592571150095 : UInt64)) + (shr64 (((shr64 (((shr64 (((shr64 a0 1) &&& (6148914691236517205 : UInt64)) + (a0 &&& (6148914691236517205 : UInt64))) 2) &&& (3689348814741910323 : UInt64)) + ((((shr64 a0 1) &&& (6148914691236517205 : UInt64)) + (a0 &&& (6148914691236517205 : UInt64))) &&& (3689348814741910323 : UInt64))) 4) + (((shr64 (((shr64 a0 1) &&& (6148914691236517205 : UInt64)) + (a0 &&& (6148914691236517205 : UInt64))) 2) &&& (3689348814741910323 : UInt64)) + ((((shr64 a0 1) &&& (6148914691236517205 : UInt64)) + (a0 &&& (6148914691236517205 : UInt64))) &&& (3689348814741910323 : UInt64)))) &&& (1085102592571150095 : UInt64)) 8)) 16))) rfl) ?_
  refine WL.ex rfl (ex_move (v := enc64 (((((shr64 (((shr64 (((shr64 a0 1) &&& (6148914691236517205 : UInt64)) + (a0 &&& (6148914691236517205 : UInt64))) 2) &&& (3689348814741910323 : UInt64)) + ((((shr64 a0 1) &&& (6148914691236517205 : UInt64)) + (a0 &&& (6148914691236517205 : UInt64))) &&& (3689348814741910323 : UInt64))) 4) + (((shr64 (((shr64 a0 1) &&& (6148914691236517205 : UInt64)) + (a0 &&& (6148914691236517205 : UInt64))) 2) &&& (3689348814741910323 : UInt64)) + ((((shr64 a0 1) &&& (6148914691236517205 : UInt64)) + (a0 &&& (6148914691236517205 : UInt64))) &&& (3689348814741910323 : UInt64)))) &&& (1085102592571150095 : UInt64)) + (shr64 (((shr64 (((shr64 (((shr64 a0 1) &&& (6148914691236517205 : UInt64)) + (a0 &&& (6148914691236517205 : UInt64))) 2) &&& (3689348814741910323 : UInt64)) + ((((shr64 a0 1) &&& (6148914691236517205 : UInt64)) + (a0 &&& (6148914691236517205 : UInt64))) &&& (3689348814741910323 : UInt64))) 4) + (((shr64 (((shr64 a0 1) &&& (6148914691236517205 : UInt64)) + (a0 &&& (6148914691236517205 : UInt64))) 2) &&& (3689348814741910323 : UInt64)) + ((((shr64 a0 1) &&& (6148914691236517205 : UInt64)) + (a0 &&& (6148914691236517205 : UInt64))) &&& (3689348814741910323 : UInt64)))) &&& (1085102592571150095 : UInt64)) 8)) + (shr64 ((((shr64 (((shr64 (((shr64 a0 1) &&& (6148914691236517205 : UInt64)) + (a0 &&& (6148914691236517205 : UInt64))) 2) &&& (3689348814741910323 : UInt64)) + ((((shr64 a0 1) &&& (6148914691236517205 : UInt64)) + (a0 &&& (6148914691236517205 : UInt64))) &&& (3689348814741910323 : UInt64))) 4) + (((shr64 (((shr64 a0 1) &&& (6148914691236517205 : UInt64)) + (a0 &&& (6148914691236517205 : UInt64))) 2) &&& (3689348814741910323 : UInt64)) + ((((shr64 a0 1) &&& (6148914691236517205 : UInt64)) + (a0 &&& (6148914691236517205 : UInt64))) &&& (3689348814741910323 : UInt64)))) &&& (1085102592571150095 : UInt64)) + (shr64 (((shr64 (((shr64 (((shr64 a0 1) &&& (6148914691236517205 : UInt64)) + (a0 &&& (6148914691236517205 : UInt64))) 2) &&& (3689348814741910323 : UInt64)) + ((((shr64 a0 1) &&& (6148914691236517205 : UInt64)) + (a0 &&& (6148914691236517205 : UInt64))) &&& (3689348814741910323 : UInt64))) 4) + (((shr64 (((shr64 a0 1) &&& (6148914691236517205 : UInt64)) + (a0 &&& (6148914691236517205 : UInt64))) 2) &&& (3689348814741910323 : UInt64)) + ((((shr64 a0 1) &&& (6148914691236517205 : UInt64)) + (a0 &&& (6148914691236517205 : UInt64))) &&& (3689348814741910323 : UInt64)))) &&& (1085102592571150095 : UInt64)) 8)) 16))) rfl) ?_
  refine WL.ex rfl (ex_bin (a := enc64 (((((shr64 (((shr64 (((shr64 a0 1) &&& (6148914691236517205 : UInt64)) + (a0 &&& (6148914691236517205 : UInt64))) 2) &&& (3689348814741910323 : UInt64)) + ((((shr64 a0 1) &&& (6148914691236517205 : UInt64)) + (a0 &&& (6148914691236517205 : UInt64))) &&& (3689348814741910323 : UInt64))) 4) + (((shr64 (((shr64 a0 1) &&& (6148914691236517205 : UInt64)) + (a0 &&& (6148914691236517205 : UInt64))) 2) &&& (3689348814741910323 : UInt64)) + ((((shr64 a0 1) &&& (6148914691236517205 : UInt64)) + (a0 &&& (6148914691236517205 : UInt64))) &&& (3689348814741910323 : UInt64)))) &&& (1085102592571150095 : UInt64)) + (shr64 (((shr64 (((shr64 (((shr64 a0 1) &&& (6148914691236517205 : UInt64)) + (a0 &&& (6148914691236517205 : UInt64))) 2) &&& (3689348814741910323 : UInt64)) + ((((shr64 a0 1) &&& (6148914691236517205 : UInt64)) + (a0 &&& (6148914691236517205 : UInt64))) &&& (3689348814741910323 : UInt64))) 4) + (((shr64 (((shr64 a0 1) &&& (6148914691236517205 : UInt64)) + (a0 &&& (6148914691236517205 : UInt64))) 2) &&& (3689348814741910323 : UInt64)) + ((((shr64 a0 1) &&& (6148914691236517205 : UInt64)) + (a0 &&& (6148914691236517205 : UInt64))) &&& (3689348814741910323 : UInt64)))) &&& (1085102592571150095 : UInt64)) 8)) + (shr64 ((((shr64 (((shr64 (((shr64 a0 1) &&& (6148914691236517205 : UInt64)) + (a0 &&& (6148914691236517205 : UInt64))) 2) &&& (3689348814741910323 : UInt64)) + ((((shr64 a0 1) &&& (6148914691236517205 : UInt64)) + (a0 &&& (6148914691236517205 : UInt64))) &&& (3689348814741910323 : UInt64))) 4) + (((shr64 (((shr64 a0 1) &&& (6148914691236517205 : UInt64)) + (a0 &&& (6148914691236517205 : UInt64))) 2) &&& (3689348814741910323 : UInt64)) + ((((shr64 a0 1) &&& (6148914691236517205 : UInt64)) + (a0 &&& (6148914691236517205 : UInt64))) &&& (3689348814741910323 : UInt64)))) &&& (1085102592571150095 : UInt64)) + (shr64 (((shr64 (((shr64 (((shr64 a0 1) &&& (6148914691236517205 : UInt64)) + (a0 &&& (6148914691236517205 : UInt64))) 2) &&& (3689348814741910323 : UInt64)) + ((((shr64 a0 1) &&& (6148914691236517205 : UInt64)) + (a0 &&& (6148914691236517205 : UInt64))) &&& (3689348814741910323 : UInt64))) 4) + (((shr64 (((shr64 a0 1) &&& (6148914691236517205 : UInt64)) + (a0 &&& (6148914691236517205 : UInt64))) 2) &&& (3689348814741910323 : UInt64)) + ((((shr64 a0 1) &&& (6148914691236517205 : UInt64)) + (a0 &&& (6148914691236517205 : UInt64))) &&& (3689348814741910323 : UInt64)))) &&& (1085102592571150095 : UInt64)) 8)) 16))) (b := enc64 (32 : UInt64)) (v := enc64 (shr64 (((((shr64 (((shr64 (((shr64 a0 1) &&& (6148914691236517205 : UInt64)) + (a0 &&& (6148914691236517205 : UInt64))) 2) &&& (3689348814741910323 : UInt64)) + ((((shr64 a0 1) &&& (6148914691236517205 : UInt64)) + (a0 &&& (6148914691236517205 : UInt64))) &&& (3689348814741910323 : UInt64))) 4) + (((shr64 (((shr64 a0 1) &&& (6148914691236517205 : UInt64)) + (a0 &&& (6148914691236517205 : UInt64))) 2) &&& (3689348814741910323 : UInt64)) + ((((shr64 a0 1) &&& (6148914691236517205 : UInt64)) + (a0 &&& (6148914691236517205 : UInt64))) &&& (3689348814741910323 : UInt64)))) &&& (1085102592571150095 : UInt64)) + (shr64 (((shr64 (((shr64 (((shr64 a0 1) &&& (6148914691236517205 : UInt64)) + (a0 &&& (6148914691236517205 : UInt64))) 2) &&& (3689348814741910323 : UInt64)) + ((((shr64 a0 1) &&& (6148914691236517205 : UInt64)) + (a0 &&& (6148914691236517205 : UInt64))) &&& (3689348814741910323 : UInt64))) 4) + (((shr64 (((shr64 a0 1) &&& (6148914691236517205 : UInt64)) + (a0 &&& (6148914691236517205 : UInt64))) 2) &&& (3689348814741910323 : UInt64)) + ((((shr64 a0 1) &&& (6148914691236517205 : UInt64)) + (a0 &&& (6148914691236517205 : UInt64))) &&& (3689348814741910323 : UInt64)))) &&& (1085102592571150095 : UInt64)) 8)) + (shr64 ((((shr64 (((shr64 (((shr64 a0 1) &&& (6148914691236517205 : UInt64)) + (a0 &&& (6148914691236517205 : UInt64))) 2) &&& (3689348814741910323 : UInt64)) + ((((shr64 a0 1) &&& (6148914691236517205 : UInt64)) + (a0 &&& (6148914691236517205 : UInt64))) &&& (3689348814741910323 : UInt64))) 4) + (((shr64 (((shr64 a0 1) &&& (6148914691236517205 : UInt64)) + (a0 &&& (6148914691236517205 : UInt64))) 2) &&& (3689348814741910323 : UInt64)) + ((((shr64 a0 1) &&& (6148914691236517205 : UInt64)) + (a0 &&& (6148914691236517205 : UInt64))) &&& (3689348814741910323 : UInt64)))) &&& (1085102592571150095 : UInt64)) + (shr64 (((shr64 (((shr64 (((shr64 a0 1) &&& (6148914691236517205 : UInt64)) + (a0 &&& (6148914691236517205 : UInt64))) 2) &&& (3689348814741910323 : UInt64)) + ((((shr64 a0 1) &&& (6148914691236517205 : UInt64)) + (a0 &&& (6148914691236517205 : UInt64))) &&& (3689348814741910323 : UInt64))) 4) + (((shr64 (((shr64 a0 1) &&& (6148914691236517205 : UInt64)) + (a0 &&& (6148914691236517205 : UInt64))) 2) &&& (3689348814741910323 : UInt64)) + ((((shr64 a0 1) &&& (6148914691236517205 : UInt64)) + (a0 &&& (6148914691236517205 : UInt64))) &&& (3689348814741910323 : UInt64)))) &&& (1085102592571150095 : UInt64)) 8)) 16)) 32)) rfl rfl (bin_shr_u64n (n := 32))) ?_
  refine WL.ex rfl (ex_bin (a := enc64 (((((shr64 (((shr64 (((shr64 a0 1) &&& (6148914691236517205 : UInt64)) + (a0 &&& (6148914691236517205 : UInt64))) 2) &&& (3689348814741910323 : UInt64)) + ((((shr64 a0 1) &&& (6148914691236517205 : UInt64)) + (a0 &&& (6148914691236517205 : UInt64))) &&& (3689348814741910323 : UInt64))) 4) + (((shr64 (((shr64 a0 1) &&& (6148914691236517205 : UInt64)) + (a0 &&& (6148914691236517205 : UInt64))) 2) &&& (3689348814741910323 : UInt64)) + ((((shr64 a0 1) &&& (6148914691236517205 : UInt64)) + (a0 &&& (6148914691236517205 : UInt64))) &&& (3689348814741910323 : UInt64)))) &&& (1085102592571150095 : UInt64)) + (shr64 (((shr64 (((shr64 (((shr64 a0 1) &&& (6148914691236517205 : UInt64)) + (a0 &&& (6148914691236517205 : UInt64))) 2) &&& (3689348814741910323 : UInt64)) + ((((shr64 a0 1) &&& (6148914691236517205 : UInt64)) + (a0 &&& (6148914691236517205 : UInt64))) &&& (3689348814741910323 : UInt64))) 4) + (((shr64 (((shr64 a0 1) &&& (6148914691236517205 : UInt64)) + (a0 &&& (6148914691236517205 : UInt64))) 2) &&& (3689348814741910323 : UInt64)) + ((((shr64 a0 1) &&& (6148914691236517205 : UInt64)) + (a0 &&& (6148914691236517205 : UInt64))) &&& (3689348814741910323 : UInt64)))) &&& (1085102592571150095 : UInt64)) 8)) + (shr64 ((((shr64 (((shr64 (((shr64 a0 1) &&& (6148914691236517205 : UInt64)) + (a0 &&& (6148914691236517205 : UInt64))) 2) &&& (3689348814741910323 : UInt64)) + ((((shr64 a0 1) &&& (6148914691236517205 : UInt64)) + (a0 &&& (6148914691236517205 : UInt64))) &&& (3689348814741910323 : UInt64))) 4) + (((shr64 (((shr64 a0 1) &&& (6148914691236517205 : UInt64)) + (a0 &&& (6148914691236517205 : UInt64))) 2) &&& (3689348814741910323 : UInt64)) + ((((shr64 a0 1) &&& (6148914691236517205 : UInt64)) + (a0 &&& (6148914691236517205 : UInt64))) &&& (3689348814741910323 : UInt64)))) &&& (1085102592571150095 : UInt64)) + (shr64 (((shr64 (((shr64 (((shr64 a0 1) &&& (6148914691236517205 : UInt64)) + (a0 &&& (6148914691236517205 : UInt64))) 2) &&& (3689348814741910323 : UInt64)) + ((((shr64 a0 1) &&& (6148914691236517205 : UInt64)) + (a0 &&& (6148914691236517205 : UInt64))) &&& (3689348814741910323 : UInt64))) 4) + (((shr64 (((shr64 a0 1) &&& (6148914691236517205 : UInt64)) + (a0 &&& (6148914691236517205 : UInt64))) 2) &&& (3689348814741910323 : UInt64)) + ((((shr64 a0 1) &&& (6148914691236517205 : UInt64)) + (a0 &&& (6148914691236517205 : UInt64))) &&& (3689348814741910323 : UInt64)))) &&& (1085102592571150095 : UInt64)) 8)) 16))) (b := enc64 (shr64 (((((shr64 (((shr64 (((shr64 a0 1) &&& (6148914691236517205 : UInt64)) + (a0 &&& (6148914691236517205 : UInt64))) 2) &&& (3689348814741910323 : UInt64)) + ((((shr64 a0 1) &&& (6148914691236517205 : UInt64)) + (a0 &&& (6148914691236517205 : UInt64))) &&& (3689348814741910323 : UInt64))) 4) + (((shr64 (((shr64 a0 1) &&& (6148914691236517205 : UInt64)) + (a0 &&& (6148914691236517205 : UInt64))) 2) &&& (3689348814741910323 : UInt64)) + ((((shr64 a0 1) &&& (6148914691236517205 : UInt64)) + (a0 &&& (6148914691236517205 : UInt64))) &&& (3689348814741910323 : UInt64)))) &&& (1085102592571150095 : UInt64)) + (shr64 (((shr64 (((shr64 (((shr64 a0 1) &&& (6148914691236517205 : UInt64)) + (a0 &&& (6148914691236517205 : UInt64))) 2) &&& (3689348814741910323 : UInt64)) + ((((shr64 a0 1) &&& (6148914691236517205 : UInt64)) + (a0 &&& (6148914691236517205 : UInt64))) &&& (3689348814741910323 : UInt64))) 4) + (((shr64 (((shr64 a0 1) &&& (6148914691236517205 : UInt64)) + (a0 &&& (6148914691236517205 : UInt64))) 2) &&& (3689348814741910323 : UInt64)) + ((((shr64 a0 1) &&& (6148914691236517205 : UInt64)) + (a0 &&& (6148914691236517205 : UInt64))) &&& (3689348814741910323 : UInt64)))) &&& (1085102592571150095 : UInt64)) 8)) + (shr64 ((((shr64 (((shr64 (((shr64 a0 1) &&& (6148914691236517205 : UInt64)) + (a0 &&& (6148914691236517205 : UInt64))) 2) &&& (3689348814741910323 : UInt64)) + ((((shr64 a0 1) &&& (6148914691236517205 : UInt64)) + (a0 &&& (6148914691236517205 : UInt64))) &&& (3689348814741910323 : UInt64))) 4) + (((shr64 (((shr64 a0 1) &&& (6148914691236517205 : UInt64)) + (a0 &&& (6148914691236517205 : UInt64))) 2) &&& (3689348814741910323 : UInt64)) + ((((shr64 a0 1) &&& (6148914691236517205 : UInt64)) + (a0 &&& (6148914691236517205 : UInt64))) &&& (3689348814741910323 : UInt64)))) &&& (1085102592571150095 : UInt64)) + (shr64 (((shr64 (((shr64 (((shr64 a0 1) &&& (6148914691236517205 : UInt64)) + (a0 &&& (6148914691236517205 : UInt64))) 2) &&& (3689348814741910323 : UInt64)) + ((((shr64 a0 1) &&& (6148914691236517205 : UInt64)) + (a0 &&& (6148914691236517205 : UInt64))) &&& (3689348814741910323 : UInt64))) 4) + (((shr64 (((shr64 a0 1) &&& (6148914691236517205 : UInt64)) + (a0 &&& (6148914691236517205 : UInt64))) 2) &&& (3689348814741910323 : UInt64)) + ((((shr64 a0 1) &&& (6148914691236517205 : UInt64)) + (a0 &&& (6148914691236517205 : UInt64))) &&& (3689348814741910323 : UInt64)))) &&& (1085102592571150095 : UInt64)) 8)) 16)) 32)) (v := enc64 ((((((shr64 (((shr64 (((shr64 a0 1) &&& (6148914691236517205 : UInt64)) + (a0 &&& (6148914691236517205 : UInt64))) 2) &&& (3689348814741910323 : UInt64)) + ((((shr64 a0 1) &&& (6148914691236517205 : UInt64)) + (a0 &&& (6148914691236517205 : UInt64))) &&& (3689348814741910323 : UInt64))) 4) + (((shr64 (((shr64 a0 1) &&& (6148914691236517205 : UInt64)) + (a0 &&& (6148914691236517205 : UInt64))) 2) &&& (3689348814741910323 : UInt64)) + ((((shr64 a0 1) &&& (6148914691236517205 : UInt64)) + (a0 &&& (6148914691236517205 : UInt64))) &&& (3689348814741910323 : UInt64)))) &&& (1085102592571150095 : UInt64)) + (shr64 (((shr64 (((shr64 (((shr64 a0 1) &&& (6148914691236517205 : UInt64)) + (a0 &&& (6148914691236517205 : UInt64))) 2) &&& (3689348814741910323 : UInt64)) + ((((shr64 a0 1) &&& (6148914691236517205 : UInt64)) + (a0 &&& (6148914691236517205 : UInt64))) &&& (3689348814741910323 : UInt64))) 4) + (((shr64 (((shr64 a0 1) &&& (6148914691236517205 : UInt64)) + (a0 &&& (6148914691236517205 : UInt64))) 2) &&& (3689348814741910323 : UInt64)) + ((((shr64 a0 1) &&& (6148914691236517205 : UInt64)) + (a0 &&& (6148914691236517205 : UInt64))) &&& (3689348814741910323 : UInt64)))) &&& (1085102592571150095 : UInt64)) 8)) + (shr64 ((((shr64 (((shr64 (((shr64 a0 1) &&& (6148914691236517205 : UInt64)) + (a0 &&& (6148914691236517205 : UInt64))) 2) &&& (3689348814741910323 : UInt64)) + ((((shr64 a0 1) &&& (6148914691236517205 : UInt64)) + (a0 &&& (6148914691236517205 : UInt64))) &&& (3689348814741910323 : UInt64))) 4) + (((shr64 (((shr64 a0 1) &&& (6148914691236517205 : UInt64)) + (a0 &&& (6148914691236517205 : UInt64))) 2) &&& (3689348814741910323 : UInt64)) + ((((shr64 a0 1) &&& (6148914691236517205 : UInt64)) + (a0 &&& (6148914691236517205 : UInt64))) &&& (3689348814741910323 : UInt64)))) &&& (1085102592571150095 : UInt64)) + (shr64 (((shr64 (((shr64 (((shr64 a0 1) &&& (6148914691236517205 : UInt64)) + (a0 &&& (6148914691236517205 : UInt64))) 2) &&& (3689348814741910323 : UInt64)) + ((((shr64 a0 1) &&& (6148914691236517205 : UInt64)) + (a0 &&& (6148914691236517205 : UInt64))) &&& (3689348814741910323 : UInt64))) 4) + (((shr64 (((shr64 a0 1) &&& (6148914691236517205 : UInt64)) + (a0 &&& (6148914691236517205 : UInt64))) 2) &&& (3689348814741910323 : UInt64)) + ((((shr64 a0 1) &&& (6148914691236517205 : UInt64)) + (a0 &&& (6148914691236517205 : UInt64))) &&& (3689348814741910323 : UInt64)))) &&& (1085102592571150095 : UInt64)) 8)) 16)) + (shr64 (((((shr64 (((shr64 (((shr64 a0 1) &&& (6148914691236517205 : UInt64)) + (a0 &&& (6148914691236517205 : UInt64))) 2) &&& (3689348814741910323 : UInt64)) + ((((shr64 a0 1) &&& (6148914691236517205 : UInt64)) + (a0 &&& (6148914691236517205 : UInt64))) &&& (3689348814741910323 : UInt64))) 4) + (((shr64 (((shr64 a0 1) &&& (6148914691236517205 : UInt64)) + (a0 &&& (6148914691236517205 : UInt64))) 2) &&& (3689348814741910323 : UInt64)) + ((((shr64 a0 1) &&& (6148914691236517205 : UInt64)) + (a0 &&& (6148914691236517205 : UInt64))) &&& (3689348814741910323 : UInt64)))) &&& (1085102592571150095 : UInt64)) + (shr64 (((shr64 (((shr64 (((shr64 a0 1) &&& (6148914691236517205 : UInt64)) + (a0 &&& (6148914691236517205 : UInt64))) 2) &&& (3689348814741910323 : UInt64)) + ((((shr64 a0 1) &&& (6148914691236517205 : UInt64)) + (a0 &&& (6148914691236517205 : UInt64))) &&& (3689348814741910323 : UInt64))) 4) + (((shr64 (((shr64 a0 1) &&& (6148914691236517205 : UInt64)) + (a0 &&& (6148914691236517205 : UInt64))) 2) &&& (3689348814741910323 : UInt64)) + ((((shr64 a0 1) &&& (6148914691236517205 : UInt64)) + (a0 &&& (6148914691236517205 : UInt64))) &&& (3689348814741910323 : UInt64)))) &&& (1085102592571150095 : UInt64)) 8)) + (shr64 ((((shr64 (((shr64 (((shr64 a0 1) &&& (6148914691236517205 : UInt64)) + (a0 &&& (6148914691236517205 : UInt64))) 2) &&& (3689348814741910323 : UInt64)) + ((((shr64 a0 1) &&& (6148914691236517205 : UInt64)) + (a0 &&& (6148914691236517205 : UInt64))) &&& (3689348814741910323 : UInt64))) 4) + (((shr64 (((shr64 a0 1) &&& (6148914691236517205 : UInt64)) + (a0 &&& (6148914691236517205 : UInt64))) 2) &&& (3689348814741910323 : UInt64)) + ((((shr64 a0 1) &&& (6148914691236517205 : UInt64)) + (a0 &&& (6148914691236517205 : UInt64))) &&& (3689348814741910323 : UInt64)))) &&& (1085102592571150095 : UInt64)) + (shr64 (((shr64 (((shr64 (((shr64 a0 1) &&& (6148914691236517205 : UInt64)) + (a0 &&& (6148914691236517205 : UInt64))) 2) &&& (3689348814741910323 : UInt64)) + ((((shr64 a0 1) &&& (6148914691236517205 : UInt64)) + (a0 &&& (6148914691236517205 : UInt64))) &&& (3689348814741910323 : UInt64))) 4) + (((shr64 (((shr64 a0 1) &&& (6148914691236517205 : UInt64)) + (a0 &&& (6148914691236517205 : UInt64))) 2) &&& (3689348814741910323 : UInt64)) + ((((shr64 a0 1) &&& (6148914691236517205 : UInt64)) + (a0 &&& (6148914691236517205 : UInt64))) &&& (3689348814741910323 : UInt64)))) &&& (1085102592571150095 : UInt64)) 8)) 16)) 32))) rfl rfl bin_add_u64) ?_
  refine WL.ex rfl (ex_assign (v := enc64 ((((((shr64 (((shr64 (((shr64 a0 1) &&& (6148914691236517205 : UInt64)) + (a0 &&& (6148914691236517205 : UInt64))) 2) &&& (3689348814741910323 : UInt64)) + ((((shr64 a0 1) &&& (6148914691236517205 : UInt64)) + (a0 &&& (6148914691236517205 : UInt64))) &&& (3689348814741910323 : UInt64))) 4) + (((shr64 (((shr64 a0 1) &&& (6148914691236517205 : UInt64)) + (a0 &&& (6148914691236517205 : UInt64))) 2) &&& (3689348814741910323 : UInt64)) + ((((shr64 a0 1) &&& (6148914691236517205 : UInt64)) + (a0 &&& (6148914691236517205 : UInt64))) &&& (3689348814741910323 : UInt64)))) &&& (1085102592571150095 : UInt64)) + (shr64 (((shr64 (((shr64 (((shr64 a0 1) &&& (6148914691236517205 : UInt64)) + (a0 &&& (6148914691236517205 : UInt64))) 2) &&& (3689348814741910323 : UInt64)) + ((((shr64 a0 1) &&& (6148914691236517205 : UInt64)) + (a0 &&& (6148914691236517205 : UInt64))) &&& (3689348814741910323 : UInt64))) 4) + (((shr64 (((shr64 a0 1) &&& (6148914691236517205 : UInt64)) + (a0 &&& (6148914691236517205 : UInt64))) 2) &&& (3689348814741910323 : UInt64)) + ((((shr64 a0 1) &&& (6148914691236517205 : UInt64)) + (a0 &&& (6148914691236517205 : UInt64))) &&& (3689348814741910323 : UInt64)))) &&& (1085102592571150095 : UInt64)) 8)) + (shr64 ((((shr64 (((shr64 (((shr64 a0 1) &&& (6148914691236517205 : UInt64)) + (a0 &&& (6148914691236517205 : UInt64))) 2) &&& (3689348814741910323 : UInt64)) + ((((shr64 a0 1) &&& (6148914691236517205 : UInt64)) + (a0 &&& (6148914691236517205 : UInt64))) &&& (3689348814741910323 : UInt64))) 4) + (((shr64 (((shr64 a0 1) &&& (6148914691236517205 : UInt64)) + (a0 &&& (6148914691236517205 : UInt64))) 2) &&& (3689348814741910323 : UInt64)) + ((((shr64 a0 1) &&& (6148914691236517205 : UInt64)) + (a0 &&& (6148914691236517205 : UInt64))) &&& (3689348814741910323 : UInt64)))) &&& (1085102592571150095 : UInt64)) + (shr64 (((shr64 (((shr64 (((shr64 a0 1) &&& (6148914691236517205 : UInt64)) + (a0 &&& (6148914691236517205 : UInt64))) 2) &&& (3689348814741910323 : UInt64)) + ((((shr64 a0 1) &&& (6148914691236517205 : UInt64)) + (a0 &&& (6148914691236517205 : UInt64))) &&& (3689348814741910323 : UInt64))) 4) + (((shr64 (((shr64 a0 1) &&& (6148914691236517205 : UInt64)) + (a0 &&& (6148914691236517205 : UInt64))) 2) &&& (3689348814741910323 : UInt64)) + ((((shr64 a0 1) &&& (6148914691236517205 : UInt64)) + (a0 &&& (6148914691236517205 : UInt64))) &&& (3689348814741910323 : UInt64)))) &&& (1085102592571150095 : UInt64)) 8)) 16)) + (shr64 (((((shr64 (((shr64 (((shr64 a0 1) &&& (6148914691236517205 : UInt64)) + (a0 &&& (6148914691236517205 : UInt64))) 2) &&& (3689348814741910323 : UInt64)) + ((((shr64 a0 1) &&& (6148914691236517205 : UInt64)) + (a0 &&& (6148914691236517205 : UInt64))) &&& (3689348814741910323 : UInt64))) 4) + (((shr64 (((shr64 a0 1) &&& (6148914691236517205 : UInt64)) + (a0 &&& (6148914691236517205 : UInt64))) 2) &&& (3689348814741910323 : UInt64)) + ((((shr64 a0 1) &&& (6148914691236517205 : UInt64)) + (a0 &&& (6148914691236517205 : UInt64))) &&& (3689348814741910323 : UInt64)))) &&& (1085102592571150095 : UInt64)) + (shr64 (((shr64 (((shr64 (((shr64 a0 1) &&& (6148914691236517205 : UInt64)) + (a0 &&& (6148914691236517205 : UInt64))) 2) &&& (3689348814741910323 : UInt64)) + ((((shr64 a0 1) &&& (6148914691236517205 : UInt64)) + (a0 &&& (6148914691236517205 : UInt64))) &&& (3689348814741910323 : UInt64))) 4) + (((shr64 (((shr64 a0 1) &&& (6148914691236517205 : UInt64)) + (a0 &&& (6148914691236517205 : UInt64))) 2) &&& (3689348814741910323 : UInt64)) + ((((shr64 a0 1) &&& (6148914691236517205 : UInt64)) + (a0 &&& (6148914691236517205 : UInt64))) &&& (3689348814741910323 : UInt64)))) &&& (1085102592571150095 : UInt64)) 8)) + (shr64 ((((shr64 (((shr64 (((shr64 a0 1) &&& (6148914691236517205 : UInt64)) + (a0 &&& (6148914691236517205 : UInt64))) 2) &&& (3689348814741910323 : UInt64)) + ((((shr64 a0 1) &&& (6148914691236517205 : UInt64)) + (a0 &&& (6148914691236517205 : UInt64))) &&& (3689348814741910323 : UInt64))) 4) + (((shr64 (((shr64 a0 1) &&& (6148914691236517205 : UInt64)) + (a0 &&& (6148914691236517205 : UInt64))) 2) &&& (3689348814741910323 : UInt64)) + ((((shr64 a0 1) &&& (6148914691236517205 : UInt64)) + (a0 &&& (6148914691236517205 : UInt64))) &&& (3689348814741910323 : UInt64)))) &&& (1085102592571150095 : UInt64)) + (shr64 (((shr64 (((shr64 (((shr64 a0 1) &&& (6148914691236517205 : UInt64)) + (a0 &&& (6148914691236517205 : UInt64))) 2) &&& (3689348814741910323 : UInt64)) + ((((shr64 a0 1) &&& (6148914691236517205 : UInt64)) + (a0 &&& (6148914691236517205 : UInt64))) &&& (3689348814741910323 : UInt64))) 4) + (((shr64 (((shr64 a0 1) &&& (6148914691236517205 : UInt64)) + (a0 &&& (6148914691236517205 : UInt64))) 2) &&& (3689348814741910323 : UInt64)) + ((((shr64 a0 1) &&& (6148914691236517205 : UInt64)) + (a0 &&& (6148914691236517205 : UInt64))) &&& (3689348814741910323 : UInt64)))) &&& (1085102592571150095 : UInt64)) 8)) 16)) 32))) rfl) ?_
  refine WL.nil ?_
  refine WC.seq ?_
  refine WC.region ?_
  refine WL.ex rfl (ex_move (v := enc64 ((((((shr64 (((shr64 (((shr64 a0 1) &&& (6148914691236517205 : UInt64)) + (a0 &&& (6148914691236517205 : UInt64))) 2) &&& (3689348814741910323 : UInt64)) + ((((shr64 a0 1) &&& (6148914691236517205 : UInt64)) + (a0 &&& (6148914691236517205 : UInt64))) &&& (3689348814741910323 : UInt64))) 4) + (((shr64 (((shr64 a0 1) &&& (6148914691236517205 : UInt64)) + (a0 &&& (6148914691236517205 : UInt64))) 2) &&& (3689348814741910323 : UInt64)) + ((((shr64 a0 1) &&& (6148914691236517205 : UInt64)) + (a0 &&& (6148914691236517205 : UInt64))) &&& (3689348814741910323 : UInt64)))) &&& (1085102592571150095 : UInt64)) + (shr64 (((shr64 (((shr64 (((shr64 a0 1) &&& (6148914691236517205 : UInt64)) + (a0 &&& (6148914691236517205 : UInt64))) 2) &&& (3689348814741910323 : UInt64)) + ((((shr64 a0 1) &&& (6148914691236517205 : UInt64)) + (a0 &&& (6148914691236517205 : UInt64))) &&& (3689348814741910323 : UInt64))) 4) + (((shr64 (((shr64 a0 1) &&& (6148914691236517205 : UInt64)) + (a0 &&& (6148914691236517205 : UInt64))) 2) &&& (3689348814741910323 : UInt64)) + ((((shr64 a0 1) &&& (6148914691236517205 : UInt64)) + (a0 &&& (6148914691236517205 : UInt64))) &&& (3689348814741910323 : UInt64)))) &&& (1085102592571150095 : UInt64)) 8)) + (shr64 ((((shr64 (((shr64 (((shr64 a0 1) &&& (6148914691236517205 : UInt64)) + (a0 &&& (6148914691236517205 : UInt64))) 2) &&& (3689348814741910323 : UInt64)) + ((((shr64 a0 1) &&& (6148914691236517205 : UInt64)) + (a0 &&& (6148914691236517205 : UInt64))) &&& (3689348814741910323 : UInt64))) 4) + (((shr64 (((shr64 a0 1) &&& (6148914691236517205 : UInt64)) + (a0 &&& (6148914691236517205 : UInt64))) 2) &&& (3689348814741910323 : UInt64)) + ((((shr64 a0 1) &&& (6148914691236517205 : UInt64)) + (a0 &&& (6148914691236517205 : UInt64))) &&& (3689348814741910323 : UInt64)))) &&& (1085102592571150095 : UInt64)) + (shr64 (((shr64 (((shr64 (((shr64 a0 1) &&& (6148914691236517205 : UInt64)) + (a0 &&& (6148914691236517205 : UInt64))) 2) &&& (3689348814741910323 : UInt64)) + ((((shr64 a0 1) &&& (6148914691236517205 : UInt64)) + (a0 &&& (6148914691236517205 : UInt64))) &&& (3689348814741910323 : UInt64))) 4) + (((shr64 (((shr64 a0 1) &&& (6148914691236517205 : UInt64)) + (a0 &&& (6148914691236517205 : UInt64))) 2) &&& (3689348814741910323 : UInt64)) + ((((shr64 a0 1) &&& (6148914691236517205 : UInt64)) + (a0 &&& (6148914691236517205 : UInt64))) &&& (3689348814741910323 : UInt64)))) &&& (1085102592571150095 : UInt64)) 8)) 16)) + (shr64 (((((shr64 (((shr64 (((shr64 a0 1) &&& (6148914691236517205 : UInt64)) + (a0 &&& (6148914691236517205 : UInt64))) 2) &&& (3689348814741910323 : UInt64)) + ((((shr64 a0 1) &&& (6148914691236517205 : UInt64)) + (a0 &&& (6148914691236517205 : UInt64))) &&& (3689348814741910323 : UInt64))) 4) + (((shr64 (((shr64 a0 1) &&& (6148914691236517205 : UInt64)) + (a0 &&& (6148914691236517205 : UInt64))) 2) &&& (3689348814741910323 : UInt64)) + ((((shr64 a0 1) &&& (6148914691236517205 : UInt64)) + (a0 &&& (6148914691236517205 : UInt64))) &&& (3689348814741910323 : UInt64)))) &&& (1085102592571150095 : UInt64)) + (shr64 (((shr64 (((shr64 (((shr64 a0 1) &&& (6148914691236517205 : UInt64)) + (a0 &&& (6148914691236517205 : UInt64))) 2) &&& (3689348814741910323 : UInt64)) + ((((shr64 a0 1) &&& (6148914691236517205 : UInt64)) + (a0 &&& (6148914691236517205 : UInt64))) &&& (3689348814741910323 : UInt64))) 4) + (((shr64 (((shr64 a0 1) &&& (6148914691236517205 : UInt64)) + (a0 &&& (6148914691236517205 : UInt64))) 2) &&& (3689348814741910323 : UInt64)) + ((((shr64 a0 1) &&& (6148914691236517205 : UInt64)) + (a0 &&& (6148914691236517205 : UInt64))) &&& (3689348814741910323 : UInt64)))) &&& (1085102592571150095 : UInt64)) 8)) + (shr64 ((((shr64 (((shr64 (((shr64 a0 1) &&& (6148914691236517205 : UInt64)) + (a0 &&& (6148914691236517205 : UInt64))) 2) &&& (3689348814741910323 : UInt64)) + ((((shr64 a0 1) &&& (6148914691236517205 : UInt64)) + (a0 &&& (6148914691236517205 : UInt64))) &&& (3689348814741910323 : UInt64))) 4) + (((shr64 (((shr64 a0 1) &&& (6148914691236517205 : UInt64)) + (a0 &&& (6148914691236517205 : UInt64))) 2) &&& (3689348814741910323 : UInt64)) + ((((shr64 a0 1) &&& (6148914691236517205 : UInt64)) + (a0 &&& (6148914691236517205 : UInt64))) &&& (3689348814741910323 : UInt64)))) &&& (1085102592571150095 : UInt64)) + (shr64 (((shr64 (((shr64 (((shr64 a0 1) &&& (6148914691236517205 : UInt64)) + (a0 &&& (6148914691236517205 : UInt64))) 2) &&& (3689348814741910323 : UInt64)) + ((((shr64 a0 1) &&& (6148914691236517205 : UInt64)) + (a0 &&& (6148914691236517205 : UInt64))) &&& (3689348814741910323 : UInt64))) 4) + (((shr64 (((shr64 a0 1) &&& (6148914691236517205 : UInt64)) + (a0 &&& (6148914691236517205 : UInt64))) 2) &&& (3689348814741910323 : UInt64)) + ((((shr64 a0 1) &&& (6148914691236517205 : UInt64)) + (a0 &&& (6148914691236517205 : UInt64))) &&& (3689348814741910323 : UInt64)))) &&& (1085102592571150095 : UInt64)) 8)) 16)) 32))) rfl) ?_
  refine WL.ex rfl (ex_conv64 (k := .u64) (a := (((((((shr64 (((shr64 (((shr64 a0 1) &&& (6148914691236517205 : UInt64)) + (a0 &&& (6148914691236517205 : UInt64))) 2) &&& (3689348814741910323 : UInt64)) + ((((shr64 a0 1) &&& (6148914691236517205 : UInt64)) + (a0 &&& (6148914691236517205 : UInt64))) &&& (3689348814741910323 : UInt64))) 4) + (((shr64 (((shr64 a0 1) &&& (6148914691236517205 : UInt64)) + (a0 &&& (6148914691236517205 : UInt64))) 2) &&& (3689348814741910323 : UInt64)) + ((((shr64 a0 1) &&& (6148914691236517205 : UInt64)) + (a0 &&& (6148914691236517205 : UInt64))) &&& (3689348814741910323 : UInt64)))) &&& (1085102592571150095 : UInt64)) + (shr64 (((shr64 (((shr64 (((shr64 a0 1) &&& (6148914691236517205 : UInt64)) + (a0 &&& (6148914691236517205 : UInt64))) 2) &&& (3689348814741910323 : UInt64)) + ((((shr64 a0 1) &&& (6148914691236517205 : UInt64)) + (a0 &&& (6148914691236517205 : UInt64))) &&& (3689348814741910323 : UInt64))) 4) + (((shr64 (((shr64 a0 1) &&& (6148914691236517205 : UInt64)) + (a0 &&& (6148914691236517205 : UInt64))) 2) &&& (3689348814741910323 : UInt64)) + ((((shr64 a0 1) &&& (6148914691236517205 : UInt64)) + (a0 &&& (6148914691236517205 : UInt64))) &&& (3689348814741910323 : UInt64)))) &&& (1085102592571150095 : UInt64)) 8)) + (shr64 ((((shr64 (((shr64 (((shr64 a0 1) &&& (6148914691236517205 : UInt64)) + (a0 &&& (6148914691236517205 : UInt64))) 2) &&& (3689348814741910323 : UInt64)) + ((((shr64 a0 1) &&& (6148914691236517205 : UInt64)) + (a0 &&& (6148914691236517205 : UInt64))) &&& (3689348814741910323 : UInt64))) 4) + (((shr64 (((shr64 a0 1) &&& (6148914691236517205 : UInt64)) + (a0 &&& (6148914691236517205 : UInt64))) 2) &&& (3689348814741910323 : UInt64)) + ((((shr64 a0 1) &&& (6148914691236517205 : UInt64)) + (a0 &&& (6148914691236517205 : UInt64))) &&& (3689348814741910323 : UInt64)))) &&& (1085102592571150095 : UInt64)) + (shr64 (((shr64 (((shr64 (((shr64 a0 1) &&& (6148914691236517205 : UInt64)) + (a0 &&& (6148914691236517205 : UInt64))) 2) &&& (3689348814741910323 : UInt64)) + ((((shr64 a0 1) &&& (6148914691236517205 : UInt64)) + (a0 &&& (6148914691236517205 : UInt64))) &&& (3689348814741910323 : UInt64))) 4) + (((shr64 (((shr64 a0 1) &&& (6148914691236517205 : UInt64)) + (a0 &&& (6148914691236517205 : UInt64))) 2) &&& (3689348814741910323 : UInt64)) + ((((shr64 a0 1) &&& (6148914691236517205 : UInt64)) + (a0 &&& (6148914691236517205 : UInt64))) &&& (3689348814741910323 : UInt64)))) &&& (1085102592571150095 : UInt64)) 8)) 16)) + (shr64 (((((shr64 (((shr64 (((shr64 a0 1) &&& (6148914691236517205 : UInt64)) + (a0 &&& (6148914691236517205 : UInt64))) 2) &&& (3689348814741910323 : UInt64)) + ((((shr64 a0 1) &&& (6148914691236517205 : UInt64)) + (a0 &&& (6148914691236517205 : UInt64))) &&& (3689348814741910323 : UInt64))) 4) + (((shr64 (((shr64 a0 1) &&& (6148914691236517205 : UInt64)) + (a0 &&& (6148914691236517205 : UInt64))) 2) &&& (3689348814741910323 : UInt64)) + ((((shr64 a0 1) &&& (6148914691236517205 : UInt64)) + (a0 &&& (6148914691236517205 : UInt64))) &&& (3689348814741910323 : UInt64)))) &&& (1085102592571150095 : UInt64)) + (shr64 (((shr64 (((shr64 (((shr64 a0 1) &&& (6148914691236517205 : UInt64)) + (a0 &&& (6148914691236517205 : UInt64))) 2) &&& (3689348814741910323 : UInt64)) + ((((shr64 a0 1) &&& (6148914691236517205 : UInt64)) + (a0 &&& (6148914691236517205 : UInt64))) &&& (3689348814741910323 : UInt64))) 4) + (((shr64 (((shr64 a0 1) &&& (6148914691236517205 : UInt64)) + (a0 &&& (6148914691236517205 : UInt64))) 2) &&& (3689348814741910323 : UInt64)) + ((((shr64 a0 1) &&& (6148914691236517205 : UInt64)) + (a0 &&& (6148914691236517205 : UInt64))) &&& (3689348814741910323 : UInt64)))) &&& (1085102592571150095 : UInt64)) 8)) + (shr64 ((((shr64 (((shr64 (((shr64 a0 1) &&& (6148914691236517205 : UInt64)) + (a0 &&& (6148914691236517205 : UInt64))) 2) &&& (3689348814741910323 : UInt64)) + ((((shr64 a0 1) &&& (6148914691236517205 : UInt64)) + (a0 &&& (6148914691236517205 : UInt64))) &&& (3689348814741910323 : UInt64))) 4) + (((shr64 (((shr64 a0 1) &&& (6148914691236517205 : UInt64)) + (a0 &&& (6148914691236517205 : UInt64))) 2) &&& (3689348814741910323 : UInt64)) + ((((shr64 a0 1) &&& (6148914691236517205 : UInt64)) + (a0 &&& (6148914691236517205 : UInt64))) &&& (3689348814741910323 : UInt64)))) &&& (1085102592571150095 : UInt64)) + (shr64 (((shr64 (((shr64 (((shr64 a0 1) &&& (6148914691236517205 : UInt64)) + (a0 &&& (6148914691236517205 : UInt64))) 2) &&& (3689348814741910323 : UInt64)) + ((((shr64 a0 1) &&& (6148914691236517205 : UInt64)) + (a0 &&& (6148914691236517205 : UInt64))) &&& (3689348814741910323 : UInt64))) 4) + (((shr64 (((shr64 a0 1) &&& (6148914691236517205 : UInt64)) + (a0 &&& (6148914691236517205 : UInt64))) 2) &&& (3689348814741910323 : UInt64)) + ((((shr64 a0 1) &&& (6148914691236517205 : UInt64)) + (a0 &&& (6148914691236517205 : UInt64))) &&& (3689348814741910323 : UInt64)))) &&& (1085102592571150095 : UInt64)) 8)) 16)) 32)).toNat : Int)) rfl Tryd.underlying22 Tryd.underlying3) ?_
  refine WL.ex rfl (ex_bin (a := .int .i64 (wrap64 (((((((shr64 (((shr64 (((shr64 a0 1) &&& (6148914691236517205 : UInt64)) + (a0 &&& (6148914691236517205 : UInt64))) 2) &&& (3689348814741910323 : UInt64)) + ((((shr64 a0 1) &&& (6148914691236517205 : UInt64)) + (a0 &&& (6148914691236517205 : UInt64))) &&& (3689348814741910323 : UInt64))) 4) + (((shr64 (((shr64 a0 1) &&& (6148914691236517205 : UInt64)) + (a0 &&& (6148914691236517205 : UInt64))) 2) &&& (3689348814741910323 : UInt64)) + ((((shr64 a0 1) &&& (6148914691236517205 : UInt64)) + (a0 &&& (6148914691236517205 : UInt64))) &&& (3689348814741910323 : UInt64)))) &&& (1085102592571150095 : UInt64)) + (shr64 (((shr64 (((shr64 (((shr64 a0 1) &&& (6148914691236517205 : UInt64)) + (a0 &&& (6148914691236517205 : UInt64))) 2) &&& (3689348814741910323 : UInt64)) + ((((shr64 a0 1) &&& (6148914691236517205 : UInt64)) + (a0 &&& (6148914691236517205 : UInt64))) &&& (3689348814741910323 : UInt64))) 4) + (((shr64 (((shr64 a0 1) &&& (6148914691236517205 : UInt64)) + (a0 &&& (6148914691236517205 : UInt64))) 2) &&& (3689348814741910323 : UInt64)) + ((((shr64 a0 1) &&& (6148914691236517205 : UInt64)) + (a0 &&& (6148914691236517205 : UInt64))) &&& (3689348814741910323 : UInt64)))) &&& (1085102592571150095 : UInt64)) 8)) + (shr64 ((((shr64 (((shr64 (((shr64 a0 1) &&& (6148914691236517205 : UInt64)) + (a0 &&& (6148914691236517205 : UInt64))) 2) &&& (3689348814741910323 : UInt64)) + ((((shr64 a0 1) &&& (6148914691236517205 : UInt64)) + (a0 &&& (6148914691236517205 : UInt64))) &&& (3689348814741910323 : UInt64))) 4) + (((shr64 (((shr64 a0 1) &&& (6148914691236517205 : UInt64)) + (a0 &&& (6148914691236517205 : UInt64))) 2) &&& (3689348814741910323 : UInt64)) + ((((shr64 a0 1) &&& (6148914691236517205 : UInt64)) + (a0 &&& (6148914691236517205 : UInt64))) &&& (3689348814741910323 : UInt64)))) &&& (1085102592571150095 : UInt64)) + (shr64 (((shr64 (((shr64 (((shr64 a0 1) &&& (6148914691236517205 : UInt64)) + (a0 &&& (6148914691236517205 : UInt64))) 2) &&& (3689348814741910323 : UInt64)) + ((((shr64 a0 1) &&& (6148914691236517205 : UInt64)) + (a0 &&& (6148914691236517205 : UInt64))) &&& (3689348814741910323 : UInt64))) 4) + (((shr64 (((shr64 a0 1) &&& (6148914691236517205 : UInt64)) + (a0 &&& (6148914691236517205 : UInt64))) 2) &&& (3689348814741910323 : UInt64)) + ((((shr64 a0 1) &&& (6148914691236517205 : UInt64)) + (a0 &&& (6148914691236517205 : UInt64))) &&& (3689348814741910323 : UInt64)))) &&& (1085102592571150095 : UInt64)) 8)) 16)) + (shr64 (((((shr64 (((shr64 (((shr64 a0 1) &&& (6148914691236517205 : UInt64)) + (a0 &&& (6148914691236517205 : UInt64))) 2) &&& (3689348814741910323 : UInt64)) + ((((shr64 a0 1) &&& (6148914691236517205 : UInt64)) + (a0 &&& (6148914691236517205 : UInt64))) &&& (3689348814741910323 : UInt64))) 4) + (((shr64 (((shr64 a0 1) &&& (6148914691236517205 : UInt64)) + (a0 &&& (6148914691236517205 : UInt64))) 2) &&& (3689348814741910323 : UInt64)) + ((((shr64 a0 1) &&& (6148914691236517205 : UInt64)) + (a0 &&& (6148914691236517205 : UInt64))) &&& (3689348814741910323 : UInt64)))) &&& (1085102592571150095 : UInt64)) + (shr64 (((shr64 (((shr64 (((shr64 a0 1) &&& (6148914691236517205 : UInt64)) + (a0 &&& (6148914691236517205 : UInt64))) 2) &&& (3689348814741910323 : UInt64)) + ((((shr64 a0 1) &&& (6148914691236517205 : UInt64)) + (a0 &&& (6148914691236517205 : UInt64))) &&& (3689348814741910323 : UInt64))) 4) + (((shr64 (((shr64 a0 1) &&& (6148914691236517205 : UInt64)) + (a0 &&& (6148914691236517205 : UInt64))) 2) &&& (3689348814741910323 : UInt64)) + ((((shr64 a0 1) &&& (6148914691236517205 : UInt64)) + (a0 &&& (6148914691236517205 : UInt64))) &&& (3689348814741910323 : UInt64)))) &&& (1085102592571150095 : UInt64)) 8)) + (shr64 ((((shr64 (((shr64 (((shr64 a0 1) &&& (6148914691236517205 : UInt64)) + (a0 &&& (6148914691236517205 : UInt64))) 2) &&& (3689348814741910323 : UInt64)) + ((((shr64 a0 1) &&& (6148914691236517205 : UInt64)) + (a0 &&& (6148914691236517205 : UInt64))) &&& (3689348814741910323 : UInt64))) 4) + (((shr64 (((shr64 a0 1) &&& (6148914691236517205 : UInt64)) + (a0 &&& (6148914691236517205 : UInt64))) 2) &&& (3689348814741910323 : UInt64)) + ((((shr64 a0 1) &&& (6148914691236517205 : UInt64)) + (a0 &&& (6148914691236517205 : UInt64))) &&& (3689348814741910323 : UInt64)))) &&& (1085102592571150095 : UInt64)) + (shr64 (((shr64 (((shr64 (((shr64 a0 1) &&& (6148914691236517205 : UInt64)) + (a0 &&& (6148914691236517205 : UInt64))) 2) &&& (3689348814741910323 : UInt64)) + ((((shr64 a0 1) &&& (6148914691236517205 : UInt64)) + (a0 &&& (6148914691236517205 : UInt64))) &&& (3689348814741910323 : UInt64))) 4) + (((shr64 (((shr64 a0 1) &&& (6148914691236517205 : UInt64)) + (a0 &&& (6148914691236517205 : UInt64))) 2) &&& (3689348814741910323 : UInt64)) + ((((shr64 a0 1) &&& (6148914691236517205 : UInt64)) + (a0 &&& (6148914691236517205 : UInt64))) &&& (3689348814741910323 : UInt64)))) &&& (1085102592571150095 : UInt64)) 8)) 16)) 32)).toNat : Int))) (b := .int .i64 127) (v := .int .i64 (andI (wrap64 (((((((shr64 (((shr64 (((shr64 a0 1) &&& (6148914691236517205 : UInt64)) + (a0 &&& (6148914691236517205 : UInt64))) 2) &&& (3689348814741910323 : UInt64)) + ((((shr64 a0 1) &&& (6148914691236517205 : UInt64)) + (a0 &&& (6148914691236517205 : UInt64))) &&& (3689348814741910323 : UInt64))) 4) + (((shr64 (((shr64 a0 1) &&& (6148914691236517205 : UInt64)) + (a0 &&& (6148914691236517205 : UInt64))) 2) &&& (3689348814741910323 : UInt64)) + ((((shr64 a0 1) &&& (6148914691236517205 : UInt64)) + (a0 &&& (6148914691236517205 : UInt64))) &&& (3689348814741910323 : UInt64)))) &&& (1085102592571150095 : UInt64)) + (shr64 (((shr64 (((shr64 (((shr64 a0 1) &&& (6148914691236517205 : UInt64)) + (a0 &&& (6148914691236517205 : UInt64))) 2) &&& (3689348814741910323 : UInt64)) + ((((shr64 a0 1) &&& (6148914691236517205 : UInt64)) + (a0 &&& (6148914691236517205 : UInt64))) &&& (3689348814741910323 : UInt64))) 4) + (((shr64 (((shr64 a0 1) &&& (6148914691236517205 : UInt64)) + (a0 &&& (6148914691236517205 : UInt64))) 2) &&& (3689348814741910323 : UInt64)) + ((((shr64 a0 1) &&& (6148914691236517205 : UInt64)) + (a0 &&& (6148914691236517205 : UInt64))) &&& (3689348814741910323 : UInt64)))) &&& (1085102592571150095 : UInt64)) 8)) + (shr64 ((((shr64 (((shr64 (((shr64 a0 1) &&& (6148914691236517205 : UInt64)) + (a0 &&& (6148914691236517205 : UInt64))) 2) &&& (3689348814741910323 : UInt64)) + ((((shr64 a0 1) &&& (6148914691236517205 : UInt64)) + (a0 &&& (6148914691236517205 : UInt64))) &&& (3689348814741910323 : UInt64))) 4) + (((shr64 (((shr64 a0 1) &&& (6148914691236517205 : UInt64)) + (a0 &&& (6148914691236517205 : UInt64))) 2) &&& (3689348814741910323 : UInt64)) + ((((shr64 a0 1) &&& (6148914691236517205 : UInt64)) + (a0 &&& (6148914691236517205 : UInt64))) &&& (3689348814741910323 : UInt64)))) &&& (1085102592571150095 : UInt64)) + (shr64 (((shr64 (((shr64 (((shr64 a0 1) &&& (6148914691236517205 : UInt64)) + (a0 &&& (6148914691236517205 : UInt64))) 2) &&& (3689348814741910323 : UInt64)) + ((((shr64 a0 1) &&& (6148914691236517205 : UInt64)) + (a0 &&& (6148914691236517205 : UInt64))) &&& (3689348814741910323 : UInt64))) 4) + (((shr64 (((shr64 a0 1) &&& (6148914691236517205 : UInt64)) + (a0 &&& (6148914691236517205 : UInt64))) 2) &&& (3689348814741910323 : UInt64)) + ((((shr64 a0 1) &&& (6148914691236517205 : UInt64)) + (a0 &&& (6148914691236517205 : UInt64))) &&& (3689348814741910323 : UInt64)))) &&& (1085102592571150095 : UInt64)) 8)) 16)) + (shr64 (((((shr64 (((shr64 (((shr64 a0 1) &&& (6148914691236517205 : UInt64)) + (a0 &&& (6148914691236517205 : UInt64))) 2) &&& (3689348814741910323 : UInt64)) + ((((shr64 a0 1) &&& (6148914691236517205 : UInt64)) + (a0 &&& (6148914691236517205 : UInt64))) &&& (3689348814741910323 : UInt64))) 4) + (((shr64 (((shr64 a0 1) &&& (6148914691236517205 : UInt64)) + (a0 &&& (6148914691236517205 : UInt64))) 2) &&& (3689348814741910323 : UInt64)) + ((((shr64 a0 1) &&& (6148914691236517205 : UInt64)) + (a0 &&& (6148914691236517205 : UInt64))) &&& (3689348814741910323 : UInt64)))) &&& (1085102592571150095 : UInt64)) + (shr64 (((shr64 (((shr64 (((shr64 a0 1) &&& (6148914691236517205 : UInt64)) + (a0 &&& (6148914691236517205 : UInt64))) 2) &&& (3689348814741910323 : UInt64)) + ((((shr64 a0 1) &&& (6148914691236517205 : UInt64)) + (a0 &&& (6148914691236517205 : UInt64))) &&& (3689348814741910323 : UInt64))) 4) + (((shr64 (((shr64 a0 1) &&& (6148914691236517205 : UInt64)) + (a0 &&& (6148914691236517205 : UInt64))) 2) &&& (3689348814741910323 : UInt64)) + ((((shr64 a0 1) &&& (6148914691236517205 : UInt64)) + (a0 &&& (6148914691236517205 : UInt64))) &&& (3689348814741910323 : UInt64)))) &&& (1085102592571150095 : UInt64)) 8)) + (shr64 ((((shr64 (((shr64 (((shr64 a0 1) &&& (6148914691236517205 : UInt64)) + (a0 &&& (6148914691236517205 : UInt64))) 2) &&& (3689348814741910323 : UInt64)) + ((((shr64 a0 1) &&& (6148914691236517205 : UInt64)) + (a0 &&& (6148914691236517205 : UInt64))) &&& (3689348814741910323 : UInt64))) 4) + (((shr64 (((shr64 a0 1) &&& (6148914691236517205 : UInt64)) + (a0 &&& (6148914691236517205 : UInt64))) 2) &&& (3689348814741910323 : UInt64)) + ((((shr64 a0 1) &&& (6148914691236517205 : UInt64)) + (a0 &&& (6148914691236517205 : UInt64))) &&& (3689348814741910323 : UInt64)))) &&& (1085102592571150095 : UInt64)) + (shr64 (((shr64 (((shr64 (((shr64 a0 1) &&& (6148914691236517205 : UInt64)) + (a0 &&& (6148914691236517205 : UInt64))) 2) &&& (3689348814741910323 : UInt64)) + ((((shr64 a0 1) &&& (6148914691236517205 : UInt64)) + (a0 &&& (6148914691236517205 : UInt64))) &&& (3689348814741910323 : UInt64))) 4) + (((shr64 (((shr64 a0 1) &&& (6148914691236517205 : UInt64)) + (a0 &&& (6148914691236517205 : UInt64))) 2) &&& (3689348814741910323 : UInt64)) + ((((shr64 a0 1) &&& (6148914691236517205 : UInt64)) + (a0 &&& (6148914691236517205 : UInt64))) &&& (3689348814741910323 : UInt64)))) &&& (1085102592571150095 : UInt64)) 8)) 16)) 32)).toNat : Int)) 127)) rfl rfl bin_and_i64) ?_
  refine WL.ex rfl (ex_assign (v := .int .i64 (andI (wrap64 (((((((shr64 (((shr64 (((shr64 a0 1) &&& (6148914691236517205 : UInt64)) + (a0 &&& (6148914691236517205 : UInt64))) 2) &&& (3689348814741910323 : UInt64)) + ((((shr64 a0 1) &&& (6148914691236517205 : UInt64)) + (a0 &&& (6148914691236517205 : UInt64))) &&& (3689348814741910323 : UInt64))) 4) + (((shr64 (((shr64 a0 1) &&& (6148914691236517205 : UInt64)) + (a0 &&& (6148914691236517205 : UInt64))) 2) &&& (3689348814741910323 : UInt64)) + ((((shr64 a0 1) &&& (6148914691236517205 : UInt64)) + (a0 &&& (6148914691236517205 : UInt64))) &&& (3689348814741910323 : UInt64)))) &&& (1085102592571150095 : UInt64)) + (shr64 (((shr64 (((shr64 (((shr64 a0 1) &&& (6148914691236517205 : UInt64)) + (a0 &&& (6148914691236517205 : UInt64))) 2) &&& (3689348814741910323 : UInt64)) + ((((shr64 a0 1) &&& (6148914691236517205 : UInt64)) + (a0 &&& (6148914691236517205 : UInt64))) &&& (3689348814741910323 : UInt64))) 4) + (((shr64 (((shr64 a0 1) &&& (6148914691236517205 : UInt64)) + (a0 &&& (6148914691236517205 : UInt64))) 2) &&& (3689348814741910323 : UInt64)) + ((((shr64 a0 1) &&& (6148914691236517205 : UInt64)) + (a0 &&& (6148914691236517205 : UInt64))) &&& (3689348814741910323 : UInt64)))) &&& (1085102592571150095 : UInt64)) 8)) + (shr64 ((((shr64 (((shr64 (((shr64 a0 1) &&& (6148914691236517205 : UInt64)) + (a0 &&& (6148914691236517205 : UInt64))) 2) &&& (3689348814741910323 : UInt64)) + ((((shr64 a0 1) &&& (6148914691236517205 : UInt64)) + (a0 &&& (6148914691236517205 : UInt64))) &&& (3689348814741910323 : UInt64))) 4) + (((shr64 (((shr64 a0 1) &&& (6148914691236517205 : UInt64)) + (a0 &&& (6148914691236517205 : UInt64))) 2) &&& (3689348814741910323 : UInt64)) + ((((shr64 a0 1) &&& (6148914691236517205 : UInt64)) + (a0 &&& (6148914691236517205 : UInt64))) &&& (3689348814741910323 : UInt64)))) &&& (1085102592571150095 : UInt64)) + (shr64 (((shr64 (((shr64 (((shr64 a0 1) &&& (6148914691236517205 : UInt64)) + (a0 &&& (6148914691236517205 : UInt64))) 2) &&& (3689348814741910323 : UInt64)) + ((((shr64 a0 1) &&& (6148914691236517205 : UInt64)) + (a0 &&& (6148914691236517205 : UInt64))) &&& (3689348814741910323 : UInt64))) 4) + (((shr64 (((shr64 a0 1) &&& (6148914691236517205 : UInt64)) + (a0 &&& (6148914691236517205 : UInt64))) 2) &&& (3689348814741910323 : UInt64)) + ((((shr64 a0 1) &&& (6148914691236517205 : UInt64)) + (a0 &&& (6148914691236517205 : UInt64))) &&& (3689348814741910323 : UInt64)))) &&& (1085102592571150095 : UInt64)) 8)) 16)) + (shr64 (((((shr64 (((shr64 (((shr64 a0 1) &&& (6148914691236517205 : UInt64)) + (a0 &&& (6148914691236517205 : UInt64))) 2) &&& (3689348814741910323 : UInt64)) + ((((shr64 a0 1) &&& (6148914691236517205 : UInt64)) + (a0 &&& (6148914691236517205 : UInt64))) &&& (3689348814741910323 : UInt64))) 4) + (((shr64 (((shr64 a0 1) &&& (6148914691236517205 : UInt64)) + (a0 &&& (6148914691236517205 : UInt64))) 2) &&& (3689348814741910323 : UInt64)) + ((((shr64 a0 1) &&& (6148914691236517205 : UInt64)) + (a0 &&& (6148914691236517205 : UInt64))) &&& (3689348814741910323 : UInt64)))) &&& (1085102592571150095 : UInt64)) + (shr64 (((shr64 (((shr64 (((shr64 a0 1) &&& (6148914691236517205 : UInt64)) + (a0 &&& (6148914691236517205 : UInt64))) 2) &&& (3689348814741910323 : UInt64)) + ((((shr64 a0 1) &&& (6148914691236517205 : UInt64)) + (a0 &&& (6148914691236517205 : UInt64))) &&& (3689348814741910323 : UInt64))) 4) + (((shr64 (((shr64 a0 1) &&& (6148914691236517205 : UInt64)) + (a0 &&& (6148914691236517205 : UInt64))) 2) &&& (3689348814741910323 : UInt64)) + ((((shr64 a0 1) &&& (6148914691236517205 : UInt64)) + (a0 &&& (6148914691236517205 : UInt64))) &&& (3689348814741910323 : UInt64)))) &&& (1085102592571150095 : UInt64)) 8)) + (shr64 ((((shr64 (((shr64 (((shr64 a0 1) &&& (6148914691236517205 : UInt64)) + (a0 &&& (6148914691236517205 : UInt64))) 2) &&& (3689348814741910323 : UInt64)) + ((((shr64 a0 1) &&& (6148914691236517205 : UInt64)) + (a0 &&& (6148914691236517205 : UInt64))) &&& (3689348814741910323 : UInt64))) 4) + (((shr64 (((shr64 a0 1) &&& (6148914691236517205 : UInt64)) + (a0 &&& (6148914691236517205 : UInt64))) 2) &&& (3689348814741910323 : UInt64)) + ((((shr64 a0 1) &&& (6148914691236517205 : UInt64)) + (a0 &&& (6148914691236517205 : UInt64))) &&& (3689348814741910323 : UInt64)))) &&& (1085102592571150095 : UInt64)) + (shr64 (((shr64 (((shr64 (((shr64 a0 1) &&& (6148914691236517205 : UInt64)) + (a0 &&& (6148914691236517205 : UInt64))) 2) &&& (3689348814741910323 : UInt64)) + ((((shr64 a0 1) &&& (6148914691236517205 : UInt64)) + (a0 &&& (6148914691236517205 : UInt64))) &&& (3689348814741910323 : UInt64))) 4) + (((shr64 (((shr64 a0 1) &&& (6148914691236517205 : UInt64)) + (a0 &&& (6148914691236517205 : UInt64))) 2) &&& (3689348814741910323 : UInt64)) + ((((shr64 a0 1) &&& (6148914691236517205 : UInt64)) + (a0 &&& (6148914691236517205 : UInt64))) &&& (3689348814741910323 : UInt64)))) &&& (1085102592571150095 : UInt64)) 8)) 16)) 32)).toNat : Int)) 127)) rfl) ?_
  refine WL.nil ?_
  refine WC.ret ?_
  obtain rfl := Option.some.inj H
  exact ⟨_, (.tmp (.int .i64 (andI (wrap64 (((((((shr64 (((shr64 (((shr64 a0 1) &&& (6148914691236517205 : UInt64)) + (a0 &&& (6148914691236517205 : UInt64))) 2) &&& (3689348814741910323 : UInt64)) + ((((shr64 a0 1) &&& (6148914691236517205 : UInt64)) + (a0 &&& (6148914691236517205 : UInt64))) &&& (3689348814741910323 : UInt64))) 4) + (((shr64 (((shr64 a0 1) &&& (6148914691236517205 : UInt64)) + (a0 &&& (6148914691236517205 : UInt64))) 2) &&& (3689348814741910323 : UInt64)) + ((((shr64 a0 1) &&& (6148914691236517205 : UInt64)) + (a0 &&& (6148914691236517205 : UInt64))) &&& (3689348814741910323 : UInt64)))) &&& (1085102592571150095 : UInt64)) + (shr64 (((shr64 (((shr64 (((shr64 a0 1) &&& (6148914691236517205 : UInt64)) + (a0 &&& (6148914691236517205 : UInt64))) 2) &&& (3689348814741910323 : UInt64)) + ((((shr64 a0 1) &&& (6148914691236517205 : UInt64)) + (a0 &&& (6148914691236517205 : UInt64))) &&& (3689348814741910323 : UInt64))) 4) + (((shr64 (((shr64 a0 1) &&& (6148914691236517205 : UInt64)) + (a0 &&& (6148914691236517205 : UInt64))) 2) &&& (3689348814741910323 : UInt64)) + ((((shr64 a0 1) &&& (6148914691236517205 : UInt64)) + (a0 &&& (6148914691236517205 : UInt64))) &&& (3689348814741910323 : UInt64)))) &&& (1085102592571150095 : UInt64)) 8)) + (shr64 ((((shr64 (((shr64 (((shr64 a0 1) &&& (6148914691236517205 : UInt64)) + (a0 &&& (6148914691236517205 : UInt64))) 2) &&& (3689348814741910323 : UInt64)) + ((((shr64 a0 1) &&& (6148914691236517205 : UInt64)) + (a0 &&& (6148914691236517205 : UInt64))) &&& (3689348814741910323 : UInt64))) 4) + (((shr64 (((shr64 a0 1) &&& (6148914691236517205 : UInt64)) + (a0 &&& (6148914691236517205 : UInt64))) 2) &&& (3689348814741910323 : UInt64)) + ((((shr64 a0 1) &&& (6148914691236517205 : UInt64)) + (a0 &&& (6148914691236517205 : UInt64))) &&& (3689348814741910323 : UInt64)))) &&& (1085102592571150095 : UInt64)) + (shr64 (((shr64 (((shr64 (((shr64 a0 1) &&& (6148914691236517205 : UInt64)) + (a0 &&& (6148914691236517205 : UInt64))) 2) &&& (3689348814741910323 : UInt64)) + ((((shr64 a0 1) &&& (6148914691236517205 : UInt64)) + (a0 &&& (6148914691236517205 : UInt64))) &&& (3689348814741910323 : UInt64))) 4) + (((shr64 (((shr64 a0 1) &&& (6148914691236517205 : UInt64)) + (a0 &&& (6148914691236517205 : UInt64))) 2) &&& (3689348814741910323 : UInt64)) + ((((shr64 a0 1) &&& (6148914691236517205 : UInt64)) + (a0 &&& (6148914691236517205 : UInt64))) &&& (3689348814741910323 : UInt64)))) &&& (1085102592571150095 : UInt64)) 8)) 16)) + (shr64 (((((shr64 (((shr64 (((shr64 a0 1) &&& (6148914691236517205 : UInt64)) + (a0 &&& (6148914691236517205 : UInt64))) 2) &&& (3689348814741910323 : UInt64)) + ((((shr64 a0 1) &&& (6148914691236517205 : UInt64)) + (a0 &&& (6148914691236517205 : UInt64))) &&& (3689348814741910323 : UInt64))) 4) + (((shr64 (((shr64 a0 1) &&& (6148914691236517205 : UInt64)) + (a0 &&& (6148914691236517205 : UInt64))) 2) &&& (3689348814741910323 : UInt64)) + ((((shr64 a0 1) &&& (6148914691236517205 : UInt64)) + (a0 &&& (6148914691236517205 : UInt64))) &&& (3689348814741910323 : UInt64)))) &&& (1085102592571150095 : UInt64)) + (shr64 (((shr64 (((shr64 (((shr64 a0 1) &&& (6148914691236517205 : UInt64)) + (a0 &&& (6148914691236517205 : UInt64))) 2) &&& (3689348814741910323 : UInt64)) + ((((shr64 a0 1) &&& (6148914691236517205 : UInt64)) + (a0 &&& (6148914691236517205 : UInt64))) &&& (3689348814741910323 : UInt64))) 4) + (((shr64 (((shr64 a0 1) &&& (6148914691236517205 : UInt64)) + (a0 &&& (6148914691236517205 : UInt64))) 2) &&& (3689348814741910323 : UInt64)) + ((((shr64 a0 1) &&& (6148914691236517205 : UInt64)) + (a0 &&& (6148914691236517205 : UInt64))) &&& (3689348814741910323 : UInt64)))) &&& (1085102592571150095 : UInt64)) 8)) + (shr64 ((((shr64 (((shr64 (((shr64 a0 1) &&& (6148914691236517205 : UInt64)) + (a0 &&& (6148914691236517205 : UInt64))) 2) &&& (3689348814741910323 : UInt64)) + ((((shr64 a0 1) &&& (6148914691236517205 : UInt64)) + (a0 &&& (6148914691236517205 : UInt64))) &&& (3689348814741910323 : UInt64))) 4) + (((shr64 (((shr64 a0 1) &&& (6148914691236517205 : UInt64)) + (a0 &&& (6148914691236517205 : UInt64))) 2) &&& (3689348814741910323 : UInt64)) + ((((shr64 a0 1) &&& (6148914691236517205 : UInt64)) + (a0 &&& (6148914691236517205 : UInt64))) &&& (3689348814741910323 : UInt64)))) &&& (1085102592571150095 : UInt64)) + (shr64 (((shr64 (((shr64 (((shr64 a0 1) &&& (6148914691236517205 : UInt64)) + (a0 &&& (6148914691236517205 : UInt64))) 2) &&& (3689348814741910323 : UInt64)) + ((((shr64 a0 1) &&& (6148914691236517205 : UInt64)) + (a0 &&& (6148914691236517205 : UInt64))) &&& (3689348814741910323 : UInt64))) 4) + (((shr64 (((shr64 a0 1) &&& (6148914691236517205 : UInt64)) + (a0 &&& (6148914691236517205 : UInt64))) 2) &&& (3689348814741910323 : UInt64)) + ((((shr64 a0 1) &&& (6148914691236517205 : UInt64)) + (a0 &&& (6148914691236517205 : UInt64))) &&& (3689348814741910323 : UInt64)))) &&& (1085102592571150095 : UInt64)) 8)) 16)) 32)).toNat : Int)) 127) : Value) rfl .nil), _, rfl, HF.out⟩

/-! ### bits_Count -/
set_option maxRecDepth 100000 in
theorem bits_Count.calls (k : Nat) (o0 : Tags) (w0 : World) (a0 : (List UInt64)) (r : Int) (hO : ∀ b, b < w0.heap.size → o0 b < 10) (hla0 : a0.length = 16) (H : bits_Count.f k a0 = some r) :
    Calls Tryd.prog 23 [.agg (List.map enc64 a0).toArray].toArray w0 fun e_ w_ => ∃ (o_ : Tags), e_ = .returned (one [.int .i64 r]) ∧ Step o0 w0 o_ w_ [] := by
  have HF := Fm.refl hO []
  unfold bits_Count.f at H
  refine SX.calls [.agg (List.map enc64 a0).toArray] Tryd.func23 rfl rfl ?_
  rw [Tryd.ntmps23]
  refine WC.seq ?_
  refine WC.region ?_
  refine WL.op rfl ?_
  refine OW.box' (List.map enc64 a0) 10 HF rfl ((congrArg Value.cells (show ev _ _ = (.agg (List.map enc64 a0).toArray : Value) from rfl)).trans rfl) ?_
  intro o102 w103 b101 s104 hB105
  replace HF := HF.step s104 rfl
  refine WL.ex rfl (ex_assign (v := .int .i64 0) rfl) ?_
  refine WL.nil ?_
  refine WC.seq ?_
  refine WC.region ?_
  refine WL.ex rfl (ex_assign (v := .int .i64 0) rfl) ?_
  refine WL.nil ?_
  refine WC.seq ?_
  refine WC.seq ?_
  refine WC.region ?_
  refine WL.ex rfl (ex_loadAV (xs := a0) rfl Tryd.underlying24 sz24 hla0 hB105) ?_
  refine WL.ex rfl (ex_move (v := .int .i64 0) rfl) ?_
  refine WL.nil ?_
  obtain ⟨z109, hz109, H⟩ := bindE H
  refine WC.for (fun k_ ρ_ w_ => ∃ (o_ : Tags) (x106 : Int) (x107 : Int), Fm o0 w0 o_ w_ [] ∧ ρ_ 2 = .int .i64 0 ∧ ρ_ 3 = .int .i64 x106 ∧ ρ_ 6 = .agg (List.map enc64 a0).toArray ∧ ρ_ 7 = .int .i64 x107 ∧ bits_Count.l1 k a0 k_ x106 x107 = some z109) k (fun ρ_ w_ => ∃ (o_ : Tags), Fm o0 w0 o_ w_ [] ∧ ρ_ 2 = .int .i64 0 ∧ ρ_ 3 = .int .i64 z109) ⟨_, 0, 0, HF, rfl, rfl, rfl, rfl, hz109⟩ ?case110 ?_
  case case110 =>
    rintro ρ122 w123 ⟨o124, HF, s2_107, s3_108⟩
    refine WC.seq ?_
    refine WC.region ?_
    refine WL.ex rfl (ex_move (v := .int .i64 z109) s3_108) ?_
    refine WL.ex rfl (ex_assign (v := .int .i64 z109) rfl) ?_
    refine WL.nil ?_
    refine WC.ret ?_
    obtain rfl := Option.some.inj H
    exact ⟨_, (.tmp (.int .i64 z109 : Value) rfl .nil), _, rfl, HF.out⟩
  have Ho111 := H
  rintro k112 ρ113 w114 ⟨o115, x106, x107, HF, s2_105, s3_106, s6_106, s7_107, H⟩
  cases k112 with
  | zero => cases H
  | succ k112 =>
  rw [bits_Count.l1.eq_2] at H
  refine WC.seq ?_
  refine WC.region ?_
  refine WL.ex rfl (ex_bin (a := .int .i64 x107) (b := .int .i64 16) (v := .bool (decide (x107 < 16))) s7_107 rfl bin_lss) ?_
  refine WL.nil ?_
  refine WC.seq ?_
  rcases condE H with ⟨c116, H⟩ | ⟨c116, H⟩
  ·
    refine WC.cond_t ((show _ = Value.bool (decide (x107 < 16)) from rfl).trans (congrArg Value.bool c116)) ?_
    refine WC.skip ?_
    refine WC.seq ?_
    refine WC.block ?_
    refine WC.seq ?_
    refine WC.region ?_
    obtain ⟨x117, hx117, H⟩ := bindE H
    refine WL.ex rfl (ex_indexAV (enc := enc64) (i := x107) s6_106 s7_107 Tryd.underlying24 Tryd.underlying22 rfl sz22 hla0 hx117) ?_
    refine WL.ex rfl (ex_assign (v := enc64 x117) rfl) ?_
    refine WL.nil ?_
    refine WC.region ?_
    refine WL.ex rfl (ex_move (v := .int .i64 x106) s3_106) ?_
    refine WL.ex rfl (ex_move (v := enc64 x117) rfl) ?_
    obtain ⟨z118, hz118, H⟩ := bindE H
    refine WL.op rfl ?_
    refine OW.call [enc64 x117] rfl Tryd.func52 (by kernel_rfl) (by kernel_rfl) (map_cons' rfl rfl) (bits_OnesCount64.calls _ _ x117 z118 (HF.ten (V := [0]) (L := []) rfl)  hz118) ?_
    rintro _ w119 ⟨o120, rfl, s121⟩
    refine ⟨_, rfl, ?_⟩
    replace s121 := un_stepL (J := []) (L' := []) s121 rfl rfl
    replace HF := HF.step s121 rfl
    refine WL.ex rfl (ex_bin (a := .int .i64 x106) (b := .int .i64 z118) (v := .int .i64 (wrap64 (x106 + z118))) rfl rfl bin_add64) ?_
    refine WL.ex rfl (ex_assign (v := .int .i64 (wrap64 (x106 + z118))) rfl) ?_
    refine WL.nil ?_
    refine WC.region ?_
    refine WL.ex rfl (ex_bin (a := .int .i64 x107) (b := .int .i64 1) (v := .int .i64 (wrap64 (x107 + 1))) s7_107 rfl bin_add64) ?_
    refine WL.ex rfl (ex_move (v := .int .i64 (wrap64 (x107 + 1))) rfl) ?_
    refine WL.nil ?_
    exact ⟨k112, Nat.lt_succ_self _, ⟨_, wrap64 (x106 + z118), wrap64 (x107 + 1), HF, s2_105, rfl, s6_106, rfl, H⟩⟩
  ·
    refine WC.cond_f ((show _ = Value.bool (decide (x107 < 16)) from rfl).trans (congrArg Value.bool c116)) ?_
    refine WC.exit ?_
    obtain rfl := Option.some.inj H
    exact ⟨_, HF, s2_105, s3_106⟩

/-! ### bits_Compare_1 -/
set_option maxRecDepth 100000 in
theorem bits_Compare_1.calls (o0 : Tags) (w0 : World) (a0 : UInt64) (a1 : UInt64) (r : UInt64) (hO : ∀ b, b < w0.heap.size → o0 b < 10) (H : bits_Compare_1.f a0 a1 = some r) :
    Calls Tryd.prog 53 [enc64 a0, enc64 a1].toArray w0 fun e_ w_ => ∃ (o_ : Tags), e_ = .returned (one [enc64 r]) ∧ Step o0 w0 o_ w_ [] := by
  have HF := Fm.refl hO []
  unfold bits_Compare_1.f at H
  refine SX.calls [enc64 a0, enc64 a1] Tryd.func53 rfl rfl ?_
  rw [Tryd.ntmps53]
  refine WC.seq ?_
  refine WC.region ?_
  refine WL.ex rfl (ex_assign (v := enc64 (0 : UInt64)) rfl) ?_
  refine WL.nil ?_
  refine WC.seq ?_
  refine WC.region ?_
  refine WL.ex rfl (ex_move (v := enc64 a0) rfl) ?_
  refine WL.ex rfl (ex_move (v := enc64 a1) rfl) ?_
  refine WL.ex rfl (ex_bin (a := enc64 a0) (b := enc64 a1) (v := enc64 (a0 ^^^ a1)) rfl rfl bin_xor_u64) ?_
  refine WL.ex rfl (ex_assign (v := enc64 (a0 ^^^ a1)) rfl) ?_
  refine WL.nil ?_
  refine WC.ret ?_
  obtain rfl := Option.some.inj H
  exact ⟨_, (.tmp (enc64 (a0 ^^^ a1) : Value) rfl .nil), _, rfl, HF.out⟩

/-! ### bits_each_bits_Compare_1 -/
set_option maxRecDepth 100000 in
theorem bits_each_bits_Compare_1.calls (k : Nat) (o0 : Tags) (w0 : World) (a0 : (List UInt64)) (a1 : (List UInt64)) (r : (List UInt64)) (hO : ∀ b, b < w0.heap.size → o0 b < 10) (hla0 : a0.length = 16) (hla1 : a1.length = 16) (H : bits_each_bits_Compare_1.f k a0 a1 = some r) :
    Calls Tryd.prog 48 [.agg (List.map enc64 a0).toArray, .agg (List.map enc64 a1).toArray, .func (.func 53) #[] #[]].toArray w0 fun e_ w_ => ∃ (o_ : Tags), e_ = .returned (one [.agg (List.map enc64 r).toArray]) ∧ Step o0 w0 o_ w_ [] ∧ r.length = 16 := by
  have HF := Fm.refl hO []
  unfold bits_each_bits_Compare_1.f at H
  refine SX.calls [.agg (List.map enc64 a0).toArray, .agg (List.map enc64 a1).toArray, .func (.func 53) #[] #[]] Tryd.func48 rfl rfl ?_
  rw [Tryd.ntmps48]
  refine WC.seq ?_
  refine WC.region ?_
  refine WL.op rfl ?_
  refine OW.box' (List.map enc64 a0) 10 HF rfl ((congrArg Value.cells (show ev _ _ = (.agg (List.map enc64 a0).toArray : Value) from rfl)).trans rfl) ?_
  intro o102 w103 b101 s104 hB105
  replace HF := HF.step s104 rfl
  refine WL.op rfl ?_
  refine OW.box' (List.map enc64 a1) 11 HF rfl ((congrArg Value.cells (show ev _ _ = (.agg (List.map enc64 a1).toArray : Value) from rfl)).trans rfl) ?_
  intro o107 w108 b106 s109 hB110
  replace hB105 := hB105.step s109 rfl
  replace HF := HF.step s109 rfl
  refine WL.op rfl ?_
  refine OW.alloc' (List.map enc64 (List.replicate 16 ((0 : UInt64)))) 12 HF rfl zr24 rfl ?_
  intro o112 w113 b111 s114 hB115
  replace hB105 := hB105.step s114 rfl
  replace hB110 := hB110.step s114 rfl
  replace HF := HF.step s114 rfl
  refine WL.nil ?_
  refine WC.seq ?_
  refine WC.seq ?_
  refine WC.region ?_
  refine WL.ex rfl (ex_move (v := .int .i64 0) rfl) ?_
  refine WL.nil ?_
  obtain ⟨z121, hz121, H⟩ := bindE H
  refine WC.for (fun k_ ρ_ w_ => ∃ (o_ : Tags) (x116 : Int) (x117 : (List UInt64)), Fm o0 w0 o_ w_ [] ∧ Bk o_ w_ 10 b101 (List.map enc64 x117) 24 ∧ x117.length = 16 ∧ Bk o_ w_ 11 b106 (List.map enc64 a1) 24 ∧ Bk o_ w_ 12 b111 (List.map enc64 (List.replicate 16 ((0 : UInt64)))) 24 ∧ ρ_ 2 = .func (.func 53) #[] #[] ∧ ρ_ 3 = .pointer (some ⟨b101, 0, none⟩) ∧ ρ_ 4 = .pointer (some ⟨b106, 0, none⟩) ∧ ρ_ 6 = .pointer (some ⟨b111, 0, none⟩) ∧ ρ_ 8 = .int .i64 x116 ∧ bits_each_bits_Compare_1.l1 k a1 k_ x116 x117 = some z121) k (fun ρ_ w_ => ∃ (o_ : Tags), Fm o0 w0 o_ w_ [] ∧ Bk o_ w_ 10 b101 (List.map enc64 z121) 24 ∧ z121.length = 16 ∧ Bk o_ w_ 12 b111 (List.map enc64 (List.replicate 16 ((0 : UInt64)))) 24 ∧ ρ_ 3 = .pointer (some ⟨b101, 0, none⟩) ∧ ρ_ 6 = .pointer (some ⟨b111, 0, none⟩)) ⟨_, 0, a0, HF, hB105, hla0, hB110, hB115, rfl, rfl, rfl, rfl, rfl, hz121⟩ ?case122 ?_
  case case122 =>
    rintro ρ142 w143 ⟨o144, HF, hB105, hl120, hB115, s3_118, s6_118⟩
    refine WC.seq ?_
    refine WC.region ?_
    refine WL.ex rfl (ex_loadAV (xs := z121) s3_118 Tryd.underlying24 sz24 hl120 hB105) ?_
    refine WL.op rfl ?_
    refine OW.storeAV (ys := z121) s6_118 rfl (fun _ => rfl) sz24 rfl hl120 hB115 ?_
    intro w145 s146 hB147
    replace hB105 := hB105.step s146 rfl
    replace HF := HF.step s146 rfl
    refine WL.nil ?_
    refine WC.ret ?_
    obtain rfl := Option.some.inj H
    exact ⟨_, (.cell (.agg (List.map enc64 z121).toArray : Value) s6_118 (run_loadAV Tryd.underlying24 sz24 hl120 hB147) .nil), _, rfl, HF.out, hl120⟩
  have Ho123 := H
  rintro k124 ρ125 w126 ⟨o127, x116, x117, HF, hB105, hl118, hB110, hB115, s2_115, s3_115, s4_115, s6_115, s8_116, H⟩
  cases k124 with
  | zero => cases H
  | succ k124 =>
  rw [bits_each_bits_Compare_1.l1.eq_2] at H
  refine WC.seq ?_
  refine WC.region ?_
  refine WL.ex rfl (ex_bin (a := .int .i64 x116) (b := .int .i64 16) (v := .bool (decide (x116 < 16))) s8_116 rfl bin_lss) ?_
  refine WL.nil ?_
  refine WC.seq ?_
  rcases condE H with ⟨c128, H⟩ | ⟨c128, H⟩
  ·
    refine WC.cond_t ((show _ = Value.bool (decide (x116 < 16)) from rfl).trans (congrArg Value.bool c128)) ?_
    refine WC.skip ?_
    refine WC.seq ?_
    refine WC.block ?_
    refine WC.seq ?_
    refine WC.region ?_
    refine WL.ex rfl (ex_move (v := .int .i64 x116) s8_116) ?_
    refine WL.ex rfl (ex_assign (v := .int .i64 x116) rfl) ?_
    refine WL.nil ?_
    refine WC.regionD' HF [10] 11 (by kernel_rfl) rfl ?_
    intro w129 s130
    replace hB105 := hB105.step s130 rfl
    replace hB110 := hB110.step s130 rfl
    replace hB115 := hB115.step s130 rfl
    replace HF := HF.step s130 rfl
    have hB105D := hB105
    have hB110D := hB110
    have hB115D := hB115
    have sR := HF.here [10]
    refine WA.norm (listed' := #[false, false, false, false, false, false, false, false, false, false, false]) (by kernel_rfl) ?_
    refine WA.ex 0 rfl (by kernel_rfl) (by kernel_rfl) (by kernel_rfl) rfl ⟨_, sR⟩ (fun w_ hS_ => ex_move (v := .int .i64 x116) rfl) ?_
    refine WA.norm (listed' := #[true, false, false, false, false, false, false, false, false, false, false]) (by kernel_rfl) ?_
    refine WA.ex 1 rfl (by kernel_rfl) (by kernel_rfl) (by kernel_rfl) rfl ⟨_, sR⟩ (fun w_ hS_ => ex_move (v := .func (.func 53) #[] #[]) s2_115) ?_
    refine WA.norm (listed' := #[true, true, false, false, false, false, false, false, false, false, false]) (by kernel_rfl) ?_
    refine WA.ex 2 rfl (by kernel_rfl) (by kernel_rfl) (by kernel_rfl) rfl ⟨_, sR⟩ (fun w_ hS_ => ex_move (v := .int .i64 x116) rfl) ?_
    refine WA.norm (listed' := #[true, true, true, false, false, false, false, false, false, false, false]) (by kernel_rfl) ?_
    obtain ⟨x131, hx131, H⟩ := bindE H
    refine WA.ex 3 rfl (by kernel_rfl) (by kernel_rfl) (by kernel_rfl) rfl ⟨_, sR⟩ (fun w_ hS_ => ex_indexArrB (i := x116) (xs := x117) s3_115 rfl Tryd.underlying24 sz22 hl118 hx131) ?_
    refine WA.norm (listed' := #[true, true, true, true, false, false, false, false, false, false, false]) (by kernel_rfl) ?_
    refine WA.ex 5 rfl (by kernel_rfl) (by kernel_rfl) (by kernel_rfl) rfl ⟨_, sR⟩ (fun w_ hS_ => ex_move (v := .int .i64 x116) rfl) ?_
    refine WA.norm (listed' := #[true, true, true, true, false, true, false, false, false, false, false]) (by kernel_rfl) ?_
    obtain ⟨x132, hx132, H⟩ := bindE H
    refine WA.ex 6 rfl (by kernel_rfl) (by kernel_rfl) (by kernel_rfl) rfl ⟨_, sR⟩ (fun w_ hS_ => ex_indexArrB (i := x116) (xs := a1) s4_115 rfl Tryd.underlying24 sz22 hla1 hx132) ?_
    refine WA.norm (listed' := #[true, true, true, true, false, true, true, false, false, false, false]) (by kernel_rfl) ?_
    refine WA.ex 7 rfl (by kernel_rfl) (by kernel_rfl) (by kernel_rfl) rfl ⟨_, sR⟩ (fun w_ hS_ => ex_loadAE (enc := enc64) rfl Tryd.underlying22 rfl (hB110D.step hS_.choose_spec rfl) hx132) ?_
    refine WA.norm (listed' := #[true, true, true, true, false, true, true, true, false, false, false]) (by kernel_rfl) ?_
    refine WA.one 4 (by kernel_rfl) rfl rfl ?_
    refine OW.ex rfl (ex_loadAE (enc := enc64) rfl Tryd.underlying22 rfl hB105 hx131) ?_
    refine ⟨⟨_, sR⟩, ?_⟩
    refine WA.norm (listed' := #[true, true, true, true, true, true, true, true, false, false, false]) (by kernel_rfl) ?_
    obtain ⟨z133, hz133, H⟩ := bindE H
    refine WA.one 8 (by kernel_rfl) rfl rfl ?_
    refine OW.callV (show ev _ _ = .func (.func 53) #[] #[] from rfl) [enc64 x131, enc64 x132] rfl Tryd.func53 (by kernel_rfl) (by kernel_rfl) (map_cons' rfl (map_cons' rfl rfl)) (bits_Compare_1.calls _ _ x131 x132 z133 (HF.ten (V := [0]) (L := []) rfl)  hz133) ?_
    rintro _ w134 ⟨o135, rfl, s136⟩
    refine ⟨_, rfl, ?_⟩
    replace s136 := un_stepL (J := []) (L' := []) s136 rfl rfl
    replace hB105 := hB105.step s136 rfl
    replace hB110 := hB110.step s136 rfl
    replace hB115 := hB115.step s136 rfl
    replace HF := HF.step s136 rfl
    replace sR := Step.trans sR s136 (M := [10]) rfl rfl
    refine ⟨⟨_, sR⟩, ?_⟩
    refine WA.norm (listed' := #[true, true, true, true, true, true, true, true, true, false, false]) (by kernel_rfl) ?_
    obtain ⟨x137, hx137, H⟩ := bindE H
    refine WA.ex 9 rfl (by kernel_rfl) (by kernel_rfl) (by kernel_rfl) rfl ⟨_, sR⟩ (fun w_ hS_ => ex_indexArrB (i := x116) (xs := x117) s3_115 rfl Tryd.underlying24 sz22 hl118 hx137) ?_
    refine WA.norm (listed' := #[true, true, true, true, true, true, true, true, true, true, false]) (by kernel_rfl) ?_
    refine WA.one 10 (by kernel_rfl) rfl rfl ?_
    refine OW.storeAE (enc := enc64) (c := z133) rfl rfl (cells64) (fun _ => rfl) sz22 hB105 hx137 ?_
    intro w138 s139 hB140
    replace hB110 := hB110.step s139 rfl
    replace hB115 := hB115.step s139 rfl
    replace HF := HF.step s139 rfl
    replace sR := Step.trans sR s139 (M := [10]) rfl rfl
    have hl141 := len_set (i := x116.toNat) (a := z133) hl118
    refine ⟨⟨_, sR⟩, ?_⟩
    refine WA.norm (listed' := #[true, true, true, true, true, true, true, true, true, true, true]) (by kernel_rfl) ?_
    refine WA.done (by kernel_rfl) ?_
    refine WC.region ?_
    refine WL.ex rfl (ex_bin (a := .int .i64 x116) (b := .int .i64 1) (v := .int .i64 (wrap64 (x116 + 1))) s8_116 rfl bin_add64) ?_
    refine WL.ex rfl (ex_move (v := .int .i64 (wrap64 (x116 + 1))) rfl) ?_
    refine WL.nil ?_
    exact ⟨k124, Nat.lt_succ_self _, ⟨_, wrap64 (x116 + 1), (x117.set x116.toNat z133), HF, hB140, hl141, hB110, hB115, s2_115, s3_115, s4_115, s6_115, rfl, H⟩⟩
  ·
    refine WC.cond_f ((show _ = Value.bool (decide (x116 < 16)) from rfl).trans (congrArg Value.bool c128)) ?_
    refine WC.exit ?_
    obtain rfl := Option.some.inj H
    exact ⟨_, HF, hB105, hl118, hB115, s3_115, s6_115⟩

/-! ### bits_Compare -/
set_option maxRecDepth 100000 in
theorem bits_Compare.calls (k : Nat) (o0 : Tags) (w0 : World) (a0 : (List UInt64)) (a1 : (List UInt64)) (r : Int) (hO : ∀ b, b < w0.heap.size → o0 b < 10) (hla0 : a0.length = 16) (hla1 : a1.length = 16) (hG : Gl GG o0 w0) (H : bits_Compare.f k a0 a1 = some r) :
    Calls Tryd.prog 25 [.agg (List.map enc64 a0).toArray, .agg (List.map enc64 a1).toArray].toArray w0 fun e_ w_ => ∃ (o_ : Tags), e_ = .returned (one [.int .i64 r]) ∧ Step o0 w0 o_ w_ [] := by
  have HF := Fm.refl hO []
  unfold bits_Compare.f at H
  refine SX.calls [.agg (List.map enc64 a0).toArray, .agg (List.map enc64 a1).toArray] Tryd.func25 rfl rfl ?_
  rw [Tryd.ntmps25]
  refine WC.seq ?_
  refine WC.region ?_
  refine WL.op rfl ?_
  refine OW.box' (List.map enc64 a0) 10 HF rfl ((congrArg Value.cells (show ev _ _ = (.agg (List.map enc64 a0).toArray : Value) from rfl)).trans rfl) ?_
  intro o102 w103 b101 s104 hB105
  replace hG := hG.step s104 rfl
  replace HF := HF.step s104 rfl
  refine WL.op rfl ?_
  refine OW.box' (List.map enc64 a1) 11 HF rfl ((congrArg Value.cells (show ev _ _ = (.agg (List.map enc64 a1).toArray : Value) from rfl)).trans rfl) ?_
  intro o107 w108 b106 s109 hB110
  replace hG := hG.step s109 rfl
  replace hB105 := hB105.step s109 rfl
  replace HF := HF.step s109 rfl
  refine WL.ex rfl (ex_assign (v := .int .i64 0) rfl) ?_
  refine WL.nil ?_
  refine WC.seq ?_
  refine WC.region ?_
  refine WL.ex rfl (ex_loadAV (xs := a0) rfl Tryd.underlying24 sz24 hla0 hB105) ?_
  refine WL.ex rfl (ex_loadAV (xs := a1) rfl Tryd.underlying24 sz24 hla1 hB110) ?_
  obtain ⟨z111, hz111, H⟩ := bindE H
  refine WL.op rfl ?_
  refine OW.call [.agg (List.map enc64 a0).toArray, .agg (List.map enc64 a1).toArray, .func (.func 53) #[] #[]] rfl Tryd.func48 (by kernel_rfl) (by kernel_rfl) (map_cons' rfl (map_cons' rfl (map_cons' rfl rfl))) (bits_each_bits_Compare_1.calls k _ _ a0 a1 z111 (HF.ten (V := [0]) (L := []) rfl) hla0 hla1 hz111) ?_
  rintro _ w112 ⟨o113, rfl, s114, hl115⟩
  refine ⟨_, rfl, ?_⟩
  replace s114 := un_stepL (J := []) (L' := []) s114 rfl rfl
  replace hG := hG.step s114 rfl
  replace hB105 := hB105.step s114 rfl
  replace hB110 := hB110.step s114 rfl
  replace HF := HF.step s114 rfl
  obtain ⟨z116, hz116, H⟩ := bindE H
  refine WL.op rfl ?_
  refine OW.call [.agg (List.map enc64 z111).toArray, .int .i64 0] rfl Tryd.func13 (by kernel_rfl) (by kernel_rfl) (map_cons' rfl (map_cons' rfl rfl)) (bits_Next.calls k _ _ z111 0 z116 (HF.ten (V := [0]) (L := []) rfl) hl115 (Gl.vw (V := [0]) (L := []) hG rfl) hz116) ?_
  rintro _ w117 ⟨o118, rfl, s119⟩
  refine ⟨_, rfl, ?_⟩
  replace s119 := un_stepL (J := []) (L' := []) s119 rfl rfl
  replace hG := hG.step s119 rfl
  replace hB105 := hB105.step s119 rfl
  replace hB110 := hB110.step s119 rfl
  replace HF := HF.step s119 rfl
  refine WL.ex rfl (ex_move (v := .tuple #[.int .i64 z116.1, .bool z116.2]) rfl) ?_
  refine WL.ex rfl (ex_extract (vs := #[.int .i64 z116.1, .bool z116.2]) (v := .int .i64 z116.1) rfl rfl) ?_
  refine WL.ex rfl (ex_extract (vs := #[.int .i64 z116.1, .bool z116.2]) (v := .bool z116.2) rfl rfl) ?_
  refine WL.ex rfl (ex_assign (v := .int .i64 z116.1) rfl) ?_
  refine WL.ex rfl (ex_assign (v := .bool z116.2) rfl) ?_
  refine WL.nil ?_
  refine WC.seq ?_
  refine WC.block ?_
  refine WC.seq ?_
  refine WC.region ?_
  refine WL.ex rfl (ex_move (v := .bool z116.2) rfl) ?_
  refine WL.ex rfl (ex_not (b := z116.2) rfl) ?_
  refine WL.ex rfl (ex_assign (v := .bool (!z116.2)) rfl) ?_
  refine WL.nil ?_
  rcases condE H with ⟨c120, H⟩ | ⟨c120, H⟩
  ·
    refine WC.cond_t ((show _ = Value.bool (!z116.2) from rfl).trans (congrArg Value.bool c120)) ?_
    refine WC.seq ?_
    refine WC.region ?_
    refine WL.ex rfl (ex_assign (v := .int .i64 0) rfl) ?_
    refine WL.nil ?_
    refine WC.ret ?_
    obtain rfl := Option.some.inj H
    exact ⟨_, (.tmp (.int .i64 0 : Value) rfl .nil), _, rfl, HF.out⟩
  ·
    refine WC.cond_f ((show _ = Value.bool (!z116.2) from rfl).trans (congrArg Value.bool c120)) ?_
    refine WC.seq ?_
    refine WC.region ?_
    refine WL.ex rfl (ex_loadAV (xs := a0) rfl Tryd.underlying24 sz24 hla0 hB105) ?_
    refine WL.ex rfl (ex_move (v := .int .i64 z116.1) rfl) ?_
    obtain ⟨z121, hz121, H⟩ := bindE H
    refine WL.op rfl ?_
    refine OW.call [.agg (List.map enc64 a0).toArray, .int .i64 z116.1] rfl Tryd.func32 (by kernel_rfl) (by kernel_rfl) (map_cons' rfl (map_cons' rfl rfl)) (bits_Has.calls _ _ a0 z116.1 z121 (HF.ten (V := [0]) (L := []) rfl) hla0 hz121) ?_
    rintro _ w122 ⟨o123, rfl, s124⟩
    refine ⟨_, rfl, ?_⟩
    replace s124 := un_stepL (J := []) (L' := []) s124 rfl rfl
    replace hG := hG.step s124 rfl
    replace hB105 := hB105.step s124 rfl
    replace hB110 := hB110.step s124 rfl
    replace HF := HF.step s124 rfl
    refine WL.ex rfl (ex_assign (v := .bool z121) rfl) ?_
    refine WL.nil ?_
    rcases condE H with ⟨c125, H⟩ | ⟨c125, H⟩
    ·
      refine WC.cond_t ((show _ = Value.bool z121 from rfl).trans (congrArg Value.bool c125)) ?_
      refine WC.seq ?_
      refine WC.region ?_
      refine WL.ex rfl (ex_assign (v := .int .i64 (-1)) rfl) ?_
      refine WL.nil ?_
      refine WC.ret ?_
      obtain rfl := Option.some.inj H
      exact ⟨_, (.tmp (.int .i64 (-1) : Value) rfl .nil), _, rfl, HF.out⟩
    ·
      refine WC.cond_f ((show _ = Value.bool z121 from rfl).trans (congrArg Value.bool c125)) ?_
      refine WC.skip ?_
      refine WC.seq ?_
      refine WC.region ?_
      refine WL.ex rfl (ex_assign (v := .int .i64 1) rfl) ?_
      refine WL.nil ?_
      refine WC.ret ?_
      obtain rfl := Option.some.inj H
      exact ⟨_, (.tmp (.int .i64 1 : Value) rfl .nil), _, rfl, HF.out⟩

/-! ### dictumlaw05_heads -/
set_option maxRecDepth 100000 in
theorem dictumlaw05_heads.calls (k : Nat) (o0 : Tags) (w0 : World) (r : Bool) (hO : ∀ b, b < w0.heap.size → o0 b < 10) (hG : Gl GG o0 w0) (H : dictumlaw05_heads.f k = some r) :
    Calls Tryd.prog 12 [].toArray w0 fun e_ w_ => ∃ (o_ : Tags), e_ = .returned (one [.bool r]) ∧ Step o0 w0 o_ w_ [] := by
  have HF := Fm.refl hO []
  unfold dictumlaw05_heads.f at H
  refine SX.calls [] Tryd.func12 rfl rfl ?_
  rw [Tryd.ntmps12]
  refine WC.seq ?_
  refine WC.region ?_
  refine WL.ex rfl (ex_assign (v := .bool false) rfl) ?_
  refine WL.nil ?_
  refine WC.seq ?_
  refine WC.region ?_
  refine WL.op rfl ?_
  refine OW.row (r := (Rep.int .i64)) (xs := [0, 1, 2, 5, 64]) [(0, .int .i64 0), (1, .int .i64 1), (2, .int .i64 2), (3, .int .i64 5), (4, .int .i64 64)] [[.int .i64 0], [.int .i64 1], [.int .i64 2], [.int .i64 5], [.int .i64 64]] 10 HF rfl Tryd.underlying38 sz3 zr3 rfl (evs_cons rfl (evs_cons rfl (evs_cons rfl (evs_cons rfl (evs_cons rfl rfl))))) rfl rfl ⟨rfl, rfl, rfl, rfl, rfl, trivial⟩ rfl rfl rfl rfl ?_
  intro o101 w102 v104 s103 hO105
  replace hG := hG.step s103 rfl
  replace HF := HF.step s103 rfl
  obtain ⟨A106, c107, q108e, q108l, q108⟩ := Own.vwRow (V := [0, 10]) (L := []) hO105 rfl rfl
  obtain ⟨z109, hz109, H⟩ := bindE H
  have q108e' := q108e
  refine WL.op rfl ?_
  refine OW.call [v104] rfl Tryd.func28 (by kernel_rfl) (by kernel_rfl) (map_cons' rfl rfl) (by simp only [q108e]; exact (bits_Of.calls k _ _ A106 c107 [0, 1, 2, 5, 64] z109 (HF.ten (V := [0, 10]) (L := []) rfl) q108 q108l hz109)) ?_
  rintro _ w110 ⟨o111, rfl, s112, hl113⟩
  refine ⟨_, rfl, ?_⟩
  replace s112 := un_stepL (J := []) (L' := []) s112 rfl rfl
  replace hG := hG.step s112 rfl
  replace hO105 := hO105.step s112 rfl rfl
  replace HF := HF.step s112 rfl
  refine WL.ex rfl (ex_move (v := .tuple #[.agg (List.map enc64 z109.1).toArray, .int .i64 z109.2]) rfl) ?_
  refine WL.ex rfl (ex_extract (vs := #[.agg (List.map enc64 z109.1).toArray, .int .i64 z109.2]) (v := .agg (List.map enc64 z109.1).toArray) rfl rfl) ?_
  refine WL.ex rfl (ex_extract (vs := #[.agg (List.map enc64 z109.1).toArray, .int .i64 z109.2]) (v := .int .i64 z109.2) rfl rfl) ?_
  refine WL.op rfl ?_
  refine OW.alloc' (List.map enc64 (List.replicate 16 ((0 : UInt64)))) 11 HF rfl zr24 rfl ?_
  intro o115 w116 b114 s117 hB118
  replace hG := hG.step s117 rfl
  replace hO105 := hO105.step s117 rfl rfl
  replace HF := HF.step s117 rfl
  refine WL.op rfl ?_
  refine OW.storeAV (ys := z109.1) rfl rfl (fun _ => rfl) sz24 rfl hl113 hB118 ?_
  intro w119 s120 hB121
  replace hG := hG.step s120 rfl
  replace hO105 := hO105.step s120 rfl rfl
  replace HF := HF.step s120 rfl
  refine WL.ex rfl (ex_assign (v := .int .i64 z109.2) rfl) ?_
  refine WL.nil ?_
  refine WC.seq ?_
  refine WC.region ?_
  refine WL.ex rfl (ex_loadAV (xs := z109.1) rfl Tryd.underlying24 sz24 hl113 hB121) ?_
  obtain ⟨z122, hz122, H⟩ := bindE H
  refine WL.op rfl ?_
  refine OW.call [.agg (List.map enc64 z109.1).toArray, .int .i64 6] rfl Tryd.func13 (by kernel_rfl) (by kernel_rfl) (map_cons' rfl (map_cons' rfl rfl)) (bits_Next.calls k _ _ z109.1 6 z122 (HF.ten (V := [0]) (L := []) rfl) hl113 (Gl.vw (V := [0]) (L := []) hG rfl) hz122) ?_
  rintro _ w123 ⟨o124, rfl, s125⟩
  refine ⟨_, rfl, ?_⟩
  replace s125 := un_stepL (J := []) (L' := []) s125 rfl rfl
  replace hG := hG.step s125 rfl
  replace hO105 := hO105.step s125 rfl rfl
  replace hB121 := hB121.step s125 rfl
  replace HF := HF.step s125 rfl
  refine WL.ex rfl (ex_move (v := .tuple #[.int .i64 z122.1, .bool z122.2]) rfl) ?_
  refine WL.ex rfl (ex_extract (vs := #[.int .i64 z122.1, .bool z122.2]) (v := .int .i64 z122.1) rfl rfl) ?_
  refine WL.ex rfl (ex_extract (vs := #[.int .i64 z122.1, .bool z122.2]) (v := .bool z122.2) rfl rfl) ?_
  refine WL.ex rfl (ex_assign (v := .int .i64 z122.1) rfl) ?_
  refine WL.ex rfl (ex_assign (v := .bool z122.2) rfl) ?_
  refine WL.nil ?_
  refine WC.seq ?_
  refine WC.region ?_
  obtain ⟨z126, hz126, H⟩ := bindE H
  refine WL.op rfl ?_
  refine OW.call [encS ([48, 45, 50, 44, 53, 44, 54, 52] : List UInt8)] rfl Tryd.func9 (by kernel_rfl) (by kernel_rfl) (map_cons' rfl rfl) (bits_Parse.calls k _ _ ([48, 45, 50, 44, 53, 44, 54, 52] : List UInt8) z126 (HF.ten (V := [0]) (L := []) rfl) (Gl.vw (V := [0]) (L := []) hG rfl) hz126) ?_
  rintro _ w127 ⟨o128, rfl, s129, hl130⟩
  refine ⟨_, rfl, ?_⟩
  replace s129 := un_stepL (J := []) (L' := []) s129 rfl rfl
  replace hG := hG.step s129 rfl
  replace hO105 := hO105.step s129 rfl rfl
  replace hB121 := hB121.step s129 rfl
  replace HF := HF.step s129 rfl
  refine WL.ex rfl (ex_move (v := .tuple #[.agg (List.map enc64 z126.1).toArray, .int .i64 z126.2]) rfl) ?_
  refine WL.ex rfl (ex_extract (vs := #[.agg (List.map enc64 z126.1).toArray, .int .i64 z126.2]) (v := .agg (List.map enc64 z126.1).toArray) rfl rfl) ?_
  refine WL.ex rfl (ex_extract (vs := #[.agg (List.map enc64 z126.1).toArray, .int .i64 z126.2]) (v := .int .i64 z126.2) rfl rfl) ?_
  refine WL.op rfl ?_
  refine OW.alloc' (List.map enc64 (List.replicate 16 ((0 : UInt64)))) 12 HF rfl zr24 rfl ?_
  intro o132 w133 b131 s134 hB135
  replace hG := hG.step s134 rfl
  replace hO105 := hO105.step s134 rfl rfl
  replace hB121 := hB121.step s134 rfl
  replace HF := HF.step s134 rfl
  refine WL.op rfl ?_
  refine OW.storeAV (ys := z126.1) rfl rfl (fun _ => rfl) sz24 rfl hl130 hB135 ?_
  intro w136 s137 hB138
  replace hG := hG.step s137 rfl
  replace hO105 := hO105.step s137 rfl rfl
  replace hB121 := hB121.step s137 rfl
  replace HF := HF.step s137 rfl
  refine WL.ex rfl (ex_assign (v := .int .i64 z126.2) rfl) ?_
  refine WL.nil ?_
  refine WC.seq ?_
  refine WC.region ?_
  obtain ⟨z139, hz139, H⟩ := bindE H
  refine WL.op rfl ?_
  refine OW.call [encS ([51, 45, 51] : List UInt8)] rfl Tryd.func9 (by kernel_rfl) (by kernel_rfl) (map_cons' rfl rfl) (bits_Parse.calls k _ _ ([51, 45, 51] : List UInt8) z139 (HF.ten (V := [0]) (L := []) rfl) (Gl.vw (V := [0]) (L := []) hG rfl) hz139) ?_
  rintro _ w140 ⟨o141, rfl, s142, hl143⟩
  refine ⟨_, rfl, ?_⟩
  replace s142 := un_stepL (J := []) (L' := []) s142 rfl rfl
  replace hG := hG.step s142 rfl
  replace hO105 := hO105.step s142 rfl rfl
  replace hB121 := hB121.step s142 rfl
  replace hB138 := hB138.step s142 rfl
  replace HF := HF.step s142 rfl
  refine WL.ex rfl (ex_move (v := .tuple #[.agg (List.map enc64 z139.1).toArray, .int .i64 z139.2]) rfl) ?_
  refine WL.ex rfl (ex_extract (vs := #[.agg (List.map enc64 z139.1).toArray, .int .i64 z139.2]) (v := .agg (List.map enc64 z139.1).toArray) rfl rfl) ?_
  refine WL.ex rfl (ex_extract (vs := #[.agg (List.map enc64 z139.1).toArray, .int .i64 z139.2]) (v := .int .i64 z139.2) rfl rfl) ?_
  refine WL.op rfl ?_
  refine OW.alloc' (List.map enc64 (List.replicate 16 ((0 : UInt64)))) 13 HF rfl zr24 rfl ?_
  intro o145 w146 b144 s147 hB148
  replace hG := hG.step s147 rfl
  replace hO105 := hO105.step s147 rfl rfl
  replace hB121 := hB121.step s147 rfl
  replace hB138 := hB138.step s147 rfl
  replace HF := HF.step s147 rfl
  refine WL.op rfl ?_
  refine OW.storeAV (ys := z139.1) rfl rfl (fun _ => rfl) sz24 rfl hl143 hB148 ?_
  intro w149 s150 hB151
  replace hG := hG.step s150 rfl
  replace hO105 := hO105.step s150 rfl rfl
  replace hB121 := hB121.step s150 rfl
  replace hB138 := hB138.step s150 rfl
  replace HF := HF.step s150 rfl
  refine WL.ex rfl (ex_assign (v := .int .i64 z139.2) rfl) ?_
  refine WL.nil ?_
  refine WC.seq ?_
  refine WC.region ?_
  refine WL.ex rfl (ex_loadAV (xs := z109.1) rfl Tryd.underlying24 sz24 hl113 hB121) ?_
  obtain ⟨z152, hz152, H⟩ := bindE H
  refine WL.op rfl ?_
  refine OW.call [.agg (List.map enc64 z109.1).toArray, .int .i64 1024] rfl Tryd.func30 (by kernel_rfl) (by kernel_rfl) (map_cons' rfl (map_cons' rfl rfl)) (bits_Put.calls k _ _ z109.1 1024 z152 (HF.ten (V := [0]) (L := []) rfl) hl113 hz152) ?_
  rintro _ w153 ⟨o154, rfl, s155, hl156⟩
  refine ⟨_, rfl, ?_⟩
  replace s155 := un_stepL (J := []) (L' := []) s155 rfl rfl
  replace hG := hG.step s155 rfl
  replace hO105 := hO105.step s155 rfl rfl
  replace hB121 := hB121.step s155 rfl
  replace hB138 := hB138.step s155 rfl
  replace hB151 := hB151.step s155 rfl
  replace HF := HF.step s155 rfl
  refine WL.ex rfl (ex_move (v := .tuple #[.agg (List.map enc64 z152.1).toArray, .int .i64 z152.2]) rfl) ?_
  refine WL.ex rfl (ex_extract (vs := #[.agg (List.map enc64 z152.1).toArray, .int .i64 z152.2]) (v := .agg (List.map enc64 z152.1).toArray) rfl rfl) ?_
  refine WL.ex rfl (ex_extract (vs := #[.agg (List.map enc64 z152.1).toArray, .int .i64 z152.2]) (v := .int .i64 z152.2) rfl rfl) ?_
  refine WL.op rfl ?_
  refine OW.alloc' (List.map enc64 (List.replicate 16 ((0 : UInt64)))) 14 HF rfl zr24 rfl ?_
  intro o158 w159 b157 s160 hB161
  replace hG := hG.step s160 rfl
  replace hO105 := hO105.step s160 rfl rfl
  replace hB121 := hB121.step s160 rfl
  replace hB138 := hB138.step s160 rfl
  replace hB151 := hB151.step s160 rfl
  replace HF := HF.step s160 rfl
  refine WL.op rfl ?_
  refine OW.storeAV (ys := z152.1) rfl rfl (fun _ => rfl) sz24 rfl hl156 hB161 ?_
  intro w162 s163 hB164
  replace hG := hG.step s163 rfl
  replace hO105 := hO105.step s163 rfl rfl
  replace hB121 := hB121.step s163 rfl
  replace hB138 := hB138.step s163 rfl
  replace hB151 := hB151.step s163 rfl
  replace HF := HF.step s163 rfl
  refine WL.ex rfl (ex_assign (v := .int .i64 z152.2) rfl) ?_
  refine WL.nil ?_
  refine WC.seq ?_
  refine WC.region ?_
  refine WL.ex rfl (ex_move (v := .int .i64 z109.2) rfl) ?_
  refine WL.ex rfl (ex_bin (a := .int .i64 z109.2) (b := .int .i64 0) (v := .bool (z109.2 == 0)) rfl rfl bin_eql) ?_
  refine WL.ex rfl (ex_move (v := .bool (z109.2 == 0)) rfl) ?_
  rcases condE H with ⟨c165, H⟩ | ⟨c165, H⟩
  ·
    refine WL.guardYes rfl rfl rfl ((show _ = Value.bool (z109.2 == 0) from rfl).trans (congrArg Value.bool c165)) ?_
    refine OW.ex rfl (ex_loadAV (xs := z109.1) rfl Tryd.underlying24 sz24 hl113 hB121) ?_
    refine WL.guardYes rfl rfl rfl ((show _ = Value.bool (z109.2 == 0) from rfl).trans (congrArg Value.bool c165)) ?_
    obtain ⟨z166, hz166, H⟩ := bindE H
    refine OW.call [.agg (List.map enc64 z109.1).toArray] rfl Tryd.func8 (by kernel_rfl) (by kernel_rfl) (map_cons' rfl rfl) (bits_Text.calls k _ _ z109.1 z166 (HF.ten (V := [0]) (L := []) rfl) hl113 (Gl.vw (V := [0]) (L := []) hG rfl) hz166) ?_
    rintro _ w167 ⟨o168, rfl, s169⟩
    refine ⟨_, rfl, ?_⟩
    replace s169 := un_stepL (J := []) (L' := []) s169 rfl rfl
    replace hG := hG.step s169 rfl
    replace hO105 := hO105.step s169 rfl rfl
    replace hB121 := hB121.step s169 rfl
    replace hB138 := hB138.step s169 rfl
    replace hB151 := hB151.step s169 rfl
    replace hB164 := hB164.step s169 rfl
    replace HF := HF.step s169 rfl
    refine WL.guardYes rfl rfl rfl ((show _ = Value.bool (z109.2 == 0) from rfl).trans (congrArg Value.bool c165)) ?_
    refine OW.ex rfl (ex_bin (a := encS z166) (b := encS ([48, 45, 50, 44, 53, 44, 54, 52] : List UInt8)) (v := .bool (z166 == ([48, 45, 50, 44, 53, 44, 54, 52] : List UInt8))) rfl rfl bin_eql_str) ?_
    refine WL.ex rfl (ex_pick_t (v := .bool (z166 == ([48, 45, 50, 44, 53, 44, 54, 52] : List UInt8))) ((show _ = Value.bool (z109.2 == 0) from rfl).trans (congrArg Value.bool c165)) rfl) ?_
    refine WL.ex rfl (ex_move (v := .bool (z166 == ([48, 45, 50, 44, 53, 44, 54, 52] : List UInt8))) rfl) ?_
    rcases condE H with ⟨c170, H⟩ | ⟨c170, H⟩
    ·
      refine WL.guardYes rfl rfl rfl ((show _ = Value.bool (z166 == ([48, 45, 50, 44, 53, 44, 54, 52] : List UInt8)) from rfl).trans (congrArg Value.bool c170)) ?_
      refine OW.ex rfl (ex_move (v := .int .i64 z122.1) rfl) ?_
      refine WL.guardYes rfl rfl rfl ((show _ = Value.bool (z166 == ([48, 45, 50, 44, 53, 44, 54, 52] : List UInt8)) from rfl).trans (congrArg Value.bool c170)) ?_
      refine OW.ex rfl (ex_bin (a := .int .i64 z122.1) (b := .int .i64 64) (v := .bool (z122.1 == 64)) rfl rfl bin_eql) ?_
      refine WL.ex rfl (ex_pick_t (v := .bool (z122.1 == 64)) ((show _ = Value.bool (z166 == ([48, 45, 50, 44, 53, 44, 54, 52] : List UInt8)) from rfl).trans (congrArg Value.bool c170)) rfl) ?_
      refine WL.ex rfl (ex_move (v := .bool (z122.1 == 64)) rfl) ?_
      rcases condE H with ⟨c171, H⟩ | ⟨c171, H⟩
      ·
        refine WL.guardYes rfl rfl rfl ((show _ = Value.bool (z122.1 == 64) from rfl).trans (congrArg Value.bool c171)) ?_
        refine OW.ex rfl (ex_move (v := .bool z122.2) rfl) ?_
        refine WL.ex rfl (ex_pick_t (v := .bool z122.2) ((show _ = Value.bool (z122.1 == 64) from rfl).trans (congrArg Value.bool c171)) rfl) ?_
        refine WL.ex rfl (ex_move (v := .bool z122.2) rfl) ?_
        rcases condE H with ⟨c172, H⟩ | ⟨c172, H⟩
        ·
          refine WL.guardYes rfl rfl rfl ((show _ = Value.bool z122.2 from rfl).trans (congrArg Value.bool c172)) ?_
          refine OW.ex rfl (ex_loadAV (xs := z126.1) rfl Tryd.underlying24 sz24 hl130 hB138) ?_
          refine WL.guardYes rfl rfl rfl ((show _ = Value.bool z122.2 from rfl).trans (congrArg Value.bool c172)) ?_
          refine OW.ex rfl (ex_loadAV (xs := z109.1) rfl Tryd.underlying24 sz24 hl113 hB121) ?_
          refine WL.guardYes rfl rfl rfl ((show _ = Value.bool z122.2 from rfl).trans (congrArg Value.bool c172)) ?_
          refine OW.ex rfl (ex_bin (a := .agg (List.map enc64 z126.1).toArray) (b := .agg (List.map enc64 z109.1).toArray) (v := .bool (z126.1 == z109.1)) rfl rfl (bin_eql_agg (by kernel_rfl) (EqR.arr Tryd.underlying24 sz22 Tryd.underlying22 rfl hl130 hl113 (fun _ _ => EqR.u64 Tryd.underlying22)))) ?_
          refine WL.ex rfl (ex_pick_t (v := .bool (z126.1 == z109.1)) ((show _ = Value.bool z122.2 from rfl).trans (congrArg Value.bool c172)) rfl) ?_
          refine WL.ex rfl (ex_move (v := .bool (z126.1 == z109.1)) rfl) ?_
          rcases condE H with ⟨c173, H⟩ | ⟨c173, H⟩
          ·
            refine WL.guardYes rfl rfl rfl ((show _ = Value.bool (z126.1 == z109.1) from rfl).trans (congrArg Value.bool c173)) ?_
            refine OW.ex rfl (ex_move (v := .int .i64 z126.2) rfl) ?_
            refine WL.guardYes rfl rfl rfl ((show _ = Value.bool (z126.1 == z109.1) from rfl).trans (congrArg Value.bool c173)) ?_
            refine OW.ex rfl (ex_bin (a := .int .i64 z126.2) (b := .int .i64 0) (v := .bool (z126.2 == 0)) rfl rfl bin_eql) ?_
            refine WL.ex rfl (ex_pick_t (v := .bool (z126.2 == 0)) ((show _ = Value.bool (z126.1 == z109.1) from rfl).trans (congrArg Value.bool c173)) rfl) ?_
            refine WL.ex rfl (ex_move (v := .bool (z126.2 == 0)) rfl) ?_
            rcases condE H with ⟨c174, H⟩ | ⟨c174, H⟩
            ·
              refine WL.guardYes rfl rfl rfl ((show _ = Value.bool (z126.2 == 0) from rfl).trans (congrArg Value.bool c174)) ?_
              refine OW.ex rfl (ex_move (v := .int .i64 z139.2) rfl) ?_
              refine WL.guardYes rfl rfl rfl ((show _ = Value.bool (z126.2 == 0) from rfl).trans (congrArg Value.bool c174)) ?_
              refine OW.ex rfl (ex_bin (a := .int .i64 z139.2) (b := .int .i64 50) (v := .bool (z139.2 == 50)) rfl rfl bin_eql) ?_
              refine WL.ex rfl (ex_pick_t (v := .bool (z139.2 == 50)) ((show _ = Value.bool (z126.2 == 0) from rfl).trans (congrArg Value.bool c174)) rfl) ?_
              refine WL.ex rfl (ex_move (v := .bool (z139.2 == 50)) rfl) ?_
              rcases condE H with ⟨c175, H⟩ | ⟨c175, H⟩
              ·
                refine WL.guardYes rfl rfl rfl ((show _ = Value.bool (z139.2 == 50) from rfl).trans (congrArg Value.bool c175)) ?_
                refine OW.ex rfl (ex_loadAV (xs := z152.1) rfl Tryd.underlying24 sz24 hl156 hB164) ?_
                refine WL.guardYes rfl rfl rfl ((show _ = Value.bool (z139.2 == 50) from rfl).trans (congrArg Value.bool c175)) ?_
                refine OW.ex rfl (ex_buildArr (cs := List.map enc64 (List.replicate 16 ((0 : UInt64)))) [] [.int .u64 0, .int .u64 0, .int .u64 0, .int .u64 0, .int .u64 0, .int .u64 0, .int .u64 0, .int .u64 0, .int .u64 0, .int .u64 0, .int .u64 0, .int .u64 0, .int .u64 0, .int .u64 0, .int .u64 0, .int .u64 0] Tryd.underlying24 zr24 rfl sz22 rfl rfl) ?_
                refine WL.guardYes rfl rfl rfl ((show _ = Value.bool (z139.2 == 50) from rfl).trans (congrArg Value.bool c175)) ?_
                refine OW.ex rfl (ex_bin (a := .agg (List.map enc64 z152.1).toArray) (b := .agg (List.map enc64 (List.replicate 16 ((0 : UInt64)))).toArray) (v := .bool (z152.1 == (List.replicate 16 ((0 : UInt64))))) rfl rfl (bin_eql_agg (by kernel_rfl) (EqR.arr Tryd.underlying24 sz22 Tryd.underlying22 rfl hl156 rfl (fun _ _ => EqR.u64 Tryd.underlying22)))) ?_
                refine WL.ex rfl (ex_pick_t (v := .bool (z152.1 == (List.replicate 16 ((0 : UInt64))))) ((show _ = Value.bool (z139.2 == 50) from rfl).trans (congrArg Value.bool c175)) rfl) ?_
                refine WL.ex rfl (ex_move (v := .bool (z152.1 == (List.replicate 16 ((0 : UInt64))))) rfl) ?_
                rcases condE H with ⟨c176, H⟩ | ⟨c176, H⟩
                ·
                  refine WL.guardYes rfl rfl rfl ((show _ = Value.bool (z152.1 == (List.replicate 16 ((0 : UInt64)))) from rfl).trans (congrArg Value.bool c176)) ?_
                  refine OW.ex rfl (ex_move (v := .int .i64 z152.2) rfl) ?_
                  refine WL.guardYes rfl rfl rfl ((show _ = Value.bool (z152.1 == (List.replicate 16 ((0 : UInt64)))) from rfl).trans (congrArg Value.bool c176)) ?_
                  refine OW.ex rfl (ex_bin (a := .int .i64 z152.2) (b := .int .i64 50) (v := .bool (z152.2 == 50)) rfl rfl bin_eql) ?_
                  refine WL.ex rfl (ex_pick_t (v := .bool (z152.2 == 50)) ((show _ = Value.bool (z152.1 == (List.replicate 16 ((0 : UInt64)))) from rfl).trans (congrArg Value.bool c176)) rfl) ?_
                  refine WL.ex rfl (ex_move (v := .bool (z152.2 == 50)) rfl) ?_
                  rcases condE H with ⟨c177, H⟩ | ⟨c177, H⟩
                  ·
                    refine WL.guardYes rfl rfl rfl ((show _ = Value.bool (z152.2 == 50) from rfl).trans (congrArg Value.bool c177)) ?_
                    refine OW.ex rfl (ex_loadAV (xs := z109.1) rfl Tryd.underlying24 sz24 hl113 hB121) ?_
                    refine WL.guardYes rfl rfl rfl ((show _ = Value.bool (z152.2 == 50) from rfl).trans (congrArg Value.bool c177)) ?_
                    obtain ⟨z178, hz178, H⟩ := bindE H
                    refine OW.call [.agg (List.map enc64 z109.1).toArray] rfl Tryd.func23 (by kernel_rfl) (by kernel_rfl) (map_cons' rfl rfl) (bits_Count.calls k _ _ z109.1 z178 (HF.ten (V := [0]) (L := []) rfl) hl113 hz178) ?_
                    rintro _ w179 ⟨o180, rfl, s181⟩
                    refine ⟨_, rfl, ?_⟩
                    replace s181 := un_stepL (J := []) (L' := []) s181 rfl rfl
                    replace hG := hG.step s181 rfl
                    replace hO105 := hO105.step s181 rfl rfl
                    replace hB121 := hB121.step s181 rfl
                    replace hB138 := hB138.step s181 rfl
                    replace hB151 := hB151.step s181 rfl
                    replace hB164 := hB164.step s181 rfl
                    replace HF := HF.step s181 rfl
                    refine WL.guardYes rfl rfl rfl ((show _ = Value.bool (z152.2 == 50) from rfl).trans (congrArg Value.bool c177)) ?_
                    refine OW.ex rfl (ex_bin (a := .int .i64 z178) (b := .int .i64 5) (v := .bool (z178 == 5)) rfl rfl bin_eql) ?_
                    refine WL.ex rfl (ex_pick_t (v := .bool (z178 == 5)) ((show _ = Value.bool (z152.2 == 50) from rfl).trans (congrArg Value.bool c177)) rfl) ?_
                    refine WL.ex rfl (ex_move (v := .bool (z178 == 5)) rfl) ?_
                    rcases condE H with ⟨c182, H⟩ | ⟨c182, H⟩
                    ·
                      refine WL.guardYes rfl rfl rfl ((show _ = Value.bool (z178 == 5) from rfl).trans (congrArg Value.bool c182)) ?_
                      refine OW.ex rfl (ex_loadAV (xs := z109.1) rfl Tryd.underlying24 sz24 hl113 hB121) ?_
                      refine WL.guardYes rfl rfl rfl ((show _ = Value.bool (z178 == 5) from rfl).trans (congrArg Value.bool c182)) ?_
                      obtain ⟨z183, hz183, H⟩ := bindE H
                      refine OW.call [.agg (List.map enc64 z109.1).toArray, .int .i64 64] rfl Tryd.func32 (by kernel_rfl) (by kernel_rfl) (map_cons' rfl (map_cons' rfl rfl)) (bits_Has.calls _ _ z109.1 64 z183 (HF.ten (V := [0]) (L := []) rfl) hl113 hz183) ?_
                      rintro _ w184 ⟨o185, rfl, s186⟩
                      refine ⟨_, rfl, ?_⟩
                      replace s186 := un_stepL (J := []) (L' := []) s186 rfl rfl
                      replace hG := hG.step s186 rfl
                      replace hO105 := hO105.step s186 rfl rfl
                      replace hB121 := hB121.step s186 rfl
                      replace hB138 := hB138.step s186 rfl
                      replace hB151 := hB151.step s186 rfl
                      replace hB164 := hB164.step s186 rfl
                      replace HF := HF.step s186 rfl
                      refine WL.ex rfl (ex_pick_t (v := .bool z183) ((show _ = Value.bool (z178 == 5) from rfl).trans (congrArg Value.bool c182)) rfl) ?_
                      refine WL.ex rfl (ex_move (v := .bool z183) rfl) ?_
                      rcases condE H with ⟨c187, H⟩ | ⟨c187, H⟩
                      ·
                        refine WL.guardYes rfl rfl rfl ((show _ = Value.bool z183 from rfl).trans (congrArg Value.bool c187)) ?_
                        refine OW.ex rfl (ex_loadAV (xs := z109.1) rfl Tryd.underlying24 sz24 hl113 hB121) ?_
                        refine WL.guardYes rfl rfl rfl ((show _ = Value.bool z183 from rfl).trans (congrArg Value.bool c187)) ?_
                        refine OW.ex rfl (ex_loadAV (xs := z152.1) rfl Tryd.underlying24 sz24 hl156 hB164) ?_
                        refine WL.guardYes rfl rfl rfl ((show _ = Value.bool z183 from rfl).trans (congrArg Value.bool c187)) ?_
                        obtain ⟨z188, hz188, H⟩ := bindE H
                        refine OW.call [.agg (List.map enc64 z109.1).toArray, .agg (List.map enc64 z152.1).toArray] rfl Tryd.func25 (by kernel_rfl) (by kernel_rfl) (map_cons' rfl (map_cons' rfl rfl)) (bits_Compare.calls k _ _ z109.1 z152.1 z188 (HF.ten (V := [0]) (L := []) rfl) hl113 hl156 (Gl.vw (V := [0]) (L := []) hG rfl) hz188) ?_
                        rintro _ w189 ⟨o190, rfl, s191⟩
                        refine ⟨_, rfl, ?_⟩
                        replace s191 := un_stepL (J := []) (L' := []) s191 rfl rfl
                        replace hG := hG.step s191 rfl
                        replace hO105 := hO105.step s191 rfl rfl
                        replace hB121 := hB121.step s191 rfl
                        replace hB138 := hB138.step s191 rfl
                        replace hB151 := hB151.step s191 rfl
                        replace hB164 := hB164.step s191 rfl
                        replace HF := HF.step s191 rfl
                        refine WL.guardYes rfl rfl rfl ((show _ = Value.bool z183 from rfl).trans (congrArg Value.bool c187)) ?_
                        refine OW.ex rfl (ex_bin (a := .int .i64 z188) (b := .int .i64 (-1)) (v := .bool (z188 == (-1))) rfl rfl bin_eql) ?_
                        refine WL.ex rfl (ex_pick_t (v := .bool (z188 == (-1))) ((show _ = Value.bool z183 from rfl).trans (congrArg Value.bool c187)) rfl) ?_
                        refine WL.ex rfl (ex_assign (v := .bool (z188 == (-1))) rfl) ?_
                        refine WL.nil ?_
                        refine WC.ret ?_
                        obtain rfl := Option.some.inj H
                        exact ⟨_, (.tmp (.bool (z188 == (-1)) : Value) rfl .nil), _, rfl, HF.out⟩
                      ·
                        refine WL.guardNo rfl rfl rfl ((show _ = Value.bool z183 from rfl).trans (congrArg Value.bool c187)) ?_
                        refine WL.guardNo rfl rfl rfl ((show _ = Value.bool z183 from rfl).trans (congrArg Value.bool c187)) ?_
                        refine WL.guardNo rfl rfl rfl ((show _ = Value.bool z183 from rfl).trans (congrArg Value.bool c187)) ?_
                        refine WL.guardNo rfl rfl rfl ((show _ = Value.bool z183 from rfl).trans (congrArg Value.bool c187)) ?_
                        refine WL.ex rfl (ex_pick_f (v := .bool false) ((show _ = Value.bool z183 from rfl).trans (congrArg Value.bool c187)) rfl) ?_
                        refine WL.ex rfl (ex_assign (v := .bool false) rfl) ?_
                        refine WL.nil ?_
                        refine WC.ret ?_
                        obtain rfl := Option.some.inj H
                        exact ⟨_, (.tmp (.bool false : Value) rfl .nil), _, rfl, HF.out⟩
                    ·
                      refine WL.guardNo rfl rfl rfl ((show _ = Value.bool (z178 == 5) from rfl).trans (congrArg Value.bool c182)) ?_
                      refine WL.guardNo rfl rfl rfl ((show _ = Value.bool (z178 == 5) from rfl).trans (congrArg Value.bool c182)) ?_
                      refine WL.ex rfl (ex_pick_f (v := .bool false) ((show _ = Value.bool (z178 == 5) from rfl).trans (congrArg Value.bool c182)) rfl) ?_
                      refine WL.ex rfl (ex_move (v := .bool false) rfl) ?_
                      refine WL.guardNo rfl rfl rfl rfl ?_
                      refine WL.guardNo rfl rfl rfl rfl ?_
                      refine WL.guardNo rfl rfl rfl rfl ?_
                      refine WL.guardNo rfl rfl rfl rfl ?_
                      refine WL.ex rfl (ex_pick_f (v := .bool false) rfl rfl) ?_
                      refine WL.ex rfl (ex_assign (v := .bool false) rfl) ?_
                      refine WL.nil ?_
                      refine WC.ret ?_
                      obtain rfl := Option.some.inj H
                      exact ⟨_, (.tmp (.bool false : Value) rfl .nil), _, rfl, HF.out⟩
                  ·
                    refine WL.guardNo rfl rfl rfl ((show _ = Value.bool (z152.2 == 50) from rfl).trans (congrArg Value.bool c177)) ?_
                    refine WL.guardNo rfl rfl rfl ((show _ = Value.bool (z152.2 == 50) from rfl).trans (congrArg Value.bool c177)) ?_
                    refine WL.guardNo rfl rfl rfl ((show _ = Value.bool (z152.2 == 50) from rfl).trans (congrArg Value.bool c177)) ?_
                    refine WL.ex rfl (ex_pick_f (v := .bool false) ((show _ = Value.bool (z152.2 == 50) from rfl).trans (congrArg Value.bool c177)) rfl) ?_
                    refine WL.ex rfl (ex_move (v := .bool false) rfl) ?_
                    refine WL.guardNo rfl rfl rfl rfl ?_
                    refine WL.guardNo rfl rfl rfl rfl ?_
                    refine WL.ex rfl (ex_pick_f (v := .bool false) rfl rfl) ?_
                    refine WL.ex rfl (ex_move (v := .bool false) rfl) ?_
                    refine WL.guardNo rfl rfl rfl rfl ?_
                    refine WL.guardNo rfl rfl rfl rfl ?_
                    refine WL.guardNo rfl rfl rfl rfl ?_
                    refine WL.guardNo rfl rfl rfl rfl ?_
                    refine WL.ex rfl (ex_pick_f (v := .bool false) rfl rfl) ?_
                    refine WL.ex rfl (ex_assign (v := .bool false) rfl) ?_
                    refine WL.nil ?_
                    refine WC.ret ?_
                    obtain rfl := Option.some.inj H
                    exact ⟨_, (.tmp (.bool false : Value) rfl .nil), _, rfl, HF.out⟩
                ·
                  refine WL.guardNo rfl rfl rfl ((show _ = Value.bool (z152.1 == (List.replicate 16 ((0 : UInt64)))) from rfl).trans (congrArg Value.bool c176)) ?_
                  refine WL.guardNo rfl rfl rfl ((show _ = Value.bool (z152.1 == (List.replicate 16 ((0 : UInt64)))) from rfl).trans (congrArg Value.bool c176)) ?_
                  refine WL.ex rfl (ex_pick_f (v := .bool false) ((show _ = Value.bool (z152.1 == (List.replicate 16 ((0 : UInt64)))) from rfl).trans (congrArg Value.bool c176)) rfl) ?_
                  refine WL.ex rfl (ex_move (v := .bool false) rfl) ?_
                  refine WL.guardNo rfl rfl rfl rfl ?_
                  refine WL.guardNo rfl rfl rfl rfl ?_
                  refine WL.guardNo rfl rfl rfl rfl ?_
                  refine WL.ex rfl (ex_pick_f (v := .bool false) rfl rfl) ?_
                  refine WL.ex rfl (ex_move (v := .bool false) rfl) ?_
                  refine WL.guardNo rfl rfl rfl rfl ?_
                  refine WL.guardNo rfl rfl rfl rfl ?_
                  refine WL.ex rfl (ex_pick_f (v := .bool false) rfl rfl) ?_
                  refine WL.ex rfl (ex_move (v := .bool false) rfl) ?_
                  refine WL.guardNo rfl rfl rfl rfl ?_
                  refine WL.guardNo rfl rfl rfl rfl ?_
                  refine WL.guardNo rfl rfl rfl rfl ?_
                  refine WL.guardNo rfl rfl rfl rfl ?_
                  refine WL.ex rfl (ex_pick_f (v := .bool false) rfl rfl) ?_
                  refine WL.ex rfl (ex_assign (v := .bool false) rfl) ?_
                  refine WL.nil ?_
                  refine WC.ret ?_
                  obtain rfl := Option.some.inj H
                  exact ⟨_, (.tmp (.bool false : Value) rfl .nil), _, rfl, HF.out⟩
              ·
                refine WL.guardNo rfl rfl rfl ((show _ = Value.bool (z139.2 == 50) from rfl).trans (congrArg Value.bool c175)) ?_
                refine WL.guardNo rfl rfl rfl ((show _ = Value.bool (z139.2 == 50) from rfl).trans (congrArg Value.bool c175)) ?_
                refine WL.guardNo rfl rfl rfl ((show _ = Value.bool (z139.2 == 50) from rfl).trans (congrArg Value.bool c175)) ?_
                refine WL.ex rfl (ex_pick_f (v := .bool false) ((show _ = Value.bool (z139.2 == 50) from rfl).trans (congrArg Value.bool c175)) rfl) ?_
                refine WL.ex rfl (ex_move (v := .bool false) rfl) ?_
                refine WL.guardNo rfl rfl rfl rfl ?_
                refine WL.guardNo rfl rfl rfl rfl ?_
                refine WL.ex rfl (ex_pick_f (v := .bool false) rfl rfl) ?_
                refine WL.ex rfl (ex_move (v := .bool false) rfl) ?_
                refine WL.guardNo rfl rfl rfl rfl ?_
                refine WL.guardNo rfl rfl rfl rfl ?_
                refine WL.guardNo rfl rfl rfl rfl ?_
                refine WL.ex rfl (ex_pick_f (v := .bool false) rfl rfl) ?_
                refine WL.ex rfl (ex_move (v := .bool false) rfl) ?_
                refine WL.guardNo rfl rfl rfl rfl ?_
                refine WL.guardNo rfl rfl rfl rfl ?_
                refine WL.ex rfl (ex_pick_f (v := .bool false) rfl rfl) ?_
                refine WL.ex rfl (ex_move (v := .bool false) rfl) ?_
                refine WL.guardNo rfl rfl rfl rfl ?_
                refine WL.guardNo rfl rfl rfl rfl ?_
                refine WL.guardNo rfl rfl rfl rfl ?_
                refine WL.guardNo rfl rfl rfl rfl ?_
                refine WL.ex rfl (ex_pick_f (v := .bool false) rfl rfl) ?_
                refine WL.ex rfl (ex_assign (v := .bool false) rfl) ?_
                refine WL.nil ?_
                refine WC.ret ?_
                obtain rfl := Option.some.inj H
                exact ⟨_, (.tmp (.bool false : Value) rfl .nil), _, rfl, HF.out⟩
            ·
              refine WL.guardNo rfl rfl rfl ((show _ = Value.bool (z126.2 == 0) from rfl).trans (congrArg Value.bool c174)) ?_
              refine WL.guardNo rfl rfl rfl ((show _ = Value.bool (z126.2 == 0) from rfl).trans (congrArg Value.bool c174)) ?_
              refine WL.ex rfl (ex_pick_f (v := .bool false) ((show _ = Value.bool (z126.2 == 0) from rfl).trans (congrArg Value.bool c174)) rfl) ?_
              refine WL.ex rfl (ex_move (v := .bool false) rfl) ?_
              refine WL.guardNo rfl rfl rfl rfl ?_
              refine WL.guardNo rfl rfl rfl rfl ?_
              refine WL.guardNo rfl rfl rfl rfl ?_
              refine WL.ex rfl (ex_pick_f (v := .bool false) rfl rfl) ?_
              refine WL.ex rfl (ex_move (v := .bool false) rfl) ?_
              refine WL.guardNo rfl rfl rfl rfl ?_
              refine WL.guardNo rfl rfl rfl rfl ?_
              refine WL.ex rfl (ex_pick_f (v := .bool false) rfl rfl) ?_
              refine WL.ex rfl (ex_move (v := .bool false) rfl) ?_
              refine WL.guardNo rfl rfl rfl rfl ?_
              refine WL.guardNo rfl rfl rfl rfl ?_
              refine WL.guardNo rfl rfl rfl rfl ?_
              refine WL.ex rfl (ex_pick_f (v := .bool false) rfl rfl) ?_
              refine WL.ex rfl (ex_move (v := .bool false) rfl) ?_
              refine WL.guardNo rfl rfl rfl rfl ?_
              refine WL.guardNo rfl rfl rfl rfl ?_
              refine WL.ex rfl (ex_pick_f (v := .bool false) rfl rfl) ?_
              refine WL.ex rfl (ex_move (v := .bool false) rfl) ?_
              refine WL.guardNo rfl rfl rfl rfl ?_
              refine WL.guardNo rfl rfl rfl rfl ?_
              refine WL.guardNo rfl rfl rfl rfl ?_
              refine WL.guardNo rfl rfl rfl rfl ?_
              refine WL.ex rfl (ex_pick_f (v := .bool false) rfl rfl) ?_
              refine WL.ex rfl (ex_assign (v := .bool false) rfl) ?_
              refine WL.nil ?_
              refine WC.ret ?_
              obtain rfl := Option.some.inj H
              exact ⟨_, (.tmp (.bool false : Value) rfl .nil), _, rfl, HF.out⟩
          ·
            refine WL.guardNo rfl rfl rfl ((show _ = Value.bool (z126.1 == z109.1) from rfl).trans (congrArg Value.bool c173)) ?_
            refine WL.guardNo rfl rfl rfl ((show _ = Value.bool (z126.1 == z109.1) from rfl).trans (congrArg Value.bool c173)) ?_
            refine WL.ex rfl (ex_pick_f (v := .bool false) ((show _ = Value.bool (z126.1 == z109.1) from rfl).trans (congrArg Value.bool c173)) rfl) ?_
            refine WL.ex rfl (ex_move (v := .bool false) rfl) ?_
            refine WL.guardNo rfl rfl rfl rfl ?_
            refine WL.guardNo rfl rfl rfl rfl ?_
            refine WL.ex rfl (ex_pick_f (v := .bool false) rfl rfl) ?_
            refine WL.ex rfl (ex_move (v := .bool false) rfl) ?_
            refine WL.guardNo rfl rfl rfl rfl ?_
            refine WL.guardNo rfl rfl rfl rfl ?_
            refine WL.guardNo rfl rfl rfl rfl ?_
            refine WL.ex rfl (ex_pick_f (v := .bool false) rfl rfl) ?_
            refine WL.ex rfl (ex_move (v := .bool false) rfl) ?_
            refine WL.guardNo rfl rfl rfl rfl ?_
            refine WL.guardNo rfl rfl rfl rfl ?_
            refine WL.ex rfl (ex_pick_f (v := .bool false) rfl rfl) ?_
            refine WL.ex rfl (ex_move (v := .bool false) rfl) ?_
            refine WL.guardNo rfl rfl rfl rfl ?_
            refine WL.guardNo rfl rfl rfl rfl ?_
            refine WL.guardNo rfl rfl rfl rfl ?_
            refine WL.ex rfl (ex_pick_f (v := .bool false) rfl rfl) ?_
            refine WL.ex rfl (ex_move (v := .bool false) rfl) ?_
            refine WL.guardNo rfl rfl rfl rfl ?_
            refine WL.guardNo rfl rfl rfl rfl ?_
            refine WL.ex rfl (ex_pick_f (v := .bool false) rfl rfl) ?_
            refine WL.ex rfl (ex_move (v := .bool false) rfl) ?_
            refine WL.guardNo rfl rfl rfl rfl ?_
            refine WL.guardNo rfl rfl rfl rfl ?_
            refine WL.guardNo rfl rfl rfl rfl ?_
            refine WL.guardNo rfl rfl rfl rfl ?_
            refine WL.ex rfl (ex_pick_f (v := .bool false) rfl rfl) ?_
            refine WL.ex rfl (ex_assign (v := .bool false) rfl) ?_
            refine WL.nil ?_
            refine WC.ret ?_
            obtain rfl := Option.some.inj H
            exact ⟨_, (.tmp (.bool false : Value) rfl .nil), _, rfl, HF.out⟩
        ·
          refine WL.guardNo rfl rfl rfl ((show _ = Value.bool z122.2 from rfl).trans (congrArg Value.bool c172)) ?_
          refine WL.guardNo rfl rfl rfl ((show _ = Value.bool z122.2 from rfl).trans (congrArg Value.bool c172)) ?_
          refine WL.guardNo rfl rfl rfl ((show _ = Value.bool z122.2 from rfl).trans (congrArg Value.bool c172)) ?_
          refine WL.ex rfl (ex_pick_f (v := .bool false) ((show _ = Value.bool z122.2 from rfl).trans (congrArg Value.bool c172)) rfl) ?_
          refine WL.ex rfl (ex_move (v := .bool false) rfl) ?_
          refine WL.guardNo rfl rfl rfl rfl ?_
          refine WL.guardNo rfl rfl rfl rfl ?_
          refine WL.ex rfl (ex_pick_f (v := .bool false) rfl rfl) ?_
          refine WL.ex rfl (ex_move (v := .bool false) rfl) ?_
          refine WL.guardNo rfl rfl rfl rfl ?_
          refine WL.guardNo rfl rfl rfl rfl ?_
          refine WL.ex rfl (ex_pick_f (v := .bool false) rfl rfl) ?_
          refine WL.ex rfl (ex_move (v := .bool false) rfl) ?_
          refine WL.guardNo rfl rfl rfl rfl ?_
          refine WL.guardNo rfl rfl rfl rfl ?_
          refine WL.guardNo rfl rfl rfl rfl ?_
          refine WL.ex rfl (ex_pick_f (v := .bool false) rfl rfl) ?_
          refine WL.ex rfl (ex_move (v := .bool false) rfl) ?_
          refine WL.guardNo rfl rfl rfl rfl ?_
          refine WL.guardNo rfl rfl rfl rfl ?_
          refine WL.ex rfl (ex_pick_f (v := .bool false) rfl rfl) ?_
          refine WL.ex rfl (ex_move (v := .bool false) rfl) ?_
          refine WL.guardNo rfl rfl rfl rfl ?_
          refine WL.guardNo rfl rfl rfl rfl ?_
          refine WL.guardNo rfl rfl rfl rfl ?_
          refine WL.ex rfl (ex_pick_f (v := .bool false) rfl rfl) ?_
          refine WL.ex rfl (ex_move (v := .bool false) rfl) ?_
          refine WL.guardNo rfl rfl rfl rfl ?_
          refine WL.guardNo rfl rfl rfl rfl ?_
          refine WL.ex rfl (ex_pick_f (v := .bool false) rfl rfl) ?_
          refine WL.ex rfl (ex_move (v := .bool false) rfl) ?_
          refine WL.guardNo rfl rfl rfl rfl ?_
          refine WL.guardNo rfl rfl rfl rfl ?_
          refine WL.guardNo rfl rfl rfl rfl ?_
          refine WL.guardNo rfl rfl rfl rfl ?_
          refine WL.ex rfl (ex_pick_f (v := .bool false) rfl rfl) ?_
          refine WL.ex rfl (ex_assign (v := .bool false) rfl) ?_
          refine WL.nil ?_
          refine WC.ret ?_
          obtain rfl := Option.some.inj H
          exact ⟨_, (.tmp (.bool false : Value) rfl .nil), _, rfl, HF.out⟩
      ·
        refine WL.guardNo rfl rfl rfl ((show _ = Value.bool (z122.1 == 64) from rfl).trans (congrArg Value.bool c171)) ?_
        refine WL.ex rfl (ex_pick_f (v := .bool false) ((show _ = Value.bool (z122.1 == 64) from rfl).trans (congrArg Value.bool c171)) rfl) ?_
        refine WL.ex rfl (ex_move (v := .bool false) rfl) ?_
        refine WL.guardNo rfl rfl rfl rfl ?_
        refine WL.guardNo rfl rfl rfl rfl ?_
        refine WL.guardNo rfl rfl rfl rfl ?_
        refine WL.ex rfl (ex_pick_f (v := .bool false) rfl rfl) ?_
        refine WL.ex rfl (ex_move (v := .bool false) rfl) ?_
        refine WL.guardNo rfl rfl rfl rfl ?_
        refine WL.guardNo rfl rfl rfl rfl ?_
        refine WL.ex rfl (ex_pick_f (v := .bool false) rfl rfl) ?_
        refine WL.ex rfl (ex_move (v := .bool false) rfl) ?_
        refine WL.guardNo rfl rfl rfl rfl ?_
        refine WL.guardNo rfl rfl rfl rfl ?_
        refine WL.ex rfl (ex_pick_f (v := .bool false) rfl rfl) ?_
        refine WL.ex rfl (ex_move (v := .bool false) rfl) ?_
        refine WL.guardNo rfl rfl rfl rfl ?_
        refine WL.guardNo rfl rfl rfl rfl ?_
        refine WL.guardNo rfl rfl rfl rfl ?_
        refine WL.ex rfl (ex_pick_f (v := .bool false) rfl rfl) ?_
        refine WL.ex rfl (ex_move (v := .bool false) rfl) ?_
        refine WL.guardNo rfl rfl rfl rfl ?_
        refine WL.guardNo rfl rfl rfl rfl ?_
        refine WL.ex rfl (ex_pick_f (v := .bool false) rfl rfl) ?_
        refine WL.ex rfl (ex_move (v := .bool false) rfl) ?_
        refine WL.guardNo rfl rfl rfl rfl ?_
        refine WL.guardNo rfl rfl rfl rfl ?_
        refine WL.guardNo rfl rfl rfl rfl ?_
        refine WL.ex rfl (ex_pick_f (v := .bool false) rfl rfl) ?_
        refine WL.ex rfl (ex_move (v := .bool false) rfl) ?_
        refine WL.guardNo rfl rfl rfl rfl ?_
        refine WL.guardNo rfl rfl rfl rfl ?_
        refine WL.ex rfl (ex_pick_f (v := .bool false) rfl rfl) ?_
        refine WL.ex rfl (ex_move (v := .bool false) rfl) ?_
        refine WL.guardNo rfl rfl rfl rfl ?_
        refine WL.guardNo rfl rfl rfl rfl ?_
        refine WL.guardNo rfl rfl rfl rfl ?_
        refine WL.guardNo rfl rfl rfl rfl ?_
        refine WL.ex rfl (ex_pick_f (v := .bool false) rfl rfl) ?_
        refine WL.ex rfl (ex_assign (v := .bool false) rfl) ?_
        refine WL.nil ?_
        refine WC.ret ?_
        obtain rfl := Option.some.inj H
        exact ⟨_, (.tmp (.bool false : Value) rfl .nil), _, rfl, HF.out⟩
    ·
      refine WL.guardNo rfl rfl rfl ((show _ = Value.bool (z166 == ([48, 45, 50, 44, 53, 44, 54, 52] : List UInt8)) from rfl).trans (congrArg Value.bool c170)) ?_
      refine WL.guardNo rfl rfl rfl ((show _ = Value.bool (z166 == ([48, 45, 50, 44, 53, 44, 54, 52] : List UInt8)) from rfl).trans (congrArg Value.bool c170)) ?_
      refine WL.ex rfl (ex_pick_f (v := .bool false) ((show _ = Value.bool (z166 == ([48, 45, 50, 44, 53, 44, 54, 52] : List UInt8)) from rfl).trans (congrArg Value.bool c170)) rfl) ?_
      refine WL.ex rfl (ex_move (v := .bool false) rfl) ?_
      refine WL.guardNo rfl rfl rfl rfl ?_
      refine WL.ex rfl (ex_pick_f (v := .bool false) rfl rfl) ?_
      refine WL.ex rfl (ex_move (v := .bool false) rfl) ?_
      refine WL.guardNo rfl rfl rfl rfl ?_
      refine WL.guardNo rfl rfl rfl rfl ?_
      refine WL.guardNo rfl rfl rfl rfl ?_
      refine WL.ex rfl (ex_pick_f (v := .bool false) rfl rfl) ?_
      refine WL.ex rfl (ex_move (v := .bool false) rfl) ?_
      refine WL.guardNo rfl rfl rfl rfl ?_
      refine WL.guardNo rfl rfl rfl rfl ?_
      refine WL.ex rfl (ex_pick_f (v := .bool false) rfl rfl) ?_
      refine WL.ex rfl (ex_move (v := .bool false) rfl) ?_
      refine WL.guardNo rfl rfl rfl rfl ?_
      refine WL.guardNo rfl rfl rfl rfl ?_
      refine WL.ex rfl (ex_pick_f (v := .bool false) rfl rfl) ?_
      refine WL.ex rfl (ex_move (v := .bool false) rfl) ?_
      refine WL.guardNo rfl rfl rfl rfl ?_
      refine WL.guardNo rfl rfl rfl rfl ?_
      refine WL.guardNo rfl rfl rfl rfl ?_
      refine WL.ex rfl (ex_pick_f (v := .bool false) rfl rfl) ?_
      refine WL.ex rfl (ex_move (v := .bool false) rfl) ?_
      refine WL.guardNo rfl rfl rfl rfl ?_
      refine WL.guardNo rfl rfl rfl rfl ?_
      refine WL.ex rfl (ex_pick_f (v := .bool false) rfl rfl) ?_
      refine WL.ex rfl (ex_move (v := .bool false) rfl) ?_
      refine WL.guardNo rfl rfl rfl rfl ?_
      refine WL.guardNo rfl rfl rfl rfl ?_
      refine WL.guardNo rfl rfl rfl rfl ?_
      refine WL.ex rfl (ex_pick_f (v := .bool false) rfl rfl) ?_
      refine WL.ex rfl (ex_move (v := .bool false) rfl) ?_
      refine WL.guardNo rfl rfl rfl rfl ?_
      refine WL.guardNo rfl rfl rfl rfl ?_
      refine WL.ex rfl (ex_pick_f (v := .bool false) rfl rfl) ?_
      refine WL.ex rfl (ex_move (v := .bool false) rfl) ?_
      refine WL.guardNo rfl rfl rfl rfl ?_
      refine WL.guardNo rfl rfl rfl rfl ?_
      refine WL.guardNo rfl rfl rfl rfl ?_
      refine WL.guardNo rfl rfl rfl rfl ?_
      refine WL.ex rfl (ex_pick_f (v := .bool false) rfl rfl) ?_
      refine WL.ex rfl (ex_assign (v := .bool false) rfl) ?_
      refine WL.nil ?_
      refine WC.ret ?_
      obtain rfl := Option.some.inj H
      exact ⟨_, (.tmp (.bool false : Value) rfl .nil), _, rfl, HF.out⟩
  ·
    refine WL.guardNo rfl rfl rfl ((show _ = Value.bool (z109.2 == 0) from rfl).trans (congrArg Value.bool c165)) ?_
    refine WL.guardNo rfl rfl rfl ((show _ = Value.bool (z109.2 == 0) from rfl).trans (congrArg Value.bool c165)) ?_
    refine WL.guardNo rfl rfl rfl ((show _ = Value.bool (z109.2 == 0) from rfl).trans (congrArg Value.bool c165)) ?_
    refine WL.ex rfl (ex_pick_f (v := .bool false) ((show _ = Value.bool (z109.2 == 0) from rfl).trans (congrArg Value.bool c165)) rfl) ?_
    refine WL.ex rfl (ex_move (v := .bool false) rfl) ?_
    refine WL.guardNo rfl rfl rfl rfl ?_
    refine WL.guardNo rfl rfl rfl rfl ?_
    refine WL.ex rfl (ex_pick_f (v := .bool false) rfl rfl) ?_
    refine WL.ex rfl (ex_move (v := .bool false) rfl) ?_
    refine WL.guardNo rfl rfl rfl rfl ?_
    refine WL.ex rfl (ex_pick_f (v := .bool false) rfl rfl) ?_
    refine WL.ex rfl (ex_move (v := .bool false) rfl) ?_
    refine WL.guardNo rfl rfl rfl rfl ?_
    refine WL.guardNo rfl rfl rfl rfl ?_
    refine WL.guardNo rfl rfl rfl rfl ?_
    refine WL.ex rfl (ex_pick_f (v := .bool false) rfl rfl) ?_
    refine WL.ex rfl (ex_move (v := .bool false) rfl) ?_
    refine WL.guardNo rfl rfl rfl rfl ?_
    refine WL.guardNo rfl rfl rfl rfl ?_
    refine WL.ex rfl (ex_pick_f (v := .bool false) rfl rfl) ?_
    refine WL.ex rfl (ex_move (v := .bool false) rfl) ?_
    refine WL.guardNo rfl rfl rfl rfl ?_
    refine WL.guardNo rfl rfl rfl rfl ?_
    refine WL.ex rfl (ex_pick_f (v := .bool false) rfl rfl) ?_
    refine WL.ex rfl (ex_move (v := .bool false) rfl) ?_
    refine WL.guardNo rfl rfl rfl rfl ?_
    refine WL.guardNo rfl rfl rfl rfl ?_
    refine WL.guardNo rfl rfl rfl rfl ?_
    refine WL.ex rfl (ex_pick_f (v := .bool false) rfl rfl) ?_
    refine WL.ex rfl (ex_move (v := .bool false) rfl) ?_
    refine WL.guardNo rfl rfl rfl rfl ?_
    refine WL.guardNo rfl rfl rfl rfl ?_
    refine WL.ex rfl (ex_pick_f (v := .bool false) rfl rfl) ?_
    refine WL.ex rfl (ex_move (v := .bool false) rfl) ?_
    refine WL.guardNo rfl rfl rfl rfl ?_
    refine WL.guardNo rfl rfl rfl rfl ?_
    refine WL.guardNo rfl rfl rfl rfl ?_
    refine WL.ex rfl (ex_pick_f (v := .bool false) rfl rfl) ?_
    refine WL.ex rfl (ex_move (v := .bool false) rfl) ?_
    refine WL.guardNo rfl rfl rfl rfl ?_
    refine WL.guardNo rfl rfl rfl rfl ?_
    refine WL.ex rfl (ex_pick_f (v := .bool false) rfl rfl) ?_
    refine WL.ex rfl (ex_move (v := .bool false) rfl) ?_
    refine WL.guardNo rfl rfl rfl rfl ?_
    refine WL.guardNo rfl rfl rfl rfl ?_
    refine WL.guardNo rfl rfl rfl rfl ?_
    refine WL.guardNo rfl rfl rfl rfl ?_
    refine WL.ex rfl (ex_pick_f (v := .bool false) rfl rfl) ?_
    refine WL.ex rfl (ex_assign (v := .bool false) rfl) ?_
    refine WL.nil ?_
    refine WC.ret ?_
    obtain rfl := Option.some.inj H
    exact ⟨_, (.tmp (.bool false : Value) rfl .nil), _, rfl, HF.out⟩
end Go.Proofs.YtfdocckaobmgeaaDoor.X
