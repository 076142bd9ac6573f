import Derived.Test.YtaidlahjngmenaaDoorXAW0
set_option maxRecDepth 20000
set_option linter.unusedVariables false
set_option linter.unusedSimpArgs false
namespace Go.Proofs.YtaidlahjngmenaaDoor.X
open Go Go.RowKit Go.Proofs.YtaidlahjngmenaaDoor.SX
/-! ### utf8_Valid -/
set_option maxRecDepth 100000 in
theorem utf8_Valid.calls (k : Nat) (o0 : Tags) (w0 : World) (pA0 : Option Addr) (pc0 : Nat) (a0 : (List UInt8)) (r : Bool) (hO : ∀ b, b < w0.heap.size → o0 b < 10) (hra0 : Row Rep.u8 (fun b_ => o0 b_ = 0) (fun b_ => o0 b_ = 0) w0 pA0 a0) (hla0 : a0.length ≤ pc0) (hG : Gl GG o0 w0) (H : utf8_Valid.f k a0 = some r) :
    Calls Tryd.prog 44 [.slice pA0 a0.length pc0].toArray w0 fun e_ w_ => ∃ (o_ : Tags), e_ = .returned (one [.bool r]) ∧ Step o0 w0 o_ w_ [] := by
  have HF := Fm.refl hO []
  unfold utf8_Valid.f at H
  refine SX.calls [.slice pA0 a0.length pc0] Tryd.func44 rfl rfl ?_
  rw [Tryd.ntmps44]
  refine WC.seq ?_
  refine WC.region ?_
  refine WL.ex rfl (ex_assign (v := .bool false) rfl) ?_
  refine WL.nil ?_
  refine WC.seq ?_
  refine WC.region ?_
  refine WL.ex rfl (ex_move (v := .slice pA0 a0.length pc0) rfl) ?_
  refine WL.ex rfl (ex_move (v := .slice pA0 a0.length pc0) rfl) ?_
  refine WL.ex rfl (ex_len_slice (A := pA0) (m := a0.length) (c := pc0) rfl Tryd.underlying24) ?_
  refine WL.ex rfl (ex_move (v := .slice pA0 a0.length pc0) rfl) ?_
  refine WL.ex rfl (ex_len_slice (A := pA0) (m := a0.length) (c := pc0) rfl Tryd.underlying24) ?_
  obtain ⟨y101, hy101, H⟩ := bindE H
  have hr103 := Row.cut hra0 hla0 hy101
  obtain ⟨A104, el107⟩ : ∃ A_, A_ = subA pA0 ((a0.length : Int) : Int).toNat 0 1 := ⟨_, rfl⟩
  rw [show subA pA0 pc0 (0 : Int).toNat Rep.u8.sz = A104 from (subA_zero _ _ _).trans ((subA_zero _ _ _).symm.trans el107.symm)] at hr103
  have hl106 : y101.length ≤ ((a0.length : Int) : Int).toNat := cut_le0 hy101
  refine WL.ex rfl (ex_slice3' (m2 := y101.length) (h := (a0.length : Int)) rfl Tryd.underlying24 sz5 rfl rfl (cut_pos hy101) (cut_cap hla0 hy101) el107 (cut_len0 hy101)) ?_
  refine WL.ex rfl (ex_assign (v := .slice A104 y101.length ((a0.length : Int) : Int).toNat) rfl) ?_
  refine WL.nil ?_
  refine WC.seq ?_
  obtain ⟨z113, hz113, H⟩ := bindE H
  refine WC.for (fun k_ ρ_ w_ => ∃ (o_ : Tags) (x112 : (List UInt8)) (A108 : Option Addr) (c109 : Nat), Fm o0 w0 o_ w_ [] ∧ Row Rep.u8 (fun b_ => o_ b_ = 0) (fun b_ => o_ b_ = 0) w_ A108 x112 ∧ x112.length ≤ c109 ∧ Gl GG o_ w_ ∧ ρ_ 0 = .slice A108 x112.length c109 ∧ ρ_ 2 = .bool false ∧ utf8_Valid.l1 k k_ x112 = some z113) k (fun ρ_ w_ => ∃ (o_ : Tags), Fm o0 w0 o_ w_ [] ∧ Gl GG o_ w_ ∧ ρ_ 2 = .bool false ∧ z113 = .inr ()) ⟨_, y101, _, _, HF, hr103, hl106, hG, rfl, rfl, hz113⟩ ?case114 ?_
  case case114 =>
    rintro ρ426 w424 ⟨o425, HF, hG, s2_112, rfl⟩
    dsimp only at H
    refine WC.seq ?_
    refine WC.region ?_
    refine WL.ex rfl (ex_assign (v := .bool true) rfl) ?_
    refine WL.nil ?_
    refine WC.ret ?_
    obtain rfl := Option.some.inj H
    exact ⟨_, (.tmp (.bool true : Value) rfl .nil), _, rfl, HF.out⟩
  have Ho115 := H
  rintro k116 ρ117 w118 ⟨o119, x112, A108, c109, HF, hr110, hl111, hG, s0_112, s2_112, H⟩
  cases k116 with
  | zero => cases H
  | succ k116 =>
  rw [utf8_Valid.l1.eq_2] at H
  refine WC.seq ?_
  refine WC.seq ?_
  refine WC.region ?_
  refine WL.ex rfl (ex_move (v := .slice A108 x112.length c109) s0_112) ?_
  refine WL.ex rfl (ex_len_slice (A := A108) (m := x112.length) (c := c109) rfl Tryd.underlying24) ?_
  refine WL.ex rfl (ex_bin (a := .int .i64 (x112.length : Int)) (b := .int .i64 0) (v := .bool (decide ((x112.length : Int) > 0))) rfl rfl bin_gtr) ?_
  refine WL.nil ?_
  rcases condE H with ⟨c120, H⟩ | ⟨c120, H⟩
  ·
    refine WC.cond_t ((show _ = Value.bool (decide ((x112.length : Int) > 0)) from rfl).trans (congrArg Value.bool c120)) ?_
    refine WC.skip ?_
    refine WC.block ?_
    refine WC.seq ?_
    refine WC.region ?_
    refine WL.ex rfl (ex_move (v := .slice A108 x112.length c109) s0_112) ?_
    obtain ⟨x121, hx121, H⟩ := bindE H
    obtain ⟨ad122, e123, g124, g125, cell126⟩ := Row.ixS hr110 hx121
    refine WL.ex rfl (ex_indexAddr (i := (0 : Int)) rfl e123 rfl Tryd.underlying24 sz5 g124 g125) ?_
    refine WL.ex rfl (ex_load1 (v := enc8 x121) rfl Tryd.underlying5 rfl cell126) ?_
    refine WL.ex rfl (ex_assign (v := enc8 x121) rfl) ?_
    refine WL.nil ?_
    refine WC.seq ?_
    refine WC.seq ?_
    refine WC.region ?_
    refine WL.ex rfl (ex_move (v := enc8 x121) rfl) ?_
    refine WL.ex rfl (ex_bin (a := enc8 x121) (b := enc8 (128 : UInt8)) (v := .bool (decide (x121 < (128 : UInt8)))) rfl rfl bin_lss_u8) ?_
    refine WL.nil ?_
    rcases condE H with ⟨c128, H⟩ | ⟨c128, H⟩
    ·
      refine WC.cond_t ((show _ = Value.bool (decide (x121 < (128 : UInt8))) from rfl).trans (congrArg Value.bool c128)) ?_
      refine WC.seq ?_
      refine WC.region ?_
      refine WL.ex rfl (ex_move (v := .slice A108 x112.length c109) s0_112) ?_
      obtain ⟨y129, hy129, H⟩ := bindE H
      have hr131 := Row.cut hr110 hl111 hy129
      obtain ⟨A132, el135⟩ : ∃ A_, A_ = subA A108 c109 (1 : Int).toNat 1 := ⟨_, rfl⟩
      rw [show subA A108 c109 (1 : Int).toNat Rep.u8.sz = A132 from el135.symm] at hr131
      have hl134 : y129.length ≤ c109 - (1 : Int).toNat := cut_le hl111 hy129
      refine WL.ex rfl (ex_slice' (l := 1) (h := (x112.length : Int)) rfl Tryd.underlying24 sz5 ⟨_, rfl⟩ rfl (cut_low hy129) (cut_mid hy129) (cut_cap hl111 hy129) el135 (cut_len hy129)) ?_
      refine WL.ex rfl (ex_assign (v := .slice A132 y129.length (c109 - (1 : Int).toNat)) rfl) ?_
      refine WL.nil ?_
      refine WC.seq ?_
      obtain ⟨z137, hz137, H⟩ := bindE H
      refine WC.cut (fun ρ_ w_ => ∃ (o_ : Tags), Fm o0 w0 o_ w_ [] ∧ Row Rep.u8 (fun b_ => o_ b_ = 0) (fun b_ => o_ b_ = 0) w_ A132 y129 ∧ Gl GG o_ w_ ∧ ρ_ 0 = .slice A132 y129.length (c109 - (1 : Int).toNat) ∧ ρ_ 2 = .bool false ∧ ρ_ 3 = enc8 x121 ∧ ρ_ 31 = .bool z137) ?case138 ?_
      case case138 =>
        rintro ρ141 w139 ⟨o140, HF, hr131, hG, s0_135, s2_135, s3_135, s31_136⟩
        rcases condE H with ⟨c142, H⟩ | ⟨c142, H⟩
        ·
          refine WC.cond_t ((show _ = Value.bool z137 from s31_136).trans (congrArg Value.bool c142)) ?_
          refine WC.seq ?_
          refine WC.region ?_
          refine WL.ex rfl (ex_move (v := .slice A132 y129.length (c109 - (1 : Int).toNat)) s0_135) ?_
          obtain ⟨y143, hy143, H⟩ := bindE H
          have hr145 := Row.cut hr131 hl134 hy143
          obtain ⟨A146, el149⟩ : ∃ A_, A_ = subA A132 (c109 - (1 : Int).toNat) (8 : Int).toNat 1 := ⟨_, rfl⟩
          rw [show subA A132 (c109 - (1 : Int).toNat) (8 : Int).toNat Rep.u8.sz = A146 from el149.symm] at hr145
          have hl148 : y143.length ≤ (c109 - (1 : Int).toNat) - (8 : Int).toNat := cut_le hl134 hy143
          refine WL.ex rfl (ex_slice' (l := 8) (h := (y129.length : Int)) rfl Tryd.underlying24 sz5 ⟨_, rfl⟩ rfl (cut_low hy143) (cut_mid hy143) (cut_cap hl134 hy143) el149 (cut_len hy143)) ?_
          refine WL.ex rfl (ex_assign (v := .slice A146 y143.length ((c109 - (1 : Int).toNat) - (8 : Int).toNat)) rfl) ?_
          refine WL.nil ?_
          obtain ⟨z151, hz151, H⟩ := bindE H
          refine WC.cut (fun ρ_ w_ => ∃ (o_ : Tags), Fm o0 w0 o_ w_ [] ∧ Row Rep.u8 (fun b_ => o_ b_ = 0) (fun b_ => o_ b_ = 0) w_ A146 y143 ∧ Gl GG o_ w_ ∧ ρ_ 0 = .slice A146 y143.length ((c109 - (1 : Int).toNat) - (8 : Int).toNat) ∧ ρ_ 2 = .bool false ∧ ρ_ 3 = enc8 x121 ∧ ρ_ 46 = .bool z151) ?case152 ?_
          case case152 =>
            rintro ρ155 w153 ⟨o154, HF, hr145, hG, s0_149, s2_149, s3_149, s46_150⟩
            rcases condE H with ⟨c156, H⟩ | ⟨c156, H⟩
            ·
              refine WC.cond_t ((show _ = Value.bool z151 from s46_150).trans (congrArg Value.bool c156)) ?_
              refine WC.seq ?_
              refine WC.region ?_
              refine WL.ex rfl (ex_move (v := .slice A146 y143.length ((c109 - (1 : Int).toNat) - (8 : Int).toNat)) s0_149) ?_
              obtain ⟨y157, hy157, H⟩ := bindE H
              have hr159 := Row.cut hr145 hl148 hy157
              obtain ⟨A160, el163⟩ : ∃ A_, A_ = subA A146 ((c109 - (1 : Int).toNat) - (8 : Int).toNat) (16 : Int).toNat 1 := ⟨_, rfl⟩
              rw [show subA A146 ((c109 - (1 : Int).toNat) - (8 : Int).toNat) (16 : Int).toNat Rep.u8.sz = A160 from el163.symm] at hr159
              have hl162 : y157.length ≤ ((c109 - (1 : Int).toNat) - (8 : Int).toNat) - (16 : Int).toNat := cut_le hl148 hy157
              refine WL.ex rfl (ex_slice' (l := 16) (h := (y143.length : Int)) rfl Tryd.underlying24 sz5 ⟨_, rfl⟩ rfl (cut_low hy157) (cut_mid hy157) (cut_cap hl148 hy157) el163 (cut_len hy157)) ?_
              refine WL.ex rfl (ex_assign (v := .slice A160 y157.length (((c109 - (1 : Int).toNat) - (8 : Int).toNat) - (16 : Int).toNat)) rfl) ?_
              refine WL.nil ?_
              obtain ⟨z174, hz174, H⟩ := bindE H
              refine WC.for (fun k_ ρ_ w_ => ∃ (o_ : Tags) (x168 : (List UInt8)) (A164 : Option Addr) (c165 : Nat), Fm o0 w0 o_ w_ [] ∧ Row Rep.u8 (fun b_ => o_ b_ = 0) (fun b_ => o_ b_ = 0) w_ A164 x168 ∧ x168.length ≤ c165 ∧ Gl GG o_ w_ ∧ ρ_ 0 = .slice A164 x168.length c165 ∧ ρ_ 2 = .bool false ∧ ρ_ 3 = enc8 x121 ∧ utf8_Valid.l2 k k_ x168 = some z174) k (fun ρ_ w_ => ∃ (o_ : Tags) (A169 : Option Addr) (c170 : Nat), Fm o0 w0 o_ w_ [] ∧ Row Rep.u8 (fun b_ => o_ b_ = 0) (fun b_ => o_ b_ = 0) w_ A169 z174 ∧ z174.length ≤ c170 ∧ Gl GG o_ w_ ∧ ρ_ 0 = .slice A169 z174.length c170 ∧ ρ_ 2 = .bool false ∧ ρ_ 3 = enc8 x121) ⟨_, y157, _, _, HF, hr159, hl162, hG, rfl, s2_149, s3_149, hz174⟩ ?case175 ?_
              case case175 =>
                rintro ρ238 w236 ⟨o237, A169, c170, HF, hr171, hl172, hG, s0_173, s2_173, s3_173⟩
                refine WC.exit ?_
                exact ⟨k116, Nat.lt_succ_self _, ⟨_, z174, _, _, HF, hr171, hl172, hG, s0_173, s2_173, H⟩⟩
              have Ho176 := H
              rintro k177 ρ178 w179 ⟨o180, x168, A164, c165, HF, hr166, hl167, hG, s0_168, s2_168, s3_168, H⟩
              cases k177 with
              | zero => cases H
              | succ k177 =>
              rw [utf8_Valid.l2.eq_2] at H
              refine WC.seq ?_
              obtain ⟨z182, hz182, H⟩ := bindE H
              refine WC.cut (fun ρ_ w_ => ∃ (o_ : Tags), Fm o0 w0 o_ w_ [] ∧ Row Rep.u8 (fun b_ => o_ b_ = 0) (fun b_ => o_ b_ = 0) w_ A164 x168 ∧ x168.length ≤ c165 ∧ Gl GG o_ w_ ∧ ρ_ 0 = .slice A164 x168.length c165 ∧ ρ_ 2 = .bool false ∧ ρ_ 3 = enc8 x121 ∧ ρ_ 69 = .bool z182) ?case183 ?_
              case case183 =>
                rintro ρ186 w184 ⟨o185, HF, hr166, hl167, hG, s0_180, s2_180, s3_180, s69_181⟩
                rcases condE H with ⟨c187, H⟩ | ⟨c187, H⟩
                ·
                  refine WC.cond_t ((show _ = Value.bool z182 from s69_181).trans (congrArg Value.bool c187)) ?_
                  refine WC.skip ?_
                  refine WC.block ?_
                  refine WC.region ?_
                  refine WL.ex rfl (ex_move (v := .slice A164 x168.length c165) s0_180) ?_
                  obtain ⟨y188, hy188, H⟩ := bindE H
                  have hr190 := Row.cut hr166 hl167 hy188
                  obtain ⟨A191, el194⟩ : ∃ A_, A_ = subA A164 c165 (32 : Int).toNat 1 := ⟨_, rfl⟩
                  rw [show subA A164 c165 (32 : Int).toNat Rep.u8.sz = A191 from el194.symm] at hr190
                  have hl193 : y188.length ≤ c165 - (32 : Int).toNat := cut_le hl167 hy188
                  refine WL.ex rfl (ex_slice' (l := 32) (h := (x168.length : Int)) rfl Tryd.underlying24 sz5 ⟨_, rfl⟩ rfl (cut_low hy188) (cut_mid hy188) (cut_cap hl167 hy188) el194 (cut_len hy188)) ?_
                  refine WL.ex rfl (ex_assign (v := .slice A191 y188.length (c165 - (32 : Int).toNat)) rfl) ?_
                  refine WL.nil ?_
                  exact ⟨k177, Nat.lt_succ_self _, ⟨_, y188, _, _, HF, hr190, hl193, hG, rfl, s2_180, s3_180, H⟩⟩
                ·
                  refine WC.cond_f ((show _ = Value.bool z182 from s69_181).trans (congrArg Value.bool c187)) ?_
                  refine WC.exit ?_
                  obtain rfl := Option.some.inj H
                  exact ⟨_, _, _, HF, hr166, hl167, hG, s0_180, s2_180, s3_180⟩
              have Ho195 := H
              replace H := hz182
              refine WC.regionD' HF [] 21 (by kernel_rfl) rfl ?_
              intro w196 s197
              replace hr166 := hr166.step s197 rfl
              replace hG := hG.step s197 rfl
              replace HF := HF.step s197 rfl
              have hr166D := hr166
              have hGD := hG
              have sR := HF.here []
              refine WA.norm (listed' := #[false, false, false, false, false, false, false, false, false, false, false, false, false, false, false, false, false, false, false, false, false]) (by kernel_rfl) ?_
              refine WA.ex 0 rfl (by kernel_rfl) (by kernel_rfl) (by kernel_rfl) rfl ⟨_, sR⟩ (fun w_ hS_ => ex_move (v := .slice A164 x168.length c165) s0_168) ?_
              refine WA.norm (listed' := #[true, false, false, false, false, false, false, false, false, false, false, false, false, false, false, false, false, false, false, false, false]) (by kernel_rfl) ?_
              refine WA.ex 1 rfl (by kernel_rfl) (by kernel_rfl) (by kernel_rfl) rfl ⟨_, sR⟩ (fun w_ hS_ => ex_len_slice (A := A164) (m := x168.length) (c := c165) rfl Tryd.underlying24) ?_
              refine WA.norm (listed' := #[true, true, false, false, false, false, false, false, false, false, false, false, false, false, false, false, false, false, false, false, false]) (by kernel_rfl) ?_
              refine WA.ex 2 rfl (by kernel_rfl) (by kernel_rfl) (by kernel_rfl) rfl ⟨_, sR⟩ (fun w_ hS_ => ex_bin (a := .int .i64 (x168.length : Int)) (b := .int .i64 32) (v := .bool (decide ((x168.length : Int) > 32))) rfl rfl bin_gtr) ?_
              refine WA.norm (listed' := #[true, true, true, false, false, false, false, false, false, false, false, false, false, false, false, false, false, false, false, false, false]) (by kernel_rfl) ?_
              refine WA.ex 3 rfl (by kernel_rfl) (by kernel_rfl) (by kernel_rfl) rfl ⟨_, sR⟩ (fun w_ hS_ => ex_move (v := .bool (decide ((x168.length : Int) > 32))) rfl) ?_
              refine WA.norm (listed' := #[true, true, true, true, false, false, false, false, false, false, false, false, false, false, false, false, false, false, false, false, false]) (by kernel_rfl) ?_
              rcases condE H with ⟨c198, H⟩ | ⟨c198, H⟩
              ·
                refine WA.exYes (i := 4) rfl (by kernel_rfl) (by kernel_rfl) (by kernel_rfl) rfl rfl rfl ((show _ = Value.bool (decide ((x168.length : Int) > 32)) from rfl).trans (congrArg Value.bool c198)) ⟨_, sR⟩ (fun w_ hS_ => ex_move (v := .slice A164 x168.length c165) s0_168) ?_
                refine WA.norm (listed' := #[true, true, true, true, true, false, false, false, false, false, false, false, false, false, false, false, false, false, false, false, false]) (by kernel_rfl) ?_
                refine WA.exYes (i := 6) rfl (by kernel_rfl) (by kernel_rfl) (by kernel_rfl) rfl rfl rfl ((show _ = Value.bool (decide ((x168.length : Int) > 32)) from rfl).trans (congrArg Value.bool c198)) ⟨_, sR⟩ (fun w_ hS_ => ex_move (v := .slice A164 x168.length c165) s0_168) ?_
                refine WA.norm (listed' := #[true, true, true, true, true, false, true, false, false, false, false, false, false, false, false, false, false, false, false, false, false]) (by kernel_rfl) ?_
                obtain ⟨y199, hy199, H⟩ := bindE H
                have hr201 := Row.cut hr166 hl167 hy199
                obtain ⟨A202, el205⟩ : ∃ A_, A_ = subA A164 c165 (8 : Int).toNat 1 := ⟨_, rfl⟩
                rw [show subA A164 c165 (8 : Int).toNat Rep.u8.sz = A202 from el205.symm] at hr201
                have hl204 : y199.length ≤ c165 - (8 : Int).toNat := cut_le hl167 hy199
                have hr201D := Row.cut hr166D hl167 hy199
                rw [show subA A164 c165 (8 : Int).toNat Rep.u8.sz = A202 from el205.symm] at hr201D
                refine WA.exYes (i := 7) rfl (by kernel_rfl) (by kernel_rfl) (by kernel_rfl) rfl rfl rfl ((show _ = Value.bool (decide ((x168.length : Int) > 32)) from rfl).trans (congrArg Value.bool c198)) ⟨_, sR⟩ (fun w_ hS_ => ex_slice' (l := 8) (h := (x168.length : Int)) rfl Tryd.underlying24 sz5 ⟨_, rfl⟩ rfl (cut_low hy199) (cut_mid hy199) (cut_cap hl167 hy199) el205 (cut_len hy199)) ?_
                refine WA.norm (listed' := #[true, true, true, true, true, false, true, true, false, false, false, false, false, false, false, false, false, false, false, false, false]) (by kernel_rfl) ?_
                refine WA.exYes (i := 10) rfl (by kernel_rfl) (by kernel_rfl) (by kernel_rfl) rfl rfl rfl ((show _ = Value.bool (decide ((x168.length : Int) > 32)) from rfl).trans (congrArg Value.bool c198)) ⟨_, sR⟩ (fun w_ hS_ => ex_move (v := .slice A164 x168.length c165) s0_168) ?_
                refine WA.norm (listed' := #[true, true, true, true, true, false, true, true, false, false, true, false, false, false, false, false, false, false, false, false, false]) (by kernel_rfl) ?_
                obtain ⟨y206, hy206, H⟩ := bindE H
                have hr208 := Row.cut hr166 hl167 hy206
                obtain ⟨A209, el212⟩ : ∃ A_, A_ = subA A164 c165 (16 : Int).toNat 1 := ⟨_, rfl⟩
                rw [show subA A164 c165 (16 : Int).toNat Rep.u8.sz = A209 from el212.symm] at hr208
                have hl211 : y206.length ≤ c165 - (16 : Int).toNat := cut_le hl167 hy206
                have hr208D := Row.cut hr166D hl167 hy206
                rw [show subA A164 c165 (16 : Int).toNat Rep.u8.sz = A209 from el212.symm] at hr208D
                refine WA.exYes (i := 11) rfl (by kernel_rfl) (by kernel_rfl) (by kernel_rfl) rfl rfl rfl ((show _ = Value.bool (decide ((x168.length : Int) > 32)) from rfl).trans (congrArg Value.bool c198)) ⟨_, sR⟩ (fun w_ hS_ => ex_slice' (l := 16) (h := (x168.length : Int)) rfl Tryd.underlying24 sz5 ⟨_, rfl⟩ rfl (cut_low hy206) (cut_mid hy206) (cut_cap hl167 hy206) el212 (cut_len hy206)) ?_
                refine WA.norm (listed' := #[true, true, true, true, true, false, true, true, false, false, true, true, false, false, false, false, false, false, false, false, false]) (by kernel_rfl) ?_
                refine WA.exYes (i := 13) rfl (by kernel_rfl) (by kernel_rfl) (by kernel_rfl) rfl rfl rfl ((show _ = Value.bool (decide ((x168.length : Int) > 32)) from rfl).trans (congrArg Value.bool c198)) ⟨_, sR⟩ (fun w_ hS_ => ex_move (v := .slice A164 x168.length c165) s0_168) ?_
                refine WA.norm (listed' := #[true, true, true, true, true, false, true, true, false, false, true, true, false, true, false, false, false, false, false, false, false]) (by kernel_rfl) ?_
                obtain ⟨y213, hy213, H⟩ := bindE H
                have hr215 := Row.cut hr166 hl167 hy213
                obtain ⟨A216, el219⟩ : ∃ A_, A_ = subA A164 c165 (24 : Int).toNat 1 := ⟨_, rfl⟩
                rw [show subA A164 c165 (24 : Int).toNat Rep.u8.sz = A216 from el219.symm] at hr215
                have hl218 : y213.length ≤ c165 - (24 : Int).toNat := cut_le hl167 hy213
                have hr215D := Row.cut hr166D hl167 hy213
                rw [show subA A164 c165 (24 : Int).toNat Rep.u8.sz = A216 from el219.symm] at hr215D
                refine WA.exYes (i := 14) rfl (by kernel_rfl) (by kernel_rfl) (by kernel_rfl) rfl rfl rfl ((show _ = Value.bool (decide ((x168.length : Int) > 32)) from rfl).trans (congrArg Value.bool c198)) ⟨_, sR⟩ (fun w_ hS_ => ex_slice' (l := 24) (h := (x168.length : Int)) rfl Tryd.underlying24 sz5 ⟨_, rfl⟩ rfl (cut_low hy213) (cut_mid hy213) (cut_cap hl167 hy213) el219 (cut_len hy213)) ?_
                refine WA.norm (listed' := #[true, true, true, true, true, false, true, true, false, false, true, true, false, true, true, false, false, false, false, false, false]) (by kernel_rfl) ?_
                obtain ⟨z220, hz220, H⟩ := bindE H
                refine WA.oneYes 5 (by kernel_rfl) rfl rfl rfl rfl ((show _ = Value.bool (decide ((x168.length : Int) > 32)) from rfl).trans (congrArg Value.bool c198)) ?_
                refine OW.call [.slice A164 x168.length c165] rfl Tryd.func53 (by kernel_rfl) (by kernel_rfl) (map_cons' rfl rfl) (utf8_word_byte.calls _ _ A164 c165 x168 z220 (HF.ten (V := [0]) (L := []) rfl) (Row.vw (V := [0]) (L := []) hr166 rfl) hl167 hz220) ?_
                rintro _ w221 ⟨o222, rfl, s223⟩
                refine ⟨_, rfl, ?_⟩
                replace s223 := un_stepL (J := []) (L' := []) s223 rfl rfl
                replace hr166 := hr166.step s223 rfl
                replace hG := hG.step s223 rfl
                replace hr201 := hr201.step s223 rfl
                replace hr208 := hr208.step s223 rfl
                replace hr215 := hr215.step s223 rfl
                replace HF := HF.step s223 rfl
                replace sR := Step.trans sR s223 (M := []) rfl rfl
                refine ⟨⟨_, sR⟩, ?_⟩
                refine WA.norm (listed' := #[true, true, true, true, true, true, true, true, false, false, true, true, false, true, true, false, false, false, false, false, false]) (by kernel_rfl) ?_
                obtain ⟨z224, hz224, H⟩ := bindE H
                refine WA.oneYes 8 (by kernel_rfl) rfl rfl rfl rfl ((show _ = Value.bool (decide ((x168.length : Int) > 32)) from rfl).trans (congrArg Value.bool c198)) ?_
                refine OW.call [.slice A202 y199.length (c165 - (8 : Int).toNat)] rfl Tryd.func53 (by kernel_rfl) (by kernel_rfl) (map_cons' rfl rfl) (utf8_word_byte.calls _ _ A202 (c165 - (8 : Int).toNat) y199 z224 (HF.ten (V := [0]) (L := []) rfl) (Row.vw (V := [0]) (L := []) hr201 rfl) hl204 hz224) ?_
                rintro _ w225 ⟨o226, rfl, s227⟩
                refine ⟨_, rfl, ?_⟩
                replace s227 := un_stepL (J := []) (L' := []) s227 rfl rfl
                replace hr166 := hr166.step s227 rfl
                replace hG := hG.step s227 rfl
                replace hr201 := hr201.step s227 rfl
                replace hr208 := hr208.step s227 rfl
                replace hr215 := hr215.step s227 rfl
                replace HF := HF.step s227 rfl
                replace sR := Step.trans sR s227 (M := []) rfl rfl
                refine ⟨⟨_, sR⟩, ?_⟩
                refine WA.norm (listed' := #[true, true, true, true, true, true, true, true, true, false, true, true, false, true, true, false, false, false, false, false, false]) (by kernel_rfl) ?_
                refine WA.exYes (i := 9) rfl (by kernel_rfl) (by kernel_rfl) (by kernel_rfl) rfl rfl rfl ((show _ = Value.bool (decide ((x168.length : Int) > 32)) from rfl).trans (congrArg Value.bool c198)) ⟨_, sR⟩ (fun w_ hS_ => ex_bin (a := enc64 z220) (b := enc64 z224) (v := enc64 (z220 ||| z224)) rfl rfl bin_or_u64) ?_
                refine WA.norm (listed' := #[true, true, true, true, true, true, true, true, true, true, true, true, false, true, true, false, false, false, false, false, false]) (by kernel_rfl) ?_
                obtain ⟨z228, hz228, H⟩ := bindE H
                refine WA.oneYes 12 (by kernel_rfl) rfl rfl rfl rfl ((show _ = Value.bool (decide ((x168.length : Int) > 32)) from rfl).trans (congrArg Value.bool c198)) ?_
                refine OW.call [.slice A209 y206.length (c165 - (16 : Int).toNat)] rfl Tryd.func53 (by kernel_rfl) (by kernel_rfl) (map_cons' rfl rfl) (utf8_word_byte.calls _ _ A209 (c165 - (16 : Int).toNat) y206 z228 (HF.ten (V := [0]) (L := []) rfl) (Row.vw (V := [0]) (L := []) hr208 rfl) hl211 hz228) ?_
                rintro _ w229 ⟨o230, rfl, s231⟩
                refine ⟨_, rfl, ?_⟩
                replace s231 := un_stepL (J := []) (L' := []) s231 rfl rfl
                replace hr166 := hr166.step s231 rfl
                replace hG := hG.step s231 rfl
                replace hr201 := hr201.step s231 rfl
                replace hr208 := hr208.step s231 rfl
                replace hr215 := hr215.step s231 rfl
                replace HF := HF.step s231 rfl
                replace sR := Step.trans sR s231 (M := []) rfl rfl
                refine ⟨⟨_, sR⟩, ?_⟩
                refine WA.norm (listed' := #[true, true, true, true, true, true, true, true, true, true, true, true, true, true, true, false, false, false, false, false, false]) (by kernel_rfl) ?_
                obtain ⟨z232, hz232, H⟩ := bindE H
                refine WA.oneYes 15 (by kernel_rfl) rfl rfl rfl rfl ((show _ = Value.bool (decide ((x168.length : Int) > 32)) from rfl).trans (congrArg Value.bool c198)) ?_
                refine OW.call [.slice A216 y213.length (c165 - (24 : Int).toNat)] rfl Tryd.func53 (by kernel_rfl) (by kernel_rfl) (map_cons' rfl rfl) (utf8_word_byte.calls _ _ A216 (c165 - (24 : Int).toNat) y213 z232 (HF.ten (V := [0]) (L := []) rfl) (Row.vw (V := [0]) (L := []) hr215 rfl) hl218 hz232) ?_
                rintro _ w233 ⟨o234, rfl, s235⟩
                refine ⟨_, rfl, ?_⟩
                replace s235 := un_stepL (J := []) (L' := []) s235 rfl rfl
                replace hr166 := hr166.step s235 rfl
                replace hG := hG.step s235 rfl
                replace hr201 := hr201.step s235 rfl
                replace hr208 := hr208.step s235 rfl
                replace hr215 := hr215.step s235 rfl
                replace HF := HF.step s235 rfl
                replace sR := Step.trans sR s235 (M := []) rfl rfl
                refine ⟨⟨_, sR⟩, ?_⟩
                refine WA.norm (listed' := #[true, true, true, true, true, true, true, true, true, true, true, true, true, true, true, true, false, false, false, false, false]) (by kernel_rfl) ?_
                refine WA.exYes (i := 16) rfl (by kernel_rfl) (by kernel_rfl) (by kernel_rfl) rfl rfl rfl ((show _ = Value.bool (decide ((x168.length : Int) > 32)) from rfl).trans (congrArg Value.bool c198)) ⟨_, sR⟩ (fun w_ hS_ => ex_bin (a := enc64 z228) (b := enc64 z232) (v := enc64 (z228 ||| z232)) rfl rfl bin_or_u64) ?_
                refine WA.norm (listed' := #[true, true, true, true, true, true, true, true, true, true, true, true, true, true, true, true, true, false, false, false, false]) (by kernel_rfl) ?_
                refine WA.exYes (i := 17) rfl (by kernel_rfl) (by kernel_rfl) (by kernel_rfl) rfl rfl rfl ((show _ = Value.bool (decide ((x168.length : Int) > 32)) from rfl).trans (congrArg Value.bool c198)) ⟨_, sR⟩ (fun w_ hS_ => ex_bin (a := enc64 (z220 ||| z224)) (b := enc64 (z228 ||| z232)) (v := enc64 ((z220 ||| z224) ||| (z228 ||| z232))) rfl rfl bin_or_u64) ?_
                refine WA.norm (listed' := #[true, true, true, true, true, true, true, true, true, true, true, true, true, true, true, true, true, true, false, false, false]) (by kernel_rfl) ?_
                refine WA.exYes (i := 18) rfl (by kernel_rfl) (by kernel_rfl) (by kernel_rfl) rfl rfl rfl ((show _ = Value.bool (decide ((x168.length : Int) > 32)) from rfl).trans (congrArg Value.bool c198)) ⟨_, sR⟩ (fun w_ hS_ => ex_bin (a := enc64 ((z220 ||| z224) ||| (z228 ||| z232))) (b := enc64 (9259542123273814144 : UInt64)) (v := enc64 (((z220 ||| z224) ||| (z228 ||| z232)) &&& (9259542123273814144 : UInt64))) rfl rfl bin_and_u64) ?_
                refine WA.norm (listed' := #[true, true, true, true, true, true, true, true, true, true, true, true, true, true, true, true, true, true, true, false, false]) (by kernel_rfl) ?_
                refine WA.exYes (i := 19) rfl (by kernel_rfl) (by kernel_rfl) (by kernel_rfl) rfl rfl rfl ((show _ = Value.bool (decide ((x168.length : Int) > 32)) from rfl).trans (congrArg Value.bool c198)) ⟨_, sR⟩ (fun w_ hS_ => ex_bin (a := enc64 (((z220 ||| z224) ||| (z228 ||| z232)) &&& (9259542123273814144 : UInt64))) (b := enc64 (0 : UInt64)) (v := .bool ((((z220 ||| z224) ||| (z228 ||| z232)) &&& (9259542123273814144 : UInt64)) == (0 : UInt64))) rfl rfl bin_eql_u64) ?_
                refine WA.norm (listed' := #[true, true, true, true, true, true, true, true, true, true, true, true, true, true, true, true, true, true, true, true, false]) (by kernel_rfl) ?_
                refine WA.ex 20 rfl (by kernel_rfl) (by kernel_rfl) (by kernel_rfl) rfl ⟨_, sR⟩ (fun w_ hS_ => ex_pick_t (v := .bool ((((z220 ||| z224) ||| (z228 ||| z232)) &&& (9259542123273814144 : UInt64)) == (0 : UInt64))) ((show _ = Value.bool (decide ((x168.length : Int) > 32)) from rfl).trans (congrArg Value.bool c198)) rfl) ?_
                refine WA.norm (listed' := #[true, true, true, true, true, true, true, true, true, true, true, true, true, true, true, true, true, true, true, true, true]) (by kernel_rfl) ?_
                refine WA.done (by kernel_rfl) ?_
                obtain rfl := Option.some.inj H
                exact ⟨_, HF, hr166, hl167, hG, s0_168, s2_168, s3_168, rfl⟩
              ·
                refine WA.takeNo 4 rfl (by kernel_rfl) (by kernel_rfl) (by kernel_rfl) rfl rfl rfl ((show _ = Value.bool (decide ((x168.length : Int) > 32)) from rfl).trans (congrArg Value.bool c198)) ⟨_, sR⟩ ?_
                refine WA.norm (listed' := #[true, true, true, true, true, false, false, false, false, false, false, false, false, false, false, false, false, false, false, false, false]) (by kernel_rfl) ?_
                refine WA.takeNo 5 rfl (by kernel_rfl) (by kernel_rfl) (by kernel_rfl) rfl rfl rfl ((show _ = Value.bool (decide ((x168.length : Int) > 32)) from rfl).trans (congrArg Value.bool c198)) ⟨_, sR⟩ ?_
                refine WA.norm (listed' := #[true, true, true, true, true, true, false, false, false, false, false, false, false, false, false, false, false, false, false, false, false]) (by kernel_rfl) ?_
                refine WA.takeNo 6 rfl (by kernel_rfl) (by kernel_rfl) (by kernel_rfl) rfl rfl rfl ((show _ = Value.bool (decide ((x168.length : Int) > 32)) from rfl).trans (congrArg Value.bool c198)) ⟨_, sR⟩ ?_
                refine WA.norm (listed' := #[true, true, true, true, true, true, true, false, false, false, false, false, false, false, false, false, false, false, false, false, false]) (by kernel_rfl) ?_
                refine WA.takeNo 7 rfl (by kernel_rfl) (by kernel_rfl) (by kernel_rfl) rfl rfl rfl ((show _ = Value.bool (decide ((x168.length : Int) > 32)) from rfl).trans (congrArg Value.bool c198)) ⟨_, sR⟩ ?_
                refine WA.norm (listed' := #[true, true, true, true, true, true, true, true, false, false, false, false, false, false, false, false, false, false, false, false, false]) (by kernel_rfl) ?_
                refine WA.takeNo 8 rfl (by kernel_rfl) (by kernel_rfl) (by kernel_rfl) rfl rfl rfl ((show _ = Value.bool (decide ((x168.length : Int) > 32)) from rfl).trans (congrArg Value.bool c198)) ⟨_, sR⟩ ?_
                refine WA.norm (listed' := #[true, true, true, true, true, true, true, true, true, false, false, false, false, false, false, false, false, false, false, false, false]) (by kernel_rfl) ?_
                refine WA.takeNo 9 rfl (by kernel_rfl) (by kernel_rfl) (by kernel_rfl) rfl rfl rfl ((show _ = Value.bool (decide ((x168.length : Int) > 32)) from rfl).trans (congrArg Value.bool c198)) ⟨_, sR⟩ ?_
                refine WA.norm (listed' := #[true, true, true, true, true, true, true, true, true, true, false, false, false, false, false, false, false, false, false, false, false]) (by kernel_rfl) ?_
                refine WA.takeNo 10 rfl (by kernel_rfl) (by kernel_rfl) (by kernel_rfl) rfl rfl rfl ((show _ = Value.bool (decide ((x168.length : Int) > 32)) from rfl).trans (congrArg Value.bool c198)) ⟨_, sR⟩ ?_
                refine WA.norm (listed' := #[true, true, true, true, true, true, true, true, true, true, true, false, false, false, false, false, false, false, false, false, false]) (by kernel_rfl) ?_
                refine WA.takeNo 11 rfl (by kernel_rfl) (by kernel_rfl) (by kernel_rfl) rfl rfl rfl ((show _ = Value.bool (decide ((x168.length : Int) > 32)) from rfl).trans (congrArg Value.bool c198)) ⟨_, sR⟩ ?_
                refine WA.norm (listed' := #[true, true, true, true, true, true, true, true, true, true, true, true, false, false, false, false, false, false, false, false, false]) (by kernel_rfl) ?_
                refine WA.takeNo 12 rfl (by kernel_rfl) (by kernel_rfl) (by kernel_rfl) rfl rfl rfl ((show _ = Value.bool (decide ((x168.length : Int) > 32)) from rfl).trans (congrArg Value.bool c198)) ⟨_, sR⟩ ?_
                refine WA.norm (listed' := #[true, true, true, true, true, true, true, true, true, true, true, true, true, false, false, false, false, false, false, false, false]) (by kernel_rfl) ?_
                refine WA.takeNo 13 rfl (by kernel_rfl) (by kernel_rfl) (by kernel_rfl) rfl rfl rfl ((show _ = Value.bool (decide ((x168.length : Int) > 32)) from rfl).trans (congrArg Value.bool c198)) ⟨_, sR⟩ ?_
                refine WA.norm (listed' := #[true, true, true, true, true, true, true, true, true, true, true, true, true, true, false, false, false, false, false, false, false]) (by kernel_rfl) ?_
                refine WA.takeNo 14 rfl (by kernel_rfl) (by kernel_rfl) (by kernel_rfl) rfl rfl rfl ((show _ = Value.bool (decide ((x168.length : Int) > 32)) from rfl).trans (congrArg Value.bool c198)) ⟨_, sR⟩ ?_
                refine WA.norm (listed' := #[true, true, true, true, true, true, true, true, true, true, true, true, true, true, true, false, false, false, false, false, false]) (by kernel_rfl) ?_
                refine WA.takeNo 15 rfl (by kernel_rfl) (by kernel_rfl) (by kernel_rfl) rfl rfl rfl ((show _ = Value.bool (decide ((x168.length : Int) > 32)) from rfl).trans (congrArg Value.bool c198)) ⟨_, sR⟩ ?_
                refine WA.norm (listed' := #[true, true, true, true, true, true, true, true, true, true, true, true, true, true, true, true, false, false, false, false, false]) (by kernel_rfl) ?_
                refine WA.takeNo 16 rfl (by kernel_rfl) (by kernel_rfl) (by kernel_rfl) rfl rfl rfl ((show _ = Value.bool (decide ((x168.length : Int) > 32)) from rfl).trans (congrArg Value.bool c198)) ⟨_, sR⟩ ?_
                refine WA.norm (listed' := #[true, true, true, true, true, true, true, true, true, true, true, true, true, true, true, true, true, false, false, false, false]) (by kernel_rfl) ?_
                refine WA.takeNo 17 rfl (by kernel_rfl) (by kernel_rfl) (by kernel_rfl) rfl rfl rfl ((show _ = Value.bool (decide ((x168.length : Int) > 32)) from rfl).trans (congrArg Value.bool c198)) ⟨_, sR⟩ ?_
                refine WA.norm (listed' := #[true, true, true, true, true, true, true, true, true, true, true, true, true, true, true, true, true, true, false, false, false]) (by kernel_rfl) ?_
                refine WA.takeNo 18 rfl (by kernel_rfl) (by kernel_rfl) (by kernel_rfl) rfl rfl rfl ((show _ = Value.bool (decide ((x168.length : Int) > 32)) from rfl).trans (congrArg Value.bool c198)) ⟨_, sR⟩ ?_
                refine WA.norm (listed' := #[true, true, true, true, true, true, true, true, true, true, true, true, true, true, true, true, true, true, true, false, false]) (by kernel_rfl) ?_
                refine WA.takeNo 19 rfl (by kernel_rfl) (by kernel_rfl) (by kernel_rfl) rfl rfl rfl ((show _ = Value.bool (decide ((x168.length : Int) > 32)) from rfl).trans (congrArg Value.bool c198)) ⟨_, sR⟩ ?_
                refine WA.norm (listed' := #[true, true, true, true, true, true, true, true, true, true, true, true, true, true, true, true, true, true, true, true, false]) (by kernel_rfl) ?_
                refine WA.ex 20 rfl (by kernel_rfl) (by kernel_rfl) (by kernel_rfl) rfl ⟨_, sR⟩ (fun w_ hS_ => ex_pick_f (v := .bool false) ((show _ = Value.bool (decide ((x168.length : Int) > 32)) from rfl).trans (congrArg Value.bool c198)) rfl) ?_
                refine WA.norm (listed' := #[true, true, true, true, true, true, true, true, true, true, true, true, true, true, true, true, true, true, true, true, true]) (by kernel_rfl) ?_
                refine WA.done (by kernel_rfl) ?_
                obtain rfl := Option.some.inj H
                exact ⟨_, HF, hr166, hl167, hG, s0_168, s2_168, s3_168, rfl⟩
            ·
              refine WC.cond_f ((show _ = Value.bool z151 from s46_150).trans (congrArg Value.bool c156)) ?_
              refine WC.skip ?_
              refine WC.exit ?_
              exact ⟨k116, Nat.lt_succ_self _, ⟨_, y143, _, _, HF, hr145, hl148, hG, s0_149, s2_149, H⟩⟩
          have Ho239 := H
          replace H := hz151
          refine WC.regionD' HF [] 13 (by kernel_rfl) rfl ?_
          intro w240 s241
          replace hr131 := hr131.step s241 rfl
          replace hG := hG.step s241 rfl
          replace hr145 := hr145.step s241 rfl
          replace HF := HF.step s241 rfl
          have hr131D := hr131
          have hGD := hG
          have hr145D := hr145
          have sR := HF.here []
          refine WA.norm (listed' := #[false, false, false, false, false, false, false, false, false, false, false, false, false]) (by kernel_rfl) ?_
          refine WA.ex 0 rfl (by kernel_rfl) (by kernel_rfl) (by kernel_rfl) rfl ⟨_, sR⟩ (fun w_ hS_ => ex_move (v := .slice A146 y143.length ((c109 - (1 : Int).toNat) - (8 : Int).toNat)) rfl) ?_
          refine WA.norm (listed' := #[true, false, false, false, false, false, false, false, false, false, false, false, false]) (by kernel_rfl) ?_
          refine WA.ex 1 rfl (by kernel_rfl) (by kernel_rfl) (by kernel_rfl) rfl ⟨_, sR⟩ (fun w_ hS_ => ex_len_slice (A := A146) (m := y143.length) (c := ((c109 - (1 : Int).toNat) - (8 : Int).toNat)) rfl Tryd.underlying24) ?_
          refine WA.norm (listed' := #[true, true, false, false, false, false, false, false, false, false, false, false, false]) (by kernel_rfl) ?_
          refine WA.ex 2 rfl (by kernel_rfl) (by kernel_rfl) (by kernel_rfl) rfl ⟨_, sR⟩ (fun w_ hS_ => ex_bin (a := .int .i64 (y143.length : Int)) (b := .int .i64 16) (v := .bool (decide ((y143.length : Int) > 16))) rfl rfl bin_gtr) ?_
          refine WA.norm (listed' := #[true, true, true, false, false, false, false, false, false, false, false, false, false]) (by kernel_rfl) ?_
          refine WA.ex 3 rfl (by kernel_rfl) (by kernel_rfl) (by kernel_rfl) rfl ⟨_, sR⟩ (fun w_ hS_ => ex_move (v := .bool (decide ((y143.length : Int) > 16))) rfl) ?_
          refine WA.norm (listed' := #[true, true, true, true, false, false, false, false, false, false, false, false, false]) (by kernel_rfl) ?_
          rcases condE H with ⟨c242, H⟩ | ⟨c242, H⟩
          ·
            refine WA.exYes (i := 4) rfl (by kernel_rfl) (by kernel_rfl) (by kernel_rfl) rfl rfl rfl ((show _ = Value.bool (decide ((y143.length : Int) > 16)) from rfl).trans (congrArg Value.bool c242)) ⟨_, sR⟩ (fun w_ hS_ => ex_move (v := .slice A146 y143.length ((c109 - (1 : Int).toNat) - (8 : Int).toNat)) rfl) ?_
            refine WA.norm (listed' := #[true, true, true, true, true, false, false, false, false, false, false, false, false]) (by kernel_rfl) ?_
            refine WA.exYes (i := 6) rfl (by kernel_rfl) (by kernel_rfl) (by kernel_rfl) rfl rfl rfl ((show _ = Value.bool (decide ((y143.length : Int) > 16)) from rfl).trans (congrArg Value.bool c242)) ⟨_, sR⟩ (fun w_ hS_ => ex_move (v := .slice A146 y143.length ((c109 - (1 : Int).toNat) - (8 : Int).toNat)) rfl) ?_
            refine WA.norm (listed' := #[true, true, true, true, true, false, true, false, false, false, false, false, false]) (by kernel_rfl) ?_
            obtain ⟨y243, hy243, H⟩ := bindE H
            have hr245 := Row.cut hr145 hl148 hy243
            obtain ⟨A246, el249⟩ : ∃ A_, A_ = subA A146 ((c109 - (1 : Int).toNat) - (8 : Int).toNat) (8 : Int).toNat 1 := ⟨_, rfl⟩
            rw [show subA A146 ((c109 - (1 : Int).toNat) - (8 : Int).toNat) (8 : Int).toNat Rep.u8.sz = A246 from el249.symm] at hr245
            have hl248 : y243.length ≤ ((c109 - (1 : Int).toNat) - (8 : Int).toNat) - (8 : Int).toNat := cut_le hl148 hy243
            have hr245D := Row.cut hr145D hl148 hy243
            rw [show subA A146 ((c109 - (1 : Int).toNat) - (8 : Int).toNat) (8 : Int).toNat Rep.u8.sz = A246 from el249.symm] at hr245D
            refine WA.exYes (i := 7) rfl (by kernel_rfl) (by kernel_rfl) (by kernel_rfl) rfl rfl rfl ((show _ = Value.bool (decide ((y143.length : Int) > 16)) from rfl).trans (congrArg Value.bool c242)) ⟨_, sR⟩ (fun w_ hS_ => ex_slice' (l := 8) (h := (y143.length : Int)) rfl Tryd.underlying24 sz5 ⟨_, rfl⟩ rfl (cut_low hy243) (cut_mid hy243) (cut_cap hl148 hy243) el249 (cut_len hy243)) ?_
            refine WA.norm (listed' := #[true, true, true, true, true, false, true, true, false, false, false, false, false]) (by kernel_rfl) ?_
            obtain ⟨z250, hz250, H⟩ := bindE H
            refine WA.oneYes 5 (by kernel_rfl) rfl rfl rfl rfl ((show _ = Value.bool (decide ((y143.length : Int) > 16)) from rfl).trans (congrArg Value.bool c242)) ?_
            refine OW.call [.slice A146 y143.length ((c109 - (1 : Int).toNat) - (8 : Int).toNat)] rfl Tryd.func53 (by kernel_rfl) (by kernel_rfl) (map_cons' rfl rfl) (utf8_word_byte.calls _ _ A146 ((c109 - (1 : Int).toNat) - (8 : Int).toNat) y143 z250 (HF.ten (V := [0]) (L := []) rfl) (Row.vw (V := [0]) (L := []) hr145 rfl) hl148 hz250) ?_
            rintro _ w251 ⟨o252, rfl, s253⟩
            refine ⟨_, rfl, ?_⟩
            replace s253 := un_stepL (J := []) (L' := []) s253 rfl rfl
            replace hr131 := hr131.step s253 rfl
            replace hG := hG.step s253 rfl
            replace hr145 := hr145.step s253 rfl
            replace hr245 := hr245.step s253 rfl
            replace HF := HF.step s253 rfl
            replace sR := Step.trans sR s253 (M := []) rfl rfl
            refine ⟨⟨_, sR⟩, ?_⟩
            refine WA.norm (listed' := #[true, true, true, true, true, true, true, true, false, false, false, false, false]) (by kernel_rfl) ?_
            obtain ⟨z254, hz254, H⟩ := bindE H
            refine WA.oneYes 8 (by kernel_rfl) rfl rfl rfl rfl ((show _ = Value.bool (decide ((y143.length : Int) > 16)) from rfl).trans (congrArg Value.bool c242)) ?_
            refine OW.call [.slice A246 y243.length (((c109 - (1 : Int).toNat) - (8 : Int).toNat) - (8 : Int).toNat)] rfl Tryd.func53 (by kernel_rfl) (by kernel_rfl) (map_cons' rfl rfl) (utf8_word_byte.calls _ _ A246 (((c109 - (1 : Int).toNat) - (8 : Int).toNat) - (8 : Int).toNat) y243 z254 (HF.ten (V := [0]) (L := []) rfl) (Row.vw (V := [0]) (L := []) hr245 rfl) hl248 hz254) ?_
            rintro _ w255 ⟨o256, rfl, s257⟩
            refine ⟨_, rfl, ?_⟩
            replace s257 := un_stepL (J := []) (L' := []) s257 rfl rfl
            replace hr131 := hr131.step s257 rfl
            replace hG := hG.step s257 rfl
            replace hr145 := hr145.step s257 rfl
            replace hr245 := hr245.step s257 rfl
            replace HF := HF.step s257 rfl
            replace sR := Step.trans sR s257 (M := []) rfl rfl
            refine ⟨⟨_, sR⟩, ?_⟩
            refine WA.norm (listed' := #[true, true, true, true, true, true, true, true, true, false, false, false, false]) (by kernel_rfl) ?_
            refine WA.exYes (i := 9) rfl (by kernel_rfl) (by kernel_rfl) (by kernel_rfl) rfl rfl rfl ((show _ = Value.bool (decide ((y143.length : Int) > 16)) from rfl).trans (congrArg Value.bool c242)) ⟨_, sR⟩ (fun w_ hS_ => ex_bin (a := enc64 z250) (b := enc64 z254) (v := enc64 (z250 ||| z254)) rfl rfl bin_or_u64) ?_
            refine WA.norm (listed' := #[true, true, true, true, true, true, true, true, true, true, false, false, false]) (by kernel_rfl) ?_
            refine WA.exYes (i := 10) rfl (by kernel_rfl) (by kernel_rfl) (by kernel_rfl) rfl rfl rfl ((show _ = Value.bool (decide ((y143.length : Int) > 16)) from rfl).trans (congrArg Value.bool c242)) ⟨_, sR⟩ (fun w_ hS_ => ex_bin (a := enc64 (z250 ||| z254)) (b := enc64 (9259542123273814144 : UInt64)) (v := enc64 ((z250 ||| z254) &&& (9259542123273814144 : UInt64))) rfl rfl bin_and_u64) ?_
            refine WA.norm (listed' := #[true, true, true, true, true, true, true, true, true, true, true, false, false]) (by kernel_rfl) ?_
            refine WA.exYes (i := 11) rfl (by kernel_rfl) (by kernel_rfl) (by kernel_rfl) rfl rfl rfl ((show _ = Value.bool (decide ((y143.length : Int) > 16)) from rfl).trans (congrArg Value.bool c242)) ⟨_, sR⟩ (fun w_ hS_ => ex_bin (a := enc64 ((z250 ||| z254) &&& (9259542123273814144 : UInt64))) (b := enc64 (0 : UInt64)) (v := .bool (((z250 ||| z254) &&& (9259542123273814144 : UInt64)) == (0 : UInt64))) rfl rfl bin_eql_u64) ?_
            refine WA.norm (listed' := #[true, true, true, true, true, true, true, true, true, true, true, true, false]) (by kernel_rfl) ?_
            refine WA.ex 12 rfl (by kernel_rfl) (by kernel_rfl) (by kernel_rfl) rfl ⟨_, sR⟩ (fun w_ hS_ => ex_pick_t (v := .bool (((z250 ||| z254) &&& (9259542123273814144 : UInt64)) == (0 : UInt64))) ((show _ = Value.bool (decide ((y143.length : Int) > 16)) from rfl).trans (congrArg Value.bool c242)) rfl) ?_
            refine WA.norm (listed' := #[true, true, true, true, true, true, true, true, true, true, true, true, true]) (by kernel_rfl) ?_
            refine WA.done (by kernel_rfl) ?_
            obtain rfl := Option.some.inj H
            exact ⟨_, HF, hr145, hG, rfl, s2_135, s3_135, rfl⟩
          ·
            refine WA.takeNo 4 rfl (by kernel_rfl) (by kernel_rfl) (by kernel_rfl) rfl rfl rfl ((show _ = Value.bool (decide ((y143.length : Int) > 16)) from rfl).trans (congrArg Value.bool c242)) ⟨_, sR⟩ ?_
            refine WA.norm (listed' := #[true, true, true, true, true, false, false, false, false, false, false, false, false]) (by kernel_rfl) ?_
            refine WA.takeNo 5 rfl (by kernel_rfl) (by kernel_rfl) (by kernel_rfl) rfl rfl rfl ((show _ = Value.bool (decide ((y143.length : Int) > 16)) from rfl).trans (congrArg Value.bool c242)) ⟨_, sR⟩ ?_
            refine WA.norm (listed' := #[true, true, true, true, true, true, false, false, false, false, false, false, false]) (by kernel_rfl) ?_
            refine WA.takeNo 6 rfl (by kernel_rfl) (by kernel_rfl) (by kernel_rfl) rfl rfl rfl ((show _ = Value.bool (decide ((y143.length : Int) > 16)) from rfl).trans (congrArg Value.bool c242)) ⟨_, sR⟩ ?_
            refine WA.norm (listed' := #[true, true, true, true, true, true, true, false, false, false, false, false, false]) (by kernel_rfl) ?_
            refine WA.takeNo 7 rfl (by kernel_rfl) (by kernel_rfl) (by kernel_rfl) rfl rfl rfl ((show _ = Value.bool (decide ((y143.length : Int) > 16)) from rfl).trans (congrArg Value.bool c242)) ⟨_, sR⟩ ?_
            refine WA.norm (listed' := #[true, true, true, true, true, true, true, true, false, false, false, false, false]) (by kernel_rfl) ?_
            refine WA.takeNo 8 rfl (by kernel_rfl) (by kernel_rfl) (by kernel_rfl) rfl rfl rfl ((show _ = Value.bool (decide ((y143.length : Int) > 16)) from rfl).trans (congrArg Value.bool c242)) ⟨_, sR⟩ ?_
            refine WA.norm (listed' := #[true, true, true, true, true, true, true, true, true, false, false, false, false]) (by kernel_rfl) ?_
            refine WA.takeNo 9 rfl (by kernel_rfl) (by kernel_rfl) (by kernel_rfl) rfl rfl rfl ((show _ = Value.bool (decide ((y143.length : Int) > 16)) from rfl).trans (congrArg Value.bool c242)) ⟨_, sR⟩ ?_
            refine WA.norm (listed' := #[true, true, true, true, true, true, true, true, true, true, false, false, false]) (by kernel_rfl) ?_
            refine WA.takeNo 10 rfl (by kernel_rfl) (by kernel_rfl) (by kernel_rfl) rfl rfl rfl ((show _ = Value.bool (decide ((y143.length : Int) > 16)) from rfl).trans (congrArg Value.bool c242)) ⟨_, sR⟩ ?_
            refine WA.norm (listed' := #[true, true, true, true, true, true, true, true, true, true, true, false, false]) (by kernel_rfl) ?_
            refine WA.takeNo 11 rfl (by kernel_rfl) (by kernel_rfl) (by kernel_rfl) rfl rfl rfl ((show _ = Value.bool (decide ((y143.length : Int) > 16)) from rfl).trans (congrArg Value.bool c242)) ⟨_, sR⟩ ?_
            refine WA.norm (listed' := #[true, true, true, true, true, true, true, true, true, true, true, true, false]) (by kernel_rfl) ?_
            refine WA.ex 12 rfl (by kernel_rfl) (by kernel_rfl) (by kernel_rfl) rfl ⟨_, sR⟩ (fun w_ hS_ => ex_pick_f (v := .bool false) ((show _ = Value.bool (decide ((y143.length : Int) > 16)) from rfl).trans (congrArg Value.bool c242)) rfl) ?_
            refine WA.norm (listed' := #[true, true, true, true, true, true, true, true, true, true, true, true, true]) (by kernel_rfl) ?_
            refine WA.done (by kernel_rfl) ?_
            obtain rfl := Option.some.inj H
            exact ⟨_, HF, hr145, hG, rfl, s2_135, s3_135, rfl⟩
        ·
          refine WC.cond_f ((show _ = Value.bool z137 from s31_136).trans (congrArg Value.bool c142)) ?_
          refine WC.skip ?_
          refine WC.exit ?_
          exact ⟨k116, Nat.lt_succ_self _, ⟨_, y129, _, _, HF, hr131, hl134, hG, s0_135, s2_135, H⟩⟩
      have Ho258 := H
      replace H := hz137
      refine WC.region ?_
      refine WL.ex rfl (ex_move (v := .slice A132 y129.length (c109 - (1 : Int).toNat)) rfl) ?_
      refine WL.ex rfl (ex_len_slice (A := A132) (m := y129.length) (c := (c109 - (1 : Int).toNat)) rfl Tryd.underlying24) ?_
      refine WL.ex rfl (ex_bin (a := .int .i64 (y129.length : Int)) (b := .int .i64 8) (v := .bool (decide ((y129.length : Int) > 8))) rfl rfl bin_gtr) ?_
      refine WL.ex rfl (ex_move (v := .bool (decide ((y129.length : Int) > 8))) rfl) ?_
      rcases condE H with ⟨c259, H⟩ | ⟨c259, H⟩
      ·
        refine WL.guardYes rfl rfl rfl ((show _ = Value.bool (decide ((y129.length : Int) > 8)) from rfl).trans (congrArg Value.bool c259)) ?_
        refine OW.ex rfl (ex_move (v := .slice A132 y129.length (c109 - (1 : Int).toNat)) rfl) ?_
        refine WL.guardYes rfl rfl rfl ((show _ = Value.bool (decide ((y129.length : Int) > 8)) from rfl).trans (congrArg Value.bool c259)) ?_
        obtain ⟨z260, hz260, H⟩ := bindE H
        refine OW.call [.slice A132 y129.length (c109 - (1 : Int).toNat)] rfl Tryd.func53 (by kernel_rfl) (by kernel_rfl) (map_cons' rfl rfl) (utf8_word_byte.calls _ _ A132 (c109 - (1 : Int).toNat) y129 z260 (HF.ten (V := [0]) (L := []) rfl) (Row.vw (V := [0]) (L := []) hr131 rfl) hl134 hz260) ?_
        rintro _ w261 ⟨o262, rfl, s263⟩
        refine ⟨_, rfl, ?_⟩
        replace s263 := un_stepL (J := []) (L' := []) s263 rfl rfl
        replace hr110 := hr110.step s263 rfl
        replace hG := hG.step s263 rfl
        replace hr131 := hr131.step s263 rfl
        replace HF := HF.step s263 rfl
        refine WL.guardYes rfl rfl rfl ((show _ = Value.bool (decide ((y129.length : Int) > 8)) from rfl).trans (congrArg Value.bool c259)) ?_
        refine OW.ex rfl (ex_bin (a := enc64 z260) (b := enc64 (9259542123273814144 : UInt64)) (v := enc64 (z260 &&& (9259542123273814144 : UInt64))) rfl rfl bin_and_u64) ?_
        refine WL.guardYes rfl rfl rfl ((show _ = Value.bool (decide ((y129.length : Int) > 8)) from rfl).trans (congrArg Value.bool c259)) ?_
        refine OW.ex rfl (ex_bin (a := enc64 (z260 &&& (9259542123273814144 : UInt64))) (b := enc64 (0 : UInt64)) (v := .bool ((z260 &&& (9259542123273814144 : UInt64)) == (0 : UInt64))) rfl rfl bin_eql_u64) ?_
        refine WL.ex rfl (ex_pick_t (v := .bool ((z260 &&& (9259542123273814144 : UInt64)) == (0 : UInt64))) ((show _ = Value.bool (decide ((y129.length : Int) > 8)) from rfl).trans (congrArg Value.bool c259)) rfl) ?_
        refine WL.nil ?_
        obtain rfl := Option.some.inj H
        exact ⟨_, HF, hr131, hG, rfl, s2_112, rfl, rfl⟩
      ·
        refine WL.guardNo rfl rfl rfl ((show _ = Value.bool (decide ((y129.length : Int) > 8)) from rfl).trans (congrArg Value.bool c259)) ?_
        refine WL.guardNo rfl rfl rfl ((show _ = Value.bool (decide ((y129.length : Int) > 8)) from rfl).trans (congrArg Value.bool c259)) ?_
        refine WL.guardNo rfl rfl rfl ((show _ = Value.bool (decide ((y129.length : Int) > 8)) from rfl).trans (congrArg Value.bool c259)) ?_
        refine WL.guardNo rfl rfl rfl ((show _ = Value.bool (decide ((y129.length : Int) > 8)) from rfl).trans (congrArg Value.bool c259)) ?_
        refine WL.ex rfl (ex_pick_f (v := .bool false) ((show _ = Value.bool (decide ((y129.length : Int) > 8)) from rfl).trans (congrArg Value.bool c259)) rfl) ?_
        refine WL.nil ?_
        obtain rfl := Option.some.inj H
        exact ⟨_, HF, hr131, hG, rfl, s2_112, rfl, rfl⟩
    ·
      refine WC.cond_f ((show _ = Value.bool (decide (x121 < (128 : UInt8))) from rfl).trans (congrArg Value.bool c128)) ?_
      refine WC.skip ?_
      refine WC.seq ?_
      refine WC.region ?_
      refine WL.ex rfl (ex_move (v := enc8 x121) rfl) ?_
      obtain ⟨u264, hu264, H⟩ := bindE H
      refine WL.ex rfl (ex_indexArr (i := (x121.toNat : Int)) rfl rfl Tryd.underlying94 sz5 (Int.natCast_nonneg _) (of_decide_eq_true (chk_true hu264))) ?_
      refine WL.ex rfl (ex_load1 (v := enc8 (first8 x121)) rfl Tryd.underlying5 rfl (first_cell hG.2.1 x121)) ?_
      refine WL.ex rfl (ex_assign (v := enc8 (first8 x121)) rfl) ?_
      refine WL.nil ?_
      refine WC.seq ?_
      refine WC.region ?_
      refine WL.ex rfl (ex_move (v := enc8 (first8 x121)) rfl) ?_
      refine WL.ex rfl (ex_bin (a := enc8 (first8 x121)) (b := enc8 (7 : UInt8)) (v := enc8 ((first8 x121) &&& (7 : UInt8))) rfl rfl bin_and_u8) ?_
      refine WL.ex rfl (ex_conv_small (a := (((first8 x121) &&& (7 : UInt8)).toNat : Int)) rfl Tryd.underlying5 Tryd.underlying3 (small8 ((first8 x121) &&& (7 : UInt8)))) ?_
      refine WL.ex rfl (ex_assign (v := .int .i64 (((first8 x121) &&& (7 : UInt8)).toNat : Int)) rfl) ?_
      refine WL.nil ?_
      refine WC.seq ?_
      refine WC.region ?_
      refine WL.ex rfl (ex_move (v := enc8 (first8 x121)) rfl) ?_
      refine WL.ex rfl (ex_bin (a := enc8 (first8 x121)) (b := enc64 (4 : UInt64)) (v := enc8 (shr8 (first8 x121) 4)) rfl rfl (bin_shr_u8n (n := 4))) ?_
      obtain ⟨u265, hu265, H⟩ := bindE H
      refine WL.ex rfl (ex_indexArr (i := ((shr8 (first8 x121) 4).toNat : Int)) rfl rfl Tryd.underlying97 sz96 (Int.natCast_nonneg _) (of_decide_eq_true (chk_true hu265))) ?_
      refine WL.ex rfl (ex_loadN (cs := [enc8 (accLo8 (shr8 (first8 x121) 4)), enc8 (accHi8 (shr8 (first8 x121) 4))]) rfl Tryd.underlying96 rfl sz96 (acc_cell hG.2.1 (shr8 (first8 x121) 4) (of_decide_eq_true (chk_true hu265)))) ?_
      refine WL.op rfl ?_
      refine OW.alloc' [enc8 (0 : UInt8), enc8 (0 : UInt8)] 10 HF rfl zr96 rfl ?_
      intro o267 w268 b266 s269 hB270
      replace hr110 := hr110.step s269 rfl
      replace hG := hG.step s269 rfl
      replace HF := HF.step s269 rfl
      refine WL.op rfl ?_
      refine OW.store [enc8 (accLo8 (shr8 (first8 x121) 4)), enc8 (accHi8 (shr8 (first8 x121) 4))] rfl (vs := [enc8 (accLo8 (shr8 (first8 x121) 4)), enc8 (accHi8 (shr8 (first8 x121) 4))]) ((congrArg Value.cells (show ev _ _ = (.agg #[enc8 (accLo8 (shr8 (first8 x121) 4)), enc8 (accHi8 (shr8 (first8 x121) 4))] : Value) from rfl)).trans rfl) sz96 hB270 (Nat.le_of_ble_eq_true rfl) (by intro u_ hu_; simp only [List.mem_cons, List.not_mem_nil, or_false] at hu_; rcases hu_ with rfl | rfl <;> first | rfl) rfl ?_
      intro w271 s272 hB273
      replace hr110 := hr110.step s272 rfl
      replace hG := hG.step s272 rfl
      replace HF := HF.step s272 rfl
      refine WL.nil ?_
      refine WC.seq ?_
      refine WC.region ?_
      refine WL.ex rfl (ex_move (v := .int .i64 (((first8 x121) &&& (7 : UInt8)).toNat : Int)) rfl) ?_
      refine WL.nil ?_
      refine WC.block ?_
      refine WC.seq ?_
      refine WC.region ?_
      refine WL.ex rfl (ex_bin (a := .int .i64 (((first8 x121) &&& (7 : UInt8)).toNat : Int)) (b := .int .i64 2) (v := .bool ((((first8 x121) &&& (7 : UInt8)).toNat : Int) == 2)) rfl rfl bin_eql) ?_
      refine WL.ex rfl (ex_assign (v := .bool ((((first8 x121) &&& (7 : UInt8)).toNat : Int) == 2)) rfl) ?_
      refine WL.nil ?_
      rcases condE H with ⟨c274, H⟩ | ⟨c274, H⟩
      ·
        refine WC.cond_t ((show _ = Value.bool ((((first8 x121) &&& (7 : UInt8)).toNat : Int) == 2) from rfl).trans (congrArg Value.bool c274)) ?_
        refine WC.seq ?_
        obtain ⟨z276, hz276, H⟩ := bindE H
        refine WC.cut (fun ρ_ w_ => ∃ (o_ : Tags), Fm o0 w0 o_ w_ [] ∧ Row Rep.u8 (fun b_ => o_ b_ = 0) (fun b_ => o_ b_ = 0) w_ A108 x112 ∧ x112.length ≤ c109 ∧ Gl GG o_ w_ ∧ ρ_ 0 = .slice A108 x112.length c109 ∧ ρ_ 2 = .bool false ∧ ρ_ 103 = .bool z276) ?case277 ?_
        case case277 =>
          rintro ρ280 w278 ⟨o279, HF, hr110, hl111, hG, s0_274, s2_274, s103_275⟩
          rcases condE H with ⟨c281, H⟩ | ⟨c281, H⟩
          ·
            refine WC.cond_t ((show _ = Value.bool z276 from s103_275).trans (congrArg Value.bool c281)) ?_
            refine WC.seq ?_
            refine WC.region ?_
            refine WL.ex rfl (ex_assign (v := .bool false) rfl) ?_
            refine WL.nil ?_
            refine WC.ret ?_
            obtain rfl := Option.some.inj H
            replace H := Ho115
            dsimp only at H
            obtain rfl := Option.some.inj H
            exact ⟨_, (.tmp (.bool false : Value) rfl .nil), _, rfl, HF.out⟩
          ·
            refine WC.cond_f ((show _ = Value.bool z276 from s103_275).trans (congrArg Value.bool c281)) ?_
            refine WC.skip ?_
            refine WC.region ?_
            refine WL.ex rfl (ex_move (v := .slice A108 x112.length c109) s0_274) ?_
            obtain ⟨y282, hy282, H⟩ := bindE H
            have hr284 := Row.cut hr110 hl111 hy282
            obtain ⟨A285, el288⟩ : ∃ A_, A_ = subA A108 c109 (2 : Int).toNat 1 := ⟨_, rfl⟩
            rw [show subA A108 c109 (2 : Int).toNat Rep.u8.sz = A285 from el288.symm] at hr284
            have hl287 : y282.length ≤ c109 - (2 : Int).toNat := cut_le hl111 hy282
            refine WL.ex rfl (ex_slice' (l := 2) (h := (x112.length : Int)) rfl Tryd.underlying24 sz5 ⟨_, rfl⟩ rfl (cut_low hy282) (cut_mid hy282) (cut_cap hl111 hy282) el288 (cut_len hy282)) ?_
            refine WL.ex rfl (ex_assign (v := .slice A285 y282.length (c109 - (2 : Int).toNat)) rfl) ?_
            refine WL.nil ?_
            exact ⟨k116, Nat.lt_succ_self _, ⟨_, y282, _, _, HF, hr284, hl287, hG, rfl, s2_274, H⟩⟩
        have Ho289 := H
        replace H := hz276
        refine WC.regionD' HF [] 19 (by kernel_rfl) rfl ?_
        intro w290 s291
        replace hr110 := hr110.step s291 rfl
        replace hG := hG.step s291 rfl
        replace hB273 := hB273.step s291 rfl
        replace HF := HF.step s291 rfl
        have hr110D := hr110
        have hGD := hG
        have hB273D := hB273
        have sR := HF.here []
        refine WA.norm (listed' := #[false, false, false, false, false, false, false, false, false, false, false, false, false, false, false, false, false, false, false]) (by kernel_rfl) ?_
        refine WA.ex 0 rfl (by kernel_rfl) (by kernel_rfl) (by kernel_rfl) rfl ⟨_, sR⟩ (fun w_ hS_ => ex_move (v := .slice A108 x112.length c109) s0_112) ?_
        refine WA.norm (listed' := #[true, false, false, false, false, false, false, false, false, false, false, false, false, false, false, false, false, false, false]) (by kernel_rfl) ?_
        refine WA.ex 1 rfl (by kernel_rfl) (by kernel_rfl) (by kernel_rfl) rfl ⟨_, sR⟩ (fun w_ hS_ => ex_len_slice (A := A108) (m := x112.length) (c := c109) rfl Tryd.underlying24) ?_
        refine WA.norm (listed' := #[true, true, false, false, false, false, false, false, false, false, false, false, false, false, false, false, false, false, false]) (by kernel_rfl) ?_
        refine WA.ex 2 rfl (by kernel_rfl) (by kernel_rfl) (by kernel_rfl) rfl ⟨_, sR⟩ (fun w_ hS_ => ex_bin (a := .int .i64 (x112.length : Int)) (b := .int .i64 2) (v := .bool (decide ((x112.length : Int) < 2))) rfl rfl bin_lss) ?_
        refine WA.norm (listed' := #[true, true, true, false, false, false, false, false, false, false, false, false, false, false, false, false, false, false, false]) (by kernel_rfl) ?_
        refine WA.ex 3 rfl (by kernel_rfl) (by kernel_rfl) (by kernel_rfl) rfl ⟨_, sR⟩ (fun w_ hS_ => ex_move (v := .bool (decide ((x112.length : Int) < 2))) rfl) ?_
        refine WA.norm (listed' := #[true, true, true, true, false, false, false, false, false, false, false, false, false, false, false, false, false, false, false]) (by kernel_rfl) ?_
        rcases condE H with ⟨c292, H⟩ | ⟨c292, H⟩
        ·
          refine WA.takeNo 4 rfl (by kernel_rfl) (by kernel_rfl) (by kernel_rfl) rfl rfl rfl ((show _ = Value.bool (decide ((x112.length : Int) < 2)) from rfl).trans (congrArg Value.bool c292)) ⟨_, sR⟩ ?_
          refine WA.norm (listed' := #[true, true, true, true, true, false, false, false, false, false, false, false, false, false, false, false, false, false, false]) (by kernel_rfl) ?_
          refine WA.takeNo 5 rfl (by kernel_rfl) (by kernel_rfl) (by kernel_rfl) rfl rfl rfl ((show _ = Value.bool (decide ((x112.length : Int) < 2)) from rfl).trans (congrArg Value.bool c292)) ⟨_, sR⟩ ?_
          refine WA.norm (listed' := #[true, true, true, true, true, true, false, false, false, false, false, false, false, false, false, false, false, false, false]) (by kernel_rfl) ?_
          refine WA.takeNo 6 rfl (by kernel_rfl) (by kernel_rfl) (by kernel_rfl) rfl rfl rfl ((show _ = Value.bool (decide ((x112.length : Int) < 2)) from rfl).trans (congrArg Value.bool c292)) ⟨_, sR⟩ ?_
          refine WA.norm (listed' := #[true, true, true, true, true, true, true, false, false, false, false, false, false, false, false, false, false, false, false]) (by kernel_rfl) ?_
          refine WA.takeNo 7 rfl (by kernel_rfl) (by kernel_rfl) (by kernel_rfl) rfl rfl rfl ((show _ = Value.bool (decide ((x112.length : Int) < 2)) from rfl).trans (congrArg Value.bool c292)) ⟨_, sR⟩ ?_
          refine WA.norm (listed' := #[true, true, true, true, true, true, true, true, false, false, false, false, false, false, false, false, false, false, false]) (by kernel_rfl) ?_
          refine WA.takeNo 8 rfl (by kernel_rfl) (by kernel_rfl) (by kernel_rfl) rfl rfl rfl ((show _ = Value.bool (decide ((x112.length : Int) < 2)) from rfl).trans (congrArg Value.bool c292)) ⟨_, sR⟩ ?_
          refine WA.norm (listed' := #[true, true, true, true, true, true, true, true, true, false, false, false, false, false, false, false, false, false, false]) (by kernel_rfl) ?_
          refine WA.takeNo 9 rfl (by kernel_rfl) (by kernel_rfl) (by kernel_rfl) rfl rfl rfl ((show _ = Value.bool (decide ((x112.length : Int) < 2)) from rfl).trans (congrArg Value.bool c292)) ⟨_, sR⟩ ?_
          refine WA.norm (listed' := #[true, true, true, true, true, true, true, true, true, true, false, false, false, false, false, false, false, false, false]) (by kernel_rfl) ?_
          refine WA.ex 10 rfl (by kernel_rfl) (by kernel_rfl) (by kernel_rfl) rfl ⟨_, sR⟩ (fun w_ hS_ => ex_pick_t (v := .bool true) ((show _ = Value.bool (decide ((x112.length : Int) < 2)) from rfl).trans (congrArg Value.bool c292)) rfl) ?_
          refine WA.norm (listed' := #[true, true, true, true, true, true, true, true, true, true, true, false, false, false, false, false, false, false, false]) (by kernel_rfl) ?_
          refine WA.ex 11 rfl (by kernel_rfl) (by kernel_rfl) (by kernel_rfl) rfl ⟨_, sR⟩ (fun w_ hS_ => ex_move (v := .bool true) rfl) ?_
          refine WA.norm (listed' := #[true, true, true, true, true, true, true, true, true, true, true, true, false, false, false, false, false, false, false]) (by kernel_rfl) ?_
          refine WA.takeNo 12 rfl (by kernel_rfl) (by kernel_rfl) (by kernel_rfl) rfl rfl rfl rfl ⟨_, sR⟩ ?_
          refine WA.norm (listed' := #[true, true, true, true, true, true, true, true, true, true, true, true, true, false, false, false, false, false, false]) (by kernel_rfl) ?_
          refine WA.takeNo 13 rfl (by kernel_rfl) (by kernel_rfl) (by kernel_rfl) rfl rfl rfl rfl ⟨_, sR⟩ ?_
          refine WA.norm (listed' := #[true, true, true, true, true, true, true, true, true, true, true, true, true, true, false, false, false, false, false]) (by kernel_rfl) ?_
          refine WA.takeNo 14 rfl (by kernel_rfl) (by kernel_rfl) (by kernel_rfl) rfl rfl rfl rfl ⟨_, sR⟩ ?_
          refine WA.norm (listed' := #[true, true, true, true, true, true, true, true, true, true, true, true, true, true, true, false, false, false, false]) (by kernel_rfl) ?_
          refine WA.takeNo 15 rfl (by kernel_rfl) (by kernel_rfl) (by kernel_rfl) rfl rfl rfl rfl ⟨_, sR⟩ ?_
          refine WA.norm (listed' := #[true, true, true, true, true, true, true, true, true, true, true, true, true, true, true, true, false, false, false]) (by kernel_rfl) ?_
          refine WA.takeNo 16 rfl (by kernel_rfl) (by kernel_rfl) (by kernel_rfl) rfl rfl rfl rfl ⟨_, sR⟩ ?_
          refine WA.norm (listed' := #[true, true, true, true, true, true, true, true, true, true, true, true, true, true, true, true, true, false, false]) (by kernel_rfl) ?_
          refine WA.takeNo 17 rfl (by kernel_rfl) (by kernel_rfl) (by kernel_rfl) rfl rfl rfl rfl ⟨_, sR⟩ ?_
          refine WA.norm (listed' := #[true, true, true, true, true, true, true, true, true, true, true, true, true, true, true, true, true, true, false]) (by kernel_rfl) ?_
          refine WA.ex 18 rfl (by kernel_rfl) (by kernel_rfl) (by kernel_rfl) rfl ⟨_, sR⟩ (fun w_ hS_ => ex_pick_t (v := .bool true) rfl rfl) ?_
          refine WA.norm (listed' := #[true, true, true, true, true, true, true, true, true, true, true, true, true, true, true, true, true, true, true]) (by kernel_rfl) ?_
          refine WA.done (by kernel_rfl) ?_
          obtain rfl := Option.some.inj H
          exact ⟨_, HF, hr110, hl111, hG, s0_112, s2_112, rfl⟩
        ·
          refine WA.exYes (i := 4) rfl (by kernel_rfl) (by kernel_rfl) (by kernel_rfl) rfl rfl rfl ((show _ = Value.bool (decide ((x112.length : Int) < 2)) from rfl).trans (congrArg Value.bool c292)) ⟨_, sR⟩ (fun w_ hS_ => ex_move (v := .slice A108 x112.length c109) s0_112) ?_
          refine WA.norm (listed' := #[true, true, true, true, true, false, false, false, false, false, false, false, false, false, false, false, false, false, false]) (by kernel_rfl) ?_
          obtain ⟨x293, hx293, H⟩ := bindE H
          obtain ⟨ad294, e295, g296, g297, cell298⟩ := Row.ixS hr110D hx293
          have hk299 := Row.at hr110D e295 hx293 ((1 : Int).toNat * 1)
          replace cell298 := held_cell (Step.refl _ _ _) ⟨_, sR⟩ hk299 rfl cell298
          refine WA.exYes (i := 5) rfl (by kernel_rfl) (by kernel_rfl) (by kernel_rfl) rfl rfl rfl ((show _ = Value.bool (decide ((x112.length : Int) < 2)) from rfl).trans (congrArg Value.bool c292)) ⟨_, sR⟩ (fun w_ hS_ => ex_indexAddr (i := (1 : Int)) rfl e295 rfl Tryd.underlying24 sz5 g296 g297) ?_
          refine WA.norm (listed' := #[true, true, true, true, true, true, false, false, false, false, false, false, false, false, false, false, false, false, false]) (by kernel_rfl) ?_
          refine WA.exYes (i := 6) rfl (by kernel_rfl) (by kernel_rfl) (by kernel_rfl) rfl rfl rfl ((show _ = Value.bool (decide ((x112.length : Int) < 2)) from rfl).trans (congrArg Value.bool c292)) ⟨_, sR⟩ (fun w_ hS_ => ex_load1 (v := enc8 x293) rfl Tryd.underlying5 rfl (held_cell sR hS_ hk299 rfl cell298)) ?_
          refine WA.norm (listed' := #[true, true, true, true, true, true, true, false, false, false, false, false, false, false, false, false, false, false, false]) (by kernel_rfl) ?_
          refine WA.exYes (i := 7) rfl (by kernel_rfl) (by kernel_rfl) (by kernel_rfl) rfl rfl rfl ((show _ = Value.bool (decide ((x112.length : Int) < 2)) from rfl).trans (congrArg Value.bool c292)) ⟨_, sR⟩ (fun w_ hS_ => ex_fieldAddr rfl Tryd.underlying96 rfl sz5) ?_
          refine WA.norm (listed' := #[true, true, true, true, true, true, true, true, false, false, false, false, false, false, false, false, false, false, false]) (by kernel_rfl) ?_
          refine WA.exYes (i := 8) rfl (by kernel_rfl) (by kernel_rfl) (by kernel_rfl) rfl rfl rfl ((show _ = Value.bool (decide ((x112.length : Int) < 2)) from rfl).trans (congrArg Value.bool c292)) ⟨_, sR⟩ (fun w_ hS_ => ex_load1 (v := enc8 (accLo8 (shr8 (first8 x121) 4))) rfl Tryd.underlying5 rfl ((hB273D.step hS_.choose_spec rfl).cell rfl)) ?_
          refine WA.norm (listed' := #[true, true, true, true, true, true, true, true, true, false, false, false, false, false, false, false, false, false, false]) (by kernel_rfl) ?_
          refine WA.exYes (i := 9) rfl (by kernel_rfl) (by kernel_rfl) (by kernel_rfl) rfl rfl rfl ((show _ = Value.bool (decide ((x112.length : Int) < 2)) from rfl).trans (congrArg Value.bool c292)) ⟨_, sR⟩ (fun w_ hS_ => ex_bin (a := enc8 x293) (b := enc8 (accLo8 (shr8 (first8 x121) 4))) (v := .bool (decide (x293 < (accLo8 (shr8 (first8 x121) 4))))) rfl rfl bin_lss_u8) ?_
          refine WA.norm (listed' := #[true, true, true, true, true, true, true, true, true, true, false, false, false, false, false, false, false, false, false]) (by kernel_rfl) ?_
          refine WA.ex 10 rfl (by kernel_rfl) (by kernel_rfl) (by kernel_rfl) rfl ⟨_, sR⟩ (fun w_ hS_ => ex_pick_f (v := .bool (decide (x293 < (accLo8 (shr8 (first8 x121) 4))))) ((show _ = Value.bool (decide ((x112.length : Int) < 2)) from rfl).trans (congrArg Value.bool c292)) rfl) ?_
          refine WA.norm (listed' := #[true, true, true, true, true, true, true, true, true, true, true, false, false, false, false, false, false, false, false]) (by kernel_rfl) ?_
          refine WA.ex 11 rfl (by kernel_rfl) (by kernel_rfl) (by kernel_rfl) rfl ⟨_, sR⟩ (fun w_ hS_ => ex_move (v := .bool (decide (x293 < (accLo8 (shr8 (first8 x121) 4))))) rfl) ?_
          refine WA.norm (listed' := #[true, true, true, true, true, true, true, true, true, true, true, true, false, false, false, false, false, false, false]) (by kernel_rfl) ?_
          rcases condE H with ⟨c300, H⟩ | ⟨c300, H⟩
          ·
            refine WA.takeNo 12 rfl (by kernel_rfl) (by kernel_rfl) (by kernel_rfl) rfl rfl rfl ((show _ = Value.bool (decide (x293 < (accLo8 (shr8 (first8 x121) 4)))) from rfl).trans (congrArg Value.bool c300)) ⟨_, sR⟩ ?_
            refine WA.norm (listed' := #[true, true, true, true, true, true, true, true, true, true, true, true, true, false, false, false, false, false, false]) (by kernel_rfl) ?_
            refine WA.takeNo 13 rfl (by kernel_rfl) (by kernel_rfl) (by kernel_rfl) rfl rfl rfl ((show _ = Value.bool (decide (x293 < (accLo8 (shr8 (first8 x121) 4)))) from rfl).trans (congrArg Value.bool c300)) ⟨_, sR⟩ ?_
            refine WA.norm (listed' := #[true, true, true, true, true, true, true, true, true, true, true, true, true, true, false, false, false, false, false]) (by kernel_rfl) ?_
            refine WA.takeNo 14 rfl (by kernel_rfl) (by kernel_rfl) (by kernel_rfl) rfl rfl rfl ((show _ = Value.bool (decide (x293 < (accLo8 (shr8 (first8 x121) 4)))) from rfl).trans (congrArg Value.bool c300)) ⟨_, sR⟩ ?_
            refine WA.norm (listed' := #[true, true, true, true, true, true, true, true, true, true, true, true, true, true, true, false, false, false, false]) (by kernel_rfl) ?_
            refine WA.takeNo 15 rfl (by kernel_rfl) (by kernel_rfl) (by kernel_rfl) rfl rfl rfl ((show _ = Value.bool (decide (x293 < (accLo8 (shr8 (first8 x121) 4)))) from rfl).trans (congrArg Value.bool c300)) ⟨_, sR⟩ ?_
            refine WA.norm (listed' := #[true, true, true, true, true, true, true, true, true, true, true, true, true, true, true, true, false, false, false]) (by kernel_rfl) ?_
            refine WA.takeNo 16 rfl (by kernel_rfl) (by kernel_rfl) (by kernel_rfl) rfl rfl rfl ((show _ = Value.bool (decide (x293 < (accLo8 (shr8 (first8 x121) 4)))) from rfl).trans (congrArg Value.bool c300)) ⟨_, sR⟩ ?_
            refine WA.norm (listed' := #[true, true, true, true, true, true, true, true, true, true, true, true, true, true, true, true, true, false, false]) (by kernel_rfl) ?_
            refine WA.takeNo 17 rfl (by kernel_rfl) (by kernel_rfl) (by kernel_rfl) rfl rfl rfl ((show _ = Value.bool (decide (x293 < (accLo8 (shr8 (first8 x121) 4)))) from rfl).trans (congrArg Value.bool c300)) ⟨_, sR⟩ ?_
            refine WA.norm (listed' := #[true, true, true, true, true, true, true, true, true, true, true, true, true, true, true, true, true, true, false]) (by kernel_rfl) ?_
            refine WA.ex 18 rfl (by kernel_rfl) (by kernel_rfl) (by kernel_rfl) rfl ⟨_, sR⟩ (fun w_ hS_ => ex_pick_t (v := .bool true) ((show _ = Value.bool (decide (x293 < (accLo8 (shr8 (first8 x121) 4)))) from rfl).trans (congrArg Value.bool c300)) rfl) ?_
            refine WA.norm (listed' := #[true, true, true, true, true, true, true, true, true, true, true, true, true, true, true, true, true, true, true]) (by kernel_rfl) ?_
            refine WA.done (by kernel_rfl) ?_
            obtain rfl := Option.some.inj H
            exact ⟨_, HF, hr110, hl111, hG, s0_112, s2_112, rfl⟩
          ·
            refine WA.exYes (i := 12) rfl (by kernel_rfl) (by kernel_rfl) (by kernel_rfl) rfl rfl rfl ((show _ = Value.bool (decide (x293 < (accLo8 (shr8 (first8 x121) 4)))) from rfl).trans (congrArg Value.bool c300)) ⟨_, sR⟩ (fun w_ hS_ => ex_fieldAddr rfl Tryd.underlying96 rfl sz5) ?_
            refine WA.norm (listed' := #[true, true, true, true, true, true, true, true, true, true, true, true, true, false, false, false, false, false, false]) (by kernel_rfl) ?_
            refine WA.exYes (i := 13) rfl (by kernel_rfl) (by kernel_rfl) (by kernel_rfl) rfl rfl rfl ((show _ = Value.bool (decide (x293 < (accLo8 (shr8 (first8 x121) 4)))) from rfl).trans (congrArg Value.bool c300)) ⟨_, sR⟩ (fun w_ hS_ => ex_load1 (v := enc8 (accHi8 (shr8 (first8 x121) 4))) rfl Tryd.underlying5 rfl ((hB273D.step hS_.choose_spec rfl).cell rfl)) ?_
            refine WA.norm (listed' := #[true, true, true, true, true, true, true, true, true, true, true, true, true, true, false, false, false, false, false]) (by kernel_rfl) ?_
            refine WA.exYes (i := 14) rfl (by kernel_rfl) (by kernel_rfl) (by kernel_rfl) rfl rfl rfl ((show _ = Value.bool (decide (x293 < (accLo8 (shr8 (first8 x121) 4)))) from rfl).trans (congrArg Value.bool c300)) ⟨_, sR⟩ (fun w_ hS_ => ex_move (v := .slice A108 x112.length c109) s0_112) ?_
            refine WA.norm (listed' := #[true, true, true, true, true, true, true, true, true, true, true, true, true, true, true, false, false, false, false]) (by kernel_rfl) ?_
            obtain ⟨x301, hx301, H⟩ := bindE H
            obtain ⟨ad302, e303, g304, g305, cell306⟩ := Row.ixS hr110D hx301
            have hk307 := Row.at hr110D e303 hx301 ((1 : Int).toNat * 1)
            replace cell306 := held_cell (Step.refl _ _ _) ⟨_, sR⟩ hk307 rfl cell306
            refine WA.exYes (i := 15) rfl (by kernel_rfl) (by kernel_rfl) (by kernel_rfl) rfl rfl rfl ((show _ = Value.bool (decide (x293 < (accLo8 (shr8 (first8 x121) 4)))) from rfl).trans (congrArg Value.bool c300)) ⟨_, sR⟩ (fun w_ hS_ => ex_indexAddr (i := (1 : Int)) rfl e303 rfl Tryd.underlying24 sz5 g304 g305) ?_
            refine WA.norm (listed' := #[true, true, true, true, true, true, true, true, true, true, true, true, true, true, true, true, false, false, false]) (by kernel_rfl) ?_
            refine WA.exYes (i := 16) rfl (by kernel_rfl) (by kernel_rfl) (by kernel_rfl) rfl rfl rfl ((show _ = Value.bool (decide (x293 < (accLo8 (shr8 (first8 x121) 4)))) from rfl).trans (congrArg Value.bool c300)) ⟨_, sR⟩ (fun w_ hS_ => ex_load1 (v := enc8 x301) rfl Tryd.underlying5 rfl (held_cell sR hS_ hk307 rfl cell306)) ?_
            refine WA.norm (listed' := #[true, true, true, true, true, true, true, true, true, true, true, true, true, true, true, true, true, false, false]) (by kernel_rfl) ?_
            refine WA.exYes (i := 17) rfl (by kernel_rfl) (by kernel_rfl) (by kernel_rfl) rfl rfl rfl ((show _ = Value.bool (decide (x293 < (accLo8 (shr8 (first8 x121) 4)))) from rfl).trans (congrArg Value.bool c300)) ⟨_, sR⟩ (fun w_ hS_ => ex_bin (a := enc8 (accHi8 (shr8 (first8 x121) 4))) (b := enc8 x301) (v := .bool (decide ((accHi8 (shr8 (first8 x121) 4)) < x301))) rfl rfl bin_lss_u8) ?_
            refine WA.norm (listed' := #[true, true, true, true, true, true, true, true, true, true, true, true, true, true, true, true, true, true, false]) (by kernel_rfl) ?_
            refine WA.ex 18 rfl (by kernel_rfl) (by kernel_rfl) (by kernel_rfl) rfl ⟨_, sR⟩ (fun w_ hS_ => ex_pick_f (v := .bool (decide ((accHi8 (shr8 (first8 x121) 4)) < x301))) ((show _ = Value.bool (decide (x293 < (accLo8 (shr8 (first8 x121) 4)))) from rfl).trans (congrArg Value.bool c300)) rfl) ?_
            refine WA.norm (listed' := #[true, true, true, true, true, true, true, true, true, true, true, true, true, true, true, true, true, true, true]) (by kernel_rfl) ?_
            refine WA.done (by kernel_rfl) ?_
            obtain rfl := Option.some.inj H
            exact ⟨_, HF, hr110, hl111, hG, s0_112, s2_112, rfl⟩
      ·
        refine WC.cond_f ((show _ = Value.bool ((((first8 x121) &&& (7 : UInt8)).toNat : Int) == 2) from rfl).trans (congrArg Value.bool c274)) ?_
        refine WC.seq ?_
        refine WC.region ?_
        refine WL.ex rfl (ex_bin (a := .int .i64 (((first8 x121) &&& (7 : UInt8)).toNat : Int)) (b := .int .i64 3) (v := .bool ((((first8 x121) &&& (7 : UInt8)).toNat : Int) == 3)) rfl rfl bin_eql) ?_
        refine WL.ex rfl (ex_assign (v := .bool ((((first8 x121) &&& (7 : UInt8)).toNat : Int) == 3)) rfl) ?_
        refine WL.nil ?_
        rcases condE H with ⟨c308, H⟩ | ⟨c308, H⟩
        ·
          refine WC.cond_t ((show _ = Value.bool ((((first8 x121) &&& (7 : UInt8)).toNat : Int) == 3) from rfl).trans (congrArg Value.bool c308)) ?_
          refine WC.seq ?_
          obtain ⟨z310, hz310, H⟩ := bindE H
          refine WC.cut (fun ρ_ w_ => ∃ (o_ : Tags), Fm o0 w0 o_ w_ [] ∧ Row Rep.u8 (fun b_ => o_ b_ = 0) (fun b_ => o_ b_ = 0) w_ A108 x112 ∧ x112.length ≤ c109 ∧ Gl GG o_ w_ ∧ ρ_ 0 = .slice A108 x112.length c109 ∧ ρ_ 2 = .bool false ∧ ρ_ 138 = .bool z310) ?case311 ?_
          case case311 =>
            rintro ρ314 w312 ⟨o313, HF, hr110, hl111, hG, s0_308, s2_308, s138_309⟩
            rcases condE H with ⟨c315, H⟩ | ⟨c315, H⟩
            ·
              refine WC.cond_t ((show _ = Value.bool z310 from s138_309).trans (congrArg Value.bool c315)) ?_
              refine WC.seq ?_
              refine WC.region ?_
              refine WL.ex rfl (ex_assign (v := .bool false) rfl) ?_
              refine WL.nil ?_
              refine WC.ret ?_
              obtain rfl := Option.some.inj H
              replace H := Ho115
              dsimp only at H
              obtain rfl := Option.some.inj H
              exact ⟨_, (.tmp (.bool false : Value) rfl .nil), _, rfl, HF.out⟩
            ·
              refine WC.cond_f ((show _ = Value.bool z310 from s138_309).trans (congrArg Value.bool c315)) ?_
              refine WC.skip ?_
              refine WC.region ?_
              refine WL.ex rfl (ex_move (v := .slice A108 x112.length c109) s0_308) ?_
              obtain ⟨y316, hy316, H⟩ := bindE H
              have hr318 := Row.cut hr110 hl111 hy316
              obtain ⟨A319, el322⟩ : ∃ A_, A_ = subA A108 c109 (3 : Int).toNat 1 := ⟨_, rfl⟩
              rw [show subA A108 c109 (3 : Int).toNat Rep.u8.sz = A319 from el322.symm] at hr318
              have hl321 : y316.length ≤ c109 - (3 : Int).toNat := cut_le hl111 hy316
              refine WL.ex rfl (ex_slice' (l := 3) (h := (x112.length : Int)) rfl Tryd.underlying24 sz5 ⟨_, rfl⟩ rfl (cut_low hy316) (cut_mid hy316) (cut_cap hl111 hy316) el322 (cut_len hy316)) ?_
              refine WL.ex rfl (ex_assign (v := .slice A319 y316.length (c109 - (3 : Int).toNat)) rfl) ?_
              refine WL.nil ?_
              exact ⟨k116, Nat.lt_succ_self _, ⟨_, y316, _, _, HF, hr318, hl321, hG, rfl, s2_308, H⟩⟩
          have Ho323 := H
          replace H := hz310
          refine WC.regionD' HF [] 31 (by kernel_rfl) rfl ?_
          intro w324 s325
          replace hr110 := hr110.step s325 rfl
          replace hG := hG.step s325 rfl
          replace hB273 := hB273.step s325 rfl
          replace HF := HF.step s325 rfl
          have hr110D := hr110
          have hGD := hG
          have hB273D := hB273
          have sR := HF.here []
          refine WA.norm (listed' := #[false, false, false, false, false, false, false, false, false, false, false, false, false, false, false, false, false, false, false, false, false, false, false, false, false, false, false, false, false, false, false]) (by kernel_rfl) ?_
          refine WA.ex 0 rfl (by kernel_rfl) (by kernel_rfl) (by kernel_rfl) rfl ⟨_, sR⟩ (fun w_ hS_ => ex_move (v := .slice A108 x112.length c109) s0_112) ?_
          refine WA.norm (listed' := #[true, false, false, false, false, false, false, false, false, false, false, false, false, false, false, false, false, false, false, false, false, false, false, false, false, false, false, false, false, false, false]) (by kernel_rfl) ?_
          refine WA.ex 1 rfl (by kernel_rfl) (by kernel_rfl) (by kernel_rfl) rfl ⟨_, sR⟩ (fun w_ hS_ => ex_len_slice (A := A108) (m := x112.length) (c := c109) rfl Tryd.underlying24) ?_
          refine WA.norm (listed' := #[true, true, false, false, false, false, false, false, false, false, false, false, false, false, false, false, false, false, false, false, false, false, false, false, false, false, false, false, false, false, false]) (by kernel_rfl) ?_
          refine WA.ex 2 rfl (by kernel_rfl) (by kernel_rfl) (by kernel_rfl) rfl ⟨_, sR⟩ (fun w_ hS_ => ex_bin (a := .int .i64 (x112.length : Int)) (b := .int .i64 3) (v := .bool (decide ((x112.length : Int) < 3))) rfl rfl bin_lss) ?_
          refine WA.norm (listed' := #[true, true, true, false, false, false, false, false, false, false, false, false, false, false, false, false, false, false, false, false, false, false, false, false, false, false, false, false, false, false, false]) (by kernel_rfl) ?_
          refine WA.ex 3 rfl (by kernel_rfl) (by kernel_rfl) (by kernel_rfl) rfl ⟨_, sR⟩ (fun w_ hS_ => ex_move (v := .bool (decide ((x112.length : Int) < 3))) rfl) ?_
          refine WA.norm (listed' := #[true, true, true, true, false, false, false, false, false, false, false, false, false, false, false, false, false, false, false, false, false, false, false, false, false, false, false, false, false, false, false]) (by kernel_rfl) ?_
          rcases condE H with ⟨c326, H⟩ | ⟨c326, H⟩
          ·
            refine WA.takeNo 4 rfl (by kernel_rfl) (by kernel_rfl) (by kernel_rfl) rfl rfl rfl ((show _ = Value.bool (decide ((x112.length : Int) < 3)) from rfl).trans (congrArg Value.bool c326)) ⟨_, sR⟩ ?_
            refine WA.norm (listed' := #[true, true, true, true, true, false, false, false, false, false, false, false, false, false, false, false, false, false, false, false, false, false, false, false, false, false, false, false, false, false, false]) (by kernel_rfl) ?_
            refine WA.takeNo 5 rfl (by kernel_rfl) (by kernel_rfl) (by kernel_rfl) rfl rfl rfl ((show _ = Value.bool (decide ((x112.length : Int) < 3)) from rfl).trans (congrArg Value.bool c326)) ⟨_, sR⟩ ?_
            refine WA.norm (listed' := #[true, true, true, true, true, true, false, false, false, false, false, false, false, false, false, false, false, false, false, false, false, false, false, false, false, false, false, false, false, false, false]) (by kernel_rfl) ?_
            refine WA.takeNo 6 rfl (by kernel_rfl) (by kernel_rfl) (by kernel_rfl) rfl rfl rfl ((show _ = Value.bool (decide ((x112.length : Int) < 3)) from rfl).trans (congrArg Value.bool c326)) ⟨_, sR⟩ ?_
            refine WA.norm (listed' := #[true, true, true, true, true, true, true, false, false, false, false, false, false, false, false, false, false, false, false, false, false, false, false, false, false, false, false, false, false, false, false]) (by kernel_rfl) ?_
            refine WA.takeNo 7 rfl (by kernel_rfl) (by kernel_rfl) (by kernel_rfl) rfl rfl rfl ((show _ = Value.bool (decide ((x112.length : Int) < 3)) from rfl).trans (congrArg Value.bool c326)) ⟨_, sR⟩ ?_
            refine WA.norm (listed' := #[true, true, true, true, true, true, true, true, false, false, false, false, false, false, false, false, false, false, false, false, false, false, false, false, false, false, false, false, false, false, false]) (by kernel_rfl) ?_
            refine WA.takeNo 8 rfl (by kernel_rfl) (by kernel_rfl) (by kernel_rfl) rfl rfl rfl ((show _ = Value.bool (decide ((x112.length : Int) < 3)) from rfl).trans (congrArg Value.bool c326)) ⟨_, sR⟩ ?_
            refine WA.norm (listed' := #[true, true, true, true, true, true, true, true, true, false, false, false, false, false, false, false, false, false, false, false, false, false, false, false, false, false, false, false, false, false, false]) (by kernel_rfl) ?_
            refine WA.takeNo 9 rfl (by kernel_rfl) (by kernel_rfl) (by kernel_rfl) rfl rfl rfl ((show _ = Value.bool (decide ((x112.length : Int) < 3)) from rfl).trans (congrArg Value.bool c326)) ⟨_, sR⟩ ?_
            refine WA.norm (listed' := #[true, true, true, true, true, true, true, true, true, true, false, false, false, false, false, false, false, false, false, false, false, false, false, false, false, false, false, false, false, false, false]) (by kernel_rfl) ?_
            refine WA.ex 10 rfl (by kernel_rfl) (by kernel_rfl) (by kernel_rfl) rfl ⟨_, sR⟩ (fun w_ hS_ => ex_pick_t (v := .bool true) ((show _ = Value.bool (decide ((x112.length : Int) < 3)) from rfl).trans (congrArg Value.bool c326)) rfl) ?_
            refine WA.norm (listed' := #[true, true, true, true, true, true, true, true, true, true, true, false, false, false, false, false, false, false, false, false, false, false, false, false, false, false, false, false, false, false, false]) (by kernel_rfl) ?_
            refine WA.ex 11 rfl (by kernel_rfl) (by kernel_rfl) (by kernel_rfl) rfl ⟨_, sR⟩ (fun w_ hS_ => ex_move (v := .bool true) rfl) ?_
            refine WA.norm (listed' := #[true, true, true, true, true, true, true, true, true, true, true, true, false, false, false, false, false, false, false, false, false, false, false, false, false, false, false, false, false, false, false]) (by kernel_rfl) ?_
            refine WA.takeNo 12 rfl (by kernel_rfl) (by kernel_rfl) (by kernel_rfl) rfl rfl rfl rfl ⟨_, sR⟩ ?_
            refine WA.norm (listed' := #[true, true, true, true, true, true, true, true, true, true, true, true, true, false, false, false, false, false, false, false, false, false, false, false, false, false, false, false, false, false, false]) (by kernel_rfl) ?_
            refine WA.takeNo 13 rfl (by kernel_rfl) (by kernel_rfl) (by kernel_rfl) rfl rfl rfl rfl ⟨_, sR⟩ ?_
            refine WA.norm (listed' := #[true, true, true, true, true, true, true, true, true, true, true, true, true, true, false, false, false, false, false, false, false, false, false, false, false, false, false, false, false, false, false]) (by kernel_rfl) ?_
            refine WA.takeNo 14 rfl (by kernel_rfl) (by kernel_rfl) (by kernel_rfl) rfl rfl rfl rfl ⟨_, sR⟩ ?_
            refine WA.norm (listed' := #[true, true, true, true, true, true, true, true, true, true, true, true, true, true, true, false, false, false, false, false, false, false, false, false, false, false, false, false, false, false, false]) (by kernel_rfl) ?_
            refine WA.takeNo 15 rfl (by kernel_rfl) (by kernel_rfl) (by kernel_rfl) rfl rfl rfl rfl ⟨_, sR⟩ ?_
            refine WA.norm (listed' := #[true, true, true, true, true, true, true, true, true, true, true, true, true, true, true, true, false, false, false, false, false, false, false, false, false, false, false, false, false, false, false]) (by kernel_rfl) ?_
            refine WA.takeNo 16 rfl (by kernel_rfl) (by kernel_rfl) (by kernel_rfl) rfl rfl rfl rfl ⟨_, sR⟩ ?_
            refine WA.norm (listed' := #[true, true, true, true, true, true, true, true, true, true, true, true, true, true, true, true, true, false, false, false, false, false, false, false, false, false, false, false, false, false, false]) (by kernel_rfl) ?_
            refine WA.takeNo 17 rfl (by kernel_rfl) (by kernel_rfl) (by kernel_rfl) rfl rfl rfl rfl ⟨_, sR⟩ ?_
            refine WA.norm (listed' := #[true, true, true, true, true, true, true, true, true, true, true, true, true, true, true, true, true, true, false, false, false, false, false, false, false, false, false, false, false, false, false]) (by kernel_rfl) ?_
            refine WA.ex 18 rfl (by kernel_rfl) (by kernel_rfl) (by kernel_rfl) rfl ⟨_, sR⟩ (fun w_ hS_ => ex_pick_t (v := .bool true) rfl rfl) ?_
            refine WA.norm (listed' := #[true, true, true, true, true, true, true, true, true, true, true, true, true, true, true, true, true, true, true, false, false, false, false, false, false, false, false, false, false, false, false]) (by kernel_rfl) ?_
            refine WA.ex 19 rfl (by kernel_rfl) (by kernel_rfl) (by kernel_rfl) rfl ⟨_, sR⟩ (fun w_ hS_ => ex_move (v := .bool true) rfl) ?_
            refine WA.norm (listed' := #[true, true, true, true, true, true, true, true, true, true, true, true, true, true, true, true, true, true, true, true, false, false, false, false, false, false, false, false, false, false, false]) (by kernel_rfl) ?_
            refine WA.takeNo 20 rfl (by kernel_rfl) (by kernel_rfl) (by kernel_rfl) rfl rfl rfl rfl ⟨_, sR⟩ ?_
            refine WA.norm (listed' := #[true, true, true, true, true, true, true, true, true, true, true, true, true, true, true, true, true, true, true, true, true, false, false, false, false, false, false, false, false, false, false]) (by kernel_rfl) ?_
            refine WA.takeNo 21 rfl (by kernel_rfl) (by kernel_rfl) (by kernel_rfl) rfl rfl rfl rfl ⟨_, sR⟩ ?_
            refine WA.norm (listed' := #[true, true, true, true, true, true, true, true, true, true, true, true, true, true, true, true, true, true, true, true, true, true, false, false, false, false, false, false, false, false, false]) (by kernel_rfl) ?_
            refine WA.takeNo 22 rfl (by kernel_rfl) (by kernel_rfl) (by kernel_rfl) rfl rfl rfl rfl ⟨_, sR⟩ ?_
            refine WA.norm (listed' := #[true, true, true, true, true, true, true, true, true, true, true, true, true, true, true, true, true, true, true, true, true, true, true, false, false, false, false, false, false, false, false]) (by kernel_rfl) ?_
            refine WA.takeNo 23 rfl (by kernel_rfl) (by kernel_rfl) (by kernel_rfl) rfl rfl rfl rfl ⟨_, sR⟩ ?_
            refine WA.norm (listed' := #[true, true, true, true, true, true, true, true, true, true, true, true, true, true, true, true, true, true, true, true, true, true, true, true, false, false, false, false, false, false, false]) (by kernel_rfl) ?_
            refine WA.ex 24 rfl (by kernel_rfl) (by kernel_rfl) (by kernel_rfl) rfl ⟨_, sR⟩ (fun w_ hS_ => ex_pick_t (v := .bool true) rfl rfl) ?_
            refine WA.norm (listed' := #[true, true, true, true, true, true, true, true, true, true, true, true, true, true, true, true, true, true, true, true, true, true, true, true, true, false, false, false, false, false, false]) (by kernel_rfl) ?_
            refine WA.ex 25 rfl (by kernel_rfl) (by kernel_rfl) (by kernel_rfl) rfl ⟨_, sR⟩ (fun w_ hS_ => ex_move (v := .bool true) rfl) ?_
            refine WA.norm (listed' := #[true, true, true, true, true, true, true, true, true, true, true, true, true, true, true, true, true, true, true, true, true, true, true, true, true, true, false, false, false, false, false]) (by kernel_rfl) ?_
            refine WA.takeNo 26 rfl (by kernel_rfl) (by kernel_rfl) (by kernel_rfl) rfl rfl rfl rfl ⟨_, sR⟩ ?_
            refine WA.norm (listed' := #[true, true, true, true, true, true, true, true, true, true, true, true, true, true, true, true, true, true, true, true, true, true, true, true, true, true, true, false, false, false, false]) (by kernel_rfl) ?_
            refine WA.takeNo 27 rfl (by kernel_rfl) (by kernel_rfl) (by kernel_rfl) rfl rfl rfl rfl ⟨_, sR⟩ ?_
            refine WA.norm (listed' := #[true, true, true, true, true, true, true, true, true, true, true, true, true, true, true, true, true, true, true, true, true, true, true, true, true, true, true, true, false, false, false]) (by kernel_rfl) ?_
            refine WA.takeNo 28 rfl (by kernel_rfl) (by kernel_rfl) (by kernel_rfl) rfl rfl rfl rfl ⟨_, sR⟩ ?_
            refine WA.norm (listed' := #[true, true, true, true, true, true, true, true, true, true, true, true, true, true, true, true, true, true, true, true, true, true, true, true, true, true, true, true, true, false, false]) (by kernel_rfl) ?_
            refine WA.takeNo 29 rfl (by kernel_rfl) (by kernel_rfl) (by kernel_rfl) rfl rfl rfl rfl ⟨_, sR⟩ ?_
            refine WA.norm (listed' := #[true, true, true, true, true, true, true, true, true, true, true, true, true, true, true, true, true, true, true, true, true, true, true, true, true, true, true, true, true, true, false]) (by kernel_rfl) ?_
            refine WA.ex 30 rfl (by kernel_rfl) (by kernel_rfl) (by kernel_rfl) rfl ⟨_, sR⟩ (fun w_ hS_ => ex_pick_t (v := .bool true) rfl rfl) ?_
            refine WA.norm (listed' := #[true, true, true, true, true, true, true, true, true, true, true, true, true, true, true, true, true, true, true, true, true, true, true, true, true, true, true, true, true, true, true]) (by kernel_rfl) ?_
            refine WA.done (by kernel_rfl) ?_
            obtain rfl := Option.some.inj H
            exact ⟨_, HF, hr110, hl111, hG, s0_112, s2_112, rfl⟩
          ·
            refine WA.exYes (i := 4) rfl (by kernel_rfl) (by kernel_rfl) (by kernel_rfl) rfl rfl rfl ((show _ = Value.bool (decide ((x112.length : Int) < 3)) from rfl).trans (congrArg Value.bool c326)) ⟨_, sR⟩ (fun w_ hS_ => ex_move (v := .slice A108 x112.length c109) s0_112) ?_
            refine WA.norm (listed' := #[true, true, true, true, true, false, false, false, false, false, false, false, false, false, false, false, false, false, false, false, false, false, false, false, false, false, false, false, false, false, false]) (by kernel_rfl) ?_
            obtain ⟨x327, hx327, H⟩ := bindE H
            obtain ⟨ad328, e329, g330, g331, cell332⟩ := Row.ixS hr110D hx327
            have hk333 := Row.at hr110D e329 hx327 ((1 : Int).toNat * 1)
            replace cell332 := held_cell (Step.refl _ _ _) ⟨_, sR⟩ hk333 rfl cell332
            refine WA.exYes (i := 5) rfl (by kernel_rfl) (by kernel_rfl) (by kernel_rfl) rfl rfl rfl ((show _ = Value.bool (decide ((x112.length : Int) < 3)) from rfl).trans (congrArg Value.bool c326)) ⟨_, sR⟩ (fun w_ hS_ => ex_indexAddr (i := (1 : Int)) rfl e329 rfl Tryd.underlying24 sz5 g330 g331) ?_
            refine WA.norm (listed' := #[true, true, true, true, true, true, false, false, false, false, false, false, false, false, false, false, false, false, false, false, false, false, false, false, false, false, false, false, false, false, false]) (by kernel_rfl) ?_
            refine WA.exYes (i := 6) rfl (by kernel_rfl) (by kernel_rfl) (by kernel_rfl) rfl rfl rfl ((show _ = Value.bool (decide ((x112.length : Int) < 3)) from rfl).trans (congrArg Value.bool c326)) ⟨_, sR⟩ (fun w_ hS_ => ex_load1 (v := enc8 x327) rfl Tryd.underlying5 rfl (held_cell sR hS_ hk333 rfl cell332)) ?_
            refine WA.norm (listed' := #[true, true, true, true, true, true, true, false, false, false, false, false, false, false, false, false, false, false, false, false, false, false, false, false, false, false, false, false, false, false, false]) (by kernel_rfl) ?_
            refine WA.exYes (i := 7) rfl (by kernel_rfl) (by kernel_rfl) (by kernel_rfl) rfl rfl rfl ((show _ = Value.bool (decide ((x112.length : Int) < 3)) from rfl).trans (congrArg Value.bool c326)) ⟨_, sR⟩ (fun w_ hS_ => ex_fieldAddr rfl Tryd.underlying96 rfl sz5) ?_
            refine WA.norm (listed' := #[true, true, true, true, true, true, true, true, false, false, false, false, false, false, false, false, false, false, false, false, false, false, false, false, false, false, false, false, false, false, false]) (by kernel_rfl) ?_
            refine WA.exYes (i := 8) rfl (by kernel_rfl) (by kernel_rfl) (by kernel_rfl) rfl rfl rfl ((show _ = Value.bool (decide ((x112.length : Int) < 3)) from rfl).trans (congrArg Value.bool c326)) ⟨_, sR⟩ (fun w_ hS_ => ex_load1 (v := enc8 (accLo8 (shr8 (first8 x121) 4))) rfl Tryd.underlying5 rfl ((hB273D.step hS_.choose_spec rfl).cell rfl)) ?_
            refine WA.norm (listed' := #[true, true, true, true, true, true, true, true, true, false, false, false, false, false, false, false, false, false, false, false, false, false, false, false, false, false, false, false, false, false, false]) (by kernel_rfl) ?_
            refine WA.exYes (i := 9) rfl (by kernel_rfl) (by kernel_rfl) (by kernel_rfl) rfl rfl rfl ((show _ = Value.bool (decide ((x112.length : Int) < 3)) from rfl).trans (congrArg Value.bool c326)) ⟨_, sR⟩ (fun w_ hS_ => ex_bin (a := enc8 x327) (b := enc8 (accLo8 (shr8 (first8 x121) 4))) (v := .bool (decide (x327 < (accLo8 (shr8 (first8 x121) 4))))) rfl rfl bin_lss_u8) ?_
            refine WA.norm (listed' := #[true, true, true, true, true, true, true, true, true, true, false, false, false, false, false, false, false, false, false, false, false, false, false, false, false, false, false, false, false, false, false]) (by kernel_rfl) ?_
            refine WA.ex 10 rfl (by kernel_rfl) (by kernel_rfl) (by kernel_rfl) rfl ⟨_, sR⟩ (fun w_ hS_ => ex_pick_f (v := .bool (decide (x327 < (accLo8 (shr8 (first8 x121) 4))))) ((show _ = Value.bool (decide ((x112.length : Int) < 3)) from rfl).trans (congrArg Value.bool c326)) rfl) ?_
            refine WA.norm (listed' := #[true, true, true, true, true, true, true, true, true, true, true, false, false, false, false, false, false, false, false, false, false, false, false, false, false, false, false, false, false, false, false]) (by kernel_rfl) ?_
            refine WA.ex 11 rfl (by kernel_rfl) (by kernel_rfl) (by kernel_rfl) rfl ⟨_, sR⟩ (fun w_ hS_ => ex_move (v := .bool (decide (x327 < (accLo8 (shr8 (first8 x121) 4))))) rfl) ?_
            refine WA.norm (listed' := #[true, true, true, true, true, true, true, true, true, true, true, true, false, false, false, false, false, false, false, false, false, false, false, false, false, false, false, false, false, false, false]) (by kernel_rfl) ?_
            rcases condE H with ⟨c334, H⟩ | ⟨c334, H⟩
            ·
              refine WA.takeNo 12 rfl (by kernel_rfl) (by kernel_rfl) (by kernel_rfl) rfl rfl rfl ((show _ = Value.bool (decide (x327 < (accLo8 (shr8 (first8 x121) 4)))) from rfl).trans (congrArg Value.bool c334)) ⟨_, sR⟩ ?_
              refine WA.norm (listed' := #[true, true, true, true, true, true, true, true, true, true, true, true, true, false, false, false, false, false, false, false, false, false, false, false, false, false, false, false, false, false, false]) (by kernel_rfl) ?_
              refine WA.takeNo 13 rfl (by kernel_rfl) (by kernel_rfl) (by kernel_rfl) rfl rfl rfl ((show _ = Value.bool (decide (x327 < (accLo8 (shr8 (first8 x121) 4)))) from rfl).trans (congrArg Value.bool c334)) ⟨_, sR⟩ ?_
              refine WA.norm (listed' := #[true, true, true, true, true, true, true, true, true, true, true, true, true, true, false, false, false, false, false, false, false, false, false, false, false, false, false, false, false, false, false]) (by kernel_rfl) ?_
              refine WA.takeNo 14 rfl (by kernel_rfl) (by kernel_rfl) (by kernel_rfl) rfl rfl rfl ((show _ = Value.bool (decide (x327 < (accLo8 (shr8 (first8 x121) 4)))) from rfl).trans (congrArg Value.bool c334)) ⟨_, sR⟩ ?_
              refine WA.norm (listed' := #[true, true, true, true, true, true, true, true, true, true, true, true, true, true, true, false, false, false, false, false, false, false, false, false, false, false, false, false, false, false, false]) (by kernel_rfl) ?_
              refine WA.takeNo 15 rfl (by kernel_rfl) (by kernel_rfl) (by kernel_rfl) rfl rfl rfl ((show _ = Value.bool (decide (x327 < (accLo8 (shr8 (first8 x121) 4)))) from rfl).trans (congrArg Value.bool c334)) ⟨_, sR⟩ ?_
              refine WA.norm (listed' := #[true, true, true, true, true, true, true, true, true, true, true, true, true, true, true, true, false, false, false, false, false, false, false, false, false, false, false, false, false, false, false]) (by kernel_rfl) ?_
              refine WA.takeNo 16 rfl (by kernel_rfl) (by kernel_rfl) (by kernel_rfl) rfl rfl rfl ((show _ = Value.bool (decide (x327 < (accLo8 (shr8 (first8 x121) 4)))) from rfl).trans (congrArg Value.bool c334)) ⟨_, sR⟩ ?_
              refine WA.norm (listed' := #[true, true, true, true, true, true, true, true, true, true, true, true, true, true, true, true, true, false, false, false, false, false, false, false, false, false, false, false, false, false, false]) (by kernel_rfl) ?_
              refine WA.takeNo 17 rfl (by kernel_rfl) (by kernel_rfl) (by kernel_rfl) rfl rfl rfl ((show _ = Value.bool (decide (x327 < (accLo8 (shr8 (first8 x121) 4)))) from rfl).trans (congrArg Value.bool c334)) ⟨_, sR⟩ ?_
              refine WA.norm (listed' := #[true, true, true, true, true, true, true, true, true, true, true, true, true, true, true, true, true, true, false, false, false, false, false, false, false, false, false, false, false, false, false]) (by kernel_rfl) ?_
              refine WA.ex 18 rfl (by kernel_rfl) (by kernel_rfl) (by kernel_rfl) rfl ⟨_, sR⟩ (fun w_ hS_ => ex_pick_t (v := .bool true) ((show _ = Value.bool (decide (x327 < (accLo8 (shr8 (first8 x121) 4)))) from rfl).trans (congrArg Value.bool c334)) rfl) ?_
              refine WA.norm (listed' := #[true, true, true, true, true, true, true, true, true, true, true, true, true, true, true, true, true, true, true, false, false, false, false, false, false, false, false, false, false, false, false]) (by kernel_rfl) ?_
              refine WA.ex 19 rfl (by kernel_rfl) (by kernel_rfl) (by kernel_rfl) rfl ⟨_, sR⟩ (fun w_ hS_ => ex_move (v := .bool true) rfl) ?_
              refine WA.norm (listed' := #[true, true, true, true, true, true, true, true, true, true, true, true, true, true, true, true, true, true, true, true, false, false, false, false, false, false, false, false, false, false, false]) (by kernel_rfl) ?_
              refine WA.takeNo 20 rfl (by kernel_rfl) (by kernel_rfl) (by kernel_rfl) rfl rfl rfl rfl ⟨_, sR⟩ ?_
              refine WA.norm (listed' := #[true, true, true, true, true, true, true, true, true, true, true, true, true, true, true, true, true, true, true, true, true, false, false, false, false, false, false, false, false, false, false]) (by kernel_rfl) ?_
              refine WA.takeNo 21 rfl (by kernel_rfl) (by kernel_rfl) (by kernel_rfl) rfl rfl rfl rfl ⟨_, sR⟩ ?_
              refine WA.norm (listed' := #[true, true, true, true, true, true, true, true, true, true, true, true, true, true, true, true, true, true, true, true, true, true, false, false, false, false, false, false, false, false, false]) (by kernel_rfl) ?_
              refine WA.takeNo 22 rfl (by kernel_rfl) (by kernel_rfl) (by kernel_rfl) rfl rfl rfl rfl ⟨_, sR⟩ ?_
              refine WA.norm (listed' := #[true, true, true, true, true, true, true, true, true, true, true, true, true, true, true, true, true, true, true, true, true, true, true, false, false, false, false, false, false, false, false]) (by kernel_rfl) ?_
              refine WA.takeNo 23 rfl (by kernel_rfl) (by kernel_rfl) (by kernel_rfl) rfl rfl rfl rfl ⟨_, sR⟩ ?_
              refine WA.norm (listed' := #[true, true, true, true, true, true, true, true, true, true, true, true, true, true, true, true, true, true, true, true, true, true, true, true, false, false, false, false, false, false, false]) (by kernel_rfl) ?_
              refine WA.ex 24 rfl (by kernel_rfl) (by kernel_rfl) (by kernel_rfl) rfl ⟨_, sR⟩ (fun w_ hS_ => ex_pick_t (v := .bool true) rfl rfl) ?_
              refine WA.norm (listed' := #[true, true, true, true, true, true, true, true, true, true, true, true, true, true, true, true, true, true, true, true, true, true, true, true, true, false, false, false, false, false, false]) (by kernel_rfl) ?_
              refine WA.ex 25 rfl (by kernel_rfl) (by kernel_rfl) (by kernel_rfl) rfl ⟨_, sR⟩ (fun w_ hS_ => ex_move (v := .bool true) rfl) ?_
              refine WA.norm (listed' := #[true, true, true, true, true, true, true, true, true, true, true, true, true, true, true, true, true, true, true, true, true, true, true, true, true, true, false, false, false, false, false]) (by kernel_rfl) ?_
              refine WA.takeNo 26 rfl (by kernel_rfl) (by kernel_rfl) (by kernel_rfl) rfl rfl rfl rfl ⟨_, sR⟩ ?_
              refine WA.norm (listed' := #[true, true, true, true, true, true, true, true, true, true, true, true, true, true, true, true, true, true, true, true, true, true, true, true, true, true, true, false, false, false, false]) (by kernel_rfl) ?_
              refine WA.takeNo 27 rfl (by kernel_rfl) (by kernel_rfl) (by kernel_rfl) rfl rfl rfl rfl ⟨_, sR⟩ ?_
              refine WA.norm (listed' := #[true, true, true, true, true, true, true, true, true, true, true, true, true, true, true, true, true, true, true, true, true, true, true, true, true, true, true, true, false, false, false]) (by kernel_rfl) ?_
              refine WA.takeNo 28 rfl (by kernel_rfl) (by kernel_rfl) (by kernel_rfl) rfl rfl rfl rfl ⟨_, sR⟩ ?_
              refine WA.norm (listed' := #[true, true, true, true, true, true, true, true, true, true, true, true, true, true, true, true, true, true, true, true, true, true, true, true, true, true, true, true, true, false, false]) (by kernel_rfl) ?_
              refine WA.takeNo 29 rfl (by kernel_rfl) (by kernel_rfl) (by kernel_rfl) rfl rfl rfl rfl ⟨_, sR⟩ ?_
              refine WA.norm (listed' := #[true, true, true, true, true, true, true, true, true, true, true, true, true, true, true, true, true, true, true, true, true, true, true, true, true, true, true, true, true, true, false]) (by kernel_rfl) ?_
              refine WA.ex 30 rfl (by kernel_rfl) (by kernel_rfl) (by kernel_rfl) rfl ⟨_, sR⟩ (fun w_ hS_ => ex_pick_t (v := .bool true) rfl rfl) ?_
              refine WA.norm (listed' := #[true, true, true, true, true, true, true, true, true, true, true, true, true, true, true, true, true, true, true, true, true, true, true, true, true, true, true, true, true, true, true]) (by kernel_rfl) ?_
              refine WA.done (by kernel_rfl) ?_
              obtain rfl := Option.some.inj H
              exact ⟨_, HF, hr110, hl111, hG, s0_112, s2_112, rfl⟩
            ·
              refine WA.exYes (i := 12) rfl (by kernel_rfl) (by kernel_rfl) (by kernel_rfl) rfl rfl rfl ((show _ = Value.bool (decide (x327 < (accLo8 (shr8 (first8 x121) 4)))) from rfl).trans (congrArg Value.bool c334)) ⟨_, sR⟩ (fun w_ hS_ => ex_fieldAddr rfl Tryd.underlying96 rfl sz5) ?_
              refine WA.norm (listed' := #[true, true, true, true, true, true, true, true, true, true, true, true, true, false, false, false, false, false, false, false, false, false, false, false, false, false, false, false, false, false, false]) (by kernel_rfl) ?_
              refine WA.exYes (i := 13) rfl (by kernel_rfl) (by kernel_rfl) (by kernel_rfl) rfl rfl rfl ((show _ = Value.bool (decide (x327 < (accLo8 (shr8 (first8 x121) 4)))) from rfl).trans (congrArg Value.bool c334)) ⟨_, sR⟩ (fun w_ hS_ => ex_load1 (v := enc8 (accHi8 (shr8 (first8 x121) 4))) rfl Tryd.underlying5 rfl ((hB273D.step hS_.choose_spec rfl).cell rfl)) ?_
              refine WA.norm (listed' := #[true, true, true, true, true, true, true, true, true, true, true, true, true, true, false, false, false, false, false, false, false, false, false, false, false, false, false, false, false, false, false]) (by kernel_rfl) ?_
              refine WA.exYes (i := 14) rfl (by kernel_rfl) (by kernel_rfl) (by kernel_rfl) rfl rfl rfl ((show _ = Value.bool (decide (x327 < (accLo8 (shr8 (first8 x121) 4)))) from rfl).trans (congrArg Value.bool c334)) ⟨_, sR⟩ (fun w_ hS_ => ex_move (v := .slice A108 x112.length c109) s0_112) ?_
              refine WA.norm (listed' := #[true, true, true, true, true, true, true, true, true, true, true, true, true, true, true, false, false, false, false, false, false, false, false, false, false, false, false, false, false, false, false]) (by kernel_rfl) ?_
              obtain ⟨x335, hx335, H⟩ := bindE H
              obtain ⟨ad336, e337, g338, g339, cell340⟩ := Row.ixS hr110D hx335
              have hk341 := Row.at hr110D e337 hx335 ((1 : Int).toNat * 1)
              replace cell340 := held_cell (Step.refl _ _ _) ⟨_, sR⟩ hk341 rfl cell340
              refine WA.exYes (i := 15) rfl (by kernel_rfl) (by kernel_rfl) (by kernel_rfl) rfl rfl rfl ((show _ = Value.bool (decide (x327 < (accLo8 (shr8 (first8 x121) 4)))) from rfl).trans (congrArg Value.bool c334)) ⟨_, sR⟩ (fun w_ hS_ => ex_indexAddr (i := (1 : Int)) rfl e337 rfl Tryd.underlying24 sz5 g338 g339) ?_
              refine WA.norm (listed' := #[true, true, true, true, true, true, true, true, true, true, true, true, true, true, true, true, false, false, false, false, false, false, false, false, false, false, false, false, false, false, false]) (by kernel_rfl) ?_
              refine WA.exYes (i := 16) rfl (by kernel_rfl) (by kernel_rfl) (by kernel_rfl) rfl rfl rfl ((show _ = Value.bool (decide (x327 < (accLo8 (shr8 (first8 x121) 4)))) from rfl).trans (congrArg Value.bool c334)) ⟨_, sR⟩ (fun w_ hS_ => ex_load1 (v := enc8 x335) rfl Tryd.underlying5 rfl (held_cell sR hS_ hk341 rfl cell340)) ?_
              refine WA.norm (listed' := #[true, true, true, true, true, true, true, true, true, true, true, true, true, true, true, true, true, false, false, false, false, false, false, false, false, false, false, false, false, false, false]) (by kernel_rfl) ?_
              refine WA.exYes (i := 17) rfl (by kernel_rfl) (by kernel_rfl) (by kernel_rfl) rfl rfl rfl ((show _ = Value.bool (decide (x327 < (accLo8 (shr8 (first8 x121) 4)))) from rfl).trans (congrArg Value.bool c334)) ⟨_, sR⟩ (fun w_ hS_ => ex_bin (a := enc8 (accHi8 (shr8 (first8 x121) 4))) (b := enc8 x335) (v := .bool (decide ((accHi8 (shr8 (first8 x121) 4)) < x335))) rfl rfl bin_lss_u8) ?_
              refine WA.norm (listed' := #[true, true, true, true, true, true, true, true, true, true, true, true, true, true, true, true, true, true, false, false, false, false, false, false, false, false, false, false, false, false, false]) (by kernel_rfl) ?_
              refine WA.ex 18 rfl (by kernel_rfl) (by kernel_rfl) (by kernel_rfl) rfl ⟨_, sR⟩ (fun w_ hS_ => ex_pick_f (v := .bool (decide ((accHi8 (shr8 (first8 x121) 4)) < x335))) ((show _ = Value.bool (decide (x327 < (accLo8 (shr8 (first8 x121) 4)))) from rfl).trans (congrArg Value.bool c334)) rfl) ?_
              refine WA.norm (listed' := #[true, true, true, true, true, true, true, true, true, true, true, true, true, true, true, true, true, true, true, false, false, false, false, false, false, false, false, false, false, false, false]) (by kernel_rfl) ?_
              refine WA.ex 19 rfl (by kernel_rfl) (by kernel_rfl) (by kernel_rfl) rfl ⟨_, sR⟩ (fun w_ hS_ => ex_move (v := .bool (decide ((accHi8 (shr8 (first8 x121) 4)) < x335))) rfl) ?_
              refine WA.norm (listed' := #[true, true, true, true, true, true, true, true, true, true, true, true, true, true, true, true, true, true, true, true, false, false, false, false, false, false, false, false, false, false, false]) (by kernel_rfl) ?_
              rcases condE H with ⟨c342, H⟩ | ⟨c342, H⟩
              ·
                refine WA.takeNo 20 rfl (by kernel_rfl) (by kernel_rfl) (by kernel_rfl) rfl rfl rfl ((show _ = Value.bool (decide ((accHi8 (shr8 (first8 x121) 4)) < x335)) from rfl).trans (congrArg Value.bool c342)) ⟨_, sR⟩ ?_
                refine WA.norm (listed' := #[true, true, true, true, true, true, true, true, true, true, true, true, true, true, true, true, true, true, true, true, true, false, false, false, false, false, false, false, false, false, false]) (by kernel_rfl) ?_
                refine WA.takeNo 21 rfl (by kernel_rfl) (by kernel_rfl) (by kernel_rfl) rfl rfl rfl ((show _ = Value.bool (decide ((accHi8 (shr8 (first8 x121) 4)) < x335)) from rfl).trans (congrArg Value.bool c342)) ⟨_, sR⟩ ?_
                refine WA.norm (listed' := #[true, true, true, true, true, true, true, true, true, true, true, true, true, true, true, true, true, true, true, true, true, true, false, false, false, false, false, false, false, false, false]) (by kernel_rfl) ?_
                refine WA.takeNo 22 rfl (by kernel_rfl) (by kernel_rfl) (by kernel_rfl) rfl rfl rfl ((show _ = Value.bool (decide ((accHi8 (shr8 (first8 x121) 4)) < x335)) from rfl).trans (congrArg Value.bool c342)) ⟨_, sR⟩ ?_
                refine WA.norm (listed' := #[true, true, true, true, true, true, true, true, true, true, true, true, true, true, true, true, true, true, true, true, true, true, true, false, false, false, false, false, false, false, false]) (by kernel_rfl) ?_
                refine WA.takeNo 23 rfl (by kernel_rfl) (by kernel_rfl) (by kernel_rfl) rfl rfl rfl ((show _ = Value.bool (decide ((accHi8 (shr8 (first8 x121) 4)) < x335)) from rfl).trans (congrArg Value.bool c342)) ⟨_, sR⟩ ?_
                refine WA.norm (listed' := #[true, true, true, true, true, true, true, true, true, true, true, true, true, true, true, true, true, true, true, true, true, true, true, true, false, false, false, false, false, false, false]) (by kernel_rfl) ?_
                refine WA.ex 24 rfl (by kernel_rfl) (by kernel_rfl) (by kernel_rfl) rfl ⟨_, sR⟩ (fun w_ hS_ => ex_pick_t (v := .bool true) ((show _ = Value.bool (decide ((accHi8 (shr8 (first8 x121) 4)) < x335)) from rfl).trans (congrArg Value.bool c342)) rfl) ?_
                refine WA.norm (listed' := #[true, true, true, true, true, true, true, true, true, true, true, true, true, true, true, true, true, true, true, true, true, true, true, true, true, false, false, false, false, false, false]) (by kernel_rfl) ?_
                refine WA.ex 25 rfl (by kernel_rfl) (by kernel_rfl) (by kernel_rfl) rfl ⟨_, sR⟩ (fun w_ hS_ => ex_move (v := .bool true) rfl) ?_
                refine WA.norm (listed' := #[true, true, true, true, true, true, true, true, true, true, true, true, true, true, true, true, true, true, true, true, true, true, true, true, true, true, false, false, false, false, false]) (by kernel_rfl) ?_
                refine WA.takeNo 26 rfl (by kernel_rfl) (by kernel_rfl) (by kernel_rfl) rfl rfl rfl rfl ⟨_, sR⟩ ?_
                refine WA.norm (listed' := #[true, true, true, true, true, true, true, true, true, true, true, true, true, true, true, true, true, true, true, true, true, true, true, true, true, true, true, false, false, false, false]) (by kernel_rfl) ?_
                refine WA.takeNo 27 rfl (by kernel_rfl) (by kernel_rfl) (by kernel_rfl) rfl rfl rfl rfl ⟨_, sR⟩ ?_
                refine WA.norm (listed' := #[true, true, true, true, true, true, true, true, true, true, true, true, true, true, true, true, true, true, true, true, true, true, true, true, true, true, true, true, false, false, false]) (by kernel_rfl) ?_
                refine WA.takeNo 28 rfl (by kernel_rfl) (by kernel_rfl) (by kernel_rfl) rfl rfl rfl rfl ⟨_, sR⟩ ?_
                refine WA.norm (listed' := #[true, true, true, true, true, true, true, true, true, true, true, true, true, true, true, true, true, true, true, true, true, true, true, true, true, true, true, true, true, false, false]) (by kernel_rfl) ?_
                refine WA.takeNo 29 rfl (by kernel_rfl) (by kernel_rfl) (by kernel_rfl) rfl rfl rfl rfl ⟨_, sR⟩ ?_
                refine WA.norm (listed' := #[true, true, true, true, true, true, true, true, true, true, true, true, true, true, true, true, true, true, true, true, true, true, true, true, true, true, true, true, true, true, false]) (by kernel_rfl) ?_
                refine WA.ex 30 rfl (by kernel_rfl) (by kernel_rfl) (by kernel_rfl) rfl ⟨_, sR⟩ (fun w_ hS_ => ex_pick_t (v := .bool true) rfl rfl) ?_
                refine WA.norm (listed' := #[true, true, true, true, true, true, true, true, true, true, true, true, true, true, true, true, true, true, true, true, true, true, true, true, true, true, true, true, true, true, true]) (by kernel_rfl) ?_
                refine WA.done (by kernel_rfl) ?_
                obtain rfl := Option.some.inj H
                exact ⟨_, HF, hr110, hl111, hG, s0_112, s2_112, rfl⟩
              ·
                refine WA.exYes (i := 20) rfl (by kernel_rfl) (by kernel_rfl) (by kernel_rfl) rfl rfl rfl ((show _ = Value.bool (decide ((accHi8 (shr8 (first8 x121) 4)) < x335)) from rfl).trans (congrArg Value.bool c342)) ⟨_, sR⟩ (fun w_ hS_ => ex_move (v := .slice A108 x112.length c109) s0_112) ?_
                refine WA.norm (listed' := #[true, true, true, true, true, true, true, true, true, true, true, true, true, true, true, true, true, true, true, true, true, false, false, false, false, false, false, false, false, false, false]) (by kernel_rfl) ?_
                obtain ⟨x343, hx343, H⟩ := bindE H
                obtain ⟨ad344, e345, g346, g347, cell348⟩ := Row.ixS hr110D hx343
                have hk349 := Row.at hr110D e345 hx343 ((2 : Int).toNat * 1)
                replace cell348 := held_cell (Step.refl _ _ _) ⟨_, sR⟩ hk349 rfl cell348
                refine WA.exYes (i := 21) rfl (by kernel_rfl) (by kernel_rfl) (by kernel_rfl) rfl rfl rfl ((show _ = Value.bool (decide ((accHi8 (shr8 (first8 x121) 4)) < x335)) from rfl).trans (congrArg Value.bool c342)) ⟨_, sR⟩ (fun w_ hS_ => ex_indexAddr (i := (2 : Int)) rfl e345 rfl Tryd.underlying24 sz5 g346 g347) ?_
                refine WA.norm (listed' := #[true, true, true, true, true, true, true, true, true, true, true, true, true, true, true, true, true, true, true, true, true, true, false, false, false, false, false, false, false, false, false]) (by kernel_rfl) ?_
                refine WA.exYes (i := 22) rfl (by kernel_rfl) (by kernel_rfl) (by kernel_rfl) rfl rfl rfl ((show _ = Value.bool (decide ((accHi8 (shr8 (first8 x121) 4)) < x335)) from rfl).trans (congrArg Value.bool c342)) ⟨_, sR⟩ (fun w_ hS_ => ex_load1 (v := enc8 x343) rfl Tryd.underlying5 rfl (held_cell sR hS_ hk349 rfl cell348)) ?_
                refine WA.norm (listed' := #[true, true, true, true, true, true, true, true, true, true, true, true, true, true, true, true, true, true, true, true, true, true, true, false, false, false, false, false, false, false, false]) (by kernel_rfl) ?_
                refine WA.exYes (i := 23) rfl (by kernel_rfl) (by kernel_rfl) (by kernel_rfl) rfl rfl rfl ((show _ = Value.bool (decide ((accHi8 (shr8 (first8 x121) 4)) < x335)) from rfl).trans (congrArg Value.bool c342)) ⟨_, sR⟩ (fun w_ hS_ => ex_bin (a := enc8 x343) (b := enc8 (128 : UInt8)) (v := .bool (decide (x343 < (128 : UInt8)))) rfl rfl bin_lss_u8) ?_
                refine WA.norm (listed' := #[true, true, true, true, true, true, true, true, true, true, true, true, true, true, true, true, true, true, true, true, true, true, true, true, false, false, false, false, false, false, false]) (by kernel_rfl) ?_
                refine WA.ex 24 rfl (by kernel_rfl) (by kernel_rfl) (by kernel_rfl) rfl ⟨_, sR⟩ (fun w_ hS_ => ex_pick_f (v := .bool (decide (x343 < (128 : UInt8)))) ((show _ = Value.bool (decide ((accHi8 (shr8 (first8 x121) 4)) < x335)) from rfl).trans (congrArg Value.bool c342)) rfl) ?_
                refine WA.norm (listed' := #[true, true, true, true, true, true, true, true, true, true, true, true, true, true, true, true, true, true, true, true, true, true, true, true, true, false, false, false, false, false, false]) (by kernel_rfl) ?_
                refine WA.ex 25 rfl (by kernel_rfl) (by kernel_rfl) (by kernel_rfl) rfl ⟨_, sR⟩ (fun w_ hS_ => ex_move (v := .bool (decide (x343 < (128 : UInt8)))) rfl) ?_
                refine WA.norm (listed' := #[true, true, true, true, true, true, true, true, true, true, true, true, true, true, true, true, true, true, true, true, true, true, true, true, true, true, false, false, false, false, false]) (by kernel_rfl) ?_
                rcases condE H with ⟨c350, H⟩ | ⟨c350, H⟩
                ·
                  refine WA.takeNo 26 rfl (by kernel_rfl) (by kernel_rfl) (by kernel_rfl) rfl rfl rfl ((show _ = Value.bool (decide (x343 < (128 : UInt8))) from rfl).trans (congrArg Value.bool c350)) ⟨_, sR⟩ ?_
                  refine WA.norm (listed' := #[true, true, true, true, true, true, true, true, true, true, true, true, true, true, true, true, true, true, true, true, true, true, true, true, true, true, true, false, false, false, false]) (by kernel_rfl) ?_
                  refine WA.takeNo 27 rfl (by kernel_rfl) (by kernel_rfl) (by kernel_rfl) rfl rfl rfl ((show _ = Value.bool (decide (x343 < (128 : UInt8))) from rfl).trans (congrArg Value.bool c350)) ⟨_, sR⟩ ?_
                  refine WA.norm (listed' := #[true, true, true, true, true, true, true, true, true, true, true, true, true, true, true, true, true, true, true, true, true, true, true, true, true, true, true, true, false, false, false]) (by kernel_rfl) ?_
                  refine WA.takeNo 28 rfl (by kernel_rfl) (by kernel_rfl) (by kernel_rfl) rfl rfl rfl ((show _ = Value.bool (decide (x343 < (128 : UInt8))) from rfl).trans (congrArg Value.bool c350)) ⟨_, sR⟩ ?_
                  refine WA.norm (listed' := #[true, true, true, true, true, true, true, true, true, true, true, true, true, true, true, true, true, true, true, true, true, true, true, true, true, true, true, true, true, false, false]) (by kernel_rfl) ?_
                  refine WA.takeNo 29 rfl (by kernel_rfl) (by kernel_rfl) (by kernel_rfl) rfl rfl rfl ((show _ = Value.bool (decide (x343 < (128 : UInt8))) from rfl).trans (congrArg Value.bool c350)) ⟨_, sR⟩ ?_
                  refine WA.norm (listed' := #[true, true, true, true, true, true, true, true, true, true, true, true, true, true, true, true, true, true, true, true, true, true, true, true, true, true, true, true, true, true, false]) (by kernel_rfl) ?_
                  refine WA.ex 30 rfl (by kernel_rfl) (by kernel_rfl) (by kernel_rfl) rfl ⟨_, sR⟩ (fun w_ hS_ => ex_pick_t (v := .bool true) ((show _ = Value.bool (decide (x343 < (128 : UInt8))) from rfl).trans (congrArg Value.bool c350)) rfl) ?_
                  refine WA.norm (listed' := #[true, true, true, true, true, true, true, true, true, true, true, true, true, true, true, true, true, true, true, true, true, true, true, true, true, true, true, true, true, true, true]) (by kernel_rfl) ?_
                  refine WA.done (by kernel_rfl) ?_
                  obtain rfl := Option.some.inj H
                  exact ⟨_, HF, hr110, hl111, hG, s0_112, s2_112, rfl⟩
                ·
                  refine WA.exYes (i := 26) rfl (by kernel_rfl) (by kernel_rfl) (by kernel_rfl) rfl rfl rfl ((show _ = Value.bool (decide (x343 < (128 : UInt8))) from rfl).trans (congrArg Value.bool c350)) ⟨_, sR⟩ (fun w_ hS_ => ex_move (v := .slice A108 x112.length c109) s0_112) ?_
                  refine WA.norm (listed' := #[true, true, true, true, true, true, true, true, true, true, true, true, true, true, true, true, true, true, true, true, true, true, true, true, true, true, true, false, false, false, false]) (by kernel_rfl) ?_
                  obtain ⟨x351, hx351, H⟩ := bindE H
                  obtain ⟨ad352, e353, g354, g355, cell356⟩ := Row.ixS hr110D hx351
                  have hk357 := Row.at hr110D e353 hx351 ((2 : Int).toNat * 1)
                  replace cell356 := held_cell (Step.refl _ _ _) ⟨_, sR⟩ hk357 rfl cell356
                  refine WA.exYes (i := 27) rfl (by kernel_rfl) (by kernel_rfl) (by kernel_rfl) rfl rfl rfl ((show _ = Value.bool (decide (x343 < (128 : UInt8))) from rfl).trans (congrArg Value.bool c350)) ⟨_, sR⟩ (fun w_ hS_ => ex_indexAddr (i := (2 : Int)) rfl e353 rfl Tryd.underlying24 sz5 g354 g355) ?_
                  refine WA.norm (listed' := #[true, true, true, true, true, true, true, true, true, true, true, true, true, true, true, true, true, true, true, true, true, true, true, true, true, true, true, true, false, false, false]) (by kernel_rfl) ?_
                  refine WA.exYes (i := 28) rfl (by kernel_rfl) (by kernel_rfl) (by kernel_rfl) rfl rfl rfl ((show _ = Value.bool (decide (x343 < (128 : UInt8))) from rfl).trans (congrArg Value.bool c350)) ⟨_, sR⟩ (fun w_ hS_ => ex_load1 (v := enc8 x351) rfl Tryd.underlying5 rfl (held_cell sR hS_ hk357 rfl cell356)) ?_
                  refine WA.norm (listed' := #[true, true, true, true, true, true, true, true, true, true, true, true, true, true, true, true, true, true, true, true, true, true, true, true, true, true, true, true, true, false, false]) (by kernel_rfl) ?_
                  refine WA.exYes (i := 29) rfl (by kernel_rfl) (by kernel_rfl) (by kernel_rfl) rfl rfl rfl ((show _ = Value.bool (decide (x343 < (128 : UInt8))) from rfl).trans (congrArg Value.bool c350)) ⟨_, sR⟩ (fun w_ hS_ => ex_bin (a := enc8 (191 : UInt8)) (b := enc8 x351) (v := .bool (decide ((191 : UInt8) < x351))) rfl rfl bin_lss_u8) ?_
                  refine WA.norm (listed' := #[true, true, true, true, true, true, true, true, true, true, true, true, true, true, true, true, true, true, true, true, true, true, true, true, true, true, true, true, true, true, false]) (by kernel_rfl) ?_
                  refine WA.ex 30 rfl (by kernel_rfl) (by kernel_rfl) (by kernel_rfl) rfl ⟨_, sR⟩ (fun w_ hS_ => ex_pick_f (v := .bool (decide ((191 : UInt8) < x351))) ((show _ = Value.bool (decide (x343 < (128 : UInt8))) from rfl).trans (congrArg Value.bool c350)) rfl) ?_
                  refine WA.norm (listed' := #[true, true, true, true, true, true, true, true, true, true, true, true, true, true, true, true, true, true, true, true, true, true, true, true, true, true, true, true, true, true, true]) (by kernel_rfl) ?_
                  refine WA.done (by kernel_rfl) ?_
                  obtain rfl := Option.some.inj H
                  exact ⟨_, HF, hr110, hl111, hG, s0_112, s2_112, rfl⟩
        ·
          refine WC.cond_f ((show _ = Value.bool ((((first8 x121) &&& (7 : UInt8)).toNat : Int) == 3) from rfl).trans (congrArg Value.bool c308)) ?_
          refine WC.seq ?_
          refine WC.region ?_
          refine WL.ex rfl (ex_bin (a := .int .i64 (((first8 x121) &&& (7 : UInt8)).toNat : Int)) (b := .int .i64 4) (v := .bool ((((first8 x121) &&& (7 : UInt8)).toNat : Int) == 4)) rfl rfl bin_eql) ?_
          refine WL.ex rfl (ex_assign (v := .bool ((((first8 x121) &&& (7 : UInt8)).toNat : Int) == 4)) rfl) ?_
          refine WL.nil ?_
          rcases condE H with ⟨c358, H⟩ | ⟨c358, H⟩
          ·
            refine WC.cond_t ((show _ = Value.bool ((((first8 x121) &&& (7 : UInt8)).toNat : Int) == 4) from rfl).trans (congrArg Value.bool c358)) ?_
            refine WC.seq ?_
            obtain ⟨z360, hz360, H⟩ := bindE H
            refine WC.cut (fun ρ_ w_ => ∃ (o_ : Tags), Fm o0 w0 o_ w_ [] ∧ Row Rep.u8 (fun b_ => o_ b_ = 0) (fun b_ => o_ b_ = 0) w_ A108 x112 ∧ x112.length ≤ c109 ∧ Gl GG o_ w_ ∧ ρ_ 0 = .slice A108 x112.length c109 ∧ ρ_ 2 = .bool false ∧ ρ_ 185 = .bool z360) ?case361 ?_
            case case361 =>
              rintro ρ364 w362 ⟨o363, HF, hr110, hl111, hG, s0_358, s2_358, s185_359⟩
              rcases condE H with ⟨c365, H⟩ | ⟨c365, H⟩
              ·
                refine WC.cond_t ((show _ = Value.bool z360 from s185_359).trans (congrArg Value.bool c365)) ?_
                refine WC.seq ?_
                refine WC.region ?_
                refine WL.ex rfl (ex_assign (v := .bool false) rfl) ?_
                refine WL.nil ?_
                refine WC.ret ?_
                obtain rfl := Option.some.inj H
                replace H := Ho115
                dsimp only at H
                obtain rfl := Option.some.inj H
                exact ⟨_, (.tmp (.bool false : Value) rfl .nil), _, rfl, HF.out⟩
              ·
                refine WC.cond_f ((show _ = Value.bool z360 from s185_359).trans (congrArg Value.bool c365)) ?_
                refine WC.skip ?_
                refine WC.region ?_
                refine WL.ex rfl (ex_move (v := .slice A108 x112.length c109) s0_358) ?_
                obtain ⟨y366, hy366, H⟩ := bindE H
                have hr368 := Row.cut hr110 hl111 hy366
                obtain ⟨A369, el372⟩ : ∃ A_, A_ = subA A108 c109 (4 : Int).toNat 1 := ⟨_, rfl⟩
                rw [show subA A108 c109 (4 : Int).toNat Rep.u8.sz = A369 from el372.symm] at hr368
                have hl371 : y366.length ≤ c109 - (4 : Int).toNat := cut_le hl111 hy366
                refine WL.ex rfl (ex_slice' (l := 4) (h := (x112.length : Int)) rfl Tryd.underlying24 sz5 ⟨_, rfl⟩ rfl (cut_low hy366) (cut_mid hy366) (cut_cap hl111 hy366) el372 (cut_len hy366)) ?_
                refine WL.ex rfl (ex_assign (v := .slice A369 y366.length (c109 - (4 : Int).toNat)) rfl) ?_
                refine WL.nil ?_
                exact ⟨k116, Nat.lt_succ_self _, ⟨_, y366, _, _, HF, hr368, hl371, hG, rfl, s2_358, H⟩⟩
            have Ho373 := H
            replace H := hz360
            refine WC.regionD' HF [] 43 (by kernel_rfl) rfl ?_
            intro w374 s375
            replace hr110 := hr110.step s375 rfl
            replace hG := hG.step s375 rfl
            replace hB273 := hB273.step s375 rfl
            replace HF := HF.step s375 rfl
            have hr110D := hr110
            have hGD := hG
            have hB273D := hB273
            have sR := HF.here []
            refine WA.norm (listed' := #[false, false, false, false, false, false, false, false, false, false, false, false, false, false, false, false, false, false, false, false, false, false, false, false, false, false, false, false, false, false, false, false, false, false, false, false, false, false, false, false, false, false, false]) (by kernel_rfl) ?_
            refine WA.ex 0 rfl (by kernel_rfl) (by kernel_rfl) (by kernel_rfl) rfl ⟨_, sR⟩ (fun w_ hS_ => ex_move (v := .slice A108 x112.length c109) s0_112) ?_
            refine WA.norm (listed' := #[true, false, false, false, false, false, false, false, false, false, false, false, false, false, false, false, false, false, false, false, false, false, false, false, false, false, false, false, false, false, false, false, false, false, false, false, false, false, false, false, false, false, false]) (by kernel_rfl) ?_
            refine WA.ex 1 rfl (by kernel_rfl) (by kernel_rfl) (by kernel_rfl) rfl ⟨_, sR⟩ (fun w_ hS_ => ex_len_slice (A := A108) (m := x112.length) (c := c109) rfl Tryd.underlying24) ?_
            refine WA.norm (listed' := #[true, true, false, false, false, false, false, false, false, false, false, false, false, false, false, false, false, false, false, false, false, false, false, false, false, false, false, false, false, false, false, false, false, false, false, false, false, false, false, false, false, false, false]) (by kernel_rfl) ?_
            refine WA.ex 2 rfl (by kernel_rfl) (by kernel_rfl) (by kernel_rfl) rfl ⟨_, sR⟩ (fun w_ hS_ => ex_bin (a := .int .i64 (x112.length : Int)) (b := .int .i64 4) (v := .bool (decide ((x112.length : Int) < 4))) rfl rfl bin_lss) ?_
            refine WA.norm (listed' := #[true, true, true, false, false, false, false, false, false, false, false, false, false, false, false, false, false, false, false, false, false, false, false, false, false, false, false, false, false, false, false, false, false, false, false, false, false, false, false, false, false, false, false]) (by kernel_rfl) ?_
            refine WA.ex 3 rfl (by kernel_rfl) (by kernel_rfl) (by kernel_rfl) rfl ⟨_, sR⟩ (fun w_ hS_ => ex_move (v := .bool (decide ((x112.length : Int) < 4))) rfl) ?_
            refine WA.norm (listed' := #[true, true, true, true, false, false, false, false, false, false, false, false, false, false, false, false, false, false, false, false, false, false, false, false, false, false, false, false, false, false, false, false, false, false, false, false, false, false, false, false, false, false, false]) (by kernel_rfl) ?_
            rcases condE H with ⟨c376, H⟩ | ⟨c376, H⟩
            ·
              refine WA.takeNo 4 rfl (by kernel_rfl) (by kernel_rfl) (by kernel_rfl) rfl rfl rfl ((show _ = Value.bool (decide ((x112.length : Int) < 4)) from rfl).trans (congrArg Value.bool c376)) ⟨_, sR⟩ ?_
              refine WA.norm (listed' := #[true, true, true, true, true, false, false, false, false, false, false, false, false, false, false, false, false, false, false, false, false, false, false, false, false, false, false, false, false, false, false, false, false, false, false, false, false, false, false, false, false, false, false]) (by kernel_rfl) ?_
              refine WA.takeNo 5 rfl (by kernel_rfl) (by kernel_rfl) (by kernel_rfl) rfl rfl rfl ((show _ = Value.bool (decide ((x112.length : Int) < 4)) from rfl).trans (congrArg Value.bool c376)) ⟨_, sR⟩ ?_
              refine WA.norm (listed' := #[true, true, true, true, true, true, false, false, false, false, false, false, false, false, false, false, false, false, false, false, false, false, false, false, false, false, false, false, false, false, false, false, false, false, false, false, false, false, false, false, false, false, false]) (by kernel_rfl) ?_
              refine WA.takeNo 6 rfl (by kernel_rfl) (by kernel_rfl) (by kernel_rfl) rfl rfl rfl ((show _ = Value.bool (decide ((x112.length : Int) < 4)) from rfl).trans (congrArg Value.bool c376)) ⟨_, sR⟩ ?_
              refine WA.norm (listed' := #[true, true, true, true, true, true, true, false, false, false, false, false, false, false, false, false, false, false, false, false, false, false, false, false, false, false, false, false, false, false, false, false, false, false, false, false, false, false, false, false, false, false, false]) (by kernel_rfl) ?_
              refine WA.takeNo 7 rfl (by kernel_rfl) (by kernel_rfl) (by kernel_rfl) rfl rfl rfl ((show _ = Value.bool (decide ((x112.length : Int) < 4)) from rfl).trans (congrArg Value.bool c376)) ⟨_, sR⟩ ?_
              refine WA.norm (listed' := #[true, true, true, true, true, true, true, true, false, false, false, false, false, false, false, false, false, false, false, false, false, false, false, false, false, false, false, false, false, false, false, false, false, false, false, false, false, false, false, false, false, false, false]) (by kernel_rfl) ?_
              refine WA.takeNo 8 rfl (by kernel_rfl) (by kernel_rfl) (by kernel_rfl) rfl rfl rfl ((show _ = Value.bool (decide ((x112.length : Int) < 4)) from rfl).trans (congrArg Value.bool c376)) ⟨_, sR⟩ ?_
              refine WA.norm (listed' := #[true, true, true, true, true, true, true, true, true, false, false, false, false, false, false, false, false, false, false, false, false, false, false, false, false, false, false, false, false, false, false, false, false, false, false, false, false, false, false, false, false, false, false]) (by kernel_rfl) ?_
              refine WA.takeNo 9 rfl (by kernel_rfl) (by kernel_rfl) (by kernel_rfl) rfl rfl rfl ((show _ = Value.bool (decide ((x112.length : Int) < 4)) from rfl).trans (congrArg Value.bool c376)) ⟨_, sR⟩ ?_
              refine WA.norm (listed' := #[true, true, true, true, true, true, true, true, true, true, false, false, false, false, false, false, false, false, false, false, false, false, false, false, false, false, false, false, false, false, false, false, false, false, false, false, false, false, false, false, false, false, false]) (by kernel_rfl) ?_
              refine WA.ex 10 rfl (by kernel_rfl) (by kernel_rfl) (by kernel_rfl) rfl ⟨_, sR⟩ (fun w_ hS_ => ex_pick_t (v := .bool true) ((show _ = Value.bool (decide ((x112.length : Int) < 4)) from rfl).trans (congrArg Value.bool c376)) rfl) ?_
              refine WA.norm (listed' := #[true, true, true, true, true, true, true, true, true, true, true, false, false, false, false, false, false, false, false, false, false, false, false, false, false, false, false, false, false, false, false, false, false, false, false, false, false, false, false, false, false, false, false]) (by kernel_rfl) ?_
              refine WA.ex 11 rfl (by kernel_rfl) (by kernel_rfl) (by kernel_rfl) rfl ⟨_, sR⟩ (fun w_ hS_ => ex_move (v := .bool true) rfl) ?_
              refine WA.norm (listed' := #[true, true, true, true, true, true, true, true, true, true, true, true, false, false, false, false, false, false, false, false, false, false, false, false, false, false, false, false, false, false, false, false, false, false, false, false, false, false, false, false, false, false, false]) (by kernel_rfl) ?_
              refine WA.takeNo 12 rfl (by kernel_rfl) (by kernel_rfl) (by kernel_rfl) rfl rfl rfl rfl ⟨_, sR⟩ ?_
              refine WA.norm (listed' := #[true, true, true, true, true, true, true, true, true, true, true, true, true, false, false, false, false, false, false, false, false, false, false, false, false, false, false, false, false, false, false, false, false, false, false, false, false, false, false, false, false, false, false]) (by kernel_rfl) ?_
              refine WA.takeNo 13 rfl (by kernel_rfl) (by kernel_rfl) (by kernel_rfl) rfl rfl rfl rfl ⟨_, sR⟩ ?_
              refine WA.norm (listed' := #[true, true, true, true, true, true, true, true, true, true, true, true, true, true, false, false, false, false, false, false, false, false, false, false, false, false, false, false, false, false, false, false, false, false, false, false, false, false, false, false, false, false, false]) (by kernel_rfl) ?_
              refine WA.takeNo 14 rfl (by kernel_rfl) (by kernel_rfl) (by kernel_rfl) rfl rfl rfl rfl ⟨_, sR⟩ ?_
              refine WA.norm (listed' := #[true, true, true, true, true, true, true, true, true, true, true, true, true, true, true, false, false, false, false, false, false, false, false, false, false, false, false, false, false, false, false, false, false, false, false, false, false, false, false, false, false, false, false]) (by kernel_rfl) ?_
              refine WA.takeNo 15 rfl (by kernel_rfl) (by kernel_rfl) (by kernel_rfl) rfl rfl rfl rfl ⟨_, sR⟩ ?_
              refine WA.norm (listed' := #[true, true, true, true, true, true, true, true, true, true, true, true, true, true, true, true, false, false, false, false, false, false, false, false, false, false, false, false, false, false, false, false, false, false, false, false, false, false, false, false, false, false, false]) (by kernel_rfl) ?_
              refine WA.takeNo 16 rfl (by kernel_rfl) (by kernel_rfl) (by kernel_rfl) rfl rfl rfl rfl ⟨_, sR⟩ ?_
              refine WA.norm (listed' := #[true, true, true, true, true, true, true, true, true, true, true, true, true, true, true, true, true, false, false, false, false, false, false, false, false, false, false, false, false, false, false, false, false, false, false, false, false, false, false, false, false, false, false]) (by kernel_rfl) ?_
              refine WA.takeNo 17 rfl (by kernel_rfl) (by kernel_rfl) (by kernel_rfl) rfl rfl rfl rfl ⟨_, sR⟩ ?_
              refine WA.norm (listed' := #[true, true, true, true, true, true, true, true, true, true, true, true, true, true, true, true, true, true, false, false, false, false, false, false, false, false, false, false, false, false, false, false, false, false, false, false, false, false, false, false, false, false, false]) (by kernel_rfl) ?_
              refine WA.ex 18 rfl (by kernel_rfl) (by kernel_rfl) (by kernel_rfl) rfl ⟨_, sR⟩ (fun w_ hS_ => ex_pick_t (v := .bool true) rfl rfl) ?_
              refine WA.norm (listed' := #[true, true, true, true, true, true, true, true, true, true, true, true, true, true, true, true, true, true, true, false, false, false, false, false, false, false, false, false, false, false, false, false, false, false, false, false, false, false, false, false, false, false, false]) (by kernel_rfl) ?_
              refine WA.ex 19 rfl (by kernel_rfl) (by kernel_rfl) (by kernel_rfl) rfl ⟨_, sR⟩ (fun w_ hS_ => ex_move (v := .bool true) rfl) ?_
              refine WA.norm (listed' := #[true, true, true, true, true, true, true, true, true, true, true, true, true, true, true, true, true, true, true, true, false, false, false, false, false, false, false, false, false, false, false, false, false, false, false, false, false, false, false, false, false, false, false]) (by kernel_rfl) ?_
              refine WA.takeNo 20 rfl (by kernel_rfl) (by kernel_rfl) (by kernel_rfl) rfl rfl rfl rfl ⟨_, sR⟩ ?_
              refine WA.norm (listed' := #[true, true, true, true, true, true, true, true, true, true, true, true, true, true, true, true, true, true, true, true, true, false, false, false, false, false, false, false, false, false, false, false, false, false, false, false, false, false, false, false, false, false, false]) (by kernel_rfl) ?_
              refine WA.takeNo 21 rfl (by kernel_rfl) (by kernel_rfl) (by kernel_rfl) rfl rfl rfl rfl ⟨_, sR⟩ ?_
              refine WA.norm (listed' := #[true, true, true, true, true, true, true, true, true, true, true, true, true, true, true, true, true, true, true, true, true, true, false, false, false, false, false, false, false, false, false, false, false, false, false, false, false, false, false, false, false, false, false]) (by kernel_rfl) ?_
              refine WA.takeNo 22 rfl (by kernel_rfl) (by kernel_rfl) (by kernel_rfl) rfl rfl rfl rfl ⟨_, sR⟩ ?_
              refine WA.norm (listed' := #[true, true, true, true, true, true, true, true, true, true, true, true, true, true, true, true, true, true, true, true, true, true, true, false, false, false, false, false, false, false, false, false, false, false, false, false, false, false, false, false, false, false, false]) (by kernel_rfl) ?_
              refine WA.takeNo 23 rfl (by kernel_rfl) (by kernel_rfl) (by kernel_rfl) rfl rfl rfl rfl ⟨_, sR⟩ ?_
              refine WA.norm (listed' := #[true, true, true, true, true, true, true, true, true, true, true, true, true, true, true, true, true, true, true, true, true, true, true, true, false, false, false, false, false, false, false, false, false, false, false, false, false, false, false, false, false, false, false]) (by kernel_rfl) ?_
              refine WA.ex 24 rfl (by kernel_rfl) (by kernel_rfl) (by kernel_rfl) rfl ⟨_, sR⟩ (fun w_ hS_ => ex_pick_t (v := .bool true) rfl rfl) ?_
              refine WA.norm (listed' := #[true, true, true, true, true, true, true, true, true, true, true, true, true, true, true, true, true, true, true, true, true, true, true, true, true, false, false, false, false, false, false, false, false, false, false, false, false, false, false, false, false, false, false]) (by kernel_rfl) ?_
              refine WA.ex 25 rfl (by kernel_rfl) (by kernel_rfl) (by kernel_rfl) rfl ⟨_, sR⟩ (fun w_ hS_ => ex_move (v := .bool true) rfl) ?_
              refine WA.norm (listed' := #[true, true, true, true, true, true, true, true, true, true, true, true, true, true, true, true, true, true, true, true, true, true, true, true, true, true, false, false, false, false, false, false, false, false, false, false, false, false, false, false, false, false, false]) (by kernel_rfl) ?_
              refine WA.takeNo 26 rfl (by kernel_rfl) (by kernel_rfl) (by kernel_rfl) rfl rfl rfl rfl ⟨_, sR⟩ ?_
              refine WA.norm (listed' := #[true, true, true, true, true, true, true, true, true, true, true, true, true, true, true, true, true, true, true, true, true, true, true, true, true, true, true, false, false, false, false, false, false, false, false, false, false, false, false, false, false, false, false]) (by kernel_rfl) ?_
              refine WA.takeNo 27 rfl (by kernel_rfl) (by kernel_rfl) (by kernel_rfl) rfl rfl rfl rfl ⟨_, sR⟩ ?_
              refine WA.norm (listed' := #[true, true, true, true, true, true, true, true, true, true, true, true, true, true, true, true, true, true, true, true, true, true, true, true, true, true, true, true, false, false, false, false, false, false, false, false, false, false, false, false, false, false, false]) (by kernel_rfl) ?_
              refine WA.takeNo 28 rfl (by kernel_rfl) (by kernel_rfl) (by kernel_rfl) rfl rfl rfl rfl ⟨_, sR⟩ ?_
              refine WA.norm (listed' := #[true, true, true, true, true, true, true, true, true, true, true, true, true, true, true, true, true, true, true, true, true, true, true, true, true, true, true, true, true, false, false, false, false, false, false, false, false, false, false, false, false, false, false]) (by kernel_rfl) ?_
              refine WA.takeNo 29 rfl (by kernel_rfl) (by kernel_rfl) (by kernel_rfl) rfl rfl rfl rfl ⟨_, sR⟩ ?_
              refine WA.norm (listed' := #[true, true, true, true, true, true, true, true, true, true, true, true, true, true, true, true, true, true, true, true, true, true, true, true, true, true, true, true, true, true, false, false, false, false, false, false, false, false, false, false, false, false, false]) (by kernel_rfl) ?_
              refine WA.ex 30 rfl (by kernel_rfl) (by kernel_rfl) (by kernel_rfl) rfl ⟨_, sR⟩ (fun w_ hS_ => ex_pick_t (v := .bool true) rfl rfl) ?_
              refine WA.norm (listed' := #[true, true, true, true, true, true, true, true, true, true, true, true, true, true, true, true, true, true, true, true, true, true, true, true, true, true, true, true, true, true, true, false, false, false, false, false, false, false, false, false, false, false, false]) (by kernel_rfl) ?_
              refine WA.ex 31 rfl (by kernel_rfl) (by kernel_rfl) (by kernel_rfl) rfl ⟨_, sR⟩ (fun w_ hS_ => ex_move (v := .bool true) rfl) ?_
              refine WA.norm (listed' := #[true, true, true, true, true, true, true, true, true, true, true, true, true, true, true, true, true, true, true, true, true, true, true, true, true, true, true, true, true, true, true, true, false, false, false, false, false, false, false, false, false, false, false]) (by kernel_rfl) ?_
              refine WA.takeNo 32 rfl (by kernel_rfl) (by kernel_rfl) (by kernel_rfl) rfl rfl rfl rfl ⟨_, sR⟩ ?_
              refine WA.norm (listed' := #[true, true, true, true, true, true, true, true, true, true, true, true, true, true, true, true, true, true, true, true, true, true, true, true, true, true, true, true, true, true, true, true, true, false, false, false, false, false, false, false, false, false, false]) (by kernel_rfl) ?_
              refine WA.takeNo 33 rfl (by kernel_rfl) (by kernel_rfl) (by kernel_rfl) rfl rfl rfl rfl ⟨_, sR⟩ ?_
              refine WA.norm (listed' := #[true, true, true, true, true, true, true, true, true, true, true, true, true, true, true, true, true, true, true, true, true, true, true, true, true, true, true, true, true, true, true, true, true, true, false, false, false, false, false, false, false, false, false]) (by kernel_rfl) ?_
              refine WA.takeNo 34 rfl (by kernel_rfl) (by kernel_rfl) (by kernel_rfl) rfl rfl rfl rfl ⟨_, sR⟩ ?_
              refine WA.norm (listed' := #[true, true, true, true, true, true, true, true, true, true, true, true, true, true, true, true, true, true, true, true, true, true, true, true, true, true, true, true, true, true, true, true, true, true, true, false, false, false, false, false, false, false, false]) (by kernel_rfl) ?_
              refine WA.takeNo 35 rfl (by kernel_rfl) (by kernel_rfl) (by kernel_rfl) rfl rfl rfl rfl ⟨_, sR⟩ ?_
              refine WA.norm (listed' := #[true, true, true, true, true, true, true, true, true, true, true, true, true, true, true, true, true, true, true, true, true, true, true, true, true, true, true, true, true, true, true, true, true, true, true, true, false, false, false, false, false, false, false]) (by kernel_rfl) ?_
              refine WA.ex 36 rfl (by kernel_rfl) (by kernel_rfl) (by kernel_rfl) rfl ⟨_, sR⟩ (fun w_ hS_ => ex_pick_t (v := .bool true) rfl rfl) ?_
              refine WA.norm (listed' := #[true, true, true, true, true, true, true, true, true, true, true, true, true, true, true, true, true, true, true, true, true, true, true, true, true, true, true, true, true, true, true, true, true, true, true, true, true, false, false, false, false, false, false]) (by kernel_rfl) ?_
              refine WA.ex 37 rfl (by kernel_rfl) (by kernel_rfl) (by kernel_rfl) rfl ⟨_, sR⟩ (fun w_ hS_ => ex_move (v := .bool true) rfl) ?_
              refine WA.norm (listed' := #[true, true, true, true, true, true, true, true, true, true, true, true, true, true, true, true, true, true, true, true, true, true, true, true, true, true, true, true, true, true, true, true, true, true, true, true, true, true, false, false, false, false, false]) (by kernel_rfl) ?_
              refine WA.takeNo 38 rfl (by kernel_rfl) (by kernel_rfl) (by kernel_rfl) rfl rfl rfl rfl ⟨_, sR⟩ ?_
              refine WA.norm (listed' := #[true, true, true, true, true, true, true, true, true, true, true, true, true, true, true, true, true, true, true, true, true, true, true, true, true, true, true, true, true, true, true, true, true, true, true, true, true, true, true, false, false, false, false]) (by kernel_rfl) ?_
              refine WA.takeNo 39 rfl (by kernel_rfl) (by kernel_rfl) (by kernel_rfl) rfl rfl rfl rfl ⟨_, sR⟩ ?_
              refine WA.norm (listed' := #[true, true, true, true, true, true, true, true, true, true, true, true, true, true, true, true, true, true, true, true, true, true, true, true, true, true, true, true, true, true, true, true, true, true, true, true, true, true, true, true, false, false, false]) (by kernel_rfl) ?_
              refine WA.takeNo 40 rfl (by kernel_rfl) (by kernel_rfl) (by kernel_rfl) rfl rfl rfl rfl ⟨_, sR⟩ ?_
              refine WA.norm (listed' := #[true, true, true, true, true, true, true, true, true, true, true, true, true, true, true, true, true, true, true, true, true, true, true, true, true, true, true, true, true, true, true, true, true, true, true, true, true, true, true, true, true, false, false]) (by kernel_rfl) ?_
              refine WA.takeNo 41 rfl (by kernel_rfl) (by kernel_rfl) (by kernel_rfl) rfl rfl rfl rfl ⟨_, sR⟩ ?_
              refine WA.norm (listed' := #[true, true, true, true, true, true, true, true, true, true, true, true, true, true, true, true, true, true, true, true, true, true, true, true, true, true, true, true, true, true, true, true, true, true, true, true, true, true, true, true, true, true, false]) (by kernel_rfl) ?_
              refine WA.ex 42 rfl (by kernel_rfl) (by kernel_rfl) (by kernel_rfl) rfl ⟨_, sR⟩ (fun w_ hS_ => ex_pick_t (v := .bool true) rfl rfl) ?_
              refine WA.norm (listed' := #[true, true, true, true, true, true, true, true, true, true, true, true, true, true, true, true, true, true, true, true, true, true, true, true, true, true, true, true, true, true, true, true, true, true, true, true, true, true, true, true, true, true, true]) (by kernel_rfl) ?_
              refine WA.done (by kernel_rfl) ?_
              obtain rfl := Option.some.inj H
              exact ⟨_, HF, hr110, hl111, hG, s0_112, s2_112, rfl⟩
            ·
              refine WA.exYes (i := 4) rfl (by kernel_rfl) (by kernel_rfl) (by kernel_rfl) rfl rfl rfl ((show _ = Value.bool (decide ((x112.length : Int) < 4)) from rfl).trans (congrArg Value.bool c376)) ⟨_, sR⟩ (fun w_ hS_ => ex_move (v := .slice A108 x112.length c109) s0_112) ?_
              refine WA.norm (listed' := #[true, true, true, true, true, false, false, false, false, false, false, false, false, false, false, false, false, false, false, false, false, false, false, false, false, false, false, false, false, false, false, false, false, false, false, false, false, false, false, false, false, false, false]) (by kernel_rfl) ?_
              obtain ⟨x377, hx377, H⟩ := bindE H
              obtain ⟨ad378, e379, g380, g381, cell382⟩ := Row.ixS hr110D hx377
              have hk383 := Row.at hr110D e379 hx377 ((1 : Int).toNat * 1)
              replace cell382 := held_cell (Step.refl _ _ _) ⟨_, sR⟩ hk383 rfl cell382
              refine WA.exYes (i := 5) rfl (by kernel_rfl) (by kernel_rfl) (by kernel_rfl) rfl rfl rfl ((show _ = Value.bool (decide ((x112.length : Int) < 4)) from rfl).trans (congrArg Value.bool c376)) ⟨_, sR⟩ (fun w_ hS_ => ex_indexAddr (i := (1 : Int)) rfl e379 rfl Tryd.underlying24 sz5 g380 g381) ?_
              refine WA.norm (listed' := #[true, true, true, true, true, true, false, false, false, false, false, false, false, false, false, false, false, false, false, false, false, false, false, false, false, false, false, false, false, false, false, false, false, false, false, false, false, false, false, false, false, false, false]) (by kernel_rfl) ?_
              refine WA.exYes (i := 6) rfl (by kernel_rfl) (by kernel_rfl) (by kernel_rfl) rfl rfl rfl ((show _ = Value.bool (decide ((x112.length : Int) < 4)) from rfl).trans (congrArg Value.bool c376)) ⟨_, sR⟩ (fun w_ hS_ => ex_load1 (v := enc8 x377) rfl Tryd.underlying5 rfl (held_cell sR hS_ hk383 rfl cell382)) ?_
              refine WA.norm (listed' := #[true, true, true, true, true, true, true, false, false, false, false, false, false, false, false, false, false, false, false, false, false, false, false, false, false, false, false, false, false, false, false, false, false, false, false, false, false, false, false, false, false, false, false]) (by kernel_rfl) ?_
              refine WA.exYes (i := 7) rfl (by kernel_rfl) (by kernel_rfl) (by kernel_rfl) rfl rfl rfl ((show _ = Value.bool (decide ((x112.length : Int) < 4)) from rfl).trans (congrArg Value.bool c376)) ⟨_, sR⟩ (fun w_ hS_ => ex_fieldAddr rfl Tryd.underlying96 rfl sz5) ?_
              refine WA.norm (listed' := #[true, true, true, true, true, true, true, true, false, false, false, false, false, false, false, false, false, false, false, false, false, false, false, false, false, false, false, false, false, false, false, false, false, false, false, false, false, false, false, false, false, false, false]) (by kernel_rfl) ?_
              refine WA.exYes (i := 8) rfl (by kernel_rfl) (by kernel_rfl) (by kernel_rfl) rfl rfl rfl ((show _ = Value.bool (decide ((x112.length : Int) < 4)) from rfl).trans (congrArg Value.bool c376)) ⟨_, sR⟩ (fun w_ hS_ => ex_load1 (v := enc8 (accLo8 (shr8 (first8 x121) 4))) rfl Tryd.underlying5 rfl ((hB273D.step hS_.choose_spec rfl).cell rfl)) ?_
              refine WA.norm (listed' := #[true, true, true, true, true, true, true, true, true, false, false, false, false, false, false, false, false, false, false, false, false, false, false, false, false, false, false, false, false, false, false, false, false, false, false, false, false, false, false, false, false, false, false]) (by kernel_rfl) ?_
              refine WA.exYes (i := 9) rfl (by kernel_rfl) (by kernel_rfl) (by kernel_rfl) rfl rfl rfl ((show _ = Value.bool (decide ((x112.length : Int) < 4)) from rfl).trans (congrArg Value.bool c376)) ⟨_, sR⟩ (fun w_ hS_ => ex_bin (a := enc8 x377) (b := enc8 (accLo8 (shr8 (first8 x121) 4))) (v := .bool (decide (x377 < (accLo8 (shr8 (first8 x121) 4))))) rfl rfl bin_lss_u8) ?_
              refine WA.norm (listed' := #[true, true, true, true, true, true, true, true, true, true, false, false, false, false, false, false, false, false, false, false, false, false, false, false, false, false, false, false, false, false, false, false, false, false, false, false, false, false, false, false, false, false, false]) (by kernel_rfl) ?_
              refine WA.ex 10 rfl (by kernel_rfl) (by kernel_rfl) (by kernel_rfl) rfl ⟨_, sR⟩ (fun w_ hS_ => ex_pick_f (v := .bool (decide (x377 < (accLo8 (shr8 (first8 x121) 4))))) ((show _ = Value.bool (decide ((x112.length : Int) < 4)) from rfl).trans (congrArg Value.bool c376)) rfl) ?_
              refine WA.norm (listed' := #[true, true, true, true, true, true, true, true, true, true, true, false, false, false, false, false, false, false, false, false, false, false, false, false, false, false, false, false, false, false, false, false, false, false, false, false, false, false, false, false, false, false, false]) (by kernel_rfl) ?_
              refine WA.ex 11 rfl (by kernel_rfl) (by kernel_rfl) (by kernel_rfl) rfl ⟨_, sR⟩ (fun w_ hS_ => ex_move (v := .bool (decide (x377 < (accLo8 (shr8 (first8 x121) 4))))) rfl) ?_
              refine WA.norm (listed' := #[true, true, true, true, true, true, true, true, true, true, true, true, false, false, false, false, false, false, false, false, false, false, false, false, false, false, false, false, false, false, false, false, false, false, false, false, false, false, false, false, false, false, false]) (by kernel_rfl) ?_
              rcases condE H with ⟨c384, H⟩ | ⟨c384, H⟩
              ·
                refine WA.takeNo 12 rfl (by kernel_rfl) (by kernel_rfl) (by kernel_rfl) rfl rfl rfl ((show _ = Value.bool (decide (x377 < (accLo8 (shr8 (first8 x121) 4)))) from rfl).trans (congrArg Value.bool c384)) ⟨_, sR⟩ ?_
                refine WA.norm (listed' := #[true, true, true, true, true, true, true, true, true, true, true, true, true, false, false, false, false, false, false, false, false, false, false, false, false, false, false, false, false, false, false, false, false, false, false, false, false, false, false, false, false, false, false]) (by kernel_rfl) ?_
                refine WA.takeNo 13 rfl (by kernel_rfl) (by kernel_rfl) (by kernel_rfl) rfl rfl rfl ((show _ = Value.bool (decide (x377 < (accLo8 (shr8 (first8 x121) 4)))) from rfl).trans (congrArg Value.bool c384)) ⟨_, sR⟩ ?_
                refine WA.norm (listed' := #[true, true, true, true, true, true, true, true, true, true, true, true, true, true, false, false, false, false, false, false, false, false, false, false, false, false, false, false, false, false, false, false, false, false, false, false, false, false, false, false, false, false, false]) (by kernel_rfl) ?_
                refine WA.takeNo 14 rfl (by kernel_rfl) (by kernel_rfl) (by kernel_rfl) rfl rfl rfl ((show _ = Value.bool (decide (x377 < (accLo8 (shr8 (first8 x121) 4)))) from rfl).trans (congrArg Value.bool c384)) ⟨_, sR⟩ ?_
                refine WA.norm (listed' := #[true, true, true, true, true, true, true, true, true, true, true, true, true, true, true, false, false, false, false, false, false, false, false, false, false, false, false, false, false, false, false, false, false, false, false, false, false, false, false, false, false, false, false]) (by kernel_rfl) ?_
                refine WA.takeNo 15 rfl (by kernel_rfl) (by kernel_rfl) (by kernel_rfl) rfl rfl rfl ((show _ = Value.bool (decide (x377 < (accLo8 (shr8 (first8 x121) 4)))) from rfl).trans (congrArg Value.bool c384)) ⟨_, sR⟩ ?_
                refine WA.norm (listed' := #[true, true, true, true, true, true, true, true, true, true, true, true, true, true, true, true, false, false, false, false, false, false, false, false, false, false, false, false, false, false, false, false, false, false, false, false, false, false, false, false, false, false, false]) (by kernel_rfl) ?_
                refine WA.takeNo 16 rfl (by kernel_rfl) (by kernel_rfl) (by kernel_rfl) rfl rfl rfl ((show _ = Value.bool (decide (x377 < (accLo8 (shr8 (first8 x121) 4)))) from rfl).trans (congrArg Value.bool c384)) ⟨_, sR⟩ ?_
                refine WA.norm (listed' := #[true, true, true, true, true, true, true, true, true, true, true, true, true, true, true, true, true, false, false, false, false, false, false, false, false, false, false, false, false, false, false, false, false, false, false, false, false, false, false, false, false, false, false]) (by kernel_rfl) ?_
                refine WA.takeNo 17 rfl (by kernel_rfl) (by kernel_rfl) (by kernel_rfl) rfl rfl rfl ((show _ = Value.bool (decide (x377 < (accLo8 (shr8 (first8 x121) 4)))) from rfl).trans (congrArg Value.bool c384)) ⟨_, sR⟩ ?_
                refine WA.norm (listed' := #[true, true, true, true, true, true, true, true, true, true, true, true, true, true, true, true, true, true, false, false, false, false, false, false, false, false, false, false, false, false, false, false, false, false, false, false, false, false, false, false, false, false, false]) (by kernel_rfl) ?_
                refine WA.ex 18 rfl (by kernel_rfl) (by kernel_rfl) (by kernel_rfl) rfl ⟨_, sR⟩ (fun w_ hS_ => ex_pick_t (v := .bool true) ((show _ = Value.bool (decide (x377 < (accLo8 (shr8 (first8 x121) 4)))) from rfl).trans (congrArg Value.bool c384)) rfl) ?_
                refine WA.norm (listed' := #[true, true, true, true, true, true, true, true, true, true, true, true, true, true, true, true, true, true, true, false, false, false, false, false, false, false, false, false, false, false, false, false, false, false, false, false, false, false, false, false, false, false, false]) (by kernel_rfl) ?_
                refine WA.ex 19 rfl (by kernel_rfl) (by kernel_rfl) (by kernel_rfl) rfl ⟨_, sR⟩ (fun w_ hS_ => ex_move (v := .bool true) rfl) ?_
                refine WA.norm (listed' := #[true, true, true, true, true, true, true, true, true, true, true, true, true, true, true, true, true, true, true, true, false, false, false, false, false, false, false, false, false, false, false, false, false, false, false, false, false, false, false, false, false, false, false]) (by kernel_rfl) ?_
                refine WA.takeNo 20 rfl (by kernel_rfl) (by kernel_rfl) (by kernel_rfl) rfl rfl rfl rfl ⟨_, sR⟩ ?_
                refine WA.norm (listed' := #[true, true, true, true, true, true, true, true, true, true, true, true, true, true, true, true, true, true, true, true, true, false, false, false, false, false, false, false, false, false, false, false, false, false, false, false, false, false, false, false, false, false, false]) (by kernel_rfl) ?_
                refine WA.takeNo 21 rfl (by kernel_rfl) (by kernel_rfl) (by kernel_rfl) rfl rfl rfl rfl ⟨_, sR⟩ ?_
                refine WA.norm (listed' := #[true, true, true, true, true, true, true, true, true, true, true, true, true, true, true, true, true, true, true, true, true, true, false, false, false, false, false, false, false, false, false, false, false, false, false, false, false, false, false, false, false, false, false]) (by kernel_rfl) ?_
                refine WA.takeNo 22 rfl (by kernel_rfl) (by kernel_rfl) (by kernel_rfl) rfl rfl rfl rfl ⟨_, sR⟩ ?_
                refine WA.norm (listed' := #[true, true, true, true, true, true, true, true, true, true, true, true, true, true, true, true, true, true, true, true, true, true, true, false, false, false, false, false, false, false, false, false, false, false, false, false, false, false, false, false, false, false, false]) (by kernel_rfl) ?_
                refine WA.takeNo 23 rfl (by kernel_rfl) (by kernel_rfl) (by kernel_rfl) rfl rfl rfl rfl ⟨_, sR⟩ ?_
                refine WA.norm (listed' := #[true, true, true, true, true, true, true, true, true, true, true, true, true, true, true, true, true, true, true, true, true, true, true, true, false, false, false, false, false, false, false, false, false, false, false, false, false, false, false, false, false, false, false]) (by kernel_rfl) ?_
                refine WA.ex 24 rfl (by kernel_rfl) (by kernel_rfl) (by kernel_rfl) rfl ⟨_, sR⟩ (fun w_ hS_ => ex_pick_t (v := .bool true) rfl rfl) ?_
                refine WA.norm (listed' := #[true, true, true, true, true, true, true, true, true, true, true, true, true, true, true, true, true, true, true, true, true, true, true, true, true, false, false, false, false, false, false, false, false, false, false, false, false, false, false, false, false, false, false]) (by kernel_rfl) ?_
                refine WA.ex 25 rfl (by kernel_rfl) (by kernel_rfl) (by kernel_rfl) rfl ⟨_, sR⟩ (fun w_ hS_ => ex_move (v := .bool true) rfl) ?_
                refine WA.norm (listed' := #[true, true, true, true, true, true, true, true, true, true, true, true, true, true, true, true, true, true, true, true, true, true, true, true, true, true, false, false, false, false, false, false, false, false, false, false, false, false, false, false, false, false, false]) (by kernel_rfl) ?_
                refine WA.takeNo 26 rfl (by kernel_rfl) (by kernel_rfl) (by kernel_rfl) rfl rfl rfl rfl ⟨_, sR⟩ ?_
                refine WA.norm (listed' := #[true, true, true, true, true, true, true, true, true, true, true, true, true, true, true, true, true, true, true, true, true, true, true, true, true, true, true, false, false, false, false, false, false, false, false, false, false, false, false, false, false, false, false]) (by kernel_rfl) ?_
                refine WA.takeNo 27 rfl (by kernel_rfl) (by kernel_rfl) (by kernel_rfl) rfl rfl rfl rfl ⟨_, sR⟩ ?_
                refine WA.norm (listed' := #[true, true, true, true, true, true, true, true, true, true, true, true, true, true, true, true, true, true, true, true, true, true, true, true, true, true, true, true, false, false, false, false, false, false, false, false, false, false, false, false, false, false, false]) (by kernel_rfl) ?_
                refine WA.takeNo 28 rfl (by kernel_rfl) (by kernel_rfl) (by kernel_rfl) rfl rfl rfl rfl ⟨_, sR⟩ ?_
                refine WA.norm (listed' := #[true, true, true, true, true, true, true, true, true, true, true, true, true, true, true, true, true, true, true, true, true, true, true, true, true, true, true, true, true, false, false, false, false, false, false, false, false, false, false, false, false, false, false]) (by kernel_rfl) ?_
                refine WA.takeNo 29 rfl (by kernel_rfl) (by kernel_rfl) (by kernel_rfl) rfl rfl rfl rfl ⟨_, sR⟩ ?_
                refine WA.norm (listed' := #[true, true, true, true, true, true, true, true, true, true, true, true, true, true, true, true, true, true, true, true, true, true, true, true, true, true, true, true, true, true, false, false, false, false, false, false, false, false, false, false, false, false, false]) (by kernel_rfl) ?_
                refine WA.ex 30 rfl (by kernel_rfl) (by kernel_rfl) (by kernel_rfl) rfl ⟨_, sR⟩ (fun w_ hS_ => ex_pick_t (v := .bool true) rfl rfl) ?_
                refine WA.norm (listed' := #[true, true, true, true, true, true, true, true, true, true, true, true, true, true, true, true, true, true, true, true, true, true, true, true, true, true, true, true, true, true, true, false, false, false, false, false, false, false, false, false, false, false, false]) (by kernel_rfl) ?_
                refine WA.ex 31 rfl (by kernel_rfl) (by kernel_rfl) (by kernel_rfl) rfl ⟨_, sR⟩ (fun w_ hS_ => ex_move (v := .bool true) rfl) ?_
                refine WA.norm (listed' := #[true, true, true, true, true, true, true, true, true, true, true, true, true, true, true, true, true, true, true, true, true, true, true, true, true, true, true, true, true, true, true, true, false, false, false, false, false, false, false, false, false, false, false]) (by kernel_rfl) ?_
                refine WA.takeNo 32 rfl (by kernel_rfl) (by kernel_rfl) (by kernel_rfl) rfl rfl rfl rfl ⟨_, sR⟩ ?_
                refine WA.norm (listed' := #[true, true, true, true, true, true, true, true, true, true, true, true, true, true, true, true, true, true, true, true, true, true, true, true, true, true, true, true, true, true, true, true, true, false, false, false, false, false, false, false, false, false, false]) (by kernel_rfl) ?_
                refine WA.takeNo 33 rfl (by kernel_rfl) (by kernel_rfl) (by kernel_rfl) rfl rfl rfl rfl ⟨_, sR⟩ ?_
                refine WA.norm (listed' := #[true, true, true, true, true, true, true, true, true, true, true, true, true, true, true, true, true, true, true, true, true, true, true, true, true, true, true, true, true, true, true, true, true, true, false, false, false, false, false, false, false, false, false]) (by kernel_rfl) ?_
                refine WA.takeNo 34 rfl (by kernel_rfl) (by kernel_rfl) (by kernel_rfl) rfl rfl rfl rfl ⟨_, sR⟩ ?_
                refine WA.norm (listed' := #[true, true, true, true, true, true, true, true, true, true, true, true, true, true, true, true, true, true, true, true, true, true, true, true, true, true, true, true, true, true, true, true, true, true, true, false, false, false, false, false, false, false, false]) (by kernel_rfl) ?_
                refine WA.takeNo 35 rfl (by kernel_rfl) (by kernel_rfl) (by kernel_rfl) rfl rfl rfl rfl ⟨_, sR⟩ ?_
                refine WA.norm (listed' := #[true, true, true, true, true, true, true, true, true, true, true, true, true, true, true, true, true, true, true, true, true, true, true, true, true, true, true, true, true, true, true, true, true, true, true, true, false, false, false, false, false, false, false]) (by kernel_rfl) ?_
                refine WA.ex 36 rfl (by kernel_rfl) (by kernel_rfl) (by kernel_rfl) rfl ⟨_, sR⟩ (fun w_ hS_ => ex_pick_t (v := .bool true) rfl rfl) ?_
                refine WA.norm (listed' := #[true, true, true, true, true, true, true, true, true, true, true, true, true, true, true, true, true, true, true, true, true, true, true, true, true, true, true, true, true, true, true, true, true, true, true, true, true, false, false, false, false, false, false]) (by kernel_rfl) ?_
                refine WA.ex 37 rfl (by kernel_rfl) (by kernel_rfl) (by kernel_rfl) rfl ⟨_, sR⟩ (fun w_ hS_ => ex_move (v := .bool true) rfl) ?_
                refine WA.norm (listed' := #[true, true, true, true, true, true, true, true, true, true, true, true, true, true, true, true, true, true, true, true, true, true, true, true, true, true, true, true, true, true, true, true, true, true, true, true, true, true, false, false, false, false, false]) (by kernel_rfl) ?_
                refine WA.takeNo 38 rfl (by kernel_rfl) (by kernel_rfl) (by kernel_rfl) rfl rfl rfl rfl ⟨_, sR⟩ ?_
                refine WA.norm (listed' := #[true, true, true, true, true, true, true, true, true, true, true, true, true, true, true, true, true, true, true, true, true, true, true, true, true, true, true, true, true, true, true, true, true, true, true, true, true, true, true, false, false, false, false]) (by kernel_rfl) ?_
                refine WA.takeNo 39 rfl (by kernel_rfl) (by kernel_rfl) (by kernel_rfl) rfl rfl rfl rfl ⟨_, sR⟩ ?_
                refine WA.norm (listed' := #[true, true, true, true, true, true, true, true, true, true, true, true, true, true, true, true, true, true, true, true, true, true, true, true, true, true, true, true, true, true, true, true, true, true, true, true, true, true, true, true, false, false, false]) (by kernel_rfl) ?_
                refine WA.takeNo 40 rfl (by kernel_rfl) (by kernel_rfl) (by kernel_rfl) rfl rfl rfl rfl ⟨_, sR⟩ ?_
                refine WA.norm (listed' := #[true, true, true, true, true, true, true, true, true, true, true, true, true, true, true, true, true, true, true, true, true, true, true, true, true, true, true, true, true, true, true, true, true, true, true, true, true, true, true, true, true, false, false]) (by kernel_rfl) ?_
                refine WA.takeNo 41 rfl (by kernel_rfl) (by kernel_rfl) (by kernel_rfl) rfl rfl rfl rfl ⟨_, sR⟩ ?_
                refine WA.norm (listed' := #[true, true, true, true, true, true, true, true, true, true, true, true, true, true, true, true, true, true, true, true, true, true, true, true, true, true, true, true, true, true, true, true, true, true, true, true, true, true, true, true, true, true, false]) (by kernel_rfl) ?_
                refine WA.ex 42 rfl (by kernel_rfl) (by kernel_rfl) (by kernel_rfl) rfl ⟨_, sR⟩ (fun w_ hS_ => ex_pick_t (v := .bool true) rfl rfl) ?_
                refine WA.norm (listed' := #[true, true, true, true, true, true, true, true, true, true, true, true, true, true, true, true, true, true, true, true, true, true, true, true, true, true, true, true, true, true, true, true, true, true, true, true, true, true, true, true, true, true, true]) (by kernel_rfl) ?_
                refine WA.done (by kernel_rfl) ?_
                obtain rfl := Option.some.inj H
                exact ⟨_, HF, hr110, hl111, hG, s0_112, s2_112, rfl⟩
              ·
                refine WA.exYes (i := 12) rfl (by kernel_rfl) (by kernel_rfl) (by kernel_rfl) rfl rfl rfl ((show _ = Value.bool (decide (x377 < (accLo8 (shr8 (first8 x121) 4)))) from rfl).trans (congrArg Value.bool c384)) ⟨_, sR⟩ (fun w_ hS_ => ex_fieldAddr rfl Tryd.underlying96 rfl sz5) ?_
                refine WA.norm (listed' := #[true, true, true, true, true, true, true, true, true, true, true, true, true, false, false, false, false, false, false, false, false, false, false, false, false, false, false, false, false, false, false, false, false, false, false, false, false, false, false, false, false, false, false]) (by kernel_rfl) ?_
                refine WA.exYes (i := 13) rfl (by kernel_rfl) (by kernel_rfl) (by kernel_rfl) rfl rfl rfl ((show _ = Value.bool (decide (x377 < (accLo8 (shr8 (first8 x121) 4)))) from rfl).trans (congrArg Value.bool c384)) ⟨_, sR⟩ (fun w_ hS_ => ex_load1 (v := enc8 (accHi8 (shr8 (first8 x121) 4))) rfl Tryd.underlying5 rfl ((hB273D.step hS_.choose_spec rfl).cell rfl)) ?_
                refine WA.norm (listed' := #[true, true, true, true, true, true, true, true, true, true, true, true, true, true, false, false, false, false, false, false, false, false, false, false, false, false, false, false, false, false, false, false, false, false, false, false, false, false, false, false, false, false, false]) (by kernel_rfl) ?_
                refine WA.exYes (i := 14) rfl (by kernel_rfl) (by kernel_rfl) (by kernel_rfl) rfl rfl rfl ((show _ = Value.bool (decide (x377 < (accLo8 (shr8 (first8 x121) 4)))) from rfl).trans (congrArg Value.bool c384)) ⟨_, sR⟩ (fun w_ hS_ => ex_move (v := .slice A108 x112.length c109) s0_112) ?_
                refine WA.norm (listed' := #[true, true, true, true, true, true, true, true, true, true, true, true, true, true, true, false, false, false, false, false, false, false, false, false, false, false, false, false, false, false, false, false, false, false, false, false, false, false, false, false, false, false, false]) (by kernel_rfl) ?_
                obtain ⟨x385, hx385, H⟩ := bindE H
                obtain ⟨ad386, e387, g388, g389, cell390⟩ := Row.ixS hr110D hx385
                have hk391 := Row.at hr110D e387 hx385 ((1 : Int).toNat * 1)
                replace cell390 := held_cell (Step.refl _ _ _) ⟨_, sR⟩ hk391 rfl cell390
                refine WA.exYes (i := 15) rfl (by kernel_rfl) (by kernel_rfl) (by kernel_rfl) rfl rfl rfl ((show _ = Value.bool (decide (x377 < (accLo8 (shr8 (first8 x121) 4)))) from rfl).trans (congrArg Value.bool c384)) ⟨_, sR⟩ (fun w_ hS_ => ex_indexAddr (i := (1 : Int)) rfl e387 rfl Tryd.underlying24 sz5 g388 g389) ?_
                refine WA.norm (listed' := #[true, true, true, true, true, true, true, true, true, true, true, true, true, true, true, true, false, false, false, false, false, false, false, false, false, false, false, false, false, false, false, false, false, false, false, false, false, false, false, false, false, false, false]) (by kernel_rfl) ?_
                refine WA.exYes (i := 16) rfl (by kernel_rfl) (by kernel_rfl) (by kernel_rfl) rfl rfl rfl ((show _ = Value.bool (decide (x377 < (accLo8 (shr8 (first8 x121) 4)))) from rfl).trans (congrArg Value.bool c384)) ⟨_, sR⟩ (fun w_ hS_ => ex_load1 (v := enc8 x385) rfl Tryd.underlying5 rfl (held_cell sR hS_ hk391 rfl cell390)) ?_
                refine WA.norm (listed' := #[true, true, true, true, true, true, true, true, true, true, true, true, true, true, true, true, true, false, false, false, false, false, false, false, false, false, false, false, false, false, false, false, false, false, false, false, false, false, false, false, false, false, false]) (by kernel_rfl) ?_
                refine WA.exYes (i := 17) rfl (by kernel_rfl) (by kernel_rfl) (by kernel_rfl) rfl rfl rfl ((show _ = Value.bool (decide (x377 < (accLo8 (shr8 (first8 x121) 4)))) from rfl).trans (congrArg Value.bool c384)) ⟨_, sR⟩ (fun w_ hS_ => ex_bin (a := enc8 (accHi8 (shr8 (first8 x121) 4))) (b := enc8 x385) (v := .bool (decide ((accHi8 (shr8 (first8 x121) 4)) < x385))) rfl rfl bin_lss_u8) ?_
                refine WA.norm (listed' := #[true, true, true, true, true, true, true, true, true, true, true, true, true, true, true, true, true, true, false, false, false, false, false, false, false, false, false, false, false, false, false, false, false, false, false, false, false, false, false, false, false, false, false]) (by kernel_rfl) ?_
                refine WA.ex 18 rfl (by kernel_rfl) (by kernel_rfl) (by kernel_rfl) rfl ⟨_, sR⟩ (fun w_ hS_ => ex_pick_f (v := .bool (decide ((accHi8 (shr8 (first8 x121) 4)) < x385))) ((show _ = Value.bool (decide (x377 < (accLo8 (shr8 (first8 x121) 4)))) from rfl).trans (congrArg Value.bool c384)) rfl) ?_
                refine WA.norm (listed' := #[true, true, true, true, true, true, true, true, true, true, true, true, true, true, true, true, true, true, true, false, false, false, false, false, false, false, false, false, false, false, false, false, false, false, false, false, false, false, false, false, false, false, false]) (by kernel_rfl) ?_
                refine WA.ex 19 rfl (by kernel_rfl) (by kernel_rfl) (by kernel_rfl) rfl ⟨_, sR⟩ (fun w_ hS_ => ex_move (v := .bool (decide ((accHi8 (shr8 (first8 x121) 4)) < x385))) rfl) ?_
                refine WA.norm (listed' := #[true, true, true, true, true, true, true, true, true, true, true, true, true, true, true, true, true, true, true, true, false, false, false, false, false, false, false, false, false, false, false, false, false, false, false, false, false, false, false, false, false, false, false]) (by kernel_rfl) ?_
                rcases condE H with ⟨c392, H⟩ | ⟨c392, H⟩
                ·
                  refine WA.takeNo 20 rfl (by kernel_rfl) (by kernel_rfl) (by kernel_rfl) rfl rfl rfl ((show _ = Value.bool (decide ((accHi8 (shr8 (first8 x121) 4)) < x385)) from rfl).trans (congrArg Value.bool c392)) ⟨_, sR⟩ ?_
                  refine WA.norm (listed' := #[true, true, true, true, true, true, true, true, true, true, true, true, true, true, true, true, true, true, true, true, true, false, false, false, false, false, false, false, false, false, false, false, false, false, false, false, false, false, false, false, false, false, false]) (by kernel_rfl) ?_
                  refine WA.takeNo 21 rfl (by kernel_rfl) (by kernel_rfl) (by kernel_rfl) rfl rfl rfl ((show _ = Value.bool (decide ((accHi8 (shr8 (first8 x121) 4)) < x385)) from rfl).trans (congrArg Value.bool c392)) ⟨_, sR⟩ ?_
                  refine WA.norm (listed' := #[true, true, true, true, true, true, true, true, true, true, true, true, true, true, true, true, true, true, true, true, true, true, false, false, false, false, false, false, false, false, false, false, false, false, false, false, false, false, false, false, false, false, false]) (by kernel_rfl) ?_
                  refine WA.takeNo 22 rfl (by kernel_rfl) (by kernel_rfl) (by kernel_rfl) rfl rfl rfl ((show _ = Value.bool (decide ((accHi8 (shr8 (first8 x121) 4)) < x385)) from rfl).trans (congrArg Value.bool c392)) ⟨_, sR⟩ ?_
                  refine WA.norm (listed' := #[true, true, true, true, true, true, true, true, true, true, true, true, true, true, true, true, true, true, true, true, true, true, true, false, false, false, false, false, false, false, false, false, false, false, false, false, false, false, false, false, false, false, false]) (by kernel_rfl) ?_
                  refine WA.takeNo 23 rfl (by kernel_rfl) (by kernel_rfl) (by kernel_rfl) rfl rfl rfl ((show _ = Value.bool (decide ((accHi8 (shr8 (first8 x121) 4)) < x385)) from rfl).trans (congrArg Value.bool c392)) ⟨_, sR⟩ ?_
                  refine WA.norm (listed' := #[true, true, true, true, true, true, true, true, true, true, true, true, true, true, true, true, true, true, true, true, true, true, true, true, false, false, false, false, false, false, false, false, false, false, false, false, false, false, false, false, false, false, false]) (by kernel_rfl) ?_
                  refine WA.ex 24 rfl (by kernel_rfl) (by kernel_rfl) (by kernel_rfl) rfl ⟨_, sR⟩ (fun w_ hS_ => ex_pick_t (v := .bool true) ((show _ = Value.bool (decide ((accHi8 (shr8 (first8 x121) 4)) < x385)) from rfl).trans (congrArg Value.bool c392)) rfl) ?_
                  refine WA.norm (listed' := #[true, true, true, true, true, true, true, true, true, true, true, true, true, true, true, true, true, true, true, true, true, true, true, true, true, false, false, false, false, false, false, false, false, false, false, false, false, false, false, false, false, false, false]) (by kernel_rfl) ?_
                  refine WA.ex 25 rfl (by kernel_rfl) (by kernel_rfl) (by kernel_rfl) rfl ⟨_, sR⟩ (fun w_ hS_ => ex_move (v := .bool true) rfl) ?_
                  refine WA.norm (listed' := #[true, true, true, true, true, true, true, true, true, true, true, true, true, true, true, true, true, true, true, true, true, true, true, true, true, true, false, false, false, false, false, false, false, false, false, false, false, false, false, false, false, false, false]) (by kernel_rfl) ?_
                  refine WA.takeNo 26 rfl (by kernel_rfl) (by kernel_rfl) (by kernel_rfl) rfl rfl rfl rfl ⟨_, sR⟩ ?_
                  refine WA.norm (listed' := #[true, true, true, true, true, true, true, true, true, true, true, true, true, true, true, true, true, true, true, true, true, true, true, true, true, true, true, false, false, false, false, false, false, false, false, false, false, false, false, false, false, false, false]) (by kernel_rfl) ?_
                  refine WA.takeNo 27 rfl (by kernel_rfl) (by kernel_rfl) (by kernel_rfl) rfl rfl rfl rfl ⟨_, sR⟩ ?_
                  refine WA.norm (listed' := #[true, true, true, true, true, true, true, true, true, true, true, true, true, true, true, true, true, true, true, true, true, true, true, true, true, true, true, true, false, false, false, false, false, false, false, false, false, false, false, false, false, false, false]) (by kernel_rfl) ?_
                  refine WA.takeNo 28 rfl (by kernel_rfl) (by kernel_rfl) (by kernel_rfl) rfl rfl rfl rfl ⟨_, sR⟩ ?_
                  refine WA.norm (listed' := #[true, true, true, true, true, true, true, true, true, true, true, true, true, true, true, true, true, true, true, true, true, true, true, true, true, true, true, true, true, false, false, false, false, false, false, false, false, false, false, false, false, false, false]) (by kernel_rfl) ?_
                  refine WA.takeNo 29 rfl (by kernel_rfl) (by kernel_rfl) (by kernel_rfl) rfl rfl rfl rfl ⟨_, sR⟩ ?_
                  refine WA.norm (listed' := #[true, true, true, true, true, true, true, true, true, true, true, true, true, true, true, true, true, true, true, true, true, true, true, true, true, true, true, true, true, true, false, false, false, false, false, false, false, false, false, false, false, false, false]) (by kernel_rfl) ?_
                  refine WA.ex 30 rfl (by kernel_rfl) (by kernel_rfl) (by kernel_rfl) rfl ⟨_, sR⟩ (fun w_ hS_ => ex_pick_t (v := .bool true) rfl rfl) ?_
                  refine WA.norm (listed' := #[true, true, true, true, true, true, true, true, true, true, true, true, true, true, true, true, true, true, true, true, true, true, true, true, true, true, true, true, true, true, true, false, false, false, false, false, false, false, false, false, false, false, false]) (by kernel_rfl) ?_
                  refine WA.ex 31 rfl (by kernel_rfl) (by kernel_rfl) (by kernel_rfl) rfl ⟨_, sR⟩ (fun w_ hS_ => ex_move (v := .bool true) rfl) ?_
                  refine WA.norm (listed' := #[true, true, true, true, true, true, true, true, true, true, true, true, true, true, true, true, true, true, true, true, true, true, true, true, true, true, true, true, true, true, true, true, false, false, false, false, false, false, false, false, false, false, false]) (by kernel_rfl) ?_
                  refine WA.takeNo 32 rfl (by kernel_rfl) (by kernel_rfl) (by kernel_rfl) rfl rfl rfl rfl ⟨_, sR⟩ ?_
                  refine WA.norm (listed' := #[true, true, true, true, true, true, true, true, true, true, true, true, true, true, true, true, true, true, true, true, true, true, true, true, true, true, true, true, true, true, true, true, true, false, false, false, false, false, false, false, false, false, false]) (by kernel_rfl) ?_
                  refine WA.takeNo 33 rfl (by kernel_rfl) (by kernel_rfl) (by kernel_rfl) rfl rfl rfl rfl ⟨_, sR⟩ ?_
                  refine WA.norm (listed' := #[true, true, true, true, true, true, true, true, true, true, true, true, true, true, true, true, true, true, true, true, true, true, true, true, true, true, true, true, true, true, true, true, true, true, false, false, false, false, false, false, false, false, false]) (by kernel_rfl) ?_
                  refine WA.takeNo 34 rfl (by kernel_rfl) (by kernel_rfl) (by kernel_rfl) rfl rfl rfl rfl ⟨_, sR⟩ ?_
                  refine WA.norm (listed' := #[true, true, true, true, true, true, true, true, true, true, true, true, true, true, true, true, true, true, true, true, true, true, true, true, true, true, true, true, true, true, true, true, true, true, true, false, false, false, false, false, false, false, false]) (by kernel_rfl) ?_
                  refine WA.takeNo 35 rfl (by kernel_rfl) (by kernel_rfl) (by kernel_rfl) rfl rfl rfl rfl ⟨_, sR⟩ ?_
                  refine WA.norm (listed' := #[true, true, true, true, true, true, true, true, true, true, true, true, true, true, true, true, true, true, true, true, true, true, true, true, true, true, true, true, true, true, true, true, true, true, true, true, false, false, false, false, false, false, false]) (by kernel_rfl) ?_
                  refine WA.ex 36 rfl (by kernel_rfl) (by kernel_rfl) (by kernel_rfl) rfl ⟨_, sR⟩ (fun w_ hS_ => ex_pick_t (v := .bool true) rfl rfl) ?_
                  refine WA.norm (listed' := #[true, true, true, true, true, true, true, true, true, true, true, true, true, true, true, true, true, true, true, true, true, true, true, true, true, true, true, true, true, true, true, true, true, true, true, true, true, false, false, false, false, false, false]) (by kernel_rfl) ?_
                  refine WA.ex 37 rfl (by kernel_rfl) (by kernel_rfl) (by kernel_rfl) rfl ⟨_, sR⟩ (fun w_ hS_ => ex_move (v := .bool true) rfl) ?_
                  refine WA.norm (listed' := #[true, true, true, true, true, true, true, true, true, true, true, true, true, true, true, true, true, true, true, true, true, true, true, true, true, true, true, true, true, true, true, true, true, true, true, true, true, true, false, false, false, false, false]) (by kernel_rfl) ?_
                  refine WA.takeNo 38 rfl (by kernel_rfl) (by kernel_rfl) (by kernel_rfl) rfl rfl rfl rfl ⟨_, sR⟩ ?_
                  refine WA.norm (listed' := #[true, true, true, true, true, true, true, true, true, true, true, true, true, true, true, true, true, true, true, true, true, true, true, true, true, true, true, true, true, true, true, true, true, true, true, true, true, true, true, false, false, false, false]) (by kernel_rfl) ?_
                  refine WA.takeNo 39 rfl (by kernel_rfl) (by kernel_rfl) (by kernel_rfl) rfl rfl rfl rfl ⟨_, sR⟩ ?_
                  refine WA.norm (listed' := #[true, true, true, true, true, true, true, true, true, true, true, true, true, true, true, true, true, true, true, true, true, true, true, true, true, true, true, true, true, true, true, true, true, true, true, true, true, true, true, true, false, false, false]) (by kernel_rfl) ?_
                  refine WA.takeNo 40 rfl (by kernel_rfl) (by kernel_rfl) (by kernel_rfl) rfl rfl rfl rfl ⟨_, sR⟩ ?_
                  refine WA.norm (listed' := #[true, true, true, true, true, true, true, true, true, true, true, true, true, true, true, true, true, true, true, true, true, true, true, true, true, true, true, true, true, true, true, true, true, true, true, true, true, true, true, true, true, false, false]) (by kernel_rfl) ?_
                  refine WA.takeNo 41 rfl (by kernel_rfl) (by kernel_rfl) (by kernel_rfl) rfl rfl rfl rfl ⟨_, sR⟩ ?_
                  refine WA.norm (listed' := #[true, true, true, true, true, true, true, true, true, true, true, true, true, true, true, true, true, true, true, true, true, true, true, true, true, true, true, true, true, true, true, true, true, true, true, true, true, true, true, true, true, true, false]) (by kernel_rfl) ?_
                  refine WA.ex 42 rfl (by kernel_rfl) (by kernel_rfl) (by kernel_rfl) rfl ⟨_, sR⟩ (fun w_ hS_ => ex_pick_t (v := .bool true) rfl rfl) ?_
                  refine WA.norm (listed' := #[true, true, true, true, true, true, true, true, true, true, true, true, true, true, true, true, true, true, true, true, true, true, true, true, true, true, true, true, true, true, true, true, true, true, true, true, true, true, true, true, true, true, true]) (by kernel_rfl) ?_
                  refine WA.done (by kernel_rfl) ?_
                  obtain rfl := Option.some.inj H
                  exact ⟨_, HF, hr110, hl111, hG, s0_112, s2_112, rfl⟩
                ·
                  refine WA.exYes (i := 20) rfl (by kernel_rfl) (by kernel_rfl) (by kernel_rfl) rfl rfl rfl ((show _ = Value.bool (decide ((accHi8 (shr8 (first8 x121) 4)) < x385)) from rfl).trans (congrArg Value.bool c392)) ⟨_, sR⟩ (fun w_ hS_ => ex_move (v := .slice A108 x112.length c109) s0_112) ?_
                  refine WA.norm (listed' := #[true, true, true, true, true, true, true, true, true, true, true, true, true, true, true, true, true, true, true, true, true, false, false, false, false, false, false, false, false, false, false, false, false, false, false, false, false, false, false, false, false, false, false]) (by kernel_rfl) ?_
                  obtain ⟨x393, hx393, H⟩ := bindE H
                  obtain ⟨ad394, e395, g396, g397, cell398⟩ := Row.ixS hr110D hx393
                  have hk399 := Row.at hr110D e395 hx393 ((2 : Int).toNat * 1)
                  replace cell398 := held_cell (Step.refl _ _ _) ⟨_, sR⟩ hk399 rfl cell398
                  refine WA.exYes (i := 21) rfl (by kernel_rfl) (by kernel_rfl) (by kernel_rfl) rfl rfl rfl ((show _ = Value.bool (decide ((accHi8 (shr8 (first8 x121) 4)) < x385)) from rfl).trans (congrArg Value.bool c392)) ⟨_, sR⟩ (fun w_ hS_ => ex_indexAddr (i := (2 : Int)) rfl e395 rfl Tryd.underlying24 sz5 g396 g397) ?_
                  refine WA.norm (listed' := #[true, true, true, true, true, true, true, true, true, true, true, true, true, true, true, true, true, true, true, true, true, true, false, false, false, false, false, false, false, false, false, false, false, false, false, false, false, false, false, false, false, false, false]) (by kernel_rfl) ?_
                  refine WA.exYes (i := 22) rfl (by kernel_rfl) (by kernel_rfl) (by kernel_rfl) rfl rfl rfl ((show _ = Value.bool (decide ((accHi8 (shr8 (first8 x121) 4)) < x385)) from rfl).trans (congrArg Value.bool c392)) ⟨_, sR⟩ (fun w_ hS_ => ex_load1 (v := enc8 x393) rfl Tryd.underlying5 rfl (held_cell sR hS_ hk399 rfl cell398)) ?_
                  refine WA.norm (listed' := #[true, true, true, true, true, true, true, true, true, true, true, true, true, true, true, true, true, true, true, true, true, true, true, false, false, false, false, false, false, false, false, false, false, false, false, false, false, false, false, false, false, false, false]) (by kernel_rfl) ?_
                  refine WA.exYes (i := 23) rfl (by kernel_rfl) (by kernel_rfl) (by kernel_rfl) rfl rfl rfl ((show _ = Value.bool (decide ((accHi8 (shr8 (first8 x121) 4)) < x385)) from rfl).trans (congrArg Value.bool c392)) ⟨_, sR⟩ (fun w_ hS_ => ex_bin (a := enc8 x393) (b := enc8 (128 : UInt8)) (v := .bool (decide (x393 < (128 : UInt8)))) rfl rfl bin_lss_u8) ?_
                  refine WA.norm (listed' := #[true, true, true, true, true, true, true, true, true, true, true, true, true, true, true, true, true, true, true, true, true, true, true, true, false, false, false, false, false, false, false, false, false, false, false, false, false, false, false, false, false, false, false]) (by kernel_rfl) ?_
                  refine WA.ex 24 rfl (by kernel_rfl) (by kernel_rfl) (by kernel_rfl) rfl ⟨_, sR⟩ (fun w_ hS_ => ex_pick_f (v := .bool (decide (x393 < (128 : UInt8)))) ((show _ = Value.bool (decide ((accHi8 (shr8 (first8 x121) 4)) < x385)) from rfl).trans (congrArg Value.bool c392)) rfl) ?_
                  refine WA.norm (listed' := #[true, true, true, true, true, true, true, true, true, true, true, true, true, true, true, true, true, true, true, true, true, true, true, true, true, false, false, false, false, false, false, false, false, false, false, false, false, false, false, false, false, false, false]) (by kernel_rfl) ?_
                  refine WA.ex 25 rfl (by kernel_rfl) (by kernel_rfl) (by kernel_rfl) rfl ⟨_, sR⟩ (fun w_ hS_ => ex_move (v := .bool (decide (x393 < (128 : UInt8)))) rfl) ?_
                  refine WA.norm (listed' := #[true, true, true, true, true, true, true, true, true, true, true, true, true, true, true, true, true, true, true, true, true, true, true, true, true, true, false, false, false, false, false, false, false, false, false, false, false, false, false, false, false, false, false]) (by kernel_rfl) ?_
                  rcases condE H with ⟨c400, H⟩ | ⟨c400, H⟩
                  ·
                    refine WA.takeNo 26 rfl (by kernel_rfl) (by kernel_rfl) (by kernel_rfl) rfl rfl rfl ((show _ = Value.bool (decide (x393 < (128 : UInt8))) from rfl).trans (congrArg Value.bool c400)) ⟨_, sR⟩ ?_
                    refine WA.norm (listed' := #[true, true, true, true, true, true, true, true, true, true, true, true, true, true, true, true, true, true, true, true, true, true, true, true, true, true, true, false, false, false, false, false, false, false, false, false, false, false, false, false, false, false, false]) (by kernel_rfl) ?_
                    refine WA.takeNo 27 rfl (by kernel_rfl) (by kernel_rfl) (by kernel_rfl) rfl rfl rfl ((show _ = Value.bool (decide (x393 < (128 : UInt8))) from rfl).trans (congrArg Value.bool c400)) ⟨_, sR⟩ ?_
                    refine WA.norm (listed' := #[true, true, true, true, true, true, true, true, true, true, true, true, true, true, true, true, true, true, true, true, true, true, true, true, true, true, true, true, false, false, false, false, false, false, false, false, false, false, false, false, false, false, false]) (by kernel_rfl) ?_
                    refine WA.takeNo 28 rfl (by kernel_rfl) (by kernel_rfl) (by kernel_rfl) rfl rfl rfl ((show _ = Value.bool (decide (x393 < (128 : UInt8))) from rfl).trans (congrArg Value.bool c400)) ⟨_, sR⟩ ?_
                    refine WA.norm (listed' := #[true, true, true, true, true, true, true, true, true, true, true, true, true, true, true, true, true, true, true, true, true, true, true, true, true, true, true, true, true, false, false, false, false, false, false, false, false, false, false, false, false, false, false]) (by kernel_rfl) ?_
                    refine WA.takeNo 29 rfl (by kernel_rfl) (by kernel_rfl) (by kernel_rfl) rfl rfl rfl ((show _ = Value.bool (decide (x393 < (128 : UInt8))) from rfl).trans (congrArg Value.bool c400)) ⟨_, sR⟩ ?_
                    refine WA.norm (listed' := #[true, true, true, true, true, true, true, true, true, true, true, true, true, true, true, true, true, true, true, true, true, true, true, true, true, true, true, true, true, true, false, false, false, false, false, false, false, false, false, false, false, false, false]) (by kernel_rfl) ?_
                    refine WA.ex 30 rfl (by kernel_rfl) (by kernel_rfl) (by kernel_rfl) rfl ⟨_, sR⟩ (fun w_ hS_ => ex_pick_t (v := .bool true) ((show _ = Value.bool (decide (x393 < (128 : UInt8))) from rfl).trans (congrArg Value.bool c400)) rfl) ?_
                    refine WA.norm (listed' := #[true, true, true, true, true, true, true, true, true, true, true, true, true, true, true, true, true, true, true, true, true, true, true, true, true, true, true, true, true, true, true, false, false, false, false, false, false, false, false, false, false, false, false]) (by kernel_rfl) ?_
                    refine WA.ex 31 rfl (by kernel_rfl) (by kernel_rfl) (by kernel_rfl) rfl ⟨_, sR⟩ (fun w_ hS_ => ex_move (v := .bool true) rfl) ?_
                    refine WA.norm (listed' := #[true, true, true, true, true, true, true, true, true, true, true, true, true, true, true, true, true, true, true, true, true, true, true, true, true, true, true, true, true, true, true, true, false, false, false, false, false, false, false, false, false, false, false]) (by kernel_rfl) ?_
                    refine WA.takeNo 32 rfl (by kernel_rfl) (by kernel_rfl) (by kernel_rfl) rfl rfl rfl rfl ⟨_, sR⟩ ?_
                    refine WA.norm (listed' := #[true, true, true, true, true, true, true, true, true, true, true, true, true, true, true, true, true, true, true, true, true, true, true, true, true, true, true, true, true, true, true, true, true, false, false, false, false, false, false, false, false, false, false]) (by kernel_rfl) ?_
                    refine WA.takeNo 33 rfl (by kernel_rfl) (by kernel_rfl) (by kernel_rfl) rfl rfl rfl rfl ⟨_, sR⟩ ?_
                    refine WA.norm (listed' := #[true, true, true, true, true, true, true, true, true, true, true, true, true, true, true, true, true, true, true, true, true, true, true, true, true, true, true, true, true, true, true, true, true, true, false, false, false, false, false, false, false, false, false]) (by kernel_rfl) ?_
                    refine WA.takeNo 34 rfl (by kernel_rfl) (by kernel_rfl) (by kernel_rfl) rfl rfl rfl rfl ⟨_, sR⟩ ?_
                    refine WA.norm (listed' := #[true, true, true, true, true, true, true, true, true, true, true, true, true, true, true, true, true, true, true, true, true, true, true, true, true, true, true, true, true, true, true, true, true, true, true, false, false, false, false, false, false, false, false]) (by kernel_rfl) ?_
                    refine WA.takeNo 35 rfl (by kernel_rfl) (by kernel_rfl) (by kernel_rfl) rfl rfl rfl rfl ⟨_, sR⟩ ?_
                    refine WA.norm (listed' := #[true, true, true, true, true, true, true, true, true, true, true, true, true, true, true, true, true, true, true, true, true, true, true, true, true, true, true, true, true, true, true, true, true, true, true, true, false, false, false, false, false, false, false]) (by kernel_rfl) ?_
                    refine WA.ex 36 rfl (by kernel_rfl) (by kernel_rfl) (by kernel_rfl) rfl ⟨_, sR⟩ (fun w_ hS_ => ex_pick_t (v := .bool true) rfl rfl) ?_
                    refine WA.norm (listed' := #[true, true, true, true, true, true, true, true, true, true, true, true, true, true, true, true, true, true, true, true, true, true, true, true, true, true, true, true, true, true, true, true, true, true, true, true, true, false, false, false, false, false, false]) (by kernel_rfl) ?_
                    refine WA.ex 37 rfl (by kernel_rfl) (by kernel_rfl) (by kernel_rfl) rfl ⟨_, sR⟩ (fun w_ hS_ => ex_move (v := .bool true) rfl) ?_
                    refine WA.norm (listed' := #[true, true, true, true, true, true, true, true, true, true, true, true, true, true, true, true, true, true, true, true, true, true, true, true, true, true, true, true, true, true, true, true, true, true, true, true, true, true, false, false, false, false, false]) (by kernel_rfl) ?_
                    refine WA.takeNo 38 rfl (by kernel_rfl) (by kernel_rfl) (by kernel_rfl) rfl rfl rfl rfl ⟨_, sR⟩ ?_
                    refine WA.norm (listed' := #[true, true, true, true, true, true, true, true, true, true, true, true, true, true, true, true, true, true, true, true, true, true, true, true, true, true, true, true, true, true, true, true, true, true, true, true, true, true, true, false, false, false, false]) (by kernel_rfl) ?_
                    refine WA.takeNo 39 rfl (by kernel_rfl) (by kernel_rfl) (by kernel_rfl) rfl rfl rfl rfl ⟨_, sR⟩ ?_
                    refine WA.norm (listed' := #[true, true, true, true, true, true, true, true, true, true, true, true, true, true, true, true, true, true, true, true, true, true, true, true, true, true, true, true, true, true, true, true, true, true, true, true, true, true, true, true, false, false, false]) (by kernel_rfl) ?_
                    refine WA.takeNo 40 rfl (by kernel_rfl) (by kernel_rfl) (by kernel_rfl) rfl rfl rfl rfl ⟨_, sR⟩ ?_
                    refine WA.norm (listed' := #[true, true, true, true, true, true, true, true, true, true, true, true, true, true, true, true, true, true, true, true, true, true, true, true, true, true, true, true, true, true, true, true, true, true, true, true, true, true, true, true, true, false, false]) (by kernel_rfl) ?_
                    refine WA.takeNo 41 rfl (by kernel_rfl) (by kernel_rfl) (by kernel_rfl) rfl rfl rfl rfl ⟨_, sR⟩ ?_
                    refine WA.norm (listed' := #[true, true, true, true, true, true, true, true, true, true, true, true, true, true, true, true, true, true, true, true, true, true, true, true, true, true, true, true, true, true, true, true, true, true, true, true, true, true, true, true, true, true, false]) (by kernel_rfl) ?_
                    refine WA.ex 42 rfl (by kernel_rfl) (by kernel_rfl) (by kernel_rfl) rfl ⟨_, sR⟩ (fun w_ hS_ => ex_pick_t (v := .bool true) rfl rfl) ?_
                    refine WA.norm (listed' := #[true, true, true, true, true, true, true, true, true, true, true, true, true, true, true, true, true, true, true, true, true, true, true, true, true, true, true, true, true, true, true, true, true, true, true, true, true, true, true, true, true, true, true]) (by kernel_rfl) ?_
                    refine WA.done (by kernel_rfl) ?_
                    obtain rfl := Option.some.inj H
                    exact ⟨_, HF, hr110, hl111, hG, s0_112, s2_112, rfl⟩
                  ·
                    refine WA.exYes (i := 26) rfl (by kernel_rfl) (by kernel_rfl) (by kernel_rfl) rfl rfl rfl ((show _ = Value.bool (decide (x393 < (128 : UInt8))) from rfl).trans (congrArg Value.bool c400)) ⟨_, sR⟩ (fun w_ hS_ => ex_move (v := .slice A108 x112.length c109) s0_112) ?_
                    refine WA.norm (listed' := #[true, true, true, true, true, true, true, true, true, true, true, true, true, true, true, true, true, true, true, true, true, true, true, true, true, true, true, false, false, false, false, false, false, false, false, false, false, false, false, false, false, false, false]) (by kernel_rfl) ?_
                    obtain ⟨x401, hx401, H⟩ := bindE H
                    obtain ⟨ad402, e403, g404, g405, cell406⟩ := Row.ixS hr110D hx401
                    have hk407 := Row.at hr110D e403 hx401 ((2 : Int).toNat * 1)
                    replace cell406 := held_cell (Step.refl _ _ _) ⟨_, sR⟩ hk407 rfl cell406
                    refine WA.exYes (i := 27) rfl (by kernel_rfl) (by kernel_rfl) (by kernel_rfl) rfl rfl rfl ((show _ = Value.bool (decide (x393 < (128 : UInt8))) from rfl).trans (congrArg Value.bool c400)) ⟨_, sR⟩ (fun w_ hS_ => ex_indexAddr (i := (2 : Int)) rfl e403 rfl Tryd.underlying24 sz5 g404 g405) ?_
                    refine WA.norm (listed' := #[true, true, true, true, true, true, true, true, true, true, true, true, true, true, true, true, true, true, true, true, true, true, true, true, true, true, true, true, false, false, false, false, false, false, false, false, false, false, false, false, false, false, false]) (by kernel_rfl) ?_
                    refine WA.exYes (i := 28) rfl (by kernel_rfl) (by kernel_rfl) (by kernel_rfl) rfl rfl rfl ((show _ = Value.bool (decide (x393 < (128 : UInt8))) from rfl).trans (congrArg Value.bool c400)) ⟨_, sR⟩ (fun w_ hS_ => ex_load1 (v := enc8 x401) rfl Tryd.underlying5 rfl (held_cell sR hS_ hk407 rfl cell406)) ?_
                    refine WA.norm (listed' := #[true, true, true, true, true, true, true, true, true, true, true, true, true, true, true, true, true, true, true, true, true, true, true, true, true, true, true, true, true, false, false, false, false, false, false, false, false, false, false, false, false, false, false]) (by kernel_rfl) ?_
                    refine WA.exYes (i := 29) rfl (by kernel_rfl) (by kernel_rfl) (by kernel_rfl) rfl rfl rfl ((show _ = Value.bool (decide (x393 < (128 : UInt8))) from rfl).trans (congrArg Value.bool c400)) ⟨_, sR⟩ (fun w_ hS_ => ex_bin (a := enc8 (191 : UInt8)) (b := enc8 x401) (v := .bool (decide ((191 : UInt8) < x401))) rfl rfl bin_lss_u8) ?_
                    refine WA.norm (listed' := #[true, true, true, true, true, true, true, true, true, true, true, true, true, true, true, true, true, true, true, true, true, true, true, true, true, true, true, true, true, true, false, false, false, false, false, false, false, false, false, false, false, false, false]) (by kernel_rfl) ?_
                    refine WA.ex 30 rfl (by kernel_rfl) (by kernel_rfl) (by kernel_rfl) rfl ⟨_, sR⟩ (fun w_ hS_ => ex_pick_f (v := .bool (decide ((191 : UInt8) < x401))) ((show _ = Value.bool (decide (x393 < (128 : UInt8))) from rfl).trans (congrArg Value.bool c400)) rfl) ?_
                    refine WA.norm (listed' := #[true, true, true, true, true, true, true, true, true, true, true, true, true, true, true, true, true, true, true, true, true, true, true, true, true, true, true, true, true, true, true, false, false, false, false, false, false, false, false, false, false, false, false]) (by kernel_rfl) ?_
                    refine WA.ex 31 rfl (by kernel_rfl) (by kernel_rfl) (by kernel_rfl) rfl ⟨_, sR⟩ (fun w_ hS_ => ex_move (v := .bool (decide ((191 : UInt8) < x401))) rfl) ?_
                    refine WA.norm (listed' := #[true, true, true, true, true, true, true, true, true, true, true, true, true, true, true, true, true, true, true, true, true, true, true, true, true, true, true, true, true, true, true, true, false, false, false, false, false, false, false, false, false, false, false]) (by kernel_rfl) ?_
                    rcases condE H with ⟨c408, H⟩ | ⟨c408, H⟩
                    ·
                      refine WA.takeNo 32 rfl (by kernel_rfl) (by kernel_rfl) (by kernel_rfl) rfl rfl rfl ((show _ = Value.bool (decide ((191 : UInt8) < x401)) from rfl).trans (congrArg Value.bool c408)) ⟨_, sR⟩ ?_
                      refine WA.norm (listed' := #[true, true, true, true, true, true, true, true, true, true, true, true, true, true, true, true, true, true, true, true, true, true, true, true, true, true, true, true, true, true, true, true, true, false, false, false, false, false, false, false, false, false, false]) (by kernel_rfl) ?_
                      refine WA.takeNo 33 rfl (by kernel_rfl) (by kernel_rfl) (by kernel_rfl) rfl rfl rfl ((show _ = Value.bool (decide ((191 : UInt8) < x401)) from rfl).trans (congrArg Value.bool c408)) ⟨_, sR⟩ ?_
                      refine WA.norm (listed' := #[true, true, true, true, true, true, true, true, true, true, true, true, true, true, true, true, true, true, true, true, true, true, true, true, true, true, true, true, true, true, true, true, true, true, false, false, false, false, false, false, false, false, false]) (by kernel_rfl) ?_
                      refine WA.takeNo 34 rfl (by kernel_rfl) (by kernel_rfl) (by kernel_rfl) rfl rfl rfl ((show _ = Value.bool (decide ((191 : UInt8) < x401)) from rfl).trans (congrArg Value.bool c408)) ⟨_, sR⟩ ?_
                      refine WA.norm (listed' := #[true, true, true, true, true, true, true, true, true, true, true, true, true, true, true, true, true, true, true, true, true, true, true, true, true, true, true, true, true, true, true, true, true, true, true, false, false, false, false, false, false, false, false]) (by kernel_rfl) ?_
                      refine WA.takeNo 35 rfl (by kernel_rfl) (by kernel_rfl) (by kernel_rfl) rfl rfl rfl ((show _ = Value.bool (decide ((191 : UInt8) < x401)) from rfl).trans (congrArg Value.bool c408)) ⟨_, sR⟩ ?_
                      refine WA.norm (listed' := #[true, true, true, true, true, true, true, true, true, true, true, true, true, true, true, true, true, true, true, true, true, true, true, true, true, true, true, true, true, true, true, true, true, true, true, true, false, false, false, false, false, false, false]) (by kernel_rfl) ?_
                      refine WA.ex 36 rfl (by kernel_rfl) (by kernel_rfl) (by kernel_rfl) rfl ⟨_, sR⟩ (fun w_ hS_ => ex_pick_t (v := .bool true) ((show _ = Value.bool (decide ((191 : UInt8) < x401)) from rfl).trans (congrArg Value.bool c408)) rfl) ?_
                      refine WA.norm (listed' := #[true, true, true, true, true, true, true, true, true, true, true, true, true, true, true, true, true, true, true, true, true, true, true, true, true, true, true, true, true, true, true, true, true, true, true, true, true, false, false, false, false, false, false]) (by kernel_rfl) ?_
                      refine WA.ex 37 rfl (by kernel_rfl) (by kernel_rfl) (by kernel_rfl) rfl ⟨_, sR⟩ (fun w_ hS_ => ex_move (v := .bool true) rfl) ?_
                      refine WA.norm (listed' := #[true, true, true, true, true, true, true, true, true, true, true, true, true, true, true, true, true, true, true, true, true, true, true, true, true, true, true, true, true, true, true, true, true, true, true, true, true, true, false, false, false, false, false]) (by kernel_rfl) ?_
                      refine WA.takeNo 38 rfl (by kernel_rfl) (by kernel_rfl) (by kernel_rfl) rfl rfl rfl rfl ⟨_, sR⟩ ?_
                      refine WA.norm (listed' := #[true, true, true, true, true, true, true, true, true, true, true, true, true, true, true, true, true, true, true, true, true, true, true, true, true, true, true, true, true, true, true, true, true, true, true, true, true, true, true, false, false, false, false]) (by kernel_rfl) ?_
                      refine WA.takeNo 39 rfl (by kernel_rfl) (by kernel_rfl) (by kernel_rfl) rfl rfl rfl rfl ⟨_, sR⟩ ?_
                      refine WA.norm (listed' := #[true, true, true, true, true, true, true, true, true, true, true, true, true, true, true, true, true, true, true, true, true, true, true, true, true, true, true, true, true, true, true, true, true, true, true, true, true, true, true, true, false, false, false]) (by kernel_rfl) ?_
                      refine WA.takeNo 40 rfl (by kernel_rfl) (by kernel_rfl) (by kernel_rfl) rfl rfl rfl rfl ⟨_, sR⟩ ?_
                      refine WA.norm (listed' := #[true, true, true, true, true, true, true, true, true, true, true, true, true, true, true, true, true, true, true, true, true, true, true, true, true, true, true, true, true, true, true, true, true, true, true, true, true, true, true, true, true, false, false]) (by kernel_rfl) ?_
                      refine WA.takeNo 41 rfl (by kernel_rfl) (by kernel_rfl) (by kernel_rfl) rfl rfl rfl rfl ⟨_, sR⟩ ?_
                      refine WA.norm (listed' := #[true, true, true, true, true, true, true, true, true, true, true, true, true, true, true, true, true, true, true, true, true, true, true, true, true, true, true, true, true, true, true, true, true, true, true, true, true, true, true, true, true, true, false]) (by kernel_rfl) ?_
                      refine WA.ex 42 rfl (by kernel_rfl) (by kernel_rfl) (by kernel_rfl) rfl ⟨_, sR⟩ (fun w_ hS_ => ex_pick_t (v := .bool true) rfl rfl) ?_
                      refine WA.norm (listed' := #[true, true, true, true, true, true, true, true, true, true, true, true, true, true, true, true, true, true, true, true, true, true, true, true, true, true, true, true, true, true, true, true, true, true, true, true, true, true, true, true, true, true, true]) (by kernel_rfl) ?_
                      refine WA.done (by kernel_rfl) ?_
                      obtain rfl := Option.some.inj H
                      exact ⟨_, HF, hr110, hl111, hG, s0_112, s2_112, rfl⟩
                    ·
                      refine WA.exYes (i := 32) rfl (by kernel_rfl) (by kernel_rfl) (by kernel_rfl) rfl rfl rfl ((show _ = Value.bool (decide ((191 : UInt8) < x401)) from rfl).trans (congrArg Value.bool c408)) ⟨_, sR⟩ (fun w_ hS_ => ex_move (v := .slice A108 x112.length c109) s0_112) ?_
                      refine WA.norm (listed' := #[true, true, true, true, true, true, true, true, true, true, true, true, true, true, true, true, true, true, true, true, true, true, true, true, true, true, true, true, true, true, true, true, true, false, false, false, false, false, false, false, false, false, false]) (by kernel_rfl) ?_
                      obtain ⟨x409, hx409, H⟩ := bindE H
                      obtain ⟨ad410, e411, g412, g413, cell414⟩ := Row.ixS hr110D hx409
                      have hk415 := Row.at hr110D e411 hx409 ((3 : Int).toNat * 1)
                      replace cell414 := held_cell (Step.refl _ _ _) ⟨_, sR⟩ hk415 rfl cell414
                      refine WA.exYes (i := 33) rfl (by kernel_rfl) (by kernel_rfl) (by kernel_rfl) rfl rfl rfl ((show _ = Value.bool (decide ((191 : UInt8) < x401)) from rfl).trans (congrArg Value.bool c408)) ⟨_, sR⟩ (fun w_ hS_ => ex_indexAddr (i := (3 : Int)) rfl e411 rfl Tryd.underlying24 sz5 g412 g413) ?_
                      refine WA.norm (listed' := #[true, true, true, true, true, true, true, true, true, true, true, true, true, true, true, true, true, true, true, true, true, true, true, true, true, true, true, true, true, true, true, true, true, true, false, false, false, false, false, false, false, false, false]) (by kernel_rfl) ?_
                      refine WA.exYes (i := 34) rfl (by kernel_rfl) (by kernel_rfl) (by kernel_rfl) rfl rfl rfl ((show _ = Value.bool (decide ((191 : UInt8) < x401)) from rfl).trans (congrArg Value.bool c408)) ⟨_, sR⟩ (fun w_ hS_ => ex_load1 (v := enc8 x409) rfl Tryd.underlying5 rfl (held_cell sR hS_ hk415 rfl cell414)) ?_
                      refine WA.norm (listed' := #[true, true, true, true, true, true, true, true, true, true, true, true, true, true, true, true, true, true, true, true, true, true, true, true, true, true, true, true, true, true, true, true, true, true, true, false, false, false, false, false, false, false, false]) (by kernel_rfl) ?_
                      refine WA.exYes (i := 35) rfl (by kernel_rfl) (by kernel_rfl) (by kernel_rfl) rfl rfl rfl ((show _ = Value.bool (decide ((191 : UInt8) < x401)) from rfl).trans (congrArg Value.bool c408)) ⟨_, sR⟩ (fun w_ hS_ => ex_bin (a := enc8 x409) (b := enc8 (128 : UInt8)) (v := .bool (decide (x409 < (128 : UInt8)))) rfl rfl bin_lss_u8) ?_
                      refine WA.norm (listed' := #[true, true, true, true, true, true, true, true, true, true, true, true, true, true, true, true, true, true, true, true, true, true, true, true, true, true, true, true, true, true, true, true, true, true, true, true, false, false, false, false, false, false, false]) (by kernel_rfl) ?_
                      refine WA.ex 36 rfl (by kernel_rfl) (by kernel_rfl) (by kernel_rfl) rfl ⟨_, sR⟩ (fun w_ hS_ => ex_pick_f (v := .bool (decide (x409 < (128 : UInt8)))) ((show _ = Value.bool (decide ((191 : UInt8) < x401)) from rfl).trans (congrArg Value.bool c408)) rfl) ?_
                      refine WA.norm (listed' := #[true, true, true, true, true, true, true, true, true, true, true, true, true, true, true, true, true, true, true, true, true, true, true, true, true, true, true, true, true, true, true, true, true, true, true, true, true, false, false, false, false, false, false]) (by kernel_rfl) ?_
                      refine WA.ex 37 rfl (by kernel_rfl) (by kernel_rfl) (by kernel_rfl) rfl ⟨_, sR⟩ (fun w_ hS_ => ex_move (v := .bool (decide (x409 < (128 : UInt8)))) rfl) ?_
                      refine WA.norm (listed' := #[true, true, true, true, true, true, true, true, true, true, true, true, true, true, true, true, true, true, true, true, true, true, true, true, true, true, true, true, true, true, true, true, true, true, true, true, true, true, false, false, false, false, false]) (by kernel_rfl) ?_
                      rcases condE H with ⟨c416, H⟩ | ⟨c416, H⟩
                      ·
                        refine WA.takeNo 38 rfl (by kernel_rfl) (by kernel_rfl) (by kernel_rfl) rfl rfl rfl ((show _ = Value.bool (decide (x409 < (128 : UInt8))) from rfl).trans (congrArg Value.bool c416)) ⟨_, sR⟩ ?_
                        refine WA.norm (listed' := #[true, true, true, true, true, true, true, true, true, true, true, true, true, true, true, true, true, true, true, true, true, true, true, true, true, true, true, true, true, true, true, true, true, true, true, true, true, true, true, false, false, false, false]) (by kernel_rfl) ?_
                        refine WA.takeNo 39 rfl (by kernel_rfl) (by kernel_rfl) (by kernel_rfl) rfl rfl rfl ((show _ = Value.bool (decide (x409 < (128 : UInt8))) from rfl).trans (congrArg Value.bool c416)) ⟨_, sR⟩ ?_
                        refine WA.norm (listed' := #[true, true, true, true, true, true, true, true, true, true, true, true, true, true, true, true, true, true, true, true, true, true, true, true, true, true, true, true, true, true, true, true, true, true, true, true, true, true, true, true, false, false, false]) (by kernel_rfl) ?_
                        refine WA.takeNo 40 rfl (by kernel_rfl) (by kernel_rfl) (by kernel_rfl) rfl rfl rfl ((show _ = Value.bool (decide (x409 < (128 : UInt8))) from rfl).trans (congrArg Value.bool c416)) ⟨_, sR⟩ ?_
                        refine WA.norm (listed' := #[true, true, true, true, true, true, true, true, true, true, true, true, true, true, true, true, true, true, true, true, true, true, true, true, true, true, true, true, true, true, true, true, true, true, true, true, true, true, true, true, true, false, false]) (by kernel_rfl) ?_
                        refine WA.takeNo 41 rfl (by kernel_rfl) (by kernel_rfl) (by kernel_rfl) rfl rfl rfl ((show _ = Value.bool (decide (x409 < (128 : UInt8))) from rfl).trans (congrArg Value.bool c416)) ⟨_, sR⟩ ?_
                        refine WA.norm (listed' := #[true, true, true, true, true, true, true, true, true, true, true, true, true, true, true, true, true, true, true, true, true, true, true, true, true, true, true, true, true, true, true, true, true, true, true, true, true, true, true, true, true, true, false]) (by kernel_rfl) ?_
                        refine WA.ex 42 rfl (by kernel_rfl) (by kernel_rfl) (by kernel_rfl) rfl ⟨_, sR⟩ (fun w_ hS_ => ex_pick_t (v := .bool true) ((show _ = Value.bool (decide (x409 < (128 : UInt8))) from rfl).trans (congrArg Value.bool c416)) rfl) ?_
                        refine WA.norm (listed' := #[true, true, true, true, true, true, true, true, true, true, true, true, true, true, true, true, true, true, true, true, true, true, true, true, true, true, true, true, true, true, true, true, true, true, true, true, true, true, true, true, true, true, true]) (by kernel_rfl) ?_
                        refine WA.done (by kernel_rfl) ?_
                        obtain rfl := Option.some.inj H
                        exact ⟨_, HF, hr110, hl111, hG, s0_112, s2_112, rfl⟩
                      ·
                        refine WA.exYes (i := 38) rfl (by kernel_rfl) (by kernel_rfl) (by kernel_rfl) rfl rfl rfl ((show _ = Value.bool (decide (x409 < (128 : UInt8))) from rfl).trans (congrArg Value.bool c416)) ⟨_, sR⟩ (fun w_ hS_ => ex_move (v := .slice A108 x112.length c109) s0_112) ?_
                        refine WA.norm (listed' := #[true, true, true, true, true, true, true, true, true, true, true, true, true, true, true, true, true, true, true, true, true, true, true, true, true, true, true, true, true, true, true, true, true, true, true, true, true, true, true, false, false, false, false]) (by kernel_rfl) ?_
                        obtain ⟨x417, hx417, H⟩ := bindE H
                        obtain ⟨ad418, e419, g420, g421, cell422⟩ := Row.ixS hr110D hx417
                        have hk423 := Row.at hr110D e419 hx417 ((3 : Int).toNat * 1)
                        replace cell422 := held_cell (Step.refl _ _ _) ⟨_, sR⟩ hk423 rfl cell422
                        refine WA.exYes (i := 39) rfl (by kernel_rfl) (by kernel_rfl) (by kernel_rfl) rfl rfl rfl ((show _ = Value.bool (decide (x409 < (128 : UInt8))) from rfl).trans (congrArg Value.bool c416)) ⟨_, sR⟩ (fun w_ hS_ => ex_indexAddr (i := (3 : Int)) rfl e419 rfl Tryd.underlying24 sz5 g420 g421) ?_
                        refine WA.norm (listed' := #[true, true, true, true, true, true, true, true, true, true, true, true, true, true, true, true, true, true, true, true, true, true, true, true, true, true, true, true, true, true, true, true, true, true, true, true, true, true, true, true, false, false, false]) (by kernel_rfl) ?_
                        refine WA.exYes (i := 40) rfl (by kernel_rfl) (by kernel_rfl) (by kernel_rfl) rfl rfl rfl ((show _ = Value.bool (decide (x409 < (128 : UInt8))) from rfl).trans (congrArg Value.bool c416)) ⟨_, sR⟩ (fun w_ hS_ => ex_load1 (v := enc8 x417) rfl Tryd.underlying5 rfl (held_cell sR hS_ hk423 rfl cell422)) ?_
                        refine WA.norm (listed' := #[true, true, true, true, true, true, true, true, true, true, true, true, true, true, true, true, true, true, true, true, true, true, true, true, true, true, true, true, true, true, true, true, true, true, true, true, true, true, true, true, true, false, false]) (by kernel_rfl) ?_
                        refine WA.exYes (i := 41) rfl (by kernel_rfl) (by kernel_rfl) (by kernel_rfl) rfl rfl rfl ((show _ = Value.bool (decide (x409 < (128 : UInt8))) from rfl).trans (congrArg Value.bool c416)) ⟨_, sR⟩ (fun w_ hS_ => ex_bin (a := enc8 (191 : UInt8)) (b := enc8 x417) (v := .bool (decide ((191 : UInt8) < x417))) rfl rfl bin_lss_u8) ?_
                        refine WA.norm (listed' := #[true, true, true, true, true, true, true, true, true, true, true, true, true, true, true, true, true, true, true, true, true, true, true, true, true, true, true, true, true, true, true, true, true, true, true, true, true, true, true, true, true, true, false]) (by kernel_rfl) ?_
                        refine WA.ex 42 rfl (by kernel_rfl) (by kernel_rfl) (by kernel_rfl) rfl ⟨_, sR⟩ (fun w_ hS_ => ex_pick_f (v := .bool (decide ((191 : UInt8) < x417))) ((show _ = Value.bool (decide (x409 < (128 : UInt8))) from rfl).trans (congrArg Value.bool c416)) rfl) ?_
                        refine WA.norm (listed' := #[true, true, true, true, true, true, true, true, true, true, true, true, true, true, true, true, true, true, true, true, true, true, true, true, true, true, true, true, true, true, true, true, true, true, true, true, true, true, true, true, true, true, true]) (by kernel_rfl) ?_
                        refine WA.done (by kernel_rfl) ?_
                        obtain rfl := Option.some.inj H
                        exact ⟨_, HF, hr110, hl111, hG, s0_112, s2_112, rfl⟩
          ·
            refine WC.cond_f ((show _ = Value.bool ((((first8 x121) &&& (7 : UInt8)).toNat : Int) == 4) from rfl).trans (congrArg Value.bool c358)) ?_
            refine WC.seq ?_
            refine WC.region ?_
            refine WL.ex rfl (ex_assign (v := .bool false) rfl) ?_
            refine WL.nil ?_
            refine WC.ret ?_
            obtain rfl := Option.some.inj H
            replace H := Ho115
            dsimp only at H
            obtain rfl := Option.some.inj H
            exact ⟨_, (.tmp (.bool false : Value) rfl .nil), _, rfl, HF.out⟩
  ·
    refine WC.cond_f ((show _ = Value.bool (decide ((x112.length : Int) > 0)) from rfl).trans (congrArg Value.bool c120)) ?_
    refine WC.exit ?_
    obtain rfl := Option.some.inj H
    exact ⟨_, HF, hG, s2_112, rfl⟩
end Go.Proofs.YtaidlahjngmenaaDoor.X
