import Derived.Test.YtpmkkhkphddfeaaGreatDoorXAW0
set_option maxRecDepth 20000
set_option linter.unusedVariables false
set_option linter.unusedSimpArgs false
set_option linter.unnecessarySimpa false
namespace Go.Proofs.YtpmkkhkphddfeaaGreatDoor.X
open Go Go.RowKit Go.Proofs.YtpmkkhkphddfeaaGreatDoor.SX
def syntax_width.Spec (g_ : T_formula_Table → Int → (List (Int × Int)) → (List (T_api_Node × Int)) → Option (Int × (List (Int × Int)))) : Prop := ∀ (o0 : Tags) (w0 : World) (pb0 : Nat) (pv0_0 : Value) (pb2 : Nat) (pb0_1 : Nat) {a0 : T_formula_Table} {a1 : Int} {a2 : (List (Int × Int))} {a0_1 : (List (T_api_Node × Int))} {r : Int × (List (Int × Int))} (H : g_ a0 a1 a2 a0_1 = some r) (hO : ∀ b, b < w0.heap.size → o0 b < 40) (hB0 : Bk o0 w0 2 pb0 [pv0_0, .map (some pb0_1)] 56) (hO0_0 : Own T_api_Node.rep 60 3 o0 w0 pv0_0 a0.f_rows) (hM2 : Mp (fun n_ : Int => Value.int .i64 n_) (fun v_ : Int => ii v_) 4 o0 w0 pb2 a2) (hM0_1 : Mp (fun x_ : T_api_Node => Value.agg #[ii x_.f_Kind, encS x_.f_Name, ii x_.f_L, ii x_.f_R]) (fun v_ : Int => ii v_) 5 o0 w0 pb0_1 a0_1),
  Calls Tryz.prog 25 [pp pb0 0, ii a1, .map (some pb2)].toArray w0 fun e_ w_ => ∃ (o_ : Tags), e_ = .returned (one [ii r.1]) ∧ Step o0 w0 o_ w_ [4] ∧ Mp (fun n_ : Int => Value.int .i64 n_) (fun v_ : Int => ii v_) 4 o_ w_ pb2 r.2
structure G_syntax_width.OK (R : G_syntax_width) : Prop where
 syntax_width : syntax_width.Spec R.syntax_width
/-! ### syntax_width -/
set_option maxRecDepth 100000 in
theorem syntax_width.callsF (k : Nat) (R : G_syntax_width) (hR : G_syntax_width.OK R) : syntax_width.Spec (syntax_width.F k R) := by
 intro o0 w0 pb0 pv0_0 pb2 pb0_1 a0 a1 a2 a0_1 r H hO hB0 hO0_0 hM2 hM0_1
 have HF := Fm.refl hO [4]
 unfold syntax_width.F at H
 refine SX.calls [pp pb0 0, ii a1, .map (some pb2)] Tryz.func25 rfl rfl ?_
 rw [Tryz.ntmps25]
 refine WC.seq <|
  WC.region <|
  E rfl (sg (ii 0) rfl) <|
  WL.nil <|
  WC.seq <|
  WC.seq <|
  WC.region <|
  E rfl (mv (.map (some pb2)) rfl) <|
  E rfl (mv (ii a1) rfl) <|
  E rfl (ex_lookup2 (ek := (fun n_ : Int => Value.int .i64 n_)) (ev := (fun v_ : Int => ii v_)) (eq := (fun a_ b_ : Int => a_ == b_)) (x := a1) (z := (0 : Int)) rfl rfl U64 (keyT_int U3) hM2 zr3) <|
  E rfl (mv (.tuple #[ii ((mget (fun a_ b_ : Int => a_ == b_) a2 a1).getD (0 : Int)), .bool ((mget (fun a_ b_ : Int => a_ == b_) a2 a1).isSome)]) rfl) <|
  E rfl (ex_extract rfl rfl) <|
  E rfl (ex_extract rfl rfl) <|
  E rfl (sg (ii ((mget (fun a_ b_ : Int => a_ == b_) a2 a1).getD (0 : Int))) rfl) <|
  E rfl (sg (.bool ((mget (fun a_ b_ : Int => a_ == b_) a2 a1).isSome)) rfl) <|
  WL.nil <|
  WC.seq <|
  WC.region <|
  E rfl (mv (.bool ((mget (fun a_ b_ : Int => a_ == b_) a2 a1).isSome)) rfl) <|
  WL.nil ?_
 rcases condE H with ⟨c101, H⟩ | ⟨c101, H⟩
 ·
  refine WC.cond_t (vb c101 rfl) <|
   WC.seq <|
   WC.region <|
   E rfl (mv (ii ((mget (fun a_ b_ : Int => a_ == b_) a2 a1).getD (0 : Int))) rfl) <|
   E rfl (sg (ii ((mget (fun a_ b_ : Int => a_ == b_) a2 a1).getD (0 : Int))) rfl) <|
   WL.nil <|
   WC.ret ?_
  obtain rfl := Option.some.inj H
  exact ⟨_, (.tmp _ rfl .nil), _, rfl, HF.out, hM2⟩
 ·
  refine WC.cond_f (vb c101 rfl) <|
   WC.skip <|
   WC.seq <|
   WC.region <|
   E rfl (mv (pp pb0 0) rfl) <|
   E rfl (mv (ii a1) rfl) ?_
  obtain ⟨z102, hz102, H⟩ := bindE H
  refine WL.op rfl <|
   OW.call [pp pb0 0, ii a1] rfl Tryz.func24 (by kernel_rfl) (by kernel_rfl) (map_cons' rfl (map_cons' rfl rfl)) (formula_Table_Node.calls _ _ pb0 pv0_0 pb0_1 (a0 := a0) hz102 (HF.ten (V := [0]) (L := [2, 3, 5]) rfl) (Bk.vw hB0 rfl) (Own.vw hO0_0 rfl rfl) (Mp.vw hM0_1 rfl)) ?_
  rintro _ w103 ⟨o104, rfl, s105⟩
  refine ⟨_, rfl, ?_⟩
  replace s105 := un_stepL (J := []) (L' := []) s105 rfl rfl
  refine E rfl (mv (.tuple #[.agg #[ii z102.1.f_Kind, encS z102.1.f_Name, ii z102.1.f_L, ii z102.1.f_R], .bool z102.2]) rfl) <|
   E rfl (ex_extract rfl rfl) <|
   E rfl (ex_extract rfl rfl) <|
   WL.op rfl ?_
  replace HF := HF.step s105 rfl
  refine OW.alloc' [ii (0 : Int), encS ([] : List UInt8), ii (0 : Int), ii (0 : Int)] 40 HF rfl zr60 rfl ?_
  intro o107 w108 b106 s109 hB110
  refine WL.op rfl <|
   OW.storeW rfl rfl sz60 hB110 rfl (oa rfl) ?_
  intro w111 s112 hB113
  refine E rfl (sg (.bool z102.2) rfl) <|
   WL.nil <|
   WC.seq <|
   WC.region <|
   E rfl (mv (pp pb0 0) rfl) <|
   E rfl (ex_loadN (cs := [ii z102.1.f_Kind, encS z102.1.f_Name, ii z102.1.f_L, ii z102.1.f_R]) rfl U60 rfl sz60 (hB113.cells rfl)) ?_
  obtain ⟨z114, hz114, H⟩ := bindE H
  refine WL.op rfl ?_
  have k109_112 := s109.t s112
  replace HF := HF.step k109_112 rfl
  have k105_112 := s105.t k109_112
  replace hO0_0 := hO0_0.step k105_112 rfl rfl
  replace hB0 := hB0.step k105_112 rfl
  replace hM0_1 := hM0_1.step k105_112 rfl
  refine OW.call [pp pb0 0, .agg #[ii z102.1.f_Kind, encS z102.1.f_Name, ii z102.1.f_L, ii z102.1.f_R]] rfl Tryz.func50 (by kernel_rfl) (by kernel_rfl) (map_cons' rfl (map_cons' rfl rfl)) (syntax_pieces.calls _ _ pb0 pv0_0 pb0_1 (a0 := a0) (a1 := z102.1) hz114 (HF.ten (V := [0]) (L := [2, 3, 5]) rfl) (Bk.vw hB0 rfl) (Own.vw hO0_0 rfl rfl) (Mp.vw hM0_1 rfl)) ?_
  rintro _ w115 ⟨o116, v118, v120, rfl, s117, hO119, hO121⟩
  refine ⟨_, rfl, ?_⟩
  replace hO119 := Own.un9 (J := [41, 42]) 0 hO119 rfl s117 rfl rfl
  replace hO121 := Own.un9 (J := [41, 42]) 1 hO121 rfl s117 rfl rfl
  replace s117 := un_stepL (J := [41, 42]) (L' := []) s117 rfl rfl
  refine E rfl (mv (.tuple #[encS z114.1, v118, v120]) rfl) <|
   E rfl (ex_extract rfl rfl) <|
   E rfl (ex_extract rfl rfl) <|
   E rfl (ex_extract rfl rfl) <|
   E rfl (sg (encS z114.1) rfl) <|
   E rfl (sg v118 rfl) <|
   E rfl (sg v120 rfl) <|
   WL.nil <|
   WC.seq <|
   WC.region <|
   E rfl (mv (encS z114.1) rfl) <|
   E rfl (ex_len_str (s := z114.1) rfl U9) <|
   E rfl (sg (ii (z114.1.length : Int)) rfl) <|
   WL.nil <|
   WC.seq <|
   WC.seq <|
   WC.region <|
   E rfl (mv v118 rfl) ?_
  obtain ⟨A122, c123, q124⟩ := hO119.slice
  refine E rfl (ex_len_slice ((show _ = (v118 : Value) from rfl).trans q124) U92) <|
   E rfl (mv (ii 0) rfl) <|
   WL.nil ?_
  obtain ⟨z130, hz130, H⟩ := bindE H
  obtain ⟨x128, x129⟩ := z130
  replace hO0_0 := hO0_0.step s117 rfl rfl
  replace hB0 := hB0.step s117 rfl
  replace hM0_1 := hM0_1.step s117 rfl
  replace HF := HF.step s117 rfl
  have k105_117 := k105_112.t s117
  replace hM2 := hM2.step k105_117 rfl
  refine WC.for (fun k_ ρ_ w_ => ∃ (o_ : Tags) (x125 : Int) (x126 : Int) (x127 : (List (Int × Int))), Fm o0 w0 o_ w_ [4] ∧ Own (Rep.int .i64) 3 42 o_ w_ v120 z114.2.2 ∧ Own (Rep.int .i64) 3 41 o_ w_ v118 z114.2.1 ∧ Bk o_ w_ 2 pb0 [pv0_0, .map (some pb0_1)] 56 ∧ Own T_api_Node.rep 60 3 o_ w_ pv0_0 a0.f_rows ∧ Mp (fun n_ : Int => Value.int .i64 n_) (fun v_ : Int => ii v_) 4 o_ w_ pb2 x127 ∧ Mp (fun x_ : T_api_Node => Value.agg #[ii x_.f_Kind, encS x_.f_Name, ii x_.f_L, ii x_.f_R]) (fun v_ : Int => ii v_) 5 o_ w_ pb0_1 a0_1 ∧ ρ_ 0 = pp pb0 0 ∧ ρ_ 1 = ii a1 ∧ ρ_ 2 = .map (some pb2) ∧ ρ_ 6 = ii 0 ∧ ρ_ 13 = v120 ∧ ρ_ 14 = ii x125 ∧ ρ_ 40 = v118 ∧ ρ_ 41 = ii (z114.2.1.length : Int) ∧ ρ_ 42 = ii x126 ∧ syntax_width.l1 k a0 a0_1 R z114 k_ x125 x126 x127 = some (x128, x129)) k (fun ρ_ w_ => ∃ (o_ : Tags), Fm o0 w0 o_ w_ [4] ∧ Bk o_ w_ 2 pb0 [pv0_0, .map (some pb0_1)] 56 ∧ Own T_api_Node.rep 60 3 o_ w_ pv0_0 a0.f_rows ∧ Mp (fun n_ : Int => Value.int .i64 n_) (fun v_ : Int => ii v_) 4 o_ w_ pb2 x129 ∧ Mp (fun x_ : T_api_Node => Value.agg #[ii x_.f_Kind, encS x_.f_Name, ii x_.f_L, ii x_.f_R]) (fun v_ : Int => ii v_) 5 o_ w_ pb0_1 a0_1 ∧ ρ_ 1 = ii a1 ∧ ρ_ 2 = .map (some pb2) ∧ ρ_ 6 = ii 0 ∧ ρ_ 14 = ii x128) ⟨_, (z114.1.length : Int), 0, a2, HF, hO121, hO119, hB0, hO0_0, hM2, hM0_1, rfl, rfl, rfl, rfl, rfl, rfl, rfl, rfl, rfl, hz130⟩ ?case131 ?_
  case case131 =>
   rintro ρ178 w179 ⟨o180, HF, hB0, hO0_0, hM2, hM0_1, s1_127, s2_127, s6_127, s14_128⟩
   refine WC.seq <|
    WC.region <|
    E rfl (mv (.map (some pb2)) s2_127) <|
    E rfl (mv (ii a1) s1_127) <|
    E rfl (mv (ii x128) s14_128) <|
    E rfl (ex_min (a := x128) (b := 65537) rfl rfl) <|
    WL.op rfl <|
    OW.mapUpdate (ek := (fun n_ : Int => Value.int .i64 n_)) (ev := (fun v_ : Int => ii v_)) (eq := (fun a_ b_ : Int => a_ == b_)) (kx := a1) (vx := (if 65537 < x128 then 65537 else x128)) rfl rfl rfl U64 (keyT_int U3) hM2 ?_
   intro w181 s182 hM183
   refine WL.nil <|
    WC.seq <|
    WC.region <|
    E rfl (mv (.map (some pb2)) s2_127) <|
    E rfl (mv (ii a1) s1_127) <|
    E rfl (ex_lookup1 (ek := (fun n_ : Int => Value.int .i64 n_)) (ev := (fun v_ : Int => ii v_)) (eq := (fun a_ b_ : Int => a_ == b_)) (x := a1) (z := (0 : Int)) rfl rfl U64 (keyT_int U3) hM183 zr3) <|
    E rfl (sg (ii ((mget (fun a_ b_ : Int => a_ == b_) (mput (fun a_ b_ : Int => a_ == b_) x129 a1 (if 65537 < x128 then 65537 else x128)) a1).getD (0 : Int))) rfl) <|
    WL.nil <|
    WC.ret ?_
   obtain rfl := Option.some.inj H
   replace HF := HF.step s182 rfl
   exact ⟨_, (.tmp _ rfl .nil), _, rfl, HF.out, hM183⟩
  have Ho132 := H
  rintro k133 ρ134 w135 ⟨o136, x125, x126, x127, HF, hO121, hO119, hB0, hO0_0, hM2, hM0_1, s0_124, s1_124, s2_124, s6_124, s13_124, s14_125, s40_125, s41_125, s42_126, H⟩
  cases k133 with
  | zero => cases H
  | succ k133 =>
  rw [syntax_width.l1.eq_2] at H
  refine WC.seq <|
   WC.region <|
   E rfl (e2 bin_lss s42_126 s41_125) <|
   WL.nil <|
   WC.seq ?_
  rcases condE H with ⟨c137, H⟩ | ⟨c137, H⟩
  ·
   refine WC.cond_t (vb c137 rfl) <|
    WC.skip ?_
   obtain ⟨z140, hz140, H⟩ := bindE H
   obtain ⟨x138, x139⟩ := z140
   refine WC.cut (fun ρ_ w_ => ∃ (o_ : Tags), Fm o0 w0 o_ w_ [4] ∧ Own (Rep.int .i64) 3 42 o_ w_ v120 z114.2.2 ∧ Own (Rep.int .i64) 3 41 o_ w_ v118 z114.2.1 ∧ Bk o_ w_ 2 pb0 [pv0_0, .map (some pb0_1)] 56 ∧ Own T_api_Node.rep 60 3 o_ w_ pv0_0 a0.f_rows ∧ Mp (fun n_ : Int => Value.int .i64 n_) (fun v_ : Int => ii v_) 4 o_ w_ pb2 x139 ∧ Mp (fun x_ : T_api_Node => Value.agg #[ii x_.f_Kind, encS x_.f_Name, ii x_.f_L, ii x_.f_R]) (fun v_ : Int => ii v_) 5 o_ w_ pb0_1 a0_1 ∧ ρ_ 0 = pp pb0 0 ∧ ρ_ 1 = ii a1 ∧ ρ_ 2 = .map (some pb2) ∧ ρ_ 6 = ii 0 ∧ ρ_ 13 = v120 ∧ ρ_ 14 = ii x138 ∧ ρ_ 40 = v118 ∧ ρ_ 41 = ii (z114.2.1.length : Int) ∧ ρ_ 42 = ii x126) ?case141 ?_
   case case141 =>
    rintro ρ144 w142 ⟨o143, HF, hO121, hO119, hB0, hO0_0, hM152, hM0_1, s0_137, s1_137, s2_137, s6_137, s13_137, s14_138, s40_138, s41_138, s42_138⟩
    refine WC.region <|
     E rfl (e2 bin_add64 s42_138 rfl) <|
     E rfl (mv (ii (wrap64 (x126 + 1))) rfl) <|
     WL.nil ?_
    exact ⟨k133, Nat.lt_succ_self _, ⟨_, x138, wrap64 (x126 + 1), x139, HF, hO121, hO119, hB0, hO0_0, hM152, hM0_1, s0_137, s1_137, s2_137, s6_137, s13_137, s14_138, s40_138, s41_138, rfl, H⟩⟩
   have Ho145 := H
   replace H := hz140
   refine WC.block <|
    WC.seq <|
    WC.region <|
    E rfl (mv (ii x126) s42_126) ?_
   obtain ⟨x146, hx146, H⟩ := bindE H
   obtain ⟨A151, c152, q153_⟩ := hO119.slice
   obtain ⟨ad147, e148, g149, g150, cell154⟩ := Row.ixS (Own.rowOf hO119 q153_) hx146
   refine E rfl (ex_indexAddr (i := x126) ((show _ = (v118 : Value) from s40_125).trans q153_) e148 s42_126 U92 sz3 g149 g150) <|
    E rfl (ex_load1 (v := ii x146) rfl U3 rfl cell154) <|
    E rfl (sg (ii x126) rfl) <|
    E rfl (sg (ii x146) rfl) <|
    WL.nil <|
    WC.seq <|
    WC.region <|
    E rfl (mv (ii x125) s14_125) <|
    E rfl (mv (pp pb0 0) s0_124) <|
    E rfl (mv (ii x146) rfl) <|
    E rfl (mv (.map (some pb2)) s2_124) ?_
   obtain ⟨z156, hz156, H⟩ := bindE H
   refine WL.op rfl <|
    OW.call [pp pb0 0, ii x146, .map (some pb2)] rfl Tryz.func25 (by kernel_rfl) (by kernel_rfl) (map_cons' rfl (map_cons' rfl (map_cons' rfl rfl))) (hR.syntax_width _ _ pb0 pv0_0 pb2 pb0_1 (a0 := a0) hz156 (HF.ten (V := [0]) (L := [2, 3, 4, 5]) rfl) (Bk.vw hB0 rfl) (Own.vw hO0_0 rfl rfl) (Mp.vw hM2 rfl) (Mp.vw hM0_1 rfl)) ?_
   rintro _ w157 ⟨o158, rfl, s159, hM160⟩
   refine ⟨_, rfl, ?_⟩
   replace hM160 := Mp.unO (J := []) 2 hM160 s159 rfl rfl rfl
   replace s159 := un_stepL (J := []) (L' := [4]) s159 rfl rfl
   refine E rfl (e2 bin_add64 rfl rfl) <|
    E rfl (sg (ii (wrap64 (x125 + z156.1))) rfl) <|
    WL.nil <|
    WC.seq ?_
   replace HF := HF.step s159 rfl
   refine WC.regionD' HF [] 8 8 (by kernel_rfl) rfl ?_
   intro w161 s162
   have k159_162 := s159.t s162
   replace hO121 := hO121.step k159_162 rfl rfl
   have hO121D := hO121
   replace HF := HF.step s162 rfl
   have sR := HF.here []
   refine WA.seq [0, 1, 3, 4, 5, 6] (lb 8 123) 2 (by kernel_rfl) rfl ⟨_, sR⟩ <|
    X1 rfl (fun w_ hS_ => ex_move (v := pp pb0 0) s0_124) <|
    X1 rfl (fun w_ hS_ => ex_move (v := ii x146) rfl) <|
    X1 rfl (fun w_ hS_ => ex_move (v := v120) s13_124) <|
    X1 rfl (fun w_ hS_ => ex_move (v := ii x126) rfl) ?_
   obtain ⟨x163, hx163, H⟩ := bindE H
   obtain ⟨A168, c169, q170_⟩ := hO121.slice
   obtain ⟨ad164, e165, g166, g167, cell171⟩ := Row.ixS (Own.rowOf hO121D q170_) hx163
   have hk172 := Row.at (Own.rowOf hO121D q170_) e165 hx163 (x126.toNat * 1)
   replace cell171 := held_cell (Step.refl _ _ _) ⟨_, sR⟩ hk172 rfl cell171
   refine X1 rfl (fun w_ hS_ => ex_indexAddr (i := x126) ((show _ = (v120 : Value) from rfl).trans q170_) e165 rfl U92 sz3 g166 g167) <|
    X1 rfl (fun w_ hS_ => ex_load1 (v := ii x163) rfl U3 rfl (held_cell sR hS_ hk172 rfl cell171)) ?_
   obtain ⟨z173, hz173, H⟩ := bindE H
   refine WA.one 2 (by kernel_rfl) rfl rfl ?_
   replace hB0 := hB0.step k159_162 rfl
   replace hO0_0 := hO0_0.step k159_162 rfl rfl
   replace hM0_1 := hM0_1.step k159_162 rfl
   refine OW.call [pp pb0 0, ii x146] rfl Tryz.func51 (by kernel_rfl) (by kernel_rfl) (map_cons' rfl (map_cons' rfl rfl)) (syntax_level.calls _ _ pb0 pv0_0 pb0_1 (a0 := a0) hz173 (HF.ten (V := [0]) (L := [2, 3, 5]) rfl) (Bk.vw hB0 rfl) (Own.vw hO0_0 rfl rfl) (Mp.vw hM0_1 rfl)) ?_
   rintro _ w174 ⟨o175, rfl, s176⟩
   refine ⟨_, rfl, ?_⟩
   replace s176 := un_stepL (J := []) (L' := []) s176 rfl rfl
   replace sR := Step.trans sR s176 (M := []) rfl rfl
   refine ⟨⟨_, sR⟩, ?_⟩
   refine WA.norm (listed' := lb 8 127) (by kernel_rfl) <|
    WA.seq [7] (lb 8 255) 0 (by kernel_rfl) rfl ⟨_, sR⟩ <|
    X1 rfl (fun w_ hS_ => ex_bin (a := ii z173) (b := ii x163) (v := .bool (decide (z173 < x163))) rfl rfl bin_lss) <|
    WA.done (by kernel_rfl) ?_
   rcases condE H with ⟨c177, H⟩ | ⟨c177, H⟩
   ·
    refine WC.cond_t (vb c177 rfl) <|
     WC.region <|
     E rfl (mv (ii (wrap64 (x125 + z156.1))) rfl) <|
     E rfl (e2 bin_add64 rfl rfl) <|
     E rfl (sg (ii (wrap64 ((wrap64 (x125 + z156.1)) + 2))) rfl) <|
     WL.nil ?_
    obtain ⟨rfl, rfl⟩ := Prod.mk.inj (Option.some.inj H)
    replace hO121 := hO121.step s176 rfl rfl
    replace hB0 := hB0.step s176 rfl
    replace hO0_0 := hO0_0.step s176 rfl rfl
    replace hM0_1 := hM0_1.step s176 rfl
    replace HF := HF.step s176 rfl
    have k162_176 := s162.t s176
    replace hM160 := hM160.step k162_176 rfl
    have k159_176 := k159_162.t s176
    replace hO119 := hO119.step k159_176 rfl rfl
    exact ⟨_, HF, hO121, hO119, hB0, hO0_0, hM160, hM0_1, s0_124, s1_124, s2_124, s6_124, s13_124, rfl, s40_125, s41_125, s42_126⟩
   ·
    refine WC.cond_f (vb c177 rfl) <|
     WC.skip ?_
    obtain ⟨rfl, rfl⟩ := Prod.mk.inj (Option.some.inj H)
    replace hO121 := hO121.step s176 rfl rfl
    replace hB0 := hB0.step s176 rfl
    replace hO0_0 := hO0_0.step s176 rfl rfl
    replace hM0_1 := hM0_1.step s176 rfl
    replace HF := HF.step s176 rfl
    have k162_176 := s162.t s176
    replace hM160 := hM160.step k162_176 rfl
    have k159_176 := k159_162.t s176
    replace hO119 := hO119.step k159_176 rfl rfl
    exact ⟨_, HF, hO121, hO119, hB0, hO0_0, hM160, hM0_1, s0_124, s1_124, s2_124, s6_124, s13_124, rfl, s40_125, s41_125, s42_126⟩
  ·
   refine WC.cond_f (vb c137 rfl) <|
    WC.exit ?_
   obtain ⟨rfl, rfl⟩ := Prod.mk.inj (Option.some.inj H)
   exact ⟨_, HF, hB0, hO0_0, hM2, hM0_1, s1_124, s2_124, s6_124, s14_125⟩

theorem G_syntax_width.ok (k : Nat) : ∀ n, G_syntax_width.OK (G_syntax_width.rec_ k n)
 | 0 => ⟨(by intro o0 w0 pb0 pv0_0 pb2 pb0_1 a0 a1 a2 a0_1 r H hO hB0 hO0_0 hM2 hM0_1; exact nomatch (show (none : Option (Int × (List (Int × Int)))) = some r from H))⟩
 | n + 1 => ⟨syntax_width.callsF k (G_syntax_width.rec_ k n) (G_syntax_width.ok k n)⟩
theorem syntax_width.calls (k : Nat) : syntax_width.Spec (syntax_width.f k) := (G_syntax_width.ok k k).syntax_width


/-! ### (*strings.Builder).copyCheck -/
theorem sizeBd : (Tryz.prog.info? 68).map (·.size) = some 2 := by kernel_rfl
theorem info5 : (Tryz.prog.info? 5).map (fun i => (i.zero, i.size, i.bytes)) = some (some (.int .u8 0), 1, 1) := by kernel_rfl
theorem Bd_copyCheck (w0 : World) (b : Nat) (p v : Value) (hb : w0.heap[b]? = some (.cells #[p, v] 68 (0, 0))) (hp : p = .pointer none ∨ p = .pointer (some ⟨b, 0, none⟩)) :
    Calls Tryz.prog 74 [.pointer (some ⟨b, 0, none⟩)].toArray w0 fun e_ w_ => e_ = .returned (one []) ∧ Kept b w0 w_ ∧ w_.heap[b]? = some (.cells #[.pointer (some ⟨b, 0, none⟩), v] 68 (0, 0)) := by
  have hB : Bk (tagOne b) w0 41 b [p, v] 68 := ⟨tagOne_same b, hb⟩
  refine SX.calls [.pointer (some ⟨b, 0, none⟩)] Tryz.func74 rfl rfl ?_
  rw [Tryz.ntmps74]
  refine WC.seq ?_
  refine WC.region ?_
  refine WL.ex rfl (ex_move (v := .pointer (some ⟨b, 0, none⟩)) rfl) ?_
  refine WL.ex rfl (ex_nilCheck rfl) ?_
  refine WL.ex rfl (ex_fieldAddr (k := 0) rfl Tryz.underlying68 rfl (by kernel_rfl)) ?_
  refine WL.ex rfl (ex_load1 (v := p) rfl Tryz.underlying65 rfl (hB.cell rfl)) ?_
  rcases hp with rfl | rfl
  · refine WL.ex rfl (ex_bin (a := .pointer none) (b := .pointer none) (v := .bool true) rfl rfl (bin_eql_ptrNN Tryz.underlying65)) ?_
    refine WL.nil ?_
    refine WC.cond_t rfl ?_
    refine WC.region ?_
    refine WL.ex rfl (ex_move (v := .pointer (some ⟨b, 0, none⟩)) rfl) ?_
    refine WL.ex rfl (ex_move (v := .pointer (some ⟨b, 0, none⟩)) rfl) ?_
    refine WL.ex rfl (ex_to_unsafe rfl Tryz.underlying65 Tryz.underlying140 2 rfl sizeBd rfl hB) ?_
    refine WL.ex rfl (ex_extern1 (v := .pointer (some ⟨b, 0, none⟩)) (v' := .pointer (some ⟨b, 0, none⟩)) rfl Tryz.func91 (by kernel_rfl) (by kernel_rfl) (by kernel_rfl) (ee := Extern.AbiNoEscape.same) (by kernel_rfl) rfl) ?_
    refine WL.ex rfl (ex_from_unsafe rfl Tryz.underlying140 Tryz.underlying65 (by kernel_rfl) hB (by kernel_rfl)) ?_
    refine WL.ex rfl (ex_nilCheck rfl) ?_
    refine WL.ex rfl (ex_fieldAddr (k := 0) rfl Tryz.underlying68 rfl (by kernel_rfl)) ?_
    refine WL.op rfl ?_
    refine OW.store [.pointer (some ⟨b, 0, none⟩), v] rfl (vs := [.pointer (some ⟨b, 0, none⟩)]) rfl (by kernel_rfl) hB (Nat.le_of_ble_eq_true rfl) (by intro u hu; simp at hu; subst hu; rfl) rfl ?_
    intro w1 s1 h1
    refine WL.nil ?_
    exact ⟨_, .nil, rfl, s1.kept, h1.heap⟩
  · refine WL.ex rfl (ex_bin (a := .pointer (some ⟨b, 0, none⟩)) (b := .pointer none) (v := .bool false) rfl rfl (bin_eql_ptrSN Tryz.underlying65)) ?_
    refine WL.nil ?_
    refine WC.cond_f rfl ?_
    refine WC.seq ?_
    refine WC.region ?_
    refine WL.ex rfl (ex_move (v := .pointer (some ⟨b, 0, none⟩)) rfl) ?_
    refine WL.ex rfl (ex_nilCheck rfl) ?_
    refine WL.ex rfl (ex_fieldAddr (k := 0) rfl Tryz.underlying68 rfl (by kernel_rfl)) ?_
    refine WL.ex rfl (ex_load1 (v := .pointer (some ⟨b, 0, none⟩)) rfl Tryz.underlying65 rfl (hB.cell rfl)) ?_
    refine WL.ex rfl (ex_move (v := .pointer (some ⟨b, 0, none⟩)) rfl) ?_
    refine WL.ex rfl (ex_bin (a := .pointer (some ⟨b, 0, none⟩)) (b := .pointer (some ⟨b, 0, none⟩)) (v := .bool false) rfl rfl (bin_neq_ptrSame Tryz.underlying65 (by kernel_rfl))) ?_
    refine WL.nil ?_
    refine WC.cond_f rfl ?_
    refine WC.skip ?_
    exact ⟨_, .nil, rfl, (Step.refl _ _ _).kept, hb⟩


/-! ### (*strings.Builder).WriteByte -/
theorem Builder_WriteByte.calls (o0 : Tags) (w0 : World) (b : Nat) (a0 : List UInt8) (a1 : UInt8) (r : List UInt8) (hO : ∀ b, b < w0.heap.size → o0 b < 40) (hB0 : Bd 68 5 2 o0 w0 b a0) (H : Builder_WriteByte.f a0 a1 = some r) :
    Calls Tryz.prog 52 [.pointer (some ⟨b, 0, none⟩), enc8 a1].toArray w0 fun e_ w_ => ∃ (o_ : Tags), e_ = .returned (one [.nilIface]) ∧ Step o0 w0 o_ w_ [2] ∧ Bd 68 5 2 o_ w_ b r := by
  unfold Builder_WriteByte.f at H
  obtain ⟨u, hu, H⟩ := bindE H
  obtain rfl := Option.some.inj H
  obtain ⟨p, v, hB0', hp, hO1⟩ := hB0
  have hb := hB0'.heap
  have hn := hO1.notin hb rfl
  have h0 : o0 b ≠ 0 := by rw [hB0'.tag]; decide
  have hO2 : Own Rep.u8 5 2 (apart1 o0 b) w0 v a0 := hO1.apart hn h0
  refine SX.calls [.pointer (some ⟨b, 0, none⟩), enc8 a1] Tryz.func52 rfl rfl ?_
  rw [Tryz.ntmps52]
  refine WC.seq ?_
  refine WC.region ?_
  refine WL.ex rfl (ex_assign (v := .nilIface) rfl) ?_
  refine WL.nil ?_
  refine WC.seq ?_
  refine WC.region ?_
  refine WL.ex rfl (ex_move (v := .pointer (some ⟨b, 0, none⟩)) rfl) ?_
  refine WL.op rfl ?_
  refine OW.call [.pointer (some ⟨b, 0, none⟩)] rfl Tryz.func74 (by kernel_rfl) (by kernel_rfl) rfl (Bd_copyCheck w0 b p v hb hp) ?_
  rintro _ w1 ⟨rfl, k1, hb1⟩
  refine ⟨_, rfl, ?_⟩
  have s1 : Step (apart1 o0 b) w0 (apart1 o0 b) w1 [41, 2] := Step.trans (k1.step (apart1_same o0 b)) (Step.refl _ _ []) rfl rfl
  replace hO2 := hO2.kept k1 hn (by rw [apart1_same]; decide)
  have hB : Bk (apart1 o0 b) w1 41 b [.pointer (some ⟨b, 0, none⟩), v] 68 := ⟨apart1_same o0 b, hb1⟩
  refine WL.nil ?_
  refine WC.seq ?_
  refine WC.region ?_
  refine WL.ex rfl (ex_move (v := .pointer (some ⟨b, 0, none⟩)) rfl) ?_
  refine WL.ex rfl (ex_move (v := .pointer (some ⟨b, 0, none⟩)) rfl) ?_
  refine WL.ex rfl (ex_nilCheck rfl) ?_
  refine WL.ex rfl (ex_fieldAddr (k := 0) rfl Tryz.underlying68 rfl (by kernel_rfl)) ?_
  refine WL.ex rfl (ex_load1 (v := v) rfl Tryz.underlying66 rfl (hB.cell rfl)) ?_
  refine WL.ex rfl (ex_move (v := enc8 a1) rfl) ?_
  refine WL.op rfl ?_
  refine OW.row (r := Rep.u8) (xs := [a1]) [(0, enc8 a1)] [[enc8 a1]] 42 (Fm.here2 (apart1 o0 b) w1) rfl Tryz.underlying66 (by kernel_rfl) (by kernel_rfl : (Tryz.prog.info? 5).map (·.zero) = some (some (.int .u8 0))) rfl rfl rfl rfl ⟨rfl, trivial⟩ rfl rfl rfl rfl ?_
  intro o2 w2 v2 s2 hO4
  replace hO2 := hO2.step s2 rfl rfl
  replace hB := hB.step s2 rfl
  replace s1 := Step.trans s1 s2 (M := [41, 2]) rfl rfl
  obtain ⟨A4, c4, q4, _, hr4⟩ := hO4.row
  refine WL.op rfl ?_
  refine OW.append (r := Rep.u8) (E := 5) (i := 2) rfl Tryz.underlying66 info5 rfl (by decide) (by decide) (by decide) rfl q4 hO2 hr4 rfl (of_decide_eq_true (chk_true hu)) ?_
  intro o3 w3 v3 s3 hO2
  replace hB := hB.step s3 rfl
  replace s1 := Step.trans s1 s3 (M := [41, 2]) rfl rfl
  refine WL.ex rfl (ex_nilCheck rfl) ?_
  refine WL.ex rfl (ex_fieldAddr (k := 0) rfl Tryz.underlying68 rfl (by kernel_rfl)) ?_
  refine WL.op rfl ?_
  refine OW.store [.pointer (some ⟨b, 0, none⟩), v3] rfl (vs := [v3]) (by obtain ⟨A_, c_, e_⟩ := hO2.slice; show v3.cells = _; rw [e_]; rfl) (by kernel_rfl) hB (Nat.le_of_ble_eq_true rfl) (by intro u hu; simp at hu; subst hu; obtain ⟨A_, c_, e_⟩ := hO2.slice; rw [e_]; rfl) rfl ?_
  intro w4 s4 hB4
  replace hO2 := hO2.step s4 rfl rfl
  replace s1 := Step.trans s1 s4 (M := [41, 2]) rfl rfl
  refine WL.nil ?_
  refine WC.seq ?_
  refine WC.region ?_
  refine WL.ex rfl (ex_assign (v := .nilIface) rfl) ?_
  refine WL.nil ?_
  refine WC.ret ?_
  exact ⟨_, .tmp (.nilIface) rfl .nil, _, rfl, apart_step hO hB0'.tag s1 rfl, _, _, Bk.renTo hB4, .inr rfl, hO2.ren rfl rfl⟩


/-! ### (*strings.Builder).WriteString -/
theorem Builder_WriteString.calls (o0 : Tags) (w0 : World) (b : Nat) (a0 : List UInt8) (a1 : List UInt8) (r : Int × List UInt8) (hO : ∀ b, b < w0.heap.size → o0 b < 40) (hB0 : Bd 68 5 2 o0 w0 b a0) (H : Builder_WriteString.f a0 a1 = some r) :
    Calls Tryz.prog 53 [.pointer (some ⟨b, 0, none⟩), encS a1].toArray w0 fun e_ w_ => ∃ (o_ : Tags), e_ = .returned (one [.int .i64 r.1, .nilIface]) ∧ Step o0 w0 o_ w_ [2] ∧ Bd 68 5 2 o_ w_ b r.2 := by
  unfold Builder_WriteString.f at H
  obtain ⟨u, hu, H⟩ := bindE H
  obtain rfl := Option.some.inj H
  obtain ⟨p, v, hB0', hp, hO1⟩ := hB0
  have hb := hB0'.heap
  have hn := hO1.notin hb rfl
  have h0 : o0 b ≠ 0 := by rw [hB0'.tag]; decide
  have hO2 : Own Rep.u8 5 2 (apart1 o0 b) w0 v a0 := hO1.apart hn h0
  refine SX.calls [.pointer (some ⟨b, 0, none⟩), encS a1] Tryz.func53 rfl rfl ?_
  rw [Tryz.ntmps53]
  refine WC.seq ?_
  refine WC.region ?_
  refine WL.ex rfl (ex_assign (v := .int .i64 0) rfl) ?_
  refine WL.ex rfl (ex_assign (v := .nilIface) rfl) ?_
  refine WL.nil ?_
  refine WC.seq ?_
  refine WC.region ?_
  refine WL.ex rfl (ex_move (v := .pointer (some ⟨b, 0, none⟩)) rfl) ?_
  refine WL.op rfl ?_
  refine OW.call [.pointer (some ⟨b, 0, none⟩)] rfl Tryz.func74 (by kernel_rfl) (by kernel_rfl) rfl (Bd_copyCheck w0 b p v hb hp) ?_
  rintro _ w1 ⟨rfl, k1, hb1⟩
  refine ⟨_, rfl, ?_⟩
  have s1 : Step (apart1 o0 b) w0 (apart1 o0 b) w1 [41, 2] := Step.trans (k1.step (apart1_same o0 b)) (Step.refl _ _ []) rfl rfl
  replace hO2 := hO2.kept k1 hn (by rw [apart1_same]; decide)
  have hB : Bk (apart1 o0 b) w1 41 b [.pointer (some ⟨b, 0, none⟩), v] 68 := ⟨apart1_same o0 b, hb1⟩
  refine WL.nil ?_
  refine WC.seq ?_
  refine WC.region ?_
  refine WL.ex rfl (ex_move (v := .pointer (some ⟨b, 0, none⟩)) rfl) ?_
  refine WL.ex rfl (ex_move (v := .pointer (some ⟨b, 0, none⟩)) rfl) ?_
  refine WL.ex rfl (ex_nilCheck rfl) ?_
  refine WL.ex rfl (ex_fieldAddr (k := 0) rfl Tryz.underlying68 rfl (by kernel_rfl)) ?_
  refine WL.ex rfl (ex_load1 (v := v) rfl Tryz.underlying66 rfl (hB.cell rfl)) ?_
  refine WL.ex rfl (ex_move (v := encS a1) rfl) ?_
  refine WL.op rfl ?_
  refine OW.appendStr (E := 5) (i := 2) (s := a1) rfl Tryz.underlying66 Tryz.underlying9 info5 (by decide) rfl rfl hO2 (of_decide_eq_true (chk_true hu)) ?_
  intro o3 w3 v3 s3 hO2
  replace hB := hB.step s3 rfl
  replace s1 := Step.trans s1 s3 (M := [41, 2]) rfl rfl
  refine WL.ex rfl (ex_nilCheck rfl) ?_
  refine WL.ex rfl (ex_fieldAddr (k := 0) rfl Tryz.underlying68 rfl (by kernel_rfl)) ?_
  refine WL.op rfl ?_
  refine OW.store [.pointer (some ⟨b, 0, none⟩), v3] rfl (vs := [v3]) (by obtain ⟨A_, c_, e_⟩ := hO2.slice; show v3.cells = _; rw [e_]; rfl) (by kernel_rfl) hB (Nat.le_of_ble_eq_true rfl) (by intro u hu; simp at hu; subst hu; obtain ⟨A_, c_, e_⟩ := hO2.slice; rw [e_]; rfl) rfl ?_
  intro w4 s4 hB4
  replace hO2 := hO2.step s4 rfl rfl
  replace s1 := Step.trans s1 s4 (M := [41, 2]) rfl rfl
  refine WL.nil ?_
  refine WC.seq ?_
  refine WC.region ?_
  refine WL.ex rfl (ex_move (v := encS a1) rfl) ?_
  refine WL.ex rfl (ex_len_str (s := a1) rfl Tryz.underlying9) ?_
  refine WL.ex rfl (ex_assign (v := .int .i64 (a1.length : Int)) rfl) ?_
  refine WL.ex rfl (ex_assign (v := .nilIface) rfl) ?_
  refine WL.nil ?_
  refine WC.ret ?_
  exact ⟨_, .tmp (.int .i64 (a1.length : Int)) rfl (.tmp (.nilIface) rfl .nil), _, rfl, apart_step hO hB0'.tag s1 rfl, _, _, Bk.renTo hB4, .inr rfl, hO2.ren rfl rfl⟩

def syntax_write.Spec (g_ : (List UInt8) → T_formula_Table → Int → Int → (List (T_api_Node × Int)) → Option ((List UInt8))) : Prop := ∀ (o0 : Tags) (w0 : World) (pb0 : Nat) (pb1 : Nat) (pv1_0 : Value) (pb1_1 : Nat) {a0 : (List UInt8)} {a1 : T_formula_Table} {a2 : Int} {a3 : Int} {a1_1 : (List (T_api_Node × Int))} {r : (List UInt8)} (H : g_ a0 a1 a2 a3 a1_1 = some r) (hO : ∀ b, b < w0.heap.size → o0 b < 40) (hB0 : Bd 68 5 2 o0 w0 pb0 a0) (hB1 : Bk o0 w0 3 pb1 [pv1_0, .map (some pb1_1)] 56) (hO1_0 : Own T_api_Node.rep 60 4 o0 w0 pv1_0 a1.f_rows) (hM1_1 : Mp (fun x_ : T_api_Node => Value.agg #[ii x_.f_Kind, encS x_.f_Name, ii x_.f_L, ii x_.f_R]) (fun v_ : Int => ii v_) 5 o0 w0 pb1_1 a1_1),
  Calls Tryz.prog 26 [pp pb0 0, pp pb1 0, ii a2, ii a3].toArray w0 fun e_ w_ => ∃ (o_ : Tags), e_ = .returned (one []) ∧ Step o0 w0 o_ w_ [2] ∧ Bd 68 5 2 o_ w_ pb0 r
structure G_syntax_write.OK (R : G_syntax_write) : Prop where
 syntax_write : syntax_write.Spec R.syntax_write
/-! ### syntax_write -/
set_option maxRecDepth 100000 in
theorem syntax_write.callsF (k : Nat) (R : G_syntax_write) (hR : G_syntax_write.OK R) : syntax_write.Spec (syntax_write.F k R) := by
 intro o0 w0 pb0 pb1 pv1_0 pb1_1 a0 a1 a2 a3 a1_1 r H hO hB0 hB1 hO1_0 hM1_1
 have HF := Fm.refl hO [2]
 unfold syntax_write.F at H
 refine SX.calls [pp pb0 0, pp pb1 0, ii a2, ii a3] Tryz.func26 rfl rfl ?_
 rw [Tryz.ntmps26]
 refine WC.seq <|
  WC.region <|
  E rfl (mv (pp pb1 0) rfl) <|
  E rfl (mv (ii a2) rfl) ?_
 obtain ⟨z101, hz101, H⟩ := bindE H
 refine WL.op rfl <|
  OW.call [pp pb1 0, ii a2] rfl Tryz.func24 (by kernel_rfl) (by kernel_rfl) (map_cons' rfl (map_cons' rfl rfl)) (formula_Table_Node.calls _ _ pb1 pv1_0 pb1_1 (a0 := a1) hz101 (HF.ten (V := [0]) (L := [3, 4, 5]) rfl) (Bk.vw hB1 rfl) (Own.vw hO1_0 rfl rfl) (Mp.vw hM1_1 rfl)) ?_
 rintro _ w102 ⟨o103, rfl, s104⟩
 refine ⟨_, rfl, ?_⟩
 replace s104 := un_stepL (J := []) (L' := []) s104 rfl rfl
 refine E rfl (mv (.tuple #[.agg #[ii z101.1.f_Kind, encS z101.1.f_Name, ii z101.1.f_L, ii z101.1.f_R], .bool z101.2]) rfl) <|
  E rfl (ex_extract rfl rfl) <|
  E rfl (ex_extract rfl rfl) <|
  WL.op rfl ?_
 replace HF := HF.step s104 rfl
 refine OW.alloc' [ii (0 : Int), encS ([] : List UInt8), ii (0 : Int), ii (0 : Int)] 40 HF rfl zr60 rfl ?_
 intro o106 w107 b105 s108 hB109
 refine WL.op rfl <|
  OW.storeW rfl rfl sz60 hB109 rfl (oa rfl) ?_
 intro w110 s111 hB112
 refine E rfl (sg (.bool z101.2) rfl) <|
  WL.nil <|
  WC.seq <|
  WC.region <|
  E rfl (mv (pp pb1 0) rfl) <|
  E rfl (ex_loadN (cs := [ii z101.1.f_Kind, encS z101.1.f_Name, ii z101.1.f_L, ii z101.1.f_R]) rfl U60 rfl sz60 (hB112.cells rfl)) ?_
 obtain ⟨z113, hz113, H⟩ := bindE H
 refine WL.op rfl ?_
 have k108_111 := s108.t s111
 replace HF := HF.step k108_111 rfl
 have k104_111 := s104.t k108_111
 replace hO1_0 := hO1_0.step k104_111 rfl rfl
 replace hB1 := hB1.step k104_111 rfl
 replace hM1_1 := hM1_1.step k104_111 rfl
 refine OW.call [pp pb1 0, .agg #[ii z101.1.f_Kind, encS z101.1.f_Name, ii z101.1.f_L, ii z101.1.f_R]] rfl Tryz.func50 (by kernel_rfl) (by kernel_rfl) (map_cons' rfl (map_cons' rfl rfl)) (syntax_pieces.calls _ _ pb1 pv1_0 pb1_1 (a0 := a1) (a1 := z101.1) hz113 (HF.ten (V := [0]) (L := [3, 4, 5]) rfl) (Bk.vw hB1 rfl) (Own.vw hO1_0 rfl rfl) (Mp.vw hM1_1 rfl)) ?_
 rintro _ w114 ⟨o115, v117, v119, rfl, s116, hO118, hO120⟩
 refine ⟨_, rfl, ?_⟩
 replace hO118 := Own.un9 (J := [41, 42]) 0 hO118 rfl s116 rfl rfl
 replace hO120 := Own.un9 (J := [41, 42]) 1 hO120 rfl s116 rfl rfl
 replace s116 := un_stepL (J := [41, 42]) (L' := []) s116 rfl rfl
 refine E rfl (mv (.tuple #[encS z113.1, v117, v119]) rfl) <|
  E rfl (ex_extract rfl rfl) <|
  E rfl (ex_extract rfl rfl) <|
  E rfl (ex_extract rfl rfl) <|
  E rfl (sg (encS z113.1) rfl) <|
  E rfl (sg v117 rfl) <|
  E rfl (sg v119 rfl) <|
  WL.nil <|
  WC.seq <|
  WC.region <|
  E rfl (mv (pp pb1 0) rfl) <|
  E rfl (mv (ii a2) rfl) ?_
 obtain ⟨z121, hz121, H⟩ := bindE H
 refine WL.op rfl ?_
 replace hO1_0 := hO1_0.step s116 rfl rfl
 replace hB1 := hB1.step s116 rfl
 replace hM1_1 := hM1_1.step s116 rfl
 replace HF := HF.step s116 rfl
 refine OW.call [pp pb1 0, ii a2] rfl Tryz.func51 (by kernel_rfl) (by kernel_rfl) (map_cons' rfl (map_cons' rfl rfl)) (syntax_level.calls _ _ pb1 pv1_0 pb1_1 (a0 := a1) hz121 (HF.ten (V := [0]) (L := [3, 4, 5]) rfl) (Bk.vw hB1 rfl) (Own.vw hO1_0 rfl rfl) (Mp.vw hM1_1 rfl)) ?_
 rintro _ w122 ⟨o123, rfl, s124⟩
 refine ⟨_, rfl, ?_⟩
 replace s124 := un_stepL (J := []) (L' := []) s124 rfl rfl
 refine E rfl (mv (ii a3) rfl) <|
  E rfl (e2 bin_lss rfl rfl) <|
  E rfl (sg (.bool (decide (z121 < a3))) rfl) <|
  WL.nil ?_
 obtain ⟨z126, hz126, H⟩ := bindE H
 refine WC.cut (fun ρ_ w_ => ∃ (o_ : Tags), Fm o0 w0 o_ w_ [2] ∧ Own (Rep.int .i64) 3 41 o_ w_ v117 z113.2.1 ∧ Own (Rep.int .i64) 3 42 o_ w_ v119 z113.2.2 ∧ Bd 68 5 2 o_ w_ pb0 z126 ∧ Bk o_ w_ 3 pb1 [pv1_0, .map (some pb1_1)] 56 ∧ Own T_api_Node.rep 60 4 o_ w_ pv1_0 a1.f_rows ∧ Mp (fun x_ : T_api_Node => Value.agg #[ii x_.f_Kind, encS x_.f_Name, ii x_.f_L, ii x_.f_R]) (fun v_ : Int => ii v_) 5 o_ w_ pb1_1 a1_1 ∧ ρ_ 0 = pp pb0 0 ∧ ρ_ 1 = pp pb1 0 ∧ ρ_ 10 = encS z113.1 ∧ ρ_ 11 = v117 ∧ ρ_ 12 = v119 ∧ ρ_ 13 = .bool (decide (z121 < a3))) ?case127 ?_
 case case127 =>
  rintro ρ130 w128 ⟨o129, HF, hO118, hO120, hB130, hB1, hO1_0, hM1_1, s0_124, s1_124, s10_124, s11_124, s12_124, s13_124⟩
  obtain ⟨z132, hz132, H⟩ := bindE H
  refine WC.cut (fun ρ_ w_ => ∃ (o_ : Tags), Fm o0 w0 o_ w_ [2] ∧ Own (Rep.int .i64) 3 41 o_ w_ v117 z113.2.1 ∧ Own (Rep.int .i64) 3 42 o_ w_ v119 z113.2.2 ∧ Bd 68 5 2 o_ w_ pb0 z132 ∧ Bk o_ w_ 3 pb1 [pv1_0, .map (some pb1_1)] 56 ∧ Own T_api_Node.rep 60 4 o_ w_ pv1_0 a1.f_rows ∧ Mp (fun x_ : T_api_Node => Value.agg #[ii x_.f_Kind, encS x_.f_Name, ii x_.f_L, ii x_.f_R]) (fun v_ : Int => ii v_) 5 o_ w_ pb1_1 a1_1 ∧ ρ_ 0 = pp pb0 0 ∧ ρ_ 1 = pp pb1 0 ∧ ρ_ 10 = encS z113.1 ∧ ρ_ 11 = v117 ∧ ρ_ 12 = v119 ∧ ρ_ 13 = .bool (decide (z121 < a3))) ?case133 ?_
  case case133 =>
   rintro ρ136 w134 ⟨o135, HF, hO118, hO120, hB139, hB1, hO1_0, hM1_1, s0_130, s1_130, s10_130, s11_130, s12_130, s13_130⟩
   refine WC.seq <|
    WC.seq <|
    WC.region <|
    E rfl (mv v117 s11_130) ?_
   obtain ⟨A137, c138, q139⟩ := hO118.slice
   refine E rfl (ex_len_slice ((show _ = (v117 : Value) from rfl).trans q139) U92) <|
    E rfl (mv (ii 0) rfl) <|
    WL.nil ?_
   obtain ⟨z143, hz143, H⟩ := bindE H
   refine WC.for (fun k_ ρ_ w_ => ∃ (o_ : Tags) (x140 : Int) (x141 : (List UInt8)), Fm o0 w0 o_ w_ [2] ∧ Own (Rep.int .i64) 3 42 o_ w_ v119 z113.2.2 ∧ Own (Rep.int .i64) 3 41 o_ w_ v117 z113.2.1 ∧ Bd 68 5 2 o_ w_ pb0 x141 ∧ Bk o_ w_ 3 pb1 [pv1_0, .map (some pb1_1)] 56 ∧ Own T_api_Node.rep 60 4 o_ w_ pv1_0 a1.f_rows ∧ Mp (fun x_ : T_api_Node => Value.agg #[ii x_.f_Kind, encS x_.f_Name, ii x_.f_L, ii x_.f_R]) (fun v_ : Int => ii v_) 5 o_ w_ pb1_1 a1_1 ∧ ρ_ 0 = pp pb0 0 ∧ ρ_ 1 = pp pb1 0 ∧ ρ_ 10 = encS z113.1 ∧ ρ_ 12 = v119 ∧ ρ_ 13 = .bool (decide (z121 < a3)) ∧ ρ_ 43 = v117 ∧ ρ_ 44 = ii (z113.2.1.length : Int) ∧ ρ_ 45 = ii x140 ∧ syntax_write.l1 k a1 a1_1 R z113 k_ x140 x141 = some z143) k (fun ρ_ w_ => ∃ (o_ : Tags), Fm o0 w0 o_ w_ [2] ∧ Bd 68 5 2 o_ w_ pb0 z143 ∧ Bk o_ w_ 3 pb1 [pv1_0, .map (some pb1_1)] 56 ∧ Own T_api_Node.rep 60 4 o_ w_ pv1_0 a1.f_rows ∧ Mp (fun x_ : T_api_Node => Value.agg #[ii x_.f_Kind, encS x_.f_Name, ii x_.f_L, ii x_.f_R]) (fun v_ : Int => ii v_) 5 o_ w_ pb1_1 a1_1 ∧ ρ_ 0 = pp pb0 0 ∧ ρ_ 13 = .bool (decide (z121 < a3))) ⟨_, 0, z132, HF, hO120, hO118, hB139, hB1, hO1_0, hM1_1, s0_130, s1_130, s10_130, s12_130, s13_130, rfl, rfl, rfl, hz143⟩ ?case144 ?_
   case case144 =>
    rintro ρ189 w190 ⟨o191, HF, hB139, hB1, hO1_0, hM1_1, s0_141, s13_141⟩
    refine WC.seq <|
     WC.region <|
     E rfl (mv (.bool (decide (z121 < a3))) s13_141) <|
     WL.nil ?_
    rcases condE H with ⟨c192, H⟩ | ⟨c192, H⟩
    ·
     refine WC.cond_t (vb c192 rfl) <|
      WC.region <|
      E rfl (mv (pp pb0 0) s0_141) ?_
     obtain ⟨z193, hz193, H⟩ := bindE H
     refine WL.op rfl <|
      OW.call [pp pb0 0, enc8 (41 : UInt8)] rfl Tryz.func52 (by kernel_rfl) (by kernel_rfl) (map_cons' rfl (map_cons' rfl rfl)) (Builder_WriteByte.calls _ _ pb0 z143 (41 : UInt8) z193 (HF.ten (V := [0]) (L := [2]) rfl) (Bd.vw hB139 rfl rfl) hz193) ?_
     rintro _ w194 ⟨o195, rfl, s196, hB197⟩
     refine ⟨_, rfl, ?_⟩
     replace hB197 := Bd.unO (J := []) 0 hB197 s196 rfl rfl rfl
     replace s196 := un_stepL (J := []) (L' := [2]) s196 rfl rfl
     refine WL.nil ?_
     obtain rfl := Option.some.inj H
     replace HF := HF.step s196 rfl
     exact ⟨_, .nil, _, rfl, HF.out, hB197⟩
    ·
     refine WC.cond_f (vb c192 rfl) <|
      WC.skip ?_
     obtain rfl := Option.some.inj H
     exact ⟨_, .nil, _, rfl, HF.out, hB139⟩
   have Ho145 := H
   rintro k146 ρ147 w148 ⟨o149, x140, x141, HF, hO120, hO118, hB139, hB1, hO1_0, hM1_1, s0_139, s1_139, s10_139, s12_139, s13_139, s43_139, s44_139, s45_140, H⟩
   cases k146 with
   | zero => cases H
   | succ k146 =>
   rw [syntax_write.l1.eq_2] at H
   refine WC.seq <|
    WC.region <|
    E rfl (e2 bin_lss s45_140 s44_139) <|
    WL.nil <|
    WC.seq ?_
   rcases condE H with ⟨c150, H⟩ | ⟨c150, H⟩
   ·
    refine WC.cond_t (vb c150 rfl) <|
     WC.skip <|
     WC.seq <|
     WC.block <|
     WC.seq <|
     WC.region <|
     E rfl (mv (ii x140) s45_140) ?_
    obtain ⟨x151, hx151, H⟩ := bindE H
    obtain ⟨A156, c157, q158_⟩ := hO118.slice
    obtain ⟨ad152, e153, g154, g155, cell159⟩ := Row.ixS (Own.rowOf hO118 q158_) hx151
    refine E rfl (ex_indexAddr (i := x140) ((show _ = (v117 : Value) from s43_139).trans q158_) e153 s45_140 U92 sz3 g154 g155) <|
     E rfl (ex_load1 (v := ii x151) rfl U3 rfl cell159) <|
     E rfl (sg (ii x140) rfl) <|
     E rfl (sg (ii x151) rfl) <|
     WL.nil ?_
    obtain ⟨z162, hz162, H⟩ := bindE H
    refine WC.cut (fun ρ_ w_ => ∃ (o_ : Tags), Fm o0 w0 o_ w_ [2] ∧ Own (Rep.int .i64) 3 42 o_ w_ v119 z113.2.2 ∧ Own (Rep.int .i64) 3 41 o_ w_ v117 z113.2.1 ∧ Bd 68 5 2 o_ w_ pb0 z162 ∧ Bk o_ w_ 3 pb1 [pv1_0, .map (some pb1_1)] 56 ∧ Own T_api_Node.rep 60 4 o_ w_ pv1_0 a1.f_rows ∧ Mp (fun x_ : T_api_Node => Value.agg #[ii x_.f_Kind, encS x_.f_Name, ii x_.f_L, ii x_.f_R]) (fun v_ : Int => ii v_) 5 o_ w_ pb1_1 a1_1 ∧ ρ_ 0 = pp pb0 0 ∧ ρ_ 1 = pp pb1 0 ∧ ρ_ 10 = encS z113.1 ∧ ρ_ 12 = v119 ∧ ρ_ 13 = .bool (decide (z121 < a3)) ∧ ρ_ 14 = ii x140 ∧ ρ_ 15 = ii x151 ∧ ρ_ 43 = v117 ∧ ρ_ 44 = ii (z113.2.1.length : Int) ∧ ρ_ 45 = ii x140) ?case163 ?_
    case case163 =>
     rintro ρ166 w164 ⟨o165, HF, hO120, hO118, hB166, hB1, hO1_0, hM1_1, s0_160, s1_160, s10_160, s12_160, s13_160, s14_160, s15_160, s43_160, s44_160, s45_160⟩
     refine WC.region <|
      E rfl (mv (pp pb0 0) s0_160) <|
      E rfl (mv (pp pb1 0) s1_160) <|
      E rfl (mv (ii x151) s15_160) <|
      E rfl (mv v119 s12_160) <|
      E rfl (mv (ii x140) s14_160) ?_
     obtain ⟨x167, hx167, H⟩ := bindE H
     obtain ⟨A172, c173, q174_⟩ := hO120.slice
     obtain ⟨ad168, e169, g170, g171, cell175⟩ := Row.ixS (Own.rowOf hO120 q174_) hx167
     refine E rfl (ex_indexAddr (i := x140) ((show _ = (v119 : Value) from rfl).trans q174_) e169 rfl U92 sz3 g170 g171) <|
      E rfl (ex_load1 (v := ii x167) rfl U3 rfl cell175) ?_
     obtain ⟨z177, hz177, H⟩ := bindE H
     refine WL.op rfl <|
      OW.call [pp pb0 0, pp pb1 0, ii x151, ii x167] rfl Tryz.func26 (by kernel_rfl) (by kernel_rfl) (map_cons' rfl (map_cons' rfl (map_cons' rfl (map_cons' rfl rfl)))) (hR.syntax_write _ _ pb0 pb1 pv1_0 pb1_1 (a1 := a1) hz177 (HF.ten (V := [0]) (L := [2, 3, 4, 5]) rfl) (Bd.vw hB166 rfl rfl) (Bk.vw hB1 rfl) (Own.vw hO1_0 rfl rfl) (Mp.vw hM1_1 rfl)) ?_
     rintro _ w178 ⟨o179, rfl, s180, hB181⟩
     refine ⟨_, rfl, ?_⟩
     replace hB181 := Bd.unO (J := []) 0 hB181 s180 rfl rfl rfl
     replace s180 := un_stepL (J := []) (L' := [2]) s180 rfl rfl
     refine WL.nil <|
      WC.region <|
      E rfl (e2 bin_add64 s45_160 rfl) <|
      E rfl (mv (ii (wrap64 (x140 + 1))) rfl) <|
      WL.nil ?_
     replace hO120 := hO120.step s180 rfl rfl
     replace hO118 := hO118.step s180 rfl rfl
     replace hB1 := hB1.step s180 rfl
     replace hO1_0 := hO1_0.step s180 rfl rfl
     replace hM1_1 := hM1_1.step s180 rfl
     replace HF := HF.step s180 rfl
     exact ⟨k146, Nat.lt_succ_self _, ⟨_, wrap64 (x140 + 1), z177, HF, hO120, hO118, hB181, hB1, hO1_0, hM1_1, s0_160, s1_160, s10_160, s12_160, s13_160, s43_160, s44_160, rfl, H⟩⟩
    have Ho182 := H
    replace H := hz162
    refine WC.seq <|
     WC.region <|
     E rfl (mv (ii x140) rfl) <|
     E rfl (e2 bin_eql rfl rfl) <|
     WL.nil ?_
    rcases condE H with ⟨c183, H⟩ | ⟨c183, H⟩
    ·
     refine WC.cond_t (vb c183 rfl) <|
      WC.region <|
      E rfl (mv (pp pb0 0) s0_139) <|
      E rfl (mv (encS z113.1) s10_139) ?_
     obtain ⟨z184, hz184, H⟩ := bindE H
     refine WL.op rfl <|
      OW.call [pp pb0 0, encS z113.1] rfl Tryz.func53 (by kernel_rfl) (by kernel_rfl) (map_cons' rfl (map_cons' rfl rfl)) (Builder_WriteString.calls _ _ pb0 x141 z113.1 z184 (HF.ten (V := [0]) (L := [2]) rfl) (Bd.vw hB139 rfl rfl) hz184) ?_
     rintro _ w185 ⟨o186, rfl, s187, hB188⟩
     refine ⟨_, rfl, ?_⟩
     replace hB188 := Bd.unO (J := []) 0 hB188 s187 rfl rfl rfl
     replace s187 := un_stepL (J := []) (L' := [2]) s187 rfl rfl
     refine WL.nil ?_
     obtain rfl := Option.some.inj H
     replace hO120 := hO120.step s187 rfl rfl
     replace hO118 := hO118.step s187 rfl rfl
     replace hB1 := hB1.step s187 rfl
     replace hO1_0 := hO1_0.step s187 rfl rfl
     replace hM1_1 := hM1_1.step s187 rfl
     replace HF := HF.step s187 rfl
     exact ⟨_, HF, hO120, hO118, hB188, hB1, hO1_0, hM1_1, s0_139, s1_139, s10_139, s12_139, s13_139, rfl, rfl, s43_139, s44_139, s45_140⟩
    ·
     refine WC.cond_f (vb c183 rfl) <|
      WC.skip ?_
     obtain rfl := Option.some.inj H
     exact ⟨_, HF, hO120, hO118, hB139, hB1, hO1_0, hM1_1, s0_139, s1_139, s10_139, s12_139, s13_139, rfl, rfl, s43_139, s44_139, s45_140⟩
   ·
    refine WC.cond_f (vb c150 rfl) <|
     WC.exit ?_
    obtain rfl := Option.some.inj H
    exact ⟨_, HF, hB139, hB1, hO1_0, hM1_1, s0_139, s13_139⟩
  have Ho198 := H
  replace H := hz132
  refine WC.seq <|
   WC.region <|
   E rfl (mv v117 s11_124) ?_
  obtain ⟨A199, c200, q201⟩ := hO118.slice
  refine E rfl (ex_len_slice ((show _ = (v117 : Value) from rfl).trans q201) U92) <|
   E rfl (e2 bin_neq rfl rfl) <|
   WL.nil ?_
  rcases condE H with ⟨c202, H⟩ | ⟨c202, H⟩
  ·
   refine WC.cond_t (vb c202 rfl) <|
    WC.region <|
    E rfl (mv (pp pb0 0) s0_124) <|
    E rfl (mv (encS z113.1) s10_124) ?_
   obtain ⟨z203, hz203, H⟩ := bindE H
   refine WL.op rfl <|
    OW.call [pp pb0 0, encS z113.1] rfl Tryz.func53 (by kernel_rfl) (by kernel_rfl) (map_cons' rfl (map_cons' rfl rfl)) (Builder_WriteString.calls _ _ pb0 z126 z113.1 z203 (HF.ten (V := [0]) (L := [2]) rfl) (Bd.vw hB130 rfl rfl) hz203) ?_
   rintro _ w204 ⟨o205, rfl, s206, hB207⟩
   refine ⟨_, rfl, ?_⟩
   replace hB207 := Bd.unO (J := []) 0 hB207 s206 rfl rfl rfl
   replace s206 := un_stepL (J := []) (L' := [2]) s206 rfl rfl
   refine WL.nil ?_
   obtain rfl := Option.some.inj H
   replace hO118 := hO118.step s206 rfl rfl
   replace hO120 := hO120.step s206 rfl rfl
   replace hB1 := hB1.step s206 rfl
   replace hO1_0 := hO1_0.step s206 rfl rfl
   replace hM1_1 := hM1_1.step s206 rfl
   replace HF := HF.step s206 rfl
   exact ⟨_, HF, hO118, hO120, hB207, hB1, hO1_0, hM1_1, s0_124, s1_124, s10_124, s11_124, s12_124, s13_124⟩
  ·
   refine WC.cond_f (vb c202 rfl) <|
    WC.skip ?_
   obtain rfl := Option.some.inj H
   exact ⟨_, HF, hO118, hO120, hB130, hB1, hO1_0, hM1_1, s0_124, s1_124, s10_124, s11_124, s12_124, s13_124⟩
 have Ho208 := H
 replace H := hz126
 refine WC.seq <|
  WC.region <|
  E rfl (mv (.bool (decide (z121 < a3))) rfl) <|
  WL.nil ?_
 rcases condE H with ⟨c209, H⟩ | ⟨c209, H⟩
 ·
  refine WC.cond_t (vb c209 rfl) <|
   WC.region <|
   E rfl (mv (pp pb0 0) rfl) ?_
  obtain ⟨z210, hz210, H⟩ := bindE H
  refine WL.op rfl ?_
  replace HF := HF.step s124 rfl
  have k104_124 := (k104_111.t s116).t s124
  replace hB0 := hB0.step k104_124 rfl rfl
  refine OW.call [pp pb0 0, enc8 (40 : UInt8)] rfl Tryz.func52 (by kernel_rfl) (by kernel_rfl) (map_cons' rfl (map_cons' rfl rfl)) (Builder_WriteByte.calls _ _ pb0 a0 (40 : UInt8) z210 (HF.ten (V := [0]) (L := [2]) rfl) (Bd.vw hB0 rfl rfl) hz210) ?_
  rintro _ w211 ⟨o212, rfl, s213, hB214⟩
  refine ⟨_, rfl, ?_⟩
  replace hB214 := Bd.unO (J := []) 0 hB214 s213 rfl rfl rfl
  replace s213 := un_stepL (J := []) (L' := [2]) s213 rfl rfl
  refine WL.nil ?_
  obtain rfl := Option.some.inj H
  replace HF := HF.step s213 rfl
  have k124_213 := s124.t s213
  replace hO1_0 := hO1_0.step k124_213 rfl rfl
  replace hB1 := hB1.step k124_213 rfl
  replace hM1_1 := hM1_1.step k124_213 rfl
  replace hO118 := hO118.step k124_213 rfl rfl
  replace hO120 := hO120.step k124_213 rfl rfl
  exact ⟨_, HF, hO118, hO120, hB214, hB1, hO1_0, hM1_1, rfl, rfl, rfl, rfl, rfl, rfl⟩
 ·
  refine WC.cond_f (vb c209 rfl) <|
   WC.skip ?_
  obtain rfl := Option.some.inj H
  replace hO1_0 := hO1_0.step s124 rfl rfl
  replace hB1 := hB1.step s124 rfl
  replace hM1_1 := hM1_1.step s124 rfl
  replace hO118 := hO118.step s124 rfl rfl
  replace hO120 := hO120.step s124 rfl rfl
  replace HF := HF.step s124 rfl
  have k104_124 := (k104_111.t s116).t s124
  replace hB0 := hB0.step k104_124 rfl rfl
  exact ⟨_, HF, hO118, hO120, hB0, hB1, hO1_0, hM1_1, rfl, rfl, rfl, rfl, rfl, rfl⟩

theorem G_syntax_write.ok (k : Nat) : ∀ n, G_syntax_write.OK (G_syntax_write.rec_ k n)
 | 0 => ⟨(by intro o0 w0 pb0 pb1 pv1_0 pb1_1 a0 a1 a2 a3 a1_1 r H hO hB0 hB1 hO1_0 hM1_1; exact nomatch (show (none : Option ((List UInt8))) = some r from H))⟩
 | n + 1 => ⟨syntax_write.callsF k (G_syntax_write.rec_ k n) (G_syntax_write.ok k n)⟩
theorem syntax_write.calls (k : Nat) : syntax_write.Spec (syntax_write.f k) := (G_syntax_write.ok k k).syntax_write


/-! ### (*strings.Builder).String -/
theorem unsafe_string (i : Nat) (o : Tags) (w : World) (A : Option Addr) (xs : List UInt8) (c : Nat) (p : Option Addr) (hO : Own Rep.u8 5 i o w (.slice A xs.length c) xs) (hp : xs ≠ [] → p = A) (hl : xs.length ≤ 9223372036854775807) :
    ∃ w', (Builtin.unsafeString_ #[109, 3] 9 #[.pointer p, .int .i64 xs.length]).run Tryz.prog w = .ok (encS xs) w' ∧ Step o w o w' [i] := by
  by_cases h0 : xs = []
  · subst h0
    exact ⟨w, by have := Lib.run_unsafeString_none (P := Tryz.prog) w 109 3 9 p; rw [List.length_nil]; rw [show ((0 : Nat) : Int) = 0 from rfl, this]; rfl, Step.refl _ _ _⟩
  · obtain rfl := hp h0
    obtain ⟨cells, hown, ht, hm⟩ := hO
    rcases hown.2 with ⟨_, hz⟩ | ⟨g, cap, cur, hv, _, hg, hn, hcm, hcs, htake⟩
    · exact absurd (List.eq_nil_of_length_eq_zero hz) h0
    · injection hv with e1 _ e3
      subst e1
      have hcz : cur.size = cap := by rw [hcs]; exact Nat.mul_one cap
      refine ⟨w.freeze ⟨g, 0, none⟩ xs.length, ?_, step_freeze (ht g rfl)⟩
      refine Lib.run_unsafeString_row (P := Tryz.prog) w 109 3 9 5 Tryz.underlying109 (by kernel_rfl) g cur.size (by simp [World.shape?, hg]) xs h0 (by omega) hl ?_
      intro j x hx
      have hcell := World.ownsRow.cells hown (g := g) rfl j (enc8 x)
      have hcs' : cells = xs.map enc8 := many_scalar hm
      rw [hcs'] at hcell
      exact hcell (by simp [hx])
theorem Builder_String.calls (o0 : Tags) (w0 : World) (b : Nat) (a0 : List UInt8) (r : List UInt8) (hO : ∀ b, b < w0.heap.size → o0 b < 40) (hB0 : Bd 68 5 2 o0 w0 b a0) (H : Builder_String.f a0 = some r) :
    Calls Tryz.prog 27 [.pointer (some ⟨b, 0, none⟩)].toArray w0 fun e_ w_ => ∃ (o_ : Tags), e_ = .returned (one [encS r]) ∧ Step o0 w0 o_ w_ [2] := by
  unfold Builder_String.f at H
  obtain ⟨u, hu, H⟩ := bindE H
  obtain rfl := Option.some.inj H
  have hl : a0.length ≤ 9223372036854775807 := of_decide_eq_true (chk_true hu)
  obtain ⟨p, v, hB0', hp, hO1⟩ := hB0
  have hb := hB0'.heap
  have hn := hO1.notin hb rfl
  have h0 : o0 b ≠ 0 := by rw [hB0'.tag]; decide
  have hO2 : Own Rep.u8 5 2 (apart1 o0 b) w0 v a0 := hO1.apart hn h0
  have HF := Fm.here2 (apart1 o0 b) w0
  have hB : Bk (apart1 o0 b) w0 41 b [p, v] 68 := ⟨apart1_same o0 b, hb⟩
  refine SX.calls [.pointer (some ⟨b, 0, none⟩)] Tryz.func27 rfl rfl ?_
  rw [Tryz.ntmps27]
  refine WC.seq ?_
  refine WC.region ?_
  refine WL.ex rfl (ex_assign (v := encS []) rfl) ?_
  refine WL.nil ?_
  refine WC.seq ?_
  refine WC.regionD' HF [2] 12 12 (by kernel_rfl) rfl ?_
  intro w1 s1
  replace hO2 := hO2.step s1 rfl rfl
  replace hB := hB.step s1 rfl
  replace HF := HF.step s1 rfl
  have hBD := hB
  have sR := HF.here [2]
  obtain ⟨A, c, e, hlc, hr⟩ := hO2.row
  subst e
  refine WA.ex 0 rfl (by kernel_rfl) (by kernel_rfl) (by kernel_rfl) rfl ⟨_, sR⟩ (fun w_ hS_ => ex_move (v := .pointer (some ⟨b, 0, none⟩)) rfl) ?_
  refine WA.ex 1 rfl (by kernel_rfl) (by kernel_rfl) (by kernel_rfl) rfl ⟨_, sR⟩ (fun w_ hS_ => ex_nilCheck rfl) ?_
  refine WA.ex 2 rfl (by kernel_rfl) (by kernel_rfl) (by kernel_rfl) rfl ⟨_, sR⟩ (fun w_ hS_ => ex_fieldAddr (k := 0) rfl Tryz.underlying68 rfl (by kernel_rfl)) ?_
  refine WA.ex 3 rfl (by kernel_rfl) (by kernel_rfl) (by kernel_rfl) rfl ⟨_, sR⟩ (fun w_ hS_ => ex_load1 (v := .slice A a0.length c) rfl Tryz.underlying66 rfl ((hBD.step hS_.choose_spec rfl).cell rfl)) ?_
  refine WA.ex 5 rfl (by kernel_rfl) (by kernel_rfl) (by kernel_rfl) rfl ⟨_, sR⟩ (fun w_ hS_ => ex_move (v := .pointer (some ⟨b, 0, none⟩)) rfl) ?_
  refine WA.ex 6 rfl (by kernel_rfl) (by kernel_rfl) (by kernel_rfl) rfl ⟨_, sR⟩ (fun w_ hS_ => ex_nilCheck rfl) ?_
  refine WA.ex 7 rfl (by kernel_rfl) (by kernel_rfl) (by kernel_rfl) rfl ⟨_, sR⟩ (fun w_ hS_ => ex_fieldAddr (k := 0) rfl Tryz.underlying68 rfl (by kernel_rfl)) ?_
  refine WA.ex 8 rfl (by kernel_rfl) (by kernel_rfl) (by kernel_rfl) rfl ⟨_, sR⟩ (fun w_ hS_ => ex_load1 (v := .slice A a0.length c) rfl Tryz.underlying66 rfl ((hBD.step hS_.choose_spec rfl).cell rfl)) ?_
  refine WA.ex 9 rfl (by kernel_rfl) (by kernel_rfl) (by kernel_rfl) rfl ⟨_, sR⟩ (fun w_ hS_ => ex_len_slice (A := A) (m := a0.length) (c := c) rfl Tryz.underlying66) ?_
  have hdata : ∃ q w2 o2, (Builtin.unsafeSliceData_ #[66] 109 #[.slice A a0.length c]).run Tryz.prog w1 = .ok (.pointer q) w2 ∧ Step (apart1 o0 b) w1 o2 w2 [] ∧ (a0 ≠ [] → q = A) := by
    cases A with
    | none => exact ⟨none, w1, _, Lib.run_unsafeSliceData_nil w1 _ _ _ _, Step.refl _ _ _, fun _ => rfl⟩
    | some ad =>
      by_cases hc : c = 0
      · subst hc
        obtain ⟨cells, hown, ht, hm⟩ := hO2
        rcases hown.2 with ⟨hz, _⟩ | ⟨g, cap, cur, hv, _, hg, _⟩
        · cases hz
        · injection hv with e1 _ e3
          injection e1 with e1
          subst e1
          exact ⟨_, _, _, Lib.run_unsafeSliceData_zero (P := Tryz.prog) w1 #[66] 109 5 Tryz.underlying109 ⟨g, 0, none⟩ a0.length (5, cur.size) (by simp [World.shape?, hg]), step_alloc (apart1 o0 b) w1 1 _ [], fun h => absurd (List.eq_nil_of_length_eq_zero (by omega)) h⟩
      · exact ⟨some ad, w1, _, Lib.run_unsafeSliceData_row w1 _ _ ad _ _ hc, Step.refl _ _ _, fun _ => rfl⟩
  obtain ⟨q, w2, o2, hr2, s2, hq⟩ := hdata
  refine WA.one 4 (by kernel_rfl) rfl rfl ?_
  refine OW.val (v := .pointer q) (w' := w2) rfl (run_usd (v := .slice A a0.length c) rfl hr2) ?_
  replace sR := Step.trans sR s2 (M := [2]) rfl rfl
  replace hO2 := hO2.step s2 rfl rfl
  refine ⟨⟨_, sR⟩, ?_⟩
  obtain ⟨w3, hr3, s3⟩ := unsafe_string 2 o2 w2 A a0 c q hO2 hq hl
  refine WA.one 10 (by kernel_rfl) rfl rfl ?_
  refine OW.val (v := encS a0) (w' := w3) rfl (run_us (v := .pointer q) (u := .int .i64 (a0.length : Int)) rfl rfl hr3) ?_
  replace sR := Step.trans sR s3 (M := [2]) rfl rfl
  refine ⟨⟨_, sR⟩, ?_⟩
  refine WA.one 11 (by kernel_rfl) rfl rfl ?_
  refine OW.ex rfl (ex_assign (v := encS a0) rfl) ?_
  refine ⟨⟨_, sR⟩, ?_⟩
  refine WA.done (by kernel_rfl) ?_
  refine WC.ret ?_
  exact ⟨_, .tmp (encS a0) rfl .nil, _, rfl, apart_step hO hB0'.tag (Step.trans s1 sR (M := [41, 2]) rfl rfl) rfl⟩

/-! ### syntax_Print -/
set_option maxRecDepth 100000 in
theorem syntax_Print.calls (k : Nat) (o0 : Tags) (w0 : World) (pb0 : Nat) (pv0_0 : Value) (pb0_1 : Nat) {a0 : T_formula_Table} {a1 : Int} {a0_1 : (List (T_api_Node × Int))} {r : (List UInt8) × Int} (H : syntax_Print.f k a0 a1 a0_1 = some r) (hO : ∀ b, b < w0.heap.size → o0 b < 40) (hB0 : Bk o0 w0 2 pb0 [pv0_0, .map (some pb0_1)] 56) (hO0_0 : Own T_api_Node.rep 60 3 o0 w0 pv0_0 a0.f_rows) (hM0_1 : Mp (fun x_ : T_api_Node => Value.agg #[ii x_.f_Kind, encS x_.f_Name, ii x_.f_L, ii x_.f_R]) (fun v_ : Int => ii v_) 4 o0 w0 pb0_1 a0_1) :
  Calls Tryz.prog 9 [pp pb0 0, ii a1].toArray w0 fun e_ w_ => ∃ (o_ : Tags), e_ = .returned (one [encS r.1, ii r.2]) ∧ Step o0 w0 o_ w_ [] := by
 have HF := Fm.refl hO []
 unfold syntax_Print.f at H
 refine SX.calls [pp pb0 0, ii a1] Tryz.func9 rfl rfl ?_
 rw [Tryz.ntmps9]
 refine WC.seq <|
  WC.region <|
  E rfl (sg (encS ([] : List UInt8)) rfl) <|
  E rfl (sg (ii 0) rfl) <|
  WL.nil <|
  WC.seq <|
  WC.seq <|
  WC.region <|
  E rfl (mv (pp pb0 0) rfl) ?_
 obtain ⟨z101, hz101, H⟩ := bindE H
 refine WL.op rfl <|
  OW.call [pp pb0 0] rfl Tryz.func23 (by kernel_rfl) (by kernel_rfl) (map_cons' rfl rfl) (syntax_known.calls k _ _ pb0 pv0_0 pb0_1 (a0 := a0) hz101 (HF.ten (V := [0]) (L := [2, 3, 4]) rfl) (Bk.vw hB0 rfl) (Own.vw hO0_0 rfl rfl) (Mp.vw hM0_1 rfl)) ?_
 rintro _ w102 ⟨o103, rfl, s104⟩
 refine ⟨_, rfl, ?_⟩
 replace s104 := un_stepL (J := []) (L' := []) s104 rfl rfl
 refine E rfl (ex_not (b := z101) rfl) <|
  WL.nil ?_
 rcases condE H with ⟨c105, H⟩ | ⟨c105, H⟩
 ·
  refine WC.cond_t (vb c105 rfl) <|
   WC.seq <|
   WC.region <|
   E rfl (sg (encS ([] : List UInt8)) rfl) <|
   E rfl (sg (ii 1) rfl) <|
   WL.nil <|
   WC.ret ?_
  obtain rfl := Option.some.inj H
  replace HF := HF.step s104 rfl
  exact ⟨_, (.tmp _ rfl (.tmp _ rfl .nil)), _, rfl, HF.out⟩
 ·
  refine WC.cond_f (vb c105 rfl) <|
   WC.skip <|
   WC.seq <|
   WC.seq <|
   WC.region <|
   E rfl (mv (pp pb0 0) rfl) <|
   E rfl (mv (ii a1) rfl) ?_
  obtain ⟨z106, hz106, H⟩ := bindE H
  refine WL.op rfl ?_
  replace hO0_0 := hO0_0.step s104 rfl rfl
  replace hB0 := hB0.step s104 rfl
  replace hM0_1 := hM0_1.step s104 rfl
  replace HF := HF.step s104 rfl
  refine OW.call [pp pb0 0, ii a1] rfl Tryz.func24 (by kernel_rfl) (by kernel_rfl) (map_cons' rfl (map_cons' rfl rfl)) (formula_Table_Node.calls _ _ pb0 pv0_0 pb0_1 (a0 := a0) hz106 (HF.ten (V := [0]) (L := [2, 3, 4]) rfl) (Bk.vw hB0 rfl) (Own.vw hO0_0 rfl rfl) (Mp.vw hM0_1 rfl)) ?_
  rintro _ w107 ⟨o108, rfl, s109⟩
  refine ⟨_, rfl, ?_⟩
  replace s109 := un_stepL (J := []) (L' := []) s109 rfl rfl
  refine E rfl (mv (.tuple #[.agg #[ii z106.1.f_Kind, encS z106.1.f_Name, ii z106.1.f_L, ii z106.1.f_R], .bool z106.2]) rfl) <|
   E rfl (ex_extract rfl rfl) <|
   E rfl (ex_extract rfl rfl) <|
   WL.op rfl ?_
  replace HF := HF.step s109 rfl
  refine OW.alloc' [ii (0 : Int), encS ([] : List UInt8), ii (0 : Int), ii (0 : Int)] 40 HF rfl zr60 rfl ?_
  intro o111 w112 b110 s113 hB114
  refine WL.op rfl <|
   OW.storeW rfl rfl sz60 hB114 rfl (oa rfl) ?_
  intro w115 s116 hB117
  refine E rfl (sg (.bool z106.2) rfl) <|
   WL.nil <|
   WC.seq <|
   WC.region <|
   E rfl (mv (.bool z106.2) rfl) <|
   E rfl (ex_not (b := z106.2) rfl) <|
   WL.nil ?_
  rcases condE H with ⟨c118, H⟩ | ⟨c118, H⟩
  ·
   refine WC.cond_t (vb c118 rfl) <|
    WC.seq <|
    WC.region <|
    E rfl (sg (encS ([] : List UInt8)) rfl) <|
    E rfl (sg (ii 31) rfl) <|
    WL.nil <|
    WC.ret ?_
   obtain rfl := Option.some.inj H
   have k113_116 := s113.t s116
   replace HF := HF.step k113_116 rfl
   exact ⟨_, (.tmp _ rfl (.tmp _ rfl .nil)), _, rfl, HF.out⟩
  ·
   refine WC.cond_f (vb c118 rfl) <|
    WC.skip <|
    WC.seq <|
    WC.seq <|
    WC.region <|
    E rfl (mv (pp pb0 0) rfl) <|
    E rfl (mv (ii a1) rfl) <|
    WL.op rfl ?_
   have k113_116 := s113.t s116
   replace HF := HF.step k113_116 rfl
   refine OW.makeMap (fun n_ : Int => Value.int .i64 n_) (fun v_ : Int => ii v_) 41 HF rfl ?_
   intro o120 w121 b119 s122 hM123
   obtain ⟨z124, hz124, H⟩ := bindE H
   refine WL.op rfl ?_
   replace HF := HF.step s122 rfl
   have k109_122 := ((s109.t s113).t s116).t s122
   replace hO0_0 := hO0_0.step k109_122 rfl rfl
   replace hB0 := hB0.step k109_122 rfl
   replace hM0_1 := hM0_1.step k109_122 rfl
   refine OW.call [pp pb0 0, ii a1, .map (some b119)] rfl Tryz.func25 (by kernel_rfl) (by kernel_rfl) (map_cons' rfl (map_cons' rfl (map_cons' rfl rfl))) (syntax_width.calls k _ _ pb0 pv0_0 b119 pb0_1 (a0 := a0) hz124 (HF.ten (V := [0]) (L := [2, 3, 41, 4]) rfl) (Bk.vw hB0 rfl) (Own.vw hO0_0 rfl rfl) (Mp.vw hM123 rfl) (Mp.vw hM0_1 rfl)) ?_
   rintro _ w125 ⟨o126, rfl, s127, hM128⟩
   refine ⟨_, rfl, ?_⟩
   replace hM128 := Mp.unO (J := []) 2 hM128 s127 rfl rfl rfl
   replace s127 := un_stepL (J := []) (L' := [41]) s127 rfl rfl
   refine E rfl (e2 bin_gtr rfl rfl) <|
    WL.nil ?_
   rcases condE H with ⟨c129, H⟩ | ⟨c129, H⟩
   ·
    refine WC.cond_t (vb c129 rfl) <|
     WC.seq <|
     WC.region <|
     E rfl (sg (encS ([] : List UInt8)) rfl) <|
     E rfl (sg (ii 11) rfl) <|
     WL.nil <|
     WC.ret ?_
    obtain rfl := Option.some.inj H
    replace HF := HF.step s127 rfl
    exact ⟨_, (.tmp _ rfl (.tmp _ rfl .nil)), _, rfl, HF.out⟩
   ·
    refine WC.cond_f (vb c129 rfl) <|
     WC.skip <|
     WC.seq <|
     WC.region <|
     WL.op rfl ?_
    replace HF := HF.step s127 rfl
    refine OW.allocFr 42 HF rfl (by kernel_rfl) ?_
    intro o131 w132 b130 s133 hB134 hl135
    refine WL.nil <|
     WC.seq <|
     WC.region <|
     E rfl (mv (pp pb0 0) rfl) <|
     E rfl (mv (ii a1) rfl) ?_
    have hB136 := Bd.fresh (E := 5) hB134
    obtain ⟨z137, hz137, H⟩ := bindE H
    refine WL.op rfl ?_
    replace HF := HF.step s133 rfl
    have k127_133 := s127.t s133
    replace hO0_0 := hO0_0.step k127_133 rfl rfl
    replace hB0 := hB0.step k127_133 rfl
    replace hM0_1 := hM0_1.step k127_133 rfl
    refine OW.call [pp b130 0, pp pb0 0, ii a1, ii 0] rfl Tryz.func26 (by kernel_rfl) (by kernel_rfl) (map_cons' rfl (map_cons' rfl (map_cons' rfl (map_cons' rfl rfl)))) (syntax_write.calls k _ _ b130 pb0 pv0_0 pb0_1 (a1 := a0) hz137 (HF.ten (V := [0]) (L := [42, 2, 3, 4]) rfl) (Bd.vw hB136 rfl rfl) (Bk.vw hB0 rfl) (Own.vw hO0_0 rfl rfl) (Mp.vw hM0_1 rfl)) ?_
    rintro _ w138 ⟨o139, rfl, s140, hB141⟩
    refine ⟨_, rfl, ?_⟩
    replace hB141 := Bd.unO (J := []) 0 hB141 s140 rfl rfl rfl
    replace s140 := un_stepL (J := []) (L' := [42]) s140 rfl rfl
    refine WL.nil <|
     WC.seq <|
     WC.region ?_
    obtain ⟨z142, hz142, H⟩ := bindE H
    refine WL.op rfl ?_
    replace HF := HF.step s140 rfl
    refine OW.call [pp b130 0] rfl Tryz.func27 (by kernel_rfl) (by kernel_rfl) (map_cons' rfl rfl) (Builder_String.calls _ _ b130 z137 z142 (HF.ten (V := [0]) (L := [42]) rfl) (Bd.vw hB141 rfl rfl) hz142) ?_
    rintro _ w143 ⟨o144, rfl, s145⟩
    refine ⟨_, rfl, ?_⟩
    replace s145 := un_stepL (J := []) (L' := [42]) s145 rfl rfl
    refine E rfl (sg (encS z142) rfl) <|
     E rfl (sg (ii 0) rfl) <|
     WL.nil <|
     WC.ret ?_
    obtain rfl := Option.some.inj H
    replace HF := HF.step s145 rfl
    exact ⟨_, (.tmp _ rfl (.tmp _ rfl .nil)), _, rfl, HF.out⟩

/-! ### dictumlaw04_num -/
set_option maxRecDepth 100000 in
theorem dictumlaw04_num.calls (o0 : Tags) (w0 : World) {a0 : Int} {r : Int} (H : dictumlaw04_num.f a0 = some r) (hO : ∀ b, b < w0.heap.size → o0 b < 40) :
  Calls Tryz.prog 10 [ii a0].toArray w0 fun e_ w_ => ∃ (o_ : Tags), e_ = .returned (one [ii r]) ∧ Step o0 w0 o_ w_ [] := by
 have HF := Fm.refl hO []
 unfold dictumlaw04_num.f at H
 refine SX.calls [ii a0] Tryz.func10 rfl rfl ?_
 rw [Tryz.ntmps10]
 refine WC.seq <|
  WC.region <|
  E rfl (sg (ii 0) rfl) <|
  WL.nil <|
  WC.seq <|
  WC.region <|
  E rfl (mv (ii a0) rfl) <|
  E rfl (sg (ii a0) rfl) <|
  WL.nil <|
  WC.ret ?_
 obtain rfl := Option.some.inj H
 exact ⟨_, (.tmp _ rfl .nil), _, rfl, HF.out⟩

/-! ### token_cursor_here -/
set_option maxRecDepth 100000 in
theorem token_cursor_here.calls (o0 : Tags) (w0 : World) (pb0 : Nat) {a0 : T_token_cursor} {r : (List UInt8)} (H : token_cursor_here.f a0 = some r) (hO : ∀ b, b < w0.heap.size → o0 b < 40) (hB0 : Bk o0 w0 2 pb0 [encS a0.f_s, ii a0.f_at.f_Line, ii a0.f_at.f_Col, ii a0.f_at.f_Off] 128) :
  Calls Tryz.prog 76 [pp pb0 0].toArray w0 fun e_ w_ => ∃ (o_ : Tags), e_ = .returned (one [encS r]) ∧ Step o0 w0 o_ w_ [] := by
 have HF := Fm.refl hO []
 unfold token_cursor_here.f at H
 refine SX.calls [pp pb0 0] Tryz.func76 rfl rfl ?_
 rw [Tryz.ntmps76]
 refine WC.seq <|
  WC.region <|
  E rfl (sg (encS ([] : List UInt8)) rfl) <|
  WL.nil <|
  WC.seq <|
  WC.regionD' HF [] 11 11 (by kernel_rfl) rfl ?_
 intro w101 s102
 replace hB0 := hB0.step s102 rfl
 have hB0D := hB0
 replace HF := HF.step s102 rfl
 have sR := HF.here []
 refine WA.seq [0, 1, 2, 3, 4, 5, 6, 7, 8, 9, 10] (lb 11 2047) 0 (by kernel_rfl) rfl ⟨_, sR⟩ <|
  X1 rfl (fun w_ hS_ => ex_move (v := pp pb0 0) rfl) <|
  X1 rfl (fun w_ hS_ => ex_nilCheck rfl) <|
  X1 rfl (fun w_ hS_ => ex_fieldAddr rfl U128 rfl sz9) <|
  X1 rfl (fun w_ hS_ => ex_load1 (v := encS a0.f_s) rfl U9 rfl ((hB0D.step hS_.choose_spec rfl).cell rfl)) <|
  X1 rfl (fun w_ hS_ => ex_move (v := pp pb0 0) rfl) <|
  X1 rfl (fun w_ hS_ => ex_nilCheck rfl) <|
  X1 rfl (fun w_ hS_ => ex_fieldAddr rfl U128 rfl sz34) <|
  X1 rfl (fun w_ hS_ => ex_fieldAddr rfl U34 rfl sz3) <|
  X1 rfl (fun w_ hS_ => ex_load1 (v := ii a0.f_at.f_Off) rfl U3 rfl ((hB0D.step hS_.choose_spec rfl).cell rfl)) ?_
 obtain ⟨y103, hy103, H⟩ := bindE H
 refine X1 rfl (fun w_ hS_ => ex_slice_str (l := a0.f_at.f_Off) (h := (a0.f_s.length : Int)) rfl U9 ⟨_, rfl⟩ rfl hy103) <|
  X1 rfl (fun w_ hS_ => ex_assign (v := encS y103) rfl) <|
  WA.done (by kernel_rfl) <|
  WC.ret ?_
 obtain rfl := Option.some.inj H
 exact ⟨_, (.tmp _ rfl .nil), _, rfl, HF.out⟩


/-! ### utf8.DecodeRuneInString -/
theorem utf8_DecodeRuneInString.calls (o0 : Tags) (w0 : World) (a0 : List UInt8) (r : Int × Int) (hO : ∀ b, b < w0.heap.size → o0 b < 40) (hG : Gl GG o0 w0) (H : utf8_DecodeRuneInString.f a0 = some r) :
    Calls Tryz.prog 98 [encS a0].toArray w0 fun e_ w_ => ∃ (o_ : Tags), e_ = .returned (one [.int .i32 r.1, .int .i64 r.2]) ∧ Step o0 w0 o_ w_ [] := by
  obtain rfl := Option.some.inj H
  refine Calls.mono (Tryz.utf8_DecodeRuneInString ⟨a0.toArray⟩ w0 hG.2.1) ?_
  rintro e w ⟨rfl, hb⟩
  exact ⟨o0, rfl, below_step hb⟩

/-! ### token_cursor_skip -/
set_option maxRecDepth 100000 in
theorem token_cursor_skip.calls (k : Nat) (o0 : Tags) (w0 : World) (pb0 : Nat) {a0 : T_token_cursor} {a1 : Int} {r : T_token_cursor} (H : token_cursor_skip.f k a0 a1 = some r) (hO : ∀ b, b < w0.heap.size → o0 b < 40) (hB0 : Bk o0 w0 2 pb0 [encS a0.f_s, ii a0.f_at.f_Line, ii a0.f_at.f_Col, ii a0.f_at.f_Off] 128) (hG : Gl GG o0 w0) :
  Calls Tryz.prog 78 [pp pb0 0, ii a1].toArray w0 fun e_ w_ => ∃ (o_ : Tags), e_ = .returned (one []) ∧ Step o0 w0 o_ w_ [2] ∧ Bk o_ w_ 2 pb0 [encS r.f_s, ii r.f_at.f_Line, ii r.f_at.f_Col, ii r.f_at.f_Off] 128 := by
 have HF := Fm.refl hO [2]
 unfold token_cursor_skip.f at H
 refine SX.calls [pp pb0 0, ii a1] Tryz.func78 rfl rfl ?_
 rw [Tryz.ntmps78]
 refine WC.seq <|
  WC.region <|
  E rfl (mv (pp pb0 0) rfl) <|
  E rfl (ex_nilCheck rfl) <|
  E rfl (ex_fieldAddr rfl U128 rfl sz34) <|
  E rfl (ex_fieldAddr rfl U34 rfl sz3) <|
  E rfl (ex_load1 rfl U3 rfl (hB0.cell rfl)) <|
  E rfl (mv (ii a1) rfl) <|
  E rfl (e2 bin_add64 rfl rfl) <|
  E rfl (sg (ii (wrap64 (a0.f_at.f_Off + a1))) rfl) <|
  WL.nil ?_
 obtain ⟨z103, hz103, H⟩ := bindE H
 refine WC.for (fun k_ ρ_ w_ => ∃ (o_ : Tags) (x101 : T_token_cursor), Fm o0 w0 o_ w_ [2] ∧ Bk o_ w_ 2 pb0 [encS x101.f_s, ii x101.f_at.f_Line, ii x101.f_at.f_Col, ii x101.f_at.f_Off] 128 ∧ Gl GG o_ w_ ∧ ρ_ 0 = pp pb0 0 ∧ ρ_ 4 = ii (wrap64 (a0.f_at.f_Off + a1)) ∧ token_cursor_skip.l1 k a0 a1 k_ x101 = some z103) k (fun ρ_ w_ => ∃ (o_ : Tags), Fm o0 w0 o_ w_ [2] ∧ Bk o_ w_ 2 pb0 [encS z103.f_s, ii z103.f_at.f_Line, ii z103.f_at.f_Col, ii z103.f_at.f_Off] 128 ∧ Gl GG o_ w_) ⟨_, a0, HF, hB0, hG, rfl, rfl, hz103⟩ ?case104 ?_
 case case104 =>
  rintro ρ142 w143 ⟨o144, HF, hB0, hG⟩
  obtain rfl := Option.some.inj H
  exact ⟨_, .nil, _, rfl, HF.out, hB0⟩
 have Ho105 := H
 rintro k106 ρ107 w108 ⟨o109, x101, HF, hB0, hG, s0_100, s4_100, H⟩
 cases k106 with
 | zero => cases H
 | succ k106 =>
 rw [token_cursor_skip.l1.eq_2] at H
 refine WC.seq <|
  WC.seq <|
  WC.region <|
  E rfl (mv (pp pb0 0) s0_100) <|
  E rfl (ex_nilCheck rfl) <|
  E rfl (ex_fieldAddr rfl U128 rfl sz34) <|
  E rfl (ex_fieldAddr rfl U34 rfl sz3) <|
  E rfl (ex_load1 rfl U3 rfl (hB0.cell rfl)) <|
  E rfl (mv (ii (wrap64 (a0.f_at.f_Off + a1))) s4_100) <|
  E rfl (e2 bin_lss rfl rfl) <|
  WL.nil ?_
 rcases condE H with ⟨c110, H⟩ | ⟨c110, H⟩
 ·
  refine WC.cond_t (vb c110 rfl) <|
   WC.skip <|
   WC.block <|
   WC.seq <|
   WC.region <|
   E rfl (mv (pp pb0 0) s0_100) ?_
  obtain ⟨z111, hz111, H⟩ := bindE H
  refine WL.op rfl <|
   OW.call [pp pb0 0] rfl Tryz.func76 (by kernel_rfl) (by kernel_rfl) (map_cons' rfl rfl) (token_cursor_here.calls _ _ pb0 (a0 := x101) hz111 (HF.ten (V := [0]) (L := [2]) rfl) (Bk.vw hB0 rfl)) ?_
  rintro _ w112 ⟨o113, rfl, s114⟩
  refine ⟨_, rfl, ?_⟩
  replace s114 := un_stepL (J := []) (L' := []) s114 rfl rfl
  obtain ⟨z115, hz115, H⟩ := bindE H
  refine WL.op rfl ?_
  replace hG := hG.step s114 rfl
  replace HF := HF.step s114 rfl
  refine OW.call [encS z111] rfl Tryz.func98 (by kernel_rfl) (by kernel_rfl) (map_cons' rfl rfl) (utf8_DecodeRuneInString.calls _ _ z111 z115 (HF.ten (V := [0]) (L := []) rfl) (Gl.vw hG rfl) hz115) ?_
  rintro _ w116 ⟨o117, rfl, s118⟩
  refine ⟨_, rfl, ?_⟩
  replace s118 := un_stepL (J := []) (L' := []) s118 rfl rfl
  refine E rfl (mv (.tuple #[.int .i32 z115.1, ii z115.2]) rfl) <|
   E rfl (ex_extract rfl rfl) <|
   E rfl (ex_extract rfl rfl) <|
   E rfl (sg (.int .i32 z115.1) rfl) <|
   E rfl (sg (ii z115.2) rfl) <|
   WL.nil ?_
  obtain ⟨z120, hz120, H⟩ := bindE H
  refine WC.cut (fun ρ_ w_ => ∃ (o_ : Tags), Fm o0 w0 o_ w_ [2] ∧ Bk o_ w_ 2 pb0 [encS z120.f_s, ii z120.f_at.f_Line, ii z120.f_at.f_Col, ii z120.f_at.f_Off] 128 ∧ Gl GG o_ w_ ∧ ρ_ 0 = pp pb0 0 ∧ ρ_ 4 = ii (wrap64 (a0.f_at.f_Off + a1)) ∧ ρ_ 6 = ii z115.2) ?case121 ?_
  case case121 =>
   rintro ρ124 w122 ⟨o123, HF, hB128, hG, s0_118, s4_118, s6_118⟩
   refine WC.seq <|
    WC.region <|
    E rfl (mv (pp pb0 0) s0_118) <|
    E rfl (ex_nilCheck rfl) <|
    E rfl (ex_fieldAddr rfl U128 rfl sz34) <|
    E rfl (ex_fieldAddr rfl U34 rfl sz3) <|
    E rfl (ex_load1 rfl U3 rfl (hB128.cell rfl)) <|
    E rfl (e2 bin_add64 rfl rfl) <|
    E rfl (ex_nilCheck rfl) <|
    E rfl (ex_fieldAddr rfl U128 rfl sz34) <|
    E rfl (ex_fieldAddr rfl U34 rfl sz3) <|
    WL.op rfl <|
    OW.store [encS z120.f_s, ii z120.f_at.f_Line, ii (wrap64 (z120.f_at.f_Col + 1)), ii z120.f_at.f_Off] rfl (vs := [ii (wrap64 (z120.f_at.f_Col + 1))]) rfl sz3 hB128 (Nat.le_of_ble_eq_true rfl) (oa rfl) rfl ?_
   intro w125 s126 hB127
   refine WL.nil <|
    WC.region <|
    E rfl (mv (pp pb0 0) s0_118) <|
    E rfl (ex_nilCheck rfl) <|
    E rfl (ex_fieldAddr rfl U128 rfl sz34) <|
    E rfl (ex_fieldAddr rfl U34 rfl sz3) <|
    E rfl (ex_load1 rfl U3 rfl (hB127.cell rfl)) <|
    E rfl (mv (ii z115.2) s6_118) <|
    E rfl (e2 bin_add64 rfl rfl) <|
    E rfl (ex_nilCheck rfl) <|
    E rfl (ex_fieldAddr rfl U128 rfl sz34) <|
    E rfl (ex_fieldAddr rfl U34 rfl sz3) <|
    WL.op rfl <|
    OW.store [encS z120.f_s, ii z120.f_at.f_Line, ii (wrap64 (z120.f_at.f_Col + 1)), ii (wrap64 (z120.f_at.f_Off + z115.2))] rfl (vs := [ii (wrap64 (z120.f_at.f_Off + z115.2))]) rfl sz3 hB127 (Nat.le_of_ble_eq_true rfl) (oa rfl) rfl ?_
   intro w128 s129 hB130
   refine WL.nil ?_
   have k126_129 := s126.t s129
   replace hG := hG.step k126_129 rfl
   replace HF := HF.step k126_129 rfl
   exact ⟨k106, Nat.lt_succ_self _, ⟨_, (⟨z120.f_s, (⟨z120.f_at.f_Line, wrap64 (z120.f_at.f_Col + 1), wrap64 (z120.f_at.f_Off + z115.2)⟩ : T_api_Spot)⟩ : T_token_cursor), HF, hB130, hG, s0_118, s4_118, H⟩⟩
  have Ho131 := H
  replace H := hz120
  refine WC.seq ?_
  replace HF := HF.step s118 rfl
  refine WC.regionD' HF [] 11 11 (by kernel_rfl) rfl ?_
  intro w132 s133
  have k114_133 := (s114.t s118).t s133
  replace hB0 := hB0.step k114_133 rfl
  have hB0D := hB0
  replace HF := HF.step s133 rfl
  have sR := HF.here []
  refine WA.seq [0, 1, 2, 3, 4, 5, 6, 7, 8, 9, 10] (lb 11 2047) 0 (by kernel_rfl) rfl ⟨_, sR⟩ <|
   X1 rfl (fun w_ hS_ => ex_move (v := pp pb0 0) s0_100) <|
   X1 rfl (fun w_ hS_ => ex_nilCheck rfl) <|
   X1 rfl (fun w_ hS_ => ex_fieldAddr rfl U128 rfl sz9) <|
   X1 rfl (fun w_ hS_ => ex_load1 (v := encS x101.f_s) rfl U9 rfl ((hB0D.step hS_.choose_spec rfl).cell rfl)) <|
   X1 rfl (fun w_ hS_ => ex_move (v := pp pb0 0) s0_100) <|
   X1 rfl (fun w_ hS_ => ex_nilCheck rfl) <|
   X1 rfl (fun w_ hS_ => ex_fieldAddr rfl U128 rfl sz34) <|
   X1 rfl (fun w_ hS_ => ex_fieldAddr rfl U34 rfl sz3) <|
   X1 rfl (fun w_ hS_ => ex_load1 (v := ii x101.f_at.f_Off) rfl U3 rfl ((hB0D.step hS_.choose_spec rfl).cell rfl)) ?_
  obtain ⟨x134, hx134, H⟩ := bindE H
  refine X1 rfl (fun w_ hS_ => ex_index_str (i := x101.f_at.f_Off) rfl rfl U9 (ix_some hx134).1 (ix_some hx134).2.2) <|
   X1 rfl (fun w_ hS_ => ex_bin (a := enc8 x134) (b := enc8 (10 : UInt8)) (v := .bool (x134 == (10 : UInt8))) rfl rfl bin_eql_u8) <|
   WA.done (by kernel_rfl) ?_
  rcases condE H with ⟨c135, H⟩ | ⟨c135, H⟩
  ·
   refine WC.cond_t (vb c135 rfl) <|
    WC.region <|
    E rfl (mv (pp pb0 0) s0_100) <|
    E rfl (mv (pp pb0 0) s0_100) <|
    E rfl (mv (pp pb0 0) s0_100) <|
    E rfl (ex_nilCheck rfl) <|
    E rfl (ex_fieldAddr rfl U128 rfl sz34) <|
    E rfl (ex_fieldAddr rfl U34 rfl sz3) <|
    E rfl (ex_load1 rfl U3 rfl (hB0.cell rfl)) <|
    E rfl (e2 bin_add64 rfl rfl) <|
    E rfl (ex_nilCheck rfl) <|
    E rfl (ex_fieldAddr rfl U128 rfl sz34) <|
    E rfl (ex_fieldAddr rfl U34 rfl sz3) <|
    WL.op rfl <|
    OW.store [encS x101.f_s, ii (wrap64 (x101.f_at.f_Line + 1)), ii x101.f_at.f_Col, ii x101.f_at.f_Off] rfl (vs := [ii (wrap64 (x101.f_at.f_Line + 1))]) rfl sz3 hB0 (Nat.le_of_ble_eq_true rfl) (oa rfl) rfl ?_
   intro w136 s137 hB138
   refine E rfl (ex_nilCheck rfl) <|
    E rfl (ex_fieldAddr rfl U128 rfl sz34) <|
    E rfl (ex_fieldAddr rfl U34 rfl sz3) <|
    WL.op rfl <|
    OW.store [encS x101.f_s, ii (wrap64 (x101.f_at.f_Line + 1)), ii 0, ii x101.f_at.f_Off] rfl (vs := [ii 0]) rfl sz3 hB138 (Nat.le_of_ble_eq_true rfl) (oa rfl) rfl ?_
   intro w139 s140 hB141
   refine WL.nil ?_
   obtain rfl := Option.some.inj H
   have k137_140 := s137.t s140
   replace HF := HF.step k137_140 rfl
   have k118_140 := (s118.t s133).t k137_140
   replace hG := hG.step k118_140 rfl
   exact ⟨_, HF, hB141, hG, s0_100, s4_100, rfl⟩
  ·
   refine WC.cond_f (vb c135 rfl) <|
    WC.skip ?_
   obtain rfl := Option.some.inj H
   have k118_133 := s118.t s133
   replace hG := hG.step k118_133 rfl
   exact ⟨_, HF, hB0, hG, s0_100, s4_100, rfl⟩
 ·
  refine WC.cond_f (vb c110 rfl) <|
   WC.exit ?_
  obtain rfl := Option.some.inj H
  exact ⟨_, HF, hB0, hG⟩


/-! ### strings.IndexByte -/
theorem strings_IndexByte.calls (o0 : Tags) (w0 : World) (a0 : List UInt8) (a1 : UInt8) (r : Int) (hO : ∀ b, b < w0.heap.size → o0 b < 40) (H : strings_IndexByte.f a0 a1 = some r) :
    Calls Tryz.prog 92 [encS a0, enc8 a1].toArray w0 fun e_ w_ => ∃ (o_ : Tags), e_ = .returned (one [.int .i64 r]) ∧ Step o0 w0 o_ w_ [] := by
  obtain rfl := Option.some.inj H
  refine Calls.mono (Tryz.strings_IndexByte ⟨a0.toArray⟩ (a1.toNat : Int) w0) ?_
  rintro e w ⟨rfl, rfl⟩
  exact ⟨o0, by simp [one], Step.refl _ _ _⟩

/-! ### token_cursor_space -/
set_option maxRecDepth 100000 in
theorem token_cursor_space.calls (k : Nat) (o0 : Tags) (w0 : World) (pb0 : Nat) {a0 : T_token_cursor} {r : T_token_cursor} (H : token_cursor_space.f k a0 = some r) (hO : ∀ b, b < w0.heap.size → o0 b < 40) (hB0 : Bk o0 w0 2 pb0 [encS a0.f_s, ii a0.f_at.f_Line, ii a0.f_at.f_Col, ii a0.f_at.f_Off] 128) (hG : Gl GG o0 w0) :
  Calls Tryz.prog 75 [pp pb0 0].toArray w0 fun e_ w_ => ∃ (o_ : Tags), e_ = .returned (one []) ∧ Step o0 w0 o_ w_ [2] ∧ Bk o_ w_ 2 pb0 [encS r.f_s, ii r.f_at.f_Line, ii r.f_at.f_Col, ii r.f_at.f_Off] 128 := by
 have HF := Fm.refl hO [2]
 unfold token_cursor_space.f at H
 refine SX.calls [pp pb0 0] Tryz.func75 rfl rfl ?_
 rw [Tryz.ntmps75]
 refine WC.scope <|
  WC.seq <|
  WC.label <|
  WC.seq <|
  WC.region <|
  E rfl (mv (pp pb0 0) rfl) ?_
 obtain ⟨z101, hz101, H⟩ := bindE H
 refine WL.op rfl <|
  OW.call [pp pb0 0] rfl Tryz.func76 (by kernel_rfl) (by kernel_rfl) (map_cons' rfl rfl) (token_cursor_here.calls _ _ pb0 (a0 := a0) hz101 (HF.ten (V := [0]) (L := [2]) rfl) (Bk.vw hB0 rfl)) ?_
 rintro _ w102 ⟨o103, rfl, s104⟩
 refine ⟨_, rfl, ?_⟩
 replace s104 := un_stepL (J := []) (L' := []) s104 rfl rfl
 refine E rfl (sg (encS z101) rfl) <|
  WL.nil ?_
 obtain ⟨z108, hz108, H⟩ := bindE H
 replace hB0 := hB0.step s104 rfl
 replace hG := hG.step s104 rfl
 replace HF := HF.step s104 rfl
 refine WC.for (fun k_ ρ_ w_ => ∃ (o_ : Tags) (x105 : List UInt8) (x106 : T_token_cursor), Fm o0 w0 o_ w_ [2] ∧ Bk o_ w_ 2 pb0 [encS x106.f_s, ii x106.f_at.f_Line, ii x106.f_at.f_Col, ii x106.f_at.f_Off] 128 ∧ Gl GG o_ w_ ∧ ρ_ 0 = pp pb0 0 ∧ ρ_ 2 = encS x105 ∧ token_cursor_space.l1 k k_ x105 x106 = some z108) k (fun ρ_ w_ => ∃ (o_ : Tags), Fm o0 w0 o_ w_ [2] ∧ Bk o_ w_ 2 pb0 [encS z108.f_s, ii z108.f_at.f_Line, ii z108.f_at.f_Col, ii z108.f_at.f_Off] 128 ∧ Gl GG o_ w_) ⟨_, z101, a0, HF, hB0, hG, rfl, rfl, hz108⟩ ?case109 ?_
 case case109 =>
  rintro ρ159 w160 ⟨o161, HF, hB0, hG⟩
  refine ⟨fun l_ h_ => (by cases h_), ?_⟩
  obtain rfl := Option.some.inj H
  exact ⟨_, .nil, _, rfl, HF.out, hB0⟩
 have Ho110 := H
 rintro k111 ρ112 w113 ⟨o114, x105, x106, HF, hB0, hG, s0_104, s2_105, H⟩
 cases k111 with
 | zero => cases H
 | succ k111 =>
 rw [token_cursor_space.l1.eq_2] at H
 refine WC.seq <|
  WC.seq <|
  WC.region <|
  E rfl (mv (encS x105) s2_105) <|
  E rfl (e2 bin_neq_str rfl rfl) <|
  WL.nil ?_
 rcases condE H with ⟨c115, H⟩ | ⟨c115, H⟩
 ·
  refine WC.cond_t (vb c115 rfl) <|
   WC.skip <|
   WC.seq <|
   WC.block <|
   WC.seq <|
   WC.region <|
   E rfl (mv (encS x105) s2_105) ?_
  obtain ⟨x116, hx116, H⟩ := bindE H
  refine E rfl (ex_index_str (i := (0 : Int)) rfl rfl U9 (ix_some hx116).1 (ix_some hx116).2.2) <|
   WL.nil <|
   WC.block ?_
  obtain ⟨z118, hz118, H⟩ := bindE H
  refine WC.cut (fun ρ_ w_ => ∃ (o_ : Tags), Fm o0 w0 o_ w_ [2] ∧ Bk o_ w_ 2 pb0 [encS x106.f_s, ii x106.f_at.f_Line, ii x106.f_at.f_Col, ii x106.f_at.f_Off] 128 ∧ Gl GG o_ w_ ∧ ρ_ 0 = pp pb0 0 ∧ ρ_ 2 = encS x105 ∧ ρ_ 11 = enc8 x116 ∧ ρ_ 12 = .bool z118) ?case119 ?_
  case case119 =>
   rintro ρ122 w120 ⟨o121, HF, hB0, hG, s0_116, s2_116, s11_116, s12_117⟩
   rcases condE H with ⟨c123, H⟩ | ⟨c123, H⟩
   ·
    refine WC.cond_t (vb c123 s12_117) <|
     WC.region <|
     E rfl (mv (pp pb0 0) s0_116) ?_
    obtain ⟨z124, hz124, H⟩ := bindE H
    refine WL.op rfl <|
     OW.call [pp pb0 0, ii 1] rfl Tryz.func78 (by kernel_rfl) (by kernel_rfl) (map_cons' rfl (map_cons' rfl rfl)) (token_cursor_skip.calls k _ _ pb0 (a0 := x106) hz124 (HF.ten (V := [0]) (L := [2]) rfl) (Bk.vw hB0 rfl) (Gl.vw hG rfl)) ?_
    rintro _ w125 ⟨o126, rfl, s127, hB128⟩
    refine ⟨_, rfl, ?_⟩
    replace hB128 := Bk.unO (J := []) 0 hB128 s127 rfl rfl rfl
    replace s127 := un_stepL (J := []) (L' := [2]) s127 rfl rfl
    refine WL.nil <|
     WC.region <|
     E rfl (mv (pp pb0 0) s0_116) ?_
    obtain ⟨z129, hz129, H⟩ := bindE H
    refine WL.op rfl ?_
    replace HF := HF.step s127 rfl
    refine OW.call [pp pb0 0] rfl Tryz.func76 (by kernel_rfl) (by kernel_rfl) (map_cons' rfl rfl) (token_cursor_here.calls _ _ pb0 (a0 := z124) hz129 (HF.ten (V := [0]) (L := [2]) rfl) (Bk.vw hB128 rfl)) ?_
    rintro _ w130 ⟨o131, rfl, s132⟩
    refine ⟨_, rfl, ?_⟩
    replace s132 := un_stepL (J := []) (L' := []) s132 rfl rfl
    refine E rfl (sg (encS z129) rfl) <|
     WL.nil ?_
    replace hB128 := hB128.step s132 rfl
    replace HF := HF.step s132 rfl
    have k127_132 := s127.t s132
    replace hG := hG.step k127_132 rfl
    exact ⟨k111, Nat.lt_succ_self _, ⟨_, z129, z124, HF, hB128, hG, s0_116, rfl, H⟩⟩
   ·
    refine WC.cond_f (vb c123 s12_117) <|
     WC.seq <|
     WC.region <|
     E rfl (ex_bin (a := enc8 x116) (b := enc8 (35 : UInt8)) (v := .bool (x116 == (35 : UInt8))) s11_116 rfl bin_eql_u8) <|
     E rfl (sg (.bool (x116 == (35 : UInt8))) rfl) <|
     WL.nil ?_
    rcases condE H with ⟨c133, H⟩ | ⟨c133, H⟩
    ·
     refine WC.cond_t (vb c133 rfl) <|
      WC.seq <|
      WC.region <|
      E rfl (mv (encS x105) s2_116) ?_
     obtain ⟨z134, hz134, H⟩ := bindE H
     refine WL.op rfl <|
      OW.call [encS x105, enc8 (10 : UInt8)] rfl Tryz.func92 (by kernel_rfl) (by kernel_rfl) (map_cons' rfl (map_cons' rfl rfl)) (strings_IndexByte.calls _ _ x105 (10 : UInt8) z134 (HF.ten (V := [0]) (L := []) rfl)  hz134) ?_
     rintro _ w135 ⟨o136, rfl, s137⟩
     refine ⟨_, rfl, ?_⟩
     replace s137 := un_stepL (J := []) (L' := []) s137 rfl rfl
     refine E rfl (sg (ii z134) rfl) <|
      WL.nil ?_
     obtain ⟨z139, hz139, H⟩ := bindE H
     refine WC.cut (fun ρ_ w_ => ∃ (o_ : Tags), Fm o0 w0 o_ w_ [2] ∧ Bk o_ w_ 2 pb0 [encS x106.f_s, ii x106.f_at.f_Line, ii x106.f_at.f_Col, ii x106.f_at.f_Off] 128 ∧ Gl GG o_ w_ ∧ ρ_ 0 = pp pb0 0 ∧ ρ_ 2 = encS x105 ∧ ρ_ 3 = ii z139) ?case140 ?_
     case case140 =>
      rintro ρ143 w141 ⟨o142, HF, hB0, hG, s0_137, s2_137, s3_138⟩
      refine WC.region <|
       E rfl (mv (pp pb0 0) s0_137) <|
       E rfl (mv (ii z139) s3_138) ?_
      obtain ⟨z144, hz144, H⟩ := bindE H
      refine WL.op rfl <|
       OW.call [pp pb0 0, ii z139] rfl Tryz.func78 (by kernel_rfl) (by kernel_rfl) (map_cons' rfl (map_cons' rfl rfl)) (token_cursor_skip.calls k _ _ pb0 (a0 := x106) hz144 (HF.ten (V := [0]) (L := [2]) rfl) (Bk.vw hB0 rfl) (Gl.vw hG rfl)) ?_
      rintro _ w145 ⟨o146, rfl, s147, hB148⟩
      refine ⟨_, rfl, ?_⟩
      replace hB148 := Bk.unO (J := []) 0 hB148 s147 rfl rfl rfl
      replace s147 := un_stepL (J := []) (L' := [2]) s147 rfl rfl
      refine WL.nil <|
       WC.region <|
       E rfl (mv (pp pb0 0) s0_137) ?_
      obtain ⟨z149, hz149, H⟩ := bindE H
      refine WL.op rfl ?_
      replace HF := HF.step s147 rfl
      refine OW.call [pp pb0 0] rfl Tryz.func76 (by kernel_rfl) (by kernel_rfl) (map_cons' rfl rfl) (token_cursor_here.calls _ _ pb0 (a0 := z144) hz149 (HF.ten (V := [0]) (L := [2]) rfl) (Bk.vw hB148 rfl)) ?_
      rintro _ w150 ⟨o151, rfl, s152⟩
      refine ⟨_, rfl, ?_⟩
      replace s152 := un_stepL (J := []) (L' := []) s152 rfl rfl
      refine E rfl (sg (encS z149) rfl) <|
       WL.nil ?_
      replace hB148 := hB148.step s152 rfl
      replace HF := HF.step s152 rfl
      have k147_152 := s147.t s152
      replace hG := hG.step k147_152 rfl
      exact ⟨k111, Nat.lt_succ_self _, ⟨_, z149, z144, HF, hB148, hG, s0_137, rfl, H⟩⟩
     have Ho153 := H
     replace H := hz139
     refine WC.seq <|
      WC.region <|
      E rfl (mv (ii z134) rfl) <|
      E rfl (e2 bin_lss rfl rfl) <|
      WL.nil ?_
     rcases condE H with ⟨c154, H⟩ | ⟨c154, H⟩
     ·
      refine WC.cond_t (vb c154 rfl) <|
       WC.region <|
       E rfl (mv (encS x105) s2_116) <|
       E rfl (ex_len_str (s := x105) rfl U9) <|
       E rfl (sg (ii (x105.length : Int)) rfl) <|
       WL.nil ?_
      obtain rfl := Option.some.inj H
      replace hB0 := hB0.step s137 rfl
      replace hG := hG.step s137 rfl
      replace HF := HF.step s137 rfl
      exact ⟨_, HF, hB0, hG, s0_116, s2_116, rfl⟩
     ·
      refine WC.cond_f (vb c154 rfl) <|
       WC.skip ?_
      obtain rfl := Option.some.inj H
      replace hB0 := hB0.step s137 rfl
      replace hG := hG.step s137 rfl
      replace HF := HF.step s137 rfl
      exact ⟨_, HF, hB0, hG, s0_116, s2_116, rfl⟩
    ·
     refine WC.cond_f (vb c133 rfl) <|
      WC.exit ?_
     obtain rfl := Option.some.inj H
     exact ⟨_, HF, hB0, hG⟩
  have Ho155 := H
  replace H := hz118
  refine WC.seq <|
   WC.region <|
   E rfl (ex_bin (a := enc8 x116) (b := enc8 (32 : UInt8)) (v := .bool (x116 == (32 : UInt8))) rfl rfl bin_eql_u8) <|
   E rfl (sg (.bool (x116 == (32 : UInt8))) rfl) <|
   WL.nil ?_
  rcases condE H with ⟨c156, H⟩ | ⟨c156, H⟩
  ·
   refine WC.cond_t (vb c156 rfl) <|
    WC.skip ?_
   obtain rfl := Option.some.inj H
   exact ⟨_, HF, hB0, hG, s0_104, s2_105, rfl, rfl⟩
  ·
   refine WC.cond_f (vb c156 rfl) <|
    WC.seq <|
    WC.region <|
    E rfl (ex_bin (a := enc8 x116) (b := enc8 (9 : UInt8)) (v := .bool (x116 == (9 : UInt8))) rfl rfl bin_eql_u8) <|
    E rfl (sg (.bool (x116 == (9 : UInt8))) rfl) <|
    WL.nil ?_
   rcases condE H with ⟨c157, H⟩ | ⟨c157, H⟩
   ·
    refine WC.cond_t (vb c157 rfl) <|
     WC.skip ?_
    obtain rfl := Option.some.inj H
    exact ⟨_, HF, hB0, hG, s0_104, s2_105, rfl, rfl⟩
   ·
    refine WC.cond_f (vb c157 rfl) <|
     WC.seq <|
     WC.region <|
     E rfl (ex_bin (a := enc8 x116) (b := enc8 (10 : UInt8)) (v := .bool (x116 == (10 : UInt8))) rfl rfl bin_eql_u8) <|
     E rfl (sg (.bool (x116 == (10 : UInt8))) rfl) <|
     WL.nil ?_
    rcases condE H with ⟨c158, H⟩ | ⟨c158, H⟩
    ·
     refine WC.cond_t (vb c158 rfl) <|
      WC.skip ?_
     obtain rfl := Option.some.inj H
     exact ⟨_, HF, hB0, hG, s0_104, s2_105, rfl, rfl⟩
    ·
     refine WC.cond_f (vb c158 rfl) <|
      WC.region <|
      E rfl (ex_bin (a := enc8 x116) (b := enc8 (13 : UInt8)) (v := .bool (x116 == (13 : UInt8))) rfl rfl bin_eql_u8) <|
      E rfl (sg (.bool (x116 == (13 : UInt8))) rfl) <|
      WL.nil ?_
     obtain rfl := Option.some.inj H
     exact ⟨_, HF, hB0, hG, s0_104, s2_105, rfl, rfl⟩
 ·
  refine WC.cond_f (vb c115 rfl) <|
   WC.exit ?_
  obtain rfl := Option.some.inj H
  exact ⟨_, HF, hB0, hG⟩

/-! ### token_letter -/
set_option maxRecDepth 100000 in
theorem token_letter.calls (o0 : Tags) (w0 : World) {a0 : UInt8} {r : Bool} (H : token_letter.f a0 = some r) (hO : ∀ b, b < w0.heap.size → o0 b < 40) :
  Calls Tryz.prog 93 [enc8 a0].toArray w0 fun e_ w_ => ∃ (o_ : Tags), e_ = .returned (one [.bool r]) ∧ Step o0 w0 o_ w_ [] := by
 have HF := Fm.refl hO []
 unfold token_letter.f at H
 refine SX.calls [enc8 a0] Tryz.func93 rfl rfl ?_
 rw [Tryz.ntmps93]
 refine WC.seq <|
  WC.region <|
  E rfl (sg (.bool false) rfl) <|
  WL.nil <|
  WC.seq <|
  WC.region <|
  E rfl (mv (enc8 a0) rfl) <|
  E rfl (ex_bin (a := enc8 a0) (b := enc8 (32 : UInt8)) (v := enc8 (a0 ||| (32 : UInt8))) rfl rfl bin_or_u8) <|
  E rfl (ex_bin (a := enc8 (a0 ||| (32 : UInt8))) (b := enc8 (97 : UInt8)) (v := .bool (decide ((97 : UInt8) ≤ (a0 ||| (32 : UInt8))))) rfl rfl bin_geq_u8) <|
  E rfl (mv (.bool (decide ((97 : UInt8) ≤ (a0 ||| (32 : UInt8))))) rfl) ?_
 rcases condE H with ⟨c101, H⟩ | ⟨c101, H⟩
 ·
  refine WL.guardYes rfl rfl rfl (vb c101 rfl) <|
   OW.ex rfl (mv (enc8 a0) rfl) <|
   WL.guardYes rfl rfl rfl (vb c101 rfl) <|
   OW.ex rfl (ex_bin (a := enc8 a0) (b := enc8 (32 : UInt8)) (v := enc8 (a0 ||| (32 : UInt8))) rfl rfl bin_or_u8) <|
   WL.guardYes rfl rfl rfl (vb c101 rfl) <|
   OW.ex rfl (ex_bin (a := enc8 (a0 ||| (32 : UInt8))) (b := enc8 (122 : UInt8)) (v := .bool (decide ((a0 ||| (32 : UInt8)) ≤ (122 : UInt8)))) rfl rfl bin_leq_u8) <|
   E rfl (ex_pick_t (v := .bool (decide ((a0 ||| (32 : UInt8)) ≤ (122 : UInt8)))) (vb c101 rfl) rfl) <|
   E rfl (mv (.bool (decide ((a0 ||| (32 : UInt8)) ≤ (122 : UInt8)))) rfl) ?_
  rcases condE H with ⟨c102, H⟩ | ⟨c102, H⟩
  ·
   refine WL.guardNo rfl rfl rfl (vb c102 rfl) <|
    WL.guardNo rfl rfl rfl (vb c102 rfl) <|
    E rfl (ex_pick_t (v := .bool true) (vb c102 rfl) rfl) <|
    E rfl (sg (.bool true) rfl) <|
    WL.nil <|
    WC.ret ?_
   obtain rfl := Option.some.inj H
   exact ⟨_, (.tmp _ rfl .nil), _, rfl, HF.out⟩
  ·
   refine WL.guardYes rfl rfl rfl (vb c102 rfl) <|
    OW.ex rfl (mv (enc8 a0) rfl) <|
    WL.guardYes rfl rfl rfl (vb c102 rfl) <|
    OW.ex rfl (ex_bin (a := enc8 a0) (b := enc8 (95 : UInt8)) (v := .bool (a0 == (95 : UInt8))) rfl rfl bin_eql_u8) <|
    E rfl (ex_pick_f (v := .bool (a0 == (95 : UInt8))) (vb c102 rfl) rfl) <|
    E rfl (sg (.bool (a0 == (95 : UInt8))) rfl) <|
    WL.nil <|
    WC.ret ?_
   obtain rfl := Option.some.inj H
   exact ⟨_, (.tmp _ rfl .nil), _, rfl, HF.out⟩
 ·
  refine WL.guardNo rfl rfl rfl (vb c101 rfl) <|
   WL.guardNo rfl rfl rfl (vb c101 rfl) <|
   WL.guardNo rfl rfl rfl (vb c101 rfl) <|
   E rfl (ex_pick_f (v := .bool false) (vb c101 rfl) rfl) <|
   E rfl (mv (.bool false) rfl) <|
   WL.guardYes rfl rfl rfl rfl <|
   OW.ex rfl (mv (enc8 a0) rfl) <|
   WL.guardYes rfl rfl rfl rfl <|
   OW.ex rfl (ex_bin (a := enc8 a0) (b := enc8 (95 : UInt8)) (v := .bool (a0 == (95 : UInt8))) rfl rfl bin_eql_u8) <|
   E rfl (ex_pick_f (v := .bool (a0 == (95 : UInt8))) rfl rfl) <|
   E rfl (sg (.bool (a0 == (95 : UInt8))) rfl) <|
   WL.nil <|
   WC.ret ?_
  obtain rfl := Option.some.inj H
  exact ⟨_, (.tmp _ rfl .nil), _, rfl, HF.out⟩

/-! ### token_digit -/
set_option maxRecDepth 100000 in
theorem token_digit.calls (o0 : Tags) (w0 : World) {a0 : UInt8} {r : Bool} (H : token_digit.f a0 = some r) (hO : ∀ b, b < w0.heap.size → o0 b < 40) :
  Calls Tryz.prog 96 [enc8 a0].toArray w0 fun e_ w_ => ∃ (o_ : Tags), e_ = .returned (one [.bool r]) ∧ Step o0 w0 o_ w_ [] := by
 have HF := Fm.refl hO []
 unfold token_digit.f at H
 refine SX.calls [enc8 a0] Tryz.func96 rfl rfl ?_
 rw [Tryz.ntmps96]
 refine WC.seq <|
  WC.region <|
  E rfl (sg (.bool false) rfl) <|
  WL.nil <|
  WC.seq <|
  WC.region <|
  E rfl (mv (enc8 a0) rfl) <|
  E rfl (ex_bin (a := enc8 a0) (b := enc8 (48 : UInt8)) (v := .bool (decide ((48 : UInt8) ≤ a0))) rfl rfl bin_geq_u8) <|
  E rfl (mv (.bool (decide ((48 : UInt8) ≤ a0))) rfl) ?_
 rcases condE H with ⟨c101, H⟩ | ⟨c101, H⟩
 ·
  refine WL.guardYes rfl rfl rfl (vb c101 rfl) <|
   OW.ex rfl (mv (enc8 a0) rfl) <|
   WL.guardYes rfl rfl rfl (vb c101 rfl) <|
   OW.ex rfl (ex_bin (a := enc8 a0) (b := enc8 (57 : UInt8)) (v := .bool (decide (a0 ≤ (57 : UInt8)))) rfl rfl bin_leq_u8) <|
   E rfl (ex_pick_t (v := .bool (decide (a0 ≤ (57 : UInt8)))) (vb c101 rfl) rfl) <|
   E rfl (sg (.bool (decide (a0 ≤ (57 : UInt8)))) rfl) <|
   WL.nil <|
   WC.ret ?_
  obtain rfl := Option.some.inj H
  exact ⟨_, (.tmp _ rfl .nil), _, rfl, HF.out⟩
 ·
  refine WL.guardNo rfl rfl rfl (vb c101 rfl) <|
   WL.guardNo rfl rfl rfl (vb c101 rfl) <|
   E rfl (ex_pick_f (v := .bool false) (vb c101 rfl) rfl) <|
   E rfl (sg (.bool false) rfl) <|
   WL.nil <|
   WC.ret ?_
  obtain rfl := Option.some.inj H
  exact ⟨_, (.tmp _ rfl .nil), _, rfl, HF.out⟩

/-! ### token_tail -/
set_option maxRecDepth 100000 in
theorem token_tail.calls (o0 : Tags) (w0 : World) {a0 : UInt8} {r : Bool} (H : token_tail.f a0 = some r) (hO : ∀ b, b < w0.heap.size → o0 b < 40) :
  Calls Tryz.prog 95 [enc8 a0].toArray w0 fun e_ w_ => ∃ (o_ : Tags), e_ = .returned (one [.bool r]) ∧ Step o0 w0 o_ w_ [] := by
 have HF := Fm.refl hO []
 unfold token_tail.f at H
 refine SX.calls [enc8 a0] Tryz.func95 rfl rfl ?_
 rw [Tryz.ntmps95]
 refine WC.seq <|
  WC.region <|
  E rfl (sg (.bool false) rfl) <|
  WL.nil <|
  WC.seq <|
  WC.region <|
  E rfl (mv (enc8 a0) rfl) ?_
 obtain ⟨z101, hz101, H⟩ := bindE H
 refine WL.op rfl <|
  OW.call [enc8 a0] rfl Tryz.func93 (by kernel_rfl) (by kernel_rfl) (map_cons' rfl rfl) (token_letter.calls _ _ hz101 (HF.ten (V := [0]) (L := []) rfl) ) ?_
 rintro _ w102 ⟨o103, rfl, s104⟩
 refine ⟨_, rfl, ?_⟩
 replace s104 := un_stepL (J := []) (L' := []) s104 rfl rfl
 refine E rfl (mv (.bool z101) rfl) ?_
 rcases condE H with ⟨c105, H⟩ | ⟨c105, H⟩
 ·
  refine WL.guardNo rfl rfl rfl (vb c105 rfl) <|
   WL.guardNo rfl rfl rfl (vb c105 rfl) <|
   E rfl (ex_pick_t (v := .bool true) (vb c105 rfl) rfl) <|
   E rfl (mv (.bool true) rfl) <|
   WL.guardNo rfl rfl rfl rfl <|
   WL.guardNo rfl rfl rfl rfl <|
   E rfl (ex_pick_t (v := .bool true) rfl rfl) <|
   E rfl (sg (.bool true) rfl) <|
   WL.nil <|
   WC.ret ?_
  obtain rfl := Option.some.inj H
  replace HF := HF.step s104 rfl
  exact ⟨_, (.tmp _ rfl .nil), _, rfl, HF.out⟩
 ·
  refine WL.guardYes rfl rfl rfl (vb c105 rfl) <|
   OW.ex rfl (mv (enc8 a0) rfl) <|
   WL.guardYes rfl rfl rfl (vb c105 rfl) ?_
  obtain ⟨z106, hz106, H⟩ := bindE H
  replace HF := HF.step s104 rfl
  refine OW.call [enc8 a0] rfl Tryz.func96 (by kernel_rfl) (by kernel_rfl) (map_cons' rfl rfl) (token_digit.calls _ _ hz106 (HF.ten (V := [0]) (L := []) rfl) ) ?_
  rintro _ w107 ⟨o108, rfl, s109⟩
  refine ⟨_, rfl, ?_⟩
  replace s109 := un_stepL (J := []) (L' := []) s109 rfl rfl
  refine E rfl (ex_pick_f (v := .bool z106) (vb c105 rfl) rfl) <|
   E rfl (mv (.bool z106) rfl) ?_
  rcases condE H with ⟨c110, H⟩ | ⟨c110, H⟩
  ·
   refine WL.guardNo rfl rfl rfl (vb c110 rfl) <|
    WL.guardNo rfl rfl rfl (vb c110 rfl) <|
    E rfl (ex_pick_t (v := .bool true) (vb c110 rfl) rfl) <|
    E rfl (sg (.bool true) rfl) <|
    WL.nil <|
    WC.ret ?_
   obtain rfl := Option.some.inj H
   replace HF := HF.step s109 rfl
   exact ⟨_, (.tmp _ rfl .nil), _, rfl, HF.out⟩
  ·
   refine WL.guardYes rfl rfl rfl (vb c110 rfl) <|
    OW.ex rfl (mv (enc8 a0) rfl) <|
    WL.guardYes rfl rfl rfl (vb c110 rfl) <|
    OW.ex rfl (ex_bin (a := enc8 a0) (b := enc8 (39 : UInt8)) (v := .bool (a0 == (39 : UInt8))) rfl rfl bin_eql_u8) <|
    E rfl (ex_pick_f (v := .bool (a0 == (39 : UInt8))) (vb c110 rfl) rfl) <|
    E rfl (sg (.bool (a0 == (39 : UInt8))) rfl) <|
    WL.nil <|
    WC.ret ?_
   obtain rfl := Option.some.inj H
   replace HF := HF.step s109 rfl
   exact ⟨_, (.tmp _ rfl .nil), _, rfl, HF.out⟩

/-! ### token_run_token_tail -/
set_option maxRecDepth 100000 in
theorem token_run_token_tail.calls (k : Nat) (o0 : Tags) (w0 : World) {a0 : List UInt8} {r : Int} (H : token_run_token_tail.f k a0 = some r) (hO : ∀ b, b < w0.heap.size → o0 b < 40) :
  Calls Tryz.prog 94 [encS a0, .func (.func 95) #[] #[]].toArray w0 fun e_ w_ => ∃ (o_ : Tags), e_ = .returned (one [ii r]) ∧ Step o0 w0 o_ w_ [] := by
 have HF := Fm.refl hO []
 unfold token_run_token_tail.f at H
 refine SX.calls [encS a0, .func (.func 95) #[] #[]] Tryz.func94 rfl rfl ?_
 rw [Tryz.ntmps94]
 refine WC.seq <|
  WC.region <|
  E rfl (sg (ii 0) rfl) <|
  WL.nil <|
  WC.seq <|
  WC.region <|
  E rfl (sg (ii 0) rfl) <|
  WL.nil <|
  WC.seq ?_
 obtain ⟨z103, hz103, H⟩ := bindE H
 refine WC.for (fun k_ ρ_ w_ => ∃ (o_ : Tags) (x101 : Int), Fm o0 w0 o_ w_ [] ∧ ρ_ 0 = encS a0 ∧ ρ_ 1 = .func (.func 95) #[] #[] ∧ ρ_ 4 = ii 0 ∧ ρ_ 5 = ii x101 ∧ token_run_token_tail.l1 k a0 k_ x101 = some z103) k (fun ρ_ w_ => ∃ (o_ : Tags), Fm o0 w0 o_ w_ [] ∧ ρ_ 4 = ii 0 ∧ ρ_ 5 = ii z103) ⟨_, 0, HF, rfl, rfl, rfl, rfl, hz103⟩ ?case104 ?_
 case case104 =>
  rintro ρ124 w125 ⟨o126, HF, s4_101, s5_102⟩
  refine WC.seq <|
   WC.region <|
   E rfl (mv (ii z103) s5_102) <|
   E rfl (sg (ii z103) rfl) <|
   WL.nil <|
   WC.ret ?_
  obtain rfl := Option.some.inj H
  exact ⟨_, (.tmp _ rfl .nil), _, rfl, HF.out⟩
 have Ho105 := H
 rintro k106 ρ107 w108 ⟨o109, x101, HF, s0_100, s1_100, s4_100, s5_101, H⟩
 cases k106 with
 | zero => cases H
 | succ k106 =>
 rw [token_run_token_tail.l1.eq_2] at H
 refine WC.seq ?_
 obtain ⟨z111, hz111, H⟩ := bindE H
 refine WC.cut (fun ρ_ w_ => ∃ (o_ : Tags), Fm o0 w0 o_ w_ [] ∧ ρ_ 0 = encS a0 ∧ ρ_ 1 = .func (.func 95) #[] #[] ∧ ρ_ 4 = ii 0 ∧ ρ_ 5 = ii x101 ∧ ρ_ 16 = .bool z111) ?case112 ?_
 case case112 =>
  rintro ρ115 w113 ⟨o114, HF, s0_109, s1_109, s4_109, s5_109, s16_110⟩
  rcases condE H with ⟨c116, H⟩ | ⟨c116, H⟩
  ·
   refine WC.cond_t (vb c116 s16_110) <|
    WC.skip <|
    WC.block <|
    WC.region <|
    E rfl (mv (ii x101) s5_109) <|
    E rfl (e2 bin_add64 rfl rfl) <|
    E rfl (sg (ii (wrap64 (x101 + 1))) rfl) <|
    WL.nil ?_
   exact ⟨k106, Nat.lt_succ_self _, ⟨_, wrap64 (x101 + 1), HF, s0_109, s1_109, s4_109, rfl, H⟩⟩
  ·
   refine WC.cond_f (vb c116 s16_110) <|
    WC.exit ?_
   obtain rfl := Option.some.inj H
   exact ⟨_, HF, s4_109, s5_109⟩
 have Ho117 := H
 replace H := hz111
 refine WC.region <|
  E rfl (mv (ii x101) s5_101) <|
  E rfl (mv (encS a0) s0_100) <|
  E rfl (ex_len_str (s := a0) rfl U9) <|
  E rfl (e2 bin_lss rfl rfl) <|
  E rfl (mv (.bool (decide (x101 < (a0.length : Int)))) rfl) ?_
 rcases condE H with ⟨c118, H⟩ | ⟨c118, H⟩
 ·
  refine WL.guardYes rfl rfl rfl (vb c118 rfl) <|
   OW.ex rfl (mv (.func (.func 95) #[] #[]) s1_100) <|
   WL.guardYes rfl rfl rfl (vb c118 rfl) <|
   OW.ex rfl (mv (encS a0) s0_100) <|
   WL.guardYes rfl rfl rfl (vb c118 rfl) <|
   OW.ex rfl (mv (ii x101) s5_101) <|
   WL.guardYes rfl rfl rfl (vb c118 rfl) ?_
  obtain ⟨x119, hx119, H⟩ := bindE H
  refine OW.ex rfl (ex_index_str (i := x101) rfl rfl U9 (ix_some hx119).1 (ix_some hx119).2.2) <|
   WL.guardYes rfl rfl rfl (vb c118 rfl) ?_
  obtain ⟨z120, hz120, H⟩ := bindE H
  refine OW.callV (show ev _ _ = .func (.func 95) #[] #[] from rfl) [enc8 x119] rfl Tryz.func95 (by kernel_rfl) (by kernel_rfl) (map_cons' rfl rfl) (token_tail.calls _ _ hz120 (HF.ten (V := [0]) (L := []) rfl) ) ?_
  rintro _ w121 ⟨o122, rfl, s123⟩
  refine ⟨_, rfl, ?_⟩
  replace s123 := un_stepL (J := []) (L' := []) s123 rfl rfl
  refine E rfl (ex_pick_t (v := .bool z120) (vb c118 rfl) rfl) <|
   WL.nil ?_
  obtain rfl := Option.some.inj H
  replace HF := HF.step s123 rfl
  exact ⟨_, HF, s0_100, s1_100, s4_100, s5_101, rfl⟩
 ·
  refine WL.guardNo rfl rfl rfl (vb c118 rfl) <|
   WL.guardNo rfl rfl rfl (vb c118 rfl) <|
   WL.guardNo rfl rfl rfl (vb c118 rfl) <|
   WL.guardNo rfl rfl rfl (vb c118 rfl) <|
   WL.guardNo rfl rfl rfl (vb c118 rfl) <|
   E rfl (ex_pick_f (v := .bool false) (vb c118 rfl) rfl) <|
   WL.nil ?_
  obtain rfl := Option.some.inj H
  exact ⟨_, HF, s0_100, s1_100, s4_100, s5_101, rfl⟩

/-! ### token_run_token_digit -/
set_option maxRecDepth 100000 in
theorem token_run_token_digit.calls (k : Nat) (o0 : Tags) (w0 : World) {a0 : List UInt8} {r : Int} (H : token_run_token_digit.f k a0 = some r) (hO : ∀ b, b < w0.heap.size → o0 b < 40) :
  Calls Tryz.prog 94 [encS a0, .func (.func 96) #[] #[]].toArray w0 fun e_ w_ => ∃ (o_ : Tags), e_ = .returned (one [ii r]) ∧ Step o0 w0 o_ w_ [] := by
 have HF := Fm.refl hO []
 unfold token_run_token_digit.f at H
 refine SX.calls [encS a0, .func (.func 96) #[] #[]] Tryz.func94 rfl rfl ?_
 rw [Tryz.ntmps94]
 refine WC.seq <|
  WC.region <|
  E rfl (sg (ii 0) rfl) <|
  WL.nil <|
  WC.seq <|
  WC.region <|
  E rfl (sg (ii 0) rfl) <|
  WL.nil <|
  WC.seq ?_
 obtain ⟨z103, hz103, H⟩ := bindE H
 refine WC.for (fun k_ ρ_ w_ => ∃ (o_ : Tags) (x101 : Int), Fm o0 w0 o_ w_ [] ∧ ρ_ 0 = encS a0 ∧ ρ_ 1 = .func (.func 96) #[] #[] ∧ ρ_ 4 = ii 0 ∧ ρ_ 5 = ii x101 ∧ token_run_token_digit.l1 k a0 k_ x101 = some z103) k (fun ρ_ w_ => ∃ (o_ : Tags), Fm o0 w0 o_ w_ [] ∧ ρ_ 4 = ii 0 ∧ ρ_ 5 = ii z103) ⟨_, 0, HF, rfl, rfl, rfl, rfl, hz103⟩ ?case104 ?_
 case case104 =>
  rintro ρ124 w125 ⟨o126, HF, s4_101, s5_102⟩
  refine WC.seq <|
   WC.region <|
   E rfl (mv (ii z103) s5_102) <|
   E rfl (sg (ii z103) rfl) <|
   WL.nil <|
   WC.ret ?_
  obtain rfl := Option.some.inj H
  exact ⟨_, (.tmp _ rfl .nil), _, rfl, HF.out⟩
 have Ho105 := H
 rintro k106 ρ107 w108 ⟨o109, x101, HF, s0_100, s1_100, s4_100, s5_101, H⟩
 cases k106 with
 | zero => cases H
 | succ k106 =>
 rw [token_run_token_digit.l1.eq_2] at H
 refine WC.seq ?_
 obtain ⟨z111, hz111, H⟩ := bindE H
 refine WC.cut (fun ρ_ w_ => ∃ (o_ : Tags), Fm o0 w0 o_ w_ [] ∧ ρ_ 0 = encS a0 ∧ ρ_ 1 = .func (.func 96) #[] #[] ∧ ρ_ 4 = ii 0 ∧ ρ_ 5 = ii x101 ∧ ρ_ 16 = .bool z111) ?case112 ?_
 case case112 =>
  rintro ρ115 w113 ⟨o114, HF, s0_109, s1_109, s4_109, s5_109, s16_110⟩
  rcases condE H with ⟨c116, H⟩ | ⟨c116, H⟩
  ·
   refine WC.cond_t (vb c116 s16_110) <|
    WC.skip <|
    WC.block <|
    WC.region <|
    E rfl (mv (ii x101) s5_109) <|
    E rfl (e2 bin_add64 rfl rfl) <|
    E rfl (sg (ii (wrap64 (x101 + 1))) rfl) <|
    WL.nil ?_
   exact ⟨k106, Nat.lt_succ_self _, ⟨_, wrap64 (x101 + 1), HF, s0_109, s1_109, s4_109, rfl, H⟩⟩
  ·
   refine WC.cond_f (vb c116 s16_110) <|
    WC.exit ?_
   obtain rfl := Option.some.inj H
   exact ⟨_, HF, s4_109, s5_109⟩
 have Ho117 := H
 replace H := hz111
 refine WC.region <|
  E rfl (mv (ii x101) s5_101) <|
  E rfl (mv (encS a0) s0_100) <|
  E rfl (ex_len_str (s := a0) rfl U9) <|
  E rfl (e2 bin_lss rfl rfl) <|
  E rfl (mv (.bool (decide (x101 < (a0.length : Int)))) rfl) ?_
 rcases condE H with ⟨c118, H⟩ | ⟨c118, H⟩
 ·
  refine WL.guardYes rfl rfl rfl (vb c118 rfl) <|
   OW.ex rfl (mv (.func (.func 96) #[] #[]) s1_100) <|
   WL.guardYes rfl rfl rfl (vb c118 rfl) <|
   OW.ex rfl (mv (encS a0) s0_100) <|
   WL.guardYes rfl rfl rfl (vb c118 rfl) <|
   OW.ex rfl (mv (ii x101) s5_101) <|
   WL.guardYes rfl rfl rfl (vb c118 rfl) ?_
  obtain ⟨x119, hx119, H⟩ := bindE H
  refine OW.ex rfl (ex_index_str (i := x101) rfl rfl U9 (ix_some hx119).1 (ix_some hx119).2.2) <|
   WL.guardYes rfl rfl rfl (vb c118 rfl) ?_
  obtain ⟨z120, hz120, H⟩ := bindE H
  refine OW.callV (show ev _ _ = .func (.func 96) #[] #[] from rfl) [enc8 x119] rfl Tryz.func96 (by kernel_rfl) (by kernel_rfl) (map_cons' rfl rfl) (token_digit.calls _ _ hz120 (HF.ten (V := [0]) (L := []) rfl) ) ?_
  rintro _ w121 ⟨o122, rfl, s123⟩
  refine ⟨_, rfl, ?_⟩
  replace s123 := un_stepL (J := []) (L' := []) s123 rfl rfl
  refine E rfl (ex_pick_t (v := .bool z120) (vb c118 rfl) rfl) <|
   WL.nil ?_
  obtain rfl := Option.some.inj H
  replace HF := HF.step s123 rfl
  exact ⟨_, HF, s0_100, s1_100, s4_100, s5_101, rfl⟩
 ·
  refine WL.guardNo rfl rfl rfl (vb c118 rfl) <|
   WL.guardNo rfl rfl rfl (vb c118 rfl) <|
   WL.guardNo rfl rfl rfl (vb c118 rfl) <|
   WL.guardNo rfl rfl rfl (vb c118 rfl) <|
   WL.guardNo rfl rfl rfl (vb c118 rfl) <|
   E rfl (ex_pick_f (v := .bool false) (vb c118 rfl) rfl) <|
   WL.nil ?_
  obtain rfl := Option.some.inj H
  exact ⟨_, HF, s0_100, s1_100, s4_100, s5_101, rfl⟩


/-! ### strconv.Atoi -/
theorem strconv_Atoi.calls (o0 : Tags) (w0 : World) (a0 : List UInt8) (r : Int × Bool) (hO : ∀ b, b < w0.heap.size → o0 b < 40) (hG : Gl GG o0 w0) (H : strconv_Atoi.f a0 = some r) :
    Calls Tryz.prog 97 [encS a0].toArray w0 fun e_ w_ => ∃ (o_ : Tags) (rv1 : Value), e_ = .returned (one [.int .i64 r.1, rv1]) ∧ Step o0 w0 o_ w_ [] ∧ IsErr r.2 rv1 := by
  unfold strconv_Atoi.f at H
  obtain ⟨u, hu, H⟩ := bindE H
  obtain rfl := Option.some.inj H
  have hl : a0.length ≤ 281474976710656 := of_decide_eq_true (chk_true hu)
  have hs : (⟨a0.toArray⟩ : ByteArray).size ≤ 281474976710656 := by rw [size_enc]; exact hl
  cases hc : Lib.atoiAll a0
  · rename_i v
    refine Calls.mono (Tryz.strconv_Atoi_ok ⟨a0.toArray⟩ (Nat.le_trans hs (by decide)) v hc w0) ?_
    rintro e w ⟨rfl, hw⟩
    refine ⟨o0, .nilIface, by simp [atoiF, hc, one], ?_, by simp [atoiF, hc, IsErr]⟩
    rcases hw with rfl | ⟨t, rfl⟩
    · exact Step.refl _ _ _
    · exact bytesWorld_step o0 w0 5 t
  · obtain ⟨tp, p, hv⟩ := hG.2.2.2.2.1
    refine Calls.mono (Tryz.strconv_Atoi_syntax_var ⟨a0.toArray⟩ hs (hc.trans (by rfl)) tp p w0 hv) ?_
    rintro e w ⟨N, rfl, _, _, hb⟩
    exact ⟨o0, _, by simp only [atoiF, hc, one]; rfl, below_step hb, by simp only [atoiF, hc, IsErr, cond_true]; exact ⟨_, _, rfl⟩⟩
  · obtain ⟨tp, p, hv⟩ := hG.2.2.2.2.2
    refine Calls.mono (Tryz.strconv_Atoi_range_var ⟨a0.toArray⟩ hs hc tp p w0 hv) ?_
    rintro e w ⟨N, rfl, _, _, hb⟩
    exact ⟨o0, _, by simp only [atoiF, hc, one]; rfl, below_step hb, by simp only [atoiF, hc, IsErr, cond_true]; exact ⟨_, _, rfl⟩⟩

/-! ### stringslite_HasPrefix -/
set_option maxRecDepth 100000 in
theorem stringslite_HasPrefix.calls (o0 : Tags) (w0 : World) {a0 : List UInt8} {a1 : List UInt8} {r : Bool} (H : stringslite_HasPrefix.f a0 a1 = some r) (hO : ∀ b, b < w0.heap.size → o0 b < 40) :
  Calls Tryz.prog 127 [encS a0, encS a1].toArray w0 fun e_ w_ => ∃ (o_ : Tags), e_ = .returned (one [.bool r]) ∧ Step o0 w0 o_ w_ [] := by
 have HF := Fm.refl hO []
 unfold stringslite_HasPrefix.f at H
 refine SX.calls [encS a0, encS a1] Tryz.func127 rfl rfl ?_
 rw [Tryz.ntmps127]
 refine WC.seq <|
  WC.region <|
  E rfl (sg (.bool false) rfl) <|
  WL.nil <|
  WC.seq <|
  WC.region <|
  E rfl (mv (encS a0) rfl) <|
  E rfl (ex_len_str (s := a0) rfl U9) <|
  E rfl (mv (encS a1) rfl) <|
  E rfl (ex_len_str (s := a1) rfl U9) <|
  E rfl (e2 bin_geq rfl rfl) <|
  E rfl (mv (.bool (decide ((a0.length : Int) ≥ (a1.length : Int)))) rfl) ?_
 rcases condE H with ⟨c101, H⟩ | ⟨c101, H⟩
 ·
  refine WL.guardYes rfl rfl rfl (vb c101 rfl) <|
   OW.ex rfl (mv (encS a0) rfl) <|
   WL.guardYes rfl rfl rfl (vb c101 rfl) <|
   OW.ex rfl (mv (encS a1) rfl) <|
   WL.guardYes rfl rfl rfl (vb c101 rfl) <|
   OW.ex rfl (ex_len_str (s := a1) rfl U9) <|
   WL.guardYes rfl rfl rfl (vb c101 rfl) ?_
  obtain ⟨y102, hy102, H⟩ := bindE H
  refine OW.ex rfl (ex_slice_str (l := 0) (h := (a1.length : Int)) rfl U9 rfl ⟨_, rfl⟩ hy102) <|
   WL.guardYes rfl rfl rfl (vb c101 rfl) <|
   OW.ex rfl (mv (encS a1) rfl) <|
   WL.guardYes rfl rfl rfl (vb c101 rfl) <|
   OW.ex rfl (e2 bin_eql_str rfl rfl) <|
   E rfl (ex_pick_t (v := .bool (y102 == a1)) (vb c101 rfl) rfl) <|
   E rfl (sg (.bool (y102 == a1)) rfl) <|
   WL.nil <|
   WC.ret ?_
  obtain rfl := Option.some.inj H
  exact ⟨_, (.tmp _ rfl .nil), _, rfl, HF.out⟩
 ·
  refine WL.guardNo rfl rfl rfl (vb c101 rfl) <|
   WL.guardNo rfl rfl rfl (vb c101 rfl) <|
   WL.guardNo rfl rfl rfl (vb c101 rfl) <|
   WL.guardNo rfl rfl rfl (vb c101 rfl) <|
   WL.guardNo rfl rfl rfl (vb c101 rfl) <|
   WL.guardNo rfl rfl rfl (vb c101 rfl) <|
   E rfl (ex_pick_f (v := .bool false) (vb c101 rfl) rfl) <|
   E rfl (sg (.bool false) rfl) <|
   WL.nil <|
   WC.ret ?_
  obtain rfl := Option.some.inj H
  exact ⟨_, (.tmp _ rfl .nil), _, rfl, HF.out⟩

/-! ### strings_HasPrefix -/
set_option maxRecDepth 100000 in
theorem strings_HasPrefix.calls (o0 : Tags) (w0 : World) {a0 : List UInt8} {a1 : List UInt8} {r : Bool} (H : strings_HasPrefix.f a0 a1 = some r) (hO : ∀ b, b < w0.heap.size → o0 b < 40) :
  Calls Tryz.prog 117 [encS a0, encS a1].toArray w0 fun e_ w_ => ∃ (o_ : Tags), e_ = .returned (one [.bool r]) ∧ Step o0 w0 o_ w_ [] := by
 have HF := Fm.refl hO []
 unfold strings_HasPrefix.f at H
 refine SX.calls [encS a0, encS a1] Tryz.func117 rfl rfl ?_
 rw [Tryz.ntmps117]
 refine WC.seq <|
  WC.region <|
  E rfl (sg (.bool false) rfl) <|
  WL.nil <|
  WC.seq <|
  WC.region <|
  E rfl (mv (encS a0) rfl) <|
  E rfl (mv (encS a1) rfl) ?_
 obtain ⟨z101, hz101, H⟩ := bindE H
 refine WL.op rfl <|
  OW.call [encS a0, encS a1] rfl Tryz.func127 (by kernel_rfl) (by kernel_rfl) (map_cons' rfl (map_cons' rfl rfl)) (stringslite_HasPrefix.calls _ _ hz101 (HF.ten (V := [0]) (L := []) rfl) ) ?_
 rintro _ w102 ⟨o103, rfl, s104⟩
 refine ⟨_, rfl, ?_⟩
 replace s104 := un_stepL (J := []) (L' := []) s104 rfl rfl
 refine E rfl (sg (.bool z101) rfl) <|
  WL.nil <|
  WC.ret ?_
 obtain rfl := Option.some.inj H
 replace HF := HF.step s104 rfl
 exact ⟨_, (.tmp _ rfl .nil), _, rfl, HF.out⟩

/-! ### token_sign -/
set_option maxRecDepth 100000 in
theorem token_sign.calls (k : Nat) (o0 : Tags) (w0 : World) {a0 : List UInt8} {r : (List UInt8) × Int} (H : token_sign.f k a0 = some r) (hO : ∀ b, b < w0.heap.size → o0 b < 40) (hG : Gl GG o0 w0) :
  Calls Tryz.prog 99 [encS a0].toArray w0 fun e_ w_ => ∃ (o_ : Tags), e_ = .returned (one [encS r.1, ii r.2]) ∧ Step o0 w0 o_ w_ [] := by
 have HF := Fm.refl hO []
 unfold token_sign.f at H
 refine SX.calls [encS a0] Tryz.func99 rfl rfl ?_
 rw [Tryz.ntmps99]
 refine WC.seq <|
  WC.region <|
  E rfl (sg (encS ([] : List UInt8)) rfl) <|
  E rfl (sg (ii 0) rfl) <|
  WL.nil <|
  WC.seq <|
  WC.seq <|
  WC.region <|
  E rfl (ex_buildArr (cs := [encS ([60, 45, 62] : List UInt8), encS ([60, 61] : List UInt8), encS ([61, 62] : List UInt8), encS ([45, 62] : List UInt8), encS ([124, 45] : List UInt8), encS ([126] : List UInt8), encS ([38] : List UInt8), encS ([124] : List UInt8), encS ([40] : List UInt8), encS ([41] : List UInt8), encS ([91] : List UInt8), encS ([93] : List UInt8), encS ([123] : List UInt8), encS ([125] : List UInt8), encS ([44] : List UInt8), encS ([46] : List UInt8), encS ([58] : List UInt8), encS ([59] : List UInt8), encS ([61] : List UInt8), encS ([47] : List UInt8)]) [(0, encS ([60, 45, 62] : List UInt8)), (1, encS ([60, 61] : List UInt8)), (2, encS ([61, 62] : List UInt8)), (3, encS ([45, 62] : List UInt8)), (4, encS ([124, 45] : List UInt8)), (5, encS ([126] : List UInt8)), (6, encS ([38] : List UInt8)), (7, encS ([124] : List UInt8)), (8, encS ([40] : List UInt8)), (9, encS ([41] : List UInt8)), (10, encS ([91] : List UInt8)), (11, encS ([93] : List UInt8)), (12, encS ([123] : List UInt8)), (13, encS ([125] : List UInt8)), (14, encS ([44] : List UInt8)), (15, encS ([46] : List UInt8)), (16, encS ([58] : List UInt8)), (17, encS ([59] : List UInt8)), (18, encS ([61] : List UInt8)), (19, encS ([47] : List UInt8))] [.string ⟨#[]⟩, .string ⟨#[]⟩, .string ⟨#[]⟩, .string ⟨#[]⟩, .string ⟨#[]⟩, .string ⟨#[]⟩, .string ⟨#[]⟩, .string ⟨#[]⟩, .string ⟨#[]⟩, .string ⟨#[]⟩, .string ⟨#[]⟩, .string ⟨#[]⟩, .string ⟨#[]⟩, .string ⟨#[]⟩, .string ⟨#[]⟩, .string ⟨#[]⟩, .string ⟨#[]⟩, .string ⟨#[]⟩, .string ⟨#[]⟩, .string ⟨#[]⟩] U156 zr156 rfl sz9 (evs_cons rfl (evs_cons rfl (evs_cons rfl (evs_cons rfl (evs_cons rfl (evs_cons rfl (evs_cons rfl (evs_cons rfl (evs_cons rfl (evs_cons rfl (evs_cons rfl (evs_cons rfl (evs_cons rfl (evs_cons rfl (evs_cons rfl (evs_cons rfl (evs_cons rfl (evs_cons rfl (evs_cons rfl (evs_cons rfl rfl)))))))))))))))))))) rfl) <|
  E rfl (mv (ii 0) rfl) <|
  WL.nil ?_
 obtain ⟨z102, hz102, H⟩ := bindE H
 refine WC.for (fun k_ ρ_ w_ => ∃ (o_ : Tags) (x101 : Int), Fm o0 w0 o_ w_ [] ∧ Gl GG o_ w_ ∧ ρ_ 0 = encS a0 ∧ ρ_ 2 = encS ([] : List UInt8) ∧ ρ_ 3 = ii 0 ∧ ρ_ 8 = .agg (List.map encS ([([60, 45, 62] : List UInt8), ([60, 61] : List UInt8), ([61, 62] : List UInt8), ([45, 62] : List UInt8), ([124, 45] : List UInt8), ([126] : List UInt8), ([38] : List UInt8), ([124] : List UInt8), ([40] : List UInt8), ([41] : List UInt8), ([91] : List UInt8), ([93] : List UInt8), ([123] : List UInt8), ([125] : List UInt8), ([44] : List UInt8), ([46] : List UInt8), ([58] : List UInt8), ([59] : List UInt8), ([61] : List UInt8), ([47] : List UInt8)] : List (List UInt8))).toArray ∧ ρ_ 9 = ii x101 ∧ token_sign.l1 k a0 k_ x101 = some z102) k (fun ρ_ w_ => ∃ (o_ : Tags), Fm o0 w0 o_ w_ [] ∧ Gl GG o_ w_ ∧ ρ_ 0 = encS a0 ∧ ρ_ 2 = encS ([] : List UInt8) ∧ ρ_ 3 = ii 0 ∧ z102 = .inr ()) ⟨_, 0, HF, hG, rfl, rfl, rfl, rfl, rfl, hz102⟩ ?case103 ?_
 case case103 =>
  rintro ρ116 w117 ⟨o118, HF, hG, s0_101, s2_101, s3_101, rfl⟩
  dsimp only at H
  refine WC.seq <|
   WC.region <|
   E rfl (mv (encS a0) s0_101) ?_
  obtain ⟨z119, hz119, H⟩ := bindE H
  refine WL.op rfl <|
   OW.call [encS a0] rfl Tryz.func98 (by kernel_rfl) (by kernel_rfl) (map_cons' rfl rfl) (utf8_DecodeRuneInString.calls _ _ a0 z119 (HF.ten (V := [0]) (L := []) rfl) (Gl.vw hG rfl) hz119) ?_
  rintro _ w120 ⟨o121, rfl, s122⟩
  refine ⟨_, rfl, ?_⟩
  replace s122 := un_stepL (J := []) (L' := []) s122 rfl rfl
  refine E rfl (mv (.tuple #[.int .i32 z119.1, ii z119.2]) rfl) <|
   E rfl (ex_extract rfl rfl) <|
   E rfl (ex_extract rfl rfl) <|
   E rfl (sg (.int .i32 z119.1) rfl) <|
   E rfl (sg (ii z119.2) rfl) <|
   WL.nil <|
   WC.seq <|
   WC.seq <|
   WC.region <|
   E rfl (mv (.int .i32 z119.1) rfl) <|
   WL.nil <|
   WC.block <|
   WC.seq <|
   WC.region <|
   E rfl (e2 bin_eql rfl rfl) <|
   E rfl (sg (.bool (z119.1 == 172)) rfl) <|
   WL.nil ?_
  rcases condE H with ⟨c123, H⟩ | ⟨c123, H⟩
  ·
   refine WC.cond_t (vb c123 rfl) <|
    WC.seq <|
    WC.region <|
    E rfl (mv (ii z119.2) rfl) <|
    E rfl (sg (encS ([126] : List UInt8)) rfl) <|
    E rfl (sg (ii z119.2) rfl) <|
    WL.nil <|
    WC.ret ?_
   obtain rfl := Option.some.inj H
   replace HF := HF.step s122 rfl
   exact ⟨_, (.tmp _ rfl (.tmp _ rfl .nil)), _, rfl, HF.out⟩
  ·
   refine WC.cond_f (vb c123 rfl) <|
    WC.seq <|
    WC.region <|
    E rfl (e2 bin_eql rfl rfl) <|
    E rfl (sg (.bool (z119.1 == 8743)) rfl) <|
    WL.nil ?_
   rcases condE H with ⟨c124, H⟩ | ⟨c124, H⟩
   ·
    refine WC.cond_t (vb c124 rfl) <|
     WC.seq <|
     WC.region <|
     E rfl (mv (ii z119.2) rfl) <|
     E rfl (sg (encS ([38] : List UInt8)) rfl) <|
     E rfl (sg (ii z119.2) rfl) <|
     WL.nil <|
     WC.ret ?_
    obtain rfl := Option.some.inj H
    replace HF := HF.step s122 rfl
    exact ⟨_, (.tmp _ rfl (.tmp _ rfl .nil)), _, rfl, HF.out⟩
   ·
    refine WC.cond_f (vb c124 rfl) <|
     WC.seq <|
     WC.region <|
     E rfl (e2 bin_eql rfl rfl) <|
     E rfl (sg (.bool (z119.1 == 8744)) rfl) <|
     WL.nil ?_
    rcases condE H with ⟨c125, H⟩ | ⟨c125, H⟩
    ·
     refine WC.cond_t (vb c125 rfl) <|
      WC.seq <|
      WC.region <|
      E rfl (mv (ii z119.2) rfl) <|
      E rfl (sg (encS ([124] : List UInt8)) rfl) <|
      E rfl (sg (ii z119.2) rfl) <|
      WL.nil <|
      WC.ret ?_
     obtain rfl := Option.some.inj H
     replace HF := HF.step s122 rfl
     exact ⟨_, (.tmp _ rfl (.tmp _ rfl .nil)), _, rfl, HF.out⟩
    ·
     refine WC.cond_f (vb c125 rfl) <|
      WC.seq <|
      WC.region <|
      E rfl (e2 bin_eql rfl rfl) <|
      E rfl (sg (.bool (z119.1 == 8594)) rfl) <|
      WL.nil ?_
     rcases condE H with ⟨c126, H⟩ | ⟨c126, H⟩
     ·
      refine WC.cond_t (vb c126 rfl) <|
       WC.seq <|
       WC.region <|
       E rfl (mv (ii z119.2) rfl) <|
       E rfl (sg (encS ([45, 62] : List UInt8)) rfl) <|
       E rfl (sg (ii z119.2) rfl) <|
       WL.nil <|
       WC.ret ?_
      obtain rfl := Option.some.inj H
      replace HF := HF.step s122 rfl
      exact ⟨_, (.tmp _ rfl (.tmp _ rfl .nil)), _, rfl, HF.out⟩
     ·
      refine WC.cond_f (vb c126 rfl) <|
       WC.seq <|
       WC.region <|
       E rfl (e2 bin_eql rfl rfl) <|
       E rfl (sg (.bool (z119.1 == 8596)) rfl) <|
       WL.nil ?_
      rcases condE H with ⟨c127, H⟩ | ⟨c127, H⟩
      ·
       refine WC.cond_t (vb c127 rfl) <|
        WC.seq <|
        WC.region <|
        E rfl (mv (ii z119.2) rfl) <|
        E rfl (sg (encS ([60, 45, 62] : List UInt8)) rfl) <|
        E rfl (sg (ii z119.2) rfl) <|
        WL.nil <|
        WC.ret ?_
       obtain rfl := Option.some.inj H
       replace HF := HF.step s122 rfl
       exact ⟨_, (.tmp _ rfl (.tmp _ rfl .nil)), _, rfl, HF.out⟩
      ·
       refine WC.cond_f (vb c127 rfl) <|
        WC.seq <|
        WC.region <|
        E rfl (e2 bin_eql rfl rfl) <|
        E rfl (sg (.bool (z119.1 == 8866)) rfl) <|
        WL.nil ?_
       rcases condE H with ⟨c128, H⟩ | ⟨c128, H⟩
       ·
        refine WC.cond_t (vb c128 rfl) <|
         WC.seq <|
         WC.region <|
         E rfl (mv (ii z119.2) rfl) <|
         E rfl (sg (encS ([124, 45] : List UInt8)) rfl) <|
         E rfl (sg (ii z119.2) rfl) <|
         WL.nil <|
         WC.ret ?_
        obtain rfl := Option.some.inj H
        replace HF := HF.step s122 rfl
        exact ⟨_, (.tmp _ rfl (.tmp _ rfl .nil)), _, rfl, HF.out⟩
       ·
        refine WC.cond_f (vb c128 rfl) <|
         WC.seq <|
         WC.region <|
         E rfl (e2 bin_eql rfl rfl) <|
         E rfl (sg (.bool (z119.1 == 8804)) rfl) <|
         WL.nil ?_
        rcases condE H with ⟨c129, H⟩ | ⟨c129, H⟩
        ·
         refine WC.cond_t (vb c129 rfl) <|
          WC.seq <|
          WC.region <|
          E rfl (mv (ii z119.2) rfl) <|
          E rfl (sg (encS ([60, 61] : List UInt8)) rfl) <|
          E rfl (sg (ii z119.2) rfl) <|
          WL.nil <|
          WC.ret ?_
         obtain rfl := Option.some.inj H
         replace HF := HF.step s122 rfl
         exact ⟨_, (.tmp _ rfl (.tmp _ rfl .nil)), _, rfl, HF.out⟩
        ·
         refine WC.cond_f (vb c129 rfl) <|
          WC.skip <|
          WC.seq <|
          WC.region <|
          E rfl (sg (encS ([] : List UInt8)) rfl) <|
          E rfl (sg (ii 0) rfl) <|
          WL.nil <|
          WC.ret ?_
         obtain rfl := Option.some.inj H
         replace HF := HF.step s122 rfl
         exact ⟨_, (.tmp _ rfl (.tmp _ rfl .nil)), _, rfl, HF.out⟩
 have Ho104 := H
 rintro k105 ρ106 w107 ⟨o108, x101, HF, hG, s0_100, s2_100, s3_100, s8_100, s9_101, H⟩
 cases k105 with
 | zero => cases H
 | succ k105 =>
 rw [token_sign.l1.eq_2] at H
 refine WC.seq <|
  WC.region <|
  E rfl (e2 bin_lss s9_101 rfl) <|
  WL.nil <|
  WC.seq ?_
 rcases condE H with ⟨c109, H⟩ | ⟨c109, H⟩
 ·
  refine WC.cond_t (vb c109 rfl) <|
   WC.skip <|
   WC.seq <|
   WC.block <|
   WC.seq <|
   WC.region ?_
  obtain ⟨x110, hx110, H⟩ := bindE H
  refine E rfl (ex_indexAV (enc := encS) (i := x101) s8_100 s9_101 U156 U9 rfl sz9 rfl hx110) <|
   E rfl (sg (encS x110) rfl) <|
   WL.nil <|
   WC.seq <|
   WC.region <|
   E rfl (mv (encS a0) s0_100) <|
   E rfl (mv (encS x110) rfl) ?_
  obtain ⟨z111, hz111, H⟩ := bindE H
  refine WL.op rfl <|
   OW.call [encS a0, encS x110] rfl Tryz.func117 (by kernel_rfl) (by kernel_rfl) (map_cons' rfl (map_cons' rfl rfl)) (strings_HasPrefix.calls _ _ hz111 (HF.ten (V := [0]) (L := []) rfl) ) ?_
  rintro _ w112 ⟨o113, rfl, s114⟩
  refine ⟨_, rfl, ?_⟩
  replace s114 := un_stepL (J := []) (L' := []) s114 rfl rfl
  refine WL.nil ?_
  rcases condE H with ⟨c115, H⟩ | ⟨c115, H⟩
  ·
   refine WC.cond_t (vb c115 rfl) <|
    WC.seq <|
    WC.region <|
    E rfl (mv (encS x110) rfl) <|
    E rfl (mv (encS x110) rfl) <|
    E rfl (ex_len_str (s := x110) rfl U9) <|
    E rfl (sg (encS x110) rfl) <|
    E rfl (sg (ii (x110.length : Int)) rfl) <|
    WL.nil <|
    WC.ret ?_
   obtain rfl := Option.some.inj H
   replace H := Ho104
   dsimp only at H
   obtain rfl := Option.some.inj H
   replace HF := HF.step s114 rfl
   exact ⟨_, (.tmp _ rfl (.tmp _ rfl .nil)), _, rfl, HF.out⟩
  ·
   refine WC.cond_f (vb c115 rfl) <|
    WC.skip <|
    WC.region <|
    E rfl (e2 bin_add64 s9_101 rfl) <|
    E rfl (mv (ii (wrap64 (x101 + 1))) rfl) <|
    WL.nil ?_
   replace hG := hG.step s114 rfl
   replace HF := HF.step s114 rfl
   exact ⟨k105, Nat.lt_succ_self _, ⟨_, wrap64 (x101 + 1), HF, hG, s0_100, s2_100, s3_100, s8_100, rfl, H⟩⟩
 ·
  refine WC.cond_f (vb c109 rfl) <|
   WC.exit ?_
  obtain rfl := Option.some.inj H
  exact ⟨_, HF, hG, s0_100, s2_100, s3_100, rfl⟩

/-! ### token_word -/
set_option maxRecDepth 100000 in
theorem token_word.calls (k : Nat) (o0 : Tags) (w0 : World) {a0 : List UInt8} {r : T_api_Token × Int × Int} (H : token_word.f k a0 = some r) (hO : ∀ b, b < w0.heap.size → o0 b < 40) (hG : Gl GG o0 w0) :
  Calls Tryz.prog 77 [encS a0].toArray w0 fun e_ w_ => ∃ (o_ : Tags), e_ = .returned (one [.agg #[ii r.1.f_Kind, encS r.1.f_Text, ii r.1.f_Int, ii r.1.f_At.f_Line, ii r.1.f_At.f_Col, ii r.1.f_At.f_Off], ii r.2.1, ii r.2.2]) ∧ Step o0 w0 o_ w_ [] := by
 have HF := Fm.refl hO []
 unfold token_word.f at H
 refine SX.calls [encS a0] Tryz.func77 rfl rfl ?_
 rw [Tryz.ntmps77]
 refine WC.seq <|
  WC.region <|
  WL.op rfl <|
  OW.alloc' [ii (0 : Int), encS ([] : List UInt8), ii (0 : Int), ii (0 : Int), ii (0 : Int), ii (0 : Int)] 40 HF rfl zr76 rfl ?_
 intro o102 w103 b101 s104 hB105
 refine E rfl (sg (ii 0) rfl) <|
  E rfl (sg (ii 0) rfl) <|
  WL.nil <|
  WC.seq <|
  WC.block <|
  WC.seq <|
  WC.region <|
  E rfl (mv (encS a0) rfl) ?_
 obtain ⟨x106, hx106, H⟩ := bindE H
 refine E rfl (ex_index_str (i := (0 : Int)) rfl rfl U9 (ix_some hx106).1 (ix_some hx106).2.2) ?_
 obtain ⟨z107, hz107, H⟩ := bindE H
 refine WL.op rfl ?_
 replace HF := HF.step s104 rfl
 refine OW.call [enc8 x106] rfl Tryz.func93 (by kernel_rfl) (by kernel_rfl) (map_cons' rfl rfl) (token_letter.calls _ _ hz107 (HF.ten (V := [0]) (L := []) rfl) ) ?_
 rintro _ w108 ⟨o109, rfl, s110⟩
 refine ⟨_, rfl, ?_⟩
 replace s110 := un_stepL (J := []) (L' := []) s110 rfl rfl
 refine E rfl (sg (.bool z107) rfl) <|
  WL.nil ?_
 rcases condE H with ⟨c111, H⟩ | ⟨c111, H⟩
 ·
  refine WC.cond_t (vb c111 rfl) <|
   WC.seq <|
   WC.region <|
   E rfl (mv (encS a0) rfl) ?_
  obtain ⟨z112, hz112, H⟩ := bindE H
  refine WL.op rfl ?_
  replace HF := HF.step s110 rfl
  refine OW.call [encS a0, .func (.func 95) #[] #[]] rfl Tryz.func94 (by kernel_rfl) (by kernel_rfl) (map_cons' rfl (map_cons' rfl rfl)) (token_run_token_tail.calls k _ _ hz112 (HF.ten (V := [0]) (L := []) rfl) ) ?_
  rintro _ w113 ⟨o114, rfl, s115⟩
  refine ⟨_, rfl, ?_⟩
  replace s115 := un_stepL (J := []) (L' := []) s115 rfl rfl
  refine E rfl (sg (ii z112) rfl) <|
   WL.nil <|
   WC.seq <|
   WC.seq <|
   WC.region <|
   E rfl (mv (ii z112) rfl) <|
   E rfl (e2 bin_gtr rfl rfl) <|
   WL.nil ?_
  rcases condE H with ⟨c116, H⟩ | ⟨c116, H⟩
  ·
   refine WC.cond_t (vb c116 rfl) <|
    WC.seq <|
    WC.region <|
    E rfl (ex_build (cs := [ii (0 : Int), encS ([] : List UInt8), ii (0 : Int), ii (0 : Int), ii (0 : Int), ii (0 : Int)]) [(0, 1), (1, 1), (2, 1), (3, 3)] [] [ii 0, .string ⟨#[]⟩, ii 0, ii 0, ii 0, ii 0] U76 zr76 rfl (by kernel_rfl) rfl rfl) <|
    WL.op rfl ?_
   have k110_115 := s110.t s115
   replace hB105 := hB105.step k110_115 rfl
   refine OW.storeW rfl rfl sz76 hB105 rfl (oa rfl) ?_
   intro w117 s118 hB119
   refine E rfl (sg (ii 0) rfl) <|
    E rfl (sg (ii 22) rfl) <|
    WL.nil <|
    WC.ret ?_
   obtain rfl := Option.some.inj H
   have k115_118 := s115.t s118
   replace HF := HF.step k115_118 rfl
   exact ⟨_, (.cell _ rfl (run_loadN (cs := [ii (0 : Int), encS ([] : List UInt8), ii (0 : Int), ii (0 : Int), ii (0 : Int), ii (0 : Int)]) U76 rfl sz76 (hB119.cells rfl)) (.tmp _ rfl (.tmp _ rfl .nil))), _, rfl, HF.out⟩
  ·
   refine WC.cond_f (vb c116 rfl) <|
    WC.skip <|
    WC.seq <|
    WC.region <|
    E rfl (mv (encS a0) rfl) <|
    E rfl (mv (ii z112) rfl) ?_
   obtain ⟨y120, hy120, H⟩ := bindE H
   refine E rfl (ex_slice_str (l := 0) (h := z112) rfl U9 rfl ⟨_, rfl⟩ hy120) <|
    E rfl (ex_build (cs := [ii 1, encS y120, ii (0 : Int), ii (0 : Int), ii (0 : Int), ii (0 : Int)]) [(0, 1), (1, 1), (2, 1), (3, 3)] [(0, ii 1), (1, encS y120)] [ii 0, .string ⟨#[]⟩, ii 0, ii 0, ii 0, ii 0] U76 zr76 rfl (by kernel_rfl) (evs_cons rfl (evs_cons rfl rfl)) rfl) <|
    E rfl (mv (ii z112) rfl) <|
    WL.op rfl ?_
   have k110_115 := s110.t s115
   replace hB105 := hB105.step k110_115 rfl
   refine OW.storeW rfl rfl sz76 hB105 rfl (oa rfl) ?_
   intro w121 s122 hB123
   refine E rfl (sg (ii z112) rfl) <|
    E rfl (sg (ii 0) rfl) <|
    WL.nil <|
    WC.ret ?_
   obtain rfl := Option.some.inj H
   have k115_122 := s115.t s122
   replace HF := HF.step k115_122 rfl
   exact ⟨_, (.cell _ rfl (run_loadN (cs := [ii 1, encS y120, ii (0 : Int), ii (0 : Int), ii (0 : Int), ii (0 : Int)]) U76 rfl sz76 (hB123.cells rfl)) (.tmp _ rfl (.tmp _ rfl .nil))), _, rfl, HF.out⟩
 ·
  refine WC.cond_f (vb c111 rfl) <|
   WC.seq <|
   WC.region <|
   E rfl (mv (encS a0) rfl) ?_
  obtain ⟨x124, hx124, H⟩ := bindE H
  refine E rfl (ex_index_str (i := (0 : Int)) rfl rfl U9 (ix_some hx124).1 (ix_some hx124).2.2) ?_
  obtain ⟨z125, hz125, H⟩ := bindE H
  refine WL.op rfl ?_
  replace HF := HF.step s110 rfl
  refine OW.call [enc8 x124] rfl Tryz.func96 (by kernel_rfl) (by kernel_rfl) (map_cons' rfl rfl) (token_digit.calls _ _ hz125 (HF.ten (V := [0]) (L := []) rfl) ) ?_
  rintro _ w126 ⟨o127, rfl, s128⟩
  refine ⟨_, rfl, ?_⟩
  replace s128 := un_stepL (J := []) (L' := []) s128 rfl rfl
  refine E rfl (sg (.bool z125) rfl) <|
   WL.nil ?_
  rcases condE H with ⟨c129, H⟩ | ⟨c129, H⟩
  ·
   refine WC.cond_t (vb c129 rfl) <|
    WC.seq <|
    WC.region <|
    E rfl (mv (encS a0) rfl) ?_
   obtain ⟨z130, hz130, H⟩ := bindE H
   refine WL.op rfl ?_
   replace HF := HF.step s128 rfl
   refine OW.call [encS a0, .func (.func 96) #[] #[]] rfl Tryz.func94 (by kernel_rfl) (by kernel_rfl) (map_cons' rfl (map_cons' rfl rfl)) (token_run_token_digit.calls k _ _ hz130 (HF.ten (V := [0]) (L := []) rfl) ) ?_
   rintro _ w131 ⟨o132, rfl, s133⟩
   refine ⟨_, rfl, ?_⟩
   replace s133 := un_stepL (J := []) (L' := []) s133 rfl rfl
   refine E rfl (sg (ii z130) rfl) <|
    WL.nil <|
    WC.seq <|
    WC.region <|
    E rfl (mv (encS a0) rfl) <|
    E rfl (mv (ii z130) rfl) ?_
   obtain ⟨y134, hy134, H⟩ := bindE H
   refine E rfl (ex_slice_str (l := 0) (h := z130) rfl U9 rfl ⟨_, rfl⟩ hy134) ?_
   obtain ⟨z135, hz135, H⟩ := bindE H
   refine WL.op rfl ?_
   replace HF := HF.step s133 rfl
   have k104_133 := ((s104.t s110).t s128).t s133
   replace hG := hG.step k104_133 rfl
   refine OW.call [encS y134] rfl Tryz.func97 (by kernel_rfl) (by kernel_rfl) (map_cons' rfl rfl) (strconv_Atoi.calls _ _ y134 z135 (HF.ten (V := [0]) (L := []) rfl) (Gl.vw hG rfl) hz135) ?_
   rintro _ w136 ⟨o137, v139, rfl, s138, hE140⟩
   refine ⟨_, rfl, ?_⟩
   replace s138 := un_stepL (J := []) (L' := []) s138 rfl rfl
   refine E rfl (mv (.tuple #[ii z135.1, v139]) rfl) <|
    E rfl (ex_extract rfl rfl) <|
    E rfl (ex_extract rfl rfl) <|
    E rfl (sg (ii z135.1) rfl) <|
    E rfl (sg v139 rfl) <|
    WL.nil <|
    WC.seq ?_
   obtain ⟨z142, hz142, H⟩ := bindE H
   refine WC.cut (fun ρ_ w_ => ∃ (o_ : Tags), Fm o0 w0 o_ w_ [] ∧ Bk o_ w_ 40 b101 [ii (0 : Int), encS ([] : List UInt8), ii (0 : Int), ii (0 : Int), ii (0 : Int), ii (0 : Int)] 76 ∧ Gl GG o_ w_ ∧ ρ_ 0 = encS a0 ∧ ρ_ 2 = pp b101 0 ∧ ρ_ 3 = ii 0 ∧ ρ_ 4 = ii 0 ∧ ρ_ 6 = ii z130 ∧ ρ_ 7 = ii z135.1 ∧ ρ_ 66 = .bool z142) ?case143 ?_
   case case143 =>
    rintro ρ146 w144 ⟨o145, HF, hB105, hG, s0_140, s2_140, s3_140, s4_140, s6_140, s7_140, s66_141⟩
    rcases condE H with ⟨c147, H⟩ | ⟨c147, H⟩
    ·
     refine WC.cond_t (vb c147 s66_141) <|
      WC.seq <|
      WC.region <|
      E rfl (ex_build (cs := [ii (0 : Int), encS ([] : List UInt8), ii (0 : Int), ii (0 : Int), ii (0 : Int), ii (0 : Int)]) [(0, 1), (1, 1), (2, 1), (3, 3)] [] [ii 0, .string ⟨#[]⟩, ii 0, ii 0, ii 0, ii 0] U76 zr76 rfl (by kernel_rfl) rfl rfl) <|
      WL.op rfl <|
      OW.storeW rfl s2_140 sz76 hB105 rfl (oa rfl) ?_
     intro w148 s149 hB150
     refine E rfl (sg (ii 0) rfl) <|
      E rfl (sg (ii 21) rfl) <|
      WL.nil <|
      WC.ret ?_
     obtain rfl := Option.some.inj H
     replace HF := HF.step s149 rfl
     exact ⟨_, (.cell _ s2_140 (run_loadN (cs := [ii (0 : Int), encS ([] : List UInt8), ii (0 : Int), ii (0 : Int), ii (0 : Int), ii (0 : Int)]) U76 rfl sz76 (hB150.cells rfl)) (.tmp _ rfl (.tmp _ rfl .nil))), _, rfl, HF.out⟩
    ·
     refine WC.cond_f (vb c147 s66_141) <|
      WC.skip <|
      WC.seq <|
      WC.region <|
      E rfl (mv (ii z135.1) s7_140) <|
      E rfl (ex_build (cs := [ii 2, encS ([] : List UInt8), ii z135.1, ii (0 : Int), ii (0 : Int), ii (0 : Int)]) [(0, 1), (1, 1), (2, 1), (3, 3)] [(0, ii 2), (2, ii z135.1)] [ii 0, .string ⟨#[]⟩, ii 0, ii 0, ii 0, ii 0] U76 zr76 rfl (by kernel_rfl) (evs_cons rfl (evs_cons rfl rfl)) rfl) <|
      E rfl (mv (ii z130) s6_140) <|
      WL.op rfl <|
      OW.storeW rfl s2_140 sz76 hB105 rfl (oa rfl) ?_
     intro w151 s152 hB153
     refine E rfl (sg (ii z130) rfl) <|
      E rfl (sg (ii 0) rfl) <|
      WL.nil <|
      WC.ret ?_
     obtain rfl := Option.some.inj H
     replace HF := HF.step s152 rfl
     exact ⟨_, (.cell _ s2_140 (run_loadN (cs := [ii 2, encS ([] : List UInt8), ii z135.1, ii (0 : Int), ii (0 : Int), ii (0 : Int)]) U76 rfl sz76 (hB153.cells rfl)) (.tmp _ rfl (.tmp _ rfl .nil))), _, rfl, HF.out⟩
   have Ho154 := H
   replace H := hz142
   refine WC.region <|
    E rfl (mv (ii z130) rfl) <|
    E rfl (e2 bin_gtr rfl rfl) <|
    E rfl (mv (.bool (decide (z130 > 1))) rfl) ?_
   rcases condE H with ⟨c155, H⟩ | ⟨c155, H⟩
   ·
    refine WL.guardYes rfl rfl rfl (vb c155 rfl) <|
     OW.ex rfl (mv (encS a0) rfl) <|
     WL.guardYes rfl rfl rfl (vb c155 rfl) ?_
    obtain ⟨x156, hx156, H⟩ := bindE H
    refine OW.ex rfl (ex_index_str (i := (0 : Int)) rfl rfl U9 (ix_some hx156).1 (ix_some hx156).2.2) <|
     WL.guardYes rfl rfl rfl (vb c155 rfl) <|
     OW.ex rfl (ex_bin (a := enc8 x156) (b := enc8 (48 : UInt8)) (v := .bool (x156 == (48 : UInt8))) rfl rfl bin_eql_u8) <|
     E rfl (ex_pick_t (v := .bool (x156 == (48 : UInt8))) (vb c155 rfl) rfl) <|
     E rfl (mv (.bool (x156 == (48 : UInt8))) rfl) ?_
    rcases condE H with ⟨c157, H⟩ | ⟨c157, H⟩
    ·
     refine WL.guardNo rfl rfl rfl (vb c157 rfl) <|
      WL.guardNo rfl rfl rfl (vb c157 rfl) <|
      E rfl (ex_pick_t (v := .bool true) (vb c157 rfl) rfl) <|
      E rfl (mv (.bool true) rfl) <|
      WL.guardNo rfl rfl rfl rfl <|
      WL.guardNo rfl rfl rfl rfl <|
      E rfl (ex_pick_t (v := .bool true) rfl rfl) <|
      E rfl (mv (.bool true) rfl) <|
      WL.guardNo rfl rfl rfl rfl <|
      WL.guardNo rfl rfl rfl rfl <|
      WL.guardNo rfl rfl rfl rfl <|
      WL.guardNo rfl rfl rfl rfl <|
      WL.guardNo rfl rfl rfl rfl <|
      WL.guardUn rfl rfl rfl rfl <|
      WL.guardUn rfl rfl rfl rfl <|
      WL.guardUn rfl rfl rfl rfl <|
      WL.guardUn rfl rfl rfl rfl <|
      WL.guardNo rfl rfl rfl rfl <|
      E rfl (ex_pick_t (v := .bool true) rfl rfl) <|
      WL.nil ?_
     obtain rfl := Option.some.inj H
     replace hG := hG.step s138 rfl
     replace HF := HF.step s138 rfl
     have k110_138 := ((s110.t s128).t s133).t s138
     replace hB105 := hB105.step k110_138 rfl
     exact ⟨_, HF, hB105, hG, rfl, rfl, rfl, rfl, rfl, rfl, rfl⟩
    ·
     refine WL.guardYes rfl rfl rfl (vb c157 rfl) <|
      OW.ex rfl (mv v139 rfl) <|
      WL.guardYes rfl rfl rfl (vb c157 rfl) <|
      OW.ex rfl (ex_errNeq (b := z135.2) rfl U105 hE140) <|
      E rfl (ex_pick_f (v := .bool z135.2) (vb c157 rfl) rfl) <|
      E rfl (mv (.bool z135.2) rfl) ?_
     rcases condE H with ⟨c158, H⟩ | ⟨c158, H⟩
     ·
      refine WL.guardNo rfl rfl rfl (vb c158 rfl) <|
       WL.guardNo rfl rfl rfl (vb c158 rfl) <|
       E rfl (ex_pick_t (v := .bool true) (vb c158 rfl) rfl) <|
       E rfl (mv (.bool true) rfl) <|
       WL.guardNo rfl rfl rfl rfl <|
       WL.guardNo rfl rfl rfl rfl <|
       WL.guardNo rfl rfl rfl rfl <|
       WL.guardNo rfl rfl rfl rfl <|
       WL.guardNo rfl rfl rfl rfl <|
       WL.guardUn rfl rfl rfl rfl <|
       WL.guardUn rfl rfl rfl rfl <|
       WL.guardUn rfl rfl rfl rfl <|
       WL.guardUn rfl rfl rfl rfl <|
       WL.guardNo rfl rfl rfl rfl <|
       E rfl (ex_pick_t (v := .bool true) rfl rfl) <|
       WL.nil ?_
      obtain rfl := Option.some.inj H
      replace hG := hG.step s138 rfl
      replace HF := HF.step s138 rfl
      have k110_138 := ((s110.t s128).t s133).t s138
      replace hB105 := hB105.step k110_138 rfl
      exact ⟨_, HF, hB105, hG, rfl, rfl, rfl, rfl, rfl, rfl, rfl⟩
     ·
      refine WL.guardYes rfl rfl rfl (vb c158 rfl) <|
       OW.ex rfl (mv (ii z135.1) rfl) <|
       WL.guardYes rfl rfl rfl (vb c158 rfl) <|
       OW.ex rfl (e2 bin_gtr rfl rfl) <|
       E rfl (ex_pick_f (v := .bool (decide (z135.1 > 999999999))) (vb c158 rfl) rfl) <|
       E rfl (mv (.bool (decide (z135.1 > 999999999))) rfl) ?_
      rcases condE H with ⟨c159, H⟩ | ⟨c159, H⟩
      ·
       refine WL.guardNo rfl rfl rfl (vb c159 rfl) <|
        WL.guardNo rfl rfl rfl (vb c159 rfl) <|
        WL.guardNo rfl rfl rfl (vb c159 rfl) <|
        WL.guardNo rfl rfl rfl (vb c159 rfl) <|
        WL.guardNo rfl rfl rfl (vb c159 rfl) <|
        WL.guardUn rfl rfl rfl rfl <|
        WL.guardUn rfl rfl rfl rfl <|
        WL.guardUn rfl rfl rfl rfl <|
        WL.guardUn rfl rfl rfl rfl <|
        WL.guardNo rfl rfl rfl (vb c159 rfl) <|
        E rfl (ex_pick_t (v := .bool true) (vb c159 rfl) rfl) <|
        WL.nil ?_
       obtain rfl := Option.some.inj H
       replace hG := hG.step s138 rfl
       replace HF := HF.step s138 rfl
       have k110_138 := ((s110.t s128).t s133).t s138
       replace hB105 := hB105.step k110_138 rfl
       exact ⟨_, HF, hB105, hG, rfl, rfl, rfl, rfl, rfl, rfl, rfl⟩
      ·
       refine WL.guardYes rfl rfl rfl (vb c159 rfl) <|
        OW.ex rfl (mv (ii z130) rfl) <|
        WL.guardYes rfl rfl rfl (vb c159 rfl) <|
        OW.ex rfl (mv (encS a0) rfl) <|
        WL.guardYes rfl rfl rfl (vb c159 rfl) <|
        OW.ex rfl (ex_len_str (s := a0) rfl U9) <|
        WL.guardYes rfl rfl rfl (vb c159 rfl) <|
        OW.ex rfl (e2 bin_lss rfl rfl) <|
        WL.guardYes rfl rfl rfl (vb c159 rfl) <|
        OW.ex rfl (mv (.bool (decide (z130 < (a0.length : Int)))) rfl) ?_
       rcases condE H with ⟨c160, H⟩ | ⟨c160, H⟩
       ·
        refine WL.guardYes rfl rfl rfl (vb c160 rfl) <|
         OW.ex rfl (mv (encS a0) rfl) <|
         WL.guardYes rfl rfl rfl (vb c160 rfl) <|
         OW.ex rfl (mv (ii z130) rfl) <|
         WL.guardYes rfl rfl rfl (vb c160 rfl) ?_
        obtain ⟨x161, hx161, H⟩ := bindE H
        refine OW.ex rfl (ex_index_str (i := z130) rfl rfl U9 (ix_some hx161).1 (ix_some hx161).2.2) <|
         WL.guardYes rfl rfl rfl (vb c160 rfl) ?_
        obtain ⟨z162, hz162, H⟩ := bindE H
        replace HF := HF.step s138 rfl
        refine OW.call [enc8 x161] rfl Tryz.func95 (by kernel_rfl) (by kernel_rfl) (map_cons' rfl rfl) (token_tail.calls _ _ hz162 (HF.ten (V := [0]) (L := []) rfl) ) ?_
        rintro _ w163 ⟨o164, rfl, s165⟩
        refine ⟨_, rfl, ?_⟩
        replace s165 := un_stepL (J := []) (L' := []) s165 rfl rfl
        refine WL.guardYes rfl rfl rfl (vb c159 rfl) <|
         OW.ex rfl (ex_pick_t (v := .bool z162) (vb c160 rfl) rfl) <|
         E rfl (ex_pick_f (v := .bool z162) (vb c159 rfl) rfl) <|
         WL.nil ?_
        obtain rfl := Option.some.inj H
        replace HF := HF.step s165 rfl
        have k138_165 := s138.t s165
        replace hG := hG.step k138_165 rfl
        have k110_165 := ((s110.t s128).t s133).t k138_165
        replace hB105 := hB105.step k110_165 rfl
        exact ⟨_, HF, hB105, hG, rfl, rfl, rfl, rfl, rfl, rfl, rfl⟩
       ·
        refine WL.guardNo rfl rfl rfl (vb c160 rfl) <|
         WL.guardNo rfl rfl rfl (vb c160 rfl) <|
         WL.guardNo rfl rfl rfl (vb c160 rfl) <|
         WL.guardNo rfl rfl rfl (vb c160 rfl) <|
         WL.guardYes rfl rfl rfl (vb c159 rfl) <|
         OW.ex rfl (ex_pick_f (v := .bool false) (vb c160 rfl) rfl) <|
         E rfl (ex_pick_f (v := .bool false) (vb c159 rfl) rfl) <|
         WL.nil ?_
        obtain rfl := Option.some.inj H
        replace hG := hG.step s138 rfl
        replace HF := HF.step s138 rfl
        have k110_138 := ((s110.t s128).t s133).t s138
        replace hB105 := hB105.step k110_138 rfl
        exact ⟨_, HF, hB105, hG, rfl, rfl, rfl, rfl, rfl, rfl, rfl⟩
   ·
    refine WL.guardNo rfl rfl rfl (vb c155 rfl) <|
     WL.guardNo rfl rfl rfl (vb c155 rfl) <|
     WL.guardNo rfl rfl rfl (vb c155 rfl) <|
     E rfl (ex_pick_f (v := .bool false) (vb c155 rfl) rfl) <|
     E rfl (mv (.bool false) rfl) <|
     WL.guardYes rfl rfl rfl rfl <|
     OW.ex rfl (mv v139 rfl) <|
     WL.guardYes rfl rfl rfl rfl <|
     OW.ex rfl (ex_errNeq (b := z135.2) rfl U105 hE140) <|
     E rfl (ex_pick_f (v := .bool z135.2) rfl rfl) <|
     E rfl (mv (.bool z135.2) rfl) ?_
    rcases condE H with ⟨c166, H⟩ | ⟨c166, H⟩
    ·
     refine WL.guardNo rfl rfl rfl (vb c166 rfl) <|
      WL.guardNo rfl rfl rfl (vb c166 rfl) <|
      E rfl (ex_pick_t (v := .bool true) (vb c166 rfl) rfl) <|
      E rfl (mv (.bool true) rfl) <|
      WL.guardNo rfl rfl rfl rfl <|
      WL.guardNo rfl rfl rfl rfl <|
      WL.guardNo rfl rfl rfl rfl <|
      WL.guardNo rfl rfl rfl rfl <|
      WL.guardNo rfl rfl rfl rfl <|
      WL.guardUn rfl rfl rfl rfl <|
      WL.guardUn rfl rfl rfl rfl <|
      WL.guardUn rfl rfl rfl rfl <|
      WL.guardUn rfl rfl rfl rfl <|
      WL.guardNo rfl rfl rfl rfl <|
      E rfl (ex_pick_t (v := .bool true) rfl rfl) <|
      WL.nil ?_
     obtain rfl := Option.some.inj H
     replace hG := hG.step s138 rfl
     replace HF := HF.step s138 rfl
     have k110_138 := ((s110.t s128).t s133).t s138
     replace hB105 := hB105.step k110_138 rfl
     exact ⟨_, HF, hB105, hG, rfl, rfl, rfl, rfl, rfl, rfl, rfl⟩
    ·
     refine WL.guardYes rfl rfl rfl (vb c166 rfl) <|
      OW.ex rfl (mv (ii z135.1) rfl) <|
      WL.guardYes rfl rfl rfl (vb c166 rfl) <|
      OW.ex rfl (e2 bin_gtr rfl rfl) <|
      E rfl (ex_pick_f (v := .bool (decide (z135.1 > 999999999))) (vb c166 rfl) rfl) <|
      E rfl (mv (.bool (decide (z135.1 > 999999999))) rfl) ?_
     rcases condE H with ⟨c167, H⟩ | ⟨c167, H⟩
     ·
      refine WL.guardNo rfl rfl rfl (vb c167 rfl) <|
       WL.guardNo rfl rfl rfl (vb c167 rfl) <|
       WL.guardNo rfl rfl rfl (vb c167 rfl) <|
       WL.guardNo rfl rfl rfl (vb c167 rfl) <|
       WL.guardNo rfl rfl rfl (vb c167 rfl) <|
       WL.guardUn rfl rfl rfl rfl <|
       WL.guardUn rfl rfl rfl rfl <|
       WL.guardUn rfl rfl rfl rfl <|
       WL.guardUn rfl rfl rfl rfl <|
       WL.guardNo rfl rfl rfl (vb c167 rfl) <|
       E rfl (ex_pick_t (v := .bool true) (vb c167 rfl) rfl) <|
       WL.nil ?_
      obtain rfl := Option.some.inj H
      replace hG := hG.step s138 rfl
      replace HF := HF.step s138 rfl
      have k110_138 := ((s110.t s128).t s133).t s138
      replace hB105 := hB105.step k110_138 rfl
      exact ⟨_, HF, hB105, hG, rfl, rfl, rfl, rfl, rfl, rfl, rfl⟩
     ·
      refine WL.guardYes rfl rfl rfl (vb c167 rfl) <|
       OW.ex rfl (mv (ii z130) rfl) <|
       WL.guardYes rfl rfl rfl (vb c167 rfl) <|
       OW.ex rfl (mv (encS a0) rfl) <|
       WL.guardYes rfl rfl rfl (vb c167 rfl) <|
       OW.ex rfl (ex_len_str (s := a0) rfl U9) <|
       WL.guardYes rfl rfl rfl (vb c167 rfl) <|
       OW.ex rfl (e2 bin_lss rfl rfl) <|
       WL.guardYes rfl rfl rfl (vb c167 rfl) <|
       OW.ex rfl (mv (.bool (decide (z130 < (a0.length : Int)))) rfl) ?_
      rcases condE H with ⟨c168, H⟩ | ⟨c168, H⟩
      ·
       refine WL.guardYes rfl rfl rfl (vb c168 rfl) <|
        OW.ex rfl (mv (encS a0) rfl) <|
        WL.guardYes rfl rfl rfl (vb c168 rfl) <|
        OW.ex rfl (mv (ii z130) rfl) <|
        WL.guardYes rfl rfl rfl (vb c168 rfl) ?_
       obtain ⟨x169, hx169, H⟩ := bindE H
       refine OW.ex rfl (ex_index_str (i := z130) rfl rfl U9 (ix_some hx169).1 (ix_some hx169).2.2) <|
        WL.guardYes rfl rfl rfl (vb c168 rfl) ?_
       obtain ⟨z170, hz170, H⟩ := bindE H
       replace HF := HF.step s138 rfl
       refine OW.call [enc8 x169] rfl Tryz.func95 (by kernel_rfl) (by kernel_rfl) (map_cons' rfl rfl) (token_tail.calls _ _ hz170 (HF.ten (V := [0]) (L := []) rfl) ) ?_
       rintro _ w171 ⟨o172, rfl, s173⟩
       refine ⟨_, rfl, ?_⟩
       replace s173 := un_stepL (J := []) (L' := []) s173 rfl rfl
       refine WL.guardYes rfl rfl rfl (vb c167 rfl) <|
        OW.ex rfl (ex_pick_t (v := .bool z170) (vb c168 rfl) rfl) <|
        E rfl (ex_pick_f (v := .bool z170) (vb c167 rfl) rfl) <|
        WL.nil ?_
       obtain rfl := Option.some.inj H
       replace HF := HF.step s173 rfl
       have k138_173 := s138.t s173
       replace hG := hG.step k138_173 rfl
       have k110_173 := ((s110.t s128).t s133).t k138_173
       replace hB105 := hB105.step k110_173 rfl
       exact ⟨_, HF, hB105, hG, rfl, rfl, rfl, rfl, rfl, rfl, rfl⟩
      ·
       refine WL.guardNo rfl rfl rfl (vb c168 rfl) <|
        WL.guardNo rfl rfl rfl (vb c168 rfl) <|
        WL.guardNo rfl rfl rfl (vb c168 rfl) <|
        WL.guardNo rfl rfl rfl (vb c168 rfl) <|
        WL.guardYes rfl rfl rfl (vb c167 rfl) <|
        OW.ex rfl (ex_pick_f (v := .bool false) (vb c168 rfl) rfl) <|
        E rfl (ex_pick_f (v := .bool false) (vb c167 rfl) rfl) <|
        WL.nil ?_
       obtain rfl := Option.some.inj H
       replace hG := hG.step s138 rfl
       replace HF := HF.step s138 rfl
       have k110_138 := ((s110.t s128).t s133).t s138
       replace hB105 := hB105.step k110_138 rfl
       exact ⟨_, HF, hB105, hG, rfl, rfl, rfl, rfl, rfl, rfl, rfl⟩
  ·
   refine WC.cond_f (vb c129 rfl) <|
    WC.skip <|
    WC.seq <|
    WC.seq <|
    WC.region <|
    E rfl (mv (encS a0) rfl) ?_
   obtain ⟨z174, hz174, H⟩ := bindE H
   refine WL.op rfl ?_
   replace HF := HF.step s128 rfl
   have k104_128 := (s104.t s110).t s128
   replace hG := hG.step k104_128 rfl
   refine OW.call [encS a0] rfl Tryz.func98 (by kernel_rfl) (by kernel_rfl) (map_cons' rfl rfl) (utf8_DecodeRuneInString.calls _ _ a0 z174 (HF.ten (V := [0]) (L := []) rfl) (Gl.vw hG rfl) hz174) ?_
   rintro _ w175 ⟨o176, rfl, s177⟩
   refine ⟨_, rfl, ?_⟩
   replace s177 := un_stepL (J := []) (L' := []) s177 rfl rfl
   refine E rfl (mv (.tuple #[.int .i32 z174.1, ii z174.2]) rfl) <|
    E rfl (ex_extract rfl rfl) <|
    E rfl (ex_extract rfl rfl) <|
    E rfl (sg (.int .i32 z174.1) rfl) <|
    E rfl (sg (ii z174.2) rfl) <|
    WL.nil <|
    WC.seq <|
    WC.region <|
    E rfl (mv (.int .i32 z174.1) rfl) <|
    WL.nil <|
    WC.block <|
    WC.seq <|
    WC.region <|
    E rfl (e2 bin_eql rfl rfl) <|
    E rfl (sg (.bool (z174.1 == 8868)) rfl) <|
    WL.nil ?_
   rcases condE H with ⟨c178, H⟩ | ⟨c178, H⟩
   ·
    refine WC.cond_t (vb c178 rfl) <|
     WC.seq <|
     WC.region <|
     E rfl (ex_build (cs := [ii 1, encS ([116, 114, 117, 101] : List UInt8), ii (0 : Int), ii (0 : Int), ii (0 : Int), ii (0 : Int)]) [(0, 1), (1, 1), (2, 1), (3, 3)] [(0, ii 1), (1, encS ([116, 114, 117, 101] : List UInt8))] [ii 0, .string ⟨#[]⟩, ii 0, ii 0, ii 0, ii 0] U76 zr76 rfl (by kernel_rfl) (evs_cons rfl (evs_cons rfl rfl)) rfl) <|
     E rfl (mv (ii z174.2) rfl) <|
     WL.op rfl ?_
    have k110_177 := (s110.t s128).t s177
    replace hB105 := hB105.step k110_177 rfl
    refine OW.storeW rfl rfl sz76 hB105 rfl (oa rfl) ?_
    intro w179 s180 hB181
    refine E rfl (sg (ii z174.2) rfl) <|
     E rfl (sg (ii 0) rfl) <|
     WL.nil <|
     WC.ret ?_
    obtain rfl := Option.some.inj H
    have k177_180 := s177.t s180
    replace HF := HF.step k177_180 rfl
    exact ⟨_, (.cell _ rfl (run_loadN (cs := [ii 1, encS ([116, 114, 117, 101] : List UInt8), ii (0 : Int), ii (0 : Int), ii (0 : Int), ii (0 : Int)]) U76 rfl sz76 (hB181.cells rfl)) (.tmp _ rfl (.tmp _ rfl .nil))), _, rfl, HF.out⟩
   ·
    refine WC.cond_f (vb c178 rfl) <|
     WC.seq <|
     WC.region <|
     E rfl (e2 bin_eql rfl rfl) <|
     E rfl (sg (.bool (z174.1 == 8869)) rfl) <|
     WL.nil ?_
    rcases condE H with ⟨c182, H⟩ | ⟨c182, H⟩
    ·
     refine WC.cond_t (vb c182 rfl) <|
      WC.seq <|
      WC.region <|
      E rfl (ex_build (cs := [ii 1, encS ([102, 97, 108, 115, 101] : List UInt8), ii (0 : Int), ii (0 : Int), ii (0 : Int), ii (0 : Int)]) [(0, 1), (1, 1), (2, 1), (3, 3)] [(0, ii 1), (1, encS ([102, 97, 108, 115, 101] : List UInt8))] [ii 0, .string ⟨#[]⟩, ii 0, ii 0, ii 0, ii 0] U76 zr76 rfl (by kernel_rfl) (evs_cons rfl (evs_cons rfl rfl)) rfl) <|
      E rfl (mv (ii z174.2) rfl) <|
      WL.op rfl ?_
     have k110_177 := (s110.t s128).t s177
     replace hB105 := hB105.step k110_177 rfl
     refine OW.storeW rfl rfl sz76 hB105 rfl (oa rfl) ?_
     intro w183 s184 hB185
     refine E rfl (sg (ii z174.2) rfl) <|
      E rfl (sg (ii 0) rfl) <|
      WL.nil <|
      WC.ret ?_
     obtain rfl := Option.some.inj H
     have k177_184 := s177.t s184
     replace HF := HF.step k177_184 rfl
     exact ⟨_, (.cell _ rfl (run_loadN (cs := [ii 1, encS ([102, 97, 108, 115, 101] : List UInt8), ii (0 : Int), ii (0 : Int), ii (0 : Int), ii (0 : Int)]) U76 rfl sz76 (hB185.cells rfl)) (.tmp _ rfl (.tmp _ rfl .nil))), _, rfl, HF.out⟩
    ·
     refine WC.cond_f (vb c182 rfl) <|
      WC.skip <|
      WC.seq <|
      WC.region <|
      E rfl (mv (encS a0) rfl) ?_
     obtain ⟨z186, hz186, H⟩ := bindE H
     refine WL.op rfl ?_
     replace hG := hG.step s177 rfl
     replace HF := HF.step s177 rfl
     refine OW.call [encS a0] rfl Tryz.func99 (by kernel_rfl) (by kernel_rfl) (map_cons' rfl rfl) (token_sign.calls k _ _ hz186 (HF.ten (V := [0]) (L := []) rfl) (Gl.vw hG rfl)) ?_
     rintro _ w187 ⟨o188, rfl, s189⟩
     refine ⟨_, rfl, ?_⟩
     replace s189 := un_stepL (J := []) (L' := []) s189 rfl rfl
     refine E rfl (mv (.tuple #[encS z186.1, ii z186.2]) rfl) <|
      E rfl (ex_extract rfl rfl) <|
      E rfl (ex_extract rfl rfl) <|
      E rfl (sg (encS z186.1) rfl) <|
      E rfl (sg (ii z186.2) rfl) <|
      WL.nil <|
      WC.seq <|
      WC.seq <|
      WC.region <|
      E rfl (mv (ii z186.2) rfl) <|
      E rfl (e2 bin_eql rfl rfl) <|
      WL.nil ?_
     rcases condE H with ⟨c190, H⟩ | ⟨c190, H⟩
     ·
      refine WC.cond_t (vb c190 rfl) <|
       WC.seq <|
       WC.region <|
       E rfl (ex_build (cs := [ii (0 : Int), encS ([] : List UInt8), ii (0 : Int), ii (0 : Int), ii (0 : Int), ii (0 : Int)]) [(0, 1), (1, 1), (2, 1), (3, 3)] [] [ii 0, .string ⟨#[]⟩, ii 0, ii 0, ii 0, ii 0] U76 zr76 rfl (by kernel_rfl) rfl rfl) <|
       WL.op rfl ?_
      have k110_189 := ((s110.t s128).t s177).t s189
      replace hB105 := hB105.step k110_189 rfl
      refine OW.storeW rfl rfl sz76 hB105 rfl (oa rfl) ?_
      intro w191 s192 hB193
      refine E rfl (sg (ii 0) rfl) <|
       E rfl (sg (ii 20) rfl) <|
       WL.nil <|
       WC.ret ?_
      obtain rfl := Option.some.inj H
      have k189_192 := s189.t s192
      replace HF := HF.step k189_192 rfl
      exact ⟨_, (.cell _ rfl (run_loadN (cs := [ii (0 : Int), encS ([] : List UInt8), ii (0 : Int), ii (0 : Int), ii (0 : Int), ii (0 : Int)]) U76 rfl sz76 (hB193.cells rfl)) (.tmp _ rfl (.tmp _ rfl .nil))), _, rfl, HF.out⟩
     ·
      refine WC.cond_f (vb c190 rfl) <|
       WC.skip <|
       WC.seq <|
       WC.region <|
       E rfl (mv (encS z186.1) rfl) <|
       E rfl (ex_build (cs := [ii 3, encS z186.1, ii (0 : Int), ii (0 : Int), ii (0 : Int), ii (0 : Int)]) [(0, 1), (1, 1), (2, 1), (3, 3)] [(0, ii 3), (1, encS z186.1)] [ii 0, .string ⟨#[]⟩, ii 0, ii 0, ii 0, ii 0] U76 zr76 rfl (by kernel_rfl) (evs_cons rfl (evs_cons rfl rfl)) rfl) <|
       E rfl (mv (ii z186.2) rfl) <|
       WL.op rfl ?_
      have k110_189 := ((s110.t s128).t s177).t s189
      replace hB105 := hB105.step k110_189 rfl
      refine OW.storeW rfl rfl sz76 hB105 rfl (oa rfl) ?_
      intro w194 s195 hB196
      refine E rfl (sg (ii z186.2) rfl) <|
       E rfl (sg (ii 0) rfl) <|
       WL.nil <|
       WC.ret ?_
      obtain rfl := Option.some.inj H
      have k189_195 := s189.t s195
      replace HF := HF.step k189_195 rfl
      exact ⟨_, (.cell _ rfl (run_loadN (cs := [ii 3, encS z186.1, ii (0 : Int), ii (0 : Int), ii (0 : Int), ii (0 : Int)]) U76 rfl sz76 (hB196.cells rfl)) (.tmp _ rfl (.tmp _ rfl .nil))), _, rfl, HF.out⟩

/-! ### token_Scan -/
set_option maxRecDepth 100000 in
theorem token_Scan.calls (k : Nat) (o0 : Tags) (w0 : World) {a0 : List UInt8} {r : (List T_api_Token) × T_api_Fault} (H : token_Scan.f k a0 = some r) (hO : ∀ b, b < w0.heap.size → o0 b < 40) (hG : Gl GG o0 w0) :
  Calls Tryz.prog 54 [encS a0].toArray w0 fun e_ w_ => ∃ (o_ : Tags) (rv0 : Value), e_ = .returned (one [rv0, .agg #[ii r.2.f_Code, ii r.2.f_At.f_Line, ii r.2.f_At.f_Col, ii r.2.f_At.f_Off]]) ∧ Step o0 w0 o_ w_ [] ∧ Own T_api_Token.rep 76 39 o_ w_ rv0 r.1 := by
 have HF := Fm.refl hO []
 unfold token_Scan.f at H
 refine SX.calls [encS a0] Tryz.func54 rfl rfl ?_
 rw [Tryz.ntmps54]
 refine WC.seq <|
  WC.region <|
  E rfl (sg (.slice none ([] : List T_api_Token).length 0) rfl) <|
  WL.op rfl <|
  OW.alloc' [ii (0 : Int), ii (0 : Int), ii (0 : Int), ii (0 : Int)] 40 HF rfl zr36 rfl ?_
 intro o102 w103 b101 s104 hB105
 refine WL.nil <|
  WC.seq <|
  WC.region <|
  E rfl (mv (encS a0) rfl) <|
  E rfl (ex_build (cs := [ii 1, ii 1, ii (0 : Int)]) [(0, 1), (1, 1), (2, 1)] [(0, ii 1), (1, ii 1)] [ii 0, ii 0, ii 0] U34 zr34 rfl (by kernel_rfl) (evs_cons rfl (evs_cons rfl rfl)) rfl) <|
  E rfl (ex_build (cs := [encS a0, ii 1, ii 1, ii (0 : Int)]) [(0, 1), (1, 3)] [(0, encS a0), (1, .agg #[ii 1, ii 1, ii (0 : Int)])] [.string ⟨#[]⟩, ii 0, ii 0, ii 0] U128 zr128 rfl (by kernel_rfl) (evs_cons rfl (evs_cons rfl rfl)) rfl) <|
  WL.op rfl ?_
 replace HF := HF.step s104 rfl
 refine OW.box' [encS a0, ii 1, ii 1, ii (0 : Int)] 41 HF rfl ((congrArg Value.cells (show ev _ _ = (.agg #[encS a0, ii 1, ii 1, ii (0 : Int)] : Value) from rfl)).trans rfl) ?_
 intro o107 w108 b106 s109 hB110
 refine E rfl (sg (pp b106 0) rfl) <|
  WL.nil <|
  WC.seq <|
  WC.region <|
  E rfl (sg (.slice none ([] : List T_api_Token).length 0) rfl) <|
  WL.nil ?_
 obtain ⟨z115, hz115, H⟩ := bindE H
 replace hB105 := hB105.step s109 rfl
 replace HF := HF.step s109 rfl
 have k104_109 := s104.t s109
 replace hG := hG.step k104_109 rfl
 refine WC.for (fun k_ ρ_ w_ => ∃ (o_ : Tags) (x113 : (List T_api_Token)) (x114 : T_token_cursor) (v111 : Value), Fm o0 w0 o_ w_ [] ∧ Own T_api_Token.rep 76 46 o_ w_ v111 x113 ∧ Bk o_ w_ 40 b101 [ii (0 : Int), ii (0 : Int), ii (0 : Int), ii (0 : Int)] 36 ∧ Bk o_ w_ 41 b106 [encS x114.f_s, ii x114.f_at.f_Line, ii x114.f_at.f_Col, ii x114.f_at.f_Off] 128 ∧ Gl GG o_ w_ ∧ ρ_ 2 = .slice none ([] : List T_api_Token).length 0 ∧ ρ_ 3 = pp b101 0 ∧ ρ_ 4 = pp b106 0 ∧ ρ_ 5 = v111 ∧ token_Scan.l1 k k_ x113 x114 = some z115) k (fun ρ_ w_ => False) ⟨_, ([] : List T_api_Token), (⟨a0, (⟨1, 1, (0 : Int)⟩ : T_api_Spot)⟩ : T_token_cursor), _, HF, Own.nil, hB105, hB110, hG, rfl, rfl, rfl, rfl, hz115⟩ ?case116 ?_
 case case116 =>
  exact fun _ _ h_ => h_.elim
 have Ho117 := H
 rintro k118 ρ119 w120 ⟨o121, x113, x114, v111, HF, hO112, hB105, hB110, hG, s2_110, s3_110, s4_110, s5_113, H⟩
 cases k118 with
 | zero => cases H
 | succ k118 =>
 rw [token_Scan.l1.eq_2] at H
 refine WC.block <|
  WC.seq <|
  WC.region <|
  E rfl (mv (pp b106 0) s4_110) ?_
 obtain ⟨z122, hz122, H⟩ := bindE H
 refine WL.op rfl <|
  OW.call [pp b106 0] rfl Tryz.func75 (by kernel_rfl) (by kernel_rfl) (map_cons' rfl rfl) (token_cursor_space.calls k _ _ b106 (a0 := x114) hz122 (HF.ten (V := [0]) (L := [41]) rfl) (Bk.vw hB110 rfl) (Gl.vw hG rfl)) ?_
 rintro _ w123 ⟨o124, rfl, s125, hB126⟩
 refine ⟨_, rfl, ?_⟩
 replace hB126 := Bk.unO (J := []) 0 hB126 s125 rfl rfl rfl
 replace s125 := un_stepL (J := []) (L' := [41]) s125 rfl rfl
 refine WL.nil <|
  WC.seq <|
  WC.seq <|
  WC.region <|
  E rfl (mv (pp b106 0) s4_110) ?_
 obtain ⟨z127, hz127, H⟩ := bindE H
 refine WL.op rfl ?_
 replace HF := HF.step s125 rfl
 refine OW.call [pp b106 0] rfl Tryz.func76 (by kernel_rfl) (by kernel_rfl) (map_cons' rfl rfl) (token_cursor_here.calls _ _ b106 (a0 := z122) hz127 (HF.ten (V := [0]) (L := [41]) rfl) (Bk.vw hB126 rfl)) ?_
 rintro _ w128 ⟨o129, rfl, s130⟩
 refine ⟨_, rfl, ?_⟩
 replace s130 := un_stepL (J := []) (L' := []) s130 rfl rfl
 refine E rfl (e2 bin_eql_str rfl rfl) <|
  WL.nil ?_
 rcases condE H with ⟨c131, H⟩ | ⟨c131, H⟩
 ·
  refine WC.cond_t (vb c131 rfl) <|
   WC.seq <|
   WC.region <|
   E rfl (mv v111 s5_113) <|
   E rfl (mv (pp b106 0) s4_110) <|
   E rfl (ex_nilCheck rfl) <|
   E rfl (ex_fieldAddr rfl U128 rfl sz34) ?_
  replace hB126 := hB126.step s130 rfl
  refine E rfl (ex_loadN (cs := [ii z122.f_at.f_Line, ii z122.f_at.f_Col, ii z122.f_at.f_Off]) rfl U34 rfl sz34 (hB126.cells rfl)) <|
   E rfl (ex_build (cs := [ii (0 : Int), encS ([] : List UInt8), ii (0 : Int), ii z122.f_at.f_Line, ii z122.f_at.f_Col, ii z122.f_at.f_Off]) [(0, 1), (1, 1), (2, 1), (3, 3)] [(3, .agg #[ii z122.f_at.f_Line, ii z122.f_at.f_Col, ii z122.f_at.f_Off])] [ii 0, .string ⟨#[]⟩, ii 0, ii 0, ii 0, ii 0] U76 zr76 rfl (by kernel_rfl) (evs_cons rfl rfl) rfl) <|
   WL.op rfl ?_
  replace HF := HF.step s130 rfl
  refine OW.row (r := T_api_Token.rep) (xs := [(⟨(0 : Int), ([] : List UInt8), (0 : Int), (⟨z122.f_at.f_Line, z122.f_at.f_Col, z122.f_at.f_Off⟩ : T_api_Spot)⟩ : T_api_Token)]) [(0, .agg #[ii (0 : Int), encS ([] : List UInt8), ii (0 : Int), ii z122.f_at.f_Line, ii z122.f_at.f_Col, ii z122.f_at.f_Off])] [[ii (0 : Int), encS ([] : List UInt8), ii (0 : Int), ii z122.f_at.f_Line, ii z122.f_at.f_Col, ii z122.f_at.f_Off]] 47 HF rfl U71 sz76 zr76 rfl (evs_cons rfl rfl) rfl rfl ⟨(T_api_Token.mk' (⟨(0 : Int), ([] : List UInt8), (0 : Int), (⟨z122.f_at.f_Line, z122.f_at.f_Col, z122.f_at.f_Off⟩ : T_api_Spot)⟩ : T_api_Token) ), trivial⟩ rfl rfl rfl rfl ?_
  intro o132 w133 v135 s134 hO136
  obtain ⟨A137, c138, q139_, _, q139⟩ := hO136.row
  obtain ⟨u140, hu140, H⟩ := bindE H
  refine WL.op rfl ?_
  have k125_134 := (s125.t s130).t s134
  replace hO112 := hO112.step k125_134 rfl rfl
  refine OW.append (r := T_api_Token.rep) (E := 76) (i := 46) rfl U71 inf76 rfl (by decide) (by decide) (by decide) rfl ((show _ = (v135 : Value) from rfl).trans q139_) hO112 q139 rfl (of_decide_eq_true (chk_true hu140)) ?_
  intro o141 w142 v143 s144 hO145
  refine E rfl (ex_build (cs := [ii (0 : Int), ii (0 : Int), ii (0 : Int), ii (0 : Int)]) [(0, 1), (1, 3)] [] [ii 0, ii 0, ii 0, ii 0] U36 zr36 rfl (by kernel_rfl) rfl rfl) <|
   E rfl (sg v143 rfl) <|
   WL.op rfl ?_
  have k125_144 := k125_134.t s144
  replace hB105 := hB105.step k125_144 rfl
  refine OW.storeW rfl s3_110 sz36 hB105 rfl (oa rfl) ?_
  intro w146 s147 hB148
  refine WL.nil <|
   WC.ret ?_
  obtain rfl := Option.some.inj H
  replace H := Ho117
  dsimp only at H
  obtain rfl := Option.some.inj H
  replace hO145 := hO145.step s147 rfl rfl
  replace hO145 := Own.renTo (j := 39) hO145 rfl
  have k134_147 := (s134.t s144).t s147
  replace HF := HF.step k134_147 rfl
  replace HF := HF.ren (i := 46) (j := 39) rfl
  exact ⟨_, (.tmp _ rfl (.cell _ s3_110 (run_loadN (cs := [ii (0 : Int), ii (0 : Int), ii (0 : Int), ii (0 : Int)]) U36 rfl sz36 (hB148.cells rfl)) .nil)), _, v143, rfl, HF.out, hO145⟩
 ·
  refine WC.cond_f (vb c131 rfl) <|
   WC.skip <|
   WC.seq <|
   WC.region <|
   E rfl (mv (pp b106 0) s4_110) ?_
  obtain ⟨z149, hz149, H⟩ := bindE H
  refine WL.op rfl ?_
  replace hB126 := hB126.step s130 rfl
  replace HF := HF.step s130 rfl
  refine OW.call [pp b106 0] rfl Tryz.func76 (by kernel_rfl) (by kernel_rfl) (map_cons' rfl rfl) (token_cursor_here.calls _ _ b106 (a0 := z122) hz149 (HF.ten (V := [0]) (L := [41]) rfl) (Bk.vw hB126 rfl)) ?_
  rintro _ w150 ⟨o151, rfl, s152⟩
  refine ⟨_, rfl, ?_⟩
  replace s152 := un_stepL (J := []) (L' := []) s152 rfl rfl
  obtain ⟨z153, hz153, H⟩ := bindE H
  refine WL.op rfl ?_
  replace HF := HF.step s152 rfl
  have k125_152 := (s125.t s130).t s152
  replace hG := hG.step k125_152 rfl
  refine OW.call [encS z149] rfl Tryz.func77 (by kernel_rfl) (by kernel_rfl) (map_cons' rfl rfl) (token_word.calls k _ _ hz153 (HF.ten (V := [0]) (L := []) rfl) (Gl.vw hG rfl)) ?_
  rintro _ w154 ⟨o155, rfl, s156⟩
  refine ⟨_, rfl, ?_⟩
  replace s156 := un_stepL (J := []) (L' := []) s156 rfl rfl
  refine E rfl (mv (.tuple #[.agg #[ii z153.1.f_Kind, encS z153.1.f_Text, ii z153.1.f_Int, ii z153.1.f_At.f_Line, ii z153.1.f_At.f_Col, ii z153.1.f_At.f_Off], ii z153.2.1, ii z153.2.2]) rfl) <|
   E rfl (ex_extract rfl rfl) <|
   E rfl (ex_extract rfl rfl) <|
   E rfl (ex_extract rfl rfl) <|
   WL.op rfl ?_
  replace HF := HF.step s156 rfl
  refine OW.alloc' [ii (0 : Int), encS ([] : List UInt8), ii (0 : Int), ii (0 : Int), ii (0 : Int), ii (0 : Int)] 48 HF rfl zr76 rfl ?_
  intro o158 w159 b157 s160 hB161
  refine WL.op rfl <|
   OW.storeW rfl rfl sz76 hB161 rfl (oa rfl) ?_
  intro w162 s163 hB164
  refine E rfl (sg (ii z153.2.1) rfl) <|
   E rfl (sg (ii z153.2.2) rfl) <|
   WL.nil <|
   WC.seq <|
   WC.seq <|
   WC.region <|
   E rfl (mv (ii z153.2.2) rfl) <|
   E rfl (e2 bin_neq rfl rfl) <|
   WL.nil ?_
  rcases condE H with ⟨c165, H⟩ | ⟨c165, H⟩
  ·
   refine WC.cond_t (vb c165 rfl) <|
    WC.seq ?_
   have k160_163 := s160.t s163
   replace HF := HF.step k160_163 rfl
   refine WC.regionD' HF [] 7 8 (by kernel_rfl) rfl ?_
   intro w166 s167
   have k152_167 := (((s152.t s156).t s160).t s163).t s167
   replace hB126 := hB126.step k152_167 rfl
   have hB126D := hB126
   replace HF := HF.step s167 rfl
   have sR := HF.here []
   refine WA.seq [0, 1, 2, 3, 4, 5, 6] (lb 8 127) 1 (by kernel_rfl) rfl ⟨_, sR⟩ <|
    X1 rfl (fun w_ hS_ => ex_move (v := ii z153.2.2) rfl) <|
    X1 rfl (fun w_ hS_ => ex_move (v := pp b106 0) s4_110) <|
    X1 rfl (fun w_ hS_ => ex_nilCheck rfl) <|
    X1 rfl (fun w_ hS_ => ex_fieldAddr rfl U128 rfl sz34) <|
    X1 rfl (fun w_ hS_ => ex_loadN (cs := [ii z122.f_at.f_Line, ii z122.f_at.f_Col, ii z122.f_at.f_Off]) rfl U34 rfl sz34 ((hB126D.step hS_.choose_spec rfl).cells rfl)) <|
    X1 rfl (fun w_ hS_ => ex_build (cs := [ii z153.2.2, ii z122.f_at.f_Line, ii z122.f_at.f_Col, ii z122.f_at.f_Off]) [(0, 1), (1, 3)] [(0, ii z153.2.2), (1, .agg #[ii z122.f_at.f_Line, ii z122.f_at.f_Col, ii z122.f_at.f_Off])] [ii 0, ii 0, ii 0, ii 0] U36 zr36 rfl (by kernel_rfl) (evs_cons rfl (evs_cons rfl rfl)) rfl) <|
    X1 rfl (fun w_ hS_ => ex_assign (v := .slice none ([] : List T_api_Token).length 0) rfl) <|
    WA.last 7 (by kernel_rfl) (by kernel_rfl) rfl rfl rfl ?_
   have k125_167 := (((k125_152.t s156).t s160).t s163).t s167
   replace hB105 := hB105.step k125_167 rfl
   refine OW.storeW rfl s3_110 sz36 hB105 rfl (oa rfl) ?_
   intro w168 s169 hB170
   refine WC.ret ?_
   obtain rfl := Option.some.inj H
   replace H := Ho117
   dsimp only at H
   obtain rfl := Option.some.inj H
   replace HF := HF.step s169 rfl
   exact ⟨_, (.tmp _ rfl (.cell _ s3_110 (run_loadN (cs := [ii z153.2.2, ii z122.f_at.f_Line, ii z122.f_at.f_Col, ii z122.f_at.f_Off]) U36 rfl sz36 (hB170.cells rfl)) .nil)), _, (.slice none 0 0), rfl, HF.out, Own.nil⟩
  ·
   refine WC.cond_f (vb c165 rfl) <|
    WC.skip <|
    WC.seq <|
    WC.region <|
    E rfl (mv (pp b106 0) s4_110) <|
    E rfl (ex_nilCheck rfl) <|
    E rfl (ex_fieldAddr rfl U128 rfl sz34) ?_
   have k152_163 := ((s152.t s156).t s160).t s163
   replace hB126 := hB126.step k152_163 rfl
   refine E rfl (ex_loadN (cs := [ii z122.f_at.f_Line, ii z122.f_at.f_Col, ii z122.f_at.f_Off]) rfl U34 rfl sz34 (hB126.cells rfl)) <|
    E rfl (ex_fieldAddr rfl U76 rfl sz34) <|
    WL.op rfl <|
    OW.store [ii z153.1.f_Kind, encS z153.1.f_Text, ii z153.1.f_Int, ii z122.f_at.f_Line, ii z122.f_at.f_Col, ii z122.f_at.f_Off] rfl (vs := [ii z122.f_at.f_Line, ii z122.f_at.f_Col, ii z122.f_at.f_Off]) rfl sz34 hB164 (Nat.le_of_ble_eq_true rfl) (oa rfl) rfl ?_
   intro w171 s172 hB173
   refine WL.nil <|
    WC.seq <|
    WC.region <|
    E rfl (mv v111 s5_113) <|
    E rfl (ex_loadN (cs := [ii z153.1.f_Kind, encS z153.1.f_Text, ii z153.1.f_Int, ii z122.f_at.f_Line, ii z122.f_at.f_Col, ii z122.f_at.f_Off]) rfl U76 rfl sz76 (hB173.cells rfl)) <|
    WL.op rfl ?_
   have k160_172 := (s160.t s163).t s172
   replace HF := HF.step k160_172 rfl
   refine OW.row (r := T_api_Token.rep) (xs := [(⟨z153.1.f_Kind, z153.1.f_Text, z153.1.f_Int, (⟨z122.f_at.f_Line, z122.f_at.f_Col, z122.f_at.f_Off⟩ : T_api_Spot)⟩ : T_api_Token)]) [(0, .agg #[ii z153.1.f_Kind, encS z153.1.f_Text, ii z153.1.f_Int, ii z122.f_at.f_Line, ii z122.f_at.f_Col, ii z122.f_at.f_Off])] [[ii z153.1.f_Kind, encS z153.1.f_Text, ii z153.1.f_Int, ii z122.f_at.f_Line, ii z122.f_at.f_Col, ii z122.f_at.f_Off]] 49 HF rfl U71 sz76 zr76 rfl (evs_cons rfl rfl) rfl rfl ⟨(T_api_Token.mk' (⟨z153.1.f_Kind, z153.1.f_Text, z153.1.f_Int, (⟨z122.f_at.f_Line, z122.f_at.f_Col, z122.f_at.f_Off⟩ : T_api_Spot)⟩ : T_api_Token) ), trivial⟩ rfl rfl rfl rfl ?_
   intro o174 w175 v177 s176 hO178
   obtain ⟨A179, c180, q181_, _, q181⟩ := hO178.row
   obtain ⟨u182, hu182, H⟩ := bindE H
   refine WL.op rfl ?_
   have k125_176 := ((((k125_152.t s156).t s160).t s163).t s172).t s176
   replace hO112 := hO112.step k125_176 rfl rfl
   refine OW.append (r := T_api_Token.rep) (E := 76) (i := 46) rfl U71 inf76 rfl (by decide) (by decide) (by decide) rfl ((show _ = (v177 : Value) from rfl).trans q181_) hO112 q181 rfl (of_decide_eq_true (chk_true hu182)) ?_
   intro o183 w184 v185 s186 hO187
   refine E rfl (sg v185 rfl) <|
    WL.nil <|
    WC.region <|
    E rfl (mv (pp b106 0) s4_110) <|
    E rfl (mv (ii z153.2.1) rfl) ?_
   obtain ⟨z188, hz188, H⟩ := bindE H
   refine WL.op rfl ?_
   have k176_186 := s176.t s186
   replace HF := HF.step k176_186 rfl
   have k172_186 := s172.t k176_186
   replace hB126 := hB126.step k172_186 rfl
   have k156_186 := ((s156.t s160).t s163).t k172_186
   replace hG := hG.step k156_186 rfl
   refine OW.call [pp b106 0, ii z153.2.1] rfl Tryz.func78 (by kernel_rfl) (by kernel_rfl) (map_cons' rfl (map_cons' rfl rfl)) (token_cursor_skip.calls k _ _ b106 (a0 := z122) hz188 (HF.ten (V := [0]) (L := [41]) rfl) (Bk.vw hB126 rfl) (Gl.vw hG rfl)) ?_
   rintro _ w189 ⟨o190, rfl, s191, hB192⟩
   refine ⟨_, rfl, ?_⟩
   replace hB192 := Bk.unO (J := []) 0 hB192 s191 rfl rfl rfl
   replace s191 := un_stepL (J := []) (L' := [41]) s191 rfl rfl
   refine WL.nil ?_
   replace hG := hG.step s191 rfl
   replace hO187 := hO187.step s191 rfl rfl
   replace HF := HF.step s191 rfl
   have k125_191 := (k125_176.t s186).t s191
   replace hB105 := hB105.step k125_191 rfl
   exact ⟨k118, Nat.lt_succ_self _, ⟨_, (x113 ++ [(⟨z153.1.f_Kind, z153.1.f_Text, z153.1.f_Int, (⟨z122.f_at.f_Line, z122.f_at.f_Col, z122.f_at.f_Off⟩ : T_api_Spot)⟩ : T_api_Token)]), z188, _, HF, hO187, hB105, hB192, hG, s2_110, s3_110, s4_110, rfl, H⟩⟩

/-! ### syntax_ahead -/
set_option maxRecDepth 100000 in
theorem syntax_ahead.calls (k : Nat) (o0 : Tags) (w0 : World) {a0 : List UInt8} {r : (List T_api_Token) × T_api_Fault} (H : syntax_ahead.f k a0 = some r) (hO : ∀ b, b < w0.heap.size → o0 b < 40) (hG : Gl GG o0 w0) :
  Calls Tryz.prog 28 [encS a0].toArray w0 fun e_ w_ => ∃ (o_ : Tags) (rv0 : Value), e_ = .returned (one [rv0, .agg #[ii r.2.f_Code, ii r.2.f_At.f_Line, ii r.2.f_At.f_Col, ii r.2.f_At.f_Off]]) ∧ Step o0 w0 o_ w_ [] ∧ Own T_api_Token.rep 76 39 o_ w_ rv0 r.1 := by
 have HF := Fm.refl hO []
 unfold syntax_ahead.f at H
 refine SX.calls [encS a0] Tryz.func28 rfl rfl ?_
 rw [Tryz.ntmps28]
 refine WC.seq <|
  WC.region <|
  E rfl (sg (.slice none ([] : List T_api_Token).length 0) rfl) <|
  WL.op rfl <|
  OW.alloc' [ii (0 : Int), ii (0 : Int), ii (0 : Int), ii (0 : Int)] 40 HF rfl zr36 rfl ?_
 intro o102 w103 b101 s104 hB105
 refine WL.nil <|
  WC.seq <|
  WC.region <|
  E rfl (mv (encS a0) rfl) ?_
 obtain ⟨z106, hz106, H⟩ := bindE H
 refine WL.op rfl ?_
 replace hG := hG.step s104 rfl
 replace HF := HF.step s104 rfl
 refine OW.call [encS a0] rfl Tryz.func54 (by kernel_rfl) (by kernel_rfl) (map_cons' rfl rfl) (token_Scan.calls k _ _ hz106 (HF.ten (V := [0]) (L := []) rfl) (Gl.vw hG rfl)) ?_
 rintro _ w107 ⟨o108, v110, rfl, s109, hO111⟩
 refine ⟨_, rfl, ?_⟩
 replace hO111 := Own.un9 (J := [41]) 0 hO111 rfl s109 rfl rfl
 replace s109 := un_stepL (J := [41]) (L' := []) s109 rfl rfl
 refine E rfl (mv (.tuple #[v110, .agg #[ii z106.2.f_Code, ii z106.2.f_At.f_Line, ii z106.2.f_At.f_Col, ii z106.2.f_At.f_Off]]) rfl) <|
  E rfl (ex_extract rfl rfl) <|
  E rfl (ex_extract rfl rfl) <|
  WL.op rfl ?_
 replace HF := HF.step s109 rfl
 refine OW.alloc' [ii (0 : Int), ii (0 : Int), ii (0 : Int), ii (0 : Int)] 42 HF rfl zr36 rfl ?_
 intro o113 w114 b112 s115 hB116
 refine E rfl (sg v110 rfl) <|
  WL.op rfl <|
  OW.storeW rfl rfl sz36 hB116 rfl (oa rfl) ?_
 intro w117 s118 hB119
 refine WL.nil <|
  WC.seq <|
  WC.seq <|
  WC.region <|
  E rfl (ex_fieldAddr rfl U36 rfl sz28) <|
  E rfl (ex_load1 rfl U28 rfl (hB119.cell rfl)) <|
  E rfl (e2 bin_eql rfl rfl) <|
  WL.nil ?_
 rcases condE H with ⟨c120, H⟩ | ⟨c120, H⟩
 ·
  refine WC.cond_t (vb c120 rfl) <|
   WC.seq ?_
  have k115_118 := s115.t s118
  replace HF := HF.step k115_118 rfl
  refine WC.regionD' HF [] 3 4 (by kernel_rfl) rfl ?_
  intro w121 s122
  replace hB119 := hB119.step s122 rfl
  have hB119D := hB119
  replace HF := HF.step s122 rfl
  have sR := HF.here []
  refine WA.seq [0, 1, 2] (lb 4 7) 1 (by kernel_rfl) rfl ⟨_, sR⟩ <|
   X1 rfl (fun w_ hS_ => ex_move (v := v110) rfl) <|
   X1 rfl (fun w_ hS_ => ex_loadN (cs := [ii z106.2.f_Code, ii z106.2.f_At.f_Line, ii z106.2.f_At.f_Col, ii z106.2.f_At.f_Off]) rfl U36 rfl sz36 ((hB119D.step hS_.choose_spec rfl).cells rfl)) <|
   X1 rfl (fun w_ hS_ => ex_assign (v := v110) rfl) <|
   WA.last 3 (by kernel_rfl) (by kernel_rfl) rfl rfl rfl ?_
  have k109_122 := ((s109.t s115).t s118).t s122
  replace hB105 := hB105.step k109_122 rfl
  refine OW.storeW rfl rfl sz36 hB105 rfl (oa rfl) ?_
  intro w123 s124 hB125
  refine WC.ret ?_
  obtain rfl := Option.some.inj H
  have k115_124 := (k115_118.t s122).t s124
  replace hO111 := hO111.step k115_124 rfl rfl
  replace hO111 := Own.renTo (j := 39) hO111 rfl
  replace HF := HF.step s124 rfl
  replace HF := HF.ren (i := 41) (j := 39) rfl
  exact ⟨_, (.tmp _ rfl (.cell _ rfl (run_loadN (cs := [ii z106.2.f_Code, ii z106.2.f_At.f_Line, ii z106.2.f_At.f_Col, ii z106.2.f_At.f_Off]) U36 rfl sz36 (hB125.cells rfl)) .nil)), _, v110, rfl, HF.out, hO111⟩
 ·
  refine WC.cond_f (vb c120 rfl) <|
   WC.skip <|
   WC.seq <|
   WC.region <|
   E rfl (mv (encS a0) rfl) <|
   E rfl (ex_fieldAddr rfl U36 rfl sz34) <|
   E rfl (ex_fieldAddr rfl U34 rfl sz3) <|
   E rfl (ex_load1 rfl U3 rfl (hB119.cell rfl)) ?_
  obtain ⟨y126, hy126, H⟩ := bindE H
  refine E rfl (ex_slice_str (l := 0) (h := z106.2.f_At.f_Off) rfl U9 rfl ⟨_, rfl⟩ hy126) ?_
  obtain ⟨z127, hz127, H⟩ := bindE H
  refine WL.op rfl ?_
  have k115_118 := s115.t s118
  replace HF := HF.step k115_118 rfl
  have k109_118 := s109.t k115_118
  replace hG := hG.step k109_118 rfl
  refine OW.call [encS y126] rfl Tryz.func54 (by kernel_rfl) (by kernel_rfl) (map_cons' rfl rfl) (token_Scan.calls k _ _ hz127 (HF.ten (V := [0]) (L := []) rfl) (Gl.vw hG rfl)) ?_
  rintro _ w128 ⟨o129, v131, rfl, s130, hO132⟩
  refine ⟨_, rfl, ?_⟩
  replace hO132 := Own.un9 (J := [43]) 0 hO132 rfl s130 rfl rfl
  replace s130 := un_stepL (J := [43]) (L' := []) s130 rfl rfl
  refine E rfl (mv (.tuple #[v131, .agg #[ii z127.2.f_Code, ii z127.2.f_At.f_Line, ii z127.2.f_At.f_Col, ii z127.2.f_At.f_Off]]) rfl) <|
   E rfl (ex_extract rfl rfl) <|
   E rfl (ex_extract rfl rfl) <|
   E rfl (sg v131 rfl) <|
   WL.nil ?_
  obtain ⟨z136, hz136, H⟩ := bindE H
  refine WC.cut (fun ρ_ w_ => ∃ (o_ : Tags) (v133 : Value), Fm o0 w0 o_ w_ [] ∧ Own T_api_Token.rep 76 43 o_ w_ v133 z136 ∧ Bk o_ w_ 40 b101 [ii (0 : Int), ii (0 : Int), ii (0 : Int), ii (0 : Int)] 36 ∧ Bk o_ w_ 42 b112 [ii z106.2.f_Code, ii z106.2.f_At.f_Line, ii z106.2.f_At.f_Col, ii z106.2.f_At.f_Off] 36 ∧ Gl GG o_ w_ ∧ ρ_ 2 = .slice none ([] : List T_api_Token).length 0 ∧ ρ_ 3 = pp b101 0 ∧ ρ_ 4 = v133 ∧ ρ_ 5 = pp b112 0) ?case137 ?_
  case case137 =>
   rintro ρ140 w138 ⟨o139, v133, HF, hO134, hB105, hB119, hG, s2_132, s3_132, s4_135, s5_135⟩
   refine WC.seq <|
    WC.regionD' HF [] 3 4 (by kernel_rfl) rfl ?_
   intro w141 s142
   replace hB119 := hB119.step s142 rfl
   have hB119D := hB119
   replace HF := HF.step s142 rfl
   have sR := HF.here []
   refine WA.seq [0, 1, 2] (lb 4 7) 1 (by kernel_rfl) rfl ⟨_, sR⟩ <|
    X1 rfl (fun w_ hS_ => ex_move (v := v133) s4_135) <|
    X1 rfl (fun w_ hS_ => ex_loadN (cs := [ii z106.2.f_Code, ii z106.2.f_At.f_Line, ii z106.2.f_At.f_Col, ii z106.2.f_At.f_Off]) s5_135 U36 rfl sz36 ((hB119D.step hS_.choose_spec rfl).cells rfl)) <|
    X1 rfl (fun w_ hS_ => ex_assign (v := v133) rfl) <|
    WA.last 3 (by kernel_rfl) (by kernel_rfl) rfl rfl rfl ?_
   replace hB105 := hB105.step s142 rfl
   refine OW.storeW rfl s3_132 sz36 hB105 rfl (oa rfl) ?_
   intro w143 s144 hB145
   refine WC.ret ?_
   obtain rfl := Option.some.inj H
   have k142_144 := s142.t s144
   replace hO134 := hO134.step k142_144 rfl rfl
   replace hO134 := Own.renTo (j := 39) hO134 rfl
   replace HF := HF.step s144 rfl
   replace HF := HF.ren (i := 43) (j := 39) rfl
   exact ⟨_, (.tmp _ rfl (.cell _ s3_132 (run_loadN (cs := [ii z106.2.f_Code, ii z106.2.f_At.f_Line, ii z106.2.f_At.f_Col, ii z106.2.f_At.f_Off]) U36 rfl sz36 (hB145.cells rfl)) .nil)), _, v133, rfl, HF.out, hO134⟩
  have Ho146 := H
  replace H := hz136
  refine WC.seq <|
   WC.region <|
   E rfl (mv v131 rfl) ?_
  obtain ⟨A147, c148, q149⟩ := hO132.slice
  refine E rfl (ex_len_slice ((show _ = (v131 : Value) from rfl).trans q149) U71) <|
   E rfl (sg (ii (z127.1.length : Int)) rfl) <|
   WL.nil <|
   WC.seq <|
   WC.region <|
   E rfl (mv (ii (z127.1.length : Int)) rfl) <|
   E rfl (e2 bin_gtr rfl rfl) <|
   WL.nil ?_
  rcases condE H with ⟨c150, H⟩ | ⟨c150, H⟩
  ·
   refine WC.cond_t (vb c150 rfl) <|
    WC.region <|
    E rfl (mv v131 rfl) <|
    E rfl (mv (ii (z127.1.length : Int)) rfl) <|
    E rfl (e2 bin_sub64 rfl rfl) <|
    E rfl (ex_fieldAddr rfl U36 rfl sz34) ?_
   replace hB119 := hB119.step s130 rfl
   refine E rfl (ex_loadN (cs := [ii z106.2.f_At.f_Line, ii z106.2.f_At.f_Col, ii z106.2.f_At.f_Off]) rfl U34 rfl sz34 (hB119.cells rfl)) ?_
   obtain ⟨x151, hx151, H⟩ := bindE H
   obtain ⟨A156, c157, q158_⟩ := hO132.slice
   obtain ⟨ad152, cc159, e153, g154, g155, hl160, hR161, cell162⟩ := Row.ix (Own.rowOf hO132 q158_) hx151
   obtain rfl := T_api_Token.opn hR161
   refine E rfl (ex_indexAddr (i := (wrap64 ((z127.1.length : Int) - 1))) ((show _ = (v131 : Value) from rfl).trans q158_) e153 rfl U71 sz76 g154 g155) <|
    E rfl (ex_fieldAddr rfl U76 rfl sz34) <|
    WL.op rfl <|
    OW.storeElemPart (r := T_api_Token.rep) (j := (wrap64 ((z127.1.length : Int) - 1))) (y' := (⟨x151.f_Kind, x151.f_Text, x151.f_Int, (⟨z106.2.f_At.f_Line, z106.2.f_At.f_Col, z106.2.f_At.f_Off⟩ : T_api_Spot)⟩ : T_api_Token)) (off := 3) (c0 := [ii x151.f_Kind, encS x151.f_Text, ii x151.f_Int, ii x151.f_At.f_Line, ii x151.f_At.f_Col, ii x151.f_At.f_Off]) (vs := [ii z106.2.f_At.f_Line, ii z106.2.f_At.f_Col, ii z106.2.f_At.f_Off]) hO132 (q158_.trans (by rw [e153])) rfl g154 g155 ((congrArg Value.cells (show ev _ _ = (.agg #[ii z106.2.f_At.f_Line, ii z106.2.f_At.f_Col, ii z106.2.f_At.f_Off] : Value) from rfl)).trans rfl) sz34 cell162 rfl (Nat.le_of_ble_eq_true rfl) (by intro u_ hu_; simp only [List.mem_cons, List.not_mem_nil, or_false] at hu_; rcases hu_ with rfl | rfl | rfl <;> first | rfl) (T_api_Token.mk' (⟨x151.f_Kind, x151.f_Text, x151.f_Int, (⟨z106.2.f_At.f_Line, z106.2.f_At.f_Col, z106.2.f_At.f_Off⟩ : T_api_Spot)⟩ : T_api_Token) ) (by decide) ?_
   intro w164 s165 hO166
   refine WL.nil ?_
   obtain rfl := Option.some.inj H
   replace hB119 := hB119.step s165 rfl
   have k130_165 := s130.t s165
   replace hG := hG.step k130_165 rfl
   replace HF := HF.step k130_165 rfl
   have k109_165 := k109_118.t k130_165
   replace hB105 := hB105.step k109_165 rfl
   exact ⟨_, _, HF, hO166, hB105, hB119, hG, rfl, rfl, rfl, rfl⟩
  ·
   refine WC.cond_f (vb c150 rfl) <|
    WC.skip ?_
   obtain rfl := Option.some.inj H
   replace hG := hG.step s130 rfl
   replace hB119 := hB119.step s130 rfl
   replace HF := HF.step s130 rfl
   have k109_130 := k109_118.t s130
   replace hB105 := hB105.step k109_130 rfl
   exact ⟨_, _, HF, hO132, hB105, hB119, hG, rfl, rfl, rfl, rfl⟩

/-! ### syntax_counted -/
set_option maxRecDepth 100000 in
theorem syntax_counted.calls (o0 : Tags) (w0 : World) {a0 : T_api_Token} {r : Bool} (H : syntax_counted.f a0 = some r) (hO : ∀ b, b < w0.heap.size → o0 b < 40) :
  Calls Tryz.prog 29 [.agg #[ii a0.f_Kind, encS a0.f_Text, ii a0.f_Int, ii a0.f_At.f_Line, ii a0.f_At.f_Col, ii a0.f_At.f_Off]].toArray w0 fun e_ w_ => ∃ (o_ : Tags), e_ = .returned (one [.bool r]) ∧ Step o0 w0 o_ w_ [] := by
 have HF := Fm.refl hO []
 unfold syntax_counted.f at H
 refine SX.calls [.agg #[ii a0.f_Kind, encS a0.f_Text, ii a0.f_Int, ii a0.f_At.f_Line, ii a0.f_At.f_Col, ii a0.f_At.f_Off]] Tryz.func29 rfl rfl ?_
 rw [Tryz.ntmps29]
 refine WC.seq <|
  WC.region <|
  WL.op rfl <|
  OW.box' [ii a0.f_Kind, encS a0.f_Text, ii a0.f_Int, ii a0.f_At.f_Line, ii a0.f_At.f_Col, ii a0.f_At.f_Off] 40 HF rfl ((congrArg Value.cells (show ev _ _ = (.agg #[ii a0.f_Kind, encS a0.f_Text, ii a0.f_Int, ii a0.f_At.f_Line, ii a0.f_At.f_Col, ii a0.f_At.f_Off] : Value) from rfl)).trans rfl) ?_
 intro o102 w103 b101 s104 hB105
 refine E rfl (sg (.bool false) rfl) <|
  WL.nil ?_
 obtain ⟨z106, hz106, H⟩ := bindE H
 refine WC.cut (fun ρ_ w_ => ∃ (o_ : Tags), Fm o0 w0 o_ w_ [] ∧ Bk o_ w_ 40 b101 [ii a0.f_Kind, encS a0.f_Text, ii a0.f_Int, ii a0.f_At.f_Line, ii a0.f_At.f_Col, ii a0.f_At.f_Off] 76 ∧ ρ_ 1 = pp b101 0 ∧ ρ_ 2 = .bool false ∧ z106 = .inr ()) ?case107 ?_
 case case107 =>
  rintro ρ110 w108 ⟨o109, HF, hB105, s1_105, s2_105, rfl⟩
  replace H : _ = some _ := H
  dsimp only at H
  refine WC.seq <|
   WC.region <|
   E rfl (ex_fieldAddr s1_105 U76 rfl sz74) <|
   E rfl (ex_load1 rfl U74 rfl (hB105.cell rfl)) <|
   E rfl (e2 bin_eql rfl rfl) <|
   E rfl (sg (.bool (a0.f_Kind == 1)) rfl) <|
   WL.nil <|
   WC.ret ?_
  obtain rfl := Option.some.inj H
  exact ⟨_, (.tmp _ rfl .nil), _, rfl, HF.out⟩
 have Ho111 := H
 replace H := hz106
 refine WC.seq <|
  WC.region <|
  E rfl (ex_fieldAddr rfl U76 rfl sz74) <|
  E rfl (ex_load1 rfl U74 rfl (hB105.cell rfl)) <|
  E rfl (e2 bin_eql rfl rfl) <|
  WL.nil ?_
 rcases condE H with ⟨c112, H⟩ | ⟨c112, H⟩
 ·
  refine WC.cond_t (vb c112 rfl) <|
   WC.seq <|
   WC.region <|
   E rfl (ex_fieldAddr rfl U76 rfl sz9) <|
   E rfl (ex_load1 rfl U9 rfl (hB105.cell rfl)) <|
   WL.nil <|
   WC.block ?_
  obtain ⟨z114, hz114, H⟩ := bindE H
  refine WC.cut (fun ρ_ w_ => ∃ (o_ : Tags), Fm o0 w0 o_ w_ [] ∧ Bk o_ w_ 40 b101 [ii a0.f_Kind, encS a0.f_Text, ii a0.f_Int, ii a0.f_At.f_Line, ii a0.f_At.f_Col, ii a0.f_At.f_Off] 76 ∧ ρ_ 1 = pp b101 0 ∧ ρ_ 2 = .bool false ∧ ρ_ 8 = .bool z114) ?case115 ?_
  case case115 =>
   rintro ρ118 w116 ⟨o117, HF, hB105, s1_112, s2_112, s8_113⟩
   rcases condE H with ⟨c119, H⟩ | ⟨c119, H⟩
   ·
    refine WC.cond_t (vb c119 s8_113) <|
     WC.seq <|
     WC.region <|
     E rfl (sg (.bool true) rfl) <|
     WL.nil <|
     WC.ret ?_
    obtain rfl := Option.some.inj H
    replace H := Ho111
    dsimp only at H
    obtain rfl := Option.some.inj H
    exact ⟨_, (.tmp _ rfl .nil), _, rfl, HF.out⟩
   ·
    refine WC.cond_f (vb c119 s8_113) <|
     WC.skip ?_
    obtain rfl := Option.some.inj H
    exact ⟨_, HF, hB105, s1_112, s2_112, rfl⟩
  have Ho120 := H
  replace H := hz114
  refine WC.seq <|
   WC.region <|
   E rfl (e2 bin_eql_str rfl rfl) <|
   E rfl (sg (.bool (a0.f_Text == ([126] : List UInt8))) rfl) <|
   WL.nil ?_
  rcases condE H with ⟨c121, H⟩ | ⟨c121, H⟩
  ·
   refine WC.cond_t (vb c121 rfl) <|
    WC.skip ?_
   obtain rfl := Option.some.inj H
   replace HF := HF.step s104 rfl
   exact ⟨_, HF, hB105, rfl, rfl, rfl⟩
  ·
   refine WC.cond_f (vb c121 rfl) <|
    WC.seq <|
    WC.region <|
    E rfl (e2 bin_eql_str rfl rfl) <|
    E rfl (sg (.bool (a0.f_Text == ([38] : List UInt8))) rfl) <|
    WL.nil ?_
   rcases condE H with ⟨c122, H⟩ | ⟨c122, H⟩
   ·
    refine WC.cond_t (vb c122 rfl) <|
     WC.skip ?_
    obtain rfl := Option.some.inj H
    replace HF := HF.step s104 rfl
    exact ⟨_, HF, hB105, rfl, rfl, rfl⟩
   ·
    refine WC.cond_f (vb c122 rfl) <|
     WC.seq <|
     WC.region <|
     E rfl (e2 bin_eql_str rfl rfl) <|
     E rfl (sg (.bool (a0.f_Text == ([124] : List UInt8))) rfl) <|
     WL.nil ?_
    rcases condE H with ⟨c123, H⟩ | ⟨c123, H⟩
    ·
     refine WC.cond_t (vb c123 rfl) <|
      WC.skip ?_
     obtain rfl := Option.some.inj H
     replace HF := HF.step s104 rfl
     exact ⟨_, HF, hB105, rfl, rfl, rfl⟩
    ·
     refine WC.cond_f (vb c123 rfl) <|
      WC.seq <|
      WC.region <|
      E rfl (e2 bin_eql_str rfl rfl) <|
      E rfl (sg (.bool (a0.f_Text == ([45, 62] : List UInt8))) rfl) <|
      WL.nil ?_
     rcases condE H with ⟨c124, H⟩ | ⟨c124, H⟩
     ·
      refine WC.cond_t (vb c124 rfl) <|
       WC.skip ?_
      obtain rfl := Option.some.inj H
      replace HF := HF.step s104 rfl
      exact ⟨_, HF, hB105, rfl, rfl, rfl⟩
     ·
      refine WC.cond_f (vb c124 rfl) <|
       WC.region <|
       E rfl (e2 bin_eql_str rfl rfl) <|
       E rfl (sg (.bool (a0.f_Text == ([60, 45, 62] : List UInt8))) rfl) <|
       WL.nil ?_
      obtain rfl := Option.some.inj H
      replace HF := HF.step s104 rfl
      exact ⟨_, HF, hB105, rfl, rfl, rfl⟩
 ·
  refine WC.cond_f (vb c112 rfl) <|
   WC.skip ?_
  obtain rfl := Option.some.inj H
  replace HF := HF.step s104 rfl
  exact ⟨_, HF, hB105, rfl, rfl, rfl⟩

/-! ### syntax_Count -/
set_option maxRecDepth 100000 in
theorem syntax_Count.calls (k : Nat) (o0 : Tags) (w0 : World) {a0 : List UInt8} {r : Int} (H : syntax_Count.f k a0 = some r) (hO : ∀ b, b < w0.heap.size → o0 b < 40) (hG : Gl GG o0 w0) :
  Calls Tryz.prog 11 [encS a0].toArray w0 fun e_ w_ => ∃ (o_ : Tags), e_ = .returned (one [ii r]) ∧ Step o0 w0 o_ w_ [] := by
 have HF := Fm.refl hO []
 unfold syntax_Count.f at H
 refine SX.calls [encS a0] Tryz.func11 rfl rfl ?_
 rw [Tryz.ntmps11]
 refine WC.seq <|
  WC.region <|
  E rfl (sg (ii 0) rfl) <|
  WL.nil <|
  WC.seq <|
  WC.region <|
  E rfl (mv (encS a0) rfl) ?_
 obtain ⟨z101, hz101, H⟩ := bindE H
 refine WL.op rfl <|
  OW.call [encS a0] rfl Tryz.func28 (by kernel_rfl) (by kernel_rfl) (map_cons' rfl rfl) (syntax_ahead.calls k _ _ hz101 (HF.ten (V := [0]) (L := []) rfl) (Gl.vw hG rfl)) ?_
 rintro _ w102 ⟨o103, v105, rfl, s104, hO106⟩
 refine ⟨_, rfl, ?_⟩
 replace hO106 := Own.un9 (J := [40]) 0 hO106 rfl s104 rfl rfl
 replace s104 := un_stepL (J := [40]) (L' := []) s104 rfl rfl
 refine E rfl (mv (.tuple #[v105, .agg #[ii z101.2.f_Code, ii z101.2.f_At.f_Line, ii z101.2.f_At.f_Col, ii z101.2.f_At.f_Off]]) rfl) <|
  E rfl (ex_extract rfl rfl) <|
  E rfl (ex_extract rfl rfl) <|
  WL.op rfl ?_
 replace HF := HF.step s104 rfl
 refine OW.alloc' [ii (0 : Int), ii (0 : Int), ii (0 : Int), ii (0 : Int)] 41 HF rfl zr36 rfl ?_
 intro o108 w109 b107 s110 hB111
 refine E rfl (sg v105 rfl) <|
  WL.op rfl <|
  OW.storeW rfl rfl sz36 hB111 rfl (oa rfl) ?_
 intro w112 s113 hB114
 refine WL.nil <|
  WC.seq <|
  WC.region <|
  E rfl (sg (ii 0) rfl) <|
  WL.nil <|
  WC.seq <|
  WC.seq <|
  WC.region <|
  E rfl (mv v105 rfl) ?_
 have k110_113 := s110.t s113
 replace hO106 := hO106.step k110_113 rfl rfl
 obtain ⟨A115, c116, q117⟩ := hO106.slice
 refine E rfl (ex_len_slice ((show _ = (v105 : Value) from rfl).trans q117) U71) <|
  E rfl (mv (ii 0) rfl) <|
  WL.nil ?_
 obtain ⟨z121, hz121, H⟩ := bindE H
 replace HF := HF.step k110_113 rfl
 have k104_113 := s104.t k110_113
 replace hG := hG.step k104_113 rfl
 refine WC.for (fun k_ ρ_ w_ => ∃ (o_ : Tags) (x118 : Int) (x119 : Int), Fm o0 w0 o_ w_ [] ∧ Own T_api_Token.rep 76 40 o_ w_ v105 z101.1 ∧ Gl GG o_ w_ ∧ ρ_ 2 = ii 0 ∧ ρ_ 5 = ii x118 ∧ ρ_ 13 = v105 ∧ ρ_ 14 = ii (z101.1.length : Int) ∧ ρ_ 15 = ii x119 ∧ syntax_Count.l1 k z101 k_ x118 x119 = some z121) k (fun ρ_ w_ => ∃ (o_ : Tags), Fm o0 w0 o_ w_ [] ∧ Gl GG o_ w_ ∧ ρ_ 2 = ii 0 ∧ ρ_ 5 = ii z121) ⟨_, 0, 0, HF, hO106, hG, rfl, rfl, rfl, rfl, rfl, hz121⟩ ?case122 ?_
 case case122 =>
  rintro ρ162 w163 ⟨o164, HF, hG, s2_119, s5_120⟩
  refine WC.seq <|
   WC.region <|
   E rfl (mv (ii z121) s5_120) <|
   E rfl (sg (ii z121) rfl) <|
   WL.nil <|
   WC.ret ?_
  obtain rfl := Option.some.inj H
  exact ⟨_, (.tmp _ rfl .nil), _, rfl, HF.out⟩
 have Ho123 := H
 rintro k124 ρ125 w126 ⟨o127, x118, x119, HF, hO106, hG, s2_117, s5_118, s13_118, s14_118, s15_119, H⟩
 cases k124 with
 | zero => cases H
 | succ k124 =>
 rw [syntax_Count.l1.eq_2] at H
 refine WC.seq <|
  WC.region <|
  E rfl (e2 bin_lss s15_119 s14_118) <|
  WL.nil <|
  WC.seq ?_
 rcases condE H with ⟨c128, H⟩ | ⟨c128, H⟩
 ·
  refine WC.cond_t (vb c128 rfl) <|
   WC.skip ?_
  obtain ⟨z130, hz130, H⟩ := bindE H
  refine WC.cut (fun ρ_ w_ => ∃ (o_ : Tags), Fm o0 w0 o_ w_ [] ∧ Own T_api_Token.rep 76 40 o_ w_ v105 z101.1 ∧ Gl GG o_ w_ ∧ ρ_ 2 = ii 0 ∧ ρ_ 5 = ii z130 ∧ ρ_ 13 = v105 ∧ ρ_ 14 = ii (z101.1.length : Int) ∧ ρ_ 15 = ii x119) ?case131 ?_
  case case131 =>
   rintro ρ134 w132 ⟨o133, HF, hO106, hG, s2_128, s5_129, s13_129, s14_129, s15_129⟩
   refine WC.region <|
    E rfl (e2 bin_add64 s15_129 rfl) <|
    E rfl (mv (ii (wrap64 (x119 + 1))) rfl) <|
    WL.nil ?_
   exact ⟨k124, Nat.lt_succ_self _, ⟨_, z130, wrap64 (x119 + 1), HF, hO106, hG, s2_128, s5_129, s13_129, s14_129, rfl, H⟩⟩
  have Ho135 := H
  replace H := hz130
  refine WC.block <|
   WC.seq <|
   WC.region ?_
  obtain ⟨x136, hx136, H⟩ := bindE H
  obtain ⟨A141, c142, q143_⟩ := hO106.slice
  obtain ⟨ad137, cc144, e138, g139, g140, hl145, hR146, cell147⟩ := Row.ix (Own.rowOf hO106 q143_) hx136
  obtain rfl := T_api_Token.opn hR146
  refine E rfl (ex_indexAddr (i := x119) ((show _ = (v105 : Value) from s13_118).trans q143_) e138 s15_119 U71 sz76 g139 g140) <|
   E rfl (ex_loadN (cs := [ii x136.f_Kind, encS x136.f_Text, ii x136.f_Int, ii x136.f_At.f_Line, ii x136.f_At.f_Col, ii x136.f_At.f_Off]) rfl U76 rfl sz76 cell147) <|
   WL.op rfl <|
   OW.alloc' [ii (0 : Int), encS ([] : List UInt8), ii (0 : Int), ii (0 : Int), ii (0 : Int), ii (0 : Int)] 42 HF rfl zr76 rfl ?_
  intro o150 w151 b149 s152 hB153
  refine WL.op rfl <|
   OW.storeW rfl rfl sz76 hB153 rfl (oa rfl) ?_
  intro w154 s155 hB156
  refine WL.nil <|
   WC.seq <|
   WC.region <|
   E rfl (ex_loadN (cs := [ii x136.f_Kind, encS x136.f_Text, ii x136.f_Int, ii x136.f_At.f_Line, ii x136.f_At.f_Col, ii x136.f_At.f_Off]) rfl U76 rfl sz76 (hB156.cells rfl)) ?_
  obtain ⟨z157, hz157, H⟩ := bindE H
  refine WL.op rfl ?_
  have k152_155 := s152.t s155
  replace HF := HF.step k152_155 rfl
  refine OW.call [.agg #[ii x136.f_Kind, encS x136.f_Text, ii x136.f_Int, ii x136.f_At.f_Line, ii x136.f_At.f_Col, ii x136.f_At.f_Off]] rfl Tryz.func29 (by kernel_rfl) (by kernel_rfl) (map_cons' rfl rfl) (syntax_counted.calls _ _ (a0 := x136) hz157 (HF.ten (V := [0]) (L := []) rfl) ) ?_
  rintro _ w158 ⟨o159, rfl, s160⟩
  refine ⟨_, rfl, ?_⟩
  replace s160 := un_stepL (J := []) (L' := []) s160 rfl rfl
  refine WL.nil ?_
  rcases condE H with ⟨c161, H⟩ | ⟨c161, H⟩
  ·
   refine WC.cond_t (vb c161 rfl) <|
    WC.region <|
    E rfl (mv (ii x118) s5_118) <|
    E rfl (e2 bin_add64 rfl rfl) <|
    E rfl (sg (ii (wrap64 (x118 + 1))) rfl) <|
    WL.nil ?_
   obtain rfl := Option.some.inj H
   replace HF := HF.step s160 rfl
   have k152_160 := k152_155.t s160
   replace hO106 := hO106.step k152_160 rfl rfl
   replace hG := hG.step k152_160 rfl
   exact ⟨_, HF, hO106, hG, s2_117, rfl, s13_118, s14_118, s15_119⟩
  ·
   refine WC.cond_f (vb c161 rfl) <|
    WC.skip ?_
   obtain rfl := Option.some.inj H
   replace HF := HF.step s160 rfl
   have k152_160 := k152_155.t s160
   replace hO106 := hO106.step k152_160 rfl rfl
   replace hG := hG.step k152_160 rfl
   exact ⟨_, HF, hO106, hG, s2_117, s5_118, s13_118, s14_118, s15_119⟩
 ·
  refine WC.cond_f (vb c128 rfl) <|
   WC.exit ?_
  obtain rfl := Option.some.inj H
  exact ⟨_, HF, hG, s2_117, s5_118⟩

/-! ### syntax_reader_now -/
set_option maxRecDepth 100000 in
theorem syntax_reader_now.calls (o0 : Tags) (w0 : World) (pb0 : Nat) (pA0_1 : Option Addr) (pc0_1 : Nat) (pb0_0 : Nat) (pv0_0_0 : Value) (pb0_0_1 : Nat) {a0 : T_syntax_reader} {a0_0 : T_formula_Table} {a0_0_1 : (List (T_api_Node × Int))} {r : T_api_Token} (H : syntax_reader_now.f a0 a0_0 a0_0_1 = some r) (hO : ∀ b, b < w0.heap.size → o0 b < 40) (hB0 : Bk o0 w0 2 pb0 [pp pb0_0 0, .slice pA0_1 a0.f_l.length pc0_1, ii a0.f_i, ii a0.f_names, ii a0.f_nest, .bool a0.f_counts, .bool a0.f_full] 80) (hra0_1 : Row T_api_Token.rep (fun b_ => o0 b_ = 0) (fun b_ => o0 b_ = 0) w0 pA0_1 a0.f_l) (hla0_1 : a0.f_l.length ≤ pc0_1) (hB0_0 : Bk o0 w0 3 pb0_0 [pv0_0_0, .map (some pb0_0_1)] 56) (hO0_0_0 : Own T_api_Node.rep 60 4 o0 w0 pv0_0_0 a0_0.f_rows) (hM0_0_1 : Mp (fun x_ : T_api_Node => Value.agg #[ii x_.f_Kind, encS x_.f_Name, ii x_.f_L, ii x_.f_R]) (fun v_ : Int => ii v_) 5 o0 w0 pb0_0_1 a0_0_1) :
  Calls Tryz.prog 33 [pp pb0 0].toArray w0 fun e_ w_ => ∃ (o_ : Tags), e_ = .returned (one [.agg #[ii r.f_Kind, encS r.f_Text, ii r.f_Int, ii r.f_At.f_Line, ii r.f_At.f_Col, ii r.f_At.f_Off]]) ∧ Step o0 w0 o_ w_ [] := by
 have HF := Fm.refl hO []
 unfold syntax_reader_now.f at H
 refine SX.calls [pp pb0 0] Tryz.func33 rfl rfl ?_
 rw [Tryz.ntmps33]
 refine WC.seq <|
  WC.region <|
  WL.op rfl <|
  OW.alloc' [ii (0 : Int), encS ([] : List UInt8), ii (0 : Int), ii (0 : Int), ii (0 : Int), ii (0 : Int)] 40 HF rfl zr76 rfl ?_
 intro o102 w103 b101 s104 hB105
 refine WL.nil <|
  WC.seq <|
  WC.seq ?_
 replace HF := HF.step s104 rfl
 refine WC.regionD' HF [] 10 10 (by kernel_rfl) rfl ?_
 intro w106 s107
 have k104_107 := s104.t s107
 replace hB0 := hB0.step k104_107 rfl
 have hB0D := hB0
 replace HF := HF.step s107 rfl
 have sR := HF.here []
 refine WA.seq [0, 1, 2, 3, 4, 5, 6, 7, 8, 9] (lb 10 1023) 0 (by kernel_rfl) rfl ⟨_, sR⟩ <|
  X1 rfl (fun w_ hS_ => ex_move (v := pp pb0 0) rfl) <|
  X1 rfl (fun w_ hS_ => ex_nilCheck rfl) <|
  X1 rfl (fun w_ hS_ => ex_fieldAddr rfl U80 rfl sz3) <|
  X1 rfl (fun w_ hS_ => ex_load1 (v := ii a0.f_i) rfl U3 rfl ((hB0D.step hS_.choose_spec rfl).cell rfl)) <|
  X1 rfl (fun w_ hS_ => ex_move (v := pp pb0 0) rfl) <|
  X1 rfl (fun w_ hS_ => ex_nilCheck rfl) <|
  X1 rfl (fun w_ hS_ => ex_fieldAddr rfl U80 rfl sz71) <|
  X1 rfl (fun w_ hS_ => ex_load1 (v := .slice pA0_1 a0.f_l.length pc0_1) rfl U71 rfl ((hB0D.step hS_.choose_spec rfl).cell rfl)) <|
  X1 rfl (fun w_ hS_ => ex_len_slice (A := pA0_1) (m := a0.f_l.length) (c := pc0_1) rfl U71) <|
  X1 rfl (fun w_ hS_ => ex_bin (a := ii a0.f_i) (b := ii (a0.f_l.length : Int)) (v := .bool (decide (a0.f_i < (a0.f_l.length : Int)))) rfl rfl bin_lss) <|
  WA.done (by kernel_rfl) ?_
 rcases condE H with ⟨c108, H⟩ | ⟨c108, H⟩
 ·
  refine WC.cond_t (vb c108 rfl) <|
   WC.seq <|
   WC.regionD' HF [] 10 11 (by kernel_rfl) rfl ?_
  intro w109 s110
  have k104_110 := k104_107.t s110
  replace hra0_1 := hra0_1.step k104_110 rfl
  have hra0_1D := hra0_1
  replace hB0 := hB0.step s110 rfl
  have hB0D := hB0
  replace HF := HF.step s110 rfl
  have sR := HF.here []
  refine WA.seq [0, 1, 2, 3, 4, 5, 6, 7, 8, 9] (lb 11 1023) 1 (by kernel_rfl) rfl ⟨_, sR⟩ <|
   X1 rfl (fun w_ hS_ => ex_move (v := pp pb0 0) rfl) <|
   X1 rfl (fun w_ hS_ => ex_nilCheck rfl) <|
   X1 rfl (fun w_ hS_ => ex_fieldAddr rfl U80 rfl sz71) <|
   X1 rfl (fun w_ hS_ => ex_load1 (v := .slice pA0_1 a0.f_l.length pc0_1) rfl U71 rfl ((hB0D.step hS_.choose_spec rfl).cell rfl)) <|
   X1 rfl (fun w_ hS_ => ex_move (v := pp pb0 0) rfl) <|
   X1 rfl (fun w_ hS_ => ex_nilCheck rfl) <|
   X1 rfl (fun w_ hS_ => ex_fieldAddr rfl U80 rfl sz3) <|
   X1 rfl (fun w_ hS_ => ex_load1 (v := ii a0.f_i) rfl U3 rfl ((hB0D.step hS_.choose_spec rfl).cell rfl)) ?_
  obtain ⟨x111, hx111, H⟩ := bindE H
  obtain ⟨ad112, cc116, e113, g114, g115, hl117, hR118, cell119⟩ := Row.ix hra0_1D hx111
  obtain rfl := T_api_Token.opn hR118
  have hk120 := Row.at hra0_1D e113 hx111 (a0.f_i.toNat * 6)
  replace cell119 := fun j_ u_ hu_ => held_cell (Step.refl _ _ _) ⟨_, sR⟩ (by rw [add_block]; exact hk120) rfl (cell119 j_ u_ hu_)
  refine X1 rfl (fun w_ hS_ => ex_indexAddr (i := a0.f_i) rfl e113 rfl U71 sz76 g114 g115) <|
   X1 rfl (fun w_ hS_ => ex_loadN (cs := [ii x111.f_Kind, encS x111.f_Text, ii x111.f_Int, ii x111.f_At.f_Line, ii x111.f_At.f_Col, ii x111.f_At.f_Off]) rfl U76 rfl sz76 (fun j_ u_ hu_ => held_cell sR hS_ (by rw [add_block]; exact hk120) rfl (cell119 j_ u_ hu_))) <|
   WA.last 10 (by kernel_rfl) (by kernel_rfl) rfl rfl rfl ?_
  have k107_110 := s107.t s110
  replace hB105 := hB105.step k107_110 rfl
  refine OW.storeW rfl rfl sz76 hB105 rfl (oa rfl) ?_
  intro w121 s122 hB123
  refine WC.ret ?_
  obtain rfl := Option.some.inj H
  replace HF := HF.step s122 rfl
  exact ⟨_, (.cell _ rfl (run_loadN (cs := [ii x111.f_Kind, encS x111.f_Text, ii x111.f_Int, ii x111.f_At.f_Line, ii x111.f_At.f_Col, ii x111.f_At.f_Off]) U76 rfl sz76 (hB123.cells rfl)) .nil), _, rfl, HF.out⟩
 ·
  refine WC.cond_f (vb c108 rfl) <|
   WC.skip <|
   WC.seq <|
   WC.region <|
   E rfl (ex_build (cs := [ii (0 : Int), encS ([] : List UInt8), ii (0 : Int), ii (0 : Int), ii (0 : Int), ii (0 : Int)]) [(0, 1), (1, 1), (2, 1), (3, 3)] [] [ii 0, .string ⟨#[]⟩, ii 0, ii 0, ii 0, ii 0] U76 zr76 rfl (by kernel_rfl) rfl rfl) <|
   WL.op rfl ?_
  replace hB105 := hB105.step s107 rfl
  refine OW.storeW rfl rfl sz76 hB105 rfl (oa rfl) ?_
  intro w124 s125 hB126
  refine WL.nil <|
   WC.ret ?_
  obtain rfl := Option.some.inj H
  replace HF := HF.step s125 rfl
  exact ⟨_, (.cell _ rfl (run_loadN (cs := [ii (0 : Int), encS ([] : List UInt8), ii (0 : Int), ii (0 : Int), ii (0 : Int), ii (0 : Int)]) U76 rfl sz76 (hB126.cells rfl)) .nil), _, rfl, HF.out⟩

/-! ### syntax_reader_fail -/
set_option maxRecDepth 100000 in
theorem syntax_reader_fail.calls (o0 : Tags) (w0 : World) (pb0 : Nat) (pA0_1 : Option Addr) (pc0_1 : Nat) (pb0_0 : Nat) (pv0_0_0 : Value) (pb0_0_1 : Nat) {a0 : T_syntax_reader} {a1 : Int} {a0_0 : T_formula_Table} {a0_0_1 : (List (T_api_Node × Int))} {r : Exn (T_syntax_broken) (Unit)} (H : syntax_reader_fail.f a0 a1 a0_0 a0_0_1 = some r) (hO : ∀ b, b < w0.heap.size → o0 b < 40) (hB0 : Bk o0 w0 2 pb0 [pp pb0_0 0, .slice pA0_1 a0.f_l.length pc0_1, ii a0.f_i, ii a0.f_names, ii a0.f_nest, .bool a0.f_counts, .bool a0.f_full] 80) (hra0_1 : Row T_api_Token.rep (fun b_ => o0 b_ = 0) (fun b_ => o0 b_ = 0) w0 pA0_1 a0.f_l) (hla0_1 : a0.f_l.length ≤ pc0_1) (hB0_0 : Bk o0 w0 3 pb0_0 [pv0_0_0, .map (some pb0_0_1)] 56) (hO0_0_0 : Own T_api_Node.rep 60 4 o0 w0 pv0_0_0 a0_0.f_rows) (hM0_0_1 : Mp (fun x_ : T_api_Node => Value.agg #[ii x_.f_Kind, encS x_.f_Name, ii x_.f_L, ii x_.f_R]) (fun v_ : Int => ii v_) 5 o0 w0 pb0_0_1 a0_0_1) :
  Calls Tryz.prog 34 [pp pb0 0, ii a1].toArray w0 fun e_ w_ => ∃ (o_ : Tags), ((∃ p_, r = .ex p_ ∧ e_ = .panicked (pc (.iface 111 (.agg #[ii p_.f_f.f_Code, ii p_.f_f.f_At.f_Line, ii p_.f_f.f_At.f_Col, ii p_.f_f.f_At.f_Off]))) ∧ Step o0 w0 o_ w_ []) ∨ ∃ q_, r = .ok q_ ∧ e_ = .returned (one []) ∧ Step o0 w0 o_ w_ []) := by
 have HF := Fm.refl hO []
 unfold syntax_reader_fail.f at H
 refine SX.calls [pp pb0 0, ii a1] Tryz.func34 rfl rfl ?_
 rw [Tryz.ntmps34]
 refine WC.region <|
  E rfl (mv (ii a1) rfl) <|
  E rfl (mv (pp pb0 0) rfl) ?_
 obtain ⟨z101, hz101, H⟩ := bindE H
 refine WL.op rfl <|
  OW.call [pp pb0 0] rfl Tryz.func33 (by kernel_rfl) (by kernel_rfl) (map_cons' rfl rfl) (syntax_reader_now.calls _ _ pb0 pA0_1 pc0_1 pb0_0 pv0_0_0 pb0_0_1 (a0 := a0) (a0_0 := a0_0) hz101 (HF.ten (V := [0]) (L := [2, 3, 4, 5]) rfl) (Bk.vw hB0 rfl) (Row.vw hra0_1 rfl) hla0_1 (Bk.vw hB0_0 rfl) (Own.vw hO0_0_0 rfl rfl) (Mp.vw hM0_0_1 rfl)) ?_
 rintro _ w102 ⟨o103, rfl, s104⟩
 refine ⟨_, rfl, ?_⟩
 replace s104 := un_stepL (J := []) (L' := []) s104 rfl rfl
 refine E rfl (ex_fieldN rfl U76 rfl U34 rfl sz34) <|
  E rfl (ex_build (cs := [ii a1, ii z101.f_At.f_Line, ii z101.f_At.f_Col, ii z101.f_At.f_Off]) [(0, 1), (1, 3)] [(0, ii a1), (1, .agg #[ii z101.f_At.f_Line, ii z101.f_At.f_Col, ii z101.f_At.f_Off])] [ii 0, ii 0, ii 0, ii 0] U36 zr36 rfl (by kernel_rfl) (evs_cons rfl (evs_cons rfl rfl)) rfl) <|
  E rfl (ex_build (cs := [ii a1, ii z101.f_At.f_Line, ii z101.f_At.f_Col, ii z101.f_At.f_Off]) [(0, 4)] [(0, .agg #[ii a1, ii z101.f_At.f_Line, ii z101.f_At.f_Col, ii z101.f_At.f_Off])] [ii 0, ii 0, ii 0, ii 0] U111 zr111 rfl (by kernel_rfl) (evs_cons rfl rfl) rfl) <|
  E rfl (ex_makeInterface (v := .agg #[ii a1, ii z101.f_At.f_Line, ii z101.f_At.f_Col, ii z101.f_At.f_Off]) rfl U111 rfl) <|
  WL.op rfl <|
  OW.panic (T := 111) (v := .agg #[ii a1, ii z101.f_At.f_Line, ii z101.f_At.f_Col, ii z101.f_At.f_Off]) rfl ?_
 obtain rfl := Option.some.inj H
 replace HF := HF.step s104 rfl
 exact ⟨_, Or.inl ⟨_, rfl, rfl, HF.out⟩⟩

/-! ### syntax_reader_take -/
set_option maxRecDepth 100000 in
theorem syntax_reader_take.calls (o0 : Tags) (w0 : World) (pb0 : Nat) (pA0_1 : Option Addr) (pc0_1 : Nat) (pb0_0 : Nat) (pv0_0_0 : Value) (pb0_0_1 : Nat) {a0 : T_syntax_reader} {a0_0 : T_formula_Table} {a0_0_1 : (List (T_api_Node × Int))} {r : Exn (T_syntax_broken × T_syntax_reader) (T_api_Token × T_syntax_reader)} (H : syntax_reader_take.f a0 a0_0 a0_0_1 = some r) (hO : ∀ b, b < w0.heap.size → o0 b < 40) (hB0 : Bk o0 w0 2 pb0 [pp pb0_0 0, .slice pA0_1 a0.f_l.length pc0_1, ii a0.f_i, ii a0.f_names, ii a0.f_nest, .bool a0.f_counts, .bool a0.f_full] 80) (hra0_1 : Row T_api_Token.rep (fun b_ => o0 b_ = 0) (fun b_ => o0 b_ = 0) w0 pA0_1 a0.f_l) (hla0_1 : a0.f_l.length ≤ pc0_1) (hB0_0 : Bk o0 w0 3 pb0_0 [pv0_0_0, .map (some pb0_0_1)] 56) (hO0_0_0 : Own T_api_Node.rep 60 4 o0 w0 pv0_0_0 a0_0.f_rows) (hM0_0_1 : Mp (fun x_ : T_api_Node => Value.agg #[ii x_.f_Kind, encS x_.f_Name, ii x_.f_L, ii x_.f_R]) (fun v_ : Int => ii v_) 5 o0 w0 pb0_0_1 a0_0_1) :
  Calls Tryz.prog 81 [pp pb0 0].toArray w0 fun e_ w_ => ∃ (o_ : Tags), ((∃ p_, r = .ex p_ ∧ ∃ (B_0_1 : Option Addr) (d_0_1 : Nat), e_ = .panicked (pc (.iface 111 (.agg #[ii p_.1.f_f.f_Code, ii p_.1.f_f.f_At.f_Line, ii p_.1.f_f.f_At.f_Col, ii p_.1.f_f.f_At.f_Off]))) ∧ Step o0 w0 o_ w_ [2] ∧ Bk o_ w_ 2 pb0 [pp pb0_0 0, .slice B_0_1 p_.2.f_l.length d_0_1, ii p_.2.f_i, ii p_.2.f_names, ii p_.2.f_nest, .bool p_.2.f_counts, .bool p_.2.f_full] 80 ∧ p_.2.f_l.length ≤ d_0_1 ∧ Row T_api_Token.rep (fun b_ => o_ b_ = 0) (fun b_ => o_ b_ = 0) w_ B_0_1 p_.2.f_l) ∨ ∃ q_, r = .ok q_ ∧ ∃ (B_0_1 : Option Addr) (d_0_1 : Nat), e_ = .returned (one [.agg #[ii q_.1.f_Kind, encS q_.1.f_Text, ii q_.1.f_Int, ii q_.1.f_At.f_Line, ii q_.1.f_At.f_Col, ii q_.1.f_At.f_Off]]) ∧ Step o0 w0 o_ w_ [2] ∧ Bk o_ w_ 2 pb0 [pp pb0_0 0, .slice B_0_1 q_.2.f_l.length d_0_1, ii q_.2.f_i, ii q_.2.f_names, ii q_.2.f_nest, .bool q_.2.f_counts, .bool q_.2.f_full] 80 ∧ q_.2.f_l.length ≤ d_0_1 ∧ Row T_api_Token.rep (fun b_ => o_ b_ = 0) (fun b_ => o_ b_ = 0) w_ B_0_1 q_.2.f_l) := by
 have HF := Fm.refl hO [2]
 unfold syntax_reader_take.f at H
 refine SX.calls [pp pb0 0] Tryz.func81 rfl rfl ?_
 rw [Tryz.ntmps81]
 refine WC.seq <|
  WC.region <|
  WL.op rfl <|
  OW.alloc' [ii (0 : Int), encS ([] : List UInt8), ii (0 : Int), ii (0 : Int), ii (0 : Int), ii (0 : Int)] 40 HF rfl zr76 rfl ?_
 intro o102 w103 b101 s104 hB105
 refine WL.nil <|
  WC.seq <|
  WC.region <|
  E rfl (mv (pp pb0 0) rfl) ?_
 obtain ⟨z106, hz106, H⟩ := bindE H
 refine WL.op rfl ?_
 replace hra0_1 := hra0_1.step s104 rfl
 replace hB0 := hB0.step s104 rfl
 replace hO0_0_0 := hO0_0_0.step s104 rfl rfl
 replace hB0_0 := hB0_0.step s104 rfl
 replace hM0_0_1 := hM0_0_1.step s104 rfl
 replace HF := HF.step s104 rfl
 refine OW.call [pp pb0 0] rfl Tryz.func33 (by kernel_rfl) (by kernel_rfl) (map_cons' rfl rfl) (syntax_reader_now.calls _ _ pb0 pA0_1 pc0_1 pb0_0 pv0_0_0 pb0_0_1 (a0 := a0) (a0_0 := a0_0) hz106 (HF.ten (V := [0]) (L := [2, 3, 4, 5]) rfl) (Bk.vw hB0 rfl) (Row.vw hra0_1 rfl) hla0_1 (Bk.vw hB0_0 rfl) (Own.vw hO0_0_0 rfl rfl) (Mp.vw hM0_0_1 rfl)) ?_
 rintro _ w107 ⟨o108, rfl, s109⟩
 refine ⟨_, rfl, ?_⟩
 replace s109 := un_stepL (J := []) (L' := []) s109 rfl rfl
 refine WL.op rfl ?_
 replace HF := HF.step s109 rfl
 refine OW.alloc' [ii (0 : Int), encS ([] : List UInt8), ii (0 : Int), ii (0 : Int), ii (0 : Int), ii (0 : Int)] 41 HF rfl zr76 rfl ?_
 intro o111 w112 b110 s113 hB114
 refine WL.op rfl <|
  OW.storeW rfl rfl sz76 hB114 rfl (oa rfl) ?_
 intro w115 s116 hB117
 refine WL.nil ?_
 obtain ⟨z123, hz123, H⟩ := bindE H
 refine WC.cut (fun ρ_ w_ => ∃ (o_ : Tags) (x118 : T_syntax_reader) (A119 : Option Addr) (c120 : Nat), Fm o0 w0 o_ w_ [2] ∧ Bk o_ w_ 2 pb0 [pp pb0_0 0, .slice A119 x118.f_l.length c120, ii x118.f_i, ii x118.f_names, ii x118.f_nest, .bool x118.f_counts, .bool x118.f_full] 80 ∧ Row T_api_Token.rep (fun b_ => o_ b_ = 0) (fun b_ => o_ b_ = 0) w_ A119 x118.f_l ∧ x118.f_l.length ≤ c120 ∧ Bk o_ w_ 3 pb0_0 [pv0_0_0, .map (some pb0_0_1)] 56 ∧ Own T_api_Node.rep 60 4 o_ w_ pv0_0_0 a0_0.f_rows ∧ Mp (fun x_ : T_api_Node => Value.agg #[ii x_.f_Kind, encS x_.f_Name, ii x_.f_L, ii x_.f_R]) (fun v_ : Int => ii v_) 5 o_ w_ pb0_0_1 a0_0_1 ∧ Bk o_ w_ 40 b101 [ii (0 : Int), encS ([] : List UInt8), ii (0 : Int), ii (0 : Int), ii (0 : Int), ii (0 : Int)] 76 ∧ Bk o_ w_ 41 b110 [ii z106.f_Kind, encS z106.f_Text, ii z106.f_Int, ii z106.f_At.f_Line, ii z106.f_At.f_Col, ii z106.f_At.f_Off] 76 ∧ ρ_ 0 = pp pb0 0 ∧ ρ_ 2 = pp b101 0 ∧ ρ_ 3 = pp b110 0 ∧ z123 = .inr x118) ?case124 ?_
 case case124 =>
  rintro ρ127 w125 ⟨o126, x118, A119, c120, HF, hB132, hr121, hl122, hB0_0, hO0_0_0, hM0_0_1, hB105, hB117, s0_117, s2_117, s3_117, rfl⟩
  replace H : _ = some _ := H
  dsimp only at H
  refine WC.seq <|
   WC.region <|
   E rfl (mv (pp pb0 0) s0_117) <|
   E rfl (ex_nilCheck rfl) <|
   E rfl (ex_fieldAddr rfl U80 rfl sz3) <|
   E rfl (ex_load1 rfl U3 rfl (hB132.cell rfl)) <|
   E rfl (e2 bin_add64 rfl rfl) <|
   E rfl (ex_nilCheck rfl) <|
   E rfl (ex_fieldAddr rfl U80 rfl sz3) <|
   WL.op rfl <|
   OW.store [pp pb0_0 0, .slice A119 x118.f_l.length c120, ii (wrap64 (x118.f_i + 1)), ii x118.f_names, ii x118.f_nest, .bool x118.f_counts, .bool x118.f_full] rfl (vs := [ii (wrap64 (x118.f_i + 1))]) rfl sz3 hB132 (Nat.le_of_ble_eq_true rfl) (oa rfl) rfl ?_
  intro w128 s129 hB130
  refine WL.nil <|
   WC.seq <|
   WC.region ?_
  replace hB117 := hB117.step s129 rfl
  refine E rfl (ex_loadN (cs := [ii z106.f_Kind, encS z106.f_Text, ii z106.f_Int, ii z106.f_At.f_Line, ii z106.f_At.f_Col, ii z106.f_At.f_Off]) s3_117 U76 rfl sz76 (hB117.cells rfl)) <|
   WL.op rfl ?_
  replace hB105 := hB105.step s129 rfl
  refine OW.storeW rfl s2_117 sz76 hB105 rfl (oa rfl) ?_
  intro w131 s132 hB133
  refine WL.nil <|
   WC.ret ?_
  obtain rfl := Option.some.inj H
  replace hB130 := hB130.step s132 rfl
  have k129_132 := s129.t s132
  replace hr121 := hr121.step k129_132 rfl
  replace HF := HF.step k129_132 rfl
  exact ⟨_, (.cell _ s2_117 (run_loadN (cs := [ii z106.f_Kind, encS z106.f_Text, ii z106.f_Int, ii z106.f_At.f_Line, ii z106.f_At.f_Col, ii z106.f_At.f_Off]) U76 rfl sz76 (hB133.cells rfl)) .nil), _, Or.inr ⟨_, rfl, A119, c120, rfl, HF.out, hB130, hl122, hr121⟩⟩
 have Ho134 := H
 replace H := hz123
 obtain ⟨z136, hz136, H⟩ := bindE H
 refine WC.cut (fun ρ_ w_ => ∃ (o_ : Tags), Fm o0 w0 o_ w_ [2] ∧ Bk o_ w_ 2 pb0 [pp pb0_0 0, .slice pA0_1 a0.f_l.length pc0_1, ii a0.f_i, ii a0.f_names, ii a0.f_nest, .bool a0.f_counts, .bool a0.f_full] 80 ∧ Row T_api_Token.rep (fun b_ => o_ b_ = 0) (fun b_ => o_ b_ = 0) w_ pA0_1 a0.f_l ∧ Bk o_ w_ 3 pb0_0 [pv0_0_0, .map (some pb0_0_1)] 56 ∧ Own T_api_Node.rep 60 4 o_ w_ pv0_0_0 a0_0.f_rows ∧ Mp (fun x_ : T_api_Node => Value.agg #[ii x_.f_Kind, encS x_.f_Name, ii x_.f_L, ii x_.f_R]) (fun v_ : Int => ii v_) 5 o_ w_ pb0_0_1 a0_0_1 ∧ Bk o_ w_ 40 b101 [ii (0 : Int), encS ([] : List UInt8), ii (0 : Int), ii (0 : Int), ii (0 : Int), ii (0 : Int)] 76 ∧ Bk o_ w_ 41 b110 [ii z106.f_Kind, encS z106.f_Text, ii z106.f_Int, ii z106.f_At.f_Line, ii z106.f_At.f_Col, ii z106.f_At.f_Off] 76 ∧ ρ_ 0 = pp pb0 0 ∧ ρ_ 2 = pp b101 0 ∧ ρ_ 3 = pp b110 0 ∧ ρ_ 13 = .bool z136) ?case137 ?_
 case case137 =>
  rintro ρ140 w138 ⟨o139, HF, hB0, hra0_1, hB0_0, hO0_0_0, hM0_0_1, hB105, hB117, s0_134, s2_134, s3_134, s13_135⟩
  rcases condE H with ⟨c141, H⟩ | ⟨c141, H⟩
  ·
   refine WC.cond_t (vb c141 s13_135) ?_
   obtain ⟨z142, hz142, H⟩ := bindE H
   refine WC.cut (fun ρ_ w_ => ∃ (o_ : Tags), Fm o0 w0 o_ w_ [2] ∧ Bk o_ w_ 2 pb0 [pp pb0_0 0, .slice pA0_1 a0.f_l.length pc0_1, ii a0.f_i, ii a0.f_names, ii a0.f_nest, .bool a0.f_counts, .bool a0.f_full] 80 ∧ Row T_api_Token.rep (fun b_ => o_ b_ = 0) (fun b_ => o_ b_ = 0) w_ pA0_1 a0.f_l ∧ Bk o_ w_ 3 pb0_0 [pv0_0_0, .map (some pb0_0_1)] 56 ∧ Own T_api_Node.rep 60 4 o_ w_ pv0_0_0 a0_0.f_rows ∧ Mp (fun x_ : T_api_Node => Value.agg #[ii x_.f_Kind, encS x_.f_Name, ii x_.f_L, ii x_.f_R]) (fun v_ : Int => ii v_) 5 o_ w_ pb0_0_1 a0_0_1 ∧ Bk o_ w_ 40 b101 [ii (0 : Int), encS ([] : List UInt8), ii (0 : Int), ii (0 : Int), ii (0 : Int), ii (0 : Int)] 76 ∧ Bk o_ w_ 41 b110 [ii z106.f_Kind, encS z106.f_Text, ii z106.f_Int, ii z106.f_At.f_Line, ii z106.f_At.f_Col, ii z106.f_At.f_Off] 76 ∧ ρ_ 0 = pp pb0 0 ∧ ρ_ 2 = pp b101 0 ∧ ρ_ 3 = pp b110 0 ∧ z142 = .inr ()) ?case143 ?_
   case case143 =>
    rintro ρ146 w144 ⟨o145, HF, hB0, hra0_1, hB0_0, hO0_0_0, hM0_0_1, hB105, hB117, s0_141, s2_141, s3_141, rfl⟩
    replace H : _ = some _ := H
    dsimp only at H
    refine WC.region <|
     E rfl (mv (pp pb0 0) s0_141) <|
     E rfl (ex_nilCheck rfl) <|
     E rfl (ex_fieldAddr rfl U80 rfl sz3) <|
     E rfl (ex_load1 rfl U3 rfl (hB0.cell rfl)) <|
     E rfl (e2 bin_add64 rfl rfl) <|
     E rfl (ex_nilCheck rfl) <|
     E rfl (ex_fieldAddr rfl U80 rfl sz3) <|
     WL.op rfl <|
     OW.store [pp pb0_0 0, .slice pA0_1 a0.f_l.length pc0_1, ii a0.f_i, ii (wrap64 (a0.f_names + 1)), ii a0.f_nest, .bool a0.f_counts, .bool a0.f_full] rfl (vs := [ii (wrap64 (a0.f_names + 1))]) rfl sz3 hB0 (Nat.le_of_ble_eq_true rfl) (oa rfl) rfl ?_
    intro w147 s148 hB149
    refine WL.nil ?_
    obtain rfl := Option.some.inj H
    replace hra0_1 := hra0_1.step s148 rfl
    replace hB0_0 := hB0_0.step s148 rfl
    replace hO0_0_0 := hO0_0_0.step s148 rfl rfl
    replace hM0_0_1 := hM0_0_1.step s148 rfl
    replace hB105 := hB105.step s148 rfl
    replace hB117 := hB117.step s148 rfl
    replace HF := HF.step s148 rfl
    exact ⟨_, (⟨a0.f_l, a0.f_i, wrap64 (a0.f_names + 1), a0.f_nest, a0.f_counts, a0.f_full⟩ : T_syntax_reader), _, _, HF, hB149, hra0_1, hla0_1, hB0_0, hO0_0_0, hM0_0_1, hB105, hB117, s0_141, s2_141, s3_141, rfl⟩
   have Ho150 := H
   replace H := hz142
   refine WC.seq <|
    WC.region <|
    E rfl (mv (pp pb0 0) s0_134) <|
    E rfl (ex_nilCheck rfl) <|
    E rfl (ex_fieldAddr rfl U80 rfl sz3) <|
    E rfl (ex_load1 rfl U3 rfl (hB0.cell rfl)) <|
    E rfl (e2 bin_eql rfl rfl) <|
    WL.nil ?_
   rcases condE H with ⟨c151, H⟩ | ⟨c151, H⟩
   ·
    refine WC.cond_t (vb c151 rfl) <|
     WC.region <|
     E rfl (mv (pp pb0 0) s0_134) ?_
    obtain ⟨z152, hz152, H⟩ := bindE H
    refine WL.op rfl <|
     OW.callP [pp pb0 0, ii 40] rfl Tryz.func34 (by kernel_rfl) (by kernel_rfl) (map_cons' rfl (map_cons' rfl rfl)) (syntax_reader_fail.calls _ _ pb0 pA0_1 pc0_1 pb0_0 pv0_0_0 pb0_0_1 (a0 := a0) (a0_0 := a0_0) hz152 (HF.ten (V := [0]) (L := [2, 3, 4, 5]) rfl) (Bk.vw hB0 rfl) (Row.vw hra0_1 rfl) hla0_1 (Bk.vw hB0_0 rfl) (Own.vw hO0_0_0 rfl rfl) (Mp.vw hM0_0_1 rfl)) ?_
    rintro _ w153 ⟨o154, (⟨p155, rfl, rfl, s157⟩ | ⟨q156, rfl, rfl, s158⟩)⟩
    ·
     refine Or.inr ⟨_, rfl, ?_⟩
     dsimp only at H
     replace s157 := un_stepL (J := []) (L' := []) s157 rfl rfl
     obtain rfl := Option.some.inj H
     replace H := Ho150
     dsimp only at H
     obtain rfl := Option.some.inj H
     replace H := Ho134
     dsimp only at H
     obtain rfl := Option.some.inj H
     replace hB0 := hB0.step s157 rfl
     replace hra0_1 := hra0_1.step s157 rfl
     replace HF := HF.step s157 rfl
     exact ⟨_, Or.inl ⟨_, rfl, pA0_1, pc0_1, rfl, HF.out, hB0, hla0_1, hra0_1⟩⟩
    ·
     refine Or.inl ⟨_, rfl, ?_⟩
     dsimp only at H
     replace s158 := un_stepL (J := []) (L' := []) s158 rfl rfl
     refine WL.nil ?_
     obtain rfl := Option.some.inj H
     replace hB0 := hB0.step s158 rfl
     replace hra0_1 := hra0_1.step s158 rfl
     replace hB0_0 := hB0_0.step s158 rfl
     replace hO0_0_0 := hO0_0_0.step s158 rfl rfl
     replace hM0_0_1 := hM0_0_1.step s158 rfl
     replace hB105 := hB105.step s158 rfl
     replace hB117 := hB117.step s158 rfl
     replace HF := HF.step s158 rfl
     exact ⟨_, HF, hB0, hra0_1, hB0_0, hO0_0_0, hM0_0_1, hB105, hB117, s0_134, s2_134, s3_134, rfl⟩
   ·
    refine WC.cond_f (vb c151 rfl) <|
     WC.skip ?_
    obtain rfl := Option.some.inj H
    exact ⟨_, HF, hB0, hra0_1, hB0_0, hO0_0_0, hM0_0_1, hB105, hB117, s0_134, s2_134, s3_134, rfl⟩
  ·
   refine WC.cond_f (vb c141 s13_135) <|
    WC.skip ?_
   obtain rfl := Option.some.inj H
   exact ⟨_, a0, _, _, HF, hB0, hra0_1, hla0_1, hB0_0, hO0_0_0, hM0_0_1, hB105, hB117, s0_134, s2_134, s3_134, rfl⟩
 have Ho159 := H
 replace H := hz136
 refine WC.region <|
  E rfl (ex_loadN (cs := [ii z106.f_Kind, encS z106.f_Text, ii z106.f_Int, ii z106.f_At.f_Line, ii z106.f_At.f_Col, ii z106.f_At.f_Off]) rfl U76 rfl sz76 (hB117.cells rfl)) ?_
 obtain ⟨z160, hz160, H⟩ := bindE H
 refine WL.op rfl ?_
 have k113_116 := s113.t s116
 replace HF := HF.step k113_116 rfl
 refine OW.call [.agg #[ii z106.f_Kind, encS z106.f_Text, ii z106.f_Int, ii z106.f_At.f_Line, ii z106.f_At.f_Col, ii z106.f_At.f_Off]] rfl Tryz.func29 (by kernel_rfl) (by kernel_rfl) (map_cons' rfl rfl) (syntax_counted.calls _ _ (a0 := z106) hz160 (HF.ten (V := [0]) (L := []) rfl) ) ?_
 rintro _ w161 ⟨o162, rfl, s163⟩
 refine ⟨_, rfl, ?_⟩
 replace s163 := un_stepL (J := []) (L' := []) s163 rfl rfl
 refine E rfl (mv (.bool z160) rfl) ?_
 rcases condE H with ⟨c164, H⟩ | ⟨c164, H⟩
 ·
  refine WL.guardYes rfl rfl rfl (vb c164 rfl) <|
   OW.ex rfl (mv (pp pb0 0) rfl) <|
   WL.guardYes rfl rfl rfl (vb c164 rfl) <|
   OW.ex rfl (ex_nilCheck rfl) <|
   WL.guardYes rfl rfl rfl (vb c164 rfl) <|
   OW.ex rfl (ex_fieldAddr rfl U80 rfl sz4) <|
   WL.guardYes rfl rfl rfl (vb c164 rfl) ?_
  have k109_163 := ((s109.t s113).t s116).t s163
  replace hB0 := hB0.step k109_163 rfl
  refine OW.ex rfl (ex_load1 rfl U4 rfl (hB0.cell rfl)) <|
   E rfl (ex_pick_t (v := .bool a0.f_counts) (vb c164 rfl) rfl) <|
   WL.nil ?_
  obtain rfl := Option.some.inj H
  replace hB117 := hB117.step s163 rfl
  replace HF := HF.step s163 rfl
  replace hra0_1 := hra0_1.step k109_163 rfl
  replace hO0_0_0 := hO0_0_0.step k109_163 rfl rfl
  replace hB0_0 := hB0_0.step k109_163 rfl
  replace hM0_0_1 := hM0_0_1.step k109_163 rfl
  replace hB105 := hB105.step k109_163 rfl
  exact ⟨_, HF, hB0, hra0_1, hB0_0, hO0_0_0, hM0_0_1, hB105, hB117, rfl, rfl, rfl, rfl⟩
 ·
  refine WL.guardNo rfl rfl rfl (vb c164 rfl) <|
   WL.guardNo rfl rfl rfl (vb c164 rfl) <|
   WL.guardNo rfl rfl rfl (vb c164 rfl) <|
   WL.guardNo rfl rfl rfl (vb c164 rfl) <|
   E rfl (ex_pick_f (v := .bool false) (vb c164 rfl) rfl) <|
   WL.nil ?_
  obtain rfl := Option.some.inj H
  replace hB117 := hB117.step s163 rfl
  replace HF := HF.step s163 rfl
  have k109_163 := ((s109.t s113).t s116).t s163
  replace hra0_1 := hra0_1.step k109_163 rfl
  replace hB0 := hB0.step k109_163 rfl
  replace hO0_0_0 := hO0_0_0.step k109_163 rfl rfl
  replace hB0_0 := hB0_0.step k109_163 rfl
  replace hM0_0_1 := hM0_0_1.step k109_163 rfl
  replace hB105 := hB105.step k109_163 rfl
  exact ⟨_, HF, hB0, hra0_1, hB0_0, hO0_0_0, hM0_0_1, hB105, hB117, rfl, rfl, rfl, rfl⟩

/-! ### syntax_reader_sign -/
set_option maxRecDepth 100000 in
theorem syntax_reader_sign.calls (o0 : Tags) (w0 : World) (pb0 : Nat) (pA0_1 : Option Addr) (pc0_1 : Nat) (pb0_0 : Nat) (pv0_0_0 : Value) (pb0_0_1 : Nat) {a0 : T_syntax_reader} {a1 : List UInt8} {a0_0 : T_formula_Table} {a0_0_1 : (List (T_api_Node × Int))} {r : Exn (T_syntax_broken × T_syntax_reader) (Bool × T_syntax_reader)} (H : syntax_reader_sign.f a0 a1 a0_0 a0_0_1 = some r) (hO : ∀ b, b < w0.heap.size → o0 b < 40) (hB0 : Bk o0 w0 2 pb0 [pp pb0_0 0, .slice pA0_1 a0.f_l.length pc0_1, ii a0.f_i, ii a0.f_names, ii a0.f_nest, .bool a0.f_counts, .bool a0.f_full] 80) (hra0_1 : Row T_api_Token.rep (fun b_ => o0 b_ = 0) (fun b_ => o0 b_ = 0) w0 pA0_1 a0.f_l) (hla0_1 : a0.f_l.length ≤ pc0_1) (hB0_0 : Bk o0 w0 3 pb0_0 [pv0_0_0, .map (some pb0_0_1)] 56) (hO0_0_0 : Own T_api_Node.rep 60 4 o0 w0 pv0_0_0 a0_0.f_rows) (hM0_0_1 : Mp (fun x_ : T_api_Node => Value.agg #[ii x_.f_Kind, encS x_.f_Name, ii x_.f_L, ii x_.f_R]) (fun v_ : Int => ii v_) 5 o0 w0 pb0_0_1 a0_0_1) :
  Calls Tryz.prog 58 [pp pb0 0, encS a1].toArray w0 fun e_ w_ => ∃ (o_ : Tags), ((∃ p_, r = .ex p_ ∧ ∃ (B_0_1 : Option Addr) (d_0_1 : Nat), e_ = .panicked (pc (.iface 111 (.agg #[ii p_.1.f_f.f_Code, ii p_.1.f_f.f_At.f_Line, ii p_.1.f_f.f_At.f_Col, ii p_.1.f_f.f_At.f_Off]))) ∧ Step o0 w0 o_ w_ [2] ∧ Bk o_ w_ 2 pb0 [pp pb0_0 0, .slice B_0_1 p_.2.f_l.length d_0_1, ii p_.2.f_i, ii p_.2.f_names, ii p_.2.f_nest, .bool p_.2.f_counts, .bool p_.2.f_full] 80 ∧ p_.2.f_l.length ≤ d_0_1 ∧ Row T_api_Token.rep (fun b_ => o_ b_ = 0) (fun b_ => o_ b_ = 0) w_ B_0_1 p_.2.f_l) ∨ ∃ q_, r = .ok q_ ∧ ∃ (B_0_1 : Option Addr) (d_0_1 : Nat), e_ = .returned (one [.bool q_.1]) ∧ Step o0 w0 o_ w_ [2] ∧ Bk o_ w_ 2 pb0 [pp pb0_0 0, .slice B_0_1 q_.2.f_l.length d_0_1, ii q_.2.f_i, ii q_.2.f_names, ii q_.2.f_nest, .bool q_.2.f_counts, .bool q_.2.f_full] 80 ∧ q_.2.f_l.length ≤ d_0_1 ∧ Row T_api_Token.rep (fun b_ => o_ b_ = 0) (fun b_ => o_ b_ = 0) w_ B_0_1 q_.2.f_l) := by
 have HF := Fm.refl hO [2]
 unfold syntax_reader_sign.f at H
 refine SX.calls [pp pb0 0, encS a1] Tryz.func58 rfl rfl ?_
 rw [Tryz.ntmps58]
 refine WC.seq <|
  WC.region <|
  E rfl (sg (.bool false) rfl) <|
  WL.nil <|
  WC.seq <|
  WC.region <|
  E rfl (mv (pp pb0 0) rfl) ?_
 obtain ⟨z101, hz101, H⟩ := bindE H
 refine WL.op rfl <|
  OW.call [pp pb0 0] rfl Tryz.func33 (by kernel_rfl) (by kernel_rfl) (map_cons' rfl rfl) (syntax_reader_now.calls _ _ pb0 pA0_1 pc0_1 pb0_0 pv0_0_0 pb0_0_1 (a0 := a0) (a0_0 := a0_0) hz101 (HF.ten (V := [0]) (L := [2, 3, 4, 5]) rfl) (Bk.vw hB0 rfl) (Row.vw hra0_1 rfl) hla0_1 (Bk.vw hB0_0 rfl) (Own.vw hO0_0_0 rfl rfl) (Mp.vw hM0_0_1 rfl)) ?_
 rintro _ w102 ⟨o103, rfl, s104⟩
 refine ⟨_, rfl, ?_⟩
 replace s104 := un_stepL (J := []) (L' := []) s104 rfl rfl
 refine WL.op rfl ?_
 replace HF := HF.step s104 rfl
 refine OW.alloc' [ii (0 : Int), encS ([] : List UInt8), ii (0 : Int), ii (0 : Int), ii (0 : Int), ii (0 : Int)] 40 HF rfl zr76 rfl ?_
 intro o106 w107 b105 s108 hB109
 refine WL.op rfl <|
  OW.storeW rfl rfl sz76 hB109 rfl (oa rfl) ?_
 intro w110 s111 hB112
 refine WL.nil <|
  WC.seq ?_
 obtain ⟨z114, hz114, H⟩ := bindE H
 refine WC.cut (fun ρ_ w_ => ∃ (o_ : Tags), Fm o0 w0 o_ w_ [2] ∧ Bk o_ w_ 2 pb0 [pp pb0_0 0, .slice pA0_1 a0.f_l.length pc0_1, ii a0.f_i, ii a0.f_names, ii a0.f_nest, .bool a0.f_counts, .bool a0.f_full] 80 ∧ Row T_api_Token.rep (fun b_ => o_ b_ = 0) (fun b_ => o_ b_ = 0) w_ pA0_1 a0.f_l ∧ Bk o_ w_ 3 pb0_0 [pv0_0_0, .map (some pb0_0_1)] 56 ∧ Own T_api_Node.rep 60 4 o_ w_ pv0_0_0 a0_0.f_rows ∧ Mp (fun x_ : T_api_Node => Value.agg #[ii x_.f_Kind, encS x_.f_Name, ii x_.f_L, ii x_.f_R]) (fun v_ : Int => ii v_) 5 o_ w_ pb0_0_1 a0_0_1 ∧ ρ_ 0 = pp pb0 0 ∧ ρ_ 4 = .bool false ∧ ρ_ 16 = .bool z114) ?case115 ?_
 case case115 =>
  rintro ρ118 w116 ⟨o117, HF, hB0, hra0_1, hB0_0, hO0_0_0, hM0_0_1, s0_112, s4_112, s16_113⟩
  rcases condE H with ⟨c119, H⟩ | ⟨c119, H⟩
  ·
   refine WC.cond_t (vb c119 s16_113) <|
    WC.seq <|
    WC.region <|
    E rfl (sg (.bool false) rfl) <|
    WL.nil <|
    WC.ret ?_
   obtain rfl := Option.some.inj H
   exact ⟨_, (.tmp _ rfl .nil), _, Or.inr ⟨_, rfl, pA0_1, pc0_1, rfl, HF.out, hB0, hla0_1, hra0_1⟩⟩
  ·
   refine WC.cond_f (vb c119 s16_113) <|
    WC.skip <|
    WC.seq <|
    WC.region <|
    E rfl (mv (pp pb0 0) s0_112) ?_
   obtain ⟨z120, hz120, H⟩ := bindE H
   refine WL.op rfl <|
    OW.callP [pp pb0 0] rfl Tryz.func81 (by kernel_rfl) (by kernel_rfl) (map_cons' rfl rfl) (syntax_reader_take.calls _ _ pb0 pA0_1 pc0_1 pb0_0 pv0_0_0 pb0_0_1 (a0 := a0) (a0_0 := a0_0) hz120 (HF.ten (V := [0]) (L := [2, 3, 4, 5]) rfl) (Bk.vw hB0 rfl) (Row.vw hra0_1 rfl) hla0_1 (Bk.vw hB0_0 rfl) (Own.vw hO0_0_0 rfl rfl) (Mp.vw hM0_0_1 rfl)) ?_
   rintro _ w121 ⟨o122, (⟨p123, rfl, A128, c129, rfl, s125, hB127, hl130, hr131⟩ | ⟨q124, rfl, A133, c134, rfl, s126, hB132, hl135, hr136⟩)⟩
   ·
    refine Or.inr ⟨_, rfl, ?_⟩
    dsimp only at H
    replace hB127 := Bk.unO (J := []) 0 hB127 s125 rfl rfl rfl
    replace hr131 := hr131.un (J := []) s125
    replace s125 := un_stepL (J := []) (L' := [2]) s125 rfl rfl
    obtain rfl := Option.some.inj H
    replace HF := HF.step s125 rfl
    exact ⟨_, Or.inl ⟨_, rfl, A128, c129, rfl, HF.out, hB127, hl130, hr131⟩⟩
   ·
    refine Or.inl ⟨_, rfl, ?_⟩
    dsimp only at H
    replace hB132 := Bk.unO (J := []) 0 hB132 s126 rfl rfl rfl
    replace hr136 := hr136.un (J := []) s126
    replace s126 := un_stepL (J := []) (L' := [2]) s126 rfl rfl
    refine WL.nil <|
     WC.seq <|
     WC.region <|
     E rfl (sg (.bool true) rfl) <|
     WL.nil <|
     WC.ret ?_
    obtain rfl := Option.some.inj H
    replace HF := HF.step s126 rfl
    exact ⟨_, (.tmp _ rfl .nil), _, Or.inr ⟨_, rfl, A133, c134, rfl, HF.out, hB132, hl135, hr136⟩⟩
 have Ho137 := H
 replace H := hz114
 refine WC.region <|
  E rfl (ex_fieldAddr rfl U76 rfl sz74) <|
  E rfl (ex_load1 rfl U74 rfl (hB112.cell rfl)) <|
  E rfl (e2 bin_neq rfl rfl) <|
  E rfl (mv (.bool (z101.f_Kind != 3)) rfl) ?_
 rcases condE H with ⟨c138, H⟩ | ⟨c138, H⟩
 ·
  refine WL.guardNo rfl rfl rfl (vb c138 rfl) <|
   WL.guardNo rfl rfl rfl (vb c138 rfl) <|
   WL.guardNo rfl rfl rfl (vb c138 rfl) <|
   WL.guardNo rfl rfl rfl (vb c138 rfl) <|
   E rfl (ex_pick_t (v := .bool true) (vb c138 rfl) rfl) <|
   WL.nil ?_
  obtain rfl := Option.some.inj H
  have k108_111 := s108.t s111
  replace HF := HF.step k108_111 rfl
  have k104_111 := s104.t k108_111
  replace hra0_1 := hra0_1.step k104_111 rfl
  replace hB0 := hB0.step k104_111 rfl
  replace hO0_0_0 := hO0_0_0.step k104_111 rfl rfl
  replace hB0_0 := hB0_0.step k104_111 rfl
  replace hM0_0_1 := hM0_0_1.step k104_111 rfl
  exact ⟨_, HF, hB0, hra0_1, hB0_0, hO0_0_0, hM0_0_1, rfl, rfl, rfl⟩
 ·
  refine WL.guardYes rfl rfl rfl (vb c138 rfl) <|
   OW.ex rfl (ex_fieldAddr rfl U76 rfl sz9) <|
   WL.guardYes rfl rfl rfl (vb c138 rfl) <|
   OW.ex rfl (ex_load1 rfl U9 rfl (hB112.cell rfl)) <|
   WL.guardYes rfl rfl rfl (vb c138 rfl) <|
   OW.ex rfl (mv (encS a1) rfl) <|
   WL.guardYes rfl rfl rfl (vb c138 rfl) <|
   OW.ex rfl (e2 bin_neq_str rfl rfl) <|
   E rfl (ex_pick_f (v := .bool (!(z101.f_Text == a1))) (vb c138 rfl) rfl) <|
   WL.nil ?_
  obtain rfl := Option.some.inj H
  have k108_111 := s108.t s111
  replace HF := HF.step k108_111 rfl
  have k104_111 := s104.t k108_111
  replace hra0_1 := hra0_1.step k104_111 rfl
  replace hB0 := hB0.step k104_111 rfl
  replace hO0_0_0 := hO0_0_0.step k104_111 rfl rfl
  replace hB0_0 := hB0_0.step k104_111 rfl
  replace hM0_0_1 := hM0_0_1.step k104_111 rfl
  exact ⟨_, HF, hB0, hra0_1, hB0_0, hO0_0_0, hM0_0_1, rfl, rfl, rfl⟩

/-! ### syntax_reader_put -/
set_option maxRecDepth 100000 in
theorem syntax_reader_put.calls (o0 : Tags) (w0 : World) (pb0 : Nat) (pA0_1 : Option Addr) (pc0_1 : Nat) (pb0_0 : Nat) (pv0_0_0 : Value) (pb0_0_1 : Nat) {a0 : T_syntax_reader} {a1 : Int} {a2 : Int} {a0_0 : T_formula_Table} {a0_0_1 : (List (T_api_Node × Int))} {r : Int × T_syntax_reader} (H : syntax_reader_put.f a0 a1 a2 a0_0 a0_0_1 = some r) (hO : ∀ b, b < w0.heap.size → o0 b < 40) (hB0 : Bk o0 w0 2 pb0 [pp pb0_0 0, .slice pA0_1 a0.f_l.length pc0_1, ii a0.f_i, ii a0.f_names, ii a0.f_nest, .bool a0.f_counts, .bool a0.f_full] 80) (hra0_1 : Row T_api_Token.rep (fun b_ => o0 b_ = 0) (fun b_ => o0 b_ = 0) w0 pA0_1 a0.f_l) (hla0_1 : a0.f_l.length ≤ pc0_1) (hB0_0 : Bk o0 w0 3 pb0_0 [pv0_0_0, .map (some pb0_0_1)] 56) (hO0_0_0 : Own T_api_Node.rep 60 4 o0 w0 pv0_0_0 a0_0.f_rows) (hM0_0_1 : Mp (fun x_ : T_api_Node => Value.agg #[ii x_.f_Kind, encS x_.f_Name, ii x_.f_L, ii x_.f_R]) (fun v_ : Int => ii v_) 5 o0 w0 pb0_0_1 a0_0_1) :
  Calls Tryz.prog 82 [pp pb0 0, ii a1, ii a2].toArray w0 fun e_ w_ => ∃ (o_ : Tags) (B_0_1 : Option Addr) (d_0_1 : Nat), e_ = .returned (one [ii r.1]) ∧ Step o0 w0 o_ w_ [2] ∧ Bk o_ w_ 2 pb0 [pp pb0_0 0, .slice B_0_1 r.2.f_l.length d_0_1, ii r.2.f_i, ii r.2.f_names, ii r.2.f_nest, .bool r.2.f_counts, .bool r.2.f_full] 80 ∧ r.2.f_l.length ≤ d_0_1 ∧ Row T_api_Token.rep (fun b_ => o_ b_ = 0) (fun b_ => o_ b_ = 0) w_ B_0_1 r.2.f_l := by
 have HF := Fm.refl hO [2]
 unfold syntax_reader_put.f at H
 refine SX.calls [pp pb0 0, ii a1, ii a2] Tryz.func82 rfl rfl ?_
 rw [Tryz.ntmps82]
 refine WC.seq <|
  WC.region <|
  E rfl (sg (ii 0) rfl) <|
  WL.nil <|
  WC.seq <|
  WC.region <|
  E rfl (mv (pp pb0 0) rfl) <|
  E rfl (mv (pp pb0 0) rfl) <|
  E rfl (ex_nilCheck rfl) <|
  E rfl (ex_fieldAddr rfl U80 rfl sz4) <|
  E rfl (ex_load1 rfl U4 rfl (hB0.cell rfl)) <|
  E rfl (mv (.bool a0.f_full) rfl) ?_
 rcases condE H with ⟨c101, H⟩ | ⟨c101, H⟩
 ·
  refine WL.guardNo rfl rfl rfl (vb c101 rfl) <|
   WL.guardNo rfl rfl rfl (vb c101 rfl) <|
   E rfl (ex_pick_t (v := .bool true) (vb c101 rfl) rfl) <|
   E rfl (ex_nilCheck rfl) <|
   E rfl (ex_fieldAddr rfl U80 rfl sz4) <|
   WL.op rfl <|
   OW.store [pp pb0_0 0, .slice pA0_1 a0.f_l.length pc0_1, ii a0.f_i, ii a0.f_names, ii a0.f_nest, .bool a0.f_counts, .bool true] rfl (vs := [.bool true]) rfl sz4 hB0 (Nat.le_of_ble_eq_true rfl) (oa rfl) rfl ?_
  intro w102 s103 hB104
  refine WL.nil <|
   WC.seq <|
   WC.region <|
   E rfl (mv (ii a1) rfl) <|
   E rfl (sg (ii a1) rfl) <|
   WL.nil <|
   WC.ret ?_
  obtain rfl := Option.some.inj H
  replace hra0_1 := hra0_1.step s103 rfl
  replace HF := HF.step s103 rfl
  exact ⟨_, (.tmp _ rfl .nil), _, pA0_1, pc0_1, rfl, HF.out, hB104, hla0_1, hra0_1⟩
 ·
  refine WL.guardYes rfl rfl rfl (vb c101 rfl) <|
   OW.ex rfl (mv (ii a2) rfl) <|
   WL.guardYes rfl rfl rfl (vb c101 rfl) <|
   OW.ex rfl (e2 bin_eql rfl rfl) <|
   E rfl (ex_pick_f (v := .bool (a2 == 30)) (vb c101 rfl) rfl) <|
   E rfl (ex_nilCheck rfl) <|
   E rfl (ex_fieldAddr rfl U80 rfl sz4) <|
   WL.op rfl <|
   OW.store [pp pb0_0 0, .slice pA0_1 a0.f_l.length pc0_1, ii a0.f_i, ii a0.f_names, ii a0.f_nest, .bool a0.f_counts, .bool (a2 == 30)] rfl (vs := [.bool (a2 == 30)]) rfl sz4 hB0 (Nat.le_of_ble_eq_true rfl) (oa rfl) rfl ?_
  intro w105 s106 hB107
  refine WL.nil <|
   WC.seq <|
   WC.region <|
   E rfl (mv (ii a1) rfl) <|
   E rfl (sg (ii a1) rfl) <|
   WL.nil <|
   WC.ret ?_
  obtain rfl := Option.some.inj H
  replace hra0_1 := hra0_1.step s106 rfl
  replace HF := HF.step s106 rfl
  exact ⟨_, (.tmp _ rfl .nil), _, pA0_1, pc0_1, rfl, HF.out, hB107, hla0_1, hra0_1⟩

/-! ### syntax_reader_node -/
set_option maxRecDepth 100000 in
theorem syntax_reader_node.calls (k : Nat) (o0 : Tags) (w0 : World) (pb0 : Nat) (pA0_1 : Option Addr) (pc0_1 : Nat) (pb0_0 : Nat) (pv0_0_0 : Value) (pb0_0_1 : Nat) {a0 : T_syntax_reader} {a1 : Int} {a2 : List UInt8} {a3 : Int} {a4 : Int} {a0_0 : T_formula_Table} {a0_0_1 : (List (T_api_Node × Int))} {r : Int × T_syntax_reader × T_formula_Table × (List (T_api_Node × Int))} (H : syntax_reader_node.f k a0 a1 a2 a3 a4 a0_0 a0_0_1 = some r) (hO : ∀ b, b < w0.heap.size → o0 b < 40) (hB0 : Bk o0 w0 2 pb0 [pp pb0_0 0, .slice pA0_1 a0.f_l.length pc0_1, ii a0.f_i, ii a0.f_names, ii a0.f_nest, .bool a0.f_counts, .bool a0.f_full] 80) (hra0_1 : Row T_api_Token.rep (fun b_ => o0 b_ = 0) (fun b_ => o0 b_ = 0) w0 pA0_1 a0.f_l) (hla0_1 : a0.f_l.length ≤ pc0_1) (hB0_0 : Bk o0 w0 3 pb0_0 [pv0_0_0, .map (some pb0_0_1)] 56) (hO0_0_0 : Own T_api_Node.rep 60 4 o0 w0 pv0_0_0 a0_0.f_rows) (hM0_0_1 : Mp (fun x_ : T_api_Node => Value.agg #[ii x_.f_Kind, encS x_.f_Name, ii x_.f_L, ii x_.f_R]) (fun v_ : Int => ii v_) 5 o0 w0 pb0_0_1 a0_0_1) :
  Calls Tryz.prog 59 [pp pb0 0, ii a1, encS a2, ii a3, ii a4].toArray w0 fun e_ w_ => ∃ (o_ : Tags) (B_0_1 : Option Addr) (d_0_1 : Nat) (u5_0 : Value), e_ = .returned (one [ii r.1]) ∧ Step o0 w0 o_ w_ [2, 3, 4, 5] ∧ Bk o_ w_ 2 pb0 [pp pb0_0 0, .slice B_0_1 r.2.1.f_l.length d_0_1, ii r.2.1.f_i, ii r.2.1.f_names, ii r.2.1.f_nest, .bool r.2.1.f_counts, .bool r.2.1.f_full] 80 ∧ r.2.1.f_l.length ≤ d_0_1 ∧ Row T_api_Token.rep (fun b_ => o_ b_ = 0) (fun b_ => o_ b_ = 0) w_ B_0_1 r.2.1.f_l ∧ Bk o_ w_ 3 pb0_0 [u5_0, .map (some pb0_0_1)] 56 ∧ Own T_api_Node.rep 60 4 o_ w_ u5_0 r.2.2.1.f_rows ∧ Mp (fun x_ : T_api_Node => Value.agg #[ii x_.f_Kind, encS x_.f_Name, ii x_.f_L, ii x_.f_R]) (fun v_ : Int => ii v_) 5 o_ w_ pb0_0_1 r.2.2.2 := by
 have HF := Fm.refl hO [2, 3, 4, 5]
 unfold syntax_reader_node.f at H
 refine SX.calls [pp pb0 0, ii a1, encS a2, ii a3, ii a4] Tryz.func59 rfl rfl ?_
 rw [Tryz.ntmps59]
 refine WC.seq <|
  WC.region <|
  E rfl (sg (ii 0) rfl) <|
  WL.nil <|
  WC.seq <|
  WC.seq <|
  WC.region <|
  E rfl (mv (pp pb0 0) rfl) <|
  E rfl (ex_nilCheck rfl) <|
  E rfl (ex_fieldAddr rfl U80 rfl sz4) <|
  E rfl (ex_load1 rfl U4 rfl (hB0.cell rfl)) <|
  WL.nil ?_
 rcases condE H with ⟨c101, H⟩ | ⟨c101, H⟩
 ·
  refine WC.cond_t (vb c101 rfl) <|
   WC.seq <|
   WC.region <|
   E rfl (sg (ii 0) rfl) <|
   WL.nil <|
   WC.ret ?_
  obtain rfl := Option.some.inj H
  exact ⟨_, (.tmp _ rfl .nil), _, pA0_1, pc0_1, pv0_0_0, rfl, HF.out, hB0, hla0_1, hra0_1, hB0_0, hO0_0_0, hM0_0_1⟩
 ·
  refine WC.cond_f (vb c101 rfl) <|
   WC.skip <|
   WC.seq <|
   WC.region <|
   E rfl (mv (pp pb0 0) rfl) <|
   E rfl (mv (pp pb0 0) rfl) <|
   E rfl (ex_nilCheck rfl) <|
   E rfl (ex_fieldAddr rfl U80 rfl sz23) <|
   E rfl (ex_load1 rfl U23 rfl (hB0.cell rfl)) <|
   E rfl (mv (ii a1) rfl) <|
   E rfl (mv (encS a2) rfl) <|
   E rfl (mv (ii a3) rfl) <|
   E rfl (mv (ii a4) rfl) <|
   E rfl (ex_build (cs := [ii a1, encS a2, ii a3, ii a4]) [(0, 1), (1, 1), (2, 1), (3, 1)] [(0, ii a1), (1, encS a2), (2, ii a3), (3, ii a4)] [ii 0, .string ⟨#[]⟩, ii 0, ii 0] U60 zr60 rfl (by kernel_rfl) (evs_cons rfl (evs_cons rfl (evs_cons rfl (evs_cons rfl rfl)))) rfl) ?_
  obtain ⟨z102, hz102, H⟩ := bindE H
  refine WL.op rfl <|
   OW.call [pp pb0_0 0, .agg #[ii a1, encS a2, ii a3, ii a4]] rfl Tryz.func72 (by kernel_rfl) (by kernel_rfl) (map_cons' rfl (map_cons' rfl rfl)) (formula_Table_Put.calls k _ _ pb0_0 pv0_0_0 pb0_0_1 (a0 := a0_0) (a1 := (⟨a1, a2, a3, a4⟩ : T_api_Node)) hz102 (HF.ten (V := [0]) (L := [3, 4, 5]) rfl) (Bk.vw hB0_0 rfl) (Own.vw hO0_0_0 rfl rfl) (Mp.vw hM0_0_1 rfl)) ?_
  rintro _ w103 ⟨o104, v107, rfl, s105, hB106, hO108, hM109⟩
  refine ⟨_, rfl, ?_⟩
  replace hB106 := Bk.unO (J := []) 0 hB106 s105 rfl rfl rfl
  replace hO108 := Own.unO (J := []) 1 hO108 s105 rfl rfl rfl
  replace hM109 := Mp.unO (J := []) 2 hM109 s105 rfl rfl rfl
  replace s105 := un_stepL (J := []) (L' := [3, 4, 5]) s105 rfl rfl
  refine E rfl (ex_extract rfl rfl) <|
   E rfl (ex_extract rfl rfl) ?_
  obtain ⟨z110, hz110, H⟩ := bindE H
  refine WL.op rfl ?_
  replace hra0_1 := hra0_1.step s105 rfl
  replace hB0 := hB0.step s105 rfl
  replace HF := HF.step s105 rfl
  refine OW.call [pp pb0 0, ii z102.1, ii z102.2.1] rfl Tryz.func82 (by kernel_rfl) (by kernel_rfl) (map_cons' rfl (map_cons' rfl (map_cons' rfl rfl))) (syntax_reader_put.calls _ _ pb0 pA0_1 pc0_1 pb0_0 v107 pb0_0_1 (a0 := a0) (a0_0 := z102.2.2.1) hz110 (HF.ten (V := [0]) (L := [2, 3, 4, 5]) rfl) (Bk.vw hB0 rfl) (Row.vw hra0_1 rfl) hla0_1 (Bk.vw hB106 rfl) (Own.vw hO108 rfl rfl) (Mp.vw hM109 rfl)) ?_
  rintro _ w111 ⟨o112, A115, c116, rfl, s113, hB114, hl117, hr118⟩
  refine ⟨_, rfl, ?_⟩
  replace hB114 := Bk.unO (J := []) 0 hB114 s113 rfl rfl rfl
  replace hr118 := hr118.un (J := []) s113
  replace s113 := un_stepL (J := []) (L' := [2]) s113 rfl rfl
  refine E rfl (sg (ii z110.1) rfl) <|
   WL.nil <|
   WC.ret ?_
  obtain rfl := Option.some.inj H
  replace hB106 := hB106.step s113 rfl
  replace hO108 := hO108.step s113 rfl rfl
  replace hM109 := hM109.step s113 rfl
  replace HF := HF.step s113 rfl
  exact ⟨_, (.tmp _ rfl .nil), _, A115, c116, v107, rfl, HF.out, hB114, hl117, hr118, hB106, hO108, hM109⟩
end Go.Proofs.YtpmkkhkphddfeaaGreatDoor.X
