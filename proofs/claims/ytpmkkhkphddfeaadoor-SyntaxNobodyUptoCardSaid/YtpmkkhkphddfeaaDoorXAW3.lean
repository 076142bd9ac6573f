import Derived.Test.YtpmkkhkphddfeaaDoorXAW2
set_option maxRecDepth 20000
set_option linter.unusedVariables false
set_option linter.unusedSimpArgs false
set_option linter.unnecessarySimpa false
namespace Go.Proofs.YtpmkkhkphddfeaaDoor.X
open Go Go.RowKit Go.Proofs.YtpmkkhkphddfeaaDoor.SX
/-! ### formula_Table_Node -/
set_option maxRecDepth 100000 in
theorem formula_Table_Node.calls (o0 : Tags) (w0 : World) (pb0 : Nat) (pv0_0 : Value) (pb0_1 : Nat) (a0 : T_formula_Table) (a1 : Int) (a0_1 : (List (T_api_Node × Int))) (r : T_api_Node × Bool) (hO : ∀ b, b < w0.heap.size → o0 b < 40) (hB0 : Bk o0 w0 2 pb0 [pv0_0, .map (some pb0_1)] 28) (hO0_0 : Own T_api_Node.rep 61 3 o0 w0 pv0_0 a0.f_rows) (hM0_1 : Mp (fun x_ : T_api_Node => Value.agg #[ii x_.f_Kind, encS x_.f_Name, ii x_.f_L, ii x_.f_R]) (fun v_ : Int => ii v_) 4 o0 w0 pb0_1 a0_1) (H : formula_Table_Node.f a0 a1 a0_1 = some r) :
  Calls Tryd.prog 22 [pp pb0 0, ii a1].toArray w0 fun e_ w_ => ∃ (o_ : Tags), e_ = .returned (one [.agg #[ii r.1.f_Kind, encS r.1.f_Name, ii r.1.f_L, ii r.1.f_R], .bool r.2]) ∧ Step o0 w0 o_ w_ [] := by
 have HF := Fm.refl hO []
 unfold formula_Table_Node.f at H
 refine SX.calls [pp pb0 0, ii a1] Tryd.func22 rfl rfl ?_
 rw [Tryd.ntmps22]
 refine WC.seq <|
  WC.region <|
  WL.op rfl <|
  OW.alloc' [ii (0 : Int), encS ([] : List UInt8), ii (0 : Int), ii (0 : Int)] 40 HF rfl zr61 rfl ?_
 intro o102 w103 b101 s104 hB105
 replace hO0_0 := hO0_0.step s104 rfl rfl
 replace hB0 := hB0.step s104 rfl
 replace hM0_1 := hM0_1.step s104 rfl
 replace HF := HF.step s104 rfl
 refine E rfl (sg (.bool false) rfl) <|
  WL.nil <|
  WC.seq <|
  WC.seq <|
  WC.region <|
  E rfl (mv (pp pb0 0) rfl) ?_
 obtain ⟨z106, hz106, H⟩ := bindE H
 refine WL.op rfl <|
  OW.call [pp pb0 0] rfl Tryd.func26 (by kernel_rfl) (by kernel_rfl) (map_cons' rfl rfl) (formula_Table_alive.calls _ _ pb0 pv0_0 pb0_1 a0 a0_1 z106 (HF.ten (V := [0]) (L := [2, 3, 4]) rfl) (Bk.vw hB0 rfl) (Own.vw hO0_0 rfl rfl) (Mp.vw hM0_1 rfl) hz106) ?_
 obtain rfl := Option.some.inj (show some true = some z106 from hz106)
 rintro _ w107 ⟨o108, rfl, s109⟩
 refine ⟨_, rfl, ?_⟩
 replace s109 := un_stepL (J := []) (L' := []) s109 rfl rfl
 replace hO0_0 := hO0_0.step s109 rfl rfl
 replace hB0 := hB0.step s109 rfl
 replace hM0_1 := hM0_1.step s109 rfl
 replace hB105 := hB105.step s109 rfl
 replace HF := HF.step s109 rfl
 refine E rfl (ex_not (b := true) rfl) <|
  E rfl (mv (.bool false) rfl) <|
  WL.guardYes rfl rfl rfl rfl <|
  OW.ex rfl (mv (pp pb0 0) rfl) <|
  WL.guardYes rfl rfl rfl rfl <|
  OW.ex rfl (mv (ii a1) rfl) <|
  WL.guardYes rfl rfl rfl rfl ?_
 obtain ⟨z110, hz110, H⟩ := bindE H
 refine OW.call [pp pb0 0, ii a1] rfl Tryd.func34 (by kernel_rfl) (by kernel_rfl) (map_cons' rfl (map_cons' rfl rfl)) (formula_Table_has.calls _ _ pb0 pv0_0 pb0_1 a0 a1 a0_1 z110 (HF.ten (V := [0]) (L := [2, 3, 4]) rfl) (Bk.vw hB0 rfl) (Own.vw hO0_0 rfl rfl) (Mp.vw hM0_1 rfl) hz110) ?_
 rintro _ w111 ⟨o112, rfl, s113⟩
 refine ⟨_, rfl, ?_⟩
 replace s113 := un_stepL (J := []) (L' := []) s113 rfl rfl
 replace hO0_0 := hO0_0.step s113 rfl rfl
 replace hB0 := hB0.step s113 rfl
 replace hM0_1 := hM0_1.step s113 rfl
 replace hB105 := hB105.step s113 rfl
 replace HF := HF.step s113 rfl
 refine WL.guardYes rfl rfl rfl rfl <|
  OW.ex rfl (ex_not (b := z110) rfl) <|
  E rfl (ex_pick_f (v := .bool (!z110)) rfl rfl) <|
  WL.nil ?_
 rcases condE H with ⟨c114, H⟩ | ⟨c114, H⟩
 ·
  refine WC.cond_t (vb c114 rfl) <|
   WC.seq <|
   WC.region <|
   E rfl (ex_build (cs := [ii (0 : Int), encS ([] : List UInt8), ii (0 : Int), ii (0 : Int)]) [(0, 1), (1, 1), (2, 1), (3, 1)] [] [ii 0, .string ⟨#[]⟩, ii 0, ii 0] U61 zr61 rfl (by kernel_rfl) rfl rfl) <|
   WL.op rfl <|
   OW.storeW rfl rfl sz61 hB105 rfl (oa rfl) ?_
  intro w115 s116 hB117
  replace hO0_0 := hO0_0.step s116 rfl rfl
  replace hB0 := hB0.step s116 rfl
  replace hM0_1 := hM0_1.step s116 rfl
  replace HF := HF.step s116 rfl
  refine E rfl (sg (.bool false) rfl) <|
   WL.nil <|
   WC.ret ?_
  obtain rfl := Option.some.inj H
  exact ⟨_, (.cell (.agg #[ii (0 : Int), encS ([] : List UInt8), ii (0 : Int), ii (0 : Int)] : Value) rfl (run_loadN (cs := [ii (0 : Int), encS ([] : List UInt8), ii (0 : Int), ii (0 : Int)]) U61 rfl sz61 (hB117.cells rfl)) (.tmp (.bool false : Value) rfl .nil)), _, rfl, HF.out⟩
 ·
  refine WC.cond_f (vb c114 rfl) <|
   WC.skip <|
   WC.seq <|
   WC.region <|
   E rfl (mv (pp pb0 0) rfl) <|
   E rfl (ex_nilCheck rfl) <|
   E rfl (ex_fieldAddr rfl U28 rfl sz25) <|
   E rfl (ex_load1 rfl U25 rfl (hB0.cell rfl)) <|
   E rfl (mv (ii a1) rfl) ?_
  obtain ⟨x118, hx118, H⟩ := bindE H
  obtain ⟨A123, c124, q125_⟩ := hO0_0.slice
  obtain ⟨ad119, cc126, e120, g121, g122, hl127, hR128, cell129⟩ := Row.ix (Own.rowOf hO0_0 q125_) hx118
  obtain rfl := T_api_Node.opn hR128
  refine E rfl (ex_indexAddr (i := a1) ((show _ = (pv0_0 : Value) from rfl).trans q125_) e120 rfl U25 sz61 g121 g122) <|
   E rfl (ex_loadN (cs := [ii x118.f_Kind, encS x118.f_Name, ii x118.f_L, ii x118.f_R]) rfl U61 rfl sz61 cell129) <|
   WL.op rfl <|
   OW.storeW rfl rfl sz61 hB105 rfl (oa rfl) ?_
  intro w131 s132 hB133
  replace hO0_0 := hO0_0.step s132 rfl rfl
  replace hB0 := hB0.step s132 rfl
  replace hM0_1 := hM0_1.step s132 rfl
  replace HF := HF.step s132 rfl
  refine E rfl (sg (.bool true) rfl) <|
   WL.nil <|
   WC.ret ?_
  obtain rfl := Option.some.inj H
  exact ⟨_, (.cell (.agg #[ii x118.f_Kind, encS x118.f_Name, ii x118.f_L, ii x118.f_R] : Value) rfl (run_loadN (cs := [ii x118.f_Kind, encS x118.f_Name, ii x118.f_L, ii x118.f_R]) U61 rfl sz61 (hB133.cells rfl)) (.tmp (.bool true : Value) rfl .nil)), _, rfl, HF.out⟩

/-! ### syntax_bot -/
set_option maxRecDepth 100000 in
theorem syntax_bot.calls (o0 : Tags) (w0 : World) (pb0 : Nat) (pv0_0 : Value) (pb0_1 : Nat) (a0 : T_formula_Table) (a1 : Int) (a0_1 : (List (T_api_Node × Int))) (r : Bool) (hO : ∀ b, b < w0.heap.size → o0 b < 40) (hB0 : Bk o0 w0 2 pb0 [pv0_0, .map (some pb0_1)] 28) (hO0_0 : Own T_api_Node.rep 61 3 o0 w0 pv0_0 a0.f_rows) (hM0_1 : Mp (fun x_ : T_api_Node => Value.agg #[ii x_.f_Kind, encS x_.f_Name, ii x_.f_L, ii x_.f_R]) (fun v_ : Int => ii v_) 4 o0 w0 pb0_1 a0_1) (H : syntax_bot.f a0 a1 a0_1 = some r) :
  Calls Tryd.prog 48 [pp pb0 0, ii a1].toArray w0 fun e_ w_ => ∃ (o_ : Tags), e_ = .returned (one [.bool r]) ∧ Step o0 w0 o_ w_ [] := by
 have HF := Fm.refl hO []
 unfold syntax_bot.f at H
 refine SX.calls [pp pb0 0, ii a1] Tryd.func48 rfl rfl ?_
 rw [Tryd.ntmps48]
 refine WC.seq <|
  WC.region <|
  E rfl (sg (.bool false) rfl) <|
  WL.nil <|
  WC.seq <|
  WC.region <|
  E rfl (mv (pp pb0 0) rfl) <|
  E rfl (mv (ii a1) rfl) ?_
 obtain ⟨z101, hz101, H⟩ := bindE H
 refine WL.op rfl <|
  OW.call [pp pb0 0, ii a1] rfl Tryd.func22 (by kernel_rfl) (by kernel_rfl) (map_cons' rfl (map_cons' rfl rfl)) (formula_Table_Node.calls _ _ pb0 pv0_0 pb0_1 a0 a1 a0_1 z101 (HF.ten (V := [0]) (L := [2, 3, 4]) rfl) (Bk.vw hB0 rfl) (Own.vw hO0_0 rfl rfl) (Mp.vw hM0_1 rfl) hz101) ?_
 rintro _ w102 ⟨o103, rfl, s104⟩
 refine ⟨_, rfl, ?_⟩
 replace s104 := un_stepL (J := []) (L' := []) s104 rfl rfl
 replace hO0_0 := hO0_0.step s104 rfl rfl
 replace hB0 := hB0.step s104 rfl
 replace hM0_1 := hM0_1.step s104 rfl
 replace HF := HF.step s104 rfl
 refine E rfl (mv (.tuple #[.agg #[ii z101.1.f_Kind, encS z101.1.f_Name, ii z101.1.f_L, ii z101.1.f_R], .bool z101.2]) rfl) <|
  E rfl (ex_extract rfl rfl) <|
  E rfl (ex_extract rfl rfl) <|
  WL.op rfl <|
  OW.alloc' [ii (0 : Int), encS ([] : List UInt8), ii (0 : Int), ii (0 : Int)] 40 HF rfl zr61 rfl ?_
 intro o106 w107 b105 s108 hB109
 replace hO0_0 := hO0_0.step s108 rfl rfl
 replace hB0 := hB0.step s108 rfl
 replace hM0_1 := hM0_1.step s108 rfl
 replace HF := HF.step s108 rfl
 refine WL.op rfl <|
  OW.storeW rfl rfl sz61 hB109 rfl (oa rfl) ?_
 intro w110 s111 hB112
 replace hO0_0 := hO0_0.step s111 rfl rfl
 replace hB0 := hB0.step s111 rfl
 replace hM0_1 := hM0_1.step s111 rfl
 replace HF := HF.step s111 rfl
 refine E rfl (sg (.bool z101.2) rfl) <|
  WL.nil <|
  WC.seq <|
  WC.region <|
  E rfl (ex_fieldAddr rfl U61 rfl sz59) <|
  E rfl (ex_load1 rfl U59 rfl (hB112.cell rfl)) <|
  E rfl (e2 bin_eql rfl rfl) <|
  E rfl (sg (.bool (z101.1.f_Kind == 2)) rfl) <|
  WL.nil <|
  WC.ret ?_
 obtain rfl := Option.some.inj H
 exact ⟨_, (.tmp (.bool (z101.1.f_Kind == 2) : Value) rfl .nil), _, rfl, HF.out⟩

/-! ### syntax_pieces -/
set_option maxRecDepth 100000 in
theorem syntax_pieces.calls (o0 : Tags) (w0 : World) (pb0 : Nat) (pv0_0 : Value) (pb0_1 : Nat) (a0 : T_formula_Table) (a1 : T_api_Node) (a0_1 : (List (T_api_Node × Int))) (r : (List UInt8) × (List Int) × (List Int)) (hO : ∀ b, b < w0.heap.size → o0 b < 40) (hB0 : Bk o0 w0 2 pb0 [pv0_0, .map (some pb0_1)] 28) (hO0_0 : Own T_api_Node.rep 61 3 o0 w0 pv0_0 a0.f_rows) (hM0_1 : Mp (fun x_ : T_api_Node => Value.agg #[ii x_.f_Kind, encS x_.f_Name, ii x_.f_L, ii x_.f_R]) (fun v_ : Int => ii v_) 4 o0 w0 pb0_1 a0_1) (H : syntax_pieces.f a0 a1 a0_1 = some r) :
  Calls Tryd.prog 35 [pp pb0 0, .agg #[ii a1.f_Kind, encS a1.f_Name, ii a1.f_L, ii a1.f_R]].toArray w0 fun e_ w_ => ∃ (o_ : Tags) (rv1 : Value) (rv2 : Value), e_ = .returned (one [encS r.1, rv1, rv2]) ∧ Step o0 w0 o_ w_ [] ∧ Own (Rep.int .i64) 3 39 o_ w_ rv1 r.2.1 ∧ Own (Rep.int .i64) 3 38 o_ w_ rv2 r.2.2 := by
 have HF := Fm.refl hO []
 unfold syntax_pieces.f at H
 refine SX.calls [pp pb0 0, .agg #[ii a1.f_Kind, encS a1.f_Name, ii a1.f_L, ii a1.f_R]] Tryd.func35 rfl rfl ?_
 rw [Tryd.ntmps35]
 refine WC.seq <|
  WC.region <|
  WL.op rfl <|
  OW.box' [ii a1.f_Kind, encS a1.f_Name, ii a1.f_L, ii a1.f_R] 40 HF rfl ((congrArg Value.cells (show ev _ _ = (.agg #[ii a1.f_Kind, encS a1.f_Name, ii a1.f_L, ii a1.f_R] : Value) from rfl)).trans rfl) ?_
 intro o102 w103 b101 s104 hB105
 replace hO0_0 := hO0_0.step s104 rfl rfl
 replace hB0 := hB0.step s104 rfl
 replace hM0_1 := hM0_1.step s104 rfl
 replace HF := HF.step s104 rfl
 refine E rfl (sg (encS ([] : List UInt8)) rfl) <|
  E rfl (sg (.slice none ([] : List Int).length 0) rfl) <|
  E rfl (sg (.slice none ([] : List Int).length 0) rfl) <|
  WL.nil <|
  WC.seq <|
  WC.seq <|
  WC.region <|
  E rfl (ex_fieldAddr rfl U61 rfl sz59) <|
  E rfl (ex_load1 rfl U59 rfl (hB105.cell rfl)) <|
  WL.nil <|
  WC.block <|
  WC.seq <|
  WC.region <|
  E rfl (e2 bin_eql rfl rfl) <|
  E rfl (sg (.bool (a1.f_Kind == 3)) rfl) <|
  WL.nil ?_
 rcases condE H with ⟨c106, H⟩ | ⟨c106, H⟩
 ·
  refine WC.cond_t (vb c106 rfl) <|
   WC.seq <|
   WC.regionD' HF [] 9 9 (by kernel_rfl) rfl ?_
  intro w107 s108
  replace hO0_0 := hO0_0.step s108 rfl rfl
  replace hB0 := hB0.step s108 rfl
  replace hM0_1 := hM0_1.step s108 rfl
  replace hB105 := hB105.step s108 rfl
  replace HF := HF.step s108 rfl
  have hO0_0D := hO0_0
  have hB0D := hB0
  have hM0_1D := hM0_1
  have hB105D := hB105
  have sR := HF.here []
  refine WA.norm (listed' := #[false, false, false, false, false, false, false, false, false]) (by kernel_rfl) <|
   WA.ex 0 rfl (by kernel_rfl) (by kernel_rfl) (by kernel_rfl) rfl ⟨_, sR⟩ (fun w_ hS_ => ex_fieldAddr rfl U61 rfl sz3) <|
   WA.norm (listed' := #[true, false, false, false, false, false, false, false, false]) (by kernel_rfl) <|
   WA.ex 1 rfl (by kernel_rfl) (by kernel_rfl) (by kernel_rfl) rfl ⟨_, sR⟩ (fun w_ hS_ => ex_load1 (v := ii a1.f_L) rfl U3 rfl ((hB105D.step hS_.choose_spec rfl).cell rfl)) <|
   WA.norm (listed' := #[true, true, false, false, false, false, false, false, false]) (by kernel_rfl) <|
   WA.ex 2 rfl (by kernel_rfl) (by kernel_rfl) (by kernel_rfl) rfl ⟨_, sR⟩ (fun w_ hS_ => ex_fieldAddr rfl U61 rfl sz3) <|
   WA.norm (listed' := #[true, true, true, false, false, false, false, false, false]) (by kernel_rfl) <|
   WA.ex 3 rfl (by kernel_rfl) (by kernel_rfl) (by kernel_rfl) rfl ⟨_, sR⟩ (fun w_ hS_ => ex_load1 (v := ii a1.f_R) rfl U3 rfl ((hB105D.step hS_.choose_spec rfl).cell rfl)) <|
   WA.norm (listed' := #[true, true, true, true, false, false, false, false, false]) (by kernel_rfl) <|
   WA.ex 6 rfl (by kernel_rfl) (by kernel_rfl) (by kernel_rfl) rfl ⟨_, sR⟩ (fun w_ hS_ => ex_assign (v := encS ([32, 38, 32] : List UInt8)) rfl) <|
   WA.norm (listed' := #[true, true, true, true, false, false, true, false, false]) (by kernel_rfl) ?_
  refine WA.both 4 5 (by kernel_rfl) rfl rfl rfl rfl ?_ ?_
  ·
   refine OW.row (r := (Rep.int .i64)) (xs := [a1.f_L, a1.f_R]) [(0, ii a1.f_L), (1, ii a1.f_R)] [[ii a1.f_L], [ii a1.f_R]] 41 HF rfl U79 sz3 zr3 rfl (evs_cons rfl (evs_cons rfl rfl)) rfl rfl ⟨rfl, rfl, trivial⟩ rfl rfl rfl rfl ?_
   intro o109 w110 v112 s111 hO113
   replace hO0_0 := hO0_0.step s111 rfl rfl
   replace hB0 := hB0.step s111 rfl
   replace hM0_1 := hM0_1.step s111 rfl
   replace hB105 := hB105.step s111 rfl
   replace HF := HF.step s111 rfl
   replace sR := Step.trans sR s111 (M := []) rfl rfl
   refine ⟨⟨_, sR⟩, ?_⟩
   refine WA.norm (listed' := #[true, true, true, true, true, false, true, false, false]) (by kernel_rfl) <|
    WA.ex 7 rfl (by kernel_rfl) (by kernel_rfl) (by kernel_rfl) rfl ⟨_, sR⟩ (fun w_ hS_ => ex_assign (v := v112) rfl) <|
    WA.norm (listed' := #[true, true, true, true, true, false, true, true, false]) (by kernel_rfl) <|
    WA.one 5 (by kernel_rfl) rfl rfl <|
    OW.row (r := (Rep.int .i64)) (xs := [2, 3]) [(0, ii 2), (1, ii 3)] [[ii 2], [ii 3]] 42 HF rfl U79 sz3 zr3 rfl (evs_cons rfl (evs_cons rfl rfl)) rfl rfl ⟨rfl, rfl, trivial⟩ rfl rfl rfl rfl ?_
   intro o114 w115 v117 s116 hO118
   replace hO0_0 := hO0_0.step s116 rfl rfl
   replace hB0 := hB0.step s116 rfl
   replace hM0_1 := hM0_1.step s116 rfl
   replace hB105 := hB105.step s116 rfl
   replace hO113 := hO113.step s116 rfl rfl
   replace HF := HF.step s116 rfl
   replace sR := Step.trans sR s116 (M := []) rfl rfl
   refine ⟨⟨_, sR⟩, ?_⟩
   refine WA.norm (listed' := #[true, true, true, true, true, true, true, true, false]) (by kernel_rfl) <|
    WA.ex 8 rfl (by kernel_rfl) (by kernel_rfl) (by kernel_rfl) rfl ⟨_, sR⟩ (fun w_ hS_ => ex_assign (v := v117) rfl) <|
    WA.norm (listed' := #[true, true, true, true, true, true, true, true, true]) (by kernel_rfl) <|
    WA.done (by kernel_rfl) <|
    WC.ret ?_
   obtain rfl := Option.some.inj H
   replace hO113 := Own.renTo (j := 39) hO113 rfl
   replace hO118 := Own.ren (i := 41) (j := 39) hO118 rfl rfl
   replace HF := HF.ren (i := 41) (j := 39) rfl
   replace hO113 := Own.ren (i := 42) (j := 38) hO113 rfl rfl
   replace hO118 := Own.renTo (j := 38) hO118 rfl
   replace HF := HF.ren (i := 42) (j := 38) rfl
   exact ⟨_, (.tmp (encS ([32, 38, 32] : List UInt8) : Value) rfl (.tmp (v112 : Value) rfl (.tmp (v117 : Value) rfl .nil))), _, v112, v117, rfl, HF.out, hO113, hO118⟩
  ·
   refine OW.row (r := (Rep.int .i64)) (xs := [2, 3]) [(0, ii 2), (1, ii 3)] [[ii 2], [ii 3]] 41 HF rfl U79 sz3 zr3 rfl (evs_cons rfl (evs_cons rfl rfl)) rfl rfl ⟨rfl, rfl, trivial⟩ rfl rfl rfl rfl ?_
   intro o109 w110 v112 s111 hO113
   replace hO0_0 := hO0_0.step s111 rfl rfl
   replace hB0 := hB0.step s111 rfl
   replace hM0_1 := hM0_1.step s111 rfl
   replace hB105 := hB105.step s111 rfl
   replace HF := HF.step s111 rfl
   replace sR := Step.trans sR s111 (M := []) rfl rfl
   refine ⟨⟨_, sR⟩, ?_⟩
   refine WA.norm (listed' := #[true, true, true, true, false, true, true, false, false]) (by kernel_rfl) <|
    WA.one 4 (by kernel_rfl) rfl rfl <|
    OW.row (r := (Rep.int .i64)) (xs := [a1.f_L, a1.f_R]) [(0, ii a1.f_L), (1, ii a1.f_R)] [[ii a1.f_L], [ii a1.f_R]] 42 HF rfl U79 sz3 zr3 rfl (evs_cons rfl (evs_cons rfl rfl)) rfl rfl ⟨rfl, rfl, trivial⟩ rfl rfl rfl rfl ?_
   intro o114 w115 v117 s116 hO118
   replace hO0_0 := hO0_0.step s116 rfl rfl
   replace hB0 := hB0.step s116 rfl
   replace hM0_1 := hM0_1.step s116 rfl
   replace hB105 := hB105.step s116 rfl
   replace hO113 := hO113.step s116 rfl rfl
   replace HF := HF.step s116 rfl
   replace sR := Step.trans sR s116 (M := []) rfl rfl
   refine ⟨⟨_, sR⟩, ?_⟩
   refine WA.norm (listed' := #[true, true, true, true, true, true, true, false, false]) (by kernel_rfl) <|
    WA.ex 7 rfl (by kernel_rfl) (by kernel_rfl) (by kernel_rfl) rfl ⟨_, sR⟩ (fun w_ hS_ => ex_assign (v := v117) rfl) <|
    WA.norm (listed' := #[true, true, true, true, true, true, true, true, false]) (by kernel_rfl) <|
    WA.ex 8 rfl (by kernel_rfl) (by kernel_rfl) (by kernel_rfl) rfl ⟨_, sR⟩ (fun w_ hS_ => ex_assign (v := v112) rfl) <|
    WA.norm (listed' := #[true, true, true, true, true, true, true, true, true]) (by kernel_rfl) <|
    WA.done (by kernel_rfl) <|
    WC.ret ?_
   obtain rfl := Option.some.inj H
   replace hO118 := Own.renTo (j := 39) hO118 rfl
   replace hO113 := Own.ren (i := 42) (j := 39) hO113 rfl rfl
   replace HF := HF.ren (i := 42) (j := 39) rfl
   replace hO118 := Own.ren (i := 41) (j := 38) hO118 rfl rfl
   replace hO113 := Own.renTo (j := 38) hO113 rfl
   replace HF := HF.ren (i := 41) (j := 38) rfl
   exact ⟨_, (.tmp (encS ([32, 38, 32] : List UInt8) : Value) rfl (.tmp (v117 : Value) rfl (.tmp (v112 : Value) rfl .nil))), _, v117, v112, rfl, HF.out, hO118, hO113⟩
 ·
  refine WC.cond_f (vb c106 rfl) <|
   WC.seq <|
   WC.region <|
   E rfl (e2 bin_eql rfl rfl) <|
   E rfl (sg (.bool (a1.f_Kind == 4)) rfl) <|
   WL.nil ?_
  rcases condE H with ⟨c119, H⟩ | ⟨c119, H⟩
  ·
   refine WC.cond_t (vb c119 rfl) <|
    WC.seq <|
    WC.regionD' HF [] 9 9 (by kernel_rfl) rfl ?_
   intro w120 s121
   replace hO0_0 := hO0_0.step s121 rfl rfl
   replace hB0 := hB0.step s121 rfl
   replace hM0_1 := hM0_1.step s121 rfl
   replace hB105 := hB105.step s121 rfl
   replace HF := HF.step s121 rfl
   have hO0_0D := hO0_0
   have hB0D := hB0
   have hM0_1D := hM0_1
   have hB105D := hB105
   have sR := HF.here []
   refine WA.norm (listed' := #[false, false, false, false, false, false, false, false, false]) (by kernel_rfl) <|
    WA.ex 0 rfl (by kernel_rfl) (by kernel_rfl) (by kernel_rfl) rfl ⟨_, sR⟩ (fun w_ hS_ => ex_fieldAddr rfl U61 rfl sz3) <|
    WA.norm (listed' := #[true, false, false, false, false, false, false, false, false]) (by kernel_rfl) <|
    WA.ex 1 rfl (by kernel_rfl) (by kernel_rfl) (by kernel_rfl) rfl ⟨_, sR⟩ (fun w_ hS_ => ex_load1 (v := ii a1.f_L) rfl U3 rfl ((hB105D.step hS_.choose_spec rfl).cell rfl)) <|
    WA.norm (listed' := #[true, true, false, false, false, false, false, false, false]) (by kernel_rfl) <|
    WA.ex 2 rfl (by kernel_rfl) (by kernel_rfl) (by kernel_rfl) rfl ⟨_, sR⟩ (fun w_ hS_ => ex_fieldAddr rfl U61 rfl sz3) <|
    WA.norm (listed' := #[true, true, true, false, false, false, false, false, false]) (by kernel_rfl) <|
    WA.ex 3 rfl (by kernel_rfl) (by kernel_rfl) (by kernel_rfl) rfl ⟨_, sR⟩ (fun w_ hS_ => ex_load1 (v := ii a1.f_R) rfl U3 rfl ((hB105D.step hS_.choose_spec rfl).cell rfl)) <|
    WA.norm (listed' := #[true, true, true, true, false, false, false, false, false]) (by kernel_rfl) <|
    WA.ex 6 rfl (by kernel_rfl) (by kernel_rfl) (by kernel_rfl) rfl ⟨_, sR⟩ (fun w_ hS_ => ex_assign (v := encS ([32, 124, 32] : List UInt8)) rfl) <|
    WA.norm (listed' := #[true, true, true, true, false, false, true, false, false]) (by kernel_rfl) ?_
   refine WA.both 4 5 (by kernel_rfl) rfl rfl rfl rfl ?_ ?_
   ·
    refine OW.row (r := (Rep.int .i64)) (xs := [a1.f_L, a1.f_R]) [(0, ii a1.f_L), (1, ii a1.f_R)] [[ii a1.f_L], [ii a1.f_R]] 43 HF rfl U79 sz3 zr3 rfl (evs_cons rfl (evs_cons rfl rfl)) rfl rfl ⟨rfl, rfl, trivial⟩ rfl rfl rfl rfl ?_
    intro o122 w123 v125 s124 hO126
    replace hO0_0 := hO0_0.step s124 rfl rfl
    replace hB0 := hB0.step s124 rfl
    replace hM0_1 := hM0_1.step s124 rfl
    replace hB105 := hB105.step s124 rfl
    replace HF := HF.step s124 rfl
    replace sR := Step.trans sR s124 (M := []) rfl rfl
    refine ⟨⟨_, sR⟩, ?_⟩
    refine WA.norm (listed' := #[true, true, true, true, true, false, true, false, false]) (by kernel_rfl) <|
     WA.ex 7 rfl (by kernel_rfl) (by kernel_rfl) (by kernel_rfl) rfl ⟨_, sR⟩ (fun w_ hS_ => ex_assign (v := v125) rfl) <|
     WA.norm (listed' := #[true, true, true, true, true, false, true, true, false]) (by kernel_rfl) <|
     WA.one 5 (by kernel_rfl) rfl rfl <|
     OW.row (r := (Rep.int .i64)) (xs := [1, 2]) [(0, ii 1), (1, ii 2)] [[ii 1], [ii 2]] 44 HF rfl U79 sz3 zr3 rfl (evs_cons rfl (evs_cons rfl rfl)) rfl rfl ⟨rfl, rfl, trivial⟩ rfl rfl rfl rfl ?_
    intro o127 w128 v130 s129 hO131
    replace hO0_0 := hO0_0.step s129 rfl rfl
    replace hB0 := hB0.step s129 rfl
    replace hM0_1 := hM0_1.step s129 rfl
    replace hB105 := hB105.step s129 rfl
    replace hO126 := hO126.step s129 rfl rfl
    replace HF := HF.step s129 rfl
    replace sR := Step.trans sR s129 (M := []) rfl rfl
    refine ⟨⟨_, sR⟩, ?_⟩
    refine WA.norm (listed' := #[true, true, true, true, true, true, true, true, false]) (by kernel_rfl) <|
     WA.ex 8 rfl (by kernel_rfl) (by kernel_rfl) (by kernel_rfl) rfl ⟨_, sR⟩ (fun w_ hS_ => ex_assign (v := v130) rfl) <|
     WA.norm (listed' := #[true, true, true, true, true, true, true, true, true]) (by kernel_rfl) <|
     WA.done (by kernel_rfl) <|
     WC.ret ?_
    obtain rfl := Option.some.inj H
    replace hO126 := Own.renTo (j := 39) hO126 rfl
    replace hO131 := Own.ren (i := 43) (j := 39) hO131 rfl rfl
    replace HF := HF.ren (i := 43) (j := 39) rfl
    replace hO126 := Own.ren (i := 44) (j := 38) hO126 rfl rfl
    replace hO131 := Own.renTo (j := 38) hO131 rfl
    replace HF := HF.ren (i := 44) (j := 38) rfl
    exact ⟨_, (.tmp (encS ([32, 124, 32] : List UInt8) : Value) rfl (.tmp (v125 : Value) rfl (.tmp (v130 : Value) rfl .nil))), _, v125, v130, rfl, HF.out, hO126, hO131⟩
   ·
    refine OW.row (r := (Rep.int .i64)) (xs := [1, 2]) [(0, ii 1), (1, ii 2)] [[ii 1], [ii 2]] 43 HF rfl U79 sz3 zr3 rfl (evs_cons rfl (evs_cons rfl rfl)) rfl rfl ⟨rfl, rfl, trivial⟩ rfl rfl rfl rfl ?_
    intro o122 w123 v125 s124 hO126
    replace hO0_0 := hO0_0.step s124 rfl rfl
    replace hB0 := hB0.step s124 rfl
    replace hM0_1 := hM0_1.step s124 rfl
    replace hB105 := hB105.step s124 rfl
    replace HF := HF.step s124 rfl
    replace sR := Step.trans sR s124 (M := []) rfl rfl
    refine ⟨⟨_, sR⟩, ?_⟩
    refine WA.norm (listed' := #[true, true, true, true, false, true, true, false, false]) (by kernel_rfl) <|
     WA.one 4 (by kernel_rfl) rfl rfl <|
     OW.row (r := (Rep.int .i64)) (xs := [a1.f_L, a1.f_R]) [(0, ii a1.f_L), (1, ii a1.f_R)] [[ii a1.f_L], [ii a1.f_R]] 44 HF rfl U79 sz3 zr3 rfl (evs_cons rfl (evs_cons rfl rfl)) rfl rfl ⟨rfl, rfl, trivial⟩ rfl rfl rfl rfl ?_
    intro o127 w128 v130 s129 hO131
    replace hO0_0 := hO0_0.step s129 rfl rfl
    replace hB0 := hB0.step s129 rfl
    replace hM0_1 := hM0_1.step s129 rfl
    replace hB105 := hB105.step s129 rfl
    replace hO126 := hO126.step s129 rfl rfl
    replace HF := HF.step s129 rfl
    replace sR := Step.trans sR s129 (M := []) rfl rfl
    refine ⟨⟨_, sR⟩, ?_⟩
    refine WA.norm (listed' := #[true, true, true, true, true, true, true, false, false]) (by kernel_rfl) <|
     WA.ex 7 rfl (by kernel_rfl) (by kernel_rfl) (by kernel_rfl) rfl ⟨_, sR⟩ (fun w_ hS_ => ex_assign (v := v130) rfl) <|
     WA.norm (listed' := #[true, true, true, true, true, true, true, true, false]) (by kernel_rfl) <|
     WA.ex 8 rfl (by kernel_rfl) (by kernel_rfl) (by kernel_rfl) rfl ⟨_, sR⟩ (fun w_ hS_ => ex_assign (v := v125) rfl) <|
     WA.norm (listed' := #[true, true, true, true, true, true, true, true, true]) (by kernel_rfl) <|
     WA.done (by kernel_rfl) <|
     WC.ret ?_
    obtain rfl := Option.some.inj H
    replace hO131 := Own.renTo (j := 39) hO131 rfl
    replace hO126 := Own.ren (i := 44) (j := 39) hO126 rfl rfl
    replace HF := HF.ren (i := 44) (j := 39) rfl
    replace hO131 := Own.ren (i := 43) (j := 38) hO131 rfl rfl
    replace hO126 := Own.renTo (j := 38) hO126 rfl
    replace HF := HF.ren (i := 43) (j := 38) rfl
    exact ⟨_, (.tmp (encS ([32, 124, 32] : List UInt8) : Value) rfl (.tmp (v130 : Value) rfl (.tmp (v125 : Value) rfl .nil))), _, v130, v125, rfl, HF.out, hO131, hO126⟩
  ·
   refine WC.cond_f (vb c119 rfl) <|
    WC.seq <|
    WC.region <|
    E rfl (e2 bin_eql rfl rfl) <|
    E rfl (sg (.bool (a1.f_Kind == 5)) rfl) <|
    WL.nil ?_
   rcases condE H with ⟨c132, H⟩ | ⟨c132, H⟩
   ·
    refine WC.cond_t (vb c132 rfl) <|
     WC.seq <|
     WC.block ?_
    obtain ⟨z134, hz134, H⟩ := bindE H
    refine WC.cut (fun ρ_ w_ => ∃ (o_ : Tags), Fm o0 w0 o_ w_ [] ∧ Bk o_ w_ 2 pb0 [pv0_0, .map (some pb0_1)] 28 ∧ Own T_api_Node.rep 61 3 o_ w_ pv0_0 a0.f_rows ∧ Mp (fun x_ : T_api_Node => Value.agg #[ii x_.f_Kind, encS x_.f_Name, ii x_.f_L, ii x_.f_R]) (fun v_ : Int => ii v_) 4 o_ w_ pb0_1 a0_1 ∧ Bk o_ w_ 40 b101 [ii a1.f_Kind, encS a1.f_Name, ii a1.f_L, ii a1.f_R] 61 ∧ ρ_ 0 = pp pb0 0 ∧ ρ_ 3 = pp b101 0 ∧ ρ_ 4 = encS ([] : List UInt8) ∧ ρ_ 5 = .slice none ([] : List Int).length 0 ∧ ρ_ 6 = .slice none ([] : List Int).length 0 ∧ ρ_ 27 = .bool z134) ?case135 ?_
    case case135 =>
     rintro ρ138 w136 ⟨o137, HF, hB0, hO0_0, hM0_1, hB105, s0_132, s3_132, s4_132, s5_132, s6_132, s27_133⟩
     rcases condE H with ⟨c139, H⟩ | ⟨c139, H⟩
     ·
      refine WC.cond_t (vb c139 s27_133) <|
       WC.seq <|
       WC.region <|
       E rfl (sg (encS ([116, 114, 117, 101] : List UInt8)) rfl) <|
       E rfl (sg (.slice none ([] : List Int).length 0) rfl) <|
       E rfl (sg (.slice none ([] : List Int).length 0) rfl) <|
       WL.nil <|
       WC.ret ?_
      obtain rfl := Option.some.inj H
      exact ⟨_, (.tmp (encS ([116, 114, 117, 101] : List UInt8) : Value) rfl (.tmp (.slice none ([] : List Int).length 0 : Value) rfl (.tmp (.slice none ([] : List Int).length 0 : Value) rfl .nil))), _, (.slice none 0 0), (.slice none 0 0), rfl, HF.out, Own.nil, Own.nil⟩
     ·
      refine WC.cond_f (vb c139 s27_133) <|
       WC.seq <|
       WC.region <|
       E rfl (mv (pp pb0 0) s0_132) <|
       E rfl (ex_fieldAddr s3_132 U61 rfl sz3) <|
       E rfl (ex_load1 rfl U3 rfl (hB105.cell rfl)) ?_
      obtain ⟨z140, hz140, H⟩ := bindE H
      refine WL.op rfl <|
       OW.call [pp pb0 0, ii a1.f_R] rfl Tryd.func48 (by kernel_rfl) (by kernel_rfl) (map_cons' rfl (map_cons' rfl rfl)) (syntax_bot.calls _ _ pb0 pv0_0 pb0_1 a0 a1.f_R a0_1 z140 (HF.ten (V := [0]) (L := [2, 3, 4]) rfl) (Bk.vw hB0 rfl) (Own.vw hO0_0 rfl rfl) (Mp.vw hM0_1 rfl) hz140) ?_
      rintro _ w141 ⟨o142, rfl, s143⟩
      refine ⟨_, rfl, ?_⟩
      replace s143 := un_stepL (J := []) (L' := []) s143 rfl rfl
      replace hB0 := hB0.step s143 rfl
      replace hO0_0 := hO0_0.step s143 rfl rfl
      replace hM0_1 := hM0_1.step s143 rfl
      replace hB105 := hB105.step s143 rfl
      replace HF := HF.step s143 rfl
      refine E rfl (sg (.bool z140) rfl) <|
       WL.nil ?_
      rcases condE H with ⟨c144, H⟩ | ⟨c144, H⟩
      ·
       refine WC.cond_t (vb c144 rfl) <|
        WC.seq <|
        WC.regionD' HF [] 7 7 (by kernel_rfl) rfl ?_
       intro w145 s146
       replace hB0 := hB0.step s146 rfl
       replace hO0_0 := hO0_0.step s146 rfl rfl
       replace hM0_1 := hM0_1.step s146 rfl
       replace hB105 := hB105.step s146 rfl
       replace HF := HF.step s146 rfl
       have hB0D := hB0
       have hO0_0D := hO0_0
       have hM0_1D := hM0_1
       have hB105D := hB105
       have sR := HF.here []
       refine WA.norm (listed' := #[false, false, false, false, false, false, false]) (by kernel_rfl) <|
        WA.ex 0 rfl (by kernel_rfl) (by kernel_rfl) (by kernel_rfl) rfl ⟨_, sR⟩ (fun w_ hS_ => ex_fieldAddr s3_132 U61 rfl sz3) <|
        WA.norm (listed' := #[true, false, false, false, false, false, false]) (by kernel_rfl) <|
        WA.ex 1 rfl (by kernel_rfl) (by kernel_rfl) (by kernel_rfl) rfl ⟨_, sR⟩ (fun w_ hS_ => ex_load1 (v := ii a1.f_L) rfl U3 rfl ((hB105D.step hS_.choose_spec rfl).cell rfl)) <|
        WA.norm (listed' := #[true, true, false, false, false, false, false]) (by kernel_rfl) <|
        WA.ex 4 rfl (by kernel_rfl) (by kernel_rfl) (by kernel_rfl) rfl ⟨_, sR⟩ (fun w_ hS_ => ex_assign (v := encS ([126] : List UInt8)) rfl) <|
        WA.norm (listed' := #[true, true, false, false, true, false, false]) (by kernel_rfl) ?_
       refine WA.both 2 3 (by kernel_rfl) rfl rfl rfl rfl ?_ ?_
       ·
        refine OW.row (r := (Rep.int .i64)) (xs := [a1.f_L]) [(0, ii a1.f_L)] [[ii a1.f_L]] 45 HF rfl U79 sz3 zr3 rfl (evs_cons rfl rfl) rfl rfl ⟨rfl, trivial⟩ rfl rfl rfl rfl ?_
        intro o147 w148 v150 s149 hO151
        replace hB0 := hB0.step s149 rfl
        replace hO0_0 := hO0_0.step s149 rfl rfl
        replace hM0_1 := hM0_1.step s149 rfl
        replace hB105 := hB105.step s149 rfl
        replace HF := HF.step s149 rfl
        replace sR := Step.trans sR s149 (M := []) rfl rfl
        refine ⟨⟨_, sR⟩, ?_⟩
        refine WA.norm (listed' := #[true, true, true, false, true, false, false]) (by kernel_rfl) <|
         WA.ex 5 rfl (by kernel_rfl) (by kernel_rfl) (by kernel_rfl) rfl ⟨_, sR⟩ (fun w_ hS_ => ex_assign (v := v150) rfl) <|
         WA.norm (listed' := #[true, true, true, false, true, true, false]) (by kernel_rfl) <|
         WA.one 3 (by kernel_rfl) rfl rfl <|
         OW.row (r := (Rep.int .i64)) (xs := [3]) [(0, ii 3)] [[ii 3]] 46 HF rfl U79 sz3 zr3 rfl (evs_cons rfl rfl) rfl rfl ⟨rfl, trivial⟩ rfl rfl rfl rfl ?_
        intro o152 w153 v155 s154 hO156
        replace hB0 := hB0.step s154 rfl
        replace hO0_0 := hO0_0.step s154 rfl rfl
        replace hM0_1 := hM0_1.step s154 rfl
        replace hB105 := hB105.step s154 rfl
        replace hO151 := hO151.step s154 rfl rfl
        replace HF := HF.step s154 rfl
        replace sR := Step.trans sR s154 (M := []) rfl rfl
        refine ⟨⟨_, sR⟩, ?_⟩
        refine WA.norm (listed' := #[true, true, true, true, true, true, false]) (by kernel_rfl) <|
         WA.ex 6 rfl (by kernel_rfl) (by kernel_rfl) (by kernel_rfl) rfl ⟨_, sR⟩ (fun w_ hS_ => ex_assign (v := v155) rfl) <|
         WA.norm (listed' := #[true, true, true, true, true, true, true]) (by kernel_rfl) <|
         WA.done (by kernel_rfl) <|
         WC.ret ?_
        obtain rfl := Option.some.inj H
        replace hO151 := Own.renTo (j := 39) hO151 rfl
        replace hO156 := Own.ren (i := 45) (j := 39) hO156 rfl rfl
        replace HF := HF.ren (i := 45) (j := 39) rfl
        replace hO151 := Own.ren (i := 46) (j := 38) hO151 rfl rfl
        replace hO156 := Own.renTo (j := 38) hO156 rfl
        replace HF := HF.ren (i := 46) (j := 38) rfl
        exact ⟨_, (.tmp (encS ([126] : List UInt8) : Value) rfl (.tmp (v150 : Value) rfl (.tmp (v155 : Value) rfl .nil))), _, v150, v155, rfl, HF.out, hO151, hO156⟩
       ·
        refine OW.row (r := (Rep.int .i64)) (xs := [3]) [(0, ii 3)] [[ii 3]] 45 HF rfl U79 sz3 zr3 rfl (evs_cons rfl rfl) rfl rfl ⟨rfl, trivial⟩ rfl rfl rfl rfl ?_
        intro o147 w148 v150 s149 hO151
        replace hB0 := hB0.step s149 rfl
        replace hO0_0 := hO0_0.step s149 rfl rfl
        replace hM0_1 := hM0_1.step s149 rfl
        replace hB105 := hB105.step s149 rfl
        replace HF := HF.step s149 rfl
        replace sR := Step.trans sR s149 (M := []) rfl rfl
        refine ⟨⟨_, sR⟩, ?_⟩
        refine WA.norm (listed' := #[true, true, false, true, true, false, false]) (by kernel_rfl) <|
         WA.one 2 (by kernel_rfl) rfl rfl <|
         OW.row (r := (Rep.int .i64)) (xs := [a1.f_L]) [(0, ii a1.f_L)] [[ii a1.f_L]] 46 HF rfl U79 sz3 zr3 rfl (evs_cons rfl rfl) rfl rfl ⟨rfl, trivial⟩ rfl rfl rfl rfl ?_
        intro o152 w153 v155 s154 hO156
        replace hB0 := hB0.step s154 rfl
        replace hO0_0 := hO0_0.step s154 rfl rfl
        replace hM0_1 := hM0_1.step s154 rfl
        replace hB105 := hB105.step s154 rfl
        replace hO151 := hO151.step s154 rfl rfl
        replace HF := HF.step s154 rfl
        replace sR := Step.trans sR s154 (M := []) rfl rfl
        refine ⟨⟨_, sR⟩, ?_⟩
        refine WA.norm (listed' := #[true, true, true, true, true, false, false]) (by kernel_rfl) <|
         WA.ex 5 rfl (by kernel_rfl) (by kernel_rfl) (by kernel_rfl) rfl ⟨_, sR⟩ (fun w_ hS_ => ex_assign (v := v155) rfl) <|
         WA.norm (listed' := #[true, true, true, true, true, true, false]) (by kernel_rfl) <|
         WA.ex 6 rfl (by kernel_rfl) (by kernel_rfl) (by kernel_rfl) rfl ⟨_, sR⟩ (fun w_ hS_ => ex_assign (v := v150) rfl) <|
         WA.norm (listed' := #[true, true, true, true, true, true, true]) (by kernel_rfl) <|
         WA.done (by kernel_rfl) <|
         WC.ret ?_
        obtain rfl := Option.some.inj H
        replace hO156 := Own.renTo (j := 39) hO156 rfl
        replace hO151 := Own.ren (i := 46) (j := 39) hO151 rfl rfl
        replace HF := HF.ren (i := 46) (j := 39) rfl
        replace hO156 := Own.ren (i := 45) (j := 38) hO156 rfl rfl
        replace hO151 := Own.renTo (j := 38) hO151 rfl
        replace HF := HF.ren (i := 45) (j := 38) rfl
        exact ⟨_, (.tmp (encS ([126] : List UInt8) : Value) rfl (.tmp (v155 : Value) rfl (.tmp (v150 : Value) rfl .nil))), _, v155, v150, rfl, HF.out, hO156, hO151⟩
      ·
       refine WC.cond_f (vb c144 rfl) <|
        WC.skip <|
        WC.seq <|
        WC.regionD' HF [] 9 9 (by kernel_rfl) rfl ?_
       intro w157 s158
       replace hB0 := hB0.step s158 rfl
       replace hO0_0 := hO0_0.step s158 rfl rfl
       replace hM0_1 := hM0_1.step s158 rfl
       replace hB105 := hB105.step s158 rfl
       replace HF := HF.step s158 rfl
       have hB0D := hB0
       have hO0_0D := hO0_0
       have hM0_1D := hM0_1
       have hB105D := hB105
       have sR := HF.here []
       refine WA.norm (listed' := #[false, false, false, false, false, false, false, false, false]) (by kernel_rfl) <|
        WA.ex 0 rfl (by kernel_rfl) (by kernel_rfl) (by kernel_rfl) rfl ⟨_, sR⟩ (fun w_ hS_ => ex_fieldAddr s3_132 U61 rfl sz3) <|
        WA.norm (listed' := #[true, false, false, false, false, false, false, false, false]) (by kernel_rfl) <|
        WA.ex 1 rfl (by kernel_rfl) (by kernel_rfl) (by kernel_rfl) rfl ⟨_, sR⟩ (fun w_ hS_ => ex_load1 (v := ii a1.f_L) rfl U3 rfl ((hB105D.step hS_.choose_spec rfl).cell rfl)) <|
        WA.norm (listed' := #[true, true, false, false, false, false, false, false, false]) (by kernel_rfl) <|
        WA.ex 2 rfl (by kernel_rfl) (by kernel_rfl) (by kernel_rfl) rfl ⟨_, sR⟩ (fun w_ hS_ => ex_fieldAddr s3_132 U61 rfl sz3) <|
        WA.norm (listed' := #[true, true, true, false, false, false, false, false, false]) (by kernel_rfl) <|
        WA.ex 3 rfl (by kernel_rfl) (by kernel_rfl) (by kernel_rfl) rfl ⟨_, sR⟩ (fun w_ hS_ => ex_load1 (v := ii a1.f_R) rfl U3 rfl ((hB105D.step hS_.choose_spec rfl).cell rfl)) <|
        WA.norm (listed' := #[true, true, true, true, false, false, false, false, false]) (by kernel_rfl) <|
        WA.ex 6 rfl (by kernel_rfl) (by kernel_rfl) (by kernel_rfl) rfl ⟨_, sR⟩ (fun w_ hS_ => ex_assign (v := encS ([32, 45, 62, 32] : List UInt8)) rfl) <|
        WA.norm (listed' := #[true, true, true, true, false, false, true, false, false]) (by kernel_rfl) ?_
       refine WA.both 4 5 (by kernel_rfl) rfl rfl rfl rfl ?_ ?_
       ·
        refine OW.row (r := (Rep.int .i64)) (xs := [a1.f_L, a1.f_R]) [(0, ii a1.f_L), (1, ii a1.f_R)] [[ii a1.f_L], [ii a1.f_R]] 47 HF rfl U79 sz3 zr3 rfl (evs_cons rfl (evs_cons rfl rfl)) rfl rfl ⟨rfl, rfl, trivial⟩ rfl rfl rfl rfl ?_
        intro o159 w160 v162 s161 hO163
        replace hB0 := hB0.step s161 rfl
        replace hO0_0 := hO0_0.step s161 rfl rfl
        replace hM0_1 := hM0_1.step s161 rfl
        replace hB105 := hB105.step s161 rfl
        replace HF := HF.step s161 rfl
        replace sR := Step.trans sR s161 (M := []) rfl rfl
        refine ⟨⟨_, sR⟩, ?_⟩
        refine WA.norm (listed' := #[true, true, true, true, true, false, true, false, false]) (by kernel_rfl) <|
         WA.ex 7 rfl (by kernel_rfl) (by kernel_rfl) (by kernel_rfl) rfl ⟨_, sR⟩ (fun w_ hS_ => ex_assign (v := v162) rfl) <|
         WA.norm (listed' := #[true, true, true, true, true, false, true, true, false]) (by kernel_rfl) <|
         WA.one 5 (by kernel_rfl) rfl rfl <|
         OW.row (r := (Rep.int .i64)) (xs := [1, 0]) [(0, ii 1), (1, ii 0)] [[ii 1], [ii 0]] 48 HF rfl U79 sz3 zr3 rfl (evs_cons rfl (evs_cons rfl rfl)) rfl rfl ⟨rfl, rfl, trivial⟩ rfl rfl rfl rfl ?_
        intro o164 w165 v167 s166 hO168
        replace hB0 := hB0.step s166 rfl
        replace hO0_0 := hO0_0.step s166 rfl rfl
        replace hM0_1 := hM0_1.step s166 rfl
        replace hB105 := hB105.step s166 rfl
        replace hO163 := hO163.step s166 rfl rfl
        replace HF := HF.step s166 rfl
        replace sR := Step.trans sR s166 (M := []) rfl rfl
        refine ⟨⟨_, sR⟩, ?_⟩
        refine WA.norm (listed' := #[true, true, true, true, true, true, true, true, false]) (by kernel_rfl) <|
         WA.ex 8 rfl (by kernel_rfl) (by kernel_rfl) (by kernel_rfl) rfl ⟨_, sR⟩ (fun w_ hS_ => ex_assign (v := v167) rfl) <|
         WA.norm (listed' := #[true, true, true, true, true, true, true, true, true]) (by kernel_rfl) <|
         WA.done (by kernel_rfl) <|
         WC.ret ?_
        obtain rfl := Option.some.inj H
        replace hO163 := Own.renTo (j := 39) hO163 rfl
        replace hO168 := Own.ren (i := 47) (j := 39) hO168 rfl rfl
        replace HF := HF.ren (i := 47) (j := 39) rfl
        replace hO163 := Own.ren (i := 48) (j := 38) hO163 rfl rfl
        replace hO168 := Own.renTo (j := 38) hO168 rfl
        replace HF := HF.ren (i := 48) (j := 38) rfl
        exact ⟨_, (.tmp (encS ([32, 45, 62, 32] : List UInt8) : Value) rfl (.tmp (v162 : Value) rfl (.tmp (v167 : Value) rfl .nil))), _, v162, v167, rfl, HF.out, hO163, hO168⟩
       ·
        refine OW.row (r := (Rep.int .i64)) (xs := [1, 0]) [(0, ii 1), (1, ii 0)] [[ii 1], [ii 0]] 47 HF rfl U79 sz3 zr3 rfl (evs_cons rfl (evs_cons rfl rfl)) rfl rfl ⟨rfl, rfl, trivial⟩ rfl rfl rfl rfl ?_
        intro o159 w160 v162 s161 hO163
        replace hB0 := hB0.step s161 rfl
        replace hO0_0 := hO0_0.step s161 rfl rfl
        replace hM0_1 := hM0_1.step s161 rfl
        replace hB105 := hB105.step s161 rfl
        replace HF := HF.step s161 rfl
        replace sR := Step.trans sR s161 (M := []) rfl rfl
        refine ⟨⟨_, sR⟩, ?_⟩
        refine WA.norm (listed' := #[true, true, true, true, false, true, true, false, false]) (by kernel_rfl) <|
         WA.one 4 (by kernel_rfl) rfl rfl <|
         OW.row (r := (Rep.int .i64)) (xs := [a1.f_L, a1.f_R]) [(0, ii a1.f_L), (1, ii a1.f_R)] [[ii a1.f_L], [ii a1.f_R]] 48 HF rfl U79 sz3 zr3 rfl (evs_cons rfl (evs_cons rfl rfl)) rfl rfl ⟨rfl, rfl, trivial⟩ rfl rfl rfl rfl ?_
        intro o164 w165 v167 s166 hO168
        replace hB0 := hB0.step s166 rfl
        replace hO0_0 := hO0_0.step s166 rfl rfl
        replace hM0_1 := hM0_1.step s166 rfl
        replace hB105 := hB105.step s166 rfl
        replace hO163 := hO163.step s166 rfl rfl
        replace HF := HF.step s166 rfl
        replace sR := Step.trans sR s166 (M := []) rfl rfl
        refine ⟨⟨_, sR⟩, ?_⟩
        refine WA.norm (listed' := #[true, true, true, true, true, true, true, false, false]) (by kernel_rfl) <|
         WA.ex 7 rfl (by kernel_rfl) (by kernel_rfl) (by kernel_rfl) rfl ⟨_, sR⟩ (fun w_ hS_ => ex_assign (v := v167) rfl) <|
         WA.norm (listed' := #[true, true, true, true, true, true, true, true, false]) (by kernel_rfl) <|
         WA.ex 8 rfl (by kernel_rfl) (by kernel_rfl) (by kernel_rfl) rfl ⟨_, sR⟩ (fun w_ hS_ => ex_assign (v := v162) rfl) <|
         WA.norm (listed' := #[true, true, true, true, true, true, true, true, true]) (by kernel_rfl) <|
         WA.done (by kernel_rfl) <|
         WC.ret ?_
        obtain rfl := Option.some.inj H
        replace hO168 := Own.renTo (j := 39) hO168 rfl
        replace hO163 := Own.ren (i := 48) (j := 39) hO163 rfl rfl
        replace HF := HF.ren (i := 48) (j := 39) rfl
        replace hO168 := Own.ren (i := 47) (j := 38) hO168 rfl rfl
        replace hO163 := Own.renTo (j := 38) hO163 rfl
        replace HF := HF.ren (i := 47) (j := 38) rfl
        exact ⟨_, (.tmp (encS ([32, 45, 62, 32] : List UInt8) : Value) rfl (.tmp (v167 : Value) rfl (.tmp (v162 : Value) rfl .nil))), _, v167, v162, rfl, HF.out, hO168, hO163⟩
    have Ho169 := H
    replace H := hz134
    refine WC.region <|
     E rfl (mv (pp pb0 0) rfl) <|
     E rfl (ex_fieldAddr rfl U61 rfl sz3) <|
     E rfl (ex_load1 rfl U3 rfl (hB105.cell rfl)) ?_
    obtain ⟨z170, hz170, H⟩ := bindE H
    refine WL.op rfl <|
     OW.call [pp pb0 0, ii a1.f_L] rfl Tryd.func48 (by kernel_rfl) (by kernel_rfl) (map_cons' rfl (map_cons' rfl rfl)) (syntax_bot.calls _ _ pb0 pv0_0 pb0_1 a0 a1.f_L a0_1 z170 (HF.ten (V := [0]) (L := [2, 3, 4]) rfl) (Bk.vw hB0 rfl) (Own.vw hO0_0 rfl rfl) (Mp.vw hM0_1 rfl) hz170) ?_
    rintro _ w171 ⟨o172, rfl, s173⟩
    refine ⟨_, rfl, ?_⟩
    replace s173 := un_stepL (J := []) (L' := []) s173 rfl rfl
    replace hO0_0 := hO0_0.step s173 rfl rfl
    replace hB0 := hB0.step s173 rfl
    replace hM0_1 := hM0_1.step s173 rfl
    replace hB105 := hB105.step s173 rfl
    replace HF := HF.step s173 rfl
    refine E rfl (mv (.bool z170) rfl) ?_
    rcases condE H with ⟨c174, H⟩ | ⟨c174, H⟩
    ·
     refine WL.guardYes rfl rfl rfl (vb c174 rfl) <|
      OW.ex rfl (mv (pp pb0 0) rfl) <|
      WL.guardYes rfl rfl rfl (vb c174 rfl) <|
      OW.ex rfl (ex_fieldAddr rfl U61 rfl sz3) <|
      WL.guardYes rfl rfl rfl (vb c174 rfl) <|
      OW.ex rfl (ex_load1 rfl U3 rfl (hB105.cell rfl)) <|
      WL.guardYes rfl rfl rfl (vb c174 rfl) ?_
     obtain ⟨z175, hz175, H⟩ := bindE H
     refine OW.call [pp pb0 0, ii a1.f_R] rfl Tryd.func48 (by kernel_rfl) (by kernel_rfl) (map_cons' rfl (map_cons' rfl rfl)) (syntax_bot.calls _ _ pb0 pv0_0 pb0_1 a0 a1.f_R a0_1 z175 (HF.ten (V := [0]) (L := [2, 3, 4]) rfl) (Bk.vw hB0 rfl) (Own.vw hO0_0 rfl rfl) (Mp.vw hM0_1 rfl) hz175) ?_
     rintro _ w176 ⟨o177, rfl, s178⟩
     refine ⟨_, rfl, ?_⟩
     replace s178 := un_stepL (J := []) (L' := []) s178 rfl rfl
     replace hO0_0 := hO0_0.step s178 rfl rfl
     replace hB0 := hB0.step s178 rfl
     replace hM0_1 := hM0_1.step s178 rfl
     replace hB105 := hB105.step s178 rfl
     replace HF := HF.step s178 rfl
     refine E rfl (ex_pick_t (v := .bool z175) (vb c174 rfl) rfl) <|
      E rfl (sg (.bool z175) rfl) <|
      WL.nil ?_
     obtain rfl := Option.some.inj H
     exact ⟨_, HF, hB0, hO0_0, hM0_1, hB105, rfl, rfl, rfl, rfl, rfl, rfl⟩
    ·
     refine WL.guardNo rfl rfl rfl (vb c174 rfl) <|
      WL.guardNo rfl rfl rfl (vb c174 rfl) <|
      WL.guardNo rfl rfl rfl (vb c174 rfl) <|
      WL.guardNo rfl rfl rfl (vb c174 rfl) <|
      E rfl (ex_pick_f (v := .bool false) (vb c174 rfl) rfl) <|
      E rfl (sg (.bool false) rfl) <|
      WL.nil ?_
     obtain rfl := Option.some.inj H
     exact ⟨_, HF, hB0, hO0_0, hM0_1, hB105, rfl, rfl, rfl, rfl, rfl, rfl⟩
   ·
    refine WC.cond_f (vb c132 rfl) <|
     WC.seq <|
     WC.region <|
     E rfl (e2 bin_eql rfl rfl) <|
     E rfl (sg (.bool (a1.f_Kind == 2)) rfl) <|
     WL.nil ?_
    rcases condE H with ⟨c179, H⟩ | ⟨c179, H⟩
    ·
     refine WC.cond_t (vb c179 rfl) <|
      WC.seq <|
      WC.region <|
      E rfl (sg (encS ([102, 97, 108, 115, 101] : List UInt8)) rfl) <|
      E rfl (sg (.slice none ([] : List Int).length 0) rfl) <|
      E rfl (sg (.slice none ([] : List Int).length 0) rfl) <|
      WL.nil <|
      WC.ret ?_
     obtain rfl := Option.some.inj H
     exact ⟨_, (.tmp (encS ([102, 97, 108, 115, 101] : List UInt8) : Value) rfl (.tmp (.slice none ([] : List Int).length 0 : Value) rfl (.tmp (.slice none ([] : List Int).length 0 : Value) rfl .nil))), _, (.slice none 0 0), (.slice none 0 0), rfl, HF.out, Own.nil, Own.nil⟩
    ·
     refine WC.cond_f (vb c179 rfl) <|
      WC.skip <|
      WC.seq <|
      WC.region <|
      E rfl (ex_fieldAddr rfl U61 rfl sz9) <|
      E rfl (ex_load1 rfl U9 rfl (hB105.cell rfl)) <|
      E rfl (sg (encS a1.f_Name) rfl) <|
      E rfl (sg (.slice none ([] : List Int).length 0) rfl) <|
      E rfl (sg (.slice none ([] : List Int).length 0) rfl) <|
      WL.nil <|
      WC.ret ?_
     obtain rfl := Option.some.inj H
     exact ⟨_, (.tmp (encS a1.f_Name : Value) rfl (.tmp (.slice none ([] : List Int).length 0 : Value) rfl (.tmp (.slice none ([] : List Int).length 0 : Value) rfl .nil))), _, (.slice none 0 0), (.slice none 0 0), rfl, HF.out, Own.nil, Own.nil⟩

/-! ### syntax_level -/
set_option maxRecDepth 100000 in
theorem syntax_level.calls (o0 : Tags) (w0 : World) (pb0 : Nat) (pv0_0 : Value) (pb0_1 : Nat) (a0 : T_formula_Table) (a1 : Int) (a0_1 : (List (T_api_Node × Int))) (r : Int) (hO : ∀ b, b < w0.heap.size → o0 b < 40) (hB0 : Bk o0 w0 2 pb0 [pv0_0, .map (some pb0_1)] 28) (hO0_0 : Own T_api_Node.rep 61 3 o0 w0 pv0_0 a0.f_rows) (hM0_1 : Mp (fun x_ : T_api_Node => Value.agg #[ii x_.f_Kind, encS x_.f_Name, ii x_.f_L, ii x_.f_R]) (fun v_ : Int => ii v_) 4 o0 w0 pb0_1 a0_1) (H : syntax_level.f a0 a1 a0_1 = some r) :
  Calls Tryd.prog 36 [pp pb0 0, ii a1].toArray w0 fun e_ w_ => ∃ (o_ : Tags), e_ = .returned (one [ii r]) ∧ Step o0 w0 o_ w_ [] := by
 have HF := Fm.refl hO []
 unfold syntax_level.f at H
 refine SX.calls [pp pb0 0, ii a1] Tryd.func36 rfl rfl ?_
 rw [Tryd.ntmps36]
 refine WC.seq <|
  WC.region <|
  E rfl (sg (ii 0) rfl) <|
  WL.nil <|
  WC.seq <|
  WC.region <|
  E rfl (mv (pp pb0 0) rfl) <|
  E rfl (mv (ii a1) rfl) ?_
 obtain ⟨z101, hz101, H⟩ := bindE H
 refine WL.op rfl <|
  OW.call [pp pb0 0, ii a1] rfl Tryd.func22 (by kernel_rfl) (by kernel_rfl) (map_cons' rfl (map_cons' rfl rfl)) (formula_Table_Node.calls _ _ pb0 pv0_0 pb0_1 a0 a1 a0_1 z101 (HF.ten (V := [0]) (L := [2, 3, 4]) rfl) (Bk.vw hB0 rfl) (Own.vw hO0_0 rfl rfl) (Mp.vw hM0_1 rfl) hz101) ?_
 rintro _ w102 ⟨o103, rfl, s104⟩
 refine ⟨_, rfl, ?_⟩
 replace s104 := un_stepL (J := []) (L' := []) s104 rfl rfl
 replace hO0_0 := hO0_0.step s104 rfl rfl
 replace hB0 := hB0.step s104 rfl
 replace hM0_1 := hM0_1.step s104 rfl
 replace HF := HF.step s104 rfl
 refine E rfl (mv (.tuple #[.agg #[ii z101.1.f_Kind, encS z101.1.f_Name, ii z101.1.f_L, ii z101.1.f_R], .bool z101.2]) rfl) <|
  E rfl (ex_extract rfl rfl) <|
  E rfl (ex_extract rfl rfl) <|
  WL.op rfl <|
  OW.alloc' [ii (0 : Int), encS ([] : List UInt8), ii (0 : Int), ii (0 : Int)] 40 HF rfl zr61 rfl ?_
 intro o106 w107 b105 s108 hB109
 replace hO0_0 := hO0_0.step s108 rfl rfl
 replace hB0 := hB0.step s108 rfl
 replace hM0_1 := hM0_1.step s108 rfl
 replace HF := HF.step s108 rfl
 refine WL.op rfl <|
  OW.storeW rfl rfl sz61 hB109 rfl (oa rfl) ?_
 intro w110 s111 hB112
 replace hO0_0 := hO0_0.step s111 rfl rfl
 replace hB0 := hB0.step s111 rfl
 replace hM0_1 := hM0_1.step s111 rfl
 replace HF := HF.step s111 rfl
 refine E rfl (sg (.bool z101.2) rfl) <|
  WL.nil <|
  WC.seq <|
  WC.seq <|
  WC.region <|
  E rfl (ex_fieldAddr rfl U61 rfl sz59) <|
  E rfl (ex_load1 rfl U59 rfl (hB112.cell rfl)) <|
  WL.nil <|
  WC.block <|
  WC.seq <|
  WC.region <|
  E rfl (e2 bin_eql rfl rfl) <|
  E rfl (sg (.bool (z101.1.f_Kind == 3)) rfl) <|
  WL.nil ?_
 rcases condE H with ⟨c113, H⟩ | ⟨c113, H⟩
 ·
  refine WC.cond_t (vb c113 rfl) <|
   WC.seq <|
   WC.region <|
   E rfl (sg (ii 2) rfl) <|
   WL.nil <|
   WC.ret ?_
  obtain rfl := Option.some.inj H
  exact ⟨_, (.tmp (ii 2 : Value) rfl .nil), _, rfl, HF.out⟩
 ·
  refine WC.cond_f (vb c113 rfl) <|
   WC.seq <|
   WC.region <|
   E rfl (e2 bin_eql rfl rfl) <|
   E rfl (sg (.bool (z101.1.f_Kind == 4)) rfl) <|
   WL.nil ?_
  rcases condE H with ⟨c114, H⟩ | ⟨c114, H⟩
  ·
   refine WC.cond_t (vb c114 rfl) <|
    WC.seq <|
    WC.region <|
    E rfl (sg (ii 1) rfl) <|
    WL.nil <|
    WC.ret ?_
   obtain rfl := Option.some.inj H
   exact ⟨_, (.tmp (ii 1 : Value) rfl .nil), _, rfl, HF.out⟩
  ·
   refine WC.cond_f (vb c114 rfl) <|
    WC.seq <|
    WC.region <|
    E rfl (e2 bin_eql rfl rfl) <|
    E rfl (sg (.bool (z101.1.f_Kind == 5)) rfl) <|
    WL.nil ?_
   rcases condE H with ⟨c115, H⟩ | ⟨c115, H⟩
   ·
    refine WC.cond_t (vb c115 rfl) <|
     WC.seq <|
     WC.seq <|
     WC.region <|
     E rfl (mv (pp pb0 0) rfl) <|
     E rfl (ex_fieldAddr rfl U61 rfl sz3) <|
     E rfl (ex_load1 rfl U3 rfl (hB112.cell rfl)) ?_
    obtain ⟨z116, hz116, H⟩ := bindE H
    refine WL.op rfl <|
     OW.call [pp pb0 0, ii z101.1.f_R] rfl Tryd.func48 (by kernel_rfl) (by kernel_rfl) (map_cons' rfl (map_cons' rfl rfl)) (syntax_bot.calls _ _ pb0 pv0_0 pb0_1 a0 z101.1.f_R a0_1 z116 (HF.ten (V := [0]) (L := [2, 3, 4]) rfl) (Bk.vw hB0 rfl) (Own.vw hO0_0 rfl rfl) (Mp.vw hM0_1 rfl) hz116) ?_
    rintro _ w117 ⟨o118, rfl, s119⟩
    refine ⟨_, rfl, ?_⟩
    replace s119 := un_stepL (J := []) (L' := []) s119 rfl rfl
    replace hO0_0 := hO0_0.step s119 rfl rfl
    replace hB0 := hB0.step s119 rfl
    replace hM0_1 := hM0_1.step s119 rfl
    replace hB112 := hB112.step s119 rfl
    replace HF := HF.step s119 rfl
    refine WL.nil ?_
    rcases condE H with ⟨c120, H⟩ | ⟨c120, H⟩
    ·
     refine WC.cond_t (vb c120 rfl) <|
      WC.seq <|
      WC.region <|
      E rfl (sg (ii 3) rfl) <|
      WL.nil <|
      WC.ret ?_
     obtain rfl := Option.some.inj H
     exact ⟨_, (.tmp (ii 3 : Value) rfl .nil), _, rfl, HF.out⟩
    ·
     refine WC.cond_f (vb c120 rfl) <|
      WC.skip <|
      WC.seq <|
      WC.region <|
      E rfl (sg (ii 0) rfl) <|
      WL.nil <|
      WC.ret ?_
     obtain rfl := Option.some.inj H
     exact ⟨_, (.tmp (ii 0 : Value) rfl .nil), _, rfl, HF.out⟩
   ·
    refine WC.cond_f (vb c115 rfl) <|
     WC.skip <|
     WC.seq <|
     WC.region <|
     E rfl (sg (ii 3) rfl) <|
     WL.nil <|
     WC.ret ?_
    obtain rfl := Option.some.inj H
    exact ⟨_, (.tmp (ii 3 : Value) rfl .nil), _, rfl, HF.out⟩

structure G_syntax_width.OK (R : G_syntax_width) : Prop where
 syntax_width : ∀ (o0 : Tags) (w0 : World) (pb0 : Nat) (pv0_0 : Value) (pb2 : Nat) (pb0_1 : Nat) (a0 : T_formula_Table) (a1 : Int) (a2 : (List (Int × Int))) (a0_1 : (List (T_api_Node × Int))) (r : Int × (List (Int × Int))) (hO : ∀ b, b < w0.heap.size → o0 b < 40) (hB0 : Bk o0 w0 2 pb0 [pv0_0, .map (some pb0_1)] 28) (hO0_0 : Own T_api_Node.rep 61 3 o0 w0 pv0_0 a0.f_rows) (hM2 : Mp (fun n_ : Int => Value.int .i64 n_) (fun v_ : Int => ii v_) 4 o0 w0 pb2 a2) (hM0_1 : Mp (fun x_ : T_api_Node => Value.agg #[ii x_.f_Kind, encS x_.f_Name, ii x_.f_L, ii x_.f_R]) (fun v_ : Int => ii v_) 5 o0 w0 pb0_1 a0_1) (H : R.syntax_width a0 a1 a2 a0_1 = some r),
  Calls Tryd.prog 23 [pp pb0 0, ii a1, .map (some pb2)].toArray w0 fun e_ w_ => ∃ (o_ : Tags), e_ = .returned (one [ii r.1]) ∧ Step o0 w0 o_ w_ [4] ∧ Mp (fun n_ : Int => Value.int .i64 n_) (fun v_ : Int => ii v_) 4 o_ w_ pb2 r.2
/-! ### syntax_width -/
set_option maxRecDepth 100000 in
theorem syntax_width.callsF (k : Nat) (R : G_syntax_width) (hR : G_syntax_width.OK R) (o0 : Tags) (w0 : World) (pb0 : Nat) (pv0_0 : Value) (pb2 : Nat) (pb0_1 : Nat) (a0 : T_formula_Table) (a1 : Int) (a2 : (List (Int × Int))) (a0_1 : (List (T_api_Node × Int))) (r : Int × (List (Int × Int))) (hO : ∀ b, b < w0.heap.size → o0 b < 40) (hB0 : Bk o0 w0 2 pb0 [pv0_0, .map (some pb0_1)] 28) (hO0_0 : Own T_api_Node.rep 61 3 o0 w0 pv0_0 a0.f_rows) (hM2 : Mp (fun n_ : Int => Value.int .i64 n_) (fun v_ : Int => ii v_) 4 o0 w0 pb2 a2) (hM0_1 : Mp (fun x_ : T_api_Node => Value.agg #[ii x_.f_Kind, encS x_.f_Name, ii x_.f_L, ii x_.f_R]) (fun v_ : Int => ii v_) 5 o0 w0 pb0_1 a0_1) (H : syntax_width.F k R a0 a1 a2 a0_1 = some r) :
  Calls Tryd.prog 23 [pp pb0 0, ii a1, .map (some pb2)].toArray w0 fun e_ w_ => ∃ (o_ : Tags), e_ = .returned (one [ii r.1]) ∧ Step o0 w0 o_ w_ [4] ∧ Mp (fun n_ : Int => Value.int .i64 n_) (fun v_ : Int => ii v_) 4 o_ w_ pb2 r.2 := by
 have HF := Fm.refl hO [4]
 unfold syntax_width.F at H
 refine SX.calls [pp pb0 0, ii a1, .map (some pb2)] Tryd.func23 rfl rfl ?_
 rw [Tryd.ntmps23]
 refine WC.seq <|
  WC.region <|
  E rfl (sg (ii 0) rfl) <|
  WL.nil <|
  WC.seq <|
  WC.seq <|
  WC.region <|
  E rfl (mv (.map (some pb2)) rfl) <|
  E rfl (mv (ii a1) rfl) <|
  E rfl (ex_lookup2 (ek := (fun n_ : Int => Value.int .i64 n_)) (ev := (fun v_ : Int => ii v_)) (eq := (fun a_ b_ : Int => a_ == b_)) (x := a1) (z := (0 : Int)) rfl rfl U65 (keyT_int U3) hM2 zr3) <|
  E rfl (mv (.tuple #[ii ((mget (fun a_ b_ : Int => a_ == b_) a2 a1).getD (0 : Int)), .bool ((mget (fun a_ b_ : Int => a_ == b_) a2 a1).isSome)]) rfl) <|
  E rfl (ex_extract rfl rfl) <|
  E rfl (ex_extract rfl rfl) <|
  E rfl (sg (ii ((mget (fun a_ b_ : Int => a_ == b_) a2 a1).getD (0 : Int))) rfl) <|
  E rfl (sg (.bool ((mget (fun a_ b_ : Int => a_ == b_) a2 a1).isSome)) rfl) <|
  WL.nil <|
  WC.seq <|
  WC.region <|
  E rfl (mv (.bool ((mget (fun a_ b_ : Int => a_ == b_) a2 a1).isSome)) rfl) <|
  WL.nil ?_
 rcases condE H with ⟨c101, H⟩ | ⟨c101, H⟩
 ·
  refine WC.cond_t (vb c101 rfl) <|
   WC.seq <|
   WC.region <|
   E rfl (mv (ii ((mget (fun a_ b_ : Int => a_ == b_) a2 a1).getD (0 : Int))) rfl) <|
   E rfl (sg (ii ((mget (fun a_ b_ : Int => a_ == b_) a2 a1).getD (0 : Int))) rfl) <|
   WL.nil <|
   WC.ret ?_
  obtain rfl := Option.some.inj H
  exact ⟨_, (.tmp (ii ((mget (fun a_ b_ : Int => a_ == b_) a2 a1).getD (0 : Int)) : Value) rfl .nil), _, rfl, HF.out, hM2⟩
 ·
  refine WC.cond_f (vb c101 rfl) <|
   WC.skip <|
   WC.seq <|
   WC.region <|
   E rfl (mv (pp pb0 0) rfl) <|
   E rfl (mv (ii a1) rfl) ?_
  obtain ⟨z102, hz102, H⟩ := bindE H
  refine WL.op rfl <|
   OW.call [pp pb0 0, ii a1] rfl Tryd.func22 (by kernel_rfl) (by kernel_rfl) (map_cons' rfl (map_cons' rfl rfl)) (formula_Table_Node.calls _ _ pb0 pv0_0 pb0_1 a0 a1 a0_1 z102 (HF.ten (V := [0]) (L := [2, 3, 5]) rfl) (Bk.vw hB0 rfl) (Own.vw hO0_0 rfl rfl) (Mp.vw hM0_1 rfl) hz102) ?_
  rintro _ w103 ⟨o104, rfl, s105⟩
  refine ⟨_, rfl, ?_⟩
  replace s105 := un_stepL (J := []) (L' := []) s105 rfl rfl
  replace hO0_0 := hO0_0.step s105 rfl rfl
  replace hB0 := hB0.step s105 rfl
  replace hM2 := hM2.step s105 rfl
  replace hM0_1 := hM0_1.step s105 rfl
  replace HF := HF.step s105 rfl
  refine E rfl (mv (.tuple #[.agg #[ii z102.1.f_Kind, encS z102.1.f_Name, ii z102.1.f_L, ii z102.1.f_R], .bool z102.2]) rfl) <|
   E rfl (ex_extract rfl rfl) <|
   E rfl (ex_extract rfl rfl) <|
   WL.op rfl <|
   OW.alloc' [ii (0 : Int), encS ([] : List UInt8), ii (0 : Int), ii (0 : Int)] 40 HF rfl zr61 rfl ?_
  intro o107 w108 b106 s109 hB110
  replace hO0_0 := hO0_0.step s109 rfl rfl
  replace hB0 := hB0.step s109 rfl
  replace hM2 := hM2.step s109 rfl
  replace hM0_1 := hM0_1.step s109 rfl
  replace HF := HF.step s109 rfl
  refine WL.op rfl <|
   OW.storeW rfl rfl sz61 hB110 rfl (oa rfl) ?_
  intro w111 s112 hB113
  replace hO0_0 := hO0_0.step s112 rfl rfl
  replace hB0 := hB0.step s112 rfl
  replace hM2 := hM2.step s112 rfl
  replace hM0_1 := hM0_1.step s112 rfl
  replace HF := HF.step s112 rfl
  refine E rfl (sg (.bool z102.2) rfl) <|
   WL.nil <|
   WC.seq <|
   WC.region <|
   E rfl (mv (pp pb0 0) rfl) <|
   E rfl (ex_loadN (cs := [ii z102.1.f_Kind, encS z102.1.f_Name, ii z102.1.f_L, ii z102.1.f_R]) rfl U61 rfl sz61 (hB113.cells rfl)) ?_
  obtain ⟨z114, hz114, H⟩ := bindE H
  refine WL.op rfl <|
   OW.call [pp pb0 0, .agg #[ii z102.1.f_Kind, encS z102.1.f_Name, ii z102.1.f_L, ii z102.1.f_R]] rfl Tryd.func35 (by kernel_rfl) (by kernel_rfl) (map_cons' rfl (map_cons' rfl rfl)) (syntax_pieces.calls _ _ pb0 pv0_0 pb0_1 a0 z102.1 a0_1 z114 (HF.ten (V := [0]) (L := [2, 3, 5]) rfl) (Bk.vw hB0 rfl) (Own.vw hO0_0 rfl rfl) (Mp.vw hM0_1 rfl) hz114) ?_
  rintro _ w115 ⟨o116, v118, v120, rfl, s117, hO119, hO121⟩
  refine ⟨_, rfl, ?_⟩
  replace hO119 := Own.un9 (J := [41, 42]) 0 hO119 rfl s117 rfl rfl
  replace hO121 := Own.un9 (J := [41, 42]) 1 hO121 rfl s117 rfl rfl
  replace s117 := un_stepL (J := [41, 42]) (L' := []) s117 rfl rfl
  replace hO0_0 := hO0_0.step s117 rfl rfl
  replace hB0 := hB0.step s117 rfl
  replace hM2 := hM2.step s117 rfl
  replace hM0_1 := hM0_1.step s117 rfl
  replace hB113 := hB113.step s117 rfl
  replace HF := HF.step s117 rfl
  refine E rfl (mv (.tuple #[encS z114.1, v118, v120]) rfl) <|
   E rfl (ex_extract rfl rfl) <|
   E rfl (ex_extract rfl rfl) <|
   E rfl (ex_extract rfl rfl) <|
   E rfl (sg (encS z114.1) rfl) <|
   E rfl (sg v118 rfl) <|
   E rfl (sg v120 rfl) <|
   WL.nil <|
   WC.seq <|
   WC.region <|
   E rfl (mv (encS z114.1) rfl) <|
   E rfl (ex_len_str (s := z114.1) rfl U9) <|
   E rfl (sg (ii (z114.1.length : Int)) rfl) <|
   WL.nil <|
   WC.seq <|
   WC.seq <|
   WC.region <|
   E rfl (mv v118 rfl) ?_
  obtain ⟨A122, c123, q124⟩ := hO119.slice
  refine E rfl (ex_len_slice ((show _ = (v118 : Value) from rfl).trans q124) U79) <|
   E rfl (mv (ii 0) rfl) <|
   WL.nil ?_
  obtain ⟨z130, hz130, H⟩ := bindE H
  obtain ⟨x128, x129⟩ := z130
  refine WC.for (fun k_ ρ_ w_ => ∃ (o_ : Tags) (x125 : Int) (x126 : Int) (x127 : (List (Int × Int))), Fm o0 w0 o_ w_ [4] ∧ Own (Rep.int .i64) 3 42 o_ w_ v120 z114.2.2 ∧ Own (Rep.int .i64) 3 41 o_ w_ v118 z114.2.1 ∧ Bk o_ w_ 2 pb0 [pv0_0, .map (some pb0_1)] 28 ∧ Own T_api_Node.rep 61 3 o_ w_ pv0_0 a0.f_rows ∧ Mp (fun n_ : Int => Value.int .i64 n_) (fun v_ : Int => ii v_) 4 o_ w_ pb2 x127 ∧ Mp (fun x_ : T_api_Node => Value.agg #[ii x_.f_Kind, encS x_.f_Name, ii x_.f_L, ii x_.f_R]) (fun v_ : Int => ii v_) 5 o_ w_ pb0_1 a0_1 ∧ ρ_ 0 = pp pb0 0 ∧ ρ_ 1 = ii a1 ∧ ρ_ 2 = .map (some pb2) ∧ ρ_ 6 = ii 0 ∧ ρ_ 13 = v120 ∧ ρ_ 14 = ii x125 ∧ ρ_ 40 = v118 ∧ ρ_ 41 = ii (z114.2.1.length : Int) ∧ ρ_ 42 = ii x126 ∧ syntax_width.l1 k a0 a0_1 R z114 k_ x125 x126 x127 = some (x128, x129)) k (fun ρ_ w_ => ∃ (o_ : Tags), Fm o0 w0 o_ w_ [4] ∧ Bk o_ w_ 2 pb0 [pv0_0, .map (some pb0_1)] 28 ∧ Own T_api_Node.rep 61 3 o_ w_ pv0_0 a0.f_rows ∧ Mp (fun n_ : Int => Value.int .i64 n_) (fun v_ : Int => ii v_) 4 o_ w_ pb2 x129 ∧ Mp (fun x_ : T_api_Node => Value.agg #[ii x_.f_Kind, encS x_.f_Name, ii x_.f_L, ii x_.f_R]) (fun v_ : Int => ii v_) 5 o_ w_ pb0_1 a0_1 ∧ ρ_ 1 = ii a1 ∧ ρ_ 2 = .map (some pb2) ∧ ρ_ 6 = ii 0 ∧ ρ_ 14 = ii x128) ⟨_, (z114.1.length : Int), 0, a2, HF, hO121, hO119, hB0, hO0_0, hM2, hM0_1, rfl, rfl, rfl, rfl, rfl, rfl, rfl, rfl, rfl, hz130⟩ ?case131 ?_
  case case131 =>
   rintro ρ178 w179 ⟨o180, HF, hB0, hO0_0, hM2, hM0_1, s1_127, s2_127, s6_127, s14_128⟩
   refine WC.seq <|
    WC.region <|
    E rfl (mv (.map (some pb2)) s2_127) <|
    E rfl (mv (ii a1) s1_127) <|
    E rfl (mv (ii x128) s14_128) <|
    E rfl (ex_min (a := x128) (b := 65537) rfl rfl) <|
    WL.op rfl <|
    OW.mapUpdate (ek := (fun n_ : Int => Value.int .i64 n_)) (ev := (fun v_ : Int => ii v_)) (eq := (fun a_ b_ : Int => a_ == b_)) (kx := a1) (vx := (if 65537 < x128 then 65537 else x128)) rfl rfl rfl U65 (keyT_int U3) hM2 ?_
   intro w181 s182 hM183
   replace hB0 := hB0.step s182 rfl
   replace hO0_0 := hO0_0.step s182 rfl rfl
   replace hM0_1 := hM0_1.step s182 rfl
   replace HF := HF.step s182 rfl
   refine WL.nil <|
    WC.seq <|
    WC.region <|
    E rfl (mv (.map (some pb2)) s2_127) <|
    E rfl (mv (ii a1) s1_127) <|
    E rfl (ex_lookup1 (ek := (fun n_ : Int => Value.int .i64 n_)) (ev := (fun v_ : Int => ii v_)) (eq := (fun a_ b_ : Int => a_ == b_)) (x := a1) (z := (0 : Int)) rfl rfl U65 (keyT_int U3) hM183 zr3) <|
    E rfl (sg (ii ((mget (fun a_ b_ : Int => a_ == b_) (mput (fun a_ b_ : Int => a_ == b_) x129 a1 (if 65537 < x128 then 65537 else x128)) a1).getD (0 : Int))) rfl) <|
    WL.nil <|
    WC.ret ?_
   obtain rfl := Option.some.inj H
   exact ⟨_, (.tmp (ii ((mget (fun a_ b_ : Int => a_ == b_) (mput (fun a_ b_ : Int => a_ == b_) x129 a1 (if 65537 < x128 then 65537 else x128)) a1).getD (0 : Int)) : Value) rfl .nil), _, rfl, HF.out, hM183⟩
  have Ho132 := H
  rintro k133 ρ134 w135 ⟨o136, x125, x126, x127, HF, hO121, hO119, hB0, hO0_0, hM2, hM0_1, s0_124, s1_124, s2_124, s6_124, s13_124, s14_125, s40_125, s41_125, s42_126, H⟩
  cases k133 with
  | zero => cases H
  | succ k133 =>
  rw [syntax_width.l1.eq_2] at H
  refine WC.seq <|
   WC.region <|
   E rfl (e2 bin_lss s42_126 s41_125) <|
   WL.nil <|
   WC.seq ?_
  rcases condE H with ⟨c137, H⟩ | ⟨c137, H⟩
  ·
   refine WC.cond_t (vb c137 rfl) <|
    WC.skip ?_
   obtain ⟨z140, hz140, H⟩ := bindE H
   obtain ⟨x138, x139⟩ := z140
   refine WC.cut (fun ρ_ w_ => ∃ (o_ : Tags), Fm o0 w0 o_ w_ [4] ∧ Own (Rep.int .i64) 3 42 o_ w_ v120 z114.2.2 ∧ Own (Rep.int .i64) 3 41 o_ w_ v118 z114.2.1 ∧ Bk o_ w_ 2 pb0 [pv0_0, .map (some pb0_1)] 28 ∧ Own T_api_Node.rep 61 3 o_ w_ pv0_0 a0.f_rows ∧ Mp (fun n_ : Int => Value.int .i64 n_) (fun v_ : Int => ii v_) 4 o_ w_ pb2 x139 ∧ Mp (fun x_ : T_api_Node => Value.agg #[ii x_.f_Kind, encS x_.f_Name, ii x_.f_L, ii x_.f_R]) (fun v_ : Int => ii v_) 5 o_ w_ pb0_1 a0_1 ∧ ρ_ 0 = pp pb0 0 ∧ ρ_ 1 = ii a1 ∧ ρ_ 2 = .map (some pb2) ∧ ρ_ 6 = ii 0 ∧ ρ_ 13 = v120 ∧ ρ_ 14 = ii x138 ∧ ρ_ 40 = v118 ∧ ρ_ 41 = ii (z114.2.1.length : Int) ∧ ρ_ 42 = ii x126) ?case141 ?_
   case case141 =>
    rintro ρ144 w142 ⟨o143, HF, hO121, hO119, hB0, hO0_0, hM152, hM0_1, s0_137, s1_137, s2_137, s6_137, s13_137, s14_138, s40_138, s41_138, s42_138⟩
    refine WC.region <|
     E rfl (e2 bin_add64 s42_138 rfl) <|
     E rfl (mv (ii (wrap64 (x126 + 1))) rfl) <|
     WL.nil ?_
    exact ⟨k133, Nat.lt_succ_self _, ⟨_, x138, wrap64 (x126 + 1), x139, HF, hO121, hO119, hB0, hO0_0, hM152, hM0_1, s0_137, s1_137, s2_137, s6_137, s13_137, s14_138, s40_138, s41_138, rfl, H⟩⟩
   have Ho145 := H
   replace H := hz140
   refine WC.block <|
    WC.seq <|
    WC.region <|
    E rfl (mv (ii x126) s42_126) ?_
   obtain ⟨x146, hx146, H⟩ := bindE H
   obtain ⟨A151, c152, q153_⟩ := hO119.slice
   obtain ⟨ad147, e148, g149, g150, cell154⟩ := Row.ixS (Own.rowOf hO119 q153_) hx146
   refine E rfl (ex_indexAddr (i := x126) ((show _ = (v118 : Value) from s40_125).trans q153_) e148 s42_126 U79 sz3 g149 g150) <|
    E rfl (ex_load1 (v := ii x146) rfl U3 rfl cell154) <|
    E rfl (sg (ii x126) rfl) <|
    E rfl (sg (ii x146) rfl) <|
    WL.nil <|
    WC.seq <|
    WC.region <|
    E rfl (mv (ii x125) s14_125) <|
    E rfl (mv (pp pb0 0) s0_124) <|
    E rfl (mv (ii x146) rfl) <|
    E rfl (mv (.map (some pb2)) s2_124) ?_
   obtain ⟨z156, hz156, H⟩ := bindE H
   refine WL.op rfl <|
    OW.call [pp pb0 0, ii x146, .map (some pb2)] rfl Tryd.func23 (by kernel_rfl) (by kernel_rfl) (map_cons' rfl (map_cons' rfl (map_cons' rfl rfl))) (hR.syntax_width _ _ pb0 pv0_0 pb2 pb0_1 a0 x146 x127 a0_1 z156 (HF.ten (V := [0]) (L := [2, 3, 4, 5]) rfl) (Bk.vw hB0 rfl) (Own.vw hO0_0 rfl rfl) (Mp.vw hM2 rfl) (Mp.vw hM0_1 rfl) hz156) ?_
   rintro _ w157 ⟨o158, rfl, s159, hM160⟩
   refine ⟨_, rfl, ?_⟩
   replace hM160 := Mp.unO (J := []) 2 hM160 s159 rfl rfl rfl
   replace s159 := un_stepL (J := []) (L' := [4]) s159 rfl rfl
   replace hO121 := hO121.step s159 rfl rfl
   replace hO119 := hO119.step s159 rfl rfl
   replace hB0 := hB0.step s159 rfl
   replace hO0_0 := hO0_0.step s159 rfl rfl
   replace hM0_1 := hM0_1.step s159 rfl
   replace HF := HF.step s159 rfl
   refine E rfl (e2 bin_add64 rfl rfl) <|
    E rfl (sg (ii (wrap64 (x125 + z156.1))) rfl) <|
    WL.nil <|
    WC.seq <|
    WC.regionD' HF [] 8 8 (by kernel_rfl) rfl ?_
   intro w161 s162
   replace hO121 := hO121.step s162 rfl rfl
   replace hO119 := hO119.step s162 rfl rfl
   replace hB0 := hB0.step s162 rfl
   replace hO0_0 := hO0_0.step s162 rfl rfl
   replace hM0_1 := hM0_1.step s162 rfl
   replace hM160 := hM160.step s162 rfl
   replace HF := HF.step s162 rfl
   have hO121D := hO121
   have hO119D := hO119
   have hB0D := hB0
   have hO0_0D := hO0_0
   have hM0_1D := hM0_1
   have hM160D := hM160
   have sR := HF.here []
   refine WA.norm (listed' := #[false, false, false, false, false, false, false, false]) (by kernel_rfl) <|
    WA.ex 0 rfl (by kernel_rfl) (by kernel_rfl) (by kernel_rfl) rfl ⟨_, sR⟩ (fun w_ hS_ => ex_move (v := pp pb0 0) s0_124) <|
    WA.norm (listed' := #[true, false, false, false, false, false, false, false]) (by kernel_rfl) <|
    WA.ex 1 rfl (by kernel_rfl) (by kernel_rfl) (by kernel_rfl) rfl ⟨_, sR⟩ (fun w_ hS_ => ex_move (v := ii x146) rfl) <|
    WA.norm (listed' := #[true, true, false, false, false, false, false, false]) (by kernel_rfl) <|
    WA.ex 3 rfl (by kernel_rfl) (by kernel_rfl) (by kernel_rfl) rfl ⟨_, sR⟩ (fun w_ hS_ => ex_move (v := v120) s13_124) <|
    WA.norm (listed' := #[true, true, false, true, false, false, false, false]) (by kernel_rfl) <|
    WA.ex 4 rfl (by kernel_rfl) (by kernel_rfl) (by kernel_rfl) rfl ⟨_, sR⟩ (fun w_ hS_ => ex_move (v := ii x126) rfl) <|
    WA.norm (listed' := #[true, true, false, true, true, false, false, false]) (by kernel_rfl) ?_
   obtain ⟨x163, hx163, H⟩ := bindE H
   obtain ⟨A168, c169, q170_⟩ := hO121.slice
   obtain ⟨ad164, e165, g166, g167, cell171⟩ := Row.ixS (Own.rowOf hO121D q170_) hx163
   have hk172 := Row.at (Own.rowOf hO121D q170_) e165 hx163 (x126.toNat * 1)
   replace cell171 := held_cell (Step.refl _ _ _) ⟨_, sR⟩ hk172 rfl cell171
   refine WA.ex 5 rfl (by kernel_rfl) (by kernel_rfl) (by kernel_rfl) rfl ⟨_, sR⟩ (fun w_ hS_ => ex_indexAddr (i := x126) ((show _ = (v120 : Value) from rfl).trans q170_) e165 rfl U79 sz3 g166 g167) <|
    WA.norm (listed' := #[true, true, false, true, true, true, false, false]) (by kernel_rfl) <|
    WA.ex 6 rfl (by kernel_rfl) (by kernel_rfl) (by kernel_rfl) rfl ⟨_, sR⟩ (fun w_ hS_ => ex_load1 (v := ii x163) rfl U3 rfl (held_cell sR hS_ hk172 rfl cell171)) <|
    WA.norm (listed' := #[true, true, false, true, true, true, true, false]) (by kernel_rfl) ?_
   obtain ⟨z173, hz173, H⟩ := bindE H
   refine WA.one 2 (by kernel_rfl) rfl rfl <|
    OW.call [pp pb0 0, ii x146] rfl Tryd.func36 (by kernel_rfl) (by kernel_rfl) (map_cons' rfl (map_cons' rfl rfl)) (syntax_level.calls _ _ pb0 pv0_0 pb0_1 a0 x146 a0_1 z173 (HF.ten (V := [0]) (L := [2, 3, 5]) rfl) (Bk.vw hB0 rfl) (Own.vw hO0_0 rfl rfl) (Mp.vw hM0_1 rfl) hz173) ?_
   rintro _ w174 ⟨o175, rfl, s176⟩
   refine ⟨_, rfl, ?_⟩
   replace s176 := un_stepL (J := []) (L' := []) s176 rfl rfl
   replace hO121 := hO121.step s176 rfl rfl
   replace hO119 := hO119.step s176 rfl rfl
   replace hB0 := hB0.step s176 rfl
   replace hO0_0 := hO0_0.step s176 rfl rfl
   replace hM0_1 := hM0_1.step s176 rfl
   replace hM160 := hM160.step s176 rfl
   replace HF := HF.step s176 rfl
   replace sR := Step.trans sR s176 (M := []) rfl rfl
   refine ⟨⟨_, sR⟩, ?_⟩
   refine WA.norm (listed' := #[true, true, true, true, true, true, true, false]) (by kernel_rfl) <|
    WA.ex 7 rfl (by kernel_rfl) (by kernel_rfl) (by kernel_rfl) rfl ⟨_, sR⟩ (fun w_ hS_ => ex_bin (a := ii z173) (b := ii x163) (v := .bool (decide (z173 < x163))) rfl rfl bin_lss) <|
    WA.norm (listed' := #[true, true, true, true, true, true, true, true]) (by kernel_rfl) <|
    WA.done (by kernel_rfl) ?_
   rcases condE H with ⟨c177, H⟩ | ⟨c177, H⟩
   ·
    refine WC.cond_t (vb c177 rfl) <|
     WC.region <|
     E rfl (mv (ii (wrap64 (x125 + z156.1))) rfl) <|
     E rfl (e2 bin_add64 rfl rfl) <|
     E rfl (sg (ii (wrap64 ((wrap64 (x125 + z156.1)) + 2))) rfl) <|
     WL.nil ?_
    obtain ⟨rfl, rfl⟩ := Prod.mk.inj (Option.some.inj H)
    exact ⟨_, HF, hO121, hO119, hB0, hO0_0, hM160, hM0_1, s0_124, s1_124, s2_124, s6_124, s13_124, rfl, s40_125, s41_125, s42_126⟩
   ·
    refine WC.cond_f (vb c177 rfl) <|
     WC.skip ?_
    obtain ⟨rfl, rfl⟩ := Prod.mk.inj (Option.some.inj H)
    exact ⟨_, HF, hO121, hO119, hB0, hO0_0, hM160, hM0_1, s0_124, s1_124, s2_124, s6_124, s13_124, rfl, s40_125, s41_125, s42_126⟩
  ·
   refine WC.cond_f (vb c137 rfl) <|
    WC.exit ?_
   obtain ⟨rfl, rfl⟩ := Prod.mk.inj (Option.some.inj H)
   exact ⟨_, HF, hB0, hO0_0, hM2, hM0_1, s1_124, s2_124, s6_124, s14_125⟩

theorem G_syntax_width.ok (k : Nat) : ∀ n, G_syntax_width.OK (G_syntax_width.rec_ k n)
 | 0 => ⟨(fun o0 w0 pb0 pv0_0 pb2 pb0_1 a0 a1 a2 a0_1 r hO hB0 hO0_0 hM2 hM0_1 H => (nomatch (show (none : Option (Int × (List (Int × Int)))) = some r from H)))⟩
 | n + 1 => ⟨(fun o0 w0 pb0 pv0_0 pb2 pb0_1 a0 a1 a2 a0_1 r hO hB0 hO0_0 hM2 hM0_1 H => syntax_width.callsF k (G_syntax_width.rec_ k n) (G_syntax_width.ok k n) o0 w0 pb0 pv0_0 pb2 pb0_1 a0 a1 a2 a0_1 r hO hB0 hO0_0 hM2 hM0_1 H)⟩
theorem syntax_width.calls (k : Nat) (o0 : Tags) (w0 : World) (pb0 : Nat) (pv0_0 : Value) (pb2 : Nat) (pb0_1 : Nat) (a0 : T_formula_Table) (a1 : Int) (a2 : (List (Int × Int))) (a0_1 : (List (T_api_Node × Int))) (r : Int × (List (Int × Int))) (hO : ∀ b, b < w0.heap.size → o0 b < 40) (hB0 : Bk o0 w0 2 pb0 [pv0_0, .map (some pb0_1)] 28) (hO0_0 : Own T_api_Node.rep 61 3 o0 w0 pv0_0 a0.f_rows) (hM2 : Mp (fun n_ : Int => Value.int .i64 n_) (fun v_ : Int => ii v_) 4 o0 w0 pb2 a2) (hM0_1 : Mp (fun x_ : T_api_Node => Value.agg #[ii x_.f_Kind, encS x_.f_Name, ii x_.f_L, ii x_.f_R]) (fun v_ : Int => ii v_) 5 o0 w0 pb0_1 a0_1) (H : syntax_width.f k a0 a1 a2 a0_1 = some r) :
  Calls Tryd.prog 23 [pp pb0 0, ii a1, .map (some pb2)].toArray w0 fun e_ w_ => ∃ (o_ : Tags), e_ = .returned (one [ii r.1]) ∧ Step o0 w0 o_ w_ [4] ∧ Mp (fun n_ : Int => Value.int .i64 n_) (fun v_ : Int => ii v_) 4 o_ w_ pb2 r.2 :=
 (G_syntax_width.ok k k).syntax_width o0 w0 pb0 pv0_0 pb2 pb0_1 a0 a1 a2 a0_1 r hO hB0 hO0_0 hM2 hM0_1 H


/-! ### (*strings.Builder).copyCheck -/
theorem sizeBd : (Tryd.prog.info? 69).map (·.size) = some 2 := by kernel_rfl
theorem info5 : (Tryd.prog.info? 5).map (fun i => (i.zero, i.size, i.bytes)) = some (some (.int .u8 0), 1, 1) := by kernel_rfl
theorem Bd_copyCheck (w0 : World) (b : Nat) (p v : Value) (hb : w0.heap[b]? = some (.cells #[p, v] 69 (0, 0))) (hp : p = .pointer none ∨ p = .pointer (some ⟨b, 0, none⟩)) :
    Calls Tryd.prog 49 [.pointer (some ⟨b, 0, none⟩)].toArray w0 fun e_ w_ => e_ = .returned (one []) ∧ Kept b w0 w_ ∧ w_.heap[b]? = some (.cells #[.pointer (some ⟨b, 0, none⟩), v] 69 (0, 0)) := by
  have hB : Bk (tagOne b) w0 41 b [p, v] 69 := ⟨tagOne_same b, hb⟩
  refine SX.calls [.pointer (some ⟨b, 0, none⟩)] Tryd.func49 rfl rfl ?_
  rw [Tryd.ntmps49]
  refine WC.seq ?_
  refine WC.region ?_
  refine WL.ex rfl (ex_move (v := .pointer (some ⟨b, 0, none⟩)) rfl) ?_
  refine WL.ex rfl (ex_nilCheck rfl) ?_
  refine WL.ex rfl (ex_fieldAddr (k := 0) rfl Tryd.underlying69 rfl (by kernel_rfl)) ?_
  refine WL.ex rfl (ex_load1 (v := p) rfl Tryd.underlying66 rfl (hB.cell rfl)) ?_
  rcases hp with rfl | rfl
  · refine WL.ex rfl (ex_bin (a := .pointer none) (b := .pointer none) (v := .bool true) rfl rfl (bin_eql_ptrNN Tryd.underlying66)) ?_
    refine WL.nil ?_
    refine WC.cond_t rfl ?_
    refine WC.region ?_
    refine WL.ex rfl (ex_move (v := .pointer (some ⟨b, 0, none⟩)) rfl) ?_
    refine WL.ex rfl (ex_move (v := .pointer (some ⟨b, 0, none⟩)) rfl) ?_
    refine WL.ex rfl (ex_to_unsafe rfl Tryd.underlying66 Tryd.underlying108 2 rfl sizeBd rfl hB) ?_
    refine WL.ex rfl (ex_extern1 (v := .pointer (some ⟨b, 0, none⟩)) (v' := .pointer (some ⟨b, 0, none⟩)) rfl Tryd.func60 (by kernel_rfl) (by kernel_rfl) (by kernel_rfl) (ee := Extern.AbiNoEscape.same) (by kernel_rfl) rfl) ?_
    refine WL.ex rfl (ex_from_unsafe rfl Tryd.underlying108 Tryd.underlying66 (by kernel_rfl) hB (by kernel_rfl)) ?_
    refine WL.ex rfl (ex_nilCheck rfl) ?_
    refine WL.ex rfl (ex_fieldAddr (k := 0) rfl Tryd.underlying69 rfl (by kernel_rfl)) ?_
    refine WL.op rfl ?_
    refine OW.store [.pointer (some ⟨b, 0, none⟩), v] rfl (vs := [.pointer (some ⟨b, 0, none⟩)]) rfl (by kernel_rfl) hB (Nat.le_of_ble_eq_true rfl) (by intro u hu; simp at hu; subst hu; rfl) rfl ?_
    intro w1 s1 h1
    refine WL.nil ?_
    exact ⟨_, .nil, rfl, s1.kept, h1.heap⟩
  · refine WL.ex rfl (ex_bin (a := .pointer (some ⟨b, 0, none⟩)) (b := .pointer none) (v := .bool false) rfl rfl (bin_eql_ptrSN Tryd.underlying66)) ?_
    refine WL.nil ?_
    refine WC.cond_f rfl ?_
    refine WC.seq ?_
    refine WC.region ?_
    refine WL.ex rfl (ex_move (v := .pointer (some ⟨b, 0, none⟩)) rfl) ?_
    refine WL.ex rfl (ex_nilCheck rfl) ?_
    refine WL.ex rfl (ex_fieldAddr (k := 0) rfl Tryd.underlying69 rfl (by kernel_rfl)) ?_
    refine WL.ex rfl (ex_load1 (v := .pointer (some ⟨b, 0, none⟩)) rfl Tryd.underlying66 rfl (hB.cell rfl)) ?_
    refine WL.ex rfl (ex_move (v := .pointer (some ⟨b, 0, none⟩)) rfl) ?_
    refine WL.ex rfl (ex_bin (a := .pointer (some ⟨b, 0, none⟩)) (b := .pointer (some ⟨b, 0, none⟩)) (v := .bool false) rfl rfl (bin_neq_ptrSame Tryd.underlying66 (by kernel_rfl))) ?_
    refine WL.nil ?_
    refine WC.cond_f rfl ?_
    refine WC.skip ?_
    exact ⟨_, .nil, rfl, (Step.refl _ _ _).kept, hb⟩


/-! ### (*strings.Builder).WriteByte -/
theorem Builder_WriteByte.calls (o0 : Tags) (w0 : World) (b : Nat) (a0 : List UInt8) (a1 : UInt8) (r : List UInt8) (hO : ∀ b, b < w0.heap.size → o0 b < 40) (hB0 : Bd 69 5 2 o0 w0 b a0) (H : Builder_WriteByte.f a0 a1 = some r) :
    Calls Tryd.prog 37 [.pointer (some ⟨b, 0, none⟩), enc8 a1].toArray w0 fun e_ w_ => ∃ (o_ : Tags), e_ = .returned (one [.nilIface]) ∧ Step o0 w0 o_ w_ [2] ∧ Bd 69 5 2 o_ w_ b r := by
  unfold Builder_WriteByte.f at H
  obtain ⟨u, hu, H⟩ := bindE H
  obtain rfl := Option.some.inj H
  obtain ⟨p, v, hB0', hp, hO1⟩ := hB0
  have hb := hB0'.heap
  have hn := hO1.notin hb rfl
  have h0 : o0 b ≠ 0 := by rw [hB0'.tag]; decide
  have hO2 : Own Rep.u8 5 2 (apart1 o0 b) w0 v a0 := hO1.apart hn h0
  refine SX.calls [.pointer (some ⟨b, 0, none⟩), enc8 a1] Tryd.func37 rfl rfl ?_
  rw [Tryd.ntmps37]
  refine WC.seq ?_
  refine WC.region ?_
  refine WL.ex rfl (ex_assign (v := .nilIface) rfl) ?_
  refine WL.nil ?_
  refine WC.seq ?_
  refine WC.region ?_
  refine WL.ex rfl (ex_move (v := .pointer (some ⟨b, 0, none⟩)) rfl) ?_
  refine WL.op rfl ?_
  refine OW.call [.pointer (some ⟨b, 0, none⟩)] rfl Tryd.func49 (by kernel_rfl) (by kernel_rfl) rfl (Bd_copyCheck w0 b p v hb hp) ?_
  rintro _ w1 ⟨rfl, k1, hb1⟩
  refine ⟨_, rfl, ?_⟩
  have s1 : Step (apart1 o0 b) w0 (apart1 o0 b) w1 [41, 2] := Step.trans (k1.step (apart1_same o0 b)) (Step.refl _ _ []) rfl rfl
  replace hO2 := hO2.kept k1 hn (by rw [apart1_same]; decide)
  have hB : Bk (apart1 o0 b) w1 41 b [.pointer (some ⟨b, 0, none⟩), v] 69 := ⟨apart1_same o0 b, hb1⟩
  refine WL.nil ?_
  refine WC.seq ?_
  refine WC.region ?_
  refine WL.ex rfl (ex_move (v := .pointer (some ⟨b, 0, none⟩)) rfl) ?_
  refine WL.ex rfl (ex_move (v := .pointer (some ⟨b, 0, none⟩)) rfl) ?_
  refine WL.ex rfl (ex_nilCheck rfl) ?_
  refine WL.ex rfl (ex_fieldAddr (k := 0) rfl Tryd.underlying69 rfl (by kernel_rfl)) ?_
  refine WL.ex rfl (ex_load1 (v := v) rfl Tryd.underlying67 rfl (hB.cell rfl)) ?_
  refine WL.ex rfl (ex_move (v := enc8 a1) rfl) ?_
  refine WL.op rfl ?_
  refine OW.row (r := Rep.u8) (xs := [a1]) [(0, enc8 a1)] [[enc8 a1]] 42 (Fm.here2 (apart1 o0 b) w1) rfl Tryd.underlying67 (by kernel_rfl) (by kernel_rfl : (Tryd.prog.info? 5).map (·.zero) = some (some (.int .u8 0))) rfl rfl rfl rfl ⟨rfl, trivial⟩ rfl rfl rfl rfl ?_
  intro o2 w2 v2 s2 hO4
  replace hO2 := hO2.step s2 rfl rfl
  replace hB := hB.step s2 rfl
  replace s1 := Step.trans s1 s2 (M := [41, 2]) rfl rfl
  obtain ⟨A4, c4, q4, _, hr4⟩ := hO4.row
  refine WL.op rfl ?_
  refine OW.append (r := Rep.u8) (E := 5) (i := 2) rfl Tryd.underlying67 info5 rfl (by decide) (by decide) (by decide) rfl q4 hO2 hr4 rfl (of_decide_eq_true (chk_true hu)) ?_
  intro o3 w3 v3 s3 hO2
  replace hB := hB.step s3 rfl
  replace s1 := Step.trans s1 s3 (M := [41, 2]) rfl rfl
  refine WL.ex rfl (ex_nilCheck rfl) ?_
  refine WL.ex rfl (ex_fieldAddr (k := 0) rfl Tryd.underlying69 rfl (by kernel_rfl)) ?_
  refine WL.op rfl ?_
  refine OW.store [.pointer (some ⟨b, 0, none⟩), v3] rfl (vs := [v3]) (by obtain ⟨A_, c_, e_⟩ := hO2.slice; show v3.cells = _; rw [e_]; rfl) (by kernel_rfl) hB (Nat.le_of_ble_eq_true rfl) (by intro u hu; simp at hu; subst hu; obtain ⟨A_, c_, e_⟩ := hO2.slice; rw [e_]; rfl) rfl ?_
  intro w4 s4 hB4
  replace hO2 := hO2.step s4 rfl rfl
  replace s1 := Step.trans s1 s4 (M := [41, 2]) rfl rfl
  refine WL.nil ?_
  refine WC.seq ?_
  refine WC.region ?_
  refine WL.ex rfl (ex_assign (v := .nilIface) rfl) ?_
  refine WL.nil ?_
  refine WC.ret ?_
  exact ⟨_, .tmp (.nilIface) rfl .nil, _, rfl, apart_step hO hB0'.tag s1 rfl, _, _, Bk.renTo hB4, .inr rfl, hO2.ren rfl rfl⟩


/-! ### (*strings.Builder).WriteString -/
theorem Builder_WriteString.calls (o0 : Tags) (w0 : World) (b : Nat) (a0 : List UInt8) (a1 : List UInt8) (r : Int × List UInt8) (hO : ∀ b, b < w0.heap.size → o0 b < 40) (hB0 : Bd 69 5 2 o0 w0 b a0) (H : Builder_WriteString.f a0 a1 = some r) :
    Calls Tryd.prog 38 [.pointer (some ⟨b, 0, none⟩), encS a1].toArray w0 fun e_ w_ => ∃ (o_ : Tags), e_ = .returned (one [.int .i64 r.1, .nilIface]) ∧ Step o0 w0 o_ w_ [2] ∧ Bd 69 5 2 o_ w_ b r.2 := by
  unfold Builder_WriteString.f at H
  obtain ⟨u, hu, H⟩ := bindE H
  obtain rfl := Option.some.inj H
  obtain ⟨p, v, hB0', hp, hO1⟩ := hB0
  have hb := hB0'.heap
  have hn := hO1.notin hb rfl
  have h0 : o0 b ≠ 0 := by rw [hB0'.tag]; decide
  have hO2 : Own Rep.u8 5 2 (apart1 o0 b) w0 v a0 := hO1.apart hn h0
  refine SX.calls [.pointer (some ⟨b, 0, none⟩), encS a1] Tryd.func38 rfl rfl ?_
  rw [Tryd.ntmps38]
  refine WC.seq ?_
  refine WC.region ?_
  refine WL.ex rfl (ex_assign (v := .int .i64 0) rfl) ?_
  refine WL.ex rfl (ex_assign (v := .nilIface) rfl) ?_
  refine WL.nil ?_
  refine WC.seq ?_
  refine WC.region ?_
  refine WL.ex rfl (ex_move (v := .pointer (some ⟨b, 0, none⟩)) rfl) ?_
  refine WL.op rfl ?_
  refine OW.call [.pointer (some ⟨b, 0, none⟩)] rfl Tryd.func49 (by kernel_rfl) (by kernel_rfl) rfl (Bd_copyCheck w0 b p v hb hp) ?_
  rintro _ w1 ⟨rfl, k1, hb1⟩
  refine ⟨_, rfl, ?_⟩
  have s1 : Step (apart1 o0 b) w0 (apart1 o0 b) w1 [41, 2] := Step.trans (k1.step (apart1_same o0 b)) (Step.refl _ _ []) rfl rfl
  replace hO2 := hO2.kept k1 hn (by rw [apart1_same]; decide)
  have hB : Bk (apart1 o0 b) w1 41 b [.pointer (some ⟨b, 0, none⟩), v] 69 := ⟨apart1_same o0 b, hb1⟩
  refine WL.nil ?_
  refine WC.seq ?_
  refine WC.region ?_
  refine WL.ex rfl (ex_move (v := .pointer (some ⟨b, 0, none⟩)) rfl) ?_
  refine WL.ex rfl (ex_move (v := .pointer (some ⟨b, 0, none⟩)) rfl) ?_
  refine WL.ex rfl (ex_nilCheck rfl) ?_
  refine WL.ex rfl (ex_fieldAddr (k := 0) rfl Tryd.underlying69 rfl (by kernel_rfl)) ?_
  refine WL.ex rfl (ex_load1 (v := v) rfl Tryd.underlying67 rfl (hB.cell rfl)) ?_
  refine WL.ex rfl (ex_move (v := encS a1) rfl) ?_
  refine WL.op rfl ?_
  refine OW.appendStr (E := 5) (i := 2) (s := a1) rfl Tryd.underlying67 Tryd.underlying9 info5 (by decide) rfl rfl hO2 (of_decide_eq_true (chk_true hu)) ?_
  intro o3 w3 v3 s3 hO2
  replace hB := hB.step s3 rfl
  replace s1 := Step.trans s1 s3 (M := [41, 2]) rfl rfl
  refine WL.ex rfl (ex_nilCheck rfl) ?_
  refine WL.ex rfl (ex_fieldAddr (k := 0) rfl Tryd.underlying69 rfl (by kernel_rfl)) ?_
  refine WL.op rfl ?_
  refine OW.store [.pointer (some ⟨b, 0, none⟩), v3] rfl (vs := [v3]) (by obtain ⟨A_, c_, e_⟩ := hO2.slice; show v3.cells = _; rw [e_]; rfl) (by kernel_rfl) hB (Nat.le_of_ble_eq_true rfl) (by intro u hu; simp at hu; subst hu; obtain ⟨A_, c_, e_⟩ := hO2.slice; rw [e_]; rfl) rfl ?_
  intro w4 s4 hB4
  replace hO2 := hO2.step s4 rfl rfl
  replace s1 := Step.trans s1 s4 (M := [41, 2]) rfl rfl
  refine WL.nil ?_
  refine WC.seq ?_
  refine WC.region ?_
  refine WL.ex rfl (ex_move (v := encS a1) rfl) ?_
  refine WL.ex rfl (ex_len_str (s := a1) rfl Tryd.underlying9) ?_
  refine WL.ex rfl (ex_assign (v := .int .i64 (a1.length : Int)) rfl) ?_
  refine WL.ex rfl (ex_assign (v := .nilIface) rfl) ?_
  refine WL.nil ?_
  refine WC.ret ?_
  exact ⟨_, .tmp (.int .i64 (a1.length : Int)) rfl (.tmp (.nilIface) rfl .nil), _, rfl, apart_step hO hB0'.tag s1 rfl, _, _, Bk.renTo hB4, .inr rfl, hO2.ren rfl rfl⟩

structure G_syntax_write.OK (R : G_syntax_write) : Prop where
 syntax_write : ∀ (o0 : Tags) (w0 : World) (pb0 : Nat) (pb1 : Nat) (pv1_0 : Value) (pb1_1 : Nat) (a0 : (List UInt8)) (a1 : T_formula_Table) (a2 : Int) (a3 : Int) (a1_1 : (List (T_api_Node × Int))) (r : (List UInt8)) (hO : ∀ b, b < w0.heap.size → o0 b < 40) (hB0 : Bd 69 5 2 o0 w0 pb0 a0) (hB1 : Bk o0 w0 3 pb1 [pv1_0, .map (some pb1_1)] 28) (hO1_0 : Own T_api_Node.rep 61 4 o0 w0 pv1_0 a1.f_rows) (hM1_1 : Mp (fun x_ : T_api_Node => Value.agg #[ii x_.f_Kind, encS x_.f_Name, ii x_.f_L, ii x_.f_R]) (fun v_ : Int => ii v_) 5 o0 w0 pb1_1 a1_1) (H : R.syntax_write a0 a1 a2 a3 a1_1 = some r),
  Calls Tryd.prog 24 [pp pb0 0, pp pb1 0, ii a2, ii a3].toArray w0 fun e_ w_ => ∃ (o_ : Tags), e_ = .returned (one []) ∧ Step o0 w0 o_ w_ [2] ∧ Bd 69 5 2 o_ w_ pb0 r
/-! ### syntax_write -/
set_option maxRecDepth 100000 in
theorem syntax_write.callsF (k : Nat) (R : G_syntax_write) (hR : G_syntax_write.OK R) (o0 : Tags) (w0 : World) (pb0 : Nat) (pb1 : Nat) (pv1_0 : Value) (pb1_1 : Nat) (a0 : (List UInt8)) (a1 : T_formula_Table) (a2 : Int) (a3 : Int) (a1_1 : (List (T_api_Node × Int))) (r : (List UInt8)) (hO : ∀ b, b < w0.heap.size → o0 b < 40) (hB0 : Bd 69 5 2 o0 w0 pb0 a0) (hB1 : Bk o0 w0 3 pb1 [pv1_0, .map (some pb1_1)] 28) (hO1_0 : Own T_api_Node.rep 61 4 o0 w0 pv1_0 a1.f_rows) (hM1_1 : Mp (fun x_ : T_api_Node => Value.agg #[ii x_.f_Kind, encS x_.f_Name, ii x_.f_L, ii x_.f_R]) (fun v_ : Int => ii v_) 5 o0 w0 pb1_1 a1_1) (H : syntax_write.F k R a0 a1 a2 a3 a1_1 = some r) :
  Calls Tryd.prog 24 [pp pb0 0, pp pb1 0, ii a2, ii a3].toArray w0 fun e_ w_ => ∃ (o_ : Tags), e_ = .returned (one []) ∧ Step o0 w0 o_ w_ [2] ∧ Bd 69 5 2 o_ w_ pb0 r := by
 have HF := Fm.refl hO [2]
 unfold syntax_write.F at H
 refine SX.calls [pp pb0 0, pp pb1 0, ii a2, ii a3] Tryd.func24 rfl rfl ?_
 rw [Tryd.ntmps24]
 refine WC.seq <|
  WC.region <|
  E rfl (mv (pp pb1 0) rfl) <|
  E rfl (mv (ii a2) rfl) ?_
 obtain ⟨z101, hz101, H⟩ := bindE H
 refine WL.op rfl <|
  OW.call [pp pb1 0, ii a2] rfl Tryd.func22 (by kernel_rfl) (by kernel_rfl) (map_cons' rfl (map_cons' rfl rfl)) (formula_Table_Node.calls _ _ pb1 pv1_0 pb1_1 a1 a2 a1_1 z101 (HF.ten (V := [0]) (L := [3, 4, 5]) rfl) (Bk.vw hB1 rfl) (Own.vw hO1_0 rfl rfl) (Mp.vw hM1_1 rfl) hz101) ?_
 rintro _ w102 ⟨o103, rfl, s104⟩
 refine ⟨_, rfl, ?_⟩
 replace s104 := un_stepL (J := []) (L' := []) s104 rfl rfl
 replace hB0 := hB0.step s104 rfl rfl
 replace hO1_0 := hO1_0.step s104 rfl rfl
 replace hB1 := hB1.step s104 rfl
 replace hM1_1 := hM1_1.step s104 rfl
 replace HF := HF.step s104 rfl
 refine E rfl (mv (.tuple #[.agg #[ii z101.1.f_Kind, encS z101.1.f_Name, ii z101.1.f_L, ii z101.1.f_R], .bool z101.2]) rfl) <|
  E rfl (ex_extract rfl rfl) <|
  E rfl (ex_extract rfl rfl) <|
  WL.op rfl <|
  OW.alloc' [ii (0 : Int), encS ([] : List UInt8), ii (0 : Int), ii (0 : Int)] 40 HF rfl zr61 rfl ?_
 intro o106 w107 b105 s108 hB109
 replace hB0 := hB0.step s108 rfl rfl
 replace hO1_0 := hO1_0.step s108 rfl rfl
 replace hB1 := hB1.step s108 rfl
 replace hM1_1 := hM1_1.step s108 rfl
 replace HF := HF.step s108 rfl
 refine WL.op rfl <|
  OW.storeW rfl rfl sz61 hB109 rfl (oa rfl) ?_
 intro w110 s111 hB112
 replace hB0 := hB0.step s111 rfl rfl
 replace hO1_0 := hO1_0.step s111 rfl rfl
 replace hB1 := hB1.step s111 rfl
 replace hM1_1 := hM1_1.step s111 rfl
 replace HF := HF.step s111 rfl
 refine E rfl (sg (.bool z101.2) rfl) <|
  WL.nil <|
  WC.seq <|
  WC.region <|
  E rfl (mv (pp pb1 0) rfl) <|
  E rfl (ex_loadN (cs := [ii z101.1.f_Kind, encS z101.1.f_Name, ii z101.1.f_L, ii z101.1.f_R]) rfl U61 rfl sz61 (hB112.cells rfl)) ?_
 obtain ⟨z113, hz113, H⟩ := bindE H
 refine WL.op rfl <|
  OW.call [pp pb1 0, .agg #[ii z101.1.f_Kind, encS z101.1.f_Name, ii z101.1.f_L, ii z101.1.f_R]] rfl Tryd.func35 (by kernel_rfl) (by kernel_rfl) (map_cons' rfl (map_cons' rfl rfl)) (syntax_pieces.calls _ _ pb1 pv1_0 pb1_1 a1 z101.1 a1_1 z113 (HF.ten (V := [0]) (L := [3, 4, 5]) rfl) (Bk.vw hB1 rfl) (Own.vw hO1_0 rfl rfl) (Mp.vw hM1_1 rfl) hz113) ?_
 rintro _ w114 ⟨o115, v117, v119, rfl, s116, hO118, hO120⟩
 refine ⟨_, rfl, ?_⟩
 replace hO118 := Own.un9 (J := [41, 42]) 0 hO118 rfl s116 rfl rfl
 replace hO120 := Own.un9 (J := [41, 42]) 1 hO120 rfl s116 rfl rfl
 replace s116 := un_stepL (J := [41, 42]) (L' := []) s116 rfl rfl
 replace hB0 := hB0.step s116 rfl rfl
 replace hO1_0 := hO1_0.step s116 rfl rfl
 replace hB1 := hB1.step s116 rfl
 replace hM1_1 := hM1_1.step s116 rfl
 replace hB112 := hB112.step s116 rfl
 replace HF := HF.step s116 rfl
 refine E rfl (mv (.tuple #[encS z113.1, v117, v119]) rfl) <|
  E rfl (ex_extract rfl rfl) <|
  E rfl (ex_extract rfl rfl) <|
  E rfl (ex_extract rfl rfl) <|
  E rfl (sg (encS z113.1) rfl) <|
  E rfl (sg v117 rfl) <|
  E rfl (sg v119 rfl) <|
  WL.nil <|
  WC.seq <|
  WC.region <|
  E rfl (mv (pp pb1 0) rfl) <|
  E rfl (mv (ii a2) rfl) ?_
 obtain ⟨z121, hz121, H⟩ := bindE H
 refine WL.op rfl <|
  OW.call [pp pb1 0, ii a2] rfl Tryd.func36 (by kernel_rfl) (by kernel_rfl) (map_cons' rfl (map_cons' rfl rfl)) (syntax_level.calls _ _ pb1 pv1_0 pb1_1 a1 a2 a1_1 z121 (HF.ten (V := [0]) (L := [3, 4, 5]) rfl) (Bk.vw hB1 rfl) (Own.vw hO1_0 rfl rfl) (Mp.vw hM1_1 rfl) hz121) ?_
 rintro _ w122 ⟨o123, rfl, s124⟩
 refine ⟨_, rfl, ?_⟩
 replace s124 := un_stepL (J := []) (L' := []) s124 rfl rfl
 replace hB0 := hB0.step s124 rfl rfl
 replace hO1_0 := hO1_0.step s124 rfl rfl
 replace hB1 := hB1.step s124 rfl
 replace hM1_1 := hM1_1.step s124 rfl
 replace hB112 := hB112.step s124 rfl
 replace hO118 := hO118.step s124 rfl rfl
 replace hO120 := hO120.step s124 rfl rfl
 replace HF := HF.step s124 rfl
 refine E rfl (mv (ii a3) rfl) <|
  E rfl (e2 bin_lss rfl rfl) <|
  E rfl (sg (.bool (decide (z121 < a3))) rfl) <|
  WL.nil ?_
 obtain ⟨z126, hz126, H⟩ := bindE H
 refine WC.cut (fun ρ_ w_ => ∃ (o_ : Tags), Fm o0 w0 o_ w_ [2] ∧ Own (Rep.int .i64) 3 41 o_ w_ v117 z113.2.1 ∧ Own (Rep.int .i64) 3 42 o_ w_ v119 z113.2.2 ∧ Bd 69 5 2 o_ w_ pb0 z126 ∧ Bk o_ w_ 3 pb1 [pv1_0, .map (some pb1_1)] 28 ∧ Own T_api_Node.rep 61 4 o_ w_ pv1_0 a1.f_rows ∧ Mp (fun x_ : T_api_Node => Value.agg #[ii x_.f_Kind, encS x_.f_Name, ii x_.f_L, ii x_.f_R]) (fun v_ : Int => ii v_) 5 o_ w_ pb1_1 a1_1 ∧ ρ_ 0 = pp pb0 0 ∧ ρ_ 1 = pp pb1 0 ∧ ρ_ 10 = encS z113.1 ∧ ρ_ 11 = v117 ∧ ρ_ 12 = v119 ∧ ρ_ 13 = .bool (decide (z121 < a3))) ?case127 ?_
 case case127 =>
  rintro ρ130 w128 ⟨o129, HF, hO118, hO120, hB130, hB1, hO1_0, hM1_1, s0_124, s1_124, s10_124, s11_124, s12_124, s13_124⟩
  obtain ⟨z132, hz132, H⟩ := bindE H
  refine WC.cut (fun ρ_ w_ => ∃ (o_ : Tags), Fm o0 w0 o_ w_ [2] ∧ Own (Rep.int .i64) 3 41 o_ w_ v117 z113.2.1 ∧ Own (Rep.int .i64) 3 42 o_ w_ v119 z113.2.2 ∧ Bd 69 5 2 o_ w_ pb0 z132 ∧ Bk o_ w_ 3 pb1 [pv1_0, .map (some pb1_1)] 28 ∧ Own T_api_Node.rep 61 4 o_ w_ pv1_0 a1.f_rows ∧ Mp (fun x_ : T_api_Node => Value.agg #[ii x_.f_Kind, encS x_.f_Name, ii x_.f_L, ii x_.f_R]) (fun v_ : Int => ii v_) 5 o_ w_ pb1_1 a1_1 ∧ ρ_ 0 = pp pb0 0 ∧ ρ_ 1 = pp pb1 0 ∧ ρ_ 10 = encS z113.1 ∧ ρ_ 11 = v117 ∧ ρ_ 12 = v119 ∧ ρ_ 13 = .bool (decide (z121 < a3))) ?case133 ?_
  case case133 =>
   rintro ρ136 w134 ⟨o135, HF, hO118, hO120, hB139, hB1, hO1_0, hM1_1, s0_130, s1_130, s10_130, s11_130, s12_130, s13_130⟩
   refine WC.seq <|
    WC.seq <|
    WC.region <|
    E rfl (mv v117 s11_130) ?_
   obtain ⟨A137, c138, q139⟩ := hO118.slice
   refine E rfl (ex_len_slice ((show _ = (v117 : Value) from rfl).trans q139) U79) <|
    E rfl (mv (ii 0) rfl) <|
    WL.nil ?_
   obtain ⟨z143, hz143, H⟩ := bindE H
   refine WC.for (fun k_ ρ_ w_ => ∃ (o_ : Tags) (x140 : Int) (x141 : (List UInt8)), Fm o0 w0 o_ w_ [2] ∧ Own (Rep.int .i64) 3 42 o_ w_ v119 z113.2.2 ∧ Own (Rep.int .i64) 3 41 o_ w_ v117 z113.2.1 ∧ Bd 69 5 2 o_ w_ pb0 x141 ∧ Bk o_ w_ 3 pb1 [pv1_0, .map (some pb1_1)] 28 ∧ Own T_api_Node.rep 61 4 o_ w_ pv1_0 a1.f_rows ∧ Mp (fun x_ : T_api_Node => Value.agg #[ii x_.f_Kind, encS x_.f_Name, ii x_.f_L, ii x_.f_R]) (fun v_ : Int => ii v_) 5 o_ w_ pb1_1 a1_1 ∧ ρ_ 0 = pp pb0 0 ∧ ρ_ 1 = pp pb1 0 ∧ ρ_ 10 = encS z113.1 ∧ ρ_ 12 = v119 ∧ ρ_ 13 = .bool (decide (z121 < a3)) ∧ ρ_ 43 = v117 ∧ ρ_ 44 = ii (z113.2.1.length : Int) ∧ ρ_ 45 = ii x140 ∧ syntax_write.l1 k a1 a1_1 R z113 k_ x140 x141 = some z143) k (fun ρ_ w_ => ∃ (o_ : Tags), Fm o0 w0 o_ w_ [2] ∧ Bd 69 5 2 o_ w_ pb0 z143 ∧ Bk o_ w_ 3 pb1 [pv1_0, .map (some pb1_1)] 28 ∧ Own T_api_Node.rep 61 4 o_ w_ pv1_0 a1.f_rows ∧ Mp (fun x_ : T_api_Node => Value.agg #[ii x_.f_Kind, encS x_.f_Name, ii x_.f_L, ii x_.f_R]) (fun v_ : Int => ii v_) 5 o_ w_ pb1_1 a1_1 ∧ ρ_ 0 = pp pb0 0 ∧ ρ_ 13 = .bool (decide (z121 < a3))) ⟨_, 0, z132, HF, hO120, hO118, hB139, hB1, hO1_0, hM1_1, s0_130, s1_130, s10_130, s12_130, s13_130, rfl, rfl, rfl, hz143⟩ ?case144 ?_
   case case144 =>
    rintro ρ189 w190 ⟨o191, HF, hB139, hB1, hO1_0, hM1_1, s0_141, s13_141⟩
    refine WC.seq <|
     WC.region <|
     E rfl (mv (.bool (decide (z121 < a3))) s13_141) <|
     WL.nil ?_
    rcases condE H with ⟨c192, H⟩ | ⟨c192, H⟩
    ·
     refine WC.cond_t (vb c192 rfl) <|
      WC.region <|
      E rfl (mv (pp pb0 0) s0_141) ?_
     obtain ⟨z193, hz193, H⟩ := bindE H
     refine WL.op rfl <|
      OW.call [pp pb0 0, enc8 (41 : UInt8)] rfl Tryd.func37 (by kernel_rfl) (by kernel_rfl) (map_cons' rfl (map_cons' rfl rfl)) (Builder_WriteByte.calls _ _ pb0 z143 (41 : UInt8) z193 (HF.ten (V := [0]) (L := [2]) rfl) (Bd.vw hB139 rfl rfl) hz193) ?_
     rintro _ w194 ⟨o195, rfl, s196, hB197⟩
     refine ⟨_, rfl, ?_⟩
     replace hB197 := Bd.unO (J := []) 0 hB197 s196 rfl rfl rfl
     replace s196 := un_stepL (J := []) (L' := [2]) s196 rfl rfl
     replace hB1 := hB1.step s196 rfl
     replace hO1_0 := hO1_0.step s196 rfl rfl
     replace hM1_1 := hM1_1.step s196 rfl
     replace HF := HF.step s196 rfl
     refine WL.nil ?_
     obtain rfl := Option.some.inj H
     exact ⟨_, .nil, _, rfl, HF.out, hB197⟩
    ·
     refine WC.cond_f (vb c192 rfl) <|
      WC.skip ?_
     obtain rfl := Option.some.inj H
     exact ⟨_, .nil, _, rfl, HF.out, hB139⟩
   have Ho145 := H
   rintro k146 ρ147 w148 ⟨o149, x140, x141, HF, hO120, hO118, hB139, hB1, hO1_0, hM1_1, s0_139, s1_139, s10_139, s12_139, s13_139, s43_139, s44_139, s45_140, H⟩
   cases k146 with
   | zero => cases H
   | succ k146 =>
   rw [syntax_write.l1.eq_2] at H
   refine WC.seq <|
    WC.region <|
    E rfl (e2 bin_lss s45_140 s44_139) <|
    WL.nil <|
    WC.seq ?_
   rcases condE H with ⟨c150, H⟩ | ⟨c150, H⟩
   ·
    refine WC.cond_t (vb c150 rfl) <|
     WC.skip <|
     WC.seq <|
     WC.block <|
     WC.seq <|
     WC.region <|
     E rfl (mv (ii x140) s45_140) ?_
    obtain ⟨x151, hx151, H⟩ := bindE H
    obtain ⟨A156, c157, q158_⟩ := hO118.slice
    obtain ⟨ad152, e153, g154, g155, cell159⟩ := Row.ixS (Own.rowOf hO118 q158_) hx151
    refine E rfl (ex_indexAddr (i := x140) ((show _ = (v117 : Value) from s43_139).trans q158_) e153 s45_140 U79 sz3 g154 g155) <|
     E rfl (ex_load1 (v := ii x151) rfl U3 rfl cell159) <|
     E rfl (sg (ii x140) rfl) <|
     E rfl (sg (ii x151) rfl) <|
     WL.nil ?_
    obtain ⟨z162, hz162, H⟩ := bindE H
    refine WC.cut (fun ρ_ w_ => ∃ (o_ : Tags), Fm o0 w0 o_ w_ [2] ∧ Own (Rep.int .i64) 3 42 o_ w_ v119 z113.2.2 ∧ Own (Rep.int .i64) 3 41 o_ w_ v117 z113.2.1 ∧ Bd 69 5 2 o_ w_ pb0 z162 ∧ Bk o_ w_ 3 pb1 [pv1_0, .map (some pb1_1)] 28 ∧ Own T_api_Node.rep 61 4 o_ w_ pv1_0 a1.f_rows ∧ Mp (fun x_ : T_api_Node => Value.agg #[ii x_.f_Kind, encS x_.f_Name, ii x_.f_L, ii x_.f_R]) (fun v_ : Int => ii v_) 5 o_ w_ pb1_1 a1_1 ∧ ρ_ 0 = pp pb0 0 ∧ ρ_ 1 = pp pb1 0 ∧ ρ_ 10 = encS z113.1 ∧ ρ_ 12 = v119 ∧ ρ_ 13 = .bool (decide (z121 < a3)) ∧ ρ_ 14 = ii x140 ∧ ρ_ 15 = ii x151 ∧ ρ_ 43 = v117 ∧ ρ_ 44 = ii (z113.2.1.length : Int) ∧ ρ_ 45 = ii x140) ?case163 ?_
    case case163 =>
     rintro ρ166 w164 ⟨o165, HF, hO120, hO118, hB166, hB1, hO1_0, hM1_1, s0_160, s1_160, s10_160, s12_160, s13_160, s14_160, s15_160, s43_160, s44_160, s45_160⟩
     refine WC.region <|
      E rfl (mv (pp pb0 0) s0_160) <|
      E rfl (mv (pp pb1 0) s1_160) <|
      E rfl (mv (ii x151) s15_160) <|
      E rfl (mv v119 s12_160) <|
      E rfl (mv (ii x140) s14_160) ?_
     obtain ⟨x167, hx167, H⟩ := bindE H
     obtain ⟨A172, c173, q174_⟩ := hO120.slice
     obtain ⟨ad168, e169, g170, g171, cell175⟩ := Row.ixS (Own.rowOf hO120 q174_) hx167
     refine E rfl (ex_indexAddr (i := x140) ((show _ = (v119 : Value) from rfl).trans q174_) e169 rfl U79 sz3 g170 g171) <|
      E rfl (ex_load1 (v := ii x167) rfl U3 rfl cell175) ?_
     obtain ⟨z177, hz177, H⟩ := bindE H
     refine WL.op rfl <|
      OW.call [pp pb0 0, pp pb1 0, ii x151, ii x167] rfl Tryd.func24 (by kernel_rfl) (by kernel_rfl) (map_cons' rfl (map_cons' rfl (map_cons' rfl (map_cons' rfl rfl)))) (hR.syntax_write _ _ pb0 pb1 pv1_0 pb1_1 z162 a1 x151 x167 a1_1 z177 (HF.ten (V := [0]) (L := [2, 3, 4, 5]) rfl) (Bd.vw hB166 rfl rfl) (Bk.vw hB1 rfl) (Own.vw hO1_0 rfl rfl) (Mp.vw hM1_1 rfl) hz177) ?_
     rintro _ w178 ⟨o179, rfl, s180, hB181⟩
     refine ⟨_, rfl, ?_⟩
     replace hB181 := Bd.unO (J := []) 0 hB181 s180 rfl rfl rfl
     replace s180 := un_stepL (J := []) (L' := [2]) s180 rfl rfl
     replace hO120 := hO120.step s180 rfl rfl
     replace hO118 := hO118.step s180 rfl rfl
     replace hB1 := hB1.step s180 rfl
     replace hO1_0 := hO1_0.step s180 rfl rfl
     replace hM1_1 := hM1_1.step s180 rfl
     replace HF := HF.step s180 rfl
     refine WL.nil <|
      WC.region <|
      E rfl (e2 bin_add64 s45_160 rfl) <|
      E rfl (mv (ii (wrap64 (x140 + 1))) rfl) <|
      WL.nil ?_
     exact ⟨k146, Nat.lt_succ_self _, ⟨_, wrap64 (x140 + 1), z177, HF, hO120, hO118, hB181, hB1, hO1_0, hM1_1, s0_160, s1_160, s10_160, s12_160, s13_160, s43_160, s44_160, rfl, H⟩⟩
    have Ho182 := H
    replace H := hz162
    refine WC.seq <|
     WC.region <|
     E rfl (mv (ii x140) rfl) <|
     E rfl (e2 bin_eql rfl rfl) <|
     WL.nil ?_
    rcases condE H with ⟨c183, H⟩ | ⟨c183, H⟩
    ·
     refine WC.cond_t (vb c183 rfl) <|
      WC.region <|
      E rfl (mv (pp pb0 0) s0_139) <|
      E rfl (mv (encS z113.1) s10_139) ?_
     obtain ⟨z184, hz184, H⟩ := bindE H
     refine WL.op rfl <|
      OW.call [pp pb0 0, encS z113.1] rfl Tryd.func38 (by kernel_rfl) (by kernel_rfl) (map_cons' rfl (map_cons' rfl rfl)) (Builder_WriteString.calls _ _ pb0 x141 z113.1 z184 (HF.ten (V := [0]) (L := [2]) rfl) (Bd.vw hB139 rfl rfl) hz184) ?_
     rintro _ w185 ⟨o186, rfl, s187, hB188⟩
     refine ⟨_, rfl, ?_⟩
     replace hB188 := Bd.unO (J := []) 0 hB188 s187 rfl rfl rfl
     replace s187 := un_stepL (J := []) (L' := [2]) s187 rfl rfl
     replace hO120 := hO120.step s187 rfl rfl
     replace hO118 := hO118.step s187 rfl rfl
     replace hB1 := hB1.step s187 rfl
     replace hO1_0 := hO1_0.step s187 rfl rfl
     replace hM1_1 := hM1_1.step s187 rfl
     replace HF := HF.step s187 rfl
     refine WL.nil ?_
     obtain rfl := Option.some.inj H
     exact ⟨_, HF, hO120, hO118, hB188, hB1, hO1_0, hM1_1, s0_139, s1_139, s10_139, s12_139, s13_139, rfl, rfl, s43_139, s44_139, s45_140⟩
    ·
     refine WC.cond_f (vb c183 rfl) <|
      WC.skip ?_
     obtain rfl := Option.some.inj H
     exact ⟨_, HF, hO120, hO118, hB139, hB1, hO1_0, hM1_1, s0_139, s1_139, s10_139, s12_139, s13_139, rfl, rfl, s43_139, s44_139, s45_140⟩
   ·
    refine WC.cond_f (vb c150 rfl) <|
     WC.exit ?_
    obtain rfl := Option.some.inj H
    exact ⟨_, HF, hB139, hB1, hO1_0, hM1_1, s0_139, s13_139⟩
  have Ho198 := H
  replace H := hz132
  refine WC.seq <|
   WC.region <|
   E rfl (mv v117 s11_124) ?_
  obtain ⟨A199, c200, q201⟩ := hO118.slice
  refine E rfl (ex_len_slice ((show _ = (v117 : Value) from rfl).trans q201) U79) <|
   E rfl (e2 bin_neq rfl rfl) <|
   WL.nil ?_
  rcases condE H with ⟨c202, H⟩ | ⟨c202, H⟩
  ·
   refine WC.cond_t (vb c202 rfl) <|
    WC.region <|
    E rfl (mv (pp pb0 0) s0_124) <|
    E rfl (mv (encS z113.1) s10_124) ?_
   obtain ⟨z203, hz203, H⟩ := bindE H
   refine WL.op rfl <|
    OW.call [pp pb0 0, encS z113.1] rfl Tryd.func38 (by kernel_rfl) (by kernel_rfl) (map_cons' rfl (map_cons' rfl rfl)) (Builder_WriteString.calls _ _ pb0 z126 z113.1 z203 (HF.ten (V := [0]) (L := [2]) rfl) (Bd.vw hB130 rfl rfl) hz203) ?_
   rintro _ w204 ⟨o205, rfl, s206, hB207⟩
   refine ⟨_, rfl, ?_⟩
   replace hB207 := Bd.unO (J := []) 0 hB207 s206 rfl rfl rfl
   replace s206 := un_stepL (J := []) (L' := [2]) s206 rfl rfl
   replace hO118 := hO118.step s206 rfl rfl
   replace hO120 := hO120.step s206 rfl rfl
   replace hB1 := hB1.step s206 rfl
   replace hO1_0 := hO1_0.step s206 rfl rfl
   replace hM1_1 := hM1_1.step s206 rfl
   replace HF := HF.step s206 rfl
   refine WL.nil ?_
   obtain rfl := Option.some.inj H
   exact ⟨_, HF, hO118, hO120, hB207, hB1, hO1_0, hM1_1, s0_124, s1_124, s10_124, s11_124, s12_124, s13_124⟩
  ·
   refine WC.cond_f (vb c202 rfl) <|
    WC.skip ?_
   obtain rfl := Option.some.inj H
   exact ⟨_, HF, hO118, hO120, hB130, hB1, hO1_0, hM1_1, s0_124, s1_124, s10_124, s11_124, s12_124, s13_124⟩
 have Ho208 := H
 replace H := hz126
 refine WC.seq <|
  WC.region <|
  E rfl (mv (.bool (decide (z121 < a3))) rfl) <|
  WL.nil ?_
 rcases condE H with ⟨c209, H⟩ | ⟨c209, H⟩
 ·
  refine WC.cond_t (vb c209 rfl) <|
   WC.region <|
   E rfl (mv (pp pb0 0) rfl) ?_
  obtain ⟨z210, hz210, H⟩ := bindE H
  refine WL.op rfl <|
   OW.call [pp pb0 0, enc8 (40 : UInt8)] rfl Tryd.func37 (by kernel_rfl) (by kernel_rfl) (map_cons' rfl (map_cons' rfl rfl)) (Builder_WriteByte.calls _ _ pb0 a0 (40 : UInt8) z210 (HF.ten (V := [0]) (L := [2]) rfl) (Bd.vw hB0 rfl rfl) hz210) ?_
  rintro _ w211 ⟨o212, rfl, s213, hB214⟩
  refine ⟨_, rfl, ?_⟩
  replace hB214 := Bd.unO (J := []) 0 hB214 s213 rfl rfl rfl
  replace s213 := un_stepL (J := []) (L' := [2]) s213 rfl rfl
  replace hO1_0 := hO1_0.step s213 rfl rfl
  replace hB1 := hB1.step s213 rfl
  replace hM1_1 := hM1_1.step s213 rfl
  replace hB112 := hB112.step s213 rfl
  replace hO118 := hO118.step s213 rfl rfl
  replace hO120 := hO120.step s213 rfl rfl
  replace HF := HF.step s213 rfl
  refine WL.nil ?_
  obtain rfl := Option.some.inj H
  exact ⟨_, HF, hO118, hO120, hB214, hB1, hO1_0, hM1_1, rfl, rfl, rfl, rfl, rfl, rfl⟩
 ·
  refine WC.cond_f (vb c209 rfl) <|
   WC.skip ?_
  obtain rfl := Option.some.inj H
  exact ⟨_, HF, hO118, hO120, hB0, hB1, hO1_0, hM1_1, rfl, rfl, rfl, rfl, rfl, rfl⟩

theorem G_syntax_write.ok (k : Nat) : ∀ n, G_syntax_write.OK (G_syntax_write.rec_ k n)
 | 0 => ⟨(fun o0 w0 pb0 pb1 pv1_0 pb1_1 a0 a1 a2 a3 a1_1 r hO hB0 hB1 hO1_0 hM1_1 H => (nomatch (show (none : Option ((List UInt8))) = some r from H)))⟩
 | n + 1 => ⟨(fun o0 w0 pb0 pb1 pv1_0 pb1_1 a0 a1 a2 a3 a1_1 r hO hB0 hB1 hO1_0 hM1_1 H => syntax_write.callsF k (G_syntax_write.rec_ k n) (G_syntax_write.ok k n) o0 w0 pb0 pb1 pv1_0 pb1_1 a0 a1 a2 a3 a1_1 r hO hB0 hB1 hO1_0 hM1_1 H)⟩
theorem syntax_write.calls (k : Nat) (o0 : Tags) (w0 : World) (pb0 : Nat) (pb1 : Nat) (pv1_0 : Value) (pb1_1 : Nat) (a0 : (List UInt8)) (a1 : T_formula_Table) (a2 : Int) (a3 : Int) (a1_1 : (List (T_api_Node × Int))) (r : (List UInt8)) (hO : ∀ b, b < w0.heap.size → o0 b < 40) (hB0 : Bd 69 5 2 o0 w0 pb0 a0) (hB1 : Bk o0 w0 3 pb1 [pv1_0, .map (some pb1_1)] 28) (hO1_0 : Own T_api_Node.rep 61 4 o0 w0 pv1_0 a1.f_rows) (hM1_1 : Mp (fun x_ : T_api_Node => Value.agg #[ii x_.f_Kind, encS x_.f_Name, ii x_.f_L, ii x_.f_R]) (fun v_ : Int => ii v_) 5 o0 w0 pb1_1 a1_1) (H : syntax_write.f k a0 a1 a2 a3 a1_1 = some r) :
  Calls Tryd.prog 24 [pp pb0 0, pp pb1 0, ii a2, ii a3].toArray w0 fun e_ w_ => ∃ (o_ : Tags), e_ = .returned (one []) ∧ Step o0 w0 o_ w_ [2] ∧ Bd 69 5 2 o_ w_ pb0 r :=
 (G_syntax_write.ok k k).syntax_write o0 w0 pb0 pb1 pv1_0 pb1_1 a0 a1 a2 a3 a1_1 r hO hB0 hB1 hO1_0 hM1_1 H


/-! ### (*strings.Builder).String -/
theorem unsafe_string (i : Nat) (o : Tags) (w : World) (A : Option Addr) (xs : List UInt8) (c : Nat) (p : Option Addr) (hO : Own Rep.u8 5 i o w (.slice A xs.length c) xs) (hp : xs ≠ [] → p = A) (hl : xs.length ≤ 9223372036854775807) :
    ∃ w', (Builtin.unsafeString_ #[88, 3] 9 #[.pointer p, .int .i64 xs.length]).run Tryd.prog w = .ok (encS xs) w' ∧ Step o w o w' [i] := by
  by_cases h0 : xs = []
  · subst h0
    exact ⟨w, by have := Lib.run_unsafeString_none (P := Tryd.prog) w 88 3 9 p; rw [List.length_nil]; rw [show ((0 : Nat) : Int) = 0 from rfl, this]; rfl, Step.refl _ _ _⟩
  · obtain rfl := hp h0
    obtain ⟨cells, hown, ht, hm⟩ := hO
    rcases hown.2 with ⟨_, hz⟩ | ⟨g, cap, cur, hv, _, hg, hn, hcm, hcs, htake⟩
    · exact absurd (List.eq_nil_of_length_eq_zero hz) h0
    · injection hv with e1 _ e3
      subst e1
      have hcz : cur.size = cap := by rw [hcs]; exact Nat.mul_one cap
      refine ⟨w.freeze ⟨g, 0, none⟩ xs.length, ?_, step_freeze (ht g rfl)⟩
      refine Lib.run_unsafeString_row (P := Tryd.prog) w 88 3 9 5 Tryd.underlying88 (by kernel_rfl) g cur.size (by simp [World.shape?, hg]) xs h0 (by omega) hl ?_
      intro j x hx
      have hcell := World.ownsRow.cells hown (g := g) rfl j (enc8 x)
      have hcs' : cells = xs.map enc8 := many_scalar hm
      rw [hcs'] at hcell
      exact hcell (by simp [hx])
theorem Builder_String.calls (o0 : Tags) (w0 : World) (b : Nat) (a0 : List UInt8) (r : List UInt8) (hO : ∀ b, b < w0.heap.size → o0 b < 40) (hB0 : Bd 69 5 2 o0 w0 b a0) (H : Builder_String.f a0 = some r) :
    Calls Tryd.prog 25 [.pointer (some ⟨b, 0, none⟩)].toArray w0 fun e_ w_ => ∃ (o_ : Tags), e_ = .returned (one [encS r]) ∧ Step o0 w0 o_ w_ [2] := by
  unfold Builder_String.f at H
  obtain ⟨u, hu, H⟩ := bindE H
  obtain rfl := Option.some.inj H
  have hl : a0.length ≤ 9223372036854775807 := of_decide_eq_true (chk_true hu)
  obtain ⟨p, v, hB0', hp, hO1⟩ := hB0
  have hb := hB0'.heap
  have hn := hO1.notin hb rfl
  have h0 : o0 b ≠ 0 := by rw [hB0'.tag]; decide
  have hO2 : Own Rep.u8 5 2 (apart1 o0 b) w0 v a0 := hO1.apart hn h0
  have HF := Fm.here2 (apart1 o0 b) w0
  have hB : Bk (apart1 o0 b) w0 41 b [p, v] 69 := ⟨apart1_same o0 b, hb⟩
  refine SX.calls [.pointer (some ⟨b, 0, none⟩)] Tryd.func25 rfl rfl ?_
  rw [Tryd.ntmps25]
  refine WC.seq ?_
  refine WC.region ?_
  refine WL.ex rfl (ex_assign (v := encS []) rfl) ?_
  refine WL.nil ?_
  refine WC.seq ?_
  refine WC.regionD' HF [2] 12 12 (by kernel_rfl) rfl ?_
  intro w1 s1
  replace hO2 := hO2.step s1 rfl rfl
  replace hB := hB.step s1 rfl
  replace HF := HF.step s1 rfl
  have hBD := hB
  have sR := HF.here [2]
  obtain ⟨A, c, e, hlc, hr⟩ := hO2.row
  subst e
  refine WA.ex 0 rfl (by kernel_rfl) (by kernel_rfl) (by kernel_rfl) rfl ⟨_, sR⟩ (fun w_ hS_ => ex_move (v := .pointer (some ⟨b, 0, none⟩)) rfl) ?_
  refine WA.ex 1 rfl (by kernel_rfl) (by kernel_rfl) (by kernel_rfl) rfl ⟨_, sR⟩ (fun w_ hS_ => ex_nilCheck rfl) ?_
  refine WA.ex 2 rfl (by kernel_rfl) (by kernel_rfl) (by kernel_rfl) rfl ⟨_, sR⟩ (fun w_ hS_ => ex_fieldAddr (k := 0) rfl Tryd.underlying69 rfl (by kernel_rfl)) ?_
  refine WA.ex 3 rfl (by kernel_rfl) (by kernel_rfl) (by kernel_rfl) rfl ⟨_, sR⟩ (fun w_ hS_ => ex_load1 (v := .slice A a0.length c) rfl Tryd.underlying67 rfl ((hBD.step hS_.choose_spec rfl).cell rfl)) ?_
  refine WA.ex 5 rfl (by kernel_rfl) (by kernel_rfl) (by kernel_rfl) rfl ⟨_, sR⟩ (fun w_ hS_ => ex_move (v := .pointer (some ⟨b, 0, none⟩)) rfl) ?_
  refine WA.ex 6 rfl (by kernel_rfl) (by kernel_rfl) (by kernel_rfl) rfl ⟨_, sR⟩ (fun w_ hS_ => ex_nilCheck rfl) ?_
  refine WA.ex 7 rfl (by kernel_rfl) (by kernel_rfl) (by kernel_rfl) rfl ⟨_, sR⟩ (fun w_ hS_ => ex_fieldAddr (k := 0) rfl Tryd.underlying69 rfl (by kernel_rfl)) ?_
  refine WA.ex 8 rfl (by kernel_rfl) (by kernel_rfl) (by kernel_rfl) rfl ⟨_, sR⟩ (fun w_ hS_ => ex_load1 (v := .slice A a0.length c) rfl Tryd.underlying67 rfl ((hBD.step hS_.choose_spec rfl).cell rfl)) ?_
  refine WA.ex 9 rfl (by kernel_rfl) (by kernel_rfl) (by kernel_rfl) rfl ⟨_, sR⟩ (fun w_ hS_ => ex_len_slice (A := A) (m := a0.length) (c := c) rfl Tryd.underlying67) ?_
  have hdata : ∃ q w2 o2, (Builtin.unsafeSliceData_ #[67] 88 #[.slice A a0.length c]).run Tryd.prog w1 = .ok (.pointer q) w2 ∧ Step (apart1 o0 b) w1 o2 w2 [] ∧ (a0 ≠ [] → q = A) := by
    cases A with
    | none => exact ⟨none, w1, _, Lib.run_unsafeSliceData_nil w1 _ _ _ _, Step.refl _ _ _, fun _ => rfl⟩
    | some ad =>
      by_cases hc : c = 0
      · subst hc
        obtain ⟨cells, hown, ht, hm⟩ := hO2
        rcases hown.2 with ⟨hz, _⟩ | ⟨g, cap, cur, hv, _, hg, _⟩
        · cases hz
        · injection hv with e1 _ e3
          injection e1 with e1
          subst e1
          exact ⟨_, _, _, Lib.run_unsafeSliceData_zero (P := Tryd.prog) w1 #[67] 88 5 Tryd.underlying88 ⟨g, 0, none⟩ a0.length (5, cur.size) (by simp [World.shape?, hg]), step_alloc (apart1 o0 b) w1 1 _ [], fun h => absurd (List.eq_nil_of_length_eq_zero (by omega)) h⟩
      · exact ⟨some ad, w1, _, Lib.run_unsafeSliceData_row w1 _ _ ad _ _ hc, Step.refl _ _ _, fun _ => rfl⟩
  obtain ⟨q, w2, o2, hr2, s2, hq⟩ := hdata
  refine WA.one 4 (by kernel_rfl) rfl rfl ?_
  refine OW.val (v := .pointer q) (w' := w2) rfl (run_usd (v := .slice A a0.length c) rfl hr2) ?_
  replace sR := Step.trans sR s2 (M := [2]) rfl rfl
  replace hO2 := hO2.step s2 rfl rfl
  refine ⟨⟨_, sR⟩, ?_⟩
  obtain ⟨w3, hr3, s3⟩ := unsafe_string 2 o2 w2 A a0 c q hO2 hq hl
  refine WA.one 10 (by kernel_rfl) rfl rfl ?_
  refine OW.val (v := encS a0) (w' := w3) rfl (run_us (v := .pointer q) (u := .int .i64 (a0.length : Int)) rfl rfl hr3) ?_
  replace sR := Step.trans sR s3 (M := [2]) rfl rfl
  refine ⟨⟨_, sR⟩, ?_⟩
  refine WA.one 11 (by kernel_rfl) rfl rfl ?_
  refine OW.ex rfl (ex_assign (v := encS a0) rfl) ?_
  refine ⟨⟨_, sR⟩, ?_⟩
  refine WA.done (by kernel_rfl) ?_
  refine WC.ret ?_
  exact ⟨_, .tmp (encS a0) rfl .nil, _, rfl, apart_step hO hB0'.tag (Step.trans s1 sR (M := [41, 2]) rfl rfl) rfl⟩

/-! ### syntax_Print -/
set_option maxRecDepth 100000 in
theorem syntax_Print.calls (k : Nat) (o0 : Tags) (w0 : World) (pb0 : Nat) (pv0_0 : Value) (pb0_1 : Nat) (a0 : T_formula_Table) (a1 : Int) (a0_1 : (List (T_api_Node × Int))) (r : (List UInt8) × Int) (hO : ∀ b, b < w0.heap.size → o0 b < 40) (hB0 : Bk o0 w0 2 pb0 [pv0_0, .map (some pb0_1)] 28) (hO0_0 : Own T_api_Node.rep 61 3 o0 w0 pv0_0 a0.f_rows) (hM0_1 : Mp (fun x_ : T_api_Node => Value.agg #[ii x_.f_Kind, encS x_.f_Name, ii x_.f_L, ii x_.f_R]) (fun v_ : Int => ii v_) 4 o0 w0 pb0_1 a0_1) (H : syntax_Print.f k a0 a1 a0_1 = some r) :
  Calls Tryd.prog 8 [pp pb0 0, ii a1].toArray w0 fun e_ w_ => ∃ (o_ : Tags), e_ = .returned (one [encS r.1, ii r.2]) ∧ Step o0 w0 o_ w_ [] := by
 have HF := Fm.refl hO []
 unfold syntax_Print.f at H
 refine SX.calls [pp pb0 0, ii a1] Tryd.func8 rfl rfl ?_
 rw [Tryd.ntmps8]
 refine WC.seq <|
  WC.region <|
  E rfl (sg (encS ([] : List UInt8)) rfl) <|
  E rfl (sg (ii 0) rfl) <|
  WL.nil <|
  WC.seq <|
  WC.seq <|
  WC.region <|
  E rfl (mv (pp pb0 0) rfl) ?_
 obtain ⟨z101, hz101, H⟩ := bindE H
 refine WL.op rfl <|
  OW.call [pp pb0 0] rfl Tryd.func13 (by kernel_rfl) (by kernel_rfl) (map_cons' rfl rfl) (syntax_known.calls k _ _ pb0 pv0_0 pb0_1 a0 a0_1 z101 (HF.ten (V := [0]) (L := [2, 3, 4]) rfl) (Bk.vw hB0 rfl) (Own.vw hO0_0 rfl rfl) (Mp.vw hM0_1 rfl) hz101) ?_
 rintro _ w102 ⟨o103, rfl, s104⟩
 refine ⟨_, rfl, ?_⟩
 replace s104 := un_stepL (J := []) (L' := []) s104 rfl rfl
 replace hO0_0 := hO0_0.step s104 rfl rfl
 replace hB0 := hB0.step s104 rfl
 replace hM0_1 := hM0_1.step s104 rfl
 replace HF := HF.step s104 rfl
 refine E rfl (ex_not (b := z101) rfl) <|
  WL.nil ?_
 rcases condE H with ⟨c105, H⟩ | ⟨c105, H⟩
 ·
  refine WC.cond_t (vb c105 rfl) <|
   WC.seq <|
   WC.region <|
   E rfl (sg (encS ([] : List UInt8)) rfl) <|
   E rfl (sg (ii 1) rfl) <|
   WL.nil <|
   WC.ret ?_
  obtain rfl := Option.some.inj H
  exact ⟨_, (.tmp (encS ([] : List UInt8) : Value) rfl (.tmp (ii 1 : Value) rfl .nil)), _, rfl, HF.out⟩
 ·
  refine WC.cond_f (vb c105 rfl) <|
   WC.skip <|
   WC.seq <|
   WC.seq <|
   WC.region <|
   E rfl (mv (pp pb0 0) rfl) <|
   E rfl (mv (ii a1) rfl) ?_
  obtain ⟨z106, hz106, H⟩ := bindE H
  refine WL.op rfl <|
   OW.call [pp pb0 0, ii a1] rfl Tryd.func22 (by kernel_rfl) (by kernel_rfl) (map_cons' rfl (map_cons' rfl rfl)) (formula_Table_Node.calls _ _ pb0 pv0_0 pb0_1 a0 a1 a0_1 z106 (HF.ten (V := [0]) (L := [2, 3, 4]) rfl) (Bk.vw hB0 rfl) (Own.vw hO0_0 rfl rfl) (Mp.vw hM0_1 rfl) hz106) ?_
  rintro _ w107 ⟨o108, rfl, s109⟩
  refine ⟨_, rfl, ?_⟩
  replace s109 := un_stepL (J := []) (L' := []) s109 rfl rfl
  replace hO0_0 := hO0_0.step s109 rfl rfl
  replace hB0 := hB0.step s109 rfl
  replace hM0_1 := hM0_1.step s109 rfl
  replace HF := HF.step s109 rfl
  refine E rfl (mv (.tuple #[.agg #[ii z106.1.f_Kind, encS z106.1.f_Name, ii z106.1.f_L, ii z106.1.f_R], .bool z106.2]) rfl) <|
   E rfl (ex_extract rfl rfl) <|
   E rfl (ex_extract rfl rfl) <|
   WL.op rfl <|
   OW.alloc' [ii (0 : Int), encS ([] : List UInt8), ii (0 : Int), ii (0 : Int)] 40 HF rfl zr61 rfl ?_
  intro o111 w112 b110 s113 hB114
  replace hO0_0 := hO0_0.step s113 rfl rfl
  replace hB0 := hB0.step s113 rfl
  replace hM0_1 := hM0_1.step s113 rfl
  replace HF := HF.step s113 rfl
  refine WL.op rfl <|
   OW.storeW rfl rfl sz61 hB114 rfl (oa rfl) ?_
  intro w115 s116 hB117
  replace hO0_0 := hO0_0.step s116 rfl rfl
  replace hB0 := hB0.step s116 rfl
  replace hM0_1 := hM0_1.step s116 rfl
  replace HF := HF.step s116 rfl
  refine E rfl (sg (.bool z106.2) rfl) <|
   WL.nil <|
   WC.seq <|
   WC.region <|
   E rfl (mv (.bool z106.2) rfl) <|
   E rfl (ex_not (b := z106.2) rfl) <|
   WL.nil ?_
  rcases condE H with ⟨c118, H⟩ | ⟨c118, H⟩
  ·
   refine WC.cond_t (vb c118 rfl) <|
    WC.seq <|
    WC.region <|
    E rfl (sg (encS ([] : List UInt8)) rfl) <|
    E rfl (sg (ii 31) rfl) <|
    WL.nil <|
    WC.ret ?_
   obtain rfl := Option.some.inj H
   exact ⟨_, (.tmp (encS ([] : List UInt8) : Value) rfl (.tmp (ii 31 : Value) rfl .nil)), _, rfl, HF.out⟩
  ·
   refine WC.cond_f (vb c118 rfl) <|
    WC.skip <|
    WC.seq <|
    WC.seq <|
    WC.region <|
    E rfl (mv (pp pb0 0) rfl) <|
    E rfl (mv (ii a1) rfl) <|
    WL.op rfl <|
    OW.makeMap (fun n_ : Int => Value.int .i64 n_) (fun v_ : Int => ii v_) 41 HF rfl ?_
   intro o120 w121 b119 s122 hM123
   replace hO0_0 := hO0_0.step s122 rfl rfl
   replace hB0 := hB0.step s122 rfl
   replace hM0_1 := hM0_1.step s122 rfl
   replace hB117 := hB117.step s122 rfl
   replace HF := HF.step s122 rfl
   obtain ⟨z124, hz124, H⟩ := bindE H
   refine WL.op rfl <|
    OW.call [pp pb0 0, ii a1, .map (some b119)] rfl Tryd.func23 (by kernel_rfl) (by kernel_rfl) (map_cons' rfl (map_cons' rfl (map_cons' rfl rfl))) (syntax_width.calls k _ _ pb0 pv0_0 b119 pb0_1 a0 a1 ([] : (List (Int × Int))) a0_1 z124 (HF.ten (V := [0]) (L := [2, 3, 41, 4]) rfl) (Bk.vw hB0 rfl) (Own.vw hO0_0 rfl rfl) (Mp.vw hM123 rfl) (Mp.vw hM0_1 rfl) hz124) ?_
   rintro _ w125 ⟨o126, rfl, s127, hM128⟩
   refine ⟨_, rfl, ?_⟩
   replace hM128 := Mp.unO (J := []) 2 hM128 s127 rfl rfl rfl
   replace s127 := un_stepL (J := []) (L' := [41]) s127 rfl rfl
   replace hO0_0 := hO0_0.step s127 rfl rfl
   replace hB0 := hB0.step s127 rfl
   replace hM0_1 := hM0_1.step s127 rfl
   replace hB117 := hB117.step s127 rfl
   replace HF := HF.step s127 rfl
   refine E rfl (e2 bin_gtr rfl rfl) <|
    WL.nil ?_
   rcases condE H with ⟨c129, H⟩ | ⟨c129, H⟩
   ·
    refine WC.cond_t (vb c129 rfl) <|
     WC.seq <|
     WC.region <|
     E rfl (sg (encS ([] : List UInt8)) rfl) <|
     E rfl (sg (ii 11) rfl) <|
     WL.nil <|
     WC.ret ?_
    obtain rfl := Option.some.inj H
    exact ⟨_, (.tmp (encS ([] : List UInt8) : Value) rfl (.tmp (ii 11 : Value) rfl .nil)), _, rfl, HF.out⟩
   ·
    refine WC.cond_f (vb c129 rfl) <|
     WC.skip <|
     WC.seq <|
     WC.region <|
     WL.op rfl <|
     OW.allocFr 42 HF rfl (by kernel_rfl) ?_
    intro o131 w132 b130 s133 hB134 hl135
    replace hO0_0 := hO0_0.step s133 rfl rfl
    replace hB0 := hB0.step s133 rfl
    replace hM0_1 := hM0_1.step s133 rfl
    replace hB117 := hB117.step s133 rfl
    replace hM128 := hM128.step s133 rfl
    replace HF := HF.step s133 rfl
    refine WL.nil <|
     WC.seq <|
     WC.region <|
     E rfl (mv (pp pb0 0) rfl) <|
     E rfl (mv (ii a1) rfl) ?_
    have hB136 := Bd.fresh (E := 5) hB134
    obtain ⟨z137, hz137, H⟩ := bindE H
    refine WL.op rfl <|
     OW.call [pp b130 0, pp pb0 0, ii a1, ii 0] rfl Tryd.func24 (by kernel_rfl) (by kernel_rfl) (map_cons' rfl (map_cons' rfl (map_cons' rfl (map_cons' rfl rfl)))) (syntax_write.calls k _ _ b130 pb0 pv0_0 pb0_1 ([] : List UInt8) a0 a1 0 a0_1 z137 (HF.ten (V := [0]) (L := [42, 2, 3, 4]) rfl) (Bd.vw hB136 rfl rfl) (Bk.vw hB0 rfl) (Own.vw hO0_0 rfl rfl) (Mp.vw hM0_1 rfl) hz137) ?_
    rintro _ w138 ⟨o139, rfl, s140, hB141⟩
    refine ⟨_, rfl, ?_⟩
    replace hB141 := Bd.unO (J := []) 0 hB141 s140 rfl rfl rfl
    replace s140 := un_stepL (J := []) (L' := [42]) s140 rfl rfl
    replace hO0_0 := hO0_0.step s140 rfl rfl
    replace hB0 := hB0.step s140 rfl
    replace hM0_1 := hM0_1.step s140 rfl
    replace hB117 := hB117.step s140 rfl
    replace hM128 := hM128.step s140 rfl
    replace HF := HF.step s140 rfl
    refine WL.nil <|
     WC.seq <|
     WC.region ?_
    obtain ⟨z142, hz142, H⟩ := bindE H
    refine WL.op rfl <|
     OW.call [pp b130 0] rfl Tryd.func25 (by kernel_rfl) (by kernel_rfl) (map_cons' rfl rfl) (Builder_String.calls _ _ b130 z137 z142 (HF.ten (V := [0]) (L := [42]) rfl) (Bd.vw hB141 rfl rfl) hz142) ?_
    rintro _ w143 ⟨o144, rfl, s145⟩
    refine ⟨_, rfl, ?_⟩
    replace s145 := un_stepL (J := []) (L' := [42]) s145 rfl rfl
    replace hO0_0 := hO0_0.step s145 rfl rfl
    replace hB0 := hB0.step s145 rfl
    replace hM0_1 := hM0_1.step s145 rfl
    replace hB117 := hB117.step s145 rfl
    replace hM128 := hM128.step s145 rfl
    replace HF := HF.step s145 rfl
    refine E rfl (sg (encS z142) rfl) <|
     E rfl (sg (ii 0) rfl) <|
     WL.nil <|
     WC.ret ?_
    obtain rfl := Option.some.inj H
    exact ⟨_, (.tmp (encS z142 : Value) rfl (.tmp (ii 0 : Value) rfl .nil)), _, rfl, HF.out⟩

/-! ### syntax_Take_1 -/
set_option maxRecDepth 100000 in
theorem syntax_Take_1.calls (k : Nat) (o0 : Tags) (w0 : World) (pb0 : Nat) (pb1 : Nat) (pb0_0 : Nat) (pA0_0_1 : Option Addr) (pc0_0_1 : Nat) (pb0_0_0 : Nat) (pv0_0_0_0 : Value) (pb0_0_0_1 : Nat) (a1 : Int) (a0_0 : T_syntax_reader) (a0_0_0 : T_formula_Table) (a0_0_0_1 : (List (T_api_Node × Int))) (r : Exn (T_syntax_broken × Int × T_syntax_reader × T_formula_Table × (List (T_api_Node × Int))) (Int × T_syntax_reader × T_formula_Table × (List (T_api_Node × Int)))) (hO : ∀ b, b < w0.heap.size → o0 b < 40) (hB0 : Bk o0 w0 2 pb0 [pp pb0_0 0] 53) (hB1 : Bk o0 w0 3 pb1 [ii a1] 3) (hB0_0 : Bk o0 w0 4 pb0_0 [pp pb0_0_0 0, .slice pA0_0_1 a0_0.f_l.length pc0_0_1, ii a0_0.f_i, ii a0_0.f_names, ii a0_0.f_nest, .bool a0_0.f_counts, .bool a0_0.f_full] 55) (hra0_0_1 : Row T_api_Token.rep (fun b_ => o0 b_ = 0) (fun b_ => o0 b_ = 0) w0 pA0_0_1 a0_0.f_l) (hla0_0_1 : a0_0.f_l.length ≤ pc0_0_1) (hB0_0_0 : Bk o0 w0 5 pb0_0_0 [pv0_0_0_0, .map (some pb0_0_0_1)] 28) (hO0_0_0_0 : Own T_api_Node.rep 61 6 o0 w0 pv0_0_0_0 a0_0_0.f_rows) (hM0_0_0_1 : Mp (fun x_ : T_api_Node => Value.agg #[ii x_.f_Kind, encS x_.f_Name, ii x_.f_L, ii x_.f_R]) (fun v_ : Int => ii v_) 7 o0 w0 pb0_0_0_1 a0_0_0_1) (H : syntax_Take_1.f k a1 a0_0 a0_0_0 a0_0_0_1 = some r) :
  Calls Tryd.prog 21 [pp pb0 0, pp pb1 0].toArray w0 fun e_ w_ => ∃ (o_ : Tags), ((∃ p_, r = .ex p_ ∧ ∃ (B_2_1 : Option Addr) (d_2_1 : Nat) (u3_0 : Value), e_ = .panicked (pc (.iface 73 (.agg #[ii p_.1.f_f.f_Code, ii p_.1.f_f.f_At.f_Line, ii p_.1.f_f.f_At.f_Col, ii p_.1.f_f.f_At.f_Off]))) ∧ Step o0 w0 o_ w_ [3, 4, 5, 6, 7] ∧ Bk o_ w_ 3 pb1 [ii p_.2.1] 3 ∧ Bk o_ w_ 4 pb0_0 [pp pb0_0_0 0, .slice B_2_1 p_.2.2.1.f_l.length d_2_1, ii p_.2.2.1.f_i, ii p_.2.2.1.f_names, ii p_.2.2.1.f_nest, .bool p_.2.2.1.f_counts, .bool p_.2.2.1.f_full] 55 ∧ p_.2.2.1.f_l.length ≤ d_2_1 ∧ Row T_api_Token.rep (fun b_ => o_ b_ = 0) (fun b_ => o_ b_ = 0) w_ B_2_1 p_.2.2.1.f_l ∧ Bk o_ w_ 5 pb0_0_0 [u3_0, .map (some pb0_0_0_1)] 28 ∧ Own T_api_Node.rep 61 6 o_ w_ u3_0 p_.2.2.2.1.f_rows ∧ Mp (fun x_ : T_api_Node => Value.agg #[ii x_.f_Kind, encS x_.f_Name, ii x_.f_L, ii x_.f_R]) (fun v_ : Int => ii v_) 7 o_ w_ pb0_0_0_1 p_.2.2.2.2) ∨ ∃ q_, r = .ok q_ ∧ ∃ (B_2_1 : Option Addr) (d_2_1 : Nat) (u3_0 : Value), e_ = .returned (one []) ∧ Step o0 w0 o_ w_ [3, 4, 5, 6, 7] ∧ Bk o_ w_ 3 pb1 [ii q_.1] 3 ∧ Bk o_ w_ 4 pb0_0 [pp pb0_0_0 0, .slice B_2_1 q_.2.1.f_l.length d_2_1, ii q_.2.1.f_i, ii q_.2.1.f_names, ii q_.2.1.f_nest, .bool q_.2.1.f_counts, .bool q_.2.1.f_full] 55 ∧ q_.2.1.f_l.length ≤ d_2_1 ∧ Row T_api_Token.rep (fun b_ => o_ b_ = 0) (fun b_ => o_ b_ = 0) w_ B_2_1 q_.2.1.f_l ∧ Bk o_ w_ 5 pb0_0_0 [u3_0, .map (some pb0_0_0_1)] 28 ∧ Own T_api_Node.rep 61 6 o_ w_ u3_0 q_.2.2.1.f_rows ∧ Mp (fun x_ : T_api_Node => Value.agg #[ii x_.f_Kind, encS x_.f_Name, ii x_.f_L, ii x_.f_R]) (fun v_ : Int => ii v_) 7 o_ w_ pb0_0_0_1 q_.2.2.2) := by
 have HF := Fm.refl hO [3, 4, 5, 6, 7]
 unfold syntax_Take_1.f at H
 refine SX.calls [pp pb0 0, pp pb1 0] Tryd.func21 rfl rfl ?_
 rw [Tryd.ntmps21]
 refine WC.region <|
  E rfl (ex_load1 rfl U53 rfl (hB0.cell rfl)) ?_
 obtain ⟨z101, hz101, H⟩ := bindE H
 refine WL.op rfl <|
  OW.callP [pp pb0_0 0] rfl Tryd.func18 (by kernel_rfl) (by kernel_rfl) (map_cons' rfl rfl) (syntax_reader_formula.calls k _ _ pb0_0 pA0_0_1 pc0_0_1 pb0_0_0 pv0_0_0_0 pb0_0_0_1 a0_0 a0_0_0 a0_0_0_1 z101 (HF.ten (V := [0]) (L := [4, 5, 6, 7]) rfl) (Bk.vw hB0_0 rfl) (Row.vw hra0_0_1 rfl) hla0_0_1 (Bk.vw hB0_0_0 rfl) (Own.vw hO0_0_0_0 rfl rfl) (Mp.vw hM0_0_0_1 rfl) hz101) ?_
 rintro _ w102 ⟨o103, (⟨p104, rfl, A109, c110, v114, rfl, s106, hB108, hl111, hr112, hB113, hO115, hM116⟩ | ⟨q105, rfl, A118, c119, v123, rfl, s107, hB117, hl120, hr121, hB122, hO124, hM125⟩)⟩
 ·
  refine Or.inr ⟨_, rfl, ?_⟩
  dsimp only at H
  replace hB108 := Bk.unO (J := []) 0 hB108 s106 rfl rfl rfl
  replace hr112 := hr112.un (J := []) s106
  replace hB113 := Bk.unO (J := []) 1 hB113 s106 rfl rfl rfl
  replace hO115 := Own.unO (J := []) 2 hO115 s106 rfl rfl rfl
  replace hM116 := Mp.unO (J := []) 3 hM116 s106 rfl rfl rfl
  replace s106 := un_stepL (J := []) (L' := [4, 5, 6, 7]) s106 rfl rfl
  replace hB0 := hB0.step s106 rfl
  replace hB1 := hB1.step s106 rfl
  replace hra0_0_1 := hra0_0_1.step s106 rfl
  replace HF := HF.step s106 rfl
  obtain rfl := Option.some.inj H
  exact ⟨_, Or.inl ⟨_, rfl, A109, c110, v114, rfl, HF.out, hB1, hB108, hl111, hr112, hB113, hO115, hM116⟩⟩
 ·
  refine Or.inl ⟨_, rfl, ?_⟩
  dsimp only at H
  replace hB117 := Bk.unO (J := []) 0 hB117 s107 rfl rfl rfl
  replace hr121 := hr121.un (J := []) s107
  replace hB122 := Bk.unO (J := []) 1 hB122 s107 rfl rfl rfl
  replace hO124 := Own.unO (J := []) 2 hO124 s107 rfl rfl rfl
  replace hM125 := Mp.unO (J := []) 3 hM125 s107 rfl rfl rfl
  replace s107 := un_stepL (J := []) (L' := [4, 5, 6, 7]) s107 rfl rfl
  replace hB0 := hB0.step s107 rfl
  replace hB1 := hB1.step s107 rfl
  replace hra0_0_1 := hra0_0_1.step s107 rfl
  replace HF := HF.step s107 rfl
  refine WL.op rfl <|
   OW.storeW rfl rfl sz3 hB1 rfl (oa rfl) ?_
  intro w126 s127 hB128
  replace hB0 := hB0.step s127 rfl
  replace hra0_0_1 := hra0_0_1.step s127 rfl
  replace hB117 := hB117.step s127 rfl
  replace hr121 := hr121.step s127 rfl
  replace hB122 := hB122.step s127 rfl
  replace hO124 := hO124.step s127 rfl rfl
  replace hM125 := hM125.step s127 rfl
  replace HF := HF.step s127 rfl
  refine WL.nil ?_
  obtain rfl := Option.some.inj H
  exact ⟨_, .nil, _, Or.inr ⟨_, rfl, A118, c119, v123, rfl, HF.out, hB128, hB117, hl120, hr121, hB122, hO124, hM125⟩⟩

/-! ### syntax_reader_read_syntax_Take_1 -/
set_option maxRecDepth 100000 in
theorem syntax_reader_read_syntax_Take_1.calls (k : Nat) (o0 : Tags) (w0 : World) (pb0 : Nat) (pA0_1 : Option Addr) (pc0_1 : Nat) (pb0_0 : Nat) (pv0_0_0 : Value) (pb1_0 : Nat) (pb1_1 : Nat) (pb0_0_1 : Nat) (a0 : T_syntax_reader) (a0_0 : T_formula_Table) (a1_1 : Int) (a0_0_1 : (List (T_api_Node × Int))) (r : T_api_Fault × T_syntax_reader × T_formula_Table × Int × (List (T_api_Node × Int))) (hO : ∀ b, b < w0.heap.size → o0 b < 40) (hB0 : Bk o0 w0 2 pb0 [pp pb0_0 0, .slice pA0_1 a0.f_l.length pc0_1, ii a0.f_i, ii a0.f_names, ii a0.f_nest, .bool a0.f_counts, .bool a0.f_full] 55) (hra0_1 : Row T_api_Token.rep (fun b_ => o0 b_ = 0) (fun b_ => o0 b_ = 0) w0 pA0_1 a0.f_l) (hla0_1 : a0.f_l.length ≤ pc0_1) (hB0_0 : Bk o0 w0 3 pb0_0 [pv0_0_0, .map (some pb0_0_1)] 28) (hO0_0_0 : Own T_api_Node.rep 61 4 o0 w0 pv0_0_0 a0_0.f_rows) (hB1_0 : Bk o0 w0 5 pb1_0 [pp pb0 0] 53) (hB1_1 : Bk o0 w0 6 pb1_1 [ii a1_1] 3) (hM0_0_1 : Mp (fun x_ : T_api_Node => Value.agg #[ii x_.f_Kind, encS x_.f_Name, ii x_.f_L, ii x_.f_R]) (fun v_ : Int => ii v_) 7 o0 w0 pb0_0_1 a0_0_1) (H : syntax_reader_read_syntax_Take_1.f k a0 a0_0 a1_1 a0_0_1 = some r) :
  Calls Tryd.prog 16 [pp pb0 0, .func (.func 21) #[] #[pp pb1_0 0, pp pb1_1 0]].toArray w0 fun e_ w_ => ∃ (o_ : Tags) (B_0_1 : Option Addr) (d_0_1 : Nat) (u2_0 : Value), e_ = .returned (one [.agg #[ii r.1.f_Code, ii r.1.f_At.f_Line, ii r.1.f_At.f_Col, ii r.1.f_At.f_Off]]) ∧ Step o0 w0 o_ w_ [2, 3, 4, 6, 7] ∧ Bk o_ w_ 2 pb0 [pp pb0_0 0, .slice B_0_1 r.2.1.f_l.length d_0_1, ii r.2.1.f_i, ii r.2.1.f_names, ii r.2.1.f_nest, .bool r.2.1.f_counts, .bool r.2.1.f_full] 55 ∧ r.2.1.f_l.length ≤ d_0_1 ∧ Row T_api_Token.rep (fun b_ => o_ b_ = 0) (fun b_ => o_ b_ = 0) w_ B_0_1 r.2.1.f_l ∧ Bk o_ w_ 3 pb0_0 [u2_0, .map (some pb0_0_1)] 28 ∧ Own T_api_Node.rep 61 4 o_ w_ u2_0 r.2.2.1.f_rows ∧ Bk o_ w_ 6 pb1_1 [ii r.2.2.2.1] 3 ∧ Mp (fun x_ : T_api_Node => Value.agg #[ii x_.f_Kind, encS x_.f_Name, ii x_.f_L, ii x_.f_R]) (fun v_ : Int => ii v_) 7 o_ w_ pb0_0_1 r.2.2.2.2 := by
 have HF := Fm.refl hO [2, 3, 4, 6, 7]
 unfold syntax_reader_read_syntax_Take_1.f at H
 refine SX.callsD [pp pb0 0, .func (.func 21) #[] #[pp pb1_0 0, pp pb1_1 0]] Tryd.func16 rfl rfl ?_
 rw [Tryd.ntmps16]
 refine WC.seq <|
  WC.region <|
  WL.op rfl <|
  OW.box' [pp pb0 0] 40 HF rfl ((congrArg Value.cells (show ev _ _ = (pp pb0 0 : Value) from rfl)).trans rfl) ?_
 intro o102 w103 b101 s104 hB105
 replace hra0_1 := hra0_1.step s104 rfl
 replace hB0 := hB0.step s104 rfl
 replace hO0_0_0 := hO0_0_0.step s104 rfl rfl
 replace hB0_0 := hB0_0.step s104 rfl
 replace hB1_0 := hB1_0.step s104 rfl
 replace hB1_1 := hB1_1.step s104 rfl
 replace hM0_0_1 := hM0_0_1.step s104 rfl
 replace HF := HF.step s104 rfl
 refine WL.op rfl <|
  OW.alloc' [ii (0 : Int), ii (0 : Int), ii (0 : Int), ii (0 : Int)] 41 HF rfl zr35 rfl ?_
 intro o107 w108 b106 s109 hB110
 replace hra0_1 := hra0_1.step s109 rfl
 replace hB0 := hB0.step s109 rfl
 replace hO0_0_0 := hO0_0_0.step s109 rfl rfl
 replace hB0_0 := hB0_0.step s109 rfl
 replace hB1_0 := hB1_0.step s109 rfl
 replace hB1_1 := hB1_1.step s109 rfl
 replace hM0_0_1 := hM0_0_1.step s109 rfl
 replace hB105 := hB105.step s109 rfl
 replace HF := HF.step s109 rfl
 refine WL.nil <|
  WC.seq <|
  WC.region <|
  E rfl (ex_load1 rfl U53 rfl (hB105.cell rfl)) <|
  E rfl (ex_nilCheck rfl) <|
  E rfl (ex_fieldAddr rfl U55 rfl sz23) <|
  E rfl (ex_load1 rfl U23 rfl (hB0.cell rfl)) ?_
 obtain ⟨z111, hz111, H⟩ := bindE H
 refine WL.op rfl <|
  OW.call [pp pb0_0 0] rfl Tryd.func11 (by kernel_rfl) (by kernel_rfl) (map_cons' rfl rfl) (formula_Table_Len.calls _ _ pb0_0 pv0_0_0 pb0_0_1 a0_0 a0_0_1 z111 (HF.ten (V := [0]) (L := [3, 4, 7]) rfl) (Bk.vw hB0_0 rfl) (Own.vw hO0_0_0 rfl rfl) (Mp.vw hM0_0_1 rfl) hz111) ?_
 rintro _ w112 ⟨o113, rfl, s114⟩
 refine ⟨_, rfl, ?_⟩
 replace s114 := un_stepL (J := []) (L' := []) s114 rfl rfl
 replace hra0_1 := hra0_1.step s114 rfl
 replace hB0 := hB0.step s114 rfl
 replace hO0_0_0 := hO0_0_0.step s114 rfl rfl
 replace hB0_0 := hB0_0.step s114 rfl
 replace hB1_0 := hB1_0.step s114 rfl
 replace hB1_1 := hB1_1.step s114 rfl
 replace hM0_0_1 := hM0_0_1.step s114 rfl
 replace hB105 := hB105.step s114 rfl
 replace hB110 := hB110.step s114 rfl
 replace HF := HF.step s114 rfl
 refine WL.op rfl <|
  OW.alloc' [ii (0 : Int)] 42 HF rfl zr3 rfl ?_
 intro o116 w117 b115 s118 hB119
 replace hra0_1 := hra0_1.step s118 rfl
 replace hB0 := hB0.step s118 rfl
 replace hO0_0_0 := hO0_0_0.step s118 rfl rfl
 replace hB0_0 := hB0_0.step s118 rfl
 replace hB1_0 := hB1_0.step s118 rfl
 replace hB1_1 := hB1_1.step s118 rfl
 replace hM0_0_1 := hM0_0_1.step s118 rfl
 replace hB105 := hB105.step s118 rfl
 replace hB110 := hB110.step s118 rfl
 replace HF := HF.step s118 rfl
 refine WL.op rfl <|
  OW.storeW rfl rfl sz3 hB119 rfl (oa rfl) ?_
 intro w120 s121 hB122
 replace hra0_1 := hra0_1.step s121 rfl
 replace hB0 := hB0.step s121 rfl
 replace hO0_0_0 := hO0_0_0.step s121 rfl rfl
 replace hB0_0 := hB0_0.step s121 rfl
 replace hB1_0 := hB1_0.step s121 rfl
 replace hB1_1 := hB1_1.step s121 rfl
 replace hM0_0_1 := hM0_0_1.step s121 rfl
 replace hB105 := hB105.step s121 rfl
 replace hB110 := hB110.step s121 rfl
 replace HF := HF.step s121 rfl
 refine WL.nil <|
  WC.seq <|
  WC.region <|
  E rfl (ex_makeFuncC [pp b101 0, pp b115 0, pp b106 0] (map_cons' rfl (map_cons' rfl (map_cons' rfl rfl)))) <|
  WL.op rfl <|
  OW.defer [] [pp b101 0, pp b115 0, pp b106 0] rfl [] rfl <|
  WL.nil <|
  WC.seq <|
  WC.region <|
  E rfl (mv (.func (.func 21) #[] #[pp pb1_0 0, pp pb1_1 0]) rfl) ?_
 obtain ⟨z123, hz123, H⟩ := bindE H
 refine WL.op rfl <|
  OW.callFP [] [pp pb1_0 0, pp pb1_1 0] (show ev _ _ = .func (.func 21) #[] #[pp pb1_0 0, pp pb1_1 0] from rfl) [] rfl Tryd.func21 (by kernel_rfl) (by kernel_rfl) rfl (syntax_Take_1.calls k _ _ pb1_0 pb1_1 pb0 pA0_1 pc0_1 pb0_0 pv0_0_0 pb0_0_1 a1_1 a0 a0_0 a0_0_1 z123 (HF.ten (V := [0]) (L := [5, 6, 2, 3, 4, 7]) rfl) (Bk.vw hB1_0 rfl) (Bk.vw hB1_1 rfl) (Bk.vw hB0 rfl) (Row.vw hra0_1 rfl) hla0_1 (Bk.vw hB0_0 rfl) (Own.vw hO0_0_0 rfl rfl) (Mp.vw hM0_0_1 rfl) hz123) ?_
 rintro _ w124 ⟨o125, (⟨p126, rfl, A132, c133, v137, rfl, s128, hB130, hB131, hl134, hr135, hB136, hO138, hM139⟩ | ⟨q127, rfl, A142, c143, v147, rfl, s129, hB140, hB141, hl144, hr145, hB146, hO148, hM149⟩)⟩
 ·
  refine Or.inr ⟨_, rfl, ?_⟩
  dsimp only at H
  replace hB130 := Bk.unO (J := []) 1 hB130 s128 rfl rfl rfl
  replace hB131 := Bk.unO (J := []) 2 hB131 s128 rfl rfl rfl
  replace hr135 := hr135.un (J := []) s128
  replace hB136 := Bk.unO (J := []) 3 hB136 s128 rfl rfl rfl
  replace hO138 := Own.unO (J := []) 4 hO138 s128 rfl rfl rfl
  replace hM139 := Mp.unO (J := []) 5 hM139 s128 rfl rfl rfl
  replace s128 := un_stepL (J := []) (L' := [6, 2, 3, 4, 7]) s128 rfl rfl
  replace hra0_1 := hra0_1.step s128 rfl
  replace hB1_0 := hB1_0.step s128 rfl
  replace hB105 := hB105.step s128 rfl
  replace hB110 := hB110.step s128 rfl
  replace hB122 := hB122.step s128 rfl
  replace HF := HF.step s128 rfl
  obtain ⟨z150, hz150, H⟩ := bindE H
  refine lv_one (xs := []) (cs := [pp b101 0, pp b115 0, pp b106 0]) (fun h_ => by cases h_) Tryd.func29 (by kernel_rfl) (by kernel_rfl) (DCalls.mono (syntax_reader_read_1_rec.dcalls k _ _ b101 b115 b106 pb0 A132 c133 pb0_0 v137 pb0_0_1 z111 (⟨(0 : Int), (⟨(0 : Int), (0 : Int), (0 : Int)⟩ : T_api_Spot)⟩ : T_api_Fault) p126.2.2.1 p126.2.2.2.1 p126.2.2.2.2 p126.1 z150 (HF.ten (V := [0]) (L := [40, 42, 41, 2, 3, 4, 7]) rfl) (Bk.vw hB105 rfl) (Bk.vw hB122 rfl) (Bk.vw hB110 rfl) (Bk.vw hB131 rfl) (Row.vw hr135 rfl) hl134 (Bk.vw hB136 rfl) (Own.vw hO138 rfl rfl) (Mp.vw hM139 rfl) hz150) ?_)
  rintro _ _ w151 ⟨rfl, o152, v156, rfl, s153, hB154, hB155, hO157, hM158⟩
  replace hB154 := Bk.unO (J := []) 2 hB154 s153 rfl rfl rfl
  replace hB155 := Bk.unO (J := []) 4 hB155 s153 rfl rfl rfl
  replace hO157 := Own.unO (J := []) 5 hO157 s153 rfl rfl rfl
  replace hM158 := Mp.unO (J := []) 6 hM158 s153 rfl rfl rfl
  replace s153 := un_stepL (J := []) (L' := [41, 3, 4, 7]) s153 rfl rfl
  replace hra0_1 := hra0_1.step s153 rfl
  replace hB1_0 := hB1_0.step s153 rfl
  replace hB105 := hB105.step s153 rfl
  replace hB122 := hB122.step s153 rfl
  replace hB130 := hB130.step s153 rfl
  replace hB131 := hB131.step s153 rfl
  replace hr135 := hr135.step s153 rfl
  replace HF := HF.step s153 rfl
  refine Lv.doneR ?_
  obtain rfl := Option.some.inj H
  exact ⟨_, (.cell (.agg #[ii z150.1.f_Code, ii z150.1.f_At.f_Line, ii z150.1.f_At.f_Col, ii z150.1.f_At.f_Off] : Value) rfl (run_loadN (cs := [ii z150.1.f_Code, ii z150.1.f_At.f_Line, ii z150.1.f_At.f_Col, ii z150.1.f_At.f_Off]) U35 rfl sz35 (hB154.cells rfl)) .nil), _, A132, c133, v156, rfl, HF.out, hB131, hl134, hr135, hB155, hO157, hB130, hM158⟩
 ·
  refine Or.inl ⟨_, rfl, ?_⟩
  dsimp only at H
  replace hB140 := Bk.unO (J := []) 1 hB140 s129 rfl rfl rfl
  replace hB141 := Bk.unO (J := []) 2 hB141 s129 rfl rfl rfl
  replace hr145 := hr145.un (J := []) s129
  replace hB146 := Bk.unO (J := []) 3 hB146 s129 rfl rfl rfl
  replace hO148 := Own.unO (J := []) 4 hO148 s129 rfl rfl rfl
  replace hM149 := Mp.unO (J := []) 5 hM149 s129 rfl rfl rfl
  replace s129 := un_stepL (J := []) (L' := [6, 2, 3, 4, 7]) s129 rfl rfl
  replace hra0_1 := hra0_1.step s129 rfl
  replace hB1_0 := hB1_0.step s129 rfl
  replace hB105 := hB105.step s129 rfl
  replace hB110 := hB110.step s129 rfl
  replace hB122 := hB122.step s129 rfl
  replace HF := HF.step s129 rfl
  refine WL.nil <|
   WC.seq <|
   WC.seq <|
   WC.region <|
   E rfl (ex_load1 rfl U53 rfl (hB105.cell rfl)) <|
   E rfl (ex_nilCheck rfl) <|
   E rfl (ex_fieldAddr rfl U55 rfl sz4) <|
   E rfl (ex_load1 rfl U4 rfl (hB141.cell rfl)) <|
   WL.nil ?_
  rcases condE H with ⟨c159, H⟩ | ⟨c159, H⟩
  ·
   refine WC.cond_t (vb c159 rfl) <|
    WC.region <|
    E rfl (ex_build (cs := [ii 30, ii (0 : Int), ii (0 : Int), ii (0 : Int)]) [(0, 1), (1, 3)] [(0, ii 30)] [ii 0, ii 0, ii 0, ii 0] U35 zr35 rfl (by kernel_rfl) (evs_cons rfl rfl) rfl) <|
    E rfl (ex_build (cs := [ii 30, ii (0 : Int), ii (0 : Int), ii (0 : Int)]) [(0, 4)] [(0, .agg #[ii 30, ii (0 : Int), ii (0 : Int), ii (0 : Int)])] [ii 0, ii 0, ii 0, ii 0] U73 zr73 rfl (by kernel_rfl) (evs_cons rfl rfl) rfl) <|
    E rfl (ex_makeInterface (v := .agg #[ii 30, ii (0 : Int), ii (0 : Int), ii (0 : Int)]) rfl U73 rfl) <|
    WL.op rfl <|
    OW.panic (T := 73) (v := .agg #[ii 30, ii (0 : Int), ii (0 : Int), ii (0 : Int)]) rfl ?_
   obtain ⟨z160, hz160, H⟩ := bindE H
   refine lv_one (xs := []) (cs := [pp b101 0, pp b115 0, pp b106 0]) (fun h_ => by cases h_) Tryd.func29 (by kernel_rfl) (by kernel_rfl) (DCalls.mono (syntax_reader_read_1_rec.dcalls k _ _ b101 b115 b106 pb0 A142 c143 pb0_0 v147 pb0_0_1 z111 (⟨(0 : Int), (⟨(0 : Int), (0 : Int), (0 : Int)⟩ : T_api_Spot)⟩ : T_api_Fault) q127.2.1 q127.2.2.1 q127.2.2.2 (⟨(⟨30, (⟨(0 : Int), (0 : Int), (0 : Int)⟩ : T_api_Spot)⟩ : T_api_Fault)⟩ : T_syntax_broken) z160 (HF.ten (V := [0]) (L := [40, 42, 41, 2, 3, 4, 7]) rfl) (Bk.vw hB105 rfl) (Bk.vw hB122 rfl) (Bk.vw hB110 rfl) (Bk.vw hB141 rfl) (Row.vw hr145 rfl) hl144 (Bk.vw hB146 rfl) (Own.vw hO148 rfl rfl) (Mp.vw hM149 rfl) hz160) ?_)
   rintro _ _ w161 ⟨rfl, o162, v166, rfl, s163, hB164, hB165, hO167, hM168⟩
   replace hB164 := Bk.unO (J := []) 2 hB164 s163 rfl rfl rfl
   replace hB165 := Bk.unO (J := []) 4 hB165 s163 rfl rfl rfl
   replace hO167 := Own.unO (J := []) 5 hO167 s163 rfl rfl rfl
   replace hM168 := Mp.unO (J := []) 6 hM168 s163 rfl rfl rfl
   replace s163 := un_stepL (J := []) (L' := [41, 3, 4, 7]) s163 rfl rfl
   replace hra0_1 := hra0_1.step s163 rfl
   replace hB1_0 := hB1_0.step s163 rfl
   replace hB105 := hB105.step s163 rfl
   replace hB122 := hB122.step s163 rfl
   replace hB140 := hB140.step s163 rfl
   replace hB141 := hB141.step s163 rfl
   replace hr145 := hr145.step s163 rfl
   replace HF := HF.step s163 rfl
   refine Lv.doneR ?_
   obtain rfl := Option.some.inj H
   exact ⟨_, (.cell (.agg #[ii z160.1.f_Code, ii z160.1.f_At.f_Line, ii z160.1.f_At.f_Col, ii z160.1.f_At.f_Off] : Value) rfl (run_loadN (cs := [ii z160.1.f_Code, ii z160.1.f_At.f_Line, ii z160.1.f_At.f_Col, ii z160.1.f_At.f_Off]) U35 rfl sz35 (hB164.cells rfl)) .nil), _, A142, c143, v166, rfl, HF.out, hB141, hl144, hr145, hB165, hO167, hB140, hM168⟩
  ·
   refine WC.cond_f (vb c159 rfl) <|
    WC.skip <|
    WC.seq <|
    WC.region <|
    E rfl (ex_build (cs := [ii (0 : Int), ii (0 : Int), ii (0 : Int), ii (0 : Int)]) [(0, 1), (1, 3)] [] [ii 0, ii 0, ii 0, ii 0] U35 zr35 rfl (by kernel_rfl) rfl rfl) <|
    WL.op rfl <|
    OW.storeW rfl rfl sz35 hB110 rfl (oa rfl) ?_
   intro w169 s170 hB171
   replace hra0_1 := hra0_1.step s170 rfl
   replace hB1_0 := hB1_0.step s170 rfl
   replace hB105 := hB105.step s170 rfl
   replace hB122 := hB122.step s170 rfl
   replace hB140 := hB140.step s170 rfl
   replace hB141 := hB141.step s170 rfl
   replace hr145 := hr145.step s170 rfl
   replace hB146 := hB146.step s170 rfl
   replace hO148 := hO148.step s170 rfl rfl
   replace hM149 := hM149.step s170 rfl
   replace HF := HF.step s170 rfl
   refine WL.nil <|
    WC.ret ?_
   obtain ⟨z172, hz172, H⟩ := bindE H
   refine lv_one (xs := []) (cs := [pp b101 0, pp b115 0, pp b106 0]) (fun h_ => by cases h_) Tryd.func29 (by kernel_rfl) (by kernel_rfl) (DCalls.mono (syntax_reader_read_1_ret.dcalls _ _ b101 b115 b106 pb0 A142 c143 pb0_0 v147 pb0_0_1 z111 (⟨(0 : Int), (⟨(0 : Int), (0 : Int), (0 : Int)⟩ : T_api_Spot)⟩ : T_api_Fault) q127.2.1 q127.2.2.1 q127.2.2.2 z172 (HF.ten (V := [0]) (L := [40, 42, 41, 2, 3, 4, 7]) rfl) (Bk.vw hB105 rfl) (Bk.vw hB122 rfl) (Bk.vw hB171 rfl) (Bk.vw hB141 rfl) (Row.vw hr145 rfl) hl144 (Bk.vw hB146 rfl) (Own.vw hO148 rfl rfl) (Mp.vw hM149 rfl) hz172) ?_)
   obtain rfl := Option.some.inj (show some () = some z172 from hz172)
   rintro _ _ w173 ⟨rfl, o174, rfl, s175⟩
   replace s175 := un_stepL (J := []) (L' := []) s175 rfl rfl
   replace hra0_1 := hra0_1.step s175 rfl
   replace hB1_0 := hB1_0.step s175 rfl
   replace hB105 := hB105.step s175 rfl
   replace hB122 := hB122.step s175 rfl
   replace hB140 := hB140.step s175 rfl
   replace hB141 := hB141.step s175 rfl
   replace hr145 := hr145.step s175 rfl
   replace hB146 := hB146.step s175 rfl
   replace hO148 := hO148.step s175 rfl rfl
   replace hM149 := hM149.step s175 rfl
   replace hB171 := hB171.step s175 rfl
   replace HF := HF.step s175 rfl
   refine Lv.done ?_
   obtain rfl := Option.some.inj H
   exact ⟨_, (.cell (.agg #[ii (0 : Int), ii (0 : Int), ii (0 : Int), ii (0 : Int)] : Value) rfl (run_loadN (cs := [ii (0 : Int), ii (0 : Int), ii (0 : Int), ii (0 : Int)]) U35 rfl sz35 (hB171.cells rfl)) .nil), _, A142, c143, v147, rfl, HF.out, hB141, hl144, hr145, hB146, hO148, hB140, hM149⟩

/-! ### syntax_Take -/
set_option maxRecDepth 100000 in
theorem syntax_Take.calls (k : Nat) (o0 : Tags) (w0 : World) (pb0 : Nat) (pv0_0 : Value) (pA1 : Option Addr) (pc1 : Nat) (pb0_1 : Nat) (a0 : T_formula_Table) (a1 : (List T_api_Token)) (a0_1 : (List (T_api_Node × Int))) (r : Int × Int × T_api_Fault × T_formula_Table × (List (T_api_Node × Int))) (hO : ∀ b, b < w0.heap.size → o0 b < 40) (hB0 : Bk o0 w0 2 pb0 [pv0_0, .map (some pb0_1)] 28) (hO0_0 : Own T_api_Node.rep 61 3 o0 w0 pv0_0 a0.f_rows) (hra1 : Row T_api_Token.rep (fun b_ => o0 b_ = 0) (fun b_ => o0 b_ = 0) w0 pA1 a1) (hla1 : a1.length ≤ pc1) (hM0_1 : Mp (fun x_ : T_api_Node => Value.agg #[ii x_.f_Kind, encS x_.f_Name, ii x_.f_L, ii x_.f_R]) (fun v_ : Int => ii v_) 4 o0 w0 pb0_1 a0_1) (H : syntax_Take.f k a0 a1 a0_1 = some r) :
  Calls Tryd.prog 7 [pp pb0 0, .slice pA1 a1.length pc1].toArray w0 fun e_ w_ => ∃ (o_ : Tags) (u0_0 : Value), e_ = .returned (one [ii r.1, ii r.2.1, .agg #[ii r.2.2.1.f_Code, ii r.2.2.1.f_At.f_Line, ii r.2.2.1.f_At.f_Col, ii r.2.2.1.f_At.f_Off]]) ∧ Step o0 w0 o_ w_ [2, 3, 4] ∧ Bk o_ w_ 2 pb0 [u0_0, .map (some pb0_1)] 28 ∧ Own T_api_Node.rep 61 3 o_ w_ u0_0 r.2.2.2.1.f_rows ∧ Mp (fun x_ : T_api_Node => Value.agg #[ii x_.f_Kind, encS x_.f_Name, ii x_.f_L, ii x_.f_R]) (fun v_ : Int => ii v_) 4 o_ w_ pb0_1 r.2.2.2.2 := by
 have HF := Fm.refl hO [2, 3, 4]
 unfold syntax_Take.f at H
 refine SX.calls [pp pb0 0, .slice pA1 a1.length pc1] Tryd.func7 rfl rfl ?_
 rw [Tryd.ntmps7]
 refine WC.seq <|
  WC.region <|
  E rfl (sg (ii 0) rfl) <|
  E rfl (sg (ii 0) rfl) <|
  WL.op rfl <|
  OW.alloc' [ii (0 : Int), ii (0 : Int), ii (0 : Int), ii (0 : Int)] 40 HF rfl zr35 rfl ?_
 intro o102 w103 b101 s104 hB105
 replace hO0_0 := hO0_0.step s104 rfl rfl
 replace hB0 := hB0.step s104 rfl
 replace hra1 := hra1.step s104 rfl
 replace hM0_1 := hM0_1.step s104 rfl
 replace HF := HF.step s104 rfl
 refine WL.nil <|
  WC.seq <|
  WC.seq <|
  WC.region <|
  E rfl (mv (pp pb0 0) rfl) ?_
 obtain ⟨z106, hz106, H⟩ := bindE H
 refine WL.op rfl <|
  OW.call [pp pb0 0] rfl Tryd.func13 (by kernel_rfl) (by kernel_rfl) (map_cons' rfl rfl) (syntax_known.calls k _ _ pb0 pv0_0 pb0_1 a0 a0_1 z106 (HF.ten (V := [0]) (L := [2, 3, 4]) rfl) (Bk.vw hB0 rfl) (Own.vw hO0_0 rfl rfl) (Mp.vw hM0_1 rfl) hz106) ?_
 rintro _ w107 ⟨o108, rfl, s109⟩
 refine ⟨_, rfl, ?_⟩
 replace s109 := un_stepL (J := []) (L' := []) s109 rfl rfl
 replace hO0_0 := hO0_0.step s109 rfl rfl
 replace hB0 := hB0.step s109 rfl
 replace hra1 := hra1.step s109 rfl
 replace hM0_1 := hM0_1.step s109 rfl
 replace hB105 := hB105.step s109 rfl
 replace HF := HF.step s109 rfl
 refine E rfl (ex_not (b := z106) rfl) <|
  WL.nil ?_
 rcases condE H with ⟨c110, H⟩ | ⟨c110, H⟩
 ·
  refine WC.cond_t (vb c110 rfl) <|
   WC.seq <|
   WC.region <|
   E rfl (ex_build (cs := [ii 1, ii (0 : Int), ii (0 : Int), ii (0 : Int)]) [(0, 1), (1, 3)] [(0, ii 1)] [ii 0, ii 0, ii 0, ii 0] U35 zr35 rfl (by kernel_rfl) (evs_cons rfl rfl) rfl) <|
   E rfl (sg (ii 0) rfl) <|
   E rfl (sg (ii 0) rfl) <|
   WL.op rfl <|
   OW.storeW rfl rfl sz35 hB105 rfl (oa rfl) ?_
  intro w111 s112 hB113
  replace hO0_0 := hO0_0.step s112 rfl rfl
  replace hB0 := hB0.step s112 rfl
  replace hra1 := hra1.step s112 rfl
  replace hM0_1 := hM0_1.step s112 rfl
  replace HF := HF.step s112 rfl
  refine WL.nil <|
   WC.ret ?_
  obtain rfl := Option.some.inj H
  exact ⟨_, (.tmp (ii 0 : Value) rfl (.tmp (ii 0 : Value) rfl (.cell (.agg #[ii 1, ii (0 : Int), ii (0 : Int), ii (0 : Int)] : Value) rfl (run_loadN (cs := [ii 1, ii (0 : Int), ii (0 : Int), ii (0 : Int)]) U35 rfl sz35 (hB113.cells rfl)) .nil))), _, pv0_0, rfl, HF.out, hB0, hO0_0, hM0_1⟩
 ·
  refine WC.cond_f (vb c110 rfl) <|
   WC.skip <|
   WC.seq <|
   WC.region <|
   E rfl (mv (pp pb0 0) rfl) <|
   E rfl (mv (.slice pA1 a1.length pc1) rfl) <|
   E rfl (ex_build (cs := [pp pb0 0, .slice pA1 a1.length pc1, ii (0 : Int), ii (0 : Int), ii (0 : Int), .bool true, .bool false]) [(0, 1), (1, 1), (2, 1), (3, 1), (4, 1), (5, 1), (6, 1)] [(0, pp pb0 0), (1, .slice pA1 a1.length pc1), (5, .bool true)] [.pointer none, .slice none 0 0, ii 0, ii 0, ii 0, .bool false, .bool false] U55 zr55 rfl (by kernel_rfl) (evs_cons rfl (evs_cons rfl (evs_cons rfl rfl))) rfl) <|
   WL.op rfl <|
   OW.box' [pp pb0 0, .slice pA1 a1.length pc1, ii (0 : Int), ii (0 : Int), ii (0 : Int), .bool true, .bool false] 41 HF rfl ((congrArg Value.cells (show ev _ _ = (.agg #[pp pb0 0, .slice pA1 a1.length pc1, ii (0 : Int), ii (0 : Int), ii (0 : Int), .bool true, .bool false] : Value) from rfl)).trans rfl) ?_
  intro o115 w116 b114 s117 hB118
  replace hO0_0 := hO0_0.step s117 rfl rfl
  replace hB0 := hB0.step s117 rfl
  replace hra1 := hra1.step s117 rfl
  replace hM0_1 := hM0_1.step s117 rfl
  replace hB105 := hB105.step s117 rfl
  replace HF := HF.step s117 rfl
  refine WL.op rfl <|
   OW.alloc' [.pointer none] 42 HF rfl zr53 rfl ?_
  intro o120 w121 b119 s122 hB123
  replace hO0_0 := hO0_0.step s122 rfl rfl
  replace hB0 := hB0.step s122 rfl
  replace hra1 := hra1.step s122 rfl
  replace hM0_1 := hM0_1.step s122 rfl
  replace hB105 := hB105.step s122 rfl
  replace hB118 := hB118.step s122 rfl
  replace HF := HF.step s122 rfl
  refine WL.op rfl <|
   OW.storeW rfl rfl sz53 hB123 rfl (oa rfl) ?_
  intro w124 s125 hB126
  replace hO0_0 := hO0_0.step s125 rfl rfl
  replace hB0 := hB0.step s125 rfl
  replace hra1 := hra1.step s125 rfl
  replace hM0_1 := hM0_1.step s125 rfl
  replace hB105 := hB105.step s125 rfl
  replace hB118 := hB118.step s125 rfl
  replace HF := HF.step s125 rfl
  refine WL.nil <|
   WC.seq <|
   WC.region <|
   WL.op rfl <|
   OW.alloc' [ii (0 : Int)] 43 HF rfl zr3 rfl ?_
  intro o128 w129 b127 s130 hB131
  replace hO0_0 := hO0_0.step s130 rfl rfl
  replace hB0 := hB0.step s130 rfl
  replace hra1 := hra1.step s130 rfl
  replace hM0_1 := hM0_1.step s130 rfl
  replace hB105 := hB105.step s130 rfl
  replace hB118 := hB118.step s130 rfl
  replace hB126 := hB126.step s130 rfl
  replace HF := HF.step s130 rfl
  refine WL.op rfl <|
   OW.storeW rfl rfl sz3 hB131 rfl (oa rfl) ?_
  intro w132 s133 hB134
  replace hO0_0 := hO0_0.step s133 rfl rfl
  replace hB0 := hB0.step s133 rfl
  replace hra1 := hra1.step s133 rfl
  replace hM0_1 := hM0_1.step s133 rfl
  replace hB105 := hB105.step s133 rfl
  replace hB118 := hB118.step s133 rfl
  replace hB126 := hB126.step s133 rfl
  replace HF := HF.step s133 rfl
  refine WL.nil <|
   WC.seq <|
   WC.region <|
   E rfl (ex_load1 rfl U53 rfl (hB126.cell rfl)) <|
   E rfl (ex_makeFuncC [pp b119 0, pp b127 0] (map_cons' rfl (map_cons' rfl rfl))) ?_
  obtain ⟨z135, hz135, H⟩ := bindE H
  refine WL.op rfl <|
   OW.call [pp b114 0, .func (.func 21) #[] #[pp b119 0, pp b127 0]] rfl Tryd.func16 (by kernel_rfl) (by kernel_rfl) (map_cons' rfl (map_cons' rfl rfl)) (syntax_reader_read_syntax_Take_1.calls k _ _ b114 pA1 pc1 pb0 pv0_0 b119 b127 pb0_1 (⟨a1, (0 : Int), (0 : Int), (0 : Int), true, false⟩ : T_syntax_reader) a0 0 a0_1 z135 (HF.ten (V := [0]) (L := [41, 2, 3, 42, 43, 4]) rfl) (Bk.vw hB118 rfl) (Row.vw hra1 rfl) hla1 (Bk.vw hB0 rfl) (Own.vw hO0_0 rfl rfl) (Bk.vw hB126 rfl) (Bk.vw hB134 rfl) (Mp.vw hM0_1 rfl) hz135) ?_
  rintro _ w136 ⟨o137, A140, c141, v145, rfl, s138, hB139, hl142, hr143, hB144, hO146, hB147, hM148⟩
  refine ⟨_, rfl, ?_⟩
  replace hB139 := Bk.unO (J := []) 0 hB139 s138 rfl rfl rfl
  replace hr143 := hr143.un (J := []) s138
  replace hB144 := Bk.unO (J := []) 1 hB144 s138 rfl rfl rfl
  replace hO146 := Own.unO (J := []) 2 hO146 s138 rfl rfl rfl
  replace hB147 := Bk.unO (J := []) 4 hB147 s138 rfl rfl rfl
  replace hM148 := Mp.unO (J := []) 5 hM148 s138 rfl rfl rfl
  replace s138 := un_stepL (J := []) (L' := [41, 2, 3, 43, 4]) s138 rfl rfl
  replace hra1 := hra1.step s138 rfl
  replace hB105 := hB105.step s138 rfl
  replace hB126 := hB126.step s138 rfl
  replace HF := HF.step s138 rfl
  refine WL.op rfl <|
   OW.alloc' [ii (0 : Int), ii (0 : Int), ii (0 : Int), ii (0 : Int)] 44 HF rfl zr35 rfl ?_
  intro o150 w151 b149 s152 hB153
  replace hra1 := hra1.step s152 rfl
  replace hB105 := hB105.step s152 rfl
  replace hB126 := hB126.step s152 rfl
  replace hB139 := hB139.step s152 rfl
  replace hr143 := hr143.step s152 rfl
  replace hB144 := hB144.step s152 rfl
  replace hO146 := hO146.step s152 rfl rfl
  replace hB147 := hB147.step s152 rfl
  replace hM148 := hM148.step s152 rfl
  replace HF := HF.step s152 rfl
  refine WL.op rfl <|
   OW.storeW rfl rfl sz35 hB153 rfl (oa rfl) ?_
  intro w154 s155 hB156
  replace hra1 := hra1.step s155 rfl
  replace hB105 := hB105.step s155 rfl
  replace hB126 := hB126.step s155 rfl
  replace hB139 := hB139.step s155 rfl
  replace hr143 := hr143.step s155 rfl
  replace hB144 := hB144.step s155 rfl
  replace hO146 := hO146.step s155 rfl rfl
  replace hB147 := hB147.step s155 rfl
  replace hM148 := hM148.step s155 rfl
  replace HF := HF.step s155 rfl
  refine WL.nil <|
   WC.seq <|
   WC.seq <|
   WC.region <|
   E rfl (ex_fieldAddr rfl U35 rfl sz31) <|
   E rfl (ex_load1 rfl U31 rfl (hB156.cell rfl)) <|
   E rfl (e2 bin_neq rfl rfl) <|
   WL.nil ?_
  rcases condE H with ⟨c157, H⟩ | ⟨c157, H⟩
  ·
   refine WC.cond_t (vb c157 rfl) <|
    WC.seq <|
    WC.regionD' HF [] 3 4 (by kernel_rfl) rfl ?_
   intro w158 s159
   replace hra1 := hra1.step s159 rfl
   replace hB105 := hB105.step s159 rfl
   replace hB126 := hB126.step s159 rfl
   replace hB139 := hB139.step s159 rfl
   replace hr143 := hr143.step s159 rfl
   replace hB144 := hB144.step s159 rfl
   replace hO146 := hO146.step s159 rfl rfl
   replace hB147 := hB147.step s159 rfl
   replace hM148 := hM148.step s159 rfl
   replace hB156 := hB156.step s159 rfl
   replace HF := HF.step s159 rfl
   have hra1D := hra1
   have hB105D := hB105
   have hB126D := hB126
   have hB139D := hB139
   have hr143D := hr143
   have hB144D := hB144
   have hO146D := hO146
   have hB147D := hB147
   have hM148D := hM148
   have hB156D := hB156
   have sR := HF.here []
   refine WA.norm (listed' := #[false, false, false, false]) (by kernel_rfl) <|
    WA.ex 0 rfl (by kernel_rfl) (by kernel_rfl) (by kernel_rfl) rfl ⟨_, sR⟩ (fun w_ hS_ => ex_loadN (cs := [ii z135.1.f_Code, ii z135.1.f_At.f_Line, ii z135.1.f_At.f_Col, ii z135.1.f_At.f_Off]) rfl U35 rfl sz35 ((hB156D.step hS_.choose_spec rfl).cells rfl)) <|
    WA.norm (listed' := #[true, false, false, false]) (by kernel_rfl) <|
    WA.ex 1 rfl (by kernel_rfl) (by kernel_rfl) (by kernel_rfl) rfl ⟨_, sR⟩ (fun w_ hS_ => ex_assign (v := ii 0) rfl) <|
    WA.norm (listed' := #[true, true, false, false]) (by kernel_rfl) <|
    WA.ex 2 rfl (by kernel_rfl) (by kernel_rfl) (by kernel_rfl) rfl ⟨_, sR⟩ (fun w_ hS_ => ex_assign (v := ii 0) rfl) <|
    WA.norm (listed' := #[true, true, true, false]) (by kernel_rfl) <|
    WA.last 3 (by kernel_rfl) (by kernel_rfl) rfl rfl rfl <|
    OW.storeW rfl rfl sz35 hB105 rfl (oa rfl) ?_
   intro w160 s161 hB162
   replace hra1 := hra1.step s161 rfl
   replace hB126 := hB126.step s161 rfl
   replace hB139 := hB139.step s161 rfl
   replace hr143 := hr143.step s161 rfl
   replace hB144 := hB144.step s161 rfl
   replace hO146 := hO146.step s161 rfl rfl
   replace hB147 := hB147.step s161 rfl
   replace hM148 := hM148.step s161 rfl
   replace hB156 := hB156.step s161 rfl
   replace HF := HF.step s161 rfl
   refine WC.ret ?_
   obtain rfl := Option.some.inj H
   exact ⟨_, (.tmp (ii 0 : Value) rfl (.tmp (ii 0 : Value) rfl (.cell (.agg #[ii z135.1.f_Code, ii z135.1.f_At.f_Line, ii z135.1.f_At.f_Col, ii z135.1.f_At.f_Off] : Value) rfl (run_loadN (cs := [ii z135.1.f_Code, ii z135.1.f_At.f_Line, ii z135.1.f_At.f_Col, ii z135.1.f_At.f_Off]) U35 rfl sz35 (hB162.cells rfl)) .nil))), _, v145, rfl, HF.out, hB144, hO146, hM148⟩
  ·
   refine WC.cond_f (vb c157 rfl) <|
    WC.skip <|
    WC.seq <|
    WC.regionD' HF [] 8 9 (by kernel_rfl) rfl ?_
   intro w163 s164
   replace hra1 := hra1.step s164 rfl
   replace hB105 := hB105.step s164 rfl
   replace hB126 := hB126.step s164 rfl
   replace hB139 := hB139.step s164 rfl
   replace hr143 := hr143.step s164 rfl
   replace hB144 := hB144.step s164 rfl
   replace hO146 := hO146.step s164 rfl rfl
   replace hB147 := hB147.step s164 rfl
   replace hM148 := hM148.step s164 rfl
   replace hB156 := hB156.step s164 rfl
   replace HF := HF.step s164 rfl
   have hra1D := hra1
   have hB105D := hB105
   have hB126D := hB126
   have hB139D := hB139
   have hr143D := hr143
   have hB144D := hB144
   have hO146D := hO146
   have hB147D := hB147
   have hM148D := hM148
   have hB156D := hB156
   have sR := HF.here []
   refine WA.norm (listed' := #[false, false, false, false, false, false, false, false, false]) (by kernel_rfl) <|
    WA.ex 0 rfl (by kernel_rfl) (by kernel_rfl) (by kernel_rfl) rfl ⟨_, sR⟩ (fun w_ hS_ => ex_load1 (v := ii z135.2.2.2.1) rfl U3 rfl ((hB147D.step hS_.choose_spec rfl).cell rfl)) <|
    WA.norm (listed' := #[true, false, false, false, false, false, false, false, false]) (by kernel_rfl) <|
    WA.ex 1 rfl (by kernel_rfl) (by kernel_rfl) (by kernel_rfl) rfl ⟨_, sR⟩ (fun w_ hS_ => ex_load1 (v := pp b114 0) rfl U53 rfl ((hB126D.step hS_.choose_spec rfl).cell rfl)) <|
    WA.norm (listed' := #[true, true, false, false, false, false, false, false, false]) (by kernel_rfl) <|
    WA.ex 2 rfl (by kernel_rfl) (by kernel_rfl) (by kernel_rfl) rfl ⟨_, sR⟩ (fun w_ hS_ => ex_nilCheck rfl) <|
    WA.norm (listed' := #[true, true, true, false, false, false, false, false, false]) (by kernel_rfl) <|
    WA.ex 3 rfl (by kernel_rfl) (by kernel_rfl) (by kernel_rfl) rfl ⟨_, sR⟩ (fun w_ hS_ => ex_fieldAddr rfl U55 rfl sz3) <|
    WA.norm (listed' := #[true, true, true, true, false, false, false, false, false]) (by kernel_rfl) <|
    WA.ex 4 rfl (by kernel_rfl) (by kernel_rfl) (by kernel_rfl) rfl ⟨_, sR⟩ (fun w_ hS_ => ex_load1 (v := ii z135.2.1.f_i) rfl U3 rfl ((hB139D.step hS_.choose_spec rfl).cell rfl)) <|
    WA.norm (listed' := #[true, true, true, true, true, false, false, false, false]) (by kernel_rfl) <|
    WA.ex 5 rfl (by kernel_rfl) (by kernel_rfl) (by kernel_rfl) rfl ⟨_, sR⟩ (fun w_ hS_ => ex_loadN (cs := [ii z135.1.f_Code, ii z135.1.f_At.f_Line, ii z135.1.f_At.f_Col, ii z135.1.f_At.f_Off]) rfl U35 rfl sz35 ((hB156D.step hS_.choose_spec rfl).cells rfl)) <|
    WA.norm (listed' := #[true, true, true, true, true, true, false, false, false]) (by kernel_rfl) <|
    WA.ex 6 rfl (by kernel_rfl) (by kernel_rfl) (by kernel_rfl) rfl ⟨_, sR⟩ (fun w_ hS_ => ex_assign (v := ii z135.2.2.2.1) rfl) <|
    WA.norm (listed' := #[true, true, true, true, true, true, true, false, false]) (by kernel_rfl) <|
    WA.ex 7 rfl (by kernel_rfl) (by kernel_rfl) (by kernel_rfl) rfl ⟨_, sR⟩ (fun w_ hS_ => ex_assign (v := ii z135.2.1.f_i) rfl) <|
    WA.norm (listed' := #[true, true, true, true, true, true, true, true, false]) (by kernel_rfl) <|
    WA.last 8 (by kernel_rfl) (by kernel_rfl) rfl rfl rfl <|
    OW.storeW rfl rfl sz35 hB105 rfl (oa rfl) ?_
   intro w165 s166 hB167
   replace hra1 := hra1.step s166 rfl
   replace hB126 := hB126.step s166 rfl
   replace hB139 := hB139.step s166 rfl
   replace hr143 := hr143.step s166 rfl
   replace hB144 := hB144.step s166 rfl
   replace hO146 := hO146.step s166 rfl rfl
   replace hB147 := hB147.step s166 rfl
   replace hM148 := hM148.step s166 rfl
   replace hB156 := hB156.step s166 rfl
   replace HF := HF.step s166 rfl
   refine WC.ret ?_
   obtain rfl := Option.some.inj H
   exact ⟨_, (.tmp (ii z135.2.2.2.1 : Value) rfl (.tmp (ii z135.2.1.f_i : Value) rfl (.cell (.agg #[ii z135.1.f_Code, ii z135.1.f_At.f_Line, ii z135.1.f_At.f_Col, ii z135.1.f_At.f_Off] : Value) rfl (run_loadN (cs := [ii z135.1.f_Code, ii z135.1.f_At.f_Line, ii z135.1.f_At.f_Col, ii z135.1.f_At.f_Off]) U35 rfl sz35 (hB167.cells rfl)) .nil))), _, v145, rfl, HF.out, hB144, hO146, hM148⟩

/-! ### dictumlaw04_num -/
set_option maxRecDepth 100000 in
theorem dictumlaw04_num.calls (o0 : Tags) (w0 : World) (a0 : Int) (r : Int) (hO : ∀ b, b < w0.heap.size → o0 b < 40) (H : dictumlaw04_num.f a0 = some r) :
  Calls Tryd.prog 10 [ii a0].toArray w0 fun e_ w_ => ∃ (o_ : Tags), e_ = .returned (one [ii r]) ∧ Step o0 w0 o_ w_ [] := by
 have HF := Fm.refl hO []
 unfold dictumlaw04_num.f at H
 refine SX.calls [ii a0] Tryd.func10 rfl rfl ?_
 rw [Tryd.ntmps10]
 refine WC.seq <|
  WC.region <|
  E rfl (sg (ii 0) rfl) <|
  WL.nil <|
  WC.seq <|
  WC.region <|
  E rfl (mv (ii a0) rfl) <|
  E rfl (sg (ii a0) rfl) <|
  WL.nil <|
  WC.ret ?_
 obtain rfl := Option.some.inj H
 exact ⟨_, (.tmp (ii a0 : Value) rfl .nil), _, rfl, HF.out⟩

/-! ### syntax_Count -/
set_option maxRecDepth 100000 in
theorem syntax_Count.calls (k : Nat) (o0 : Tags) (w0 : World) (a0 : List UInt8) (r : Int) (hO : ∀ b, b < w0.heap.size → o0 b < 40) (hG : Gl GG o0 w0) (H : syntax_Count.f k a0 = some r) :
  Calls Tryd.prog 12 [encS a0].toArray w0 fun e_ w_ => ∃ (o_ : Tags), e_ = .returned (one [ii r]) ∧ Step o0 w0 o_ w_ [] := by
 have HF := Fm.refl hO []
 unfold syntax_Count.f at H
 refine SX.calls [encS a0] Tryd.func12 rfl rfl ?_
 rw [Tryd.ntmps12]
 refine WC.seq <|
  WC.region <|
  E rfl (sg (ii 0) rfl) <|
  WL.nil <|
  WC.seq <|
  WC.region <|
  E rfl (mv (encS a0) rfl) ?_
 obtain ⟨z101, hz101, H⟩ := bindE H
 refine WL.op rfl <|
  OW.call [encS a0] rfl Tryd.func14 (by kernel_rfl) (by kernel_rfl) (map_cons' rfl rfl) (syntax_ahead.calls k _ _ a0 z101 (HF.ten (V := [0]) (L := []) rfl) (Gl.vw hG rfl) hz101) ?_
 rintro _ w102 ⟨o103, v105, rfl, s104, hO106⟩
 refine ⟨_, rfl, ?_⟩
 replace hO106 := Own.un9 (J := [40]) 0 hO106 rfl s104 rfl rfl
 replace s104 := un_stepL (J := [40]) (L' := []) s104 rfl rfl
 replace hG := hG.step s104 rfl
 replace HF := HF.step s104 rfl
 refine E rfl (mv (.tuple #[v105, .agg #[ii z101.2.f_Code, ii z101.2.f_At.f_Line, ii z101.2.f_At.f_Col, ii z101.2.f_At.f_Off]]) rfl) <|
  E rfl (ex_extract rfl rfl) <|
  E rfl (ex_extract rfl rfl) <|
  WL.op rfl <|
  OW.alloc' [ii (0 : Int), ii (0 : Int), ii (0 : Int), ii (0 : Int)] 41 HF rfl zr35 rfl ?_
 intro o108 w109 b107 s110 hB111
 replace hG := hG.step s110 rfl
 replace hO106 := hO106.step s110 rfl rfl
 replace HF := HF.step s110 rfl
 refine E rfl (sg v105 rfl) <|
  WL.op rfl <|
  OW.storeW rfl rfl sz35 hB111 rfl (oa rfl) ?_
 intro w112 s113 hB114
 replace hG := hG.step s113 rfl
 replace hO106 := hO106.step s113 rfl rfl
 replace HF := HF.step s113 rfl
 refine WL.nil <|
  WC.seq <|
  WC.region <|
  E rfl (sg (ii 0) rfl) <|
  WL.nil <|
  WC.seq <|
  WC.seq <|
  WC.region <|
  E rfl (mv v105 rfl) ?_
 obtain ⟨A115, c116, q117⟩ := hO106.slice
 refine E rfl (ex_len_slice ((show _ = (v105 : Value) from rfl).trans q117) U22) <|
  E rfl (mv (ii 0) rfl) <|
  WL.nil ?_
 obtain ⟨z121, hz121, H⟩ := bindE H
 refine WC.for (fun k_ ρ_ w_ => ∃ (o_ : Tags) (x118 : Int) (x119 : Int), Fm o0 w0 o_ w_ [] ∧ Own T_api_Token.rep 45 40 o_ w_ v105 z101.1 ∧ Gl GG o_ w_ ∧ ρ_ 2 = ii 0 ∧ ρ_ 5 = ii x118 ∧ ρ_ 13 = v105 ∧ ρ_ 14 = ii (z101.1.length : Int) ∧ ρ_ 15 = ii x119 ∧ syntax_Count.l1 k z101 k_ x118 x119 = some z121) k (fun ρ_ w_ => ∃ (o_ : Tags), Fm o0 w0 o_ w_ [] ∧ Gl GG o_ w_ ∧ ρ_ 2 = ii 0 ∧ ρ_ 5 = ii z121) ⟨_, 0, 0, HF, hO106, hG, rfl, rfl, rfl, rfl, rfl, hz121⟩ ?case122 ?_
 case case122 =>
  rintro ρ162 w163 ⟨o164, HF, hG, s2_119, s5_120⟩
  refine WC.seq <|
   WC.region <|
   E rfl (mv (ii z121) s5_120) <|
   E rfl (sg (ii z121) rfl) <|
   WL.nil <|
   WC.ret ?_
  obtain rfl := Option.some.inj H
  exact ⟨_, (.tmp (ii z121 : Value) rfl .nil), _, rfl, HF.out⟩
 have Ho123 := H
 rintro k124 ρ125 w126 ⟨o127, x118, x119, HF, hO106, hG, s2_117, s5_118, s13_118, s14_118, s15_119, H⟩
 cases k124 with
 | zero => cases H
 | succ k124 =>
 rw [syntax_Count.l1.eq_2] at H
 refine WC.seq <|
  WC.region <|
  E rfl (e2 bin_lss s15_119 s14_118) <|
  WL.nil <|
  WC.seq ?_
 rcases condE H with ⟨c128, H⟩ | ⟨c128, H⟩
 ·
  refine WC.cond_t (vb c128 rfl) <|
   WC.skip ?_
  obtain ⟨z130, hz130, H⟩ := bindE H
  refine WC.cut (fun ρ_ w_ => ∃ (o_ : Tags), Fm o0 w0 o_ w_ [] ∧ Own T_api_Token.rep 45 40 o_ w_ v105 z101.1 ∧ Gl GG o_ w_ ∧ ρ_ 2 = ii 0 ∧ ρ_ 5 = ii z130 ∧ ρ_ 13 = v105 ∧ ρ_ 14 = ii (z101.1.length : Int) ∧ ρ_ 15 = ii x119) ?case131 ?_
  case case131 =>
   rintro ρ134 w132 ⟨o133, HF, hO106, hG, s2_128, s5_129, s13_129, s14_129, s15_129⟩
   refine WC.region <|
    E rfl (e2 bin_add64 s15_129 rfl) <|
    E rfl (mv (ii (wrap64 (x119 + 1))) rfl) <|
    WL.nil ?_
   exact ⟨k124, Nat.lt_succ_self _, ⟨_, z130, wrap64 (x119 + 1), HF, hO106, hG, s2_128, s5_129, s13_129, s14_129, rfl, H⟩⟩
  have Ho135 := H
  replace H := hz130
  refine WC.block <|
   WC.seq <|
   WC.region ?_
  obtain ⟨x136, hx136, H⟩ := bindE H
  obtain ⟨A141, c142, q143_⟩ := hO106.slice
  obtain ⟨ad137, cc144, e138, g139, g140, hl145, hR146, cell147⟩ := Row.ix (Own.rowOf hO106 q143_) hx136
  obtain rfl := T_api_Token.opn hR146
  refine E rfl (ex_indexAddr (i := x119) ((show _ = (v105 : Value) from s13_118).trans q143_) e138 s15_119 U22 sz45 g139 g140) <|
   E rfl (ex_loadN (cs := [ii x136.f_Kind, encS x136.f_Text, ii x136.f_Int, ii x136.f_At.f_Line, ii x136.f_At.f_Col, ii x136.f_At.f_Off]) rfl U45 rfl sz45 cell147) <|
   WL.op rfl <|
   OW.alloc' [ii (0 : Int), encS ([] : List UInt8), ii (0 : Int), ii (0 : Int), ii (0 : Int), ii (0 : Int)] 42 HF rfl zr45 rfl ?_
  intro o150 w151 b149 s152 hB153
  replace hO106 := hO106.step s152 rfl rfl
  replace hG := hG.step s152 rfl
  replace HF := HF.step s152 rfl
  refine WL.op rfl <|
   OW.storeW rfl rfl sz45 hB153 rfl (oa rfl) ?_
  intro w154 s155 hB156
  replace hO106 := hO106.step s155 rfl rfl
  replace hG := hG.step s155 rfl
  replace HF := HF.step s155 rfl
  refine WL.nil <|
   WC.seq <|
   WC.region <|
   E rfl (ex_loadN (cs := [ii x136.f_Kind, encS x136.f_Text, ii x136.f_Int, ii x136.f_At.f_Line, ii x136.f_At.f_Col, ii x136.f_At.f_Off]) rfl U45 rfl sz45 (hB156.cells rfl)) ?_
  obtain ⟨z157, hz157, H⟩ := bindE H
  refine WL.op rfl <|
   OW.call [.agg #[ii x136.f_Kind, encS x136.f_Text, ii x136.f_Int, ii x136.f_At.f_Line, ii x136.f_At.f_Col, ii x136.f_At.f_Off]] rfl Tryd.func15 (by kernel_rfl) (by kernel_rfl) (map_cons' rfl rfl) (syntax_counted.calls _ _ x136 z157 (HF.ten (V := [0]) (L := []) rfl)  hz157) ?_
  rintro _ w158 ⟨o159, rfl, s160⟩
  refine ⟨_, rfl, ?_⟩
  replace s160 := un_stepL (J := []) (L' := []) s160 rfl rfl
  replace hO106 := hO106.step s160 rfl rfl
  replace hG := hG.step s160 rfl
  replace hB156 := hB156.step s160 rfl
  replace HF := HF.step s160 rfl
  refine WL.nil ?_
  rcases condE H with ⟨c161, H⟩ | ⟨c161, H⟩
  ·
   refine WC.cond_t (vb c161 rfl) <|
    WC.region <|
    E rfl (mv (ii x118) s5_118) <|
    E rfl (e2 bin_add64 rfl rfl) <|
    E rfl (sg (ii (wrap64 (x118 + 1))) rfl) <|
    WL.nil ?_
   obtain rfl := Option.some.inj H
   exact ⟨_, HF, hO106, hG, s2_117, rfl, s13_118, s14_118, s15_119⟩
  ·
   refine WC.cond_f (vb c161 rfl) <|
    WC.skip ?_
   obtain rfl := Option.some.inj H
   exact ⟨_, HF, hO106, hG, s2_117, s5_118, s13_118, s14_118, s15_119⟩
 ·
  refine WC.cond_f (vb c128 rfl) <|
   WC.exit ?_
  obtain rfl := Option.some.inj H
  exact ⟨_, HF, hG, s2_117, s5_118⟩

/-! ### dictumlaw04_heads -/
set_option maxRecDepth 100000 in
theorem dictumlaw04_heads.calls (k : Nat) (o0 : Tags) (w0 : World) (r : Bool) (hO : ∀ b, b < w0.heap.size → o0 b < 40) (hG : Gl GG o0 w0) (H : dictumlaw04_heads.f k = some r) :
  Calls Tryd.prog 5 [].toArray w0 fun e_ w_ => ∃ (o_ : Tags), e_ = .returned (one [.bool r]) ∧ Step o0 w0 o_ w_ [] := by
 have HF := Fm.refl hO []
 unfold dictumlaw04_heads.f at H
 refine SX.calls [] Tryd.func5 rfl rfl ?_
 rw [Tryd.ntmps5]
 refine WC.seq <|
  WC.region <|
  E rfl (sg (.bool false) rfl) <|
  WL.nil <|
  WC.seq <|
  WC.region ?_
 obtain ⟨z101, hz101, H⟩ := bindE H
 refine WL.op rfl <|
  OW.call [] rfl Tryd.func9 (by kernel_rfl) (by kernel_rfl) rfl (formula_New.calls _ _ z101 (HF.ten (V := [0]) (L := []) rfl)  hz101) ?_
 rintro _ w102 ⟨o103, b105, v107, b109, rfl, s104, hB106, hO108, hM110⟩
 refine ⟨_, rfl, ?_⟩
 replace hB106 := Bk.un9 (J := [40, 41, 42]) 0 hB106 rfl s104 rfl rfl
 replace hO108 := Own.un9 (J := [40, 41, 42]) 1 hO108 rfl s104 rfl rfl
 replace hM110 := Mp.un9 (J := [40, 41, 42]) 2 hM110 rfl s104 rfl rfl
 replace s104 := un_stepL (J := [40, 41, 42]) (L' := []) s104 rfl rfl
 replace hG := hG.step s104 rfl
 replace HF := HF.step s104 rfl
 refine E rfl (sg (pp b105 0) rfl) <|
  WL.nil <|
  WC.seq <|
  WC.region <|
  E rfl (mv (pp b105 0) rfl) ?_
 obtain ⟨z111, hz111, H⟩ := bindE H
 refine WL.op rfl <|
  OW.call [pp b105 0, encS ([112, 32, 45, 62, 32, 113, 32, 38, 32, 112] : List UInt8)] rfl Tryd.func6 (by kernel_rfl) (by kernel_rfl) (map_cons' rfl (map_cons' rfl rfl)) (syntax_Parse.calls k _ _ b105 v107 b109 z101.1 ([112, 32, 45, 62, 32, 113, 32, 38, 32, 112] : List UInt8) z101.2 z111 (HF.ten (V := [0]) (L := [40, 41, 42]) rfl) (Bk.vw hB106 rfl) (Own.vw hO108 rfl rfl) (Mp.vw hM110 rfl) (Gl.vw hG rfl) hz111) ?_
 rintro _ w112 ⟨o113, v116, rfl, s114, hB115, hO117, hM118⟩
 refine ⟨_, rfl, ?_⟩
 replace hB115 := Bk.unO (J := []) 0 hB115 s114 rfl rfl rfl
 replace hO117 := Own.unO (J := []) 1 hO117 s114 rfl rfl rfl
 replace hM118 := Mp.unO (J := []) 2 hM118 s114 rfl rfl rfl
 replace s114 := un_stepL (J := []) (L' := [40, 41, 42]) s114 rfl rfl
 replace hG := hG.step s114 rfl
 replace HF := HF.step s114 rfl
 refine E rfl (mv (.tuple #[ii z111.1, .agg #[ii z111.2.1.f_Code, ii z111.2.1.f_At.f_Line, ii z111.2.1.f_At.f_Col, ii z111.2.1.f_At.f_Off]]) rfl) <|
  E rfl (ex_extract rfl rfl) <|
  E rfl (ex_extract rfl rfl) <|
  WL.op rfl <|
  OW.alloc' [ii (0 : Int), ii (0 : Int), ii (0 : Int), ii (0 : Int)] 43 HF rfl zr35 rfl ?_
 intro o120 w121 b119 s122 hB123
 replace hG := hG.step s122 rfl
 replace hB115 := hB115.step s122 rfl
 replace hO117 := hO117.step s122 rfl rfl
 replace hM118 := hM118.step s122 rfl
 replace HF := HF.step s122 rfl
 refine E rfl (sg (ii z111.1) rfl) <|
  WL.op rfl <|
  OW.storeW rfl rfl sz35 hB123 rfl (oa rfl) ?_
 intro w124 s125 hB126
 replace hG := hG.step s125 rfl
 replace hB115 := hB115.step s125 rfl
 replace hO117 := hO117.step s125 rfl rfl
 replace hM118 := hM118.step s125 rfl
 replace HF := HF.step s125 rfl
 refine WL.nil <|
  WC.seq <|
  WC.region <|
  E rfl (mv (pp b105 0) rfl) ?_
 obtain ⟨z127, hz127, H⟩ := bindE H
 refine WL.op rfl <|
  OW.call [pp b105 0, encS ([126, 112] : List UInt8)] rfl Tryd.func6 (by kernel_rfl) (by kernel_rfl) (map_cons' rfl (map_cons' rfl rfl)) (syntax_Parse.calls k _ _ b105 v116 b109 z111.2.2.1 ([126, 112] : List UInt8) z111.2.2.2 z127 (HF.ten (V := [0]) (L := [40, 41, 42]) rfl) (Bk.vw hB115 rfl) (Own.vw hO117 rfl rfl) (Mp.vw hM118 rfl) (Gl.vw hG rfl) hz127) ?_
 rintro _ w128 ⟨o129, v132, rfl, s130, hB131, hO133, hM134⟩
 refine ⟨_, rfl, ?_⟩
 replace hB131 := Bk.unO (J := []) 0 hB131 s130 rfl rfl rfl
 replace hO133 := Own.unO (J := []) 1 hO133 s130 rfl rfl rfl
 replace hM134 := Mp.unO (J := []) 2 hM134 s130 rfl rfl rfl
 replace s130 := un_stepL (J := []) (L' := [40, 41, 42]) s130 rfl rfl
 replace hG := hG.step s130 rfl
 replace hB126 := hB126.step s130 rfl
 replace HF := HF.step s130 rfl
 refine E rfl (mv (.tuple #[ii z127.1, .agg #[ii z127.2.1.f_Code, ii z127.2.1.f_At.f_Line, ii z127.2.1.f_At.f_Col, ii z127.2.1.f_At.f_Off]]) rfl) <|
  E rfl (ex_extract rfl rfl) <|
  E rfl (ex_extract rfl rfl) <|
  WL.op rfl <|
  OW.alloc' [ii (0 : Int), ii (0 : Int), ii (0 : Int), ii (0 : Int)] 44 HF rfl zr35 rfl ?_
 intro o136 w137 b135 s138 hB139
 replace hG := hG.step s138 rfl
 replace hB126 := hB126.step s138 rfl
 replace hB131 := hB131.step s138 rfl
 replace hO133 := hO133.step s138 rfl rfl
 replace hM134 := hM134.step s138 rfl
 replace HF := HF.step s138 rfl
 refine E rfl (sg (ii z127.1) rfl) <|
  WL.op rfl <|
  OW.storeW rfl rfl sz35 hB139 rfl (oa rfl) ?_
 intro w140 s141 hB142
 replace hG := hG.step s141 rfl
 replace hB126 := hB126.step s141 rfl
 replace hB131 := hB131.step s141 rfl
 replace hO133 := hO133.step s141 rfl rfl
 replace hM134 := hM134.step s141 rfl
 replace HF := HF.step s141 rfl
 refine WL.nil <|
  WC.seq <|
  WC.region <|
  E rfl (mv (pp b105 0) rfl) ?_
 obtain ⟨z143, hz143, H⟩ := bindE H
 refine WL.op rfl <|
  OW.call [pp b105 0, encS ([112, 32, 60, 45, 62, 32, 113] : List UInt8)] rfl Tryd.func6 (by kernel_rfl) (by kernel_rfl) (map_cons' rfl (map_cons' rfl rfl)) (syntax_Parse.calls k _ _ b105 v132 b109 z127.2.2.1 ([112, 32, 60, 45, 62, 32, 113] : List UInt8) z127.2.2.2 z143 (HF.ten (V := [0]) (L := [40, 41, 42]) rfl) (Bk.vw hB131 rfl) (Own.vw hO133 rfl rfl) (Mp.vw hM134 rfl) (Gl.vw hG rfl) hz143) ?_
 rintro _ w144 ⟨o145, v148, rfl, s146, hB147, hO149, hM150⟩
 refine ⟨_, rfl, ?_⟩
 replace hB147 := Bk.unO (J := []) 0 hB147 s146 rfl rfl rfl
 replace hO149 := Own.unO (J := []) 1 hO149 s146 rfl rfl rfl
 replace hM150 := Mp.unO (J := []) 2 hM150 s146 rfl rfl rfl
 replace s146 := un_stepL (J := []) (L' := [40, 41, 42]) s146 rfl rfl
 replace hG := hG.step s146 rfl
 replace hB126 := hB126.step s146 rfl
 replace hB142 := hB142.step s146 rfl
 replace HF := HF.step s146 rfl
 refine E rfl (mv (.tuple #[ii z143.1, .agg #[ii z143.2.1.f_Code, ii z143.2.1.f_At.f_Line, ii z143.2.1.f_At.f_Col, ii z143.2.1.f_At.f_Off]]) rfl) <|
  E rfl (ex_extract rfl rfl) <|
  E rfl (ex_extract rfl rfl) <|
  WL.op rfl <|
  OW.alloc' [ii (0 : Int), ii (0 : Int), ii (0 : Int), ii (0 : Int)] 45 HF rfl zr35 rfl ?_
 intro o152 w153 b151 s154 hB155
 replace hG := hG.step s154 rfl
 replace hB126 := hB126.step s154 rfl
 replace hB142 := hB142.step s154 rfl
 replace hB147 := hB147.step s154 rfl
 replace hO149 := hO149.step s154 rfl rfl
 replace hM150 := hM150.step s154 rfl
 replace HF := HF.step s154 rfl
 refine E rfl (sg (ii z143.1) rfl) <|
  WL.op rfl <|
  OW.storeW rfl rfl sz35 hB155 rfl (oa rfl) ?_
 intro w156 s157 hB158
 replace hG := hG.step s157 rfl
 replace hB126 := hB126.step s157 rfl
 replace hB142 := hB142.step s157 rfl
 replace hB147 := hB147.step s157 rfl
 replace hO149 := hO149.step s157 rfl rfl
 replace hM150 := hM150.step s157 rfl
 replace HF := HF.step s157 rfl
 refine WL.nil <|
  WC.seq <|
  WC.region <|
  E rfl (mv (pp b105 0) rfl) <|
  E rfl (mv (ii z143.1) rfl) ?_
 obtain ⟨z159, hz159, H⟩ := bindE H
 refine WL.op rfl <|
  OW.call [pp b105 0, ii z143.1] rfl Tryd.func8 (by kernel_rfl) (by kernel_rfl) (map_cons' rfl (map_cons' rfl rfl)) (syntax_Print.calls k _ _ b105 v148 b109 z143.2.2.1 z143.1 z143.2.2.2 z159 (HF.ten (V := [0]) (L := [40, 41, 42]) rfl) (Bk.vw hB147 rfl) (Own.vw hO149 rfl rfl) (Mp.vw hM150 rfl) hz159) ?_
 rintro _ w160 ⟨o161, rfl, s162⟩
 refine ⟨_, rfl, ?_⟩
 replace s162 := un_stepL (J := []) (L' := []) s162 rfl rfl
 replace hG := hG.step s162 rfl
 replace hB126 := hB126.step s162 rfl
 replace hB142 := hB142.step s162 rfl
 replace hB147 := hB147.step s162 rfl
 replace hO149 := hO149.step s162 rfl rfl
 replace hM150 := hM150.step s162 rfl
 replace hB158 := hB158.step s162 rfl
 replace HF := HF.step s162 rfl
 refine E rfl (mv (.tuple #[encS z159.1, ii z159.2]) rfl) <|
  E rfl (ex_extract rfl rfl) <|
  E rfl (ex_extract rfl rfl) <|
  E rfl (sg (encS z159.1) rfl) <|
  E rfl (sg (ii z159.2) rfl) <|
  WL.nil <|
  WC.seq <|
  WC.region <|
  E rfl (mv (pp b105 0) rfl) ?_
 obtain ⟨z163, hz163, H⟩ := bindE H
 refine WL.op rfl <|
  OW.call [pp b105 0, encS ([112, 32, 38, 32, 38, 32, 36] : List UInt8)] rfl Tryd.func6 (by kernel_rfl) (by kernel_rfl) (map_cons' rfl (map_cons' rfl rfl)) (syntax_Parse.calls k _ _ b105 v148 b109 z143.2.2.1 ([112, 32, 38, 32, 38, 32, 36] : List UInt8) z143.2.2.2 z163 (HF.ten (V := [0]) (L := [40, 41, 42]) rfl) (Bk.vw hB147 rfl) (Own.vw hO149 rfl rfl) (Mp.vw hM150 rfl) (Gl.vw hG rfl) hz163) ?_
 rintro _ w164 ⟨o165, v168, rfl, s166, hB167, hO169, hM170⟩
 refine ⟨_, rfl, ?_⟩
 replace hB167 := Bk.unO (J := []) 0 hB167 s166 rfl rfl rfl
 replace hO169 := Own.unO (J := []) 1 hO169 s166 rfl rfl rfl
 replace hM170 := Mp.unO (J := []) 2 hM170 s166 rfl rfl rfl
 replace s166 := un_stepL (J := []) (L' := [40, 41, 42]) s166 rfl rfl
 replace hG := hG.step s166 rfl
 replace hB126 := hB126.step s166 rfl
 replace hB142 := hB142.step s166 rfl
 replace hB158 := hB158.step s166 rfl
 replace HF := HF.step s166 rfl
 refine E rfl (mv (.tuple #[ii z163.1, .agg #[ii z163.2.1.f_Code, ii z163.2.1.f_At.f_Line, ii z163.2.1.f_At.f_Col, ii z163.2.1.f_At.f_Off]]) rfl) <|
  E rfl (ex_extract rfl rfl) <|
  E rfl (ex_extract rfl rfl) <|
  WL.op rfl <|
  OW.alloc' [ii (0 : Int), ii (0 : Int), ii (0 : Int), ii (0 : Int)] 46 HF rfl zr35 rfl ?_
 intro o172 w173 b171 s174 hB175
 replace hG := hG.step s174 rfl
 replace hB126 := hB126.step s174 rfl
 replace hB142 := hB142.step s174 rfl
 replace hB158 := hB158.step s174 rfl
 replace hB167 := hB167.step s174 rfl
 replace hO169 := hO169.step s174 rfl rfl
 replace hM170 := hM170.step s174 rfl
 replace HF := HF.step s174 rfl
 refine E rfl (sg (ii z163.1) rfl) <|
  WL.op rfl <|
  OW.storeW rfl rfl sz35 hB175 rfl (oa rfl) ?_
 intro w176 s177 hB178
 replace hG := hG.step s177 rfl
 replace hB126 := hB126.step s177 rfl
 replace hB142 := hB142.step s177 rfl
 replace hB158 := hB158.step s177 rfl
 replace hB167 := hB167.step s177 rfl
 replace hO169 := hO169.step s177 rfl rfl
 replace hM170 := hM170.step s177 rfl
 replace HF := HF.step s177 rfl
 refine WL.nil <|
  WC.seq <|
  WC.region <|
  E rfl (mv (pp b105 0) rfl) <|
  E rfl (ex_build (cs := [ii 1, encS ([112] : List UInt8), ii (0 : Int), ii (0 : Int), ii (0 : Int), ii (0 : Int)]) [(0, 1), (1, 1), (2, 1), (3, 3)] [(0, ii 1), (1, encS ([112] : List UInt8))] [ii 0, .string ⟨#[]⟩, ii 0, ii 0, ii 0, ii 0] U45 zr45 rfl (by kernel_rfl) (evs_cons rfl (evs_cons rfl rfl)) rfl) <|
  E rfl (ex_build (cs := [ii 3, encS ([44] : List UInt8), ii (0 : Int), ii (0 : Int), ii (0 : Int), ii (0 : Int)]) [(0, 1), (1, 1), (2, 1), (3, 3)] [(0, ii 3), (1, encS ([44] : List UInt8))] [ii 0, .string ⟨#[]⟩, ii 0, ii 0, ii 0, ii 0] U45 zr45 rfl (by kernel_rfl) (evs_cons rfl (evs_cons rfl rfl)) rfl) <|
  WL.op rfl <|
  OW.row (r := T_api_Token.rep) (xs := [(⟨1, ([112] : List UInt8), (0 : Int), (⟨(0 : Int), (0 : Int), (0 : Int)⟩ : T_api_Spot)⟩ : T_api_Token), (⟨3, ([44] : List UInt8), (0 : Int), (⟨(0 : Int), (0 : Int), (0 : Int)⟩ : T_api_Spot)⟩ : T_api_Token)]) [(0, .agg #[ii 1, encS ([112] : List UInt8), ii (0 : Int), ii (0 : Int), ii (0 : Int), ii (0 : Int)]), (1, .agg #[ii 3, encS ([44] : List UInt8), ii (0 : Int), ii (0 : Int), ii (0 : Int), ii (0 : Int)])] [[ii 1, encS ([112] : List UInt8), ii (0 : Int), ii (0 : Int), ii (0 : Int), ii (0 : Int)], [ii 3, encS ([44] : List UInt8), ii (0 : Int), ii (0 : Int), ii (0 : Int), ii (0 : Int)]] 47 HF rfl U22 sz45 zr45 rfl (evs_cons rfl (evs_cons rfl rfl)) rfl rfl ⟨(T_api_Token.mk' (⟨1, ([112] : List UInt8), (0 : Int), (⟨(0 : Int), (0 : Int), (0 : Int)⟩ : T_api_Spot)⟩ : T_api_Token) ), (T_api_Token.mk' (⟨3, ([44] : List UInt8), (0 : Int), (⟨(0 : Int), (0 : Int), (0 : Int)⟩ : T_api_Spot)⟩ : T_api_Token) ), trivial⟩ rfl rfl rfl rfl ?_
 intro o179 w180 v182 s181 hO183
 replace hG := hG.step s181 rfl
 replace hB126 := hB126.step s181 rfl
 replace hB142 := hB142.step s181 rfl
 replace hB158 := hB158.step s181 rfl
 replace hB167 := hB167.step s181 rfl
 replace hO169 := hO169.step s181 rfl rfl
 replace hM170 := hM170.step s181 rfl
 replace hB178 := hB178.step s181 rfl
 replace HF := HF.step s181 rfl
 obtain ⟨A184, c185, q186e, q186l, q186⟩ := Own.vwRow (V := [0, 47]) (L := [40, 41, 42]) hO183 rfl rfl
 obtain ⟨z187, hz187, H⟩ := bindE H
 have q186e' := q186e
 refine WL.op rfl <|
  OW.call [pp b105 0, v182] rfl Tryd.func7 (by kernel_rfl) (by kernel_rfl) (map_cons' rfl (map_cons' rfl rfl)) (by simp only [q186e]; exact (syntax_Take.calls k _ _ b105 v168 A184 c185 b109 z163.2.2.1 ([(⟨1, ([112] : List UInt8), (0 : Int), (⟨(0 : Int), (0 : Int), (0 : Int)⟩ : T_api_Spot)⟩ : T_api_Token), (⟨3, ([44] : List UInt8), (0 : Int), (⟨(0 : Int), (0 : Int), (0 : Int)⟩ : T_api_Spot)⟩ : T_api_Token)]) z163.2.2.2 z187 (HF.ten (V := [0, 47]) (L := [40, 41, 42]) rfl) (Bk.vw hB167 rfl) (Own.vw hO169 rfl rfl) q186 q186l (Mp.vw hM170 rfl) hz187)) ?_
 rintro _ w188 ⟨o189, v192, rfl, s190, hB191, hO193, hM194⟩
 refine ⟨_, rfl, ?_⟩
 replace hB191 := Bk.unO (J := []) 0 hB191 s190 rfl rfl rfl
 replace hO193 := Own.unOf (J := []) 1 (fun h => h) hO193 s190 rfl rfl rfl
 replace hM194 := Mp.unO (J := []) 2 hM194 s190 rfl rfl rfl
 replace s190 := un_stepL (J := []) (L' := [40, 41, 42]) s190 rfl rfl
 replace hG := hG.step s190 rfl
 replace hB126 := hB126.step s190 rfl
 replace hB142 := hB142.step s190 rfl
 replace hB158 := hB158.step s190 rfl
 replace hB178 := hB178.step s190 rfl
 replace hO183 := hO183.step s190 rfl rfl
 replace HF := HF.step s190 rfl
 refine E rfl (mv (.tuple #[ii z187.1, ii z187.2.1, .agg #[ii z187.2.2.1.f_Code, ii z187.2.2.1.f_At.f_Line, ii z187.2.2.1.f_At.f_Col, ii z187.2.2.1.f_At.f_Off]]) rfl) <|
  E rfl (ex_extract rfl rfl) <|
  E rfl (ex_extract rfl rfl) <|
  E rfl (ex_extract rfl rfl) <|
  WL.op rfl <|
  OW.alloc' [ii (0 : Int), ii (0 : Int), ii (0 : Int), ii (0 : Int)] 48 HF rfl zr35 rfl ?_
 intro o196 w197 b195 s198 hB199
 replace hG := hG.step s198 rfl
 replace hB126 := hB126.step s198 rfl
 replace hB142 := hB142.step s198 rfl
 replace hB158 := hB158.step s198 rfl
 replace hB178 := hB178.step s198 rfl
 replace hO183 := hO183.step s198 rfl rfl
 replace hB191 := hB191.step s198 rfl
 replace hO193 := hO193.step s198 rfl rfl
 replace hM194 := hM194.step s198 rfl
 replace HF := HF.step s198 rfl
 refine E rfl (sg (ii z187.1) rfl) <|
  E rfl (sg (ii z187.2.1) rfl) <|
  WL.op rfl <|
  OW.storeW rfl rfl sz35 hB199 rfl (oa rfl) ?_
 intro w200 s201 hB202
 replace hG := hG.step s201 rfl
 replace hB126 := hB126.step s201 rfl
 replace hB142 := hB142.step s201 rfl
 replace hB158 := hB158.step s201 rfl
 replace hB178 := hB178.step s201 rfl
 replace hO183 := hO183.step s201 rfl rfl
 replace hB191 := hB191.step s201 rfl
 replace hO193 := hO193.step s201 rfl rfl
 replace hM194 := hM194.step s201 rfl
 replace HF := HF.step s201 rfl
 refine WL.nil <|
  WC.seq <|
  WC.region <|
  E rfl (mv (ii z111.1) rfl) <|
  E rfl (e2 bin_eql rfl rfl) <|
  E rfl (mv (.bool (z111.1 == 3)) rfl) ?_
 rcases condE H with ⟨c203, H⟩ | ⟨c203, H⟩
 ·
  refine WL.guardYes rfl rfl rfl (vb c203 rfl) <|
   OW.ex rfl (mv (ii z127.1) rfl) <|
   WL.guardYes rfl rfl rfl (vb c203 rfl) <|
   OW.ex rfl (e2 bin_eql rfl rfl) <|
   E rfl (ex_pick_t (v := .bool (z127.1 == 5)) (vb c203 rfl) rfl) <|
   E rfl (mv (.bool (z127.1 == 5)) rfl) ?_
  rcases condE H with ⟨c204, H⟩ | ⟨c204, H⟩
  ·
   refine WL.guardYes rfl rfl rfl (vb c204 rfl) <|
    OW.ex rfl (mv (ii z143.1) rfl) <|
    WL.guardYes rfl rfl rfl (vb c204 rfl) <|
    OW.ex rfl (e2 bin_eql rfl rfl) <|
    E rfl (ex_pick_t (v := .bool (z143.1 == 8)) (vb c204 rfl) rfl) <|
    E rfl (mv (.bool (z143.1 == 8)) rfl) ?_
   rcases condE H with ⟨c205, H⟩ | ⟨c205, H⟩
   ·
    refine WL.guardYes rfl rfl rfl (vb c205 rfl) <|
     OW.ex rfl (ex_loadN (cs := [ii z111.2.1.f_Code, ii z111.2.1.f_At.f_Line, ii z111.2.1.f_At.f_Col, ii z111.2.1.f_At.f_Off]) rfl U35 rfl sz35 (hB126.cells rfl)) <|
     WL.guardYes rfl rfl rfl (vb c205 rfl) <|
     OW.ex rfl (ex_build (cs := [ii (0 : Int), ii (0 : Int), ii (0 : Int), ii (0 : Int)]) [(0, 1), (1, 3)] [] [ii 0, ii 0, ii 0, ii 0] U35 zr35 rfl (by kernel_rfl) rfl rfl) <|
     WL.guardYes rfl rfl rfl (vb c205 rfl) <|
     OW.ex rfl (ex_bin (a := .agg #[ii z111.2.1.f_Code, ii z111.2.1.f_At.f_Line, ii z111.2.1.f_At.f_Col, ii z111.2.1.f_At.f_Off]) (b := .agg #[ii (0 : Int), ii (0 : Int), ii (0 : Int), ii (0 : Int)]) (v := .bool (T_api_Fault.eqb z111.2.1 (⟨(0 : Int), (⟨(0 : Int), (0 : Int), (0 : Int)⟩ : T_api_Spot)⟩ : T_api_Fault))) rfl rfl (bin_eql_agg (by kernel_rfl) (EqR.agg U35 (by kernel_rfl) (EqF.cons (by decide) (PartR.one U31 rfl rfl) (PartR.one U31 rfl rfl) (EqR.int U31) (EqF.cons (by decide) (PartR.many U33 rfl sz33) (PartR.many U33 rfl sz33) (EqR.agg U33 (by kernel_rfl) (EqF.cons (by decide) (PartR.one U3 rfl rfl) (PartR.one U3 rfl rfl) (EqR.int U3) (EqF.cons (by decide) (PartR.one U3 rfl rfl) (PartR.one U3 rfl rfl) (EqR.int U3) (EqF.cons (by decide) (PartR.one U3 rfl rfl) (PartR.one U3 rfl rfl) (EqR.int U3) EqF.nil)))) EqF.nil))))) <|
     E rfl (ex_pick_t (v := .bool (T_api_Fault.eqb z111.2.1 (⟨(0 : Int), (⟨(0 : Int), (0 : Int), (0 : Int)⟩ : T_api_Spot)⟩ : T_api_Fault))) (vb c205 rfl) rfl) <|
     E rfl (mv (.bool (T_api_Fault.eqb z111.2.1 (⟨(0 : Int), (⟨(0 : Int), (0 : Int), (0 : Int)⟩ : T_api_Spot)⟩ : T_api_Fault))) rfl) ?_
    rcases condE H with ⟨c206, H⟩ | ⟨c206, H⟩
    ·
     refine WL.guardYes rfl rfl rfl (vb c206 rfl) <|
      OW.ex rfl (ex_loadN (cs := [ii z127.2.1.f_Code, ii z127.2.1.f_At.f_Line, ii z127.2.1.f_At.f_Col, ii z127.2.1.f_At.f_Off]) rfl U35 rfl sz35 (hB142.cells rfl)) <|
      WL.guardYes rfl rfl rfl (vb c206 rfl) <|
      OW.ex rfl (ex_loadN (cs := [ii z111.2.1.f_Code, ii z111.2.1.f_At.f_Line, ii z111.2.1.f_At.f_Col, ii z111.2.1.f_At.f_Off]) rfl U35 rfl sz35 (hB126.cells rfl)) <|
      WL.guardYes rfl rfl rfl (vb c206 rfl) <|
      OW.ex rfl (ex_bin (a := .agg #[ii z127.2.1.f_Code, ii z127.2.1.f_At.f_Line, ii z127.2.1.f_At.f_Col, ii z127.2.1.f_At.f_Off]) (b := .agg #[ii z111.2.1.f_Code, ii z111.2.1.f_At.f_Line, ii z111.2.1.f_At.f_Col, ii z111.2.1.f_At.f_Off]) (v := .bool (T_api_Fault.eqb z127.2.1 z111.2.1)) rfl rfl (bin_eql_agg (by kernel_rfl) (EqR.agg U35 (by kernel_rfl) (EqF.cons (by decide) (PartR.one U31 rfl rfl) (PartR.one U31 rfl rfl) (EqR.int U31) (EqF.cons (by decide) (PartR.many U33 rfl sz33) (PartR.many U33 rfl sz33) (EqR.agg U33 (by kernel_rfl) (EqF.cons (by decide) (PartR.one U3 rfl rfl) (PartR.one U3 rfl rfl) (EqR.int U3) (EqF.cons (by decide) (PartR.one U3 rfl rfl) (PartR.one U3 rfl rfl) (EqR.int U3) (EqF.cons (by decide) (PartR.one U3 rfl rfl) (PartR.one U3 rfl rfl) (EqR.int U3) EqF.nil)))) EqF.nil))))) <|
      E rfl (ex_pick_t (v := .bool (T_api_Fault.eqb z127.2.1 z111.2.1)) (vb c206 rfl) rfl) <|
      E rfl (mv (.bool (T_api_Fault.eqb z127.2.1 z111.2.1)) rfl) ?_
     rcases condE H with ⟨c207, H⟩ | ⟨c207, H⟩
     ·
      refine WL.guardYes rfl rfl rfl (vb c207 rfl) <|
       OW.ex rfl (ex_loadN (cs := [ii z143.2.1.f_Code, ii z143.2.1.f_At.f_Line, ii z143.2.1.f_At.f_Col, ii z143.2.1.f_At.f_Off]) rfl U35 rfl sz35 (hB158.cells rfl)) <|
       WL.guardYes rfl rfl rfl (vb c207 rfl) <|
       OW.ex rfl (ex_loadN (cs := [ii z111.2.1.f_Code, ii z111.2.1.f_At.f_Line, ii z111.2.1.f_At.f_Col, ii z111.2.1.f_At.f_Off]) rfl U35 rfl sz35 (hB126.cells rfl)) <|
       WL.guardYes rfl rfl rfl (vb c207 rfl) <|
       OW.ex rfl (ex_bin (a := .agg #[ii z143.2.1.f_Code, ii z143.2.1.f_At.f_Line, ii z143.2.1.f_At.f_Col, ii z143.2.1.f_At.f_Off]) (b := .agg #[ii z111.2.1.f_Code, ii z111.2.1.f_At.f_Line, ii z111.2.1.f_At.f_Col, ii z111.2.1.f_At.f_Off]) (v := .bool (T_api_Fault.eqb z143.2.1 z111.2.1)) rfl rfl (bin_eql_agg (by kernel_rfl) (EqR.agg U35 (by kernel_rfl) (EqF.cons (by decide) (PartR.one U31 rfl rfl) (PartR.one U31 rfl rfl) (EqR.int U31) (EqF.cons (by decide) (PartR.many U33 rfl sz33) (PartR.many U33 rfl sz33) (EqR.agg U33 (by kernel_rfl) (EqF.cons (by decide) (PartR.one U3 rfl rfl) (PartR.one U3 rfl rfl) (EqR.int U3) (EqF.cons (by decide) (PartR.one U3 rfl rfl) (PartR.one U3 rfl rfl) (EqR.int U3) (EqF.cons (by decide) (PartR.one U3 rfl rfl) (PartR.one U3 rfl rfl) (EqR.int U3) EqF.nil)))) EqF.nil))))) <|
       E rfl (ex_pick_t (v := .bool (T_api_Fault.eqb z143.2.1 z111.2.1)) (vb c207 rfl) rfl) <|
       E rfl (mv (.bool (T_api_Fault.eqb z143.2.1 z111.2.1)) rfl) ?_
      rcases condE H with ⟨c208, H⟩ | ⟨c208, H⟩
      ·
       refine WL.guardYes rfl rfl rfl (vb c208 rfl) <|
        OW.ex rfl (mv (encS z159.1) rfl) <|
        WL.guardYes rfl rfl rfl (vb c208 rfl) <|
        OW.ex rfl (e2 bin_eql_str rfl rfl) <|
        E rfl (ex_pick_t (v := .bool (z159.1 == ([40, 112, 32, 45, 62, 32, 113, 41, 32, 38, 32, 40, 113, 32, 45, 62, 32, 112, 41] : List UInt8))) (vb c208 rfl) rfl) <|
        E rfl (mv (.bool (z159.1 == ([40, 112, 32, 45, 62, 32, 113, 41, 32, 38, 32, 40, 113, 32, 45, 62, 32, 112, 41] : List UInt8))) rfl) ?_
       rcases condE H with ⟨c209, H⟩ | ⟨c209, H⟩
       ·
        refine WL.guardYes rfl rfl rfl (vb c209 rfl) <|
         OW.ex rfl (mv (ii z159.2) rfl) <|
         WL.guardYes rfl rfl rfl (vb c209 rfl) ?_
        obtain ⟨z210, hz210, H⟩ := bindE H
        refine OW.call [ii z159.2] rfl Tryd.func10 (by kernel_rfl) (by kernel_rfl) (map_cons' rfl rfl) (dictumlaw04_num.calls _ _ z159.2 z210 (HF.ten (V := [0]) (L := []) rfl)  hz210) ?_
        rintro _ w211 ⟨o212, rfl, s213⟩
        refine ⟨_, rfl, ?_⟩
        replace s213 := un_stepL (J := []) (L' := []) s213 rfl rfl
        replace hG := hG.step s213 rfl
        replace hB126 := hB126.step s213 rfl
        replace hB142 := hB142.step s213 rfl
        replace hB158 := hB158.step s213 rfl
        replace hB178 := hB178.step s213 rfl
        replace hO183 := hO183.step s213 rfl rfl
        replace hB191 := hB191.step s213 rfl
        replace hO193 := hO193.step s213 rfl rfl
        replace hM194 := hM194.step s213 rfl
        replace hB202 := hB202.step s213 rfl
        replace HF := HF.step s213 rfl
        refine WL.guardYes rfl rfl rfl (vb c209 rfl) <|
         OW.ex rfl (e2 bin_eql rfl rfl) <|
         E rfl (ex_pick_t (v := .bool (z210 == 0)) (vb c209 rfl) rfl) <|
         E rfl (mv (.bool (z210 == 0)) rfl) ?_
        rcases condE H with ⟨c214, H⟩ | ⟨c214, H⟩
        ·
         refine WL.guardYes rfl rfl rfl (vb c214 rfl) <|
          OW.ex rfl (ex_loadN (cs := [ii z163.2.1.f_Code, ii z163.2.1.f_At.f_Line, ii z163.2.1.f_At.f_Col, ii z163.2.1.f_At.f_Off]) rfl U35 rfl sz35 (hB178.cells rfl)) <|
          WL.guardYes rfl rfl rfl (vb c214 rfl) <|
          OW.ex rfl (ex_build (cs := [ii 1, ii 5, ii 4]) [(0, 1), (1, 1), (2, 1)] [(0, ii 1), (1, ii 5), (2, ii 4)] [ii 0, ii 0, ii 0] U33 zr33 rfl (by kernel_rfl) (evs_cons rfl (evs_cons rfl (evs_cons rfl rfl))) rfl) <|
          WL.guardYes rfl rfl rfl (vb c214 rfl) <|
          OW.ex rfl (ex_build (cs := [ii 41, ii 1, ii 5, ii 4]) [(0, 1), (1, 3)] [(0, ii 41), (1, .agg #[ii 1, ii 5, ii 4])] [ii 0, ii 0, ii 0, ii 0] U35 zr35 rfl (by kernel_rfl) (evs_cons rfl (evs_cons rfl rfl)) rfl) <|
          WL.guardYes rfl rfl rfl (vb c214 rfl) <|
          OW.ex rfl (ex_bin (a := .agg #[ii z163.2.1.f_Code, ii z163.2.1.f_At.f_Line, ii z163.2.1.f_At.f_Col, ii z163.2.1.f_At.f_Off]) (b := .agg #[ii 41, ii 1, ii 5, ii 4]) (v := .bool (T_api_Fault.eqb z163.2.1 (⟨41, (⟨1, 5, 4⟩ : T_api_Spot)⟩ : T_api_Fault))) rfl rfl (bin_eql_agg (by kernel_rfl) (EqR.agg U35 (by kernel_rfl) (EqF.cons (by decide) (PartR.one U31 rfl rfl) (PartR.one U31 rfl rfl) (EqR.int U31) (EqF.cons (by decide) (PartR.many U33 rfl sz33) (PartR.many U33 rfl sz33) (EqR.agg U33 (by kernel_rfl) (EqF.cons (by decide) (PartR.one U3 rfl rfl) (PartR.one U3 rfl rfl) (EqR.int U3) (EqF.cons (by decide) (PartR.one U3 rfl rfl) (PartR.one U3 rfl rfl) (EqR.int U3) (EqF.cons (by decide) (PartR.one U3 rfl rfl) (PartR.one U3 rfl rfl) (EqR.int U3) EqF.nil)))) EqF.nil))))) <|
          E rfl (ex_pick_t (v := .bool (T_api_Fault.eqb z163.2.1 (⟨41, (⟨1, 5, 4⟩ : T_api_Spot)⟩ : T_api_Fault))) (vb c214 rfl) rfl) <|
          E rfl (mv (.bool (T_api_Fault.eqb z163.2.1 (⟨41, (⟨1, 5, 4⟩ : T_api_Spot)⟩ : T_api_Fault))) rfl) ?_
         rcases condE H with ⟨c215, H⟩ | ⟨c215, H⟩
         ·
          refine WL.guardYes rfl rfl rfl (vb c215 rfl) <|
           OW.ex rfl (mv (ii z187.1) rfl) <|
           WL.guardYes rfl rfl rfl (vb c215 rfl) <|
           OW.ex rfl (e2 bin_eql rfl rfl) <|
           E rfl (ex_pick_t (v := .bool (z187.1 == 0)) (vb c215 rfl) rfl) <|
           E rfl (mv (.bool (z187.1 == 0)) rfl) ?_
          rcases condE H with ⟨c216, H⟩ | ⟨c216, H⟩
          ·
           refine WL.guardYes rfl rfl rfl (vb c216 rfl) <|
            OW.ex rfl (mv (ii z187.2.1) rfl) <|
            WL.guardYes rfl rfl rfl (vb c216 rfl) <|
            OW.ex rfl (e2 bin_eql rfl rfl) <|
            E rfl (ex_pick_t (v := .bool (z187.2.1 == 1)) (vb c216 rfl) rfl) <|
            E rfl (mv (.bool (z187.2.1 == 1)) rfl) ?_
           rcases condE H with ⟨c217, H⟩ | ⟨c217, H⟩
           ·
            refine WL.guardYes rfl rfl rfl (vb c217 rfl) <|
             OW.ex rfl (ex_loadN (cs := [ii z187.2.2.1.f_Code, ii z187.2.2.1.f_At.f_Line, ii z187.2.2.1.f_At.f_Col, ii z187.2.2.1.f_At.f_Off]) rfl U35 rfl sz35 (hB202.cells rfl)) <|
             WL.guardYes rfl rfl rfl (vb c217 rfl) <|
             OW.ex rfl (ex_loadN (cs := [ii z111.2.1.f_Code, ii z111.2.1.f_At.f_Line, ii z111.2.1.f_At.f_Col, ii z111.2.1.f_At.f_Off]) rfl U35 rfl sz35 (hB126.cells rfl)) <|
             WL.guardYes rfl rfl rfl (vb c217 rfl) <|
             OW.ex rfl (ex_bin (a := .agg #[ii z187.2.2.1.f_Code, ii z187.2.2.1.f_At.f_Line, ii z187.2.2.1.f_At.f_Col, ii z187.2.2.1.f_At.f_Off]) (b := .agg #[ii z111.2.1.f_Code, ii z111.2.1.f_At.f_Line, ii z111.2.1.f_At.f_Col, ii z111.2.1.f_At.f_Off]) (v := .bool (T_api_Fault.eqb z187.2.2.1 z111.2.1)) rfl rfl (bin_eql_agg (by kernel_rfl) (EqR.agg U35 (by kernel_rfl) (EqF.cons (by decide) (PartR.one U31 rfl rfl) (PartR.one U31 rfl rfl) (EqR.int U31) (EqF.cons (by decide) (PartR.many U33 rfl sz33) (PartR.many U33 rfl sz33) (EqR.agg U33 (by kernel_rfl) (EqF.cons (by decide) (PartR.one U3 rfl rfl) (PartR.one U3 rfl rfl) (EqR.int U3) (EqF.cons (by decide) (PartR.one U3 rfl rfl) (PartR.one U3 rfl rfl) (EqR.int U3) (EqF.cons (by decide) (PartR.one U3 rfl rfl) (PartR.one U3 rfl rfl) (EqR.int U3) EqF.nil)))) EqF.nil))))) <|
             E rfl (ex_pick_t (v := .bool (T_api_Fault.eqb z187.2.2.1 z111.2.1)) (vb c217 rfl) rfl) <|
             E rfl (mv (.bool (T_api_Fault.eqb z187.2.2.1 z111.2.1)) rfl) ?_
            rcases condE H with ⟨c218, H⟩ | ⟨c218, H⟩
            ·
             refine WL.guardYes rfl rfl rfl (vb c218 rfl) <|
              OW.ex rfl (mv (pp b105 0) rfl) <|
              WL.guardYes rfl rfl rfl (vb c218 rfl) ?_
             obtain ⟨z219, hz219, H⟩ := bindE H
             refine OW.call [pp b105 0] rfl Tryd.func11 (by kernel_rfl) (by kernel_rfl) (map_cons' rfl rfl) (formula_Table_Len.calls _ _ b105 v192 b109 z187.2.2.2.1 z187.2.2.2.2 z219 (HF.ten (V := [0]) (L := [40, 41, 42]) rfl) (Bk.vw hB191 rfl) (Own.vw hO193 rfl rfl) (Mp.vw hM194 rfl) hz219) ?_
             rintro _ w220 ⟨o221, rfl, s222⟩
             refine ⟨_, rfl, ?_⟩
             replace s222 := un_stepL (J := []) (L' := []) s222 rfl rfl
             replace hG := hG.step s222 rfl
             replace hB126 := hB126.step s222 rfl
             replace hB142 := hB142.step s222 rfl
             replace hB158 := hB158.step s222 rfl
             replace hB178 := hB178.step s222 rfl
             replace hO183 := hO183.step s222 rfl rfl
             replace hB191 := hB191.step s222 rfl
             replace hO193 := hO193.step s222 rfl rfl
             replace hM194 := hM194.step s222 rfl
             replace hB202 := hB202.step s222 rfl
             replace HF := HF.step s222 rfl
             refine WL.guardYes rfl rfl rfl (vb c218 rfl) <|
              OW.ex rfl (e2 bin_eql rfl rfl) <|
              E rfl (ex_pick_t (v := .bool (z219 == 9)) (vb c218 rfl) rfl) <|
              E rfl (mv (.bool (z219 == 9)) rfl) ?_
             rcases condE H with ⟨c223, H⟩ | ⟨c223, H⟩
             ·
              refine WL.guardYes rfl rfl rfl (vb c223 rfl) ?_
              obtain ⟨z224, hz224, H⟩ := bindE H
              refine OW.call [encS ([112, 32, 38, 32, 126, 113, 32, 36, 32, 114] : List UInt8)] rfl Tryd.func12 (by kernel_rfl) (by kernel_rfl) (map_cons' rfl rfl) (syntax_Count.calls k _ _ ([112, 32, 38, 32, 126, 113, 32, 36, 32, 114] : List UInt8) z224 (HF.ten (V := [0]) (L := []) rfl) (Gl.vw hG rfl) hz224) ?_
              rintro _ w225 ⟨o226, rfl, s227⟩
              refine ⟨_, rfl, ?_⟩
              replace s227 := un_stepL (J := []) (L' := []) s227 rfl rfl
              replace hG := hG.step s227 rfl
              replace hB126 := hB126.step s227 rfl
              replace hB142 := hB142.step s227 rfl
              replace hB158 := hB158.step s227 rfl
              replace hB178 := hB178.step s227 rfl
              replace hO183 := hO183.step s227 rfl rfl
              replace hB191 := hB191.step s227 rfl
              replace hO193 := hO193.step s227 rfl rfl
              replace hM194 := hM194.step s227 rfl
              replace hB202 := hB202.step s227 rfl
              replace HF := HF.step s227 rfl
              refine WL.guardYes rfl rfl rfl (vb c223 rfl) <|
               OW.ex rfl (e2 bin_eql rfl rfl) <|
               E rfl (ex_pick_t (v := .bool (z224 == 4)) (vb c223 rfl) rfl) <|
               E rfl (sg (.bool (z224 == 4)) rfl) <|
               WL.nil <|
               WC.ret ?_
              obtain rfl := Option.some.inj H
              exact ⟨_, (.tmp (.bool (z224 == 4) : Value) rfl .nil), _, rfl, HF.out⟩
             ·
              refine WL.guardNo rfl rfl rfl (vb c223 rfl) <|
               WL.guardNo rfl rfl rfl (vb c223 rfl) <|
               E rfl (ex_pick_f (v := .bool false) (vb c223 rfl) rfl) <|
               E rfl (sg (.bool false) rfl) <|
               WL.nil <|
               WC.ret ?_
              obtain rfl := Option.some.inj H
              exact ⟨_, (.tmp (.bool false : Value) rfl .nil), _, rfl, HF.out⟩
            ·
             refine WL.guardNo rfl rfl rfl (vb c218 rfl) <|
              WL.guardNo rfl rfl rfl (vb c218 rfl) <|
              WL.guardNo rfl rfl rfl (vb c218 rfl) <|
              E rfl (ex_pick_f (v := .bool false) (vb c218 rfl) rfl) <|
              E rfl (mv (.bool false) rfl) <|
              WL.guardNo rfl rfl rfl rfl <|
              WL.guardNo rfl rfl rfl rfl <|
              E rfl (ex_pick_f (v := .bool false) rfl rfl) <|
              E rfl (sg (.bool false) rfl) <|
              WL.nil <|
              WC.ret ?_
             obtain rfl := Option.some.inj H
             exact ⟨_, (.tmp (.bool false : Value) rfl .nil), _, rfl, HF.out⟩
           ·
            refine WL.guardNo rfl rfl rfl (vb c217 rfl) <|
             WL.guardNo rfl rfl rfl (vb c217 rfl) <|
             WL.guardNo rfl rfl rfl (vb c217 rfl) <|
             E rfl (ex_pick_f (v := .bool false) (vb c217 rfl) rfl) <|
             E rfl (mv (.bool false) rfl) <|
             WL.guardNo rfl rfl rfl rfl <|
             WL.guardNo rfl rfl rfl rfl <|
             WL.guardNo rfl rfl rfl rfl <|
             E rfl (ex_pick_f (v := .bool false) rfl rfl) <|
             E rfl (mv (.bool false) rfl) <|
             WL.guardNo rfl rfl rfl rfl <|
             WL.guardNo rfl rfl rfl rfl <|
             E rfl (ex_pick_f (v := .bool false) rfl rfl) <|
             E rfl (sg (.bool false) rfl) <|
             WL.nil <|
             WC.ret ?_
            obtain rfl := Option.some.inj H
            exact ⟨_, (.tmp (.bool false : Value) rfl .nil), _, rfl, HF.out⟩
          ·
           refine WL.guardNo rfl rfl rfl (vb c216 rfl) <|
            WL.guardNo rfl rfl rfl (vb c216 rfl) <|
            E rfl (ex_pick_f (v := .bool false) (vb c216 rfl) rfl) <|
            E rfl (mv (.bool false) rfl) <|
            WL.guardNo rfl rfl rfl rfl <|
            WL.guardNo rfl rfl rfl rfl <|
            WL.guardNo rfl rfl rfl rfl <|
            E rfl (ex_pick_f (v := .bool false) rfl rfl) <|
            E rfl (mv (.bool false) rfl) <|
            WL.guardNo rfl rfl rfl rfl <|
            WL.guardNo rfl rfl rfl rfl <|
            WL.guardNo rfl rfl rfl rfl <|
            E rfl (ex_pick_f (v := .bool false) rfl rfl) <|
            E rfl (mv (.bool false) rfl) <|
            WL.guardNo rfl rfl rfl rfl <|
            WL.guardNo rfl rfl rfl rfl <|
            E rfl (ex_pick_f (v := .bool false) rfl rfl) <|
            E rfl (sg (.bool false) rfl) <|
            WL.nil <|
            WC.ret ?_
           obtain rfl := Option.some.inj H
           exact ⟨_, (.tmp (.bool false : Value) rfl .nil), _, rfl, HF.out⟩
         ·
          refine WL.guardNo rfl rfl rfl (vb c215 rfl) <|
           WL.guardNo rfl rfl rfl (vb c215 rfl) <|
           E rfl (ex_pick_f (v := .bool false) (vb c215 rfl) rfl) <|
           E rfl (mv (.bool false) rfl) <|
           WL.guardNo rfl rfl rfl rfl <|
           WL.guardNo rfl rfl rfl rfl <|
           E rfl (ex_pick_f (v := .bool false) rfl rfl) <|
           E rfl (mv (.bool false) rfl) <|
           WL.guardNo rfl rfl rfl rfl <|
           WL.guardNo rfl rfl rfl rfl <|
           WL.guardNo rfl rfl rfl rfl <|
           E rfl (ex_pick_f (v := .bool false) rfl rfl) <|
           E rfl (mv (.bool false) rfl) <|
           WL.guardNo rfl rfl rfl rfl <|
           WL.guardNo rfl rfl rfl rfl <|
           WL.guardNo rfl rfl rfl rfl <|
           E rfl (ex_pick_f (v := .bool false) rfl rfl) <|
           E rfl (mv (.bool false) rfl) <|
           WL.guardNo rfl rfl rfl rfl <|
           WL.guardNo rfl rfl rfl rfl <|
           E rfl (ex_pick_f (v := .bool false) rfl rfl) <|
           E rfl (sg (.bool false) rfl) <|
           WL.nil <|
           WC.ret ?_
          obtain rfl := Option.some.inj H
          exact ⟨_, (.tmp (.bool false : Value) rfl .nil), _, rfl, HF.out⟩
        ·
         refine WL.guardNo rfl rfl rfl (vb c214 rfl) <|
          WL.guardNo rfl rfl rfl (vb c214 rfl) <|
          WL.guardNo rfl rfl rfl (vb c214 rfl) <|
          WL.guardNo rfl rfl rfl (vb c214 rfl) <|
          E rfl (ex_pick_f (v := .bool false) (vb c214 rfl) rfl) <|
          E rfl (mv (.bool false) rfl) <|
          WL.guardNo rfl rfl rfl rfl <|
          WL.guardNo rfl rfl rfl rfl <|
          E rfl (ex_pick_f (v := .bool false) rfl rfl) <|
          E rfl (mv (.bool false) rfl) <|
          WL.guardNo rfl rfl rfl rfl <|
          WL.guardNo rfl rfl rfl rfl <|
          E rfl (ex_pick_f (v := .bool false) rfl rfl) <|
          E rfl (mv (.bool false) rfl) <|
          WL.guardNo rfl rfl rfl rfl <|
          WL.guardNo rfl rfl rfl rfl <|
          WL.guardNo rfl rfl rfl rfl <|
          E rfl (ex_pick_f (v := .bool false) rfl rfl) <|
          E rfl (mv (.bool false) rfl) <|
          WL.guardNo rfl rfl rfl rfl <|
          WL.guardNo rfl rfl rfl rfl <|
          WL.guardNo rfl rfl rfl rfl <|
          E rfl (ex_pick_f (v := .bool false) rfl rfl) <|
          E rfl (mv (.bool false) rfl) <|
          WL.guardNo rfl rfl rfl rfl ?_
         refine WL.guardNo rfl rfl rfl rfl <|
          E rfl (ex_pick_f (v := .bool false) rfl rfl) <|
          E rfl (sg (.bool false) rfl) <|
          WL.nil <|
          WC.ret ?_
         obtain rfl := Option.some.inj H
         exact ⟨_, (.tmp (.bool false : Value) rfl .nil), _, rfl, HF.out⟩
       ·
        refine WL.guardNo rfl rfl rfl (vb c209 rfl) <|
         WL.guardNo rfl rfl rfl (vb c209 rfl) <|
         WL.guardNo rfl rfl rfl (vb c209 rfl) <|
         E rfl (ex_pick_f (v := .bool false) (vb c209 rfl) rfl) <|
         E rfl (mv (.bool false) rfl) <|
         WL.guardNo rfl rfl rfl rfl <|
         WL.guardNo rfl rfl rfl rfl <|
         WL.guardNo rfl rfl rfl rfl <|
         WL.guardNo rfl rfl rfl rfl <|
         E rfl (ex_pick_f (v := .bool false) rfl rfl) <|
         E rfl (mv (.bool false) rfl) <|
         WL.guardNo rfl rfl rfl rfl <|
         WL.guardNo rfl rfl rfl rfl <|
         E rfl (ex_pick_f (v := .bool false) rfl rfl) <|
         E rfl (mv (.bool false) rfl) <|
         WL.guardNo rfl rfl rfl rfl <|
         WL.guardNo rfl rfl rfl rfl <|
         E rfl (ex_pick_f (v := .bool false) rfl rfl) <|
         E rfl (mv (.bool false) rfl) <|
         WL.guardNo rfl rfl rfl rfl <|
         WL.guardNo rfl rfl rfl rfl <|
         WL.guardNo rfl rfl rfl rfl <|
         E rfl (ex_pick_f (v := .bool false) rfl rfl) <|
         E rfl (mv (.bool false) rfl) <|
         WL.guardNo rfl rfl rfl rfl ?_
        refine WL.guardNo rfl rfl rfl rfl <|
         WL.guardNo rfl rfl rfl rfl <|
         E rfl (ex_pick_f (v := .bool false) rfl rfl) <|
         E rfl (mv (.bool false) rfl) <|
         WL.guardNo rfl rfl rfl rfl <|
         WL.guardNo rfl rfl rfl rfl <|
         E rfl (ex_pick_f (v := .bool false) rfl rfl) <|
         E rfl (sg (.bool false) rfl) <|
         WL.nil <|
         WC.ret ?_
        obtain rfl := Option.some.inj H
        exact ⟨_, (.tmp (.bool false : Value) rfl .nil), _, rfl, HF.out⟩
      ·
       refine WL.guardNo rfl rfl rfl (vb c208 rfl) <|
        WL.guardNo rfl rfl rfl (vb c208 rfl) <|
        E rfl (ex_pick_f (v := .bool false) (vb c208 rfl) rfl) <|
        E rfl (mv (.bool false) rfl) <|
        WL.guardNo rfl rfl rfl rfl <|
        WL.guardNo rfl rfl rfl rfl <|
        WL.guardNo rfl rfl rfl rfl <|
        E rfl (ex_pick_f (v := .bool false) rfl rfl) <|
        E rfl (mv (.bool false) rfl) <|
        WL.guardNo rfl rfl rfl rfl <|
        WL.guardNo rfl rfl rfl rfl <|
        WL.guardNo rfl rfl rfl rfl <|
        WL.guardNo rfl rfl rfl rfl <|
        E rfl (ex_pick_f (v := .bool false) rfl rfl) <|
        E rfl (mv (.bool false) rfl) <|
        WL.guardNo rfl rfl rfl rfl <|
        WL.guardNo rfl rfl rfl rfl <|
        E rfl (ex_pick_f (v := .bool false) rfl rfl) <|
        E rfl (mv (.bool false) rfl) <|
        WL.guardNo rfl rfl rfl rfl <|
        WL.guardNo rfl rfl rfl rfl <|
        E rfl (ex_pick_f (v := .bool false) rfl rfl) <|
        E rfl (mv (.bool false) rfl) <|
        WL.guardNo rfl rfl rfl rfl <|
        WL.guardNo rfl rfl rfl rfl ?_
       refine WL.guardNo rfl rfl rfl rfl <|
        E rfl (ex_pick_f (v := .bool false) rfl rfl) <|
        E rfl (mv (.bool false) rfl) <|
        WL.guardNo rfl rfl rfl rfl <|
        WL.guardNo rfl rfl rfl rfl <|
        WL.guardNo rfl rfl rfl rfl <|
        E rfl (ex_pick_f (v := .bool false) rfl rfl) <|
        E rfl (mv (.bool false) rfl) <|
        WL.guardNo rfl rfl rfl rfl <|
        WL.guardNo rfl rfl rfl rfl <|
        E rfl (ex_pick_f (v := .bool false) rfl rfl) <|
        E rfl (sg (.bool false) rfl) <|
        WL.nil <|
        WC.ret ?_
       obtain rfl := Option.some.inj H
       exact ⟨_, (.tmp (.bool false : Value) rfl .nil), _, rfl, HF.out⟩
     ·
      refine WL.guardNo rfl rfl rfl (vb c207 rfl) <|
       WL.guardNo rfl rfl rfl (vb c207 rfl) <|
       WL.guardNo rfl rfl rfl (vb c207 rfl) <|
       E rfl (ex_pick_f (v := .bool false) (vb c207 rfl) rfl) <|
       E rfl (mv (.bool false) rfl) <|
       WL.guardNo rfl rfl rfl rfl <|
       WL.guardNo rfl rfl rfl rfl <|
       E rfl (ex_pick_f (v := .bool false) rfl rfl) <|
       E rfl (mv (.bool false) rfl) <|
       WL.guardNo rfl rfl rfl rfl <|
       WL.guardNo rfl rfl rfl rfl <|
       WL.guardNo rfl rfl rfl rfl <|
       E rfl (ex_pick_f (v := .bool false) rfl rfl) <|
       E rfl (mv (.bool false) rfl) <|
       WL.guardNo rfl rfl rfl rfl <|
       WL.guardNo rfl rfl rfl rfl <|
       WL.guardNo rfl rfl rfl rfl <|
       WL.guardNo rfl rfl rfl rfl <|
       E rfl (ex_pick_f (v := .bool false) rfl rfl) <|
       E rfl (mv (.bool false) rfl) <|
       WL.guardNo rfl rfl rfl rfl <|
       WL.guardNo rfl rfl rfl rfl <|
       E rfl (ex_pick_f (v := .bool false) rfl rfl) <|
       E rfl (mv (.bool false) rfl) <|
       WL.guardNo rfl rfl rfl rfl ?_
      refine WL.guardNo rfl rfl rfl rfl <|
       E rfl (ex_pick_f (v := .bool false) rfl rfl) <|
       E rfl (mv (.bool false) rfl) <|
       WL.guardNo rfl rfl rfl rfl <|
       WL.guardNo rfl rfl rfl rfl <|
       WL.guardNo rfl rfl rfl rfl <|
       E rfl (ex_pick_f (v := .bool false) rfl rfl) <|
       E rfl (mv (.bool false) rfl) <|
       WL.guardNo rfl rfl rfl rfl <|
       WL.guardNo rfl rfl rfl rfl <|
       WL.guardNo rfl rfl rfl rfl <|
       E rfl (ex_pick_f (v := .bool false) rfl rfl) <|
       E rfl (mv (.bool false) rfl) <|
       WL.guardNo rfl rfl rfl rfl <|
       WL.guardNo rfl rfl rfl rfl <|
       E rfl (ex_pick_f (v := .bool false) rfl rfl) <|
       E rfl (sg (.bool false) rfl) <|
       WL.nil <|
       WC.ret ?_
      obtain rfl := Option.some.inj H
      exact ⟨_, (.tmp (.bool false : Value) rfl .nil), _, rfl, HF.out⟩
    ·
     refine WL.guardNo rfl rfl rfl (vb c206 rfl) <|
      WL.guardNo rfl rfl rfl (vb c206 rfl) <|
      WL.guardNo rfl rfl rfl (vb c206 rfl) <|
      E rfl (ex_pick_f (v := .bool false) (vb c206 rfl) rfl) <|
      E rfl (mv (.bool false) rfl) <|
      WL.guardNo rfl rfl rfl rfl <|
      WL.guardNo rfl rfl rfl rfl <|
      WL.guardNo rfl rfl rfl rfl <|
      E rfl (ex_pick_f (v := .bool false) rfl rfl) <|
      E rfl (mv (.bool false) rfl) <|
      WL.guardNo rfl rfl rfl rfl <|
      WL.guardNo rfl rfl rfl rfl <|
      E rfl (ex_pick_f (v := .bool false) rfl rfl) <|
      E rfl (mv (.bool false) rfl) <|
      WL.guardNo rfl rfl rfl rfl <|
      WL.guardNo rfl rfl rfl rfl <|
      WL.guardNo rfl rfl rfl rfl <|
      E rfl (ex_pick_f (v := .bool false) rfl rfl) <|
      E rfl (mv (.bool false) rfl) <|
      WL.guardNo rfl rfl rfl rfl <|
      WL.guardNo rfl rfl rfl rfl <|
      WL.guardNo rfl rfl rfl rfl <|
      WL.guardNo rfl rfl rfl rfl <|
      E rfl (ex_pick_f (v := .bool false) rfl rfl) <|
      E rfl (mv (.bool false) rfl) ?_
     refine WL.guardNo rfl rfl rfl rfl <|
      WL.guardNo rfl rfl rfl rfl <|
      E rfl (ex_pick_f (v := .bool false) rfl rfl) <|
      E rfl (mv (.bool false) rfl) <|
      WL.guardNo rfl rfl rfl rfl <|
      WL.guardNo rfl rfl rfl rfl <|
      E rfl (ex_pick_f (v := .bool false) rfl rfl) <|
      E rfl (mv (.bool false) rfl) <|
      WL.guardNo rfl rfl rfl rfl <|
      WL.guardNo rfl rfl rfl rfl <|
      WL.guardNo rfl rfl rfl rfl <|
      E rfl (ex_pick_f (v := .bool false) rfl rfl) <|
      E rfl (mv (.bool false) rfl) <|
      WL.guardNo rfl rfl rfl rfl <|
      WL.guardNo rfl rfl rfl rfl <|
      WL.guardNo rfl rfl rfl rfl <|
      E rfl (ex_pick_f (v := .bool false) rfl rfl) <|
      E rfl (mv (.bool false) rfl) <|
      WL.guardNo rfl rfl rfl rfl <|
      WL.guardNo rfl rfl rfl rfl <|
      E rfl (ex_pick_f (v := .bool false) rfl rfl) <|
      E rfl (sg (.bool false) rfl) <|
      WL.nil <|
      WC.ret ?_
     obtain rfl := Option.some.inj H
     exact ⟨_, (.tmp (.bool false : Value) rfl .nil), _, rfl, HF.out⟩
   ·
    refine WL.guardNo rfl rfl rfl (vb c205 rfl) <|
     WL.guardNo rfl rfl rfl (vb c205 rfl) <|
     WL.guardNo rfl rfl rfl (vb c205 rfl) <|
     E rfl (ex_pick_f (v := .bool false) (vb c205 rfl) rfl) <|
     E rfl (mv (.bool false) rfl) <|
     WL.guardNo rfl rfl rfl rfl <|
     WL.guardNo rfl rfl rfl rfl <|
     WL.guardNo rfl rfl rfl rfl <|
     E rfl (ex_pick_f (v := .bool false) rfl rfl) <|
     E rfl (mv (.bool false) rfl) <|
     WL.guardNo rfl rfl rfl rfl <|
     WL.guardNo rfl rfl rfl rfl <|
     WL.guardNo rfl rfl rfl rfl <|
     E rfl (ex_pick_f (v := .bool false) rfl rfl) <|
     E rfl (mv (.bool false) rfl) <|
     WL.guardNo rfl rfl rfl rfl <|
     WL.guardNo rfl rfl rfl rfl <|
     E rfl (ex_pick_f (v := .bool false) rfl rfl) <|
     E rfl (mv (.bool false) rfl) <|
     WL.guardNo rfl rfl rfl rfl <|
     WL.guardNo rfl rfl rfl rfl <|
     WL.guardNo rfl rfl rfl rfl <|
     E rfl (ex_pick_f (v := .bool false) rfl rfl) <|
     E rfl (mv (.bool false) rfl) <|
     WL.guardNo rfl rfl rfl rfl ?_
    refine WL.guardNo rfl rfl rfl rfl <|
     WL.guardNo rfl rfl rfl rfl <|
     WL.guardNo rfl rfl rfl rfl <|
     E rfl (ex_pick_f (v := .bool false) rfl rfl) <|
     E rfl (mv (.bool false) rfl) <|
     WL.guardNo rfl rfl rfl rfl <|
     WL.guardNo rfl rfl rfl rfl <|
     E rfl (ex_pick_f (v := .bool false) rfl rfl) <|
     E rfl (mv (.bool false) rfl) <|
     WL.guardNo rfl rfl rfl rfl <|
     WL.guardNo rfl rfl rfl rfl <|
     E rfl (ex_pick_f (v := .bool false) rfl rfl) <|
     E rfl (mv (.bool false) rfl) <|
     WL.guardNo rfl rfl rfl rfl <|
     WL.guardNo rfl rfl rfl rfl <|
     WL.guardNo rfl rfl rfl rfl <|
     E rfl (ex_pick_f (v := .bool false) rfl rfl) <|
     E rfl (mv (.bool false) rfl) <|
     WL.guardNo rfl rfl rfl rfl <|
     WL.guardNo rfl rfl rfl rfl <|
     WL.guardNo rfl rfl rfl rfl <|
     E rfl (ex_pick_f (v := .bool false) rfl rfl) <|
     E rfl (mv (.bool false) rfl) <|
     WL.guardNo rfl rfl rfl rfl <|
     WL.guardNo rfl rfl rfl rfl ?_
    refine E rfl (ex_pick_f (v := .bool false) rfl rfl) <|
     E rfl (sg (.bool false) rfl) <|
     WL.nil <|
     WC.ret ?_
    obtain rfl := Option.some.inj H
    exact ⟨_, (.tmp (.bool false : Value) rfl .nil), _, rfl, HF.out⟩
  ·
   refine WL.guardNo rfl rfl rfl (vb c204 rfl) <|
    WL.guardNo rfl rfl rfl (vb c204 rfl) <|
    E rfl (ex_pick_f (v := .bool false) (vb c204 rfl) rfl) <|
    E rfl (mv (.bool false) rfl) <|
    WL.guardNo rfl rfl rfl rfl <|
    WL.guardNo rfl rfl rfl rfl <|
    WL.guardNo rfl rfl rfl rfl <|
    E rfl (ex_pick_f (v := .bool false) rfl rfl) <|
    E rfl (mv (.bool false) rfl) <|
    WL.guardNo rfl rfl rfl rfl <|
    WL.guardNo rfl rfl rfl rfl <|
    WL.guardNo rfl rfl rfl rfl <|
    E rfl (ex_pick_f (v := .bool false) rfl rfl) <|
    E rfl (mv (.bool false) rfl) <|
    WL.guardNo rfl rfl rfl rfl <|
    WL.guardNo rfl rfl rfl rfl <|
    WL.guardNo rfl rfl rfl rfl <|
    E rfl (ex_pick_f (v := .bool false) rfl rfl) <|
    E rfl (mv (.bool false) rfl) <|
    WL.guardNo rfl rfl rfl rfl <|
    WL.guardNo rfl rfl rfl rfl <|
    E rfl (ex_pick_f (v := .bool false) rfl rfl) <|
    E rfl (mv (.bool false) rfl) <|
    WL.guardNo rfl rfl rfl rfl <|
    WL.guardNo rfl rfl rfl rfl ?_
   refine WL.guardNo rfl rfl rfl rfl <|
    E rfl (ex_pick_f (v := .bool false) rfl rfl) <|
    E rfl (mv (.bool false) rfl) <|
    WL.guardNo rfl rfl rfl rfl <|
    WL.guardNo rfl rfl rfl rfl <|
    WL.guardNo rfl rfl rfl rfl <|
    WL.guardNo rfl rfl rfl rfl <|
    E rfl (ex_pick_f (v := .bool false) rfl rfl) <|
    E rfl (mv (.bool false) rfl) <|
    WL.guardNo rfl rfl rfl rfl <|
    WL.guardNo rfl rfl rfl rfl <|
    E rfl (ex_pick_f (v := .bool false) rfl rfl) <|
    E rfl (mv (.bool false) rfl) <|
    WL.guardNo rfl rfl rfl rfl <|
    WL.guardNo rfl rfl rfl rfl <|
    E rfl (ex_pick_f (v := .bool false) rfl rfl) <|
    E rfl (mv (.bool false) rfl) <|
    WL.guardNo rfl rfl rfl rfl <|
    WL.guardNo rfl rfl rfl rfl <|
    WL.guardNo rfl rfl rfl rfl <|
    E rfl (ex_pick_f (v := .bool false) rfl rfl) <|
    E rfl (mv (.bool false) rfl) <|
    WL.guardNo rfl rfl rfl rfl <|
    WL.guardNo rfl rfl rfl rfl <|
    WL.guardNo rfl rfl rfl rfl ?_
   refine E rfl (ex_pick_f (v := .bool false) rfl rfl) <|
    E rfl (mv (.bool false) rfl) <|
    WL.guardNo rfl rfl rfl rfl <|
    WL.guardNo rfl rfl rfl rfl <|
    E rfl (ex_pick_f (v := .bool false) rfl rfl) <|
    E rfl (sg (.bool false) rfl) <|
    WL.nil <|
    WC.ret ?_
   obtain rfl := Option.some.inj H
   exact ⟨_, (.tmp (.bool false : Value) rfl .nil), _, rfl, HF.out⟩
 ·
  refine WL.guardNo rfl rfl rfl (vb c203 rfl) <|
   WL.guardNo rfl rfl rfl (vb c203 rfl) <|
   E rfl (ex_pick_f (v := .bool false) (vb c203 rfl) rfl) <|
   E rfl (mv (.bool false) rfl) <|
   WL.guardNo rfl rfl rfl rfl <|
   WL.guardNo rfl rfl rfl rfl <|
   E rfl (ex_pick_f (v := .bool false) rfl rfl) <|
   E rfl (mv (.bool false) rfl) <|
   WL.guardNo rfl rfl rfl rfl <|
   WL.guardNo rfl rfl rfl rfl <|
   WL.guardNo rfl rfl rfl rfl <|
   E rfl (ex_pick_f (v := .bool false) rfl rfl) <|
   E rfl (mv (.bool false) rfl) <|
   WL.guardNo rfl rfl rfl rfl <|
   WL.guardNo rfl rfl rfl rfl <|
   WL.guardNo rfl rfl rfl rfl <|
   E rfl (ex_pick_f (v := .bool false) rfl rfl) <|
   E rfl (mv (.bool false) rfl) <|
   WL.guardNo rfl rfl rfl rfl <|
   WL.guardNo rfl rfl rfl rfl <|
   WL.guardNo rfl rfl rfl rfl <|
   E rfl (ex_pick_f (v := .bool false) rfl rfl) <|
   E rfl (mv (.bool false) rfl) <|
   WL.guardNo rfl rfl rfl rfl <|
   WL.guardNo rfl rfl rfl rfl ?_
  refine E rfl (ex_pick_f (v := .bool false) rfl rfl) <|
   E rfl (mv (.bool false) rfl) <|
   WL.guardNo rfl rfl rfl rfl <|
   WL.guardNo rfl rfl rfl rfl <|
   WL.guardNo rfl rfl rfl rfl <|
   E rfl (ex_pick_f (v := .bool false) rfl rfl) <|
   E rfl (mv (.bool false) rfl) <|
   WL.guardNo rfl rfl rfl rfl <|
   WL.guardNo rfl rfl rfl rfl <|
   WL.guardNo rfl rfl rfl rfl <|
   WL.guardNo rfl rfl rfl rfl <|
   E rfl (ex_pick_f (v := .bool false) rfl rfl) <|
   E rfl (mv (.bool false) rfl) <|
   WL.guardNo rfl rfl rfl rfl <|
   WL.guardNo rfl rfl rfl rfl <|
   E rfl (ex_pick_f (v := .bool false) rfl rfl) <|
   E rfl (mv (.bool false) rfl) <|
   WL.guardNo rfl rfl rfl rfl <|
   WL.guardNo rfl rfl rfl rfl <|
   E rfl (ex_pick_f (v := .bool false) rfl rfl) <|
   E rfl (mv (.bool false) rfl) <|
   WL.guardNo rfl rfl rfl rfl <|
   WL.guardNo rfl rfl rfl rfl <|
   WL.guardNo rfl rfl rfl rfl <|
   E rfl (ex_pick_f (v := .bool false) rfl rfl) ?_
  refine E rfl (mv (.bool false) rfl) <|
   WL.guardNo rfl rfl rfl rfl <|
   WL.guardNo rfl rfl rfl rfl <|
   WL.guardNo rfl rfl rfl rfl <|
   E rfl (ex_pick_f (v := .bool false) rfl rfl) <|
   E rfl (mv (.bool false) rfl) <|
   WL.guardNo rfl rfl rfl rfl <|
   WL.guardNo rfl rfl rfl rfl <|
   E rfl (ex_pick_f (v := .bool false) rfl rfl) <|
   E rfl (sg (.bool false) rfl) <|
   WL.nil <|
   WC.ret ?_
  obtain rfl := Option.some.inj H
  exact ⟨_, (.tmp (.bool false : Value) rfl .nil), _, rfl, HF.out⟩

/-! ### dictumlaw04_SyntaxNobody -/
set_option maxRecDepth 100000 in
theorem dictumlaw04_SyntaxNobody.calls (k : Nat) (o0 : Tags) (w0 : World) (pA1 : Option Addr) (pc1 : Nat) (a0 : List UInt8) (a1 : (List T_api_Token)) (a2 : Int) (r : Bool) (hO : ∀ b, b < w0.heap.size → o0 b < 40) (hra1 : Row T_api_Token.rep (fun b_ => o0 b_ = 0) (fun b_ => o0 b_ = 0) w0 pA1 a1) (hla1 : a1.length ≤ pc1) (hG : Gl GG o0 w0) (H : dictumlaw04_SyntaxNobody.f k a0 a1 a2 = some r) :
  Calls Tryd.prog 3 [encS a0, .slice pA1 a1.length pc1, ii a2].toArray w0 fun e_ w_ => ∃ (o_ : Tags), e_ = .returned (one [.bool r]) ∧ Step o0 w0 o_ w_ [] := by
 have HF := Fm.refl hO []
 unfold dictumlaw04_SyntaxNobody.f at H
 refine SX.calls [encS a0, .slice pA1 a1.length pc1, ii a2] Tryd.func3 rfl rfl ?_
 rw [Tryd.ntmps3]
 refine WC.seq <|
  WC.region <|
  E rfl (sg (.bool false) rfl) <|
  WL.nil <|
  WC.seq <|
  WC.region <|
  E rfl (sg (.pointer none) rfl) <|
  WL.nil <|
  WC.seq <|
  WC.region <|
  E rfl (mv (.pointer none) rfl) <|
  E rfl (mv (encS a0) rfl) <|
  E rfl (mv (.slice pA1 a1.length pc1) rfl) <|
  E rfl (mv (ii a2) rfl) ?_
 obtain ⟨z101, hz101, H⟩ := bindE H
 refine WL.op rfl <|
  OW.call [.pointer none, encS a0, .slice pA1 a1.length pc1, ii a2] rfl Tryd.func4 (by kernel_rfl) (by kernel_rfl) (map_cons' rfl (map_cons' rfl (map_cons' rfl (map_cons' rfl rfl)))) (dictumlaw04_nobody_nil.calls _ _ pA1 pc1 a0 a1 a2 z101 (HF.ten (V := [0]) (L := []) rfl) (Row.vw hra1 rfl) hla1 hz101) ?_
 rintro _ w102 ⟨o103, rfl, s104⟩
 refine ⟨_, rfl, ?_⟩
 replace s104 := un_stepL (J := []) (L' := []) s104 rfl rfl
 replace hra1 := hra1.step s104 rfl
 replace hG := hG.step s104 rfl
 replace HF := HF.step s104 rfl
 refine E rfl (mv (.bool z101) rfl) ?_
 rcases condE H with ⟨c105, H⟩ | ⟨c105, H⟩
 ·
  refine WL.guardYes rfl rfl rfl (vb c105 rfl) <|
   OW.ex rfl (ex_build (cs := [.slice none ([] : List T_api_Node).length 0, .map none]) [(0, 1), (1, 1)] [] [.slice none 0 0, .map none] U28 zr28 rfl (by kernel_rfl) rfl rfl) <|
   WL.guardYes rfl rfl rfl (vb c105 rfl) <|
   OW.box' [.slice none ([] : List T_api_Node).length 0, .map none] 40 HF rfl ((congrArg Value.cells (show ev _ _ = (.agg #[.slice none ([] : List T_api_Node).length 0, .map none] : Value) from rfl)).trans rfl) ?_
  intro o107 w108 b106 s109 hB110
  replace hra1 := hra1.step s109 rfl
  replace hG := hG.step s109 rfl
  replace HF := HF.step s109 rfl
  refine WL.guardYes rfl rfl rfl (vb c105 rfl) <|
   OW.ex rfl (mv (encS a0) rfl) <|
   WL.guardYes rfl rfl rfl (vb c105 rfl) <|
   OW.ex rfl (mv (.slice pA1 a1.length pc1) rfl) <|
   WL.guardYes rfl rfl rfl (vb c105 rfl) <|
   OW.ex rfl (mv (ii a2) rfl) <|
   WL.guardYes rfl rfl rfl (vb c105 rfl) ?_
  obtain ⟨z111, hz111, H⟩ := bindE H
  refine OW.call [pp b106 0, encS a0, .slice pA1 a1.length pc1, ii a2] rfl Tryd.func4 (by kernel_rfl) (by kernel_rfl) (map_cons' rfl (map_cons' rfl (map_cons' rfl (map_cons' rfl rfl)))) (dictumlaw04_nobody_nm.calls _ _ b106 (.slice none 0 0) pA1 pc1 (⟨([] : List T_api_Node)⟩ : T_formula_Table) a0 a1 a2 z111 (HF.ten (V := [0]) (L := [40, 41]) rfl) (Bk.vw hB110 rfl) (Own.nil) (Row.vw hra1 rfl) hla1 hz111) ?_
  rintro _ w112 ⟨o113, rfl, s114⟩
  refine ⟨_, rfl, ?_⟩
  replace s114 := un_stepL (J := []) (L' := []) s114 rfl rfl
  replace hra1 := hra1.step s114 rfl
  replace hG := hG.step s114 rfl
  replace hB110 := hB110.step s114 rfl
  replace HF := HF.step s114 rfl
  refine E rfl (ex_pick_t (v := .bool z111) (vb c105 rfl) rfl) <|
   E rfl (mv (.bool z111) rfl) ?_
  rcases condE H with ⟨c115, H⟩ | ⟨c115, H⟩
  ·
   refine WL.guardYes rfl rfl rfl (vb c115 rfl) ?_
   obtain ⟨z116, hz116, H⟩ := bindE H
   refine OW.call [] rfl Tryd.func5 (by kernel_rfl) (by kernel_rfl) rfl (dictumlaw04_heads.calls k _ _ z116 (HF.ten (V := [0]) (L := []) rfl) (Gl.vw hG rfl) hz116) ?_
   rintro _ w117 ⟨o118, rfl, s119⟩
   refine ⟨_, rfl, ?_⟩
   replace s119 := un_stepL (J := []) (L' := []) s119 rfl rfl
   replace hra1 := hra1.step s119 rfl
   replace hG := hG.step s119 rfl
   replace hB110 := hB110.step s119 rfl
   replace HF := HF.step s119 rfl
   refine E rfl (ex_pick_t (v := .bool z116) (vb c115 rfl) rfl) <|
    E rfl (sg (.bool z116) rfl) <|
    WL.nil <|
    WC.ret ?_
   obtain rfl := Option.some.inj H
   exact ⟨_, (.tmp (.bool z116 : Value) rfl .nil), _, rfl, HF.out⟩
  ·
   refine WL.guardNo rfl rfl rfl (vb c115 rfl) <|
    E rfl (ex_pick_f (v := .bool false) (vb c115 rfl) rfl) <|
    E rfl (sg (.bool false) rfl) <|
    WL.nil <|
    WC.ret ?_
   obtain rfl := Option.some.inj H
   exact ⟨_, (.tmp (.bool false : Value) rfl .nil), _, rfl, HF.out⟩
 ·
  refine WL.guardNo rfl rfl rfl (vb c105 rfl) <|
   WL.guardNo rfl rfl rfl (vb c105 rfl) <|
   WL.guardNo rfl rfl rfl (vb c105 rfl) <|
   WL.guardNo rfl rfl rfl (vb c105 rfl) <|
   WL.guardNo rfl rfl rfl (vb c105 rfl) <|
   WL.guardNo rfl rfl rfl (vb c105 rfl) <|
   E rfl (ex_pick_f (v := .bool false) (vb c105 rfl) rfl) <|
   E rfl (mv (.bool false) rfl) <|
   WL.guardNo rfl rfl rfl rfl <|
   E rfl (ex_pick_f (v := .bool false) rfl rfl) <|
   E rfl (sg (.bool false) rfl) <|
   WL.nil <|
   WC.ret ?_
  obtain rfl := Option.some.inj H
  exact ⟨_, (.tmp (.bool false : Value) rfl .nil), _, rfl, HF.out⟩
end Go.Proofs.YtpmkkhkphddfeaaDoor.X
