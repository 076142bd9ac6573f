import Derived.Test.YtfdocckaobmgeaaDoorXAW1
set_option maxRecDepth 20000
set_option linter.unusedVariables false
set_option linter.unusedSimpArgs false
set_option linter.unnecessarySimpa false
namespace Go.Proofs.YtfdocckaobmgeaaDoor.X
open Go Go.RowKit Go.Proofs.YtfdocckaobmgeaaDoor.SX
/-! ### dictumlaw05_BitsTexts -/
set_option maxRecDepth 100000 in
theorem dictumlaw05_BitsTexts.calls (k : Nat) (o0 : Tags) (w0 : World) (a0 : (List UInt64)) (a1 : List UInt8) (r : Bool) (hO : ∀ b, b < w0.heap.size → o0 b < 10) (hla0 : a0.length = 16) (hG : Gl GG o0 w0) (H : dictumlaw05_BitsTexts.f k a0 a1 = some r) :
    Calls Tryd.prog 3 [.agg (List.map enc64 a0).toArray, encS a1].toArray w0 fun e_ w_ => ∃ (o_ : Tags), e_ = .returned (one [.bool r]) ∧ Step o0 w0 o_ w_ [] := by
  have HF := Fm.refl hO []
  unfold dictumlaw05_BitsTexts.f at H
  refine SX.calls [.agg (List.map enc64 a0).toArray, encS a1] Tryd.func3 rfl rfl ?_
  rw [Tryd.ntmps3]
  refine WC.seq ?_
  refine WC.region ?_
  refine WL.op rfl ?_
  refine OW.box' (List.map enc64 a0) 10 HF rfl ((congrArg Value.cells (show ev _ _ = (.agg (List.map enc64 a0).toArray : Value) from rfl)).trans rfl) ?_
  intro o102 w103 b101 s104 hB105
  replace hG := hG.step s104 rfl
  replace HF := HF.step s104 rfl
  refine WL.ex rfl (ex_assign (v := .bool false) rfl) ?_
  refine WL.nil ?_
  refine WC.seq ?_
  refine WC.region ?_
  refine WL.ex rfl (ex_loadAV (xs := a0) rfl Tryd.underlying24 sz24 hla0 hB105) ?_
  obtain ⟨z106, hz106, H⟩ := bindE H
  refine WL.op rfl ?_
  refine OW.call [.agg (List.map enc64 a0).toArray] rfl Tryd.func8 (by kernel_rfl) (by kernel_rfl) (map_cons' rfl rfl) (bits_Text.calls k _ _ a0 z106 (HF.ten (V := [0]) (L := []) rfl) hla0 (Gl.vw (V := [0]) (L := []) hG rfl) hz106) ?_
  rintro _ w107 ⟨o108, rfl, s109⟩
  refine ⟨_, rfl, ?_⟩
  replace s109 := un_stepL (J := []) (L' := []) s109 rfl rfl
  replace hG := hG.step s109 rfl
  replace hB105 := hB105.step s109 rfl
  replace HF := HF.step s109 rfl
  refine WL.ex rfl (ex_assign (v := encS z106) rfl) ?_
  refine WL.nil ?_
  refine WC.seq ?_
  refine WC.region ?_
  refine WL.ex rfl (ex_move (v := encS z106) rfl) ?_
  obtain ⟨z110, hz110, H⟩ := bindE H
  refine WL.op rfl ?_
  refine OW.call [encS z106] rfl Tryd.func9 (by kernel_rfl) (by kernel_rfl) (map_cons' rfl rfl) (bits_Parse.calls k _ _ z106 z110 (HF.ten (V := [0]) (L := []) rfl) (Gl.vw (V := [0]) (L := []) hG rfl) hz110) ?_
  rintro _ w111 ⟨o112, rfl, s113, hl114⟩
  refine ⟨_, rfl, ?_⟩
  replace s113 := un_stepL (J := []) (L' := []) s113 rfl rfl
  replace hG := hG.step s113 rfl
  replace hB105 := hB105.step s113 rfl
  replace HF := HF.step s113 rfl
  refine WL.ex rfl (ex_move (v := .tuple #[.agg (List.map enc64 z110.1).toArray, .int .i64 z110.2]) rfl) ?_
  refine WL.ex rfl (ex_extract (vs := #[.agg (List.map enc64 z110.1).toArray, .int .i64 z110.2]) (v := .agg (List.map enc64 z110.1).toArray) rfl rfl) ?_
  refine WL.ex rfl (ex_extract (vs := #[.agg (List.map enc64 z110.1).toArray, .int .i64 z110.2]) (v := .int .i64 z110.2) rfl rfl) ?_
  refine WL.op rfl ?_
  refine OW.alloc' (List.map enc64 (List.replicate 16 ((0 : UInt64)))) 11 HF rfl zr24 rfl ?_
  intro o116 w117 b115 s118 hB119
  replace hG := hG.step s118 rfl
  replace hB105 := hB105.step s118 rfl
  replace HF := HF.step s118 rfl
  refine WL.op rfl ?_
  refine OW.storeAV (ys := z110.1) rfl rfl (fun _ => rfl) sz24 rfl hl114 hB119 ?_
  intro w120 s121 hB122
  replace hG := hG.step s121 rfl
  replace hB105 := hB105.step s121 rfl
  replace HF := HF.step s121 rfl
  refine WL.ex rfl (ex_assign (v := .int .i64 z110.2) rfl) ?_
  refine WL.nil ?_
  refine WC.seq ?_
  refine WC.region ?_
  refine WL.ex rfl (ex_move (v := encS a1) rfl) ?_
  obtain ⟨z123, hz123, H⟩ := bindE H
  refine WL.op rfl ?_
  refine OW.call [encS a1] rfl Tryd.func9 (by kernel_rfl) (by kernel_rfl) (map_cons' rfl rfl) (bits_Parse.calls k _ _ a1 z123 (HF.ten (V := [0]) (L := []) rfl) (Gl.vw (V := [0]) (L := []) hG rfl) hz123) ?_
  rintro _ w124 ⟨o125, rfl, s126, hl127⟩
  refine ⟨_, rfl, ?_⟩
  replace s126 := un_stepL (J := []) (L' := []) s126 rfl rfl
  replace hG := hG.step s126 rfl
  replace hB105 := hB105.step s126 rfl
  replace hB122 := hB122.step s126 rfl
  replace HF := HF.step s126 rfl
  refine WL.ex rfl (ex_move (v := .tuple #[.agg (List.map enc64 z123.1).toArray, .int .i64 z123.2]) rfl) ?_
  refine WL.ex rfl (ex_extract (vs := #[.agg (List.map enc64 z123.1).toArray, .int .i64 z123.2]) (v := .agg (List.map enc64 z123.1).toArray) rfl rfl) ?_
  refine WL.ex rfl (ex_extract (vs := #[.agg (List.map enc64 z123.1).toArray, .int .i64 z123.2]) (v := .int .i64 z123.2) rfl rfl) ?_
  refine WL.op rfl ?_
  refine OW.alloc' (List.map enc64 (List.replicate 16 ((0 : UInt64)))) 12 HF rfl zr24 rfl ?_
  intro o129 w130 b128 s131 hB132
  replace hG := hG.step s131 rfl
  replace hB105 := hB105.step s131 rfl
  replace hB122 := hB122.step s131 rfl
  replace HF := HF.step s131 rfl
  refine WL.op rfl ?_
  refine OW.storeAV (ys := z123.1) rfl rfl (fun _ => rfl) sz24 rfl hl127 hB132 ?_
  intro w133 s134 hB135
  replace hG := hG.step s134 rfl
  replace hB105 := hB105.step s134 rfl
  replace hB122 := hB122.step s134 rfl
  replace HF := HF.step s134 rfl
  refine WL.ex rfl (ex_assign (v := .int .i64 z123.2) rfl) ?_
  refine WL.nil ?_
  refine WC.seq ?_
  refine WC.region ?_
  refine WL.ex rfl (ex_move (v := encS a1) rfl) ?_
  obtain ⟨z136, hz136, H⟩ := bindE H
  refine WL.op rfl ?_
  refine OW.call [encS a1] rfl Tryd.func10 (by kernel_rfl) (by kernel_rfl) (map_cons' rfl rfl) (dictumref05_Parse.calls k _ _ a1 z136 (HF.ten (V := [0]) (L := []) rfl)  hz136) ?_
  rintro _ w137 ⟨o138, rfl, s139, hl140⟩
  refine ⟨_, rfl, ?_⟩
  replace s139 := un_stepL (J := []) (L' := []) s139 rfl rfl
  replace hG := hG.step s139 rfl
  replace hB105 := hB105.step s139 rfl
  replace hB122 := hB122.step s139 rfl
  replace hB135 := hB135.step s139 rfl
  replace HF := HF.step s139 rfl
  refine WL.ex rfl (ex_move (v := .tuple #[.agg (List.map enc64 z136.1).toArray, .int .i64 z136.2]) rfl) ?_
  refine WL.ex rfl (ex_extract (vs := #[.agg (List.map enc64 z136.1).toArray, .int .i64 z136.2]) (v := .agg (List.map enc64 z136.1).toArray) rfl rfl) ?_
  refine WL.ex rfl (ex_extract (vs := #[.agg (List.map enc64 z136.1).toArray, .int .i64 z136.2]) (v := .int .i64 z136.2) rfl rfl) ?_
  refine WL.op rfl ?_
  refine OW.alloc' (List.map enc64 (List.replicate 16 ((0 : UInt64)))) 13 HF rfl zr24 rfl ?_
  intro o142 w143 b141 s144 hB145
  replace hG := hG.step s144 rfl
  replace hB105 := hB105.step s144 rfl
  replace hB122 := hB122.step s144 rfl
  replace hB135 := hB135.step s144 rfl
  replace HF := HF.step s144 rfl
  refine WL.op rfl ?_
  refine OW.storeAV (ys := z136.1) rfl rfl (fun _ => rfl) sz24 rfl hl140 hB145 ?_
  intro w146 s147 hB148
  replace hG := hG.step s147 rfl
  replace hB105 := hB105.step s147 rfl
  replace hB122 := hB122.step s147 rfl
  replace hB135 := hB135.step s147 rfl
  replace HF := HF.step s147 rfl
  refine WL.ex rfl (ex_assign (v := .int .i64 z136.2) rfl) ?_
  refine WL.nil ?_
  refine WC.seq ?_
  refine WC.region ?_
  refine WL.ex rfl (ex_move (v := encS z106) rfl) ?_
  refine WL.ex rfl (ex_loadAV (xs := a0) rfl Tryd.underlying24 sz24 hla0 hB105) ?_
  obtain ⟨z149, hz149, H⟩ := bindE H
  refine WL.op rfl ?_
  refine OW.call [.agg (List.map enc64 a0).toArray] rfl Tryd.func11 (by kernel_rfl) (by kernel_rfl) (map_cons' rfl rfl) (dictumref05_Text.calls k _ _ a0 z149 (HF.ten (V := [0]) (L := []) rfl) hla0 hz149) ?_
  rintro _ w150 ⟨o151, rfl, s152⟩
  refine ⟨_, rfl, ?_⟩
  replace s152 := un_stepL (J := []) (L' := []) s152 rfl rfl
  replace hG := hG.step s152 rfl
  replace hB105 := hB105.step s152 rfl
  replace hB122 := hB122.step s152 rfl
  replace hB135 := hB135.step s152 rfl
  replace hB148 := hB148.step s152 rfl
  replace HF := HF.step s152 rfl
  refine WL.ex rfl (ex_bin (a := encS z106) (b := encS z149) (v := .bool (z106 == z149)) rfl rfl bin_eql_str) ?_
  refine WL.ex rfl (ex_move (v := .bool (z106 == z149)) rfl) ?_
  rcases condE H with ⟨c153, H⟩ | ⟨c153, H⟩
  ·
    refine WL.guardYes rfl rfl rfl ((show _ = Value.bool (z106 == z149) from rfl).trans (congrArg Value.bool c153)) ?_
    refine OW.ex rfl (ex_loadAV (xs := z110.1) rfl Tryd.underlying24 sz24 hl114 hB122) ?_
    refine WL.guardYes rfl rfl rfl ((show _ = Value.bool (z106 == z149) from rfl).trans (congrArg Value.bool c153)) ?_
    refine OW.ex rfl (ex_loadAV (xs := a0) rfl Tryd.underlying24 sz24 hla0 hB105) ?_
    refine WL.guardYes rfl rfl rfl ((show _ = Value.bool (z106 == z149) from rfl).trans (congrArg Value.bool c153)) ?_
    refine OW.ex rfl (ex_bin (a := .agg (List.map enc64 z110.1).toArray) (b := .agg (List.map enc64 a0).toArray) (v := .bool (z110.1 == a0)) rfl rfl (bin_eql_agg (by kernel_rfl) (EqR.arr Tryd.underlying24 sz22 Tryd.underlying22 rfl hl114 hla0 (fun _ _ => EqR.u64 Tryd.underlying22)))) ?_
    refine WL.ex rfl (ex_pick_t (v := .bool (z110.1 == a0)) ((show _ = Value.bool (z106 == z149) from rfl).trans (congrArg Value.bool c153)) rfl) ?_
    refine WL.ex rfl (ex_move (v := .bool (z110.1 == a0)) rfl) ?_
    rcases condE H with ⟨c154, H⟩ | ⟨c154, H⟩
    ·
      refine WL.guardYes rfl rfl rfl ((show _ = Value.bool (z110.1 == a0) from rfl).trans (congrArg Value.bool c154)) ?_
      refine OW.ex rfl (ex_move (v := .int .i64 z110.2) rfl) ?_
      refine WL.guardYes rfl rfl rfl ((show _ = Value.bool (z110.1 == a0) from rfl).trans (congrArg Value.bool c154)) ?_
      refine OW.ex rfl (ex_bin (a := .int .i64 z110.2) (b := .int .i64 0) (v := .bool (z110.2 == 0)) rfl rfl bin_eql) ?_
      refine WL.ex rfl (ex_pick_t (v := .bool (z110.2 == 0)) ((show _ = Value.bool (z110.1 == a0) from rfl).trans (congrArg Value.bool c154)) rfl) ?_
      refine WL.ex rfl (ex_move (v := .bool (z110.2 == 0)) rfl) ?_
      rcases condE H with ⟨c155, H⟩ | ⟨c155, H⟩
      ·
        refine WL.guardYes rfl rfl rfl ((show _ = Value.bool (z110.2 == 0) from rfl).trans (congrArg Value.bool c155)) ?_
        refine OW.ex rfl (ex_loadAV (xs := z123.1) rfl Tryd.underlying24 sz24 hl127 hB135) ?_
        refine WL.guardYes rfl rfl rfl ((show _ = Value.bool (z110.2 == 0) from rfl).trans (congrArg Value.bool c155)) ?_
        refine OW.ex rfl (ex_loadAV (xs := z136.1) rfl Tryd.underlying24 sz24 hl140 hB148) ?_
        refine WL.guardYes rfl rfl rfl ((show _ = Value.bool (z110.2 == 0) from rfl).trans (congrArg Value.bool c155)) ?_
        refine OW.ex rfl (ex_bin (a := .agg (List.map enc64 z123.1).toArray) (b := .agg (List.map enc64 z136.1).toArray) (v := .bool (z123.1 == z136.1)) rfl rfl (bin_eql_agg (by kernel_rfl) (EqR.arr Tryd.underlying24 sz22 Tryd.underlying22 rfl hl127 hl140 (fun _ _ => EqR.u64 Tryd.underlying22)))) ?_
        refine WL.ex rfl (ex_pick_t (v := .bool (z123.1 == z136.1)) ((show _ = Value.bool (z110.2 == 0) from rfl).trans (congrArg Value.bool c155)) rfl) ?_
        refine WL.ex rfl (ex_move (v := .bool (z123.1 == z136.1)) rfl) ?_
        rcases condE H with ⟨c156, H⟩ | ⟨c156, H⟩
        ·
          refine WL.guardYes rfl rfl rfl ((show _ = Value.bool (z123.1 == z136.1) from rfl).trans (congrArg Value.bool c156)) ?_
          refine OW.ex rfl (ex_move (v := .int .i64 z123.2) rfl) ?_
          refine WL.guardYes rfl rfl rfl ((show _ = Value.bool (z123.1 == z136.1) from rfl).trans (congrArg Value.bool c156)) ?_
          refine OW.ex rfl (ex_move (v := .int .i64 z136.2) rfl) ?_
          refine WL.guardYes rfl rfl rfl ((show _ = Value.bool (z123.1 == z136.1) from rfl).trans (congrArg Value.bool c156)) ?_
          refine OW.ex rfl (ex_bin (a := .int .i64 z123.2) (b := .int .i64 z136.2) (v := .bool (z123.2 == z136.2)) rfl rfl bin_eql) ?_
          refine WL.ex rfl (ex_pick_t (v := .bool (z123.2 == z136.2)) ((show _ = Value.bool (z123.1 == z136.1) from rfl).trans (congrArg Value.bool c156)) rfl) ?_
          refine WL.ex rfl (ex_move (v := .bool (z123.2 == z136.2)) rfl) ?_
          rcases condE H with ⟨c157, H⟩ | ⟨c157, H⟩
          ·
            refine WL.guardYes rfl rfl rfl ((show _ = Value.bool (z123.2 == z136.2) from rfl).trans (congrArg Value.bool c157)) ?_
            obtain ⟨z158, hz158, H⟩ := bindE H
            refine OW.call [] rfl Tryd.func12 (by kernel_rfl) (by kernel_rfl) rfl (dictumlaw05_heads.calls k _ _ z158 (HF.ten (V := [0]) (L := []) rfl) (Gl.vw (V := [0]) (L := []) hG rfl) hz158) ?_
            rintro _ w159 ⟨o160, rfl, s161⟩
            refine ⟨_, rfl, ?_⟩
            replace s161 := un_stepL (J := []) (L' := []) s161 rfl rfl
            replace hG := hG.step s161 rfl
            replace hB105 := hB105.step s161 rfl
            replace hB122 := hB122.step s161 rfl
            replace hB135 := hB135.step s161 rfl
            replace hB148 := hB148.step s161 rfl
            replace HF := HF.step s161 rfl
            refine WL.ex rfl (ex_pick_t (v := .bool z158) ((show _ = Value.bool (z123.2 == z136.2) from rfl).trans (congrArg Value.bool c157)) rfl) ?_
            refine WL.ex rfl (ex_assign (v := .bool z158) rfl) ?_
            refine WL.nil ?_
            refine WC.ret ?_
            obtain rfl := Option.some.inj H
            exact ⟨_, (.tmp (.bool z158 : Value) rfl .nil), _, rfl, HF.out⟩
          ·
            refine WL.guardNo rfl rfl rfl ((show _ = Value.bool (z123.2 == z136.2) from rfl).trans (congrArg Value.bool c157)) ?_
            refine WL.ex rfl (ex_pick_f (v := .bool false) ((show _ = Value.bool (z123.2 == z136.2) from rfl).trans (congrArg Value.bool c157)) rfl) ?_
            refine WL.ex rfl (ex_assign (v := .bool false) rfl) ?_
            refine WL.nil ?_
            refine WC.ret ?_
            obtain rfl := Option.some.inj H
            exact ⟨_, (.tmp (.bool false : Value) rfl .nil), _, rfl, HF.out⟩
        ·
          refine WL.guardNo rfl rfl rfl ((show _ = Value.bool (z123.1 == z136.1) from rfl).trans (congrArg Value.bool c156)) ?_
          refine WL.guardNo rfl rfl rfl ((show _ = Value.bool (z123.1 == z136.1) from rfl).trans (congrArg Value.bool c156)) ?_
          refine WL.guardNo rfl rfl rfl ((show _ = Value.bool (z123.1 == z136.1) from rfl).trans (congrArg Value.bool c156)) ?_
          refine WL.ex rfl (ex_pick_f (v := .bool false) ((show _ = Value.bool (z123.1 == z136.1) from rfl).trans (congrArg Value.bool c156)) rfl) ?_
          refine WL.ex rfl (ex_move (v := .bool false) rfl) ?_
          refine WL.guardNo rfl rfl rfl rfl ?_
          refine WL.ex rfl (ex_pick_f (v := .bool false) rfl rfl) ?_
          refine WL.ex rfl (ex_assign (v := .bool false) rfl) ?_
          refine WL.nil ?_
          refine WC.ret ?_
          obtain rfl := Option.some.inj H
          exact ⟨_, (.tmp (.bool false : Value) rfl .nil), _, rfl, HF.out⟩
      ·
        refine WL.guardNo rfl rfl rfl ((show _ = Value.bool (z110.2 == 0) from rfl).trans (congrArg Value.bool c155)) ?_
        refine WL.guardNo rfl rfl rfl ((show _ = Value.bool (z110.2 == 0) from rfl).trans (congrArg Value.bool c155)) ?_
        refine WL.guardNo rfl rfl rfl ((show _ = Value.bool (z110.2 == 0) from rfl).trans (congrArg Value.bool c155)) ?_
        refine WL.ex rfl (ex_pick_f (v := .bool false) ((show _ = Value.bool (z110.2 == 0) from rfl).trans (congrArg Value.bool c155)) rfl) ?_
        refine WL.ex rfl (ex_move (v := .bool false) rfl) ?_
        refine WL.guardNo rfl rfl rfl rfl ?_
        refine WL.guardNo rfl rfl rfl rfl ?_
        refine WL.guardNo rfl rfl rfl rfl ?_
        refine WL.ex rfl (ex_pick_f (v := .bool false) rfl rfl) ?_
        refine WL.ex rfl (ex_move (v := .bool false) rfl) ?_
        refine WL.guardNo rfl rfl rfl rfl ?_
        refine WL.ex rfl (ex_pick_f (v := .bool false) rfl rfl) ?_
        refine WL.ex rfl (ex_assign (v := .bool false) rfl) ?_
        refine WL.nil ?_
        refine WC.ret ?_
        obtain rfl := Option.some.inj H
        exact ⟨_, (.tmp (.bool false : Value) rfl .nil), _, rfl, HF.out⟩
    ·
      refine WL.guardNo rfl rfl rfl ((show _ = Value.bool (z110.1 == a0) from rfl).trans (congrArg Value.bool c154)) ?_
      refine WL.guardNo rfl rfl rfl ((show _ = Value.bool (z110.1 == a0) from rfl).trans (congrArg Value.bool c154)) ?_
      refine WL.ex rfl (ex_pick_f (v := .bool false) ((show _ = Value.bool (z110.1 == a0) from rfl).trans (congrArg Value.bool c154)) rfl) ?_
      refine WL.ex rfl (ex_move (v := .bool false) rfl) ?_
      refine WL.guardNo rfl rfl rfl rfl ?_
      refine WL.guardNo rfl rfl rfl rfl ?_
      refine WL.guardNo rfl rfl rfl rfl ?_
      refine WL.ex rfl (ex_pick_f (v := .bool false) rfl rfl) ?_
      refine WL.ex rfl (ex_move (v := .bool false) rfl) ?_
      refine WL.guardNo rfl rfl rfl rfl ?_
      refine WL.guardNo rfl rfl rfl rfl ?_
      refine WL.guardNo rfl rfl rfl rfl ?_
      refine WL.ex rfl (ex_pick_f (v := .bool false) rfl rfl) ?_
      refine WL.ex rfl (ex_move (v := .bool false) rfl) ?_
      refine WL.guardNo rfl rfl rfl rfl ?_
      refine WL.ex rfl (ex_pick_f (v := .bool false) rfl rfl) ?_
      refine WL.ex rfl (ex_assign (v := .bool false) rfl) ?_
      refine WL.nil ?_
      refine WC.ret ?_
      obtain rfl := Option.some.inj H
      exact ⟨_, (.tmp (.bool false : Value) rfl .nil), _, rfl, HF.out⟩
  ·
    refine WL.guardNo rfl rfl rfl ((show _ = Value.bool (z106 == z149) from rfl).trans (congrArg Value.bool c153)) ?_
    refine WL.guardNo rfl rfl rfl ((show _ = Value.bool (z106 == z149) from rfl).trans (congrArg Value.bool c153)) ?_
    refine WL.guardNo rfl rfl rfl ((show _ = Value.bool (z106 == z149) from rfl).trans (congrArg Value.bool c153)) ?_
    refine WL.ex rfl (ex_pick_f (v := .bool false) ((show _ = Value.bool (z106 == z149) from rfl).trans (congrArg Value.bool c153)) rfl) ?_
    refine WL.ex rfl (ex_move (v := .bool false) rfl) ?_
    refine WL.guardNo rfl rfl rfl rfl ?_
    refine WL.guardNo rfl rfl rfl rfl ?_
    refine WL.ex rfl (ex_pick_f (v := .bool false) rfl rfl) ?_
    refine WL.ex rfl (ex_move (v := .bool false) rfl) ?_
    refine WL.guardNo rfl rfl rfl rfl ?_
    refine WL.guardNo rfl rfl rfl rfl ?_
    refine WL.guardNo rfl rfl rfl rfl ?_
    refine WL.ex rfl (ex_pick_f (v := .bool false) rfl rfl) ?_
    refine WL.ex rfl (ex_move (v := .bool false) rfl) ?_
    refine WL.guardNo rfl rfl rfl rfl ?_
    refine WL.guardNo rfl rfl rfl rfl ?_
    refine WL.guardNo rfl rfl rfl rfl ?_
    refine WL.ex rfl (ex_pick_f (v := .bool false) rfl rfl) ?_
    refine WL.ex rfl (ex_move (v := .bool false) rfl) ?_
    refine WL.guardNo rfl rfl rfl rfl ?_
    refine WL.ex rfl (ex_pick_f (v := .bool false) rfl rfl) ?_
    refine WL.ex rfl (ex_assign (v := .bool false) rfl) ?_
    refine WL.nil ?_
    refine WC.ret ?_
    obtain rfl := Option.some.inj H
    exact ⟨_, (.tmp (.bool false : Value) rfl .nil), _, rfl, HF.out⟩
end Go.Proofs.YtfdocckaobmgeaaDoor.X
