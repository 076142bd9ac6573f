import Derived.Test.YtfdocckaobmgeaaDoorXAW1
set_option maxRecDepth 20000
set_option linter.unusedVariables false
set_option linter.unusedSimpArgs false
set_option linter.unnecessarySimpa false
namespace Go.Proofs.YtfdocckaobmgeaaDoor.X
open Go Go.RowKit Go.Proofs.YtfdocckaobmgeaaDoor.SX
/-! ### dictumlaw05_BitsAlgebra -/
set_option maxRecDepth 100000 in
theorem dictumlaw05_BitsAlgebra.calls (k : Nat) (o0 : Tags) (w0 : World) (a0 : (List UInt64)) (a1 : (List UInt64)) (a2 : (List UInt64)) (r : Bool) (hO : ∀ b, b < w0.heap.size → o0 b < 10) (hla0 : a0.length = 16) (hla1 : a1.length = 16) (hla2 : a2.length = 16) (hG : Gl GG o0 w0) (H : dictumlaw05_BitsAlgebra.f k a0 a1 a2 = some r) :
    Calls Tryd.prog 5 [.agg (List.map enc64 a0).toArray, .agg (List.map enc64 a1).toArray, .agg (List.map enc64 a2).toArray].toArray w0 fun e_ w_ => ∃ (o_ : Tags), e_ = .returned (one [.bool r]) ∧ Step o0 w0 o_ w_ [] := by
  have HF := Fm.refl hO []
  unfold dictumlaw05_BitsAlgebra.f at H
  refine SX.calls [.agg (List.map enc64 a0).toArray, .agg (List.map enc64 a1).toArray, .agg (List.map enc64 a2).toArray] Tryd.func5 rfl rfl ?_
  rw [Tryd.ntmps5]
  refine WC.seq ?_
  refine WC.region ?_
  refine WL.op rfl ?_
  refine OW.box' (List.map enc64 a0) 10 HF rfl ((congrArg Value.cells (show ev _ _ = (.agg (List.map enc64 a0).toArray : Value) from rfl)).trans rfl) ?_
  intro o102 w103 b101 s104 hB105
  replace hG := hG.step s104 rfl
  replace HF := HF.step s104 rfl
  refine WL.op rfl ?_
  refine OW.box' (List.map enc64 a1) 11 HF rfl ((congrArg Value.cells (show ev _ _ = (.agg (List.map enc64 a1).toArray : Value) from rfl)).trans rfl) ?_
  intro o107 w108 b106 s109 hB110
  replace hG := hG.step s109 rfl
  replace hB105 := hB105.step s109 rfl
  replace HF := HF.step s109 rfl
  refine WL.op rfl ?_
  refine OW.box' (List.map enc64 a2) 12 HF rfl ((congrArg Value.cells (show ev _ _ = (.agg (List.map enc64 a2).toArray : Value) from rfl)).trans rfl) ?_
  intro o112 w113 b111 s114 hB115
  replace hG := hG.step s114 rfl
  replace hB105 := hB105.step s114 rfl
  replace hB110 := hB110.step s114 rfl
  replace HF := HF.step s114 rfl
  refine WL.ex rfl (ex_assign (v := .bool false) rfl) ?_
  refine WL.nil ?_
  refine WC.seq ?_
  refine WC.region ?_
  refine WL.ex rfl (ex_loadAV (xs := a0) rfl Tryd.underlying24 sz24 hla0 hB105) ?_
  refine WL.ex rfl (ex_loadAV (xs := a1) rfl Tryd.underlying24 sz24 hla1 hB110) ?_
  obtain ⟨z116, hz116, H⟩ := bindE H
  refine WL.op rfl ?_
  refine OW.call [.agg (List.map enc64 a0).toArray, .agg (List.map enc64 a1).toArray] rfl Tryd.func15 (by kernel_rfl) (by kernel_rfl) (map_cons' rfl (map_cons' rfl rfl)) (bits_Union.calls k _ _ a0 a1 z116 (HF.ten (V := [0]) (L := []) rfl) hla0 hla1 hz116) ?_
  rintro _ w117 ⟨o118, rfl, s119, hl120⟩
  refine ⟨_, rfl, ?_⟩
  replace s119 := un_stepL (J := []) (L' := []) s119 rfl rfl
  replace hG := hG.step s119 rfl
  replace hB105 := hB105.step s119 rfl
  replace hB110 := hB110.step s119 rfl
  replace hB115 := hB115.step s119 rfl
  replace HF := HF.step s119 rfl
  refine WL.op rfl ?_
  refine OW.alloc' (List.map enc64 (List.replicate 16 ((0 : UInt64)))) 13 HF rfl zr24 rfl ?_
  intro o122 w123 b121 s124 hB125
  replace hG := hG.step s124 rfl
  replace hB105 := hB105.step s124 rfl
  replace hB110 := hB110.step s124 rfl
  replace hB115 := hB115.step s124 rfl
  replace HF := HF.step s124 rfl
  refine WL.op rfl ?_
  refine OW.storeAV (ys := z116) rfl rfl (fun _ => rfl) sz24 rfl hl120 hB125 ?_
  intro w126 s127 hB128
  replace hG := hG.step s127 rfl
  replace hB105 := hB105.step s127 rfl
  replace hB110 := hB110.step s127 rfl
  replace hB115 := hB115.step s127 rfl
  replace HF := HF.step s127 rfl
  refine WL.nil ?_
  refine WC.seq ?_
  refine WC.region ?_
  refine WL.ex rfl (ex_loadAV (xs := a0) rfl Tryd.underlying24 sz24 hla0 hB105) ?_
  refine WL.ex rfl (ex_loadAV (xs := a1) rfl Tryd.underlying24 sz24 hla1 hB110) ?_
  obtain ⟨z129, hz129, H⟩ := bindE H
  refine WL.op rfl ?_
  refine OW.call [.agg (List.map enc64 a0).toArray, .agg (List.map enc64 a1).toArray] rfl Tryd.func17 (by kernel_rfl) (by kernel_rfl) (map_cons' rfl (map_cons' rfl rfl)) (bits_Meet.calls k _ _ a0 a1 z129 (HF.ten (V := [0]) (L := []) rfl) hla0 hla1 hz129) ?_
  rintro _ w130 ⟨o131, rfl, s132, hl133⟩
  refine ⟨_, rfl, ?_⟩
  replace s132 := un_stepL (J := []) (L' := []) s132 rfl rfl
  replace hG := hG.step s132 rfl
  replace hB105 := hB105.step s132 rfl
  replace hB110 := hB110.step s132 rfl
  replace hB115 := hB115.step s132 rfl
  replace hB128 := hB128.step s132 rfl
  replace HF := HF.step s132 rfl
  refine WL.op rfl ?_
  refine OW.alloc' (List.map enc64 (List.replicate 16 ((0 : UInt64)))) 14 HF rfl zr24 rfl ?_
  intro o135 w136 b134 s137 hB138
  replace hG := hG.step s137 rfl
  replace hB105 := hB105.step s137 rfl
  replace hB110 := hB110.step s137 rfl
  replace hB115 := hB115.step s137 rfl
  replace hB128 := hB128.step s137 rfl
  replace HF := HF.step s137 rfl
  refine WL.op rfl ?_
  refine OW.storeAV (ys := z129) rfl rfl (fun _ => rfl) sz24 rfl hl133 hB138 ?_
  intro w139 s140 hB141
  replace hG := hG.step s140 rfl
  replace hB105 := hB105.step s140 rfl
  replace hB110 := hB110.step s140 rfl
  replace hB115 := hB115.step s140 rfl
  replace hB128 := hB128.step s140 rfl
  replace HF := HF.step s140 rfl
  refine WL.nil ?_
  refine WC.seq ?_
  refine WC.regionD' HF [] 12 (by kernel_rfl) rfl ?_
  intro w142 s143
  replace hG := hG.step s143 rfl
  replace hB105 := hB105.step s143 rfl
  replace hB110 := hB110.step s143 rfl
  replace hB115 := hB115.step s143 rfl
  replace hB128 := hB128.step s143 rfl
  replace hB141 := hB141.step s143 rfl
  replace HF := HF.step s143 rfl
  have hGD := hG
  have hB105D := hB105
  have hB110D := hB110
  have hB115D := hB115
  have hB128D := hB128
  have hB141D := hB141
  have sR := HF.here []
  refine WA.norm (listed' := #[false, false, false, false, false, false, false, false, false, false, false, false]) (by kernel_rfl) ?_
  refine WA.ex 0 rfl (by kernel_rfl) (by kernel_rfl) (by kernel_rfl) rfl ⟨_, sR⟩ (fun w_ hS_ => ex_loadAV (xs := a2) rfl Tryd.underlying24 sz24 hla2 (hB115D.step hS_.choose_spec rfl)) ?_
  refine WA.norm (listed' := #[true, false, false, false, false, false, false, false, false, false, false, false]) (by kernel_rfl) ?_
  refine WA.ex 1 rfl (by kernel_rfl) (by kernel_rfl) (by kernel_rfl) rfl ⟨_, sR⟩ (fun w_ hS_ => ex_loadAV (xs := z116) rfl Tryd.underlying24 sz24 hl120 (hB128D.step hS_.choose_spec rfl)) ?_
  refine WA.norm (listed' := #[true, true, false, false, false, false, false, false, false, false, false, false]) (by kernel_rfl) ?_
  refine WA.ex 3 rfl (by kernel_rfl) (by kernel_rfl) (by kernel_rfl) rfl ⟨_, sR⟩ (fun w_ hS_ => ex_loadAV (xs := a2) rfl Tryd.underlying24 sz24 hla2 (hB115D.step hS_.choose_spec rfl)) ?_
  refine WA.norm (listed' := #[true, true, false, true, false, false, false, false, false, false, false, false]) (by kernel_rfl) ?_
  refine WA.ex 4 rfl (by kernel_rfl) (by kernel_rfl) (by kernel_rfl) rfl ⟨_, sR⟩ (fun w_ hS_ => ex_loadAV (xs := a0) rfl Tryd.underlying24 sz24 hla0 (hB105D.step hS_.choose_spec rfl)) ?_
  refine WA.norm (listed' := #[true, true, false, true, true, false, false, false, false, false, false, false]) (by kernel_rfl) ?_
  refine WA.ex 6 rfl (by kernel_rfl) (by kernel_rfl) (by kernel_rfl) rfl ⟨_, sR⟩ (fun w_ hS_ => ex_loadAV (xs := a2) rfl Tryd.underlying24 sz24 hla2 (hB115D.step hS_.choose_spec rfl)) ?_
  refine WA.norm (listed' := #[true, true, false, true, true, false, true, false, false, false, false, false]) (by kernel_rfl) ?_
  refine WA.ex 7 rfl (by kernel_rfl) (by kernel_rfl) (by kernel_rfl) rfl ⟨_, sR⟩ (fun w_ hS_ => ex_loadAV (xs := a1) rfl Tryd.underlying24 sz24 hla1 (hB110D.step hS_.choose_spec rfl)) ?_
  refine WA.norm (listed' := #[true, true, false, true, true, false, true, true, false, false, false, false]) (by kernel_rfl) ?_
  obtain ⟨z144, hz144, H⟩ := bindE H
  refine WA.one 2 (by kernel_rfl) rfl rfl ?_
  refine OW.call [.agg (List.map enc64 a2).toArray, .agg (List.map enc64 z116).toArray] rfl Tryd.func19 (by kernel_rfl) (by kernel_rfl) (map_cons' rfl (map_cons' rfl rfl)) (bits_Minus.calls k _ _ a2 z116 z144 (HF.ten (V := [0]) (L := []) rfl) hla2 hl120 hz144) ?_
  rintro _ w145 ⟨o146, rfl, s147, hl148⟩
  refine ⟨_, rfl, ?_⟩
  replace s147 := un_stepL (J := []) (L' := []) s147 rfl rfl
  replace hG := hG.step s147 rfl
  replace hB105 := hB105.step s147 rfl
  replace hB110 := hB110.step s147 rfl
  replace hB115 := hB115.step s147 rfl
  replace hB128 := hB128.step s147 rfl
  replace hB141 := hB141.step s147 rfl
  replace HF := HF.step s147 rfl
  replace sR := Step.trans sR s147 (M := []) rfl rfl
  refine ⟨⟨_, sR⟩, ?_⟩
  refine WA.norm (listed' := #[true, true, true, true, true, false, true, true, false, false, false, false]) (by kernel_rfl) ?_
  obtain ⟨z149, hz149, H⟩ := bindE H
  refine WA.one 5 (by kernel_rfl) rfl rfl ?_
  refine OW.call [.agg (List.map enc64 a2).toArray, .agg (List.map enc64 a0).toArray] rfl Tryd.func19 (by kernel_rfl) (by kernel_rfl) (map_cons' rfl (map_cons' rfl rfl)) (bits_Minus.calls k _ _ a2 a0 z149 (HF.ten (V := [0]) (L := []) rfl) hla2 hla0 hz149) ?_
  rintro _ w150 ⟨o151, rfl, s152, hl153⟩
  refine ⟨_, rfl, ?_⟩
  replace s152 := un_stepL (J := []) (L' := []) s152 rfl rfl
  replace hG := hG.step s152 rfl
  replace hB105 := hB105.step s152 rfl
  replace hB110 := hB110.step s152 rfl
  replace hB115 := hB115.step s152 rfl
  replace hB128 := hB128.step s152 rfl
  replace hB141 := hB141.step s152 rfl
  replace HF := HF.step s152 rfl
  replace sR := Step.trans sR s152 (M := []) rfl rfl
  refine ⟨⟨_, sR⟩, ?_⟩
  refine WA.norm (listed' := #[true, true, true, true, true, true, true, true, false, false, false, false]) (by kernel_rfl) ?_
  obtain ⟨z154, hz154, H⟩ := bindE H
  refine WA.one 8 (by kernel_rfl) rfl rfl ?_
  refine OW.call [.agg (List.map enc64 a2).toArray, .agg (List.map enc64 a1).toArray] rfl Tryd.func19 (by kernel_rfl) (by kernel_rfl) (map_cons' rfl (map_cons' rfl rfl)) (bits_Minus.calls k _ _ a2 a1 z154 (HF.ten (V := [0]) (L := []) rfl) hla2 hla1 hz154) ?_
  rintro _ w155 ⟨o156, rfl, s157, hl158⟩
  refine ⟨_, rfl, ?_⟩
  replace s157 := un_stepL (J := []) (L' := []) s157 rfl rfl
  replace hG := hG.step s157 rfl
  replace hB105 := hB105.step s157 rfl
  replace hB110 := hB110.step s157 rfl
  replace hB115 := hB115.step s157 rfl
  replace hB128 := hB128.step s157 rfl
  replace hB141 := hB141.step s157 rfl
  replace HF := HF.step s157 rfl
  replace sR := Step.trans sR s157 (M := []) rfl rfl
  refine ⟨⟨_, sR⟩, ?_⟩
  refine WA.norm (listed' := #[true, true, true, true, true, true, true, true, true, false, false, false]) (by kernel_rfl) ?_
  obtain ⟨z159, hz159, H⟩ := bindE H
  refine WA.one 9 (by kernel_rfl) rfl rfl ?_
  refine OW.call [.agg (List.map enc64 z149).toArray, .agg (List.map enc64 z154).toArray] rfl Tryd.func17 (by kernel_rfl) (by kernel_rfl) (map_cons' rfl (map_cons' rfl rfl)) (bits_Meet.calls k _ _ z149 z154 z159 (HF.ten (V := [0]) (L := []) rfl) hl153 hl158 hz159) ?_
  rintro _ w160 ⟨o161, rfl, s162, hl163⟩
  refine ⟨_, rfl, ?_⟩
  replace s162 := un_stepL (J := []) (L' := []) s162 rfl rfl
  replace hG := hG.step s162 rfl
  replace hB105 := hB105.step s162 rfl
  replace hB110 := hB110.step s162 rfl
  replace hB115 := hB115.step s162 rfl
  replace hB128 := hB128.step s162 rfl
  replace hB141 := hB141.step s162 rfl
  replace HF := HF.step s162 rfl
  replace sR := Step.trans sR s162 (M := []) rfl rfl
  refine ⟨⟨_, sR⟩, ?_⟩
  refine WA.norm (listed' := #[true, true, true, true, true, true, true, true, true, true, false, false]) (by kernel_rfl) ?_
  refine WA.ex 10 rfl (by kernel_rfl) (by kernel_rfl) (by kernel_rfl) rfl ⟨_, sR⟩ (fun w_ hS_ => ex_bin (a := .agg (List.map enc64 z144).toArray) (b := .agg (List.map enc64 z159).toArray) (v := .bool (z144 == z159)) rfl rfl (bin_eql_agg (by kernel_rfl) (EqR.arr Tryd.underlying24 sz22 Tryd.underlying22 rfl hl148 hl163 (fun _ _ => EqR.u64 Tryd.underlying22)))) ?_
  refine WA.norm (listed' := #[true, true, true, true, true, true, true, true, true, true, true, false]) (by kernel_rfl) ?_
  refine WA.ex 11 rfl (by kernel_rfl) (by kernel_rfl) (by kernel_rfl) rfl ⟨_, sR⟩ (fun w_ hS_ => ex_assign (v := .bool (z144 == z159)) rfl) ?_
  refine WA.norm (listed' := #[true, true, true, true, true, true, true, true, true, true, true, true]) (by kernel_rfl) ?_
  refine WA.done (by kernel_rfl) ?_
  refine WC.seq ?_
  refine WC.regionD' HF [] 12 (by kernel_rfl) rfl ?_
  intro w164 s165
  replace hG := hG.step s165 rfl
  replace hB105 := hB105.step s165 rfl
  replace hB110 := hB110.step s165 rfl
  replace hB115 := hB115.step s165 rfl
  replace hB128 := hB128.step s165 rfl
  replace hB141 := hB141.step s165 rfl
  replace HF := HF.step s165 rfl
  have hGD := hG
  have hB105D := hB105
  have hB110D := hB110
  have hB115D := hB115
  have hB128D := hB128
  have hB141D := hB141
  have sR := HF.here []
  refine WA.norm (listed' := #[false, false, false, false, false, false, false, false, false, false, false, false]) (by kernel_rfl) ?_
  refine WA.ex 0 rfl (by kernel_rfl) (by kernel_rfl) (by kernel_rfl) rfl ⟨_, sR⟩ (fun w_ hS_ => ex_loadAV (xs := a2) rfl Tryd.underlying24 sz24 hla2 (hB115D.step hS_.choose_spec rfl)) ?_
  refine WA.norm (listed' := #[true, false, false, false, false, false, false, false, false, false, false, false]) (by kernel_rfl) ?_
  refine WA.ex 1 rfl (by kernel_rfl) (by kernel_rfl) (by kernel_rfl) rfl ⟨_, sR⟩ (fun w_ hS_ => ex_loadAV (xs := z129) rfl Tryd.underlying24 sz24 hl133 (hB141D.step hS_.choose_spec rfl)) ?_
  refine WA.norm (listed' := #[true, true, false, false, false, false, false, false, false, false, false, false]) (by kernel_rfl) ?_
  refine WA.ex 3 rfl (by kernel_rfl) (by kernel_rfl) (by kernel_rfl) rfl ⟨_, sR⟩ (fun w_ hS_ => ex_loadAV (xs := a2) rfl Tryd.underlying24 sz24 hla2 (hB115D.step hS_.choose_spec rfl)) ?_
  refine WA.norm (listed' := #[true, true, false, true, false, false, false, false, false, false, false, false]) (by kernel_rfl) ?_
  refine WA.ex 4 rfl (by kernel_rfl) (by kernel_rfl) (by kernel_rfl) rfl ⟨_, sR⟩ (fun w_ hS_ => ex_loadAV (xs := a0) rfl Tryd.underlying24 sz24 hla0 (hB105D.step hS_.choose_spec rfl)) ?_
  refine WA.norm (listed' := #[true, true, false, true, true, false, false, false, false, false, false, false]) (by kernel_rfl) ?_
  refine WA.ex 6 rfl (by kernel_rfl) (by kernel_rfl) (by kernel_rfl) rfl ⟨_, sR⟩ (fun w_ hS_ => ex_loadAV (xs := a2) rfl Tryd.underlying24 sz24 hla2 (hB115D.step hS_.choose_spec rfl)) ?_
  refine WA.norm (listed' := #[true, true, false, true, true, false, true, false, false, false, false, false]) (by kernel_rfl) ?_
  refine WA.ex 7 rfl (by kernel_rfl) (by kernel_rfl) (by kernel_rfl) rfl ⟨_, sR⟩ (fun w_ hS_ => ex_loadAV (xs := a1) rfl Tryd.underlying24 sz24 hla1 (hB110D.step hS_.choose_spec rfl)) ?_
  refine WA.norm (listed' := #[true, true, false, true, true, false, true, true, false, false, false, false]) (by kernel_rfl) ?_
  obtain ⟨z166, hz166, H⟩ := bindE H
  refine WA.one 2 (by kernel_rfl) rfl rfl ?_
  refine OW.call [.agg (List.map enc64 a2).toArray, .agg (List.map enc64 z129).toArray] rfl Tryd.func19 (by kernel_rfl) (by kernel_rfl) (map_cons' rfl (map_cons' rfl rfl)) (bits_Minus.calls k _ _ a2 z129 z166 (HF.ten (V := [0]) (L := []) rfl) hla2 hl133 hz166) ?_
  rintro _ w167 ⟨o168, rfl, s169, hl170⟩
  refine ⟨_, rfl, ?_⟩
  replace s169 := un_stepL (J := []) (L' := []) s169 rfl rfl
  replace hG := hG.step s169 rfl
  replace hB105 := hB105.step s169 rfl
  replace hB110 := hB110.step s169 rfl
  replace hB115 := hB115.step s169 rfl
  replace hB128 := hB128.step s169 rfl
  replace hB141 := hB141.step s169 rfl
  replace HF := HF.step s169 rfl
  replace sR := Step.trans sR s169 (M := []) rfl rfl
  refine ⟨⟨_, sR⟩, ?_⟩
  refine WA.norm (listed' := #[true, true, true, true, true, false, true, true, false, false, false, false]) (by kernel_rfl) ?_
  obtain ⟨z171, hz171, H⟩ := bindE H
  refine WA.one 5 (by kernel_rfl) rfl rfl ?_
  refine OW.call [.agg (List.map enc64 a2).toArray, .agg (List.map enc64 a0).toArray] rfl Tryd.func19 (by kernel_rfl) (by kernel_rfl) (map_cons' rfl (map_cons' rfl rfl)) (bits_Minus.calls k _ _ a2 a0 z171 (HF.ten (V := [0]) (L := []) rfl) hla2 hla0 hz171) ?_
  rintro _ w172 ⟨o173, rfl, s174, hl175⟩
  refine ⟨_, rfl, ?_⟩
  replace s174 := un_stepL (J := []) (L' := []) s174 rfl rfl
  replace hG := hG.step s174 rfl
  replace hB105 := hB105.step s174 rfl
  replace hB110 := hB110.step s174 rfl
  replace hB115 := hB115.step s174 rfl
  replace hB128 := hB128.step s174 rfl
  replace hB141 := hB141.step s174 rfl
  replace HF := HF.step s174 rfl
  replace sR := Step.trans sR s174 (M := []) rfl rfl
  refine ⟨⟨_, sR⟩, ?_⟩
  refine WA.norm (listed' := #[true, true, true, true, true, true, true, true, false, false, false, false]) (by kernel_rfl) ?_
  obtain ⟨z176, hz176, H⟩ := bindE H
  refine WA.one 8 (by kernel_rfl) rfl rfl ?_
  refine OW.call [.agg (List.map enc64 a2).toArray, .agg (List.map enc64 a1).toArray] rfl Tryd.func19 (by kernel_rfl) (by kernel_rfl) (map_cons' rfl (map_cons' rfl rfl)) (bits_Minus.calls k _ _ a2 a1 z176 (HF.ten (V := [0]) (L := []) rfl) hla2 hla1 hz176) ?_
  rintro _ w177 ⟨o178, rfl, s179, hl180⟩
  refine ⟨_, rfl, ?_⟩
  replace s179 := un_stepL (J := []) (L' := []) s179 rfl rfl
  replace hG := hG.step s179 rfl
  replace hB105 := hB105.step s179 rfl
  replace hB110 := hB110.step s179 rfl
  replace hB115 := hB115.step s179 rfl
  replace hB128 := hB128.step s179 rfl
  replace hB141 := hB141.step s179 rfl
  replace HF := HF.step s179 rfl
  replace sR := Step.trans sR s179 (M := []) rfl rfl
  refine ⟨⟨_, sR⟩, ?_⟩
  refine WA.norm (listed' := #[true, true, true, true, true, true, true, true, true, false, false, false]) (by kernel_rfl) ?_
  obtain ⟨z181, hz181, H⟩ := bindE H
  refine WA.one 9 (by kernel_rfl) rfl rfl ?_
  refine OW.call [.agg (List.map enc64 z171).toArray, .agg (List.map enc64 z176).toArray] rfl Tryd.func15 (by kernel_rfl) (by kernel_rfl) (map_cons' rfl (map_cons' rfl rfl)) (bits_Union.calls k _ _ z171 z176 z181 (HF.ten (V := [0]) (L := []) rfl) hl175 hl180 hz181) ?_
  rintro _ w182 ⟨o183, rfl, s184, hl185⟩
  refine ⟨_, rfl, ?_⟩
  replace s184 := un_stepL (J := []) (L' := []) s184 rfl rfl
  replace hG := hG.step s184 rfl
  replace hB105 := hB105.step s184 rfl
  replace hB110 := hB110.step s184 rfl
  replace hB115 := hB115.step s184 rfl
  replace hB128 := hB128.step s184 rfl
  replace hB141 := hB141.step s184 rfl
  replace HF := HF.step s184 rfl
  replace sR := Step.trans sR s184 (M := []) rfl rfl
  refine ⟨⟨_, sR⟩, ?_⟩
  refine WA.norm (listed' := #[true, true, true, true, true, true, true, true, true, true, false, false]) (by kernel_rfl) ?_
  refine WA.ex 10 rfl (by kernel_rfl) (by kernel_rfl) (by kernel_rfl) rfl ⟨_, sR⟩ (fun w_ hS_ => ex_bin (a := .agg (List.map enc64 z166).toArray) (b := .agg (List.map enc64 z181).toArray) (v := .bool (z166 == z181)) rfl rfl (bin_eql_agg (by kernel_rfl) (EqR.arr Tryd.underlying24 sz22 Tryd.underlying22 rfl hl170 hl185 (fun _ _ => EqR.u64 Tryd.underlying22)))) ?_
  refine WA.norm (listed' := #[true, true, true, true, true, true, true, true, true, true, true, false]) (by kernel_rfl) ?_
  refine WA.ex 11 rfl (by kernel_rfl) (by kernel_rfl) (by kernel_rfl) rfl ⟨_, sR⟩ (fun w_ hS_ => ex_assign (v := .bool (z166 == z181)) rfl) ?_
  refine WA.norm (listed' := #[true, true, true, true, true, true, true, true, true, true, true, true]) (by kernel_rfl) ?_
  refine WA.done (by kernel_rfl) ?_
  refine WC.seq ?_
  refine WC.regionD' HF [] 12 (by kernel_rfl) rfl ?_
  intro w186 s187
  replace hG := hG.step s187 rfl
  replace hB105 := hB105.step s187 rfl
  replace hB110 := hB110.step s187 rfl
  replace hB115 := hB115.step s187 rfl
  replace hB128 := hB128.step s187 rfl
  replace hB141 := hB141.step s187 rfl
  replace HF := HF.step s187 rfl
  have hGD := hG
  have hB105D := hB105
  have hB110D := hB110
  have hB115D := hB115
  have hB128D := hB128
  have hB141D := hB141
  have sR := HF.here []
  refine WA.norm (listed' := #[false, false, false, false, false, false, false, false, false, false, false, false]) (by kernel_rfl) ?_
  refine WA.ex 0 rfl (by kernel_rfl) (by kernel_rfl) (by kernel_rfl) rfl ⟨_, sR⟩ (fun w_ hS_ => ex_loadAV (xs := a0) rfl Tryd.underlying24 sz24 hla0 (hB105D.step hS_.choose_spec rfl)) ?_
  refine WA.norm (listed' := #[true, false, false, false, false, false, false, false, false, false, false, false]) (by kernel_rfl) ?_
  refine WA.ex 1 rfl (by kernel_rfl) (by kernel_rfl) (by kernel_rfl) rfl ⟨_, sR⟩ (fun w_ hS_ => ex_loadAV (xs := a1) rfl Tryd.underlying24 sz24 hla1 (hB110D.step hS_.choose_spec rfl)) ?_
  refine WA.norm (listed' := #[true, true, false, false, false, false, false, false, false, false, false, false]) (by kernel_rfl) ?_
  refine WA.ex 2 rfl (by kernel_rfl) (by kernel_rfl) (by kernel_rfl) rfl ⟨_, sR⟩ (fun w_ hS_ => ex_loadAV (xs := a2) rfl Tryd.underlying24 sz24 hla2 (hB115D.step hS_.choose_spec rfl)) ?_
  refine WA.norm (listed' := #[true, true, true, false, false, false, false, false, false, false, false, false]) (by kernel_rfl) ?_
  refine WA.ex 5 rfl (by kernel_rfl) (by kernel_rfl) (by kernel_rfl) rfl ⟨_, sR⟩ (fun w_ hS_ => ex_loadAV (xs := z129) rfl Tryd.underlying24 sz24 hl133 (hB141D.step hS_.choose_spec rfl)) ?_
  refine WA.norm (listed' := #[true, true, true, false, false, true, false, false, false, false, false, false]) (by kernel_rfl) ?_
  refine WA.ex 6 rfl (by kernel_rfl) (by kernel_rfl) (by kernel_rfl) rfl ⟨_, sR⟩ (fun w_ hS_ => ex_loadAV (xs := a0) rfl Tryd.underlying24 sz24 hla0 (hB105D.step hS_.choose_spec rfl)) ?_
  refine WA.norm (listed' := #[true, true, true, false, false, true, true, false, false, false, false, false]) (by kernel_rfl) ?_
  refine WA.ex 7 rfl (by kernel_rfl) (by kernel_rfl) (by kernel_rfl) rfl ⟨_, sR⟩ (fun w_ hS_ => ex_loadAV (xs := a2) rfl Tryd.underlying24 sz24 hla2 (hB115D.step hS_.choose_spec rfl)) ?_
  refine WA.norm (listed' := #[true, true, true, false, false, true, true, true, false, false, false, false]) (by kernel_rfl) ?_
  obtain ⟨z188, hz188, H⟩ := bindE H
  refine WA.one 3 (by kernel_rfl) rfl rfl ?_
  refine OW.call [.agg (List.map enc64 a1).toArray, .agg (List.map enc64 a2).toArray] rfl Tryd.func15 (by kernel_rfl) (by kernel_rfl) (map_cons' rfl (map_cons' rfl rfl)) (bits_Union.calls k _ _ a1 a2 z188 (HF.ten (V := [0]) (L := []) rfl) hla1 hla2 hz188) ?_
  rintro _ w189 ⟨o190, rfl, s191, hl192⟩
  refine ⟨_, rfl, ?_⟩
  replace s191 := un_stepL (J := []) (L' := []) s191 rfl rfl
  replace hG := hG.step s191 rfl
  replace hB105 := hB105.step s191 rfl
  replace hB110 := hB110.step s191 rfl
  replace hB115 := hB115.step s191 rfl
  replace hB128 := hB128.step s191 rfl
  replace hB141 := hB141.step s191 rfl
  replace HF := HF.step s191 rfl
  replace sR := Step.trans sR s191 (M := []) rfl rfl
  refine ⟨⟨_, sR⟩, ?_⟩
  refine WA.norm (listed' := #[true, true, true, true, false, true, true, true, false, false, false, false]) (by kernel_rfl) ?_
  obtain ⟨z193, hz193, H⟩ := bindE H
  refine WA.one 4 (by kernel_rfl) rfl rfl ?_
  refine OW.call [.agg (List.map enc64 a0).toArray, .agg (List.map enc64 z188).toArray] rfl Tryd.func17 (by kernel_rfl) (by kernel_rfl) (map_cons' rfl (map_cons' rfl rfl)) (bits_Meet.calls k _ _ a0 z188 z193 (HF.ten (V := [0]) (L := []) rfl) hla0 hl192 hz193) ?_
  rintro _ w194 ⟨o195, rfl, s196, hl197⟩
  refine ⟨_, rfl, ?_⟩
  replace s196 := un_stepL (J := []) (L' := []) s196 rfl rfl
  replace hG := hG.step s196 rfl
  replace hB105 := hB105.step s196 rfl
  replace hB110 := hB110.step s196 rfl
  replace hB115 := hB115.step s196 rfl
  replace hB128 := hB128.step s196 rfl
  replace hB141 := hB141.step s196 rfl
  replace HF := HF.step s196 rfl
  replace sR := Step.trans sR s196 (M := []) rfl rfl
  refine ⟨⟨_, sR⟩, ?_⟩
  refine WA.norm (listed' := #[true, true, true, true, true, true, true, true, false, false, false, false]) (by kernel_rfl) ?_
  obtain ⟨z198, hz198, H⟩ := bindE H
  refine WA.one 8 (by kernel_rfl) rfl rfl ?_
  refine OW.call [.agg (List.map enc64 a0).toArray, .agg (List.map enc64 a2).toArray] rfl Tryd.func17 (by kernel_rfl) (by kernel_rfl) (map_cons' rfl (map_cons' rfl rfl)) (bits_Meet.calls k _ _ a0 a2 z198 (HF.ten (V := [0]) (L := []) rfl) hla0 hla2 hz198) ?_
  rintro _ w199 ⟨o200, rfl, s201, hl202⟩
  refine ⟨_, rfl, ?_⟩
  replace s201 := un_stepL (J := []) (L' := []) s201 rfl rfl
  replace hG := hG.step s201 rfl
  replace hB105 := hB105.step s201 rfl
  replace hB110 := hB110.step s201 rfl
  replace hB115 := hB115.step s201 rfl
  replace hB128 := hB128.step s201 rfl
  replace hB141 := hB141.step s201 rfl
  replace HF := HF.step s201 rfl
  replace sR := Step.trans sR s201 (M := []) rfl rfl
  refine ⟨⟨_, sR⟩, ?_⟩
  refine WA.norm (listed' := #[true, true, true, true, true, true, true, true, true, false, false, false]) (by kernel_rfl) ?_
  obtain ⟨z203, hz203, H⟩ := bindE H
  refine WA.one 9 (by kernel_rfl) rfl rfl ?_
  refine OW.call [.agg (List.map enc64 z129).toArray, .agg (List.map enc64 z198).toArray] rfl Tryd.func15 (by kernel_rfl) (by kernel_rfl) (map_cons' rfl (map_cons' rfl rfl)) (bits_Union.calls k _ _ z129 z198 z203 (HF.ten (V := [0]) (L := []) rfl) hl133 hl202 hz203) ?_
  rintro _ w204 ⟨o205, rfl, s206, hl207⟩
  refine ⟨_, rfl, ?_⟩
  replace s206 := un_stepL (J := []) (L' := []) s206 rfl rfl
  replace hG := hG.step s206 rfl
  replace hB105 := hB105.step s206 rfl
  replace hB110 := hB110.step s206 rfl
  replace hB115 := hB115.step s206 rfl
  replace hB128 := hB128.step s206 rfl
  replace hB141 := hB141.step s206 rfl
  replace HF := HF.step s206 rfl
  replace sR := Step.trans sR s206 (M := []) rfl rfl
  refine ⟨⟨_, sR⟩, ?_⟩
  refine WA.norm (listed' := #[true, true, true, true, true, true, true, true, true, true, false, false]) (by kernel_rfl) ?_
  refine WA.ex 10 rfl (by kernel_rfl) (by kernel_rfl) (by kernel_rfl) rfl ⟨_, sR⟩ (fun w_ hS_ => ex_bin (a := .agg (List.map enc64 z193).toArray) (b := .agg (List.map enc64 z203).toArray) (v := .bool (z193 == z203)) rfl rfl (bin_eql_agg (by kernel_rfl) (EqR.arr Tryd.underlying24 sz22 Tryd.underlying22 rfl hl197 hl207 (fun _ _ => EqR.u64 Tryd.underlying22)))) ?_
  refine WA.norm (listed' := #[true, true, true, true, true, true, true, true, true, true, true, false]) (by kernel_rfl) ?_
  refine WA.ex 11 rfl (by kernel_rfl) (by kernel_rfl) (by kernel_rfl) rfl ⟨_, sR⟩ (fun w_ hS_ => ex_assign (v := .bool (z193 == z203)) rfl) ?_
  refine WA.norm (listed' := #[true, true, true, true, true, true, true, true, true, true, true, true]) (by kernel_rfl) ?_
  refine WA.done (by kernel_rfl) ?_
  obtain ⟨z209, hz209, H⟩ := bindE H
  refine WC.cut (fun ρ_ w_ => ∃ (o_ : Tags), Fm o0 w0 o_ w_ [] ∧ Bk o_ w_ 10 b101 (List.map enc64 a0) 24 ∧ Bk o_ w_ 11 b106 (List.map enc64 a1) 24 ∧ Bk o_ w_ 12 b111 (List.map enc64 a2) 24 ∧ Bk o_ w_ 14 b134 (List.map enc64 z129) 24 ∧ Gl GG o_ w_ ∧ ρ_ 3 = .pointer (some ⟨b101, 0, none⟩) ∧ ρ_ 4 = .pointer (some ⟨b106, 0, none⟩) ∧ ρ_ 5 = .pointer (some ⟨b111, 0, none⟩) ∧ ρ_ 6 = .bool false ∧ ρ_ 8 = .pointer (some ⟨b134, 0, none⟩) ∧ ρ_ 9 = .bool (z144 == z159) ∧ ρ_ 10 = .bool (z166 == z181) ∧ ρ_ 11 = .bool (z193 == z203) ∧ ρ_ 12 = .bool z209) ?case210 ?_
  case case210 =>
    rintro ρ213 w211 ⟨o212, HF, hB105, hB110, hB115, hB141, hG, s3_207, s4_207, s5_207, s6_207, s8_207, s9_207, s10_207, s11_207, s12_208⟩
    obtain ⟨z215, hz215, H⟩ := bindE H
    refine WC.cut (fun ρ_ w_ => ∃ (o_ : Tags), Fm o0 w0 o_ w_ [] ∧ Bk o_ w_ 10 b101 (List.map enc64 a0) 24 ∧ Bk o_ w_ 11 b106 (List.map enc64 a1) 24 ∧ Bk o_ w_ 12 b111 (List.map enc64 a2) 24 ∧ Gl GG o_ w_ ∧ ρ_ 3 = .pointer (some ⟨b101, 0, none⟩) ∧ ρ_ 4 = .pointer (some ⟨b106, 0, none⟩) ∧ ρ_ 5 = .pointer (some ⟨b111, 0, none⟩) ∧ ρ_ 6 = .bool false ∧ ρ_ 9 = .bool (z144 == z159) ∧ ρ_ 10 = .bool (z166 == z181) ∧ ρ_ 11 = .bool (z193 == z203) ∧ ρ_ 12 = .bool z209 ∧ ρ_ 13 = .bool z215) ?case216 ?_
    case case216 =>
      rintro ρ219 w217 ⟨o218, HF, hB105, hB110, hB115, hG, s3_213, s4_213, s5_213, s6_213, s9_213, s10_213, s11_213, s12_213, s13_214⟩
      obtain ⟨z221, hz221, H⟩ := bindE H
      refine WC.cut (fun ρ_ w_ => ∃ (o_ : Tags), Fm o0 w0 o_ w_ [] ∧ Gl GG o_ w_ ∧ ρ_ 6 = .bool false ∧ ρ_ 9 = .bool (z144 == z159) ∧ ρ_ 10 = .bool (z166 == z181) ∧ ρ_ 11 = .bool (z193 == z203) ∧ ρ_ 12 = .bool z209 ∧ ρ_ 13 = .bool z215 ∧ ρ_ 14 = .bool z221) ?case222 ?_
      case case222 =>
        rintro ρ225 w223 ⟨o224, HF, hG, s6_219, s9_219, s10_219, s11_219, s12_219, s13_219, s14_220⟩
        refine WC.seq ?_
        refine WC.region ?_
        refine WL.ex rfl (ex_move (v := .bool (z144 == z159)) s9_219) ?_
        refine WL.ex rfl (ex_move (v := .bool (z144 == z159)) rfl) ?_
        rcases condE H with ⟨c226, H⟩ | ⟨c226, H⟩
        ·
          refine WL.guardYes rfl rfl rfl ((show _ = Value.bool (z144 == z159) from rfl).trans (congrArg Value.bool c226)) ?_
          refine OW.ex rfl (ex_move (v := .bool (z166 == z181)) s10_219) ?_
          refine WL.ex rfl (ex_pick_t (v := .bool (z166 == z181)) ((show _ = Value.bool (z144 == z159) from rfl).trans (congrArg Value.bool c226)) rfl) ?_
          refine WL.ex rfl (ex_move (v := .bool (z166 == z181)) rfl) ?_
          rcases condE H with ⟨c227, H⟩ | ⟨c227, H⟩
          ·
            refine WL.guardYes rfl rfl rfl ((show _ = Value.bool (z166 == z181) from rfl).trans (congrArg Value.bool c227)) ?_
            refine OW.ex rfl (ex_move (v := .bool (z193 == z203)) s11_219) ?_
            refine WL.ex rfl (ex_pick_t (v := .bool (z193 == z203)) ((show _ = Value.bool (z166 == z181) from rfl).trans (congrArg Value.bool c227)) rfl) ?_
            refine WL.ex rfl (ex_move (v := .bool (z193 == z203)) rfl) ?_
            rcases condE H with ⟨c228, H⟩ | ⟨c228, H⟩
            ·
              refine WL.guardYes rfl rfl rfl ((show _ = Value.bool (z193 == z203) from rfl).trans (congrArg Value.bool c228)) ?_
              refine OW.ex rfl (ex_move (v := .bool z209) s12_219) ?_
              refine WL.ex rfl (ex_pick_t (v := .bool z209) ((show _ = Value.bool (z193 == z203) from rfl).trans (congrArg Value.bool c228)) rfl) ?_
              refine WL.ex rfl (ex_move (v := .bool z209) rfl) ?_
              rcases condE H with ⟨c229, H⟩ | ⟨c229, H⟩
              ·
                refine WL.guardYes rfl rfl rfl ((show _ = Value.bool z209 from rfl).trans (congrArg Value.bool c229)) ?_
                refine OW.ex rfl (ex_move (v := .bool z215) s13_219) ?_
                refine WL.ex rfl (ex_pick_t (v := .bool z215) ((show _ = Value.bool z209 from rfl).trans (congrArg Value.bool c229)) rfl) ?_
                refine WL.ex rfl (ex_move (v := .bool z215) rfl) ?_
                rcases condE H with ⟨c230, H⟩ | ⟨c230, H⟩
                ·
                  refine WL.guardYes rfl rfl rfl ((show _ = Value.bool z215 from rfl).trans (congrArg Value.bool c230)) ?_
                  refine OW.ex rfl (ex_move (v := .bool z221) s14_220) ?_
                  refine WL.ex rfl (ex_pick_t (v := .bool z221) ((show _ = Value.bool z215 from rfl).trans (congrArg Value.bool c230)) rfl) ?_
                  refine WL.ex rfl (ex_move (v := .bool z221) rfl) ?_
                  rcases condE H with ⟨c231, H⟩ | ⟨c231, H⟩
                  ·
                    refine WL.guardYes rfl rfl rfl ((show _ = Value.bool z221 from rfl).trans (congrArg Value.bool c231)) ?_
                    obtain ⟨z232, hz232, H⟩ := bindE H
                    refine OW.call [] rfl Tryd.func12 (by kernel_rfl) (by kernel_rfl) rfl (dictumlaw05_heads.calls k _ _ z232 (HF.ten (V := [0]) (L := []) rfl) (Gl.vw (V := [0]) (L := []) hG rfl) hz232) ?_
                    rintro _ w233 ⟨o234, rfl, s235⟩
                    refine ⟨_, rfl, ?_⟩
                    replace s235 := un_stepL (J := []) (L' := []) s235 rfl rfl
                    replace hG := hG.step s235 rfl
                    replace HF := HF.step s235 rfl
                    refine WL.ex rfl (ex_pick_t (v := .bool z232) ((show _ = Value.bool z221 from rfl).trans (congrArg Value.bool c231)) rfl) ?_
                    refine WL.ex rfl (ex_assign (v := .bool z232) rfl) ?_
                    refine WL.nil ?_
                    refine WC.ret ?_
                    obtain rfl := Option.some.inj H
                    exact ⟨_, (.tmp (.bool z232 : Value) rfl .nil), _, rfl, HF.out⟩
                  ·
                    refine WL.guardNo rfl rfl rfl ((show _ = Value.bool z221 from rfl).trans (congrArg Value.bool c231)) ?_
                    refine WL.ex rfl (ex_pick_f (v := .bool false) ((show _ = Value.bool z221 from rfl).trans (congrArg Value.bool c231)) rfl) ?_
                    refine WL.ex rfl (ex_assign (v := .bool false) rfl) ?_
                    refine WL.nil ?_
                    refine WC.ret ?_
                    obtain rfl := Option.some.inj H
                    exact ⟨_, (.tmp (.bool false : Value) rfl .nil), _, rfl, HF.out⟩
                ·
                  refine WL.guardNo rfl rfl rfl ((show _ = Value.bool z215 from rfl).trans (congrArg Value.bool c230)) ?_
                  refine WL.ex rfl (ex_pick_f (v := .bool false) ((show _ = Value.bool z215 from rfl).trans (congrArg Value.bool c230)) rfl) ?_
                  refine WL.ex rfl (ex_move (v := .bool false) rfl) ?_
                  refine WL.guardNo rfl rfl rfl rfl ?_
                  refine WL.ex rfl (ex_pick_f (v := .bool false) rfl rfl) ?_
                  refine WL.ex rfl (ex_assign (v := .bool false) rfl) ?_
                  refine WL.nil ?_
                  refine WC.ret ?_
                  obtain rfl := Option.some.inj H
                  exact ⟨_, (.tmp (.bool false : Value) rfl .nil), _, rfl, HF.out⟩
              ·
                refine WL.guardNo rfl rfl rfl ((show _ = Value.bool z209 from rfl).trans (congrArg Value.bool c229)) ?_
                refine WL.ex rfl (ex_pick_f (v := .bool false) ((show _ = Value.bool z209 from rfl).trans (congrArg Value.bool c229)) rfl) ?_
                refine WL.ex rfl (ex_move (v := .bool false) rfl) ?_
                refine WL.guardNo rfl rfl rfl rfl ?_
                refine WL.ex rfl (ex_pick_f (v := .bool false) rfl rfl) ?_
                refine WL.ex rfl (ex_move (v := .bool false) rfl) ?_
                refine WL.guardNo rfl rfl rfl rfl ?_
                refine WL.ex rfl (ex_pick_f (v := .bool false) rfl rfl) ?_
                refine WL.ex rfl (ex_assign (v := .bool false) rfl) ?_
                refine WL.nil ?_
                refine WC.ret ?_
                obtain rfl := Option.some.inj H
                exact ⟨_, (.tmp (.bool false : Value) rfl .nil), _, rfl, HF.out⟩
            ·
              refine WL.guardNo rfl rfl rfl ((show _ = Value.bool (z193 == z203) from rfl).trans (congrArg Value.bool c228)) ?_
              refine WL.ex rfl (ex_pick_f (v := .bool false) ((show _ = Value.bool (z193 == z203) from rfl).trans (congrArg Value.bool c228)) rfl) ?_
              refine WL.ex rfl (ex_move (v := .bool false) rfl) ?_
              refine WL.guardNo rfl rfl rfl rfl ?_
              refine WL.ex rfl (ex_pick_f (v := .bool false) rfl rfl) ?_
              refine WL.ex rfl (ex_move (v := .bool false) rfl) ?_
              refine WL.guardNo rfl rfl rfl rfl ?_
              refine WL.ex rfl (ex_pick_f (v := .bool false) rfl rfl) ?_
              refine WL.ex rfl (ex_move (v := .bool false) rfl) ?_
              refine WL.guardNo rfl rfl rfl rfl ?_
              refine WL.ex rfl (ex_pick_f (v := .bool false) rfl rfl) ?_
              refine WL.ex rfl (ex_assign (v := .bool false) rfl) ?_
              refine WL.nil ?_
              refine WC.ret ?_
              obtain rfl := Option.some.inj H
              exact ⟨_, (.tmp (.bool false : Value) rfl .nil), _, rfl, HF.out⟩
          ·
            refine WL.guardNo rfl rfl rfl ((show _ = Value.bool (z166 == z181) from rfl).trans (congrArg Value.bool c227)) ?_
            refine WL.ex rfl (ex_pick_f (v := .bool false) ((show _ = Value.bool (z166 == z181) from rfl).trans (congrArg Value.bool c227)) rfl) ?_
            refine WL.ex rfl (ex_move (v := .bool false) rfl) ?_
            refine WL.guardNo rfl rfl rfl rfl ?_
            refine WL.ex rfl (ex_pick_f (v := .bool false) rfl rfl) ?_
            refine WL.ex rfl (ex_move (v := .bool false) rfl) ?_
            refine WL.guardNo rfl rfl rfl rfl ?_
            refine WL.ex rfl (ex_pick_f (v := .bool false) rfl rfl) ?_
            refine WL.ex rfl (ex_move (v := .bool false) rfl) ?_
            refine WL.guardNo rfl rfl rfl rfl ?_
            refine WL.ex rfl (ex_pick_f (v := .bool false) rfl rfl) ?_
            refine WL.ex rfl (ex_move (v := .bool false) rfl) ?_
            refine WL.guardNo rfl rfl rfl rfl ?_
            refine WL.ex rfl (ex_pick_f (v := .bool false) rfl rfl) ?_
            refine WL.ex rfl (ex_assign (v := .bool false) rfl) ?_
            refine WL.nil ?_
            refine WC.ret ?_
            obtain rfl := Option.some.inj H
            exact ⟨_, (.tmp (.bool false : Value) rfl .nil), _, rfl, HF.out⟩
        ·
          refine WL.guardNo rfl rfl rfl ((show _ = Value.bool (z144 == z159) from rfl).trans (congrArg Value.bool c226)) ?_
          refine WL.ex rfl (ex_pick_f (v := .bool false) ((show _ = Value.bool (z144 == z159) from rfl).trans (congrArg Value.bool c226)) rfl) ?_
          refine WL.ex rfl (ex_move (v := .bool false) rfl) ?_
          refine WL.guardNo rfl rfl rfl rfl ?_
          refine WL.ex rfl (ex_pick_f (v := .bool false) rfl rfl) ?_
          refine WL.ex rfl (ex_move (v := .bool false) rfl) ?_
          refine WL.guardNo rfl rfl rfl rfl ?_
          refine WL.ex rfl (ex_pick_f (v := .bool false) rfl rfl) ?_
          refine WL.ex rfl (ex_move (v := .bool false) rfl) ?_
          refine WL.guardNo rfl rfl rfl rfl ?_
          refine WL.ex rfl (ex_pick_f (v := .bool false) rfl rfl) ?_
          refine WL.ex rfl (ex_move (v := .bool false) rfl) ?_
          refine WL.guardNo rfl rfl rfl rfl ?_
          refine WL.ex rfl (ex_pick_f (v := .bool false) rfl rfl) ?_
          refine WL.ex rfl (ex_move (v := .bool false) rfl) ?_
          refine WL.guardNo rfl rfl rfl rfl ?_
          refine WL.ex rfl (ex_pick_f (v := .bool false) rfl rfl) ?_
          refine WL.ex rfl (ex_assign (v := .bool false) rfl) ?_
          refine WL.nil ?_
          refine WC.ret ?_
          obtain rfl := Option.some.inj H
          exact ⟨_, (.tmp (.bool false : Value) rfl .nil), _, rfl, HF.out⟩
      have Ho236 := H
      replace H := hz221
      refine WC.region ?_
      refine WL.ex rfl (ex_loadAV (xs := a0) s3_213 Tryd.underlying24 sz24 hla0 hB105) ?_
      refine WL.ex rfl (ex_loadAV (xs := a1) s4_213 Tryd.underlying24 sz24 hla1 hB110) ?_
      obtain ⟨z237, hz237, H⟩ := bindE H
      refine WL.op rfl ?_
      refine OW.call [.agg (List.map enc64 a0).toArray, .agg (List.map enc64 a1).toArray] rfl Tryd.func25 (by kernel_rfl) (by kernel_rfl) (map_cons' rfl (map_cons' rfl rfl)) (bits_Compare.calls k _ _ a0 a1 z237 (HF.ten (V := [0]) (L := []) rfl) hla0 hla1 (Gl.vw (V := [0]) (L := []) hG rfl) hz237) ?_
      rintro _ w238 ⟨o239, rfl, s240⟩
      refine ⟨_, rfl, ?_⟩
      replace s240 := un_stepL (J := []) (L' := []) s240 rfl rfl
      replace hB105 := hB105.step s240 rfl
      replace hB110 := hB110.step s240 rfl
      replace hB115 := hB115.step s240 rfl
      replace hG := hG.step s240 rfl
      replace HF := HF.step s240 rfl
      refine WL.ex rfl (ex_bin (a := .int .i64 z237) (b := .int .i64 0) (v := .bool (decide (z237 < 0))) rfl rfl bin_lss) ?_
      refine WL.ex rfl (ex_move (v := .bool (decide (z237 < 0))) rfl) ?_
      rcases condE H with ⟨c241, H⟩ | ⟨c241, H⟩
      ·
        refine WL.guardYes rfl rfl rfl ((show _ = Value.bool (decide (z237 < 0)) from rfl).trans (congrArg Value.bool c241)) ?_
        refine OW.ex rfl (ex_loadAV (xs := a1) s4_213 Tryd.underlying24 sz24 hla1 hB110) ?_
        refine WL.guardYes rfl rfl rfl ((show _ = Value.bool (decide (z237 < 0)) from rfl).trans (congrArg Value.bool c241)) ?_
        refine OW.ex rfl (ex_loadAV (xs := a2) s5_213 Tryd.underlying24 sz24 hla2 hB115) ?_
        refine WL.guardYes rfl rfl rfl ((show _ = Value.bool (decide (z237 < 0)) from rfl).trans (congrArg Value.bool c241)) ?_
        obtain ⟨z242, hz242, H⟩ := bindE H
        refine OW.call [.agg (List.map enc64 a1).toArray, .agg (List.map enc64 a2).toArray] rfl Tryd.func25 (by kernel_rfl) (by kernel_rfl) (map_cons' rfl (map_cons' rfl rfl)) (bits_Compare.calls k _ _ a1 a2 z242 (HF.ten (V := [0]) (L := []) rfl) hla1 hla2 (Gl.vw (V := [0]) (L := []) hG rfl) hz242) ?_
        rintro _ w243 ⟨o244, rfl, s245⟩
        refine ⟨_, rfl, ?_⟩
        replace s245 := un_stepL (J := []) (L' := []) s245 rfl rfl
        replace hB105 := hB105.step s245 rfl
        replace hB110 := hB110.step s245 rfl
        replace hB115 := hB115.step s245 rfl
        replace hG := hG.step s245 rfl
        replace HF := HF.step s245 rfl
        refine WL.guardYes rfl rfl rfl ((show _ = Value.bool (decide (z237 < 0)) from rfl).trans (congrArg Value.bool c241)) ?_
        refine OW.ex rfl (ex_bin (a := .int .i64 z242) (b := .int .i64 0) (v := .bool (decide (z242 < 0))) rfl rfl bin_lss) ?_
        refine WL.ex rfl (ex_pick_t (v := .bool (decide (z242 < 0))) ((show _ = Value.bool (decide (z237 < 0)) from rfl).trans (congrArg Value.bool c241)) rfl) ?_
        refine WL.ex rfl (ex_not (b := (decide (z242 < 0))) rfl) ?_
        refine WL.ex rfl (ex_move (v := .bool (!(decide (z242 < 0)))) rfl) ?_
        rcases condE H with ⟨c246, H⟩ | ⟨c246, H⟩
        ·
          refine WL.guardNo rfl rfl rfl ((show _ = Value.bool (!(decide (z242 < 0))) from rfl).trans (congrArg Value.bool c246)) ?_
          refine WL.guardNo rfl rfl rfl ((show _ = Value.bool (!(decide (z242 < 0))) from rfl).trans (congrArg Value.bool c246)) ?_
          refine WL.guardNo rfl rfl rfl ((show _ = Value.bool (!(decide (z242 < 0))) from rfl).trans (congrArg Value.bool c246)) ?_
          refine WL.guardNo rfl rfl rfl ((show _ = Value.bool (!(decide (z242 < 0))) from rfl).trans (congrArg Value.bool c246)) ?_
          refine WL.ex rfl (ex_pick_t (v := .bool true) ((show _ = Value.bool (!(decide (z242 < 0))) from rfl).trans (congrArg Value.bool c246)) rfl) ?_
          refine WL.ex rfl (ex_assign (v := .bool true) rfl) ?_
          refine WL.nil ?_
          obtain rfl := Option.some.inj H
          exact ⟨_, HF, hG, s6_213, s9_213, s10_213, s11_213, s12_213, s13_214, rfl⟩
        ·
          refine WL.guardYes rfl rfl rfl ((show _ = Value.bool (!(decide (z242 < 0))) from rfl).trans (congrArg Value.bool c246)) ?_
          refine OW.ex rfl (ex_loadAV (xs := a0) s3_213 Tryd.underlying24 sz24 hla0 hB105) ?_
          refine WL.guardYes rfl rfl rfl ((show _ = Value.bool (!(decide (z242 < 0))) from rfl).trans (congrArg Value.bool c246)) ?_
          refine OW.ex rfl (ex_loadAV (xs := a2) s5_213 Tryd.underlying24 sz24 hla2 hB115) ?_
          refine WL.guardYes rfl rfl rfl ((show _ = Value.bool (!(decide (z242 < 0))) from rfl).trans (congrArg Value.bool c246)) ?_
          obtain ⟨z247, hz247, H⟩ := bindE H
          refine OW.call [.agg (List.map enc64 a0).toArray, .agg (List.map enc64 a2).toArray] rfl Tryd.func25 (by kernel_rfl) (by kernel_rfl) (map_cons' rfl (map_cons' rfl rfl)) (bits_Compare.calls k _ _ a0 a2 z247 (HF.ten (V := [0]) (L := []) rfl) hla0 hla2 (Gl.vw (V := [0]) (L := []) hG rfl) hz247) ?_
          rintro _ w248 ⟨o249, rfl, s250⟩
          refine ⟨_, rfl, ?_⟩
          replace s250 := un_stepL (J := []) (L' := []) s250 rfl rfl
          replace hB105 := hB105.step s250 rfl
          replace hB110 := hB110.step s250 rfl
          replace hB115 := hB115.step s250 rfl
          replace hG := hG.step s250 rfl
          replace HF := HF.step s250 rfl
          refine WL.guardYes rfl rfl rfl ((show _ = Value.bool (!(decide (z242 < 0))) from rfl).trans (congrArg Value.bool c246)) ?_
          refine OW.ex rfl (ex_bin (a := .int .i64 z247) (b := .int .i64 0) (v := .bool (decide (z247 < 0))) rfl rfl bin_lss) ?_
          refine WL.ex rfl (ex_pick_f (v := .bool (decide (z247 < 0))) ((show _ = Value.bool (!(decide (z242 < 0))) from rfl).trans (congrArg Value.bool c246)) rfl) ?_
          refine WL.ex rfl (ex_assign (v := .bool (decide (z247 < 0))) rfl) ?_
          refine WL.nil ?_
          obtain rfl := Option.some.inj H
          exact ⟨_, HF, hG, s6_213, s9_213, s10_213, s11_213, s12_213, s13_214, rfl⟩
      ·
        refine WL.guardNo rfl rfl rfl ((show _ = Value.bool (decide (z237 < 0)) from rfl).trans (congrArg Value.bool c241)) ?_
        refine WL.guardNo rfl rfl rfl ((show _ = Value.bool (decide (z237 < 0)) from rfl).trans (congrArg Value.bool c241)) ?_
        refine WL.guardNo rfl rfl rfl ((show _ = Value.bool (decide (z237 < 0)) from rfl).trans (congrArg Value.bool c241)) ?_
        refine WL.guardNo rfl rfl rfl ((show _ = Value.bool (decide (z237 < 0)) from rfl).trans (congrArg Value.bool c241)) ?_
        refine WL.ex rfl (ex_pick_f (v := .bool false) ((show _ = Value.bool (decide (z237 < 0)) from rfl).trans (congrArg Value.bool c241)) rfl) ?_
        refine WL.ex rfl (ex_not (b := false) rfl) ?_
        refine WL.ex rfl (ex_move (v := .bool true) rfl) ?_
        refine WL.guardNo rfl rfl rfl rfl ?_
        refine WL.guardNo rfl rfl rfl rfl ?_
        refine WL.guardNo rfl rfl rfl rfl ?_
        refine WL.guardNo rfl rfl rfl rfl ?_
        refine WL.ex rfl (ex_pick_t (v := .bool true) rfl rfl) ?_
        refine WL.ex rfl (ex_assign (v := .bool true) rfl) ?_
        refine WL.nil ?_
        obtain rfl := Option.some.inj H
        exact ⟨_, HF, hG, s6_213, s9_213, s10_213, s11_213, s12_213, s13_214, rfl⟩
    have Ho251 := H
    replace H := hz215
    refine WC.regionD' HF [] 28 (by kernel_rfl) rfl ?_
    intro w252 s253
    replace hB105 := hB105.step s253 rfl
    replace hB110 := hB110.step s253 rfl
    replace hB115 := hB115.step s253 rfl
    replace hB141 := hB141.step s253 rfl
    replace hG := hG.step s253 rfl
    replace HF := HF.step s253 rfl
    have hB105D := hB105
    have hB110D := hB110
    have hB115D := hB115
    have hB141D := hB141
    have hGD := hG
    have sR := HF.here []
    refine WA.norm (listed' := #[false, false, false, false, false, false, false, false, false, false, false, false, false, false, false, false, false, false, false, false, false, false, false, false, false, false, false, false]) (by kernel_rfl) ?_
    refine WA.ex 0 rfl (by kernel_rfl) (by kernel_rfl) (by kernel_rfl) rfl ⟨_, sR⟩ (fun w_ hS_ => ex_loadAV (xs := a0) s3_207 Tryd.underlying24 sz24 hla0 (hB105D.step hS_.choose_spec rfl)) ?_
    refine WA.norm (listed' := #[true, false, false, false, false, false, false, false, false, false, false, false, false, false, false, false, false, false, false, false, false, false, false, false, false, false, false, false]) (by kernel_rfl) ?_
    refine WA.ex 1 rfl (by kernel_rfl) (by kernel_rfl) (by kernel_rfl) rfl ⟨_, sR⟩ (fun w_ hS_ => ex_loadAV (xs := a1) s4_207 Tryd.underlying24 sz24 hla1 (hB110D.step hS_.choose_spec rfl)) ?_
    refine WA.norm (listed' := #[true, true, false, false, false, false, false, false, false, false, false, false, false, false, false, false, false, false, false, false, false, false, false, false, false, false, false, false]) (by kernel_rfl) ?_
    refine WA.ex 3 rfl (by kernel_rfl) (by kernel_rfl) (by kernel_rfl) rfl ⟨_, sR⟩ (fun w_ hS_ => ex_loadAV (xs := z129) s8_207 Tryd.underlying24 sz24 hl133 (hB141D.step hS_.choose_spec rfl)) ?_
    refine WA.norm (listed' := #[true, true, false, true, false, false, false, false, false, false, false, false, false, false, false, false, false, false, false, false, false, false, false, false, false, false, false, false]) (by kernel_rfl) ?_
    refine WA.ex 4 rfl (by kernel_rfl) (by kernel_rfl) (by kernel_rfl) rfl ⟨_, sR⟩ (fun w_ hS_ => ex_loadAV (xs := a0) s3_207 Tryd.underlying24 sz24 hla0 (hB105D.step hS_.choose_spec rfl)) ?_
    refine WA.norm (listed' := #[true, true, false, true, true, false, false, false, false, false, false, false, false, false, false, false, false, false, false, false, false, false, false, false, false, false, false, false]) (by kernel_rfl) ?_
    refine WA.ex 5 rfl (by kernel_rfl) (by kernel_rfl) (by kernel_rfl) rfl ⟨_, sR⟩ (fun w_ hS_ => ex_bin (a := .agg (List.map enc64 z129).toArray) (b := .agg (List.map enc64 a0).toArray) (v := .bool (z129 == a0)) rfl rfl (bin_eql_agg (by kernel_rfl) (EqR.arr Tryd.underlying24 sz22 Tryd.underlying22 rfl hl133 hla0 (fun _ _ => EqR.u64 Tryd.underlying22)))) ?_
    refine WA.norm (listed' := #[true, true, false, true, true, true, false, false, false, false, false, false, false, false, false, false, false, false, false, false, false, false, false, false, false, false, false, false]) (by kernel_rfl) ?_
    obtain ⟨z254, hz254, H⟩ := bindE H
    refine WA.one 2 (by kernel_rfl) rfl rfl ?_
    refine OW.call [.agg (List.map enc64 a0).toArray, .agg (List.map enc64 a1).toArray] rfl Tryd.func21 (by kernel_rfl) (by kernel_rfl) (map_cons' rfl (map_cons' rfl rfl)) (bits_Sub.calls k _ _ a0 a1 z254 (HF.ten (V := [0]) (L := []) rfl) hla0 hla1 hz254) ?_
    rintro _ w255 ⟨o256, rfl, s257⟩
    refine ⟨_, rfl, ?_⟩
    replace s257 := un_stepL (J := []) (L' := []) s257 rfl rfl
    replace hB105 := hB105.step s257 rfl
    replace hB110 := hB110.step s257 rfl
    replace hB115 := hB115.step s257 rfl
    replace hB141 := hB141.step s257 rfl
    replace hG := hG.step s257 rfl
    replace HF := HF.step s257 rfl
    replace sR := Step.trans sR s257 (M := []) rfl rfl
    refine ⟨⟨_, sR⟩, ?_⟩
    refine WA.norm (listed' := #[true, true, true, true, true, true, false, false, false, false, false, false, false, false, false, false, false, false, false, false, false, false, false, false, false, false, false, false]) (by kernel_rfl) ?_
    refine WA.ex 6 rfl (by kernel_rfl) (by kernel_rfl) (by kernel_rfl) rfl ⟨_, sR⟩ (fun w_ hS_ => ex_bin (a := .bool z254) (b := .bool (z129 == a0)) (v := .bool (z254 == (z129 == a0))) rfl rfl (bin_eql_bool Tryd.underlying4)) ?_
    refine WA.norm (listed' := #[true, true, true, true, true, true, true, false, false, false, false, false, false, false, false, false, false, false, false, false, false, false, false, false, false, false, false, false]) (by kernel_rfl) ?_
    refine WA.ex 7 rfl (by kernel_rfl) (by kernel_rfl) (by kernel_rfl) rfl ⟨_, sR⟩ (fun w_ hS_ => ex_move (v := .bool (z254 == (z129 == a0))) rfl) ?_
    refine WA.norm (listed' := #[true, true, true, true, true, true, true, true, false, false, false, false, false, false, false, false, false, false, false, false, false, false, false, false, false, false, false, false]) (by kernel_rfl) ?_
    rcases condE H with ⟨c258, H⟩ | ⟨c258, H⟩
    ·
      refine WA.exYes (i := 8) rfl (by kernel_rfl) (by kernel_rfl) (by kernel_rfl) rfl rfl rfl ((show _ = Value.bool (z254 == (z129 == a0)) from rfl).trans (congrArg Value.bool c258)) ⟨_, sR⟩ (fun w_ hS_ => ex_loadAV (xs := a0) s3_207 Tryd.underlying24 sz24 hla0 (hB105D.step hS_.choose_spec rfl)) ?_
      refine WA.norm (listed' := #[true, true, true, true, true, true, true, true, true, false, false, false, false, false, false, false, false, false, false, false, false, false, false, false, false, false, false, false]) (by kernel_rfl) ?_
      refine WA.exYes (i := 9) rfl (by kernel_rfl) (by kernel_rfl) (by kernel_rfl) rfl rfl rfl ((show _ = Value.bool (z254 == (z129 == a0)) from rfl).trans (congrArg Value.bool c258)) ⟨_, sR⟩ (fun w_ hS_ => ex_loadAV (xs := a1) s4_207 Tryd.underlying24 sz24 hla1 (hB110D.step hS_.choose_spec rfl)) ?_
      refine WA.norm (listed' := #[true, true, true, true, true, true, true, true, true, true, false, false, false, false, false, false, false, false, false, false, false, false, false, false, false, false, false, false]) (by kernel_rfl) ?_
      refine WA.exYes (i := 11) rfl (by kernel_rfl) (by kernel_rfl) (by kernel_rfl) rfl rfl rfl ((show _ = Value.bool (z254 == (z129 == a0)) from rfl).trans (congrArg Value.bool c258)) ⟨_, sR⟩ (fun w_ hS_ => ex_loadAV (xs := a1) s4_207 Tryd.underlying24 sz24 hla1 (hB110D.step hS_.choose_spec rfl)) ?_
      refine WA.norm (listed' := #[true, true, true, true, true, true, true, true, true, true, false, true, false, false, false, false, false, false, false, false, false, false, false, false, false, false, false, false]) (by kernel_rfl) ?_
      refine WA.exYes (i := 12) rfl (by kernel_rfl) (by kernel_rfl) (by kernel_rfl) rfl rfl rfl ((show _ = Value.bool (z254 == (z129 == a0)) from rfl).trans (congrArg Value.bool c258)) ⟨_, sR⟩ (fun w_ hS_ => ex_loadAV (xs := a0) s3_207 Tryd.underlying24 sz24 hla0 (hB105D.step hS_.choose_spec rfl)) ?_
      refine WA.norm (listed' := #[true, true, true, true, true, true, true, true, true, true, false, true, true, false, false, false, false, false, false, false, false, false, false, false, false, false, false, false]) (by kernel_rfl) ?_
      obtain ⟨z259, hz259, H⟩ := bindE H
      refine WA.oneYes 10 (by kernel_rfl) rfl rfl rfl rfl ((show _ = Value.bool (z254 == (z129 == a0)) from rfl).trans (congrArg Value.bool c258)) ?_
      refine OW.call [.agg (List.map enc64 a0).toArray, .agg (List.map enc64 a1).toArray] rfl Tryd.func25 (by kernel_rfl) (by kernel_rfl) (map_cons' rfl (map_cons' rfl rfl)) (bits_Compare.calls k _ _ a0 a1 z259 (HF.ten (V := [0]) (L := []) rfl) hla0 hla1 (Gl.vw (V := [0]) (L := []) hG rfl) hz259) ?_
      rintro _ w260 ⟨o261, rfl, s262⟩
      refine ⟨_, rfl, ?_⟩
      replace s262 := un_stepL (J := []) (L' := []) s262 rfl rfl
      replace hB105 := hB105.step s262 rfl
      replace hB110 := hB110.step s262 rfl
      replace hB115 := hB115.step s262 rfl
      replace hB141 := hB141.step s262 rfl
      replace hG := hG.step s262 rfl
      replace HF := HF.step s262 rfl
      replace sR := Step.trans sR s262 (M := []) rfl rfl
      refine ⟨⟨_, sR⟩, ?_⟩
      refine WA.norm (listed' := #[true, true, true, true, true, true, true, true, true, true, true, true, true, false, false, false, false, false, false, false, false, false, false, false, false, false, false, false]) (by kernel_rfl) ?_
      obtain ⟨z263, hz263, H⟩ := bindE H
      refine WA.oneYes 13 (by kernel_rfl) rfl rfl rfl rfl ((show _ = Value.bool (z254 == (z129 == a0)) from rfl).trans (congrArg Value.bool c258)) ?_
      refine OW.call [.agg (List.map enc64 a1).toArray, .agg (List.map enc64 a0).toArray] rfl Tryd.func25 (by kernel_rfl) (by kernel_rfl) (map_cons' rfl (map_cons' rfl rfl)) (bits_Compare.calls k _ _ a1 a0 z263 (HF.ten (V := [0]) (L := []) rfl) hla1 hla0 (Gl.vw (V := [0]) (L := []) hG rfl) hz263) ?_
      rintro _ w264 ⟨o265, rfl, s266⟩
      refine ⟨_, rfl, ?_⟩
      replace s266 := un_stepL (J := []) (L' := []) s266 rfl rfl
      replace hB105 := hB105.step s266 rfl
      replace hB110 := hB110.step s266 rfl
      replace hB115 := hB115.step s266 rfl
      replace hB141 := hB141.step s266 rfl
      replace hG := hG.step s266 rfl
      replace HF := HF.step s266 rfl
      replace sR := Step.trans sR s266 (M := []) rfl rfl
      refine ⟨⟨_, sR⟩, ?_⟩
      refine WA.norm (listed' := #[true, true, true, true, true, true, true, true, true, true, true, true, true, true, false, false, false, false, false, false, false, false, false, false, false, false, false, false]) (by kernel_rfl) ?_
      refine WA.exYes (i := 14) rfl (by kernel_rfl) (by kernel_rfl) (by kernel_rfl) rfl rfl rfl ((show _ = Value.bool (z254 == (z129 == a0)) from rfl).trans (congrArg Value.bool c258)) ⟨_, sR⟩ (fun w_ hS_ => ex_neg64 (a := z263) rfl) ?_
      refine WA.norm (listed' := #[true, true, true, true, true, true, true, true, true, true, true, true, true, true, true, false, false, false, false, false, false, false, false, false, false, false, false, false]) (by kernel_rfl) ?_
      refine WA.exYes (i := 15) rfl (by kernel_rfl) (by kernel_rfl) (by kernel_rfl) rfl rfl rfl ((show _ = Value.bool (z254 == (z129 == a0)) from rfl).trans (congrArg Value.bool c258)) ⟨_, sR⟩ (fun w_ hS_ => ex_bin (a := .int .i64 z259) (b := .int .i64 (wrap64 (0 - z263))) (v := .bool (z259 == (wrap64 (0 - z263)))) rfl rfl bin_eql) ?_
      refine WA.norm (listed' := #[true, true, true, true, true, true, true, true, true, true, true, true, true, true, true, true, false, false, false, false, false, false, false, false, false, false, false, false]) (by kernel_rfl) ?_
      refine WA.ex 16 rfl (by kernel_rfl) (by kernel_rfl) (by kernel_rfl) rfl ⟨_, sR⟩ (fun w_ hS_ => ex_pick_t (v := .bool (z259 == (wrap64 (0 - z263)))) ((show _ = Value.bool (z254 == (z129 == a0)) from rfl).trans (congrArg Value.bool c258)) rfl) ?_
      refine WA.norm (listed' := #[true, true, true, true, true, true, true, true, true, true, true, true, true, true, true, true, true, false, false, false, false, false, false, false, false, false, false, false]) (by kernel_rfl) ?_
      refine WA.ex 17 rfl (by kernel_rfl) (by kernel_rfl) (by kernel_rfl) rfl ⟨_, sR⟩ (fun w_ hS_ => ex_move (v := .bool (z259 == (wrap64 (0 - z263)))) rfl) ?_
      refine WA.norm (listed' := #[true, true, true, true, true, true, true, true, true, true, true, true, true, true, true, true, true, true, false, false, false, false, false, false, false, false, false, false]) (by kernel_rfl) ?_
      rcases condE H with ⟨c267, H⟩ | ⟨c267, H⟩
      ·
        refine WA.exYes (i := 18) rfl (by kernel_rfl) (by kernel_rfl) (by kernel_rfl) rfl rfl rfl ((show _ = Value.bool (z259 == (wrap64 (0 - z263))) from rfl).trans (congrArg Value.bool c267)) ⟨_, sR⟩ (fun w_ hS_ => ex_loadAV (xs := a0) s3_207 Tryd.underlying24 sz24 hla0 (hB105D.step hS_.choose_spec rfl)) ?_
        refine WA.norm (listed' := #[true, true, true, true, true, true, true, true, true, true, true, true, true, true, true, true, true, true, true, false, false, false, false, false, false, false, false, false]) (by kernel_rfl) ?_
        refine WA.exYes (i := 19) rfl (by kernel_rfl) (by kernel_rfl) (by kernel_rfl) rfl rfl rfl ((show _ = Value.bool (z259 == (wrap64 (0 - z263))) from rfl).trans (congrArg Value.bool c267)) ⟨_, sR⟩ (fun w_ hS_ => ex_loadAV (xs := a1) s4_207 Tryd.underlying24 sz24 hla1 (hB110D.step hS_.choose_spec rfl)) ?_
        refine WA.norm (listed' := #[true, true, true, true, true, true, true, true, true, true, true, true, true, true, true, true, true, true, true, true, false, false, false, false, false, false, false, false]) (by kernel_rfl) ?_
        refine WA.exYes (i := 22) rfl (by kernel_rfl) (by kernel_rfl) (by kernel_rfl) rfl rfl rfl ((show _ = Value.bool (z259 == (wrap64 (0 - z263))) from rfl).trans (congrArg Value.bool c267)) ⟨_, sR⟩ (fun w_ hS_ => ex_loadAV (xs := a0) s3_207 Tryd.underlying24 sz24 hla0 (hB105D.step hS_.choose_spec rfl)) ?_
        refine WA.norm (listed' := #[true, true, true, true, true, true, true, true, true, true, true, true, true, true, true, true, true, true, true, true, false, false, true, false, false, false, false, false]) (by kernel_rfl) ?_
        refine WA.exYes (i := 23) rfl (by kernel_rfl) (by kernel_rfl) (by kernel_rfl) rfl rfl rfl ((show _ = Value.bool (z259 == (wrap64 (0 - z263))) from rfl).trans (congrArg Value.bool c267)) ⟨_, sR⟩ (fun w_ hS_ => ex_loadAV (xs := a1) s4_207 Tryd.underlying24 sz24 hla1 (hB110D.step hS_.choose_spec rfl)) ?_
        refine WA.norm (listed' := #[true, true, true, true, true, true, true, true, true, true, true, true, true, true, true, true, true, true, true, true, false, false, true, true, false, false, false, false]) (by kernel_rfl) ?_
        refine WA.exYes (i := 24) rfl (by kernel_rfl) (by kernel_rfl) (by kernel_rfl) rfl rfl rfl ((show _ = Value.bool (z259 == (wrap64 (0 - z263))) from rfl).trans (congrArg Value.bool c267)) ⟨_, sR⟩ (fun w_ hS_ => ex_bin (a := .agg (List.map enc64 a0).toArray) (b := .agg (List.map enc64 a1).toArray) (v := .bool (a0 == a1)) rfl rfl (bin_eql_agg (by kernel_rfl) (EqR.arr Tryd.underlying24 sz22 Tryd.underlying22 rfl hla0 hla1 (fun _ _ => EqR.u64 Tryd.underlying22)))) ?_
        refine WA.norm (listed' := #[true, true, true, true, true, true, true, true, true, true, true, true, true, true, true, true, true, true, true, true, false, false, true, true, true, false, false, false]) (by kernel_rfl) ?_
        obtain ⟨z268, hz268, H⟩ := bindE H
        refine WA.oneYes 20 (by kernel_rfl) rfl rfl rfl rfl ((show _ = Value.bool (z259 == (wrap64 (0 - z263))) from rfl).trans (congrArg Value.bool c267)) ?_
        refine OW.call [.agg (List.map enc64 a0).toArray, .agg (List.map enc64 a1).toArray] rfl Tryd.func25 (by kernel_rfl) (by kernel_rfl) (map_cons' rfl (map_cons' rfl rfl)) (bits_Compare.calls k _ _ a0 a1 z268 (HF.ten (V := [0]) (L := []) rfl) hla0 hla1 (Gl.vw (V := [0]) (L := []) hG rfl) hz268) ?_
        rintro _ w269 ⟨o270, rfl, s271⟩
        refine ⟨_, rfl, ?_⟩
        replace s271 := un_stepL (J := []) (L' := []) s271 rfl rfl
        replace hB105 := hB105.step s271 rfl
        replace hB110 := hB110.step s271 rfl
        replace hB115 := hB115.step s271 rfl
        replace hB141 := hB141.step s271 rfl
        replace hG := hG.step s271 rfl
        replace HF := HF.step s271 rfl
        replace sR := Step.trans sR s271 (M := []) rfl rfl
        refine ⟨⟨_, sR⟩, ?_⟩
        refine WA.norm (listed' := #[true, true, true, true, true, true, true, true, true, true, true, true, true, true, true, true, true, true, true, true, true, false, true, true, true, false, false, false]) (by kernel_rfl) ?_
        refine WA.exYes (i := 21) rfl (by kernel_rfl) (by kernel_rfl) (by kernel_rfl) rfl rfl rfl ((show _ = Value.bool (z259 == (wrap64 (0 - z263))) from rfl).trans (congrArg Value.bool c267)) ⟨_, sR⟩ (fun w_ hS_ => ex_bin (a := .int .i64 z268) (b := .int .i64 0) (v := .bool (z268 == 0)) rfl rfl bin_eql) ?_
        refine WA.norm (listed' := #[true, true, true, true, true, true, true, true, true, true, true, true, true, true, true, true, true, true, true, true, true, true, true, true, true, false, false, false]) (by kernel_rfl) ?_
        refine WA.exYes (i := 25) rfl (by kernel_rfl) (by kernel_rfl) (by kernel_rfl) rfl rfl rfl ((show _ = Value.bool (z259 == (wrap64 (0 - z263))) from rfl).trans (congrArg Value.bool c267)) ⟨_, sR⟩ (fun w_ hS_ => ex_bin (a := .bool (z268 == 0)) (b := .bool (a0 == a1)) (v := .bool ((z268 == 0) == (a0 == a1))) rfl rfl (bin_eql_bool Tryd.underlying4)) ?_
        refine WA.norm (listed' := #[true, true, true, true, true, true, true, true, true, true, true, true, true, true, true, true, true, true, true, true, true, true, true, true, true, true, false, false]) (by kernel_rfl) ?_
        refine WA.ex 26 rfl (by kernel_rfl) (by kernel_rfl) (by kernel_rfl) rfl ⟨_, sR⟩ (fun w_ hS_ => ex_pick_t (v := .bool ((z268 == 0) == (a0 == a1))) ((show _ = Value.bool (z259 == (wrap64 (0 - z263))) from rfl).trans (congrArg Value.bool c267)) rfl) ?_
        refine WA.norm (listed' := #[true, true, true, true, true, true, true, true, true, true, true, true, true, true, true, true, true, true, true, true, true, true, true, true, true, true, true, false]) (by kernel_rfl) ?_
        refine WA.ex 27 rfl (by kernel_rfl) (by kernel_rfl) (by kernel_rfl) rfl ⟨_, sR⟩ (fun w_ hS_ => ex_assign (v := .bool ((z268 == 0) == (a0 == a1))) rfl) ?_
        refine WA.norm (listed' := #[true, true, true, true, true, true, true, true, true, true, true, true, true, true, true, true, true, true, true, true, true, true, true, true, true, true, true, true]) (by kernel_rfl) ?_
        refine WA.done (by kernel_rfl) ?_
        obtain rfl := Option.some.inj H
        exact ⟨_, HF, hB105, hB110, hB115, hG, s3_207, s4_207, s5_207, s6_207, s9_207, s10_207, s11_207, s12_208, rfl⟩
      ·
        refine WA.takeNo 18 rfl (by kernel_rfl) (by kernel_rfl) (by kernel_rfl) rfl rfl rfl ((show _ = Value.bool (z259 == (wrap64 (0 - z263))) from rfl).trans (congrArg Value.bool c267)) ⟨_, sR⟩ ?_
        refine WA.norm (listed' := #[true, true, true, true, true, true, true, true, true, true, true, true, true, true, true, true, true, true, true, false, false, false, false, false, false, false, false, false]) (by kernel_rfl) ?_
        refine WA.takeNo 19 rfl (by kernel_rfl) (by kernel_rfl) (by kernel_rfl) rfl rfl rfl ((show _ = Value.bool (z259 == (wrap64 (0 - z263))) from rfl).trans (congrArg Value.bool c267)) ⟨_, sR⟩ ?_
        refine WA.norm (listed' := #[true, true, true, true, true, true, true, true, true, true, true, true, true, true, true, true, true, true, true, true, false, false, false, false, false, false, false, false]) (by kernel_rfl) ?_
        refine WA.takeNo 20 rfl (by kernel_rfl) (by kernel_rfl) (by kernel_rfl) rfl rfl rfl ((show _ = Value.bool (z259 == (wrap64 (0 - z263))) from rfl).trans (congrArg Value.bool c267)) ⟨_, sR⟩ ?_
        refine WA.norm (listed' := #[true, true, true, true, true, true, true, true, true, true, true, true, true, true, true, true, true, true, true, true, true, false, false, false, false, false, false, false]) (by kernel_rfl) ?_
        refine WA.takeNo 21 rfl (by kernel_rfl) (by kernel_rfl) (by kernel_rfl) rfl rfl rfl ((show _ = Value.bool (z259 == (wrap64 (0 - z263))) from rfl).trans (congrArg Value.bool c267)) ⟨_, sR⟩ ?_
        refine WA.norm (listed' := #[true, true, true, true, true, true, true, true, true, true, true, true, true, true, true, true, true, true, true, true, true, true, false, false, false, false, false, false]) (by kernel_rfl) ?_
        refine WA.takeNo 22 rfl (by kernel_rfl) (by kernel_rfl) (by kernel_rfl) rfl rfl rfl ((show _ = Value.bool (z259 == (wrap64 (0 - z263))) from rfl).trans (congrArg Value.bool c267)) ⟨_, sR⟩ ?_
        refine WA.norm (listed' := #[true, true, true, true, true, true, true, true, true, true, true, true, true, true, true, true, true, true, true, true, true, true, true, false, false, false, false, false]) (by kernel_rfl) ?_
        refine WA.takeNo 23 rfl (by kernel_rfl) (by kernel_rfl) (by kernel_rfl) rfl rfl rfl ((show _ = Value.bool (z259 == (wrap64 (0 - z263))) from rfl).trans (congrArg Value.bool c267)) ⟨_, sR⟩ ?_
        refine WA.norm (listed' := #[true, true, true, true, true, true, true, true, true, true, true, true, true, true, true, true, true, true, true, true, true, true, true, true, false, false, false, false]) (by kernel_rfl) ?_
        refine WA.takeNo 24 rfl (by kernel_rfl) (by kernel_rfl) (by kernel_rfl) rfl rfl rfl ((show _ = Value.bool (z259 == (wrap64 (0 - z263))) from rfl).trans (congrArg Value.bool c267)) ⟨_, sR⟩ ?_
        refine WA.norm (listed' := #[true, true, true, true, true, true, true, true, true, true, true, true, true, true, true, true, true, true, true, true, true, true, true, true, true, false, false, false]) (by kernel_rfl) ?_
        refine WA.takeNo 25 rfl (by kernel_rfl) (by kernel_rfl) (by kernel_rfl) rfl rfl rfl ((show _ = Value.bool (z259 == (wrap64 (0 - z263))) from rfl).trans (congrArg Value.bool c267)) ⟨_, sR⟩ ?_
        refine WA.norm (listed' := #[true, true, true, true, true, true, true, true, true, true, true, true, true, true, true, true, true, true, true, true, true, true, true, true, true, true, false, false]) (by kernel_rfl) ?_
        refine WA.ex 26 rfl (by kernel_rfl) (by kernel_rfl) (by kernel_rfl) rfl ⟨_, sR⟩ (fun w_ hS_ => ex_pick_f (v := .bool false) ((show _ = Value.bool (z259 == (wrap64 (0 - z263))) from rfl).trans (congrArg Value.bool c267)) rfl) ?_
        refine WA.norm (listed' := #[true, true, true, true, true, true, true, true, true, true, true, true, true, true, true, true, true, true, true, true, true, true, true, true, true, true, true, false]) (by kernel_rfl) ?_
        refine WA.ex 27 rfl (by kernel_rfl) (by kernel_rfl) (by kernel_rfl) rfl ⟨_, sR⟩ (fun w_ hS_ => ex_assign (v := .bool false) rfl) ?_
        refine WA.norm (listed' := #[true, true, true, true, true, true, true, true, true, true, true, true, true, true, true, true, true, true, true, true, true, true, true, true, true, true, true, true]) (by kernel_rfl) ?_
        refine WA.done (by kernel_rfl) ?_
        obtain rfl := Option.some.inj H
        exact ⟨_, HF, hB105, hB110, hB115, hG, s3_207, s4_207, s5_207, s6_207, s9_207, s10_207, s11_207, s12_208, rfl⟩
    ·
      refine WA.takeNo 8 rfl (by kernel_rfl) (by kernel_rfl) (by kernel_rfl) rfl rfl rfl ((show _ = Value.bool (z254 == (z129 == a0)) from rfl).trans (congrArg Value.bool c258)) ⟨_, sR⟩ ?_
      refine WA.norm (listed' := #[true, true, true, true, true, true, true, true, true, false, false, false, false, false, false, false, false, false, false, false, false, false, false, false, false, false, false, false]) (by kernel_rfl) ?_
      refine WA.takeNo 9 rfl (by kernel_rfl) (by kernel_rfl) (by kernel_rfl) rfl rfl rfl ((show _ = Value.bool (z254 == (z129 == a0)) from rfl).trans (congrArg Value.bool c258)) ⟨_, sR⟩ ?_
      refine WA.norm (listed' := #[true, true, true, true, true, true, true, true, true, true, false, false, false, false, false, false, false, false, false, false, false, false, false, false, false, false, false, false]) (by kernel_rfl) ?_
      refine WA.takeNo 10 rfl (by kernel_rfl) (by kernel_rfl) (by kernel_rfl) rfl rfl rfl ((show _ = Value.bool (z254 == (z129 == a0)) from rfl).trans (congrArg Value.bool c258)) ⟨_, sR⟩ ?_
      refine WA.norm (listed' := #[true, true, true, true, true, true, true, true, true, true, true, false, false, false, false, false, false, false, false, false, false, false, false, false, false, false, false, false]) (by kernel_rfl) ?_
      refine WA.takeNo 11 rfl (by kernel_rfl) (by kernel_rfl) (by kernel_rfl) rfl rfl rfl ((show _ = Value.bool (z254 == (z129 == a0)) from rfl).trans (congrArg Value.bool c258)) ⟨_, sR⟩ ?_
      refine WA.norm (listed' := #[true, true, true, true, true, true, true, true, true, true, true, true, false, false, false, false, false, false, false, false, false, false, false, false, false, false, false, false]) (by kernel_rfl) ?_
      refine WA.takeNo 12 rfl (by kernel_rfl) (by kernel_rfl) (by kernel_rfl) rfl rfl rfl ((show _ = Value.bool (z254 == (z129 == a0)) from rfl).trans (congrArg Value.bool c258)) ⟨_, sR⟩ ?_
      refine WA.norm (listed' := #[true, true, true, true, true, true, true, true, true, true, true, true, true, false, false, false, false, false, false, false, false, false, false, false, false, false, false, false]) (by kernel_rfl) ?_
      refine WA.takeNo 13 rfl (by kernel_rfl) (by kernel_rfl) (by kernel_rfl) rfl rfl rfl ((show _ = Value.bool (z254 == (z129 == a0)) from rfl).trans (congrArg Value.bool c258)) ⟨_, sR⟩ ?_
      refine WA.norm (listed' := #[true, true, true, true, true, true, true, true, true, true, true, true, true, true, false, false, false, false, false, false, false, false, false, false, false, false, false, false]) (by kernel_rfl) ?_
      refine WA.takeNo 14 rfl (by kernel_rfl) (by kernel_rfl) (by kernel_rfl) rfl rfl rfl ((show _ = Value.bool (z254 == (z129 == a0)) from rfl).trans (congrArg Value.bool c258)) ⟨_, sR⟩ ?_
      refine WA.norm (listed' := #[true, true, true, true, true, true, true, true, true, true, true, true, true, true, true, false, false, false, false, false, false, false, false, false, false, false, false, false]) (by kernel_rfl) ?_
      refine WA.takeNo 15 rfl (by kernel_rfl) (by kernel_rfl) (by kernel_rfl) rfl rfl rfl ((show _ = Value.bool (z254 == (z129 == a0)) from rfl).trans (congrArg Value.bool c258)) ⟨_, sR⟩ ?_
      refine WA.norm (listed' := #[true, true, true, true, true, true, true, true, true, true, true, true, true, true, true, true, false, false, false, false, false, false, false, false, false, false, false, false]) (by kernel_rfl) ?_
      refine WA.ex 16 rfl (by kernel_rfl) (by kernel_rfl) (by kernel_rfl) rfl ⟨_, sR⟩ (fun w_ hS_ => ex_pick_f (v := .bool false) ((show _ = Value.bool (z254 == (z129 == a0)) from rfl).trans (congrArg Value.bool c258)) rfl) ?_
      refine WA.norm (listed' := #[true, true, true, true, true, true, true, true, true, true, true, true, true, true, true, true, true, false, false, false, false, false, false, false, false, false, false, false]) (by kernel_rfl) ?_
      refine WA.ex 17 rfl (by kernel_rfl) (by kernel_rfl) (by kernel_rfl) rfl ⟨_, sR⟩ (fun w_ hS_ => ex_move (v := .bool false) rfl) ?_
      refine WA.norm (listed' := #[true, true, true, true, true, true, true, true, true, true, true, true, true, true, true, true, true, true, false, false, false, false, false, false, false, false, false, false]) (by kernel_rfl) ?_
      refine WA.takeNo 18 rfl (by kernel_rfl) (by kernel_rfl) (by kernel_rfl) rfl rfl rfl rfl ⟨_, sR⟩ ?_
      refine WA.norm (listed' := #[true, true, true, true, true, true, true, true, true, true, true, true, true, true, true, true, true, true, true, false, false, false, false, false, false, false, false, false]) (by kernel_rfl) ?_
      refine WA.takeNo 19 rfl (by kernel_rfl) (by kernel_rfl) (by kernel_rfl) rfl rfl rfl rfl ⟨_, sR⟩ ?_
      refine WA.norm (listed' := #[true, true, true, true, true, true, true, true, true, true, true, true, true, true, true, true, true, true, true, true, false, false, false, false, false, false, false, false]) (by kernel_rfl) ?_
      refine WA.takeNo 20 rfl (by kernel_rfl) (by kernel_rfl) (by kernel_rfl) rfl rfl rfl rfl ⟨_, sR⟩ ?_
      refine WA.norm (listed' := #[true, true, true, true, true, true, true, true, true, true, true, true, true, true, true, true, true, true, true, true, true, false, false, false, false, false, false, false]) (by kernel_rfl) ?_
      refine WA.takeNo 21 rfl (by kernel_rfl) (by kernel_rfl) (by kernel_rfl) rfl rfl rfl rfl ⟨_, sR⟩ ?_
      refine WA.norm (listed' := #[true, true, true, true, true, true, true, true, true, true, true, true, true, true, true, true, true, true, true, true, true, true, false, false, false, false, false, false]) (by kernel_rfl) ?_
      refine WA.takeNo 22 rfl (by kernel_rfl) (by kernel_rfl) (by kernel_rfl) rfl rfl rfl rfl ⟨_, sR⟩ ?_
      refine WA.norm (listed' := #[true, true, true, true, true, true, true, true, true, true, true, true, true, true, true, true, true, true, true, true, true, true, true, false, false, false, false, false]) (by kernel_rfl) ?_
      refine WA.takeNo 23 rfl (by kernel_rfl) (by kernel_rfl) (by kernel_rfl) rfl rfl rfl rfl ⟨_, sR⟩ ?_
      refine WA.norm (listed' := #[true, true, true, true, true, true, true, true, true, true, true, true, true, true, true, true, true, true, true, true, true, true, true, true, false, false, false, false]) (by kernel_rfl) ?_
      refine WA.takeNo 24 rfl (by kernel_rfl) (by kernel_rfl) (by kernel_rfl) rfl rfl rfl rfl ⟨_, sR⟩ ?_
      refine WA.norm (listed' := #[true, true, true, true, true, true, true, true, true, true, true, true, true, true, true, true, true, true, true, true, true, true, true, true, true, false, false, false]) (by kernel_rfl) ?_
      refine WA.takeNo 25 rfl (by kernel_rfl) (by kernel_rfl) (by kernel_rfl) rfl rfl rfl rfl ⟨_, sR⟩ ?_
      refine WA.norm (listed' := #[true, true, true, true, true, true, true, true, true, true, true, true, true, true, true, true, true, true, true, true, true, true, true, true, true, true, false, false]) (by kernel_rfl) ?_
      refine WA.ex 26 rfl (by kernel_rfl) (by kernel_rfl) (by kernel_rfl) rfl ⟨_, sR⟩ (fun w_ hS_ => ex_pick_f (v := .bool false) rfl rfl) ?_
      refine WA.norm (listed' := #[true, true, true, true, true, true, true, true, true, true, true, true, true, true, true, true, true, true, true, true, true, true, true, true, true, true, true, false]) (by kernel_rfl) ?_
      refine WA.ex 27 rfl (by kernel_rfl) (by kernel_rfl) (by kernel_rfl) rfl ⟨_, sR⟩ (fun w_ hS_ => ex_assign (v := .bool false) rfl) ?_
      refine WA.norm (listed' := #[true, true, true, true, true, true, true, true, true, true, true, true, true, true, true, true, true, true, true, true, true, true, true, true, true, true, true, true]) (by kernel_rfl) ?_
      refine WA.done (by kernel_rfl) ?_
      obtain rfl := Option.some.inj H
      exact ⟨_, HF, hB105, hB110, hB115, hG, s3_207, s4_207, s5_207, s6_207, s9_207, s10_207, s11_207, s12_208, rfl⟩
  have Ho272 := H
  replace H := hz209
  refine WC.regionD' HF [] 22 (by kernel_rfl) rfl ?_
  intro w273 s274
  replace hG := hG.step s274 rfl
  replace hB105 := hB105.step s274 rfl
  replace hB110 := hB110.step s274 rfl
  replace hB115 := hB115.step s274 rfl
  replace hB128 := hB128.step s274 rfl
  replace hB141 := hB141.step s274 rfl
  replace HF := HF.step s274 rfl
  have hGD := hG
  have hB105D := hB105
  have hB110D := hB110
  have hB115D := hB115
  have hB128D := hB128
  have hB141D := hB141
  have sR := HF.here []
  refine WA.norm (listed' := #[false, false, false, false, false, false, false, false, false, false, false, false, false, false, false, false, false, false, false, false, false, false]) (by kernel_rfl) ?_
  refine WA.ex 0 rfl (by kernel_rfl) (by kernel_rfl) (by kernel_rfl) rfl ⟨_, sR⟩ (fun w_ hS_ => ex_loadAV (xs := z129) rfl Tryd.underlying24 sz24 hl133 (hB141D.step hS_.choose_spec rfl)) ?_
  refine WA.norm (listed' := #[true, false, false, false, false, false, false, false, false, false, false, false, false, false, false, false, false, false, false, false, false, false]) (by kernel_rfl) ?_
  refine WA.ex 1 rfl (by kernel_rfl) (by kernel_rfl) (by kernel_rfl) rfl ⟨_, sR⟩ (fun w_ hS_ => ex_loadAV (xs := a0) rfl Tryd.underlying24 sz24 hla0 (hB105D.step hS_.choose_spec rfl)) ?_
  refine WA.norm (listed' := #[true, true, false, false, false, false, false, false, false, false, false, false, false, false, false, false, false, false, false, false, false, false]) (by kernel_rfl) ?_
  obtain ⟨z275, hz275, H⟩ := bindE H
  refine WA.one 2 (by kernel_rfl) rfl rfl ?_
  refine OW.call [.agg (List.map enc64 z129).toArray, .agg (List.map enc64 a0).toArray] rfl Tryd.func21 (by kernel_rfl) (by kernel_rfl) (map_cons' rfl (map_cons' rfl rfl)) (bits_Sub.calls k _ _ z129 a0 z275 (HF.ten (V := [0]) (L := []) rfl) hl133 hla0 hz275) ?_
  rintro _ w276 ⟨o277, rfl, s278⟩
  refine ⟨_, rfl, ?_⟩
  replace s278 := un_stepL (J := []) (L' := []) s278 rfl rfl
  replace hG := hG.step s278 rfl
  replace hB105 := hB105.step s278 rfl
  replace hB110 := hB110.step s278 rfl
  replace hB115 := hB115.step s278 rfl
  replace hB128 := hB128.step s278 rfl
  replace hB141 := hB141.step s278 rfl
  replace HF := HF.step s278 rfl
  replace sR := Step.trans sR s278 (M := []) rfl rfl
  refine ⟨⟨_, sR⟩, ?_⟩
  refine WA.norm (listed' := #[true, true, true, false, false, false, false, false, false, false, false, false, false, false, false, false, false, false, false, false, false, false]) (by kernel_rfl) ?_
  refine WA.ex 3 rfl (by kernel_rfl) (by kernel_rfl) (by kernel_rfl) rfl ⟨_, sR⟩ (fun w_ hS_ => ex_move (v := .bool z275) rfl) ?_
  refine WA.norm (listed' := #[true, true, true, true, false, false, false, false, false, false, false, false, false, false, false, false, false, false, false, false, false, false]) (by kernel_rfl) ?_
  rcases condE H with ⟨c279, H⟩ | ⟨c279, H⟩
  ·
    refine WA.exYes (i := 4) rfl (by kernel_rfl) (by kernel_rfl) (by kernel_rfl) rfl rfl rfl ((show _ = Value.bool z275 from rfl).trans (congrArg Value.bool c279)) ⟨_, sR⟩ (fun w_ hS_ => ex_loadAV (xs := a0) rfl Tryd.underlying24 sz24 hla0 (hB105D.step hS_.choose_spec rfl)) ?_
    refine WA.norm (listed' := #[true, true, true, true, true, false, false, false, false, false, false, false, false, false, false, false, false, false, false, false, false, false]) (by kernel_rfl) ?_
    refine WA.exYes (i := 5) rfl (by kernel_rfl) (by kernel_rfl) (by kernel_rfl) rfl rfl rfl ((show _ = Value.bool z275 from rfl).trans (congrArg Value.bool c279)) ⟨_, sR⟩ (fun w_ hS_ => ex_loadAV (xs := z116) rfl Tryd.underlying24 sz24 hl120 (hB128D.step hS_.choose_spec rfl)) ?_
    refine WA.norm (listed' := #[true, true, true, true, true, true, false, false, false, false, false, false, false, false, false, false, false, false, false, false, false, false]) (by kernel_rfl) ?_
    obtain ⟨z280, hz280, H⟩ := bindE H
    refine WA.oneYes 6 (by kernel_rfl) rfl rfl rfl rfl ((show _ = Value.bool z275 from rfl).trans (congrArg Value.bool c279)) ?_
    refine OW.call [.agg (List.map enc64 a0).toArray, .agg (List.map enc64 z116).toArray] rfl Tryd.func21 (by kernel_rfl) (by kernel_rfl) (map_cons' rfl (map_cons' rfl rfl)) (bits_Sub.calls k _ _ a0 z116 z280 (HF.ten (V := [0]) (L := []) rfl) hla0 hl120 hz280) ?_
    rintro _ w281 ⟨o282, rfl, s283⟩
    refine ⟨_, rfl, ?_⟩
    replace s283 := un_stepL (J := []) (L' := []) s283 rfl rfl
    replace hG := hG.step s283 rfl
    replace hB105 := hB105.step s283 rfl
    replace hB110 := hB110.step s283 rfl
    replace hB115 := hB115.step s283 rfl
    replace hB128 := hB128.step s283 rfl
    replace hB141 := hB141.step s283 rfl
    replace HF := HF.step s283 rfl
    replace sR := Step.trans sR s283 (M := []) rfl rfl
    refine ⟨⟨_, sR⟩, ?_⟩
    refine WA.norm (listed' := #[true, true, true, true, true, true, true, false, false, false, false, false, false, false, false, false, false, false, false, false, false, false]) (by kernel_rfl) ?_
    refine WA.ex 7 rfl (by kernel_rfl) (by kernel_rfl) (by kernel_rfl) rfl ⟨_, sR⟩ (fun w_ hS_ => ex_pick_t (v := .bool z280) ((show _ = Value.bool z275 from rfl).trans (congrArg Value.bool c279)) rfl) ?_
    refine WA.norm (listed' := #[true, true, true, true, true, true, true, true, false, false, false, false, false, false, false, false, false, false, false, false, false, false]) (by kernel_rfl) ?_
    refine WA.ex 8 rfl (by kernel_rfl) (by kernel_rfl) (by kernel_rfl) rfl ⟨_, sR⟩ (fun w_ hS_ => ex_move (v := .bool z280) rfl) ?_
    refine WA.norm (listed' := #[true, true, true, true, true, true, true, true, true, false, false, false, false, false, false, false, false, false, false, false, false, false]) (by kernel_rfl) ?_
    rcases condE H with ⟨c284, H⟩ | ⟨c284, H⟩
    ·
      refine WA.exYes (i := 9) rfl (by kernel_rfl) (by kernel_rfl) (by kernel_rfl) rfl rfl rfl ((show _ = Value.bool z280 from rfl).trans (congrArg Value.bool c284)) ⟨_, sR⟩ (fun w_ hS_ => ex_loadAV (xs := z116) rfl Tryd.underlying24 sz24 hl120 (hB128D.step hS_.choose_spec rfl)) ?_
      refine WA.norm (listed' := #[true, true, true, true, true, true, true, true, true, true, false, false, false, false, false, false, false, false, false, false, false, false]) (by kernel_rfl) ?_
      refine WA.exYes (i := 11) rfl (by kernel_rfl) (by kernel_rfl) (by kernel_rfl) rfl rfl rfl ((show _ = Value.bool z280 from rfl).trans (congrArg Value.bool c284)) ⟨_, sR⟩ (fun w_ hS_ => ex_loadAV (xs := z129) rfl Tryd.underlying24 sz24 hl133 (hB141D.step hS_.choose_spec rfl)) ?_
      refine WA.norm (listed' := #[true, true, true, true, true, true, true, true, true, true, false, true, false, false, false, false, false, false, false, false, false, false]) (by kernel_rfl) ?_
      refine WA.exYes (i := 14) rfl (by kernel_rfl) (by kernel_rfl) (by kernel_rfl) rfl rfl rfl ((show _ = Value.bool z280 from rfl).trans (congrArg Value.bool c284)) ⟨_, sR⟩ (fun w_ hS_ => ex_loadAV (xs := a0) rfl Tryd.underlying24 sz24 hla0 (hB105D.step hS_.choose_spec rfl)) ?_
      refine WA.norm (listed' := #[true, true, true, true, true, true, true, true, true, true, false, true, false, false, true, false, false, false, false, false, false, false]) (by kernel_rfl) ?_
      refine WA.exYes (i := 16) rfl (by kernel_rfl) (by kernel_rfl) (by kernel_rfl) rfl rfl rfl ((show _ = Value.bool z280 from rfl).trans (congrArg Value.bool c284)) ⟨_, sR⟩ (fun w_ hS_ => ex_loadAV (xs := a1) rfl Tryd.underlying24 sz24 hla1 (hB110D.step hS_.choose_spec rfl)) ?_
      refine WA.norm (listed' := #[true, true, true, true, true, true, true, true, true, true, false, true, false, false, true, false, true, false, false, false, false, false]) (by kernel_rfl) ?_
      obtain ⟨z285, hz285, H⟩ := bindE H
      refine WA.oneYes 10 (by kernel_rfl) rfl rfl rfl rfl ((show _ = Value.bool z280 from rfl).trans (congrArg Value.bool c284)) ?_
      refine OW.call [.agg (List.map enc64 z116).toArray] rfl Tryd.func23 (by kernel_rfl) (by kernel_rfl) (map_cons' rfl rfl) (bits_Count.calls k _ _ z116 z285 (HF.ten (V := [0]) (L := []) rfl) hl120 hz285) ?_
      rintro _ w286 ⟨o287, rfl, s288⟩
      refine ⟨_, rfl, ?_⟩
      replace s288 := un_stepL (J := []) (L' := []) s288 rfl rfl
      replace hG := hG.step s288 rfl
      replace hB105 := hB105.step s288 rfl
      replace hB110 := hB110.step s288 rfl
      replace hB115 := hB115.step s288 rfl
      replace hB128 := hB128.step s288 rfl
      replace hB141 := hB141.step s288 rfl
      replace HF := HF.step s288 rfl
      replace sR := Step.trans sR s288 (M := []) rfl rfl
      refine ⟨⟨_, sR⟩, ?_⟩
      refine WA.norm (listed' := #[true, true, true, true, true, true, true, true, true, true, true, true, false, false, true, false, true, false, false, false, false, false]) (by kernel_rfl) ?_
      obtain ⟨z289, hz289, H⟩ := bindE H
      refine WA.oneYes 12 (by kernel_rfl) rfl rfl rfl rfl ((show _ = Value.bool z280 from rfl).trans (congrArg Value.bool c284)) ?_
      refine OW.call [.agg (List.map enc64 z129).toArray] rfl Tryd.func23 (by kernel_rfl) (by kernel_rfl) (map_cons' rfl rfl) (bits_Count.calls k _ _ z129 z289 (HF.ten (V := [0]) (L := []) rfl) hl133 hz289) ?_
      rintro _ w290 ⟨o291, rfl, s292⟩
      refine ⟨_, rfl, ?_⟩
      replace s292 := un_stepL (J := []) (L' := []) s292 rfl rfl
      replace hG := hG.step s292 rfl
      replace hB105 := hB105.step s292 rfl
      replace hB110 := hB110.step s292 rfl
      replace hB115 := hB115.step s292 rfl
      replace hB128 := hB128.step s292 rfl
      replace hB141 := hB141.step s292 rfl
      replace HF := HF.step s292 rfl
      replace sR := Step.trans sR s292 (M := []) rfl rfl
      refine ⟨⟨_, sR⟩, ?_⟩
      refine WA.norm (listed' := #[true, true, true, true, true, true, true, true, true, true, true, true, true, false, true, false, true, false, false, false, false, false]) (by kernel_rfl) ?_
      refine WA.exYes (i := 13) rfl (by kernel_rfl) (by kernel_rfl) (by kernel_rfl) rfl rfl rfl ((show _ = Value.bool z280 from rfl).trans (congrArg Value.bool c284)) ⟨_, sR⟩ (fun w_ hS_ => ex_bin (a := .int .i64 z285) (b := .int .i64 z289) (v := .int .i64 (wrap64 (z285 + z289))) rfl rfl bin_add64) ?_
      refine WA.norm (listed' := #[true, true, true, true, true, true, true, true, true, true, true, true, true, true, true, false, true, false, false, false, false, false]) (by kernel_rfl) ?_
      obtain ⟨z293, hz293, H⟩ := bindE H
      refine WA.oneYes 15 (by kernel_rfl) rfl rfl rfl rfl ((show _ = Value.bool z280 from rfl).trans (congrArg Value.bool c284)) ?_
      refine OW.call [.agg (List.map enc64 a0).toArray] rfl Tryd.func23 (by kernel_rfl) (by kernel_rfl) (map_cons' rfl rfl) (bits_Count.calls k _ _ a0 z293 (HF.ten (V := [0]) (L := []) rfl) hla0 hz293) ?_
      rintro _ w294 ⟨o295, rfl, s296⟩
      refine ⟨_, rfl, ?_⟩
      replace s296 := un_stepL (J := []) (L' := []) s296 rfl rfl
      replace hG := hG.step s296 rfl
      replace hB105 := hB105.step s296 rfl
      replace hB110 := hB110.step s296 rfl
      replace hB115 := hB115.step s296 rfl
      replace hB128 := hB128.step s296 rfl
      replace hB141 := hB141.step s296 rfl
      replace HF := HF.step s296 rfl
      replace sR := Step.trans sR s296 (M := []) rfl rfl
      refine ⟨⟨_, sR⟩, ?_⟩
      refine WA.norm (listed' := #[true, true, true, true, true, true, true, true, true, true, true, true, true, true, true, true, true, false, false, false, false, false]) (by kernel_rfl) ?_
      obtain ⟨z297, hz297, H⟩ := bindE H
      refine WA.oneYes 17 (by kernel_rfl) rfl rfl rfl rfl ((show _ = Value.bool z280 from rfl).trans (congrArg Value.bool c284)) ?_
      refine OW.call [.agg (List.map enc64 a1).toArray] rfl Tryd.func23 (by kernel_rfl) (by kernel_rfl) (map_cons' rfl rfl) (bits_Count.calls k _ _ a1 z297 (HF.ten (V := [0]) (L := []) rfl) hla1 hz297) ?_
      rintro _ w298 ⟨o299, rfl, s300⟩
      refine ⟨_, rfl, ?_⟩
      replace s300 := un_stepL (J := []) (L' := []) s300 rfl rfl
      replace hG := hG.step s300 rfl
      replace hB105 := hB105.step s300 rfl
      replace hB110 := hB110.step s300 rfl
      replace hB115 := hB115.step s300 rfl
      replace hB128 := hB128.step s300 rfl
      replace hB141 := hB141.step s300 rfl
      replace HF := HF.step s300 rfl
      replace sR := Step.trans sR s300 (M := []) rfl rfl
      refine ⟨⟨_, sR⟩, ?_⟩
      refine WA.norm (listed' := #[true, true, true, true, true, true, true, true, true, true, true, true, true, true, true, true, true, true, false, false, false, false]) (by kernel_rfl) ?_
      refine WA.exYes (i := 18) rfl (by kernel_rfl) (by kernel_rfl) (by kernel_rfl) rfl rfl rfl ((show _ = Value.bool z280 from rfl).trans (congrArg Value.bool c284)) ⟨_, sR⟩ (fun w_ hS_ => ex_bin (a := .int .i64 z293) (b := .int .i64 z297) (v := .int .i64 (wrap64 (z293 + z297))) rfl rfl bin_add64) ?_
      refine WA.norm (listed' := #[true, true, true, true, true, true, true, true, true, true, true, true, true, true, true, true, true, true, true, false, false, false]) (by kernel_rfl) ?_
      refine WA.exYes (i := 19) rfl (by kernel_rfl) (by kernel_rfl) (by kernel_rfl) rfl rfl rfl ((show _ = Value.bool z280 from rfl).trans (congrArg Value.bool c284)) ⟨_, sR⟩ (fun w_ hS_ => ex_bin (a := .int .i64 (wrap64 (z285 + z289))) (b := .int .i64 (wrap64 (z293 + z297))) (v := .bool ((wrap64 (z285 + z289)) == (wrap64 (z293 + z297)))) rfl rfl bin_eql) ?_
      refine WA.norm (listed' := #[true, true, true, true, true, true, true, true, true, true, true, true, true, true, true, true, true, true, true, true, false, false]) (by kernel_rfl) ?_
      refine WA.ex 20 rfl (by kernel_rfl) (by kernel_rfl) (by kernel_rfl) rfl ⟨_, sR⟩ (fun w_ hS_ => ex_pick_t (v := .bool ((wrap64 (z285 + z289)) == (wrap64 (z293 + z297)))) ((show _ = Value.bool z280 from rfl).trans (congrArg Value.bool c284)) rfl) ?_
      refine WA.norm (listed' := #[true, true, true, true, true, true, true, true, true, true, true, true, true, true, true, true, true, true, true, true, true, false]) (by kernel_rfl) ?_
      refine WA.ex 21 rfl (by kernel_rfl) (by kernel_rfl) (by kernel_rfl) rfl ⟨_, sR⟩ (fun w_ hS_ => ex_assign (v := .bool ((wrap64 (z285 + z289)) == (wrap64 (z293 + z297)))) rfl) ?_
      refine WA.norm (listed' := #[true, true, true, true, true, true, true, true, true, true, true, true, true, true, true, true, true, true, true, true, true, true]) (by kernel_rfl) ?_
      refine WA.done (by kernel_rfl) ?_
      obtain rfl := Option.some.inj H
      exact ⟨_, HF, hB105, hB110, hB115, hB141, hG, rfl, rfl, rfl, rfl, rfl, rfl, rfl, rfl, rfl⟩
    ·
      refine WA.takeNo 9 rfl (by kernel_rfl) (by kernel_rfl) (by kernel_rfl) rfl rfl rfl ((show _ = Value.bool z280 from rfl).trans (congrArg Value.bool c284)) ⟨_, sR⟩ ?_
      refine WA.norm (listed' := #[true, true, true, true, true, true, true, true, true, true, false, false, false, false, false, false, false, false, false, false, false, false]) (by kernel_rfl) ?_
      refine WA.takeNo 10 rfl (by kernel_rfl) (by kernel_rfl) (by kernel_rfl) rfl rfl rfl ((show _ = Value.bool z280 from rfl).trans (congrArg Value.bool c284)) ⟨_, sR⟩ ?_
      refine WA.norm (listed' := #[true, true, true, true, true, true, true, true, true, true, true, false, false, false, false, false, false, false, false, false, false, false]) (by kernel_rfl) ?_
      refine WA.takeNo 11 rfl (by kernel_rfl) (by kernel_rfl) (by kernel_rfl) rfl rfl rfl ((show _ = Value.bool z280 from rfl).trans (congrArg Value.bool c284)) ⟨_, sR⟩ ?_
      refine WA.norm (listed' := #[true, true, true, true, true, true, true, true, true, true, true, true, false, false, false, false, false, false, false, false, false, false]) (by kernel_rfl) ?_
      refine WA.takeNo 12 rfl (by kernel_rfl) (by kernel_rfl) (by kernel_rfl) rfl rfl rfl ((show _ = Value.bool z280 from rfl).trans (congrArg Value.bool c284)) ⟨_, sR⟩ ?_
      refine WA.norm (listed' := #[true, true, true, true, true, true, true, true, true, true, true, true, true, false, false, false, false, false, false, false, false, false]) (by kernel_rfl) ?_
      refine WA.takeNo 13 rfl (by kernel_rfl) (by kernel_rfl) (by kernel_rfl) rfl rfl rfl ((show _ = Value.bool z280 from rfl).trans (congrArg Value.bool c284)) ⟨_, sR⟩ ?_
      refine WA.norm (listed' := #[true, true, true, true, true, true, true, true, true, true, true, true, true, true, false, false, false, false, false, false, false, false]) (by kernel_rfl) ?_
      refine WA.takeNo 14 rfl (by kernel_rfl) (by kernel_rfl) (by kernel_rfl) rfl rfl rfl ((show _ = Value.bool z280 from rfl).trans (congrArg Value.bool c284)) ⟨_, sR⟩ ?_
      refine WA.norm (listed' := #[true, true, true, true, true, true, true, true, true, true, true, true, true, true, true, false, false, false, false, false, false, false]) (by kernel_rfl) ?_
      refine WA.takeNo 15 rfl (by kernel_rfl) (by kernel_rfl) (by kernel_rfl) rfl rfl rfl ((show _ = Value.bool z280 from rfl).trans (congrArg Value.bool c284)) ⟨_, sR⟩ ?_
      refine WA.norm (listed' := #[true, true, true, true, true, true, true, true, true, true, true, true, true, true, true, true, false, false, false, false, false, false]) (by kernel_rfl) ?_
      refine WA.takeNo 16 rfl (by kernel_rfl) (by kernel_rfl) (by kernel_rfl) rfl rfl rfl ((show _ = Value.bool z280 from rfl).trans (congrArg Value.bool c284)) ⟨_, sR⟩ ?_
      refine WA.norm (listed' := #[true, true, true, true, true, true, true, true, true, true, true, true, true, true, true, true, true, false, false, false, false, false]) (by kernel_rfl) ?_
      refine WA.takeNo 17 rfl (by kernel_rfl) (by kernel_rfl) (by kernel_rfl) rfl rfl rfl ((show _ = Value.bool z280 from rfl).trans (congrArg Value.bool c284)) ⟨_, sR⟩ ?_
      refine WA.norm (listed' := #[true, true, true, true, true, true, true, true, true, true, true, true, true, true, true, true, true, true, false, false, false, false]) (by kernel_rfl) ?_
      refine WA.takeNo 18 rfl (by kernel_rfl) (by kernel_rfl) (by kernel_rfl) rfl rfl rfl ((show _ = Value.bool z280 from rfl).trans (congrArg Value.bool c284)) ⟨_, sR⟩ ?_
      refine WA.norm (listed' := #[true, true, true, true, true, true, true, true, true, true, true, true, true, true, true, true, true, true, true, false, false, false]) (by kernel_rfl) ?_
      refine WA.takeNo 19 rfl (by kernel_rfl) (by kernel_rfl) (by kernel_rfl) rfl rfl rfl ((show _ = Value.bool z280 from rfl).trans (congrArg Value.bool c284)) ⟨_, sR⟩ ?_
      refine WA.norm (listed' := #[true, true, true, true, true, true, true, true, true, true, true, true, true, true, true, true, true, true, true, true, false, false]) (by kernel_rfl) ?_
      refine WA.ex 20 rfl (by kernel_rfl) (by kernel_rfl) (by kernel_rfl) rfl ⟨_, sR⟩ (fun w_ hS_ => ex_pick_f (v := .bool false) ((show _ = Value.bool z280 from rfl).trans (congrArg Value.bool c284)) rfl) ?_
      refine WA.norm (listed' := #[true, true, true, true, true, true, true, true, true, true, true, true, true, true, true, true, true, true, true, true, true, false]) (by kernel_rfl) ?_
      refine WA.ex 21 rfl (by kernel_rfl) (by kernel_rfl) (by kernel_rfl) rfl ⟨_, sR⟩ (fun w_ hS_ => ex_assign (v := .bool false) rfl) ?_
      refine WA.norm (listed' := #[true, true, true, true, true, true, true, true, true, true, true, true, true, true, true, true, true, true, true, true, true, true]) (by kernel_rfl) ?_
      refine WA.done (by kernel_rfl) ?_
      obtain rfl := Option.some.inj H
      exact ⟨_, HF, hB105, hB110, hB115, hB141, hG, rfl, rfl, rfl, rfl, rfl, rfl, rfl, rfl, rfl⟩
  ·
    refine WA.takeNo 4 rfl (by kernel_rfl) (by kernel_rfl) (by kernel_rfl) rfl rfl rfl ((show _ = Value.bool z275 from rfl).trans (congrArg Value.bool c279)) ⟨_, sR⟩ ?_
    refine WA.norm (listed' := #[true, true, true, true, true, false, false, false, false, false, false, false, false, false, false, false, false, false, false, false, false, false]) (by kernel_rfl) ?_
    refine WA.takeNo 5 rfl (by kernel_rfl) (by kernel_rfl) (by kernel_rfl) rfl rfl rfl ((show _ = Value.bool z275 from rfl).trans (congrArg Value.bool c279)) ⟨_, sR⟩ ?_
    refine WA.norm (listed' := #[true, true, true, true, true, true, false, false, false, false, false, false, false, false, false, false, false, false, false, false, false, false]) (by kernel_rfl) ?_
    refine WA.takeNo 6 rfl (by kernel_rfl) (by kernel_rfl) (by kernel_rfl) rfl rfl rfl ((show _ = Value.bool z275 from rfl).trans (congrArg Value.bool c279)) ⟨_, sR⟩ ?_
    refine WA.norm (listed' := #[true, true, true, true, true, true, true, false, false, false, false, false, false, false, false, false, false, false, false, false, false, false]) (by kernel_rfl) ?_
    refine WA.ex 7 rfl (by kernel_rfl) (by kernel_rfl) (by kernel_rfl) rfl ⟨_, sR⟩ (fun w_ hS_ => ex_pick_f (v := .bool false) ((show _ = Value.bool z275 from rfl).trans (congrArg Value.bool c279)) rfl) ?_
    refine WA.norm (listed' := #[true, true, true, true, true, true, true, true, false, false, false, false, false, false, false, false, false, false, false, false, false, false]) (by kernel_rfl) ?_
    refine WA.ex 8 rfl (by kernel_rfl) (by kernel_rfl) (by kernel_rfl) rfl ⟨_, sR⟩ (fun w_ hS_ => ex_move (v := .bool false) rfl) ?_
    refine WA.norm (listed' := #[true, true, true, true, true, true, true, true, true, false, false, false, false, false, false, false, false, false, false, false, false, false]) (by kernel_rfl) ?_
    refine WA.takeNo 9 rfl (by kernel_rfl) (by kernel_rfl) (by kernel_rfl) rfl rfl rfl rfl ⟨_, sR⟩ ?_
    refine WA.norm (listed' := #[true, true, true, true, true, true, true, true, true, true, false, false, false, false, false, false, false, false, false, false, false, false]) (by kernel_rfl) ?_
    refine WA.takeNo 10 rfl (by kernel_rfl) (by kernel_rfl) (by kernel_rfl) rfl rfl rfl rfl ⟨_, sR⟩ ?_
    refine WA.norm (listed' := #[true, true, true, true, true, true, true, true, true, true, true, false, false, false, false, false, false, false, false, false, false, false]) (by kernel_rfl) ?_
    refine WA.takeNo 11 rfl (by kernel_rfl) (by kernel_rfl) (by kernel_rfl) rfl rfl rfl rfl ⟨_, sR⟩ ?_
    refine WA.norm (listed' := #[true, true, true, true, true, true, true, true, true, true, true, true, false, false, false, false, false, false, false, false, false, false]) (by kernel_rfl) ?_
    refine WA.takeNo 12 rfl (by kernel_rfl) (by kernel_rfl) (by kernel_rfl) rfl rfl rfl rfl ⟨_, sR⟩ ?_
    refine WA.norm (listed' := #[true, true, true, true, true, true, true, true, true, true, true, true, true, false, false, false, false, false, false, false, false, false]) (by kernel_rfl) ?_
    refine WA.takeNo 13 rfl (by kernel_rfl) (by kernel_rfl) (by kernel_rfl) rfl rfl rfl rfl ⟨_, sR⟩ ?_
    refine WA.norm (listed' := #[true, true, true, true, true, true, true, true, true, true, true, true, true, true, false, false, false, false, false, false, false, false]) (by kernel_rfl) ?_
    refine WA.takeNo 14 rfl (by kernel_rfl) (by kernel_rfl) (by kernel_rfl) rfl rfl rfl rfl ⟨_, sR⟩ ?_
    refine WA.norm (listed' := #[true, true, true, true, true, true, true, true, true, true, true, true, true, true, true, false, false, false, false, false, false, false]) (by kernel_rfl) ?_
    refine WA.takeNo 15 rfl (by kernel_rfl) (by kernel_rfl) (by kernel_rfl) rfl rfl rfl rfl ⟨_, sR⟩ ?_
    refine WA.norm (listed' := #[true, true, true, true, true, true, true, true, true, true, true, true, true, true, true, true, false, false, false, false, false, false]) (by kernel_rfl) ?_
    refine WA.takeNo 16 rfl (by kernel_rfl) (by kernel_rfl) (by kernel_rfl) rfl rfl rfl rfl ⟨_, sR⟩ ?_
    refine WA.norm (listed' := #[true, true, true, true, true, true, true, true, true, true, true, true, true, true, true, true, true, false, false, false, false, false]) (by kernel_rfl) ?_
    refine WA.takeNo 17 rfl (by kernel_rfl) (by kernel_rfl) (by kernel_rfl) rfl rfl rfl rfl ⟨_, sR⟩ ?_
    refine WA.norm (listed' := #[true, true, true, true, true, true, true, true, true, true, true, true, true, true, true, true, true, true, false, false, false, false]) (by kernel_rfl) ?_
    refine WA.takeNo 18 rfl (by kernel_rfl) (by kernel_rfl) (by kernel_rfl) rfl rfl rfl rfl ⟨_, sR⟩ ?_
    refine WA.norm (listed' := #[true, true, true, true, true, true, true, true, true, true, true, true, true, true, true, true, true, true, true, false, false, false]) (by kernel_rfl) ?_
    refine WA.takeNo 19 rfl (by kernel_rfl) (by kernel_rfl) (by kernel_rfl) rfl rfl rfl rfl ⟨_, sR⟩ ?_
    refine WA.norm (listed' := #[true, true, true, true, true, true, true, true, true, true, true, true, true, true, true, true, true, true, true, true, false, false]) (by kernel_rfl) ?_
    refine WA.ex 20 rfl (by kernel_rfl) (by kernel_rfl) (by kernel_rfl) rfl ⟨_, sR⟩ (fun w_ hS_ => ex_pick_f (v := .bool false) rfl rfl) ?_
    refine WA.norm (listed' := #[true, true, true, true, true, true, true, true, true, true, true, true, true, true, true, true, true, true, true, true, true, false]) (by kernel_rfl) ?_
    refine WA.ex 21 rfl (by kernel_rfl) (by kernel_rfl) (by kernel_rfl) rfl ⟨_, sR⟩ (fun w_ hS_ => ex_assign (v := .bool false) rfl) ?_
    refine WA.norm (listed' := #[true, true, true, true, true, true, true, true, true, true, true, true, true, true, true, true, true, true, true, true, true, true]) (by kernel_rfl) ?_
    refine WA.done (by kernel_rfl) ?_
    obtain rfl := Option.some.inj H
    exact ⟨_, HF, hB105, hB110, hB115, hB141, hG, rfl, rfl, rfl, rfl, rfl, rfl, rfl, rfl, rfl⟩
end Go.Proofs.YtfdocckaobmgeaaDoor.X
