import Derived.Test.YtaidlahjngmenaaDoorXAW0
set_option maxRecDepth 20000
set_option linter.unusedVariables false
set_option linter.unusedSimpArgs false
namespace Go.Proofs.YtaidlahjngmenaaDoor.X
open Go Go.RowKit Go.Proofs.YtaidlahjngmenaaDoor.SX
/-! ### dictumlaw01_heads -/
set_option maxRecDepth 100000 in
theorem dictumlaw01_heads.calls (k : Nat) (o0 : Tags) (w0 : World) (r : Bool) (hO : ∀ b, b < w0.heap.size → o0 b < 10) (hG : Gl GG o0 w0) (H : dictumlaw01_heads.f k = some r) :
    Calls Tryd.prog 12 [].toArray w0 fun e_ w_ => ∃ (o_ : Tags), e_ = .returned (one [.bool r]) ∧ Step o0 w0 o_ w_ [] := by
  have HF := Fm.refl hO []
  unfold dictumlaw01_heads.f at H
  refine SX.calls [] Tryd.func12 rfl rfl ?_
  rw [Tryd.ntmps12]
  refine WC.seq ?_
  refine WC.region ?_
  refine WL.ex rfl (ex_assign (v := .bool false) rfl) ?_
  refine WL.nil ?_
  refine WC.seq ?_
  refine WC.region ?_
  refine WL.ex rfl (ex_build (cs := [.slice none ([] : List UInt8).length 0]) [(0, 1)] [] [.slice none 0 0] Tryd.underlying26 zr26 rfl (by kernel_rfl) rfl rfl) ?_
  refine WL.op rfl ?_
  refine OW.box' [.slice none ([] : List UInt8).length 0] 10 HF rfl ((congrArg Value.cells (show ev _ _ = (.agg #[.slice none ([] : List UInt8).length 0] : Value) from rfl)).trans rfl) ?_
  intro o102 w103 b101 s104 hB105
  replace hG := hG.step s104 rfl
  replace HF := HF.step s104 rfl
  refine WL.ex rfl (ex_assign (v := .pointer (some ⟨b101, 0, none⟩)) rfl) ?_
  refine WL.nil ?_
  refine WC.seq ?_
  refine WC.region ?_
  refine WL.ex rfl (ex_move (v := .pointer (some ⟨b101, 0, none⟩)) rfl) ?_
  obtain ⟨z106, hz106, H⟩ := bindE H
  refine WL.op rfl ?_
  refine OW.call [.pointer (some ⟨b101, 0, none⟩), enc8 (9 : UInt8)] rfl Tryd.func27 (by kernel_rfl) (by kernel_rfl) (map_cons' rfl (map_cons' rfl rfl)) (octet_Writer_U8.calls _ _ b101 (.slice none 0 0) (⟨([] : List UInt8)⟩ : T_octet_Writer) (9 : UInt8) z106 (HF.ten (V := [0]) (L := [10, 11]) rfl) (Bk.vw (V := [0]) (L := [10, 11]) hB105 rfl) (Own.nil) hz106) ?_
  rintro _ w107 ⟨o108, v111, rfl, s109, hB110, hO112⟩
  refine ⟨_, rfl, ?_⟩
  replace hB110 := Bk.unO (J := []) 0 hB110 s109 rfl rfl rfl
  replace hO112 := Own.unO (J := []) 1 hO112 s109 rfl rfl rfl
  replace s109 := un_stepL (J := []) (L' := [10, 11]) s109 rfl rfl
  replace hG := hG.step s109 rfl
  replace HF := HF.step s109 rfl
  refine WL.nil ?_
  refine WC.seq ?_
  refine WC.region ?_
  refine WL.ex rfl (ex_move (v := .pointer (some ⟨b101, 0, none⟩)) rfl) ?_
  obtain ⟨z113, hz113, H⟩ := bindE H
  refine WL.op rfl ?_
  refine OW.call [.pointer (some ⟨b101, 0, none⟩), enc64 (300 : UInt64)] rfl Tryd.func28 (by kernel_rfl) (by kernel_rfl) (map_cons' rfl (map_cons' rfl rfl)) (octet_Writer_Num.calls k _ _ b101 v111 z106 (300 : UInt64) z113 (HF.ten (V := [0]) (L := [10, 11]) rfl) (Bk.vw (V := [0]) (L := [10, 11]) hB110 rfl) (Own.vw (V := [0]) (L := [10, 11]) hO112 rfl rfl) hz113) ?_
  rintro _ w114 ⟨o115, v118, rfl, s116, hB117, hO119⟩
  refine ⟨_, rfl, ?_⟩
  replace hB117 := Bk.unO (J := []) 0 hB117 s116 rfl rfl rfl
  replace hO119 := Own.unO (J := []) 1 hO119 s116 rfl rfl rfl
  replace s116 := un_stepL (J := []) (L' := [10, 11]) s116 rfl rfl
  replace hG := hG.step s116 rfl
  replace HF := HF.step s116 rfl
  refine WL.nil ?_
  refine WC.seq ?_
  refine WC.region ?_
  refine WL.ex rfl (ex_move (v := .pointer (some ⟨b101, 0, none⟩)) rfl) ?_
  obtain ⟨z120, hz120, H⟩ := bindE H
  refine WL.op rfl ?_
  refine OW.call [.pointer (some ⟨b101, 0, none⟩), encS ([112] : List UInt8)] rfl Tryd.func29 (by kernel_rfl) (by kernel_rfl) (map_cons' rfl (map_cons' rfl rfl)) (octet_Writer_Text.calls k _ _ b101 v118 z113 ([112] : List UInt8) z120 (HF.ten (V := [0]) (L := [10, 11]) rfl) (Bk.vw (V := [0]) (L := [10, 11]) hB117 rfl) (Own.vw (V := [0]) (L := [10, 11]) hO119 rfl rfl) (Gl.vw (V := [0]) (L := [10, 11]) hG rfl) hz120) ?_
  rintro _ w121 ⟨o122, v125, rfl, s123, hB124, hO126⟩
  refine ⟨_, rfl, ?_⟩
  replace hB124 := Bk.unO (J := []) 0 hB124 s123 rfl rfl rfl
  replace hO126 := Own.unO (J := []) 1 hO126 s123 rfl rfl rfl
  replace s123 := un_stepL (J := []) (L' := [10, 11]) s123 rfl rfl
  replace hG := hG.step s123 rfl
  replace HF := HF.step s123 rfl
  refine WL.ex rfl (ex_assign (v := .int .i64 z120.1) rfl) ?_
  refine WL.nil ?_
  refine WC.seq ?_
  refine WC.region ?_
  refine WL.op rfl ?_
  refine OW.row (r := Rep.u8) (xs := [(172 : UInt8), (130 : UInt8), (0 : UInt8)]) [(0, enc8 (172 : UInt8)), (1, enc8 (130 : UInt8)), (2, enc8 (0 : UInt8))] [[enc8 (172 : UInt8)], [enc8 (130 : UInt8)], [enc8 (0 : UInt8)]] 12 HF rfl Tryd.underlying24 sz5 zr5 rfl (evs_cons rfl (evs_cons rfl (evs_cons rfl rfl))) rfl rfl ⟨rfl, rfl, rfl, trivial⟩ rfl rfl rfl rfl ?_
  intro o127 w128 v130 s129 hO131
  replace hG := hG.step s129 rfl
  replace hB124 := hB124.step s129 rfl
  replace hO126 := hO126.step s129 rfl rfl
  replace HF := HF.step s129 rfl
  obtain ⟨A132, c133, q134e, q134l, q134⟩ := Own.vwRow (V := [0, 12]) (L := []) hO131 rfl rfl
  obtain ⟨z135, hz135, H⟩ := bindE H
  have q134e' := q134e
  refine WL.op rfl ?_
  refine OW.call [v130] rfl Tryd.func19 (by kernel_rfl) (by kernel_rfl) (map_cons' rfl rfl) (by simp only [q134e]; exact (octet_NewReader.calls _ _ A132 c133 [(172 : UInt8), (130 : UInt8), (0 : UInt8)] z135 (HF.ten (V := [0, 12]) (L := []) rfl) q134 q134l hz135)) ?_
  rintro _ w136 ⟨o137, b139, v141, rfl, s138, hB140, hO142⟩
  refine ⟨_, rfl, ?_⟩
  replace hB140 := Bk.un9 (J := [13, 14]) 0 hB140 rfl s138 rfl rfl
  replace hO142 := Own.un9f (J := [13, 14]) 1 (fun h => h) hO142 rfl s138 rfl rfl
  replace s138 := un_stepL (J := [13, 14]) (L' := []) s138 rfl rfl
  replace hG := hG.step s138 rfl
  replace hB124 := hB124.step s138 rfl
  replace hO126 := hO126.step s138 rfl rfl
  replace hO131 := hO131.step s138 rfl rfl
  replace HF := HF.step s138 rfl
  refine WL.ex rfl (ex_assign (v := .pointer (some ⟨b139, 0, none⟩)) rfl) ?_
  refine WL.nil ?_
  refine WC.seq ?_
  refine WC.region ?_
  refine WL.ex rfl (ex_move (v := .pointer (some ⟨b139, 0, none⟩)) rfl) ?_
  obtain ⟨A143, c144, rfl, hl145, hr146⟩ := hO142.pubRow
  replace hG := hG.pub 14
  replace hB124 := hB124.pub 14 rfl
  replace hO126 := hO126.pub 14 rfl
  replace hO131 := hO131.pub 14 rfl
  replace hB140 := hB140.pub 14 rfl
  replace HF := HF.pub 14 rfl
  obtain ⟨z147, hz147, H⟩ := bindE H
  refine WL.op rfl ?_
  refine OW.call [.pointer (some ⟨b139, 0, none⟩)] rfl Tryd.func21 (by kernel_rfl) (by kernel_rfl) (map_cons' rfl rfl) (octet_Reader_Num.calls k _ _ b139 A143 c144 z135 z147 (HF.ten (V := [0]) (L := [13]) rfl) (Bk.vw (V := [0]) (L := [13]) hB140 rfl) (Row.vw (V := [0]) (L := [13]) hr146 rfl) hl145 hz147) ?_
  rintro _ w148 ⟨o149, A152, c153, rfl, s150, hB151, hl154, hr155⟩
  refine ⟨_, rfl, ?_⟩
  replace hB151 := Bk.unO (J := []) 0 hB151 s150 rfl rfl rfl
  replace hr155 := hr155.un (J := []) s150
  replace s150 := un_stepL (J := []) (L' := [13]) s150 rfl rfl
  replace hG := hG.step s150 rfl
  replace hB124 := hB124.step s150 rfl
  replace hO126 := hO126.step s150 rfl rfl
  replace hO131 := hO131.step s150 rfl rfl
  replace hr146 := hr146.step s150 rfl
  replace HF := HF.step s150 rfl
  refine WL.ex rfl (ex_move (v := .tuple #[enc64 z147.1, .int .i64 z147.2.1]) rfl) ?_
  refine WL.ex rfl (ex_extract (vs := #[enc64 z147.1, .int .i64 z147.2.1]) (v := enc64 z147.1) rfl rfl) ?_
  refine WL.ex rfl (ex_extract (vs := #[enc64 z147.1, .int .i64 z147.2.1]) (v := .int .i64 z147.2.1) rfl rfl) ?_
  refine WL.ex rfl (ex_assign (v := enc64 z147.1) rfl) ?_
  refine WL.ex rfl (ex_assign (v := .int .i64 z147.2.1) rfl) ?_
  refine WL.nil ?_
  refine WC.seq ?_
  refine WC.region ?_
  refine WL.op rfl ?_
  refine OW.row (r := Rep.u8) (xs := [(5 : UInt8)]) [(0, enc8 (5 : UInt8))] [[enc8 (5 : UInt8)]] 15 HF rfl Tryd.underlying24 sz5 zr5 rfl (evs_cons rfl rfl) rfl rfl ⟨rfl, trivial⟩ rfl rfl rfl rfl ?_
  intro o156 w157 v159 s158 hO160
  replace hG := hG.step s158 rfl
  replace hB124 := hB124.step s158 rfl
  replace hO126 := hO126.step s158 rfl rfl
  replace hO131 := hO131.step s158 rfl rfl
  replace hr146 := hr146.step s158 rfl
  replace hB151 := hB151.step s158 rfl
  replace hr155 := hr155.step s158 rfl
  replace HF := HF.step s158 rfl
  obtain ⟨A161, c162, q163e, q163l, q163⟩ := Own.vwRow (V := [0, 15]) (L := []) hO160 rfl rfl
  obtain ⟨z164, hz164, H⟩ := bindE H
  have q163e' := q163e
  refine WL.op rfl ?_
  refine OW.call [v159] rfl Tryd.func13 (by kernel_rfl) (by kernel_rfl) (map_cons' rfl rfl) (by simp only [q163e]; exact (octet_Seal.calls k _ _ A161 c162 [(5 : UInt8)] z164 (HF.ten (V := [0, 15]) (L := []) rfl) q163 q163l hz164)) ?_
  rintro _ w165 ⟨o166, v168, rfl, s167, hO169⟩
  refine ⟨_, rfl, ?_⟩
  replace hO169 := Own.un9f (J := [16]) 0 (fun h => h) hO169 rfl s167 rfl rfl
  replace s167 := un_stepL (J := [16]) (L' := []) s167 rfl rfl
  replace hG := hG.step s167 rfl
  replace hB124 := hB124.step s167 rfl
  replace hO126 := hO126.step s167 rfl rfl
  replace hO131 := hO131.step s167 rfl rfl
  replace hr146 := hr146.step s167 rfl
  replace hB151 := hB151.step s167 rfl
  replace hr155 := hr155.step s167 rfl
  replace hO160 := hO160.step s167 rfl rfl
  replace HF := HF.step s167 rfl
  obtain ⟨A170, c171, q172e, q172l, q172⟩ := Own.vwRow (V := [0, 16]) (L := []) hO169 rfl rfl
  obtain ⟨z173, hz173, H⟩ := bindE H
  have q172e' := q172e
  refine WL.op rfl ?_
  refine OW.call [v168] rfl Tryd.func17 (by kernel_rfl) (by kernel_rfl) (map_cons' rfl rfl) (by simp only [q172e]; exact (octet_Open.calls k _ _ A170 c171 z164 z173 (HF.ten (V := [0, 16]) (L := []) rfl) q172 q172l hz173)) ?_
  rintro _ w174 ⟨o175, v177, rfl, s176, hO178⟩
  refine ⟨_, rfl, ?_⟩
  replace hO178 := Own.un9f (J := [17]) 0 (fun h => h) hO178 rfl s176 rfl rfl
  replace s176 := un_stepL (J := [17]) (L' := []) s176 rfl rfl
  replace hG := hG.step s176 rfl
  replace hB124 := hB124.step s176 rfl
  replace hO126 := hO126.step s176 rfl rfl
  replace hO131 := hO131.step s176 rfl rfl
  replace hr146 := hr146.step s176 rfl
  replace hB151 := hB151.step s176 rfl
  replace hr155 := hr155.step s176 rfl
  replace hO160 := hO160.step s176 rfl rfl
  replace hO169 := hO169.step s176 rfl rfl
  replace HF := HF.step s176 rfl
  refine WL.ex rfl (ex_move (v := .tuple #[v177, .int .i64 z173.2]) rfl) ?_
  refine WL.ex rfl (ex_extract (vs := #[v177, .int .i64 z173.2]) (v := v177) rfl rfl) ?_
  refine WL.ex rfl (ex_extract (vs := #[v177, .int .i64 z173.2]) (v := .int .i64 z173.2) rfl rfl) ?_
  refine WL.ex rfl (ex_assign (v := v177) rfl) ?_
  refine WL.ex rfl (ex_assign (v := .int .i64 z173.2) rfl) ?_
  refine WL.nil ?_
  refine WC.seq ?_
  refine WC.region ?_
  obtain ⟨z179, hz179, H⟩ := bindE H
  refine WL.op rfl ?_
  refine OW.call [encS ([49, 50] : List UInt8), .int .i64 12] rfl Tryd.func34 (by kernel_rfl) (by kernel_rfl) (map_cons' rfl (map_cons' rfl rfl)) (octet_Undec.calls _ _ ([49, 50] : List UInt8) 12 z179 (HF.ten (V := [0]) (L := []) rfl) (Gl.vw (V := [0]) (L := []) hG rfl) hz179) ?_
  rintro _ w180 ⟨o181, rfl, s182⟩
  refine ⟨_, rfl, ?_⟩
  replace s182 := un_stepL (J := []) (L' := []) s182 rfl rfl
  replace hG := hG.step s182 rfl
  replace hB124 := hB124.step s182 rfl
  replace hO126 := hO126.step s182 rfl rfl
  replace hO131 := hO131.step s182 rfl rfl
  replace hr146 := hr146.step s182 rfl
  replace hB151 := hB151.step s182 rfl
  replace hr155 := hr155.step s182 rfl
  replace hO160 := hO160.step s182 rfl rfl
  replace hO169 := hO169.step s182 rfl rfl
  replace hO178 := hO178.step s182 rfl rfl
  replace HF := HF.step s182 rfl
  refine WL.ex rfl (ex_move (v := .tuple #[.int .i64 z179.1, .int .i64 z179.2]) rfl) ?_
  refine WL.ex rfl (ex_extract (vs := #[.int .i64 z179.1, .int .i64 z179.2]) (v := .int .i64 z179.1) rfl rfl) ?_
  refine WL.ex rfl (ex_extract (vs := #[.int .i64 z179.1, .int .i64 z179.2]) (v := .int .i64 z179.2) rfl rfl) ?_
  refine WL.ex rfl (ex_assign (v := .int .i64 z179.1) rfl) ?_
  refine WL.ex rfl (ex_assign (v := .int .i64 z179.2) rfl) ?_
  refine WL.nil ?_
  refine WC.seq ?_
  refine WC.region ?_
  refine WL.ex rfl (ex_move (v := .int .i64 z120.1) rfl) ?_
  refine WL.ex rfl (ex_bin (a := .int .i64 z120.1) (b := .int .i64 0) (v := .bool (z120.1 == 0)) rfl rfl bin_eql) ?_
  refine WL.ex rfl (ex_move (v := .bool (z120.1 == 0)) rfl) ?_
  rcases condE H with ⟨c183, H⟩ | ⟨c183, H⟩
  ·
    refine WL.guardYes rfl rfl rfl ((show _ = Value.bool (z120.1 == 0) from rfl).trans (congrArg Value.bool c183)) ?_
    refine OW.ex rfl (ex_move (v := .pointer (some ⟨b101, 0, none⟩)) rfl) ?_
    refine WL.guardYes rfl rfl rfl ((show _ = Value.bool (z120.1 == 0) from rfl).trans (congrArg Value.bool c183)) ?_
    refine OW.ex rfl (ex_nilCheck rfl) ?_
    refine WL.guardYes rfl rfl rfl ((show _ = Value.bool (z120.1 == 0) from rfl).trans (congrArg Value.bool c183)) ?_
    refine OW.ex rfl (ex_fieldAddr rfl Tryd.underlying26 rfl sz24) ?_
    refine WL.guardYes rfl rfl rfl ((show _ = Value.bool (z120.1 == 0) from rfl).trans (congrArg Value.bool c183)) ?_
    refine OW.ex rfl (ex_load1 (v := v125) rfl Tryd.underlying24 rfl (hB124.cell rfl)) ?_
    refine WL.guardYes rfl rfl rfl ((show _ = Value.bool (z120.1 == 0) from rfl).trans (congrArg Value.bool c183)) ?_
    refine OW.row (r := Rep.u8) (xs := [(9 : UInt8), (172 : UInt8), (2 : UInt8), (1 : UInt8), (112 : UInt8)]) [(0, enc8 (9 : UInt8)), (1, enc8 (172 : UInt8)), (2, enc8 (2 : UInt8)), (3, enc8 (1 : UInt8)), (4, enc8 (112 : UInt8))] [[enc8 (9 : UInt8)], [enc8 (172 : UInt8)], [enc8 (2 : UInt8)], [enc8 (1 : UInt8)], [enc8 (112 : UInt8)]] 18 HF rfl Tryd.underlying24 sz5 zr5 rfl (evs_cons rfl (evs_cons rfl (evs_cons rfl (evs_cons rfl (evs_cons rfl rfl))))) rfl rfl ⟨rfl, rfl, rfl, rfl, rfl, trivial⟩ rfl rfl rfl rfl ?_
    intro o184 w185 v187 s186 hO188
    replace hG := hG.step s186 rfl
    replace hB124 := hB124.step s186 rfl
    replace hO126 := hO126.step s186 rfl rfl
    replace hO131 := hO131.step s186 rfl rfl
    replace hr146 := hr146.step s186 rfl
    replace hB151 := hB151.step s186 rfl
    replace hr155 := hr155.step s186 rfl
    replace hO160 := hO160.step s186 rfl rfl
    replace hO169 := hO169.step s186 rfl rfl
    replace hO178 := hO178.step s186 rfl rfl
    replace HF := HF.step s186 rfl
    refine WL.guardYes rfl rfl rfl ((show _ = Value.bool (z120.1 == 0) from rfl).trans (congrArg Value.bool c183)) ?_
    obtain ⟨A189, c190, q191e, q191l, q191⟩ := Own.vwRow (V := [0, 11, 18]) (L := []) hO126 rfl rfl
    obtain ⟨A192, c193, q194e, q194l, q194⟩ := Own.vwRow (V := [0, 11, 18]) (L := []) hO188 rfl rfl
    obtain ⟨z195, hz195, H⟩ := bindE H
    have q191e' := q191e
    have q194e' := q194e
    refine OW.call [v125, v187] rfl Tryd.func11 (by kernel_rfl) (by kernel_rfl) (map_cons' rfl (map_cons' rfl rfl)) (by simp only [q191e, q194e]; exact (dictumref01_Same.calls k _ _ A189 c190 A192 c193 z120.2.f_B [(9 : UInt8), (172 : UInt8), (2 : UInt8), (1 : UInt8), (112 : UInt8)] z195 (HF.ten (V := [0, 11, 18]) (L := []) rfl) q191 q191l q194 q194l hz195)) ?_
    rintro _ w196 ⟨o197, rfl, s198⟩
    refine ⟨_, rfl, ?_⟩
    replace s198 := un_stepL (J := []) (L' := []) s198 rfl rfl
    replace hG := hG.step s198 rfl
    replace hB124 := hB124.step s198 rfl
    replace hO126 := hO126.step s198 rfl rfl
    replace hO131 := hO131.step s198 rfl rfl
    replace hr146 := hr146.step s198 rfl
    replace hB151 := hB151.step s198 rfl
    replace hr155 := hr155.step s198 rfl
    replace hO160 := hO160.step s198 rfl rfl
    replace hO169 := hO169.step s198 rfl rfl
    replace hO178 := hO178.step s198 rfl rfl
    replace hO188 := hO188.step s198 rfl rfl
    replace HF := HF.step s198 rfl
    refine WL.ex rfl (ex_pick_t (v := .bool z195) ((show _ = Value.bool (z120.1 == 0) from rfl).trans (congrArg Value.bool c183)) rfl) ?_
    refine WL.ex rfl (ex_move (v := .bool z195) rfl) ?_
    rcases condE H with ⟨c199, H⟩ | ⟨c199, H⟩
    ·
      refine WL.guardYes rfl rfl rfl ((show _ = Value.bool z195 from rfl).trans (congrArg Value.bool c199)) ?_
      refine OW.ex rfl (ex_move (v := .int .i64 z147.2.1) rfl) ?_
      refine WL.guardYes rfl rfl rfl ((show _ = Value.bool z195 from rfl).trans (congrArg Value.bool c199)) ?_
      refine OW.ex rfl (ex_bin (a := .int .i64 z147.2.1) (b := .int .i64 11) (v := .bool (z147.2.1 == 11)) rfl rfl bin_eql) ?_
      refine WL.ex rfl (ex_pick_t (v := .bool (z147.2.1 == 11)) ((show _ = Value.bool z195 from rfl).trans (congrArg Value.bool c199)) rfl) ?_
      refine WL.ex rfl (ex_move (v := .bool (z147.2.1 == 11)) rfl) ?_
      rcases condE H with ⟨c200, H⟩ | ⟨c200, H⟩
      ·
        refine WL.guardYes rfl rfl rfl ((show _ = Value.bool (z147.2.1 == 11) from rfl).trans (congrArg Value.bool c200)) ?_
        refine OW.ex rfl (ex_move (v := .pointer (some ⟨b139, 0, none⟩)) rfl) ?_
        refine WL.guardYes rfl rfl rfl ((show _ = Value.bool (z147.2.1 == 11) from rfl).trans (congrArg Value.bool c200)) ?_
        obtain ⟨z201, hz201, H⟩ := bindE H
        refine OW.call [.pointer (some ⟨b139, 0, none⟩)] rfl Tryd.func25 (by kernel_rfl) (by kernel_rfl) (map_cons' rfl rfl) (octet_Reader_Left.calls _ _ b139 A152 c153 z147.2.2 z201 (HF.ten (V := [0]) (L := [13]) rfl) (Bk.vw (V := [0]) (L := [13]) hB151 rfl) (Row.vw (V := [0]) (L := [13]) hr155 rfl) hl154 hz201) ?_
        rintro _ w202 ⟨o203, rfl, s204⟩
        refine ⟨_, rfl, ?_⟩
        replace s204 := un_stepL (J := []) (L' := []) s204 rfl rfl
        replace hG := hG.step s204 rfl
        replace hB124 := hB124.step s204 rfl
        replace hO126 := hO126.step s204 rfl rfl
        replace hO131 := hO131.step s204 rfl rfl
        replace hr146 := hr146.step s204 rfl
        replace hB151 := hB151.step s204 rfl
        replace hr155 := hr155.step s204 rfl
        replace hO160 := hO160.step s204 rfl rfl
        replace hO169 := hO169.step s204 rfl rfl
        replace hO178 := hO178.step s204 rfl rfl
        replace hO188 := hO188.step s204 rfl rfl
        replace HF := HF.step s204 rfl
        refine WL.guardYes rfl rfl rfl ((show _ = Value.bool (z147.2.1 == 11) from rfl).trans (congrArg Value.bool c200)) ?_
        refine OW.ex rfl (ex_bin (a := .int .i64 z201) (b := .int .i64 3) (v := .bool (z201 == 3)) rfl rfl bin_eql) ?_
        refine WL.ex rfl (ex_pick_t (v := .bool (z201 == 3)) ((show _ = Value.bool (z147.2.1 == 11) from rfl).trans (congrArg Value.bool c200)) rfl) ?_
        refine WL.ex rfl (ex_move (v := .bool (z201 == 3)) rfl) ?_
        rcases condE H with ⟨c205, H⟩ | ⟨c205, H⟩
        ·
          refine WL.guardYes rfl rfl rfl ((show _ = Value.bool (z201 == 3) from rfl).trans (congrArg Value.bool c205)) ?_
          refine OW.row (r := Rep.u8) (xs := [(49 : UInt8), (50 : UInt8), (51 : UInt8), (52 : UInt8)]) [(0, enc8 (49 : UInt8)), (1, enc8 (50 : UInt8)), (2, enc8 (51 : UInt8)), (3, enc8 (52 : UInt8))] [[enc8 (49 : UInt8)], [enc8 (50 : UInt8)], [enc8 (51 : UInt8)], [enc8 (52 : UInt8)]] 19 HF rfl Tryd.underlying24 sz5 zr5 rfl (evs_cons rfl (evs_cons rfl (evs_cons rfl (evs_cons rfl rfl)))) rfl rfl ⟨rfl, rfl, rfl, rfl, trivial⟩ rfl rfl rfl rfl ?_
          intro o206 w207 v209 s208 hO210
          replace hG := hG.step s208 rfl
          replace hB124 := hB124.step s208 rfl
          replace hO126 := hO126.step s208 rfl rfl
          replace hO131 := hO131.step s208 rfl rfl
          replace hr146 := hr146.step s208 rfl
          replace hB151 := hB151.step s208 rfl
          replace hr155 := hr155.step s208 rfl
          replace hO160 := hO160.step s208 rfl rfl
          replace hO169 := hO169.step s208 rfl rfl
          replace hO178 := hO178.step s208 rfl rfl
          replace hO188 := hO188.step s208 rfl rfl
          replace HF := HF.step s208 rfl
          refine WL.guardYes rfl rfl rfl ((show _ = Value.bool (z201 == 3) from rfl).trans (congrArg Value.bool c205)) ?_
          refine OW.convBytes (r := Rep.u8) rfl rfl Tryd.underlying24 Tryd.underlying5 hO210 rfl (by decide) ?_
          intro w211 A212 c213 s214 hl215 hr216
          replace hG := hG.step s214 rfl
          replace hB124 := hB124.step s214 rfl
          replace hO126 := hO126.step s214 rfl rfl
          replace hO131 := hO131.step s214 rfl rfl
          replace hr146 := hr146.step s214 rfl
          replace hB151 := hB151.step s214 rfl
          replace hr155 := hr155.step s214 rfl
          replace hO160 := hO160.step s214 rfl rfl
          replace hO169 := hO169.step s214 rfl rfl
          replace hO178 := hO178.step s214 rfl rfl
          replace hO188 := hO188.step s214 rfl rfl
          replace HF := HF.step s214 rfl
          replace hG := hG.pub 19
          replace hB124 := hB124.pub 19 rfl
          replace hO126 := hO126.pub 19 rfl
          replace hO131 := hO131.pub 19 rfl
          replace hr146 := hr146.pub 19
          replace hB151 := hB151.pub 19 rfl
          replace hr155 := hr155.pub 19
          replace hO160 := hO160.pub 19 rfl
          replace hO169 := hO169.pub 19 rfl
          replace hO178 := hO178.pub 19 rfl
          replace hO188 := hO188.pub 19 rfl
          replace HF := HF.pub 19 rfl
          replace hr216 := Row.pubOf hr216
          refine WL.guardYes rfl rfl rfl ((show _ = Value.bool (z201 == 3) from rfl).trans (congrArg Value.bool c205)) ?_
          refine OW.row (r := Rep.u8) (xs := [(53 : UInt8), (54 : UInt8), (55 : UInt8), (56 : UInt8), (57 : UInt8)]) [(0, enc8 (53 : UInt8)), (1, enc8 (54 : UInt8)), (2, enc8 (55 : UInt8)), (3, enc8 (56 : UInt8)), (4, enc8 (57 : UInt8))] [[enc8 (53 : UInt8)], [enc8 (54 : UInt8)], [enc8 (55 : UInt8)], [enc8 (56 : UInt8)], [enc8 (57 : UInt8)]] 20 HF rfl Tryd.underlying24 sz5 zr5 rfl (evs_cons rfl (evs_cons rfl (evs_cons rfl (evs_cons rfl (evs_cons rfl rfl))))) rfl rfl ⟨rfl, rfl, rfl, rfl, rfl, trivial⟩ rfl rfl rfl rfl ?_
          intro o217 w218 v220 s219 hO221
          replace hG := hG.step s219 rfl
          replace hB124 := hB124.step s219 rfl
          replace hO126 := hO126.step s219 rfl rfl
          replace hO131 := hO131.step s219 rfl rfl
          replace hr146 := hr146.step s219 rfl
          replace hB151 := hB151.step s219 rfl
          replace hr155 := hr155.step s219 rfl
          replace hO160 := hO160.step s219 rfl rfl
          replace hO169 := hO169.step s219 rfl rfl
          replace hO178 := hO178.step s219 rfl rfl
          replace hO188 := hO188.step s219 rfl rfl
          replace hr216 := hr216.step s219 rfl
          replace HF := HF.step s219 rfl
          refine WL.guardYes rfl rfl rfl ((show _ = Value.bool (z201 == 3) from rfl).trans (congrArg Value.bool c205)) ?_
          refine OW.convBytes (r := Rep.u8) rfl rfl Tryd.underlying24 Tryd.underlying5 hO221 rfl (by decide) ?_
          intro w222 A223 c224 s225 hl226 hr227
          replace hG := hG.step s225 rfl
          replace hB124 := hB124.step s225 rfl
          replace hO126 := hO126.step s225 rfl rfl
          replace hO131 := hO131.step s225 rfl rfl
          replace hr146 := hr146.step s225 rfl
          replace hB151 := hB151.step s225 rfl
          replace hr155 := hr155.step s225 rfl
          replace hO160 := hO160.step s225 rfl rfl
          replace hO169 := hO169.step s225 rfl rfl
          replace hO178 := hO178.step s225 rfl rfl
          replace hO188 := hO188.step s225 rfl rfl
          replace hr216 := hr216.step s225 rfl
          replace HF := HF.step s225 rfl
          replace hG := hG.pub 20
          replace hB124 := hB124.pub 20 rfl
          replace hO126 := hO126.pub 20 rfl
          replace hO131 := hO131.pub 20 rfl
          replace hr146 := hr146.pub 20
          replace hB151 := hB151.pub 20 rfl
          replace hr155 := hr155.pub 20
          replace hO160 := hO160.pub 20 rfl
          replace hO169 := hO169.pub 20 rfl
          replace hO178 := hO178.pub 20 rfl
          replace hO188 := hO188.pub 20 rfl
          replace hr216 := hr216.pub 20
          replace HF := HF.pub 20 rfl
          replace hr227 := Row.pubOf hr227
          refine WL.guardYes rfl rfl rfl ((show _ = Value.bool (z201 == 3) from rfl).trans (congrArg Value.bool c205)) ?_
          refine OW.row (r := (Rep.slice Rep.u8)) (xs := [[(49 : UInt8), (50 : UInt8), (51 : UInt8), (52 : UInt8)], [(53 : UInt8), (54 : UInt8), (55 : UInt8), (56 : UInt8), (57 : UInt8)]]) [(0, .slice A212 [(49 : UInt8), (50 : UInt8), (51 : UInt8), (52 : UInt8)].length c213), (1, .slice A223 [(53 : UInt8), (54 : UInt8), (55 : UInt8), (56 : UInt8), (57 : UInt8)].length c224)] [[.slice A212 [(49 : UInt8), (50 : UInt8), (51 : UInt8), (52 : UInt8)].length c213], [.slice A223 [(53 : UInt8), (54 : UInt8), (55 : UInt8), (56 : UInt8), (57 : UInt8)].length c224]] 21 HF rfl Tryd.underlying80 sz24 zr24 rfl (evs_cons rfl (evs_cons rfl rfl)) rfl rfl ⟨(slice_mk hl215 hr216), (slice_mk hl226 hr227), trivial⟩ rfl rfl rfl rfl ?_
          intro o228 w229 v231 s230 hO232
          replace hG := hG.step s230 rfl
          replace hB124 := hB124.step s230 rfl
          replace hO126 := hO126.step s230 rfl rfl
          replace hO131 := hO131.step s230 rfl rfl
          replace hr146 := hr146.step s230 rfl
          replace hB151 := hB151.step s230 rfl
          replace hr155 := hr155.step s230 rfl
          replace hO160 := hO160.step s230 rfl rfl
          replace hO169 := hO169.step s230 rfl rfl
          replace hO178 := hO178.step s230 rfl rfl
          replace hO188 := hO188.step s230 rfl rfl
          replace hr216 := hr216.step s230 rfl
          replace hr227 := hr227.step s230 rfl
          replace HF := HF.step s230 rfl
          refine WL.guardYes rfl rfl rfl ((show _ = Value.bool (z201 == 3) from rfl).trans (congrArg Value.bool c205)) ?_
          obtain ⟨A233, c234, q235e, q235l, q235⟩ := Own.vwRow (V := [0, 21]) (L := []) hO232 rfl rfl
          obtain ⟨z236, hz236, H⟩ := bindE H
          have q235e' := q235e
          refine OW.call [v231] rfl Tryd.func15 (by kernel_rfl) (by kernel_rfl) (map_cons' rfl rfl) (by simp only [q235e]; exact (octet_Sum.calls k _ _ A233 c234 ([[(49 : UInt8), (50 : UInt8), (51 : UInt8), (52 : UInt8)], [(53 : UInt8), (54 : UInt8), (55 : UInt8), (56 : UInt8), (57 : UInt8)]]) z236 (HF.ten (V := [0, 21]) (L := []) rfl) q235 q235l hz236)) ?_
          rintro _ w237 ⟨o238, rfl, s239⟩
          refine ⟨_, rfl, ?_⟩
          replace s239 := un_stepL (J := []) (L' := []) s239 rfl rfl
          replace hG := hG.step s239 rfl
          replace hB124 := hB124.step s239 rfl
          replace hO126 := hO126.step s239 rfl rfl
          replace hO131 := hO131.step s239 rfl rfl
          replace hr146 := hr146.step s239 rfl
          replace hB151 := hB151.step s239 rfl
          replace hr155 := hr155.step s239 rfl
          replace hO160 := hO160.step s239 rfl rfl
          replace hO169 := hO169.step s239 rfl rfl
          replace hO178 := hO178.step s239 rfl rfl
          replace hO188 := hO188.step s239 rfl rfl
          replace hr216 := hr216.step s239 rfl
          replace hr227 := hr227.step s239 rfl
          replace hO232 := hO232.step s239 rfl rfl
          replace HF := HF.step s239 rfl
          refine WL.guardYes rfl rfl rfl ((show _ = Value.bool (z201 == 3) from rfl).trans (congrArg Value.bool c205)) ?_
          refine OW.ex rfl (ex_bin (a := enc32 z236) (b := enc32 (3808858755 : UInt32)) (v := .bool (z236 == (3808858755 : UInt32))) rfl rfl bin_eql_u32) ?_
          refine WL.ex rfl (ex_pick_t (v := .bool (z236 == (3808858755 : UInt32))) ((show _ = Value.bool (z201 == 3) from rfl).trans (congrArg Value.bool c205)) rfl) ?_
          refine WL.ex rfl (ex_move (v := .bool (z236 == (3808858755 : UInt32))) rfl) ?_
          rcases condE H with ⟨c240, H⟩ | ⟨c240, H⟩
          ·
            refine WL.guardYes rfl rfl rfl ((show _ = Value.bool (z236 == (3808858755 : UInt32)) from rfl).trans (congrArg Value.bool c240)) ?_
            refine OW.ex rfl (ex_move (v := v177) rfl) ?_
            refine WL.guardYes rfl rfl rfl ((show _ = Value.bool (z236 == (3808858755 : UInt32)) from rfl).trans (congrArg Value.bool c240)) ?_
            refine OW.row (r := Rep.u8) (xs := [(5 : UInt8)]) [(0, enc8 (5 : UInt8))] [[enc8 (5 : UInt8)]] 22 HF rfl Tryd.underlying24 sz5 zr5 rfl (evs_cons rfl rfl) rfl rfl ⟨rfl, trivial⟩ rfl rfl rfl rfl ?_
            intro o241 w242 v244 s243 hO245
            replace hG := hG.step s243 rfl
            replace hB124 := hB124.step s243 rfl
            replace hO126 := hO126.step s243 rfl rfl
            replace hO131 := hO131.step s243 rfl rfl
            replace hr146 := hr146.step s243 rfl
            replace hB151 := hB151.step s243 rfl
            replace hr155 := hr155.step s243 rfl
            replace hO160 := hO160.step s243 rfl rfl
            replace hO169 := hO169.step s243 rfl rfl
            replace hO178 := hO178.step s243 rfl rfl
            replace hO188 := hO188.step s243 rfl rfl
            replace hr216 := hr216.step s243 rfl
            replace hr227 := hr227.step s243 rfl
            replace hO232 := hO232.step s243 rfl rfl
            replace HF := HF.step s243 rfl
            refine WL.guardYes rfl rfl rfl ((show _ = Value.bool (z236 == (3808858755 : UInt32)) from rfl).trans (congrArg Value.bool c240)) ?_
            obtain ⟨A246, c247, q248e, q248l, q248⟩ := Own.vwRow (V := [0, 17, 22]) (L := []) hO178 rfl rfl
            obtain ⟨A249, c250, q251e, q251l, q251⟩ := Own.vwRow (V := [0, 17, 22]) (L := []) hO245 rfl rfl
            obtain ⟨z252, hz252, H⟩ := bindE H
            have q248e' := q248e
            have q251e' := q251e
            refine OW.call [v177, v244] rfl Tryd.func11 (by kernel_rfl) (by kernel_rfl) (map_cons' rfl (map_cons' rfl rfl)) (by simp only [q248e, q251e]; exact (dictumref01_Same.calls k _ _ A246 c247 A249 c250 z173.1 [(5 : UInt8)] z252 (HF.ten (V := [0, 17, 22]) (L := []) rfl) q248 q248l q251 q251l hz252)) ?_
            rintro _ w253 ⟨o254, rfl, s255⟩
            refine ⟨_, rfl, ?_⟩
            replace s255 := un_stepL (J := []) (L' := []) s255 rfl rfl
            replace hG := hG.step s255 rfl
            replace hB124 := hB124.step s255 rfl
            replace hO126 := hO126.step s255 rfl rfl
            replace hO131 := hO131.step s255 rfl rfl
            replace hr146 := hr146.step s255 rfl
            replace hB151 := hB151.step s255 rfl
            replace hr155 := hr155.step s255 rfl
            replace hO160 := hO160.step s255 rfl rfl
            replace hO169 := hO169.step s255 rfl rfl
            replace hO178 := hO178.step s255 rfl rfl
            replace hO188 := hO188.step s255 rfl rfl
            replace hr216 := hr216.step s255 rfl
            replace hr227 := hr227.step s255 rfl
            replace hO232 := hO232.step s255 rfl rfl
            replace hO245 := hO245.step s255 rfl rfl
            replace HF := HF.step s255 rfl
            refine WL.ex rfl (ex_pick_t (v := .bool z252) ((show _ = Value.bool (z236 == (3808858755 : UInt32)) from rfl).trans (congrArg Value.bool c240)) rfl) ?_
            refine WL.ex rfl (ex_move (v := .bool z252) rfl) ?_
            rcases condE H with ⟨c256, H⟩ | ⟨c256, H⟩
            ·
              refine WL.guardYes rfl rfl rfl ((show _ = Value.bool z252 from rfl).trans (congrArg Value.bool c256)) ?_
              refine OW.ex rfl (ex_move (v := .int .i64 z173.2) rfl) ?_
              refine WL.guardYes rfl rfl rfl ((show _ = Value.bool z252 from rfl).trans (congrArg Value.bool c256)) ?_
              refine OW.ex rfl (ex_bin (a := .int .i64 z173.2) (b := .int .i64 0) (v := .bool (z173.2 == 0)) rfl rfl bin_eql) ?_
              refine WL.ex rfl (ex_pick_t (v := .bool (z173.2 == 0)) ((show _ = Value.bool z252 from rfl).trans (congrArg Value.bool c256)) rfl) ?_
              refine WL.ex rfl (ex_move (v := .bool (z173.2 == 0)) rfl) ?_
              rcases condE H with ⟨c257, H⟩ | ⟨c257, H⟩
              ·
                refine WL.guardYes rfl rfl rfl ((show _ = Value.bool (z173.2 == 0) from rfl).trans (congrArg Value.bool c257)) ?_
                refine OW.row (r := Rep.u8) (xs := [(10 : UInt8)]) [(0, enc8 (10 : UInt8))] [[enc8 (10 : UInt8)]] 23 HF rfl Tryd.underlying24 sz5 zr5 rfl (evs_cons rfl rfl) rfl rfl ⟨rfl, trivial⟩ rfl rfl rfl rfl ?_
                intro o258 w259 v261 s260 hO262
                replace hG := hG.step s260 rfl
                replace hB124 := hB124.step s260 rfl
                replace hO126 := hO126.step s260 rfl rfl
                replace hO131 := hO131.step s260 rfl rfl
                replace hr146 := hr146.step s260 rfl
                replace hB151 := hB151.step s260 rfl
                replace hr155 := hr155.step s260 rfl
                replace hO160 := hO160.step s260 rfl rfl
                replace hO169 := hO169.step s260 rfl rfl
                replace hO178 := hO178.step s260 rfl rfl
                replace hO188 := hO188.step s260 rfl rfl
                replace hr216 := hr216.step s260 rfl
                replace hr227 := hr227.step s260 rfl
                replace hO232 := hO232.step s260 rfl rfl
                replace hO245 := hO245.step s260 rfl rfl
                replace HF := HF.step s260 rfl
                refine WL.guardYes rfl rfl rfl ((show _ = Value.bool (z173.2 == 0) from rfl).trans (congrArg Value.bool c257)) ?_
                obtain ⟨A263, c264, q265e, q265l, q265⟩ := Own.vwRow (V := [0, 23]) (L := []) hO262 rfl rfl
                obtain ⟨z266, hz266, H⟩ := bindE H
                have q265e' := q265e
                refine OW.call [v261] rfl Tryd.func31 (by kernel_rfl) (by kernel_rfl) (map_cons' rfl rfl) (by simp only [q265e]; exact (octet_Hex.calls k _ _ A263 c264 [(10 : UInt8)] z266 (HF.ten (V := [0, 23]) (L := []) rfl) q265 q265l hz266)) ?_
                rintro _ w267 ⟨o268, rfl, s269⟩
                refine ⟨_, rfl, ?_⟩
                replace s269 := un_stepL (J := []) (L' := []) s269 rfl rfl
                replace hG := hG.step s269 rfl
                replace hB124 := hB124.step s269 rfl
                replace hO126 := hO126.step s269 rfl rfl
                replace hO131 := hO131.step s269 rfl rfl
                replace hr146 := hr146.step s269 rfl
                replace hB151 := hB151.step s269 rfl
                replace hr155 := hr155.step s269 rfl
                replace hO160 := hO160.step s269 rfl rfl
                replace hO169 := hO169.step s269 rfl rfl
                replace hO178 := hO178.step s269 rfl rfl
                replace hO188 := hO188.step s269 rfl rfl
                replace hr216 := hr216.step s269 rfl
                replace hr227 := hr227.step s269 rfl
                replace hO232 := hO232.step s269 rfl rfl
                replace hO245 := hO245.step s269 rfl rfl
                replace hO262 := hO262.step s269 rfl rfl
                replace HF := HF.step s269 rfl
                refine WL.guardYes rfl rfl rfl ((show _ = Value.bool (z173.2 == 0) from rfl).trans (congrArg Value.bool c257)) ?_
                refine OW.ex rfl (ex_bin (a := encS z266) (b := encS ([48, 97] : List UInt8)) (v := .bool (z266 == ([48, 97] : List UInt8))) rfl rfl bin_eql_str) ?_
                refine WL.ex rfl (ex_pick_t (v := .bool (z266 == ([48, 97] : List UInt8))) ((show _ = Value.bool (z173.2 == 0) from rfl).trans (congrArg Value.bool c257)) rfl) ?_
                refine WL.ex rfl (ex_move (v := .bool (z266 == ([48, 97] : List UInt8))) rfl) ?_
                rcases condE H with ⟨c270, H⟩ | ⟨c270, H⟩
                ·
                  refine WL.guardYes rfl rfl rfl ((show _ = Value.bool (z266 == ([48, 97] : List UInt8)) from rfl).trans (congrArg Value.bool c270)) ?_
                  obtain ⟨z271, hz271, H⟩ := bindE H
                  refine OW.call [.int .i64 (-7)] rfl Tryd.func36 (by kernel_rfl) (by kernel_rfl) (map_cons' rfl rfl) (octet_Dec.calls _ _ (-7) z271 (HF.ten (V := [0]) (L := []) rfl) (Gl.vw (V := [0]) (L := []) hG rfl) hz271) ?_
                  rintro _ w272 ⟨o273, rfl, s274⟩
                  refine ⟨_, rfl, ?_⟩
                  replace s274 := un_stepL (J := []) (L' := []) s274 rfl rfl
                  replace hG := hG.step s274 rfl
                  replace hB124 := hB124.step s274 rfl
                  replace hO126 := hO126.step s274 rfl rfl
                  replace hO131 := hO131.step s274 rfl rfl
                  replace hr146 := hr146.step s274 rfl
                  replace hB151 := hB151.step s274 rfl
                  replace hr155 := hr155.step s274 rfl
                  replace hO160 := hO160.step s274 rfl rfl
                  replace hO169 := hO169.step s274 rfl rfl
                  replace hO178 := hO178.step s274 rfl rfl
                  replace hO188 := hO188.step s274 rfl rfl
                  replace hr216 := hr216.step s274 rfl
                  replace hr227 := hr227.step s274 rfl
                  replace hO232 := hO232.step s274 rfl rfl
                  replace hO245 := hO245.step s274 rfl rfl
                  replace hO262 := hO262.step s274 rfl rfl
                  replace HF := HF.step s274 rfl
                  refine WL.guardYes rfl rfl rfl ((show _ = Value.bool (z266 == ([48, 97] : List UInt8)) from rfl).trans (congrArg Value.bool c270)) ?_
                  refine OW.ex rfl (ex_bin (a := encS z271) (b := encS ([45, 55] : List UInt8)) (v := .bool (z271 == ([45, 55] : List UInt8))) rfl rfl bin_eql_str) ?_
                  refine WL.ex rfl (ex_pick_t (v := .bool (z271 == ([45, 55] : List UInt8))) ((show _ = Value.bool (z266 == ([48, 97] : List UInt8)) from rfl).trans (congrArg Value.bool c270)) rfl) ?_
                  refine WL.ex rfl (ex_move (v := .bool (z271 == ([45, 55] : List UInt8))) rfl) ?_
                  rcases condE H with ⟨c275, H⟩ | ⟨c275, H⟩
                  ·
                    refine WL.guardYes rfl rfl rfl ((show _ = Value.bool (z271 == ([45, 55] : List UInt8)) from rfl).trans (congrArg Value.bool c275)) ?_
                    refine OW.ex rfl (ex_move (v := .int .i64 z179.1) rfl) ?_
                    refine WL.guardYes rfl rfl rfl ((show _ = Value.bool (z271 == ([45, 55] : List UInt8)) from rfl).trans (congrArg Value.bool c275)) ?_
                    refine OW.ex rfl (ex_bin (a := .int .i64 z179.1) (b := .int .i64 12) (v := .bool (z179.1 == 12)) rfl rfl bin_eql) ?_
                    refine WL.ex rfl (ex_pick_t (v := .bool (z179.1 == 12)) ((show _ = Value.bool (z271 == ([45, 55] : List UInt8)) from rfl).trans (congrArg Value.bool c275)) rfl) ?_
                    refine WL.ex rfl (ex_move (v := .bool (z179.1 == 12)) rfl) ?_
                    rcases condE H with ⟨c276, H⟩ | ⟨c276, H⟩
                    ·
                      refine WL.guardYes rfl rfl rfl ((show _ = Value.bool (z179.1 == 12) from rfl).trans (congrArg Value.bool c276)) ?_
                      refine OW.ex rfl (ex_move (v := .int .i64 z179.2) rfl) ?_
                      refine WL.guardYes rfl rfl rfl ((show _ = Value.bool (z179.1 == 12) from rfl).trans (congrArg Value.bool c276)) ?_
                      refine OW.ex rfl (ex_bin (a := .int .i64 z179.2) (b := .int .i64 0) (v := .bool (z179.2 == 0)) rfl rfl bin_eql) ?_
                      refine WL.ex rfl (ex_pick_t (v := .bool (z179.2 == 0)) ((show _ = Value.bool (z179.1 == 12) from rfl).trans (congrArg Value.bool c276)) rfl) ?_
                      refine WL.ex rfl (ex_assign (v := .bool (z179.2 == 0)) rfl) ?_
                      refine WL.nil ?_
                      refine WC.ret ?_
                      obtain rfl := Option.some.inj H
                      exact ⟨_, (.tmp (.bool (z179.2 == 0) : Value) rfl .nil), _, rfl, HF.out⟩
                    ·
                      refine WL.guardNo rfl rfl rfl ((show _ = Value.bool (z179.1 == 12) from rfl).trans (congrArg Value.bool c276)) ?_
                      refine WL.guardNo rfl rfl rfl ((show _ = Value.bool (z179.1 == 12) from rfl).trans (congrArg Value.bool c276)) ?_
                      refine WL.ex rfl (ex_pick_f (v := .bool false) ((show _ = Value.bool (z179.1 == 12) from rfl).trans (congrArg Value.bool c276)) rfl) ?_
                      refine WL.ex rfl (ex_assign (v := .bool false) rfl) ?_
                      refine WL.nil ?_
                      refine WC.ret ?_
                      obtain rfl := Option.some.inj H
                      exact ⟨_, (.tmp (.bool false : Value) rfl .nil), _, rfl, HF.out⟩
                  ·
                    refine WL.guardNo rfl rfl rfl ((show _ = Value.bool (z271 == ([45, 55] : List UInt8)) from rfl).trans (congrArg Value.bool c275)) ?_
                    refine WL.guardNo rfl rfl rfl ((show _ = Value.bool (z271 == ([45, 55] : List UInt8)) from rfl).trans (congrArg Value.bool c275)) ?_
                    refine WL.ex rfl (ex_pick_f (v := .bool false) ((show _ = Value.bool (z271 == ([45, 55] : List UInt8)) from rfl).trans (congrArg Value.bool c275)) rfl) ?_
                    refine WL.ex rfl (ex_move (v := .bool false) rfl) ?_
                    refine WL.guardNo rfl rfl rfl rfl ?_
                    refine WL.guardNo rfl rfl rfl rfl ?_
                    refine WL.ex rfl (ex_pick_f (v := .bool false) rfl rfl) ?_
                    refine WL.ex rfl (ex_assign (v := .bool false) rfl) ?_
                    refine WL.nil ?_
                    refine WC.ret ?_
                    obtain rfl := Option.some.inj H
                    exact ⟨_, (.tmp (.bool false : Value) rfl .nil), _, rfl, HF.out⟩
                ·
                  refine WL.guardNo rfl rfl rfl ((show _ = Value.bool (z266 == ([48, 97] : List UInt8)) from rfl).trans (congrArg Value.bool c270)) ?_
                  refine WL.guardNo rfl rfl rfl ((show _ = Value.bool (z266 == ([48, 97] : List UInt8)) from rfl).trans (congrArg Value.bool c270)) ?_
                  refine WL.ex rfl (ex_pick_f (v := .bool false) ((show _ = Value.bool (z266 == ([48, 97] : List UInt8)) from rfl).trans (congrArg Value.bool c270)) rfl) ?_
                  refine WL.ex rfl (ex_move (v := .bool false) rfl) ?_
                  refine WL.guardNo rfl rfl rfl rfl ?_
                  refine WL.guardNo rfl rfl rfl rfl ?_
                  refine WL.ex rfl (ex_pick_f (v := .bool false) rfl rfl) ?_
                  refine WL.ex rfl (ex_move (v := .bool false) rfl) ?_
                  refine WL.guardNo rfl rfl rfl rfl ?_
                  refine WL.guardNo rfl rfl rfl rfl ?_
                  refine WL.ex rfl (ex_pick_f (v := .bool false) rfl rfl) ?_
                  refine WL.ex rfl (ex_assign (v := .bool false) rfl) ?_
                  refine WL.nil ?_
                  refine WC.ret ?_
                  obtain rfl := Option.some.inj H
                  exact ⟨_, (.tmp (.bool false : Value) rfl .nil), _, rfl, HF.out⟩
              ·
                refine WL.guardNo rfl rfl rfl ((show _ = Value.bool (z173.2 == 0) from rfl).trans (congrArg Value.bool c257)) ?_
                refine WL.guardNo rfl rfl rfl ((show _ = Value.bool (z173.2 == 0) from rfl).trans (congrArg Value.bool c257)) ?_
                refine WL.guardNo rfl rfl rfl ((show _ = Value.bool (z173.2 == 0) from rfl).trans (congrArg Value.bool c257)) ?_
                refine WL.ex rfl (ex_pick_f (v := .bool false) ((show _ = Value.bool (z173.2 == 0) from rfl).trans (congrArg Value.bool c257)) rfl) ?_
                refine WL.ex rfl (ex_move (v := .bool false) rfl) ?_
                refine WL.guardNo rfl rfl rfl rfl ?_
                refine WL.guardNo rfl rfl rfl rfl ?_
                refine WL.ex rfl (ex_pick_f (v := .bool false) rfl rfl) ?_
                refine WL.ex rfl (ex_move (v := .bool false) rfl) ?_
                refine WL.guardNo rfl rfl rfl rfl ?_
                refine WL.guardNo rfl rfl rfl rfl ?_
                refine WL.ex rfl (ex_pick_f (v := .bool false) rfl rfl) ?_
                refine WL.ex rfl (ex_move (v := .bool false) rfl) ?_
                refine WL.guardNo rfl rfl rfl rfl ?_
                refine WL.guardNo rfl rfl rfl rfl ?_
                refine WL.ex rfl (ex_pick_f (v := .bool false) rfl rfl) ?_
                refine WL.ex rfl (ex_assign (v := .bool false) rfl) ?_
                refine WL.nil ?_
                refine WC.ret ?_
                obtain rfl := Option.some.inj H
                exact ⟨_, (.tmp (.bool false : Value) rfl .nil), _, rfl, HF.out⟩
            ·
              refine WL.guardNo rfl rfl rfl ((show _ = Value.bool z252 from rfl).trans (congrArg Value.bool c256)) ?_
              refine WL.guardNo rfl rfl rfl ((show _ = Value.bool z252 from rfl).trans (congrArg Value.bool c256)) ?_
              refine WL.ex rfl (ex_pick_f (v := .bool false) ((show _ = Value.bool z252 from rfl).trans (congrArg Value.bool c256)) rfl) ?_
              refine WL.ex rfl (ex_move (v := .bool false) rfl) ?_
              refine WL.guardNo rfl rfl rfl rfl ?_
              refine WL.guardNo rfl rfl rfl rfl ?_
              refine WL.guardNo rfl rfl rfl rfl ?_
              refine WL.ex rfl (ex_pick_f (v := .bool false) rfl rfl) ?_
              refine WL.ex rfl (ex_move (v := .bool false) rfl) ?_
              refine WL.guardNo rfl rfl rfl rfl ?_
              refine WL.guardNo rfl rfl rfl rfl ?_
              refine WL.ex rfl (ex_pick_f (v := .bool false) rfl rfl) ?_
              refine WL.ex rfl (ex_move (v := .bool false) rfl) ?_
              refine WL.guardNo rfl rfl rfl rfl ?_
              refine WL.guardNo rfl rfl rfl rfl ?_
              refine WL.ex rfl (ex_pick_f (v := .bool false) rfl rfl) ?_
              refine WL.ex rfl (ex_move (v := .bool false) rfl) ?_
              refine WL.guardNo rfl rfl rfl rfl ?_
              refine WL.guardNo rfl rfl rfl rfl ?_
              refine WL.ex rfl (ex_pick_f (v := .bool false) rfl rfl) ?_
              refine WL.ex rfl (ex_assign (v := .bool false) rfl) ?_
              refine WL.nil ?_
              refine WC.ret ?_
              obtain rfl := Option.some.inj H
              exact ⟨_, (.tmp (.bool false : Value) rfl .nil), _, rfl, HF.out⟩
          ·
            refine WL.guardNo rfl rfl rfl ((show _ = Value.bool (z236 == (3808858755 : UInt32)) from rfl).trans (congrArg Value.bool c240)) ?_
            refine WL.guardNo rfl rfl rfl ((show _ = Value.bool (z236 == (3808858755 : UInt32)) from rfl).trans (congrArg Value.bool c240)) ?_
            refine WL.guardNo rfl rfl rfl ((show _ = Value.bool (z236 == (3808858755 : UInt32)) from rfl).trans (congrArg Value.bool c240)) ?_
            refine WL.ex rfl (ex_pick_f (v := .bool false) ((show _ = Value.bool (z236 == (3808858755 : UInt32)) from rfl).trans (congrArg Value.bool c240)) rfl) ?_
            refine WL.ex rfl (ex_move (v := .bool false) rfl) ?_
            refine WL.guardNo rfl rfl rfl rfl ?_
            refine WL.guardNo rfl rfl rfl rfl ?_
            refine WL.ex rfl (ex_pick_f (v := .bool false) rfl rfl) ?_
            refine WL.ex rfl (ex_move (v := .bool false) rfl) ?_
            refine WL.guardNo rfl rfl rfl rfl ?_
            refine WL.guardNo rfl rfl rfl rfl ?_
            refine WL.guardNo rfl rfl rfl rfl ?_
            refine WL.ex rfl (ex_pick_f (v := .bool false) rfl rfl) ?_
            refine WL.ex rfl (ex_move (v := .bool false) rfl) ?_
            refine WL.guardNo rfl rfl rfl rfl ?_
            refine WL.guardNo rfl rfl rfl rfl ?_
            refine WL.ex rfl (ex_pick_f (v := .bool false) rfl rfl) ?_
            refine WL.ex rfl (ex_move (v := .bool false) rfl) ?_
            refine WL.guardNo rfl rfl rfl rfl ?_
            refine WL.guardNo rfl rfl rfl rfl ?_
            refine WL.ex rfl (ex_pick_f (v := .bool false) rfl rfl) ?_
            refine WL.ex rfl (ex_move (v := .bool false) rfl) ?_
            refine WL.guardNo rfl rfl rfl rfl ?_
            refine WL.guardNo rfl rfl rfl rfl ?_
            refine WL.ex rfl (ex_pick_f (v := .bool false) rfl rfl) ?_
            refine WL.ex rfl (ex_assign (v := .bool false) rfl) ?_
            refine WL.nil ?_
            refine WC.ret ?_
            obtain rfl := Option.some.inj H
            exact ⟨_, (.tmp (.bool false : Value) rfl .nil), _, rfl, HF.out⟩
        ·
          refine WL.guardNo rfl rfl rfl ((show _ = Value.bool (z201 == 3) from rfl).trans (congrArg Value.bool c205)) ?_
          refine WL.guardNo rfl rfl rfl ((show _ = Value.bool (z201 == 3) from rfl).trans (congrArg Value.bool c205)) ?_
          refine WL.guardNo rfl rfl rfl ((show _ = Value.bool (z201 == 3) from rfl).trans (congrArg Value.bool c205)) ?_
          refine WL.guardNo rfl rfl rfl ((show _ = Value.bool (z201 == 3) from rfl).trans (congrArg Value.bool c205)) ?_
          refine WL.guardNo rfl rfl rfl ((show _ = Value.bool (z201 == 3) from rfl).trans (congrArg Value.bool c205)) ?_
          refine WL.guardNo rfl rfl rfl ((show _ = Value.bool (z201 == 3) from rfl).trans (congrArg Value.bool c205)) ?_
          refine WL.guardNo rfl rfl rfl ((show _ = Value.bool (z201 == 3) from rfl).trans (congrArg Value.bool c205)) ?_
          refine WL.ex rfl (ex_pick_f (v := .bool false) ((show _ = Value.bool (z201 == 3) from rfl).trans (congrArg Value.bool c205)) rfl) ?_
          refine WL.ex rfl (ex_move (v := .bool false) rfl) ?_
          refine WL.guardNo rfl rfl rfl rfl ?_
          refine WL.guardNo rfl rfl rfl rfl ?_
          refine WL.guardNo rfl rfl rfl rfl ?_
          refine WL.ex rfl (ex_pick_f (v := .bool false) rfl rfl) ?_
          refine WL.ex rfl (ex_move (v := .bool false) rfl) ?_
          refine WL.guardNo rfl rfl rfl rfl ?_
          refine WL.guardNo rfl rfl rfl rfl ?_
          refine WL.ex rfl (ex_pick_f (v := .bool false) rfl rfl) ?_
          refine WL.ex rfl (ex_move (v := .bool false) rfl) ?_
          refine WL.guardNo rfl rfl rfl rfl ?_
          refine WL.guardNo rfl rfl rfl rfl ?_
          refine WL.guardNo rfl rfl rfl rfl ?_
          refine WL.ex rfl (ex_pick_f (v := .bool false) rfl rfl) ?_
          refine WL.ex rfl (ex_move (v := .bool false) rfl) ?_
          refine WL.guardNo rfl rfl rfl rfl ?_
          refine WL.guardNo rfl rfl rfl rfl ?_
          refine WL.ex rfl (ex_pick_f (v := .bool false) rfl rfl) ?_
          refine WL.ex rfl (ex_move (v := .bool false) rfl) ?_
          refine WL.guardNo rfl rfl rfl rfl ?_
          refine WL.guardNo rfl rfl rfl rfl ?_
          refine WL.ex rfl (ex_pick_f (v := .bool false) rfl rfl) ?_
          refine WL.ex rfl (ex_move (v := .bool false) rfl) ?_
          refine WL.guardNo rfl rfl rfl rfl ?_
          refine WL.guardNo rfl rfl rfl rfl ?_
          refine WL.ex rfl (ex_pick_f (v := .bool false) rfl rfl) ?_
          refine WL.ex rfl (ex_assign (v := .bool false) rfl) ?_
          refine WL.nil ?_
          refine WC.ret ?_
          obtain rfl := Option.some.inj H
          exact ⟨_, (.tmp (.bool false : Value) rfl .nil), _, rfl, HF.out⟩
      ·
        refine WL.guardNo rfl rfl rfl ((show _ = Value.bool (z147.2.1 == 11) from rfl).trans (congrArg Value.bool c200)) ?_
        refine WL.guardNo rfl rfl rfl ((show _ = Value.bool (z147.2.1 == 11) from rfl).trans (congrArg Value.bool c200)) ?_
        refine WL.guardNo rfl rfl rfl ((show _ = Value.bool (z147.2.1 == 11) from rfl).trans (congrArg Value.bool c200)) ?_
        refine WL.ex rfl (ex_pick_f (v := .bool false) ((show _ = Value.bool (z147.2.1 == 11) from rfl).trans (congrArg Value.bool c200)) rfl) ?_
        refine WL.ex rfl (ex_move (v := .bool false) rfl) ?_
        refine WL.guardNo rfl rfl rfl rfl ?_
        refine WL.guardNo rfl rfl rfl rfl ?_
        refine WL.guardNo rfl rfl rfl rfl ?_
        refine WL.guardNo rfl rfl rfl rfl ?_
        refine WL.guardNo rfl rfl rfl rfl ?_
        refine WL.guardNo rfl rfl rfl rfl ?_
        refine WL.guardNo rfl rfl rfl rfl ?_
        refine WL.ex rfl (ex_pick_f (v := .bool false) rfl rfl) ?_
        refine WL.ex rfl (ex_move (v := .bool false) rfl) ?_
        refine WL.guardNo rfl rfl rfl rfl ?_
        refine WL.guardNo rfl rfl rfl rfl ?_
        refine WL.guardNo rfl rfl rfl rfl ?_
        refine WL.ex rfl (ex_pick_f (v := .bool false) rfl rfl) ?_
        refine WL.ex rfl (ex_move (v := .bool false) rfl) ?_
        refine WL.guardNo rfl rfl rfl rfl ?_
        refine WL.guardNo rfl rfl rfl rfl ?_
        refine WL.ex rfl (ex_pick_f (v := .bool false) rfl rfl) ?_
        refine WL.ex rfl (ex_move (v := .bool false) rfl) ?_
        refine WL.guardNo rfl rfl rfl rfl ?_
        refine WL.guardNo rfl rfl rfl rfl ?_
        refine WL.guardNo rfl rfl rfl rfl ?_
        refine WL.ex rfl (ex_pick_f (v := .bool false) rfl rfl) ?_
        refine WL.ex rfl (ex_move (v := .bool false) rfl) ?_
        refine WL.guardNo rfl rfl rfl rfl ?_
        refine WL.guardNo rfl rfl rfl rfl ?_
        refine WL.ex rfl (ex_pick_f (v := .bool false) rfl rfl) ?_
        refine WL.ex rfl (ex_move (v := .bool false) rfl) ?_
        refine WL.guardNo rfl rfl rfl rfl ?_
        refine WL.guardNo rfl rfl rfl rfl ?_
        refine WL.ex rfl (ex_pick_f (v := .bool false) rfl rfl) ?_
        refine WL.ex rfl (ex_move (v := .bool false) rfl) ?_
        refine WL.guardNo rfl rfl rfl rfl ?_
        refine WL.guardNo rfl rfl rfl rfl ?_
        refine WL.ex rfl (ex_pick_f (v := .bool false) rfl rfl) ?_
        refine WL.ex rfl (ex_assign (v := .bool false) rfl) ?_
        refine WL.nil ?_
        refine WC.ret ?_
        obtain rfl := Option.some.inj H
        exact ⟨_, (.tmp (.bool false : Value) rfl .nil), _, rfl, HF.out⟩
    ·
      refine WL.guardNo rfl rfl rfl ((show _ = Value.bool z195 from rfl).trans (congrArg Value.bool c199)) ?_
      refine WL.guardNo rfl rfl rfl ((show _ = Value.bool z195 from rfl).trans (congrArg Value.bool c199)) ?_
      refine WL.ex rfl (ex_pick_f (v := .bool false) ((show _ = Value.bool z195 from rfl).trans (congrArg Value.bool c199)) rfl) ?_
      refine WL.ex rfl (ex_move (v := .bool false) rfl) ?_
      refine WL.guardNo rfl rfl rfl rfl ?_
      refine WL.guardNo rfl rfl rfl rfl ?_
      refine WL.guardNo rfl rfl rfl rfl ?_
      refine WL.ex rfl (ex_pick_f (v := .bool false) rfl rfl) ?_
      refine WL.ex rfl (ex_move (v := .bool false) rfl) ?_
      refine WL.guardNo rfl rfl rfl rfl ?_
      refine WL.guardNo rfl rfl rfl rfl ?_
      refine WL.guardNo rfl rfl rfl rfl ?_
      refine WL.guardNo rfl rfl rfl rfl ?_
      refine WL.guardNo rfl rfl rfl rfl ?_
      refine WL.guardNo rfl rfl rfl rfl ?_
      refine WL.guardNo rfl rfl rfl rfl ?_
      refine WL.ex rfl (ex_pick_f (v := .bool false) rfl rfl) ?_
      refine WL.ex rfl (ex_move (v := .bool false) rfl) ?_
      refine WL.guardNo rfl rfl rfl rfl ?_
      refine WL.guardNo rfl rfl rfl rfl ?_
      refine WL.guardNo rfl rfl rfl rfl ?_
      refine WL.ex rfl (ex_pick_f (v := .bool false) rfl rfl) ?_
      refine WL.ex rfl (ex_move (v := .bool false) rfl) ?_
      refine WL.guardNo rfl rfl rfl rfl ?_
      refine WL.guardNo rfl rfl rfl rfl ?_
      refine WL.ex rfl (ex_pick_f (v := .bool false) rfl rfl) ?_
      refine WL.ex rfl (ex_move (v := .bool false) rfl) ?_
      refine WL.guardNo rfl rfl rfl rfl ?_
      refine WL.guardNo rfl rfl rfl rfl ?_
      refine WL.guardNo rfl rfl rfl rfl ?_
      refine WL.ex rfl (ex_pick_f (v := .bool false) rfl rfl) ?_
      refine WL.ex rfl (ex_move (v := .bool false) rfl) ?_
      refine WL.guardNo rfl rfl rfl rfl ?_
      refine WL.guardNo rfl rfl rfl rfl ?_
      refine WL.ex rfl (ex_pick_f (v := .bool false) rfl rfl) ?_
      refine WL.ex rfl (ex_move (v := .bool false) rfl) ?_
      refine WL.guardNo rfl rfl rfl rfl ?_
      refine WL.guardNo rfl rfl rfl rfl ?_
      refine WL.ex rfl (ex_pick_f (v := .bool false) rfl rfl) ?_
      refine WL.ex rfl (ex_move (v := .bool false) rfl) ?_
      refine WL.guardNo rfl rfl rfl rfl ?_
      refine WL.guardNo rfl rfl rfl rfl ?_
      refine WL.ex rfl (ex_pick_f (v := .bool false) rfl rfl) ?_
      refine WL.ex rfl (ex_assign (v := .bool false) rfl) ?_
      refine WL.nil ?_
      refine WC.ret ?_
      obtain rfl := Option.some.inj H
      exact ⟨_, (.tmp (.bool false : Value) rfl .nil), _, rfl, HF.out⟩
  ·
    refine WL.guardNo rfl rfl rfl ((show _ = Value.bool (z120.1 == 0) from rfl).trans (congrArg Value.bool c183)) ?_
    refine WL.guardNo rfl rfl rfl ((show _ = Value.bool (z120.1 == 0) from rfl).trans (congrArg Value.bool c183)) ?_
    refine WL.guardNo rfl rfl rfl ((show _ = Value.bool (z120.1 == 0) from rfl).trans (congrArg Value.bool c183)) ?_
    refine WL.guardNo rfl rfl rfl ((show _ = Value.bool (z120.1 == 0) from rfl).trans (congrArg Value.bool c183)) ?_
    refine WL.guardNo rfl rfl rfl ((show _ = Value.bool (z120.1 == 0) from rfl).trans (congrArg Value.bool c183)) ?_
    refine WL.guardNo rfl rfl rfl ((show _ = Value.bool (z120.1 == 0) from rfl).trans (congrArg Value.bool c183)) ?_
    refine WL.ex rfl (ex_pick_f (v := .bool false) ((show _ = Value.bool (z120.1 == 0) from rfl).trans (congrArg Value.bool c183)) rfl) ?_
    refine WL.ex rfl (ex_move (v := .bool false) rfl) ?_
    refine WL.guardNo rfl rfl rfl rfl ?_
    refine WL.guardNo rfl rfl rfl rfl ?_
    refine WL.ex rfl (ex_pick_f (v := .bool false) rfl rfl) ?_
    refine WL.ex rfl (ex_move (v := .bool false) rfl) ?_
    refine WL.guardNo rfl rfl rfl rfl ?_
    refine WL.guardNo rfl rfl rfl rfl ?_
    refine WL.guardNo rfl rfl rfl rfl ?_
    refine WL.ex rfl (ex_pick_f (v := .bool false) rfl rfl) ?_
    refine WL.ex rfl (ex_move (v := .bool false) rfl) ?_
    refine WL.guardNo rfl rfl rfl rfl ?_
    refine WL.guardNo rfl rfl rfl rfl ?_
    refine WL.guardNo rfl rfl rfl rfl ?_
    refine WL.guardNo rfl rfl rfl rfl ?_
    refine WL.guardNo rfl rfl rfl rfl ?_
    refine WL.guardNo rfl rfl rfl rfl ?_
    refine WL.guardNo rfl rfl rfl rfl ?_
    refine WL.ex rfl (ex_pick_f (v := .bool false) rfl rfl) ?_
    refine WL.ex rfl (ex_move (v := .bool false) rfl) ?_
    refine WL.guardNo rfl rfl rfl rfl ?_
    refine WL.guardNo rfl rfl rfl rfl ?_
    refine WL.guardNo rfl rfl rfl rfl ?_
    refine WL.ex rfl (ex_pick_f (v := .bool false) rfl rfl) ?_
    refine WL.ex rfl (ex_move (v := .bool false) rfl) ?_
    refine WL.guardNo rfl rfl rfl rfl ?_
    refine WL.guardNo rfl rfl rfl rfl ?_
    refine WL.ex rfl (ex_pick_f (v := .bool false) rfl rfl) ?_
    refine WL.ex rfl (ex_move (v := .bool false) rfl) ?_
    refine WL.guardNo rfl rfl rfl rfl ?_
    refine WL.guardNo rfl rfl rfl rfl ?_
    refine WL.guardNo rfl rfl rfl rfl ?_
    refine WL.ex rfl (ex_pick_f (v := .bool false) rfl rfl) ?_
    refine WL.ex rfl (ex_move (v := .bool false) rfl) ?_
    refine WL.guardNo rfl rfl rfl rfl ?_
    refine WL.guardNo rfl rfl rfl rfl ?_
    refine WL.ex rfl (ex_pick_f (v := .bool false) rfl rfl) ?_
    refine WL.ex rfl (ex_move (v := .bool false) rfl) ?_
    refine WL.guardNo rfl rfl rfl rfl ?_
    refine WL.guardNo rfl rfl rfl rfl ?_
    refine WL.ex rfl (ex_pick_f (v := .bool false) rfl rfl) ?_
    refine WL.ex rfl (ex_move (v := .bool false) rfl) ?_
    refine WL.guardNo rfl rfl rfl rfl ?_
    refine WL.guardNo rfl rfl rfl rfl ?_
    refine WL.ex rfl (ex_pick_f (v := .bool false) rfl rfl) ?_
    refine WL.ex rfl (ex_assign (v := .bool false) rfl) ?_
    refine WL.nil ?_
    refine WC.ret ?_
    obtain rfl := Option.some.inj H
    exact ⟨_, (.tmp (.bool false : Value) rfl .nil), _, rfl, HF.out⟩

/-! ### dictumlaw01_OctetWrites -/
set_option maxRecDepth 100000 in
theorem dictumlaw01_OctetWrites.calls (k : Nat) (o0 : Tags) (w0 : World) (pA0 : Option Addr) (pc0 : Nat) (a0 : (List T_dictumlaw01_Piece)) (r : Bool) (hO : ∀ b, b < w0.heap.size → o0 b < 10) (hra0 : Row T_dictumlaw01_Piece.rep (fun b_ => o0 b_ = 0) (fun b_ => o0 b_ = 0) w0 pA0 a0) (hla0 : a0.length ≤ pc0) (hG : Gl GG o0 w0) (H : dictumlaw01_OctetWrites.f k a0 = some r) :
    Calls Tryd.prog 3 [.slice pA0 a0.length pc0].toArray w0 fun e_ w_ => ∃ (o_ : Tags), e_ = .returned (one [.bool r]) ∧ Step o0 w0 o_ w_ [] := by
  have HF := Fm.refl hO []
  unfold dictumlaw01_OctetWrites.f at H
  refine SX.calls [.slice pA0 a0.length pc0] Tryd.func3 rfl rfl ?_
  rw [Tryd.ntmps3]
  refine WC.seq ?_
  refine WC.region ?_
  refine WL.ex rfl (ex_assign (v := .bool false) rfl) ?_
  refine WL.nil ?_
  refine WC.seq ?_
  refine WC.region ?_
  refine WL.ex rfl (ex_build (cs := [.slice none ([] : List UInt8).length 0]) [(0, 1)] [] [.slice none 0 0] Tryd.underlying26 zr26 rfl (by kernel_rfl) rfl rfl) ?_
  refine WL.op rfl ?_
  refine OW.box' [.slice none ([] : List UInt8).length 0] 10 HF rfl ((congrArg Value.cells (show ev _ _ = (.agg #[.slice none ([] : List UInt8).length 0] : Value) from rfl)).trans rfl) ?_
  intro o102 w103 b101 s104 hB105
  replace hra0 := hra0.step s104 rfl
  replace hG := hG.step s104 rfl
  replace HF := HF.step s104 rfl
  refine WL.ex rfl (ex_assign (v := .pointer (some ⟨b101, 0, none⟩)) rfl) ?_
  refine WL.nil ?_
  refine WC.seq ?_
  refine WC.region ?_
  refine WL.ex rfl (ex_assign (v := .slice none ([] : List UInt8).length 0) rfl) ?_
  refine WL.nil ?_
  refine WC.seq ?_
  refine WC.seq ?_
  refine WC.region ?_
  refine WL.ex rfl (ex_assign (v := .int .i64 0) rfl) ?_
  refine WL.nil ?_
  obtain ⟨z113, hz113, H⟩ := bindE H
  refine WC.for (fun k_ ρ_ w_ => ∃ (o_ : Tags) (x108 : (List UInt8)) (x109 : Int) (x110 : T_octet_Writer) (v106 : Value) (v111 : Value), Fm o0 w0 o_ w_ [] ∧ Row T_dictumlaw01_Piece.rep (fun b_ => o_ b_ = 0) (fun b_ => o_ b_ = 0) w_ pA0 a0 ∧ Own Rep.u8 5 13 o_ w_ v106 x108 ∧ Bk o_ w_ 10 b101 [v111] 26 ∧ Own Rep.u8 5 11 o_ w_ v111 x110.f_B ∧ Gl GG o_ w_ ∧ ρ_ 0 = .slice pA0 a0.length pc0 ∧ ρ_ 2 = .bool false ∧ ρ_ 3 = .pointer (some ⟨b101, 0, none⟩) ∧ ρ_ 4 = v106 ∧ ρ_ 5 = .int .i64 x109 ∧ dictumlaw01_OctetWrites.l1 k a0 k_ x108 x109 x110 = some z113) k (fun ρ_ w_ => ∃ (o_ : Tags), Fm o0 w0 o_ w_ [] ∧ Gl GG o_ w_ ∧ ρ_ 2 = .bool false ∧ z113 = .inr ()) ⟨_, ([] : List UInt8), 0, (⟨([] : List UInt8)⟩ : T_octet_Writer), _, _, HF, hra0, Own.nil, hB105, Own.nil, hG, rfl, rfl, rfl, rfl, rfl, hz113⟩ ?case114 ?_
  case case114 =>
    rintro ρ170 w168 ⟨o169, HF, hG, s2_112, rfl⟩
    dsimp only at H
    refine WC.seq ?_
    refine WC.region ?_
    obtain ⟨z171, hz171, H⟩ := bindE H
    refine WL.op rfl ?_
    refine OW.call [] rfl Tryd.func12 (by kernel_rfl) (by kernel_rfl) rfl (dictumlaw01_heads.calls k _ _ z171 (HF.ten (V := [0]) (L := []) rfl) (Gl.vw (V := [0]) (L := []) hG rfl) hz171) ?_
    rintro _ w172 ⟨o173, rfl, s174⟩
    refine ⟨_, rfl, ?_⟩
    replace s174 := un_stepL (J := []) (L' := []) s174 rfl rfl
    replace hG := hG.step s174 rfl
    replace HF := HF.step s174 rfl
    refine WL.ex rfl (ex_assign (v := .bool z171) rfl) ?_
    refine WL.nil ?_
    refine WC.ret ?_
    obtain rfl := Option.some.inj H
    exact ⟨_, (.tmp (.bool z171 : Value) rfl .nil), _, rfl, HF.out⟩
  have Ho115 := H
  rintro k116 ρ117 w118 ⟨o119, x108, x109, x110, v106, v111, HF, hra0, hO107, hB105, hO112, hG, s0_105, s2_105, s3_105, s4_108, s5_109, H⟩
  cases k116 with
  | zero => cases H
  | succ k116 =>
  rw [dictumlaw01_OctetWrites.l1.eq_2] at H
  refine WC.seq ?_
  refine WC.seq ?_
  refine WC.region ?_
  refine WL.ex rfl (ex_move (v := .int .i64 x109) s5_109) ?_
  refine WL.ex rfl (ex_move (v := .slice pA0 a0.length pc0) s0_105) ?_
  refine WL.ex rfl (ex_len_slice (A := pA0) (m := a0.length) (c := pc0) rfl Tryd.underlying22) ?_
  refine WL.ex rfl (ex_bin (a := .int .i64 x109) (b := .int .i64 (a0.length : Int)) (v := .bool (decide (x109 < (a0.length : Int)))) rfl rfl bin_lss) ?_
  refine WL.nil ?_
  rcases condE H with ⟨c120, H⟩ | ⟨c120, H⟩
  ·
    refine WC.cond_t ((show _ = Value.bool (decide (x109 < (a0.length : Int))) from rfl).trans (congrArg Value.bool c120)) ?_
    refine WC.skip ?_
    refine WC.seq ?_
    refine WC.block ?_
    refine WC.seq ?_
    refine WC.region ?_
    refine WL.ex rfl (ex_move (v := .pointer (some ⟨b101, 0, none⟩)) s3_105) ?_
    refine WL.ex rfl (ex_move (v := .slice pA0 a0.length pc0) s0_105) ?_
    refine WL.ex rfl (ex_move (v := .int .i64 x109) s5_109) ?_
    obtain ⟨x121, hx121, H⟩ := bindE H
    obtain ⟨ad122, cc126, e123, g124, g125, hl127, hR128, cell129⟩ := Row.ix hra0 hx121
    obtain rfl := T_dictumlaw01_Piece.opn hR128
    refine WL.ex rfl (ex_indexAddr (i := x109) rfl e123 rfl Tryd.underlying22 sz31 g124 g125) ?_
    refine WL.ex rfl (ex_loadN (cs := [.int .i64 x121.f_Kind, enc64 x121.f_N, encS x121.f_S]) rfl Tryd.underlying31 rfl sz31 cell129) ?_
    obtain ⟨z131, hz131, H⟩ := bindE H
    refine WL.op rfl ?_
    refine OW.call [.pointer (some ⟨b101, 0, none⟩), .agg #[.int .i64 x121.f_Kind, enc64 x121.f_N, encS x121.f_S]] rfl Tryd.func10 (by kernel_rfl) (by kernel_rfl) (map_cons' rfl (map_cons' rfl rfl)) (dictumlaw01_write.calls k _ _ b101 v111 x110 x121 z131 (HF.ten (V := [0]) (L := [10, 11]) rfl) (Bk.vw (V := [0]) (L := [10, 11]) hB105 rfl) (Own.vw (V := [0]) (L := [10, 11]) hO112 rfl rfl) (Gl.vw (V := [0]) (L := [10, 11]) hG rfl) hz131) ?_
    rintro _ w132 ⟨o133, v135, v138, rfl, s134, hO136, hB137, hO139⟩
    refine ⟨_, rfl, ?_⟩
    replace hO136 := Own.un9 (J := [11]) 0 hO136 rfl s134 rfl rfl
    replace hB137 := Bk.unO (J := [11]) 0 hB137 s134 rfl rfl rfl
    replace hO139 := Own.unO (J := [11]) 1 hO139 s134 rfl rfl rfl
    replace s134 := un_stepL (J := [11]) (L' := [10, 11]) s134 rfl rfl
    replace hra0 := hra0.step s134 rfl
    replace hO107 := hO107.step s134 rfl rfl
    replace hG := hG.step s134 rfl
    replace HF := HF.step s134 rfl
    refine WL.ex rfl (ex_move (v := .tuple #[v135, .int .i64 z131.2.1, .int .i64 z131.2.2.1]) rfl) ?_
    refine WL.ex rfl (ex_extract (vs := #[v135, .int .i64 z131.2.1, .int .i64 z131.2.2.1]) (v := v135) rfl rfl) ?_
    refine WL.ex rfl (ex_extract (vs := #[v135, .int .i64 z131.2.1, .int .i64 z131.2.2.1]) (v := .int .i64 z131.2.1) rfl rfl) ?_
    refine WL.ex rfl (ex_extract (vs := #[v135, .int .i64 z131.2.1, .int .i64 z131.2.2.1]) (v := .int .i64 z131.2.2.1) rfl rfl) ?_
    refine WL.ex rfl (ex_assign (v := v135) rfl) ?_
    refine WL.ex rfl (ex_assign (v := .int .i64 z131.2.1) rfl) ?_
    refine WL.ex rfl (ex_assign (v := .int .i64 z131.2.2.1) rfl) ?_
    refine WL.nil ?_
    refine WC.seq ?_
    refine WC.region ?_
    refine WL.ex rfl (ex_move (v := v106) s4_108) ?_
    refine WL.ex rfl (ex_move (v := v135) rfl) ?_
    obtain ⟨A140, c141, q142_, _, q142⟩ := hO136.row
    obtain ⟨u143, hu143, H⟩ := bindE H
    refine WL.op rfl ?_
    refine OW.append (r := Rep.u8) (E := 5) (i := 13) rfl Tryd.underlying24 inf5 rfl (by decide) (by decide) (by decide) rfl ((show _ = (v135 : Value) from rfl).trans q142_) hO107 q142 rfl (of_decide_eq_true (chk_true hu143)) ?_
    intro o144 w145 v146 s147 hO148
    replace hra0 := hra0.step s147 rfl
    replace hG := hG.step s147 rfl
    replace hO136 := hO136.step s147 rfl rfl
    replace hB137 := hB137.step s147 rfl
    replace hO139 := hO139.step s147 rfl rfl
    replace HF := HF.step s147 rfl
    refine WL.ex rfl (ex_assign (v := v146) rfl) ?_
    refine WL.nil ?_
    obtain ⟨z150, hz150, H⟩ := bindE H
    refine WC.cut (fun ρ_ w_ => ∃ (o_ : Tags), Fm o0 w0 o_ w_ [] ∧ Row T_dictumlaw01_Piece.rep (fun b_ => o_ b_ = 0) (fun b_ => o_ b_ = 0) w_ pA0 a0 ∧ Own Rep.u8 5 13 o_ w_ v146 (x108 ++ z131.1) ∧ Bk o_ w_ 10 b101 [v138] 26 ∧ Own Rep.u8 5 11 o_ w_ v138 z131.2.2.2.f_B ∧ Gl GG o_ w_ ∧ ρ_ 0 = .slice pA0 a0.length pc0 ∧ ρ_ 2 = .bool false ∧ ρ_ 3 = .pointer (some ⟨b101, 0, none⟩) ∧ ρ_ 4 = v146 ∧ ρ_ 5 = .int .i64 x109 ∧ ρ_ 41 = .bool z150) ?case151 ?_
    case case151 =>
      rintro ρ154 w152 ⟨o153, HF, hra0, hO148, hB137, hO139, hG, s0_148, s2_148, s3_148, s4_148, s5_148, s41_149⟩
      rcases condE H with ⟨c155, H⟩ | ⟨c155, H⟩
      ·
        refine WC.cond_t ((show _ = Value.bool z150 from s41_149).trans (congrArg Value.bool c155)) ?_
        refine WC.seq ?_
        refine WC.region ?_
        refine WL.ex rfl (ex_assign (v := .bool false) rfl) ?_
        refine WL.nil ?_
        refine WC.ret ?_
        obtain rfl := Option.some.inj H
        replace H := Ho115
        dsimp only at H
        obtain rfl := Option.some.inj H
        exact ⟨_, (.tmp (.bool false : Value) rfl .nil), _, rfl, HF.out⟩
      ·
        refine WC.cond_f ((show _ = Value.bool z150 from s41_149).trans (congrArg Value.bool c155)) ?_
        refine WC.skip ?_
        refine WC.region ?_
        refine WL.ex rfl (ex_move (v := .int .i64 x109) s5_148) ?_
        refine WL.ex rfl (ex_bin (a := .int .i64 x109) (b := .int .i64 1) (v := .int .i64 (wrap64 (x109 + 1))) rfl rfl bin_add64) ?_
        refine WL.ex rfl (ex_assign (v := .int .i64 (wrap64 (x109 + 1))) rfl) ?_
        refine WL.nil ?_
        exact ⟨k116, Nat.lt_succ_self _, ⟨_, (x108 ++ z131.1), wrap64 (x109 + 1), z131.2.2.2, _, _, HF, hra0, hO148, hB137, hO139, hG, s0_148, s2_148, s3_148, s4_148, rfl, H⟩⟩
    have Ho156 := H
    replace H := hz150
    refine WC.region ?_
    refine WL.ex rfl (ex_move (v := .int .i64 z131.2.1) rfl) ?_
    refine WL.ex rfl (ex_move (v := .int .i64 z131.2.2.1) rfl) ?_
    refine WL.ex rfl (ex_bin (a := .int .i64 z131.2.1) (b := .int .i64 z131.2.2.1) (v := .bool (z131.2.1 != z131.2.2.1)) rfl rfl bin_neq) ?_
    refine WL.ex rfl (ex_move (v := .bool (z131.2.1 != z131.2.2.1)) rfl) ?_
    rcases condE H with ⟨c157, H⟩ | ⟨c157, H⟩
    ·
      refine WL.guardNo rfl rfl rfl ((show _ = Value.bool (z131.2.1 != z131.2.2.1) from rfl).trans (congrArg Value.bool c157)) ?_
      refine WL.guardNo rfl rfl rfl ((show _ = Value.bool (z131.2.1 != z131.2.2.1) from rfl).trans (congrArg Value.bool c157)) ?_
      refine WL.guardNo rfl rfl rfl ((show _ = Value.bool (z131.2.1 != z131.2.2.1) from rfl).trans (congrArg Value.bool c157)) ?_
      refine WL.guardNo rfl rfl rfl ((show _ = Value.bool (z131.2.1 != z131.2.2.1) from rfl).trans (congrArg Value.bool c157)) ?_
      refine WL.guardNo rfl rfl rfl ((show _ = Value.bool (z131.2.1 != z131.2.2.1) from rfl).trans (congrArg Value.bool c157)) ?_
      refine WL.guardNo rfl rfl rfl ((show _ = Value.bool (z131.2.1 != z131.2.2.1) from rfl).trans (congrArg Value.bool c157)) ?_
      refine WL.guardNo rfl rfl rfl ((show _ = Value.bool (z131.2.1 != z131.2.2.1) from rfl).trans (congrArg Value.bool c157)) ?_
      refine WL.ex rfl (ex_pick_t (v := .bool true) ((show _ = Value.bool (z131.2.1 != z131.2.2.1) from rfl).trans (congrArg Value.bool c157)) rfl) ?_
      refine WL.nil ?_
      obtain rfl := Option.some.inj H
      exact ⟨_, HF, hra0, hO148, hB137, hO139, hG, s0_105, s2_105, s3_105, rfl, s5_109, rfl⟩
    ·
      refine WL.guardYes rfl rfl rfl ((show _ = Value.bool (z131.2.1 != z131.2.2.1) from rfl).trans (congrArg Value.bool c157)) ?_
      refine OW.ex rfl (ex_move (v := .pointer (some ⟨b101, 0, none⟩)) s3_105) ?_
      refine WL.guardYes rfl rfl rfl ((show _ = Value.bool (z131.2.1 != z131.2.2.1) from rfl).trans (congrArg Value.bool c157)) ?_
      refine OW.ex rfl (ex_nilCheck rfl) ?_
      refine WL.guardYes rfl rfl rfl ((show _ = Value.bool (z131.2.1 != z131.2.2.1) from rfl).trans (congrArg Value.bool c157)) ?_
      refine OW.ex rfl (ex_fieldAddr rfl Tryd.underlying26 rfl sz24) ?_
      refine WL.guardYes rfl rfl rfl ((show _ = Value.bool (z131.2.1 != z131.2.2.1) from rfl).trans (congrArg Value.bool c157)) ?_
      refine OW.ex rfl (ex_load1 (v := v138) rfl Tryd.underlying24 rfl (hB137.cell rfl)) ?_
      refine WL.guardYes rfl rfl rfl ((show _ = Value.bool (z131.2.1 != z131.2.2.1) from rfl).trans (congrArg Value.bool c157)) ?_
      refine OW.ex rfl (ex_move (v := v146) rfl) ?_
      refine WL.guardYes rfl rfl rfl ((show _ = Value.bool (z131.2.1 != z131.2.2.1) from rfl).trans (congrArg Value.bool c157)) ?_
      obtain ⟨A158, c159, q160e, q160l, q160⟩ := Own.vwRow (V := [0, 11, 13]) (L := []) hO139 rfl rfl
      obtain ⟨A161, c162, q163e, q163l, q163⟩ := Own.vwRow (V := [0, 11, 13]) (L := []) hO148 rfl rfl
      obtain ⟨z164, hz164, H⟩ := bindE H
      have q160e' := q160e
      have q163e' := q163e
      refine OW.call [v138, v146] rfl Tryd.func11 (by kernel_rfl) (by kernel_rfl) (map_cons' rfl (map_cons' rfl rfl)) (by simp only [q160e, q163e]; exact (dictumref01_Same.calls k _ _ A158 c159 A161 c162 z131.2.2.2.f_B (x108 ++ z131.1) z164 (HF.ten (V := [0, 11, 13]) (L := []) rfl) q160 q160l q163 q163l hz164)) ?_
      rintro _ w165 ⟨o166, rfl, s167⟩
      refine ⟨_, rfl, ?_⟩
      replace s167 := un_stepL (J := []) (L' := []) s167 rfl rfl
      replace hra0 := hra0.step s167 rfl
      replace hG := hG.step s167 rfl
      replace hO136 := hO136.step s167 rfl rfl
      replace hB137 := hB137.step s167 rfl
      replace hO139 := hO139.step s167 rfl rfl
      replace hO148 := hO148.step s167 rfl rfl
      replace HF := HF.step s167 rfl
      refine WL.guardYes rfl rfl rfl ((show _ = Value.bool (z131.2.1 != z131.2.2.1) from rfl).trans (congrArg Value.bool c157)) ?_
      refine OW.ex rfl (ex_not (b := z164) rfl) ?_
      refine WL.ex rfl (ex_pick_f (v := .bool (!z164)) ((show _ = Value.bool (z131.2.1 != z131.2.2.1) from rfl).trans (congrArg Value.bool c157)) rfl) ?_
      refine WL.nil ?_
      obtain rfl := Option.some.inj H
      exact ⟨_, HF, hra0, hO148, hB137, hO139, hG, s0_105, s2_105, s3_105, rfl, s5_109, rfl⟩
  ·
    refine WC.cond_f ((show _ = Value.bool (decide (x109 < (a0.length : Int))) from rfl).trans (congrArg Value.bool c120)) ?_
    refine WC.exit ?_
    obtain rfl := Option.some.inj H
    exact ⟨_, HF, hG, s2_105, rfl⟩
end Go.Proofs.YtaidlahjngmenaaDoor.X
