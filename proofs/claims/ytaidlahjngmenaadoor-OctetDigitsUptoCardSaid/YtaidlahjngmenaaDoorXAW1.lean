import Derived.Test.YtaidlahjngmenaaDoorXAW0
set_option maxRecDepth 20000
set_option linter.unusedVariables false
set_option linter.unusedSimpArgs false
set_option linter.unnecessarySimpa false
namespace Go.Proofs.YtaidlahjngmenaaDoor.X
open Go Go.RowKit Go.Proofs.YtaidlahjngmenaaDoor.SX
/-! ### octet_Open -/
set_option maxRecDepth 100000 in
theorem octet_Open.calls (k : Nat) (o0 : Tags) (w0 : World) (pA0 : Option Addr) (pc0 : Nat) (a0 : (List UInt8)) (r : (List UInt8) × Int) (hO : ∀ b, b < w0.heap.size → o0 b < 10) (hra0 : Row Rep.u8 (fun b_ => o0 b_ = 0) (fun b_ => o0 b_ = 0) w0 pA0 a0) (hla0 : a0.length ≤ pc0) (H : octet_Open.f k a0 = some r) :
    Calls Tryd.prog 17 [.slice pA0 a0.length pc0].toArray w0 fun e_ w_ => ∃ (o_ : Tags) (rv0 : Value), e_ = .returned (one [rv0, .int .i64 r.2]) ∧ Step o0 w0 o_ w_ [] ∧ Own Rep.u8 5 9 o_ w_ rv0 r.1 := by
  have HF := Fm.refl hO []
  unfold octet_Open.f at H
  refine SX.calls [.slice pA0 a0.length pc0] Tryd.func17 rfl rfl ?_
  rw [Tryd.ntmps17]
  refine WC.seq ?_
  refine WC.region ?_
  refine WL.ex rfl (ex_assign (v := .slice none ([] : List UInt8).length 0) rfl) ?_
  refine WL.ex rfl (ex_assign (v := .int .i64 0) rfl) ?_
  refine WL.nil ?_
  refine WC.seq ?_
  refine WC.region ?_
  refine WL.ex rfl (ex_move (v := .slice pA0 a0.length pc0) rfl) ?_
  refine WL.ex rfl (ex_len_slice (A := pA0) (m := a0.length) (c := pc0) rfl Tryd.underlying24) ?_
  refine WL.ex rfl (ex_bin (a := .int .i64 (a0.length : Int)) (b := .int .i64 4) (v := .int .i64 (wrap64 ((a0.length : Int) - 4))) rfl rfl bin_sub64) ?_
  refine WL.ex rfl (ex_assign (v := .int .i64 (wrap64 ((a0.length : Int) - 4))) rfl) ?_
  refine WL.nil ?_
  refine WC.seq ?_
  refine WC.seq ?_
  refine WC.region ?_
  refine WL.ex rfl (ex_move (v := .int .i64 (wrap64 ((a0.length : Int) - 4))) rfl) ?_
  refine WL.ex rfl (ex_bin (a := .int .i64 (wrap64 ((a0.length : Int) - 4))) (b := .int .i64 0) (v := .bool (decide ((wrap64 ((a0.length : Int) - 4)) < 0))) rfl rfl bin_lss) ?_
  refine WL.nil ?_
  rcases condE H with ⟨c101, H⟩ | ⟨c101, H⟩
  ·
    refine WC.cond_t ((show _ = Value.bool (decide ((wrap64 ((a0.length : Int) - 4)) < 0)) from rfl).trans (congrArg Value.bool c101)) ?_
    refine WC.seq ?_
    refine WC.region ?_
    refine WL.ex rfl (ex_assign (v := .slice none ([] : List UInt8).length 0) rfl) ?_
    refine WL.ex rfl (ex_assign (v := .int .i64 10) rfl) ?_
    refine WL.nil ?_
    refine WC.ret ?_
    obtain rfl := Option.some.inj H
    exact ⟨_, (.tmp (.slice none ([] : List UInt8).length 0 : Value) rfl (.tmp (.int .i64 10 : Value) rfl .nil)), _, (.slice none 0 0), rfl, HF.out, Own.nil⟩
  ·
    refine WC.cond_f ((show _ = Value.bool (decide ((wrap64 ((a0.length : Int) - 4)) < 0)) from rfl).trans (congrArg Value.bool c101)) ?_
    refine WC.skip ?_
    refine WC.seq ?_
    refine WC.seq ?_
    refine WC.region ?_
    refine WL.ex rfl (ex_move (v := .slice pA0 a0.length pc0) rfl) ?_
    refine WL.ex rfl (ex_move (v := .int .i64 (wrap64 ((a0.length : Int) - 4))) rfl) ?_
    obtain ⟨y102, hy102, H⟩ := bindE H
    have hr104 := Row.cut hra0 hla0 hy102
    obtain ⟨A105, el108⟩ : ∃ A_, A_ = subA pA0 pc0 (0 : Int).toNat 1 := ⟨_, rfl⟩
    rw [show subA pA0 pc0 (0 : Int).toNat Rep.u8.sz = A105 from el108.symm] at hr104
    have hl107 : y102.length ≤ pc0 - (0 : Int).toNat := cut_le hla0 hy102
    refine WL.ex rfl (ex_slice' (l := 0) (h := (wrap64 ((a0.length : Int) - 4))) rfl Tryd.underlying24 sz5 rfl ⟨_, rfl⟩ (cut_low hy102) (cut_mid hy102) (cut_cap hla0 hy102) el108 (cut_len hy102)) ?_
    obtain ⟨z109, hz109, H⟩ := bindE H
    refine WL.op rfl ?_
    refine OW.call [.slice A105 y102.length (pc0 - (0 : Int).toNat)] rfl Tryd.func13 (by kernel_rfl) (by kernel_rfl) (map_cons' rfl rfl) (octet_Seal.calls k _ _ A105 (pc0 - (0 : Int).toNat) y102 z109 (HF.ten (V := [0]) (L := []) rfl) (Row.vw (V := [0]) (L := []) hr104 rfl) hl107 hz109) ?_
    rintro _ w110 ⟨o111, v113, rfl, s112, hO114⟩
    refine ⟨_, rfl, ?_⟩
    replace hO114 := Own.un9 (J := [10]) 0 hO114 rfl s112 rfl rfl
    replace s112 := un_stepL (J := [10]) (L' := []) s112 rfl rfl
    replace hra0 := hra0.step s112 rfl
    replace hr104 := hr104.step s112 rfl
    replace HF := HF.step s112 rfl
    refine WL.ex rfl (ex_move (v := .slice pA0 a0.length pc0) rfl) ?_
    obtain ⟨A115, c116, q117e, q117l, q117⟩ := Own.vwRow (V := [0, 10]) (L := []) hO114 rfl rfl
    obtain ⟨z118, hz118, H⟩ := bindE H
    have q117e' := q117e
    refine WL.op rfl ?_
    refine OW.call [v113, .slice pA0 a0.length pc0] rfl Tryd.func42 (by kernel_rfl) (by kernel_rfl) (map_cons' rfl (map_cons' rfl rfl)) (by simp only [q117e]; exact (bytes_Equal.calls _ _ A115 c116 pA0 pc0 z109 a0 z118 (HF.ten (V := [0, 10]) (L := []) rfl) q117 q117l (Row.vw (V := [0, 10]) (L := []) hra0 rfl) hla0 hz118)) ?_
    rintro _ w119 ⟨o120, rfl, s121⟩
    refine ⟨_, rfl, ?_⟩
    replace s121 := un_stepL (J := []) (L' := []) s121 rfl rfl
    replace hra0 := hra0.step s121 rfl
    replace hr104 := hr104.step s121 rfl
    replace hO114 := hO114.step s121 rfl rfl
    replace HF := HF.step s121 rfl
    refine WL.ex rfl (ex_not (b := z118) rfl) ?_
    refine WL.nil ?_
    rcases condE H with ⟨c122, H⟩ | ⟨c122, H⟩
    ·
      refine WC.cond_t ((show _ = Value.bool (!z118) from rfl).trans (congrArg Value.bool c122)) ?_
      refine WC.seq ?_
      refine WC.region ?_
      refine WL.ex rfl (ex_assign (v := .slice none ([] : List UInt8).length 0) rfl) ?_
      refine WL.ex rfl (ex_assign (v := .int .i64 13) rfl) ?_
      refine WL.nil ?_
      refine WC.ret ?_
      obtain rfl := Option.some.inj H
      exact ⟨_, (.tmp (.slice none ([] : List UInt8).length 0 : Value) rfl (.tmp (.int .i64 13 : Value) rfl .nil)), _, (.slice none 0 0), rfl, HF.out, Own.nil⟩
    ·
      refine WC.cond_f ((show _ = Value.bool (!z118) from rfl).trans (congrArg Value.bool c122)) ?_
      refine WC.skip ?_
      refine WC.seq ?_
      refine WC.region ?_
      refine WL.ex rfl (ex_move (v := .slice pA0 a0.length pc0) rfl) ?_
      refine WL.ex rfl (ex_move (v := .int .i64 (wrap64 ((a0.length : Int) - 4))) rfl) ?_
      obtain ⟨y123, hy123, H⟩ := bindE H
      have hr125 := Row.cut hra0 hla0 hy123
      obtain ⟨A126, el129⟩ : ∃ A_, A_ = subA pA0 pc0 (0 : Int).toNat 1 := ⟨_, rfl⟩
      rw [show subA pA0 pc0 (0 : Int).toNat Rep.u8.sz = A126 from el129.symm] at hr125
      have hl128 : y123.length ≤ pc0 - (0 : Int).toNat := cut_le hla0 hy123
      refine WL.ex rfl (ex_slice' (l := 0) (h := (wrap64 ((a0.length : Int) - 4))) rfl Tryd.underlying24 sz5 rfl ⟨_, rfl⟩ (cut_low hy123) (cut_mid hy123) (cut_cap hla0 hy123) el129 (cut_len hy123)) ?_
      obtain ⟨z130, hz130, H⟩ := bindE H
      refine WL.op rfl ?_
      refine OW.call [.slice A126 y123.length (pc0 - (0 : Int).toNat)] rfl Tryd.func41 (by kernel_rfl) (by kernel_rfl) (map_cons' rfl rfl) (bytes_Clone.calls _ _ A126 (pc0 - (0 : Int).toNat) y123 z130 (HF.ten (V := [0]) (L := []) rfl) (Row.vw (V := [0]) (L := []) hr125 rfl) hl128 hz130) ?_
      rintro _ w131 ⟨o132, v134, rfl, s133, hO135⟩
      refine ⟨_, rfl, ?_⟩
      replace hO135 := Own.un9 (J := [11]) 0 hO135 rfl s133 rfl rfl
      replace s133 := un_stepL (J := [11]) (L' := []) s133 rfl rfl
      replace hra0 := hra0.step s133 rfl
      replace hr104 := hr104.step s133 rfl
      replace hO114 := hO114.step s133 rfl rfl
      replace hr125 := hr125.step s133 rfl
      replace HF := HF.step s133 rfl
      refine WL.ex rfl (ex_assign (v := v134) rfl) ?_
      refine WL.ex rfl (ex_assign (v := .int .i64 0) rfl) ?_
      refine WL.nil ?_
      refine WC.ret ?_
      obtain rfl := Option.some.inj H
      replace hO135 := Own.renTo (j := 9) hO135 rfl
      replace HF := HF.ren (i := 11) (j := 9) rfl
      exact ⟨_, (.tmp (v134 : Value) rfl (.tmp (.int .i64 0 : Value) rfl .nil)), _, v134, rfl, HF.out, hO135⟩

/-! ### octet_Reader_Left -/
set_option maxRecDepth 100000 in
theorem octet_Reader_Left.calls (o0 : Tags) (w0 : World) (pb0 : Nat) (pA0_1 : Option Addr) (pc0_1 : Nat) (a0 : T_octet_Reader) (r : Int) (hO : ∀ b, b < w0.heap.size → o0 b < 10) (hB0 : Bk o0 w0 2 pb0 [.bool a0.f_made, .slice pA0_1 a0.f_left.length pc0_1] 68) (hra0_1 : Row Rep.u8 (fun b_ => o0 b_ = 0) (fun b_ => o0 b_ = 0) w0 pA0_1 a0.f_left) (hla0_1 : a0.f_left.length ≤ pc0_1) (H : octet_Reader_Left.f a0 = some r) :
    Calls Tryd.prog 25 [.pointer (some ⟨pb0, 0, none⟩)].toArray w0 fun e_ w_ => ∃ (o_ : Tags), e_ = .returned (one [.int .i64 r]) ∧ Step o0 w0 o_ w_ [] := by
  have HF := Fm.refl hO []
  unfold octet_Reader_Left.f at H
  refine SX.calls [.pointer (some ⟨pb0, 0, none⟩)] Tryd.func25 rfl rfl ?_
  rw [Tryd.ntmps25]
  refine WC.seq ?_
  refine WC.region ?_
  refine WL.ex rfl (ex_assign (v := .int .i64 0) rfl) ?_
  refine WL.nil ?_
  refine WC.seq ?_
  refine WC.seq ?_
  refine WC.region ?_
  refine WL.ex rfl (ex_move (v := .pointer (some ⟨pb0, 0, none⟩)) rfl) ?_
  obtain ⟨z101, hz101, H⟩ := bindE H
  refine WL.op rfl ?_
  refine OW.call [.pointer (some ⟨pb0, 0, none⟩)] rfl Tryd.func43 (by kernel_rfl) (by kernel_rfl) (map_cons' rfl rfl) (octet_Reader_alive.calls _ _ pb0 pA0_1 pc0_1 a0 z101 (HF.ten (V := [0]) (L := [2]) rfl) (Bk.vw (V := [0]) (L := [2]) hB0 rfl) (Row.vw (V := [0]) (L := [2]) hra0_1 rfl) hla0_1 hz101) ?_
  rintro _ w102 ⟨o103, rfl, s104⟩
  refine ⟨_, rfl, ?_⟩
  replace s104 := un_stepL (J := []) (L' := []) s104 rfl rfl
  replace hra0_1 := hra0_1.step s104 rfl
  replace hB0 := hB0.step s104 rfl
  replace HF := HF.step s104 rfl
  refine WL.ex rfl (ex_not (b := z101) rfl) ?_
  refine WL.nil ?_
  rcases condE H with ⟨c105, H⟩ | ⟨c105, H⟩
  ·
    refine WC.cond_t ((show _ = Value.bool (!z101) from rfl).trans (congrArg Value.bool c105)) ?_
    refine WC.seq ?_
    refine WC.region ?_
    refine WL.ex rfl (ex_assign (v := .int .i64 0) rfl) ?_
    refine WL.nil ?_
    refine WC.ret ?_
    obtain rfl := Option.some.inj H
    exact ⟨_, (.tmp (.int .i64 0 : Value) rfl .nil), _, rfl, HF.out⟩
  ·
    refine WC.cond_f ((show _ = Value.bool (!z101) from rfl).trans (congrArg Value.bool c105)) ?_
    refine WC.skip ?_
    refine WC.seq ?_
    refine WC.region ?_
    refine WL.ex rfl (ex_move (v := .pointer (some ⟨pb0, 0, none⟩)) rfl) ?_
    refine WL.ex rfl (ex_nilCheck rfl) ?_
    refine WL.ex rfl (ex_fieldAddr rfl Tryd.underlying68 rfl sz24) ?_
    refine WL.ex rfl (ex_load1 (v := .slice pA0_1 a0.f_left.length pc0_1) rfl Tryd.underlying24 rfl (hB0.cell rfl)) ?_
    refine WL.ex rfl (ex_len_slice (A := pA0_1) (m := a0.f_left.length) (c := pc0_1) rfl Tryd.underlying24) ?_
    refine WL.ex rfl (ex_assign (v := .int .i64 (a0.f_left.length : Int)) rfl) ?_
    refine WL.nil ?_
    refine WC.ret ?_
    obtain rfl := Option.some.inj H
    exact ⟨_, (.tmp (.int .i64 (a0.f_left.length : Int) : Value) rfl .nil), _, rfl, HF.out⟩

/-! ### dictumlaw01_heads -/
set_option maxRecDepth 100000 in
theorem dictumlaw01_heads.calls (k : Nat) (o0 : Tags) (w0 : World) (r : Bool) (hO : ∀ b, b < w0.heap.size → o0 b < 10) (hG : Gl GG o0 w0) (H : dictumlaw01_heads.f k = some r) :
    Calls Tryd.prog 12 [].toArray w0 fun e_ w_ => ∃ (o_ : Tags), e_ = .returned (one [.bool r]) ∧ Step o0 w0 o_ w_ [] := by
  have HF := Fm.refl hO []
  unfold dictumlaw01_heads.f at H
  refine SX.calls [] Tryd.func12 rfl rfl ?_
  rw [Tryd.ntmps12]
  refine WC.seq ?_
  refine WC.region ?_
  refine WL.ex rfl (ex_assign (v := .bool false) rfl) ?_
  refine WL.nil ?_
  refine WC.seq ?_
  refine WC.region ?_
  refine WL.ex rfl (ex_build (cs := [.slice none ([] : List UInt8).length 0]) [(0, 1)] [] [.slice none 0 0] Tryd.underlying26 zr26 rfl (by kernel_rfl) rfl rfl) ?_
  refine WL.op rfl ?_
  refine OW.box' [.slice none ([] : List UInt8).length 0] 10 HF rfl ((congrArg Value.cells (show ev _ _ = (.agg #[.slice none ([] : List UInt8).length 0] : Value) from rfl)).trans rfl) ?_
  intro o102 w103 b101 s104 hB105
  replace hG := hG.step s104 rfl
  replace HF := HF.step s104 rfl
  refine WL.ex rfl (ex_assign (v := .pointer (some ⟨b101, 0, none⟩)) rfl) ?_
  refine WL.nil ?_
  refine WC.seq ?_
  refine WC.region ?_
  refine WL.ex rfl (ex_move (v := .pointer (some ⟨b101, 0, none⟩)) rfl) ?_
  obtain ⟨z106, hz106, H⟩ := bindE H
  refine WL.op rfl ?_
  refine OW.call [.pointer (some ⟨b101, 0, none⟩), enc8 (9 : UInt8)] rfl Tryd.func27 (by kernel_rfl) (by kernel_rfl) (map_cons' rfl (map_cons' rfl rfl)) (octet_Writer_U8.calls _ _ b101 (.slice none 0 0) (⟨([] : List UInt8)⟩ : T_octet_Writer) (9 : UInt8) z106 (HF.ten (V := [0]) (L := [10, 11]) rfl) (Bk.vw (V := [0]) (L := [10, 11]) hB105 rfl) (Own.nil) hz106) ?_
  rintro _ w107 ⟨o108, v111, rfl, s109, hB110, hO112⟩
  refine ⟨_, rfl, ?_⟩
  replace hB110 := Bk.unO (J := []) 0 hB110 s109 rfl rfl rfl
  replace hO112 := Own.unO (J := []) 1 hO112 s109 rfl rfl rfl
  replace s109 := un_stepL (J := []) (L' := [10, 11]) s109 rfl rfl
  replace hG := hG.step s109 rfl
  replace HF := HF.step s109 rfl
  refine WL.nil ?_
  refine WC.seq ?_
  refine WC.region ?_
  refine WL.ex rfl (ex_move (v := .pointer (some ⟨b101, 0, none⟩)) rfl) ?_
  obtain ⟨z113, hz113, H⟩ := bindE H
  refine WL.op rfl ?_
  refine OW.call [.pointer (some ⟨b101, 0, none⟩), enc64 (300 : UInt64)] rfl Tryd.func28 (by kernel_rfl) (by kernel_rfl) (map_cons' rfl (map_cons' rfl rfl)) (octet_Writer_Num.calls k _ _ b101 v111 z106 (300 : UInt64) z113 (HF.ten (V := [0]) (L := [10, 11]) rfl) (Bk.vw (V := [0]) (L := [10, 11]) hB110 rfl) (Own.vw (V := [0]) (L := [10, 11]) hO112 rfl rfl) hz113) ?_
  rintro _ w114 ⟨o115, v118, rfl, s116, hB117, hO119⟩
  refine ⟨_, rfl, ?_⟩
  replace hB117 := Bk.unO (J := []) 0 hB117 s116 rfl rfl rfl
  replace hO119 := Own.unO (J := []) 1 hO119 s116 rfl rfl rfl
  replace s116 := un_stepL (J := []) (L' := [10, 11]) s116 rfl rfl
  replace hG := hG.step s116 rfl
  replace HF := HF.step s116 rfl
  refine WL.nil ?_
  refine WC.seq ?_
  refine WC.region ?_
  refine WL.ex rfl (ex_move (v := .pointer (some ⟨b101, 0, none⟩)) rfl) ?_
  obtain ⟨z120, hz120, H⟩ := bindE H
  refine WL.op rfl ?_
  refine OW.call [.pointer (some ⟨b101, 0, none⟩), encS ([112] : List UInt8)] rfl Tryd.func29 (by kernel_rfl) (by kernel_rfl) (map_cons' rfl (map_cons' rfl rfl)) (octet_Writer_Text.calls k _ _ b101 v118 z113 ([112] : List UInt8) z120 (HF.ten (V := [0]) (L := [10, 11]) rfl) (Bk.vw (V := [0]) (L := [10, 11]) hB117 rfl) (Own.vw (V := [0]) (L := [10, 11]) hO119 rfl rfl) (Gl.vw (V := [0]) (L := [10, 11]) hG rfl) hz120) ?_
  rintro _ w121 ⟨o122, v125, rfl, s123, hB124, hO126⟩
  refine ⟨_, rfl, ?_⟩
  replace hB124 := Bk.unO (J := []) 0 hB124 s123 rfl rfl rfl
  replace hO126 := Own.unO (J := []) 1 hO126 s123 rfl rfl rfl
  replace s123 := un_stepL (J := []) (L' := [10, 11]) s123 rfl rfl
  replace hG := hG.step s123 rfl
  replace HF := HF.step s123 rfl
  refine WL.ex rfl (ex_assign (v := .int .i64 z120.1) rfl) ?_
  refine WL.nil ?_
  refine WC.seq ?_
  refine WC.region ?_
  refine WL.op rfl ?_
  refine OW.row (r := Rep.u8) (xs := [(172 : UInt8), (130 : UInt8), (0 : UInt8)]) [(0, enc8 (172 : UInt8)), (1, enc8 (130 : UInt8)), (2, enc8 (0 : UInt8))] [[enc8 (172 : UInt8)], [enc8 (130 : UInt8)], [enc8 (0 : UInt8)]] 12 HF rfl Tryd.underlying24 sz5 zr5 rfl (evs_cons rfl (evs_cons rfl (evs_cons rfl rfl))) rfl rfl ⟨rfl, rfl, rfl, trivial⟩ rfl rfl rfl rfl ?_
  intro o127 w128 v130 s129 hO131
  replace hG := hG.step s129 rfl
  replace hB124 := hB124.step s129 rfl
  replace hO126 := hO126.step s129 rfl rfl
  replace HF := HF.step s129 rfl
  obtain ⟨A132, c133, q134e, q134l, q134⟩ := Own.vwRow (V := [0, 12]) (L := []) hO131 rfl rfl
  obtain ⟨z135, hz135, H⟩ := bindE H
  have q134e' := q134e
  refine WL.op rfl ?_
  refine OW.call [v130] rfl Tryd.func19 (by kernel_rfl) (by kernel_rfl) (map_cons' rfl rfl) (by simp only [q134e]; exact (octet_NewReader.calls _ _ A132 c133 [(172 : UInt8), (130 : UInt8), (0 : UInt8)] z135 (HF.ten (V := [0, 12]) (L := []) rfl) q134 q134l hz135)) ?_
  rintro _ w136 ⟨o137, b139, v141, rfl, s138, hB140, hO142⟩
  refine ⟨_, rfl, ?_⟩
  replace hB140 := Bk.un9 (J := [13, 14]) 0 hB140 rfl s138 rfl rfl
  replace hO142 := Own.un9f (J := [13, 14]) 1 (fun h => h) hO142 rfl s138 rfl rfl
  replace s138 := un_stepL (J := [13, 14]) (L' := []) s138 rfl rfl
  replace hG := hG.step s138 rfl
  replace hB124 := hB124.step s138 rfl
  replace hO126 := hO126.step s138 rfl rfl
  replace hO131 := hO131.step s138 rfl rfl
  replace HF := HF.step s138 rfl
  refine WL.ex rfl (ex_assign (v := .pointer (some ⟨b139, 0, none⟩)) rfl) ?_
  refine WL.nil ?_
  refine WC.seq ?_
  refine WC.region ?_
  refine WL.ex rfl (ex_move (v := .pointer (some ⟨b139, 0, none⟩)) rfl) ?_
  obtain ⟨A143, c144, rfl, hl145, hr146⟩ := hO142.pubRow
  replace hG := hG.pub 14
  replace hB124 := hB124.pub 14 rfl
  replace hO126 := hO126.pub 14 rfl
  replace hO131 := hO131.pub 14 rfl
  replace hB140 := hB140.pub 14 rfl
  replace HF := HF.pub 14 rfl
  obtain ⟨z147, hz147, H⟩ := bindE H
  refine WL.op rfl ?_
  refine OW.call [.pointer (some ⟨b139, 0, none⟩)] rfl Tryd.func21 (by kernel_rfl) (by kernel_rfl) (map_cons' rfl rfl) (octet_Reader_Num.calls k _ _ b139 A143 c144 z135 z147 (HF.ten (V := [0]) (L := [13]) rfl) (Bk.vw (V := [0]) (L := [13]) hB140 rfl) (Row.vw (V := [0]) (L := [13]) hr146 rfl) hl145 hz147) ?_
  rintro _ w148 ⟨o149, A152, c153, rfl, s150, hB151, hl154, hr155⟩
  refine ⟨_, rfl, ?_⟩
  replace hB151 := Bk.unO (J := []) 0 hB151 s150 rfl rfl rfl
  replace hr155 := hr155.un (J := []) s150
  replace s150 := un_stepL (J := []) (L' := [13]) s150 rfl rfl
  replace hG := hG.step s150 rfl
  replace hB124 := hB124.step s150 rfl
  replace hO126 := hO126.step s150 rfl rfl
  replace hO131 := hO131.step s150 rfl rfl
  replace hr146 := hr146.step s150 rfl
  replace HF := HF.step s150 rfl
  refine WL.ex rfl (ex_move (v := .tuple #[enc64 z147.1, .int .i64 z147.2.1]) rfl) ?_
  refine WL.ex rfl (ex_extract (vs := #[enc64 z147.1, .int .i64 z147.2.1]) (v := enc64 z147.1) rfl rfl) ?_
  refine WL.ex rfl (ex_extract (vs := #[enc64 z147.1, .int .i64 z147.2.1]) (v := .int .i64 z147.2.1) rfl rfl) ?_
  refine WL.ex rfl (ex_assign (v := enc64 z147.1) rfl) ?_
  refine WL.ex rfl (ex_assign (v := .int .i64 z147.2.1) rfl) ?_
  refine WL.nil ?_
  refine WC.seq ?_
  refine WC.region ?_
  refine WL.op rfl ?_
  refine OW.row (r := Rep.u8) (xs := [(5 : UInt8)]) [(0, enc8 (5 : UInt8))] [[enc8 (5 : UInt8)]] 15 HF rfl Tryd.underlying24 sz5 zr5 rfl (evs_cons rfl rfl) rfl rfl ⟨rfl, trivial⟩ rfl rfl rfl rfl ?_
  intro o156 w157 v159 s158 hO160
  replace hG := hG.step s158 rfl
  replace hB124 := hB124.step s158 rfl
  replace hO126 := hO126.step s158 rfl rfl
  replace hO131 := hO131.step s158 rfl rfl
  replace hr146 := hr146.step s158 rfl
  replace hB151 := hB151.step s158 rfl
  replace hr155 := hr155.step s158 rfl
  replace HF := HF.step s158 rfl
  obtain ⟨A161, c162, q163e, q163l, q163⟩ := Own.vwRow (V := [0, 15]) (L := []) hO160 rfl rfl
  obtain ⟨z164, hz164, H⟩ := bindE H
  have q163e' := q163e
  refine WL.op rfl ?_
  refine OW.call [v159] rfl Tryd.func13 (by kernel_rfl) (by kernel_rfl) (map_cons' rfl rfl) (by simp only [q163e]; exact (octet_Seal.calls k _ _ A161 c162 [(5 : UInt8)] z164 (HF.ten (V := [0, 15]) (L := []) rfl) q163 q163l hz164)) ?_
  rintro _ w165 ⟨o166, v168, rfl, s167, hO169⟩
  refine ⟨_, rfl, ?_⟩
  replace hO169 := Own.un9f (J := [16]) 0 (fun h => h) hO169 rfl s167 rfl rfl
  replace s167 := un_stepL (J := [16]) (L' := []) s167 rfl rfl
  replace hG := hG.step s167 rfl
  replace hB124 := hB124.step s167 rfl
  replace hO126 := hO126.step s167 rfl rfl
  replace hO131 := hO131.step s167 rfl rfl
  replace hr146 := hr146.step s167 rfl
  replace hB151 := hB151.step s167 rfl
  replace hr155 := hr155.step s167 rfl
  replace hO160 := hO160.step s167 rfl rfl
  replace HF := HF.step s167 rfl
  obtain ⟨A170, c171, q172e, q172l, q172⟩ := Own.vwRow (V := [0, 16]) (L := []) hO169 rfl rfl
  obtain ⟨z173, hz173, H⟩ := bindE H
  have q172e' := q172e
  refine WL.op rfl ?_
  refine OW.call [v168] rfl Tryd.func17 (by kernel_rfl) (by kernel_rfl) (map_cons' rfl rfl) (by simp only [q172e]; exact (octet_Open.calls k _ _ A170 c171 z164 z173 (HF.ten (V := [0, 16]) (L := []) rfl) q172 q172l hz173)) ?_
  rintro _ w174 ⟨o175, v177, rfl, s176, hO178⟩
  refine ⟨_, rfl, ?_⟩
  replace hO178 := Own.un9f (J := [17]) 0 (fun h => h) hO178 rfl s176 rfl rfl
  replace s176 := un_stepL (J := [17]) (L' := []) s176 rfl rfl
  replace hG := hG.step s176 rfl
  replace hB124 := hB124.step s176 rfl
  replace hO126 := hO126.step s176 rfl rfl
  replace hO131 := hO131.step s176 rfl rfl
  replace hr146 := hr146.step s176 rfl
  replace hB151 := hB151.step s176 rfl
  replace hr155 := hr155.step s176 rfl
  replace hO160 := hO160.step s176 rfl rfl
  replace hO169 := hO169.step s176 rfl rfl
  replace HF := HF.step s176 rfl
  refine WL.ex rfl (ex_move (v := .tuple #[v177, .int .i64 z173.2]) rfl) ?_
  refine WL.ex rfl (ex_extract (vs := #[v177, .int .i64 z173.2]) (v := v177) rfl rfl) ?_
  refine WL.ex rfl (ex_extract (vs := #[v177, .int .i64 z173.2]) (v := .int .i64 z173.2) rfl rfl) ?_
  refine WL.ex rfl (ex_assign (v := v177) rfl) ?_
  refine WL.ex rfl (ex_assign (v := .int .i64 z173.2) rfl) ?_
  refine WL.nil ?_
  refine WC.seq ?_
  refine WC.region ?_
  obtain ⟨z179, hz179, H⟩ := bindE H
  refine WL.op rfl ?_
  refine OW.call [encS ([49, 50] : List UInt8), .int .i64 12] rfl Tryd.func34 (by kernel_rfl) (by kernel_rfl) (map_cons' rfl (map_cons' rfl rfl)) (octet_Undec.calls _ _ ([49, 50] : List UInt8) 12 z179 (HF.ten (V := [0]) (L := []) rfl) (Gl.vw (V := [0]) (L := []) hG rfl) hz179) ?_
  rintro _ w180 ⟨o181, rfl, s182⟩
  refine ⟨_, rfl, ?_⟩
  replace s182 := un_stepL (J := []) (L' := []) s182 rfl rfl
  replace hG := hG.step s182 rfl
  replace hB124 := hB124.step s182 rfl
  replace hO126 := hO126.step s182 rfl rfl
  replace hO131 := hO131.step s182 rfl rfl
  replace hr146 := hr146.step s182 rfl
  replace hB151 := hB151.step s182 rfl
  replace hr155 := hr155.step s182 rfl
  replace hO160 := hO160.step s182 rfl rfl
  replace hO169 := hO169.step s182 rfl rfl
  replace hO178 := hO178.step s182 rfl rfl
  replace HF := HF.step s182 rfl
  refine WL.ex rfl (ex_move (v := .tuple #[.int .i64 z179.1, .int .i64 z179.2]) rfl) ?_
  refine WL.ex rfl (ex_extract (vs := #[.int .i64 z179.1, .int .i64 z179.2]) (v := .int .i64 z179.1) rfl rfl) ?_
  refine WL.ex rfl (ex_extract (vs := #[.int .i64 z179.1, .int .i64 z179.2]) (v := .int .i64 z179.2) rfl rfl) ?_
  refine WL.ex rfl (ex_assign (v := .int .i64 z179.1) rfl) ?_
  refine WL.ex rfl (ex_assign (v := .int .i64 z179.2) rfl) ?_
  refine WL.nil ?_
  refine WC.seq ?_
  refine WC.region ?_
  refine WL.ex rfl (ex_move (v := .int .i64 z120.1) rfl) ?_
  refine WL.ex rfl (ex_bin (a := .int .i64 z120.1) (b := .int .i64 0) (v := .bool (z120.1 == 0)) rfl rfl bin_eql) ?_
  refine WL.ex rfl (ex_move (v := .bool (z120.1 == 0)) rfl) ?_
  rcases condE H with ⟨c183, H⟩ | ⟨c183, H⟩
  ·
    refine WL.guardYes rfl rfl rfl ((show _ = Value.bool (z120.1 == 0) from rfl).trans (congrArg Value.bool c183)) ?_
    refine OW.ex rfl (ex_move (v := .pointer (some ⟨b101, 0, none⟩)) rfl) ?_
    refine WL.guardYes rfl rfl rfl ((show _ = Value.bool (z120.1 == 0) from rfl).trans (congrArg Value.bool c183)) ?_
    refine OW.ex rfl (ex_nilCheck rfl) ?_
    refine WL.guardYes rfl rfl rfl ((show _ = Value.bool (z120.1 == 0) from rfl).trans (congrArg Value.bool c183)) ?_
    refine OW.ex rfl (ex_fieldAddr rfl Tryd.underlying26 rfl sz24) ?_
    refine WL.guardYes rfl rfl rfl ((show _ = Value.bool (z120.1 == 0) from rfl).trans (congrArg Value.bool c183)) ?_
    refine OW.ex rfl (ex_load1 (v := v125) rfl Tryd.underlying24 rfl (hB124.cell rfl)) ?_
    refine WL.guardYes rfl rfl rfl ((show _ = Value.bool (z120.1 == 0) from rfl).trans (congrArg Value.bool c183)) ?_
    refine OW.row (r := Rep.u8) (xs := [(9 : UInt8), (172 : UInt8), (2 : UInt8), (1 : UInt8), (112 : UInt8)]) [(0, enc8 (9 : UInt8)), (1, enc8 (172 : UInt8)), (2, enc8 (2 : UInt8)), (3, enc8 (1 : UInt8)), (4, enc8 (112 : UInt8))] [[enc8 (9 : UInt8)], [enc8 (172 : UInt8)], [enc8 (2 : UInt8)], [enc8 (1 : UInt8)], [enc8 (112 : UInt8)]] 18 HF rfl Tryd.underlying24 sz5 zr5 rfl (evs_cons rfl (evs_cons rfl (evs_cons rfl (evs_cons rfl (evs_cons rfl rfl))))) rfl rfl ⟨rfl, rfl, rfl, rfl, rfl, trivial⟩ rfl rfl rfl rfl ?_
    intro o184 w185 v187 s186 hO188
    replace hG := hG.step s186 rfl
    replace hB124 := hB124.step s186 rfl
    replace hO126 := hO126.step s186 rfl rfl
    replace hO131 := hO131.step s186 rfl rfl
    replace hr146 := hr146.step s186 rfl
    replace hB151 := hB151.step s186 rfl
    replace hr155 := hr155.step s186 rfl
    replace hO160 := hO160.step s186 rfl rfl
    replace hO169 := hO169.step s186 rfl rfl
    replace hO178 := hO178.step s186 rfl rfl
    replace HF := HF.step s186 rfl
    refine WL.guardYes rfl rfl rfl ((show _ = Value.bool (z120.1 == 0) from rfl).trans (congrArg Value.bool c183)) ?_
    obtain ⟨A189, c190, q191e, q191l, q191⟩ := Own.vwRow (V := [0, 11, 18]) (L := []) hO126 rfl rfl
    obtain ⟨A192, c193, q194e, q194l, q194⟩ := Own.vwRow (V := [0, 11, 18]) (L := []) hO188 rfl rfl
    obtain ⟨z195, hz195, H⟩ := bindE H
    have q191e' := q191e
    have q194e' := q194e
    refine OW.call [v125, v187] rfl Tryd.func11 (by kernel_rfl) (by kernel_rfl) (map_cons' rfl (map_cons' rfl rfl)) (by simp only [q191e, q194e]; exact (dictumref01_Same.calls k _ _ A189 c190 A192 c193 z120.2.f_B [(9 : UInt8), (172 : UInt8), (2 : UInt8), (1 : UInt8), (112 : UInt8)] z195 (HF.ten (V := [0, 11, 18]) (L := []) rfl) q191 q191l q194 q194l hz195)) ?_
    rintro _ w196 ⟨o197, rfl, s198⟩
    refine ⟨_, rfl, ?_⟩
    replace s198 := un_stepL (J := []) (L' := []) s198 rfl rfl
    replace hG := hG.step s198 rfl
    replace hB124 := hB124.step s198 rfl
    replace hO126 := hO126.step s198 rfl rfl
    replace hO131 := hO131.step s198 rfl rfl
    replace hr146 := hr146.step s198 rfl
    replace hB151 := hB151.step s198 rfl
    replace hr155 := hr155.step s198 rfl
    replace hO160 := hO160.step s198 rfl rfl
    replace hO169 := hO169.step s198 rfl rfl
    replace hO178 := hO178.step s198 rfl rfl
    replace hO188 := hO188.step s198 rfl rfl
    replace HF := HF.step s198 rfl
    refine WL.ex rfl (ex_pick_t (v := .bool z195) ((show _ = Value.bool (z120.1 == 0) from rfl).trans (congrArg Value.bool c183)) rfl) ?_
    refine WL.ex rfl (ex_move (v := .bool z195) rfl) ?_
    rcases condE H with ⟨c199, H⟩ | ⟨c199, H⟩
    ·
      refine WL.guardYes rfl rfl rfl ((show _ = Value.bool z195 from rfl).trans (congrArg Value.bool c199)) ?_
      refine OW.ex rfl (ex_move (v := .int .i64 z147.2.1) rfl) ?_
      refine WL.guardYes rfl rfl rfl ((show _ = Value.bool z195 from rfl).trans (congrArg Value.bool c199)) ?_
      refine OW.ex rfl (ex_bin (a := .int .i64 z147.2.1) (b := .int .i64 11) (v := .bool (z147.2.1 == 11)) rfl rfl bin_eql) ?_
      refine WL.ex rfl (ex_pick_t (v := .bool (z147.2.1 == 11)) ((show _ = Value.bool z195 from rfl).trans (congrArg Value.bool c199)) rfl) ?_
      refine WL.ex rfl (ex_move (v := .bool (z147.2.1 == 11)) rfl) ?_
      rcases condE H with ⟨c200, H⟩ | ⟨c200, H⟩
      ·
        refine WL.guardYes rfl rfl rfl ((show _ = Value.bool (z147.2.1 == 11) from rfl).trans (congrArg Value.bool c200)) ?_
        refine OW.ex rfl (ex_move (v := .pointer (some ⟨b139, 0, none⟩)) rfl) ?_
        refine WL.guardYes rfl rfl rfl ((show _ = Value.bool (z147.2.1 == 11) from rfl).trans (congrArg Value.bool c200)) ?_
        obtain ⟨z201, hz201, H⟩ := bindE H
        refine OW.call [.pointer (some ⟨b139, 0, none⟩)] rfl Tryd.func25 (by kernel_rfl) (by kernel_rfl) (map_cons' rfl rfl) (octet_Reader_Left.calls _ _ b139 A152 c153 z147.2.2 z201 (HF.ten (V := [0]) (L := [13]) rfl) (Bk.vw (V := [0]) (L := [13]) hB151 rfl) (Row.vw (V := [0]) (L := [13]) hr155 rfl) hl154 hz201) ?_
        rintro _ w202 ⟨o203, rfl, s204⟩
        refine ⟨_, rfl, ?_⟩
        replace s204 := un_stepL (J := []) (L' := []) s204 rfl rfl
        replace hG := hG.step s204 rfl
        replace hB124 := hB124.step s204 rfl
        replace hO126 := hO126.step s204 rfl rfl
        replace hO131 := hO131.step s204 rfl rfl
        replace hr146 := hr146.step s204 rfl
        replace hB151 := hB151.step s204 rfl
        replace hr155 := hr155.step s204 rfl
        replace hO160 := hO160.step s204 rfl rfl
        replace hO169 := hO169.step s204 rfl rfl
        replace hO178 := hO178.step s204 rfl rfl
        replace hO188 := hO188.step s204 rfl rfl
        replace HF := HF.step s204 rfl
        refine WL.guardYes rfl rfl rfl ((show _ = Value.bool (z147.2.1 == 11) from rfl).trans (congrArg Value.bool c200)) ?_
        refine OW.ex rfl (ex_bin (a := .int .i64 z201) (b := .int .i64 3) (v := .bool (z201 == 3)) rfl rfl bin_eql) ?_
        refine WL.ex rfl (ex_pick_t (v := .bool (z201 == 3)) ((show _ = Value.bool (z147.2.1 == 11) from rfl).trans (congrArg Value.bool c200)) rfl) ?_
        refine WL.ex rfl (ex_move (v := .bool (z201 == 3)) rfl) ?_
        rcases condE H with ⟨c205, H⟩ | ⟨c205, H⟩
        ·
          refine WL.guardYes rfl rfl rfl ((show _ = Value.bool (z201 == 3) from rfl).trans (congrArg Value.bool c205)) ?_
          refine OW.row (r := Rep.u8) (xs := [(49 : UInt8), (50 : UInt8), (51 : UInt8), (52 : UInt8)]) [(0, enc8 (49 : UInt8)), (1, enc8 (50 : UInt8)), (2, enc8 (51 : UInt8)), (3, enc8 (52 : UInt8))] [[enc8 (49 : UInt8)], [enc8 (50 : UInt8)], [enc8 (51 : UInt8)], [enc8 (52 : UInt8)]] 19 HF rfl Tryd.underlying24 sz5 zr5 rfl (evs_cons rfl (evs_cons rfl (evs_cons rfl (evs_cons rfl rfl)))) rfl rfl ⟨rfl, rfl, rfl, rfl, trivial⟩ rfl rfl rfl rfl ?_
          intro o206 w207 v209 s208 hO210
          replace hG := hG.step s208 rfl
          replace hB124 := hB124.step s208 rfl
          replace hO126 := hO126.step s208 rfl rfl
          replace hO131 := hO131.step s208 rfl rfl
          replace hr146 := hr146.step s208 rfl
          replace hB151 := hB151.step s208 rfl
          replace hr155 := hr155.step s208 rfl
          replace hO160 := hO160.step s208 rfl rfl
          replace hO169 := hO169.step s208 rfl rfl
          replace hO178 := hO178.step s208 rfl rfl
          replace hO188 := hO188.step s208 rfl rfl
          replace HF := HF.step s208 rfl
          refine WL.guardYes rfl rfl rfl ((show _ = Value.bool (z201 == 3) from rfl).trans (congrArg Value.bool c205)) ?_
          refine OW.convBytes (r := Rep.u8) rfl rfl Tryd.underlying24 Tryd.underlying5 hO210 rfl (by decide) ?_
          intro w211 A212 c213 s214 hl215 hr216
          replace hG := hG.step s214 rfl
          replace hB124 := hB124.step s214 rfl
          replace hO126 := hO126.step s214 rfl rfl
          replace hO131 := hO131.step s214 rfl rfl
          replace hr146 := hr146.step s214 rfl
          replace hB151 := hB151.step s214 rfl
          replace hr155 := hr155.step s214 rfl
          replace hO160 := hO160.step s214 rfl rfl
          replace hO169 := hO169.step s214 rfl rfl
          replace hO178 := hO178.step s214 rfl rfl
          replace hO188 := hO188.step s214 rfl rfl
          replace HF := HF.step s214 rfl
          replace hG := hG.pub 19
          replace hB124 := hB124.pub 19 rfl
          replace hO126 := hO126.pub 19 rfl
          replace hO131 := hO131.pub 19 rfl
          replace hr146 := hr146.pub 19
          replace hB151 := hB151.pub 19 rfl
          replace hr155 := hr155.pub 19
          replace hO160 := hO160.pub 19 rfl
          replace hO169 := hO169.pub 19 rfl
          replace hO178 := hO178.pub 19 rfl
          replace hO188 := hO188.pub 19 rfl
          replace HF := HF.pub 19 rfl
          replace hr216 := Row.pubOf hr216
          refine WL.guardYes rfl rfl rfl ((show _ = Value.bool (z201 == 3) from rfl).trans (congrArg Value.bool c205)) ?_
          refine OW.row (r := Rep.u8) (xs := [(53 : UInt8), (54 : UInt8), (55 : UInt8), (56 : UInt8), (57 : UInt8)]) [(0, enc8 (53 : UInt8)), (1, enc8 (54 : UInt8)), (2, enc8 (55 : UInt8)), (3, enc8 (56 : UInt8)), (4, enc8 (57 : UInt8))] [[enc8 (53 : UInt8)], [enc8 (54 : UInt8)], [enc8 (55 : UInt8)], [enc8 (56 : UInt8)], [enc8 (57 : UInt8)]] 20 HF rfl Tryd.underlying24 sz5 zr5 rfl (evs_cons rfl (evs_cons rfl (evs_cons rfl (evs_cons rfl (evs_cons rfl rfl))))) rfl rfl ⟨rfl, rfl, rfl, rfl, rfl, trivial⟩ rfl rfl rfl rfl ?_
          intro o217 w218 v220 s219 hO221
          replace hG := hG.step s219 rfl
          replace hB124 := hB124.step s219 rfl
          replace hO126 := hO126.step s219 rfl rfl
          replace hO131 := hO131.step s219 rfl rfl
          replace hr146 := hr146.step s219 rfl
          replace hB151 := hB151.step s219 rfl
          replace hr155 := hr155.step s219 rfl
          replace hO160 := hO160.step s219 rfl rfl
          replace hO169 := hO169.step s219 rfl rfl
          replace hO178 := hO178.step s219 rfl rfl
          replace hO188 := hO188.step s219 rfl rfl
          replace hr216 := hr216.step s219 rfl
          replace HF := HF.step s219 rfl
          refine WL.guardYes rfl rfl rfl ((show _ = Value.bool (z201 == 3) from rfl).trans (congrArg Value.bool c205)) ?_
          refine OW.convBytes (r := Rep.u8) rfl rfl Tryd.underlying24 Tryd.underlying5 hO221 rfl (by decide) ?_
          intro w222 A223 c224 s225 hl226 hr227
          replace hG := hG.step s225 rfl
          replace hB124 := hB124.step s225 rfl
          replace hO126 := hO126.step s225 rfl rfl
          replace hO131 := hO131.step s225 rfl rfl
          replace hr146 := hr146.step s225 rfl
          replace hB151 := hB151.step s225 rfl
          replace hr155 := hr155.step s225 rfl
          replace hO160 := hO160.step s225 rfl rfl
          replace hO169 := hO169.step s225 rfl rfl
          replace hO178 := hO178.step s225 rfl rfl
          replace hO188 := hO188.step s225 rfl rfl
          replace hr216 := hr216.step s225 rfl
          replace HF := HF.step s225 rfl
          replace hG := hG.pub 20
          replace hB124 := hB124.pub 20 rfl
          replace hO126 := hO126.pub 20 rfl
          replace hO131 := hO131.pub 20 rfl
          replace hr146 := hr146.pub 20
          replace hB151 := hB151.pub 20 rfl
          replace hr155 := hr155.pub 20
          replace hO160 := hO160.pub 20 rfl
          replace hO169 := hO169.pub 20 rfl
          replace hO178 := hO178.pub 20 rfl
          replace hO188 := hO188.pub 20 rfl
          replace hr216 := hr216.pub 20
          replace HF := HF.pub 20 rfl
          replace hr227 := Row.pubOf hr227
          refine WL.guardYes rfl rfl rfl ((show _ = Value.bool (z201 == 3) from rfl).trans (congrArg Value.bool c205)) ?_
          refine OW.row (r := (Rep.slice Rep.u8)) (xs := [[(49 : UInt8), (50 : UInt8), (51 : UInt8), (52 : UInt8)], [(53 : UInt8), (54 : UInt8), (55 : UInt8), (56 : UInt8), (57 : UInt8)]]) [(0, .slice A212 [(49 : UInt8), (50 : UInt8), (51 : UInt8), (52 : UInt8)].length c213), (1, .slice A223 [(53 : UInt8), (54 : UInt8), (55 : UInt8), (56 : UInt8), (57 : UInt8)].length c224)] [[.slice A212 [(49 : UInt8), (50 : UInt8), (51 : UInt8), (52 : UInt8)].length c213], [.slice A223 [(53 : UInt8), (54 : UInt8), (55 : UInt8), (56 : UInt8), (57 : UInt8)].length c224]] 21 HF rfl Tryd.underlying80 sz24 zr24 rfl (evs_cons rfl (evs_cons rfl rfl)) rfl rfl ⟨(slice_mk hl215 hr216), (slice_mk hl226 hr227), trivial⟩ rfl rfl rfl rfl ?_
          intro o228 w229 v231 s230 hO232
          replace hG := hG.step s230 rfl
          replace hB124 := hB124.step s230 rfl
          replace hO126 := hO126.step s230 rfl rfl
          replace hO131 := hO131.step s230 rfl rfl
          replace hr146 := hr146.step s230 rfl
          replace hB151 := hB151.step s230 rfl
          replace hr155 := hr155.step s230 rfl
          replace hO160 := hO160.step s230 rfl rfl
          replace hO169 := hO169.step s230 rfl rfl
          replace hO178 := hO178.step s230 rfl rfl
          replace hO188 := hO188.step s230 rfl rfl
          replace hr216 := hr216.step s230 rfl
          replace hr227 := hr227.step s230 rfl
          replace HF := HF.step s230 rfl
          refine WL.guardYes rfl rfl rfl ((show _ = Value.bool (z201 == 3) from rfl).trans (congrArg Value.bool c205)) ?_
          obtain ⟨A233, c234, q235e, q235l, q235⟩ := Own.vwRow (V := [0, 21]) (L := []) hO232 rfl rfl
          obtain ⟨z236, hz236, H⟩ := bindE H
          have q235e' := q235e
          refine OW.call [v231] rfl Tryd.func15 (by kernel_rfl) (by kernel_rfl) (map_cons' rfl rfl) (by simp only [q235e]; exact (octet_Sum.calls k _ _ A233 c234 ([[(49 : UInt8), (50 : UInt8), (51 : UInt8), (52 : UInt8)], [(53 : UInt8), (54 : UInt8), (55 : UInt8), (56 : UInt8), (57 : UInt8)]]) z236 (HF.ten (V := [0, 21]) (L := []) rfl) q235 q235l hz236)) ?_
          rintro _ w237 ⟨o238, rfl, s239⟩
          refine ⟨_, rfl, ?_⟩
          replace s239 := un_stepL (J := []) (L' := []) s239 rfl rfl
          replace hG := hG.step s239 rfl
          replace hB124 := hB124.step s239 rfl
          replace hO126 := hO126.step s239 rfl rfl
          replace hO131 := hO131.step s239 rfl rfl
          replace hr146 := hr146.step s239 rfl
          replace hB151 := hB151.step s239 rfl
          replace hr155 := hr155.step s239 rfl
          replace hO160 := hO160.step s239 rfl rfl
          replace hO169 := hO169.step s239 rfl rfl
          replace hO178 := hO178.step s239 rfl rfl
          replace hO188 := hO188.step s239 rfl rfl
          replace hr216 := hr216.step s239 rfl
          replace hr227 := hr227.step s239 rfl
          replace hO232 := hO232.step s239 rfl rfl
          replace HF := HF.step s239 rfl
          refine WL.guardYes rfl rfl rfl ((show _ = Value.bool (z201 == 3) from rfl).trans (congrArg Value.bool c205)) ?_
          refine OW.ex rfl (ex_bin (a := enc32 z236) (b := enc32 (3808858755 : UInt32)) (v := .bool (z236 == (3808858755 : UInt32))) rfl rfl bin_eql_u32) ?_
          refine WL.ex rfl (ex_pick_t (v := .bool (z236 == (3808858755 : UInt32))) ((show _ = Value.bool (z201 == 3) from rfl).trans (congrArg Value.bool c205)) rfl) ?_
          refine WL.ex rfl (ex_move (v := .bool (z236 == (3808858755 : UInt32))) rfl) ?_
          rcases condE H with ⟨c240, H⟩ | ⟨c240, H⟩
          ·
            refine WL.guardYes rfl rfl rfl ((show _ = Value.bool (z236 == (3808858755 : UInt32)) from rfl).trans (congrArg Value.bool c240)) ?_
            refine OW.ex rfl (ex_move (v := v177) rfl) ?_
            refine WL.guardYes rfl rfl rfl ((show _ = Value.bool (z236 == (3808858755 : UInt32)) from rfl).trans (congrArg Value.bool c240)) ?_
            refine OW.row (r := Rep.u8) (xs := [(5 : UInt8)]) [(0, enc8 (5 : UInt8))] [[enc8 (5 : UInt8)]] 22 HF rfl Tryd.underlying24 sz5 zr5 rfl (evs_cons rfl rfl) rfl rfl ⟨rfl, trivial⟩ rfl rfl rfl rfl ?_
            intro o241 w242 v244 s243 hO245
            replace hG := hG.step s243 rfl
            replace hB124 := hB124.step s243 rfl
            replace hO126 := hO126.step s243 rfl rfl
            replace hO131 := hO131.step s243 rfl rfl
            replace hr146 := hr146.step s243 rfl
            replace hB151 := hB151.step s243 rfl
            replace hr155 := hr155.step s243 rfl
            replace hO160 := hO160.step s243 rfl rfl
            replace hO169 := hO169.step s243 rfl rfl
            replace hO178 := hO178.step s243 rfl rfl
            replace hO188 := hO188.step s243 rfl rfl
            replace hr216 := hr216.step s243 rfl
            replace hr227 := hr227.step s243 rfl
            replace hO232 := hO232.step s243 rfl rfl
            replace HF := HF.step s243 rfl
            refine WL.guardYes rfl rfl rfl ((show _ = Value.bool (z236 == (3808858755 : UInt32)) from rfl).trans (congrArg Value.bool c240)) ?_
            obtain ⟨A246, c247, q248e, q248l, q248⟩ := Own.vwRow (V := [0, 17, 22]) (L := []) hO178 rfl rfl
            obtain ⟨A249, c250, q251e, q251l, q251⟩ := Own.vwRow (V := [0, 17, 22]) (L := []) hO245 rfl rfl
            obtain ⟨z252, hz252, H⟩ := bindE H
            have q248e' := q248e
            have q251e' := q251e
            refine OW.call [v177, v244] rfl Tryd.func11 (by kernel_rfl) (by kernel_rfl) (map_cons' rfl (map_cons' rfl rfl)) (by simp only [q248e, q251e]; exact (dictumref01_Same.calls k _ _ A246 c247 A249 c250 z173.1 [(5 : UInt8)] z252 (HF.ten (V := [0, 17, 22]) (L := []) rfl) q248 q248l q251 q251l hz252)) ?_
            rintro _ w253 ⟨o254, rfl, s255⟩
            refine ⟨_, rfl, ?_⟩
            replace s255 := un_stepL (J := []) (L' := []) s255 rfl rfl
            replace hG := hG.step s255 rfl
            replace hB124 := hB124.step s255 rfl
            replace hO126 := hO126.step s255 rfl rfl
            replace hO131 := hO131.step s255 rfl rfl
            replace hr146 := hr146.step s255 rfl
            replace hB151 := hB151.step s255 rfl
            replace hr155 := hr155.step s255 rfl
            replace hO160 := hO160.step s255 rfl rfl
            replace hO169 := hO169.step s255 rfl rfl
            replace hO178 := hO178.step s255 rfl rfl
            replace hO188 := hO188.step s255 rfl rfl
            replace hr216 := hr216.step s255 rfl
            replace hr227 := hr227.step s255 rfl
            replace hO232 := hO232.step s255 rfl rfl
            replace hO245 := hO245.step s255 rfl rfl
            replace HF := HF.step s255 rfl
            refine WL.ex rfl (ex_pick_t (v := .bool z252) ((show _ = Value.bool (z236 == (3808858755 : UInt32)) from rfl).trans (congrArg Value.bool c240)) rfl) ?_
            refine WL.ex rfl (ex_move (v := .bool z252) rfl) ?_
            rcases condE H with ⟨c256, H⟩ | ⟨c256, H⟩
            ·
              refine WL.guardYes rfl rfl rfl ((show _ = Value.bool z252 from rfl).trans (congrArg Value.bool c256)) ?_
              refine OW.ex rfl (ex_move (v := .int .i64 z173.2) rfl) ?_
              refine WL.guardYes rfl rfl rfl ((show _ = Value.bool z252 from rfl).trans (congrArg Value.bool c256)) ?_
              refine OW.ex rfl (ex_bin (a := .int .i64 z173.2) (b := .int .i64 0) (v := .bool (z173.2 == 0)) rfl rfl bin_eql) ?_
              refine WL.ex rfl (ex_pick_t (v := .bool (z173.2 == 0)) ((show _ = Value.bool z252 from rfl).trans (congrArg Value.bool c256)) rfl) ?_
              refine WL.ex rfl (ex_move (v := .bool (z173.2 == 0)) rfl) ?_
              rcases condE H with ⟨c257, H⟩ | ⟨c257, H⟩
              ·
                refine WL.guardYes rfl rfl rfl ((show _ = Value.bool (z173.2 == 0) from rfl).trans (congrArg Value.bool c257)) ?_
                refine OW.row (r := Rep.u8) (xs := [(10 : UInt8)]) [(0, enc8 (10 : UInt8))] [[enc8 (10 : UInt8)]] 23 HF rfl Tryd.underlying24 sz5 zr5 rfl (evs_cons rfl rfl) rfl rfl ⟨rfl, trivial⟩ rfl rfl rfl rfl ?_
                intro o258 w259 v261 s260 hO262
                replace hG := hG.step s260 rfl
                replace hB124 := hB124.step s260 rfl
                replace hO126 := hO126.step s260 rfl rfl
                replace hO131 := hO131.step s260 rfl rfl
                replace hr146 := hr146.step s260 rfl
                replace hB151 := hB151.step s260 rfl
                replace hr155 := hr155.step s260 rfl
                replace hO160 := hO160.step s260 rfl rfl
                replace hO169 := hO169.step s260 rfl rfl
                replace hO178 := hO178.step s260 rfl rfl
                replace hO188 := hO188.step s260 rfl rfl
                replace hr216 := hr216.step s260 rfl
                replace hr227 := hr227.step s260 rfl
                replace hO232 := hO232.step s260 rfl rfl
                replace hO245 := hO245.step s260 rfl rfl
                replace HF := HF.step s260 rfl
                refine WL.guardYes rfl rfl rfl ((show _ = Value.bool (z173.2 == 0) from rfl).trans (congrArg Value.bool c257)) ?_
                obtain ⟨A263, c264, q265e, q265l, q265⟩ := Own.vwRow (V := [0, 23]) (L := []) hO262 rfl rfl
                obtain ⟨z266, hz266, H⟩ := bindE H
                have q265e' := q265e
                refine OW.call [v261] rfl Tryd.func31 (by kernel_rfl) (by kernel_rfl) (map_cons' rfl rfl) (by simp only [q265e]; exact (octet_Hex.calls k _ _ A263 c264 [(10 : UInt8)] z266 (HF.ten (V := [0, 23]) (L := []) rfl) q265 q265l hz266)) ?_
                rintro _ w267 ⟨o268, rfl, s269⟩
                refine ⟨_, rfl, ?_⟩
                replace s269 := un_stepL (J := []) (L' := []) s269 rfl rfl
                replace hG := hG.step s269 rfl
                replace hB124 := hB124.step s269 rfl
                replace hO126 := hO126.step s269 rfl rfl
                replace hO131 := hO131.step s269 rfl rfl
                replace hr146 := hr146.step s269 rfl
                replace hB151 := hB151.step s269 rfl
                replace hr155 := hr155.step s269 rfl
                replace hO160 := hO160.step s269 rfl rfl
                replace hO169 := hO169.step s269 rfl rfl
                replace hO178 := hO178.step s269 rfl rfl
                replace hO188 := hO188.step s269 rfl rfl
                replace hr216 := hr216.step s269 rfl
                replace hr227 := hr227.step s269 rfl
                replace hO232 := hO232.step s269 rfl rfl
                replace hO245 := hO245.step s269 rfl rfl
                replace hO262 := hO262.step s269 rfl rfl
                replace HF := HF.step s269 rfl
                refine WL.guardYes rfl rfl rfl ((show _ = Value.bool (z173.2 == 0) from rfl).trans (congrArg Value.bool c257)) ?_
                refine OW.ex rfl (ex_bin (a := encS z266) (b := encS ([48, 97] : List UInt8)) (v := .bool (z266 == ([48, 97] : List UInt8))) rfl rfl bin_eql_str) ?_
                refine WL.ex rfl (ex_pick_t (v := .bool (z266 == ([48, 97] : List UInt8))) ((show _ = Value.bool (z173.2 == 0) from rfl).trans (congrArg Value.bool c257)) rfl) ?_
                refine WL.ex rfl (ex_move (v := .bool (z266 == ([48, 97] : List UInt8))) rfl) ?_
                rcases condE H with ⟨c270, H⟩ | ⟨c270, H⟩
                ·
                  refine WL.guardYes rfl rfl rfl ((show _ = Value.bool (z266 == ([48, 97] : List UInt8)) from rfl).trans (congrArg Value.bool c270)) ?_
                  obtain ⟨z271, hz271, H⟩ := bindE H
                  refine OW.call [.int .i64 (-7)] rfl Tryd.func36 (by kernel_rfl) (by kernel_rfl) (map_cons' rfl rfl) (octet_Dec.calls _ _ (-7) z271 (HF.ten (V := [0]) (L := []) rfl) (Gl.vw (V := [0]) (L := []) hG rfl) hz271) ?_
                  rintro _ w272 ⟨o273, rfl, s274⟩
                  refine ⟨_, rfl, ?_⟩
                  replace s274 := un_stepL (J := []) (L' := []) s274 rfl rfl
                  replace hG := hG.step s274 rfl
                  replace hB124 := hB124.step s274 rfl
                  replace hO126 := hO126.step s274 rfl rfl
                  replace hO131 := hO131.step s274 rfl rfl
                  replace hr146 := hr146.step s274 rfl
                  replace hB151 := hB151.step s274 rfl
                  replace hr155 := hr155.step s274 rfl
                  replace hO160 := hO160.step s274 rfl rfl
                  replace hO169 := hO169.step s274 rfl rfl
                  replace hO178 := hO178.step s274 rfl rfl
                  replace hO188 := hO188.step s274 rfl rfl
                  replace hr216 := hr216.step s274 rfl
                  replace hr227 := hr227.step s274 rfl
                  replace hO232 := hO232.step s274 rfl rfl
                  replace hO245 := hO245.step s274 rfl rfl
                  replace hO262 := hO262.step s274 rfl rfl
                  replace HF := HF.step s274 rfl
                  refine WL.guardYes rfl rfl rfl ((show _ = Value.bool (z266 == ([48, 97] : List UInt8)) from rfl).trans (congrArg Value.bool c270)) ?_
                  refine OW.ex rfl (ex_bin (a := encS z271) (b := encS ([45, 55] : List UInt8)) (v := .bool (z271 == ([45, 55] : List UInt8))) rfl rfl bin_eql_str) ?_
                  refine WL.ex rfl (ex_pick_t (v := .bool (z271 == ([45, 55] : List UInt8))) ((show _ = Value.bool (z266 == ([48, 97] : List UInt8)) from rfl).trans (congrArg Value.bool c270)) rfl) ?_
                  refine WL.ex rfl (ex_move (v := .bool (z271 == ([45, 55] : List UInt8))) rfl) ?_
                  rcases condE H with ⟨c275, H⟩ | ⟨c275, H⟩
                  ·
                    refine WL.guardYes rfl rfl rfl ((show _ = Value.bool (z271 == ([45, 55] : List UInt8)) from rfl).trans (congrArg Value.bool c275)) ?_
                    refine OW.ex rfl (ex_move (v := .int .i64 z179.1) rfl) ?_
                    refine WL.guardYes rfl rfl rfl ((show _ = Value.bool (z271 == ([45, 55] : List UInt8)) from rfl).trans (congrArg Value.bool c275)) ?_
                    refine OW.ex rfl (ex_bin (a := .int .i64 z179.1) (b := .int .i64 12) (v := .bool (z179.1 == 12)) rfl rfl bin_eql) ?_
                    refine WL.ex rfl (ex_pick_t (v := .bool (z179.1 == 12)) ((show _ = Value.bool (z271 == ([45, 55] : List UInt8)) from rfl).trans (congrArg Value.bool c275)) rfl) ?_
                    refine WL.ex rfl (ex_move (v := .bool (z179.1 == 12)) rfl) ?_
                    rcases condE H with ⟨c276, H⟩ | ⟨c276, H⟩
                    ·
                      refine WL.guardYes rfl rfl rfl ((show _ = Value.bool (z179.1 == 12) from rfl).trans (congrArg Value.bool c276)) ?_
                      refine OW.ex rfl (ex_move (v := .int .i64 z179.2) rfl) ?_
                      refine WL.guardYes rfl rfl rfl ((show _ = Value.bool (z179.1 == 12) from rfl).trans (congrArg Value.bool c276)) ?_
                      refine OW.ex rfl (ex_bin (a := .int .i64 z179.2) (b := .int .i64 0) (v := .bool (z179.2 == 0)) rfl rfl bin_eql) ?_
                      refine WL.ex rfl (ex_pick_t (v := .bool (z179.2 == 0)) ((show _ = Value.bool (z179.1 == 12) from rfl).trans (congrArg Value.bool c276)) rfl) ?_
                      refine WL.ex rfl (ex_assign (v := .bool (z179.2 == 0)) rfl) ?_
                      refine WL.nil ?_
                      refine WC.ret ?_
                      obtain rfl := Option.some.inj H
                      exact ⟨_, (.tmp (.bool (z179.2 == 0) : Value) rfl .nil), _, rfl, HF.out⟩
                    ·
                      refine WL.guardNo rfl rfl rfl ((show _ = Value.bool (z179.1 == 12) from rfl).trans (congrArg Value.bool c276)) ?_
                      refine WL.guardNo rfl rfl rfl ((show _ = Value.bool (z179.1 == 12) from rfl).trans (congrArg Value.bool c276)) ?_
                      refine WL.ex rfl (ex_pick_f (v := .bool false) ((show _ = Value.bool (z179.1 == 12) from rfl).trans (congrArg Value.bool c276)) rfl) ?_
                      refine WL.ex rfl (ex_assign (v := .bool false) rfl) ?_
                      refine WL.nil ?_
                      refine WC.ret ?_
                      obtain rfl := Option.some.inj H
                      exact ⟨_, (.tmp (.bool false : Value) rfl .nil), _, rfl, HF.out⟩
                  ·
                    refine WL.guardNo rfl rfl rfl ((show _ = Value.bool (z271 == ([45, 55] : List UInt8)) from rfl).trans (congrArg Value.bool c275)) ?_
                    refine WL.guardNo rfl rfl rfl ((show _ = Value.bool (z271 == ([45, 55] : List UInt8)) from rfl).trans (congrArg Value.bool c275)) ?_
                    refine WL.ex rfl (ex_pick_f (v := .bool false) ((show _ = Value.bool (z271 == ([45, 55] : List UInt8)) from rfl).trans (congrArg Value.bool c275)) rfl) ?_
                    refine WL.ex rfl (ex_move (v := .bool false) rfl) ?_
                    refine WL.guardNo rfl rfl rfl rfl ?_
                    refine WL.guardNo rfl rfl rfl rfl ?_
                    refine WL.ex rfl (ex_pick_f (v := .bool false) rfl rfl) ?_
                    refine WL.ex rfl (ex_assign (v := .bool false) rfl) ?_
                    refine WL.nil ?_
                    refine WC.ret ?_
                    obtain rfl := Option.some.inj H
                    exact ⟨_, (.tmp (.bool false : Value) rfl .nil), _, rfl, HF.out⟩
                ·
                  refine WL.guardNo rfl rfl rfl ((show _ = Value.bool (z266 == ([48, 97] : List UInt8)) from rfl).trans (congrArg Value.bool c270)) ?_
                  refine WL.guardNo rfl rfl rfl ((show _ = Value.bool (z266 == ([48, 97] : List UInt8)) from rfl).trans (congrArg Value.bool c270)) ?_
                  refine WL.ex rfl (ex_pick_f (v := .bool false) ((show _ = Value.bool (z266 == ([48, 97] : List UInt8)) from rfl).trans (congrArg Value.bool c270)) rfl) ?_
                  refine WL.ex rfl (ex_move (v := .bool false) rfl) ?_
                  refine WL.guardNo rfl rfl rfl rfl ?_
                  refine WL.guardNo rfl rfl rfl rfl ?_
                  refine WL.ex rfl (ex_pick_f (v := .bool false) rfl rfl) ?_
                  refine WL.ex rfl (ex_move (v := .bool false) rfl) ?_
                  refine WL.guardNo rfl rfl rfl rfl ?_
                  refine WL.guardNo rfl rfl rfl rfl ?_
                  refine WL.ex rfl (ex_pick_f (v := .bool false) rfl rfl) ?_
                  refine WL.ex rfl (ex_assign (v := .bool false) rfl) ?_
                  refine WL.nil ?_
                  refine WC.ret ?_
                  obtain rfl := Option.some.inj H
                  exact ⟨_, (.tmp (.bool false : Value) rfl .nil), _, rfl, HF.out⟩
              ·
                refine WL.guardNo rfl rfl rfl ((show _ = Value.bool (z173.2 == 0) from rfl).trans (congrArg Value.bool c257)) ?_
                refine WL.guardNo rfl rfl rfl ((show _ = Value.bool (z173.2 == 0) from rfl).trans (congrArg Value.bool c257)) ?_
                refine WL.guardNo rfl rfl rfl ((show _ = Value.bool (z173.2 == 0) from rfl).trans (congrArg Value.bool c257)) ?_
                refine WL.ex rfl (ex_pick_f (v := .bool false) ((show _ = Value.bool (z173.2 == 0) from rfl).trans (congrArg Value.bool c257)) rfl) ?_
                refine WL.ex rfl (ex_move (v := .bool false) rfl) ?_
                refine WL.guardNo rfl rfl rfl rfl ?_
                refine WL.guardNo rfl rfl rfl rfl ?_
                refine WL.ex rfl (ex_pick_f (v := .bool false) rfl rfl) ?_
                refine WL.ex rfl (ex_move (v := .bool false) rfl) ?_
                refine WL.guardNo rfl rfl rfl rfl ?_
                refine WL.guardNo rfl rfl rfl rfl ?_
                refine WL.ex rfl (ex_pick_f (v := .bool false) rfl rfl) ?_
                refine WL.ex rfl (ex_move (v := .bool false) rfl) ?_
                refine WL.guardNo rfl rfl rfl rfl ?_
                refine WL.guardNo rfl rfl rfl rfl ?_
                refine WL.ex rfl (ex_pick_f (v := .bool false) rfl rfl) ?_
                refine WL.ex rfl (ex_assign (v := .bool false) rfl) ?_
                refine WL.nil ?_
                refine WC.ret ?_
                obtain rfl := Option.some.inj H
                exact ⟨_, (.tmp (.bool false : Value) rfl .nil), _, rfl, HF.out⟩
            ·
              refine WL.guardNo rfl rfl rfl ((show _ = Value.bool z252 from rfl).trans (congrArg Value.bool c256)) ?_
              refine WL.guardNo rfl rfl rfl ((show _ = Value.bool z252 from rfl).trans (congrArg Value.bool c256)) ?_
              refine WL.ex rfl (ex_pick_f (v := .bool false) ((show _ = Value.bool z252 from rfl).trans (congrArg Value.bool c256)) rfl) ?_
              refine WL.ex rfl (ex_move (v := .bool false) rfl) ?_
              refine WL.guardNo rfl rfl rfl rfl ?_
              refine WL.guardNo rfl rfl rfl rfl ?_
              refine WL.guardNo rfl rfl rfl rfl ?_
              refine WL.ex rfl (ex_pick_f (v := .bool false) rfl rfl) ?_
              refine WL.ex rfl (ex_move (v := .bool false) rfl) ?_
              refine WL.guardNo rfl rfl rfl rfl ?_
              refine WL.guardNo rfl rfl rfl rfl ?_
              refine WL.ex rfl (ex_pick_f (v := .bool false) rfl rfl) ?_
              refine WL.ex rfl (ex_move (v := .bool false) rfl) ?_
              refine WL.guardNo rfl rfl rfl rfl ?_
              refine WL.guardNo rfl rfl rfl rfl ?_
              refine WL.ex rfl (ex_pick_f (v := .bool false) rfl rfl) ?_
              refine WL.ex rfl (ex_move (v := .bool false) rfl) ?_
              refine WL.guardNo rfl rfl rfl rfl ?_
              refine WL.guardNo rfl rfl rfl rfl ?_
              refine WL.ex rfl (ex_pick_f (v := .bool false) rfl rfl) ?_
              refine WL.ex rfl (ex_assign (v := .bool false) rfl) ?_
              refine WL.nil ?_
              refine WC.ret ?_
              obtain rfl := Option.some.inj H
              exact ⟨_, (.tmp (.bool false : Value) rfl .nil), _, rfl, HF.out⟩
          ·
            refine WL.guardNo rfl rfl rfl ((show _ = Value.bool (z236 == (3808858755 : UInt32)) from rfl).trans (congrArg Value.bool c240)) ?_
            refine WL.guardNo rfl rfl rfl ((show _ = Value.bool (z236 == (3808858755 : UInt32)) from rfl).trans (congrArg Value.bool c240)) ?_
            refine WL.guardNo rfl rfl rfl ((show _ = Value.bool (z236 == (3808858755 : UInt32)) from rfl).trans (congrArg Value.bool c240)) ?_
            refine WL.ex rfl (ex_pick_f (v := .bool false) ((show _ = Value.bool (z236 == (3808858755 : UInt32)) from rfl).trans (congrArg Value.bool c240)) rfl) ?_
            refine WL.ex rfl (ex_move (v := .bool false) rfl) ?_
            refine WL.guardNo rfl rfl rfl rfl ?_
            refine WL.guardNo rfl rfl rfl rfl ?_
            refine WL.ex rfl (ex_pick_f (v := .bool false) rfl rfl) ?_
            refine WL.ex rfl (ex_move (v := .bool false) rfl) ?_
            refine WL.guardNo rfl rfl rfl rfl ?_
            refine WL.guardNo rfl rfl rfl rfl ?_
            refine WL.guardNo rfl rfl rfl rfl ?_
            refine WL.ex rfl (ex_pick_f (v := .bool false) rfl rfl) ?_
            refine WL.ex rfl (ex_move (v := .bool false) rfl) ?_
            refine WL.guardNo rfl rfl rfl rfl ?_
            refine WL.guardNo rfl rfl rfl rfl ?_
            refine WL.ex rfl (ex_pick_f (v := .bool false) rfl rfl) ?_
            refine WL.ex rfl (ex_move (v := .bool false) rfl) ?_
            refine WL.guardNo rfl rfl rfl rfl ?_
            refine WL.guardNo rfl rfl rfl rfl ?_
            refine WL.ex rfl (ex_pick_f (v := .bool false) rfl rfl) ?_
            refine WL.ex rfl (ex_move (v := .bool false) rfl) ?_
            refine WL.guardNo rfl rfl rfl rfl ?_
            refine WL.guardNo rfl rfl rfl rfl ?_
            refine WL.ex rfl (ex_pick_f (v := .bool false) rfl rfl) ?_
            refine WL.ex rfl (ex_assign (v := .bool false) rfl) ?_
            refine WL.nil ?_
            refine WC.ret ?_
            obtain rfl := Option.some.inj H
            exact ⟨_, (.tmp (.bool false : Value) rfl .nil), _, rfl, HF.out⟩
        ·
          refine WL.guardNo rfl rfl rfl ((show _ = Value.bool (z201 == 3) from rfl).trans (congrArg Value.bool c205)) ?_
          refine WL.guardNo rfl rfl rfl ((show _ = Value.bool (z201 == 3) from rfl).trans (congrArg Value.bool c205)) ?_
          refine WL.guardNo rfl rfl rfl ((show _ = Value.bool (z201 == 3) from rfl).trans (congrArg Value.bool c205)) ?_
          refine WL.guardNo rfl rfl rfl ((show _ = Value.bool (z201 == 3) from rfl).trans (congrArg Value.bool c205)) ?_
          refine WL.guardNo rfl rfl rfl ((show _ = Value.bool (z201 == 3) from rfl).trans (congrArg Value.bool c205)) ?_
          refine WL.guardNo rfl rfl rfl ((show _ = Value.bool (z201 == 3) from rfl).trans (congrArg Value.bool c205)) ?_
          refine WL.guardNo rfl rfl rfl ((show _ = Value.bool (z201 == 3) from rfl).trans (congrArg Value.bool c205)) ?_
          refine WL.ex rfl (ex_pick_f (v := .bool false) ((show _ = Value.bool (z201 == 3) from rfl).trans (congrArg Value.bool c205)) rfl) ?_
          refine WL.ex rfl (ex_move (v := .bool false) rfl) ?_
          refine WL.guardNo rfl rfl rfl rfl ?_
          refine WL.guardNo rfl rfl rfl rfl ?_
          refine WL.guardNo rfl rfl rfl rfl ?_
          refine WL.ex rfl (ex_pick_f (v := .bool false) rfl rfl) ?_
          refine WL.ex rfl (ex_move (v := .bool false) rfl) ?_
          refine WL.guardNo rfl rfl rfl rfl ?_
          refine WL.guardNo rfl rfl rfl rfl ?_
          refine WL.ex rfl (ex_pick_f (v := .bool false) rfl rfl) ?_
          refine WL.ex rfl (ex_move (v := .bool false) rfl) ?_
          refine WL.guardNo rfl rfl rfl rfl ?_
          refine WL.guardNo rfl rfl rfl rfl ?_
          refine WL.guardNo rfl rfl rfl rfl ?_
          refine WL.ex rfl (ex_pick_f (v := .bool false) rfl rfl) ?_
          refine WL.ex rfl (ex_move (v := .bool false) rfl) ?_
          refine WL.guardNo rfl rfl rfl rfl ?_
          refine WL.guardNo rfl rfl rfl rfl ?_
          refine WL.ex rfl (ex_pick_f (v := .bool false) rfl rfl) ?_
          refine WL.ex rfl (ex_move (v := .bool false) rfl) ?_
          refine WL.guardNo rfl rfl rfl rfl ?_
          refine WL.guardNo rfl rfl rfl rfl ?_
          refine WL.ex rfl (ex_pick_f (v := .bool false) rfl rfl) ?_
          refine WL.ex rfl (ex_move (v := .bool false) rfl) ?_
          refine WL.guardNo rfl rfl rfl rfl ?_
          refine WL.guardNo rfl rfl rfl rfl ?_
          refine WL.ex rfl (ex_pick_f (v := .bool false) rfl rfl) ?_
          refine WL.ex rfl (ex_assign (v := .bool false) rfl) ?_
          refine WL.nil ?_
          refine WC.ret ?_
          obtain rfl := Option.some.inj H
          exact ⟨_, (.tmp (.bool false : Value) rfl .nil), _, rfl, HF.out⟩
      ·
        refine WL.guardNo rfl rfl rfl ((show _ = Value.bool (z147.2.1 == 11) from rfl).trans (congrArg Value.bool c200)) ?_
        refine WL.guardNo rfl rfl rfl ((show _ = Value.bool (z147.2.1 == 11) from rfl).trans (congrArg Value.bool c200)) ?_
        refine WL.guardNo rfl rfl rfl ((show _ = Value.bool (z147.2.1 == 11) from rfl).trans (congrArg Value.bool c200)) ?_
        refine WL.ex rfl (ex_pick_f (v := .bool false) ((show _ = Value.bool (z147.2.1 == 11) from rfl).trans (congrArg Value.bool c200)) rfl) ?_
        refine WL.ex rfl (ex_move (v := .bool false) rfl) ?_
        refine WL.guardNo rfl rfl rfl rfl ?_
        refine WL.guardNo rfl rfl rfl rfl ?_
        refine WL.guardNo rfl rfl rfl rfl ?_
        refine WL.guardNo rfl rfl rfl rfl ?_
        refine WL.guardNo rfl rfl rfl rfl ?_
        refine WL.guardNo rfl rfl rfl rfl ?_
        refine WL.guardNo rfl rfl rfl rfl ?_
        refine WL.ex rfl (ex_pick_f (v := .bool false) rfl rfl) ?_
        refine WL.ex rfl (ex_move (v := .bool false) rfl) ?_
        refine WL.guardNo rfl rfl rfl rfl ?_
        refine WL.guardNo rfl rfl rfl rfl ?_
        refine WL.guardNo rfl rfl rfl rfl ?_
        refine WL.ex rfl (ex_pick_f (v := .bool false) rfl rfl) ?_
        refine WL.ex rfl (ex_move (v := .bool false) rfl) ?_
        refine WL.guardNo rfl rfl rfl rfl ?_
        refine WL.guardNo rfl rfl rfl rfl ?_
        refine WL.ex rfl (ex_pick_f (v := .bool false) rfl rfl) ?_
        refine WL.ex rfl (ex_move (v := .bool false) rfl) ?_
        refine WL.guardNo rfl rfl rfl rfl ?_
        refine WL.guardNo rfl rfl rfl rfl ?_
        refine WL.guardNo rfl rfl rfl rfl ?_
        refine WL.ex rfl (ex_pick_f (v := .bool false) rfl rfl) ?_
        refine WL.ex rfl (ex_move (v := .bool false) rfl) ?_
        refine WL.guardNo rfl rfl rfl rfl ?_
        refine WL.guardNo rfl rfl rfl rfl ?_
        refine WL.ex rfl (ex_pick_f (v := .bool false) rfl rfl) ?_
        refine WL.ex rfl (ex_move (v := .bool false) rfl) ?_
        refine WL.guardNo rfl rfl rfl rfl ?_
        refine WL.guardNo rfl rfl rfl rfl ?_
        refine WL.ex rfl (ex_pick_f (v := .bool false) rfl rfl) ?_
        refine WL.ex rfl (ex_move (v := .bool false) rfl) ?_
        refine WL.guardNo rfl rfl rfl rfl ?_
        refine WL.guardNo rfl rfl rfl rfl ?_
        refine WL.ex rfl (ex_pick_f (v := .bool false) rfl rfl) ?_
        refine WL.ex rfl (ex_assign (v := .bool false) rfl) ?_
        refine WL.nil ?_
        refine WC.ret ?_
        obtain rfl := Option.some.inj H
        exact ⟨_, (.tmp (.bool false : Value) rfl .nil), _, rfl, HF.out⟩
    ·
      refine WL.guardNo rfl rfl rfl ((show _ = Value.bool z195 from rfl).trans (congrArg Value.bool c199)) ?_
      refine WL.guardNo rfl rfl rfl ((show _ = Value.bool z195 from rfl).trans (congrArg Value.bool c199)) ?_
      refine WL.ex rfl (ex_pick_f (v := .bool false) ((show _ = Value.bool z195 from rfl).trans (congrArg Value.bool c199)) rfl) ?_
      refine WL.ex rfl (ex_move (v := .bool false) rfl) ?_
      refine WL.guardNo rfl rfl rfl rfl ?_
      refine WL.guardNo rfl rfl rfl rfl ?_
      refine WL.guardNo rfl rfl rfl rfl ?_
      refine WL.ex rfl (ex_pick_f (v := .bool false) rfl rfl) ?_
      refine WL.ex rfl (ex_move (v := .bool false) rfl) ?_
      refine WL.guardNo rfl rfl rfl rfl ?_
      refine WL.guardNo rfl rfl rfl rfl ?_
      refine WL.guardNo rfl rfl rfl rfl ?_
      refine WL.guardNo rfl rfl rfl rfl ?_
      refine WL.guardNo rfl rfl rfl rfl ?_
      refine WL.guardNo rfl rfl rfl rfl ?_
      refine WL.guardNo rfl rfl rfl rfl ?_
      refine WL.ex rfl (ex_pick_f (v := .bool false) rfl rfl) ?_
      refine WL.ex rfl (ex_move (v := .bool false) rfl) ?_
      refine WL.guardNo rfl rfl rfl rfl ?_
      refine WL.guardNo rfl rfl rfl rfl ?_
      refine WL.guardNo rfl rfl rfl rfl ?_
      refine WL.ex rfl (ex_pick_f (v := .bool false) rfl rfl) ?_
      refine WL.ex rfl (ex_move (v := .bool false) rfl) ?_
      refine WL.guardNo rfl rfl rfl rfl ?_
      refine WL.guardNo rfl rfl rfl rfl ?_
      refine WL.ex rfl (ex_pick_f (v := .bool false) rfl rfl) ?_
      refine WL.ex rfl (ex_move (v := .bool false) rfl) ?_
      refine WL.guardNo rfl rfl rfl rfl ?_
      refine WL.guardNo rfl rfl rfl rfl ?_
      refine WL.guardNo rfl rfl rfl rfl ?_
      refine WL.ex rfl (ex_pick_f (v := .bool false) rfl rfl) ?_
      refine WL.ex rfl (ex_move (v := .bool false) rfl) ?_
      refine WL.guardNo rfl rfl rfl rfl ?_
      refine WL.guardNo rfl rfl rfl rfl ?_
      refine WL.ex rfl (ex_pick_f (v := .bool false) rfl rfl) ?_
      refine WL.ex rfl (ex_move (v := .bool false) rfl) ?_
      refine WL.guardNo rfl rfl rfl rfl ?_
      refine WL.guardNo rfl rfl rfl rfl ?_
      refine WL.ex rfl (ex_pick_f (v := .bool false) rfl rfl) ?_
      refine WL.ex rfl (ex_move (v := .bool false) rfl) ?_
      refine WL.guardNo rfl rfl rfl rfl ?_
      refine WL.guardNo rfl rfl rfl rfl ?_
      refine WL.ex rfl (ex_pick_f (v := .bool false) rfl rfl) ?_
      refine WL.ex rfl (ex_assign (v := .bool false) rfl) ?_
      refine WL.nil ?_
      refine WC.ret ?_
      obtain rfl := Option.some.inj H
      exact ⟨_, (.tmp (.bool false : Value) rfl .nil), _, rfl, HF.out⟩
  ·
    refine WL.guardNo rfl rfl rfl ((show _ = Value.bool (z120.1 == 0) from rfl).trans (congrArg Value.bool c183)) ?_
    refine WL.guardNo rfl rfl rfl ((show _ = Value.bool (z120.1 == 0) from rfl).trans (congrArg Value.bool c183)) ?_
    refine WL.guardNo rfl rfl rfl ((show _ = Value.bool (z120.1 == 0) from rfl).trans (congrArg Value.bool c183)) ?_
    refine WL.guardNo rfl rfl rfl ((show _ = Value.bool (z120.1 == 0) from rfl).trans (congrArg Value.bool c183)) ?_
    refine WL.guardNo rfl rfl rfl ((show _ = Value.bool (z120.1 == 0) from rfl).trans (congrArg Value.bool c183)) ?_
    refine WL.guardNo rfl rfl rfl ((show _ = Value.bool (z120.1 == 0) from rfl).trans (congrArg Value.bool c183)) ?_
    refine WL.ex rfl (ex_pick_f (v := .bool false) ((show _ = Value.bool (z120.1 == 0) from rfl).trans (congrArg Value.bool c183)) rfl) ?_
    refine WL.ex rfl (ex_move (v := .bool false) rfl) ?_
    refine WL.guardNo rfl rfl rfl rfl ?_
    refine WL.guardNo rfl rfl rfl rfl ?_
    refine WL.ex rfl (ex_pick_f (v := .bool false) rfl rfl) ?_
    refine WL.ex rfl (ex_move (v := .bool false) rfl) ?_
    refine WL.guardNo rfl rfl rfl rfl ?_
    refine WL.guardNo rfl rfl rfl rfl ?_
    refine WL.guardNo rfl rfl rfl rfl ?_
    refine WL.ex rfl (ex_pick_f (v := .bool false) rfl rfl) ?_
    refine WL.ex rfl (ex_move (v := .bool false) rfl) ?_
    refine WL.guardNo rfl rfl rfl rfl ?_
    refine WL.guardNo rfl rfl rfl rfl ?_
    refine WL.guardNo rfl rfl rfl rfl ?_
    refine WL.guardNo rfl rfl rfl rfl ?_
    refine WL.guardNo rfl rfl rfl rfl ?_
    refine WL.guardNo rfl rfl rfl rfl ?_
    refine WL.guardNo rfl rfl rfl rfl ?_
    refine WL.ex rfl (ex_pick_f (v := .bool false) rfl rfl) ?_
    refine WL.ex rfl (ex_move (v := .bool false) rfl) ?_
    refine WL.guardNo rfl rfl rfl rfl ?_
    refine WL.guardNo rfl rfl rfl rfl ?_
    refine WL.guardNo rfl rfl rfl rfl ?_
    refine WL.ex rfl (ex_pick_f (v := .bool false) rfl rfl) ?_
    refine WL.ex rfl (ex_move (v := .bool false) rfl) ?_
    refine WL.guardNo rfl rfl rfl rfl ?_
    refine WL.guardNo rfl rfl rfl rfl ?_
    refine WL.ex rfl (ex_pick_f (v := .bool false) rfl rfl) ?_
    refine WL.ex rfl (ex_move (v := .bool false) rfl) ?_
    refine WL.guardNo rfl rfl rfl rfl ?_
    refine WL.guardNo rfl rfl rfl rfl ?_
    refine WL.guardNo rfl rfl rfl rfl ?_
    refine WL.ex rfl (ex_pick_f (v := .bool false) rfl rfl) ?_
    refine WL.ex rfl (ex_move (v := .bool false) rfl) ?_
    refine WL.guardNo rfl rfl rfl rfl ?_
    refine WL.guardNo rfl rfl rfl rfl ?_
    refine WL.ex rfl (ex_pick_f (v := .bool false) rfl rfl) ?_
    refine WL.ex rfl (ex_move (v := .bool false) rfl) ?_
    refine WL.guardNo rfl rfl rfl rfl ?_
    refine WL.guardNo rfl rfl rfl rfl ?_
    refine WL.ex rfl (ex_pick_f (v := .bool false) rfl rfl) ?_
    refine WL.ex rfl (ex_move (v := .bool false) rfl) ?_
    refine WL.guardNo rfl rfl rfl rfl ?_
    refine WL.guardNo rfl rfl rfl rfl ?_
    refine WL.ex rfl (ex_pick_f (v := .bool false) rfl rfl) ?_
    refine WL.ex rfl (ex_assign (v := .bool false) rfl) ?_
    refine WL.nil ?_
    refine WC.ret ?_
    obtain rfl := Option.some.inj H
    exact ⟨_, (.tmp (.bool false : Value) rfl .nil), _, rfl, HF.out⟩

/-! ### dictumlaw01_OctetDigits -/
set_option maxRecDepth 100000 in
theorem dictumlaw01_OctetDigits.calls (k : Nat) (o0 : Tags) (w0 : World) (pA0 : Option Addr) (pc0 : Nat) (a0 : (List UInt8)) (a1 : List UInt8) (a2 : Int) (a3 : Int) (r : Bool) (hO : ∀ b, b < w0.heap.size → o0 b < 10) (hra0 : Row Rep.u8 (fun b_ => o0 b_ = 0) (fun b_ => o0 b_ = 0) w0 pA0 a0) (hla0 : a0.length ≤ pc0) (hG : Gl GG o0 w0) (H : dictumlaw01_OctetDigits.f k a0 a1 a2 a3 = some r) :
    Calls Tryd.prog 9 [.slice pA0 a0.length pc0, encS a1, .int .i64 a2, .int .i64 a3].toArray w0 fun e_ w_ => ∃ (o_ : Tags), e_ = .returned (one [.bool r]) ∧ Step o0 w0 o_ w_ [] := by
  have HF := Fm.refl hO []
  unfold dictumlaw01_OctetDigits.f at H
  refine SX.calls [.slice pA0 a0.length pc0, encS a1, .int .i64 a2, .int .i64 a3] Tryd.func9 rfl rfl ?_
  rw [Tryd.ntmps9]
  refine WC.seq ?_
  refine WC.region ?_
  refine WL.ex rfl (ex_assign (v := .bool false) rfl) ?_
  refine WL.nil ?_
  refine WC.seq ?_
  refine WC.region ?_
  refine WL.ex rfl (ex_move (v := .slice pA0 a0.length pc0) rfl) ?_
  obtain ⟨z101, hz101, H⟩ := bindE H
  refine WL.op rfl ?_
  refine OW.call [.slice pA0 a0.length pc0] rfl Tryd.func31 (by kernel_rfl) (by kernel_rfl) (map_cons' rfl rfl) (octet_Hex.calls k _ _ pA0 pc0 a0 z101 (HF.ten (V := [0]) (L := []) rfl) (Row.vw (V := [0]) (L := []) hra0 rfl) hla0 hz101) ?_
  rintro _ w102 ⟨o103, rfl, s104⟩
  refine ⟨_, rfl, ?_⟩
  replace s104 := un_stepL (J := []) (L' := []) s104 rfl rfl
  replace hra0 := hra0.step s104 rfl
  replace hG := hG.step s104 rfl
  replace HF := HF.step s104 rfl
  refine WL.ex rfl (ex_assign (v := encS z101) rfl) ?_
  refine WL.nil ?_
  refine WC.seq ?_
  refine WC.region ?_
  refine WL.ex rfl (ex_move (v := encS z101) rfl) ?_
  obtain ⟨z105, hz105, H⟩ := bindE H
  refine WL.op rfl ?_
  refine OW.call [encS z101] rfl Tryd.func32 (by kernel_rfl) (by kernel_rfl) (map_cons' rfl rfl) (octet_Unhex.calls k _ _ z101 z105 (HF.ten (V := [0]) (L := []) rfl)  hz105) ?_
  rintro _ w106 ⟨o107, v109, rfl, s108, hO110⟩
  refine ⟨_, rfl, ?_⟩
  replace hO110 := Own.un9 (J := [10]) 0 hO110 rfl s108 rfl rfl
  replace s108 := un_stepL (J := [10]) (L' := []) s108 rfl rfl
  replace hra0 := hra0.step s108 rfl
  replace hG := hG.step s108 rfl
  replace HF := HF.step s108 rfl
  refine WL.ex rfl (ex_move (v := .tuple #[v109, .int .i64 z105.2]) rfl) ?_
  refine WL.ex rfl (ex_extract (vs := #[v109, .int .i64 z105.2]) (v := v109) rfl rfl) ?_
  refine WL.ex rfl (ex_extract (vs := #[v109, .int .i64 z105.2]) (v := .int .i64 z105.2) rfl rfl) ?_
  refine WL.ex rfl (ex_assign (v := v109) rfl) ?_
  refine WL.ex rfl (ex_assign (v := .int .i64 z105.2) rfl) ?_
  refine WL.nil ?_
  refine WC.seq ?_
  refine WC.region ?_
  refine WL.ex rfl (ex_move (v := encS a1) rfl) ?_
  obtain ⟨z111, hz111, H⟩ := bindE H
  refine WL.op rfl ?_
  refine OW.call [encS a1] rfl Tryd.func32 (by kernel_rfl) (by kernel_rfl) (map_cons' rfl rfl) (octet_Unhex.calls k _ _ a1 z111 (HF.ten (V := [0]) (L := []) rfl)  hz111) ?_
  rintro _ w112 ⟨o113, v115, rfl, s114, hO116⟩
  refine ⟨_, rfl, ?_⟩
  replace hO116 := Own.un9 (J := [11]) 0 hO116 rfl s114 rfl rfl
  replace s114 := un_stepL (J := [11]) (L' := []) s114 rfl rfl
  replace hra0 := hra0.step s114 rfl
  replace hG := hG.step s114 rfl
  replace hO110 := hO110.step s114 rfl rfl
  replace HF := HF.step s114 rfl
  refine WL.ex rfl (ex_move (v := .tuple #[v115, .int .i64 z111.2]) rfl) ?_
  refine WL.ex rfl (ex_extract (vs := #[v115, .int .i64 z111.2]) (v := v115) rfl rfl) ?_
  refine WL.ex rfl (ex_extract (vs := #[v115, .int .i64 z111.2]) (v := .int .i64 z111.2) rfl rfl) ?_
  refine WL.ex rfl (ex_assign (v := v115) rfl) ?_
  refine WL.ex rfl (ex_assign (v := .int .i64 z111.2) rfl) ?_
  refine WL.nil ?_
  refine WC.seq ?_
  refine WC.region ?_
  refine WL.ex rfl (ex_move (v := encS a1) rfl) ?_
  obtain ⟨z117, hz117, H⟩ := bindE H
  refine WL.op rfl ?_
  refine OW.call [encS a1] rfl Tryd.func33 (by kernel_rfl) (by kernel_rfl) (map_cons' rfl rfl) (dictumref01_Unhex.calls k _ _ a1 z117 (HF.ten (V := [0]) (L := []) rfl)  hz117) ?_
  rintro _ w118 ⟨o119, v121, rfl, s120, hO122⟩
  refine ⟨_, rfl, ?_⟩
  replace hO122 := Own.un9 (J := [12]) 0 hO122 rfl s120 rfl rfl
  replace s120 := un_stepL (J := [12]) (L' := []) s120 rfl rfl
  replace hra0 := hra0.step s120 rfl
  replace hG := hG.step s120 rfl
  replace hO110 := hO110.step s120 rfl rfl
  replace hO116 := hO116.step s120 rfl rfl
  replace HF := HF.step s120 rfl
  refine WL.ex rfl (ex_move (v := .tuple #[v121, .int .i64 z117.2]) rfl) ?_
  refine WL.ex rfl (ex_extract (vs := #[v121, .int .i64 z117.2]) (v := v121) rfl rfl) ?_
  refine WL.ex rfl (ex_extract (vs := #[v121, .int .i64 z117.2]) (v := .int .i64 z117.2) rfl rfl) ?_
  refine WL.ex rfl (ex_assign (v := v121) rfl) ?_
  refine WL.ex rfl (ex_assign (v := .int .i64 z117.2) rfl) ?_
  refine WL.nil ?_
  refine WC.seq ?_
  refine WC.region ?_
  refine WL.ex rfl (ex_move (v := encS a1) rfl) ?_
  refine WL.ex rfl (ex_move (v := .int .i64 a3) rfl) ?_
  obtain ⟨z123, hz123, H⟩ := bindE H
  refine WL.op rfl ?_
  refine OW.call [encS a1, .int .i64 a3] rfl Tryd.func34 (by kernel_rfl) (by kernel_rfl) (map_cons' rfl (map_cons' rfl rfl)) (octet_Undec.calls _ _ a1 a3 z123 (HF.ten (V := [0]) (L := []) rfl) (Gl.vw (V := [0]) (L := []) hG rfl) hz123) ?_
  rintro _ w124 ⟨o125, rfl, s126⟩
  refine ⟨_, rfl, ?_⟩
  replace s126 := un_stepL (J := []) (L' := []) s126 rfl rfl
  replace hra0 := hra0.step s126 rfl
  replace hG := hG.step s126 rfl
  replace hO110 := hO110.step s126 rfl rfl
  replace hO116 := hO116.step s126 rfl rfl
  replace hO122 := hO122.step s126 rfl rfl
  replace HF := HF.step s126 rfl
  refine WL.ex rfl (ex_move (v := .tuple #[.int .i64 z123.1, .int .i64 z123.2]) rfl) ?_
  refine WL.ex rfl (ex_extract (vs := #[.int .i64 z123.1, .int .i64 z123.2]) (v := .int .i64 z123.1) rfl rfl) ?_
  refine WL.ex rfl (ex_extract (vs := #[.int .i64 z123.1, .int .i64 z123.2]) (v := .int .i64 z123.2) rfl rfl) ?_
  refine WL.ex rfl (ex_assign (v := .int .i64 z123.1) rfl) ?_
  refine WL.ex rfl (ex_assign (v := .int .i64 z123.2) rfl) ?_
  refine WL.nil ?_
  refine WC.seq ?_
  refine WC.region ?_
  refine WL.ex rfl (ex_move (v := encS a1) rfl) ?_
  refine WL.ex rfl (ex_move (v := .int .i64 a3) rfl) ?_
  obtain ⟨z127, hz127, H⟩ := bindE H
  refine WL.op rfl ?_
  refine OW.call [encS a1, .int .i64 a3] rfl Tryd.func35 (by kernel_rfl) (by kernel_rfl) (map_cons' rfl (map_cons' rfl rfl)) (dictumref01_Undec.calls k _ _ a1 a3 z127 (HF.ten (V := [0]) (L := []) rfl)  hz127) ?_
  rintro _ w128 ⟨o129, rfl, s130⟩
  refine ⟨_, rfl, ?_⟩
  replace s130 := un_stepL (J := []) (L' := []) s130 rfl rfl
  replace hra0 := hra0.step s130 rfl
  replace hG := hG.step s130 rfl
  replace hO110 := hO110.step s130 rfl rfl
  replace hO116 := hO116.step s130 rfl rfl
  replace hO122 := hO122.step s130 rfl rfl
  replace HF := HF.step s130 rfl
  refine WL.ex rfl (ex_move (v := .tuple #[.int .i64 z127.1, .int .i64 z127.2]) rfl) ?_
  refine WL.ex rfl (ex_extract (vs := #[.int .i64 z127.1, .int .i64 z127.2]) (v := .int .i64 z127.1) rfl rfl) ?_
  refine WL.ex rfl (ex_extract (vs := #[.int .i64 z127.1, .int .i64 z127.2]) (v := .int .i64 z127.2) rfl rfl) ?_
  refine WL.ex rfl (ex_assign (v := .int .i64 z127.1) rfl) ?_
  refine WL.ex rfl (ex_assign (v := .int .i64 z127.2) rfl) ?_
  refine WL.nil ?_
  refine WC.seq ?_
  refine WC.region ?_
  refine WL.ex rfl (ex_move (v := .int .i64 a2) rfl) ?_
  obtain ⟨z131, hz131, H⟩ := bindE H
  refine WL.op rfl ?_
  refine OW.call [.int .i64 a2] rfl Tryd.func36 (by kernel_rfl) (by kernel_rfl) (map_cons' rfl rfl) (octet_Dec.calls _ _ a2 z131 (HF.ten (V := [0]) (L := []) rfl) (Gl.vw (V := [0]) (L := []) hG rfl) hz131) ?_
  rintro _ w132 ⟨o133, rfl, s134⟩
  refine ⟨_, rfl, ?_⟩
  replace s134 := un_stepL (J := []) (L' := []) s134 rfl rfl
  replace hra0 := hra0.step s134 rfl
  replace hG := hG.step s134 rfl
  replace hO110 := hO110.step s134 rfl rfl
  replace hO116 := hO116.step s134 rfl rfl
  replace hO122 := hO122.step s134 rfl rfl
  replace HF := HF.step s134 rfl
  refine WL.ex rfl (ex_assign (v := encS z131) rfl) ?_
  refine WL.nil ?_
  refine WC.seq ?_
  obtain ⟨z136, hz136, H⟩ := bindE H
  refine WC.cut (fun ρ_ w_ => ∃ (o_ : Tags), Fm o0 w0 o_ w_ [] ∧ Gl GG o_ w_ ∧ ρ_ 2 = .int .i64 a2 ∧ ρ_ 8 = .bool false ∧ ρ_ 20 = encS z131 ∧ ρ_ 94 = .bool z136) ?case137 ?_
  case case137 =>
    rintro ρ140 w138 ⟨o139, HF, hG, s2_134, s8_134, s20_134, s94_135⟩
    rcases condE H with ⟨c141, H⟩ | ⟨c141, H⟩
    ·
      refine WC.cond_t ((show _ = Value.bool z136 from s94_135).trans (congrArg Value.bool c141)) ?_
      refine WC.seq ?_
      refine WC.region ?_
      refine WL.ex rfl (ex_assign (v := .bool false) rfl) ?_
      refine WL.nil ?_
      refine WC.ret ?_
      obtain rfl := Option.some.inj H
      exact ⟨_, (.tmp (.bool false : Value) rfl .nil), _, rfl, HF.out⟩
    ·
      refine WC.cond_f ((show _ = Value.bool z136 from s94_135).trans (congrArg Value.bool c141)) ?_
      refine WC.skip ?_
      refine WC.seq ?_
      obtain ⟨z143, hz143, H⟩ := bindE H
      refine WC.cut (fun ρ_ w_ => ∃ (o_ : Tags), Fm o0 w0 o_ w_ [] ∧ Gl GG o_ w_ ∧ ρ_ 2 = .int .i64 a2 ∧ ρ_ 8 = .bool false ∧ ρ_ 20 = encS z131 ∧ ρ_ 100 = .bool z143) ?case144 ?_
      case case144 =>
        rintro ρ147 w145 ⟨o146, HF, hG, s2_141, s8_141, s20_141, s100_142⟩
        rcases condE H with ⟨c148, H⟩ | ⟨c148, H⟩
        ·
          refine WC.cond_t ((show _ = Value.bool z143 from s100_142).trans (congrArg Value.bool c148)) ?_
          refine WC.seq ?_
          refine WC.region ?_
          obtain ⟨z149, hz149, H⟩ := bindE H
          refine WL.op rfl ?_
          refine OW.call [] rfl Tryd.func12 (by kernel_rfl) (by kernel_rfl) rfl (dictumlaw01_heads.calls k _ _ z149 (HF.ten (V := [0]) (L := []) rfl) (Gl.vw (V := [0]) (L := []) hG rfl) hz149) ?_
          rintro _ w150 ⟨o151, rfl, s152⟩
          refine ⟨_, rfl, ?_⟩
          replace s152 := un_stepL (J := []) (L' := []) s152 rfl rfl
          replace hG := hG.step s152 rfl
          replace HF := HF.step s152 rfl
          refine WL.ex rfl (ex_assign (v := .bool z149) rfl) ?_
          refine WL.nil ?_
          refine WC.ret ?_
          obtain rfl := Option.some.inj H
          exact ⟨_, (.tmp (.bool z149 : Value) rfl .nil), _, rfl, HF.out⟩
        ·
          refine WC.cond_f ((show _ = Value.bool z143 from s100_142).trans (congrArg Value.bool c148)) ?_
          refine WC.skip ?_
          refine WC.seq ?_
          refine WC.region ?_
          refine WL.ex rfl (ex_move (v := encS z131) s20_141) ?_
          refine WL.ex rfl (ex_move (v := .int .i64 a2) s2_141) ?_
          obtain ⟨z153, hz153, H⟩ := bindE H
          refine WL.op rfl ?_
          refine OW.call [encS z131, .int .i64 a2] rfl Tryd.func34 (by kernel_rfl) (by kernel_rfl) (map_cons' rfl (map_cons' rfl rfl)) (octet_Undec.calls _ _ z131 a2 z153 (HF.ten (V := [0]) (L := []) rfl) (Gl.vw (V := [0]) (L := []) hG rfl) hz153) ?_
          rintro _ w154 ⟨o155, rfl, s156⟩
          refine ⟨_, rfl, ?_⟩
          replace s156 := un_stepL (J := []) (L' := []) s156 rfl rfl
          replace hG := hG.step s156 rfl
          replace HF := HF.step s156 rfl
          refine WL.ex rfl (ex_move (v := .tuple #[.int .i64 z153.1, .int .i64 z153.2]) rfl) ?_
          refine WL.ex rfl (ex_extract (vs := #[.int .i64 z153.1, .int .i64 z153.2]) (v := .int .i64 z153.1) rfl rfl) ?_
          refine WL.ex rfl (ex_extract (vs := #[.int .i64 z153.1, .int .i64 z153.2]) (v := .int .i64 z153.2) rfl rfl) ?_
          refine WL.ex rfl (ex_assign (v := .int .i64 z153.1) rfl) ?_
          refine WL.ex rfl (ex_assign (v := .int .i64 z153.2) rfl) ?_
          refine WL.nil ?_
          refine WC.seq ?_
          refine WC.region ?_
          refine WL.ex rfl (ex_move (v := .int .i64 z153.1) rfl) ?_
          refine WL.ex rfl (ex_move (v := .int .i64 a2) s2_141) ?_
          refine WL.ex rfl (ex_bin (a := .int .i64 z153.1) (b := .int .i64 a2) (v := .bool (z153.1 == a2)) rfl rfl bin_eql) ?_
          refine WL.ex rfl (ex_move (v := .bool (z153.1 == a2)) rfl) ?_
          rcases condE H with ⟨c157, H⟩ | ⟨c157, H⟩
          ·
            refine WL.guardYes rfl rfl rfl ((show _ = Value.bool (z153.1 == a2) from rfl).trans (congrArg Value.bool c157)) ?_
            refine OW.ex rfl (ex_move (v := .int .i64 z153.2) rfl) ?_
            refine WL.guardYes rfl rfl rfl ((show _ = Value.bool (z153.1 == a2) from rfl).trans (congrArg Value.bool c157)) ?_
            refine OW.ex rfl (ex_bin (a := .int .i64 z153.2) (b := .int .i64 0) (v := .bool (z153.2 == 0)) rfl rfl bin_eql) ?_
            refine WL.ex rfl (ex_pick_t (v := .bool (z153.2 == 0)) ((show _ = Value.bool (z153.1 == a2) from rfl).trans (congrArg Value.bool c157)) rfl) ?_
            refine WL.ex rfl (ex_move (v := .bool (z153.2 == 0)) rfl) ?_
            rcases condE H with ⟨c158, H⟩ | ⟨c158, H⟩
            ·
              refine WL.guardYes rfl rfl rfl ((show _ = Value.bool (z153.2 == 0) from rfl).trans (congrArg Value.bool c158)) ?_
              obtain ⟨z159, hz159, H⟩ := bindE H
              refine OW.call [] rfl Tryd.func12 (by kernel_rfl) (by kernel_rfl) rfl (dictumlaw01_heads.calls k _ _ z159 (HF.ten (V := [0]) (L := []) rfl) (Gl.vw (V := [0]) (L := []) hG rfl) hz159) ?_
              rintro _ w160 ⟨o161, rfl, s162⟩
              refine ⟨_, rfl, ?_⟩
              replace s162 := un_stepL (J := []) (L' := []) s162 rfl rfl
              replace hG := hG.step s162 rfl
              replace HF := HF.step s162 rfl
              refine WL.ex rfl (ex_pick_t (v := .bool z159) ((show _ = Value.bool (z153.2 == 0) from rfl).trans (congrArg Value.bool c158)) rfl) ?_
              refine WL.ex rfl (ex_assign (v := .bool z159) rfl) ?_
              refine WL.nil ?_
              refine WC.ret ?_
              obtain rfl := Option.some.inj H
              exact ⟨_, (.tmp (.bool z159 : Value) rfl .nil), _, rfl, HF.out⟩
            ·
              refine WL.guardNo rfl rfl rfl ((show _ = Value.bool (z153.2 == 0) from rfl).trans (congrArg Value.bool c158)) ?_
              refine WL.ex rfl (ex_pick_f (v := .bool false) ((show _ = Value.bool (z153.2 == 0) from rfl).trans (congrArg Value.bool c158)) rfl) ?_
              refine WL.ex rfl (ex_assign (v := .bool false) rfl) ?_
              refine WL.nil ?_
              refine WC.ret ?_
              obtain rfl := Option.some.inj H
              exact ⟨_, (.tmp (.bool false : Value) rfl .nil), _, rfl, HF.out⟩
          ·
            refine WL.guardNo rfl rfl rfl ((show _ = Value.bool (z153.1 == a2) from rfl).trans (congrArg Value.bool c157)) ?_
            refine WL.guardNo rfl rfl rfl ((show _ = Value.bool (z153.1 == a2) from rfl).trans (congrArg Value.bool c157)) ?_
            refine WL.ex rfl (ex_pick_f (v := .bool false) ((show _ = Value.bool (z153.1 == a2) from rfl).trans (congrArg Value.bool c157)) rfl) ?_
            refine WL.ex rfl (ex_move (v := .bool false) rfl) ?_
            refine WL.guardNo rfl rfl rfl rfl ?_
            refine WL.ex rfl (ex_pick_f (v := .bool false) rfl rfl) ?_
            refine WL.ex rfl (ex_assign (v := .bool false) rfl) ?_
            refine WL.nil ?_
            refine WC.ret ?_
            obtain rfl := Option.some.inj H
            exact ⟨_, (.tmp (.bool false : Value) rfl .nil), _, rfl, HF.out⟩
      have Ho163 := H
      replace H := hz143
      refine WC.region ?_
      refine WL.ex rfl (ex_move (v := .int .i64 a2) s2_134) ?_
      refine WL.ex rfl (ex_bin (a := .int .i64 a2) (b := .int .i64 0) (v := .bool (decide (a2 < 0))) rfl rfl bin_lss) ?_
      refine WL.ex rfl (ex_move (v := .bool (decide (a2 < 0))) rfl) ?_
      rcases condE H with ⟨c164, H⟩ | ⟨c164, H⟩
      ·
        refine WL.guardNo rfl rfl rfl ((show _ = Value.bool (decide (a2 < 0)) from rfl).trans (congrArg Value.bool c164)) ?_
        refine WL.guardNo rfl rfl rfl ((show _ = Value.bool (decide (a2 < 0)) from rfl).trans (congrArg Value.bool c164)) ?_
        refine WL.ex rfl (ex_pick_t (v := .bool true) ((show _ = Value.bool (decide (a2 < 0)) from rfl).trans (congrArg Value.bool c164)) rfl) ?_
        refine WL.nil ?_
        obtain rfl := Option.some.inj H
        exact ⟨_, HF, hG, s2_134, s8_134, s20_134, rfl⟩
      ·
        refine WL.guardYes rfl rfl rfl ((show _ = Value.bool (decide (a2 < 0)) from rfl).trans (congrArg Value.bool c164)) ?_
        refine OW.ex rfl (ex_move (v := .int .i64 a2) s2_134) ?_
        refine WL.guardYes rfl rfl rfl ((show _ = Value.bool (decide (a2 < 0)) from rfl).trans (congrArg Value.bool c164)) ?_
        refine OW.ex rfl (ex_bin (a := .int .i64 a2) (b := .int .i64 9999999999) (v := .bool (decide (a2 > 9999999999))) rfl rfl bin_gtr) ?_
        refine WL.ex rfl (ex_pick_f (v := .bool (decide (a2 > 9999999999))) ((show _ = Value.bool (decide (a2 < 0)) from rfl).trans (congrArg Value.bool c164)) rfl) ?_
        refine WL.nil ?_
        obtain rfl := Option.some.inj H
        exact ⟨_, HF, hG, s2_134, s8_134, s20_134, rfl⟩
  have Ho165 := H
  replace H := hz136
  refine WC.region ?_
  refine WL.ex rfl (ex_move (v := encS z101) rfl) ?_
  refine WL.ex rfl (ex_move (v := .slice pA0 a0.length pc0) rfl) ?_
  obtain ⟨z166, hz166, H⟩ := bindE H
  refine WL.op rfl ?_
  refine OW.call [.slice pA0 a0.length pc0] rfl Tryd.func37 (by kernel_rfl) (by kernel_rfl) (map_cons' rfl rfl) (dictumref01_Hex.calls k _ _ pA0 pc0 a0 z166 (HF.ten (V := [0]) (L := []) rfl) (Row.vw (V := [0]) (L := []) hra0 rfl) hla0 hz166) ?_
  rintro _ w167 ⟨o168, rfl, s169⟩
  refine ⟨_, rfl, ?_⟩
  replace s169 := un_stepL (J := []) (L' := []) s169 rfl rfl
  replace hra0 := hra0.step s169 rfl
  replace hG := hG.step s169 rfl
  replace hO110 := hO110.step s169 rfl rfl
  replace hO116 := hO116.step s169 rfl rfl
  replace hO122 := hO122.step s169 rfl rfl
  replace HF := HF.step s169 rfl
  refine WL.ex rfl (ex_bin (a := encS z101) (b := encS z166) (v := .bool (!(z101 == z166))) rfl rfl bin_neq_str) ?_
  refine WL.ex rfl (ex_move (v := .bool (!(z101 == z166))) rfl) ?_
  rcases condE H with ⟨c170, H⟩ | ⟨c170, H⟩
  ·
    refine WL.guardNo rfl rfl rfl ((show _ = Value.bool (!(z101 == z166)) from rfl).trans (congrArg Value.bool c170)) ?_
    refine WL.guardNo rfl rfl rfl ((show _ = Value.bool (!(z101 == z166)) from rfl).trans (congrArg Value.bool c170)) ?_
    refine WL.ex rfl (ex_pick_t (v := .bool true) ((show _ = Value.bool (!(z101 == z166)) from rfl).trans (congrArg Value.bool c170)) rfl) ?_
    refine WL.ex rfl (ex_move (v := .bool true) rfl) ?_
    refine WL.guardNo rfl rfl rfl rfl ?_
    refine WL.guardNo rfl rfl rfl rfl ?_
    refine WL.guardNo rfl rfl rfl rfl ?_
    refine WL.guardNo rfl rfl rfl rfl ?_
    refine WL.ex rfl (ex_pick_t (v := .bool true) rfl rfl) ?_
    refine WL.ex rfl (ex_move (v := .bool true) rfl) ?_
    refine WL.guardNo rfl rfl rfl rfl ?_
    refine WL.guardNo rfl rfl rfl rfl ?_
    refine WL.guardNo rfl rfl rfl rfl ?_
    refine WL.guardNo rfl rfl rfl rfl ?_
    refine WL.ex rfl (ex_pick_t (v := .bool true) rfl rfl) ?_
    refine WL.ex rfl (ex_move (v := .bool true) rfl) ?_
    refine WL.guardNo rfl rfl rfl rfl ?_
    refine WL.guardNo rfl rfl rfl rfl ?_
    refine WL.guardNo rfl rfl rfl rfl ?_
    refine WL.ex rfl (ex_pick_t (v := .bool true) rfl rfl) ?_
    refine WL.ex rfl (ex_move (v := .bool true) rfl) ?_
    refine WL.guardNo rfl rfl rfl rfl ?_
    refine WL.guardNo rfl rfl rfl rfl ?_
    refine WL.guardNo rfl rfl rfl rfl ?_
    refine WL.ex rfl (ex_pick_t (v := .bool true) rfl rfl) ?_
    refine WL.ex rfl (ex_move (v := .bool true) rfl) ?_
    refine WL.guardNo rfl rfl rfl rfl ?_
    refine WL.guardNo rfl rfl rfl rfl ?_
    refine WL.guardNo rfl rfl rfl rfl ?_
    refine WL.ex rfl (ex_pick_t (v := .bool true) rfl rfl) ?_
    refine WL.ex rfl (ex_move (v := .bool true) rfl) ?_
    refine WL.guardNo rfl rfl rfl rfl ?_
    refine WL.guardNo rfl rfl rfl rfl ?_
    refine WL.guardNo rfl rfl rfl rfl ?_
    refine WL.guardNo rfl rfl rfl rfl ?_
    refine WL.ex rfl (ex_pick_t (v := .bool true) rfl rfl) ?_
    refine WL.nil ?_
    obtain rfl := Option.some.inj H
    exact ⟨_, HF, hG, rfl, rfl, rfl, rfl⟩
  ·
    refine WL.guardYes rfl rfl rfl ((show _ = Value.bool (!(z101 == z166)) from rfl).trans (congrArg Value.bool c170)) ?_
    refine OW.ex rfl (ex_move (v := .int .i64 z105.2) rfl) ?_
    refine WL.guardYes rfl rfl rfl ((show _ = Value.bool (!(z101 == z166)) from rfl).trans (congrArg Value.bool c170)) ?_
    refine OW.ex rfl (ex_bin (a := .int .i64 z105.2) (b := .int .i64 0) (v := .bool (z105.2 != 0)) rfl rfl bin_neq) ?_
    refine WL.ex rfl (ex_pick_f (v := .bool (z105.2 != 0)) ((show _ = Value.bool (!(z101 == z166)) from rfl).trans (congrArg Value.bool c170)) rfl) ?_
    refine WL.ex rfl (ex_move (v := .bool (z105.2 != 0)) rfl) ?_
    rcases condE H with ⟨c171, H⟩ | ⟨c171, H⟩
    ·
      refine WL.guardNo rfl rfl rfl ((show _ = Value.bool (z105.2 != 0) from rfl).trans (congrArg Value.bool c171)) ?_
      refine WL.guardNo rfl rfl rfl ((show _ = Value.bool (z105.2 != 0) from rfl).trans (congrArg Value.bool c171)) ?_
      refine WL.guardNo rfl rfl rfl ((show _ = Value.bool (z105.2 != 0) from rfl).trans (congrArg Value.bool c171)) ?_
      refine WL.guardNo rfl rfl rfl ((show _ = Value.bool (z105.2 != 0) from rfl).trans (congrArg Value.bool c171)) ?_
      refine WL.ex rfl (ex_pick_t (v := .bool true) ((show _ = Value.bool (z105.2 != 0) from rfl).trans (congrArg Value.bool c171)) rfl) ?_
      refine WL.ex rfl (ex_move (v := .bool true) rfl) ?_
      refine WL.guardNo rfl rfl rfl rfl ?_
      refine WL.guardNo rfl rfl rfl rfl ?_
      refine WL.guardNo rfl rfl rfl rfl ?_
      refine WL.guardNo rfl rfl rfl rfl ?_
      refine WL.ex rfl (ex_pick_t (v := .bool true) rfl rfl) ?_
      refine WL.ex rfl (ex_move (v := .bool true) rfl) ?_
      refine WL.guardNo rfl rfl rfl rfl ?_
      refine WL.guardNo rfl rfl rfl rfl ?_
      refine WL.guardNo rfl rfl rfl rfl ?_
      refine WL.ex rfl (ex_pick_t (v := .bool true) rfl rfl) ?_
      refine WL.ex rfl (ex_move (v := .bool true) rfl) ?_
      refine WL.guardNo rfl rfl rfl rfl ?_
      refine WL.guardNo rfl rfl rfl rfl ?_
      refine WL.guardNo rfl rfl rfl rfl ?_
      refine WL.ex rfl (ex_pick_t (v := .bool true) rfl rfl) ?_
      refine WL.ex rfl (ex_move (v := .bool true) rfl) ?_
      refine WL.guardNo rfl rfl rfl rfl ?_
      refine WL.guardNo rfl rfl rfl rfl ?_
      refine WL.guardNo rfl rfl rfl rfl ?_
      refine WL.ex rfl (ex_pick_t (v := .bool true) rfl rfl) ?_
      refine WL.ex rfl (ex_move (v := .bool true) rfl) ?_
      refine WL.guardNo rfl rfl rfl rfl ?_
      refine WL.guardNo rfl rfl rfl rfl ?_
      refine WL.guardNo rfl rfl rfl rfl ?_
      refine WL.guardNo rfl rfl rfl rfl ?_
      refine WL.ex rfl (ex_pick_t (v := .bool true) rfl rfl) ?_
      refine WL.nil ?_
      obtain rfl := Option.some.inj H
      exact ⟨_, HF, hG, rfl, rfl, rfl, rfl⟩
    ·
      refine WL.guardYes rfl rfl rfl ((show _ = Value.bool (z105.2 != 0) from rfl).trans (congrArg Value.bool c171)) ?_
      refine OW.ex rfl (ex_move (v := v109) rfl) ?_
      refine WL.guardYes rfl rfl rfl ((show _ = Value.bool (z105.2 != 0) from rfl).trans (congrArg Value.bool c171)) ?_
      refine OW.ex rfl (ex_move (v := .slice pA0 a0.length pc0) rfl) ?_
      refine WL.guardYes rfl rfl rfl ((show _ = Value.bool (z105.2 != 0) from rfl).trans (congrArg Value.bool c171)) ?_
      obtain ⟨A172, c173, q174e, q174l, q174⟩ := Own.vwRow (V := [0, 10]) (L := []) hO110 rfl rfl
      obtain ⟨z175, hz175, H⟩ := bindE H
      have q174e' := q174e
      refine OW.call [v109, .slice pA0 a0.length pc0] rfl Tryd.func11 (by kernel_rfl) (by kernel_rfl) (map_cons' rfl (map_cons' rfl rfl)) (by simp only [q174e]; exact (dictumref01_Same.calls k _ _ A172 c173 pA0 pc0 z105.1 a0 z175 (HF.ten (V := [0, 10]) (L := []) rfl) q174 q174l (Row.vw (V := [0, 10]) (L := []) hra0 rfl) hla0 hz175)) ?_
      rintro _ w176 ⟨o177, rfl, s178⟩
      refine ⟨_, rfl, ?_⟩
      replace s178 := un_stepL (J := []) (L' := []) s178 rfl rfl
      replace hra0 := hra0.step s178 rfl
      replace hG := hG.step s178 rfl
      replace hO110 := hO110.step s178 rfl rfl
      replace hO116 := hO116.step s178 rfl rfl
      replace hO122 := hO122.step s178 rfl rfl
      replace HF := HF.step s178 rfl
      refine WL.guardYes rfl rfl rfl ((show _ = Value.bool (z105.2 != 0) from rfl).trans (congrArg Value.bool c171)) ?_
      refine OW.ex rfl (ex_not (b := z175) rfl) ?_
      refine WL.ex rfl (ex_pick_f (v := .bool (!z175)) ((show _ = Value.bool (z105.2 != 0) from rfl).trans (congrArg Value.bool c171)) rfl) ?_
      refine WL.ex rfl (ex_move (v := .bool (!z175)) rfl) ?_
      rcases condE H with ⟨c179, H⟩ | ⟨c179, H⟩
      ·
        refine WL.guardNo rfl rfl rfl ((show _ = Value.bool (!z175) from rfl).trans (congrArg Value.bool c179)) ?_
        refine WL.guardNo rfl rfl rfl ((show _ = Value.bool (!z175) from rfl).trans (congrArg Value.bool c179)) ?_
        refine WL.guardNo rfl rfl rfl ((show _ = Value.bool (!z175) from rfl).trans (congrArg Value.bool c179)) ?_
        refine WL.guardNo rfl rfl rfl ((show _ = Value.bool (!z175) from rfl).trans (congrArg Value.bool c179)) ?_
        refine WL.ex rfl (ex_pick_t (v := .bool true) ((show _ = Value.bool (!z175) from rfl).trans (congrArg Value.bool c179)) rfl) ?_
        refine WL.ex rfl (ex_move (v := .bool true) rfl) ?_
        refine WL.guardNo rfl rfl rfl rfl ?_
        refine WL.guardNo rfl rfl rfl rfl ?_
        refine WL.guardNo rfl rfl rfl rfl ?_
        refine WL.ex rfl (ex_pick_t (v := .bool true) rfl rfl) ?_
        refine WL.ex rfl (ex_move (v := .bool true) rfl) ?_
        refine WL.guardNo rfl rfl rfl rfl ?_
        refine WL.guardNo rfl rfl rfl rfl ?_
        refine WL.guardNo rfl rfl rfl rfl ?_
        refine WL.ex rfl (ex_pick_t (v := .bool true) rfl rfl) ?_
        refine WL.ex rfl (ex_move (v := .bool true) rfl) ?_
        refine WL.guardNo rfl rfl rfl rfl ?_
        refine WL.guardNo rfl rfl rfl rfl ?_
        refine WL.guardNo rfl rfl rfl rfl ?_
        refine WL.ex rfl (ex_pick_t (v := .bool true) rfl rfl) ?_
        refine WL.ex rfl (ex_move (v := .bool true) rfl) ?_
        refine WL.guardNo rfl rfl rfl rfl ?_
        refine WL.guardNo rfl rfl rfl rfl ?_
        refine WL.guardNo rfl rfl rfl rfl ?_
        refine WL.guardNo rfl rfl rfl rfl ?_
        refine WL.ex rfl (ex_pick_t (v := .bool true) rfl rfl) ?_
        refine WL.nil ?_
        obtain rfl := Option.some.inj H
        exact ⟨_, HF, hG, rfl, rfl, rfl, rfl⟩
      ·
        refine WL.guardYes rfl rfl rfl ((show _ = Value.bool (!z175) from rfl).trans (congrArg Value.bool c179)) ?_
        refine OW.ex rfl (ex_move (v := v115) rfl) ?_
        refine WL.guardYes rfl rfl rfl ((show _ = Value.bool (!z175) from rfl).trans (congrArg Value.bool c179)) ?_
        refine OW.ex rfl (ex_move (v := v121) rfl) ?_
        refine WL.guardYes rfl rfl rfl ((show _ = Value.bool (!z175) from rfl).trans (congrArg Value.bool c179)) ?_
        obtain ⟨A180, c181, q182e, q182l, q182⟩ := Own.vwRow (V := [0, 11, 12]) (L := []) hO116 rfl rfl
        obtain ⟨A183, c184, q185e, q185l, q185⟩ := Own.vwRow (V := [0, 11, 12]) (L := []) hO122 rfl rfl
        obtain ⟨z186, hz186, H⟩ := bindE H
        have q182e' := q182e
        have q185e' := q185e
        refine OW.call [v115, v121] rfl Tryd.func11 (by kernel_rfl) (by kernel_rfl) (map_cons' rfl (map_cons' rfl rfl)) (by simp only [q182e, q185e]; exact (dictumref01_Same.calls k _ _ A180 c181 A183 c184 z111.1 z117.1 z186 (HF.ten (V := [0, 11, 12]) (L := []) rfl) q182 q182l q185 q185l hz186)) ?_
        rintro _ w187 ⟨o188, rfl, s189⟩
        refine ⟨_, rfl, ?_⟩
        replace s189 := un_stepL (J := []) (L' := []) s189 rfl rfl
        replace hra0 := hra0.step s189 rfl
        replace hG := hG.step s189 rfl
        replace hO110 := hO110.step s189 rfl rfl
        replace hO116 := hO116.step s189 rfl rfl
        replace hO122 := hO122.step s189 rfl rfl
        replace HF := HF.step s189 rfl
        refine WL.guardYes rfl rfl rfl ((show _ = Value.bool (!z175) from rfl).trans (congrArg Value.bool c179)) ?_
        refine OW.ex rfl (ex_not (b := z186) rfl) ?_
        refine WL.ex rfl (ex_pick_f (v := .bool (!z186)) ((show _ = Value.bool (!z175) from rfl).trans (congrArg Value.bool c179)) rfl) ?_
        refine WL.ex rfl (ex_move (v := .bool (!z186)) rfl) ?_
        rcases condE H with ⟨c190, H⟩ | ⟨c190, H⟩
        ·
          refine WL.guardNo rfl rfl rfl ((show _ = Value.bool (!z186) from rfl).trans (congrArg Value.bool c190)) ?_
          refine WL.guardNo rfl rfl rfl ((show _ = Value.bool (!z186) from rfl).trans (congrArg Value.bool c190)) ?_
          refine WL.guardNo rfl rfl rfl ((show _ = Value.bool (!z186) from rfl).trans (congrArg Value.bool c190)) ?_
          refine WL.ex rfl (ex_pick_t (v := .bool true) ((show _ = Value.bool (!z186) from rfl).trans (congrArg Value.bool c190)) rfl) ?_
          refine WL.ex rfl (ex_move (v := .bool true) rfl) ?_
          refine WL.guardNo rfl rfl rfl rfl ?_
          refine WL.guardNo rfl rfl rfl rfl ?_
          refine WL.guardNo rfl rfl rfl rfl ?_
          refine WL.ex rfl (ex_pick_t (v := .bool true) rfl rfl) ?_
          refine WL.ex rfl (ex_move (v := .bool true) rfl) ?_
          refine WL.guardNo rfl rfl rfl rfl ?_
          refine WL.guardNo rfl rfl rfl rfl ?_
          refine WL.guardNo rfl rfl rfl rfl ?_
          refine WL.ex rfl (ex_pick_t (v := .bool true) rfl rfl) ?_
          refine WL.ex rfl (ex_move (v := .bool true) rfl) ?_
          refine WL.guardNo rfl rfl rfl rfl ?_
          refine WL.guardNo rfl rfl rfl rfl ?_
          refine WL.guardNo rfl rfl rfl rfl ?_
          refine WL.guardNo rfl rfl rfl rfl ?_
          refine WL.ex rfl (ex_pick_t (v := .bool true) rfl rfl) ?_
          refine WL.nil ?_
          obtain rfl := Option.some.inj H
          exact ⟨_, HF, hG, rfl, rfl, rfl, rfl⟩
        ·
          refine WL.guardYes rfl rfl rfl ((show _ = Value.bool (!z186) from rfl).trans (congrArg Value.bool c190)) ?_
          refine OW.ex rfl (ex_move (v := .int .i64 z111.2) rfl) ?_
          refine WL.guardYes rfl rfl rfl ((show _ = Value.bool (!z186) from rfl).trans (congrArg Value.bool c190)) ?_
          refine OW.ex rfl (ex_move (v := .int .i64 z117.2) rfl) ?_
          refine WL.guardYes rfl rfl rfl ((show _ = Value.bool (!z186) from rfl).trans (congrArg Value.bool c190)) ?_
          refine OW.ex rfl (ex_bin (a := .int .i64 z111.2) (b := .int .i64 z117.2) (v := .bool (z111.2 != z117.2)) rfl rfl bin_neq) ?_
          refine WL.ex rfl (ex_pick_f (v := .bool (z111.2 != z117.2)) ((show _ = Value.bool (!z186) from rfl).trans (congrArg Value.bool c190)) rfl) ?_
          refine WL.ex rfl (ex_move (v := .bool (z111.2 != z117.2)) rfl) ?_
          rcases condE H with ⟨c191, H⟩ | ⟨c191, H⟩
          ·
            refine WL.guardNo rfl rfl rfl ((show _ = Value.bool (z111.2 != z117.2) from rfl).trans (congrArg Value.bool c191)) ?_
            refine WL.guardNo rfl rfl rfl ((show _ = Value.bool (z111.2 != z117.2) from rfl).trans (congrArg Value.bool c191)) ?_
            refine WL.guardNo rfl rfl rfl ((show _ = Value.bool (z111.2 != z117.2) from rfl).trans (congrArg Value.bool c191)) ?_
            refine WL.ex rfl (ex_pick_t (v := .bool true) ((show _ = Value.bool (z111.2 != z117.2) from rfl).trans (congrArg Value.bool c191)) rfl) ?_
            refine WL.ex rfl (ex_move (v := .bool true) rfl) ?_
            refine WL.guardNo rfl rfl rfl rfl ?_
            refine WL.guardNo rfl rfl rfl rfl ?_
            refine WL.guardNo rfl rfl rfl rfl ?_
            refine WL.ex rfl (ex_pick_t (v := .bool true) rfl rfl) ?_
            refine WL.ex rfl (ex_move (v := .bool true) rfl) ?_
            refine WL.guardNo rfl rfl rfl rfl ?_
            refine WL.guardNo rfl rfl rfl rfl ?_
            refine WL.guardNo rfl rfl rfl rfl ?_
            refine WL.guardNo rfl rfl rfl rfl ?_
            refine WL.ex rfl (ex_pick_t (v := .bool true) rfl rfl) ?_
            refine WL.nil ?_
            obtain rfl := Option.some.inj H
            exact ⟨_, HF, hG, rfl, rfl, rfl, rfl⟩
          ·
            refine WL.guardYes rfl rfl rfl ((show _ = Value.bool (z111.2 != z117.2) from rfl).trans (congrArg Value.bool c191)) ?_
            refine OW.ex rfl (ex_move (v := .int .i64 z123.1) rfl) ?_
            refine WL.guardYes rfl rfl rfl ((show _ = Value.bool (z111.2 != z117.2) from rfl).trans (congrArg Value.bool c191)) ?_
            refine OW.ex rfl (ex_move (v := .int .i64 z127.1) rfl) ?_
            refine WL.guardYes rfl rfl rfl ((show _ = Value.bool (z111.2 != z117.2) from rfl).trans (congrArg Value.bool c191)) ?_
            refine OW.ex rfl (ex_bin (a := .int .i64 z123.1) (b := .int .i64 z127.1) (v := .bool (z123.1 != z127.1)) rfl rfl bin_neq) ?_
            refine WL.ex rfl (ex_pick_f (v := .bool (z123.1 != z127.1)) ((show _ = Value.bool (z111.2 != z117.2) from rfl).trans (congrArg Value.bool c191)) rfl) ?_
            refine WL.ex rfl (ex_move (v := .bool (z123.1 != z127.1)) rfl) ?_
            rcases condE H with ⟨c192, H⟩ | ⟨c192, H⟩
            ·
              refine WL.guardNo rfl rfl rfl ((show _ = Value.bool (z123.1 != z127.1) from rfl).trans (congrArg Value.bool c192)) ?_
              refine WL.guardNo rfl rfl rfl ((show _ = Value.bool (z123.1 != z127.1) from rfl).trans (congrArg Value.bool c192)) ?_
              refine WL.guardNo rfl rfl rfl ((show _ = Value.bool (z123.1 != z127.1) from rfl).trans (congrArg Value.bool c192)) ?_
              refine WL.ex rfl (ex_pick_t (v := .bool true) ((show _ = Value.bool (z123.1 != z127.1) from rfl).trans (congrArg Value.bool c192)) rfl) ?_
              refine WL.ex rfl (ex_move (v := .bool true) rfl) ?_
              refine WL.guardNo rfl rfl rfl rfl ?_
              refine WL.guardNo rfl rfl rfl rfl ?_
              refine WL.guardNo rfl rfl rfl rfl ?_
              refine WL.guardNo rfl rfl rfl rfl ?_
              refine WL.ex rfl (ex_pick_t (v := .bool true) rfl rfl) ?_
              refine WL.nil ?_
              obtain rfl := Option.some.inj H
              exact ⟨_, HF, hG, rfl, rfl, rfl, rfl⟩
            ·
              refine WL.guardYes rfl rfl rfl ((show _ = Value.bool (z123.1 != z127.1) from rfl).trans (congrArg Value.bool c192)) ?_
              refine OW.ex rfl (ex_move (v := .int .i64 z123.2) rfl) ?_
              refine WL.guardYes rfl rfl rfl ((show _ = Value.bool (z123.1 != z127.1) from rfl).trans (congrArg Value.bool c192)) ?_
              refine OW.ex rfl (ex_move (v := .int .i64 z127.2) rfl) ?_
              refine WL.guardYes rfl rfl rfl ((show _ = Value.bool (z123.1 != z127.1) from rfl).trans (congrArg Value.bool c192)) ?_
              refine OW.ex rfl (ex_bin (a := .int .i64 z123.2) (b := .int .i64 z127.2) (v := .bool (z123.2 != z127.2)) rfl rfl bin_neq) ?_
              refine WL.ex rfl (ex_pick_f (v := .bool (z123.2 != z127.2)) ((show _ = Value.bool (z123.1 != z127.1) from rfl).trans (congrArg Value.bool c192)) rfl) ?_
              refine WL.ex rfl (ex_move (v := .bool (z123.2 != z127.2)) rfl) ?_
              rcases condE H with ⟨c193, H⟩ | ⟨c193, H⟩
              ·
                refine WL.guardNo rfl rfl rfl ((show _ = Value.bool (z123.2 != z127.2) from rfl).trans (congrArg Value.bool c193)) ?_
                refine WL.guardNo rfl rfl rfl ((show _ = Value.bool (z123.2 != z127.2) from rfl).trans (congrArg Value.bool c193)) ?_
                refine WL.guardNo rfl rfl rfl ((show _ = Value.bool (z123.2 != z127.2) from rfl).trans (congrArg Value.bool c193)) ?_
                refine WL.guardNo rfl rfl rfl ((show _ = Value.bool (z123.2 != z127.2) from rfl).trans (congrArg Value.bool c193)) ?_
                refine WL.ex rfl (ex_pick_t (v := .bool true) ((show _ = Value.bool (z123.2 != z127.2) from rfl).trans (congrArg Value.bool c193)) rfl) ?_
                refine WL.nil ?_
                obtain rfl := Option.some.inj H
                exact ⟨_, HF, hG, rfl, rfl, rfl, rfl⟩
              ·
                refine WL.guardYes rfl rfl rfl ((show _ = Value.bool (z123.2 != z127.2) from rfl).trans (congrArg Value.bool c193)) ?_
                refine OW.ex rfl (ex_move (v := encS z131) rfl) ?_
                refine WL.guardYes rfl rfl rfl ((show _ = Value.bool (z123.2 != z127.2) from rfl).trans (congrArg Value.bool c193)) ?_
                refine OW.ex rfl (ex_move (v := .int .i64 a2) rfl) ?_
                refine WL.guardYes rfl rfl rfl ((show _ = Value.bool (z123.2 != z127.2) from rfl).trans (congrArg Value.bool c193)) ?_
                obtain ⟨z194, hz194, H⟩ := bindE H
                refine OW.call [.int .i64 a2] rfl Tryd.func38 (by kernel_rfl) (by kernel_rfl) (map_cons' rfl rfl) (dictumref01_Dec.calls k _ _ a2 z194 (HF.ten (V := [0]) (L := []) rfl)  hz194) ?_
                rintro _ w195 ⟨o196, rfl, s197⟩
                refine ⟨_, rfl, ?_⟩
                replace s197 := un_stepL (J := []) (L' := []) s197 rfl rfl
                replace hra0 := hra0.step s197 rfl
                replace hG := hG.step s197 rfl
                replace hO110 := hO110.step s197 rfl rfl
                replace hO116 := hO116.step s197 rfl rfl
                replace hO122 := hO122.step s197 rfl rfl
                replace HF := HF.step s197 rfl
                refine WL.guardYes rfl rfl rfl ((show _ = Value.bool (z123.2 != z127.2) from rfl).trans (congrArg Value.bool c193)) ?_
                refine OW.ex rfl (ex_bin (a := encS z131) (b := encS z194) (v := .bool (!(z131 == z194))) rfl rfl bin_neq_str) ?_
                refine WL.ex rfl (ex_pick_f (v := .bool (!(z131 == z194))) ((show _ = Value.bool (z123.2 != z127.2) from rfl).trans (congrArg Value.bool c193)) rfl) ?_
                refine WL.nil ?_
                obtain rfl := Option.some.inj H
                exact ⟨_, HF, hG, rfl, rfl, rfl, rfl⟩
end Go.Proofs.YtaidlahjngmenaaDoor.X
