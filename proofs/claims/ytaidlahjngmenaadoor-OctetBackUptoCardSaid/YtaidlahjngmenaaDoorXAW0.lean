import Derived.Test.YtaidlahjngmenaaDoorXAD
import Derived.Test.YtaidlahjngmenaaDoorProg
import Derived.Test.YtaidlahjngmenaaDoorShelf
set_option maxRecDepth 20000
set_option linter.unusedVariables false
set_option linter.unusedSimpArgs false
namespace Go.Proofs.YtaidlahjngmenaaDoor.X
open Go Go.RowKit Go.Proofs.YtaidlahjngmenaaDoor.SX
/-! What the program's variables hold -/
def GG : Glob := { L := [0, 1, 5, 3, 4], T := fun w => Lib.Utf8Tabs 0 1 w ∧ Lib.TabIs Tryd.prog w "internal/strconv.uint64pow10" .u64 Lib.pow10Tab ∧ (∃ tp p, w.var? Tryd.prog "strconv.ErrSyntax" = some #[.iface tp p]) ∧ (∃ tp p, w.var? Tryd.prog "strconv.ErrRange" = some #[.iface tp p]), move := fun {w w'} hk h => ⟨⟨fun c hc => by rw [cell_move (w := w) (hk 0 (by simp))]; exact h.1.1 c hc, fun i hi => ⟨by rw [cell_move (w := w) (hk 1 (by simp))]; exact (h.1.2 i hi).1, by rw [cell_move (w := w) (hk 1 (by simp))]; exact (h.1.2 i hi).2⟩⟩, (var_move (by kernel_rfl : Tryd.prog.globalNamed "internal/strconv.uint64pow10" = some 5) (hk 5 (by simp))).trans h.2.1, (by obtain ⟨tp, p, e⟩ := h.2.2.1; exact ⟨tp, p, (var_move (by kernel_rfl : Tryd.prog.globalNamed "strconv.ErrSyntax" = some 3) (hk 3 (by simp))).trans e⟩), (by obtain ⟨tp, p, e⟩ := h.2.2.2; exact ⟨tp, p, (var_move (by kernel_rfl : Tryd.prog.globalNamed "strconv.ErrRange" = some 4) (hk 4 (by simp))).trans e⟩)⟩ }

theorem inf5 : (Tryd.prog.info? 5).map (fun i => (i.zero, i.size, i.bytes)) = some (some (.int .u8 0), 1, 1) := by kernel_rfl
theorem inf31 : (Tryd.prog.info? 31).map (fun i => (i.zero, i.size, i.bytes)) = some (some (.agg #[.int .i64 0, .int .u64 0, .string ⟨#[]⟩]), 3, 32) := by kernel_rfl
theorem sz3 : (Tryd.prog.info? 3).map (·.size) = some 1 := by kernel_rfl
theorem sz4 : (Tryd.prog.info? 4).map (·.size) = some 1 := by kernel_rfl
theorem sz5 : (Tryd.prog.info? 5).map (·.size) = some 1 := by kernel_rfl
theorem sz9 : (Tryd.prog.info? 9).map (·.size) = some 1 := by kernel_rfl
theorem sz24 : (Tryd.prog.info? 24).map (·.size) = some 1 := by kernel_rfl
theorem sz29 : (Tryd.prog.info? 29).map (·.size) = some 1 := by kernel_rfl
theorem sz31 : (Tryd.prog.info? 31).map (·.size) = some 3 := by kernel_rfl
theorem sz68 : (Tryd.prog.info? 68).map (·.size) = some 2 := by kernel_rfl
theorem sz96 : (Tryd.prog.info? 96).map (·.size) = some 2 := by kernel_rfl
theorem zr5 : (Tryd.prog.info? 5).map (·.zero) = some (some (.int .u8 0)) := by kernel_rfl
theorem zr24 : (Tryd.prog.info? 24).map (·.zero) = some (some (.slice none 0 0)) := by kernel_rfl
theorem zr26 : (Tryd.prog.info? 26).map (·.zero) = some (some (.agg #[.slice none 0 0])) := by kernel_rfl
theorem zr31 : (Tryd.prog.info? 31).map (·.zero) = some (some (.agg #[.int .i64 0, .int .u64 0, .string ⟨#[]⟩])) := by kernel_rfl
theorem zr68 : (Tryd.prog.info? 68).map (·.zero) = some (some (.agg #[.bool false, .slice none 0 0])) := by kernel_rfl
theorem zr96 : (Tryd.prog.info? 96).map (·.zero) = some (some (.agg #[.int .u8 0, .int .u8 0])) := by kernel_rfl

/-! ### octet_Writer_U8 -/
set_option maxRecDepth 100000 in
theorem octet_Writer_U8.calls (o0 : Tags) (w0 : World) (pb0 : Nat) (pv0_0 : Value) (a0 : T_octet_Writer) (a1 : UInt8) (r : T_octet_Writer) (hO : ∀ b, b < w0.heap.size → o0 b < 10) (hB0 : Bk o0 w0 2 pb0 [pv0_0] 26) (hO0_0 : Own Rep.u8 5 3 o0 w0 pv0_0 a0.f_B) (H : octet_Writer_U8.f a0 a1 = some r) :
    Calls Tryd.prog 27 [.pointer (some ⟨pb0, 0, none⟩), enc8 a1].toArray w0 fun e_ w_ => ∃ (o_ : Tags) (u0_0 : Value), e_ = .returned (one []) ∧ Step o0 w0 o_ w_ [2, 3] ∧ Bk o_ w_ 2 pb0 [u0_0] 26 ∧ Own Rep.u8 5 3 o_ w_ u0_0 r.f_B := by
  have HF := Fm.refl hO [2, 3]
  unfold octet_Writer_U8.f at H
  refine SX.calls [.pointer (some ⟨pb0, 0, none⟩), enc8 a1] Tryd.func27 rfl rfl ?_
  rw [Tryd.ntmps27]
  refine WC.seq ?_
  refine WC.region ?_
  refine WL.ex rfl (ex_move (v := .pointer (some ⟨pb0, 0, none⟩)) rfl) ?_
  refine WL.ex rfl (ex_bin (a := .pointer (some ⟨pb0, 0, none⟩)) (b := .pointer none) (v := .bool true) rfl rfl (bin_neq_ptrSN Tryd.underlying23)) ?_
  refine WL.nil ?_
  refine WC.cond_t rfl ?_
  refine WC.region ?_
  refine WL.ex rfl (ex_move (v := .pointer (some ⟨pb0, 0, none⟩)) rfl) ?_
  refine WL.ex rfl (ex_move (v := .pointer (some ⟨pb0, 0, none⟩)) rfl) ?_
  refine WL.ex rfl (ex_nilCheck rfl) ?_
  refine WL.ex rfl (ex_fieldAddr rfl Tryd.underlying26 rfl sz24) ?_
  refine WL.ex rfl (ex_load1 (v := pv0_0) rfl Tryd.underlying24 rfl (hB0.cell rfl)) ?_
  refine WL.ex rfl (ex_move (v := enc8 a1) rfl) ?_
  refine WL.op rfl ?_
  refine OW.row (r := Rep.u8) (xs := [a1]) [(0, enc8 a1)] [[enc8 a1]] 10 HF rfl Tryd.underlying24 sz5 zr5 rfl (evs_cons rfl rfl) rfl rfl ⟨rfl, trivial⟩ rfl rfl rfl rfl ?_
  intro o101 w102 v104 s103 hO105
  replace hO0_0 := hO0_0.step s103 rfl rfl
  replace hB0 := hB0.step s103 rfl
  replace HF := HF.step s103 rfl
  obtain ⟨A106, c107, q108_, _, q108⟩ := hO105.row
  obtain ⟨u109, hu109, H⟩ := bindE H
  refine WL.op rfl ?_
  refine OW.append (r := Rep.u8) (E := 5) (i := 3) rfl Tryd.underlying24 inf5 rfl (by decide) (by decide) (by decide) rfl ((show _ = (v104 : Value) from rfl).trans q108_) hO0_0 q108 rfl (of_decide_eq_true (chk_true hu109)) ?_
  intro o110 w111 v112 s113 hO114
  replace hB0 := hB0.step s113 rfl
  replace hO105 := hO105.step s113 rfl rfl
  replace HF := HF.step s113 rfl
  refine WL.ex rfl (ex_nilCheck rfl) ?_
  refine WL.ex rfl (ex_fieldAddr rfl Tryd.underlying26 rfl sz24) ?_
  refine WL.op rfl ?_
  refine OW.store [v112] rfl (vs := [v112]) ((congrArg Value.cells (show ev _ _ = (v112 : Value) from rfl)).trans (Own.cells1 hO114)) sz24 hB0 (Nat.le_of_ble_eq_true rfl) (by intro u_ hu_; simp only [List.mem_cons, List.not_mem_nil, or_false] at hu_; rcases hu_ with rfl; first | rfl | exact Own.oneCell hO114) rfl ?_
  intro w115 s116 hB117
  replace hO105 := hO105.step s116 rfl rfl
  replace hO114 := hO114.step s116 rfl rfl
  replace HF := HF.step s116 rfl
  refine WL.nil ?_
  obtain rfl := Option.some.inj H
  exact ⟨_, .nil, _, v112, rfl, HF.out, hB117, hO114⟩

/-! ### octet_Writer_Num -/
set_option maxRecDepth 100000 in
theorem octet_Writer_Num.calls (k : Nat) (o0 : Tags) (w0 : World) (pb0 : Nat) (pv0_0 : Value) (a0 : T_octet_Writer) (a1 : UInt64) (r : T_octet_Writer) (hO : ∀ b, b < w0.heap.size → o0 b < 10) (hB0 : Bk o0 w0 2 pb0 [pv0_0] 26) (hO0_0 : Own Rep.u8 5 3 o0 w0 pv0_0 a0.f_B) (H : octet_Writer_Num.f k a0 a1 = some r) :
    Calls Tryd.prog 28 [.pointer (some ⟨pb0, 0, none⟩), enc64 a1].toArray w0 fun e_ w_ => ∃ (o_ : Tags) (u0_0 : Value), e_ = .returned (one []) ∧ Step o0 w0 o_ w_ [2, 3] ∧ Bk o_ w_ 2 pb0 [u0_0] 26 ∧ Own Rep.u8 5 3 o_ w_ u0_0 r.f_B := by
  have HF := Fm.refl hO [2, 3]
  unfold octet_Writer_Num.f at H
  refine SX.calls [.pointer (some ⟨pb0, 0, none⟩), enc64 a1] Tryd.func28 rfl rfl ?_
  rw [Tryd.ntmps28]
  refine WC.seq ?_
  obtain ⟨z109, hz109, H⟩ := bindE H
  obtain ⟨x105, x106⟩ := z109
  refine WC.for (fun k_ ρ_ w_ => ∃ (o_ : Tags) (x101 : UInt64) (x102 : T_octet_Writer) (v103 : Value), Fm o0 w0 o_ w_ [2, 3] ∧ Bk o_ w_ 2 pb0 [v103] 26 ∧ Own Rep.u8 5 3 o_ w_ v103 x102.f_B ∧ ρ_ 0 = .pointer (some ⟨pb0, 0, none⟩) ∧ ρ_ 1 = enc64 x101 ∧ octet_Writer_Num.l1 k k_ x101 x102 = some (x105, x106)) k (fun ρ_ w_ => ∃ (o_ : Tags) (v107 : Value), Fm o0 w0 o_ w_ [2, 3] ∧ Bk o_ w_ 2 pb0 [v107] 26 ∧ Own Rep.u8 5 3 o_ w_ v107 x106.f_B ∧ ρ_ 0 = .pointer (some ⟨pb0, 0, none⟩) ∧ ρ_ 1 = enc64 x105) ⟨_, a1, a0, _, HF, hB0, hO0_0, rfl, rfl, hz109⟩ ?case110 ?_
  case case110 =>
    rintro ρ126 w124 ⟨o125, v107, HF, hB0, hO108, s0_104, s1_105⟩
    refine WC.region ?_
    refine WL.ex rfl (ex_move (v := .pointer (some ⟨pb0, 0, none⟩)) s0_104) ?_
    refine WL.ex rfl (ex_move (v := enc64 x105) s1_105) ?_
    refine WL.ex rfl (ex_conv_u8 (k := .u64) (a := (x105.toNat : Int)) rfl Tryd.underlying29 Tryd.underlying5) ?_
    obtain ⟨z127, hz127, H⟩ := bindE H
    refine WL.op rfl ?_
    refine OW.call [.pointer (some ⟨pb0, 0, none⟩), enc8 (ofI8 (x105.toNat : Int))] rfl Tryd.func27 (by kernel_rfl) (by kernel_rfl) (map_cons' rfl (map_cons' rfl rfl)) (octet_Writer_U8.calls _ _ pb0 v107 x106 (ofI8 (x105.toNat : Int)) z127 (HF.ten (V := [0]) (L := [2, 3]) rfl) (Bk.vw (V := [0]) (L := [2, 3]) hB0 rfl) (Own.vw (V := [0]) (L := [2, 3]) hO108 rfl rfl) hz127) ?_
    rintro _ w128 ⟨o129, v132, rfl, s130, hB131, hO133⟩
    refine ⟨_, rfl, ?_⟩
    replace hB131 := Bk.unO (J := []) 0 hB131 s130 rfl rfl rfl
    replace hO133 := Own.unO (J := []) 1 hO133 s130 rfl rfl rfl
    replace s130 := un_stepL (J := []) (L' := [2, 3]) s130 rfl rfl
    replace HF := HF.step s130 rfl
    refine WL.nil ?_
    obtain rfl := Option.some.inj H
    exact ⟨_, .nil, _, v132, rfl, HF.out, hB131, hO133⟩
  have Ho111 := H
  rintro k112 ρ113 w114 ⟨o115, x101, x102, v103, HF, hB0, hO104, s0_100, s1_101, H⟩
  cases k112 with
  | zero => cases H
  | succ k112 =>
  rw [octet_Writer_Num.l1.eq_2] at H
  refine WC.seq ?_
  refine WC.seq ?_
  refine WC.region ?_
  refine WL.ex rfl (ex_move (v := enc64 x101) s1_101) ?_
  refine WL.ex rfl (ex_bin (a := enc64 x101) (b := enc64 (128 : UInt64)) (v := .bool (decide ((128 : UInt64) ≤ x101))) rfl rfl bin_geq_u64) ?_
  refine WL.nil ?_
  rcases condE H with ⟨c116, H⟩ | ⟨c116, H⟩
  ·
    refine WC.cond_t ((show _ = Value.bool (decide ((128 : UInt64) ≤ x101)) from rfl).trans (congrArg Value.bool c116)) ?_
    refine WC.skip ?_
    refine WC.block ?_
    refine WC.seq ?_
    refine WC.region ?_
    refine WL.ex rfl (ex_move (v := .pointer (some ⟨pb0, 0, none⟩)) s0_100) ?_
    refine WL.ex rfl (ex_move (v := enc64 x101) s1_101) ?_
    refine WL.ex rfl (ex_conv_u8 (k := .u64) (a := (x101.toNat : Int)) rfl Tryd.underlying29 Tryd.underlying5) ?_
    refine WL.ex rfl (ex_bin (a := enc8 (ofI8 (x101.toNat : Int))) (b := enc8 (128 : UInt8)) (v := enc8 ((ofI8 (x101.toNat : Int)) ||| (128 : UInt8))) rfl rfl bin_or_u8) ?_
    obtain ⟨z117, hz117, H⟩ := bindE H
    refine WL.op rfl ?_
    refine OW.call [.pointer (some ⟨pb0, 0, none⟩), enc8 ((ofI8 (x101.toNat : Int)) ||| (128 : UInt8))] rfl Tryd.func27 (by kernel_rfl) (by kernel_rfl) (map_cons' rfl (map_cons' rfl rfl)) (octet_Writer_U8.calls _ _ pb0 v103 x102 ((ofI8 (x101.toNat : Int)) ||| (128 : UInt8)) z117 (HF.ten (V := [0]) (L := [2, 3]) rfl) (Bk.vw (V := [0]) (L := [2, 3]) hB0 rfl) (Own.vw (V := [0]) (L := [2, 3]) hO104 rfl rfl) hz117) ?_
    rintro _ w118 ⟨o119, v122, rfl, s120, hB121, hO123⟩
    refine ⟨_, rfl, ?_⟩
    replace hB121 := Bk.unO (J := []) 0 hB121 s120 rfl rfl rfl
    replace hO123 := Own.unO (J := []) 1 hO123 s120 rfl rfl rfl
    replace s120 := un_stepL (J := []) (L' := [2, 3]) s120 rfl rfl
    replace HF := HF.step s120 rfl
    refine WL.nil ?_
    refine WC.region ?_
    refine WL.ex rfl (ex_move (v := enc64 x101) s1_101) ?_
    refine WL.ex rfl (ex_bin (a := enc64 x101) (b := enc64 (7 : UInt64)) (v := enc64 (shr64 x101 7)) rfl rfl (bin_shr_u64n (n := 7))) ?_
    refine WL.ex rfl (ex_assign (v := enc64 (shr64 x101 7)) rfl) ?_
    refine WL.nil ?_
    exact ⟨k112, Nat.lt_succ_self _, ⟨_, shr64 x101 7, z117, _, HF, hB121, hO123, s0_100, rfl, H⟩⟩
  ·
    refine WC.cond_f ((show _ = Value.bool (decide ((128 : UInt64) ≤ x101)) from rfl).trans (congrArg Value.bool c116)) ?_
    refine WC.exit ?_
    obtain ⟨rfl, rfl⟩ := Prod.mk.inj (Option.some.inj H)
    exact ⟨_, _, HF, hB0, hO104, s0_100, s1_101⟩

/-! ### dictumref01_Num -/
set_option maxRecDepth 100000 in
theorem dictumref01_Num.calls (k : Nat) (o0 : Tags) (w0 : World) (a0 : UInt64) (r : (List UInt8)) (hO : ∀ b, b < w0.heap.size → o0 b < 10) (H : dictumref01_Num.f k a0 = some r) :
    Calls Tryd.prog 39 [enc64 a0].toArray w0 fun e_ w_ => ∃ (o_ : Tags) (rv0 : Value), e_ = .returned (one [rv0]) ∧ Step o0 w0 o_ w_ [] ∧ Own Rep.u8 5 9 o_ w_ rv0 r := by
  have HF := Fm.refl hO []
  unfold dictumref01_Num.f at H
  refine SX.calls [enc64 a0] Tryd.func39 rfl rfl ?_
  rw [Tryd.ntmps39]
  refine WC.seq ?_
  refine WC.region ?_
  refine WL.ex rfl (ex_assign (v := .slice none ([] : List UInt8).length 0) rfl) ?_
  refine WL.nil ?_
  refine WC.seq ?_
  refine WC.region ?_
  refine WL.ex rfl (ex_assign (v := .slice none ([] : List UInt8).length 0) rfl) ?_
  refine WL.nil ?_
  refine WC.seq ?_
  obtain ⟨z109, hz109, H⟩ := bindE H
  obtain ⟨x105, x108⟩ := z109
  refine WC.for (fun k_ ρ_ w_ => ∃ (o_ : Tags) (x101 : UInt64) (x104 : (List UInt8)) (v102 : Value), Fm o0 w0 o_ w_ [] ∧ Own Rep.u8 5 11 o_ w_ v102 x104 ∧ ρ_ 0 = enc64 x101 ∧ ρ_ 2 = .slice none ([] : List UInt8).length 0 ∧ ρ_ 3 = v102 ∧ dictumref01_Num.l1 k k_ x101 x104 = some (x105, x108)) k (fun ρ_ w_ => ∃ (o_ : Tags) (v106 : Value), Fm o0 w0 o_ w_ [] ∧ Own Rep.u8 5 11 o_ w_ v106 x108 ∧ ρ_ 0 = enc64 x105 ∧ ρ_ 2 = .slice none ([] : List UInt8).length 0 ∧ ρ_ 3 = v106) ⟨_, a0, ([] : List UInt8), _, HF, Own.nil, rfl, rfl, rfl, hz109⟩ ?case110 ?_
  case case110 =>
    rintro ρ133 w131 ⟨o132, v106, HF, hO107, s0_105, s2_105, s3_108⟩
    refine WC.seq ?_
    refine WC.region ?_
    refine WL.ex rfl (ex_move (v := v106) s3_108) ?_
    refine WL.ex rfl (ex_move (v := enc64 x105) s0_105) ?_
    refine WL.ex rfl (ex_conv_u8 (k := .u64) (a := (x105.toNat : Int)) rfl Tryd.underlying29 Tryd.underlying5) ?_
    refine WL.op rfl ?_
    refine OW.row (r := Rep.u8) (xs := [ofI8 (x105.toNat : Int)]) [(0, enc8 (ofI8 (x105.toNat : Int)))] [[enc8 (ofI8 (x105.toNat : Int))]] 11 HF rfl Tryd.underlying24 sz5 zr5 rfl (evs_cons rfl rfl) rfl rfl ⟨rfl, trivial⟩ rfl rfl rfl rfl ?_
    intro o134 w135 v137 s136 hO138
    replace hO107 := hO107.step s136 rfl rfl
    replace HF := HF.step s136 rfl
    obtain ⟨A139, c140, q141_, _, q141⟩ := hO138.row
    obtain ⟨u142, hu142, H⟩ := bindE H
    refine WL.op rfl ?_
    refine OW.append (r := Rep.u8) (E := 5) (i := 11) rfl Tryd.underlying24 inf5 rfl (by decide) (by decide) (by decide) rfl ((show _ = (v137 : Value) from rfl).trans q141_) hO107 q141 rfl (of_decide_eq_true (chk_true hu142)) ?_
    intro o143 w144 v145 s146 hO147
    replace HF := HF.step s146 rfl
    refine WL.ex rfl (ex_assign (v := v145) rfl) ?_
    refine WL.nil ?_
    refine WC.ret ?_
    obtain rfl := Option.some.inj H
    replace hO147 := Own.renTo (j := 9) hO147 rfl
    replace HF := HF.ren (i := 11) (j := 9) rfl
    exact ⟨_, (.tmp (v145 : Value) rfl .nil), _, v145, rfl, HF.out, hO147⟩
  have Ho111 := H
  rintro k112 ρ113 w114 ⟨o115, x101, x104, v102, HF, hO103, s0_101, s2_101, s3_104, H⟩
  cases k112 with
  | zero => cases H
  | succ k112 =>
  rw [dictumref01_Num.l1.eq_2] at H
  refine WC.seq ?_
  refine WC.seq ?_
  refine WC.region ?_
  refine WL.ex rfl (ex_move (v := enc64 x101) s0_101) ?_
  refine WL.ex rfl (ex_bin (a := enc64 x101) (b := enc64 (127 : UInt64)) (v := .bool (decide ((127 : UInt64) < x101))) rfl rfl bin_gtr_u64) ?_
  refine WL.nil ?_
  rcases condE H with ⟨c116, H⟩ | ⟨c116, H⟩
  ·
    refine WC.cond_t ((show _ = Value.bool (decide ((127 : UInt64) < x101)) from rfl).trans (congrArg Value.bool c116)) ?_
    refine WC.skip ?_
    refine WC.block ?_
    refine WC.seq ?_
    refine WC.region ?_
    refine WL.ex rfl (ex_move (v := v102) s3_104) ?_
    refine WL.ex rfl (ex_move (v := enc64 x101) s0_101) ?_
    refine WL.ex rfl (ex_bin (a := enc64 x101) (b := enc64 (127 : UInt64)) (v := enc64 (x101 &&& (127 : UInt64))) rfl rfl bin_and_u64) ?_
    refine WL.ex rfl (ex_conv_u8 (k := .u64) (a := ((x101 &&& (127 : UInt64)).toNat : Int)) rfl Tryd.underlying29 Tryd.underlying5) ?_
    refine WL.ex rfl (ex_bin (a := enc8 (ofI8 ((x101 &&& (127 : UInt64)).toNat : Int))) (b := enc8 (128 : UInt8)) (v := enc8 ((ofI8 ((x101 &&& (127 : UInt64)).toNat : Int)) ||| (128 : UInt8))) rfl rfl bin_or_u8) ?_
    refine WL.op rfl ?_
    refine OW.row (r := Rep.u8) (xs := [((ofI8 ((x101 &&& (127 : UInt64)).toNat : Int)) ||| (128 : UInt8))]) [(0, enc8 ((ofI8 ((x101 &&& (127 : UInt64)).toNat : Int)) ||| (128 : UInt8)))] [[enc8 ((ofI8 ((x101 &&& (127 : UInt64)).toNat : Int)) ||| (128 : UInt8))]] 10 HF rfl Tryd.underlying24 sz5 zr5 rfl (evs_cons rfl rfl) rfl rfl ⟨rfl, trivial⟩ rfl rfl rfl rfl ?_
    intro o117 w118 v120 s119 hO121
    replace hO103 := hO103.step s119 rfl rfl
    replace HF := HF.step s119 rfl
    obtain ⟨A122, c123, q124_, _, q124⟩ := hO121.row
    obtain ⟨u125, hu125, H⟩ := bindE H
    refine WL.op rfl ?_
    refine OW.append (r := Rep.u8) (E := 5) (i := 11) rfl Tryd.underlying24 inf5 rfl (by decide) (by decide) (by decide) rfl ((show _ = (v120 : Value) from rfl).trans q124_) hO103 q124 rfl (of_decide_eq_true (chk_true hu125)) ?_
    intro o126 w127 v128 s129 hO130
    replace hO121 := hO121.step s129 rfl rfl
    replace HF := HF.step s129 rfl
    refine WL.ex rfl (ex_assign (v := v128) rfl) ?_
    refine WL.nil ?_
    refine WC.region ?_
    refine WL.ex rfl (ex_move (v := enc64 x101) s0_101) ?_
    refine WL.ex rfl (ex_bin (a := enc64 x101) (b := enc64 (7 : UInt64)) (v := enc64 (shr64 x101 7)) rfl rfl (bin_shr_u64n (n := 7))) ?_
    refine WL.ex rfl (ex_assign (v := enc64 (shr64 x101 7)) rfl) ?_
    refine WL.nil ?_
    exact ⟨k112, Nat.lt_succ_self _, ⟨_, shr64 x101 7, (x104 ++ [((ofI8 ((x101 &&& (127 : UInt64)).toNat : Int)) ||| (128 : UInt8))]), _, HF, hO130, rfl, s2_101, rfl, H⟩⟩
  ·
    refine WC.cond_f ((show _ = Value.bool (decide ((127 : UInt64) < x101)) from rfl).trans (congrArg Value.bool c116)) ?_
    refine WC.exit ?_
    obtain ⟨rfl, rfl⟩ := Prod.mk.inj (Option.some.inj H)
    exact ⟨_, _, HF, hO103, s0_101, s2_101, s3_104⟩

/-! ### dictumref01_IsText -/
set_option maxRecDepth 100000 in
theorem dictumref01_IsText.calls (k : Nat) (o0 : Tags) (w0 : World) (a0 : List UInt8) (r : Bool) (hO : ∀ b, b < w0.heap.size → o0 b < 10) (H : dictumref01_IsText.f k a0 = some r) :
    Calls Tryd.prog 45 [encS a0].toArray w0 fun e_ w_ => ∃ (o_ : Tags), e_ = .returned (one [.bool r]) ∧ Step o0 w0 o_ w_ [] := by
  have HF := Fm.refl hO []
  unfold dictumref01_IsText.f at H
  refine SX.calls [encS a0] Tryd.func45 rfl rfl ?_
  rw [Tryd.ntmps45]
  refine WC.seq ?_
  refine WC.region ?_
  refine WL.ex rfl (ex_assign (v := .bool false) rfl) ?_
  refine WL.nil ?_
  refine WC.seq ?_
  refine WC.seq ?_
  refine WC.region ?_
  refine WL.ex rfl (ex_assign (v := .int .i64 0) rfl) ?_
  refine WL.nil ?_
  obtain ⟨z102, hz102, H⟩ := bindE H
  refine WC.for (fun k_ ρ_ w_ => ∃ (o_ : Tags) (x101 : Int), Fm o0 w0 o_ w_ [] ∧ ρ_ 0 = encS a0 ∧ ρ_ 2 = .bool false ∧ ρ_ 3 = .int .i64 x101 ∧ dictumref01_IsText.l1 k a0 k_ x101 = some z102) k (fun ρ_ w_ => ∃ (o_ : Tags), Fm o0 w0 o_ w_ [] ∧ ρ_ 2 = .bool false ∧ z102 = .inr ()) ⟨_, 0, HF, rfl, rfl, rfl, hz102⟩ ?case103 ?_
  case case103 =>
    rintro ρ193 w191 ⟨o192, HF, s2_101, rfl⟩
    dsimp only at H
    refine WC.seq ?_
    refine WC.region ?_
    refine WL.ex rfl (ex_assign (v := .bool true) rfl) ?_
    refine WL.nil ?_
    refine WC.ret ?_
    obtain rfl := Option.some.inj H
    exact ⟨_, (.tmp (.bool true : Value) rfl .nil), _, rfl, HF.out⟩
  have Ho104 := H
  rintro k105 ρ106 w107 ⟨o108, x101, HF, s0_100, s2_100, s3_101, H⟩
  cases k105 with
  | zero => cases H
  | succ k105 =>
  rw [dictumref01_IsText.l1.eq_2] at H
  refine WC.seq ?_
  refine WC.seq ?_
  refine WC.region ?_
  refine WL.ex rfl (ex_move (v := .int .i64 x101) s3_101) ?_
  refine WL.ex rfl (ex_move (v := encS a0) s0_100) ?_
  refine WL.ex rfl (ex_len_str (s := a0) rfl Tryd.underlying9) ?_
  refine WL.ex rfl (ex_bin (a := .int .i64 x101) (b := .int .i64 (a0.length : Int)) (v := .bool (decide (x101 < (a0.length : Int)))) rfl rfl bin_lss) ?_
  refine WL.nil ?_
  rcases condE H with ⟨c109, H⟩ | ⟨c109, H⟩
  ·
    refine WC.cond_t ((show _ = Value.bool (decide (x101 < (a0.length : Int))) from rfl).trans (congrArg Value.bool c109)) ?_
    refine WC.skip ?_
    refine WC.block ?_
    refine WC.seq ?_
    refine WC.region ?_
    refine WL.ex rfl (ex_move (v := encS a0) s0_100) ?_
    refine WL.ex rfl (ex_move (v := .int .i64 x101) s3_101) ?_
    obtain ⟨x110, hx110, H⟩ := bindE H
    refine WL.ex rfl (ex_index_str (i := x101) rfl rfl Tryd.underlying9 (ix_some hx110).1 (ix_some hx110).2.2) ?_
    refine WL.ex rfl (ex_conv_small (a := (x110.toNat : Int)) rfl Tryd.underlying5 Tryd.underlying3 (small8 x110)) ?_
    refine WL.ex rfl (ex_assign (v := .int .i64 (x110.toNat : Int)) rfl) ?_
    refine WL.nil ?_
    refine WC.seq ?_
    refine WC.region ?_
    refine WL.ex rfl (ex_assign (v := .int .i64 0) rfl) ?_
    refine WL.nil ?_
    refine WC.seq ?_
    refine WC.region ?_
    refine WL.ex rfl (ex_assign (v := .int .i64 128) rfl) ?_
    refine WL.nil ?_
    refine WC.seq ?_
    refine WC.region ?_
    refine WL.ex rfl (ex_assign (v := .int .i64 191) rfl) ?_
    refine WL.nil ?_
    obtain ⟨z114, hz114, H⟩ := bindE H
    refine WC.cut (fun ρ_ w_ => ∃ (o_ : Tags) (x111 : Int) (x112 : Int) (x113 : Int), Fm o0 w0 o_ w_ [] ∧ ρ_ 0 = encS a0 ∧ ρ_ 2 = .bool false ∧ ρ_ 3 = .int .i64 x101 ∧ ρ_ 5 = .int .i64 x111 ∧ ρ_ 6 = .int .i64 x112 ∧ ρ_ 7 = .int .i64 x113 ∧ z114 = .inr (x111, x112, x113)) ?case115 ?_
    case case115 =>
      rintro ρ118 w116 ⟨o117, x111, x112, x113, HF, s0_110, s2_110, s3_110, s5_111, s6_112, s7_113, rfl⟩
      replace H : _ = some _ := H
      dsimp only at H
      refine WC.seq ?_
      refine WC.seq ?_
      refine WC.region ?_
      refine WL.ex rfl (ex_assign (v := .int .i64 1) rfl) ?_
      refine WL.nil ?_
      obtain ⟨z122, hz122, H⟩ := bindE H
      refine WC.for (fun k_ ρ_ w_ => ∃ (o_ : Tags) (x119 : Int) (x120 : Int) (x121 : Int), Fm o0 w0 o_ w_ [] ∧ ρ_ 0 = encS a0 ∧ ρ_ 2 = .bool false ∧ ρ_ 3 = .int .i64 x101 ∧ ρ_ 5 = .int .i64 x111 ∧ ρ_ 6 = .int .i64 x119 ∧ ρ_ 7 = .int .i64 x120 ∧ ρ_ 8 = .int .i64 x121 ∧ dictumref01_IsText.l2 k a0 x101 x111 k_ x119 x120 x121 = some z122) k (fun ρ_ w_ => ∃ (o_ : Tags), Fm o0 w0 o_ w_ [] ∧ ρ_ 0 = encS a0 ∧ ρ_ 2 = .bool false ∧ ρ_ 3 = .int .i64 x101 ∧ ρ_ 5 = .int .i64 x111 ∧ z122 = .inr ()) ⟨_, x112, x113, 1, HF, s0_110, s2_110, s3_110, s5_111, s6_112, s7_113, rfl, hz122⟩ ?case123 ?_
      case case123 =>
        rintro ρ143 w141 ⟨o142, HF, s0_121, s2_121, s3_121, s5_121, rfl⟩
        dsimp only at H
        refine WC.region ?_
        refine WL.ex rfl (ex_move (v := .int .i64 x101) s3_121) ?_
        refine WL.ex rfl (ex_bin (a := .int .i64 x101) (b := .int .i64 1) (v := .int .i64 (wrap64 (x101 + 1))) rfl rfl bin_add64) ?_
        refine WL.ex rfl (ex_move (v := .int .i64 x111) s5_121) ?_
        refine WL.ex rfl (ex_bin (a := .int .i64 (wrap64 (x101 + 1))) (b := .int .i64 x111) (v := .int .i64 (wrap64 ((wrap64 (x101 + 1)) + x111))) rfl rfl bin_add64) ?_
        refine WL.ex rfl (ex_assign (v := .int .i64 (wrap64 ((wrap64 (x101 + 1)) + x111))) rfl) ?_
        refine WL.nil ?_
        exact ⟨k105, Nat.lt_succ_self _, ⟨_, wrap64 ((wrap64 (x101 + 1)) + x111), HF, s0_121, s2_121, rfl, H⟩⟩
      have Ho124 := H
      rintro k125 ρ126 w127 ⟨o128, x119, x120, x121, HF, s0_118, s2_118, s3_118, s5_118, s6_119, s7_120, s8_121, H⟩
      cases k125 with
      | zero => cases H
      | succ k125 =>
      rw [dictumref01_IsText.l2.eq_2] at H
      refine WC.seq ?_
      refine WC.seq ?_
      refine WC.region ?_
      refine WL.ex rfl (ex_move (v := .int .i64 x121) s8_121) ?_
      refine WL.ex rfl (ex_move (v := .int .i64 x111) s5_118) ?_
      refine WL.ex rfl (ex_bin (a := .int .i64 x121) (b := .int .i64 x111) (v := .bool (decide (x121 ≤ x111))) rfl rfl bin_leq) ?_
      refine WL.nil ?_
      rcases condE H with ⟨c129, H⟩ | ⟨c129, H⟩
      ·
        refine WC.cond_t ((show _ = Value.bool (decide (x121 ≤ x111)) from rfl).trans (congrArg Value.bool c129)) ?_
        refine WC.skip ?_
        refine WC.seq ?_
        refine WC.block ?_
        refine WC.seq ?_
        refine WC.seq ?_
        refine WC.region ?_
        refine WL.ex rfl (ex_move (v := .int .i64 x101) s3_118) ?_
        refine WL.ex rfl (ex_move (v := .int .i64 x121) s8_121) ?_
        refine WL.ex rfl (ex_bin (a := .int .i64 x101) (b := .int .i64 x121) (v := .int .i64 (wrap64 (x101 + x121))) rfl rfl bin_add64) ?_
        refine WL.ex rfl (ex_move (v := encS a0) s0_118) ?_
        refine WL.ex rfl (ex_len_str (s := a0) rfl Tryd.underlying9) ?_
        refine WL.ex rfl (ex_bin (a := .int .i64 (wrap64 (x101 + x121))) (b := .int .i64 (a0.length : Int)) (v := .bool (decide ((wrap64 (x101 + x121)) ≥ (a0.length : Int)))) rfl rfl bin_geq) ?_
        refine WL.nil ?_
        rcases condE H with ⟨c130, H⟩ | ⟨c130, H⟩
        ·
          refine WC.cond_t ((show _ = Value.bool (decide ((wrap64 (x101 + x121)) ≥ (a0.length : Int))) from rfl).trans (congrArg Value.bool c130)) ?_
          refine WC.seq ?_
          refine WC.region ?_
          refine WL.ex rfl (ex_assign (v := .bool false) rfl) ?_
          refine WL.nil ?_
          refine WC.ret ?_
          obtain rfl := Option.some.inj H
          replace H := Ho124
          dsimp only at H
          obtain rfl := Option.some.inj H
          replace H := Ho104
          dsimp only at H
          obtain rfl := Option.some.inj H
          exact ⟨_, (.tmp (.bool false : Value) rfl .nil), _, rfl, HF.out⟩
        ·
          refine WC.cond_f ((show _ = Value.bool (decide ((wrap64 (x101 + x121)) ≥ (a0.length : Int))) from rfl).trans (congrArg Value.bool c130)) ?_
          refine WC.skip ?_
          refine WC.seq ?_
          refine WC.region ?_
          refine WL.ex rfl (ex_move (v := encS a0) s0_118) ?_
          refine WL.ex rfl (ex_move (v := .int .i64 x101) s3_118) ?_
          refine WL.ex rfl (ex_move (v := .int .i64 x121) s8_121) ?_
          refine WL.ex rfl (ex_bin (a := .int .i64 x101) (b := .int .i64 x121) (v := .int .i64 (wrap64 (x101 + x121))) rfl rfl bin_add64) ?_
          obtain ⟨x131, hx131, H⟩ := bindE H
          refine WL.ex rfl (ex_index_str (i := (wrap64 (x101 + x121))) rfl rfl Tryd.underlying9 (ix_some hx131).1 (ix_some hx131).2.2) ?_
          refine WL.ex rfl (ex_conv_small (a := (x131.toNat : Int)) rfl Tryd.underlying5 Tryd.underlying3 (small8 x131)) ?_
          refine WL.ex rfl (ex_assign (v := .int .i64 (x131.toNat : Int)) rfl) ?_
          refine WL.nil ?_
          refine WC.seq ?_
          obtain ⟨z133, hz133, H⟩ := bindE H
          refine WC.cut (fun ρ_ w_ => ∃ (o_ : Tags), Fm o0 w0 o_ w_ [] ∧ ρ_ 0 = encS a0 ∧ ρ_ 2 = .bool false ∧ ρ_ 3 = .int .i64 x101 ∧ ρ_ 5 = .int .i64 x111 ∧ ρ_ 6 = .int .i64 x119 ∧ ρ_ 7 = .int .i64 x120 ∧ ρ_ 8 = .int .i64 x121 ∧ ρ_ 74 = .bool z133) ?case134 ?_
          case case134 =>
            rintro ρ137 w135 ⟨o136, HF, s0_131, s2_131, s3_131, s5_131, s6_131, s7_131, s8_131, s74_132⟩
            rcases condE H with ⟨c138, H⟩ | ⟨c138, H⟩
            ·
              refine WC.cond_t ((show _ = Value.bool z133 from s74_132).trans (congrArg Value.bool c138)) ?_
              refine WC.seq ?_
              refine WC.region ?_
              refine WL.ex rfl (ex_assign (v := .bool false) rfl) ?_
              refine WL.nil ?_
              refine WC.ret ?_
              obtain rfl := Option.some.inj H
              replace H := Ho124
              dsimp only at H
              obtain rfl := Option.some.inj H
              replace H := Ho104
              dsimp only at H
              obtain rfl := Option.some.inj H
              exact ⟨_, (.tmp (.bool false : Value) rfl .nil), _, rfl, HF.out⟩
            ·
              refine WC.cond_f ((show _ = Value.bool z133 from s74_132).trans (congrArg Value.bool c138)) ?_
              refine WC.skip ?_
              refine WC.seq ?_
              refine WC.region ?_
              refine WL.ex rfl (ex_assign (v := .int .i64 128) rfl) ?_
              refine WL.nil ?_
              refine WC.region ?_
              refine WL.ex rfl (ex_assign (v := .int .i64 191) rfl) ?_
              refine WL.nil ?_
              refine WC.region ?_
              refine WL.ex rfl (ex_move (v := .int .i64 x121) s8_131) ?_
              refine WL.ex rfl (ex_bin (a := .int .i64 x121) (b := .int .i64 1) (v := .int .i64 (wrap64 (x121 + 1))) rfl rfl bin_add64) ?_
              refine WL.ex rfl (ex_assign (v := .int .i64 (wrap64 (x121 + 1))) rfl) ?_
              refine WL.nil ?_
              exact ⟨k125, Nat.lt_succ_self _, ⟨_, 128, 191, wrap64 (x121 + 1), HF, s0_131, s2_131, s3_131, s5_131, rfl, rfl, rfl, H⟩⟩
          have Ho139 := H
          replace H := hz133
          refine WC.region ?_
          refine WL.ex rfl (ex_move (v := .int .i64 (x131.toNat : Int)) rfl) ?_
          refine WL.ex rfl (ex_move (v := .int .i64 x119) s6_119) ?_
          refine WL.ex rfl (ex_bin (a := .int .i64 (x131.toNat : Int)) (b := .int .i64 x119) (v := .bool (decide ((x131.toNat : Int) < x119))) rfl rfl bin_lss) ?_
          refine WL.ex rfl (ex_move (v := .bool (decide ((x131.toNat : Int) < x119))) rfl) ?_
          rcases condE H with ⟨c140, H⟩ | ⟨c140, H⟩
          ·
            refine WL.guardNo rfl rfl rfl ((show _ = Value.bool (decide ((x131.toNat : Int) < x119)) from rfl).trans (congrArg Value.bool c140)) ?_
            refine WL.guardNo rfl rfl rfl ((show _ = Value.bool (decide ((x131.toNat : Int) < x119)) from rfl).trans (congrArg Value.bool c140)) ?_
            refine WL.guardNo rfl rfl rfl ((show _ = Value.bool (decide ((x131.toNat : Int) < x119)) from rfl).trans (congrArg Value.bool c140)) ?_
            refine WL.ex rfl (ex_pick_t (v := .bool true) ((show _ = Value.bool (decide ((x131.toNat : Int) < x119)) from rfl).trans (congrArg Value.bool c140)) rfl) ?_
            refine WL.nil ?_
            obtain rfl := Option.some.inj H
            exact ⟨_, HF, s0_118, s2_118, s3_118, s5_118, s6_119, s7_120, s8_121, rfl⟩
          ·
            refine WL.guardYes rfl rfl rfl ((show _ = Value.bool (decide ((x131.toNat : Int) < x119)) from rfl).trans (congrArg Value.bool c140)) ?_
            refine OW.ex rfl (ex_move (v := .int .i64 (x131.toNat : Int)) rfl) ?_
            refine WL.guardYes rfl rfl rfl ((show _ = Value.bool (decide ((x131.toNat : Int) < x119)) from rfl).trans (congrArg Value.bool c140)) ?_
            refine OW.ex rfl (ex_move (v := .int .i64 x120) s7_120) ?_
            refine WL.guardYes rfl rfl rfl ((show _ = Value.bool (decide ((x131.toNat : Int) < x119)) from rfl).trans (congrArg Value.bool c140)) ?_
            refine OW.ex rfl (ex_bin (a := .int .i64 (x131.toNat : Int)) (b := .int .i64 x120) (v := .bool (decide ((x131.toNat : Int) > x120))) rfl rfl bin_gtr) ?_
            refine WL.ex rfl (ex_pick_f (v := .bool (decide ((x131.toNat : Int) > x120))) ((show _ = Value.bool (decide ((x131.toNat : Int) < x119)) from rfl).trans (congrArg Value.bool c140)) rfl) ?_
            refine WL.nil ?_
            obtain rfl := Option.some.inj H
            exact ⟨_, HF, s0_118, s2_118, s3_118, s5_118, s6_119, s7_120, s8_121, rfl⟩
      ·
        refine WC.cond_f ((show _ = Value.bool (decide (x121 ≤ x111)) from rfl).trans (congrArg Value.bool c129)) ?_
        refine WC.exit ?_
        obtain rfl := Option.some.inj H
        exact ⟨_, HF, s0_118, s2_118, s3_118, s5_118, rfl⟩
    have Ho144 := H
    replace H := hz114
    refine WC.block ?_
    refine WC.seq ?_
    refine WC.region ?_
    refine WL.ex rfl (ex_move (v := .int .i64 (x110.toNat : Int)) rfl) ?_
    refine WL.ex rfl (ex_bin (a := .int .i64 (x110.toNat : Int)) (b := .int .i64 128) (v := .bool (decide ((x110.toNat : Int) < 128))) rfl rfl bin_lss) ?_
    refine WL.ex rfl (ex_assign (v := .bool (decide ((x110.toNat : Int) < 128))) rfl) ?_
    refine WL.nil ?_
    rcases condE H with ⟨c145, H⟩ | ⟨c145, H⟩
    ·
      refine WC.cond_t ((show _ = Value.bool (decide ((x110.toNat : Int) < 128)) from rfl).trans (congrArg Value.bool c145)) ?_
      refine WC.skip ?_
      obtain rfl := Option.some.inj H
      exact ⟨_, 0, 128, 191, HF, s0_100, s2_100, s3_101, rfl, rfl, rfl, rfl⟩
    ·
      refine WC.cond_f ((show _ = Value.bool (decide ((x110.toNat : Int) < 128)) from rfl).trans (congrArg Value.bool c145)) ?_
      obtain ⟨z147, hz147, H⟩ := bindE H
      refine WC.cut (fun ρ_ w_ => ∃ (o_ : Tags), Fm o0 w0 o_ w_ [] ∧ ρ_ 0 = encS a0 ∧ ρ_ 2 = .bool false ∧ ρ_ 3 = .int .i64 x101 ∧ ρ_ 4 = .int .i64 (x110.toNat : Int) ∧ ρ_ 5 = .int .i64 0 ∧ ρ_ 6 = .int .i64 128 ∧ ρ_ 7 = .int .i64 191 ∧ ρ_ 21 = .bool z147) ?case148 ?_
      case case148 =>
        rintro ρ151 w149 ⟨o150, HF, s0_145, s2_145, s3_145, s4_145, s5_145, s6_145, s7_145, s21_146⟩
        rcases condE H with ⟨c152, H⟩ | ⟨c152, H⟩
        ·
          refine WC.cond_t ((show _ = Value.bool z147 from s21_146).trans (congrArg Value.bool c152)) ?_
          refine WC.region ?_
          refine WL.ex rfl (ex_assign (v := .int .i64 1) rfl) ?_
          refine WL.nil ?_
          obtain rfl := Option.some.inj H
          exact ⟨_, 1, 128, 191, HF, s0_145, s2_145, s3_145, rfl, s6_145, s7_145, rfl⟩
        ·
          refine WC.cond_f ((show _ = Value.bool z147 from s21_146).trans (congrArg Value.bool c152)) ?_
          obtain ⟨z154, hz154, H⟩ := bindE H
          refine WC.cut (fun ρ_ w_ => ∃ (o_ : Tags), Fm o0 w0 o_ w_ [] ∧ ρ_ 0 = encS a0 ∧ ρ_ 2 = .bool false ∧ ρ_ 3 = .int .i64 x101 ∧ ρ_ 4 = .int .i64 (x110.toNat : Int) ∧ ρ_ 5 = .int .i64 0 ∧ ρ_ 6 = .int .i64 128 ∧ ρ_ 7 = .int .i64 191 ∧ ρ_ 28 = .bool z154) ?case155 ?_
          case case155 =>
            rintro ρ158 w156 ⟨o157, HF, s0_152, s2_152, s3_152, s4_152, s5_152, s6_152, s7_152, s28_153⟩
            rcases condE H with ⟨c159, H⟩ | ⟨c159, H⟩
            ·
              refine WC.cond_t ((show _ = Value.bool z154 from s28_153).trans (congrArg Value.bool c159)) ?_
              refine WC.seq ?_
              refine WC.region ?_
              refine WL.ex rfl (ex_assign (v := .int .i64 2) rfl) ?_
              refine WL.nil ?_
              obtain ⟨z161, hz161, H⟩ := bindE H
              refine WC.cut (fun ρ_ w_ => ∃ (o_ : Tags), Fm o0 w0 o_ w_ [] ∧ ρ_ 0 = encS a0 ∧ ρ_ 2 = .bool false ∧ ρ_ 3 = .int .i64 x101 ∧ ρ_ 4 = .int .i64 (x110.toNat : Int) ∧ ρ_ 5 = .int .i64 2 ∧ ρ_ 6 = .int .i64 z161 ∧ ρ_ 7 = .int .i64 191) ?case162 ?_
              case case162 =>
                rintro ρ165 w163 ⟨o164, HF, s0_159, s2_159, s3_159, s4_159, s5_159, s6_160, s7_160⟩
                refine WC.seq ?_
                refine WC.region ?_
                refine WL.ex rfl (ex_move (v := .int .i64 (x110.toNat : Int)) s4_159) ?_
                refine WL.ex rfl (ex_bin (a := .int .i64 (x110.toNat : Int)) (b := .int .i64 237) (v := .bool ((x110.toNat : Int) == 237)) rfl rfl bin_eql) ?_
                refine WL.nil ?_
                rcases condE H with ⟨c166, H⟩ | ⟨c166, H⟩
                ·
                  refine WC.cond_t ((show _ = Value.bool ((x110.toNat : Int) == 237) from rfl).trans (congrArg Value.bool c166)) ?_
                  refine WC.region ?_
                  refine WL.ex rfl (ex_assign (v := .int .i64 159) rfl) ?_
                  refine WL.nil ?_
                  obtain rfl := Option.some.inj H
                  exact ⟨_, 2, z161, 159, HF, s0_159, s2_159, s3_159, s5_159, s6_160, rfl, rfl⟩
                ·
                  refine WC.cond_f ((show _ = Value.bool ((x110.toNat : Int) == 237) from rfl).trans (congrArg Value.bool c166)) ?_
                  refine WC.skip ?_
                  obtain rfl := Option.some.inj H
                  exact ⟨_, 2, z161, 191, HF, s0_159, s2_159, s3_159, s5_159, s6_160, s7_160, rfl⟩
              have Ho167 := H
              replace H := hz161
              refine WC.seq ?_
              refine WC.region ?_
              refine WL.ex rfl (ex_move (v := .int .i64 (x110.toNat : Int)) s4_152) ?_
              refine WL.ex rfl (ex_bin (a := .int .i64 (x110.toNat : Int)) (b := .int .i64 224) (v := .bool ((x110.toNat : Int) == 224)) rfl rfl bin_eql) ?_
              refine WL.nil ?_
              rcases condE H with ⟨c168, H⟩ | ⟨c168, H⟩
              ·
                refine WC.cond_t ((show _ = Value.bool ((x110.toNat : Int) == 224) from rfl).trans (congrArg Value.bool c168)) ?_
                refine WC.region ?_
                refine WL.ex rfl (ex_assign (v := .int .i64 160) rfl) ?_
                refine WL.nil ?_
                obtain rfl := Option.some.inj H
                exact ⟨_, HF, s0_152, s2_152, s3_152, s4_152, rfl, rfl, s7_152⟩
              ·
                refine WC.cond_f ((show _ = Value.bool ((x110.toNat : Int) == 224) from rfl).trans (congrArg Value.bool c168)) ?_
                refine WC.skip ?_
                obtain rfl := Option.some.inj H
                exact ⟨_, HF, s0_152, s2_152, s3_152, s4_152, rfl, s6_152, s7_152⟩
            ·
              refine WC.cond_f ((show _ = Value.bool z154 from s28_153).trans (congrArg Value.bool c159)) ?_
              obtain ⟨z170, hz170, H⟩ := bindE H
              refine WC.cut (fun ρ_ w_ => ∃ (o_ : Tags), Fm o0 w0 o_ w_ [] ∧ ρ_ 0 = encS a0 ∧ ρ_ 2 = .bool false ∧ ρ_ 3 = .int .i64 x101 ∧ ρ_ 4 = .int .i64 (x110.toNat : Int) ∧ ρ_ 5 = .int .i64 0 ∧ ρ_ 6 = .int .i64 128 ∧ ρ_ 7 = .int .i64 191 ∧ ρ_ 39 = .bool z170) ?case171 ?_
              case case171 =>
                rintro ρ174 w172 ⟨o173, HF, s0_168, s2_168, s3_168, s4_168, s5_168, s6_168, s7_168, s39_169⟩
                rcases condE H with ⟨c175, H⟩ | ⟨c175, H⟩
                ·
                  refine WC.cond_t ((show _ = Value.bool z170 from s39_169).trans (congrArg Value.bool c175)) ?_
                  refine WC.seq ?_
                  refine WC.region ?_
                  refine WL.ex rfl (ex_assign (v := .int .i64 3) rfl) ?_
                  refine WL.nil ?_
                  obtain ⟨z177, hz177, H⟩ := bindE H
                  refine WC.cut (fun ρ_ w_ => ∃ (o_ : Tags), Fm o0 w0 o_ w_ [] ∧ ρ_ 0 = encS a0 ∧ ρ_ 2 = .bool false ∧ ρ_ 3 = .int .i64 x101 ∧ ρ_ 4 = .int .i64 (x110.toNat : Int) ∧ ρ_ 5 = .int .i64 3 ∧ ρ_ 6 = .int .i64 z177 ∧ ρ_ 7 = .int .i64 191) ?case178 ?_
                  case case178 =>
                    rintro ρ181 w179 ⟨o180, HF, s0_175, s2_175, s3_175, s4_175, s5_175, s6_176, s7_176⟩
                    refine WC.seq ?_
                    refine WC.region ?_
                    refine WL.ex rfl (ex_move (v := .int .i64 (x110.toNat : Int)) s4_175) ?_
                    refine WL.ex rfl (ex_bin (a := .int .i64 (x110.toNat : Int)) (b := .int .i64 244) (v := .bool ((x110.toNat : Int) == 244)) rfl rfl bin_eql) ?_
                    refine WL.nil ?_
                    rcases condE H with ⟨c182, H⟩ | ⟨c182, H⟩
                    ·
                      refine WC.cond_t ((show _ = Value.bool ((x110.toNat : Int) == 244) from rfl).trans (congrArg Value.bool c182)) ?_
                      refine WC.region ?_
                      refine WL.ex rfl (ex_assign (v := .int .i64 143) rfl) ?_
                      refine WL.nil ?_
                      obtain rfl := Option.some.inj H
                      exact ⟨_, 3, z177, 143, HF, s0_175, s2_175, s3_175, s5_175, s6_176, rfl, rfl⟩
                    ·
                      refine WC.cond_f ((show _ = Value.bool ((x110.toNat : Int) == 244) from rfl).trans (congrArg Value.bool c182)) ?_
                      refine WC.skip ?_
                      obtain rfl := Option.some.inj H
                      exact ⟨_, 3, z177, 191, HF, s0_175, s2_175, s3_175, s5_175, s6_176, s7_176, rfl⟩
                  have Ho183 := H
                  replace H := hz177
                  refine WC.seq ?_
                  refine WC.region ?_
                  refine WL.ex rfl (ex_move (v := .int .i64 (x110.toNat : Int)) s4_168) ?_
                  refine WL.ex rfl (ex_bin (a := .int .i64 (x110.toNat : Int)) (b := .int .i64 240) (v := .bool ((x110.toNat : Int) == 240)) rfl rfl bin_eql) ?_
                  refine WL.nil ?_
                  rcases condE H with ⟨c184, H⟩ | ⟨c184, H⟩
                  ·
                    refine WC.cond_t ((show _ = Value.bool ((x110.toNat : Int) == 240) from rfl).trans (congrArg Value.bool c184)) ?_
                    refine WC.region ?_
                    refine WL.ex rfl (ex_assign (v := .int .i64 144) rfl) ?_
                    refine WL.nil ?_
                    obtain rfl := Option.some.inj H
                    exact ⟨_, HF, s0_168, s2_168, s3_168, s4_168, rfl, rfl, s7_168⟩
                  ·
                    refine WC.cond_f ((show _ = Value.bool ((x110.toNat : Int) == 240) from rfl).trans (congrArg Value.bool c184)) ?_
                    refine WC.skip ?_
                    obtain rfl := Option.some.inj H
                    exact ⟨_, HF, s0_168, s2_168, s3_168, s4_168, rfl, s6_168, s7_168⟩
                ·
                  refine WC.cond_f ((show _ = Value.bool z170 from s39_169).trans (congrArg Value.bool c175)) ?_
                  refine WC.seq ?_
                  refine WC.region ?_
                  refine WL.ex rfl (ex_assign (v := .bool false) rfl) ?_
                  refine WL.nil ?_
                  refine WC.ret ?_
                  obtain rfl := Option.some.inj H
                  replace H := Ho144
                  dsimp only at H
                  obtain rfl := Option.some.inj H
                  replace H := Ho104
                  dsimp only at H
                  obtain rfl := Option.some.inj H
                  exact ⟨_, (.tmp (.bool false : Value) rfl .nil), _, rfl, HF.out⟩
              have Ho185 := H
              replace H := hz170
              refine WC.region ?_
              refine WL.ex rfl (ex_move (v := .int .i64 (x110.toNat : Int)) s4_152) ?_
              refine WL.ex rfl (ex_bin (a := .int .i64 (x110.toNat : Int)) (b := .int .i64 240) (v := .bool (decide ((x110.toNat : Int) ≥ 240))) rfl rfl bin_geq) ?_
              refine WL.ex rfl (ex_move (v := .bool (decide ((x110.toNat : Int) ≥ 240))) rfl) ?_
              rcases condE H with ⟨c186, H⟩ | ⟨c186, H⟩
              ·
                refine WL.guardYes rfl rfl rfl ((show _ = Value.bool (decide ((x110.toNat : Int) ≥ 240)) from rfl).trans (congrArg Value.bool c186)) ?_
                refine OW.ex rfl (ex_move (v := .int .i64 (x110.toNat : Int)) s4_152) ?_
                refine WL.guardYes rfl rfl rfl ((show _ = Value.bool (decide ((x110.toNat : Int) ≥ 240)) from rfl).trans (congrArg Value.bool c186)) ?_
                refine OW.ex rfl (ex_bin (a := .int .i64 (x110.toNat : Int)) (b := .int .i64 244) (v := .bool (decide ((x110.toNat : Int) ≤ 244))) rfl rfl bin_leq) ?_
                refine WL.ex rfl (ex_pick_t (v := .bool (decide ((x110.toNat : Int) ≤ 244))) ((show _ = Value.bool (decide ((x110.toNat : Int) ≥ 240)) from rfl).trans (congrArg Value.bool c186)) rfl) ?_
                refine WL.ex rfl (ex_assign (v := .bool (decide ((x110.toNat : Int) ≤ 244))) rfl) ?_
                refine WL.nil ?_
                obtain rfl := Option.some.inj H
                exact ⟨_, HF, s0_152, s2_152, s3_152, s4_152, s5_152, s6_152, s7_152, rfl⟩
              ·
                refine WL.guardNo rfl rfl rfl ((show _ = Value.bool (decide ((x110.toNat : Int) ≥ 240)) from rfl).trans (congrArg Value.bool c186)) ?_
                refine WL.guardNo rfl rfl rfl ((show _ = Value.bool (decide ((x110.toNat : Int) ≥ 240)) from rfl).trans (congrArg Value.bool c186)) ?_
                refine WL.ex rfl (ex_pick_f (v := .bool false) ((show _ = Value.bool (decide ((x110.toNat : Int) ≥ 240)) from rfl).trans (congrArg Value.bool c186)) rfl) ?_
                refine WL.ex rfl (ex_assign (v := .bool false) rfl) ?_
                refine WL.nil ?_
                obtain rfl := Option.some.inj H
                exact ⟨_, HF, s0_152, s2_152, s3_152, s4_152, s5_152, s6_152, s7_152, rfl⟩
          have Ho187 := H
          replace H := hz154
          refine WC.region ?_
          refine WL.ex rfl (ex_move (v := .int .i64 (x110.toNat : Int)) s4_145) ?_
          refine WL.ex rfl (ex_bin (a := .int .i64 (x110.toNat : Int)) (b := .int .i64 224) (v := .bool (decide ((x110.toNat : Int) ≥ 224))) rfl rfl bin_geq) ?_
          refine WL.ex rfl (ex_move (v := .bool (decide ((x110.toNat : Int) ≥ 224))) rfl) ?_
          rcases condE H with ⟨c188, H⟩ | ⟨c188, H⟩
          ·
            refine WL.guardYes rfl rfl rfl ((show _ = Value.bool (decide ((x110.toNat : Int) ≥ 224)) from rfl).trans (congrArg Value.bool c188)) ?_
            refine OW.ex rfl (ex_move (v := .int .i64 (x110.toNat : Int)) s4_145) ?_
            refine WL.guardYes rfl rfl rfl ((show _ = Value.bool (decide ((x110.toNat : Int) ≥ 224)) from rfl).trans (congrArg Value.bool c188)) ?_
            refine OW.ex rfl (ex_bin (a := .int .i64 (x110.toNat : Int)) (b := .int .i64 239) (v := .bool (decide ((x110.toNat : Int) ≤ 239))) rfl rfl bin_leq) ?_
            refine WL.ex rfl (ex_pick_t (v := .bool (decide ((x110.toNat : Int) ≤ 239))) ((show _ = Value.bool (decide ((x110.toNat : Int) ≥ 224)) from rfl).trans (congrArg Value.bool c188)) rfl) ?_
            refine WL.ex rfl (ex_assign (v := .bool (decide ((x110.toNat : Int) ≤ 239))) rfl) ?_
            refine WL.nil ?_
            obtain rfl := Option.some.inj H
            exact ⟨_, HF, s0_145, s2_145, s3_145, s4_145, s5_145, s6_145, s7_145, rfl⟩
          ·
            refine WL.guardNo rfl rfl rfl ((show _ = Value.bool (decide ((x110.toNat : Int) ≥ 224)) from rfl).trans (congrArg Value.bool c188)) ?_
            refine WL.guardNo rfl rfl rfl ((show _ = Value.bool (decide ((x110.toNat : Int) ≥ 224)) from rfl).trans (congrArg Value.bool c188)) ?_
            refine WL.ex rfl (ex_pick_f (v := .bool false) ((show _ = Value.bool (decide ((x110.toNat : Int) ≥ 224)) from rfl).trans (congrArg Value.bool c188)) rfl) ?_
            refine WL.ex rfl (ex_assign (v := .bool false) rfl) ?_
            refine WL.nil ?_
            obtain rfl := Option.some.inj H
            exact ⟨_, HF, s0_145, s2_145, s3_145, s4_145, s5_145, s6_145, s7_145, rfl⟩
      have Ho189 := H
      replace H := hz147
      refine WC.region ?_
      refine WL.ex rfl (ex_move (v := .int .i64 (x110.toNat : Int)) rfl) ?_
      refine WL.ex rfl (ex_bin (a := .int .i64 (x110.toNat : Int)) (b := .int .i64 194) (v := .bool (decide ((x110.toNat : Int) ≥ 194))) rfl rfl bin_geq) ?_
      refine WL.ex rfl (ex_move (v := .bool (decide ((x110.toNat : Int) ≥ 194))) rfl) ?_
      rcases condE H with ⟨c190, H⟩ | ⟨c190, H⟩
      ·
        refine WL.guardYes rfl rfl rfl ((show _ = Value.bool (decide ((x110.toNat : Int) ≥ 194)) from rfl).trans (congrArg Value.bool c190)) ?_
        refine OW.ex rfl (ex_move (v := .int .i64 (x110.toNat : Int)) rfl) ?_
        refine WL.guardYes rfl rfl rfl ((show _ = Value.bool (decide ((x110.toNat : Int) ≥ 194)) from rfl).trans (congrArg Value.bool c190)) ?_
        refine OW.ex rfl (ex_bin (a := .int .i64 (x110.toNat : Int)) (b := .int .i64 223) (v := .bool (decide ((x110.toNat : Int) ≤ 223))) rfl rfl bin_leq) ?_
        refine WL.ex rfl (ex_pick_t (v := .bool (decide ((x110.toNat : Int) ≤ 223))) ((show _ = Value.bool (decide ((x110.toNat : Int) ≥ 194)) from rfl).trans (congrArg Value.bool c190)) rfl) ?_
        refine WL.ex rfl (ex_assign (v := .bool (decide ((x110.toNat : Int) ≤ 223))) rfl) ?_
        refine WL.nil ?_
        obtain rfl := Option.some.inj H
        exact ⟨_, HF, s0_100, s2_100, s3_101, rfl, rfl, rfl, rfl, rfl⟩
      ·
        refine WL.guardNo rfl rfl rfl ((show _ = Value.bool (decide ((x110.toNat : Int) ≥ 194)) from rfl).trans (congrArg Value.bool c190)) ?_
        refine WL.guardNo rfl rfl rfl ((show _ = Value.bool (decide ((x110.toNat : Int) ≥ 194)) from rfl).trans (congrArg Value.bool c190)) ?_
        refine WL.ex rfl (ex_pick_f (v := .bool false) ((show _ = Value.bool (decide ((x110.toNat : Int) ≥ 194)) from rfl).trans (congrArg Value.bool c190)) rfl) ?_
        refine WL.ex rfl (ex_assign (v := .bool false) rfl) ?_
        refine WL.nil ?_
        obtain rfl := Option.some.inj H
        exact ⟨_, HF, s0_100, s2_100, s3_101, rfl, rfl, rfl, rfl, rfl⟩
  ·
    refine WC.cond_f ((show _ = Value.bool (decide (x101 < (a0.length : Int))) from rfl).trans (congrArg Value.bool c109)) ?_
    refine WC.exit ?_
    obtain rfl := Option.some.inj H
    exact ⟨_, HF, s2_100, rfl⟩

/-! ### dictumref01_Text -/
set_option maxRecDepth 100000 in
theorem dictumref01_Text.calls (k : Nat) (o0 : Tags) (w0 : World) (a0 : List UInt8) (r : (List UInt8) × Int) (hO : ∀ b, b < w0.heap.size → o0 b < 10) (H : dictumref01_Text.f k a0 = some r) :
    Calls Tryd.prog 40 [encS a0].toArray w0 fun e_ w_ => ∃ (o_ : Tags) (rv0 : Value), e_ = .returned (one [rv0, .int .i64 r.2]) ∧ Step o0 w0 o_ w_ [] ∧ Own Rep.u8 5 9 o_ w_ rv0 r.1 := by
  have HF := Fm.refl hO []
  unfold dictumref01_Text.f at H
  refine SX.calls [encS a0] Tryd.func40 rfl rfl ?_
  rw [Tryd.ntmps40]
  refine WC.seq ?_
  refine WC.region ?_
  refine WL.ex rfl (ex_assign (v := .slice none ([] : List UInt8).length 0) rfl) ?_
  refine WL.ex rfl (ex_assign (v := .int .i64 0) rfl) ?_
  refine WL.nil ?_
  refine WC.seq ?_
  refine WC.seq ?_
  refine WC.region ?_
  refine WL.ex rfl (ex_move (v := encS a0) rfl) ?_
  obtain ⟨z101, hz101, H⟩ := bindE H
  refine WL.op rfl ?_
  refine OW.call [encS a0] rfl Tryd.func45 (by kernel_rfl) (by kernel_rfl) (map_cons' rfl rfl) (dictumref01_IsText.calls k _ _ a0 z101 (HF.ten (V := [0]) (L := []) rfl)  hz101) ?_
  rintro _ w102 ⟨o103, rfl, s104⟩
  refine ⟨_, rfl, ?_⟩
  replace s104 := un_stepL (J := []) (L' := []) s104 rfl rfl
  replace HF := HF.step s104 rfl
  refine WL.ex rfl (ex_not (b := z101) rfl) ?_
  refine WL.nil ?_
  rcases condE H with ⟨c105, H⟩ | ⟨c105, H⟩
  ·
    refine WC.cond_t ((show _ = Value.bool (!z101) from rfl).trans (congrArg Value.bool c105)) ?_
    refine WC.seq ?_
    refine WC.region ?_
    refine WL.ex rfl (ex_assign (v := .slice none ([] : List UInt8).length 0) rfl) ?_
    refine WL.ex rfl (ex_assign (v := .int .i64 12) rfl) ?_
    refine WL.nil ?_
    refine WC.ret ?_
    obtain rfl := Option.some.inj H
    exact ⟨_, (.tmp (.slice none ([] : List UInt8).length 0 : Value) rfl (.tmp (.int .i64 12 : Value) rfl .nil)), _, (.slice none 0 0), rfl, HF.out, Own.nil⟩
  ·
    refine WC.cond_f ((show _ = Value.bool (!z101) from rfl).trans (congrArg Value.bool c105)) ?_
    refine WC.skip ?_
    refine WC.seq ?_
    refine WC.seq ?_
    refine WC.region ?_
    refine WL.ex rfl (ex_move (v := encS a0) rfl) ?_
    refine WL.ex rfl (ex_len_str (s := a0) rfl Tryd.underlying9) ?_
    refine WL.ex rfl (ex_bin (a := .int .i64 (a0.length : Int)) (b := .int .i64 65536) (v := .bool (decide ((a0.length : Int) > 65536))) rfl rfl bin_gtr) ?_
    refine WL.nil ?_
    rcases condE H with ⟨c106, H⟩ | ⟨c106, H⟩
    ·
      refine WC.cond_t ((show _ = Value.bool (decide ((a0.length : Int) > 65536)) from rfl).trans (congrArg Value.bool c106)) ?_
      refine WC.seq ?_
      refine WC.region ?_
      refine WL.ex rfl (ex_assign (v := .slice none ([] : List UInt8).length 0) rfl) ?_
      refine WL.ex rfl (ex_assign (v := .int .i64 11) rfl) ?_
      refine WL.nil ?_
      refine WC.ret ?_
      obtain rfl := Option.some.inj H
      exact ⟨_, (.tmp (.slice none ([] : List UInt8).length 0 : Value) rfl (.tmp (.int .i64 11 : Value) rfl .nil)), _, (.slice none 0 0), rfl, HF.out, Own.nil⟩
    ·
      refine WC.cond_f ((show _ = Value.bool (decide ((a0.length : Int) > 65536)) from rfl).trans (congrArg Value.bool c106)) ?_
      refine WC.skip ?_
      refine WC.seq ?_
      refine WC.region ?_
      refine WL.ex rfl (ex_move (v := encS a0) rfl) ?_
      refine WL.ex rfl (ex_len_str (s := a0) rfl Tryd.underlying9) ?_
      refine WL.ex rfl (ex_conv_u64 (k := .i64) (a := (a0.length : Int)) rfl Tryd.underlying3 Tryd.underlying29) ?_
      obtain ⟨z107, hz107, H⟩ := bindE H
      refine WL.op rfl ?_
      refine OW.call [enc64 (ofI64 (a0.length : Int))] rfl Tryd.func39 (by kernel_rfl) (by kernel_rfl) (map_cons' rfl rfl) (dictumref01_Num.calls k _ _ (ofI64 (a0.length : Int)) z107 (HF.ten (V := [0]) (L := []) rfl)  hz107) ?_
      rintro _ w108 ⟨o109, v111, rfl, s110, hO112⟩
      refine ⟨_, rfl, ?_⟩
      replace hO112 := Own.un9 (J := [10]) 0 hO112 rfl s110 rfl rfl
      replace s110 := un_stepL (J := [10]) (L' := []) s110 rfl rfl
      replace HF := HF.step s110 rfl
      refine WL.ex rfl (ex_move (v := encS a0) rfl) ?_
      obtain ⟨u113, hu113, H⟩ := bindE H
      refine WL.op rfl ?_
      refine OW.appendStr (E := 5) (i := 10) (s := a0) rfl Tryd.underlying24 Tryd.underlying9 inf5 (by decide) rfl rfl hO112 (of_decide_eq_true (chk_true hu113)) ?_
      intro o114 w115 v116 s117 hO118
      replace HF := HF.step s117 rfl
      refine WL.ex rfl (ex_assign (v := v116) rfl) ?_
      refine WL.ex rfl (ex_assign (v := .int .i64 0) rfl) ?_
      refine WL.nil ?_
      refine WC.ret ?_
      obtain rfl := Option.some.inj H
      replace hO118 := Own.renTo (j := 9) hO118 rfl
      replace HF := HF.ren (i := 10) (j := 9) rfl
      exact ⟨_, (.tmp (v116 : Value) rfl (.tmp (.int .i64 0 : Value) rfl .nil)), _, v116, rfl, HF.out, hO118⟩


/-! ### utf8.ValidString -/
theorem utf8_ValidString.calls (o0 : Tags) (w0 : World) (a0 : List UInt8) (r : Bool) (hO : ∀ b, b < w0.heap.size → o0 b < 10) (hG : Gl GG o0 w0) (H : utf8_ValidString.f a0 = some r) :
    Calls Tryd.prog 46 [encS a0].toArray w0 fun e_ w_ => ∃ (o_ : Tags), e_ = .returned (one [.bool r]) ∧ Step o0 w0 o_ w_ [] := by
  unfold utf8_ValidString.f at H
  obtain ⟨u, hu, H⟩ := bindE H
  obtain rfl := Option.some.inj H
  have h := Any.utf8_ValidString Tryd.lays196 ⟨a0.toArray⟩ w0 (by rw [size_enc]; exact of_decide_eq_true (chk_true hu)) hG.2.1
  refine Calls.mono h ?_
  rintro e w ⟨rfl, hb⟩
  exact ⟨o0, rfl, below_step hb⟩

/-! ### octet_Writer_Text -/
set_option maxRecDepth 100000 in
theorem octet_Writer_Text.calls (k : Nat) (o0 : Tags) (w0 : World) (pb0 : Nat) (pv0_0 : Value) (a0 : T_octet_Writer) (a1 : List UInt8) (r : Int × T_octet_Writer) (hO : ∀ b, b < w0.heap.size → o0 b < 10) (hB0 : Bk o0 w0 2 pb0 [pv0_0] 26) (hO0_0 : Own Rep.u8 5 3 o0 w0 pv0_0 a0.f_B) (hG : Gl GG o0 w0) (H : octet_Writer_Text.f k a0 a1 = some r) :
    Calls Tryd.prog 29 [.pointer (some ⟨pb0, 0, none⟩), encS a1].toArray w0 fun e_ w_ => ∃ (o_ : Tags) (u0_0 : Value), e_ = .returned (one [.int .i64 r.1]) ∧ Step o0 w0 o_ w_ [2, 3] ∧ Bk o_ w_ 2 pb0 [u0_0] 26 ∧ Own Rep.u8 5 3 o_ w_ u0_0 r.2.f_B := by
  have HF := Fm.refl hO [2, 3]
  unfold octet_Writer_Text.f at H
  refine SX.calls [.pointer (some ⟨pb0, 0, none⟩), encS a1] Tryd.func29 rfl rfl ?_
  rw [Tryd.ntmps29]
  refine WC.seq ?_
  refine WC.region ?_
  refine WL.ex rfl (ex_assign (v := .int .i64 0) rfl) ?_
  refine WL.nil ?_
  refine WC.seq ?_
  refine WC.block ?_
  refine WC.seq ?_
  refine WC.region ?_
  refine WL.ex rfl (ex_move (v := .pointer (some ⟨pb0, 0, none⟩)) rfl) ?_
  refine WL.ex rfl (ex_bin (a := .pointer (some ⟨pb0, 0, none⟩)) (b := .pointer none) (v := .bool false) rfl rfl (bin_eql_ptrSN Tryd.underlying23)) ?_
  refine WL.ex rfl (ex_assign (v := .bool false) rfl) ?_
  refine WL.nil ?_
  refine WC.cond_f rfl ?_
  refine WC.seq ?_
  refine WC.region ?_
  refine WL.ex rfl (ex_move (v := encS a1) rfl) ?_
  obtain ⟨z101, hz101, H⟩ := bindE H
  refine WL.op rfl ?_
  refine OW.call [encS a1] rfl Tryd.func46 (by kernel_rfl) (by kernel_rfl) (map_cons' rfl rfl) (utf8_ValidString.calls _ _ a1 z101 (HF.ten (V := [0]) (L := []) rfl) (Gl.vw (V := [0]) (L := []) hG rfl) hz101) ?_
  rintro _ w102 ⟨o103, rfl, s104⟩
  refine ⟨_, rfl, ?_⟩
  replace s104 := un_stepL (J := []) (L' := []) s104 rfl rfl
  replace hO0_0 := hO0_0.step s104 rfl rfl
  replace hB0 := hB0.step s104 rfl
  replace hG := hG.step s104 rfl
  replace HF := HF.step s104 rfl
  refine WL.ex rfl (ex_not (b := z101) rfl) ?_
  refine WL.ex rfl (ex_assign (v := .bool (!z101)) rfl) ?_
  refine WL.nil ?_
  rcases condE H with ⟨c105, H⟩ | ⟨c105, H⟩
  ·
    refine WC.cond_t ((show _ = Value.bool (!z101) from rfl).trans (congrArg Value.bool c105)) ?_
    refine WC.seq ?_
    refine WC.region ?_
    refine WL.ex rfl (ex_assign (v := .int .i64 12) rfl) ?_
    refine WL.nil ?_
    refine WC.ret ?_
    obtain rfl := Option.some.inj H
    exact ⟨_, (.tmp (.int .i64 12 : Value) rfl .nil), _, pv0_0, rfl, HF.out, hB0, hO0_0⟩
  ·
    refine WC.cond_f ((show _ = Value.bool (!z101) from rfl).trans (congrArg Value.bool c105)) ?_
    refine WC.seq ?_
    refine WC.region ?_
    refine WL.ex rfl (ex_move (v := encS a1) rfl) ?_
    refine WL.ex rfl (ex_len_str (s := a1) rfl Tryd.underlying9) ?_
    refine WL.ex rfl (ex_bin (a := .int .i64 (a1.length : Int)) (b := .int .i64 65536) (v := .bool (decide ((a1.length : Int) > 65536))) rfl rfl bin_gtr) ?_
    refine WL.ex rfl (ex_assign (v := .bool (decide ((a1.length : Int) > 65536))) rfl) ?_
    refine WL.nil ?_
    rcases condE H with ⟨c106, H⟩ | ⟨c106, H⟩
    ·
      refine WC.cond_t ((show _ = Value.bool (decide ((a1.length : Int) > 65536)) from rfl).trans (congrArg Value.bool c106)) ?_
      refine WC.seq ?_
      refine WC.region ?_
      refine WL.ex rfl (ex_assign (v := .int .i64 11) rfl) ?_
      refine WL.nil ?_
      refine WC.ret ?_
      obtain rfl := Option.some.inj H
      exact ⟨_, (.tmp (.int .i64 11 : Value) rfl .nil), _, pv0_0, rfl, HF.out, hB0, hO0_0⟩
    ·
      refine WC.cond_f ((show _ = Value.bool (decide ((a1.length : Int) > 65536)) from rfl).trans (congrArg Value.bool c106)) ?_
      refine WC.skip ?_
      refine WC.seq ?_
      refine WC.region ?_
      refine WL.ex rfl (ex_move (v := .pointer (some ⟨pb0, 0, none⟩)) rfl) ?_
      refine WL.ex rfl (ex_move (v := encS a1) rfl) ?_
      refine WL.ex rfl (ex_len_str (s := a1) rfl Tryd.underlying9) ?_
      refine WL.ex rfl (ex_conv_u64 (k := .i64) (a := (a1.length : Int)) rfl Tryd.underlying3 Tryd.underlying29) ?_
      obtain ⟨z107, hz107, H⟩ := bindE H
      refine WL.op rfl ?_
      refine OW.call [.pointer (some ⟨pb0, 0, none⟩), enc64 (ofI64 (a1.length : Int))] rfl Tryd.func28 (by kernel_rfl) (by kernel_rfl) (map_cons' rfl (map_cons' rfl rfl)) (octet_Writer_Num.calls k _ _ pb0 pv0_0 a0 (ofI64 (a1.length : Int)) z107 (HF.ten (V := [0]) (L := [2, 3]) rfl) (Bk.vw (V := [0]) (L := [2, 3]) hB0 rfl) (Own.vw (V := [0]) (L := [2, 3]) hO0_0 rfl rfl) hz107) ?_
      rintro _ w108 ⟨o109, v112, rfl, s110, hB111, hO113⟩
      refine ⟨_, rfl, ?_⟩
      replace hB111 := Bk.unO (J := []) 0 hB111 s110 rfl rfl rfl
      replace hO113 := Own.unO (J := []) 1 hO113 s110 rfl rfl rfl
      replace s110 := un_stepL (J := []) (L' := [2, 3]) s110 rfl rfl
      replace hG := hG.step s110 rfl
      replace HF := HF.step s110 rfl
      refine WL.nil ?_
      refine WC.seq ?_
      refine WC.region ?_
      refine WL.ex rfl (ex_move (v := .pointer (some ⟨pb0, 0, none⟩)) rfl) ?_
      refine WL.ex rfl (ex_move (v := .pointer (some ⟨pb0, 0, none⟩)) rfl) ?_
      refine WL.ex rfl (ex_nilCheck rfl) ?_
      refine WL.ex rfl (ex_fieldAddr rfl Tryd.underlying26 rfl sz24) ?_
      refine WL.ex rfl (ex_load1 (v := v112) rfl Tryd.underlying24 rfl (hB111.cell rfl)) ?_
      refine WL.ex rfl (ex_move (v := encS a1) rfl) ?_
      obtain ⟨u114, hu114, H⟩ := bindE H
      refine WL.op rfl ?_
      refine OW.appendStr (E := 5) (i := 3) (s := a1) rfl Tryd.underlying24 Tryd.underlying9 inf5 (by decide) rfl rfl hO113 (of_decide_eq_true (chk_true hu114)) ?_
      intro o115 w116 v117 s118 hO119
      replace hG := hG.step s118 rfl
      replace hB111 := hB111.step s118 rfl
      replace HF := HF.step s118 rfl
      refine WL.ex rfl (ex_nilCheck rfl) ?_
      refine WL.ex rfl (ex_fieldAddr rfl Tryd.underlying26 rfl sz24) ?_
      refine WL.op rfl ?_
      refine OW.store [v117] rfl (vs := [v117]) ((congrArg Value.cells (show ev _ _ = (v117 : Value) from rfl)).trans (Own.cells1 hO119)) sz24 hB111 (Nat.le_of_ble_eq_true rfl) (by intro u_ hu_; simp only [List.mem_cons, List.not_mem_nil, or_false] at hu_; rcases hu_ with rfl; first | rfl | exact Own.oneCell hO119) rfl ?_
      intro w120 s121 hB122
      replace hG := hG.step s121 rfl
      replace hO119 := hO119.step s121 rfl rfl
      replace HF := HF.step s121 rfl
      refine WL.nil ?_
      refine WC.seq ?_
      refine WC.region ?_
      refine WL.ex rfl (ex_assign (v := .int .i64 0) rfl) ?_
      refine WL.nil ?_
      refine WC.ret ?_
      obtain rfl := Option.some.inj H
      exact ⟨_, (.tmp (.int .i64 0 : Value) rfl .nil), _, v117, rfl, HF.out, hB122, hO119⟩

/-! ### dictumlaw01_write -/
set_option maxRecDepth 100000 in
theorem dictumlaw01_write.calls (k : Nat) (o0 : Tags) (w0 : World) (pb0 : Nat) (pv0_0 : Value) (a0 : T_octet_Writer) (a1 : T_dictumlaw01_Piece) (r : (List UInt8) × Int × Int × T_octet_Writer) (hO : ∀ b, b < w0.heap.size → o0 b < 10) (hB0 : Bk o0 w0 2 pb0 [pv0_0] 26) (hO0_0 : Own Rep.u8 5 3 o0 w0 pv0_0 a0.f_B) (hG : Gl GG o0 w0) (H : dictumlaw01_write.f k a0 a1 = some r) :
    Calls Tryd.prog 10 [.pointer (some ⟨pb0, 0, none⟩), .agg #[.int .i64 a1.f_Kind, enc64 a1.f_N, encS a1.f_S]].toArray w0 fun e_ w_ => ∃ (o_ : Tags) (rv0 : Value) (u0_0 : Value), e_ = .returned (one [rv0, .int .i64 r.2.1, .int .i64 r.2.2.1]) ∧ Step o0 w0 o_ w_ [2, 3] ∧ Own Rep.u8 5 9 o_ w_ rv0 r.1 ∧ Bk o_ w_ 2 pb0 [u0_0] 26 ∧ Own Rep.u8 5 3 o_ w_ u0_0 r.2.2.2.f_B := by
  have HF := Fm.refl hO [2, 3]
  unfold dictumlaw01_write.f at H
  refine SX.calls [.pointer (some ⟨pb0, 0, none⟩), .agg #[.int .i64 a1.f_Kind, enc64 a1.f_N, encS a1.f_S]] Tryd.func10 rfl rfl ?_
  rw [Tryd.ntmps10]
  refine WC.seq ?_
  refine WC.region ?_
  refine WL.op rfl ?_
  refine OW.box' [.int .i64 a1.f_Kind, enc64 a1.f_N, encS a1.f_S] 10 HF rfl ((congrArg Value.cells (show ev _ _ = (.agg #[.int .i64 a1.f_Kind, enc64 a1.f_N, encS a1.f_S] : Value) from rfl)).trans rfl) ?_
  intro o102 w103 b101 s104 hB105
  replace hO0_0 := hO0_0.step s104 rfl rfl
  replace hB0 := hB0.step s104 rfl
  replace hG := hG.step s104 rfl
  replace HF := HF.step s104 rfl
  refine WL.ex rfl (ex_assign (v := .slice none ([] : List UInt8).length 0) rfl) ?_
  refine WL.ex rfl (ex_assign (v := .int .i64 0) rfl) ?_
  refine WL.ex rfl (ex_assign (v := .int .i64 0) rfl) ?_
  refine WL.nil ?_
  refine WC.seq ?_
  refine WC.seq ?_
  refine WC.region ?_
  refine WL.ex rfl (ex_fieldAddr rfl Tryd.underlying31 rfl sz3) ?_
  refine WL.ex rfl (ex_load1 (v := .int .i64 a1.f_Kind) rfl Tryd.underlying3 rfl (hB105.cell rfl)) ?_
  refine WL.nil ?_
  refine WC.block ?_
  refine WC.seq ?_
  refine WC.region ?_
  refine WL.ex rfl (ex_bin (a := .int .i64 a1.f_Kind) (b := .int .i64 0) (v := .bool (a1.f_Kind == 0)) rfl rfl bin_eql) ?_
  refine WL.ex rfl (ex_assign (v := .bool (a1.f_Kind == 0)) rfl) ?_
  refine WL.nil ?_
  rcases condE H with ⟨c106, H⟩ | ⟨c106, H⟩
  ·
    refine WC.cond_t ((show _ = Value.bool (a1.f_Kind == 0) from rfl).trans (congrArg Value.bool c106)) ?_
    refine WC.seq ?_
    refine WC.region ?_
    refine WL.ex rfl (ex_move (v := .pointer (some ⟨pb0, 0, none⟩)) rfl) ?_
    refine WL.ex rfl (ex_fieldAddr rfl Tryd.underlying31 rfl sz29) ?_
    refine WL.ex rfl (ex_load1 (v := enc64 a1.f_N) rfl Tryd.underlying29 rfl (hB105.cell rfl)) ?_
    refine WL.ex rfl (ex_conv_u8 (k := .u64) (a := (a1.f_N.toNat : Int)) rfl Tryd.underlying29 Tryd.underlying5) ?_
    obtain ⟨z107, hz107, H⟩ := bindE H
    refine WL.op rfl ?_
    refine OW.call [.pointer (some ⟨pb0, 0, none⟩), enc8 (ofI8 (a1.f_N.toNat : Int))] rfl Tryd.func27 (by kernel_rfl) (by kernel_rfl) (map_cons' rfl (map_cons' rfl rfl)) (octet_Writer_U8.calls _ _ pb0 pv0_0 a0 (ofI8 (a1.f_N.toNat : Int)) z107 (HF.ten (V := [0]) (L := [2, 3]) rfl) (Bk.vw (V := [0]) (L := [2, 3]) hB0 rfl) (Own.vw (V := [0]) (L := [2, 3]) hO0_0 rfl rfl) hz107) ?_
    rintro _ w108 ⟨o109, v112, rfl, s110, hB111, hO113⟩
    refine ⟨_, rfl, ?_⟩
    replace hB111 := Bk.unO (J := []) 0 hB111 s110 rfl rfl rfl
    replace hO113 := Own.unO (J := []) 1 hO113 s110 rfl rfl rfl
    replace s110 := un_stepL (J := []) (L' := [2, 3]) s110 rfl rfl
    replace hG := hG.step s110 rfl
    replace hB105 := hB105.step s110 rfl
    replace HF := HF.step s110 rfl
    refine WL.nil ?_
    refine WC.seq ?_
    refine WC.region ?_
    refine WL.ex rfl (ex_fieldAddr rfl Tryd.underlying31 rfl sz29) ?_
    refine WL.ex rfl (ex_load1 (v := enc64 a1.f_N) rfl Tryd.underlying29 rfl (hB105.cell rfl)) ?_
    refine WL.ex rfl (ex_conv_u8 (k := .u64) (a := (a1.f_N.toNat : Int)) rfl Tryd.underlying29 Tryd.underlying5) ?_
    refine WL.op rfl ?_
    refine OW.row (r := Rep.u8) (xs := [ofI8 (a1.f_N.toNat : Int)]) [(0, enc8 (ofI8 (a1.f_N.toNat : Int)))] [[enc8 (ofI8 (a1.f_N.toNat : Int))]] 11 HF rfl Tryd.underlying24 sz5 zr5 rfl (evs_cons rfl rfl) rfl rfl ⟨rfl, trivial⟩ rfl rfl rfl rfl ?_
    intro o114 w115 v117 s116 hO118
    replace hG := hG.step s116 rfl
    replace hB105 := hB105.step s116 rfl
    replace hB111 := hB111.step s116 rfl
    replace hO113 := hO113.step s116 rfl rfl
    replace HF := HF.step s116 rfl
    refine WL.ex rfl (ex_assign (v := v117) rfl) ?_
    refine WL.ex rfl (ex_assign (v := .int .i64 0) rfl) ?_
    refine WL.ex rfl (ex_assign (v := .int .i64 0) rfl) ?_
    refine WL.nil ?_
    refine WC.ret ?_
    obtain rfl := Option.some.inj H
    replace hO118 := Own.renTo (j := 9) hO118 rfl
    replace hB111 := Bk.ren (i := 11) (j := 9) hB111 rfl
    replace hO113 := Own.ren (i := 11) (j := 9) hO113 rfl rfl
    replace HF := HF.ren (i := 11) (j := 9) rfl
    exact ⟨_, (.tmp (v117 : Value) rfl (.tmp (.int .i64 0 : Value) rfl (.tmp (.int .i64 0 : Value) rfl .nil))), _, v117, v112, rfl, HF.out, hO118, hB111, hO113⟩
  ·
    refine WC.cond_f ((show _ = Value.bool (a1.f_Kind == 0) from rfl).trans (congrArg Value.bool c106)) ?_
    refine WC.seq ?_
    refine WC.region ?_
    refine WL.ex rfl (ex_bin (a := .int .i64 a1.f_Kind) (b := .int .i64 1) (v := .bool (a1.f_Kind == 1)) rfl rfl bin_eql) ?_
    refine WL.ex rfl (ex_assign (v := .bool (a1.f_Kind == 1)) rfl) ?_
    refine WL.nil ?_
    rcases condE H with ⟨c119, H⟩ | ⟨c119, H⟩
    ·
      refine WC.cond_t ((show _ = Value.bool (a1.f_Kind == 1) from rfl).trans (congrArg Value.bool c119)) ?_
      refine WC.seq ?_
      refine WC.region ?_
      refine WL.ex rfl (ex_move (v := .pointer (some ⟨pb0, 0, none⟩)) rfl) ?_
      refine WL.ex rfl (ex_fieldAddr rfl Tryd.underlying31 rfl sz29) ?_
      refine WL.ex rfl (ex_load1 (v := enc64 a1.f_N) rfl Tryd.underlying29 rfl (hB105.cell rfl)) ?_
      obtain ⟨z120, hz120, H⟩ := bindE H
      refine WL.op rfl ?_
      refine OW.call [.pointer (some ⟨pb0, 0, none⟩), enc64 a1.f_N] rfl Tryd.func28 (by kernel_rfl) (by kernel_rfl) (map_cons' rfl (map_cons' rfl rfl)) (octet_Writer_Num.calls k _ _ pb0 pv0_0 a0 a1.f_N z120 (HF.ten (V := [0]) (L := [2, 3]) rfl) (Bk.vw (V := [0]) (L := [2, 3]) hB0 rfl) (Own.vw (V := [0]) (L := [2, 3]) hO0_0 rfl rfl) hz120) ?_
      rintro _ w121 ⟨o122, v125, rfl, s123, hB124, hO126⟩
      refine ⟨_, rfl, ?_⟩
      replace hB124 := Bk.unO (J := []) 0 hB124 s123 rfl rfl rfl
      replace hO126 := Own.unO (J := []) 1 hO126 s123 rfl rfl rfl
      replace s123 := un_stepL (J := []) (L' := [2, 3]) s123 rfl rfl
      replace hG := hG.step s123 rfl
      replace hB105 := hB105.step s123 rfl
      replace HF := HF.step s123 rfl
      refine WL.nil ?_
      refine WC.seq ?_
      refine WC.region ?_
      refine WL.ex rfl (ex_fieldAddr rfl Tryd.underlying31 rfl sz29) ?_
      refine WL.ex rfl (ex_load1 (v := enc64 a1.f_N) rfl Tryd.underlying29 rfl (hB105.cell rfl)) ?_
      obtain ⟨z127, hz127, H⟩ := bindE H
      refine WL.op rfl ?_
      refine OW.call [enc64 a1.f_N] rfl Tryd.func39 (by kernel_rfl) (by kernel_rfl) (map_cons' rfl rfl) (dictumref01_Num.calls k _ _ a1.f_N z127 (HF.ten (V := [0]) (L := []) rfl)  hz127) ?_
      rintro _ w128 ⟨o129, v131, rfl, s130, hO132⟩
      refine ⟨_, rfl, ?_⟩
      replace hO132 := Own.un9 (J := [12]) 0 hO132 rfl s130 rfl rfl
      replace s130 := un_stepL (J := [12]) (L' := []) s130 rfl rfl
      replace hG := hG.step s130 rfl
      replace hB105 := hB105.step s130 rfl
      replace hB124 := hB124.step s130 rfl
      replace hO126 := hO126.step s130 rfl rfl
      replace HF := HF.step s130 rfl
      refine WL.ex rfl (ex_assign (v := v131) rfl) ?_
      refine WL.ex rfl (ex_assign (v := .int .i64 0) rfl) ?_
      refine WL.ex rfl (ex_assign (v := .int .i64 0) rfl) ?_
      refine WL.nil ?_
      refine WC.ret ?_
      obtain rfl := Option.some.inj H
      replace hO132 := Own.renTo (j := 9) hO132 rfl
      replace hB124 := Bk.ren (i := 12) (j := 9) hB124 rfl
      replace hO126 := Own.ren (i := 12) (j := 9) hO126 rfl rfl
      replace HF := HF.ren (i := 12) (j := 9) rfl
      exact ⟨_, (.tmp (v131 : Value) rfl (.tmp (.int .i64 0 : Value) rfl (.tmp (.int .i64 0 : Value) rfl .nil))), _, v131, v125, rfl, HF.out, hO132, hB124, hO126⟩
    ·
      refine WC.cond_f ((show _ = Value.bool (a1.f_Kind == 1) from rfl).trans (congrArg Value.bool c119)) ?_
      refine WC.seq ?_
      refine WC.region ?_
      refine WL.ex rfl (ex_bin (a := .int .i64 a1.f_Kind) (b := .int .i64 2) (v := .bool (a1.f_Kind == 2)) rfl rfl bin_eql) ?_
      refine WL.ex rfl (ex_assign (v := .bool (a1.f_Kind == 2)) rfl) ?_
      refine WL.nil ?_
      rcases condE H with ⟨c133, H⟩ | ⟨c133, H⟩
      ·
        refine WC.cond_t ((show _ = Value.bool (a1.f_Kind == 2) from rfl).trans (congrArg Value.bool c133)) ?_
        refine WC.seq ?_
        refine WC.region ?_
        refine WL.ex rfl (ex_fieldAddr rfl Tryd.underlying31 rfl sz9) ?_
        refine WL.ex rfl (ex_load1 (v := encS a1.f_S) rfl Tryd.underlying9 rfl (hB105.cell rfl)) ?_
        obtain ⟨z134, hz134, H⟩ := bindE H
        refine WL.op rfl ?_
        refine OW.call [encS a1.f_S] rfl Tryd.func40 (by kernel_rfl) (by kernel_rfl) (map_cons' rfl rfl) (dictumref01_Text.calls k _ _ a1.f_S z134 (HF.ten (V := [0]) (L := []) rfl)  hz134) ?_
        rintro _ w135 ⟨o136, v138, rfl, s137, hO139⟩
        refine ⟨_, rfl, ?_⟩
        replace hO139 := Own.un9 (J := [13]) 0 hO139 rfl s137 rfl rfl
        replace s137 := un_stepL (J := [13]) (L' := []) s137 rfl rfl
        replace hO0_0 := hO0_0.step s137 rfl rfl
        replace hB0 := hB0.step s137 rfl
        replace hG := hG.step s137 rfl
        replace hB105 := hB105.step s137 rfl
        replace HF := HF.step s137 rfl
        refine WL.ex rfl (ex_move (v := .tuple #[v138, .int .i64 z134.2]) rfl) ?_
        refine WL.ex rfl (ex_extract (vs := #[v138, .int .i64 z134.2]) (v := v138) rfl rfl) ?_
        refine WL.ex rfl (ex_extract (vs := #[v138, .int .i64 z134.2]) (v := .int .i64 z134.2) rfl rfl) ?_
        refine WL.ex rfl (ex_assign (v := v138) rfl) ?_
        refine WL.ex rfl (ex_assign (v := .int .i64 z134.2) rfl) ?_
        refine WL.nil ?_
        refine WC.seq ?_
        refine WC.region ?_
        refine WL.ex rfl (ex_move (v := v138) rfl) ?_
        refine WL.ex rfl (ex_move (v := .int .i64 z134.2) rfl) ?_
        refine WL.ex rfl (ex_move (v := .pointer (some ⟨pb0, 0, none⟩)) rfl) ?_
        refine WL.ex rfl (ex_fieldAddr rfl Tryd.underlying31 rfl sz9) ?_
        refine WL.ex rfl (ex_load1 (v := encS a1.f_S) rfl Tryd.underlying9 rfl (hB105.cell rfl)) ?_
        obtain ⟨z140, hz140, H⟩ := bindE H
        refine WL.op rfl ?_
        refine OW.call [.pointer (some ⟨pb0, 0, none⟩), encS a1.f_S] rfl Tryd.func29 (by kernel_rfl) (by kernel_rfl) (map_cons' rfl (map_cons' rfl rfl)) (octet_Writer_Text.calls k _ _ pb0 pv0_0 a0 a1.f_S z140 (HF.ten (V := [0]) (L := [2, 3]) rfl) (Bk.vw (V := [0]) (L := [2, 3]) hB0 rfl) (Own.vw (V := [0]) (L := [2, 3]) hO0_0 rfl rfl) (Gl.vw (V := [0]) (L := [2, 3]) hG rfl) hz140) ?_
        rintro _ w141 ⟨o142, v145, rfl, s143, hB144, hO146⟩
        refine ⟨_, rfl, ?_⟩
        replace hB144 := Bk.unO (J := []) 0 hB144 s143 rfl rfl rfl
        replace hO146 := Own.unO (J := []) 1 hO146 s143 rfl rfl rfl
        replace s143 := un_stepL (J := []) (L' := [2, 3]) s143 rfl rfl
        replace hG := hG.step s143 rfl
        replace hB105 := hB105.step s143 rfl
        replace hO139 := hO139.step s143 rfl rfl
        replace HF := HF.step s143 rfl
        refine WL.ex rfl (ex_assign (v := v138) rfl) ?_
        refine WL.ex rfl (ex_assign (v := .int .i64 z134.2) rfl) ?_
        refine WL.ex rfl (ex_assign (v := .int .i64 z140.1) rfl) ?_
        refine WL.nil ?_
        refine WC.ret ?_
        obtain rfl := Option.some.inj H
        replace hO139 := Own.renTo (j := 9) hO139 rfl
        replace hB144 := Bk.ren (i := 13) (j := 9) hB144 rfl
        replace hO146 := Own.ren (i := 13) (j := 9) hO146 rfl rfl
        replace HF := HF.ren (i := 13) (j := 9) rfl
        exact ⟨_, (.tmp (v138 : Value) rfl (.tmp (.int .i64 z134.2 : Value) rfl (.tmp (.int .i64 z140.1 : Value) rfl .nil))), _, v138, v145, rfl, HF.out, hO139, hB144, hO146⟩
      ·
        refine WC.cond_f ((show _ = Value.bool (a1.f_Kind == 2) from rfl).trans (congrArg Value.bool c133)) ?_
        refine WC.skip ?_
        refine WC.seq ?_
        refine WC.region ?_
        refine WL.ex rfl (ex_assign (v := .slice none ([] : List UInt8).length 0) rfl) ?_
        refine WL.ex rfl (ex_assign (v := .int .i64 0) rfl) ?_
        refine WL.ex rfl (ex_assign (v := .int .i64 0) rfl) ?_
        refine WL.nil ?_
        refine WC.ret ?_
        obtain rfl := Option.some.inj H
        exact ⟨_, (.tmp (.slice none ([] : List UInt8).length 0 : Value) rfl (.tmp (.int .i64 0 : Value) rfl (.tmp (.int .i64 0 : Value) rfl .nil))), _, (.slice none 0 0), pv0_0, rfl, HF.out, Own.nil, hB0, hO0_0⟩

/-! ### bytes_Clone -/
set_option maxRecDepth 100000 in
theorem bytes_Clone.calls (o0 : Tags) (w0 : World) (pA0 : Option Addr) (pc0 : Nat) (a0 : (List UInt8)) (r : (List UInt8)) (hO : ∀ b, b < w0.heap.size → o0 b < 10) (hra0 : Row Rep.u8 (fun b_ => o0 b_ = 0) (fun b_ => o0 b_ = 0) w0 pA0 a0) (hla0 : a0.length ≤ pc0) (H : bytes_Clone.f a0 = some r) :
    Calls Tryd.prog 41 [.slice pA0 a0.length pc0].toArray w0 fun e_ w_ => ∃ (o_ : Tags) (rv0 : Value), e_ = .returned (one [rv0]) ∧ Step o0 w0 o_ w_ [] ∧ Own Rep.u8 5 9 o_ w_ rv0 r := by
  have HF := Fm.refl hO []
  unfold bytes_Clone.f at H
  refine SX.calls [.slice pA0 a0.length pc0] Tryd.func41 rfl rfl ?_
  rw [Tryd.ntmps41]
  refine WC.seq ?_
  refine WC.region ?_
  refine WL.ex rfl (ex_assign (v := .slice none ([] : List UInt8).length 0) rfl) ?_
  refine WL.nil ?_
  refine WC.seq ?_
  refine WC.seq ?_
  refine WC.region ?_
  refine WL.ex rfl (ex_move (v := .slice pA0 a0.length pc0) rfl) ?_
  rcases nilE H hra0 with ⟨rfl, H⟩ | ⟨ad101, rfl, H⟩
  ·
    refine WL.ex rfl (ex_bin (a := .slice none a0.length pc0) (b := .slice none 0 0) (v := .bool true) rfl rfl (bin_eql_slN Tryd.underlying24)) ?_
    refine WL.nil ?_
    refine WC.cond_t rfl ?_
    refine WC.seq ?_
    refine WC.region ?_
    refine WL.ex rfl (ex_assign (v := .slice none ([] : List UInt8).length 0) rfl) ?_
    refine WL.nil ?_
    refine WC.ret ?_
    obtain rfl := Option.some.inj H
    exact ⟨_, (.tmp (.slice none ([] : List UInt8).length 0 : Value) rfl .nil), _, (.slice none 0 0), rfl, HF.out, Own.nil⟩
  ·
    refine WL.ex rfl (ex_bin (a := .slice (some ad101) a0.length pc0) (b := .slice none 0 0) (v := .bool false) rfl rfl (bin_eql_slS Tryd.underlying24)) ?_
    refine WL.nil ?_
    refine WC.cond_f rfl ?_
    refine WC.skip ?_
    refine WC.seq ?_
    refine WC.region ?_
    refine WL.op rfl ?_
    refine OW.row (r := Rep.u8) (xs := ([] : List UInt8)) [] [] 10 HF rfl Tryd.underlying24 sz5 zr5 rfl rfl rfl rfl trivial rfl rfl rfl rfl ?_
    intro o102 w103 v105 s104 hO106
    replace hra0 := hra0.step s104 rfl
    replace HF := HF.step s104 rfl
    refine WL.ex rfl (ex_move (v := .slice (some ad101) a0.length pc0) rfl) ?_
    obtain ⟨u107, hu107, H⟩ := bindE H
    refine WL.op rfl ?_
    refine OW.append (r := Rep.u8) (E := 5) (i := 10) rfl Tryd.underlying24 inf5 rfl (by decide) (by decide) (by decide) rfl rfl hO106 (hra0) rfl (of_decide_eq_true (chk_true hu107)) ?_
    intro o108 w109 v110 s111 hO112
    replace hra0 := hra0.step s111 rfl
    replace HF := HF.step s111 rfl
    refine WL.ex rfl (ex_assign (v := v110) rfl) ?_
    refine WL.nil ?_
    refine WC.ret ?_
    obtain rfl := Option.some.inj H
    replace hO112 := Own.renTo (j := 9) hO112 rfl
    replace HF := HF.ren (i := 10) (j := 9) rfl
    exact ⟨_, (.tmp (v110 : Value) rfl .nil), _, v110, rfl, HF.out, hO112⟩

/-! ### octet_NewReader -/
set_option maxRecDepth 100000 in
theorem octet_NewReader.calls (o0 : Tags) (w0 : World) (pA0 : Option Addr) (pc0 : Nat) (a0 : (List UInt8)) (r : T_octet_Reader) (hO : ∀ b, b < w0.heap.size → o0 b < 10) (hra0 : Row Rep.u8 (fun b_ => o0 b_ = 0) (fun b_ => o0 b_ = 0) w0 pA0 a0) (hla0 : a0.length ≤ pc0) (H : octet_NewReader.f a0 = some r) :
    Calls Tryd.prog 19 [.slice pA0 a0.length pc0].toArray w0 fun e_ w_ => ∃ (o_ : Tags) (b_0 : Nat) (rv0_1 : Value), e_ = .returned (one [.pointer (some ⟨b_0, 0, none⟩)]) ∧ Step o0 w0 o_ w_ [] ∧ Bk o_ w_ 9 b_0 [.bool r.f_made, rv0_1] 68 ∧ Own Rep.u8 5 8 o_ w_ rv0_1 r.f_left := by
  have HF := Fm.refl hO []
  unfold octet_NewReader.f at H
  refine SX.calls [.slice pA0 a0.length pc0] Tryd.func19 rfl rfl ?_
  rw [Tryd.ntmps19]
  refine WC.seq ?_
  refine WC.region ?_
  refine WL.ex rfl (ex_assign (v := .pointer none) rfl) ?_
  refine WL.nil ?_
  refine WC.seq ?_
  refine WC.region ?_
  refine WL.ex rfl (ex_move (v := .slice pA0 a0.length pc0) rfl) ?_
  obtain ⟨z101, hz101, H⟩ := bindE H
  refine WL.op rfl ?_
  refine OW.call [.slice pA0 a0.length pc0] rfl Tryd.func41 (by kernel_rfl) (by kernel_rfl) (map_cons' rfl rfl) (bytes_Clone.calls _ _ pA0 pc0 a0 z101 (HF.ten (V := [0]) (L := []) rfl) (Row.vw (V := [0]) (L := []) hra0 rfl) hla0 hz101) ?_
  rintro _ w102 ⟨o103, v105, rfl, s104, hO106⟩
  refine ⟨_, rfl, ?_⟩
  replace hO106 := Own.un9 (J := [10]) 0 hO106 rfl s104 rfl rfl
  replace s104 := un_stepL (J := [10]) (L' := []) s104 rfl rfl
  replace hra0 := hra0.step s104 rfl
  replace HF := HF.step s104 rfl
  refine WL.ex rfl (ex_build (cs := [.bool true, v105]) [(0, 1), (1, 1)] [(0, .bool true), (1, v105)] [.bool false, .slice none 0 0] Tryd.underlying68 zr68 rfl (by kernel_rfl) (evs_cons rfl (evs_cons rfl rfl)) (by simp only [List.map_cons, List.map_nil, Own.cells1 hO106] <;> rfl)) ?_
  refine WL.op rfl ?_
  refine OW.box' [.bool true, v105] 11 HF rfl ((congrArg Value.cells (show ev _ _ = (.agg #[.bool true, v105] : Value) from rfl)).trans rfl) ?_
  intro o108 w109 b107 s110 hB111
  replace hra0 := hra0.step s110 rfl
  replace hO106 := hO106.step s110 rfl rfl
  replace HF := HF.step s110 rfl
  refine WL.ex rfl (ex_assign (v := .pointer (some ⟨b107, 0, none⟩)) rfl) ?_
  refine WL.nil ?_
  refine WC.ret ?_
  obtain rfl := Option.some.inj H
  replace hB111 := Bk.renTo (j := 9) hB111
  replace hO106 := Own.ren (i := 11) (j := 9) hO106 rfl rfl
  replace HF := HF.ren (i := 11) (j := 9) rfl
  replace hB111 := Bk.ren (i := 10) (j := 8) hB111 rfl
  replace hO106 := Own.renTo (j := 8) hO106 rfl
  replace HF := HF.ren (i := 10) (j := 8) rfl
  exact ⟨_, (.tmp (.pointer (some ⟨b107, 0, none⟩) : Value) rfl .nil), _, b107, v105, rfl, HF.out, hB111, hO106⟩

/-! ### octet_Reader_alive -/
set_option maxRecDepth 100000 in
theorem octet_Reader_alive.calls (o0 : Tags) (w0 : World) (pb0 : Nat) (pA0_1 : Option Addr) (pc0_1 : Nat) (a0 : T_octet_Reader) (r : Bool) (hO : ∀ b, b < w0.heap.size → o0 b < 10) (hB0 : Bk o0 w0 2 pb0 [.bool a0.f_made, .slice pA0_1 a0.f_left.length pc0_1] 68) (hra0_1 : Row Rep.u8 (fun b_ => o0 b_ = 0) (fun b_ => o0 b_ = 0) w0 pA0_1 a0.f_left) (hla0_1 : a0.f_left.length ≤ pc0_1) (H : octet_Reader_alive.f a0 = some r) :
    Calls Tryd.prog 43 [.pointer (some ⟨pb0, 0, none⟩)].toArray w0 fun e_ w_ => ∃ (o_ : Tags), e_ = .returned (one [.bool r]) ∧ Step o0 w0 o_ w_ [] := by
  have HF := Fm.refl hO []
  unfold octet_Reader_alive.f at H
  refine SX.calls [.pointer (some ⟨pb0, 0, none⟩)] Tryd.func43 rfl rfl ?_
  rw [Tryd.ntmps43]
  refine WC.seq ?_
  refine WC.region ?_
  refine WL.ex rfl (ex_assign (v := .bool false) rfl) ?_
  refine WL.nil ?_
  refine WC.seq ?_
  refine WC.region ?_
  refine WL.ex rfl (ex_move (v := .pointer (some ⟨pb0, 0, none⟩)) rfl) ?_
  refine WL.ex rfl (ex_bin (a := .pointer (some ⟨pb0, 0, none⟩)) (b := .pointer none) (v := .bool true) rfl rfl (bin_neq_ptrSN Tryd.underlying48)) ?_
  refine WL.ex rfl (ex_move (v := .bool true) rfl) ?_
  refine WL.guardYes rfl rfl rfl rfl ?_
  refine OW.ex rfl (ex_move (v := .pointer (some ⟨pb0, 0, none⟩)) rfl) ?_
  refine WL.guardYes rfl rfl rfl rfl ?_
  refine OW.ex rfl (ex_nilCheck rfl) ?_
  refine WL.guardYes rfl rfl rfl rfl ?_
  refine OW.ex rfl (ex_fieldAddr rfl Tryd.underlying68 rfl sz4) ?_
  refine WL.guardYes rfl rfl rfl rfl ?_
  refine OW.ex rfl (ex_load1 (v := .bool a0.f_made) rfl Tryd.underlying4 rfl (hB0.cell rfl)) ?_
  refine WL.ex rfl (ex_pick_t (v := .bool a0.f_made) rfl rfl) ?_
  refine WL.ex rfl (ex_assign (v := .bool a0.f_made) rfl) ?_
  refine WL.nil ?_
  refine WC.ret ?_
  obtain rfl := Option.some.inj H
  exact ⟨_, (.tmp (.bool a0.f_made : Value) rfl .nil), _, rfl, HF.out⟩

/-! ### octet_Reader_U8 -/
set_option maxRecDepth 100000 in
theorem octet_Reader_U8.calls (o0 : Tags) (w0 : World) (pb0 : Nat) (pA0_1 : Option Addr) (pc0_1 : Nat) (a0 : T_octet_Reader) (r : UInt8 × Int × T_octet_Reader) (hO : ∀ b, b < w0.heap.size → o0 b < 10) (hB0 : Bk o0 w0 2 pb0 [.bool a0.f_made, .slice pA0_1 a0.f_left.length pc0_1] 68) (hra0_1 : Row Rep.u8 (fun b_ => o0 b_ = 0) (fun b_ => o0 b_ = 0) w0 pA0_1 a0.f_left) (hla0_1 : a0.f_left.length ≤ pc0_1) (H : octet_Reader_U8.f a0 = some r) :
    Calls Tryd.prog 20 [.pointer (some ⟨pb0, 0, none⟩)].toArray w0 fun e_ w_ => ∃ (o_ : Tags) (B_0_1 : Option Addr) (d_0_1 : Nat), e_ = .returned (one [enc8 r.1, .int .i64 r.2.1]) ∧ Step o0 w0 o_ w_ [2] ∧ Bk o_ w_ 2 pb0 [.bool r.2.2.f_made, .slice B_0_1 r.2.2.f_left.length d_0_1] 68 ∧ r.2.2.f_left.length ≤ d_0_1 ∧ Row Rep.u8 (fun b_ => o_ b_ = 0) (fun b_ => o_ b_ = 0) w_ B_0_1 r.2.2.f_left := by
  have HF := Fm.refl hO [2]
  unfold octet_Reader_U8.f at H
  refine SX.calls [.pointer (some ⟨pb0, 0, none⟩)] Tryd.func20 rfl rfl ?_
  rw [Tryd.ntmps20]
  refine WC.seq ?_
  refine WC.region ?_
  refine WL.ex rfl (ex_assign (v := enc8 (0 : UInt8)) rfl) ?_
  refine WL.ex rfl (ex_assign (v := .int .i64 0) rfl) ?_
  refine WL.nil ?_
  refine WC.seq ?_
  refine WC.block ?_
  refine WC.seq ?_
  refine WC.region ?_
  refine WL.ex rfl (ex_move (v := .pointer (some ⟨pb0, 0, none⟩)) rfl) ?_
  obtain ⟨z101, hz101, H⟩ := bindE H
  refine WL.op rfl ?_
  refine OW.call [.pointer (some ⟨pb0, 0, none⟩)] rfl Tryd.func43 (by kernel_rfl) (by kernel_rfl) (map_cons' rfl rfl) (octet_Reader_alive.calls _ _ pb0 pA0_1 pc0_1 a0 z101 (HF.ten (V := [0]) (L := [2]) rfl) (Bk.vw (V := [0]) (L := [2]) hB0 rfl) (Row.vw (V := [0]) (L := [2]) hra0_1 rfl) hla0_1 hz101) ?_
  rintro _ w102 ⟨o103, rfl, s104⟩
  refine ⟨_, rfl, ?_⟩
  replace s104 := un_stepL (J := []) (L' := []) s104 rfl rfl
  replace hra0_1 := hra0_1.step s104 rfl
  replace hB0 := hB0.step s104 rfl
  replace HF := HF.step s104 rfl
  refine WL.ex rfl (ex_not (b := z101) rfl) ?_
  refine WL.ex rfl (ex_assign (v := .bool (!z101)) rfl) ?_
  refine WL.nil ?_
  rcases condE H with ⟨c105, H⟩ | ⟨c105, H⟩
  ·
    refine WC.cond_t ((show _ = Value.bool (!z101) from rfl).trans (congrArg Value.bool c105)) ?_
    refine WC.seq ?_
    refine WC.region ?_
    refine WL.ex rfl (ex_assign (v := enc8 (0 : UInt8)) rfl) ?_
    refine WL.ex rfl (ex_assign (v := .int .i64 1) rfl) ?_
    refine WL.nil ?_
    refine WC.ret ?_
    obtain rfl := Option.some.inj H
    exact ⟨_, (.tmp (enc8 (0 : UInt8) : Value) rfl (.tmp (.int .i64 1 : Value) rfl .nil)), _, pA0_1, pc0_1, rfl, HF.out, hB0, hla0_1, hra0_1⟩
  ·
    refine WC.cond_f ((show _ = Value.bool (!z101) from rfl).trans (congrArg Value.bool c105)) ?_
    refine WC.seq ?_
    refine WC.region ?_
    refine WL.ex rfl (ex_move (v := .pointer (some ⟨pb0, 0, none⟩)) rfl) ?_
    refine WL.ex rfl (ex_nilCheck rfl) ?_
    refine WL.ex rfl (ex_fieldAddr rfl Tryd.underlying68 rfl sz24) ?_
    refine WL.ex rfl (ex_load1 (v := .slice pA0_1 a0.f_left.length pc0_1) rfl Tryd.underlying24 rfl (hB0.cell rfl)) ?_
    refine WL.ex rfl (ex_len_slice (A := pA0_1) (m := a0.f_left.length) (c := pc0_1) rfl Tryd.underlying24) ?_
    refine WL.ex rfl (ex_bin (a := .int .i64 (a0.f_left.length : Int)) (b := .int .i64 0) (v := .bool ((a0.f_left.length : Int) == 0)) rfl rfl bin_eql) ?_
    refine WL.ex rfl (ex_assign (v := .bool ((a0.f_left.length : Int) == 0)) rfl) ?_
    refine WL.nil ?_
    rcases condE H with ⟨c106, H⟩ | ⟨c106, H⟩
    ·
      refine WC.cond_t ((show _ = Value.bool ((a0.f_left.length : Int) == 0) from rfl).trans (congrArg Value.bool c106)) ?_
      refine WC.seq ?_
      refine WC.region ?_
      refine WL.ex rfl (ex_assign (v := enc8 (0 : UInt8)) rfl) ?_
      refine WL.ex rfl (ex_assign (v := .int .i64 10) rfl) ?_
      refine WL.nil ?_
      refine WC.ret ?_
      obtain rfl := Option.some.inj H
      exact ⟨_, (.tmp (enc8 (0 : UInt8) : Value) rfl (.tmp (.int .i64 10 : Value) rfl .nil)), _, pA0_1, pc0_1, rfl, HF.out, hB0, hla0_1, hra0_1⟩
    ·
      refine WC.cond_f ((show _ = Value.bool ((a0.f_left.length : Int) == 0) from rfl).trans (congrArg Value.bool c106)) ?_
      refine WC.skip ?_
      refine WC.seq ?_
      refine WC.region ?_
      refine WL.ex rfl (ex_move (v := .pointer (some ⟨pb0, 0, none⟩)) rfl) ?_
      refine WL.ex rfl (ex_nilCheck rfl) ?_
      refine WL.ex rfl (ex_fieldAddr rfl Tryd.underlying68 rfl sz24) ?_
      refine WL.ex rfl (ex_load1 (v := .slice pA0_1 a0.f_left.length pc0_1) rfl Tryd.underlying24 rfl (hB0.cell rfl)) ?_
      obtain ⟨x107, hx107, H⟩ := bindE H
      obtain ⟨ad108, e109, g110, g111, cell112⟩ := Row.ixS hra0_1 hx107
      refine WL.ex rfl (ex_indexAddr (i := (0 : Int)) rfl e109 rfl Tryd.underlying24 sz5 g110 g111) ?_
      refine WL.ex rfl (ex_load1 (v := enc8 x107) rfl Tryd.underlying5 rfl cell112) ?_
      refine WL.ex rfl (ex_assign (v := enc8 x107) rfl) ?_
      refine WL.nil ?_
      refine WC.seq ?_
      refine WC.region ?_
      refine WL.ex rfl (ex_move (v := .pointer (some ⟨pb0, 0, none⟩)) rfl) ?_
      refine WL.ex rfl (ex_move (v := .pointer (some ⟨pb0, 0, none⟩)) rfl) ?_
      refine WL.ex rfl (ex_nilCheck rfl) ?_
      refine WL.ex rfl (ex_fieldAddr rfl Tryd.underlying68 rfl sz24) ?_
      refine WL.ex rfl (ex_load1 (v := .slice pA0_1 a0.f_left.length pc0_1) rfl Tryd.underlying24 rfl (hB0.cell rfl)) ?_
      obtain ⟨y114, hy114, H⟩ := bindE H
      have hr116 := Row.cut hra0_1 hla0_1 hy114
      obtain ⟨A117, el120⟩ : ∃ A_, A_ = subA pA0_1 pc0_1 (1 : Int).toNat 1 := ⟨_, rfl⟩
      rw [show subA pA0_1 pc0_1 (1 : Int).toNat Rep.u8.sz = A117 from el120.symm] at hr116
      have hl119 : y114.length ≤ pc0_1 - (1 : Int).toNat := cut_le hla0_1 hy114
      refine WL.ex rfl (ex_slice' (l := 1) (h := (a0.f_left.length : Int)) rfl Tryd.underlying24 sz5 ⟨_, rfl⟩ rfl (cut_low hy114) (cut_mid hy114) (cut_cap hla0_1 hy114) el120 (cut_len hy114)) ?_
      refine WL.ex rfl (ex_nilCheck rfl) ?_
      refine WL.ex rfl (ex_fieldAddr rfl Tryd.underlying68 rfl sz24) ?_
      refine WL.op rfl ?_
      refine OW.store [.bool a0.f_made, .slice A117 y114.length (pc0_1 - (1 : Int).toNat)] rfl (vs := [.slice A117 y114.length (pc0_1 - (1 : Int).toNat)]) ((congrArg Value.cells (show ev _ _ = (.slice A117 y114.length (pc0_1 - (1 : Int).toNat) : Value) from rfl)).trans rfl) sz24 hB0 (Nat.le_of_ble_eq_true rfl) (by intro u_ hu_; simp only [List.mem_cons, List.not_mem_nil, or_false] at hu_; rcases hu_ with rfl; first | rfl) rfl ?_
      intro w121 s122 hB123
      replace hra0_1 := hra0_1.step s122 rfl
      replace hr116 := hr116.step s122 rfl
      replace HF := HF.step s122 rfl
      refine WL.nil ?_
      refine WC.seq ?_
      refine WC.region ?_
      refine WL.ex rfl (ex_move (v := enc8 x107) rfl) ?_
      refine WL.ex rfl (ex_assign (v := enc8 x107) rfl) ?_
      refine WL.ex rfl (ex_assign (v := .int .i64 0) rfl) ?_
      refine WL.nil ?_
      refine WC.ret ?_
      obtain rfl := Option.some.inj H
      exact ⟨_, (.tmp (enc8 x107 : Value) rfl (.tmp (.int .i64 0 : Value) rfl .nil)), _, A117, (pc0_1 - (1 : Int).toNat), rfl, HF.out, hB123, hl119, hr116⟩

/-! ### octet_Reader_Num -/
set_option maxRecDepth 100000 in
theorem octet_Reader_Num.calls (k : Nat) (o0 : Tags) (w0 : World) (pb0 : Nat) (pA0_1 : Option Addr) (pc0_1 : Nat) (a0 : T_octet_Reader) (r : UInt64 × Int × T_octet_Reader) (hO : ∀ b, b < w0.heap.size → o0 b < 10) (hB0 : Bk o0 w0 2 pb0 [.bool a0.f_made, .slice pA0_1 a0.f_left.length pc0_1] 68) (hra0_1 : Row Rep.u8 (fun b_ => o0 b_ = 0) (fun b_ => o0 b_ = 0) w0 pA0_1 a0.f_left) (hla0_1 : a0.f_left.length ≤ pc0_1) (H : octet_Reader_Num.f k a0 = some r) :
    Calls Tryd.prog 21 [.pointer (some ⟨pb0, 0, none⟩)].toArray w0 fun e_ w_ => ∃ (o_ : Tags) (B_0_1 : Option Addr) (d_0_1 : Nat), e_ = .returned (one [enc64 r.1, .int .i64 r.2.1]) ∧ Step o0 w0 o_ w_ [2] ∧ Bk o_ w_ 2 pb0 [.bool r.2.2.f_made, .slice B_0_1 r.2.2.f_left.length d_0_1] 68 ∧ r.2.2.f_left.length ≤ d_0_1 ∧ Row Rep.u8 (fun b_ => o_ b_ = 0) (fun b_ => o_ b_ = 0) w_ B_0_1 r.2.2.f_left := by
  have HF := Fm.refl hO [2]
  unfold octet_Reader_Num.f at H
  refine SX.calls [.pointer (some ⟨pb0, 0, none⟩)] Tryd.func21 rfl rfl ?_
  rw [Tryd.ntmps21]
  refine WC.seq ?_
  refine WC.region ?_
  refine WL.ex rfl (ex_assign (v := enc64 (0 : UInt64)) rfl) ?_
  refine WL.ex rfl (ex_assign (v := .int .i64 0) rfl) ?_
  refine WL.nil ?_
  refine WC.seq ?_
  refine WC.seq ?_
  refine WC.region ?_
  refine WL.ex rfl (ex_move (v := .pointer (some ⟨pb0, 0, none⟩)) rfl) ?_
  obtain ⟨z101, hz101, H⟩ := bindE H
  refine WL.op rfl ?_
  refine OW.call [.pointer (some ⟨pb0, 0, none⟩)] rfl Tryd.func43 (by kernel_rfl) (by kernel_rfl) (map_cons' rfl rfl) (octet_Reader_alive.calls _ _ pb0 pA0_1 pc0_1 a0 z101 (HF.ten (V := [0]) (L := [2]) rfl) (Bk.vw (V := [0]) (L := [2]) hB0 rfl) (Row.vw (V := [0]) (L := [2]) hra0_1 rfl) hla0_1 hz101) ?_
  rintro _ w102 ⟨o103, rfl, s104⟩
  refine ⟨_, rfl, ?_⟩
  replace s104 := un_stepL (J := []) (L' := []) s104 rfl rfl
  replace hra0_1 := hra0_1.step s104 rfl
  replace hB0 := hB0.step s104 rfl
  replace HF := HF.step s104 rfl
  refine WL.ex rfl (ex_not (b := z101) rfl) ?_
  refine WL.nil ?_
  rcases condE H with ⟨c105, H⟩ | ⟨c105, H⟩
  ·
    refine WC.cond_t ((show _ = Value.bool (!z101) from rfl).trans (congrArg Value.bool c105)) ?_
    refine WC.seq ?_
    refine WC.region ?_
    refine WL.ex rfl (ex_assign (v := enc64 (0 : UInt64)) rfl) ?_
    refine WL.ex rfl (ex_assign (v := .int .i64 1) rfl) ?_
    refine WL.nil ?_
    refine WC.ret ?_
    obtain rfl := Option.some.inj H
    exact ⟨_, (.tmp (enc64 (0 : UInt64) : Value) rfl (.tmp (.int .i64 1 : Value) rfl .nil)), _, pA0_1, pc0_1, rfl, HF.out, hB0, hla0_1, hra0_1⟩
  ·
    refine WC.cond_f ((show _ = Value.bool (!z101) from rfl).trans (congrArg Value.bool c105)) ?_
    refine WC.skip ?_
    refine WC.seq ?_
    refine WC.region ?_
    refine WL.ex rfl (ex_assign (v := enc64 (0 : UInt64)) rfl) ?_
    refine WL.nil ?_
    refine WC.seq ?_
    refine WC.seq ?_
    refine WC.region ?_
    refine WL.ex rfl (ex_move (v := .pointer (some ⟨pb0, 0, none⟩)) rfl) ?_
    refine WL.ex rfl (ex_nilCheck rfl) ?_
    refine WL.ex rfl (ex_fieldAddr rfl Tryd.underlying68 rfl sz24) ?_
    refine WL.ex rfl (ex_load1 (v := .slice pA0_1 a0.f_left.length pc0_1) rfl Tryd.underlying24 rfl (hB0.cell rfl)) ?_
    refine WL.ex rfl (ex_len_slice (A := pA0_1) (m := a0.f_left.length) (c := pc0_1) rfl Tryd.underlying24) ?_
    refine WL.ex rfl (ex_move (v := .int .i64 0) rfl) ?_
    refine WL.nil ?_
    obtain ⟨z108, hz108, H⟩ := bindE H
    refine WC.for (fun k_ ρ_ w_ => ∃ (o_ : Tags) (x106 : UInt64) (x107 : Int), Fm o0 w0 o_ w_ [2] ∧ Row Rep.u8 (fun b_ => o_ b_ = 0) (fun b_ => o_ b_ = 0) w_ pA0_1 a0.f_left ∧ Bk o_ w_ 2 pb0 [.bool a0.f_made, .slice pA0_1 a0.f_left.length pc0_1] 68 ∧ ρ_ 0 = .pointer (some ⟨pb0, 0, none⟩) ∧ ρ_ 2 = enc64 (0 : UInt64) ∧ ρ_ 3 = .int .i64 0 ∧ ρ_ 4 = enc64 x106 ∧ ρ_ 13 = .slice pA0_1 a0.f_left.length pc0_1 ∧ ρ_ 14 = .int .i64 (a0.f_left.length : Int) ∧ ρ_ 15 = .int .i64 x107 ∧ octet_Reader_Num.l1 k a0 k_ x106 x107 = some z108) k (fun ρ_ w_ => ∃ (o_ : Tags), Fm o0 w0 o_ w_ [2] ∧ Bk o_ w_ 2 pb0 [.bool a0.f_made, .slice pA0_1 a0.f_left.length pc0_1] 68 ∧ Row Rep.u8 (fun b_ => o_ b_ = 0) (fun b_ => o_ b_ = 0) w_ pA0_1 a0.f_left ∧ ρ_ 2 = enc64 (0 : UInt64) ∧ ρ_ 3 = .int .i64 0 ∧ z108 = .inr ()) ⟨_, (0 : UInt64), 0, HF, hra0_1, hB0, rfl, rfl, rfl, rfl, rfl, rfl, rfl, hz108⟩ ?case109 ?_
    case case109 =>
      rintro ρ155 w153 ⟨o154, HF, hB0, hra0_1, s2_107, s3_107, rfl⟩
      dsimp only at H
      refine WC.seq ?_
      refine WC.region ?_
      refine WL.ex rfl (ex_assign (v := enc64 (0 : UInt64)) rfl) ?_
      refine WL.ex rfl (ex_assign (v := .int .i64 10) rfl) ?_
      refine WL.nil ?_
      refine WC.ret ?_
      obtain rfl := Option.some.inj H
      exact ⟨_, (.tmp (enc64 (0 : UInt64) : Value) rfl (.tmp (.int .i64 10 : Value) rfl .nil)), _, pA0_1, pc0_1, rfl, HF.out, hB0, hla0_1, hra0_1⟩
    have Ho110 := H
    rintro k111 ρ112 w113 ⟨o114, x106, x107, HF, hra0_1, hB0, s0_105, s2_105, s3_105, s4_106, s13_106, s14_106, s15_107, H⟩
    cases k111 with
    | zero => cases H
    | succ k111 =>
    rw [octet_Reader_Num.l1.eq_2] at H
    refine WC.seq ?_
    refine WC.region ?_
    refine WL.ex rfl (ex_bin (a := .int .i64 x107) (b := .int .i64 (a0.f_left.length : Int)) (v := .bool (decide (x107 < (a0.f_left.length : Int)))) s15_107 s14_106 bin_lss) ?_
    refine WL.nil ?_
    refine WC.seq ?_
    rcases condE H with ⟨c115, H⟩ | ⟨c115, H⟩
    ·
      refine WC.cond_t ((show _ = Value.bool (decide (x107 < (a0.f_left.length : Int))) from rfl).trans (congrArg Value.bool c115)) ?_
      refine WC.skip ?_
      refine WC.seq ?_
      refine WC.block ?_
      refine WC.seq ?_
      refine WC.region ?_
      refine WL.ex rfl (ex_move (v := .int .i64 x107) s15_107) ?_
      obtain ⟨x116, hx116, H⟩ := bindE H
      obtain ⟨ad117, e118, g119, g120, cell121⟩ := Row.ixS hra0_1 hx116
      refine WL.ex rfl (ex_indexAddr (i := x107) s13_106 e118 s15_107 Tryd.underlying24 sz5 g119 g120) ?_
      refine WL.ex rfl (ex_load1 (v := enc8 x116) rfl Tryd.underlying5 rfl cell121) ?_
      refine WL.ex rfl (ex_assign (v := .int .i64 x107) rfl) ?_
      refine WL.ex rfl (ex_assign (v := enc8 x116) rfl) ?_
      refine WL.nil ?_
      refine WC.seq ?_
      obtain ⟨z124, hz124, H⟩ := bindE H
      refine WC.cut (fun ρ_ w_ => ∃ (o_ : Tags), Fm o0 w0 o_ w_ [2] ∧ Row Rep.u8 (fun b_ => o_ b_ = 0) (fun b_ => o_ b_ = 0) w_ pA0_1 a0.f_left ∧ Bk o_ w_ 2 pb0 [.bool a0.f_made, .slice pA0_1 a0.f_left.length pc0_1] 68 ∧ ρ_ 0 = .pointer (some ⟨pb0, 0, none⟩) ∧ ρ_ 2 = enc64 (0 : UInt64) ∧ ρ_ 3 = .int .i64 0 ∧ ρ_ 4 = enc64 x106 ∧ ρ_ 5 = .int .i64 x107 ∧ ρ_ 6 = enc8 x116 ∧ ρ_ 13 = .slice pA0_1 a0.f_left.length pc0_1 ∧ ρ_ 14 = .int .i64 (a0.f_left.length : Int) ∧ ρ_ 15 = .int .i64 x107 ∧ ρ_ 25 = .bool z124) ?case125 ?_
      case case125 =>
        rintro ρ128 w126 ⟨o127, HF, hra0_1, hB0, s0_122, s2_122, s3_122, s4_122, s5_122, s6_122, s13_122, s14_122, s15_122, s25_123⟩
        rcases condE H with ⟨c129, H⟩ | ⟨c129, H⟩
        ·
          refine WC.cond_t ((show _ = Value.bool z124 from s25_123).trans (congrArg Value.bool c129)) ?_
          refine WC.seq ?_
          refine WC.region ?_
          refine WL.ex rfl (ex_assign (v := enc64 (0 : UInt64)) rfl) ?_
          refine WL.ex rfl (ex_assign (v := .int .i64 11) rfl) ?_
          refine WL.nil ?_
          refine WC.ret ?_
          obtain rfl := Option.some.inj H
          replace H := Ho110
          dsimp only at H
          obtain rfl := Option.some.inj H
          exact ⟨_, (.tmp (enc64 (0 : UInt64) : Value) rfl (.tmp (.int .i64 11 : Value) rfl .nil)), _, pA0_1, pc0_1, rfl, HF.out, hB0, hla0_1, hra0_1⟩
        ·
          refine WC.cond_f ((show _ = Value.bool z124 from s25_123).trans (congrArg Value.bool c129)) ?_
          refine WC.skip ?_
          refine WC.seq ?_
          refine WC.region ?_
          refine WL.ex rfl (ex_move (v := enc64 x106) s4_122) ?_
          refine WL.ex rfl (ex_move (v := enc8 x116) s6_122) ?_
          refine WL.ex rfl (ex_bin (a := enc8 x116) (b := enc8 (127 : UInt8)) (v := enc8 (x116 &&& (127 : UInt8))) rfl rfl bin_and_u8) ?_
          refine WL.ex rfl (ex_conv_u64 (k := .u8) (a := ((x116 &&& (127 : UInt8)).toNat : Int)) rfl Tryd.underlying5 Tryd.underlying29) ?_
          refine WL.ex rfl (ex_move (v := .int .i64 x107) s5_122) ?_
          refine WL.ex rfl (ex_bin (a := .int .i64 7) (b := .int .i64 x107) (v := .int .i64 (wrap64 (7 * x107))) rfl rfl bin_mul64) ?_
          obtain ⟨u130, hu130, H⟩ := bindE H
          refine WL.ex rfl (ex_bin (a := enc64 (ofI64 ((x116 &&& (127 : UInt8)).toNat : Int))) (b := .int .i64 (wrap64 (7 * x107))) (v := enc64 (shl64 (ofI64 ((x116 &&& (127 : UInt8)).toNat : Int)) (wrap64 (7 * x107)).toNat)) rfl rfl (bin_shl_u64 (of_decide_eq_true (chk_true hu130)))) ?_
          refine WL.ex rfl (ex_bin (a := enc64 x106) (b := enc64 (shl64 (ofI64 ((x116 &&& (127 : UInt8)).toNat : Int)) (wrap64 (7 * x107)).toNat)) (v := enc64 (x106 ||| (shl64 (ofI64 ((x116 &&& (127 : UInt8)).toNat : Int)) (wrap64 (7 * x107)).toNat))) rfl rfl bin_or_u64) ?_
          refine WL.ex rfl (ex_assign (v := enc64 (x106 ||| (shl64 (ofI64 ((x116 &&& (127 : UInt8)).toNat : Int)) (wrap64 (7 * x107)).toNat))) rfl) ?_
          refine WL.nil ?_
          refine WC.seq ?_
          refine WC.region ?_
          refine WL.ex rfl (ex_move (v := enc8 x116) s6_122) ?_
          refine WL.ex rfl (ex_bin (a := enc8 x116) (b := enc8 (128 : UInt8)) (v := .bool (decide (x116 < (128 : UInt8)))) rfl rfl bin_lss_u8) ?_
          refine WL.nil ?_
          rcases condE H with ⟨c131, H⟩ | ⟨c131, H⟩
          ·
            refine WC.cond_t ((show _ = Value.bool (decide (x116 < (128 : UInt8))) from rfl).trans (congrArg Value.bool c131)) ?_
            refine WC.seq ?_
            obtain ⟨z133, hz133, H⟩ := bindE H
            refine WC.cut (fun ρ_ w_ => ∃ (o_ : Tags), Fm o0 w0 o_ w_ [2] ∧ Row Rep.u8 (fun b_ => o_ b_ = 0) (fun b_ => o_ b_ = 0) w_ pA0_1 a0.f_left ∧ Bk o_ w_ 2 pb0 [.bool a0.f_made, .slice pA0_1 a0.f_left.length pc0_1] 68 ∧ ρ_ 0 = .pointer (some ⟨pb0, 0, none⟩) ∧ ρ_ 2 = enc64 (0 : UInt64) ∧ ρ_ 3 = .int .i64 0 ∧ ρ_ 4 = enc64 (x106 ||| (shl64 (ofI64 ((x116 &&& (127 : UInt8)).toNat : Int)) (wrap64 (7 * x107)).toNat)) ∧ ρ_ 5 = .int .i64 x107 ∧ ρ_ 13 = .slice pA0_1 a0.f_left.length pc0_1 ∧ ρ_ 14 = .int .i64 (a0.f_left.length : Int) ∧ ρ_ 15 = .int .i64 x107 ∧ ρ_ 41 = .bool z133) ?case134 ?_
            case case134 =>
              rintro ρ137 w135 ⟨o136, HF, hra0_1, hB0, s0_131, s2_131, s3_131, s4_131, s5_131, s13_131, s14_131, s15_131, s41_132⟩
              rcases condE H with ⟨c138, H⟩ | ⟨c138, H⟩
              ·
                refine WC.cond_t ((show _ = Value.bool z133 from s41_132).trans (congrArg Value.bool c138)) ?_
                refine WC.seq ?_
                refine WC.region ?_
                refine WL.ex rfl (ex_assign (v := enc64 (0 : UInt64)) rfl) ?_
                refine WL.ex rfl (ex_assign (v := .int .i64 11) rfl) ?_
                refine WL.nil ?_
                refine WC.ret ?_
                obtain rfl := Option.some.inj H
                replace H := Ho110
                dsimp only at H
                obtain rfl := Option.some.inj H
                exact ⟨_, (.tmp (enc64 (0 : UInt64) : Value) rfl (.tmp (.int .i64 11 : Value) rfl .nil)), _, pA0_1, pc0_1, rfl, HF.out, hB0, hla0_1, hra0_1⟩
              ·
                refine WC.cond_f ((show _ = Value.bool z133 from s41_132).trans (congrArg Value.bool c138)) ?_
                refine WC.skip ?_
                refine WC.seq ?_
                refine WC.region ?_
                refine WL.ex rfl (ex_move (v := .pointer (some ⟨pb0, 0, none⟩)) s0_131) ?_
                refine WL.ex rfl (ex_move (v := .pointer (some ⟨pb0, 0, none⟩)) s0_131) ?_
                refine WL.ex rfl (ex_nilCheck rfl) ?_
                refine WL.ex rfl (ex_fieldAddr rfl Tryd.underlying68 rfl sz24) ?_
                refine WL.ex rfl (ex_load1 (v := .slice pA0_1 a0.f_left.length pc0_1) rfl Tryd.underlying24 rfl (hB0.cell rfl)) ?_
                refine WL.ex rfl (ex_move (v := .int .i64 x107) s5_131) ?_
                refine WL.ex rfl (ex_bin (a := .int .i64 x107) (b := .int .i64 1) (v := .int .i64 (wrap64 (x107 + 1))) rfl rfl bin_add64) ?_
                obtain ⟨y139, hy139, H⟩ := bindE H
                have hr141 := Row.cut hra0_1 hla0_1 hy139
                obtain ⟨A142, el145⟩ : ∃ A_, A_ = subA pA0_1 pc0_1 (wrap64 (x107 + 1) : Int).toNat 1 := ⟨_, rfl⟩
                rw [show subA pA0_1 pc0_1 (wrap64 (x107 + 1) : Int).toNat Rep.u8.sz = A142 from el145.symm] at hr141
                have hl144 : y139.length ≤ pc0_1 - (wrap64 (x107 + 1) : Int).toNat := cut_le hla0_1 hy139
                refine WL.ex rfl (ex_slice' (l := (wrap64 (x107 + 1))) (h := (a0.f_left.length : Int)) rfl Tryd.underlying24 sz5 ⟨_, rfl⟩ rfl (cut_low hy139) (cut_mid hy139) (cut_cap hla0_1 hy139) el145 (cut_len hy139)) ?_
                refine WL.ex rfl (ex_nilCheck rfl) ?_
                refine WL.ex rfl (ex_fieldAddr rfl Tryd.underlying68 rfl sz24) ?_
                refine WL.op rfl ?_
                refine OW.store [.bool a0.f_made, .slice A142 y139.length (pc0_1 - (wrap64 (x107 + 1) : Int).toNat)] rfl (vs := [.slice A142 y139.length (pc0_1 - (wrap64 (x107 + 1) : Int).toNat)]) ((congrArg Value.cells (show ev _ _ = (.slice A142 y139.length (pc0_1 - (wrap64 (x107 + 1) : Int).toNat) : Value) from rfl)).trans rfl) sz24 hB0 (Nat.le_of_ble_eq_true rfl) (by intro u_ hu_; simp only [List.mem_cons, List.not_mem_nil, or_false] at hu_; rcases hu_ with rfl; first | rfl) rfl ?_
                intro w146 s147 hB148
                replace hra0_1 := hra0_1.step s147 rfl
                replace hr141 := hr141.step s147 rfl
                replace HF := HF.step s147 rfl
                refine WL.nil ?_
                refine WC.seq ?_
                refine WC.region ?_
                refine WL.ex rfl (ex_move (v := enc64 (x106 ||| (shl64 (ofI64 ((x116 &&& (127 : UInt8)).toNat : Int)) (wrap64 (7 * x107)).toNat))) s4_131) ?_
                refine WL.ex rfl (ex_assign (v := enc64 (x106 ||| (shl64 (ofI64 ((x116 &&& (127 : UInt8)).toNat : Int)) (wrap64 (7 * x107)).toNat))) rfl) ?_
                refine WL.ex rfl (ex_assign (v := .int .i64 0) rfl) ?_
                refine WL.nil ?_
                refine WC.ret ?_
                obtain rfl := Option.some.inj H
                replace H := Ho110
                dsimp only at H
                obtain rfl := Option.some.inj H
                exact ⟨_, (.tmp (enc64 (x106 ||| (shl64 (ofI64 ((x116 &&& (127 : UInt8)).toNat : Int)) (wrap64 (7 * x107)).toNat)) : Value) rfl (.tmp (.int .i64 0 : Value) rfl .nil)), _, A142, (pc0_1 - (wrap64 (x107 + 1) : Int).toNat), rfl, HF.out, hB148, hl144, hr141⟩
            have Ho149 := H
            replace H := hz133
            refine WC.region ?_
            refine WL.ex rfl (ex_move (v := enc8 x116) s6_122) ?_
            refine WL.ex rfl (ex_bin (a := enc8 x116) (b := enc8 (0 : UInt8)) (v := .bool (x116 == (0 : UInt8))) rfl rfl bin_eql_u8) ?_
            refine WL.ex rfl (ex_move (v := .bool (x116 == (0 : UInt8))) rfl) ?_
            rcases condE H with ⟨c150, H⟩ | ⟨c150, H⟩
            ·
              refine WL.guardYes rfl rfl rfl ((show _ = Value.bool (x116 == (0 : UInt8)) from rfl).trans (congrArg Value.bool c150)) ?_
              refine OW.ex rfl (ex_move (v := .int .i64 x107) s5_122) ?_
              refine WL.guardYes rfl rfl rfl ((show _ = Value.bool (x116 == (0 : UInt8)) from rfl).trans (congrArg Value.bool c150)) ?_
              refine OW.ex rfl (ex_bin (a := .int .i64 x107) (b := .int .i64 0) (v := .bool (decide (x107 > 0))) rfl rfl bin_gtr) ?_
              refine WL.ex rfl (ex_pick_t (v := .bool (decide (x107 > 0))) ((show _ = Value.bool (x116 == (0 : UInt8)) from rfl).trans (congrArg Value.bool c150)) rfl) ?_
              refine WL.nil ?_
              obtain rfl := Option.some.inj H
              exact ⟨_, HF, hra0_1, hB0, s0_122, s2_122, s3_122, rfl, s5_122, s13_122, s14_122, s15_122, rfl⟩
            ·
              refine WL.guardNo rfl rfl rfl ((show _ = Value.bool (x116 == (0 : UInt8)) from rfl).trans (congrArg Value.bool c150)) ?_
              refine WL.guardNo rfl rfl rfl ((show _ = Value.bool (x116 == (0 : UInt8)) from rfl).trans (congrArg Value.bool c150)) ?_
              refine WL.ex rfl (ex_pick_f (v := .bool false) ((show _ = Value.bool (x116 == (0 : UInt8)) from rfl).trans (congrArg Value.bool c150)) rfl) ?_
              refine WL.nil ?_
              obtain rfl := Option.some.inj H
              exact ⟨_, HF, hra0_1, hB0, s0_122, s2_122, s3_122, rfl, s5_122, s13_122, s14_122, s15_122, rfl⟩
          ·
            refine WC.cond_f ((show _ = Value.bool (decide (x116 < (128 : UInt8))) from rfl).trans (congrArg Value.bool c131)) ?_
            refine WC.skip ?_
            refine WC.region ?_
            refine WL.ex rfl (ex_bin (a := .int .i64 x107) (b := .int .i64 1) (v := .int .i64 (wrap64 (x107 + 1))) s15_122 rfl bin_add64) ?_
            refine WL.ex rfl (ex_move (v := .int .i64 (wrap64 (x107 + 1))) rfl) ?_
            refine WL.nil ?_
            exact ⟨k111, Nat.lt_succ_self _, ⟨_, (x106 ||| (shl64 (ofI64 ((x116 &&& (127 : UInt8)).toNat : Int)) (wrap64 (7 * x107)).toNat)), wrap64 (x107 + 1), HF, hra0_1, hB0, s0_122, s2_122, s3_122, rfl, s13_122, s14_122, rfl, H⟩⟩
      have Ho151 := H
      replace H := hz124
      refine WC.region ?_
      refine WL.ex rfl (ex_move (v := .int .i64 x107) rfl) ?_
      refine WL.ex rfl (ex_bin (a := .int .i64 x107) (b := .int .i64 9) (v := .bool (x107 == 9)) rfl rfl bin_eql) ?_
      refine WL.ex rfl (ex_move (v := .bool (x107 == 9)) rfl) ?_
      rcases condE H with ⟨c152, H⟩ | ⟨c152, H⟩
      ·
        refine WL.guardYes rfl rfl rfl ((show _ = Value.bool (x107 == 9) from rfl).trans (congrArg Value.bool c152)) ?_
        refine OW.ex rfl (ex_move (v := enc8 x116) rfl) ?_
        refine WL.guardYes rfl rfl rfl ((show _ = Value.bool (x107 == 9) from rfl).trans (congrArg Value.bool c152)) ?_
        refine OW.ex rfl (ex_bin (a := enc8 x116) (b := enc8 (1 : UInt8)) (v := .bool (decide ((1 : UInt8) < x116))) rfl rfl bin_gtr_u8) ?_
        refine WL.ex rfl (ex_pick_t (v := .bool (decide ((1 : UInt8) < x116))) ((show _ = Value.bool (x107 == 9) from rfl).trans (congrArg Value.bool c152)) rfl) ?_
        refine WL.nil ?_
        obtain rfl := Option.some.inj H
        exact ⟨_, HF, hra0_1, hB0, s0_105, s2_105, s3_105, s4_106, rfl, rfl, s13_106, s14_106, s15_107, rfl⟩
      ·
        refine WL.guardNo rfl rfl rfl ((show _ = Value.bool (x107 == 9) from rfl).trans (congrArg Value.bool c152)) ?_
        refine WL.guardNo rfl rfl rfl ((show _ = Value.bool (x107 == 9) from rfl).trans (congrArg Value.bool c152)) ?_
        refine WL.ex rfl (ex_pick_f (v := .bool false) ((show _ = Value.bool (x107 == 9) from rfl).trans (congrArg Value.bool c152)) rfl) ?_
        refine WL.nil ?_
        obtain rfl := Option.some.inj H
        exact ⟨_, HF, hra0_1, hB0, s0_105, s2_105, s3_105, s4_106, rfl, rfl, s13_106, s14_106, s15_107, rfl⟩
    ·
      refine WC.cond_f ((show _ = Value.bool (decide (x107 < (a0.f_left.length : Int))) from rfl).trans (congrArg Value.bool c115)) ?_
      refine WC.exit ?_
      obtain rfl := Option.some.inj H
      exact ⟨_, HF, hB0, hra0_1, s2_105, s3_105, rfl⟩

/-! ### utf8_word_byte -/
set_option maxRecDepth 100000 in
theorem utf8_word_byte.calls (o0 : Tags) (w0 : World) (pA0 : Option Addr) (pc0 : Nat) (a0 : (List UInt8)) (r : UInt64) (hO : ∀ b, b < w0.heap.size → o0 b < 10) (hra0 : Row Rep.u8 (fun b_ => o0 b_ = 0) (fun b_ => o0 b_ = 0) w0 pA0 a0) (hla0 : a0.length ≤ pc0) (H : utf8_word_byte.f a0 = some r) :
    Calls Tryd.prog 53 [.slice pA0 a0.length pc0].toArray w0 fun e_ w_ => ∃ (o_ : Tags), e_ = .returned (one [enc64 r]) ∧ Step o0 w0 o_ w_ [] := by
  have HF := Fm.refl hO []
  unfold utf8_word_byte.f at H
  refine SX.calls [.slice pA0 a0.length pc0] Tryd.func53 rfl rfl ?_
  rw [Tryd.ntmps53]
  refine WC.seq ?_
  refine WC.region ?_
  refine WL.ex rfl (ex_assign (v := enc64 (0 : UInt64)) rfl) ?_
  refine WL.nil ?_
  refine WC.seq ?_
  refine WC.cond_f rfl ?_
  refine WC.skip ?_
  refine WC.seq ?_
  refine WC.regionD' HF [] 47 (by kernel_rfl) rfl ?_
  intro w101 s102
  replace hra0 := hra0.step s102 rfl
  replace HF := HF.step s102 rfl
  have hra0D := hra0
  have sR := HF.here []
  refine WA.norm (listed' := #[false, false, false, false, false, false, false, false, false, false, false, false, false, false, false, false, false, false, false, false, false, false, false, false, false, false, false, false, false, false, false, false, false, false, false, false, false, false, false, false, false, false, false, false, false, false, false]) (by kernel_rfl) ?_
  refine WA.ex 0 rfl (by kernel_rfl) (by kernel_rfl) (by kernel_rfl) rfl ⟨_, sR⟩ (fun w_ hS_ => ex_move (v := .slice pA0 a0.length pc0) rfl) ?_
  refine WA.norm (listed' := #[true, false, false, false, false, false, false, false, false, false, false, false, false, false, false, false, false, false, false, false, false, false, false, false, false, false, false, false, false, false, false, false, false, false, false, false, false, false, false, false, false, false, false, false, false, false, false]) (by kernel_rfl) ?_
  obtain ⟨x103, hx103, H⟩ := bindE H
  obtain ⟨ad104, e105, g106, g107, cell108⟩ := Row.ixS hra0D hx103
  have hk109 := Row.at hra0D e105 hx103 ((0 : Int).toNat * 1)
  replace cell108 := held_cell (Step.refl _ _ _) ⟨_, sR⟩ hk109 rfl cell108
  refine WA.ex 1 rfl (by kernel_rfl) (by kernel_rfl) (by kernel_rfl) rfl ⟨_, sR⟩ (fun w_ hS_ => ex_indexAddr (i := (0 : Int)) rfl e105 rfl Tryd.underlying24 sz5 g106 g107) ?_
  refine WA.norm (listed' := #[true, true, false, false, false, false, false, false, false, false, false, false, false, false, false, false, false, false, false, false, false, false, false, false, false, false, false, false, false, false, false, false, false, false, false, false, false, false, false, false, false, false, false, false, false, false, false]) (by kernel_rfl) ?_
  refine WA.ex 2 rfl (by kernel_rfl) (by kernel_rfl) (by kernel_rfl) rfl ⟨_, sR⟩ (fun w_ hS_ => ex_load1 (v := enc8 x103) rfl Tryd.underlying5 rfl (held_cell sR hS_ hk109 rfl cell108)) ?_
  refine WA.norm (listed' := #[true, true, true, false, false, false, false, false, false, false, false, false, false, false, false, false, false, false, false, false, false, false, false, false, false, false, false, false, false, false, false, false, false, false, false, false, false, false, false, false, false, false, false, false, false, false, false]) (by kernel_rfl) ?_
  refine WA.ex 3 rfl (by kernel_rfl) (by kernel_rfl) (by kernel_rfl) rfl ⟨_, sR⟩ (fun w_ hS_ => ex_conv_u64 (k := .u8) (a := (x103.toNat : Int)) rfl Tryd.underlying5 Tryd.underlying29) ?_
  refine WA.norm (listed' := #[true, true, true, true, false, false, false, false, false, false, false, false, false, false, false, false, false, false, false, false, false, false, false, false, false, false, false, false, false, false, false, false, false, false, false, false, false, false, false, false, false, false, false, false, false, false, false]) (by kernel_rfl) ?_
  refine WA.ex 4 rfl (by kernel_rfl) (by kernel_rfl) (by kernel_rfl) rfl ⟨_, sR⟩ (fun w_ hS_ => ex_move (v := .slice pA0 a0.length pc0) rfl) ?_
  refine WA.norm (listed' := #[true, true, true, true, true, false, false, false, false, false, false, false, false, false, false, false, false, false, false, false, false, false, false, false, false, false, false, false, false, false, false, false, false, false, false, false, false, false, false, false, false, false, false, false, false, false, false]) (by kernel_rfl) ?_
  obtain ⟨x110, hx110, H⟩ := bindE H
  obtain ⟨ad111, e112, g113, g114, cell115⟩ := Row.ixS hra0D hx110
  have hk116 := Row.at hra0D e112 hx110 ((1 : Int).toNat * 1)
  replace cell115 := held_cell (Step.refl _ _ _) ⟨_, sR⟩ hk116 rfl cell115
  refine WA.ex 5 rfl (by kernel_rfl) (by kernel_rfl) (by kernel_rfl) rfl ⟨_, sR⟩ (fun w_ hS_ => ex_indexAddr (i := (1 : Int)) rfl e112 rfl Tryd.underlying24 sz5 g113 g114) ?_
  refine WA.norm (listed' := #[true, true, true, true, true, true, false, false, false, false, false, false, false, false, false, false, false, false, false, false, false, false, false, false, false, false, false, false, false, false, false, false, false, false, false, false, false, false, false, false, false, false, false, false, false, false, false]) (by kernel_rfl) ?_
  refine WA.ex 6 rfl (by kernel_rfl) (by kernel_rfl) (by kernel_rfl) rfl ⟨_, sR⟩ (fun w_ hS_ => ex_load1 (v := enc8 x110) rfl Tryd.underlying5 rfl (held_cell sR hS_ hk116 rfl cell115)) ?_
  refine WA.norm (listed' := #[true, true, true, true, true, true, true, false, false, false, false, false, false, false, false, false, false, false, false, false, false, false, false, false, false, false, false, false, false, false, false, false, false, false, false, false, false, false, false, false, false, false, false, false, false, false, false]) (by kernel_rfl) ?_
  refine WA.ex 7 rfl (by kernel_rfl) (by kernel_rfl) (by kernel_rfl) rfl ⟨_, sR⟩ (fun w_ hS_ => ex_conv_u64 (k := .u8) (a := (x110.toNat : Int)) rfl Tryd.underlying5 Tryd.underlying29) ?_
  refine WA.norm (listed' := #[true, true, true, true, true, true, true, true, false, false, false, false, false, false, false, false, false, false, false, false, false, false, false, false, false, false, false, false, false, false, false, false, false, false, false, false, false, false, false, false, false, false, false, false, false, false, false]) (by kernel_rfl) ?_
  refine WA.ex 8 rfl (by kernel_rfl) (by kernel_rfl) (by kernel_rfl) rfl ⟨_, sR⟩ (fun w_ hS_ => ex_bin (a := enc64 (ofI64 (x110.toNat : Int))) (b := enc64 (8 : UInt64)) (v := enc64 (shl64 (ofI64 (x110.toNat : Int)) 8)) rfl rfl (bin_shl_u64n (n := 8))) ?_
  refine WA.norm (listed' := #[true, true, true, true, true, true, true, true, true, false, false, false, false, false, false, false, false, false, false, false, false, false, false, false, false, false, false, false, false, false, false, false, false, false, false, false, false, false, false, false, false, false, false, false, false, false, false]) (by kernel_rfl) ?_
  refine WA.ex 9 rfl (by kernel_rfl) (by kernel_rfl) (by kernel_rfl) rfl ⟨_, sR⟩ (fun w_ hS_ => ex_bin (a := enc64 (ofI64 (x103.toNat : Int))) (b := enc64 (shl64 (ofI64 (x110.toNat : Int)) 8)) (v := enc64 ((ofI64 (x103.toNat : Int)) ||| (shl64 (ofI64 (x110.toNat : Int)) 8))) rfl rfl bin_or_u64) ?_
  refine WA.norm (listed' := #[true, true, true, true, true, true, true, true, true, true, false, false, false, false, false, false, false, false, false, false, false, false, false, false, false, false, false, false, false, false, false, false, false, false, false, false, false, false, false, false, false, false, false, false, false, false, false]) (by kernel_rfl) ?_
  refine WA.ex 10 rfl (by kernel_rfl) (by kernel_rfl) (by kernel_rfl) rfl ⟨_, sR⟩ (fun w_ hS_ => ex_move (v := .slice pA0 a0.length pc0) rfl) ?_
  refine WA.norm (listed' := #[true, true, true, true, true, true, true, true, true, true, true, false, false, false, false, false, false, false, false, false, false, false, false, false, false, false, false, false, false, false, false, false, false, false, false, false, false, false, false, false, false, false, false, false, false, false, false]) (by kernel_rfl) ?_
  obtain ⟨x117, hx117, H⟩ := bindE H
  obtain ⟨ad118, e119, g120, g121, cell122⟩ := Row.ixS hra0D hx117
  have hk123 := Row.at hra0D e119 hx117 ((2 : Int).toNat * 1)
  replace cell122 := held_cell (Step.refl _ _ _) ⟨_, sR⟩ hk123 rfl cell122
  refine WA.ex 11 rfl (by kernel_rfl) (by kernel_rfl) (by kernel_rfl) rfl ⟨_, sR⟩ (fun w_ hS_ => ex_indexAddr (i := (2 : Int)) rfl e119 rfl Tryd.underlying24 sz5 g120 g121) ?_
  refine WA.norm (listed' := #[true, true, true, true, true, true, true, true, true, true, true, true, false, false, false, false, false, false, false, false, false, false, false, false, false, false, false, false, false, false, false, false, false, false, false, false, false, false, false, false, false, false, false, false, false, false, false]) (by kernel_rfl) ?_
  refine WA.ex 12 rfl (by kernel_rfl) (by kernel_rfl) (by kernel_rfl) rfl ⟨_, sR⟩ (fun w_ hS_ => ex_load1 (v := enc8 x117) rfl Tryd.underlying5 rfl (held_cell sR hS_ hk123 rfl cell122)) ?_
  refine WA.norm (listed' := #[true, true, true, true, true, true, true, true, true, true, true, true, true, false, false, false, false, false, false, false, false, false, false, false, false, false, false, false, false, false, false, false, false, false, false, false, false, false, false, false, false, false, false, false, false, false, false]) (by kernel_rfl) ?_
  refine WA.ex 13 rfl (by kernel_rfl) (by kernel_rfl) (by kernel_rfl) rfl ⟨_, sR⟩ (fun w_ hS_ => ex_conv_u64 (k := .u8) (a := (x117.toNat : Int)) rfl Tryd.underlying5 Tryd.underlying29) ?_
  refine WA.norm (listed' := #[true, true, true, true, true, true, true, true, true, true, true, true, true, true, false, false, false, false, false, false, false, false, false, false, false, false, false, false, false, false, false, false, false, false, false, false, false, false, false, false, false, false, false, false, false, false, false]) (by kernel_rfl) ?_
  refine WA.ex 14 rfl (by kernel_rfl) (by kernel_rfl) (by kernel_rfl) rfl ⟨_, sR⟩ (fun w_ hS_ => ex_bin (a := enc64 (ofI64 (x117.toNat : Int))) (b := enc64 (16 : UInt64)) (v := enc64 (shl64 (ofI64 (x117.toNat : Int)) 16)) rfl rfl (bin_shl_u64n (n := 16))) ?_
  refine WA.norm (listed' := #[true, true, true, true, true, true, true, true, true, true, true, true, true, true, true, false, false, false, false, false, false, false, false, false, false, false, false, false, false, false, false, false, false, false, false, false, false, false, false, false, false, false, false, false, false, false, false]) (by kernel_rfl) ?_
  refine WA.ex 15 rfl (by kernel_rfl) (by kernel_rfl) (by kernel_rfl) rfl ⟨_, sR⟩ (fun w_ hS_ => ex_bin (a := enc64 ((ofI64 (x103.toNat : Int)) ||| (shl64 (ofI64 (x110.toNat : Int)) 8))) (b := enc64 (shl64 (ofI64 (x117.toNat : Int)) 16)) (v := enc64 (((ofI64 (x103.toNat : Int)) ||| (shl64 (ofI64 (x110.toNat : Int)) 8)) ||| (shl64 (ofI64 (x117.toNat : Int)) 16))) rfl rfl bin_or_u64) ?_
  refine WA.norm (listed' := #[true, true, true, true, true, true, true, true, true, true, true, true, true, true, true, true, false, false, false, false, false, false, false, false, false, false, false, false, false, false, false, false, false, false, false, false, false, false, false, false, false, false, false, false, false, false, false]) (by kernel_rfl) ?_
  refine WA.ex 16 rfl (by kernel_rfl) (by kernel_rfl) (by kernel_rfl) rfl ⟨_, sR⟩ (fun w_ hS_ => ex_move (v := .slice pA0 a0.length pc0) rfl) ?_
  refine WA.norm (listed' := #[true, true, true, true, true, true, true, true, true, true, true, true, true, true, true, true, true, false, false, false, false, false, false, false, false, false, false, false, false, false, false, false, false, false, false, false, false, false, false, false, false, false, false, false, false, false, false]) (by kernel_rfl) ?_
  obtain ⟨x124, hx124, H⟩ := bindE H
  obtain ⟨ad125, e126, g127, g128, cell129⟩ := Row.ixS hra0D hx124
  have hk130 := Row.at hra0D e126 hx124 ((3 : Int).toNat * 1)
  replace cell129 := held_cell (Step.refl _ _ _) ⟨_, sR⟩ hk130 rfl cell129
  refine WA.ex 17 rfl (by kernel_rfl) (by kernel_rfl) (by kernel_rfl) rfl ⟨_, sR⟩ (fun w_ hS_ => ex_indexAddr (i := (3 : Int)) rfl e126 rfl Tryd.underlying24 sz5 g127 g128) ?_
  refine WA.norm (listed' := #[true, true, true, true, true, true, true, true, true, true, true, true, true, true, true, true, true, true, false, false, false, false, false, false, false, false, false, false, false, false, false, false, false, false, false, false, false, false, false, false, false, false, false, false, false, false, false]) (by kernel_rfl) ?_
  refine WA.ex 18 rfl (by kernel_rfl) (by kernel_rfl) (by kernel_rfl) rfl ⟨_, sR⟩ (fun w_ hS_ => ex_load1 (v := enc8 x124) rfl Tryd.underlying5 rfl (held_cell sR hS_ hk130 rfl cell129)) ?_
  refine WA.norm (listed' := #[true, true, true, true, true, true, true, true, true, true, true, true, true, true, true, true, true, true, true, false, false, false, false, false, false, false, false, false, false, false, false, false, false, false, false, false, false, false, false, false, false, false, false, false, false, false, false]) (by kernel_rfl) ?_
  refine WA.ex 19 rfl (by kernel_rfl) (by kernel_rfl) (by kernel_rfl) rfl ⟨_, sR⟩ (fun w_ hS_ => ex_conv_u64 (k := .u8) (a := (x124.toNat : Int)) rfl Tryd.underlying5 Tryd.underlying29) ?_
  refine WA.norm (listed' := #[true, true, true, true, true, true, true, true, true, true, true, true, true, true, true, true, true, true, true, true, false, false, false, false, false, false, false, false, false, false, false, false, false, false, false, false, false, false, false, false, false, false, false, false, false, false, false]) (by kernel_rfl) ?_
  refine WA.ex 20 rfl (by kernel_rfl) (by kernel_rfl) (by kernel_rfl) rfl ⟨_, sR⟩ (fun w_ hS_ => ex_bin (a := enc64 (ofI64 (x124.toNat : Int))) (b := enc64 (24 : UInt64)) (v := enc64 (shl64 (ofI64 (x124.toNat : Int)) 24)) rfl rfl (bin_shl_u64n (n := 24))) ?_
  refine WA.norm (listed' := #[true, true, true, true, true, true, true, true, true, true, true, true, true, true, true, true, true, true, true, true, true, false, false, false, false, false, false, false, false, false, false, false, false, false, false, false, false, false, false, false, false, false, false, false, false, false, false]) (by kernel_rfl) ?_
  refine WA.ex 21 rfl (by kernel_rfl) (by kernel_rfl) (by kernel_rfl) rfl ⟨_, sR⟩ (fun w_ hS_ => ex_bin (a := enc64 (((ofI64 (x103.toNat : Int)) ||| (shl64 (ofI64 (x110.toNat : Int)) 8)) ||| (shl64 (ofI64 (x117.toNat : Int)) 16))) (b := enc64 (shl64 (ofI64 (x124.toNat : Int)) 24)) (v := enc64 ((((ofI64 (x103.toNat : Int)) ||| (shl64 (ofI64 (x110.toNat : Int)) 8)) ||| (shl64 (ofI64 (x117.toNat : Int)) 16)) ||| (shl64 (ofI64 (x124.toNat : Int)) 24))) rfl rfl bin_or_u64) ?_
  refine WA.norm (listed' := #[true, true, true, true, true, true, true, true, true, true, true, true, true, true, true, true, true, true, true, true, true, true, false, false, false, false, false, false, false, false, false, false, false, false, false, false, false, false, false, false, false, false, false, false, false, false, false]) (by kernel_rfl) ?_
  refine WA.ex 22 rfl (by kernel_rfl) (by kernel_rfl) (by kernel_rfl) rfl ⟨_, sR⟩ (fun w_ hS_ => ex_move (v := .slice pA0 a0.length pc0) rfl) ?_
  refine WA.norm (listed' := #[true, true, true, true, true, true, true, true, true, true, true, true, true, true, true, true, true, true, true, true, true, true, true, false, false, false, false, false, false, false, false, false, false, false, false, false, false, false, false, false, false, false, false, false, false, false, false]) (by kernel_rfl) ?_
  obtain ⟨x131, hx131, H⟩ := bindE H
  obtain ⟨ad132, e133, g134, g135, cell136⟩ := Row.ixS hra0D hx131
  have hk137 := Row.at hra0D e133 hx131 ((4 : Int).toNat * 1)
  replace cell136 := held_cell (Step.refl _ _ _) ⟨_, sR⟩ hk137 rfl cell136
  refine WA.ex 23 rfl (by kernel_rfl) (by kernel_rfl) (by kernel_rfl) rfl ⟨_, sR⟩ (fun w_ hS_ => ex_indexAddr (i := (4 : Int)) rfl e133 rfl Tryd.underlying24 sz5 g134 g135) ?_
  refine WA.norm (listed' := #[true, true, true, true, true, true, true, true, true, true, true, true, true, true, true, true, true, true, true, true, true, true, true, true, false, false, false, false, false, false, false, false, false, false, false, false, false, false, false, false, false, false, false, false, false, false, false]) (by kernel_rfl) ?_
  refine WA.ex 24 rfl (by kernel_rfl) (by kernel_rfl) (by kernel_rfl) rfl ⟨_, sR⟩ (fun w_ hS_ => ex_load1 (v := enc8 x131) rfl Tryd.underlying5 rfl (held_cell sR hS_ hk137 rfl cell136)) ?_
  refine WA.norm (listed' := #[true, true, true, true, true, true, true, true, true, true, true, true, true, true, true, true, true, true, true, true, true, true, true, true, true, false, false, false, false, false, false, false, false, false, false, false, false, false, false, false, false, false, false, false, false, false, false]) (by kernel_rfl) ?_
  refine WA.ex 25 rfl (by kernel_rfl) (by kernel_rfl) (by kernel_rfl) rfl ⟨_, sR⟩ (fun w_ hS_ => ex_conv_u64 (k := .u8) (a := (x131.toNat : Int)) rfl Tryd.underlying5 Tryd.underlying29) ?_
  refine WA.norm (listed' := #[true, true, true, true, true, true, true, true, true, true, true, true, true, true, true, true, true, true, true, true, true, true, true, true, true, true, false, false, false, false, false, false, false, false, false, false, false, false, false, false, false, false, false, false, false, false, false]) (by kernel_rfl) ?_
  refine WA.ex 26 rfl (by kernel_rfl) (by kernel_rfl) (by kernel_rfl) rfl ⟨_, sR⟩ (fun w_ hS_ => ex_bin (a := enc64 (ofI64 (x131.toNat : Int))) (b := enc64 (32 : UInt64)) (v := enc64 (shl64 (ofI64 (x131.toNat : Int)) 32)) rfl rfl (bin_shl_u64n (n := 32))) ?_
  refine WA.norm (listed' := #[true, true, true, true, true, true, true, true, true, true, true, true, true, true, true, true, true, true, true, true, true, true, true, true, true, true, true, false, false, false, false, false, false, false, false, false, false, false, false, false, false, false, false, false, false, false, false]) (by kernel_rfl) ?_
  refine WA.ex 27 rfl (by kernel_rfl) (by kernel_rfl) (by kernel_rfl) rfl ⟨_, sR⟩ (fun w_ hS_ => ex_bin (a := enc64 ((((ofI64 (x103.toNat : Int)) ||| (shl64 (ofI64 (x110.toNat : Int)) 8)) ||| (shl64 (ofI64 (x117.toNat : Int)) 16)) ||| (shl64 (ofI64 (x124.toNat : Int)) 24))) (b := enc64 (shl64 (ofI64 (x131.toNat : Int)) 32)) (v := enc64 (((((ofI64 (x103.toNat : Int)) ||| (shl64 (ofI64 (x110.toNat : Int)) 8)) ||| (shl64 (ofI64 (x117.toNat : Int)) 16)) ||| (shl64 (ofI64 (x124.toNat : Int)) 24)) ||| (shl64 (ofI64 (x131.toNat : Int)) 32))) rfl rfl bin_or_u64) ?_
  refine WA.norm (listed' := #[true, true, true, true, true, true, true, true, true, true, true, true, true, true, true, true, true, true, true, true, true, true, true, true, true, true, true, true, false, false, false, false, false, false, false, false, false, false, false, false, false, false, false, false, false, false, false]) (by kernel_rfl) ?_
  refine WA.ex 28 rfl (by kernel_rfl) (by kernel_rfl) (by kernel_rfl) rfl ⟨_, sR⟩ (fun w_ hS_ => ex_move (v := .slice pA0 a0.length pc0) rfl) ?_
  refine WA.norm (listed' := #[true, true, true, true, true, true, true, true, true, true, true, true, true, true, true, true, true, true, true, true, true, true, true, true, true, true, true, true, true, false, false, false, false, false, false, false, false, false, false, false, false, false, false, false, false, false, false]) (by kernel_rfl) ?_
  obtain ⟨x138, hx138, H⟩ := bindE H
  obtain ⟨ad139, e140, g141, g142, cell143⟩ := Row.ixS hra0D hx138
  have hk144 := Row.at hra0D e140 hx138 ((5 : Int).toNat * 1)
  replace cell143 := held_cell (Step.refl _ _ _) ⟨_, sR⟩ hk144 rfl cell143
  refine WA.ex 29 rfl (by kernel_rfl) (by kernel_rfl) (by kernel_rfl) rfl ⟨_, sR⟩ (fun w_ hS_ => ex_indexAddr (i := (5 : Int)) rfl e140 rfl Tryd.underlying24 sz5 g141 g142) ?_
  refine WA.norm (listed' := #[true, true, true, true, true, true, true, true, true, true, true, true, true, true, true, true, true, true, true, true, true, true, true, true, true, true, true, true, true, true, false, false, false, false, false, false, false, false, false, false, false, false, false, false, false, false, false]) (by kernel_rfl) ?_
  refine WA.ex 30 rfl (by kernel_rfl) (by kernel_rfl) (by kernel_rfl) rfl ⟨_, sR⟩ (fun w_ hS_ => ex_load1 (v := enc8 x138) rfl Tryd.underlying5 rfl (held_cell sR hS_ hk144 rfl cell143)) ?_
  refine WA.norm (listed' := #[true, true, true, true, true, true, true, true, true, true, true, true, true, true, true, true, true, true, true, true, true, true, true, true, true, true, true, true, true, true, true, false, false, false, false, false, false, false, false, false, false, false, false, false, false, false, false]) (by kernel_rfl) ?_
  refine WA.ex 31 rfl (by kernel_rfl) (by kernel_rfl) (by kernel_rfl) rfl ⟨_, sR⟩ (fun w_ hS_ => ex_conv_u64 (k := .u8) (a := (x138.toNat : Int)) rfl Tryd.underlying5 Tryd.underlying29) ?_
  refine WA.norm (listed' := #[true, true, true, true, true, true, true, true, true, true, true, true, true, true, true, true, true, true, true, true, true, true, true, true, true, true, true, true, true, true, true, true, false, false, false, false, false, false, false, false, false, false, false, false, false, false, false]) (by kernel_rfl) ?_
  refine WA.ex 32 rfl (by kernel_rfl) (by kernel_rfl) (by kernel_rfl) rfl ⟨_, sR⟩ (fun w_ hS_ => ex_bin (a := enc64 (ofI64 (x138.toNat : Int))) (b := enc64 (40 : UInt64)) (v := enc64 (shl64 (ofI64 (x138.toNat : Int)) 40)) rfl rfl (bin_shl_u64n (n := 40))) ?_
  refine WA.norm (listed' := #[true, true, true, true, true, true, true, true, true, true, true, true, true, true, true, true, true, true, true, true, true, true, true, true, true, true, true, true, true, true, true, true, true, false, false, false, false, false, false, false, false, false, false, false, false, false, false]) (by kernel_rfl) ?_
  refine WA.ex 33 rfl (by kernel_rfl) (by kernel_rfl) (by kernel_rfl) rfl ⟨_, sR⟩ (fun w_ hS_ => ex_bin (a := enc64 (((((ofI64 (x103.toNat : Int)) ||| (shl64 (ofI64 (x110.toNat : Int)) 8)) ||| (shl64 (ofI64 (x117.toNat : Int)) 16)) ||| (shl64 (ofI64 (x124.toNat : Int)) 24)) ||| (shl64 (ofI64 (x131.toNat : Int)) 32))) (b := enc64 (shl64 (ofI64 (x138.toNat : Int)) 40)) (v := enc64 ((((((ofI64 (x103.toNat : Int)) ||| (shl64 (ofI64 (x110.toNat : Int)) 8)) ||| (shl64 (ofI64 (x117.toNat : Int)) 16)) ||| (shl64 (ofI64 (x124.toNat : Int)) 24)) ||| (shl64 (ofI64 (x131.toNat : Int)) 32)) ||| (shl64 (ofI64 (x138.toNat : Int)) 40))) rfl rfl bin_or_u64) ?_
  refine WA.norm (listed' := #[true, true, true, true, true, true, true, true, true, true, true, true, true, true, true, true, true, true, true, true, true, true, true, true, true, true, true, true, true, true, true, true, true, true, false, false, false, false, false, false, false, false, false, false, false, false, false]) (by kernel_rfl) ?_
  refine WA.ex 34 rfl (by kernel_rfl) (by kernel_rfl) (by kernel_rfl) rfl ⟨_, sR⟩ (fun w_ hS_ => ex_move (v := .slice pA0 a0.length pc0) rfl) ?_
  refine WA.norm (listed' := #[true, true, true, true, true, true, true, true, true, true, true, true, true, true, true, true, true, true, true, true, true, true, true, true, true, true, true, true, true, true, true, true, true, true, true, false, false, false, false, false, false, false, false, false, false, false, false]) (by kernel_rfl) ?_
  obtain ⟨x145, hx145, H⟩ := bindE H
  obtain ⟨ad146, e147, g148, g149, cell150⟩ := Row.ixS hra0D hx145
  have hk151 := Row.at hra0D e147 hx145 ((6 : Int).toNat * 1)
  replace cell150 := held_cell (Step.refl _ _ _) ⟨_, sR⟩ hk151 rfl cell150
  refine WA.ex 35 rfl (by kernel_rfl) (by kernel_rfl) (by kernel_rfl) rfl ⟨_, sR⟩ (fun w_ hS_ => ex_indexAddr (i := (6 : Int)) rfl e147 rfl Tryd.underlying24 sz5 g148 g149) ?_
  refine WA.norm (listed' := #[true, true, true, true, true, true, true, true, true, true, true, true, true, true, true, true, true, true, true, true, true, true, true, true, true, true, true, true, true, true, true, true, true, true, true, true, false, false, false, false, false, false, false, false, false, false, false]) (by kernel_rfl) ?_
  refine WA.ex 36 rfl (by kernel_rfl) (by kernel_rfl) (by kernel_rfl) rfl ⟨_, sR⟩ (fun w_ hS_ => ex_load1 (v := enc8 x145) rfl Tryd.underlying5 rfl (held_cell sR hS_ hk151 rfl cell150)) ?_
  refine WA.norm (listed' := #[true, true, true, true, true, true, true, true, true, true, true, true, true, true, true, true, true, true, true, true, true, true, true, true, true, true, true, true, true, true, true, true, true, true, true, true, true, false, false, false, false, false, false, false, false, false, false]) (by kernel_rfl) ?_
  refine WA.ex 37 rfl (by kernel_rfl) (by kernel_rfl) (by kernel_rfl) rfl ⟨_, sR⟩ (fun w_ hS_ => ex_conv_u64 (k := .u8) (a := (x145.toNat : Int)) rfl Tryd.underlying5 Tryd.underlying29) ?_
  refine WA.norm (listed' := #[true, true, true, true, true, true, true, true, true, true, true, true, true, true, true, true, true, true, true, true, true, true, true, true, true, true, true, true, true, true, true, true, true, true, true, true, true, true, false, false, false, false, false, false, false, false, false]) (by kernel_rfl) ?_
  refine WA.ex 38 rfl (by kernel_rfl) (by kernel_rfl) (by kernel_rfl) rfl ⟨_, sR⟩ (fun w_ hS_ => ex_bin (a := enc64 (ofI64 (x145.toNat : Int))) (b := enc64 (48 : UInt64)) (v := enc64 (shl64 (ofI64 (x145.toNat : Int)) 48)) rfl rfl (bin_shl_u64n (n := 48))) ?_
  refine WA.norm (listed' := #[true, true, true, true, true, true, true, true, true, true, true, true, true, true, true, true, true, true, true, true, true, true, true, true, true, true, true, true, true, true, true, true, true, true, true, true, true, true, true, false, false, false, false, false, false, false, false]) (by kernel_rfl) ?_
  refine WA.ex 39 rfl (by kernel_rfl) (by kernel_rfl) (by kernel_rfl) rfl ⟨_, sR⟩ (fun w_ hS_ => ex_bin (a := enc64 ((((((ofI64 (x103.toNat : Int)) ||| (shl64 (ofI64 (x110.toNat : Int)) 8)) ||| (shl64 (ofI64 (x117.toNat : Int)) 16)) ||| (shl64 (ofI64 (x124.toNat : Int)) 24)) ||| (shl64 (ofI64 (x131.toNat : Int)) 32)) ||| (shl64 (ofI64 (x138.toNat : Int)) 40))) (b := enc64 (shl64 (ofI64 (x145.toNat : Int)) 48)) (v := enc64 (((((((ofI64 (x103.toNat : Int)) ||| (shl64 (ofI64 (x110.toNat : Int)) 8)) ||| (shl64 (ofI64 (x117.toNat : Int)) 16)) ||| (shl64 (ofI64 (x124.toNat : Int)) 24)) ||| (shl64 (ofI64 (x131.toNat : Int)) 32)) ||| (shl64 (ofI64 (x138.toNat : Int)) 40)) ||| (shl64 (ofI64 (x145.toNat : Int)) 48))) rfl rfl bin_or_u64) ?_
  refine WA.norm (listed' := #[true, true, true, true, true, true, true, true, true, true, true, true, true, true, true, true, true, true, true, true, true, true, true, true, true, true, true, true, true, true, true, true, true, true, true, true, true, true, true, true, false, false, false, false, false, false, false]) (by kernel_rfl) ?_
  refine WA.ex 40 rfl (by kernel_rfl) (by kernel_rfl) (by kernel_rfl) rfl ⟨_, sR⟩ (fun w_ hS_ => ex_move (v := .slice pA0 a0.length pc0) rfl) ?_
  refine WA.norm (listed' := #[true, true, true, true, true, true, true, true, true, true, true, true, true, true, true, true, true, true, true, true, true, true, true, true, true, true, true, true, true, true, true, true, true, true, true, true, true, true, true, true, true, false, false, false, false, false, false]) (by kernel_rfl) ?_
  obtain ⟨x152, hx152, H⟩ := bindE H
  obtain ⟨ad153, e154, g155, g156, cell157⟩ := Row.ixS hra0D hx152
  have hk158 := Row.at hra0D e154 hx152 ((7 : Int).toNat * 1)
  replace cell157 := held_cell (Step.refl _ _ _) ⟨_, sR⟩ hk158 rfl cell157
  refine WA.ex 41 rfl (by kernel_rfl) (by kernel_rfl) (by kernel_rfl) rfl ⟨_, sR⟩ (fun w_ hS_ => ex_indexAddr (i := (7 : Int)) rfl e154 rfl Tryd.underlying24 sz5 g155 g156) ?_
  refine WA.norm (listed' := #[true, true, true, true, true, true, true, true, true, true, true, true, true, true, true, true, true, true, true, true, true, true, true, true, true, true, true, true, true, true, true, true, true, true, true, true, true, true, true, true, true, true, false, false, false, false, false]) (by kernel_rfl) ?_
  refine WA.ex 42 rfl (by kernel_rfl) (by kernel_rfl) (by kernel_rfl) rfl ⟨_, sR⟩ (fun w_ hS_ => ex_load1 (v := enc8 x152) rfl Tryd.underlying5 rfl (held_cell sR hS_ hk158 rfl cell157)) ?_
  refine WA.norm (listed' := #[true, true, true, true, true, true, true, true, true, true, true, true, true, true, true, true, true, true, true, true, true, true, true, true, true, true, true, true, true, true, true, true, true, true, true, true, true, true, true, true, true, true, true, false, false, false, false]) (by kernel_rfl) ?_
  refine WA.ex 43 rfl (by kernel_rfl) (by kernel_rfl) (by kernel_rfl) rfl ⟨_, sR⟩ (fun w_ hS_ => ex_conv_u64 (k := .u8) (a := (x152.toNat : Int)) rfl Tryd.underlying5 Tryd.underlying29) ?_
  refine WA.norm (listed' := #[true, true, true, true, true, true, true, true, true, true, true, true, true, true, true, true, true, true, true, true, true, true, true, true, true, true, true, true, true, true, true, true, true, true, true, true, true, true, true, true, true, true, true, true, false, false, false]) (by kernel_rfl) ?_
  refine WA.ex 44 rfl (by kernel_rfl) (by kernel_rfl) (by kernel_rfl) rfl ⟨_, sR⟩ (fun w_ hS_ => ex_bin (a := enc64 (ofI64 (x152.toNat : Int))) (b := enc64 (56 : UInt64)) (v := enc64 (shl64 (ofI64 (x152.toNat : Int)) 56)) rfl rfl (bin_shl_u64n (n := 56))) ?_
  refine WA.norm (listed' := #[true, true, true, true, true, true, true, true, true, true, true, true, true, true, true, true, true, true, true, true, true, true, true, true, true, true, true, true, true, true, true, true, true, true, true, true, true, true, true, true, true, true, true, true, true, false, false]) (by kernel_rfl) ?_
  refine WA.ex 45 rfl (by kernel_rfl) (by kernel_rfl) (by kernel_rfl) rfl ⟨_, sR⟩ (fun w_ hS_ => ex_bin (a := enc64 (((((((ofI64 (x103.toNat : Int)) ||| (shl64 (ofI64 (x110.toNat : Int)) 8)) ||| (shl64 (ofI64 (x117.toNat : Int)) 16)) ||| (shl64 (ofI64 (x124.toNat : Int)) 24)) ||| (shl64 (ofI64 (x131.toNat : Int)) 32)) ||| (shl64 (ofI64 (x138.toNat : Int)) 40)) ||| (shl64 (ofI64 (x145.toNat : Int)) 48))) (b := enc64 (shl64 (ofI64 (x152.toNat : Int)) 56)) (v := enc64 ((((((((ofI64 (x103.toNat : Int)) ||| (shl64 (ofI64 (x110.toNat : Int)) 8)) ||| (shl64 (ofI64 (x117.toNat : Int)) 16)) ||| (shl64 (ofI64 (x124.toNat : Int)) 24)) ||| (shl64 (ofI64 (x131.toNat : Int)) 32)) ||| (shl64 (ofI64 (x138.toNat : Int)) 40)) ||| (shl64 (ofI64 (x145.toNat : Int)) 48)) ||| (shl64 (ofI64 (x152.toNat : Int)) 56))) rfl rfl bin_or_u64) ?_
  refine WA.norm (listed' := #[true, true, true, true, true, true, true, true, true, true, true, true, true, true, true, true, true, true, true, true, true, true, true, true, true, true, true, true, true, true, true, true, true, true, true, true, true, true, true, true, true, true, true, true, true, true, false]) (by kernel_rfl) ?_
  refine WA.ex 46 rfl (by kernel_rfl) (by kernel_rfl) (by kernel_rfl) rfl ⟨_, sR⟩ (fun w_ hS_ => ex_assign (v := enc64 ((((((((ofI64 (x103.toNat : Int)) ||| (shl64 (ofI64 (x110.toNat : Int)) 8)) ||| (shl64 (ofI64 (x117.toNat : Int)) 16)) ||| (shl64 (ofI64 (x124.toNat : Int)) 24)) ||| (shl64 (ofI64 (x131.toNat : Int)) 32)) ||| (shl64 (ofI64 (x138.toNat : Int)) 40)) ||| (shl64 (ofI64 (x145.toNat : Int)) 48)) ||| (shl64 (ofI64 (x152.toNat : Int)) 56))) rfl) ?_
  refine WA.norm (listed' := #[true, true, true, true, true, true, true, true, true, true, true, true, true, true, true, true, true, true, true, true, true, true, true, true, true, true, true, true, true, true, true, true, true, true, true, true, true, true, true, true, true, true, true, true, true, true, true]) (by kernel_rfl) ?_
  refine WA.done (by kernel_rfl) ?_
  refine WC.ret ?_
  obtain rfl := Option.some.inj H
  exact ⟨_, (.tmp (enc64 ((((((((ofI64 (x103.toNat : Int)) ||| (shl64 (ofI64 (x110.toNat : Int)) 8)) ||| (shl64 (ofI64 (x117.toNat : Int)) 16)) ||| (shl64 (ofI64 (x124.toNat : Int)) 24)) ||| (shl64 (ofI64 (x131.toNat : Int)) 32)) ||| (shl64 (ofI64 (x138.toNat : Int)) 40)) ||| (shl64 (ofI64 (x145.toNat : Int)) 48)) ||| (shl64 (ofI64 (x152.toNat : Int)) 56)) : Value) rfl .nil), _, rfl, HF.out⟩
end Go.Proofs.YtaidlahjngmenaaDoor.X
