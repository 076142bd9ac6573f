import Derived.Test.YtfdocckaobmgeaaDoorXAD
import Derived.Test.YtfdocckaobmgeaaDoorProg
import Derived.Test.YtfdocckaobmgeaaDoorSxS
import Derived.Test.YtfdocckaobmgeaaDoorShelf
set_option maxRecDepth 20000
set_option linter.unusedVariables false
set_option linter.unusedSimpArgs false
set_option linter.unnecessarySimpa false
namespace Go.Proofs.YtfdocckaobmgeaaDoor.X
open Go Go.RowKit Go.Proofs.YtfdocckaobmgeaaDoor.SX
/-! What the program's variables hold -/
def GG : Glob := { L := [2, 3, 6, 0, 4, 5], T := fun w => Lib.Utf8Tabs 2 3 w ∧ Lib.TabIs Tryd.prog w "internal/strconv.uint64pow10" .u64 Lib.pow10Tab ∧ Lib.TabIs Tryd.prog w "math/bits.deBruijn64tab" .u8 db64I ∧ (∃ tp p, w.var? Tryd.prog "strconv.ErrSyntax" = some #[.iface tp p]) ∧ (∃ tp p, w.var? Tryd.prog "strconv.ErrRange" = some #[.iface tp p]), move := fun {w w'} hk h => ⟨⟨fun c hc => by rw [cell_move (w := w) (hk 2 (by simp))]; exact h.1.1 c hc, fun i hi => ⟨by rw [cell_move (w := w) (hk 3 (by simp))]; exact (h.1.2 i hi).1, by rw [cell_move (w := w) (hk 3 (by simp))]; exact (h.1.2 i hi).2⟩⟩, (var_move (by kernel_rfl : Tryd.prog.globalNamed "internal/strconv.uint64pow10" = some 6) (hk 6 (by simp))).trans h.2.1, (var_move (by kernel_rfl : Tryd.prog.globalNamed "math/bits.deBruijn64tab" = some 0) (hk 0 (by simp))).trans h.2.2.1, (by obtain ⟨tp, p, e⟩ := h.2.2.2.1; exact ⟨tp, p, (var_move (by kernel_rfl : Tryd.prog.globalNamed "strconv.ErrSyntax" = some 4) (hk 4 (by simp))).trans e⟩), (by obtain ⟨tp, p, e⟩ := h.2.2.2.2; exact ⟨tp, p, (var_move (by kernel_rfl : Tryd.prog.globalNamed "strconv.ErrRange" = some 5) (hk 5 (by simp))).trans e⟩)⟩ }

theorem inf9 : (Tryd.prog.info? 9).map (fun i => (i.zero, i.size, i.bytes)) = some (some (.string ⟨#[]⟩), 1, 16) := by kernel_rfl
theorem sz3 : (Tryd.prog.info? 3).map (·.size) = some 1 := by kernel_rfl
theorem sz5 : (Tryd.prog.info? 5).map (·.size) = some 1 := by kernel_rfl
theorem sz9 : (Tryd.prog.info? 9).map (·.size) = some 1 := by kernel_rfl
theorem sz22 : (Tryd.prog.info? 22).map (·.size) = some 1 := by kernel_rfl
theorem sz24 : (Tryd.prog.info? 24).map (·.size) = some 16 := by kernel_rfl
theorem sz26 : (Tryd.prog.info? 26).map (·.size) = some 1 := by kernel_rfl
theorem zr3 : (Tryd.prog.info? 3).map (·.zero) = some (some (.int .i64 0)) := by kernel_rfl
theorem zr9 : (Tryd.prog.info? 9).map (·.zero) = some (some (.string ⟨#[]⟩)) := by kernel_rfl
theorem zr24 : (Tryd.prog.info? 24).map (·.zero) = some (some (.agg #[.int .u64 0, .int .u64 0, .int .u64 0, .int .u64 0, .int .u64 0, .int .u64 0, .int .u64 0, .int .u64 0, .int .u64 0, .int .u64 0, .int .u64 0, .int .u64 0, .int .u64 0, .int .u64 0, .int .u64 0, .int .u64 0])) := by kernel_rfl
theorem zr26 : (Tryd.prog.info? 26).map (·.zero) = some (some (.int .i64 0)) := by kernel_rfl

/-! ### bits_Union_1 -/
set_option maxRecDepth 100000 in
theorem bits_Union_1.calls (o0 : Tags) (w0 : World) (a0 : UInt64) (a1 : UInt64) (r : UInt64) (hO : ∀ b, b < w0.heap.size → o0 b < 10) (H : bits_Union_1.f a0 a1 = some r) :
    Calls Tryd.prog 49 [enc64 a0, enc64 a1].toArray w0 fun e_ w_ => ∃ (o_ : Tags), e_ = .returned (one [enc64 r]) ∧ Step o0 w0 o_ w_ [] := by
  have HF := Fm.refl hO []
  unfold bits_Union_1.f at H
  refine SX.calls [enc64 a0, enc64 a1] Tryd.func49 rfl rfl ?_
  rw [Tryd.ntmps49]
  refine WC.seq ?_
  refine WC.region ?_
  refine WL.ex rfl (ex_assign (v := enc64 (0 : UInt64)) rfl) ?_
  refine WL.nil ?_
  refine WC.seq ?_
  refine WC.region ?_
  refine WL.ex rfl (ex_move (v := enc64 a0) rfl) ?_
  refine WL.ex rfl (ex_move (v := enc64 a1) rfl) ?_
  refine WL.ex rfl (ex_bin (a := enc64 a0) (b := enc64 a1) (v := enc64 (a0 ||| a1)) rfl rfl bin_or_u64) ?_
  refine WL.ex rfl (ex_assign (v := enc64 (a0 ||| a1)) rfl) ?_
  refine WL.nil ?_
  refine WC.ret ?_
  obtain rfl := Option.some.inj H
  exact ⟨_, (.tmp (enc64 (a0 ||| a1) : Value) rfl .nil), _, rfl, HF.out⟩

/-! ### bits_each_bits_Union_1 -/
set_option maxRecDepth 100000 in
theorem bits_each_bits_Union_1.calls (k : Nat) (o0 : Tags) (w0 : World) (a0 : (List UInt64)) (a1 : (List UInt64)) (r : (List UInt64)) (hO : ∀ b, b < w0.heap.size → o0 b < 10) (hla0 : a0.length = 16) (hla1 : a1.length = 16) (H : bits_each_bits_Union_1.f k a0 a1 = some r) :
    Calls Tryd.prog 48 [.agg (List.map enc64 a0).toArray, .agg (List.map enc64 a1).toArray, .func (.func 49) #[] #[]].toArray w0 fun e_ w_ => ∃ (o_ : Tags), e_ = .returned (one [.agg (List.map enc64 r).toArray]) ∧ Step o0 w0 o_ w_ [] ∧ r.length = 16 := by
  have HF := Fm.refl hO []
  unfold bits_each_bits_Union_1.f at H
  refine SX.calls [.agg (List.map enc64 a0).toArray, .agg (List.map enc64 a1).toArray, .func (.func 49) #[] #[]] Tryd.func48 rfl rfl ?_
  rw [Tryd.ntmps48]
  refine WC.seq ?_
  refine WC.region ?_
  refine WL.op rfl ?_
  refine OW.box' (List.map enc64 a0) 10 HF rfl ((congrArg Value.cells (show ev _ _ = (.agg (List.map enc64 a0).toArray : Value) from rfl)).trans rfl) ?_
  intro o102 w103 b101 s104 hB105
  replace HF := HF.step s104 rfl
  refine WL.op rfl ?_
  refine OW.box' (List.map enc64 a1) 11 HF rfl ((congrArg Value.cells (show ev _ _ = (.agg (List.map enc64 a1).toArray : Value) from rfl)).trans rfl) ?_
  intro o107 w108 b106 s109 hB110
  replace hB105 := hB105.step s109 rfl
  replace HF := HF.step s109 rfl
  refine WL.op rfl ?_
  refine OW.alloc' (List.map enc64 (List.replicate 16 ((0 : UInt64)))) 12 HF rfl zr24 rfl ?_
  intro o112 w113 b111 s114 hB115
  replace hB105 := hB105.step s114 rfl
  replace hB110 := hB110.step s114 rfl
  replace HF := HF.step s114 rfl
  refine WL.nil ?_
  refine WC.seq ?_
  refine WC.seq ?_
  refine WC.region ?_
  refine WL.ex rfl (ex_move (v := .int .i64 0) rfl) ?_
  refine WL.nil ?_
  obtain ⟨z121, hz121, H⟩ := bindE H
  refine WC.for (fun k_ ρ_ w_ => ∃ (o_ : Tags) (x116 : Int) (x117 : (List UInt64)), Fm o0 w0 o_ w_ [] ∧ Bk o_ w_ 10 b101 (List.map enc64 x117) 24 ∧ x117.length = 16 ∧ Bk o_ w_ 11 b106 (List.map enc64 a1) 24 ∧ Bk o_ w_ 12 b111 (List.map enc64 (List.replicate 16 ((0 : UInt64)))) 24 ∧ ρ_ 2 = .func (.func 49) #[] #[] ∧ ρ_ 3 = .pointer (some ⟨b101, 0, none⟩) ∧ ρ_ 4 = .pointer (some ⟨b106, 0, none⟩) ∧ ρ_ 6 = .pointer (some ⟨b111, 0, none⟩) ∧ ρ_ 8 = .int .i64 x116 ∧ bits_each_bits_Union_1.l1 k a1 k_ x116 x117 = some z121) k (fun ρ_ w_ => ∃ (o_ : Tags), Fm o0 w0 o_ w_ [] ∧ Bk o_ w_ 10 b101 (List.map enc64 z121) 24 ∧ z121.length = 16 ∧ Bk o_ w_ 12 b111 (List.map enc64 (List.replicate 16 ((0 : UInt64)))) 24 ∧ ρ_ 3 = .pointer (some ⟨b101, 0, none⟩) ∧ ρ_ 6 = .pointer (some ⟨b111, 0, none⟩)) ⟨_, 0, a0, HF, hB105, hla0, hB110, hB115, rfl, rfl, rfl, rfl, rfl, hz121⟩ ?case122 ?_
  case case122 =>
    rintro ρ142 w143 ⟨o144, HF, hB105, hl120, hB115, s3_118, s6_118⟩
    refine WC.seq ?_
    refine WC.region ?_
    refine WL.ex rfl (ex_loadAV (xs := z121) s3_118 Tryd.underlying24 sz24 hl120 hB105) ?_
    refine WL.op rfl ?_
    refine OW.storeAV (ys := z121) s6_118 rfl (fun _ => rfl) sz24 rfl hl120 hB115 ?_
    intro w145 s146 hB147
    replace hB105 := hB105.step s146 rfl
    replace HF := HF.step s146 rfl
    refine WL.nil ?_
    refine WC.ret ?_
    obtain rfl := Option.some.inj H
    exact ⟨_, (.cell (.agg (List.map enc64 z121).toArray : Value) s6_118 (run_loadAV Tryd.underlying24 sz24 hl120 hB147) .nil), _, rfl, HF.out, hl120⟩
  have Ho123 := H
  rintro k124 ρ125 w126 ⟨o127, x116, x117, HF, hB105, hl118, hB110, hB115, s2_115, s3_115, s4_115, s6_115, s8_116, H⟩
  cases k124 with
  | zero => cases H
  | succ k124 =>
  rw [bits_each_bits_Union_1.l1.eq_2] at H
  refine WC.seq ?_
  refine WC.region ?_
  refine WL.ex rfl (ex_bin (a := .int .i64 x116) (b := .int .i64 16) (v := .bool (decide (x116 < 16))) s8_116 rfl bin_lss) ?_
  refine WL.nil ?_
  refine WC.seq ?_
  rcases condE H with ⟨c128, H⟩ | ⟨c128, H⟩
  ·
    refine WC.cond_t ((show _ = Value.bool (decide (x116 < 16)) from rfl).trans (congrArg Value.bool c128)) ?_
    refine WC.skip ?_
    refine WC.seq ?_
    refine WC.block ?_
    refine WC.seq ?_
    refine WC.region ?_
    refine WL.ex rfl (ex_move (v := .int .i64 x116) s8_116) ?_
    refine WL.ex rfl (ex_assign (v := .int .i64 x116) rfl) ?_
    refine WL.nil ?_
    refine WC.regionD' HF [10] 11 (by kernel_rfl) rfl ?_
    intro w129 s130
    replace hB105 := hB105.step s130 rfl
    replace hB110 := hB110.step s130 rfl
    replace hB115 := hB115.step s130 rfl
    replace HF := HF.step s130 rfl
    have hB105D := hB105
    have hB110D := hB110
    have hB115D := hB115
    have sR := HF.here [10]
    refine WA.norm (listed' := #[false, false, false, false, false, false, false, false, false, false, false]) (by kernel_rfl) ?_
    refine WA.ex 0 rfl (by kernel_rfl) (by kernel_rfl) (by kernel_rfl) rfl ⟨_, sR⟩ (fun w_ hS_ => ex_move (v := .int .i64 x116) rfl) ?_
    refine WA.norm (listed' := #[true, false, false, false, false, false, false, false, false, false, false]) (by kernel_rfl) ?_
    refine WA.ex 1 rfl (by kernel_rfl) (by kernel_rfl) (by kernel_rfl) rfl ⟨_, sR⟩ (fun w_ hS_ => ex_move (v := .func (.func 49) #[] #[]) s2_115) ?_
    refine WA.norm (listed' := #[true, true, false, false, false, false, false, false, false, false, false]) (by kernel_rfl) ?_
    refine WA.ex 2 rfl (by kernel_rfl) (by kernel_rfl) (by kernel_rfl) rfl ⟨_, sR⟩ (fun w_ hS_ => ex_move (v := .int .i64 x116) rfl) ?_
    refine WA.norm (listed' := #[true, true, true, false, false, false, false, false, false, false, false]) (by kernel_rfl) ?_
    obtain ⟨x131, hx131, H⟩ := bindE H
    refine WA.ex 3 rfl (by kernel_rfl) (by kernel_rfl) (by kernel_rfl) rfl ⟨_, sR⟩ (fun w_ hS_ => ex_indexArrB (i := x116) (xs := x117) s3_115 rfl Tryd.underlying24 sz22 hl118 hx131) ?_
    refine WA.norm (listed' := #[true, true, true, true, false, false, false, false, false, false, false]) (by kernel_rfl) ?_
    refine WA.ex 5 rfl (by kernel_rfl) (by kernel_rfl) (by kernel_rfl) rfl ⟨_, sR⟩ (fun w_ hS_ => ex_move (v := .int .i64 x116) rfl) ?_
    refine WA.norm (listed' := #[true, true, true, true, false, true, false, false, false, false, false]) (by kernel_rfl) ?_
    obtain ⟨x132, hx132, H⟩ := bindE H
    refine WA.ex 6 rfl (by kernel_rfl) (by kernel_rfl) (by kernel_rfl) rfl ⟨_, sR⟩ (fun w_ hS_ => ex_indexArrB (i := x116) (xs := a1) s4_115 rfl Tryd.underlying24 sz22 hla1 hx132) ?_
    refine WA.norm (listed' := #[true, true, true, true, false, true, true, false, false, false, false]) (by kernel_rfl) ?_
    refine WA.ex 7 rfl (by kernel_rfl) (by kernel_rfl) (by kernel_rfl) rfl ⟨_, sR⟩ (fun w_ hS_ => ex_loadAE (enc := enc64) rfl Tryd.underlying22 rfl (hB110D.step hS_.choose_spec rfl) hx132) ?_
    refine WA.norm (listed' := #[true, true, true, true, false, true, true, true, false, false, false]) (by kernel_rfl) ?_
    refine WA.one 4 (by kernel_rfl) rfl rfl ?_
    refine OW.ex rfl (ex_loadAE (enc := enc64) rfl Tryd.underlying22 rfl hB105 hx131) ?_
    refine ⟨⟨_, sR⟩, ?_⟩
    refine WA.norm (listed' := #[true, true, true, true, true, true, true, true, false, false, false]) (by kernel_rfl) ?_
    obtain ⟨z133, hz133, H⟩ := bindE H
    refine WA.one 8 (by kernel_rfl) rfl rfl ?_
    refine OW.callV (show ev _ _ = .func (.func 49) #[] #[] from rfl) [enc64 x131, enc64 x132] rfl Tryd.func49 (by kernel_rfl) (by kernel_rfl) (map_cons' rfl (map_cons' rfl rfl)) (bits_Union_1.calls _ _ x131 x132 z133 (HF.ten (V := [0]) (L := []) rfl)  hz133) ?_
    rintro _ w134 ⟨o135, rfl, s136⟩
    refine ⟨_, rfl, ?_⟩
    replace s136 := un_stepL (J := []) (L' := []) s136 rfl rfl
    replace hB105 := hB105.step s136 rfl
    replace hB110 := hB110.step s136 rfl
    replace hB115 := hB115.step s136 rfl
    replace HF := HF.step s136 rfl
    replace sR := Step.trans sR s136 (M := [10]) rfl rfl
    refine ⟨⟨_, sR⟩, ?_⟩
    refine WA.norm (listed' := #[true, true, true, true, true, true, true, true, true, false, false]) (by kernel_rfl) ?_
    obtain ⟨x137, hx137, H⟩ := bindE H
    refine WA.ex 9 rfl (by kernel_rfl) (by kernel_rfl) (by kernel_rfl) rfl ⟨_, sR⟩ (fun w_ hS_ => ex_indexArrB (i := x116) (xs := x117) s3_115 rfl Tryd.underlying24 sz22 hl118 hx137) ?_
    refine WA.norm (listed' := #[true, true, true, true, true, true, true, true, true, true, false]) (by kernel_rfl) ?_
    refine WA.one 10 (by kernel_rfl) rfl rfl ?_
    refine OW.storeAE (enc := enc64) (c := z133) rfl rfl (cells64) (fun _ => rfl) sz22 hB105 hx137 ?_
    intro w138 s139 hB140
    replace hB110 := hB110.step s139 rfl
    replace hB115 := hB115.step s139 rfl
    replace HF := HF.step s139 rfl
    replace sR := Step.trans sR s139 (M := [10]) rfl rfl
    have hl141 := len_set (i := x116.toNat) (a := z133) hl118
    refine ⟨⟨_, sR⟩, ?_⟩
    refine WA.norm (listed' := #[true, true, true, true, true, true, true, true, true, true, true]) (by kernel_rfl) ?_
    refine WA.done (by kernel_rfl) ?_
    refine WC.region ?_
    refine WL.ex rfl (ex_bin (a := .int .i64 x116) (b := .int .i64 1) (v := .int .i64 (wrap64 (x116 + 1))) s8_116 rfl bin_add64) ?_
    refine WL.ex rfl (ex_move (v := .int .i64 (wrap64 (x116 + 1))) rfl) ?_
    refine WL.nil ?_
    exact ⟨k124, Nat.lt_succ_self _, ⟨_, wrap64 (x116 + 1), (x117.set x116.toNat z133), HF, hB140, hl141, hB110, hB115, s2_115, s3_115, s4_115, s6_115, rfl, H⟩⟩
  ·
    refine WC.cond_f ((show _ = Value.bool (decide (x116 < 16)) from rfl).trans (congrArg Value.bool c128)) ?_
    refine WC.exit ?_
    obtain rfl := Option.some.inj H
    exact ⟨_, HF, hB105, hl118, hB115, s3_115, s6_115⟩

/-! ### bits_Union -/
set_option maxRecDepth 100000 in
theorem bits_Union.calls (k : Nat) (o0 : Tags) (w0 : World) (a0 : (List UInt64)) (a1 : (List UInt64)) (r : (List UInt64)) (hO : ∀ b, b < w0.heap.size → o0 b < 10) (hla0 : a0.length = 16) (hla1 : a1.length = 16) (H : bits_Union.f k a0 a1 = some r) :
    Calls Tryd.prog 15 [.agg (List.map enc64 a0).toArray, .agg (List.map enc64 a1).toArray].toArray w0 fun e_ w_ => ∃ (o_ : Tags), e_ = .returned (one [.agg (List.map enc64 r).toArray]) ∧ Step o0 w0 o_ w_ [] ∧ r.length = 16 := by
  have HF := Fm.refl hO []
  unfold bits_Union.f at H
  refine SX.calls [.agg (List.map enc64 a0).toArray, .agg (List.map enc64 a1).toArray] Tryd.func15 rfl rfl ?_
  rw [Tryd.ntmps15]
  refine WC.seq ?_
  refine WC.region ?_
  refine WL.op rfl ?_
  refine OW.box' (List.map enc64 a0) 10 HF rfl ((congrArg Value.cells (show ev _ _ = (.agg (List.map enc64 a0).toArray : Value) from rfl)).trans rfl) ?_
  intro o102 w103 b101 s104 hB105
  replace HF := HF.step s104 rfl
  refine WL.op rfl ?_
  refine OW.box' (List.map enc64 a1) 11 HF rfl ((congrArg Value.cells (show ev _ _ = (.agg (List.map enc64 a1).toArray : Value) from rfl)).trans rfl) ?_
  intro o107 w108 b106 s109 hB110
  replace hB105 := hB105.step s109 rfl
  replace HF := HF.step s109 rfl
  refine WL.op rfl ?_
  refine OW.alloc' (List.map enc64 (List.replicate 16 ((0 : UInt64)))) 12 HF rfl zr24 rfl ?_
  intro o112 w113 b111 s114 hB115
  replace hB105 := hB105.step s114 rfl
  replace hB110 := hB110.step s114 rfl
  replace HF := HF.step s114 rfl
  refine WL.nil ?_
  refine WC.seq ?_
  refine WC.region ?_
  refine WL.ex rfl (ex_loadAV (xs := a0) rfl Tryd.underlying24 sz24 hla0 hB105) ?_
  refine WL.ex rfl (ex_loadAV (xs := a1) rfl Tryd.underlying24 sz24 hla1 hB110) ?_
  obtain ⟨z116, hz116, H⟩ := bindE H
  refine WL.op rfl ?_
  refine OW.call [.agg (List.map enc64 a0).toArray, .agg (List.map enc64 a1).toArray, .func (.func 49) #[] #[]] rfl Tryd.func48 (by kernel_rfl) (by kernel_rfl) (map_cons' rfl (map_cons' rfl (map_cons' rfl rfl))) (bits_each_bits_Union_1.calls k _ _ a0 a1 z116 (HF.ten (V := [0]) (L := []) rfl) hla0 hla1 hz116) ?_
  rintro _ w117 ⟨o118, rfl, s119, hl120⟩
  refine ⟨_, rfl, ?_⟩
  replace s119 := un_stepL (J := []) (L' := []) s119 rfl rfl
  replace hB105 := hB105.step s119 rfl
  replace hB110 := hB110.step s119 rfl
  replace hB115 := hB115.step s119 rfl
  replace HF := HF.step s119 rfl
  refine WL.op rfl ?_
  refine OW.storeAV (ys := z116) rfl rfl (fun _ => rfl) sz24 rfl hl120 hB115 ?_
  intro w121 s122 hB123
  replace hB105 := hB105.step s122 rfl
  replace hB110 := hB110.step s122 rfl
  replace HF := HF.step s122 rfl
  refine WL.nil ?_
  refine WC.ret ?_
  obtain rfl := Option.some.inj H
  exact ⟨_, (.cell (.agg (List.map enc64 z116).toArray : Value) rfl (run_loadAV Tryd.underlying24 sz24 hl120 hB123) .nil), _, rfl, HF.out, hl120⟩

/-! ### bits_Meet_1 -/
set_option maxRecDepth 100000 in
theorem bits_Meet_1.calls (o0 : Tags) (w0 : World) (a0 : UInt64) (a1 : UInt64) (r : UInt64) (hO : ∀ b, b < w0.heap.size → o0 b < 10) (H : bits_Meet_1.f a0 a1 = some r) :
    Calls Tryd.prog 50 [enc64 a0, enc64 a1].toArray w0 fun e_ w_ => ∃ (o_ : Tags), e_ = .returned (one [enc64 r]) ∧ Step o0 w0 o_ w_ [] := by
  have HF := Fm.refl hO []
  unfold bits_Meet_1.f at H
  refine SX.calls [enc64 a0, enc64 a1] Tryd.func50 rfl rfl ?_
  rw [Tryd.ntmps50]
  refine WC.seq ?_
  refine WC.region ?_
  refine WL.ex rfl (ex_assign (v := enc64 (0 : UInt64)) rfl) ?_
  refine WL.nil ?_
  refine WC.seq ?_
  refine WC.region ?_
  refine WL.ex rfl (ex_move (v := enc64 a0) rfl) ?_
  refine WL.ex rfl (ex_move (v := enc64 a1) rfl) ?_
  refine WL.ex rfl (ex_bin (a := enc64 a0) (b := enc64 a1) (v := enc64 (a0 &&& a1)) rfl rfl bin_and_u64) ?_
  refine WL.ex rfl (ex_assign (v := enc64 (a0 &&& a1)) rfl) ?_
  refine WL.nil ?_
  refine WC.ret ?_
  obtain rfl := Option.some.inj H
  exact ⟨_, (.tmp (enc64 (a0 &&& a1) : Value) rfl .nil), _, rfl, HF.out⟩

/-! ### bits_each_bits_Meet_1 -/
set_option maxRecDepth 100000 in
theorem bits_each_bits_Meet_1.calls (k : Nat) (o0 : Tags) (w0 : World) (a0 : (List UInt64)) (a1 : (List UInt64)) (r : (List UInt64)) (hO : ∀ b, b < w0.heap.size → o0 b < 10) (hla0 : a0.length = 16) (hla1 : a1.length = 16) (H : bits_each_bits_Meet_1.f k a0 a1 = some r) :
    Calls Tryd.prog 48 [.agg (List.map enc64 a0).toArray, .agg (List.map enc64 a1).toArray, .func (.func 50) #[] #[]].toArray w0 fun e_ w_ => ∃ (o_ : Tags), e_ = .returned (one [.agg (List.map enc64 r).toArray]) ∧ Step o0 w0 o_ w_ [] ∧ r.length = 16 := by
  have HF := Fm.refl hO []
  unfold bits_each_bits_Meet_1.f at H
  refine SX.calls [.agg (List.map enc64 a0).toArray, .agg (List.map enc64 a1).toArray, .func (.func 50) #[] #[]] Tryd.func48 rfl rfl ?_
  rw [Tryd.ntmps48]
  refine WC.seq ?_
  refine WC.region ?_
  refine WL.op rfl ?_
  refine OW.box' (List.map enc64 a0) 10 HF rfl ((congrArg Value.cells (show ev _ _ = (.agg (List.map enc64 a0).toArray : Value) from rfl)).trans rfl) ?_
  intro o102 w103 b101 s104 hB105
  replace HF := HF.step s104 rfl
  refine WL.op rfl ?_
  refine OW.box' (List.map enc64 a1) 11 HF rfl ((congrArg Value.cells (show ev _ _ = (.agg (List.map enc64 a1).toArray : Value) from rfl)).trans rfl) ?_
  intro o107 w108 b106 s109 hB110
  replace hB105 := hB105.step s109 rfl
  replace HF := HF.step s109 rfl
  refine WL.op rfl ?_
  refine OW.alloc' (List.map enc64 (List.replicate 16 ((0 : UInt64)))) 12 HF rfl zr24 rfl ?_
  intro o112 w113 b111 s114 hB115
  replace hB105 := hB105.step s114 rfl
  replace hB110 := hB110.step s114 rfl
  replace HF := HF.step s114 rfl
  refine WL.nil ?_
  refine WC.seq ?_
  refine WC.seq ?_
  refine WC.region ?_
  refine WL.ex rfl (ex_move (v := .int .i64 0) rfl) ?_
  refine WL.nil ?_
  obtain ⟨z121, hz121, H⟩ := bindE H
  refine WC.for (fun k_ ρ_ w_ => ∃ (o_ : Tags) (x116 : Int) (x117 : (List UInt64)), Fm o0 w0 o_ w_ [] ∧ Bk o_ w_ 10 b101 (List.map enc64 x117) 24 ∧ x117.length = 16 ∧ Bk o_ w_ 11 b106 (List.map enc64 a1) 24 ∧ Bk o_ w_ 12 b111 (List.map enc64 (List.replicate 16 ((0 : UInt64)))) 24 ∧ ρ_ 2 = .func (.func 50) #[] #[] ∧ ρ_ 3 = .pointer (some ⟨b101, 0, none⟩) ∧ ρ_ 4 = .pointer (some ⟨b106, 0, none⟩) ∧ ρ_ 6 = .pointer (some ⟨b111, 0, none⟩) ∧ ρ_ 8 = .int .i64 x116 ∧ bits_each_bits_Meet_1.l1 k a1 k_ x116 x117 = some z121) k (fun ρ_ w_ => ∃ (o_ : Tags), Fm o0 w0 o_ w_ [] ∧ Bk o_ w_ 10 b101 (List.map enc64 z121) 24 ∧ z121.length = 16 ∧ Bk o_ w_ 12 b111 (List.map enc64 (List.replicate 16 ((0 : UInt64)))) 24 ∧ ρ_ 3 = .pointer (some ⟨b101, 0, none⟩) ∧ ρ_ 6 = .pointer (some ⟨b111, 0, none⟩)) ⟨_, 0, a0, HF, hB105, hla0, hB110, hB115, rfl, rfl, rfl, rfl, rfl, hz121⟩ ?case122 ?_
  case case122 =>
    rintro ρ142 w143 ⟨o144, HF, hB105, hl120, hB115, s3_118, s6_118⟩
    refine WC.seq ?_
    refine WC.region ?_
    refine WL.ex rfl (ex_loadAV (xs := z121) s3_118 Tryd.underlying24 sz24 hl120 hB105) ?_
    refine WL.op rfl ?_
    refine OW.storeAV (ys := z121) s6_118 rfl (fun _ => rfl) sz24 rfl hl120 hB115 ?_
    intro w145 s146 hB147
    replace hB105 := hB105.step s146 rfl
    replace HF := HF.step s146 rfl
    refine WL.nil ?_
    refine WC.ret ?_
    obtain rfl := Option.some.inj H
    exact ⟨_, (.cell (.agg (List.map enc64 z121).toArray : Value) s6_118 (run_loadAV Tryd.underlying24 sz24 hl120 hB147) .nil), _, rfl, HF.out, hl120⟩
  have Ho123 := H
  rintro k124 ρ125 w126 ⟨o127, x116, x117, HF, hB105, hl118, hB110, hB115, s2_115, s3_115, s4_115, s6_115, s8_116, H⟩
  cases k124 with
  | zero => cases H
  | succ k124 =>
  rw [bits_each_bits_Meet_1.l1.eq_2] at H
  refine WC.seq ?_
  refine WC.region ?_
  refine WL.ex rfl (ex_bin (a := .int .i64 x116) (b := .int .i64 16) (v := .bool (decide (x116 < 16))) s8_116 rfl bin_lss) ?_
  refine WL.nil ?_
  refine WC.seq ?_
  rcases condE H with ⟨c128, H⟩ | ⟨c128, H⟩
  ·
    refine WC.cond_t ((show _ = Value.bool (decide (x116 < 16)) from rfl).trans (congrArg Value.bool c128)) ?_
    refine WC.skip ?_
    refine WC.seq ?_
    refine WC.block ?_
    refine WC.seq ?_
    refine WC.region ?_
    refine WL.ex rfl (ex_move (v := .int .i64 x116) s8_116) ?_
    refine WL.ex rfl (ex_assign (v := .int .i64 x116) rfl) ?_
    refine WL.nil ?_
    refine WC.regionD' HF [10] 11 (by kernel_rfl) rfl ?_
    intro w129 s130
    replace hB105 := hB105.step s130 rfl
    replace hB110 := hB110.step s130 rfl
    replace hB115 := hB115.step s130 rfl
    replace HF := HF.step s130 rfl
    have hB105D := hB105
    have hB110D := hB110
    have hB115D := hB115
    have sR := HF.here [10]
    refine WA.norm (listed' := #[false, false, false, false, false, false, false, false, false, false, false]) (by kernel_rfl) ?_
    refine WA.ex 0 rfl (by kernel_rfl) (by kernel_rfl) (by kernel_rfl) rfl ⟨_, sR⟩ (fun w_ hS_ => ex_move (v := .int .i64 x116) rfl) ?_
    refine WA.norm (listed' := #[true, false, false, false, false, false, false, false, false, false, false]) (by kernel_rfl) ?_
    refine WA.ex 1 rfl (by kernel_rfl) (by kernel_rfl) (by kernel_rfl) rfl ⟨_, sR⟩ (fun w_ hS_ => ex_move (v := .func (.func 50) #[] #[]) s2_115) ?_
    refine WA.norm (listed' := #[true, true, false, false, false, false, false, false, false, false, false]) (by kernel_rfl) ?_
    refine WA.ex 2 rfl (by kernel_rfl) (by kernel_rfl) (by kernel_rfl) rfl ⟨_, sR⟩ (fun w_ hS_ => ex_move (v := .int .i64 x116) rfl) ?_
    refine WA.norm (listed' := #[true, true, true, false, false, false, false, false, false, false, false]) (by kernel_rfl) ?_
    obtain ⟨x131, hx131, H⟩ := bindE H
    refine WA.ex 3 rfl (by kernel_rfl) (by kernel_rfl) (by kernel_rfl) rfl ⟨_, sR⟩ (fun w_ hS_ => ex_indexArrB (i := x116) (xs := x117) s3_115 rfl Tryd.underlying24 sz22 hl118 hx131) ?_
    refine WA.norm (listed' := #[true, true, true, true, false, false, false, false, false, false, false]) (by kernel_rfl) ?_
    refine WA.ex 5 rfl (by kernel_rfl) (by kernel_rfl) (by kernel_rfl) rfl ⟨_, sR⟩ (fun w_ hS_ => ex_move (v := .int .i64 x116) rfl) ?_
    refine WA.norm (listed' := #[true, true, true, true, false, true, false, false, false, false, false]) (by kernel_rfl) ?_
    obtain ⟨x132, hx132, H⟩ := bindE H
    refine WA.ex 6 rfl (by kernel_rfl) (by kernel_rfl) (by kernel_rfl) rfl ⟨_, sR⟩ (fun w_ hS_ => ex_indexArrB (i := x116) (xs := a1) s4_115 rfl Tryd.underlying24 sz22 hla1 hx132) ?_
    refine WA.norm (listed' := #[true, true, true, true, false, true, true, false, false, false, false]) (by kernel_rfl) ?_
    refine WA.ex 7 rfl (by kernel_rfl) (by kernel_rfl) (by kernel_rfl) rfl ⟨_, sR⟩ (fun w_ hS_ => ex_loadAE (enc := enc64) rfl Tryd.underlying22 rfl (hB110D.step hS_.choose_spec rfl) hx132) ?_
    refine WA.norm (listed' := #[true, true, true, true, false, true, true, true, false, false, false]) (by kernel_rfl) ?_
    refine WA.one 4 (by kernel_rfl) rfl rfl ?_
    refine OW.ex rfl (ex_loadAE (enc := enc64) rfl Tryd.underlying22 rfl hB105 hx131) ?_
    refine ⟨⟨_, sR⟩, ?_⟩
    refine WA.norm (listed' := #[true, true, true, true, true, true, true, true, false, false, false]) (by kernel_rfl) ?_
    obtain ⟨z133, hz133, H⟩ := bindE H
    refine WA.one 8 (by kernel_rfl) rfl rfl ?_
    refine OW.callV (show ev _ _ = .func (.func 50) #[] #[] from rfl) [enc64 x131, enc64 x132] rfl Tryd.func50 (by kernel_rfl) (by kernel_rfl) (map_cons' rfl (map_cons' rfl rfl)) (bits_Meet_1.calls _ _ x131 x132 z133 (HF.ten (V := [0]) (L := []) rfl)  hz133) ?_
    rintro _ w134 ⟨o135, rfl, s136⟩
    refine ⟨_, rfl, ?_⟩
    replace s136 := un_stepL (J := []) (L' := []) s136 rfl rfl
    replace hB105 := hB105.step s136 rfl
    replace hB110 := hB110.step s136 rfl
    replace hB115 := hB115.step s136 rfl
    replace HF := HF.step s136 rfl
    replace sR := Step.trans sR s136 (M := [10]) rfl rfl
    refine ⟨⟨_, sR⟩, ?_⟩
    refine WA.norm (listed' := #[true, true, true, true, true, true, true, true, true, false, false]) (by kernel_rfl) ?_
    obtain ⟨x137, hx137, H⟩ := bindE H
    refine WA.ex 9 rfl (by kernel_rfl) (by kernel_rfl) (by kernel_rfl) rfl ⟨_, sR⟩ (fun w_ hS_ => ex_indexArrB (i := x116) (xs := x117) s3_115 rfl Tryd.underlying24 sz22 hl118 hx137) ?_
    refine WA.norm (listed' := #[true, true, true, true, true, true, true, true, true, true, false]) (by kernel_rfl) ?_
    refine WA.one 10 (by kernel_rfl) rfl rfl ?_
    refine OW.storeAE (enc := enc64) (c := z133) rfl rfl (cells64) (fun _ => rfl) sz22 hB105 hx137 ?_
    intro w138 s139 hB140
    replace hB110 := hB110.step s139 rfl
    replace hB115 := hB115.step s139 rfl
    replace HF := HF.step s139 rfl
    replace sR := Step.trans sR s139 (M := [10]) rfl rfl
    have hl141 := len_set (i := x116.toNat) (a := z133) hl118
    refine ⟨⟨_, sR⟩, ?_⟩
    refine WA.norm (listed' := #[true, true, true, true, true, true, true, true, true, true, true]) (by kernel_rfl) ?_
    refine WA.done (by kernel_rfl) ?_
    refine WC.region ?_
    refine WL.ex rfl (ex_bin (a := .int .i64 x116) (b := .int .i64 1) (v := .int .i64 (wrap64 (x116 + 1))) s8_116 rfl bin_add64) ?_
    refine WL.ex rfl (ex_move (v := .int .i64 (wrap64 (x116 + 1))) rfl) ?_
    refine WL.nil ?_
    exact ⟨k124, Nat.lt_succ_self _, ⟨_, wrap64 (x116 + 1), (x117.set x116.toNat z133), HF, hB140, hl141, hB110, hB115, s2_115, s3_115, s4_115, s6_115, rfl, H⟩⟩
  ·
    refine WC.cond_f ((show _ = Value.bool (decide (x116 < 16)) from rfl).trans (congrArg Value.bool c128)) ?_
    refine WC.exit ?_
    obtain rfl := Option.some.inj H
    exact ⟨_, HF, hB105, hl118, hB115, s3_115, s6_115⟩

/-! ### bits_Meet -/
set_option maxRecDepth 100000 in
theorem bits_Meet.calls (k : Nat) (o0 : Tags) (w0 : World) (a0 : (List UInt64)) (a1 : (List UInt64)) (r : (List UInt64)) (hO : ∀ b, b < w0.heap.size → o0 b < 10) (hla0 : a0.length = 16) (hla1 : a1.length = 16) (H : bits_Meet.f k a0 a1 = some r) :
    Calls Tryd.prog 17 [.agg (List.map enc64 a0).toArray, .agg (List.map enc64 a1).toArray].toArray w0 fun e_ w_ => ∃ (o_ : Tags), e_ = .returned (one [.agg (List.map enc64 r).toArray]) ∧ Step o0 w0 o_ w_ [] ∧ r.length = 16 := by
  have HF := Fm.refl hO []
  unfold bits_Meet.f at H
  refine SX.calls [.agg (List.map enc64 a0).toArray, .agg (List.map enc64 a1).toArray] Tryd.func17 rfl rfl ?_
  rw [Tryd.ntmps17]
  refine WC.seq ?_
  refine WC.region ?_
  refine WL.op rfl ?_
  refine OW.box' (List.map enc64 a0) 10 HF rfl ((congrArg Value.cells (show ev _ _ = (.agg (List.map enc64 a0).toArray : Value) from rfl)).trans rfl) ?_
  intro o102 w103 b101 s104 hB105
  replace HF := HF.step s104 rfl
  refine WL.op rfl ?_
  refine OW.box' (List.map enc64 a1) 11 HF rfl ((congrArg Value.cells (show ev _ _ = (.agg (List.map enc64 a1).toArray : Value) from rfl)).trans rfl) ?_
  intro o107 w108 b106 s109 hB110
  replace hB105 := hB105.step s109 rfl
  replace HF := HF.step s109 rfl
  refine WL.op rfl ?_
  refine OW.alloc' (List.map enc64 (List.replicate 16 ((0 : UInt64)))) 12 HF rfl zr24 rfl ?_
  intro o112 w113 b111 s114 hB115
  replace hB105 := hB105.step s114 rfl
  replace hB110 := hB110.step s114 rfl
  replace HF := HF.step s114 rfl
  refine WL.nil ?_
  refine WC.seq ?_
  refine WC.region ?_
  refine WL.ex rfl (ex_loadAV (xs := a0) rfl Tryd.underlying24 sz24 hla0 hB105) ?_
  refine WL.ex rfl (ex_loadAV (xs := a1) rfl Tryd.underlying24 sz24 hla1 hB110) ?_
  obtain ⟨z116, hz116, H⟩ := bindE H
  refine WL.op rfl ?_
  refine OW.call [.agg (List.map enc64 a0).toArray, .agg (List.map enc64 a1).toArray, .func (.func 50) #[] #[]] rfl Tryd.func48 (by kernel_rfl) (by kernel_rfl) (map_cons' rfl (map_cons' rfl (map_cons' rfl rfl))) (bits_each_bits_Meet_1.calls k _ _ a0 a1 z116 (HF.ten (V := [0]) (L := []) rfl) hla0 hla1 hz116) ?_
  rintro _ w117 ⟨o118, rfl, s119, hl120⟩
  refine ⟨_, rfl, ?_⟩
  replace s119 := un_stepL (J := []) (L' := []) s119 rfl rfl
  replace hB105 := hB105.step s119 rfl
  replace hB110 := hB110.step s119 rfl
  replace hB115 := hB115.step s119 rfl
  replace HF := HF.step s119 rfl
  refine WL.op rfl ?_
  refine OW.storeAV (ys := z116) rfl rfl (fun _ => rfl) sz24 rfl hl120 hB115 ?_
  intro w121 s122 hB123
  replace hB105 := hB105.step s122 rfl
  replace hB110 := hB110.step s122 rfl
  replace HF := HF.step s122 rfl
  refine WL.nil ?_
  refine WC.ret ?_
  obtain rfl := Option.some.inj H
  exact ⟨_, (.cell (.agg (List.map enc64 z116).toArray : Value) rfl (run_loadAV Tryd.underlying24 sz24 hl120 hB123) .nil), _, rfl, HF.out, hl120⟩

/-! ### bits_Minus_1 -/
set_option maxRecDepth 100000 in
theorem bits_Minus_1.calls (o0 : Tags) (w0 : World) (a0 : UInt64) (a1 : UInt64) (r : UInt64) (hO : ∀ b, b < w0.heap.size → o0 b < 10) (H : bits_Minus_1.f a0 a1 = some r) :
    Calls Tryd.prog 51 [enc64 a0, enc64 a1].toArray w0 fun e_ w_ => ∃ (o_ : Tags), e_ = .returned (one [enc64 r]) ∧ Step o0 w0 o_ w_ [] := by
  have HF := Fm.refl hO []
  unfold bits_Minus_1.f at H
  refine SX.calls [enc64 a0, enc64 a1] Tryd.func51 rfl rfl ?_
  rw [Tryd.ntmps51]
  refine WC.seq ?_
  refine WC.region ?_
  refine WL.ex rfl (ex_assign (v := enc64 (0 : UInt64)) rfl) ?_
  refine WL.nil ?_
  refine WC.seq ?_
  refine WC.region ?_
  refine WL.ex rfl (ex_move (v := enc64 a0) rfl) ?_
  refine WL.ex rfl (ex_move (v := enc64 a1) rfl) ?_
  refine WL.ex rfl (ex_bin (a := enc64 a0) (b := enc64 a1) (v := enc64 (a0 &&& ~~~a1)) rfl rfl bin_andNot_u64) ?_
  refine WL.ex rfl (ex_assign (v := enc64 (a0 &&& ~~~a1)) rfl) ?_
  refine WL.nil ?_
  refine WC.ret ?_
  obtain rfl := Option.some.inj H
  exact ⟨_, (.tmp (enc64 (a0 &&& ~~~a1) : Value) rfl .nil), _, rfl, HF.out⟩

/-! ### bits_each_bits_Minus_1 -/
set_option maxRecDepth 100000 in
theorem bits_each_bits_Minus_1.calls (k : Nat) (o0 : Tags) (w0 : World) (a0 : (List UInt64)) (a1 : (List UInt64)) (r : (List UInt64)) (hO : ∀ b, b < w0.heap.size → o0 b < 10) (hla0 : a0.length = 16) (hla1 : a1.length = 16) (H : bits_each_bits_Minus_1.f k a0 a1 = some r) :
    Calls Tryd.prog 48 [.agg (List.map enc64 a0).toArray, .agg (List.map enc64 a1).toArray, .func (.func 51) #[] #[]].toArray w0 fun e_ w_ => ∃ (o_ : Tags), e_ = .returned (one [.agg (List.map enc64 r).toArray]) ∧ Step o0 w0 o_ w_ [] ∧ r.length = 16 := by
  have HF := Fm.refl hO []
  unfold bits_each_bits_Minus_1.f at H
  refine SX.calls [.agg (List.map enc64 a0).toArray, .agg (List.map enc64 a1).toArray, .func (.func 51) #[] #[]] Tryd.func48 rfl rfl ?_
  rw [Tryd.ntmps48]
  refine WC.seq ?_
  refine WC.region ?_
  refine WL.op rfl ?_
  refine OW.box' (List.map enc64 a0) 10 HF rfl ((congrArg Value.cells (show ev _ _ = (.agg (List.map enc64 a0).toArray : Value) from rfl)).trans rfl) ?_
  intro o102 w103 b101 s104 hB105
  replace HF := HF.step s104 rfl
  refine WL.op rfl ?_
  refine OW.box' (List.map enc64 a1) 11 HF rfl ((congrArg Value.cells (show ev _ _ = (.agg (List.map enc64 a1).toArray : Value) from rfl)).trans rfl) ?_
  intro o107 w108 b106 s109 hB110
  replace hB105 := hB105.step s109 rfl
  replace HF := HF.step s109 rfl
  refine WL.op rfl ?_
  refine OW.alloc' (List.map enc64 (List.replicate 16 ((0 : UInt64)))) 12 HF rfl zr24 rfl ?_
  intro o112 w113 b111 s114 hB115
  replace hB105 := hB105.step s114 rfl
  replace hB110 := hB110.step s114 rfl
  replace HF := HF.step s114 rfl
  refine WL.nil ?_
  refine WC.seq ?_
  refine WC.seq ?_
  refine WC.region ?_
  refine WL.ex rfl (ex_move (v := .int .i64 0) rfl) ?_
  refine WL.nil ?_
  obtain ⟨z121, hz121, H⟩ := bindE H
  refine WC.for (fun k_ ρ_ w_ => ∃ (o_ : Tags) (x116 : Int) (x117 : (List UInt64)), Fm o0 w0 o_ w_ [] ∧ Bk o_ w_ 10 b101 (List.map enc64 x117) 24 ∧ x117.length = 16 ∧ Bk o_ w_ 11 b106 (List.map enc64 a1) 24 ∧ Bk o_ w_ 12 b111 (List.map enc64 (List.replicate 16 ((0 : UInt64)))) 24 ∧ ρ_ 2 = .func (.func 51) #[] #[] ∧ ρ_ 3 = .pointer (some ⟨b101, 0, none⟩) ∧ ρ_ 4 = .pointer (some ⟨b106, 0, none⟩) ∧ ρ_ 6 = .pointer (some ⟨b111, 0, none⟩) ∧ ρ_ 8 = .int .i64 x116 ∧ bits_each_bits_Minus_1.l1 k a1 k_ x116 x117 = some z121) k (fun ρ_ w_ => ∃ (o_ : Tags), Fm o0 w0 o_ w_ [] ∧ Bk o_ w_ 10 b101 (List.map enc64 z121) 24 ∧ z121.length = 16 ∧ Bk o_ w_ 12 b111 (List.map enc64 (List.replicate 16 ((0 : UInt64)))) 24 ∧ ρ_ 3 = .pointer (some ⟨b101, 0, none⟩) ∧ ρ_ 6 = .pointer (some ⟨b111, 0, none⟩)) ⟨_, 0, a0, HF, hB105, hla0, hB110, hB115, rfl, rfl, rfl, rfl, rfl, hz121⟩ ?case122 ?_
  case case122 =>
    rintro ρ142 w143 ⟨o144, HF, hB105, hl120, hB115, s3_118, s6_118⟩
    refine WC.seq ?_
    refine WC.region ?_
    refine WL.ex rfl (ex_loadAV (xs := z121) s3_118 Tryd.underlying24 sz24 hl120 hB105) ?_
    refine WL.op rfl ?_
    refine OW.storeAV (ys := z121) s6_118 rfl (fun _ => rfl) sz24 rfl hl120 hB115 ?_
    intro w145 s146 hB147
    replace hB105 := hB105.step s146 rfl
    replace HF := HF.step s146 rfl
    refine WL.nil ?_
    refine WC.ret ?_
    obtain rfl := Option.some.inj H
    exact ⟨_, (.cell (.agg (List.map enc64 z121).toArray : Value) s6_118 (run_loadAV Tryd.underlying24 sz24 hl120 hB147) .nil), _, rfl, HF.out, hl120⟩
  have Ho123 := H
  rintro k124 ρ125 w126 ⟨o127, x116, x117, HF, hB105, hl118, hB110, hB115, s2_115, s3_115, s4_115, s6_115, s8_116, H⟩
  cases k124 with
  | zero => cases H
  | succ k124 =>
  rw [bits_each_bits_Minus_1.l1.eq_2] at H
  refine WC.seq ?_
  refine WC.region ?_
  refine WL.ex rfl (ex_bin (a := .int .i64 x116) (b := .int .i64 16) (v := .bool (decide (x116 < 16))) s8_116 rfl bin_lss) ?_
  refine WL.nil ?_
  refine WC.seq ?_
  rcases condE H with ⟨c128, H⟩ | ⟨c128, H⟩
  ·
    refine WC.cond_t ((show _ = Value.bool (decide (x116 < 16)) from rfl).trans (congrArg Value.bool c128)) ?_
    refine WC.skip ?_
    refine WC.seq ?_
    refine WC.block ?_
    refine WC.seq ?_
    refine WC.region ?_
    refine WL.ex rfl (ex_move (v := .int .i64 x116) s8_116) ?_
    refine WL.ex rfl (ex_assign (v := .int .i64 x116) rfl) ?_
    refine WL.nil ?_
    refine WC.regionD' HF [10] 11 (by kernel_rfl) rfl ?_
    intro w129 s130
    replace hB105 := hB105.step s130 rfl
    replace hB110 := hB110.step s130 rfl
    replace hB115 := hB115.step s130 rfl
    replace HF := HF.step s130 rfl
    have hB105D := hB105
    have hB110D := hB110
    have hB115D := hB115
    have sR := HF.here [10]
    refine WA.norm (listed' := #[false, false, false, false, false, false, false, false, false, false, false]) (by kernel_rfl) ?_
    refine WA.ex 0 rfl (by kernel_rfl) (by kernel_rfl) (by kernel_rfl) rfl ⟨_, sR⟩ (fun w_ hS_ => ex_move (v := .int .i64 x116) rfl) ?_
    refine WA.norm (listed' := #[true, false, false, false, false, false, false, false, false, false, false]) (by kernel_rfl) ?_
    refine WA.ex 1 rfl (by kernel_rfl) (by kernel_rfl) (by kernel_rfl) rfl ⟨_, sR⟩ (fun w_ hS_ => ex_move (v := .func (.func 51) #[] #[]) s2_115) ?_
    refine WA.norm (listed' := #[true, true, false, false, false, false, false, false, false, false, false]) (by kernel_rfl) ?_
    refine WA.ex 2 rfl (by kernel_rfl) (by kernel_rfl) (by kernel_rfl) rfl ⟨_, sR⟩ (fun w_ hS_ => ex_move (v := .int .i64 x116) rfl) ?_
    refine WA.norm (listed' := #[true, true, true, false, false, false, false, false, false, false, false]) (by kernel_rfl) ?_
    obtain ⟨x131, hx131, H⟩ := bindE H
    refine WA.ex 3 rfl (by kernel_rfl) (by kernel_rfl) (by kernel_rfl) rfl ⟨_, sR⟩ (fun w_ hS_ => ex_indexArrB (i := x116) (xs := x117) s3_115 rfl Tryd.underlying24 sz22 hl118 hx131) ?_
    refine WA.norm (listed' := #[true, true, true, true, false, false, false, false, false, false, false]) (by kernel_rfl) ?_
    refine WA.ex 5 rfl (by kernel_rfl) (by kernel_rfl) (by kernel_rfl) rfl ⟨_, sR⟩ (fun w_ hS_ => ex_move (v := .int .i64 x116) rfl) ?_
    refine WA.norm (listed' := #[true, true, true, true, false, true, false, false, false, false, false]) (by kernel_rfl) ?_
    obtain ⟨x132, hx132, H⟩ := bindE H
    refine WA.ex 6 rfl (by kernel_rfl) (by kernel_rfl) (by kernel_rfl) rfl ⟨_, sR⟩ (fun w_ hS_ => ex_indexArrB (i := x116) (xs := a1) s4_115 rfl Tryd.underlying24 sz22 hla1 hx132) ?_
    refine WA.norm (listed' := #[true, true, true, true, false, true, true, false, false, false, false]) (by kernel_rfl) ?_
    refine WA.ex 7 rfl (by kernel_rfl) (by kernel_rfl) (by kernel_rfl) rfl ⟨_, sR⟩ (fun w_ hS_ => ex_loadAE (enc := enc64) rfl Tryd.underlying22 rfl (hB110D.step hS_.choose_spec rfl) hx132) ?_
    refine WA.norm (listed' := #[true, true, true, true, false, true, true, true, false, false, false]) (by kernel_rfl) ?_
    refine WA.one 4 (by kernel_rfl) rfl rfl ?_
    refine OW.ex rfl (ex_loadAE (enc := enc64) rfl Tryd.underlying22 rfl hB105 hx131) ?_
    refine ⟨⟨_, sR⟩, ?_⟩
    refine WA.norm (listed' := #[true, true, true, true, true, true, true, true, false, false, false]) (by kernel_rfl) ?_
    obtain ⟨z133, hz133, H⟩ := bindE H
    refine WA.one 8 (by kernel_rfl) rfl rfl ?_
    refine OW.callV (show ev _ _ = .func (.func 51) #[] #[] from rfl) [enc64 x131, enc64 x132] rfl Tryd.func51 (by kernel_rfl) (by kernel_rfl) (map_cons' rfl (map_cons' rfl rfl)) (bits_Minus_1.calls _ _ x131 x132 z133 (HF.ten (V := [0]) (L := []) rfl)  hz133) ?_
    rintro _ w134 ⟨o135, rfl, s136⟩
    refine ⟨_, rfl, ?_⟩
    replace s136 := un_stepL (J := []) (L' := []) s136 rfl rfl
    replace hB105 := hB105.step s136 rfl
    replace hB110 := hB110.step s136 rfl
    replace hB115 := hB115.step s136 rfl
    replace HF := HF.step s136 rfl
    replace sR := Step.trans sR s136 (M := [10]) rfl rfl
    refine ⟨⟨_, sR⟩, ?_⟩
    refine WA.norm (listed' := #[true, true, true, true, true, true, true, true, true, false, false]) (by kernel_rfl) ?_
    obtain ⟨x137, hx137, H⟩ := bindE H
    refine WA.ex 9 rfl (by kernel_rfl) (by kernel_rfl) (by kernel_rfl) rfl ⟨_, sR⟩ (fun w_ hS_ => ex_indexArrB (i := x116) (xs := x117) s3_115 rfl Tryd.underlying24 sz22 hl118 hx137) ?_
    refine WA.norm (listed' := #[true, true, true, true, true, true, true, true, true, true, false]) (by kernel_rfl) ?_
    refine WA.one 10 (by kernel_rfl) rfl rfl ?_
    refine OW.storeAE (enc := enc64) (c := z133) rfl rfl (cells64) (fun _ => rfl) sz22 hB105 hx137 ?_
    intro w138 s139 hB140
    replace hB110 := hB110.step s139 rfl
    replace hB115 := hB115.step s139 rfl
    replace HF := HF.step s139 rfl
    replace sR := Step.trans sR s139 (M := [10]) rfl rfl
    have hl141 := len_set (i := x116.toNat) (a := z133) hl118
    refine ⟨⟨_, sR⟩, ?_⟩
    refine WA.norm (listed' := #[true, true, true, true, true, true, true, true, true, true, true]) (by kernel_rfl) ?_
    refine WA.done (by kernel_rfl) ?_
    refine WC.region ?_
    refine WL.ex rfl (ex_bin (a := .int .i64 x116) (b := .int .i64 1) (v := .int .i64 (wrap64 (x116 + 1))) s8_116 rfl bin_add64) ?_
    refine WL.ex rfl (ex_move (v := .int .i64 (wrap64 (x116 + 1))) rfl) ?_
    refine WL.nil ?_
    exact ⟨k124, Nat.lt_succ_self _, ⟨_, wrap64 (x116 + 1), (x117.set x116.toNat z133), HF, hB140, hl141, hB110, hB115, s2_115, s3_115, s4_115, s6_115, rfl, H⟩⟩
  ·
    refine WC.cond_f ((show _ = Value.bool (decide (x116 < 16)) from rfl).trans (congrArg Value.bool c128)) ?_
    refine WC.exit ?_
    obtain rfl := Option.some.inj H
    exact ⟨_, HF, hB105, hl118, hB115, s3_115, s6_115⟩

/-! ### bits_Minus -/
set_option maxRecDepth 100000 in
theorem bits_Minus.calls (k : Nat) (o0 : Tags) (w0 : World) (a0 : (List UInt64)) (a1 : (List UInt64)) (r : (List UInt64)) (hO : ∀ b, b < w0.heap.size → o0 b < 10) (hla0 : a0.length = 16) (hla1 : a1.length = 16) (H : bits_Minus.f k a0 a1 = some r) :
    Calls Tryd.prog 19 [.agg (List.map enc64 a0).toArray, .agg (List.map enc64 a1).toArray].toArray w0 fun e_ w_ => ∃ (o_ : Tags), e_ = .returned (one [.agg (List.map enc64 r).toArray]) ∧ Step o0 w0 o_ w_ [] ∧ r.length = 16 := by
  have HF := Fm.refl hO []
  unfold bits_Minus.f at H
  refine SX.calls [.agg (List.map enc64 a0).toArray, .agg (List.map enc64 a1).toArray] Tryd.func19 rfl rfl ?_
  rw [Tryd.ntmps19]
  refine WC.seq ?_
  refine WC.region ?_
  refine WL.op rfl ?_
  refine OW.box' (List.map enc64 a0) 10 HF rfl ((congrArg Value.cells (show ev _ _ = (.agg (List.map enc64 a0).toArray : Value) from rfl)).trans rfl) ?_
  intro o102 w103 b101 s104 hB105
  replace HF := HF.step s104 rfl
  refine WL.op rfl ?_
  refine OW.box' (List.map enc64 a1) 11 HF rfl ((congrArg Value.cells (show ev _ _ = (.agg (List.map enc64 a1).toArray : Value) from rfl)).trans rfl) ?_
  intro o107 w108 b106 s109 hB110
  replace hB105 := hB105.step s109 rfl
  replace HF := HF.step s109 rfl
  refine WL.op rfl ?_
  refine OW.alloc' (List.map enc64 (List.replicate 16 ((0 : UInt64)))) 12 HF rfl zr24 rfl ?_
  intro o112 w113 b111 s114 hB115
  replace hB105 := hB105.step s114 rfl
  replace hB110 := hB110.step s114 rfl
  replace HF := HF.step s114 rfl
  refine WL.nil ?_
  refine WC.seq ?_
  refine WC.region ?_
  refine WL.ex rfl (ex_loadAV (xs := a0) rfl Tryd.underlying24 sz24 hla0 hB105) ?_
  refine WL.ex rfl (ex_loadAV (xs := a1) rfl Tryd.underlying24 sz24 hla1 hB110) ?_
  obtain ⟨z116, hz116, H⟩ := bindE H
  refine WL.op rfl ?_
  refine OW.call [.agg (List.map enc64 a0).toArray, .agg (List.map enc64 a1).toArray, .func (.func 51) #[] #[]] rfl Tryd.func48 (by kernel_rfl) (by kernel_rfl) (map_cons' rfl (map_cons' rfl (map_cons' rfl rfl))) (bits_each_bits_Minus_1.calls k _ _ a0 a1 z116 (HF.ten (V := [0]) (L := []) rfl) hla0 hla1 hz116) ?_
  rintro _ w117 ⟨o118, rfl, s119, hl120⟩
  refine ⟨_, rfl, ?_⟩
  replace s119 := un_stepL (J := []) (L' := []) s119 rfl rfl
  replace hB105 := hB105.step s119 rfl
  replace hB110 := hB110.step s119 rfl
  replace hB115 := hB115.step s119 rfl
  replace HF := HF.step s119 rfl
  refine WL.op rfl ?_
  refine OW.storeAV (ys := z116) rfl rfl (fun _ => rfl) sz24 rfl hl120 hB115 ?_
  intro w121 s122 hB123
  replace hB105 := hB105.step s122 rfl
  replace hB110 := hB110.step s122 rfl
  replace HF := HF.step s122 rfl
  refine WL.nil ?_
  refine WC.ret ?_
  obtain rfl := Option.some.inj H
  exact ⟨_, (.cell (.agg (List.map enc64 z116).toArray : Value) rfl (run_loadAV Tryd.underlying24 sz24 hl120 hB123) .nil), _, rfl, HF.out, hl120⟩

/-! ### bits_Sub -/
set_option maxRecDepth 100000 in
theorem bits_Sub.calls (k : Nat) (o0 : Tags) (w0 : World) (a0 : (List UInt64)) (a1 : (List UInt64)) (r : Bool) (hO : ∀ b, b < w0.heap.size → o0 b < 10) (hla0 : a0.length = 16) (hla1 : a1.length = 16) (H : bits_Sub.f k a0 a1 = some r) :
    Calls Tryd.prog 21 [.agg (List.map enc64 a0).toArray, .agg (List.map enc64 a1).toArray].toArray w0 fun e_ w_ => ∃ (o_ : Tags), e_ = .returned (one [.bool r]) ∧ Step o0 w0 o_ w_ [] := by
  have HF := Fm.refl hO []
  unfold bits_Sub.f at H
  refine SX.calls [.agg (List.map enc64 a0).toArray, .agg (List.map enc64 a1).toArray] Tryd.func21 rfl rfl ?_
  rw [Tryd.ntmps21]
  refine WC.seq ?_
  refine WC.region ?_
  refine WL.op rfl ?_
  refine OW.box' (List.map enc64 a0) 10 HF rfl ((congrArg Value.cells (show ev _ _ = (.agg (List.map enc64 a0).toArray : Value) from rfl)).trans rfl) ?_
  intro o102 w103 b101 s104 hB105
  replace HF := HF.step s104 rfl
  refine WL.op rfl ?_
  refine OW.box' (List.map enc64 a1) 11 HF rfl ((congrArg Value.cells (show ev _ _ = (.agg (List.map enc64 a1).toArray : Value) from rfl)).trans rfl) ?_
  intro o107 w108 b106 s109 hB110
  replace hB105 := hB105.step s109 rfl
  replace HF := HF.step s109 rfl
  refine WL.ex rfl (ex_assign (v := .bool false) rfl) ?_
  refine WL.nil ?_
  refine WC.seq ?_
  refine WC.regionD' HF [] 6 (by kernel_rfl) rfl ?_
  intro w111 s112
  replace hB105 := hB105.step s112 rfl
  replace hB110 := hB110.step s112 rfl
  replace HF := HF.step s112 rfl
  have hB105D := hB105
  have hB110D := hB110
  have sR := HF.here []
  refine WA.norm (listed' := #[false, false, false, false, false, false]) (by kernel_rfl) ?_
  refine WA.ex 0 rfl (by kernel_rfl) (by kernel_rfl) (by kernel_rfl) rfl ⟨_, sR⟩ (fun w_ hS_ => ex_loadAV (xs := a0) rfl Tryd.underlying24 sz24 hla0 (hB105D.step hS_.choose_spec rfl)) ?_
  refine WA.norm (listed' := #[true, false, false, false, false, false]) (by kernel_rfl) ?_
  refine WA.ex 1 rfl (by kernel_rfl) (by kernel_rfl) (by kernel_rfl) rfl ⟨_, sR⟩ (fun w_ hS_ => ex_loadAV (xs := a1) rfl Tryd.underlying24 sz24 hla1 (hB110D.step hS_.choose_spec rfl)) ?_
  refine WA.norm (listed' := #[true, true, false, false, false, false]) (by kernel_rfl) ?_
  refine WA.ex 3 rfl (by kernel_rfl) (by kernel_rfl) (by kernel_rfl) rfl ⟨_, sR⟩ (fun w_ hS_ => ex_loadAV (xs := a0) rfl Tryd.underlying24 sz24 hla0 (hB105D.step hS_.choose_spec rfl)) ?_
  refine WA.norm (listed' := #[true, true, false, true, false, false]) (by kernel_rfl) ?_
  obtain ⟨z113, hz113, H⟩ := bindE H
  refine WA.one 2 (by kernel_rfl) rfl rfl ?_
  refine OW.call [.agg (List.map enc64 a0).toArray, .agg (List.map enc64 a1).toArray] rfl Tryd.func17 (by kernel_rfl) (by kernel_rfl) (map_cons' rfl (map_cons' rfl rfl)) (bits_Meet.calls k _ _ a0 a1 z113 (HF.ten (V := [0]) (L := []) rfl) hla0 hla1 hz113) ?_
  rintro _ w114 ⟨o115, rfl, s116, hl117⟩
  refine ⟨_, rfl, ?_⟩
  replace s116 := un_stepL (J := []) (L' := []) s116 rfl rfl
  replace hB105 := hB105.step s116 rfl
  replace hB110 := hB110.step s116 rfl
  replace HF := HF.step s116 rfl
  replace sR := Step.trans sR s116 (M := []) rfl rfl
  refine ⟨⟨_, sR⟩, ?_⟩
  refine WA.norm (listed' := #[true, true, true, true, false, false]) (by kernel_rfl) ?_
  refine WA.ex 4 rfl (by kernel_rfl) (by kernel_rfl) (by kernel_rfl) rfl ⟨_, sR⟩ (fun w_ hS_ => ex_bin (a := .agg (List.map enc64 z113).toArray) (b := .agg (List.map enc64 a0).toArray) (v := .bool (z113 == a0)) rfl rfl (bin_eql_agg (by kernel_rfl) (EqR.arr Tryd.underlying24 sz22 Tryd.underlying22 rfl hl117 hla0 (fun _ _ => EqR.u64 Tryd.underlying22)))) ?_
  refine WA.norm (listed' := #[true, true, true, true, true, false]) (by kernel_rfl) ?_
  refine WA.ex 5 rfl (by kernel_rfl) (by kernel_rfl) (by kernel_rfl) rfl ⟨_, sR⟩ (fun w_ hS_ => ex_assign (v := .bool (z113 == a0)) rfl) ?_
  refine WA.norm (listed' := #[true, true, true, true, true, true]) (by kernel_rfl) ?_
  refine WA.done (by kernel_rfl) ?_
  refine WC.ret ?_
  obtain rfl := Option.some.inj H
  exact ⟨_, (.tmp (.bool (z113 == a0) : Value) rfl .nil), _, rfl, HF.out⟩

/-! ### bits_OnesCount64 -/
set_option maxRecDepth 100000 in
theorem bits_OnesCount64.calls (o0 : Tags) (w0 : World) (a0 : UInt64) (r : Int) (hO : ∀ b, b < w0.heap.size → o0 b < 10) (H : bits_OnesCount64.f a0 = some r) :
    Calls Tryd.prog 52 [enc64 a0].toArray w0 fun e_ w_ => ∃ (o_ : Tags), e_ = .returned (one [.int .i64 r]) ∧ Step o0 w0 o_ w_ [] := by
  have HF := Fm.refl hO []
  unfold bits_OnesCount64.f at H
  refine SX.calls [enc64 a0] Tryd.func52 rfl rfl ?_
  rw [Tryd.ntmps52]
  refine WC.seq ?_
  refine WC.region ?_
  refine WL.ex rfl (ex_assign (v := .int .i64 0) rfl) ?_
  refine WL.nil ?_
  refine WC.seq ?_
  refine WC.region ?_
  refine WL.ex rfl (ex_move (v := enc64 a0) rfl) ?_
  refine WL.ex rfl (ex_bin (a := enc64 a0) (b := enc64 (1 : UInt64)) (v := enc64 (shr64 a0 1)) rfl rfl (bin_shr_u64n (n := 1))) ?_
  refine WL.ex rfl (ex_bin (a := enc64 (shr64 a0 1)) (b := enc64 (6148914691236517205 : UInt64)) (v := enc64 ((shr64 a0 1) &&& (6148914691236517205 : UInt64))) rfl rfl bin_and_u64) ?_
  refine WL.ex rfl (ex_move (v := enc64 a0) rfl) ?_
  refine WL.ex rfl (ex_bin (a := enc64 a0) (b := enc64 (6148914691236517205 : UInt64)) (v := enc64 (a0 &&& (6148914691236517205 : UInt64))) rfl rfl bin_and_u64) ?_
  refine WL.ex rfl (ex_bin (a := enc64 ((shr64 a0 1) &&& (6148914691236517205 : UInt64))) (b := enc64 (a0 &&& (6148914691236517205 : UInt64))) (v := enc64 (((shr64 a0 1) &&& (6148914691236517205 : UInt64)) + (a0 &&& (6148914691236517205 : UInt64)))) rfl rfl bin_add_u64) ?_
  refine WL.ex rfl (ex_assign (v := enc64 (((shr64 a0 1) &&& (6148914691236517205 : UInt64)) + (a0 &&& (6148914691236517205 : UInt64)))) rfl) ?_
  refine WL.nil ?_
  refine WC.seq ?_
  refine WC.region ?_
  refine WL.ex rfl (ex_move (v := enc64 (((shr64 a0 1) &&& (6148914691236517205 : UInt64)) + (a0 &&& (6148914691236517205 : UInt64)))) rfl) ?_
  refine WL.ex rfl (ex_bin (a := enc64 (((shr64 a0 1) &&& (6148914691236517205 : UInt64)) + (a0 &&& (6148914691236517205 : UInt64)))) (b := enc64 (2 : UInt64)) (v := enc64 (shr64 (((shr64 a0 1) &&& (6148914691236517205 : UInt64)) + (a0 &&& (6148914691236517205 : UInt64))) 2)) rfl rfl (bin_shr_u64n (n := 2))) ?_
  refine WL.ex rfl (ex_bin (a := enc64 (shr64 (((shr64 a0 1) &&& (6148914691236517205 : UInt64)) + (a0 &&& (6148914691236517205 : UInt64))) 2)) (b := enc64 (3689348814741910323 : UInt64)) (v := enc64 ((shr64 (((shr64 a0 1) &&& (6148914691236517205 : UInt64)) + (a0 &&& (6148914691236517205 : UInt64))) 2) &&& (3689348814741910323 : UInt64))) rfl rfl bin_and_u64) ?_
  refine WL.ex rfl (ex_move (v := enc64 (((shr64 a0 1) &&& (6148914691236517205 : UInt64)) + (a0 &&& (6148914691236517205 : UInt64)))) rfl) ?_
  refine WL.ex rfl (ex_bin (a := enc64 (((shr64 a0 1) &&& (6148914691236517205 : UInt64)) + (a0 &&& (6148914691236517205 : UInt64)))) (b := enc64 (3689348814741910323 : UInt64)) (v := enc64 ((((shr64 a0 1) &&& (6148914691236517205 : UInt64)) + (a0 &&& (6148914691236517205 : UInt64))) &&& (3689348814741910323 : UInt64))) rfl rfl bin_and_u64) ?_
  refine WL.ex rfl (ex_bin (a := enc64 ((shr64 (((shr64 a0 1) &&& (6148914691236517205 : UInt64)) + (a0 &&& (6148914691236517205 : UInt64))) 2) &&& (3689348814741910323 : UInt64))) (b := enc64 ((((shr64 a0 1) &&& (6148914691236517205 : UInt64)) + (a0 &&& (6148914691236517205 : UInt64))) &&& (3689348814741910323 : UInt64))) (v := enc64 (((shr64 (((shr64 a0 1) &&& (6148914691236517205 : UInt64)) + (a0 &&& (6148914691236517205 : UInt64))) 2) &&& (3689348814741910323 : UInt64)) + ((((shr64 a0 1) &&& (6148914691236517205 : UInt64)) + (a0 &&& (6148914691236517205 : UInt64))) &&& (3689348814741910323 : UInt64)))) rfl rfl bin_add_u64) ?_
  refine WL.ex rfl (ex_assign (v := enc64 (((shr64 (((shr64 a0 1) &&& (6148914691236517205 : UInt64)) + (a0 &&& (6148914691236517205 : UInt64))) 2) &&& (3689348814741910323 : UInt64)) + ((((shr64 a0 1) &&& (6148914691236517205 : UInt64)) + (a0 &&& (6148914691236517205 : UInt64))) &&& (3689348814741910323 : UInt64)))) rfl) ?_
  refine WL.nil ?_
  refine WC.seq ?_
  refine WC.region ?_
  refine WL.ex rfl (ex_move (v := enc64 (((shr64 (((shr64 a0 1) &&& (6148914691236517205 : UInt64)) + (a0 &&& (6148914691236517205 : UInt64))) 2) &&& (3689348814741910323 : UInt64)) + ((((shr64 a0 1) &&& (6148914691236517205 : UInt64)) + (a0 &&& (6148914691236517205 : UInt64))) &&& (3689348814741910323 : UInt64)))) rfl) ?_
  refine WL.ex rfl (ex_bin (a := enc64 (((shr64 (((shr64 a0 1) &&& (6148914691236517205 : UInt64)) + (a0 &&& (6148914691236517205 : UInt64))) 2) &&& (3689348814741910323 : UInt64)) + ((((shr64 a0 1) &&& (6148914691236517205 : UInt64)) + (a0 &&& (6148914691236517205 : UInt64))) &&& (3689348814741910323 : UInt64)))) (b := enc64 (4 : UInt64)) (v := enc64 (shr64 (((shr64 (((shr64 a0 1) &&& (6148914691236517205 : UInt64)) + (a0 &&& (6148914691236517205 : UInt64))) 2) &&& (3689348814741910323 : UInt64)) + ((((shr64 a0 1) &&& (6148914691236517205 : UInt64)) + (a0 &&& (6148914691236517205 : UInt64))) &&& (3689348814741910323 : UInt64))) 4)) rfl rfl (bin_shr_u64n (n := 4))) ?_
  refine WL.ex rfl (ex_move (v := enc64 (((shr64 (((shr64 a0 1) &&& (6148914691236517205 : UInt64)) + (a0 &&& (6148914691236517205 : UInt64))) 2) &&& (3689348814741910323 : UInt64)) + ((((shr64 a0 1) &&& (6148914691236517205 : UInt64)) + (a0 &&& (6148914691236517205 : UInt64))) &&& (3689348814741910323 : UInt64)))) rfl) ?_
  refine WL.ex rfl (ex_bin (a := enc64 (shr64 (((shr64 (((shr64 a0 1) &&& (6148914691236517205 : UInt64)) + (a0 &&& (6148914691236517205 : UInt64))) 2) &&& (3689348814741910323 : UInt64)) + ((((shr64 a0 1) &&& (6148914691236517205 : UInt64)) + (a0 &&& (6148914691236517205 : UInt64))) &&& (3689348814741910323 : UInt64))) 4)) (b := enc64 (((shr64 (((shr64 a0 1) &&& (6148914691236517205 : UInt64)) + (a0 &&& (6148914691236517205 : UInt64))) 2) &&& (3689348814741910323 : UInt64)) + ((((shr64 a0 1) &&& (6148914691236517205 : UInt64)) + (a0 &&& (6148914691236517205 : UInt64))) &&& (3689348814741910323 : UInt64)))) (v := enc64 ((shr64 (((shr64 (((shr64 a0 1) &&& (6148914691236517205 : UInt64)) + (a0 &&& (6148914691236517205 : UInt64))) 2) &&& (3689348814741910323 : UInt64)) + ((((shr64 a0 1) &&& (6148914691236517205 : UInt64)) + (a0 &&& (6148914691236517205 : UInt64))) &&& (3689348814741910323 : UInt64))) 4) + (((shr64 (((shr64 a0 1) &&& (6148914691236517205 : UInt64)) + (a0 &&& (6148914691236517205 : UInt64))) 2) &&& (3689348814741910323 : UInt64)) + ((((shr64 a0 1) &&& (6148914691236517205 : UInt64)) + (a0 &&& (6148914691236517205 : UInt64))) &&& (3689348814741910323 : UInt64))))) rfl rfl bin_add_u64) ?_
  refine WL.ex rfl (ex_bin (a := enc64 ((shr64 (((shr64 (((shr64 a0 1) &&& (6148914691236517205 : UInt64)) + (a0 &&& (6148914691236517205 : UInt64))) 2) &&& (3689348814741910323 : UInt64)) + ((((shr64 a0 1) &&& (6148914691236517205 : UInt64)) + (a0 &&& (6148914691236517205 : UInt64))) &&& (3689348814741910323 : UInt64))) 4) + (((shr64 (((shr64 a0 1) &&& (6148914691236517205 : UInt64)) + (a0 &&& (6148914691236517205 : UInt64))) 2) &&& (3689348814741910323 : UInt64)) + ((((shr64 a0 1) &&& (6148914691236517205 : UInt64)) + (a0 &&& (6148914691236517205 : UInt64))) &&& (3689348814741910323 : UInt64))))) (b := enc64 (1085102592571150095 : UInt64)) (v := enc64 (((shr64 (((shr64 (((shr64 a0 1) &&& (6148914691236517205 : UInt64)) + (a0 &&& (6148914691236517205 : UInt64))) 2) &&& (3689348814741910323 : UInt64)) + ((((shr64 a0 1) &&& (6148914691236517205 : UInt64)) + (a0 &&& (6148914691236517205 : UInt64))) &&& (3689348814741910323 : UInt64))) 4) + (((shr64 (((shr64 a0 1) &&& (6148914691236517205 : UInt64)) + (a0 &&& (6148914691236517205 : UInt64))) 2) &&& (3689348814741910323 : UInt64)) + ((((shr64 a0 1) &&& (6148914691236517205 : UInt64)) + (a0 &&& (6148914691236517205 : UInt64))) &&& (3689348814741910323 : UInt64)))) &&& (1085102592571150095 : UInt64))) rfl rfl bin_and_u64) ?_
  refine WL.ex rfl (ex_assign (v := enc64 (((shr64 (((shr64 (((shr64 a0 1) &&& (6148914691236517205 : UInt64)) + (a0 &&& (6148914691236517205 : UInt64))) 2) &&& (3689348814741910323 : UInt64)) + ((((shr64 a0 1) &&& (6148914691236517205 : UInt64)) + (a0 &&& (6148914691236517205 : UInt64))) &&& (3689348814741910323 : UInt64))) 4) + (((shr64 (((shr64 a0 1) &&& (6148914691236517205 : UInt64)) + (a0 &&& (6148914691236517205 : UInt64))) 2) &&& (3689348814741910323 : UInt64)) + ((((shr64 a0 1) &&& (6148914691236517205 : UInt64)) + (a0 &&& (6148914691236517205 : UInt64))) &&& (3689348814741910323 : UInt64)))) &&& (1085102592571150095 : UInt64))) rfl) ?_
  refine WL.nil ?_
  refine WC.seq ?_
  refine WC.region ?_
  refine WL.ex rfl (ex_move (v := enc64 (((shr64 (((shr64 (((shr64 a0 1) &&& (6148914691236517205 : UInt64)) + (a0 &&& (6148914691236517205 : UInt64))) 2) &&& (3689348814741910323 : UInt64)) + ((((shr64 a0 1) &&& (6148914691236517205 : UInt64)) + (a0 &&& (6148914691236517205 : UInt64))) &&& (3689348814741910323 : UInt64))) 4) + (((shr64 (((shr64 a0 1) &&& (6148914691236517205 : UInt64)) + (a0 &&& (6148914691236517205 : UInt64))) 2) &&& (3689348814741910323 : UInt64)) + ((((shr64 a0 1) &&& (6148914691236517205 : UInt64)) + (a0 &&& (6148914691236517205 : UInt64))) &&& (3689348814741910323 : UInt64)))) &&& (1085102592571150095 : UInt64))) rfl) ?_
  refine WL.ex rfl (ex_move (v := enc64 (((shr64 (((shr64 (((shr64 a0 1) &&& (6148914691236517205 : UInt64)) + (a0 &&& (6148914691236517205 : UInt64))) 2) &&& (3689348814741910323 : UInt64)) + ((((shr64 a0 1) &&& (6148914691236517205 : UInt64)) + (a0 &&& (6148914691236517205 : UInt64))) &&& (3689348814741910323 : UInt64))) 4) + (((shr64 (((shr64 a0 1) &&& (6148914691236517205 : UInt64)) + (a0 &&& (6148914691236517205 : UInt64))) 2) &&& (3689348814741910323 : UInt64)) + ((((shr64 a0 1) &&& (6148914691236517205 : UInt64)) + (a0 &&& (6148914691236517205 : UInt64))) &&& (3689348814741910323 : UInt64)))) &&& (1085102592571150095 : UInt64))) rfl) ?_
  refine WL.ex rfl (ex_bin (a := enc64 (((shr64 (((shr64 (((shr64 a0 1) &&& (6148914691236517205 : UInt64)) + (a0 &&& (6148914691236517205 : UInt64))) 2) &&& (3689348814741910323 : UInt64)) + ((((shr64 a0 1) &&& (6148914691236517205 : UInt64)) + (a0 &&& (6148914691236517205 : UInt64))) &&& (3689348814741910323 : UInt64))) 4) + (((shr64 (((shr64 a0 1) &&& (6148914691236517205 : UInt64)) + (a0 &&& (6148914691236517205 : UInt64))) 2) &&& (3689348814741910323 : UInt64)) + ((((shr64 a0 1) &&& (6148914691236517205 : UInt64)) + (a0 &&& (6148914691236517205 : UInt64))) &&& (3689348814741910323 : UInt64)))) &&& (1085102592571150095 : UInt64))) (b := enc64 (8 : UInt64)) (v := enc64 (shr64 (((shr64 (((shr64 (((shr64 a0 1) &&& (6148914691236517205 : UInt64)) + (a0 &&& (6148914691236517205 : UInt64))) 2) &&& (3689348814741910323 : UInt64)) + ((((shr64 a0 1) &&& (6148914691236517205 : UInt64)) + (a0 &&& (6148914691236517205 : UInt64))) &&& (3689348814741910323 : UInt64))) 4) + (((shr64 (((shr64 a0 1) &&& (6148914691236517205 : UInt64)) + (a0 &&& (6148914691236517205 : UInt64))) 2) &&& (3689348814741910323 : UInt64)) + ((((shr64 a0 1) &&& (6148914691236517205 : UInt64)) + (a0 &&& (6148914691236517205 : UInt64))) &&& (3689348814741910323 : UInt64)))) &&& (1085102592571150095 : UInt64)) 8)) rfl rfl (bin_shr_u64n (n := 8))) ?_
  refine WL.ex rfl (ex_bin (a := enc64 (((shr64 (((shr64 (((shr64 a0 1) &&& (6148914691236517205 : UInt64)) + (a0 &&& (6148914691236517205 : UInt64))) 2) &&& (3689348814741910323 : UInt64)) + ((((shr64 a0 1) &&& (6148914691236517205 : UInt64)) + (a0 &&& (6148914691236517205 : UInt64))) &&& (3689348814741910323 : UInt64))) 4) + (((shr64 (((shr64 a0 1) &&& (6148914691236517205 : UInt64)) + (a0 &&& (6148914691236517205 : UInt64))) 2) &&& (3689348814741910323 : UInt64)) + ((((shr64 a0 1) &&& (6148914691236517205 : UInt64)) + (a0 &&& (6148914691236517205 : UInt64))) &&& (3689348814741910323 : UInt64)))) &&& (1085102592571150095 : UInt64))) (b := enc64 (shr64 (((shr64 (((shr64 (((shr64 a0 1) &&& (6148914691236517205 : UInt64)) + (a0 &&& (6148914691236517205 : UInt64))) 2) &&& (3689348814741910323 : UInt64)) + ((((shr64 a0 1) &&& (6148914691236517205 : UInt64)) + (a0 &&& (6148914691236517205 : UInt64))) &&& (3689348814741910323 : UInt64))) 4) + (((shr64 (((shr64 a0 1) &&& (6148914691236517205 : UInt64)) + (a0 &&& (6148914691236517205 : UInt64))) 2) &&& (3689348814741910323 : UInt64)) + ((((shr64 a0 1) &&& (6148914691236517205 : UInt64)) + (a0 &&& (6148914691236517205 : UInt64))) &&& (3689348814741910323 : UInt64)))) &&& (1085102592571150095 : UInt64)) 8)) (v := enc64 ((((shr64 (((shr64 (((shr64 a0 1) &&& (6148914691236517205 : UInt64)) + (a0 &&& (6148914691236517205 : UInt64))) 2) &&& (3689348814741910323 : UInt64)) + ((((shr64 a0 1) &&& (6148914691236517205 : UInt64)) + (a0 &&& (6148914691236517205 : UInt64))) &&& (3689348814741910323 : UInt64))) 4) + (((shr64 (((shr64 a0 1) &&& (6148914691236517205 : UInt64)) + (a0 &&& (6148914691236517205 : UInt64))) 2) &&& (3689348814741910323 : UInt64)) + ((((shr64 a0 1) &&& (6148914691236517205 : UInt64)) + (a0 &&& (6148914691236517205 : UInt64))) &&& (3689348814741910323 : UInt64)))) &&& (1085102592571150095 : UInt64)) + (shr64 (((shr64 (((shr64 (((shr64 a0 1) &&& (6148914691236517205 : UInt64)) + (a0 &&& (6148914691236517205 : UInt64))) 2) &&& (3689348814741910323 : UInt64)) + ((((shr64 a0 1) &&& (6148914691236517205 : UInt64)) + (a0 &&& (6148914691236517205 : UInt64))) &&& (3689348814741910323 : UInt64))) 4) + (((shr64 (((shr64 a0 1) &&& (6148914691236517205 : UInt64)) + (a0 &&& (6148914691236517205 : UInt64))) 2) &&& (3689348814741910323 : UInt64)) + ((((shr64 a0 1) &&& (6148914691236517205 : UInt64)) + (a0 &&& (6148914691236517205 : UInt64))) &&& (3689348814741910323 : UInt64)))) &&& (1085102592571150095 : UInt64)) 8))) rfl rfl bin_add_u64) ?_
  refine WL.ex rfl (ex_assign (v := enc64 ((((shr64 (((shr64 (((shr64 a0 1) &&& (6148914691236517205 : UInt64)) + (a0 &&& (6148914691236517205 : UInt64))) 2) &&& (3689348814741910323 : UInt64)) + ((((shr64 a0 1) &&& (6148914691236517205 : UInt64)) + (a0 &&& (6148914691236517205 : UInt64))) &&& (3689348814741910323 : UInt64))) 4) + (((shr64 (((shr64 a0 1) &&& (6148914691236517205 : UInt64)) + (a0 &&& (6148914691236517205 : UInt64))) 2) &&& (3689348814741910323 : UInt64)) + ((((shr64 a0 1) &&& (6148914691236517205 : UInt64)) + (a0 &&& (6148914691236517205 : UInt64))) &&& (3689348814741910323 : UInt64)))) &&& (1085102592571150095 : UInt64)) + (shr64 (((shr64 (((shr64 (((shr64 a0 1) &&& (6148914691236517205 : UInt64)) + (a0 &&& (6148914691236517205 : UInt64))) 2) &&& (3689348814741910323 : UInt64)) + ((((shr64 a0 1) &&& (6148914691236517205 : UInt64)) + (a0 &&& (6148914691236517205 : UInt64))) &&& (3689348814741910323 : UInt64))) 4) + (((shr64 (((shr64 a0 1) &&& (6148914691236517205 : UInt64)) + (a0 &&& (6148914691236517205 : UInt64))) 2) &&& (3689348814741910323 : UInt64)) + ((((shr64 a0 1) &&& (6148914691236517205 : UInt64)) + (a0 &&& (6148914691236517205 : UInt64))) &&& (3689348814741910323 : UInt64)))) &&& (1085102592571150095 : UInt64)) 8))) rfl) ?_
  refine WL.nil ?_
  refine WC.seq ?_
  refine WC.region ?_
  refine WL.ex rfl (ex_move (v := enc64 ((((shr64 (((shr64 (((shr64 a0 1) &&& (6148914691236517205 : UInt64)) + (a0 &&& (6148914691236517205 : UInt64))) 2) &&& (3689348814741910323 : UInt64)) + ((((shr64 a0 1) &&& (6148914691236517205 : UInt64)) + (a0 &&& (6148914691236517205 : UInt64))) &&& (3689348814741910323 : UInt64))) 4) + (((shr64 (((shr64 a0 1) &&& (6148914691236517205 : UInt64)) + (a0 &&& (6148914691236517205 : UInt64))) 2) &&& (3689348814741910323 : UInt64)) + ((((shr64 a0 1) &&& (6148914691236517205 : UInt64)) + (a0 &&& (6148914691236517205 : UInt64))) &&& (3689348814741910323 : UInt64)))) &&& (1085102592571150095 : UInt64)) + (shr64 (((shr64 (((shr64 (((shr64 a0 1) &&& (6148914691236517205 : UInt64)) + (a0 &&& (6148914691236517205 : UInt64))) 2) &&& (3689348814741910323 : UInt64)) + ((((shr64 a0 1) &&& (6148914691236517205 : UInt64)) + (a0 &&& (6148914691236517205 : UInt64))) &&& (3689348814741910323 : UInt64))) 4) + (((shr64 (((shr64 a0 1) &&& (6148914691236517205 : UInt64)) + (a0 &&& (6148914691236517205 : UInt64))) 2) &&& (3689348814741910323 : UInt64)) + ((((shr64 a0 1) &&& (6148914691236517205 : UInt64)) + (a0 &&& (6148914691236517205 : UInt64))) &&& (3689348814741910323 : UInt64)))) &&& (1085102592571150095 : UInt64)) 8))) rfl) ?_
  refine WL.ex rfl (ex_move (v := enc64 ((((shr64 (((shr64 (((shr64 a0 1) &&& (6148914691236517205 : UInt64)) + (a0 &&& (6148914691236517205 : UInt64))) 2) &&& (3689348814741910323 : UInt64)) + ((((shr64 a0 1) &&& (6148914691236517205 : UInt64)) + (a0 &&& (6148914691236517205 : UInt64))) &&& (3689348814741910323 : UInt64))) 4) + (((shr64 (((shr64 a0 1) &&& (6148914691236517205 : UInt64)) + (a0 &&& (6148914691236517205 : UInt64))) 2) &&& (3689348814741910323 : UInt64)) + ((((shr64 a0 1) &&& (6148914691236517205 : UInt64)) + (a0 &&& (6148914691236517205 : UInt64))) &&& (3689348814741910323 : UInt64)))) &&& (1085102592571150095 : UInt64)) + (shr64 (((shr64 (((shr64 (((shr64 a0 1) &&& (6148914691236517205 : UInt64)) + (a0 &&& (6148914691236517205 : UInt64))) 2) &&& (3689348814741910323 : UInt64)) + ((((shr64 a0 1) &&& (6148914691236517205 : UInt64)) + (a0 &&& (6148914691236517205 : UInt64))) &&& (3689348814741910323 : UInt64))) 4) + (((shr64 (((shr64 a0 1) &&& (6148914691236517205 : UInt64)) + (a0 &&& (6148914691236517205 : UInt64))) 2) &&& (3689348814741910323 : UInt64)) + ((((shr64 a0 1) &&& (6148914691236517205 : UInt64)) + (a0 &&& (6148914691236517205 : UInt64))) &&& (3689348814741910323 : UInt64)))) &&& (1085102592571150095 : UInt64)) 8))) rfl) ?_
  refine WL.ex rfl (ex_bin (a := enc64 ((((shr64 (((shr64 (((shr64 a0 1) &&& (6148914691236517205 : UInt64)) + (a0 &&& (6148914691236517205 : UInt64))) 2) &&& (3689348814741910323 : UInt64)) + ((((shr64 a0 1) &&& (6148914691236517205 : UInt64)) + (a0 &&& (6148914691236517205 : UInt64))) &&& (3689348814741910323 : UInt64))) 4) + (((shr64 (((shr64 a0 1) &&& (6148914691236517205 : UInt64)) + (a0 &&& (6148914691236517205 : UInt64))) 2) &&& (3689348814741910323 : UInt64)) + ((((shr64 a0 1) &&& (6148914691236517205 : UInt64)) + (a0 &&& (6148914691236517205 : UInt64))) &&& (3689348814741910323 : UInt64)))) &&& (1085102592571150095 : UInt64)) + (shr64 (((shr64 (((shr64 (((shr64 a0 1) &&& (6148914691236517205 : UInt64)) + (a0 &&& (6148914691236517205 : UInt64))) 2) &&& (3689348814741910323 : UInt64)) + ((((shr64 a0 1) &&& (6148914691236517205 : UInt64)) + (a0 &&& (6148914691236517205 : UInt64))) &&& (3689348814741910323 : UInt64))) 4) + (((shr64 (((shr64 a0 1) &&& (6148914691236517205 : UInt64)) + (a0 &&& (6148914691236517205 : UInt64))) 2) &&& (3689348814741910323 : UInt64)) + ((((shr64 a0 1) &&& (6148914691236517205 : UInt64)) + (a0 &&& (6148914691236517205 : UInt64))) &&& (3689348814741910323 : UInt64)))) &&& (1085102592571150095 : UInt64)) 8))) (b := enc64 (16 : UInt64)) (v := enc64 (shr64 ((((shr64 (((shr64 (((shr64 a0 1) &&& (6148914691236517205 : UInt64)) + (a0 &&& (6148914691236517205 : UInt64))) 2) &&& (3689348814741910323 : UInt64)) + ((((shr64 a0 1) &&& (6148914691236517205 : UInt64)) + (a0 &&& (6148914691236517205 : UInt64))) &&& (3689348814741910323 : UInt64))) 4) + (((shr64 (((shr64 a0 1) &&& (6148914691236517205 : UInt64)) + (a0 &&& (6148914691236517205 : UInt64))) 2) &&& (3689348814741910323 : UInt64)) + ((((shr64 a0 1) &&& (6148914691236517205 : UInt64)) + (a0 &&& (6148914691236517205 : UInt64))) &&& (3689348814741910323 : UInt64)))) &&& (1085102592571150095 : UInt64)) + (shr64 (((shr64 (((shr64 (((shr64 a0 1) &&& (6148914691236517205 : UInt64)) + (a0 &&& (6148914691236517205 : UInt64))) 2) &&& (3689348814741910323 : UInt64)) + ((((shr64 a0 1) &&& (6148914691236517205 : UInt64)) + (a0 &&& (6148914691236517205 : UInt64))) &&& (3689348814741910323 : UInt64))) 4) + (((shr64 (((shr64 a0 1) &&& (6148914691236517205 : UInt64)) + (a0 &&& (6148914691236517205 : UInt64))) 2) &&& (3689348814741910323 : UInt64)) + ((((shr64 a0 1) &&& (6148914691236517205 : UInt64)) + (a0 &&& (6148914691236517205 : UInt64))) &&& (3689348814741910323 : UInt64)))) &&& (1085102592571150095 : UInt64)) 8)) 16)) rfl rfl (bin_shr_u64n (n := 16))) ?_
  refine WL.ex rfl (ex_bin (a := enc64 ((((shr64 (((shr64 (((shr64 a0 1) &&& (6148914691236517205 : UInt64)) + (a0 &&& (6148914691236517205 : UInt64))) 2) &&& (3689348814741910323 : UInt64)) + ((((shr64 a0 1) &&& (6148914691236517205 : UInt64)) + (a0 &&& (6148914691236517205 : UInt64))) &&& (3689348814741910323 : UInt64))) 4) + (((shr64 (((shr64 a0 1) &&& (6148914691236517205 : UInt64)) + (a0 &&& (6148914691236517205 : UInt64))) 2) &&& (3689348814741910323 : UInt64)) + ((((shr64 a0 1) &&& (6148914691236517205 : UInt64)) + (a0 &&& (6148914691236517205 : UInt64))) &&& (3689348814741910323 : UInt64)))) &&& (1085102592571150095 : UInt64)) + (shr64 (((shr64 (((shr64 (((shr64 a0 1) &&& (6148914691236517205 : UInt64)) + (a0 &&& (6148914691236517205 : UInt64))) 2) &&& (3689348814741910323 : UInt64)) + ((((shr64 a0 1) &&& (6148914691236517205 : UInt64)) + (a0 &&& (6148914691236517205 : UInt64))) &&& (3689348814741910323 : UInt64))) 4) + (((shr64 (((shr64 a0 1) &&& (6148914691236517205 : UInt64)) + (a0 &&& (6148914691236517205 : UInt64))) 2) &&& (3689348814741910323 : UInt64)) + ((((shr64 a0 1) &&& (6148914691236517205 : UInt64)) + (a0 &&& (6148914691236517205 : UInt64))) &&& (3689348814741910323 : UInt64)))) &&& (1085102592571150095 : UInt64)) 8))) (b := enc64 (shr64 ((((shr64 (((shr64 (((shr64 a0 1) &&& (6148914691236517205 : UInt64)) + (a0 &&& (6148914691236517205 : UInt64))) 2) &&& (3689348814741910323 : UInt64)) + ((((shr64 a0 1) &&& (6148914691236517205 : UInt64)) + (a0 &&& (6148914691236517205 : UInt64))) &&& (3689348814741910323 : UInt64))) 4) + (((shr64 (((shr64 a0 1) &&& (6148914691236517205 : UInt64)) + (a0 &&& (6148914691236517205 : UInt64))) 2) &&& (3689348814741910323 : UInt64)) + ((((shr64 a0 1) &&& (6148914691236517205 : UInt64)) + (a0 &&& (6148914691236517205 : UInt64))) &&& (3689348814741910323 : UInt64)))) &&& (1085102592571150095 : UInt64)) + (shr64 (((shr64 (((shr64 (((shr64 a0 1) &&& (6148914691236517205 : UInt64)) + (a0 &&& (6148914691236517205 : UInt64))) 2) &&& (3689348814741910323 : UInt64)) + ((((shr64 a0 1) &&& (6148914691236517205 : UInt64)) + (a0 &&& (6148914691236517205 : UInt64))) &&& (3689348814741910323 : UInt64))) 4) + (((shr64 (((shr64 a0 1) &&& (6148914691236517205 : UInt64)) + (a0 &&& (6148914691236517205 : UInt64))) 2) &&& (3689348814741910323 : UInt64)) + ((((shr64 a0 1) &&& (6148914691236517205 : UInt64)) + (a0 &&& (6148914691236517205 : UInt64))) &&& (3689348814741910323 : UInt64)))) &&& (1085102592571150095 : UInt64)) 8)) 16)) (v := enc64 (((((shr64 (((shr64 (((shr64 a0 1) &&& (6148914691236517205 : UInt64)) + (a0 &&& (6148914691236517205 : UInt64))) 2) &&& (3689348814741910323 : UInt64)) + ((((shr64 a0 1) &&& (6148914691236517205 : UInt64)) + (a0 &&& (6148914691236517205 : UInt64))) &&& (3689348814741910323 : UInt64))) 4) + (((shr64 (((shr64 a0 1) &&& (6148914691236517205 : UInt64)) + (a0 &&& (6148914691236517205 : UInt64))) 2) &&& (3689348814741910323 : UInt64)) + ((((shr64 a0 1) &&& (6148914691236517205 : UInt64)) + (a0 &&& (6148914691236517205 : UInt64))) &&& (3689348814741910323 : UInt64)))) &&& (1085102592571150095 : UInt64)) + (shr64 (((shr64 (((shr64 (((shr64 a0 1) &&& (6148914691236517205 : UInt64)) + (a0 &&& (6148914691236517205 : UInt64))) 2) &&& (3689348814741910323 : UInt64)) + ((((shr64 a0 1) &&& (6148914691236517205 : UInt64)) + (a0 &&& (6148914691236517205 : UInt64))) &&& (3689348814741910323 : UInt64))) 4) + (((shr64 (((shr64 a0 1) &&& (6148914691236517205 : UInt64)) + (a0 &&& (6148914691236517205 : UInt64))) 2) &&& (3689348814741910323 : UInt64)) + ((((shr64 a0 1) &&& (6148914691236517205 : UInt64)) + (a0 &&& (6148914691236517205 : UInt64))) &&& (3689348814741910323 : UInt64)))) &&& (1085102592571150095 : UInt64)) 8)) + (shr64 ((((shr64 (((shr64 (((shr64 a0 1) &&& (6148914691236517205 : UInt64)) + (a0 &&& (6148914691236517205 : UInt64))) 2) &&& (3689348814741910323 : UInt64)) + ((((shr64 a0 1) &&& (6148914691236517205 : UInt64)) + (a0 &&& (6148914691236517205 : UInt64))) &&& (3689348814741910323 : UInt64))) 4) + (((shr64 (((shr64 a0 1) &&& (6148914691236517205 : UInt64)) + (a0 &&& (6148914691236517205 : UInt64))) 2) &&& (3689348814741910323 : UInt64)) + ((((shr64 a0 1) &&& (6148914691236517205 : UInt64)) + (a0 &&& (6148914691236517205 : UInt64))) &&& (3689348814741910323 : UInt64)))) &&& (1085102592571150095 : UInt64)) + (shr64 (((shr64 (((shr64 (((shr64 a0 1) &&& (6148914691236517205 : UInt64)) + (a0 &&& (6148914691236517205 : UInt64))) 2) &&& (3689348814741910323 : UInt64)) + ((((shr64 a0 1) &&& (6148914691236517205 : UInt64)) + (a0 &&& (6148914691236517205 : UInt64))) &&& (3689348814741910323 : UInt64))) 4) + (((shr64 (((shr64 a0 1) &&& (6148914691236517205 : UInt64)) + (a0 &&& (6148914691236517205 : UInt64))) 2) &&& (3689348814741910323 : UInt64)) + ((((shr64 a0 1) &&& (6148914691236517205 : UInt64)) + (a0 &&& (6148914691236517205 : UInt64))) &&& (3689348814741910323 : UInt64)))) &&& (1085102592571150095 : UInt64)) 8)) 16))) rfl rfl bin_add_u64) ?_
  refine WL.ex rfl (ex_assign (v := enc64 (((((shr64 (((shr64 (((shr64 a0 1) &&& (6148914691236517205 : UInt64)) + (a0 &&& (6148914691236517205 : UInt64))) 2) &&& (3689348814741910323 : UInt64)) + ((((shr64 a0 1) &&& (6148914691236517205 : UInt64)) + (a0 &&& (6148914691236517205 : UInt64))) &&& (3689348814741910323 : UInt64))) 4) + (((shr64 (((shr64 a0 1) &&& (6148914691236517205 : UInt64)) + (a0 &&& (6148914691236517205 : UInt64))) 2) &&& (3689348814741910323 : UInt64)) + ((((shr64 a0 1) &&& (6148914691236517205 : UInt64)) + (a0 &&& (6148914691236517205 : UInt64))) &&& (3689348814741910323 : UInt64)))) &&& (1085102592571150095 : UInt64)) + (shr64 (((shr64 (((shr64 (((shr64 a0 1) &&& (6148914691236517205 : UInt64)) + (a0 &&& (6148914691236517205 : UInt64))) 2) &&& (3689348814741910323 : UInt64)) + ((((shr64 a0 1) &&& (6148914691236517205 : UInt64)) + (a0 &&& (6148914691236517205 : UInt64))) &&& (3689348814741910323 : UInt64))) 4) + (((shr64 (((shr64 a0 1) &&& (6148914691236517205 : UInt64)) + (a0 &&& (6148914691236517205 : UInt64))) 2) &&& (3689348814741910323 : UInt64)) + ((((shr64 a0 1) &&& (6148914691236517205 : UInt64)) + (a0 &&& (6148914691236517205 : UInt64))) &&& (3689348814741910323 : UInt64)))) &&& (1085102592571150095 : UInt64)) 8)) + (shr64 ((((shr64 (((shr64 (((shr64 a0 1) &&& (6148914691236517205 : UInt64)) + (a0 &&& (6148914691236517205 : UInt64))) 2) &&& (3689348814741910323 : UInt64)) + ((((shr64 a0 1) &&& (6148914691236517205 : UInt64)) + (a0 &&& (6148914691236517205 : UInt64))) &&& (3689348814741910323 : UInt64))) 4) + (((shr64 (((shr64 a0 1) &&& (6148914691236517205 : UInt64)) + (a0 &&& (6148914691236517205 : UInt64))) 2) &&& (3689348814741910323 : UInt64)) + ((((shr64 a0 1) &&& (6148914691236517205 : UInt64)) + (a0 &&& (6148914691236517205 : UInt64))) &&& (3689348814741910323 : UInt64)))) &&& (1085102592571150095 : UInt64)) + (shr64 (((shr64 (((shr64 (((shr64 a0 1) &&& (6148914691236517205 : UInt64)) + (a0 &&& (6148914691236517205 : UInt64))) 2) &&& (3689348814741910323 : UInt64)) + ((((shr64 a0 1) &&& (6148914691236517205 : UInt64)) + (a0 &&& (6148914691236517205 : UInt64))) &&& (3689348814741910323 : UInt64))) 4) + (((shr64 (((shr64 a0 1) &&& (6148914691236517205 : UInt64)) + (a0 &&& (6148914691236517205 : UInt64))) 2) &&& (3689348814741910323 : UInt64)) + ((((shr64 a0 1) &&& (6148914691236517205 : UInt64)) + (a0 &&& (6148914691236517205 : UInt64))) &&& (3689348814741910323 : UInt64)))) &&& (1085102592571150095 : UInt64)) 8)) 16))) rfl) ?_
  refine WL.nil ?_
  refine WC.seq ?_
  refine WC.region ?_
  refine WL.ex rfl (ex_move (v := enc64 (((((shr64 (((shr64 (((shr64 a0 1) &&& (6148914691236517205 : UInt64)) + (a0 &&& (6148914691236517205 : UInt64))) 2) &&& (3689348814741910323 : UInt64)) + ((((shr64 a0 1) &&& (6148914691236517205 : UInt64)) + (a0 &&& (6148914691236517205 : UInt64))) &&& (3689348814741910323 : UInt64))) 4) + (((shr64 (((shr64 a0 1) &&& (6148914691236517205 : UInt64)) + (a0 &&& (6148914691236517205 : UInt64))) 2) &&& (3689348814741910323 : UInt64)) + ((((shr64 a0 1) &&& (6148914691236517205 : UInt64)) + (a0 &&& (6148914691236517205 : UInt64))) &&& (3689348814741910323 : UInt64)))) &&& (1085102592571150095 : UInt64)) + (shr64 (((shr64 (((shr64 (((shr64 a0 1) &&& (6148914691236517205 : UInt64)) + (a0 &&& (6148914691236517205 : UInt64))) 2) &&& (3689348814741910323 : UInt64)) + ((((shr64 a0 1) &&& (6148914691236517205 : UInt64)) + (a0 &&& (6148914691236517205 : UInt64))) &&& (3689348814741910323 : UInt64))) 4) + (((shr64 (((shr64 a0 1) &&& (6148914691236517205 : UInt64)) + (a0 &&& (6148914691236517205 : UInt64))) 2) &&& (3689348814741910323 : UInt64)) + ((((shr64 a0 1) &&& (6148914691236517205 : UInt64)) + (a0 &&& (6148914691236517205 : UInt64))) &&& (3689348814741910323 : UInt64)))) &&& (1085102592571150095 : UInt64)) 8)) + (shr64 ((((shr64 (((shr64 (((shr64 a0 1) &&& (6148914691236517205 : UInt64)) + (a0 &&& (6148914691236517205 : UInt64))) 2) &&& (3689348814741910323 : UInt64)) + ((((shr64 a0 1) &&& (6148914691236517205 : UInt64)) + (a0 &&& (6148914691236517205 : UInt64))) &&& (3689348814741910323 : UInt64))) 4) + (((shr64 (((shr64 a0 1) &&& (6148914691236517205 : UInt64)) + (a0 &&& (6148914691236517205 : UInt64))) 2) &&& (3689348814741910323 : UInt64)) + ((((shr64 a0 1) &&& (6148914691236517205 : UInt64)) + (a0 &&& (6148914691236517205 : UInt64))) &&& (3689348814741910323 : UInt64)))) &&& (1085102592571150095 : UInt64)) + (shr64 (((shr64 (((shr64 (((shr64 a0 1) &&& (6148914691236517205 : UInt64)) + (a0 &&& (6148914691236517205 : UInt64))) 2) &&& (3689348814741910323 : UInt64)) + ((((shr64 a0 1) &&& (6148914691236517205 : UInt64)) + (a0 &&& (6148914691236517205 : UInt64))) &&& (3689348814741910323 : UInt64))) 4) + (((shr64 (((shr64 a0 1) &&& (6148914691236517205 : UInt64)) + (a0 &&& (6148914691236517205 : UInt64))) 2) &&& (3689348814741910323 : UInt64)) + ((((shr64 a0 1) &&& (6148914691236517205 : UInt64)) + (a0 &&& (6148914691236517205 : UInt64))) &&& (3689348814741910323 : UInt64)))) &&& (1085102592571150095 : UInt64)) 8)) 16))) rfl) ?_
  refine WL.ex rfl (ex_move (v := enc64 (((((shr64 (((shr64 (((shr64 a0 1) &&& (6148914691236517205 : UInt64)) + (a0 &&& (6148914691236517205 : UInt64))) 2) &&& (3689348814741910323 : UInt64)) + ((((shr64 a0 1) &&& (6148914691236517205 : UInt64)) + (a0 &&& (6148914691236517205 : UInt64))) &&& (3689348814741910323 : UInt64))) 4) + (((shr64 (((shr64 a0 1) &&& (6148914691236517205 : UInt64)) + (a0 &&& (6148914691236517205 : UInt64))) 2) &&& (3689348814741910323 : UInt64)) + ((((shr64 a0 1) &&& (6148914691236517205 : UInt64)) + (a0 &&& (6148914691236517205 : UInt64))) &&& (3689348814741910323 : UInt64)))) &&& (1085102592571150095 : UInt64)) + (shr64 (((shr64 (((shr64 (((shr64 a0 1) &&& (6148914691236517205 : UInt64)) + (a0 &&& (6148914691236517205 : UInt64))) 2) &&& (3689348814741910323 : UInt64)) + ((((shr64 a0 1) &&& (6148914691236517205 : UInt64)) + (a0 &&& (6148914691236517205 : UInt64))) &&& (3689348814741910323 : UInt64))) 4) + (((shr64 (((shr64 a0 1) &&& (6148914691236517205 : UInt64)) + (a0 &&& (6148914691236517205 : UInt64))) 2) &&& (3689348814741910323 : UInt64)) + ((((shr64 a0 1) &&& (6148914691236517205 : UInt64)) + (a0 &&& (6148914691236517205 : UInt64))) &&& (3689348814741910323 : UInt64)))) &&& (1085102592571150095 : UInt64)) 8)) + (shr64 ((((shr64 (((shr64 (((shr64 a0 1) &&& (6148914691236517205 : UInt64)) + (a0 &&& (6148914691236517205 : UInt64))) 2) &&& (3689348814741910323 : UInt64)) + ((((shr64 a0 1) &&& (6148914691236517205 : UInt64)) + (a0 &&& (6148914691236517205 : UInt64))) &&& (3689348814741910323 : UInt64))) 4) + (((shr64 (((shr64 a0 1) &&& (6148914691236517205 : UInt64)) + (a0 &&& (6148914691236517205 : UInt64))) 2) &&& (3689348814741910323 : UInt64)) + ((((shr64 a0 1) &&& (6148914691236517205 : UInt64)) + (a0 &&& (6148914691236517205 : UInt64))) &&& (3689348814741910323 : UInt64)))) &&& (1085102592571150095 : UInt64)) + (shr64 (((shr64 (((shr64 (((shr64 a0 1) &&& (6148914691236517205 : UInt64)) + (a0 &&& (6148914691236517205 : UInt64))) 2) &&& (3689348814741910323 : UInt64)) + ((((shr64 a0 1) &&& (6148914691236517205 : UInt64)) + (a0 &&& (6148914691236517205 : UInt64))) &&& (3689348814741910323 : UInt64))) 4) + (((shr64 (((shr64 a0 1) &&& (6148914691236517205 : UInt64)) + (a0 &&& (6148914691236517205 : UInt64))) 2) &&& (3689348814741910323 : UInt64)) + ((((shr64 a0 1) &&& (6148914691236517205 : UInt64)) + (a0 &&& (6148914691236517205 : UInt64))) &&& (3689348814741910323 : UInt64)))) &&& (1085102592571150095 : UInt64)) 8)) 16))) rfl) ?_
  refine WL.ex rfl (ex_bin (a := enc64 (((((shr64 (((shr64 (((shr64 a0 1) &&& (6148914691236517205 : UInt64)) + (a0 &&& (6148914691236517205 : UInt64))) 2) &&& (3689348814741910323 : UInt64)) + ((((shr64 a0 1) &&& (6148914691236517205 : UInt64)) + (a0 &&& (6148914691236517205 : UInt64))) &&& (3689348814741910323 : UInt64))) 4) + (((shr64 (((shr64 a0 1) &&& (6148914691236517205 : UInt64)) + (a0 &&& (6148914691236517205 : UInt64))) 2) &&& (3689348814741910323 : UInt64)) + ((((shr64 a0 1) &&& (6148914691236517205 : UInt64)) + (a0 &&& (6148914691236517205 : UInt64))) &&& (3689348814741910323 : UInt64)))) &&& (1085102592571150095 : UInt64)) + (shr64 (((shr64 (((shr64 (((shr64 a0 1) &&& (6148914691236517205 : UInt64)) + (a0 &&& (6148914691236517205 : UInt64))) 2) &&& (3689348814741910323 : UInt64)) + ((((shr64 a0 1) &&& (6148914691236517205 : UInt64)) + (a0 &&& (6148914691236517205 : UInt64))) &&& (3689348814741910323 : UInt64))) 4) + (((shr64 (((shr64 a0 1) &&& (6148914691236517205 : UInt64)) + (a0 &&& (6148914691236517205 : UInt64))) 2) &&& (3689348814741910323 : UInt64)) + ((((shr64 a0 1) &&& (6148914691236517205 : UInt64)) + (a0 &&& (6148914691236517205 : UInt64))) &&& (3689348814741910323 : UInt64)))) &&& (1085102592571150095 : UInt64)) 8)) + (shr64 ((((shr64 (((shr64 (((shr64 a0 1) &&& (6148914691236517205 : UInt64)) + (a0 &&& (6148914691236517205 : UInt64))) 2) &&& (3689348814741910323 : UInt64)) + ((((shr64 a0 1) &&& (6148914691236517205 : UInt64)) + (a0 &&& (6148914691236517205 : UInt64))) &&& (3689348814741910323 : UInt64))) 4) + (((shr64 (((shr64 a0 1) &&& (6148914691236517205 : UInt64)) + (a0 &&& (6148914691236517205 : UInt64))) 2) &&& (3689348814741910323 : UInt64)) + ((((shr64 a0 1) &&& (6148914691236517205 : UInt64)) + (a0 &&& (6148914691236517205 : UInt64))) &&& (3689348814741910323 : UInt64)))) &&& (1085102592571150095 : UInt64)) + (shr64 (((shr64 (((shr64 (((shr64 a0 1) &&& (6148914691236517205 : UInt64)) + (a0 &&& (6148914691236517205 : UInt64))) 2) &&& (3689348814741910323 : UInt64)) + ((((shr64 a0 1) &&& (6148914691236517205 : UInt64)) + (a0 &&& (6148914691236517205 : UInt64))) &&& (3689348814741910323 : UInt64))) 4) + (((shr64 (((shr64 a0 1) &&& (6148914691236517205 : UInt64)) + (a0 &&& (6148914691236517205 : UInt64))) 2) &&& (3689348814741910323 : UInt64)) + ((((shr64 a0 1) &&& (6148914691236517205 : UInt64)) + (a0 &&& (6148914691236517205 : UInt64))) &&& (3689348814741910323 : UInt64)))) &&& (1085102592571150095 : UInt64)) 8)) 16))) (b := enc64 (32 : UInt64)) (v := enc64 (shr64 (((((shr64 (((shr64 (((shr64 a0 1) &&& (6148914691236517205 : UInt64)) + (a0 &&& (6148914691236517205 : UInt64))) 2) &&& (3689348814741910323 : UInt64)) + ((((shr64 a0 1) &&& (6148914691236517205 : UInt64)) + (a0 &&& (6148914691236517205 : UInt64))) &&& (3689348814741910323 : UInt64))) 4) + (((shr64 (((shr64 a0 1) &&& (6148914691236517205 : UInt64)) + (a0 &&& (6148914691236517205 : UInt64))) 2) &&& (3689348814741910323 : UInt64)) + ((((shr64 a0 1) &&& (6148914691236517205 : UInt64)) + (a0 &&& (6148914691236517205 : UInt64))) &&& (3689348814741910323 : UInt64)))) &&& (1085102592571150095 : UInt64)) + (shr64 (((shr64 (((shr64 (((shr64 a0 1) &&& (6148914691236517205 : UInt64)) + (a0 &&& (6148914691236517205 : UInt64))) 2) &&& (3689348814741910323 : UInt64)) + ((((shr64 a0 1) &&& (6148914691236517205 : UInt64)) + (a0 &&& (6148914691236517205 : UInt64))) &&& (3689348814741910323 : UInt64))) 4) + (((shr64 (((shr64 a0 1) &&& (6148914691236517205 : UInt64)) + (a0 &&& (6148914691236517205 : UInt64))) 2) &&& (3689348814741910323 : UInt64)) + ((((shr64 a0 1) &&& (6148914691236517205 : UInt64)) + (a0 &&& (6148914691236517205 : UInt64))) &&& (3689348814741910323 : UInt64)))) &&& (1085102592571150095 : UInt64)) 8)) + (shr64 ((((shr64 (((shr64 (((shr64 a0 1) &&& (6148914691236517205 : UInt64)) + (a0 &&& (6148914691236517205 : UInt64))) 2) &&& (3689348814741910323 : UInt64)) + ((((shr64 a0 1) &&& (6148914691236517205 : UInt64)) + (a0 &&& (6148914691236517205 : UInt64))) &&& (3689348814741910323 : UInt64))) 4) + (((shr64 (((shr64 a0 1) &&& (6148914691236517205 : UInt64)) + (a0 &&& (6148914691236517205 : UInt64))) 2) &&& (3689348814741910323 : UInt64)) + ((((shr64 a0 1) &&& (6148914691236517205 : UInt64)) + (a0 &&& (6148914691236517205 : UInt64))) &&& (3689348814741910323 : UInt64)))) &&& (1085102592571150095 : UInt64)) + (shr64 (((shr64 (((shr64 (((shr64 a0 1) &&& (6148914691236517205 : UInt64)) + (a0 &&& (6148914691236517205 : UInt64))) 2) &&& (3689348814741910323 : UInt64)) + ((((shr64 a0 1) &&& (6148914691236517205 : UInt64)) + (a0 &&& (6148914691236517205 : UInt64))) &&& (3689348814741910323 : UInt64))) 4) + (((shr64 (((shr64 a0 1) &&& (6148914691236517205 : UInt64)) + (a0 &&& (6148914691236517205 : UInt64))) 2) &&& (3689348814741910323 : UInt64)) + ((((shr64 a0 1) &&& (6148914691236517205 : UInt64)) + (a0 &&& (6148914691236517205 : UInt64))) &&& (3689348814741910323 : UInt64)))) &&& (1085102592571150095 : UInt64)) 8)) 16)) 32)) rfl rfl (bin_shr_u64n (n := 32))) ?_
  refine WL.ex rfl (ex_bin (a := enc64 (((((shr64 (((shr64 (((shr64 a0 1) &&& (6148914691236517205 : UInt64)) + (a0 &&& (6148914691236517205 : UInt64))) 2) &&& (3689348814741910323 : UInt64)) + ((((shr64 a0 1) &&& (6148914691236517205 : UInt64)) + (a0 &&& (6148914691236517205 : UInt64))) &&& (3689348814741910323 : UInt64))) 4) + (((shr64 (((shr64 a0 1) &&& (6148914691236517205 : UInt64)) + (a0 &&& (6148914691236517205 : UInt64))) 2) &&& (3689348814741910323 : UInt64)) + ((((shr64 a0 1) &&& (6148914691236517205 : UInt64)) + (a0 &&& (6148914691236517205 : UInt64))) &&& (3689348814741910323 : UInt64)))) &&& (1085102592571150095 : UInt64)) + (shr64 (((shr64 (((shr64 (((shr64 a0 1) &&& (6148914691236517205 : UInt64)) + (a0 &&& (6148914691236517205 : UInt64))) 2) &&& (3689348814741910323 : UInt64)) + ((((shr64 a0 1) &&& (6148914691236517205 : UInt64)) + (a0 &&& (6148914691236517205 : UInt64))) &&& (3689348814741910323 : UInt64))) 4) + (((shr64 (((shr64 a0 1) &&& (6148914691236517205 : UInt64)) + (a0 &&& (6148914691236517205 : UInt64))) 2) &&& (3689348814741910323 : UInt64)) + ((((shr64 a0 1) &&& (6148914691236517205 : UInt64)) + (a0 &&& (6148914691236517205 : UInt64))) &&& (3689348814741910323 : UInt64)))) &&& (1085102592571150095 : UInt64)) 8)) + (shr64 ((((shr64 (((shr64 (((shr64 a0 1) &&& (6148914691236517205 : UInt64)) + (a0 &&& (6148914691236517205 : UInt64))) 2) &&& (3689348814741910323 : UInt64)) + ((((shr64 a0 1) &&& (6148914691236517205 : UInt64)) + (a0 &&& (6148914691236517205 : UInt64))) &&& (3689348814741910323 : UInt64))) 4) + (((shr64 (((shr64 a0 1) &&& (6148914691236517205 : UInt64)) + (a0 &&& (6148914691236517205 : UInt64))) 2) &&& (3689348814741910323 : UInt64)) + ((((shr64 a0 1) &&& (6148914691236517205 : UInt64)) + (a0 &&& (6148914691236517205 : UInt64))) &&& (3689348814741910323 : UInt64)))) &&& (1085102592571150095 : UInt64)) + (shr64 (((shr64 (((shr64 (((shr64 a0 1) &&& (6148914691236517205 : UInt64)) + (a0 &&& (6148914691236517205 : UInt64))) 2) &&& (3689348814741910323 : UInt64)) + ((((shr64 a0 1) &&& (6148914691236517205 : UInt64)) + (a0 &&& (6148914691236517205 : UInt64))) &&& (3689348814741910323 : UInt64))) 4) + (((shr64 (((shr64 a0 1) &&& (6148914691236517205 : UInt64)) + (a0 &&& (6148914691236517205 : UInt64))) 2) &&& (3689348814741910323 : UInt64)) + ((((shr64 a0 1) &&& (6148914691236517205 : UInt64)) + (a0 &&& (6148914691236517205 : UInt64))) &&& (3689348814741910323 : UInt64)))) &&& (1085102592571150095 : UInt64)) 8)) 16))) (b := enc64 (shr64 (((((shr64 (((shr64 (((shr64 a0 1) &&& (6148914691236517205 : UInt64)) + (a0 &&& (6148914691236517205 : UInt64))) 2) &&& (3689348814741910323 : UInt64)) + ((((shr64 a0 1) &&& (6148914691236517205 : UInt64)) + (a0 &&& (6148914691236517205 : UInt64))) &&& (3689348814741910323 : UInt64))) 4) + (((shr64 (((shr64 a0 1) &&& (6148914691236517205 : UInt64)) + (a0 &&& (6148914691236517205 : UInt64))) 2) &&& (3689348814741910323 : UInt64)) + ((((shr64 a0 1) &&& (6148914691236517205 : UInt64)) + (a0 &&& (6148914691236517205 : UInt64))) &&& (3689348814741910323 : UInt64)))) &&& (1085102592571150095 : UInt64)) + (shr64 (((shr64 (((shr64 (((shr64 a0 1) &&& (6148914691236517205 : UInt64)) + (a0 &&& (6148914691236517205 : UInt64))) 2) &&& (3689348814741910323 : UInt64)) + ((((shr64 a0 1) &&& (6148914691236517205 : UInt64)) + (a0 &&& (6148914691236517205 : UInt64))) &&& (3689348814741910323 : UInt64))) 4) + (((shr64 (((shr64 a0 1) &&& (6148914691236517205 : UInt64)) + (a0 &&& (6148914691236517205 : UInt64))) 2) &&& (3689348814741910323 : UInt64)) + ((((shr64 a0 1) &&& (6148914691236517205 : UInt64)) + (a0 &&& (6148914691236517205 : UInt64))) &&& (3689348814741910323 : UInt64)))) &&& (1085102592571150095 : UInt64)) 8)) + (shr64 ((((shr64 (((shr64 (((shr64 a0 1) &&& (6148914691236517205 : UInt64)) + (a0 &&& (6148914691236517205 : UInt64))) 2) &&& (3689348814741910323 : UInt64)) + ((((shr64 a0 1) &&& (6148914691236517205 : UInt64)) + (a0 &&& (6148914691236517205 : UInt64))) &&& (3689348814741910323 : UInt64))) 4) + (((shr64 (((shr64 a0 1) &&& (6148914691236517205 : UInt64)) + (a0 &&& (6148914691236517205 : UInt64))) 2) &&& (3689348814741910323 : UInt64)) + ((((shr64 a0 1) &&& (6148914691236517205 : UInt64)) + (a0 &&& (6148914691236517205 : UInt64))) &&& (3689348814741910323 : UInt64)))) &&& (1085102592571150095 : UInt64)) + (shr64 (((shr64 (((shr64 (((shr64 a0 1) &&& (6148914691236517205 : UInt64)) + (a0 &&& (6148914691236517205 : UInt64))) 2) &&& (3689348814741910323 : UInt64)) + ((((shr64 a0 1) &&& (6148914691236517205 : UInt64)) + (a0 &&& (6148914691236517205 : UInt64))) &&& (3689348814741910323 : UInt64))) 4) + (((shr64 (((shr64 a0 1) &&& (6148914691236517205 : UInt64)) + (a0 &&& (6148914691236517205 : UInt64))) 2) &&& (3689348814741910323 : UInt64)) + ((((shr64 a0 1) &&& (6148914691236517205 : UInt64)) + (a0 &&& (6148914691236517205 : UInt64))) &&& (3689348814741910323 : UInt64)))) &&& (1085102592571150095 : UInt64)) 8)) 16)) 32)) (v := enc64 ((((((shr64 (((shr64 (((shr64 a0 1) &&& (6148914691236517205 : UInt64)) + (a0 &&& (6148914691236517205 : UInt64))) 2) &&& (3689348814741910323 : UInt64)) + ((((shr64 a0 1) &&& (6148914691236517205 : UInt64)) + (a0 &&& (6148914691236517205 : UInt64))) &&& (3689348814741910323 : UInt64))) 4) + (((shr64 (((shr64 a0 1) &&& (6148914691236517205 : UInt64)) + (a0 &&& (6148914691236517205 : UInt64))) 2) &&& (3689348814741910323 : UInt64)) + ((((shr64 a0 1) &&& (6148914691236517205 : UInt64)) + (a0 &&& (6148914691236517205 : UInt64))) &&& (3689348814741910323 : UInt64)))) &&& (1085102592571150095 : UInt64)) + (shr64 (((shr64 (((shr64 (((shr64 a0 1) &&& (6148914691236517205 : UInt64)) + (a0 &&& (6148914691236517205 : UInt64))) 2) &&& (3689348814741910323 : UInt64)) + ((((shr64 a0 1) &&& (6148914691236517205 : UInt64)) + (a0 &&& (6148914691236517205 : UInt64))) &&& (3689348814741910323 : UInt64))) 4) + (((shr64 (((shr64 a0 1) &&& (6148914691236517205 : UInt64)) + (a0 &&& (6148914691236517205 : UInt64))) 2) &&& (3689348814741910323 : UInt64)) + ((((shr64 a0 1) &&& (6148914691236517205 : UInt64)) + (a0 &&& (6148914691236517205 : UInt64))) &&& (3689348814741910323 : UInt64)))) &&& (1085102592571150095 : UInt64)) 8)) + (shr64 ((((shr64 (((shr64 (((shr64 a0 1) &&& (6148914691236517205 : UInt64)) + (a0 &&& (6148914691236517205 : UInt64))) 2) &&& (3689348814741910323 : UInt64)) + ((((shr64 a0 1) &&& (6148914691236517205 : UInt64)) + (a0 &&& (6148914691236517205 : UInt64))) &&& (3689348814741910323 : UInt64))) 4) + (((shr64 (((shr64 a0 1) &&& (6148914691236517205 : UInt64)) + (a0 &&& (6148914691236517205 : UInt64))) 2) &&& (3689348814741910323 : UInt64)) + ((((shr64 a0 1) &&& (6148914691236517205 : UInt64)) + (a0 &&& (6148914691236517205 : UInt64))) &&& (3689348814741910323 : UInt64)))) &&& (1085102592571150095 : UInt64)) + (shr64 (((shr64 (((shr64 (((shr64 a0 1) &&& (6148914691236517205 : UInt64)) + (a0 &&& (6148914691236517205 : UInt64))) 2) &&& (3689348814741910323 : UInt64)) + ((((shr64 a0 1) &&& (6148914691236517205 : UInt64)) + (a0 &&& (6148914691236517205 : UInt64))) &&& (3689348814741910323 : UInt64))) 4) + (((shr64 (((shr64 a0 1) &&& (6148914691236517205 : UInt64)) + (a0 &&& (6148914691236517205 : UInt64))) 2) &&& (3689348814741910323 : UInt64)) + ((((shr64 a0 1) &&& (6148914691236517205 : UInt64)) + (a0 &&& (6148914691236517205 : UInt64))) &&& (3689348814741910323 : UInt64)))) &&& (1085102592571150095 : UInt64)) 8)) 16)) + (shr64 (((((shr64 (((shr64 (((shr64 a0 1) &&& (6148914691236517205 : UInt64)) + (a0 &&& (6148914691236517205 : UInt64))) 2) &&& (3689348814741910323 : UInt64)) + ((((shr64 a0 1) &&& (6148914691236517205 : UInt64)) + (a0 &&& (6148914691236517205 : UInt64))) &&& (3689348814741910323 : UInt64))) 4) + (((shr64 (((shr64 a0 1) &&& (6148914691236517205 : UInt64)) + (a0 &&& (6148914691236517205 : UInt64))) 2) &&& (3689348814741910323 : UInt64)) + ((((shr64 a0 1) &&& (6148914691236517205 : UInt64)) + (a0 &&& (6148914691236517205 : UInt64))) &&& (3689348814741910323 : UInt64)))) &&& (1085102592571150095 : UInt64)) + (shr64 (((shr64 (((shr64 (((shr64 a0 1) &&& (6148914691236517205 : UInt64)) + (a0 &&& (6148914691236517205 : UInt64))) 2) &&& (3689348814741910323 : UInt64)) + ((((shr64 a0 1) &&& (6148914691236517205 : UInt64)) + (a0 &&& (6148914691236517205 : UInt64))) &&& (3689348814741910323 : UInt64))) 4) + (((shr64 (((shr64 a0 1) &&& (6148914691236517205 : UInt64)) + (a0 &&& (6148914691236517205 : UInt64))) 2) &&& (3689348814741910323 : UInt64)) + ((((shr64 a0 1) &&& (6148914691236517205 : UInt64)) + (a0 &&& (6148914691236517205 : UInt64))) &&& (3689348814741910323 : UInt64)))) &&& (1085102592571150095 : UInt64)) 8)) + (shr64 ((((shr64 (((shr64 (((shr64 a0 1) &&& (6148914691236517205 : UInt64)) + (a0 &&& (6148914691236517205 : UInt64))) 2) &&& (3689348814741910323 : UInt64)) + ((((shr64 a0 1) &&& (6148914691236517205 : UInt64)) + (a0 &&& (6148914691236517205 : UInt64))) &&& (3689348814741910323 : UInt64))) 4) + (((shr64 (((shr64 a0 1) &&& (6148914691236517205 : UInt64)) + (a0 &&& (6148914691236517205 : UInt64))) 2) &&& (3689348814741910323 : UInt64)) + ((((shr64 a0 1) &&& (6148914691236517205 : UInt64)) + (a0 &&& (6148914691236517205 : UInt64))) &&& (3689348814741910323 : UInt64)))) &&& (1085102592571150095 : UInt64)) + (shr64 (((shr64 (((shr64 (((shr64 a0 1) &&& (6148914691236517205 : UInt64)) + (a0 &&& (6148914691236517205 : UInt64))) 2) &&& (3689348814741910323 : UInt64)) + ((((shr64 a0 1) &&& (6148914691236517205 : UInt64)) + (a0 &&& (6148914691236517205 : UInt64))) &&& (3689348814741910323 : UInt64))) 4) + (((shr64 (((shr64 a0 1) &&& (6148914691236517205 : UInt64)) + (a0 &&& (6148914691236517205 : UInt64))) 2) &&& (3689348814741910323 : UInt64)) + ((((shr64 a0 1) &&& (6148914691236517205 : UInt64)) + (a0 &&& (6148914691236517205 : UInt64))) &&& (3689348814741910323 : UInt64)))) &&& (1085102592571150095 : UInt64)) 8)) 16)) 32))) rfl rfl bin_add_u64) ?_
  refine WL.ex rfl (ex_assign (v := enc64 ((((((shr64 (((shr64 (((shr64 a0 1) &&& (6148914691236517205 : UInt64)) + (a0 &&& (6148914691236517205 : UInt64))) 2) &&& (3689348814741910323 : UInt64)) + ((((shr64 a0 1) &&& (6148914691236517205 : UInt64)) + (a0 &&& (6148914691236517205 : UInt64))) &&& (3689348814741910323 : UInt64))) 4) + (((shr64 (((shr64 a0 1) &&& (6148914691236517205 : UInt64)) + (a0 &&& (6148914691236517205 : UInt64))) 2) &&& (3689348814741910323 : UInt64)) + ((((shr64 a0 1) &&& (6148914691236517205 : UInt64)) + (a0 &&& (6148914691236517205 : UInt64))) &&& (3689348814741910323 : UInt64)))) &&& (1085102592571150095 : UInt64)) + (shr64 (((shr64 (((shr64 (((shr64 a0 1) &&& (6148914691236517205 : UInt64)) + (a0 &&& (6148914691236517205 : UInt64))) 2) &&& (3689348814741910323 : UInt64)) + ((((shr64 a0 1) &&& (6148914691236517205 : UInt64)) + (a0 &&& (6148914691236517205 : UInt64))) &&& (3689348814741910323 : UInt64))) 4) + (((shr64 (((shr64 a0 1) &&& (6148914691236517205 : UInt64)) + (a0 &&& (6148914691236517205 : UInt64))) 2) &&& (3689348814741910323 : UInt64)) + ((((shr64 a0 1) &&& (6148914691236517205 : UInt64)) + (a0 &&& (6148914691236517205 : UInt64))) &&& (3689348814741910323 : UInt64)))) &&& (1085102592571150095 : UInt64)) 8)) + (shr64 ((((shr64 (((shr64 (((shr64 a0 1) &&& (6148914691236517205 : UInt64)) + (a0 &&& (6148914691236517205 : UInt64))) 2) &&& (3689348814741910323 : UInt64)) + ((((shr64 a0 1) &&& (6148914691236517205 : UInt64)) + (a0 &&& (6148914691236517205 : UInt64))) &&& (3689348814741910323 : UInt64))) 4) + (((shr64 (((shr64 a0 1) &&& (6148914691236517205 : UInt64)) + (a0 &&& (6148914691236517205 : UInt64))) 2) &&& (3689348814741910323 : UInt64)) + ((((shr64 a0 1) &&& (6148914691236517205 : UInt64)) + (a0 &&& (6148914691236517205 : UInt64))) &&& (3689348814741910323 : UInt64)))) &&& (1085102592571150095 : UInt64)) + (shr64 (((shr64 (((shr64 (((shr64 a0 1) &&& (6148914691236517205 : UInt64)) + (a0 &&& (6148914691236517205 : UInt64))) 2) &&& (3689348814741910323 : UInt64)) + ((((shr64 a0 1) &&& (6148914691236517205 : UInt64)) + (a0 &&& (6148914691236517205 : UInt64))) &&& (3689348814741910323 : UInt64))) 4) + (((shr64 (((shr64 a0 1) &&& (6148914691236517205 : UInt64)) + (a0 &&& (6148914691236517205 : UInt64))) 2) &&& (3689348814741910323 : UInt64)) + ((((shr64 a0 1) &&& (6148914691236517205 : UInt64)) + (a0 &&& (6148914691236517205 : UInt64))) &&& (3689348814741910323 : UInt64)))) &&& (1085102592571150095 : UInt64)) 8)) 16)) + (shr64 (((((shr64 (((shr64 (((shr64 a0 1) &&& (6148914691236517205 : UInt64)) + (a0 &&& (6148914691236517205 : UInt64))) 2) &&& (3689348814741910323 : UInt64)) + ((((shr64 a0 1) &&& (6148914691236517205 : UInt64)) + (a0 &&& (6148914691236517205 : UInt64))) &&& (3689348814741910323 : UInt64))) 4) + (((shr64 (((shr64 a0 1) &&& (6148914691236517205 : UInt64)) + (a0 &&& (6148914691236517205 : UInt64))) 2) &&& (3689348814741910323 : UInt64)) + ((((shr64 a0 1) &&& (6148914691236517205 : UInt64)) + (a0 &&& (6148914691236517205 : UInt64))) &&& (3689348814741910323 : UInt64)))) &&& (1085102592571150095 : UInt64)) + (shr64 (((shr64 (((shr64 (((shr64 a0 1) &&& (6148914691236517205 : UInt64)) + (a0 &&& (6148914691236517205 : UInt64))) 2) &&& (3689348814741910323 : UInt64)) + ((((shr64 a0 1) &&& (6148914691236517205 : UInt64)) + (a0 &&& (6148914691236517205 : UInt64))) &&& (3689348814741910323 : UInt64))) 4) + (((shr64 (((shr64 a0 1) &&& (6148914691236517205 : UInt64)) + (a0 &&& (6148914691236517205 : UInt64))) 2) &&& (3689348814741910323 : UInt64)) + ((((shr64 a0 1) &&& (6148914691236517205 : UInt64)) + (a0 &&& (6148914691236517205 : UInt64))) &&& (3689348814741910323 : UInt64)))) &&& (1085102592571150095 : UInt64)) 8)) + (shr64 ((((shr64 (((shr64 (((shr64 a0 1) &&& (6148914691236517205 : UInt64)) + (a0 &&& (6148914691236517205 : UInt64))) 2) &&& (3689348814741910323 : UInt64)) + ((((shr64 a0 1) &&& (6148914691236517205 : UInt64)) + (a0 &&& (6148914691236517205 : UInt64))) &&& (3689348814741910323 : UInt64))) 4) + (((shr64 (((shr64 a0 1) &&& (6148914691236517205 : UInt64)) + (a0 &&& (6148914691236517205 : UInt64))) 2) &&& (3689348814741910323 : UInt64)) + ((((shr64 a0 1) &&& (6148914691236517205 : UInt64)) + (a0 &&& (6148914691236517205 : UInt64))) &&& (3689348814741910323 : UInt64)))) &&& (1085102592571150095 : UInt64)) + (shr64 (((shr64 (((shr64 (((shr64 a0 1) &&& (6148914691236517205 : UInt64)) + (a0 &&& (6148914691236517205 : UInt64))) 2) &&& (3689348814741910323 : UInt64)) + ((((shr64 a0 1) &&& (6148914691236517205 : UInt64)) + (a0 &&& (6148914691236517205 : UInt64))) &&& (3689348814741910323 : UInt64))) 4) + (((shr64 (((shr64 a0 1) &&& (6148914691236517205 : UInt64)) + (a0 &&& (6148914691236517205 : UInt64))) 2) &&& (3689348814741910323 : UInt64)) + ((((shr64 a0 1) &&& (6148914691236517205 : UInt64)) + (a0 &&& (6148914691236517205 : UInt64))) &&& (3689348814741910323 : UInt64)))) &&& (1085102592571150095 : UInt64)) 8)) 16)) 32))) rfl) ?_
  refine WL.nil ?_
  refine WC.seq ?_
  refine WC.region ?_
  refine WL.ex rfl (ex_move (v := enc64 ((((((shr64 (((shr64 (((shr64 a0 1) &&& (6148914691236517205 : UInt64)) + (a0 &&& (6148914691236517205 : UInt64))) 2) &&& (3689348814741910323 : UInt64)) + ((((shr64 a0 1) &&& (6148914691236517205 : UInt64)) + (a0 &&& (6148914691236517205 : UInt64))) &&& (3689348814741910323 : UInt64))) 4) + (((shr64 (((shr64 a0 1) &&& (6148914691236517205 : UInt64)) + (a0 &&& (6148914691236517205 : UInt64))) 2) &&& (3689348814741910323 : UInt64)) + ((((shr64 a0 1) &&& (6148914691236517205 : UInt64)) + (a0 &&& (6148914691236517205 : UInt64))) &&& (3689348814741910323 : UInt64)))) &&& (1085102592571150095 : UInt64)) + (shr64 (((shr64 (((shr64 (((shr64 a0 1) &&& (6148914691236517205 : UInt64)) + (a0 &&& (6148914691236517205 : UInt64))) 2) &&& (3689348814741910323 : UInt64)) + ((((shr64 a0 1) &&& (6148914691236517205 : UInt64)) + (a0 &&& (6148914691236517205 : UInt64))) &&& (3689348814741910323 : UInt64))) 4) + (((shr64 (((shr64 a0 1) &&& (6148914691236517205 : UInt64)) + (a0 &&& (6148914691236517205 : UInt64))) 2) &&& (3689348814741910323 : UInt64)) + ((((shr64 a0 1) &&& (6148914691236517205 : UInt64)) + (a0 &&& (6148914691236517205 : UInt64))) &&& (3689348814741910323 : UInt64)))) &&& (1085102592571150095 : UInt64)) 8)) + (shr64 ((((shr64 (((shr64 (((shr64 a0 1) &&& (6148914691236517205 : UInt64)) + (a0 &&& (6148914691236517205 : UInt64))) 2) &&& (3689348814741910323 : UInt64)) + ((((shr64 a0 1) &&& (6148914691236517205 : UInt64)) + (a0 &&& (6148914691236517205 : UInt64))) &&& (3689348814741910323 : UInt64))) 4) + (((shr64 (((shr64 a0 1) &&& (6148914691236517205 : UInt64)) + (a0 &&& (6148914691236517205 : UInt64))) 2) &&& (3689348814741910323 : UInt64)) + ((((shr64 a0 1) &&& (6148914691236517205 : UInt64)) + (a0 &&& (6148914691236517205 : UInt64))) &&& (3689348814741910323 : UInt64)))) &&& (1085102592571150095 : UInt64)) + (shr64 (((shr64 (((shr64 (((shr64 a0 1) &&& (6148914691236517205 : UInt64)) + (a0 &&& (6148914691236517205 : UInt64))) 2) &&& (3689348814741910323 : UInt64)) + ((((shr64 a0 1) &&& (6148914691236517205 : UInt64)) + (a0 &&& (6148914691236517205 : UInt64))) &&& (3689348814741910323 : UInt64))) 4) + (((shr64 (((shr64 a0 1) &&& (6148914691236517205 : UInt64)) + (a0 &&& (6148914691236517205 : UInt64))) 2) &&& (3689348814741910323 : UInt64)) + ((((shr64 a0 1) &&& (6148914691236517205 : UInt64)) + (a0 &&& (6148914691236517205 : UInt64))) &&& (3689348814741910323 : UInt64)))) &&& (1085102592571150095 : UInt64)) 8)) 16)) + (shr64 (((((shr64 (((shr64 (((shr64 a0 1) &&& (6148914691236517205 : UInt64)) + (a0 &&& (6148914691236517205 : UInt64))) 2) &&& (3689348814741910323 : UInt64)) + ((((shr64 a0 1) &&& (6148914691236517205 : UInt64)) + (a0 &&& (6148914691236517205 : UInt64))) &&& (3689348814741910323 : UInt64))) 4) + (((shr64 (((shr64 a0 1) &&& (6148914691236517205 : UInt64)) + (a0 &&& (6148914691236517205 : UInt64))) 2) &&& (3689348814741910323 : UInt64)) + ((((shr64 a0 1) &&& (6148914691236517205 : UInt64)) + (a0 &&& (6148914691236517205 : UInt64))) &&& (3689348814741910323 : UInt64)))) &&& (1085102592571150095 : UInt64)) + (shr64 (((shr64 (((shr64 (((shr64 a0 1) &&& (6148914691236517205 : UInt64)) + (a0 &&& (6148914691236517205 : UInt64))) 2) &&& (3689348814741910323 : UInt64)) + ((((shr64 a0 1) &&& (6148914691236517205 : UInt64)) + (a0 &&& (6148914691236517205 : UInt64))) &&& (3689348814741910323 : UInt64))) 4) + (((shr64 (((shr64 a0 1) &&& (6148914691236517205 : UInt64)) + (a0 &&& (6148914691236517205 : UInt64))) 2) &&& (3689348814741910323 : UInt64)) + ((((shr64 a0 1) &&& (6148914691236517205 : UInt64)) + (a0 &&& (6148914691236517205 : UInt64))) &&& (3689348814741910323 : UInt64)))) &&& (1085102592571150095 : UInt64)) 8)) + (shr64 ((((shr64 (((shr64 (((shr64 a0 1) &&& (6148914691236517205 : UInt64)) + (a0 &&& (6148914691236517205 : UInt64))) 2) &&& (3689348814741910323 : UInt64)) + ((((shr64 a0 1) &&& (6148914691236517205 : UInt64)) + (a0 &&& (6148914691236517205 : UInt64))) &&& (3689348814741910323 : UInt64))) 4) + (((shr64 (((shr64 a0 1) &&& (6148914691236517205 : UInt64)) + (a0 &&& (6148914691236517205 : UInt64))) 2) &&& (3689348814741910323 : UInt64)) + ((((shr64 a0 1) &&& (6148914691236517205 : UInt64)) + (a0 &&& (6148914691236517205 : UInt64))) &&& (3689348814741910323 : UInt64)))) &&& (1085102592571150095 : UInt64)) + (shr64 (((shr64 (((shr64 (((shr64 a0 1) &&& (6148914691236517205 : UInt64)) + (a0 &&& (6148914691236517205 : UInt64))) 2) &&& (3689348814741910323 : UInt64)) + ((((shr64 a0 1) &&& (6148914691236517205 : UInt64)) + (a0 &&& (6148914691236517205 : UInt64))) &&& (3689348814741910323 : UInt64))) 4) + (((shr64 (((shr64 a0 1) &&& (6148914691236517205 : UInt64)) + (a0 &&& (6148914691236517205 : UInt64))) 2) &&& (3689348814741910323 : UInt64)) + ((((shr64 a0 1) &&& (6148914691236517205 : UInt64)) + (a0 &&& (6148914691236517205 : UInt64))) &&& (3689348814741910323 : UInt64)))) &&& (1085102592571150095 : UInt64)) 8)) 16)) 32))) rfl) ?_
  refine WL.ex rfl (ex_conv64 (k := .u64) (a := (((((((shr64 (((shr64 (((shr64 a0 1) &&& (6148914691236517205 : UInt64)) + (a0 &&& (6148914691236517205 : UInt64))) 2) &&& (3689348814741910323 : UInt64)) + ((((shr64 a0 1) &&& (6148914691236517205 : UInt64)) + (a0 &&& (6148914691236517205 : UInt64))) &&& (3689348814741910323 : UInt64))) 4) + (((shr64 (((shr64 a0 1) &&& (6148914691236517205 : UInt64)) + (a0 &&& (6148914691236517205 : UInt64))) 2) &&& (3689348814741910323 : UInt64)) + ((((shr64 a0 1) &&& (6148914691236517205 : UInt64)) + (a0 &&& (6148914691236517205 : UInt64))) &&& (3689348814741910323 : UInt64)))) &&& (1085102592571150095 : UInt64)) + (shr64 (((shr64 (((shr64 (((shr64 a0 1) &&& (6148914691236517205 : UInt64)) + (a0 &&& (6148914691236517205 : UInt64))) 2) &&& (3689348814741910323 : UInt64)) + ((((shr64 a0 1) &&& (6148914691236517205 : UInt64)) + (a0 &&& (6148914691236517205 : UInt64))) &&& (3689348814741910323 : UInt64))) 4) + (((shr64 (((shr64 a0 1) &&& (6148914691236517205 : UInt64)) + (a0 &&& (6148914691236517205 : UInt64))) 2) &&& (3689348814741910323 : UInt64)) + ((((shr64 a0 1) &&& (6148914691236517205 : UInt64)) + (a0 &&& (6148914691236517205 : UInt64))) &&& (3689348814741910323 : UInt64)))) &&& (1085102592571150095 : UInt64)) 8)) + (shr64 ((((shr64 (((shr64 (((shr64 a0 1) &&& (6148914691236517205 : UInt64)) + (a0 &&& (6148914691236517205 : UInt64))) 2) &&& (3689348814741910323 : UInt64)) + ((((shr64 a0 1) &&& (6148914691236517205 : UInt64)) + (a0 &&& (6148914691236517205 : UInt64))) &&& (3689348814741910323 : UInt64))) 4) + (((shr64 (((shr64 a0 1) &&& (6148914691236517205 : UInt64)) + (a0 &&& (6148914691236517205 : UInt64))) 2) &&& (3689348814741910323 : UInt64)) + ((((shr64 a0 1) &&& (6148914691236517205 : UInt64)) + (a0 &&& (6148914691236517205 : UInt64))) &&& (3689348814741910323 : UInt64)))) &&& (1085102592571150095 : UInt64)) + (shr64 (((shr64 (((shr64 (((shr64 a0 1) &&& (6148914691236517205 : UInt64)) + (a0 &&& (6148914691236517205 : UInt64))) 2) &&& (3689348814741910323 : UInt64)) + ((((shr64 a0 1) &&& (6148914691236517205 : UInt64)) + (a0 &&& (6148914691236517205 : UInt64))) &&& (3689348814741910323 : UInt64))) 4) + (((shr64 (((shr64 a0 1) &&& (6148914691236517205 : UInt64)) + (a0 &&& (6148914691236517205 : UInt64))) 2) &&& (3689348814741910323 : UInt64)) + ((((shr64 a0 1) &&& (6148914691236517205 : UInt64)) + (a0 &&& (6148914691236517205 : UInt64))) &&& (3689348814741910323 : UInt64)))) &&& (1085102592571150095 : UInt64)) 8)) 16)) + (shr64 (((((shr64 (((shr64 (((shr64 a0 1) &&& (6148914691236517205 : UInt64)) + (a0 &&& (6148914691236517205 : UInt64))) 2) &&& (3689348814741910323 : UInt64)) + ((((shr64 a0 1) &&& (6148914691236517205 : UInt64)) + (a0 &&& (6148914691236517205 : UInt64))) &&& (3689348814741910323 : UInt64))) 4) + (((shr64 (((shr64 a0 1) &&& (6148914691236517205 : UInt64)) + (a0 &&& (6148914691236517205 : UInt64))) 2) &&& (3689348814741910323 : UInt64)) + ((((shr64 a0 1) &&& (6148914691236517205 : UInt64)) + (a0 &&& (6148914691236517205 : UInt64))) &&& (3689348814741910323 : UInt64)))) &&& (1085102592571150095 : UInt64)) + (shr64 (((shr64 (((shr64 (((shr64 a0 1) &&& (6148914691236517205 : UInt64)) + (a0 &&& (6148914691236517205 : UInt64))) 2) &&& (3689348814741910323 : UInt64)) + ((((shr64 a0 1) &&& (6148914691236517205 : UInt64)) + (a0 &&& (6148914691236517205 : UInt64))) &&& (3689348814741910323 : UInt64))) 4) + (((shr64 (((shr64 a0 1) &&& (6148914691236517205 : UInt64)) + (a0 &&& (6148914691236517205 : UInt64))) 2) &&& (3689348814741910323 : UInt64)) + ((((shr64 a0 1) &&& (6148914691236517205 : UInt64)) + (a0 &&& (6148914691236517205 : UInt64))) &&& (3689348814741910323 : UInt64)))) &&& (1085102592571150095 : UInt64)) 8)) + (shr64 ((((shr64 (((shr64 (((shr64 a0 1) &&& (6148914691236517205 : UInt64)) + (a0 &&& (6148914691236517205 : UInt64))) 2) &&& (3689348814741910323 : UInt64)) + ((((shr64 a0 1) &&& (6148914691236517205 : UInt64)) + (a0 &&& (6148914691236517205 : UInt64))) &&& (3689348814741910323 : UInt64))) 4) + (((shr64 (((shr64 a0 1) &&& (6148914691236517205 : UInt64)) + (a0 &&& (6148914691236517205 : UInt64))) 2) &&& (3689348814741910323 : UInt64)) + ((((shr64 a0 1) &&& (6148914691236517205 : UInt64)) + (a0 &&& (6148914691236517205 : UInt64))) &&& (3689348814741910323 : UInt64)))) &&& (1085102592571150095 : UInt64)) + (shr64 (((shr64 (((shr64 (((shr64 a0 1) &&& (6148914691236517205 : UInt64)) + (a0 &&& (6148914691236517205 : UInt64))) 2) &&& (3689348814741910323 : UInt64)) + ((((shr64 a0 1) &&& (6148914691236517205 : UInt64)) + (a0 &&& (6148914691236517205 : UInt64))) &&& (3689348814741910323 : UInt64))) 4) + (((shr64 (((shr64 a0 1) &&& (6148914691236517205 : UInt64)) + (a0 &&& (6148914691236517205 : UInt64))) 2) &&& (3689348814741910323 : UInt64)) + ((((shr64 a0 1) &&& (6148914691236517205 : UInt64)) + (a0 &&& (6148914691236517205 : UInt64))) &&& (3689348814741910323 : UInt64)))) &&& (1085102592571150095 : UInt64)) 8)) 16)) 32)).toNat : Int)) rfl Tryd.underlying22 Tryd.underlying3) ?_
  refine WL.ex rfl (ex_bin (a := .int .i64 (wrap64 (((((((shr64 (((shr64 (((shr64 a0 1) &&& (6148914691236517205 : UInt64)) + (a0 &&& (6148914691236517205 : UInt64))) 2) &&& (3689348814741910323 : UInt64)) + ((((shr64 a0 1) &&& (6148914691236517205 : UInt64)) + (a0 &&& (6148914691236517205 : UInt64))) &&& (3689348814741910323 : UInt64))) 4) + (((shr64 (((shr64 a0 1) &&& (6148914691236517205 : UInt64)) + (a0 &&& (6148914691236517205 : UInt64))) 2) &&& (3689348814741910323 : UInt64)) + ((((shr64 a0 1) &&& (6148914691236517205 : UInt64)) + (a0 &&& (6148914691236517205 : UInt64))) &&& (3689348814741910323 : UInt64)))) &&& (1085102592571150095 : UInt64)) + (shr64 (((shr64 (((shr64 (((shr64 a0 1) &&& (6148914691236517205 : UInt64)) + (a0 &&& (6148914691236517205 : UInt64))) 2) &&& (3689348814741910323 : UInt64)) + ((((shr64 a0 1) &&& (6148914691236517205 : UInt64)) + (a0 &&& (6148914691236517205 : UInt64))) &&& (3689348814741910323 : UInt64))) 4) + (((shr64 (((shr64 a0 1) &&& (6148914691236517205 : UInt64)) + (a0 &&& (6148914691236517205 : UInt64))) 2) &&& (3689348814741910323 : UInt64)) + ((((shr64 a0 1) &&& (6148914691236517205 : UInt64)) + (a0 &&& (6148914691236517205 : UInt64))) &&& (3689348814741910323 : UInt64)))) &&& (1085102592571150095 : UInt64)) 8)) + (shr64 ((((shr64 (((shr64 (((shr64 a0 1) &&& (6148914691236517205 : UInt64)) + (a0 &&& (6148914691236517205 : UInt64))) 2) &&& (3689348814741910323 : UInt64)) + ((((shr64 a0 1) &&& (6148914691236517205 : UInt64)) + (a0 &&& (6148914691236517205 : UInt64))) &&& (3689348814741910323 : UInt64))) 4) + (((shr64 (((shr64 a0 1) &&& (6148914691236517205 : UInt64)) + (a0 &&& (6148914691236517205 : UInt64))) 2) &&& (3689348814741910323 : UInt64)) + ((((shr64 a0 1) &&& (6148914691236517205 : UInt64)) + (a0 &&& (6148914691236517205 : UInt64))) &&& (3689348814741910323 : UInt64)))) &&& (1085102592571150095 : UInt64)) + (shr64 (((shr64 (((shr64 (((shr64 a0 1) &&& (6148914691236517205 : UInt64)) + (a0 &&& (6148914691236517205 : UInt64))) 2) &&& (3689348814741910323 : UInt64)) + ((((shr64 a0 1) &&& (6148914691236517205 : UInt64)) + (a0 &&& (6148914691236517205 : UInt64))) &&& (3689348814741910323 : UInt64))) 4) + (((shr64 (((shr64 a0 1) &&& (6148914691236517205 : UInt64)) + (a0 &&& (6148914691236517205 : UInt64))) 2) &&& (3689348814741910323 : UInt64)) + ((((shr64 a0 1) &&& (6148914691236517205 : UInt64)) + (a0 &&& (6148914691236517205 : UInt64))) &&& (3689348814741910323 : UInt64)))) &&& (1085102592571150095 : UInt64)) 8)) 16)) + (shr64 (((((shr64 (((shr64 (((shr64 a0 1) &&& (6148914691236517205 : UInt64)) + (a0 &&& (6148914691236517205 : UInt64))) 2) &&& (3689348814741910323 : UInt64)) + ((((shr64 a0 1) &&& (6148914691236517205 : UInt64)) + (a0 &&& (6148914691236517205 : UInt64))) &&& (3689348814741910323 : UInt64))) 4) + (((shr64 (((shr64 a0 1) &&& (6148914691236517205 : UInt64)) + (a0 &&& (6148914691236517205 : UInt64))) 2) &&& (3689348814741910323 : UInt64)) + ((((shr64 a0 1) &&& (6148914691236517205 : UInt64)) + (a0 &&& (6148914691236517205 : UInt64))) &&& (3689348814741910323 : UInt64)))) &&& (1085102592571150095 : UInt64)) + (shr64 (((shr64 (((shr64 (((shr64 a0 1) &&& (6148914691236517205 : UInt64)) + (a0 &&& (6148914691236517205 : UInt64))) 2) &&& (3689348814741910323 : UInt64)) + ((((shr64 a0 1) &&& (6148914691236517205 : UInt64)) + (a0 &&& (6148914691236517205 : UInt64))) &&& (3689348814741910323 : UInt64))) 4) + (((shr64 (((shr64 a0 1) &&& (6148914691236517205 : UInt64)) + (a0 &&& (6148914691236517205 : UInt64))) 2) &&& (3689348814741910323 : UInt64)) + ((((shr64 a0 1) &&& (6148914691236517205 : UInt64)) + (a0 &&& (6148914691236517205 : UInt64))) &&& (3689348814741910323 : UInt64)))) &&& (1085102592571150095 : UInt64)) 8)) + (shr64 ((((shr64 (((shr64 (((shr64 a0 1) &&& (6148914691236517205 : UInt64)) + (a0 &&& (6148914691236517205 : UInt64))) 2) &&& (3689348814741910323 : UInt64)) + ((((shr64 a0 1) &&& (6148914691236517205 : UInt64)) + (a0 &&& (6148914691236517205 : UInt64))) &&& (3689348814741910323 : UInt64))) 4) + (((shr64 (((shr64 a0 1) &&& (6148914691236517205 : UInt64)) + (a0 &&& (6148914691236517205 : UInt64))) 2) &&& (3689348814741910323 : UInt64)) + ((((shr64 a0 1) &&& (6148914691236517205 : UInt64)) + (a0 &&& (6148914691236517205 : UInt64))) &&& (3689348814741910323 : UInt64)))) &&& (1085102592571150095 : UInt64)) + (shr64 (((shr64 (((shr64 (((shr64 a0 1) &&& (6148914691236517205 : UInt64)) + (a0 &&& (6148914691236517205 : UInt64))) 2) &&& (3689348814741910323 : UInt64)) + ((((shr64 a0 1) &&& (6148914691236517205 : UInt64)) + (a0 &&& (6148914691236517205 : UInt64))) &&& (3689348814741910323 : UInt64))) 4) + (((shr64 (((shr64 a0 1) &&& (6148914691236517205 : UInt64)) + (a0 &&& (6148914691236517205 : UInt64))) 2) &&& (3689348814741910323 : UInt64)) + ((((shr64 a0 1) &&& (6148914691236517205 : UInt64)) + (a0 &&& (6148914691236517205 : UInt64))) &&& (3689348814741910323 : UInt64)))) &&& (1085102592571150095 : UInt64)) 8)) 16)) 32)).toNat : Int))) (b := .int .i64 127) (v := .int .i64 (andI (wrap64 (((((((shr64 (((shr64 (((shr64 a0 1) &&& (6148914691236517205 : UInt64)) + (a0 &&& (6148914691236517205 : UInt64))) 2) &&& (3689348814741910323 : UInt64)) + ((((shr64 a0 1) &&& (6148914691236517205 : UInt64)) + (a0 &&& (6148914691236517205 : UInt64))) &&& (3689348814741910323 : UInt64))) 4) + (((shr64 (((shr64 a0 1) &&& (6148914691236517205 : UInt64)) + (a0 &&& (6148914691236517205 : UInt64))) 2) &&& (3689348814741910323 : UInt64)) + ((((shr64 a0 1) &&& (6148914691236517205 : UInt64)) + (a0 &&& (6148914691236517205 : UInt64))) &&& (3689348814741910323 : UInt64)))) &&& (1085102592571150095 : UInt64)) + (shr64 (((shr64 (((shr64 (((shr64 a0 1) &&& (6148914691236517205 : UInt64)) + (a0 &&& (6148914691236517205 : UInt64))) 2) &&& (3689348814741910323 : UInt64)) + ((((shr64 a0 1) &&& (6148914691236517205 : UInt64)) + (a0 &&& (6148914691236517205 : UInt64))) &&& (3689348814741910323 : UInt64))) 4) + (((shr64 (((shr64 a0 1) &&& (6148914691236517205 : UInt64)) + (a0 &&& (6148914691236517205 : UInt64))) 2) &&& (3689348814741910323 : UInt64)) + ((((shr64 a0 1) &&& (6148914691236517205 : UInt64)) + (a0 &&& (6148914691236517205 : UInt64))) &&& (3689348814741910323 : UInt64)))) &&& (1085102592571150095 : UInt64)) 8)) + (shr64 ((((shr64 (((shr64 (((shr64 a0 1) &&& (6148914691236517205 : UInt64)) + (a0 &&& (6148914691236517205 : UInt64))) 2) &&& (3689348814741910323 : UInt64)) + ((((shr64 a0 1) &&& (6148914691236517205 : UInt64)) + (a0 &&& (6148914691236517205 : UInt64))) &&& (3689348814741910323 : UInt64))) 4) + (((shr64 (((shr64 a0 1) &&& (6148914691236517205 : UInt64)) + (a0 &&& (6148914691236517205 : UInt64))) 2) &&& (3689348814741910323 : UInt64)) + ((((shr64 a0 1) &&& (6148914691236517205 : UInt64)) + (a0 &&& (6148914691236517205 : UInt64))) &&& (3689348814741910323 : UInt64)))) &&& (1085102592571150095 : UInt64)) + (shr64 (((shr64 (((shr64 (((shr64 a0 1) &&& (6148914691236517205 : UInt64)) + (a0 &&& (6148914691236517205 : UInt64))) 2) &&& (3689348814741910323 : UInt64)) + ((((shr64 a0 1) &&& (6148914691236517205 : UInt64)) + (a0 &&& (6148914691236517205 : UInt64))) &&& (3689348814741910323 : UInt64))) 4) + (((shr64 (((shr64 a0 1) &&& (6148914691236517205 : UInt64)) + (a0 &&& (6148914691236517205 : UInt64))) 2) &&& (3689348814741910323 : UInt64)) + ((((shr64 a0 1) &&& (6148914691236517205 : UInt64)) + (a0 &&& (6148914691236517205 : UInt64))) &&& (3689348814741910323 : UInt64)))) &&& (1085102592571150095 : UInt64)) 8)) 16)) + (shr64 (((((shr64 (((shr64 (((shr64 a0 1) &&& (6148914691236517205 : UInt64)) + (a0 &&& (6148914691236517205 : UInt64))) 2) &&& (3689348814741910323 : UInt64)) + ((((shr64 a0 1) &&& (6148914691236517205 : UInt64)) + (a0 &&& (6148914691236517205 : UInt64))) &&& (3689348814741910323 : UInt64))) 4) + (((shr64 (((shr64 a0 1) &&& (6148914691236517205 : UInt64)) + (a0 &&& (6148914691236517205 : UInt64))) 2) &&& (3689348814741910323 : UInt64)) + ((((shr64 a0 1) &&& (6148914691236517205 : UInt64)) + (a0 &&& (6148914691236517205 : UInt64))) &&& (3689348814741910323 : UInt64)))) &&& (1085102592571150095 : UInt64)) + (shr64 (((shr64 (((shr64 (((shr64 a0 1) &&& (6148914691236517205 : UInt64)) + (a0 &&& (6148914691236517205 : UInt64))) 2) &&& (3689348814741910323 : UInt64)) + ((((shr64 a0 1) &&& (6148914691236517205 : UInt64)) + (a0 &&& (6148914691236517205 : UInt64))) &&& (3689348814741910323 : UInt64))) 4) + (((shr64 (((shr64 a0 1) &&& (6148914691236517205 : UInt64)) + (a0 &&& (6148914691236517205 : UInt64))) 2) &&& (3689348814741910323 : UInt64)) + ((((shr64 a0 1) &&& (6148914691236517205 : UInt64)) + (a0 &&& (6148914691236517205 : UInt64))) &&& (3689348814741910323 : UInt64)))) &&& (1085102592571150095 : UInt64)) 8)) + (shr64 ((((shr64 (((shr64 (((shr64 a0 1) &&& (6148914691236517205 : UInt64)) + (a0 &&& (6148914691236517205 : UInt64))) 2) &&& (3689348814741910323 : UInt64)) + ((((shr64 a0 1) &&& (6148914691236517205 : UInt64)) + (a0 &&& (6148914691236517205 : UInt64))) &&& (3689348814741910323 : UInt64))) 4) + (((shr64 (((shr64 a0 1) &&& (6148914691236517205 : UInt64)) + (a0 &&& (6148914691236517205 : UInt64))) 2) &&& (3689348814741910323 : UInt64)) + ((((shr64 a0 1) &&& (6148914691236517205 : UInt64)) + (a0 &&& (6148914691236517205 : UInt64))) &&& (3689348814741910323 : UInt64)))) &&& (1085102592571150095 : UInt64)) + (shr64 (((shr64 (((shr64 (((shr64 a0 1) &&& (6148914691236517205 : UInt64)) + (a0 &&& (6148914691236517205 : UInt64))) 2) &&& (3689348814741910323 : UInt64)) + ((((shr64 a0 1) &&& (6148914691236517205 : UInt64)) + (a0 &&& (6148914691236517205 : UInt64))) &&& (3689348814741910323 : UInt64))) 4) + (((shr64 (((shr64 a0 1) &&& (6148914691236517205 : UInt64)) + (a0 &&& (6148914691236517205 : UInt64))) 2) &&& (3689348814741910323 : UInt64)) + ((((shr64 a0 1) &&& (6148914691236517205 : UInt64)) + (a0 &&& (6148914691236517205 : UInt64))) &&& (3689348814741910323 : UInt64)))) &&& (1085102592571150095 : UInt64)) 8)) 16)) 32)).toNat : Int)) 127)) rfl rfl bin_and_i64) ?_
  refine WL.ex rfl (ex_assign (v := .int .i64 (andI (wrap64 (((((((shr64 (((shr64 (((shr64 a0 1) &&& (6148914691236517205 : UInt64)) + (a0 &&& (6148914691236517205 : UInt64))) 2) &&& (3689348814741910323 : UInt64)) + ((((shr64 a0 1) &&& (6148914691236517205 : UInt64)) + (a0 &&& (6148914691236517205 : UInt64))) &&& (3689348814741910323 : UInt64))) 4) + (((shr64 (((shr64 a0 1) &&& (6148914691236517205 : UInt64)) + (a0 &&& (6148914691236517205 : UInt64))) 2) &&& (3689348814741910323 : UInt64)) + ((((shr64 a0 1) &&& (6148914691236517205 : UInt64)) + (a0 &&& (6148914691236517205 : UInt64))) &&& (3689348814741910323 : UInt64)))) &&& (1085102592571150095 : UInt64)) + (shr64 (((shr64 (((shr64 (((shr64 a0 1) &&& (6148914691236517205 : UInt64)) + (a0 &&& (6148914691236517205 : UInt64))) 2) &&& (3689348814741910323 : UInt64)) + ((((shr64 a0 1) &&& (6148914691236517205 : UInt64)) + (a0 &&& (6148914691236517205 : UInt64))) &&& (3689348814741910323 : UInt64))) 4) + (((shr64 (((shr64 a0 1) &&& (6148914691236517205 : UInt64)) + (a0 &&& (6148914691236517205 : UInt64))) 2) &&& (3689348814741910323 : UInt64)) + ((((shr64 a0 1) &&& (6148914691236517205 : UInt64)) + (a0 &&& (6148914691236517205 : UInt64))) &&& (3689348814741910323 : UInt64)))) &&& (1085102592571150095 : UInt64)) 8)) + (shr64 ((((shr64 (((shr64 (((shr64 a0 1) &&& (6148914691236517205 : UInt64)) + (a0 &&& (6148914691236517205 : UInt64))) 2) &&& (3689348814741910323 : UInt64)) + ((((shr64 a0 1) &&& (6148914691236517205 : UInt64)) + (a0 &&& (6148914691236517205 : UInt64))) &&& (3689348814741910323 : UInt64))) 4) + (((shr64 (((shr64 a0 1) &&& (6148914691236517205 : UInt64)) + (a0 &&& (6148914691236517205 : UInt64))) 2) &&& (3689348814741910323 : UInt64)) + ((((shr64 a0 1) &&& (6148914691236517205 : UInt64)) + (a0 &&& (6148914691236517205 : UInt64))) &&& (3689348814741910323 : UInt64)))) &&& (1085102592571150095 : UInt64)) + (shr64 (((shr64 (((shr64 (((shr64 a0 1) &&& (6148914691236517205 : UInt64)) + (a0 &&& (6148914691236517205 : UInt64))) 2) &&& (3689348814741910323 : UInt64)) + ((((shr64 a0 1) &&& (6148914691236517205 : UInt64)) + (a0 &&& (6148914691236517205 : UInt64))) &&& (3689348814741910323 : UInt64))) 4) + (((shr64 (((shr64 a0 1) &&& (6148914691236517205 : UInt64)) + (a0 &&& (6148914691236517205 : UInt64))) 2) &&& (3689348814741910323 : UInt64)) + ((((shr64 a0 1) &&& (6148914691236517205 : UInt64)) + (a0 &&& (6148914691236517205 : UInt64))) &&& (3689348814741910323 : UInt64)))) &&& (1085102592571150095 : UInt64)) 8)) 16)) + (shr64 (((((shr64 (((shr64 (((shr64 a0 1) &&& (6148914691236517205 : UInt64)) + (a0 &&& (6148914691236517205 : UInt64))) 2) &&& (3689348814741910323 : UInt64)) + ((((shr64 a0 1) &&& (6148914691236517205 : UInt64)) + (a0 &&& (6148914691236517205 : UInt64))) &&& (3689348814741910323 : UInt64))) 4) + (((shr64 (((shr64 a0 1) &&& (6148914691236517205 : UInt64)) + (a0 &&& (6148914691236517205 : UInt64))) 2) &&& (3689348814741910323 : UInt64)) + ((((shr64 a0 1) &&& (6148914691236517205 : UInt64)) + (a0 &&& (6148914691236517205 : UInt64))) &&& (3689348814741910323 : UInt64)))) &&& (1085102592571150095 : UInt64)) + (shr64 (((shr64 (((shr64 (((shr64 a0 1) &&& (6148914691236517205 : UInt64)) + (a0 &&& (6148914691236517205 : UInt64))) 2) &&& (3689348814741910323 : UInt64)) + ((((shr64 a0 1) &&& (6148914691236517205 : UInt64)) + (a0 &&& (6148914691236517205 : UInt64))) &&& (3689348814741910323 : UInt64))) 4) + (((shr64 (((shr64 a0 1) &&& (6148914691236517205 : UInt64)) + (a0 &&& (6148914691236517205 : UInt64))) 2) &&& (3689348814741910323 : UInt64)) + ((((shr64 a0 1) &&& (6148914691236517205 : UInt64)) + (a0 &&& (6148914691236517205 : UInt64))) &&& (3689348814741910323 : UInt64)))) &&& (1085102592571150095 : UInt64)) 8)) + (shr64 ((((shr64 (((shr64 (((shr64 a0 1) &&& (6148914691236517205 : UInt64)) + (a0 &&& (6148914691236517205 : UInt64))) 2) &&& (3689348814741910323 : UInt64)) + ((((shr64 a0 1) &&& (6148914691236517205 : UInt64)) + (a0 &&& (6148914691236517205 : UInt64))) &&& (3689348814741910323 : UInt64))) 4) + (((shr64 (((shr64 a0 1) &&& (6148914691236517205 : UInt64)) + (a0 &&& (6148914691236517205 : UInt64))) 2) &&& (3689348814741910323 : UInt64)) + ((((shr64 a0 1) &&& (6148914691236517205 : UInt64)) + (a0 &&& (6148914691236517205 : UInt64))) &&& (3689348814741910323 : UInt64)))) &&& (1085102592571150095 : UInt64)) + (shr64 (((shr64 (((shr64 (((shr64 a0 1) &&& (6148914691236517205 : UInt64)) + (a0 &&& (6148914691236517205 : UInt64))) 2) &&& (3689348814741910323 : UInt64)) + ((((shr64 a0 1) &&& (6148914691236517205 : UInt64)) + (a0 &&& (6148914691236517205 : UInt64))) &&& (3689348814741910323 : UInt64))) 4) + (((shr64 (((shr64 a0 1) &&& (6148914691236517205 : UInt64)) + (a0 &&& (6148914691236517205 : UInt64))) 2) &&& (3689348814741910323 : UInt64)) + ((((shr64 a0 1) &&& (6148914691236517205 : UInt64)) + (a0 &&& (6148914691236517205 : UInt64))) &&& (3689348814741910323 : UInt64)))) &&& (1085102592571150095 : UInt64)) 8)) 16)) 32)).toNat : Int)) 127)) rfl) ?_
  refine WL.nil ?_
  refine WC.ret ?_
  obtain rfl := Option.some.inj H
  exact ⟨_, (.tmp (.int .i64 (andI (wrap64 (((((((shr64 (((shr64 (((shr64 a0 1) &&& (6148914691236517205 : UInt64)) + (a0 &&& (6148914691236517205 : UInt64))) 2) &&& (3689348814741910323 : UInt64)) + ((((shr64 a0 1) &&& (6148914691236517205 : UInt64)) + (a0 &&& (6148914691236517205 : UInt64))) &&& (3689348814741910323 : UInt64))) 4) + (((shr64 (((shr64 a0 1) &&& (6148914691236517205 : UInt64)) + (a0 &&& (6148914691236517205 : UInt64))) 2) &&& (3689348814741910323 : UInt64)) + ((((shr64 a0 1) &&& (6148914691236517205 : UInt64)) + (a0 &&& (6148914691236517205 : UInt64))) &&& (3689348814741910323 : UInt64)))) &&& (1085102592571150095 : UInt64)) + (shr64 (((shr64 (((shr64 (((shr64 a0 1) &&& (6148914691236517205 : UInt64)) + (a0 &&& (6148914691236517205 : UInt64))) 2) &&& (3689348814741910323 : UInt64)) + ((((shr64 a0 1) &&& (6148914691236517205 : UInt64)) + (a0 &&& (6148914691236517205 : UInt64))) &&& (3689348814741910323 : UInt64))) 4) + (((shr64 (((shr64 a0 1) &&& (6148914691236517205 : UInt64)) + (a0 &&& (6148914691236517205 : UInt64))) 2) &&& (3689348814741910323 : UInt64)) + ((((shr64 a0 1) &&& (6148914691236517205 : UInt64)) + (a0 &&& (6148914691236517205 : UInt64))) &&& (3689348814741910323 : UInt64)))) &&& (1085102592571150095 : UInt64)) 8)) + (shr64 ((((shr64 (((shr64 (((shr64 a0 1) &&& (6148914691236517205 : UInt64)) + (a0 &&& (6148914691236517205 : UInt64))) 2) &&& (3689348814741910323 : UInt64)) + ((((shr64 a0 1) &&& (6148914691236517205 : UInt64)) + (a0 &&& (6148914691236517205 : UInt64))) &&& (3689348814741910323 : UInt64))) 4) + (((shr64 (((shr64 a0 1) &&& (6148914691236517205 : UInt64)) + (a0 &&& (6148914691236517205 : UInt64))) 2) &&& (3689348814741910323 : UInt64)) + ((((shr64 a0 1) &&& (6148914691236517205 : UInt64)) + (a0 &&& (6148914691236517205 : UInt64))) &&& (3689348814741910323 : UInt64)))) &&& (1085102592571150095 : UInt64)) + (shr64 (((shr64 (((shr64 (((shr64 a0 1) &&& (6148914691236517205 : UInt64)) + (a0 &&& (6148914691236517205 : UInt64))) 2) &&& (3689348814741910323 : UInt64)) + ((((shr64 a0 1) &&& (6148914691236517205 : UInt64)) + (a0 &&& (6148914691236517205 : UInt64))) &&& (3689348814741910323 : UInt64))) 4) + (((shr64 (((shr64 a0 1) &&& (6148914691236517205 : UInt64)) + (a0 &&& (6148914691236517205 : UInt64))) 2) &&& (3689348814741910323 : UInt64)) + ((((shr64 a0 1) &&& (6148914691236517205 : UInt64)) + (a0 &&& (6148914691236517205 : UInt64))) &&& (3689348814741910323 : UInt64)))) &&& (1085102592571150095 : UInt64)) 8)) 16)) + (shr64 (((((shr64 (((shr64 (((shr64 a0 1) &&& (6148914691236517205 : UInt64)) + (a0 &&& (6148914691236517205 : UInt64))) 2) &&& (3689348814741910323 : UInt64)) + ((((shr64 a0 1) &&& (6148914691236517205 : UInt64)) + (a0 &&& (6148914691236517205 : UInt64))) &&& (3689348814741910323 : UInt64))) 4) + (((shr64 (((shr64 a0 1) &&& (6148914691236517205 : UInt64)) + (a0 &&& (6148914691236517205 : UInt64))) 2) &&& (3689348814741910323 : UInt64)) + ((((shr64 a0 1) &&& (6148914691236517205 : UInt64)) + (a0 &&& (6148914691236517205 : UInt64))) &&& (3689348814741910323 : UInt64)))) &&& (1085102592571150095 : UInt64)) + (shr64 (((shr64 (((shr64 (((shr64 a0 1) &&& (6148914691236517205 : UInt64)) + (a0 &&& (6148914691236517205 : UInt64))) 2) &&& (3689348814741910323 : UInt64)) + ((((shr64 a0 1) &&& (6148914691236517205 : UInt64)) + (a0 &&& (6148914691236517205 : UInt64))) &&& (3689348814741910323 : UInt64))) 4) + (((shr64 (((shr64 a0 1) &&& (6148914691236517205 : UInt64)) + (a0 &&& (6148914691236517205 : UInt64))) 2) &&& (3689348814741910323 : UInt64)) + ((((shr64 a0 1) &&& (6148914691236517205 : UInt64)) + (a0 &&& (6148914691236517205 : UInt64))) &&& (3689348814741910323 : UInt64)))) &&& (1085102592571150095 : UInt64)) 8)) + (shr64 ((((shr64 (((shr64 (((shr64 a0 1) &&& (6148914691236517205 : UInt64)) + (a0 &&& (6148914691236517205 : UInt64))) 2) &&& (3689348814741910323 : UInt64)) + ((((shr64 a0 1) &&& (6148914691236517205 : UInt64)) + (a0 &&& (6148914691236517205 : UInt64))) &&& (3689348814741910323 : UInt64))) 4) + (((shr64 (((shr64 a0 1) &&& (6148914691236517205 : UInt64)) + (a0 &&& (6148914691236517205 : UInt64))) 2) &&& (3689348814741910323 : UInt64)) + ((((shr64 a0 1) &&& (6148914691236517205 : UInt64)) + (a0 &&& (6148914691236517205 : UInt64))) &&& (3689348814741910323 : UInt64)))) &&& (1085102592571150095 : UInt64)) + (shr64 (((shr64 (((shr64 (((shr64 a0 1) &&& (6148914691236517205 : UInt64)) + (a0 &&& (6148914691236517205 : UInt64))) 2) &&& (3689348814741910323 : UInt64)) + ((((shr64 a0 1) &&& (6148914691236517205 : UInt64)) + (a0 &&& (6148914691236517205 : UInt64))) &&& (3689348814741910323 : UInt64))) 4) + (((shr64 (((shr64 a0 1) &&& (6148914691236517205 : UInt64)) + (a0 &&& (6148914691236517205 : UInt64))) 2) &&& (3689348814741910323 : UInt64)) + ((((shr64 a0 1) &&& (6148914691236517205 : UInt64)) + (a0 &&& (6148914691236517205 : UInt64))) &&& (3689348814741910323 : UInt64)))) &&& (1085102592571150095 : UInt64)) 8)) 16)) 32)).toNat : Int)) 127) : Value) rfl .nil), _, rfl, HF.out⟩

/-! ### bits_Count -/
set_option maxRecDepth 100000 in
theorem bits_Count.calls (k : Nat) (o0 : Tags) (w0 : World) (a0 : (List UInt64)) (r : Int) (hO : ∀ b, b < w0.heap.size → o0 b < 10) (hla0 : a0.length = 16) (H : bits_Count.f k a0 = some r) :
    Calls Tryd.prog 23 [.agg (List.map enc64 a0).toArray].toArray w0 fun e_ w_ => ∃ (o_ : Tags), e_ = .returned (one [.int .i64 r]) ∧ Step o0 w0 o_ w_ [] := by
  have HF := Fm.refl hO []
  unfold bits_Count.f at H
  refine SX.calls [.agg (List.map enc64 a0).toArray] Tryd.func23 rfl rfl ?_
  rw [Tryd.ntmps23]
  refine WC.seq ?_
  refine WC.region ?_
  refine WL.op rfl ?_
  refine OW.box' (List.map enc64 a0) 10 HF rfl ((congrArg Value.cells (show ev _ _ = (.agg (List.map enc64 a0).toArray : Value) from rfl)).trans rfl) ?_
  intro o102 w103 b101 s104 hB105
  replace HF := HF.step s104 rfl
  refine WL.ex rfl (ex_assign (v := .int .i64 0) rfl) ?_
  refine WL.nil ?_
  refine WC.seq ?_
  refine WC.region ?_
  refine WL.ex rfl (ex_assign (v := .int .i64 0) rfl) ?_
  refine WL.nil ?_
  refine WC.seq ?_
  refine WC.seq ?_
  refine WC.region ?_
  refine WL.ex rfl (ex_loadAV (xs := a0) rfl Tryd.underlying24 sz24 hla0 hB105) ?_
  refine WL.ex rfl (ex_move (v := .int .i64 0) rfl) ?_
  refine WL.nil ?_
  obtain ⟨z109, hz109, H⟩ := bindE H
  refine WC.for (fun k_ ρ_ w_ => ∃ (o_ : Tags) (x106 : Int) (x107 : Int), Fm o0 w0 o_ w_ [] ∧ ρ_ 2 = .int .i64 0 ∧ ρ_ 3 = .int .i64 x106 ∧ ρ_ 6 = .agg (List.map enc64 a0).toArray ∧ ρ_ 7 = .int .i64 x107 ∧ bits_Count.l1 k a0 k_ x106 x107 = some z109) k (fun ρ_ w_ => ∃ (o_ : Tags), Fm o0 w0 o_ w_ [] ∧ ρ_ 2 = .int .i64 0 ∧ ρ_ 3 = .int .i64 z109) ⟨_, 0, 0, HF, rfl, rfl, rfl, rfl, hz109⟩ ?case110 ?_
  case case110 =>
    rintro ρ122 w123 ⟨o124, HF, s2_107, s3_108⟩
    refine WC.seq ?_
    refine WC.region ?_
    refine WL.ex rfl (ex_move (v := .int .i64 z109) s3_108) ?_
    refine WL.ex rfl (ex_assign (v := .int .i64 z109) rfl) ?_
    refine WL.nil ?_
    refine WC.ret ?_
    obtain rfl := Option.some.inj H
    exact ⟨_, (.tmp (.int .i64 z109 : Value) rfl .nil), _, rfl, HF.out⟩
  have Ho111 := H
  rintro k112 ρ113 w114 ⟨o115, x106, x107, HF, s2_105, s3_106, s6_106, s7_107, H⟩
  cases k112 with
  | zero => cases H
  | succ k112 =>
  rw [bits_Count.l1.eq_2] at H
  refine WC.seq ?_
  refine WC.region ?_
  refine WL.ex rfl (ex_bin (a := .int .i64 x107) (b := .int .i64 16) (v := .bool (decide (x107 < 16))) s7_107 rfl bin_lss) ?_
  refine WL.nil ?_
  refine WC.seq ?_
  rcases condE H with ⟨c116, H⟩ | ⟨c116, H⟩
  ·
    refine WC.cond_t ((show _ = Value.bool (decide (x107 < 16)) from rfl).trans (congrArg Value.bool c116)) ?_
    refine WC.skip ?_
    refine WC.seq ?_
    refine WC.block ?_
    refine WC.seq ?_
    refine WC.region ?_
    obtain ⟨x117, hx117, H⟩ := bindE H
    refine WL.ex rfl (ex_indexAV (enc := enc64) (i := x107) s6_106 s7_107 Tryd.underlying24 Tryd.underlying22 rfl sz22 hla0 hx117) ?_
    refine WL.ex rfl (ex_assign (v := enc64 x117) rfl) ?_
    refine WL.nil ?_
    refine WC.region ?_
    refine WL.ex rfl (ex_move (v := .int .i64 x106) s3_106) ?_
    refine WL.ex rfl (ex_move (v := enc64 x117) rfl) ?_
    obtain ⟨z118, hz118, H⟩ := bindE H
    refine WL.op rfl ?_
    refine OW.call [enc64 x117] rfl Tryd.func52 (by kernel_rfl) (by kernel_rfl) (map_cons' rfl rfl) (bits_OnesCount64.calls _ _ x117 z118 (HF.ten (V := [0]) (L := []) rfl)  hz118) ?_
    rintro _ w119 ⟨o120, rfl, s121⟩
    refine ⟨_, rfl, ?_⟩
    replace s121 := un_stepL (J := []) (L' := []) s121 rfl rfl
    replace HF := HF.step s121 rfl
    refine WL.ex rfl (ex_bin (a := .int .i64 x106) (b := .int .i64 z118) (v := .int .i64 (wrap64 (x106 + z118))) rfl rfl bin_add64) ?_
    refine WL.ex rfl (ex_assign (v := .int .i64 (wrap64 (x106 + z118))) rfl) ?_
    refine WL.nil ?_
    refine WC.region ?_
    refine WL.ex rfl (ex_bin (a := .int .i64 x107) (b := .int .i64 1) (v := .int .i64 (wrap64 (x107 + 1))) s7_107 rfl bin_add64) ?_
    refine WL.ex rfl (ex_move (v := .int .i64 (wrap64 (x107 + 1))) rfl) ?_
    refine WL.nil ?_
    exact ⟨k112, Nat.lt_succ_self _, ⟨_, wrap64 (x106 + z118), wrap64 (x107 + 1), HF, s2_105, rfl, s6_106, rfl, H⟩⟩
  ·
    refine WC.cond_f ((show _ = Value.bool (decide (x107 < 16)) from rfl).trans (congrArg Value.bool c116)) ?_
    refine WC.exit ?_
    obtain rfl := Option.some.inj H
    exact ⟨_, HF, s2_105, s3_106⟩

/-! ### bits_Compare_1 -/
set_option maxRecDepth 100000 in
theorem bits_Compare_1.calls (o0 : Tags) (w0 : World) (a0 : UInt64) (a1 : UInt64) (r : UInt64) (hO : ∀ b, b < w0.heap.size → o0 b < 10) (H : bits_Compare_1.f a0 a1 = some r) :
    Calls Tryd.prog 53 [enc64 a0, enc64 a1].toArray w0 fun e_ w_ => ∃ (o_ : Tags), e_ = .returned (one [enc64 r]) ∧ Step o0 w0 o_ w_ [] := by
  have HF := Fm.refl hO []
  unfold bits_Compare_1.f at H
  refine SX.calls [enc64 a0, enc64 a1] Tryd.func53 rfl rfl ?_
  rw [Tryd.ntmps53]
  refine WC.seq ?_
  refine WC.region ?_
  refine WL.ex rfl (ex_assign (v := enc64 (0 : UInt64)) rfl) ?_
  refine WL.nil ?_
  refine WC.seq ?_
  refine WC.region ?_
  refine WL.ex rfl (ex_move (v := enc64 a0) rfl) ?_
  refine WL.ex rfl (ex_move (v := enc64 a1) rfl) ?_
  refine WL.ex rfl (ex_bin (a := enc64 a0) (b := enc64 a1) (v := enc64 (a0 ^^^ a1)) rfl rfl bin_xor_u64) ?_
  refine WL.ex rfl (ex_assign (v := enc64 (a0 ^^^ a1)) rfl) ?_
  refine WL.nil ?_
  refine WC.ret ?_
  obtain rfl := Option.some.inj H
  exact ⟨_, (.tmp (enc64 (a0 ^^^ a1) : Value) rfl .nil), _, rfl, HF.out⟩

/-! ### bits_each_bits_Compare_1 -/
set_option maxRecDepth 100000 in
theorem bits_each_bits_Compare_1.calls (k : Nat) (o0 : Tags) (w0 : World) (a0 : (List UInt64)) (a1 : (List UInt64)) (r : (List UInt64)) (hO : ∀ b, b < w0.heap.size → o0 b < 10) (hla0 : a0.length = 16) (hla1 : a1.length = 16) (H : bits_each_bits_Compare_1.f k a0 a1 = some r) :
    Calls Tryd.prog 48 [.agg (List.map enc64 a0).toArray, .agg (List.map enc64 a1).toArray, .func (.func 53) #[] #[]].toArray w0 fun e_ w_ => ∃ (o_ : Tags), e_ = .returned (one [.agg (List.map enc64 r).toArray]) ∧ Step o0 w0 o_ w_ [] ∧ r.length = 16 := by
  have HF := Fm.refl hO []
  unfold bits_each_bits_Compare_1.f at H
  refine SX.calls [.agg (List.map enc64 a0).toArray, .agg (List.map enc64 a1).toArray, .func (.func 53) #[] #[]] Tryd.func48 rfl rfl ?_
  rw [Tryd.ntmps48]
  refine WC.seq ?_
  refine WC.region ?_
  refine WL.op rfl ?_
  refine OW.box' (List.map enc64 a0) 10 HF rfl ((congrArg Value.cells (show ev _ _ = (.agg (List.map enc64 a0).toArray : Value) from rfl)).trans rfl) ?_
  intro o102 w103 b101 s104 hB105
  replace HF := HF.step s104 rfl
  refine WL.op rfl ?_
  refine OW.box' (List.map enc64 a1) 11 HF rfl ((congrArg Value.cells (show ev _ _ = (.agg (List.map enc64 a1).toArray : Value) from rfl)).trans rfl) ?_
  intro o107 w108 b106 s109 hB110
  replace hB105 := hB105.step s109 rfl
  replace HF := HF.step s109 rfl
  refine WL.op rfl ?_
  refine OW.alloc' (List.map enc64 (List.replicate 16 ((0 : UInt64)))) 12 HF rfl zr24 rfl ?_
  intro o112 w113 b111 s114 hB115
  replace hB105 := hB105.step s114 rfl
  replace hB110 := hB110.step s114 rfl
  replace HF := HF.step s114 rfl
  refine WL.nil ?_
  refine WC.seq ?_
  refine WC.seq ?_
  refine WC.region ?_
  refine WL.ex rfl (ex_move (v := .int .i64 0) rfl) ?_
  refine WL.nil ?_
  obtain ⟨z121, hz121, H⟩ := bindE H
  refine WC.for (fun k_ ρ_ w_ => ∃ (o_ : Tags) (x116 : Int) (x117 : (List UInt64)), Fm o0 w0 o_ w_ [] ∧ Bk o_ w_ 10 b101 (List.map enc64 x117) 24 ∧ x117.length = 16 ∧ Bk o_ w_ 11 b106 (List.map enc64 a1) 24 ∧ Bk o_ w_ 12 b111 (List.map enc64 (List.replicate 16 ((0 : UInt64)))) 24 ∧ ρ_ 2 = .func (.func 53) #[] #[] ∧ ρ_ 3 = .pointer (some ⟨b101, 0, none⟩) ∧ ρ_ 4 = .pointer (some ⟨b106, 0, none⟩) ∧ ρ_ 6 = .pointer (some ⟨b111, 0, none⟩) ∧ ρ_ 8 = .int .i64 x116 ∧ bits_each_bits_Compare_1.l1 k a1 k_ x116 x117 = some z121) k (fun ρ_ w_ => ∃ (o_ : Tags), Fm o0 w0 o_ w_ [] ∧ Bk o_ w_ 10 b101 (List.map enc64 z121) 24 ∧ z121.length = 16 ∧ Bk o_ w_ 12 b111 (List.map enc64 (List.replicate 16 ((0 : UInt64)))) 24 ∧ ρ_ 3 = .pointer (some ⟨b101, 0, none⟩) ∧ ρ_ 6 = .pointer (some ⟨b111, 0, none⟩)) ⟨_, 0, a0, HF, hB105, hla0, hB110, hB115, rfl, rfl, rfl, rfl, rfl, hz121⟩ ?case122 ?_
  case case122 =>
    rintro ρ142 w143 ⟨o144, HF, hB105, hl120, hB115, s3_118, s6_118⟩
    refine WC.seq ?_
    refine WC.region ?_
    refine WL.ex rfl (ex_loadAV (xs := z121) s3_118 Tryd.underlying24 sz24 hl120 hB105) ?_
    refine WL.op rfl ?_
    refine OW.storeAV (ys := z121) s6_118 rfl (fun _ => rfl) sz24 rfl hl120 hB115 ?_
    intro w145 s146 hB147
    replace hB105 := hB105.step s146 rfl
    replace HF := HF.step s146 rfl
    refine WL.nil ?_
    refine WC.ret ?_
    obtain rfl := Option.some.inj H
    exact ⟨_, (.cell (.agg (List.map enc64 z121).toArray : Value) s6_118 (run_loadAV Tryd.underlying24 sz24 hl120 hB147) .nil), _, rfl, HF.out, hl120⟩
  have Ho123 := H
  rintro k124 ρ125 w126 ⟨o127, x116, x117, HF, hB105, hl118, hB110, hB115, s2_115, s3_115, s4_115, s6_115, s8_116, H⟩
  cases k124 with
  | zero => cases H
  | succ k124 =>
  rw [bits_each_bits_Compare_1.l1.eq_2] at H
  refine WC.seq ?_
  refine WC.region ?_
  refine WL.ex rfl (ex_bin (a := .int .i64 x116) (b := .int .i64 16) (v := .bool (decide (x116 < 16))) s8_116 rfl bin_lss) ?_
  refine WL.nil ?_
  refine WC.seq ?_
  rcases condE H with ⟨c128, H⟩ | ⟨c128, H⟩
  ·
    refine WC.cond_t ((show _ = Value.bool (decide (x116 < 16)) from rfl).trans (congrArg Value.bool c128)) ?_
    refine WC.skip ?_
    refine WC.seq ?_
    refine WC.block ?_
    refine WC.seq ?_
    refine WC.region ?_
    refine WL.ex rfl (ex_move (v := .int .i64 x116) s8_116) ?_
    refine WL.ex rfl (ex_assign (v := .int .i64 x116) rfl) ?_
    refine WL.nil ?_
    refine WC.regionD' HF [10] 11 (by kernel_rfl) rfl ?_
    intro w129 s130
    replace hB105 := hB105.step s130 rfl
    replace hB110 := hB110.step s130 rfl
    replace hB115 := hB115.step s130 rfl
    replace HF := HF.step s130 rfl
    have hB105D := hB105
    have hB110D := hB110
    have hB115D := hB115
    have sR := HF.here [10]
    refine WA.norm (listed' := #[false, false, false, false, false, false, false, false, false, false, false]) (by kernel_rfl) ?_
    refine WA.ex 0 rfl (by kernel_rfl) (by kernel_rfl) (by kernel_rfl) rfl ⟨_, sR⟩ (fun w_ hS_ => ex_move (v := .int .i64 x116) rfl) ?_
    refine WA.norm (listed' := #[true, false, false, false, false, false, false, false, false, false, false]) (by kernel_rfl) ?_
    refine WA.ex 1 rfl (by kernel_rfl) (by kernel_rfl) (by kernel_rfl) rfl ⟨_, sR⟩ (fun w_ hS_ => ex_move (v := .func (.func 53) #[] #[]) s2_115) ?_
    refine WA.norm (listed' := #[true, true, false, false, false, false, false, false, false, false, false]) (by kernel_rfl) ?_
    refine WA.ex 2 rfl (by kernel_rfl) (by kernel_rfl) (by kernel_rfl) rfl ⟨_, sR⟩ (fun w_ hS_ => ex_move (v := .int .i64 x116) rfl) ?_
    refine WA.norm (listed' := #[true, true, true, false, false, false, false, false, false, false, false]) (by kernel_rfl) ?_
    obtain ⟨x131, hx131, H⟩ := bindE H
    refine WA.ex 3 rfl (by kernel_rfl) (by kernel_rfl) (by kernel_rfl) rfl ⟨_, sR⟩ (fun w_ hS_ => ex_indexArrB (i := x116) (xs := x117) s3_115 rfl Tryd.underlying24 sz22 hl118 hx131) ?_
    refine WA.norm (listed' := #[true, true, true, true, false, false, false, false, false, false, false]) (by kernel_rfl) ?_
    refine WA.ex 5 rfl (by kernel_rfl) (by kernel_rfl) (by kernel_rfl) rfl ⟨_, sR⟩ (fun w_ hS_ => ex_move (v := .int .i64 x116) rfl) ?_
    refine WA.norm (listed' := #[true, true, true, true, false, true, false, false, false, false, false]) (by kernel_rfl) ?_
    obtain ⟨x132, hx132, H⟩ := bindE H
    refine WA.ex 6 rfl (by kernel_rfl) (by kernel_rfl) (by kernel_rfl) rfl ⟨_, sR⟩ (fun w_ hS_ => ex_indexArrB (i := x116) (xs := a1) s4_115 rfl Tryd.underlying24 sz22 hla1 hx132) ?_
    refine WA.norm (listed' := #[true, true, true, true, false, true, true, false, false, false, false]) (by kernel_rfl) ?_
    refine WA.ex 7 rfl (by kernel_rfl) (by kernel_rfl) (by kernel_rfl) rfl ⟨_, sR⟩ (fun w_ hS_ => ex_loadAE (enc := enc64) rfl Tryd.underlying22 rfl (hB110D.step hS_.choose_spec rfl) hx132) ?_
    refine WA.norm (listed' := #[true, true, true, true, false, true, true, true, false, false, false]) (by kernel_rfl) ?_
    refine WA.one 4 (by kernel_rfl) rfl rfl ?_
    refine OW.ex rfl (ex_loadAE (enc := enc64) rfl Tryd.underlying22 rfl hB105 hx131) ?_
    refine ⟨⟨_, sR⟩, ?_⟩
    refine WA.norm (listed' := #[true, true, true, true, true, true, true, true, false, false, false]) (by kernel_rfl) ?_
    obtain ⟨z133, hz133, H⟩ := bindE H
    refine WA.one 8 (by kernel_rfl) rfl rfl ?_
    refine OW.callV (show ev _ _ = .func (.func 53) #[] #[] from rfl) [enc64 x131, enc64 x132] rfl Tryd.func53 (by kernel_rfl) (by kernel_rfl) (map_cons' rfl (map_cons' rfl rfl)) (bits_Compare_1.calls _ _ x131 x132 z133 (HF.ten (V := [0]) (L := []) rfl)  hz133) ?_
    rintro _ w134 ⟨o135, rfl, s136⟩
    refine ⟨_, rfl, ?_⟩
    replace s136 := un_stepL (J := []) (L' := []) s136 rfl rfl
    replace hB105 := hB105.step s136 rfl
    replace hB110 := hB110.step s136 rfl
    replace hB115 := hB115.step s136 rfl
    replace HF := HF.step s136 rfl
    replace sR := Step.trans sR s136 (M := [10]) rfl rfl
    refine ⟨⟨_, sR⟩, ?_⟩
    refine WA.norm (listed' := #[true, true, true, true, true, true, true, true, true, false, false]) (by kernel_rfl) ?_
    obtain ⟨x137, hx137, H⟩ := bindE H
    refine WA.ex 9 rfl (by kernel_rfl) (by kernel_rfl) (by kernel_rfl) rfl ⟨_, sR⟩ (fun w_ hS_ => ex_indexArrB (i := x116) (xs := x117) s3_115 rfl Tryd.underlying24 sz22 hl118 hx137) ?_
    refine WA.norm (listed' := #[true, true, true, true, true, true, true, true, true, true, false]) (by kernel_rfl) ?_
    refine WA.one 10 (by kernel_rfl) rfl rfl ?_
    refine OW.storeAE (enc := enc64) (c := z133) rfl rfl (cells64) (fun _ => rfl) sz22 hB105 hx137 ?_
    intro w138 s139 hB140
    replace hB110 := hB110.step s139 rfl
    replace hB115 := hB115.step s139 rfl
    replace HF := HF.step s139 rfl
    replace sR := Step.trans sR s139 (M := [10]) rfl rfl
    have hl141 := len_set (i := x116.toNat) (a := z133) hl118
    refine ⟨⟨_, sR⟩, ?_⟩
    refine WA.norm (listed' := #[true, true, true, true, true, true, true, true, true, true, true]) (by kernel_rfl) ?_
    refine WA.done (by kernel_rfl) ?_
    refine WC.region ?_
    refine WL.ex rfl (ex_bin (a := .int .i64 x116) (b := .int .i64 1) (v := .int .i64 (wrap64 (x116 + 1))) s8_116 rfl bin_add64) ?_
    refine WL.ex rfl (ex_move (v := .int .i64 (wrap64 (x116 + 1))) rfl) ?_
    refine WL.nil ?_
    exact ⟨k124, Nat.lt_succ_self _, ⟨_, wrap64 (x116 + 1), (x117.set x116.toNat z133), HF, hB140, hl141, hB110, hB115, s2_115, s3_115, s4_115, s6_115, rfl, H⟩⟩
  ·
    refine WC.cond_f ((show _ = Value.bool (decide (x116 < 16)) from rfl).trans (congrArg Value.bool c128)) ?_
    refine WC.exit ?_
    obtain rfl := Option.some.inj H
    exact ⟨_, HF, hB105, hl118, hB115, s3_115, s6_115⟩

/-! ### bits_inside -/
set_option maxRecDepth 100000 in
theorem bits_inside.calls (o0 : Tags) (w0 : World) (a0 : Int) (r : Bool) (hO : ∀ b, b < w0.heap.size → o0 b < 10) (H : bits_inside.f a0 = some r) :
    Calls Tryd.prog 46 [.int .i64 a0].toArray w0 fun e_ w_ => ∃ (o_ : Tags), e_ = .returned (one [.bool r]) ∧ Step o0 w0 o_ w_ [] := by
  have HF := Fm.refl hO []
  unfold bits_inside.f at H
  refine SX.calls [.int .i64 a0] Tryd.func46 rfl rfl ?_
  rw [Tryd.ntmps46]
  refine WC.seq ?_
  refine WC.region ?_
  refine WL.ex rfl (ex_assign (v := .bool false) rfl) ?_
  refine WL.nil ?_
  refine WC.seq ?_
  refine WC.region ?_
  refine WL.ex rfl (ex_move (v := .int .i64 a0) rfl) ?_
  refine WL.ex rfl (ex_bin (a := .int .i64 a0) (b := .int .i64 0) (v := .bool (decide (a0 ≥ 0))) rfl rfl bin_geq) ?_
  refine WL.ex rfl (ex_move (v := .bool (decide (a0 ≥ 0))) rfl) ?_
  rcases condE H with ⟨c101, H⟩ | ⟨c101, H⟩
  ·
    refine WL.guardYes rfl rfl rfl ((show _ = Value.bool (decide (a0 ≥ 0)) from rfl).trans (congrArg Value.bool c101)) ?_
    refine OW.ex rfl (ex_move (v := .int .i64 a0) rfl) ?_
    refine WL.guardYes rfl rfl rfl ((show _ = Value.bool (decide (a0 ≥ 0)) from rfl).trans (congrArg Value.bool c101)) ?_
    refine OW.ex rfl (ex_bin (a := .int .i64 a0) (b := .int .i64 1024) (v := .bool (decide (a0 < 1024))) rfl rfl bin_lss) ?_
    refine WL.ex rfl (ex_pick_t (v := .bool (decide (a0 < 1024))) ((show _ = Value.bool (decide (a0 ≥ 0)) from rfl).trans (congrArg Value.bool c101)) rfl) ?_
    refine WL.ex rfl (ex_assign (v := .bool (decide (a0 < 1024))) rfl) ?_
    refine WL.nil ?_
    refine WC.ret ?_
    obtain rfl := Option.some.inj H
    exact ⟨_, (.tmp (.bool (decide (a0 < 1024)) : Value) rfl .nil), _, rfl, HF.out⟩
  ·
    refine WL.guardNo rfl rfl rfl ((show _ = Value.bool (decide (a0 ≥ 0)) from rfl).trans (congrArg Value.bool c101)) ?_
    refine WL.guardNo rfl rfl rfl ((show _ = Value.bool (decide (a0 ≥ 0)) from rfl).trans (congrArg Value.bool c101)) ?_
    refine WL.ex rfl (ex_pick_f (v := .bool false) ((show _ = Value.bool (decide (a0 ≥ 0)) from rfl).trans (congrArg Value.bool c101)) rfl) ?_
    refine WL.ex rfl (ex_assign (v := .bool false) rfl) ?_
    refine WL.nil ?_
    refine WC.ret ?_
    obtain rfl := Option.some.inj H
    exact ⟨_, (.tmp (.bool false : Value) rfl .nil), _, rfl, HF.out⟩

/-! ### bits_TrailingZeros64 -/
set_option maxRecDepth 100000 in
theorem bits_TrailingZeros64.calls (o0 : Tags) (w0 : World) (a0 : UInt64) (r : Int) (hO : ∀ b, b < w0.heap.size → o0 b < 10) (hG : Gl GG o0 w0) (H : bits_TrailingZeros64.f a0 = some r) :
    Calls Tryd.prog 47 [enc64 a0].toArray w0 fun e_ w_ => ∃ (o_ : Tags), e_ = .returned (one [.int .i64 r]) ∧ Step o0 w0 o_ w_ [] := by
  have HF := Fm.refl hO []
  unfold bits_TrailingZeros64.f at H
  refine SX.calls [enc64 a0] Tryd.func47 rfl rfl ?_
  rw [Tryd.ntmps47]
  refine WC.seq ?_
  refine WC.region ?_
  refine WL.ex rfl (ex_assign (v := .int .i64 0) rfl) ?_
  refine WL.nil ?_
  refine WC.seq ?_
  refine WC.seq ?_
  refine WC.region ?_
  refine WL.ex rfl (ex_move (v := enc64 a0) rfl) ?_
  refine WL.ex rfl (ex_bin (a := enc64 a0) (b := enc64 (0 : UInt64)) (v := .bool (a0 == (0 : UInt64))) rfl rfl bin_eql_u64) ?_
  refine WL.nil ?_
  rcases condE H with ⟨c101, H⟩ | ⟨c101, H⟩
  ·
    refine WC.cond_t ((show _ = Value.bool (a0 == (0 : UInt64)) from rfl).trans (congrArg Value.bool c101)) ?_
    refine WC.seq ?_
    refine WC.region ?_
    refine WL.ex rfl (ex_assign (v := .int .i64 64) rfl) ?_
    refine WL.nil ?_
    refine WC.ret ?_
    obtain rfl := Option.some.inj H
    exact ⟨_, (.tmp (.int .i64 64 : Value) rfl .nil), _, rfl, HF.out⟩
  ·
    refine WC.cond_f ((show _ = Value.bool (a0 == (0 : UInt64)) from rfl).trans (congrArg Value.bool c101)) ?_
    refine WC.skip ?_
    refine WC.seq ?_
    refine WC.region ?_
    refine WL.ex rfl (ex_move (v := enc64 a0) rfl) ?_
    refine WL.ex rfl (ex_move (v := enc64 a0) rfl) ?_
    refine WL.ex rfl (ex_neg_u64 (a := a0) rfl) ?_
    refine WL.ex rfl (ex_bin (a := enc64 a0) (b := enc64 (0 - a0)) (v := enc64 (a0 &&& (0 - a0))) rfl rfl bin_and_u64) ?_
    refine WL.ex rfl (ex_bin (a := enc64 (a0 &&& (0 - a0))) (b := enc64 (285870213051353865 : UInt64)) (v := enc64 ((a0 &&& (0 - a0)) * (285870213051353865 : UInt64))) rfl rfl bin_mul_u64) ?_
    refine WL.ex rfl (ex_bin (a := enc64 ((a0 &&& (0 - a0)) * (285870213051353865 : UInt64))) (b := enc64 (58 : UInt64)) (v := enc64 (shr64 ((a0 &&& (0 - a0)) * (285870213051353865 : UInt64)) 58)) rfl rfl (bin_shr_u64n (n := 58))) ?_
    obtain ⟨x102, hx102, H⟩ := bindE H
    refine WL.ex rfl (ex_indexArrB (xs := db64) (i := ((shr64 ((a0 &&& (0 - a0)) * (285870213051353865 : UInt64)) 58).toNat : Int)) rfl rfl Tryd.underlying82 sz5 rfl hx102) ?_
    refine WL.ex rfl (ex_load1 (v := enc8 x102) rfl Tryd.underlying5 rfl (tab8_cell (xs := db64) (by kernel_rfl) hG.2.2.2.1 hx102)) ?_
    refine WL.ex rfl (ex_conv_small (a := (x102.toNat : Int)) rfl Tryd.underlying5 Tryd.underlying3 (small8 x102)) ?_
    refine WL.ex rfl (ex_assign (v := .int .i64 (x102.toNat : Int)) rfl) ?_
    refine WL.nil ?_
    refine WC.ret ?_
    obtain rfl := Option.some.inj H
    exact ⟨_, (.tmp (.int .i64 (x102.toNat : Int) : Value) rfl .nil), _, rfl, HF.out⟩

/-! ### bits_Next -/
set_option maxRecDepth 100000 in
theorem bits_Next.calls (k : Nat) (o0 : Tags) (w0 : World) (a0 : (List UInt64)) (a1 : Int) (r : Int × Bool) (hO : ∀ b, b < w0.heap.size → o0 b < 10) (hla0 : a0.length = 16) (hG : Gl GG o0 w0) (H : bits_Next.f k a0 a1 = some r) :
    Calls Tryd.prog 13 [.agg (List.map enc64 a0).toArray, .int .i64 a1].toArray w0 fun e_ w_ => ∃ (o_ : Tags), e_ = .returned (one [.int .i64 r.1, .bool r.2]) ∧ Step o0 w0 o_ w_ [] := by
  have HF := Fm.refl hO []
  unfold bits_Next.f at H
  refine SX.calls [.agg (List.map enc64 a0).toArray, .int .i64 a1] Tryd.func13 rfl rfl ?_
  rw [Tryd.ntmps13]
  refine WC.seq ?_
  refine WC.region ?_
  refine WL.op rfl ?_
  refine OW.box' (List.map enc64 a0) 10 HF rfl ((congrArg Value.cells (show ev _ _ = (.agg (List.map enc64 a0).toArray : Value) from rfl)).trans rfl) ?_
  intro o102 w103 b101 s104 hB105
  replace hG := hG.step s104 rfl
  replace HF := HF.step s104 rfl
  refine WL.ex rfl (ex_assign (v := .int .i64 0) rfl) ?_
  refine WL.ex rfl (ex_assign (v := .bool false) rfl) ?_
  refine WL.nil ?_
  refine WC.seq ?_
  refine WC.region ?_
  refine WL.ex rfl (ex_move (v := .int .i64 a1) rfl) ?_
  refine WL.ex rfl (ex_max (a := a1) (b := 0) rfl rfl) ?_
  refine WL.ex rfl (ex_assign (v := .int .i64 (if 0 > a1 then 0 else a1)) rfl) ?_
  refine WL.nil ?_
  refine WC.seq ?_
  refine WC.seq ?_
  refine WC.region ?_
  refine WL.ex rfl (ex_move (v := .int .i64 (if 0 > a1 then 0 else a1)) rfl) ?_
  obtain ⟨z106, hz106, H⟩ := bindE H
  refine WL.op rfl ?_
  refine OW.call [.int .i64 (if 0 > a1 then 0 else a1)] rfl Tryd.func46 (by kernel_rfl) (by kernel_rfl) (map_cons' rfl rfl) (bits_inside.calls _ _ (if 0 > a1 then 0 else a1) z106 (HF.ten (V := [0]) (L := []) rfl)  hz106) ?_
  rintro _ w107 ⟨o108, rfl, s109⟩
  refine ⟨_, rfl, ?_⟩
  replace s109 := un_stepL (J := []) (L' := []) s109 rfl rfl
  replace hG := hG.step s109 rfl
  replace hB105 := hB105.step s109 rfl
  replace HF := HF.step s109 rfl
  refine WL.ex rfl (ex_not (b := z106) rfl) ?_
  refine WL.nil ?_
  rcases condE H with ⟨c110, H⟩ | ⟨c110, H⟩
  ·
    refine WC.cond_t ((show _ = Value.bool (!z106) from rfl).trans (congrArg Value.bool c110)) ?_
    refine WC.seq ?_
    refine WC.region ?_
    refine WL.ex rfl (ex_assign (v := .int .i64 0) rfl) ?_
    refine WL.ex rfl (ex_assign (v := .bool false) rfl) ?_
    refine WL.nil ?_
    refine WC.ret ?_
    obtain rfl := Option.some.inj H
    exact ⟨_, (.tmp (.int .i64 0 : Value) rfl (.tmp (.bool false : Value) rfl .nil)), _, rfl, HF.out⟩
  ·
    refine WC.cond_f ((show _ = Value.bool (!z106) from rfl).trans (congrArg Value.bool c110)) ?_
    refine WC.skip ?_
    refine WC.seq ?_
    refine WC.regionD' HF [10] 10 (by kernel_rfl) rfl ?_
    intro w111 s112
    replace hG := hG.step s112 rfl
    replace hB105 := hB105.step s112 rfl
    replace HF := HF.step s112 rfl
    have hGD := hG
    have hB105D := hB105
    have sR := HF.here [10]
    refine WA.norm (listed' := #[false, false, false, false, false, false, false, false, false, false]) (by kernel_rfl) ?_
    refine WA.ex 0 rfl (by kernel_rfl) (by kernel_rfl) (by kernel_rfl) rfl ⟨_, sR⟩ (fun w_ hS_ => ex_move (v := .int .i64 (if 0 > a1 then 0 else a1)) rfl) ?_
    refine WA.norm (listed' := #[true, false, false, false, false, false, false, false, false, false]) (by kernel_rfl) ?_
    refine WA.ex 1 rfl (by kernel_rfl) (by kernel_rfl) (by kernel_rfl) rfl ⟨_, sR⟩ (fun w_ hS_ => ex_bin (a := .int .i64 (if 0 > a1 then 0 else a1)) (b := .int .i64 64) (v := .int .i64 (wrap64 ((if 0 > a1 then 0 else a1).tdiv 64))) rfl rfl (bin_quo64 (by decide))) ?_
    refine WA.norm (listed' := #[true, true, false, false, false, false, false, false, false, false]) (by kernel_rfl) ?_
    obtain ⟨x113, hx113, H⟩ := bindE H
    refine WA.ex 2 rfl (by kernel_rfl) (by kernel_rfl) (by kernel_rfl) rfl ⟨_, sR⟩ (fun w_ hS_ => ex_indexArrB (i := (wrap64 ((if 0 > a1 then 0 else a1).tdiv 64))) (xs := a0) rfl rfl Tryd.underlying24 sz22 hla0 hx113) ?_
    refine WA.norm (listed' := #[true, true, true, false, false, false, false, false, false, false]) (by kernel_rfl) ?_
    refine WA.ex 4 rfl (by kernel_rfl) (by kernel_rfl) (by kernel_rfl) rfl ⟨_, sR⟩ (fun w_ hS_ => ex_move (v := .int .i64 (if 0 > a1 then 0 else a1)) rfl) ?_
    refine WA.norm (listed' := #[true, true, true, false, true, false, false, false, false, false]) (by kernel_rfl) ?_
    refine WA.ex 5 rfl (by kernel_rfl) (by kernel_rfl) (by kernel_rfl) rfl ⟨_, sR⟩ (fun w_ hS_ => ex_bin (a := .int .i64 (if 0 > a1 then 0 else a1)) (b := .int .i64 64) (v := .int .i64 ((if 0 > a1 then 0 else a1).tmod 64)) rfl rfl (bin_rem64 (by decide))) ?_
    refine WA.norm (listed' := #[true, true, true, false, true, true, false, false, false, false]) (by kernel_rfl) ?_
    obtain ⟨u114, hu114, H⟩ := bindE H
    refine WA.ex 6 rfl (by kernel_rfl) (by kernel_rfl) (by kernel_rfl) rfl ⟨_, sR⟩ (fun w_ hS_ => ex_bin (a := enc64 (18446744073709551615 : UInt64)) (b := .int .i64 ((if 0 > a1 then 0 else a1).tmod 64)) (v := enc64 (shl64 (18446744073709551615 : UInt64) ((if 0 > a1 then 0 else a1).tmod 64).toNat)) rfl rfl (bin_shl_u64 (of_decide_eq_true (chk_true hu114)))) ?_
    refine WA.norm (listed' := #[true, true, true, false, true, true, true, false, false, false]) (by kernel_rfl) ?_
    refine WA.one 3 (by kernel_rfl) rfl rfl ?_
    refine OW.ex rfl (ex_loadAE (enc := enc64) rfl Tryd.underlying22 rfl hB105 hx113) ?_
    refine ⟨⟨_, sR⟩, ?_⟩
    refine WA.norm (listed' := #[true, true, true, true, true, true, true, false, false, false]) (by kernel_rfl) ?_
    refine WA.ex 7 rfl (by kernel_rfl) (by kernel_rfl) (by kernel_rfl) rfl ⟨_, sR⟩ (fun w_ hS_ => ex_bin (a := enc64 x113) (b := enc64 (shl64 (18446744073709551615 : UInt64) ((if 0 > a1 then 0 else a1).tmod 64).toNat)) (v := enc64 (x113 &&& (shl64 (18446744073709551615 : UInt64) ((if 0 > a1 then 0 else a1).tmod 64).toNat))) rfl rfl bin_and_u64) ?_
    refine WA.norm (listed' := #[true, true, true, true, true, true, true, true, false, false]) (by kernel_rfl) ?_
    obtain ⟨x115, hx115, H⟩ := bindE H
    refine WA.ex 8 rfl (by kernel_rfl) (by kernel_rfl) (by kernel_rfl) rfl ⟨_, sR⟩ (fun w_ hS_ => ex_indexArrB (i := (wrap64 ((if 0 > a1 then 0 else a1).tdiv 64))) (xs := a0) rfl rfl Tryd.underlying24 sz22 hla0 hx115) ?_
    refine WA.norm (listed' := #[true, true, true, true, true, true, true, true, true, false]) (by kernel_rfl) ?_
    refine WA.one 9 (by kernel_rfl) rfl rfl ?_
    refine OW.storeAE (enc := enc64) (c := (x113 &&& (shl64 (18446744073709551615 : UInt64) ((if 0 > a1 then 0 else a1).tmod 64).toNat))) rfl rfl (cells64) (fun _ => rfl) sz22 hB105 hx115 ?_
    intro w116 s117 hB118
    replace hG := hG.step s117 rfl
    replace HF := HF.step s117 rfl
    replace sR := Step.trans sR s117 (M := [10]) rfl rfl
    have hl119 := len_set (i := (wrap64 ((if 0 > a1 then 0 else a1).tdiv 64)).toNat) (a := (x113 &&& (shl64 (18446744073709551615 : UInt64) ((if 0 > a1 then 0 else a1).tmod 64).toNat))) hla0
    refine ⟨⟨_, sR⟩, ?_⟩
    refine WA.norm (listed' := #[true, true, true, true, true, true, true, true, true, true]) (by kernel_rfl) ?_
    refine WA.done (by kernel_rfl) ?_
    refine WC.seq ?_
    refine WC.seq ?_
    refine WC.region ?_
    refine WL.ex rfl (ex_move (v := .int .i64 (if 0 > a1 then 0 else a1)) rfl) ?_
    refine WL.ex rfl (ex_bin (a := .int .i64 (if 0 > a1 then 0 else a1)) (b := .int .i64 64) (v := .int .i64 (wrap64 ((if 0 > a1 then 0 else a1).tdiv 64))) rfl rfl (bin_quo64 (by decide))) ?_
    refine WL.ex rfl (ex_assign (v := .int .i64 (wrap64 ((if 0 > a1 then 0 else a1).tdiv 64))) rfl) ?_
    refine WL.nil ?_
    obtain ⟨z121, hz121, H⟩ := bindE H
    refine WC.for (fun k_ ρ_ w_ => ∃ (o_ : Tags) (x120 : Int), Fm o0 w0 o_ w_ [] ∧ Bk o_ w_ 10 b101 (List.map enc64 (a0.set (wrap64 ((if 0 > a1 then 0 else a1).tdiv 64)).toNat (x113 &&& (shl64 (18446744073709551615 : UInt64) ((if 0 > a1 then 0 else a1).tmod 64).toNat)))) 24 ∧ Gl GG o_ w_ ∧ ρ_ 2 = .pointer (some ⟨b101, 0, none⟩) ∧ ρ_ 4 = .int .i64 0 ∧ ρ_ 5 = .bool false ∧ ρ_ 6 = .int .i64 x120 ∧ bits_Next.l1 k a0 a1 x113 k_ x120 = some z121) k (fun ρ_ w_ => ∃ (o_ : Tags), Fm o0 w0 o_ w_ [] ∧ Gl GG o_ w_ ∧ ρ_ 4 = .int .i64 0 ∧ ρ_ 5 = .bool false ∧ z121 = .inr ()) ⟨_, wrap64 ((if 0 > a1 then 0 else a1).tdiv 64), HF, hB118, hG, rfl, rfl, rfl, rfl, hz121⟩ ?case122 ?_
    case case122 =>
      rintro ρ136 w137 ⟨o138, HF, hG, s4_120, s5_120, rfl⟩
      dsimp only at H
      refine WC.seq ?_
      refine WC.region ?_
      refine WL.ex rfl (ex_assign (v := .int .i64 0) rfl) ?_
      refine WL.ex rfl (ex_assign (v := .bool false) rfl) ?_
      refine WL.nil ?_
      refine WC.ret ?_
      obtain rfl := Option.some.inj H
      exact ⟨_, (.tmp (.int .i64 0 : Value) rfl (.tmp (.bool false : Value) rfl .nil)), _, rfl, HF.out⟩
    have Ho123 := H
    rintro k124 ρ125 w126 ⟨o127, x120, HF, hB118, hG, s2_119, s4_119, s5_119, s6_120, H⟩
    cases k124 with
    | zero => cases H
    | succ k124 =>
    rw [bits_Next.l1.eq_2] at H
    refine WC.seq ?_
    refine WC.seq ?_
    refine WC.region ?_
    refine WL.ex rfl (ex_move (v := .int .i64 x120) s6_120) ?_
    refine WL.ex rfl (ex_bin (a := .int .i64 x120) (b := .int .i64 16) (v := .bool (decide (x120 < 16))) rfl rfl bin_lss) ?_
    refine WL.nil ?_
    rcases condE H with ⟨c128, H⟩ | ⟨c128, H⟩
    ·
      refine WC.cond_t ((show _ = Value.bool (decide (x120 < 16)) from rfl).trans (congrArg Value.bool c128)) ?_
      refine WC.skip ?_
      refine WC.seq ?_
      refine WC.block ?_
      refine WC.seq ?_
      refine WC.region ?_
      refine WL.ex rfl (ex_move (v := .int .i64 x120) s6_120) ?_
      obtain ⟨x129, hx129, H⟩ := bindE H
      refine WL.ex rfl (ex_indexArrB (i := x120) (xs := (a0.set (wrap64 ((if 0 > a1 then 0 else a1).tdiv 64)).toNat (x113 &&& (shl64 (18446744073709551615 : UInt64) ((if 0 > a1 then 0 else a1).tmod 64).toNat)))) s2_119 rfl Tryd.underlying24 sz22 hl119 hx129) ?_
      refine WL.ex rfl (ex_loadAE (enc := enc64) rfl Tryd.underlying22 rfl hB118 hx129) ?_
      refine WL.ex rfl (ex_bin (a := enc64 x129) (b := enc64 (0 : UInt64)) (v := .bool (!(x129 == (0 : UInt64)))) rfl rfl bin_neq_u64) ?_
      refine WL.nil ?_
      rcases condE H with ⟨c130, H⟩ | ⟨c130, H⟩
      ·
        refine WC.cond_t ((show _ = Value.bool (!(x129 == (0 : UInt64))) from rfl).trans (congrArg Value.bool c130)) ?_
        refine WC.seq ?_
        refine WC.region ?_
        refine WL.ex rfl (ex_move (v := .int .i64 x120) s6_120) ?_
        refine WL.ex rfl (ex_bin (a := .int .i64 64) (b := .int .i64 x120) (v := .int .i64 (wrap64 (64 * x120))) rfl rfl bin_mul64) ?_
        refine WL.ex rfl (ex_move (v := .int .i64 x120) s6_120) ?_
        obtain ⟨x131, hx131, H⟩ := bindE H
        refine WL.ex rfl (ex_indexArrB (i := x120) (xs := (a0.set (wrap64 ((if 0 > a1 then 0 else a1).tdiv 64)).toNat (x113 &&& (shl64 (18446744073709551615 : UInt64) ((if 0 > a1 then 0 else a1).tmod 64).toNat)))) s2_119 rfl Tryd.underlying24 sz22 hl119 hx131) ?_
        refine WL.ex rfl (ex_loadAE (enc := enc64) rfl Tryd.underlying22 rfl hB118 hx131) ?_
        obtain ⟨z132, hz132, H⟩ := bindE H
        refine WL.op rfl ?_
        refine OW.call [enc64 x131] rfl Tryd.func47 (by kernel_rfl) (by kernel_rfl) (map_cons' rfl rfl) (bits_TrailingZeros64.calls _ _ x131 z132 (HF.ten (V := [0]) (L := []) rfl) (Gl.vw (V := [0]) (L := []) hG rfl) hz132) ?_
        rintro _ w133 ⟨o134, rfl, s135⟩
        refine ⟨_, rfl, ?_⟩
        replace s135 := un_stepL (J := []) (L' := []) s135 rfl rfl
        replace hB118 := hB118.step s135 rfl
        replace hG := hG.step s135 rfl
        replace HF := HF.step s135 rfl
        refine WL.ex rfl (ex_bin (a := .int .i64 (wrap64 (64 * x120))) (b := .int .i64 z132) (v := .int .i64 (wrap64 ((wrap64 (64 * x120)) + z132))) rfl rfl bin_add64) ?_
        refine WL.ex rfl (ex_assign (v := .int .i64 (wrap64 ((wrap64 (64 * x120)) + z132))) rfl) ?_
        refine WL.ex rfl (ex_assign (v := .bool true) rfl) ?_
        refine WL.nil ?_
        refine WC.ret ?_
        obtain rfl := Option.some.inj H
        replace H := Ho123
        dsimp only at H
        obtain rfl := Option.some.inj H
        exact ⟨_, (.tmp (.int .i64 (wrap64 ((wrap64 (64 * x120)) + z132)) : Value) rfl (.tmp (.bool true : Value) rfl .nil)), _, rfl, HF.out⟩
      ·
        refine WC.cond_f ((show _ = Value.bool (!(x129 == (0 : UInt64))) from rfl).trans (congrArg Value.bool c130)) ?_
        refine WC.skip ?_
        refine WC.region ?_
        refine WL.ex rfl (ex_move (v := .int .i64 x120) s6_120) ?_
        refine WL.ex rfl (ex_bin (a := .int .i64 x120) (b := .int .i64 1) (v := .int .i64 (wrap64 (x120 + 1))) rfl rfl bin_add64) ?_
        refine WL.ex rfl (ex_assign (v := .int .i64 (wrap64 (x120 + 1))) rfl) ?_
        refine WL.nil ?_
        exact ⟨k124, Nat.lt_succ_self _, ⟨_, wrap64 (x120 + 1), HF, hB118, hG, s2_119, s4_119, s5_119, rfl, H⟩⟩
    ·
      refine WC.cond_f ((show _ = Value.bool (decide (x120 < 16)) from rfl).trans (congrArg Value.bool c128)) ?_
      refine WC.exit ?_
      obtain rfl := Option.some.inj H
      exact ⟨_, HF, hG, s4_119, s5_119, rfl⟩

/-! ### bits_Has -/
set_option maxRecDepth 100000 in
theorem bits_Has.calls (o0 : Tags) (w0 : World) (a0 : (List UInt64)) (a1 : Int) (r : Bool) (hO : ∀ b, b < w0.heap.size → o0 b < 10) (hla0 : a0.length = 16) (H : bits_Has.f a0 a1 = some r) :
    Calls Tryd.prog 32 [.agg (List.map enc64 a0).toArray, .int .i64 a1].toArray w0 fun e_ w_ => ∃ (o_ : Tags), e_ = .returned (one [.bool r]) ∧ Step o0 w0 o_ w_ [] := by
  have HF := Fm.refl hO []
  unfold bits_Has.f at H
  refine SX.calls [.agg (List.map enc64 a0).toArray, .int .i64 a1] Tryd.func32 rfl rfl ?_
  rw [Tryd.ntmps32]
  refine WC.seq ?_
  refine WC.region ?_
  refine WL.op rfl ?_
  refine OW.box' (List.map enc64 a0) 10 HF rfl ((congrArg Value.cells (show ev _ _ = (.agg (List.map enc64 a0).toArray : Value) from rfl)).trans rfl) ?_
  intro o102 w103 b101 s104 hB105
  replace HF := HF.step s104 rfl
  refine WL.ex rfl (ex_assign (v := .bool false) rfl) ?_
  refine WL.nil ?_
  refine WC.seq ?_
  refine WC.region ?_
  refine WL.ex rfl (ex_move (v := .int .i64 a1) rfl) ?_
  obtain ⟨z106, hz106, H⟩ := bindE H
  refine WL.op rfl ?_
  refine OW.call [.int .i64 a1] rfl Tryd.func46 (by kernel_rfl) (by kernel_rfl) (map_cons' rfl rfl) (bits_inside.calls _ _ a1 z106 (HF.ten (V := [0]) (L := []) rfl)  hz106) ?_
  rintro _ w107 ⟨o108, rfl, s109⟩
  refine ⟨_, rfl, ?_⟩
  replace s109 := un_stepL (J := []) (L' := []) s109 rfl rfl
  replace hB105 := hB105.step s109 rfl
  replace HF := HF.step s109 rfl
  refine WL.ex rfl (ex_move (v := .bool z106) rfl) ?_
  rcases condE H with ⟨c110, H⟩ | ⟨c110, H⟩
  ·
    refine WL.guardYes rfl rfl rfl ((show _ = Value.bool z106 from rfl).trans (congrArg Value.bool c110)) ?_
    refine OW.ex rfl (ex_move (v := .int .i64 a1) rfl) ?_
    refine WL.guardYes rfl rfl rfl ((show _ = Value.bool z106 from rfl).trans (congrArg Value.bool c110)) ?_
    refine OW.ex rfl (ex_bin (a := .int .i64 a1) (b := .int .i64 64) (v := .int .i64 (wrap64 (a1.tdiv 64))) rfl rfl (bin_quo64 (by decide))) ?_
    refine WL.guardYes rfl rfl rfl ((show _ = Value.bool z106 from rfl).trans (congrArg Value.bool c110)) ?_
    obtain ⟨x111, hx111, H⟩ := bindE H
    refine OW.ex rfl (ex_indexArrB (i := (wrap64 (a1.tdiv 64))) (xs := a0) rfl rfl Tryd.underlying24 sz22 hla0 hx111) ?_
    refine WL.guardYes rfl rfl rfl ((show _ = Value.bool z106 from rfl).trans (congrArg Value.bool c110)) ?_
    refine OW.ex rfl (ex_loadAE (enc := enc64) rfl Tryd.underlying22 rfl hB105 hx111) ?_
    refine WL.guardYes rfl rfl rfl ((show _ = Value.bool z106 from rfl).trans (congrArg Value.bool c110)) ?_
    refine OW.ex rfl (ex_move (v := .int .i64 a1) rfl) ?_
    refine WL.guardYes rfl rfl rfl ((show _ = Value.bool z106 from rfl).trans (congrArg Value.bool c110)) ?_
    refine OW.ex rfl (ex_bin (a := .int .i64 a1) (b := .int .i64 64) (v := .int .i64 (a1.tmod 64)) rfl rfl (bin_rem64 (by decide))) ?_
    refine WL.guardYes rfl rfl rfl ((show _ = Value.bool z106 from rfl).trans (congrArg Value.bool c110)) ?_
    obtain ⟨u112, hu112, H⟩ := bindE H
    refine OW.ex rfl (ex_bin (a := enc64 x111) (b := .int .i64 (a1.tmod 64)) (v := enc64 (shr64 x111 (a1.tmod 64).toNat)) rfl rfl (bin_shr_u64 (of_decide_eq_true (chk_true hu112)))) ?_
    refine WL.guardYes rfl rfl rfl ((show _ = Value.bool z106 from rfl).trans (congrArg Value.bool c110)) ?_
    refine OW.ex rfl (ex_bin (a := enc64 (shr64 x111 (a1.tmod 64).toNat)) (b := enc64 (1 : UInt64)) (v := enc64 ((shr64 x111 (a1.tmod 64).toNat) &&& (1 : UInt64))) rfl rfl bin_and_u64) ?_
    refine WL.guardYes rfl rfl rfl ((show _ = Value.bool z106 from rfl).trans (congrArg Value.bool c110)) ?_
    refine OW.ex rfl (ex_bin (a := enc64 ((shr64 x111 (a1.tmod 64).toNat) &&& (1 : UInt64))) (b := enc64 (1 : UInt64)) (v := .bool (((shr64 x111 (a1.tmod 64).toNat) &&& (1 : UInt64)) == (1 : UInt64))) rfl rfl bin_eql_u64) ?_
    refine WL.ex rfl (ex_pick_t (v := .bool (((shr64 x111 (a1.tmod 64).toNat) &&& (1 : UInt64)) == (1 : UInt64))) ((show _ = Value.bool z106 from rfl).trans (congrArg Value.bool c110)) rfl) ?_
    refine WL.ex rfl (ex_assign (v := .bool (((shr64 x111 (a1.tmod 64).toNat) &&& (1 : UInt64)) == (1 : UInt64))) rfl) ?_
    refine WL.nil ?_
    refine WC.ret ?_
    obtain rfl := Option.some.inj H
    exact ⟨_, (.tmp (.bool (((shr64 x111 (a1.tmod 64).toNat) &&& (1 : UInt64)) == (1 : UInt64)) : Value) rfl .nil), _, rfl, HF.out⟩
  ·
    refine WL.guardNo rfl rfl rfl ((show _ = Value.bool z106 from rfl).trans (congrArg Value.bool c110)) ?_
    refine WL.guardNo rfl rfl rfl ((show _ = Value.bool z106 from rfl).trans (congrArg Value.bool c110)) ?_
    refine WL.guardNo rfl rfl rfl ((show _ = Value.bool z106 from rfl).trans (congrArg Value.bool c110)) ?_
    refine WL.guardNo rfl rfl rfl ((show _ = Value.bool z106 from rfl).trans (congrArg Value.bool c110)) ?_
    refine WL.guardNo rfl rfl rfl ((show _ = Value.bool z106 from rfl).trans (congrArg Value.bool c110)) ?_
    refine WL.guardNo rfl rfl rfl ((show _ = Value.bool z106 from rfl).trans (congrArg Value.bool c110)) ?_
    refine WL.guardNo rfl rfl rfl ((show _ = Value.bool z106 from rfl).trans (congrArg Value.bool c110)) ?_
    refine WL.guardNo rfl rfl rfl ((show _ = Value.bool z106 from rfl).trans (congrArg Value.bool c110)) ?_
    refine WL.guardNo rfl rfl rfl ((show _ = Value.bool z106 from rfl).trans (congrArg Value.bool c110)) ?_
    refine WL.ex rfl (ex_pick_f (v := .bool false) ((show _ = Value.bool z106 from rfl).trans (congrArg Value.bool c110)) rfl) ?_
    refine WL.ex rfl (ex_assign (v := .bool false) rfl) ?_
    refine WL.nil ?_
    refine WC.ret ?_
    obtain rfl := Option.some.inj H
    exact ⟨_, (.tmp (.bool false : Value) rfl .nil), _, rfl, HF.out⟩

/-! ### bits_Compare -/
set_option maxRecDepth 100000 in
theorem bits_Compare.calls (k : Nat) (o0 : Tags) (w0 : World) (a0 : (List UInt64)) (a1 : (List UInt64)) (r : Int) (hO : ∀ b, b < w0.heap.size → o0 b < 10) (hla0 : a0.length = 16) (hla1 : a1.length = 16) (hG : Gl GG o0 w0) (H : bits_Compare.f k a0 a1 = some r) :
    Calls Tryd.prog 25 [.agg (List.map enc64 a0).toArray, .agg (List.map enc64 a1).toArray].toArray w0 fun e_ w_ => ∃ (o_ : Tags), e_ = .returned (one [.int .i64 r]) ∧ Step o0 w0 o_ w_ [] := by
  have HF := Fm.refl hO []
  unfold bits_Compare.f at H
  refine SX.calls [.agg (List.map enc64 a0).toArray, .agg (List.map enc64 a1).toArray] Tryd.func25 rfl rfl ?_
  rw [Tryd.ntmps25]
  refine WC.seq ?_
  refine WC.region ?_
  refine WL.op rfl ?_
  refine OW.box' (List.map enc64 a0) 10 HF rfl ((congrArg Value.cells (show ev _ _ = (.agg (List.map enc64 a0).toArray : Value) from rfl)).trans rfl) ?_
  intro o102 w103 b101 s104 hB105
  replace hG := hG.step s104 rfl
  replace HF := HF.step s104 rfl
  refine WL.op rfl ?_
  refine OW.box' (List.map enc64 a1) 11 HF rfl ((congrArg Value.cells (show ev _ _ = (.agg (List.map enc64 a1).toArray : Value) from rfl)).trans rfl) ?_
  intro o107 w108 b106 s109 hB110
  replace hG := hG.step s109 rfl
  replace hB105 := hB105.step s109 rfl
  replace HF := HF.step s109 rfl
  refine WL.ex rfl (ex_assign (v := .int .i64 0) rfl) ?_
  refine WL.nil ?_
  refine WC.seq ?_
  refine WC.region ?_
  refine WL.ex rfl (ex_loadAV (xs := a0) rfl Tryd.underlying24 sz24 hla0 hB105) ?_
  refine WL.ex rfl (ex_loadAV (xs := a1) rfl Tryd.underlying24 sz24 hla1 hB110) ?_
  obtain ⟨z111, hz111, H⟩ := bindE H
  refine WL.op rfl ?_
  refine OW.call [.agg (List.map enc64 a0).toArray, .agg (List.map enc64 a1).toArray, .func (.func 53) #[] #[]] rfl Tryd.func48 (by kernel_rfl) (by kernel_rfl) (map_cons' rfl (map_cons' rfl (map_cons' rfl rfl))) (bits_each_bits_Compare_1.calls k _ _ a0 a1 z111 (HF.ten (V := [0]) (L := []) rfl) hla0 hla1 hz111) ?_
  rintro _ w112 ⟨o113, rfl, s114, hl115⟩
  refine ⟨_, rfl, ?_⟩
  replace s114 := un_stepL (J := []) (L' := []) s114 rfl rfl
  replace hG := hG.step s114 rfl
  replace hB105 := hB105.step s114 rfl
  replace hB110 := hB110.step s114 rfl
  replace HF := HF.step s114 rfl
  obtain ⟨z116, hz116, H⟩ := bindE H
  refine WL.op rfl ?_
  refine OW.call [.agg (List.map enc64 z111).toArray, .int .i64 0] rfl Tryd.func13 (by kernel_rfl) (by kernel_rfl) (map_cons' rfl (map_cons' rfl rfl)) (bits_Next.calls k _ _ z111 0 z116 (HF.ten (V := [0]) (L := []) rfl) hl115 (Gl.vw (V := [0]) (L := []) hG rfl) hz116) ?_
  rintro _ w117 ⟨o118, rfl, s119⟩
  refine ⟨_, rfl, ?_⟩
  replace s119 := un_stepL (J := []) (L' := []) s119 rfl rfl
  replace hG := hG.step s119 rfl
  replace hB105 := hB105.step s119 rfl
  replace hB110 := hB110.step s119 rfl
  replace HF := HF.step s119 rfl
  refine WL.ex rfl (ex_move (v := .tuple #[.int .i64 z116.1, .bool z116.2]) rfl) ?_
  refine WL.ex rfl (ex_extract (vs := #[.int .i64 z116.1, .bool z116.2]) (v := .int .i64 z116.1) rfl rfl) ?_
  refine WL.ex rfl (ex_extract (vs := #[.int .i64 z116.1, .bool z116.2]) (v := .bool z116.2) rfl rfl) ?_
  refine WL.ex rfl (ex_assign (v := .int .i64 z116.1) rfl) ?_
  refine WL.ex rfl (ex_assign (v := .bool z116.2) rfl) ?_
  refine WL.nil ?_
  refine WC.seq ?_
  refine WC.block ?_
  refine WC.seq ?_
  refine WC.region ?_
  refine WL.ex rfl (ex_move (v := .bool z116.2) rfl) ?_
  refine WL.ex rfl (ex_not (b := z116.2) rfl) ?_
  refine WL.ex rfl (ex_assign (v := .bool (!z116.2)) rfl) ?_
  refine WL.nil ?_
  rcases condE H with ⟨c120, H⟩ | ⟨c120, H⟩
  ·
    refine WC.cond_t ((show _ = Value.bool (!z116.2) from rfl).trans (congrArg Value.bool c120)) ?_
    refine WC.seq ?_
    refine WC.region ?_
    refine WL.ex rfl (ex_assign (v := .int .i64 0) rfl) ?_
    refine WL.nil ?_
    refine WC.ret ?_
    obtain rfl := Option.some.inj H
    exact ⟨_, (.tmp (.int .i64 0 : Value) rfl .nil), _, rfl, HF.out⟩
  ·
    refine WC.cond_f ((show _ = Value.bool (!z116.2) from rfl).trans (congrArg Value.bool c120)) ?_
    refine WC.seq ?_
    refine WC.region ?_
    refine WL.ex rfl (ex_loadAV (xs := a0) rfl Tryd.underlying24 sz24 hla0 hB105) ?_
    refine WL.ex rfl (ex_move (v := .int .i64 z116.1) rfl) ?_
    obtain ⟨z121, hz121, H⟩ := bindE H
    refine WL.op rfl ?_
    refine OW.call [.agg (List.map enc64 a0).toArray, .int .i64 z116.1] rfl Tryd.func32 (by kernel_rfl) (by kernel_rfl) (map_cons' rfl (map_cons' rfl rfl)) (bits_Has.calls _ _ a0 z116.1 z121 (HF.ten (V := [0]) (L := []) rfl) hla0 hz121) ?_
    rintro _ w122 ⟨o123, rfl, s124⟩
    refine ⟨_, rfl, ?_⟩
    replace s124 := un_stepL (J := []) (L' := []) s124 rfl rfl
    replace hG := hG.step s124 rfl
    replace hB105 := hB105.step s124 rfl
    replace hB110 := hB110.step s124 rfl
    replace HF := HF.step s124 rfl
    refine WL.ex rfl (ex_assign (v := .bool z121) rfl) ?_
    refine WL.nil ?_
    rcases condE H with ⟨c125, H⟩ | ⟨c125, H⟩
    ·
      refine WC.cond_t ((show _ = Value.bool z121 from rfl).trans (congrArg Value.bool c125)) ?_
      refine WC.seq ?_
      refine WC.region ?_
      refine WL.ex rfl (ex_assign (v := .int .i64 (-1)) rfl) ?_
      refine WL.nil ?_
      refine WC.ret ?_
      obtain rfl := Option.some.inj H
      exact ⟨_, (.tmp (.int .i64 (-1) : Value) rfl .nil), _, rfl, HF.out⟩
    ·
      refine WC.cond_f ((show _ = Value.bool z121 from rfl).trans (congrArg Value.bool c125)) ?_
      refine WC.skip ?_
      refine WC.seq ?_
      refine WC.region ?_
      refine WL.ex rfl (ex_assign (v := .int .i64 1) rfl) ?_
      refine WL.nil ?_
      refine WC.ret ?_
      obtain rfl := Option.some.inj H
      exact ⟨_, (.tmp (.int .i64 1 : Value) rfl .nil), _, rfl, HF.out⟩

/-! ### bits_Of -/
set_option maxRecDepth 100000 in
theorem bits_Of.calls (k : Nat) (o0 : Tags) (w0 : World) (pA0 : Option Addr) (pc0 : Nat) (a0 : (List Int)) (r : (List UInt64) × Int) (hO : ∀ b, b < w0.heap.size → o0 b < 10) (hra0 : Row (Rep.int .i64) (fun b_ => o0 b_ = 0) (fun b_ => o0 b_ = 0) w0 pA0 a0) (hla0 : a0.length ≤ pc0) (H : bits_Of.f k a0 = some r) :
    Calls Tryd.prog 28 [.slice pA0 a0.length pc0].toArray w0 fun e_ w_ => ∃ (o_ : Tags), e_ = .returned (one [.agg (List.map enc64 r.1).toArray, .int .i64 r.2]) ∧ Step o0 w0 o_ w_ [] ∧ r.1.length = 16 := by
  have HF := Fm.refl hO []
  unfold bits_Of.f at H
  refine SX.calls [.slice pA0 a0.length pc0] Tryd.func28 rfl rfl ?_
  rw [Tryd.ntmps28]
  refine WC.seq ?_
  refine WC.region ?_
  refine WL.op rfl ?_
  refine OW.alloc' (List.map enc64 (List.replicate 16 ((0 : UInt64)))) 10 HF rfl zr24 rfl ?_
  intro o102 w103 b101 s104 hB105
  replace hra0 := hra0.step s104 rfl
  replace HF := HF.step s104 rfl
  refine WL.ex rfl (ex_assign (v := .int .i64 0) rfl) ?_
  refine WL.nil ?_
  refine WC.seq ?_
  refine WC.region ?_
  refine WL.op rfl ?_
  refine OW.alloc' (List.map enc64 (List.replicate 16 ((0 : UInt64)))) 11 HF rfl zr24 rfl ?_
  intro o107 w108 b106 s109 hB110
  replace hra0 := hra0.step s109 rfl
  replace hB105 := hB105.step s109 rfl
  replace HF := HF.step s109 rfl
  refine WL.nil ?_
  refine WC.seq ?_
  refine WC.seq ?_
  refine WC.region ?_
  refine WL.ex rfl (ex_move (v := .slice pA0 a0.length pc0) rfl) ?_
  refine WL.ex rfl (ex_len_slice (A := pA0) (m := a0.length) (c := pc0) rfl Tryd.underlying38) ?_
  refine WL.ex rfl (ex_move (v := .int .i64 0) rfl) ?_
  refine WL.nil ?_
  obtain ⟨z116, hz116, H⟩ := bindE H
  refine WC.for (fun k_ ρ_ w_ => ∃ (o_ : Tags) (x111 : Int) (x112 : (List UInt64)), Fm o0 w0 o_ w_ [] ∧ Row (Rep.int .i64) (fun b_ => o_ b_ = 0) (fun b_ => o_ b_ = 0) w_ pA0 a0 ∧ Bk o_ w_ 10 b101 (List.map enc64 (List.replicate 16 ((0 : UInt64)))) 24 ∧ Bk o_ w_ 11 b106 (List.map enc64 x112) 24 ∧ x112.length = 16 ∧ ρ_ 2 = .pointer (some ⟨b101, 0, none⟩) ∧ ρ_ 3 = .int .i64 0 ∧ ρ_ 4 = .pointer (some ⟨b106, 0, none⟩) ∧ ρ_ 7 = .slice pA0 a0.length pc0 ∧ ρ_ 8 = .int .i64 (a0.length : Int) ∧ ρ_ 9 = .int .i64 x111 ∧ bits_Of.l1 k a0 k_ x111 x112 = some z116) k (fun ρ_ w_ => ∃ (o_ : Tags) (x114 : (List UInt64)), Fm o0 w0 o_ w_ [] ∧ Bk o_ w_ 10 b101 (List.map enc64 (List.replicate 16 ((0 : UInt64)))) 24 ∧ Bk o_ w_ 11 b106 (List.map enc64 x114) 24 ∧ x114.length = 16 ∧ ρ_ 2 = .pointer (some ⟨b101, 0, none⟩) ∧ ρ_ 3 = .int .i64 0 ∧ ρ_ 4 = .pointer (some ⟨b106, 0, none⟩) ∧ z116 = .inr x114) ⟨_, 0, (List.replicate 16 ((0 : UInt64))), HF, hra0, hB105, hB110, rfl, rfl, rfl, rfl, rfl, rfl, rfl, hz116⟩ ?case117 ?_
  case case117 =>
    rintro ρ148 w149 ⟨o150, x114, HF, hB105, hB110, hl115, s2_113, s3_113, s4_113, rfl⟩
    dsimp only at H
    refine WC.seq ?_
    refine WC.region ?_
    refine WL.ex rfl (ex_loadAV (xs := x114) s4_113 Tryd.underlying24 sz24 hl115 hB110) ?_
    refine WL.op rfl ?_
    refine OW.storeAV (ys := x114) s2_113 rfl (fun _ => rfl) sz24 rfl hl115 hB105 ?_
    intro w151 s152 hB153
    replace hB110 := hB110.step s152 rfl
    replace HF := HF.step s152 rfl
    refine WL.ex rfl (ex_assign (v := .int .i64 0) rfl) ?_
    refine WL.nil ?_
    refine WC.ret ?_
    obtain rfl := Option.some.inj H
    exact ⟨_, (.cell (.agg (List.map enc64 x114).toArray : Value) s2_113 (run_loadAV Tryd.underlying24 sz24 hl115 hB153) (.tmp (.int .i64 0 : Value) rfl .nil)), _, rfl, HF.out, hl115⟩
  have Ho118 := H
  rintro k119 ρ120 w121 ⟨o122, x111, x112, HF, hra0, hB105, hB110, hl113, s2_110, s3_110, s4_110, s7_110, s8_110, s9_111, H⟩
  cases k119 with
  | zero => cases H
  | succ k119 =>
  rw [bits_Of.l1.eq_2] at H
  refine WC.seq ?_
  refine WC.region ?_
  refine WL.ex rfl (ex_bin (a := .int .i64 x111) (b := .int .i64 (a0.length : Int)) (v := .bool (decide (x111 < (a0.length : Int)))) s9_111 s8_110 bin_lss) ?_
  refine WL.nil ?_
  refine WC.seq ?_
  rcases condE H with ⟨c123, H⟩ | ⟨c123, H⟩
  ·
    refine WC.cond_t ((show _ = Value.bool (decide (x111 < (a0.length : Int))) from rfl).trans (congrArg Value.bool c123)) ?_
    refine WC.skip ?_
    refine WC.seq ?_
    refine WC.block ?_
    refine WC.seq ?_
    refine WC.region ?_
    obtain ⟨x124, hx124, H⟩ := bindE H
    obtain ⟨ad125, e126, g127, g128, cell129⟩ := Row.ixS hra0 hx124
    refine WL.ex rfl (ex_indexAddr (i := x111) s7_110 e126 s9_111 Tryd.underlying38 sz3 g127 g128) ?_
    refine WL.ex rfl (ex_load1 (v := .int .i64 x124) rfl Tryd.underlying3 rfl cell129) ?_
    refine WL.ex rfl (ex_assign (v := .int .i64 x124) rfl) ?_
    refine WL.nil ?_
    refine WC.seq ?_
    refine WC.seq ?_
    refine WC.region ?_
    refine WL.ex rfl (ex_move (v := .int .i64 x124) rfl) ?_
    obtain ⟨z131, hz131, H⟩ := bindE H
    refine WL.op rfl ?_
    refine OW.call [.int .i64 x124] rfl Tryd.func46 (by kernel_rfl) (by kernel_rfl) (map_cons' rfl rfl) (bits_inside.calls _ _ x124 z131 (HF.ten (V := [0]) (L := []) rfl)  hz131) ?_
    rintro _ w132 ⟨o133, rfl, s134⟩
    refine ⟨_, rfl, ?_⟩
    replace s134 := un_stepL (J := []) (L' := []) s134 rfl rfl
    replace hra0 := hra0.step s134 rfl
    replace hB105 := hB105.step s134 rfl
    replace hB110 := hB110.step s134 rfl
    replace HF := HF.step s134 rfl
    refine WL.ex rfl (ex_not (b := z131) rfl) ?_
    refine WL.nil ?_
    rcases condE H with ⟨c135, H⟩ | ⟨c135, H⟩
    ·
      refine WC.cond_t ((show _ = Value.bool (!z131) from rfl).trans (congrArg Value.bool c135)) ?_
      refine WC.seq ?_
      refine WC.region ?_
      refine WL.ex rfl (ex_buildArr (cs := List.map enc64 (List.replicate 16 ((0 : UInt64)))) [] [.int .u64 0, .int .u64 0, .int .u64 0, .int .u64 0, .int .u64 0, .int .u64 0, .int .u64 0, .int .u64 0, .int .u64 0, .int .u64 0, .int .u64 0, .int .u64 0, .int .u64 0, .int .u64 0, .int .u64 0, .int .u64 0] Tryd.underlying24 zr24 rfl sz22 rfl rfl) ?_
      refine WL.op rfl ?_
      refine OW.storeAV (ys := (List.replicate 16 ((0 : UInt64)))) s2_110 rfl (fun _ => rfl) sz24 rfl rfl hB105 ?_
      intro w136 s137 hB138
      replace hra0 := hra0.step s137 rfl
      replace hB110 := hB110.step s137 rfl
      replace HF := HF.step s137 rfl
      refine WL.ex rfl (ex_assign (v := .int .i64 50) rfl) ?_
      refine WL.nil ?_
      refine WC.ret ?_
      obtain rfl := Option.some.inj H
      replace H := Ho118
      dsimp only at H
      obtain rfl := Option.some.inj H
      exact ⟨_, (.cell (.agg (List.map enc64 (List.replicate 16 ((0 : UInt64)))).toArray : Value) s2_110 (run_loadAV Tryd.underlying24 sz24 rfl hB138) (.tmp (.int .i64 50 : Value) rfl .nil)), _, rfl, HF.out, rfl⟩
    ·
      refine WC.cond_f ((show _ = Value.bool (!z131) from rfl).trans (congrArg Value.bool c135)) ?_
      refine WC.skip ?_
      refine WC.regionD' HF [11] 10 (by kernel_rfl) rfl ?_
      intro w139 s140
      replace hra0 := hra0.step s140 rfl
      replace hB105 := hB105.step s140 rfl
      replace hB110 := hB110.step s140 rfl
      replace HF := HF.step s140 rfl
      have hra0D := hra0
      have hB105D := hB105
      have hB110D := hB110
      have sR := HF.here [11]
      refine WA.norm (listed' := #[false, false, false, false, false, false, false, false, false, false]) (by kernel_rfl) ?_
      refine WA.ex 0 rfl (by kernel_rfl) (by kernel_rfl) (by kernel_rfl) rfl ⟨_, sR⟩ (fun w_ hS_ => ex_move (v := .int .i64 x124) rfl) ?_
      refine WA.norm (listed' := #[true, false, false, false, false, false, false, false, false, false]) (by kernel_rfl) ?_
      refine WA.ex 1 rfl (by kernel_rfl) (by kernel_rfl) (by kernel_rfl) rfl ⟨_, sR⟩ (fun w_ hS_ => ex_bin (a := .int .i64 x124) (b := .int .i64 64) (v := .int .i64 (wrap64 (x124.tdiv 64))) rfl rfl (bin_quo64 (by decide))) ?_
      refine WA.norm (listed' := #[true, true, false, false, false, false, false, false, false, false]) (by kernel_rfl) ?_
      obtain ⟨x141, hx141, H⟩ := bindE H
      refine WA.ex 2 rfl (by kernel_rfl) (by kernel_rfl) (by kernel_rfl) rfl ⟨_, sR⟩ (fun w_ hS_ => ex_indexArrB (i := (wrap64 (x124.tdiv 64))) (xs := x112) s4_110 rfl Tryd.underlying24 sz22 hl113 hx141) ?_
      refine WA.norm (listed' := #[true, true, true, false, false, false, false, false, false, false]) (by kernel_rfl) ?_
      refine WA.ex 4 rfl (by kernel_rfl) (by kernel_rfl) (by kernel_rfl) rfl ⟨_, sR⟩ (fun w_ hS_ => ex_move (v := .int .i64 x124) rfl) ?_
      refine WA.norm (listed' := #[true, true, true, false, true, false, false, false, false, false]) (by kernel_rfl) ?_
      refine WA.ex 5 rfl (by kernel_rfl) (by kernel_rfl) (by kernel_rfl) rfl ⟨_, sR⟩ (fun w_ hS_ => ex_bin (a := .int .i64 x124) (b := .int .i64 64) (v := .int .i64 (x124.tmod 64)) rfl rfl (bin_rem64 (by decide))) ?_
      refine WA.norm (listed' := #[true, true, true, false, true, true, false, false, false, false]) (by kernel_rfl) ?_
      obtain ⟨u142, hu142, H⟩ := bindE H
      refine WA.ex 6 rfl (by kernel_rfl) (by kernel_rfl) (by kernel_rfl) rfl ⟨_, sR⟩ (fun w_ hS_ => ex_bin (a := enc64 (1 : UInt64)) (b := .int .i64 (x124.tmod 64)) (v := enc64 (shl64 (1 : UInt64) (x124.tmod 64).toNat)) rfl rfl (bin_shl_u64 (of_decide_eq_true (chk_true hu142)))) ?_
      refine WA.norm (listed' := #[true, true, true, false, true, true, true, false, false, false]) (by kernel_rfl) ?_
      refine WA.one 3 (by kernel_rfl) rfl rfl ?_
      refine OW.ex rfl (ex_loadAE (enc := enc64) rfl Tryd.underlying22 rfl hB110 hx141) ?_
      refine ⟨⟨_, sR⟩, ?_⟩
      refine WA.norm (listed' := #[true, true, true, true, true, true, true, false, false, false]) (by kernel_rfl) ?_
      refine WA.ex 7 rfl (by kernel_rfl) (by kernel_rfl) (by kernel_rfl) rfl ⟨_, sR⟩ (fun w_ hS_ => ex_bin (a := enc64 x141) (b := enc64 (shl64 (1 : UInt64) (x124.tmod 64).toNat)) (v := enc64 (x141 ||| (shl64 (1 : UInt64) (x124.tmod 64).toNat))) rfl rfl bin_or_u64) ?_
      refine WA.norm (listed' := #[true, true, true, true, true, true, true, true, false, false]) (by kernel_rfl) ?_
      obtain ⟨x143, hx143, H⟩ := bindE H
      refine WA.ex 8 rfl (by kernel_rfl) (by kernel_rfl) (by kernel_rfl) rfl ⟨_, sR⟩ (fun w_ hS_ => ex_indexArrB (i := (wrap64 (x124.tdiv 64))) (xs := x112) s4_110 rfl Tryd.underlying24 sz22 hl113 hx143) ?_
      refine WA.norm (listed' := #[true, true, true, true, true, true, true, true, true, false]) (by kernel_rfl) ?_
      refine WA.one 9 (by kernel_rfl) rfl rfl ?_
      refine OW.storeAE (enc := enc64) (c := (x141 ||| (shl64 (1 : UInt64) (x124.tmod 64).toNat))) rfl rfl (cells64) (fun _ => rfl) sz22 hB110 hx143 ?_
      intro w144 s145 hB146
      replace hra0 := hra0.step s145 rfl
      replace hB105 := hB105.step s145 rfl
      replace HF := HF.step s145 rfl
      replace sR := Step.trans sR s145 (M := [11]) rfl rfl
      have hl147 := len_set (i := (wrap64 (x124.tdiv 64)).toNat) (a := (x141 ||| (shl64 (1 : UInt64) (x124.tmod 64).toNat))) hl113
      refine ⟨⟨_, sR⟩, ?_⟩
      refine WA.norm (listed' := #[true, true, true, true, true, true, true, true, true, true]) (by kernel_rfl) ?_
      refine WA.done (by kernel_rfl) ?_
      refine WC.region ?_
      refine WL.ex rfl (ex_bin (a := .int .i64 x111) (b := .int .i64 1) (v := .int .i64 (wrap64 (x111 + 1))) s9_111 rfl bin_add64) ?_
      refine WL.ex rfl (ex_move (v := .int .i64 (wrap64 (x111 + 1))) rfl) ?_
      refine WL.nil ?_
      exact ⟨k119, Nat.lt_succ_self _, ⟨_, wrap64 (x111 + 1), (x112.set (wrap64 (x124.tdiv 64)).toNat (x141 ||| (shl64 (1 : UInt64) (x124.tmod 64).toNat))), HF, hra0, hB105, hB146, hl147, s2_110, s3_110, s4_110, s7_110, s8_110, rfl, H⟩⟩
  ·
    refine WC.cond_f ((show _ = Value.bool (decide (x111 < (a0.length : Int))) from rfl).trans (congrArg Value.bool c123)) ?_
    refine WC.exit ?_
    obtain rfl := Option.some.inj H
    exact ⟨_, x112, HF, hB105, hB110, hl113, s2_110, s3_110, s4_110, rfl⟩

/-! ### strings_splitSeq -/
set_option maxRecDepth 100000 in
theorem strings_splitSeq.calls (o0 : Tags) (w0 : World) (a0 : List UInt8) (a1 : List UInt8) (a2 : Int) (r : (List UInt8) × (List UInt8) × Int) (hO : ∀ b, b < w0.heap.size → o0 b < 10) (H : strings_splitSeq.f a0 a1 a2 = some r) :
    Calls Tryd.prog 59 [encS a0, encS a1, .int .i64 a2].toArray w0 fun e_ w_ => ∃ (o_ : Tags) (b_0_0 : Nat) (b_0_1 : Nat) (b_0_2 : Nat), e_ = .returned (one [.func (.func 65) #[] #[.pointer (some ⟨b_0_0, 0, none⟩), .pointer (some ⟨b_0_1, 0, none⟩), .pointer (some ⟨b_0_2, 0, none⟩)]]) ∧ Step o0 w0 o_ w_ [] ∧ Bk o_ w_ 9 b_0_0 [encS r.1] 9 ∧ Bk o_ w_ 8 b_0_1 [encS r.2.1] 9 ∧ Bk o_ w_ 7 b_0_2 [.int .i64 r.2.2] 3 := by
  have HF := Fm.refl hO []
  unfold strings_splitSeq.f at H
  refine SX.calls [encS a0, encS a1, .int .i64 a2] Tryd.func59 rfl rfl ?_
  rw [Tryd.ntmps59]
  refine WC.seq ?_
  refine WC.region ?_
  refine WL.op rfl ?_
  refine OW.box' [encS a0] 10 HF rfl ((congrArg Value.cells (show ev _ _ = (encS a0 : Value) from rfl)).trans rfl) ?_
  intro o102 w103 b101 s104 hB105
  replace HF := HF.step s104 rfl
  refine WL.op rfl ?_
  refine OW.box' [encS a1] 11 HF rfl ((congrArg Value.cells (show ev _ _ = (encS a1 : Value) from rfl)).trans rfl) ?_
  intro o107 w108 b106 s109 hB110
  replace hB105 := hB105.step s109 rfl
  replace HF := HF.step s109 rfl
  refine WL.op rfl ?_
  refine OW.box' [.int .i64 a2] 12 HF rfl ((congrArg Value.cells (show ev _ _ = (.int .i64 a2 : Value) from rfl)).trans rfl) ?_
  intro o112 w113 b111 s114 hB115
  replace hB105 := hB105.step s114 rfl
  replace hB110 := hB110.step s114 rfl
  replace HF := HF.step s114 rfl
  refine WL.ex rfl (ex_assign (v := .nilFunc) rfl) ?_
  refine WL.nil ?_
  refine WC.seq ?_
  refine WC.region ?_
  refine WL.ex rfl (ex_makeFuncC [.pointer (some ⟨b106, 0, none⟩), .pointer (some ⟨b101, 0, none⟩), .pointer (some ⟨b111, 0, none⟩)] (map_cons' rfl (map_cons' rfl (map_cons' rfl rfl)))) ?_
  refine WL.ex rfl (ex_assign (v := .func (.func 65) #[] #[.pointer (some ⟨b106, 0, none⟩), .pointer (some ⟨b101, 0, none⟩), .pointer (some ⟨b111, 0, none⟩)]) rfl) ?_
  refine WL.nil ?_
  refine WC.ret ?_
  obtain rfl := Option.some.inj H
  replace hB110 := Bk.renTo (j := 9) hB110
  replace hB105 := Bk.ren (i := 11) (j := 9) hB105 rfl
  replace hB115 := Bk.ren (i := 11) (j := 9) hB115 rfl
  replace HF := HF.ren (i := 11) (j := 9) rfl
  replace hB110 := Bk.ren (i := 10) (j := 8) hB110 rfl
  replace hB105 := Bk.renTo (j := 8) hB105
  replace hB115 := Bk.ren (i := 10) (j := 8) hB115 rfl
  replace HF := HF.ren (i := 10) (j := 8) rfl
  replace hB110 := Bk.ren (i := 12) (j := 7) hB110 rfl
  replace hB105 := Bk.ren (i := 12) (j := 7) hB105 rfl
  replace hB115 := Bk.renTo (j := 7) hB115
  replace HF := HF.ren (i := 12) (j := 7) rfl
  exact ⟨_, (.tmp (.func (.func 65) #[] #[.pointer (some ⟨b106, 0, none⟩), .pointer (some ⟨b101, 0, none⟩), .pointer (some ⟨b111, 0, none⟩)] : Value) rfl .nil), _, b106, b101, b111, rfl, HF.out, hB110, hB105, hB115⟩

/-! ### strings_SplitSeq -/
set_option maxRecDepth 100000 in
theorem strings_SplitSeq.calls (o0 : Tags) (w0 : World) (a0 : List UInt8) (a1 : List UInt8) (r : (List UInt8) × (List UInt8) × Int) (hO : ∀ b, b < w0.heap.size → o0 b < 10) (H : strings_SplitSeq.f a0 a1 = some r) :
    Calls Tryd.prog 40 [encS a0, encS a1].toArray w0 fun e_ w_ => ∃ (o_ : Tags) (b_0_0 : Nat) (b_0_1 : Nat) (b_0_2 : Nat), e_ = .returned (one [.func (.func 65) #[] #[.pointer (some ⟨b_0_0, 0, none⟩), .pointer (some ⟨b_0_1, 0, none⟩), .pointer (some ⟨b_0_2, 0, none⟩)]]) ∧ Step o0 w0 o_ w_ [] ∧ Bk o_ w_ 9 b_0_0 [encS r.1] 9 ∧ Bk o_ w_ 8 b_0_1 [encS r.2.1] 9 ∧ Bk o_ w_ 7 b_0_2 [.int .i64 r.2.2] 3 := by
  have HF := Fm.refl hO []
  unfold strings_SplitSeq.f at H
  refine SX.calls [encS a0, encS a1] Tryd.func40 rfl rfl ?_
  rw [Tryd.ntmps40]
  refine WC.seq ?_
  refine WC.region ?_
  refine WL.ex rfl (ex_assign (v := .nilFunc) rfl) ?_
  refine WL.nil ?_
  refine WC.seq ?_
  refine WC.region ?_
  refine WL.ex rfl (ex_move (v := encS a0) rfl) ?_
  refine WL.ex rfl (ex_move (v := encS a1) rfl) ?_
  obtain ⟨z101, hz101, H⟩ := bindE H
  refine WL.op rfl ?_
  refine OW.call [encS a0, encS a1, .int .i64 0] rfl Tryd.func59 (by kernel_rfl) (by kernel_rfl) (map_cons' rfl (map_cons' rfl (map_cons' rfl rfl))) (strings_splitSeq.calls _ _ a0 a1 0 z101 (HF.ten (V := [0]) (L := []) rfl)  hz101) ?_
  rintro _ w102 ⟨o103, b105, b107, b109, rfl, s104, hB106, hB108, hB110⟩
  refine ⟨_, rfl, ?_⟩
  replace hB106 := Bk.un9 (J := [10, 11, 12]) 0 hB106 rfl s104 rfl rfl
  replace hB108 := Bk.un9 (J := [10, 11, 12]) 1 hB108 rfl s104 rfl rfl
  replace hB110 := Bk.un9 (J := [10, 11, 12]) 2 hB110 rfl s104 rfl rfl
  replace s104 := un_stepL (J := [10, 11, 12]) (L' := []) s104 rfl rfl
  replace HF := HF.step s104 rfl
  refine WL.ex rfl (ex_assign (v := .func (.func 65) #[] #[.pointer (some ⟨b105, 0, none⟩), .pointer (some ⟨b107, 0, none⟩), .pointer (some ⟨b109, 0, none⟩)]) rfl) ?_
  refine WL.nil ?_
  refine WC.ret ?_
  obtain rfl := Option.some.inj H
  replace hB106 := Bk.renTo (j := 9) hB106
  replace hB108 := Bk.ren (i := 10) (j := 9) hB108 rfl
  replace hB110 := Bk.ren (i := 10) (j := 9) hB110 rfl
  replace HF := HF.ren (i := 10) (j := 9) rfl
  replace hB106 := Bk.ren (i := 11) (j := 8) hB106 rfl
  replace hB108 := Bk.renTo (j := 8) hB108
  replace hB110 := Bk.ren (i := 11) (j := 8) hB110 rfl
  replace HF := HF.ren (i := 11) (j := 8) rfl
  replace hB106 := Bk.ren (i := 12) (j := 7) hB106 rfl
  replace hB108 := Bk.ren (i := 12) (j := 7) hB108 rfl
  replace hB110 := Bk.renTo (j := 7) hB110
  replace HF := HF.ren (i := 12) (j := 7) rfl
  exact ⟨_, (.tmp (.func (.func 65) #[] #[.pointer (some ⟨b105, 0, none⟩), .pointer (some ⟨b107, 0, none⟩), .pointer (some ⟨b109, 0, none⟩)] : Value) rfl .nil), _, b105, b107, b109, rfl, HF.out, hB106, hB108, hB110⟩


/-! ### strings.Index of one byte -/
theorem strings_Index.calls (o0 : Tags) (w0 : World) (a0 a1 : List UInt8) (r : Int) (hO : ∀ b, b < w0.heap.size → o0 b < 10) (H : strings_Index.f a0 a1 = some r) :
    Calls Tryd.prog 67 [encS a0, encS a1].toArray w0 fun e_ w_ => ∃ (o_ : Tags), e_ = .returned (one [.int .i64 r]) ∧ Step o0 w0 o_ w_ [] := by
  match a1, H with
  | [c], H =>
    obtain rfl := Option.some.inj H
    refine Calls.mono (Tryd.strings_Index_one ⟨a0.toArray⟩ c w0) ?_
    rintro e w ⟨rfl, rfl⟩
    exact ⟨o0, rfl, Step.refl _ _ _⟩
  | [], H => cases H
  | _ :: _ :: _, H => cases H


/-! ### The iterator of strings.SplitSeq -/
set_option maxRecDepth 100000 in
theorem strings_SplitSeq.iter {a : List UInt8 × List UInt8 × Int} {xs : List (List UInt8)} {bp bs bv tp ts tv : Nat} (h1 : Nat.beq ts tp = false) (h2 : Nat.beq ts tv = false) (H : strings_SplitSeq.seq a = some xs) :
    Iter Tryd.prog 65 #[.pointer (some ⟨bp, 0, none⟩), .pointer (some ⟨bs, 0, none⟩), .pointer (some ⟨bv, 0, none⟩)] (fun x : List UInt8 => #[encS x]) xs ts (fun q o w => Bk o w tp bp [encS a.1] 9 ∧ Bk o w ts bs [encS (restOf a q)] 9 ∧ Bk o w tv bv [.int .i64 a.2.2] 3) := by
  obtain ⟨sep, s, sv⟩ := a
  unfold strings_SplitSeq.seq at H
  simp only at H
  have key : ∃ c, sep = [c] ∧ sv = 0 ∧ s.length ≤ 4611686018427387904 ∧ xs = splitB c s := by
    split at H
    · rename_i hh
      match sep, hh.1 with
      | [c], _ => exact ⟨c, rfl, hh.2.1, hh.2.2, (Option.some.inj H).symm⟩
    · cases H
  obtain ⟨c, rfl, rfl, hlen, rfl⟩ := key
  clear H
  have hc1 : ([ts] : List Nat).contains tp = false := by
    rw [← Bool.not_eq_true]; intro h; simp at h; rw [h] at h1; simp at h1
  have hc2 : ([ts] : List Nat).contains tv = false := by
    rw [← Bool.not_eq_true]; intro h; simp at h; rw [h] at h2; simp at h2
  have hpos : 1 ≤ (splitB c s).length := List.length_pos_iff.2 (splitB_ne c s)
  have hrest : ∀ q, q < (splitB c s).length → restOf ([c], s, 0) q = restB c s q := by
    intro q hq
    show restB c s (min q ((splitB c s).length - 1)) = _
    rw [Nat.min_eq_left (by omega)]
  have hrl : ∀ q, (restB c s q).length ≤ 4611686018427387904 := by
    intro q
    induction q with
    | zero => exact hlen
    | succ q ih =>
      show ((restB c s q).drop _).length ≤ _
      rw [List.length_drop]
      omega
  intro l R X o w hR hX hy h0 ⟨hB1, hB2, hB3⟩
  refine SX.calls [.func (.yield l) #[] #[], .pointer (some ⟨bp, 0, none⟩), .pointer (some ⟨bs, 0, none⟩), .pointer (some ⟨bv, 0, none⟩)] Tryd.func65 rfl rfl ?_
  rw [Tryd.ntmps65]
  refine WC.seq ?_
  refine WC.seq ?_
  refine WC.region ?_
  refine WL.ex rfl (ex_load1 (v := encS [c]) rfl Tryd.underlying9 rfl (hB1.cell rfl)) ?_
  refine WL.ex rfl (ex_len_str (s := [c]) rfl Tryd.underlying9) ?_
  refine WL.ex rfl (ex_bin (a := .int .i64 (([c] : List UInt8).length : Int)) (b := .int .i64 0) (v := .bool false) rfl rfl bin_eql) ?_
  refine WL.nil ?_
  refine WC.cond_f rfl ?_
  refine WC.skip ?_
  rw [hrest 0 hpos] at hB2
  refine WC.seq ?_
  refine WC.for (fun k_ ρ_ w_ => ∃ (o_ : Tags) (q : Nat), R q o_ w_ ∧ Bk o_ w_ tp bp [encS [c]] 9 ∧ Bk o_ w_ ts bs [encS (restB c s q)] 9 ∧ Bk o_ w_ tv bv [.int .i64 0] 3 ∧ ρ_ 0 = .func (.yield l) #[] #[] ∧ ρ_ 1 = .pointer (some ⟨bp, 0, none⟩) ∧ ρ_ 2 = .pointer (some ⟨bs, 0, none⟩) ∧ ρ_ 3 = .pointer (some ⟨bv, 0, none⟩) ∧ q < (splitB c s).length ∧
    (splitB c s).drop q = splitB c (restB c s q) ∧ (restB c s q).length = k_) s.length (fun ρ_ w_ => ∃ (o_ : Tags) (q : Nat), R q o_ w_ ∧ Bk o_ w_ tp bp [encS [c]] 9 ∧ Bk o_ w_ ts bs [encS (restB c s q)] 9 ∧ Bk o_ w_ tv bv [.int .i64 0] 3 ∧ ρ_ 0 = .func (.yield l) #[] #[] ∧ ρ_ 2 = .pointer (some ⟨bs, 0, none⟩) ∧ q + 1 = (splitB c s).length ∧ (splitB c s)[q]? = some (restB c s q)) ⟨_, 0, h0, hB1, hB2, hB3, rfl, rfl, rfl, rfl, hpos, rfl, rfl⟩ ?hx ?_
  case hx =>
    rintro ρ2 w2 ⟨o2, q, g0, g1, g2, g3, p0, p2, hq, hx⟩
    refine WC.regionY ?_
    refine WY.ex rfl (ex_move (v := .func (.yield l) #[] #[]) p0) ?_
    refine WY.ex rfl (ex_load1 (v := encS (restB c s q)) p2 Tryd.underlying9 rfl (g2.cell rfl)) ?_
    refine WY.yield [encS (restB c s q)] rfl rfl (map_cons' rfl rfl) (hy q _ o2 w2 hx g0 ⟨g1, by rw [hrest q (by omega)]; exact g2, g3⟩) ?_
    rintro _ w3 ⟨o3, (⟨rfl, h4, hC3⟩ | ⟨rfl, h4⟩)⟩
    · refine ⟨_, rfl, WY.nil ⟨_, .nil, ⟨_, rfl⟩, o3, .inl ⟨hq ▸ h4, ?_⟩⟩⟩
      have e1 : restOf ([c], s, 0) (splitB c s).length = restOf ([c], s, 0) q := by
        show restB c s (min _ _) = restB c s (min _ _)
        congr 1
        show min (splitB c s).length ((splitB c s).length - 1) = min q ((splitB c s).length - 1)
        omega
      show _ ∧ Bk _ _ _ _ [encS (restOf ([c], s, 0) (splitB c s).length)] _ ∧ _
      rw [e1]
      exact hC3
    · exact ⟨_, rfl, WY.nil ⟨_, .nil, ⟨_, rfl⟩, o3, .inr h4⟩⟩
  rintro kN ρ2 w2 ⟨o2, q, g0, g1, g2, g3, p0, p1, p2, p3, hq, hd, hk⟩
  have hrq := hrl q
  refine WC.block ?_
  refine WC.seq ?_
  refine WC.region ?_
  refine WL.ex rfl (ex_load1 (v := encS (restB c s q)) p2 Tryd.underlying9 rfl (g2.cell rfl)) ?_
  refine WL.ex rfl (ex_load1 (v := encS [c]) p1 Tryd.underlying9 rfl (g1.cell rfl)) ?_
  refine WL.op rfl ?_
  refine OW.call [encS (restB c s q), encS [c]] rfl Tryd.func67 (by kernel_rfl) (by kernel_rfl) (map_cons' rfl (map_cons' rfl rfl)) (strings_Index.calls _ _ (restB c s q) [c] (Lib.indexByte (restB c s q) c) (vw_ten (V := [0]) (L := []) (o := o2) rfl) rfl) ?_
  rintro _ w1 ⟨o1, rfl, s1⟩
  refine ⟨_, rfl, ?_⟩
  replace s1 := un_stepL (J := []) (L' := []) s1 rfl rfl
  replace g0 := hR _ _ _ _ _ g0 (s1.weak rfl)
  replace g1 := g1.step s1 rfl
  replace g2 := g2.step s1 rfl
  replace g3 := g3.step s1 rfl
  refine WL.ex rfl (ex_assign (v := .int .i64 (Lib.indexByte (restB c s q) c)) rfl) ?_
  refine WL.nil ?_
  refine WC.seq ?_
  refine WC.seq ?_
  refine WC.region ?_
  refine WL.ex rfl (ex_move (v := .int .i64 (Lib.indexByte (restB c s q) c)) rfl) ?_
  refine WL.ex rfl (ex_bin (a := .int .i64 (Lib.indexByte (restB c s q) c)) (b := .int .i64 0) (v := .bool (decide (Lib.indexByte (restB c s q) c < 0))) rfl rfl bin_lss) ?_
  refine WL.nil ?_
  rcases splitB_idx c (restB c s q) with ⟨e1, e2⟩ | ⟨i, e1, e2, e3⟩
  · refine WC.cond_t (congrArg Value.bool (decide_eq_true (by rw [e1]; decide))) ?_
    refine WC.exit ?_
    rw [e2] at hd
    obtain ⟨y1, y2, y3⟩ := of_drop hd
    have hlast : q + 1 = (splitB c s).length := by
      have := congrArg List.length y2
      rw [List.length_drop, List.length_nil] at this
      omega
    exact ⟨_, q, g0, g1, g2, g3, p0, p2, hlast, y1⟩
  · refine WC.cond_f (congrArg Value.bool (decide_eq_false (by rw [e1]; omega))) ?_
    refine WC.skip ?_
    rw [e1]
    rw [e3] at hd
    obtain ⟨y1, y2, y3⟩ := of_drop hd
    have hi0 : wrap64 ((i : Int) + 0) = (i : Int) := by rw [Int.add_zero]; exact w64 (by omega) (by omega)
    have hi1 : wrap64 ((i : Int) + (([c] : List UInt8).length : Int)) = ((i + 1 : Nat) : Int) := wsucc i (by omega)
    have hcut0 : cut (restB c s q) 0 (wrap64 ((i : Int) + 0)) = some ((restB c s q).take i) := by rw [hi0]; exact cut_to _ (by omega)
    have hcut1 : cut (restB c s q) (wrap64 ((i : Int) + (([c] : List UInt8).length : Int))) ((restB c s q).length : Int) = some ((restB c s q).drop (i + 1)) := by rw [hi1]; exact cut_from _ (by omega)
    have hnext : restB c s (q + 1) = (restB c s q).drop (i + 1) := by
      show (restB c s q).drop _ = _
      rw [e1]
      rfl
    refine WC.seq ?_
    refine WC.region ?_
    refine WL.ex rfl (ex_load1 (v := encS (restB c s q)) p2 Tryd.underlying9 rfl (g2.cell rfl)) ?_
    refine WL.ex rfl (ex_move (v := .int .i64 (i : Int)) rfl) ?_
    refine WL.ex rfl (ex_load1 (v := .int .i64 0) p3 Tryd.underlying3 rfl (g3.cell rfl)) ?_
    refine WL.ex rfl (ex_bin (a := .int .i64 (i : Int)) (b := .int .i64 0) (v := .int .i64 (wrap64 ((i : Int) + 0))) rfl rfl bin_add64) ?_
    refine WL.ex rfl (ex_slice_str (l := 0) (h := wrap64 ((i : Int) + 0)) rfl Tryd.underlying9 rfl ⟨_, rfl⟩ hcut0) ?_
    refine WL.ex rfl (ex_assign (v := encS ((restB c s q).take i)) rfl) ?_
    refine WL.nil ?_
    refine WC.seq ?_
    refine WC.seq ?_
    refine WC.regionY ?_
    refine WY.ex rfl (ex_move (v := .func (.yield l) #[] #[]) p0) ?_
    refine WY.ex rfl (ex_move (v := encS ((restB c s q).take i)) rfl) ?_
    refine WY.yield [encS ((restB c s q).take i)] rfl rfl (map_cons' rfl rfl) (hy q _ _ _ y1 g0 ⟨g1, by rw [hrest q hq]; exact g2, g3⟩) ?_
    rintro _ w3 ⟨o3, (⟨rfl, h4, k1, k2, k3⟩ | ⟨rfl, h4⟩)⟩
    · refine ⟨_, rfl, ?_⟩
      rw [hrest q hq] at k2
      refine WY.ex rfl (ex_not (b := true) rfl) ?_
      refine WY.nil ?_
      refine WC.cond_f rfl ?_
      refine WC.skip ?_
      refine WC.region ?_
      refine WL.ex rfl (ex_load1 (v := encS (restB c s q)) p2 Tryd.underlying9 rfl (k2.cell rfl)) ?_
      refine WL.ex rfl (ex_move (v := .int .i64 (i : Int)) rfl) ?_
      refine WL.ex rfl (ex_load1 (v := encS [c]) p1 Tryd.underlying9 rfl (k1.cell rfl)) ?_
      refine WL.ex rfl (ex_len_str (s := [c]) rfl Tryd.underlying9) ?_
      refine WL.ex rfl (ex_bin (a := .int .i64 (i : Int)) (b := .int .i64 (([c] : List UInt8).length : Int)) (v := .int .i64 (wrap64 ((i : Int) + (([c] : List UInt8).length : Int)))) rfl rfl bin_add64) ?_
      refine WL.ex rfl (ex_slice_str (l := wrap64 ((i : Int) + (([c] : List UInt8).length : Int))) (h := ((restB c s q).length : Int)) rfl Tryd.underlying9 ⟨_, rfl⟩ rfl hcut1) ?_
      refine WL.op rfl ?_
      refine OW.store [encS ((restB c s q).drop (i + 1))] p2 (vs := [encS ((restB c s q).drop (i + 1))]) rfl (by kernel_rfl) k2 (Nat.le_of_ble_eq_true rfl) (by intro u hu; rw [List.mem_singleton.1 hu]; rfl) rfl ?_
      intro w4 s4 k2
      refine WL.nil ?_
      refine ⟨((restB c s q).drop (i + 1)).length, by rw [List.length_drop]; omega, o3, q + 1, hR _ _ _ _ _ h4 s4, k1.step s4 hc1, by rw [hnext]; exact k2, k3.step s4 hc2, p0, p1, p2, p3, ?_, by rw [y2, hnext], by rw [hnext]⟩
      have : splitB c ((restB c s q).drop (i + 1)) ≠ [] := splitB_ne _ _
      rw [← y2] at this
      have h5 := List.length_pos_iff.2 this
      rw [List.length_drop] at h5
      omega
    · refine ⟨_, rfl, ?_⟩
      refine WY.ex rfl (ex_not (b := false) rfl) ?_
      refine WY.nil ?_
      refine WC.cond_t rfl ?_
      refine WC.ret ?_
      exact ⟨_, .nil, ⟨_, rfl⟩, o3, .inr h4⟩


/-! ### stringslite.Index of one byte -/
theorem stringslite_Index.calls (o0 : Tags) (w0 : World) (a0 a1 : List UInt8) (r : Int) (hO : ∀ b, b < w0.heap.size → o0 b < 10) (H : stringslite_Index.f a0 a1 = some r) :
    Calls Tryd.prog 68 [encS a0, encS a1].toArray w0 fun e_ w_ => ∃ (o_ : Tags), e_ = .returned (one [.int .i64 r]) ∧ Step o0 w0 o_ w_ [] := by
  match a1, H with
  | [c], H =>
    obtain rfl := Option.some.inj H
    refine Calls.mono (Tryd.stringslite_Index_one ⟨a0.toArray⟩ c w0) ?_
    rintro e w ⟨rfl, rfl⟩
    exact ⟨o0, rfl, Step.refl _ _ _⟩
  | [], H => cases H
  | _ :: _ :: _, H => cases H

/-! ### stringslite_Cut -/
set_option maxRecDepth 100000 in
theorem stringslite_Cut.calls (o0 : Tags) (w0 : World) (a0 : List UInt8) (a1 : List UInt8) (r : (List UInt8) × (List UInt8) × Bool) (hO : ∀ b, b < w0.heap.size → o0 b < 10) (H : stringslite_Cut.f a0 a1 = some r) :
    Calls Tryd.prog 60 [encS a0, encS a1].toArray w0 fun e_ w_ => ∃ (o_ : Tags), e_ = .returned (one [encS r.1, encS r.2.1, .bool r.2.2]) ∧ Step o0 w0 o_ w_ [] := by
  have HF := Fm.refl hO []
  unfold stringslite_Cut.f at H
  refine SX.calls [encS a0, encS a1] Tryd.func60 rfl rfl ?_
  rw [Tryd.ntmps60]
  refine WC.seq ?_
  refine WC.region ?_
  refine WL.ex rfl (ex_assign (v := encS ([] : List UInt8)) rfl) ?_
  refine WL.ex rfl (ex_assign (v := encS ([] : List UInt8)) rfl) ?_
  refine WL.ex rfl (ex_assign (v := .bool false) rfl) ?_
  refine WL.nil ?_
  refine WC.seq ?_
  refine WC.seq ?_
  refine WC.region ?_
  refine WL.ex rfl (ex_move (v := encS a0) rfl) ?_
  refine WL.ex rfl (ex_move (v := encS a1) rfl) ?_
  obtain ⟨z101, hz101, H⟩ := bindE H
  refine WL.op rfl ?_
  refine OW.call [encS a0, encS a1] rfl Tryd.func68 (by kernel_rfl) (by kernel_rfl) (map_cons' rfl (map_cons' rfl rfl)) (stringslite_Index.calls _ _ a0 a1 z101 (HF.ten (V := [0]) (L := []) rfl)  hz101) ?_
  rintro _ w102 ⟨o103, rfl, s104⟩
  refine ⟨_, rfl, ?_⟩
  replace s104 := un_stepL (J := []) (L' := []) s104 rfl rfl
  replace HF := HF.step s104 rfl
  refine WL.ex rfl (ex_assign (v := .int .i64 z101) rfl) ?_
  refine WL.nil ?_
  refine WC.seq ?_
  refine WC.region ?_
  refine WL.ex rfl (ex_move (v := .int .i64 z101) rfl) ?_
  refine WL.ex rfl (ex_bin (a := .int .i64 z101) (b := .int .i64 0) (v := .bool (decide (z101 ≥ 0))) rfl rfl bin_geq) ?_
  refine WL.nil ?_
  rcases condE H with ⟨c105, H⟩ | ⟨c105, H⟩
  ·
    refine WC.cond_t ((show _ = Value.bool (decide (z101 ≥ 0)) from rfl).trans (congrArg Value.bool c105)) ?_
    refine WC.seq ?_
    refine WC.regionD' HF [] 12 (by kernel_rfl) rfl ?_
    intro w106 s107
    replace HF := HF.step s107 rfl
    have sR := HF.here []
    refine WA.norm (listed' := #[false, false, false, false, false, false, false, false, false, false, false, false]) (by kernel_rfl) ?_
    refine WA.ex 0 rfl (by kernel_rfl) (by kernel_rfl) (by kernel_rfl) rfl ⟨_, sR⟩ (fun w_ hS_ => ex_move (v := encS a0) rfl) ?_
    refine WA.norm (listed' := #[true, false, false, false, false, false, false, false, false, false, false, false]) (by kernel_rfl) ?_
    refine WA.ex 1 rfl (by kernel_rfl) (by kernel_rfl) (by kernel_rfl) rfl ⟨_, sR⟩ (fun w_ hS_ => ex_move (v := .int .i64 z101) rfl) ?_
    refine WA.norm (listed' := #[true, true, false, false, false, false, false, false, false, false, false, false]) (by kernel_rfl) ?_
    obtain ⟨y108, hy108, H⟩ := bindE H
    refine WA.ex 2 rfl (by kernel_rfl) (by kernel_rfl) (by kernel_rfl) rfl ⟨_, sR⟩ (fun w_ hS_ => ex_slice_str (l := 0) (h := z101) rfl Tryd.underlying9 rfl ⟨_, rfl⟩ hy108) ?_
    refine WA.norm (listed' := #[true, true, true, false, false, false, false, false, false, false, false, false]) (by kernel_rfl) ?_
    refine WA.ex 3 rfl (by kernel_rfl) (by kernel_rfl) (by kernel_rfl) rfl ⟨_, sR⟩ (fun w_ hS_ => ex_move (v := encS a0) rfl) ?_
    refine WA.norm (listed' := #[true, true, true, true, false, false, false, false, false, false, false, false]) (by kernel_rfl) ?_
    refine WA.ex 4 rfl (by kernel_rfl) (by kernel_rfl) (by kernel_rfl) rfl ⟨_, sR⟩ (fun w_ hS_ => ex_move (v := .int .i64 z101) rfl) ?_
    refine WA.norm (listed' := #[true, true, true, true, true, false, false, false, false, false, false, false]) (by kernel_rfl) ?_
    refine WA.ex 5 rfl (by kernel_rfl) (by kernel_rfl) (by kernel_rfl) rfl ⟨_, sR⟩ (fun w_ hS_ => ex_move (v := encS a1) rfl) ?_
    refine WA.norm (listed' := #[true, true, true, true, true, true, false, false, false, false, false, false]) (by kernel_rfl) ?_
    refine WA.ex 6 rfl (by kernel_rfl) (by kernel_rfl) (by kernel_rfl) rfl ⟨_, sR⟩ (fun w_ hS_ => ex_len_str (s := a1) rfl Tryd.underlying9) ?_
    refine WA.norm (listed' := #[true, true, true, true, true, true, true, false, false, false, false, false]) (by kernel_rfl) ?_
    refine WA.ex 7 rfl (by kernel_rfl) (by kernel_rfl) (by kernel_rfl) rfl ⟨_, sR⟩ (fun w_ hS_ => ex_bin (a := .int .i64 z101) (b := .int .i64 (a1.length : Int)) (v := .int .i64 (wrap64 (z101 + (a1.length : Int)))) rfl rfl bin_add64) ?_
    refine WA.norm (listed' := #[true, true, true, true, true, true, true, true, false, false, false, false]) (by kernel_rfl) ?_
    obtain ⟨y109, hy109, H⟩ := bindE H
    refine WA.ex 8 rfl (by kernel_rfl) (by kernel_rfl) (by kernel_rfl) rfl ⟨_, sR⟩ (fun w_ hS_ => ex_slice_str (l := (wrap64 (z101 + (a1.length : Int)))) (h := (a0.length : Int)) rfl Tryd.underlying9 ⟨_, rfl⟩ rfl hy109) ?_
    refine WA.norm (listed' := #[true, true, true, true, true, true, true, true, true, false, false, false]) (by kernel_rfl) ?_
    refine WA.ex 9 rfl (by kernel_rfl) (by kernel_rfl) (by kernel_rfl) rfl ⟨_, sR⟩ (fun w_ hS_ => ex_assign (v := encS y108) rfl) ?_
    refine WA.norm (listed' := #[true, true, true, true, true, true, true, true, true, true, false, false]) (by kernel_rfl) ?_
    refine WA.ex 10 rfl (by kernel_rfl) (by kernel_rfl) (by kernel_rfl) rfl ⟨_, sR⟩ (fun w_ hS_ => ex_assign (v := encS y109) rfl) ?_
    refine WA.norm (listed' := #[true, true, true, true, true, true, true, true, true, true, true, false]) (by kernel_rfl) ?_
    refine WA.ex 11 rfl (by kernel_rfl) (by kernel_rfl) (by kernel_rfl) rfl ⟨_, sR⟩ (fun w_ hS_ => ex_assign (v := .bool true) rfl) ?_
    refine WA.norm (listed' := #[true, true, true, true, true, true, true, true, true, true, true, true]) (by kernel_rfl) ?_
    refine WA.done (by kernel_rfl) ?_
    refine WC.ret ?_
    obtain rfl := Option.some.inj H
    exact ⟨_, (.tmp (encS y108 : Value) rfl (.tmp (encS y109 : Value) rfl (.tmp (.bool true : Value) rfl .nil))), _, rfl, HF.out⟩
  ·
    refine WC.cond_f ((show _ = Value.bool (decide (z101 ≥ 0)) from rfl).trans (congrArg Value.bool c105)) ?_
    refine WC.skip ?_
    refine WC.seq ?_
    refine WC.region ?_
    refine WL.ex rfl (ex_move (v := encS a0) rfl) ?_
    refine WL.ex rfl (ex_assign (v := encS a0) rfl) ?_
    refine WL.ex rfl (ex_assign (v := encS ([] : List UInt8)) rfl) ?_
    refine WL.ex rfl (ex_assign (v := .bool false) rfl) ?_
    refine WL.nil ?_
    refine WC.ret ?_
    obtain rfl := Option.some.inj H
    exact ⟨_, (.tmp (encS a0 : Value) rfl (.tmp (encS ([] : List UInt8) : Value) rfl (.tmp (.bool false : Value) rfl .nil))), _, rfl, HF.out⟩

/-! ### strings_Cut -/
set_option maxRecDepth 100000 in
theorem strings_Cut.calls (o0 : Tags) (w0 : World) (a0 : List UInt8) (a1 : List UInt8) (r : (List UInt8) × (List UInt8) × Bool) (hO : ∀ b, b < w0.heap.size → o0 b < 10) (H : strings_Cut.f a0 a1 = some r) :
    Calls Tryd.prog 41 [encS a0, encS a1].toArray w0 fun e_ w_ => ∃ (o_ : Tags), e_ = .returned (one [encS r.1, encS r.2.1, .bool r.2.2]) ∧ Step o0 w0 o_ w_ [] := by
  have HF := Fm.refl hO []
  unfold strings_Cut.f at H
  refine SX.calls [encS a0, encS a1] Tryd.func41 rfl rfl ?_
  rw [Tryd.ntmps41]
  refine WC.seq ?_
  refine WC.region ?_
  refine WL.ex rfl (ex_assign (v := encS ([] : List UInt8)) rfl) ?_
  refine WL.ex rfl (ex_assign (v := encS ([] : List UInt8)) rfl) ?_
  refine WL.ex rfl (ex_assign (v := .bool false) rfl) ?_
  refine WL.nil ?_
  refine WC.seq ?_
  refine WC.region ?_
  refine WL.ex rfl (ex_move (v := encS a0) rfl) ?_
  refine WL.ex rfl (ex_move (v := encS a1) rfl) ?_
  obtain ⟨z101, hz101, H⟩ := bindE H
  refine WL.op rfl ?_
  refine OW.call [encS a0, encS a1] rfl Tryd.func60 (by kernel_rfl) (by kernel_rfl) (map_cons' rfl (map_cons' rfl rfl)) (stringslite_Cut.calls _ _ a0 a1 z101 (HF.ten (V := [0]) (L := []) rfl)  hz101) ?_
  rintro _ w102 ⟨o103, rfl, s104⟩
  refine ⟨_, rfl, ?_⟩
  replace s104 := un_stepL (J := []) (L' := []) s104 rfl rfl
  replace HF := HF.step s104 rfl
  refine WL.ex rfl (ex_extract (vs := #[encS z101.1, encS z101.2.1, .bool z101.2.2]) (v := encS z101.1) rfl rfl) ?_
  refine WL.ex rfl (ex_extract (vs := #[encS z101.1, encS z101.2.1, .bool z101.2.2]) (v := encS z101.2.1) rfl rfl) ?_
  refine WL.ex rfl (ex_extract (vs := #[encS z101.1, encS z101.2.1, .bool z101.2.2]) (v := .bool z101.2.2) rfl rfl) ?_
  refine WL.ex rfl (ex_assign (v := encS z101.1) rfl) ?_
  refine WL.ex rfl (ex_assign (v := encS z101.2.1) rfl) ?_
  refine WL.ex rfl (ex_assign (v := .bool z101.2.2) rfl) ?_
  refine WL.nil ?_
  refine WC.ret ?_
  obtain rfl := Option.some.inj H
  exact ⟨_, (.tmp (encS z101.1 : Value) rfl (.tmp (encS z101.2.1 : Value) rfl (.tmp (.bool z101.2.2 : Value) rfl .nil))), _, rfl, HF.out⟩


/-! ### strconv.Atoi -/
theorem strconv_Atoi.calls (o0 : Tags) (w0 : World) (a0 : List UInt8) (r : Int × Bool) (hO : ∀ b, b < w0.heap.size → o0 b < 10) (hG : Gl GG o0 w0) (H : strconv_Atoi.f a0 = some r) :
    Calls Tryd.prog 61 [encS a0].toArray w0 fun e_ w_ => ∃ (o_ : Tags) (rv1 : Value), e_ = .returned (one [.int .i64 r.1, rv1]) ∧ Step o0 w0 o_ w_ [] ∧ IsErr r.2 rv1 := by
  unfold strconv_Atoi.f at H
  obtain ⟨u, hu, H⟩ := bindE H
  obtain rfl := Option.some.inj H
  have hl : a0.length ≤ 281474976710656 := of_decide_eq_true (chk_true hu)
  have hs : (⟨a0.toArray⟩ : ByteArray).size ≤ 281474976710656 := by rw [size_enc]; exact hl
  cases hc : Lib.atoiAll a0
  · rename_i v
    refine Calls.mono (Tryd.strconv_Atoi_ok ⟨a0.toArray⟩ (Nat.le_trans hs (by decide)) v hc w0) ?_
    rintro e w ⟨rfl, hw⟩
    refine ⟨o0, .nilIface, by simp [atoiF, hc, one], ?_, by simp [atoiF, hc, IsErr]⟩
    rcases hw with rfl | ⟨t, rfl⟩
    · exact Step.refl _ _ _
    · exact bytesWorld_step o0 w0 5 t
  · obtain ⟨tp, p, hv⟩ := hG.2.2.2.2.1
    refine Calls.mono (Tryd.strconv_Atoi_syntax_var ⟨a0.toArray⟩ hs (hc.trans (by rfl)) tp p w0 hv) ?_
    rintro e w ⟨N, rfl, _, _, hb⟩
    exact ⟨o0, _, by simp only [atoiF, hc, one]; rfl, below_step hb, by simp only [atoiF, hc, IsErr, cond_true]; exact ⟨_, _, rfl⟩⟩
  · obtain ⟨tp, p, hv⟩ := hG.2.2.2.2.2
    refine Calls.mono (Tryd.strconv_Atoi_range_var ⟨a0.toArray⟩ hs hc tp p w0 hv) ?_
    rintro e w ⟨N, rfl, _, _, hb⟩
    exact ⟨o0, _, by simp only [atoiF, hc, one]; rfl, below_step hb, by simp only [atoiF, hc, IsErr, cond_true]; exact ⟨_, _, rfl⟩⟩


/-! ### strconv.Itoa -/
theorem strconv_Itoa.calls (o0 : Tags) (w0 : World) (a0 : Int) (r : List UInt8) (hO : ∀ b, b < w0.heap.size → o0 b < 10) (hG : Gl GG o0 w0) (H : strconv_Itoa.f a0 = some r) :
    Calls Tryd.prog 55 [.int .i64 a0].toArray w0 fun e_ w_ => ∃ (o_ : Tags), e_ = .returned (one [encS r]) ∧ Step o0 w0 o_ w_ [] := by
  unfold strconv_Itoa.f at H
  obtain ⟨u, hu, H⟩ := bindE H
  obtain rfl := Option.some.inj H
  have hu' := chk_true hu
  simp only [Bool.and_eq_true, decide_eq_true_eq] at hu'
  refine Calls.mono (Tryd.strconv_Itoa a0 hu'.1 hu'.2 w0 hG.2.2.1) ?_
  rintro e w ⟨rfl, k, os, rfl⟩
  exact ⟨o0, rfl, grow_step o0 w0 k os⟩

/-! ### octet_Dec -/
set_option maxRecDepth 100000 in
theorem octet_Dec.calls (o0 : Tags) (w0 : World) (a0 : Int) (r : (List UInt8)) (hO : ∀ b, b < w0.heap.size → o0 b < 10) (hG : Gl GG o0 w0) (H : octet_Dec.f a0 = some r) :
    Calls Tryd.prog 38 [.int .i64 a0].toArray w0 fun e_ w_ => ∃ (o_ : Tags), e_ = .returned (one [encS r]) ∧ Step o0 w0 o_ w_ [] := by
  have HF := Fm.refl hO []
  unfold octet_Dec.f at H
  refine SX.calls [.int .i64 a0] Tryd.func38 rfl rfl ?_
  rw [Tryd.ntmps38]
  refine WC.seq ?_
  refine WC.region ?_
  refine WL.ex rfl (ex_assign (v := encS ([] : List UInt8)) rfl) ?_
  refine WL.nil ?_
  refine WC.seq ?_
  refine WC.region ?_
  refine WL.ex rfl (ex_move (v := .int .i64 a0) rfl) ?_
  obtain ⟨z101, hz101, H⟩ := bindE H
  refine WL.op rfl ?_
  refine OW.call [.int .i64 a0] rfl Tryd.func55 (by kernel_rfl) (by kernel_rfl) (map_cons' rfl rfl) (strconv_Itoa.calls _ _ a0 z101 (HF.ten (V := [0]) (L := []) rfl) (Gl.vw (V := [0]) (L := []) hG rfl) hz101) ?_
  rintro _ w102 ⟨o103, rfl, s104⟩
  refine ⟨_, rfl, ?_⟩
  replace s104 := un_stepL (J := []) (L' := []) s104 rfl rfl
  replace hG := hG.step s104 rfl
  replace HF := HF.step s104 rfl
  refine WL.ex rfl (ex_assign (v := encS z101) rfl) ?_
  refine WL.nil ?_
  refine WC.ret ?_
  obtain rfl := Option.some.inj H
  exact ⟨_, (.tmp (encS z101 : Value) rfl .nil), _, rfl, HF.out⟩

/-! ### octet_Undec -/
set_option maxRecDepth 100000 in
theorem octet_Undec.calls (o0 : Tags) (w0 : World) (a0 : List UInt8) (a1 : Int) (r : Int × Int) (hO : ∀ b, b < w0.heap.size → o0 b < 10) (hG : Gl GG o0 w0) (H : octet_Undec.f a0 a1 = some r) :
    Calls Tryd.prog 42 [encS a0, .int .i64 a1].toArray w0 fun e_ w_ => ∃ (o_ : Tags), e_ = .returned (one [.int .i64 r.1, .int .i64 r.2]) ∧ Step o0 w0 o_ w_ [] := by
  have HF := Fm.refl hO []
  unfold octet_Undec.f at H
  refine SX.calls [encS a0, .int .i64 a1] Tryd.func42 rfl rfl ?_
  rw [Tryd.ntmps42]
  refine WC.seq ?_
  refine WC.region ?_
  refine WL.ex rfl (ex_assign (v := .int .i64 0) rfl) ?_
  refine WL.ex rfl (ex_assign (v := .int .i64 0) rfl) ?_
  refine WL.nil ?_
  refine WC.seq ?_
  refine WC.region ?_
  refine WL.ex rfl (ex_move (v := encS a0) rfl) ?_
  obtain ⟨z101, hz101, H⟩ := bindE H
  refine WL.op rfl ?_
  refine OW.call [encS a0] rfl Tryd.func61 (by kernel_rfl) (by kernel_rfl) (map_cons' rfl rfl) (strconv_Atoi.calls _ _ a0 z101 (HF.ten (V := [0]) (L := []) rfl) (Gl.vw (V := [0]) (L := []) hG rfl) hz101) ?_
  rintro _ w102 ⟨o103, v105, rfl, s104, hE106⟩
  refine ⟨_, rfl, ?_⟩
  replace s104 := un_stepL (J := []) (L' := []) s104 rfl rfl
  replace hG := hG.step s104 rfl
  replace HF := HF.step s104 rfl
  refine WL.ex rfl (ex_move (v := .tuple #[.int .i64 z101.1, v105]) rfl) ?_
  refine WL.ex rfl (ex_extract (vs := #[.int .i64 z101.1, v105]) (v := .int .i64 z101.1) rfl rfl) ?_
  refine WL.ex rfl (ex_extract (vs := #[.int .i64 z101.1, v105]) (v := v105) rfl rfl) ?_
  refine WL.ex rfl (ex_assign (v := .int .i64 z101.1) rfl) ?_
  refine WL.ex rfl (ex_assign (v := v105) rfl) ?_
  refine WL.nil ?_
  refine WC.seq ?_
  obtain ⟨z108, hz108, H⟩ := bindE H
  refine WC.cut (fun ρ_ w_ => ∃ (o_ : Tags), Fm o0 w0 o_ w_ [] ∧ Gl GG o_ w_ ∧ ρ_ 4 = .int .i64 0 ∧ ρ_ 5 = .int .i64 0 ∧ ρ_ 6 = .int .i64 z101.1 ∧ ρ_ 34 = .bool z108) ?case109 ?_
  case case109 =>
    rintro ρ112 w110 ⟨o111, HF, hG, s4_106, s5_106, s6_106, s34_107⟩
    rcases condE H with ⟨c113, H⟩ | ⟨c113, H⟩
    ·
      refine WC.cond_t ((show _ = Value.bool z108 from s34_107).trans (congrArg Value.bool c113)) ?_
      refine WC.seq ?_
      refine WC.region ?_
      refine WL.ex rfl (ex_assign (v := .int .i64 0) rfl) ?_
      refine WL.ex rfl (ex_assign (v := .int .i64 2) rfl) ?_
      refine WL.nil ?_
      refine WC.ret ?_
      obtain rfl := Option.some.inj H
      exact ⟨_, (.tmp (.int .i64 0 : Value) rfl (.tmp (.int .i64 2 : Value) rfl .nil)), _, rfl, HF.out⟩
    ·
      refine WC.cond_f ((show _ = Value.bool z108 from s34_107).trans (congrArg Value.bool c113)) ?_
      refine WC.skip ?_
      refine WC.seq ?_
      refine WC.region ?_
      refine WL.ex rfl (ex_move (v := .int .i64 z101.1) s6_106) ?_
      refine WL.ex rfl (ex_assign (v := .int .i64 z101.1) rfl) ?_
      refine WL.ex rfl (ex_assign (v := .int .i64 0) rfl) ?_
      refine WL.nil ?_
      refine WC.ret ?_
      obtain rfl := Option.some.inj H
      exact ⟨_, (.tmp (.int .i64 z101.1 : Value) rfl (.tmp (.int .i64 0 : Value) rfl .nil)), _, rfl, HF.out⟩
  have Ho114 := H
  replace H := hz108
  refine WC.region ?_
  refine WL.ex rfl (ex_move (v := v105) rfl) ?_
  refine WL.ex rfl (ex_errNeq (b := z101.2) rfl Tryd.underlying77 hE106) ?_
  refine WL.ex rfl (ex_move (v := .bool z101.2) rfl) ?_
  rcases condE H with ⟨c115, H⟩ | ⟨c115, H⟩
  ·
    refine WL.guardNo rfl rfl rfl ((show _ = Value.bool z101.2 from rfl).trans (congrArg Value.bool c115)) ?_
    refine WL.guardNo rfl rfl rfl ((show _ = Value.bool z101.2 from rfl).trans (congrArg Value.bool c115)) ?_
    refine WL.ex rfl (ex_pick_t (v := .bool true) ((show _ = Value.bool z101.2 from rfl).trans (congrArg Value.bool c115)) rfl) ?_
    refine WL.ex rfl (ex_move (v := .bool true) rfl) ?_
    refine WL.guardNo rfl rfl rfl rfl ?_
    refine WL.guardNo rfl rfl rfl rfl ?_
    refine WL.guardNo rfl rfl rfl rfl ?_
    refine WL.ex rfl (ex_pick_t (v := .bool true) rfl rfl) ?_
    refine WL.ex rfl (ex_move (v := .bool true) rfl) ?_
    refine WL.guardNo rfl rfl rfl rfl ?_
    refine WL.guardNo rfl rfl rfl rfl ?_
    refine WL.guardNo rfl rfl rfl rfl ?_
    refine WL.ex rfl (ex_pick_t (v := .bool true) rfl rfl) ?_
    refine WL.ex rfl (ex_move (v := .bool true) rfl) ?_
    refine WL.guardNo rfl rfl rfl rfl ?_
    refine WL.guardNo rfl rfl rfl rfl ?_
    refine WL.guardNo rfl rfl rfl rfl ?_
    refine WL.guardNo rfl rfl rfl rfl ?_
    refine WL.ex rfl (ex_pick_t (v := .bool true) rfl rfl) ?_
    refine WL.nil ?_
    obtain rfl := Option.some.inj H
    exact ⟨_, HF, hG, rfl, rfl, rfl, rfl⟩
  ·
    refine WL.guardYes rfl rfl rfl ((show _ = Value.bool z101.2 from rfl).trans (congrArg Value.bool c115)) ?_
    refine OW.ex rfl (ex_move (v := .int .i64 z101.1) rfl) ?_
    refine WL.guardYes rfl rfl rfl ((show _ = Value.bool z101.2 from rfl).trans (congrArg Value.bool c115)) ?_
    refine OW.ex rfl (ex_bin (a := .int .i64 z101.1) (b := .int .i64 0) (v := .bool (decide (z101.1 < 0))) rfl rfl bin_lss) ?_
    refine WL.ex rfl (ex_pick_f (v := .bool (decide (z101.1 < 0))) ((show _ = Value.bool z101.2 from rfl).trans (congrArg Value.bool c115)) rfl) ?_
    refine WL.ex rfl (ex_move (v := .bool (decide (z101.1 < 0))) rfl) ?_
    rcases condE H with ⟨c116, H⟩ | ⟨c116, H⟩
    ·
      refine WL.guardNo rfl rfl rfl ((show _ = Value.bool (decide (z101.1 < 0)) from rfl).trans (congrArg Value.bool c116)) ?_
      refine WL.guardNo rfl rfl rfl ((show _ = Value.bool (decide (z101.1 < 0)) from rfl).trans (congrArg Value.bool c116)) ?_
      refine WL.guardNo rfl rfl rfl ((show _ = Value.bool (decide (z101.1 < 0)) from rfl).trans (congrArg Value.bool c116)) ?_
      refine WL.ex rfl (ex_pick_t (v := .bool true) ((show _ = Value.bool (decide (z101.1 < 0)) from rfl).trans (congrArg Value.bool c116)) rfl) ?_
      refine WL.ex rfl (ex_move (v := .bool true) rfl) ?_
      refine WL.guardNo rfl rfl rfl rfl ?_
      refine WL.guardNo rfl rfl rfl rfl ?_
      refine WL.guardNo rfl rfl rfl rfl ?_
      refine WL.ex rfl (ex_pick_t (v := .bool true) rfl rfl) ?_
      refine WL.ex rfl (ex_move (v := .bool true) rfl) ?_
      refine WL.guardNo rfl rfl rfl rfl ?_
      refine WL.guardNo rfl rfl rfl rfl ?_
      refine WL.guardNo rfl rfl rfl rfl ?_
      refine WL.guardNo rfl rfl rfl rfl ?_
      refine WL.ex rfl (ex_pick_t (v := .bool true) rfl rfl) ?_
      refine WL.nil ?_
      obtain rfl := Option.some.inj H
      exact ⟨_, HF, hG, rfl, rfl, rfl, rfl⟩
    ·
      refine WL.guardYes rfl rfl rfl ((show _ = Value.bool (decide (z101.1 < 0)) from rfl).trans (congrArg Value.bool c116)) ?_
      refine OW.ex rfl (ex_move (v := .int .i64 z101.1) rfl) ?_
      refine WL.guardYes rfl rfl rfl ((show _ = Value.bool (decide (z101.1 < 0)) from rfl).trans (congrArg Value.bool c116)) ?_
      refine OW.ex rfl (ex_move (v := .int .i64 a1) rfl) ?_
      refine WL.guardYes rfl rfl rfl ((show _ = Value.bool (decide (z101.1 < 0)) from rfl).trans (congrArg Value.bool c116)) ?_
      refine OW.ex rfl (ex_bin (a := .int .i64 z101.1) (b := .int .i64 a1) (v := .bool (decide (z101.1 > a1))) rfl rfl bin_gtr) ?_
      refine WL.ex rfl (ex_pick_f (v := .bool (decide (z101.1 > a1))) ((show _ = Value.bool (decide (z101.1 < 0)) from rfl).trans (congrArg Value.bool c116)) rfl) ?_
      refine WL.ex rfl (ex_move (v := .bool (decide (z101.1 > a1))) rfl) ?_
      rcases condE H with ⟨c117, H⟩ | ⟨c117, H⟩
      ·
        refine WL.guardNo rfl rfl rfl ((show _ = Value.bool (decide (z101.1 > a1)) from rfl).trans (congrArg Value.bool c117)) ?_
        refine WL.guardNo rfl rfl rfl ((show _ = Value.bool (decide (z101.1 > a1)) from rfl).trans (congrArg Value.bool c117)) ?_
        refine WL.guardNo rfl rfl rfl ((show _ = Value.bool (decide (z101.1 > a1)) from rfl).trans (congrArg Value.bool c117)) ?_
        refine WL.ex rfl (ex_pick_t (v := .bool true) ((show _ = Value.bool (decide (z101.1 > a1)) from rfl).trans (congrArg Value.bool c117)) rfl) ?_
        refine WL.ex rfl (ex_move (v := .bool true) rfl) ?_
        refine WL.guardNo rfl rfl rfl rfl ?_
        refine WL.guardNo rfl rfl rfl rfl ?_
        refine WL.guardNo rfl rfl rfl rfl ?_
        refine WL.guardNo rfl rfl rfl rfl ?_
        refine WL.ex rfl (ex_pick_t (v := .bool true) rfl rfl) ?_
        refine WL.nil ?_
        obtain rfl := Option.some.inj H
        exact ⟨_, HF, hG, rfl, rfl, rfl, rfl⟩
      ·
        refine WL.guardYes rfl rfl rfl ((show _ = Value.bool (decide (z101.1 > a1)) from rfl).trans (congrArg Value.bool c117)) ?_
        refine OW.ex rfl (ex_move (v := encS a0) rfl) ?_
        refine WL.guardYes rfl rfl rfl ((show _ = Value.bool (decide (z101.1 > a1)) from rfl).trans (congrArg Value.bool c117)) ?_
        refine OW.ex rfl (ex_len_str (s := a0) rfl Tryd.underlying9) ?_
        refine WL.guardYes rfl rfl rfl ((show _ = Value.bool (decide (z101.1 > a1)) from rfl).trans (congrArg Value.bool c117)) ?_
        refine OW.ex rfl (ex_bin (a := .int .i64 (a0.length : Int)) (b := .int .i64 10) (v := .bool (decide ((a0.length : Int) > 10))) rfl rfl bin_gtr) ?_
        refine WL.ex rfl (ex_pick_f (v := .bool (decide ((a0.length : Int) > 10))) ((show _ = Value.bool (decide (z101.1 > a1)) from rfl).trans (congrArg Value.bool c117)) rfl) ?_
        refine WL.ex rfl (ex_move (v := .bool (decide ((a0.length : Int) > 10))) rfl) ?_
        rcases condE H with ⟨c118, H⟩ | ⟨c118, H⟩
        ·
          refine WL.guardNo rfl rfl rfl ((show _ = Value.bool (decide ((a0.length : Int) > 10)) from rfl).trans (congrArg Value.bool c118)) ?_
          refine WL.guardNo rfl rfl rfl ((show _ = Value.bool (decide ((a0.length : Int) > 10)) from rfl).trans (congrArg Value.bool c118)) ?_
          refine WL.guardNo rfl rfl rfl ((show _ = Value.bool (decide ((a0.length : Int) > 10)) from rfl).trans (congrArg Value.bool c118)) ?_
          refine WL.guardNo rfl rfl rfl ((show _ = Value.bool (decide ((a0.length : Int) > 10)) from rfl).trans (congrArg Value.bool c118)) ?_
          refine WL.ex rfl (ex_pick_t (v := .bool true) ((show _ = Value.bool (decide ((a0.length : Int) > 10)) from rfl).trans (congrArg Value.bool c118)) rfl) ?_
          refine WL.nil ?_
          obtain rfl := Option.some.inj H
          exact ⟨_, HF, hG, rfl, rfl, rfl, rfl⟩
        ·
          refine WL.guardYes rfl rfl rfl ((show _ = Value.bool (decide ((a0.length : Int) > 10)) from rfl).trans (congrArg Value.bool c118)) ?_
          refine OW.ex rfl (ex_move (v := .int .i64 z101.1) rfl) ?_
          refine WL.guardYes rfl rfl rfl ((show _ = Value.bool (decide ((a0.length : Int) > 10)) from rfl).trans (congrArg Value.bool c118)) ?_
          obtain ⟨z119, hz119, H⟩ := bindE H
          refine OW.call [.int .i64 z101.1] rfl Tryd.func38 (by kernel_rfl) (by kernel_rfl) (map_cons' rfl rfl) (octet_Dec.calls _ _ z101.1 z119 (HF.ten (V := [0]) (L := []) rfl) (Gl.vw (V := [0]) (L := []) hG rfl) hz119) ?_
          rintro _ w120 ⟨o121, rfl, s122⟩
          refine ⟨_, rfl, ?_⟩
          replace s122 := un_stepL (J := []) (L' := []) s122 rfl rfl
          replace hG := hG.step s122 rfl
          replace HF := HF.step s122 rfl
          refine WL.guardYes rfl rfl rfl ((show _ = Value.bool (decide ((a0.length : Int) > 10)) from rfl).trans (congrArg Value.bool c118)) ?_
          refine OW.ex rfl (ex_move (v := encS a0) rfl) ?_
          refine WL.guardYes rfl rfl rfl ((show _ = Value.bool (decide ((a0.length : Int) > 10)) from rfl).trans (congrArg Value.bool c118)) ?_
          refine OW.ex rfl (ex_bin (a := encS z119) (b := encS a0) (v := .bool (!(z119 == a0))) rfl rfl bin_neq_str) ?_
          refine WL.ex rfl (ex_pick_f (v := .bool (!(z119 == a0))) ((show _ = Value.bool (decide ((a0.length : Int) > 10)) from rfl).trans (congrArg Value.bool c118)) rfl) ?_
          refine WL.nil ?_
          obtain rfl := Option.some.inj H
          exact ⟨_, HF, hG, rfl, rfl, rfl, rfl⟩
end Go.Proofs.YtfdocckaobmgeaaDoor.X
