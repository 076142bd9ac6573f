import Derived.Test.YtfdocckaobmgeaaDoorXAD
import Derived.Test.YtfdocckaobmgeaaDoorProg
import Derived.Test.YtfdocckaobmgeaaDoorSxS
import Derived.Test.YtfdocckaobmgeaaDoorShelf
set_option maxRecDepth 20000
set_option linter.unusedVariables false
set_option linter.unusedSimpArgs false
set_option linter.unnecessarySimpa false
namespace Go.Proofs.YtfdocckaobmgeaaDoor.X
open Go Go.RowKit Go.Proofs.YtfdocckaobmgeaaDoor.SX
/-! What the program's variables hold -/
def GG : Glob := { L := [2, 3, 6, 0, 4, 5], T := fun w => Lib.Utf8Tabs 2 3 w ∧ Lib.TabIs Tryd.prog w "internal/strconv.uint64pow10" .u64 Lib.pow10Tab ∧ Lib.TabIs Tryd.prog w "math/bits.deBruijn64tab" .u8 db64I ∧ (∃ tp p, w.var? Tryd.prog "strconv.ErrSyntax" = some #[.iface tp p]) ∧ (∃ tp p, w.var? Tryd.prog "strconv.ErrRange" = some #[.iface tp p]), move := fun {w w'} hk h => ⟨⟨fun c hc => by rw [cell_move (w := w) (hk 2 (by simp))]; exact h.1.1 c hc, fun i hi => ⟨by rw [cell_move (w := w) (hk 3 (by simp))]; exact (h.1.2 i hi).1, by rw [cell_move (w := w) (hk 3 (by simp))]; exact (h.1.2 i hi).2⟩⟩, (var_move (by kernel_rfl : Tryd.prog.globalNamed "internal/strconv.uint64pow10" = some 6) (hk 6 (by simp))).trans h.2.1, (var_move (by kernel_rfl : Tryd.prog.globalNamed "math/bits.deBruijn64tab" = some 0) (hk 0 (by simp))).trans h.2.2.1, (by obtain ⟨tp, p, e⟩ := h.2.2.2.1; exact ⟨tp, p, (var_move (by kernel_rfl : Tryd.prog.globalNamed "strconv.ErrSyntax" = some 4) (hk 4 (by simp))).trans e⟩), (by obtain ⟨tp, p, e⟩ := h.2.2.2.2; exact ⟨tp, p, (var_move (by kernel_rfl : Tryd.prog.globalNamed "strconv.ErrRange" = some 5) (hk 5 (by simp))).trans e⟩)⟩ }

theorem inf3 : (Tryd.prog.info? 3).map (fun i => (i.zero, i.size, i.bytes)) = some (some (.int .i64 0), 1, 8) := by kernel_rfl
theorem inf9 : (Tryd.prog.info? 9).map (fun i => (i.zero, i.size, i.bytes)) = some (some (.string ⟨#[]⟩), 1, 16) := by kernel_rfl
theorem sz3 : (Tryd.prog.info? 3).map (·.size) = some 1 := by kernel_rfl
theorem sz5 : (Tryd.prog.info? 5).map (·.size) = some 1 := by kernel_rfl
theorem sz9 : (Tryd.prog.info? 9).map (·.size) = some 1 := by kernel_rfl
theorem sz22 : (Tryd.prog.info? 22).map (·.size) = some 1 := by kernel_rfl
theorem sz24 : (Tryd.prog.info? 24).map (·.size) = some 16 := by kernel_rfl
theorem sz26 : (Tryd.prog.info? 26).map (·.size) = some 1 := by kernel_rfl
theorem zr3 : (Tryd.prog.info? 3).map (·.zero) = some (some (.int .i64 0)) := by kernel_rfl
theorem zr9 : (Tryd.prog.info? 9).map (·.zero) = some (some (.string ⟨#[]⟩)) := by kernel_rfl
theorem zr24 : (Tryd.prog.info? 24).map (·.zero) = some (some (.agg #[.int .u64 0, .int .u64 0, .int .u64 0, .int .u64 0, .int .u64 0, .int .u64 0, .int .u64 0, .int .u64 0, .int .u64 0, .int .u64 0, .int .u64 0, .int .u64 0, .int .u64 0, .int .u64 0, .int .u64 0, .int .u64 0])) := by kernel_rfl
theorem zr26 : (Tryd.prog.info? 26).map (·.zero) = some (some (.int .i64 0)) := by kernel_rfl

/-! ### bits_inside -/
set_option maxRecDepth 100000 in
theorem bits_inside.calls (o0 : Tags) (w0 : World) (a0 : Int) (r : Bool) (hO : ∀ b, b < w0.heap.size → o0 b < 10) (H : bits_inside.f a0 = some r) :
    Calls Tryd.prog 46 [.int .i64 a0].toArray w0 fun e_ w_ => ∃ (o_ : Tags), e_ = .returned (one [.bool r]) ∧ Step o0 w0 o_ w_ [] := by
  have HF := Fm.refl hO []
  unfold bits_inside.f at H
  refine SX.calls [.int .i64 a0] Tryd.func46 rfl rfl ?_
  rw [Tryd.ntmps46]
  refine WC.seq ?_
  refine WC.region ?_
  refine WL.ex rfl (ex_assign (v := .bool false) rfl) ?_
  refine WL.nil ?_
  refine WC.seq ?_
  refine WC.region ?_
  refine WL.ex rfl (ex_move (v := .int .i64 a0) rfl) ?_
  refine WL.ex rfl (ex_bin (a := .int .i64 a0) (b := .int .i64 0) (v := .bool (decide (a0 ≥ 0))) rfl rfl bin_geq) ?_
  refine WL.ex rfl (ex_move (v := .bool (decide (a0 ≥ 0))) rfl) ?_
  rcases condE H with ⟨c101, H⟩ | ⟨c101, H⟩
  ·
    refine WL.guardYes rfl rfl rfl ((show _ = Value.bool (decide (a0 ≥ 0)) from rfl).trans (congrArg Value.bool c101)) ?_
    refine OW.ex rfl (ex_move (v := .int .i64 a0) rfl) ?_
    refine WL.guardYes rfl rfl rfl ((show _ = Value.bool (decide (a0 ≥ 0)) from rfl).trans (congrArg Value.bool c101)) ?_
    refine OW.ex rfl (ex_bin (a := .int .i64 a0) (b := .int .i64 1024) (v := .bool (decide (a0 < 1024))) rfl rfl bin_lss) ?_
    refine WL.ex rfl (ex_pick_t (v := .bool (decide (a0 < 1024))) ((show _ = Value.bool (decide (a0 ≥ 0)) from rfl).trans (congrArg Value.bool c101)) rfl) ?_
    refine WL.ex rfl (ex_assign (v := .bool (decide (a0 < 1024))) rfl) ?_
    refine WL.nil ?_
    refine WC.ret ?_
    obtain rfl := Option.some.inj H
    exact ⟨_, (.tmp (.bool (decide (a0 < 1024)) : Value) rfl .nil), _, rfl, HF.out⟩
  ·
    refine WL.guardNo rfl rfl rfl ((show _ = Value.bool (decide (a0 ≥ 0)) from rfl).trans (congrArg Value.bool c101)) ?_
    refine WL.guardNo rfl rfl rfl ((show _ = Value.bool (decide (a0 ≥ 0)) from rfl).trans (congrArg Value.bool c101)) ?_
    refine WL.ex rfl (ex_pick_f (v := .bool false) ((show _ = Value.bool (decide (a0 ≥ 0)) from rfl).trans (congrArg Value.bool c101)) rfl) ?_
    refine WL.ex rfl (ex_assign (v := .bool false) rfl) ?_
    refine WL.nil ?_
    refine WC.ret ?_
    obtain rfl := Option.some.inj H
    exact ⟨_, (.tmp (.bool false : Value) rfl .nil), _, rfl, HF.out⟩

/-! ### bits_TrailingZeros64 -/
set_option maxRecDepth 100000 in
theorem bits_TrailingZeros64.calls (o0 : Tags) (w0 : World) (a0 : UInt64) (r : Int) (hO : ∀ b, b < w0.heap.size → o0 b < 10) (hG : Gl GG o0 w0) (H : bits_TrailingZeros64.f a0 = some r) :
    Calls Tryd.prog 47 [enc64 a0].toArray w0 fun e_ w_ => ∃ (o_ : Tags), e_ = .returned (one [.int .i64 r]) ∧ Step o0 w0 o_ w_ [] := by
  have HF := Fm.refl hO []
  unfold bits_TrailingZeros64.f at H
  refine SX.calls [enc64 a0] Tryd.func47 rfl rfl ?_
  rw [Tryd.ntmps47]
  refine WC.seq ?_
  refine WC.region ?_
  refine WL.ex rfl (ex_assign (v := .int .i64 0) rfl) ?_
  refine WL.nil ?_
  refine WC.seq ?_
  refine WC.seq ?_
  refine WC.region ?_
  refine WL.ex rfl (ex_move (v := enc64 a0) rfl) ?_
  refine WL.ex rfl (ex_bin (a := enc64 a0) (b := enc64 (0 : UInt64)) (v := .bool (a0 == (0 : UInt64))) rfl rfl bin_eql_u64) ?_
  refine WL.nil ?_
  rcases condE H with ⟨c101, H⟩ | ⟨c101, H⟩
  ·
    refine WC.cond_t ((show _ = Value.bool (a0 == (0 : UInt64)) from rfl).trans (congrArg Value.bool c101)) ?_
    refine WC.seq ?_
    refine WC.region ?_
    refine WL.ex rfl (ex_assign (v := .int .i64 64) rfl) ?_
    refine WL.nil ?_
    refine WC.ret ?_
    obtain rfl := Option.some.inj H
    exact ⟨_, (.tmp (.int .i64 64 : Value) rfl .nil), _, rfl, HF.out⟩
  ·
    refine WC.cond_f ((show _ = Value.bool (a0 == (0 : UInt64)) from rfl).trans (congrArg Value.bool c101)) ?_
    refine WC.skip ?_
    refine WC.seq ?_
    refine WC.region ?_
    refine WL.ex rfl (ex_move (v := enc64 a0) rfl) ?_
    refine WL.ex rfl (ex_move (v := enc64 a0) rfl) ?_
    refine WL.ex rfl (ex_neg_u64 (a := a0) rfl) ?_
    refine WL.ex rfl (ex_bin (a := enc64 a0) (b := enc64 (0 - a0)) (v := enc64 (a0 &&& (0 - a0))) rfl rfl bin_and_u64) ?_
    refine WL.ex rfl (ex_bin (a := enc64 (a0 &&& (0 - a0))) (b := enc64 (285870213051353865 : UInt64)) (v := enc64 ((a0 &&& (0 - a0)) * (285870213051353865 : UInt64))) rfl rfl bin_mul_u64) ?_
    refine WL.ex rfl (ex_bin (a := enc64 ((a0 &&& (0 - a0)) * (285870213051353865 : UInt64))) (b := enc64 (58 : UInt64)) (v := enc64 (shr64 ((a0 &&& (0 - a0)) * (285870213051353865 : UInt64)) 58)) rfl rfl (bin_shr_u64n (n := 58))) ?_
    obtain ⟨x102, hx102, H⟩ := bindE H
    refine WL.ex rfl (ex_indexArrB (xs := db64) (i := ((shr64 ((a0 &&& (0 - a0)) * (285870213051353865 : UInt64)) 58).toNat : Int)) rfl rfl Tryd.underlying82 sz5 rfl hx102) ?_
    refine WL.ex rfl (ex_load1 (v := enc8 x102) rfl Tryd.underlying5 rfl (tab8_cell (xs := db64) (by kernel_rfl) hG.2.2.2.1 hx102)) ?_
    refine WL.ex rfl (ex_conv_small (a := (x102.toNat : Int)) rfl Tryd.underlying5 Tryd.underlying3 (small8 x102)) ?_
    refine WL.ex rfl (ex_assign (v := .int .i64 (x102.toNat : Int)) rfl) ?_
    refine WL.nil ?_
    refine WC.ret ?_
    obtain rfl := Option.some.inj H
    exact ⟨_, (.tmp (.int .i64 (x102.toNat : Int) : Value) rfl .nil), _, rfl, HF.out⟩

/-! ### bits_Next -/
set_option maxRecDepth 100000 in
theorem bits_Next.calls (k : Nat) (o0 : Tags) (w0 : World) (a0 : (List UInt64)) (a1 : Int) (r : Int × Bool) (hO : ∀ b, b < w0.heap.size → o0 b < 10) (hla0 : a0.length = 16) (hG : Gl GG o0 w0) (H : bits_Next.f k a0 a1 = some r) :
    Calls Tryd.prog 13 [.agg (List.map enc64 a0).toArray, .int .i64 a1].toArray w0 fun e_ w_ => ∃ (o_ : Tags), e_ = .returned (one [.int .i64 r.1, .bool r.2]) ∧ Step o0 w0 o_ w_ [] := by
  have HF := Fm.refl hO []
  unfold bits_Next.f at H
  refine SX.calls [.agg (List.map enc64 a0).toArray, .int .i64 a1] Tryd.func13 rfl rfl ?_
  rw [Tryd.ntmps13]
  refine WC.seq ?_
  refine WC.region ?_
  refine WL.op rfl ?_
  refine OW.box' (List.map enc64 a0) 10 HF rfl ((congrArg Value.cells (show ev _ _ = (.agg (List.map enc64 a0).toArray : Value) from rfl)).trans rfl) ?_
  intro o102 w103 b101 s104 hB105
  replace hG := hG.step s104 rfl
  replace HF := HF.step s104 rfl
  refine WL.ex rfl (ex_assign (v := .int .i64 0) rfl) ?_
  refine WL.ex rfl (ex_assign (v := .bool false) rfl) ?_
  refine WL.nil ?_
  refine WC.seq ?_
  refine WC.region ?_
  refine WL.ex rfl (ex_move (v := .int .i64 a1) rfl) ?_
  refine WL.ex rfl (ex_max (a := a1) (b := 0) rfl rfl) ?_
  refine WL.ex rfl (ex_assign (v := .int .i64 (if 0 > a1 then 0 else a1)) rfl) ?_
  refine WL.nil ?_
  refine WC.seq ?_
  refine WC.seq ?_
  refine WC.region ?_
  refine WL.ex rfl (ex_move (v := .int .i64 (if 0 > a1 then 0 else a1)) rfl) ?_
  obtain ⟨z106, hz106, H⟩ := bindE H
  refine WL.op rfl ?_
  refine OW.call [.int .i64 (if 0 > a1 then 0 else a1)] rfl Tryd.func46 (by kernel_rfl) (by kernel_rfl) (map_cons' rfl rfl) (bits_inside.calls _ _ (if 0 > a1 then 0 else a1) z106 (HF.ten (V := [0]) (L := []) rfl)  hz106) ?_
  rintro _ w107 ⟨o108, rfl, s109⟩
  refine ⟨_, rfl, ?_⟩
  replace s109 := un_stepL (J := []) (L' := []) s109 rfl rfl
  replace hG := hG.step s109 rfl
  replace hB105 := hB105.step s109 rfl
  replace HF := HF.step s109 rfl
  refine WL.ex rfl (ex_not (b := z106) rfl) ?_
  refine WL.nil ?_
  rcases condE H with ⟨c110, H⟩ | ⟨c110, H⟩
  ·
    refine WC.cond_t ((show _ = Value.bool (!z106) from rfl).trans (congrArg Value.bool c110)) ?_
    refine WC.seq ?_
    refine WC.region ?_
    refine WL.ex rfl (ex_assign (v := .int .i64 0) rfl) ?_
    refine WL.ex rfl (ex_assign (v := .bool false) rfl) ?_
    refine WL.nil ?_
    refine WC.ret ?_
    obtain rfl := Option.some.inj H
    exact ⟨_, (.tmp (.int .i64 0 : Value) rfl (.tmp (.bool false : Value) rfl .nil)), _, rfl, HF.out⟩
  ·
    refine WC.cond_f ((show _ = Value.bool (!z106) from rfl).trans (congrArg Value.bool c110)) ?_
    refine WC.skip ?_
    refine WC.seq ?_
    refine WC.regionD' HF [10] 10 (by kernel_rfl) rfl ?_
    intro w111 s112
    replace hG := hG.step s112 rfl
    replace hB105 := hB105.step s112 rfl
    replace HF := HF.step s112 rfl
    have hGD := hG
    have hB105D := hB105
    have sR := HF.here [10]
    refine WA.norm (listed' := #[false, false, false, false, false, false, false, false, false, false]) (by kernel_rfl) ?_
    refine WA.ex 0 rfl (by kernel_rfl) (by kernel_rfl) (by kernel_rfl) rfl ⟨_, sR⟩ (fun w_ hS_ => ex_move (v := .int .i64 (if 0 > a1 then 0 else a1)) rfl) ?_
    refine WA.norm (listed' := #[true, false, false, false, false, false, false, false, false, false]) (by kernel_rfl) ?_
    refine WA.ex 1 rfl (by kernel_rfl) (by kernel_rfl) (by kernel_rfl) rfl ⟨_, sR⟩ (fun w_ hS_ => ex_bin (a := .int .i64 (if 0 > a1 then 0 else a1)) (b := .int .i64 64) (v := .int .i64 (wrap64 ((if 0 > a1 then 0 else a1).tdiv 64))) rfl rfl (bin_quo64 (by decide))) ?_
    refine WA.norm (listed' := #[true, true, false, false, false, false, false, false, false, false]) (by kernel_rfl) ?_
    obtain ⟨x113, hx113, H⟩ := bindE H
    refine WA.ex 2 rfl (by kernel_rfl) (by kernel_rfl) (by kernel_rfl) rfl ⟨_, sR⟩ (fun w_ hS_ => ex_indexArrB (i := (wrap64 ((if 0 > a1 then 0 else a1).tdiv 64))) (xs := a0) rfl rfl Tryd.underlying24 sz22 hla0 hx113) ?_
    refine WA.norm (listed' := #[true, true, true, false, false, false, false, false, false, false]) (by kernel_rfl) ?_
    refine WA.ex 4 rfl (by kernel_rfl) (by kernel_rfl) (by kernel_rfl) rfl ⟨_, sR⟩ (fun w_ hS_ => ex_move (v := .int .i64 (if 0 > a1 then 0 else a1)) rfl) ?_
    refine WA.norm (listed' := #[true, true, true, false, true, false, false, false, false, false]) (by kernel_rfl) ?_
    refine WA.ex 5 rfl (by kernel_rfl) (by kernel_rfl) (by kernel_rfl) rfl ⟨_, sR⟩ (fun w_ hS_ => ex_bin (a := .int .i64 (if 0 > a1 then 0 else a1)) (b := .int .i64 64) (v := .int .i64 ((if 0 > a1 then 0 else a1).tmod 64)) rfl rfl (bin_rem64 (by decide))) ?_
    refine WA.norm (listed' := #[true, true, true, false, true, true, false, false, false, false]) (by kernel_rfl) ?_
    obtain ⟨u114, hu114, H⟩ := bindE H
    refine WA.ex 6 rfl (by kernel_rfl) (by kernel_rfl) (by kernel_rfl) rfl ⟨_, sR⟩ (fun w_ hS_ => ex_bin (a := enc64 (18446744073709551615 : UInt64)) (b := .int .i64 ((if 0 > a1 then 0 else a1).tmod 64)) (v := enc64 (shl64 (18446744073709551615 : UInt64) ((if 0 > a1 then 0 else a1).tmod 64).toNat)) rfl rfl (bin_shl_u64 (of_decide_eq_true (chk_true hu114)))) ?_
    refine WA.norm (listed' := #[true, true, true, false, true, true, true, false, false, false]) (by kernel_rfl) ?_
    refine WA.one 3 (by kernel_rfl) rfl rfl ?_
    refine OW.ex rfl (ex_loadAE (enc := enc64) rfl Tryd.underlying22 rfl hB105 hx113) ?_
    refine ⟨⟨_, sR⟩, ?_⟩
    refine WA.norm (listed' := #[true, true, true, true, true, true, true, false, false, false]) (by kernel_rfl) ?_
    refine WA.ex 7 rfl (by kernel_rfl) (by kernel_rfl) (by kernel_rfl) rfl ⟨_, sR⟩ (fun w_ hS_ => ex_bin (a := enc64 x113) (b := enc64 (shl64 (18446744073709551615 : UInt64) ((if 0 > a1 then 0 else a1).tmod 64).toNat)) (v := enc64 (x113 &&& (shl64 (18446744073709551615 : UInt64) ((if 0 > a1 then 0 else a1).tmod 64).toNat))) rfl rfl bin_and_u64) ?_
    refine WA.norm (listed' := #[true, true, true, true, true, true, true, true, false, false]) (by kernel_rfl) ?_
    obtain ⟨x115, hx115, H⟩ := bindE H
    refine WA.ex 8 rfl (by kernel_rfl) (by kernel_rfl) (by kernel_rfl) rfl ⟨_, sR⟩ (fun w_ hS_ => ex_indexArrB (i := (wrap64 ((if 0 > a1 then 0 else a1).tdiv 64))) (xs := a0) rfl rfl Tryd.underlying24 sz22 hla0 hx115) ?_
    refine WA.norm (listed' := #[true, true, true, true, true, true, true, true, true, false]) (by kernel_rfl) ?_
    refine WA.one 9 (by kernel_rfl) rfl rfl ?_
    refine OW.storeAE (enc := enc64) (c := (x113 &&& (shl64 (18446744073709551615 : UInt64) ((if 0 > a1 then 0 else a1).tmod 64).toNat))) rfl rfl (cells64) (fun _ => rfl) sz22 hB105 hx115 ?_
    intro w116 s117 hB118
    replace hG := hG.step s117 rfl
    replace HF := HF.step s117 rfl
    replace sR := Step.trans sR s117 (M := [10]) rfl rfl
    have hl119 := len_set (i := (wrap64 ((if 0 > a1 then 0 else a1).tdiv 64)).toNat) (a := (x113 &&& (shl64 (18446744073709551615 : UInt64) ((if 0 > a1 then 0 else a1).tmod 64).toNat))) hla0
    refine ⟨⟨_, sR⟩, ?_⟩
    refine WA.norm (listed' := #[true, true, true, true, true, true, true, true, true, true]) (by kernel_rfl) ?_
    refine WA.done (by kernel_rfl) ?_
    refine WC.seq ?_
    refine WC.seq ?_
    refine WC.region ?_
    refine WL.ex rfl (ex_move (v := .int .i64 (if 0 > a1 then 0 else a1)) rfl) ?_
    refine WL.ex rfl (ex_bin (a := .int .i64 (if 0 > a1 then 0 else a1)) (b := .int .i64 64) (v := .int .i64 (wrap64 ((if 0 > a1 then 0 else a1).tdiv 64))) rfl rfl (bin_quo64 (by decide))) ?_
    refine WL.ex rfl (ex_assign (v := .int .i64 (wrap64 ((if 0 > a1 then 0 else a1).tdiv 64))) rfl) ?_
    refine WL.nil ?_
    obtain ⟨z121, hz121, H⟩ := bindE H
    refine WC.for (fun k_ ρ_ w_ => ∃ (o_ : Tags) (x120 : Int), Fm o0 w0 o_ w_ [] ∧ Bk o_ w_ 10 b101 (List.map enc64 (a0.set (wrap64 ((if 0 > a1 then 0 else a1).tdiv 64)).toNat (x113 &&& (shl64 (18446744073709551615 : UInt64) ((if 0 > a1 then 0 else a1).tmod 64).toNat)))) 24 ∧ Gl GG o_ w_ ∧ ρ_ 2 = .pointer (some ⟨b101, 0, none⟩) ∧ ρ_ 4 = .int .i64 0 ∧ ρ_ 5 = .bool false ∧ ρ_ 6 = .int .i64 x120 ∧ bits_Next.l1 k a0 a1 x113 k_ x120 = some z121) k (fun ρ_ w_ => ∃ (o_ : Tags), Fm o0 w0 o_ w_ [] ∧ Gl GG o_ w_ ∧ ρ_ 4 = .int .i64 0 ∧ ρ_ 5 = .bool false ∧ z121 = .inr ()) ⟨_, wrap64 ((if 0 > a1 then 0 else a1).tdiv 64), HF, hB118, hG, rfl, rfl, rfl, rfl, hz121⟩ ?case122 ?_
    case case122 =>
      rintro ρ136 w137 ⟨o138, HF, hG, s4_120, s5_120, rfl⟩
      dsimp only at H
      refine WC.seq ?_
      refine WC.region ?_
      refine WL.ex rfl (ex_assign (v := .int .i64 0) rfl) ?_
      refine WL.ex rfl (ex_assign (v := .bool false) rfl) ?_
      refine WL.nil ?_
      refine WC.ret ?_
      obtain rfl := Option.some.inj H
      exact ⟨_, (.tmp (.int .i64 0 : Value) rfl (.tmp (.bool false : Value) rfl .nil)), _, rfl, HF.out⟩
    have Ho123 := H
    rintro k124 ρ125 w126 ⟨o127, x120, HF, hB118, hG, s2_119, s4_119, s5_119, s6_120, H⟩
    cases k124 with
    | zero => cases H
    | succ k124 =>
    rw [bits_Next.l1.eq_2] at H
    refine WC.seq ?_
    refine WC.seq ?_
    refine WC.region ?_
    refine WL.ex rfl (ex_move (v := .int .i64 x120) s6_120) ?_
    refine WL.ex rfl (ex_bin (a := .int .i64 x120) (b := .int .i64 16) (v := .bool (decide (x120 < 16))) rfl rfl bin_lss) ?_
    refine WL.nil ?_
    rcases condE H with ⟨c128, H⟩ | ⟨c128, H⟩
    ·
      refine WC.cond_t ((show _ = Value.bool (decide (x120 < 16)) from rfl).trans (congrArg Value.bool c128)) ?_
      refine WC.skip ?_
      refine WC.seq ?_
      refine WC.block ?_
      refine WC.seq ?_
      refine WC.region ?_
      refine WL.ex rfl (ex_move (v := .int .i64 x120) s6_120) ?_
      obtain ⟨x129, hx129, H⟩ := bindE H
      refine WL.ex rfl (ex_indexArrB (i := x120) (xs := (a0.set (wrap64 ((if 0 > a1 then 0 else a1).tdiv 64)).toNat (x113 &&& (shl64 (18446744073709551615 : UInt64) ((if 0 > a1 then 0 else a1).tmod 64).toNat)))) s2_119 rfl Tryd.underlying24 sz22 hl119 hx129) ?_
      refine WL.ex rfl (ex_loadAE (enc := enc64) rfl Tryd.underlying22 rfl hB118 hx129) ?_
      refine WL.ex rfl (ex_bin (a := enc64 x129) (b := enc64 (0 : UInt64)) (v := .bool (!(x129 == (0 : UInt64)))) rfl rfl bin_neq_u64) ?_
      refine WL.nil ?_
      rcases condE H with ⟨c130, H⟩ | ⟨c130, H⟩
      ·
        refine WC.cond_t ((show _ = Value.bool (!(x129 == (0 : UInt64))) from rfl).trans (congrArg Value.bool c130)) ?_
        refine WC.seq ?_
        refine WC.region ?_
        refine WL.ex rfl (ex_move (v := .int .i64 x120) s6_120) ?_
        refine WL.ex rfl (ex_bin (a := .int .i64 64) (b := .int .i64 x120) (v := .int .i64 (wrap64 (64 * x120))) rfl rfl bin_mul64) ?_
        refine WL.ex rfl (ex_move (v := .int .i64 x120) s6_120) ?_
        obtain ⟨x131, hx131, H⟩ := bindE H
        refine WL.ex rfl (ex_indexArrB (i := x120) (xs := (a0.set (wrap64 ((if 0 > a1 then 0 else a1).tdiv 64)).toNat (x113 &&& (shl64 (18446744073709551615 : UInt64) ((if 0 > a1 then 0 else a1).tmod 64).toNat)))) s2_119 rfl Tryd.underlying24 sz22 hl119 hx131) ?_
        refine WL.ex rfl (ex_loadAE (enc := enc64) rfl Tryd.underlying22 rfl hB118 hx131) ?_
        obtain ⟨z132, hz132, H⟩ := bindE H
        refine WL.op rfl ?_
        refine OW.call [enc64 x131] rfl Tryd.func47 (by kernel_rfl) (by kernel_rfl) (map_cons' rfl rfl) (bits_TrailingZeros64.calls _ _ x131 z132 (HF.ten (V := [0]) (L := []) rfl) (Gl.vw (V := [0]) (L := []) hG rfl) hz132) ?_
        rintro _ w133 ⟨o134, rfl, s135⟩
        refine ⟨_, rfl, ?_⟩
        replace s135 := un_stepL (J := []) (L' := []) s135 rfl rfl
        replace hB118 := hB118.step s135 rfl
        replace hG := hG.step s135 rfl
        replace HF := HF.step s135 rfl
        refine WL.ex rfl (ex_bin (a := .int .i64 (wrap64 (64 * x120))) (b := .int .i64 z132) (v := .int .i64 (wrap64 ((wrap64 (64 * x120)) + z132))) rfl rfl bin_add64) ?_
        refine WL.ex rfl (ex_assign (v := .int .i64 (wrap64 ((wrap64 (64 * x120)) + z132))) rfl) ?_
        refine WL.ex rfl (ex_assign (v := .bool true) rfl) ?_
        refine WL.nil ?_
        refine WC.ret ?_
        obtain rfl := Option.some.inj H
        replace H := Ho123
        dsimp only at H
        obtain rfl := Option.some.inj H
        exact ⟨_, (.tmp (.int .i64 (wrap64 ((wrap64 (64 * x120)) + z132)) : Value) rfl (.tmp (.bool true : Value) rfl .nil)), _, rfl, HF.out⟩
      ·
        refine WC.cond_f ((show _ = Value.bool (!(x129 == (0 : UInt64))) from rfl).trans (congrArg Value.bool c130)) ?_
        refine WC.skip ?_
        refine WC.region ?_
        refine WL.ex rfl (ex_move (v := .int .i64 x120) s6_120) ?_
        refine WL.ex rfl (ex_bin (a := .int .i64 x120) (b := .int .i64 1) (v := .int .i64 (wrap64 (x120 + 1))) rfl rfl bin_add64) ?_
        refine WL.ex rfl (ex_assign (v := .int .i64 (wrap64 (x120 + 1))) rfl) ?_
        refine WL.nil ?_
        exact ⟨k124, Nat.lt_succ_self _, ⟨_, wrap64 (x120 + 1), HF, hB118, hG, s2_119, s4_119, s5_119, rfl, H⟩⟩
    ·
      refine WC.cond_f ((show _ = Value.bool (decide (x120 < 16)) from rfl).trans (congrArg Value.bool c128)) ?_
      refine WC.exit ?_
      obtain rfl := Option.some.inj H
      exact ⟨_, HF, hG, s4_119, s5_119, rfl⟩

/-! ### dictumref05_Has -/
set_option maxRecDepth 100000 in
theorem dictumref05_Has.calls (o0 : Tags) (w0 : World) (a0 : (List UInt64)) (a1 : Int) (r : Bool) (hO : ∀ b, b < w0.heap.size → o0 b < 10) (hla0 : a0.length = 16) (H : dictumref05_Has.f a0 a1 = some r) :
    Calls Tryd.prog 33 [.agg (List.map enc64 a0).toArray, .int .i64 a1].toArray w0 fun e_ w_ => ∃ (o_ : Tags), e_ = .returned (one [.bool r]) ∧ Step o0 w0 o_ w_ [] := by
  have HF := Fm.refl hO []
  unfold dictumref05_Has.f at H
  refine SX.calls [.agg (List.map enc64 a0).toArray, .int .i64 a1] Tryd.func33 rfl rfl ?_
  rw [Tryd.ntmps33]
  refine WC.seq ?_
  refine WC.region ?_
  refine WL.op rfl ?_
  refine OW.box' (List.map enc64 a0) 10 HF rfl ((congrArg Value.cells (show ev _ _ = (.agg (List.map enc64 a0).toArray : Value) from rfl)).trans rfl) ?_
  intro o102 w103 b101 s104 hB105
  replace HF := HF.step s104 rfl
  refine WL.ex rfl (ex_assign (v := .bool false) rfl) ?_
  refine WL.nil ?_
  refine WC.seq ?_
  refine WC.region ?_
  refine WL.ex rfl (ex_move (v := .int .i64 a1) rfl) ?_
  refine WL.ex rfl (ex_bin (a := .int .i64 a1) (b := .int .i64 0) (v := .bool (decide (a1 ≥ 0))) rfl rfl bin_geq) ?_
  refine WL.ex rfl (ex_move (v := .bool (decide (a1 ≥ 0))) rfl) ?_
  rcases condE H with ⟨c106, H⟩ | ⟨c106, H⟩
  ·
    refine WL.guardYes rfl rfl rfl ((show _ = Value.bool (decide (a1 ≥ 0)) from rfl).trans (congrArg Value.bool c106)) ?_
    refine OW.ex rfl (ex_move (v := .int .i64 a1) rfl) ?_
    refine WL.guardYes rfl rfl rfl ((show _ = Value.bool (decide (a1 ≥ 0)) from rfl).trans (congrArg Value.bool c106)) ?_
    refine OW.ex rfl (ex_bin (a := .int .i64 a1) (b := .int .i64 1024) (v := .bool (decide (a1 < 1024))) rfl rfl bin_lss) ?_
    refine WL.ex rfl (ex_pick_t (v := .bool (decide (a1 < 1024))) ((show _ = Value.bool (decide (a1 ≥ 0)) from rfl).trans (congrArg Value.bool c106)) rfl) ?_
    refine WL.ex rfl (ex_move (v := .bool (decide (a1 < 1024))) rfl) ?_
    rcases condE H with ⟨c107, H⟩ | ⟨c107, H⟩
    ·
      refine WL.guardYes rfl rfl rfl ((show _ = Value.bool (decide (a1 < 1024)) from rfl).trans (congrArg Value.bool c107)) ?_
      refine OW.ex rfl (ex_move (v := .int .i64 a1) rfl) ?_
      refine WL.guardYes rfl rfl rfl ((show _ = Value.bool (decide (a1 < 1024)) from rfl).trans (congrArg Value.bool c107)) ?_
      refine OW.ex rfl (ex_bin (a := .int .i64 a1) (b := .int .i64 64) (v := .int .i64 (wrap64 (a1.tdiv 64))) rfl rfl (bin_quo64 (by decide))) ?_
      refine WL.guardYes rfl rfl rfl ((show _ = Value.bool (decide (a1 < 1024)) from rfl).trans (congrArg Value.bool c107)) ?_
      obtain ⟨x108, hx108, H⟩ := bindE H
      refine OW.ex rfl (ex_indexArrB (i := (wrap64 (a1.tdiv 64))) (xs := a0) rfl rfl Tryd.underlying24 sz22 hla0 hx108) ?_
      refine WL.guardYes rfl rfl rfl ((show _ = Value.bool (decide (a1 < 1024)) from rfl).trans (congrArg Value.bool c107)) ?_
      refine OW.ex rfl (ex_loadAE (enc := enc64) rfl Tryd.underlying22 rfl hB105 hx108) ?_
      refine WL.guardYes rfl rfl rfl ((show _ = Value.bool (decide (a1 < 1024)) from rfl).trans (congrArg Value.bool c107)) ?_
      refine OW.ex rfl (ex_move (v := .int .i64 a1) rfl) ?_
      refine WL.guardYes rfl rfl rfl ((show _ = Value.bool (decide (a1 < 1024)) from rfl).trans (congrArg Value.bool c107)) ?_
      refine OW.ex rfl (ex_bin (a := .int .i64 a1) (b := .int .i64 64) (v := .int .i64 (a1.tmod 64)) rfl rfl (bin_rem64 (by decide))) ?_
      refine WL.guardYes rfl rfl rfl ((show _ = Value.bool (decide (a1 < 1024)) from rfl).trans (congrArg Value.bool c107)) ?_
      refine OW.ex rfl (ex_conv_u64 (k := .i64) (a := (a1.tmod 64)) rfl Tryd.underlying3 Tryd.underlying70) ?_
      refine WL.guardYes rfl rfl rfl ((show _ = Value.bool (decide (a1 < 1024)) from rfl).trans (congrArg Value.bool c107)) ?_
      refine OW.ex rfl (ex_bin (a := enc64 x108) (b := enc64 (ofI64 (a1.tmod 64))) (v := enc64 (shr64 x108 ((ofI64 (a1.tmod 64)).toNat))) rfl rfl (bin_shr_u64n (n := (ofI64 (a1.tmod 64)).toNat))) ?_
      refine WL.guardYes rfl rfl rfl ((show _ = Value.bool (decide (a1 < 1024)) from rfl).trans (congrArg Value.bool c107)) ?_
      refine OW.ex rfl (ex_bin (a := enc64 (shr64 x108 ((ofI64 (a1.tmod 64)).toNat))) (b := enc64 (1 : UInt64)) (v := enc64 ((shr64 x108 ((ofI64 (a1.tmod 64)).toNat)) &&& (1 : UInt64))) rfl rfl bin_and_u64) ?_
      refine WL.guardYes rfl rfl rfl ((show _ = Value.bool (decide (a1 < 1024)) from rfl).trans (congrArg Value.bool c107)) ?_
      refine OW.ex rfl (ex_bin (a := enc64 ((shr64 x108 ((ofI64 (a1.tmod 64)).toNat)) &&& (1 : UInt64))) (b := enc64 (1 : UInt64)) (v := .bool (((shr64 x108 ((ofI64 (a1.tmod 64)).toNat)) &&& (1 : UInt64)) == (1 : UInt64))) rfl rfl bin_eql_u64) ?_
      refine WL.ex rfl (ex_pick_t (v := .bool (((shr64 x108 ((ofI64 (a1.tmod 64)).toNat)) &&& (1 : UInt64)) == (1 : UInt64))) ((show _ = Value.bool (decide (a1 < 1024)) from rfl).trans (congrArg Value.bool c107)) rfl) ?_
      refine WL.ex rfl (ex_assign (v := .bool (((shr64 x108 ((ofI64 (a1.tmod 64)).toNat)) &&& (1 : UInt64)) == (1 : UInt64))) rfl) ?_
      refine WL.nil ?_
      refine WC.ret ?_
      obtain rfl := Option.some.inj H
      exact ⟨_, (.tmp (.bool (((shr64 x108 ((ofI64 (a1.tmod 64)).toNat)) &&& (1 : UInt64)) == (1 : UInt64)) : Value) rfl .nil), _, rfl, HF.out⟩
    ·
      refine WL.guardNo rfl rfl rfl ((show _ = Value.bool (decide (a1 < 1024)) from rfl).trans (congrArg Value.bool c107)) ?_
      refine WL.guardNo rfl rfl rfl ((show _ = Value.bool (decide (a1 < 1024)) from rfl).trans (congrArg Value.bool c107)) ?_
      refine WL.guardNo rfl rfl rfl ((show _ = Value.bool (decide (a1 < 1024)) from rfl).trans (congrArg Value.bool c107)) ?_
      refine WL.guardNo rfl rfl rfl ((show _ = Value.bool (decide (a1 < 1024)) from rfl).trans (congrArg Value.bool c107)) ?_
      refine WL.guardNo rfl rfl rfl ((show _ = Value.bool (decide (a1 < 1024)) from rfl).trans (congrArg Value.bool c107)) ?_
      refine WL.guardNo rfl rfl rfl ((show _ = Value.bool (decide (a1 < 1024)) from rfl).trans (congrArg Value.bool c107)) ?_
      refine WL.guardNo rfl rfl rfl ((show _ = Value.bool (decide (a1 < 1024)) from rfl).trans (congrArg Value.bool c107)) ?_
      refine WL.guardNo rfl rfl rfl ((show _ = Value.bool (decide (a1 < 1024)) from rfl).trans (congrArg Value.bool c107)) ?_
      refine WL.guardNo rfl rfl rfl ((show _ = Value.bool (decide (a1 < 1024)) from rfl).trans (congrArg Value.bool c107)) ?_
      refine WL.guardNo rfl rfl rfl ((show _ = Value.bool (decide (a1 < 1024)) from rfl).trans (congrArg Value.bool c107)) ?_
      refine WL.ex rfl (ex_pick_f (v := .bool false) ((show _ = Value.bool (decide (a1 < 1024)) from rfl).trans (congrArg Value.bool c107)) rfl) ?_
      refine WL.ex rfl (ex_assign (v := .bool false) rfl) ?_
      refine WL.nil ?_
      refine WC.ret ?_
      obtain rfl := Option.some.inj H
      exact ⟨_, (.tmp (.bool false : Value) rfl .nil), _, rfl, HF.out⟩
  ·
    refine WL.guardNo rfl rfl rfl ((show _ = Value.bool (decide (a1 ≥ 0)) from rfl).trans (congrArg Value.bool c106)) ?_
    refine WL.guardNo rfl rfl rfl ((show _ = Value.bool (decide (a1 ≥ 0)) from rfl).trans (congrArg Value.bool c106)) ?_
    refine WL.ex rfl (ex_pick_f (v := .bool false) ((show _ = Value.bool (decide (a1 ≥ 0)) from rfl).trans (congrArg Value.bool c106)) rfl) ?_
    refine WL.ex rfl (ex_move (v := .bool false) rfl) ?_
    refine WL.guardNo rfl rfl rfl rfl ?_
    refine WL.guardNo rfl rfl rfl rfl ?_
    refine WL.guardNo rfl rfl rfl rfl ?_
    refine WL.guardNo rfl rfl rfl rfl ?_
    refine WL.guardNo rfl rfl rfl rfl ?_
    refine WL.guardNo rfl rfl rfl rfl ?_
    refine WL.guardNo rfl rfl rfl rfl ?_
    refine WL.guardNo rfl rfl rfl rfl ?_
    refine WL.guardNo rfl rfl rfl rfl ?_
    refine WL.guardNo rfl rfl rfl rfl ?_
    refine WL.ex rfl (ex_pick_f (v := .bool false) rfl rfl) ?_
    refine WL.ex rfl (ex_assign (v := .bool false) rfl) ?_
    refine WL.nil ?_
    refine WC.ret ?_
    obtain rfl := Option.some.inj H
    exact ⟨_, (.tmp (.bool false : Value) rfl .nil), _, rfl, HF.out⟩

/-! ### dictumref05_Next -/
set_option maxRecDepth 100000 in
theorem dictumref05_Next.calls (k : Nat) (o0 : Tags) (w0 : World) (a0 : (List UInt64)) (a1 : Int) (r : Int × Bool) (hO : ∀ b, b < w0.heap.size → o0 b < 10) (hla0 : a0.length = 16) (H : dictumref05_Next.f k a0 a1 = some r) :
    Calls Tryd.prog 14 [.agg (List.map enc64 a0).toArray, .int .i64 a1].toArray w0 fun e_ w_ => ∃ (o_ : Tags), e_ = .returned (one [.int .i64 r.1, .bool r.2]) ∧ Step o0 w0 o_ w_ [] := by
  have HF := Fm.refl hO []
  unfold dictumref05_Next.f at H
  refine SX.calls [.agg (List.map enc64 a0).toArray, .int .i64 a1] Tryd.func14 rfl rfl ?_
  rw [Tryd.ntmps14]
  refine WC.seq ?_
  refine WC.region ?_
  refine WL.op rfl ?_
  refine OW.box' (List.map enc64 a0) 10 HF rfl ((congrArg Value.cells (show ev _ _ = (.agg (List.map enc64 a0).toArray : Value) from rfl)).trans rfl) ?_
  intro o102 w103 b101 s104 hB105
  replace HF := HF.step s104 rfl
  refine WL.ex rfl (ex_assign (v := .int .i64 0) rfl) ?_
  refine WL.ex rfl (ex_assign (v := .bool false) rfl) ?_
  refine WL.nil ?_
  refine WC.seq ?_
  refine WC.seq ?_
  refine WC.region ?_
  refine WL.ex rfl (ex_move (v := .int .i64 a1) rfl) ?_
  refine WL.ex rfl (ex_max (a := 0) (b := a1) rfl rfl) ?_
  refine WL.ex rfl (ex_assign (v := .int .i64 (if a1 > 0 then a1 else 0)) rfl) ?_
  refine WL.nil ?_
  obtain ⟨z107, hz107, H⟩ := bindE H
  refine WC.for (fun k_ ρ_ w_ => ∃ (o_ : Tags) (x106 : Int), Fm o0 w0 o_ w_ [] ∧ Bk o_ w_ 10 b101 (List.map enc64 a0) 24 ∧ ρ_ 2 = .pointer (some ⟨b101, 0, none⟩) ∧ ρ_ 4 = .int .i64 0 ∧ ρ_ 5 = .bool false ∧ ρ_ 6 = .int .i64 x106 ∧ dictumref05_Next.l1 k a0 k_ x106 = some z107) k (fun ρ_ w_ => ∃ (o_ : Tags), Fm o0 w0 o_ w_ [] ∧ ρ_ 4 = .int .i64 0 ∧ ρ_ 5 = .bool false ∧ z107 = .inr ()) ⟨_, (if a1 > 0 then a1 else 0), HF, hB105, rfl, rfl, rfl, rfl, hz107⟩ ?case108 ?_
  case case108 =>
    rintro ρ120 w121 ⟨o122, HF, s4_106, s5_106, rfl⟩
    dsimp only at H
    refine WC.seq ?_
    refine WC.region ?_
    refine WL.ex rfl (ex_assign (v := .int .i64 0) rfl) ?_
    refine WL.ex rfl (ex_assign (v := .bool false) rfl) ?_
    refine WL.nil ?_
    refine WC.ret ?_
    obtain rfl := Option.some.inj H
    exact ⟨_, (.tmp (.int .i64 0 : Value) rfl (.tmp (.bool false : Value) rfl .nil)), _, rfl, HF.out⟩
  have Ho109 := H
  rintro k110 ρ111 w112 ⟨o113, x106, HF, hB105, s2_105, s4_105, s5_105, s6_106, H⟩
  cases k110 with
  | zero => cases H
  | succ k110 =>
  rw [dictumref05_Next.l1.eq_2] at H
  refine WC.seq ?_
  refine WC.seq ?_
  refine WC.region ?_
  refine WL.ex rfl (ex_move (v := .int .i64 x106) s6_106) ?_
  refine WL.ex rfl (ex_bin (a := .int .i64 x106) (b := .int .i64 1024) (v := .bool (decide (x106 < 1024))) rfl rfl bin_lss) ?_
  refine WL.nil ?_
  rcases condE H with ⟨c114, H⟩ | ⟨c114, H⟩
  ·
    refine WC.cond_t ((show _ = Value.bool (decide (x106 < 1024)) from rfl).trans (congrArg Value.bool c114)) ?_
    refine WC.skip ?_
    refine WC.seq ?_
    refine WC.block ?_
    refine WC.seq ?_
    refine WC.region ?_
    refine WL.ex rfl (ex_loadAV (xs := a0) s2_105 Tryd.underlying24 sz24 hla0 hB105) ?_
    refine WL.ex rfl (ex_move (v := .int .i64 x106) s6_106) ?_
    obtain ⟨z115, hz115, H⟩ := bindE H
    refine WL.op rfl ?_
    refine OW.call [.agg (List.map enc64 a0).toArray, .int .i64 x106] rfl Tryd.func33 (by kernel_rfl) (by kernel_rfl) (map_cons' rfl (map_cons' rfl rfl)) (dictumref05_Has.calls _ _ a0 x106 z115 (HF.ten (V := [0]) (L := []) rfl) hla0 hz115) ?_
    rintro _ w116 ⟨o117, rfl, s118⟩
    refine ⟨_, rfl, ?_⟩
    replace s118 := un_stepL (J := []) (L' := []) s118 rfl rfl
    replace hB105 := hB105.step s118 rfl
    replace HF := HF.step s118 rfl
    refine WL.nil ?_
    rcases condE H with ⟨c119, H⟩ | ⟨c119, H⟩
    ·
      refine WC.cond_t ((show _ = Value.bool z115 from rfl).trans (congrArg Value.bool c119)) ?_
      refine WC.seq ?_
      refine WC.region ?_
      refine WL.ex rfl (ex_move (v := .int .i64 x106) s6_106) ?_
      refine WL.ex rfl (ex_assign (v := .int .i64 x106) rfl) ?_
      refine WL.ex rfl (ex_assign (v := .bool true) rfl) ?_
      refine WL.nil ?_
      refine WC.ret ?_
      obtain rfl := Option.some.inj H
      replace H := Ho109
      dsimp only at H
      obtain rfl := Option.some.inj H
      exact ⟨_, (.tmp (.int .i64 x106 : Value) rfl (.tmp (.bool true : Value) rfl .nil)), _, rfl, HF.out⟩
    ·
      refine WC.cond_f ((show _ = Value.bool z115 from rfl).trans (congrArg Value.bool c119)) ?_
      refine WC.skip ?_
      refine WC.region ?_
      refine WL.ex rfl (ex_move (v := .int .i64 x106) s6_106) ?_
      refine WL.ex rfl (ex_bin (a := .int .i64 x106) (b := .int .i64 1) (v := .int .i64 (wrap64 (x106 + 1))) rfl rfl bin_add64) ?_
      refine WL.ex rfl (ex_assign (v := .int .i64 (wrap64 (x106 + 1))) rfl) ?_
      refine WL.nil ?_
      exact ⟨k110, Nat.lt_succ_self _, ⟨_, wrap64 (x106 + 1), HF, hB105, s2_105, s4_105, s5_105, rfl, H⟩⟩
  ·
    refine WC.cond_f ((show _ = Value.bool (decide (x106 < 1024)) from rfl).trans (congrArg Value.bool c114)) ?_
    refine WC.exit ?_
    obtain rfl := Option.some.inj H
    exact ⟨_, HF, s4_105, s5_105, rfl⟩

/-! ### bits_Union_1 -/
set_option maxRecDepth 100000 in
theorem bits_Union_1.calls (o0 : Tags) (w0 : World) (a0 : UInt64) (a1 : UInt64) (r : UInt64) (hO : ∀ b, b < w0.heap.size → o0 b < 10) (H : bits_Union_1.f a0 a1 = some r) :
    Calls Tryd.prog 49 [enc64 a0, enc64 a1].toArray w0 fun e_ w_ => ∃ (o_ : Tags), e_ = .returned (one [enc64 r]) ∧ Step o0 w0 o_ w_ [] := by
  have HF := Fm.refl hO []
  unfold bits_Union_1.f at H
  refine SX.calls [enc64 a0, enc64 a1] Tryd.func49 rfl rfl ?_
  rw [Tryd.ntmps49]
  refine WC.seq ?_
  refine WC.region ?_
  refine WL.ex rfl (ex_assign (v := enc64 (0 : UInt64)) rfl) ?_
  refine WL.nil ?_
  refine WC.seq ?_
  refine WC.region ?_
  refine WL.ex rfl (ex_move (v := enc64 a0) rfl) ?_
  refine WL.ex rfl (ex_move (v := enc64 a1) rfl) ?_
  refine WL.ex rfl (ex_bin (a := enc64 a0) (b := enc64 a1) (v := enc64 (a0 ||| a1)) rfl rfl bin_or_u64) ?_
  refine WL.ex rfl (ex_assign (v := enc64 (a0 ||| a1)) rfl) ?_
  refine WL.nil ?_
  refine WC.ret ?_
  obtain rfl := Option.some.inj H
  exact ⟨_, (.tmp (enc64 (a0 ||| a1) : Value) rfl .nil), _, rfl, HF.out⟩

/-! ### bits_each_bits_Union_1 -/
set_option maxRecDepth 100000 in
theorem bits_each_bits_Union_1.calls (k : Nat) (o0 : Tags) (w0 : World) (a0 : (List UInt64)) (a1 : (List UInt64)) (r : (List UInt64)) (hO : ∀ b, b < w0.heap.size → o0 b < 10) (hla0 : a0.length = 16) (hla1 : a1.length = 16) (H : bits_each_bits_Union_1.f k a0 a1 = some r) :
    Calls Tryd.prog 48 [.agg (List.map enc64 a0).toArray, .agg (List.map enc64 a1).toArray, .func (.func 49) #[] #[]].toArray w0 fun e_ w_ => ∃ (o_ : Tags), e_ = .returned (one [.agg (List.map enc64 r).toArray]) ∧ Step o0 w0 o_ w_ [] ∧ r.length = 16 := by
  have HF := Fm.refl hO []
  unfold bits_each_bits_Union_1.f at H
  refine SX.calls [.agg (List.map enc64 a0).toArray, .agg (List.map enc64 a1).toArray, .func (.func 49) #[] #[]] Tryd.func48 rfl rfl ?_
  rw [Tryd.ntmps48]
  refine WC.seq ?_
  refine WC.region ?_
  refine WL.op rfl ?_
  refine OW.box' (List.map enc64 a0) 10 HF rfl ((congrArg Value.cells (show ev _ _ = (.agg (List.map enc64 a0).toArray : Value) from rfl)).trans rfl) ?_
  intro o102 w103 b101 s104 hB105
  replace HF := HF.step s104 rfl
  refine WL.op rfl ?_
  refine OW.box' (List.map enc64 a1) 11 HF rfl ((congrArg Value.cells (show ev _ _ = (.agg (List.map enc64 a1).toArray : Value) from rfl)).trans rfl) ?_
  intro o107 w108 b106 s109 hB110
  replace hB105 := hB105.step s109 rfl
  replace HF := HF.step s109 rfl
  refine WL.op rfl ?_
  refine OW.alloc' (List.map enc64 (List.replicate 16 ((0 : UInt64)))) 12 HF rfl zr24 rfl ?_
  intro o112 w113 b111 s114 hB115
  replace hB105 := hB105.step s114 rfl
  replace hB110 := hB110.step s114 rfl
  replace HF := HF.step s114 rfl
  refine WL.nil ?_
  refine WC.seq ?_
  refine WC.seq ?_
  refine WC.region ?_
  refine WL.ex rfl (ex_move (v := .int .i64 0) rfl) ?_
  refine WL.nil ?_
  obtain ⟨z121, hz121, H⟩ := bindE H
  refine WC.for (fun k_ ρ_ w_ => ∃ (o_ : Tags) (x116 : Int) (x117 : (List UInt64)), Fm o0 w0 o_ w_ [] ∧ Bk o_ w_ 10 b101 (List.map enc64 x117) 24 ∧ x117.length = 16 ∧ Bk o_ w_ 11 b106 (List.map enc64 a1) 24 ∧ Bk o_ w_ 12 b111 (List.map enc64 (List.replicate 16 ((0 : UInt64)))) 24 ∧ ρ_ 2 = .func (.func 49) #[] #[] ∧ ρ_ 3 = .pointer (some ⟨b101, 0, none⟩) ∧ ρ_ 4 = .pointer (some ⟨b106, 0, none⟩) ∧ ρ_ 6 = .pointer (some ⟨b111, 0, none⟩) ∧ ρ_ 8 = .int .i64 x116 ∧ bits_each_bits_Union_1.l1 k a1 k_ x116 x117 = some z121) k (fun ρ_ w_ => ∃ (o_ : Tags), Fm o0 w0 o_ w_ [] ∧ Bk o_ w_ 10 b101 (List.map enc64 z121) 24 ∧ z121.length = 16 ∧ Bk o_ w_ 12 b111 (List.map enc64 (List.replicate 16 ((0 : UInt64)))) 24 ∧ ρ_ 3 = .pointer (some ⟨b101, 0, none⟩) ∧ ρ_ 6 = .pointer (some ⟨b111, 0, none⟩)) ⟨_, 0, a0, HF, hB105, hla0, hB110, hB115, rfl, rfl, rfl, rfl, rfl, hz121⟩ ?case122 ?_
  case case122 =>
    rintro ρ142 w143 ⟨o144, HF, hB105, hl120, hB115, s3_118, s6_118⟩
    refine WC.seq ?_
    refine WC.region ?_
    refine WL.ex rfl (ex_loadAV (xs := z121) s3_118 Tryd.underlying24 sz24 hl120 hB105) ?_
    refine WL.op rfl ?_
    refine OW.storeAV (ys := z121) s6_118 rfl (fun _ => rfl) sz24 rfl hl120 hB115 ?_
    intro w145 s146 hB147
    replace hB105 := hB105.step s146 rfl
    replace HF := HF.step s146 rfl
    refine WL.nil ?_
    refine WC.ret ?_
    obtain rfl := Option.some.inj H
    exact ⟨_, (.cell (.agg (List.map enc64 z121).toArray : Value) s6_118 (run_loadAV Tryd.underlying24 sz24 hl120 hB147) .nil), _, rfl, HF.out, hl120⟩
  have Ho123 := H
  rintro k124 ρ125 w126 ⟨o127, x116, x117, HF, hB105, hl118, hB110, hB115, s2_115, s3_115, s4_115, s6_115, s8_116, H⟩
  cases k124 with
  | zero => cases H
  | succ k124 =>
  rw [bits_each_bits_Union_1.l1.eq_2] at H
  refine WC.seq ?_
  refine WC.region ?_
  refine WL.ex rfl (ex_bin (a := .int .i64 x116) (b := .int .i64 16) (v := .bool (decide (x116 < 16))) s8_116 rfl bin_lss) ?_
  refine WL.nil ?_
  refine WC.seq ?_
  rcases condE H with ⟨c128, H⟩ | ⟨c128, H⟩
  ·
    refine WC.cond_t ((show _ = Value.bool (decide (x116 < 16)) from rfl).trans (congrArg Value.bool c128)) ?_
    refine WC.skip ?_
    refine WC.seq ?_
    refine WC.block ?_
    refine WC.seq ?_
    refine WC.region ?_
    refine WL.ex rfl (ex_move (v := .int .i64 x116) s8_116) ?_
    refine WL.ex rfl (ex_assign (v := .int .i64 x116) rfl) ?_
    refine WL.nil ?_
    refine WC.regionD' HF [10] 11 (by kernel_rfl) rfl ?_
    intro w129 s130
    replace hB105 := hB105.step s130 rfl
    replace hB110 := hB110.step s130 rfl
    replace hB115 := hB115.step s130 rfl
    replace HF := HF.step s130 rfl
    have hB105D := hB105
    have hB110D := hB110
    have hB115D := hB115
    have sR := HF.here [10]
    refine WA.norm (listed' := #[false, false, false, false, false, false, false, false, false, false, false]) (by kernel_rfl) ?_
    refine WA.ex 0 rfl (by kernel_rfl) (by kernel_rfl) (by kernel_rfl) rfl ⟨_, sR⟩ (fun w_ hS_ => ex_move (v := .int .i64 x116) rfl) ?_
    refine WA.norm (listed' := #[true, false, false, false, false, false, false, false, false, false, false]) (by kernel_rfl) ?_
    refine WA.ex 1 rfl (by kernel_rfl) (by kernel_rfl) (by kernel_rfl) rfl ⟨_, sR⟩ (fun w_ hS_ => ex_move (v := .func (.func 49) #[] #[]) s2_115) ?_
    refine WA.norm (listed' := #[true, true, false, false, false, false, false, false, false, false, false]) (by kernel_rfl) ?_
    refine WA.ex 2 rfl (by kernel_rfl) (by kernel_rfl) (by kernel_rfl) rfl ⟨_, sR⟩ (fun w_ hS_ => ex_move (v := .int .i64 x116) rfl) ?_
    refine WA.norm (listed' := #[true, true, true, false, false, false, false, false, false, false, false]) (by kernel_rfl) ?_
    obtain ⟨x131, hx131, H⟩ := bindE H
    refine WA.ex 3 rfl (by kernel_rfl) (by kernel_rfl) (by kernel_rfl) rfl ⟨_, sR⟩ (fun w_ hS_ => ex_indexArrB (i := x116) (xs := x117) s3_115 rfl Tryd.underlying24 sz22 hl118 hx131) ?_
    refine WA.norm (listed' := #[true, true, true, true, false, false, false, false, false, false, false]) (by kernel_rfl) ?_
    refine WA.ex 5 rfl (by kernel_rfl) (by kernel_rfl) (by kernel_rfl) rfl ⟨_, sR⟩ (fun w_ hS_ => ex_move (v := .int .i64 x116) rfl) ?_
    refine WA.norm (listed' := #[true, true, true, true, false, true, false, false, false, false, false]) (by kernel_rfl) ?_
    obtain ⟨x132, hx132, H⟩ := bindE H
    refine WA.ex 6 rfl (by kernel_rfl) (by kernel_rfl) (by kernel_rfl) rfl ⟨_, sR⟩ (fun w_ hS_ => ex_indexArrB (i := x116) (xs := a1) s4_115 rfl Tryd.underlying24 sz22 hla1 hx132) ?_
    refine WA.norm (listed' := #[true, true, true, true, false, true, true, false, false, false, false]) (by kernel_rfl) ?_
    refine WA.ex 7 rfl (by kernel_rfl) (by kernel_rfl) (by kernel_rfl) rfl ⟨_, sR⟩ (fun w_ hS_ => ex_loadAE (enc := enc64) rfl Tryd.underlying22 rfl (hB110D.step hS_.choose_spec rfl) hx132) ?_
    refine WA.norm (listed' := #[true, true, true, true, false, true, true, true, false, false, false]) (by kernel_rfl) ?_
    refine WA.one 4 (by kernel_rfl) rfl rfl ?_
    refine OW.ex rfl (ex_loadAE (enc := enc64) rfl Tryd.underlying22 rfl hB105 hx131) ?_
    refine ⟨⟨_, sR⟩, ?_⟩
    refine WA.norm (listed' := #[true, true, true, true, true, true, true, true, false, false, false]) (by kernel_rfl) ?_
    obtain ⟨z133, hz133, H⟩ := bindE H
    refine WA.one 8 (by kernel_rfl) rfl rfl ?_
    refine OW.callV (show ev _ _ = .func (.func 49) #[] #[] from rfl) [enc64 x131, enc64 x132] rfl Tryd.func49 (by kernel_rfl) (by kernel_rfl) (map_cons' rfl (map_cons' rfl rfl)) (bits_Union_1.calls _ _ x131 x132 z133 (HF.ten (V := [0]) (L := []) rfl)  hz133) ?_
    rintro _ w134 ⟨o135, rfl, s136⟩
    refine ⟨_, rfl, ?_⟩
    replace s136 := un_stepL (J := []) (L' := []) s136 rfl rfl
    replace hB105 := hB105.step s136 rfl
    replace hB110 := hB110.step s136 rfl
    replace hB115 := hB115.step s136 rfl
    replace HF := HF.step s136 rfl
    replace sR := Step.trans sR s136 (M := [10]) rfl rfl
    refine ⟨⟨_, sR⟩, ?_⟩
    refine WA.norm (listed' := #[true, true, true, true, true, true, true, true, true, false, false]) (by kernel_rfl) ?_
    obtain ⟨x137, hx137, H⟩ := bindE H
    refine WA.ex 9 rfl (by kernel_rfl) (by kernel_rfl) (by kernel_rfl) rfl ⟨_, sR⟩ (fun w_ hS_ => ex_indexArrB (i := x116) (xs := x117) s3_115 rfl Tryd.underlying24 sz22 hl118 hx137) ?_
    refine WA.norm (listed' := #[true, true, true, true, true, true, true, true, true, true, false]) (by kernel_rfl) ?_
    refine WA.one 10 (by kernel_rfl) rfl rfl ?_
    refine OW.storeAE (enc := enc64) (c := z133) rfl rfl (cells64) (fun _ => rfl) sz22 hB105 hx137 ?_
    intro w138 s139 hB140
    replace hB110 := hB110.step s139 rfl
    replace hB115 := hB115.step s139 rfl
    replace HF := HF.step s139 rfl
    replace sR := Step.trans sR s139 (M := [10]) rfl rfl
    have hl141 := len_set (i := x116.toNat) (a := z133) hl118
    refine ⟨⟨_, sR⟩, ?_⟩
    refine WA.norm (listed' := #[true, true, true, true, true, true, true, true, true, true, true]) (by kernel_rfl) ?_
    refine WA.done (by kernel_rfl) ?_
    refine WC.region ?_
    refine WL.ex rfl (ex_bin (a := .int .i64 x116) (b := .int .i64 1) (v := .int .i64 (wrap64 (x116 + 1))) s8_116 rfl bin_add64) ?_
    refine WL.ex rfl (ex_move (v := .int .i64 (wrap64 (x116 + 1))) rfl) ?_
    refine WL.nil ?_
    exact ⟨k124, Nat.lt_succ_self _, ⟨_, wrap64 (x116 + 1), (x117.set x116.toNat z133), HF, hB140, hl141, hB110, hB115, s2_115, s3_115, s4_115, s6_115, rfl, H⟩⟩
  ·
    refine WC.cond_f ((show _ = Value.bool (decide (x116 < 16)) from rfl).trans (congrArg Value.bool c128)) ?_
    refine WC.exit ?_
    obtain rfl := Option.some.inj H
    exact ⟨_, HF, hB105, hl118, hB115, s3_115, s6_115⟩

/-! ### bits_Union -/
set_option maxRecDepth 100000 in
theorem bits_Union.calls (k : Nat) (o0 : Tags) (w0 : World) (a0 : (List UInt64)) (a1 : (List UInt64)) (r : (List UInt64)) (hO : ∀ b, b < w0.heap.size → o0 b < 10) (hla0 : a0.length = 16) (hla1 : a1.length = 16) (H : bits_Union.f k a0 a1 = some r) :
    Calls Tryd.prog 15 [.agg (List.map enc64 a0).toArray, .agg (List.map enc64 a1).toArray].toArray w0 fun e_ w_ => ∃ (o_ : Tags), e_ = .returned (one [.agg (List.map enc64 r).toArray]) ∧ Step o0 w0 o_ w_ [] ∧ r.length = 16 := by
  have HF := Fm.refl hO []
  unfold bits_Union.f at H
  refine SX.calls [.agg (List.map enc64 a0).toArray, .agg (List.map enc64 a1).toArray] Tryd.func15 rfl rfl ?_
  rw [Tryd.ntmps15]
  refine WC.seq ?_
  refine WC.region ?_
  refine WL.op rfl ?_
  refine OW.box' (List.map enc64 a0) 10 HF rfl ((congrArg Value.cells (show ev _ _ = (.agg (List.map enc64 a0).toArray : Value) from rfl)).trans rfl) ?_
  intro o102 w103 b101 s104 hB105
  replace HF := HF.step s104 rfl
  refine WL.op rfl ?_
  refine OW.box' (List.map enc64 a1) 11 HF rfl ((congrArg Value.cells (show ev _ _ = (.agg (List.map enc64 a1).toArray : Value) from rfl)).trans rfl) ?_
  intro o107 w108 b106 s109 hB110
  replace hB105 := hB105.step s109 rfl
  replace HF := HF.step s109 rfl
  refine WL.op rfl ?_
  refine OW.alloc' (List.map enc64 (List.replicate 16 ((0 : UInt64)))) 12 HF rfl zr24 rfl ?_
  intro o112 w113 b111 s114 hB115
  replace hB105 := hB105.step s114 rfl
  replace hB110 := hB110.step s114 rfl
  replace HF := HF.step s114 rfl
  refine WL.nil ?_
  refine WC.seq ?_
  refine WC.region ?_
  refine WL.ex rfl (ex_loadAV (xs := a0) rfl Tryd.underlying24 sz24 hla0 hB105) ?_
  refine WL.ex rfl (ex_loadAV (xs := a1) rfl Tryd.underlying24 sz24 hla1 hB110) ?_
  obtain ⟨z116, hz116, H⟩ := bindE H
  refine WL.op rfl ?_
  refine OW.call [.agg (List.map enc64 a0).toArray, .agg (List.map enc64 a1).toArray, .func (.func 49) #[] #[]] rfl Tryd.func48 (by kernel_rfl) (by kernel_rfl) (map_cons' rfl (map_cons' rfl (map_cons' rfl rfl))) (bits_each_bits_Union_1.calls k _ _ a0 a1 z116 (HF.ten (V := [0]) (L := []) rfl) hla0 hla1 hz116) ?_
  rintro _ w117 ⟨o118, rfl, s119, hl120⟩
  refine ⟨_, rfl, ?_⟩
  replace s119 := un_stepL (J := []) (L' := []) s119 rfl rfl
  replace hB105 := hB105.step s119 rfl
  replace hB110 := hB110.step s119 rfl
  replace hB115 := hB115.step s119 rfl
  replace HF := HF.step s119 rfl
  refine WL.op rfl ?_
  refine OW.storeAV (ys := z116) rfl rfl (fun _ => rfl) sz24 rfl hl120 hB115 ?_
  intro w121 s122 hB123
  replace hB105 := hB105.step s122 rfl
  replace hB110 := hB110.step s122 rfl
  replace HF := HF.step s122 rfl
  refine WL.nil ?_
  refine WC.ret ?_
  obtain rfl := Option.some.inj H
  exact ⟨_, (.cell (.agg (List.map enc64 z116).toArray : Value) rfl (run_loadAV Tryd.underlying24 sz24 hl120 hB123) .nil), _, rfl, HF.out, hl120⟩

/-! ### dictumref05_Union -/
set_option maxRecDepth 100000 in
theorem dictumref05_Union.calls (k : Nat) (o0 : Tags) (w0 : World) (a0 : (List UInt64)) (a1 : (List UInt64)) (r : (List UInt64)) (hO : ∀ b, b < w0.heap.size → o0 b < 10) (hla0 : a0.length = 16) (hla1 : a1.length = 16) (H : dictumref05_Union.f k a0 a1 = some r) :
    Calls Tryd.prog 16 [.agg (List.map enc64 a0).toArray, .agg (List.map enc64 a1).toArray].toArray w0 fun e_ w_ => ∃ (o_ : Tags), e_ = .returned (one [.agg (List.map enc64 r).toArray]) ∧ Step o0 w0 o_ w_ [] ∧ r.length = 16 := by
  have HF := Fm.refl hO []
  unfold dictumref05_Union.f at H
  refine SX.calls [.agg (List.map enc64 a0).toArray, .agg (List.map enc64 a1).toArray] Tryd.func16 rfl rfl ?_
  rw [Tryd.ntmps16]
  refine WC.seq ?_
  refine WC.region ?_
  refine WL.op rfl ?_
  refine OW.box' (List.map enc64 a0) 10 HF rfl ((congrArg Value.cells (show ev _ _ = (.agg (List.map enc64 a0).toArray : Value) from rfl)).trans rfl) ?_
  intro o102 w103 b101 s104 hB105
  replace HF := HF.step s104 rfl
  refine WL.op rfl ?_
  refine OW.box' (List.map enc64 a1) 11 HF rfl ((congrArg Value.cells (show ev _ _ = (.agg (List.map enc64 a1).toArray : Value) from rfl)).trans rfl) ?_
  intro o107 w108 b106 s109 hB110
  replace hB105 := hB105.step s109 rfl
  replace HF := HF.step s109 rfl
  refine WL.op rfl ?_
  refine OW.alloc' (List.map enc64 (List.replicate 16 ((0 : UInt64)))) 12 HF rfl zr24 rfl ?_
  intro o112 w113 b111 s114 hB115
  replace hB105 := hB105.step s114 rfl
  replace hB110 := hB110.step s114 rfl
  replace HF := HF.step s114 rfl
  refine WL.nil ?_
  refine WC.seq ?_
  refine WC.seq ?_
  refine WC.region ?_
  refine WL.ex rfl (ex_assign (v := .int .i64 0) rfl) ?_
  refine WL.nil ?_
  obtain ⟨z121, hz121, H⟩ := bindE H
  refine WC.for (fun k_ ρ_ w_ => ∃ (o_ : Tags) (x116 : Int) (x117 : (List UInt64)), Fm o0 w0 o_ w_ [] ∧ Bk o_ w_ 10 b101 (List.map enc64 x117) 24 ∧ x117.length = 16 ∧ Bk o_ w_ 11 b106 (List.map enc64 a1) 24 ∧ Bk o_ w_ 12 b111 (List.map enc64 (List.replicate 16 ((0 : UInt64)))) 24 ∧ ρ_ 2 = .pointer (some ⟨b101, 0, none⟩) ∧ ρ_ 3 = .pointer (some ⟨b106, 0, none⟩) ∧ ρ_ 4 = .pointer (some ⟨b111, 0, none⟩) ∧ ρ_ 5 = .int .i64 x116 ∧ dictumref05_Union.l1 k a1 k_ x116 x117 = some z121) k (fun ρ_ w_ => ∃ (o_ : Tags), Fm o0 w0 o_ w_ [] ∧ Bk o_ w_ 10 b101 (List.map enc64 z121) 24 ∧ z121.length = 16 ∧ Bk o_ w_ 12 b111 (List.map enc64 (List.replicate 16 ((0 : UInt64)))) 24 ∧ ρ_ 2 = .pointer (some ⟨b101, 0, none⟩) ∧ ρ_ 4 = .pointer (some ⟨b111, 0, none⟩)) ⟨_, 0, a0, HF, hB105, hla0, hB110, hB115, rfl, rfl, rfl, rfl, hz121⟩ ?case122 ?_
  case case122 =>
    rintro ρ138 w139 ⟨o140, HF, hB105, hl120, hB115, s2_118, s4_118⟩
    refine WC.seq ?_
    refine WC.region ?_
    refine WL.ex rfl (ex_loadAV (xs := z121) s2_118 Tryd.underlying24 sz24 hl120 hB105) ?_
    refine WL.op rfl ?_
    refine OW.storeAV (ys := z121) s4_118 rfl (fun _ => rfl) sz24 rfl hl120 hB115 ?_
    intro w141 s142 hB143
    replace hB105 := hB105.step s142 rfl
    replace HF := HF.step s142 rfl
    refine WL.nil ?_
    refine WC.ret ?_
    obtain rfl := Option.some.inj H
    exact ⟨_, (.cell (.agg (List.map enc64 z121).toArray : Value) s4_118 (run_loadAV Tryd.underlying24 sz24 hl120 hB143) .nil), _, rfl, HF.out, hl120⟩
  have Ho123 := H
  rintro k124 ρ125 w126 ⟨o127, x116, x117, HF, hB105, hl118, hB110, hB115, s2_115, s3_115, s4_115, s5_116, H⟩
  cases k124 with
  | zero => cases H
  | succ k124 =>
  rw [dictumref05_Union.l1.eq_2] at H
  refine WC.seq ?_
  refine WC.seq ?_
  refine WC.region ?_
  refine WL.ex rfl (ex_move (v := .int .i64 x116) s5_116) ?_
  refine WL.ex rfl (ex_bin (a := .int .i64 x116) (b := .int .i64 16) (v := .bool (decide (x116 < 16))) rfl rfl bin_lss) ?_
  refine WL.nil ?_
  rcases condE H with ⟨c128, H⟩ | ⟨c128, H⟩
  ·
    refine WC.cond_t ((show _ = Value.bool (decide (x116 < 16)) from rfl).trans (congrArg Value.bool c128)) ?_
    refine WC.skip ?_
    refine WC.seq ?_
    refine WC.block ?_
    refine WC.regionD' HF [10] 10 (by kernel_rfl) rfl ?_
    intro w129 s130
    replace hB105 := hB105.step s130 rfl
    replace hB110 := hB110.step s130 rfl
    replace hB115 := hB115.step s130 rfl
    replace HF := HF.step s130 rfl
    have hB105D := hB105
    have hB110D := hB110
    have hB115D := hB115
    have sR := HF.here [10]
    refine WA.norm (listed' := #[false, false, false, false, false, false, false, false, false, false]) (by kernel_rfl) ?_
    refine WA.ex 0 rfl (by kernel_rfl) (by kernel_rfl) (by kernel_rfl) rfl ⟨_, sR⟩ (fun w_ hS_ => ex_move (v := .int .i64 x116) s5_116) ?_
    refine WA.norm (listed' := #[true, false, false, false, false, false, false, false, false, false]) (by kernel_rfl) ?_
    refine WA.ex 1 rfl (by kernel_rfl) (by kernel_rfl) (by kernel_rfl) rfl ⟨_, sR⟩ (fun w_ hS_ => ex_move (v := .int .i64 x116) s5_116) ?_
    refine WA.norm (listed' := #[true, true, false, false, false, false, false, false, false, false]) (by kernel_rfl) ?_
    obtain ⟨x131, hx131, H⟩ := bindE H
    refine WA.ex 2 rfl (by kernel_rfl) (by kernel_rfl) (by kernel_rfl) rfl ⟨_, sR⟩ (fun w_ hS_ => ex_indexArrB (i := x116) (xs := x117) s2_115 rfl Tryd.underlying24 sz22 hl118 hx131) ?_
    refine WA.norm (listed' := #[true, true, true, false, false, false, false, false, false, false]) (by kernel_rfl) ?_
    refine WA.ex 4 rfl (by kernel_rfl) (by kernel_rfl) (by kernel_rfl) rfl ⟨_, sR⟩ (fun w_ hS_ => ex_move (v := .int .i64 x116) s5_116) ?_
    refine WA.norm (listed' := #[true, true, true, false, true, false, false, false, false, false]) (by kernel_rfl) ?_
    obtain ⟨x132, hx132, H⟩ := bindE H
    refine WA.ex 5 rfl (by kernel_rfl) (by kernel_rfl) (by kernel_rfl) rfl ⟨_, sR⟩ (fun w_ hS_ => ex_indexArrB (i := x116) (xs := a1) s3_115 rfl Tryd.underlying24 sz22 hla1 hx132) ?_
    refine WA.norm (listed' := #[true, true, true, false, true, true, false, false, false, false]) (by kernel_rfl) ?_
    refine WA.ex 6 rfl (by kernel_rfl) (by kernel_rfl) (by kernel_rfl) rfl ⟨_, sR⟩ (fun w_ hS_ => ex_loadAE (enc := enc64) rfl Tryd.underlying22 rfl (hB110D.step hS_.choose_spec rfl) hx132) ?_
    refine WA.norm (listed' := #[true, true, true, false, true, true, true, false, false, false]) (by kernel_rfl) ?_
    refine WA.one 3 (by kernel_rfl) rfl rfl ?_
    refine OW.ex rfl (ex_loadAE (enc := enc64) rfl Tryd.underlying22 rfl hB105 hx131) ?_
    refine ⟨⟨_, sR⟩, ?_⟩
    refine WA.norm (listed' := #[true, true, true, true, true, true, true, false, false, false]) (by kernel_rfl) ?_
    refine WA.ex 7 rfl (by kernel_rfl) (by kernel_rfl) (by kernel_rfl) rfl ⟨_, sR⟩ (fun w_ hS_ => ex_bin (a := enc64 x131) (b := enc64 x132) (v := enc64 (x131 ||| x132)) rfl rfl bin_or_u64) ?_
    refine WA.norm (listed' := #[true, true, true, true, true, true, true, true, false, false]) (by kernel_rfl) ?_
    obtain ⟨x133, hx133, H⟩ := bindE H
    refine WA.ex 8 rfl (by kernel_rfl) (by kernel_rfl) (by kernel_rfl) rfl ⟨_, sR⟩ (fun w_ hS_ => ex_indexArrB (i := x116) (xs := x117) s2_115 rfl Tryd.underlying24 sz22 hl118 hx133) ?_
    refine WA.norm (listed' := #[true, true, true, true, true, true, true, true, true, false]) (by kernel_rfl) ?_
    refine WA.one 9 (by kernel_rfl) rfl rfl ?_
    refine OW.storeAE (enc := enc64) (c := (x131 ||| x132)) rfl rfl (cells64) (fun _ => rfl) sz22 hB105 hx133 ?_
    intro w134 s135 hB136
    replace hB110 := hB110.step s135 rfl
    replace hB115 := hB115.step s135 rfl
    replace HF := HF.step s135 rfl
    replace sR := Step.trans sR s135 (M := [10]) rfl rfl
    have hl137 := len_set (i := x116.toNat) (a := (x131 ||| x132)) hl118
    refine ⟨⟨_, sR⟩, ?_⟩
    refine WA.norm (listed' := #[true, true, true, true, true, true, true, true, true, true]) (by kernel_rfl) ?_
    refine WA.done (by kernel_rfl) ?_
    refine WC.region ?_
    refine WL.ex rfl (ex_move (v := .int .i64 x116) s5_116) ?_
    refine WL.ex rfl (ex_bin (a := .int .i64 x116) (b := .int .i64 1) (v := .int .i64 (wrap64 (x116 + 1))) rfl rfl bin_add64) ?_
    refine WL.ex rfl (ex_assign (v := .int .i64 (wrap64 (x116 + 1))) rfl) ?_
    refine WL.nil ?_
    exact ⟨k124, Nat.lt_succ_self _, ⟨_, wrap64 (x116 + 1), (x117.set x116.toNat (x131 ||| x132)), HF, hB136, hl137, hB110, hB115, s2_115, s3_115, s4_115, rfl, H⟩⟩
  ·
    refine WC.cond_f ((show _ = Value.bool (decide (x116 < 16)) from rfl).trans (congrArg Value.bool c128)) ?_
    refine WC.exit ?_
    obtain rfl := Option.some.inj H
    exact ⟨_, HF, hB105, hl118, hB115, s2_115, s4_115⟩

/-! ### bits_Meet_1 -/
set_option maxRecDepth 100000 in
theorem bits_Meet_1.calls (o0 : Tags) (w0 : World) (a0 : UInt64) (a1 : UInt64) (r : UInt64) (hO : ∀ b, b < w0.heap.size → o0 b < 10) (H : bits_Meet_1.f a0 a1 = some r) :
    Calls Tryd.prog 50 [enc64 a0, enc64 a1].toArray w0 fun e_ w_ => ∃ (o_ : Tags), e_ = .returned (one [enc64 r]) ∧ Step o0 w0 o_ w_ [] := by
  have HF := Fm.refl hO []
  unfold bits_Meet_1.f at H
  refine SX.calls [enc64 a0, enc64 a1] Tryd.func50 rfl rfl ?_
  rw [Tryd.ntmps50]
  refine WC.seq ?_
  refine WC.region ?_
  refine WL.ex rfl (ex_assign (v := enc64 (0 : UInt64)) rfl) ?_
  refine WL.nil ?_
  refine WC.seq ?_
  refine WC.region ?_
  refine WL.ex rfl (ex_move (v := enc64 a0) rfl) ?_
  refine WL.ex rfl (ex_move (v := enc64 a1) rfl) ?_
  refine WL.ex rfl (ex_bin (a := enc64 a0) (b := enc64 a1) (v := enc64 (a0 &&& a1)) rfl rfl bin_and_u64) ?_
  refine WL.ex rfl (ex_assign (v := enc64 (a0 &&& a1)) rfl) ?_
  refine WL.nil ?_
  refine WC.ret ?_
  obtain rfl := Option.some.inj H
  exact ⟨_, (.tmp (enc64 (a0 &&& a1) : Value) rfl .nil), _, rfl, HF.out⟩

/-! ### bits_each_bits_Meet_1 -/
set_option maxRecDepth 100000 in
theorem bits_each_bits_Meet_1.calls (k : Nat) (o0 : Tags) (w0 : World) (a0 : (List UInt64)) (a1 : (List UInt64)) (r : (List UInt64)) (hO : ∀ b, b < w0.heap.size → o0 b < 10) (hla0 : a0.length = 16) (hla1 : a1.length = 16) (H : bits_each_bits_Meet_1.f k a0 a1 = some r) :
    Calls Tryd.prog 48 [.agg (List.map enc64 a0).toArray, .agg (List.map enc64 a1).toArray, .func (.func 50) #[] #[]].toArray w0 fun e_ w_ => ∃ (o_ : Tags), e_ = .returned (one [.agg (List.map enc64 r).toArray]) ∧ Step o0 w0 o_ w_ [] ∧ r.length = 16 := by
  have HF := Fm.refl hO []
  unfold bits_each_bits_Meet_1.f at H
  refine SX.calls [.agg (List.map enc64 a0).toArray, .agg (List.map enc64 a1).toArray, .func (.func 50) #[] #[]] Tryd.func48 rfl rfl ?_
  rw [Tryd.ntmps48]
  refine WC.seq ?_
  refine WC.region ?_
  refine WL.op rfl ?_
  refine OW.box' (List.map enc64 a0) 10 HF rfl ((congrArg Value.cells (show ev _ _ = (.agg (List.map enc64 a0).toArray : Value) from rfl)).trans rfl) ?_
  intro o102 w103 b101 s104 hB105
  replace HF := HF.step s104 rfl
  refine WL.op rfl ?_
  refine OW.box' (List.map enc64 a1) 11 HF rfl ((congrArg Value.cells (show ev _ _ = (.agg (List.map enc64 a1).toArray : Value) from rfl)).trans rfl) ?_
  intro o107 w108 b106 s109 hB110
  replace hB105 := hB105.step s109 rfl
  replace HF := HF.step s109 rfl
  refine WL.op rfl ?_
  refine OW.alloc' (List.map enc64 (List.replicate 16 ((0 : UInt64)))) 12 HF rfl zr24 rfl ?_
  intro o112 w113 b111 s114 hB115
  replace hB105 := hB105.step s114 rfl
  replace hB110 := hB110.step s114 rfl
  replace HF := HF.step s114 rfl
  refine WL.nil ?_
  refine WC.seq ?_
  refine WC.seq ?_
  refine WC.region ?_
  refine WL.ex rfl (ex_move (v := .int .i64 0) rfl) ?_
  refine WL.nil ?_
  obtain ⟨z121, hz121, H⟩ := bindE H
  refine WC.for (fun k_ ρ_ w_ => ∃ (o_ : Tags) (x116 : Int) (x117 : (List UInt64)), Fm o0 w0 o_ w_ [] ∧ Bk o_ w_ 10 b101 (List.map enc64 x117) 24 ∧ x117.length = 16 ∧ Bk o_ w_ 11 b106 (List.map enc64 a1) 24 ∧ Bk o_ w_ 12 b111 (List.map enc64 (List.replicate 16 ((0 : UInt64)))) 24 ∧ ρ_ 2 = .func (.func 50) #[] #[] ∧ ρ_ 3 = .pointer (some ⟨b101, 0, none⟩) ∧ ρ_ 4 = .pointer (some ⟨b106, 0, none⟩) ∧ ρ_ 6 = .pointer (some ⟨b111, 0, none⟩) ∧ ρ_ 8 = .int .i64 x116 ∧ bits_each_bits_Meet_1.l1 k a1 k_ x116 x117 = some z121) k (fun ρ_ w_ => ∃ (o_ : Tags), Fm o0 w0 o_ w_ [] ∧ Bk o_ w_ 10 b101 (List.map enc64 z121) 24 ∧ z121.length = 16 ∧ Bk o_ w_ 12 b111 (List.map enc64 (List.replicate 16 ((0 : UInt64)))) 24 ∧ ρ_ 3 = .pointer (some ⟨b101, 0, none⟩) ∧ ρ_ 6 = .pointer (some ⟨b111, 0, none⟩)) ⟨_, 0, a0, HF, hB105, hla0, hB110, hB115, rfl, rfl, rfl, rfl, rfl, hz121⟩ ?case122 ?_
  case case122 =>
    rintro ρ142 w143 ⟨o144, HF, hB105, hl120, hB115, s3_118, s6_118⟩
    refine WC.seq ?_
    refine WC.region ?_
    refine WL.ex rfl (ex_loadAV (xs := z121) s3_118 Tryd.underlying24 sz24 hl120 hB105) ?_
    refine WL.op rfl ?_
    refine OW.storeAV (ys := z121) s6_118 rfl (fun _ => rfl) sz24 rfl hl120 hB115 ?_
    intro w145 s146 hB147
    replace hB105 := hB105.step s146 rfl
    replace HF := HF.step s146 rfl
    refine WL.nil ?_
    refine WC.ret ?_
    obtain rfl := Option.some.inj H
    exact ⟨_, (.cell (.agg (List.map enc64 z121).toArray : Value) s6_118 (run_loadAV Tryd.underlying24 sz24 hl120 hB147) .nil), _, rfl, HF.out, hl120⟩
  have Ho123 := H
  rintro k124 ρ125 w126 ⟨o127, x116, x117, HF, hB105, hl118, hB110, hB115, s2_115, s3_115, s4_115, s6_115, s8_116, H⟩
  cases k124 with
  | zero => cases H
  | succ k124 =>
  rw [bits_each_bits_Meet_1.l1.eq_2] at H
  refine WC.seq ?_
  refine WC.region ?_
  refine WL.ex rfl (ex_bin (a := .int .i64 x116) (b := .int .i64 16) (v := .bool (decide (x116 < 16))) s8_116 rfl bin_lss) ?_
  refine WL.nil ?_
  refine WC.seq ?_
  rcases condE H with ⟨c128, H⟩ | ⟨c128, H⟩
  ·
    refine WC.cond_t ((show _ = Value.bool (decide (x116 < 16)) from rfl).trans (congrArg Value.bool c128)) ?_
    refine WC.skip ?_
    refine WC.seq ?_
    refine WC.block ?_
    refine WC.seq ?_
    refine WC.region ?_
    refine WL.ex rfl (ex_move (v := .int .i64 x116) s8_116) ?_
    refine WL.ex rfl (ex_assign (v := .int .i64 x116) rfl) ?_
    refine WL.nil ?_
    refine WC.regionD' HF [10] 11 (by kernel_rfl) rfl ?_
    intro w129 s130
    replace hB105 := hB105.step s130 rfl
    replace hB110 := hB110.step s130 rfl
    replace hB115 := hB115.step s130 rfl
    replace HF := HF.step s130 rfl
    have hB105D := hB105
    have hB110D := hB110
    have hB115D := hB115
    have sR := HF.here [10]
    refine WA.norm (listed' := #[false, false, false, false, false, false, false, false, false, false, false]) (by kernel_rfl) ?_
    refine WA.ex 0 rfl (by kernel_rfl) (by kernel_rfl) (by kernel_rfl) rfl ⟨_, sR⟩ (fun w_ hS_ => ex_move (v := .int .i64 x116) rfl) ?_
    refine WA.norm (listed' := #[true, false, false, false, false, false, false, false, false, false, false]) (by kernel_rfl) ?_
    refine WA.ex 1 rfl (by kernel_rfl) (by kernel_rfl) (by kernel_rfl) rfl ⟨_, sR⟩ (fun w_ hS_ => ex_move (v := .func (.func 50) #[] #[]) s2_115) ?_
    refine WA.norm (listed' := #[true, true, false, false, false, false, false, false, false, false, false]) (by kernel_rfl) ?_
    refine WA.ex 2 rfl (by kernel_rfl) (by kernel_rfl) (by kernel_rfl) rfl ⟨_, sR⟩ (fun w_ hS_ => ex_move (v := .int .i64 x116) rfl) ?_
    refine WA.norm (listed' := #[true, true, true, false, false, false, false, false, false, false, false]) (by kernel_rfl) ?_
    obtain ⟨x131, hx131, H⟩ := bindE H
    refine WA.ex 3 rfl (by kernel_rfl) (by kernel_rfl) (by kernel_rfl) rfl ⟨_, sR⟩ (fun w_ hS_ => ex_indexArrB (i := x116) (xs := x117) s3_115 rfl Tryd.underlying24 sz22 hl118 hx131) ?_
    refine WA.norm (listed' := #[true, true, true, true, false, false, false, false, false, false, false]) (by kernel_rfl) ?_
    refine WA.ex 5 rfl (by kernel_rfl) (by kernel_rfl) (by kernel_rfl) rfl ⟨_, sR⟩ (fun w_ hS_ => ex_move (v := .int .i64 x116) rfl) ?_
    refine WA.norm (listed' := #[true, true, true, true, false, true, false, false, false, false, false]) (by kernel_rfl) ?_
    obtain ⟨x132, hx132, H⟩ := bindE H
    refine WA.ex 6 rfl (by kernel_rfl) (by kernel_rfl) (by kernel_rfl) rfl ⟨_, sR⟩ (fun w_ hS_ => ex_indexArrB (i := x116) (xs := a1) s4_115 rfl Tryd.underlying24 sz22 hla1 hx132) ?_
    refine WA.norm (listed' := #[true, true, true, true, false, true, true, false, false, false, false]) (by kernel_rfl) ?_
    refine WA.ex 7 rfl (by kernel_rfl) (by kernel_rfl) (by kernel_rfl) rfl ⟨_, sR⟩ (fun w_ hS_ => ex_loadAE (enc := enc64) rfl Tryd.underlying22 rfl (hB110D.step hS_.choose_spec rfl) hx132) ?_
    refine WA.norm (listed' := #[true, true, true, true, false, true, true, true, false, false, false]) (by kernel_rfl) ?_
    refine WA.one 4 (by kernel_rfl) rfl rfl ?_
    refine OW.ex rfl (ex_loadAE (enc := enc64) rfl Tryd.underlying22 rfl hB105 hx131) ?_
    refine ⟨⟨_, sR⟩, ?_⟩
    refine WA.norm (listed' := #[true, true, true, true, true, true, true, true, false, false, false]) (by kernel_rfl) ?_
    obtain ⟨z133, hz133, H⟩ := bindE H
    refine WA.one 8 (by kernel_rfl) rfl rfl ?_
    refine OW.callV (show ev _ _ = .func (.func 50) #[] #[] from rfl) [enc64 x131, enc64 x132] rfl Tryd.func50 (by kernel_rfl) (by kernel_rfl) (map_cons' rfl (map_cons' rfl rfl)) (bits_Meet_1.calls _ _ x131 x132 z133 (HF.ten (V := [0]) (L := []) rfl)  hz133) ?_
    rintro _ w134 ⟨o135, rfl, s136⟩
    refine ⟨_, rfl, ?_⟩
    replace s136 := un_stepL (J := []) (L' := []) s136 rfl rfl
    replace hB105 := hB105.step s136 rfl
    replace hB110 := hB110.step s136 rfl
    replace hB115 := hB115.step s136 rfl
    replace HF := HF.step s136 rfl
    replace sR := Step.trans sR s136 (M := [10]) rfl rfl
    refine ⟨⟨_, sR⟩, ?_⟩
    refine WA.norm (listed' := #[true, true, true, true, true, true, true, true, true, false, false]) (by kernel_rfl) ?_
    obtain ⟨x137, hx137, H⟩ := bindE H
    refine WA.ex 9 rfl (by kernel_rfl) (by kernel_rfl) (by kernel_rfl) rfl ⟨_, sR⟩ (fun w_ hS_ => ex_indexArrB (i := x116) (xs := x117) s3_115 rfl Tryd.underlying24 sz22 hl118 hx137) ?_
    refine WA.norm (listed' := #[true, true, true, true, true, true, true, true, true, true, false]) (by kernel_rfl) ?_
    refine WA.one 10 (by kernel_rfl) rfl rfl ?_
    refine OW.storeAE (enc := enc64) (c := z133) rfl rfl (cells64) (fun _ => rfl) sz22 hB105 hx137 ?_
    intro w138 s139 hB140
    replace hB110 := hB110.step s139 rfl
    replace hB115 := hB115.step s139 rfl
    replace HF := HF.step s139 rfl
    replace sR := Step.trans sR s139 (M := [10]) rfl rfl
    have hl141 := len_set (i := x116.toNat) (a := z133) hl118
    refine ⟨⟨_, sR⟩, ?_⟩
    refine WA.norm (listed' := #[true, true, true, true, true, true, true, true, true, true, true]) (by kernel_rfl) ?_
    refine WA.done (by kernel_rfl) ?_
    refine WC.region ?_
    refine WL.ex rfl (ex_bin (a := .int .i64 x116) (b := .int .i64 1) (v := .int .i64 (wrap64 (x116 + 1))) s8_116 rfl bin_add64) ?_
    refine WL.ex rfl (ex_move (v := .int .i64 (wrap64 (x116 + 1))) rfl) ?_
    refine WL.nil ?_
    exact ⟨k124, Nat.lt_succ_self _, ⟨_, wrap64 (x116 + 1), (x117.set x116.toNat z133), HF, hB140, hl141, hB110, hB115, s2_115, s3_115, s4_115, s6_115, rfl, H⟩⟩
  ·
    refine WC.cond_f ((show _ = Value.bool (decide (x116 < 16)) from rfl).trans (congrArg Value.bool c128)) ?_
    refine WC.exit ?_
    obtain rfl := Option.some.inj H
    exact ⟨_, HF, hB105, hl118, hB115, s3_115, s6_115⟩

/-! ### bits_Meet -/
set_option maxRecDepth 100000 in
theorem bits_Meet.calls (k : Nat) (o0 : Tags) (w0 : World) (a0 : (List UInt64)) (a1 : (List UInt64)) (r : (List UInt64)) (hO : ∀ b, b < w0.heap.size → o0 b < 10) (hla0 : a0.length = 16) (hla1 : a1.length = 16) (H : bits_Meet.f k a0 a1 = some r) :
    Calls Tryd.prog 17 [.agg (List.map enc64 a0).toArray, .agg (List.map enc64 a1).toArray].toArray w0 fun e_ w_ => ∃ (o_ : Tags), e_ = .returned (one [.agg (List.map enc64 r).toArray]) ∧ Step o0 w0 o_ w_ [] ∧ r.length = 16 := by
  have HF := Fm.refl hO []
  unfold bits_Meet.f at H
  refine SX.calls [.agg (List.map enc64 a0).toArray, .agg (List.map enc64 a1).toArray] Tryd.func17 rfl rfl ?_
  rw [Tryd.ntmps17]
  refine WC.seq ?_
  refine WC.region ?_
  refine WL.op rfl ?_
  refine OW.box' (List.map enc64 a0) 10 HF rfl ((congrArg Value.cells (show ev _ _ = (.agg (List.map enc64 a0).toArray : Value) from rfl)).trans rfl) ?_
  intro o102 w103 b101 s104 hB105
  replace HF := HF.step s104 rfl
  refine WL.op rfl ?_
  refine OW.box' (List.map enc64 a1) 11 HF rfl ((congrArg Value.cells (show ev _ _ = (.agg (List.map enc64 a1).toArray : Value) from rfl)).trans rfl) ?_
  intro o107 w108 b106 s109 hB110
  replace hB105 := hB105.step s109 rfl
  replace HF := HF.step s109 rfl
  refine WL.op rfl ?_
  refine OW.alloc' (List.map enc64 (List.replicate 16 ((0 : UInt64)))) 12 HF rfl zr24 rfl ?_
  intro o112 w113 b111 s114 hB115
  replace hB105 := hB105.step s114 rfl
  replace hB110 := hB110.step s114 rfl
  replace HF := HF.step s114 rfl
  refine WL.nil ?_
  refine WC.seq ?_
  refine WC.region ?_
  refine WL.ex rfl (ex_loadAV (xs := a0) rfl Tryd.underlying24 sz24 hla0 hB105) ?_
  refine WL.ex rfl (ex_loadAV (xs := a1) rfl Tryd.underlying24 sz24 hla1 hB110) ?_
  obtain ⟨z116, hz116, H⟩ := bindE H
  refine WL.op rfl ?_
  refine OW.call [.agg (List.map enc64 a0).toArray, .agg (List.map enc64 a1).toArray, .func (.func 50) #[] #[]] rfl Tryd.func48 (by kernel_rfl) (by kernel_rfl) (map_cons' rfl (map_cons' rfl (map_cons' rfl rfl))) (bits_each_bits_Meet_1.calls k _ _ a0 a1 z116 (HF.ten (V := [0]) (L := []) rfl) hla0 hla1 hz116) ?_
  rintro _ w117 ⟨o118, rfl, s119, hl120⟩
  refine ⟨_, rfl, ?_⟩
  replace s119 := un_stepL (J := []) (L' := []) s119 rfl rfl
  replace hB105 := hB105.step s119 rfl
  replace hB110 := hB110.step s119 rfl
  replace hB115 := hB115.step s119 rfl
  replace HF := HF.step s119 rfl
  refine WL.op rfl ?_
  refine OW.storeAV (ys := z116) rfl rfl (fun _ => rfl) sz24 rfl hl120 hB115 ?_
  intro w121 s122 hB123
  replace hB105 := hB105.step s122 rfl
  replace hB110 := hB110.step s122 rfl
  replace HF := HF.step s122 rfl
  refine WL.nil ?_
  refine WC.ret ?_
  obtain rfl := Option.some.inj H
  exact ⟨_, (.cell (.agg (List.map enc64 z116).toArray : Value) rfl (run_loadAV Tryd.underlying24 sz24 hl120 hB123) .nil), _, rfl, HF.out, hl120⟩

/-! ### dictumref05_Meet -/
set_option maxRecDepth 100000 in
theorem dictumref05_Meet.calls (k : Nat) (o0 : Tags) (w0 : World) (a0 : (List UInt64)) (a1 : (List UInt64)) (r : (List UInt64)) (hO : ∀ b, b < w0.heap.size → o0 b < 10) (hla0 : a0.length = 16) (hla1 : a1.length = 16) (H : dictumref05_Meet.f k a0 a1 = some r) :
    Calls Tryd.prog 18 [.agg (List.map enc64 a0).toArray, .agg (List.map enc64 a1).toArray].toArray w0 fun e_ w_ => ∃ (o_ : Tags), e_ = .returned (one [.agg (List.map enc64 r).toArray]) ∧ Step o0 w0 o_ w_ [] ∧ r.length = 16 := by
  have HF := Fm.refl hO []
  unfold dictumref05_Meet.f at H
  refine SX.calls [.agg (List.map enc64 a0).toArray, .agg (List.map enc64 a1).toArray] Tryd.func18 rfl rfl ?_
  rw [Tryd.ntmps18]
  refine WC.seq ?_
  refine WC.region ?_
  refine WL.op rfl ?_
  refine OW.box' (List.map enc64 a0) 10 HF rfl ((congrArg Value.cells (show ev _ _ = (.agg (List.map enc64 a0).toArray : Value) from rfl)).trans rfl) ?_
  intro o102 w103 b101 s104 hB105
  replace HF := HF.step s104 rfl
  refine WL.op rfl ?_
  refine OW.box' (List.map enc64 a1) 11 HF rfl ((congrArg Value.cells (show ev _ _ = (.agg (List.map enc64 a1).toArray : Value) from rfl)).trans rfl) ?_
  intro o107 w108 b106 s109 hB110
  replace hB105 := hB105.step s109 rfl
  replace HF := HF.step s109 rfl
  refine WL.op rfl ?_
  refine OW.alloc' (List.map enc64 (List.replicate 16 ((0 : UInt64)))) 12 HF rfl zr24 rfl ?_
  intro o112 w113 b111 s114 hB115
  replace hB105 := hB105.step s114 rfl
  replace hB110 := hB110.step s114 rfl
  replace HF := HF.step s114 rfl
  refine WL.nil ?_
  refine WC.seq ?_
  refine WC.seq ?_
  refine WC.region ?_
  refine WL.ex rfl (ex_assign (v := .int .i64 0) rfl) ?_
  refine WL.nil ?_
  obtain ⟨z121, hz121, H⟩ := bindE H
  refine WC.for (fun k_ ρ_ w_ => ∃ (o_ : Tags) (x116 : Int) (x117 : (List UInt64)), Fm o0 w0 o_ w_ [] ∧ Bk o_ w_ 10 b101 (List.map enc64 x117) 24 ∧ x117.length = 16 ∧ Bk o_ w_ 11 b106 (List.map enc64 a1) 24 ∧ Bk o_ w_ 12 b111 (List.map enc64 (List.replicate 16 ((0 : UInt64)))) 24 ∧ ρ_ 2 = .pointer (some ⟨b101, 0, none⟩) ∧ ρ_ 3 = .pointer (some ⟨b106, 0, none⟩) ∧ ρ_ 4 = .pointer (some ⟨b111, 0, none⟩) ∧ ρ_ 5 = .int .i64 x116 ∧ dictumref05_Meet.l1 k a1 k_ x116 x117 = some z121) k (fun ρ_ w_ => ∃ (o_ : Tags), Fm o0 w0 o_ w_ [] ∧ Bk o_ w_ 10 b101 (List.map enc64 z121) 24 ∧ z121.length = 16 ∧ Bk o_ w_ 12 b111 (List.map enc64 (List.replicate 16 ((0 : UInt64)))) 24 ∧ ρ_ 2 = .pointer (some ⟨b101, 0, none⟩) ∧ ρ_ 4 = .pointer (some ⟨b111, 0, none⟩)) ⟨_, 0, a0, HF, hB105, hla0, hB110, hB115, rfl, rfl, rfl, rfl, hz121⟩ ?case122 ?_
  case case122 =>
    rintro ρ138 w139 ⟨o140, HF, hB105, hl120, hB115, s2_118, s4_118⟩
    refine WC.seq ?_
    refine WC.region ?_
    refine WL.ex rfl (ex_loadAV (xs := z121) s2_118 Tryd.underlying24 sz24 hl120 hB105) ?_
    refine WL.op rfl ?_
    refine OW.storeAV (ys := z121) s4_118 rfl (fun _ => rfl) sz24 rfl hl120 hB115 ?_
    intro w141 s142 hB143
    replace hB105 := hB105.step s142 rfl
    replace HF := HF.step s142 rfl
    refine WL.nil ?_
    refine WC.ret ?_
    obtain rfl := Option.some.inj H
    exact ⟨_, (.cell (.agg (List.map enc64 z121).toArray : Value) s4_118 (run_loadAV Tryd.underlying24 sz24 hl120 hB143) .nil), _, rfl, HF.out, hl120⟩
  have Ho123 := H
  rintro k124 ρ125 w126 ⟨o127, x116, x117, HF, hB105, hl118, hB110, hB115, s2_115, s3_115, s4_115, s5_116, H⟩
  cases k124 with
  | zero => cases H
  | succ k124 =>
  rw [dictumref05_Meet.l1.eq_2] at H
  refine WC.seq ?_
  refine WC.seq ?_
  refine WC.region ?_
  refine WL.ex rfl (ex_move (v := .int .i64 x116) s5_116) ?_
  refine WL.ex rfl (ex_bin (a := .int .i64 x116) (b := .int .i64 16) (v := .bool (decide (x116 < 16))) rfl rfl bin_lss) ?_
  refine WL.nil ?_
  rcases condE H with ⟨c128, H⟩ | ⟨c128, H⟩
  ·
    refine WC.cond_t ((show _ = Value.bool (decide (x116 < 16)) from rfl).trans (congrArg Value.bool c128)) ?_
    refine WC.skip ?_
    refine WC.seq ?_
    refine WC.block ?_
    refine WC.regionD' HF [10] 10 (by kernel_rfl) rfl ?_
    intro w129 s130
    replace hB105 := hB105.step s130 rfl
    replace hB110 := hB110.step s130 rfl
    replace hB115 := hB115.step s130 rfl
    replace HF := HF.step s130 rfl
    have hB105D := hB105
    have hB110D := hB110
    have hB115D := hB115
    have sR := HF.here [10]
    refine WA.norm (listed' := #[false, false, false, false, false, false, false, false, false, false]) (by kernel_rfl) ?_
    refine WA.ex 0 rfl (by kernel_rfl) (by kernel_rfl) (by kernel_rfl) rfl ⟨_, sR⟩ (fun w_ hS_ => ex_move (v := .int .i64 x116) s5_116) ?_
    refine WA.norm (listed' := #[true, false, false, false, false, false, false, false, false, false]) (by kernel_rfl) ?_
    refine WA.ex 1 rfl (by kernel_rfl) (by kernel_rfl) (by kernel_rfl) rfl ⟨_, sR⟩ (fun w_ hS_ => ex_move (v := .int .i64 x116) s5_116) ?_
    refine WA.norm (listed' := #[true, true, false, false, false, false, false, false, false, false]) (by kernel_rfl) ?_
    obtain ⟨x131, hx131, H⟩ := bindE H
    refine WA.ex 2 rfl (by kernel_rfl) (by kernel_rfl) (by kernel_rfl) rfl ⟨_, sR⟩ (fun w_ hS_ => ex_indexArrB (i := x116) (xs := x117) s2_115 rfl Tryd.underlying24 sz22 hl118 hx131) ?_
    refine WA.norm (listed' := #[true, true, true, false, false, false, false, false, false, false]) (by kernel_rfl) ?_
    refine WA.ex 4 rfl (by kernel_rfl) (by kernel_rfl) (by kernel_rfl) rfl ⟨_, sR⟩ (fun w_ hS_ => ex_move (v := .int .i64 x116) s5_116) ?_
    refine WA.norm (listed' := #[true, true, true, false, true, false, false, false, false, false]) (by kernel_rfl) ?_
    obtain ⟨x132, hx132, H⟩ := bindE H
    refine WA.ex 5 rfl (by kernel_rfl) (by kernel_rfl) (by kernel_rfl) rfl ⟨_, sR⟩ (fun w_ hS_ => ex_indexArrB (i := x116) (xs := a1) s3_115 rfl Tryd.underlying24 sz22 hla1 hx132) ?_
    refine WA.norm (listed' := #[true, true, true, false, true, true, false, false, false, false]) (by kernel_rfl) ?_
    refine WA.ex 6 rfl (by kernel_rfl) (by kernel_rfl) (by kernel_rfl) rfl ⟨_, sR⟩ (fun w_ hS_ => ex_loadAE (enc := enc64) rfl Tryd.underlying22 rfl (hB110D.step hS_.choose_spec rfl) hx132) ?_
    refine WA.norm (listed' := #[true, true, true, false, true, true, true, false, false, false]) (by kernel_rfl) ?_
    refine WA.one 3 (by kernel_rfl) rfl rfl ?_
    refine OW.ex rfl (ex_loadAE (enc := enc64) rfl Tryd.underlying22 rfl hB105 hx131) ?_
    refine ⟨⟨_, sR⟩, ?_⟩
    refine WA.norm (listed' := #[true, true, true, true, true, true, true, false, false, false]) (by kernel_rfl) ?_
    refine WA.ex 7 rfl (by kernel_rfl) (by kernel_rfl) (by kernel_rfl) rfl ⟨_, sR⟩ (fun w_ hS_ => ex_bin (a := enc64 x131) (b := enc64 x132) (v := enc64 (x131 &&& x132)) rfl rfl bin_and_u64) ?_
    refine WA.norm (listed' := #[true, true, true, true, true, true, true, true, false, false]) (by kernel_rfl) ?_
    obtain ⟨x133, hx133, H⟩ := bindE H
    refine WA.ex 8 rfl (by kernel_rfl) (by kernel_rfl) (by kernel_rfl) rfl ⟨_, sR⟩ (fun w_ hS_ => ex_indexArrB (i := x116) (xs := x117) s2_115 rfl Tryd.underlying24 sz22 hl118 hx133) ?_
    refine WA.norm (listed' := #[true, true, true, true, true, true, true, true, true, false]) (by kernel_rfl) ?_
    refine WA.one 9 (by kernel_rfl) rfl rfl ?_
    refine OW.storeAE (enc := enc64) (c := (x131 &&& x132)) rfl rfl (cells64) (fun _ => rfl) sz22 hB105 hx133 ?_
    intro w134 s135 hB136
    replace hB110 := hB110.step s135 rfl
    replace hB115 := hB115.step s135 rfl
    replace HF := HF.step s135 rfl
    replace sR := Step.trans sR s135 (M := [10]) rfl rfl
    have hl137 := len_set (i := x116.toNat) (a := (x131 &&& x132)) hl118
    refine ⟨⟨_, sR⟩, ?_⟩
    refine WA.norm (listed' := #[true, true, true, true, true, true, true, true, true, true]) (by kernel_rfl) ?_
    refine WA.done (by kernel_rfl) ?_
    refine WC.region ?_
    refine WL.ex rfl (ex_move (v := .int .i64 x116) s5_116) ?_
    refine WL.ex rfl (ex_bin (a := .int .i64 x116) (b := .int .i64 1) (v := .int .i64 (wrap64 (x116 + 1))) rfl rfl bin_add64) ?_
    refine WL.ex rfl (ex_assign (v := .int .i64 (wrap64 (x116 + 1))) rfl) ?_
    refine WL.nil ?_
    exact ⟨k124, Nat.lt_succ_self _, ⟨_, wrap64 (x116 + 1), (x117.set x116.toNat (x131 &&& x132)), HF, hB136, hl137, hB110, hB115, s2_115, s3_115, s4_115, rfl, H⟩⟩
  ·
    refine WC.cond_f ((show _ = Value.bool (decide (x116 < 16)) from rfl).trans (congrArg Value.bool c128)) ?_
    refine WC.exit ?_
    obtain rfl := Option.some.inj H
    exact ⟨_, HF, hB105, hl118, hB115, s2_115, s4_115⟩

/-! ### bits_Minus_1 -/
set_option maxRecDepth 100000 in
theorem bits_Minus_1.calls (o0 : Tags) (w0 : World) (a0 : UInt64) (a1 : UInt64) (r : UInt64) (hO : ∀ b, b < w0.heap.size → o0 b < 10) (H : bits_Minus_1.f a0 a1 = some r) :
    Calls Tryd.prog 51 [enc64 a0, enc64 a1].toArray w0 fun e_ w_ => ∃ (o_ : Tags), e_ = .returned (one [enc64 r]) ∧ Step o0 w0 o_ w_ [] := by
  have HF := Fm.refl hO []
  unfold bits_Minus_1.f at H
  refine SX.calls [enc64 a0, enc64 a1] Tryd.func51 rfl rfl ?_
  rw [Tryd.ntmps51]
  refine WC.seq ?_
  refine WC.region ?_
  refine WL.ex rfl (ex_assign (v := enc64 (0 : UInt64)) rfl) ?_
  refine WL.nil ?_
  refine WC.seq ?_
  refine WC.region ?_
  refine WL.ex rfl (ex_move (v := enc64 a0) rfl) ?_
  refine WL.ex rfl (ex_move (v := enc64 a1) rfl) ?_
  refine WL.ex rfl (ex_bin (a := enc64 a0) (b := enc64 a1) (v := enc64 (a0 &&& ~~~a1)) rfl rfl bin_andNot_u64) ?_
  refine WL.ex rfl (ex_assign (v := enc64 (a0 &&& ~~~a1)) rfl) ?_
  refine WL.nil ?_
  refine WC.ret ?_
  obtain rfl := Option.some.inj H
  exact ⟨_, (.tmp (enc64 (a0 &&& ~~~a1) : Value) rfl .nil), _, rfl, HF.out⟩

/-! ### bits_each_bits_Minus_1 -/
set_option maxRecDepth 100000 in
theorem bits_each_bits_Minus_1.calls (k : Nat) (o0 : Tags) (w0 : World) (a0 : (List UInt64)) (a1 : (List UInt64)) (r : (List UInt64)) (hO : ∀ b, b < w0.heap.size → o0 b < 10) (hla0 : a0.length = 16) (hla1 : a1.length = 16) (H : bits_each_bits_Minus_1.f k a0 a1 = some r) :
    Calls Tryd.prog 48 [.agg (List.map enc64 a0).toArray, .agg (List.map enc64 a1).toArray, .func (.func 51) #[] #[]].toArray w0 fun e_ w_ => ∃ (o_ : Tags), e_ = .returned (one [.agg (List.map enc64 r).toArray]) ∧ Step o0 w0 o_ w_ [] ∧ r.length = 16 := by
  have HF := Fm.refl hO []
  unfold bits_each_bits_Minus_1.f at H
  refine SX.calls [.agg (List.map enc64 a0).toArray, .agg (List.map enc64 a1).toArray, .func (.func 51) #[] #[]] Tryd.func48 rfl rfl ?_
  rw [Tryd.ntmps48]
  refine WC.seq ?_
  refine WC.region ?_
  refine WL.op rfl ?_
  refine OW.box' (List.map enc64 a0) 10 HF rfl ((congrArg Value.cells (show ev _ _ = (.agg (List.map enc64 a0).toArray : Value) from rfl)).trans rfl) ?_
  intro o102 w103 b101 s104 hB105
  replace HF := HF.step s104 rfl
  refine WL.op rfl ?_
  refine OW.box' (List.map enc64 a1) 11 HF rfl ((congrArg Value.cells (show ev _ _ = (.agg (List.map enc64 a1).toArray : Value) from rfl)).trans rfl) ?_
  intro o107 w108 b106 s109 hB110
  replace hB105 := hB105.step s109 rfl
  replace HF := HF.step s109 rfl
  refine WL.op rfl ?_
  refine OW.alloc' (List.map enc64 (List.replicate 16 ((0 : UInt64)))) 12 HF rfl zr24 rfl ?_
  intro o112 w113 b111 s114 hB115
  replace hB105 := hB105.step s114 rfl
  replace hB110 := hB110.step s114 rfl
  replace HF := HF.step s114 rfl
  refine WL.nil ?_
  refine WC.seq ?_
  refine WC.seq ?_
  refine WC.region ?_
  refine WL.ex rfl (ex_move (v := .int .i64 0) rfl) ?_
  refine WL.nil ?_
  obtain ⟨z121, hz121, H⟩ := bindE H
  refine WC.for (fun k_ ρ_ w_ => ∃ (o_ : Tags) (x116 : Int) (x117 : (List UInt64)), Fm o0 w0 o_ w_ [] ∧ Bk o_ w_ 10 b101 (List.map enc64 x117) 24 ∧ x117.length = 16 ∧ Bk o_ w_ 11 b106 (List.map enc64 a1) 24 ∧ Bk o_ w_ 12 b111 (List.map enc64 (List.replicate 16 ((0 : UInt64)))) 24 ∧ ρ_ 2 = .func (.func 51) #[] #[] ∧ ρ_ 3 = .pointer (some ⟨b101, 0, none⟩) ∧ ρ_ 4 = .pointer (some ⟨b106, 0, none⟩) ∧ ρ_ 6 = .pointer (some ⟨b111, 0, none⟩) ∧ ρ_ 8 = .int .i64 x116 ∧ bits_each_bits_Minus_1.l1 k a1 k_ x116 x117 = some z121) k (fun ρ_ w_ => ∃ (o_ : Tags), Fm o0 w0 o_ w_ [] ∧ Bk o_ w_ 10 b101 (List.map enc64 z121) 24 ∧ z121.length = 16 ∧ Bk o_ w_ 12 b111 (List.map enc64 (List.replicate 16 ((0 : UInt64)))) 24 ∧ ρ_ 3 = .pointer (some ⟨b101, 0, none⟩) ∧ ρ_ 6 = .pointer (some ⟨b111, 0, none⟩)) ⟨_, 0, a0, HF, hB105, hla0, hB110, hB115, rfl, rfl, rfl, rfl, rfl, hz121⟩ ?case122 ?_
  case case122 =>
    rintro ρ142 w143 ⟨o144, HF, hB105, hl120, hB115, s3_118, s6_118⟩
    refine WC.seq ?_
    refine WC.region ?_
    refine WL.ex rfl (ex_loadAV (xs := z121) s3_118 Tryd.underlying24 sz24 hl120 hB105) ?_
    refine WL.op rfl ?_
    refine OW.storeAV (ys := z121) s6_118 rfl (fun _ => rfl) sz24 rfl hl120 hB115 ?_
    intro w145 s146 hB147
    replace hB105 := hB105.step s146 rfl
    replace HF := HF.step s146 rfl
    refine WL.nil ?_
    refine WC.ret ?_
    obtain rfl := Option.some.inj H
    exact ⟨_, (.cell (.agg (List.map enc64 z121).toArray : Value) s6_118 (run_loadAV Tryd.underlying24 sz24 hl120 hB147) .nil), _, rfl, HF.out, hl120⟩
  have Ho123 := H
  rintro k124 ρ125 w126 ⟨o127, x116, x117, HF, hB105, hl118, hB110, hB115, s2_115, s3_115, s4_115, s6_115, s8_116, H⟩
  cases k124 with
  | zero => cases H
  | succ k124 =>
  rw [bits_each_bits_Minus_1.l1.eq_2] at H
  refine WC.seq ?_
  refine WC.region ?_
  refine WL.ex rfl (ex_bin (a := .int .i64 x116) (b := .int .i64 16) (v := .bool (decide (x116 < 16))) s8_116 rfl bin_lss) ?_
  refine WL.nil ?_
  refine WC.seq ?_
  rcases condE H with ⟨c128, H⟩ | ⟨c128, H⟩
  ·
    refine WC.cond_t ((show _ = Value.bool (decide (x116 < 16)) from rfl).trans (congrArg Value.bool c128)) ?_
    refine WC.skip ?_
    refine WC.seq ?_
    refine WC.block ?_
    refine WC.seq ?_
    refine WC.region ?_
    refine WL.ex rfl (ex_move (v := .int .i64 x116) s8_116) ?_
    refine WL.ex rfl (ex_assign (v := .int .i64 x116) rfl) ?_
    refine WL.nil ?_
    refine WC.regionD' HF [10] 11 (by kernel_rfl) rfl ?_
    intro w129 s130
    replace hB105 := hB105.step s130 rfl
    replace hB110 := hB110.step s130 rfl
    replace hB115 := hB115.step s130 rfl
    replace HF := HF.step s130 rfl
    have hB105D := hB105
    have hB110D := hB110
    have hB115D := hB115
    have sR := HF.here [10]
    refine WA.norm (listed' := #[false, false, false, false, false, false, false, false, false, false, false]) (by kernel_rfl) ?_
    refine WA.ex 0 rfl (by kernel_rfl) (by kernel_rfl) (by kernel_rfl) rfl ⟨_, sR⟩ (fun w_ hS_ => ex_move (v := .int .i64 x116) rfl) ?_
    refine WA.norm (listed' := #[true, false, false, false, false, false, false, false, false, false, false]) (by kernel_rfl) ?_
    refine WA.ex 1 rfl (by kernel_rfl) (by kernel_rfl) (by kernel_rfl) rfl ⟨_, sR⟩ (fun w_ hS_ => ex_move (v := .func (.func 51) #[] #[]) s2_115) ?_
    refine WA.norm (listed' := #[true, true, false, false, false, false, false, false, false, false, false]) (by kernel_rfl) ?_
    refine WA.ex 2 rfl (by kernel_rfl) (by kernel_rfl) (by kernel_rfl) rfl ⟨_, sR⟩ (fun w_ hS_ => ex_move (v := .int .i64 x116) rfl) ?_
    refine WA.norm (listed' := #[true, true, true, false, false, false, false, false, false, false, false]) (by kernel_rfl) ?_
    obtain ⟨x131, hx131, H⟩ := bindE H
    refine WA.ex 3 rfl (by kernel_rfl) (by kernel_rfl) (by kernel_rfl) rfl ⟨_, sR⟩ (fun w_ hS_ => ex_indexArrB (i := x116) (xs := x117) s3_115 rfl Tryd.underlying24 sz22 hl118 hx131) ?_
    refine WA.norm (listed' := #[true, true, true, true, false, false, false, false, false, false, false]) (by kernel_rfl) ?_
    refine WA.ex 5 rfl (by kernel_rfl) (by kernel_rfl) (by kernel_rfl) rfl ⟨_, sR⟩ (fun w_ hS_ => ex_move (v := .int .i64 x116) rfl) ?_
    refine WA.norm (listed' := #[true, true, true, true, false, true, false, false, false, false, false]) (by kernel_rfl) ?_
    obtain ⟨x132, hx132, H⟩ := bindE H
    refine WA.ex 6 rfl (by kernel_rfl) (by kernel_rfl) (by kernel_rfl) rfl ⟨_, sR⟩ (fun w_ hS_ => ex_indexArrB (i := x116) (xs := a1) s4_115 rfl Tryd.underlying24 sz22 hla1 hx132) ?_
    refine WA.norm (listed' := #[true, true, true, true, false, true, true, false, false, false, false]) (by kernel_rfl) ?_
    refine WA.ex 7 rfl (by kernel_rfl) (by kernel_rfl) (by kernel_rfl) rfl ⟨_, sR⟩ (fun w_ hS_ => ex_loadAE (enc := enc64) rfl Tryd.underlying22 rfl (hB110D.step hS_.choose_spec rfl) hx132) ?_
    refine WA.norm (listed' := #[true, true, true, true, false, true, true, true, false, false, false]) (by kernel_rfl) ?_
    refine WA.one 4 (by kernel_rfl) rfl rfl ?_
    refine OW.ex rfl (ex_loadAE (enc := enc64) rfl Tryd.underlying22 rfl hB105 hx131) ?_
    refine ⟨⟨_, sR⟩, ?_⟩
    refine WA.norm (listed' := #[true, true, true, true, true, true, true, true, false, false, false]) (by kernel_rfl) ?_
    obtain ⟨z133, hz133, H⟩ := bindE H
    refine WA.one 8 (by kernel_rfl) rfl rfl ?_
    refine OW.callV (show ev _ _ = .func (.func 51) #[] #[] from rfl) [enc64 x131, enc64 x132] rfl Tryd.func51 (by kernel_rfl) (by kernel_rfl) (map_cons' rfl (map_cons' rfl rfl)) (bits_Minus_1.calls _ _ x131 x132 z133 (HF.ten (V := [0]) (L := []) rfl)  hz133) ?_
    rintro _ w134 ⟨o135, rfl, s136⟩
    refine ⟨_, rfl, ?_⟩
    replace s136 := un_stepL (J := []) (L' := []) s136 rfl rfl
    replace hB105 := hB105.step s136 rfl
    replace hB110 := hB110.step s136 rfl
    replace hB115 := hB115.step s136 rfl
    replace HF := HF.step s136 rfl
    replace sR := Step.trans sR s136 (M := [10]) rfl rfl
    refine ⟨⟨_, sR⟩, ?_⟩
    refine WA.norm (listed' := #[true, true, true, true, true, true, true, true, true, false, false]) (by kernel_rfl) ?_
    obtain ⟨x137, hx137, H⟩ := bindE H
    refine WA.ex 9 rfl (by kernel_rfl) (by kernel_rfl) (by kernel_rfl) rfl ⟨_, sR⟩ (fun w_ hS_ => ex_indexArrB (i := x116) (xs := x117) s3_115 rfl Tryd.underlying24 sz22 hl118 hx137) ?_
    refine WA.norm (listed' := #[true, true, true, true, true, true, true, true, true, true, false]) (by kernel_rfl) ?_
    refine WA.one 10 (by kernel_rfl) rfl rfl ?_
    refine OW.storeAE (enc := enc64) (c := z133) rfl rfl (cells64) (fun _ => rfl) sz22 hB105 hx137 ?_
    intro w138 s139 hB140
    replace hB110 := hB110.step s139 rfl
    replace hB115 := hB115.step s139 rfl
    replace HF := HF.step s139 rfl
    replace sR := Step.trans sR s139 (M := [10]) rfl rfl
    have hl141 := len_set (i := x116.toNat) (a := z133) hl118
    refine ⟨⟨_, sR⟩, ?_⟩
    refine WA.norm (listed' := #[true, true, true, true, true, true, true, true, true, true, true]) (by kernel_rfl) ?_
    refine WA.done (by kernel_rfl) ?_
    refine WC.region ?_
    refine WL.ex rfl (ex_bin (a := .int .i64 x116) (b := .int .i64 1) (v := .int .i64 (wrap64 (x116 + 1))) s8_116 rfl bin_add64) ?_
    refine WL.ex rfl (ex_move (v := .int .i64 (wrap64 (x116 + 1))) rfl) ?_
    refine WL.nil ?_
    exact ⟨k124, Nat.lt_succ_self _, ⟨_, wrap64 (x116 + 1), (x117.set x116.toNat z133), HF, hB140, hl141, hB110, hB115, s2_115, s3_115, s4_115, s6_115, rfl, H⟩⟩
  ·
    refine WC.cond_f ((show _ = Value.bool (decide (x116 < 16)) from rfl).trans (congrArg Value.bool c128)) ?_
    refine WC.exit ?_
    obtain rfl := Option.some.inj H
    exact ⟨_, HF, hB105, hl118, hB115, s3_115, s6_115⟩

/-! ### bits_Minus -/
set_option maxRecDepth 100000 in
theorem bits_Minus.calls (k : Nat) (o0 : Tags) (w0 : World) (a0 : (List UInt64)) (a1 : (List UInt64)) (r : (List UInt64)) (hO : ∀ b, b < w0.heap.size → o0 b < 10) (hla0 : a0.length = 16) (hla1 : a1.length = 16) (H : bits_Minus.f k a0 a1 = some r) :
    Calls Tryd.prog 19 [.agg (List.map enc64 a0).toArray, .agg (List.map enc64 a1).toArray].toArray w0 fun e_ w_ => ∃ (o_ : Tags), e_ = .returned (one [.agg (List.map enc64 r).toArray]) ∧ Step o0 w0 o_ w_ [] ∧ r.length = 16 := by
  have HF := Fm.refl hO []
  unfold bits_Minus.f at H
  refine SX.calls [.agg (List.map enc64 a0).toArray, .agg (List.map enc64 a1).toArray] Tryd.func19 rfl rfl ?_
  rw [Tryd.ntmps19]
  refine WC.seq ?_
  refine WC.region ?_
  refine WL.op rfl ?_
  refine OW.box' (List.map enc64 a0) 10 HF rfl ((congrArg Value.cells (show ev _ _ = (.agg (List.map enc64 a0).toArray : Value) from rfl)).trans rfl) ?_
  intro o102 w103 b101 s104 hB105
  replace HF := HF.step s104 rfl
  refine WL.op rfl ?_
  refine OW.box' (List.map enc64 a1) 11 HF rfl ((congrArg Value.cells (show ev _ _ = (.agg (List.map enc64 a1).toArray : Value) from rfl)).trans rfl) ?_
  intro o107 w108 b106 s109 hB110
  replace hB105 := hB105.step s109 rfl
  replace HF := HF.step s109 rfl
  refine WL.op rfl ?_
  refine OW.alloc' (List.map enc64 (List.replicate 16 ((0 : UInt64)))) 12 HF rfl zr24 rfl ?_
  intro o112 w113 b111 s114 hB115
  replace hB105 := hB105.step s114 rfl
  replace hB110 := hB110.step s114 rfl
  replace HF := HF.step s114 rfl
  refine WL.nil ?_
  refine WC.seq ?_
  refine WC.region ?_
  refine WL.ex rfl (ex_loadAV (xs := a0) rfl Tryd.underlying24 sz24 hla0 hB105) ?_
  refine WL.ex rfl (ex_loadAV (xs := a1) rfl Tryd.underlying24 sz24 hla1 hB110) ?_
  obtain ⟨z116, hz116, H⟩ := bindE H
  refine WL.op rfl ?_
  refine OW.call [.agg (List.map enc64 a0).toArray, .agg (List.map enc64 a1).toArray, .func (.func 51) #[] #[]] rfl Tryd.func48 (by kernel_rfl) (by kernel_rfl) (map_cons' rfl (map_cons' rfl (map_cons' rfl rfl))) (bits_each_bits_Minus_1.calls k _ _ a0 a1 z116 (HF.ten (V := [0]) (L := []) rfl) hla0 hla1 hz116) ?_
  rintro _ w117 ⟨o118, rfl, s119, hl120⟩
  refine ⟨_, rfl, ?_⟩
  replace s119 := un_stepL (J := []) (L' := []) s119 rfl rfl
  replace hB105 := hB105.step s119 rfl
  replace hB110 := hB110.step s119 rfl
  replace hB115 := hB115.step s119 rfl
  replace HF := HF.step s119 rfl
  refine WL.op rfl ?_
  refine OW.storeAV (ys := z116) rfl rfl (fun _ => rfl) sz24 rfl hl120 hB115 ?_
  intro w121 s122 hB123
  replace hB105 := hB105.step s122 rfl
  replace hB110 := hB110.step s122 rfl
  replace HF := HF.step s122 rfl
  refine WL.nil ?_
  refine WC.ret ?_
  obtain rfl := Option.some.inj H
  exact ⟨_, (.cell (.agg (List.map enc64 z116).toArray : Value) rfl (run_loadAV Tryd.underlying24 sz24 hl120 hB123) .nil), _, rfl, HF.out, hl120⟩

/-! ### dictumref05_Minus -/
set_option maxRecDepth 100000 in
theorem dictumref05_Minus.calls (k : Nat) (o0 : Tags) (w0 : World) (a0 : (List UInt64)) (a1 : (List UInt64)) (r : (List UInt64)) (hO : ∀ b, b < w0.heap.size → o0 b < 10) (hla0 : a0.length = 16) (hla1 : a1.length = 16) (H : dictumref05_Minus.f k a0 a1 = some r) :
    Calls Tryd.prog 20 [.agg (List.map enc64 a0).toArray, .agg (List.map enc64 a1).toArray].toArray w0 fun e_ w_ => ∃ (o_ : Tags), e_ = .returned (one [.agg (List.map enc64 r).toArray]) ∧ Step o0 w0 o_ w_ [] ∧ r.length = 16 := by
  have HF := Fm.refl hO []
  unfold dictumref05_Minus.f at H
  refine SX.calls [.agg (List.map enc64 a0).toArray, .agg (List.map enc64 a1).toArray] Tryd.func20 rfl rfl ?_
  rw [Tryd.ntmps20]
  refine WC.seq ?_
  refine WC.region ?_
  refine WL.op rfl ?_
  refine OW.box' (List.map enc64 a0) 10 HF rfl ((congrArg Value.cells (show ev _ _ = (.agg (List.map enc64 a0).toArray : Value) from rfl)).trans rfl) ?_
  intro o102 w103 b101 s104 hB105
  replace HF := HF.step s104 rfl
  refine WL.op rfl ?_
  refine OW.box' (List.map enc64 a1) 11 HF rfl ((congrArg Value.cells (show ev _ _ = (.agg (List.map enc64 a1).toArray : Value) from rfl)).trans rfl) ?_
  intro o107 w108 b106 s109 hB110
  replace hB105 := hB105.step s109 rfl
  replace HF := HF.step s109 rfl
  refine WL.op rfl ?_
  refine OW.alloc' (List.map enc64 (List.replicate 16 ((0 : UInt64)))) 12 HF rfl zr24 rfl ?_
  intro o112 w113 b111 s114 hB115
  replace hB105 := hB105.step s114 rfl
  replace hB110 := hB110.step s114 rfl
  replace HF := HF.step s114 rfl
  refine WL.nil ?_
  refine WC.seq ?_
  refine WC.seq ?_
  refine WC.region ?_
  refine WL.ex rfl (ex_assign (v := .int .i64 0) rfl) ?_
  refine WL.nil ?_
  obtain ⟨z121, hz121, H⟩ := bindE H
  refine WC.for (fun k_ ρ_ w_ => ∃ (o_ : Tags) (x116 : Int) (x117 : (List UInt64)), Fm o0 w0 o_ w_ [] ∧ Bk o_ w_ 10 b101 (List.map enc64 x117) 24 ∧ x117.length = 16 ∧ Bk o_ w_ 11 b106 (List.map enc64 a1) 24 ∧ Bk o_ w_ 12 b111 (List.map enc64 (List.replicate 16 ((0 : UInt64)))) 24 ∧ ρ_ 2 = .pointer (some ⟨b101, 0, none⟩) ∧ ρ_ 3 = .pointer (some ⟨b106, 0, none⟩) ∧ ρ_ 4 = .pointer (some ⟨b111, 0, none⟩) ∧ ρ_ 5 = .int .i64 x116 ∧ dictumref05_Minus.l1 k a1 k_ x116 x117 = some z121) k (fun ρ_ w_ => ∃ (o_ : Tags), Fm o0 w0 o_ w_ [] ∧ Bk o_ w_ 10 b101 (List.map enc64 z121) 24 ∧ z121.length = 16 ∧ Bk o_ w_ 12 b111 (List.map enc64 (List.replicate 16 ((0 : UInt64)))) 24 ∧ ρ_ 2 = .pointer (some ⟨b101, 0, none⟩) ∧ ρ_ 4 = .pointer (some ⟨b111, 0, none⟩)) ⟨_, 0, a0, HF, hB105, hla0, hB110, hB115, rfl, rfl, rfl, rfl, hz121⟩ ?case122 ?_
  case case122 =>
    rintro ρ138 w139 ⟨o140, HF, hB105, hl120, hB115, s2_118, s4_118⟩
    refine WC.seq ?_
    refine WC.region ?_
    refine WL.ex rfl (ex_loadAV (xs := z121) s2_118 Tryd.underlying24 sz24 hl120 hB105) ?_
    refine WL.op rfl ?_
    refine OW.storeAV (ys := z121) s4_118 rfl (fun _ => rfl) sz24 rfl hl120 hB115 ?_
    intro w141 s142 hB143
    replace hB105 := hB105.step s142 rfl
    replace HF := HF.step s142 rfl
    refine WL.nil ?_
    refine WC.ret ?_
    obtain rfl := Option.some.inj H
    exact ⟨_, (.cell (.agg (List.map enc64 z121).toArray : Value) s4_118 (run_loadAV Tryd.underlying24 sz24 hl120 hB143) .nil), _, rfl, HF.out, hl120⟩
  have Ho123 := H
  rintro k124 ρ125 w126 ⟨o127, x116, x117, HF, hB105, hl118, hB110, hB115, s2_115, s3_115, s4_115, s5_116, H⟩
  cases k124 with
  | zero => cases H
  | succ k124 =>
  rw [dictumref05_Minus.l1.eq_2] at H
  refine WC.seq ?_
  refine WC.seq ?_
  refine WC.region ?_
  refine WL.ex rfl (ex_move (v := .int .i64 x116) s5_116) ?_
  refine WL.ex rfl (ex_bin (a := .int .i64 x116) (b := .int .i64 16) (v := .bool (decide (x116 < 16))) rfl rfl bin_lss) ?_
  refine WL.nil ?_
  rcases condE H with ⟨c128, H⟩ | ⟨c128, H⟩
  ·
    refine WC.cond_t ((show _ = Value.bool (decide (x116 < 16)) from rfl).trans (congrArg Value.bool c128)) ?_
    refine WC.skip ?_
    refine WC.seq ?_
    refine WC.block ?_
    refine WC.regionD' HF [10] 10 (by kernel_rfl) rfl ?_
    intro w129 s130
    replace hB105 := hB105.step s130 rfl
    replace hB110 := hB110.step s130 rfl
    replace hB115 := hB115.step s130 rfl
    replace HF := HF.step s130 rfl
    have hB105D := hB105
    have hB110D := hB110
    have hB115D := hB115
    have sR := HF.here [10]
    refine WA.norm (listed' := #[false, false, false, false, false, false, false, false, false, false]) (by kernel_rfl) ?_
    refine WA.ex 0 rfl (by kernel_rfl) (by kernel_rfl) (by kernel_rfl) rfl ⟨_, sR⟩ (fun w_ hS_ => ex_move (v := .int .i64 x116) s5_116) ?_
    refine WA.norm (listed' := #[true, false, false, false, false, false, false, false, false, false]) (by kernel_rfl) ?_
    refine WA.ex 1 rfl (by kernel_rfl) (by kernel_rfl) (by kernel_rfl) rfl ⟨_, sR⟩ (fun w_ hS_ => ex_move (v := .int .i64 x116) s5_116) ?_
    refine WA.norm (listed' := #[true, true, false, false, false, false, false, false, false, false]) (by kernel_rfl) ?_
    obtain ⟨x131, hx131, H⟩ := bindE H
    refine WA.ex 2 rfl (by kernel_rfl) (by kernel_rfl) (by kernel_rfl) rfl ⟨_, sR⟩ (fun w_ hS_ => ex_indexArrB (i := x116) (xs := x117) s2_115 rfl Tryd.underlying24 sz22 hl118 hx131) ?_
    refine WA.norm (listed' := #[true, true, true, false, false, false, false, false, false, false]) (by kernel_rfl) ?_
    refine WA.ex 4 rfl (by kernel_rfl) (by kernel_rfl) (by kernel_rfl) rfl ⟨_, sR⟩ (fun w_ hS_ => ex_move (v := .int .i64 x116) s5_116) ?_
    refine WA.norm (listed' := #[true, true, true, false, true, false, false, false, false, false]) (by kernel_rfl) ?_
    obtain ⟨x132, hx132, H⟩ := bindE H
    refine WA.ex 5 rfl (by kernel_rfl) (by kernel_rfl) (by kernel_rfl) rfl ⟨_, sR⟩ (fun w_ hS_ => ex_indexArrB (i := x116) (xs := a1) s3_115 rfl Tryd.underlying24 sz22 hla1 hx132) ?_
    refine WA.norm (listed' := #[true, true, true, false, true, true, false, false, false, false]) (by kernel_rfl) ?_
    refine WA.ex 6 rfl (by kernel_rfl) (by kernel_rfl) (by kernel_rfl) rfl ⟨_, sR⟩ (fun w_ hS_ => ex_loadAE (enc := enc64) rfl Tryd.underlying22 rfl (hB110D.step hS_.choose_spec rfl) hx132) ?_
    refine WA.norm (listed' := #[true, true, true, false, true, true, true, false, false, false]) (by kernel_rfl) ?_
    refine WA.one 3 (by kernel_rfl) rfl rfl ?_
    refine OW.ex rfl (ex_loadAE (enc := enc64) rfl Tryd.underlying22 rfl hB105 hx131) ?_
    refine ⟨⟨_, sR⟩, ?_⟩
    refine WA.norm (listed' := #[true, true, true, true, true, true, true, false, false, false]) (by kernel_rfl) ?_
    refine WA.ex 7 rfl (by kernel_rfl) (by kernel_rfl) (by kernel_rfl) rfl ⟨_, sR⟩ (fun w_ hS_ => ex_bin (a := enc64 x131) (b := enc64 x132) (v := enc64 (x131 &&& ~~~x132)) rfl rfl bin_andNot_u64) ?_
    refine WA.norm (listed' := #[true, true, true, true, true, true, true, true, false, false]) (by kernel_rfl) ?_
    obtain ⟨x133, hx133, H⟩ := bindE H
    refine WA.ex 8 rfl (by kernel_rfl) (by kernel_rfl) (by kernel_rfl) rfl ⟨_, sR⟩ (fun w_ hS_ => ex_indexArrB (i := x116) (xs := x117) s2_115 rfl Tryd.underlying24 sz22 hl118 hx133) ?_
    refine WA.norm (listed' := #[true, true, true, true, true, true, true, true, true, false]) (by kernel_rfl) ?_
    refine WA.one 9 (by kernel_rfl) rfl rfl ?_
    refine OW.storeAE (enc := enc64) (c := (x131 &&& ~~~x132)) rfl rfl (cells64) (fun _ => rfl) sz22 hB105 hx133 ?_
    intro w134 s135 hB136
    replace hB110 := hB110.step s135 rfl
    replace hB115 := hB115.step s135 rfl
    replace HF := HF.step s135 rfl
    replace sR := Step.trans sR s135 (M := [10]) rfl rfl
    have hl137 := len_set (i := x116.toNat) (a := (x131 &&& ~~~x132)) hl118
    refine ⟨⟨_, sR⟩, ?_⟩
    refine WA.norm (listed' := #[true, true, true, true, true, true, true, true, true, true]) (by kernel_rfl) ?_
    refine WA.done (by kernel_rfl) ?_
    refine WC.region ?_
    refine WL.ex rfl (ex_move (v := .int .i64 x116) s5_116) ?_
    refine WL.ex rfl (ex_bin (a := .int .i64 x116) (b := .int .i64 1) (v := .int .i64 (wrap64 (x116 + 1))) rfl rfl bin_add64) ?_
    refine WL.ex rfl (ex_assign (v := .int .i64 (wrap64 (x116 + 1))) rfl) ?_
    refine WL.nil ?_
    exact ⟨k124, Nat.lt_succ_self _, ⟨_, wrap64 (x116 + 1), (x117.set x116.toNat (x131 &&& ~~~x132)), HF, hB136, hl137, hB110, hB115, s2_115, s3_115, s4_115, rfl, H⟩⟩
  ·
    refine WC.cond_f ((show _ = Value.bool (decide (x116 < 16)) from rfl).trans (congrArg Value.bool c128)) ?_
    refine WC.exit ?_
    obtain rfl := Option.some.inj H
    exact ⟨_, HF, hB105, hl118, hB115, s2_115, s4_115⟩

/-! ### bits_Sub -/
set_option maxRecDepth 100000 in
theorem bits_Sub.calls (k : Nat) (o0 : Tags) (w0 : World) (a0 : (List UInt64)) (a1 : (List UInt64)) (r : Bool) (hO : ∀ b, b < w0.heap.size → o0 b < 10) (hla0 : a0.length = 16) (hla1 : a1.length = 16) (H : bits_Sub.f k a0 a1 = some r) :
    Calls Tryd.prog 21 [.agg (List.map enc64 a0).toArray, .agg (List.map enc64 a1).toArray].toArray w0 fun e_ w_ => ∃ (o_ : Tags), e_ = .returned (one [.bool r]) ∧ Step o0 w0 o_ w_ [] := by
  have HF := Fm.refl hO []
  unfold bits_Sub.f at H
  refine SX.calls [.agg (List.map enc64 a0).toArray, .agg (List.map enc64 a1).toArray] Tryd.func21 rfl rfl ?_
  rw [Tryd.ntmps21]
  refine WC.seq ?_
  refine WC.region ?_
  refine WL.op rfl ?_
  refine OW.box' (List.map enc64 a0) 10 HF rfl ((congrArg Value.cells (show ev _ _ = (.agg (List.map enc64 a0).toArray : Value) from rfl)).trans rfl) ?_
  intro o102 w103 b101 s104 hB105
  replace HF := HF.step s104 rfl
  refine WL.op rfl ?_
  refine OW.box' (List.map enc64 a1) 11 HF rfl ((congrArg Value.cells (show ev _ _ = (.agg (List.map enc64 a1).toArray : Value) from rfl)).trans rfl) ?_
  intro o107 w108 b106 s109 hB110
  replace hB105 := hB105.step s109 rfl
  replace HF := HF.step s109 rfl
  refine WL.ex rfl (ex_assign (v := .bool false) rfl) ?_
  refine WL.nil ?_
  refine WC.seq ?_
  refine WC.regionD' HF [] 6 (by kernel_rfl) rfl ?_
  intro w111 s112
  replace hB105 := hB105.step s112 rfl
  replace hB110 := hB110.step s112 rfl
  replace HF := HF.step s112 rfl
  have hB105D := hB105
  have hB110D := hB110
  have sR := HF.here []
  refine WA.norm (listed' := #[false, false, false, false, false, false]) (by kernel_rfl) ?_
  refine WA.ex 0 rfl (by kernel_rfl) (by kernel_rfl) (by kernel_rfl) rfl ⟨_, sR⟩ (fun w_ hS_ => ex_loadAV (xs := a0) rfl Tryd.underlying24 sz24 hla0 (hB105D.step hS_.choose_spec rfl)) ?_
  refine WA.norm (listed' := #[true, false, false, false, false, false]) (by kernel_rfl) ?_
  refine WA.ex 1 rfl (by kernel_rfl) (by kernel_rfl) (by kernel_rfl) rfl ⟨_, sR⟩ (fun w_ hS_ => ex_loadAV (xs := a1) rfl Tryd.underlying24 sz24 hla1 (hB110D.step hS_.choose_spec rfl)) ?_
  refine WA.norm (listed' := #[true, true, false, false, false, false]) (by kernel_rfl) ?_
  refine WA.ex 3 rfl (by kernel_rfl) (by kernel_rfl) (by kernel_rfl) rfl ⟨_, sR⟩ (fun w_ hS_ => ex_loadAV (xs := a0) rfl Tryd.underlying24 sz24 hla0 (hB105D.step hS_.choose_spec rfl)) ?_
  refine WA.norm (listed' := #[true, true, false, true, false, false]) (by kernel_rfl) ?_
  obtain ⟨z113, hz113, H⟩ := bindE H
  refine WA.one 2 (by kernel_rfl) rfl rfl ?_
  refine OW.call [.agg (List.map enc64 a0).toArray, .agg (List.map enc64 a1).toArray] rfl Tryd.func17 (by kernel_rfl) (by kernel_rfl) (map_cons' rfl (map_cons' rfl rfl)) (bits_Meet.calls k _ _ a0 a1 z113 (HF.ten (V := [0]) (L := []) rfl) hla0 hla1 hz113) ?_
  rintro _ w114 ⟨o115, rfl, s116, hl117⟩
  refine ⟨_, rfl, ?_⟩
  replace s116 := un_stepL (J := []) (L' := []) s116 rfl rfl
  replace hB105 := hB105.step s116 rfl
  replace hB110 := hB110.step s116 rfl
  replace HF := HF.step s116 rfl
  replace sR := Step.trans sR s116 (M := []) rfl rfl
  refine ⟨⟨_, sR⟩, ?_⟩
  refine WA.norm (listed' := #[true, true, true, true, false, false]) (by kernel_rfl) ?_
  refine WA.ex 4 rfl (by kernel_rfl) (by kernel_rfl) (by kernel_rfl) rfl ⟨_, sR⟩ (fun w_ hS_ => ex_bin (a := .agg (List.map enc64 z113).toArray) (b := .agg (List.map enc64 a0).toArray) (v := .bool (z113 == a0)) rfl rfl (bin_eql_agg (by kernel_rfl) (EqR.arr Tryd.underlying24 sz22 Tryd.underlying22 rfl hl117 hla0 (fun _ _ => EqR.u64 Tryd.underlying22)))) ?_
  refine WA.norm (listed' := #[true, true, true, true, true, false]) (by kernel_rfl) ?_
  refine WA.ex 5 rfl (by kernel_rfl) (by kernel_rfl) (by kernel_rfl) rfl ⟨_, sR⟩ (fun w_ hS_ => ex_assign (v := .bool (z113 == a0)) rfl) ?_
  refine WA.norm (listed' := #[true, true, true, true, true, true]) (by kernel_rfl) ?_
  refine WA.done (by kernel_rfl) ?_
  refine WC.ret ?_
  obtain rfl := Option.some.inj H
  exact ⟨_, (.tmp (.bool (z113 == a0) : Value) rfl .nil), _, rfl, HF.out⟩

/-! ### dictumref05_Sub -/
set_option maxRecDepth 100000 in
theorem dictumref05_Sub.calls (k : Nat) (o0 : Tags) (w0 : World) (a0 : (List UInt64)) (a1 : (List UInt64)) (r : Bool) (hO : ∀ b, b < w0.heap.size → o0 b < 10) (hla0 : a0.length = 16) (hla1 : a1.length = 16) (H : dictumref05_Sub.f k a0 a1 = some r) :
    Calls Tryd.prog 22 [.agg (List.map enc64 a0).toArray, .agg (List.map enc64 a1).toArray].toArray w0 fun e_ w_ => ∃ (o_ : Tags), e_ = .returned (one [.bool r]) ∧ Step o0 w0 o_ w_ [] := by
  have HF := Fm.refl hO []
  unfold dictumref05_Sub.f at H
  refine SX.calls [.agg (List.map enc64 a0).toArray, .agg (List.map enc64 a1).toArray] Tryd.func22 rfl rfl ?_
  rw [Tryd.ntmps22]
  refine WC.seq ?_
  refine WC.region ?_
  refine WL.op rfl ?_
  refine OW.box' (List.map enc64 a0) 10 HF rfl ((congrArg Value.cells (show ev _ _ = (.agg (List.map enc64 a0).toArray : Value) from rfl)).trans rfl) ?_
  intro o102 w103 b101 s104 hB105
  replace HF := HF.step s104 rfl
  refine WL.op rfl ?_
  refine OW.box' (List.map enc64 a1) 11 HF rfl ((congrArg Value.cells (show ev _ _ = (.agg (List.map enc64 a1).toArray : Value) from rfl)).trans rfl) ?_
  intro o107 w108 b106 s109 hB110
  replace hB105 := hB105.step s109 rfl
  replace HF := HF.step s109 rfl
  refine WL.ex rfl (ex_assign (v := .bool false) rfl) ?_
  refine WL.nil ?_
  refine WC.seq ?_
  refine WC.region ?_
  refine WL.ex rfl (ex_loadAV (xs := a0) rfl Tryd.underlying24 sz24 hla0 hB105) ?_
  refine WL.ex rfl (ex_loadAV (xs := a1) rfl Tryd.underlying24 sz24 hla1 hB110) ?_
  obtain ⟨z111, hz111, H⟩ := bindE H
  refine WL.op rfl ?_
  refine OW.call [.agg (List.map enc64 a0).toArray, .agg (List.map enc64 a1).toArray] rfl Tryd.func20 (by kernel_rfl) (by kernel_rfl) (map_cons' rfl (map_cons' rfl rfl)) (dictumref05_Minus.calls k _ _ a0 a1 z111 (HF.ten (V := [0]) (L := []) rfl) hla0 hla1 hz111) ?_
  rintro _ w112 ⟨o113, rfl, s114, hl115⟩
  refine ⟨_, rfl, ?_⟩
  replace s114 := un_stepL (J := []) (L' := []) s114 rfl rfl
  replace hB105 := hB105.step s114 rfl
  replace hB110 := hB110.step s114 rfl
  replace HF := HF.step s114 rfl
  refine WL.ex rfl (ex_buildArr (cs := List.map enc64 (List.replicate 16 ((0 : UInt64)))) [] [.int .u64 0, .int .u64 0, .int .u64 0, .int .u64 0, .int .u64 0, .int .u64 0, .int .u64 0, .int .u64 0, .int .u64 0, .int .u64 0, .int .u64 0, .int .u64 0, .int .u64 0, .int .u64 0, .int .u64 0, .int .u64 0] Tryd.underlying24 zr24 rfl sz22 rfl rfl) ?_
  refine WL.ex rfl (ex_bin (a := .agg (List.map enc64 z111).toArray) (b := .agg (List.map enc64 (List.replicate 16 ((0 : UInt64)))).toArray) (v := .bool (z111 == (List.replicate 16 ((0 : UInt64))))) rfl rfl (bin_eql_agg (by kernel_rfl) (EqR.arr Tryd.underlying24 sz22 Tryd.underlying22 rfl hl115 rfl (fun _ _ => EqR.u64 Tryd.underlying22)))) ?_
  refine WL.ex rfl (ex_assign (v := .bool (z111 == (List.replicate 16 ((0 : UInt64))))) rfl) ?_
  refine WL.nil ?_
  refine WC.ret ?_
  obtain rfl := Option.some.inj H
  exact ⟨_, (.tmp (.bool (z111 == (List.replicate 16 ((0 : UInt64)))) : Value) rfl .nil), _, rfl, HF.out⟩

/-! ### bits_OnesCount64 -/
set_option maxRecDepth 100000 in
theorem bits_OnesCount64.calls (o0 : Tags) (w0 : World) (a0 : UInt64) (r : Int) (hO : ∀ b, b < w0.heap.size → o0 b < 10) (H : bits_OnesCount64.f a0 = some r) :
    Calls Tryd.prog 52 [enc64 a0].toArray w0 fun e_ w_ => ∃ (o_ : Tags), e_ = .returned (one [.int .i64 r]) ∧ Step o0 w0 o_ w_ [] := by
  have HF := Fm.refl hO []
  unfold bits_OnesCount64.f at H
  refine SX.calls [enc64 a0] Tryd.func52 rfl rfl ?_
  rw [Tryd.ntmps52]
  refine WC.seq ?_
  refine WC.region ?_
  refine WL.ex rfl (ex_assign (v := .int .i64 0) rfl) ?_
  refine WL.nil ?_
  refine WC.seq ?_
  refine WC.region ?_
  refine WL.ex rfl (ex_move (v := enc64 a0) rfl) ?_
  refine WL.ex rfl (ex_bin (a := enc64 a0) (b := enc64 (1 : UInt64)) (v := enc64 (shr64 a0 1)) rfl rfl (bin_shr_u64n (n := 1))) ?_
  refine WL.ex rfl (ex_bin (a := enc64 (shr64 a0 1)) (b := enc64 (6148914691236517205 : UInt64)) (v := enc64 ((shr64 a0 1) &&& (6148914691236517205 : UInt64))) rfl rfl bin_and_u64) ?_
  refine WL.ex rfl (ex_move (v := enc64 a0) rfl) ?_
  refine WL.ex rfl (ex_bin (a := enc64 a0) (b := enc64 (6148914691236517205 : UInt64)) (v := enc64 (a0 &&& (6148914691236517205 : UInt64))) rfl rfl bin_and_u64) ?_
  refine WL.ex rfl (ex_bin (a := enc64 ((shr64 a0 1) &&& (6148914691236517205 : UInt64))) (b := enc64 (a0 &&& (6148914691236517205 : UInt64))) (v := enc64 (((shr64 a0 1) &&& (6148914691236517205 : UInt64)) + (a0 &&& (6148914691236517205 : UInt64)))) rfl rfl bin_add_u64) ?_
  refine WL.ex rfl (ex_assign (v := enc64 (((shr64 a0 1) &&& (6148914691236517205 : UInt64)) + (a0 &&& (6148914691236517205 : UInt64)))) rfl) ?_
  refine WL.nil ?_
  refine WC.seq ?_
  refine WC.region ?_
  refine WL.ex rfl (ex_move (v := enc64 (((shr64 a0 1) &&& (6148914691236517205 : UInt64)) + (a0 &&& (6148914691236517205 : UInt64)))) rfl) ?_
  refine WL.ex rfl (ex_bin (a := enc64 (((shr64 a0 1) &&& (6148914691236517205 : UInt64)) + (a0 &&& (6148914691236517205 : UInt64)))) (b := enc64 (2 : UInt64)) (v := enc64 (shr64 (((shr64 a0 1) &&& (6148914691236517205 : UInt64)) + (a0 &&& (6148914691236517205 : UInt64))) 2)) rfl rfl (bin_shr_u64n (n := 2))) ?_
  refine WL.ex rfl (ex_bin (a := enc64 (shr64 (((shr64 a0 1) &&& (6148914691236517205 : UInt64)) + (a0 &&& (6148914691236517205 : UInt64))) 2)) (b := enc64 (3689348814741910323 : UInt64)) (v := enc64 ((shr64 (((shr64 a0 1) &&& (6148914691236517205 : UInt64)) + (a0 &&& (6148914691236517205 : UInt64))) 2) &&& (3689348814741910323 : UInt64))) rfl rfl bin_and_u64) ?_
  refine WL.ex rfl (ex_move (v := enc64 (((shr64 a0 1) &&& (6148914691236517205 : UInt64)) + (a0 &&& (6148914691236517205 : UInt64)))) rfl) ?_
  refine WL.ex rfl (ex_bin (a := enc64 (((shr64 a0 1) &&& (6148914691236517205 : UInt64)) + (a0 &&& (6148914691236517205 : UInt64)))) (b := enc64 (3689348814741910323 : UInt64)) (v := enc64 ((((shr64 a0 1) &&& (6148914691236517205 : UInt64)) + (a0 &&& (6148914691236517205 : UInt64))) &&& (3689348814741910323 : UInt64))) rfl rfl bin_and_u64) ?_
  refine WL.ex rfl (ex_bin (a := enc64 ((shr64 (((shr64 a0 1) &&& (6148914691236517205 : UInt64)) + (a0 &&& (6148914691236517205 : UInt64))) 2) &&& (3689348814741910323 : UInt64))) (b := enc64 ((((shr64 a0 1) &&& (6148914691236517205 : UInt64)) + (a0 &&& (6148914691236517205 : UInt64))) &&& (3689348814741910323 : UInt64))) (v := enc64 (((shr64 (((shr64 a0 1) &&& (6148914691236517205 : UInt64)) + (a0 &&& (6148914691236517205 : UInt64))) 2) &&& (3689348814741910323 : UInt64)) + ((((shr64 a0 1) &&& (6148914691236517205 : UInt64)) + (a0 &&& (6148914691236517205 : UInt64))) &&& (3689348814741910323 : UInt64)))) rfl rfl bin_add_u64) ?_
  refine WL.ex rfl (ex_assign (v := enc64 (((shr64 (((shr64 a0 1) &&& (6148914691236517205 : UInt64)) + (a0 &&& (6148914691236517205 : UInt64))) 2) &&& (3689348814741910323 : UInt64)) + ((((shr64 a0 1) &&& (6148914691236517205 : UInt64)) + (a0 &&& (6148914691236517205 : UInt64))) &&& (3689348814741910323 : UInt64)))) rfl) ?_
  refine WL.nil ?_
  refine WC.seq ?_
  refine WC.region ?_
  refine WL.ex rfl (ex_move (v := enc64 (((shr64 (((shr64 a0 1) &&& (6148914691236517205 : UInt64)) + (a0 &&& (6148914691236517205 : UInt64))) 2) &&& (3689348814741910323 : UInt64)) + ((((shr64 a0 1) &&& (6148914691236517205 : UInt64)) + (a0 &&& (6148914691236517205 : UInt64))) &&& (3689348814741910323 : UInt64)))) rfl) ?_
  refine WL.ex rfl (ex_bin (a := enc64 (((shr64 (((shr64 a0 1) &&& (6148914691236517205 : UInt64)) + (a0 &&& (6148914691236517205 : UInt64))) 2) &&& (3689348814741910323 : UInt64)) + ((((shr64 a0 1) &&& (6148914691236517205 : UInt64)) + (a0 &&& (6148914691236517205 : UInt64))) &&& (3689348814741910323 : UInt64)))) (b := enc64 (4 : UInt64)) (v := enc64 (shr64 (((shr64 (((shr64 a0 1) &&& (6148914691236517205 : UInt64)) + (a0 &&& (6148914691236517205 : UInt64))) 2) &&& (3689348814741910323 : UInt64)) + ((((shr64 a0 1) &&& (6148914691236517205 : UInt64)) + (a0 &&& (6148914691236517205 : UInt64))) &&& (3689348814741910323 : UInt64))) 4)) rfl rfl (bin_shr_u64n (n := 4))) ?_
  refine WL.ex rfl (ex_move (v := enc64 (((shr64 (((shr64 a0 1) &&& (6148914691236517205 : UInt64)) + (a0 &&& (6148914691236517205 : UInt64))) 2) &&& (3689348814741910323 : UInt64)) + ((((shr64 a0 1) &&& (6148914691236517205 : UInt64)) + (a0 &&& (6148914691236517205 : UInt64))) &&& (3689348814741910323 : UInt64)))) rfl) ?_
  refine WL.ex rfl (ex_bin (a := enc64 (shr64 (((shr64 (((shr64 a0 1) &&& (6148914691236517205 : UInt64)) + (a0 &&& (6148914691236517205 : UInt64))) 2) &&& (3689348814741910323 : UInt64)) + ((((shr64 a0 1) &&& (6148914691236517205 : UInt64)) + (a0 &&& (6148914691236517205 : UInt64))) &&& (3689348814741910323 : UInt64))) 4)) (b := enc64 (((shr64 (((shr64 a0 1) &&& (6148914691236517205 : UInt64)) + (a0 &&& (6148914691236517205 : UInt64))) 2) &&& (3689348814741910323 : UInt64)) + ((((shr64 a0 1) &&& (6148914691236517205 : UInt64)) + (a0 &&& (6148914691236517205 : UInt64))) &&& (3689348814741910323 : UInt64)))) (v := enc64 ((shr64 (((shr64 (((shr64 a0 1) &&& (6148914691236517205 : UInt64)) + (a0 &&& (6148914691236517205 : UInt64))) 2) &&& (3689348814741910323 : UInt64)) + ((((shr64 a0 1) &&& (6148914691236517205 : UInt64)) + (a0 &&& (6148914691236517205 : UInt64))) &&& (3689348814741910323 : UInt64))) 4) + (((shr64 (((shr64 a0 1) &&& (6148914691236517205 : UInt64)) + (a0 &&& (6148914691236517205 : UInt64))) 2) &&& (3689348814741910323 : UInt64)) + ((((shr64 a0 1) &&& (6148914691236517205 : UInt64)) + (a0 &&& (6148914691236517205 : UInt64))) &&& (3689348814741910323 : UInt64))))) rfl rfl bin_add_u64) ?_
  refine WL.ex rfl (ex_bin (a := enc64 ((shr64 (((shr64 (((shr64 a0 1) &&& (6148914691236517205 : UInt64)) + (a0 &&& (6148914691236517205 : UInt64))) 2) &&& (3689348814741910323 : UInt64)) + ((((shr64 a0 1) &&& (6148914691236517205 : UInt64)) + (a0 &&& (6148914691236517205 : UInt64))) &&& (3689348814741910323 : UInt64))) 4) + (((shr64 (((shr64 a0 1) &&& (6148914691236517205 : UInt64)) + (a0 &&& (6148914691236517205 : UInt64))) 2) &&& (3689348814741910323 : UInt64)) + ((((shr64 a0 1) &&& (6148914691236517205 : UInt64)) + (a0 &&& (6148914691236517205 : UInt64))) &&& (3689348814741910323 : UInt64))))) (b := enc64 (1085102592571150095 : UInt64)) (v := enc64 (((shr64 (((shr64 (((shr64 a0 1) &&& (6148914691236517205 : UInt64)) + (a0 &&& (6148914691236517205 : UInt64))) 2) &&& (3689348814741910323 : UInt64)) + ((((shr64 a0 1) &&& (6148914691236517205 : UInt64)) + (a0 &&& (6148914691236517205 : UInt64))) &&& (3689348814741910323 : UInt64))) 4) + (((shr64 (((shr64 a0 1) &&& (6148914691236517205 : UInt64)) + (a0 &&& (6148914691236517205 : UInt64))) 2) &&& (3689348814741910323 : UInt64)) + ((((shr64 a0 1) &&& (6148914691236517205 : UInt64)) + (a0 &&& (6148914691236517205 : UInt64))) &&& (3689348814741910323 : UInt64)))) &&& (1085102592571150095 : UInt64))) rfl rfl bin_and_u64) ?_
  refine WL.ex rfl (ex_assign (v := enc64 (((shr64 (((shr64 (((shr64 a0 1) &&& (6148914691236517205 : UInt64)) + (a0 &&& (6148914691236517205 : UInt64))) 2) &&& (3689348814741910323 : UInt64)) + ((((shr64 a0 1) &&& (6148914691236517205 : UInt64)) + (a0 &&& (6148914691236517205 : UInt64))) &&& (3689348814741910323 : UInt64))) 4) + (((shr64 (((shr64 a0 1) &&& (6148914691236517205 : UInt64)) + (a0 &&& (6148914691236517205 : UInt64))) 2) &&& (3689348814741910323 : UInt64)) + ((((shr64 a0 1) &&& (6148914691236517205 : UInt64)) + (a0 &&& (6148914691236517205 : UInt64))) &&& (3689348814741910323 : UInt64)))) &&& (1085102592571150095 : UInt64))) rfl) ?_
  refine WL.nil ?_
  refine WC.seq ?_
  refine WC.region ?_
  refine WL.ex rfl (ex_move (v := enc64 (((shr64 (((shr64 (((shr64 a0 1) &&& (6148914691236517205 : UInt64)) + (a0 &&& (6148914691236517205 : UInt64))) 2) &&& (3689348814741910323 : UInt64)) + ((((shr64 a0 1) &&& (6148914691236517205 : UInt64)) + (a0 &&& (6148914691236517205 : UInt64))) &&& (3689348814741910323 : UInt64))) 4) + (((shr64 (((shr64 a0 1) &&& (6148914691236517205 : UInt64)) + (a0 &&& (6148914691236517205 : UInt64))) 2) &&& (3689348814741910323 : UInt64)) + ((((shr64 a0 1) &&& (6148914691236517205 : UInt64)) + (a0 &&& (6148914691236517205 : UInt64))) &&& (3689348814741910323 : UInt64)))) &&& (1085102592571150095 : UInt64))) rfl) ?_
  refine WL.ex rfl (ex_move (v := enc64 (((shr64 (((shr64 (((shr64 a0 1) &&& (6148914691236517205 : UInt64)) + (a0 &&& (6148914691236517205 : UInt64))) 2) &&& (3689348814741910323 : UInt64)) + ((((shr64 a0 1) &&& (6148914691236517205 : UInt64)) + (a0 &&& (6148914691236517205 : UInt64))) &&& (3689348814741910323 : UInt64))) 4) + (((shr64 (((shr64 a0 1) &&& (6148914691236517205 : UInt64)) + (a0 &&& (6148914691236517205 : UInt64))) 2) &&& (3689348814741910323 : UInt64)) + ((((shr64 a0 1) &&& (6148914691236517205 : UInt64)) + (a0 &&& (6148914691236517205 : UInt64))) &&& (3689348814741910323 : UInt64)))) &&& (1085102592571150095 : UInt64))) rfl) ?_
  refine WL.ex rfl (ex_bin (a := enc64 (((shr64 (((shr64 (((shr64 a0 1) &&& (6148914691236517205 : UInt64)) + (a0 &&& (6148914691236517205 : UInt64))) 2) &&& (3689348814741910323 : UInt64)) + ((((shr64 a0 1) &&& (6148914691236517205 : UInt64)) + (a0 &&& (6148914691236517205 : UInt64))) &&& (3689348814741910323 : UInt64))) 4) + (((shr64 (((shr64 a0 1) &&& (6148914691236517205 : UInt64)) + (a0 &&& (6148914691236517205 : UInt64))) 2) &&& (3689348814741910323 : UInt64)) + ((((shr64 a0 1) &&& (6148914691236517205 : UInt64)) + (a0 &&& (6148914691236517205 : UInt64))) &&& (3689348814741910323 : UInt64)))) &&& (1085102592571150095 : UInt64))) (b := enc64 (8 : UInt64)) (v := enc64 (shr64 (((shr64 (((shr64 (((shr64 a0 1) &&& (6148914691236517205 : UInt64)) + (a0 &&& (6148914691236517205 : UInt64))) 2) &&& (3689348814741910323 : UInt64)) + ((((shr64 a0 1) &&& (6148914691236517205 : UInt64)) + (a0 &&& (6148914691236517205 : UInt64))) &&& (3689348814741910323 : UInt64))) 4) + (((shr64 (((shr64 a0 1) &&& (6148914691236517205 : UInt64)) + (a0 &&& (6148914691236517205 : UInt64))) 2) &&& (3689348814741910323 : UInt64)) + ((((shr64 a0 1) &&& (6148914691236517205 : UInt64)) + (a0 &&& (6148914691236517205 : UInt64))) &&& (3689348814741910323 : UInt64)))) &&& (1085102592571150095 : UInt64)) 8)) rfl rfl (bin_shr_u64n (n := 8))) ?_
  refine WL.ex rfl (ex_bin (a := enc64 (((shr64 (((shr64 (((shr64 a0 1) &&& (6148914691236517205 : UInt64)) + (a0 &&& (6148914691236517205 : UInt64))) 2) &&& (3689348814741910323 : UInt64)) + ((((shr64 a0 1) &&& (6148914691236517205 : UInt64)) + (a0 &&& (6148914691236517205 : UInt64))) &&& (3689348814741910323 : UInt64))) 4) + (((shr64 (((shr64 a0 1) &&& (6148914691236517205 : UInt64)) + (a0 &&& (6148914691236517205 : UInt64))) 2) &&& (3689348814741910323 : UInt64)) + ((((shr64 a0 1) &&& (6148914691236517205 : UInt64)) + (a0 &&& (6148914691236517205 : UInt64))) &&& (3689348814741910323 : UInt64)))) &&& (1085102592571150095 : UInt64))) (b := enc64 (shr64 (((shr64 (((shr64 (((shr64 a0 1) &&& (6148914691236517205 : UInt64)) + (a0 &&& (6148914691236517205 : UInt64))) 2) &&& (3689348814741910323 : UInt64)) + ((((shr64 a0 1) &&& (6148914691236517205 : UInt64)) + (a0 &&& (6148914691236517205 : UInt64))) &&& (3689348814741910323 : UInt64))) 4) + (((shr64 (((shr64 a0 1) &&& (6148914691236517205 : UInt64)) + (a0 &&& (6148914691236517205 : UInt64))) 2) &&& (3689348814741910323 : UInt64)) + ((((shr64 a0 1) &&& (6148914691236517205 : UInt64)) + (a0 &&& (6148914691236517205 : UInt64))) &&& (3689348814741910323 : UInt64)))) &&& (1085102592571150095 : UInt64)) 8)) (v := enc64 ((((shr64 (((shr64 (((shr64 a0 1) &&& (6148914691236517205 : UInt64)) + (a0 &&& (6148914691236517205 : UInt64))) 2) &&& (3689348814741910323 : UInt64)) + ((((shr64 a0 1) &&& (6148914691236517205 : UInt64)) + (a0 &&& (6148914691236517205 : UInt64))) &&& (3689348814741910323 : UInt64))) 4) + (((shr64 (((shr64 a0 1) &&& (6148914691236517205 : UInt64)) + (a0 &&& (6148914691236517205 : UInt64))) 2) &&& (3689348814741910323 : UInt64)) + ((((shr64 a0 1) &&& (6148914691236517205 : UInt64)) + (a0 &&& (6148914691236517205 : UInt64))) &&& (3689348814741910323 : UInt64)))) &&& (1085102592571150095 : UInt64)) + (shr64 (((shr64 (((shr64 (((shr64 a0 1) &&& (6148914691236517205 : UInt64)) + (a0 &&& (6148914691236517205 : UInt64))) 2) &&& (3689348814741910323 : UInt64)) + ((((shr64 a0 1) &&& (6148914691236517205 : UInt64)) + (a0 &&& (6148914691236517205 : UInt64))) &&& (3689348814741910323 : UInt64))) 4) + (((shr64 (((shr64 a0 1) &&& (6148914691236517205 : UInt64)) + (a0 &&& (6148914691236517205 : UInt64))) 2) &&& (3689348814741910323 : UInt64)) + ((((shr64 a0 1) &&& (6148914691236517205 : UInt64)) + (a0 &&& (6148914691236517205 : UInt64))) &&& (3689348814741910323 : UInt64)))) &&& (1085102592571150095 : UInt64)) 8))) rfl rfl bin_add_u64) ?_
  refine WL.ex rfl (ex_assign (v := enc64 ((((shr64 (((shr64 (((shr64 a0 1) &&& (6148914691236517205 : UInt64)) + (a0 &&& (6148914691236517205 : UInt64))) 2) &&& (3689348814741910323 : UInt64)) + ((((shr64 a0 1) &&& (6148914691236517205 : UInt64)) + (a0 &&& (6148914691236517205 : UInt64))) &&& (3689348814741910323 : UInt64))) 4) + (((shr64 (((shr64 a0 1) &&& (6148914691236517205 : UInt64)) + (a0 &&& (6148914691236517205 : UInt64))) 2) &&& (3689348814741910323 : UInt64)) + ((((shr64 a0 1) &&& (6148914691236517205 : UInt64)) + (a0 &&& (6148914691236517205 : UInt64))) &&& (3689348814741910323 : UInt64)))) &&& (1085102592571150095 : UInt64)) + (shr64 (((shr64 (((shr64 (((shr64 a0 1) &&& (6148914691236517205 : UInt64)) + (a0 &&& (6148914691236517205 : UInt64))) 2) &&& (3689348814741910323 : UInt64)) + ((((shr64 a0 1) &&& (6148914691236517205 : UInt64)) + (a0 &&& (6148914691236517205 : UInt64))) &&& (3689348814741910323 : UInt64))) 4) + (((shr64 (((shr64 a0 1) &&& (6148914691236517205 : UInt64)) + (a0 &&& (6148914691236517205 : UInt64))) 2) &&& (3689348814741910323 : UInt64)) + ((((shr64 a0 1) &&& (6148914691236517205 : UInt64)) + (a0 &&& (6148914691236517205 : UInt64))) &&& (3689348814741910323 : UInt64)))) &&& (1085102592571150095 : UInt64)) 8))) rfl) ?_
  refine WL.nil ?_
  refine WC.seq ?_
  refine WC.region ?_
  refine WL.ex rfl (ex_move (v := enc64 ((((shr64 (((shr64 (((shr64 a0 1) &&& (6148914691236517205 : UInt64)) + (a0 &&& (6148914691236517205 : UInt64))) 2) &&& (3689348814741910323 : UInt64)) + ((((shr64 a0 1) &&& (6148914691236517205 : UInt64)) + (a0 &&& (6148914691236517205 : UInt64))) &&& (3689348814741910323 : UInt64))) 4) + (((shr64 (((shr64 a0 1) &&& (6148914691236517205 : UInt64)) + (a0 &&& (6148914691236517205 : UInt64))) 2) &&& (3689348814741910323 : UInt64)) + ((((shr64 a0 1) &&& (6148914691236517205 : UInt64)) + (a0 &&& (6148914691236517205 : UInt64))) &&& (3689348814741910323 : UInt64)))) &&& (1085102592571150095 : UInt64)) + (shr64 (((shr64 (((shr64 (((shr64 a0 1) &&& (6148914691236517205 : UInt64)) + (a0 &&& (6148914691236517205 : UInt64))) 2) &&& (3689348814741910323 : UInt64)) + ((((shr64 a0 1) &&& (6148914691236517205 : UInt64)) + (a0 &&& (6148914691236517205 : UInt64))) &&& (3689348814741910323 : UInt64))) 4) + (((shr64 (((shr64 a0 1) &&& (6148914691236517205 : UInt64)) + (a0 &&& (6148914691236517205 : UInt64))) 2) &&& (3689348814741910323 : UInt64)) + ((((shr64 a0 1) &&& (6148914691236517205 : UInt64)) + (a0 &&& (6148914691236517205 : UInt64))) &&& (3689348814741910323 : UInt64)))) &&& (1085102592571150095 : UInt64)) 8))) rfl) ?_
  refine WL.ex rfl (ex_move (v := enc64 ((((shr64 (((shr64 (((shr64 a0 1) &&& (6148914691236517205 : UInt64)) + (a0 &&& (6148914691236517205 : UInt64))) 2) &&& (3689348814741910323 : UInt64)) + ((((shr64 a0 1) &&& (6148914691236517205 : UInt64)) + (a0 &&& (6148914691236517205 : UInt64))) &&& (3689348814741910323 : UInt64))) 4) + (((shr64 (((shr64 a0 1) &&& (6148914691236517205 : UInt64)) + (a0 &&& (6148914691236517205 : UInt64))) 2) &&& (3689348814741910323 : UInt64)) + ((((shr64 a0 1) &&& (6148914691236517205 : UInt64)) + (a0 &&& (6148914691236517205 : UInt64))) &&& (3689348814741910323 : UInt64)))) &&& (1085102592571150095 : UInt64)) + (shr64 (((shr64 (((shr64 (((shr64 a0 1) &&& (6148914691236517205 : UInt64)) + (a0 &&& (6148914691236517205 : UInt64))) 2) &&& (3689348814741910323 : UInt64)) + ((((shr64 a0 1) &&& (6148914691236517205 : UInt64)) + (a0 &&& (6148914691236517205 : UInt64))) &&& (3689348814741910323 : UInt64))) 4) + (((shr64 (((shr64 a0 1) &&& (6148914691236517205 : UInt64)) + (a0 &&& (6148914691236517205 : UInt64))) 2) &&& (3689348814741910323 : UInt64)) + ((((shr64 a0 1) &&& (6148914691236517205 : UInt64)) + (a0 &&& (6148914691236517205 : UInt64))) &&& (3689348814741910323 : UInt64)))) &&& (1085102592571150095 : UInt64)) 8))) rfl) ?_
  refine WL.ex rfl (ex_bin (a := enc64 ((((shr64 (((shr64 (((shr64 a0 1) &&& (6148914691236517205 : UInt64)) + (a0 &&& (6148914691236517205 : UInt64))) 2) &&& (3689348814741910323 : UInt64)) + ((((shr64 a0 1) &&& (6148914691236517205 : UInt64)) + (a0 &&& (6148914691236517205 : UInt64))) &&& (3689348814741910323 : UInt64))) 4) + (((shr64 (((shr64 a0 1) &&& (6148914691236517205 : UInt64)) + (a0 &&& (6148914691236517205 : UInt64))) 2) &&& (3689348814741910323 : UInt64)) + ((((shr64 a0 1) &&& (6148914691236517205 : UInt64)) + (a0 &&& (6148914691236517205 : UInt64))) &&& (3689348814741910323 : UInt64)))) &&& (1085102592571150095 : UInt64)) + (shr64 (((shr64 (((shr64 (((shr64 a0 1) &&& (6148914691236517205 : UInt64)) + (a0 &&& (6148914691236517205 : UInt64))) 2) &&& (3689348814741910323 : UInt64)) + ((((shr64 a0 1) &&& (6148914691236517205 : UInt64)) + (a0 &&& (6148914691236517205 : UInt64))) &&& (3689348814741910323 : UInt64))) 4) + (((shr64 (((shr64 a0 1) &&& (6148914691236517205 : UInt64)) + (a0 &&& (6148914691236517205 : UInt64))) 2) &&& (3689348814741910323 : UInt64)) + ((((shr64 a0 1) &&& (6148914691236517205 : UInt64)) + (a0 &&& (6148914691236517205 : UInt64))) &&& (3689348814741910323 : UInt64)))) &&& (1085102592571150095 : UInt64)) 8))) (b := enc64 (16 : UInt64)) (v := enc64 (shr64 ((((shr64 (((shr64 (((shr64 a0 1) &&& (6148914691236517205 : UInt64)) + (a0 &&& (6148914691236517205 : UInt64))) 2) &&& (3689348814741910323 : UInt64)) + ((((shr64 a0 1) &&& (6148914691236517205 : UInt64)) + (a0 &&& (6148914691236517205 : UInt64))) &&& (3689348814741910323 : UInt64))) 4) + (((shr64 (((shr64 a0 1) &&& (6148914691236517205 : UInt64)) + (a0 &&& (6148914691236517205 : UInt64))) 2) &&& (3689348814741910323 : UInt64)) + ((((shr64 a0 1) &&& (6148914691236517205 : UInt64)) + (a0 &&& (6148914691236517205 : UInt64))) &&& (3689348814741910323 : UInt64)))) &&& (1085102592571150095 : UInt64)) + (shr64 (((shr64 (((shr64 (((shr64 a0 1) &&& (6148914691236517205 : UInt64)) + (a0 &&& (6148914691236517205 : UInt64))) 2) &&& (3689348814741910323 : UInt64)) + ((((shr64 a0 1) &&& (6148914691236517205 : UInt64)) + (a0 &&& (6148914691236517205 : UInt64))) &&& (3689348814741910323 : UInt64))) 4) + (((shr64 (((shr64 a0 1) &&& (6148914691236517205 : UInt64)) + (a0 &&& (6148914691236517205 : UInt64))) 2) &&& (3689348814741910323 : UInt64)) + ((((shr64 a0 1) &&& (6148914691236517205 : UInt64)) + (a0 &&& (6148914691236517205 : UInt64))) &&& (3689348814741910323 : UInt64)))) &&& (1085102592571150095 : UInt64)) 8)) 16)) rfl rfl (bin_shr_u64n (n := 16))) ?_
  refine WL.ex rfl (ex_bin (a := enc64 ((((shr64 (((shr64 (((shr64 a0 1) &&& (6148914691236517205 : UInt64)) + (a0 &&& (6148914691236517205 : UInt64))) 2) &&& (3689348814741910323 : UInt64)) + ((((shr64 a0 1) &&& (6148914691236517205 : UInt64)) + (a0 &&& (6148914691236517205 : UInt64))) &&& (3689348814741910323 : UInt64))) 4) + (((shr64 (((shr64 a0 1) &&& (6148914691236517205 : UInt64)) + (a0 &&& (6148914691236517205 : UInt64))) 2) &&& (3689348814741910323 : UInt64)) + ((((shr64 a0 1) &&& (6148914691236517205 : UInt64)) + (a0 &&& (6148914691236517205 : UInt64))) &&& (3689348814741910323 : UInt64)))) &&& (1085102592571150095 : UInt64)) + (shr64 (((shr64 (((shr64 (((shr64 a0 1) &&& (6148914691236517205 : UInt64)) + (a0 &&& (6148914691236517205 : UInt64))) 2) &&& (3689348814741910323 : UInt64)) + ((((shr64 a0 1) &&& (6148914691236517205 : UInt64)) + (a0 &&& (6148914691236517205 : UInt64))) &&& (3689348814741910323 : UInt64))) 4) + (((shr64 (((shr64 a0 1) &&& (6148914691236517205 : UInt64)) + (a0 &&& (6148914691236517205 : UInt64))) 2) &&& (3689348814741910323 : UInt64)) + ((((shr64 a0 1) &&& (6148914691236517205 : UInt64)) + (a0 &&& (6148914691236517205 : UInt64))) &&& (3689348814741910323 : UInt64)))) &&& (1085102592571150095 : UInt64)) 8))) (b := enc64 (shr64 ((((shr64 (((shr64 (((shr64 a0 1) &&& (6148914691236517205 : UInt64)) + (a0 &&& (6148914691236517205 : UInt64))) 2) &&& (3689348814741910323 : UInt64)) + ((((shr64 a0 1) &&& (6148914691236517205 : UInt64)) + (a0 &&& (6148914691236517205 : UInt64))) &&& (3689348814741910323 : UInt64))) 4) + (((shr64 (((shr64 a0 1) &&& (6148914691236517205 : UInt64)) + (a0 &&& (6148914691236517205 : UInt64))) 2) &&& (3689348814741910323 : UInt64)) + ((((shr64 a0 1) &&& (6148914691236517205 : UInt64)) + (a0 &&& (6148914691236517205 : UInt64))) &&& (3689348814741910323 : UInt64)))) &&& (1085102592571150095 : UInt64)) + (shr64 (((shr64 (((shr64 (((shr64 a0 1) &&& (6148914691236517205 : UInt64)) + (a0 &&& (6148914691236517205 : UInt64))) 2) &&& (3689348814741910323 : UInt64)) + ((((shr64 a0 1) &&& (6148914691236517205 : UInt64)) + (a0 &&& (6148914691236517205 : UInt64))) &&& (3689348814741910323 : UInt64))) 4) + (((shr64 (((shr64 a0 1) &&& (6148914691236517205 : UInt64)) + (a0 &&& (6148914691236517205 : UInt64))) 2) &&& (3689348814741910323 : UInt64)) + ((((shr64 a0 1) &&& (6148914691236517205 : UInt64)) + (a0 &&& (6148914691236517205 : UInt64))) &&& (3689348814741910323 : UInt64)))) &&& (1085102592571150095 : UInt64)) 8)) 16)) (v := enc64 (((((shr64 (((shr64 (((shr64 a0 1) &&& (6148914691236517205 : UInt64)) + (a0 &&& (6148914691236517205 : UInt64))) 2) &&& (3689348814741910323 : UInt64)) + ((((shr64 a0 1) &&& (6148914691236517205 : UInt64)) + (a0 &&& (6148914691236517205 : UInt64))) &&& (3689348814741910323 : UInt64))) 4) + (((shr64 (((shr64 a0 1) &&& (6148914691236517205 : UInt64)) + (a0 &&& (6148914691236517205 : UInt64))) 2) &&& (3689348814741910323 : UInt64)) + ((((shr64 a0 1) &&& (6148914691236517205 : UInt64)) + (a0 &&& (6148914691236517205 : UInt64))) &&& (3689348814741910323 : UInt64)))) &&& (1085102592571150095 : UInt64)) + (shr64 (((shr64 (((shr64 (((shr64 a0 1) &&& (6148914691236517205 : UInt64)) + (a0 &&& (6148914691236517205 : UInt64))) 2) &&& (3689348814741910323 : UInt64)) + ((((shr64 a0 1) &&& (6148914691236517205 : UInt64)) + (a0 &&& (6148914691236517205 : UInt64))) &&& (3689348814741910323 : UInt64))) 4) + (((shr64 (((shr64 a0 1) &&& (6148914691236517205 : UInt64)) + (a0 &&& (6148914691236517205 : UInt64))) 2) &&& (3689348814741910323 : UInt64)) + ((((shr64 a0 1) &&& (6148914691236517205 : UInt64)) + (a0 &&& (6148914691236517205 : UInt64))) &&& (3689348814741910323 : UInt64)))) &&& (1085102592571150095 : UInt64)) 8)) + (shr64 ((((shr64 (((shr64 (((shr64 a0 1) &&& (6148914691236517205 : UInt64)) + (a0 &&& (6148914691236517205 : UInt64))) 2) &&& (3689348814741910323 : UInt64)) + ((((shr64 a0 1) &&& (6148914691236517205 : UInt64)) + (a0 &&& (6148914691236517205 : UInt64))) &&& (3689348814741910323 : UInt64))) 4) + (((shr64 (((shr64 a0 1) &&& (6148914691236517205 : UInt64)) + (a0 &&& (6148914691236517205 : UInt64))) 2) &&& (3689348814741910323 : UInt64)) + ((((shr64 a0 1) &&& (6148914691236517205 : UInt64)) + (a0 &&& (6148914691236517205 : UInt64))) &&& (3689348814741910323 : UInt64)))) &&& (1085102592571150095 : UInt64)) + (shr64 (((shr64 (((shr64 (((shr64 a0 1) &&& (6148914691236517205 : UInt64)) + (a0 &&& (6148914691236517205 : UInt64))) 2) &&& (3689348814741910323 : UInt64)) + ((((shr64 a0 1) &&& (6148914691236517205 : UInt64)) + (a0 &&& (6148914691236517205 : UInt64))) &&& (3689348814741910323 : UInt64))) 4) + (((shr64 (((shr64 a0 1) &&& (6148914691236517205 : UInt64)) + (a0 &&& (6148914691236517205 : UInt64))) 2) &&& (3689348814741910323 : UInt64)) + ((((shr64 a0 1) &&& (6148914691236517205 : UInt64)) + (a0 &&& (6148914691236517205 : UInt64))) &&& (3689348814741910323 : UInt64)))) &&& (1085102592571150095 : UInt64)) 8)) 16))) rfl rfl bin_add_u64) ?_
  refine WL.ex rfl (ex_assign (v := enc64 (((((shr64 (((shr64 (((shr64 a0 1) &&& (6148914691236517205 : UInt64)) + (a0 &&& (6148914691236517205 : UInt64))) 2) &&& (3689348814741910323 : UInt64)) + ((((shr64 a0 1) &&& (6148914691236517205 : UInt64)) + (a0 &&& (6148914691236517205 : UInt64))) &&& (3689348814741910323 : UInt64))) 4) + (((shr64 (((shr64 a0 1) &&& (6148914691236517205 : UInt64)) + (a0 &&& (6148914691236517205 : UInt64))) 2) &&& (3689348814741910323 : UInt64)) + ((((shr64 a0 1) &&& (6148914691236517205 : UInt64)) + (a0 &&& (6148914691236517205 : UInt64))) &&& (3689348814741910323 : UInt64)))) &&& (1085102592571150095 : UInt64)) + (shr64 (((shr64 (((shr64 (((shr64 a0 1) &&& (6148914691236517205 : UInt64)) + (a0 &&& (6148914691236517205 : UInt64))) 2) &&& (3689348814741910323 : UInt64)) + ((((shr64 a0 1) &&& (6148914691236517205 : UInt64)) + (a0 &&& (6148914691236517205 : UInt64))) &&& (3689348814741910323 : UInt64))) 4) + (((shr64 (((shr64 a0 1) &&& (6148914691236517205 : UInt64)) + (a0 &&& (6148914691236517205 : UInt64))) 2) &&& (3689348814741910323 : UInt64)) + ((((shr64 a0 1) &&& (6148914691236517205 : UInt64)) + (a0 &&& (6148914691236517205 : UInt64))) &&& (3689348814741910323 : UInt64)))) &&& (1085102592571150095 : UInt64)) 8)) + (shr64 ((((shr64 (((shr64 (((shr64 a0 1) &&& (6148914691236517205 : UInt64)) + (a0 &&& (6148914691236517205 : UInt64))) 2) &&& (3689348814741910323 : UInt64)) + ((((shr64 a0 1) &&& (6148914691236517205 : UInt64)) + (a0 &&& (6148914691236517205 : UInt64))) &&& (3689348814741910323 : UInt64))) 4) + (((shr64 (((shr64 a0 1) &&& (6148914691236517205 : UInt64)) + (a0 &&& (6148914691236517205 : UInt64))) 2) &&& (3689348814741910323 : UInt64)) + ((((shr64 a0 1) &&& (6148914691236517205 : UInt64)) + (a0 &&& (6148914691236517205 : UInt64))) &&& (3689348814741910323 : UInt64)))) &&& (1085102592571150095 : UInt64)) + (shr64 (((shr64 (((shr64 (((shr64 a0 1) &&& (6148914691236517205 : UInt64)) + (a0 &&& (6148914691236517205 : UInt64))) 2) &&& (3689348814741910323 : UInt64)) + ((((shr64 a0 1) &&& (6148914691236517205 : UInt64)) + (a0 &&& (6148914691236517205 : UInt64))) &&& (3689348814741910323 : UInt64))) 4) + (((shr64 (((shr64 a0 1) &&& (6148914691236517205 : UInt64)) + (a0 &&& (6148914691236517205 : UInt64))) 2) &&& (3689348814741910323 : UInt64)) + ((((shr64 a0 1) &&& (6148914691236517205 : UInt64)) + (a0 &&& (6148914691236517205 : UInt64))) &&& (3689348814741910323 : UInt64)))) &&& (1085102592571150095 : UInt64)) 8)) 16))) rfl) ?_
  refine WL.nil ?_
  refine WC.seq ?_
  refine WC.region ?_
  refine WL.ex rfl (ex_move (v := enc64 (((((shr64 (((shr64 (((shr64 a0 1) &&& (6148914691236517205 : UInt64)) + (a0 &&& (6148914691236517205 : UInt64))) 2) &&& (3689348814741910323 : UInt64)) + ((((shr64 a0 1) &&& (6148914691236517205 : UInt64)) + (a0 &&& (6148914691236517205 : UInt64))) &&& (3689348814741910323 : UInt64))) 4) + (((shr64 (((shr64 a0 1) &&& (6148914691236517205 : UInt64)) + (a0 &&& (6148914691236517205 : UInt64))) 2) &&& (3689348814741910323 : UInt64)) + ((((shr64 a0 1) &&& (6148914691236517205 : UInt64)) + (a0 &&& (6148914691236517205 : UInt64))) &&& (3689348814741910323 : UInt64)))) &&& (1085102592571150095 : UInt64)) + (shr64 (((shr64 (((shr64 (((shr64 a0 1) &&& (6148914691236517205 : UInt64)) + (a0 &&& (6148914691236517205 : UInt64))) 2) &&& (3689348814741910323 : UInt64)) + ((((shr64 a0 1) &&& (6148914691236517205 : UInt64)) + (a0 &&& (6148914691236517205 : UInt64))) &&& (3689348814741910323 : UInt64))) 4) + (((shr64 (((shr64 a0 1) &&& (6148914691236517205 : UInt64)) + (a0 &&& (6148914691236517205 : UInt64))) 2) &&& (3689348814741910323 : UInt64)) + ((((shr64 a0 1) &&& (6148914691236517205 : UInt64)) + (a0 &&& (6148914691236517205 : UInt64))) &&& (3689348814741910323 : UInt64)))) &&& (1085102592571150095 : UInt64)) 8)) + (shr64 ((((shr64 (((shr64 (((shr64 a0 1) &&& (6148914691236517205 : UInt64)) + (a0 &&& (6148914691236517205 : UInt64))) 2) &&& (3689348814741910323 : UInt64)) + ((((shr64 a0 1) &&& (6148914691236517205 : UInt64)) + (a0 &&& (6148914691236517205 : UInt64))) &&& (3689348814741910323 : UInt64))) 4) + (((shr64 (((shr64 a0 1) &&& (6148914691236517205 : UInt64)) + (a0 &&& (6148914691236517205 : UInt64))) 2) &&& (3689348814741910323 : UInt64)) + ((((shr64 a0 1) &&& (6148914691236517205 : UInt64)) + (a0 &&& (6148914691236517205 : UInt64))) &&& (3689348814741910323 : UInt64)))) &&& (1085102592571150095 : UInt64)) + (shr64 (((shr64 (((shr64 (((shr64 a0 1) &&& (6148914691236517205 : UInt64)) + (a0 &&& (6148914691236517205 : UInt64))) 2) &&& (3689348814741910323 : UInt64)) + ((((shr64 a0 1) &&& (6148914691236517205 : UInt64)) + (a0 &&& (6148914691236517205 : UInt64))) &&& (3689348814741910323 : UInt64))) 4) + (((shr64 (((shr64 a0 1) &&& (6148914691236517205 : UInt64)) + (a0 &&& (6148914691236517205 : UInt64))) 2) &&& (3689348814741910323 : UInt64)) + ((((shr64 a0 1) &&& (6148914691236517205 : UInt64)) + (a0 &&& (6148914691236517205 : UInt64))) &&& (3689348814741910323 : UInt64)))) &&& (1085102592571150095 : UInt64)) 8)) 16))) rfl) ?_
  refine WL.ex rfl (ex_move (v := enc64 (((((shr64 (((shr64 (((shr64 a0 1) &&& (6148914691236517205 : UInt64)) + (a0 &&& (6148914691236517205 : UInt64))) 2) &&& (3689348814741910323 : UInt64)) + ((((shr64 a0 1) &&& (6148914691236517205 : UInt64)) + (a0 &&& (6148914691236517205 : UInt64))) &&& (3689348814741910323 : UInt64))) 4) + (((shr64 (((shr64 a0 1) &&& (6148914691236517205 : UInt64)) + (a0 &&& (6148914691236517205 : UInt64))) 2) &&& (3689348814741910323 : UInt64)) + ((((shr64 a0 1) &&& (6148914691236517205 : UInt64)) + (a0 &&& (6148914691236517205 : UInt64))) &&& (3689348814741910323 : UInt64)))) &&& (1085102592571150095 : UInt64)) + (shr64 (((shr64 (((shr64 (((shr64 a0 1) &&& (6148914691236517205 : UInt64)) + (a0 &&& (6148914691236517205 : UInt64))) 2) &&& (3689348814741910323 : UInt64)) + ((((shr64 a0 1) &&& (6148914691236517205 : UInt64)) + (a0 &&& (6148914691236517205 : UInt64))) &&& (3689348814741910323 : UInt64))) 4) + (((shr64 (((shr64 a0 1) &&& (6148914691236517205 : UInt64)) + (a0 &&& (6148914691236517205 : UInt64))) 2) &&& (3689348814741910323 : UInt64)) + ((((shr64 a0 1) &&& (6148914691236517205 : UInt64)) + (a0 &&& (6148914691236517205 : UInt64))) &&& (3689348814741910323 : UInt64)))) &&& (1085102592571150095 : UInt64)) 8)) + (shr64 ((((shr64 (((shr64 (((shr64 a0 1) &&& (6148914691236517205 : UInt64)) + (a0 &&& (6148914691236517205 : UInt64))) 2) &&& (3689348814741910323 : UInt64)) + ((((shr64 a0 1) &&& (6148914691236517205 : UInt64)) + (a0 &&& (6148914691236517205 : UInt64))) &&& (3689348814741910323 : UInt64))) 4) + (((shr64 (((shr64 a0 1) &&& (6148914691236517205 : UInt64)) + (a0 &&& (6148914691236517205 : UInt64))) 2) &&& (3689348814741910323 : UInt64)) + ((((shr64 a0 1) &&& (6148914691236517205 : UInt64)) + (a0 &&& (6148914691236517205 : UInt64))) &&& (3689348814741910323 : UInt64)))) &&& (1085102592571150095 : UInt64)) + (shr64 (((shr64 (((shr64 (((shr64 a0 1) &&& (6148914691236517205 : UInt64)) + (a0 &&& (6148914691236517205 : UInt64))) 2) &&& (3689348814741910323 : UInt64)) + ((((shr64 a0 1) &&& (6148914691236517205 : UInt64)) + (a0 &&& (6148914691236517205 : UInt64))) &&& (3689348814741910323 : UInt64))) 4) + (((shr64 (((shr64 a0 1) &&& (6148914691236517205 : UInt64)) + (a0 &&& (6148914691236517205 : UInt64))) 2) &&& (3689348814741910323 : UInt64)) + ((((shr64 a0 1) &&& (6148914691236517205 : UInt64)) + (a0 &&& (6148914691236517205 : UInt64))) &&& (3689348814741910323 : UInt64)))) &&& (1085102592571150095 : UInt64)) 8)) 16))) rfl) ?_
  refine WL.ex rfl (ex_bin (a := enc64 (((((shr64 (((shr64 (((shr64 a0 1) &&& (6148914691236517205 : UInt64)) + (a0 &&& (6148914691236517205 : UInt64))) 2) &&& (3689348814741910323 : UInt64)) + ((((shr64 a0 1) &&& (6148914691236517205 : UInt64)) + (a0 &&& (6148914691236517205 : UInt64))) &&& (3689348814741910323 : UInt64))) 4) + (((shr64 (((shr64 a0 1) &&& (6148914691236517205 : UInt64)) + (a0 &&& (6148914691236517205 : UInt64))) 2) &&& (3689348814741910323 : UInt64)) + ((((shr64 a0 1) &&& (6148914691236517205 : UInt64)) + (a0 &&& (6148914691236517205 : UInt64))) &&& (3689348814741910323 : UInt64)))) &&& (1085102592571150095 : UInt64)) + (shr64 (((shr64 (((shr64 (((shr64 a0 1) &&& (6148914691236517205 : UInt64)) + (a0 &&& (6148914691236517205 : UInt64))) 2) &&& (3689348814741910323 : UInt64)) + ((((shr64 a0 1) &&& (6148914691236517205 : UInt64)) + (a0 &&& (6148914691236517205 : UInt64))) &&& (3689348814741910323 : UInt64))) 4) + (((shr64 (((shr64 a0 1) &&& (6148914691236517205 : UInt64)) + (a0 &&& (6148914691236517205 : UInt64))) 2) &&& (3689348814741910323 : UInt64)) + ((((shr64 a0 1) &&& (6148914691236517205 : UInt64)) + (a0 &&& (6148914691236517205 : UInt64))) &&& (3689348814741910323 : UInt64)))) &&& (1085102592571150095 : UInt64)) 8)) + (shr64 ((((shr64 (((shr64 (((shr64 a0 1) &&& (6148914691236517205 : UInt64)) + (a0 &&& (6148914691236517205 : UInt64))) 2) &&& (3689348814741910323 : UInt64)) + ((((shr64 a0 1) &&& (6148914691236517205 : UInt64)) + (a0 &&& (6148914691236517205 : UInt64))) &&& (3689348814741910323 : UInt64))) 4) + (((shr64 (((shr64 a0 1) &&& (6148914691236517205 : UInt64)) + (a0 &&& (6148914691236517205 : UInt64))) 2) &&& (3689348814741910323 : UInt64)) + ((((shr64 a0 1) &&& (6148914691236517205 : UInt64)) + (a0 &&& (6148914691236517205 : UInt64))) &&& (3689348814741910323 : UInt64)))) &&& (1085102592571150095 : UInt64)) + (shr64 (((shr64 (((shr64 (((shr64 a0 1) &&& (6148914691236517205 : UInt64)) + (a0 &&& (6148914691236517205 : UInt64))) 2) &&& (3689348814741910323 : UInt64)) + ((((shr64 a0 1) &&& (6148914691236517205 : UInt64)) + (a0 &&& (6148914691236517205 : UInt64))) &&& (3689348814741910323 : UInt64))) 4) + (((shr64 (((shr64 a0 1) &&& (6148914691236517205 : UInt64)) + (a0 &&& (6148914691236517205 : UInt64))) 2) &&& (3689348814741910323 : UInt64)) + ((((shr64 a0 1) &&& (6148914691236517205 : UInt64)) + (a0 &&& (6148914691236517205 : UInt64))) &&& (3689348814741910323 : UInt64)))) &&& (1085102592571150095 : UInt64)) 8)) 16))) (b := enc64 (32 : UInt64)) (v := enc64 (shr64 (((((shr64 (((shr64 (((shr64 a0 1) &&& (6148914691236517205 : UInt64)) + (a0 &&& (6148914691236517205 : UInt64))) 2) &&& (3689348814741910323 : UInt64)) + ((((shr64 a0 1) &&& (6148914691236517205 : UInt64)) + (a0 &&& (6148914691236517205 : UInt64))) &&& (3689348814741910323 : UInt64))) 4) + (((shr64 (((shr64 a0 1) &&& (6148914691236517205 : UInt64)) + (a0 &&& (6148914691236517205 : UInt64))) 2) &&& (3689348814741910323 : UInt64)) + ((((shr64 a0 1) &&& (6148914691236517205 : UInt64)) + (a0 &&& (6148914691236517205 : UInt64))) &&& (3689348814741910323 : UInt64)))) &&& (1085102592571150095 : UInt64)) + (shr64 (((shr64 (((shr64 (((shr64 a0 1) &&& (6148914691236517205 : UInt64)) + (a0 &&& (6148914691236517205 : UInt64))) 2) &&& (3689348814741910323 : UInt64)) + ((((shr64 a0 1) &&& (6148914691236517205 : UInt64)) + (a0 &&& (6148914691236517205 : UInt64))) &&& (3689348814741910323 : UInt64))) 4) + (((shr64 (((shr64 a0 1) &&& (6148914691236517205 : UInt64)) + (a0 &&& (6148914691236517205 : UInt64))) 2) &&& (3689348814741910323 : UInt64)) + ((((shr64 a0 1) &&& (6148914691236517205 : UInt64)) + (a0 &&& (6148914691236517205 : UInt64))) &&& (3689348814741910323 : UInt64)))) &&& (1085102592571150095 : UInt64)) 8)) + (shr64 ((((shr64 (((shr64 (((shr64 a0 1) &&& (6148914691236517205 : UInt64)) + (a0 &&& (6148914691236517205 : UInt64))) 2) &&& (3689348814741910323 : UInt64)) + ((((shr64 a0 1) &&& (6148914691236517205 : UInt64)) + (a0 &&& (6148914691236517205 : UInt64))) &&& (3689348814741910323 : UInt64))) 4) + (((shr64 (((shr64 a0 1) &&& (6148914691236517205 : UInt64)) + (a0 &&& (6148914691236517205 : UInt64))) 2) &&& (3689348814741910323 : UInt64)) + ((((shr64 a0 1) &&& (6148914691236517205 : UInt64)) + (a0 &&& (6148914691236517205 : UInt64))) &&& (3689348814741910323 : UInt64)))) &&& (1085102592571150095 : UInt64)) + (shr64 (((shr64 (((shr64 (((shr64 a0 1) &&& (6148914691236517205 : UInt64)) + (a0 &&& (6148914691236517205 : UInt64))) 2) &&& (3689348814741910323 : UInt64)) + ((((shr64 a0 1) &&& (6148914691236517205 : UInt64)) + (a0 &&& (6148914691236517205 : UInt64))) &&& (3689348814741910323 : UInt64))) 4) + (((shr64 (((shr64 a0 1) &&& (6148914691236517205 : UInt64)) + (a0 &&& (6148914691236517205 : UInt64))) 2) &&& (3689348814741910323 : UInt64)) + ((((shr64 a0 1) &&& (6148914691236517205 : UInt64)) + (a0 &&& (6148914691236517205 : UInt64))) &&& (3689348814741910323 : UInt64)))) &&& (1085102592571150095 : UInt64)) 8)) 16)) 32)) rfl rfl (bin_shr_u64n (n := 32))) ?_
  refine WL.ex rfl (ex_bin (a := enc64 (((((shr64 (((shr64 (((shr64 a0 1) &&& (6148914691236517205 : UInt64)) + (a0 &&& (6148914691236517205 : UInt64))) 2) &&& (3689348814741910323 : UInt64)) + ((((shr64 a0 1) &&& (6148914691236517205 : UInt64)) + (a0 &&& (6148914691236517205 : UInt64))) &&& (3689348814741910323 : UInt64))) 4) + (((shr64 (((shr64 a0 1) &&& (6148914691236517205 : UInt64)) + (a0 &&& (6148914691236517205 : UInt64))) 2) &&& (3689348814741910323 : UInt64)) + ((((shr64 a0 1) &&& (6148914691236517205 : UInt64)) + (a0 &&& (6148914691236517205 : UInt64))) &&& (3689348814741910323 : UInt64)))) &&& (1085102592571150095 : UInt64)) + (shr64 (((shr64 (((shr64 (((shr64 a0 1) &&& (6148914691236517205 : UInt64)) + (a0 &&& (6148914691236517205 : UInt64))) 2) &&& (3689348814741910323 : UInt64)) + ((((shr64 a0 1) &&& (6148914691236517205 : UInt64)) + (a0 &&& (6148914691236517205 : UInt64))) &&& (3689348814741910323 : UInt64))) 4) + (((shr64 (((shr64 a0 1) &&& (6148914691236517205 : UInt64)) + (a0 &&& (6148914691236517205 : UInt64))) 2) &&& (3689348814741910323 : UInt64)) + ((((shr64 a0 1) &&& (6148914691236517205 : UInt64)) + (a0 &&& (6148914691236517205 : UInt64))) &&& (3689348814741910323 : UInt64)))) &&& (1085102592571150095 : UInt64)) 8)) + (shr64 ((((shr64 (((shr64 (((shr64 a0 1) &&& (6148914691236517205 : UInt64)) + (a0 &&& (6148914691236517205 : UInt64))) 2) &&& (3689348814741910323 : UInt64)) + ((((shr64 a0 1) &&& (6148914691236517205 : UInt64)) + (a0 &&& (6148914691236517205 : UInt64))) &&& (3689348814741910323 : UInt64))) 4) + (((shr64 (((shr64 a0 1) &&& (6148914691236517205 : UInt64)) + (a0 &&& (6148914691236517205 : UInt64))) 2) &&& (3689348814741910323 : UInt64)) + ((((shr64 a0 1) &&& (6148914691236517205 : UInt64)) + (a0 &&& (6148914691236517205 : UInt64))) &&& (3689348814741910323 : UInt64)))) &&& (1085102592571150095 : UInt64)) + (shr64 (((shr64 (((shr64 (((shr64 a0 1) &&& (6148914691236517205 : UInt64)) + (a0 &&& (6148914691236517205 : UInt64))) 2) &&& (3689348814741910323 : UInt64)) + ((((shr64 a0 1) &&& (6148914691236517205 : UInt64)) + (a0 &&& (6148914691236517205 : UInt64))) &&& (3689348814741910323 : UInt64))) 4) + (((shr64 (((shr64 a0 1) &&& (6148914691236517205 : UInt64)) + (a0 &&& (6148914691236517205 : UInt64))) 2) &&& (3689348814741910323 : UInt64)) + ((((shr64 a0 1) &&& (6148914691236517205 : UInt64)) + (a0 &&& (6148914691236517205 : UInt64))) &&& (3689348814741910323 : UInt64)))) &&& (1085102592571150095 : UInt64)) 8)) 16))) (b := enc64 (shr64 (((((shr64 (((shr64 (((shr64 a0 1) &&& (6148914691236517205 : UInt64)) + (a0 &&& (6148914691236517205 : UInt64))) 2) &&& (3689348814741910323 : UInt64)) + ((((shr64 a0 1) &&& (6148914691236517205 : UInt64)) + (a0 &&& (6148914691236517205 : UInt64))) &&& (3689348814741910323 : UInt64))) 4) + (((shr64 (((shr64 a0 1) &&& (6148914691236517205 : UInt64)) + (a0 &&& (6148914691236517205 : UInt64))) 2) &&& (3689348814741910323 : UInt64)) + ((((shr64 a0 1) &&& (6148914691236517205 : UInt64)) + (a0 &&& (6148914691236517205 : UInt64))) &&& (3689348814741910323 : UInt64)))) &&& (1085102592571150095 : UInt64)) + (shr64 (((shr64 (((shr64 (((shr64 a0 1) &&& (6148914691236517205 : UInt64)) + (a0 &&& (6148914691236517205 : UInt64))) 2) &&& (3689348814741910323 : UInt64)) + ((((shr64 a0 1) &&& (6148914691236517205 : UInt64)) + (a0 &&& (6148914691236517205 : UInt64))) &&& (3689348814741910323 : UInt64))) 4) + (((shr64 (((shr64 a0 1) &&& (6148914691236517205 : UInt64)) + (a0 &&& (6148914691236517205 : UInt64))) 2) &&& (3689348814741910323 : UInt64)) + ((((shr64 a0 1) &&& (6148914691236517205 : UInt64)) + (a0 &&& (6148914691236517205 : UInt64))) &&& (3689348814741910323 : UInt64)))) &&& (1085102592571150095 : UInt64)) 8)) + (shr64 ((((shr64 (((shr64 (((shr64 a0 1) &&& (6148914691236517205 : UInt64)) + (a0 &&& (6148914691236517205 : UInt64))) 2) &&& (3689348814741910323 : UInt64)) + ((((shr64 a0 1) &&& (6148914691236517205 : UInt64)) + (a0 &&& (6148914691236517205 : UInt64))) &&& (3689348814741910323 : UInt64))) 4) + (((shr64 (((shr64 a0 1) &&& (6148914691236517205 : UInt64)) + (a0 &&& (6148914691236517205 : UInt64))) 2) &&& (3689348814741910323 : UInt64)) + ((((shr64 a0 1) &&& (6148914691236517205 : UInt64)) + (a0 &&& (6148914691236517205 : UInt64))) &&& (3689348814741910323 : UInt64)))) &&& (1085102592571150095 : UInt64)) + (shr64 (((shr64 (((shr64 (((shr64 a0 1) &&& (6148914691236517205 : UInt64)) + (a0 &&& (6148914691236517205 : UInt64))) 2) &&& (3689348814741910323 : UInt64)) + ((((shr64 a0 1) &&& (6148914691236517205 : UInt64)) + (a0 &&& (6148914691236517205 : UInt64))) &&& (3689348814741910323 : UInt64))) 4) + (((shr64 (((shr64 a0 1) &&& (6148914691236517205 : UInt64)) + (a0 &&& (6148914691236517205 : UInt64))) 2) &&& (3689348814741910323 : UInt64)) + ((((shr64 a0 1) &&& (6148914691236517205 : UInt64)) + (a0 &&& (6148914691236517205 : UInt64))) &&& (3689348814741910323 : UInt64)))) &&& (1085102592571150095 : UInt64)) 8)) 16)) 32)) (v := enc64 ((((((shr64 (((shr64 (((shr64 a0 1) &&& (6148914691236517205 : UInt64)) + (a0 &&& (6148914691236517205 : UInt64))) 2) &&& (3689348814741910323 : UInt64)) + ((((shr64 a0 1) &&& (6148914691236517205 : UInt64)) + (a0 &&& (6148914691236517205 : UInt64))) &&& (3689348814741910323 : UInt64))) 4) + (((shr64 (((shr64 a0 1) &&& (6148914691236517205 : UInt64)) + (a0 &&& (6148914691236517205 : UInt64))) 2) &&& (3689348814741910323 : UInt64)) + ((((shr64 a0 1) &&& (6148914691236517205 : UInt64)) + (a0 &&& (6148914691236517205 : UInt64))) &&& (3689348814741910323 : UInt64)))) &&& (1085102592571150095 : UInt64)) + (shr64 (((shr64 (((shr64 (((shr64 a0 1) &&& (6148914691236517205 : UInt64)) + (a0 &&& (6148914691236517205 : UInt64))) 2) &&& (3689348814741910323 : UInt64)) + ((((shr64 a0 1) &&& (6148914691236517205 : UInt64)) + (a0 &&& (6148914691236517205 : UInt64))) &&& (3689348814741910323 : UInt64))) 4) + (((shr64 (((shr64 a0 1) &&& (6148914691236517205 : UInt64)) + (a0 &&& (6148914691236517205 : UInt64))) 2) &&& (3689348814741910323 : UInt64)) + ((((shr64 a0 1) &&& (6148914691236517205 : UInt64)) + (a0 &&& (6148914691236517205 : UInt64))) &&& (3689348814741910323 : UInt64)))) &&& (1085102592571150095 : UInt64)) 8)) + (shr64 ((((shr64 (((shr64 (((shr64 a0 1) &&& (6148914691236517205 : UInt64)) + (a0 &&& (6148914691236517205 : UInt64))) 2) &&& (3689348814741910323 : UInt64)) + ((((shr64 a0 1) &&& (6148914691236517205 : UInt64)) + (a0 &&& (6148914691236517205 : UInt64))) &&& (3689348814741910323 : UInt64))) 4) + (((shr64 (((shr64 a0 1) &&& (6148914691236517205 : UInt64)) + (a0 &&& (6148914691236517205 : UInt64))) 2) &&& (3689348814741910323 : UInt64)) + ((((shr64 a0 1) &&& (6148914691236517205 : UInt64)) + (a0 &&& (6148914691236517205 : UInt64))) &&& (3689348814741910323 : UInt64)))) &&& (1085102592571150095 : UInt64)) + (shr64 (((shr64 (((shr64 (((shr64 a0 1) &&& (6148914691236517205 : UInt64)) + (a0 &&& (6148914691236517205 : UInt64))) 2) &&& (3689348814741910323 : UInt64)) + ((((shr64 a0 1) &&& (6148914691236517205 : UInt64)) + (a0 &&& (6148914691236517205 : UInt64))) &&& (3689348814741910323 : UInt64))) 4) + (((shr64 (((shr64 a0 1) &&& (6148914691236517205 : UInt64)) + (a0 &&& (6148914691236517205 : UInt64))) 2) &&& (3689348814741910323 : UInt64)) + ((((shr64 a0 1) &&& (6148914691236517205 : UInt64)) + (a0 &&& (6148914691236517205 : UInt64))) &&& (3689348814741910323 : UInt64)))) &&& (1085102592571150095 : UInt64)) 8)) 16)) + (shr64 (((((shr64 (((shr64 (((shr64 a0 1) &&& (6148914691236517205 : UInt64)) + (a0 &&& (6148914691236517205 : UInt64))) 2) &&& (3689348814741910323 : UInt64)) + ((((shr64 a0 1) &&& (6148914691236517205 : UInt64)) + (a0 &&& (6148914691236517205 : UInt64))) &&& (3689348814741910323 : UInt64))) 4) + (((shr64 (((shr64 a0 1) &&& (6148914691236517205 : UInt64)) + (a0 &&& (6148914691236517205 : UInt64))) 2) &&& (3689348814741910323 : UInt64)) + ((((shr64 a0 1) &&& (6148914691236517205 : UInt64)) + (a0 &&& (6148914691236517205 : UInt64))) &&& (3689348814741910323 : UInt64)))) &&& (1085102592571150095 : UInt64)) + (shr64 (((shr64 (((shr64 (((shr64 a0 1) &&& (6148914691236517205 : UInt64)) + (a0 &&& (6148914691236517205 : UInt64))) 2) &&& (3689348814741910323 : UInt64)) + ((((shr64 a0 1) &&& (6148914691236517205 : UInt64)) + (a0 &&& (6148914691236517205 : UInt64))) &&& (3689348814741910323 : UInt64))) 4) + (((shr64 (((shr64 a0 1) &&& (6148914691236517205 : UInt64)) + (a0 &&& (6148914691236517205 : UInt64))) 2) &&& (3689348814741910323 : UInt64)) + ((((shr64 a0 1) &&& (6148914691236517205 : UInt64)) + (a0 &&& (6148914691236517205 : UInt64))) &&& (3689348814741910323 : UInt64)))) &&& (1085102592571150095 : UInt64)) 8)) + (shr64 ((((shr64 (((shr64 (((shr64 a0 1) &&& (6148914691236517205 : UInt64)) + (a0 &&& (6148914691236517205 : UInt64))) 2) &&& (3689348814741910323 : UInt64)) + ((((shr64 a0 1) &&& (6148914691236517205 : UInt64)) + (a0 &&& (6148914691236517205 : UInt64))) &&& (3689348814741910323 : UInt64))) 4) + (((shr64 (((shr64 a0 1) &&& (6148914691236517205 : UInt64)) + (a0 &&& (6148914691236517205 : UInt64))) 2) &&& (3689348814741910323 : UInt64)) + ((((shr64 a0 1) &&& (6148914691236517205 : UInt64)) + (a0 &&& (6148914691236517205 : UInt64))) &&& (3689348814741910323 : UInt64)))) &&& (1085102592571150095 : UInt64)) + (shr64 (((shr64 (((shr64 (((shr64 a0 1) &&& (6148914691236517205 : UInt64)) + (a0 &&& (6148914691236517205 : UInt64))) 2) &&& (3689348814741910323 : UInt64)) + ((((shr64 a0 1) &&& (6148914691236517205 : UInt64)) + (a0 &&& (6148914691236517205 : UInt64))) &&& (3689348814741910323 : UInt64))) 4) + (((shr64 (((shr64 a0 1) &&& (6148914691236517205 : UInt64)) + (a0 &&& (6148914691236517205 : UInt64))) 2) &&& (3689348814741910323 : UInt64)) + ((((shr64 a0 1) &&& (6148914691236517205 : UInt64)) + (a0 &&& (6148914691236517205 : UInt64))) &&& (3689348814741910323 : UInt64)))) &&& (1085102592571150095 : UInt64)) 8)) 16)) 32))) rfl rfl bin_add_u64) ?_
  refine WL.ex rfl (ex_assign (v := enc64 ((((((shr64 (((shr64 (((shr64 a0 1) &&& (6148914691236517205 : UInt64)) + (a0 &&& (6148914691236517205 : UInt64))) 2) &&& (3689348814741910323 : UInt64)) + ((((shr64 a0 1) &&& (6148914691236517205 : UInt64)) + (a0 &&& (6148914691236517205 : UInt64))) &&& (3689348814741910323 : UInt64))) 4) + (((shr64 (((shr64 a0 1) &&& (6148914691236517205 : UInt64)) + (a0 &&& (6148914691236517205 : UInt64))) 2) &&& (3689348814741910323 : UInt64)) + ((((shr64 a0 1) &&& (6148914691236517205 : UInt64)) + (a0 &&& (6148914691236517205 : UInt64))) &&& (3689348814741910323 : UInt64)))) &&& (1085102592571150095 : UInt64)) + (shr64 (((shr64 (((shr64 (((shr64 a0 1) &&& (6148914691236517205 : UInt64)) + (a0 &&& (6148914691236517205 : UInt64))) 2) &&& (3689348814741910323 : UInt64)) + ((((shr64 a0 1) &&& (6148914691236517205 : UInt64)) + (a0 &&& (6148914691236517205 : UInt64))) &&& (3689348814741910323 : UInt64))) 4) + (((shr64 (((shr64 a0 1) &&& (6148914691236517205 : UInt64)) + (a0 &&& (6148914691236517205 : UInt64))) 2) &&& (3689348814741910323 : UInt64)) + ((((shr64 a0 1) &&& (6148914691236517205 : UInt64)) + (a0 &&& (6148914691236517205 : UInt64))) &&& (3689348814741910323 : UInt64)))) &&& (1085102592571150095 : UInt64)) 8)) + (shr64 ((((shr64 (((shr64 (((shr64 a0 1) &&& (6148914691236517205 : UInt64)) + (a0 &&& (6148914691236517205 : UInt64))) 2) &&& (3689348814741910323 : UInt64)) + ((((shr64 a0 1) &&& (6148914691236517205 : UInt64)) + (a0 &&& (6148914691236517205 : UInt64))) &&& (3689348814741910323 : UInt64))) 4) + (((shr64 (((shr64 a0 1) &&& (6148914691236517205 : UInt64)) + (a0 &&& (6148914691236517205 : UInt64))) 2) &&& (3689348814741910323 : UInt64)) + ((((shr64 a0 1) &&& (6148914691236517205 : UInt64)) + (a0 &&& (6148914691236517205 : UInt64))) &&& (3689348814741910323 : UInt64)))) &&& (1085102592571150095 : UInt64)) + (shr64 (((shr64 (((shr64 (((shr64 a0 1) &&& (6148914691236517205 : UInt64)) + (a0 &&& (6148914691236517205 : UInt64))) 2) &&& (3689348814741910323 : UInt64)) + ((((shr64 a0 1) &&& (6148914691236517205 : UInt64)) + (a0 &&& (6148914691236517205 : UInt64))) &&& (3689348814741910323 : UInt64))) 4) + (((shr64 (((shr64 a0 1) &&& (6148914691236517205 : UInt64)) + (a0 &&& (6148914691236517205 : UInt64))) 2) &&& (3689348814741910323 : UInt64)) + ((((shr64 a0 1) &&& (6148914691236517205 : UInt64)) + (a0 &&& (6148914691236517205 : UInt64))) &&& (3689348814741910323 : UInt64)))) &&& (1085102592571150095 : UInt64)) 8)) 16)) + (shr64 (((((shr64 (((shr64 (((shr64 a0 1) &&& (6148914691236517205 : UInt64)) + (a0 &&& (6148914691236517205 : UInt64))) 2) &&& (3689348814741910323 : UInt64)) + ((((shr64 a0 1) &&& (6148914691236517205 : UInt64)) + (a0 &&& (6148914691236517205 : UInt64))) &&& (3689348814741910323 : UInt64))) 4) + (((shr64 (((shr64 a0 1) &&& (6148914691236517205 : UInt64)) + (a0 &&& (6148914691236517205 : UInt64))) 2) &&& (3689348814741910323 : UInt64)) + ((((shr64 a0 1) &&& (6148914691236517205 : UInt64)) + (a0 &&& (6148914691236517205 : UInt64))) &&& (3689348814741910323 : UInt64)))) &&& (1085102592571150095 : UInt64)) + (shr64 (((shr64 (((shr64 (((shr64 a0 1) &&& (6148914691236517205 : UInt64)) + (a0 &&& (6148914691236517205 : UInt64))) 2) &&& (3689348814741910323 : UInt64)) + ((((shr64 a0 1) &&& (6148914691236517205 : UInt64)) + (a0 &&& (6148914691236517205 : UInt64))) &&& (3689348814741910323 : UInt64))) 4) + (((shr64 (((shr64 a0 1) &&& (6148914691236517205 : UInt64)) + (a0 &&& (6148914691236517205 : UInt64))) 2) &&& (3689348814741910323 : UInt64)) + ((((shr64 a0 1) &&& (6148914691236517205 : UInt64)) + (a0 &&& (6148914691236517205 : UInt64))) &&& (3689348814741910323 : UInt64)))) &&& (1085102592571150095 : UInt64)) 8)) + (shr64 ((((shr64 (((shr64 (((shr64 a0 1) &&& (6148914691236517205 : UInt64)) + (a0 &&& (6148914691236517205 : UInt64))) 2) &&& (3689348814741910323 : UInt64)) + ((((shr64 a0 1) &&& (6148914691236517205 : UInt64)) + (a0 &&& (6148914691236517205 : UInt64))) &&& (3689348814741910323 : UInt64))) 4) + (((shr64 (((shr64 a0 1) &&& (6148914691236517205 : UInt64)) + (a0 &&& (6148914691236517205 : UInt64))) 2) &&& (3689348814741910323 : UInt64)) + ((((shr64 a0 1) &&& (6148914691236517205 : UInt64)) + (a0 &&& (6148914691236517205 : UInt64))) &&& (3689348814741910323 : UInt64)))) &&& (1085102592571150095 : UInt64)) + (shr64 (((shr64 (((shr64 (((shr64 a0 1) &&& (6148914691236517205 : UInt64)) + (a0 &&& (6148914691236517205 : UInt64))) 2) &&& (3689348814741910323 : UInt64)) + ((((shr64 a0 1) &&& (6148914691236517205 : UInt64)) + (a0 &&& (6148914691236517205 : UInt64))) &&& (3689348814741910323 : UInt64))) 4) + (((shr64 (((shr64 a0 1) &&& (6148914691236517205 : UInt64)) + (a0 &&& (6148914691236517205 : UInt64))) 2) &&& (3689348814741910323 : UInt64)) + ((((shr64 a0 1) &&& (6148914691236517205 : UInt64)) + (a0 &&& (6148914691236517205 : UInt64))) &&& (3689348814741910323 : UInt64)))) &&& (1085102592571150095 : UInt64)) 8)) 16)) 32))) rfl) ?_
  refine WL.nil ?_
  refine WC.seq ?_
  refine WC.region ?_
  refine WL.ex rfl (ex_move (v := enc64 ((((((shr64 (((shr64 (((shr64 a0 1) &&& (6148914691236517205 : UInt64)) + (a0 &&& (6148914691236517205 : UInt64))) 2) &&& (3689348814741910323 : UInt64)) + ((((shr64 a0 1) &&& (6148914691236517205 : UInt64)) + (a0 &&& (6148914691236517205 : UInt64))) &&& (3689348814741910323 : UInt64))) 4) + (((shr64 (((shr64 a0 1) &&& (6148914691236517205 : UInt64)) + (a0 &&& (6148914691236517205 : UInt64))) 2) &&& (3689348814741910323 : UInt64)) + ((((shr64 a0 1) &&& (6148914691236517205 : UInt64)) + (a0 &&& (6148914691236517205 : UInt64))) &&& (3689348814741910323 : UInt64)))) &&& (1085102592571150095 : UInt64)) + (shr64 (((shr64 (((shr64 (((shr64 a0 1) &&& (6148914691236517205 : UInt64)) + (a0 &&& (6148914691236517205 : UInt64))) 2) &&& (3689348814741910323 : UInt64)) + ((((shr64 a0 1) &&& (6148914691236517205 : UInt64)) + (a0 &&& (6148914691236517205 : UInt64))) &&& (3689348814741910323 : UInt64))) 4) + (((shr64 (((shr64 a0 1) &&& (6148914691236517205 : UInt64)) + (a0 &&& (6148914691236517205 : UInt64))) 2) &&& (3689348814741910323 : UInt64)) + ((((shr64 a0 1) &&& (6148914691236517205 : UInt64)) + (a0 &&& (6148914691236517205 : UInt64))) &&& (3689348814741910323 : UInt64)))) &&& (1085102592571150095 : UInt64)) 8)) + (shr64 ((((shr64 (((shr64 (((shr64 a0 1) &&& (6148914691236517205 : UInt64)) + (a0 &&& (6148914691236517205 : UInt64))) 2) &&& (3689348814741910323 : UInt64)) + ((((shr64 a0 1) &&& (6148914691236517205 : UInt64)) + (a0 &&& (6148914691236517205 : UInt64))) &&& (3689348814741910323 : UInt64))) 4) + (((shr64 (((shr64 a0 1) &&& (6148914691236517205 : UInt64)) + (a0 &&& (6148914691236517205 : UInt64))) 2) &&& (3689348814741910323 : UInt64)) + ((((shr64 a0 1) &&& (6148914691236517205 : UInt64)) + (a0 &&& (6148914691236517205 : UInt64))) &&& (3689348814741910323 : UInt64)))) &&& (1085102592571150095 : UInt64)) + (shr64 (((shr64 (((shr64 (((shr64 a0 1) &&& (6148914691236517205 : UInt64)) + (a0 &&& (6148914691236517205 : UInt64))) 2) &&& (3689348814741910323 : UInt64)) + ((((shr64 a0 1) &&& (6148914691236517205 : UInt64)) + (a0 &&& (6148914691236517205 : UInt64))) &&& (3689348814741910323 : UInt64))) 4) + (((shr64 (((shr64 a0 1) &&& (6148914691236517205 : UInt64)) + (a0 &&& (6148914691236517205 : UInt64))) 2) &&& (3689348814741910323 : UInt64)) + ((((shr64 a0 1) &&& (6148914691236517205 : UInt64)) + (a0 &&& (6148914691236517205 : UInt64))) &&& (3689348814741910323 : UInt64)))) &&& (1085102592571150095 : UInt64)) 8)) 16)) + (shr64 (((((shr64 (((shr64 (((shr64 a0 1) &&& (6148914691236517205 : UInt64)) + (a0 &&& (6148914691236517205 : UInt64))) 2) &&& (3689348814741910323 : UInt64)) + ((((shr64 a0 1) &&& (6148914691236517205 : UInt64)) + (a0 &&& (6148914691236517205 : UInt64))) &&& (3689348814741910323 : UInt64))) 4) + (((shr64 (((shr64 a0 1) &&& (6148914691236517205 : UInt64)) + (a0 &&& (6148914691236517205 : UInt64))) 2) &&& (3689348814741910323 : UInt64)) + ((((shr64 a0 1) &&& (6148914691236517205 : UInt64)) + (a0 &&& (6148914691236517205 : UInt64))) &&& (3689348814741910323 : UInt64)))) &&& (1085102592571150095 : UInt64)) + (shr64 (((shr64 (((shr64 (((shr64 a0 1) &&& (6148914691236517205 : UInt64)) + (a0 &&& (6148914691236517205 : UInt64))) 2) &&& (3689348814741910323 : UInt64)) + ((((shr64 a0 1) &&& (6148914691236517205 : UInt64)) + (a0 &&& (6148914691236517205 : UInt64))) &&& (3689348814741910323 : UInt64))) 4) + (((shr64 (((shr64 a0 1) &&& (6148914691236517205 : UInt64)) + (a0 &&& (6148914691236517205 : UInt64))) 2) &&& (3689348814741910323 : UInt64)) + ((((shr64 a0 1) &&& (6148914691236517205 : UInt64)) + (a0 &&& (6148914691236517205 : UInt64))) &&& (3689348814741910323 : UInt64)))) &&& (1085102592571150095 : UInt64)) 8)) + (shr64 ((((shr64 (((shr64 (((shr64 a0 1) &&& (6148914691236517205 : UInt64)) + (a0 &&& (6148914691236517205 : UInt64))) 2) &&& (3689348814741910323 : UInt64)) + ((((shr64 a0 1) &&& (6148914691236517205 : UInt64)) + (a0 &&& (6148914691236517205 : UInt64))) &&& (3689348814741910323 : UInt64))) 4) + (((shr64 (((shr64 a0 1) &&& (6148914691236517205 : UInt64)) + (a0 &&& (6148914691236517205 : UInt64))) 2) &&& (3689348814741910323 : UInt64)) + ((((shr64 a0 1) &&& (6148914691236517205 : UInt64)) + (a0 &&& (6148914691236517205 : UInt64))) &&& (3689348814741910323 : UInt64)))) &&& (1085102592571150095 : UInt64)) + (shr64 (((shr64 (((shr64 (((shr64 a0 1) &&& (6148914691236517205 : UInt64)) + (a0 &&& (6148914691236517205 : UInt64))) 2) &&& (3689348814741910323 : UInt64)) + ((((shr64 a0 1) &&& (6148914691236517205 : UInt64)) + (a0 &&& (6148914691236517205 : UInt64))) &&& (3689348814741910323 : UInt64))) 4) + (((shr64 (((shr64 a0 1) &&& (6148914691236517205 : UInt64)) + (a0 &&& (6148914691236517205 : UInt64))) 2) &&& (3689348814741910323 : UInt64)) + ((((shr64 a0 1) &&& (6148914691236517205 : UInt64)) + (a0 &&& (6148914691236517205 : UInt64))) &&& (3689348814741910323 : UInt64)))) &&& (1085102592571150095 : UInt64)) 8)) 16)) 32))) rfl) ?_
  refine WL.ex rfl (ex_conv64 (k := .u64) (a := (((((((shr64 (((shr64 (((shr64 a0 1) &&& (6148914691236517205 : UInt64)) + (a0 &&& (6148914691236517205 : UInt64))) 2) &&& (3689348814741910323 : UInt64)) + ((((shr64 a0 1) &&& (6148914691236517205 : UInt64)) + (a0 &&& (6148914691236517205 : UInt64))) &&& (3689348814741910323 : UInt64))) 4) + (((shr64 (((shr64 a0 1) &&& (6148914691236517205 : UInt64)) + (a0 &&& (6148914691236517205 : UInt64))) 2) &&& (3689348814741910323 : UInt64)) + ((((shr64 a0 1) &&& (6148914691236517205 : UInt64)) + (a0 &&& (6148914691236517205 : UInt64))) &&& (3689348814741910323 : UInt64)))) &&& (1085102592571150095 : UInt64)) + (shr64 (((shr64 (((shr64 (((shr64 a0 1) &&& (6148914691236517205 : UInt64)) + (a0 &&& (6148914691236517205 : UInt64))) 2) &&& (3689348814741910323 : UInt64)) + ((((shr64 a0 1) &&& (6148914691236517205 : UInt64)) + (a0 &&& (6148914691236517205 : UInt64))) &&& (3689348814741910323 : UInt64))) 4) + (((shr64 (((shr64 a0 1) &&& (6148914691236517205 : UInt64)) + (a0 &&& (6148914691236517205 : UInt64))) 2) &&& (3689348814741910323 : UInt64)) + ((((shr64 a0 1) &&& (6148914691236517205 : UInt64)) + (a0 &&& (6148914691236517205 : UInt64))) &&& (3689348814741910323 : UInt64)))) &&& (1085102592571150095 : UInt64)) 8)) + (shr64 ((((shr64 (((shr64 (((shr64 a0 1) &&& (6148914691236517205 : UInt64)) + (a0 &&& (6148914691236517205 : UInt64))) 2) &&& (3689348814741910323 : UInt64)) + ((((shr64 a0 1) &&& (6148914691236517205 : UInt64)) + (a0 &&& (6148914691236517205 : UInt64))) &&& (3689348814741910323 : UInt64))) 4) + (((shr64 (((shr64 a0 1) &&& (6148914691236517205 : UInt64)) + (a0 &&& (6148914691236517205 : UInt64))) 2) &&& (3689348814741910323 : UInt64)) + ((((shr64 a0 1) &&& (6148914691236517205 : UInt64)) + (a0 &&& (6148914691236517205 : UInt64))) &&& (3689348814741910323 : UInt64)))) &&& (1085102592571150095 : UInt64)) + (shr64 (((shr64 (((shr64 (((shr64 a0 1) &&& (6148914691236517205 : UInt64)) + (a0 &&& (6148914691236517205 : UInt64))) 2) &&& (3689348814741910323 : UInt64)) + ((((shr64 a0 1) &&& (6148914691236517205 : UInt64)) + (a0 &&& (6148914691236517205 : UInt64))) &&& (3689348814741910323 : UInt64))) 4) + (((shr64 (((shr64 a0 1) &&& (6148914691236517205 : UInt64)) + (a0 &&& (6148914691236517205 : UInt64))) 2) &&& (3689348814741910323 : UInt64)) + ((((shr64 a0 1) &&& (6148914691236517205 : UInt64)) + (a0 &&& (6148914691236517205 : UInt64))) &&& (3689348814741910323 : UInt64)))) &&& (1085102592571150095 : UInt64)) 8)) 16)) + (shr64 (((((shr64 (((shr64 (((shr64 a0 1) &&& (6148914691236517205 : UInt64)) + (a0 &&& (6148914691236517205 : UInt64))) 2) &&& (3689348814741910323 : UInt64)) + ((((shr64 a0 1) &&& (6148914691236517205 : UInt64)) + (a0 &&& (6148914691236517205 : UInt64))) &&& (3689348814741910323 : UInt64))) 4) + (((shr64 (((shr64 a0 1) &&& (6148914691236517205 : UInt64)) + (a0 &&& (6148914691236517205 : UInt64))) 2) &&& (3689348814741910323 : UInt64)) + ((((shr64 a0 1) &&& (6148914691236517205 : UInt64)) + (a0 &&& (6148914691236517205 : UInt64))) &&& (3689348814741910323 : UInt64)))) &&& (1085102592571150095 : UInt64)) + (shr64 (((shr64 (((shr64 (((shr64 a0 1) &&& (6148914691236517205 : UInt64)) + (a0 &&& (6148914691236517205 : UInt64))) 2) &&& (3689348814741910323 : UInt64)) + ((((shr64 a0 1) &&& (6148914691236517205 : UInt64)) + (a0 &&& (6148914691236517205 : UInt64))) &&& (3689348814741910323 : UInt64))) 4) + (((shr64 (((shr64 a0 1) &&& (6148914691236517205 : UInt64)) + (a0 &&& (6148914691236517205 : UInt64))) 2) &&& (3689348814741910323 : UInt64)) + ((((shr64 a0 1) &&& (6148914691236517205 : UInt64)) + (a0 &&& (6148914691236517205 : UInt64))) &&& (3689348814741910323 : UInt64)))) &&& (1085102592571150095 : UInt64)) 8)) + (shr64 ((((shr64 (((shr64 (((shr64 a0 1) &&& (6148914691236517205 : UInt64)) + (a0 &&& (6148914691236517205 : UInt64))) 2) &&& (3689348814741910323 : UInt64)) + ((((shr64 a0 1) &&& (6148914691236517205 : UInt64)) + (a0 &&& (6148914691236517205 : UInt64))) &&& (3689348814741910323 : UInt64))) 4) + (((shr64 (((shr64 a0 1) &&& (6148914691236517205 : UInt64)) + (a0 &&& (6148914691236517205 : UInt64))) 2) &&& (3689348814741910323 : UInt64)) + ((((shr64 a0 1) &&& (6148914691236517205 : UInt64)) + (a0 &&& (6148914691236517205 : UInt64))) &&& (3689348814741910323 : UInt64)))) &&& (1085102592571150095 : UInt64)) + (shr64 (((shr64 (((shr64 (((shr64 a0 1) &&& (6148914691236517205 : UInt64)) + (a0 &&& (6148914691236517205 : UInt64))) 2) &&& (3689348814741910323 : UInt64)) + ((((shr64 a0 1) &&& (6148914691236517205 : UInt64)) + (a0 &&& (6148914691236517205 : UInt64))) &&& (3689348814741910323 : UInt64))) 4) + (((shr64 (((shr64 a0 1) &&& (6148914691236517205 : UInt64)) + (a0 &&& (6148914691236517205 : UInt64))) 2) &&& (3689348814741910323 : UInt64)) + ((((shr64 a0 1) &&& (6148914691236517205 : UInt64)) + (a0 &&& (6148914691236517205 : UInt64))) &&& (3689348814741910323 : UInt64)))) &&& (1085102592571150095 : UInt64)) 8)) 16)) 32)).toNat : Int)) rfl Tryd.underlying22 Tryd.underlying3) ?_
  refine WL.ex rfl (ex_bin (a := .int .i64 (wrap64 (((((((shr64 (((shr64 (((shr64 a0 1) &&& (6148914691236517205 : UInt64)) + (a0 &&& (6148914691236517205 : UInt64))) 2) &&& (3689348814741910323 : UInt64)) + ((((shr64 a0 1) &&& (6148914691236517205 : UInt64)) + (a0 &&& (6148914691236517205 : UInt64))) &&& (3689348814741910323 : UInt64))) 4) + (((shr64 (((shr64 a0 1) &&& (6148914691236517205 : UInt64)) + (a0 &&& (6148914691236517205 : UInt64))) 2) &&& (3689348814741910323 : UInt64)) + ((((shr64 a0 1) &&& (6148914691236517205 : UInt64)) + (a0 &&& (6148914691236517205 : UInt64))) &&& (3689348814741910323 : UInt64)))) &&& (1085102592571150095 : UInt64)) + (shr64 (((shr64 (((shr64 (((shr64 a0 1) &&& (6148914691236517205 : UInt64)) + (a0 &&& (6148914691236517205 : UInt64))) 2) &&& (3689348814741910323 : UInt64)) + ((((shr64 a0 1) &&& (6148914691236517205 : UInt64)) + (a0 &&& (6148914691236517205 : UInt64))) &&& (3689348814741910323 : UInt64))) 4) + (((shr64 (((shr64 a0 1) &&& (6148914691236517205 : UInt64)) + (a0 &&& (6148914691236517205 : UInt64))) 2) &&& (3689348814741910323 : UInt64)) + ((((shr64 a0 1) &&& (6148914691236517205 : UInt64)) + (a0 &&& (6148914691236517205 : UInt64))) &&& (3689348814741910323 : UInt64)))) &&& (1085102592571150095 : UInt64)) 8)) + (shr64 ((((shr64 (((shr64 (((shr64 a0 1) &&& (6148914691236517205 : UInt64)) + (a0 &&& (6148914691236517205 : UInt64))) 2) &&& (3689348814741910323 : UInt64)) + ((((shr64 a0 1) &&& (6148914691236517205 : UInt64)) + (a0 &&& (6148914691236517205 : UInt64))) &&& (3689348814741910323 : UInt64))) 4) + (((shr64 (((shr64 a0 1) &&& (6148914691236517205 : UInt64)) + (a0 &&& (6148914691236517205 : UInt64))) 2) &&& (3689348814741910323 : UInt64)) + ((((shr64 a0 1) &&& (6148914691236517205 : UInt64)) + (a0 &&& (6148914691236517205 : UInt64))) &&& (3689348814741910323 : UInt64)))) &&& (1085102592571150095 : UInt64)) + (shr64 (((shr64 (((shr64 (((shr64 a0 1) &&& (6148914691236517205 : UInt64)) + (a0 &&& (6148914691236517205 : UInt64))) 2) &&& (3689348814741910323 : UInt64)) + ((((shr64 a0 1) &&& (6148914691236517205 : UInt64)) + (a0 &&& (6148914691236517205 : UInt64))) &&& (3689348814741910323 : UInt64))) 4) + (((shr64 (((shr64 a0 1) &&& (6148914691236517205 : UInt64)) + (a0 &&& (6148914691236517205 : UInt64))) 2) &&& (3689348814741910323 : UInt64)) + ((((shr64 a0 1) &&& (6148914691236517205 : UInt64)) + (a0 &&& (6148914691236517205 : UInt64))) &&& (3689348814741910323 : UInt64)))) &&& (1085102592571150095 : UInt64)) 8)) 16)) + (shr64 (((((shr64 (((shr64 (((shr64 a0 1) &&& (6148914691236517205 : UInt64)) + (a0 &&& (6148914691236517205 : UInt64))) 2) &&& (3689348814741910323 : UInt64)) + ((((shr64 a0 1) &&& (6148914691236517205 : UInt64)) + (a0 &&& (6148914691236517205 : UInt64))) &&& (3689348814741910323 : UInt64))) 4) + (((shr64 (((shr64 a0 1) &&& (6148914691236517205 : UInt64)) + (a0 &&& (6148914691236517205 : UInt64))) 2) &&& (3689348814741910323 : UInt64)) + ((((shr64 a0 1) &&& (6148914691236517205 : UInt64)) + (a0 &&& (6148914691236517205 : UInt64))) &&& (3689348814741910323 : UInt64)))) &&& (1085102592571150095 : UInt64)) + (shr64 (((shr64 (((shr64 (((shr64 a0 1) &&& (6148914691236517205 : UInt64)) + (a0 &&& (6148914691236517205 : UInt64))) 2) &&& (3689348814741910323 : UInt64)) + ((((shr64 a0 1) &&& (6148914691236517205 : UInt64)) + (a0 &&& (6148914691236517205 : UInt64))) &&& (3689348814741910323 : UInt64))) 4) + (((shr64 (((shr64 a0 1) &&& (6148914691236517205 : UInt64)) + (a0 &&& (6148914691236517205 : UInt64))) 2) &&& (3689348814741910323 : UInt64)) + ((((shr64 a0 1) &&& (6148914691236517205 : UInt64)) + (a0 &&& (6148914691236517205 : UInt64))) &&& (3689348814741910323 : UInt64)))) &&& (1085102592571150095 : UInt64)) 8)) + (shr64 ((((shr64 (((shr64 (((shr64 a0 1) &&& (6148914691236517205 : UInt64)) + (a0 &&& (6148914691236517205 : UInt64))) 2) &&& (3689348814741910323 : UInt64)) + ((((shr64 a0 1) &&& (6148914691236517205 : UInt64)) + (a0 &&& (6148914691236517205 : UInt64))) &&& (3689348814741910323 : UInt64))) 4) + (((shr64 (((shr64 a0 1) &&& (6148914691236517205 : UInt64)) + (a0 &&& (6148914691236517205 : UInt64))) 2) &&& (3689348814741910323 : UInt64)) + ((((shr64 a0 1) &&& (6148914691236517205 : UInt64)) + (a0 &&& (6148914691236517205 : UInt64))) &&& (3689348814741910323 : UInt64)))) &&& (1085102592571150095 : UInt64)) + (shr64 (((shr64 (((shr64 (((shr64 a0 1) &&& (6148914691236517205 : UInt64)) + (a0 &&& (6148914691236517205 : UInt64))) 2) &&& (3689348814741910323 : UInt64)) + ((((shr64 a0 1) &&& (6148914691236517205 : UInt64)) + (a0 &&& (6148914691236517205 : UInt64))) &&& (3689348814741910323 : UInt64))) 4) + (((shr64 (((shr64 a0 1) &&& (6148914691236517205 : UInt64)) + (a0 &&& (6148914691236517205 : UInt64))) 2) &&& (3689348814741910323 : UInt64)) + ((((shr64 a0 1) &&& (6148914691236517205 : UInt64)) + (a0 &&& (6148914691236517205 : UInt64))) &&& (3689348814741910323 : UInt64)))) &&& (1085102592571150095 : UInt64)) 8)) 16)) 32)).toNat : Int))) (b := .int .i64 127) (v := .int .i64 (andI (wrap64 (((((((shr64 (((shr64 (((shr64 a0 1) &&& (6148914691236517205 : UInt64)) + (a0 &&& (6148914691236517205 : UInt64))) 2) &&& (3689348814741910323 : UInt64)) + ((((shr64 a0 1) &&& (6148914691236517205 : UInt64)) + (a0 &&& (6148914691236517205 : UInt64))) &&& (3689348814741910323 : UInt64))) 4) + (((shr64 (((shr64 a0 1) &&& (6148914691236517205 : UInt64)) + (a0 &&& (6148914691236517205 : UInt64))) 2) &&& (3689348814741910323 : UInt64)) + ((((shr64 a0 1) &&& (6148914691236517205 : UInt64)) + (a0 &&& (6148914691236517205 : UInt64))) &&& (3689348814741910323 : UInt64)))) &&& (1085102592571150095 : UInt64)) + (shr64 (((shr64 (((shr64 (((shr64 a0 1) &&& (6148914691236517205 : UInt64)) + (a0 &&& (6148914691236517205 : UInt64))) 2) &&& (3689348814741910323 : UInt64)) + ((((shr64 a0 1) &&& (6148914691236517205 : UInt64)) + (a0 &&& (6148914691236517205 : UInt64))) &&& (3689348814741910323 : UInt64))) 4) + (((shr64 (((shr64 a0 1) &&& (6148914691236517205 : UInt64)) + (a0 &&& (6148914691236517205 : UInt64))) 2) &&& (3689348814741910323 : UInt64)) + ((((shr64 a0 1) &&& (6148914691236517205 : UInt64)) + (a0 &&& (6148914691236517205 : UInt64))) &&& (3689348814741910323 : UInt64)))) &&& (1085102592571150095 : UInt64)) 8)) + (shr64 ((((shr64 (((shr64 (((shr64 a0 1) &&& (6148914691236517205 : UInt64)) + (a0 &&& (6148914691236517205 : UInt64))) 2) &&& (3689348814741910323 : UInt64)) + ((((shr64 a0 1) &&& (6148914691236517205 : UInt64)) + (a0 &&& (6148914691236517205 : UInt64))) &&& (3689348814741910323 : UInt64))) 4) + (((shr64 (((shr64 a0 1) &&& (6148914691236517205 : UInt64)) + (a0 &&& (6148914691236517205 : UInt64))) 2) &&& (3689348814741910323 : UInt64)) + ((((shr64 a0 1) &&& (6148914691236517205 : UInt64)) + (a0 &&& (6148914691236517205 : UInt64))) &&& (3689348814741910323 : UInt64)))) &&& (1085102592571150095 : UInt64)) + (shr64 (((shr64 (((shr64 (((shr64 a0 1) &&& (6148914691236517205 : UInt64)) + (a0 &&& (6148914691236517205 : UInt64))) 2) &&& (3689348814741910323 : UInt64)) + ((((shr64 a0 1) &&& (6148914691236517205 : UInt64)) + (a0 &&& (6148914691236517205 : UInt64))) &&& (3689348814741910323 : UInt64))) 4) + (((shr64 (((shr64 a0 1) &&& (6148914691236517205 : UInt64)) + (a0 &&& (6148914691236517205 : UInt64))) 2) &&& (3689348814741910323 : UInt64)) + ((((shr64 a0 1) &&& (6148914691236517205 : UInt64)) + (a0 &&& (6148914691236517205 : UInt64))) &&& (3689348814741910323 : UInt64)))) &&& (1085102592571150095 : UInt64)) 8)) 16)) + (shr64 (((((shr64 (((shr64 (((shr64 a0 1) &&& (6148914691236517205 : UInt64)) + (a0 &&& (6148914691236517205 : UInt64))) 2) &&& (3689348814741910323 : UInt64)) + ((((shr64 a0 1) &&& (6148914691236517205 : UInt64)) + (a0 &&& (6148914691236517205 : UInt64))) &&& (3689348814741910323 : UInt64))) 4) + (((shr64 (((shr64 a0 1) &&& (6148914691236517205 : UInt64)) + (a0 &&& (6148914691236517205 : UInt64))) 2) &&& (3689348814741910323 : UInt64)) + ((((shr64 a0 1) &&& (6148914691236517205 : UInt64)) + (a0 &&& (6148914691236517205 : UInt64))) &&& (3689348814741910323 : UInt64)))) &&& (1085102592571150095 : UInt64)) + (shr64 (((shr64 (((shr64 (((shr64 a0 1) &&& (6148914691236517205 : UInt64)) + (a0 &&& (6148914691236517205 : UInt64))) 2) &&& (3689348814741910323 : UInt64)) + ((((shr64 a0 1) &&& (6148914691236517205 : UInt64)) + (a0 &&& (6148914691236517205 : UInt64))) &&& (3689348814741910323 : UInt64))) 4) + (((shr64 (((shr64 a0 1) &&& (6148914691236517205 : UInt64)) + (a0 &&& (6148914691236517205 : UInt64))) 2) &&& (3689348814741910323 : UInt64)) + ((((shr64 a0 1) &&& (6148914691236517205 : UInt64)) + (a0 &&& (6148914691236517205 : UInt64))) &&& (3689348814741910323 : UInt64)))) &&& (1085102592571150095 : UInt64)) 8)) + (shr64 ((((shr64 (((shr64 (((shr64 a0 1) &&& (6148914691236517205 : UInt64)) + (a0 &&& (6148914691236517205 : UInt64))) 2) &&& (3689348814741910323 : UInt64)) + ((((shr64 a0 1) &&& (6148914691236517205 : UInt64)) + (a0 &&& (6148914691236517205 : UInt64))) &&& (3689348814741910323 : UInt64))) 4) + (((shr64 (((shr64 a0 1) &&& (6148914691236517205 : UInt64)) + (a0 &&& (6148914691236517205 : UInt64))) 2) &&& (3689348814741910323 : UInt64)) + ((((shr64 a0 1) &&& (6148914691236517205 : UInt64)) + (a0 &&& (6148914691236517205 : UInt64))) &&& (3689348814741910323 : UInt64)))) &&& (1085102592571150095 : UInt64)) + (shr64 (((shr64 (((shr64 (((shr64 a0 1) &&& (6148914691236517205 : UInt64)) + (a0 &&& (6148914691236517205 : UInt64))) 2) &&& (3689348814741910323 : UInt64)) + ((((shr64 a0 1) &&& (6148914691236517205 : UInt64)) + (a0 &&& (6148914691236517205 : UInt64))) &&& (3689348814741910323 : UInt64))) 4) + (((shr64 (((shr64 a0 1) &&& (6148914691236517205 : UInt64)) + (a0 &&& (6148914691236517205 : UInt64))) 2) &&& (3689348814741910323 : UInt64)) + ((((shr64 a0 1) &&& (6148914691236517205 : UInt64)) + (a0 &&& (6148914691236517205 : UInt64))) &&& (3689348814741910323 : UInt64)))) &&& (1085102592571150095 : UInt64)) 8)) 16)) 32)).toNat : Int)) 127)) rfl rfl bin_and_i64) ?_
  refine WL.ex rfl (ex_assign (v := .int .i64 (andI (wrap64 (((((((shr64 (((shr64 (((shr64 a0 1) &&& (6148914691236517205 : UInt64)) + (a0 &&& (6148914691236517205 : UInt64))) 2) &&& (3689348814741910323 : UInt64)) + ((((shr64 a0 1) &&& (6148914691236517205 : UInt64)) + (a0 &&& (6148914691236517205 : UInt64))) &&& (3689348814741910323 : UInt64))) 4) + (((shr64 (((shr64 a0 1) &&& (6148914691236517205 : UInt64)) + (a0 &&& (6148914691236517205 : UInt64))) 2) &&& (3689348814741910323 : UInt64)) + ((((shr64 a0 1) &&& (6148914691236517205 : UInt64)) + (a0 &&& (6148914691236517205 : UInt64))) &&& (3689348814741910323 : UInt64)))) &&& (1085102592571150095 : UInt64)) + (shr64 (((shr64 (((shr64 (((shr64 a0 1) &&& (6148914691236517205 : UInt64)) + (a0 &&& (6148914691236517205 : UInt64))) 2) &&& (3689348814741910323 : UInt64)) + ((((shr64 a0 1) &&& (6148914691236517205 : UInt64)) + (a0 &&& (6148914691236517205 : UInt64))) &&& (3689348814741910323 : UInt64))) 4) + (((shr64 (((shr64 a0 1) &&& (6148914691236517205 : UInt64)) + (a0 &&& (6148914691236517205 : UInt64))) 2) &&& (3689348814741910323 : UInt64)) + ((((shr64 a0 1) &&& (6148914691236517205 : UInt64)) + (a0 &&& (6148914691236517205 : UInt64))) &&& (3689348814741910323 : UInt64)))) &&& (1085102592571150095 : UInt64)) 8)) + (shr64 ((((shr64 (((shr64 (((shr64 a0 1) &&& (6148914691236517205 : UInt64)) + (a0 &&& (6148914691236517205 : UInt64))) 2) &&& (3689348814741910323 : UInt64)) + ((((shr64 a0 1) &&& (6148914691236517205 : UInt64)) + (a0 &&& (6148914691236517205 : UInt64))) &&& (3689348814741910323 : UInt64))) 4) + (((shr64 (((shr64 a0 1) &&& (6148914691236517205 : UInt64)) + (a0 &&& (6148914691236517205 : UInt64))) 2) &&& (3689348814741910323 : UInt64)) + ((((shr64 a0 1) &&& (6148914691236517205 : UInt64)) + (a0 &&& (6148914691236517205 : UInt64))) &&& (3689348814741910323 : UInt64)))) &&& (1085102592571150095 : UInt64)) + (shr64 (((shr64 (((shr64 (((shr64 a0 1) &&& (6148914691236517205 : UInt64)) + (a0 &&& (6148914691236517205 : UInt64))) 2) &&& (3689348814741910323 : UInt64)) + ((((shr64 a0 1) &&& (6148914691236517205 : UInt64)) + (a0 &&& (6148914691236517205 : UInt64))) &&& (3689348814741910323 : UInt64))) 4) + (((shr64 (((shr64 a0 1) &&& (6148914691236517205 : UInt64)) + (a0 &&& (6148914691236517205 : UInt64))) 2) &&& (3689348814741910323 : UInt64)) + ((((shr64 a0 1) &&& (6148914691236517205 : UInt64)) + (a0 &&& (6148914691236517205 : UInt64))) &&& (3689348814741910323 : UInt64)))) &&& (1085102592571150095 : UInt64)) 8)) 16)) + (shr64 (((((shr64 (((shr64 (((shr64 a0 1) &&& (6148914691236517205 : UInt64)) + (a0 &&& (6148914691236517205 : UInt64))) 2) &&& (3689348814741910323 : UInt64)) + ((((shr64 a0 1) &&& (6148914691236517205 : UInt64)) + (a0 &&& (6148914691236517205 : UInt64))) &&& (3689348814741910323 : UInt64))) 4) + (((shr64 (((shr64 a0 1) &&& (6148914691236517205 : UInt64)) + (a0 &&& (6148914691236517205 : UInt64))) 2) &&& (3689348814741910323 : UInt64)) + ((((shr64 a0 1) &&& (6148914691236517205 : UInt64)) + (a0 &&& (6148914691236517205 : UInt64))) &&& (3689348814741910323 : UInt64)))) &&& (1085102592571150095 : UInt64)) + (shr64 (((shr64 (((shr64 (((shr64 a0 1) &&& (6148914691236517205 : UInt64)) + (a0 &&& (6148914691236517205 : UInt64))) 2) &&& (3689348814741910323 : UInt64)) + ((((shr64 a0 1) &&& (6148914691236517205 : UInt64)) + (a0 &&& (6148914691236517205 : UInt64))) &&& (3689348814741910323 : UInt64))) 4) + (((shr64 (((shr64 a0 1) &&& (6148914691236517205 : UInt64)) + (a0 &&& (6148914691236517205 : UInt64))) 2) &&& (3689348814741910323 : UInt64)) + ((((shr64 a0 1) &&& (6148914691236517205 : UInt64)) + (a0 &&& (6148914691236517205 : UInt64))) &&& (3689348814741910323 : UInt64)))) &&& (1085102592571150095 : UInt64)) 8)) + (shr64 ((((shr64 (((shr64 (((shr64 a0 1) &&& (6148914691236517205 : UInt64)) + (a0 &&& (6148914691236517205 : UInt64))) 2) &&& (3689348814741910323 : UInt64)) + ((((shr64 a0 1) &&& (6148914691236517205 : UInt64)) + (a0 &&& (6148914691236517205 : UInt64))) &&& (3689348814741910323 : UInt64))) 4) + (((shr64 (((shr64 a0 1) &&& (6148914691236517205 : UInt64)) + (a0 &&& (6148914691236517205 : UInt64))) 2) &&& (3689348814741910323 : UInt64)) + ((((shr64 a0 1) &&& (6148914691236517205 : UInt64)) + (a0 &&& (6148914691236517205 : UInt64))) &&& (3689348814741910323 : UInt64)))) &&& (1085102592571150095 : UInt64)) + (shr64 (((shr64 (((shr64 (((shr64 a0 1) &&& (6148914691236517205 : UInt64)) + (a0 &&& (6148914691236517205 : UInt64))) 2) &&& (3689348814741910323 : UInt64)) + ((((shr64 a0 1) &&& (6148914691236517205 : UInt64)) + (a0 &&& (6148914691236517205 : UInt64))) &&& (3689348814741910323 : UInt64))) 4) + (((shr64 (((shr64 a0 1) &&& (6148914691236517205 : UInt64)) + (a0 &&& (6148914691236517205 : UInt64))) 2) &&& (3689348814741910323 : UInt64)) + ((((shr64 a0 1) &&& (6148914691236517205 : UInt64)) + (a0 &&& (6148914691236517205 : UInt64))) &&& (3689348814741910323 : UInt64)))) &&& (1085102592571150095 : UInt64)) 8)) 16)) 32)).toNat : Int)) 127)) rfl) ?_
  refine WL.nil ?_
  refine WC.ret ?_
  obtain rfl := Option.some.inj H
  exact ⟨_, (.tmp (.int .i64 (andI (wrap64 (((((((shr64 (((shr64 (((shr64 a0 1) &&& (6148914691236517205 : UInt64)) + (a0 &&& (6148914691236517205 : UInt64))) 2) &&& (3689348814741910323 : UInt64)) + ((((shr64 a0 1) &&& (6148914691236517205 : UInt64)) + (a0 &&& (6148914691236517205 : UInt64))) &&& (3689348814741910323 : UInt64))) 4) + (((shr64 (((shr64 a0 1) &&& (6148914691236517205 : UInt64)) + (a0 &&& (6148914691236517205 : UInt64))) 2) &&& (3689348814741910323 : UInt64)) + ((((shr64 a0 1) &&& (6148914691236517205 : UInt64)) + (a0 &&& (6148914691236517205 : UInt64))) &&& (3689348814741910323 : UInt64)))) &&& (1085102592571150095 : UInt64)) + (shr64 (((shr64 (((shr64 (((shr64 a0 1) &&& (6148914691236517205 : UInt64)) + (a0 &&& (6148914691236517205 : UInt64))) 2) &&& (3689348814741910323 : UInt64)) + ((((shr64 a0 1) &&& (6148914691236517205 : UInt64)) + (a0 &&& (6148914691236517205 : UInt64))) &&& (3689348814741910323 : UInt64))) 4) + (((shr64 (((shr64 a0 1) &&& (6148914691236517205 : UInt64)) + (a0 &&& (6148914691236517205 : UInt64))) 2) &&& (3689348814741910323 : UInt64)) + ((((shr64 a0 1) &&& (6148914691236517205 : UInt64)) + (a0 &&& (6148914691236517205 : UInt64))) &&& (3689348814741910323 : UInt64)))) &&& (1085102592571150095 : UInt64)) 8)) + (shr64 ((((shr64 (((shr64 (((shr64 a0 1) &&& (6148914691236517205 : UInt64)) + (a0 &&& (6148914691236517205 : UInt64))) 2) &&& (3689348814741910323 : UInt64)) + ((((shr64 a0 1) &&& (6148914691236517205 : UInt64)) + (a0 &&& (6148914691236517205 : UInt64))) &&& (3689348814741910323 : UInt64))) 4) + (((shr64 (((shr64 a0 1) &&& (6148914691236517205 : UInt64)) + (a0 &&& (6148914691236517205 : UInt64))) 2) &&& (3689348814741910323 : UInt64)) + ((((shr64 a0 1) &&& (6148914691236517205 : UInt64)) + (a0 &&& (6148914691236517205 : UInt64))) &&& (3689348814741910323 : UInt64)))) &&& (1085102592571150095 : UInt64)) + (shr64 (((shr64 (((shr64 (((shr64 a0 1) &&& (6148914691236517205 : UInt64)) + (a0 &&& (6148914691236517205 : UInt64))) 2) &&& (3689348814741910323 : UInt64)) + ((((shr64 a0 1) &&& (6148914691236517205 : UInt64)) + (a0 &&& (6148914691236517205 : UInt64))) &&& (3689348814741910323 : UInt64))) 4) + (((shr64 (((shr64 a0 1) &&& (6148914691236517205 : UInt64)) + (a0 &&& (6148914691236517205 : UInt64))) 2) &&& (3689348814741910323 : UInt64)) + ((((shr64 a0 1) &&& (6148914691236517205 : UInt64)) + (a0 &&& (6148914691236517205 : UInt64))) &&& (3689348814741910323 : UInt64)))) &&& (1085102592571150095 : UInt64)) 8)) 16)) + (shr64 (((((shr64 (((shr64 (((shr64 a0 1) &&& (6148914691236517205 : UInt64)) + (a0 &&& (6148914691236517205 : UInt64))) 2) &&& (3689348814741910323 : UInt64)) + ((((shr64 a0 1) &&& (6148914691236517205 : UInt64)) + (a0 &&& (6148914691236517205 : UInt64))) &&& (3689348814741910323 : UInt64))) 4) + (((shr64 (((shr64 a0 1) &&& (6148914691236517205 : UInt64)) + (a0 &&& (6148914691236517205 : UInt64))) 2) &&& (3689348814741910323 : UInt64)) + ((((shr64 a0 1) &&& (6148914691236517205 : UInt64)) + (a0 &&& (6148914691236517205 : UInt64))) &&& (3689348814741910323 : UInt64)))) &&& (1085102592571150095 : UInt64)) + (shr64 (((shr64 (((shr64 (((shr64 a0 1) &&& (6148914691236517205 : UInt64)) + (a0 &&& (6148914691236517205 : UInt64))) 2) &&& (3689348814741910323 : UInt64)) + ((((shr64 a0 1) &&& (6148914691236517205 : UInt64)) + (a0 &&& (6148914691236517205 : UInt64))) &&& (3689348814741910323 : UInt64))) 4) + (((shr64 (((shr64 a0 1) &&& (6148914691236517205 : UInt64)) + (a0 &&& (6148914691236517205 : UInt64))) 2) &&& (3689348814741910323 : UInt64)) + ((((shr64 a0 1) &&& (6148914691236517205 : UInt64)) + (a0 &&& (6148914691236517205 : UInt64))) &&& (3689348814741910323 : UInt64)))) &&& (1085102592571150095 : UInt64)) 8)) + (shr64 ((((shr64 (((shr64 (((shr64 a0 1) &&& (6148914691236517205 : UInt64)) + (a0 &&& (6148914691236517205 : UInt64))) 2) &&& (3689348814741910323 : UInt64)) + ((((shr64 a0 1) &&& (6148914691236517205 : UInt64)) + (a0 &&& (6148914691236517205 : UInt64))) &&& (3689348814741910323 : UInt64))) 4) + (((shr64 (((shr64 a0 1) &&& (6148914691236517205 : UInt64)) + (a0 &&& (6148914691236517205 : UInt64))) 2) &&& (3689348814741910323 : UInt64)) + ((((shr64 a0 1) &&& (6148914691236517205 : UInt64)) + (a0 &&& (6148914691236517205 : UInt64))) &&& (3689348814741910323 : UInt64)))) &&& (1085102592571150095 : UInt64)) + (shr64 (((shr64 (((shr64 (((shr64 a0 1) &&& (6148914691236517205 : UInt64)) + (a0 &&& (6148914691236517205 : UInt64))) 2) &&& (3689348814741910323 : UInt64)) + ((((shr64 a0 1) &&& (6148914691236517205 : UInt64)) + (a0 &&& (6148914691236517205 : UInt64))) &&& (3689348814741910323 : UInt64))) 4) + (((shr64 (((shr64 a0 1) &&& (6148914691236517205 : UInt64)) + (a0 &&& (6148914691236517205 : UInt64))) 2) &&& (3689348814741910323 : UInt64)) + ((((shr64 a0 1) &&& (6148914691236517205 : UInt64)) + (a0 &&& (6148914691236517205 : UInt64))) &&& (3689348814741910323 : UInt64)))) &&& (1085102592571150095 : UInt64)) 8)) 16)) 32)).toNat : Int)) 127) : Value) rfl .nil), _, rfl, HF.out⟩

/-! ### bits_Count -/
set_option maxRecDepth 100000 in
theorem bits_Count.calls (k : Nat) (o0 : Tags) (w0 : World) (a0 : (List UInt64)) (r : Int) (hO : ∀ b, b < w0.heap.size → o0 b < 10) (hla0 : a0.length = 16) (H : bits_Count.f k a0 = some r) :
    Calls Tryd.prog 23 [.agg (List.map enc64 a0).toArray].toArray w0 fun e_ w_ => ∃ (o_ : Tags), e_ = .returned (one [.int .i64 r]) ∧ Step o0 w0 o_ w_ [] := by
  have HF := Fm.refl hO []
  unfold bits_Count.f at H
  refine SX.calls [.agg (List.map enc64 a0).toArray] Tryd.func23 rfl rfl ?_
  rw [Tryd.ntmps23]
  refine WC.seq ?_
  refine WC.region ?_
  refine WL.op rfl ?_
  refine OW.box' (List.map enc64 a0) 10 HF rfl ((congrArg Value.cells (show ev _ _ = (.agg (List.map enc64 a0).toArray : Value) from rfl)).trans rfl) ?_
  intro o102 w103 b101 s104 hB105
  replace HF := HF.step s104 rfl
  refine WL.ex rfl (ex_assign (v := .int .i64 0) rfl) ?_
  refine WL.nil ?_
  refine WC.seq ?_
  refine WC.region ?_
  refine WL.ex rfl (ex_assign (v := .int .i64 0) rfl) ?_
  refine WL.nil ?_
  refine WC.seq ?_
  refine WC.seq ?_
  refine WC.region ?_
  refine WL.ex rfl (ex_loadAV (xs := a0) rfl Tryd.underlying24 sz24 hla0 hB105) ?_
  refine WL.ex rfl (ex_move (v := .int .i64 0) rfl) ?_
  refine WL.nil ?_
  obtain ⟨z109, hz109, H⟩ := bindE H
  refine WC.for (fun k_ ρ_ w_ => ∃ (o_ : Tags) (x106 : Int) (x107 : Int), Fm o0 w0 o_ w_ [] ∧ ρ_ 2 = .int .i64 0 ∧ ρ_ 3 = .int .i64 x106 ∧ ρ_ 6 = .agg (List.map enc64 a0).toArray ∧ ρ_ 7 = .int .i64 x107 ∧ bits_Count.l1 k a0 k_ x106 x107 = some z109) k (fun ρ_ w_ => ∃ (o_ : Tags), Fm o0 w0 o_ w_ [] ∧ ρ_ 2 = .int .i64 0 ∧ ρ_ 3 = .int .i64 z109) ⟨_, 0, 0, HF, rfl, rfl, rfl, rfl, hz109⟩ ?case110 ?_
  case case110 =>
    rintro ρ122 w123 ⟨o124, HF, s2_107, s3_108⟩
    refine WC.seq ?_
    refine WC.region ?_
    refine WL.ex rfl (ex_move (v := .int .i64 z109) s3_108) ?_
    refine WL.ex rfl (ex_assign (v := .int .i64 z109) rfl) ?_
    refine WL.nil ?_
    refine WC.ret ?_
    obtain rfl := Option.some.inj H
    exact ⟨_, (.tmp (.int .i64 z109 : Value) rfl .nil), _, rfl, HF.out⟩
  have Ho111 := H
  rintro k112 ρ113 w114 ⟨o115, x106, x107, HF, s2_105, s3_106, s6_106, s7_107, H⟩
  cases k112 with
  | zero => cases H
  | succ k112 =>
  rw [bits_Count.l1.eq_2] at H
  refine WC.seq ?_
  refine WC.region ?_
  refine WL.ex rfl (ex_bin (a := .int .i64 x107) (b := .int .i64 16) (v := .bool (decide (x107 < 16))) s7_107 rfl bin_lss) ?_
  refine WL.nil ?_
  refine WC.seq ?_
  rcases condE H with ⟨c116, H⟩ | ⟨c116, H⟩
  ·
    refine WC.cond_t ((show _ = Value.bool (decide (x107 < 16)) from rfl).trans (congrArg Value.bool c116)) ?_
    refine WC.skip ?_
    refine WC.seq ?_
    refine WC.block ?_
    refine WC.seq ?_
    refine WC.region ?_
    obtain ⟨x117, hx117, H⟩ := bindE H
    refine WL.ex rfl (ex_indexAV (enc := enc64) (i := x107) s6_106 s7_107 Tryd.underlying24 Tryd.underlying22 rfl sz22 hla0 hx117) ?_
    refine WL.ex rfl (ex_assign (v := enc64 x117) rfl) ?_
    refine WL.nil ?_
    refine WC.region ?_
    refine WL.ex rfl (ex_move (v := .int .i64 x106) s3_106) ?_
    refine WL.ex rfl (ex_move (v := enc64 x117) rfl) ?_
    obtain ⟨z118, hz118, H⟩ := bindE H
    refine WL.op rfl ?_
    refine OW.call [enc64 x117] rfl Tryd.func52 (by kernel_rfl) (by kernel_rfl) (map_cons' rfl rfl) (bits_OnesCount64.calls _ _ x117 z118 (HF.ten (V := [0]) (L := []) rfl)  hz118) ?_
    rintro _ w119 ⟨o120, rfl, s121⟩
    refine ⟨_, rfl, ?_⟩
    replace s121 := un_stepL (J := []) (L' := []) s121 rfl rfl
    replace HF := HF.step s121 rfl
    refine WL.ex rfl (ex_bin (a := .int .i64 x106) (b := .int .i64 z118) (v := .int .i64 (wrap64 (x106 + z118))) rfl rfl bin_add64) ?_
    refine WL.ex rfl (ex_assign (v := .int .i64 (wrap64 (x106 + z118))) rfl) ?_
    refine WL.nil ?_
    refine WC.region ?_
    refine WL.ex rfl (ex_bin (a := .int .i64 x107) (b := .int .i64 1) (v := .int .i64 (wrap64 (x107 + 1))) s7_107 rfl bin_add64) ?_
    refine WL.ex rfl (ex_move (v := .int .i64 (wrap64 (x107 + 1))) rfl) ?_
    refine WL.nil ?_
    exact ⟨k112, Nat.lt_succ_self _, ⟨_, wrap64 (x106 + z118), wrap64 (x107 + 1), HF, s2_105, rfl, s6_106, rfl, H⟩⟩
  ·
    refine WC.cond_f ((show _ = Value.bool (decide (x107 < 16)) from rfl).trans (congrArg Value.bool c116)) ?_
    refine WC.exit ?_
    obtain rfl := Option.some.inj H
    exact ⟨_, HF, s2_105, s3_106⟩

/-! ### dictumref05_List -/
set_option maxRecDepth 100000 in
theorem dictumref05_List.calls (k : Nat) (o0 : Tags) (w0 : World) (a0 : (List UInt64)) (r : (List Int)) (hO : ∀ b, b < w0.heap.size → o0 b < 10) (hla0 : a0.length = 16) (H : dictumref05_List.f k a0 = some r) :
    Calls Tryd.prog 24 [.agg (List.map enc64 a0).toArray].toArray w0 fun e_ w_ => ∃ (o_ : Tags) (rv0 : Value), e_ = .returned (one [rv0]) ∧ Step o0 w0 o_ w_ [] ∧ Own (Rep.int .i64) 3 9 o_ w_ rv0 r := by
  have HF := Fm.refl hO []
  unfold dictumref05_List.f at H
  refine SX.calls [.agg (List.map enc64 a0).toArray] Tryd.func24 rfl rfl ?_
  rw [Tryd.ntmps24]
  refine WC.seq ?_
  refine WC.region ?_
  refine WL.op rfl ?_
  refine OW.box' (List.map enc64 a0) 10 HF rfl ((congrArg Value.cells (show ev _ _ = (.agg (List.map enc64 a0).toArray : Value) from rfl)).trans rfl) ?_
  intro o102 w103 b101 s104 hB105
  replace HF := HF.step s104 rfl
  refine WL.ex rfl (ex_assign (v := .slice none ([] : List Int).length 0) rfl) ?_
  refine WL.nil ?_
  refine WC.seq ?_
  refine WC.region ?_
  refine WL.ex rfl (ex_assign (v := .slice none ([] : List Int).length 0) rfl) ?_
  refine WL.nil ?_
  refine WC.seq ?_
  refine WC.seq ?_
  refine WC.region ?_
  refine WL.ex rfl (ex_assign (v := .int .i64 0) rfl) ?_
  refine WL.nil ?_
  obtain ⟨z113, hz113, H⟩ := bindE H
  refine WC.for (fun k_ ρ_ w_ => ∃ (o_ : Tags) (x108 : (List Int)) (x109 : Int) (v106 : Value), Fm o0 w0 o_ w_ [] ∧ Own (Rep.int .i64) 3 12 o_ w_ v106 x108 ∧ Bk o_ w_ 10 b101 (List.map enc64 a0) 24 ∧ ρ_ 1 = .pointer (some ⟨b101, 0, none⟩) ∧ ρ_ 2 = .slice none ([] : List Int).length 0 ∧ ρ_ 3 = v106 ∧ ρ_ 4 = .int .i64 x109 ∧ dictumref05_List.l1 k a0 k_ x108 x109 = some z113) k (fun ρ_ w_ => ∃ (o_ : Tags) (v110 : Value), Fm o0 w0 o_ w_ [] ∧ Own (Rep.int .i64) 3 12 o_ w_ v110 z113 ∧ ρ_ 2 = .slice none ([] : List Int).length 0 ∧ ρ_ 3 = v110) ⟨_, ([] : List Int), 0, _, HF, Own.nil, hB105, rfl, rfl, rfl, rfl, hz113⟩ ?case114 ?_
  case case114 =>
    rintro ρ149 w150 ⟨o151, v110, HF, hO111, s2_109, s3_112⟩
    refine WC.seq ?_
    refine WC.region ?_
    refine WL.ex rfl (ex_move (v := v110) s3_112) ?_
    refine WL.ex rfl (ex_assign (v := v110) rfl) ?_
    refine WL.nil ?_
    refine WC.ret ?_
    obtain rfl := Option.some.inj H
    replace hO111 := Own.renTo (j := 9) hO111 rfl
    replace HF := HF.ren (i := 12) (j := 9) rfl
    exact ⟨_, (.tmp (v110 : Value) rfl .nil), _, v110, rfl, HF.out, hO111⟩
  have Ho115 := H
  rintro k116 ρ117 w118 ⟨o119, x108, x109, v106, HF, hO107, hB105, s1_105, s2_105, s3_108, s4_109, H⟩
  cases k116 with
  | zero => cases H
  | succ k116 =>
  rw [dictumref05_List.l1.eq_2] at H
  refine WC.seq ?_
  refine WC.seq ?_
  refine WC.region ?_
  refine WL.ex rfl (ex_move (v := .int .i64 x109) s4_109) ?_
  refine WL.ex rfl (ex_bin (a := .int .i64 x109) (b := .int .i64 1024) (v := .bool (decide (x109 < 1024))) rfl rfl bin_lss) ?_
  refine WL.nil ?_
  rcases condE H with ⟨c120, H⟩ | ⟨c120, H⟩
  ·
    refine WC.cond_t ((show _ = Value.bool (decide (x109 < 1024)) from rfl).trans (congrArg Value.bool c120)) ?_
    refine WC.skip ?_
    obtain ⟨z124, hz124, H⟩ := bindE H
    refine WC.cut (fun ρ_ w_ => ∃ (o_ : Tags) (v121 : Value), Fm o0 w0 o_ w_ [] ∧ Own (Rep.int .i64) 3 12 o_ w_ v121 z124 ∧ Bk o_ w_ 10 b101 (List.map enc64 a0) 24 ∧ ρ_ 1 = .pointer (some ⟨b101, 0, none⟩) ∧ ρ_ 2 = .slice none ([] : List Int).length 0 ∧ ρ_ 3 = v121 ∧ ρ_ 4 = .int .i64 x109) ?case125 ?_
    case case125 =>
      rintro ρ128 w126 ⟨o127, v121, HF, hO122, hB105, s1_120, s2_120, s3_123, s4_123⟩
      refine WC.region ?_
      refine WL.ex rfl (ex_move (v := .int .i64 x109) s4_123) ?_
      refine WL.ex rfl (ex_bin (a := .int .i64 x109) (b := .int .i64 1) (v := .int .i64 (wrap64 (x109 + 1))) rfl rfl bin_add64) ?_
      refine WL.ex rfl (ex_assign (v := .int .i64 (wrap64 (x109 + 1))) rfl) ?_
      refine WL.nil ?_
      exact ⟨k116, Nat.lt_succ_self _, ⟨_, z124, wrap64 (x109 + 1), _, HF, hO122, hB105, s1_120, s2_120, s3_123, rfl, H⟩⟩
    have Ho129 := H
    replace H := hz124
    refine WC.block ?_
    refine WC.seq ?_
    refine WC.region ?_
    refine WL.ex rfl (ex_loadAV (xs := a0) s1_105 Tryd.underlying24 sz24 hla0 hB105) ?_
    refine WL.ex rfl (ex_move (v := .int .i64 x109) s4_109) ?_
    obtain ⟨z130, hz130, H⟩ := bindE H
    refine WL.op rfl ?_
    refine OW.call [.agg (List.map enc64 a0).toArray, .int .i64 x109] rfl Tryd.func33 (by kernel_rfl) (by kernel_rfl) (map_cons' rfl (map_cons' rfl rfl)) (dictumref05_Has.calls _ _ a0 x109 z130 (HF.ten (V := [0]) (L := []) rfl) hla0 hz130) ?_
    rintro _ w131 ⟨o132, rfl, s133⟩
    refine ⟨_, rfl, ?_⟩
    replace s133 := un_stepL (J := []) (L' := []) s133 rfl rfl
    replace hO107 := hO107.step s133 rfl rfl
    replace hB105 := hB105.step s133 rfl
    replace HF := HF.step s133 rfl
    refine WL.nil ?_
    rcases condE H with ⟨c134, H⟩ | ⟨c134, H⟩
    ·
      refine WC.cond_t ((show _ = Value.bool z130 from rfl).trans (congrArg Value.bool c134)) ?_
      refine WC.region ?_
      refine WL.ex rfl (ex_move (v := v106) s3_108) ?_
      refine WL.ex rfl (ex_move (v := .int .i64 x109) s4_109) ?_
      refine WL.op rfl ?_
      refine OW.row (r := (Rep.int .i64)) (xs := [x109]) [(0, .int .i64 x109)] [[.int .i64 x109]] 13 HF rfl Tryd.underlying38 sz3 zr3 rfl (evs_cons rfl rfl) rfl rfl ⟨rfl, trivial⟩ rfl rfl rfl rfl ?_
      intro o135 w136 v138 s137 hO139
      replace hO107 := hO107.step s137 rfl rfl
      replace hB105 := hB105.step s137 rfl
      replace HF := HF.step s137 rfl
      obtain ⟨A140, c141, q142_, _, q142⟩ := hO139.row
      obtain ⟨u143, hu143, H⟩ := bindE H
      refine WL.op rfl ?_
      refine OW.append (r := (Rep.int .i64)) (E := 3) (i := 12) rfl Tryd.underlying38 inf3 rfl (by decide) (by decide) (by decide) rfl ((show _ = (v138 : Value) from rfl).trans q142_) hO107 q142 rfl (of_decide_eq_true (chk_true hu143)) ?_
      intro o144 w145 v146 s147 hO148
      replace hB105 := hB105.step s147 rfl
      replace hO139 := hO139.step s147 rfl rfl
      replace HF := HF.step s147 rfl
      refine WL.ex rfl (ex_assign (v := v146) rfl) ?_
      refine WL.nil ?_
      obtain rfl := Option.some.inj H
      exact ⟨_, _, HF, hO148, hB105, s1_105, s2_105, rfl, s4_109⟩
    ·
      refine WC.cond_f ((show _ = Value.bool z130 from rfl).trans (congrArg Value.bool c134)) ?_
      refine WC.skip ?_
      obtain rfl := Option.some.inj H
      exact ⟨_, _, HF, hO107, hB105, s1_105, s2_105, s3_108, s4_109⟩
  ·
    refine WC.cond_f ((show _ = Value.bool (decide (x109 < 1024)) from rfl).trans (congrArg Value.bool c120)) ?_
    refine WC.exit ?_
    obtain rfl := Option.some.inj H
    exact ⟨_, _, HF, hO107, s2_105, s3_108⟩

/-! ### bits_Compare_1 -/
set_option maxRecDepth 100000 in
theorem bits_Compare_1.calls (o0 : Tags) (w0 : World) (a0 : UInt64) (a1 : UInt64) (r : UInt64) (hO : ∀ b, b < w0.heap.size → o0 b < 10) (H : bits_Compare_1.f a0 a1 = some r) :
    Calls Tryd.prog 53 [enc64 a0, enc64 a1].toArray w0 fun e_ w_ => ∃ (o_ : Tags), e_ = .returned (one [enc64 r]) ∧ Step o0 w0 o_ w_ [] := by
  have HF := Fm.refl hO []
  unfold bits_Compare_1.f at H
  refine SX.calls [enc64 a0, enc64 a1] Tryd.func53 rfl rfl ?_
  rw [Tryd.ntmps53]
  refine WC.seq ?_
  refine WC.region ?_
  refine WL.ex rfl (ex_assign (v := enc64 (0 : UInt64)) rfl) ?_
  refine WL.nil ?_
  refine WC.seq ?_
  refine WC.region ?_
  refine WL.ex rfl (ex_move (v := enc64 a0) rfl) ?_
  refine WL.ex rfl (ex_move (v := enc64 a1) rfl) ?_
  refine WL.ex rfl (ex_bin (a := enc64 a0) (b := enc64 a1) (v := enc64 (a0 ^^^ a1)) rfl rfl bin_xor_u64) ?_
  refine WL.ex rfl (ex_assign (v := enc64 (a0 ^^^ a1)) rfl) ?_
  refine WL.nil ?_
  refine WC.ret ?_
  obtain rfl := Option.some.inj H
  exact ⟨_, (.tmp (enc64 (a0 ^^^ a1) : Value) rfl .nil), _, rfl, HF.out⟩

/-! ### bits_each_bits_Compare_1 -/
set_option maxRecDepth 100000 in
theorem bits_each_bits_Compare_1.calls (k : Nat) (o0 : Tags) (w0 : World) (a0 : (List UInt64)) (a1 : (List UInt64)) (r : (List UInt64)) (hO : ∀ b, b < w0.heap.size → o0 b < 10) (hla0 : a0.length = 16) (hla1 : a1.length = 16) (H : bits_each_bits_Compare_1.f k a0 a1 = some r) :
    Calls Tryd.prog 48 [.agg (List.map enc64 a0).toArray, .agg (List.map enc64 a1).toArray, .func (.func 53) #[] #[]].toArray w0 fun e_ w_ => ∃ (o_ : Tags), e_ = .returned (one [.agg (List.map enc64 r).toArray]) ∧ Step o0 w0 o_ w_ [] ∧ r.length = 16 := by
  have HF := Fm.refl hO []
  unfold bits_each_bits_Compare_1.f at H
  refine SX.calls [.agg (List.map enc64 a0).toArray, .agg (List.map enc64 a1).toArray, .func (.func 53) #[] #[]] Tryd.func48 rfl rfl ?_
  rw [Tryd.ntmps48]
  refine WC.seq ?_
  refine WC.region ?_
  refine WL.op rfl ?_
  refine OW.box' (List.map enc64 a0) 10 HF rfl ((congrArg Value.cells (show ev _ _ = (.agg (List.map enc64 a0).toArray : Value) from rfl)).trans rfl) ?_
  intro o102 w103 b101 s104 hB105
  replace HF := HF.step s104 rfl
  refine WL.op rfl ?_
  refine OW.box' (List.map enc64 a1) 11 HF rfl ((congrArg Value.cells (show ev _ _ = (.agg (List.map enc64 a1).toArray : Value) from rfl)).trans rfl) ?_
  intro o107 w108 b106 s109 hB110
  replace hB105 := hB105.step s109 rfl
  replace HF := HF.step s109 rfl
  refine WL.op rfl ?_
  refine OW.alloc' (List.map enc64 (List.replicate 16 ((0 : UInt64)))) 12 HF rfl zr24 rfl ?_
  intro o112 w113 b111 s114 hB115
  replace hB105 := hB105.step s114 rfl
  replace hB110 := hB110.step s114 rfl
  replace HF := HF.step s114 rfl
  refine WL.nil ?_
  refine WC.seq ?_
  refine WC.seq ?_
  refine WC.region ?_
  refine WL.ex rfl (ex_move (v := .int .i64 0) rfl) ?_
  refine WL.nil ?_
  obtain ⟨z121, hz121, H⟩ := bindE H
  refine WC.for (fun k_ ρ_ w_ => ∃ (o_ : Tags) (x116 : Int) (x117 : (List UInt64)), Fm o0 w0 o_ w_ [] ∧ Bk o_ w_ 10 b101 (List.map enc64 x117) 24 ∧ x117.length = 16 ∧ Bk o_ w_ 11 b106 (List.map enc64 a1) 24 ∧ Bk o_ w_ 12 b111 (List.map enc64 (List.replicate 16 ((0 : UInt64)))) 24 ∧ ρ_ 2 = .func (.func 53) #[] #[] ∧ ρ_ 3 = .pointer (some ⟨b101, 0, none⟩) ∧ ρ_ 4 = .pointer (some ⟨b106, 0, none⟩) ∧ ρ_ 6 = .pointer (some ⟨b111, 0, none⟩) ∧ ρ_ 8 = .int .i64 x116 ∧ bits_each_bits_Compare_1.l1 k a1 k_ x116 x117 = some z121) k (fun ρ_ w_ => ∃ (o_ : Tags), Fm o0 w0 o_ w_ [] ∧ Bk o_ w_ 10 b101 (List.map enc64 z121) 24 ∧ z121.length = 16 ∧ Bk o_ w_ 12 b111 (List.map enc64 (List.replicate 16 ((0 : UInt64)))) 24 ∧ ρ_ 3 = .pointer (some ⟨b101, 0, none⟩) ∧ ρ_ 6 = .pointer (some ⟨b111, 0, none⟩)) ⟨_, 0, a0, HF, hB105, hla0, hB110, hB115, rfl, rfl, rfl, rfl, rfl, hz121⟩ ?case122 ?_
  case case122 =>
    rintro ρ142 w143 ⟨o144, HF, hB105, hl120, hB115, s3_118, s6_118⟩
    refine WC.seq ?_
    refine WC.region ?_
    refine WL.ex rfl (ex_loadAV (xs := z121) s3_118 Tryd.underlying24 sz24 hl120 hB105) ?_
    refine WL.op rfl ?_
    refine OW.storeAV (ys := z121) s6_118 rfl (fun _ => rfl) sz24 rfl hl120 hB115 ?_
    intro w145 s146 hB147
    replace hB105 := hB105.step s146 rfl
    replace HF := HF.step s146 rfl
    refine WL.nil ?_
    refine WC.ret ?_
    obtain rfl := Option.some.inj H
    exact ⟨_, (.cell (.agg (List.map enc64 z121).toArray : Value) s6_118 (run_loadAV Tryd.underlying24 sz24 hl120 hB147) .nil), _, rfl, HF.out, hl120⟩
  have Ho123 := H
  rintro k124 ρ125 w126 ⟨o127, x116, x117, HF, hB105, hl118, hB110, hB115, s2_115, s3_115, s4_115, s6_115, s8_116, H⟩
  cases k124 with
  | zero => cases H
  | succ k124 =>
  rw [bits_each_bits_Compare_1.l1.eq_2] at H
  refine WC.seq ?_
  refine WC.region ?_
  refine WL.ex rfl (ex_bin (a := .int .i64 x116) (b := .int .i64 16) (v := .bool (decide (x116 < 16))) s8_116 rfl bin_lss) ?_
  refine WL.nil ?_
  refine WC.seq ?_
  rcases condE H with ⟨c128, H⟩ | ⟨c128, H⟩
  ·
    refine WC.cond_t ((show _ = Value.bool (decide (x116 < 16)) from rfl).trans (congrArg Value.bool c128)) ?_
    refine WC.skip ?_
    refine WC.seq ?_
    refine WC.block ?_
    refine WC.seq ?_
    refine WC.region ?_
    refine WL.ex rfl (ex_move (v := .int .i64 x116) s8_116) ?_
    refine WL.ex rfl (ex_assign (v := .int .i64 x116) rfl) ?_
    refine WL.nil ?_
    refine WC.regionD' HF [10] 11 (by kernel_rfl) rfl ?_
    intro w129 s130
    replace hB105 := hB105.step s130 rfl
    replace hB110 := hB110.step s130 rfl
    replace hB115 := hB115.step s130 rfl
    replace HF := HF.step s130 rfl
    have hB105D := hB105
    have hB110D := hB110
    have hB115D := hB115
    have sR := HF.here [10]
    refine WA.norm (listed' := #[false, false, false, false, false, false, false, false, false, false, false]) (by kernel_rfl) ?_
    refine WA.ex 0 rfl (by kernel_rfl) (by kernel_rfl) (by kernel_rfl) rfl ⟨_, sR⟩ (fun w_ hS_ => ex_move (v := .int .i64 x116) rfl) ?_
    refine WA.norm (listed' := #[true, false, false, false, false, false, false, false, false, false, false]) (by kernel_rfl) ?_
    refine WA.ex 1 rfl (by kernel_rfl) (by kernel_rfl) (by kernel_rfl) rfl ⟨_, sR⟩ (fun w_ hS_ => ex_move (v := .func (.func 53) #[] #[]) s2_115) ?_
    refine WA.norm (listed' := #[true, true, false, false, false, false, false, false, false, false, false]) (by kernel_rfl) ?_
    refine WA.ex 2 rfl (by kernel_rfl) (by kernel_rfl) (by kernel_rfl) rfl ⟨_, sR⟩ (fun w_ hS_ => ex_move (v := .int .i64 x116) rfl) ?_
    refine WA.norm (listed' := #[true, true, true, false, false, false, false, false, false, false, false]) (by kernel_rfl) ?_
    obtain ⟨x131, hx131, H⟩ := bindE H
    refine WA.ex 3 rfl (by kernel_rfl) (by kernel_rfl) (by kernel_rfl) rfl ⟨_, sR⟩ (fun w_ hS_ => ex_indexArrB (i := x116) (xs := x117) s3_115 rfl Tryd.underlying24 sz22 hl118 hx131) ?_
    refine WA.norm (listed' := #[true, true, true, true, false, false, false, false, false, false, false]) (by kernel_rfl) ?_
    refine WA.ex 5 rfl (by kernel_rfl) (by kernel_rfl) (by kernel_rfl) rfl ⟨_, sR⟩ (fun w_ hS_ => ex_move (v := .int .i64 x116) rfl) ?_
    refine WA.norm (listed' := #[true, true, true, true, false, true, false, false, false, false, false]) (by kernel_rfl) ?_
    obtain ⟨x132, hx132, H⟩ := bindE H
    refine WA.ex 6 rfl (by kernel_rfl) (by kernel_rfl) (by kernel_rfl) rfl ⟨_, sR⟩ (fun w_ hS_ => ex_indexArrB (i := x116) (xs := a1) s4_115 rfl Tryd.underlying24 sz22 hla1 hx132) ?_
    refine WA.norm (listed' := #[true, true, true, true, false, true, true, false, false, false, false]) (by kernel_rfl) ?_
    refine WA.ex 7 rfl (by kernel_rfl) (by kernel_rfl) (by kernel_rfl) rfl ⟨_, sR⟩ (fun w_ hS_ => ex_loadAE (enc := enc64) rfl Tryd.underlying22 rfl (hB110D.step hS_.choose_spec rfl) hx132) ?_
    refine WA.norm (listed' := #[true, true, true, true, false, true, true, true, false, false, false]) (by kernel_rfl) ?_
    refine WA.one 4 (by kernel_rfl) rfl rfl ?_
    refine OW.ex rfl (ex_loadAE (enc := enc64) rfl Tryd.underlying22 rfl hB105 hx131) ?_
    refine ⟨⟨_, sR⟩, ?_⟩
    refine WA.norm (listed' := #[true, true, true, true, true, true, true, true, false, false, false]) (by kernel_rfl) ?_
    obtain ⟨z133, hz133, H⟩ := bindE H
    refine WA.one 8 (by kernel_rfl) rfl rfl ?_
    refine OW.callV (show ev _ _ = .func (.func 53) #[] #[] from rfl) [enc64 x131, enc64 x132] rfl Tryd.func53 (by kernel_rfl) (by kernel_rfl) (map_cons' rfl (map_cons' rfl rfl)) (bits_Compare_1.calls _ _ x131 x132 z133 (HF.ten (V := [0]) (L := []) rfl)  hz133) ?_
    rintro _ w134 ⟨o135, rfl, s136⟩
    refine ⟨_, rfl, ?_⟩
    replace s136 := un_stepL (J := []) (L' := []) s136 rfl rfl
    replace hB105 := hB105.step s136 rfl
    replace hB110 := hB110.step s136 rfl
    replace hB115 := hB115.step s136 rfl
    replace HF := HF.step s136 rfl
    replace sR := Step.trans sR s136 (M := [10]) rfl rfl
    refine ⟨⟨_, sR⟩, ?_⟩
    refine WA.norm (listed' := #[true, true, true, true, true, true, true, true, true, false, false]) (by kernel_rfl) ?_
    obtain ⟨x137, hx137, H⟩ := bindE H
    refine WA.ex 9 rfl (by kernel_rfl) (by kernel_rfl) (by kernel_rfl) rfl ⟨_, sR⟩ (fun w_ hS_ => ex_indexArrB (i := x116) (xs := x117) s3_115 rfl Tryd.underlying24 sz22 hl118 hx137) ?_
    refine WA.norm (listed' := #[true, true, true, true, true, true, true, true, true, true, false]) (by kernel_rfl) ?_
    refine WA.one 10 (by kernel_rfl) rfl rfl ?_
    refine OW.storeAE (enc := enc64) (c := z133) rfl rfl (cells64) (fun _ => rfl) sz22 hB105 hx137 ?_
    intro w138 s139 hB140
    replace hB110 := hB110.step s139 rfl
    replace hB115 := hB115.step s139 rfl
    replace HF := HF.step s139 rfl
    replace sR := Step.trans sR s139 (M := [10]) rfl rfl
    have hl141 := len_set (i := x116.toNat) (a := z133) hl118
    refine ⟨⟨_, sR⟩, ?_⟩
    refine WA.norm (listed' := #[true, true, true, true, true, true, true, true, true, true, true]) (by kernel_rfl) ?_
    refine WA.done (by kernel_rfl) ?_
    refine WC.region ?_
    refine WL.ex rfl (ex_bin (a := .int .i64 x116) (b := .int .i64 1) (v := .int .i64 (wrap64 (x116 + 1))) s8_116 rfl bin_add64) ?_
    refine WL.ex rfl (ex_move (v := .int .i64 (wrap64 (x116 + 1))) rfl) ?_
    refine WL.nil ?_
    exact ⟨k124, Nat.lt_succ_self _, ⟨_, wrap64 (x116 + 1), (x117.set x116.toNat z133), HF, hB140, hl141, hB110, hB115, s2_115, s3_115, s4_115, s6_115, rfl, H⟩⟩
  ·
    refine WC.cond_f ((show _ = Value.bool (decide (x116 < 16)) from rfl).trans (congrArg Value.bool c128)) ?_
    refine WC.exit ?_
    obtain rfl := Option.some.inj H
    exact ⟨_, HF, hB105, hl118, hB115, s3_115, s6_115⟩

/-! ### bits_Has -/
set_option maxRecDepth 100000 in
theorem bits_Has.calls (o0 : Tags) (w0 : World) (a0 : (List UInt64)) (a1 : Int) (r : Bool) (hO : ∀ b, b < w0.heap.size → o0 b < 10) (hla0 : a0.length = 16) (H : bits_Has.f a0 a1 = some r) :
    Calls Tryd.prog 32 [.agg (List.map enc64 a0).toArray, .int .i64 a1].toArray w0 fun e_ w_ => ∃ (o_ : Tags), e_ = .returned (one [.bool r]) ∧ Step o0 w0 o_ w_ [] := by
  have HF := Fm.refl hO []
  unfold bits_Has.f at H
  refine SX.calls [.agg (List.map enc64 a0).toArray, .int .i64 a1] Tryd.func32 rfl rfl ?_
  rw [Tryd.ntmps32]
  refine WC.seq ?_
  refine WC.region ?_
  refine WL.op rfl ?_
  refine OW.box' (List.map enc64 a0) 10 HF rfl ((congrArg Value.cells (show ev _ _ = (.agg (List.map enc64 a0).toArray : Value) from rfl)).trans rfl) ?_
  intro o102 w103 b101 s104 hB105
  replace HF := HF.step s104 rfl
  refine WL.ex rfl (ex_assign (v := .bool false) rfl) ?_
  refine WL.nil ?_
  refine WC.seq ?_
  refine WC.region ?_
  refine WL.ex rfl (ex_move (v := .int .i64 a1) rfl) ?_
  obtain ⟨z106, hz106, H⟩ := bindE H
  refine WL.op rfl ?_
  refine OW.call [.int .i64 a1] rfl Tryd.func46 (by kernel_rfl) (by kernel_rfl) (map_cons' rfl rfl) (bits_inside.calls _ _ a1 z106 (HF.ten (V := [0]) (L := []) rfl)  hz106) ?_
  rintro _ w107 ⟨o108, rfl, s109⟩
  refine ⟨_, rfl, ?_⟩
  replace s109 := un_stepL (J := []) (L' := []) s109 rfl rfl
  replace hB105 := hB105.step s109 rfl
  replace HF := HF.step s109 rfl
  refine WL.ex rfl (ex_move (v := .bool z106) rfl) ?_
  rcases condE H with ⟨c110, H⟩ | ⟨c110, H⟩
  ·
    refine WL.guardYes rfl rfl rfl ((show _ = Value.bool z106 from rfl).trans (congrArg Value.bool c110)) ?_
    refine OW.ex rfl (ex_move (v := .int .i64 a1) rfl) ?_
    refine WL.guardYes rfl rfl rfl ((show _ = Value.bool z106 from rfl).trans (congrArg Value.bool c110)) ?_
    refine OW.ex rfl (ex_bin (a := .int .i64 a1) (b := .int .i64 64) (v := .int .i64 (wrap64 (a1.tdiv 64))) rfl rfl (bin_quo64 (by decide))) ?_
    refine WL.guardYes rfl rfl rfl ((show _ = Value.bool z106 from rfl).trans (congrArg Value.bool c110)) ?_
    obtain ⟨x111, hx111, H⟩ := bindE H
    refine OW.ex rfl (ex_indexArrB (i := (wrap64 (a1.tdiv 64))) (xs := a0) rfl rfl Tryd.underlying24 sz22 hla0 hx111) ?_
    refine WL.guardYes rfl rfl rfl ((show _ = Value.bool z106 from rfl).trans (congrArg Value.bool c110)) ?_
    refine OW.ex rfl (ex_loadAE (enc := enc64) rfl Tryd.underlying22 rfl hB105 hx111) ?_
    refine WL.guardYes rfl rfl rfl ((show _ = Value.bool z106 from rfl).trans (congrArg Value.bool c110)) ?_
    refine OW.ex rfl (ex_move (v := .int .i64 a1) rfl) ?_
    refine WL.guardYes rfl rfl rfl ((show _ = Value.bool z106 from rfl).trans (congrArg Value.bool c110)) ?_
    refine OW.ex rfl (ex_bin (a := .int .i64 a1) (b := .int .i64 64) (v := .int .i64 (a1.tmod 64)) rfl rfl (bin_rem64 (by decide))) ?_
    refine WL.guardYes rfl rfl rfl ((show _ = Value.bool z106 from rfl).trans (congrArg Value.bool c110)) ?_
    obtain ⟨u112, hu112, H⟩ := bindE H
    refine OW.ex rfl (ex_bin (a := enc64 x111) (b := .int .i64 (a1.tmod 64)) (v := enc64 (shr64 x111 (a1.tmod 64).toNat)) rfl rfl (bin_shr_u64 (of_decide_eq_true (chk_true hu112)))) ?_
    refine WL.guardYes rfl rfl rfl ((show _ = Value.bool z106 from rfl).trans (congrArg Value.bool c110)) ?_
    refine OW.ex rfl (ex_bin (a := enc64 (shr64 x111 (a1.tmod 64).toNat)) (b := enc64 (1 : UInt64)) (v := enc64 ((shr64 x111 (a1.tmod 64).toNat) &&& (1 : UInt64))) rfl rfl bin_and_u64) ?_
    refine WL.guardYes rfl rfl rfl ((show _ = Value.bool z106 from rfl).trans (congrArg Value.bool c110)) ?_
    refine OW.ex rfl (ex_bin (a := enc64 ((shr64 x111 (a1.tmod 64).toNat) &&& (1 : UInt64))) (b := enc64 (1 : UInt64)) (v := .bool (((shr64 x111 (a1.tmod 64).toNat) &&& (1 : UInt64)) == (1 : UInt64))) rfl rfl bin_eql_u64) ?_
    refine WL.ex rfl (ex_pick_t (v := .bool (((shr64 x111 (a1.tmod 64).toNat) &&& (1 : UInt64)) == (1 : UInt64))) ((show _ = Value.bool z106 from rfl).trans (congrArg Value.bool c110)) rfl) ?_
    refine WL.ex rfl (ex_assign (v := .bool (((shr64 x111 (a1.tmod 64).toNat) &&& (1 : UInt64)) == (1 : UInt64))) rfl) ?_
    refine WL.nil ?_
    refine WC.ret ?_
    obtain rfl := Option.some.inj H
    exact ⟨_, (.tmp (.bool (((shr64 x111 (a1.tmod 64).toNat) &&& (1 : UInt64)) == (1 : UInt64)) : Value) rfl .nil), _, rfl, HF.out⟩
  ·
    refine WL.guardNo rfl rfl rfl ((show _ = Value.bool z106 from rfl).trans (congrArg Value.bool c110)) ?_
    refine WL.guardNo rfl rfl rfl ((show _ = Value.bool z106 from rfl).trans (congrArg Value.bool c110)) ?_
    refine WL.guardNo rfl rfl rfl ((show _ = Value.bool z106 from rfl).trans (congrArg Value.bool c110)) ?_
    refine WL.guardNo rfl rfl rfl ((show _ = Value.bool z106 from rfl).trans (congrArg Value.bool c110)) ?_
    refine WL.guardNo rfl rfl rfl ((show _ = Value.bool z106 from rfl).trans (congrArg Value.bool c110)) ?_
    refine WL.guardNo rfl rfl rfl ((show _ = Value.bool z106 from rfl).trans (congrArg Value.bool c110)) ?_
    refine WL.guardNo rfl rfl rfl ((show _ = Value.bool z106 from rfl).trans (congrArg Value.bool c110)) ?_
    refine WL.guardNo rfl rfl rfl ((show _ = Value.bool z106 from rfl).trans (congrArg Value.bool c110)) ?_
    refine WL.guardNo rfl rfl rfl ((show _ = Value.bool z106 from rfl).trans (congrArg Value.bool c110)) ?_
    refine WL.ex rfl (ex_pick_f (v := .bool false) ((show _ = Value.bool z106 from rfl).trans (congrArg Value.bool c110)) rfl) ?_
    refine WL.ex rfl (ex_assign (v := .bool false) rfl) ?_
    refine WL.nil ?_
    refine WC.ret ?_
    obtain rfl := Option.some.inj H
    exact ⟨_, (.tmp (.bool false : Value) rfl .nil), _, rfl, HF.out⟩

/-! ### bits_Compare -/
set_option maxRecDepth 100000 in
theorem bits_Compare.calls (k : Nat) (o0 : Tags) (w0 : World) (a0 : (List UInt64)) (a1 : (List UInt64)) (r : Int) (hO : ∀ b, b < w0.heap.size → o0 b < 10) (hla0 : a0.length = 16) (hla1 : a1.length = 16) (hG : Gl GG o0 w0) (H : bits_Compare.f k a0 a1 = some r) :
    Calls Tryd.prog 25 [.agg (List.map enc64 a0).toArray, .agg (List.map enc64 a1).toArray].toArray w0 fun e_ w_ => ∃ (o_ : Tags), e_ = .returned (one [.int .i64 r]) ∧ Step o0 w0 o_ w_ [] := by
  have HF := Fm.refl hO []
  unfold bits_Compare.f at H
  refine SX.calls [.agg (List.map enc64 a0).toArray, .agg (List.map enc64 a1).toArray] Tryd.func25 rfl rfl ?_
  rw [Tryd.ntmps25]
  refine WC.seq ?_
  refine WC.region ?_
  refine WL.op rfl ?_
  refine OW.box' (List.map enc64 a0) 10 HF rfl ((congrArg Value.cells (show ev _ _ = (.agg (List.map enc64 a0).toArray : Value) from rfl)).trans rfl) ?_
  intro o102 w103 b101 s104 hB105
  replace hG := hG.step s104 rfl
  replace HF := HF.step s104 rfl
  refine WL.op rfl ?_
  refine OW.box' (List.map enc64 a1) 11 HF rfl ((congrArg Value.cells (show ev _ _ = (.agg (List.map enc64 a1).toArray : Value) from rfl)).trans rfl) ?_
  intro o107 w108 b106 s109 hB110
  replace hG := hG.step s109 rfl
  replace hB105 := hB105.step s109 rfl
  replace HF := HF.step s109 rfl
  refine WL.ex rfl (ex_assign (v := .int .i64 0) rfl) ?_
  refine WL.nil ?_
  refine WC.seq ?_
  refine WC.region ?_
  refine WL.ex rfl (ex_loadAV (xs := a0) rfl Tryd.underlying24 sz24 hla0 hB105) ?_
  refine WL.ex rfl (ex_loadAV (xs := a1) rfl Tryd.underlying24 sz24 hla1 hB110) ?_
  obtain ⟨z111, hz111, H⟩ := bindE H
  refine WL.op rfl ?_
  refine OW.call [.agg (List.map enc64 a0).toArray, .agg (List.map enc64 a1).toArray, .func (.func 53) #[] #[]] rfl Tryd.func48 (by kernel_rfl) (by kernel_rfl) (map_cons' rfl (map_cons' rfl (map_cons' rfl rfl))) (bits_each_bits_Compare_1.calls k _ _ a0 a1 z111 (HF.ten (V := [0]) (L := []) rfl) hla0 hla1 hz111) ?_
  rintro _ w112 ⟨o113, rfl, s114, hl115⟩
  refine ⟨_, rfl, ?_⟩
  replace s114 := un_stepL (J := []) (L' := []) s114 rfl rfl
  replace hG := hG.step s114 rfl
  replace hB105 := hB105.step s114 rfl
  replace hB110 := hB110.step s114 rfl
  replace HF := HF.step s114 rfl
  obtain ⟨z116, hz116, H⟩ := bindE H
  refine WL.op rfl ?_
  refine OW.call [.agg (List.map enc64 z111).toArray, .int .i64 0] rfl Tryd.func13 (by kernel_rfl) (by kernel_rfl) (map_cons' rfl (map_cons' rfl rfl)) (bits_Next.calls k _ _ z111 0 z116 (HF.ten (V := [0]) (L := []) rfl) hl115 (Gl.vw (V := [0]) (L := []) hG rfl) hz116) ?_
  rintro _ w117 ⟨o118, rfl, s119⟩
  refine ⟨_, rfl, ?_⟩
  replace s119 := un_stepL (J := []) (L' := []) s119 rfl rfl
  replace hG := hG.step s119 rfl
  replace hB105 := hB105.step s119 rfl
  replace hB110 := hB110.step s119 rfl
  replace HF := HF.step s119 rfl
  refine WL.ex rfl (ex_move (v := .tuple #[.int .i64 z116.1, .bool z116.2]) rfl) ?_
  refine WL.ex rfl (ex_extract (vs := #[.int .i64 z116.1, .bool z116.2]) (v := .int .i64 z116.1) rfl rfl) ?_
  refine WL.ex rfl (ex_extract (vs := #[.int .i64 z116.1, .bool z116.2]) (v := .bool z116.2) rfl rfl) ?_
  refine WL.ex rfl (ex_assign (v := .int .i64 z116.1) rfl) ?_
  refine WL.ex rfl (ex_assign (v := .bool z116.2) rfl) ?_
  refine WL.nil ?_
  refine WC.seq ?_
  refine WC.block ?_
  refine WC.seq ?_
  refine WC.region ?_
  refine WL.ex rfl (ex_move (v := .bool z116.2) rfl) ?_
  refine WL.ex rfl (ex_not (b := z116.2) rfl) ?_
  refine WL.ex rfl (ex_assign (v := .bool (!z116.2)) rfl) ?_
  refine WL.nil ?_
  rcases condE H with ⟨c120, H⟩ | ⟨c120, H⟩
  ·
    refine WC.cond_t ((show _ = Value.bool (!z116.2) from rfl).trans (congrArg Value.bool c120)) ?_
    refine WC.seq ?_
    refine WC.region ?_
    refine WL.ex rfl (ex_assign (v := .int .i64 0) rfl) ?_
    refine WL.nil ?_
    refine WC.ret ?_
    obtain rfl := Option.some.inj H
    exact ⟨_, (.tmp (.int .i64 0 : Value) rfl .nil), _, rfl, HF.out⟩
  ·
    refine WC.cond_f ((show _ = Value.bool (!z116.2) from rfl).trans (congrArg Value.bool c120)) ?_
    refine WC.seq ?_
    refine WC.region ?_
    refine WL.ex rfl (ex_loadAV (xs := a0) rfl Tryd.underlying24 sz24 hla0 hB105) ?_
    refine WL.ex rfl (ex_move (v := .int .i64 z116.1) rfl) ?_
    obtain ⟨z121, hz121, H⟩ := bindE H
    refine WL.op rfl ?_
    refine OW.call [.agg (List.map enc64 a0).toArray, .int .i64 z116.1] rfl Tryd.func32 (by kernel_rfl) (by kernel_rfl) (map_cons' rfl (map_cons' rfl rfl)) (bits_Has.calls _ _ a0 z116.1 z121 (HF.ten (V := [0]) (L := []) rfl) hla0 hz121) ?_
    rintro _ w122 ⟨o123, rfl, s124⟩
    refine ⟨_, rfl, ?_⟩
    replace s124 := un_stepL (J := []) (L' := []) s124 rfl rfl
    replace hG := hG.step s124 rfl
    replace hB105 := hB105.step s124 rfl
    replace hB110 := hB110.step s124 rfl
    replace HF := HF.step s124 rfl
    refine WL.ex rfl (ex_assign (v := .bool z121) rfl) ?_
    refine WL.nil ?_
    rcases condE H with ⟨c125, H⟩ | ⟨c125, H⟩
    ·
      refine WC.cond_t ((show _ = Value.bool z121 from rfl).trans (congrArg Value.bool c125)) ?_
      refine WC.seq ?_
      refine WC.region ?_
      refine WL.ex rfl (ex_assign (v := .int .i64 (-1)) rfl) ?_
      refine WL.nil ?_
      refine WC.ret ?_
      obtain rfl := Option.some.inj H
      exact ⟨_, (.tmp (.int .i64 (-1) : Value) rfl .nil), _, rfl, HF.out⟩
    ·
      refine WC.cond_f ((show _ = Value.bool z121 from rfl).trans (congrArg Value.bool c125)) ?_
      refine WC.skip ?_
      refine WC.seq ?_
      refine WC.region ?_
      refine WL.ex rfl (ex_assign (v := .int .i64 1) rfl) ?_
      refine WL.nil ?_
      refine WC.ret ?_
      obtain rfl := Option.some.inj H
      exact ⟨_, (.tmp (.int .i64 1 : Value) rfl .nil), _, rfl, HF.out⟩
end Go.Proofs.YtfdocckaobmgeaaDoor.X
