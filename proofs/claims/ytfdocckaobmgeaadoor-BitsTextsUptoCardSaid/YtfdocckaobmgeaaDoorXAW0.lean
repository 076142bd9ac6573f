import Derived.Test.YtfdocckaobmgeaaDoorXAD
import Derived.Test.YtfdocckaobmgeaaDoorProg
import Derived.Test.YtfdocckaobmgeaaDoorSxS
import Derived.Test.YtfdocckaobmgeaaDoorShelf
set_option maxRecDepth 20000
set_option linter.unusedVariables false
set_option linter.unusedSimpArgs false
set_option linter.unnecessarySimpa false
namespace Go.Proofs.YtfdocckaobmgeaaDoor.X
open Go Go.RowKit Go.Proofs.YtfdocckaobmgeaaDoor.SX
/-! What the program's variables hold -/
def GG : Glob := { L := [2, 3, 6, 0, 4, 5], T := fun w => Lib.Utf8Tabs 2 3 w ∧ Lib.TabIs Tryd.prog w "internal/strconv.uint64pow10" .u64 Lib.pow10Tab ∧ Lib.TabIs Tryd.prog w "math/bits.deBruijn64tab" .u8 db64I ∧ (∃ tp p, w.var? Tryd.prog "strconv.ErrSyntax" = some #[.iface tp p]) ∧ (∃ tp p, w.var? Tryd.prog "strconv.ErrRange" = some #[.iface tp p]), move := fun {w w'} hk h => ⟨⟨fun c hc => by rw [cell_move (w := w) (hk 2 (by simp))]; exact h.1.1 c hc, fun i hi => ⟨by rw [cell_move (w := w) (hk 3 (by simp))]; exact (h.1.2 i hi).1, by rw [cell_move (w := w) (hk 3 (by simp))]; exact (h.1.2 i hi).2⟩⟩, (var_move (by kernel_rfl : Tryd.prog.globalNamed "internal/strconv.uint64pow10" = some 6) (hk 6 (by simp))).trans h.2.1, (var_move (by kernel_rfl : Tryd.prog.globalNamed "math/bits.deBruijn64tab" = some 0) (hk 0 (by simp))).trans h.2.2.1, (by obtain ⟨tp, p, e⟩ := h.2.2.2.1; exact ⟨tp, p, (var_move (by kernel_rfl : Tryd.prog.globalNamed "strconv.ErrSyntax" = some 4) (hk 4 (by simp))).trans e⟩), (by obtain ⟨tp, p, e⟩ := h.2.2.2.2; exact ⟨tp, p, (var_move (by kernel_rfl : Tryd.prog.globalNamed "strconv.ErrRange" = some 5) (hk 5 (by simp))).trans e⟩)⟩ }

theorem inf9 : (Tryd.prog.info? 9).map (fun i => (i.zero, i.size, i.bytes)) = some (some (.string ⟨#[]⟩), 1, 16) := by kernel_rfl
theorem sz3 : (Tryd.prog.info? 3).map (·.size) = some 1 := by kernel_rfl
theorem sz5 : (Tryd.prog.info? 5).map (·.size) = some 1 := by kernel_rfl
theorem sz9 : (Tryd.prog.info? 9).map (·.size) = some 1 := by kernel_rfl
theorem sz22 : (Tryd.prog.info? 22).map (·.size) = some 1 := by kernel_rfl
theorem sz24 : (Tryd.prog.info? 24).map (·.size) = some 16 := by kernel_rfl
theorem sz26 : (Tryd.prog.info? 26).map (·.size) = some 1 := by kernel_rfl
theorem zr3 : (Tryd.prog.info? 3).map (·.zero) = some (some (.int .i64 0)) := by kernel_rfl
theorem zr5 : (Tryd.prog.info? 5).map (·.zero) = some (some (.int .u8 0)) := by kernel_rfl
theorem zr9 : (Tryd.prog.info? 9).map (·.zero) = some (some (.string ⟨#[]⟩)) := by kernel_rfl
theorem zr24 : (Tryd.prog.info? 24).map (·.zero) = some (some (.agg #[.int .u64 0, .int .u64 0, .int .u64 0, .int .u64 0, .int .u64 0, .int .u64 0, .int .u64 0, .int .u64 0, .int .u64 0, .int .u64 0, .int .u64 0, .int .u64 0, .int .u64 0, .int .u64 0, .int .u64 0, .int .u64 0])) := by kernel_rfl
theorem zr26 : (Tryd.prog.info? 26).map (·.zero) = some (some (.int .i64 0)) := by kernel_rfl

/-! ### bits_inside -/
set_option maxRecDepth 100000 in
theorem bits_inside.calls (o0 : Tags) (w0 : World) (a0 : Int) (r : Bool) (hO : ∀ b, b < w0.heap.size → o0 b < 10) (H : bits_inside.f a0 = some r) :
    Calls Tryd.prog 46 [.int .i64 a0].toArray w0 fun e_ w_ => ∃ (o_ : Tags), e_ = .returned (one [.bool r]) ∧ Step o0 w0 o_ w_ [] := by
  have HF := Fm.refl hO []
  unfold bits_inside.f at H
  refine SX.calls [.int .i64 a0] Tryd.func46 rfl rfl ?_
  rw [Tryd.ntmps46]
  refine WC.seq ?_
  refine WC.region ?_
  refine WL.ex rfl (ex_assign (v := .bool false) rfl) ?_
  refine WL.nil ?_
  refine WC.seq ?_
  refine WC.region ?_
  refine WL.ex rfl (ex_move (v := .int .i64 a0) rfl) ?_
  refine WL.ex rfl (ex_bin (a := .int .i64 a0) (b := .int .i64 0) (v := .bool (decide (a0 ≥ 0))) rfl rfl bin_geq) ?_
  refine WL.ex rfl (ex_move (v := .bool (decide (a0 ≥ 0))) rfl) ?_
  rcases condE H with ⟨c101, H⟩ | ⟨c101, H⟩
  ·
    refine WL.guardYes rfl rfl rfl ((show _ = Value.bool (decide (a0 ≥ 0)) from rfl).trans (congrArg Value.bool c101)) ?_
    refine OW.ex rfl (ex_move (v := .int .i64 a0) rfl) ?_
    refine WL.guardYes rfl rfl rfl ((show _ = Value.bool (decide (a0 ≥ 0)) from rfl).trans (congrArg Value.bool c101)) ?_
    refine OW.ex rfl (ex_bin (a := .int .i64 a0) (b := .int .i64 1024) (v := .bool (decide (a0 < 1024))) rfl rfl bin_lss) ?_
    refine WL.ex rfl (ex_pick_t (v := .bool (decide (a0 < 1024))) ((show _ = Value.bool (decide (a0 ≥ 0)) from rfl).trans (congrArg Value.bool c101)) rfl) ?_
    refine WL.ex rfl (ex_assign (v := .bool (decide (a0 < 1024))) rfl) ?_
    refine WL.nil ?_
    refine WC.ret ?_
    obtain rfl := Option.some.inj H
    exact ⟨_, (.tmp (.bool (decide (a0 < 1024)) : Value) rfl .nil), _, rfl, HF.out⟩
  ·
    refine WL.guardNo rfl rfl rfl ((show _ = Value.bool (decide (a0 ≥ 0)) from rfl).trans (congrArg Value.bool c101)) ?_
    refine WL.guardNo rfl rfl rfl ((show _ = Value.bool (decide (a0 ≥ 0)) from rfl).trans (congrArg Value.bool c101)) ?_
    refine WL.ex rfl (ex_pick_f (v := .bool false) ((show _ = Value.bool (decide (a0 ≥ 0)) from rfl).trans (congrArg Value.bool c101)) rfl) ?_
    refine WL.ex rfl (ex_assign (v := .bool false) rfl) ?_
    refine WL.nil ?_
    refine WC.ret ?_
    obtain rfl := Option.some.inj H
    exact ⟨_, (.tmp (.bool false : Value) rfl .nil), _, rfl, HF.out⟩

/-! ### bits_TrailingZeros64 -/
set_option maxRecDepth 100000 in
theorem bits_TrailingZeros64.calls (o0 : Tags) (w0 : World) (a0 : UInt64) (r : Int) (hO : ∀ b, b < w0.heap.size → o0 b < 10) (hG : Gl GG o0 w0) (H : bits_TrailingZeros64.f a0 = some r) :
    Calls Tryd.prog 47 [enc64 a0].toArray w0 fun e_ w_ => ∃ (o_ : Tags), e_ = .returned (one [.int .i64 r]) ∧ Step o0 w0 o_ w_ [] := by
  have HF := Fm.refl hO []
  unfold bits_TrailingZeros64.f at H
  refine SX.calls [enc64 a0] Tryd.func47 rfl rfl ?_
  rw [Tryd.ntmps47]
  refine WC.seq ?_
  refine WC.region ?_
  refine WL.ex rfl (ex_assign (v := .int .i64 0) rfl) ?_
  refine WL.nil ?_
  refine WC.seq ?_
  refine WC.seq ?_
  refine WC.region ?_
  refine WL.ex rfl (ex_move (v := enc64 a0) rfl) ?_
  refine WL.ex rfl (ex_bin (a := enc64 a0) (b := enc64 (0 : UInt64)) (v := .bool (a0 == (0 : UInt64))) rfl rfl bin_eql_u64) ?_
  refine WL.nil ?_
  rcases condE H with ⟨c101, H⟩ | ⟨c101, H⟩
  ·
    refine WC.cond_t ((show _ = Value.bool (a0 == (0 : UInt64)) from rfl).trans (congrArg Value.bool c101)) ?_
    refine WC.seq ?_
    refine WC.region ?_
    refine WL.ex rfl (ex_assign (v := .int .i64 64) rfl) ?_
    refine WL.nil ?_
    refine WC.ret ?_
    obtain rfl := Option.some.inj H
    exact ⟨_, (.tmp (.int .i64 64 : Value) rfl .nil), _, rfl, HF.out⟩
  ·
    refine WC.cond_f ((show _ = Value.bool (a0 == (0 : UInt64)) from rfl).trans (congrArg Value.bool c101)) ?_
    refine WC.skip ?_
    refine WC.seq ?_
    refine WC.region ?_
    refine WL.ex rfl (ex_move (v := enc64 a0) rfl) ?_
    refine WL.ex rfl (ex_move (v := enc64 a0) rfl) ?_
    refine WL.ex rfl (ex_neg_u64 (a := a0) rfl) ?_
    refine WL.ex rfl (ex_bin (a := enc64 a0) (b := enc64 (0 - a0)) (v := enc64 (a0 &&& (0 - a0))) rfl rfl bin_and_u64) ?_
    refine WL.ex rfl (ex_bin (a := enc64 (a0 &&& (0 - a0))) (b := enc64 (285870213051353865 : UInt64)) (v := enc64 ((a0 &&& (0 - a0)) * (285870213051353865 : UInt64))) rfl rfl bin_mul_u64) ?_
    refine WL.ex rfl (ex_bin (a := enc64 ((a0 &&& (0 - a0)) * (285870213051353865 : UInt64))) (b := enc64 (58 : UInt64)) (v := enc64 (shr64 ((a0 &&& (0 - a0)) * (285870213051353865 : UInt64)) 58)) rfl rfl (bin_shr_u64n (n := 58))) ?_
    obtain ⟨x102, hx102, H⟩ := bindE H
    refine WL.ex rfl (ex_indexArrB (xs := db64) (i := ((shr64 ((a0 &&& (0 - a0)) * (285870213051353865 : UInt64)) 58).toNat : Int)) rfl rfl Tryd.underlying82 sz5 rfl hx102) ?_
    refine WL.ex rfl (ex_load1 (v := enc8 x102) rfl Tryd.underlying5 rfl (tab8_cell (xs := db64) (by kernel_rfl) hG.2.2.2.1 hx102)) ?_
    refine WL.ex rfl (ex_conv_small (a := (x102.toNat : Int)) rfl Tryd.underlying5 Tryd.underlying3 (small8 x102)) ?_
    refine WL.ex rfl (ex_assign (v := .int .i64 (x102.toNat : Int)) rfl) ?_
    refine WL.nil ?_
    refine WC.ret ?_
    obtain rfl := Option.some.inj H
    exact ⟨_, (.tmp (.int .i64 (x102.toNat : Int) : Value) rfl .nil), _, rfl, HF.out⟩

/-! ### bits_Next -/
set_option maxRecDepth 100000 in
theorem bits_Next.calls (k : Nat) (o0 : Tags) (w0 : World) (a0 : (List UInt64)) (a1 : Int) (r : Int × Bool) (hO : ∀ b, b < w0.heap.size → o0 b < 10) (hla0 : a0.length = 16) (hG : Gl GG o0 w0) (H : bits_Next.f k a0 a1 = some r) :
    Calls Tryd.prog 13 [.agg (List.map enc64 a0).toArray, .int .i64 a1].toArray w0 fun e_ w_ => ∃ (o_ : Tags), e_ = .returned (one [.int .i64 r.1, .bool r.2]) ∧ Step o0 w0 o_ w_ [] := by
  have HF := Fm.refl hO []
  unfold bits_Next.f at H
  refine SX.calls [.agg (List.map enc64 a0).toArray, .int .i64 a1] Tryd.func13 rfl rfl ?_
  rw [Tryd.ntmps13]
  refine WC.seq ?_
  refine WC.region ?_
  refine WL.op rfl ?_
  refine OW.box' (List.map enc64 a0) 10 HF rfl ((congrArg Value.cells (show ev _ _ = (.agg (List.map enc64 a0).toArray : Value) from rfl)).trans rfl) ?_
  intro o102 w103 b101 s104 hB105
  replace hG := hG.step s104 rfl
  replace HF := HF.step s104 rfl
  refine WL.ex rfl (ex_assign (v := .int .i64 0) rfl) ?_
  refine WL.ex rfl (ex_assign (v := .bool false) rfl) ?_
  refine WL.nil ?_
  refine WC.seq ?_
  refine WC.region ?_
  refine WL.ex rfl (ex_move (v := .int .i64 a1) rfl) ?_
  refine WL.ex rfl (ex_max (a := a1) (b := 0) rfl rfl) ?_
  refine WL.ex rfl (ex_assign (v := .int .i64 (if 0 > a1 then 0 else a1)) rfl) ?_
  refine WL.nil ?_
  refine WC.seq ?_
  refine WC.seq ?_
  refine WC.region ?_
  refine WL.ex rfl (ex_move (v := .int .i64 (if 0 > a1 then 0 else a1)) rfl) ?_
  obtain ⟨z106, hz106, H⟩ := bindE H
  refine WL.op rfl ?_
  refine OW.call [.int .i64 (if 0 > a1 then 0 else a1)] rfl Tryd.func46 (by kernel_rfl) (by kernel_rfl) (map_cons' rfl rfl) (bits_inside.calls _ _ (if 0 > a1 then 0 else a1) z106 (HF.ten (V := [0]) (L := []) rfl)  hz106) ?_
  rintro _ w107 ⟨o108, rfl, s109⟩
  refine ⟨_, rfl, ?_⟩
  replace s109 := un_stepL (J := []) (L' := []) s109 rfl rfl
  replace hG := hG.step s109 rfl
  replace hB105 := hB105.step s109 rfl
  replace HF := HF.step s109 rfl
  refine WL.ex rfl (ex_not (b := z106) rfl) ?_
  refine WL.nil ?_
  rcases condE H with ⟨c110, H⟩ | ⟨c110, H⟩
  ·
    refine WC.cond_t ((show _ = Value.bool (!z106) from rfl).trans (congrArg Value.bool c110)) ?_
    refine WC.seq ?_
    refine WC.region ?_
    refine WL.ex rfl (ex_assign (v := .int .i64 0) rfl) ?_
    refine WL.ex rfl (ex_assign (v := .bool false) rfl) ?_
    refine WL.nil ?_
    refine WC.ret ?_
    obtain rfl := Option.some.inj H
    exact ⟨_, (.tmp (.int .i64 0 : Value) rfl (.tmp (.bool false : Value) rfl .nil)), _, rfl, HF.out⟩
  ·
    refine WC.cond_f ((show _ = Value.bool (!z106) from rfl).trans (congrArg Value.bool c110)) ?_
    refine WC.skip ?_
    refine WC.seq ?_
    refine WC.regionD' HF [10] 10 (by kernel_rfl) rfl ?_
    intro w111 s112
    replace hG := hG.step s112 rfl
    replace hB105 := hB105.step s112 rfl
    replace HF := HF.step s112 rfl
    have hGD := hG
    have hB105D := hB105
    have sR := HF.here [10]
    refine WA.norm (listed' := #[false, false, false, false, false, false, false, false, false, false]) (by kernel_rfl) ?_
    refine WA.ex 0 rfl (by kernel_rfl) (by kernel_rfl) (by kernel_rfl) rfl ⟨_, sR⟩ (fun w_ hS_ => ex_move (v := .int .i64 (if 0 > a1 then 0 else a1)) rfl) ?_
    refine WA.norm (listed' := #[true, false, false, false, false, false, false, false, false, false]) (by kernel_rfl) ?_
    refine WA.ex 1 rfl (by kernel_rfl) (by kernel_rfl) (by kernel_rfl) rfl ⟨_, sR⟩ (fun w_ hS_ => ex_bin (a := .int .i64 (if 0 > a1 then 0 else a1)) (b := .int .i64 64) (v := .int .i64 (wrap64 ((if 0 > a1 then 0 else a1).tdiv 64))) rfl rfl (bin_quo64 (by decide))) ?_
    refine WA.norm (listed' := #[true, true, false, false, false, false, false, false, false, false]) (by kernel_rfl) ?_
    obtain ⟨x113, hx113, H⟩ := bindE H
    refine WA.ex 2 rfl (by kernel_rfl) (by kernel_rfl) (by kernel_rfl) rfl ⟨_, sR⟩ (fun w_ hS_ => ex_indexArrB (i := (wrap64 ((if 0 > a1 then 0 else a1).tdiv 64))) (xs := a0) rfl rfl Tryd.underlying24 sz22 hla0 hx113) ?_
    refine WA.norm (listed' := #[true, true, true, false, false, false, false, false, false, false]) (by kernel_rfl) ?_
    refine WA.ex 4 rfl (by kernel_rfl) (by kernel_rfl) (by kernel_rfl) rfl ⟨_, sR⟩ (fun w_ hS_ => ex_move (v := .int .i64 (if 0 > a1 then 0 else a1)) rfl) ?_
    refine WA.norm (listed' := #[true, true, true, false, true, false, false, false, false, false]) (by kernel_rfl) ?_
    refine WA.ex 5 rfl (by kernel_rfl) (by kernel_rfl) (by kernel_rfl) rfl ⟨_, sR⟩ (fun w_ hS_ => ex_bin (a := .int .i64 (if 0 > a1 then 0 else a1)) (b := .int .i64 64) (v := .int .i64 ((if 0 > a1 then 0 else a1).tmod 64)) rfl rfl (bin_rem64 (by decide))) ?_
    refine WA.norm (listed' := #[true, true, true, false, true, true, false, false, false, false]) (by kernel_rfl) ?_
    obtain ⟨u114, hu114, H⟩ := bindE H
    refine WA.ex 6 rfl (by kernel_rfl) (by kernel_rfl) (by kernel_rfl) rfl ⟨_, sR⟩ (fun w_ hS_ => ex_bin (a := enc64 (18446744073709551615 : UInt64)) (b := .int .i64 ((if 0 > a1 then 0 else a1).tmod 64)) (v := enc64 (shl64 (18446744073709551615 : UInt64) ((if 0 > a1 then 0 else a1).tmod 64).toNat)) rfl rfl (bin_shl_u64 (of_decide_eq_true (chk_true hu114)))) ?_
    refine WA.norm (listed' := #[true, true, true, false, true, true, true, false, false, false]) (by kernel_rfl) ?_
    refine WA.one 3 (by kernel_rfl) rfl rfl ?_
    refine OW.ex rfl (ex_loadAE (enc := enc64) rfl Tryd.underlying22 rfl hB105 hx113) ?_
    refine ⟨⟨_, sR⟩, ?_⟩
    refine WA.norm (listed' := #[true, true, true, true, true, true, true, false, false, false]) (by kernel_rfl) ?_
    refine WA.ex 7 rfl (by kernel_rfl) (by kernel_rfl) (by kernel_rfl) rfl ⟨_, sR⟩ (fun w_ hS_ => ex_bin (a := enc64 x113) (b := enc64 (shl64 (18446744073709551615 : UInt64) ((if 0 > a1 then 0 else a1).tmod 64).toNat)) (v := enc64 (x113 &&& (shl64 (18446744073709551615 : UInt64) ((if 0 > a1 then 0 else a1).tmod 64).toNat))) rfl rfl bin_and_u64) ?_
    refine WA.norm (listed' := #[true, true, true, true, true, true, true, true, false, false]) (by kernel_rfl) ?_
    obtain ⟨x115, hx115, H⟩ := bindE H
    refine WA.ex 8 rfl (by kernel_rfl) (by kernel_rfl) (by kernel_rfl) rfl ⟨_, sR⟩ (fun w_ hS_ => ex_indexArrB (i := (wrap64 ((if 0 > a1 then 0 else a1).tdiv 64))) (xs := a0) rfl rfl Tryd.underlying24 sz22 hla0 hx115) ?_
    refine WA.norm (listed' := #[true, true, true, true, true, true, true, true, true, false]) (by kernel_rfl) ?_
    refine WA.one 9 (by kernel_rfl) rfl rfl ?_
    refine OW.storeAE (enc := enc64) (c := (x113 &&& (shl64 (18446744073709551615 : UInt64) ((if 0 > a1 then 0 else a1).tmod 64).toNat))) rfl rfl (cells64) (fun _ => rfl) sz22 hB105 hx115 ?_
    intro w116 s117 hB118
    replace hG := hG.step s117 rfl
    replace HF := HF.step s117 rfl
    replace sR := Step.trans sR s117 (M := [10]) rfl rfl
    have hl119 := len_set (i := (wrap64 ((if 0 > a1 then 0 else a1).tdiv 64)).toNat) (a := (x113 &&& (shl64 (18446744073709551615 : UInt64) ((if 0 > a1 then 0 else a1).tmod 64).toNat))) hla0
    refine ⟨⟨_, sR⟩, ?_⟩
    refine WA.norm (listed' := #[true, true, true, true, true, true, true, true, true, true]) (by kernel_rfl) ?_
    refine WA.done (by kernel_rfl) ?_
    refine WC.seq ?_
    refine WC.seq ?_
    refine WC.region ?_
    refine WL.ex rfl (ex_move (v := .int .i64 (if 0 > a1 then 0 else a1)) rfl) ?_
    refine WL.ex rfl (ex_bin (a := .int .i64 (if 0 > a1 then 0 else a1)) (b := .int .i64 64) (v := .int .i64 (wrap64 ((if 0 > a1 then 0 else a1).tdiv 64))) rfl rfl (bin_quo64 (by decide))) ?_
    refine WL.ex rfl (ex_assign (v := .int .i64 (wrap64 ((if 0 > a1 then 0 else a1).tdiv 64))) rfl) ?_
    refine WL.nil ?_
    obtain ⟨z121, hz121, H⟩ := bindE H
    refine WC.for (fun k_ ρ_ w_ => ∃ (o_ : Tags) (x120 : Int), Fm o0 w0 o_ w_ [] ∧ Bk o_ w_ 10 b101 (List.map enc64 (a0.set (wrap64 ((if 0 > a1 then 0 else a1).tdiv 64)).toNat (x113 &&& (shl64 (18446744073709551615 : UInt64) ((if 0 > a1 then 0 else a1).tmod 64).toNat)))) 24 ∧ Gl GG o_ w_ ∧ ρ_ 2 = .pointer (some ⟨b101, 0, none⟩) ∧ ρ_ 4 = .int .i64 0 ∧ ρ_ 5 = .bool false ∧ ρ_ 6 = .int .i64 x120 ∧ bits_Next.l1 k a0 a1 x113 k_ x120 = some z121) k (fun ρ_ w_ => ∃ (o_ : Tags), Fm o0 w0 o_ w_ [] ∧ Gl GG o_ w_ ∧ ρ_ 4 = .int .i64 0 ∧ ρ_ 5 = .bool false ∧ z121 = .inr ()) ⟨_, wrap64 ((if 0 > a1 then 0 else a1).tdiv 64), HF, hB118, hG, rfl, rfl, rfl, rfl, hz121⟩ ?case122 ?_
    case case122 =>
      rintro ρ136 w137 ⟨o138, HF, hG, s4_120, s5_120, rfl⟩
      dsimp only at H
      refine WC.seq ?_
      refine WC.region ?_
      refine WL.ex rfl (ex_assign (v := .int .i64 0) rfl) ?_
      refine WL.ex rfl (ex_assign (v := .bool false) rfl) ?_
      refine WL.nil ?_
      refine WC.ret ?_
      obtain rfl := Option.some.inj H
      exact ⟨_, (.tmp (.int .i64 0 : Value) rfl (.tmp (.bool false : Value) rfl .nil)), _, rfl, HF.out⟩
    have Ho123 := H
    rintro k124 ρ125 w126 ⟨o127, x120, HF, hB118, hG, s2_119, s4_119, s5_119, s6_120, H⟩
    cases k124 with
    | zero => cases H
    | succ k124 =>
    rw [bits_Next.l1.eq_2] at H
    refine WC.seq ?_
    refine WC.seq ?_
    refine WC.region ?_
    refine WL.ex rfl (ex_move (v := .int .i64 x120) s6_120) ?_
    refine WL.ex rfl (ex_bin (a := .int .i64 x120) (b := .int .i64 16) (v := .bool (decide (x120 < 16))) rfl rfl bin_lss) ?_
    refine WL.nil ?_
    rcases condE H with ⟨c128, H⟩ | ⟨c128, H⟩
    ·
      refine WC.cond_t ((show _ = Value.bool (decide (x120 < 16)) from rfl).trans (congrArg Value.bool c128)) ?_
      refine WC.skip ?_
      refine WC.seq ?_
      refine WC.block ?_
      refine WC.seq ?_
      refine WC.region ?_
      refine WL.ex rfl (ex_move (v := .int .i64 x120) s6_120) ?_
      obtain ⟨x129, hx129, H⟩ := bindE H
      refine WL.ex rfl (ex_indexArrB (i := x120) (xs := (a0.set (wrap64 ((if 0 > a1 then 0 else a1).tdiv 64)).toNat (x113 &&& (shl64 (18446744073709551615 : UInt64) ((if 0 > a1 then 0 else a1).tmod 64).toNat)))) s2_119 rfl Tryd.underlying24 sz22 hl119 hx129) ?_
      refine WL.ex rfl (ex_loadAE (enc := enc64) rfl Tryd.underlying22 rfl hB118 hx129) ?_
      refine WL.ex rfl (ex_bin (a := enc64 x129) (b := enc64 (0 : UInt64)) (v := .bool (!(x129 == (0 : UInt64)))) rfl rfl bin_neq_u64) ?_
      refine WL.nil ?_
      rcases condE H with ⟨c130, H⟩ | ⟨c130, H⟩
      ·
        refine WC.cond_t ((show _ = Value.bool (!(x129 == (0 : UInt64))) from rfl).trans (congrArg Value.bool c130)) ?_
        refine WC.seq ?_
        refine WC.region ?_
        refine WL.ex rfl (ex_move (v := .int .i64 x120) s6_120) ?_
        refine WL.ex rfl (ex_bin (a := .int .i64 64) (b := .int .i64 x120) (v := .int .i64 (wrap64 (64 * x120))) rfl rfl bin_mul64) ?_
        refine WL.ex rfl (ex_move (v := .int .i64 x120) s6_120) ?_
        obtain ⟨x131, hx131, H⟩ := bindE H
        refine WL.ex rfl (ex_indexArrB (i := x120) (xs := (a0.set (wrap64 ((if 0 > a1 then 0 else a1).tdiv 64)).toNat (x113 &&& (shl64 (18446744073709551615 : UInt64) ((if 0 > a1 then 0 else a1).tmod 64).toNat)))) s2_119 rfl Tryd.underlying24 sz22 hl119 hx131) ?_
        refine WL.ex rfl (ex_loadAE (enc := enc64) rfl Tryd.underlying22 rfl hB118 hx131) ?_
        obtain ⟨z132, hz132, H⟩ := bindE H
        refine WL.op rfl ?_
        refine OW.call [enc64 x131] rfl Tryd.func47 (by kernel_rfl) (by kernel_rfl) (map_cons' rfl rfl) (bits_TrailingZeros64.calls _ _ x131 z132 (HF.ten (V := [0]) (L := []) rfl) (Gl.vw (V := [0]) (L := []) hG rfl) hz132) ?_
        rintro _ w133 ⟨o134, rfl, s135⟩
        refine ⟨_, rfl, ?_⟩
        replace s135 := un_stepL (J := []) (L' := []) s135 rfl rfl
        replace hB118 := hB118.step s135 rfl
        replace hG := hG.step s135 rfl
        replace HF := HF.step s135 rfl
        refine WL.ex rfl (ex_bin (a := .int .i64 (wrap64 (64 * x120))) (b := .int .i64 z132) (v := .int .i64 (wrap64 ((wrap64 (64 * x120)) + z132))) rfl rfl bin_add64) ?_
        refine WL.ex rfl (ex_assign (v := .int .i64 (wrap64 ((wrap64 (64 * x120)) + z132))) rfl) ?_
        refine WL.ex rfl (ex_assign (v := .bool true) rfl) ?_
        refine WL.nil ?_
        refine WC.ret ?_
        obtain rfl := Option.some.inj H
        replace H := Ho123
        dsimp only at H
        obtain rfl := Option.some.inj H
        exact ⟨_, (.tmp (.int .i64 (wrap64 ((wrap64 (64 * x120)) + z132)) : Value) rfl (.tmp (.bool true : Value) rfl .nil)), _, rfl, HF.out⟩
      ·
        refine WC.cond_f ((show _ = Value.bool (!(x129 == (0 : UInt64))) from rfl).trans (congrArg Value.bool c130)) ?_
        refine WC.skip ?_
        refine WC.region ?_
        refine WL.ex rfl (ex_move (v := .int .i64 x120) s6_120) ?_
        refine WL.ex rfl (ex_bin (a := .int .i64 x120) (b := .int .i64 1) (v := .int .i64 (wrap64 (x120 + 1))) rfl rfl bin_add64) ?_
        refine WL.ex rfl (ex_assign (v := .int .i64 (wrap64 (x120 + 1))) rfl) ?_
        refine WL.nil ?_
        exact ⟨k124, Nat.lt_succ_self _, ⟨_, wrap64 (x120 + 1), HF, hB118, hG, s2_119, s4_119, s5_119, rfl, H⟩⟩
    ·
      refine WC.cond_f ((show _ = Value.bool (decide (x120 < 16)) from rfl).trans (congrArg Value.bool c128)) ?_
      refine WC.exit ?_
      obtain rfl := Option.some.inj H
      exact ⟨_, HF, hG, s4_119, s5_119, rfl⟩

/-! ### bits_Has -/
set_option maxRecDepth 100000 in
theorem bits_Has.calls (o0 : Tags) (w0 : World) (a0 : (List UInt64)) (a1 : Int) (r : Bool) (hO : ∀ b, b < w0.heap.size → o0 b < 10) (hla0 : a0.length = 16) (H : bits_Has.f a0 a1 = some r) :
    Calls Tryd.prog 32 [.agg (List.map enc64 a0).toArray, .int .i64 a1].toArray w0 fun e_ w_ => ∃ (o_ : Tags), e_ = .returned (one [.bool r]) ∧ Step o0 w0 o_ w_ [] := by
  have HF := Fm.refl hO []
  unfold bits_Has.f at H
  refine SX.calls [.agg (List.map enc64 a0).toArray, .int .i64 a1] Tryd.func32 rfl rfl ?_
  rw [Tryd.ntmps32]
  refine WC.seq ?_
  refine WC.region ?_
  refine WL.op rfl ?_
  refine OW.box' (List.map enc64 a0) 10 HF rfl ((congrArg Value.cells (show ev _ _ = (.agg (List.map enc64 a0).toArray : Value) from rfl)).trans rfl) ?_
  intro o102 w103 b101 s104 hB105
  replace HF := HF.step s104 rfl
  refine WL.ex rfl (ex_assign (v := .bool false) rfl) ?_
  refine WL.nil ?_
  refine WC.seq ?_
  refine WC.region ?_
  refine WL.ex rfl (ex_move (v := .int .i64 a1) rfl) ?_
  obtain ⟨z106, hz106, H⟩ := bindE H
  refine WL.op rfl ?_
  refine OW.call [.int .i64 a1] rfl Tryd.func46 (by kernel_rfl) (by kernel_rfl) (map_cons' rfl rfl) (bits_inside.calls _ _ a1 z106 (HF.ten (V := [0]) (L := []) rfl)  hz106) ?_
  rintro _ w107 ⟨o108, rfl, s109⟩
  refine ⟨_, rfl, ?_⟩
  replace s109 := un_stepL (J := []) (L' := []) s109 rfl rfl
  replace hB105 := hB105.step s109 rfl
  replace HF := HF.step s109 rfl
  refine WL.ex rfl (ex_move (v := .bool z106) rfl) ?_
  rcases condE H with ⟨c110, H⟩ | ⟨c110, H⟩
  ·
    refine WL.guardYes rfl rfl rfl ((show _ = Value.bool z106 from rfl).trans (congrArg Value.bool c110)) ?_
    refine OW.ex rfl (ex_move (v := .int .i64 a1) rfl) ?_
    refine WL.guardYes rfl rfl rfl ((show _ = Value.bool z106 from rfl).trans (congrArg Value.bool c110)) ?_
    refine OW.ex rfl (ex_bin (a := .int .i64 a1) (b := .int .i64 64) (v := .int .i64 (wrap64 (a1.tdiv 64))) rfl rfl (bin_quo64 (by decide))) ?_
    refine WL.guardYes rfl rfl rfl ((show _ = Value.bool z106 from rfl).trans (congrArg Value.bool c110)) ?_
    obtain ⟨x111, hx111, H⟩ := bindE H
    refine OW.ex rfl (ex_indexArrB (i := (wrap64 (a1.tdiv 64))) (xs := a0) rfl rfl Tryd.underlying24 sz22 hla0 hx111) ?_
    refine WL.guardYes rfl rfl rfl ((show _ = Value.bool z106 from rfl).trans (congrArg Value.bool c110)) ?_
    refine OW.ex rfl (ex_loadAE (enc := enc64) rfl Tryd.underlying22 rfl hB105 hx111) ?_
    refine WL.guardYes rfl rfl rfl ((show _ = Value.bool z106 from rfl).trans (congrArg Value.bool c110)) ?_
    refine OW.ex rfl (ex_move (v := .int .i64 a1) rfl) ?_
    refine WL.guardYes rfl rfl rfl ((show _ = Value.bool z106 from rfl).trans (congrArg Value.bool c110)) ?_
    refine OW.ex rfl (ex_bin (a := .int .i64 a1) (b := .int .i64 64) (v := .int .i64 (a1.tmod 64)) rfl rfl (bin_rem64 (by decide))) ?_
    refine WL.guardYes rfl rfl rfl ((show _ = Value.bool z106 from rfl).trans (congrArg Value.bool c110)) ?_
    obtain ⟨u112, hu112, H⟩ := bindE H
    refine OW.ex rfl (ex_bin (a := enc64 x111) (b := .int .i64 (a1.tmod 64)) (v := enc64 (shr64 x111 (a1.tmod 64).toNat)) rfl rfl (bin_shr_u64 (of_decide_eq_true (chk_true hu112)))) ?_
    refine WL.guardYes rfl rfl rfl ((show _ = Value.bool z106 from rfl).trans (congrArg Value.bool c110)) ?_
    refine OW.ex rfl (ex_bin (a := enc64 (shr64 x111 (a1.tmod 64).toNat)) (b := enc64 (1 : UInt64)) (v := enc64 ((shr64 x111 (a1.tmod 64).toNat) &&& (1 : UInt64))) rfl rfl bin_and_u64) ?_
    refine WL.guardYes rfl rfl rfl ((show _ = Value.bool z106 from rfl).trans (congrArg Value.bool c110)) ?_
    refine OW.ex rfl (ex_bin (a := enc64 ((shr64 x111 (a1.tmod 64).toNat) &&& (1 : UInt64))) (b := enc64 (1 : UInt64)) (v := .bool (((shr64 x111 (a1.tmod 64).toNat) &&& (1 : UInt64)) == (1 : UInt64))) rfl rfl bin_eql_u64) ?_
    refine WL.ex rfl (ex_pick_t (v := .bool (((shr64 x111 (a1.tmod 64).toNat) &&& (1 : UInt64)) == (1 : UInt64))) ((show _ = Value.bool z106 from rfl).trans (congrArg Value.bool c110)) rfl) ?_
    refine WL.ex rfl (ex_assign (v := .bool (((shr64 x111 (a1.tmod 64).toNat) &&& (1 : UInt64)) == (1 : UInt64))) rfl) ?_
    refine WL.nil ?_
    refine WC.ret ?_
    obtain rfl := Option.some.inj H
    exact ⟨_, (.tmp (.bool (((shr64 x111 (a1.tmod 64).toNat) &&& (1 : UInt64)) == (1 : UInt64)) : Value) rfl .nil), _, rfl, HF.out⟩
  ·
    refine WL.guardNo rfl rfl rfl ((show _ = Value.bool z106 from rfl).trans (congrArg Value.bool c110)) ?_
    refine WL.guardNo rfl rfl rfl ((show _ = Value.bool z106 from rfl).trans (congrArg Value.bool c110)) ?_
    refine WL.guardNo rfl rfl rfl ((show _ = Value.bool z106 from rfl).trans (congrArg Value.bool c110)) ?_
    refine WL.guardNo rfl rfl rfl ((show _ = Value.bool z106 from rfl).trans (congrArg Value.bool c110)) ?_
    refine WL.guardNo rfl rfl rfl ((show _ = Value.bool z106 from rfl).trans (congrArg Value.bool c110)) ?_
    refine WL.guardNo rfl rfl rfl ((show _ = Value.bool z106 from rfl).trans (congrArg Value.bool c110)) ?_
    refine WL.guardNo rfl rfl rfl ((show _ = Value.bool z106 from rfl).trans (congrArg Value.bool c110)) ?_
    refine WL.guardNo rfl rfl rfl ((show _ = Value.bool z106 from rfl).trans (congrArg Value.bool c110)) ?_
    refine WL.guardNo rfl rfl rfl ((show _ = Value.bool z106 from rfl).trans (congrArg Value.bool c110)) ?_
    refine WL.ex rfl (ex_pick_f (v := .bool false) ((show _ = Value.bool z106 from rfl).trans (congrArg Value.bool c110)) rfl) ?_
    refine WL.ex rfl (ex_assign (v := .bool false) rfl) ?_
    refine WL.nil ?_
    refine WC.ret ?_
    obtain rfl := Option.some.inj H
    exact ⟨_, (.tmp (.bool false : Value) rfl .nil), _, rfl, HF.out⟩


/-! ### strconv.Itoa -/
theorem strconv_Itoa.calls (o0 : Tags) (w0 : World) (a0 : Int) (r : List UInt8) (hO : ∀ b, b < w0.heap.size → o0 b < 10) (hG : Gl GG o0 w0) (H : strconv_Itoa.f a0 = some r) :
    Calls Tryd.prog 55 [.int .i64 a0].toArray w0 fun e_ w_ => ∃ (o_ : Tags), e_ = .returned (one [encS r]) ∧ Step o0 w0 o_ w_ [] := by
  unfold strconv_Itoa.f at H
  obtain ⟨u, hu, H⟩ := bindE H
  obtain rfl := Option.some.inj H
  have hu' := chk_true hu
  simp only [Bool.and_eq_true, decide_eq_true_eq] at hu'
  refine Calls.mono (Tryd.strconv_Itoa a0 hu'.1 hu'.2 w0 hG.2.2.1) ?_
  rintro e w ⟨rfl, k, os, rfl⟩
  exact ⟨o0, rfl, grow_step o0 w0 k os⟩

/-! ### octet_Dec -/
set_option maxRecDepth 100000 in
theorem octet_Dec.calls (o0 : Tags) (w0 : World) (a0 : Int) (r : (List UInt8)) (hO : ∀ b, b < w0.heap.size → o0 b < 10) (hG : Gl GG o0 w0) (H : octet_Dec.f a0 = some r) :
    Calls Tryd.prog 38 [.int .i64 a0].toArray w0 fun e_ w_ => ∃ (o_ : Tags), e_ = .returned (one [encS r]) ∧ Step o0 w0 o_ w_ [] := by
  have HF := Fm.refl hO []
  unfold octet_Dec.f at H
  refine SX.calls [.int .i64 a0] Tryd.func38 rfl rfl ?_
  rw [Tryd.ntmps38]
  refine WC.seq ?_
  refine WC.region ?_
  refine WL.ex rfl (ex_assign (v := encS ([] : List UInt8)) rfl) ?_
  refine WL.nil ?_
  refine WC.seq ?_
  refine WC.region ?_
  refine WL.ex rfl (ex_move (v := .int .i64 a0) rfl) ?_
  obtain ⟨z101, hz101, H⟩ := bindE H
  refine WL.op rfl ?_
  refine OW.call [.int .i64 a0] rfl Tryd.func55 (by kernel_rfl) (by kernel_rfl) (map_cons' rfl rfl) (strconv_Itoa.calls _ _ a0 z101 (HF.ten (V := [0]) (L := []) rfl) (Gl.vw (V := [0]) (L := []) hG rfl) hz101) ?_
  rintro _ w102 ⟨o103, rfl, s104⟩
  refine ⟨_, rfl, ?_⟩
  replace s104 := un_stepL (J := []) (L' := []) s104 rfl rfl
  replace hG := hG.step s104 rfl
  replace HF := HF.step s104 rfl
  refine WL.ex rfl (ex_assign (v := encS z101) rfl) ?_
  refine WL.nil ?_
  refine WC.ret ?_
  obtain rfl := Option.some.inj H
  exact ⟨_, (.tmp (encS z101 : Value) rfl .nil), _, rfl, HF.out⟩


/-! ### (*strings.Builder).copyCheck -/
theorem sizeBd : (Tryd.prog.info? 74).map (·.size) = some 2 := by kernel_rfl
theorem info5 : (Tryd.prog.info? 5).map (fun i => (i.zero, i.size, i.bytes)) = some (some (.int .u8 0), 1, 1) := by kernel_rfl
theorem Bd_copyCheck (w0 : World) (b : Nat) (p v : Value) (hb : w0.heap[b]? = some (.cells #[p, v] 74 (0, 0))) (hp : p = .pointer none ∨ p = .pointer (some ⟨b, 0, none⟩)) :
    Calls Tryd.prog 63 [.pointer (some ⟨b, 0, none⟩)].toArray w0 fun e_ w_ => e_ = .returned (one []) ∧ Kept b w0 w_ ∧ w_.heap[b]? = some (.cells #[.pointer (some ⟨b, 0, none⟩), v] 74 (0, 0)) := by
  have hB : Bk (tagOne b) w0 11 b [p, v] 74 := ⟨tagOne_same b, hb⟩
  refine SX.calls [.pointer (some ⟨b, 0, none⟩)] Tryd.func63 rfl rfl ?_
  rw [Tryd.ntmps63]
  refine WC.seq ?_
  refine WC.region ?_
  refine WL.ex rfl (ex_move (v := .pointer (some ⟨b, 0, none⟩)) rfl) ?_
  refine WL.ex rfl (ex_nilCheck rfl) ?_
  refine WL.ex rfl (ex_fieldAddr (k := 0) rfl Tryd.underlying74 rfl (by kernel_rfl)) ?_
  refine WL.ex rfl (ex_load1 (v := p) rfl Tryd.underlying71 rfl (hB.cell rfl)) ?_
  rcases hp with rfl | rfl
  · refine WL.ex rfl (ex_bin (a := .pointer none) (b := .pointer none) (v := .bool true) rfl rfl (bin_eql_ptrNN Tryd.underlying71)) ?_
    refine WL.nil ?_
    refine WC.cond_t rfl ?_
    refine WC.region ?_
    refine WL.ex rfl (ex_move (v := .pointer (some ⟨b, 0, none⟩)) rfl) ?_
    refine WL.ex rfl (ex_move (v := .pointer (some ⟨b, 0, none⟩)) rfl) ?_
    refine WL.ex rfl (ex_to_unsafe rfl Tryd.underlying71 Tryd.underlying90 2 rfl sizeBd rfl hB) ?_
    refine WL.ex rfl (ex_extern1 (v := .pointer (some ⟨b, 0, none⟩)) (v' := .pointer (some ⟨b, 0, none⟩)) rfl Tryd.func72 (by kernel_rfl) (by kernel_rfl) (by kernel_rfl) (ee := Extern.AbiNoEscape.same) (by kernel_rfl) rfl) ?_
    refine WL.ex rfl (ex_from_unsafe rfl Tryd.underlying90 Tryd.underlying71 (by kernel_rfl) hB (by kernel_rfl)) ?_
    refine WL.ex rfl (ex_nilCheck rfl) ?_
    refine WL.ex rfl (ex_fieldAddr (k := 0) rfl Tryd.underlying74 rfl (by kernel_rfl)) ?_
    refine WL.op rfl ?_
    refine OW.store [.pointer (some ⟨b, 0, none⟩), v] rfl (vs := [.pointer (some ⟨b, 0, none⟩)]) rfl (by kernel_rfl) hB (Nat.le_of_ble_eq_true rfl) (by intro u hu; simp at hu; subst hu; rfl) rfl ?_
    intro w1 s1 h1
    refine WL.nil ?_
    exact ⟨_, .nil, rfl, s1.kept, h1.heap⟩
  · refine WL.ex rfl (ex_bin (a := .pointer (some ⟨b, 0, none⟩)) (b := .pointer none) (v := .bool false) rfl rfl (bin_eql_ptrSN Tryd.underlying71)) ?_
    refine WL.nil ?_
    refine WC.cond_f rfl ?_
    refine WC.seq ?_
    refine WC.region ?_
    refine WL.ex rfl (ex_move (v := .pointer (some ⟨b, 0, none⟩)) rfl) ?_
    refine WL.ex rfl (ex_nilCheck rfl) ?_
    refine WL.ex rfl (ex_fieldAddr (k := 0) rfl Tryd.underlying74 rfl (by kernel_rfl)) ?_
    refine WL.ex rfl (ex_load1 (v := .pointer (some ⟨b, 0, none⟩)) rfl Tryd.underlying71 rfl (hB.cell rfl)) ?_
    refine WL.ex rfl (ex_move (v := .pointer (some ⟨b, 0, none⟩)) rfl) ?_
    refine WL.ex rfl (ex_bin (a := .pointer (some ⟨b, 0, none⟩)) (b := .pointer (some ⟨b, 0, none⟩)) (v := .bool false) rfl rfl (bin_neq_ptrSame Tryd.underlying71 (by kernel_rfl))) ?_
    refine WL.nil ?_
    refine WC.cond_f rfl ?_
    refine WC.skip ?_
    exact ⟨_, .nil, rfl, (Step.refl _ _ _).kept, hb⟩


/-! ### (*strings.Builder).Grow of a builder just laid -/
theorem Builder_Grow.calls (o0 : Tags) (w0 : World) (b : Nat) (a1 : Int) (r : List UInt8) (hO : ∀ b, b < w0.heap.size → o0 b < 10) (hB0 : Bk o0 w0 2 b [.pointer none, .slice none 0 0] 74) (hl : b + 1 = w0.heap.size) (H : Builder_Grow.f a1 = some r) :
    Calls Tryd.prog 56 [.pointer (some ⟨b, 0, none⟩), .int .i64 a1].toArray w0 fun e_ w_ => ∃ (o_ : Tags), e_ = .returned (one []) ∧ Step o0 w0 o_ w_ [2] ∧ Bd 74 5 2 o_ w_ b r := by
  unfold Builder_Grow.f at H
  obtain ⟨u, hu, H⟩ := bindE H
  obtain rfl := Option.some.inj H
  have hu' := chk_true hu
  simp only [Bool.and_eq_true, decide_eq_true_eq] at hu'
  obtain ⟨n, rfl⟩ : ∃ n : Nat, a1 = n := ⟨a1.toNat, by omega⟩
  refine Calls.mono (Tryd.Builder_Grow_fresh b b n w0 (Nat.le_refl _) hB0.heap (by omega) (by omega)) ?_
  rintro e w ⟨rfl, hBA, hb⟩
  obtain ⟨o_, s, hBd⟩ := grow_bd hB0 hl hBA hb
  exact ⟨o_, rfl, s, hBd⟩


/-! ### (*strings.Builder).WriteString -/
theorem Builder_WriteString.calls (o0 : Tags) (w0 : World) (b : Nat) (a0 : List UInt8) (a1 : List UInt8) (r : Int × List UInt8) (hO : ∀ b, b < w0.heap.size → o0 b < 10) (hB0 : Bd 74 5 2 o0 w0 b a0) (H : Builder_WriteString.f a0 a1 = some r) :
    Calls Tryd.prog 57 [.pointer (some ⟨b, 0, none⟩), encS a1].toArray w0 fun e_ w_ => ∃ (o_ : Tags), e_ = .returned (one [.int .i64 r.1, .nilIface]) ∧ Step o0 w0 o_ w_ [2] ∧ Bd 74 5 2 o_ w_ b r.2 := by
  unfold Builder_WriteString.f at H
  obtain ⟨u, hu, H⟩ := bindE H
  obtain rfl := Option.some.inj H
  obtain ⟨p, v, hB0', hp, hO1⟩ := hB0
  have hb := hB0'.heap
  have hn := hO1.notin hb rfl
  have h0 : o0 b ≠ 0 := by rw [hB0'.tag]; decide
  have hO2 : Own Rep.u8 5 2 (apart1 o0 b) w0 v a0 := hO1.apart hn h0
  refine SX.calls [.pointer (some ⟨b, 0, none⟩), encS a1] Tryd.func57 rfl rfl ?_
  rw [Tryd.ntmps57]
  refine WC.seq ?_
  refine WC.region ?_
  refine WL.ex rfl (ex_assign (v := .int .i64 0) rfl) ?_
  refine WL.ex rfl (ex_assign (v := .nilIface) rfl) ?_
  refine WL.nil ?_
  refine WC.seq ?_
  refine WC.region ?_
  refine WL.ex rfl (ex_move (v := .pointer (some ⟨b, 0, none⟩)) rfl) ?_
  refine WL.op rfl ?_
  refine OW.call [.pointer (some ⟨b, 0, none⟩)] rfl Tryd.func63 (by kernel_rfl) (by kernel_rfl) rfl (Bd_copyCheck w0 b p v hb hp) ?_
  rintro _ w1 ⟨rfl, k1, hb1⟩
  refine ⟨_, rfl, ?_⟩
  have s1 : Step (apart1 o0 b) w0 (apart1 o0 b) w1 [11, 2] := Step.trans (k1.step (apart1_same o0 b)) (Step.refl _ _ []) rfl rfl
  replace hO2 := hO2.kept k1 hn (by rw [apart1_same]; decide)
  have hB : Bk (apart1 o0 b) w1 11 b [.pointer (some ⟨b, 0, none⟩), v] 74 := ⟨apart1_same o0 b, hb1⟩
  refine WL.nil ?_
  refine WC.seq ?_
  refine WC.region ?_
  refine WL.ex rfl (ex_move (v := .pointer (some ⟨b, 0, none⟩)) rfl) ?_
  refine WL.ex rfl (ex_move (v := .pointer (some ⟨b, 0, none⟩)) rfl) ?_
  refine WL.ex rfl (ex_nilCheck rfl) ?_
  refine WL.ex rfl (ex_fieldAddr (k := 0) rfl Tryd.underlying74 rfl (by kernel_rfl)) ?_
  refine WL.ex rfl (ex_load1 (v := v) rfl Tryd.underlying72 rfl (hB.cell rfl)) ?_
  refine WL.ex rfl (ex_move (v := encS a1) rfl) ?_
  refine WL.op rfl ?_
  refine OW.appendStr (E := 5) (i := 2) (s := a1) rfl Tryd.underlying72 Tryd.underlying9 info5 (by decide) rfl rfl hO2 (of_decide_eq_true (chk_true hu)) ?_
  intro o3 w3 v3 s3 hO2
  replace hB := hB.step s3 rfl
  replace s1 := Step.trans s1 s3 (M := [11, 2]) rfl rfl
  refine WL.ex rfl (ex_nilCheck rfl) ?_
  refine WL.ex rfl (ex_fieldAddr (k := 0) rfl Tryd.underlying74 rfl (by kernel_rfl)) ?_
  refine WL.op rfl ?_
  refine OW.store [.pointer (some ⟨b, 0, none⟩), v3] rfl (vs := [v3]) (by obtain ⟨A_, c_, e_⟩ := hO2.slice; show v3.cells = _; rw [e_]; rfl) (by kernel_rfl) hB (Nat.le_of_ble_eq_true rfl) (by intro u hu; simp at hu; subst hu; obtain ⟨A_, c_, e_⟩ := hO2.slice; rw [e_]; rfl) rfl ?_
  intro w4 s4 hB4
  replace hO2 := hO2.step s4 rfl rfl
  replace s1 := Step.trans s1 s4 (M := [11, 2]) rfl rfl
  refine WL.nil ?_
  refine WC.seq ?_
  refine WC.region ?_
  refine WL.ex rfl (ex_move (v := encS a1) rfl) ?_
  refine WL.ex rfl (ex_len_str (s := a1) rfl Tryd.underlying9) ?_
  refine WL.ex rfl (ex_assign (v := .int .i64 (a1.length : Int)) rfl) ?_
  refine WL.ex rfl (ex_assign (v := .nilIface) rfl) ?_
  refine WL.nil ?_
  refine WC.ret ?_
  exact ⟨_, .tmp (.int .i64 (a1.length : Int)) rfl (.tmp (.nilIface) rfl .nil), _, rfl, apart_step hO hB0'.tag s1 rfl, _, _, Bk.renTo hB4, .inr rfl, hO2.ren rfl rfl⟩


/-! ### (*strings.Builder).String -/
theorem unsafe_string (i : Nat) (o : Tags) (w : World) (A : Option Addr) (xs : List UInt8) (c : Nat) (p : Option Addr) (hO : Own Rep.u8 5 i o w (.slice A xs.length c) xs) (hp : xs ≠ [] → p = A) (hl : xs.length ≤ 9223372036854775807) :
    ∃ w', (Builtin.unsafeString_ #[83, 3] 9 #[.pointer p, .int .i64 xs.length]).run Tryd.prog w = .ok (encS xs) w' ∧ Step o w o w' [i] := by
  by_cases h0 : xs = []
  · subst h0
    exact ⟨w, by have := Lib.run_unsafeString_none (P := Tryd.prog) w 83 3 9 p; rw [List.length_nil]; rw [show ((0 : Nat) : Int) = 0 from rfl, this]; rfl, Step.refl _ _ _⟩
  · obtain rfl := hp h0
    obtain ⟨cells, hown, ht, hm⟩ := hO
    rcases hown.2 with ⟨_, hz⟩ | ⟨g, cap, cur, hv, _, hg, hn, hcm, hcs, htake⟩
    · exact absurd (List.eq_nil_of_length_eq_zero hz) h0
    · injection hv with e1 _ e3
      subst e1
      have hcz : cur.size = cap := by rw [hcs]; exact Nat.mul_one cap
      refine ⟨w.freeze ⟨g, 0, none⟩ xs.length, ?_, step_freeze (ht g rfl)⟩
      refine Lib.run_unsafeString_row (P := Tryd.prog) w 83 3 9 5 Tryd.underlying83 (by kernel_rfl) g cur.size (by simp [World.shape?, hg]) xs h0 (by omega) hl ?_
      intro j x hx
      have hcell := World.ownsRow.cells hown (g := g) rfl j (enc8 x)
      have hcs' : cells = xs.map enc8 := many_scalar hm
      rw [hcs'] at hcell
      exact hcell (by simp [hx])
theorem Builder_String.calls (o0 : Tags) (w0 : World) (b : Nat) (a0 : List UInt8) (r : List UInt8) (hO : ∀ b, b < w0.heap.size → o0 b < 10) (hB0 : Bd 74 5 2 o0 w0 b a0) (H : Builder_String.f a0 = some r) :
    Calls Tryd.prog 58 [.pointer (some ⟨b, 0, none⟩)].toArray w0 fun e_ w_ => ∃ (o_ : Tags), e_ = .returned (one [encS r]) ∧ Step o0 w0 o_ w_ [2] := by
  unfold Builder_String.f at H
  obtain ⟨u, hu, H⟩ := bindE H
  obtain rfl := Option.some.inj H
  have hl : a0.length ≤ 9223372036854775807 := of_decide_eq_true (chk_true hu)
  obtain ⟨p, v, hB0', hp, hO1⟩ := hB0
  have hb := hB0'.heap
  have hn := hO1.notin hb rfl
  have h0 : o0 b ≠ 0 := by rw [hB0'.tag]; decide
  have hO2 : Own Rep.u8 5 2 (apart1 o0 b) w0 v a0 := hO1.apart hn h0
  have HF := Fm.here2 (apart1 o0 b) w0
  have hB : Bk (apart1 o0 b) w0 11 b [p, v] 74 := ⟨apart1_same o0 b, hb⟩
  refine SX.calls [.pointer (some ⟨b, 0, none⟩)] Tryd.func58 rfl rfl ?_
  rw [Tryd.ntmps58]
  refine WC.seq ?_
  refine WC.region ?_
  refine WL.ex rfl (ex_assign (v := encS []) rfl) ?_
  refine WL.nil ?_
  refine WC.seq ?_
  refine WC.regionD' HF [2] 12 (by kernel_rfl) rfl ?_
  intro w1 s1
  replace hO2 := hO2.step s1 rfl rfl
  replace hB := hB.step s1 rfl
  replace HF := HF.step s1 rfl
  have hBD := hB
  have sR := HF.here [2]
  obtain ⟨A, c, e, hlc, hr⟩ := hO2.row
  subst e
  refine WA.ex 0 rfl (by kernel_rfl) (by kernel_rfl) (by kernel_rfl) rfl ⟨_, sR⟩ (fun w_ hS_ => ex_move (v := .pointer (some ⟨b, 0, none⟩)) rfl) ?_
  refine WA.ex 1 rfl (by kernel_rfl) (by kernel_rfl) (by kernel_rfl) rfl ⟨_, sR⟩ (fun w_ hS_ => ex_nilCheck rfl) ?_
  refine WA.ex 2 rfl (by kernel_rfl) (by kernel_rfl) (by kernel_rfl) rfl ⟨_, sR⟩ (fun w_ hS_ => ex_fieldAddr (k := 0) rfl Tryd.underlying74 rfl (by kernel_rfl)) ?_
  refine WA.ex 3 rfl (by kernel_rfl) (by kernel_rfl) (by kernel_rfl) rfl ⟨_, sR⟩ (fun w_ hS_ => ex_load1 (v := .slice A a0.length c) rfl Tryd.underlying72 rfl ((hBD.step hS_.choose_spec rfl).cell rfl)) ?_
  refine WA.ex 5 rfl (by kernel_rfl) (by kernel_rfl) (by kernel_rfl) rfl ⟨_, sR⟩ (fun w_ hS_ => ex_move (v := .pointer (some ⟨b, 0, none⟩)) rfl) ?_
  refine WA.ex 6 rfl (by kernel_rfl) (by kernel_rfl) (by kernel_rfl) rfl ⟨_, sR⟩ (fun w_ hS_ => ex_nilCheck rfl) ?_
  refine WA.ex 7 rfl (by kernel_rfl) (by kernel_rfl) (by kernel_rfl) rfl ⟨_, sR⟩ (fun w_ hS_ => ex_fieldAddr (k := 0) rfl Tryd.underlying74 rfl (by kernel_rfl)) ?_
  refine WA.ex 8 rfl (by kernel_rfl) (by kernel_rfl) (by kernel_rfl) rfl ⟨_, sR⟩ (fun w_ hS_ => ex_load1 (v := .slice A a0.length c) rfl Tryd.underlying72 rfl ((hBD.step hS_.choose_spec rfl).cell rfl)) ?_
  refine WA.ex 9 rfl (by kernel_rfl) (by kernel_rfl) (by kernel_rfl) rfl ⟨_, sR⟩ (fun w_ hS_ => ex_len_slice (A := A) (m := a0.length) (c := c) rfl Tryd.underlying72) ?_
  have hdata : ∃ q w2 o2, (Builtin.unsafeSliceData_ #[72] 83 #[.slice A a0.length c]).run Tryd.prog w1 = .ok (.pointer q) w2 ∧ Step (apart1 o0 b) w1 o2 w2 [] ∧ (a0 ≠ [] → q = A) := by
    cases A with
    | none => exact ⟨none, w1, _, Lib.run_unsafeSliceData_nil w1 _ _ _ _, Step.refl _ _ _, fun _ => rfl⟩
    | some ad =>
      by_cases hc : c = 0
      · subst hc
        obtain ⟨cells, hown, ht, hm⟩ := hO2
        rcases hown.2 with ⟨hz, _⟩ | ⟨g, cap, cur, hv, _, hg, _⟩
        · cases hz
        · injection hv with e1 _ e3
          injection e1 with e1
          subst e1
          exact ⟨_, _, _, Lib.run_unsafeSliceData_zero (P := Tryd.prog) w1 #[72] 83 5 Tryd.underlying83 ⟨g, 0, none⟩ a0.length (5, cur.size) (by simp [World.shape?, hg]), step_alloc (apart1 o0 b) w1 1 _ [], fun h => absurd (List.eq_nil_of_length_eq_zero (by omega)) h⟩
      · exact ⟨some ad, w1, _, Lib.run_unsafeSliceData_row w1 _ _ ad _ _ hc, Step.refl _ _ _, fun _ => rfl⟩
  obtain ⟨q, w2, o2, hr2, s2, hq⟩ := hdata
  refine WA.one 4 (by kernel_rfl) rfl rfl ?_
  refine OW.val (v := .pointer q) (w' := w2) rfl (run_usd (v := .slice A a0.length c) rfl hr2) ?_
  replace sR := Step.trans sR s2 (M := [2]) rfl rfl
  replace hO2 := hO2.step s2 rfl rfl
  refine ⟨⟨_, sR⟩, ?_⟩
  obtain ⟨w3, hr3, s3⟩ := unsafe_string 2 o2 w2 A a0 c q hO2 hq hl
  refine WA.one 10 (by kernel_rfl) rfl rfl ?_
  refine OW.val (v := encS a0) (w' := w3) rfl (run_us (v := .pointer q) (u := .int .i64 (a0.length : Int)) rfl rfl hr3) ?_
  replace sR := Step.trans sR s3 (M := [2]) rfl rfl
  refine ⟨⟨_, sR⟩, ?_⟩
  refine WA.one 11 (by kernel_rfl) rfl rfl ?_
  refine OW.ex rfl (ex_assign (v := encS a0) rfl) ?_
  refine ⟨⟨_, sR⟩, ?_⟩
  refine WA.done (by kernel_rfl) ?_
  refine WC.ret ?_
  exact ⟨_, .tmp (encS a0) rfl .nil, _, rfl, apart_step hO hB0'.tag (Step.trans s1 sR (M := [11, 2]) rfl rfl) rfl⟩

/-! ### strings_Join -/
set_option maxRecDepth 100000 in
theorem strings_Join.calls (k : Nat) (o0 : Tags) (w0 : World) (pA0 : Option Addr) (pc0 : Nat) (a0 : (List (List UInt8))) (a1 : List UInt8) (r : (List UInt8)) (hO : ∀ b, b < w0.heap.size → o0 b < 10) (hra0 : Row Rep.str (fun b_ => o0 b_ = 0) (fun b_ => o0 b_ = 0) w0 pA0 a0) (hla0 : a0.length ≤ pc0) (H : strings_Join.f k a0 a1 = some r) :
    Calls Tryd.prog 39 [.slice pA0 a0.length pc0, encS a1].toArray w0 fun e_ w_ => ∃ (o_ : Tags), e_ = .returned (one [encS r]) ∧ Step o0 w0 o_ w_ [] := by
  have HF := Fm.refl hO []
  unfold strings_Join.f at H
  refine SX.calls [.slice pA0 a0.length pc0, encS a1] Tryd.func39 rfl rfl ?_
  rw [Tryd.ntmps39]
  refine WC.seq ?_
  refine WC.region ?_
  refine WL.ex rfl (ex_assign (v := encS ([] : List UInt8)) rfl) ?_
  refine WL.nil ?_
  refine WC.seq ?_
  refine WC.seq ?_
  refine WC.region ?_
  refine WL.ex rfl (ex_move (v := .slice pA0 a0.length pc0) rfl) ?_
  refine WL.ex rfl (ex_len_slice (A := pA0) (m := a0.length) (c := pc0) rfl Tryd.underlying54) ?_
  refine WL.nil ?_
  refine WC.block ?_
  refine WC.seq ?_
  refine WC.region ?_
  refine WL.ex rfl (ex_bin (a := .int .i64 (a0.length : Int)) (b := .int .i64 0) (v := .bool ((a0.length : Int) == 0)) rfl rfl bin_eql) ?_
  refine WL.ex rfl (ex_assign (v := .bool ((a0.length : Int) == 0)) rfl) ?_
  refine WL.nil ?_
  rcases condE H with ⟨c101, H⟩ | ⟨c101, H⟩
  ·
    refine WC.cond_t ((show _ = Value.bool ((a0.length : Int) == 0) from rfl).trans (congrArg Value.bool c101)) ?_
    refine WC.seq ?_
    refine WC.region ?_
    refine WL.ex rfl (ex_assign (v := encS ([] : List UInt8)) rfl) ?_
    refine WL.nil ?_
    refine WC.ret ?_
    obtain rfl := Option.some.inj H
    exact ⟨_, (.tmp (encS ([] : List UInt8) : Value) rfl .nil), _, rfl, HF.out⟩
  ·
    refine WC.cond_f ((show _ = Value.bool ((a0.length : Int) == 0) from rfl).trans (congrArg Value.bool c101)) ?_
    refine WC.seq ?_
    refine WC.region ?_
    refine WL.ex rfl (ex_bin (a := .int .i64 (a0.length : Int)) (b := .int .i64 1) (v := .bool ((a0.length : Int) == 1)) rfl rfl bin_eql) ?_
    refine WL.ex rfl (ex_assign (v := .bool ((a0.length : Int) == 1)) rfl) ?_
    refine WL.nil ?_
    rcases condE H with ⟨c102, H⟩ | ⟨c102, H⟩
    ·
      refine WC.cond_t ((show _ = Value.bool ((a0.length : Int) == 1) from rfl).trans (congrArg Value.bool c102)) ?_
      refine WC.seq ?_
      refine WC.region ?_
      refine WL.ex rfl (ex_move (v := .slice pA0 a0.length pc0) rfl) ?_
      obtain ⟨x103, hx103, H⟩ := bindE H
      obtain ⟨ad104, e105, g106, g107, cell108⟩ := Row.ixS hra0 hx103
      refine WL.ex rfl (ex_indexAddr (i := (0 : Int)) rfl e105 rfl Tryd.underlying54 sz9 g106 g107) ?_
      refine WL.ex rfl (ex_load1 (v := encS x103) rfl Tryd.underlying9 rfl cell108) ?_
      refine WL.ex rfl (ex_assign (v := encS x103) rfl) ?_
      refine WL.nil ?_
      refine WC.ret ?_
      obtain rfl := Option.some.inj H
      exact ⟨_, (.tmp (encS x103 : Value) rfl .nil), _, rfl, HF.out⟩
    ·
      refine WC.cond_f ((show _ = Value.bool ((a0.length : Int) == 1) from rfl).trans (congrArg Value.bool c102)) ?_
      refine WC.skip ?_
      refine WC.seq ?_
      refine WC.region ?_
      refine WL.ex rfl (ex_assign (v := .int .i64 0) rfl) ?_
      refine WL.nil ?_
      obtain ⟨z111, hz111, H⟩ := bindE H
      refine WC.cut (fun ρ_ w_ => ∃ (o_ : Tags), Fm o0 w0 o_ w_ [] ∧ Row Rep.str (fun b_ => o_ b_ = 0) (fun b_ => o_ b_ = 0) w_ pA0 a0 ∧ ρ_ 0 = .slice pA0 a0.length pc0 ∧ ρ_ 1 = encS a1 ∧ ρ_ 4 = encS ([] : List UInt8) ∧ ρ_ 5 = .int .i64 z111) ?case112 ?_
      case case112 =>
        rintro ρ115 w113 ⟨o114, HF, hra0, s0_109, s1_109, s4_109, s5_110⟩
        refine WC.seq ?_
        refine WC.seq ?_
        refine WC.region ?_
        refine WL.ex rfl (ex_move (v := .slice pA0 a0.length pc0) s0_109) ?_
        refine WL.ex rfl (ex_len_slice (A := pA0) (m := a0.length) (c := pc0) rfl Tryd.underlying54) ?_
        refine WL.ex rfl (ex_move (v := .int .i64 0) rfl) ?_
        refine WL.nil ?_
        obtain ⟨z119, hz119, H⟩ := bindE H
        refine WC.for (fun k_ ρ_ w_ => ∃ (o_ : Tags) (x116 : Int) (x117 : Int), Fm o0 w0 o_ w_ [] ∧ Row Rep.str (fun b_ => o_ b_ = 0) (fun b_ => o_ b_ = 0) w_ pA0 a0 ∧ ρ_ 0 = .slice pA0 a0.length pc0 ∧ ρ_ 1 = encS a1 ∧ ρ_ 4 = encS ([] : List UInt8) ∧ ρ_ 5 = .int .i64 x116 ∧ ρ_ 39 = .slice pA0 a0.length pc0 ∧ ρ_ 40 = .int .i64 (a0.length : Int) ∧ ρ_ 41 = .int .i64 x117 ∧ strings_Join.l1 k a0 k_ x116 x117 = some z119) k (fun ρ_ w_ => ∃ (o_ : Tags), Fm o0 w0 o_ w_ [] ∧ Row Rep.str (fun b_ => o_ b_ = 0) (fun b_ => o_ b_ = 0) w_ pA0 a0 ∧ ρ_ 0 = .slice pA0 a0.length pc0 ∧ ρ_ 1 = encS a1 ∧ ρ_ 4 = encS ([] : List UInt8) ∧ ρ_ 5 = .int .i64 z119) ⟨_, z111, 0, HF, hra0, s0_109, s1_109, s4_109, s5_110, rfl, rfl, rfl, hz119⟩ ?case120 ?_
        case case120 =>
          rintro ρ135 w136 ⟨o137, HF, hra0, s0_117, s1_117, s4_117, s5_118⟩
          refine WC.seq ?_
          refine WC.region ?_
          refine WL.op rfl ?_
          refine OW.allocFr 10 HF rfl (by kernel_rfl) ?_
          intro o139 w140 b138 s141 hB142 hl143
          replace hra0 := hra0.step s141 rfl
          replace HF := HF.step s141 rfl
          refine WL.nil ?_
          refine WC.seq ?_
          refine WC.region ?_
          refine WL.ex rfl (ex_move (v := .int .i64 z119) s5_118) ?_
          obtain ⟨z144, hz144, H⟩ := bindE H
          refine WL.op rfl ?_
          refine OW.call [.pointer (some ⟨b138, 0, none⟩), .int .i64 z119] rfl Tryd.func56 (by kernel_rfl) (by kernel_rfl) (map_cons' rfl (map_cons' rfl rfl)) (Builder_Grow.calls _ _ b138 z119 z144 (HF.ten (V := [0]) (L := [10]) rfl) (Bk.vw (V := [0]) (L := [10]) hB142 rfl) hl143 hz144) ?_
          rintro _ w145 ⟨o146, rfl, s147, hB148⟩
          refine ⟨_, rfl, ?_⟩
          replace hB148 := Bd.unO (J := []) 0 hB148 s147 rfl rfl rfl
          replace s147 := un_stepL (J := []) (L' := [10]) s147 rfl rfl
          replace hra0 := hra0.step s147 rfl
          replace HF := HF.step s147 rfl
          refine WL.nil ?_
          refine WC.seq ?_
          refine WC.region ?_
          refine WL.ex rfl (ex_move (v := .slice pA0 a0.length pc0) s0_117) ?_
          obtain ⟨x149, hx149, H⟩ := bindE H
          obtain ⟨ad150, e151, g152, g153, cell154⟩ := Row.ixS hra0 hx149
          refine WL.ex rfl (ex_indexAddr (i := (0 : Int)) rfl e151 rfl Tryd.underlying54 sz9 g152 g153) ?_
          refine WL.ex rfl (ex_load1 (v := encS x149) rfl Tryd.underlying9 rfl cell154) ?_
          obtain ⟨z156, hz156, H⟩ := bindE H
          refine WL.op rfl ?_
          refine OW.call [.pointer (some ⟨b138, 0, none⟩), encS x149] rfl Tryd.func57 (by kernel_rfl) (by kernel_rfl) (map_cons' rfl (map_cons' rfl rfl)) (Builder_WriteString.calls _ _ b138 z144 x149 z156 (HF.ten (V := [0]) (L := [10]) rfl) (Bd.vw (V := [0]) (L := [10]) hB148 rfl rfl) hz156) ?_
          rintro _ w157 ⟨o158, rfl, s159, hB160⟩
          refine ⟨_, rfl, ?_⟩
          replace hB160 := Bd.unO (J := []) 0 hB160 s159 rfl rfl rfl
          replace s159 := un_stepL (J := []) (L' := [10]) s159 rfl rfl
          replace hra0 := hra0.step s159 rfl
          replace HF := HF.step s159 rfl
          refine WL.nil ?_
          refine WC.seq ?_
          refine WC.seq ?_
          refine WC.region ?_
          refine WL.ex rfl (ex_move (v := .slice pA0 a0.length pc0) s0_117) ?_
          obtain ⟨y161, hy161, H⟩ := bindE H
          have hr163 := Row.cut hra0 hla0 hy161
          obtain ⟨A164, el167⟩ : ∃ A_, A_ = subA pA0 pc0 (1 : Int).toNat 1 := ⟨_, rfl⟩
          rw [show subA pA0 pc0 (1 : Int).toNat Rep.str.sz = A164 from el167.symm] at hr163
          have hl166 : y161.length ≤ pc0 - (1 : Int).toNat := cut_le hla0 hy161
          refine WL.ex rfl (ex_slice' (l := 1) (h := (a0.length : Int)) rfl Tryd.underlying54 sz9 ⟨_, rfl⟩ rfl (cut_low hy161) (cut_mid hy161) (cut_cap hla0 hy161) el167 (cut_len hy161)) ?_
          refine WL.ex rfl (ex_len_slice (A := A164) (m := y161.length) (c := (pc0 - (1 : Int).toNat)) rfl Tryd.underlying54) ?_
          refine WL.ex rfl (ex_move (v := .int .i64 0) rfl) ?_
          refine WL.nil ?_
          obtain ⟨z171, hz171, H⟩ := bindE H
          refine WC.for (fun k_ ρ_ w_ => ∃ (o_ : Tags) (x168 : Int) (x169 : (List UInt8)), Fm o0 w0 o_ w_ [] ∧ Row Rep.str (fun b_ => o_ b_ = 0) (fun b_ => o_ b_ = 0) w_ A164 y161 ∧ Bd 74 5 10 o_ w_ b138 x169 ∧ ρ_ 1 = encS a1 ∧ ρ_ 4 = encS ([] : List UInt8) ∧ ρ_ 8 = .pointer (some ⟨b138, 0, none⟩) ∧ ρ_ 63 = .slice A164 y161.length (pc0 - (1 : Int).toNat) ∧ ρ_ 64 = .int .i64 (y161.length : Int) ∧ ρ_ 65 = .int .i64 x168 ∧ strings_Join.l2 k a1 y161 k_ x168 x169 = some z171) k (fun ρ_ w_ => ∃ (o_ : Tags), Fm o0 w0 o_ w_ [] ∧ Bd 74 5 10 o_ w_ b138 z171 ∧ ρ_ 4 = encS ([] : List UInt8) ∧ ρ_ 8 = .pointer (some ⟨b138, 0, none⟩)) ⟨_, 0, z156.2, HF, hr163, hB160, s1_117, s4_117, rfl, rfl, rfl, rfl, hz171⟩ ?case172 ?_
          case case172 =>
            rintro ρ196 w197 ⟨o198, HF, hB160, s4_169, s8_169⟩
            refine WC.seq ?_
            refine WC.region ?_
            obtain ⟨z199, hz199, H⟩ := bindE H
            refine WL.op rfl ?_
            refine OW.call [.pointer (some ⟨b138, 0, none⟩)] rfl Tryd.func58 (by kernel_rfl) (by kernel_rfl) (map_cons' s8_169 rfl) (Builder_String.calls _ _ b138 z171 z199 (HF.ten (V := [0]) (L := [10]) rfl) (Bd.vw (V := [0]) (L := [10]) hB160 rfl rfl) hz199) ?_
            rintro _ w200 ⟨o201, rfl, s202⟩
            refine ⟨_, rfl, ?_⟩
            replace s202 := un_stepL (J := []) (L' := [10]) s202 rfl rfl
            replace HF := HF.step s202 rfl
            refine WL.ex rfl (ex_assign (v := encS z199) rfl) ?_
            refine WL.nil ?_
            refine WC.ret ?_
            obtain rfl := Option.some.inj H
            exact ⟨_, (.tmp (encS z199 : Value) rfl .nil), _, rfl, HF.out⟩
          have Ho173 := H
          rintro k174 ρ175 w176 ⟨o177, x168, x169, HF, hr163, hB160, s1_167, s4_167, s8_167, s63_167, s64_167, s65_168, H⟩
          cases k174 with
          | zero => cases H
          | succ k174 =>
          rw [strings_Join.l2.eq_2] at H
          refine WC.seq ?_
          refine WC.region ?_
          refine WL.ex rfl (ex_bin (a := .int .i64 x168) (b := .int .i64 (y161.length : Int)) (v := .bool (decide (x168 < (y161.length : Int)))) s65_168 s64_167 bin_lss) ?_
          refine WL.nil ?_
          refine WC.seq ?_
          rcases condE H with ⟨c178, H⟩ | ⟨c178, H⟩
          ·
            refine WC.cond_t ((show _ = Value.bool (decide (x168 < (y161.length : Int))) from rfl).trans (congrArg Value.bool c178)) ?_
            refine WC.skip ?_
            refine WC.seq ?_
            refine WC.block ?_
            refine WC.seq ?_
            refine WC.region ?_
            obtain ⟨x179, hx179, H⟩ := bindE H
            obtain ⟨ad180, e181, g182, g183, cell184⟩ := Row.ixS hr163 hx179
            refine WL.ex rfl (ex_indexAddr (i := x168) s63_167 e181 s65_168 Tryd.underlying54 sz9 g182 g183) ?_
            refine WL.ex rfl (ex_load1 (v := encS x179) rfl Tryd.underlying9 rfl cell184) ?_
            refine WL.ex rfl (ex_assign (v := encS x179) rfl) ?_
            refine WL.nil ?_
            refine WC.seq ?_
            refine WC.region ?_
            refine WL.ex rfl (ex_move (v := encS a1) s1_167) ?_
            obtain ⟨z186, hz186, H⟩ := bindE H
            refine WL.op rfl ?_
            refine OW.call [.pointer (some ⟨b138, 0, none⟩), encS a1] rfl Tryd.func57 (by kernel_rfl) (by kernel_rfl) (map_cons' s8_167 (map_cons' rfl rfl)) (Builder_WriteString.calls _ _ b138 x169 a1 z186 (HF.ten (V := [0]) (L := [10]) rfl) (Bd.vw (V := [0]) (L := [10]) hB160 rfl rfl) hz186) ?_
            rintro _ w187 ⟨o188, rfl, s189, hB190⟩
            refine ⟨_, rfl, ?_⟩
            replace hB190 := Bd.unO (J := []) 0 hB190 s189 rfl rfl rfl
            replace s189 := un_stepL (J := []) (L' := [10]) s189 rfl rfl
            replace hr163 := hr163.step s189 rfl
            replace HF := HF.step s189 rfl
            refine WL.nil ?_
            refine WC.region ?_
            refine WL.ex rfl (ex_move (v := encS x179) rfl) ?_
            obtain ⟨z191, hz191, H⟩ := bindE H
            refine WL.op rfl ?_
            refine OW.call [.pointer (some ⟨b138, 0, none⟩), encS x179] rfl Tryd.func57 (by kernel_rfl) (by kernel_rfl) (map_cons' s8_167 (map_cons' rfl rfl)) (Builder_WriteString.calls _ _ b138 z186.2 x179 z191 (HF.ten (V := [0]) (L := [10]) rfl) (Bd.vw (V := [0]) (L := [10]) hB190 rfl rfl) hz191) ?_
            rintro _ w192 ⟨o193, rfl, s194, hB195⟩
            refine ⟨_, rfl, ?_⟩
            replace hB195 := Bd.unO (J := []) 0 hB195 s194 rfl rfl rfl
            replace s194 := un_stepL (J := []) (L' := [10]) s194 rfl rfl
            replace hr163 := hr163.step s194 rfl
            replace HF := HF.step s194 rfl
            refine WL.nil ?_
            refine WC.region ?_
            refine WL.ex rfl (ex_bin (a := .int .i64 x168) (b := .int .i64 1) (v := .int .i64 (wrap64 (x168 + 1))) s65_168 rfl bin_add64) ?_
            refine WL.ex rfl (ex_move (v := .int .i64 (wrap64 (x168 + 1))) rfl) ?_
            refine WL.nil ?_
            exact ⟨k174, Nat.lt_succ_self _, ⟨_, wrap64 (x168 + 1), z191.2, HF, hr163, hB195, s1_167, s4_167, s8_167, s63_167, s64_167, rfl, H⟩⟩
          ·
            refine WC.cond_f ((show _ = Value.bool (decide (x168 < (y161.length : Int))) from rfl).trans (congrArg Value.bool c178)) ?_
            refine WC.exit ?_
            obtain rfl := Option.some.inj H
            exact ⟨_, HF, hB160, s4_167, s8_167⟩
        have Ho121 := H
        rintro k122 ρ123 w124 ⟨o125, x116, x117, HF, hra0, s0_115, s1_115, s4_115, s5_116, s39_116, s40_116, s41_117, H⟩
        cases k122 with
        | zero => cases H
        | succ k122 =>
        rw [strings_Join.l1.eq_2] at H
        refine WC.seq ?_
        refine WC.region ?_
        refine WL.ex rfl (ex_bin (a := .int .i64 x117) (b := .int .i64 (a0.length : Int)) (v := .bool (decide (x117 < (a0.length : Int)))) s41_117 s40_116 bin_lss) ?_
        refine WL.nil ?_
        refine WC.seq ?_
        rcases condE H with ⟨c126, H⟩ | ⟨c126, H⟩
        ·
          refine WC.cond_t ((show _ = Value.bool (decide (x117 < (a0.length : Int))) from rfl).trans (congrArg Value.bool c126)) ?_
          refine WC.skip ?_
          refine WC.seq ?_
          refine WC.block ?_
          refine WC.seq ?_
          refine WC.region ?_
          obtain ⟨x127, hx127, H⟩ := bindE H
          obtain ⟨ad128, e129, g130, g131, cell132⟩ := Row.ixS hra0 hx127
          refine WL.ex rfl (ex_indexAddr (i := x117) s39_116 e129 s41_117 Tryd.underlying54 sz9 g130 g131) ?_
          refine WL.ex rfl (ex_load1 (v := encS x127) rfl Tryd.underlying9 rfl cell132) ?_
          refine WL.ex rfl (ex_assign (v := encS x127) rfl) ?_
          refine WL.nil ?_
          refine WC.seq ?_
          refine WC.seq ?_
          refine WC.region ?_
          refine WL.ex rfl (ex_move (v := encS x127) rfl) ?_
          refine WL.ex rfl (ex_len_str (s := x127) rfl Tryd.underlying9) ?_
          refine WL.ex rfl (ex_move (v := .int .i64 x116) s5_116) ?_
          refine WL.ex rfl (ex_bin (a := .int .i64 9223372036854775807) (b := .int .i64 x116) (v := .int .i64 (wrap64 (9223372036854775807 - x116))) rfl rfl bin_sub64) ?_
          refine WL.ex rfl (ex_bin (a := .int .i64 (x127.length : Int)) (b := .int .i64 (wrap64 (9223372036854775807 - x116))) (v := .bool (decide ((x127.length : Int) > (wrap64 (9223372036854775807 - x116))))) rfl rfl bin_gtr) ?_
          refine WL.nil ?_
          rcases condE H with ⟨c134, H⟩ | ⟨c134, H⟩
          ·
            refine WC.cond_t ((show _ = Value.bool (decide ((x127.length : Int) > (wrap64 (9223372036854775807 - x116)))) from rfl).trans (congrArg Value.bool c134)) ?_
            cases H
          ·
            refine WC.cond_f ((show _ = Value.bool (decide ((x127.length : Int) > (wrap64 (9223372036854775807 - x116)))) from rfl).trans (congrArg Value.bool c134)) ?_
            refine WC.skip ?_
            refine WC.region ?_
            refine WL.ex rfl (ex_move (v := .int .i64 x116) s5_116) ?_
            refine WL.ex rfl (ex_move (v := encS x127) rfl) ?_
            refine WL.ex rfl (ex_len_str (s := x127) rfl Tryd.underlying9) ?_
            refine WL.ex rfl (ex_bin (a := .int .i64 x116) (b := .int .i64 (x127.length : Int)) (v := .int .i64 (wrap64 (x116 + (x127.length : Int)))) rfl rfl bin_add64) ?_
            refine WL.ex rfl (ex_assign (v := .int .i64 (wrap64 (x116 + (x127.length : Int)))) rfl) ?_
            refine WL.nil ?_
            refine WC.region ?_
            refine WL.ex rfl (ex_bin (a := .int .i64 x117) (b := .int .i64 1) (v := .int .i64 (wrap64 (x117 + 1))) s41_117 rfl bin_add64) ?_
            refine WL.ex rfl (ex_move (v := .int .i64 (wrap64 (x117 + 1))) rfl) ?_
            refine WL.nil ?_
            exact ⟨k122, Nat.lt_succ_self _, ⟨_, wrap64 (x116 + (x127.length : Int)), wrap64 (x117 + 1), HF, hra0, s0_115, s1_115, s4_115, rfl, s39_116, s40_116, rfl, H⟩⟩
        ·
          refine WC.cond_f ((show _ = Value.bool (decide (x117 < (a0.length : Int))) from rfl).trans (congrArg Value.bool c126)) ?_
          refine WC.exit ?_
          obtain rfl := Option.some.inj H
          exact ⟨_, HF, hra0, s0_115, s1_115, s4_115, s5_116⟩
      have Ho203 := H
      replace H := hz111
      refine WC.seq ?_
      refine WC.region ?_
      refine WL.ex rfl (ex_move (v := encS a1) rfl) ?_
      refine WL.ex rfl (ex_len_str (s := a1) rfl Tryd.underlying9) ?_
      refine WL.ex rfl (ex_bin (a := .int .i64 (a1.length : Int)) (b := .int .i64 0) (v := .bool (decide ((a1.length : Int) > 0))) rfl rfl bin_gtr) ?_
      refine WL.nil ?_
      rcases condE H with ⟨c204, H⟩ | ⟨c204, H⟩
      ·
        refine WC.cond_t ((show _ = Value.bool (decide ((a1.length : Int) > 0)) from rfl).trans (congrArg Value.bool c204)) ?_
        refine WC.seq ?_
        refine WC.seq ?_
        refine WC.region ?_
        refine WL.ex rfl (ex_move (v := encS a1) rfl) ?_
        refine WL.ex rfl (ex_len_str (s := a1) rfl Tryd.underlying9) ?_
        refine WL.ex rfl (ex_move (v := .slice pA0 a0.length pc0) rfl) ?_
        refine WL.ex rfl (ex_len_slice (A := pA0) (m := a0.length) (c := pc0) rfl Tryd.underlying54) ?_
        refine WL.ex rfl (ex_bin (a := .int .i64 (a0.length : Int)) (b := .int .i64 1) (v := .int .i64 (wrap64 ((a0.length : Int) - 1))) rfl rfl bin_sub64) ?_
        obtain ⟨u205, hu205, H⟩ := bindE H
        refine WL.ex rfl (ex_bin (a := .int .i64 9223372036854775807) (b := .int .i64 (wrap64 ((a0.length : Int) - 1))) (v := .int .i64 (wrap64 ((9223372036854775807 : Int).tdiv (wrap64 ((a0.length : Int) - 1))))) rfl rfl (bin_quo64 (by have h_ := chk_true hu205; simpa using h_))) ?_
        refine WL.ex rfl (ex_bin (a := .int .i64 (a1.length : Int)) (b := .int .i64 (wrap64 ((9223372036854775807 : Int).tdiv (wrap64 ((a0.length : Int) - 1))))) (v := .bool (decide ((a1.length : Int) ≥ (wrap64 ((9223372036854775807 : Int).tdiv (wrap64 ((a0.length : Int) - 1))))))) rfl rfl bin_geq) ?_
        refine WL.nil ?_
        rcases condE H with ⟨c206, H⟩ | ⟨c206, H⟩
        ·
          refine WC.cond_t ((show _ = Value.bool (decide ((a1.length : Int) ≥ (wrap64 ((9223372036854775807 : Int).tdiv (wrap64 ((a0.length : Int) - 1)))))) from rfl).trans (congrArg Value.bool c206)) ?_
          cases H
        ·
          refine WC.cond_f ((show _ = Value.bool (decide ((a1.length : Int) ≥ (wrap64 ((9223372036854775807 : Int).tdiv (wrap64 ((a0.length : Int) - 1)))))) from rfl).trans (congrArg Value.bool c206)) ?_
          refine WC.skip ?_
          refine WC.region ?_
          refine WL.ex rfl (ex_move (v := .int .i64 0) rfl) ?_
          refine WL.ex rfl (ex_move (v := encS a1) rfl) ?_
          refine WL.ex rfl (ex_len_str (s := a1) rfl Tryd.underlying9) ?_
          refine WL.ex rfl (ex_move (v := .slice pA0 a0.length pc0) rfl) ?_
          refine WL.ex rfl (ex_len_slice (A := pA0) (m := a0.length) (c := pc0) rfl Tryd.underlying54) ?_
          refine WL.ex rfl (ex_bin (a := .int .i64 (a0.length : Int)) (b := .int .i64 1) (v := .int .i64 (wrap64 ((a0.length : Int) - 1))) rfl rfl bin_sub64) ?_
          refine WL.ex rfl (ex_bin (a := .int .i64 (a1.length : Int)) (b := .int .i64 (wrap64 ((a0.length : Int) - 1))) (v := .int .i64 (wrap64 ((a1.length : Int) * (wrap64 ((a0.length : Int) - 1))))) rfl rfl bin_mul64) ?_
          refine WL.ex rfl (ex_bin (a := .int .i64 0) (b := .int .i64 (wrap64 ((a1.length : Int) * (wrap64 ((a0.length : Int) - 1))))) (v := .int .i64 (wrap64 (0 + (wrap64 ((a1.length : Int) * (wrap64 ((a0.length : Int) - 1))))))) rfl rfl bin_add64) ?_
          refine WL.ex rfl (ex_assign (v := .int .i64 (wrap64 (0 + (wrap64 ((a1.length : Int) * (wrap64 ((a0.length : Int) - 1))))))) rfl) ?_
          refine WL.nil ?_
          obtain rfl := Option.some.inj H
          exact ⟨_, HF, hra0, rfl, rfl, rfl, rfl⟩
      ·
        refine WC.cond_f ((show _ = Value.bool (decide ((a1.length : Int) > 0)) from rfl).trans (congrArg Value.bool c204)) ?_
        refine WC.skip ?_
        obtain rfl := Option.some.inj H
        exact ⟨_, HF, hra0, rfl, rfl, rfl, rfl⟩

/-! ### bits_Text -/
set_option maxRecDepth 100000 in
theorem bits_Text.calls (k : Nat) (o0 : Tags) (w0 : World) (a0 : (List UInt64)) (r : (List UInt8)) (hO : ∀ b, b < w0.heap.size → o0 b < 10) (hla0 : a0.length = 16) (hG : Gl GG o0 w0) (H : bits_Text.f k a0 = some r) :
    Calls Tryd.prog 8 [.agg (List.map enc64 a0).toArray].toArray w0 fun e_ w_ => ∃ (o_ : Tags), e_ = .returned (one [encS r]) ∧ Step o0 w0 o_ w_ [] := by
  have HF := Fm.refl hO []
  unfold bits_Text.f at H
  refine SX.calls [.agg (List.map enc64 a0).toArray] Tryd.func8 rfl rfl ?_
  rw [Tryd.ntmps8]
  refine WC.seq ?_
  refine WC.region ?_
  refine WL.op rfl ?_
  refine OW.box' (List.map enc64 a0) 10 HF rfl ((congrArg Value.cells (show ev _ _ = (.agg (List.map enc64 a0).toArray : Value) from rfl)).trans rfl) ?_
  intro o102 w103 b101 s104 hB105
  replace hG := hG.step s104 rfl
  replace HF := HF.step s104 rfl
  refine WL.ex rfl (ex_assign (v := encS ([] : List UInt8)) rfl) ?_
  refine WL.nil ?_
  refine WC.seq ?_
  refine WC.region ?_
  refine WL.ex rfl (ex_assign (v := .slice none ([] : List (List UInt8)).length 0) rfl) ?_
  refine WL.nil ?_
  refine WC.seq ?_
  refine WC.seq ?_
  refine WC.region ?_
  refine WL.ex rfl (ex_loadAV (xs := a0) rfl Tryd.underlying24 sz24 hla0 hB105) ?_
  obtain ⟨z106, hz106, H⟩ := bindE H
  refine WL.op rfl ?_
  refine OW.call [.agg (List.map enc64 a0).toArray, .int .i64 0] rfl Tryd.func13 (by kernel_rfl) (by kernel_rfl) (map_cons' rfl (map_cons' rfl rfl)) (bits_Next.calls k _ _ a0 0 z106 (HF.ten (V := [0]) (L := []) rfl) hla0 (Gl.vw (V := [0]) (L := []) hG rfl) hz106) ?_
  rintro _ w107 ⟨o108, rfl, s109⟩
  refine ⟨_, rfl, ?_⟩
  replace s109 := un_stepL (J := []) (L' := []) s109 rfl rfl
  replace hG := hG.step s109 rfl
  replace hB105 := hB105.step s109 rfl
  replace HF := HF.step s109 rfl
  refine WL.ex rfl (ex_move (v := .tuple #[.int .i64 z106.1, .bool z106.2]) rfl) ?_
  refine WL.ex rfl (ex_extract (vs := #[.int .i64 z106.1, .bool z106.2]) (v := .int .i64 z106.1) rfl rfl) ?_
  refine WL.ex rfl (ex_extract (vs := #[.int .i64 z106.1, .bool z106.2]) (v := .bool z106.2) rfl rfl) ?_
  refine WL.ex rfl (ex_assign (v := .int .i64 z106.1) rfl) ?_
  refine WL.ex rfl (ex_assign (v := .bool z106.2) rfl) ?_
  refine WL.nil ?_
  obtain ⟨z118, hz118, H⟩ := bindE H
  refine WC.for (fun k_ ρ_ w_ => ∃ (o_ : Tags) (x112 : (List (List UInt8))) (x113 : Int) (x114 : Bool) (v110 : Value), Fm o0 w0 o_ w_ [] ∧ Own Rep.str 9 12 o_ w_ v110 x112 ∧ Bk o_ w_ 10 b101 (List.map enc64 a0) 24 ∧ Gl GG o_ w_ ∧ ρ_ 1 = .pointer (some ⟨b101, 0, none⟩) ∧ ρ_ 2 = encS ([] : List UInt8) ∧ ρ_ 3 = v110 ∧ ρ_ 4 = .int .i64 x113 ∧ ρ_ 5 = .bool x114 ∧ bits_Text.l1 k a0 k_ x112 x113 x114 = some z118) k (fun ρ_ w_ => ∃ (o_ : Tags) (v115 : Value), Fm o0 w0 o_ w_ [] ∧ Own Rep.str 9 12 o_ w_ v115 z118 ∧ Gl GG o_ w_ ∧ ρ_ 2 = encS ([] : List UInt8) ∧ ρ_ 3 = v115) ⟨_, ([] : List (List UInt8)), z106.1, z106.2, _, HF, Own.nil, hB105, hG, rfl, rfl, rfl, rfl, rfl, hz118⟩ ?case119 ?_
  case case119 =>
    rintro ρ179 w180 ⟨o181, v115, HF, hO116, hG, s2_114, s3_117⟩
    refine WC.seq ?_
    refine WC.region ?_
    refine WL.ex rfl (ex_move (v := v115) s3_117) ?_
    obtain ⟨A182, c183, q184e, q184l, q184⟩ := Own.vwRow (V := [0, 12]) (L := []) hO116 rfl rfl
    obtain ⟨z185, hz185, H⟩ := bindE H
    have q184e' := q184e
    refine WL.op rfl ?_
    refine OW.call [v115, encS ([44] : List UInt8)] rfl Tryd.func39 (by kernel_rfl) (by kernel_rfl) (map_cons' rfl (map_cons' rfl rfl)) (by simp only [q184e]; exact (strings_Join.calls k _ _ A182 c183 z118 ([44] : List UInt8) z185 (HF.ten (V := [0, 12]) (L := []) rfl) q184 q184l hz185)) ?_
    rintro _ w186 ⟨o187, rfl, s188⟩
    refine ⟨_, rfl, ?_⟩
    replace s188 := un_stepL (J := []) (L' := []) s188 rfl rfl
    replace hO116 := hO116.step s188 rfl rfl
    replace hG := hG.step s188 rfl
    replace HF := HF.step s188 rfl
    refine WL.ex rfl (ex_assign (v := encS z185) rfl) ?_
    refine WL.nil ?_
    refine WC.ret ?_
    obtain rfl := Option.some.inj H
    exact ⟨_, (.tmp (encS z185 : Value) rfl .nil), _, rfl, HF.out⟩
  have Ho120 := H
  rintro k121 ρ122 w123 ⟨o124, x112, x113, x114, v110, HF, hO111, hB105, hG, s1_109, s2_109, s3_112, s4_113, s5_114, H⟩
  cases k121 with
  | zero => cases H
  | succ k121 =>
  rw [bits_Text.l1.eq_2] at H
  refine WC.seq ?_
  refine WC.seq ?_
  refine WC.region ?_
  refine WL.ex rfl (ex_move (v := .bool x114) s5_114) ?_
  refine WL.nil ?_
  rcases condE H with ⟨c125, H⟩ | ⟨c125, H⟩
  ·
    refine WC.cond_t ((show _ = Value.bool x114 from rfl).trans (congrArg Value.bool c125)) ?_
    refine WC.skip ?_
    refine WC.block ?_
    refine WC.seq ?_
    refine WC.region ?_
    refine WL.ex rfl (ex_move (v := .int .i64 x113) s4_113) ?_
    refine WL.ex rfl (ex_assign (v := .int .i64 x113) rfl) ?_
    refine WL.nil ?_
    refine WC.seq ?_
    obtain ⟨z128, hz128, H⟩ := bindE H
    refine WC.for (fun k_ ρ_ w_ => ∃ (o_ : Tags) (x126 : Int), Fm o0 w0 o_ w_ [] ∧ Own Rep.str 9 12 o_ w_ v110 x112 ∧ Bk o_ w_ 10 b101 (List.map enc64 a0) 24 ∧ Gl GG o_ w_ ∧ ρ_ 1 = .pointer (some ⟨b101, 0, none⟩) ∧ ρ_ 2 = encS ([] : List UInt8) ∧ ρ_ 3 = v110 ∧ ρ_ 4 = .int .i64 x113 ∧ ρ_ 5 = .bool x114 ∧ ρ_ 6 = .int .i64 x126 ∧ bits_Text.l2 k a0 k_ x126 = some z128) k (fun ρ_ w_ => ∃ (o_ : Tags), Fm o0 w0 o_ w_ [] ∧ Own Rep.str 9 12 o_ w_ v110 x112 ∧ Bk o_ w_ 10 b101 (List.map enc64 a0) 24 ∧ Gl GG o_ w_ ∧ ρ_ 1 = .pointer (some ⟨b101, 0, none⟩) ∧ ρ_ 2 = encS ([] : List UInt8) ∧ ρ_ 3 = v110 ∧ ρ_ 4 = .int .i64 x113 ∧ ρ_ 5 = .bool x114 ∧ ρ_ 6 = .int .i64 z128) ⟨_, x113, HF, hO111, hB105, hG, s1_109, s2_109, s3_112, s4_113, s5_114, rfl, hz128⟩ ?case129 ?_
    case case129 =>
      rintro ρ140 w141 ⟨o142, HF, hO111, hB105, hG, s1_126, s2_126, s3_126, s4_126, s5_126, s6_127⟩
      refine WC.seq ?_
      refine WC.region ?_
      refine WL.ex rfl (ex_move (v := .int .i64 x113) s4_126) ?_
      obtain ⟨z143, hz143, H⟩ := bindE H
      refine WL.op rfl ?_
      refine OW.call [.int .i64 x113] rfl Tryd.func38 (by kernel_rfl) (by kernel_rfl) (map_cons' rfl rfl) (octet_Dec.calls _ _ x113 z143 (HF.ten (V := [0]) (L := []) rfl) (Gl.vw (V := [0]) (L := []) hG rfl) hz143) ?_
      rintro _ w144 ⟨o145, rfl, s146⟩
      refine ⟨_, rfl, ?_⟩
      replace s146 := un_stepL (J := []) (L' := []) s146 rfl rfl
      replace hO111 := hO111.step s146 rfl rfl
      replace hB105 := hB105.step s146 rfl
      replace hG := hG.step s146 rfl
      replace HF := HF.step s146 rfl
      refine WL.ex rfl (ex_assign (v := encS z143) rfl) ?_
      refine WL.nil ?_
      obtain ⟨z148, hz148, H⟩ := bindE H
      refine WC.cut (fun ρ_ w_ => ∃ (o_ : Tags), Fm o0 w0 o_ w_ [] ∧ Own Rep.str 9 12 o_ w_ v110 x112 ∧ Bk o_ w_ 10 b101 (List.map enc64 a0) 24 ∧ Gl GG o_ w_ ∧ ρ_ 1 = .pointer (some ⟨b101, 0, none⟩) ∧ ρ_ 2 = encS ([] : List UInt8) ∧ ρ_ 3 = v110 ∧ ρ_ 4 = .int .i64 x113 ∧ ρ_ 5 = .bool x114 ∧ ρ_ 6 = .int .i64 z128 ∧ ρ_ 7 = encS z148) ?case149 ?_
      case case149 =>
        rintro ρ152 w150 ⟨o151, HF, hO111, hB105, hG, s1_146, s2_146, s3_146, s4_146, s5_146, s6_146, s7_147⟩
        refine WC.seq ?_
        refine WC.region ?_
        refine WL.ex rfl (ex_move (v := v110) s3_146) ?_
        refine WL.ex rfl (ex_move (v := encS z148) s7_147) ?_
        refine WL.op rfl ?_
        refine OW.row (r := Rep.str) (xs := [z148]) [(0, encS z148)] [[encS z148]] 13 HF rfl Tryd.underlying54 sz9 zr9 rfl (evs_cons rfl rfl) rfl rfl ⟨rfl, trivial⟩ rfl rfl rfl rfl ?_
        intro o153 w154 v156 s155 hO157
        replace hO111 := hO111.step s155 rfl rfl
        replace hB105 := hB105.step s155 rfl
        replace hG := hG.step s155 rfl
        replace HF := HF.step s155 rfl
        obtain ⟨A158, c159, q160_, _, q160⟩ := hO157.row
        obtain ⟨u161, hu161, H⟩ := bindE H
        refine WL.op rfl ?_
        refine OW.append (r := Rep.str) (E := 9) (i := 12) rfl Tryd.underlying54 inf9 rfl (by decide) (by decide) (by decide) rfl ((show _ = (v156 : Value) from rfl).trans q160_) hO111 q160 rfl (of_decide_eq_true (chk_true hu161)) ?_
        intro o162 w163 v164 s165 hO166
        replace hB105 := hB105.step s165 rfl
        replace hG := hG.step s165 rfl
        replace hO157 := hO157.step s165 rfl rfl
        replace HF := HF.step s165 rfl
        refine WL.ex rfl (ex_assign (v := v164) rfl) ?_
        refine WL.nil ?_
        refine WC.region ?_
        refine WL.ex rfl (ex_loadAV (xs := a0) s1_146 Tryd.underlying24 sz24 hla0 hB105) ?_
        refine WL.ex rfl (ex_move (v := .int .i64 z128) s6_146) ?_
        refine WL.ex rfl (ex_bin (a := .int .i64 z128) (b := .int .i64 1) (v := .int .i64 (wrap64 (z128 + 1))) rfl rfl bin_add64) ?_
        obtain ⟨z167, hz167, H⟩ := bindE H
        refine WL.op rfl ?_
        refine OW.call [.agg (List.map enc64 a0).toArray, .int .i64 (wrap64 (z128 + 1))] rfl Tryd.func13 (by kernel_rfl) (by kernel_rfl) (map_cons' rfl (map_cons' rfl rfl)) (bits_Next.calls k _ _ a0 (wrap64 (z128 + 1)) z167 (HF.ten (V := [0]) (L := []) rfl) hla0 (Gl.vw (V := [0]) (L := []) hG rfl) hz167) ?_
        rintro _ w168 ⟨o169, rfl, s170⟩
        refine ⟨_, rfl, ?_⟩
        replace s170 := un_stepL (J := []) (L' := []) s170 rfl rfl
        replace hB105 := hB105.step s170 rfl
        replace hG := hG.step s170 rfl
        replace hO157 := hO157.step s170 rfl rfl
        replace hO166 := hO166.step s170 rfl rfl
        replace HF := HF.step s170 rfl
        refine WL.ex rfl (ex_move (v := .tuple #[.int .i64 z167.1, .bool z167.2]) rfl) ?_
        refine WL.ex rfl (ex_extract (vs := #[.int .i64 z167.1, .bool z167.2]) (v := .int .i64 z167.1) rfl rfl) ?_
        refine WL.ex rfl (ex_extract (vs := #[.int .i64 z167.1, .bool z167.2]) (v := .bool z167.2) rfl rfl) ?_
        refine WL.ex rfl (ex_assign (v := .int .i64 z167.1) rfl) ?_
        refine WL.ex rfl (ex_assign (v := .bool z167.2) rfl) ?_
        refine WL.nil ?_
        exact ⟨k121, Nat.lt_succ_self _, ⟨_, (x112 ++ [z148]), z167.1, z167.2, _, HF, hO166, hB105, hG, s1_146, s2_146, rfl, rfl, rfl, H⟩⟩
      have Ho171 := H
      replace H := hz148
      refine WC.seq ?_
      refine WC.region ?_
      refine WL.ex rfl (ex_move (v := .int .i64 z128) s6_127) ?_
      refine WL.ex rfl (ex_move (v := .int .i64 x113) s4_126) ?_
      refine WL.ex rfl (ex_bin (a := .int .i64 z128) (b := .int .i64 x113) (v := .bool (decide (z128 > x113))) rfl rfl bin_gtr) ?_
      refine WL.nil ?_
      rcases condE H with ⟨c172, H⟩ | ⟨c172, H⟩
      ·
        refine WC.cond_t ((show _ = Value.bool (decide (z128 > x113)) from rfl).trans (congrArg Value.bool c172)) ?_
        refine WC.region ?_
        refine WL.ex rfl (ex_move (v := encS z143) rfl) ?_
        refine WL.ex rfl (ex_move (v := .int .i64 z128) s6_127) ?_
        obtain ⟨z173, hz173, H⟩ := bindE H
        refine WL.op rfl ?_
        refine OW.call [.int .i64 z128] rfl Tryd.func38 (by kernel_rfl) (by kernel_rfl) (map_cons' rfl rfl) (octet_Dec.calls _ _ z128 z173 (HF.ten (V := [0]) (L := []) rfl) (Gl.vw (V := [0]) (L := []) hG rfl) hz173) ?_
        rintro _ w174 ⟨o175, rfl, s176⟩
        refine ⟨_, rfl, ?_⟩
        replace s176 := un_stepL (J := []) (L' := []) s176 rfl rfl
        replace hO111 := hO111.step s176 rfl rfl
        replace hB105 := hB105.step s176 rfl
        replace hG := hG.step s176 rfl
        replace HF := HF.step s176 rfl
        obtain ⟨u177, hu177, H⟩ := bindE H
        refine WL.ex rfl (ex_bin (a := encS ([45] : List UInt8)) (b := encS z173) (v := encS (([45] : List UInt8) ++ z173)) rfl rfl (bin_add_str (of_decide_eq_true (chk_true hu177)))) ?_
        obtain ⟨u178, hu178, H⟩ := bindE H
        refine WL.ex rfl (ex_bin (a := encS z143) (b := encS (([45] : List UInt8) ++ z173)) (v := encS (z143 ++ (([45] : List UInt8) ++ z173))) rfl rfl (bin_add_str (of_decide_eq_true (chk_true hu178)))) ?_
        refine WL.ex rfl (ex_assign (v := encS (z143 ++ (([45] : List UInt8) ++ z173))) rfl) ?_
        refine WL.nil ?_
        obtain rfl := Option.some.inj H
        exact ⟨_, HF, hO111, hB105, hG, s1_126, s2_126, s3_126, s4_126, s5_126, s6_127, rfl⟩
      ·
        refine WC.cond_f ((show _ = Value.bool (decide (z128 > x113)) from rfl).trans (congrArg Value.bool c172)) ?_
        refine WC.skip ?_
        obtain rfl := Option.some.inj H
        exact ⟨_, HF, hO111, hB105, hG, s1_126, s2_126, s3_126, s4_126, s5_126, s6_127, rfl⟩
    have Ho130 := H
    rintro k131 ρ132 w133 ⟨o134, x126, HF, hO111, hB105, hG, s1_125, s2_125, s3_125, s4_125, s5_125, s6_126, H⟩
    cases k131 with
    | zero => cases H
    | succ k131 =>
    rw [bits_Text.l2.eq_2] at H
    refine WC.seq ?_
    refine WC.seq ?_
    refine WC.region ?_
    refine WL.ex rfl (ex_loadAV (xs := a0) s1_125 Tryd.underlying24 sz24 hla0 hB105) ?_
    refine WL.ex rfl (ex_move (v := .int .i64 x126) s6_126) ?_
    refine WL.ex rfl (ex_bin (a := .int .i64 x126) (b := .int .i64 1) (v := .int .i64 (wrap64 (x126 + 1))) rfl rfl bin_add64) ?_
    obtain ⟨z135, hz135, H⟩ := bindE H
    refine WL.op rfl ?_
    refine OW.call [.agg (List.map enc64 a0).toArray, .int .i64 (wrap64 (x126 + 1))] rfl Tryd.func32 (by kernel_rfl) (by kernel_rfl) (map_cons' rfl (map_cons' rfl rfl)) (bits_Has.calls _ _ a0 (wrap64 (x126 + 1)) z135 (HF.ten (V := [0]) (L := []) rfl) hla0 hz135) ?_
    rintro _ w136 ⟨o137, rfl, s138⟩
    refine ⟨_, rfl, ?_⟩
    replace s138 := un_stepL (J := []) (L' := []) s138 rfl rfl
    replace hO111 := hO111.step s138 rfl rfl
    replace hB105 := hB105.step s138 rfl
    replace hG := hG.step s138 rfl
    replace HF := HF.step s138 rfl
    refine WL.nil ?_
    rcases condE H with ⟨c139, H⟩ | ⟨c139, H⟩
    ·
      refine WC.cond_t ((show _ = Value.bool z135 from rfl).trans (congrArg Value.bool c139)) ?_
      refine WC.skip ?_
      refine WC.block ?_
      refine WC.region ?_
      refine WL.ex rfl (ex_move (v := .int .i64 x126) s6_126) ?_
      refine WL.ex rfl (ex_bin (a := .int .i64 x126) (b := .int .i64 1) (v := .int .i64 (wrap64 (x126 + 1))) rfl rfl bin_add64) ?_
      refine WL.ex rfl (ex_assign (v := .int .i64 (wrap64 (x126 + 1))) rfl) ?_
      refine WL.nil ?_
      exact ⟨k131, Nat.lt_succ_self _, ⟨_, wrap64 (x126 + 1), HF, hO111, hB105, hG, s1_125, s2_125, s3_125, s4_125, s5_125, rfl, H⟩⟩
    ·
      refine WC.cond_f ((show _ = Value.bool z135 from rfl).trans (congrArg Value.bool c139)) ?_
      refine WC.exit ?_
      obtain rfl := Option.some.inj H
      exact ⟨_, HF, hO111, hB105, hG, s1_125, s2_125, s3_125, s4_125, s5_125, s6_126⟩
  ·
    refine WC.cond_f ((show _ = Value.bool x114 from rfl).trans (congrArg Value.bool c125)) ?_
    refine WC.exit ?_
    obtain rfl := Option.some.inj H
    exact ⟨_, _, HF, hO111, hG, s2_109, s3_112⟩

/-! ### strings_splitSeq -/
set_option maxRecDepth 100000 in
theorem strings_splitSeq.calls (o0 : Tags) (w0 : World) (a0 : List UInt8) (a1 : List UInt8) (a2 : Int) (r : (List UInt8) × (List UInt8) × Int) (hO : ∀ b, b < w0.heap.size → o0 b < 10) (H : strings_splitSeq.f a0 a1 a2 = some r) :
    Calls Tryd.prog 59 [encS a0, encS a1, .int .i64 a2].toArray w0 fun e_ w_ => ∃ (o_ : Tags) (b_0_0 : Nat) (b_0_1 : Nat) (b_0_2 : Nat), e_ = .returned (one [.func (.func 65) #[] #[.pointer (some ⟨b_0_0, 0, none⟩), .pointer (some ⟨b_0_1, 0, none⟩), .pointer (some ⟨b_0_2, 0, none⟩)]]) ∧ Step o0 w0 o_ w_ [] ∧ Bk o_ w_ 9 b_0_0 [encS r.1] 9 ∧ Bk o_ w_ 8 b_0_1 [encS r.2.1] 9 ∧ Bk o_ w_ 7 b_0_2 [.int .i64 r.2.2] 3 := by
  have HF := Fm.refl hO []
  unfold strings_splitSeq.f at H
  refine SX.calls [encS a0, encS a1, .int .i64 a2] Tryd.func59 rfl rfl ?_
  rw [Tryd.ntmps59]
  refine WC.seq ?_
  refine WC.region ?_
  refine WL.op rfl ?_
  refine OW.box' [encS a0] 10 HF rfl ((congrArg Value.cells (show ev _ _ = (encS a0 : Value) from rfl)).trans rfl) ?_
  intro o102 w103 b101 s104 hB105
  replace HF := HF.step s104 rfl
  refine WL.op rfl ?_
  refine OW.box' [encS a1] 11 HF rfl ((congrArg Value.cells (show ev _ _ = (encS a1 : Value) from rfl)).trans rfl) ?_
  intro o107 w108 b106 s109 hB110
  replace hB105 := hB105.step s109 rfl
  replace HF := HF.step s109 rfl
  refine WL.op rfl ?_
  refine OW.box' [.int .i64 a2] 12 HF rfl ((congrArg Value.cells (show ev _ _ = (.int .i64 a2 : Value) from rfl)).trans rfl) ?_
  intro o112 w113 b111 s114 hB115
  replace hB105 := hB105.step s114 rfl
  replace hB110 := hB110.step s114 rfl
  replace HF := HF.step s114 rfl
  refine WL.ex rfl (ex_assign (v := .nilFunc) rfl) ?_
  refine WL.nil ?_
  refine WC.seq ?_
  refine WC.region ?_
  refine WL.ex rfl (ex_makeFuncC [.pointer (some ⟨b106, 0, none⟩), .pointer (some ⟨b101, 0, none⟩), .pointer (some ⟨b111, 0, none⟩)] (map_cons' rfl (map_cons' rfl (map_cons' rfl rfl)))) ?_
  refine WL.ex rfl (ex_assign (v := .func (.func 65) #[] #[.pointer (some ⟨b106, 0, none⟩), .pointer (some ⟨b101, 0, none⟩), .pointer (some ⟨b111, 0, none⟩)]) rfl) ?_
  refine WL.nil ?_
  refine WC.ret ?_
  obtain rfl := Option.some.inj H
  replace hB110 := Bk.renTo (j := 9) hB110
  replace hB105 := Bk.ren (i := 11) (j := 9) hB105 rfl
  replace hB115 := Bk.ren (i := 11) (j := 9) hB115 rfl
  replace HF := HF.ren (i := 11) (j := 9) rfl
  replace hB110 := Bk.ren (i := 10) (j := 8) hB110 rfl
  replace hB105 := Bk.renTo (j := 8) hB105
  replace hB115 := Bk.ren (i := 10) (j := 8) hB115 rfl
  replace HF := HF.ren (i := 10) (j := 8) rfl
  replace hB110 := Bk.ren (i := 12) (j := 7) hB110 rfl
  replace hB105 := Bk.ren (i := 12) (j := 7) hB105 rfl
  replace hB115 := Bk.renTo (j := 7) hB115
  replace HF := HF.ren (i := 12) (j := 7) rfl
  exact ⟨_, (.tmp (.func (.func 65) #[] #[.pointer (some ⟨b106, 0, none⟩), .pointer (some ⟨b101, 0, none⟩), .pointer (some ⟨b111, 0, none⟩)] : Value) rfl .nil), _, b106, b101, b111, rfl, HF.out, hB110, hB105, hB115⟩

/-! ### strings_SplitSeq -/
set_option maxRecDepth 100000 in
theorem strings_SplitSeq.calls (o0 : Tags) (w0 : World) (a0 : List UInt8) (a1 : List UInt8) (r : (List UInt8) × (List UInt8) × Int) (hO : ∀ b, b < w0.heap.size → o0 b < 10) (H : strings_SplitSeq.f a0 a1 = some r) :
    Calls Tryd.prog 40 [encS a0, encS a1].toArray w0 fun e_ w_ => ∃ (o_ : Tags) (b_0_0 : Nat) (b_0_1 : Nat) (b_0_2 : Nat), e_ = .returned (one [.func (.func 65) #[] #[.pointer (some ⟨b_0_0, 0, none⟩), .pointer (some ⟨b_0_1, 0, none⟩), .pointer (some ⟨b_0_2, 0, none⟩)]]) ∧ Step o0 w0 o_ w_ [] ∧ Bk o_ w_ 9 b_0_0 [encS r.1] 9 ∧ Bk o_ w_ 8 b_0_1 [encS r.2.1] 9 ∧ Bk o_ w_ 7 b_0_2 [.int .i64 r.2.2] 3 := by
  have HF := Fm.refl hO []
  unfold strings_SplitSeq.f at H
  refine SX.calls [encS a0, encS a1] Tryd.func40 rfl rfl ?_
  rw [Tryd.ntmps40]
  refine WC.seq ?_
  refine WC.region ?_
  refine WL.ex rfl (ex_assign (v := .nilFunc) rfl) ?_
  refine WL.nil ?_
  refine WC.seq ?_
  refine WC.region ?_
  refine WL.ex rfl (ex_move (v := encS a0) rfl) ?_
  refine WL.ex rfl (ex_move (v := encS a1) rfl) ?_
  obtain ⟨z101, hz101, H⟩ := bindE H
  refine WL.op rfl ?_
  refine OW.call [encS a0, encS a1, .int .i64 0] rfl Tryd.func59 (by kernel_rfl) (by kernel_rfl) (map_cons' rfl (map_cons' rfl (map_cons' rfl rfl))) (strings_splitSeq.calls _ _ a0 a1 0 z101 (HF.ten (V := [0]) (L := []) rfl)  hz101) ?_
  rintro _ w102 ⟨o103, b105, b107, b109, rfl, s104, hB106, hB108, hB110⟩
  refine ⟨_, rfl, ?_⟩
  replace hB106 := Bk.un9 (J := [10, 11, 12]) 0 hB106 rfl s104 rfl rfl
  replace hB108 := Bk.un9 (J := [10, 11, 12]) 1 hB108 rfl s104 rfl rfl
  replace hB110 := Bk.un9 (J := [10, 11, 12]) 2 hB110 rfl s104 rfl rfl
  replace s104 := un_stepL (J := [10, 11, 12]) (L' := []) s104 rfl rfl
  replace HF := HF.step s104 rfl
  refine WL.ex rfl (ex_assign (v := .func (.func 65) #[] #[.pointer (some ⟨b105, 0, none⟩), .pointer (some ⟨b107, 0, none⟩), .pointer (some ⟨b109, 0, none⟩)]) rfl) ?_
  refine WL.nil ?_
  refine WC.ret ?_
  obtain rfl := Option.some.inj H
  replace hB106 := Bk.renTo (j := 9) hB106
  replace hB108 := Bk.ren (i := 10) (j := 9) hB108 rfl
  replace hB110 := Bk.ren (i := 10) (j := 9) hB110 rfl
  replace HF := HF.ren (i := 10) (j := 9) rfl
  replace hB106 := Bk.ren (i := 11) (j := 8) hB106 rfl
  replace hB108 := Bk.renTo (j := 8) hB108
  replace hB110 := Bk.ren (i := 11) (j := 8) hB110 rfl
  replace HF := HF.ren (i := 11) (j := 8) rfl
  replace hB106 := Bk.ren (i := 12) (j := 7) hB106 rfl
  replace hB108 := Bk.ren (i := 12) (j := 7) hB108 rfl
  replace hB110 := Bk.renTo (j := 7) hB110
  replace HF := HF.ren (i := 12) (j := 7) rfl
  exact ⟨_, (.tmp (.func (.func 65) #[] #[.pointer (some ⟨b105, 0, none⟩), .pointer (some ⟨b107, 0, none⟩), .pointer (some ⟨b109, 0, none⟩)] : Value) rfl .nil), _, b105, b107, b109, rfl, HF.out, hB106, hB108, hB110⟩


/-! ### strings.Index of one byte -/
theorem strings_Index.calls (o0 : Tags) (w0 : World) (a0 a1 : List UInt8) (r : Int) (hO : ∀ b, b < w0.heap.size → o0 b < 10) (H : strings_Index.f a0 a1 = some r) :
    Calls Tryd.prog 67 [encS a0, encS a1].toArray w0 fun e_ w_ => ∃ (o_ : Tags), e_ = .returned (one [.int .i64 r]) ∧ Step o0 w0 o_ w_ [] := by
  match a1, H with
  | [c], H =>
    obtain rfl := Option.some.inj H
    refine Calls.mono (Tryd.strings_Index_one ⟨a0.toArray⟩ c w0) ?_
    rintro e w ⟨rfl, rfl⟩
    exact ⟨o0, rfl, Step.refl _ _ _⟩
  | [], H => cases H
  | _ :: _ :: _, H => cases H


/-! ### The iterator of strings.SplitSeq -/
set_option maxRecDepth 100000 in
theorem strings_SplitSeq.iter {a : List UInt8 × List UInt8 × Int} {xs : List (List UInt8)} {bp bs bv tp ts tv : Nat} (h1 : Nat.beq ts tp = false) (h2 : Nat.beq ts tv = false) (H : strings_SplitSeq.seq a = some xs) :
    Iter Tryd.prog 65 #[.pointer (some ⟨bp, 0, none⟩), .pointer (some ⟨bs, 0, none⟩), .pointer (some ⟨bv, 0, none⟩)] (fun x : List UInt8 => #[encS x]) xs ts (fun q o w => Bk o w tp bp [encS a.1] 9 ∧ Bk o w ts bs [encS (restOf a q)] 9 ∧ Bk o w tv bv [.int .i64 a.2.2] 3) := by
  obtain ⟨sep, s, sv⟩ := a
  unfold strings_SplitSeq.seq at H
  simp only at H
  have key : ∃ c, sep = [c] ∧ sv = 0 ∧ s.length ≤ 4611686018427387904 ∧ xs = splitB c s := by
    split at H
    · rename_i hh
      match sep, hh.1 with
      | [c], _ => exact ⟨c, rfl, hh.2.1, hh.2.2, (Option.some.inj H).symm⟩
    · cases H
  obtain ⟨c, rfl, rfl, hlen, rfl⟩ := key
  clear H
  have hc1 : ([ts] : List Nat).contains tp = false := by
    rw [← Bool.not_eq_true]; intro h; simp at h; rw [h] at h1; simp at h1
  have hc2 : ([ts] : List Nat).contains tv = false := by
    rw [← Bool.not_eq_true]; intro h; simp at h; rw [h] at h2; simp at h2
  have hpos : 1 ≤ (splitB c s).length := List.length_pos_iff.2 (splitB_ne c s)
  have hrest : ∀ q, q < (splitB c s).length → restOf ([c], s, 0) q = restB c s q := by
    intro q hq
    show restB c s (min q ((splitB c s).length - 1)) = _
    rw [Nat.min_eq_left (by omega)]
  have hrl : ∀ q, (restB c s q).length ≤ 4611686018427387904 := by
    intro q
    induction q with
    | zero => exact hlen
    | succ q ih =>
      show ((restB c s q).drop _).length ≤ _
      rw [List.length_drop]
      omega
  intro l R X o w hR hX hy h0 ⟨hB1, hB2, hB3⟩
  refine SX.calls [.func (.yield l) #[] #[], .pointer (some ⟨bp, 0, none⟩), .pointer (some ⟨bs, 0, none⟩), .pointer (some ⟨bv, 0, none⟩)] Tryd.func65 rfl rfl ?_
  rw [Tryd.ntmps65]
  refine WC.seq ?_
  refine WC.seq ?_
  refine WC.region ?_
  refine WL.ex rfl (ex_load1 (v := encS [c]) rfl Tryd.underlying9 rfl (hB1.cell rfl)) ?_
  refine WL.ex rfl (ex_len_str (s := [c]) rfl Tryd.underlying9) ?_
  refine WL.ex rfl (ex_bin (a := .int .i64 (([c] : List UInt8).length : Int)) (b := .int .i64 0) (v := .bool false) rfl rfl bin_eql) ?_
  refine WL.nil ?_
  refine WC.cond_f rfl ?_
  refine WC.skip ?_
  rw [hrest 0 hpos] at hB2
  refine WC.seq ?_
  refine WC.for (fun k_ ρ_ w_ => ∃ (o_ : Tags) (q : Nat), R q o_ w_ ∧ Bk o_ w_ tp bp [encS [c]] 9 ∧ Bk o_ w_ ts bs [encS (restB c s q)] 9 ∧ Bk o_ w_ tv bv [.int .i64 0] 3 ∧ ρ_ 0 = .func (.yield l) #[] #[] ∧ ρ_ 1 = .pointer (some ⟨bp, 0, none⟩) ∧ ρ_ 2 = .pointer (some ⟨bs, 0, none⟩) ∧ ρ_ 3 = .pointer (some ⟨bv, 0, none⟩) ∧ q < (splitB c s).length ∧
    (splitB c s).drop q = splitB c (restB c s q) ∧ (restB c s q).length = k_) s.length (fun ρ_ w_ => ∃ (o_ : Tags) (q : Nat), R q o_ w_ ∧ Bk o_ w_ tp bp [encS [c]] 9 ∧ Bk o_ w_ ts bs [encS (restB c s q)] 9 ∧ Bk o_ w_ tv bv [.int .i64 0] 3 ∧ ρ_ 0 = .func (.yield l) #[] #[] ∧ ρ_ 2 = .pointer (some ⟨bs, 0, none⟩) ∧ q + 1 = (splitB c s).length ∧ (splitB c s)[q]? = some (restB c s q)) ⟨_, 0, h0, hB1, hB2, hB3, rfl, rfl, rfl, rfl, hpos, rfl, rfl⟩ ?hx ?_
  case hx =>
    rintro ρ2 w2 ⟨o2, q, g0, g1, g2, g3, p0, p2, hq, hx⟩
    refine WC.regionY ?_
    refine WY.ex rfl (ex_move (v := .func (.yield l) #[] #[]) p0) ?_
    refine WY.ex rfl (ex_load1 (v := encS (restB c s q)) p2 Tryd.underlying9 rfl (g2.cell rfl)) ?_
    refine WY.yield [encS (restB c s q)] rfl rfl (map_cons' rfl rfl) (hy q _ o2 w2 hx g0 ⟨g1, by rw [hrest q (by omega)]; exact g2, g3⟩) ?_
    rintro _ w3 ⟨o3, (⟨rfl, h4, hC3⟩ | ⟨rfl, h4⟩)⟩
    · refine ⟨_, rfl, WY.nil ⟨_, .nil, ⟨_, rfl⟩, o3, .inl ⟨hq ▸ h4, ?_⟩⟩⟩
      have e1 : restOf ([c], s, 0) (splitB c s).length = restOf ([c], s, 0) q := by
        show restB c s (min _ _) = restB c s (min _ _)
        congr 1
        show min (splitB c s).length ((splitB c s).length - 1) = min q ((splitB c s).length - 1)
        omega
      show _ ∧ Bk _ _ _ _ [encS (restOf ([c], s, 0) (splitB c s).length)] _ ∧ _
      rw [e1]
      exact hC3
    · exact ⟨_, rfl, WY.nil ⟨_, .nil, ⟨_, rfl⟩, o3, .inr h4⟩⟩
  rintro kN ρ2 w2 ⟨o2, q, g0, g1, g2, g3, p0, p1, p2, p3, hq, hd, hk⟩
  have hrq := hrl q
  refine WC.block ?_
  refine WC.seq ?_
  refine WC.region ?_
  refine WL.ex rfl (ex_load1 (v := encS (restB c s q)) p2 Tryd.underlying9 rfl (g2.cell rfl)) ?_
  refine WL.ex rfl (ex_load1 (v := encS [c]) p1 Tryd.underlying9 rfl (g1.cell rfl)) ?_
  refine WL.op rfl ?_
  refine OW.call [encS (restB c s q), encS [c]] rfl Tryd.func67 (by kernel_rfl) (by kernel_rfl) (map_cons' rfl (map_cons' rfl rfl)) (strings_Index.calls _ _ (restB c s q) [c] (Lib.indexByte (restB c s q) c) (vw_ten (V := [0]) (L := []) (o := o2) rfl) rfl) ?_
  rintro _ w1 ⟨o1, rfl, s1⟩
  refine ⟨_, rfl, ?_⟩
  replace s1 := un_stepL (J := []) (L' := []) s1 rfl rfl
  replace g0 := hR _ _ _ _ _ g0 (s1.weak rfl)
  replace g1 := g1.step s1 rfl
  replace g2 := g2.step s1 rfl
  replace g3 := g3.step s1 rfl
  refine WL.ex rfl (ex_assign (v := .int .i64 (Lib.indexByte (restB c s q) c)) rfl) ?_
  refine WL.nil ?_
  refine WC.seq ?_
  refine WC.seq ?_
  refine WC.region ?_
  refine WL.ex rfl (ex_move (v := .int .i64 (Lib.indexByte (restB c s q) c)) rfl) ?_
  refine WL.ex rfl (ex_bin (a := .int .i64 (Lib.indexByte (restB c s q) c)) (b := .int .i64 0) (v := .bool (decide (Lib.indexByte (restB c s q) c < 0))) rfl rfl bin_lss) ?_
  refine WL.nil ?_
  rcases splitB_idx c (restB c s q) with ⟨e1, e2⟩ | ⟨i, e1, e2, e3⟩
  · refine WC.cond_t (congrArg Value.bool (decide_eq_true (by rw [e1]; decide))) ?_
    refine WC.exit ?_
    rw [e2] at hd
    obtain ⟨y1, y2, y3⟩ := of_drop hd
    have hlast : q + 1 = (splitB c s).length := by
      have := congrArg List.length y2
      rw [List.length_drop, List.length_nil] at this
      omega
    exact ⟨_, q, g0, g1, g2, g3, p0, p2, hlast, y1⟩
  · refine WC.cond_f (congrArg Value.bool (decide_eq_false (by rw [e1]; omega))) ?_
    refine WC.skip ?_
    rw [e1]
    rw [e3] at hd
    obtain ⟨y1, y2, y3⟩ := of_drop hd
    have hi0 : wrap64 ((i : Int) + 0) = (i : Int) := by rw [Int.add_zero]; exact w64 (by omega) (by omega)
    have hi1 : wrap64 ((i : Int) + (([c] : List UInt8).length : Int)) = ((i + 1 : Nat) : Int) := wsucc i (by omega)
    have hcut0 : cut (restB c s q) 0 (wrap64 ((i : Int) + 0)) = some ((restB c s q).take i) := by rw [hi0]; exact cut_to _ (by omega)
    have hcut1 : cut (restB c s q) (wrap64 ((i : Int) + (([c] : List UInt8).length : Int))) ((restB c s q).length : Int) = some ((restB c s q).drop (i + 1)) := by rw [hi1]; exact cut_from _ (by omega)
    have hnext : restB c s (q + 1) = (restB c s q).drop (i + 1) := by
      show (restB c s q).drop _ = _
      rw [e1]
      rfl
    refine WC.seq ?_
    refine WC.region ?_
    refine WL.ex rfl (ex_load1 (v := encS (restB c s q)) p2 Tryd.underlying9 rfl (g2.cell rfl)) ?_
    refine WL.ex rfl (ex_move (v := .int .i64 (i : Int)) rfl) ?_
    refine WL.ex rfl (ex_load1 (v := .int .i64 0) p3 Tryd.underlying3 rfl (g3.cell rfl)) ?_
    refine WL.ex rfl (ex_bin (a := .int .i64 (i : Int)) (b := .int .i64 0) (v := .int .i64 (wrap64 ((i : Int) + 0))) rfl rfl bin_add64) ?_
    refine WL.ex rfl (ex_slice_str (l := 0) (h := wrap64 ((i : Int) + 0)) rfl Tryd.underlying9 rfl ⟨_, rfl⟩ hcut0) ?_
    refine WL.ex rfl (ex_assign (v := encS ((restB c s q).take i)) rfl) ?_
    refine WL.nil ?_
    refine WC.seq ?_
    refine WC.seq ?_
    refine WC.regionY ?_
    refine WY.ex rfl (ex_move (v := .func (.yield l) #[] #[]) p0) ?_
    refine WY.ex rfl (ex_move (v := encS ((restB c s q).take i)) rfl) ?_
    refine WY.yield [encS ((restB c s q).take i)] rfl rfl (map_cons' rfl rfl) (hy q _ _ _ y1 g0 ⟨g1, by rw [hrest q hq]; exact g2, g3⟩) ?_
    rintro _ w3 ⟨o3, (⟨rfl, h4, k1, k2, k3⟩ | ⟨rfl, h4⟩)⟩
    · refine ⟨_, rfl, ?_⟩
      rw [hrest q hq] at k2
      refine WY.ex rfl (ex_not (b := true) rfl) ?_
      refine WY.nil ?_
      refine WC.cond_f rfl ?_
      refine WC.skip ?_
      refine WC.region ?_
      refine WL.ex rfl (ex_load1 (v := encS (restB c s q)) p2 Tryd.underlying9 rfl (k2.cell rfl)) ?_
      refine WL.ex rfl (ex_move (v := .int .i64 (i : Int)) rfl) ?_
      refine WL.ex rfl (ex_load1 (v := encS [c]) p1 Tryd.underlying9 rfl (k1.cell rfl)) ?_
      refine WL.ex rfl (ex_len_str (s := [c]) rfl Tryd.underlying9) ?_
      refine WL.ex rfl (ex_bin (a := .int .i64 (i : Int)) (b := .int .i64 (([c] : List UInt8).length : Int)) (v := .int .i64 (wrap64 ((i : Int) + (([c] : List UInt8).length : Int)))) rfl rfl bin_add64) ?_
      refine WL.ex rfl (ex_slice_str (l := wrap64 ((i : Int) + (([c] : List UInt8).length : Int))) (h := ((restB c s q).length : Int)) rfl Tryd.underlying9 ⟨_, rfl⟩ rfl hcut1) ?_
      refine WL.op rfl ?_
      refine OW.store [encS ((restB c s q).drop (i + 1))] p2 (vs := [encS ((restB c s q).drop (i + 1))]) rfl (by kernel_rfl) k2 (Nat.le_of_ble_eq_true rfl) (by intro u hu; rw [List.mem_singleton.1 hu]; rfl) rfl ?_
      intro w4 s4 k2
      refine WL.nil ?_
      refine ⟨((restB c s q).drop (i + 1)).length, by rw [List.length_drop]; omega, o3, q + 1, hR _ _ _ _ _ h4 s4, k1.step s4 hc1, by rw [hnext]; exact k2, k3.step s4 hc2, p0, p1, p2, p3, ?_, by rw [y2, hnext], by rw [hnext]⟩
      have : splitB c ((restB c s q).drop (i + 1)) ≠ [] := splitB_ne _ _
      rw [← y2] at this
      have h5 := List.length_pos_iff.2 this
      rw [List.length_drop] at h5
      omega
    · refine ⟨_, rfl, ?_⟩
      refine WY.ex rfl (ex_not (b := false) rfl) ?_
      refine WY.nil ?_
      refine WC.cond_t rfl ?_
      refine WC.ret ?_
      exact ⟨_, .nil, ⟨_, rfl⟩, o3, .inr h4⟩


/-! ### stringslite.Index of one byte -/
theorem stringslite_Index.calls (o0 : Tags) (w0 : World) (a0 a1 : List UInt8) (r : Int) (hO : ∀ b, b < w0.heap.size → o0 b < 10) (H : stringslite_Index.f a0 a1 = some r) :
    Calls Tryd.prog 68 [encS a0, encS a1].toArray w0 fun e_ w_ => ∃ (o_ : Tags), e_ = .returned (one [.int .i64 r]) ∧ Step o0 w0 o_ w_ [] := by
  match a1, H with
  | [c], H =>
    obtain rfl := Option.some.inj H
    refine Calls.mono (Tryd.stringslite_Index_one ⟨a0.toArray⟩ c w0) ?_
    rintro e w ⟨rfl, rfl⟩
    exact ⟨o0, rfl, Step.refl _ _ _⟩
  | [], H => cases H
  | _ :: _ :: _, H => cases H

/-! ### stringslite_Cut -/
set_option maxRecDepth 100000 in
theorem stringslite_Cut.calls (o0 : Tags) (w0 : World) (a0 : List UInt8) (a1 : List UInt8) (r : (List UInt8) × (List UInt8) × Bool) (hO : ∀ b, b < w0.heap.size → o0 b < 10) (H : stringslite_Cut.f a0 a1 = some r) :
    Calls Tryd.prog 60 [encS a0, encS a1].toArray w0 fun e_ w_ => ∃ (o_ : Tags), e_ = .returned (one [encS r.1, encS r.2.1, .bool r.2.2]) ∧ Step o0 w0 o_ w_ [] := by
  have HF := Fm.refl hO []
  unfold stringslite_Cut.f at H
  refine SX.calls [encS a0, encS a1] Tryd.func60 rfl rfl ?_
  rw [Tryd.ntmps60]
  refine WC.seq ?_
  refine WC.region ?_
  refine WL.ex rfl (ex_assign (v := encS ([] : List UInt8)) rfl) ?_
  refine WL.ex rfl (ex_assign (v := encS ([] : List UInt8)) rfl) ?_
  refine WL.ex rfl (ex_assign (v := .bool false) rfl) ?_
  refine WL.nil ?_
  refine WC.seq ?_
  refine WC.seq ?_
  refine WC.region ?_
  refine WL.ex rfl (ex_move (v := encS a0) rfl) ?_
  refine WL.ex rfl (ex_move (v := encS a1) rfl) ?_
  obtain ⟨z101, hz101, H⟩ := bindE H
  refine WL.op rfl ?_
  refine OW.call [encS a0, encS a1] rfl Tryd.func68 (by kernel_rfl) (by kernel_rfl) (map_cons' rfl (map_cons' rfl rfl)) (stringslite_Index.calls _ _ a0 a1 z101 (HF.ten (V := [0]) (L := []) rfl)  hz101) ?_
  rintro _ w102 ⟨o103, rfl, s104⟩
  refine ⟨_, rfl, ?_⟩
  replace s104 := un_stepL (J := []) (L' := []) s104 rfl rfl
  replace HF := HF.step s104 rfl
  refine WL.ex rfl (ex_assign (v := .int .i64 z101) rfl) ?_
  refine WL.nil ?_
  refine WC.seq ?_
  refine WC.region ?_
  refine WL.ex rfl (ex_move (v := .int .i64 z101) rfl) ?_
  refine WL.ex rfl (ex_bin (a := .int .i64 z101) (b := .int .i64 0) (v := .bool (decide (z101 ≥ 0))) rfl rfl bin_geq) ?_
  refine WL.nil ?_
  rcases condE H with ⟨c105, H⟩ | ⟨c105, H⟩
  ·
    refine WC.cond_t ((show _ = Value.bool (decide (z101 ≥ 0)) from rfl).trans (congrArg Value.bool c105)) ?_
    refine WC.seq ?_
    refine WC.regionD' HF [] 12 (by kernel_rfl) rfl ?_
    intro w106 s107
    replace HF := HF.step s107 rfl
    have sR := HF.here []
    refine WA.norm (listed' := #[false, false, false, false, false, false, false, false, false, false, false, false]) (by kernel_rfl) ?_
    refine WA.ex 0 rfl (by kernel_rfl) (by kernel_rfl) (by kernel_rfl) rfl ⟨_, sR⟩ (fun w_ hS_ => ex_move (v := encS a0) rfl) ?_
    refine WA.norm (listed' := #[true, false, false, false, false, false, false, false, false, false, false, false]) (by kernel_rfl) ?_
    refine WA.ex 1 rfl (by kernel_rfl) (by kernel_rfl) (by kernel_rfl) rfl ⟨_, sR⟩ (fun w_ hS_ => ex_move (v := .int .i64 z101) rfl) ?_
    refine WA.norm (listed' := #[true, true, false, false, false, false, false, false, false, false, false, false]) (by kernel_rfl) ?_
    obtain ⟨y108, hy108, H⟩ := bindE H
    refine WA.ex 2 rfl (by kernel_rfl) (by kernel_rfl) (by kernel_rfl) rfl ⟨_, sR⟩ (fun w_ hS_ => ex_slice_str (l := 0) (h := z101) rfl Tryd.underlying9 rfl ⟨_, rfl⟩ hy108) ?_
    refine WA.norm (listed' := #[true, true, true, false, false, false, false, false, false, false, false, false]) (by kernel_rfl) ?_
    refine WA.ex 3 rfl (by kernel_rfl) (by kernel_rfl) (by kernel_rfl) rfl ⟨_, sR⟩ (fun w_ hS_ => ex_move (v := encS a0) rfl) ?_
    refine WA.norm (listed' := #[true, true, true, true, false, false, false, false, false, false, false, false]) (by kernel_rfl) ?_
    refine WA.ex 4 rfl (by kernel_rfl) (by kernel_rfl) (by kernel_rfl) rfl ⟨_, sR⟩ (fun w_ hS_ => ex_move (v := .int .i64 z101) rfl) ?_
    refine WA.norm (listed' := #[true, true, true, true, true, false, false, false, false, false, false, false]) (by kernel_rfl) ?_
    refine WA.ex 5 rfl (by kernel_rfl) (by kernel_rfl) (by kernel_rfl) rfl ⟨_, sR⟩ (fun w_ hS_ => ex_move (v := encS a1) rfl) ?_
    refine WA.norm (listed' := #[true, true, true, true, true, true, false, false, false, false, false, false]) (by kernel_rfl) ?_
    refine WA.ex 6 rfl (by kernel_rfl) (by kernel_rfl) (by kernel_rfl) rfl ⟨_, sR⟩ (fun w_ hS_ => ex_len_str (s := a1) rfl Tryd.underlying9) ?_
    refine WA.norm (listed' := #[true, true, true, true, true, true, true, false, false, false, false, false]) (by kernel_rfl) ?_
    refine WA.ex 7 rfl (by kernel_rfl) (by kernel_rfl) (by kernel_rfl) rfl ⟨_, sR⟩ (fun w_ hS_ => ex_bin (a := .int .i64 z101) (b := .int .i64 (a1.length : Int)) (v := .int .i64 (wrap64 (z101 + (a1.length : Int)))) rfl rfl bin_add64) ?_
    refine WA.norm (listed' := #[true, true, true, true, true, true, true, true, false, false, false, false]) (by kernel_rfl) ?_
    obtain ⟨y109, hy109, H⟩ := bindE H
    refine WA.ex 8 rfl (by kernel_rfl) (by kernel_rfl) (by kernel_rfl) rfl ⟨_, sR⟩ (fun w_ hS_ => ex_slice_str (l := (wrap64 (z101 + (a1.length : Int)))) (h := (a0.length : Int)) rfl Tryd.underlying9 ⟨_, rfl⟩ rfl hy109) ?_
    refine WA.norm (listed' := #[true, true, true, true, true, true, true, true, true, false, false, false]) (by kernel_rfl) ?_
    refine WA.ex 9 rfl (by kernel_rfl) (by kernel_rfl) (by kernel_rfl) rfl ⟨_, sR⟩ (fun w_ hS_ => ex_assign (v := encS y108) rfl) ?_
    refine WA.norm (listed' := #[true, true, true, true, true, true, true, true, true, true, false, false]) (by kernel_rfl) ?_
    refine WA.ex 10 rfl (by kernel_rfl) (by kernel_rfl) (by kernel_rfl) rfl ⟨_, sR⟩ (fun w_ hS_ => ex_assign (v := encS y109) rfl) ?_
    refine WA.norm (listed' := #[true, true, true, true, true, true, true, true, true, true, true, false]) (by kernel_rfl) ?_
    refine WA.ex 11 rfl (by kernel_rfl) (by kernel_rfl) (by kernel_rfl) rfl ⟨_, sR⟩ (fun w_ hS_ => ex_assign (v := .bool true) rfl) ?_
    refine WA.norm (listed' := #[true, true, true, true, true, true, true, true, true, true, true, true]) (by kernel_rfl) ?_
    refine WA.done (by kernel_rfl) ?_
    refine WC.ret ?_
    obtain rfl := Option.some.inj H
    exact ⟨_, (.tmp (encS y108 : Value) rfl (.tmp (encS y109 : Value) rfl (.tmp (.bool true : Value) rfl .nil))), _, rfl, HF.out⟩
  ·
    refine WC.cond_f ((show _ = Value.bool (decide (z101 ≥ 0)) from rfl).trans (congrArg Value.bool c105)) ?_
    refine WC.skip ?_
    refine WC.seq ?_
    refine WC.region ?_
    refine WL.ex rfl (ex_move (v := encS a0) rfl) ?_
    refine WL.ex rfl (ex_assign (v := encS a0) rfl) ?_
    refine WL.ex rfl (ex_assign (v := encS ([] : List UInt8)) rfl) ?_
    refine WL.ex rfl (ex_assign (v := .bool false) rfl) ?_
    refine WL.nil ?_
    refine WC.ret ?_
    obtain rfl := Option.some.inj H
    exact ⟨_, (.tmp (encS a0 : Value) rfl (.tmp (encS ([] : List UInt8) : Value) rfl (.tmp (.bool false : Value) rfl .nil))), _, rfl, HF.out⟩

/-! ### strings_Cut -/
set_option maxRecDepth 100000 in
theorem strings_Cut.calls (o0 : Tags) (w0 : World) (a0 : List UInt8) (a1 : List UInt8) (r : (List UInt8) × (List UInt8) × Bool) (hO : ∀ b, b < w0.heap.size → o0 b < 10) (H : strings_Cut.f a0 a1 = some r) :
    Calls Tryd.prog 41 [encS a0, encS a1].toArray w0 fun e_ w_ => ∃ (o_ : Tags), e_ = .returned (one [encS r.1, encS r.2.1, .bool r.2.2]) ∧ Step o0 w0 o_ w_ [] := by
  have HF := Fm.refl hO []
  unfold strings_Cut.f at H
  refine SX.calls [encS a0, encS a1] Tryd.func41 rfl rfl ?_
  rw [Tryd.ntmps41]
  refine WC.seq ?_
  refine WC.region ?_
  refine WL.ex rfl (ex_assign (v := encS ([] : List UInt8)) rfl) ?_
  refine WL.ex rfl (ex_assign (v := encS ([] : List UInt8)) rfl) ?_
  refine WL.ex rfl (ex_assign (v := .bool false) rfl) ?_
  refine WL.nil ?_
  refine WC.seq ?_
  refine WC.region ?_
  refine WL.ex rfl (ex_move (v := encS a0) rfl) ?_
  refine WL.ex rfl (ex_move (v := encS a1) rfl) ?_
  obtain ⟨z101, hz101, H⟩ := bindE H
  refine WL.op rfl ?_
  refine OW.call [encS a0, encS a1] rfl Tryd.func60 (by kernel_rfl) (by kernel_rfl) (map_cons' rfl (map_cons' rfl rfl)) (stringslite_Cut.calls _ _ a0 a1 z101 (HF.ten (V := [0]) (L := []) rfl)  hz101) ?_
  rintro _ w102 ⟨o103, rfl, s104⟩
  refine ⟨_, rfl, ?_⟩
  replace s104 := un_stepL (J := []) (L' := []) s104 rfl rfl
  replace HF := HF.step s104 rfl
  refine WL.ex rfl (ex_extract (vs := #[encS z101.1, encS z101.2.1, .bool z101.2.2]) (v := encS z101.1) rfl rfl) ?_
  refine WL.ex rfl (ex_extract (vs := #[encS z101.1, encS z101.2.1, .bool z101.2.2]) (v := encS z101.2.1) rfl rfl) ?_
  refine WL.ex rfl (ex_extract (vs := #[encS z101.1, encS z101.2.1, .bool z101.2.2]) (v := .bool z101.2.2) rfl rfl) ?_
  refine WL.ex rfl (ex_assign (v := encS z101.1) rfl) ?_
  refine WL.ex rfl (ex_assign (v := encS z101.2.1) rfl) ?_
  refine WL.ex rfl (ex_assign (v := .bool z101.2.2) rfl) ?_
  refine WL.nil ?_
  refine WC.ret ?_
  obtain rfl := Option.some.inj H
  exact ⟨_, (.tmp (encS z101.1 : Value) rfl (.tmp (encS z101.2.1 : Value) rfl (.tmp (.bool z101.2.2 : Value) rfl .nil))), _, rfl, HF.out⟩


/-! ### strconv.Atoi -/
theorem strconv_Atoi.calls (o0 : Tags) (w0 : World) (a0 : List UInt8) (r : Int × Bool) (hO : ∀ b, b < w0.heap.size → o0 b < 10) (hG : Gl GG o0 w0) (H : strconv_Atoi.f a0 = some r) :
    Calls Tryd.prog 61 [encS a0].toArray w0 fun e_ w_ => ∃ (o_ : Tags) (rv1 : Value), e_ = .returned (one [.int .i64 r.1, rv1]) ∧ Step o0 w0 o_ w_ [] ∧ IsErr r.2 rv1 := by
  unfold strconv_Atoi.f at H
  obtain ⟨u, hu, H⟩ := bindE H
  obtain rfl := Option.some.inj H
  have hl : a0.length ≤ 281474976710656 := of_decide_eq_true (chk_true hu)
  have hs : (⟨a0.toArray⟩ : ByteArray).size ≤ 281474976710656 := by rw [size_enc]; exact hl
  cases hc : Lib.atoiAll a0
  · rename_i v
    refine Calls.mono (Tryd.strconv_Atoi_ok ⟨a0.toArray⟩ (Nat.le_trans hs (by decide)) v hc w0) ?_
    rintro e w ⟨rfl, hw⟩
    refine ⟨o0, .nilIface, by simp [atoiF, hc, one], ?_, by simp [atoiF, hc, IsErr]⟩
    rcases hw with rfl | ⟨t, rfl⟩
    · exact Step.refl _ _ _
    · exact bytesWorld_step o0 w0 5 t
  · obtain ⟨tp, p, hv⟩ := hG.2.2.2.2.1
    refine Calls.mono (Tryd.strconv_Atoi_syntax_var ⟨a0.toArray⟩ hs (hc.trans (by rfl)) tp p w0 hv) ?_
    rintro e w ⟨N, rfl, _, _, hb⟩
    exact ⟨o0, _, by simp only [atoiF, hc, one]; rfl, below_step hb, by simp only [atoiF, hc, IsErr, cond_true]; exact ⟨_, _, rfl⟩⟩
  · obtain ⟨tp, p, hv⟩ := hG.2.2.2.2.2
    refine Calls.mono (Tryd.strconv_Atoi_range_var ⟨a0.toArray⟩ hs hc tp p w0 hv) ?_
    rintro e w ⟨N, rfl, _, _, hb⟩
    exact ⟨o0, _, by simp only [atoiF, hc, one]; rfl, below_step hb, by simp only [atoiF, hc, IsErr, cond_true]; exact ⟨_, _, rfl⟩⟩

/-! ### octet_Undec -/
set_option maxRecDepth 100000 in
theorem octet_Undec.calls (o0 : Tags) (w0 : World) (a0 : List UInt8) (a1 : Int) (r : Int × Int) (hO : ∀ b, b < w0.heap.size → o0 b < 10) (hG : Gl GG o0 w0) (H : octet_Undec.f a0 a1 = some r) :
    Calls Tryd.prog 42 [encS a0, .int .i64 a1].toArray w0 fun e_ w_ => ∃ (o_ : Tags), e_ = .returned (one [.int .i64 r.1, .int .i64 r.2]) ∧ Step o0 w0 o_ w_ [] := by
  have HF := Fm.refl hO []
  unfold octet_Undec.f at H
  refine SX.calls [encS a0, .int .i64 a1] Tryd.func42 rfl rfl ?_
  rw [Tryd.ntmps42]
  refine WC.seq ?_
  refine WC.region ?_
  refine WL.ex rfl (ex_assign (v := .int .i64 0) rfl) ?_
  refine WL.ex rfl (ex_assign (v := .int .i64 0) rfl) ?_
  refine WL.nil ?_
  refine WC.seq ?_
  refine WC.region ?_
  refine WL.ex rfl (ex_move (v := encS a0) rfl) ?_
  obtain ⟨z101, hz101, H⟩ := bindE H
  refine WL.op rfl ?_
  refine OW.call [encS a0] rfl Tryd.func61 (by kernel_rfl) (by kernel_rfl) (map_cons' rfl rfl) (strconv_Atoi.calls _ _ a0 z101 (HF.ten (V := [0]) (L := []) rfl) (Gl.vw (V := [0]) (L := []) hG rfl) hz101) ?_
  rintro _ w102 ⟨o103, v105, rfl, s104, hE106⟩
  refine ⟨_, rfl, ?_⟩
  replace s104 := un_stepL (J := []) (L' := []) s104 rfl rfl
  replace hG := hG.step s104 rfl
  replace HF := HF.step s104 rfl
  refine WL.ex rfl (ex_move (v := .tuple #[.int .i64 z101.1, v105]) rfl) ?_
  refine WL.ex rfl (ex_extract (vs := #[.int .i64 z101.1, v105]) (v := .int .i64 z101.1) rfl rfl) ?_
  refine WL.ex rfl (ex_extract (vs := #[.int .i64 z101.1, v105]) (v := v105) rfl rfl) ?_
  refine WL.ex rfl (ex_assign (v := .int .i64 z101.1) rfl) ?_
  refine WL.ex rfl (ex_assign (v := v105) rfl) ?_
  refine WL.nil ?_
  refine WC.seq ?_
  obtain ⟨z108, hz108, H⟩ := bindE H
  refine WC.cut (fun ρ_ w_ => ∃ (o_ : Tags), Fm o0 w0 o_ w_ [] ∧ Gl GG o_ w_ ∧ ρ_ 4 = .int .i64 0 ∧ ρ_ 5 = .int .i64 0 ∧ ρ_ 6 = .int .i64 z101.1 ∧ ρ_ 34 = .bool z108) ?case109 ?_
  case case109 =>
    rintro ρ112 w110 ⟨o111, HF, hG, s4_106, s5_106, s6_106, s34_107⟩
    rcases condE H with ⟨c113, H⟩ | ⟨c113, H⟩
    ·
      refine WC.cond_t ((show _ = Value.bool z108 from s34_107).trans (congrArg Value.bool c113)) ?_
      refine WC.seq ?_
      refine WC.region ?_
      refine WL.ex rfl (ex_assign (v := .int .i64 0) rfl) ?_
      refine WL.ex rfl (ex_assign (v := .int .i64 2) rfl) ?_
      refine WL.nil ?_
      refine WC.ret ?_
      obtain rfl := Option.some.inj H
      exact ⟨_, (.tmp (.int .i64 0 : Value) rfl (.tmp (.int .i64 2 : Value) rfl .nil)), _, rfl, HF.out⟩
    ·
      refine WC.cond_f ((show _ = Value.bool z108 from s34_107).trans (congrArg Value.bool c113)) ?_
      refine WC.skip ?_
      refine WC.seq ?_
      refine WC.region ?_
      refine WL.ex rfl (ex_move (v := .int .i64 z101.1) s6_106) ?_
      refine WL.ex rfl (ex_assign (v := .int .i64 z101.1) rfl) ?_
      refine WL.ex rfl (ex_assign (v := .int .i64 0) rfl) ?_
      refine WL.nil ?_
      refine WC.ret ?_
      obtain rfl := Option.some.inj H
      exact ⟨_, (.tmp (.int .i64 z101.1 : Value) rfl (.tmp (.int .i64 0 : Value) rfl .nil)), _, rfl, HF.out⟩
  have Ho114 := H
  replace H := hz108
  refine WC.region ?_
  refine WL.ex rfl (ex_move (v := v105) rfl) ?_
  refine WL.ex rfl (ex_errNeq (b := z101.2) rfl Tryd.underlying77 hE106) ?_
  refine WL.ex rfl (ex_move (v := .bool z101.2) rfl) ?_
  rcases condE H with ⟨c115, H⟩ | ⟨c115, H⟩
  ·
    refine WL.guardNo rfl rfl rfl ((show _ = Value.bool z101.2 from rfl).trans (congrArg Value.bool c115)) ?_
    refine WL.guardNo rfl rfl rfl ((show _ = Value.bool z101.2 from rfl).trans (congrArg Value.bool c115)) ?_
    refine WL.ex rfl (ex_pick_t (v := .bool true) ((show _ = Value.bool z101.2 from rfl).trans (congrArg Value.bool c115)) rfl) ?_
    refine WL.ex rfl (ex_move (v := .bool true) rfl) ?_
    refine WL.guardNo rfl rfl rfl rfl ?_
    refine WL.guardNo rfl rfl rfl rfl ?_
    refine WL.guardNo rfl rfl rfl rfl ?_
    refine WL.ex rfl (ex_pick_t (v := .bool true) rfl rfl) ?_
    refine WL.ex rfl (ex_move (v := .bool true) rfl) ?_
    refine WL.guardNo rfl rfl rfl rfl ?_
    refine WL.guardNo rfl rfl rfl rfl ?_
    refine WL.guardNo rfl rfl rfl rfl ?_
    refine WL.ex rfl (ex_pick_t (v := .bool true) rfl rfl) ?_
    refine WL.ex rfl (ex_move (v := .bool true) rfl) ?_
    refine WL.guardNo rfl rfl rfl rfl ?_
    refine WL.guardNo rfl rfl rfl rfl ?_
    refine WL.guardNo rfl rfl rfl rfl ?_
    refine WL.guardNo rfl rfl rfl rfl ?_
    refine WL.ex rfl (ex_pick_t (v := .bool true) rfl rfl) ?_
    refine WL.nil ?_
    obtain rfl := Option.some.inj H
    exact ⟨_, HF, hG, rfl, rfl, rfl, rfl⟩
  ·
    refine WL.guardYes rfl rfl rfl ((show _ = Value.bool z101.2 from rfl).trans (congrArg Value.bool c115)) ?_
    refine OW.ex rfl (ex_move (v := .int .i64 z101.1) rfl) ?_
    refine WL.guardYes rfl rfl rfl ((show _ = Value.bool z101.2 from rfl).trans (congrArg Value.bool c115)) ?_
    refine OW.ex rfl (ex_bin (a := .int .i64 z101.1) (b := .int .i64 0) (v := .bool (decide (z101.1 < 0))) rfl rfl bin_lss) ?_
    refine WL.ex rfl (ex_pick_f (v := .bool (decide (z101.1 < 0))) ((show _ = Value.bool z101.2 from rfl).trans (congrArg Value.bool c115)) rfl) ?_
    refine WL.ex rfl (ex_move (v := .bool (decide (z101.1 < 0))) rfl) ?_
    rcases condE H with ⟨c116, H⟩ | ⟨c116, H⟩
    ·
      refine WL.guardNo rfl rfl rfl ((show _ = Value.bool (decide (z101.1 < 0)) from rfl).trans (congrArg Value.bool c116)) ?_
      refine WL.guardNo rfl rfl rfl ((show _ = Value.bool (decide (z101.1 < 0)) from rfl).trans (congrArg Value.bool c116)) ?_
      refine WL.guardNo rfl rfl rfl ((show _ = Value.bool (decide (z101.1 < 0)) from rfl).trans (congrArg Value.bool c116)) ?_
      refine WL.ex rfl (ex_pick_t (v := .bool true) ((show _ = Value.bool (decide (z101.1 < 0)) from rfl).trans (congrArg Value.bool c116)) rfl) ?_
      refine WL.ex rfl (ex_move (v := .bool true) rfl) ?_
      refine WL.guardNo rfl rfl rfl rfl ?_
      refine WL.guardNo rfl rfl rfl rfl ?_
      refine WL.guardNo rfl rfl rfl rfl ?_
      refine WL.ex rfl (ex_pick_t (v := .bool true) rfl rfl) ?_
      refine WL.ex rfl (ex_move (v := .bool true) rfl) ?_
      refine WL.guardNo rfl rfl rfl rfl ?_
      refine WL.guardNo rfl rfl rfl rfl ?_
      refine WL.guardNo rfl rfl rfl rfl ?_
      refine WL.guardNo rfl rfl rfl rfl ?_
      refine WL.ex rfl (ex_pick_t (v := .bool true) rfl rfl) ?_
      refine WL.nil ?_
      obtain rfl := Option.some.inj H
      exact ⟨_, HF, hG, rfl, rfl, rfl, rfl⟩
    ·
      refine WL.guardYes rfl rfl rfl ((show _ = Value.bool (decide (z101.1 < 0)) from rfl).trans (congrArg Value.bool c116)) ?_
      refine OW.ex rfl (ex_move (v := .int .i64 z101.1) rfl) ?_
      refine WL.guardYes rfl rfl rfl ((show _ = Value.bool (decide (z101.1 < 0)) from rfl).trans (congrArg Value.bool c116)) ?_
      refine OW.ex rfl (ex_move (v := .int .i64 a1) rfl) ?_
      refine WL.guardYes rfl rfl rfl ((show _ = Value.bool (decide (z101.1 < 0)) from rfl).trans (congrArg Value.bool c116)) ?_
      refine OW.ex rfl (ex_bin (a := .int .i64 z101.1) (b := .int .i64 a1) (v := .bool (decide (z101.1 > a1))) rfl rfl bin_gtr) ?_
      refine WL.ex rfl (ex_pick_f (v := .bool (decide (z101.1 > a1))) ((show _ = Value.bool (decide (z101.1 < 0)) from rfl).trans (congrArg Value.bool c116)) rfl) ?_
      refine WL.ex rfl (ex_move (v := .bool (decide (z101.1 > a1))) rfl) ?_
      rcases condE H with ⟨c117, H⟩ | ⟨c117, H⟩
      ·
        refine WL.guardNo rfl rfl rfl ((show _ = Value.bool (decide (z101.1 > a1)) from rfl).trans (congrArg Value.bool c117)) ?_
        refine WL.guardNo rfl rfl rfl ((show _ = Value.bool (decide (z101.1 > a1)) from rfl).trans (congrArg Value.bool c117)) ?_
        refine WL.guardNo rfl rfl rfl ((show _ = Value.bool (decide (z101.1 > a1)) from rfl).trans (congrArg Value.bool c117)) ?_
        refine WL.ex rfl (ex_pick_t (v := .bool true) ((show _ = Value.bool (decide (z101.1 > a1)) from rfl).trans (congrArg Value.bool c117)) rfl) ?_
        refine WL.ex rfl (ex_move (v := .bool true) rfl) ?_
        refine WL.guardNo rfl rfl rfl rfl ?_
        refine WL.guardNo rfl rfl rfl rfl ?_
        refine WL.guardNo rfl rfl rfl rfl ?_
        refine WL.guardNo rfl rfl rfl rfl ?_
        refine WL.ex rfl (ex_pick_t (v := .bool true) rfl rfl) ?_
        refine WL.nil ?_
        obtain rfl := Option.some.inj H
        exact ⟨_, HF, hG, rfl, rfl, rfl, rfl⟩
      ·
        refine WL.guardYes rfl rfl rfl ((show _ = Value.bool (decide (z101.1 > a1)) from rfl).trans (congrArg Value.bool c117)) ?_
        refine OW.ex rfl (ex_move (v := encS a0) rfl) ?_
        refine WL.guardYes rfl rfl rfl ((show _ = Value.bool (decide (z101.1 > a1)) from rfl).trans (congrArg Value.bool c117)) ?_
        refine OW.ex rfl (ex_len_str (s := a0) rfl Tryd.underlying9) ?_
        refine WL.guardYes rfl rfl rfl ((show _ = Value.bool (decide (z101.1 > a1)) from rfl).trans (congrArg Value.bool c117)) ?_
        refine OW.ex rfl (ex_bin (a := .int .i64 (a0.length : Int)) (b := .int .i64 10) (v := .bool (decide ((a0.length : Int) > 10))) rfl rfl bin_gtr) ?_
        refine WL.ex rfl (ex_pick_f (v := .bool (decide ((a0.length : Int) > 10))) ((show _ = Value.bool (decide (z101.1 > a1)) from rfl).trans (congrArg Value.bool c117)) rfl) ?_
        refine WL.ex rfl (ex_move (v := .bool (decide ((a0.length : Int) > 10))) rfl) ?_
        rcases condE H with ⟨c118, H⟩ | ⟨c118, H⟩
        ·
          refine WL.guardNo rfl rfl rfl ((show _ = Value.bool (decide ((a0.length : Int) > 10)) from rfl).trans (congrArg Value.bool c118)) ?_
          refine WL.guardNo rfl rfl rfl ((show _ = Value.bool (decide ((a0.length : Int) > 10)) from rfl).trans (congrArg Value.bool c118)) ?_
          refine WL.guardNo rfl rfl rfl ((show _ = Value.bool (decide ((a0.length : Int) > 10)) from rfl).trans (congrArg Value.bool c118)) ?_
          refine WL.guardNo rfl rfl rfl ((show _ = Value.bool (decide ((a0.length : Int) > 10)) from rfl).trans (congrArg Value.bool c118)) ?_
          refine WL.ex rfl (ex_pick_t (v := .bool true) ((show _ = Value.bool (decide ((a0.length : Int) > 10)) from rfl).trans (congrArg Value.bool c118)) rfl) ?_
          refine WL.nil ?_
          obtain rfl := Option.some.inj H
          exact ⟨_, HF, hG, rfl, rfl, rfl, rfl⟩
        ·
          refine WL.guardYes rfl rfl rfl ((show _ = Value.bool (decide ((a0.length : Int) > 10)) from rfl).trans (congrArg Value.bool c118)) ?_
          refine OW.ex rfl (ex_move (v := .int .i64 z101.1) rfl) ?_
          refine WL.guardYes rfl rfl rfl ((show _ = Value.bool (decide ((a0.length : Int) > 10)) from rfl).trans (congrArg Value.bool c118)) ?_
          obtain ⟨z119, hz119, H⟩ := bindE H
          refine OW.call [.int .i64 z101.1] rfl Tryd.func38 (by kernel_rfl) (by kernel_rfl) (map_cons' rfl rfl) (octet_Dec.calls _ _ z101.1 z119 (HF.ten (V := [0]) (L := []) rfl) (Gl.vw (V := [0]) (L := []) hG rfl) hz119) ?_
          rintro _ w120 ⟨o121, rfl, s122⟩
          refine ⟨_, rfl, ?_⟩
          replace s122 := un_stepL (J := []) (L' := []) s122 rfl rfl
          replace hG := hG.step s122 rfl
          replace HF := HF.step s122 rfl
          refine WL.guardYes rfl rfl rfl ((show _ = Value.bool (decide ((a0.length : Int) > 10)) from rfl).trans (congrArg Value.bool c118)) ?_
          refine OW.ex rfl (ex_move (v := encS a0) rfl) ?_
          refine WL.guardYes rfl rfl rfl ((show _ = Value.bool (decide ((a0.length : Int) > 10)) from rfl).trans (congrArg Value.bool c118)) ?_
          refine OW.ex rfl (ex_bin (a := encS z119) (b := encS a0) (v := .bool (!(z119 == a0))) rfl rfl bin_neq_str) ?_
          refine WL.ex rfl (ex_pick_f (v := .bool (!(z119 == a0))) ((show _ = Value.bool (decide ((a0.length : Int) > 10)) from rfl).trans (congrArg Value.bool c118)) rfl) ?_
          refine WL.nil ?_
          obtain rfl := Option.some.inj H
          exact ⟨_, HF, hG, rfl, rfl, rfl, rfl⟩

/-! ### bits_Parse -/
set_option maxRecDepth 100000 in
theorem bits_Parse.calls (k : Nat) (o0 : Tags) (w0 : World) (a0 : List UInt8) (r : (List UInt64) × Int) (hO : ∀ b, b < w0.heap.size → o0 b < 10) (hG : Gl GG o0 w0) (H : bits_Parse.f k a0 = some r) :
    Calls Tryd.prog 9 [encS a0].toArray w0 fun e_ w_ => ∃ (o_ : Tags), e_ = .returned (one [.agg (List.map enc64 r.1).toArray, .int .i64 r.2]) ∧ Step o0 w0 o_ w_ [] ∧ r.1.length = 16 := by
  have HF := Fm.refl hO []
  unfold bits_Parse.f at H
  refine SX.callsM [encS a0] Tryd.func9 rfl rfl ?_
  rw [Tryd.ntmps9]
  have hS : Shut 10 [] o0 w0 := Shut.nil
  refine WC.seq ?_
  refine WC.region ?_
  refine WL.op rfl ?_
  refine OW.alloc' (List.map enc64 (List.replicate 16 ((0 : UInt64)))) 11 HF rfl zr24 rfl ?_
  intro o102 w103 b101 s104 hB105
  replace hS := hS.step s104 rfl
  replace hG := hG.step s104 rfl
  replace HF := HF.step s104 rfl
  refine WL.op rfl ?_
  refine OW.alloc' [.int .i64 (0 : Int)] 12 HF rfl zr26 rfl ?_
  intro o107 w108 b106 s109 hB110
  replace hS := hS.step s109 rfl
  replace hG := hG.step s109 rfl
  replace hB105 := hB105.step s109 rfl
  replace HF := HF.step s109 rfl
  refine WL.nil ?_
  refine WC.seq ?_
  refine WC.region ?_
  refine WL.op rfl ?_
  refine OW.alloc' (List.map enc64 (List.replicate 16 ((0 : UInt64)))) 13 HF rfl zr24 rfl ?_
  intro o112 w113 b111 s114 hB115
  replace hS := hS.step s114 rfl
  replace hG := hG.step s114 rfl
  replace hB105 := hB105.step s114 rfl
  replace hB110 := hB110.step s114 rfl
  replace HF := HF.step s114 rfl
  refine WL.nil ?_
  refine WC.seq ?_
  refine WC.seq ?_
  refine WC.region ?_
  refine WL.ex rfl (ex_move (v := encS a0) rfl) ?_
  refine WL.ex rfl (ex_bin (a := encS a0) (b := encS ([] : List UInt8)) (v := .bool (a0 == ([] : List UInt8))) rfl rfl bin_eql_str) ?_
  refine WL.nil ?_
  rcases condE H with ⟨c116, H⟩ | ⟨c116, H⟩
  ·
    refine WC.cond_t ((show _ = Value.bool (a0 == ([] : List UInt8)) from rfl).trans (congrArg Value.bool c116)) ?_
    refine WC.seq ?_
    refine WC.region ?_
    refine WL.ex rfl (ex_loadAV (xs := (List.replicate 16 ((0 : UInt64)))) rfl Tryd.underlying24 sz24 rfl hB115) ?_
    refine WL.op rfl ?_
    refine OW.storeAV (ys := (List.replicate 16 ((0 : UInt64)))) rfl rfl (fun _ => rfl) sz24 rfl rfl hB105 ?_
    intro w117 s118 hB119
    replace hS := hS.step s118 rfl
    replace hG := hG.step s118 rfl
    replace hB110 := hB110.step s118 rfl
    replace hB115 := hB115.step s118 rfl
    replace HF := HF.step s118 rfl
    refine WL.op rfl ?_
    refine OW.store [.int .i64 0] rfl (vs := [.int .i64 0]) ((congrArg Value.cells (show ev _ _ = (.int .i64 0 : Value) from rfl)).trans rfl) sz26 hB110 (Nat.le_of_ble_eq_true rfl) (by intro u_ hu_; simp only [List.mem_cons, List.not_mem_nil, or_false] at hu_; rcases hu_ with rfl; first | rfl) rfl ?_
    intro w120 s121 hB122
    replace hS := hS.step s121 rfl
    replace hG := hG.step s121 rfl
    replace hB115 := hB115.step s121 rfl
    replace hB119 := hB119.step s121 rfl
    replace HF := HF.step s121 rfl
    refine WL.nil ?_
    refine WC.ret ?_
    obtain rfl := Option.some.inj H
    refine ⟨10, _, hS, ?_⟩
    intro w123 s124
    replace hG := hG.step s124 rfl
    replace hB115 := hB115.step s124 rfl
    replace hB119 := hB119.step s124 rfl
    replace hB122 := hB122.step s124 rfl
    replace HF := HF.step s124 rfl
    exact ⟨_, (.cell (.agg (List.map enc64 (List.replicate 16 ((0 : UInt64)))).toArray : Value) rfl (run_loadAV Tryd.underlying24 sz24 rfl hB119) (.cell (.int .i64 0 : Value) rfl (run_load1 Tryd.underlying26 rfl (hB122.cell rfl)) .nil)), _, rfl, HF.out, rfl⟩
  ·
    refine WC.cond_f ((show _ = Value.bool (a0 == ([] : List UInt8)) from rfl).trans (congrArg Value.bool c116)) ?_
    refine WC.skip ?_
    refine WC.seq ?_
    refine WC.seq ?_
    refine WC.region ?_
    refine WL.ex rfl (ex_move (v := encS a0) rfl) ?_
    obtain ⟨z125, hz125, H⟩ := bindE H
    refine WL.op rfl ?_
    refine OW.call [encS a0, encS ([44] : List UInt8)] rfl Tryd.func40 (by kernel_rfl) (by kernel_rfl) (map_cons' rfl (map_cons' rfl rfl)) (strings_SplitSeq.calls _ _ a0 ([44] : List UInt8) z125 (HF.ten (V := [0]) (L := []) rfl)  hz125) ?_
    rintro _ w126 ⟨o127, b129, b131, b133, rfl, s128, hB130, hB132, hB134⟩
    refine ⟨_, rfl, ?_⟩
    replace hB130 := Bk.un9 (J := [14, 15, 16]) 0 hB130 rfl s128 rfl rfl
    replace hB132 := Bk.un9 (J := [14, 15, 16]) 1 hB132 rfl s128 rfl rfl
    replace hB134 := Bk.un9 (J := [14, 15, 16]) 2 hB134 rfl s128 rfl rfl
    replace s128 := un_stepL (J := [14, 15, 16]) (L' := []) s128 rfl rfl
    replace hS := hS.step s128 rfl
    replace hG := hG.step s128 rfl
    replace hB105 := hB105.step s128 rfl
    replace hB110 := hB110.step s128 rfl
    replace hB115 := hB115.step s128 rfl
    replace HF := HF.step s128 rfl
    refine WL.nil ?_
    obtain ⟨xs137, hxs137, H⟩ := bindE H
    obtain ⟨z138, hz138, H⟩ := bindE H
    have Ho139 := H
    have hS140 := hS
    refine WC.rangeFor (C := fun q_ o_ w_ => Bk o_ w_ 14 b129 [encS z125.1] 9 ∧ Bk o_ w_ 15 b131 [encS (restOf (z125.1, z125.2.1, z125.2.2) q_)] 9 ∧ Bk o_ w_ 16 b133 [.int .i64 z125.2.2] 3) (xs := xs137) (encs := (fun x_ : List UInt8 => #[encS x_])) 15 17 HF rfl Tryd.func65 (by kernel_rfl) (by kernel_rfl) (strings_SplitSeq.iter rfl rfl hxs137) rfl (fun _ => rfl) (by kernel_rfl) (zs := (fun x_ : List UInt8 => [(19, encS x_)])) (fun _ => by simp [Array.toList_zip]) (fun q_ o_ w_ => ∃ (x135 : (List UInt64)), Fm o0 w0 o_ w_ [] ∧ Bk o_ w_ 11 b101 (List.map enc64 (List.replicate 16 ((0 : UInt64)))) 24 ∧ Bk o_ w_ 12 b106 [.int .i64 (0 : Int)] 26 ∧ Bk o_ w_ 13 b111 (List.map enc64 x135) 24 ∧ x135.length = 16 ∧ Gl GG o_ w_ ∧ Shut 10 [] o_ w_ ∧ bits_Parse.l1 k (List.drop q_ xs137) x135 = some z138) (fun o_ w_ => ∃ (x135 : (List UInt64)), Fm o0 w0 o_ w_ [] ∧ Bk o_ w_ 11 b101 (List.map enc64 (List.replicate 16 ((0 : UInt64)))) 24 ∧ Bk o_ w_ 12 b106 [.int .i64 (0 : Int)] 26 ∧ Bk o_ w_ 13 b111 (List.map enc64 x135) 24 ∧ x135.length = 16 ∧ Gl GG o_ w_ ∧ Shut 10 [] o_ w_ ∧ z138 = .inr x135) (fun o_ w_ => Fm o0 w0 o_ w_ [] ∧ Bk o_ w_ 11 b101 (List.map enc64 (List.replicate 16 ((0 : UInt64)))) 24 ∧ Bk o_ w_ 12 b106 [.int .i64 50] 26 ∧ Gl GG o_ w_ ∧ Shut 10 [] o_ w_ ∧ z138 = .inl ()) ?hR141 ?hP142 ?hX143 (fun q_ o_ w_ o2_ w2_ h_ s_ => ⟨h_.1.step s_ rfl, h_.2.1.step s_ rfl, h_.2.2.step s_ rfl⟩) ?h0144 ?hb145 ?he146 ?hp147 ?hr148
    case hR141 =>
      rintro q_ o_ w_ o2_ w2_ ⟨x135, HF, hB105, hB110, hB115, hl136, hG, hS, H⟩ s_
      replace hB105 := hB105.step s_ rfl
      replace hB110 := hB110.step s_ rfl
      replace hB115 := hB115.step s_ rfl
      replace hG := hG.step s_ rfl
      replace hS := hS.step s_ rfl
      replace HF := HF.step s_ rfl
      exact ⟨x135, HF, hB105, hB110, hB115, hl136, hG, hS, H⟩
    case hP142 =>
      rintro o_ w_ o2_ w2_ ⟨x135, HF, hB105, hB110, hB115, hl136, hG, hS, H⟩ s_
      replace hB105 := hB105.step s_ rfl
      replace hB110 := hB110.step s_ rfl
      replace hB115 := hB115.step s_ rfl
      replace hG := hG.step s_ rfl
      replace hS := hS.step s_ rfl
      replace HF := HF.step s_ rfl
      exact ⟨x135, HF, hB105, hB110, hB115, hl136, hG, hS, H⟩
    case hX143 =>
      rintro o_ w_ o2_ w2_ ⟨HF, hB165, hB168, hG, hS, H⟩ s_
      replace hB165 := hB165.step s_ rfl
      replace hB168 := hB168.step s_ rfl
      replace hG := hG.step s_ rfl
      replace hS := hS.step s_ rfl
      replace HF := HF.step s_ rfl
      exact ⟨HF, hB165, hB168, hG, hS, H⟩
    case h0144 =>
      intro o149 w150 s151
      replace hS := hS.step s151 rfl
      replace hG := hG.step s151 rfl
      replace hB105 := hB105.step s151 rfl
      replace hB110 := hB110.step s151 rfl
      replace hB115 := hB115.step s151 rfl
      replace hB130 := hB130.step s151 rfl
      replace hB132 := hB132.step s151 rfl
      replace hB134 := hB134.step s151 rfl
      replace HF := HF.step s151 rfl
      exact ⟨⟨(List.replicate 16 ((0 : UInt64))), HF, hB105, hB110, hB115, rfl, hG, hS, hz138⟩, ⟨hB130, (by simpa [restOf, restB] using hB132), hB134⟩⟩
    case hb145 =>
      rintro l153 D154 ob155 ob156 q157 x152 o158 w159 hx160 ⟨x135, HF, hB105, hB110, hB115, hl136, hG, hS, H⟩ ⟨hB130, hB132, hB134⟩ hL hD
      rw [drop_of hx160, bits_Parse.l1.eq_2] at H
      refine WC.regionR (by kernel_rfl) ?_
      refine WL.ex rfl (ex_assign (v := encS x152) rfl) ?_
      refine WL.nil ?_
      refine ⟨_, hL, hD, ?_⟩
      intro w161 s162 hL2 hD2
      replace hB105 := hB105.step s162 rfl
      replace hB110 := hB110.step s162 rfl
      replace hB115 := hB115.step s162 rfl
      replace hG := hG.step s162 rfl
      replace hS := hS.step s162 rfl
      replace hB130 := hB130.step s162 rfl
      replace hB132 := hB132.step s162 rfl
      replace hB134 := hB134.step s162 rfl
      replace HF := HF.step s162 rfl
      replace hL := hL2
      replace hD := hD2
      clear hL2 hD2
      refine WC.block ?_
      refine WC.seq ?_
      refine WC.regionR (by kernel_rfl) ?_
      refine WL.ex rfl (ex_move (v := encS x152) rfl) ?_
      obtain ⟨z163, hz163, H⟩ := bindE H
      refine WL.op rfl ?_
      refine OW.call [encS x152, encS ([45] : List UInt8)] rfl Tryd.func41 (by kernel_rfl) (by kernel_rfl) (map_cons' rfl (map_cons' rfl rfl)) (strings_Cut.calls _ _ x152 ([45] : List UInt8) z163 (HF.ten (V := [0]) (L := []) rfl)  hz163) ?_
      rintro _ w164 ⟨o165, rfl, s166⟩
      refine ⟨_, rfl, ?_⟩
      replace s166 := un_stepL (J := []) (L' := []) s166 rfl rfl
      replace hB105 := hB105.step s166 rfl
      replace hB110 := hB110.step s166 rfl
      replace hB115 := hB115.step s166 rfl
      replace hG := hG.step s166 rfl
      replace hS := hS.step s166 rfl
      replace hB130 := hB130.step s166 rfl
      replace hB132 := hB132.step s166 rfl
      replace hB134 := hB134.step s166 rfl
      replace hL := hL.step s166 rfl
      replace hD := hD.step s166 rfl
      replace HF := HF.step s166 rfl
      refine WL.ex rfl (ex_move (v := .tuple #[encS z163.1, encS z163.2.1, .bool z163.2.2]) rfl) ?_
      refine WL.ex rfl (ex_extract (vs := #[encS z163.1, encS z163.2.1, .bool z163.2.2]) (v := encS z163.1) rfl rfl) ?_
      refine WL.ex rfl (ex_extract (vs := #[encS z163.1, encS z163.2.1, .bool z163.2.2]) (v := encS z163.2.1) rfl rfl) ?_
      refine WL.ex rfl (ex_extract (vs := #[encS z163.1, encS z163.2.1, .bool z163.2.2]) (v := .bool z163.2.2) rfl rfl) ?_
      refine WL.ex rfl (ex_assign (v := encS z163.1) rfl) ?_
      refine WL.ex rfl (ex_assign (v := encS z163.2.1) rfl) ?_
      refine WL.ex rfl (ex_assign (v := .bool z163.2.2) rfl) ?_
      refine WL.nil ?_
      obtain ⟨z168, hz168, H⟩ := bindE H
      refine WC.cut (fun ρ_ w_ => ∃ (o_ : Tags), Fm o0 w0 o_ w_ [] ∧ Bk o_ w_ 11 b101 (List.map enc64 (List.replicate 16 ((0 : UInt64)))) 24 ∧ Bk o_ w_ 12 b106 [.int .i64 (0 : Int)] 26 ∧ Bk o_ w_ 13 b111 (List.map enc64 x135) 24 ∧ x135.length = 16 ∧ Gl GG o_ w_ ∧ Ob o_ w_ 17 l153 ob156 ∧ Ob o_ w_ 17 D154 (.deferred (some [])) ∧ Bk o_ w_ 14 b129 [encS z125.1] 9 ∧ Bk o_ w_ 15 b131 [encS (restOf (z125.1, z125.2.1, z125.2.2) q157)] 9 ∧ Bk o_ w_ 16 b133 [.int .i64 z125.2.2] 3 ∧ Shut 10 [] o_ w_ ∧ ρ_ 0 = encS a0 ∧ ρ_ 2 = .pointer (some ⟨b101, 0, none⟩) ∧ ρ_ 3 = .pointer (some ⟨b106, 0, none⟩) ∧ ρ_ 4 = .pointer (some ⟨b111, 0, none⟩) ∧ ρ_ 6 = encS z163.1 ∧ ρ_ 7 = encS z168) ?case169 ?_
      case case169 =>
        rintro ρ172 w170 ⟨o171, HF, hB105, hB110, hB115, hl136, hG, hL, hD, hB130, hB132, hB134, hS, s0_166, s2_166, s3_166, s4_166, s6_166, s7_167⟩
        refine WC.seq ?_
        refine WC.regionR (by kernel_rfl) ?_
        refine WL.ex rfl (ex_move (v := encS z163.1) s6_166) ?_
        obtain ⟨z173, hz173, H⟩ := bindE H
        refine WL.op rfl ?_
        refine OW.call [encS z163.1, .int .i64 1023] rfl Tryd.func42 (by kernel_rfl) (by kernel_rfl) (map_cons' rfl (map_cons' rfl rfl)) (octet_Undec.calls _ _ z163.1 1023 z173 (HF.ten (V := [0]) (L := []) rfl) (Gl.vw (V := [0]) (L := []) hG rfl) hz173) ?_
        rintro _ w174 ⟨o175, rfl, s176⟩
        refine ⟨_, rfl, ?_⟩
        replace s176 := un_stepL (J := []) (L' := []) s176 rfl rfl
        replace hB105 := hB105.step s176 rfl
        replace hB110 := hB110.step s176 rfl
        replace hB115 := hB115.step s176 rfl
        replace hG := hG.step s176 rfl
        replace hL := hL.step s176 rfl
        replace hD := hD.step s176 rfl
        replace hB130 := hB130.step s176 rfl
        replace hB132 := hB132.step s176 rfl
        replace hB134 := hB134.step s176 rfl
        replace hS := hS.step s176 rfl
        replace HF := HF.step s176 rfl
        refine WL.ex rfl (ex_move (v := .tuple #[.int .i64 z173.1, .int .i64 z173.2]) rfl) ?_
        refine WL.ex rfl (ex_extract (vs := #[.int .i64 z173.1, .int .i64 z173.2]) (v := .int .i64 z173.1) rfl rfl) ?_
        refine WL.ex rfl (ex_extract (vs := #[.int .i64 z173.1, .int .i64 z173.2]) (v := .int .i64 z173.2) rfl rfl) ?_
        refine WL.ex rfl (ex_assign (v := .int .i64 z173.1) rfl) ?_
        refine WL.ex rfl (ex_assign (v := .int .i64 z173.2) rfl) ?_
        refine WL.nil ?_
        refine WC.seq ?_
        refine WC.regionR (by kernel_rfl) ?_
        refine WL.ex rfl (ex_move (v := encS z168) s7_167) ?_
        obtain ⟨z177, hz177, H⟩ := bindE H
        refine WL.op rfl ?_
        refine OW.call [encS z168, .int .i64 1023] rfl Tryd.func42 (by kernel_rfl) (by kernel_rfl) (map_cons' rfl (map_cons' rfl rfl)) (octet_Undec.calls _ _ z168 1023 z177 (HF.ten (V := [0]) (L := []) rfl) (Gl.vw (V := [0]) (L := []) hG rfl) hz177) ?_
        rintro _ w178 ⟨o179, rfl, s180⟩
        refine ⟨_, rfl, ?_⟩
        replace s180 := un_stepL (J := []) (L' := []) s180 rfl rfl
        replace hB105 := hB105.step s180 rfl
        replace hB110 := hB110.step s180 rfl
        replace hB115 := hB115.step s180 rfl
        replace hG := hG.step s180 rfl
        replace hL := hL.step s180 rfl
        replace hD := hD.step s180 rfl
        replace hB130 := hB130.step s180 rfl
        replace hB132 := hB132.step s180 rfl
        replace hB134 := hB134.step s180 rfl
        replace hS := hS.step s180 rfl
        replace HF := HF.step s180 rfl
        refine WL.ex rfl (ex_move (v := .tuple #[.int .i64 z177.1, .int .i64 z177.2]) rfl) ?_
        refine WL.ex rfl (ex_extract (vs := #[.int .i64 z177.1, .int .i64 z177.2]) (v := .int .i64 z177.1) rfl rfl) ?_
        refine WL.ex rfl (ex_extract (vs := #[.int .i64 z177.1, .int .i64 z177.2]) (v := .int .i64 z177.2) rfl rfl) ?_
        refine WL.ex rfl (ex_assign (v := .int .i64 z177.1) rfl) ?_
        refine WL.ex rfl (ex_assign (v := .int .i64 z177.2) rfl) ?_
        refine WL.nil ?_
        refine WC.seq ?_
        obtain ⟨z182, hz182, H⟩ := bindE H
        refine WC.cut (fun ρ_ w_ => ∃ (o_ : Tags), Fm o0 w0 o_ w_ [] ∧ Bk o_ w_ 11 b101 (List.map enc64 (List.replicate 16 ((0 : UInt64)))) 24 ∧ Bk o_ w_ 12 b106 [.int .i64 (0 : Int)] 26 ∧ Bk o_ w_ 13 b111 (List.map enc64 x135) 24 ∧ x135.length = 16 ∧ Gl GG o_ w_ ∧ Ob o_ w_ 17 l153 ob156 ∧ Ob o_ w_ 17 D154 (.deferred (some [])) ∧ Bk o_ w_ 14 b129 [encS z125.1] 9 ∧ Bk o_ w_ 15 b131 [encS (restOf (z125.1, z125.2.1, z125.2.2) q157)] 9 ∧ Bk o_ w_ 16 b133 [.int .i64 z125.2.2] 3 ∧ Shut 10 [] o_ w_ ∧ ρ_ 0 = encS a0 ∧ ρ_ 2 = .pointer (some ⟨b101, 0, none⟩) ∧ ρ_ 3 = .pointer (some ⟨b106, 0, none⟩) ∧ ρ_ 4 = .pointer (some ⟨b111, 0, none⟩) ∧ ρ_ 9 = .int .i64 z173.1 ∧ ρ_ 11 = .int .i64 z177.1 ∧ ρ_ 44 = .bool z182) ?case183 ?_
        case case183 =>
          rintro ρ186 w184 ⟨o185, HF, hB105, hB110, hB115, hl136, hG, hL, hD, hB130, hB132, hB134, hS, s0_180, s2_180, s3_180, s4_180, s9_180, s11_180, s44_181⟩
          rcases condE H with ⟨c187, H⟩ | ⟨c187, H⟩
          ·
            refine WC.cond_t ((show _ = Value.bool z182 from s44_181).trans (congrArg Value.bool c187)) ?_
            refine WC.seq ?_
            refine WC.regionR (by kernel_rfl) ?_
            refine WL.ex rfl (ex_buildArr (cs := List.map enc64 (List.replicate 16 ((0 : UInt64)))) [] [.int .u64 0, .int .u64 0, .int .u64 0, .int .u64 0, .int .u64 0, .int .u64 0, .int .u64 0, .int .u64 0, .int .u64 0, .int .u64 0, .int .u64 0, .int .u64 0, .int .u64 0, .int .u64 0, .int .u64 0, .int .u64 0] Tryd.underlying24 zr24 rfl sz22 rfl rfl) ?_
            refine WL.op rfl ?_
            refine OW.storeAV (ys := (List.replicate 16 ((0 : UInt64)))) s2_180 rfl (fun _ => rfl) sz24 rfl rfl hB105 ?_
            intro w188 s189 hB190
            replace hB110 := hB110.step s189 rfl
            replace hB115 := hB115.step s189 rfl
            replace hG := hG.step s189 rfl
            replace hL := hL.step s189 rfl
            replace hD := hD.step s189 rfl
            replace hB130 := hB130.step s189 rfl
            replace hB132 := hB132.step s189 rfl
            replace hB134 := hB134.step s189 rfl
            replace hS := hS.step s189 rfl
            replace HF := HF.step s189 rfl
            refine WL.op rfl ?_
            refine OW.store [.int .i64 50] s3_180 (vs := [.int .i64 50]) ((congrArg Value.cells (show ev _ _ = (.int .i64 50 : Value) from rfl)).trans rfl) sz26 hB110 (Nat.le_of_ble_eq_true rfl) (by intro u_ hu_; simp only [List.mem_cons, List.not_mem_nil, or_false] at hu_; rcases hu_ with rfl; first | rfl) rfl ?_
            intro w191 s192 hB193
            replace hB115 := hB115.step s192 rfl
            replace hG := hG.step s192 rfl
            replace hL := hL.step s192 rfl
            replace hD := hD.step s192 rfl
            replace hB130 := hB130.step s192 rfl
            replace hB132 := hB132.step s192 rfl
            replace hB134 := hB134.step s192 rfl
            replace hS := hS.step s192 rfl
            replace hB190 := hB190.step s192 rfl
            replace HF := HF.step s192 rfl
            refine WL.nil ?_
            refine WC.ret ?_
            obtain rfl := Option.some.inj H
            exact ⟨_, hL, hD, ⟨HF, hB190, hB193, hG, hS, rfl⟩⟩
          ·
            refine WC.cond_f ((show _ = Value.bool z182 from s44_181).trans (congrArg Value.bool c187)) ?_
            refine WC.skip ?_
            refine WC.seq ?_
            refine WC.regionR (by kernel_rfl) ?_
            refine WL.ex rfl (ex_move (v := .int .i64 z173.1) s9_180) ?_
            refine WL.ex rfl (ex_assign (v := .int .i64 z173.1) rfl) ?_
            refine WL.nil ?_
            obtain ⟨z199, hz199, H⟩ := bindE H
            refine WC.for (fun k_ ρ_ w_ => ∃ (o_ : Tags) (x194 : Int) (x195 : (List UInt64)), Fm o0 w0 o_ w_ [] ∧ Bk o_ w_ 11 b101 (List.map enc64 (List.replicate 16 ((0 : UInt64)))) 24 ∧ Bk o_ w_ 12 b106 [.int .i64 (0 : Int)] 26 ∧ Bk o_ w_ 13 b111 (List.map enc64 x195) 24 ∧ x195.length = 16 ∧ Gl GG o_ w_ ∧ Ob o_ w_ 17 l153 ob156 ∧ Ob o_ w_ 17 D154 (.deferred (some [])) ∧ Bk o_ w_ 14 b129 [encS z125.1] 9 ∧ Bk o_ w_ 15 b131 [encS (restOf (z125.1, z125.2.1, z125.2.2) q157)] 9 ∧ Bk o_ w_ 16 b133 [.int .i64 z125.2.2] 3 ∧ Shut 10 [] o_ w_ ∧ ρ_ 0 = encS a0 ∧ ρ_ 2 = .pointer (some ⟨b101, 0, none⟩) ∧ ρ_ 3 = .pointer (some ⟨b106, 0, none⟩) ∧ ρ_ 4 = .pointer (some ⟨b111, 0, none⟩) ∧ ρ_ 11 = .int .i64 z177.1 ∧ ρ_ 13 = .int .i64 x194 ∧ bits_Parse.l2 k z177 k_ x194 x195 = some z199) k (fun ρ_ w_ => ∃ (o_ : Tags), Fm o0 w0 o_ w_ [] ∧ Bk o_ w_ 11 b101 (List.map enc64 (List.replicate 16 ((0 : UInt64)))) 24 ∧ Bk o_ w_ 12 b106 [.int .i64 (0 : Int)] 26 ∧ Bk o_ w_ 13 b111 (List.map enc64 z199) 24 ∧ z199.length = 16 ∧ Gl GG o_ w_ ∧ Ob o_ w_ 17 l153 ob156 ∧ Ob o_ w_ 17 D154 (.deferred (some [])) ∧ Bk o_ w_ 14 b129 [encS z125.1] 9 ∧ Bk o_ w_ 15 b131 [encS (restOf (z125.1, z125.2.1, z125.2.2) q157)] 9 ∧ Bk o_ w_ 16 b133 [.int .i64 z125.2.2] 3 ∧ Shut 10 [] o_ w_ ∧ ρ_ 0 = encS a0 ∧ ρ_ 2 = .pointer (some ⟨b101, 0, none⟩) ∧ ρ_ 3 = .pointer (some ⟨b106, 0, none⟩) ∧ ρ_ 4 = .pointer (some ⟨b111, 0, none⟩)) ⟨_, z173.1, x135, HF, hB105, hB110, hB115, hl136, hG, hL, hD, hB130, hB132, hB134, hS, s0_180, s2_180, s3_180, s4_180, s11_180, rfl, hz199⟩ ?case200 ?_
            case case200 =>
              rintro ρ216 w217 ⟨o218, HF, hB105, hB110, hB115, hl198, hG, hL, hD, hB130, hB132, hB134, hS, s0_196, s2_196, s3_196, s4_196⟩
              exact ⟨_, hL, hD, ⟨z199, HF, hB105, hB110, hB115, hl198, hG, hS, H⟩, ⟨hB130, hB132, hB134⟩⟩
            have Ho201 := H
            rintro k202 ρ203 w204 ⟨o205, x194, x195, HF, hB105, hB110, hB115, hl196, hG, hL, hD, hB130, hB132, hB134, hS, s0_193, s2_193, s3_193, s4_193, s11_193, s13_194, H⟩
            cases k202 with
            | zero => cases H
            | succ k202 =>
            rw [bits_Parse.l2.eq_2] at H
            refine WC.seq ?_
            refine WC.seq ?_
            refine WC.regionR (by kernel_rfl) ?_
            refine WL.ex rfl (ex_move (v := .int .i64 x194) s13_194) ?_
            refine WL.ex rfl (ex_move (v := .int .i64 z177.1) s11_193) ?_
            refine WL.ex rfl (ex_bin (a := .int .i64 x194) (b := .int .i64 z177.1) (v := .bool (decide (x194 ≤ z177.1))) rfl rfl bin_leq) ?_
            refine WL.nil ?_
            rcases condE H with ⟨c206, H⟩ | ⟨c206, H⟩
            ·
              refine WC.cond_t ((show _ = Value.bool (decide (x194 ≤ z177.1)) from rfl).trans (congrArg Value.bool c206)) ?_
              refine WC.skip ?_
              refine WC.seq ?_
              refine WC.block ?_
              refine WC.regionDR' HF [13] 10 (by kernel_rfl) (by kernel_rfl) rfl ?_
              intro w207 s208
              replace hB105 := hB105.step s208 rfl
              replace hB110 := hB110.step s208 rfl
              replace hB115 := hB115.step s208 rfl
              replace hG := hG.step s208 rfl
              replace hL := hL.step s208 rfl
              replace hD := hD.step s208 rfl
              replace hB130 := hB130.step s208 rfl
              replace hB132 := hB132.step s208 rfl
              replace hB134 := hB134.step s208 rfl
              replace hS := hS.step s208 rfl
              replace HF := HF.step s208 rfl
              have hB105D := hB105
              have hB110D := hB110
              have hB115D := hB115
              have hGD := hG
              have hLD := hL
              have hDD := hD
              have hB130D := hB130
              have hB132D := hB132
              have hB134D := hB134
              have hSD := hS
              have sR := HF.here [13]
              refine WA.norm (listed' := #[false, false, false, false, false, false, false, false, false, false]) (by kernel_rfl) ?_
              refine WA.ex 0 rfl (by kernel_rfl) (by kernel_rfl) (by kernel_rfl) rfl ⟨_, sR⟩ (fun w_ hS_ => ex_move (v := .int .i64 x194) s13_194) ?_
              refine WA.norm (listed' := #[true, false, false, false, false, false, false, false, false, false]) (by kernel_rfl) ?_
              refine WA.ex 1 rfl (by kernel_rfl) (by kernel_rfl) (by kernel_rfl) rfl ⟨_, sR⟩ (fun w_ hS_ => ex_bin (a := .int .i64 x194) (b := .int .i64 64) (v := .int .i64 (wrap64 (x194.tdiv 64))) rfl rfl (bin_quo64 (by decide))) ?_
              refine WA.norm (listed' := #[true, true, false, false, false, false, false, false, false, false]) (by kernel_rfl) ?_
              obtain ⟨x209, hx209, H⟩ := bindE H
              refine WA.ex 2 rfl (by kernel_rfl) (by kernel_rfl) (by kernel_rfl) rfl ⟨_, sR⟩ (fun w_ hS_ => ex_indexArrB (i := (wrap64 (x194.tdiv 64))) (xs := x195) s4_193 rfl Tryd.underlying24 sz22 hl196 hx209) ?_
              refine WA.norm (listed' := #[true, true, true, false, false, false, false, false, false, false]) (by kernel_rfl) ?_
              refine WA.ex 4 rfl (by kernel_rfl) (by kernel_rfl) (by kernel_rfl) rfl ⟨_, sR⟩ (fun w_ hS_ => ex_move (v := .int .i64 x194) s13_194) ?_
              refine WA.norm (listed' := #[true, true, true, false, true, false, false, false, false, false]) (by kernel_rfl) ?_
              refine WA.ex 5 rfl (by kernel_rfl) (by kernel_rfl) (by kernel_rfl) rfl ⟨_, sR⟩ (fun w_ hS_ => ex_bin (a := .int .i64 x194) (b := .int .i64 64) (v := .int .i64 (x194.tmod 64)) rfl rfl (bin_rem64 (by decide))) ?_
              refine WA.norm (listed' := #[true, true, true, false, true, true, false, false, false, false]) (by kernel_rfl) ?_
              obtain ⟨u210, hu210, H⟩ := bindE H
              refine WA.ex 6 rfl (by kernel_rfl) (by kernel_rfl) (by kernel_rfl) rfl ⟨_, sR⟩ (fun w_ hS_ => ex_bin (a := enc64 (1 : UInt64)) (b := .int .i64 (x194.tmod 64)) (v := enc64 (shl64 (1 : UInt64) (x194.tmod 64).toNat)) rfl rfl (bin_shl_u64 (of_decide_eq_true (chk_true hu210)))) ?_
              refine WA.norm (listed' := #[true, true, true, false, true, true, true, false, false, false]) (by kernel_rfl) ?_
              refine WA.one 3 (by kernel_rfl) rfl rfl ?_
              refine OW.ex rfl (ex_loadAE (enc := enc64) rfl Tryd.underlying22 rfl hB115 hx209) ?_
              refine ⟨⟨_, sR⟩, ?_⟩
              refine WA.norm (listed' := #[true, true, true, true, true, true, true, false, false, false]) (by kernel_rfl) ?_
              refine WA.ex 7 rfl (by kernel_rfl) (by kernel_rfl) (by kernel_rfl) rfl ⟨_, sR⟩ (fun w_ hS_ => ex_bin (a := enc64 x209) (b := enc64 (shl64 (1 : UInt64) (x194.tmod 64).toNat)) (v := enc64 (x209 ||| (shl64 (1 : UInt64) (x194.tmod 64).toNat))) rfl rfl bin_or_u64) ?_
              refine WA.norm (listed' := #[true, true, true, true, true, true, true, true, false, false]) (by kernel_rfl) ?_
              obtain ⟨x211, hx211, H⟩ := bindE H
              refine WA.ex 8 rfl (by kernel_rfl) (by kernel_rfl) (by kernel_rfl) rfl ⟨_, sR⟩ (fun w_ hS_ => ex_indexArrB (i := (wrap64 (x194.tdiv 64))) (xs := x195) s4_193 rfl Tryd.underlying24 sz22 hl196 hx211) ?_
              refine WA.norm (listed' := #[true, true, true, true, true, true, true, true, true, false]) (by kernel_rfl) ?_
              refine WA.one 9 (by kernel_rfl) rfl rfl ?_
              refine OW.storeAE (enc := enc64) (c := (x209 ||| (shl64 (1 : UInt64) (x194.tmod 64).toNat))) rfl rfl (cells64) (fun _ => rfl) sz22 hB115 hx211 ?_
              intro w212 s213 hB214
              replace hB105 := hB105.step s213 rfl
              replace hB110 := hB110.step s213 rfl
              replace hG := hG.step s213 rfl
              replace hL := hL.step s213 rfl
              replace hD := hD.step s213 rfl
              replace hB130 := hB130.step s213 rfl
              replace hB132 := hB132.step s213 rfl
              replace hB134 := hB134.step s213 rfl
              replace hS := hS.step s213 rfl
              replace HF := HF.step s213 rfl
              replace sR := Step.trans sR s213 (M := [13]) rfl rfl
              have hl215 := len_set (i := (wrap64 (x194.tdiv 64)).toNat) (a := (x209 ||| (shl64 (1 : UInt64) (x194.tmod 64).toNat))) hl196
              refine ⟨⟨_, sR⟩, ?_⟩
              refine WA.norm (listed' := #[true, true, true, true, true, true, true, true, true, true]) (by kernel_rfl) ?_
              refine WA.done (by kernel_rfl) ?_
              refine WC.regionR (by kernel_rfl) ?_
              refine WL.ex rfl (ex_move (v := .int .i64 x194) s13_194) ?_
              refine WL.ex rfl (ex_bin (a := .int .i64 x194) (b := .int .i64 1) (v := .int .i64 (wrap64 (x194 + 1))) rfl rfl bin_add64) ?_
              refine WL.ex rfl (ex_assign (v := .int .i64 (wrap64 (x194 + 1))) rfl) ?_
              refine WL.nil ?_
              exact ⟨k202, Nat.lt_succ_self _, ⟨_, wrap64 (x194 + 1), (x195.set (wrap64 (x194.tdiv 64)).toNat (x209 ||| (shl64 (1 : UInt64) (x194.tmod 64).toNat))), HF, hB105, hB110, hB214, hl215, hG, hL, hD, hB130, hB132, hB134, hS, s0_193, s2_193, s3_193, s4_193, s11_193, rfl, H⟩⟩
            ·
              refine WC.cond_f ((show _ = Value.bool (decide (x194 ≤ z177.1)) from rfl).trans (congrArg Value.bool c206)) ?_
              refine WC.exit ?_
              obtain rfl := Option.some.inj H
              exact ⟨_, HF, hB105, hB110, hB115, hl196, hG, hL, hD, hB130, hB132, hB134, hS, s0_193, s2_193, s3_193, s4_193⟩
        have Ho219 := H
        replace H := hz182
        refine WC.regionR (by kernel_rfl) ?_
        refine WL.ex rfl (ex_move (v := .int .i64 z173.2) rfl) ?_
        refine WL.ex rfl (ex_bin (a := .int .i64 z173.2) (b := .int .i64 0) (v := .bool (z173.2 != 0)) rfl rfl bin_neq) ?_
        refine WL.ex rfl (ex_move (v := .bool (z173.2 != 0)) rfl) ?_
        rcases condE H with ⟨c220, H⟩ | ⟨c220, H⟩
        ·
          refine WL.guardNo rfl rfl rfl ((show _ = Value.bool (z173.2 != 0) from rfl).trans (congrArg Value.bool c220)) ?_
          refine WL.guardNo rfl rfl rfl ((show _ = Value.bool (z173.2 != 0) from rfl).trans (congrArg Value.bool c220)) ?_
          refine WL.ex rfl (ex_pick_t (v := .bool true) ((show _ = Value.bool (z173.2 != 0) from rfl).trans (congrArg Value.bool c220)) rfl) ?_
          refine WL.nil ?_
          obtain rfl := Option.some.inj H
          exact ⟨_, HF, hB105, hB110, hB115, hl136, hG, hL, hD, hB130, hB132, hB134, hS, s0_166, s2_166, s3_166, s4_166, rfl, rfl, rfl⟩
        ·
          refine WL.guardYes rfl rfl rfl ((show _ = Value.bool (z173.2 != 0) from rfl).trans (congrArg Value.bool c220)) ?_
          refine OW.ex rfl (ex_move (v := .int .i64 z177.2) rfl) ?_
          refine WL.guardYes rfl rfl rfl ((show _ = Value.bool (z173.2 != 0) from rfl).trans (congrArg Value.bool c220)) ?_
          refine OW.ex rfl (ex_bin (a := .int .i64 z177.2) (b := .int .i64 0) (v := .bool (z177.2 != 0)) rfl rfl bin_neq) ?_
          refine WL.ex rfl (ex_pick_f (v := .bool (z177.2 != 0)) ((show _ = Value.bool (z173.2 != 0) from rfl).trans (congrArg Value.bool c220)) rfl) ?_
          refine WL.nil ?_
          obtain rfl := Option.some.inj H
          exact ⟨_, HF, hB105, hB110, hB115, hl136, hG, hL, hD, hB130, hB132, hB134, hS, s0_166, s2_166, s3_166, s4_166, rfl, rfl, rfl⟩
      have Ho221 := H
      replace H := hz168
      refine WC.seq ?_
      refine WC.regionR (by kernel_rfl) ?_
      refine WL.ex rfl (ex_move (v := .bool z163.2.2) rfl) ?_
      refine WL.ex rfl (ex_not (b := z163.2.2) rfl) ?_
      refine WL.nil ?_
      rcases condE H with ⟨c222, H⟩ | ⟨c222, H⟩
      ·
        refine WC.cond_t ((show _ = Value.bool (!z163.2.2) from rfl).trans (congrArg Value.bool c222)) ?_
        refine WC.regionR (by kernel_rfl) ?_
        refine WL.ex rfl (ex_move (v := encS z163.1) rfl) ?_
        refine WL.ex rfl (ex_assign (v := encS z163.1) rfl) ?_
        refine WL.nil ?_
        obtain rfl := Option.some.inj H
        exact ⟨_, HF, hB105, hB110, hB115, hl136, hG, hL, hD, hB130, hB132, hB134, hS, rfl, rfl, rfl, rfl, rfl, rfl⟩
      ·
        refine WC.cond_f ((show _ = Value.bool (!z163.2.2) from rfl).trans (congrArg Value.bool c222)) ?_
        refine WC.skip ?_
        obtain rfl := Option.some.inj H
        exact ⟨_, HF, hB105, hB110, hB115, hl136, hG, hL, hD, hB130, hB132, hB134, hS, rfl, rfl, rfl, rfl, rfl, rfl⟩
    case he146 =>
      rintro o_ w_ ⟨x135, HF, hB105, hB110, hB115, hl136, hG, hS, H⟩ hCc
      rw [List.drop_length, bits_Parse.l1.eq_1] at H
      obtain rfl := Option.some.inj H
      exact ⟨x135, HF, hB105, hB110, hB115, hl136, hG, hS, rfl⟩
    case hr148 =>
      rintro D223 o224 w225 ⟨HF, hB165, hB168, hG, hS, hz227⟩ hD hle226
      replace H := Ho139
      subst hz227
      dsimp only at H
      replace hB165 := hB165.ren (i := 17) (j := 10) rfl
      replace hB168 := hB168.ren (i := 17) (j := 10) rfl
      replace hG := hG.ren (i := 17) (j := 10) rfl
      replace hS := hS.ren (k := 17) (l := 10) rfl rfl
      replace hD := Ob.renTo (j := 10) hD
      replace HF := HF.ren (i := 17) (j := 10) rfl
      replace hS := Shut.more hS140 hS hD hle226
      obtain rfl := Option.some.inj H
      refine ⟨10, _, hS, ?_⟩
      intro w229 s230
      replace hB165 := hB165.step s230 rfl
      replace hB168 := hB168.step s230 rfl
      replace hG := hG.step s230 rfl
      replace HF := HF.step s230 rfl
      exact ⟨_, (.cell (.agg (List.map enc64 (List.replicate 16 ((0 : UInt64)))).toArray : Value) rfl (run_loadAV Tryd.underlying24 sz24 rfl hB165) (.cell (.int .i64 50 : Value) rfl (run_load1 Tryd.underlying26 rfl (hB168.cell rfl)) .nil)), _, rfl, HF.out, rfl⟩
    case hp147 =>
      rintro D231 o232 w233 ⟨x135, HF, hB105, hB110, hB115, hl136, hG, hS, hz235⟩ hD hle234
      replace H := Ho139
      subst hz235
      dsimp only at H
      replace hB105 := hB105.ren (i := 17) (j := 10) rfl
      replace hB110 := hB110.ren (i := 17) (j := 10) rfl
      replace hB115 := hB115.ren (i := 17) (j := 10) rfl
      replace hG := hG.ren (i := 17) (j := 10) rfl
      replace hS := hS.ren (k := 17) (l := 10) rfl rfl
      replace hD := Ob.renTo (j := 10) hD
      replace HF := HF.ren (i := 17) (j := 10) rfl
      replace hS := Shut.more hS140 hS hD hle234
      refine WC.seq ?_
      refine WC.seq ?_
      refine WC.region ?_
      refine WL.ex rfl (ex_loadAV (xs := x135) rfl Tryd.underlying24 sz24 hl136 hB115) ?_
      obtain ⟨z237, hz237, H⟩ := bindE H
      refine WL.op rfl ?_
      refine OW.call [.agg (List.map enc64 x135).toArray] rfl Tryd.func8 (by kernel_rfl) (by kernel_rfl) (map_cons' rfl rfl) (bits_Text.calls k _ _ x135 z237 (HF.ten (V := [0]) (L := []) rfl) hl136 (Gl.vw (V := [0]) (L := []) hG rfl) hz237) ?_
      rintro _ w238 ⟨o239, rfl, s240⟩
      refine ⟨_, rfl, ?_⟩
      replace s240 := un_stepL (J := []) (L' := []) s240 rfl rfl
      replace hB105 := hB105.step s240 rfl
      replace hB110 := hB110.step s240 rfl
      replace hB115 := hB115.step s240 rfl
      replace hG := hG.step s240 rfl
      replace hS := hS.step s240 rfl
      replace HF := HF.step s240 rfl
      refine WL.ex rfl (ex_move (v := encS a0) rfl) ?_
      refine WL.ex rfl (ex_bin (a := encS z237) (b := encS a0) (v := .bool (!(z237 == a0))) rfl rfl bin_neq_str) ?_
      refine WL.nil ?_
      rcases condE H with ⟨c241, H⟩ | ⟨c241, H⟩
      ·
        refine WC.cond_t ((show _ = Value.bool (!(z237 == a0)) from rfl).trans (congrArg Value.bool c241)) ?_
        refine WC.seq ?_
        refine WC.region ?_
        refine WL.ex rfl (ex_buildArr (cs := List.map enc64 (List.replicate 16 ((0 : UInt64)))) [] [.int .u64 0, .int .u64 0, .int .u64 0, .int .u64 0, .int .u64 0, .int .u64 0, .int .u64 0, .int .u64 0, .int .u64 0, .int .u64 0, .int .u64 0, .int .u64 0, .int .u64 0, .int .u64 0, .int .u64 0, .int .u64 0] Tryd.underlying24 zr24 rfl sz22 rfl rfl) ?_
        refine WL.op rfl ?_
        refine OW.storeAV (ys := (List.replicate 16 ((0 : UInt64)))) rfl rfl (fun _ => rfl) sz24 rfl rfl hB105 ?_
        intro w242 s243 hB244
        replace hB110 := hB110.step s243 rfl
        replace hB115 := hB115.step s243 rfl
        replace hG := hG.step s243 rfl
        replace hS := hS.step s243 rfl
        replace HF := HF.step s243 rfl
        refine WL.op rfl ?_
        refine OW.store [.int .i64 50] rfl (vs := [.int .i64 50]) ((congrArg Value.cells (show ev _ _ = (.int .i64 50 : Value) from rfl)).trans rfl) sz26 hB110 (Nat.le_of_ble_eq_true rfl) (by intro u_ hu_; simp only [List.mem_cons, List.not_mem_nil, or_false] at hu_; rcases hu_ with rfl; first | rfl) rfl ?_
        intro w245 s246 hB247
        replace hB115 := hB115.step s246 rfl
        replace hG := hG.step s246 rfl
        replace hS := hS.step s246 rfl
        replace hB244 := hB244.step s246 rfl
        replace HF := HF.step s246 rfl
        refine WL.nil ?_
        refine WC.ret ?_
        obtain rfl := Option.some.inj H
        refine ⟨10, _, hS, ?_⟩
        intro w248 s249
        replace hB115 := hB115.step s249 rfl
        replace hG := hG.step s249 rfl
        replace hB244 := hB244.step s249 rfl
        replace hB247 := hB247.step s249 rfl
        replace HF := HF.step s249 rfl
        exact ⟨_, (.cell (.agg (List.map enc64 (List.replicate 16 ((0 : UInt64)))).toArray : Value) rfl (run_loadAV Tryd.underlying24 sz24 rfl hB244) (.cell (.int .i64 50 : Value) rfl (run_load1 Tryd.underlying26 rfl (hB247.cell rfl)) .nil)), _, rfl, HF.out, rfl⟩
      ·
        refine WC.cond_f ((show _ = Value.bool (!(z237 == a0)) from rfl).trans (congrArg Value.bool c241)) ?_
        refine WC.skip ?_
        refine WC.seq ?_
        refine WC.region ?_
        refine WL.ex rfl (ex_loadAV (xs := x135) rfl Tryd.underlying24 sz24 hl136 hB115) ?_
        refine WL.op rfl ?_
        refine OW.storeAV (ys := x135) rfl rfl (fun _ => rfl) sz24 rfl hl136 hB105 ?_
        intro w250 s251 hB252
        replace hB110 := hB110.step s251 rfl
        replace hB115 := hB115.step s251 rfl
        replace hG := hG.step s251 rfl
        replace hS := hS.step s251 rfl
        replace HF := HF.step s251 rfl
        refine WL.op rfl ?_
        refine OW.store [.int .i64 0] rfl (vs := [.int .i64 0]) ((congrArg Value.cells (show ev _ _ = (.int .i64 0 : Value) from rfl)).trans rfl) sz26 hB110 (Nat.le_of_ble_eq_true rfl) (by intro u_ hu_; simp only [List.mem_cons, List.not_mem_nil, or_false] at hu_; rcases hu_ with rfl; first | rfl) rfl ?_
        intro w253 s254 hB255
        replace hB115 := hB115.step s254 rfl
        replace hG := hG.step s254 rfl
        replace hS := hS.step s254 rfl
        replace hB252 := hB252.step s254 rfl
        replace HF := HF.step s254 rfl
        refine WL.nil ?_
        refine WC.ret ?_
        obtain rfl := Option.some.inj H
        refine ⟨10, _, hS, ?_⟩
        intro w256 s257
        replace hB115 := hB115.step s257 rfl
        replace hG := hG.step s257 rfl
        replace hB252 := hB252.step s257 rfl
        replace hB255 := hB255.step s257 rfl
        replace HF := HF.step s257 rfl
        exact ⟨_, (.cell (.agg (List.map enc64 x135).toArray : Value) rfl (run_loadAV Tryd.underlying24 sz24 hl136 hB252) (.cell (.int .i64 0 : Value) rfl (run_load1 Tryd.underlying26 rfl (hB255.cell rfl)) .nil)), _, rfl, HF.out, hl136⟩

/-! ### dictumref01_Undec -/
set_option maxRecDepth 100000 in
theorem dictumref01_Undec.calls (k : Nat) (o0 : Tags) (w0 : World) (a0 : List UInt8) (a1 : Int) (r : Int × Int) (hO : ∀ b, b < w0.heap.size → o0 b < 10) (H : dictumref01_Undec.f k a0 a1 = some r) :
    Calls Tryd.prog 43 [encS a0, .int .i64 a1].toArray w0 fun e_ w_ => ∃ (o_ : Tags), e_ = .returned (one [.int .i64 r.1, .int .i64 r.2]) ∧ Step o0 w0 o_ w_ [] := by
  have HF := Fm.refl hO []
  unfold dictumref01_Undec.f at H
  refine SX.calls [encS a0, .int .i64 a1] Tryd.func43 rfl rfl ?_
  rw [Tryd.ntmps43]
  refine WC.seq ?_
  refine WC.region ?_
  refine WL.ex rfl (ex_assign (v := .int .i64 0) rfl) ?_
  refine WL.ex rfl (ex_assign (v := .int .i64 0) rfl) ?_
  refine WL.nil ?_
  refine WC.seq ?_
  obtain ⟨z102, hz102, H⟩ := bindE H
  refine WC.cut (fun ρ_ w_ => ∃ (o_ : Tags), Fm o0 w0 o_ w_ [] ∧ ρ_ 0 = encS a0 ∧ ρ_ 1 = .int .i64 a1 ∧ ρ_ 4 = .int .i64 0 ∧ ρ_ 5 = .int .i64 0 ∧ ρ_ 25 = .bool z102) ?case103 ?_
  case case103 =>
    rintro ρ106 w104 ⟨o105, HF, s0_100, s1_100, s4_100, s5_100, s25_101⟩
    rcases condE H with ⟨c107, H⟩ | ⟨c107, H⟩
    ·
      refine WC.cond_t ((show _ = Value.bool z102 from s25_101).trans (congrArg Value.bool c107)) ?_
      refine WC.seq ?_
      refine WC.region ?_
      refine WL.ex rfl (ex_assign (v := .int .i64 0) rfl) ?_
      refine WL.ex rfl (ex_assign (v := .int .i64 2) rfl) ?_
      refine WL.nil ?_
      refine WC.ret ?_
      obtain rfl := Option.some.inj H
      exact ⟨_, (.tmp (.int .i64 0 : Value) rfl (.tmp (.int .i64 2 : Value) rfl .nil)), _, rfl, HF.out⟩
    ·
      refine WC.cond_f ((show _ = Value.bool z102 from s25_101).trans (congrArg Value.bool c107)) ?_
      refine WC.skip ?_
      refine WC.seq ?_
      refine WC.region ?_
      refine WL.ex rfl (ex_assign (v := .int .i64 0) rfl) ?_
      refine WL.nil ?_
      refine WC.seq ?_
      refine WC.seq ?_
      refine WC.region ?_
      refine WL.ex rfl (ex_assign (v := .int .i64 0) rfl) ?_
      refine WL.nil ?_
      obtain ⟨z111, hz111, H⟩ := bindE H
      refine WC.for (fun k_ ρ_ w_ => ∃ (o_ : Tags) (x108 : Int) (x109 : Int), Fm o0 w0 o_ w_ [] ∧ ρ_ 0 = encS a0 ∧ ρ_ 1 = .int .i64 a1 ∧ ρ_ 4 = .int .i64 0 ∧ ρ_ 5 = .int .i64 0 ∧ ρ_ 6 = .int .i64 x108 ∧ ρ_ 7 = .int .i64 x109 ∧ dictumref01_Undec.l1 k a0 k_ x108 x109 = some z111) k (fun ρ_ w_ => ∃ (o_ : Tags) (x110 : Int), Fm o0 w0 o_ w_ [] ∧ ρ_ 1 = .int .i64 a1 ∧ ρ_ 4 = .int .i64 0 ∧ ρ_ 5 = .int .i64 0 ∧ ρ_ 6 = .int .i64 x110 ∧ z111 = .inr x110) ⟨_, 0, 0, HF, s0_100, s1_100, s4_100, s5_100, rfl, rfl, hz111⟩ ?case112 ?_
      case case112 =>
        rintro ρ131 w132 ⟨o133, x110, HF, s1_109, s4_109, s5_109, s6_110, rfl⟩
        dsimp only at H
        refine WC.seq ?_
        refine WC.seq ?_
        refine WC.region ?_
        refine WL.ex rfl (ex_move (v := .int .i64 x110) s6_110) ?_
        refine WL.ex rfl (ex_move (v := .int .i64 a1) s1_109) ?_
        refine WL.ex rfl (ex_bin (a := .int .i64 x110) (b := .int .i64 a1) (v := .bool (decide (x110 > a1))) rfl rfl bin_gtr) ?_
        refine WL.nil ?_
        rcases condE H with ⟨c134, H⟩ | ⟨c134, H⟩
        ·
          refine WC.cond_t ((show _ = Value.bool (decide (x110 > a1)) from rfl).trans (congrArg Value.bool c134)) ?_
          refine WC.seq ?_
          refine WC.region ?_
          refine WL.ex rfl (ex_assign (v := .int .i64 0) rfl) ?_
          refine WL.ex rfl (ex_assign (v := .int .i64 2) rfl) ?_
          refine WL.nil ?_
          refine WC.ret ?_
          obtain rfl := Option.some.inj H
          exact ⟨_, (.tmp (.int .i64 0 : Value) rfl (.tmp (.int .i64 2 : Value) rfl .nil)), _, rfl, HF.out⟩
        ·
          refine WC.cond_f ((show _ = Value.bool (decide (x110 > a1)) from rfl).trans (congrArg Value.bool c134)) ?_
          refine WC.skip ?_
          refine WC.seq ?_
          refine WC.region ?_
          refine WL.ex rfl (ex_move (v := .int .i64 x110) s6_110) ?_
          refine WL.ex rfl (ex_assign (v := .int .i64 x110) rfl) ?_
          refine WL.ex rfl (ex_assign (v := .int .i64 0) rfl) ?_
          refine WL.nil ?_
          refine WC.ret ?_
          obtain rfl := Option.some.inj H
          exact ⟨_, (.tmp (.int .i64 x110 : Value) rfl (.tmp (.int .i64 0 : Value) rfl .nil)), _, rfl, HF.out⟩
      have Ho113 := H
      rintro k114 ρ115 w116 ⟨o117, x108, x109, HF, s0_107, s1_107, s4_107, s5_107, s6_108, s7_109, H⟩
      cases k114 with
      | zero => cases H
      | succ k114 =>
      rw [dictumref01_Undec.l1.eq_2] at H
      refine WC.seq ?_
      refine WC.seq ?_
      refine WC.region ?_
      refine WL.ex rfl (ex_move (v := .int .i64 x109) s7_109) ?_
      refine WL.ex rfl (ex_move (v := encS a0) s0_107) ?_
      refine WL.ex rfl (ex_len_str (s := a0) rfl Tryd.underlying9) ?_
      refine WL.ex rfl (ex_bin (a := .int .i64 x109) (b := .int .i64 (a0.length : Int)) (v := .bool (decide (x109 < (a0.length : Int)))) rfl rfl bin_lss) ?_
      refine WL.nil ?_
      rcases condE H with ⟨c118, H⟩ | ⟨c118, H⟩
      ·
        refine WC.cond_t ((show _ = Value.bool (decide (x109 < (a0.length : Int))) from rfl).trans (congrArg Value.bool c118)) ?_
        refine WC.skip ?_
        refine WC.seq ?_
        refine WC.block ?_
        refine WC.seq ?_
        obtain ⟨z120, hz120, H⟩ := bindE H
        refine WC.cut (fun ρ_ w_ => ∃ (o_ : Tags), Fm o0 w0 o_ w_ [] ∧ ρ_ 0 = encS a0 ∧ ρ_ 1 = .int .i64 a1 ∧ ρ_ 4 = .int .i64 0 ∧ ρ_ 5 = .int .i64 0 ∧ ρ_ 6 = .int .i64 x108 ∧ ρ_ 7 = .int .i64 x109 ∧ ρ_ 41 = .bool z120) ?case121 ?_
        case case121 =>
          rintro ρ124 w122 ⟨o123, HF, s0_118, s1_118, s4_118, s5_118, s6_118, s7_118, s41_119⟩
          rcases condE H with ⟨c125, H⟩ | ⟨c125, H⟩
          ·
            refine WC.cond_t ((show _ = Value.bool z120 from s41_119).trans (congrArg Value.bool c125)) ?_
            refine WC.seq ?_
            refine WC.region ?_
            refine WL.ex rfl (ex_assign (v := .int .i64 0) rfl) ?_
            refine WL.ex rfl (ex_assign (v := .int .i64 2) rfl) ?_
            refine WL.nil ?_
            refine WC.ret ?_
            obtain rfl := Option.some.inj H
            replace H := Ho113
            dsimp only at H
            obtain rfl := Option.some.inj H
            exact ⟨_, (.tmp (.int .i64 0 : Value) rfl (.tmp (.int .i64 2 : Value) rfl .nil)), _, rfl, HF.out⟩
          ·
            refine WC.cond_f ((show _ = Value.bool z120 from s41_119).trans (congrArg Value.bool c125)) ?_
            refine WC.skip ?_
            refine WC.region ?_
            refine WL.ex rfl (ex_move (v := .int .i64 x108) s6_118) ?_
            refine WL.ex rfl (ex_bin (a := .int .i64 10) (b := .int .i64 x108) (v := .int .i64 (wrap64 (10 * x108))) rfl rfl bin_mul64) ?_
            refine WL.ex rfl (ex_move (v := encS a0) s0_118) ?_
            refine WL.ex rfl (ex_move (v := .int .i64 x109) s7_118) ?_
            obtain ⟨x126, hx126, H⟩ := bindE H
            refine WL.ex rfl (ex_index_str (i := x109) rfl rfl Tryd.underlying9 (ix_some hx126).1 (ix_some hx126).2.2) ?_
            refine WL.ex rfl (ex_bin (a := enc8 x126) (b := enc8 (48 : UInt8)) (v := enc8 (x126 - (48 : UInt8))) rfl rfl bin_sub_u8) ?_
            refine WL.ex rfl (ex_conv_small (a := ((x126 - (48 : UInt8)).toNat : Int)) rfl Tryd.underlying5 Tryd.underlying3 (small8 (x126 - (48 : UInt8)))) ?_
            refine WL.ex rfl (ex_bin (a := .int .i64 (wrap64 (10 * x108))) (b := .int .i64 ((x126 - (48 : UInt8)).toNat : Int)) (v := .int .i64 (wrap64 ((wrap64 (10 * x108)) + ((x126 - (48 : UInt8)).toNat : Int)))) rfl rfl bin_add64) ?_
            refine WL.ex rfl (ex_assign (v := .int .i64 (wrap64 ((wrap64 (10 * x108)) + ((x126 - (48 : UInt8)).toNat : Int)))) rfl) ?_
            refine WL.nil ?_
            refine WC.region ?_
            refine WL.ex rfl (ex_move (v := .int .i64 x109) s7_118) ?_
            refine WL.ex rfl (ex_bin (a := .int .i64 x109) (b := .int .i64 1) (v := .int .i64 (wrap64 (x109 + 1))) rfl rfl bin_add64) ?_
            refine WL.ex rfl (ex_assign (v := .int .i64 (wrap64 (x109 + 1))) rfl) ?_
            refine WL.nil ?_
            exact ⟨k114, Nat.lt_succ_self _, ⟨_, wrap64 ((wrap64 (10 * x108)) + ((x126 - (48 : UInt8)).toNat : Int)), wrap64 (x109 + 1), HF, s0_118, s1_118, s4_118, s5_118, rfl, rfl, H⟩⟩
        have Ho127 := H
        replace H := hz120
        refine WC.region ?_
        refine WL.ex rfl (ex_move (v := encS a0) s0_107) ?_
        refine WL.ex rfl (ex_move (v := .int .i64 x109) s7_109) ?_
        obtain ⟨x128, hx128, H⟩ := bindE H
        refine WL.ex rfl (ex_index_str (i := x109) rfl rfl Tryd.underlying9 (ix_some hx128).1 (ix_some hx128).2.2) ?_
        refine WL.ex rfl (ex_bin (a := enc8 x128) (b := enc8 (48 : UInt8)) (v := .bool (decide (x128 < (48 : UInt8)))) rfl rfl bin_lss_u8) ?_
        refine WL.ex rfl (ex_move (v := .bool (decide (x128 < (48 : UInt8)))) rfl) ?_
        rcases condE H with ⟨c129, H⟩ | ⟨c129, H⟩
        ·
          refine WL.guardNo rfl rfl rfl ((show _ = Value.bool (decide (x128 < (48 : UInt8))) from rfl).trans (congrArg Value.bool c129)) ?_
          refine WL.guardNo rfl rfl rfl ((show _ = Value.bool (decide (x128 < (48 : UInt8))) from rfl).trans (congrArg Value.bool c129)) ?_
          refine WL.guardNo rfl rfl rfl ((show _ = Value.bool (decide (x128 < (48 : UInt8))) from rfl).trans (congrArg Value.bool c129)) ?_
          refine WL.guardNo rfl rfl rfl ((show _ = Value.bool (decide (x128 < (48 : UInt8))) from rfl).trans (congrArg Value.bool c129)) ?_
          refine WL.ex rfl (ex_pick_t (v := .bool true) ((show _ = Value.bool (decide (x128 < (48 : UInt8))) from rfl).trans (congrArg Value.bool c129)) rfl) ?_
          refine WL.nil ?_
          obtain rfl := Option.some.inj H
          exact ⟨_, HF, s0_107, s1_107, s4_107, s5_107, s6_108, s7_109, rfl⟩
        ·
          refine WL.guardYes rfl rfl rfl ((show _ = Value.bool (decide (x128 < (48 : UInt8))) from rfl).trans (congrArg Value.bool c129)) ?_
          refine OW.ex rfl (ex_move (v := encS a0) s0_107) ?_
          refine WL.guardYes rfl rfl rfl ((show _ = Value.bool (decide (x128 < (48 : UInt8))) from rfl).trans (congrArg Value.bool c129)) ?_
          refine OW.ex rfl (ex_move (v := .int .i64 x109) s7_109) ?_
          refine WL.guardYes rfl rfl rfl ((show _ = Value.bool (decide (x128 < (48 : UInt8))) from rfl).trans (congrArg Value.bool c129)) ?_
          obtain ⟨x130, hx130, H⟩ := bindE H
          refine OW.ex rfl (ex_index_str (i := x109) rfl rfl Tryd.underlying9 (ix_some hx130).1 (ix_some hx130).2.2) ?_
          refine WL.guardYes rfl rfl rfl ((show _ = Value.bool (decide (x128 < (48 : UInt8))) from rfl).trans (congrArg Value.bool c129)) ?_
          refine OW.ex rfl (ex_bin (a := enc8 x130) (b := enc8 (57 : UInt8)) (v := .bool (decide ((57 : UInt8) < x130))) rfl rfl bin_gtr_u8) ?_
          refine WL.ex rfl (ex_pick_f (v := .bool (decide ((57 : UInt8) < x130))) ((show _ = Value.bool (decide (x128 < (48 : UInt8))) from rfl).trans (congrArg Value.bool c129)) rfl) ?_
          refine WL.nil ?_
          obtain rfl := Option.some.inj H
          exact ⟨_, HF, s0_107, s1_107, s4_107, s5_107, s6_108, s7_109, rfl⟩
      ·
        refine WC.cond_f ((show _ = Value.bool (decide (x109 < (a0.length : Int))) from rfl).trans (congrArg Value.bool c118)) ?_
        refine WC.exit ?_
        obtain rfl := Option.some.inj H
        exact ⟨_, x108, HF, s1_107, s4_107, s5_107, s6_108, rfl⟩
  have Ho135 := H
  replace H := hz102
  refine WC.region ?_
  refine WL.ex rfl (ex_move (v := encS a0) rfl) ?_
  refine WL.ex rfl (ex_len_str (s := a0) rfl Tryd.underlying9) ?_
  refine WL.ex rfl (ex_bin (a := .int .i64 (a0.length : Int)) (b := .int .i64 1) (v := .bool (decide ((a0.length : Int) < 1))) rfl rfl bin_lss) ?_
  refine WL.ex rfl (ex_move (v := .bool (decide ((a0.length : Int) < 1))) rfl) ?_
  rcases condE H with ⟨c136, H⟩ | ⟨c136, H⟩
  ·
    refine WL.guardNo rfl rfl rfl ((show _ = Value.bool (decide ((a0.length : Int) < 1)) from rfl).trans (congrArg Value.bool c136)) ?_
    refine WL.guardNo rfl rfl rfl ((show _ = Value.bool (decide ((a0.length : Int) < 1)) from rfl).trans (congrArg Value.bool c136)) ?_
    refine WL.guardNo rfl rfl rfl ((show _ = Value.bool (decide ((a0.length : Int) < 1)) from rfl).trans (congrArg Value.bool c136)) ?_
    refine WL.ex rfl (ex_pick_t (v := .bool true) ((show _ = Value.bool (decide ((a0.length : Int) < 1)) from rfl).trans (congrArg Value.bool c136)) rfl) ?_
    refine WL.ex rfl (ex_move (v := .bool true) rfl) ?_
    refine WL.guardNo rfl rfl rfl rfl ?_
    refine WL.guardNo rfl rfl rfl rfl ?_
    refine WL.guardNo rfl rfl rfl rfl ?_
    refine WL.guardNo rfl rfl rfl rfl ?_
    refine WL.guardUn rfl rfl rfl rfl ?_
    refine WL.guardUn rfl rfl rfl rfl ?_
    refine WL.guardUn rfl rfl rfl rfl ?_
    refine WL.guardNo rfl rfl rfl rfl ?_
    refine WL.ex rfl (ex_pick_t (v := .bool true) rfl rfl) ?_
    refine WL.nil ?_
    obtain rfl := Option.some.inj H
    exact ⟨_, HF, rfl, rfl, rfl, rfl, rfl⟩
  ·
    refine WL.guardYes rfl rfl rfl ((show _ = Value.bool (decide ((a0.length : Int) < 1)) from rfl).trans (congrArg Value.bool c136)) ?_
    refine OW.ex rfl (ex_move (v := encS a0) rfl) ?_
    refine WL.guardYes rfl rfl rfl ((show _ = Value.bool (decide ((a0.length : Int) < 1)) from rfl).trans (congrArg Value.bool c136)) ?_
    refine OW.ex rfl (ex_len_str (s := a0) rfl Tryd.underlying9) ?_
    refine WL.guardYes rfl rfl rfl ((show _ = Value.bool (decide ((a0.length : Int) < 1)) from rfl).trans (congrArg Value.bool c136)) ?_
    refine OW.ex rfl (ex_bin (a := .int .i64 (a0.length : Int)) (b := .int .i64 10) (v := .bool (decide ((a0.length : Int) > 10))) rfl rfl bin_gtr) ?_
    refine WL.ex rfl (ex_pick_f (v := .bool (decide ((a0.length : Int) > 10))) ((show _ = Value.bool (decide ((a0.length : Int) < 1)) from rfl).trans (congrArg Value.bool c136)) rfl) ?_
    refine WL.ex rfl (ex_move (v := .bool (decide ((a0.length : Int) > 10))) rfl) ?_
    rcases condE H with ⟨c137, H⟩ | ⟨c137, H⟩
    ·
      refine WL.guardNo rfl rfl rfl ((show _ = Value.bool (decide ((a0.length : Int) > 10)) from rfl).trans (congrArg Value.bool c137)) ?_
      refine WL.guardNo rfl rfl rfl ((show _ = Value.bool (decide ((a0.length : Int) > 10)) from rfl).trans (congrArg Value.bool c137)) ?_
      refine WL.guardNo rfl rfl rfl ((show _ = Value.bool (decide ((a0.length : Int) > 10)) from rfl).trans (congrArg Value.bool c137)) ?_
      refine WL.guardNo rfl rfl rfl ((show _ = Value.bool (decide ((a0.length : Int) > 10)) from rfl).trans (congrArg Value.bool c137)) ?_
      refine WL.guardUn rfl rfl rfl rfl ?_
      refine WL.guardUn rfl rfl rfl rfl ?_
      refine WL.guardUn rfl rfl rfl rfl ?_
      refine WL.guardNo rfl rfl rfl ((show _ = Value.bool (decide ((a0.length : Int) > 10)) from rfl).trans (congrArg Value.bool c137)) ?_
      refine WL.ex rfl (ex_pick_t (v := .bool true) ((show _ = Value.bool (decide ((a0.length : Int) > 10)) from rfl).trans (congrArg Value.bool c137)) rfl) ?_
      refine WL.nil ?_
      obtain rfl := Option.some.inj H
      exact ⟨_, HF, rfl, rfl, rfl, rfl, rfl⟩
    ·
      refine WL.guardYes rfl rfl rfl ((show _ = Value.bool (decide ((a0.length : Int) > 10)) from rfl).trans (congrArg Value.bool c137)) ?_
      refine OW.ex rfl (ex_move (v := encS a0) rfl) ?_
      refine WL.guardYes rfl rfl rfl ((show _ = Value.bool (decide ((a0.length : Int) > 10)) from rfl).trans (congrArg Value.bool c137)) ?_
      refine OW.ex rfl (ex_len_str (s := a0) rfl Tryd.underlying9) ?_
      refine WL.guardYes rfl rfl rfl ((show _ = Value.bool (decide ((a0.length : Int) > 10)) from rfl).trans (congrArg Value.bool c137)) ?_
      refine OW.ex rfl (ex_bin (a := .int .i64 (a0.length : Int)) (b := .int .i64 1) (v := .bool (decide ((a0.length : Int) > 1))) rfl rfl bin_gtr) ?_
      refine WL.guardYes rfl rfl rfl ((show _ = Value.bool (decide ((a0.length : Int) > 10)) from rfl).trans (congrArg Value.bool c137)) ?_
      refine OW.ex rfl (ex_move (v := .bool (decide ((a0.length : Int) > 1))) rfl) ?_
      rcases condE H with ⟨c138, H⟩ | ⟨c138, H⟩
      ·
        refine WL.guardYes rfl rfl rfl ((show _ = Value.bool (decide ((a0.length : Int) > 1)) from rfl).trans (congrArg Value.bool c138)) ?_
        refine OW.ex rfl (ex_move (v := encS a0) rfl) ?_
        refine WL.guardYes rfl rfl rfl ((show _ = Value.bool (decide ((a0.length : Int) > 1)) from rfl).trans (congrArg Value.bool c138)) ?_
        obtain ⟨x139, hx139, H⟩ := bindE H
        refine OW.ex rfl (ex_index_str (i := (0 : Int)) rfl rfl Tryd.underlying9 (ix_some hx139).1 (ix_some hx139).2.2) ?_
        refine WL.guardYes rfl rfl rfl ((show _ = Value.bool (decide ((a0.length : Int) > 1)) from rfl).trans (congrArg Value.bool c138)) ?_
        refine OW.ex rfl (ex_bin (a := enc8 x139) (b := enc8 (48 : UInt8)) (v := .bool (x139 == (48 : UInt8))) rfl rfl bin_eql_u8) ?_
        refine WL.guardYes rfl rfl rfl ((show _ = Value.bool (decide ((a0.length : Int) > 10)) from rfl).trans (congrArg Value.bool c137)) ?_
        refine OW.ex rfl (ex_pick_t (v := .bool (x139 == (48 : UInt8))) ((show _ = Value.bool (decide ((a0.length : Int) > 1)) from rfl).trans (congrArg Value.bool c138)) rfl) ?_
        refine WL.ex rfl (ex_pick_f (v := .bool (x139 == (48 : UInt8))) ((show _ = Value.bool (decide ((a0.length : Int) > 10)) from rfl).trans (congrArg Value.bool c137)) rfl) ?_
        refine WL.nil ?_
        obtain rfl := Option.some.inj H
        exact ⟨_, HF, rfl, rfl, rfl, rfl, rfl⟩
      ·
        refine WL.guardNo rfl rfl rfl ((show _ = Value.bool (decide ((a0.length : Int) > 1)) from rfl).trans (congrArg Value.bool c138)) ?_
        refine WL.guardNo rfl rfl rfl ((show _ = Value.bool (decide ((a0.length : Int) > 1)) from rfl).trans (congrArg Value.bool c138)) ?_
        refine WL.guardNo rfl rfl rfl ((show _ = Value.bool (decide ((a0.length : Int) > 1)) from rfl).trans (congrArg Value.bool c138)) ?_
        refine WL.guardYes rfl rfl rfl ((show _ = Value.bool (decide ((a0.length : Int) > 10)) from rfl).trans (congrArg Value.bool c137)) ?_
        refine OW.ex rfl (ex_pick_f (v := .bool false) ((show _ = Value.bool (decide ((a0.length : Int) > 1)) from rfl).trans (congrArg Value.bool c138)) rfl) ?_
        refine WL.ex rfl (ex_pick_f (v := .bool false) ((show _ = Value.bool (decide ((a0.length : Int) > 10)) from rfl).trans (congrArg Value.bool c137)) rfl) ?_
        refine WL.nil ?_
        obtain rfl := Option.some.inj H
        exact ⟨_, HF, rfl, rfl, rfl, rfl, rfl⟩

/-! ### dictumref05_With -/
set_option maxRecDepth 100000 in
theorem dictumref05_With.calls (o0 : Tags) (w0 : World) (a0 : (List UInt64)) (a1 : Int) (r : (List UInt64)) (hO : ∀ b, b < w0.heap.size → o0 b < 10) (hla0 : a0.length = 16) (H : dictumref05_With.f a0 a1 = some r) :
    Calls Tryd.prog 44 [.agg (List.map enc64 a0).toArray, .int .i64 a1].toArray w0 fun e_ w_ => ∃ (o_ : Tags), e_ = .returned (one [.agg (List.map enc64 r).toArray]) ∧ Step o0 w0 o_ w_ [] ∧ r.length = 16 := by
  have HF := Fm.refl hO []
  unfold dictumref05_With.f at H
  refine SX.calls [.agg (List.map enc64 a0).toArray, .int .i64 a1] Tryd.func44 rfl rfl ?_
  rw [Tryd.ntmps44]
  refine WC.seq ?_
  refine WC.region ?_
  refine WL.op rfl ?_
  refine OW.box' (List.map enc64 a0) 10 HF rfl ((congrArg Value.cells (show ev _ _ = (.agg (List.map enc64 a0).toArray : Value) from rfl)).trans rfl) ?_
  intro o102 w103 b101 s104 hB105
  replace HF := HF.step s104 rfl
  refine WL.op rfl ?_
  refine OW.alloc' (List.map enc64 (List.replicate 16 ((0 : UInt64)))) 11 HF rfl zr24 rfl ?_
  intro o107 w108 b106 s109 hB110
  replace hB105 := hB105.step s109 rfl
  replace HF := HF.step s109 rfl
  refine WL.nil ?_
  refine WC.seq ?_
  refine WC.region ?_
  refine WL.ex rfl (ex_move (v := .int .i64 a1) rfl) ?_
  refine WL.ex rfl (ex_bin (a := .int .i64 a1) (b := .int .i64 64) (v := .int .i64 (wrap64 (a1.tdiv 64))) rfl rfl (bin_quo64 (by decide))) ?_
  refine WL.ex rfl (ex_move (v := .int .i64 a1) rfl) ?_
  refine WL.ex rfl (ex_bin (a := .int .i64 a1) (b := .int .i64 64) (v := .int .i64 (wrap64 (a1.tdiv 64))) rfl rfl (bin_quo64 (by decide))) ?_
  obtain ⟨x111, hx111, H⟩ := bindE H
  refine WL.ex rfl (ex_indexArrB (i := (wrap64 (a1.tdiv 64))) (xs := a0) rfl rfl Tryd.underlying24 sz22 hla0 hx111) ?_
  refine WL.ex rfl (ex_loadAE (enc := enc64) rfl Tryd.underlying22 rfl hB105 hx111) ?_
  refine WL.ex rfl (ex_move (v := .int .i64 a1) rfl) ?_
  refine WL.ex rfl (ex_bin (a := .int .i64 a1) (b := .int .i64 64) (v := .int .i64 (a1.tmod 64)) rfl rfl (bin_rem64 (by decide))) ?_
  refine WL.ex rfl (ex_conv_u64 (k := .i64) (a := (a1.tmod 64)) rfl Tryd.underlying3 Tryd.underlying70) ?_
  refine WL.ex rfl (ex_bin (a := enc64 (1 : UInt64)) (b := enc64 (ofI64 (a1.tmod 64))) (v := enc64 (shl64 (1 : UInt64) ((ofI64 (a1.tmod 64)).toNat))) rfl rfl (bin_shl_u64n (n := (ofI64 (a1.tmod 64)).toNat))) ?_
  refine WL.ex rfl (ex_bin (a := enc64 x111) (b := enc64 (shl64 (1 : UInt64) ((ofI64 (a1.tmod 64)).toNat))) (v := enc64 (x111 ||| (shl64 (1 : UInt64) ((ofI64 (a1.tmod 64)).toNat)))) rfl rfl bin_or_u64) ?_
  obtain ⟨x112, hx112, H⟩ := bindE H
  refine WL.ex rfl (ex_indexArrB (i := (wrap64 (a1.tdiv 64))) (xs := a0) rfl rfl Tryd.underlying24 sz22 hla0 hx112) ?_
  refine WL.op rfl ?_
  refine OW.storeAE (enc := enc64) (c := (x111 ||| (shl64 (1 : UInt64) ((ofI64 (a1.tmod 64)).toNat)))) rfl rfl (cells64) (fun _ => rfl) sz22 hB105 hx112 ?_
  intro w113 s114 hB115
  replace hB110 := hB110.step s114 rfl
  replace HF := HF.step s114 rfl
  have hl116 := len_set (i := (wrap64 (a1.tdiv 64)).toNat) (a := (x111 ||| (shl64 (1 : UInt64) ((ofI64 (a1.tmod 64)).toNat)))) hla0
  refine WL.nil ?_
  refine WC.seq ?_
  refine WC.region ?_
  refine WL.ex rfl (ex_loadAV (xs := (a0.set (wrap64 (a1.tdiv 64)).toNat (x111 ||| (shl64 (1 : UInt64) ((ofI64 (a1.tmod 64)).toNat))))) rfl Tryd.underlying24 sz24 hl116 hB115) ?_
  refine WL.op rfl ?_
  refine OW.storeAV (ys := (a0.set (wrap64 (a1.tdiv 64)).toNat (x111 ||| (shl64 (1 : UInt64) ((ofI64 (a1.tmod 64)).toNat))))) rfl rfl (fun _ => rfl) sz24 rfl hl116 hB110 ?_
  intro w117 s118 hB119
  replace hB115 := hB115.step s118 rfl
  replace HF := HF.step s118 rfl
  refine WL.nil ?_
  refine WC.ret ?_
  obtain rfl := Option.some.inj H
  exact ⟨_, (.cell (.agg (List.map enc64 (a0.set (wrap64 (a1.tdiv 64)).toNat (x111 ||| (shl64 (1 : UInt64) ((ofI64 (a1.tmod 64)).toNat))))).toArray : Value) rfl (run_loadAV Tryd.underlying24 sz24 hl116 hB119) .nil), _, rfl, HF.out, hl116⟩

/-! ### dictumref05_Has -/
set_option maxRecDepth 100000 in
theorem dictumref05_Has.calls (o0 : Tags) (w0 : World) (a0 : (List UInt64)) (a1 : Int) (r : Bool) (hO : ∀ b, b < w0.heap.size → o0 b < 10) (hla0 : a0.length = 16) (H : dictumref05_Has.f a0 a1 = some r) :
    Calls Tryd.prog 33 [.agg (List.map enc64 a0).toArray, .int .i64 a1].toArray w0 fun e_ w_ => ∃ (o_ : Tags), e_ = .returned (one [.bool r]) ∧ Step o0 w0 o_ w_ [] := by
  have HF := Fm.refl hO []
  unfold dictumref05_Has.f at H
  refine SX.calls [.agg (List.map enc64 a0).toArray, .int .i64 a1] Tryd.func33 rfl rfl ?_
  rw [Tryd.ntmps33]
  refine WC.seq ?_
  refine WC.region ?_
  refine WL.op rfl ?_
  refine OW.box' (List.map enc64 a0) 10 HF rfl ((congrArg Value.cells (show ev _ _ = (.agg (List.map enc64 a0).toArray : Value) from rfl)).trans rfl) ?_
  intro o102 w103 b101 s104 hB105
  replace HF := HF.step s104 rfl
  refine WL.ex rfl (ex_assign (v := .bool false) rfl) ?_
  refine WL.nil ?_
  refine WC.seq ?_
  refine WC.region ?_
  refine WL.ex rfl (ex_move (v := .int .i64 a1) rfl) ?_
  refine WL.ex rfl (ex_bin (a := .int .i64 a1) (b := .int .i64 0) (v := .bool (decide (a1 ≥ 0))) rfl rfl bin_geq) ?_
  refine WL.ex rfl (ex_move (v := .bool (decide (a1 ≥ 0))) rfl) ?_
  rcases condE H with ⟨c106, H⟩ | ⟨c106, H⟩
  ·
    refine WL.guardYes rfl rfl rfl ((show _ = Value.bool (decide (a1 ≥ 0)) from rfl).trans (congrArg Value.bool c106)) ?_
    refine OW.ex rfl (ex_move (v := .int .i64 a1) rfl) ?_
    refine WL.guardYes rfl rfl rfl ((show _ = Value.bool (decide (a1 ≥ 0)) from rfl).trans (congrArg Value.bool c106)) ?_
    refine OW.ex rfl (ex_bin (a := .int .i64 a1) (b := .int .i64 1024) (v := .bool (decide (a1 < 1024))) rfl rfl bin_lss) ?_
    refine WL.ex rfl (ex_pick_t (v := .bool (decide (a1 < 1024))) ((show _ = Value.bool (decide (a1 ≥ 0)) from rfl).trans (congrArg Value.bool c106)) rfl) ?_
    refine WL.ex rfl (ex_move (v := .bool (decide (a1 < 1024))) rfl) ?_
    rcases condE H with ⟨c107, H⟩ | ⟨c107, H⟩
    ·
      refine WL.guardYes rfl rfl rfl ((show _ = Value.bool (decide (a1 < 1024)) from rfl).trans (congrArg Value.bool c107)) ?_
      refine OW.ex rfl (ex_move (v := .int .i64 a1) rfl) ?_
      refine WL.guardYes rfl rfl rfl ((show _ = Value.bool (decide (a1 < 1024)) from rfl).trans (congrArg Value.bool c107)) ?_
      refine OW.ex rfl (ex_bin (a := .int .i64 a1) (b := .int .i64 64) (v := .int .i64 (wrap64 (a1.tdiv 64))) rfl rfl (bin_quo64 (by decide))) ?_
      refine WL.guardYes rfl rfl rfl ((show _ = Value.bool (decide (a1 < 1024)) from rfl).trans (congrArg Value.bool c107)) ?_
      obtain ⟨x108, hx108, H⟩ := bindE H
      refine OW.ex rfl (ex_indexArrB (i := (wrap64 (a1.tdiv 64))) (xs := a0) rfl rfl Tryd.underlying24 sz22 hla0 hx108) ?_
      refine WL.guardYes rfl rfl rfl ((show _ = Value.bool (decide (a1 < 1024)) from rfl).trans (congrArg Value.bool c107)) ?_
      refine OW.ex rfl (ex_loadAE (enc := enc64) rfl Tryd.underlying22 rfl hB105 hx108) ?_
      refine WL.guardYes rfl rfl rfl ((show _ = Value.bool (decide (a1 < 1024)) from rfl).trans (congrArg Value.bool c107)) ?_
      refine OW.ex rfl (ex_move (v := .int .i64 a1) rfl) ?_
      refine WL.guardYes rfl rfl rfl ((show _ = Value.bool (decide (a1 < 1024)) from rfl).trans (congrArg Value.bool c107)) ?_
      refine OW.ex rfl (ex_bin (a := .int .i64 a1) (b := .int .i64 64) (v := .int .i64 (a1.tmod 64)) rfl rfl (bin_rem64 (by decide))) ?_
      refine WL.guardYes rfl rfl rfl ((show _ = Value.bool (decide (a1 < 1024)) from rfl).trans (congrArg Value.bool c107)) ?_
      refine OW.ex rfl (ex_conv_u64 (k := .i64) (a := (a1.tmod 64)) rfl Tryd.underlying3 Tryd.underlying70) ?_
      refine WL.guardYes rfl rfl rfl ((show _ = Value.bool (decide (a1 < 1024)) from rfl).trans (congrArg Value.bool c107)) ?_
      refine OW.ex rfl (ex_bin (a := enc64 x108) (b := enc64 (ofI64 (a1.tmod 64))) (v := enc64 (shr64 x108 ((ofI64 (a1.tmod 64)).toNat))) rfl rfl (bin_shr_u64n (n := (ofI64 (a1.tmod 64)).toNat))) ?_
      refine WL.guardYes rfl rfl rfl ((show _ = Value.bool (decide (a1 < 1024)) from rfl).trans (congrArg Value.bool c107)) ?_
      refine OW.ex rfl (ex_bin (a := enc64 (shr64 x108 ((ofI64 (a1.tmod 64)).toNat))) (b := enc64 (1 : UInt64)) (v := enc64 ((shr64 x108 ((ofI64 (a1.tmod 64)).toNat)) &&& (1 : UInt64))) rfl rfl bin_and_u64) ?_
      refine WL.guardYes rfl rfl rfl ((show _ = Value.bool (decide (a1 < 1024)) from rfl).trans (congrArg Value.bool c107)) ?_
      refine OW.ex rfl (ex_bin (a := enc64 ((shr64 x108 ((ofI64 (a1.tmod 64)).toNat)) &&& (1 : UInt64))) (b := enc64 (1 : UInt64)) (v := .bool (((shr64 x108 ((ofI64 (a1.tmod 64)).toNat)) &&& (1 : UInt64)) == (1 : UInt64))) rfl rfl bin_eql_u64) ?_
      refine WL.ex rfl (ex_pick_t (v := .bool (((shr64 x108 ((ofI64 (a1.tmod 64)).toNat)) &&& (1 : UInt64)) == (1 : UInt64))) ((show _ = Value.bool (decide (a1 < 1024)) from rfl).trans (congrArg Value.bool c107)) rfl) ?_
      refine WL.ex rfl (ex_assign (v := .bool (((shr64 x108 ((ofI64 (a1.tmod 64)).toNat)) &&& (1 : UInt64)) == (1 : UInt64))) rfl) ?_
      refine WL.nil ?_
      refine WC.ret ?_
      obtain rfl := Option.some.inj H
      exact ⟨_, (.tmp (.bool (((shr64 x108 ((ofI64 (a1.tmod 64)).toNat)) &&& (1 : UInt64)) == (1 : UInt64)) : Value) rfl .nil), _, rfl, HF.out⟩
    ·
      refine WL.guardNo rfl rfl rfl ((show _ = Value.bool (decide (a1 < 1024)) from rfl).trans (congrArg Value.bool c107)) ?_
      refine WL.guardNo rfl rfl rfl ((show _ = Value.bool (decide (a1 < 1024)) from rfl).trans (congrArg Value.bool c107)) ?_
      refine WL.guardNo rfl rfl rfl ((show _ = Value.bool (decide (a1 < 1024)) from rfl).trans (congrArg Value.bool c107)) ?_
      refine WL.guardNo rfl rfl rfl ((show _ = Value.bool (decide (a1 < 1024)) from rfl).trans (congrArg Value.bool c107)) ?_
      refine WL.guardNo rfl rfl rfl ((show _ = Value.bool (decide (a1 < 1024)) from rfl).trans (congrArg Value.bool c107)) ?_
      refine WL.guardNo rfl rfl rfl ((show _ = Value.bool (decide (a1 < 1024)) from rfl).trans (congrArg Value.bool c107)) ?_
      refine WL.guardNo rfl rfl rfl ((show _ = Value.bool (decide (a1 < 1024)) from rfl).trans (congrArg Value.bool c107)) ?_
      refine WL.guardNo rfl rfl rfl ((show _ = Value.bool (decide (a1 < 1024)) from rfl).trans (congrArg Value.bool c107)) ?_
      refine WL.guardNo rfl rfl rfl ((show _ = Value.bool (decide (a1 < 1024)) from rfl).trans (congrArg Value.bool c107)) ?_
      refine WL.guardNo rfl rfl rfl ((show _ = Value.bool (decide (a1 < 1024)) from rfl).trans (congrArg Value.bool c107)) ?_
      refine WL.ex rfl (ex_pick_f (v := .bool false) ((show _ = Value.bool (decide (a1 < 1024)) from rfl).trans (congrArg Value.bool c107)) rfl) ?_
      refine WL.ex rfl (ex_assign (v := .bool false) rfl) ?_
      refine WL.nil ?_
      refine WC.ret ?_
      obtain rfl := Option.some.inj H
      exact ⟨_, (.tmp (.bool false : Value) rfl .nil), _, rfl, HF.out⟩
  ·
    refine WL.guardNo rfl rfl rfl ((show _ = Value.bool (decide (a1 ≥ 0)) from rfl).trans (congrArg Value.bool c106)) ?_
    refine WL.guardNo rfl rfl rfl ((show _ = Value.bool (decide (a1 ≥ 0)) from rfl).trans (congrArg Value.bool c106)) ?_
    refine WL.ex rfl (ex_pick_f (v := .bool false) ((show _ = Value.bool (decide (a1 ≥ 0)) from rfl).trans (congrArg Value.bool c106)) rfl) ?_
    refine WL.ex rfl (ex_move (v := .bool false) rfl) ?_
    refine WL.guardNo rfl rfl rfl rfl ?_
    refine WL.guardNo rfl rfl rfl rfl ?_
    refine WL.guardNo rfl rfl rfl rfl ?_
    refine WL.guardNo rfl rfl rfl rfl ?_
    refine WL.guardNo rfl rfl rfl rfl ?_
    refine WL.guardNo rfl rfl rfl rfl ?_
    refine WL.guardNo rfl rfl rfl rfl ?_
    refine WL.guardNo rfl rfl rfl rfl ?_
    refine WL.guardNo rfl rfl rfl rfl ?_
    refine WL.guardNo rfl rfl rfl rfl ?_
    refine WL.ex rfl (ex_pick_f (v := .bool false) rfl rfl) ?_
    refine WL.ex rfl (ex_assign (v := .bool false) rfl) ?_
    refine WL.nil ?_
    refine WC.ret ?_
    obtain rfl := Option.some.inj H
    exact ⟨_, (.tmp (.bool false : Value) rfl .nil), _, rfl, HF.out⟩

/-! ### dictumref01_Dec -/
set_option maxRecDepth 100000 in
theorem dictumref01_Dec.calls (k : Nat) (o0 : Tags) (w0 : World) (a0 : Int) (r : (List UInt8)) (hO : ∀ b, b < w0.heap.size → o0 b < 10) (H : dictumref01_Dec.f k a0 = some r) :
    Calls Tryd.prog 45 [.int .i64 a0].toArray w0 fun e_ w_ => ∃ (o_ : Tags), e_ = .returned (one [encS r]) ∧ Step o0 w0 o_ w_ [] := by
  have HF := Fm.refl hO []
  unfold dictumref01_Dec.f at H
  refine SX.calls [.int .i64 a0] Tryd.func45 rfl rfl ?_
  rw [Tryd.ntmps45]
  refine WC.seq ?_
  refine WC.region ?_
  refine WL.ex rfl (ex_assign (v := encS ([] : List UInt8)) rfl) ?_
  refine WL.nil ?_
  refine WC.seq ?_
  refine WC.region ?_
  refine WL.ex rfl (ex_move (v := .int .i64 a0) rfl) ?_
  refine WL.ex rfl (ex_conv_u64 (k := .i64) (a := a0) rfl Tryd.underlying3 Tryd.underlying22) ?_
  refine WL.ex rfl (ex_assign (v := enc64 (ofI64 a0)) rfl) ?_
  refine WL.nil ?_
  refine WC.seq ?_
  refine WC.region ?_
  refine WL.ex rfl (ex_assign (v := encS ([] : List UInt8)) rfl) ?_
  refine WL.nil ?_
  obtain ⟨z103, hz103, H⟩ := bindE H
  obtain ⟨x101, x102⟩ := z103
  refine WC.cut (fun ρ_ w_ => ∃ (o_ : Tags), Fm o0 w0 o_ w_ [] ∧ ρ_ 2 = encS ([] : List UInt8) ∧ ρ_ 3 = enc64 x101 ∧ ρ_ 4 = encS x102) ?case104 ?_
  case case104 =>
    rintro ρ107 w105 ⟨o106, HF, s2_100, s3_101, s4_102⟩
    refine WC.seq ?_
    refine WC.region ?_
    refine WL.ex rfl (ex_assign (v := encS ([] : List UInt8)) rfl) ?_
    refine WL.nil ?_
    refine WC.seq ?_
    obtain ⟨z111, hz111, H⟩ := bindE H
    refine WC.for (fun k_ ρ_ w_ => ∃ (o_ : Tags) (x108 : UInt64) (x109 : List UInt8), Fm o0 w0 o_ w_ [] ∧ ρ_ 2 = encS ([] : List UInt8) ∧ ρ_ 3 = enc64 x108 ∧ ρ_ 4 = encS x102 ∧ ρ_ 5 = encS x109 ∧ dictumref01_Dec.l1 k k_ x108 x109 = some z111) k (fun ρ_ w_ => ∃ (o_ : Tags), Fm o0 w0 o_ w_ [] ∧ ρ_ 2 = encS ([] : List UInt8) ∧ ρ_ 4 = encS x102 ∧ ρ_ 5 = encS z111) ⟨_, x101, ([] : List UInt8), HF, s2_100, s3_101, s4_102, rfl, hz111⟩ ?case112 ?_
    case case112 =>
      rintro ρ138 w139 ⟨o140, HF, s2_109, s4_109, s5_110⟩
      refine WC.seq ?_
      refine WC.region ?_
      refine WL.ex rfl (ex_move (v := encS x102) s4_109) ?_
      refine WL.ex rfl (ex_move (v := encS z111) s5_110) ?_
      obtain ⟨u141, hu141, H⟩ := bindE H
      refine WL.ex rfl (ex_bin (a := encS x102) (b := encS z111) (v := encS (x102 ++ z111)) rfl rfl (bin_add_str (of_decide_eq_true (chk_true hu141)))) ?_
      refine WL.ex rfl (ex_assign (v := encS (x102 ++ z111)) rfl) ?_
      refine WL.nil ?_
      refine WC.ret ?_
      obtain rfl := Option.some.inj H
      exact ⟨_, (.tmp (encS (x102 ++ z111) : Value) rfl .nil), _, rfl, HF.out⟩
    have Ho113 := H
    rintro k114 ρ115 w116 ⟨o117, x108, x109, HF, s2_107, s3_108, s4_108, s5_109, H⟩
    cases k114 with
    | zero => cases H
    | succ k114 =>
    rw [dictumref01_Dec.l1.eq_2] at H
    refine WC.seq ?_
    obtain ⟨z119, hz119, H⟩ := bindE H
    refine WC.cut (fun ρ_ w_ => ∃ (o_ : Tags), Fm o0 w0 o_ w_ [] ∧ ρ_ 2 = encS ([] : List UInt8) ∧ ρ_ 3 = enc64 x108 ∧ ρ_ 4 = encS x102 ∧ ρ_ 5 = encS x109 ∧ ρ_ 17 = .bool z119) ?case120 ?_
    case case120 =>
      rintro ρ123 w121 ⟨o122, HF, s2_117, s3_117, s4_117, s5_117, s17_118⟩
      rcases condE H with ⟨c124, H⟩ | ⟨c124, H⟩
      ·
        refine WC.cond_t ((show _ = Value.bool z119 from s17_118).trans (congrArg Value.bool c124)) ?_
        refine WC.skip ?_
        refine WC.block ?_
        refine WC.seq ?_
        refine WC.region ?_
        refine WL.ex rfl (ex_move (v := enc64 x108) s3_117) ?_
        obtain ⟨u125, hu125, H⟩ := bindE H
        refine WL.ex rfl (ex_bin (a := enc64 x108) (b := enc64 (10 : UInt64)) (v := enc64 (x108 % (10 : UInt64))) rfl rfl (bin_rem_u64 (by have h_ := chk_true hu125; simpa using h_))) ?_
        refine WL.ex rfl (ex_bin (a := enc64 (48 : UInt64)) (b := enc64 (x108 % (10 : UInt64))) (v := enc64 ((48 : UInt64) + (x108 % (10 : UInt64)))) rfl rfl bin_add_u64) ?_
        refine WL.ex rfl (ex_conv_u8 (k := .u64) (a := (((48 : UInt64) + (x108 % (10 : UInt64))).toNat : Int)) rfl Tryd.underlying22 Tryd.underlying5) ?_
        refine WL.op rfl ?_
        refine OW.row (r := Rep.u8) (xs := [ofI8 (((48 : UInt64) + (x108 % (10 : UInt64))).toNat : Int)]) [(0, enc8 (ofI8 (((48 : UInt64) + (x108 % (10 : UInt64))).toNat : Int)))] [[enc8 (ofI8 (((48 : UInt64) + (x108 % (10 : UInt64))).toNat : Int))]] 10 HF rfl Tryd.underlying72 sz5 zr5 rfl (evs_cons rfl rfl) rfl rfl ⟨rfl, trivial⟩ rfl rfl rfl rfl ?_
        intro o126 w127 v129 s128 hO130
        replace HF := HF.step s128 rfl
        obtain ⟨A131, c132, q133_, _, q133⟩ := hO130.row
        refine WL.ex rfl (ex_bytes_str (by rw [← q133_]; exact rfl) Tryd.underlying72 Tryd.underlying5 Tryd.underlying9 q133) ?_
        refine WL.ex rfl (ex_move (v := encS x109) s5_117) ?_
        obtain ⟨u134, hu134, H⟩ := bindE H
        refine WL.ex rfl (ex_bin (a := encS [ofI8 (((48 : UInt64) + (x108 % (10 : UInt64))).toNat : Int)]) (b := encS x109) (v := encS ([ofI8 (((48 : UInt64) + (x108 % (10 : UInt64))).toNat : Int)] ++ x109)) rfl rfl (bin_add_str (of_decide_eq_true (chk_true hu134)))) ?_
        refine WL.ex rfl (ex_assign (v := encS ([ofI8 (((48 : UInt64) + (x108 % (10 : UInt64))).toNat : Int)] ++ x109)) rfl) ?_
        refine WL.nil ?_
        refine WC.region ?_
        refine WL.ex rfl (ex_move (v := enc64 x108) s3_117) ?_
        obtain ⟨u135, hu135, H⟩ := bindE H
        refine WL.ex rfl (ex_bin (a := enc64 x108) (b := enc64 (10 : UInt64)) (v := enc64 (x108 / (10 : UInt64))) rfl rfl (bin_quo_u64 (by have h_ := chk_true hu135; simpa using h_))) ?_
        refine WL.ex rfl (ex_assign (v := enc64 (x108 / (10 : UInt64))) rfl) ?_
        refine WL.nil ?_
        exact ⟨k114, Nat.lt_succ_self _, ⟨_, (x108 / (10 : UInt64)), ([ofI8 (((48 : UInt64) + (x108 % (10 : UInt64))).toNat : Int)] ++ x109), HF, s2_117, rfl, s4_117, rfl, H⟩⟩
      ·
        refine WC.cond_f ((show _ = Value.bool z119 from s17_118).trans (congrArg Value.bool c124)) ?_
        refine WC.exit ?_
        obtain rfl := Option.some.inj H
        exact ⟨_, HF, s2_117, s4_117, s5_117⟩
    have Ho136 := H
    replace H := hz119
    refine WC.region ?_
    refine WL.ex rfl (ex_move (v := enc64 x108) s3_108) ?_
    refine WL.ex rfl (ex_bin (a := enc64 x108) (b := enc64 (0 : UInt64)) (v := .bool (decide ((0 : UInt64) < x108))) rfl rfl bin_gtr_u64) ?_
    refine WL.ex rfl (ex_move (v := .bool (decide ((0 : UInt64) < x108))) rfl) ?_
    rcases condE H with ⟨c137, H⟩ | ⟨c137, H⟩
    ·
      refine WL.guardNo rfl rfl rfl ((show _ = Value.bool (decide ((0 : UInt64) < x108)) from rfl).trans (congrArg Value.bool c137)) ?_
      refine WL.guardNo rfl rfl rfl ((show _ = Value.bool (decide ((0 : UInt64) < x108)) from rfl).trans (congrArg Value.bool c137)) ?_
      refine WL.ex rfl (ex_pick_t (v := .bool true) ((show _ = Value.bool (decide ((0 : UInt64) < x108)) from rfl).trans (congrArg Value.bool c137)) rfl) ?_
      refine WL.nil ?_
      obtain rfl := Option.some.inj H
      exact ⟨_, HF, s2_107, s3_108, s4_108, s5_109, rfl⟩
    ·
      refine WL.guardYes rfl rfl rfl ((show _ = Value.bool (decide ((0 : UInt64) < x108)) from rfl).trans (congrArg Value.bool c137)) ?_
      refine OW.ex rfl (ex_move (v := encS x109) s5_109) ?_
      refine WL.guardYes rfl rfl rfl ((show _ = Value.bool (decide ((0 : UInt64) < x108)) from rfl).trans (congrArg Value.bool c137)) ?_
      refine OW.ex rfl (ex_bin (a := encS x109) (b := encS ([] : List UInt8)) (v := .bool (x109 == ([] : List UInt8))) rfl rfl bin_eql_str) ?_
      refine WL.ex rfl (ex_pick_f (v := .bool (x109 == ([] : List UInt8))) ((show _ = Value.bool (decide ((0 : UInt64) < x108)) from rfl).trans (congrArg Value.bool c137)) rfl) ?_
      refine WL.nil ?_
      obtain rfl := Option.some.inj H
      exact ⟨_, HF, s2_107, s3_108, s4_108, s5_109, rfl⟩
  have Ho142 := H
  replace H := hz103
  refine WC.seq ?_
  refine WC.region ?_
  refine WL.ex rfl (ex_move (v := .int .i64 a0) rfl) ?_
  refine WL.ex rfl (ex_bin (a := .int .i64 a0) (b := .int .i64 0) (v := .bool (decide (a0 < 0))) rfl rfl bin_lss) ?_
  refine WL.nil ?_
  rcases condE H with ⟨c143, H⟩ | ⟨c143, H⟩
  ·
    refine WC.cond_t ((show _ = Value.bool (decide (a0 < 0)) from rfl).trans (congrArg Value.bool c143)) ?_
    refine WC.seq ?_
    refine WC.region ?_
    refine WL.ex rfl (ex_move (v := enc64 (ofI64 a0)) rfl) ?_
    refine WL.ex rfl (ex_bin (a := enc64 (0 : UInt64)) (b := enc64 (ofI64 a0)) (v := enc64 ((0 : UInt64) - (ofI64 a0))) rfl rfl bin_sub_u64) ?_
    refine WL.ex rfl (ex_assign (v := enc64 ((0 : UInt64) - (ofI64 a0))) rfl) ?_
    refine WL.nil ?_
    refine WC.region ?_
    refine WL.ex rfl (ex_assign (v := encS ([45] : List UInt8)) rfl) ?_
    refine WL.nil ?_
    obtain ⟨rfl, rfl⟩ := Prod.mk.inj (Option.some.inj H)
    exact ⟨_, HF, rfl, rfl, rfl⟩
  ·
    refine WC.cond_f ((show _ = Value.bool (decide (a0 < 0)) from rfl).trans (congrArg Value.bool c143)) ?_
    refine WC.skip ?_
    obtain ⟨rfl, rfl⟩ := Prod.mk.inj (Option.some.inj H)
    exact ⟨_, HF, rfl, rfl, rfl⟩

/-! ### dictumref05_Text -/
set_option maxRecDepth 100000 in
theorem dictumref05_Text.calls (k : Nat) (o0 : Tags) (w0 : World) (a0 : (List UInt64)) (r : (List UInt8)) (hO : ∀ b, b < w0.heap.size → o0 b < 10) (hla0 : a0.length = 16) (H : dictumref05_Text.f k a0 = some r) :
    Calls Tryd.prog 11 [.agg (List.map enc64 a0).toArray].toArray w0 fun e_ w_ => ∃ (o_ : Tags), e_ = .returned (one [encS r]) ∧ Step o0 w0 o_ w_ [] := by
  have HF := Fm.refl hO []
  unfold dictumref05_Text.f at H
  refine SX.calls [.agg (List.map enc64 a0).toArray] Tryd.func11 rfl rfl ?_
  rw [Tryd.ntmps11]
  refine WC.seq ?_
  refine WC.region ?_
  refine WL.op rfl ?_
  refine OW.box' (List.map enc64 a0) 10 HF rfl ((congrArg Value.cells (show ev _ _ = (.agg (List.map enc64 a0).toArray : Value) from rfl)).trans rfl) ?_
  intro o102 w103 b101 s104 hB105
  replace HF := HF.step s104 rfl
  refine WL.ex rfl (ex_assign (v := encS ([] : List UInt8)) rfl) ?_
  refine WL.nil ?_
  refine WC.seq ?_
  refine WC.region ?_
  refine WL.ex rfl (ex_assign (v := encS ([] : List UInt8)) rfl) ?_
  refine WL.nil ?_
  refine WC.seq ?_
  refine WC.seq ?_
  refine WC.region ?_
  refine WL.ex rfl (ex_assign (v := .int .i64 0) rfl) ?_
  refine WL.nil ?_
  obtain ⟨z109, hz109, H⟩ := bindE H
  refine WC.for (fun k_ ρ_ w_ => ∃ (o_ : Tags) (x106 : List UInt8) (x107 : Int), Fm o0 w0 o_ w_ [] ∧ Bk o_ w_ 10 b101 (List.map enc64 a0) 24 ∧ ρ_ 1 = .pointer (some ⟨b101, 0, none⟩) ∧ ρ_ 2 = encS ([] : List UInt8) ∧ ρ_ 3 = encS x106 ∧ ρ_ 4 = .int .i64 x107 ∧ dictumref05_Text.l1 k a0 k_ x106 x107 = some z109) k (fun ρ_ w_ => ∃ (o_ : Tags), Fm o0 w0 o_ w_ [] ∧ ρ_ 2 = encS ([] : List UInt8) ∧ ρ_ 3 = encS z109) ⟨_, ([] : List UInt8), 0, HF, hB105, rfl, rfl, rfl, rfl, hz109⟩ ?case110 ?_
  case case110 =>
    rintro ρ179 w180 ⟨o181, HF, s2_107, s3_108⟩
    refine WC.seq ?_
    refine WC.region ?_
    refine WL.ex rfl (ex_move (v := encS z109) s3_108) ?_
    refine WL.ex rfl (ex_assign (v := encS z109) rfl) ?_
    refine WL.nil ?_
    refine WC.ret ?_
    obtain rfl := Option.some.inj H
    exact ⟨_, (.tmp (encS z109 : Value) rfl .nil), _, rfl, HF.out⟩
  have Ho111 := H
  rintro k112 ρ113 w114 ⟨o115, x106, x107, HF, hB105, s1_105, s2_105, s3_106, s4_107, H⟩
  cases k112 with
  | zero => cases H
  | succ k112 =>
  rw [dictumref05_Text.l1.eq_2] at H
  refine WC.seq ?_
  refine WC.seq ?_
  refine WC.region ?_
  refine WL.ex rfl (ex_move (v := .int .i64 x107) s4_107) ?_
  refine WL.ex rfl (ex_bin (a := .int .i64 x107) (b := .int .i64 1024) (v := .bool (decide (x107 < 1024))) rfl rfl bin_lss) ?_
  refine WL.nil ?_
  rcases condE H with ⟨c116, H⟩ | ⟨c116, H⟩
  ·
    refine WC.cond_t ((show _ = Value.bool (decide (x107 < 1024)) from rfl).trans (congrArg Value.bool c116)) ?_
    refine WC.skip ?_
    obtain ⟨z118, hz118, H⟩ := bindE H
    refine WC.cut (fun ρ_ w_ => ∃ (o_ : Tags), Fm o0 w0 o_ w_ [] ∧ Bk o_ w_ 10 b101 (List.map enc64 a0) 24 ∧ ρ_ 1 = .pointer (some ⟨b101, 0, none⟩) ∧ ρ_ 2 = encS ([] : List UInt8) ∧ ρ_ 3 = encS z118 ∧ ρ_ 4 = .int .i64 x107) ?case119 ?_
    case case119 =>
      rintro ρ122 w120 ⟨o121, HF, hB105, s1_116, s2_116, s3_117, s4_117⟩
      refine WC.region ?_
      refine WL.ex rfl (ex_move (v := .int .i64 x107) s4_117) ?_
      refine WL.ex rfl (ex_bin (a := .int .i64 x107) (b := .int .i64 1) (v := .int .i64 (wrap64 (x107 + 1))) rfl rfl bin_add64) ?_
      refine WL.ex rfl (ex_assign (v := .int .i64 (wrap64 (x107 + 1))) rfl) ?_
      refine WL.nil ?_
      exact ⟨k112, Nat.lt_succ_self _, ⟨_, z118, wrap64 (x107 + 1), HF, hB105, s1_116, s2_116, s3_117, rfl, H⟩⟩
    have Ho123 := H
    replace H := hz118
    refine WC.block ?_
    refine WC.seq ?_
    obtain ⟨z125, hz125, H⟩ := bindE H
    refine WC.cut (fun ρ_ w_ => ∃ (o_ : Tags), Fm o0 w0 o_ w_ [] ∧ Bk o_ w_ 10 b101 (List.map enc64 a0) 24 ∧ ρ_ 1 = .pointer (some ⟨b101, 0, none⟩) ∧ ρ_ 2 = encS ([] : List UInt8) ∧ ρ_ 3 = encS x106 ∧ ρ_ 4 = .int .i64 x107 ∧ ρ_ 19 = .bool z125) ?case126 ?_
    case case126 =>
      rintro ρ129 w127 ⟨o128, HF, hB105, s1_123, s2_123, s3_123, s4_123, s19_124⟩
      rcases condE H with ⟨c130, H⟩ | ⟨c130, H⟩
      ·
        refine WC.cond_t ((show _ = Value.bool z125 from s19_124).trans (congrArg Value.bool c130)) ?_
        refine WC.exit ?_
        obtain rfl := Option.some.inj H
        exact ⟨_, HF, hB105, s1_123, s2_123, s3_123, s4_123⟩
      ·
        refine WC.cond_f ((show _ = Value.bool z125 from s19_124).trans (congrArg Value.bool c130)) ?_
        refine WC.skip ?_
        refine WC.seq ?_
        refine WC.region ?_
        refine WL.ex rfl (ex_move (v := .int .i64 x107) s4_123) ?_
        refine WL.ex rfl (ex_assign (v := .int .i64 x107) rfl) ?_
        refine WL.nil ?_
        refine WC.seq ?_
        obtain ⟨z133, hz133, H⟩ := bindE H
        refine WC.for (fun k_ ρ_ w_ => ∃ (o_ : Tags) (x131 : Int), Fm o0 w0 o_ w_ [] ∧ Bk o_ w_ 10 b101 (List.map enc64 a0) 24 ∧ ρ_ 1 = .pointer (some ⟨b101, 0, none⟩) ∧ ρ_ 2 = encS ([] : List UInt8) ∧ ρ_ 3 = encS x106 ∧ ρ_ 4 = .int .i64 x107 ∧ ρ_ 5 = .int .i64 x131 ∧ dictumref05_Text.l2 k a0 k_ x131 = some z133) k (fun ρ_ w_ => ∃ (o_ : Tags), Fm o0 w0 o_ w_ [] ∧ Bk o_ w_ 10 b101 (List.map enc64 a0) 24 ∧ ρ_ 1 = .pointer (some ⟨b101, 0, none⟩) ∧ ρ_ 2 = encS ([] : List UInt8) ∧ ρ_ 3 = encS x106 ∧ ρ_ 4 = .int .i64 x107 ∧ ρ_ 5 = .int .i64 z133) ⟨_, x107, HF, hB105, s1_123, s2_123, s3_123, s4_123, rfl, hz133⟩ ?case134 ?_
        case case134 =>
          rintro ρ145 w146 ⟨o147, HF, hB105, s1_131, s2_131, s3_131, s4_131, s5_132⟩
          obtain ⟨z149, hz149, H⟩ := bindE H
          refine WC.cut (fun ρ_ w_ => ∃ (o_ : Tags), Fm o0 w0 o_ w_ [] ∧ Bk o_ w_ 10 b101 (List.map enc64 a0) 24 ∧ ρ_ 1 = .pointer (some ⟨b101, 0, none⟩) ∧ ρ_ 2 = encS ([] : List UInt8) ∧ ρ_ 3 = encS z149 ∧ ρ_ 4 = .int .i64 x107 ∧ ρ_ 5 = .int .i64 z133) ?case150 ?_
          case case150 =>
            rintro ρ153 w151 ⟨o152, HF, hB105, s1_147, s2_147, s3_148, s4_148, s5_148⟩
            refine WC.seq ?_
            refine WC.region ?_
            refine WL.ex rfl (ex_move (v := encS z149) s3_148) ?_
            refine WL.ex rfl (ex_move (v := .int .i64 x107) s4_148) ?_
            obtain ⟨z154, hz154, H⟩ := bindE H
            refine WL.op rfl ?_
            refine OW.call [.int .i64 x107] rfl Tryd.func45 (by kernel_rfl) (by kernel_rfl) (map_cons' rfl rfl) (dictumref01_Dec.calls k _ _ x107 z154 (HF.ten (V := [0]) (L := []) rfl)  hz154) ?_
            rintro _ w155 ⟨o156, rfl, s157⟩
            refine ⟨_, rfl, ?_⟩
            replace s157 := un_stepL (J := []) (L' := []) s157 rfl rfl
            replace hB105 := hB105.step s157 rfl
            replace HF := HF.step s157 rfl
            obtain ⟨u158, hu158, H⟩ := bindE H
            refine WL.ex rfl (ex_bin (a := encS z149) (b := encS z154) (v := encS (z149 ++ z154)) rfl rfl (bin_add_str (of_decide_eq_true (chk_true hu158)))) ?_
            refine WL.ex rfl (ex_assign (v := encS (z149 ++ z154)) rfl) ?_
            refine WL.nil ?_
            refine WC.seq ?_
            refine WC.region ?_
            refine WL.ex rfl (ex_move (v := .int .i64 z133) s5_148) ?_
            refine WL.ex rfl (ex_move (v := .int .i64 x107) s4_148) ?_
            refine WL.ex rfl (ex_bin (a := .int .i64 z133) (b := .int .i64 x107) (v := .bool (decide (z133 > x107))) rfl rfl bin_gtr) ?_
            refine WL.nil ?_
            rcases condE H with ⟨c159, H⟩ | ⟨c159, H⟩
            ·
              refine WC.cond_t ((show _ = Value.bool (decide (z133 > x107)) from rfl).trans (congrArg Value.bool c159)) ?_
              refine WC.region ?_
              refine WL.ex rfl (ex_move (v := encS (z149 ++ z154)) rfl) ?_
              obtain ⟨u160, hu160, H⟩ := bindE H
              refine WL.ex rfl (ex_bin (a := encS (z149 ++ z154)) (b := encS ([45] : List UInt8)) (v := encS ((z149 ++ z154) ++ ([45] : List UInt8))) rfl rfl (bin_add_str (of_decide_eq_true (chk_true hu160)))) ?_
              refine WL.ex rfl (ex_move (v := .int .i64 z133) s5_148) ?_
              obtain ⟨z161, hz161, H⟩ := bindE H
              refine WL.op rfl ?_
              refine OW.call [.int .i64 z133] rfl Tryd.func45 (by kernel_rfl) (by kernel_rfl) (map_cons' rfl rfl) (dictumref01_Dec.calls k _ _ z133 z161 (HF.ten (V := [0]) (L := []) rfl)  hz161) ?_
              rintro _ w162 ⟨o163, rfl, s164⟩
              refine ⟨_, rfl, ?_⟩
              replace s164 := un_stepL (J := []) (L' := []) s164 rfl rfl
              replace hB105 := hB105.step s164 rfl
              replace HF := HF.step s164 rfl
              obtain ⟨u165, hu165, H⟩ := bindE H
              refine WL.ex rfl (ex_bin (a := encS ((z149 ++ z154) ++ ([45] : List UInt8))) (b := encS z161) (v := encS (((z149 ++ z154) ++ ([45] : List UInt8)) ++ z161)) rfl rfl (bin_add_str (of_decide_eq_true (chk_true hu165)))) ?_
              refine WL.ex rfl (ex_assign (v := encS (((z149 ++ z154) ++ ([45] : List UInt8)) ++ z161)) rfl) ?_
              refine WL.nil ?_
              obtain rfl := Option.some.inj H
              exact ⟨_, HF, hB105, s1_147, s2_147, rfl, s4_148⟩
            ·
              refine WC.cond_f ((show _ = Value.bool (decide (z133 > x107)) from rfl).trans (congrArg Value.bool c159)) ?_
              refine WC.skip ?_
              obtain rfl := Option.some.inj H
              exact ⟨_, HF, hB105, s1_147, s2_147, rfl, s4_148⟩
          have Ho166 := H
          replace H := hz149
          refine WC.seq ?_
          refine WC.region ?_
          refine WL.ex rfl (ex_move (v := encS x106) s3_131) ?_
          refine WL.ex rfl (ex_bin (a := encS x106) (b := encS ([] : List UInt8)) (v := .bool (!(x106 == ([] : List UInt8)))) rfl rfl bin_neq_str) ?_
          refine WL.nil ?_
          rcases condE H with ⟨c167, H⟩ | ⟨c167, H⟩
          ·
            refine WC.cond_t ((show _ = Value.bool (!(x106 == ([] : List UInt8))) from rfl).trans (congrArg Value.bool c167)) ?_
            refine WC.region ?_
            refine WL.ex rfl (ex_move (v := encS x106) s3_131) ?_
            obtain ⟨u168, hu168, H⟩ := bindE H
            refine WL.ex rfl (ex_bin (a := encS x106) (b := encS ([44] : List UInt8)) (v := encS (x106 ++ ([44] : List UInt8))) rfl rfl (bin_add_str (of_decide_eq_true (chk_true hu168)))) ?_
            refine WL.ex rfl (ex_assign (v := encS (x106 ++ ([44] : List UInt8))) rfl) ?_
            refine WL.nil ?_
            obtain rfl := Option.some.inj H
            exact ⟨_, HF, hB105, s1_131, s2_131, rfl, s4_131, s5_132⟩
          ·
            refine WC.cond_f ((show _ = Value.bool (!(x106 == ([] : List UInt8))) from rfl).trans (congrArg Value.bool c167)) ?_
            refine WC.skip ?_
            obtain rfl := Option.some.inj H
            exact ⟨_, HF, hB105, s1_131, s2_131, s3_131, s4_131, s5_132⟩
        have Ho135 := H
        rintro k136 ρ137 w138 ⟨o139, x131, HF, hB105, s1_130, s2_130, s3_130, s4_130, s5_131, H⟩
        cases k136 with
        | zero => cases H
        | succ k136 =>
        rw [dictumref05_Text.l2.eq_2] at H
        refine WC.seq ?_
        refine WC.seq ?_
        refine WC.region ?_
        refine WL.ex rfl (ex_loadAV (xs := a0) s1_130 Tryd.underlying24 sz24 hla0 hB105) ?_
        refine WL.ex rfl (ex_move (v := .int .i64 x131) s5_131) ?_
        refine WL.ex rfl (ex_bin (a := .int .i64 x131) (b := .int .i64 1) (v := .int .i64 (wrap64 (x131 + 1))) rfl rfl bin_add64) ?_
        obtain ⟨z140, hz140, H⟩ := bindE H
        refine WL.op rfl ?_
        refine OW.call [.agg (List.map enc64 a0).toArray, .int .i64 (wrap64 (x131 + 1))] rfl Tryd.func33 (by kernel_rfl) (by kernel_rfl) (map_cons' rfl (map_cons' rfl rfl)) (dictumref05_Has.calls _ _ a0 (wrap64 (x131 + 1)) z140 (HF.ten (V := [0]) (L := []) rfl) hla0 hz140) ?_
        rintro _ w141 ⟨o142, rfl, s143⟩
        refine ⟨_, rfl, ?_⟩
        replace s143 := un_stepL (J := []) (L' := []) s143 rfl rfl
        replace hB105 := hB105.step s143 rfl
        replace HF := HF.step s143 rfl
        refine WL.nil ?_
        rcases condE H with ⟨c144, H⟩ | ⟨c144, H⟩
        ·
          refine WC.cond_t ((show _ = Value.bool z140 from rfl).trans (congrArg Value.bool c144)) ?_
          refine WC.skip ?_
          refine WC.block ?_
          refine WC.region ?_
          refine WL.ex rfl (ex_move (v := .int .i64 x131) s5_131) ?_
          refine WL.ex rfl (ex_bin (a := .int .i64 x131) (b := .int .i64 1) (v := .int .i64 (wrap64 (x131 + 1))) rfl rfl bin_add64) ?_
          refine WL.ex rfl (ex_assign (v := .int .i64 (wrap64 (x131 + 1))) rfl) ?_
          refine WL.nil ?_
          exact ⟨k136, Nat.lt_succ_self _, ⟨_, wrap64 (x131 + 1), HF, hB105, s1_130, s2_130, s3_130, s4_130, rfl, H⟩⟩
        ·
          refine WC.cond_f ((show _ = Value.bool z140 from rfl).trans (congrArg Value.bool c144)) ?_
          refine WC.exit ?_
          obtain rfl := Option.some.inj H
          exact ⟨_, HF, hB105, s1_130, s2_130, s3_130, s4_130, s5_131⟩
    have Ho169 := H
    replace H := hz125
    refine WC.region ?_
    refine WL.ex rfl (ex_loadAV (xs := a0) s1_105 Tryd.underlying24 sz24 hla0 hB105) ?_
    refine WL.ex rfl (ex_move (v := .int .i64 x107) s4_107) ?_
    obtain ⟨z170, hz170, H⟩ := bindE H
    refine WL.op rfl ?_
    refine OW.call [.agg (List.map enc64 a0).toArray, .int .i64 x107] rfl Tryd.func33 (by kernel_rfl) (by kernel_rfl) (map_cons' rfl (map_cons' rfl rfl)) (dictumref05_Has.calls _ _ a0 x107 z170 (HF.ten (V := [0]) (L := []) rfl) hla0 hz170) ?_
    rintro _ w171 ⟨o172, rfl, s173⟩
    refine ⟨_, rfl, ?_⟩
    replace s173 := un_stepL (J := []) (L' := []) s173 rfl rfl
    replace hB105 := hB105.step s173 rfl
    replace HF := HF.step s173 rfl
    refine WL.ex rfl (ex_not (b := z170) rfl) ?_
    refine WL.ex rfl (ex_move (v := .bool (!z170)) rfl) ?_
    rcases condE H with ⟨c174, H⟩ | ⟨c174, H⟩
    ·
      refine WL.guardNo rfl rfl rfl ((show _ = Value.bool (!z170) from rfl).trans (congrArg Value.bool c174)) ?_
      refine WL.guardNo rfl rfl rfl ((show _ = Value.bool (!z170) from rfl).trans (congrArg Value.bool c174)) ?_
      refine WL.guardNo rfl rfl rfl ((show _ = Value.bool (!z170) from rfl).trans (congrArg Value.bool c174)) ?_
      refine WL.guardNo rfl rfl rfl ((show _ = Value.bool (!z170) from rfl).trans (congrArg Value.bool c174)) ?_
      refine WL.ex rfl (ex_pick_t (v := .bool true) ((show _ = Value.bool (!z170) from rfl).trans (congrArg Value.bool c174)) rfl) ?_
      refine WL.nil ?_
      obtain rfl := Option.some.inj H
      exact ⟨_, HF, hB105, s1_105, s2_105, s3_106, s4_107, rfl⟩
    ·
      refine WL.guardYes rfl rfl rfl ((show _ = Value.bool (!z170) from rfl).trans (congrArg Value.bool c174)) ?_
      refine OW.ex rfl (ex_loadAV (xs := a0) s1_105 Tryd.underlying24 sz24 hla0 hB105) ?_
      refine WL.guardYes rfl rfl rfl ((show _ = Value.bool (!z170) from rfl).trans (congrArg Value.bool c174)) ?_
      refine OW.ex rfl (ex_move (v := .int .i64 x107) s4_107) ?_
      refine WL.guardYes rfl rfl rfl ((show _ = Value.bool (!z170) from rfl).trans (congrArg Value.bool c174)) ?_
      refine OW.ex rfl (ex_bin (a := .int .i64 x107) (b := .int .i64 1) (v := .int .i64 (wrap64 (x107 - 1))) rfl rfl bin_sub64) ?_
      refine WL.guardYes rfl rfl rfl ((show _ = Value.bool (!z170) from rfl).trans (congrArg Value.bool c174)) ?_
      obtain ⟨z175, hz175, H⟩ := bindE H
      refine OW.call [.agg (List.map enc64 a0).toArray, .int .i64 (wrap64 (x107 - 1))] rfl Tryd.func33 (by kernel_rfl) (by kernel_rfl) (map_cons' rfl (map_cons' rfl rfl)) (dictumref05_Has.calls _ _ a0 (wrap64 (x107 - 1)) z175 (HF.ten (V := [0]) (L := []) rfl) hla0 hz175) ?_
      rintro _ w176 ⟨o177, rfl, s178⟩
      refine ⟨_, rfl, ?_⟩
      replace s178 := un_stepL (J := []) (L' := []) s178 rfl rfl
      replace hB105 := hB105.step s178 rfl
      replace HF := HF.step s178 rfl
      refine WL.ex rfl (ex_pick_f (v := .bool z175) ((show _ = Value.bool (!z170) from rfl).trans (congrArg Value.bool c174)) rfl) ?_
      refine WL.nil ?_
      obtain rfl := Option.some.inj H
      exact ⟨_, HF, hB105, s1_105, s2_105, s3_106, s4_107, rfl⟩
  ·
    refine WC.cond_f ((show _ = Value.bool (decide (x107 < 1024)) from rfl).trans (congrArg Value.bool c116)) ?_
    refine WC.exit ?_
    obtain rfl := Option.some.inj H
    exact ⟨_, HF, s2_105, s3_106⟩
end Go.Proofs.YtfdocckaobmgeaaDoor.X
