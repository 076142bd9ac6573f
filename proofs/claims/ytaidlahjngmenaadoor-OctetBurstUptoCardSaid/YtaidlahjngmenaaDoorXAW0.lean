import Derived.Test.YtaidlahjngmenaaDoorXAD
import Derived.Test.YtaidlahjngmenaaDoorProg
import Derived.Test.YtaidlahjngmenaaDoorShelf
set_option maxRecDepth 20000
set_option linter.unusedVariables false
set_option linter.unusedSimpArgs false
namespace Go.Proofs.YtaidlahjngmenaaDoor.X
open Go Go.RowKit Go.Proofs.YtaidlahjngmenaaDoor.SX
/-! What the program's variables hold -/
def GG : Glob := { L := [0, 1, 5, 3, 4], T := fun w => Lib.Utf8Tabs 0 1 w ∧ Lib.TabIs Tryd.prog w "internal/strconv.uint64pow10" .u64 Lib.pow10Tab ∧ (∃ tp p, w.var? Tryd.prog "strconv.ErrSyntax" = some #[.iface tp p]) ∧ (∃ tp p, w.var? Tryd.prog "strconv.ErrRange" = some #[.iface tp p]), move := fun {w w'} hk h => ⟨⟨fun c hc => by rw [cell_move (w := w) (hk 0 (by simp))]; exact h.1.1 c hc, fun i hi => ⟨by rw [cell_move (w := w) (hk 1 (by simp))]; exact (h.1.2 i hi).1, by rw [cell_move (w := w) (hk 1 (by simp))]; exact (h.1.2 i hi).2⟩⟩, (var_move (by kernel_rfl : Tryd.prog.globalNamed "internal/strconv.uint64pow10" = some 5) (hk 5 (by simp))).trans h.2.1, (by obtain ⟨tp, p, e⟩ := h.2.2.1; exact ⟨tp, p, (var_move (by kernel_rfl : Tryd.prog.globalNamed "strconv.ErrSyntax" = some 3) (hk 3 (by simp))).trans e⟩), (by obtain ⟨tp, p, e⟩ := h.2.2.2; exact ⟨tp, p, (var_move (by kernel_rfl : Tryd.prog.globalNamed "strconv.ErrRange" = some 4) (hk 4 (by simp))).trans e⟩)⟩ }

theorem inf5 : (Tryd.prog.info? 5).map (fun i => (i.zero, i.size, i.bytes)) = some (some (.int .u8 0), 1, 1) := by kernel_rfl
theorem sz4 : (Tryd.prog.info? 4).map (·.size) = some 1 := by kernel_rfl
theorem sz5 : (Tryd.prog.info? 5).map (·.size) = some 1 := by kernel_rfl
theorem sz24 : (Tryd.prog.info? 24).map (·.size) = some 1 := by kernel_rfl
theorem zr5 : (Tryd.prog.info? 5).map (·.zero) = some (some (.int .u8 0)) := by kernel_rfl
theorem zr24 : (Tryd.prog.info? 24).map (·.zero) = some (some (.slice none 0 0)) := by kernel_rfl
theorem zr26 : (Tryd.prog.info? 26).map (·.zero) = some (some (.agg #[.slice none 0 0])) := by kernel_rfl
theorem zr68 : (Tryd.prog.info? 68).map (·.zero) = some (some (.agg #[.bool false, .slice none 0 0])) := by kernel_rfl

/-! ### bytes_Clone -/
set_option maxRecDepth 100000 in
theorem bytes_Clone.calls (o0 : Tags) (w0 : World) (pA0 : Option Addr) (pc0 : Nat) (a0 : (List UInt8)) (r : (List UInt8)) (hO : ∀ b, b < w0.heap.size → o0 b < 10) (hra0 : Row Rep.u8 (fun b_ => o0 b_ = 0) (fun b_ => o0 b_ = 0) w0 pA0 a0) (hla0 : a0.length ≤ pc0) (H : bytes_Clone.f a0 = some r) :
    Calls Tryd.prog 41 [.slice pA0 a0.length pc0].toArray w0 fun e_ w_ => ∃ (o_ : Tags) (rv0 : Value), e_ = .returned (one [rv0]) ∧ Step o0 w0 o_ w_ [] ∧ Own Rep.u8 5 9 o_ w_ rv0 r := by
  have HF := Fm.refl hO []
  unfold bytes_Clone.f at H
  refine SX.calls [.slice pA0 a0.length pc0] Tryd.func41 rfl rfl ?_
  rw [Tryd.ntmps41]
  refine WC.seq ?_
  refine WC.region ?_
  refine WL.ex rfl (ex_assign (v := .slice none ([] : List UInt8).length 0) rfl) ?_
  refine WL.nil ?_
  refine WC.seq ?_
  refine WC.seq ?_
  refine WC.region ?_
  refine WL.ex rfl (ex_move (v := .slice pA0 a0.length pc0) rfl) ?_
  rcases nilE H hra0 with ⟨rfl, H⟩ | ⟨ad101, rfl, H⟩
  ·
    refine WL.ex rfl (ex_bin (a := .slice none a0.length pc0) (b := .slice none 0 0) (v := .bool true) rfl rfl (bin_eql_slN Tryd.underlying24)) ?_
    refine WL.nil ?_
    refine WC.cond_t rfl ?_
    refine WC.seq ?_
    refine WC.region ?_
    refine WL.ex rfl (ex_assign (v := .slice none ([] : List UInt8).length 0) rfl) ?_
    refine WL.nil ?_
    refine WC.ret ?_
    obtain rfl := Option.some.inj H
    exact ⟨_, (.tmp (.slice none ([] : List UInt8).length 0 : Value) rfl .nil), _, (.slice none 0 0), rfl, HF.out, Own.nil⟩
  ·
    refine WL.ex rfl (ex_bin (a := .slice (some ad101) a0.length pc0) (b := .slice none 0 0) (v := .bool false) rfl rfl (bin_eql_slS Tryd.underlying24)) ?_
    refine WL.nil ?_
    refine WC.cond_f rfl ?_
    refine WC.skip ?_
    refine WC.seq ?_
    refine WC.region ?_
    refine WL.op rfl ?_
    refine OW.row (r := Rep.u8) (xs := ([] : List UInt8)) [] [] 10 HF rfl Tryd.underlying24 sz5 zr5 rfl rfl rfl rfl trivial rfl rfl rfl rfl ?_
    intro o102 w103 v105 s104 hO106
    replace hra0 := hra0.step s104 rfl
    replace HF := HF.step s104 rfl
    refine WL.ex rfl (ex_move (v := .slice (some ad101) a0.length pc0) rfl) ?_
    obtain ⟨u107, hu107, H⟩ := bindE H
    refine WL.op rfl ?_
    refine OW.append (r := Rep.u8) (E := 5) (i := 10) rfl Tryd.underlying24 inf5 rfl (by decide) (by decide) (by decide) rfl rfl hO106 (hra0) rfl (of_decide_eq_true (chk_true hu107)) ?_
    intro o108 w109 v110 s111 hO112
    replace hra0 := hra0.step s111 rfl
    replace HF := HF.step s111 rfl
    refine WL.ex rfl (ex_assign (v := v110) rfl) ?_
    refine WL.nil ?_
    refine WC.ret ?_
    obtain rfl := Option.some.inj H
    replace hO112 := Own.renTo (j := 9) hO112 rfl
    replace HF := HF.ren (i := 10) (j := 9) rfl
    exact ⟨_, (.tmp (v110 : Value) rfl .nil), _, v110, rfl, HF.out, hO112⟩

/-! ### octet_Sum -/
set_option maxRecDepth 100000 in
theorem octet_Sum.calls (k : Nat) (o0 : Tags) (w0 : World) (pA0 : Option Addr) (pc0 : Nat) (a0 : (List (List UInt8))) (r : UInt32) (hO : ∀ b, b < w0.heap.size → o0 b < 10) (hra0 : Row (Rep.slice Rep.u8) (fun b_ => o0 b_ = 0) (fun b_ => o0 b_ = 0) w0 pA0 a0) (hla0 : a0.length ≤ pc0) (H : octet_Sum.f k a0 = some r) :
    Calls Tryd.prog 15 [.slice pA0 a0.length pc0].toArray w0 fun e_ w_ => ∃ (o_ : Tags), e_ = .returned (one [enc32 r]) ∧ Step o0 w0 o_ w_ [] := by
  have HF := Fm.refl hO []
  unfold octet_Sum.f at H
  refine SX.calls [.slice pA0 a0.length pc0] Tryd.func15 rfl rfl ?_
  rw [Tryd.ntmps15]
  refine WC.seq ?_
  refine WC.region ?_
  refine WL.ex rfl (ex_assign (v := enc32 (0 : UInt32)) rfl) ?_
  refine WL.nil ?_
  refine WC.seq ?_
  refine WC.region ?_
  refine WL.ex rfl (ex_assign (v := enc32 (4294967295 : UInt32)) rfl) ?_
  refine WL.nil ?_
  refine WC.seq ?_
  refine WC.seq ?_
  refine WC.region ?_
  refine WL.ex rfl (ex_move (v := .slice pA0 a0.length pc0) rfl) ?_
  refine WL.ex rfl (ex_len_slice (A := pA0) (m := a0.length) (c := pc0) rfl Tryd.underlying80) ?_
  refine WL.ex rfl (ex_move (v := .int .i64 0) rfl) ?_
  refine WL.nil ?_
  obtain ⟨z104, hz104, H⟩ := bindE H
  refine WC.for (fun k_ ρ_ w_ => ∃ (o_ : Tags) (x101 : UInt32) (x102 : Int), Fm o0 w0 o_ w_ [] ∧ Row (Rep.slice Rep.u8) (fun b_ => o_ b_ = 0) (fun b_ => o_ b_ = 0) w_ pA0 a0 ∧ ρ_ 2 = enc32 (0 : UInt32) ∧ ρ_ 3 = enc32 x101 ∧ ρ_ 9 = .slice pA0 a0.length pc0 ∧ ρ_ 10 = .int .i64 (a0.length : Int) ∧ ρ_ 11 = .int .i64 x102 ∧ octet_Sum.l1 k a0 k_ x101 x102 = some z104) k (fun ρ_ w_ => ∃ (o_ : Tags), Fm o0 w0 o_ w_ [] ∧ ρ_ 2 = enc32 (0 : UInt32) ∧ ρ_ 3 = enc32 z104) ⟨_, (4294967295 : UInt32), 0, HF, hra0, rfl, rfl, rfl, rfl, rfl, hz104⟩ ?case105 ?_
  case case105 =>
    rintro ρ170 w168 ⟨o169, HF, s2_102, s3_103⟩
    refine WC.seq ?_
    refine WC.region ?_
    refine WL.ex rfl (ex_move (v := enc32 z104) s3_103) ?_
    refine WL.ex rfl (ex_not_u32 (a := z104) rfl) ?_
    refine WL.ex rfl (ex_assign (v := enc32 (~~~z104)) rfl) ?_
    refine WL.nil ?_
    refine WC.ret ?_
    obtain rfl := Option.some.inj H
    exact ⟨_, (.tmp (enc32 (~~~z104) : Value) rfl .nil), _, rfl, HF.out⟩
  have Ho106 := H
  rintro k107 ρ108 w109 ⟨o110, x101, x102, HF, hra0, s2_100, s3_101, s9_101, s10_101, s11_102, H⟩
  cases k107 with
  | zero => cases H
  | succ k107 =>
  rw [octet_Sum.l1.eq_2] at H
  refine WC.seq ?_
  refine WC.region ?_
  refine WL.ex rfl (ex_bin (a := .int .i64 x102) (b := .int .i64 (a0.length : Int)) (v := .bool (decide (x102 < (a0.length : Int)))) s11_102 s10_101 bin_lss) ?_
  refine WL.nil ?_
  refine WC.seq ?_
  rcases condE H with ⟨c111, H⟩ | ⟨c111, H⟩
  ·
    refine WC.cond_t ((show _ = Value.bool (decide (x102 < (a0.length : Int))) from rfl).trans (congrArg Value.bool c111)) ?_
    refine WC.skip ?_
    refine WC.seq ?_
    refine WC.block ?_
    refine WC.seq ?_
    refine WC.region ?_
    obtain ⟨x112, hx112, H⟩ := bindE H
    obtain ⟨ad113, u117, e114, g115, g116, hu118, cell119⟩ := Row.ix1 hra0 hx112 rfl
    obtain ⟨A120, c121, rfl, hl122, hr123⟩ := slice_open hu118
    refine WL.ex rfl (ex_indexAddr (i := x102) s9_101 e114 s11_102 Tryd.underlying80 sz24 g115 g116) ?_
    refine WL.ex rfl (ex_load1 (v := .slice A120 x112.length c121) rfl Tryd.underlying24 rfl cell119) ?_
    refine WL.ex rfl (ex_assign (v := .slice A120 x112.length c121) rfl) ?_
    refine WL.nil ?_
    refine WC.seq ?_
    refine WC.region ?_
    refine WL.ex rfl (ex_move (v := .slice A120 x112.length c121) rfl) ?_
    refine WL.ex rfl (ex_len_slice (A := A120) (m := x112.length) (c := c121) rfl Tryd.underlying24) ?_
    refine WL.ex rfl (ex_move (v := .int .i64 0) rfl) ?_
    refine WL.nil ?_
    obtain ⟨z128, hz128, H⟩ := bindE H
    refine WC.for (fun k_ ρ_ w_ => ∃ (o_ : Tags) (x125 : UInt32) (x126 : Int), Fm o0 w0 o_ w_ [] ∧ Row (Rep.slice Rep.u8) (fun b_ => o_ b_ = 0) (fun b_ => o_ b_ = 0) w_ pA0 a0 ∧ Row Rep.u8 (fun b_ => o_ b_ = 0) (fun b_ => o_ b_ = 0) w_ A120 x112 ∧ ρ_ 2 = enc32 (0 : UInt32) ∧ ρ_ 3 = enc32 x125 ∧ ρ_ 9 = .slice pA0 a0.length pc0 ∧ ρ_ 10 = .int .i64 (a0.length : Int) ∧ ρ_ 11 = .int .i64 x102 ∧ ρ_ 15 = .slice A120 x112.length c121 ∧ ρ_ 16 = .int .i64 (x112.length : Int) ∧ ρ_ 17 = .int .i64 x126 ∧ octet_Sum.l2 k x112 k_ x125 x126 = some z128) k (fun ρ_ w_ => ∃ (o_ : Tags), Fm o0 w0 o_ w_ [] ∧ Row (Rep.slice Rep.u8) (fun b_ => o_ b_ = 0) (fun b_ => o_ b_ = 0) w_ pA0 a0 ∧ ρ_ 2 = enc32 (0 : UInt32) ∧ ρ_ 3 = enc32 z128 ∧ ρ_ 9 = .slice pA0 a0.length pc0 ∧ ρ_ 10 = .int .i64 (a0.length : Int) ∧ ρ_ 11 = .int .i64 x102) ⟨_, x101, 0, HF, hra0, hr123, s2_100, s3_101, s9_101, s10_101, s11_102, rfl, rfl, rfl, hz128⟩ ?case129 ?_
    case case129 =>
      rintro ρ167 w165 ⟨o166, HF, hra0, s2_126, s3_127, s9_127, s10_127, s11_127⟩
      refine WC.region ?_
      refine WL.ex rfl (ex_bin (a := .int .i64 x102) (b := .int .i64 1) (v := .int .i64 (wrap64 (x102 + 1))) s11_127 rfl bin_add64) ?_
      refine WL.ex rfl (ex_move (v := .int .i64 (wrap64 (x102 + 1))) rfl) ?_
      refine WL.nil ?_
      exact ⟨k107, Nat.lt_succ_self _, ⟨_, z128, wrap64 (x102 + 1), HF, hra0, s2_126, s3_127, s9_127, s10_127, rfl, H⟩⟩
    have Ho130 := H
    rintro k131 ρ132 w133 ⟨o134, x125, x126, HF, hra0, hr123, s2_124, s3_125, s9_125, s10_125, s11_125, s15_125, s16_125, s17_126, H⟩
    cases k131 with
    | zero => cases H
    | succ k131 =>
    rw [octet_Sum.l2.eq_2] at H
    refine WC.seq ?_
    refine WC.region ?_
    refine WL.ex rfl (ex_bin (a := .int .i64 x126) (b := .int .i64 (x112.length : Int)) (v := .bool (decide (x126 < (x112.length : Int)))) s17_126 s16_125 bin_lss) ?_
    refine WL.nil ?_
    refine WC.seq ?_
    rcases condE H with ⟨c135, H⟩ | ⟨c135, H⟩
    ·
      refine WC.cond_t ((show _ = Value.bool (decide (x126 < (x112.length : Int))) from rfl).trans (congrArg Value.bool c135)) ?_
      refine WC.skip ?_
      refine WC.seq ?_
      refine WC.block ?_
      refine WC.seq ?_
      refine WC.region ?_
      obtain ⟨x136, hx136, H⟩ := bindE H
      obtain ⟨ad137, e138, g139, g140, cell141⟩ := Row.ixS hr123 hx136
      refine WL.ex rfl (ex_indexAddr (i := x126) s15_125 e138 s17_126 Tryd.underlying24 sz5 g139 g140) ?_
      refine WL.ex rfl (ex_load1 (v := enc8 x136) rfl Tryd.underlying5 rfl cell141) ?_
      refine WL.ex rfl (ex_assign (v := enc8 x136) rfl) ?_
      refine WL.nil ?_
      refine WC.seq ?_
      refine WC.region ?_
      refine WL.ex rfl (ex_move (v := enc32 x125) s3_125) ?_
      refine WL.ex rfl (ex_move (v := enc8 x136) rfl) ?_
      refine WL.ex rfl (ex_conv_u32 (k := .u8) (a := (x136.toNat : Int)) rfl Tryd.underlying5 Tryd.underlying36) ?_
      refine WL.ex rfl (ex_bin (a := enc32 x125) (b := enc32 (ofI32 (x136.toNat : Int))) (v := enc32 (x125 ^^^ (ofI32 (x136.toNat : Int)))) rfl rfl bin_xor_u32) ?_
      refine WL.ex rfl (ex_assign (v := enc32 (x125 ^^^ (ofI32 (x136.toNat : Int)))) rfl) ?_
      refine WL.nil ?_
      refine WC.seq ?_
      refine WC.region ?_
      refine WL.ex rfl (ex_move (v := .int .i64 0) rfl) ?_
      refine WL.nil ?_
      obtain ⟨z146, hz146, H⟩ := bindE H
      refine WC.for (fun k_ ρ_ w_ => ∃ (o_ : Tags) (x143 : UInt32) (x144 : Int), Fm o0 w0 o_ w_ [] ∧ Row (Rep.slice Rep.u8) (fun b_ => o_ b_ = 0) (fun b_ => o_ b_ = 0) w_ pA0 a0 ∧ Row Rep.u8 (fun b_ => o_ b_ = 0) (fun b_ => o_ b_ = 0) w_ A120 x112 ∧ ρ_ 2 = enc32 (0 : UInt32) ∧ ρ_ 3 = enc32 x143 ∧ ρ_ 9 = .slice pA0 a0.length pc0 ∧ ρ_ 10 = .int .i64 (a0.length : Int) ∧ ρ_ 11 = .int .i64 x102 ∧ ρ_ 15 = .slice A120 x112.length c121 ∧ ρ_ 16 = .int .i64 (x112.length : Int) ∧ ρ_ 17 = .int .i64 x126 ∧ ρ_ 25 = .int .i64 x144 ∧ octet_Sum.l3 k k_ x143 x144 = some z146) k (fun ρ_ w_ => ∃ (o_ : Tags), Fm o0 w0 o_ w_ [] ∧ Row (Rep.slice Rep.u8) (fun b_ => o_ b_ = 0) (fun b_ => o_ b_ = 0) w_ pA0 a0 ∧ Row Rep.u8 (fun b_ => o_ b_ = 0) (fun b_ => o_ b_ = 0) w_ A120 x112 ∧ ρ_ 2 = enc32 (0 : UInt32) ∧ ρ_ 3 = enc32 z146 ∧ ρ_ 9 = .slice pA0 a0.length pc0 ∧ ρ_ 10 = .int .i64 (a0.length : Int) ∧ ρ_ 11 = .int .i64 x102 ∧ ρ_ 15 = .slice A120 x112.length c121 ∧ ρ_ 16 = .int .i64 (x112.length : Int) ∧ ρ_ 17 = .int .i64 x126) ⟨_, (x125 ^^^ (ofI32 (x136.toNat : Int))), 0, HF, hra0, hr123, s2_124, rfl, s9_125, s10_125, s11_125, s15_125, s16_125, s17_126, rfl, hz146⟩ ?case147 ?_
      case case147 =>
        rintro ρ164 w162 ⟨o163, HF, hra0, hr123, s2_144, s3_145, s9_145, s10_145, s11_145, s15_145, s16_145, s17_145⟩
        refine WC.region ?_
        refine WL.ex rfl (ex_bin (a := .int .i64 x126) (b := .int .i64 1) (v := .int .i64 (wrap64 (x126 + 1))) s17_145 rfl bin_add64) ?_
        refine WL.ex rfl (ex_move (v := .int .i64 (wrap64 (x126 + 1))) rfl) ?_
        refine WL.nil ?_
        exact ⟨k131, Nat.lt_succ_self _, ⟨_, z146, wrap64 (x126 + 1), HF, hra0, hr123, s2_144, s3_145, s9_145, s10_145, s11_145, s15_145, s16_145, rfl, H⟩⟩
      have Ho148 := H
      rintro k149 ρ150 w151 ⟨o152, x143, x144, HF, hra0, hr123, s2_142, s3_143, s9_143, s10_143, s11_143, s15_143, s16_143, s17_143, s25_144, H⟩
      cases k149 with
      | zero => cases H
      | succ k149 =>
      rw [octet_Sum.l3.eq_2] at H
      refine WC.seq ?_
      refine WC.region ?_
      refine WL.ex rfl (ex_bin (a := .int .i64 x144) (b := .int .i64 8) (v := .bool (decide (x144 < 8))) s25_144 rfl bin_lss) ?_
      refine WL.nil ?_
      refine WC.seq ?_
      rcases condE H with ⟨c153, H⟩ | ⟨c153, H⟩
      ·
        refine WC.cond_t ((show _ = Value.bool (decide (x144 < 8)) from rfl).trans (congrArg Value.bool c153)) ?_
        refine WC.skip ?_
        obtain ⟨z155, hz155, H⟩ := bindE H
        refine WC.cut (fun ρ_ w_ => ∃ (o_ : Tags), Fm o0 w0 o_ w_ [] ∧ Row (Rep.slice Rep.u8) (fun b_ => o_ b_ = 0) (fun b_ => o_ b_ = 0) w_ pA0 a0 ∧ Row Rep.u8 (fun b_ => o_ b_ = 0) (fun b_ => o_ b_ = 0) w_ A120 x112 ∧ ρ_ 2 = enc32 (0 : UInt32) ∧ ρ_ 3 = enc32 z155 ∧ ρ_ 9 = .slice pA0 a0.length pc0 ∧ ρ_ 10 = .int .i64 (a0.length : Int) ∧ ρ_ 11 = .int .i64 x102 ∧ ρ_ 15 = .slice A120 x112.length c121 ∧ ρ_ 16 = .int .i64 (x112.length : Int) ∧ ρ_ 17 = .int .i64 x126 ∧ ρ_ 25 = .int .i64 x144) ?case156 ?_
        case case156 =>
          rintro ρ159 w157 ⟨o158, HF, hra0, hr123, s2_153, s3_154, s9_154, s10_154, s11_154, s15_154, s16_154, s17_154, s25_154⟩
          refine WC.region ?_
          refine WL.ex rfl (ex_bin (a := .int .i64 x144) (b := .int .i64 1) (v := .int .i64 (wrap64 (x144 + 1))) s25_154 rfl bin_add64) ?_
          refine WL.ex rfl (ex_move (v := .int .i64 (wrap64 (x144 + 1))) rfl) ?_
          refine WL.nil ?_
          exact ⟨k149, Nat.lt_succ_self _, ⟨_, z155, wrap64 (x144 + 1), HF, hra0, hr123, s2_153, s3_154, s9_154, s10_154, s11_154, s15_154, s16_154, s17_154, rfl, H⟩⟩
        have Ho160 := H
        replace H := hz155
        refine WC.block ?_
        refine WC.seq ?_
        refine WC.region ?_
        refine WL.ex rfl (ex_move (v := enc32 x143) s3_143) ?_
        refine WL.ex rfl (ex_bin (a := enc32 x143) (b := enc32 (1 : UInt32)) (v := enc32 (x143 &&& (1 : UInt32))) rfl rfl bin_and_u32) ?_
        refine WL.ex rfl (ex_assign (v := enc32 (x143 &&& (1 : UInt32))) rfl) ?_
        refine WL.nil ?_
        refine WC.seq ?_
        refine WC.region ?_
        refine WL.ex rfl (ex_move (v := enc32 x143) s3_143) ?_
        refine WL.ex rfl (ex_bin (a := enc32 x143) (b := enc64 (1 : UInt64)) (v := enc32 (shr32 x143 1)) rfl rfl (bin_shr_u32n (n := 1))) ?_
        refine WL.ex rfl (ex_assign (v := enc32 (shr32 x143 1)) rfl) ?_
        refine WL.nil ?_
        refine WC.seq ?_
        refine WC.region ?_
        refine WL.ex rfl (ex_move (v := enc32 (x143 &&& (1 : UInt32))) rfl) ?_
        refine WL.ex rfl (ex_bin (a := enc32 (x143 &&& (1 : UInt32))) (b := enc32 (1 : UInt32)) (v := .bool ((x143 &&& (1 : UInt32)) == (1 : UInt32))) rfl rfl bin_eql_u32) ?_
        refine WL.nil ?_
        rcases condE H with ⟨c161, H⟩ | ⟨c161, H⟩
        ·
          refine WC.cond_t ((show _ = Value.bool ((x143 &&& (1 : UInt32)) == (1 : UInt32)) from rfl).trans (congrArg Value.bool c161)) ?_
          refine WC.region ?_
          refine WL.ex rfl (ex_move (v := enc32 (shr32 x143 1)) rfl) ?_
          refine WL.ex rfl (ex_bin (a := enc32 (shr32 x143 1)) (b := enc32 (2197175160 : UInt32)) (v := enc32 ((shr32 x143 1) ^^^ (2197175160 : UInt32))) rfl rfl bin_xor_u32) ?_
          refine WL.ex rfl (ex_assign (v := enc32 ((shr32 x143 1) ^^^ (2197175160 : UInt32))) rfl) ?_
          refine WL.nil ?_
          obtain rfl := Option.some.inj H
          exact ⟨_, HF, hra0, hr123, s2_142, rfl, s9_143, s10_143, s11_143, s15_143, s16_143, s17_143, s25_144⟩
        ·
          refine WC.cond_f ((show _ = Value.bool ((x143 &&& (1 : UInt32)) == (1 : UInt32)) from rfl).trans (congrArg Value.bool c161)) ?_
          refine WC.skip ?_
          obtain rfl := Option.some.inj H
          exact ⟨_, HF, hra0, hr123, s2_142, rfl, s9_143, s10_143, s11_143, s15_143, s16_143, s17_143, s25_144⟩
      ·
        refine WC.cond_f ((show _ = Value.bool (decide (x144 < 8)) from rfl).trans (congrArg Value.bool c153)) ?_
        refine WC.exit ?_
        obtain rfl := Option.some.inj H
        exact ⟨_, HF, hra0, hr123, s2_142, s3_143, s9_143, s10_143, s11_143, s15_143, s16_143, s17_143⟩
    ·
      refine WC.cond_f ((show _ = Value.bool (decide (x126 < (x112.length : Int))) from rfl).trans (congrArg Value.bool c135)) ?_
      refine WC.exit ?_
      obtain rfl := Option.some.inj H
      exact ⟨_, HF, hra0, s2_124, s3_125, s9_125, s10_125, s11_125⟩
  ·
    refine WC.cond_f ((show _ = Value.bool (decide (x102 < (a0.length : Int))) from rfl).trans (congrArg Value.bool c111)) ?_
    refine WC.exit ?_
    obtain rfl := Option.some.inj H
    exact ⟨_, HF, s2_100, s3_101⟩

/-! ### octet_Seal -/
set_option maxRecDepth 100000 in
theorem octet_Seal.calls (k : Nat) (o0 : Tags) (w0 : World) (pA0 : Option Addr) (pc0 : Nat) (a0 : (List UInt8)) (r : (List UInt8)) (hO : ∀ b, b < w0.heap.size → o0 b < 10) (hra0 : Row Rep.u8 (fun b_ => o0 b_ = 0) (fun b_ => o0 b_ = 0) w0 pA0 a0) (hla0 : a0.length ≤ pc0) (H : octet_Seal.f k a0 = some r) :
    Calls Tryd.prog 13 [.slice pA0 a0.length pc0].toArray w0 fun e_ w_ => ∃ (o_ : Tags) (rv0 : Value), e_ = .returned (one [rv0]) ∧ Step o0 w0 o_ w_ [] ∧ Own Rep.u8 5 9 o_ w_ rv0 r := by
  have HF := Fm.refl hO []
  unfold octet_Seal.f at H
  refine SX.calls [.slice pA0 a0.length pc0] Tryd.func13 rfl rfl ?_
  rw [Tryd.ntmps13]
  refine WC.seq ?_
  refine WC.region ?_
  refine WL.ex rfl (ex_assign (v := .slice none ([] : List UInt8).length 0) rfl) ?_
  refine WL.nil ?_
  refine WC.seq ?_
  refine WC.region ?_
  refine WL.ex rfl (ex_move (v := .slice pA0 a0.length pc0) rfl) ?_
  obtain ⟨z101, hz101, H⟩ := bindE H
  refine WL.op rfl ?_
  refine OW.call [.slice pA0 a0.length pc0] rfl Tryd.func41 (by kernel_rfl) (by kernel_rfl) (map_cons' rfl rfl) (bytes_Clone.calls _ _ pA0 pc0 a0 z101 (HF.ten (V := [0]) (L := []) rfl) (Row.vw (V := [0]) (L := []) hra0 rfl) hla0 hz101) ?_
  rintro _ w102 ⟨o103, v105, rfl, s104, hO106⟩
  refine ⟨_, rfl, ?_⟩
  replace hO106 := Own.un9 (J := [10]) 0 hO106 rfl s104 rfl rfl
  replace s104 := un_stepL (J := [10]) (L' := []) s104 rfl rfl
  replace hra0 := hra0.step s104 rfl
  replace HF := HF.step s104 rfl
  refine WL.ex rfl (ex_assign (v := v105) rfl) ?_
  refine WL.nil ?_
  refine WC.seq ?_
  refine WC.region ?_
  refine WL.ex rfl (ex_move (v := .slice pA0 a0.length pc0) rfl) ?_
  refine WL.op rfl ?_
  refine OW.row (r := (Rep.slice Rep.u8)) (xs := [a0]) [(0, .slice pA0 a0.length pc0)] [[.slice pA0 a0.length pc0]] 11 HF rfl Tryd.underlying80 sz24 zr24 rfl (evs_cons rfl rfl) rfl rfl ⟨(slice_mk hla0 hra0), trivial⟩ rfl rfl rfl rfl ?_
  intro o107 w108 v110 s109 hO111
  replace hra0 := hra0.step s109 rfl
  replace hO106 := hO106.step s109 rfl rfl
  replace HF := HF.step s109 rfl
  obtain ⟨A112, c113, q114e, q114l, q114⟩ := Own.vwRow (V := [0, 11]) (L := []) hO111 rfl rfl
  obtain ⟨z115, hz115, H⟩ := bindE H
  have q114e' := q114e
  refine WL.op rfl ?_
  refine OW.call [v110] rfl Tryd.func15 (by kernel_rfl) (by kernel_rfl) (map_cons' rfl rfl) (by simp only [q114e]; exact (octet_Sum.calls k _ _ A112 c113 [a0] z115 (HF.ten (V := [0, 11]) (L := []) rfl) q114 q114l hz115)) ?_
  rintro _ w116 ⟨o117, rfl, s118⟩
  refine ⟨_, rfl, ?_⟩
  replace s118 := un_stepL (J := []) (L' := []) s118 rfl rfl
  replace hra0 := hra0.step s118 rfl
  replace hO106 := hO106.step s118 rfl rfl
  replace hO111 := hO111.step s118 rfl rfl
  replace HF := HF.step s118 rfl
  refine WL.ex rfl (ex_assign (v := enc32 z115) rfl) ?_
  refine WL.nil ?_
  refine WC.seq ?_
  refine WC.seq ?_
  refine WC.region ?_
  refine WL.ex rfl (ex_move (v := .int .i64 0) rfl) ?_
  refine WL.nil ?_
  obtain ⟨z126, hz126, H⟩ := bindE H
  refine WC.for (fun k_ ρ_ w_ => ∃ (o_ : Tags) (x121 : (List UInt8)) (x122 : Int) (v119 : Value), Fm o0 w0 o_ w_ [] ∧ Own Rep.u8 5 10 o_ w_ v119 x121 ∧ ρ_ 2 = .slice none ([] : List UInt8).length 0 ∧ ρ_ 3 = v119 ∧ ρ_ 4 = enc32 z115 ∧ ρ_ 11 = .int .i64 x122 ∧ octet_Seal.l1 k z115 k_ x121 x122 = some z126) k (fun ρ_ w_ => ∃ (o_ : Tags) (v123 : Value), Fm o0 w0 o_ w_ [] ∧ Own Rep.u8 5 10 o_ w_ v123 z126 ∧ ρ_ 2 = .slice none ([] : List UInt8).length 0 ∧ ρ_ 3 = v123) ⟨_, z101, 0, _, HF, hO106, rfl, rfl, rfl, rfl, hz126⟩ ?case127 ?_
  case case127 =>
    rintro ρ151 w149 ⟨o150, v123, HF, hO124, s2_122, s3_125⟩
    refine WC.seq ?_
    refine WC.region ?_
    refine WL.ex rfl (ex_move (v := v123) s3_125) ?_
    refine WL.ex rfl (ex_assign (v := v123) rfl) ?_
    refine WL.nil ?_
    refine WC.ret ?_
    obtain rfl := Option.some.inj H
    replace hO124 := Own.renTo (j := 9) hO124 rfl
    replace HF := HF.ren (i := 10) (j := 9) rfl
    exact ⟨_, (.tmp (v123 : Value) rfl .nil), _, v123, rfl, HF.out, hO124⟩
  have Ho128 := H
  rintro k129 ρ130 w131 ⟨o132, x121, x122, v119, HF, hO120, s2_118, s3_121, s4_121, s11_122, H⟩
  cases k129 with
  | zero => cases H
  | succ k129 =>
  rw [octet_Seal.l1.eq_2] at H
  refine WC.seq ?_
  refine WC.region ?_
  refine WL.ex rfl (ex_bin (a := .int .i64 x122) (b := .int .i64 4) (v := .bool (decide (x122 < 4))) s11_122 rfl bin_lss) ?_
  refine WL.nil ?_
  refine WC.seq ?_
  rcases condE H with ⟨c133, H⟩ | ⟨c133, H⟩
  ·
    refine WC.cond_t ((show _ = Value.bool (decide (x122 < 4)) from rfl).trans (congrArg Value.bool c133)) ?_
    refine WC.skip ?_
    refine WC.seq ?_
    refine WC.block ?_
    refine WC.seq ?_
    refine WC.region ?_
    refine WL.ex rfl (ex_move (v := .int .i64 x122) s11_122) ?_
    refine WL.ex rfl (ex_assign (v := .int .i64 x122) rfl) ?_
    refine WL.nil ?_
    refine WC.region ?_
    refine WL.ex rfl (ex_move (v := v119) s3_121) ?_
    refine WL.ex rfl (ex_move (v := enc32 z115) s4_121) ?_
    refine WL.ex rfl (ex_move (v := .int .i64 x122) rfl) ?_
    refine WL.ex rfl (ex_bin (a := .int .i64 8) (b := .int .i64 x122) (v := .int .i64 (wrap64 (8 * x122))) rfl rfl bin_mul64) ?_
    obtain ⟨u134, hu134, H⟩ := bindE H
    refine WL.ex rfl (ex_bin (a := enc32 z115) (b := .int .i64 (wrap64 (8 * x122))) (v := enc32 (shr32 z115 (wrap64 (8 * x122)).toNat)) rfl rfl (bin_shr_u32 (of_decide_eq_true (chk_true hu134)))) ?_
    refine WL.ex rfl (ex_conv_u8 (k := .u32) (a := ((shr32 z115 (wrap64 (8 * x122)).toNat).toNat : Int)) rfl Tryd.underlying36 Tryd.underlying5) ?_
    refine WL.op rfl ?_
    refine OW.row (r := Rep.u8) (xs := [ofI8 ((shr32 z115 (wrap64 (8 * x122)).toNat).toNat : Int)]) [(0, enc8 (ofI8 ((shr32 z115 (wrap64 (8 * x122)).toNat).toNat : Int)))] [[enc8 (ofI8 ((shr32 z115 (wrap64 (8 * x122)).toNat).toNat : Int))]] 12 HF rfl Tryd.underlying24 sz5 zr5 rfl (evs_cons rfl rfl) rfl rfl ⟨rfl, trivial⟩ rfl rfl rfl rfl ?_
    intro o135 w136 v138 s137 hO139
    replace hO120 := hO120.step s137 rfl rfl
    replace HF := HF.step s137 rfl
    obtain ⟨A140, c141, q142_, _, q142⟩ := hO139.row
    obtain ⟨u143, hu143, H⟩ := bindE H
    refine WL.op rfl ?_
    refine OW.append (r := Rep.u8) (E := 5) (i := 10) rfl Tryd.underlying24 inf5 rfl (by decide) (by decide) (by decide) rfl ((show _ = (v138 : Value) from rfl).trans q142_) hO120 q142 rfl (of_decide_eq_true (chk_true hu143)) ?_
    intro o144 w145 v146 s147 hO148
    replace hO139 := hO139.step s147 rfl rfl
    replace HF := HF.step s147 rfl
    refine WL.ex rfl (ex_assign (v := v146) rfl) ?_
    refine WL.nil ?_
    refine WC.region ?_
    refine WL.ex rfl (ex_bin (a := .int .i64 x122) (b := .int .i64 1) (v := .int .i64 (wrap64 (x122 + 1))) s11_122 rfl bin_add64) ?_
    refine WL.ex rfl (ex_move (v := .int .i64 (wrap64 (x122 + 1))) rfl) ?_
    refine WL.nil ?_
    exact ⟨k129, Nat.lt_succ_self _, ⟨_, (x121 ++ [ofI8 ((shr32 z115 (wrap64 (8 * x122)).toNat).toNat : Int)]), wrap64 (x122 + 1), _, HF, hO148, s2_118, rfl, s4_121, rfl, H⟩⟩
  ·
    refine WC.cond_f ((show _ = Value.bool (decide (x122 < 4)) from rfl).trans (congrArg Value.bool c133)) ?_
    refine WC.exit ?_
    obtain rfl := Option.some.inj H
    exact ⟨_, _, HF, hO120, s2_118, s3_121⟩

/-! ### bytes_Equal -/
set_option maxRecDepth 100000 in
theorem bytes_Equal.calls (o0 : Tags) (w0 : World) (pA0 : Option Addr) (pc0 : Nat) (pA1 : Option Addr) (pc1 : Nat) (a0 : (List UInt8)) (a1 : (List UInt8)) (r : Bool) (hO : ∀ b, b < w0.heap.size → o0 b < 10) (hra0 : Row Rep.u8 (fun b_ => o0 b_ = 0) (fun b_ => o0 b_ = 0) w0 pA0 a0) (hla0 : a0.length ≤ pc0) (hra1 : Row Rep.u8 (fun b_ => o0 b_ = 0) (fun b_ => o0 b_ = 0) w0 pA1 a1) (hla1 : a1.length ≤ pc1) (H : bytes_Equal.f a0 a1 = some r) :
    Calls Tryd.prog 42 [.slice pA0 a0.length pc0, .slice pA1 a1.length pc1].toArray w0 fun e_ w_ => ∃ (o_ : Tags), e_ = .returned (one [.bool r]) ∧ Step o0 w0 o_ w_ [] := by
  have HF := Fm.refl hO []
  unfold bytes_Equal.f at H
  refine SX.calls [.slice pA0 a0.length pc0, .slice pA1 a1.length pc1] Tryd.func42 rfl rfl ?_
  rw [Tryd.ntmps42]
  refine WC.seq ?_
  refine WC.region ?_
  refine WL.ex rfl (ex_assign (v := .bool false) rfl) ?_
  refine WL.nil ?_
  refine WC.seq ?_
  refine WC.region ?_
  refine WL.ex rfl (ex_move (v := .slice pA0 a0.length pc0) rfl) ?_
  refine WL.ex rfl (ex_bytes_str rfl Tryd.underlying24 Tryd.underlying5 Tryd.underlying9 hra0) ?_
  refine WL.ex rfl (ex_move (v := .slice pA1 a1.length pc1) rfl) ?_
  refine WL.ex rfl (ex_bytes_str rfl Tryd.underlying24 Tryd.underlying5 Tryd.underlying9 hra1) ?_
  refine WL.ex rfl (ex_bin (a := encS a0) (b := encS a1) (v := .bool (a0 == a1)) rfl rfl bin_eql_str) ?_
  refine WL.ex rfl (ex_assign (v := .bool (a0 == a1)) rfl) ?_
  refine WL.nil ?_
  refine WC.ret ?_
  obtain rfl := Option.some.inj H
  exact ⟨_, (.tmp (.bool (a0 == a1) : Value) rfl .nil), _, rfl, HF.out⟩

/-! ### octet_Open -/
set_option maxRecDepth 100000 in
theorem octet_Open.calls (k : Nat) (o0 : Tags) (w0 : World) (pA0 : Option Addr) (pc0 : Nat) (a0 : (List UInt8)) (r : (List UInt8) × Int) (hO : ∀ b, b < w0.heap.size → o0 b < 10) (hra0 : Row Rep.u8 (fun b_ => o0 b_ = 0) (fun b_ => o0 b_ = 0) w0 pA0 a0) (hla0 : a0.length ≤ pc0) (H : octet_Open.f k a0 = some r) :
    Calls Tryd.prog 17 [.slice pA0 a0.length pc0].toArray w0 fun e_ w_ => ∃ (o_ : Tags) (rv0 : Value), e_ = .returned (one [rv0, .int .i64 r.2]) ∧ Step o0 w0 o_ w_ [] ∧ Own Rep.u8 5 9 o_ w_ rv0 r.1 := by
  have HF := Fm.refl hO []
  unfold octet_Open.f at H
  refine SX.calls [.slice pA0 a0.length pc0] Tryd.func17 rfl rfl ?_
  rw [Tryd.ntmps17]
  refine WC.seq ?_
  refine WC.region ?_
  refine WL.ex rfl (ex_assign (v := .slice none ([] : List UInt8).length 0) rfl) ?_
  refine WL.ex rfl (ex_assign (v := .int .i64 0) rfl) ?_
  refine WL.nil ?_
  refine WC.seq ?_
  refine WC.region ?_
  refine WL.ex rfl (ex_move (v := .slice pA0 a0.length pc0) rfl) ?_
  refine WL.ex rfl (ex_len_slice (A := pA0) (m := a0.length) (c := pc0) rfl Tryd.underlying24) ?_
  refine WL.ex rfl (ex_bin (a := .int .i64 (a0.length : Int)) (b := .int .i64 4) (v := .int .i64 (wrap64 ((a0.length : Int) - 4))) rfl rfl bin_sub64) ?_
  refine WL.ex rfl (ex_assign (v := .int .i64 (wrap64 ((a0.length : Int) - 4))) rfl) ?_
  refine WL.nil ?_
  refine WC.seq ?_
  refine WC.seq ?_
  refine WC.region ?_
  refine WL.ex rfl (ex_move (v := .int .i64 (wrap64 ((a0.length : Int) - 4))) rfl) ?_
  refine WL.ex rfl (ex_bin (a := .int .i64 (wrap64 ((a0.length : Int) - 4))) (b := .int .i64 0) (v := .bool (decide ((wrap64 ((a0.length : Int) - 4)) < 0))) rfl rfl bin_lss) ?_
  refine WL.nil ?_
  rcases condE H with ⟨c101, H⟩ | ⟨c101, H⟩
  ·
    refine WC.cond_t ((show _ = Value.bool (decide ((wrap64 ((a0.length : Int) - 4)) < 0)) from rfl).trans (congrArg Value.bool c101)) ?_
    refine WC.seq ?_
    refine WC.region ?_
    refine WL.ex rfl (ex_assign (v := .slice none ([] : List UInt8).length 0) rfl) ?_
    refine WL.ex rfl (ex_assign (v := .int .i64 10) rfl) ?_
    refine WL.nil ?_
    refine WC.ret ?_
    obtain rfl := Option.some.inj H
    exact ⟨_, (.tmp (.slice none ([] : List UInt8).length 0 : Value) rfl (.tmp (.int .i64 10 : Value) rfl .nil)), _, (.slice none 0 0), rfl, HF.out, Own.nil⟩
  ·
    refine WC.cond_f ((show _ = Value.bool (decide ((wrap64 ((a0.length : Int) - 4)) < 0)) from rfl).trans (congrArg Value.bool c101)) ?_
    refine WC.skip ?_
    refine WC.seq ?_
    refine WC.seq ?_
    refine WC.region ?_
    refine WL.ex rfl (ex_move (v := .slice pA0 a0.length pc0) rfl) ?_
    refine WL.ex rfl (ex_move (v := .int .i64 (wrap64 ((a0.length : Int) - 4))) rfl) ?_
    obtain ⟨y102, hy102, H⟩ := bindE H
    have hr104 := Row.cut hra0 hla0 hy102
    obtain ⟨A105, el108⟩ : ∃ A_, A_ = subA pA0 pc0 (0 : Int).toNat 1 := ⟨_, rfl⟩
    rw [show subA pA0 pc0 (0 : Int).toNat Rep.u8.sz = A105 from el108.symm] at hr104
    have hl107 : y102.length ≤ pc0 - (0 : Int).toNat := cut_le hla0 hy102
    refine WL.ex rfl (ex_slice' (l := 0) (h := (wrap64 ((a0.length : Int) - 4))) rfl Tryd.underlying24 sz5 rfl ⟨_, rfl⟩ (cut_low hy102) (cut_mid hy102) (cut_cap hla0 hy102) el108 (cut_len hy102)) ?_
    obtain ⟨z109, hz109, H⟩ := bindE H
    refine WL.op rfl ?_
    refine OW.call [.slice A105 y102.length (pc0 - (0 : Int).toNat)] rfl Tryd.func13 (by kernel_rfl) (by kernel_rfl) (map_cons' rfl rfl) (octet_Seal.calls k _ _ A105 (pc0 - (0 : Int).toNat) y102 z109 (HF.ten (V := [0]) (L := []) rfl) (Row.vw (V := [0]) (L := []) hr104 rfl) hl107 hz109) ?_
    rintro _ w110 ⟨o111, v113, rfl, s112, hO114⟩
    refine ⟨_, rfl, ?_⟩
    replace hO114 := Own.un9 (J := [10]) 0 hO114 rfl s112 rfl rfl
    replace s112 := un_stepL (J := [10]) (L' := []) s112 rfl rfl
    replace hra0 := hra0.step s112 rfl
    replace hr104 := hr104.step s112 rfl
    replace HF := HF.step s112 rfl
    refine WL.ex rfl (ex_move (v := .slice pA0 a0.length pc0) rfl) ?_
    obtain ⟨A115, c116, q117e, q117l, q117⟩ := Own.vwRow (V := [0, 10]) (L := []) hO114 rfl rfl
    obtain ⟨z118, hz118, H⟩ := bindE H
    have q117e' := q117e
    refine WL.op rfl ?_
    refine OW.call [v113, .slice pA0 a0.length pc0] rfl Tryd.func42 (by kernel_rfl) (by kernel_rfl) (map_cons' rfl (map_cons' rfl rfl)) (by simp only [q117e]; exact (bytes_Equal.calls _ _ A115 c116 pA0 pc0 z109 a0 z118 (HF.ten (V := [0, 10]) (L := []) rfl) q117 q117l (Row.vw (V := [0, 10]) (L := []) hra0 rfl) hla0 hz118)) ?_
    rintro _ w119 ⟨o120, rfl, s121⟩
    refine ⟨_, rfl, ?_⟩
    replace s121 := un_stepL (J := []) (L' := []) s121 rfl rfl
    replace hra0 := hra0.step s121 rfl
    replace hr104 := hr104.step s121 rfl
    replace hO114 := hO114.step s121 rfl rfl
    replace HF := HF.step s121 rfl
    refine WL.ex rfl (ex_not (b := z118) rfl) ?_
    refine WL.nil ?_
    rcases condE H with ⟨c122, H⟩ | ⟨c122, H⟩
    ·
      refine WC.cond_t ((show _ = Value.bool (!z118) from rfl).trans (congrArg Value.bool c122)) ?_
      refine WC.seq ?_
      refine WC.region ?_
      refine WL.ex rfl (ex_assign (v := .slice none ([] : List UInt8).length 0) rfl) ?_
      refine WL.ex rfl (ex_assign (v := .int .i64 13) rfl) ?_
      refine WL.nil ?_
      refine WC.ret ?_
      obtain rfl := Option.some.inj H
      exact ⟨_, (.tmp (.slice none ([] : List UInt8).length 0 : Value) rfl (.tmp (.int .i64 13 : Value) rfl .nil)), _, (.slice none 0 0), rfl, HF.out, Own.nil⟩
    ·
      refine WC.cond_f ((show _ = Value.bool (!z118) from rfl).trans (congrArg Value.bool c122)) ?_
      refine WC.skip ?_
      refine WC.seq ?_
      refine WC.region ?_
      refine WL.ex rfl (ex_move (v := .slice pA0 a0.length pc0) rfl) ?_
      refine WL.ex rfl (ex_move (v := .int .i64 (wrap64 ((a0.length : Int) - 4))) rfl) ?_
      obtain ⟨y123, hy123, H⟩ := bindE H
      have hr125 := Row.cut hra0 hla0 hy123
      obtain ⟨A126, el129⟩ : ∃ A_, A_ = subA pA0 pc0 (0 : Int).toNat 1 := ⟨_, rfl⟩
      rw [show subA pA0 pc0 (0 : Int).toNat Rep.u8.sz = A126 from el129.symm] at hr125
      have hl128 : y123.length ≤ pc0 - (0 : Int).toNat := cut_le hla0 hy123
      refine WL.ex rfl (ex_slice' (l := 0) (h := (wrap64 ((a0.length : Int) - 4))) rfl Tryd.underlying24 sz5 rfl ⟨_, rfl⟩ (cut_low hy123) (cut_mid hy123) (cut_cap hla0 hy123) el129 (cut_len hy123)) ?_
      obtain ⟨z130, hz130, H⟩ := bindE H
      refine WL.op rfl ?_
      refine OW.call [.slice A126 y123.length (pc0 - (0 : Int).toNat)] rfl Tryd.func41 (by kernel_rfl) (by kernel_rfl) (map_cons' rfl rfl) (bytes_Clone.calls _ _ A126 (pc0 - (0 : Int).toNat) y123 z130 (HF.ten (V := [0]) (L := []) rfl) (Row.vw (V := [0]) (L := []) hr125 rfl) hl128 hz130) ?_
      rintro _ w131 ⟨o132, v134, rfl, s133, hO135⟩
      refine ⟨_, rfl, ?_⟩
      replace hO135 := Own.un9 (J := [11]) 0 hO135 rfl s133 rfl rfl
      replace s133 := un_stepL (J := [11]) (L' := []) s133 rfl rfl
      replace hra0 := hra0.step s133 rfl
      replace hr104 := hr104.step s133 rfl
      replace hO114 := hO114.step s133 rfl rfl
      replace hr125 := hr125.step s133 rfl
      replace HF := HF.step s133 rfl
      refine WL.ex rfl (ex_assign (v := v134) rfl) ?_
      refine WL.ex rfl (ex_assign (v := .int .i64 0) rfl) ?_
      refine WL.nil ?_
      refine WC.ret ?_
      obtain rfl := Option.some.inj H
      replace hO135 := Own.renTo (j := 9) hO135 rfl
      replace HF := HF.ren (i := 11) (j := 9) rfl
      exact ⟨_, (.tmp (v134 : Value) rfl (.tmp (.int .i64 0 : Value) rfl .nil)), _, v134, rfl, HF.out, hO135⟩

/-! ### octet_Writer_U8 -/
set_option maxRecDepth 100000 in
theorem octet_Writer_U8.calls (o0 : Tags) (w0 : World) (pb0 : Nat) (pv0_0 : Value) (a0 : T_octet_Writer) (a1 : UInt8) (r : T_octet_Writer) (hO : ∀ b, b < w0.heap.size → o0 b < 10) (hB0 : Bk o0 w0 2 pb0 [pv0_0] 26) (hO0_0 : Own Rep.u8 5 3 o0 w0 pv0_0 a0.f_B) (H : octet_Writer_U8.f a0 a1 = some r) :
    Calls Tryd.prog 27 [.pointer (some ⟨pb0, 0, none⟩), enc8 a1].toArray w0 fun e_ w_ => ∃ (o_ : Tags) (u0_0 : Value), e_ = .returned (one []) ∧ Step o0 w0 o_ w_ [2, 3] ∧ Bk o_ w_ 2 pb0 [u0_0] 26 ∧ Own Rep.u8 5 3 o_ w_ u0_0 r.f_B := by
  have HF := Fm.refl hO [2, 3]
  unfold octet_Writer_U8.f at H
  refine SX.calls [.pointer (some ⟨pb0, 0, none⟩), enc8 a1] Tryd.func27 rfl rfl ?_
  rw [Tryd.ntmps27]
  refine WC.seq ?_
  refine WC.region ?_
  refine WL.ex rfl (ex_move (v := .pointer (some ⟨pb0, 0, none⟩)) rfl) ?_
  refine WL.ex rfl (ex_bin (a := .pointer (some ⟨pb0, 0, none⟩)) (b := .pointer none) (v := .bool true) rfl rfl (bin_neq_ptrSN Tryd.underlying23)) ?_
  refine WL.nil ?_
  refine WC.cond_t rfl ?_
  refine WC.region ?_
  refine WL.ex rfl (ex_move (v := .pointer (some ⟨pb0, 0, none⟩)) rfl) ?_
  refine WL.ex rfl (ex_move (v := .pointer (some ⟨pb0, 0, none⟩)) rfl) ?_
  refine WL.ex rfl (ex_nilCheck rfl) ?_
  refine WL.ex rfl (ex_fieldAddr rfl Tryd.underlying26 rfl sz24) ?_
  refine WL.ex rfl (ex_load1 (v := pv0_0) rfl Tryd.underlying24 rfl (hB0.cell rfl)) ?_
  refine WL.ex rfl (ex_move (v := enc8 a1) rfl) ?_
  refine WL.op rfl ?_
  refine OW.row (r := Rep.u8) (xs := [a1]) [(0, enc8 a1)] [[enc8 a1]] 10 HF rfl Tryd.underlying24 sz5 zr5 rfl (evs_cons rfl rfl) rfl rfl ⟨rfl, trivial⟩ rfl rfl rfl rfl ?_
  intro o101 w102 v104 s103 hO105
  replace hO0_0 := hO0_0.step s103 rfl rfl
  replace hB0 := hB0.step s103 rfl
  replace HF := HF.step s103 rfl
  obtain ⟨A106, c107, q108_, _, q108⟩ := hO105.row
  obtain ⟨u109, hu109, H⟩ := bindE H
  refine WL.op rfl ?_
  refine OW.append (r := Rep.u8) (E := 5) (i := 3) rfl Tryd.underlying24 inf5 rfl (by decide) (by decide) (by decide) rfl ((show _ = (v104 : Value) from rfl).trans q108_) hO0_0 q108 rfl (of_decide_eq_true (chk_true hu109)) ?_
  intro o110 w111 v112 s113 hO114
  replace hB0 := hB0.step s113 rfl
  replace hO105 := hO105.step s113 rfl rfl
  replace HF := HF.step s113 rfl
  refine WL.ex rfl (ex_nilCheck rfl) ?_
  refine WL.ex rfl (ex_fieldAddr rfl Tryd.underlying26 rfl sz24) ?_
  refine WL.op rfl ?_
  refine OW.store [v112] rfl (vs := [v112]) ((congrArg Value.cells (show ev _ _ = (v112 : Value) from rfl)).trans (Own.cells1 hO114)) sz24 hB0 (Nat.le_of_ble_eq_true rfl) (by intro u_ hu_; simp only [List.mem_cons, List.not_mem_nil, or_false] at hu_; rcases hu_ with rfl; first | rfl | exact Own.oneCell hO114) rfl ?_
  intro w115 s116 hB117
  replace hO105 := hO105.step s116 rfl rfl
  replace hO114 := hO114.step s116 rfl rfl
  replace HF := HF.step s116 rfl
  refine WL.nil ?_
  obtain rfl := Option.some.inj H
  exact ⟨_, .nil, _, v112, rfl, HF.out, hB117, hO114⟩

/-! ### octet_Writer_Num -/
set_option maxRecDepth 100000 in
theorem octet_Writer_Num.calls (k : Nat) (o0 : Tags) (w0 : World) (pb0 : Nat) (pv0_0 : Value) (a0 : T_octet_Writer) (a1 : UInt64) (r : T_octet_Writer) (hO : ∀ b, b < w0.heap.size → o0 b < 10) (hB0 : Bk o0 w0 2 pb0 [pv0_0] 26) (hO0_0 : Own Rep.u8 5 3 o0 w0 pv0_0 a0.f_B) (H : octet_Writer_Num.f k a0 a1 = some r) :
    Calls Tryd.prog 28 [.pointer (some ⟨pb0, 0, none⟩), enc64 a1].toArray w0 fun e_ w_ => ∃ (o_ : Tags) (u0_0 : Value), e_ = .returned (one []) ∧ Step o0 w0 o_ w_ [2, 3] ∧ Bk o_ w_ 2 pb0 [u0_0] 26 ∧ Own Rep.u8 5 3 o_ w_ u0_0 r.f_B := by
  have HF := Fm.refl hO [2, 3]
  unfold octet_Writer_Num.f at H
  refine SX.calls [.pointer (some ⟨pb0, 0, none⟩), enc64 a1] Tryd.func28 rfl rfl ?_
  rw [Tryd.ntmps28]
  refine WC.seq ?_
  obtain ⟨z109, hz109, H⟩ := bindE H
  obtain ⟨x105, x106⟩ := z109
  refine WC.for (fun k_ ρ_ w_ => ∃ (o_ : Tags) (x101 : UInt64) (x102 : T_octet_Writer) (v103 : Value), Fm o0 w0 o_ w_ [2, 3] ∧ Bk o_ w_ 2 pb0 [v103] 26 ∧ Own Rep.u8 5 3 o_ w_ v103 x102.f_B ∧ ρ_ 0 = .pointer (some ⟨pb0, 0, none⟩) ∧ ρ_ 1 = enc64 x101 ∧ octet_Writer_Num.l1 k k_ x101 x102 = some (x105, x106)) k (fun ρ_ w_ => ∃ (o_ : Tags) (v107 : Value), Fm o0 w0 o_ w_ [2, 3] ∧ Bk o_ w_ 2 pb0 [v107] 26 ∧ Own Rep.u8 5 3 o_ w_ v107 x106.f_B ∧ ρ_ 0 = .pointer (some ⟨pb0, 0, none⟩) ∧ ρ_ 1 = enc64 x105) ⟨_, a1, a0, _, HF, hB0, hO0_0, rfl, rfl, hz109⟩ ?case110 ?_
  case case110 =>
    rintro ρ126 w124 ⟨o125, v107, HF, hB0, hO108, s0_104, s1_105⟩
    refine WC.region ?_
    refine WL.ex rfl (ex_move (v := .pointer (some ⟨pb0, 0, none⟩)) s0_104) ?_
    refine WL.ex rfl (ex_move (v := enc64 x105) s1_105) ?_
    refine WL.ex rfl (ex_conv_u8 (k := .u64) (a := (x105.toNat : Int)) rfl Tryd.underlying29 Tryd.underlying5) ?_
    obtain ⟨z127, hz127, H⟩ := bindE H
    refine WL.op rfl ?_
    refine OW.call [.pointer (some ⟨pb0, 0, none⟩), enc8 (ofI8 (x105.toNat : Int))] rfl Tryd.func27 (by kernel_rfl) (by kernel_rfl) (map_cons' rfl (map_cons' rfl rfl)) (octet_Writer_U8.calls _ _ pb0 v107 x106 (ofI8 (x105.toNat : Int)) z127 (HF.ten (V := [0]) (L := [2, 3]) rfl) (Bk.vw (V := [0]) (L := [2, 3]) hB0 rfl) (Own.vw (V := [0]) (L := [2, 3]) hO108 rfl rfl) hz127) ?_
    rintro _ w128 ⟨o129, v132, rfl, s130, hB131, hO133⟩
    refine ⟨_, rfl, ?_⟩
    replace hB131 := Bk.unO (J := []) 0 hB131 s130 rfl rfl rfl
    replace hO133 := Own.unO (J := []) 1 hO133 s130 rfl rfl rfl
    replace s130 := un_stepL (J := []) (L' := [2, 3]) s130 rfl rfl
    replace HF := HF.step s130 rfl
    refine WL.nil ?_
    obtain rfl := Option.some.inj H
    exact ⟨_, .nil, _, v132, rfl, HF.out, hB131, hO133⟩
  have Ho111 := H
  rintro k112 ρ113 w114 ⟨o115, x101, x102, v103, HF, hB0, hO104, s0_100, s1_101, H⟩
  cases k112 with
  | zero => cases H
  | succ k112 =>
  rw [octet_Writer_Num.l1.eq_2] at H
  refine WC.seq ?_
  refine WC.seq ?_
  refine WC.region ?_
  refine WL.ex rfl (ex_move (v := enc64 x101) s1_101) ?_
  refine WL.ex rfl (ex_bin (a := enc64 x101) (b := enc64 (128 : UInt64)) (v := .bool (decide ((128 : UInt64) ≤ x101))) rfl rfl bin_geq_u64) ?_
  refine WL.nil ?_
  rcases condE H with ⟨c116, H⟩ | ⟨c116, H⟩
  ·
    refine WC.cond_t ((show _ = Value.bool (decide ((128 : UInt64) ≤ x101)) from rfl).trans (congrArg Value.bool c116)) ?_
    refine WC.skip ?_
    refine WC.block ?_
    refine WC.seq ?_
    refine WC.region ?_
    refine WL.ex rfl (ex_move (v := .pointer (some ⟨pb0, 0, none⟩)) s0_100) ?_
    refine WL.ex rfl (ex_move (v := enc64 x101) s1_101) ?_
    refine WL.ex rfl (ex_conv_u8 (k := .u64) (a := (x101.toNat : Int)) rfl Tryd.underlying29 Tryd.underlying5) ?_
    refine WL.ex rfl (ex_bin (a := enc8 (ofI8 (x101.toNat : Int))) (b := enc8 (128 : UInt8)) (v := enc8 ((ofI8 (x101.toNat : Int)) ||| (128 : UInt8))) rfl rfl bin_or_u8) ?_
    obtain ⟨z117, hz117, H⟩ := bindE H
    refine WL.op rfl ?_
    refine OW.call [.pointer (some ⟨pb0, 0, none⟩), enc8 ((ofI8 (x101.toNat : Int)) ||| (128 : UInt8))] rfl Tryd.func27 (by kernel_rfl) (by kernel_rfl) (map_cons' rfl (map_cons' rfl rfl)) (octet_Writer_U8.calls _ _ pb0 v103 x102 ((ofI8 (x101.toNat : Int)) ||| (128 : UInt8)) z117 (HF.ten (V := [0]) (L := [2, 3]) rfl) (Bk.vw (V := [0]) (L := [2, 3]) hB0 rfl) (Own.vw (V := [0]) (L := [2, 3]) hO104 rfl rfl) hz117) ?_
    rintro _ w118 ⟨o119, v122, rfl, s120, hB121, hO123⟩
    refine ⟨_, rfl, ?_⟩
    replace hB121 := Bk.unO (J := []) 0 hB121 s120 rfl rfl rfl
    replace hO123 := Own.unO (J := []) 1 hO123 s120 rfl rfl rfl
    replace s120 := un_stepL (J := []) (L' := [2, 3]) s120 rfl rfl
    replace HF := HF.step s120 rfl
    refine WL.nil ?_
    refine WC.region ?_
    refine WL.ex rfl (ex_move (v := enc64 x101) s1_101) ?_
    refine WL.ex rfl (ex_bin (a := enc64 x101) (b := enc64 (7 : UInt64)) (v := enc64 (shr64 x101 7)) rfl rfl (bin_shr_u64n (n := 7))) ?_
    refine WL.ex rfl (ex_assign (v := enc64 (shr64 x101 7)) rfl) ?_
    refine WL.nil ?_
    exact ⟨k112, Nat.lt_succ_self _, ⟨_, shr64 x101 7, z117, _, HF, hB121, hO123, s0_100, rfl, H⟩⟩
  ·
    refine WC.cond_f ((show _ = Value.bool (decide ((128 : UInt64) ≤ x101)) from rfl).trans (congrArg Value.bool c116)) ?_
    refine WC.exit ?_
    obtain ⟨rfl, rfl⟩ := Prod.mk.inj (Option.some.inj H)
    exact ⟨_, _, HF, hB0, hO104, s0_100, s1_101⟩


/-! ### utf8.ValidString -/
theorem utf8_ValidString.calls (o0 : Tags) (w0 : World) (a0 : List UInt8) (r : Bool) (hO : ∀ b, b < w0.heap.size → o0 b < 10) (hG : Gl GG o0 w0) (H : utf8_ValidString.f a0 = some r) :
    Calls Tryd.prog 46 [encS a0].toArray w0 fun e_ w_ => ∃ (o_ : Tags), e_ = .returned (one [.bool r]) ∧ Step o0 w0 o_ w_ [] := by
  unfold utf8_ValidString.f at H
  obtain ⟨u, hu, H⟩ := bindE H
  obtain rfl := Option.some.inj H
  have h := Any.utf8_ValidString Tryd.lays196 ⟨a0.toArray⟩ w0 (by rw [size_enc]; exact of_decide_eq_true (chk_true hu)) hG.2.1
  refine Calls.mono h ?_
  rintro e w ⟨rfl, hb⟩
  exact ⟨o0, rfl, below_step hb⟩

/-! ### octet_Writer_Text -/
set_option maxRecDepth 100000 in
theorem octet_Writer_Text.calls (k : Nat) (o0 : Tags) (w0 : World) (pb0 : Nat) (pv0_0 : Value) (a0 : T_octet_Writer) (a1 : List UInt8) (r : Int × T_octet_Writer) (hO : ∀ b, b < w0.heap.size → o0 b < 10) (hB0 : Bk o0 w0 2 pb0 [pv0_0] 26) (hO0_0 : Own Rep.u8 5 3 o0 w0 pv0_0 a0.f_B) (hG : Gl GG o0 w0) (H : octet_Writer_Text.f k a0 a1 = some r) :
    Calls Tryd.prog 29 [.pointer (some ⟨pb0, 0, none⟩), encS a1].toArray w0 fun e_ w_ => ∃ (o_ : Tags) (u0_0 : Value), e_ = .returned (one [.int .i64 r.1]) ∧ Step o0 w0 o_ w_ [2, 3] ∧ Bk o_ w_ 2 pb0 [u0_0] 26 ∧ Own Rep.u8 5 3 o_ w_ u0_0 r.2.f_B := by
  have HF := Fm.refl hO [2, 3]
  unfold octet_Writer_Text.f at H
  refine SX.calls [.pointer (some ⟨pb0, 0, none⟩), encS a1] Tryd.func29 rfl rfl ?_
  rw [Tryd.ntmps29]
  refine WC.seq ?_
  refine WC.region ?_
  refine WL.ex rfl (ex_assign (v := .int .i64 0) rfl) ?_
  refine WL.nil ?_
  refine WC.seq ?_
  refine WC.block ?_
  refine WC.seq ?_
  refine WC.region ?_
  refine WL.ex rfl (ex_move (v := .pointer (some ⟨pb0, 0, none⟩)) rfl) ?_
  refine WL.ex rfl (ex_bin (a := .pointer (some ⟨pb0, 0, none⟩)) (b := .pointer none) (v := .bool false) rfl rfl (bin_eql_ptrSN Tryd.underlying23)) ?_
  refine WL.ex rfl (ex_assign (v := .bool false) rfl) ?_
  refine WL.nil ?_
  refine WC.cond_f rfl ?_
  refine WC.seq ?_
  refine WC.region ?_
  refine WL.ex rfl (ex_move (v := encS a1) rfl) ?_
  obtain ⟨z101, hz101, H⟩ := bindE H
  refine WL.op rfl ?_
  refine OW.call [encS a1] rfl Tryd.func46 (by kernel_rfl) (by kernel_rfl) (map_cons' rfl rfl) (utf8_ValidString.calls _ _ a1 z101 (HF.ten (V := [0]) (L := []) rfl) (Gl.vw (V := [0]) (L := []) hG rfl) hz101) ?_
  rintro _ w102 ⟨o103, rfl, s104⟩
  refine ⟨_, rfl, ?_⟩
  replace s104 := un_stepL (J := []) (L' := []) s104 rfl rfl
  replace hO0_0 := hO0_0.step s104 rfl rfl
  replace hB0 := hB0.step s104 rfl
  replace hG := hG.step s104 rfl
  replace HF := HF.step s104 rfl
  refine WL.ex rfl (ex_not (b := z101) rfl) ?_
  refine WL.ex rfl (ex_assign (v := .bool (!z101)) rfl) ?_
  refine WL.nil ?_
  rcases condE H with ⟨c105, H⟩ | ⟨c105, H⟩
  ·
    refine WC.cond_t ((show _ = Value.bool (!z101) from rfl).trans (congrArg Value.bool c105)) ?_
    refine WC.seq ?_
    refine WC.region ?_
    refine WL.ex rfl (ex_assign (v := .int .i64 12) rfl) ?_
    refine WL.nil ?_
    refine WC.ret ?_
    obtain rfl := Option.some.inj H
    exact ⟨_, (.tmp (.int .i64 12 : Value) rfl .nil), _, pv0_0, rfl, HF.out, hB0, hO0_0⟩
  ·
    refine WC.cond_f ((show _ = Value.bool (!z101) from rfl).trans (congrArg Value.bool c105)) ?_
    refine WC.seq ?_
    refine WC.region ?_
    refine WL.ex rfl (ex_move (v := encS a1) rfl) ?_
    refine WL.ex rfl (ex_len_str (s := a1) rfl Tryd.underlying9) ?_
    refine WL.ex rfl (ex_bin (a := .int .i64 (a1.length : Int)) (b := .int .i64 65536) (v := .bool (decide ((a1.length : Int) > 65536))) rfl rfl bin_gtr) ?_
    refine WL.ex rfl (ex_assign (v := .bool (decide ((a1.length : Int) > 65536))) rfl) ?_
    refine WL.nil ?_
    rcases condE H with ⟨c106, H⟩ | ⟨c106, H⟩
    ·
      refine WC.cond_t ((show _ = Value.bool (decide ((a1.length : Int) > 65536)) from rfl).trans (congrArg Value.bool c106)) ?_
      refine WC.seq ?_
      refine WC.region ?_
      refine WL.ex rfl (ex_assign (v := .int .i64 11) rfl) ?_
      refine WL.nil ?_
      refine WC.ret ?_
      obtain rfl := Option.some.inj H
      exact ⟨_, (.tmp (.int .i64 11 : Value) rfl .nil), _, pv0_0, rfl, HF.out, hB0, hO0_0⟩
    ·
      refine WC.cond_f ((show _ = Value.bool (decide ((a1.length : Int) > 65536)) from rfl).trans (congrArg Value.bool c106)) ?_
      refine WC.skip ?_
      refine WC.seq ?_
      refine WC.region ?_
      refine WL.ex rfl (ex_move (v := .pointer (some ⟨pb0, 0, none⟩)) rfl) ?_
      refine WL.ex rfl (ex_move (v := encS a1) rfl) ?_
      refine WL.ex rfl (ex_len_str (s := a1) rfl Tryd.underlying9) ?_
      refine WL.ex rfl (ex_conv_u64 (k := .i64) (a := (a1.length : Int)) rfl Tryd.underlying3 Tryd.underlying29) ?_
      obtain ⟨z107, hz107, H⟩ := bindE H
      refine WL.op rfl ?_
      refine OW.call [.pointer (some ⟨pb0, 0, none⟩), enc64 (ofI64 (a1.length : Int))] rfl Tryd.func28 (by kernel_rfl) (by kernel_rfl) (map_cons' rfl (map_cons' rfl rfl)) (octet_Writer_Num.calls k _ _ pb0 pv0_0 a0 (ofI64 (a1.length : Int)) z107 (HF.ten (V := [0]) (L := [2, 3]) rfl) (Bk.vw (V := [0]) (L := [2, 3]) hB0 rfl) (Own.vw (V := [0]) (L := [2, 3]) hO0_0 rfl rfl) hz107) ?_
      rintro _ w108 ⟨o109, v112, rfl, s110, hB111, hO113⟩
      refine ⟨_, rfl, ?_⟩
      replace hB111 := Bk.unO (J := []) 0 hB111 s110 rfl rfl rfl
      replace hO113 := Own.unO (J := []) 1 hO113 s110 rfl rfl rfl
      replace s110 := un_stepL (J := []) (L' := [2, 3]) s110 rfl rfl
      replace hG := hG.step s110 rfl
      replace HF := HF.step s110 rfl
      refine WL.nil ?_
      refine WC.seq ?_
      refine WC.region ?_
      refine WL.ex rfl (ex_move (v := .pointer (some ⟨pb0, 0, none⟩)) rfl) ?_
      refine WL.ex rfl (ex_move (v := .pointer (some ⟨pb0, 0, none⟩)) rfl) ?_
      refine WL.ex rfl (ex_nilCheck rfl) ?_
      refine WL.ex rfl (ex_fieldAddr rfl Tryd.underlying26 rfl sz24) ?_
      refine WL.ex rfl (ex_load1 (v := v112) rfl Tryd.underlying24 rfl (hB111.cell rfl)) ?_
      refine WL.ex rfl (ex_move (v := encS a1) rfl) ?_
      obtain ⟨u114, hu114, H⟩ := bindE H
      refine WL.op rfl ?_
      refine OW.appendStr (E := 5) (i := 3) (s := a1) rfl Tryd.underlying24 Tryd.underlying9 inf5 (by decide) rfl rfl hO113 (of_decide_eq_true (chk_true hu114)) ?_
      intro o115 w116 v117 s118 hO119
      replace hG := hG.step s118 rfl
      replace hB111 := hB111.step s118 rfl
      replace HF := HF.step s118 rfl
      refine WL.ex rfl (ex_nilCheck rfl) ?_
      refine WL.ex rfl (ex_fieldAddr rfl Tryd.underlying26 rfl sz24) ?_
      refine WL.op rfl ?_
      refine OW.store [v117] rfl (vs := [v117]) ((congrArg Value.cells (show ev _ _ = (v117 : Value) from rfl)).trans (Own.cells1 hO119)) sz24 hB111 (Nat.le_of_ble_eq_true rfl) (by intro u_ hu_; simp only [List.mem_cons, List.not_mem_nil, or_false] at hu_; rcases hu_ with rfl; first | rfl | exact Own.oneCell hO119) rfl ?_
      intro w120 s121 hB122
      replace hG := hG.step s121 rfl
      replace hO119 := hO119.step s121 rfl rfl
      replace HF := HF.step s121 rfl
      refine WL.nil ?_
      refine WC.seq ?_
      refine WC.region ?_
      refine WL.ex rfl (ex_assign (v := .int .i64 0) rfl) ?_
      refine WL.nil ?_
      refine WC.ret ?_
      obtain rfl := Option.some.inj H
      exact ⟨_, (.tmp (.int .i64 0 : Value) rfl .nil), _, v117, rfl, HF.out, hB122, hO119⟩

/-! ### octet_NewReader -/
set_option maxRecDepth 100000 in
theorem octet_NewReader.calls (o0 : Tags) (w0 : World) (pA0 : Option Addr) (pc0 : Nat) (a0 : (List UInt8)) (r : T_octet_Reader) (hO : ∀ b, b < w0.heap.size → o0 b < 10) (hra0 : Row Rep.u8 (fun b_ => o0 b_ = 0) (fun b_ => o0 b_ = 0) w0 pA0 a0) (hla0 : a0.length ≤ pc0) (H : octet_NewReader.f a0 = some r) :
    Calls Tryd.prog 19 [.slice pA0 a0.length pc0].toArray w0 fun e_ w_ => ∃ (o_ : Tags) (b_0 : Nat) (rv0_1 : Value), e_ = .returned (one [.pointer (some ⟨b_0, 0, none⟩)]) ∧ Step o0 w0 o_ w_ [] ∧ Bk o_ w_ 9 b_0 [.bool r.f_made, rv0_1] 68 ∧ Own Rep.u8 5 8 o_ w_ rv0_1 r.f_left := by
  have HF := Fm.refl hO []
  unfold octet_NewReader.f at H
  refine SX.calls [.slice pA0 a0.length pc0] Tryd.func19 rfl rfl ?_
  rw [Tryd.ntmps19]
  refine WC.seq ?_
  refine WC.region ?_
  refine WL.ex rfl (ex_assign (v := .pointer none) rfl) ?_
  refine WL.nil ?_
  refine WC.seq ?_
  refine WC.region ?_
  refine WL.ex rfl (ex_move (v := .slice pA0 a0.length pc0) rfl) ?_
  obtain ⟨z101, hz101, H⟩ := bindE H
  refine WL.op rfl ?_
  refine OW.call [.slice pA0 a0.length pc0] rfl Tryd.func41 (by kernel_rfl) (by kernel_rfl) (map_cons' rfl rfl) (bytes_Clone.calls _ _ pA0 pc0 a0 z101 (HF.ten (V := [0]) (L := []) rfl) (Row.vw (V := [0]) (L := []) hra0 rfl) hla0 hz101) ?_
  rintro _ w102 ⟨o103, v105, rfl, s104, hO106⟩
  refine ⟨_, rfl, ?_⟩
  replace hO106 := Own.un9 (J := [10]) 0 hO106 rfl s104 rfl rfl
  replace s104 := un_stepL (J := [10]) (L' := []) s104 rfl rfl
  replace hra0 := hra0.step s104 rfl
  replace HF := HF.step s104 rfl
  refine WL.ex rfl (ex_build (cs := [.bool true, v105]) [(0, 1), (1, 1)] [(0, .bool true), (1, v105)] [.bool false, .slice none 0 0] Tryd.underlying68 zr68 rfl (by kernel_rfl) (evs_cons rfl (evs_cons rfl rfl)) (by simp only [List.map_cons, List.map_nil, Own.cells1 hO106] <;> rfl)) ?_
  refine WL.op rfl ?_
  refine OW.box' [.bool true, v105] 11 HF rfl ((congrArg Value.cells (show ev _ _ = (.agg #[.bool true, v105] : Value) from rfl)).trans rfl) ?_
  intro o108 w109 b107 s110 hB111
  replace hra0 := hra0.step s110 rfl
  replace hO106 := hO106.step s110 rfl rfl
  replace HF := HF.step s110 rfl
  refine WL.ex rfl (ex_assign (v := .pointer (some ⟨b107, 0, none⟩)) rfl) ?_
  refine WL.nil ?_
  refine WC.ret ?_
  obtain rfl := Option.some.inj H
  replace hB111 := Bk.renTo (j := 9) hB111
  replace hO106 := Own.ren (i := 11) (j := 9) hO106 rfl rfl
  replace HF := HF.ren (i := 11) (j := 9) rfl
  replace hB111 := Bk.ren (i := 10) (j := 8) hB111 rfl
  replace hO106 := Own.renTo (j := 8) hO106 rfl
  replace HF := HF.ren (i := 10) (j := 8) rfl
  exact ⟨_, (.tmp (.pointer (some ⟨b107, 0, none⟩) : Value) rfl .nil), _, b107, v105, rfl, HF.out, hB111, hO106⟩

/-! ### octet_Reader_alive -/
set_option maxRecDepth 100000 in
theorem octet_Reader_alive.calls (o0 : Tags) (w0 : World) (pb0 : Nat) (pA0_1 : Option Addr) (pc0_1 : Nat) (a0 : T_octet_Reader) (r : Bool) (hO : ∀ b, b < w0.heap.size → o0 b < 10) (hB0 : Bk o0 w0 2 pb0 [.bool a0.f_made, .slice pA0_1 a0.f_left.length pc0_1] 68) (hra0_1 : Row Rep.u8 (fun b_ => o0 b_ = 0) (fun b_ => o0 b_ = 0) w0 pA0_1 a0.f_left) (hla0_1 : a0.f_left.length ≤ pc0_1) (H : octet_Reader_alive.f a0 = some r) :
    Calls Tryd.prog 43 [.pointer (some ⟨pb0, 0, none⟩)].toArray w0 fun e_ w_ => ∃ (o_ : Tags), e_ = .returned (one [.bool r]) ∧ Step o0 w0 o_ w_ [] := by
  have HF := Fm.refl hO []
  unfold octet_Reader_alive.f at H
  refine SX.calls [.pointer (some ⟨pb0, 0, none⟩)] Tryd.func43 rfl rfl ?_
  rw [Tryd.ntmps43]
  refine WC.seq ?_
  refine WC.region ?_
  refine WL.ex rfl (ex_assign (v := .bool false) rfl) ?_
  refine WL.nil ?_
  refine WC.seq ?_
  refine WC.region ?_
  refine WL.ex rfl (ex_move (v := .pointer (some ⟨pb0, 0, none⟩)) rfl) ?_
  refine WL.ex rfl (ex_bin (a := .pointer (some ⟨pb0, 0, none⟩)) (b := .pointer none) (v := .bool true) rfl rfl (bin_neq_ptrSN Tryd.underlying48)) ?_
  refine WL.ex rfl (ex_move (v := .bool true) rfl) ?_
  refine WL.guardYes rfl rfl rfl rfl ?_
  refine OW.ex rfl (ex_move (v := .pointer (some ⟨pb0, 0, none⟩)) rfl) ?_
  refine WL.guardYes rfl rfl rfl rfl ?_
  refine OW.ex rfl (ex_nilCheck rfl) ?_
  refine WL.guardYes rfl rfl rfl rfl ?_
  refine OW.ex rfl (ex_fieldAddr rfl Tryd.underlying68 rfl sz4) ?_
  refine WL.guardYes rfl rfl rfl rfl ?_
  refine OW.ex rfl (ex_load1 (v := .bool a0.f_made) rfl Tryd.underlying4 rfl (hB0.cell rfl)) ?_
  refine WL.ex rfl (ex_pick_t (v := .bool a0.f_made) rfl rfl) ?_
  refine WL.ex rfl (ex_assign (v := .bool a0.f_made) rfl) ?_
  refine WL.nil ?_
  refine WC.ret ?_
  obtain rfl := Option.some.inj H
  exact ⟨_, (.tmp (.bool a0.f_made : Value) rfl .nil), _, rfl, HF.out⟩

/-! ### octet_Reader_Num -/
set_option maxRecDepth 100000 in
theorem octet_Reader_Num.calls (k : Nat) (o0 : Tags) (w0 : World) (pb0 : Nat) (pA0_1 : Option Addr) (pc0_1 : Nat) (a0 : T_octet_Reader) (r : UInt64 × Int × T_octet_Reader) (hO : ∀ b, b < w0.heap.size → o0 b < 10) (hB0 : Bk o0 w0 2 pb0 [.bool a0.f_made, .slice pA0_1 a0.f_left.length pc0_1] 68) (hra0_1 : Row Rep.u8 (fun b_ => o0 b_ = 0) (fun b_ => o0 b_ = 0) w0 pA0_1 a0.f_left) (hla0_1 : a0.f_left.length ≤ pc0_1) (H : octet_Reader_Num.f k a0 = some r) :
    Calls Tryd.prog 21 [.pointer (some ⟨pb0, 0, none⟩)].toArray w0 fun e_ w_ => ∃ (o_ : Tags) (B_0_1 : Option Addr) (d_0_1 : Nat), e_ = .returned (one [enc64 r.1, .int .i64 r.2.1]) ∧ Step o0 w0 o_ w_ [2] ∧ Bk o_ w_ 2 pb0 [.bool r.2.2.f_made, .slice B_0_1 r.2.2.f_left.length d_0_1] 68 ∧ r.2.2.f_left.length ≤ d_0_1 ∧ Row Rep.u8 (fun b_ => o_ b_ = 0) (fun b_ => o_ b_ = 0) w_ B_0_1 r.2.2.f_left := by
  have HF := Fm.refl hO [2]
  unfold octet_Reader_Num.f at H
  refine SX.calls [.pointer (some ⟨pb0, 0, none⟩)] Tryd.func21 rfl rfl ?_
  rw [Tryd.ntmps21]
  refine WC.seq ?_
  refine WC.region ?_
  refine WL.ex rfl (ex_assign (v := enc64 (0 : UInt64)) rfl) ?_
  refine WL.ex rfl (ex_assign (v := .int .i64 0) rfl) ?_
  refine WL.nil ?_
  refine WC.seq ?_
  refine WC.seq ?_
  refine WC.region ?_
  refine WL.ex rfl (ex_move (v := .pointer (some ⟨pb0, 0, none⟩)) rfl) ?_
  obtain ⟨z101, hz101, H⟩ := bindE H
  refine WL.op rfl ?_
  refine OW.call [.pointer (some ⟨pb0, 0, none⟩)] rfl Tryd.func43 (by kernel_rfl) (by kernel_rfl) (map_cons' rfl rfl) (octet_Reader_alive.calls _ _ pb0 pA0_1 pc0_1 a0 z101 (HF.ten (V := [0]) (L := [2]) rfl) (Bk.vw (V := [0]) (L := [2]) hB0 rfl) (Row.vw (V := [0]) (L := [2]) hra0_1 rfl) hla0_1 hz101) ?_
  rintro _ w102 ⟨o103, rfl, s104⟩
  refine ⟨_, rfl, ?_⟩
  replace s104 := un_stepL (J := []) (L' := []) s104 rfl rfl
  replace hra0_1 := hra0_1.step s104 rfl
  replace hB0 := hB0.step s104 rfl
  replace HF := HF.step s104 rfl
  refine WL.ex rfl (ex_not (b := z101) rfl) ?_
  refine WL.nil ?_
  rcases condE H with ⟨c105, H⟩ | ⟨c105, H⟩
  ·
    refine WC.cond_t ((show _ = Value.bool (!z101) from rfl).trans (congrArg Value.bool c105)) ?_
    refine WC.seq ?_
    refine WC.region ?_
    refine WL.ex rfl (ex_assign (v := enc64 (0 : UInt64)) rfl) ?_
    refine WL.ex rfl (ex_assign (v := .int .i64 1) rfl) ?_
    refine WL.nil ?_
    refine WC.ret ?_
    obtain rfl := Option.some.inj H
    exact ⟨_, (.tmp (enc64 (0 : UInt64) : Value) rfl (.tmp (.int .i64 1 : Value) rfl .nil)), _, pA0_1, pc0_1, rfl, HF.out, hB0, hla0_1, hra0_1⟩
  ·
    refine WC.cond_f ((show _ = Value.bool (!z101) from rfl).trans (congrArg Value.bool c105)) ?_
    refine WC.skip ?_
    refine WC.seq ?_
    refine WC.region ?_
    refine WL.ex rfl (ex_assign (v := enc64 (0 : UInt64)) rfl) ?_
    refine WL.nil ?_
    refine WC.seq ?_
    refine WC.seq ?_
    refine WC.region ?_
    refine WL.ex rfl (ex_move (v := .pointer (some ⟨pb0, 0, none⟩)) rfl) ?_
    refine WL.ex rfl (ex_nilCheck rfl) ?_
    refine WL.ex rfl (ex_fieldAddr rfl Tryd.underlying68 rfl sz24) ?_
    refine WL.ex rfl (ex_load1 (v := .slice pA0_1 a0.f_left.length pc0_1) rfl Tryd.underlying24 rfl (hB0.cell rfl)) ?_
    refine WL.ex rfl (ex_len_slice (A := pA0_1) (m := a0.f_left.length) (c := pc0_1) rfl Tryd.underlying24) ?_
    refine WL.ex rfl (ex_move (v := .int .i64 0) rfl) ?_
    refine WL.nil ?_
    obtain ⟨z108, hz108, H⟩ := bindE H
    refine WC.for (fun k_ ρ_ w_ => ∃ (o_ : Tags) (x106 : UInt64) (x107 : Int), Fm o0 w0 o_ w_ [2] ∧ Row Rep.u8 (fun b_ => o_ b_ = 0) (fun b_ => o_ b_ = 0) w_ pA0_1 a0.f_left ∧ Bk o_ w_ 2 pb0 [.bool a0.f_made, .slice pA0_1 a0.f_left.length pc0_1] 68 ∧ ρ_ 0 = .pointer (some ⟨pb0, 0, none⟩) ∧ ρ_ 2 = enc64 (0 : UInt64) ∧ ρ_ 3 = .int .i64 0 ∧ ρ_ 4 = enc64 x106 ∧ ρ_ 13 = .slice pA0_1 a0.f_left.length pc0_1 ∧ ρ_ 14 = .int .i64 (a0.f_left.length : Int) ∧ ρ_ 15 = .int .i64 x107 ∧ octet_Reader_Num.l1 k a0 k_ x106 x107 = some z108) k (fun ρ_ w_ => ∃ (o_ : Tags), Fm o0 w0 o_ w_ [2] ∧ Bk o_ w_ 2 pb0 [.bool a0.f_made, .slice pA0_1 a0.f_left.length pc0_1] 68 ∧ Row Rep.u8 (fun b_ => o_ b_ = 0) (fun b_ => o_ b_ = 0) w_ pA0_1 a0.f_left ∧ ρ_ 2 = enc64 (0 : UInt64) ∧ ρ_ 3 = .int .i64 0 ∧ z108 = .inr ()) ⟨_, (0 : UInt64), 0, HF, hra0_1, hB0, rfl, rfl, rfl, rfl, rfl, rfl, rfl, hz108⟩ ?case109 ?_
    case case109 =>
      rintro ρ155 w153 ⟨o154, HF, hB0, hra0_1, s2_107, s3_107, rfl⟩
      dsimp only at H
      refine WC.seq ?_
      refine WC.region ?_
      refine WL.ex rfl (ex_assign (v := enc64 (0 : UInt64)) rfl) ?_
      refine WL.ex rfl (ex_assign (v := .int .i64 10) rfl) ?_
      refine WL.nil ?_
      refine WC.ret ?_
      obtain rfl := Option.some.inj H
      exact ⟨_, (.tmp (enc64 (0 : UInt64) : Value) rfl (.tmp (.int .i64 10 : Value) rfl .nil)), _, pA0_1, pc0_1, rfl, HF.out, hB0, hla0_1, hra0_1⟩
    have Ho110 := H
    rintro k111 ρ112 w113 ⟨o114, x106, x107, HF, hra0_1, hB0, s0_105, s2_105, s3_105, s4_106, s13_106, s14_106, s15_107, H⟩
    cases k111 with
    | zero => cases H
    | succ k111 =>
    rw [octet_Reader_Num.l1.eq_2] at H
    refine WC.seq ?_
    refine WC.region ?_
    refine WL.ex rfl (ex_bin (a := .int .i64 x107) (b := .int .i64 (a0.f_left.length : Int)) (v := .bool (decide (x107 < (a0.f_left.length : Int)))) s15_107 s14_106 bin_lss) ?_
    refine WL.nil ?_
    refine WC.seq ?_
    rcases condE H with ⟨c115, H⟩ | ⟨c115, H⟩
    ·
      refine WC.cond_t ((show _ = Value.bool (decide (x107 < (a0.f_left.length : Int))) from rfl).trans (congrArg Value.bool c115)) ?_
      refine WC.skip ?_
      refine WC.seq ?_
      refine WC.block ?_
      refine WC.seq ?_
      refine WC.region ?_
      refine WL.ex rfl (ex_move (v := .int .i64 x107) s15_107) ?_
      obtain ⟨x116, hx116, H⟩ := bindE H
      obtain ⟨ad117, e118, g119, g120, cell121⟩ := Row.ixS hra0_1 hx116
      refine WL.ex rfl (ex_indexAddr (i := x107) s13_106 e118 s15_107 Tryd.underlying24 sz5 g119 g120) ?_
      refine WL.ex rfl (ex_load1 (v := enc8 x116) rfl Tryd.underlying5 rfl cell121) ?_
      refine WL.ex rfl (ex_assign (v := .int .i64 x107) rfl) ?_
      refine WL.ex rfl (ex_assign (v := enc8 x116) rfl) ?_
      refine WL.nil ?_
      refine WC.seq ?_
      obtain ⟨z124, hz124, H⟩ := bindE H
      refine WC.cut (fun ρ_ w_ => ∃ (o_ : Tags), Fm o0 w0 o_ w_ [2] ∧ Row Rep.u8 (fun b_ => o_ b_ = 0) (fun b_ => o_ b_ = 0) w_ pA0_1 a0.f_left ∧ Bk o_ w_ 2 pb0 [.bool a0.f_made, .slice pA0_1 a0.f_left.length pc0_1] 68 ∧ ρ_ 0 = .pointer (some ⟨pb0, 0, none⟩) ∧ ρ_ 2 = enc64 (0 : UInt64) ∧ ρ_ 3 = .int .i64 0 ∧ ρ_ 4 = enc64 x106 ∧ ρ_ 5 = .int .i64 x107 ∧ ρ_ 6 = enc8 x116 ∧ ρ_ 13 = .slice pA0_1 a0.f_left.length pc0_1 ∧ ρ_ 14 = .int .i64 (a0.f_left.length : Int) ∧ ρ_ 15 = .int .i64 x107 ∧ ρ_ 25 = .bool z124) ?case125 ?_
      case case125 =>
        rintro ρ128 w126 ⟨o127, HF, hra0_1, hB0, s0_122, s2_122, s3_122, s4_122, s5_122, s6_122, s13_122, s14_122, s15_122, s25_123⟩
        rcases condE H with ⟨c129, H⟩ | ⟨c129, H⟩
        ·
          refine WC.cond_t ((show _ = Value.bool z124 from s25_123).trans (congrArg Value.bool c129)) ?_
          refine WC.seq ?_
          refine WC.region ?_
          refine WL.ex rfl (ex_assign (v := enc64 (0 : UInt64)) rfl) ?_
          refine WL.ex rfl (ex_assign (v := .int .i64 11) rfl) ?_
          refine WL.nil ?_
          refine WC.ret ?_
          obtain rfl := Option.some.inj H
          replace H := Ho110
          dsimp only at H
          obtain rfl := Option.some.inj H
          exact ⟨_, (.tmp (enc64 (0 : UInt64) : Value) rfl (.tmp (.int .i64 11 : Value) rfl .nil)), _, pA0_1, pc0_1, rfl, HF.out, hB0, hla0_1, hra0_1⟩
        ·
          refine WC.cond_f ((show _ = Value.bool z124 from s25_123).trans (congrArg Value.bool c129)) ?_
          refine WC.skip ?_
          refine WC.seq ?_
          refine WC.region ?_
          refine WL.ex rfl (ex_move (v := enc64 x106) s4_122) ?_
          refine WL.ex rfl (ex_move (v := enc8 x116) s6_122) ?_
          refine WL.ex rfl (ex_bin (a := enc8 x116) (b := enc8 (127 : UInt8)) (v := enc8 (x116 &&& (127 : UInt8))) rfl rfl bin_and_u8) ?_
          refine WL.ex rfl (ex_conv_u64 (k := .u8) (a := ((x116 &&& (127 : UInt8)).toNat : Int)) rfl Tryd.underlying5 Tryd.underlying29) ?_
          refine WL.ex rfl (ex_move (v := .int .i64 x107) s5_122) ?_
          refine WL.ex rfl (ex_bin (a := .int .i64 7) (b := .int .i64 x107) (v := .int .i64 (wrap64 (7 * x107))) rfl rfl bin_mul64) ?_
          obtain ⟨u130, hu130, H⟩ := bindE H
          refine WL.ex rfl (ex_bin (a := enc64 (ofI64 ((x116 &&& (127 : UInt8)).toNat : Int))) (b := .int .i64 (wrap64 (7 * x107))) (v := enc64 (shl64 (ofI64 ((x116 &&& (127 : UInt8)).toNat : Int)) (wrap64 (7 * x107)).toNat)) rfl rfl (bin_shl_u64 (of_decide_eq_true (chk_true hu130)))) ?_
          refine WL.ex rfl (ex_bin (a := enc64 x106) (b := enc64 (shl64 (ofI64 ((x116 &&& (127 : UInt8)).toNat : Int)) (wrap64 (7 * x107)).toNat)) (v := enc64 (x106 ||| (shl64 (ofI64 ((x116 &&& (127 : UInt8)).toNat : Int)) (wrap64 (7 * x107)).toNat))) rfl rfl bin_or_u64) ?_
          refine WL.ex rfl (ex_assign (v := enc64 (x106 ||| (shl64 (ofI64 ((x116 &&& (127 : UInt8)).toNat : Int)) (wrap64 (7 * x107)).toNat))) rfl) ?_
          refine WL.nil ?_
          refine WC.seq ?_
          refine WC.region ?_
          refine WL.ex rfl (ex_move (v := enc8 x116) s6_122) ?_
          refine WL.ex rfl (ex_bin (a := enc8 x116) (b := enc8 (128 : UInt8)) (v := .bool (decide (x116 < (128 : UInt8)))) rfl rfl bin_lss_u8) ?_
          refine WL.nil ?_
          rcases condE H with ⟨c131, H⟩ | ⟨c131, H⟩
          ·
            refine WC.cond_t ((show _ = Value.bool (decide (x116 < (128 : UInt8))) from rfl).trans (congrArg Value.bool c131)) ?_
            refine WC.seq ?_
            obtain ⟨z133, hz133, H⟩ := bindE H
            refine WC.cut (fun ρ_ w_ => ∃ (o_ : Tags), Fm o0 w0 o_ w_ [2] ∧ Row Rep.u8 (fun b_ => o_ b_ = 0) (fun b_ => o_ b_ = 0) w_ pA0_1 a0.f_left ∧ Bk o_ w_ 2 pb0 [.bool a0.f_made, .slice pA0_1 a0.f_left.length pc0_1] 68 ∧ ρ_ 0 = .pointer (some ⟨pb0, 0, none⟩) ∧ ρ_ 2 = enc64 (0 : UInt64) ∧ ρ_ 3 = .int .i64 0 ∧ ρ_ 4 = enc64 (x106 ||| (shl64 (ofI64 ((x116 &&& (127 : UInt8)).toNat : Int)) (wrap64 (7 * x107)).toNat)) ∧ ρ_ 5 = .int .i64 x107 ∧ ρ_ 13 = .slice pA0_1 a0.f_left.length pc0_1 ∧ ρ_ 14 = .int .i64 (a0.f_left.length : Int) ∧ ρ_ 15 = .int .i64 x107 ∧ ρ_ 41 = .bool z133) ?case134 ?_
            case case134 =>
              rintro ρ137 w135 ⟨o136, HF, hra0_1, hB0, s0_131, s2_131, s3_131, s4_131, s5_131, s13_131, s14_131, s15_131, s41_132⟩
              rcases condE H with ⟨c138, H⟩ | ⟨c138, H⟩
              ·
                refine WC.cond_t ((show _ = Value.bool z133 from s41_132).trans (congrArg Value.bool c138)) ?_
                refine WC.seq ?_
                refine WC.region ?_
                refine WL.ex rfl (ex_assign (v := enc64 (0 : UInt64)) rfl) ?_
                refine WL.ex rfl (ex_assign (v := .int .i64 11) rfl) ?_
                refine WL.nil ?_
                refine WC.ret ?_
                obtain rfl := Option.some.inj H
                replace H := Ho110
                dsimp only at H
                obtain rfl := Option.some.inj H
                exact ⟨_, (.tmp (enc64 (0 : UInt64) : Value) rfl (.tmp (.int .i64 11 : Value) rfl .nil)), _, pA0_1, pc0_1, rfl, HF.out, hB0, hla0_1, hra0_1⟩
              ·
                refine WC.cond_f ((show _ = Value.bool z133 from s41_132).trans (congrArg Value.bool c138)) ?_
                refine WC.skip ?_
                refine WC.seq ?_
                refine WC.region ?_
                refine WL.ex rfl (ex_move (v := .pointer (some ⟨pb0, 0, none⟩)) s0_131) ?_
                refine WL.ex rfl (ex_move (v := .pointer (some ⟨pb0, 0, none⟩)) s0_131) ?_
                refine WL.ex rfl (ex_nilCheck rfl) ?_
                refine WL.ex rfl (ex_fieldAddr rfl Tryd.underlying68 rfl sz24) ?_
                refine WL.ex rfl (ex_load1 (v := .slice pA0_1 a0.f_left.length pc0_1) rfl Tryd.underlying24 rfl (hB0.cell rfl)) ?_
                refine WL.ex rfl (ex_move (v := .int .i64 x107) s5_131) ?_
                refine WL.ex rfl (ex_bin (a := .int .i64 x107) (b := .int .i64 1) (v := .int .i64 (wrap64 (x107 + 1))) rfl rfl bin_add64) ?_
                obtain ⟨y139, hy139, H⟩ := bindE H
                have hr141 := Row.cut hra0_1 hla0_1 hy139
                obtain ⟨A142, el145⟩ : ∃ A_, A_ = subA pA0_1 pc0_1 (wrap64 (x107 + 1) : Int).toNat 1 := ⟨_, rfl⟩
                rw [show subA pA0_1 pc0_1 (wrap64 (x107 + 1) : Int).toNat Rep.u8.sz = A142 from el145.symm] at hr141
                have hl144 : y139.length ≤ pc0_1 - (wrap64 (x107 + 1) : Int).toNat := cut_le hla0_1 hy139
                refine WL.ex rfl (ex_slice' (l := (wrap64 (x107 + 1))) (h := (a0.f_left.length : Int)) rfl Tryd.underlying24 sz5 ⟨_, rfl⟩ rfl (cut_low hy139) (cut_mid hy139) (cut_cap hla0_1 hy139) el145 (cut_len hy139)) ?_
                refine WL.ex rfl (ex_nilCheck rfl) ?_
                refine WL.ex rfl (ex_fieldAddr rfl Tryd.underlying68 rfl sz24) ?_
                refine WL.op rfl ?_
                refine OW.store [.bool a0.f_made, .slice A142 y139.length (pc0_1 - (wrap64 (x107 + 1) : Int).toNat)] rfl (vs := [.slice A142 y139.length (pc0_1 - (wrap64 (x107 + 1) : Int).toNat)]) ((congrArg Value.cells (show ev _ _ = (.slice A142 y139.length (pc0_1 - (wrap64 (x107 + 1) : Int).toNat) : Value) from rfl)).trans rfl) sz24 hB0 (Nat.le_of_ble_eq_true rfl) (by intro u_ hu_; simp only [List.mem_cons, List.not_mem_nil, or_false] at hu_; rcases hu_ with rfl; first | rfl) rfl ?_
                intro w146 s147 hB148
                replace hra0_1 := hra0_1.step s147 rfl
                replace hr141 := hr141.step s147 rfl
                replace HF := HF.step s147 rfl
                refine WL.nil ?_
                refine WC.seq ?_
                refine WC.region ?_
                refine WL.ex rfl (ex_move (v := enc64 (x106 ||| (shl64 (ofI64 ((x116 &&& (127 : UInt8)).toNat : Int)) (wrap64 (7 * x107)).toNat))) s4_131) ?_
                refine WL.ex rfl (ex_assign (v := enc64 (x106 ||| (shl64 (ofI64 ((x116 &&& (127 : UInt8)).toNat : Int)) (wrap64 (7 * x107)).toNat))) rfl) ?_
                refine WL.ex rfl (ex_assign (v := .int .i64 0) rfl) ?_
                refine WL.nil ?_
                refine WC.ret ?_
                obtain rfl := Option.some.inj H
                replace H := Ho110
                dsimp only at H
                obtain rfl := Option.some.inj H
                exact ⟨_, (.tmp (enc64 (x106 ||| (shl64 (ofI64 ((x116 &&& (127 : UInt8)).toNat : Int)) (wrap64 (7 * x107)).toNat)) : Value) rfl (.tmp (.int .i64 0 : Value) rfl .nil)), _, A142, (pc0_1 - (wrap64 (x107 + 1) : Int).toNat), rfl, HF.out, hB148, hl144, hr141⟩
            have Ho149 := H
            replace H := hz133
            refine WC.region ?_
            refine WL.ex rfl (ex_move (v := enc8 x116) s6_122) ?_
            refine WL.ex rfl (ex_bin (a := enc8 x116) (b := enc8 (0 : UInt8)) (v := .bool (x116 == (0 : UInt8))) rfl rfl bin_eql_u8) ?_
            refine WL.ex rfl (ex_move (v := .bool (x116 == (0 : UInt8))) rfl) ?_
            rcases condE H with ⟨c150, H⟩ | ⟨c150, H⟩
            ·
              refine WL.guardYes rfl rfl rfl ((show _ = Value.bool (x116 == (0 : UInt8)) from rfl).trans (congrArg Value.bool c150)) ?_
              refine OW.ex rfl (ex_move (v := .int .i64 x107) s5_122) ?_
              refine WL.guardYes rfl rfl rfl ((show _ = Value.bool (x116 == (0 : UInt8)) from rfl).trans (congrArg Value.bool c150)) ?_
              refine OW.ex rfl (ex_bin (a := .int .i64 x107) (b := .int .i64 0) (v := .bool (decide (x107 > 0))) rfl rfl bin_gtr) ?_
              refine WL.ex rfl (ex_pick_t (v := .bool (decide (x107 > 0))) ((show _ = Value.bool (x116 == (0 : UInt8)) from rfl).trans (congrArg Value.bool c150)) rfl) ?_
              refine WL.nil ?_
              obtain rfl := Option.some.inj H
              exact ⟨_, HF, hra0_1, hB0, s0_122, s2_122, s3_122, rfl, s5_122, s13_122, s14_122, s15_122, rfl⟩
            ·
              refine WL.guardNo rfl rfl rfl ((show _ = Value.bool (x116 == (0 : UInt8)) from rfl).trans (congrArg Value.bool c150)) ?_
              refine WL.guardNo rfl rfl rfl ((show _ = Value.bool (x116 == (0 : UInt8)) from rfl).trans (congrArg Value.bool c150)) ?_
              refine WL.ex rfl (ex_pick_f (v := .bool false) ((show _ = Value.bool (x116 == (0 : UInt8)) from rfl).trans (congrArg Value.bool c150)) rfl) ?_
              refine WL.nil ?_
              obtain rfl := Option.some.inj H
              exact ⟨_, HF, hra0_1, hB0, s0_122, s2_122, s3_122, rfl, s5_122, s13_122, s14_122, s15_122, rfl⟩
          ·
            refine WC.cond_f ((show _ = Value.bool (decide (x116 < (128 : UInt8))) from rfl).trans (congrArg Value.bool c131)) ?_
            refine WC.skip ?_
            refine WC.region ?_
            refine WL.ex rfl (ex_bin (a := .int .i64 x107) (b := .int .i64 1) (v := .int .i64 (wrap64 (x107 + 1))) s15_122 rfl bin_add64) ?_
            refine WL.ex rfl (ex_move (v := .int .i64 (wrap64 (x107 + 1))) rfl) ?_
            refine WL.nil ?_
            exact ⟨k111, Nat.lt_succ_self _, ⟨_, (x106 ||| (shl64 (ofI64 ((x116 &&& (127 : UInt8)).toNat : Int)) (wrap64 (7 * x107)).toNat)), wrap64 (x107 + 1), HF, hra0_1, hB0, s0_122, s2_122, s3_122, rfl, s13_122, s14_122, rfl, H⟩⟩
      have Ho151 := H
      replace H := hz124
      refine WC.region ?_
      refine WL.ex rfl (ex_move (v := .int .i64 x107) rfl) ?_
      refine WL.ex rfl (ex_bin (a := .int .i64 x107) (b := .int .i64 9) (v := .bool (x107 == 9)) rfl rfl bin_eql) ?_
      refine WL.ex rfl (ex_move (v := .bool (x107 == 9)) rfl) ?_
      rcases condE H with ⟨c152, H⟩ | ⟨c152, H⟩
      ·
        refine WL.guardYes rfl rfl rfl ((show _ = Value.bool (x107 == 9) from rfl).trans (congrArg Value.bool c152)) ?_
        refine OW.ex rfl (ex_move (v := enc8 x116) rfl) ?_
        refine WL.guardYes rfl rfl rfl ((show _ = Value.bool (x107 == 9) from rfl).trans (congrArg Value.bool c152)) ?_
        refine OW.ex rfl (ex_bin (a := enc8 x116) (b := enc8 (1 : UInt8)) (v := .bool (decide ((1 : UInt8) < x116))) rfl rfl bin_gtr_u8) ?_
        refine WL.ex rfl (ex_pick_t (v := .bool (decide ((1 : UInt8) < x116))) ((show _ = Value.bool (x107 == 9) from rfl).trans (congrArg Value.bool c152)) rfl) ?_
        refine WL.nil ?_
        obtain rfl := Option.some.inj H
        exact ⟨_, HF, hra0_1, hB0, s0_105, s2_105, s3_105, s4_106, rfl, rfl, s13_106, s14_106, s15_107, rfl⟩
      ·
        refine WL.guardNo rfl rfl rfl ((show _ = Value.bool (x107 == 9) from rfl).trans (congrArg Value.bool c152)) ?_
        refine WL.guardNo rfl rfl rfl ((show _ = Value.bool (x107 == 9) from rfl).trans (congrArg Value.bool c152)) ?_
        refine WL.ex rfl (ex_pick_f (v := .bool false) ((show _ = Value.bool (x107 == 9) from rfl).trans (congrArg Value.bool c152)) rfl) ?_
        refine WL.nil ?_
        obtain rfl := Option.some.inj H
        exact ⟨_, HF, hra0_1, hB0, s0_105, s2_105, s3_105, s4_106, rfl, rfl, s13_106, s14_106, s15_107, rfl⟩
    ·
      refine WC.cond_f ((show _ = Value.bool (decide (x107 < (a0.f_left.length : Int))) from rfl).trans (congrArg Value.bool c115)) ?_
      refine WC.exit ?_
      obtain rfl := Option.some.inj H
      exact ⟨_, HF, hB0, hra0_1, s2_105, s3_105, rfl⟩


/-! ### strconv.Atoi -/
theorem strconv_Atoi.calls (o0 : Tags) (w0 : World) (a0 : List UInt8) (r : Int × Bool) (hO : ∀ b, b < w0.heap.size → o0 b < 10) (hG : Gl GG o0 w0) (H : strconv_Atoi.f a0 = some r) :
    Calls Tryd.prog 51 [encS a0].toArray w0 fun e_ w_ => ∃ (o_ : Tags) (rv1 : Value), e_ = .returned (one [.int .i64 r.1, rv1]) ∧ Step o0 w0 o_ w_ [] ∧ IsErr r.2 rv1 := by
  unfold strconv_Atoi.f at H
  obtain ⟨u, hu, H⟩ := bindE H
  obtain rfl := Option.some.inj H
  have hl : a0.length ≤ 281474976710656 := of_decide_eq_true (chk_true hu)
  have hs : (⟨a0.toArray⟩ : ByteArray).size ≤ 281474976710656 := by rw [size_enc]; exact hl
  cases hc : Lib.atoiAll a0
  · rename_i v
    refine Calls.mono (Tryd.strconv_Atoi_ok ⟨a0.toArray⟩ (Nat.le_trans hs (by decide)) v hc w0) ?_
    rintro e w ⟨rfl, hw⟩
    refine ⟨o0, .nilIface, by simp [atoiF, hc, one], ?_, by simp [atoiF, hc, IsErr]⟩
    rcases hw with rfl | ⟨t, rfl⟩
    · exact Step.refl _ _ _
    · exact bytesWorld_step o0 w0 5 t
  · obtain ⟨tp, p, hv⟩ := hG.2.2.2.1
    refine Calls.mono (Tryd.strconv_Atoi_syntax_var ⟨a0.toArray⟩ hs (hc.trans (by rfl)) tp p w0 hv) ?_
    rintro e w ⟨N, rfl, _, _, hb⟩
    exact ⟨o0, _, by simp only [atoiF, hc, one]; rfl, below_step hb, by simp only [atoiF, hc, IsErr, cond_true]; exact ⟨_, _, rfl⟩⟩
  · obtain ⟨tp, p, hv⟩ := hG.2.2.2.2
    refine Calls.mono (Tryd.strconv_Atoi_range_var ⟨a0.toArray⟩ hs hc tp p w0 hv) ?_
    rintro e w ⟨N, rfl, _, _, hb⟩
    exact ⟨o0, _, by simp only [atoiF, hc, one]; rfl, below_step hb, by simp only [atoiF, hc, IsErr, cond_true]; exact ⟨_, _, rfl⟩⟩


/-! ### strconv.Itoa -/
theorem strconv_Itoa.calls (o0 : Tags) (w0 : World) (a0 : Int) (r : List UInt8) (hO : ∀ b, b < w0.heap.size → o0 b < 10) (hG : Gl GG o0 w0) (H : strconv_Itoa.f a0 = some r) :
    Calls Tryd.prog 52 [.int .i64 a0].toArray w0 fun e_ w_ => ∃ (o_ : Tags), e_ = .returned (one [encS r]) ∧ Step o0 w0 o_ w_ [] := by
  unfold strconv_Itoa.f at H
  obtain ⟨u, hu, H⟩ := bindE H
  obtain rfl := Option.some.inj H
  have hu' := chk_true hu
  simp only [Bool.and_eq_true, decide_eq_true_eq] at hu'
  refine Calls.mono (Tryd.strconv_Itoa a0 hu'.1 hu'.2 w0 hG.2.2.1) ?_
  rintro e w ⟨rfl, k, os, rfl⟩
  exact ⟨o0, rfl, grow_step o0 w0 k os⟩

/-! ### octet_Dec -/
set_option maxRecDepth 100000 in
theorem octet_Dec.calls (o0 : Tags) (w0 : World) (a0 : Int) (r : (List UInt8)) (hO : ∀ b, b < w0.heap.size → o0 b < 10) (hG : Gl GG o0 w0) (H : octet_Dec.f a0 = some r) :
    Calls Tryd.prog 36 [.int .i64 a0].toArray w0 fun e_ w_ => ∃ (o_ : Tags), e_ = .returned (one [encS r]) ∧ Step o0 w0 o_ w_ [] := by
  have HF := Fm.refl hO []
  unfold octet_Dec.f at H
  refine SX.calls [.int .i64 a0] Tryd.func36 rfl rfl ?_
  rw [Tryd.ntmps36]
  refine WC.seq ?_
  refine WC.region ?_
  refine WL.ex rfl (ex_assign (v := encS ([] : List UInt8)) rfl) ?_
  refine WL.nil ?_
  refine WC.seq ?_
  refine WC.region ?_
  refine WL.ex rfl (ex_move (v := .int .i64 a0) rfl) ?_
  obtain ⟨z101, hz101, H⟩ := bindE H
  refine WL.op rfl ?_
  refine OW.call [.int .i64 a0] rfl Tryd.func52 (by kernel_rfl) (by kernel_rfl) (map_cons' rfl rfl) (strconv_Itoa.calls _ _ a0 z101 (HF.ten (V := [0]) (L := []) rfl) (Gl.vw (V := [0]) (L := []) hG rfl) hz101) ?_
  rintro _ w102 ⟨o103, rfl, s104⟩
  refine ⟨_, rfl, ?_⟩
  replace s104 := un_stepL (J := []) (L' := []) s104 rfl rfl
  replace hG := hG.step s104 rfl
  replace HF := HF.step s104 rfl
  refine WL.ex rfl (ex_assign (v := encS z101) rfl) ?_
  refine WL.nil ?_
  refine WC.ret ?_
  obtain rfl := Option.some.inj H
  exact ⟨_, (.tmp (encS z101 : Value) rfl .nil), _, rfl, HF.out⟩

/-! ### octet_Undec -/
set_option maxRecDepth 100000 in
theorem octet_Undec.calls (o0 : Tags) (w0 : World) (a0 : List UInt8) (a1 : Int) (r : Int × Int) (hO : ∀ b, b < w0.heap.size → o0 b < 10) (hG : Gl GG o0 w0) (H : octet_Undec.f a0 a1 = some r) :
    Calls Tryd.prog 34 [encS a0, .int .i64 a1].toArray w0 fun e_ w_ => ∃ (o_ : Tags), e_ = .returned (one [.int .i64 r.1, .int .i64 r.2]) ∧ Step o0 w0 o_ w_ [] := by
  have HF := Fm.refl hO []
  unfold octet_Undec.f at H
  refine SX.calls [encS a0, .int .i64 a1] Tryd.func34 rfl rfl ?_
  rw [Tryd.ntmps34]
  refine WC.seq ?_
  refine WC.region ?_
  refine WL.ex rfl (ex_assign (v := .int .i64 0) rfl) ?_
  refine WL.ex rfl (ex_assign (v := .int .i64 0) rfl) ?_
  refine WL.nil ?_
  refine WC.seq ?_
  refine WC.region ?_
  refine WL.ex rfl (ex_move (v := encS a0) rfl) ?_
  obtain ⟨z101, hz101, H⟩ := bindE H
  refine WL.op rfl ?_
  refine OW.call [encS a0] rfl Tryd.func51 (by kernel_rfl) (by kernel_rfl) (map_cons' rfl rfl) (strconv_Atoi.calls _ _ a0 z101 (HF.ten (V := [0]) (L := []) rfl) (Gl.vw (V := [0]) (L := []) hG rfl) hz101) ?_
  rintro _ w102 ⟨o103, v105, rfl, s104, hE106⟩
  refine ⟨_, rfl, ?_⟩
  replace s104 := un_stepL (J := []) (L' := []) s104 rfl rfl
  replace hG := hG.step s104 rfl
  replace HF := HF.step s104 rfl
  refine WL.ex rfl (ex_move (v := .tuple #[.int .i64 z101.1, v105]) rfl) ?_
  refine WL.ex rfl (ex_extract (vs := #[.int .i64 z101.1, v105]) (v := .int .i64 z101.1) rfl rfl) ?_
  refine WL.ex rfl (ex_extract (vs := #[.int .i64 z101.1, v105]) (v := v105) rfl rfl) ?_
  refine WL.ex rfl (ex_assign (v := .int .i64 z101.1) rfl) ?_
  refine WL.ex rfl (ex_assign (v := v105) rfl) ?_
  refine WL.nil ?_
  refine WC.seq ?_
  obtain ⟨z108, hz108, H⟩ := bindE H
  refine WC.cut (fun ρ_ w_ => ∃ (o_ : Tags), Fm o0 w0 o_ w_ [] ∧ Gl GG o_ w_ ∧ ρ_ 4 = .int .i64 0 ∧ ρ_ 5 = .int .i64 0 ∧ ρ_ 6 = .int .i64 z101.1 ∧ ρ_ 34 = .bool z108) ?case109 ?_
  case case109 =>
    rintro ρ112 w110 ⟨o111, HF, hG, s4_106, s5_106, s6_106, s34_107⟩
    rcases condE H with ⟨c113, H⟩ | ⟨c113, H⟩
    ·
      refine WC.cond_t ((show _ = Value.bool z108 from s34_107).trans (congrArg Value.bool c113)) ?_
      refine WC.seq ?_
      refine WC.region ?_
      refine WL.ex rfl (ex_assign (v := .int .i64 0) rfl) ?_
      refine WL.ex rfl (ex_assign (v := .int .i64 2) rfl) ?_
      refine WL.nil ?_
      refine WC.ret ?_
      obtain rfl := Option.some.inj H
      exact ⟨_, (.tmp (.int .i64 0 : Value) rfl (.tmp (.int .i64 2 : Value) rfl .nil)), _, rfl, HF.out⟩
    ·
      refine WC.cond_f ((show _ = Value.bool z108 from s34_107).trans (congrArg Value.bool c113)) ?_
      refine WC.skip ?_
      refine WC.seq ?_
      refine WC.region ?_
      refine WL.ex rfl (ex_move (v := .int .i64 z101.1) s6_106) ?_
      refine WL.ex rfl (ex_assign (v := .int .i64 z101.1) rfl) ?_
      refine WL.ex rfl (ex_assign (v := .int .i64 0) rfl) ?_
      refine WL.nil ?_
      refine WC.ret ?_
      obtain rfl := Option.some.inj H
      exact ⟨_, (.tmp (.int .i64 z101.1 : Value) rfl (.tmp (.int .i64 0 : Value) rfl .nil)), _, rfl, HF.out⟩
  have Ho114 := H
  replace H := hz108
  refine WC.region ?_
  refine WL.ex rfl (ex_move (v := v105) rfl) ?_
  refine WL.ex rfl (ex_errNeq (b := z101.2) rfl Tryd.underlying86 hE106) ?_
  refine WL.ex rfl (ex_move (v := .bool z101.2) rfl) ?_
  rcases condE H with ⟨c115, H⟩ | ⟨c115, H⟩
  ·
    refine WL.guardNo rfl rfl rfl ((show _ = Value.bool z101.2 from rfl).trans (congrArg Value.bool c115)) ?_
    refine WL.guardNo rfl rfl rfl ((show _ = Value.bool z101.2 from rfl).trans (congrArg Value.bool c115)) ?_
    refine WL.ex rfl (ex_pick_t (v := .bool true) ((show _ = Value.bool z101.2 from rfl).trans (congrArg Value.bool c115)) rfl) ?_
    refine WL.ex rfl (ex_move (v := .bool true) rfl) ?_
    refine WL.guardNo rfl rfl rfl rfl ?_
    refine WL.guardNo rfl rfl rfl rfl ?_
    refine WL.guardNo rfl rfl rfl rfl ?_
    refine WL.ex rfl (ex_pick_t (v := .bool true) rfl rfl) ?_
    refine WL.ex rfl (ex_move (v := .bool true) rfl) ?_
    refine WL.guardNo rfl rfl rfl rfl ?_
    refine WL.guardNo rfl rfl rfl rfl ?_
    refine WL.guardNo rfl rfl rfl rfl ?_
    refine WL.ex rfl (ex_pick_t (v := .bool true) rfl rfl) ?_
    refine WL.ex rfl (ex_move (v := .bool true) rfl) ?_
    refine WL.guardNo rfl rfl rfl rfl ?_
    refine WL.guardNo rfl rfl rfl rfl ?_
    refine WL.guardNo rfl rfl rfl rfl ?_
    refine WL.guardNo rfl rfl rfl rfl ?_
    refine WL.ex rfl (ex_pick_t (v := .bool true) rfl rfl) ?_
    refine WL.nil ?_
    obtain rfl := Option.some.inj H
    exact ⟨_, HF, hG, rfl, rfl, rfl, rfl⟩
  ·
    refine WL.guardYes rfl rfl rfl ((show _ = Value.bool z101.2 from rfl).trans (congrArg Value.bool c115)) ?_
    refine OW.ex rfl (ex_move (v := .int .i64 z101.1) rfl) ?_
    refine WL.guardYes rfl rfl rfl ((show _ = Value.bool z101.2 from rfl).trans (congrArg Value.bool c115)) ?_
    refine OW.ex rfl (ex_bin (a := .int .i64 z101.1) (b := .int .i64 0) (v := .bool (decide (z101.1 < 0))) rfl rfl bin_lss) ?_
    refine WL.ex rfl (ex_pick_f (v := .bool (decide (z101.1 < 0))) ((show _ = Value.bool z101.2 from rfl).trans (congrArg Value.bool c115)) rfl) ?_
    refine WL.ex rfl (ex_move (v := .bool (decide (z101.1 < 0))) rfl) ?_
    rcases condE H with ⟨c116, H⟩ | ⟨c116, H⟩
    ·
      refine WL.guardNo rfl rfl rfl ((show _ = Value.bool (decide (z101.1 < 0)) from rfl).trans (congrArg Value.bool c116)) ?_
      refine WL.guardNo rfl rfl rfl ((show _ = Value.bool (decide (z101.1 < 0)) from rfl).trans (congrArg Value.bool c116)) ?_
      refine WL.guardNo rfl rfl rfl ((show _ = Value.bool (decide (z101.1 < 0)) from rfl).trans (congrArg Value.bool c116)) ?_
      refine WL.ex rfl (ex_pick_t (v := .bool true) ((show _ = Value.bool (decide (z101.1 < 0)) from rfl).trans (congrArg Value.bool c116)) rfl) ?_
      refine WL.ex rfl (ex_move (v := .bool true) rfl) ?_
      refine WL.guardNo rfl rfl rfl rfl ?_
      refine WL.guardNo rfl rfl rfl rfl ?_
      refine WL.guardNo rfl rfl rfl rfl ?_
      refine WL.ex rfl (ex_pick_t (v := .bool true) rfl rfl) ?_
      refine WL.ex rfl (ex_move (v := .bool true) rfl) ?_
      refine WL.guardNo rfl rfl rfl rfl ?_
      refine WL.guardNo rfl rfl rfl rfl ?_
      refine WL.guardNo rfl rfl rfl rfl ?_
      refine WL.guardNo rfl rfl rfl rfl ?_
      refine WL.ex rfl (ex_pick_t (v := .bool true) rfl rfl) ?_
      refine WL.nil ?_
      obtain rfl := Option.some.inj H
      exact ⟨_, HF, hG, rfl, rfl, rfl, rfl⟩
    ·
      refine WL.guardYes rfl rfl rfl ((show _ = Value.bool (decide (z101.1 < 0)) from rfl).trans (congrArg Value.bool c116)) ?_
      refine OW.ex rfl (ex_move (v := .int .i64 z101.1) rfl) ?_
      refine WL.guardYes rfl rfl rfl ((show _ = Value.bool (decide (z101.1 < 0)) from rfl).trans (congrArg Value.bool c116)) ?_
      refine OW.ex rfl (ex_move (v := .int .i64 a1) rfl) ?_
      refine WL.guardYes rfl rfl rfl ((show _ = Value.bool (decide (z101.1 < 0)) from rfl).trans (congrArg Value.bool c116)) ?_
      refine OW.ex rfl (ex_bin (a := .int .i64 z101.1) (b := .int .i64 a1) (v := .bool (decide (z101.1 > a1))) rfl rfl bin_gtr) ?_
      refine WL.ex rfl (ex_pick_f (v := .bool (decide (z101.1 > a1))) ((show _ = Value.bool (decide (z101.1 < 0)) from rfl).trans (congrArg Value.bool c116)) rfl) ?_
      refine WL.ex rfl (ex_move (v := .bool (decide (z101.1 > a1))) rfl) ?_
      rcases condE H with ⟨c117, H⟩ | ⟨c117, H⟩
      ·
        refine WL.guardNo rfl rfl rfl ((show _ = Value.bool (decide (z101.1 > a1)) from rfl).trans (congrArg Value.bool c117)) ?_
        refine WL.guardNo rfl rfl rfl ((show _ = Value.bool (decide (z101.1 > a1)) from rfl).trans (congrArg Value.bool c117)) ?_
        refine WL.guardNo rfl rfl rfl ((show _ = Value.bool (decide (z101.1 > a1)) from rfl).trans (congrArg Value.bool c117)) ?_
        refine WL.ex rfl (ex_pick_t (v := .bool true) ((show _ = Value.bool (decide (z101.1 > a1)) from rfl).trans (congrArg Value.bool c117)) rfl) ?_
        refine WL.ex rfl (ex_move (v := .bool true) rfl) ?_
        refine WL.guardNo rfl rfl rfl rfl ?_
        refine WL.guardNo rfl rfl rfl rfl ?_
        refine WL.guardNo rfl rfl rfl rfl ?_
        refine WL.guardNo rfl rfl rfl rfl ?_
        refine WL.ex rfl (ex_pick_t (v := .bool true) rfl rfl) ?_
        refine WL.nil ?_
        obtain rfl := Option.some.inj H
        exact ⟨_, HF, hG, rfl, rfl, rfl, rfl⟩
      ·
        refine WL.guardYes rfl rfl rfl ((show _ = Value.bool (decide (z101.1 > a1)) from rfl).trans (congrArg Value.bool c117)) ?_
        refine OW.ex rfl (ex_move (v := encS a0) rfl) ?_
        refine WL.guardYes rfl rfl rfl ((show _ = Value.bool (decide (z101.1 > a1)) from rfl).trans (congrArg Value.bool c117)) ?_
        refine OW.ex rfl (ex_len_str (s := a0) rfl Tryd.underlying9) ?_
        refine WL.guardYes rfl rfl rfl ((show _ = Value.bool (decide (z101.1 > a1)) from rfl).trans (congrArg Value.bool c117)) ?_
        refine OW.ex rfl (ex_bin (a := .int .i64 (a0.length : Int)) (b := .int .i64 10) (v := .bool (decide ((a0.length : Int) > 10))) rfl rfl bin_gtr) ?_
        refine WL.ex rfl (ex_pick_f (v := .bool (decide ((a0.length : Int) > 10))) ((show _ = Value.bool (decide (z101.1 > a1)) from rfl).trans (congrArg Value.bool c117)) rfl) ?_
        refine WL.ex rfl (ex_move (v := .bool (decide ((a0.length : Int) > 10))) rfl) ?_
        rcases condE H with ⟨c118, H⟩ | ⟨c118, H⟩
        ·
          refine WL.guardNo rfl rfl rfl ((show _ = Value.bool (decide ((a0.length : Int) > 10)) from rfl).trans (congrArg Value.bool c118)) ?_
          refine WL.guardNo rfl rfl rfl ((show _ = Value.bool (decide ((a0.length : Int) > 10)) from rfl).trans (congrArg Value.bool c118)) ?_
          refine WL.guardNo rfl rfl rfl ((show _ = Value.bool (decide ((a0.length : Int) > 10)) from rfl).trans (congrArg Value.bool c118)) ?_
          refine WL.guardNo rfl rfl rfl ((show _ = Value.bool (decide ((a0.length : Int) > 10)) from rfl).trans (congrArg Value.bool c118)) ?_
          refine WL.ex rfl (ex_pick_t (v := .bool true) ((show _ = Value.bool (decide ((a0.length : Int) > 10)) from rfl).trans (congrArg Value.bool c118)) rfl) ?_
          refine WL.nil ?_
          obtain rfl := Option.some.inj H
          exact ⟨_, HF, hG, rfl, rfl, rfl, rfl⟩
        ·
          refine WL.guardYes rfl rfl rfl ((show _ = Value.bool (decide ((a0.length : Int) > 10)) from rfl).trans (congrArg Value.bool c118)) ?_
          refine OW.ex rfl (ex_move (v := .int .i64 z101.1) rfl) ?_
          refine WL.guardYes rfl rfl rfl ((show _ = Value.bool (decide ((a0.length : Int) > 10)) from rfl).trans (congrArg Value.bool c118)) ?_
          obtain ⟨z119, hz119, H⟩ := bindE H
          refine OW.call [.int .i64 z101.1] rfl Tryd.func36 (by kernel_rfl) (by kernel_rfl) (map_cons' rfl rfl) (octet_Dec.calls _ _ z101.1 z119 (HF.ten (V := [0]) (L := []) rfl) (Gl.vw (V := [0]) (L := []) hG rfl) hz119) ?_
          rintro _ w120 ⟨o121, rfl, s122⟩
          refine ⟨_, rfl, ?_⟩
          replace s122 := un_stepL (J := []) (L' := []) s122 rfl rfl
          replace hG := hG.step s122 rfl
          replace HF := HF.step s122 rfl
          refine WL.guardYes rfl rfl rfl ((show _ = Value.bool (decide ((a0.length : Int) > 10)) from rfl).trans (congrArg Value.bool c118)) ?_
          refine OW.ex rfl (ex_move (v := encS a0) rfl) ?_
          refine WL.guardYes rfl rfl rfl ((show _ = Value.bool (decide ((a0.length : Int) > 10)) from rfl).trans (congrArg Value.bool c118)) ?_
          refine OW.ex rfl (ex_bin (a := encS z119) (b := encS a0) (v := .bool (!(z119 == a0))) rfl rfl bin_neq_str) ?_
          refine WL.ex rfl (ex_pick_f (v := .bool (!(z119 == a0))) ((show _ = Value.bool (decide ((a0.length : Int) > 10)) from rfl).trans (congrArg Value.bool c118)) rfl) ?_
          refine WL.nil ?_
          obtain rfl := Option.some.inj H
          exact ⟨_, HF, hG, rfl, rfl, rfl, rfl⟩

/-! ### dictumref01_Same -/
set_option maxRecDepth 100000 in
theorem dictumref01_Same.calls (k : Nat) (o0 : Tags) (w0 : World) (pA0 : Option Addr) (pc0 : Nat) (pA1 : Option Addr) (pc1 : Nat) (a0 : (List UInt8)) (a1 : (List UInt8)) (r : Bool) (hO : ∀ b, b < w0.heap.size → o0 b < 10) (hra0 : Row Rep.u8 (fun b_ => o0 b_ = 0) (fun b_ => o0 b_ = 0) w0 pA0 a0) (hla0 : a0.length ≤ pc0) (hra1 : Row Rep.u8 (fun b_ => o0 b_ = 0) (fun b_ => o0 b_ = 0) w0 pA1 a1) (hla1 : a1.length ≤ pc1) (H : dictumref01_Same.f k a0 a1 = some r) :
    Calls Tryd.prog 11 [.slice pA0 a0.length pc0, .slice pA1 a1.length pc1].toArray w0 fun e_ w_ => ∃ (o_ : Tags), e_ = .returned (one [.bool r]) ∧ Step o0 w0 o_ w_ [] := by
  have HF := Fm.refl hO []
  unfold dictumref01_Same.f at H
  refine SX.calls [.slice pA0 a0.length pc0, .slice pA1 a1.length pc1] Tryd.func11 rfl rfl ?_
  rw [Tryd.ntmps11]
  refine WC.seq ?_
  refine WC.region ?_
  refine WL.ex rfl (ex_assign (v := .bool false) rfl) ?_
  refine WL.nil ?_
  refine WC.seq ?_
  refine WC.seq ?_
  refine WC.region ?_
  refine WL.ex rfl (ex_move (v := .slice pA0 a0.length pc0) rfl) ?_
  refine WL.ex rfl (ex_len_slice (A := pA0) (m := a0.length) (c := pc0) rfl Tryd.underlying24) ?_
  refine WL.ex rfl (ex_move (v := .slice pA1 a1.length pc1) rfl) ?_
  refine WL.ex rfl (ex_len_slice (A := pA1) (m := a1.length) (c := pc1) rfl Tryd.underlying24) ?_
  refine WL.ex rfl (ex_bin (a := .int .i64 (a0.length : Int)) (b := .int .i64 (a1.length : Int)) (v := .bool ((a0.length : Int) != (a1.length : Int))) rfl rfl bin_neq) ?_
  refine WL.nil ?_
  rcases condE H with ⟨c101, H⟩ | ⟨c101, H⟩
  ·
    refine WC.cond_t ((show _ = Value.bool ((a0.length : Int) != (a1.length : Int)) from rfl).trans (congrArg Value.bool c101)) ?_
    refine WC.seq ?_
    refine WC.region ?_
    refine WL.ex rfl (ex_assign (v := .bool false) rfl) ?_
    refine WL.nil ?_
    refine WC.ret ?_
    obtain rfl := Option.some.inj H
    exact ⟨_, (.tmp (.bool false : Value) rfl .nil), _, rfl, HF.out⟩
  ·
    refine WC.cond_f ((show _ = Value.bool ((a0.length : Int) != (a1.length : Int)) from rfl).trans (congrArg Value.bool c101)) ?_
    refine WC.skip ?_
    refine WC.seq ?_
    refine WC.seq ?_
    refine WC.region ?_
    refine WL.ex rfl (ex_assign (v := .int .i64 0) rfl) ?_
    refine WL.nil ?_
    obtain ⟨z103, hz103, H⟩ := bindE H
    refine WC.for (fun k_ ρ_ w_ => ∃ (o_ : Tags) (x102 : Int), Fm o0 w0 o_ w_ [] ∧ Row Rep.u8 (fun b_ => o_ b_ = 0) (fun b_ => o_ b_ = 0) w_ pA0 a0 ∧ Row Rep.u8 (fun b_ => o_ b_ = 0) (fun b_ => o_ b_ = 0) w_ pA1 a1 ∧ ρ_ 0 = .slice pA0 a0.length pc0 ∧ ρ_ 1 = .slice pA1 a1.length pc1 ∧ ρ_ 4 = .bool false ∧ ρ_ 5 = .int .i64 x102 ∧ dictumref01_Same.l1 k a0 a1 k_ x102 = some z103) k (fun ρ_ w_ => ∃ (o_ : Tags), Fm o0 w0 o_ w_ [] ∧ ρ_ 4 = .bool false ∧ z103 = .inr ()) ⟨_, 0, HF, hra0, hra1, rfl, rfl, rfl, rfl, hz103⟩ ?case104 ?_
    case case104 =>
      rintro ρ130 w128 ⟨o129, HF, s4_102, rfl⟩
      dsimp only at H
      refine WC.seq ?_
      refine WC.region ?_
      refine WL.ex rfl (ex_assign (v := .bool true) rfl) ?_
      refine WL.nil ?_
      refine WC.ret ?_
      obtain rfl := Option.some.inj H
      exact ⟨_, (.tmp (.bool true : Value) rfl .nil), _, rfl, HF.out⟩
    have Ho105 := H
    rintro k106 ρ107 w108 ⟨o109, x102, HF, hra0, hra1, s0_101, s1_101, s4_101, s5_102, H⟩
    cases k106 with
    | zero => cases H
    | succ k106 =>
    rw [dictumref01_Same.l1.eq_2] at H
    refine WC.seq ?_
    refine WC.seq ?_
    refine WC.region ?_
    refine WL.ex rfl (ex_move (v := .int .i64 x102) s5_102) ?_
    refine WL.ex rfl (ex_move (v := .slice pA0 a0.length pc0) s0_101) ?_
    refine WL.ex rfl (ex_len_slice (A := pA0) (m := a0.length) (c := pc0) rfl Tryd.underlying24) ?_
    refine WL.ex rfl (ex_bin (a := .int .i64 x102) (b := .int .i64 (a0.length : Int)) (v := .bool (decide (x102 < (a0.length : Int)))) rfl rfl bin_lss) ?_
    refine WL.nil ?_
    rcases condE H with ⟨c110, H⟩ | ⟨c110, H⟩
    ·
      refine WC.cond_t ((show _ = Value.bool (decide (x102 < (a0.length : Int))) from rfl).trans (congrArg Value.bool c110)) ?_
      refine WC.skip ?_
      refine WC.seq ?_
      refine WC.block ?_
      refine WC.seq ?_
      refine WC.regionD' HF [] 9 (by kernel_rfl) rfl ?_
      intro w111 s112
      replace hra0 := hra0.step s112 rfl
      replace hra1 := hra1.step s112 rfl
      replace HF := HF.step s112 rfl
      have hra0D := hra0
      have hra1D := hra1
      have sR := HF.here []
      refine WA.norm (listed' := #[false, false, false, false, false, false, false, false, false]) (by kernel_rfl) ?_
      refine WA.ex 0 rfl (by kernel_rfl) (by kernel_rfl) (by kernel_rfl) rfl ⟨_, sR⟩ (fun w_ hS_ => ex_move (v := .slice pA0 a0.length pc0) s0_101) ?_
      refine WA.norm (listed' := #[true, false, false, false, false, false, false, false, false]) (by kernel_rfl) ?_
      refine WA.ex 1 rfl (by kernel_rfl) (by kernel_rfl) (by kernel_rfl) rfl ⟨_, sR⟩ (fun w_ hS_ => ex_move (v := .int .i64 x102) s5_102) ?_
      refine WA.norm (listed' := #[true, true, false, false, false, false, false, false, false]) (by kernel_rfl) ?_
      obtain ⟨x113, hx113, H⟩ := bindE H
      obtain ⟨ad114, e115, g116, g117, cell118⟩ := Row.ixS hra0D hx113
      have hk119 := Row.at hra0D e115 hx113 (x102.toNat * 1)
      replace cell118 := held_cell (Step.refl _ _ _) ⟨_, sR⟩ hk119 rfl cell118
      refine WA.ex 2 rfl (by kernel_rfl) (by kernel_rfl) (by kernel_rfl) rfl ⟨_, sR⟩ (fun w_ hS_ => ex_indexAddr (i := x102) rfl e115 rfl Tryd.underlying24 sz5 g116 g117) ?_
      refine WA.norm (listed' := #[true, true, true, false, false, false, false, false, false]) (by kernel_rfl) ?_
      refine WA.ex 3 rfl (by kernel_rfl) (by kernel_rfl) (by kernel_rfl) rfl ⟨_, sR⟩ (fun w_ hS_ => ex_load1 (v := enc8 x113) rfl Tryd.underlying5 rfl (held_cell sR hS_ hk119 rfl cell118)) ?_
      refine WA.norm (listed' := #[true, true, true, true, false, false, false, false, false]) (by kernel_rfl) ?_
      refine WA.ex 4 rfl (by kernel_rfl) (by kernel_rfl) (by kernel_rfl) rfl ⟨_, sR⟩ (fun w_ hS_ => ex_move (v := .slice pA1 a1.length pc1) s1_101) ?_
      refine WA.norm (listed' := #[true, true, true, true, true, false, false, false, false]) (by kernel_rfl) ?_
      refine WA.ex 5 rfl (by kernel_rfl) (by kernel_rfl) (by kernel_rfl) rfl ⟨_, sR⟩ (fun w_ hS_ => ex_move (v := .int .i64 x102) s5_102) ?_
      refine WA.norm (listed' := #[true, true, true, true, true, true, false, false, false]) (by kernel_rfl) ?_
      obtain ⟨x120, hx120, H⟩ := bindE H
      obtain ⟨ad121, e122, g123, g124, cell125⟩ := Row.ixS hra1D hx120
      have hk126 := Row.at hra1D e122 hx120 (x102.toNat * 1)
      replace cell125 := held_cell (Step.refl _ _ _) ⟨_, sR⟩ hk126 rfl cell125
      refine WA.ex 6 rfl (by kernel_rfl) (by kernel_rfl) (by kernel_rfl) rfl ⟨_, sR⟩ (fun w_ hS_ => ex_indexAddr (i := x102) rfl e122 rfl Tryd.underlying24 sz5 g123 g124) ?_
      refine WA.norm (listed' := #[true, true, true, true, true, true, true, false, false]) (by kernel_rfl) ?_
      refine WA.ex 7 rfl (by kernel_rfl) (by kernel_rfl) (by kernel_rfl) rfl ⟨_, sR⟩ (fun w_ hS_ => ex_load1 (v := enc8 x120) rfl Tryd.underlying5 rfl (held_cell sR hS_ hk126 rfl cell125)) ?_
      refine WA.norm (listed' := #[true, true, true, true, true, true, true, true, false]) (by kernel_rfl) ?_
      refine WA.ex 8 rfl (by kernel_rfl) (by kernel_rfl) (by kernel_rfl) rfl ⟨_, sR⟩ (fun w_ hS_ => ex_bin (a := enc8 x113) (b := enc8 x120) (v := .bool (!(x113 == x120))) rfl rfl bin_neq_u8) ?_
      refine WA.norm (listed' := #[true, true, true, true, true, true, true, true, true]) (by kernel_rfl) ?_
      refine WA.done (by kernel_rfl) ?_
      rcases condE H with ⟨c127, H⟩ | ⟨c127, H⟩
      ·
        refine WC.cond_t ((show _ = Value.bool (!(x113 == x120)) from rfl).trans (congrArg Value.bool c127)) ?_
        refine WC.seq ?_
        refine WC.region ?_
        refine WL.ex rfl (ex_assign (v := .bool false) rfl) ?_
        refine WL.nil ?_
        refine WC.ret ?_
        obtain rfl := Option.some.inj H
        replace H := Ho105
        dsimp only at H
        obtain rfl := Option.some.inj H
        exact ⟨_, (.tmp (.bool false : Value) rfl .nil), _, rfl, HF.out⟩
      ·
        refine WC.cond_f ((show _ = Value.bool (!(x113 == x120)) from rfl).trans (congrArg Value.bool c127)) ?_
        refine WC.skip ?_
        refine WC.region ?_
        refine WL.ex rfl (ex_move (v := .int .i64 x102) s5_102) ?_
        refine WL.ex rfl (ex_bin (a := .int .i64 x102) (b := .int .i64 1) (v := .int .i64 (wrap64 (x102 + 1))) rfl rfl bin_add64) ?_
        refine WL.ex rfl (ex_assign (v := .int .i64 (wrap64 (x102 + 1))) rfl) ?_
        refine WL.nil ?_
        exact ⟨k106, Nat.lt_succ_self _, ⟨_, wrap64 (x102 + 1), HF, hra0, hra1, s0_101, s1_101, s4_101, rfl, H⟩⟩
    ·
      refine WC.cond_f ((show _ = Value.bool (decide (x102 < (a0.length : Int))) from rfl).trans (congrArg Value.bool c110)) ?_
      refine WC.exit ?_
      obtain rfl := Option.some.inj H
      exact ⟨_, HF, s4_101, rfl⟩

/-! ### octet_Reader_Left -/
set_option maxRecDepth 100000 in
theorem octet_Reader_Left.calls (o0 : Tags) (w0 : World) (pb0 : Nat) (pA0_1 : Option Addr) (pc0_1 : Nat) (a0 : T_octet_Reader) (r : Int) (hO : ∀ b, b < w0.heap.size → o0 b < 10) (hB0 : Bk o0 w0 2 pb0 [.bool a0.f_made, .slice pA0_1 a0.f_left.length pc0_1] 68) (hra0_1 : Row Rep.u8 (fun b_ => o0 b_ = 0) (fun b_ => o0 b_ = 0) w0 pA0_1 a0.f_left) (hla0_1 : a0.f_left.length ≤ pc0_1) (H : octet_Reader_Left.f a0 = some r) :
    Calls Tryd.prog 25 [.pointer (some ⟨pb0, 0, none⟩)].toArray w0 fun e_ w_ => ∃ (o_ : Tags), e_ = .returned (one [.int .i64 r]) ∧ Step o0 w0 o_ w_ [] := by
  have HF := Fm.refl hO []
  unfold octet_Reader_Left.f at H
  refine SX.calls [.pointer (some ⟨pb0, 0, none⟩)] Tryd.func25 rfl rfl ?_
  rw [Tryd.ntmps25]
  refine WC.seq ?_
  refine WC.region ?_
  refine WL.ex rfl (ex_assign (v := .int .i64 0) rfl) ?_
  refine WL.nil ?_
  refine WC.seq ?_
  refine WC.seq ?_
  refine WC.region ?_
  refine WL.ex rfl (ex_move (v := .pointer (some ⟨pb0, 0, none⟩)) rfl) ?_
  obtain ⟨z101, hz101, H⟩ := bindE H
  refine WL.op rfl ?_
  refine OW.call [.pointer (some ⟨pb0, 0, none⟩)] rfl Tryd.func43 (by kernel_rfl) (by kernel_rfl) (map_cons' rfl rfl) (octet_Reader_alive.calls _ _ pb0 pA0_1 pc0_1 a0 z101 (HF.ten (V := [0]) (L := [2]) rfl) (Bk.vw (V := [0]) (L := [2]) hB0 rfl) (Row.vw (V := [0]) (L := [2]) hra0_1 rfl) hla0_1 hz101) ?_
  rintro _ w102 ⟨o103, rfl, s104⟩
  refine ⟨_, rfl, ?_⟩
  replace s104 := un_stepL (J := []) (L' := []) s104 rfl rfl
  replace hra0_1 := hra0_1.step s104 rfl
  replace hB0 := hB0.step s104 rfl
  replace HF := HF.step s104 rfl
  refine WL.ex rfl (ex_not (b := z101) rfl) ?_
  refine WL.nil ?_
  rcases condE H with ⟨c105, H⟩ | ⟨c105, H⟩
  ·
    refine WC.cond_t ((show _ = Value.bool (!z101) from rfl).trans (congrArg Value.bool c105)) ?_
    refine WC.seq ?_
    refine WC.region ?_
    refine WL.ex rfl (ex_assign (v := .int .i64 0) rfl) ?_
    refine WL.nil ?_
    refine WC.ret ?_
    obtain rfl := Option.some.inj H
    exact ⟨_, (.tmp (.int .i64 0 : Value) rfl .nil), _, rfl, HF.out⟩
  ·
    refine WC.cond_f ((show _ = Value.bool (!z101) from rfl).trans (congrArg Value.bool c105)) ?_
    refine WC.skip ?_
    refine WC.seq ?_
    refine WC.region ?_
    refine WL.ex rfl (ex_move (v := .pointer (some ⟨pb0, 0, none⟩)) rfl) ?_
    refine WL.ex rfl (ex_nilCheck rfl) ?_
    refine WL.ex rfl (ex_fieldAddr rfl Tryd.underlying68 rfl sz24) ?_
    refine WL.ex rfl (ex_load1 (v := .slice pA0_1 a0.f_left.length pc0_1) rfl Tryd.underlying24 rfl (hB0.cell rfl)) ?_
    refine WL.ex rfl (ex_len_slice (A := pA0_1) (m := a0.f_left.length) (c := pc0_1) rfl Tryd.underlying24) ?_
    refine WL.ex rfl (ex_assign (v := .int .i64 (a0.f_left.length : Int)) rfl) ?_
    refine WL.nil ?_
    refine WC.ret ?_
    obtain rfl := Option.some.inj H
    exact ⟨_, (.tmp (.int .i64 (a0.f_left.length : Int) : Value) rfl .nil), _, rfl, HF.out⟩


/-! ### (*strings.Builder).copyCheck -/
theorem sizeBd : (Tryd.prog.info? 84).map (·.size) = some 2 := by kernel_rfl
theorem info5 : (Tryd.prog.info? 5).map (fun i => (i.zero, i.size, i.bytes)) = some (some (.int .u8 0), 1, 1) := by kernel_rfl
theorem Bd_copyCheck (w0 : World) (b : Nat) (p v : Value) (hb : w0.heap[b]? = some (.cells #[p, v] 84 (0, 0))) (hp : p = .pointer none ∨ p = .pointer (some ⟨b, 0, none⟩)) :
    Calls Tryd.prog 55 [.pointer (some ⟨b, 0, none⟩)].toArray w0 fun e_ w_ => e_ = .returned (one []) ∧ Kept b w0 w_ ∧ w_.heap[b]? = some (.cells #[.pointer (some ⟨b, 0, none⟩), v] 84 (0, 0)) := by
  have hB : Bk (tagOne b) w0 11 b [p, v] 84 := ⟨tagOne_same b, hb⟩
  refine SX.calls [.pointer (some ⟨b, 0, none⟩)] Tryd.func55 rfl rfl ?_
  rw [Tryd.ntmps55]
  refine WC.seq ?_
  refine WC.region ?_
  refine WL.ex rfl (ex_move (v := .pointer (some ⟨b, 0, none⟩)) rfl) ?_
  refine WL.ex rfl (ex_nilCheck rfl) ?_
  refine WL.ex rfl (ex_fieldAddr (k := 0) rfl Tryd.underlying84 rfl (by kernel_rfl)) ?_
  refine WL.ex rfl (ex_load1 (v := p) rfl Tryd.underlying82 rfl (hB.cell rfl)) ?_
  rcases hp with rfl | rfl
  · refine WL.ex rfl (ex_bin (a := .pointer none) (b := .pointer none) (v := .bool true) rfl rfl (bin_eql_ptrNN Tryd.underlying82)) ?_
    refine WL.nil ?_
    refine WC.cond_t rfl ?_
    refine WC.region ?_
    refine WL.ex rfl (ex_move (v := .pointer (some ⟨b, 0, none⟩)) rfl) ?_
    refine WL.ex rfl (ex_move (v := .pointer (some ⟨b, 0, none⟩)) rfl) ?_
    refine WL.ex rfl (ex_to_unsafe rfl Tryd.underlying82 Tryd.underlying105 2 rfl sizeBd rfl hB) ?_
    refine WL.ex rfl (ex_extern1 (v := .pointer (some ⟨b, 0, none⟩)) (v' := .pointer (some ⟨b, 0, none⟩)) rfl Tryd.func63 (by kernel_rfl) (by kernel_rfl) (by kernel_rfl) (ee := Extern.AbiNoEscape.same) (by kernel_rfl) rfl) ?_
    refine WL.ex rfl (ex_from_unsafe rfl Tryd.underlying105 Tryd.underlying82 (by kernel_rfl) hB (by kernel_rfl)) ?_
    refine WL.ex rfl (ex_nilCheck rfl) ?_
    refine WL.ex rfl (ex_fieldAddr (k := 0) rfl Tryd.underlying84 rfl (by kernel_rfl)) ?_
    refine WL.op rfl ?_
    refine OW.store [.pointer (some ⟨b, 0, none⟩), v] rfl (vs := [.pointer (some ⟨b, 0, none⟩)]) rfl (by kernel_rfl) hB (Nat.le_of_ble_eq_true rfl) (by intro u hu; simp at hu; subst hu; rfl) rfl ?_
    intro w1 s1 h1
    refine WL.nil ?_
    exact ⟨_, .nil, rfl, s1.kept, h1.heap⟩
  · refine WL.ex rfl (ex_bin (a := .pointer (some ⟨b, 0, none⟩)) (b := .pointer none) (v := .bool false) rfl rfl (bin_eql_ptrSN Tryd.underlying82)) ?_
    refine WL.nil ?_
    refine WC.cond_f rfl ?_
    refine WC.seq ?_
    refine WC.region ?_
    refine WL.ex rfl (ex_move (v := .pointer (some ⟨b, 0, none⟩)) rfl) ?_
    refine WL.ex rfl (ex_nilCheck rfl) ?_
    refine WL.ex rfl (ex_fieldAddr (k := 0) rfl Tryd.underlying84 rfl (by kernel_rfl)) ?_
    refine WL.ex rfl (ex_load1 (v := .pointer (some ⟨b, 0, none⟩)) rfl Tryd.underlying82 rfl (hB.cell rfl)) ?_
    refine WL.ex rfl (ex_move (v := .pointer (some ⟨b, 0, none⟩)) rfl) ?_
    refine WL.ex rfl (ex_bin (a := .pointer (some ⟨b, 0, none⟩)) (b := .pointer (some ⟨b, 0, none⟩)) (v := .bool false) rfl rfl (bin_neq_ptrSame Tryd.underlying82 (by kernel_rfl))) ?_
    refine WL.nil ?_
    refine WC.cond_f rfl ?_
    refine WC.skip ?_
    exact ⟨_, .nil, rfl, (Step.refl _ _ _).kept, hb⟩


/-! ### (*strings.Builder).WriteByte -/
theorem Builder_WriteByte.calls (o0 : Tags) (w0 : World) (b : Nat) (a0 : List UInt8) (a1 : UInt8) (r : List UInt8) (hO : ∀ b, b < w0.heap.size → o0 b < 10) (hB0 : Bd 84 5 2 o0 w0 b a0) (H : Builder_WriteByte.f a0 a1 = some r) :
    Calls Tryd.prog 47 [.pointer (some ⟨b, 0, none⟩), enc8 a1].toArray w0 fun e_ w_ => ∃ (o_ : Tags), e_ = .returned (one [.nilIface]) ∧ Step o0 w0 o_ w_ [2] ∧ Bd 84 5 2 o_ w_ b r := by
  unfold Builder_WriteByte.f at H
  obtain ⟨u, hu, H⟩ := bindE H
  obtain rfl := Option.some.inj H
  obtain ⟨p, v, hB0', hp, hO1⟩ := hB0
  have hb := hB0'.heap
  have hn := hO1.notin hb rfl
  have h0 : o0 b ≠ 0 := by rw [hB0'.tag]; decide
  have hO2 : Own Rep.u8 5 2 (apart1 o0 b) w0 v a0 := hO1.apart hn h0
  refine SX.calls [.pointer (some ⟨b, 0, none⟩), enc8 a1] Tryd.func47 rfl rfl ?_
  rw [Tryd.ntmps47]
  refine WC.seq ?_
  refine WC.region ?_
  refine WL.ex rfl (ex_assign (v := .nilIface) rfl) ?_
  refine WL.nil ?_
  refine WC.seq ?_
  refine WC.region ?_
  refine WL.ex rfl (ex_move (v := .pointer (some ⟨b, 0, none⟩)) rfl) ?_
  refine WL.op rfl ?_
  refine OW.call [.pointer (some ⟨b, 0, none⟩)] rfl Tryd.func55 (by kernel_rfl) (by kernel_rfl) rfl (Bd_copyCheck w0 b p v hb hp) ?_
  rintro _ w1 ⟨rfl, k1, hb1⟩
  refine ⟨_, rfl, ?_⟩
  have s1 : Step (apart1 o0 b) w0 (apart1 o0 b) w1 [11, 2] := Step.trans (k1.step (apart1_same o0 b)) (Step.refl _ _ []) rfl rfl
  replace hO2 := hO2.kept k1 hn (by rw [apart1_same]; decide)
  have hB : Bk (apart1 o0 b) w1 11 b [.pointer (some ⟨b, 0, none⟩), v] 84 := ⟨apart1_same o0 b, hb1⟩
  refine WL.nil ?_
  refine WC.seq ?_
  refine WC.region ?_
  refine WL.ex rfl (ex_move (v := .pointer (some ⟨b, 0, none⟩)) rfl) ?_
  refine WL.ex rfl (ex_move (v := .pointer (some ⟨b, 0, none⟩)) rfl) ?_
  refine WL.ex rfl (ex_nilCheck rfl) ?_
  refine WL.ex rfl (ex_fieldAddr (k := 0) rfl Tryd.underlying84 rfl (by kernel_rfl)) ?_
  refine WL.ex rfl (ex_load1 (v := v) rfl Tryd.underlying24 rfl (hB.cell rfl)) ?_
  refine WL.ex rfl (ex_move (v := enc8 a1) rfl) ?_
  refine WL.op rfl ?_
  refine OW.row (r := Rep.u8) (xs := [a1]) [(0, enc8 a1)] [[enc8 a1]] 12 (Fm.here2 (apart1 o0 b) w1) rfl Tryd.underlying24 (by kernel_rfl) (by kernel_rfl : (Tryd.prog.info? 5).map (·.zero) = some (some (.int .u8 0))) rfl rfl rfl rfl ⟨rfl, trivial⟩ rfl rfl rfl rfl ?_
  intro o2 w2 v2 s2 hO4
  replace hO2 := hO2.step s2 rfl rfl
  replace hB := hB.step s2 rfl
  replace s1 := Step.trans s1 s2 (M := [11, 2]) rfl rfl
  obtain ⟨A4, c4, q4, _, hr4⟩ := hO4.row
  refine WL.op rfl ?_
  refine OW.append (r := Rep.u8) (E := 5) (i := 2) rfl Tryd.underlying24 info5 rfl (by decide) (by decide) (by decide) rfl q4 hO2 hr4 rfl (of_decide_eq_true (chk_true hu)) ?_
  intro o3 w3 v3 s3 hO2
  replace hB := hB.step s3 rfl
  replace s1 := Step.trans s1 s3 (M := [11, 2]) rfl rfl
  refine WL.ex rfl (ex_nilCheck rfl) ?_
  refine WL.ex rfl (ex_fieldAddr (k := 0) rfl Tryd.underlying84 rfl (by kernel_rfl)) ?_
  refine WL.op rfl ?_
  refine OW.store [.pointer (some ⟨b, 0, none⟩), v3] rfl (vs := [v3]) (by obtain ⟨A_, c_, e_⟩ := hO2.slice; show v3.cells = _; rw [e_]; rfl) (by kernel_rfl) hB (Nat.le_of_ble_eq_true rfl) (by intro u hu; simp at hu; subst hu; obtain ⟨A_, c_, e_⟩ := hO2.slice; rw [e_]; rfl) rfl ?_
  intro w4 s4 hB4
  replace hO2 := hO2.step s4 rfl rfl
  replace s1 := Step.trans s1 s4 (M := [11, 2]) rfl rfl
  refine WL.nil ?_
  refine WC.seq ?_
  refine WC.region ?_
  refine WL.ex rfl (ex_assign (v := .nilIface) rfl) ?_
  refine WL.nil ?_
  refine WC.ret ?_
  exact ⟨_, .tmp (.nilIface) rfl .nil, _, rfl, apart_step hO hB0'.tag s1 rfl, _, _, Bk.renTo hB4, .inr rfl, hO2.ren rfl rfl⟩


/-! ### (*strings.Builder).String -/
theorem unsafe_string (i : Nat) (o : Tags) (w : World) (A : Option Addr) (xs : List UInt8) (c : Nat) (p : Option Addr) (hO : Own Rep.u8 5 i o w (.slice A xs.length c) xs) (hp : xs ≠ [] → p = A) (hl : xs.length ≤ 9223372036854775807) :
    ∃ w', (Builtin.unsafeString_ #[99, 3] 9 #[.pointer p, .int .i64 xs.length]).run Tryd.prog w = .ok (encS xs) w' ∧ Step o w o w' [i] := by
  by_cases h0 : xs = []
  · subst h0
    exact ⟨w, by have := Lib.run_unsafeString_none (P := Tryd.prog) w 99 3 9 p; rw [List.length_nil]; rw [show ((0 : Nat) : Int) = 0 from rfl, this]; rfl, Step.refl _ _ _⟩
  · obtain rfl := hp h0
    obtain ⟨cells, hown, ht, hm⟩ := hO
    rcases hown.2 with ⟨_, hz⟩ | ⟨g, cap, cur, hv, _, hg, hn, hcm, hcs, htake⟩
    · exact absurd (List.eq_nil_of_length_eq_zero hz) h0
    · injection hv with e1 _ e3
      subst e1
      have hcz : cur.size = cap := by rw [hcs]; exact Nat.mul_one cap
      refine ⟨w.freeze ⟨g, 0, none⟩ xs.length, ?_, step_freeze (ht g rfl)⟩
      refine Lib.run_unsafeString_row (P := Tryd.prog) w 99 3 9 5 Tryd.underlying99 (by kernel_rfl) g cur.size (by simp [World.shape?, hg]) xs h0 (by omega) hl ?_
      intro j x hx
      have hcell := World.ownsRow.cells hown (g := g) rfl j (enc8 x)
      have hcs' : cells = xs.map enc8 := many_scalar hm
      rw [hcs'] at hcell
      exact hcell (by simp [hx])
theorem Builder_String.calls (o0 : Tags) (w0 : World) (b : Nat) (a0 : List UInt8) (r : List UInt8) (hO : ∀ b, b < w0.heap.size → o0 b < 10) (hB0 : Bd 84 5 2 o0 w0 b a0) (H : Builder_String.f a0 = some r) :
    Calls Tryd.prog 48 [.pointer (some ⟨b, 0, none⟩)].toArray w0 fun e_ w_ => ∃ (o_ : Tags), e_ = .returned (one [encS r]) ∧ Step o0 w0 o_ w_ [2] := by
  unfold Builder_String.f at H
  obtain ⟨u, hu, H⟩ := bindE H
  obtain rfl := Option.some.inj H
  have hl : a0.length ≤ 9223372036854775807 := of_decide_eq_true (chk_true hu)
  obtain ⟨p, v, hB0', hp, hO1⟩ := hB0
  have hb := hB0'.heap
  have hn := hO1.notin hb rfl
  have h0 : o0 b ≠ 0 := by rw [hB0'.tag]; decide
  have hO2 : Own Rep.u8 5 2 (apart1 o0 b) w0 v a0 := hO1.apart hn h0
  have HF := Fm.here2 (apart1 o0 b) w0
  have hB : Bk (apart1 o0 b) w0 11 b [p, v] 84 := ⟨apart1_same o0 b, hb⟩
  refine SX.calls [.pointer (some ⟨b, 0, none⟩)] Tryd.func48 rfl rfl ?_
  rw [Tryd.ntmps48]
  refine WC.seq ?_
  refine WC.region ?_
  refine WL.ex rfl (ex_assign (v := encS []) rfl) ?_
  refine WL.nil ?_
  refine WC.seq ?_
  refine WC.regionD' HF [2] 12 (by kernel_rfl) rfl ?_
  intro w1 s1
  replace hO2 := hO2.step s1 rfl rfl
  replace hB := hB.step s1 rfl
  replace HF := HF.step s1 rfl
  have hBD := hB
  have sR := HF.here [2]
  obtain ⟨A, c, e, hlc, hr⟩ := hO2.row
  subst e
  refine WA.ex 0 rfl (by kernel_rfl) (by kernel_rfl) (by kernel_rfl) rfl ⟨_, sR⟩ (fun w_ hS_ => ex_move (v := .pointer (some ⟨b, 0, none⟩)) rfl) ?_
  refine WA.ex 1 rfl (by kernel_rfl) (by kernel_rfl) (by kernel_rfl) rfl ⟨_, sR⟩ (fun w_ hS_ => ex_nilCheck rfl) ?_
  refine WA.ex 2 rfl (by kernel_rfl) (by kernel_rfl) (by kernel_rfl) rfl ⟨_, sR⟩ (fun w_ hS_ => ex_fieldAddr (k := 0) rfl Tryd.underlying84 rfl (by kernel_rfl)) ?_
  refine WA.ex 3 rfl (by kernel_rfl) (by kernel_rfl) (by kernel_rfl) rfl ⟨_, sR⟩ (fun w_ hS_ => ex_load1 (v := .slice A a0.length c) rfl Tryd.underlying24 rfl ((hBD.step hS_.choose_spec rfl).cell rfl)) ?_
  refine WA.ex 5 rfl (by kernel_rfl) (by kernel_rfl) (by kernel_rfl) rfl ⟨_, sR⟩ (fun w_ hS_ => ex_move (v := .pointer (some ⟨b, 0, none⟩)) rfl) ?_
  refine WA.ex 6 rfl (by kernel_rfl) (by kernel_rfl) (by kernel_rfl) rfl ⟨_, sR⟩ (fun w_ hS_ => ex_nilCheck rfl) ?_
  refine WA.ex 7 rfl (by kernel_rfl) (by kernel_rfl) (by kernel_rfl) rfl ⟨_, sR⟩ (fun w_ hS_ => ex_fieldAddr (k := 0) rfl Tryd.underlying84 rfl (by kernel_rfl)) ?_
  refine WA.ex 8 rfl (by kernel_rfl) (by kernel_rfl) (by kernel_rfl) rfl ⟨_, sR⟩ (fun w_ hS_ => ex_load1 (v := .slice A a0.length c) rfl Tryd.underlying24 rfl ((hBD.step hS_.choose_spec rfl).cell rfl)) ?_
  refine WA.ex 9 rfl (by kernel_rfl) (by kernel_rfl) (by kernel_rfl) rfl ⟨_, sR⟩ (fun w_ hS_ => ex_len_slice (A := A) (m := a0.length) (c := c) rfl Tryd.underlying24) ?_
  have hdata : ∃ q w2 o2, (Builtin.unsafeSliceData_ #[24] 99 #[.slice A a0.length c]).run Tryd.prog w1 = .ok (.pointer q) w2 ∧ Step (apart1 o0 b) w1 o2 w2 [] ∧ (a0 ≠ [] → q = A) := by
    cases A with
    | none => exact ⟨none, w1, _, Lib.run_unsafeSliceData_nil w1 _ _ _ _, Step.refl _ _ _, fun _ => rfl⟩
    | some ad =>
      by_cases hc : c = 0
      · subst hc
        obtain ⟨cells, hown, ht, hm⟩ := hO2
        rcases hown.2 with ⟨hz, _⟩ | ⟨g, cap, cur, hv, _, hg, _⟩
        · cases hz
        · injection hv with e1 _ e3
          injection e1 with e1
          subst e1
          exact ⟨_, _, _, Lib.run_unsafeSliceData_zero (P := Tryd.prog) w1 #[24] 99 5 Tryd.underlying99 ⟨g, 0, none⟩ a0.length (5, cur.size) (by simp [World.shape?, hg]), step_alloc (apart1 o0 b) w1 1 _ [], fun h => absurd (List.eq_nil_of_length_eq_zero (by omega)) h⟩
      · exact ⟨some ad, w1, _, Lib.run_unsafeSliceData_row w1 _ _ ad _ _ hc, Step.refl _ _ _, fun _ => rfl⟩
  obtain ⟨q, w2, o2, hr2, s2, hq⟩ := hdata
  refine WA.one 4 (by kernel_rfl) rfl rfl ?_
  refine OW.val (v := .pointer q) (w' := w2) rfl (run_usd (v := .slice A a0.length c) rfl hr2) ?_
  replace sR := Step.trans sR s2 (M := [2]) rfl rfl
  replace hO2 := hO2.step s2 rfl rfl
  refine ⟨⟨_, sR⟩, ?_⟩
  obtain ⟨w3, hr3, s3⟩ := unsafe_string 2 o2 w2 A a0 c q hO2 hq hl
  refine WA.one 10 (by kernel_rfl) rfl rfl ?_
  refine OW.val (v := encS a0) (w' := w3) rfl (run_us (v := .pointer q) (u := .int .i64 (a0.length : Int)) rfl rfl hr3) ?_
  replace sR := Step.trans sR s3 (M := [2]) rfl rfl
  refine ⟨⟨_, sR⟩, ?_⟩
  refine WA.one 11 (by kernel_rfl) rfl rfl ?_
  refine OW.ex rfl (ex_assign (v := encS a0) rfl) ?_
  refine ⟨⟨_, sR⟩, ?_⟩
  refine WA.done (by kernel_rfl) ?_
  refine WC.ret ?_
  exact ⟨_, .tmp (encS a0) rfl .nil, _, rfl, apart_step hO hB0'.tag (Step.trans s1 sR (M := [11, 2]) rfl rfl) rfl⟩

/-! ### octet_Hex -/
set_option maxRecDepth 100000 in
theorem octet_Hex.calls (k : Nat) (o0 : Tags) (w0 : World) (pA0 : Option Addr) (pc0 : Nat) (a0 : (List UInt8)) (r : (List UInt8)) (hO : ∀ b, b < w0.heap.size → o0 b < 10) (hra0 : Row Rep.u8 (fun b_ => o0 b_ = 0) (fun b_ => o0 b_ = 0) w0 pA0 a0) (hla0 : a0.length ≤ pc0) (H : octet_Hex.f k a0 = some r) :
    Calls Tryd.prog 31 [.slice pA0 a0.length pc0].toArray w0 fun e_ w_ => ∃ (o_ : Tags), e_ = .returned (one [encS r]) ∧ Step o0 w0 o_ w_ [] := by
  have HF := Fm.refl hO []
  unfold octet_Hex.f at H
  refine SX.calls [.slice pA0 a0.length pc0] Tryd.func31 rfl rfl ?_
  rw [Tryd.ntmps31]
  refine WC.seq ?_
  refine WC.region ?_
  refine WL.ex rfl (ex_assign (v := encS ([] : List UInt8)) rfl) ?_
  refine WL.nil ?_
  refine WC.seq ?_
  refine WC.region ?_
  refine WL.op rfl ?_
  refine OW.allocBd (E := 5) 10 HF rfl (by kernel_rfl) ?_
  intro o102 w103 b101 s104 hB105
  replace hra0 := hra0.step s104 rfl
  replace HF := HF.step s104 rfl
  refine WL.nil ?_
  refine WC.seq ?_
  refine WC.seq ?_
  refine WC.region ?_
  refine WL.ex rfl (ex_move (v := .slice pA0 a0.length pc0) rfl) ?_
  refine WL.ex rfl (ex_len_slice (A := pA0) (m := a0.length) (c := pc0) rfl Tryd.underlying24) ?_
  refine WL.ex rfl (ex_move (v := .int .i64 0) rfl) ?_
  refine WL.nil ?_
  obtain ⟨z109, hz109, H⟩ := bindE H
  refine WC.for (fun k_ ρ_ w_ => ∃ (o_ : Tags) (x106 : Int) (x107 : (List UInt8)), Fm o0 w0 o_ w_ [] ∧ Row Rep.u8 (fun b_ => o_ b_ = 0) (fun b_ => o_ b_ = 0) w_ pA0 a0 ∧ Bd 84 5 10 o_ w_ b101 x107 ∧ ρ_ 2 = encS ([] : List UInt8) ∧ ρ_ 3 = .pointer (some ⟨b101, 0, none⟩) ∧ ρ_ 6 = .slice pA0 a0.length pc0 ∧ ρ_ 7 = .int .i64 (a0.length : Int) ∧ ρ_ 8 = .int .i64 x106 ∧ octet_Hex.l1 k a0 k_ x106 x107 = some z109) k (fun ρ_ w_ => ∃ (o_ : Tags), Fm o0 w0 o_ w_ [] ∧ Bd 84 5 10 o_ w_ b101 z109 ∧ ρ_ 2 = encS ([] : List UInt8) ∧ ρ_ 3 = .pointer (some ⟨b101, 0, none⟩)) ⟨_, 0, ([] : List UInt8), HF, hra0, hB105, rfl, rfl, rfl, rfl, rfl, hz109⟩ ?case110 ?_
  case case110 =>
    rintro ρ138 w136 ⟨o137, HF, hB105, s2_107, s3_107⟩
    refine WC.seq ?_
    refine WC.region ?_
    obtain ⟨z139, hz139, H⟩ := bindE H
    refine WL.op rfl ?_
    refine OW.call [.pointer (some ⟨b101, 0, none⟩)] rfl Tryd.func48 (by kernel_rfl) (by kernel_rfl) (map_cons' s3_107 rfl) (Builder_String.calls _ _ b101 z109 z139 (HF.ten (V := [0]) (L := [10]) rfl) (Bd.vw (V := [0]) (L := [10]) hB105 rfl rfl) hz139) ?_
    rintro _ w140 ⟨o141, rfl, s142⟩
    refine ⟨_, rfl, ?_⟩
    replace s142 := un_stepL (J := []) (L' := [10]) s142 rfl rfl
    replace HF := HF.step s142 rfl
    refine WL.ex rfl (ex_assign (v := encS z139) rfl) ?_
    refine WL.nil ?_
    refine WC.ret ?_
    obtain rfl := Option.some.inj H
    exact ⟨_, (.tmp (encS z139 : Value) rfl .nil), _, rfl, HF.out⟩
  have Ho111 := H
  rintro k112 ρ113 w114 ⟨o115, x106, x107, HF, hra0, hB105, s2_105, s3_105, s6_105, s7_105, s8_106, H⟩
  cases k112 with
  | zero => cases H
  | succ k112 =>
  rw [octet_Hex.l1.eq_2] at H
  refine WC.seq ?_
  refine WC.region ?_
  refine WL.ex rfl (ex_bin (a := .int .i64 x106) (b := .int .i64 (a0.length : Int)) (v := .bool (decide (x106 < (a0.length : Int)))) s8_106 s7_105 bin_lss) ?_
  refine WL.nil ?_
  refine WC.seq ?_
  rcases condE H with ⟨c116, H⟩ | ⟨c116, H⟩
  ·
    refine WC.cond_t ((show _ = Value.bool (decide (x106 < (a0.length : Int))) from rfl).trans (congrArg Value.bool c116)) ?_
    refine WC.skip ?_
    refine WC.seq ?_
    refine WC.block ?_
    refine WC.seq ?_
    refine WC.region ?_
    obtain ⟨x117, hx117, H⟩ := bindE H
    obtain ⟨ad118, e119, g120, g121, cell122⟩ := Row.ixS hra0 hx117
    refine WL.ex rfl (ex_indexAddr (i := x106) s6_105 e119 s8_106 Tryd.underlying24 sz5 g120 g121) ?_
    refine WL.ex rfl (ex_load1 (v := enc8 x117) rfl Tryd.underlying5 rfl cell122) ?_
    refine WL.ex rfl (ex_assign (v := enc8 x117) rfl) ?_
    refine WL.nil ?_
    refine WC.seq ?_
    refine WC.region ?_
    refine WL.ex rfl (ex_move (v := enc8 x117) rfl) ?_
    refine WL.ex rfl (ex_bin (a := enc8 x117) (b := enc64 (4 : UInt64)) (v := enc8 (shr8 x117 4)) rfl rfl (bin_shr_u8n (n := 4))) ?_
    obtain ⟨x124, hx124, H⟩ := bindE H
    refine WL.ex rfl (ex_index_str (i := ((shr8 x117 4).toNat : Int)) rfl rfl Tryd.underlying9 (ix_some hx124).1 (ix_some hx124).2.2) ?_
    obtain ⟨z125, hz125, H⟩ := bindE H
    refine WL.op rfl ?_
    refine OW.call [.pointer (some ⟨b101, 0, none⟩), enc8 x124] rfl Tryd.func47 (by kernel_rfl) (by kernel_rfl) (map_cons' s3_105 (map_cons' rfl rfl)) (Builder_WriteByte.calls _ _ b101 x107 x124 z125 (HF.ten (V := [0]) (L := [10]) rfl) (Bd.vw (V := [0]) (L := [10]) hB105 rfl rfl) hz125) ?_
    rintro _ w126 ⟨o127, rfl, s128, hB129⟩
    refine ⟨_, rfl, ?_⟩
    replace hB129 := Bd.unO (J := []) 0 hB129 s128 rfl rfl rfl
    replace s128 := un_stepL (J := []) (L' := [10]) s128 rfl rfl
    replace hra0 := hra0.step s128 rfl
    replace HF := HF.step s128 rfl
    refine WL.nil ?_
    refine WC.region ?_
    refine WL.ex rfl (ex_move (v := enc8 x117) rfl) ?_
    refine WL.ex rfl (ex_bin (a := enc8 x117) (b := enc8 (15 : UInt8)) (v := enc8 (x117 &&& (15 : UInt8))) rfl rfl bin_and_u8) ?_
    obtain ⟨x130, hx130, H⟩ := bindE H
    refine WL.ex rfl (ex_index_str (i := ((x117 &&& (15 : UInt8)).toNat : Int)) rfl rfl Tryd.underlying9 (ix_some hx130).1 (ix_some hx130).2.2) ?_
    obtain ⟨z131, hz131, H⟩ := bindE H
    refine WL.op rfl ?_
    refine OW.call [.pointer (some ⟨b101, 0, none⟩), enc8 x130] rfl Tryd.func47 (by kernel_rfl) (by kernel_rfl) (map_cons' s3_105 (map_cons' rfl rfl)) (Builder_WriteByte.calls _ _ b101 z125 x130 z131 (HF.ten (V := [0]) (L := [10]) rfl) (Bd.vw (V := [0]) (L := [10]) hB129 rfl rfl) hz131) ?_
    rintro _ w132 ⟨o133, rfl, s134, hB135⟩
    refine ⟨_, rfl, ?_⟩
    replace hB135 := Bd.unO (J := []) 0 hB135 s134 rfl rfl rfl
    replace s134 := un_stepL (J := []) (L' := [10]) s134 rfl rfl
    replace hra0 := hra0.step s134 rfl
    replace HF := HF.step s134 rfl
    refine WL.nil ?_
    refine WC.region ?_
    refine WL.ex rfl (ex_bin (a := .int .i64 x106) (b := .int .i64 1) (v := .int .i64 (wrap64 (x106 + 1))) s8_106 rfl bin_add64) ?_
    refine WL.ex rfl (ex_move (v := .int .i64 (wrap64 (x106 + 1))) rfl) ?_
    refine WL.nil ?_
    exact ⟨k112, Nat.lt_succ_self _, ⟨_, wrap64 (x106 + 1), z131, HF, hra0, hB135, s2_105, s3_105, s6_105, s7_105, rfl, H⟩⟩
  ·
    refine WC.cond_f ((show _ = Value.bool (decide (x106 < (a0.length : Int))) from rfl).trans (congrArg Value.bool c116)) ?_
    refine WC.exit ?_
    obtain rfl := Option.some.inj H
    exact ⟨_, HF, hB105, s2_105, s3_105⟩

/-! ### dictumlaw01_heads -/
set_option maxRecDepth 100000 in
theorem dictumlaw01_heads.calls (k : Nat) (o0 : Tags) (w0 : World) (r : Bool) (hO : ∀ b, b < w0.heap.size → o0 b < 10) (hG : Gl GG o0 w0) (H : dictumlaw01_heads.f k = some r) :
    Calls Tryd.prog 12 [].toArray w0 fun e_ w_ => ∃ (o_ : Tags), e_ = .returned (one [.bool r]) ∧ Step o0 w0 o_ w_ [] := by
  have HF := Fm.refl hO []
  unfold dictumlaw01_heads.f at H
  refine SX.calls [] Tryd.func12 rfl rfl ?_
  rw [Tryd.ntmps12]
  refine WC.seq ?_
  refine WC.region ?_
  refine WL.ex rfl (ex_assign (v := .bool false) rfl) ?_
  refine WL.nil ?_
  refine WC.seq ?_
  refine WC.region ?_
  refine WL.ex rfl (ex_build (cs := [.slice none ([] : List UInt8).length 0]) [(0, 1)] [] [.slice none 0 0] Tryd.underlying26 zr26 rfl (by kernel_rfl) rfl rfl) ?_
  refine WL.op rfl ?_
  refine OW.box' [.slice none ([] : List UInt8).length 0] 10 HF rfl ((congrArg Value.cells (show ev _ _ = (.agg #[.slice none ([] : List UInt8).length 0] : Value) from rfl)).trans rfl) ?_
  intro o102 w103 b101 s104 hB105
  replace hG := hG.step s104 rfl
  replace HF := HF.step s104 rfl
  refine WL.ex rfl (ex_assign (v := .pointer (some ⟨b101, 0, none⟩)) rfl) ?_
  refine WL.nil ?_
  refine WC.seq ?_
  refine WC.region ?_
  refine WL.ex rfl (ex_move (v := .pointer (some ⟨b101, 0, none⟩)) rfl) ?_
  obtain ⟨z106, hz106, H⟩ := bindE H
  refine WL.op rfl ?_
  refine OW.call [.pointer (some ⟨b101, 0, none⟩), enc8 (9 : UInt8)] rfl Tryd.func27 (by kernel_rfl) (by kernel_rfl) (map_cons' rfl (map_cons' rfl rfl)) (octet_Writer_U8.calls _ _ b101 (.slice none 0 0) (⟨([] : List UInt8)⟩ : T_octet_Writer) (9 : UInt8) z106 (HF.ten (V := [0]) (L := [10, 11]) rfl) (Bk.vw (V := [0]) (L := [10, 11]) hB105 rfl) (Own.nil) hz106) ?_
  rintro _ w107 ⟨o108, v111, rfl, s109, hB110, hO112⟩
  refine ⟨_, rfl, ?_⟩
  replace hB110 := Bk.unO (J := []) 0 hB110 s109 rfl rfl rfl
  replace hO112 := Own.unO (J := []) 1 hO112 s109 rfl rfl rfl
  replace s109 := un_stepL (J := []) (L' := [10, 11]) s109 rfl rfl
  replace hG := hG.step s109 rfl
  replace HF := HF.step s109 rfl
  refine WL.nil ?_
  refine WC.seq ?_
  refine WC.region ?_
  refine WL.ex rfl (ex_move (v := .pointer (some ⟨b101, 0, none⟩)) rfl) ?_
  obtain ⟨z113, hz113, H⟩ := bindE H
  refine WL.op rfl ?_
  refine OW.call [.pointer (some ⟨b101, 0, none⟩), enc64 (300 : UInt64)] rfl Tryd.func28 (by kernel_rfl) (by kernel_rfl) (map_cons' rfl (map_cons' rfl rfl)) (octet_Writer_Num.calls k _ _ b101 v111 z106 (300 : UInt64) z113 (HF.ten (V := [0]) (L := [10, 11]) rfl) (Bk.vw (V := [0]) (L := [10, 11]) hB110 rfl) (Own.vw (V := [0]) (L := [10, 11]) hO112 rfl rfl) hz113) ?_
  rintro _ w114 ⟨o115, v118, rfl, s116, hB117, hO119⟩
  refine ⟨_, rfl, ?_⟩
  replace hB117 := Bk.unO (J := []) 0 hB117 s116 rfl rfl rfl
  replace hO119 := Own.unO (J := []) 1 hO119 s116 rfl rfl rfl
  replace s116 := un_stepL (J := []) (L' := [10, 11]) s116 rfl rfl
  replace hG := hG.step s116 rfl
  replace HF := HF.step s116 rfl
  refine WL.nil ?_
  refine WC.seq ?_
  refine WC.region ?_
  refine WL.ex rfl (ex_move (v := .pointer (some ⟨b101, 0, none⟩)) rfl) ?_
  obtain ⟨z120, hz120, H⟩ := bindE H
  refine WL.op rfl ?_
  refine OW.call [.pointer (some ⟨b101, 0, none⟩), encS ([112] : List UInt8)] rfl Tryd.func29 (by kernel_rfl) (by kernel_rfl) (map_cons' rfl (map_cons' rfl rfl)) (octet_Writer_Text.calls k _ _ b101 v118 z113 ([112] : List UInt8) z120 (HF.ten (V := [0]) (L := [10, 11]) rfl) (Bk.vw (V := [0]) (L := [10, 11]) hB117 rfl) (Own.vw (V := [0]) (L := [10, 11]) hO119 rfl rfl) (Gl.vw (V := [0]) (L := [10, 11]) hG rfl) hz120) ?_
  rintro _ w121 ⟨o122, v125, rfl, s123, hB124, hO126⟩
  refine ⟨_, rfl, ?_⟩
  replace hB124 := Bk.unO (J := []) 0 hB124 s123 rfl rfl rfl
  replace hO126 := Own.unO (J := []) 1 hO126 s123 rfl rfl rfl
  replace s123 := un_stepL (J := []) (L' := [10, 11]) s123 rfl rfl
  replace hG := hG.step s123 rfl
  replace HF := HF.step s123 rfl
  refine WL.ex rfl (ex_assign (v := .int .i64 z120.1) rfl) ?_
  refine WL.nil ?_
  refine WC.seq ?_
  refine WC.region ?_
  refine WL.op rfl ?_
  refine OW.row (r := Rep.u8) (xs := [(172 : UInt8), (130 : UInt8), (0 : UInt8)]) [(0, enc8 (172 : UInt8)), (1, enc8 (130 : UInt8)), (2, enc8 (0 : UInt8))] [[enc8 (172 : UInt8)], [enc8 (130 : UInt8)], [enc8 (0 : UInt8)]] 12 HF rfl Tryd.underlying24 sz5 zr5 rfl (evs_cons rfl (evs_cons rfl (evs_cons rfl rfl))) rfl rfl ⟨rfl, rfl, rfl, trivial⟩ rfl rfl rfl rfl ?_
  intro o127 w128 v130 s129 hO131
  replace hG := hG.step s129 rfl
  replace hB124 := hB124.step s129 rfl
  replace hO126 := hO126.step s129 rfl rfl
  replace HF := HF.step s129 rfl
  obtain ⟨A132, c133, q134e, q134l, q134⟩ := Own.vwRow (V := [0, 12]) (L := []) hO131 rfl rfl
  obtain ⟨z135, hz135, H⟩ := bindE H
  have q134e' := q134e
  refine WL.op rfl ?_
  refine OW.call [v130] rfl Tryd.func19 (by kernel_rfl) (by kernel_rfl) (map_cons' rfl rfl) (by simp only [q134e]; exact (octet_NewReader.calls _ _ A132 c133 [(172 : UInt8), (130 : UInt8), (0 : UInt8)] z135 (HF.ten (V := [0, 12]) (L := []) rfl) q134 q134l hz135)) ?_
  rintro _ w136 ⟨o137, b139, v141, rfl, s138, hB140, hO142⟩
  refine ⟨_, rfl, ?_⟩
  replace hB140 := Bk.un9 (J := [13, 14]) 0 hB140 rfl s138 rfl rfl
  replace hO142 := Own.un9f (J := [13, 14]) 1 (fun h => h) hO142 rfl s138 rfl rfl
  replace s138 := un_stepL (J := [13, 14]) (L' := []) s138 rfl rfl
  replace hG := hG.step s138 rfl
  replace hB124 := hB124.step s138 rfl
  replace hO126 := hO126.step s138 rfl rfl
  replace hO131 := hO131.step s138 rfl rfl
  replace HF := HF.step s138 rfl
  refine WL.ex rfl (ex_assign (v := .pointer (some ⟨b139, 0, none⟩)) rfl) ?_
  refine WL.nil ?_
  refine WC.seq ?_
  refine WC.region ?_
  refine WL.ex rfl (ex_move (v := .pointer (some ⟨b139, 0, none⟩)) rfl) ?_
  obtain ⟨A143, c144, rfl, hl145, hr146⟩ := hO142.pubRow
  replace hG := hG.pub 14
  replace hB124 := hB124.pub 14 rfl
  replace hO126 := hO126.pub 14 rfl
  replace hO131 := hO131.pub 14 rfl
  replace hB140 := hB140.pub 14 rfl
  replace HF := HF.pub 14 rfl
  obtain ⟨z147, hz147, H⟩ := bindE H
  refine WL.op rfl ?_
  refine OW.call [.pointer (some ⟨b139, 0, none⟩)] rfl Tryd.func21 (by kernel_rfl) (by kernel_rfl) (map_cons' rfl rfl) (octet_Reader_Num.calls k _ _ b139 A143 c144 z135 z147 (HF.ten (V := [0]) (L := [13]) rfl) (Bk.vw (V := [0]) (L := [13]) hB140 rfl) (Row.vw (V := [0]) (L := [13]) hr146 rfl) hl145 hz147) ?_
  rintro _ w148 ⟨o149, A152, c153, rfl, s150, hB151, hl154, hr155⟩
  refine ⟨_, rfl, ?_⟩
  replace hB151 := Bk.unO (J := []) 0 hB151 s150 rfl rfl rfl
  replace hr155 := hr155.un (J := []) s150
  replace s150 := un_stepL (J := []) (L' := [13]) s150 rfl rfl
  replace hG := hG.step s150 rfl
  replace hB124 := hB124.step s150 rfl
  replace hO126 := hO126.step s150 rfl rfl
  replace hO131 := hO131.step s150 rfl rfl
  replace hr146 := hr146.step s150 rfl
  replace HF := HF.step s150 rfl
  refine WL.ex rfl (ex_move (v := .tuple #[enc64 z147.1, .int .i64 z147.2.1]) rfl) ?_
  refine WL.ex rfl (ex_extract (vs := #[enc64 z147.1, .int .i64 z147.2.1]) (v := enc64 z147.1) rfl rfl) ?_
  refine WL.ex rfl (ex_extract (vs := #[enc64 z147.1, .int .i64 z147.2.1]) (v := .int .i64 z147.2.1) rfl rfl) ?_
  refine WL.ex rfl (ex_assign (v := enc64 z147.1) rfl) ?_
  refine WL.ex rfl (ex_assign (v := .int .i64 z147.2.1) rfl) ?_
  refine WL.nil ?_
  refine WC.seq ?_
  refine WC.region ?_
  refine WL.op rfl ?_
  refine OW.row (r := Rep.u8) (xs := [(5 : UInt8)]) [(0, enc8 (5 : UInt8))] [[enc8 (5 : UInt8)]] 15 HF rfl Tryd.underlying24 sz5 zr5 rfl (evs_cons rfl rfl) rfl rfl ⟨rfl, trivial⟩ rfl rfl rfl rfl ?_
  intro o156 w157 v159 s158 hO160
  replace hG := hG.step s158 rfl
  replace hB124 := hB124.step s158 rfl
  replace hO126 := hO126.step s158 rfl rfl
  replace hO131 := hO131.step s158 rfl rfl
  replace hr146 := hr146.step s158 rfl
  replace hB151 := hB151.step s158 rfl
  replace hr155 := hr155.step s158 rfl
  replace HF := HF.step s158 rfl
  obtain ⟨A161, c162, q163e, q163l, q163⟩ := Own.vwRow (V := [0, 15]) (L := []) hO160 rfl rfl
  obtain ⟨z164, hz164, H⟩ := bindE H
  have q163e' := q163e
  refine WL.op rfl ?_
  refine OW.call [v159] rfl Tryd.func13 (by kernel_rfl) (by kernel_rfl) (map_cons' rfl rfl) (by simp only [q163e]; exact (octet_Seal.calls k _ _ A161 c162 [(5 : UInt8)] z164 (HF.ten (V := [0, 15]) (L := []) rfl) q163 q163l hz164)) ?_
  rintro _ w165 ⟨o166, v168, rfl, s167, hO169⟩
  refine ⟨_, rfl, ?_⟩
  replace hO169 := Own.un9f (J := [16]) 0 (fun h => h) hO169 rfl s167 rfl rfl
  replace s167 := un_stepL (J := [16]) (L' := []) s167 rfl rfl
  replace hG := hG.step s167 rfl
  replace hB124 := hB124.step s167 rfl
  replace hO126 := hO126.step s167 rfl rfl
  replace hO131 := hO131.step s167 rfl rfl
  replace hr146 := hr146.step s167 rfl
  replace hB151 := hB151.step s167 rfl
  replace hr155 := hr155.step s167 rfl
  replace hO160 := hO160.step s167 rfl rfl
  replace HF := HF.step s167 rfl
  obtain ⟨A170, c171, q172e, q172l, q172⟩ := Own.vwRow (V := [0, 16]) (L := []) hO169 rfl rfl
  obtain ⟨z173, hz173, H⟩ := bindE H
  have q172e' := q172e
  refine WL.op rfl ?_
  refine OW.call [v168] rfl Tryd.func17 (by kernel_rfl) (by kernel_rfl) (map_cons' rfl rfl) (by simp only [q172e]; exact (octet_Open.calls k _ _ A170 c171 z164 z173 (HF.ten (V := [0, 16]) (L := []) rfl) q172 q172l hz173)) ?_
  rintro _ w174 ⟨o175, v177, rfl, s176, hO178⟩
  refine ⟨_, rfl, ?_⟩
  replace hO178 := Own.un9f (J := [17]) 0 (fun h => h) hO178 rfl s176 rfl rfl
  replace s176 := un_stepL (J := [17]) (L' := []) s176 rfl rfl
  replace hG := hG.step s176 rfl
  replace hB124 := hB124.step s176 rfl
  replace hO126 := hO126.step s176 rfl rfl
  replace hO131 := hO131.step s176 rfl rfl
  replace hr146 := hr146.step s176 rfl
  replace hB151 := hB151.step s176 rfl
  replace hr155 := hr155.step s176 rfl
  replace hO160 := hO160.step s176 rfl rfl
  replace hO169 := hO169.step s176 rfl rfl
  replace HF := HF.step s176 rfl
  refine WL.ex rfl (ex_move (v := .tuple #[v177, .int .i64 z173.2]) rfl) ?_
  refine WL.ex rfl (ex_extract (vs := #[v177, .int .i64 z173.2]) (v := v177) rfl rfl) ?_
  refine WL.ex rfl (ex_extract (vs := #[v177, .int .i64 z173.2]) (v := .int .i64 z173.2) rfl rfl) ?_
  refine WL.ex rfl (ex_assign (v := v177) rfl) ?_
  refine WL.ex rfl (ex_assign (v := .int .i64 z173.2) rfl) ?_
  refine WL.nil ?_
  refine WC.seq ?_
  refine WC.region ?_
  obtain ⟨z179, hz179, H⟩ := bindE H
  refine WL.op rfl ?_
  refine OW.call [encS ([49, 50] : List UInt8), .int .i64 12] rfl Tryd.func34 (by kernel_rfl) (by kernel_rfl) (map_cons' rfl (map_cons' rfl rfl)) (octet_Undec.calls _ _ ([49, 50] : List UInt8) 12 z179 (HF.ten (V := [0]) (L := []) rfl) (Gl.vw (V := [0]) (L := []) hG rfl) hz179) ?_
  rintro _ w180 ⟨o181, rfl, s182⟩
  refine ⟨_, rfl, ?_⟩
  replace s182 := un_stepL (J := []) (L' := []) s182 rfl rfl
  replace hG := hG.step s182 rfl
  replace hB124 := hB124.step s182 rfl
  replace hO126 := hO126.step s182 rfl rfl
  replace hO131 := hO131.step s182 rfl rfl
  replace hr146 := hr146.step s182 rfl
  replace hB151 := hB151.step s182 rfl
  replace hr155 := hr155.step s182 rfl
  replace hO160 := hO160.step s182 rfl rfl
  replace hO169 := hO169.step s182 rfl rfl
  replace hO178 := hO178.step s182 rfl rfl
  replace HF := HF.step s182 rfl
  refine WL.ex rfl (ex_move (v := .tuple #[.int .i64 z179.1, .int .i64 z179.2]) rfl) ?_
  refine WL.ex rfl (ex_extract (vs := #[.int .i64 z179.1, .int .i64 z179.2]) (v := .int .i64 z179.1) rfl rfl) ?_
  refine WL.ex rfl (ex_extract (vs := #[.int .i64 z179.1, .int .i64 z179.2]) (v := .int .i64 z179.2) rfl rfl) ?_
  refine WL.ex rfl (ex_assign (v := .int .i64 z179.1) rfl) ?_
  refine WL.ex rfl (ex_assign (v := .int .i64 z179.2) rfl) ?_
  refine WL.nil ?_
  refine WC.seq ?_
  refine WC.region ?_
  refine WL.ex rfl (ex_move (v := .int .i64 z120.1) rfl) ?_
  refine WL.ex rfl (ex_bin (a := .int .i64 z120.1) (b := .int .i64 0) (v := .bool (z120.1 == 0)) rfl rfl bin_eql) ?_
  refine WL.ex rfl (ex_move (v := .bool (z120.1 == 0)) rfl) ?_
  rcases condE H with ⟨c183, H⟩ | ⟨c183, H⟩
  ·
    refine WL.guardYes rfl rfl rfl ((show _ = Value.bool (z120.1 == 0) from rfl).trans (congrArg Value.bool c183)) ?_
    refine OW.ex rfl (ex_move (v := .pointer (some ⟨b101, 0, none⟩)) rfl) ?_
    refine WL.guardYes rfl rfl rfl ((show _ = Value.bool (z120.1 == 0) from rfl).trans (congrArg Value.bool c183)) ?_
    refine OW.ex rfl (ex_nilCheck rfl) ?_
    refine WL.guardYes rfl rfl rfl ((show _ = Value.bool (z120.1 == 0) from rfl).trans (congrArg Value.bool c183)) ?_
    refine OW.ex rfl (ex_fieldAddr rfl Tryd.underlying26 rfl sz24) ?_
    refine WL.guardYes rfl rfl rfl ((show _ = Value.bool (z120.1 == 0) from rfl).trans (congrArg Value.bool c183)) ?_
    refine OW.ex rfl (ex_load1 (v := v125) rfl Tryd.underlying24 rfl (hB124.cell rfl)) ?_
    refine WL.guardYes rfl rfl rfl ((show _ = Value.bool (z120.1 == 0) from rfl).trans (congrArg Value.bool c183)) ?_
    refine OW.row (r := Rep.u8) (xs := [(9 : UInt8), (172 : UInt8), (2 : UInt8), (1 : UInt8), (112 : UInt8)]) [(0, enc8 (9 : UInt8)), (1, enc8 (172 : UInt8)), (2, enc8 (2 : UInt8)), (3, enc8 (1 : UInt8)), (4, enc8 (112 : UInt8))] [[enc8 (9 : UInt8)], [enc8 (172 : UInt8)], [enc8 (2 : UInt8)], [enc8 (1 : UInt8)], [enc8 (112 : UInt8)]] 18 HF rfl Tryd.underlying24 sz5 zr5 rfl (evs_cons rfl (evs_cons rfl (evs_cons rfl (evs_cons rfl (evs_cons rfl rfl))))) rfl rfl ⟨rfl, rfl, rfl, rfl, rfl, trivial⟩ rfl rfl rfl rfl ?_
    intro o184 w185 v187 s186 hO188
    replace hG := hG.step s186 rfl
    replace hB124 := hB124.step s186 rfl
    replace hO126 := hO126.step s186 rfl rfl
    replace hO131 := hO131.step s186 rfl rfl
    replace hr146 := hr146.step s186 rfl
    replace hB151 := hB151.step s186 rfl
    replace hr155 := hr155.step s186 rfl
    replace hO160 := hO160.step s186 rfl rfl
    replace hO169 := hO169.step s186 rfl rfl
    replace hO178 := hO178.step s186 rfl rfl
    replace HF := HF.step s186 rfl
    refine WL.guardYes rfl rfl rfl ((show _ = Value.bool (z120.1 == 0) from rfl).trans (congrArg Value.bool c183)) ?_
    obtain ⟨A189, c190, q191e, q191l, q191⟩ := Own.vwRow (V := [0, 11, 18]) (L := []) hO126 rfl rfl
    obtain ⟨A192, c193, q194e, q194l, q194⟩ := Own.vwRow (V := [0, 11, 18]) (L := []) hO188 rfl rfl
    obtain ⟨z195, hz195, H⟩ := bindE H
    have q191e' := q191e
    have q194e' := q194e
    refine OW.call [v125, v187] rfl Tryd.func11 (by kernel_rfl) (by kernel_rfl) (map_cons' rfl (map_cons' rfl rfl)) (by simp only [q191e, q194e]; exact (dictumref01_Same.calls k _ _ A189 c190 A192 c193 z120.2.f_B [(9 : UInt8), (172 : UInt8), (2 : UInt8), (1 : UInt8), (112 : UInt8)] z195 (HF.ten (V := [0, 11, 18]) (L := []) rfl) q191 q191l q194 q194l hz195)) ?_
    rintro _ w196 ⟨o197, rfl, s198⟩
    refine ⟨_, rfl, ?_⟩
    replace s198 := un_stepL (J := []) (L' := []) s198 rfl rfl
    replace hG := hG.step s198 rfl
    replace hB124 := hB124.step s198 rfl
    replace hO126 := hO126.step s198 rfl rfl
    replace hO131 := hO131.step s198 rfl rfl
    replace hr146 := hr146.step s198 rfl
    replace hB151 := hB151.step s198 rfl
    replace hr155 := hr155.step s198 rfl
    replace hO160 := hO160.step s198 rfl rfl
    replace hO169 := hO169.step s198 rfl rfl
    replace hO178 := hO178.step s198 rfl rfl
    replace hO188 := hO188.step s198 rfl rfl
    replace HF := HF.step s198 rfl
    refine WL.ex rfl (ex_pick_t (v := .bool z195) ((show _ = Value.bool (z120.1 == 0) from rfl).trans (congrArg Value.bool c183)) rfl) ?_
    refine WL.ex rfl (ex_move (v := .bool z195) rfl) ?_
    rcases condE H with ⟨c199, H⟩ | ⟨c199, H⟩
    ·
      refine WL.guardYes rfl rfl rfl ((show _ = Value.bool z195 from rfl).trans (congrArg Value.bool c199)) ?_
      refine OW.ex rfl (ex_move (v := .int .i64 z147.2.1) rfl) ?_
      refine WL.guardYes rfl rfl rfl ((show _ = Value.bool z195 from rfl).trans (congrArg Value.bool c199)) ?_
      refine OW.ex rfl (ex_bin (a := .int .i64 z147.2.1) (b := .int .i64 11) (v := .bool (z147.2.1 == 11)) rfl rfl bin_eql) ?_
      refine WL.ex rfl (ex_pick_t (v := .bool (z147.2.1 == 11)) ((show _ = Value.bool z195 from rfl).trans (congrArg Value.bool c199)) rfl) ?_
      refine WL.ex rfl (ex_move (v := .bool (z147.2.1 == 11)) rfl) ?_
      rcases condE H with ⟨c200, H⟩ | ⟨c200, H⟩
      ·
        refine WL.guardYes rfl rfl rfl ((show _ = Value.bool (z147.2.1 == 11) from rfl).trans (congrArg Value.bool c200)) ?_
        refine OW.ex rfl (ex_move (v := .pointer (some ⟨b139, 0, none⟩)) rfl) ?_
        refine WL.guardYes rfl rfl rfl ((show _ = Value.bool (z147.2.1 == 11) from rfl).trans (congrArg Value.bool c200)) ?_
        obtain ⟨z201, hz201, H⟩ := bindE H
        refine OW.call [.pointer (some ⟨b139, 0, none⟩)] rfl Tryd.func25 (by kernel_rfl) (by kernel_rfl) (map_cons' rfl rfl) (octet_Reader_Left.calls _ _ b139 A152 c153 z147.2.2 z201 (HF.ten (V := [0]) (L := [13]) rfl) (Bk.vw (V := [0]) (L := [13]) hB151 rfl) (Row.vw (V := [0]) (L := [13]) hr155 rfl) hl154 hz201) ?_
        rintro _ w202 ⟨o203, rfl, s204⟩
        refine ⟨_, rfl, ?_⟩
        replace s204 := un_stepL (J := []) (L' := []) s204 rfl rfl
        replace hG := hG.step s204 rfl
        replace hB124 := hB124.step s204 rfl
        replace hO126 := hO126.step s204 rfl rfl
        replace hO131 := hO131.step s204 rfl rfl
        replace hr146 := hr146.step s204 rfl
        replace hB151 := hB151.step s204 rfl
        replace hr155 := hr155.step s204 rfl
        replace hO160 := hO160.step s204 rfl rfl
        replace hO169 := hO169.step s204 rfl rfl
        replace hO178 := hO178.step s204 rfl rfl
        replace hO188 := hO188.step s204 rfl rfl
        replace HF := HF.step s204 rfl
        refine WL.guardYes rfl rfl rfl ((show _ = Value.bool (z147.2.1 == 11) from rfl).trans (congrArg Value.bool c200)) ?_
        refine OW.ex rfl (ex_bin (a := .int .i64 z201) (b := .int .i64 3) (v := .bool (z201 == 3)) rfl rfl bin_eql) ?_
        refine WL.ex rfl (ex_pick_t (v := .bool (z201 == 3)) ((show _ = Value.bool (z147.2.1 == 11) from rfl).trans (congrArg Value.bool c200)) rfl) ?_
        refine WL.ex rfl (ex_move (v := .bool (z201 == 3)) rfl) ?_
        rcases condE H with ⟨c205, H⟩ | ⟨c205, H⟩
        ·
          refine WL.guardYes rfl rfl rfl ((show _ = Value.bool (z201 == 3) from rfl).trans (congrArg Value.bool c205)) ?_
          refine OW.row (r := Rep.u8) (xs := [(49 : UInt8), (50 : UInt8), (51 : UInt8), (52 : UInt8)]) [(0, enc8 (49 : UInt8)), (1, enc8 (50 : UInt8)), (2, enc8 (51 : UInt8)), (3, enc8 (52 : UInt8))] [[enc8 (49 : UInt8)], [enc8 (50 : UInt8)], [enc8 (51 : UInt8)], [enc8 (52 : UInt8)]] 19 HF rfl Tryd.underlying24 sz5 zr5 rfl (evs_cons rfl (evs_cons rfl (evs_cons rfl (evs_cons rfl rfl)))) rfl rfl ⟨rfl, rfl, rfl, rfl, trivial⟩ rfl rfl rfl rfl ?_
          intro o206 w207 v209 s208 hO210
          replace hG := hG.step s208 rfl
          replace hB124 := hB124.step s208 rfl
          replace hO126 := hO126.step s208 rfl rfl
          replace hO131 := hO131.step s208 rfl rfl
          replace hr146 := hr146.step s208 rfl
          replace hB151 := hB151.step s208 rfl
          replace hr155 := hr155.step s208 rfl
          replace hO160 := hO160.step s208 rfl rfl
          replace hO169 := hO169.step s208 rfl rfl
          replace hO178 := hO178.step s208 rfl rfl
          replace hO188 := hO188.step s208 rfl rfl
          replace HF := HF.step s208 rfl
          refine WL.guardYes rfl rfl rfl ((show _ = Value.bool (z201 == 3) from rfl).trans (congrArg Value.bool c205)) ?_
          refine OW.convBytes (r := Rep.u8) rfl rfl Tryd.underlying24 Tryd.underlying5 hO210 rfl (by decide) ?_
          intro w211 A212 c213 s214 hl215 hr216
          replace hG := hG.step s214 rfl
          replace hB124 := hB124.step s214 rfl
          replace hO126 := hO126.step s214 rfl rfl
          replace hO131 := hO131.step s214 rfl rfl
          replace hr146 := hr146.step s214 rfl
          replace hB151 := hB151.step s214 rfl
          replace hr155 := hr155.step s214 rfl
          replace hO160 := hO160.step s214 rfl rfl
          replace hO169 := hO169.step s214 rfl rfl
          replace hO178 := hO178.step s214 rfl rfl
          replace hO188 := hO188.step s214 rfl rfl
          replace HF := HF.step s214 rfl
          replace hG := hG.pub 19
          replace hB124 := hB124.pub 19 rfl
          replace hO126 := hO126.pub 19 rfl
          replace hO131 := hO131.pub 19 rfl
          replace hr146 := hr146.pub 19
          replace hB151 := hB151.pub 19 rfl
          replace hr155 := hr155.pub 19
          replace hO160 := hO160.pub 19 rfl
          replace hO169 := hO169.pub 19 rfl
          replace hO178 := hO178.pub 19 rfl
          replace hO188 := hO188.pub 19 rfl
          replace HF := HF.pub 19 rfl
          replace hr216 := Row.pubOf hr216
          refine WL.guardYes rfl rfl rfl ((show _ = Value.bool (z201 == 3) from rfl).trans (congrArg Value.bool c205)) ?_
          refine OW.row (r := Rep.u8) (xs := [(53 : UInt8), (54 : UInt8), (55 : UInt8), (56 : UInt8), (57 : UInt8)]) [(0, enc8 (53 : UInt8)), (1, enc8 (54 : UInt8)), (2, enc8 (55 : UInt8)), (3, enc8 (56 : UInt8)), (4, enc8 (57 : UInt8))] [[enc8 (53 : UInt8)], [enc8 (54 : UInt8)], [enc8 (55 : UInt8)], [enc8 (56 : UInt8)], [enc8 (57 : UInt8)]] 20 HF rfl Tryd.underlying24 sz5 zr5 rfl (evs_cons rfl (evs_cons rfl (evs_cons rfl (evs_cons rfl (evs_cons rfl rfl))))) rfl rfl ⟨rfl, rfl, rfl, rfl, rfl, trivial⟩ rfl rfl rfl rfl ?_
          intro o217 w218 v220 s219 hO221
          replace hG := hG.step s219 rfl
          replace hB124 := hB124.step s219 rfl
          replace hO126 := hO126.step s219 rfl rfl
          replace hO131 := hO131.step s219 rfl rfl
          replace hr146 := hr146.step s219 rfl
          replace hB151 := hB151.step s219 rfl
          replace hr155 := hr155.step s219 rfl
          replace hO160 := hO160.step s219 rfl rfl
          replace hO169 := hO169.step s219 rfl rfl
          replace hO178 := hO178.step s219 rfl rfl
          replace hO188 := hO188.step s219 rfl rfl
          replace hr216 := hr216.step s219 rfl
          replace HF := HF.step s219 rfl
          refine WL.guardYes rfl rfl rfl ((show _ = Value.bool (z201 == 3) from rfl).trans (congrArg Value.bool c205)) ?_
          refine OW.convBytes (r := Rep.u8) rfl rfl Tryd.underlying24 Tryd.underlying5 hO221 rfl (by decide) ?_
          intro w222 A223 c224 s225 hl226 hr227
          replace hG := hG.step s225 rfl
          replace hB124 := hB124.step s225 rfl
          replace hO126 := hO126.step s225 rfl rfl
          replace hO131 := hO131.step s225 rfl rfl
          replace hr146 := hr146.step s225 rfl
          replace hB151 := hB151.step s225 rfl
          replace hr155 := hr155.step s225 rfl
          replace hO160 := hO160.step s225 rfl rfl
          replace hO169 := hO169.step s225 rfl rfl
          replace hO178 := hO178.step s225 rfl rfl
          replace hO188 := hO188.step s225 rfl rfl
          replace hr216 := hr216.step s225 rfl
          replace HF := HF.step s225 rfl
          replace hG := hG.pub 20
          replace hB124 := hB124.pub 20 rfl
          replace hO126 := hO126.pub 20 rfl
          replace hO131 := hO131.pub 20 rfl
          replace hr146 := hr146.pub 20
          replace hB151 := hB151.pub 20 rfl
          replace hr155 := hr155.pub 20
          replace hO160 := hO160.pub 20 rfl
          replace hO169 := hO169.pub 20 rfl
          replace hO178 := hO178.pub 20 rfl
          replace hO188 := hO188.pub 20 rfl
          replace hr216 := hr216.pub 20
          replace HF := HF.pub 20 rfl
          replace hr227 := Row.pubOf hr227
          refine WL.guardYes rfl rfl rfl ((show _ = Value.bool (z201 == 3) from rfl).trans (congrArg Value.bool c205)) ?_
          refine OW.row (r := (Rep.slice Rep.u8)) (xs := [[(49 : UInt8), (50 : UInt8), (51 : UInt8), (52 : UInt8)], [(53 : UInt8), (54 : UInt8), (55 : UInt8), (56 : UInt8), (57 : UInt8)]]) [(0, .slice A212 [(49 : UInt8), (50 : UInt8), (51 : UInt8), (52 : UInt8)].length c213), (1, .slice A223 [(53 : UInt8), (54 : UInt8), (55 : UInt8), (56 : UInt8), (57 : UInt8)].length c224)] [[.slice A212 [(49 : UInt8), (50 : UInt8), (51 : UInt8), (52 : UInt8)].length c213], [.slice A223 [(53 : UInt8), (54 : UInt8), (55 : UInt8), (56 : UInt8), (57 : UInt8)].length c224]] 21 HF rfl Tryd.underlying80 sz24 zr24 rfl (evs_cons rfl (evs_cons rfl rfl)) rfl rfl ⟨(slice_mk hl215 hr216), (slice_mk hl226 hr227), trivial⟩ rfl rfl rfl rfl ?_
          intro o228 w229 v231 s230 hO232
          replace hG := hG.step s230 rfl
          replace hB124 := hB124.step s230 rfl
          replace hO126 := hO126.step s230 rfl rfl
          replace hO131 := hO131.step s230 rfl rfl
          replace hr146 := hr146.step s230 rfl
          replace hB151 := hB151.step s230 rfl
          replace hr155 := hr155.step s230 rfl
          replace hO160 := hO160.step s230 rfl rfl
          replace hO169 := hO169.step s230 rfl rfl
          replace hO178 := hO178.step s230 rfl rfl
          replace hO188 := hO188.step s230 rfl rfl
          replace hr216 := hr216.step s230 rfl
          replace hr227 := hr227.step s230 rfl
          replace HF := HF.step s230 rfl
          refine WL.guardYes rfl rfl rfl ((show _ = Value.bool (z201 == 3) from rfl).trans (congrArg Value.bool c205)) ?_
          obtain ⟨A233, c234, q235e, q235l, q235⟩ := Own.vwRow (V := [0, 21]) (L := []) hO232 rfl rfl
          obtain ⟨z236, hz236, H⟩ := bindE H
          have q235e' := q235e
          refine OW.call [v231] rfl Tryd.func15 (by kernel_rfl) (by kernel_rfl) (map_cons' rfl rfl) (by simp only [q235e]; exact (octet_Sum.calls k _ _ A233 c234 ([[(49 : UInt8), (50 : UInt8), (51 : UInt8), (52 : UInt8)], [(53 : UInt8), (54 : UInt8), (55 : UInt8), (56 : UInt8), (57 : UInt8)]]) z236 (HF.ten (V := [0, 21]) (L := []) rfl) q235 q235l hz236)) ?_
          rintro _ w237 ⟨o238, rfl, s239⟩
          refine ⟨_, rfl, ?_⟩
          replace s239 := un_stepL (J := []) (L' := []) s239 rfl rfl
          replace hG := hG.step s239 rfl
          replace hB124 := hB124.step s239 rfl
          replace hO126 := hO126.step s239 rfl rfl
          replace hO131 := hO131.step s239 rfl rfl
          replace hr146 := hr146.step s239 rfl
          replace hB151 := hB151.step s239 rfl
          replace hr155 := hr155.step s239 rfl
          replace hO160 := hO160.step s239 rfl rfl
          replace hO169 := hO169.step s239 rfl rfl
          replace hO178 := hO178.step s239 rfl rfl
          replace hO188 := hO188.step s239 rfl rfl
          replace hr216 := hr216.step s239 rfl
          replace hr227 := hr227.step s239 rfl
          replace hO232 := hO232.step s239 rfl rfl
          replace HF := HF.step s239 rfl
          refine WL.guardYes rfl rfl rfl ((show _ = Value.bool (z201 == 3) from rfl).trans (congrArg Value.bool c205)) ?_
          refine OW.ex rfl (ex_bin (a := enc32 z236) (b := enc32 (3808858755 : UInt32)) (v := .bool (z236 == (3808858755 : UInt32))) rfl rfl bin_eql_u32) ?_
          refine WL.ex rfl (ex_pick_t (v := .bool (z236 == (3808858755 : UInt32))) ((show _ = Value.bool (z201 == 3) from rfl).trans (congrArg Value.bool c205)) rfl) ?_
          refine WL.ex rfl (ex_move (v := .bool (z236 == (3808858755 : UInt32))) rfl) ?_
          rcases condE H with ⟨c240, H⟩ | ⟨c240, H⟩
          ·
            refine WL.guardYes rfl rfl rfl ((show _ = Value.bool (z236 == (3808858755 : UInt32)) from rfl).trans (congrArg Value.bool c240)) ?_
            refine OW.ex rfl (ex_move (v := v177) rfl) ?_
            refine WL.guardYes rfl rfl rfl ((show _ = Value.bool (z236 == (3808858755 : UInt32)) from rfl).trans (congrArg Value.bool c240)) ?_
            refine OW.row (r := Rep.u8) (xs := [(5 : UInt8)]) [(0, enc8 (5 : UInt8))] [[enc8 (5 : UInt8)]] 22 HF rfl Tryd.underlying24 sz5 zr5 rfl (evs_cons rfl rfl) rfl rfl ⟨rfl, trivial⟩ rfl rfl rfl rfl ?_
            intro o241 w242 v244 s243 hO245
            replace hG := hG.step s243 rfl
            replace hB124 := hB124.step s243 rfl
            replace hO126 := hO126.step s243 rfl rfl
            replace hO131 := hO131.step s243 rfl rfl
            replace hr146 := hr146.step s243 rfl
            replace hB151 := hB151.step s243 rfl
            replace hr155 := hr155.step s243 rfl
            replace hO160 := hO160.step s243 rfl rfl
            replace hO169 := hO169.step s243 rfl rfl
            replace hO178 := hO178.step s243 rfl rfl
            replace hO188 := hO188.step s243 rfl rfl
            replace hr216 := hr216.step s243 rfl
            replace hr227 := hr227.step s243 rfl
            replace hO232 := hO232.step s243 rfl rfl
            replace HF := HF.step s243 rfl
            refine WL.guardYes rfl rfl rfl ((show _ = Value.bool (z236 == (3808858755 : UInt32)) from rfl).trans (congrArg Value.bool c240)) ?_
            obtain ⟨A246, c247, q248e, q248l, q248⟩ := Own.vwRow (V := [0, 17, 22]) (L := []) hO178 rfl rfl
            obtain ⟨A249, c250, q251e, q251l, q251⟩ := Own.vwRow (V := [0, 17, 22]) (L := []) hO245 rfl rfl
            obtain ⟨z252, hz252, H⟩ := bindE H
            have q248e' := q248e
            have q251e' := q251e
            refine OW.call [v177, v244] rfl Tryd.func11 (by kernel_rfl) (by kernel_rfl) (map_cons' rfl (map_cons' rfl rfl)) (by simp only [q248e, q251e]; exact (dictumref01_Same.calls k _ _ A246 c247 A249 c250 z173.1 [(5 : UInt8)] z252 (HF.ten (V := [0, 17, 22]) (L := []) rfl) q248 q248l q251 q251l hz252)) ?_
            rintro _ w253 ⟨o254, rfl, s255⟩
            refine ⟨_, rfl, ?_⟩
            replace s255 := un_stepL (J := []) (L' := []) s255 rfl rfl
            replace hG := hG.step s255 rfl
            replace hB124 := hB124.step s255 rfl
            replace hO126 := hO126.step s255 rfl rfl
            replace hO131 := hO131.step s255 rfl rfl
            replace hr146 := hr146.step s255 rfl
            replace hB151 := hB151.step s255 rfl
            replace hr155 := hr155.step s255 rfl
            replace hO160 := hO160.step s255 rfl rfl
            replace hO169 := hO169.step s255 rfl rfl
            replace hO178 := hO178.step s255 rfl rfl
            replace hO188 := hO188.step s255 rfl rfl
            replace hr216 := hr216.step s255 rfl
            replace hr227 := hr227.step s255 rfl
            replace hO232 := hO232.step s255 rfl rfl
            replace hO245 := hO245.step s255 rfl rfl
            replace HF := HF.step s255 rfl
            refine WL.ex rfl (ex_pick_t (v := .bool z252) ((show _ = Value.bool (z236 == (3808858755 : UInt32)) from rfl).trans (congrArg Value.bool c240)) rfl) ?_
            refine WL.ex rfl (ex_move (v := .bool z252) rfl) ?_
            rcases condE H with ⟨c256, H⟩ | ⟨c256, H⟩
            ·
              refine WL.guardYes rfl rfl rfl ((show _ = Value.bool z252 from rfl).trans (congrArg Value.bool c256)) ?_
              refine OW.ex rfl (ex_move (v := .int .i64 z173.2) rfl) ?_
              refine WL.guardYes rfl rfl rfl ((show _ = Value.bool z252 from rfl).trans (congrArg Value.bool c256)) ?_
              refine OW.ex rfl (ex_bin (a := .int .i64 z173.2) (b := .int .i64 0) (v := .bool (z173.2 == 0)) rfl rfl bin_eql) ?_
              refine WL.ex rfl (ex_pick_t (v := .bool (z173.2 == 0)) ((show _ = Value.bool z252 from rfl).trans (congrArg Value.bool c256)) rfl) ?_
              refine WL.ex rfl (ex_move (v := .bool (z173.2 == 0)) rfl) ?_
              rcases condE H with ⟨c257, H⟩ | ⟨c257, H⟩
              ·
                refine WL.guardYes rfl rfl rfl ((show _ = Value.bool (z173.2 == 0) from rfl).trans (congrArg Value.bool c257)) ?_
                refine OW.row (r := Rep.u8) (xs := [(10 : UInt8)]) [(0, enc8 (10 : UInt8))] [[enc8 (10 : UInt8)]] 23 HF rfl Tryd.underlying24 sz5 zr5 rfl (evs_cons rfl rfl) rfl rfl ⟨rfl, trivial⟩ rfl rfl rfl rfl ?_
                intro o258 w259 v261 s260 hO262
                replace hG := hG.step s260 rfl
                replace hB124 := hB124.step s260 rfl
                replace hO126 := hO126.step s260 rfl rfl
                replace hO131 := hO131.step s260 rfl rfl
                replace hr146 := hr146.step s260 rfl
                replace hB151 := hB151.step s260 rfl
                replace hr155 := hr155.step s260 rfl
                replace hO160 := hO160.step s260 rfl rfl
                replace hO169 := hO169.step s260 rfl rfl
                replace hO178 := hO178.step s260 rfl rfl
                replace hO188 := hO188.step s260 rfl rfl
                replace hr216 := hr216.step s260 rfl
                replace hr227 := hr227.step s260 rfl
                replace hO232 := hO232.step s260 rfl rfl
                replace hO245 := hO245.step s260 rfl rfl
                replace HF := HF.step s260 rfl
                refine WL.guardYes rfl rfl rfl ((show _ = Value.bool (z173.2 == 0) from rfl).trans (congrArg Value.bool c257)) ?_
                obtain ⟨A263, c264, q265e, q265l, q265⟩ := Own.vwRow (V := [0, 23]) (L := []) hO262 rfl rfl
                obtain ⟨z266, hz266, H⟩ := bindE H
                have q265e' := q265e
                refine OW.call [v261] rfl Tryd.func31 (by kernel_rfl) (by kernel_rfl) (map_cons' rfl rfl) (by simp only [q265e]; exact (octet_Hex.calls k _ _ A263 c264 [(10 : UInt8)] z266 (HF.ten (V := [0, 23]) (L := []) rfl) q265 q265l hz266)) ?_
                rintro _ w267 ⟨o268, rfl, s269⟩
                refine ⟨_, rfl, ?_⟩
                replace s269 := un_stepL (J := []) (L' := []) s269 rfl rfl
                replace hG := hG.step s269 rfl
                replace hB124 := hB124.step s269 rfl
                replace hO126 := hO126.step s269 rfl rfl
                replace hO131 := hO131.step s269 rfl rfl
                replace hr146 := hr146.step s269 rfl
                replace hB151 := hB151.step s269 rfl
                replace hr155 := hr155.step s269 rfl
                replace hO160 := hO160.step s269 rfl rfl
                replace hO169 := hO169.step s269 rfl rfl
                replace hO178 := hO178.step s269 rfl rfl
                replace hO188 := hO188.step s269 rfl rfl
                replace hr216 := hr216.step s269 rfl
                replace hr227 := hr227.step s269 rfl
                replace hO232 := hO232.step s269 rfl rfl
                replace hO245 := hO245.step s269 rfl rfl
                replace hO262 := hO262.step s269 rfl rfl
                replace HF := HF.step s269 rfl
                refine WL.guardYes rfl rfl rfl ((show _ = Value.bool (z173.2 == 0) from rfl).trans (congrArg Value.bool c257)) ?_
                refine OW.ex rfl (ex_bin (a := encS z266) (b := encS ([48, 97] : List UInt8)) (v := .bool (z266 == ([48, 97] : List UInt8))) rfl rfl bin_eql_str) ?_
                refine WL.ex rfl (ex_pick_t (v := .bool (z266 == ([48, 97] : List UInt8))) ((show _ = Value.bool (z173.2 == 0) from rfl).trans (congrArg Value.bool c257)) rfl) ?_
                refine WL.ex rfl (ex_move (v := .bool (z266 == ([48, 97] : List UInt8))) rfl) ?_
                rcases condE H with ⟨c270, H⟩ | ⟨c270, H⟩
                ·
                  refine WL.guardYes rfl rfl rfl ((show _ = Value.bool (z266 == ([48, 97] : List UInt8)) from rfl).trans (congrArg Value.bool c270)) ?_
                  obtain ⟨z271, hz271, H⟩ := bindE H
                  refine OW.call [.int .i64 (-7)] rfl Tryd.func36 (by kernel_rfl) (by kernel_rfl) (map_cons' rfl rfl) (octet_Dec.calls _ _ (-7) z271 (HF.ten (V := [0]) (L := []) rfl) (Gl.vw (V := [0]) (L := []) hG rfl) hz271) ?_
                  rintro _ w272 ⟨o273, rfl, s274⟩
                  refine ⟨_, rfl, ?_⟩
                  replace s274 := un_stepL (J := []) (L' := []) s274 rfl rfl
                  replace hG := hG.step s274 rfl
                  replace hB124 := hB124.step s274 rfl
                  replace hO126 := hO126.step s274 rfl rfl
                  replace hO131 := hO131.step s274 rfl rfl
                  replace hr146 := hr146.step s274 rfl
                  replace hB151 := hB151.step s274 rfl
                  replace hr155 := hr155.step s274 rfl
                  replace hO160 := hO160.step s274 rfl rfl
                  replace hO169 := hO169.step s274 rfl rfl
                  replace hO178 := hO178.step s274 rfl rfl
                  replace hO188 := hO188.step s274 rfl rfl
                  replace hr216 := hr216.step s274 rfl
                  replace hr227 := hr227.step s274 rfl
                  replace hO232 := hO232.step s274 rfl rfl
                  replace hO245 := hO245.step s274 rfl rfl
                  replace hO262 := hO262.step s274 rfl rfl
                  replace HF := HF.step s274 rfl
                  refine WL.guardYes rfl rfl rfl ((show _ = Value.bool (z266 == ([48, 97] : List UInt8)) from rfl).trans (congrArg Value.bool c270)) ?_
                  refine OW.ex rfl (ex_bin (a := encS z271) (b := encS ([45, 55] : List UInt8)) (v := .bool (z271 == ([45, 55] : List UInt8))) rfl rfl bin_eql_str) ?_
                  refine WL.ex rfl (ex_pick_t (v := .bool (z271 == ([45, 55] : List UInt8))) ((show _ = Value.bool (z266 == ([48, 97] : List UInt8)) from rfl).trans (congrArg Value.bool c270)) rfl) ?_
                  refine WL.ex rfl (ex_move (v := .bool (z271 == ([45, 55] : List UInt8))) rfl) ?_
                  rcases condE H with ⟨c275, H⟩ | ⟨c275, H⟩
                  ·
                    refine WL.guardYes rfl rfl rfl ((show _ = Value.bool (z271 == ([45, 55] : List UInt8)) from rfl).trans (congrArg Value.bool c275)) ?_
                    refine OW.ex rfl (ex_move (v := .int .i64 z179.1) rfl) ?_
                    refine WL.guardYes rfl rfl rfl ((show _ = Value.bool (z271 == ([45, 55] : List UInt8)) from rfl).trans (congrArg Value.bool c275)) ?_
                    refine OW.ex rfl (ex_bin (a := .int .i64 z179.1) (b := .int .i64 12) (v := .bool (z179.1 == 12)) rfl rfl bin_eql) ?_
                    refine WL.ex rfl (ex_pick_t (v := .bool (z179.1 == 12)) ((show _ = Value.bool (z271 == ([45, 55] : List UInt8)) from rfl).trans (congrArg Value.bool c275)) rfl) ?_
                    refine WL.ex rfl (ex_move (v := .bool (z179.1 == 12)) rfl) ?_
                    rcases condE H with ⟨c276, H⟩ | ⟨c276, H⟩
                    ·
                      refine WL.guardYes rfl rfl rfl ((show _ = Value.bool (z179.1 == 12) from rfl).trans (congrArg Value.bool c276)) ?_
                      refine OW.ex rfl (ex_move (v := .int .i64 z179.2) rfl) ?_
                      refine WL.guardYes rfl rfl rfl ((show _ = Value.bool (z179.1 == 12) from rfl).trans (congrArg Value.bool c276)) ?_
                      refine OW.ex rfl (ex_bin (a := .int .i64 z179.2) (b := .int .i64 0) (v := .bool (z179.2 == 0)) rfl rfl bin_eql) ?_
                      refine WL.ex rfl (ex_pick_t (v := .bool (z179.2 == 0)) ((show _ = Value.bool (z179.1 == 12) from rfl).trans (congrArg Value.bool c276)) rfl) ?_
                      refine WL.ex rfl (ex_assign (v := .bool (z179.2 == 0)) rfl) ?_
                      refine WL.nil ?_
                      refine WC.ret ?_
                      obtain rfl := Option.some.inj H
                      exact ⟨_, (.tmp (.bool (z179.2 == 0) : Value) rfl .nil), _, rfl, HF.out⟩
                    ·
                      refine WL.guardNo rfl rfl rfl ((show _ = Value.bool (z179.1 == 12) from rfl).trans (congrArg Value.bool c276)) ?_
                      refine WL.guardNo rfl rfl rfl ((show _ = Value.bool (z179.1 == 12) from rfl).trans (congrArg Value.bool c276)) ?_
                      refine WL.ex rfl (ex_pick_f (v := .bool false) ((show _ = Value.bool (z179.1 == 12) from rfl).trans (congrArg Value.bool c276)) rfl) ?_
                      refine WL.ex rfl (ex_assign (v := .bool false) rfl) ?_
                      refine WL.nil ?_
                      refine WC.ret ?_
                      obtain rfl := Option.some.inj H
                      exact ⟨_, (.tmp (.bool false : Value) rfl .nil), _, rfl, HF.out⟩
                  ·
                    refine WL.guardNo rfl rfl rfl ((show _ = Value.bool (z271 == ([45, 55] : List UInt8)) from rfl).trans (congrArg Value.bool c275)) ?_
                    refine WL.guardNo rfl rfl rfl ((show _ = Value.bool (z271 == ([45, 55] : List UInt8)) from rfl).trans (congrArg Value.bool c275)) ?_
                    refine WL.ex rfl (ex_pick_f (v := .bool false) ((show _ = Value.bool (z271 == ([45, 55] : List UInt8)) from rfl).trans (congrArg Value.bool c275)) rfl) ?_
                    refine WL.ex rfl (ex_move (v := .bool false) rfl) ?_
                    refine WL.guardNo rfl rfl rfl rfl ?_
                    refine WL.guardNo rfl rfl rfl rfl ?_
                    refine WL.ex rfl (ex_pick_f (v := .bool false) rfl rfl) ?_
                    refine WL.ex rfl (ex_assign (v := .bool false) rfl) ?_
                    refine WL.nil ?_
                    refine WC.ret ?_
                    obtain rfl := Option.some.inj H
                    exact ⟨_, (.tmp (.bool false : Value) rfl .nil), _, rfl, HF.out⟩
                ·
                  refine WL.guardNo rfl rfl rfl ((show _ = Value.bool (z266 == ([48, 97] : List UInt8)) from rfl).trans (congrArg Value.bool c270)) ?_
                  refine WL.guardNo rfl rfl rfl ((show _ = Value.bool (z266 == ([48, 97] : List UInt8)) from rfl).trans (congrArg Value.bool c270)) ?_
                  refine WL.ex rfl (ex_pick_f (v := .bool false) ((show _ = Value.bool (z266 == ([48, 97] : List UInt8)) from rfl).trans (congrArg Value.bool c270)) rfl) ?_
                  refine WL.ex rfl (ex_move (v := .bool false) rfl) ?_
                  refine WL.guardNo rfl rfl rfl rfl ?_
                  refine WL.guardNo rfl rfl rfl rfl ?_
                  refine WL.ex rfl (ex_pick_f (v := .bool false) rfl rfl) ?_
                  refine WL.ex rfl (ex_move (v := .bool false) rfl) ?_
                  refine WL.guardNo rfl rfl rfl rfl ?_
                  refine WL.guardNo rfl rfl rfl rfl ?_
                  refine WL.ex rfl (ex_pick_f (v := .bool false) rfl rfl) ?_
                  refine WL.ex rfl (ex_assign (v := .bool false) rfl) ?_
                  refine WL.nil ?_
                  refine WC.ret ?_
                  obtain rfl := Option.some.inj H
                  exact ⟨_, (.tmp (.bool false : Value) rfl .nil), _, rfl, HF.out⟩
              ·
                refine WL.guardNo rfl rfl rfl ((show _ = Value.bool (z173.2 == 0) from rfl).trans (congrArg Value.bool c257)) ?_
                refine WL.guardNo rfl rfl rfl ((show _ = Value.bool (z173.2 == 0) from rfl).trans (congrArg Value.bool c257)) ?_
                refine WL.guardNo rfl rfl rfl ((show _ = Value.bool (z173.2 == 0) from rfl).trans (congrArg Value.bool c257)) ?_
                refine WL.ex rfl (ex_pick_f (v := .bool false) ((show _ = Value.bool (z173.2 == 0) from rfl).trans (congrArg Value.bool c257)) rfl) ?_
                refine WL.ex rfl (ex_move (v := .bool false) rfl) ?_
                refine WL.guardNo rfl rfl rfl rfl ?_
                refine WL.guardNo rfl rfl rfl rfl ?_
                refine WL.ex rfl (ex_pick_f (v := .bool false) rfl rfl) ?_
                refine WL.ex rfl (ex_move (v := .bool false) rfl) ?_
                refine WL.guardNo rfl rfl rfl rfl ?_
                refine WL.guardNo rfl rfl rfl rfl ?_
                refine WL.ex rfl (ex_pick_f (v := .bool false) rfl rfl) ?_
                refine WL.ex rfl (ex_move (v := .bool false) rfl) ?_
                refine WL.guardNo rfl rfl rfl rfl ?_
                refine WL.guardNo rfl rfl rfl rfl ?_
                refine WL.ex rfl (ex_pick_f (v := .bool false) rfl rfl) ?_
                refine WL.ex rfl (ex_assign (v := .bool false) rfl) ?_
                refine WL.nil ?_
                refine WC.ret ?_
                obtain rfl := Option.some.inj H
                exact ⟨_, (.tmp (.bool false : Value) rfl .nil), _, rfl, HF.out⟩
            ·
              refine WL.guardNo rfl rfl rfl ((show _ = Value.bool z252 from rfl).trans (congrArg Value.bool c256)) ?_
              refine WL.guardNo rfl rfl rfl ((show _ = Value.bool z252 from rfl).trans (congrArg Value.bool c256)) ?_
              refine WL.ex rfl (ex_pick_f (v := .bool false) ((show _ = Value.bool z252 from rfl).trans (congrArg Value.bool c256)) rfl) ?_
              refine WL.ex rfl (ex_move (v := .bool false) rfl) ?_
              refine WL.guardNo rfl rfl rfl rfl ?_
              refine WL.guardNo rfl rfl rfl rfl ?_
              refine WL.guardNo rfl rfl rfl rfl ?_
              refine WL.ex rfl (ex_pick_f (v := .bool false) rfl rfl) ?_
              refine WL.ex rfl (ex_move (v := .bool false) rfl) ?_
              refine WL.guardNo rfl rfl rfl rfl ?_
              refine WL.guardNo rfl rfl rfl rfl ?_
              refine WL.ex rfl (ex_pick_f (v := .bool false) rfl rfl) ?_
              refine WL.ex rfl (ex_move (v := .bool false) rfl) ?_
              refine WL.guardNo rfl rfl rfl rfl ?_
              refine WL.guardNo rfl rfl rfl rfl ?_
              refine WL.ex rfl (ex_pick_f (v := .bool false) rfl rfl) ?_
              refine WL.ex rfl (ex_move (v := .bool false) rfl) ?_
              refine WL.guardNo rfl rfl rfl rfl ?_
              refine WL.guardNo rfl rfl rfl rfl ?_
              refine WL.ex rfl (ex_pick_f (v := .bool false) rfl rfl) ?_
              refine WL.ex rfl (ex_assign (v := .bool false) rfl) ?_
              refine WL.nil ?_
              refine WC.ret ?_
              obtain rfl := Option.some.inj H
              exact ⟨_, (.tmp (.bool false : Value) rfl .nil), _, rfl, HF.out⟩
          ·
            refine WL.guardNo rfl rfl rfl ((show _ = Value.bool (z236 == (3808858755 : UInt32)) from rfl).trans (congrArg Value.bool c240)) ?_
            refine WL.guardNo rfl rfl rfl ((show _ = Value.bool (z236 == (3808858755 : UInt32)) from rfl).trans (congrArg Value.bool c240)) ?_
            refine WL.guardNo rfl rfl rfl ((show _ = Value.bool (z236 == (3808858755 : UInt32)) from rfl).trans (congrArg Value.bool c240)) ?_
            refine WL.ex rfl (ex_pick_f (v := .bool false) ((show _ = Value.bool (z236 == (3808858755 : UInt32)) from rfl).trans (congrArg Value.bool c240)) rfl) ?_
            refine WL.ex rfl (ex_move (v := .bool false) rfl) ?_
            refine WL.guardNo rfl rfl rfl rfl ?_
            refine WL.guardNo rfl rfl rfl rfl ?_
            refine WL.ex rfl (ex_pick_f (v := .bool false) rfl rfl) ?_
            refine WL.ex rfl (ex_move (v := .bool false) rfl) ?_
            refine WL.guardNo rfl rfl rfl rfl ?_
            refine WL.guardNo rfl rfl rfl rfl ?_
            refine WL.guardNo rfl rfl rfl rfl ?_
            refine WL.ex rfl (ex_pick_f (v := .bool false) rfl rfl) ?_
            refine WL.ex rfl (ex_move (v := .bool false) rfl) ?_
            refine WL.guardNo rfl rfl rfl rfl ?_
            refine WL.guardNo rfl rfl rfl rfl ?_
            refine WL.ex rfl (ex_pick_f (v := .bool false) rfl rfl) ?_
            refine WL.ex rfl (ex_move (v := .bool false) rfl) ?_
            refine WL.guardNo rfl rfl rfl rfl ?_
            refine WL.guardNo rfl rfl rfl rfl ?_
            refine WL.ex rfl (ex_pick_f (v := .bool false) rfl rfl) ?_
            refine WL.ex rfl (ex_move (v := .bool false) rfl) ?_
            refine WL.guardNo rfl rfl rfl rfl ?_
            refine WL.guardNo rfl rfl rfl rfl ?_
            refine WL.ex rfl (ex_pick_f (v := .bool false) rfl rfl) ?_
            refine WL.ex rfl (ex_assign (v := .bool false) rfl) ?_
            refine WL.nil ?_
            refine WC.ret ?_
            obtain rfl := Option.some.inj H
            exact ⟨_, (.tmp (.bool false : Value) rfl .nil), _, rfl, HF.out⟩
        ·
          refine WL.guardNo rfl rfl rfl ((show _ = Value.bool (z201 == 3) from rfl).trans (congrArg Value.bool c205)) ?_
          refine WL.guardNo rfl rfl rfl ((show _ = Value.bool (z201 == 3) from rfl).trans (congrArg Value.bool c205)) ?_
          refine WL.guardNo rfl rfl rfl ((show _ = Value.bool (z201 == 3) from rfl).trans (congrArg Value.bool c205)) ?_
          refine WL.guardNo rfl rfl rfl ((show _ = Value.bool (z201 == 3) from rfl).trans (congrArg Value.bool c205)) ?_
          refine WL.guardNo rfl rfl rfl ((show _ = Value.bool (z201 == 3) from rfl).trans (congrArg Value.bool c205)) ?_
          refine WL.guardNo rfl rfl rfl ((show _ = Value.bool (z201 == 3) from rfl).trans (congrArg Value.bool c205)) ?_
          refine WL.guardNo rfl rfl rfl ((show _ = Value.bool (z201 == 3) from rfl).trans (congrArg Value.bool c205)) ?_
          refine WL.ex rfl (ex_pick_f (v := .bool false) ((show _ = Value.bool (z201 == 3) from rfl).trans (congrArg Value.bool c205)) rfl) ?_
          refine WL.ex rfl (ex_move (v := .bool false) rfl) ?_
          refine WL.guardNo rfl rfl rfl rfl ?_
          refine WL.guardNo rfl rfl rfl rfl ?_
          refine WL.guardNo rfl rfl rfl rfl ?_
          refine WL.ex rfl (ex_pick_f (v := .bool false) rfl rfl) ?_
          refine WL.ex rfl (ex_move (v := .bool false) rfl) ?_
          refine WL.guardNo rfl rfl rfl rfl ?_
          refine WL.guardNo rfl rfl rfl rfl ?_
          refine WL.ex rfl (ex_pick_f (v := .bool false) rfl rfl) ?_
          refine WL.ex rfl (ex_move (v := .bool false) rfl) ?_
          refine WL.guardNo rfl rfl rfl rfl ?_
          refine WL.guardNo rfl rfl rfl rfl ?_
          refine WL.guardNo rfl rfl rfl rfl ?_
          refine WL.ex rfl (ex_pick_f (v := .bool false) rfl rfl) ?_
          refine WL.ex rfl (ex_move (v := .bool false) rfl) ?_
          refine WL.guardNo rfl rfl rfl rfl ?_
          refine WL.guardNo rfl rfl rfl rfl ?_
          refine WL.ex rfl (ex_pick_f (v := .bool false) rfl rfl) ?_
          refine WL.ex rfl (ex_move (v := .bool false) rfl) ?_
          refine WL.guardNo rfl rfl rfl rfl ?_
          refine WL.guardNo rfl rfl rfl rfl ?_
          refine WL.ex rfl (ex_pick_f (v := .bool false) rfl rfl) ?_
          refine WL.ex rfl (ex_move (v := .bool false) rfl) ?_
          refine WL.guardNo rfl rfl rfl rfl ?_
          refine WL.guardNo rfl rfl rfl rfl ?_
          refine WL.ex rfl (ex_pick_f (v := .bool false) rfl rfl) ?_
          refine WL.ex rfl (ex_assign (v := .bool false) rfl) ?_
          refine WL.nil ?_
          refine WC.ret ?_
          obtain rfl := Option.some.inj H
          exact ⟨_, (.tmp (.bool false : Value) rfl .nil), _, rfl, HF.out⟩
      ·
        refine WL.guardNo rfl rfl rfl ((show _ = Value.bool (z147.2.1 == 11) from rfl).trans (congrArg Value.bool c200)) ?_
        refine WL.guardNo rfl rfl rfl ((show _ = Value.bool (z147.2.1 == 11) from rfl).trans (congrArg Value.bool c200)) ?_
        refine WL.guardNo rfl rfl rfl ((show _ = Value.bool (z147.2.1 == 11) from rfl).trans (congrArg Value.bool c200)) ?_
        refine WL.ex rfl (ex_pick_f (v := .bool false) ((show _ = Value.bool (z147.2.1 == 11) from rfl).trans (congrArg Value.bool c200)) rfl) ?_
        refine WL.ex rfl (ex_move (v := .bool false) rfl) ?_
        refine WL.guardNo rfl rfl rfl rfl ?_
        refine WL.guardNo rfl rfl rfl rfl ?_
        refine WL.guardNo rfl rfl rfl rfl ?_
        refine WL.guardNo rfl rfl rfl rfl ?_
        refine WL.guardNo rfl rfl rfl rfl ?_
        refine WL.guardNo rfl rfl rfl rfl ?_
        refine WL.guardNo rfl rfl rfl rfl ?_
        refine WL.ex rfl (ex_pick_f (v := .bool false) rfl rfl) ?_
        refine WL.ex rfl (ex_move (v := .bool false) rfl) ?_
        refine WL.guardNo rfl rfl rfl rfl ?_
        refine WL.guardNo rfl rfl rfl rfl ?_
        refine WL.guardNo rfl rfl rfl rfl ?_
        refine WL.ex rfl (ex_pick_f (v := .bool false) rfl rfl) ?_
        refine WL.ex rfl (ex_move (v := .bool false) rfl) ?_
        refine WL.guardNo rfl rfl rfl rfl ?_
        refine WL.guardNo rfl rfl rfl rfl ?_
        refine WL.ex rfl (ex_pick_f (v := .bool false) rfl rfl) ?_
        refine WL.ex rfl (ex_move (v := .bool false) rfl) ?_
        refine WL.guardNo rfl rfl rfl rfl ?_
        refine WL.guardNo rfl rfl rfl rfl ?_
        refine WL.guardNo rfl rfl rfl rfl ?_
        refine WL.ex rfl (ex_pick_f (v := .bool false) rfl rfl) ?_
        refine WL.ex rfl (ex_move (v := .bool false) rfl) ?_
        refine WL.guardNo rfl rfl rfl rfl ?_
        refine WL.guardNo rfl rfl rfl rfl ?_
        refine WL.ex rfl (ex_pick_f (v := .bool false) rfl rfl) ?_
        refine WL.ex rfl (ex_move (v := .bool false) rfl) ?_
        refine WL.guardNo rfl rfl rfl rfl ?_
        refine WL.guardNo rfl rfl rfl rfl ?_
        refine WL.ex rfl (ex_pick_f (v := .bool false) rfl rfl) ?_
        refine WL.ex rfl (ex_move (v := .bool false) rfl) ?_
        refine WL.guardNo rfl rfl rfl rfl ?_
        refine WL.guardNo rfl rfl rfl rfl ?_
        refine WL.ex rfl (ex_pick_f (v := .bool false) rfl rfl) ?_
        refine WL.ex rfl (ex_assign (v := .bool false) rfl) ?_
        refine WL.nil ?_
        refine WC.ret ?_
        obtain rfl := Option.some.inj H
        exact ⟨_, (.tmp (.bool false : Value) rfl .nil), _, rfl, HF.out⟩
    ·
      refine WL.guardNo rfl rfl rfl ((show _ = Value.bool z195 from rfl).trans (congrArg Value.bool c199)) ?_
      refine WL.guardNo rfl rfl rfl ((show _ = Value.bool z195 from rfl).trans (congrArg Value.bool c199)) ?_
      refine WL.ex rfl (ex_pick_f (v := .bool false) ((show _ = Value.bool z195 from rfl).trans (congrArg Value.bool c199)) rfl) ?_
      refine WL.ex rfl (ex_move (v := .bool false) rfl) ?_
      refine WL.guardNo rfl rfl rfl rfl ?_
      refine WL.guardNo rfl rfl rfl rfl ?_
      refine WL.guardNo rfl rfl rfl rfl ?_
      refine WL.ex rfl (ex_pick_f (v := .bool false) rfl rfl) ?_
      refine WL.ex rfl (ex_move (v := .bool false) rfl) ?_
      refine WL.guardNo rfl rfl rfl rfl ?_
      refine WL.guardNo rfl rfl rfl rfl ?_
      refine WL.guardNo rfl rfl rfl rfl ?_
      refine WL.guardNo rfl rfl rfl rfl ?_
      refine WL.guardNo rfl rfl rfl rfl ?_
      refine WL.guardNo rfl rfl rfl rfl ?_
      refine WL.guardNo rfl rfl rfl rfl ?_
      refine WL.ex rfl (ex_pick_f (v := .bool false) rfl rfl) ?_
      refine WL.ex rfl (ex_move (v := .bool false) rfl) ?_
      refine WL.guardNo rfl rfl rfl rfl ?_
      refine WL.guardNo rfl rfl rfl rfl ?_
      refine WL.guardNo rfl rfl rfl rfl ?_
      refine WL.ex rfl (ex_pick_f (v := .bool false) rfl rfl) ?_
      refine WL.ex rfl (ex_move (v := .bool false) rfl) ?_
      refine WL.guardNo rfl rfl rfl rfl ?_
      refine WL.guardNo rfl rfl rfl rfl ?_
      refine WL.ex rfl (ex_pick_f (v := .bool false) rfl rfl) ?_
      refine WL.ex rfl (ex_move (v := .bool false) rfl) ?_
      refine WL.guardNo rfl rfl rfl rfl ?_
      refine WL.guardNo rfl rfl rfl rfl ?_
      refine WL.guardNo rfl rfl rfl rfl ?_
      refine WL.ex rfl (ex_pick_f (v := .bool false) rfl rfl) ?_
      refine WL.ex rfl (ex_move (v := .bool false) rfl) ?_
      refine WL.guardNo rfl rfl rfl rfl ?_
      refine WL.guardNo rfl rfl rfl rfl ?_
      refine WL.ex rfl (ex_pick_f (v := .bool false) rfl rfl) ?_
      refine WL.ex rfl (ex_move (v := .bool false) rfl) ?_
      refine WL.guardNo rfl rfl rfl rfl ?_
      refine WL.guardNo rfl rfl rfl rfl ?_
      refine WL.ex rfl (ex_pick_f (v := .bool false) rfl rfl) ?_
      refine WL.ex rfl (ex_move (v := .bool false) rfl) ?_
      refine WL.guardNo rfl rfl rfl rfl ?_
      refine WL.guardNo rfl rfl rfl rfl ?_
      refine WL.ex rfl (ex_pick_f (v := .bool false) rfl rfl) ?_
      refine WL.ex rfl (ex_assign (v := .bool false) rfl) ?_
      refine WL.nil ?_
      refine WC.ret ?_
      obtain rfl := Option.some.inj H
      exact ⟨_, (.tmp (.bool false : Value) rfl .nil), _, rfl, HF.out⟩
  ·
    refine WL.guardNo rfl rfl rfl ((show _ = Value.bool (z120.1 == 0) from rfl).trans (congrArg Value.bool c183)) ?_
    refine WL.guardNo rfl rfl rfl ((show _ = Value.bool (z120.1 == 0) from rfl).trans (congrArg Value.bool c183)) ?_
    refine WL.guardNo rfl rfl rfl ((show _ = Value.bool (z120.1 == 0) from rfl).trans (congrArg Value.bool c183)) ?_
    refine WL.guardNo rfl rfl rfl ((show _ = Value.bool (z120.1 == 0) from rfl).trans (congrArg Value.bool c183)) ?_
    refine WL.guardNo rfl rfl rfl ((show _ = Value.bool (z120.1 == 0) from rfl).trans (congrArg Value.bool c183)) ?_
    refine WL.guardNo rfl rfl rfl ((show _ = Value.bool (z120.1 == 0) from rfl).trans (congrArg Value.bool c183)) ?_
    refine WL.ex rfl (ex_pick_f (v := .bool false) ((show _ = Value.bool (z120.1 == 0) from rfl).trans (congrArg Value.bool c183)) rfl) ?_
    refine WL.ex rfl (ex_move (v := .bool false) rfl) ?_
    refine WL.guardNo rfl rfl rfl rfl ?_
    refine WL.guardNo rfl rfl rfl rfl ?_
    refine WL.ex rfl (ex_pick_f (v := .bool false) rfl rfl) ?_
    refine WL.ex rfl (ex_move (v := .bool false) rfl) ?_
    refine WL.guardNo rfl rfl rfl rfl ?_
    refine WL.guardNo rfl rfl rfl rfl ?_
    refine WL.guardNo rfl rfl rfl rfl ?_
    refine WL.ex rfl (ex_pick_f (v := .bool false) rfl rfl) ?_
    refine WL.ex rfl (ex_move (v := .bool false) rfl) ?_
    refine WL.guardNo rfl rfl rfl rfl ?_
    refine WL.guardNo rfl rfl rfl rfl ?_
    refine WL.guardNo rfl rfl rfl rfl ?_
    refine WL.guardNo rfl rfl rfl rfl ?_
    refine WL.guardNo rfl rfl rfl rfl ?_
    refine WL.guardNo rfl rfl rfl rfl ?_
    refine WL.guardNo rfl rfl rfl rfl ?_
    refine WL.ex rfl (ex_pick_f (v := .bool false) rfl rfl) ?_
    refine WL.ex rfl (ex_move (v := .bool false) rfl) ?_
    refine WL.guardNo rfl rfl rfl rfl ?_
    refine WL.guardNo rfl rfl rfl rfl ?_
    refine WL.guardNo rfl rfl rfl rfl ?_
    refine WL.ex rfl (ex_pick_f (v := .bool false) rfl rfl) ?_
    refine WL.ex rfl (ex_move (v := .bool false) rfl) ?_
    refine WL.guardNo rfl rfl rfl rfl ?_
    refine WL.guardNo rfl rfl rfl rfl ?_
    refine WL.ex rfl (ex_pick_f (v := .bool false) rfl rfl) ?_
    refine WL.ex rfl (ex_move (v := .bool false) rfl) ?_
    refine WL.guardNo rfl rfl rfl rfl ?_
    refine WL.guardNo rfl rfl rfl rfl ?_
    refine WL.guardNo rfl rfl rfl rfl ?_
    refine WL.ex rfl (ex_pick_f (v := .bool false) rfl rfl) ?_
    refine WL.ex rfl (ex_move (v := .bool false) rfl) ?_
    refine WL.guardNo rfl rfl rfl rfl ?_
    refine WL.guardNo rfl rfl rfl rfl ?_
    refine WL.ex rfl (ex_pick_f (v := .bool false) rfl rfl) ?_
    refine WL.ex rfl (ex_move (v := .bool false) rfl) ?_
    refine WL.guardNo rfl rfl rfl rfl ?_
    refine WL.guardNo rfl rfl rfl rfl ?_
    refine WL.ex rfl (ex_pick_f (v := .bool false) rfl rfl) ?_
    refine WL.ex rfl (ex_move (v := .bool false) rfl) ?_
    refine WL.guardNo rfl rfl rfl rfl ?_
    refine WL.guardNo rfl rfl rfl rfl ?_
    refine WL.ex rfl (ex_pick_f (v := .bool false) rfl rfl) ?_
    refine WL.ex rfl (ex_assign (v := .bool false) rfl) ?_
    refine WL.nil ?_
    refine WC.ret ?_
    obtain rfl := Option.some.inj H
    exact ⟨_, (.tmp (.bool false : Value) rfl .nil), _, rfl, HF.out⟩

/-! ### dictumlaw01_OctetBurst -/
set_option maxRecDepth 100000 in
theorem dictumlaw01_OctetBurst.calls (k : Nat) (o0 : Tags) (w0 : World) (pA0 : Option Addr) (pc0 : Nat) (a0 : (List UInt8)) (a1 : Int) (a2 : UInt32) (r : Bool) (hO : ∀ b, b < w0.heap.size → o0 b < 10) (hra0 : Row Rep.u8 (fun b_ => o0 b_ = 0) (fun b_ => o0 b_ = 0) w0 pA0 a0) (hla0 : a0.length ≤ pc0) (hG : Gl GG o0 w0) (H : dictumlaw01_OctetBurst.f k a0 a1 a2 = some r) :
    Calls Tryd.prog 5 [.slice pA0 a0.length pc0, .int .i64 a1, enc32 a2].toArray w0 fun e_ w_ => ∃ (o_ : Tags), e_ = .returned (one [.bool r]) ∧ Step o0 w0 o_ w_ [] := by
  have HF := Fm.refl hO []
  unfold dictumlaw01_OctetBurst.f at H
  refine SX.calls [.slice pA0 a0.length pc0, .int .i64 a1, enc32 a2] Tryd.func5 rfl rfl ?_
  rw [Tryd.ntmps5]
  refine WC.seq ?_
  refine WC.region ?_
  refine WL.ex rfl (ex_assign (v := .bool false) rfl) ?_
  refine WL.nil ?_
  refine WC.seq ?_
  refine WC.region ?_
  refine WL.ex rfl (ex_move (v := .slice pA0 a0.length pc0) rfl) ?_
  obtain ⟨z101, hz101, H⟩ := bindE H
  refine WL.op rfl ?_
  refine OW.call [.slice pA0 a0.length pc0] rfl Tryd.func13 (by kernel_rfl) (by kernel_rfl) (map_cons' rfl rfl) (octet_Seal.calls k _ _ pA0 pc0 a0 z101 (HF.ten (V := [0]) (L := []) rfl) (Row.vw (V := [0]) (L := []) hra0 rfl) hla0 hz101) ?_
  rintro _ w102 ⟨o103, v105, rfl, s104, hO106⟩
  refine ⟨_, rfl, ?_⟩
  replace hO106 := Own.un9 (J := [10]) 0 hO106 rfl s104 rfl rfl
  replace s104 := un_stepL (J := [10]) (L' := []) s104 rfl rfl
  replace hra0 := hra0.step s104 rfl
  replace hG := hG.step s104 rfl
  replace HF := HF.step s104 rfl
  refine WL.ex rfl (ex_assign (v := v105) rfl) ?_
  refine WL.nil ?_
  refine WC.seq ?_
  refine WC.seq ?_
  refine WC.region ?_
  refine WL.ex rfl (ex_move (v := v105) rfl) ?_
  obtain ⟨A107, c108, q109⟩ := hO106.slice
  refine WL.ex rfl (ex_len_slice ((show _ = (v105 : Value) from rfl).trans q109) Tryd.underlying24) ?_
  refine WL.ex rfl (ex_move (v := .slice pA0 a0.length pc0) rfl) ?_
  refine WL.ex rfl (ex_len_slice (A := pA0) (m := a0.length) (c := pc0) rfl Tryd.underlying24) ?_
  refine WL.ex rfl (ex_bin (a := .int .i64 (a0.length : Int)) (b := .int .i64 4) (v := .int .i64 (wrap64 ((a0.length : Int) + 4))) rfl rfl bin_add64) ?_
  refine WL.ex rfl (ex_bin (a := .int .i64 (z101.length : Int)) (b := .int .i64 (wrap64 ((a0.length : Int) + 4))) (v := .bool ((z101.length : Int) != (wrap64 ((a0.length : Int) + 4)))) rfl rfl bin_neq) ?_
  refine WL.nil ?_
  rcases condE H with ⟨c110, H⟩ | ⟨c110, H⟩
  ·
    refine WC.cond_t ((show _ = Value.bool ((z101.length : Int) != (wrap64 ((a0.length : Int) + 4))) from rfl).trans (congrArg Value.bool c110)) ?_
    refine WC.seq ?_
    refine WC.region ?_
    refine WL.ex rfl (ex_assign (v := .bool false) rfl) ?_
    refine WL.nil ?_
    refine WC.ret ?_
    obtain rfl := Option.some.inj H
    exact ⟨_, (.tmp (.bool false : Value) rfl .nil), _, rfl, HF.out⟩
  ·
    refine WC.cond_f ((show _ = Value.bool ((z101.length : Int) != (wrap64 ((a0.length : Int) + 4))) from rfl).trans (congrArg Value.bool c110)) ?_
    refine WC.skip ?_
    refine WC.seq ?_
    refine WC.region ?_
    refine WL.ex rfl (ex_move (v := .int .i64 a1) rfl) ?_
    refine WL.ex rfl (ex_conv_u64 (k := .i64) (a := a1) rfl Tryd.underlying3 Tryd.underlying29) ?_
    refine WL.ex rfl (ex_move (v := v105) rfl) ?_
    obtain ⟨A111, c112, q113⟩ := hO106.slice
    refine WL.ex rfl (ex_len_slice ((show _ = (v105 : Value) from rfl).trans q113) Tryd.underlying24) ?_
    refine WL.ex rfl (ex_bin (a := .int .i64 8) (b := .int .i64 (z101.length : Int)) (v := .int .i64 (wrap64 (8 * (z101.length : Int)))) rfl rfl bin_mul64) ?_
    refine WL.ex rfl (ex_conv_u64 (k := .i64) (a := (wrap64 (8 * (z101.length : Int)))) rfl Tryd.underlying3 Tryd.underlying29) ?_
    obtain ⟨u114, hu114, H⟩ := bindE H
    refine WL.ex rfl (ex_bin (a := enc64 (ofI64 a1)) (b := enc64 (ofI64 (wrap64 (8 * (z101.length : Int))))) (v := enc64 ((ofI64 a1) % (ofI64 (wrap64 (8 * (z101.length : Int)))))) rfl rfl (bin_rem_u64 (by have h_ := chk_true hu114; simpa using h_))) ?_
    refine WL.ex rfl (ex_conv64 (k := .u64) (a := (((ofI64 a1) % (ofI64 (wrap64 (8 * (z101.length : Int))))).toNat : Int)) rfl Tryd.underlying29 Tryd.underlying3) ?_
    refine WL.ex rfl (ex_assign (v := .int .i64 (wrap64 (((ofI64 a1) % (ofI64 (wrap64 (8 * (z101.length : Int))))).toNat : Int))) rfl) ?_
    refine WL.nil ?_
    refine WC.seq ?_
    refine WC.region ?_
    refine WL.ex rfl (ex_assign (v := .bool false) rfl) ?_
    refine WL.nil ?_
    refine WC.seq ?_
    refine WC.seq ?_
    refine WC.region ?_
    refine WL.ex rfl (ex_assign (v := .int .i64 0) rfl) ?_
    refine WL.nil ?_
    obtain ⟨z124, hz124, H⟩ := bindE H
    obtain ⟨x122, x123⟩ := z124
    refine WC.for (fun k_ ρ_ w_ => ∃ (o_ : Tags) (x117 : (List UInt8)) (x118 : Bool) (x119 : Int) (v115 : Value), Fm o0 w0 o_ w_ [] ∧ Own Rep.u8 5 10 o_ w_ v115 x117 ∧ Gl GG o_ w_ ∧ ρ_ 2 = enc32 a2 ∧ ρ_ 6 = .bool false ∧ ρ_ 7 = v115 ∧ ρ_ 8 = .int .i64 (wrap64 (((ofI64 a1) % (ofI64 (wrap64 (8 * (z101.length : Int))))).toNat : Int)) ∧ ρ_ 9 = .bool x118 ∧ ρ_ 10 = .int .i64 x119 ∧ dictumlaw01_OctetBurst.l1 k a1 a2 z101 k_ x117 x118 x119 = some (x122, x123)) k (fun ρ_ w_ => ∃ (o_ : Tags) (v120 : Value), Fm o0 w0 o_ w_ [] ∧ Own Rep.u8 5 10 o_ w_ v120 x122 ∧ Gl GG o_ w_ ∧ ρ_ 6 = .bool false ∧ ρ_ 7 = v120 ∧ ρ_ 9 = .bool x123) ⟨_, z101, false, 0, _, HF, hO106, hG, rfl, rfl, rfl, rfl, rfl, rfl, hz124⟩ ?case125 ?_
    case case125 =>
      rintro ρ179 w177 ⟨o178, v120, HF, hO121, hG, s6_119, s7_122, s9_123⟩
      refine WC.seq ?_
      refine WC.region ?_
      refine WL.ex rfl (ex_move (v := v120) s7_122) ?_
      obtain ⟨A180, c181, q182e, q182l, q182⟩ := Own.vwRow (V := [0, 10]) (L := []) hO121 rfl rfl
      obtain ⟨z183, hz183, H⟩ := bindE H
      have q182e' := q182e
      refine WL.op rfl ?_
      refine OW.call [v120] rfl Tryd.func17 (by kernel_rfl) (by kernel_rfl) (map_cons' rfl rfl) (by simp only [q182e]; exact (octet_Open.calls k _ _ A180 c181 x122 z183 (HF.ten (V := [0, 10]) (L := []) rfl) q182 q182l hz183)) ?_
      rintro _ w184 ⟨o185, v187, rfl, s186, hO188⟩
      refine ⟨_, rfl, ?_⟩
      replace hO188 := Own.un9f (J := [11]) 0 (fun h => h) hO188 rfl s186 rfl rfl
      replace s186 := un_stepL (J := [11]) (L' := []) s186 rfl rfl
      replace hO121 := hO121.step s186 rfl rfl
      replace hG := hG.step s186 rfl
      replace HF := HF.step s186 rfl
      refine WL.ex rfl (ex_move (v := .tuple #[v187, .int .i64 z183.2]) rfl) ?_
      refine WL.ex rfl (ex_extract (vs := #[v187, .int .i64 z183.2]) (v := v187) rfl rfl) ?_
      refine WL.ex rfl (ex_extract (vs := #[v187, .int .i64 z183.2]) (v := .int .i64 z183.2) rfl rfl) ?_
      refine WL.ex rfl (ex_assign (v := v187) rfl) ?_
      refine WL.ex rfl (ex_assign (v := .int .i64 z183.2) rfl) ?_
      refine WL.nil ?_
      refine WC.seq ?_
      refine WC.region ?_
      refine WL.ex rfl (ex_move (v := .int .i64 z183.2) rfl) ?_
      refine WL.ex rfl (ex_bin (a := .int .i64 z183.2) (b := .int .i64 13) (v := .bool (z183.2 == 13)) rfl rfl bin_eql) ?_
      refine WL.ex rfl (ex_move (v := .bool x123) s9_123) ?_
      refine WL.ex rfl (ex_bin (a := .bool (z183.2 == 13)) (b := .bool x123) (v := .bool ((z183.2 == 13) == x123)) rfl rfl (bin_eql_bool Tryd.underlying4)) ?_
      refine WL.ex rfl (ex_move (v := .bool ((z183.2 == 13) == x123)) rfl) ?_
      rcases condE H with ⟨c189, H⟩ | ⟨c189, H⟩
      ·
        refine WL.guardYes rfl rfl rfl ((show _ = Value.bool ((z183.2 == 13) == x123) from rfl).trans (congrArg Value.bool c189)) ?_
        obtain ⟨z190, hz190, H⟩ := bindE H
        refine OW.call [] rfl Tryd.func12 (by kernel_rfl) (by kernel_rfl) rfl (dictumlaw01_heads.calls k _ _ z190 (HF.ten (V := [0]) (L := []) rfl) (Gl.vw (V := [0]) (L := []) hG rfl) hz190) ?_
        rintro _ w191 ⟨o192, rfl, s193⟩
        refine ⟨_, rfl, ?_⟩
        replace s193 := un_stepL (J := []) (L' := []) s193 rfl rfl
        replace hO121 := hO121.step s193 rfl rfl
        replace hG := hG.step s193 rfl
        replace hO188 := hO188.step s193 rfl rfl
        replace HF := HF.step s193 rfl
        refine WL.ex rfl (ex_pick_t (v := .bool z190) ((show _ = Value.bool ((z183.2 == 13) == x123) from rfl).trans (congrArg Value.bool c189)) rfl) ?_
        refine WL.ex rfl (ex_assign (v := .bool z190) rfl) ?_
        refine WL.nil ?_
        refine WC.ret ?_
        obtain rfl := Option.some.inj H
        exact ⟨_, (.tmp (.bool z190 : Value) rfl .nil), _, rfl, HF.out⟩
      ·
        refine WL.guardNo rfl rfl rfl ((show _ = Value.bool ((z183.2 == 13) == x123) from rfl).trans (congrArg Value.bool c189)) ?_
        refine WL.ex rfl (ex_pick_f (v := .bool false) ((show _ = Value.bool ((z183.2 == 13) == x123) from rfl).trans (congrArg Value.bool c189)) rfl) ?_
        refine WL.ex rfl (ex_assign (v := .bool false) rfl) ?_
        refine WL.nil ?_
        refine WC.ret ?_
        obtain rfl := Option.some.inj H
        exact ⟨_, (.tmp (.bool false : Value) rfl .nil), _, rfl, HF.out⟩
    have Ho126 := H
    rintro k127 ρ128 w129 ⟨o130, x117, x118, x119, v115, HF, hO116, hG, s2_114, s6_114, s7_117, s8_117, s9_118, s10_119, H⟩
    cases k127 with
    | zero => cases H
    | succ k127 =>
    rw [dictumlaw01_OctetBurst.l1.eq_2] at H
    refine WC.seq ?_
    obtain ⟨z132, hz132, H⟩ := bindE H
    refine WC.cut (fun ρ_ w_ => ∃ (o_ : Tags), Fm o0 w0 o_ w_ [] ∧ Own Rep.u8 5 10 o_ w_ v115 x117 ∧ Gl GG o_ w_ ∧ ρ_ 2 = enc32 a2 ∧ ρ_ 6 = .bool false ∧ ρ_ 7 = v115 ∧ ρ_ 8 = .int .i64 (wrap64 (((ofI64 a1) % (ofI64 (wrap64 (8 * (z101.length : Int))))).toNat : Int)) ∧ ρ_ 9 = .bool x118 ∧ ρ_ 10 = .int .i64 x119 ∧ ρ_ 39 = .bool z132) ?case133 ?_
    case case133 =>
      rintro ρ136 w134 ⟨o135, HF, hO116, hG, s2_130, s6_130, s7_130, s8_130, s9_130, s10_130, s39_131⟩
      rcases condE H with ⟨c137, H⟩ | ⟨c137, H⟩
      ·
        refine WC.cond_t ((show _ = Value.bool z132 from s39_131).trans (congrArg Value.bool c137)) ?_
        refine WC.skip ?_
        obtain ⟨z142, hz142, H⟩ := bindE H
        obtain ⟨x140, x141⟩ := z142
        refine WC.cut (fun ρ_ w_ => ∃ (o_ : Tags) (v138 : Value), Fm o0 w0 o_ w_ [] ∧ Own Rep.u8 5 10 o_ w_ v138 x140 ∧ Gl GG o_ w_ ∧ ρ_ 2 = enc32 a2 ∧ ρ_ 6 = .bool false ∧ ρ_ 7 = v138 ∧ ρ_ 8 = .int .i64 (wrap64 (((ofI64 a1) % (ofI64 (wrap64 (8 * (z101.length : Int))))).toNat : Int)) ∧ ρ_ 9 = .bool x141 ∧ ρ_ 10 = .int .i64 x119) ?case143 ?_
        case case143 =>
          rintro ρ146 w144 ⟨o145, v138, HF, hO139, hG, s2_137, s6_137, s7_140, s8_140, s9_141, s10_141⟩
          refine WC.region ?_
          refine WL.ex rfl (ex_move (v := .int .i64 x119) s10_141) ?_
          refine WL.ex rfl (ex_bin (a := .int .i64 x119) (b := .int .i64 1) (v := .int .i64 (wrap64 (x119 + 1))) rfl rfl bin_add64) ?_
          refine WL.ex rfl (ex_assign (v := .int .i64 (wrap64 (x119 + 1))) rfl) ?_
          refine WL.nil ?_
          exact ⟨k127, Nat.lt_succ_self _, ⟨_, x140, x141, wrap64 (x119 + 1), _, HF, hO139, hG, s2_137, s6_137, s7_140, s8_140, s9_141, rfl, H⟩⟩
        have Ho147 := H
        replace H := hz142
        refine WC.block ?_
        refine WC.seq ?_
        refine WC.region ?_
        refine WL.ex rfl (ex_move (v := enc32 a2) s2_130) ?_
        refine WL.ex rfl (ex_move (v := .int .i64 x119) s10_130) ?_
        refine WL.ex rfl (ex_conv_u64 (k := .i64) (a := x119) rfl Tryd.underlying3 Tryd.underlying45) ?_
        refine WL.ex rfl (ex_bin (a := enc32 a2) (b := enc64 (ofI64 x119)) (v := enc32 (shr32 a2 ((ofI64 x119).toNat))) rfl rfl (bin_shr_u32n (n := (ofI64 x119).toNat))) ?_
        refine WL.ex rfl (ex_bin (a := enc32 (shr32 a2 ((ofI64 x119).toNat))) (b := enc32 (1 : UInt32)) (v := enc32 ((shr32 a2 ((ofI64 x119).toNat)) &&& (1 : UInt32))) rfl rfl bin_and_u32) ?_
        refine WL.ex rfl (ex_bin (a := enc32 ((shr32 a2 ((ofI64 x119).toNat)) &&& (1 : UInt32))) (b := enc32 (1 : UInt32)) (v := .bool (((shr32 a2 ((ofI64 x119).toNat)) &&& (1 : UInt32)) == (1 : UInt32))) rfl rfl bin_eql_u32) ?_
        refine WL.nil ?_
        rcases condE H with ⟨c148, H⟩ | ⟨c148, H⟩
        ·
          refine WC.cond_t ((show _ = Value.bool (((shr32 a2 ((ofI64 x119).toNat)) &&& (1 : UInt32)) == (1 : UInt32)) from rfl).trans (congrArg Value.bool c148)) ?_
          refine WC.seq ?_
          refine WC.region ?_
          refine WL.ex rfl (ex_move (v := v115) s7_130) ?_
          refine WL.ex rfl (ex_move (v := .int .i64 (wrap64 (((ofI64 a1) % (ofI64 (wrap64 (8 * (z101.length : Int))))).toNat : Int))) s8_130) ?_
          refine WL.ex rfl (ex_move (v := .int .i64 x119) s10_130) ?_
          refine WL.ex rfl (ex_bin (a := .int .i64 (wrap64 (((ofI64 a1) % (ofI64 (wrap64 (8 * (z101.length : Int))))).toNat : Int))) (b := .int .i64 x119) (v := .int .i64 (wrap64 ((wrap64 (((ofI64 a1) % (ofI64 (wrap64 (8 * (z101.length : Int))))).toNat : Int)) + x119))) rfl rfl bin_add64) ?_
          refine WL.ex rfl (ex_bin (a := .int .i64 (wrap64 ((wrap64 (((ofI64 a1) % (ofI64 (wrap64 (8 * (z101.length : Int))))).toNat : Int)) + x119))) (b := .int .i64 8) (v := .int .i64 (wrap64 ((wrap64 ((wrap64 (((ofI64 a1) % (ofI64 (wrap64 (8 * (z101.length : Int))))).toNat : Int)) + x119)).tdiv 8))) rfl rfl (bin_quo64 (by decide))) ?_
          refine WL.ex rfl (ex_move (v := v115) s7_130) ?_
          refine WL.ex rfl (ex_move (v := .int .i64 (wrap64 (((ofI64 a1) % (ofI64 (wrap64 (8 * (z101.length : Int))))).toNat : Int))) s8_130) ?_
          refine WL.ex rfl (ex_move (v := .int .i64 x119) s10_130) ?_
          refine WL.ex rfl (ex_bin (a := .int .i64 (wrap64 (((ofI64 a1) % (ofI64 (wrap64 (8 * (z101.length : Int))))).toNat : Int))) (b := .int .i64 x119) (v := .int .i64 (wrap64 ((wrap64 (((ofI64 a1) % (ofI64 (wrap64 (8 * (z101.length : Int))))).toNat : Int)) + x119))) rfl rfl bin_add64) ?_
          refine WL.ex rfl (ex_bin (a := .int .i64 (wrap64 ((wrap64 (((ofI64 a1) % (ofI64 (wrap64 (8 * (z101.length : Int))))).toNat : Int)) + x119))) (b := .int .i64 8) (v := .int .i64 (wrap64 ((wrap64 ((wrap64 (((ofI64 a1) % (ofI64 (wrap64 (8 * (z101.length : Int))))).toNat : Int)) + x119)).tdiv 8))) rfl rfl (bin_quo64 (by decide))) ?_
          obtain ⟨x149, hx149, H⟩ := bindE H
          obtain ⟨A154, c155, q156_⟩ := hO116.slice
          obtain ⟨ad150, e151, g152, g153, cell157⟩ := Row.ixS (Own.rowOf hO116 q156_) hx149
          refine WL.ex rfl (ex_indexAddr (i := (wrap64 ((wrap64 ((wrap64 (((ofI64 a1) % (ofI64 (wrap64 (8 * (z101.length : Int))))).toNat : Int)) + x119)).tdiv 8))) ((show _ = (v115 : Value) from rfl).trans q156_) e151 rfl Tryd.underlying24 sz5 g152 g153) ?_
          refine WL.ex rfl (ex_load1 (v := enc8 x149) rfl Tryd.underlying5 rfl cell157) ?_
          refine WL.ex rfl (ex_move (v := .int .i64 (wrap64 (((ofI64 a1) % (ofI64 (wrap64 (8 * (z101.length : Int))))).toNat : Int))) s8_130) ?_
          refine WL.ex rfl (ex_move (v := .int .i64 x119) s10_130) ?_
          refine WL.ex rfl (ex_bin (a := .int .i64 (wrap64 (((ofI64 a1) % (ofI64 (wrap64 (8 * (z101.length : Int))))).toNat : Int))) (b := .int .i64 x119) (v := .int .i64 (wrap64 ((wrap64 (((ofI64 a1) % (ofI64 (wrap64 (8 * (z101.length : Int))))).toNat : Int)) + x119))) rfl rfl bin_add64) ?_
          refine WL.ex rfl (ex_bin (a := .int .i64 (wrap64 ((wrap64 (((ofI64 a1) % (ofI64 (wrap64 (8 * (z101.length : Int))))).toNat : Int)) + x119))) (b := .int .i64 8) (v := .int .i64 ((wrap64 ((wrap64 (((ofI64 a1) % (ofI64 (wrap64 (8 * (z101.length : Int))))).toNat : Int)) + x119)).tmod 8)) rfl rfl (bin_rem64 (by decide))) ?_
          refine WL.ex rfl (ex_conv_u64 (k := .i64) (a := ((wrap64 ((wrap64 (((ofI64 a1) % (ofI64 (wrap64 (8 * (z101.length : Int))))).toNat : Int)) + x119)).tmod 8)) rfl Tryd.underlying3 Tryd.underlying45) ?_
          refine WL.ex rfl (ex_bin (a := enc8 (1 : UInt8)) (b := enc64 (ofI64 ((wrap64 ((wrap64 (((ofI64 a1) % (ofI64 (wrap64 (8 * (z101.length : Int))))).toNat : Int)) + x119)).tmod 8))) (v := enc8 (shl8 (1 : UInt8) ((ofI64 ((wrap64 ((wrap64 (((ofI64 a1) % (ofI64 (wrap64 (8 * (z101.length : Int))))).toNat : Int)) + x119)).tmod 8)).toNat))) rfl rfl (bin_shl_u8n (n := (ofI64 ((wrap64 ((wrap64 (((ofI64 a1) % (ofI64 (wrap64 (8 * (z101.length : Int))))).toNat : Int)) + x119)).tmod 8)).toNat))) ?_
          refine WL.ex rfl (ex_bin (a := enc8 x149) (b := enc8 (shl8 (1 : UInt8) ((ofI64 ((wrap64 ((wrap64 (((ofI64 a1) % (ofI64 (wrap64 (8 * (z101.length : Int))))).toNat : Int)) + x119)).tmod 8)).toNat))) (v := enc8 (x149 ^^^ (shl8 (1 : UInt8) ((ofI64 ((wrap64 ((wrap64 (((ofI64 a1) % (ofI64 (wrap64 (8 * (z101.length : Int))))).toNat : Int)) + x119)).tmod 8)).toNat)))) rfl rfl bin_xor_u8) ?_
          obtain ⟨x159, hx159, H⟩ := bindE H
          obtain ⟨A164, c165, q166_⟩ := hO116.slice
          obtain ⟨ad160, e161, g162, g163, cell167⟩ := Row.ixS (Own.rowOf hO116 q166_) hx159
          refine WL.ex rfl (ex_indexAddr (i := (wrap64 ((wrap64 ((wrap64 (((ofI64 a1) % (ofI64 (wrap64 (8 * (z101.length : Int))))).toNat : Int)) + x119)).tdiv 8))) ((show _ = (v115 : Value) from rfl).trans q166_) e161 rfl Tryd.underlying24 sz5 g162 g163) ?_
          refine WL.op rfl ?_
          refine OW.storeElem (r := Rep.u8) (j := (wrap64 ((wrap64 ((wrap64 (((ofI64 a1) % (ofI64 (wrap64 (8 * (z101.length : Int))))).toNat : Int)) + x119)).tdiv 8))) (vs := [enc8 (x149 ^^^ (shl8 (1 : UInt8) ((ofI64 ((wrap64 ((wrap64 (((ofI64 a1) % (ofI64 (wrap64 (8 * (z101.length : Int))))).toNat : Int)) + x119)).tmod 8)).toNat)))]) hO116 (q166_.trans (by rw [e161])) rfl g162 g163 ((congrArg Value.cells (show ev _ _ = (enc8 (x149 ^^^ (shl8 (1 : UInt8) ((ofI64 ((wrap64 ((wrap64 (((ofI64 a1) % (ofI64 (wrap64 (8 * (z101.length : Int))))).toNat : Int)) + x119)).tmod 8)).toNat))) : Value) from rfl)).trans rfl) sz5 rfl (by decide) ?_
          intro w169 s170 hO171
          replace hG := hG.step s170 rfl
          replace HF := HF.step s170 rfl
          refine WL.nil ?_
          refine WC.region ?_
          refine WL.ex rfl (ex_assign (v := .bool true) rfl) ?_
          refine WL.nil ?_
          obtain ⟨rfl, rfl⟩ := Prod.mk.inj (Option.some.inj H)
          exact ⟨_, _, HF, hO171, hG, s2_130, s6_130, s7_130, s8_130, rfl, s10_130⟩
        ·
          refine WC.cond_f ((show _ = Value.bool (((shr32 a2 ((ofI64 x119).toNat)) &&& (1 : UInt32)) == (1 : UInt32)) from rfl).trans (congrArg Value.bool c148)) ?_
          refine WC.skip ?_
          obtain ⟨rfl, rfl⟩ := Prod.mk.inj (Option.some.inj H)
          exact ⟨_, _, HF, hO116, hG, s2_130, s6_130, s7_130, s8_130, s9_130, s10_130⟩
      ·
        refine WC.cond_f ((show _ = Value.bool z132 from s39_131).trans (congrArg Value.bool c137)) ?_
        refine WC.exit ?_
        obtain ⟨rfl, rfl⟩ := Prod.mk.inj (Option.some.inj H)
        exact ⟨_, _, HF, hO116, hG, s6_130, s7_130, s9_130⟩
    have Ho172 := H
    replace H := hz132
    refine WC.region ?_
    refine WL.ex rfl (ex_move (v := .int .i64 x119) s10_119) ?_
    refine WL.ex rfl (ex_bin (a := .int .i64 x119) (b := .int .i64 32) (v := .bool (decide (x119 < 32))) rfl rfl bin_lss) ?_
    refine WL.ex rfl (ex_move (v := .bool (decide (x119 < 32))) rfl) ?_
    rcases condE H with ⟨c173, H⟩ | ⟨c173, H⟩
    ·
      refine WL.guardYes rfl rfl rfl ((show _ = Value.bool (decide (x119 < 32)) from rfl).trans (congrArg Value.bool c173)) ?_
      refine OW.ex rfl (ex_move (v := .int .i64 (wrap64 (((ofI64 a1) % (ofI64 (wrap64 (8 * (z101.length : Int))))).toNat : Int))) s8_117) ?_
      refine WL.guardYes rfl rfl rfl ((show _ = Value.bool (decide (x119 < 32)) from rfl).trans (congrArg Value.bool c173)) ?_
      refine OW.ex rfl (ex_move (v := .int .i64 x119) s10_119) ?_
      refine WL.guardYes rfl rfl rfl ((show _ = Value.bool (decide (x119 < 32)) from rfl).trans (congrArg Value.bool c173)) ?_
      refine OW.ex rfl (ex_bin (a := .int .i64 (wrap64 (((ofI64 a1) % (ofI64 (wrap64 (8 * (z101.length : Int))))).toNat : Int))) (b := .int .i64 x119) (v := .int .i64 (wrap64 ((wrap64 (((ofI64 a1) % (ofI64 (wrap64 (8 * (z101.length : Int))))).toNat : Int)) + x119))) rfl rfl bin_add64) ?_
      refine WL.guardYes rfl rfl rfl ((show _ = Value.bool (decide (x119 < 32)) from rfl).trans (congrArg Value.bool c173)) ?_
      refine OW.ex rfl (ex_move (v := v115) s7_117) ?_
      refine WL.guardYes rfl rfl rfl ((show _ = Value.bool (decide (x119 < 32)) from rfl).trans (congrArg Value.bool c173)) ?_
      obtain ⟨A174, c175, q176⟩ := hO116.slice
      refine OW.ex rfl (ex_len_slice ((show _ = (v115 : Value) from rfl).trans q176) Tryd.underlying24) ?_
      refine WL.guardYes rfl rfl rfl ((show _ = Value.bool (decide (x119 < 32)) from rfl).trans (congrArg Value.bool c173)) ?_
      refine OW.ex rfl (ex_bin (a := .int .i64 8) (b := .int .i64 (x117.length : Int)) (v := .int .i64 (wrap64 (8 * (x117.length : Int)))) rfl rfl bin_mul64) ?_
      refine WL.guardYes rfl rfl rfl ((show _ = Value.bool (decide (x119 < 32)) from rfl).trans (congrArg Value.bool c173)) ?_
      refine OW.ex rfl (ex_bin (a := .int .i64 (wrap64 ((wrap64 (((ofI64 a1) % (ofI64 (wrap64 (8 * (z101.length : Int))))).toNat : Int)) + x119))) (b := .int .i64 (wrap64 (8 * (x117.length : Int)))) (v := .bool (decide ((wrap64 ((wrap64 (((ofI64 a1) % (ofI64 (wrap64 (8 * (z101.length : Int))))).toNat : Int)) + x119)) < (wrap64 (8 * (x117.length : Int)))))) rfl rfl bin_lss) ?_
      refine WL.ex rfl (ex_pick_t (v := .bool (decide ((wrap64 ((wrap64 (((ofI64 a1) % (ofI64 (wrap64 (8 * (z101.length : Int))))).toNat : Int)) + x119)) < (wrap64 (8 * (x117.length : Int)))))) ((show _ = Value.bool (decide (x119 < 32)) from rfl).trans (congrArg Value.bool c173)) rfl) ?_
      refine WL.nil ?_
      obtain rfl := Option.some.inj H
      exact ⟨_, HF, hO116, hG, s2_114, s6_114, s7_117, s8_117, s9_118, s10_119, rfl⟩
    ·
      refine WL.guardNo rfl rfl rfl ((show _ = Value.bool (decide (x119 < 32)) from rfl).trans (congrArg Value.bool c173)) ?_
      refine WL.guardNo rfl rfl rfl ((show _ = Value.bool (decide (x119 < 32)) from rfl).trans (congrArg Value.bool c173)) ?_
      refine WL.guardNo rfl rfl rfl ((show _ = Value.bool (decide (x119 < 32)) from rfl).trans (congrArg Value.bool c173)) ?_
      refine WL.guardNo rfl rfl rfl ((show _ = Value.bool (decide (x119 < 32)) from rfl).trans (congrArg Value.bool c173)) ?_
      refine WL.guardNo rfl rfl rfl ((show _ = Value.bool (decide (x119 < 32)) from rfl).trans (congrArg Value.bool c173)) ?_
      refine WL.guardNo rfl rfl rfl ((show _ = Value.bool (decide (x119 < 32)) from rfl).trans (congrArg Value.bool c173)) ?_
      refine WL.guardNo rfl rfl rfl ((show _ = Value.bool (decide (x119 < 32)) from rfl).trans (congrArg Value.bool c173)) ?_
      refine WL.ex rfl (ex_pick_f (v := .bool false) ((show _ = Value.bool (decide (x119 < 32)) from rfl).trans (congrArg Value.bool c173)) rfl) ?_
      refine WL.nil ?_
      obtain rfl := Option.some.inj H
      exact ⟨_, HF, hO116, hG, s2_114, s6_114, s7_117, s8_117, s9_118, s10_119, rfl⟩
end Go.Proofs.YtaidlahjngmenaaDoor.X
