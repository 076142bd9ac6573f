import Derived.Test.YtaidlahjngmenaaDoorXAD
import Derived.Test.YtaidlahjngmenaaDoorProg
import Derived.Test.YtaidlahjngmenaaDoorShelf
set_option maxRecDepth 20000
set_option linter.unusedVariables false
set_option linter.unusedSimpArgs false
namespace Go.Proofs.YtaidlahjngmenaaDoor.X
open Go Go.RowKit Go.Proofs.YtaidlahjngmenaaDoor.SX
/-! What the program's variables hold -/
def GG : Glob := { L := [0, 1, 5, 3, 4], T := fun w => Lib.Utf8Tabs 0 1 w ∧ Lib.TabIs Tryd.prog w "internal/strconv.uint64pow10" .u64 Lib.pow10Tab ∧ (∃ tp p, w.var? Tryd.prog "strconv.ErrSyntax" = some #[.iface tp p]) ∧ (∃ tp p, w.var? Tryd.prog "strconv.ErrRange" = some #[.iface tp p]), move := fun {w w'} hk h => ⟨⟨fun c hc => by rw [cell_move (w := w) (hk 0 (by simp))]; exact h.1.1 c hc, fun i hi => ⟨by rw [cell_move (w := w) (hk 1 (by simp))]; exact (h.1.2 i hi).1, by rw [cell_move (w := w) (hk 1 (by simp))]; exact (h.1.2 i hi).2⟩⟩, (var_move (by kernel_rfl : Tryd.prog.globalNamed "internal/strconv.uint64pow10" = some 5) (hk 5 (by simp))).trans h.2.1, (by obtain ⟨tp, p, e⟩ := h.2.2.1; exact ⟨tp, p, (var_move (by kernel_rfl : Tryd.prog.globalNamed "strconv.ErrSyntax" = some 3) (hk 3 (by simp))).trans e⟩), (by obtain ⟨tp, p, e⟩ := h.2.2.2; exact ⟨tp, p, (var_move (by kernel_rfl : Tryd.prog.globalNamed "strconv.ErrRange" = some 4) (hk 4 (by simp))).trans e⟩)⟩ }

theorem inf5 : (Tryd.prog.info? 5).map (fun i => (i.zero, i.size, i.bytes)) = some (some (.int .u8 0), 1, 1) := by kernel_rfl
theorem sz3 : (Tryd.prog.info? 3).map (·.size) = some 1 := by kernel_rfl
theorem sz4 : (Tryd.prog.info? 4).map (·.size) = some 1 := by kernel_rfl
theorem sz5 : (Tryd.prog.info? 5).map (·.size) = some 1 := by kernel_rfl
theorem sz24 : (Tryd.prog.info? 24).map (·.size) = some 1 := by kernel_rfl
theorem sz68 : (Tryd.prog.info? 68).map (·.size) = some 2 := by kernel_rfl
theorem sz96 : (Tryd.prog.info? 96).map (·.size) = some 2 := by kernel_rfl
theorem zr5 : (Tryd.prog.info? 5).map (·.zero) = some (some (.int .u8 0)) := by kernel_rfl
theorem zr24 : (Tryd.prog.info? 24).map (·.zero) = some (some (.slice none 0 0)) := by kernel_rfl
theorem zr26 : (Tryd.prog.info? 26).map (·.zero) = some (some (.agg #[.slice none 0 0])) := by kernel_rfl
theorem zr68 : (Tryd.prog.info? 68).map (·.zero) = some (some (.agg #[.bool false, .slice none 0 0])) := by kernel_rfl
theorem zr96 : (Tryd.prog.info? 96).map (·.zero) = some (some (.agg #[.int .u8 0, .int .u8 0])) := by kernel_rfl

/-! ### bytes_Clone -/
set_option maxRecDepth 100000 in
theorem bytes_Clone.calls (o0 : Tags) (w0 : World) (pA0 : Option Addr) (pc0 : Nat) (a0 : (List UInt8)) (r : (List UInt8)) (hO : ∀ b, b < w0.heap.size → o0 b < 10) (hra0 : Row Rep.u8 (fun b_ => o0 b_ = 0) (fun b_ => o0 b_ = 0) w0 pA0 a0) (hla0 : a0.length ≤ pc0) (H : bytes_Clone.f a0 = some r) :
    Calls Tryd.prog 41 [.slice pA0 a0.length pc0].toArray w0 fun e_ w_ => ∃ (o_ : Tags) (rv0 : Value), e_ = .returned (one [rv0]) ∧ Step o0 w0 o_ w_ [] ∧ Own Rep.u8 5 9 o_ w_ rv0 r := by
  have HF := Fm.refl hO []
  unfold bytes_Clone.f at H
  refine SX.calls [.slice pA0 a0.length pc0] Tryd.func41 rfl rfl ?_
  rw [Tryd.ntmps41]
  refine WC.seq ?_
  refine WC.region ?_
  refine WL.ex rfl (ex_assign (v := .slice none ([] : List UInt8).length 0) rfl) ?_
  refine WL.nil ?_
  refine WC.seq ?_
  refine WC.seq ?_
  refine WC.region ?_
  refine WL.ex rfl (ex_move (v := .slice pA0 a0.length pc0) rfl) ?_
  rcases nilE H hra0 with ⟨rfl, H⟩ | ⟨ad101, rfl, H⟩
  ·
    refine WL.ex rfl (ex_bin (a := .slice none a0.length pc0) (b := .slice none 0 0) (v := .bool true) rfl rfl (bin_eql_slN Tryd.underlying24)) ?_
    refine WL.nil ?_
    refine WC.cond_t rfl ?_
    refine WC.seq ?_
    refine WC.region ?_
    refine WL.ex rfl (ex_assign (v := .slice none ([] : List UInt8).length 0) rfl) ?_
    refine WL.nil ?_
    refine WC.ret ?_
    obtain rfl := Option.some.inj H
    exact ⟨_, (.tmp (.slice none ([] : List UInt8).length 0 : Value) rfl .nil), _, (.slice none 0 0), rfl, HF.out, Own.nil⟩
  ·
    refine WL.ex rfl (ex_bin (a := .slice (some ad101) a0.length pc0) (b := .slice none 0 0) (v := .bool false) rfl rfl (bin_eql_slS Tryd.underlying24)) ?_
    refine WL.nil ?_
    refine WC.cond_f rfl ?_
    refine WC.skip ?_
    refine WC.seq ?_
    refine WC.region ?_
    refine WL.op rfl ?_
    refine OW.row (r := Rep.u8) (xs := ([] : List UInt8)) [] [] 10 HF rfl Tryd.underlying24 sz5 zr5 rfl rfl rfl rfl trivial rfl rfl rfl rfl ?_
    intro o102 w103 v105 s104 hO106
    replace hra0 := hra0.step s104 rfl
    replace HF := HF.step s104 rfl
    refine WL.ex rfl (ex_move (v := .slice (some ad101) a0.length pc0) rfl) ?_
    obtain ⟨u107, hu107, H⟩ := bindE H
    refine WL.op rfl ?_
    refine OW.append (r := Rep.u8) (E := 5) (i := 10) rfl Tryd.underlying24 inf5 rfl (by decide) (by decide) (by decide) rfl rfl hO106 (hra0) rfl (of_decide_eq_true (chk_true hu107)) ?_
    intro o108 w109 v110 s111 hO112
    replace hra0 := hra0.step s111 rfl
    replace HF := HF.step s111 rfl
    refine WL.ex rfl (ex_assign (v := v110) rfl) ?_
    refine WL.nil ?_
    refine WC.ret ?_
    obtain rfl := Option.some.inj H
    replace hO112 := Own.renTo (j := 9) hO112 rfl
    replace HF := HF.ren (i := 10) (j := 9) rfl
    exact ⟨_, (.tmp (v110 : Value) rfl .nil), _, v110, rfl, HF.out, hO112⟩

/-! ### octet_NewReader -/
set_option maxRecDepth 100000 in
theorem octet_NewReader.calls (o0 : Tags) (w0 : World) (pA0 : Option Addr) (pc0 : Nat) (a0 : (List UInt8)) (r : T_octet_Reader) (hO : ∀ b, b < w0.heap.size → o0 b < 10) (hra0 : Row Rep.u8 (fun b_ => o0 b_ = 0) (fun b_ => o0 b_ = 0) w0 pA0 a0) (hla0 : a0.length ≤ pc0) (H : octet_NewReader.f a0 = some r) :
    Calls Tryd.prog 19 [.slice pA0 a0.length pc0].toArray w0 fun e_ w_ => ∃ (o_ : Tags) (b_0 : Nat) (rv0_1 : Value), e_ = .returned (one [.pointer (some ⟨b_0, 0, none⟩)]) ∧ Step o0 w0 o_ w_ [] ∧ Bk o_ w_ 9 b_0 [.bool r.f_made, rv0_1] 68 ∧ Own Rep.u8 5 8 o_ w_ rv0_1 r.f_left := by
  have HF := Fm.refl hO []
  unfold octet_NewReader.f at H
  refine SX.calls [.slice pA0 a0.length pc0] Tryd.func19 rfl rfl ?_
  rw [Tryd.ntmps19]
  refine WC.seq ?_
  refine WC.region ?_
  refine WL.ex rfl (ex_assign (v := .pointer none) rfl) ?_
  refine WL.nil ?_
  refine WC.seq ?_
  refine WC.region ?_
  refine WL.ex rfl (ex_move (v := .slice pA0 a0.length pc0) rfl) ?_
  obtain ⟨z101, hz101, H⟩ := bindE H
  refine WL.op rfl ?_
  refine OW.call [.slice pA0 a0.length pc0] rfl Tryd.func41 (by kernel_rfl) (by kernel_rfl) (map_cons' rfl rfl) (bytes_Clone.calls _ _ pA0 pc0 a0 z101 (HF.ten (V := [0]) (L := []) rfl) (Row.vw (V := [0]) (L := []) hra0 rfl) hla0 hz101) ?_
  rintro _ w102 ⟨o103, v105, rfl, s104, hO106⟩
  refine ⟨_, rfl, ?_⟩
  replace hO106 := Own.un9 (J := [10]) 0 hO106 rfl s104 rfl rfl
  replace s104 := un_stepL (J := [10]) (L' := []) s104 rfl rfl
  replace hra0 := hra0.step s104 rfl
  replace HF := HF.step s104 rfl
  refine WL.ex rfl (ex_build (cs := [.bool true, v105]) [(0, 1), (1, 1)] [(0, .bool true), (1, v105)] [.bool false, .slice none 0 0] Tryd.underlying68 zr68 rfl (by kernel_rfl) (evs_cons rfl (evs_cons rfl rfl)) (by simp only [List.map_cons, List.map_nil, Own.cells1 hO106] <;> rfl)) ?_
  refine WL.op rfl ?_
  refine OW.box' [.bool true, v105] 11 HF rfl ((congrArg Value.cells (show ev _ _ = (.agg #[.bool true, v105] : Value) from rfl)).trans rfl) ?_
  intro o108 w109 b107 s110 hB111
  replace hra0 := hra0.step s110 rfl
  replace hO106 := hO106.step s110 rfl rfl
  replace HF := HF.step s110 rfl
  refine WL.ex rfl (ex_assign (v := .pointer (some ⟨b107, 0, none⟩)) rfl) ?_
  refine WL.nil ?_
  refine WC.ret ?_
  obtain rfl := Option.some.inj H
  replace hB111 := Bk.renTo (j := 9) hB111
  replace hO106 := Own.ren (i := 11) (j := 9) hO106 rfl rfl
  replace HF := HF.ren (i := 11) (j := 9) rfl
  replace hB111 := Bk.ren (i := 10) (j := 8) hB111 rfl
  replace hO106 := Own.renTo (j := 8) hO106 rfl
  replace HF := HF.ren (i := 10) (j := 8) rfl
  exact ⟨_, (.tmp (.pointer (some ⟨b107, 0, none⟩) : Value) rfl .nil), _, b107, v105, rfl, HF.out, hB111, hO106⟩

/-! ### octet_Reader_alive -/
set_option maxRecDepth 100000 in
theorem octet_Reader_alive.calls (o0 : Tags) (w0 : World) (pb0 : Nat) (pA0_1 : Option Addr) (pc0_1 : Nat) (a0 : T_octet_Reader) (r : Bool) (hO : ∀ b, b < w0.heap.size → o0 b < 10) (hB0 : Bk o0 w0 2 pb0 [.bool a0.f_made, .slice pA0_1 a0.f_left.length pc0_1] 68) (hra0_1 : Row Rep.u8 (fun b_ => o0 b_ = 0) (fun b_ => o0 b_ = 0) w0 pA0_1 a0.f_left) (hla0_1 : a0.f_left.length ≤ pc0_1) (H : octet_Reader_alive.f a0 = some r) :
    Calls Tryd.prog 43 [.pointer (some ⟨pb0, 0, none⟩)].toArray w0 fun e_ w_ => ∃ (o_ : Tags), e_ = .returned (one [.bool r]) ∧ Step o0 w0 o_ w_ [] := by
  have HF := Fm.refl hO []
  unfold octet_Reader_alive.f at H
  refine SX.calls [.pointer (some ⟨pb0, 0, none⟩)] Tryd.func43 rfl rfl ?_
  rw [Tryd.ntmps43]
  refine WC.seq ?_
  refine WC.region ?_
  refine WL.ex rfl (ex_assign (v := .bool false) rfl) ?_
  refine WL.nil ?_
  refine WC.seq ?_
  refine WC.region ?_
  refine WL.ex rfl (ex_move (v := .pointer (some ⟨pb0, 0, none⟩)) rfl) ?_
  refine WL.ex rfl (ex_bin (a := .pointer (some ⟨pb0, 0, none⟩)) (b := .pointer none) (v := .bool true) rfl rfl (bin_neq_ptrSN Tryd.underlying48)) ?_
  refine WL.ex rfl (ex_move (v := .bool true) rfl) ?_
  refine WL.guardYes rfl rfl rfl rfl ?_
  refine OW.ex rfl (ex_move (v := .pointer (some ⟨pb0, 0, none⟩)) rfl) ?_
  refine WL.guardYes rfl rfl rfl rfl ?_
  refine OW.ex rfl (ex_nilCheck rfl) ?_
  refine WL.guardYes rfl rfl rfl rfl ?_
  refine OW.ex rfl (ex_fieldAddr rfl Tryd.underlying68 rfl sz4) ?_
  refine WL.guardYes rfl rfl rfl rfl ?_
  refine OW.ex rfl (ex_load1 (v := .bool a0.f_made) rfl Tryd.underlying4 rfl (hB0.cell rfl)) ?_
  refine WL.ex rfl (ex_pick_t (v := .bool a0.f_made) rfl rfl) ?_
  refine WL.ex rfl (ex_assign (v := .bool a0.f_made) rfl) ?_
  refine WL.nil ?_
  refine WC.ret ?_
  obtain rfl := Option.some.inj H
  exact ⟨_, (.tmp (.bool a0.f_made : Value) rfl .nil), _, rfl, HF.out⟩

/-! ### octet_Reader_U8 -/
set_option maxRecDepth 100000 in
theorem octet_Reader_U8.calls (o0 : Tags) (w0 : World) (pb0 : Nat) (pA0_1 : Option Addr) (pc0_1 : Nat) (a0 : T_octet_Reader) (r : UInt8 × Int × T_octet_Reader) (hO : ∀ b, b < w0.heap.size → o0 b < 10) (hB0 : Bk o0 w0 2 pb0 [.bool a0.f_made, .slice pA0_1 a0.f_left.length pc0_1] 68) (hra0_1 : Row Rep.u8 (fun b_ => o0 b_ = 0) (fun b_ => o0 b_ = 0) w0 pA0_1 a0.f_left) (hla0_1 : a0.f_left.length ≤ pc0_1) (H : octet_Reader_U8.f a0 = some r) :
    Calls Tryd.prog 20 [.pointer (some ⟨pb0, 0, none⟩)].toArray w0 fun e_ w_ => ∃ (o_ : Tags) (B_0_1 : Option Addr) (d_0_1 : Nat), e_ = .returned (one [enc8 r.1, .int .i64 r.2.1]) ∧ Step o0 w0 o_ w_ [2] ∧ Bk o_ w_ 2 pb0 [.bool r.2.2.f_made, .slice B_0_1 r.2.2.f_left.length d_0_1] 68 ∧ r.2.2.f_left.length ≤ d_0_1 ∧ Row Rep.u8 (fun b_ => o_ b_ = 0) (fun b_ => o_ b_ = 0) w_ B_0_1 r.2.2.f_left := by
  have HF := Fm.refl hO [2]
  unfold octet_Reader_U8.f at H
  refine SX.calls [.pointer (some ⟨pb0, 0, none⟩)] Tryd.func20 rfl rfl ?_
  rw [Tryd.ntmps20]
  refine WC.seq ?_
  refine WC.region ?_
  refine WL.ex rfl (ex_assign (v := enc8 (0 : UInt8)) rfl) ?_
  refine WL.ex rfl (ex_assign (v := .int .i64 0) rfl) ?_
  refine WL.nil ?_
  refine WC.seq ?_
  refine WC.block ?_
  refine WC.seq ?_
  refine WC.region ?_
  refine WL.ex rfl (ex_move (v := .pointer (some ⟨pb0, 0, none⟩)) rfl) ?_
  obtain ⟨z101, hz101, H⟩ := bindE H
  refine WL.op rfl ?_
  refine OW.call [.pointer (some ⟨pb0, 0, none⟩)] rfl Tryd.func43 (by kernel_rfl) (by kernel_rfl) (map_cons' rfl rfl) (octet_Reader_alive.calls _ _ pb0 pA0_1 pc0_1 a0 z101 (HF.ten (V := [0]) (L := [2]) rfl) (Bk.vw (V := [0]) (L := [2]) hB0 rfl) (Row.vw (V := [0]) (L := [2]) hra0_1 rfl) hla0_1 hz101) ?_
  rintro _ w102 ⟨o103, rfl, s104⟩
  refine ⟨_, rfl, ?_⟩
  replace s104 := un_stepL (J := []) (L' := []) s104 rfl rfl
  replace hra0_1 := hra0_1.step s104 rfl
  replace hB0 := hB0.step s104 rfl
  replace HF := HF.step s104 rfl
  refine WL.ex rfl (ex_not (b := z101) rfl) ?_
  refine WL.ex rfl (ex_assign (v := .bool (!z101)) rfl) ?_
  refine WL.nil ?_
  rcases condE H with ⟨c105, H⟩ | ⟨c105, H⟩
  ·
    refine WC.cond_t ((show _ = Value.bool (!z101) from rfl).trans (congrArg Value.bool c105)) ?_
    refine WC.seq ?_
    refine WC.region ?_
    refine WL.ex rfl (ex_assign (v := enc8 (0 : UInt8)) rfl) ?_
    refine WL.ex rfl (ex_assign (v := .int .i64 1) rfl) ?_
    refine WL.nil ?_
    refine WC.ret ?_
    obtain rfl := Option.some.inj H
    exact ⟨_, (.tmp (enc8 (0 : UInt8) : Value) rfl (.tmp (.int .i64 1 : Value) rfl .nil)), _, pA0_1, pc0_1, rfl, HF.out, hB0, hla0_1, hra0_1⟩
  ·
    refine WC.cond_f ((show _ = Value.bool (!z101) from rfl).trans (congrArg Value.bool c105)) ?_
    refine WC.seq ?_
    refine WC.region ?_
    refine WL.ex rfl (ex_move (v := .pointer (some ⟨pb0, 0, none⟩)) rfl) ?_
    refine WL.ex rfl (ex_nilCheck rfl) ?_
    refine WL.ex rfl (ex_fieldAddr rfl Tryd.underlying68 rfl sz24) ?_
    refine WL.ex rfl (ex_load1 (v := .slice pA0_1 a0.f_left.length pc0_1) rfl Tryd.underlying24 rfl (hB0.cell rfl)) ?_
    refine WL.ex rfl (ex_len_slice (A := pA0_1) (m := a0.f_left.length) (c := pc0_1) rfl Tryd.underlying24) ?_
    refine WL.ex rfl (ex_bin (a := .int .i64 (a0.f_left.length : Int)) (b := .int .i64 0) (v := .bool ((a0.f_left.length : Int) == 0)) rfl rfl bin_eql) ?_
    refine WL.ex rfl (ex_assign (v := .bool ((a0.f_left.length : Int) == 0)) rfl) ?_
    refine WL.nil ?_
    rcases condE H with ⟨c106, H⟩ | ⟨c106, H⟩
    ·
      refine WC.cond_t ((show _ = Value.bool ((a0.f_left.length : Int) == 0) from rfl).trans (congrArg Value.bool c106)) ?_
      refine WC.seq ?_
      refine WC.region ?_
      refine WL.ex rfl (ex_assign (v := enc8 (0 : UInt8)) rfl) ?_
      refine WL.ex rfl (ex_assign (v := .int .i64 10) rfl) ?_
      refine WL.nil ?_
      refine WC.ret ?_
      obtain rfl := Option.some.inj H
      exact ⟨_, (.tmp (enc8 (0 : UInt8) : Value) rfl (.tmp (.int .i64 10 : Value) rfl .nil)), _, pA0_1, pc0_1, rfl, HF.out, hB0, hla0_1, hra0_1⟩
    ·
      refine WC.cond_f ((show _ = Value.bool ((a0.f_left.length : Int) == 0) from rfl).trans (congrArg Value.bool c106)) ?_
      refine WC.skip ?_
      refine WC.seq ?_
      refine WC.region ?_
      refine WL.ex rfl (ex_move (v := .pointer (some ⟨pb0, 0, none⟩)) rfl) ?_
      refine WL.ex rfl (ex_nilCheck rfl) ?_
      refine WL.ex rfl (ex_fieldAddr rfl Tryd.underlying68 rfl sz24) ?_
      refine WL.ex rfl (ex_load1 (v := .slice pA0_1 a0.f_left.length pc0_1) rfl Tryd.underlying24 rfl (hB0.cell rfl)) ?_
      obtain ⟨x107, hx107, H⟩ := bindE H
      obtain ⟨ad108, e109, g110, g111, cell112⟩ := Row.ixS hra0_1 hx107
      refine WL.ex rfl (ex_indexAddr (i := (0 : Int)) rfl e109 rfl Tryd.underlying24 sz5 g110 g111) ?_
      refine WL.ex rfl (ex_load1 (v := enc8 x107) rfl Tryd.underlying5 rfl cell112) ?_
      refine WL.ex rfl (ex_assign (v := enc8 x107) rfl) ?_
      refine WL.nil ?_
      refine WC.seq ?_
      refine WC.region ?_
      refine WL.ex rfl (ex_move (v := .pointer (some ⟨pb0, 0, none⟩)) rfl) ?_
      refine WL.ex rfl (ex_move (v := .pointer (some ⟨pb0, 0, none⟩)) rfl) ?_
      refine WL.ex rfl (ex_nilCheck rfl) ?_
      refine WL.ex rfl (ex_fieldAddr rfl Tryd.underlying68 rfl sz24) ?_
      refine WL.ex rfl (ex_load1 (v := .slice pA0_1 a0.f_left.length pc0_1) rfl Tryd.underlying24 rfl (hB0.cell rfl)) ?_
      obtain ⟨y114, hy114, H⟩ := bindE H
      have hr116 := Row.cut hra0_1 hla0_1 hy114
      obtain ⟨A117, el120⟩ : ∃ A_, A_ = subA pA0_1 pc0_1 (1 : Int).toNat 1 := ⟨_, rfl⟩
      rw [show subA pA0_1 pc0_1 (1 : Int).toNat Rep.u8.sz = A117 from el120.symm] at hr116
      have hl119 : y114.length ≤ pc0_1 - (1 : Int).toNat := cut_le hla0_1 hy114
      refine WL.ex rfl (ex_slice' (l := 1) (h := (a0.f_left.length : Int)) rfl Tryd.underlying24 sz5 ⟨_, rfl⟩ rfl (cut_low hy114) (cut_mid hy114) (cut_cap hla0_1 hy114) el120 (cut_len hy114)) ?_
      refine WL.ex rfl (ex_nilCheck rfl) ?_
      refine WL.ex rfl (ex_fieldAddr rfl Tryd.underlying68 rfl sz24) ?_
      refine WL.op rfl ?_
      refine OW.store [.bool a0.f_made, .slice A117 y114.length (pc0_1 - (1 : Int).toNat)] rfl (vs := [.slice A117 y114.length (pc0_1 - (1 : Int).toNat)]) ((congrArg Value.cells (show ev _ _ = (.slice A117 y114.length (pc0_1 - (1 : Int).toNat) : Value) from rfl)).trans rfl) sz24 hB0 (Nat.le_of_ble_eq_true rfl) (by intro u_ hu_; simp only [List.mem_cons, List.not_mem_nil, or_false] at hu_; rcases hu_ with rfl; first | rfl) rfl ?_
      intro w121 s122 hB123
      replace hra0_1 := hra0_1.step s122 rfl
      replace hr116 := hr116.step s122 rfl
      replace HF := HF.step s122 rfl
      refine WL.nil ?_
      refine WC.seq ?_
      refine WC.region ?_
      refine WL.ex rfl (ex_move (v := enc8 x107) rfl) ?_
      refine WL.ex rfl (ex_assign (v := enc8 x107) rfl) ?_
      refine WL.ex rfl (ex_assign (v := .int .i64 0) rfl) ?_
      refine WL.nil ?_
      refine WC.ret ?_
      obtain rfl := Option.some.inj H
      exact ⟨_, (.tmp (enc8 x107 : Value) rfl (.tmp (.int .i64 0 : Value) rfl .nil)), _, A117, (pc0_1 - (1 : Int).toNat), rfl, HF.out, hB123, hl119, hr116⟩

/-! ### octet_Reader_Num -/
set_option maxRecDepth 100000 in
theorem octet_Reader_Num.calls (k : Nat) (o0 : Tags) (w0 : World) (pb0 : Nat) (pA0_1 : Option Addr) (pc0_1 : Nat) (a0 : T_octet_Reader) (r : UInt64 × Int × T_octet_Reader) (hO : ∀ b, b < w0.heap.size → o0 b < 10) (hB0 : Bk o0 w0 2 pb0 [.bool a0.f_made, .slice pA0_1 a0.f_left.length pc0_1] 68) (hra0_1 : Row Rep.u8 (fun b_ => o0 b_ = 0) (fun b_ => o0 b_ = 0) w0 pA0_1 a0.f_left) (hla0_1 : a0.f_left.length ≤ pc0_1) (H : octet_Reader_Num.f k a0 = some r) :
    Calls Tryd.prog 21 [.pointer (some ⟨pb0, 0, none⟩)].toArray w0 fun e_ w_ => ∃ (o_ : Tags) (B_0_1 : Option Addr) (d_0_1 : Nat), e_ = .returned (one [enc64 r.1, .int .i64 r.2.1]) ∧ Step o0 w0 o_ w_ [2] ∧ Bk o_ w_ 2 pb0 [.bool r.2.2.f_made, .slice B_0_1 r.2.2.f_left.length d_0_1] 68 ∧ r.2.2.f_left.length ≤ d_0_1 ∧ Row Rep.u8 (fun b_ => o_ b_ = 0) (fun b_ => o_ b_ = 0) w_ B_0_1 r.2.2.f_left := by
  have HF := Fm.refl hO [2]
  unfold octet_Reader_Num.f at H
  refine SX.calls [.pointer (some ⟨pb0, 0, none⟩)] Tryd.func21 rfl rfl ?_
  rw [Tryd.ntmps21]
  refine WC.seq ?_
  refine WC.region ?_
  refine WL.ex rfl (ex_assign (v := enc64 (0 : UInt64)) rfl) ?_
  refine WL.ex rfl (ex_assign (v := .int .i64 0) rfl) ?_
  refine WL.nil ?_
  refine WC.seq ?_
  refine WC.seq ?_
  refine WC.region ?_
  refine WL.ex rfl (ex_move (v := .pointer (some ⟨pb0, 0, none⟩)) rfl) ?_
  obtain ⟨z101, hz101, H⟩ := bindE H
  refine WL.op rfl ?_
  refine OW.call [.pointer (some ⟨pb0, 0, none⟩)] rfl Tryd.func43 (by kernel_rfl) (by kernel_rfl) (map_cons' rfl rfl) (octet_Reader_alive.calls _ _ pb0 pA0_1 pc0_1 a0 z101 (HF.ten (V := [0]) (L := [2]) rfl) (Bk.vw (V := [0]) (L := [2]) hB0 rfl) (Row.vw (V := [0]) (L := [2]) hra0_1 rfl) hla0_1 hz101) ?_
  rintro _ w102 ⟨o103, rfl, s104⟩
  refine ⟨_, rfl, ?_⟩
  replace s104 := un_stepL (J := []) (L' := []) s104 rfl rfl
  replace hra0_1 := hra0_1.step s104 rfl
  replace hB0 := hB0.step s104 rfl
  replace HF := HF.step s104 rfl
  refine WL.ex rfl (ex_not (b := z101) rfl) ?_
  refine WL.nil ?_
  rcases condE H with ⟨c105, H⟩ | ⟨c105, H⟩
  ·
    refine WC.cond_t ((show _ = Value.bool (!z101) from rfl).trans (congrArg Value.bool c105)) ?_
    refine WC.seq ?_
    refine WC.region ?_
    refine WL.ex rfl (ex_assign (v := enc64 (0 : UInt64)) rfl) ?_
    refine WL.ex rfl (ex_assign (v := .int .i64 1) rfl) ?_
    refine WL.nil ?_
    refine WC.ret ?_
    obtain rfl := Option.some.inj H
    exact ⟨_, (.tmp (enc64 (0 : UInt64) : Value) rfl (.tmp (.int .i64 1 : Value) rfl .nil)), _, pA0_1, pc0_1, rfl, HF.out, hB0, hla0_1, hra0_1⟩
  ·
    refine WC.cond_f ((show _ = Value.bool (!z101) from rfl).trans (congrArg Value.bool c105)) ?_
    refine WC.skip ?_
    refine WC.seq ?_
    refine WC.region ?_
    refine WL.ex rfl (ex_assign (v := enc64 (0 : UInt64)) rfl) ?_
    refine WL.nil ?_
    refine WC.seq ?_
    refine WC.seq ?_
    refine WC.region ?_
    refine WL.ex rfl (ex_move (v := .pointer (some ⟨pb0, 0, none⟩)) rfl) ?_
    refine WL.ex rfl (ex_nilCheck rfl) ?_
    refine WL.ex rfl (ex_fieldAddr rfl Tryd.underlying68 rfl sz24) ?_
    refine WL.ex rfl (ex_load1 (v := .slice pA0_1 a0.f_left.length pc0_1) rfl Tryd.underlying24 rfl (hB0.cell rfl)) ?_
    refine WL.ex rfl (ex_len_slice (A := pA0_1) (m := a0.f_left.length) (c := pc0_1) rfl Tryd.underlying24) ?_
    refine WL.ex rfl (ex_move (v := .int .i64 0) rfl) ?_
    refine WL.nil ?_
    obtain ⟨z108, hz108, H⟩ := bindE H
    refine WC.for (fun k_ ρ_ w_ => ∃ (o_ : Tags) (x106 : UInt64) (x107 : Int), Fm o0 w0 o_ w_ [2] ∧ Row Rep.u8 (fun b_ => o_ b_ = 0) (fun b_ => o_ b_ = 0) w_ pA0_1 a0.f_left ∧ Bk o_ w_ 2 pb0 [.bool a0.f_made, .slice pA0_1 a0.f_left.length pc0_1] 68 ∧ ρ_ 0 = .pointer (some ⟨pb0, 0, none⟩) ∧ ρ_ 2 = enc64 (0 : UInt64) ∧ ρ_ 3 = .int .i64 0 ∧ ρ_ 4 = enc64 x106 ∧ ρ_ 13 = .slice pA0_1 a0.f_left.length pc0_1 ∧ ρ_ 14 = .int .i64 (a0.f_left.length : Int) ∧ ρ_ 15 = .int .i64 x107 ∧ octet_Reader_Num.l1 k a0 k_ x106 x107 = some z108) k (fun ρ_ w_ => ∃ (o_ : Tags), Fm o0 w0 o_ w_ [2] ∧ Bk o_ w_ 2 pb0 [.bool a0.f_made, .slice pA0_1 a0.f_left.length pc0_1] 68 ∧ Row Rep.u8 (fun b_ => o_ b_ = 0) (fun b_ => o_ b_ = 0) w_ pA0_1 a0.f_left ∧ ρ_ 2 = enc64 (0 : UInt64) ∧ ρ_ 3 = .int .i64 0 ∧ z108 = .inr ()) ⟨_, (0 : UInt64), 0, HF, hra0_1, hB0, rfl, rfl, rfl, rfl, rfl, rfl, rfl, hz108⟩ ?case109 ?_
    case case109 =>
      rintro ρ155 w153 ⟨o154, HF, hB0, hra0_1, s2_107, s3_107, rfl⟩
      dsimp only at H
      refine WC.seq ?_
      refine WC.region ?_
      refine WL.ex rfl (ex_assign (v := enc64 (0 : UInt64)) rfl) ?_
      refine WL.ex rfl (ex_assign (v := .int .i64 10) rfl) ?_
      refine WL.nil ?_
      refine WC.ret ?_
      obtain rfl := Option.some.inj H
      exact ⟨_, (.tmp (enc64 (0 : UInt64) : Value) rfl (.tmp (.int .i64 10 : Value) rfl .nil)), _, pA0_1, pc0_1, rfl, HF.out, hB0, hla0_1, hra0_1⟩
    have Ho110 := H
    rintro k111 ρ112 w113 ⟨o114, x106, x107, HF, hra0_1, hB0, s0_105, s2_105, s3_105, s4_106, s13_106, s14_106, s15_107, H⟩
    cases k111 with
    | zero => cases H
    | succ k111 =>
    rw [octet_Reader_Num.l1.eq_2] at H
    refine WC.seq ?_
    refine WC.region ?_
    refine WL.ex rfl (ex_bin (a := .int .i64 x107) (b := .int .i64 (a0.f_left.length : Int)) (v := .bool (decide (x107 < (a0.f_left.length : Int)))) s15_107 s14_106 bin_lss) ?_
    refine WL.nil ?_
    refine WC.seq ?_
    rcases condE H with ⟨c115, H⟩ | ⟨c115, H⟩
    ·
      refine WC.cond_t ((show _ = Value.bool (decide (x107 < (a0.f_left.length : Int))) from rfl).trans (congrArg Value.bool c115)) ?_
      refine WC.skip ?_
      refine WC.seq ?_
      refine WC.block ?_
      refine WC.seq ?_
      refine WC.region ?_
      refine WL.ex rfl (ex_move (v := .int .i64 x107) s15_107) ?_
      obtain ⟨x116, hx116, H⟩ := bindE H
      obtain ⟨ad117, e118, g119, g120, cell121⟩ := Row.ixS hra0_1 hx116
      refine WL.ex rfl (ex_indexAddr (i := x107) s13_106 e118 s15_107 Tryd.underlying24 sz5 g119 g120) ?_
      refine WL.ex rfl (ex_load1 (v := enc8 x116) rfl Tryd.underlying5 rfl cell121) ?_
      refine WL.ex rfl (ex_assign (v := .int .i64 x107) rfl) ?_
      refine WL.ex rfl (ex_assign (v := enc8 x116) rfl) ?_
      refine WL.nil ?_
      refine WC.seq ?_
      obtain ⟨z124, hz124, H⟩ := bindE H
      refine WC.cut (fun ρ_ w_ => ∃ (o_ : Tags), Fm o0 w0 o_ w_ [2] ∧ Row Rep.u8 (fun b_ => o_ b_ = 0) (fun b_ => o_ b_ = 0) w_ pA0_1 a0.f_left ∧ Bk o_ w_ 2 pb0 [.bool a0.f_made, .slice pA0_1 a0.f_left.length pc0_1] 68 ∧ ρ_ 0 = .pointer (some ⟨pb0, 0, none⟩) ∧ ρ_ 2 = enc64 (0 : UInt64) ∧ ρ_ 3 = .int .i64 0 ∧ ρ_ 4 = enc64 x106 ∧ ρ_ 5 = .int .i64 x107 ∧ ρ_ 6 = enc8 x116 ∧ ρ_ 13 = .slice pA0_1 a0.f_left.length pc0_1 ∧ ρ_ 14 = .int .i64 (a0.f_left.length : Int) ∧ ρ_ 15 = .int .i64 x107 ∧ ρ_ 25 = .bool z124) ?case125 ?_
      case case125 =>
        rintro ρ128 w126 ⟨o127, HF, hra0_1, hB0, s0_122, s2_122, s3_122, s4_122, s5_122, s6_122, s13_122, s14_122, s15_122, s25_123⟩
        rcases condE H with ⟨c129, H⟩ | ⟨c129, H⟩
        ·
          refine WC.cond_t ((show _ = Value.bool z124 from s25_123).trans (congrArg Value.bool c129)) ?_
          refine WC.seq ?_
          refine WC.region ?_
          refine WL.ex rfl (ex_assign (v := enc64 (0 : UInt64)) rfl) ?_
          refine WL.ex rfl (ex_assign (v := .int .i64 11) rfl) ?_
          refine WL.nil ?_
          refine WC.ret ?_
          obtain rfl := Option.some.inj H
          replace H := Ho110
          dsimp only at H
          obtain rfl := Option.some.inj H
          exact ⟨_, (.tmp (enc64 (0 : UInt64) : Value) rfl (.tmp (.int .i64 11 : Value) rfl .nil)), _, pA0_1, pc0_1, rfl, HF.out, hB0, hla0_1, hra0_1⟩
        ·
          refine WC.cond_f ((show _ = Value.bool z124 from s25_123).trans (congrArg Value.bool c129)) ?_
          refine WC.skip ?_
          refine WC.seq ?_
          refine WC.region ?_
          refine WL.ex rfl (ex_move (v := enc64 x106) s4_122) ?_
          refine WL.ex rfl (ex_move (v := enc8 x116) s6_122) ?_
          refine WL.ex rfl (ex_bin (a := enc8 x116) (b := enc8 (127 : UInt8)) (v := enc8 (x116 &&& (127 : UInt8))) rfl rfl bin_and_u8) ?_
          refine WL.ex rfl (ex_conv_u64 (k := .u8) (a := ((x116 &&& (127 : UInt8)).toNat : Int)) rfl Tryd.underlying5 Tryd.underlying29) ?_
          refine WL.ex rfl (ex_move (v := .int .i64 x107) s5_122) ?_
          refine WL.ex rfl (ex_bin (a := .int .i64 7) (b := .int .i64 x107) (v := .int .i64 (wrap64 (7 * x107))) rfl rfl bin_mul64) ?_
          obtain ⟨u130, hu130, H⟩ := bindE H
          refine WL.ex rfl (ex_bin (a := enc64 (ofI64 ((x116 &&& (127 : UInt8)).toNat : Int))) (b := .int .i64 (wrap64 (7 * x107))) (v := enc64 (shl64 (ofI64 ((x116 &&& (127 : UInt8)).toNat : Int)) (wrap64 (7 * x107)).toNat)) rfl rfl (bin_shl_u64 (of_decide_eq_true (chk_true hu130)))) ?_
          refine WL.ex rfl (ex_bin (a := enc64 x106) (b := enc64 (shl64 (ofI64 ((x116 &&& (127 : UInt8)).toNat : Int)) (wrap64 (7 * x107)).toNat)) (v := enc64 (x106 ||| (shl64 (ofI64 ((x116 &&& (127 : UInt8)).toNat : Int)) (wrap64 (7 * x107)).toNat))) rfl rfl bin_or_u64) ?_
          refine WL.ex rfl (ex_assign (v := enc64 (x106 ||| (shl64 (ofI64 ((x116 &&& (127 : UInt8)).toNat : Int)) (wrap64 (7 * x107)).toNat))) rfl) ?_
          refine WL.nil ?_
          refine WC.seq ?_
          refine WC.region ?_
          refine WL.ex rfl (ex_move (v := enc8 x116) s6_122) ?_
          refine WL.ex rfl (ex_bin (a := enc8 x116) (b := enc8 (128 : UInt8)) (v := .bool (decide (x116 < (128 : UInt8)))) rfl rfl bin_lss_u8) ?_
          refine WL.nil ?_
          rcases condE H with ⟨c131, H⟩ | ⟨c131, H⟩
          ·
            refine WC.cond_t ((show _ = Value.bool (decide (x116 < (128 : UInt8))) from rfl).trans (congrArg Value.bool c131)) ?_
            refine WC.seq ?_
            obtain ⟨z133, hz133, H⟩ := bindE H
            refine WC.cut (fun ρ_ w_ => ∃ (o_ : Tags), Fm o0 w0 o_ w_ [2] ∧ Row Rep.u8 (fun b_ => o_ b_ = 0) (fun b_ => o_ b_ = 0) w_ pA0_1 a0.f_left ∧ Bk o_ w_ 2 pb0 [.bool a0.f_made, .slice pA0_1 a0.f_left.length pc0_1] 68 ∧ ρ_ 0 = .pointer (some ⟨pb0, 0, none⟩) ∧ ρ_ 2 = enc64 (0 : UInt64) ∧ ρ_ 3 = .int .i64 0 ∧ ρ_ 4 = enc64 (x106 ||| (shl64 (ofI64 ((x116 &&& (127 : UInt8)).toNat : Int)) (wrap64 (7 * x107)).toNat)) ∧ ρ_ 5 = .int .i64 x107 ∧ ρ_ 13 = .slice pA0_1 a0.f_left.length pc0_1 ∧ ρ_ 14 = .int .i64 (a0.f_left.length : Int) ∧ ρ_ 15 = .int .i64 x107 ∧ ρ_ 41 = .bool z133) ?case134 ?_
            case case134 =>
              rintro ρ137 w135 ⟨o136, HF, hra0_1, hB0, s0_131, s2_131, s3_131, s4_131, s5_131, s13_131, s14_131, s15_131, s41_132⟩
              rcases condE H with ⟨c138, H⟩ | ⟨c138, H⟩
              ·
                refine WC.cond_t ((show _ = Value.bool z133 from s41_132).trans (congrArg Value.bool c138)) ?_
                refine WC.seq ?_
                refine WC.region ?_
                refine WL.ex rfl (ex_assign (v := enc64 (0 : UInt64)) rfl) ?_
                refine WL.ex rfl (ex_assign (v := .int .i64 11) rfl) ?_
                refine WL.nil ?_
                refine WC.ret ?_
                obtain rfl := Option.some.inj H
                replace H := Ho110
                dsimp only at H
                obtain rfl := Option.some.inj H
                exact ⟨_, (.tmp (enc64 (0 : UInt64) : Value) rfl (.tmp (.int .i64 11 : Value) rfl .nil)), _, pA0_1, pc0_1, rfl, HF.out, hB0, hla0_1, hra0_1⟩
              ·
                refine WC.cond_f ((show _ = Value.bool z133 from s41_132).trans (congrArg Value.bool c138)) ?_
                refine WC.skip ?_
                refine WC.seq ?_
                refine WC.region ?_
                refine WL.ex rfl (ex_move (v := .pointer (some ⟨pb0, 0, none⟩)) s0_131) ?_
                refine WL.ex rfl (ex_move (v := .pointer (some ⟨pb0, 0, none⟩)) s0_131) ?_
                refine WL.ex rfl (ex_nilCheck rfl) ?_
                refine WL.ex rfl (ex_fieldAddr rfl Tryd.underlying68 rfl sz24) ?_
                refine WL.ex rfl (ex_load1 (v := .slice pA0_1 a0.f_left.length pc0_1) rfl Tryd.underlying24 rfl (hB0.cell rfl)) ?_
                refine WL.ex rfl (ex_move (v := .int .i64 x107) s5_131) ?_
                refine WL.ex rfl (ex_bin (a := .int .i64 x107) (b := .int .i64 1) (v := .int .i64 (wrap64 (x107 + 1))) rfl rfl bin_add64) ?_
                obtain ⟨y139, hy139, H⟩ := bindE H
                have hr141 := Row.cut hra0_1 hla0_1 hy139
                obtain ⟨A142, el145⟩ : ∃ A_, A_ = subA pA0_1 pc0_1 (wrap64 (x107 + 1) : Int).toNat 1 := ⟨_, rfl⟩
                rw [show subA pA0_1 pc0_1 (wrap64 (x107 + 1) : Int).toNat Rep.u8.sz = A142 from el145.symm] at hr141
                have hl144 : y139.length ≤ pc0_1 - (wrap64 (x107 + 1) : Int).toNat := cut_le hla0_1 hy139
                refine WL.ex rfl (ex_slice' (l := (wrap64 (x107 + 1))) (h := (a0.f_left.length : Int)) rfl Tryd.underlying24 sz5 ⟨_, rfl⟩ rfl (cut_low hy139) (cut_mid hy139) (cut_cap hla0_1 hy139) el145 (cut_len hy139)) ?_
                refine WL.ex rfl (ex_nilCheck rfl) ?_
                refine WL.ex rfl (ex_fieldAddr rfl Tryd.underlying68 rfl sz24) ?_
                refine WL.op rfl ?_
                refine OW.store [.bool a0.f_made, .slice A142 y139.length (pc0_1 - (wrap64 (x107 + 1) : Int).toNat)] rfl (vs := [.slice A142 y139.length (pc0_1 - (wrap64 (x107 + 1) : Int).toNat)]) ((congrArg Value.cells (show ev _ _ = (.slice A142 y139.length (pc0_1 - (wrap64 (x107 + 1) : Int).toNat) : Value) from rfl)).trans rfl) sz24 hB0 (Nat.le_of_ble_eq_true rfl) (by intro u_ hu_; simp only [List.mem_cons, List.not_mem_nil, or_false] at hu_; rcases hu_ with rfl; first | rfl) rfl ?_
                intro w146 s147 hB148
                replace hra0_1 := hra0_1.step s147 rfl
                replace hr141 := hr141.step s147 rfl
                replace HF := HF.step s147 rfl
                refine WL.nil ?_
                refine WC.seq ?_
                refine WC.region ?_
                refine WL.ex rfl (ex_move (v := enc64 (x106 ||| (shl64 (ofI64 ((x116 &&& (127 : UInt8)).toNat : Int)) (wrap64 (7 * x107)).toNat))) s4_131) ?_
                refine WL.ex rfl (ex_assign (v := enc64 (x106 ||| (shl64 (ofI64 ((x116 &&& (127 : UInt8)).toNat : Int)) (wrap64 (7 * x107)).toNat))) rfl) ?_
                refine WL.ex rfl (ex_assign (v := .int .i64 0) rfl) ?_
                refine WL.nil ?_
                refine WC.ret ?_
                obtain rfl := Option.some.inj H
                replace H := Ho110
                dsimp only at H
                obtain rfl := Option.some.inj H
                exact ⟨_, (.tmp (enc64 (x106 ||| (shl64 (ofI64 ((x116 &&& (127 : UInt8)).toNat : Int)) (wrap64 (7 * x107)).toNat)) : Value) rfl (.tmp (.int .i64 0 : Value) rfl .nil)), _, A142, (pc0_1 - (wrap64 (x107 + 1) : Int).toNat), rfl, HF.out, hB148, hl144, hr141⟩
            have Ho149 := H
            replace H := hz133
            refine WC.region ?_
            refine WL.ex rfl (ex_move (v := enc8 x116) s6_122) ?_
            refine WL.ex rfl (ex_bin (a := enc8 x116) (b := enc8 (0 : UInt8)) (v := .bool (x116 == (0 : UInt8))) rfl rfl bin_eql_u8) ?_
            refine WL.ex rfl (ex_move (v := .bool (x116 == (0 : UInt8))) rfl) ?_
            rcases condE H with ⟨c150, H⟩ | ⟨c150, H⟩
            ·
              refine WL.guardYes rfl rfl rfl ((show _ = Value.bool (x116 == (0 : UInt8)) from rfl).trans (congrArg Value.bool c150)) ?_
              refine OW.ex rfl (ex_move (v := .int .i64 x107) s5_122) ?_
              refine WL.guardYes rfl rfl rfl ((show _ = Value.bool (x116 == (0 : UInt8)) from rfl).trans (congrArg Value.bool c150)) ?_
              refine OW.ex rfl (ex_bin (a := .int .i64 x107) (b := .int .i64 0) (v := .bool (decide (x107 > 0))) rfl rfl bin_gtr) ?_
              refine WL.ex rfl (ex_pick_t (v := .bool (decide (x107 > 0))) ((show _ = Value.bool (x116 == (0 : UInt8)) from rfl).trans (congrArg Value.bool c150)) rfl) ?_
              refine WL.nil ?_
              obtain rfl := Option.some.inj H
              exact ⟨_, HF, hra0_1, hB0, s0_122, s2_122, s3_122, rfl, s5_122, s13_122, s14_122, s15_122, rfl⟩
            ·
              refine WL.guardNo rfl rfl rfl ((show _ = Value.bool (x116 == (0 : UInt8)) from rfl).trans (congrArg Value.bool c150)) ?_
              refine WL.guardNo rfl rfl rfl ((show _ = Value.bool (x116 == (0 : UInt8)) from rfl).trans (congrArg Value.bool c150)) ?_
              refine WL.ex rfl (ex_pick_f (v := .bool false) ((show _ = Value.bool (x116 == (0 : UInt8)) from rfl).trans (congrArg Value.bool c150)) rfl) ?_
              refine WL.nil ?_
              obtain rfl := Option.some.inj H
              exact ⟨_, HF, hra0_1, hB0, s0_122, s2_122, s3_122, rfl, s5_122, s13_122, s14_122, s15_122, rfl⟩
          ·
            refine WC.cond_f ((show _ = Value.bool (decide (x116 < (128 : UInt8))) from rfl).trans (congrArg Value.bool c131)) ?_
            refine WC.skip ?_
            refine WC.region ?_
            refine WL.ex rfl (ex_bin (a := .int .i64 x107) (b := .int .i64 1) (v := .int .i64 (wrap64 (x107 + 1))) s15_122 rfl bin_add64) ?_
            refine WL.ex rfl (ex_move (v := .int .i64 (wrap64 (x107 + 1))) rfl) ?_
            refine WL.nil ?_
            exact ⟨k111, Nat.lt_succ_self _, ⟨_, (x106 ||| (shl64 (ofI64 ((x116 &&& (127 : UInt8)).toNat : Int)) (wrap64 (7 * x107)).toNat)), wrap64 (x107 + 1), HF, hra0_1, hB0, s0_122, s2_122, s3_122, rfl, s13_122, s14_122, rfl, H⟩⟩
      have Ho151 := H
      replace H := hz124
      refine WC.region ?_
      refine WL.ex rfl (ex_move (v := .int .i64 x107) rfl) ?_
      refine WL.ex rfl (ex_bin (a := .int .i64 x107) (b := .int .i64 9) (v := .bool (x107 == 9)) rfl rfl bin_eql) ?_
      refine WL.ex rfl (ex_move (v := .bool (x107 == 9)) rfl) ?_
      rcases condE H with ⟨c152, H⟩ | ⟨c152, H⟩
      ·
        refine WL.guardYes rfl rfl rfl ((show _ = Value.bool (x107 == 9) from rfl).trans (congrArg Value.bool c152)) ?_
        refine OW.ex rfl (ex_move (v := enc8 x116) rfl) ?_
        refine WL.guardYes rfl rfl rfl ((show _ = Value.bool (x107 == 9) from rfl).trans (congrArg Value.bool c152)) ?_
        refine OW.ex rfl (ex_bin (a := enc8 x116) (b := enc8 (1 : UInt8)) (v := .bool (decide ((1 : UInt8) < x116))) rfl rfl bin_gtr_u8) ?_
        refine WL.ex rfl (ex_pick_t (v := .bool (decide ((1 : UInt8) < x116))) ((show _ = Value.bool (x107 == 9) from rfl).trans (congrArg Value.bool c152)) rfl) ?_
        refine WL.nil ?_
        obtain rfl := Option.some.inj H
        exact ⟨_, HF, hra0_1, hB0, s0_105, s2_105, s3_105, s4_106, rfl, rfl, s13_106, s14_106, s15_107, rfl⟩
      ·
        refine WL.guardNo rfl rfl rfl ((show _ = Value.bool (x107 == 9) from rfl).trans (congrArg Value.bool c152)) ?_
        refine WL.guardNo rfl rfl rfl ((show _ = Value.bool (x107 == 9) from rfl).trans (congrArg Value.bool c152)) ?_
        refine WL.ex rfl (ex_pick_f (v := .bool false) ((show _ = Value.bool (x107 == 9) from rfl).trans (congrArg Value.bool c152)) rfl) ?_
        refine WL.nil ?_
        obtain rfl := Option.some.inj H
        exact ⟨_, HF, hra0_1, hB0, s0_105, s2_105, s3_105, s4_106, rfl, rfl, s13_106, s14_106, s15_107, rfl⟩
    ·
      refine WC.cond_f ((show _ = Value.bool (decide (x107 < (a0.f_left.length : Int))) from rfl).trans (congrArg Value.bool c115)) ?_
      refine WC.exit ?_
      obtain rfl := Option.some.inj H
      exact ⟨_, HF, hB0, hra0_1, s2_105, s3_105, rfl⟩

/-! ### dictumref01_TakeNum -/
set_option maxRecDepth 100000 in
theorem dictumref01_TakeNum.calls (k : Nat) (o0 : Tags) (w0 : World) (pA0 : Option Addr) (pc0 : Nat) (a0 : (List UInt8)) (r : UInt64 × Int × Int) (hO : ∀ b, b < w0.heap.size → o0 b < 10) (hra0 : Row Rep.u8 (fun b_ => o0 b_ = 0) (fun b_ => o0 b_ = 0) w0 pA0 a0) (hla0 : a0.length ≤ pc0) (H : dictumref01_TakeNum.f k a0 = some r) :
    Calls Tryd.prog 22 [.slice pA0 a0.length pc0].toArray w0 fun e_ w_ => ∃ (o_ : Tags), e_ = .returned (one [enc64 r.1, .int .i64 r.2.1, .int .i64 r.2.2]) ∧ Step o0 w0 o_ w_ [] := by
  have HF := Fm.refl hO []
  unfold dictumref01_TakeNum.f at H
  refine SX.calls [.slice pA0 a0.length pc0] Tryd.func22 rfl rfl ?_
  rw [Tryd.ntmps22]
  refine WC.seq ?_
  refine WC.region ?_
  refine WL.ex rfl (ex_assign (v := enc64 (0 : UInt64)) rfl) ?_
  refine WL.ex rfl (ex_assign (v := .int .i64 0) rfl) ?_
  refine WL.ex rfl (ex_assign (v := .int .i64 0) rfl) ?_
  refine WL.nil ?_
  refine WC.seq ?_
  refine WC.region ?_
  refine WL.ex rfl (ex_assign (v := enc64 (0 : UInt64)) rfl) ?_
  refine WL.nil ?_
  refine WC.seq ?_
  refine WC.seq ?_
  refine WC.region ?_
  refine WL.ex rfl (ex_assign (v := .int .i64 0) rfl) ?_
  refine WL.nil ?_
  obtain ⟨z103, hz103, H⟩ := bindE H
  refine WC.for (fun k_ ρ_ w_ => ∃ (o_ : Tags) (x101 : UInt64) (x102 : Int), Fm o0 w0 o_ w_ [] ∧ Row Rep.u8 (fun b_ => o_ b_ = 0) (fun b_ => o_ b_ = 0) w_ pA0 a0 ∧ ρ_ 0 = .slice pA0 a0.length pc0 ∧ ρ_ 2 = enc64 (0 : UInt64) ∧ ρ_ 3 = .int .i64 0 ∧ ρ_ 4 = .int .i64 0 ∧ ρ_ 5 = enc64 x101 ∧ ρ_ 6 = .int .i64 x102 ∧ dictumref01_TakeNum.l1 k a0 k_ x101 x102 = some z103) k (fun ρ_ w_ => ∃ (o_ : Tags), Fm o0 w0 o_ w_ [] ∧ ρ_ 2 = enc64 (0 : UInt64) ∧ ρ_ 3 = .int .i64 0 ∧ ρ_ 4 = .int .i64 0 ∧ z103 = .inr ()) ⟨_, (0 : UInt64), 0, HF, hra0, rfl, rfl, rfl, rfl, rfl, rfl, hz103⟩ ?case104 ?_
  case case104 =>
    rintro ρ140 w138 ⟨o139, HF, s2_102, s3_102, s4_102, rfl⟩
    dsimp only at H
    refine WC.seq ?_
    refine WC.region ?_
    refine WL.ex rfl (ex_assign (v := enc64 (0 : UInt64)) rfl) ?_
    refine WL.ex rfl (ex_assign (v := .int .i64 0) rfl) ?_
    refine WL.ex rfl (ex_assign (v := .int .i64 11) rfl) ?_
    refine WL.nil ?_
    refine WC.ret ?_
    obtain rfl := Option.some.inj H
    exact ⟨_, (.tmp (enc64 (0 : UInt64) : Value) rfl (.tmp (.int .i64 0 : Value) rfl (.tmp (.int .i64 11 : Value) rfl .nil))), _, rfl, HF.out⟩
  have Ho105 := H
  rintro k106 ρ107 w108 ⟨o109, x101, x102, HF, hra0, s0_100, s2_100, s3_100, s4_100, s5_101, s6_102, H⟩
  cases k106 with
  | zero => cases H
  | succ k106 =>
  rw [dictumref01_TakeNum.l1.eq_2] at H
  refine WC.seq ?_
  refine WC.seq ?_
  refine WC.region ?_
  refine WL.ex rfl (ex_move (v := .int .i64 x102) s6_102) ?_
  refine WL.ex rfl (ex_bin (a := .int .i64 x102) (b := .int .i64 10) (v := .bool (decide (x102 < 10))) rfl rfl bin_lss) ?_
  refine WL.nil ?_
  rcases condE H with ⟨c110, H⟩ | ⟨c110, H⟩
  ·
    refine WC.cond_t ((show _ = Value.bool (decide (x102 < 10)) from rfl).trans (congrArg Value.bool c110)) ?_
    refine WC.skip ?_
    refine WC.seq ?_
    refine WC.block ?_
    refine WC.seq ?_
    refine WC.seq ?_
    refine WC.region ?_
    refine WL.ex rfl (ex_move (v := .int .i64 x102) s6_102) ?_
    refine WL.ex rfl (ex_move (v := .slice pA0 a0.length pc0) s0_100) ?_
    refine WL.ex rfl (ex_len_slice (A := pA0) (m := a0.length) (c := pc0) rfl Tryd.underlying24) ?_
    refine WL.ex rfl (ex_bin (a := .int .i64 x102) (b := .int .i64 (a0.length : Int)) (v := .bool (decide (x102 ≥ (a0.length : Int)))) rfl rfl bin_geq) ?_
    refine WL.nil ?_
    rcases condE H with ⟨c111, H⟩ | ⟨c111, H⟩
    ·
      refine WC.cond_t ((show _ = Value.bool (decide (x102 ≥ (a0.length : Int))) from rfl).trans (congrArg Value.bool c111)) ?_
      refine WC.seq ?_
      refine WC.region ?_
      refine WL.ex rfl (ex_assign (v := enc64 (0 : UInt64)) rfl) ?_
      refine WL.ex rfl (ex_assign (v := .int .i64 0) rfl) ?_
      refine WL.ex rfl (ex_assign (v := .int .i64 10) rfl) ?_
      refine WL.nil ?_
      refine WC.ret ?_
      obtain rfl := Option.some.inj H
      replace H := Ho105
      dsimp only at H
      obtain rfl := Option.some.inj H
      exact ⟨_, (.tmp (enc64 (0 : UInt64) : Value) rfl (.tmp (.int .i64 0 : Value) rfl (.tmp (.int .i64 10 : Value) rfl .nil))), _, rfl, HF.out⟩
    ·
      refine WC.cond_f ((show _ = Value.bool (decide (x102 ≥ (a0.length : Int))) from rfl).trans (congrArg Value.bool c111)) ?_
      refine WC.skip ?_
      refine WC.seq ?_
      refine WC.region ?_
      refine WL.ex rfl (ex_move (v := .slice pA0 a0.length pc0) s0_100) ?_
      refine WL.ex rfl (ex_move (v := .int .i64 x102) s6_102) ?_
      obtain ⟨x112, hx112, H⟩ := bindE H
      obtain ⟨ad113, e114, g115, g116, cell117⟩ := Row.ixS hra0 hx112
      refine WL.ex rfl (ex_indexAddr (i := x102) rfl e114 rfl Tryd.underlying24 sz5 g115 g116) ?_
      refine WL.ex rfl (ex_load1 (v := enc8 x112) rfl Tryd.underlying5 rfl cell117) ?_
      refine WL.ex rfl (ex_conv_u64 (k := .u8) (a := (x112.toNat : Int)) rfl Tryd.underlying5 Tryd.underlying29) ?_
      refine WL.ex rfl (ex_assign (v := enc64 (ofI64 (x112.toNat : Int))) rfl) ?_
      refine WL.nil ?_
      refine WC.seq ?_
      obtain ⟨z120, hz120, H⟩ := bindE H
      refine WC.cut (fun ρ_ w_ => ∃ (o_ : Tags), Fm o0 w0 o_ w_ [] ∧ Row Rep.u8 (fun b_ => o_ b_ = 0) (fun b_ => o_ b_ = 0) w_ pA0 a0 ∧ ρ_ 0 = .slice pA0 a0.length pc0 ∧ ρ_ 2 = enc64 (0 : UInt64) ∧ ρ_ 3 = .int .i64 0 ∧ ρ_ 4 = .int .i64 0 ∧ ρ_ 5 = enc64 x101 ∧ ρ_ 6 = .int .i64 x102 ∧ ρ_ 7 = enc64 (ofI64 (x112.toNat : Int)) ∧ ρ_ 26 = .bool z120) ?case121 ?_
      case case121 =>
        rintro ρ124 w122 ⟨o123, HF, hra0, s0_118, s2_118, s3_118, s4_118, s5_118, s6_118, s7_118, s26_119⟩
        rcases condE H with ⟨c125, H⟩ | ⟨c125, H⟩
        ·
          refine WC.cond_t ((show _ = Value.bool z120 from s26_119).trans (congrArg Value.bool c125)) ?_
          refine WC.seq ?_
          refine WC.region ?_
          refine WL.ex rfl (ex_assign (v := enc64 (0 : UInt64)) rfl) ?_
          refine WL.ex rfl (ex_assign (v := .int .i64 0) rfl) ?_
          refine WL.ex rfl (ex_assign (v := .int .i64 11) rfl) ?_
          refine WL.nil ?_
          refine WC.ret ?_
          obtain rfl := Option.some.inj H
          replace H := Ho105
          dsimp only at H
          obtain rfl := Option.some.inj H
          exact ⟨_, (.tmp (enc64 (0 : UInt64) : Value) rfl (.tmp (.int .i64 0 : Value) rfl (.tmp (.int .i64 11 : Value) rfl .nil))), _, rfl, HF.out⟩
        ·
          refine WC.cond_f ((show _ = Value.bool z120 from s26_119).trans (congrArg Value.bool c125)) ?_
          refine WC.skip ?_
          refine WC.seq ?_
          refine WC.region ?_
          refine WL.ex rfl (ex_move (v := enc64 x101) s5_118) ?_
          refine WL.ex rfl (ex_move (v := enc64 (ofI64 (x112.toNat : Int))) s7_118) ?_
          refine WL.ex rfl (ex_bin (a := enc64 (ofI64 (x112.toNat : Int))) (b := enc64 (127 : UInt64)) (v := enc64 ((ofI64 (x112.toNat : Int)) &&& (127 : UInt64))) rfl rfl bin_and_u64) ?_
          refine WL.ex rfl (ex_move (v := .int .i64 x102) s6_118) ?_
          refine WL.ex rfl (ex_bin (a := .int .i64 7) (b := .int .i64 x102) (v := .int .i64 (wrap64 (7 * x102))) rfl rfl bin_mul64) ?_
          refine WL.ex rfl (ex_conv_u64 (k := .i64) (a := (wrap64 (7 * x102))) rfl Tryd.underlying3 Tryd.underlying45) ?_
          refine WL.ex rfl (ex_bin (a := enc64 ((ofI64 (x112.toNat : Int)) &&& (127 : UInt64))) (b := enc64 (ofI64 (wrap64 (7 * x102)))) (v := enc64 (shl64 ((ofI64 (x112.toNat : Int)) &&& (127 : UInt64)) ((ofI64 (wrap64 (7 * x102))).toNat))) rfl rfl (bin_shl_u64n (n := (ofI64 (wrap64 (7 * x102))).toNat))) ?_
          refine WL.ex rfl (ex_bin (a := enc64 x101) (b := enc64 (shl64 ((ofI64 (x112.toNat : Int)) &&& (127 : UInt64)) ((ofI64 (wrap64 (7 * x102))).toNat))) (v := enc64 (x101 ||| (shl64 ((ofI64 (x112.toNat : Int)) &&& (127 : UInt64)) ((ofI64 (wrap64 (7 * x102))).toNat)))) rfl rfl bin_or_u64) ?_
          refine WL.ex rfl (ex_assign (v := enc64 (x101 ||| (shl64 ((ofI64 (x112.toNat : Int)) &&& (127 : UInt64)) ((ofI64 (wrap64 (7 * x102))).toNat)))) rfl) ?_
          refine WL.nil ?_
          refine WC.seq ?_
          refine WC.region ?_
          refine WL.ex rfl (ex_move (v := enc64 (ofI64 (x112.toNat : Int))) s7_118) ?_
          refine WL.ex rfl (ex_bin (a := enc64 (ofI64 (x112.toNat : Int))) (b := enc64 (128 : UInt64)) (v := .bool (decide ((ofI64 (x112.toNat : Int)) < (128 : UInt64)))) rfl rfl bin_lss_u64) ?_
          refine WL.nil ?_
          rcases condE H with ⟨c126, H⟩ | ⟨c126, H⟩
          ·
            refine WC.cond_t ((show _ = Value.bool (decide ((ofI64 (x112.toNat : Int)) < (128 : UInt64))) from rfl).trans (congrArg Value.bool c126)) ?_
            refine WC.seq ?_
            obtain ⟨z128, hz128, H⟩ := bindE H
            refine WC.cut (fun ρ_ w_ => ∃ (o_ : Tags), Fm o0 w0 o_ w_ [] ∧ Row Rep.u8 (fun b_ => o_ b_ = 0) (fun b_ => o_ b_ = 0) w_ pA0 a0 ∧ ρ_ 0 = .slice pA0 a0.length pc0 ∧ ρ_ 2 = enc64 (0 : UInt64) ∧ ρ_ 3 = .int .i64 0 ∧ ρ_ 4 = .int .i64 0 ∧ ρ_ 5 = enc64 (x101 ||| (shl64 ((ofI64 (x112.toNat : Int)) &&& (127 : UInt64)) ((ofI64 (wrap64 (7 * x102))).toNat))) ∧ ρ_ 6 = .int .i64 x102 ∧ ρ_ 42 = .bool z128) ?case129 ?_
            case case129 =>
              rintro ρ132 w130 ⟨o131, HF, hra0, s0_126, s2_126, s3_126, s4_126, s5_126, s6_126, s42_127⟩
              rcases condE H with ⟨c133, H⟩ | ⟨c133, H⟩
              ·
                refine WC.cond_t ((show _ = Value.bool z128 from s42_127).trans (congrArg Value.bool c133)) ?_
                refine WC.seq ?_
                refine WC.region ?_
                refine WL.ex rfl (ex_assign (v := enc64 (0 : UInt64)) rfl) ?_
                refine WL.ex rfl (ex_assign (v := .int .i64 0) rfl) ?_
                refine WL.ex rfl (ex_assign (v := .int .i64 11) rfl) ?_
                refine WL.nil ?_
                refine WC.ret ?_
                obtain rfl := Option.some.inj H
                replace H := Ho105
                dsimp only at H
                obtain rfl := Option.some.inj H
                exact ⟨_, (.tmp (enc64 (0 : UInt64) : Value) rfl (.tmp (.int .i64 0 : Value) rfl (.tmp (.int .i64 11 : Value) rfl .nil))), _, rfl, HF.out⟩
              ·
                refine WC.cond_f ((show _ = Value.bool z128 from s42_127).trans (congrArg Value.bool c133)) ?_
                refine WC.skip ?_
                refine WC.seq ?_
                refine WC.region ?_
                refine WL.ex rfl (ex_move (v := enc64 (x101 ||| (shl64 ((ofI64 (x112.toNat : Int)) &&& (127 : UInt64)) ((ofI64 (wrap64 (7 * x102))).toNat)))) s5_126) ?_
                refine WL.ex rfl (ex_move (v := .int .i64 x102) s6_126) ?_
                refine WL.ex rfl (ex_bin (a := .int .i64 x102) (b := .int .i64 1) (v := .int .i64 (wrap64 (x102 + 1))) rfl rfl bin_add64) ?_
                refine WL.ex rfl (ex_assign (v := enc64 (x101 ||| (shl64 ((ofI64 (x112.toNat : Int)) &&& (127 : UInt64)) ((ofI64 (wrap64 (7 * x102))).toNat)))) rfl) ?_
                refine WL.ex rfl (ex_assign (v := .int .i64 (wrap64 (x102 + 1))) rfl) ?_
                refine WL.ex rfl (ex_assign (v := .int .i64 0) rfl) ?_
                refine WL.nil ?_
                refine WC.ret ?_
                obtain rfl := Option.some.inj H
                replace H := Ho105
                dsimp only at H
                obtain rfl := Option.some.inj H
                exact ⟨_, (.tmp (enc64 (x101 ||| (shl64 ((ofI64 (x112.toNat : Int)) &&& (127 : UInt64)) ((ofI64 (wrap64 (7 * x102))).toNat))) : Value) rfl (.tmp (.int .i64 (wrap64 (x102 + 1)) : Value) rfl (.tmp (.int .i64 0 : Value) rfl .nil))), _, rfl, HF.out⟩
            have Ho134 := H
            replace H := hz128
            refine WC.region ?_
            refine WL.ex rfl (ex_move (v := enc64 (ofI64 (x112.toNat : Int))) s7_118) ?_
            refine WL.ex rfl (ex_bin (a := enc64 (ofI64 (x112.toNat : Int))) (b := enc64 (0 : UInt64)) (v := .bool ((ofI64 (x112.toNat : Int)) == (0 : UInt64))) rfl rfl bin_eql_u64) ?_
            refine WL.ex rfl (ex_move (v := .bool ((ofI64 (x112.toNat : Int)) == (0 : UInt64))) rfl) ?_
            rcases condE H with ⟨c135, H⟩ | ⟨c135, H⟩
            ·
              refine WL.guardYes rfl rfl rfl ((show _ = Value.bool ((ofI64 (x112.toNat : Int)) == (0 : UInt64)) from rfl).trans (congrArg Value.bool c135)) ?_
              refine OW.ex rfl (ex_move (v := .int .i64 x102) s6_118) ?_
              refine WL.guardYes rfl rfl rfl ((show _ = Value.bool ((ofI64 (x112.toNat : Int)) == (0 : UInt64)) from rfl).trans (congrArg Value.bool c135)) ?_
              refine OW.ex rfl (ex_bin (a := .int .i64 x102) (b := .int .i64 0) (v := .bool (decide (x102 > 0))) rfl rfl bin_gtr) ?_
              refine WL.ex rfl (ex_pick_t (v := .bool (decide (x102 > 0))) ((show _ = Value.bool ((ofI64 (x112.toNat : Int)) == (0 : UInt64)) from rfl).trans (congrArg Value.bool c135)) rfl) ?_
              refine WL.nil ?_
              obtain rfl := Option.some.inj H
              exact ⟨_, HF, hra0, s0_118, s2_118, s3_118, s4_118, rfl, s6_118, rfl⟩
            ·
              refine WL.guardNo rfl rfl rfl ((show _ = Value.bool ((ofI64 (x112.toNat : Int)) == (0 : UInt64)) from rfl).trans (congrArg Value.bool c135)) ?_
              refine WL.guardNo rfl rfl rfl ((show _ = Value.bool ((ofI64 (x112.toNat : Int)) == (0 : UInt64)) from rfl).trans (congrArg Value.bool c135)) ?_
              refine WL.ex rfl (ex_pick_f (v := .bool false) ((show _ = Value.bool ((ofI64 (x112.toNat : Int)) == (0 : UInt64)) from rfl).trans (congrArg Value.bool c135)) rfl) ?_
              refine WL.nil ?_
              obtain rfl := Option.some.inj H
              exact ⟨_, HF, hra0, s0_118, s2_118, s3_118, s4_118, rfl, s6_118, rfl⟩
          ·
            refine WC.cond_f ((show _ = Value.bool (decide ((ofI64 (x112.toNat : Int)) < (128 : UInt64))) from rfl).trans (congrArg Value.bool c126)) ?_
            refine WC.skip ?_
            refine WC.region ?_
            refine WL.ex rfl (ex_move (v := .int .i64 x102) s6_118) ?_
            refine WL.ex rfl (ex_bin (a := .int .i64 x102) (b := .int .i64 1) (v := .int .i64 (wrap64 (x102 + 1))) rfl rfl bin_add64) ?_
            refine WL.ex rfl (ex_assign (v := .int .i64 (wrap64 (x102 + 1))) rfl) ?_
            refine WL.nil ?_
            exact ⟨k106, Nat.lt_succ_self _, ⟨_, (x101 ||| (shl64 ((ofI64 (x112.toNat : Int)) &&& (127 : UInt64)) ((ofI64 (wrap64 (7 * x102))).toNat))), wrap64 (x102 + 1), HF, hra0, s0_118, s2_118, s3_118, s4_118, rfl, rfl, H⟩⟩
      have Ho136 := H
      replace H := hz120
      refine WC.region ?_
      refine WL.ex rfl (ex_move (v := .int .i64 x102) s6_102) ?_
      refine WL.ex rfl (ex_bin (a := .int .i64 x102) (b := .int .i64 9) (v := .bool (x102 == 9)) rfl rfl bin_eql) ?_
      refine WL.ex rfl (ex_move (v := .bool (x102 == 9)) rfl) ?_
      rcases condE H with ⟨c137, H⟩ | ⟨c137, H⟩
      ·
        refine WL.guardYes rfl rfl rfl ((show _ = Value.bool (x102 == 9) from rfl).trans (congrArg Value.bool c137)) ?_
        refine OW.ex rfl (ex_move (v := enc64 (ofI64 (x112.toNat : Int))) rfl) ?_
        refine WL.guardYes rfl rfl rfl ((show _ = Value.bool (x102 == 9) from rfl).trans (congrArg Value.bool c137)) ?_
        refine OW.ex rfl (ex_bin (a := enc64 (ofI64 (x112.toNat : Int))) (b := enc64 (1 : UInt64)) (v := .bool (decide ((1 : UInt64) < (ofI64 (x112.toNat : Int))))) rfl rfl bin_gtr_u64) ?_
        refine WL.ex rfl (ex_pick_t (v := .bool (decide ((1 : UInt64) < (ofI64 (x112.toNat : Int))))) ((show _ = Value.bool (x102 == 9) from rfl).trans (congrArg Value.bool c137)) rfl) ?_
        refine WL.nil ?_
        obtain rfl := Option.some.inj H
        exact ⟨_, HF, hra0, s0_100, s2_100, s3_100, s4_100, s5_101, s6_102, rfl, rfl⟩
      ·
        refine WL.guardNo rfl rfl rfl ((show _ = Value.bool (x102 == 9) from rfl).trans (congrArg Value.bool c137)) ?_
        refine WL.guardNo rfl rfl rfl ((show _ = Value.bool (x102 == 9) from rfl).trans (congrArg Value.bool c137)) ?_
        refine WL.ex rfl (ex_pick_f (v := .bool false) ((show _ = Value.bool (x102 == 9) from rfl).trans (congrArg Value.bool c137)) rfl) ?_
        refine WL.nil ?_
        obtain rfl := Option.some.inj H
        exact ⟨_, HF, hra0, s0_100, s2_100, s3_100, s4_100, s5_101, s6_102, rfl, rfl⟩
  ·
    refine WC.cond_f ((show _ = Value.bool (decide (x102 < 10)) from rfl).trans (congrArg Value.bool c110)) ?_
    refine WC.exit ?_
    obtain rfl := Option.some.inj H
    exact ⟨_, HF, s2_100, s3_100, s4_100, rfl⟩

/-! ### utf8_word_byte -/
set_option maxRecDepth 100000 in
theorem utf8_word_byte.calls (o0 : Tags) (w0 : World) (pA0 : Option Addr) (pc0 : Nat) (a0 : (List UInt8)) (r : UInt64) (hO : ∀ b, b < w0.heap.size → o0 b < 10) (hra0 : Row Rep.u8 (fun b_ => o0 b_ = 0) (fun b_ => o0 b_ = 0) w0 pA0 a0) (hla0 : a0.length ≤ pc0) (H : utf8_word_byte.f a0 = some r) :
    Calls Tryd.prog 53 [.slice pA0 a0.length pc0].toArray w0 fun e_ w_ => ∃ (o_ : Tags), e_ = .returned (one [enc64 r]) ∧ Step o0 w0 o_ w_ [] := by
  have HF := Fm.refl hO []
  unfold utf8_word_byte.f at H
  refine SX.calls [.slice pA0 a0.length pc0] Tryd.func53 rfl rfl ?_
  rw [Tryd.ntmps53]
  refine WC.seq ?_
  refine WC.region ?_
  refine WL.ex rfl (ex_assign (v := enc64 (0 : UInt64)) rfl) ?_
  refine WL.nil ?_
  refine WC.seq ?_
  refine WC.cond_f rfl ?_
  refine WC.skip ?_
  refine WC.seq ?_
  refine WC.regionD' HF [] 47 (by kernel_rfl) rfl ?_
  intro w101 s102
  replace hra0 := hra0.step s102 rfl
  replace HF := HF.step s102 rfl
  have hra0D := hra0
  have sR := HF.here []
  refine WA.norm (listed' := #[false, false, false, false, false, false, false, false, false, false, false, false, false, false, false, false, false, false, false, false, false, false, false, false, false, false, false, false, false, false, false, false, false, false, false, false, false, false, false, false, false, false, false, false, false, false, false]) (by kernel_rfl) ?_
  refine WA.ex 0 rfl (by kernel_rfl) (by kernel_rfl) (by kernel_rfl) rfl ⟨_, sR⟩ (fun w_ hS_ => ex_move (v := .slice pA0 a0.length pc0) rfl) ?_
  refine WA.norm (listed' := #[true, false, false, false, false, false, false, false, false, false, false, false, false, false, false, false, false, false, false, false, false, false, false, false, false, false, false, false, false, false, false, false, false, false, false, false, false, false, false, false, false, false, false, false, false, false, false]) (by kernel_rfl) ?_
  obtain ⟨x103, hx103, H⟩ := bindE H
  obtain ⟨ad104, e105, g106, g107, cell108⟩ := Row.ixS hra0D hx103
  have hk109 := Row.at hra0D e105 hx103 ((0 : Int).toNat * 1)
  replace cell108 := held_cell (Step.refl _ _ _) ⟨_, sR⟩ hk109 rfl cell108
  refine WA.ex 1 rfl (by kernel_rfl) (by kernel_rfl) (by kernel_rfl) rfl ⟨_, sR⟩ (fun w_ hS_ => ex_indexAddr (i := (0 : Int)) rfl e105 rfl Tryd.underlying24 sz5 g106 g107) ?_
  refine WA.norm (listed' := #[true, true, false, false, false, false, false, false, false, false, false, false, false, false, false, false, false, false, false, false, false, false, false, false, false, false, false, false, false, false, false, false, false, false, false, false, false, false, false, false, false, false, false, false, false, false, false]) (by kernel_rfl) ?_
  refine WA.ex 2 rfl (by kernel_rfl) (by kernel_rfl) (by kernel_rfl) rfl ⟨_, sR⟩ (fun w_ hS_ => ex_load1 (v := enc8 x103) rfl Tryd.underlying5 rfl (held_cell sR hS_ hk109 rfl cell108)) ?_
  refine WA.norm (listed' := #[true, true, true, false, false, false, false, false, false, false, false, false, false, false, false, false, false, false, false, false, false, false, false, false, false, false, false, false, false, false, false, false, false, false, false, false, false, false, false, false, false, false, false, false, false, false, false]) (by kernel_rfl) ?_
  refine WA.ex 3 rfl (by kernel_rfl) (by kernel_rfl) (by kernel_rfl) rfl ⟨_, sR⟩ (fun w_ hS_ => ex_conv_u64 (k := .u8) (a := (x103.toNat : Int)) rfl Tryd.underlying5 Tryd.underlying29) ?_
  refine WA.norm (listed' := #[true, true, true, true, false, false, false, false, false, false, false, false, false, false, false, false, false, false, false, false, false, false, false, false, false, false, false, false, false, false, false, false, false, false, false, false, false, false, false, false, false, false, false, false, false, false, false]) (by kernel_rfl) ?_
  refine WA.ex 4 rfl (by kernel_rfl) (by kernel_rfl) (by kernel_rfl) rfl ⟨_, sR⟩ (fun w_ hS_ => ex_move (v := .slice pA0 a0.length pc0) rfl) ?_
  refine WA.norm (listed' := #[true, true, true, true, true, false, false, false, false, false, false, false, false, false, false, false, false, false, false, false, false, false, false, false, false, false, false, false, false, false, false, false, false, false, false, false, false, false, false, false, false, false, false, false, false, false, false]) (by kernel_rfl) ?_
  obtain ⟨x110, hx110, H⟩ := bindE H
  obtain ⟨ad111, e112, g113, g114, cell115⟩ := Row.ixS hra0D hx110
  have hk116 := Row.at hra0D e112 hx110 ((1 : Int).toNat * 1)
  replace cell115 := held_cell (Step.refl _ _ _) ⟨_, sR⟩ hk116 rfl cell115
  refine WA.ex 5 rfl (by kernel_rfl) (by kernel_rfl) (by kernel_rfl) rfl ⟨_, sR⟩ (fun w_ hS_ => ex_indexAddr (i := (1 : Int)) rfl e112 rfl Tryd.underlying24 sz5 g113 g114) ?_
  refine WA.norm (listed' := #[true, true, true, true, true, true, false, false, false, false, false, false, false, false, false, false, false, false, false, false, false, false, false, false, false, false, false, false, false, false, false, false, false, false, false, false, false, false, false, false, false, false, false, false, false, false, false]) (by kernel_rfl) ?_
  refine WA.ex 6 rfl (by kernel_rfl) (by kernel_rfl) (by kernel_rfl) rfl ⟨_, sR⟩ (fun w_ hS_ => ex_load1 (v := enc8 x110) rfl Tryd.underlying5 rfl (held_cell sR hS_ hk116 rfl cell115)) ?_
  refine WA.norm (listed' := #[true, true, true, true, true, true, true, false, false, false, false, false, false, false, false, false, false, false, false, false, false, false, false, false, false, false, false, false, false, false, false, false, false, false, false, false, false, false, false, false, false, false, false, false, false, false, false]) (by kernel_rfl) ?_
  refine WA.ex 7 rfl (by kernel_rfl) (by kernel_rfl) (by kernel_rfl) rfl ⟨_, sR⟩ (fun w_ hS_ => ex_conv_u64 (k := .u8) (a := (x110.toNat : Int)) rfl Tryd.underlying5 Tryd.underlying29) ?_
  refine WA.norm (listed' := #[true, true, true, true, true, true, true, true, false, false, false, false, false, false, false, false, false, false, false, false, false, false, false, false, false, false, false, false, false, false, false, false, false, false, false, false, false, false, false, false, false, false, false, false, false, false, false]) (by kernel_rfl) ?_
  refine WA.ex 8 rfl (by kernel_rfl) (by kernel_rfl) (by kernel_rfl) rfl ⟨_, sR⟩ (fun w_ hS_ => ex_bin (a := enc64 (ofI64 (x110.toNat : Int))) (b := enc64 (8 : UInt64)) (v := enc64 (shl64 (ofI64 (x110.toNat : Int)) 8)) rfl rfl (bin_shl_u64n (n := 8))) ?_
  refine WA.norm (listed' := #[true, true, true, true, true, true, true, true, true, false, false, false, false, false, false, false, false, false, false, false, false, false, false, false, false, false, false, false, false, false, false, false, false, false, false, false, false, false, false, false, false, false, false, false, false, false, false]) (by kernel_rfl) ?_
  refine WA.ex 9 rfl (by kernel_rfl) (by kernel_rfl) (by kernel_rfl) rfl ⟨_, sR⟩ (fun w_ hS_ => ex_bin (a := enc64 (ofI64 (x103.toNat : Int))) (b := enc64 (shl64 (ofI64 (x110.toNat : Int)) 8)) (v := enc64 ((ofI64 (x103.toNat : Int)) ||| (shl64 (ofI64 (x110.toNat : Int)) 8))) rfl rfl bin_or_u64) ?_
  refine WA.norm (listed' := #[true, true, true, true, true, true, true, true, true, true, false, false, false, false, false, false, false, false, false, false, false, false, false, false, false, false, false, false, false, false, false, false, false, false, false, false, false, false, false, false, false, false, false, false, false, false, false]) (by kernel_rfl) ?_
  refine WA.ex 10 rfl (by kernel_rfl) (by kernel_rfl) (by kernel_rfl) rfl ⟨_, sR⟩ (fun w_ hS_ => ex_move (v := .slice pA0 a0.length pc0) rfl) ?_
  refine WA.norm (listed' := #[true, true, true, true, true, true, true, true, true, true, true, false, false, false, false, false, false, false, false, false, false, false, false, false, false, false, false, false, false, false, false, false, false, false, false, false, false, false, false, false, false, false, false, false, false, false, false]) (by kernel_rfl) ?_
  obtain ⟨x117, hx117, H⟩ := bindE H
  obtain ⟨ad118, e119, g120, g121, cell122⟩ := Row.ixS hra0D hx117
  have hk123 := Row.at hra0D e119 hx117 ((2 : Int).toNat * 1)
  replace cell122 := held_cell (Step.refl _ _ _) ⟨_, sR⟩ hk123 rfl cell122
  refine WA.ex 11 rfl (by kernel_rfl) (by kernel_rfl) (by kernel_rfl) rfl ⟨_, sR⟩ (fun w_ hS_ => ex_indexAddr (i := (2 : Int)) rfl e119 rfl Tryd.underlying24 sz5 g120 g121) ?_
  refine WA.norm (listed' := #[true, true, true, true, true, true, true, true, true, true, true, true, false, false, false, false, false, false, false, false, false, false, false, false, false, false, false, false, false, false, false, false, false, false, false, false, false, false, false, false, false, false, false, false, false, false, false]) (by kernel_rfl) ?_
  refine WA.ex 12 rfl (by kernel_rfl) (by kernel_rfl) (by kernel_rfl) rfl ⟨_, sR⟩ (fun w_ hS_ => ex_load1 (v := enc8 x117) rfl Tryd.underlying5 rfl (held_cell sR hS_ hk123 rfl cell122)) ?_
  refine WA.norm (listed' := #[true, true, true, true, true, true, true, true, true, true, true, true, true, false, false, false, false, false, false, false, false, false, false, false, false, false, false, false, false, false, false, false, false, false, false, false, false, false, false, false, false, false, false, false, false, false, false]) (by kernel_rfl) ?_
  refine WA.ex 13 rfl (by kernel_rfl) (by kernel_rfl) (by kernel_rfl) rfl ⟨_, sR⟩ (fun w_ hS_ => ex_conv_u64 (k := .u8) (a := (x117.toNat : Int)) rfl Tryd.underlying5 Tryd.underlying29) ?_
  refine WA.norm (listed' := #[true, true, true, true, true, true, true, true, true, true, true, true, true, true, false, false, false, false, false, false, false, false, false, false, false, false, false, false, false, false, false, false, false, false, false, false, false, false, false, false, false, false, false, false, false, false, false]) (by kernel_rfl) ?_
  refine WA.ex 14 rfl (by kernel_rfl) (by kernel_rfl) (by kernel_rfl) rfl ⟨_, sR⟩ (fun w_ hS_ => ex_bin (a := enc64 (ofI64 (x117.toNat : Int))) (b := enc64 (16 : UInt64)) (v := enc64 (shl64 (ofI64 (x117.toNat : Int)) 16)) rfl rfl (bin_shl_u64n (n := 16))) ?_
  refine WA.norm (listed' := #[true, true, true, true, true, true, true, true, true, true, true, true, true, true, true, false, false, false, false, false, false, false, false, false, false, false, false, false, false, false, false, false, false, false, false, false, false, false, false, false, false, false, false, false, false, false, false]) (by kernel_rfl) ?_
  refine WA.ex 15 rfl (by kernel_rfl) (by kernel_rfl) (by kernel_rfl) rfl ⟨_, sR⟩ (fun w_ hS_ => ex_bin (a := enc64 ((ofI64 (x103.toNat : Int)) ||| (shl64 (ofI64 (x110.toNat : Int)) 8))) (b := enc64 (shl64 (ofI64 (x117.toNat : Int)) 16)) (v := enc64 (((ofI64 (x103.toNat : Int)) ||| (shl64 (ofI64 (x110.toNat : Int)) 8)) ||| (shl64 (ofI64 (x117.toNat : Int)) 16))) rfl rfl bin_or_u64) ?_
  refine WA.norm (listed' := #[true, true, true, true, true, true, true, true, true, true, true, true, true, true, true, true, false, false, false, false, false, false, false, false, false, false, false, false, false, false, false, false, false, false, false, false, false, false, false, false, false, false, false, false, false, false, false]) (by kernel_rfl) ?_
  refine WA.ex 16 rfl (by kernel_rfl) (by kernel_rfl) (by kernel_rfl) rfl ⟨_, sR⟩ (fun w_ hS_ => ex_move (v := .slice pA0 a0.length pc0) rfl) ?_
  refine WA.norm (listed' := #[true, true, true, true, true, true, true, true, true, true, true, true, true, true, true, true, true, false, false, false, false, false, false, false, false, false, false, false, false, false, false, false, false, false, false, false, false, false, false, false, false, false, false, false, false, false, false]) (by kernel_rfl) ?_
  obtain ⟨x124, hx124, H⟩ := bindE H
  obtain ⟨ad125, e126, g127, g128, cell129⟩ := Row.ixS hra0D hx124
  have hk130 := Row.at hra0D e126 hx124 ((3 : Int).toNat * 1)
  replace cell129 := held_cell (Step.refl _ _ _) ⟨_, sR⟩ hk130 rfl cell129
  refine WA.ex 17 rfl (by kernel_rfl) (by kernel_rfl) (by kernel_rfl) rfl ⟨_, sR⟩ (fun w_ hS_ => ex_indexAddr (i := (3 : Int)) rfl e126 rfl Tryd.underlying24 sz5 g127 g128) ?_
  refine WA.norm (listed' := #[true, true, true, true, true, true, true, true, true, true, true, true, true, true, true, true, true, true, false, false, false, false, false, false, false, false, false, false, false, false, false, false, false, false, false, false, false, false, false, false, false, false, false, false, false, false, false]) (by kernel_rfl) ?_
  refine WA.ex 18 rfl (by kernel_rfl) (by kernel_rfl) (by kernel_rfl) rfl ⟨_, sR⟩ (fun w_ hS_ => ex_load1 (v := enc8 x124) rfl Tryd.underlying5 rfl (held_cell sR hS_ hk130 rfl cell129)) ?_
  refine WA.norm (listed' := #[true, true, true, true, true, true, true, true, true, true, true, true, true, true, true, true, true, true, true, false, false, false, false, false, false, false, false, false, false, false, false, false, false, false, false, false, false, false, false, false, false, false, false, false, false, false, false]) (by kernel_rfl) ?_
  refine WA.ex 19 rfl (by kernel_rfl) (by kernel_rfl) (by kernel_rfl) rfl ⟨_, sR⟩ (fun w_ hS_ => ex_conv_u64 (k := .u8) (a := (x124.toNat : Int)) rfl Tryd.underlying5 Tryd.underlying29) ?_
  refine WA.norm (listed' := #[true, true, true, true, true, true, true, true, true, true, true, true, true, true, true, true, true, true, true, true, false, false, false, false, false, false, false, false, false, false, false, false, false, false, false, false, false, false, false, false, false, false, false, false, false, false, false]) (by kernel_rfl) ?_
  refine WA.ex 20 rfl (by kernel_rfl) (by kernel_rfl) (by kernel_rfl) rfl ⟨_, sR⟩ (fun w_ hS_ => ex_bin (a := enc64 (ofI64 (x124.toNat : Int))) (b := enc64 (24 : UInt64)) (v := enc64 (shl64 (ofI64 (x124.toNat : Int)) 24)) rfl rfl (bin_shl_u64n (n := 24))) ?_
  refine WA.norm (listed' := #[true, true, true, true, true, true, true, true, true, true, true, true, true, true, true, true, true, true, true, true, true, false, false, false, false, false, false, false, false, false, false, false, false, false, false, false, false, false, false, false, false, false, false, false, false, false, false]) (by kernel_rfl) ?_
  refine WA.ex 21 rfl (by kernel_rfl) (by kernel_rfl) (by kernel_rfl) rfl ⟨_, sR⟩ (fun w_ hS_ => ex_bin (a := enc64 (((ofI64 (x103.toNat : Int)) ||| (shl64 (ofI64 (x110.toNat : Int)) 8)) ||| (shl64 (ofI64 (x117.toNat : Int)) 16))) (b := enc64 (shl64 (ofI64 (x124.toNat : Int)) 24)) (v := enc64 ((((ofI64 (x103.toNat : Int)) ||| (shl64 (ofI64 (x110.toNat : Int)) 8)) ||| (shl64 (ofI64 (x117.toNat : Int)) 16)) ||| (shl64 (ofI64 (x124.toNat : Int)) 24))) rfl rfl bin_or_u64) ?_
  refine WA.norm (listed' := #[true, true, true, true, true, true, true, true, true, true, true, true, true, true, true, true, true, true, true, true, true, true, false, false, false, false, false, false, false, false, false, false, false, false, false, false, false, false, false, false, false, false, false, false, false, false, false]) (by kernel_rfl) ?_
  refine WA.ex 22 rfl (by kernel_rfl) (by kernel_rfl) (by kernel_rfl) rfl ⟨_, sR⟩ (fun w_ hS_ => ex_move (v := .slice pA0 a0.length pc0) rfl) ?_
  refine WA.norm (listed' := #[true, true, true, true, true, true, true, true, true, true, true, true, true, true, true, true, true, true, true, true, true, true, true, false, false, false, false, false, false, false, false, false, false, false, false, false, false, false, false, false, false, false, false, false, false, false, false]) (by kernel_rfl) ?_
  obtain ⟨x131, hx131, H⟩ := bindE H
  obtain ⟨ad132, e133, g134, g135, cell136⟩ := Row.ixS hra0D hx131
  have hk137 := Row.at hra0D e133 hx131 ((4 : Int).toNat * 1)
  replace cell136 := held_cell (Step.refl _ _ _) ⟨_, sR⟩ hk137 rfl cell136
  refine WA.ex 23 rfl (by kernel_rfl) (by kernel_rfl) (by kernel_rfl) rfl ⟨_, sR⟩ (fun w_ hS_ => ex_indexAddr (i := (4 : Int)) rfl e133 rfl Tryd.underlying24 sz5 g134 g135) ?_
  refine WA.norm (listed' := #[true, true, true, true, true, true, true, true, true, true, true, true, true, true, true, true, true, true, true, true, true, true, true, true, false, false, false, false, false, false, false, false, false, false, false, false, false, false, false, false, false, false, false, false, false, false, false]) (by kernel_rfl) ?_
  refine WA.ex 24 rfl (by kernel_rfl) (by kernel_rfl) (by kernel_rfl) rfl ⟨_, sR⟩ (fun w_ hS_ => ex_load1 (v := enc8 x131) rfl Tryd.underlying5 rfl (held_cell sR hS_ hk137 rfl cell136)) ?_
  refine WA.norm (listed' := #[true, true, true, true, true, true, true, true, true, true, true, true, true, true, true, true, true, true, true, true, true, true, true, true, true, false, false, false, false, false, false, false, false, false, false, false, false, false, false, false, false, false, false, false, false, false, false]) (by kernel_rfl) ?_
  refine WA.ex 25 rfl (by kernel_rfl) (by kernel_rfl) (by kernel_rfl) rfl ⟨_, sR⟩ (fun w_ hS_ => ex_conv_u64 (k := .u8) (a := (x131.toNat : Int)) rfl Tryd.underlying5 Tryd.underlying29) ?_
  refine WA.norm (listed' := #[true, true, true, true, true, true, true, true, true, true, true, true, true, true, true, true, true, true, true, true, true, true, true, true, true, true, false, false, false, false, false, false, false, false, false, false, false, false, false, false, false, false, false, false, false, false, false]) (by kernel_rfl) ?_
  refine WA.ex 26 rfl (by kernel_rfl) (by kernel_rfl) (by kernel_rfl) rfl ⟨_, sR⟩ (fun w_ hS_ => ex_bin (a := enc64 (ofI64 (x131.toNat : Int))) (b := enc64 (32 : UInt64)) (v := enc64 (shl64 (ofI64 (x131.toNat : Int)) 32)) rfl rfl (bin_shl_u64n (n := 32))) ?_
  refine WA.norm (listed' := #[true, true, true, true, true, true, true, true, true, true, true, true, true, true, true, true, true, true, true, true, true, true, true, true, true, true, true, false, false, false, false, false, false, false, false, false, false, false, false, false, false, false, false, false, false, false, false]) (by kernel_rfl) ?_
  refine WA.ex 27 rfl (by kernel_rfl) (by kernel_rfl) (by kernel_rfl) rfl ⟨_, sR⟩ (fun w_ hS_ => ex_bin (a := enc64 ((((ofI64 (x103.toNat : Int)) ||| (shl64 (ofI64 (x110.toNat : Int)) 8)) ||| (shl64 (ofI64 (x117.toNat : Int)) 16)) ||| (shl64 (ofI64 (x124.toNat : Int)) 24))) (b := enc64 (shl64 (ofI64 (x131.toNat : Int)) 32)) (v := enc64 (((((ofI64 (x103.toNat : Int)) ||| (shl64 (ofI64 (x110.toNat : Int)) 8)) ||| (shl64 (ofI64 (x117.toNat : Int)) 16)) ||| (shl64 (ofI64 (x124.toNat : Int)) 24)) ||| (shl64 (ofI64 (x131.toNat : Int)) 32))) rfl rfl bin_or_u64) ?_
  refine WA.norm (listed' := #[true, true, true, true, true, true, true, true, true, true, true, true, true, true, true, true, true, true, true, true, true, true, true, true, true, true, true, true, false, false, false, false, false, false, false, false, false, false, false, false, false, false, false, false, false, false, false]) (by kernel_rfl) ?_
  refine WA.ex 28 rfl (by kernel_rfl) (by kernel_rfl) (by kernel_rfl) rfl ⟨_, sR⟩ (fun w_ hS_ => ex_move (v := .slice pA0 a0.length pc0) rfl) ?_
  refine WA.norm (listed' := #[true, true, true, true, true, true, true, true, true, true, true, true, true, true, true, true, true, true, true, true, true, true, true, true, true, true, true, true, true, false, false, false, false, false, false, false, false, false, false, false, false, false, false, false, false, false, false]) (by kernel_rfl) ?_
  obtain ⟨x138, hx138, H⟩ := bindE H
  obtain ⟨ad139, e140, g141, g142, cell143⟩ := Row.ixS hra0D hx138
  have hk144 := Row.at hra0D e140 hx138 ((5 : Int).toNat * 1)
  replace cell143 := held_cell (Step.refl _ _ _) ⟨_, sR⟩ hk144 rfl cell143
  refine WA.ex 29 rfl (by kernel_rfl) (by kernel_rfl) (by kernel_rfl) rfl ⟨_, sR⟩ (fun w_ hS_ => ex_indexAddr (i := (5 : Int)) rfl e140 rfl Tryd.underlying24 sz5 g141 g142) ?_
  refine WA.norm (listed' := #[true, true, true, true, true, true, true, true, true, true, true, true, true, true, true, true, true, true, true, true, true, true, true, true, true, true, true, true, true, true, false, false, false, false, false, false, false, false, false, false, false, false, false, false, false, false, false]) (by kernel_rfl) ?_
  refine WA.ex 30 rfl (by kernel_rfl) (by kernel_rfl) (by kernel_rfl) rfl ⟨_, sR⟩ (fun w_ hS_ => ex_load1 (v := enc8 x138) rfl Tryd.underlying5 rfl (held_cell sR hS_ hk144 rfl cell143)) ?_
  refine WA.norm (listed' := #[true, true, true, true, true, true, true, true, true, true, true, true, true, true, true, true, true, true, true, true, true, true, true, true, true, true, true, true, true, true, true, false, false, false, false, false, false, false, false, false, false, false, false, false, false, false, false]) (by kernel_rfl) ?_
  refine WA.ex 31 rfl (by kernel_rfl) (by kernel_rfl) (by kernel_rfl) rfl ⟨_, sR⟩ (fun w_ hS_ => ex_conv_u64 (k := .u8) (a := (x138.toNat : Int)) rfl Tryd.underlying5 Tryd.underlying29) ?_
  refine WA.norm (listed' := #[true, true, true, true, true, true, true, true, true, true, true, true, true, true, true, true, true, true, true, true, true, true, true, true, true, true, true, true, true, true, true, true, false, false, false, false, false, false, false, false, false, false, false, false, false, false, false]) (by kernel_rfl) ?_
  refine WA.ex 32 rfl (by kernel_rfl) (by kernel_rfl) (by kernel_rfl) rfl ⟨_, sR⟩ (fun w_ hS_ => ex_bin (a := enc64 (ofI64 (x138.toNat : Int))) (b := enc64 (40 : UInt64)) (v := enc64 (shl64 (ofI64 (x138.toNat : Int)) 40)) rfl rfl (bin_shl_u64n (n := 40))) ?_
  refine WA.norm (listed' := #[true, true, true, true, true, true, true, true, true, true, true, true, true, true, true, true, true, true, true, true, true, true, true, true, true, true, true, true, true, true, true, true, true, false, false, false, false, false, false, false, false, false, false, false, false, false, false]) (by kernel_rfl) ?_
  refine WA.ex 33 rfl (by kernel_rfl) (by kernel_rfl) (by kernel_rfl) rfl ⟨_, sR⟩ (fun w_ hS_ => ex_bin (a := enc64 (((((ofI64 (x103.toNat : Int)) ||| (shl64 (ofI64 (x110.toNat : Int)) 8)) ||| (shl64 (ofI64 (x117.toNat : Int)) 16)) ||| (shl64 (ofI64 (x124.toNat : Int)) 24)) ||| (shl64 (ofI64 (x131.toNat : Int)) 32))) (b := enc64 (shl64 (ofI64 (x138.toNat : Int)) 40)) (v := enc64 ((((((ofI64 (x103.toNat : Int)) ||| (shl64 (ofI64 (x110.toNat : Int)) 8)) ||| (shl64 (ofI64 (x117.toNat : Int)) 16)) ||| (shl64 (ofI64 (x124.toNat : Int)) 24)) ||| (shl64 (ofI64 (x131.toNat : Int)) 32)) ||| (shl64 (ofI64 (x138.toNat : Int)) 40))) rfl rfl bin_or_u64) ?_
  refine WA.norm (listed' := #[true, true, true, true, true, true, true, true, true, true, true, true, true, true, true, true, true, true, true, true, true, true, true, true, true, true, true, true, true, true, true, true, true, true, false, false, false, false, false, false, false, false, false, false, false, false, false]) (by kernel_rfl) ?_
  refine WA.ex 34 rfl (by kernel_rfl) (by kernel_rfl) (by kernel_rfl) rfl ⟨_, sR⟩ (fun w_ hS_ => ex_move (v := .slice pA0 a0.length pc0) rfl) ?_
  refine WA.norm (listed' := #[true, true, true, true, true, true, true, true, true, true, true, true, true, true, true, true, true, true, true, true, true, true, true, true, true, true, true, true, true, true, true, true, true, true, true, false, false, false, false, false, false, false, false, false, false, false, false]) (by kernel_rfl) ?_
  obtain ⟨x145, hx145, H⟩ := bindE H
  obtain ⟨ad146, e147, g148, g149, cell150⟩ := Row.ixS hra0D hx145
  have hk151 := Row.at hra0D e147 hx145 ((6 : Int).toNat * 1)
  replace cell150 := held_cell (Step.refl _ _ _) ⟨_, sR⟩ hk151 rfl cell150
  refine WA.ex 35 rfl (by kernel_rfl) (by kernel_rfl) (by kernel_rfl) rfl ⟨_, sR⟩ (fun w_ hS_ => ex_indexAddr (i := (6 : Int)) rfl e147 rfl Tryd.underlying24 sz5 g148 g149) ?_
  refine WA.norm (listed' := #[true, true, true, true, true, true, true, true, true, true, true, true, true, true, true, true, true, true, true, true, true, true, true, true, true, true, true, true, true, true, true, true, true, true, true, true, false, false, false, false, false, false, false, false, false, false, false]) (by kernel_rfl) ?_
  refine WA.ex 36 rfl (by kernel_rfl) (by kernel_rfl) (by kernel_rfl) rfl ⟨_, sR⟩ (fun w_ hS_ => ex_load1 (v := enc8 x145) rfl Tryd.underlying5 rfl (held_cell sR hS_ hk151 rfl cell150)) ?_
  refine WA.norm (listed' := #[true, true, true, true, true, true, true, true, true, true, true, true, true, true, true, true, true, true, true, true, true, true, true, true, true, true, true, true, true, true, true, true, true, true, true, true, true, false, false, false, false, false, false, false, false, false, false]) (by kernel_rfl) ?_
  refine WA.ex 37 rfl (by kernel_rfl) (by kernel_rfl) (by kernel_rfl) rfl ⟨_, sR⟩ (fun w_ hS_ => ex_conv_u64 (k := .u8) (a := (x145.toNat : Int)) rfl Tryd.underlying5 Tryd.underlying29) ?_
  refine WA.norm (listed' := #[true, true, true, true, true, true, true, true, true, true, true, true, true, true, true, true, true, true, true, true, true, true, true, true, true, true, true, true, true, true, true, true, true, true, true, true, true, true, false, false, false, false, false, false, false, false, false]) (by kernel_rfl) ?_
  refine WA.ex 38 rfl (by kernel_rfl) (by kernel_rfl) (by kernel_rfl) rfl ⟨_, sR⟩ (fun w_ hS_ => ex_bin (a := enc64 (ofI64 (x145.toNat : Int))) (b := enc64 (48 : UInt64)) (v := enc64 (shl64 (ofI64 (x145.toNat : Int)) 48)) rfl rfl (bin_shl_u64n (n := 48))) ?_
  refine WA.norm (listed' := #[true, true, true, true, true, true, true, true, true, true, true, true, true, true, true, true, true, true, true, true, true, true, true, true, true, true, true, true, true, true, true, true, true, true, true, true, true, true, true, false, false, false, false, false, false, false, false]) (by kernel_rfl) ?_
  refine WA.ex 39 rfl (by kernel_rfl) (by kernel_rfl) (by kernel_rfl) rfl ⟨_, sR⟩ (fun w_ hS_ => ex_bin (a := enc64 ((((((ofI64 (x103.toNat : Int)) ||| (shl64 (ofI64 (x110.toNat : Int)) 8)) ||| (shl64 (ofI64 (x117.toNat : Int)) 16)) ||| (shl64 (ofI64 (x124.toNat : Int)) 24)) ||| (shl64 (ofI64 (x131.toNat : Int)) 32)) ||| (shl64 (ofI64 (x138.toNat : Int)) 40))) (b := enc64 (shl64 (ofI64 (x145.toNat : Int)) 48)) (v := enc64 (((((((ofI64 (x103.toNat : Int)) ||| (shl64 (ofI64 (x110.toNat : Int)) 8)) ||| (shl64 (ofI64 (x117.toNat : Int)) 16)) ||| (shl64 (ofI64 (x124.toNat : Int)) 24)) ||| (shl64 (ofI64 (x131.toNat : Int)) 32)) ||| (shl64 (ofI64 (x138.toNat : Int)) 40)) ||| (shl64 (ofI64 (x145.toNat : Int)) 48))) rfl rfl bin_or_u64) ?_
  refine WA.norm (listed' := #[true, true, true, true, true, true, true, true, true, true, true, true, true, true, true, true, true, true, true, true, true, true, true, true, true, true, true, true, true, true, true, true, true, true, true, true, true, true, true, true, false, false, false, false, false, false, false]) (by kernel_rfl) ?_
  refine WA.ex 40 rfl (by kernel_rfl) (by kernel_rfl) (by kernel_rfl) rfl ⟨_, sR⟩ (fun w_ hS_ => ex_move (v := .slice pA0 a0.length pc0) rfl) ?_
  refine WA.norm (listed' := #[true, true, true, true, true, true, true, true, true, true, true, true, true, true, true, true, true, true, true, true, true, true, true, true, true, true, true, true, true, true, true, true, true, true, true, true, true, true, true, true, true, false, false, false, false, false, false]) (by kernel_rfl) ?_
  obtain ⟨x152, hx152, H⟩ := bindE H
  obtain ⟨ad153, e154, g155, g156, cell157⟩ := Row.ixS hra0D hx152
  have hk158 := Row.at hra0D e154 hx152 ((7 : Int).toNat * 1)
  replace cell157 := held_cell (Step.refl _ _ _) ⟨_, sR⟩ hk158 rfl cell157
  refine WA.ex 41 rfl (by kernel_rfl) (by kernel_rfl) (by kernel_rfl) rfl ⟨_, sR⟩ (fun w_ hS_ => ex_indexAddr (i := (7 : Int)) rfl e154 rfl Tryd.underlying24 sz5 g155 g156) ?_
  refine WA.norm (listed' := #[true, true, true, true, true, true, true, true, true, true, true, true, true, true, true, true, true, true, true, true, true, true, true, true, true, true, true, true, true, true, true, true, true, true, true, true, true, true, true, true, true, true, false, false, false, false, false]) (by kernel_rfl) ?_
  refine WA.ex 42 rfl (by kernel_rfl) (by kernel_rfl) (by kernel_rfl) rfl ⟨_, sR⟩ (fun w_ hS_ => ex_load1 (v := enc8 x152) rfl Tryd.underlying5 rfl (held_cell sR hS_ hk158 rfl cell157)) ?_
  refine WA.norm (listed' := #[true, true, true, true, true, true, true, true, true, true, true, true, true, true, true, true, true, true, true, true, true, true, true, true, true, true, true, true, true, true, true, true, true, true, true, true, true, true, true, true, true, true, true, false, false, false, false]) (by kernel_rfl) ?_
  refine WA.ex 43 rfl (by kernel_rfl) (by kernel_rfl) (by kernel_rfl) rfl ⟨_, sR⟩ (fun w_ hS_ => ex_conv_u64 (k := .u8) (a := (x152.toNat : Int)) rfl Tryd.underlying5 Tryd.underlying29) ?_
  refine WA.norm (listed' := #[true, true, true, true, true, true, true, true, true, true, true, true, true, true, true, true, true, true, true, true, true, true, true, true, true, true, true, true, true, true, true, true, true, true, true, true, true, true, true, true, true, true, true, true, false, false, false]) (by kernel_rfl) ?_
  refine WA.ex 44 rfl (by kernel_rfl) (by kernel_rfl) (by kernel_rfl) rfl ⟨_, sR⟩ (fun w_ hS_ => ex_bin (a := enc64 (ofI64 (x152.toNat : Int))) (b := enc64 (56 : UInt64)) (v := enc64 (shl64 (ofI64 (x152.toNat : Int)) 56)) rfl rfl (bin_shl_u64n (n := 56))) ?_
  refine WA.norm (listed' := #[true, true, true, true, true, true, true, true, true, true, true, true, true, true, true, true, true, true, true, true, true, true, true, true, true, true, true, true, true, true, true, true, true, true, true, true, true, true, true, true, true, true, true, true, true, false, false]) (by kernel_rfl) ?_
  refine WA.ex 45 rfl (by kernel_rfl) (by kernel_rfl) (by kernel_rfl) rfl ⟨_, sR⟩ (fun w_ hS_ => ex_bin (a := enc64 (((((((ofI64 (x103.toNat : Int)) ||| (shl64 (ofI64 (x110.toNat : Int)) 8)) ||| (shl64 (ofI64 (x117.toNat : Int)) 16)) ||| (shl64 (ofI64 (x124.toNat : Int)) 24)) ||| (shl64 (ofI64 (x131.toNat : Int)) 32)) ||| (shl64 (ofI64 (x138.toNat : Int)) 40)) ||| (shl64 (ofI64 (x145.toNat : Int)) 48))) (b := enc64 (shl64 (ofI64 (x152.toNat : Int)) 56)) (v := enc64 ((((((((ofI64 (x103.toNat : Int)) ||| (shl64 (ofI64 (x110.toNat : Int)) 8)) ||| (shl64 (ofI64 (x117.toNat : Int)) 16)) ||| (shl64 (ofI64 (x124.toNat : Int)) 24)) ||| (shl64 (ofI64 (x131.toNat : Int)) 32)) ||| (shl64 (ofI64 (x138.toNat : Int)) 40)) ||| (shl64 (ofI64 (x145.toNat : Int)) 48)) ||| (shl64 (ofI64 (x152.toNat : Int)) 56))) rfl rfl bin_or_u64) ?_
  refine WA.norm (listed' := #[true, true, true, true, true, true, true, true, true, true, true, true, true, true, true, true, true, true, true, true, true, true, true, true, true, true, true, true, true, true, true, true, true, true, true, true, true, true, true, true, true, true, true, true, true, true, false]) (by kernel_rfl) ?_
  refine WA.ex 46 rfl (by kernel_rfl) (by kernel_rfl) (by kernel_rfl) rfl ⟨_, sR⟩ (fun w_ hS_ => ex_assign (v := enc64 ((((((((ofI64 (x103.toNat : Int)) ||| (shl64 (ofI64 (x110.toNat : Int)) 8)) ||| (shl64 (ofI64 (x117.toNat : Int)) 16)) ||| (shl64 (ofI64 (x124.toNat : Int)) 24)) ||| (shl64 (ofI64 (x131.toNat : Int)) 32)) ||| (shl64 (ofI64 (x138.toNat : Int)) 40)) ||| (shl64 (ofI64 (x145.toNat : Int)) 48)) ||| (shl64 (ofI64 (x152.toNat : Int)) 56))) rfl) ?_
  refine WA.norm (listed' := #[true, true, true, true, true, true, true, true, true, true, true, true, true, true, true, true, true, true, true, true, true, true, true, true, true, true, true, true, true, true, true, true, true, true, true, true, true, true, true, true, true, true, true, true, true, true, true]) (by kernel_rfl) ?_
  refine WA.done (by kernel_rfl) ?_
  refine WC.ret ?_
  obtain rfl := Option.some.inj H
  exact ⟨_, (.tmp (enc64 ((((((((ofI64 (x103.toNat : Int)) ||| (shl64 (ofI64 (x110.toNat : Int)) 8)) ||| (shl64 (ofI64 (x117.toNat : Int)) 16)) ||| (shl64 (ofI64 (x124.toNat : Int)) 24)) ||| (shl64 (ofI64 (x131.toNat : Int)) 32)) ||| (shl64 (ofI64 (x138.toNat : Int)) 40)) ||| (shl64 (ofI64 (x145.toNat : Int)) 48)) ||| (shl64 (ofI64 (x152.toNat : Int)) 56)) : Value) rfl .nil), _, rfl, HF.out⟩
end Go.Proofs.YtaidlahjngmenaaDoor.X
