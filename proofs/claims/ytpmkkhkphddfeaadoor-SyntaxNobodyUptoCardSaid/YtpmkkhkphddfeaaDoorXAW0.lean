import Derived.Test.YtpmkkhkphddfeaaDoorXAD
import Derived.Test.YtpmkkhkphddfeaaDoorProg
import Derived.Test.YtpmkkhkphddfeaaDoorSxX
import Derived.Test.YtpmkkhkphddfeaaDoorSxW
import Derived.Test.YtpmkkhkphddfeaaDoorShelf
set_option maxRecDepth 20000
set_option linter.unusedVariables false
set_option linter.unusedSimpArgs false
set_option linter.unnecessarySimpa false
namespace Go.Proofs.YtpmkkhkphddfeaaDoor.X
open Go Go.RowKit Go.Proofs.YtpmkkhkphddfeaaDoor.SX
abbrev U3 := @Tryd.underlying3
abbrev U4 := @Tryd.underlying4
abbrev U9 := @Tryd.underlying9
abbrev U20 := @Tryd.underlying20
abbrev U22 := @Tryd.underlying22
abbrev U23 := @Tryd.underlying23
abbrev U25 := @Tryd.underlying25
abbrev U26 := @Tryd.underlying26
abbrev U28 := @Tryd.underlying28
abbrev U31 := @Tryd.underlying31
abbrev U33 := @Tryd.underlying33
abbrev U35 := @Tryd.underlying35
abbrev U43 := @Tryd.underlying43
abbrev U45 := @Tryd.underlying45
abbrev U53 := @Tryd.underlying53
abbrev U55 := @Tryd.underlying55
abbrev U59 := @Tryd.underlying59
abbrev U61 := @Tryd.underlying61
abbrev U65 := @Tryd.underlying65
abbrev U73 := @Tryd.underlying73
abbrev U79 := @Tryd.underlying79
abbrev U84 := @Tryd.underlying84
abbrev U91 := @Tryd.underlying91
abbrev U111 := @Tryd.underlying111

/-! What the program's variables hold -/
def GG : Glob := { L := [0, 1, 5, 7, 3, 4], T := fun w => Lib.Utf8Tabs 0 1 w ∧ Lib.TabIs Tryd.prog w "internal/strconv.uint64pow10" .u64 Lib.pow10Tab ∧ Lib.TabIs Tryd.prog w "math/bits.deBruijn64tab" .u8 db64I ∧ (∃ tp p, w.var? Tryd.prog "strconv.ErrSyntax" = some #[.iface tp p]) ∧ (∃ tp p, w.var? Tryd.prog "strconv.ErrRange" = some #[.iface tp p]), move := fun {w w'} hk h => ⟨⟨fun c hc => by rw [cell_move (w := w) (hk 0 (by simp))]; exact h.1.1 c hc, fun i hi => ⟨by rw [cell_move (w := w) (hk 1 (by simp))]; exact (h.1.2 i hi).1, by rw [cell_move (w := w) (hk 1 (by simp))]; exact (h.1.2 i hi).2⟩⟩, (var_move (by kernel_rfl : Tryd.prog.globalNamed "internal/strconv.uint64pow10" = some 5) (hk 5 (by simp))).trans h.2.1, (var_move (by kernel_rfl : Tryd.prog.globalNamed "math/bits.deBruijn64tab" = some 7) (hk 7 (by simp))).trans h.2.2.1, (by obtain ⟨tp, p, e⟩ := h.2.2.2.1; exact ⟨tp, p, (var_move (by kernel_rfl : Tryd.prog.globalNamed "strconv.ErrSyntax" = some 3) (hk 3 (by simp))).trans e⟩), (by obtain ⟨tp, p, e⟩ := h.2.2.2.2; exact ⟨tp, p, (var_move (by kernel_rfl : Tryd.prog.globalNamed "strconv.ErrRange" = some 4) (hk 4 (by simp))).trans e⟩)⟩ }

theorem inf45 : (Tryd.prog.info? 45).map (fun i => (i.zero, i.size, i.bytes)) = some (some (.agg #[ii 0, .string ⟨#[]⟩, ii 0, ii 0, ii 0, ii 0]), 6, 56) := by kernel_rfl
theorem inf61 : (Tryd.prog.info? 61).map (fun i => (i.zero, i.size, i.bytes)) = some (some (.agg #[ii 0, .string ⟨#[]⟩, ii 0, ii 0]), 4, 40) := by kernel_rfl
theorem key61 : KeyT Tryd.prog 61 (fun x_ : T_api_Node => Value.agg #[ii x_.f_Kind, encS x_.f_Name, ii x_.f_L, ii x_.f_R]) T_api_Node.eqb := keyT_asking U61 (fun _ _ => rfl) (fun e x w => by kernel_rfl) (fun x y => (EqR.agg U61 (by kernel_rfl) (EqF.cons (by decide) (PartR.one U59 rfl rfl) (PartR.one U59 rfl rfl) (EqR.int U59) (EqF.cons (by decide) (PartR.one U9 rfl rfl) (PartR.one U9 rfl rfl) (EqR.str U9) (EqF.cons (by decide) (PartR.one U3 rfl rfl) (PartR.one U3 rfl rfl) (EqR.int U3) (EqF.cons (by decide) (PartR.one U3 rfl rfl) (PartR.one U3 rfl rfl) (EqR.int U3) EqF.nil)))))) (fun x y h => by
 have h_ : x = y := by cases x; cases y; simp [T_api_Node.eqb, and_assoc] at h; simp [h]
 subst h_; simp [Instr.sameBits, sameBits_enc])
theorem sz3 : (Tryd.prog.info? 3).map (·.size) = some 1 := by kernel_rfl
theorem sz4 : (Tryd.prog.info? 4).map (·.size) = some 1 := by kernel_rfl
theorem sz9 : (Tryd.prog.info? 9).map (·.size) = some 1 := by kernel_rfl
theorem sz22 : (Tryd.prog.info? 22).map (·.size) = some 1 := by kernel_rfl
theorem sz23 : (Tryd.prog.info? 23).map (·.size) = some 1 := by kernel_rfl
theorem sz25 : (Tryd.prog.info? 25).map (·.size) = some 1 := by kernel_rfl
theorem sz26 : (Tryd.prog.info? 26).map (·.size) = some 1 := by kernel_rfl
theorem sz31 : (Tryd.prog.info? 31).map (·.size) = some 1 := by kernel_rfl
theorem sz33 : (Tryd.prog.info? 33).map (·.size) = some 3 := by kernel_rfl
theorem sz35 : (Tryd.prog.info? 35).map (·.size) = some 4 := by kernel_rfl
theorem sz43 : (Tryd.prog.info? 43).map (·.size) = some 1 := by kernel_rfl
theorem sz45 : (Tryd.prog.info? 45).map (·.size) = some 6 := by kernel_rfl
theorem sz53 : (Tryd.prog.info? 53).map (·.size) = some 1 := by kernel_rfl
theorem sz59 : (Tryd.prog.info? 59).map (·.size) = some 1 := by kernel_rfl
theorem sz61 : (Tryd.prog.info? 61).map (·.size) = some 4 := by kernel_rfl
theorem sz73 : (Tryd.prog.info? 73).map (·.size) = some 4 := by kernel_rfl
theorem zr3 : (Tryd.prog.info? 3).map (·.zero) = some (some (ii 0)) := by kernel_rfl
theorem zr28 : (Tryd.prog.info? 28).map (·.zero) = some (some (.agg #[.slice none 0 0, .map none])) := by kernel_rfl
theorem zr33 : (Tryd.prog.info? 33).map (·.zero) = some (some (.agg #[ii 0, ii 0, ii 0])) := by kernel_rfl
theorem zr35 : (Tryd.prog.info? 35).map (·.zero) = some (some (.agg #[ii 0, ii 0, ii 0, ii 0])) := by kernel_rfl
theorem zr45 : (Tryd.prog.info? 45).map (·.zero) = some (some (.agg #[ii 0, .string ⟨#[]⟩, ii 0, ii 0, ii 0, ii 0])) := by kernel_rfl
theorem zr53 : (Tryd.prog.info? 53).map (·.zero) = some (some (.pointer none)) := by kernel_rfl
theorem zr55 : (Tryd.prog.info? 55).map (·.zero) = some (some (.agg #[.pointer none, .slice none 0 0, ii 0, ii 0, ii 0, .bool false, .bool false])) := by kernel_rfl
theorem zr61 : (Tryd.prog.info? 61).map (·.zero) = some (some (.agg #[ii 0, .string ⟨#[]⟩, ii 0, ii 0])) := by kernel_rfl
theorem zr73 : (Tryd.prog.info? 73).map (·.zero) = some (some (.agg #[ii 0, ii 0, ii 0, ii 0])) := by kernel_rfl
theorem zr91 : (Tryd.prog.info? 91).map (·.zero) = some (some (.agg #[.string ⟨#[]⟩, ii 0, ii 0, ii 0])) := by kernel_rfl
theorem zr111 : (Tryd.prog.info? 111).map (·.zero) = some (some (.agg #[.string ⟨#[]⟩, .string ⟨#[]⟩, .string ⟨#[]⟩, .string ⟨#[]⟩, .string ⟨#[]⟩, .string ⟨#[]⟩, .string ⟨#[]⟩, .string ⟨#[]⟩, .string ⟨#[]⟩, .string ⟨#[]⟩, .string ⟨#[]⟩, .string ⟨#[]⟩, .string ⟨#[]⟩, .string ⟨#[]⟩, .string ⟨#[]⟩, .string ⟨#[]⟩, .string ⟨#[]⟩, .string ⟨#[]⟩, .string ⟨#[]⟩, .string ⟨#[]⟩])) := by kernel_rfl

/-! ### formula_Table_alive_nil -/
set_option maxRecDepth 100000 in
theorem formula_Table_alive_nil.calls (o0 : Tags) (w0 : World) (r : Bool) (hO : ∀ b, b < w0.heap.size → o0 b < 40) (H : formula_Table_alive_nil.f = some r) :
  Calls Tryd.prog 26 [.pointer none].toArray w0 fun e_ w_ => ∃ (o_ : Tags), e_ = .returned (one [.bool r]) ∧ Step o0 w0 o_ w_ [] := by
 have HF := Fm.refl hO []
 unfold formula_Table_alive_nil.f at H
 refine SX.calls [.pointer none] Tryd.func26 rfl rfl ?_
 rw [Tryd.ntmps26]
 refine WC.seq <|
  WC.region <|
  E rfl (sg (.bool false) rfl) <|
  WL.nil <|
  WC.seq <|
  WC.region <|
  E rfl (mv (.pointer none) rfl) <|
  E rfl (ex_bin (a := .pointer none) (b := .pointer none) (v := .bool false) rfl rfl (bin_neq_ptrNN U23)) <|
  E rfl (mv (.bool false) rfl) <|
  WL.guardNo rfl rfl rfl rfl <|
  WL.guardNo rfl rfl rfl rfl <|
  WL.guardNo rfl rfl rfl rfl <|
  WL.guardNo rfl rfl rfl rfl <|
  WL.guardNo rfl rfl rfl rfl <|
  E rfl (ex_pick_f (v := .bool false) rfl rfl) <|
  E rfl (sg (.bool false) rfl) <|
  WL.nil <|
  WC.ret ?_
 obtain rfl := Option.some.inj H
 exact ⟨_, (.tmp (.bool false : Value) rfl .nil), _, rfl, HF.out⟩

/-! ### formula_Table_Copy_nil -/
set_option maxRecDepth 100000 in
theorem formula_Table_Copy_nil.calls (o0 : Tags) (w0 : World) (r : Unit) (hO : ∀ b, b < w0.heap.size → o0 b < 40) (H : formula_Table_Copy_nil.f = some r) :
  Calls Tryd.prog 27 [.pointer none].toArray w0 fun e_ w_ => ∃ (o_ : Tags), e_ = .returned (one [.pointer none]) ∧ Step o0 w0 o_ w_ [] := by
 have HF := Fm.refl hO []
 unfold formula_Table_Copy_nil.f at H
 refine SX.calls [.pointer none] Tryd.func27 rfl rfl ?_
 rw [Tryd.ntmps27]
 refine WC.seq <|
  WC.region <|
  E rfl (sg (.pointer none) rfl) <|
  WL.nil <|
  WC.seq <|
  WC.seq <|
  WC.region <|
  E rfl (mv (.pointer none) rfl) ?_
 obtain ⟨z101, hz101, H⟩ := bindE H
 refine WL.op rfl <|
  OW.call [.pointer none] rfl Tryd.func26 (by kernel_rfl) (by kernel_rfl) (map_cons' rfl rfl) (formula_Table_alive_nil.calls _ _ z101 (HF.ten (V := [0]) (L := []) rfl)  hz101) ?_
 obtain rfl := Option.some.inj (show some false = some z101 from hz101)
 rintro _ w102 ⟨o103, rfl, s104⟩
 refine ⟨_, rfl, ?_⟩
 replace s104 := un_stepL (J := []) (L' := []) s104 rfl rfl
 replace HF := HF.step s104 rfl
 refine E rfl (ex_not (b := false) rfl) <|
  WL.nil <|
  WC.cond_t rfl <|
  WC.seq <|
  WC.region <|
  E rfl (sg (.pointer none) rfl) <|
  WL.nil <|
  WC.ret ?_
 obtain rfl := Option.some.inj H
 exact ⟨_, (.tmp (.pointer none : Value) rfl .nil), _, rfl, HF.out⟩

/-! ### syntax_known_nil -/
set_option maxRecDepth 100000 in
theorem syntax_known_nil.calls (o0 : Tags) (w0 : World) (r : Bool) (hO : ∀ b, b < w0.heap.size → o0 b < 40) (H : syntax_known_nil.f = some r) :
  Calls Tryd.prog 13 [.pointer none].toArray w0 fun e_ w_ => ∃ (o_ : Tags), e_ = .returned (one [.bool r]) ∧ Step o0 w0 o_ w_ [] := by
 have HF := Fm.refl hO []
 unfold syntax_known_nil.f at H
 refine SX.calls [.pointer none] Tryd.func13 rfl rfl ?_
 rw [Tryd.ntmps13]
 refine WC.seq <|
  WC.region <|
  E rfl (sg (.bool false) rfl) <|
  WL.nil <|
  WC.seq <|
  WC.region <|
  E rfl (mv (.pointer none) rfl) ?_
 obtain ⟨z101, hz101, H⟩ := bindE H
 refine WL.op rfl <|
  OW.call [.pointer none] rfl Tryd.func27 (by kernel_rfl) (by kernel_rfl) (map_cons' rfl rfl) (formula_Table_Copy_nil.calls _ _ z101 (HF.ten (V := [0]) (L := []) rfl)  hz101) ?_
 obtain rfl := Option.some.inj (show some () = some z101 from hz101)
 rintro _ w102 ⟨o103, rfl, s104⟩
 refine ⟨_, rfl, ?_⟩
 replace s104 := un_stepL (J := []) (L' := []) s104 rfl rfl
 replace HF := HF.step s104 rfl
 refine E rfl (ex_bin (a := .pointer none) (b := .pointer none) (v := .bool false) rfl rfl (bin_neq_ptrNN U23)) <|
  E rfl (sg (.bool false) rfl) <|
  WL.nil <|
  WC.ret ?_
 obtain rfl := Option.some.inj H
 exact ⟨_, (.tmp (.bool false : Value) rfl .nil), _, rfl, HF.out⟩

/-! ### syntax_Parse_nil -/
set_option maxRecDepth 100000 in
theorem syntax_Parse_nil.calls (o0 : Tags) (w0 : World) (a1 : List UInt8) (r : Int × T_api_Fault) (hO : ∀ b, b < w0.heap.size → o0 b < 40) (H : syntax_Parse_nil.f a1 = some r) :
  Calls Tryd.prog 6 [.pointer none, encS a1].toArray w0 fun e_ w_ => ∃ (o_ : Tags), e_ = .returned (one [ii r.1, .agg #[ii r.2.f_Code, ii r.2.f_At.f_Line, ii r.2.f_At.f_Col, ii r.2.f_At.f_Off]]) ∧ Step o0 w0 o_ w_ [] := by
 have HF := Fm.refl hO []
 unfold syntax_Parse_nil.f at H
 refine SX.calls [.pointer none, encS a1] Tryd.func6 rfl rfl ?_
 rw [Tryd.ntmps6]
 refine WC.seq <|
  WC.region <|
  E rfl (sg (ii 0) rfl) <|
  WL.op rfl <|
  OW.alloc' [ii (0 : Int), ii (0 : Int), ii (0 : Int), ii (0 : Int)] 40 HF rfl zr35 rfl ?_
 intro o102 w103 b101 s104 hB105
 replace HF := HF.step s104 rfl
 refine WL.nil <|
  WC.seq <|
  WC.seq <|
  WC.region <|
  E rfl (mv (.pointer none) rfl) ?_
 obtain ⟨z106, hz106, H⟩ := bindE H
 refine WL.op rfl <|
  OW.call [.pointer none] rfl Tryd.func13 (by kernel_rfl) (by kernel_rfl) (map_cons' rfl rfl) (syntax_known_nil.calls _ _ z106 (HF.ten (V := [0]) (L := []) rfl)  hz106) ?_
 obtain rfl := Option.some.inj (show some false = some z106 from hz106)
 rintro _ w107 ⟨o108, rfl, s109⟩
 refine ⟨_, rfl, ?_⟩
 replace s109 := un_stepL (J := []) (L' := []) s109 rfl rfl
 replace hB105 := hB105.step s109 rfl
 replace HF := HF.step s109 rfl
 refine E rfl (ex_not (b := false) rfl) <|
  WL.nil <|
  WC.cond_t rfl <|
  WC.seq <|
  WC.region <|
  E rfl (ex_build (cs := [ii 1, ii (0 : Int), ii (0 : Int), ii (0 : Int)]) [(0, 1), (1, 3)] [(0, ii 1)] [ii 0, ii 0, ii 0, ii 0] U35 zr35 rfl (by kernel_rfl) (evs_cons rfl rfl) rfl) <|
  E rfl (sg (ii 0) rfl) <|
  WL.op rfl <|
  OW.storeW rfl rfl sz35 hB105 rfl (oa rfl) ?_
 intro w110 s111 hB112
 replace HF := HF.step s111 rfl
 refine WL.nil <|
  WC.ret ?_
 obtain rfl := Option.some.inj H
 exact ⟨_, (.tmp (ii 0 : Value) rfl (.cell (.agg #[ii 1, ii (0 : Int), ii (0 : Int), ii (0 : Int)] : Value) rfl (run_loadN (cs := [ii 1, ii (0 : Int), ii (0 : Int), ii (0 : Int)]) U35 rfl sz35 (hB112.cells rfl)) .nil)), _, rfl, HF.out⟩

/-! ### syntax_Take_nil -/
set_option maxRecDepth 100000 in
theorem syntax_Take_nil.calls (o0 : Tags) (w0 : World) (pA1 : Option Addr) (pc1 : Nat) (a1 : (List T_api_Token)) (r : Int × Int × T_api_Fault) (hO : ∀ b, b < w0.heap.size → o0 b < 40) (hra1 : Row T_api_Token.rep (fun b_ => o0 b_ = 0) (fun b_ => o0 b_ = 0) w0 pA1 a1) (hla1 : a1.length ≤ pc1) (H : syntax_Take_nil.f a1 = some r) :
  Calls Tryd.prog 7 [.pointer none, .slice pA1 a1.length pc1].toArray w0 fun e_ w_ => ∃ (o_ : Tags), e_ = .returned (one [ii r.1, ii r.2.1, .agg #[ii r.2.2.f_Code, ii r.2.2.f_At.f_Line, ii r.2.2.f_At.f_Col, ii r.2.2.f_At.f_Off]]) ∧ Step o0 w0 o_ w_ [] := by
 have HF := Fm.refl hO []
 unfold syntax_Take_nil.f at H
 refine SX.calls [.pointer none, .slice pA1 a1.length pc1] Tryd.func7 rfl rfl ?_
 rw [Tryd.ntmps7]
 refine WC.seq <|
  WC.region <|
  E rfl (sg (ii 0) rfl) <|
  E rfl (sg (ii 0) rfl) <|
  WL.op rfl <|
  OW.alloc' [ii (0 : Int), ii (0 : Int), ii (0 : Int), ii (0 : Int)] 40 HF rfl zr35 rfl ?_
 intro o102 w103 b101 s104 hB105
 replace hra1 := hra1.step s104 rfl
 replace HF := HF.step s104 rfl
 refine WL.nil <|
  WC.seq <|
  WC.seq <|
  WC.region <|
  E rfl (mv (.pointer none) rfl) ?_
 obtain ⟨z106, hz106, H⟩ := bindE H
 refine WL.op rfl <|
  OW.call [.pointer none] rfl Tryd.func13 (by kernel_rfl) (by kernel_rfl) (map_cons' rfl rfl) (syntax_known_nil.calls _ _ z106 (HF.ten (V := [0]) (L := []) rfl)  hz106) ?_
 obtain rfl := Option.some.inj (show some false = some z106 from hz106)
 rintro _ w107 ⟨o108, rfl, s109⟩
 refine ⟨_, rfl, ?_⟩
 replace s109 := un_stepL (J := []) (L' := []) s109 rfl rfl
 replace hra1 := hra1.step s109 rfl
 replace hB105 := hB105.step s109 rfl
 replace HF := HF.step s109 rfl
 refine E rfl (ex_not (b := false) rfl) <|
  WL.nil <|
  WC.cond_t rfl <|
  WC.seq <|
  WC.region <|
  E rfl (ex_build (cs := [ii 1, ii (0 : Int), ii (0 : Int), ii (0 : Int)]) [(0, 1), (1, 3)] [(0, ii 1)] [ii 0, ii 0, ii 0, ii 0] U35 zr35 rfl (by kernel_rfl) (evs_cons rfl rfl) rfl) <|
  E rfl (sg (ii 0) rfl) <|
  E rfl (sg (ii 0) rfl) <|
  WL.op rfl <|
  OW.storeW rfl rfl sz35 hB105 rfl (oa rfl) ?_
 intro w110 s111 hB112
 replace hra1 := hra1.step s111 rfl
 replace HF := HF.step s111 rfl
 refine WL.nil <|
  WC.ret ?_
 obtain rfl := Option.some.inj H
 exact ⟨_, (.tmp (ii 0 : Value) rfl (.tmp (ii 0 : Value) rfl (.cell (.agg #[ii 1, ii (0 : Int), ii (0 : Int), ii (0 : Int)] : Value) rfl (run_loadN (cs := [ii 1, ii (0 : Int), ii (0 : Int), ii (0 : Int)]) U35 rfl sz35 (hB112.cells rfl)) .nil))), _, rfl, HF.out⟩

/-! ### syntax_Print_nil -/
set_option maxRecDepth 100000 in
theorem syntax_Print_nil.calls (o0 : Tags) (w0 : World) (a1 : Int) (r : (List UInt8) × Int) (hO : ∀ b, b < w0.heap.size → o0 b < 40) (H : syntax_Print_nil.f a1 = some r) :
  Calls Tryd.prog 8 [.pointer none, ii a1].toArray w0 fun e_ w_ => ∃ (o_ : Tags), e_ = .returned (one [encS r.1, ii r.2]) ∧ Step o0 w0 o_ w_ [] := by
 have HF := Fm.refl hO []
 unfold syntax_Print_nil.f at H
 refine SX.calls [.pointer none, ii a1] Tryd.func8 rfl rfl ?_
 rw [Tryd.ntmps8]
 refine WC.seq <|
  WC.region <|
  E rfl (sg (encS ([] : List UInt8)) rfl) <|
  E rfl (sg (ii 0) rfl) <|
  WL.nil <|
  WC.seq <|
  WC.seq <|
  WC.region <|
  E rfl (mv (.pointer none) rfl) ?_
 obtain ⟨z101, hz101, H⟩ := bindE H
 refine WL.op rfl <|
  OW.call [.pointer none] rfl Tryd.func13 (by kernel_rfl) (by kernel_rfl) (map_cons' rfl rfl) (syntax_known_nil.calls _ _ z101 (HF.ten (V := [0]) (L := []) rfl)  hz101) ?_
 obtain rfl := Option.some.inj (show some false = some z101 from hz101)
 rintro _ w102 ⟨o103, rfl, s104⟩
 refine ⟨_, rfl, ?_⟩
 replace s104 := un_stepL (J := []) (L' := []) s104 rfl rfl
 replace HF := HF.step s104 rfl
 refine E rfl (ex_not (b := false) rfl) <|
  WL.nil <|
  WC.cond_t rfl <|
  WC.seq <|
  WC.region <|
  E rfl (sg (encS ([] : List UInt8)) rfl) <|
  E rfl (sg (ii 1) rfl) <|
  WL.nil <|
  WC.ret ?_
 obtain rfl := Option.some.inj H
 exact ⟨_, (.tmp (encS ([] : List UInt8) : Value) rfl (.tmp (ii 1 : Value) rfl .nil)), _, rfl, HF.out⟩

/-! ### dictumlaw04_nobody_nil -/
set_option maxRecDepth 100000 in
theorem dictumlaw04_nobody_nil.calls (o0 : Tags) (w0 : World) (pA2 : Option Addr) (pc2 : Nat) (a1 : List UInt8) (a2 : (List T_api_Token)) (a3 : Int) (r : Bool) (hO : ∀ b, b < w0.heap.size → o0 b < 40) (hra2 : Row T_api_Token.rep (fun b_ => o0 b_ = 0) (fun b_ => o0 b_ = 0) w0 pA2 a2) (hla2 : a2.length ≤ pc2) (H : dictumlaw04_nobody_nil.f a1 a2 a3 = some r) :
  Calls Tryd.prog 4 [.pointer none, encS a1, .slice pA2 a2.length pc2, ii a3].toArray w0 fun e_ w_ => ∃ (o_ : Tags), e_ = .returned (one [.bool r]) ∧ Step o0 w0 o_ w_ [] := by
 have HF := Fm.refl hO []
 unfold dictumlaw04_nobody_nil.f at H
 refine SX.calls [.pointer none, encS a1, .slice pA2 a2.length pc2, ii a3] Tryd.func4 rfl rfl ?_
 rw [Tryd.ntmps4]
 refine WC.seq <|
  WC.region <|
  E rfl (sg (.bool false) rfl) <|
  WL.nil <|
  WC.seq <|
  WC.region <|
  E rfl (mv (.pointer none) rfl) <|
  E rfl (mv (encS a1) rfl) ?_
 obtain ⟨z101, hz101, H⟩ := bindE H
 refine WL.op rfl <|
  OW.call [.pointer none, encS a1] rfl Tryd.func6 (by kernel_rfl) (by kernel_rfl) (map_cons' rfl (map_cons' rfl rfl)) (syntax_Parse_nil.calls _ _ a1 z101 (HF.ten (V := [0]) (L := []) rfl)  hz101) ?_
 rintro _ w102 ⟨o103, rfl, s104⟩
 refine ⟨_, rfl, ?_⟩
 replace s104 := un_stepL (J := []) (L' := []) s104 rfl rfl
 replace hra2 := hra2.step s104 rfl
 replace HF := HF.step s104 rfl
 refine E rfl (mv (.tuple #[ii z101.1, .agg #[ii z101.2.f_Code, ii z101.2.f_At.f_Line, ii z101.2.f_At.f_Col, ii z101.2.f_At.f_Off]]) rfl) <|
  E rfl (ex_extract rfl rfl) <|
  E rfl (ex_extract rfl rfl) <|
  WL.op rfl <|
  OW.alloc' [ii (0 : Int), ii (0 : Int), ii (0 : Int), ii (0 : Int)] 40 HF rfl zr35 rfl ?_
 intro o106 w107 b105 s108 hB109
 replace hra2 := hra2.step s108 rfl
 replace HF := HF.step s108 rfl
 refine E rfl (sg (ii z101.1) rfl) <|
  WL.op rfl <|
  OW.storeW rfl rfl sz35 hB109 rfl (oa rfl) ?_
 intro w110 s111 hB112
 replace hra2 := hra2.step s111 rfl
 replace HF := HF.step s111 rfl
 refine WL.nil <|
  WC.seq <|
  WC.region <|
  E rfl (mv (.pointer none) rfl) <|
  E rfl (mv (.slice pA2 a2.length pc2) rfl) ?_
 obtain ⟨z113, hz113, H⟩ := bindE H
 refine WL.op rfl <|
  OW.call [.pointer none, .slice pA2 a2.length pc2] rfl Tryd.func7 (by kernel_rfl) (by kernel_rfl) (map_cons' rfl (map_cons' rfl rfl)) (syntax_Take_nil.calls _ _ pA2 pc2 a2 z113 (HF.ten (V := [0]) (L := []) rfl) (Row.vw hra2 rfl) hla2 hz113) ?_
 rintro _ w114 ⟨o115, rfl, s116⟩
 refine ⟨_, rfl, ?_⟩
 replace s116 := un_stepL (J := []) (L' := []) s116 rfl rfl
 replace hra2 := hra2.step s116 rfl
 replace hB112 := hB112.step s116 rfl
 replace HF := HF.step s116 rfl
 refine E rfl (mv (.tuple #[ii z113.1, ii z113.2.1, .agg #[ii z113.2.2.f_Code, ii z113.2.2.f_At.f_Line, ii z113.2.2.f_At.f_Col, ii z113.2.2.f_At.f_Off]]) rfl) <|
  E rfl (ex_extract rfl rfl) <|
  E rfl (ex_extract rfl rfl) <|
  E rfl (ex_extract rfl rfl) <|
  WL.op rfl <|
  OW.alloc' [ii (0 : Int), ii (0 : Int), ii (0 : Int), ii (0 : Int)] 41 HF rfl zr35 rfl ?_
 intro o118 w119 b117 s120 hB121
 replace hra2 := hra2.step s120 rfl
 replace hB112 := hB112.step s120 rfl
 replace HF := HF.step s120 rfl
 refine E rfl (sg (ii z113.1) rfl) <|
  E rfl (sg (ii z113.2.1) rfl) <|
  WL.op rfl <|
  OW.storeW rfl rfl sz35 hB121 rfl (oa rfl) ?_
 intro w122 s123 hB124
 replace hra2 := hra2.step s123 rfl
 replace hB112 := hB112.step s123 rfl
 replace HF := HF.step s123 rfl
 refine WL.nil <|
  WC.seq <|
  WC.region <|
  E rfl (mv (.pointer none) rfl) <|
  E rfl (mv (ii a3) rfl) ?_
 obtain ⟨z125, hz125, H⟩ := bindE H
 refine WL.op rfl <|
  OW.call [.pointer none, ii a3] rfl Tryd.func8 (by kernel_rfl) (by kernel_rfl) (map_cons' rfl (map_cons' rfl rfl)) (syntax_Print_nil.calls _ _ a3 z125 (HF.ten (V := [0]) (L := []) rfl)  hz125) ?_
 obtain rfl := Option.some.inj (show some (([] : List UInt8), 1) = some z125 from hz125)
 rintro _ w126 ⟨o127, rfl, s128⟩
 refine ⟨_, rfl, ?_⟩
 replace s128 := un_stepL (J := []) (L' := []) s128 rfl rfl
 replace hra2 := hra2.step s128 rfl
 replace hB112 := hB112.step s128 rfl
 replace hB124 := hB124.step s128 rfl
 replace HF := HF.step s128 rfl
 refine E rfl (mv (.tuple #[encS ([] : List UInt8), ii 1]) rfl) <|
  E rfl (ex_extract rfl rfl) <|
  E rfl (ex_extract rfl rfl) <|
  E rfl (sg (encS ([] : List UInt8)) rfl) <|
  E rfl (sg (ii 1) rfl) <|
  WL.nil <|
  WC.seq <|
  WC.region <|
  E rfl (ex_build (cs := [ii 1, ii (0 : Int), ii (0 : Int), ii (0 : Int)]) [(0, 1), (1, 3)] [(0, ii 1)] [ii 0, ii 0, ii 0, ii 0] U35 zr35 rfl (by kernel_rfl) (evs_cons rfl rfl) rfl) <|
  WL.op rfl <|
  OW.alloc' [ii (0 : Int), ii (0 : Int), ii (0 : Int), ii (0 : Int)] 42 HF rfl zr35 rfl ?_
 intro o130 w131 b129 s132 hB133
 replace hra2 := hra2.step s132 rfl
 replace hB112 := hB112.step s132 rfl
 replace hB124 := hB124.step s132 rfl
 replace HF := HF.step s132 rfl
 refine WL.op rfl <|
  OW.storeW rfl rfl sz35 hB133 rfl (oa rfl) ?_
 intro w134 s135 hB136
 replace hra2 := hra2.step s135 rfl
 replace hB112 := hB112.step s135 rfl
 replace hB124 := hB124.step s135 rfl
 replace HF := HF.step s135 rfl
 refine WL.nil <|
  WC.seq <|
  WC.region <|
  E rfl (mv (ii z101.1) rfl) <|
  E rfl (e2 bin_eql rfl rfl) <|
  E rfl (mv (.bool (z101.1 == 0)) rfl) ?_
 rcases condE H with ⟨c137, H⟩ | ⟨c137, H⟩
 ·
  refine WL.guardYes rfl rfl rfl (vb c137 rfl) <|
   OW.ex rfl (ex_loadN (cs := [ii z101.2.f_Code, ii z101.2.f_At.f_Line, ii z101.2.f_At.f_Col, ii z101.2.f_At.f_Off]) rfl U35 rfl sz35 (hB112.cells rfl)) <|
   WL.guardYes rfl rfl rfl (vb c137 rfl) <|
   OW.ex rfl (ex_loadN (cs := [ii 1, ii (0 : Int), ii (0 : Int), ii (0 : Int)]) rfl U35 rfl sz35 (hB136.cells rfl)) <|
   WL.guardYes rfl rfl rfl (vb c137 rfl) <|
   OW.ex rfl (ex_bin (a := .agg #[ii z101.2.f_Code, ii z101.2.f_At.f_Line, ii z101.2.f_At.f_Col, ii z101.2.f_At.f_Off]) (b := .agg #[ii 1, ii (0 : Int), ii (0 : Int), ii (0 : Int)]) (v := .bool (T_api_Fault.eqb z101.2 (⟨1, (⟨(0 : Int), (0 : Int), (0 : Int)⟩ : T_api_Spot)⟩ : T_api_Fault))) rfl rfl (bin_eql_agg (by kernel_rfl) (EqR.agg U35 (by kernel_rfl) (EqF.cons (by decide) (PartR.one U31 rfl rfl) (PartR.one U31 rfl rfl) (EqR.int U31) (EqF.cons (by decide) (PartR.many U33 rfl sz33) (PartR.many U33 rfl sz33) (EqR.agg U33 (by kernel_rfl) (EqF.cons (by decide) (PartR.one U3 rfl rfl) (PartR.one U3 rfl rfl) (EqR.int U3) (EqF.cons (by decide) (PartR.one U3 rfl rfl) (PartR.one U3 rfl rfl) (EqR.int U3) (EqF.cons (by decide) (PartR.one U3 rfl rfl) (PartR.one U3 rfl rfl) (EqR.int U3) EqF.nil)))) EqF.nil))))) <|
   E rfl (ex_pick_t (v := .bool (T_api_Fault.eqb z101.2 (⟨1, (⟨(0 : Int), (0 : Int), (0 : Int)⟩ : T_api_Spot)⟩ : T_api_Fault))) (vb c137 rfl) rfl) <|
   E rfl (mv (.bool (T_api_Fault.eqb z101.2 (⟨1, (⟨(0 : Int), (0 : Int), (0 : Int)⟩ : T_api_Spot)⟩ : T_api_Fault))) rfl) ?_
  rcases condE H with ⟨c138, H⟩ | ⟨c138, H⟩
  ·
   refine WL.guardYes rfl rfl rfl (vb c138 rfl) <|
    OW.ex rfl (mv (ii z113.1) rfl) <|
    WL.guardYes rfl rfl rfl (vb c138 rfl) <|
    OW.ex rfl (e2 bin_eql rfl rfl) <|
    E rfl (ex_pick_t (v := .bool (z113.1 == 0)) (vb c138 rfl) rfl) <|
    E rfl (mv (.bool (z113.1 == 0)) rfl) ?_
   rcases condE H with ⟨c139, H⟩ | ⟨c139, H⟩
   ·
    refine WL.guardYes rfl rfl rfl (vb c139 rfl) <|
     OW.ex rfl (mv (ii z113.2.1) rfl) <|
     WL.guardYes rfl rfl rfl (vb c139 rfl) <|
     OW.ex rfl (e2 bin_eql rfl rfl) <|
     E rfl (ex_pick_t (v := .bool (z113.2.1 == 0)) (vb c139 rfl) rfl) <|
     E rfl (mv (.bool (z113.2.1 == 0)) rfl) ?_
    rcases condE H with ⟨c140, H⟩ | ⟨c140, H⟩
    ·
     refine WL.guardYes rfl rfl rfl (vb c140 rfl) <|
      OW.ex rfl (ex_loadN (cs := [ii z113.2.2.f_Code, ii z113.2.2.f_At.f_Line, ii z113.2.2.f_At.f_Col, ii z113.2.2.f_At.f_Off]) rfl U35 rfl sz35 (hB124.cells rfl)) <|
      WL.guardYes rfl rfl rfl (vb c140 rfl) <|
      OW.ex rfl (ex_loadN (cs := [ii 1, ii (0 : Int), ii (0 : Int), ii (0 : Int)]) rfl U35 rfl sz35 (hB136.cells rfl)) <|
      WL.guardYes rfl rfl rfl (vb c140 rfl) <|
      OW.ex rfl (ex_bin (a := .agg #[ii z113.2.2.f_Code, ii z113.2.2.f_At.f_Line, ii z113.2.2.f_At.f_Col, ii z113.2.2.f_At.f_Off]) (b := .agg #[ii 1, ii (0 : Int), ii (0 : Int), ii (0 : Int)]) (v := .bool (T_api_Fault.eqb z113.2.2 (⟨1, (⟨(0 : Int), (0 : Int), (0 : Int)⟩ : T_api_Spot)⟩ : T_api_Fault))) rfl rfl (bin_eql_agg (by kernel_rfl) (EqR.agg U35 (by kernel_rfl) (EqF.cons (by decide) (PartR.one U31 rfl rfl) (PartR.one U31 rfl rfl) (EqR.int U31) (EqF.cons (by decide) (PartR.many U33 rfl sz33) (PartR.many U33 rfl sz33) (EqR.agg U33 (by kernel_rfl) (EqF.cons (by decide) (PartR.one U3 rfl rfl) (PartR.one U3 rfl rfl) (EqR.int U3) (EqF.cons (by decide) (PartR.one U3 rfl rfl) (PartR.one U3 rfl rfl) (EqR.int U3) (EqF.cons (by decide) (PartR.one U3 rfl rfl) (PartR.one U3 rfl rfl) (EqR.int U3) EqF.nil)))) EqF.nil))))) <|
      E rfl (ex_pick_t (v := .bool (T_api_Fault.eqb z113.2.2 (⟨1, (⟨(0 : Int), (0 : Int), (0 : Int)⟩ : T_api_Spot)⟩ : T_api_Fault))) (vb c140 rfl) rfl) <|
      E rfl (mv (.bool (T_api_Fault.eqb z113.2.2 (⟨1, (⟨(0 : Int), (0 : Int), (0 : Int)⟩ : T_api_Spot)⟩ : T_api_Fault))) rfl) ?_
     rcases condE H with ⟨c141, H⟩ | ⟨c141, H⟩
     ·
      refine WL.guardYes rfl rfl rfl (vb c141 rfl) <|
       OW.ex rfl (mv (encS ([] : List UInt8)) rfl) <|
       WL.guardYes rfl rfl rfl (vb c141 rfl) <|
       OW.ex rfl (e2 bin_eql_str rfl rfl) <|
       E rfl (ex_pick_t (v := .bool (([] : List UInt8) == ([] : List UInt8))) (vb c141 rfl) rfl) <|
       E rfl (mv (.bool (([] : List UInt8) == ([] : List UInt8))) rfl) ?_
      rcases condE H with ⟨c142, H⟩ | ⟨c142, H⟩
      ·
       refine WL.guardYes rfl rfl rfl (vb c142 rfl) <|
        OW.ex rfl (mv (ii 1) rfl) <|
        WL.guardYes rfl rfl rfl (vb c142 rfl) <|
        OW.ex rfl (e2 bin_eql rfl rfl) <|
        E rfl (ex_pick_t (v := .bool (1 == 1)) (vb c142 rfl) rfl) <|
        E rfl (sg (.bool (1 == 1)) rfl) <|
        WL.nil <|
        WC.ret ?_
       obtain rfl := Option.some.inj H
       exact ⟨_, (.tmp (.bool (1 == 1) : Value) rfl .nil), _, rfl, HF.out⟩
      ·
       refine WL.guardNo rfl rfl rfl (vb c142 rfl) <|
        WL.guardNo rfl rfl rfl (vb c142 rfl) <|
        E rfl (ex_pick_f (v := .bool false) (vb c142 rfl) rfl) <|
        E rfl (sg (.bool false) rfl) <|
        WL.nil <|
        WC.ret ?_
       obtain rfl := Option.some.inj H
       exact ⟨_, (.tmp (.bool false : Value) rfl .nil), _, rfl, HF.out⟩
     ·
      refine WL.guardNo rfl rfl rfl (vb c141 rfl) <|
       WL.guardNo rfl rfl rfl (vb c141 rfl) <|
       E rfl (ex_pick_f (v := .bool false) (vb c141 rfl) rfl) <|
       E rfl (mv (.bool false) rfl) <|
       WL.guardNo rfl rfl rfl rfl <|
       WL.guardNo rfl rfl rfl rfl <|
       E rfl (ex_pick_f (v := .bool false) rfl rfl) <|
       E rfl (sg (.bool false) rfl) <|
       WL.nil <|
       WC.ret ?_
      obtain rfl := Option.some.inj H
      exact ⟨_, (.tmp (.bool false : Value) rfl .nil), _, rfl, HF.out⟩
    ·
     refine WL.guardNo rfl rfl rfl (vb c140 rfl) <|
      WL.guardNo rfl rfl rfl (vb c140 rfl) <|
      WL.guardNo rfl rfl rfl (vb c140 rfl) <|
      E rfl (ex_pick_f (v := .bool false) (vb c140 rfl) rfl) <|
      E rfl (mv (.bool false) rfl) <|
      WL.guardNo rfl rfl rfl rfl <|
      WL.guardNo rfl rfl rfl rfl <|
      E rfl (ex_pick_f (v := .bool false) rfl rfl) <|
      E rfl (mv (.bool false) rfl) <|
      WL.guardNo rfl rfl rfl rfl <|
      WL.guardNo rfl rfl rfl rfl <|
      E rfl (ex_pick_f (v := .bool false) rfl rfl) <|
      E rfl (sg (.bool false) rfl) <|
      WL.nil <|
      WC.ret ?_
     obtain rfl := Option.some.inj H
     exact ⟨_, (.tmp (.bool false : Value) rfl .nil), _, rfl, HF.out⟩
   ·
    refine WL.guardNo rfl rfl rfl (vb c139 rfl) <|
     WL.guardNo rfl rfl rfl (vb c139 rfl) <|
     E rfl (ex_pick_f (v := .bool false) (vb c139 rfl) rfl) <|
     E rfl (mv (.bool false) rfl) <|
     WL.guardNo rfl rfl rfl rfl <|
     WL.guardNo rfl rfl rfl rfl <|
     WL.guardNo rfl rfl rfl rfl <|
     E rfl (ex_pick_f (v := .bool false) rfl rfl) <|
     E rfl (mv (.bool false) rfl) <|
     WL.guardNo rfl rfl rfl rfl <|
     WL.guardNo rfl rfl rfl rfl <|
     E rfl (ex_pick_f (v := .bool false) rfl rfl) <|
     E rfl (mv (.bool false) rfl) <|
     WL.guardNo rfl rfl rfl rfl <|
     WL.guardNo rfl rfl rfl rfl <|
     E rfl (ex_pick_f (v := .bool false) rfl rfl) <|
     E rfl (sg (.bool false) rfl) <|
     WL.nil <|
     WC.ret ?_
    obtain rfl := Option.some.inj H
    exact ⟨_, (.tmp (.bool false : Value) rfl .nil), _, rfl, HF.out⟩
  ·
   refine WL.guardNo rfl rfl rfl (vb c138 rfl) <|
    WL.guardNo rfl rfl rfl (vb c138 rfl) <|
    E rfl (ex_pick_f (v := .bool false) (vb c138 rfl) rfl) <|
    E rfl (mv (.bool false) rfl) <|
    WL.guardNo rfl rfl rfl rfl <|
    WL.guardNo rfl rfl rfl rfl <|
    E rfl (ex_pick_f (v := .bool false) rfl rfl) <|
    E rfl (mv (.bool false) rfl) <|
    WL.guardNo rfl rfl rfl rfl <|
    WL.guardNo rfl rfl rfl rfl <|
    WL.guardNo rfl rfl rfl rfl <|
    E rfl (ex_pick_f (v := .bool false) rfl rfl) <|
    E rfl (mv (.bool false) rfl) <|
    WL.guardNo rfl rfl rfl rfl <|
    WL.guardNo rfl rfl rfl rfl <|
    E rfl (ex_pick_f (v := .bool false) rfl rfl) <|
    E rfl (mv (.bool false) rfl) <|
    WL.guardNo rfl rfl rfl rfl <|
    WL.guardNo rfl rfl rfl rfl <|
    E rfl (ex_pick_f (v := .bool false) rfl rfl) <|
    E rfl (sg (.bool false) rfl) <|
    WL.nil <|
    WC.ret ?_
   obtain rfl := Option.some.inj H
   exact ⟨_, (.tmp (.bool false : Value) rfl .nil), _, rfl, HF.out⟩
 ·
  refine WL.guardNo rfl rfl rfl (vb c137 rfl) <|
   WL.guardNo rfl rfl rfl (vb c137 rfl) <|
   WL.guardNo rfl rfl rfl (vb c137 rfl) <|
   E rfl (ex_pick_f (v := .bool false) (vb c137 rfl) rfl) <|
   E rfl (mv (.bool false) rfl) <|
   WL.guardNo rfl rfl rfl rfl <|
   WL.guardNo rfl rfl rfl rfl <|
   E rfl (ex_pick_f (v := .bool false) rfl rfl) <|
   E rfl (mv (.bool false) rfl) <|
   WL.guardNo rfl rfl rfl rfl <|
   WL.guardNo rfl rfl rfl rfl <|
   E rfl (ex_pick_f (v := .bool false) rfl rfl) <|
   E rfl (mv (.bool false) rfl) <|
   WL.guardNo rfl rfl rfl rfl <|
   WL.guardNo rfl rfl rfl rfl <|
   WL.guardNo rfl rfl rfl rfl <|
   E rfl (ex_pick_f (v := .bool false) rfl rfl) <|
   E rfl (mv (.bool false) rfl) <|
   WL.guardNo rfl rfl rfl rfl <|
   WL.guardNo rfl rfl rfl rfl <|
   E rfl (ex_pick_f (v := .bool false) rfl rfl) <|
   E rfl (mv (.bool false) rfl) <|
   WL.guardNo rfl rfl rfl rfl <|
   WL.guardNo rfl rfl rfl rfl <|
   E rfl (ex_pick_f (v := .bool false) rfl rfl) ?_
  refine E rfl (sg (.bool false) rfl) <|
   WL.nil <|
   WC.ret ?_
  obtain rfl := Option.some.inj H
  exact ⟨_, (.tmp (.bool false : Value) rfl .nil), _, rfl, HF.out⟩

/-! ### formula_Table_alive_nm -/
set_option maxRecDepth 100000 in
theorem formula_Table_alive_nm.calls (o0 : Tags) (w0 : World) (pb0 : Nat) (pv0_0 : Value) (a0 : T_formula_Table) (r : Bool) (hO : ∀ b, b < w0.heap.size → o0 b < 40) (hB0 : Bk o0 w0 2 pb0 [pv0_0, .map none] 28) (hO0_0 : Own T_api_Node.rep 61 3 o0 w0 pv0_0 a0.f_rows) (H : formula_Table_alive_nm.f a0 = some r) :
  Calls Tryd.prog 26 [pp pb0 0].toArray w0 fun e_ w_ => ∃ (o_ : Tags), e_ = .returned (one [.bool r]) ∧ Step o0 w0 o_ w_ [] := by
 have HF := Fm.refl hO []
 unfold formula_Table_alive_nm.f at H
 refine SX.calls [pp pb0 0] Tryd.func26 rfl rfl ?_
 rw [Tryd.ntmps26]
 refine WC.seq <|
  WC.region <|
  E rfl (sg (.bool false) rfl) <|
  WL.nil <|
  WC.seq <|
  WC.region <|
  E rfl (mv (pp pb0 0) rfl) <|
  E rfl (ex_bin (a := pp pb0 0) (b := .pointer none) (v := .bool true) rfl rfl (bin_neq_ptrSN U23)) <|
  E rfl (mv (.bool true) rfl) <|
  WL.guardYes rfl rfl rfl rfl <|
  OW.ex rfl (mv (pp pb0 0) rfl) <|
  WL.guardYes rfl rfl rfl rfl <|
  OW.ex rfl (ex_nilCheck rfl) <|
  WL.guardYes rfl rfl rfl rfl <|
  OW.ex rfl (ex_fieldAddr rfl U28 rfl sz26) <|
  WL.guardYes rfl rfl rfl rfl <|
  OW.ex rfl (ex_load1 rfl U26 rfl (hB0.cell rfl)) <|
  WL.guardYes rfl rfl rfl rfl <|
  OW.ex rfl (ex_bin (a := .map none) (b := .map none) (v := .bool false) rfl rfl (bin_neq_mapN U26)) <|
  E rfl (ex_pick_t (v := .bool false) rfl rfl) <|
  E rfl (sg (.bool false) rfl) <|
  WL.nil <|
  WC.ret ?_
 obtain rfl := Option.some.inj H
 exact ⟨_, (.tmp (.bool false : Value) rfl .nil), _, rfl, HF.out⟩

/-! ### formula_Table_Copy_nm -/
set_option maxRecDepth 100000 in
theorem formula_Table_Copy_nm.calls (o0 : Tags) (w0 : World) (pb0 : Nat) (pv0_0 : Value) (a0 : T_formula_Table) (r : Unit) (hO : ∀ b, b < w0.heap.size → o0 b < 40) (hB0 : Bk o0 w0 2 pb0 [pv0_0, .map none] 28) (hO0_0 : Own T_api_Node.rep 61 3 o0 w0 pv0_0 a0.f_rows) (H : formula_Table_Copy_nm.f a0 = some r) :
  Calls Tryd.prog 27 [pp pb0 0].toArray w0 fun e_ w_ => ∃ (o_ : Tags), e_ = .returned (one [.pointer none]) ∧ Step o0 w0 o_ w_ [] := by
 have HF := Fm.refl hO []
 unfold formula_Table_Copy_nm.f at H
 refine SX.calls [pp pb0 0] Tryd.func27 rfl rfl ?_
 rw [Tryd.ntmps27]
 refine WC.seq <|
  WC.region <|
  E rfl (sg (.pointer none) rfl) <|
  WL.nil <|
  WC.seq <|
  WC.seq <|
  WC.region <|
  E rfl (mv (pp pb0 0) rfl) ?_
 obtain ⟨z101, hz101, H⟩ := bindE H
 refine WL.op rfl <|
  OW.call [pp pb0 0] rfl Tryd.func26 (by kernel_rfl) (by kernel_rfl) (map_cons' rfl rfl) (formula_Table_alive_nm.calls _ _ pb0 pv0_0 a0 z101 (HF.ten (V := [0]) (L := [2, 3]) rfl) (Bk.vw hB0 rfl) (Own.vw hO0_0 rfl rfl) hz101) ?_
 obtain rfl := Option.some.inj (show some false = some z101 from hz101)
 rintro _ w102 ⟨o103, rfl, s104⟩
 refine ⟨_, rfl, ?_⟩
 replace s104 := un_stepL (J := []) (L' := []) s104 rfl rfl
 replace hO0_0 := hO0_0.step s104 rfl rfl
 replace hB0 := hB0.step s104 rfl
 replace HF := HF.step s104 rfl
 refine E rfl (ex_not (b := false) rfl) <|
  WL.nil <|
  WC.cond_t rfl <|
  WC.seq <|
  WC.region <|
  E rfl (sg (.pointer none) rfl) <|
  WL.nil <|
  WC.ret ?_
 obtain rfl := Option.some.inj H
 exact ⟨_, (.tmp (.pointer none : Value) rfl .nil), _, rfl, HF.out⟩

/-! ### syntax_known_nm -/
set_option maxRecDepth 100000 in
theorem syntax_known_nm.calls (o0 : Tags) (w0 : World) (pb0 : Nat) (pv0_0 : Value) (a0 : T_formula_Table) (r : Bool) (hO : ∀ b, b < w0.heap.size → o0 b < 40) (hB0 : Bk o0 w0 2 pb0 [pv0_0, .map none] 28) (hO0_0 : Own T_api_Node.rep 61 3 o0 w0 pv0_0 a0.f_rows) (H : syntax_known_nm.f a0 = some r) :
  Calls Tryd.prog 13 [pp pb0 0].toArray w0 fun e_ w_ => ∃ (o_ : Tags), e_ = .returned (one [.bool r]) ∧ Step o0 w0 o_ w_ [] := by
 have HF := Fm.refl hO []
 unfold syntax_known_nm.f at H
 refine SX.calls [pp pb0 0] Tryd.func13 rfl rfl ?_
 rw [Tryd.ntmps13]
 refine WC.seq <|
  WC.region <|
  E rfl (sg (.bool false) rfl) <|
  WL.nil <|
  WC.seq <|
  WC.region <|
  E rfl (mv (pp pb0 0) rfl) ?_
 obtain ⟨z101, hz101, H⟩ := bindE H
 refine WL.op rfl <|
  OW.call [pp pb0 0] rfl Tryd.func27 (by kernel_rfl) (by kernel_rfl) (map_cons' rfl rfl) (formula_Table_Copy_nm.calls _ _ pb0 pv0_0 a0 z101 (HF.ten (V := [0]) (L := [2, 3]) rfl) (Bk.vw hB0 rfl) (Own.vw hO0_0 rfl rfl) hz101) ?_
 obtain rfl := Option.some.inj (show some () = some z101 from hz101)
 rintro _ w102 ⟨o103, rfl, s104⟩
 refine ⟨_, rfl, ?_⟩
 replace s104 := un_stepL (J := []) (L' := []) s104 rfl rfl
 replace hO0_0 := hO0_0.step s104 rfl rfl
 replace hB0 := hB0.step s104 rfl
 replace HF := HF.step s104 rfl
 refine E rfl (ex_bin (a := .pointer none) (b := .pointer none) (v := .bool false) rfl rfl (bin_neq_ptrNN U23)) <|
  E rfl (sg (.bool false) rfl) <|
  WL.nil <|
  WC.ret ?_
 obtain rfl := Option.some.inj H
 exact ⟨_, (.tmp (.bool false : Value) rfl .nil), _, rfl, HF.out⟩

/-! ### syntax_Parse_nm -/
set_option maxRecDepth 100000 in
theorem syntax_Parse_nm.calls (o0 : Tags) (w0 : World) (pb0 : Nat) (pv0_0 : Value) (a0 : T_formula_Table) (a1 : List UInt8) (r : Int × T_api_Fault) (hO : ∀ b, b < w0.heap.size → o0 b < 40) (hB0 : Bk o0 w0 2 pb0 [pv0_0, .map none] 28) (hO0_0 : Own T_api_Node.rep 61 3 o0 w0 pv0_0 a0.f_rows) (H : syntax_Parse_nm.f a0 a1 = some r) :
  Calls Tryd.prog 6 [pp pb0 0, encS a1].toArray w0 fun e_ w_ => ∃ (o_ : Tags), e_ = .returned (one [ii r.1, .agg #[ii r.2.f_Code, ii r.2.f_At.f_Line, ii r.2.f_At.f_Col, ii r.2.f_At.f_Off]]) ∧ Step o0 w0 o_ w_ [] := by
 have HF := Fm.refl hO []
 unfold syntax_Parse_nm.f at H
 refine SX.calls [pp pb0 0, encS a1] Tryd.func6 rfl rfl ?_
 rw [Tryd.ntmps6]
 refine WC.seq <|
  WC.region <|
  E rfl (sg (ii 0) rfl) <|
  WL.op rfl <|
  OW.alloc' [ii (0 : Int), ii (0 : Int), ii (0 : Int), ii (0 : Int)] 40 HF rfl zr35 rfl ?_
 intro o102 w103 b101 s104 hB105
 replace hO0_0 := hO0_0.step s104 rfl rfl
 replace hB0 := hB0.step s104 rfl
 replace HF := HF.step s104 rfl
 refine WL.nil <|
  WC.seq <|
  WC.seq <|
  WC.region <|
  E rfl (mv (pp pb0 0) rfl) ?_
 obtain ⟨z106, hz106, H⟩ := bindE H
 refine WL.op rfl <|
  OW.call [pp pb0 0] rfl Tryd.func13 (by kernel_rfl) (by kernel_rfl) (map_cons' rfl rfl) (syntax_known_nm.calls _ _ pb0 pv0_0 a0 z106 (HF.ten (V := [0]) (L := [2, 3]) rfl) (Bk.vw hB0 rfl) (Own.vw hO0_0 rfl rfl) hz106) ?_
 obtain rfl := Option.some.inj (show some false = some z106 from hz106)
 rintro _ w107 ⟨o108, rfl, s109⟩
 refine ⟨_, rfl, ?_⟩
 replace s109 := un_stepL (J := []) (L' := []) s109 rfl rfl
 replace hO0_0 := hO0_0.step s109 rfl rfl
 replace hB0 := hB0.step s109 rfl
 replace hB105 := hB105.step s109 rfl
 replace HF := HF.step s109 rfl
 refine E rfl (ex_not (b := false) rfl) <|
  WL.nil <|
  WC.cond_t rfl <|
  WC.seq <|
  WC.region <|
  E rfl (ex_build (cs := [ii 1, ii (0 : Int), ii (0 : Int), ii (0 : Int)]) [(0, 1), (1, 3)] [(0, ii 1)] [ii 0, ii 0, ii 0, ii 0] U35 zr35 rfl (by kernel_rfl) (evs_cons rfl rfl) rfl) <|
  E rfl (sg (ii 0) rfl) <|
  WL.op rfl <|
  OW.storeW rfl rfl sz35 hB105 rfl (oa rfl) ?_
 intro w110 s111 hB112
 replace hO0_0 := hO0_0.step s111 rfl rfl
 replace hB0 := hB0.step s111 rfl
 replace HF := HF.step s111 rfl
 refine WL.nil <|
  WC.ret ?_
 obtain rfl := Option.some.inj H
 exact ⟨_, (.tmp (ii 0 : Value) rfl (.cell (.agg #[ii 1, ii (0 : Int), ii (0 : Int), ii (0 : Int)] : Value) rfl (run_loadN (cs := [ii 1, ii (0 : Int), ii (0 : Int), ii (0 : Int)]) U35 rfl sz35 (hB112.cells rfl)) .nil)), _, rfl, HF.out⟩

/-! ### syntax_Take_nm -/
set_option maxRecDepth 100000 in
theorem syntax_Take_nm.calls (o0 : Tags) (w0 : World) (pb0 : Nat) (pv0_0 : Value) (pA1 : Option Addr) (pc1 : Nat) (a0 : T_formula_Table) (a1 : (List T_api_Token)) (r : Int × Int × T_api_Fault) (hO : ∀ b, b < w0.heap.size → o0 b < 40) (hB0 : Bk o0 w0 2 pb0 [pv0_0, .map none] 28) (hO0_0 : Own T_api_Node.rep 61 3 o0 w0 pv0_0 a0.f_rows) (hra1 : Row T_api_Token.rep (fun b_ => o0 b_ = 0) (fun b_ => o0 b_ = 0) w0 pA1 a1) (hla1 : a1.length ≤ pc1) (H : syntax_Take_nm.f a0 a1 = some r) :
  Calls Tryd.prog 7 [pp pb0 0, .slice pA1 a1.length pc1].toArray w0 fun e_ w_ => ∃ (o_ : Tags), e_ = .returned (one [ii r.1, ii r.2.1, .agg #[ii r.2.2.f_Code, ii r.2.2.f_At.f_Line, ii r.2.2.f_At.f_Col, ii r.2.2.f_At.f_Off]]) ∧ Step o0 w0 o_ w_ [] := by
 have HF := Fm.refl hO []
 unfold syntax_Take_nm.f at H
 refine SX.calls [pp pb0 0, .slice pA1 a1.length pc1] Tryd.func7 rfl rfl ?_
 rw [Tryd.ntmps7]
 refine WC.seq <|
  WC.region <|
  E rfl (sg (ii 0) rfl) <|
  E rfl (sg (ii 0) rfl) <|
  WL.op rfl <|
  OW.alloc' [ii (0 : Int), ii (0 : Int), ii (0 : Int), ii (0 : Int)] 40 HF rfl zr35 rfl ?_
 intro o102 w103 b101 s104 hB105
 replace hO0_0 := hO0_0.step s104 rfl rfl
 replace hB0 := hB0.step s104 rfl
 replace hra1 := hra1.step s104 rfl
 replace HF := HF.step s104 rfl
 refine WL.nil <|
  WC.seq <|
  WC.seq <|
  WC.region <|
  E rfl (mv (pp pb0 0) rfl) ?_
 obtain ⟨z106, hz106, H⟩ := bindE H
 refine WL.op rfl <|
  OW.call [pp pb0 0] rfl Tryd.func13 (by kernel_rfl) (by kernel_rfl) (map_cons' rfl rfl) (syntax_known_nm.calls _ _ pb0 pv0_0 a0 z106 (HF.ten (V := [0]) (L := [2, 3]) rfl) (Bk.vw hB0 rfl) (Own.vw hO0_0 rfl rfl) hz106) ?_
 obtain rfl := Option.some.inj (show some false = some z106 from hz106)
 rintro _ w107 ⟨o108, rfl, s109⟩
 refine ⟨_, rfl, ?_⟩
 replace s109 := un_stepL (J := []) (L' := []) s109 rfl rfl
 replace hO0_0 := hO0_0.step s109 rfl rfl
 replace hB0 := hB0.step s109 rfl
 replace hra1 := hra1.step s109 rfl
 replace hB105 := hB105.step s109 rfl
 replace HF := HF.step s109 rfl
 refine E rfl (ex_not (b := false) rfl) <|
  WL.nil <|
  WC.cond_t rfl <|
  WC.seq <|
  WC.region <|
  E rfl (ex_build (cs := [ii 1, ii (0 : Int), ii (0 : Int), ii (0 : Int)]) [(0, 1), (1, 3)] [(0, ii 1)] [ii 0, ii 0, ii 0, ii 0] U35 zr35 rfl (by kernel_rfl) (evs_cons rfl rfl) rfl) <|
  E rfl (sg (ii 0) rfl) <|
  E rfl (sg (ii 0) rfl) <|
  WL.op rfl <|
  OW.storeW rfl rfl sz35 hB105 rfl (oa rfl) ?_
 intro w110 s111 hB112
 replace hO0_0 := hO0_0.step s111 rfl rfl
 replace hB0 := hB0.step s111 rfl
 replace hra1 := hra1.step s111 rfl
 replace HF := HF.step s111 rfl
 refine WL.nil <|
  WC.ret ?_
 obtain rfl := Option.some.inj H
 exact ⟨_, (.tmp (ii 0 : Value) rfl (.tmp (ii 0 : Value) rfl (.cell (.agg #[ii 1, ii (0 : Int), ii (0 : Int), ii (0 : Int)] : Value) rfl (run_loadN (cs := [ii 1, ii (0 : Int), ii (0 : Int), ii (0 : Int)]) U35 rfl sz35 (hB112.cells rfl)) .nil))), _, rfl, HF.out⟩

/-! ### syntax_Print_nm -/
set_option maxRecDepth 100000 in
theorem syntax_Print_nm.calls (o0 : Tags) (w0 : World) (pb0 : Nat) (pv0_0 : Value) (a0 : T_formula_Table) (a1 : Int) (r : (List UInt8) × Int) (hO : ∀ b, b < w0.heap.size → o0 b < 40) (hB0 : Bk o0 w0 2 pb0 [pv0_0, .map none] 28) (hO0_0 : Own T_api_Node.rep 61 3 o0 w0 pv0_0 a0.f_rows) (H : syntax_Print_nm.f a0 a1 = some r) :
  Calls Tryd.prog 8 [pp pb0 0, ii a1].toArray w0 fun e_ w_ => ∃ (o_ : Tags), e_ = .returned (one [encS r.1, ii r.2]) ∧ Step o0 w0 o_ w_ [] := by
 have HF := Fm.refl hO []
 unfold syntax_Print_nm.f at H
 refine SX.calls [pp pb0 0, ii a1] Tryd.func8 rfl rfl ?_
 rw [Tryd.ntmps8]
 refine WC.seq <|
  WC.region <|
  E rfl (sg (encS ([] : List UInt8)) rfl) <|
  E rfl (sg (ii 0) rfl) <|
  WL.nil <|
  WC.seq <|
  WC.seq <|
  WC.region <|
  E rfl (mv (pp pb0 0) rfl) ?_
 obtain ⟨z101, hz101, H⟩ := bindE H
 refine WL.op rfl <|
  OW.call [pp pb0 0] rfl Tryd.func13 (by kernel_rfl) (by kernel_rfl) (map_cons' rfl rfl) (syntax_known_nm.calls _ _ pb0 pv0_0 a0 z101 (HF.ten (V := [0]) (L := [2, 3]) rfl) (Bk.vw hB0 rfl) (Own.vw hO0_0 rfl rfl) hz101) ?_
 obtain rfl := Option.some.inj (show some false = some z101 from hz101)
 rintro _ w102 ⟨o103, rfl, s104⟩
 refine ⟨_, rfl, ?_⟩
 replace s104 := un_stepL (J := []) (L' := []) s104 rfl rfl
 replace hO0_0 := hO0_0.step s104 rfl rfl
 replace hB0 := hB0.step s104 rfl
 replace HF := HF.step s104 rfl
 refine E rfl (ex_not (b := false) rfl) <|
  WL.nil <|
  WC.cond_t rfl <|
  WC.seq <|
  WC.region <|
  E rfl (sg (encS ([] : List UInt8)) rfl) <|
  E rfl (sg (ii 1) rfl) <|
  WL.nil <|
  WC.ret ?_
 obtain rfl := Option.some.inj H
 exact ⟨_, (.tmp (encS ([] : List UInt8) : Value) rfl (.tmp (ii 1 : Value) rfl .nil)), _, rfl, HF.out⟩

/-! ### dictumlaw04_nobody_nm -/
set_option maxRecDepth 100000 in
theorem dictumlaw04_nobody_nm.calls (o0 : Tags) (w0 : World) (pb0 : Nat) (pv0_0 : Value) (pA2 : Option Addr) (pc2 : Nat) (a0 : T_formula_Table) (a1 : List UInt8) (a2 : (List T_api_Token)) (a3 : Int) (r : Bool) (hO : ∀ b, b < w0.heap.size → o0 b < 40) (hB0 : Bk o0 w0 2 pb0 [pv0_0, .map none] 28) (hO0_0 : Own T_api_Node.rep 61 3 o0 w0 pv0_0 a0.f_rows) (hra2 : Row T_api_Token.rep (fun b_ => o0 b_ = 0) (fun b_ => o0 b_ = 0) w0 pA2 a2) (hla2 : a2.length ≤ pc2) (H : dictumlaw04_nobody_nm.f a0 a1 a2 a3 = some r) :
  Calls Tryd.prog 4 [pp pb0 0, encS a1, .slice pA2 a2.length pc2, ii a3].toArray w0 fun e_ w_ => ∃ (o_ : Tags), e_ = .returned (one [.bool r]) ∧ Step o0 w0 o_ w_ [] := by
 have HF := Fm.refl hO []
 unfold dictumlaw04_nobody_nm.f at H
 refine SX.calls [pp pb0 0, encS a1, .slice pA2 a2.length pc2, ii a3] Tryd.func4 rfl rfl ?_
 rw [Tryd.ntmps4]
 refine WC.seq <|
  WC.region <|
  E rfl (sg (.bool false) rfl) <|
  WL.nil <|
  WC.seq <|
  WC.region <|
  E rfl (mv (pp pb0 0) rfl) <|
  E rfl (mv (encS a1) rfl) ?_
 obtain ⟨z101, hz101, H⟩ := bindE H
 refine WL.op rfl <|
  OW.call [pp pb0 0, encS a1] rfl Tryd.func6 (by kernel_rfl) (by kernel_rfl) (map_cons' rfl (map_cons' rfl rfl)) (syntax_Parse_nm.calls _ _ pb0 pv0_0 a0 a1 z101 (HF.ten (V := [0]) (L := [2, 3]) rfl) (Bk.vw hB0 rfl) (Own.vw hO0_0 rfl rfl) hz101) ?_
 rintro _ w102 ⟨o103, rfl, s104⟩
 refine ⟨_, rfl, ?_⟩
 replace s104 := un_stepL (J := []) (L' := []) s104 rfl rfl
 replace hO0_0 := hO0_0.step s104 rfl rfl
 replace hB0 := hB0.step s104 rfl
 replace hra2 := hra2.step s104 rfl
 replace HF := HF.step s104 rfl
 refine E rfl (mv (.tuple #[ii z101.1, .agg #[ii z101.2.f_Code, ii z101.2.f_At.f_Line, ii z101.2.f_At.f_Col, ii z101.2.f_At.f_Off]]) rfl) <|
  E rfl (ex_extract rfl rfl) <|
  E rfl (ex_extract rfl rfl) <|
  WL.op rfl <|
  OW.alloc' [ii (0 : Int), ii (0 : Int), ii (0 : Int), ii (0 : Int)] 40 HF rfl zr35 rfl ?_
 intro o106 w107 b105 s108 hB109
 replace hO0_0 := hO0_0.step s108 rfl rfl
 replace hB0 := hB0.step s108 rfl
 replace hra2 := hra2.step s108 rfl
 replace HF := HF.step s108 rfl
 refine E rfl (sg (ii z101.1) rfl) <|
  WL.op rfl <|
  OW.storeW rfl rfl sz35 hB109 rfl (oa rfl) ?_
 intro w110 s111 hB112
 replace hO0_0 := hO0_0.step s111 rfl rfl
 replace hB0 := hB0.step s111 rfl
 replace hra2 := hra2.step s111 rfl
 replace HF := HF.step s111 rfl
 refine WL.nil <|
  WC.seq <|
  WC.region <|
  E rfl (mv (pp pb0 0) rfl) <|
  E rfl (mv (.slice pA2 a2.length pc2) rfl) ?_
 obtain ⟨z113, hz113, H⟩ := bindE H
 refine WL.op rfl <|
  OW.call [pp pb0 0, .slice pA2 a2.length pc2] rfl Tryd.func7 (by kernel_rfl) (by kernel_rfl) (map_cons' rfl (map_cons' rfl rfl)) (syntax_Take_nm.calls _ _ pb0 pv0_0 pA2 pc2 a0 a2 z113 (HF.ten (V := [0]) (L := [2, 3]) rfl) (Bk.vw hB0 rfl) (Own.vw hO0_0 rfl rfl) (Row.vw hra2 rfl) hla2 hz113) ?_
 rintro _ w114 ⟨o115, rfl, s116⟩
 refine ⟨_, rfl, ?_⟩
 replace s116 := un_stepL (J := []) (L' := []) s116 rfl rfl
 replace hO0_0 := hO0_0.step s116 rfl rfl
 replace hB0 := hB0.step s116 rfl
 replace hra2 := hra2.step s116 rfl
 replace hB112 := hB112.step s116 rfl
 replace HF := HF.step s116 rfl
 refine E rfl (mv (.tuple #[ii z113.1, ii z113.2.1, .agg #[ii z113.2.2.f_Code, ii z113.2.2.f_At.f_Line, ii z113.2.2.f_At.f_Col, ii z113.2.2.f_At.f_Off]]) rfl) <|
  E rfl (ex_extract rfl rfl) <|
  E rfl (ex_extract rfl rfl) <|
  E rfl (ex_extract rfl rfl) <|
  WL.op rfl <|
  OW.alloc' [ii (0 : Int), ii (0 : Int), ii (0 : Int), ii (0 : Int)] 41 HF rfl zr35 rfl ?_
 intro o118 w119 b117 s120 hB121
 replace hO0_0 := hO0_0.step s120 rfl rfl
 replace hB0 := hB0.step s120 rfl
 replace hra2 := hra2.step s120 rfl
 replace hB112 := hB112.step s120 rfl
 replace HF := HF.step s120 rfl
 refine E rfl (sg (ii z113.1) rfl) <|
  E rfl (sg (ii z113.2.1) rfl) <|
  WL.op rfl <|
  OW.storeW rfl rfl sz35 hB121 rfl (oa rfl) ?_
 intro w122 s123 hB124
 replace hO0_0 := hO0_0.step s123 rfl rfl
 replace hB0 := hB0.step s123 rfl
 replace hra2 := hra2.step s123 rfl
 replace hB112 := hB112.step s123 rfl
 replace HF := HF.step s123 rfl
 refine WL.nil <|
  WC.seq <|
  WC.region <|
  E rfl (mv (pp pb0 0) rfl) <|
  E rfl (mv (ii a3) rfl) ?_
 obtain ⟨z125, hz125, H⟩ := bindE H
 refine WL.op rfl <|
  OW.call [pp pb0 0, ii a3] rfl Tryd.func8 (by kernel_rfl) (by kernel_rfl) (map_cons' rfl (map_cons' rfl rfl)) (syntax_Print_nm.calls _ _ pb0 pv0_0 a0 a3 z125 (HF.ten (V := [0]) (L := [2, 3]) rfl) (Bk.vw hB0 rfl) (Own.vw hO0_0 rfl rfl) hz125) ?_
 obtain rfl := Option.some.inj (show some (([] : List UInt8), 1) = some z125 from hz125)
 rintro _ w126 ⟨o127, rfl, s128⟩
 refine ⟨_, rfl, ?_⟩
 replace s128 := un_stepL (J := []) (L' := []) s128 rfl rfl
 replace hO0_0 := hO0_0.step s128 rfl rfl
 replace hB0 := hB0.step s128 rfl
 replace hra2 := hra2.step s128 rfl
 replace hB112 := hB112.step s128 rfl
 replace hB124 := hB124.step s128 rfl
 replace HF := HF.step s128 rfl
 refine E rfl (mv (.tuple #[encS ([] : List UInt8), ii 1]) rfl) <|
  E rfl (ex_extract rfl rfl) <|
  E rfl (ex_extract rfl rfl) <|
  E rfl (sg (encS ([] : List UInt8)) rfl) <|
  E rfl (sg (ii 1) rfl) <|
  WL.nil <|
  WC.seq <|
  WC.region <|
  E rfl (ex_build (cs := [ii 1, ii (0 : Int), ii (0 : Int), ii (0 : Int)]) [(0, 1), (1, 3)] [(0, ii 1)] [ii 0, ii 0, ii 0, ii 0] U35 zr35 rfl (by kernel_rfl) (evs_cons rfl rfl) rfl) <|
  WL.op rfl <|
  OW.alloc' [ii (0 : Int), ii (0 : Int), ii (0 : Int), ii (0 : Int)] 42 HF rfl zr35 rfl ?_
 intro o130 w131 b129 s132 hB133
 replace hO0_0 := hO0_0.step s132 rfl rfl
 replace hB0 := hB0.step s132 rfl
 replace hra2 := hra2.step s132 rfl
 replace hB112 := hB112.step s132 rfl
 replace hB124 := hB124.step s132 rfl
 replace HF := HF.step s132 rfl
 refine WL.op rfl <|
  OW.storeW rfl rfl sz35 hB133 rfl (oa rfl) ?_
 intro w134 s135 hB136
 replace hO0_0 := hO0_0.step s135 rfl rfl
 replace hB0 := hB0.step s135 rfl
 replace hra2 := hra2.step s135 rfl
 replace hB112 := hB112.step s135 rfl
 replace hB124 := hB124.step s135 rfl
 replace HF := HF.step s135 rfl
 refine WL.nil <|
  WC.seq <|
  WC.region <|
  E rfl (mv (ii z101.1) rfl) <|
  E rfl (e2 bin_eql rfl rfl) <|
  E rfl (mv (.bool (z101.1 == 0)) rfl) ?_
 rcases condE H with ⟨c137, H⟩ | ⟨c137, H⟩
 ·
  refine WL.guardYes rfl rfl rfl (vb c137 rfl) <|
   OW.ex rfl (ex_loadN (cs := [ii z101.2.f_Code, ii z101.2.f_At.f_Line, ii z101.2.f_At.f_Col, ii z101.2.f_At.f_Off]) rfl U35 rfl sz35 (hB112.cells rfl)) <|
   WL.guardYes rfl rfl rfl (vb c137 rfl) <|
   OW.ex rfl (ex_loadN (cs := [ii 1, ii (0 : Int), ii (0 : Int), ii (0 : Int)]) rfl U35 rfl sz35 (hB136.cells rfl)) <|
   WL.guardYes rfl rfl rfl (vb c137 rfl) <|
   OW.ex rfl (ex_bin (a := .agg #[ii z101.2.f_Code, ii z101.2.f_At.f_Line, ii z101.2.f_At.f_Col, ii z101.2.f_At.f_Off]) (b := .agg #[ii 1, ii (0 : Int), ii (0 : Int), ii (0 : Int)]) (v := .bool (T_api_Fault.eqb z101.2 (⟨1, (⟨(0 : Int), (0 : Int), (0 : Int)⟩ : T_api_Spot)⟩ : T_api_Fault))) rfl rfl (bin_eql_agg (by kernel_rfl) (EqR.agg U35 (by kernel_rfl) (EqF.cons (by decide) (PartR.one U31 rfl rfl) (PartR.one U31 rfl rfl) (EqR.int U31) (EqF.cons (by decide) (PartR.many U33 rfl sz33) (PartR.many U33 rfl sz33) (EqR.agg U33 (by kernel_rfl) (EqF.cons (by decide) (PartR.one U3 rfl rfl) (PartR.one U3 rfl rfl) (EqR.int U3) (EqF.cons (by decide) (PartR.one U3 rfl rfl) (PartR.one U3 rfl rfl) (EqR.int U3) (EqF.cons (by decide) (PartR.one U3 rfl rfl) (PartR.one U3 rfl rfl) (EqR.int U3) EqF.nil)))) EqF.nil))))) <|
   E rfl (ex_pick_t (v := .bool (T_api_Fault.eqb z101.2 (⟨1, (⟨(0 : Int), (0 : Int), (0 : Int)⟩ : T_api_Spot)⟩ : T_api_Fault))) (vb c137 rfl) rfl) <|
   E rfl (mv (.bool (T_api_Fault.eqb z101.2 (⟨1, (⟨(0 : Int), (0 : Int), (0 : Int)⟩ : T_api_Spot)⟩ : T_api_Fault))) rfl) ?_
  rcases condE H with ⟨c138, H⟩ | ⟨c138, H⟩
  ·
   refine WL.guardYes rfl rfl rfl (vb c138 rfl) <|
    OW.ex rfl (mv (ii z113.1) rfl) <|
    WL.guardYes rfl rfl rfl (vb c138 rfl) <|
    OW.ex rfl (e2 bin_eql rfl rfl) <|
    E rfl (ex_pick_t (v := .bool (z113.1 == 0)) (vb c138 rfl) rfl) <|
    E rfl (mv (.bool (z113.1 == 0)) rfl) ?_
   rcases condE H with ⟨c139, H⟩ | ⟨c139, H⟩
   ·
    refine WL.guardYes rfl rfl rfl (vb c139 rfl) <|
     OW.ex rfl (mv (ii z113.2.1) rfl) <|
     WL.guardYes rfl rfl rfl (vb c139 rfl) <|
     OW.ex rfl (e2 bin_eql rfl rfl) <|
     E rfl (ex_pick_t (v := .bool (z113.2.1 == 0)) (vb c139 rfl) rfl) <|
     E rfl (mv (.bool (z113.2.1 == 0)) rfl) ?_
    rcases condE H with ⟨c140, H⟩ | ⟨c140, H⟩
    ·
     refine WL.guardYes rfl rfl rfl (vb c140 rfl) <|
      OW.ex rfl (ex_loadN (cs := [ii z113.2.2.f_Code, ii z113.2.2.f_At.f_Line, ii z113.2.2.f_At.f_Col, ii z113.2.2.f_At.f_Off]) rfl U35 rfl sz35 (hB124.cells rfl)) <|
      WL.guardYes rfl rfl rfl (vb c140 rfl) <|
      OW.ex rfl (ex_loadN (cs := [ii 1, ii (0 : Int), ii (0 : Int), ii (0 : Int)]) rfl U35 rfl sz35 (hB136.cells rfl)) <|
      WL.guardYes rfl rfl rfl (vb c140 rfl) <|
      OW.ex rfl (ex_bin (a := .agg #[ii z113.2.2.f_Code, ii z113.2.2.f_At.f_Line, ii z113.2.2.f_At.f_Col, ii z113.2.2.f_At.f_Off]) (b := .agg #[ii 1, ii (0 : Int), ii (0 : Int), ii (0 : Int)]) (v := .bool (T_api_Fault.eqb z113.2.2 (⟨1, (⟨(0 : Int), (0 : Int), (0 : Int)⟩ : T_api_Spot)⟩ : T_api_Fault))) rfl rfl (bin_eql_agg (by kernel_rfl) (EqR.agg U35 (by kernel_rfl) (EqF.cons (by decide) (PartR.one U31 rfl rfl) (PartR.one U31 rfl rfl) (EqR.int U31) (EqF.cons (by decide) (PartR.many U33 rfl sz33) (PartR.many U33 rfl sz33) (EqR.agg U33 (by kernel_rfl) (EqF.cons (by decide) (PartR.one U3 rfl rfl) (PartR.one U3 rfl rfl) (EqR.int U3) (EqF.cons (by decide) (PartR.one U3 rfl rfl) (PartR.one U3 rfl rfl) (EqR.int U3) (EqF.cons (by decide) (PartR.one U3 rfl rfl) (PartR.one U3 rfl rfl) (EqR.int U3) EqF.nil)))) EqF.nil))))) <|
      E rfl (ex_pick_t (v := .bool (T_api_Fault.eqb z113.2.2 (⟨1, (⟨(0 : Int), (0 : Int), (0 : Int)⟩ : T_api_Spot)⟩ : T_api_Fault))) (vb c140 rfl) rfl) <|
      E rfl (mv (.bool (T_api_Fault.eqb z113.2.2 (⟨1, (⟨(0 : Int), (0 : Int), (0 : Int)⟩ : T_api_Spot)⟩ : T_api_Fault))) rfl) ?_
     rcases condE H with ⟨c141, H⟩ | ⟨c141, H⟩
     ·
      refine WL.guardYes rfl rfl rfl (vb c141 rfl) <|
       OW.ex rfl (mv (encS ([] : List UInt8)) rfl) <|
       WL.guardYes rfl rfl rfl (vb c141 rfl) <|
       OW.ex rfl (e2 bin_eql_str rfl rfl) <|
       E rfl (ex_pick_t (v := .bool (([] : List UInt8) == ([] : List UInt8))) (vb c141 rfl) rfl) <|
       E rfl (mv (.bool (([] : List UInt8) == ([] : List UInt8))) rfl) ?_
      rcases condE H with ⟨c142, H⟩ | ⟨c142, H⟩
      ·
       refine WL.guardYes rfl rfl rfl (vb c142 rfl) <|
        OW.ex rfl (mv (ii 1) rfl) <|
        WL.guardYes rfl rfl rfl (vb c142 rfl) <|
        OW.ex rfl (e2 bin_eql rfl rfl) <|
        E rfl (ex_pick_t (v := .bool (1 == 1)) (vb c142 rfl) rfl) <|
        E rfl (sg (.bool (1 == 1)) rfl) <|
        WL.nil <|
        WC.ret ?_
       obtain rfl := Option.some.inj H
       exact ⟨_, (.tmp (.bool (1 == 1) : Value) rfl .nil), _, rfl, HF.out⟩
      ·
       refine WL.guardNo rfl rfl rfl (vb c142 rfl) <|
        WL.guardNo rfl rfl rfl (vb c142 rfl) <|
        E rfl (ex_pick_f (v := .bool false) (vb c142 rfl) rfl) <|
        E rfl (sg (.bool false) rfl) <|
        WL.nil <|
        WC.ret ?_
       obtain rfl := Option.some.inj H
       exact ⟨_, (.tmp (.bool false : Value) rfl .nil), _, rfl, HF.out⟩
     ·
      refine WL.guardNo rfl rfl rfl (vb c141 rfl) <|
       WL.guardNo rfl rfl rfl (vb c141 rfl) <|
       E rfl (ex_pick_f (v := .bool false) (vb c141 rfl) rfl) <|
       E rfl (mv (.bool false) rfl) <|
       WL.guardNo rfl rfl rfl rfl <|
       WL.guardNo rfl rfl rfl rfl <|
       E rfl (ex_pick_f (v := .bool false) rfl rfl) <|
       E rfl (sg (.bool false) rfl) <|
       WL.nil <|
       WC.ret ?_
      obtain rfl := Option.some.inj H
      exact ⟨_, (.tmp (.bool false : Value) rfl .nil), _, rfl, HF.out⟩
    ·
     refine WL.guardNo rfl rfl rfl (vb c140 rfl) <|
      WL.guardNo rfl rfl rfl (vb c140 rfl) <|
      WL.guardNo rfl rfl rfl (vb c140 rfl) <|
      E rfl (ex_pick_f (v := .bool false) (vb c140 rfl) rfl) <|
      E rfl (mv (.bool false) rfl) <|
      WL.guardNo rfl rfl rfl rfl <|
      WL.guardNo rfl rfl rfl rfl <|
      E rfl (ex_pick_f (v := .bool false) rfl rfl) <|
      E rfl (mv (.bool false) rfl) <|
      WL.guardNo rfl rfl rfl rfl <|
      WL.guardNo rfl rfl rfl rfl <|
      E rfl (ex_pick_f (v := .bool false) rfl rfl) <|
      E rfl (sg (.bool false) rfl) <|
      WL.nil <|
      WC.ret ?_
     obtain rfl := Option.some.inj H
     exact ⟨_, (.tmp (.bool false : Value) rfl .nil), _, rfl, HF.out⟩
   ·
    refine WL.guardNo rfl rfl rfl (vb c139 rfl) <|
     WL.guardNo rfl rfl rfl (vb c139 rfl) <|
     E rfl (ex_pick_f (v := .bool false) (vb c139 rfl) rfl) <|
     E rfl (mv (.bool false) rfl) <|
     WL.guardNo rfl rfl rfl rfl <|
     WL.guardNo rfl rfl rfl rfl <|
     WL.guardNo rfl rfl rfl rfl <|
     E rfl (ex_pick_f (v := .bool false) rfl rfl) <|
     E rfl (mv (.bool false) rfl) <|
     WL.guardNo rfl rfl rfl rfl <|
     WL.guardNo rfl rfl rfl rfl <|
     E rfl (ex_pick_f (v := .bool false) rfl rfl) <|
     E rfl (mv (.bool false) rfl) <|
     WL.guardNo rfl rfl rfl rfl <|
     WL.guardNo rfl rfl rfl rfl <|
     E rfl (ex_pick_f (v := .bool false) rfl rfl) <|
     E rfl (sg (.bool false) rfl) <|
     WL.nil <|
     WC.ret ?_
    obtain rfl := Option.some.inj H
    exact ⟨_, (.tmp (.bool false : Value) rfl .nil), _, rfl, HF.out⟩
  ·
   refine WL.guardNo rfl rfl rfl (vb c138 rfl) <|
    WL.guardNo rfl rfl rfl (vb c138 rfl) <|
    E rfl (ex_pick_f (v := .bool false) (vb c138 rfl) rfl) <|
    E rfl (mv (.bool false) rfl) <|
    WL.guardNo rfl rfl rfl rfl <|
    WL.guardNo rfl rfl rfl rfl <|
    E rfl (ex_pick_f (v := .bool false) rfl rfl) <|
    E rfl (mv (.bool false) rfl) <|
    WL.guardNo rfl rfl rfl rfl <|
    WL.guardNo rfl rfl rfl rfl <|
    WL.guardNo rfl rfl rfl rfl <|
    E rfl (ex_pick_f (v := .bool false) rfl rfl) <|
    E rfl (mv (.bool false) rfl) <|
    WL.guardNo rfl rfl rfl rfl <|
    WL.guardNo rfl rfl rfl rfl <|
    E rfl (ex_pick_f (v := .bool false) rfl rfl) <|
    E rfl (mv (.bool false) rfl) <|
    WL.guardNo rfl rfl rfl rfl <|
    WL.guardNo rfl rfl rfl rfl <|
    E rfl (ex_pick_f (v := .bool false) rfl rfl) <|
    E rfl (sg (.bool false) rfl) <|
    WL.nil <|
    WC.ret ?_
   obtain rfl := Option.some.inj H
   exact ⟨_, (.tmp (.bool false : Value) rfl .nil), _, rfl, HF.out⟩
 ·
  refine WL.guardNo rfl rfl rfl (vb c137 rfl) <|
   WL.guardNo rfl rfl rfl (vb c137 rfl) <|
   WL.guardNo rfl rfl rfl (vb c137 rfl) <|
   E rfl (ex_pick_f (v := .bool false) (vb c137 rfl) rfl) <|
   E rfl (mv (.bool false) rfl) <|
   WL.guardNo rfl rfl rfl rfl <|
   WL.guardNo rfl rfl rfl rfl <|
   E rfl (ex_pick_f (v := .bool false) rfl rfl) <|
   E rfl (mv (.bool false) rfl) <|
   WL.guardNo rfl rfl rfl rfl <|
   WL.guardNo rfl rfl rfl rfl <|
   E rfl (ex_pick_f (v := .bool false) rfl rfl) <|
   E rfl (mv (.bool false) rfl) <|
   WL.guardNo rfl rfl rfl rfl <|
   WL.guardNo rfl rfl rfl rfl <|
   WL.guardNo rfl rfl rfl rfl <|
   E rfl (ex_pick_f (v := .bool false) rfl rfl) <|
   E rfl (mv (.bool false) rfl) <|
   WL.guardNo rfl rfl rfl rfl <|
   WL.guardNo rfl rfl rfl rfl <|
   E rfl (ex_pick_f (v := .bool false) rfl rfl) <|
   E rfl (mv (.bool false) rfl) <|
   WL.guardNo rfl rfl rfl rfl <|
   WL.guardNo rfl rfl rfl rfl <|
   E rfl (ex_pick_f (v := .bool false) rfl rfl) ?_
  refine E rfl (sg (.bool false) rfl) <|
   WL.nil <|
   WC.ret ?_
  obtain rfl := Option.some.inj H
  exact ⟨_, (.tmp (.bool false : Value) rfl .nil), _, rfl, HF.out⟩

/-! ### formula_New -/
set_option maxRecDepth 100000 in
theorem formula_New.calls (o0 : Tags) (w0 : World) (r : (T_formula_Table × (List (T_api_Node × Int)))) (hO : ∀ b, b < w0.heap.size → o0 b < 40) (H : formula_New.f = some r) :
  Calls Tryd.prog 9 [].toArray w0 fun e_ w_ => ∃ (o_ : Tags) (b_0 : Nat) (rv0_0 : Value) (m_0_1 : Nat), e_ = .returned (one [pp b_0 0]) ∧ Step o0 w0 o_ w_ [] ∧ Bk o_ w_ 39 b_0 [rv0_0, .map (some m_0_1)] 28 ∧ Own T_api_Node.rep 61 38 o_ w_ rv0_0 r.1.f_rows ∧ Mp (fun x_ : T_api_Node => Value.agg #[ii x_.f_Kind, encS x_.f_Name, ii x_.f_L, ii x_.f_R]) (fun v_ : Int => ii v_) 37 o_ w_ m_0_1 r.2 := by
 have HF := Fm.refl hO []
 unfold formula_New.f at H
 refine SX.calls [] Tryd.func9 rfl rfl ?_
 rw [Tryd.ntmps9]
 refine WC.seq <|
  WC.region <|
  E rfl (sg (.pointer none) rfl) <|
  WL.nil <|
  WC.seq <|
  WC.region <|
  WL.op rfl <|
  OW.makeMap (fun x_ : T_api_Node => Value.agg #[ii x_.f_Kind, encS x_.f_Name, ii x_.f_L, ii x_.f_R]) (fun v_ : Int => ii v_) 40 HF rfl ?_
 intro o102 w103 b101 s104 hM105
 replace HF := HF.step s104 rfl
 refine E rfl (ex_build (cs := [.slice none ([] : List T_api_Node).length 0, .map (some b101)]) [(0, 1), (1, 1)] [(1, .map (some b101))] [.slice none 0 0, .map none] U28 zr28 rfl (by kernel_rfl) (evs_cons rfl rfl) rfl) <|
  WL.op rfl <|
  OW.box' [.slice none ([] : List T_api_Node).length 0, .map (some b101)] 41 HF rfl ((congrArg Value.cells (show ev _ _ = (.agg #[.slice none ([] : List T_api_Node).length 0, .map (some b101)] : Value) from rfl)).trans rfl) ?_
 intro o107 w108 b106 s109 hB110
 replace hM105 := hM105.step s109 rfl
 replace HF := HF.step s109 rfl
 refine E rfl (sg (pp b106 0) rfl) <|
  WL.nil <|
  WC.ret ?_
 obtain rfl := Option.some.inj H
 replace hB110 := Bk.renTo (j := 39) hB110
 replace hM105 := Mp.ren (k := 41) (l := 39) hM105 rfl rfl
 replace HF := HF.ren (i := 41) (j := 39) rfl
 replace hB110 := Bk.ren (i := 40) (j := 37) hB110 rfl
 replace hM105 := Mp.renTo (j := 37) hM105
 replace HF := HF.ren (i := 40) (j := 37) rfl
 exact ⟨_, (.tmp (pp b106 0 : Value) rfl .nil), _, b106, (.slice none 0 0), b101, rfl, HF.out, hB110, Own.nil, hM105⟩

/-! ### formula_Table_alive -/
set_option maxRecDepth 100000 in
theorem formula_Table_alive.calls (o0 : Tags) (w0 : World) (pb0 : Nat) (pv0_0 : Value) (pb0_1 : Nat) (a0 : T_formula_Table) (a0_1 : (List (T_api_Node × Int))) (r : Bool) (hO : ∀ b, b < w0.heap.size → o0 b < 40) (hB0 : Bk o0 w0 2 pb0 [pv0_0, .map (some pb0_1)] 28) (hO0_0 : Own T_api_Node.rep 61 3 o0 w0 pv0_0 a0.f_rows) (hM0_1 : Mp (fun x_ : T_api_Node => Value.agg #[ii x_.f_Kind, encS x_.f_Name, ii x_.f_L, ii x_.f_R]) (fun v_ : Int => ii v_) 4 o0 w0 pb0_1 a0_1) (H : formula_Table_alive.f a0 a0_1 = some r) :
  Calls Tryd.prog 26 [pp pb0 0].toArray w0 fun e_ w_ => ∃ (o_ : Tags), e_ = .returned (one [.bool r]) ∧ Step o0 w0 o_ w_ [] := by
 have HF := Fm.refl hO []
 unfold formula_Table_alive.f at H
 refine SX.calls [pp pb0 0] Tryd.func26 rfl rfl ?_
 rw [Tryd.ntmps26]
 refine WC.seq <|
  WC.region <|
  E rfl (sg (.bool false) rfl) <|
  WL.nil <|
  WC.seq <|
  WC.region <|
  E rfl (mv (pp pb0 0) rfl) <|
  E rfl (ex_bin (a := pp pb0 0) (b := .pointer none) (v := .bool true) rfl rfl (bin_neq_ptrSN U23)) <|
  E rfl (mv (.bool true) rfl) <|
  WL.guardYes rfl rfl rfl rfl <|
  OW.ex rfl (mv (pp pb0 0) rfl) <|
  WL.guardYes rfl rfl rfl rfl <|
  OW.ex rfl (ex_nilCheck rfl) <|
  WL.guardYes rfl rfl rfl rfl <|
  OW.ex rfl (ex_fieldAddr rfl U28 rfl sz26) <|
  WL.guardYes rfl rfl rfl rfl <|
  OW.ex rfl (ex_load1 rfl U26 rfl (hB0.cell rfl)) <|
  WL.guardYes rfl rfl rfl rfl <|
  OW.ex rfl (ex_bin (a := .map (some pb0_1)) (b := .map none) (v := .bool true) rfl rfl (bin_neq_mapS U26)) <|
  E rfl (ex_pick_t (v := .bool true) rfl rfl) <|
  E rfl (sg (.bool true) rfl) <|
  WL.nil <|
  WC.ret ?_
 obtain rfl := Option.some.inj H
 exact ⟨_, (.tmp (.bool true : Value) rfl .nil), _, rfl, HF.out⟩

/-! ### formula_Table_Copy -/
set_option maxRecDepth 100000 in
theorem formula_Table_Copy.calls (k : Nat) (o0 : Tags) (w0 : World) (pb0 : Nat) (pv0_0 : Value) (pb0_1 : Nat) (a0 : T_formula_Table) (a0_1 : (List (T_api_Node × Int))) (r : (T_formula_Table × (List (T_api_Node × Int)))) (hO : ∀ b, b < w0.heap.size → o0 b < 40) (hB0 : Bk o0 w0 2 pb0 [pv0_0, .map (some pb0_1)] 28) (hO0_0 : Own T_api_Node.rep 61 3 o0 w0 pv0_0 a0.f_rows) (hM0_1 : Mp (fun x_ : T_api_Node => Value.agg #[ii x_.f_Kind, encS x_.f_Name, ii x_.f_L, ii x_.f_R]) (fun v_ : Int => ii v_) 4 o0 w0 pb0_1 a0_1) (H : formula_Table_Copy.f k a0 a0_1 = some r) :
  Calls Tryd.prog 27 [pp pb0 0].toArray w0 fun e_ w_ => ∃ (o_ : Tags) (b_0 : Nat) (rv0_0 : Value) (m_0_1 : Nat), e_ = .returned (one [pp b_0 0]) ∧ Step o0 w0 o_ w_ [] ∧ Bk o_ w_ 39 b_0 [rv0_0, .map (some m_0_1)] 28 ∧ Own T_api_Node.rep 61 38 o_ w_ rv0_0 r.1.f_rows ∧ Mp (fun x_ : T_api_Node => Value.agg #[ii x_.f_Kind, encS x_.f_Name, ii x_.f_L, ii x_.f_R]) (fun v_ : Int => ii v_) 37 o_ w_ m_0_1 r.2 := by
 have HF := Fm.refl hO []
 unfold formula_Table_Copy.f at H
 refine SX.calls [pp pb0 0] Tryd.func27 rfl rfl ?_
 rw [Tryd.ntmps27]
 refine WC.seq <|
  WC.region <|
  E rfl (sg (.pointer none) rfl) <|
  WL.nil <|
  WC.seq <|
  WC.seq <|
  WC.region <|
  E rfl (mv (pp pb0 0) rfl) ?_
 obtain ⟨z101, hz101, H⟩ := bindE H
 refine WL.op rfl <|
  OW.call [pp pb0 0] rfl Tryd.func26 (by kernel_rfl) (by kernel_rfl) (map_cons' rfl rfl) (formula_Table_alive.calls _ _ pb0 pv0_0 pb0_1 a0 a0_1 z101 (HF.ten (V := [0]) (L := [2, 3, 4]) rfl) (Bk.vw hB0 rfl) (Own.vw hO0_0 rfl rfl) (Mp.vw hM0_1 rfl) hz101) ?_
 obtain rfl := Option.some.inj (show some true = some z101 from hz101)
 rintro _ w102 ⟨o103, rfl, s104⟩
 refine ⟨_, rfl, ?_⟩
 replace s104 := un_stepL (J := []) (L' := []) s104 rfl rfl
 replace hO0_0 := hO0_0.step s104 rfl rfl
 replace hB0 := hB0.step s104 rfl
 replace hM0_1 := hM0_1.step s104 rfl
 replace HF := HF.step s104 rfl
 refine E rfl (ex_not (b := true) rfl) <|
  WL.nil <|
  WC.cond_f rfl <|
  WC.skip <|
  WC.seq <|
  WC.region ?_
 obtain ⟨z105, hz105, H⟩ := bindE H
 refine WL.op rfl <|
  OW.call [] rfl Tryd.func9 (by kernel_rfl) (by kernel_rfl) rfl (formula_New.calls _ _ z105 (HF.ten (V := [0]) (L := []) rfl)  hz105) ?_
 rintro _ w106 ⟨o107, b109, v111, b113, rfl, s108, hB110, hO112, hM114⟩
 refine ⟨_, rfl, ?_⟩
 replace hB110 := Bk.un9 (J := [40, 41, 42]) 0 hB110 rfl s108 rfl rfl
 replace hO112 := Own.un9 (J := [40, 41, 42]) 1 hO112 rfl s108 rfl rfl
 replace hM114 := Mp.un9 (J := [40, 41, 42]) 2 hM114 rfl s108 rfl rfl
 replace s108 := un_stepL (J := [40, 41, 42]) (L' := []) s108 rfl rfl
 replace hO0_0 := hO0_0.step s108 rfl rfl
 replace hB0 := hB0.step s108 rfl
 replace hM0_1 := hM0_1.step s108 rfl
 replace HF := HF.step s108 rfl
 refine E rfl (sg (pp b109 0) rfl) <|
  WL.nil <|
  WC.seq <|
  WC.seq <|
  WC.region <|
  E rfl (mv (pp pb0 0) rfl) <|
  E rfl (ex_nilCheck rfl) <|
  E rfl (ex_fieldAddr rfl U28 rfl sz25) <|
  E rfl (ex_load1 rfl U25 rfl (hB0.cell rfl)) ?_
 obtain ⟨A115, c116, q117⟩ := hO0_0.slice
 refine E rfl (ex_len_slice ((show _ = (pv0_0 : Value) from rfl).trans q117) U25) <|
  E rfl (mv (ii 0) rfl) <|
  WL.nil ?_
 obtain ⟨z127, hz127, H⟩ := bindE H
 obtain ⟨x123, x126⟩ := z127
 refine WC.for (fun k_ ρ_ w_ => ∃ (o_ : Tags) (x118 : Int) (x119 : T_formula_Table) (x122 : (List (T_api_Node × Int))) (v120 : Value), Fm o0 w0 o_ w_ [] ∧ Own T_api_Node.rep 61 3 o_ w_ pv0_0 a0.f_rows ∧ Bk o_ w_ 2 pb0 [pv0_0, .map (some pb0_1)] 28 ∧ Mp (fun x_ : T_api_Node => Value.agg #[ii x_.f_Kind, encS x_.f_Name, ii x_.f_L, ii x_.f_R]) (fun v_ : Int => ii v_) 4 o_ w_ pb0_1 a0_1 ∧ Bk o_ w_ 40 b109 [v120, .map (some b113)] 28 ∧ Own T_api_Node.rep 61 41 o_ w_ v120 x119.f_rows ∧ Mp (fun x_ : T_api_Node => Value.agg #[ii x_.f_Kind, encS x_.f_Name, ii x_.f_L, ii x_.f_R]) (fun v_ : Int => ii v_) 42 o_ w_ b113 x122 ∧ ρ_ 2 = .pointer none ∧ ρ_ 3 = pp b109 0 ∧ ρ_ 13 = pv0_0 ∧ ρ_ 14 = ii (a0.f_rows.length : Int) ∧ ρ_ 15 = ii x118 ∧ formula_Table_Copy.l1 k a0 k_ x118 x119 x122 = some (x123, x126)) k (fun ρ_ w_ => ∃ (o_ : Tags) (v124 : Value), Fm o0 w0 o_ w_ [] ∧ Bk o_ w_ 2 pb0 [pv0_0, .map (some pb0_1)] 28 ∧ Own T_api_Node.rep 61 3 o_ w_ pv0_0 a0.f_rows ∧ Mp (fun x_ : T_api_Node => Value.agg #[ii x_.f_Kind, encS x_.f_Name, ii x_.f_L, ii x_.f_R]) (fun v_ : Int => ii v_) 4 o_ w_ pb0_1 a0_1 ∧ Bk o_ w_ 40 b109 [v124, .map (some b113)] 28 ∧ Own T_api_Node.rep 61 41 o_ w_ v124 x123.f_rows ∧ Mp (fun x_ : T_api_Node => Value.agg #[ii x_.f_Kind, encS x_.f_Name, ii x_.f_L, ii x_.f_R]) (fun v_ : Int => ii v_) 42 o_ w_ b113 x126 ∧ ρ_ 2 = .pointer none ∧ ρ_ 3 = pp b109 0) ⟨_, 0, z105.1, z105.2, _, HF, hO0_0, hB0, hM0_1, hB110, hO112, hM114, rfl, rfl, rfl, rfl, rfl, hz127⟩ ?case128 ?_
 case case128 =>
  rintro ρ189 w190 ⟨o191, v124, HF, hB0, hO0_0, hM0_1, hB110, hO125, hM114, s2_122, s3_122⟩
  refine WC.seq <|
   WC.region <|
   E rfl (mv (pp b109 0) s3_122) <|
   E rfl (sg (pp b109 0) rfl) <|
   WL.nil <|
   WC.ret ?_
  obtain rfl := Option.some.inj H
  replace hB110 := Bk.renTo (j := 39) hB110
  replace hO125 := Own.ren (i := 40) (j := 39) hO125 rfl rfl
  replace hM114 := Mp.ren (k := 40) (l := 39) hM114 rfl rfl
  replace HF := HF.ren (i := 40) (j := 39) rfl
  replace hB110 := Bk.ren (i := 41) (j := 38) hB110 rfl
  replace hO125 := Own.renTo (j := 38) hO125 rfl
  replace hM114 := Mp.ren (k := 41) (l := 38) hM114 rfl rfl
  replace HF := HF.ren (i := 41) (j := 38) rfl
  replace hB110 := Bk.ren (i := 42) (j := 37) hB110 rfl
  replace hO125 := Own.ren (i := 42) (j := 37) hO125 rfl rfl
  replace hM114 := Mp.renTo (j := 37) hM114
  replace HF := HF.ren (i := 42) (j := 37) rfl
  exact ⟨_, (.tmp (pp b109 0 : Value) rfl .nil), _, b109, v124, b113, rfl, HF.out, hB110, hO125, hM114⟩
 have Ho129 := H
 rintro k130 ρ131 w132 ⟨o133, x118, x119, x122, v120, HF, hO0_0, hB0, hM0_1, hB110, hO121, hM114, s2_117, s3_117, s13_117, s14_117, s15_118, H⟩
 cases k130 with
 | zero => cases H
 | succ k130 =>
 rw [formula_Table_Copy.l1.eq_2] at H
 refine WC.seq <|
  WC.region <|
  E rfl (e2 bin_lss s15_118 s14_117) <|
  WL.nil <|
  WC.seq ?_
 rcases condE H with ⟨c134, H⟩ | ⟨c134, H⟩
 ·
  refine WC.cond_t (vb c134 rfl) <|
   WC.skip <|
   WC.seq <|
   WC.block <|
   WC.seq <|
   WC.region <|
   E rfl (mv (ii x118) s15_118) ?_
  obtain ⟨x135, hx135, H⟩ := bindE H
  obtain ⟨A140, c141, q142_⟩ := hO0_0.slice
  obtain ⟨ad136, cc143, e137, g138, g139, hl144, hR145, cell146⟩ := Row.ix (Own.rowOf hO0_0 q142_) hx135
  obtain rfl := T_api_Node.opn hR145
  refine E rfl (ex_indexAddr (i := x118) ((show _ = (pv0_0 : Value) from s13_117).trans q142_) e137 s15_118 U25 sz61 g138 g139) <|
   E rfl (ex_loadN (cs := [ii x135.f_Kind, encS x135.f_Name, ii x135.f_L, ii x135.f_R]) rfl U61 rfl sz61 cell146) <|
   WL.op rfl <|
   OW.alloc' [ii (0 : Int), encS ([] : List UInt8), ii (0 : Int), ii (0 : Int)] 43 HF rfl zr61 rfl ?_
  intro o149 w150 b148 s151 hB152
  replace hO0_0 := hO0_0.step s151 rfl rfl
  replace hB0 := hB0.step s151 rfl
  replace hM0_1 := hM0_1.step s151 rfl
  replace hB110 := hB110.step s151 rfl
  replace hO121 := hO121.step s151 rfl rfl
  replace hM114 := hM114.step s151 rfl
  replace HF := HF.step s151 rfl
  refine E rfl (sg (ii x118) rfl) <|
   WL.op rfl <|
   OW.storeW rfl rfl sz61 hB152 rfl (oa rfl) ?_
  intro w153 s154 hB155
  replace hO0_0 := hO0_0.step s154 rfl rfl
  replace hB0 := hB0.step s154 rfl
  replace hM0_1 := hM0_1.step s154 rfl
  replace hB110 := hB110.step s154 rfl
  replace hO121 := hO121.step s154 rfl rfl
  replace hM114 := hM114.step s154 rfl
  replace HF := HF.step s154 rfl
  refine WL.nil ?_
  obtain ⟨z159, hz159, H⟩ := bindE H
  refine WC.cut (fun ρ_ w_ => ∃ (o_ : Tags) (v157 : Value), Fm o0 w0 o_ w_ [] ∧ Own T_api_Node.rep 61 3 o_ w_ pv0_0 a0.f_rows ∧ Bk o_ w_ 2 pb0 [pv0_0, .map (some pb0_1)] 28 ∧ Mp (fun x_ : T_api_Node => Value.agg #[ii x_.f_Kind, encS x_.f_Name, ii x_.f_L, ii x_.f_R]) (fun v_ : Int => ii v_) 4 o_ w_ pb0_1 a0_1 ∧ Bk o_ w_ 40 b109 [v157, .map (some b113)] 28 ∧ Own T_api_Node.rep 61 41 o_ w_ v157 z159.f_rows ∧ Bk o_ w_ 43 b148 [ii x135.f_Kind, encS x135.f_Name, ii x135.f_L, ii x135.f_R] 61 ∧ Mp (fun x_ : T_api_Node => Value.agg #[ii x_.f_Kind, encS x_.f_Name, ii x_.f_L, ii x_.f_R]) (fun v_ : Int => ii v_) 42 o_ w_ b113 x122 ∧ ρ_ 2 = .pointer none ∧ ρ_ 3 = pp b109 0 ∧ ρ_ 4 = ii x118 ∧ ρ_ 5 = pp b148 0 ∧ ρ_ 13 = pv0_0 ∧ ρ_ 14 = ii (a0.f_rows.length : Int) ∧ ρ_ 15 = ii x118) ?case160 ?_
  case case160 =>
   rintro ρ163 w161 ⟨o162, v157, HF, hO0_0, hB0, hM0_1, hB174, hO158, hB155, hM114, s2_155, s3_155, s4_155, s5_155, s13_155, s14_155, s15_155⟩
   refine WC.regionD' HF [] 6 7 (by kernel_rfl) rfl ?_
   intro w164 s165
   replace hO0_0 := hO0_0.step s165 rfl rfl
   replace hB0 := hB0.step s165 rfl
   replace hM0_1 := hM0_1.step s165 rfl
   replace hB174 := hB174.step s165 rfl
   replace hO158 := hO158.step s165 rfl rfl
   replace hB155 := hB155.step s165 rfl
   replace hM114 := hM114.step s165 rfl
   replace HF := HF.step s165 rfl
   have hO0_0D := hO0_0
   have hB0D := hB0
   have hM0_1D := hM0_1
   have hB174D := hB174
   have hO158D := hO158
   have hB155D := hB155
   have hM114D := hM114
   have sR := HF.here []
   refine WA.norm (listed' := #[false, false, false, false, false, false, false]) (by kernel_rfl) <|
    WA.ex 0 rfl (by kernel_rfl) (by kernel_rfl) (by kernel_rfl) rfl ⟨_, sR⟩ (fun w_ hS_ => ex_move (v := pp b109 0) s3_155) <|
    WA.norm (listed' := #[true, false, false, false, false, false, false]) (by kernel_rfl) <|
    WA.ex 1 rfl (by kernel_rfl) (by kernel_rfl) (by kernel_rfl) rfl ⟨_, sR⟩ (fun w_ hS_ => ex_nilCheck rfl) <|
    WA.norm (listed' := #[true, true, false, false, false, false, false]) (by kernel_rfl) <|
    WA.ex 2 rfl (by kernel_rfl) (by kernel_rfl) (by kernel_rfl) rfl ⟨_, sR⟩ (fun w_ hS_ => ex_fieldAddr rfl U28 rfl sz26) <|
    WA.norm (listed' := #[true, true, true, false, false, false, false]) (by kernel_rfl) <|
    WA.ex 3 rfl (by kernel_rfl) (by kernel_rfl) (by kernel_rfl) rfl ⟨_, sR⟩ (fun w_ hS_ => ex_load1 (v := .map (some b113)) rfl U26 rfl ((hB174D.step hS_.choose_spec rfl).cell rfl)) <|
    WA.norm (listed' := #[true, true, true, true, false, false, false]) (by kernel_rfl) <|
    WA.ex 4 rfl (by kernel_rfl) (by kernel_rfl) (by kernel_rfl) rfl ⟨_, sR⟩ (fun w_ hS_ => ex_loadN (cs := [ii x135.f_Kind, encS x135.f_Name, ii x135.f_L, ii x135.f_R]) s5_155 U61 rfl sz61 ((hB155D.step hS_.choose_spec rfl).cells rfl)) <|
    WA.norm (listed' := #[true, true, true, true, true, false, false]) (by kernel_rfl) <|
    WA.ex 5 rfl (by kernel_rfl) (by kernel_rfl) (by kernel_rfl) rfl ⟨_, sR⟩ (fun w_ hS_ => ex_move (v := ii x118) s4_155) <|
    WA.norm (listed' := #[true, true, true, true, true, true, false]) (by kernel_rfl) <|
    WA.last 6 (by kernel_rfl) (by kernel_rfl) rfl rfl rfl <|
    OW.mapUpdate (ek := (fun x_ : T_api_Node => Value.agg #[ii x_.f_Kind, encS x_.f_Name, ii x_.f_L, ii x_.f_R])) (ev := (fun v_ : Int => ii v_)) (eq := T_api_Node.eqb) (kx := x135) (vx := x118) rfl rfl rfl U26 key61 hM114 ?_
   intro w166 s167 hM168
   replace hO0_0 := hO0_0.step s167 rfl rfl
   replace hB0 := hB0.step s167 rfl
   replace hM0_1 := hM0_1.step s167 rfl
   replace hB174 := hB174.step s167 rfl
   replace hO158 := hO158.step s167 rfl rfl
   replace hB155 := hB155.step s167 rfl
   replace HF := HF.step s167 rfl
   refine WC.region <|
    E rfl (e2 bin_add64 s15_155 rfl) <|
    E rfl (mv (ii (wrap64 (x118 + 1))) rfl) <|
    WL.nil ?_
   exact ⟨k130, Nat.lt_succ_self _, ⟨_, wrap64 (x118 + 1), z159, (mput T_api_Node.eqb x122 x135 x118), _, HF, hO0_0, hB0, hM0_1, hB174, hO158, hM168, s2_155, s3_155, s13_155, s14_155, rfl, H⟩⟩
  have Ho169 := H
  replace H := hz159
  refine WC.regionD' HF [40, 41] 11 11 (by kernel_rfl) rfl ?_
  intro w170 s171
  replace hO0_0 := hO0_0.step s171 rfl rfl
  replace hB0 := hB0.step s171 rfl
  replace hM0_1 := hM0_1.step s171 rfl
  replace hB110 := hB110.step s171 rfl
  replace hO121 := hO121.step s171 rfl rfl
  replace hM114 := hM114.step s171 rfl
  replace hB155 := hB155.step s171 rfl
  replace HF := HF.step s171 rfl
  have hO0_0D := hO0_0
  have hB0D := hB0
  have hM0_1D := hM0_1
  have hB110D := hB110
  have hO121D := hO121
  have hM114D := hM114
  have hB155D := hB155
  have sR := HF.here [40, 41]
  refine WA.norm (listed' := #[false, false, false, false, false, false, false, false, false, false, false]) (by kernel_rfl) <|
   WA.ex 0 rfl (by kernel_rfl) (by kernel_rfl) (by kernel_rfl) rfl ⟨_, sR⟩ (fun w_ hS_ => ex_move (v := pp b109 0) s3_117) <|
   WA.norm (listed' := #[true, false, false, false, false, false, false, false, false, false, false]) (by kernel_rfl) <|
   WA.ex 1 rfl (by kernel_rfl) (by kernel_rfl) (by kernel_rfl) rfl ⟨_, sR⟩ (fun w_ hS_ => ex_move (v := pp b109 0) s3_117) <|
   WA.norm (listed' := #[true, true, false, false, false, false, false, false, false, false, false]) (by kernel_rfl) <|
   WA.ex 2 rfl (by kernel_rfl) (by kernel_rfl) (by kernel_rfl) rfl ⟨_, sR⟩ (fun w_ hS_ => ex_nilCheck rfl) <|
   WA.norm (listed' := #[true, true, true, false, false, false, false, false, false, false, false]) (by kernel_rfl) <|
   WA.ex 3 rfl (by kernel_rfl) (by kernel_rfl) (by kernel_rfl) rfl ⟨_, sR⟩ (fun w_ hS_ => ex_fieldAddr rfl U28 rfl sz25) <|
   WA.norm (listed' := #[true, true, true, true, false, false, false, false, false, false, false]) (by kernel_rfl) <|
   WA.ex 5 rfl (by kernel_rfl) (by kernel_rfl) (by kernel_rfl) rfl ⟨_, sR⟩ (fun w_ hS_ => ex_loadN (cs := [ii x135.f_Kind, encS x135.f_Name, ii x135.f_L, ii x135.f_R]) rfl U61 rfl sz61 ((hB155D.step hS_.choose_spec rfl).cells rfl)) <|
   WA.norm (listed' := #[true, true, true, true, false, true, false, false, false, false, false]) (by kernel_rfl) ?_
  refine WA.both 4 6 (by kernel_rfl) rfl rfl rfl rfl ?_ ?_
  ·
   refine OW.ex rfl (ex_load1 rfl U25 rfl (hB110.cell rfl)) ?_
   refine ⟨⟨_, sR⟩, ?_⟩
   refine WA.norm (listed' := #[true, true, true, true, true, true, false, false, false, false, false]) (by kernel_rfl) <|
    WA.one 6 (by kernel_rfl) rfl rfl <|
    OW.row (r := T_api_Node.rep) (xs := [x135]) [(0, .agg #[ii x135.f_Kind, encS x135.f_Name, ii x135.f_L, ii x135.f_R])] [[ii x135.f_Kind, encS x135.f_Name, ii x135.f_L, ii x135.f_R]] 44 HF rfl U25 sz61 zr61 rfl (evs_cons rfl rfl) rfl rfl ⟨(T_api_Node.mk' x135 ), trivial⟩ rfl rfl rfl rfl ?_
   intro o172 w173 v175 s174 hO176
   replace hO0_0 := hO0_0.step s174 rfl rfl
   replace hB0 := hB0.step s174 rfl
   replace hM0_1 := hM0_1.step s174 rfl
   replace hB110 := hB110.step s174 rfl
   replace hO121 := hO121.step s174 rfl rfl
   replace hM114 := hM114.step s174 rfl
   replace hB155 := hB155.step s174 rfl
   replace HF := HF.step s174 rfl
   replace sR := Step.trans sR s174 (M := [40, 41]) rfl rfl
   refine ⟨⟨_, sR⟩, ?_⟩
   refine WA.norm (listed' := #[true, true, true, true, true, true, true, false, false, false, false]) (by kernel_rfl) ?_
   obtain ⟨A177, c178, q179_, _, q179⟩ := hO176.row
   obtain ⟨u180, hu180, H⟩ := bindE H
   refine WA.one 7 (by kernel_rfl) rfl rfl <|
    OW.append (r := T_api_Node.rep) (E := 61) (i := 41) rfl U25 inf61 rfl (by decide) (by decide) (by decide) rfl ((show _ = (v175 : Value) from rfl).trans q179_) hO121 q179 rfl (of_decide_eq_true (chk_true hu180)) ?_
   intro o181 w182 v183 s184 hO185
   replace hO0_0 := hO0_0.step s184 rfl rfl
   replace hB0 := hB0.step s184 rfl
   replace hM0_1 := hM0_1.step s184 rfl
   replace hB110 := hB110.step s184 rfl
   replace hM114 := hM114.step s184 rfl
   replace hB155 := hB155.step s184 rfl
   replace hO176 := hO176.step s184 rfl rfl
   replace HF := HF.step s184 rfl
   replace sR := Step.trans sR s184 (M := [40, 41]) rfl rfl
   refine ⟨⟨_, sR⟩, ?_⟩
   refine WA.norm (listed' := #[true, true, true, true, true, true, true, true, false, false, false]) (by kernel_rfl) <|
    WA.ex 8 rfl (by kernel_rfl) (by kernel_rfl) (by kernel_rfl) rfl ⟨_, sR⟩ (fun w_ hS_ => ex_nilCheck rfl) <|
    WA.norm (listed' := #[true, true, true, true, true, true, true, true, true, false, false]) (by kernel_rfl) <|
    WA.ex 9 rfl (by kernel_rfl) (by kernel_rfl) (by kernel_rfl) rfl ⟨_, sR⟩ (fun w_ hS_ => ex_fieldAddr rfl U28 rfl sz25) <|
    WA.norm (listed' := #[true, true, true, true, true, true, true, true, true, true, false]) (by kernel_rfl) <|
    WA.one 10 (by kernel_rfl) rfl rfl <|
    OW.store [v183, .map (some b113)] rfl (vs := [v183]) ((congrArg Value.cells (show ev _ _ = (v183 : Value) from rfl)).trans (Own.cells1 hO185)) sz25 hB110 (Nat.le_of_ble_eq_true rfl) (by intro u_ hu_; simp only [List.mem_cons, List.not_mem_nil, or_false] at hu_; rcases hu_ with rfl; first | rfl | exact Own.oneCell hO185) rfl ?_
   intro w186 s187 hB188
   replace hO0_0 := hO0_0.step s187 rfl rfl
   replace hB0 := hB0.step s187 rfl
   replace hM0_1 := hM0_1.step s187 rfl
   replace hM114 := hM114.step s187 rfl
   replace hB155 := hB155.step s187 rfl
   replace hO176 := hO176.step s187 rfl rfl
   replace hO185 := hO185.step s187 rfl rfl
   replace HF := HF.step s187 rfl
   replace sR := Step.trans sR s187 (M := [40, 41]) rfl rfl
   refine ⟨⟨_, sR⟩, ?_⟩
   refine WA.norm (listed' := #[true, true, true, true, true, true, true, true, true, true, true]) (by kernel_rfl) <|
    WA.done (by kernel_rfl) ?_
   obtain rfl := Option.some.inj H
   exact ⟨_, _, HF, hO0_0, hB0, hM0_1, hB188, hO185, hB155, hM114, s2_117, s3_117, rfl, rfl, s13_117, s14_117, s15_118⟩
  ·
   refine OW.row (r := T_api_Node.rep) (xs := [x135]) [(0, .agg #[ii x135.f_Kind, encS x135.f_Name, ii x135.f_L, ii x135.f_R])] [[ii x135.f_Kind, encS x135.f_Name, ii x135.f_L, ii x135.f_R]] 44 HF rfl U25 sz61 zr61 rfl (evs_cons rfl rfl) rfl rfl ⟨(T_api_Node.mk' x135 ), trivial⟩ rfl rfl rfl rfl ?_
   intro o172 w173 v175 s174 hO176
   replace hO0_0 := hO0_0.step s174 rfl rfl
   replace hB0 := hB0.step s174 rfl
   replace hM0_1 := hM0_1.step s174 rfl
   replace hB110 := hB110.step s174 rfl
   replace hO121 := hO121.step s174 rfl rfl
   replace hM114 := hM114.step s174 rfl
   replace hB155 := hB155.step s174 rfl
   replace HF := HF.step s174 rfl
   replace sR := Step.trans sR s174 (M := [40, 41]) rfl rfl
   refine ⟨⟨_, sR⟩, ?_⟩
   refine WA.norm (listed' := #[true, true, true, true, false, true, true, false, false, false, false]) (by kernel_rfl) <|
    WA.one 4 (by kernel_rfl) rfl rfl <|
    OW.ex rfl (ex_load1 rfl U25 rfl (hB110.cell rfl)) ?_
   refine ⟨⟨_, sR⟩, ?_⟩
   refine WA.norm (listed' := #[true, true, true, true, true, true, true, false, false, false, false]) (by kernel_rfl) ?_
   obtain ⟨A177, c178, q179_, _, q179⟩ := hO176.row
   obtain ⟨u180, hu180, H⟩ := bindE H
   refine WA.one 7 (by kernel_rfl) rfl rfl <|
    OW.append (r := T_api_Node.rep) (E := 61) (i := 41) rfl U25 inf61 rfl (by decide) (by decide) (by decide) rfl ((show _ = (v175 : Value) from rfl).trans q179_) hO121 q179 rfl (of_decide_eq_true (chk_true hu180)) ?_
   intro o181 w182 v183 s184 hO185
   replace hO0_0 := hO0_0.step s184 rfl rfl
   replace hB0 := hB0.step s184 rfl
   replace hM0_1 := hM0_1.step s184 rfl
   replace hB110 := hB110.step s184 rfl
   replace hM114 := hM114.step s184 rfl
   replace hB155 := hB155.step s184 rfl
   replace hO176 := hO176.step s184 rfl rfl
   replace HF := HF.step s184 rfl
   replace sR := Step.trans sR s184 (M := [40, 41]) rfl rfl
   refine ⟨⟨_, sR⟩, ?_⟩
   refine WA.norm (listed' := #[true, true, true, true, true, true, true, true, false, false, false]) (by kernel_rfl) <|
    WA.ex 8 rfl (by kernel_rfl) (by kernel_rfl) (by kernel_rfl) rfl ⟨_, sR⟩ (fun w_ hS_ => ex_nilCheck rfl) <|
    WA.norm (listed' := #[true, true, true, true, true, true, true, true, true, false, false]) (by kernel_rfl) <|
    WA.ex 9 rfl (by kernel_rfl) (by kernel_rfl) (by kernel_rfl) rfl ⟨_, sR⟩ (fun w_ hS_ => ex_fieldAddr rfl U28 rfl sz25) <|
    WA.norm (listed' := #[true, true, true, true, true, true, true, true, true, true, false]) (by kernel_rfl) <|
    WA.one 10 (by kernel_rfl) rfl rfl <|
    OW.store [v183, .map (some b113)] rfl (vs := [v183]) ((congrArg Value.cells (show ev _ _ = (v183 : Value) from rfl)).trans (Own.cells1 hO185)) sz25 hB110 (Nat.le_of_ble_eq_true rfl) (by intro u_ hu_; simp only [List.mem_cons, List.not_mem_nil, or_false] at hu_; rcases hu_ with rfl; first | rfl | exact Own.oneCell hO185) rfl ?_
   intro w186 s187 hB188
   replace hO0_0 := hO0_0.step s187 rfl rfl
   replace hB0 := hB0.step s187 rfl
   replace hM0_1 := hM0_1.step s187 rfl
   replace hM114 := hM114.step s187 rfl
   replace hB155 := hB155.step s187 rfl
   replace hO176 := hO176.step s187 rfl rfl
   replace hO185 := hO185.step s187 rfl rfl
   replace HF := HF.step s187 rfl
   replace sR := Step.trans sR s187 (M := [40, 41]) rfl rfl
   refine ⟨⟨_, sR⟩, ?_⟩
   refine WA.norm (listed' := #[true, true, true, true, true, true, true, true, true, true, true]) (by kernel_rfl) <|
    WA.done (by kernel_rfl) ?_
   obtain rfl := Option.some.inj H
   exact ⟨_, _, HF, hO0_0, hB0, hM0_1, hB188, hO185, hB155, hM114, s2_117, s3_117, rfl, rfl, s13_117, s14_117, s15_118⟩
 ·
  refine WC.cond_f (vb c134 rfl) <|
   WC.exit ?_
  obtain ⟨rfl, rfl⟩ := Prod.mk.inj (Option.some.inj H)
  exact ⟨_, _, HF, hB0, hO0_0, hM0_1, hB110, hO121, hM114, s2_117, s3_117⟩

/-! ### syntax_known -/
set_option maxRecDepth 100000 in
theorem syntax_known.calls (k : Nat) (o0 : Tags) (w0 : World) (pb0 : Nat) (pv0_0 : Value) (pb0_1 : Nat) (a0 : T_formula_Table) (a0_1 : (List (T_api_Node × Int))) (r : Bool) (hO : ∀ b, b < w0.heap.size → o0 b < 40) (hB0 : Bk o0 w0 2 pb0 [pv0_0, .map (some pb0_1)] 28) (hO0_0 : Own T_api_Node.rep 61 3 o0 w0 pv0_0 a0.f_rows) (hM0_1 : Mp (fun x_ : T_api_Node => Value.agg #[ii x_.f_Kind, encS x_.f_Name, ii x_.f_L, ii x_.f_R]) (fun v_ : Int => ii v_) 4 o0 w0 pb0_1 a0_1) (H : syntax_known.f k a0 a0_1 = some r) :
  Calls Tryd.prog 13 [pp pb0 0].toArray w0 fun e_ w_ => ∃ (o_ : Tags), e_ = .returned (one [.bool r]) ∧ Step o0 w0 o_ w_ [] := by
 have HF := Fm.refl hO []
 unfold syntax_known.f at H
 refine SX.calls [pp pb0 0] Tryd.func13 rfl rfl ?_
 rw [Tryd.ntmps13]
 refine WC.seq <|
  WC.region <|
  E rfl (sg (.bool false) rfl) <|
  WL.nil <|
  WC.seq <|
  WC.region <|
  E rfl (mv (pp pb0 0) rfl) ?_
 obtain ⟨z101, hz101, H⟩ := bindE H
 refine WL.op rfl <|
  OW.call [pp pb0 0] rfl Tryd.func27 (by kernel_rfl) (by kernel_rfl) (map_cons' rfl rfl) (formula_Table_Copy.calls k _ _ pb0 pv0_0 pb0_1 a0 a0_1 z101 (HF.ten (V := [0]) (L := [2, 3, 4]) rfl) (Bk.vw hB0 rfl) (Own.vw hO0_0 rfl rfl) (Mp.vw hM0_1 rfl) hz101) ?_
 rintro _ w102 ⟨o103, b105, v107, b109, rfl, s104, hB106, hO108, hM110⟩
 refine ⟨_, rfl, ?_⟩
 replace hB106 := Bk.un9 (J := [40, 41, 42]) 0 hB106 rfl s104 rfl rfl
 replace hO108 := Own.un9 (J := [40, 41, 42]) 1 hO108 rfl s104 rfl rfl
 replace hM110 := Mp.un9 (J := [40, 41, 42]) 2 hM110 rfl s104 rfl rfl
 replace s104 := un_stepL (J := [40, 41, 42]) (L' := []) s104 rfl rfl
 replace hO0_0 := hO0_0.step s104 rfl rfl
 replace hB0 := hB0.step s104 rfl
 replace hM0_1 := hM0_1.step s104 rfl
 replace HF := HF.step s104 rfl
 refine E rfl (ex_bin (a := pp b105 0) (b := .pointer none) (v := .bool true) rfl rfl (bin_neq_ptrSN U23)) <|
  E rfl (sg (.bool true) rfl) <|
  WL.nil <|
  WC.ret ?_
 obtain rfl := Option.some.inj H
 exact ⟨_, (.tmp (.bool true : Value) rfl .nil), _, rfl, HF.out⟩

/-! ### token_cursor_here -/
set_option maxRecDepth 100000 in
theorem token_cursor_here.calls (o0 : Tags) (w0 : World) (pb0 : Nat) (a0 : T_token_cursor) (r : (List UInt8)) (hO : ∀ b, b < w0.heap.size → o0 b < 40) (hB0 : Bk o0 w0 2 pb0 [encS a0.f_s, ii a0.f_at.f_Line, ii a0.f_at.f_Col, ii a0.f_at.f_Off] 91) (H : token_cursor_here.f a0 = some r) :
  Calls Tryd.prog 40 [pp pb0 0].toArray w0 fun e_ w_ => ∃ (o_ : Tags), e_ = .returned (one [encS r]) ∧ Step o0 w0 o_ w_ [] := by
 have HF := Fm.refl hO []
 unfold token_cursor_here.f at H
 refine SX.calls [pp pb0 0] Tryd.func40 rfl rfl ?_
 rw [Tryd.ntmps40]
 refine WC.seq <|
  WC.region <|
  E rfl (sg (encS ([] : List UInt8)) rfl) <|
  WL.nil <|
  WC.seq <|
  WC.regionD' HF [] 11 11 (by kernel_rfl) rfl ?_
 intro w101 s102
 replace hB0 := hB0.step s102 rfl
 replace HF := HF.step s102 rfl
 have hB0D := hB0
 have sR := HF.here []
 refine WA.norm (listed' := #[false, false, false, false, false, false, false, false, false, false, false]) (by kernel_rfl) <|
  WA.ex 0 rfl (by kernel_rfl) (by kernel_rfl) (by kernel_rfl) rfl ⟨_, sR⟩ (fun w_ hS_ => ex_move (v := pp pb0 0) rfl) <|
  WA.norm (listed' := #[true, false, false, false, false, false, false, false, false, false, false]) (by kernel_rfl) <|
  WA.ex 1 rfl (by kernel_rfl) (by kernel_rfl) (by kernel_rfl) rfl ⟨_, sR⟩ (fun w_ hS_ => ex_nilCheck rfl) <|
  WA.norm (listed' := #[true, true, false, false, false, false, false, false, false, false, false]) (by kernel_rfl) <|
  WA.ex 2 rfl (by kernel_rfl) (by kernel_rfl) (by kernel_rfl) rfl ⟨_, sR⟩ (fun w_ hS_ => ex_fieldAddr rfl U91 rfl sz9) <|
  WA.norm (listed' := #[true, true, true, false, false, false, false, false, false, false, false]) (by kernel_rfl) <|
  WA.ex 3 rfl (by kernel_rfl) (by kernel_rfl) (by kernel_rfl) rfl ⟨_, sR⟩ (fun w_ hS_ => ex_load1 (v := encS a0.f_s) rfl U9 rfl ((hB0D.step hS_.choose_spec rfl).cell rfl)) <|
  WA.norm (listed' := #[true, true, true, true, false, false, false, false, false, false, false]) (by kernel_rfl) <|
  WA.ex 4 rfl (by kernel_rfl) (by kernel_rfl) (by kernel_rfl) rfl ⟨_, sR⟩ (fun w_ hS_ => ex_move (v := pp pb0 0) rfl) <|
  WA.norm (listed' := #[true, true, true, true, true, false, false, false, false, false, false]) (by kernel_rfl) <|
  WA.ex 5 rfl (by kernel_rfl) (by kernel_rfl) (by kernel_rfl) rfl ⟨_, sR⟩ (fun w_ hS_ => ex_nilCheck rfl) <|
  WA.norm (listed' := #[true, true, true, true, true, true, false, false, false, false, false]) (by kernel_rfl) <|
  WA.ex 6 rfl (by kernel_rfl) (by kernel_rfl) (by kernel_rfl) rfl ⟨_, sR⟩ (fun w_ hS_ => ex_fieldAddr rfl U91 rfl sz33) <|
  WA.norm (listed' := #[true, true, true, true, true, true, true, false, false, false, false]) (by kernel_rfl) <|
  WA.ex 7 rfl (by kernel_rfl) (by kernel_rfl) (by kernel_rfl) rfl ⟨_, sR⟩ (fun w_ hS_ => ex_fieldAddr rfl U33 rfl sz3) <|
  WA.norm (listed' := #[true, true, true, true, true, true, true, true, false, false, false]) (by kernel_rfl) <|
  WA.ex 8 rfl (by kernel_rfl) (by kernel_rfl) (by kernel_rfl) rfl ⟨_, sR⟩ (fun w_ hS_ => ex_load1 (v := ii a0.f_at.f_Off) rfl U3 rfl ((hB0D.step hS_.choose_spec rfl).cell rfl)) <|
  WA.norm (listed' := #[true, true, true, true, true, true, true, true, true, false, false]) (by kernel_rfl) ?_
 obtain ⟨y103, hy103, H⟩ := bindE H
 refine WA.ex 9 rfl (by kernel_rfl) (by kernel_rfl) (by kernel_rfl) rfl ⟨_, sR⟩ (fun w_ hS_ => ex_slice_str (l := a0.f_at.f_Off) (h := (a0.f_s.length : Int)) rfl U9 ⟨_, rfl⟩ rfl hy103) <|
  WA.norm (listed' := #[true, true, true, true, true, true, true, true, true, true, false]) (by kernel_rfl) <|
  WA.ex 10 rfl (by kernel_rfl) (by kernel_rfl) (by kernel_rfl) rfl ⟨_, sR⟩ (fun w_ hS_ => ex_assign (v := encS y103) rfl) <|
  WA.norm (listed' := #[true, true, true, true, true, true, true, true, true, true, true]) (by kernel_rfl) <|
  WA.done (by kernel_rfl) <|
  WC.ret ?_
 obtain rfl := Option.some.inj H
 exact ⟨_, (.tmp (encS y103 : Value) rfl .nil), _, rfl, HF.out⟩


/-! ### utf8.DecodeRuneInString -/
theorem utf8_DecodeRuneInString.calls (o0 : Tags) (w0 : World) (a0 : List UInt8) (r : Int × Int) (hO : ∀ b, b < w0.heap.size → o0 b < 40) (hG : Gl GG o0 w0) (H : utf8_DecodeRuneInString.f a0 = some r) :
    Calls Tryd.prog 56 [encS a0].toArray w0 fun e_ w_ => ∃ (o_ : Tags), e_ = .returned (one [.int .i32 r.1, .int .i64 r.2]) ∧ Step o0 w0 o_ w_ [] := by
  obtain rfl := Option.some.inj H
  refine Calls.mono (Tryd.utf8_DecodeRuneInString ⟨a0.toArray⟩ w0 hG.2.1) ?_
  rintro e w ⟨rfl, hb⟩
  exact ⟨o0, rfl, below_step hb⟩

/-! ### token_cursor_skip -/
set_option maxRecDepth 100000 in
theorem token_cursor_skip.calls (k : Nat) (o0 : Tags) (w0 : World) (pb0 : Nat) (a0 : T_token_cursor) (a1 : Int) (r : T_token_cursor) (hO : ∀ b, b < w0.heap.size → o0 b < 40) (hB0 : Bk o0 w0 2 pb0 [encS a0.f_s, ii a0.f_at.f_Line, ii a0.f_at.f_Col, ii a0.f_at.f_Off] 91) (hG : Gl GG o0 w0) (H : token_cursor_skip.f k a0 a1 = some r) :
  Calls Tryd.prog 42 [pp pb0 0, ii a1].toArray w0 fun e_ w_ => ∃ (o_ : Tags), e_ = .returned (one []) ∧ Step o0 w0 o_ w_ [2] ∧ Bk o_ w_ 2 pb0 [encS r.f_s, ii r.f_at.f_Line, ii r.f_at.f_Col, ii r.f_at.f_Off] 91 := by
 have HF := Fm.refl hO [2]
 unfold token_cursor_skip.f at H
 refine SX.calls [pp pb0 0, ii a1] Tryd.func42 rfl rfl ?_
 rw [Tryd.ntmps42]
 refine WC.seq <|
  WC.region <|
  E rfl (mv (pp pb0 0) rfl) <|
  E rfl (ex_nilCheck rfl) <|
  E rfl (ex_fieldAddr rfl U91 rfl sz33) <|
  E rfl (ex_fieldAddr rfl U33 rfl sz3) <|
  E rfl (ex_load1 rfl U3 rfl (hB0.cell rfl)) <|
  E rfl (mv (ii a1) rfl) <|
  E rfl (e2 bin_add64 rfl rfl) <|
  E rfl (sg (ii (wrap64 (a0.f_at.f_Off + a1))) rfl) <|
  WL.nil ?_
 obtain ⟨z103, hz103, H⟩ := bindE H
 refine WC.for (fun k_ ρ_ w_ => ∃ (o_ : Tags) (x101 : T_token_cursor), Fm o0 w0 o_ w_ [2] ∧ Bk o_ w_ 2 pb0 [encS x101.f_s, ii x101.f_at.f_Line, ii x101.f_at.f_Col, ii x101.f_at.f_Off] 91 ∧ Gl GG o_ w_ ∧ ρ_ 0 = pp pb0 0 ∧ ρ_ 4 = ii (wrap64 (a0.f_at.f_Off + a1)) ∧ token_cursor_skip.l1 k a0 a1 k_ x101 = some z103) k (fun ρ_ w_ => ∃ (o_ : Tags), Fm o0 w0 o_ w_ [2] ∧ Bk o_ w_ 2 pb0 [encS z103.f_s, ii z103.f_at.f_Line, ii z103.f_at.f_Col, ii z103.f_at.f_Off] 91 ∧ Gl GG o_ w_) ⟨_, a0, HF, hB0, hG, rfl, rfl, hz103⟩ ?case104 ?_
 case case104 =>
  rintro ρ142 w143 ⟨o144, HF, hB0, hG⟩
  obtain rfl := Option.some.inj H
  exact ⟨_, .nil, _, rfl, HF.out, hB0⟩
 have Ho105 := H
 rintro k106 ρ107 w108 ⟨o109, x101, HF, hB0, hG, s0_100, s4_100, H⟩
 cases k106 with
 | zero => cases H
 | succ k106 =>
 rw [token_cursor_skip.l1.eq_2] at H
 refine WC.seq <|
  WC.seq <|
  WC.region <|
  E rfl (mv (pp pb0 0) s0_100) <|
  E rfl (ex_nilCheck rfl) <|
  E rfl (ex_fieldAddr rfl U91 rfl sz33) <|
  E rfl (ex_fieldAddr rfl U33 rfl sz3) <|
  E rfl (ex_load1 rfl U3 rfl (hB0.cell rfl)) <|
  E rfl (mv (ii (wrap64 (a0.f_at.f_Off + a1))) s4_100) <|
  E rfl (e2 bin_lss rfl rfl) <|
  WL.nil ?_
 rcases condE H with ⟨c110, H⟩ | ⟨c110, H⟩
 ·
  refine WC.cond_t (vb c110 rfl) <|
   WC.skip <|
   WC.block <|
   WC.seq <|
   WC.region <|
   E rfl (mv (pp pb0 0) s0_100) ?_
  obtain ⟨z111, hz111, H⟩ := bindE H
  refine WL.op rfl <|
   OW.call [pp pb0 0] rfl Tryd.func40 (by kernel_rfl) (by kernel_rfl) (map_cons' rfl rfl) (token_cursor_here.calls _ _ pb0 x101 z111 (HF.ten (V := [0]) (L := [2]) rfl) (Bk.vw hB0 rfl) hz111) ?_
  rintro _ w112 ⟨o113, rfl, s114⟩
  refine ⟨_, rfl, ?_⟩
  replace s114 := un_stepL (J := []) (L' := []) s114 rfl rfl
  replace hB0 := hB0.step s114 rfl
  replace hG := hG.step s114 rfl
  replace HF := HF.step s114 rfl
  obtain ⟨z115, hz115, H⟩ := bindE H
  refine WL.op rfl <|
   OW.call [encS z111] rfl Tryd.func56 (by kernel_rfl) (by kernel_rfl) (map_cons' rfl rfl) (utf8_DecodeRuneInString.calls _ _ z111 z115 (HF.ten (V := [0]) (L := []) rfl) (Gl.vw hG rfl) hz115) ?_
  rintro _ w116 ⟨o117, rfl, s118⟩
  refine ⟨_, rfl, ?_⟩
  replace s118 := un_stepL (J := []) (L' := []) s118 rfl rfl
  replace hB0 := hB0.step s118 rfl
  replace hG := hG.step s118 rfl
  replace HF := HF.step s118 rfl
  refine E rfl (mv (.tuple #[.int .i32 z115.1, ii z115.2]) rfl) <|
   E rfl (ex_extract rfl rfl) <|
   E rfl (ex_extract rfl rfl) <|
   E rfl (sg (.int .i32 z115.1) rfl) <|
   E rfl (sg (ii z115.2) rfl) <|
   WL.nil ?_
  obtain ⟨z120, hz120, H⟩ := bindE H
  refine WC.cut (fun ρ_ w_ => ∃ (o_ : Tags), Fm o0 w0 o_ w_ [2] ∧ Bk o_ w_ 2 pb0 [encS z120.f_s, ii z120.f_at.f_Line, ii z120.f_at.f_Col, ii z120.f_at.f_Off] 91 ∧ Gl GG o_ w_ ∧ ρ_ 0 = pp pb0 0 ∧ ρ_ 4 = ii (wrap64 (a0.f_at.f_Off + a1)) ∧ ρ_ 6 = ii z115.2) ?case121 ?_
  case case121 =>
   rintro ρ124 w122 ⟨o123, HF, hB128, hG, s0_118, s4_118, s6_118⟩
   refine WC.seq <|
    WC.region <|
    E rfl (mv (pp pb0 0) s0_118) <|
    E rfl (ex_nilCheck rfl) <|
    E rfl (ex_fieldAddr rfl U91 rfl sz33) <|
    E rfl (ex_fieldAddr rfl U33 rfl sz3) <|
    E rfl (ex_load1 rfl U3 rfl (hB128.cell rfl)) <|
    E rfl (e2 bin_add64 rfl rfl) <|
    E rfl (ex_nilCheck rfl) <|
    E rfl (ex_fieldAddr rfl U91 rfl sz33) <|
    E rfl (ex_fieldAddr rfl U33 rfl sz3) <|
    WL.op rfl <|
    OW.store [encS z120.f_s, ii z120.f_at.f_Line, ii (wrap64 (z120.f_at.f_Col + 1)), ii z120.f_at.f_Off] rfl (vs := [ii (wrap64 (z120.f_at.f_Col + 1))]) rfl sz3 hB128 (Nat.le_of_ble_eq_true rfl) (oa rfl) rfl ?_
   intro w125 s126 hB127
   replace hG := hG.step s126 rfl
   replace HF := HF.step s126 rfl
   refine WL.nil <|
    WC.region <|
    E rfl (mv (pp pb0 0) s0_118) <|
    E rfl (ex_nilCheck rfl) <|
    E rfl (ex_fieldAddr rfl U91 rfl sz33) <|
    E rfl (ex_fieldAddr rfl U33 rfl sz3) <|
    E rfl (ex_load1 rfl U3 rfl (hB127.cell rfl)) <|
    E rfl (mv (ii z115.2) s6_118) <|
    E rfl (e2 bin_add64 rfl rfl) <|
    E rfl (ex_nilCheck rfl) <|
    E rfl (ex_fieldAddr rfl U91 rfl sz33) <|
    E rfl (ex_fieldAddr rfl U33 rfl sz3) <|
    WL.op rfl <|
    OW.store [encS z120.f_s, ii z120.f_at.f_Line, ii (wrap64 (z120.f_at.f_Col + 1)), ii (wrap64 (z120.f_at.f_Off + z115.2))] rfl (vs := [ii (wrap64 (z120.f_at.f_Off + z115.2))]) rfl sz3 hB127 (Nat.le_of_ble_eq_true rfl) (oa rfl) rfl ?_
   intro w128 s129 hB130
   replace hG := hG.step s129 rfl
   replace HF := HF.step s129 rfl
   refine WL.nil ?_
   exact ⟨k106, Nat.lt_succ_self _, ⟨_, (⟨z120.f_s, (⟨z120.f_at.f_Line, wrap64 (z120.f_at.f_Col + 1), wrap64 (z120.f_at.f_Off + z115.2)⟩ : T_api_Spot)⟩ : T_token_cursor), HF, hB130, hG, s0_118, s4_118, H⟩⟩
  have Ho131 := H
  replace H := hz120
  refine WC.seq <|
   WC.regionD' HF [] 11 11 (by kernel_rfl) rfl ?_
  intro w132 s133
  replace hB0 := hB0.step s133 rfl
  replace hG := hG.step s133 rfl
  replace HF := HF.step s133 rfl
  have hB0D := hB0
  have hGD := hG
  have sR := HF.here []
  refine WA.norm (listed' := #[false, false, false, false, false, false, false, false, false, false, false]) (by kernel_rfl) <|
   WA.ex 0 rfl (by kernel_rfl) (by kernel_rfl) (by kernel_rfl) rfl ⟨_, sR⟩ (fun w_ hS_ => ex_move (v := pp pb0 0) s0_100) <|
   WA.norm (listed' := #[true, false, false, false, false, false, false, false, false, false, false]) (by kernel_rfl) <|
   WA.ex 1 rfl (by kernel_rfl) (by kernel_rfl) (by kernel_rfl) rfl ⟨_, sR⟩ (fun w_ hS_ => ex_nilCheck rfl) <|
   WA.norm (listed' := #[true, true, false, false, false, false, false, false, false, false, false]) (by kernel_rfl) <|
   WA.ex 2 rfl (by kernel_rfl) (by kernel_rfl) (by kernel_rfl) rfl ⟨_, sR⟩ (fun w_ hS_ => ex_fieldAddr rfl U91 rfl sz9) <|
   WA.norm (listed' := #[true, true, true, false, false, false, false, false, false, false, false]) (by kernel_rfl) <|
   WA.ex 3 rfl (by kernel_rfl) (by kernel_rfl) (by kernel_rfl) rfl ⟨_, sR⟩ (fun w_ hS_ => ex_load1 (v := encS x101.f_s) rfl U9 rfl ((hB0D.step hS_.choose_spec rfl).cell rfl)) <|
   WA.norm (listed' := #[true, true, true, true, false, false, false, false, false, false, false]) (by kernel_rfl) <|
   WA.ex 4 rfl (by kernel_rfl) (by kernel_rfl) (by kernel_rfl) rfl ⟨_, sR⟩ (fun w_ hS_ => ex_move (v := pp pb0 0) s0_100) <|
   WA.norm (listed' := #[true, true, true, true, true, false, false, false, false, false, false]) (by kernel_rfl) <|
   WA.ex 5 rfl (by kernel_rfl) (by kernel_rfl) (by kernel_rfl) rfl ⟨_, sR⟩ (fun w_ hS_ => ex_nilCheck rfl) <|
   WA.norm (listed' := #[true, true, true, true, true, true, false, false, false, false, false]) (by kernel_rfl) <|
   WA.ex 6 rfl (by kernel_rfl) (by kernel_rfl) (by kernel_rfl) rfl ⟨_, sR⟩ (fun w_ hS_ => ex_fieldAddr rfl U91 rfl sz33) <|
   WA.norm (listed' := #[true, true, true, true, true, true, true, false, false, false, false]) (by kernel_rfl) <|
   WA.ex 7 rfl (by kernel_rfl) (by kernel_rfl) (by kernel_rfl) rfl ⟨_, sR⟩ (fun w_ hS_ => ex_fieldAddr rfl U33 rfl sz3) <|
   WA.norm (listed' := #[true, true, true, true, true, true, true, true, false, false, false]) (by kernel_rfl) <|
   WA.ex 8 rfl (by kernel_rfl) (by kernel_rfl) (by kernel_rfl) rfl ⟨_, sR⟩ (fun w_ hS_ => ex_load1 (v := ii x101.f_at.f_Off) rfl U3 rfl ((hB0D.step hS_.choose_spec rfl).cell rfl)) <|
   WA.norm (listed' := #[true, true, true, true, true, true, true, true, true, false, false]) (by kernel_rfl) ?_
  obtain ⟨x134, hx134, H⟩ := bindE H
  refine WA.ex 9 rfl (by kernel_rfl) (by kernel_rfl) (by kernel_rfl) rfl ⟨_, sR⟩ (fun w_ hS_ => ex_index_str (i := x101.f_at.f_Off) rfl rfl U9 (ix_some hx134).1 (ix_some hx134).2.2) <|
   WA.norm (listed' := #[true, true, true, true, true, true, true, true, true, true, false]) (by kernel_rfl) <|
   WA.ex 10 rfl (by kernel_rfl) (by kernel_rfl) (by kernel_rfl) rfl ⟨_, sR⟩ (fun w_ hS_ => ex_bin (a := enc8 x134) (b := enc8 (10 : UInt8)) (v := .bool (x134 == (10 : UInt8))) rfl rfl bin_eql_u8) <|
   WA.norm (listed' := #[true, true, true, true, true, true, true, true, true, true, true]) (by kernel_rfl) <|
   WA.done (by kernel_rfl) ?_
  rcases condE H with ⟨c135, H⟩ | ⟨c135, H⟩
  ·
   refine WC.cond_t (vb c135 rfl) <|
    WC.region <|
    E rfl (mv (pp pb0 0) s0_100) <|
    E rfl (mv (pp pb0 0) s0_100) <|
    E rfl (mv (pp pb0 0) s0_100) <|
    E rfl (ex_nilCheck rfl) <|
    E rfl (ex_fieldAddr rfl U91 rfl sz33) <|
    E rfl (ex_fieldAddr rfl U33 rfl sz3) <|
    E rfl (ex_load1 rfl U3 rfl (hB0.cell rfl)) <|
    E rfl (e2 bin_add64 rfl rfl) <|
    E rfl (ex_nilCheck rfl) <|
    E rfl (ex_fieldAddr rfl U91 rfl sz33) <|
    E rfl (ex_fieldAddr rfl U33 rfl sz3) <|
    WL.op rfl <|
    OW.store [encS x101.f_s, ii (wrap64 (x101.f_at.f_Line + 1)), ii x101.f_at.f_Col, ii x101.f_at.f_Off] rfl (vs := [ii (wrap64 (x101.f_at.f_Line + 1))]) rfl sz3 hB0 (Nat.le_of_ble_eq_true rfl) (oa rfl) rfl ?_
   intro w136 s137 hB138
   replace hG := hG.step s137 rfl
   replace HF := HF.step s137 rfl
   refine E rfl (ex_nilCheck rfl) <|
    E rfl (ex_fieldAddr rfl U91 rfl sz33) <|
    E rfl (ex_fieldAddr rfl U33 rfl sz3) <|
    WL.op rfl <|
    OW.store [encS x101.f_s, ii (wrap64 (x101.f_at.f_Line + 1)), ii 0, ii x101.f_at.f_Off] rfl (vs := [ii 0]) rfl sz3 hB138 (Nat.le_of_ble_eq_true rfl) (oa rfl) rfl ?_
   intro w139 s140 hB141
   replace hG := hG.step s140 rfl
   replace HF := HF.step s140 rfl
   refine WL.nil ?_
   obtain rfl := Option.some.inj H
   exact ⟨_, HF, hB141, hG, s0_100, s4_100, rfl⟩
  ·
   refine WC.cond_f (vb c135 rfl) <|
    WC.skip ?_
   obtain rfl := Option.some.inj H
   exact ⟨_, HF, hB0, hG, s0_100, s4_100, rfl⟩
 ·
  refine WC.cond_f (vb c110 rfl) <|
   WC.exit ?_
  obtain rfl := Option.some.inj H
  exact ⟨_, HF, hB0, hG⟩


/-! ### strings.IndexByte -/
theorem strings_IndexByte.calls (o0 : Tags) (w0 : World) (a0 : List UInt8) (a1 : UInt8) (r : Int) (hO : ∀ b, b < w0.heap.size → o0 b < 40) (H : strings_IndexByte.f a0 a1 = some r) :
    Calls Tryd.prog 50 [encS a0, enc8 a1].toArray w0 fun e_ w_ => ∃ (o_ : Tags), e_ = .returned (one [.int .i64 r]) ∧ Step o0 w0 o_ w_ [] := by
  obtain rfl := Option.some.inj H
  refine Calls.mono (Tryd.strings_IndexByte ⟨a0.toArray⟩ (a1.toNat : Int) w0) ?_
  rintro e w ⟨rfl, rfl⟩
  exact ⟨o0, by simp [one], Step.refl _ _ _⟩

/-! ### token_cursor_space -/
set_option maxRecDepth 100000 in
theorem token_cursor_space.calls (k : Nat) (o0 : Tags) (w0 : World) (pb0 : Nat) (a0 : T_token_cursor) (r : T_token_cursor) (hO : ∀ b, b < w0.heap.size → o0 b < 40) (hB0 : Bk o0 w0 2 pb0 [encS a0.f_s, ii a0.f_at.f_Line, ii a0.f_at.f_Col, ii a0.f_at.f_Off] 91) (hG : Gl GG o0 w0) (H : token_cursor_space.f k a0 = some r) :
  Calls Tryd.prog 39 [pp pb0 0].toArray w0 fun e_ w_ => ∃ (o_ : Tags), e_ = .returned (one []) ∧ Step o0 w0 o_ w_ [2] ∧ Bk o_ w_ 2 pb0 [encS r.f_s, ii r.f_at.f_Line, ii r.f_at.f_Col, ii r.f_at.f_Off] 91 := by
 have HF := Fm.refl hO [2]
 unfold token_cursor_space.f at H
 refine SX.calls [pp pb0 0] Tryd.func39 rfl rfl ?_
 rw [Tryd.ntmps39]
 refine WC.scope <|
  WC.seq <|
  WC.label <|
  WC.seq <|
  WC.region <|
  E rfl (mv (pp pb0 0) rfl) ?_
 obtain ⟨z101, hz101, H⟩ := bindE H
 refine WL.op rfl <|
  OW.call [pp pb0 0] rfl Tryd.func40 (by kernel_rfl) (by kernel_rfl) (map_cons' rfl rfl) (token_cursor_here.calls _ _ pb0 a0 z101 (HF.ten (V := [0]) (L := [2]) rfl) (Bk.vw hB0 rfl) hz101) ?_
 rintro _ w102 ⟨o103, rfl, s104⟩
 refine ⟨_, rfl, ?_⟩
 replace s104 := un_stepL (J := []) (L' := []) s104 rfl rfl
 replace hB0 := hB0.step s104 rfl
 replace hG := hG.step s104 rfl
 replace HF := HF.step s104 rfl
 refine E rfl (sg (encS z101) rfl) <|
  WL.nil ?_
 obtain ⟨z108, hz108, H⟩ := bindE H
 refine WC.for (fun k_ ρ_ w_ => ∃ (o_ : Tags) (x105 : List UInt8) (x106 : T_token_cursor), Fm o0 w0 o_ w_ [2] ∧ Bk o_ w_ 2 pb0 [encS x106.f_s, ii x106.f_at.f_Line, ii x106.f_at.f_Col, ii x106.f_at.f_Off] 91 ∧ Gl GG o_ w_ ∧ ρ_ 0 = pp pb0 0 ∧ ρ_ 2 = encS x105 ∧ token_cursor_space.l1 k k_ x105 x106 = some z108) k (fun ρ_ w_ => ∃ (o_ : Tags), Fm o0 w0 o_ w_ [2] ∧ Bk o_ w_ 2 pb0 [encS z108.f_s, ii z108.f_at.f_Line, ii z108.f_at.f_Col, ii z108.f_at.f_Off] 91 ∧ Gl GG o_ w_) ⟨_, z101, a0, HF, hB0, hG, rfl, rfl, hz108⟩ ?case109 ?_
 case case109 =>
  rintro ρ159 w160 ⟨o161, HF, hB0, hG⟩
  refine ⟨fun l_ h_ => (by cases h_), ?_⟩
  obtain rfl := Option.some.inj H
  exact ⟨_, .nil, _, rfl, HF.out, hB0⟩
 have Ho110 := H
 rintro k111 ρ112 w113 ⟨o114, x105, x106, HF, hB0, hG, s0_104, s2_105, H⟩
 cases k111 with
 | zero => cases H
 | succ k111 =>
 rw [token_cursor_space.l1.eq_2] at H
 refine WC.seq <|
  WC.seq <|
  WC.region <|
  E rfl (mv (encS x105) s2_105) <|
  E rfl (e2 bin_neq_str rfl rfl) <|
  WL.nil ?_
 rcases condE H with ⟨c115, H⟩ | ⟨c115, H⟩
 ·
  refine WC.cond_t (vb c115 rfl) <|
   WC.skip <|
   WC.seq <|
   WC.block <|
   WC.seq <|
   WC.region <|
   E rfl (mv (encS x105) s2_105) ?_
  obtain ⟨x116, hx116, H⟩ := bindE H
  refine E rfl (ex_index_str (i := (0 : Int)) rfl rfl U9 (ix_some hx116).1 (ix_some hx116).2.2) <|
   WL.nil <|
   WC.block ?_
  obtain ⟨z118, hz118, H⟩ := bindE H
  refine WC.cut (fun ρ_ w_ => ∃ (o_ : Tags), Fm o0 w0 o_ w_ [2] ∧ Bk o_ w_ 2 pb0 [encS x106.f_s, ii x106.f_at.f_Line, ii x106.f_at.f_Col, ii x106.f_at.f_Off] 91 ∧ Gl GG o_ w_ ∧ ρ_ 0 = pp pb0 0 ∧ ρ_ 2 = encS x105 ∧ ρ_ 11 = enc8 x116 ∧ ρ_ 12 = .bool z118) ?case119 ?_
  case case119 =>
   rintro ρ122 w120 ⟨o121, HF, hB0, hG, s0_116, s2_116, s11_116, s12_117⟩
   rcases condE H with ⟨c123, H⟩ | ⟨c123, H⟩
   ·
    refine WC.cond_t (vb c123 s12_117) <|
     WC.region <|
     E rfl (mv (pp pb0 0) s0_116) ?_
    obtain ⟨z124, hz124, H⟩ := bindE H
    refine WL.op rfl <|
     OW.call [pp pb0 0, ii 1] rfl Tryd.func42 (by kernel_rfl) (by kernel_rfl) (map_cons' rfl (map_cons' rfl rfl)) (token_cursor_skip.calls k _ _ pb0 x106 1 z124 (HF.ten (V := [0]) (L := [2]) rfl) (Bk.vw hB0 rfl) (Gl.vw hG rfl) hz124) ?_
    rintro _ w125 ⟨o126, rfl, s127, hB128⟩
    refine ⟨_, rfl, ?_⟩
    replace hB128 := Bk.unO (J := []) 0 hB128 s127 rfl rfl rfl
    replace s127 := un_stepL (J := []) (L' := [2]) s127 rfl rfl
    replace hG := hG.step s127 rfl
    replace HF := HF.step s127 rfl
    refine WL.nil <|
     WC.region <|
     E rfl (mv (pp pb0 0) s0_116) ?_
    obtain ⟨z129, hz129, H⟩ := bindE H
    refine WL.op rfl <|
     OW.call [pp pb0 0] rfl Tryd.func40 (by kernel_rfl) (by kernel_rfl) (map_cons' rfl rfl) (token_cursor_here.calls _ _ pb0 z124 z129 (HF.ten (V := [0]) (L := [2]) rfl) (Bk.vw hB128 rfl) hz129) ?_
    rintro _ w130 ⟨o131, rfl, s132⟩
    refine ⟨_, rfl, ?_⟩
    replace s132 := un_stepL (J := []) (L' := []) s132 rfl rfl
    replace hG := hG.step s132 rfl
    replace hB128 := hB128.step s132 rfl
    replace HF := HF.step s132 rfl
    refine E rfl (sg (encS z129) rfl) <|
     WL.nil ?_
    exact ⟨k111, Nat.lt_succ_self _, ⟨_, z129, z124, HF, hB128, hG, s0_116, rfl, H⟩⟩
   ·
    refine WC.cond_f (vb c123 s12_117) <|
     WC.seq <|
     WC.region <|
     E rfl (e2 bin_eql_u8 s11_116 rfl) <|
     E rfl (sg (.bool (x116 == (35 : UInt8))) rfl) <|
     WL.nil ?_
    rcases condE H with ⟨c133, H⟩ | ⟨c133, H⟩
    ·
     refine WC.cond_t (vb c133 rfl) <|
      WC.seq <|
      WC.region <|
      E rfl (mv (encS x105) s2_116) ?_
     obtain ⟨z134, hz134, H⟩ := bindE H
     refine WL.op rfl <|
      OW.call [encS x105, enc8 (10 : UInt8)] rfl Tryd.func50 (by kernel_rfl) (by kernel_rfl) (map_cons' rfl (map_cons' rfl rfl)) (strings_IndexByte.calls _ _ x105 (10 : UInt8) z134 (HF.ten (V := [0]) (L := []) rfl)  hz134) ?_
     rintro _ w135 ⟨o136, rfl, s137⟩
     refine ⟨_, rfl, ?_⟩
     replace s137 := un_stepL (J := []) (L' := []) s137 rfl rfl
     replace hB0 := hB0.step s137 rfl
     replace hG := hG.step s137 rfl
     replace HF := HF.step s137 rfl
     refine E rfl (sg (ii z134) rfl) <|
      WL.nil ?_
     obtain ⟨z139, hz139, H⟩ := bindE H
     refine WC.cut (fun ρ_ w_ => ∃ (o_ : Tags), Fm o0 w0 o_ w_ [2] ∧ Bk o_ w_ 2 pb0 [encS x106.f_s, ii x106.f_at.f_Line, ii x106.f_at.f_Col, ii x106.f_at.f_Off] 91 ∧ Gl GG o_ w_ ∧ ρ_ 0 = pp pb0 0 ∧ ρ_ 2 = encS x105 ∧ ρ_ 3 = ii z139) ?case140 ?_
     case case140 =>
      rintro ρ143 w141 ⟨o142, HF, hB0, hG, s0_137, s2_137, s3_138⟩
      refine WC.region <|
       E rfl (mv (pp pb0 0) s0_137) <|
       E rfl (mv (ii z139) s3_138) ?_
      obtain ⟨z144, hz144, H⟩ := bindE H
      refine WL.op rfl <|
       OW.call [pp pb0 0, ii z139] rfl Tryd.func42 (by kernel_rfl) (by kernel_rfl) (map_cons' rfl (map_cons' rfl rfl)) (token_cursor_skip.calls k _ _ pb0 x106 z139 z144 (HF.ten (V := [0]) (L := [2]) rfl) (Bk.vw hB0 rfl) (Gl.vw hG rfl) hz144) ?_
      rintro _ w145 ⟨o146, rfl, s147, hB148⟩
      refine ⟨_, rfl, ?_⟩
      replace hB148 := Bk.unO (J := []) 0 hB148 s147 rfl rfl rfl
      replace s147 := un_stepL (J := []) (L' := [2]) s147 rfl rfl
      replace hG := hG.step s147 rfl
      replace HF := HF.step s147 rfl
      refine WL.nil <|
       WC.region <|
       E rfl (mv (pp pb0 0) s0_137) ?_
      obtain ⟨z149, hz149, H⟩ := bindE H
      refine WL.op rfl <|
       OW.call [pp pb0 0] rfl Tryd.func40 (by kernel_rfl) (by kernel_rfl) (map_cons' rfl rfl) (token_cursor_here.calls _ _ pb0 z144 z149 (HF.ten (V := [0]) (L := [2]) rfl) (Bk.vw hB148 rfl) hz149) ?_
      rintro _ w150 ⟨o151, rfl, s152⟩
      refine ⟨_, rfl, ?_⟩
      replace s152 := un_stepL (J := []) (L' := []) s152 rfl rfl
      replace hG := hG.step s152 rfl
      replace hB148 := hB148.step s152 rfl
      replace HF := HF.step s152 rfl
      refine E rfl (sg (encS z149) rfl) <|
       WL.nil ?_
      exact ⟨k111, Nat.lt_succ_self _, ⟨_, z149, z144, HF, hB148, hG, s0_137, rfl, H⟩⟩
     have Ho153 := H
     replace H := hz139
     refine WC.seq <|
      WC.region <|
      E rfl (mv (ii z134) rfl) <|
      E rfl (e2 bin_lss rfl rfl) <|
      WL.nil ?_
     rcases condE H with ⟨c154, H⟩ | ⟨c154, H⟩
     ·
      refine WC.cond_t (vb c154 rfl) <|
       WC.region <|
       E rfl (mv (encS x105) s2_116) <|
       E rfl (ex_len_str (s := x105) rfl U9) <|
       E rfl (sg (ii (x105.length : Int)) rfl) <|
       WL.nil ?_
      obtain rfl := Option.some.inj H
      exact ⟨_, HF, hB0, hG, s0_116, s2_116, rfl⟩
     ·
      refine WC.cond_f (vb c154 rfl) <|
       WC.skip ?_
      obtain rfl := Option.some.inj H
      exact ⟨_, HF, hB0, hG, s0_116, s2_116, rfl⟩
    ·
     refine WC.cond_f (vb c133 rfl) <|
      WC.exit ?_
     obtain rfl := Option.some.inj H
     exact ⟨_, HF, hB0, hG⟩
  have Ho155 := H
  replace H := hz118
  refine WC.seq <|
   WC.region <|
   E rfl (e2 bin_eql_u8 rfl rfl) <|
   E rfl (sg (.bool (x116 == (32 : UInt8))) rfl) <|
   WL.nil ?_
  rcases condE H with ⟨c156, H⟩ | ⟨c156, H⟩
  ·
   refine WC.cond_t (vb c156 rfl) <|
    WC.skip ?_
   obtain rfl := Option.some.inj H
   exact ⟨_, HF, hB0, hG, s0_104, s2_105, rfl, rfl⟩
  ·
   refine WC.cond_f (vb c156 rfl) <|
    WC.seq <|
    WC.region <|
    E rfl (e2 bin_eql_u8 rfl rfl) <|
    E rfl (sg (.bool (x116 == (9 : UInt8))) rfl) <|
    WL.nil ?_
   rcases condE H with ⟨c157, H⟩ | ⟨c157, H⟩
   ·
    refine WC.cond_t (vb c157 rfl) <|
     WC.skip ?_
    obtain rfl := Option.some.inj H
    exact ⟨_, HF, hB0, hG, s0_104, s2_105, rfl, rfl⟩
   ·
    refine WC.cond_f (vb c157 rfl) <|
     WC.seq <|
     WC.region <|
     E rfl (e2 bin_eql_u8 rfl rfl) <|
     E rfl (sg (.bool (x116 == (10 : UInt8))) rfl) <|
     WL.nil ?_
    rcases condE H with ⟨c158, H⟩ | ⟨c158, H⟩
    ·
     refine WC.cond_t (vb c158 rfl) <|
      WC.skip ?_
     obtain rfl := Option.some.inj H
     exact ⟨_, HF, hB0, hG, s0_104, s2_105, rfl, rfl⟩
    ·
     refine WC.cond_f (vb c158 rfl) <|
      WC.region <|
      E rfl (e2 bin_eql_u8 rfl rfl) <|
      E rfl (sg (.bool (x116 == (13 : UInt8))) rfl) <|
      WL.nil ?_
     obtain rfl := Option.some.inj H
     exact ⟨_, HF, hB0, hG, s0_104, s2_105, rfl, rfl⟩
 ·
  refine WC.cond_f (vb c115 rfl) <|
   WC.exit ?_
  obtain rfl := Option.some.inj H
  exact ⟨_, HF, hB0, hG⟩

/-! ### token_letter -/
set_option maxRecDepth 100000 in
theorem token_letter.calls (o0 : Tags) (w0 : World) (a0 : UInt8) (r : Bool) (hO : ∀ b, b < w0.heap.size → o0 b < 40) (H : token_letter.f a0 = some r) :
  Calls Tryd.prog 51 [enc8 a0].toArray w0 fun e_ w_ => ∃ (o_ : Tags), e_ = .returned (one [.bool r]) ∧ Step o0 w0 o_ w_ [] := by
 have HF := Fm.refl hO []
 unfold token_letter.f at H
 refine SX.calls [enc8 a0] Tryd.func51 rfl rfl ?_
 rw [Tryd.ntmps51]
 refine WC.seq <|
  WC.region <|
  E rfl (sg (.bool false) rfl) <|
  WL.nil <|
  WC.seq <|
  WC.region <|
  E rfl (mv (enc8 a0) rfl) <|
  E rfl (e2 bin_or_u8 rfl rfl) <|
  E rfl (e2 bin_geq_u8 rfl rfl) <|
  E rfl (mv (.bool (decide ((97 : UInt8) ≤ (a0 ||| (32 : UInt8))))) rfl) ?_
 rcases condE H with ⟨c101, H⟩ | ⟨c101, H⟩
 ·
  refine WL.guardYes rfl rfl rfl (vb c101 rfl) <|
   OW.ex rfl (mv (enc8 a0) rfl) <|
   WL.guardYes rfl rfl rfl (vb c101 rfl) <|
   OW.ex rfl (e2 bin_or_u8 rfl rfl) <|
   WL.guardYes rfl rfl rfl (vb c101 rfl) <|
   OW.ex rfl (e2 bin_leq_u8 rfl rfl) <|
   E rfl (ex_pick_t (v := .bool (decide ((a0 ||| (32 : UInt8)) ≤ (122 : UInt8)))) (vb c101 rfl) rfl) <|
   E rfl (mv (.bool (decide ((a0 ||| (32 : UInt8)) ≤ (122 : UInt8)))) rfl) ?_
  rcases condE H with ⟨c102, H⟩ | ⟨c102, H⟩
  ·
   refine WL.guardNo rfl rfl rfl (vb c102 rfl) <|
    WL.guardNo rfl rfl rfl (vb c102 rfl) <|
    E rfl (ex_pick_t (v := .bool true) (vb c102 rfl) rfl) <|
    E rfl (sg (.bool true) rfl) <|
    WL.nil <|
    WC.ret ?_
   obtain rfl := Option.some.inj H
   exact ⟨_, (.tmp (.bool true : Value) rfl .nil), _, rfl, HF.out⟩
  ·
   refine WL.guardYes rfl rfl rfl (vb c102 rfl) <|
    OW.ex rfl (mv (enc8 a0) rfl) <|
    WL.guardYes rfl rfl rfl (vb c102 rfl) <|
    OW.ex rfl (e2 bin_eql_u8 rfl rfl) <|
    E rfl (ex_pick_f (v := .bool (a0 == (95 : UInt8))) (vb c102 rfl) rfl) <|
    E rfl (sg (.bool (a0 == (95 : UInt8))) rfl) <|
    WL.nil <|
    WC.ret ?_
   obtain rfl := Option.some.inj H
   exact ⟨_, (.tmp (.bool (a0 == (95 : UInt8)) : Value) rfl .nil), _, rfl, HF.out⟩
 ·
  refine WL.guardNo rfl rfl rfl (vb c101 rfl) <|
   WL.guardNo rfl rfl rfl (vb c101 rfl) <|
   WL.guardNo rfl rfl rfl (vb c101 rfl) <|
   E rfl (ex_pick_f (v := .bool false) (vb c101 rfl) rfl) <|
   E rfl (mv (.bool false) rfl) <|
   WL.guardYes rfl rfl rfl rfl <|
   OW.ex rfl (mv (enc8 a0) rfl) <|
   WL.guardYes rfl rfl rfl rfl <|
   OW.ex rfl (e2 bin_eql_u8 rfl rfl) <|
   E rfl (ex_pick_f (v := .bool (a0 == (95 : UInt8))) rfl rfl) <|
   E rfl (sg (.bool (a0 == (95 : UInt8))) rfl) <|
   WL.nil <|
   WC.ret ?_
  obtain rfl := Option.some.inj H
  exact ⟨_, (.tmp (.bool (a0 == (95 : UInt8)) : Value) rfl .nil), _, rfl, HF.out⟩

/-! ### token_digit -/
set_option maxRecDepth 100000 in
theorem token_digit.calls (o0 : Tags) (w0 : World) (a0 : UInt8) (r : Bool) (hO : ∀ b, b < w0.heap.size → o0 b < 40) (H : token_digit.f a0 = some r) :
  Calls Tryd.prog 54 [enc8 a0].toArray w0 fun e_ w_ => ∃ (o_ : Tags), e_ = .returned (one [.bool r]) ∧ Step o0 w0 o_ w_ [] := by
 have HF := Fm.refl hO []
 unfold token_digit.f at H
 refine SX.calls [enc8 a0] Tryd.func54 rfl rfl ?_
 rw [Tryd.ntmps54]
 refine WC.seq <|
  WC.region <|
  E rfl (sg (.bool false) rfl) <|
  WL.nil <|
  WC.seq <|
  WC.region <|
  E rfl (mv (enc8 a0) rfl) <|
  E rfl (e2 bin_geq_u8 rfl rfl) <|
  E rfl (mv (.bool (decide ((48 : UInt8) ≤ a0))) rfl) ?_
 rcases condE H with ⟨c101, H⟩ | ⟨c101, H⟩
 ·
  refine WL.guardYes rfl rfl rfl (vb c101 rfl) <|
   OW.ex rfl (mv (enc8 a0) rfl) <|
   WL.guardYes rfl rfl rfl (vb c101 rfl) <|
   OW.ex rfl (e2 bin_leq_u8 rfl rfl) <|
   E rfl (ex_pick_t (v := .bool (decide (a0 ≤ (57 : UInt8)))) (vb c101 rfl) rfl) <|
   E rfl (sg (.bool (decide (a0 ≤ (57 : UInt8)))) rfl) <|
   WL.nil <|
   WC.ret ?_
  obtain rfl := Option.some.inj H
  exact ⟨_, (.tmp (.bool (decide (a0 ≤ (57 : UInt8))) : Value) rfl .nil), _, rfl, HF.out⟩
 ·
  refine WL.guardNo rfl rfl rfl (vb c101 rfl) <|
   WL.guardNo rfl rfl rfl (vb c101 rfl) <|
   E rfl (ex_pick_f (v := .bool false) (vb c101 rfl) rfl) <|
   E rfl (sg (.bool false) rfl) <|
   WL.nil <|
   WC.ret ?_
  obtain rfl := Option.some.inj H
  exact ⟨_, (.tmp (.bool false : Value) rfl .nil), _, rfl, HF.out⟩

/-! ### token_tail -/
set_option maxRecDepth 100000 in
theorem token_tail.calls (o0 : Tags) (w0 : World) (a0 : UInt8) (r : Bool) (hO : ∀ b, b < w0.heap.size → o0 b < 40) (H : token_tail.f a0 = some r) :
  Calls Tryd.prog 53 [enc8 a0].toArray w0 fun e_ w_ => ∃ (o_ : Tags), e_ = .returned (one [.bool r]) ∧ Step o0 w0 o_ w_ [] := by
 have HF := Fm.refl hO []
 unfold token_tail.f at H
 refine SX.calls [enc8 a0] Tryd.func53 rfl rfl ?_
 rw [Tryd.ntmps53]
 refine WC.seq <|
  WC.region <|
  E rfl (sg (.bool false) rfl) <|
  WL.nil <|
  WC.seq <|
  WC.region <|
  E rfl (mv (enc8 a0) rfl) ?_
 obtain ⟨z101, hz101, H⟩ := bindE H
 refine WL.op rfl <|
  OW.call [enc8 a0] rfl Tryd.func51 (by kernel_rfl) (by kernel_rfl) (map_cons' rfl rfl) (token_letter.calls _ _ a0 z101 (HF.ten (V := [0]) (L := []) rfl)  hz101) ?_
 rintro _ w102 ⟨o103, rfl, s104⟩
 refine ⟨_, rfl, ?_⟩
 replace s104 := un_stepL (J := []) (L' := []) s104 rfl rfl
 replace HF := HF.step s104 rfl
 refine E rfl (mv (.bool z101) rfl) ?_
 rcases condE H with ⟨c105, H⟩ | ⟨c105, H⟩
 ·
  refine WL.guardNo rfl rfl rfl (vb c105 rfl) <|
   WL.guardNo rfl rfl rfl (vb c105 rfl) <|
   E rfl (ex_pick_t (v := .bool true) (vb c105 rfl) rfl) <|
   E rfl (mv (.bool true) rfl) <|
   WL.guardNo rfl rfl rfl rfl <|
   WL.guardNo rfl rfl rfl rfl <|
   E rfl (ex_pick_t (v := .bool true) rfl rfl) <|
   E rfl (sg (.bool true) rfl) <|
   WL.nil <|
   WC.ret ?_
  obtain rfl := Option.some.inj H
  exact ⟨_, (.tmp (.bool true : Value) rfl .nil), _, rfl, HF.out⟩
 ·
  refine WL.guardYes rfl rfl rfl (vb c105 rfl) <|
   OW.ex rfl (mv (enc8 a0) rfl) <|
   WL.guardYes rfl rfl rfl (vb c105 rfl) ?_
  obtain ⟨z106, hz106, H⟩ := bindE H
  refine OW.call [enc8 a0] rfl Tryd.func54 (by kernel_rfl) (by kernel_rfl) (map_cons' rfl rfl) (token_digit.calls _ _ a0 z106 (HF.ten (V := [0]) (L := []) rfl)  hz106) ?_
  rintro _ w107 ⟨o108, rfl, s109⟩
  refine ⟨_, rfl, ?_⟩
  replace s109 := un_stepL (J := []) (L' := []) s109 rfl rfl
  replace HF := HF.step s109 rfl
  refine E rfl (ex_pick_f (v := .bool z106) (vb c105 rfl) rfl) <|
   E rfl (mv (.bool z106) rfl) ?_
  rcases condE H with ⟨c110, H⟩ | ⟨c110, H⟩
  ·
   refine WL.guardNo rfl rfl rfl (vb c110 rfl) <|
    WL.guardNo rfl rfl rfl (vb c110 rfl) <|
    E rfl (ex_pick_t (v := .bool true) (vb c110 rfl) rfl) <|
    E rfl (sg (.bool true) rfl) <|
    WL.nil <|
    WC.ret ?_
   obtain rfl := Option.some.inj H
   exact ⟨_, (.tmp (.bool true : Value) rfl .nil), _, rfl, HF.out⟩
  ·
   refine WL.guardYes rfl rfl rfl (vb c110 rfl) <|
    OW.ex rfl (mv (enc8 a0) rfl) <|
    WL.guardYes rfl rfl rfl (vb c110 rfl) <|
    OW.ex rfl (e2 bin_eql_u8 rfl rfl) <|
    E rfl (ex_pick_f (v := .bool (a0 == (39 : UInt8))) (vb c110 rfl) rfl) <|
    E rfl (sg (.bool (a0 == (39 : UInt8))) rfl) <|
    WL.nil <|
    WC.ret ?_
   obtain rfl := Option.some.inj H
   exact ⟨_, (.tmp (.bool (a0 == (39 : UInt8)) : Value) rfl .nil), _, rfl, HF.out⟩

/-! ### token_run_token_tail -/
set_option maxRecDepth 100000 in
theorem token_run_token_tail.calls (k : Nat) (o0 : Tags) (w0 : World) (a0 : List UInt8) (r : Int) (hO : ∀ b, b < w0.heap.size → o0 b < 40) (H : token_run_token_tail.f k a0 = some r) :
  Calls Tryd.prog 52 [encS a0, .func (.func 53) #[] #[]].toArray w0 fun e_ w_ => ∃ (o_ : Tags), e_ = .returned (one [ii r]) ∧ Step o0 w0 o_ w_ [] := by
 have HF := Fm.refl hO []
 unfold token_run_token_tail.f at H
 refine SX.calls [encS a0, .func (.func 53) #[] #[]] Tryd.func52 rfl rfl ?_
 rw [Tryd.ntmps52]
 refine WC.seq <|
  WC.region <|
  E rfl (sg (ii 0) rfl) <|
  WL.nil <|
  WC.seq <|
  WC.region <|
  E rfl (sg (ii 0) rfl) <|
  WL.nil <|
  WC.seq ?_
 obtain ⟨z103, hz103, H⟩ := bindE H
 refine WC.for (fun k_ ρ_ w_ => ∃ (o_ : Tags) (x101 : Int), Fm o0 w0 o_ w_ [] ∧ ρ_ 0 = encS a0 ∧ ρ_ 1 = .func (.func 53) #[] #[] ∧ ρ_ 4 = ii 0 ∧ ρ_ 5 = ii x101 ∧ token_run_token_tail.l1 k a0 k_ x101 = some z103) k (fun ρ_ w_ => ∃ (o_ : Tags), Fm o0 w0 o_ w_ [] ∧ ρ_ 4 = ii 0 ∧ ρ_ 5 = ii z103) ⟨_, 0, HF, rfl, rfl, rfl, rfl, hz103⟩ ?case104 ?_
 case case104 =>
  rintro ρ124 w125 ⟨o126, HF, s4_101, s5_102⟩
  refine WC.seq <|
   WC.region <|
   E rfl (mv (ii z103) s5_102) <|
   E rfl (sg (ii z103) rfl) <|
   WL.nil <|
   WC.ret ?_
  obtain rfl := Option.some.inj H
  exact ⟨_, (.tmp (ii z103 : Value) rfl .nil), _, rfl, HF.out⟩
 have Ho105 := H
 rintro k106 ρ107 w108 ⟨o109, x101, HF, s0_100, s1_100, s4_100, s5_101, H⟩
 cases k106 with
 | zero => cases H
 | succ k106 =>
 rw [token_run_token_tail.l1.eq_2] at H
 refine WC.seq ?_
 obtain ⟨z111, hz111, H⟩ := bindE H
 refine WC.cut (fun ρ_ w_ => ∃ (o_ : Tags), Fm o0 w0 o_ w_ [] ∧ ρ_ 0 = encS a0 ∧ ρ_ 1 = .func (.func 53) #[] #[] ∧ ρ_ 4 = ii 0 ∧ ρ_ 5 = ii x101 ∧ ρ_ 16 = .bool z111) ?case112 ?_
 case case112 =>
  rintro ρ115 w113 ⟨o114, HF, s0_109, s1_109, s4_109, s5_109, s16_110⟩
  rcases condE H with ⟨c116, H⟩ | ⟨c116, H⟩
  ·
   refine WC.cond_t (vb c116 s16_110) <|
    WC.skip <|
    WC.block <|
    WC.region <|
    E rfl (mv (ii x101) s5_109) <|
    E rfl (e2 bin_add64 rfl rfl) <|
    E rfl (sg (ii (wrap64 (x101 + 1))) rfl) <|
    WL.nil ?_
   exact ⟨k106, Nat.lt_succ_self _, ⟨_, wrap64 (x101 + 1), HF, s0_109, s1_109, s4_109, rfl, H⟩⟩
  ·
   refine WC.cond_f (vb c116 s16_110) <|
    WC.exit ?_
   obtain rfl := Option.some.inj H
   exact ⟨_, HF, s4_109, s5_109⟩
 have Ho117 := H
 replace H := hz111
 refine WC.region <|
  E rfl (mv (ii x101) s5_101) <|
  E rfl (mv (encS a0) s0_100) <|
  E rfl (ex_len_str (s := a0) rfl U9) <|
  E rfl (e2 bin_lss rfl rfl) <|
  E rfl (mv (.bool (decide (x101 < (a0.length : Int)))) rfl) ?_
 rcases condE H with ⟨c118, H⟩ | ⟨c118, H⟩
 ·
  refine WL.guardYes rfl rfl rfl (vb c118 rfl) <|
   OW.ex rfl (mv (.func (.func 53) #[] #[]) s1_100) <|
   WL.guardYes rfl rfl rfl (vb c118 rfl) <|
   OW.ex rfl (mv (encS a0) s0_100) <|
   WL.guardYes rfl rfl rfl (vb c118 rfl) <|
   OW.ex rfl (mv (ii x101) s5_101) <|
   WL.guardYes rfl rfl rfl (vb c118 rfl) ?_
  obtain ⟨x119, hx119, H⟩ := bindE H
  refine OW.ex rfl (ex_index_str (i := x101) rfl rfl U9 (ix_some hx119).1 (ix_some hx119).2.2) <|
   WL.guardYes rfl rfl rfl (vb c118 rfl) ?_
  obtain ⟨z120, hz120, H⟩ := bindE H
  refine OW.callV (show ev _ _ = .func (.func 53) #[] #[] from rfl) [enc8 x119] rfl Tryd.func53 (by kernel_rfl) (by kernel_rfl) (map_cons' rfl rfl) (token_tail.calls _ _ x119 z120 (HF.ten (V := [0]) (L := []) rfl)  hz120) ?_
  rintro _ w121 ⟨o122, rfl, s123⟩
  refine ⟨_, rfl, ?_⟩
  replace s123 := un_stepL (J := []) (L' := []) s123 rfl rfl
  replace HF := HF.step s123 rfl
  refine E rfl (ex_pick_t (v := .bool z120) (vb c118 rfl) rfl) <|
   WL.nil ?_
  obtain rfl := Option.some.inj H
  exact ⟨_, HF, s0_100, s1_100, s4_100, s5_101, rfl⟩
 ·
  refine WL.guardNo rfl rfl rfl (vb c118 rfl) <|
   WL.guardNo rfl rfl rfl (vb c118 rfl) <|
   WL.guardNo rfl rfl rfl (vb c118 rfl) <|
   WL.guardNo rfl rfl rfl (vb c118 rfl) <|
   WL.guardNo rfl rfl rfl (vb c118 rfl) <|
   E rfl (ex_pick_f (v := .bool false) (vb c118 rfl) rfl) <|
   WL.nil ?_
  obtain rfl := Option.some.inj H
  exact ⟨_, HF, s0_100, s1_100, s4_100, s5_101, rfl⟩

/-! ### token_run_token_digit -/
set_option maxRecDepth 100000 in
theorem token_run_token_digit.calls (k : Nat) (o0 : Tags) (w0 : World) (a0 : List UInt8) (r : Int) (hO : ∀ b, b < w0.heap.size → o0 b < 40) (H : token_run_token_digit.f k a0 = some r) :
  Calls Tryd.prog 52 [encS a0, .func (.func 54) #[] #[]].toArray w0 fun e_ w_ => ∃ (o_ : Tags), e_ = .returned (one [ii r]) ∧ Step o0 w0 o_ w_ [] := by
 have HF := Fm.refl hO []
 unfold token_run_token_digit.f at H
 refine SX.calls [encS a0, .func (.func 54) #[] #[]] Tryd.func52 rfl rfl ?_
 rw [Tryd.ntmps52]
 refine WC.seq <|
  WC.region <|
  E rfl (sg (ii 0) rfl) <|
  WL.nil <|
  WC.seq <|
  WC.region <|
  E rfl (sg (ii 0) rfl) <|
  WL.nil <|
  WC.seq ?_
 obtain ⟨z103, hz103, H⟩ := bindE H
 refine WC.for (fun k_ ρ_ w_ => ∃ (o_ : Tags) (x101 : Int), Fm o0 w0 o_ w_ [] ∧ ρ_ 0 = encS a0 ∧ ρ_ 1 = .func (.func 54) #[] #[] ∧ ρ_ 4 = ii 0 ∧ ρ_ 5 = ii x101 ∧ token_run_token_digit.l1 k a0 k_ x101 = some z103) k (fun ρ_ w_ => ∃ (o_ : Tags), Fm o0 w0 o_ w_ [] ∧ ρ_ 4 = ii 0 ∧ ρ_ 5 = ii z103) ⟨_, 0, HF, rfl, rfl, rfl, rfl, hz103⟩ ?case104 ?_
 case case104 =>
  rintro ρ124 w125 ⟨o126, HF, s4_101, s5_102⟩
  refine WC.seq <|
   WC.region <|
   E rfl (mv (ii z103) s5_102) <|
   E rfl (sg (ii z103) rfl) <|
   WL.nil <|
   WC.ret ?_
  obtain rfl := Option.some.inj H
  exact ⟨_, (.tmp (ii z103 : Value) rfl .nil), _, rfl, HF.out⟩
 have Ho105 := H
 rintro k106 ρ107 w108 ⟨o109, x101, HF, s0_100, s1_100, s4_100, s5_101, H⟩
 cases k106 with
 | zero => cases H
 | succ k106 =>
 rw [token_run_token_digit.l1.eq_2] at H
 refine WC.seq ?_
 obtain ⟨z111, hz111, H⟩ := bindE H
 refine WC.cut (fun ρ_ w_ => ∃ (o_ : Tags), Fm o0 w0 o_ w_ [] ∧ ρ_ 0 = encS a0 ∧ ρ_ 1 = .func (.func 54) #[] #[] ∧ ρ_ 4 = ii 0 ∧ ρ_ 5 = ii x101 ∧ ρ_ 16 = .bool z111) ?case112 ?_
 case case112 =>
  rintro ρ115 w113 ⟨o114, HF, s0_109, s1_109, s4_109, s5_109, s16_110⟩
  rcases condE H with ⟨c116, H⟩ | ⟨c116, H⟩
  ·
   refine WC.cond_t (vb c116 s16_110) <|
    WC.skip <|
    WC.block <|
    WC.region <|
    E rfl (mv (ii x101) s5_109) <|
    E rfl (e2 bin_add64 rfl rfl) <|
    E rfl (sg (ii (wrap64 (x101 + 1))) rfl) <|
    WL.nil ?_
   exact ⟨k106, Nat.lt_succ_self _, ⟨_, wrap64 (x101 + 1), HF, s0_109, s1_109, s4_109, rfl, H⟩⟩
  ·
   refine WC.cond_f (vb c116 s16_110) <|
    WC.exit ?_
   obtain rfl := Option.some.inj H
   exact ⟨_, HF, s4_109, s5_109⟩
 have Ho117 := H
 replace H := hz111
 refine WC.region <|
  E rfl (mv (ii x101) s5_101) <|
  E rfl (mv (encS a0) s0_100) <|
  E rfl (ex_len_str (s := a0) rfl U9) <|
  E rfl (e2 bin_lss rfl rfl) <|
  E rfl (mv (.bool (decide (x101 < (a0.length : Int)))) rfl) ?_
 rcases condE H with ⟨c118, H⟩ | ⟨c118, H⟩
 ·
  refine WL.guardYes rfl rfl rfl (vb c118 rfl) <|
   OW.ex rfl (mv (.func (.func 54) #[] #[]) s1_100) <|
   WL.guardYes rfl rfl rfl (vb c118 rfl) <|
   OW.ex rfl (mv (encS a0) s0_100) <|
   WL.guardYes rfl rfl rfl (vb c118 rfl) <|
   OW.ex rfl (mv (ii x101) s5_101) <|
   WL.guardYes rfl rfl rfl (vb c118 rfl) ?_
  obtain ⟨x119, hx119, H⟩ := bindE H
  refine OW.ex rfl (ex_index_str (i := x101) rfl rfl U9 (ix_some hx119).1 (ix_some hx119).2.2) <|
   WL.guardYes rfl rfl rfl (vb c118 rfl) ?_
  obtain ⟨z120, hz120, H⟩ := bindE H
  refine OW.callV (show ev _ _ = .func (.func 54) #[] #[] from rfl) [enc8 x119] rfl Tryd.func54 (by kernel_rfl) (by kernel_rfl) (map_cons' rfl rfl) (token_digit.calls _ _ x119 z120 (HF.ten (V := [0]) (L := []) rfl)  hz120) ?_
  rintro _ w121 ⟨o122, rfl, s123⟩
  refine ⟨_, rfl, ?_⟩
  replace s123 := un_stepL (J := []) (L' := []) s123 rfl rfl
  replace HF := HF.step s123 rfl
  refine E rfl (ex_pick_t (v := .bool z120) (vb c118 rfl) rfl) <|
   WL.nil ?_
  obtain rfl := Option.some.inj H
  exact ⟨_, HF, s0_100, s1_100, s4_100, s5_101, rfl⟩
 ·
  refine WL.guardNo rfl rfl rfl (vb c118 rfl) <|
   WL.guardNo rfl rfl rfl (vb c118 rfl) <|
   WL.guardNo rfl rfl rfl (vb c118 rfl) <|
   WL.guardNo rfl rfl rfl (vb c118 rfl) <|
   WL.guardNo rfl rfl rfl (vb c118 rfl) <|
   E rfl (ex_pick_f (v := .bool false) (vb c118 rfl) rfl) <|
   WL.nil ?_
  obtain rfl := Option.some.inj H
  exact ⟨_, HF, s0_100, s1_100, s4_100, s5_101, rfl⟩


/-! ### strconv.Atoi -/
theorem strconv_Atoi.calls (o0 : Tags) (w0 : World) (a0 : List UInt8) (r : Int × Bool) (hO : ∀ b, b < w0.heap.size → o0 b < 40) (hG : Gl GG o0 w0) (H : strconv_Atoi.f a0 = some r) :
    Calls Tryd.prog 55 [encS a0].toArray w0 fun e_ w_ => ∃ (o_ : Tags) (rv1 : Value), e_ = .returned (one [.int .i64 r.1, rv1]) ∧ Step o0 w0 o_ w_ [] ∧ IsErr r.2 rv1 := by
  unfold strconv_Atoi.f at H
  obtain ⟨u, hu, H⟩ := bindE H
  obtain rfl := Option.some.inj H
  have hl : a0.length ≤ 281474976710656 := of_decide_eq_true (chk_true hu)
  have hs : (⟨a0.toArray⟩ : ByteArray).size ≤ 281474976710656 := by rw [size_enc]; exact hl
  cases hc : Lib.atoiAll a0
  · rename_i v
    refine Calls.mono (Tryd.strconv_Atoi_ok ⟨a0.toArray⟩ (Nat.le_trans hs (by decide)) v hc w0) ?_
    rintro e w ⟨rfl, hw⟩
    refine ⟨o0, .nilIface, by simp [atoiF, hc, one], ?_, by simp [atoiF, hc, IsErr]⟩
    rcases hw with rfl | ⟨t, rfl⟩
    · exact Step.refl _ _ _
    · exact bytesWorld_step o0 w0 5 t
  · obtain ⟨tp, p, hv⟩ := hG.2.2.2.2.1
    refine Calls.mono (Tryd.strconv_Atoi_syntax_var ⟨a0.toArray⟩ hs (hc.trans (by rfl)) tp p w0 hv) ?_
    rintro e w ⟨N, rfl, _, _, hb⟩
    exact ⟨o0, _, by simp only [atoiF, hc, one]; rfl, below_step hb, by simp only [atoiF, hc, IsErr, cond_true]; exact ⟨_, _, rfl⟩⟩
  · obtain ⟨tp, p, hv⟩ := hG.2.2.2.2.2
    refine Calls.mono (Tryd.strconv_Atoi_range_var ⟨a0.toArray⟩ hs hc tp p w0 hv) ?_
    rintro e w ⟨N, rfl, _, _, hb⟩
    exact ⟨o0, _, by simp only [atoiF, hc, one]; rfl, below_step hb, by simp only [atoiF, hc, IsErr, cond_true]; exact ⟨_, _, rfl⟩⟩

/-! ### stringslite_HasPrefix -/
set_option maxRecDepth 100000 in
theorem stringslite_HasPrefix.calls (o0 : Tags) (w0 : World) (a0 : List UInt8) (a1 : List UInt8) (r : Bool) (hO : ∀ b, b < w0.heap.size → o0 b < 40) (H : stringslite_HasPrefix.f a0 a1 = some r) :
  Calls Tryd.prog 73 [encS a0, encS a1].toArray w0 fun e_ w_ => ∃ (o_ : Tags), e_ = .returned (one [.bool r]) ∧ Step o0 w0 o_ w_ [] := by
 have HF := Fm.refl hO []
 unfold stringslite_HasPrefix.f at H
 refine SX.calls [encS a0, encS a1] Tryd.func73 rfl rfl ?_
 rw [Tryd.ntmps73]
 refine WC.seq <|
  WC.region <|
  E rfl (sg (.bool false) rfl) <|
  WL.nil <|
  WC.seq <|
  WC.region <|
  E rfl (mv (encS a0) rfl) <|
  E rfl (ex_len_str (s := a0) rfl U9) <|
  E rfl (mv (encS a1) rfl) <|
  E rfl (ex_len_str (s := a1) rfl U9) <|
  E rfl (e2 bin_geq rfl rfl) <|
  E rfl (mv (.bool (decide ((a0.length : Int) ≥ (a1.length : Int)))) rfl) ?_
 rcases condE H with ⟨c101, H⟩ | ⟨c101, H⟩
 ·
  refine WL.guardYes rfl rfl rfl (vb c101 rfl) <|
   OW.ex rfl (mv (encS a0) rfl) <|
   WL.guardYes rfl rfl rfl (vb c101 rfl) <|
   OW.ex rfl (mv (encS a1) rfl) <|
   WL.guardYes rfl rfl rfl (vb c101 rfl) <|
   OW.ex rfl (ex_len_str (s := a1) rfl U9) <|
   WL.guardYes rfl rfl rfl (vb c101 rfl) ?_
  obtain ⟨y102, hy102, H⟩ := bindE H
  refine OW.ex rfl (ex_slice_str (l := 0) (h := (a1.length : Int)) rfl U9 rfl ⟨_, rfl⟩ hy102) <|
   WL.guardYes rfl rfl rfl (vb c101 rfl) <|
   OW.ex rfl (mv (encS a1) rfl) <|
   WL.guardYes rfl rfl rfl (vb c101 rfl) <|
   OW.ex rfl (e2 bin_eql_str rfl rfl) <|
   E rfl (ex_pick_t (v := .bool (y102 == a1)) (vb c101 rfl) rfl) <|
   E rfl (sg (.bool (y102 == a1)) rfl) <|
   WL.nil <|
   WC.ret ?_
  obtain rfl := Option.some.inj H
  exact ⟨_, (.tmp (.bool (y102 == a1) : Value) rfl .nil), _, rfl, HF.out⟩
 ·
  refine WL.guardNo rfl rfl rfl (vb c101 rfl) <|
   WL.guardNo rfl rfl rfl (vb c101 rfl) <|
   WL.guardNo rfl rfl rfl (vb c101 rfl) <|
   WL.guardNo rfl rfl rfl (vb c101 rfl) <|
   WL.guardNo rfl rfl rfl (vb c101 rfl) <|
   WL.guardNo rfl rfl rfl (vb c101 rfl) <|
   E rfl (ex_pick_f (v := .bool false) (vb c101 rfl) rfl) <|
   E rfl (sg (.bool false) rfl) <|
   WL.nil <|
   WC.ret ?_
  obtain rfl := Option.some.inj H
  exact ⟨_, (.tmp (.bool false : Value) rfl .nil), _, rfl, HF.out⟩

/-! ### strings_HasPrefix -/
set_option maxRecDepth 100000 in
theorem strings_HasPrefix.calls (o0 : Tags) (w0 : World) (a0 : List UInt8) (a1 : List UInt8) (r : Bool) (hO : ∀ b, b < w0.heap.size → o0 b < 40) (H : strings_HasPrefix.f a0 a1 = some r) :
  Calls Tryd.prog 65 [encS a0, encS a1].toArray w0 fun e_ w_ => ∃ (o_ : Tags), e_ = .returned (one [.bool r]) ∧ Step o0 w0 o_ w_ [] := by
 have HF := Fm.refl hO []
 unfold strings_HasPrefix.f at H
 refine SX.calls [encS a0, encS a1] Tryd.func65 rfl rfl ?_
 rw [Tryd.ntmps65]
 refine WC.seq <|
  WC.region <|
  E rfl (sg (.bool false) rfl) <|
  WL.nil <|
  WC.seq <|
  WC.region <|
  E rfl (mv (encS a0) rfl) <|
  E rfl (mv (encS a1) rfl) ?_
 obtain ⟨z101, hz101, H⟩ := bindE H
 refine WL.op rfl <|
  OW.call [encS a0, encS a1] rfl Tryd.func73 (by kernel_rfl) (by kernel_rfl) (map_cons' rfl (map_cons' rfl rfl)) (stringslite_HasPrefix.calls _ _ a0 a1 z101 (HF.ten (V := [0]) (L := []) rfl)  hz101) ?_
 rintro _ w102 ⟨o103, rfl, s104⟩
 refine ⟨_, rfl, ?_⟩
 replace s104 := un_stepL (J := []) (L' := []) s104 rfl rfl
 replace HF := HF.step s104 rfl
 refine E rfl (sg (.bool z101) rfl) <|
  WL.nil <|
  WC.ret ?_
 obtain rfl := Option.some.inj H
 exact ⟨_, (.tmp (.bool z101 : Value) rfl .nil), _, rfl, HF.out⟩

/-! ### token_sign -/
set_option maxRecDepth 100000 in
theorem token_sign.calls (k : Nat) (o0 : Tags) (w0 : World) (a0 : List UInt8) (r : (List UInt8) × Int) (hO : ∀ b, b < w0.heap.size → o0 b < 40) (hG : Gl GG o0 w0) (H : token_sign.f k a0 = some r) :
  Calls Tryd.prog 57 [encS a0].toArray w0 fun e_ w_ => ∃ (o_ : Tags), e_ = .returned (one [encS r.1, ii r.2]) ∧ Step o0 w0 o_ w_ [] := by
 have HF := Fm.refl hO []
 unfold token_sign.f at H
 refine SX.calls [encS a0] Tryd.func57 rfl rfl ?_
 rw [Tryd.ntmps57]
 refine WC.seq <|
  WC.region <|
  E rfl (sg (encS ([] : List UInt8)) rfl) <|
  E rfl (sg (ii 0) rfl) <|
  WL.nil <|
  WC.seq <|
  WC.seq <|
  WC.region <|
  E rfl (ex_buildArr (cs := [encS ([60, 45, 62] : List UInt8), encS ([60, 61] : List UInt8), encS ([61, 62] : List UInt8), encS ([45, 62] : List UInt8), encS ([124, 45] : List UInt8), encS ([126] : List UInt8), encS ([38] : List UInt8), encS ([124] : List UInt8), encS ([40] : List UInt8), encS ([41] : List UInt8), encS ([91] : List UInt8), encS ([93] : List UInt8), encS ([123] : List UInt8), encS ([125] : List UInt8), encS ([44] : List UInt8), encS ([46] : List UInt8), encS ([58] : List UInt8), encS ([59] : List UInt8), encS ([61] : List UInt8), encS ([47] : List UInt8)]) [(0, encS ([60, 45, 62] : List UInt8)), (1, encS ([60, 61] : List UInt8)), (2, encS ([61, 62] : List UInt8)), (3, encS ([45, 62] : List UInt8)), (4, encS ([124, 45] : List UInt8)), (5, encS ([126] : List UInt8)), (6, encS ([38] : List UInt8)), (7, encS ([124] : List UInt8)), (8, encS ([40] : List UInt8)), (9, encS ([41] : List UInt8)), (10, encS ([91] : List UInt8)), (11, encS ([93] : List UInt8)), (12, encS ([123] : List UInt8)), (13, encS ([125] : List UInt8)), (14, encS ([44] : List UInt8)), (15, encS ([46] : List UInt8)), (16, encS ([58] : List UInt8)), (17, encS ([59] : List UInt8)), (18, encS ([61] : List UInt8)), (19, encS ([47] : List UInt8))] [.string ⟨#[]⟩, .string ⟨#[]⟩, .string ⟨#[]⟩, .string ⟨#[]⟩, .string ⟨#[]⟩, .string ⟨#[]⟩, .string ⟨#[]⟩, .string ⟨#[]⟩, .string ⟨#[]⟩, .string ⟨#[]⟩, .string ⟨#[]⟩, .string ⟨#[]⟩, .string ⟨#[]⟩, .string ⟨#[]⟩, .string ⟨#[]⟩, .string ⟨#[]⟩, .string ⟨#[]⟩, .string ⟨#[]⟩, .string ⟨#[]⟩, .string ⟨#[]⟩] U111 zr111 rfl sz9 (evs_cons rfl (evs_cons rfl (evs_cons rfl (evs_cons rfl (evs_cons rfl (evs_cons rfl (evs_cons rfl (evs_cons rfl (evs_cons rfl (evs_cons rfl (evs_cons rfl (evs_cons rfl (evs_cons rfl (evs_cons rfl (evs_cons rfl (evs_cons rfl (evs_cons rfl (evs_cons rfl (evs_cons rfl (evs_cons rfl rfl)))))))))))))))))))) rfl) <|
  E rfl (mv (ii 0) rfl) <|
  WL.nil ?_
 obtain ⟨z102, hz102, H⟩ := bindE H
 refine WC.for (fun k_ ρ_ w_ => ∃ (o_ : Tags) (x101 : Int), Fm o0 w0 o_ w_ [] ∧ Gl GG o_ w_ ∧ ρ_ 0 = encS a0 ∧ ρ_ 2 = encS ([] : List UInt8) ∧ ρ_ 3 = ii 0 ∧ ρ_ 8 = .agg (List.map encS ([([60, 45, 62] : List UInt8), ([60, 61] : List UInt8), ([61, 62] : List UInt8), ([45, 62] : List UInt8), ([124, 45] : List UInt8), ([126] : List UInt8), ([38] : List UInt8), ([124] : List UInt8), ([40] : List UInt8), ([41] : List UInt8), ([91] : List UInt8), ([93] : List UInt8), ([123] : List UInt8), ([125] : List UInt8), ([44] : List UInt8), ([46] : List UInt8), ([58] : List UInt8), ([59] : List UInt8), ([61] : List UInt8), ([47] : List UInt8)] : List (List UInt8))).toArray ∧ ρ_ 9 = ii x101 ∧ token_sign.l1 k a0 k_ x101 = some z102) k (fun ρ_ w_ => ∃ (o_ : Tags), Fm o0 w0 o_ w_ [] ∧ Gl GG o_ w_ ∧ ρ_ 0 = encS a0 ∧ ρ_ 2 = encS ([] : List UInt8) ∧ ρ_ 3 = ii 0 ∧ z102 = .inr ()) ⟨_, 0, HF, hG, rfl, rfl, rfl, rfl, rfl, hz102⟩ ?case103 ?_
 case case103 =>
  rintro ρ116 w117 ⟨o118, HF, hG, s0_101, s2_101, s3_101, rfl⟩
  dsimp only at H
  refine WC.seq <|
   WC.region <|
   E rfl (mv (encS a0) s0_101) ?_
  obtain ⟨z119, hz119, H⟩ := bindE H
  refine WL.op rfl <|
   OW.call [encS a0] rfl Tryd.func56 (by kernel_rfl) (by kernel_rfl) (map_cons' rfl rfl) (utf8_DecodeRuneInString.calls _ _ a0 z119 (HF.ten (V := [0]) (L := []) rfl) (Gl.vw hG rfl) hz119) ?_
  rintro _ w120 ⟨o121, rfl, s122⟩
  refine ⟨_, rfl, ?_⟩
  replace s122 := un_stepL (J := []) (L' := []) s122 rfl rfl
  replace hG := hG.step s122 rfl
  replace HF := HF.step s122 rfl
  refine E rfl (mv (.tuple #[.int .i32 z119.1, ii z119.2]) rfl) <|
   E rfl (ex_extract rfl rfl) <|
   E rfl (ex_extract rfl rfl) <|
   E rfl (sg (.int .i32 z119.1) rfl) <|
   E rfl (sg (ii z119.2) rfl) <|
   WL.nil <|
   WC.seq <|
   WC.seq <|
   WC.region <|
   E rfl (mv (.int .i32 z119.1) rfl) <|
   WL.nil <|
   WC.block <|
   WC.seq <|
   WC.region <|
   E rfl (e2 bin_eql rfl rfl) <|
   E rfl (sg (.bool (z119.1 == 172)) rfl) <|
   WL.nil ?_
  rcases condE H with ⟨c123, H⟩ | ⟨c123, H⟩
  ·
   refine WC.cond_t (vb c123 rfl) <|
    WC.seq <|
    WC.region <|
    E rfl (mv (ii z119.2) rfl) <|
    E rfl (sg (encS ([126] : List UInt8)) rfl) <|
    E rfl (sg (ii z119.2) rfl) <|
    WL.nil <|
    WC.ret ?_
   obtain rfl := Option.some.inj H
   exact ⟨_, (.tmp (encS ([126] : List UInt8) : Value) rfl (.tmp (ii z119.2 : Value) rfl .nil)), _, rfl, HF.out⟩
  ·
   refine WC.cond_f (vb c123 rfl) <|
    WC.seq <|
    WC.region <|
    E rfl (e2 bin_eql rfl rfl) <|
    E rfl (sg (.bool (z119.1 == 8743)) rfl) <|
    WL.nil ?_
   rcases condE H with ⟨c124, H⟩ | ⟨c124, H⟩
   ·
    refine WC.cond_t (vb c124 rfl) <|
     WC.seq <|
     WC.region <|
     E rfl (mv (ii z119.2) rfl) <|
     E rfl (sg (encS ([38] : List UInt8)) rfl) <|
     E rfl (sg (ii z119.2) rfl) <|
     WL.nil <|
     WC.ret ?_
    obtain rfl := Option.some.inj H
    exact ⟨_, (.tmp (encS ([38] : List UInt8) : Value) rfl (.tmp (ii z119.2 : Value) rfl .nil)), _, rfl, HF.out⟩
   ·
    refine WC.cond_f (vb c124 rfl) <|
     WC.seq <|
     WC.region <|
     E rfl (e2 bin_eql rfl rfl) <|
     E rfl (sg (.bool (z119.1 == 8744)) rfl) <|
     WL.nil ?_
    rcases condE H with ⟨c125, H⟩ | ⟨c125, H⟩
    ·
     refine WC.cond_t (vb c125 rfl) <|
      WC.seq <|
      WC.region <|
      E rfl (mv (ii z119.2) rfl) <|
      E rfl (sg (encS ([124] : List UInt8)) rfl) <|
      E rfl (sg (ii z119.2) rfl) <|
      WL.nil <|
      WC.ret ?_
     obtain rfl := Option.some.inj H
     exact ⟨_, (.tmp (encS ([124] : List UInt8) : Value) rfl (.tmp (ii z119.2 : Value) rfl .nil)), _, rfl, HF.out⟩
    ·
     refine WC.cond_f (vb c125 rfl) <|
      WC.seq <|
      WC.region <|
      E rfl (e2 bin_eql rfl rfl) <|
      E rfl (sg (.bool (z119.1 == 8594)) rfl) <|
      WL.nil ?_
     rcases condE H with ⟨c126, H⟩ | ⟨c126, H⟩
     ·
      refine WC.cond_t (vb c126 rfl) <|
       WC.seq <|
       WC.region <|
       E rfl (mv (ii z119.2) rfl) <|
       E rfl (sg (encS ([45, 62] : List UInt8)) rfl) <|
       E rfl (sg (ii z119.2) rfl) <|
       WL.nil <|
       WC.ret ?_
      obtain rfl := Option.some.inj H
      exact ⟨_, (.tmp (encS ([45, 62] : List UInt8) : Value) rfl (.tmp (ii z119.2 : Value) rfl .nil)), _, rfl, HF.out⟩
     ·
      refine WC.cond_f (vb c126 rfl) <|
       WC.seq <|
       WC.region <|
       E rfl (e2 bin_eql rfl rfl) <|
       E rfl (sg (.bool (z119.1 == 8596)) rfl) <|
       WL.nil ?_
      rcases condE H with ⟨c127, H⟩ | ⟨c127, H⟩
      ·
       refine WC.cond_t (vb c127 rfl) <|
        WC.seq <|
        WC.region <|
        E rfl (mv (ii z119.2) rfl) <|
        E rfl (sg (encS ([60, 45, 62] : List UInt8)) rfl) <|
        E rfl (sg (ii z119.2) rfl) <|
        WL.nil <|
        WC.ret ?_
       obtain rfl := Option.some.inj H
       exact ⟨_, (.tmp (encS ([60, 45, 62] : List UInt8) : Value) rfl (.tmp (ii z119.2 : Value) rfl .nil)), _, rfl, HF.out⟩
      ·
       refine WC.cond_f (vb c127 rfl) <|
        WC.seq <|
        WC.region <|
        E rfl (e2 bin_eql rfl rfl) <|
        E rfl (sg (.bool (z119.1 == 8866)) rfl) <|
        WL.nil ?_
       rcases condE H with ⟨c128, H⟩ | ⟨c128, H⟩
       ·
        refine WC.cond_t (vb c128 rfl) <|
         WC.seq <|
         WC.region <|
         E rfl (mv (ii z119.2) rfl) <|
         E rfl (sg (encS ([124, 45] : List UInt8)) rfl) <|
         E rfl (sg (ii z119.2) rfl) <|
         WL.nil <|
         WC.ret ?_
        obtain rfl := Option.some.inj H
        exact ⟨_, (.tmp (encS ([124, 45] : List UInt8) : Value) rfl (.tmp (ii z119.2 : Value) rfl .nil)), _, rfl, HF.out⟩
       ·
        refine WC.cond_f (vb c128 rfl) <|
         WC.seq <|
         WC.region <|
         E rfl (e2 bin_eql rfl rfl) <|
         E rfl (sg (.bool (z119.1 == 8804)) rfl) <|
         WL.nil ?_
        rcases condE H with ⟨c129, H⟩ | ⟨c129, H⟩
        ·
         refine WC.cond_t (vb c129 rfl) <|
          WC.seq <|
          WC.region <|
          E rfl (mv (ii z119.2) rfl) <|
          E rfl (sg (encS ([60, 61] : List UInt8)) rfl) <|
          E rfl (sg (ii z119.2) rfl) <|
          WL.nil <|
          WC.ret ?_
         obtain rfl := Option.some.inj H
         exact ⟨_, (.tmp (encS ([60, 61] : List UInt8) : Value) rfl (.tmp (ii z119.2 : Value) rfl .nil)), _, rfl, HF.out⟩
        ·
         refine WC.cond_f (vb c129 rfl) <|
          WC.skip <|
          WC.seq <|
          WC.region <|
          E rfl (sg (encS ([] : List UInt8)) rfl) <|
          E rfl (sg (ii 0) rfl) <|
          WL.nil <|
          WC.ret ?_
         obtain rfl := Option.some.inj H
         exact ⟨_, (.tmp (encS ([] : List UInt8) : Value) rfl (.tmp (ii 0 : Value) rfl .nil)), _, rfl, HF.out⟩
 have Ho104 := H
 rintro k105 ρ106 w107 ⟨o108, x101, HF, hG, s0_100, s2_100, s3_100, s8_100, s9_101, H⟩
 cases k105 with
 | zero => cases H
 | succ k105 =>
 rw [token_sign.l1.eq_2] at H
 refine WC.seq <|
  WC.region <|
  E rfl (e2 bin_lss s9_101 rfl) <|
  WL.nil <|
  WC.seq ?_
 rcases condE H with ⟨c109, H⟩ | ⟨c109, H⟩
 ·
  refine WC.cond_t (vb c109 rfl) <|
   WC.skip <|
   WC.seq <|
   WC.block <|
   WC.seq <|
   WC.region ?_
  obtain ⟨x110, hx110, H⟩ := bindE H
  refine E rfl (ex_indexAV (enc := encS) (i := x101) s8_100 s9_101 U111 U9 rfl sz9 rfl hx110) <|
   E rfl (sg (encS x110) rfl) <|
   WL.nil <|
   WC.seq <|
   WC.region <|
   E rfl (mv (encS a0) s0_100) <|
   E rfl (mv (encS x110) rfl) ?_
  obtain ⟨z111, hz111, H⟩ := bindE H
  refine WL.op rfl <|
   OW.call [encS a0, encS x110] rfl Tryd.func65 (by kernel_rfl) (by kernel_rfl) (map_cons' rfl (map_cons' rfl rfl)) (strings_HasPrefix.calls _ _ a0 x110 z111 (HF.ten (V := [0]) (L := []) rfl)  hz111) ?_
  rintro _ w112 ⟨o113, rfl, s114⟩
  refine ⟨_, rfl, ?_⟩
  replace s114 := un_stepL (J := []) (L' := []) s114 rfl rfl
  replace hG := hG.step s114 rfl
  replace HF := HF.step s114 rfl
  refine WL.nil ?_
  rcases condE H with ⟨c115, H⟩ | ⟨c115, H⟩
  ·
   refine WC.cond_t (vb c115 rfl) <|
    WC.seq <|
    WC.region <|
    E rfl (mv (encS x110) rfl) <|
    E rfl (mv (encS x110) rfl) <|
    E rfl (ex_len_str (s := x110) rfl U9) <|
    E rfl (sg (encS x110) rfl) <|
    E rfl (sg (ii (x110.length : Int)) rfl) <|
    WL.nil <|
    WC.ret ?_
   obtain rfl := Option.some.inj H
   replace H := Ho104
   dsimp only at H
   obtain rfl := Option.some.inj H
   exact ⟨_, (.tmp (encS x110 : Value) rfl (.tmp (ii (x110.length : Int) : Value) rfl .nil)), _, rfl, HF.out⟩
  ·
   refine WC.cond_f (vb c115 rfl) <|
    WC.skip <|
    WC.region <|
    E rfl (e2 bin_add64 s9_101 rfl) <|
    E rfl (mv (ii (wrap64 (x101 + 1))) rfl) <|
    WL.nil ?_
   exact ⟨k105, Nat.lt_succ_self _, ⟨_, wrap64 (x101 + 1), HF, hG, s0_100, s2_100, s3_100, s8_100, rfl, H⟩⟩
 ·
  refine WC.cond_f (vb c109 rfl) <|
   WC.exit ?_
  obtain rfl := Option.some.inj H
  exact ⟨_, HF, hG, s0_100, s2_100, s3_100, rfl⟩

/-! ### token_word -/
set_option maxRecDepth 100000 in
theorem token_word.calls (k : Nat) (o0 : Tags) (w0 : World) (a0 : List UInt8) (r : T_api_Token × Int × Int) (hO : ∀ b, b < w0.heap.size → o0 b < 40) (hG : Gl GG o0 w0) (H : token_word.f k a0 = some r) :
  Calls Tryd.prog 41 [encS a0].toArray w0 fun e_ w_ => ∃ (o_ : Tags), e_ = .returned (one [.agg #[ii r.1.f_Kind, encS r.1.f_Text, ii r.1.f_Int, ii r.1.f_At.f_Line, ii r.1.f_At.f_Col, ii r.1.f_At.f_Off], ii r.2.1, ii r.2.2]) ∧ Step o0 w0 o_ w_ [] := by
 have HF := Fm.refl hO []
 unfold token_word.f at H
 refine SX.calls [encS a0] Tryd.func41 rfl rfl ?_
 rw [Tryd.ntmps41]
 refine WC.seq <|
  WC.region <|
  WL.op rfl <|
  OW.alloc' [ii (0 : Int), encS ([] : List UInt8), ii (0 : Int), ii (0 : Int), ii (0 : Int), ii (0 : Int)] 40 HF rfl zr45 rfl ?_
 intro o102 w103 b101 s104 hB105
 replace hG := hG.step s104 rfl
 replace HF := HF.step s104 rfl
 refine E rfl (sg (ii 0) rfl) <|
  E rfl (sg (ii 0) rfl) <|
  WL.nil <|
  WC.seq <|
  WC.block <|
  WC.seq <|
  WC.region <|
  E rfl (mv (encS a0) rfl) ?_
 obtain ⟨x106, hx106, H⟩ := bindE H
 refine E rfl (ex_index_str (i := (0 : Int)) rfl rfl U9 (ix_some hx106).1 (ix_some hx106).2.2) ?_
 obtain ⟨z107, hz107, H⟩ := bindE H
 refine WL.op rfl <|
  OW.call [enc8 x106] rfl Tryd.func51 (by kernel_rfl) (by kernel_rfl) (map_cons' rfl rfl) (token_letter.calls _ _ x106 z107 (HF.ten (V := [0]) (L := []) rfl)  hz107) ?_
 rintro _ w108 ⟨o109, rfl, s110⟩
 refine ⟨_, rfl, ?_⟩
 replace s110 := un_stepL (J := []) (L' := []) s110 rfl rfl
 replace hG := hG.step s110 rfl
 replace hB105 := hB105.step s110 rfl
 replace HF := HF.step s110 rfl
 refine E rfl (sg (.bool z107) rfl) <|
  WL.nil ?_
 rcases condE H with ⟨c111, H⟩ | ⟨c111, H⟩
 ·
  refine WC.cond_t (vb c111 rfl) <|
   WC.seq <|
   WC.region <|
   E rfl (mv (encS a0) rfl) ?_
  obtain ⟨z112, hz112, H⟩ := bindE H
  refine WL.op rfl <|
   OW.call [encS a0, .func (.func 53) #[] #[]] rfl Tryd.func52 (by kernel_rfl) (by kernel_rfl) (map_cons' rfl (map_cons' rfl rfl)) (token_run_token_tail.calls k _ _ a0 z112 (HF.ten (V := [0]) (L := []) rfl)  hz112) ?_
  rintro _ w113 ⟨o114, rfl, s115⟩
  refine ⟨_, rfl, ?_⟩
  replace s115 := un_stepL (J := []) (L' := []) s115 rfl rfl
  replace hG := hG.step s115 rfl
  replace hB105 := hB105.step s115 rfl
  replace HF := HF.step s115 rfl
  refine E rfl (sg (ii z112) rfl) <|
   WL.nil <|
   WC.seq <|
   WC.seq <|
   WC.region <|
   E rfl (mv (ii z112) rfl) <|
   E rfl (e2 bin_gtr rfl rfl) <|
   WL.nil ?_
  rcases condE H with ⟨c116, H⟩ | ⟨c116, H⟩
  ·
   refine WC.cond_t (vb c116 rfl) <|
    WC.seq <|
    WC.region <|
    E rfl (ex_build (cs := [ii (0 : Int), encS ([] : List UInt8), ii (0 : Int), ii (0 : Int), ii (0 : Int), ii (0 : Int)]) [(0, 1), (1, 1), (2, 1), (3, 3)] [] [ii 0, .string ⟨#[]⟩, ii 0, ii 0, ii 0, ii 0] U45 zr45 rfl (by kernel_rfl) rfl rfl) <|
    WL.op rfl <|
    OW.storeW rfl rfl sz45 hB105 rfl (oa rfl) ?_
   intro w117 s118 hB119
   replace hG := hG.step s118 rfl
   replace HF := HF.step s118 rfl
   refine E rfl (sg (ii 0) rfl) <|
    E rfl (sg (ii 22) rfl) <|
    WL.nil <|
    WC.ret ?_
   obtain rfl := Option.some.inj H
   exact ⟨_, (.cell (.agg #[ii (0 : Int), encS ([] : List UInt8), ii (0 : Int), ii (0 : Int), ii (0 : Int), ii (0 : Int)] : Value) rfl (run_loadN (cs := [ii (0 : Int), encS ([] : List UInt8), ii (0 : Int), ii (0 : Int), ii (0 : Int), ii (0 : Int)]) U45 rfl sz45 (hB119.cells rfl)) (.tmp (ii 0 : Value) rfl (.tmp (ii 22 : Value) rfl .nil))), _, rfl, HF.out⟩
  ·
   refine WC.cond_f (vb c116 rfl) <|
    WC.skip <|
    WC.seq <|
    WC.region <|
    E rfl (mv (encS a0) rfl) <|
    E rfl (mv (ii z112) rfl) ?_
   obtain ⟨y120, hy120, H⟩ := bindE H
   refine E rfl (ex_slice_str (l := 0) (h := z112) rfl U9 rfl ⟨_, rfl⟩ hy120) <|
    E rfl (ex_build (cs := [ii 1, encS y120, ii (0 : Int), ii (0 : Int), ii (0 : Int), ii (0 : Int)]) [(0, 1), (1, 1), (2, 1), (3, 3)] [(0, ii 1), (1, encS y120)] [ii 0, .string ⟨#[]⟩, ii 0, ii 0, ii 0, ii 0] U45 zr45 rfl (by kernel_rfl) (evs_cons rfl (evs_cons rfl rfl)) rfl) <|
    E rfl (mv (ii z112) rfl) <|
    WL.op rfl <|
    OW.storeW rfl rfl sz45 hB105 rfl (oa rfl) ?_
   intro w121 s122 hB123
   replace hG := hG.step s122 rfl
   replace HF := HF.step s122 rfl
   refine E rfl (sg (ii z112) rfl) <|
    E rfl (sg (ii 0) rfl) <|
    WL.nil <|
    WC.ret ?_
   obtain rfl := Option.some.inj H
   exact ⟨_, (.cell (.agg #[ii 1, encS y120, ii (0 : Int), ii (0 : Int), ii (0 : Int), ii (0 : Int)] : Value) rfl (run_loadN (cs := [ii 1, encS y120, ii (0 : Int), ii (0 : Int), ii (0 : Int), ii (0 : Int)]) U45 rfl sz45 (hB123.cells rfl)) (.tmp (ii z112 : Value) rfl (.tmp (ii 0 : Value) rfl .nil))), _, rfl, HF.out⟩
 ·
  refine WC.cond_f (vb c111 rfl) <|
   WC.seq <|
   WC.region <|
   E rfl (mv (encS a0) rfl) ?_
  obtain ⟨x124, hx124, H⟩ := bindE H
  refine E rfl (ex_index_str (i := (0 : Int)) rfl rfl U9 (ix_some hx124).1 (ix_some hx124).2.2) ?_
  obtain ⟨z125, hz125, H⟩ := bindE H
  refine WL.op rfl <|
   OW.call [enc8 x124] rfl Tryd.func54 (by kernel_rfl) (by kernel_rfl) (map_cons' rfl rfl) (token_digit.calls _ _ x124 z125 (HF.ten (V := [0]) (L := []) rfl)  hz125) ?_
  rintro _ w126 ⟨o127, rfl, s128⟩
  refine ⟨_, rfl, ?_⟩
  replace s128 := un_stepL (J := []) (L' := []) s128 rfl rfl
  replace hG := hG.step s128 rfl
  replace hB105 := hB105.step s128 rfl
  replace HF := HF.step s128 rfl
  refine E rfl (sg (.bool z125) rfl) <|
   WL.nil ?_
  rcases condE H with ⟨c129, H⟩ | ⟨c129, H⟩
  ·
   refine WC.cond_t (vb c129 rfl) <|
    WC.seq <|
    WC.region <|
    E rfl (mv (encS a0) rfl) ?_
   obtain ⟨z130, hz130, H⟩ := bindE H
   refine WL.op rfl <|
    OW.call [encS a0, .func (.func 54) #[] #[]] rfl Tryd.func52 (by kernel_rfl) (by kernel_rfl) (map_cons' rfl (map_cons' rfl rfl)) (token_run_token_digit.calls k _ _ a0 z130 (HF.ten (V := [0]) (L := []) rfl)  hz130) ?_
   rintro _ w131 ⟨o132, rfl, s133⟩
   refine ⟨_, rfl, ?_⟩
   replace s133 := un_stepL (J := []) (L' := []) s133 rfl rfl
   replace hG := hG.step s133 rfl
   replace hB105 := hB105.step s133 rfl
   replace HF := HF.step s133 rfl
   refine E rfl (sg (ii z130) rfl) <|
    WL.nil <|
    WC.seq <|
    WC.region <|
    E rfl (mv (encS a0) rfl) <|
    E rfl (mv (ii z130) rfl) ?_
   obtain ⟨y134, hy134, H⟩ := bindE H
   refine E rfl (ex_slice_str (l := 0) (h := z130) rfl U9 rfl ⟨_, rfl⟩ hy134) ?_
   obtain ⟨z135, hz135, H⟩ := bindE H
   refine WL.op rfl <|
    OW.call [encS y134] rfl Tryd.func55 (by kernel_rfl) (by kernel_rfl) (map_cons' rfl rfl) (strconv_Atoi.calls _ _ y134 z135 (HF.ten (V := [0]) (L := []) rfl) (Gl.vw hG rfl) hz135) ?_
   rintro _ w136 ⟨o137, v139, rfl, s138, hE140⟩
   refine ⟨_, rfl, ?_⟩
   replace s138 := un_stepL (J := []) (L' := []) s138 rfl rfl
   replace hG := hG.step s138 rfl
   replace hB105 := hB105.step s138 rfl
   replace HF := HF.step s138 rfl
   refine E rfl (mv (.tuple #[ii z135.1, v139]) rfl) <|
    E rfl (ex_extract rfl rfl) <|
    E rfl (ex_extract rfl rfl) <|
    E rfl (sg (ii z135.1) rfl) <|
    E rfl (sg v139 rfl) <|
    WL.nil <|
    WC.seq ?_
   obtain ⟨z142, hz142, H⟩ := bindE H
   refine WC.cut (fun ρ_ w_ => ∃ (o_ : Tags), Fm o0 w0 o_ w_ [] ∧ Bk o_ w_ 40 b101 [ii (0 : Int), encS ([] : List UInt8), ii (0 : Int), ii (0 : Int), ii (0 : Int), ii (0 : Int)] 45 ∧ Gl GG o_ w_ ∧ ρ_ 0 = encS a0 ∧ ρ_ 2 = pp b101 0 ∧ ρ_ 3 = ii 0 ∧ ρ_ 4 = ii 0 ∧ ρ_ 6 = ii z130 ∧ ρ_ 7 = ii z135.1 ∧ ρ_ 66 = .bool z142) ?case143 ?_
   case case143 =>
    rintro ρ146 w144 ⟨o145, HF, hB105, hG, s0_140, s2_140, s3_140, s4_140, s6_140, s7_140, s66_141⟩
    rcases condE H with ⟨c147, H⟩ | ⟨c147, H⟩
    ·
     refine WC.cond_t (vb c147 s66_141) <|
      WC.seq <|
      WC.region <|
      E rfl (ex_build (cs := [ii (0 : Int), encS ([] : List UInt8), ii (0 : Int), ii (0 : Int), ii (0 : Int), ii (0 : Int)]) [(0, 1), (1, 1), (2, 1), (3, 3)] [] [ii 0, .string ⟨#[]⟩, ii 0, ii 0, ii 0, ii 0] U45 zr45 rfl (by kernel_rfl) rfl rfl) <|
      WL.op rfl <|
      OW.storeW rfl s2_140 sz45 hB105 rfl (oa rfl) ?_
     intro w148 s149 hB150
     replace hG := hG.step s149 rfl
     replace HF := HF.step s149 rfl
     refine E rfl (sg (ii 0) rfl) <|
      E rfl (sg (ii 21) rfl) <|
      WL.nil <|
      WC.ret ?_
     obtain rfl := Option.some.inj H
     exact ⟨_, (.cell (.agg #[ii (0 : Int), encS ([] : List UInt8), ii (0 : Int), ii (0 : Int), ii (0 : Int), ii (0 : Int)] : Value) s2_140 (run_loadN (cs := [ii (0 : Int), encS ([] : List UInt8), ii (0 : Int), ii (0 : Int), ii (0 : Int), ii (0 : Int)]) U45 rfl sz45 (hB150.cells rfl)) (.tmp (ii 0 : Value) rfl (.tmp (ii 21 : Value) rfl .nil))), _, rfl, HF.out⟩
    ·
     refine WC.cond_f (vb c147 s66_141) <|
      WC.skip <|
      WC.seq <|
      WC.region <|
      E rfl (mv (ii z135.1) s7_140) <|
      E rfl (ex_build (cs := [ii 2, encS ([] : List UInt8), ii z135.1, ii (0 : Int), ii (0 : Int), ii (0 : Int)]) [(0, 1), (1, 1), (2, 1), (3, 3)] [(0, ii 2), (2, ii z135.1)] [ii 0, .string ⟨#[]⟩, ii 0, ii 0, ii 0, ii 0] U45 zr45 rfl (by kernel_rfl) (evs_cons rfl (evs_cons rfl rfl)) rfl) <|
      E rfl (mv (ii z130) s6_140) <|
      WL.op rfl <|
      OW.storeW rfl s2_140 sz45 hB105 rfl (oa rfl) ?_
     intro w151 s152 hB153
     replace hG := hG.step s152 rfl
     replace HF := HF.step s152 rfl
     refine E rfl (sg (ii z130) rfl) <|
      E rfl (sg (ii 0) rfl) <|
      WL.nil <|
      WC.ret ?_
     obtain rfl := Option.some.inj H
     exact ⟨_, (.cell (.agg #[ii 2, encS ([] : List UInt8), ii z135.1, ii (0 : Int), ii (0 : Int), ii (0 : Int)] : Value) s2_140 (run_loadN (cs := [ii 2, encS ([] : List UInt8), ii z135.1, ii (0 : Int), ii (0 : Int), ii (0 : Int)]) U45 rfl sz45 (hB153.cells rfl)) (.tmp (ii z130 : Value) rfl (.tmp (ii 0 : Value) rfl .nil))), _, rfl, HF.out⟩
   have Ho154 := H
   replace H := hz142
   refine WC.region <|
    E rfl (mv (ii z130) rfl) <|
    E rfl (e2 bin_gtr rfl rfl) <|
    E rfl (mv (.bool (decide (z130 > 1))) rfl) ?_
   rcases condE H with ⟨c155, H⟩ | ⟨c155, H⟩
   ·
    refine WL.guardYes rfl rfl rfl (vb c155 rfl) <|
     OW.ex rfl (mv (encS a0) rfl) <|
     WL.guardYes rfl rfl rfl (vb c155 rfl) ?_
    obtain ⟨x156, hx156, H⟩ := bindE H
    refine OW.ex rfl (ex_index_str (i := (0 : Int)) rfl rfl U9 (ix_some hx156).1 (ix_some hx156).2.2) <|
     WL.guardYes rfl rfl rfl (vb c155 rfl) <|
     OW.ex rfl (e2 bin_eql_u8 rfl rfl) <|
     E rfl (ex_pick_t (v := .bool (x156 == (48 : UInt8))) (vb c155 rfl) rfl) <|
     E rfl (mv (.bool (x156 == (48 : UInt8))) rfl) ?_
    rcases condE H with ⟨c157, H⟩ | ⟨c157, H⟩
    ·
     refine WL.guardNo rfl rfl rfl (vb c157 rfl) <|
      WL.guardNo rfl rfl rfl (vb c157 rfl) <|
      E rfl (ex_pick_t (v := .bool true) (vb c157 rfl) rfl) <|
      E rfl (mv (.bool true) rfl) <|
      WL.guardNo rfl rfl rfl rfl <|
      WL.guardNo rfl rfl rfl rfl <|
      E rfl (ex_pick_t (v := .bool true) rfl rfl) <|
      E rfl (mv (.bool true) rfl) <|
      WL.guardNo rfl rfl rfl rfl <|
      WL.guardNo rfl rfl rfl rfl <|
      WL.guardNo rfl rfl rfl rfl <|
      WL.guardNo rfl rfl rfl rfl <|
      WL.guardNo rfl rfl rfl rfl <|
      WL.guardUn rfl rfl rfl rfl <|
      WL.guardUn rfl rfl rfl rfl <|
      WL.guardUn rfl rfl rfl rfl <|
      WL.guardUn rfl rfl rfl rfl <|
      WL.guardNo rfl rfl rfl rfl <|
      E rfl (ex_pick_t (v := .bool true) rfl rfl) <|
      WL.nil ?_
     obtain rfl := Option.some.inj H
     exact ⟨_, HF, hB105, hG, rfl, rfl, rfl, rfl, rfl, rfl, rfl⟩
    ·
     refine WL.guardYes rfl rfl rfl (vb c157 rfl) <|
      OW.ex rfl (mv v139 rfl) <|
      WL.guardYes rfl rfl rfl (vb c157 rfl) <|
      OW.ex rfl (ex_errNeq (b := z135.2) rfl U84 hE140) <|
      E rfl (ex_pick_f (v := .bool z135.2) (vb c157 rfl) rfl) <|
      E rfl (mv (.bool z135.2) rfl) ?_
     rcases condE H with ⟨c158, H⟩ | ⟨c158, H⟩
     ·
      refine WL.guardNo rfl rfl rfl (vb c158 rfl) <|
       WL.guardNo rfl rfl rfl (vb c158 rfl) <|
       E rfl (ex_pick_t (v := .bool true) (vb c158 rfl) rfl) <|
       E rfl (mv (.bool true) rfl) <|
       WL.guardNo rfl rfl rfl rfl <|
       WL.guardNo rfl rfl rfl rfl <|
       WL.guardNo rfl rfl rfl rfl <|
       WL.guardNo rfl rfl rfl rfl <|
       WL.guardNo rfl rfl rfl rfl <|
       WL.guardUn rfl rfl rfl rfl <|
       WL.guardUn rfl rfl rfl rfl <|
       WL.guardUn rfl rfl rfl rfl <|
       WL.guardUn rfl rfl rfl rfl <|
       WL.guardNo rfl rfl rfl rfl <|
       E rfl (ex_pick_t (v := .bool true) rfl rfl) <|
       WL.nil ?_
      obtain rfl := Option.some.inj H
      exact ⟨_, HF, hB105, hG, rfl, rfl, rfl, rfl, rfl, rfl, rfl⟩
     ·
      refine WL.guardYes rfl rfl rfl (vb c158 rfl) <|
       OW.ex rfl (mv (ii z135.1) rfl) <|
       WL.guardYes rfl rfl rfl (vb c158 rfl) <|
       OW.ex rfl (e2 bin_gtr rfl rfl) <|
       E rfl (ex_pick_f (v := .bool (decide (z135.1 > 999999999))) (vb c158 rfl) rfl) <|
       E rfl (mv (.bool (decide (z135.1 > 999999999))) rfl) ?_
      rcases condE H with ⟨c159, H⟩ | ⟨c159, H⟩
      ·
       refine WL.guardNo rfl rfl rfl (vb c159 rfl) <|
        WL.guardNo rfl rfl rfl (vb c159 rfl) <|
        WL.guardNo rfl rfl rfl (vb c159 rfl) <|
        WL.guardNo rfl rfl rfl (vb c159 rfl) <|
        WL.guardNo rfl rfl rfl (vb c159 rfl) <|
        WL.guardUn rfl rfl rfl rfl <|
        WL.guardUn rfl rfl rfl rfl <|
        WL.guardUn rfl rfl rfl rfl <|
        WL.guardUn rfl rfl rfl rfl <|
        WL.guardNo rfl rfl rfl (vb c159 rfl) <|
        E rfl (ex_pick_t (v := .bool true) (vb c159 rfl) rfl) <|
        WL.nil ?_
       obtain rfl := Option.some.inj H
       exact ⟨_, HF, hB105, hG, rfl, rfl, rfl, rfl, rfl, rfl, rfl⟩
      ·
       refine WL.guardYes rfl rfl rfl (vb c159 rfl) <|
        OW.ex rfl (mv (ii z130) rfl) <|
        WL.guardYes rfl rfl rfl (vb c159 rfl) <|
        OW.ex rfl (mv (encS a0) rfl) <|
        WL.guardYes rfl rfl rfl (vb c159 rfl) <|
        OW.ex rfl (ex_len_str (s := a0) rfl U9) <|
        WL.guardYes rfl rfl rfl (vb c159 rfl) <|
        OW.ex rfl (e2 bin_lss rfl rfl) <|
        WL.guardYes rfl rfl rfl (vb c159 rfl) <|
        OW.ex rfl (mv (.bool (decide (z130 < (a0.length : Int)))) rfl) ?_
       rcases condE H with ⟨c160, H⟩ | ⟨c160, H⟩
       ·
        refine WL.guardYes rfl rfl rfl (vb c160 rfl) <|
         OW.ex rfl (mv (encS a0) rfl) <|
         WL.guardYes rfl rfl rfl (vb c160 rfl) <|
         OW.ex rfl (mv (ii z130) rfl) <|
         WL.guardYes rfl rfl rfl (vb c160 rfl) ?_
        obtain ⟨x161, hx161, H⟩ := bindE H
        refine OW.ex rfl (ex_index_str (i := z130) rfl rfl U9 (ix_some hx161).1 (ix_some hx161).2.2) <|
         WL.guardYes rfl rfl rfl (vb c160 rfl) ?_
        obtain ⟨z162, hz162, H⟩ := bindE H
        refine OW.call [enc8 x161] rfl Tryd.func53 (by kernel_rfl) (by kernel_rfl) (map_cons' rfl rfl) (token_tail.calls _ _ x161 z162 (HF.ten (V := [0]) (L := []) rfl)  hz162) ?_
        rintro _ w163 ⟨o164, rfl, s165⟩
        refine ⟨_, rfl, ?_⟩
        replace s165 := un_stepL (J := []) (L' := []) s165 rfl rfl
        replace hG := hG.step s165 rfl
        replace hB105 := hB105.step s165 rfl
        replace HF := HF.step s165 rfl
        refine WL.guardYes rfl rfl rfl (vb c159 rfl) <|
         OW.ex rfl (ex_pick_t (v := .bool z162) (vb c160 rfl) rfl) <|
         E rfl (ex_pick_f (v := .bool z162) (vb c159 rfl) rfl) <|
         WL.nil ?_
        obtain rfl := Option.some.inj H
        exact ⟨_, HF, hB105, hG, rfl, rfl, rfl, rfl, rfl, rfl, rfl⟩
       ·
        refine WL.guardNo rfl rfl rfl (vb c160 rfl) <|
         WL.guardNo rfl rfl rfl (vb c160 rfl) <|
         WL.guardNo rfl rfl rfl (vb c160 rfl) <|
         WL.guardNo rfl rfl rfl (vb c160 rfl) <|
         WL.guardYes rfl rfl rfl (vb c159 rfl) <|
         OW.ex rfl (ex_pick_f (v := .bool false) (vb c160 rfl) rfl) <|
         E rfl (ex_pick_f (v := .bool false) (vb c159 rfl) rfl) <|
         WL.nil ?_
        obtain rfl := Option.some.inj H
        exact ⟨_, HF, hB105, hG, rfl, rfl, rfl, rfl, rfl, rfl, rfl⟩
   ·
    refine WL.guardNo rfl rfl rfl (vb c155 rfl) <|
     WL.guardNo rfl rfl rfl (vb c155 rfl) <|
     WL.guardNo rfl rfl rfl (vb c155 rfl) <|
     E rfl (ex_pick_f (v := .bool false) (vb c155 rfl) rfl) <|
     E rfl (mv (.bool false) rfl) <|
     WL.guardYes rfl rfl rfl rfl <|
     OW.ex rfl (mv v139 rfl) <|
     WL.guardYes rfl rfl rfl rfl <|
     OW.ex rfl (ex_errNeq (b := z135.2) rfl U84 hE140) <|
     E rfl (ex_pick_f (v := .bool z135.2) rfl rfl) <|
     E rfl (mv (.bool z135.2) rfl) ?_
    rcases condE H with ⟨c166, H⟩ | ⟨c166, H⟩
    ·
     refine WL.guardNo rfl rfl rfl (vb c166 rfl) <|
      WL.guardNo rfl rfl rfl (vb c166 rfl) <|
      E rfl (ex_pick_t (v := .bool true) (vb c166 rfl) rfl) <|
      E rfl (mv (.bool true) rfl) <|
      WL.guardNo rfl rfl rfl rfl <|
      WL.guardNo rfl rfl rfl rfl <|
      WL.guardNo rfl rfl rfl rfl <|
      WL.guardNo rfl rfl rfl rfl <|
      WL.guardNo rfl rfl rfl rfl <|
      WL.guardUn rfl rfl rfl rfl <|
      WL.guardUn rfl rfl rfl rfl <|
      WL.guardUn rfl rfl rfl rfl <|
      WL.guardUn rfl rfl rfl rfl <|
      WL.guardNo rfl rfl rfl rfl <|
      E rfl (ex_pick_t (v := .bool true) rfl rfl) <|
      WL.nil ?_
     obtain rfl := Option.some.inj H
     exact ⟨_, HF, hB105, hG, rfl, rfl, rfl, rfl, rfl, rfl, rfl⟩
    ·
     refine WL.guardYes rfl rfl rfl (vb c166 rfl) <|
      OW.ex rfl (mv (ii z135.1) rfl) <|
      WL.guardYes rfl rfl rfl (vb c166 rfl) <|
      OW.ex rfl (e2 bin_gtr rfl rfl) <|
      E rfl (ex_pick_f (v := .bool (decide (z135.1 > 999999999))) (vb c166 rfl) rfl) <|
      E rfl (mv (.bool (decide (z135.1 > 999999999))) rfl) ?_
     rcases condE H with ⟨c167, H⟩ | ⟨c167, H⟩
     ·
      refine WL.guardNo rfl rfl rfl (vb c167 rfl) <|
       WL.guardNo rfl rfl rfl (vb c167 rfl) <|
       WL.guardNo rfl rfl rfl (vb c167 rfl) <|
       WL.guardNo rfl rfl rfl (vb c167 rfl) <|
       WL.guardNo rfl rfl rfl (vb c167 rfl) <|
       WL.guardUn rfl rfl rfl rfl <|
       WL.guardUn rfl rfl rfl rfl <|
       WL.guardUn rfl rfl rfl rfl <|
       WL.guardUn rfl rfl rfl rfl <|
       WL.guardNo rfl rfl rfl (vb c167 rfl) <|
       E rfl (ex_pick_t (v := .bool true) (vb c167 rfl) rfl) <|
       WL.nil ?_
      obtain rfl := Option.some.inj H
      exact ⟨_, HF, hB105, hG, rfl, rfl, rfl, rfl, rfl, rfl, rfl⟩
     ·
      refine WL.guardYes rfl rfl rfl (vb c167 rfl) <|
       OW.ex rfl (mv (ii z130) rfl) <|
       WL.guardYes rfl rfl rfl (vb c167 rfl) <|
       OW.ex rfl (mv (encS a0) rfl) <|
       WL.guardYes rfl rfl rfl (vb c167 rfl) <|
       OW.ex rfl (ex_len_str (s := a0) rfl U9) <|
       WL.guardYes rfl rfl rfl (vb c167 rfl) <|
       OW.ex rfl (e2 bin_lss rfl rfl) <|
       WL.guardYes rfl rfl rfl (vb c167 rfl) <|
       OW.ex rfl (mv (.bool (decide (z130 < (a0.length : Int)))) rfl) ?_
      rcases condE H with ⟨c168, H⟩ | ⟨c168, H⟩
      ·
       refine WL.guardYes rfl rfl rfl (vb c168 rfl) <|
        OW.ex rfl (mv (encS a0) rfl) <|
        WL.guardYes rfl rfl rfl (vb c168 rfl) <|
        OW.ex rfl (mv (ii z130) rfl) <|
        WL.guardYes rfl rfl rfl (vb c168 rfl) ?_
       obtain ⟨x169, hx169, H⟩ := bindE H
       refine OW.ex rfl (ex_index_str (i := z130) rfl rfl U9 (ix_some hx169).1 (ix_some hx169).2.2) <|
        WL.guardYes rfl rfl rfl (vb c168 rfl) ?_
       obtain ⟨z170, hz170, H⟩ := bindE H
       refine OW.call [enc8 x169] rfl Tryd.func53 (by kernel_rfl) (by kernel_rfl) (map_cons' rfl rfl) (token_tail.calls _ _ x169 z170 (HF.ten (V := [0]) (L := []) rfl)  hz170) ?_
       rintro _ w171 ⟨o172, rfl, s173⟩
       refine ⟨_, rfl, ?_⟩
       replace s173 := un_stepL (J := []) (L' := []) s173 rfl rfl
       replace hG := hG.step s173 rfl
       replace hB105 := hB105.step s173 rfl
       replace HF := HF.step s173 rfl
       refine WL.guardYes rfl rfl rfl (vb c167 rfl) <|
        OW.ex rfl (ex_pick_t (v := .bool z170) (vb c168 rfl) rfl) <|
        E rfl (ex_pick_f (v := .bool z170) (vb c167 rfl) rfl) <|
        WL.nil ?_
       obtain rfl := Option.some.inj H
       exact ⟨_, HF, hB105, hG, rfl, rfl, rfl, rfl, rfl, rfl, rfl⟩
      ·
       refine WL.guardNo rfl rfl rfl (vb c168 rfl) <|
        WL.guardNo rfl rfl rfl (vb c168 rfl) <|
        WL.guardNo rfl rfl rfl (vb c168 rfl) <|
        WL.guardNo rfl rfl rfl (vb c168 rfl) <|
        WL.guardYes rfl rfl rfl (vb c167 rfl) <|
        OW.ex rfl (ex_pick_f (v := .bool false) (vb c168 rfl) rfl) <|
        E rfl (ex_pick_f (v := .bool false) (vb c167 rfl) rfl) <|
        WL.nil ?_
       obtain rfl := Option.some.inj H
       exact ⟨_, HF, hB105, hG, rfl, rfl, rfl, rfl, rfl, rfl, rfl⟩
  ·
   refine WC.cond_f (vb c129 rfl) <|
    WC.skip <|
    WC.seq <|
    WC.seq <|
    WC.region <|
    E rfl (mv (encS a0) rfl) ?_
   obtain ⟨z174, hz174, H⟩ := bindE H
   refine WL.op rfl <|
    OW.call [encS a0] rfl Tryd.func56 (by kernel_rfl) (by kernel_rfl) (map_cons' rfl rfl) (utf8_DecodeRuneInString.calls _ _ a0 z174 (HF.ten (V := [0]) (L := []) rfl) (Gl.vw hG rfl) hz174) ?_
   rintro _ w175 ⟨o176, rfl, s177⟩
   refine ⟨_, rfl, ?_⟩
   replace s177 := un_stepL (J := []) (L' := []) s177 rfl rfl
   replace hG := hG.step s177 rfl
   replace hB105 := hB105.step s177 rfl
   replace HF := HF.step s177 rfl
   refine E rfl (mv (.tuple #[.int .i32 z174.1, ii z174.2]) rfl) <|
    E rfl (ex_extract rfl rfl) <|
    E rfl (ex_extract rfl rfl) <|
    E rfl (sg (.int .i32 z174.1) rfl) <|
    E rfl (sg (ii z174.2) rfl) <|
    WL.nil <|
    WC.seq <|
    WC.region <|
    E rfl (mv (.int .i32 z174.1) rfl) <|
    WL.nil <|
    WC.block <|
    WC.seq <|
    WC.region <|
    E rfl (e2 bin_eql rfl rfl) <|
    E rfl (sg (.bool (z174.1 == 8868)) rfl) <|
    WL.nil ?_
   rcases condE H with ⟨c178, H⟩ | ⟨c178, H⟩
   ·
    refine WC.cond_t (vb c178 rfl) <|
     WC.seq <|
     WC.region <|
     E rfl (ex_build (cs := [ii 1, encS ([116, 114, 117, 101] : List UInt8), ii (0 : Int), ii (0 : Int), ii (0 : Int), ii (0 : Int)]) [(0, 1), (1, 1), (2, 1), (3, 3)] [(0, ii 1), (1, encS ([116, 114, 117, 101] : List UInt8))] [ii 0, .string ⟨#[]⟩, ii 0, ii 0, ii 0, ii 0] U45 zr45 rfl (by kernel_rfl) (evs_cons rfl (evs_cons rfl rfl)) rfl) <|
     E rfl (mv (ii z174.2) rfl) <|
     WL.op rfl <|
     OW.storeW rfl rfl sz45 hB105 rfl (oa rfl) ?_
    intro w179 s180 hB181
    replace hG := hG.step s180 rfl
    replace HF := HF.step s180 rfl
    refine E rfl (sg (ii z174.2) rfl) <|
     E rfl (sg (ii 0) rfl) <|
     WL.nil <|
     WC.ret ?_
    obtain rfl := Option.some.inj H
    exact ⟨_, (.cell (.agg #[ii 1, encS ([116, 114, 117, 101] : List UInt8), ii (0 : Int), ii (0 : Int), ii (0 : Int), ii (0 : Int)] : Value) rfl (run_loadN (cs := [ii 1, encS ([116, 114, 117, 101] : List UInt8), ii (0 : Int), ii (0 : Int), ii (0 : Int), ii (0 : Int)]) U45 rfl sz45 (hB181.cells rfl)) (.tmp (ii z174.2 : Value) rfl (.tmp (ii 0 : Value) rfl .nil))), _, rfl, HF.out⟩
   ·
    refine WC.cond_f (vb c178 rfl) <|
     WC.seq <|
     WC.region <|
     E rfl (e2 bin_eql rfl rfl) <|
     E rfl (sg (.bool (z174.1 == 8869)) rfl) <|
     WL.nil ?_
    rcases condE H with ⟨c182, H⟩ | ⟨c182, H⟩
    ·
     refine WC.cond_t (vb c182 rfl) <|
      WC.seq <|
      WC.region <|
      E rfl (ex_build (cs := [ii 1, encS ([102, 97, 108, 115, 101] : List UInt8), ii (0 : Int), ii (0 : Int), ii (0 : Int), ii (0 : Int)]) [(0, 1), (1, 1), (2, 1), (3, 3)] [(0, ii 1), (1, encS ([102, 97, 108, 115, 101] : List UInt8))] [ii 0, .string ⟨#[]⟩, ii 0, ii 0, ii 0, ii 0] U45 zr45 rfl (by kernel_rfl) (evs_cons rfl (evs_cons rfl rfl)) rfl) <|
      E rfl (mv (ii z174.2) rfl) <|
      WL.op rfl <|
      OW.storeW rfl rfl sz45 hB105 rfl (oa rfl) ?_
     intro w183 s184 hB185
     replace hG := hG.step s184 rfl
     replace HF := HF.step s184 rfl
     refine E rfl (sg (ii z174.2) rfl) <|
      E rfl (sg (ii 0) rfl) <|
      WL.nil <|
      WC.ret ?_
     obtain rfl := Option.some.inj H
     exact ⟨_, (.cell (.agg #[ii 1, encS ([102, 97, 108, 115, 101] : List UInt8), ii (0 : Int), ii (0 : Int), ii (0 : Int), ii (0 : Int)] : Value) rfl (run_loadN (cs := [ii 1, encS ([102, 97, 108, 115, 101] : List UInt8), ii (0 : Int), ii (0 : Int), ii (0 : Int), ii (0 : Int)]) U45 rfl sz45 (hB185.cells rfl)) (.tmp (ii z174.2 : Value) rfl (.tmp (ii 0 : Value) rfl .nil))), _, rfl, HF.out⟩
    ·
     refine WC.cond_f (vb c182 rfl) <|
      WC.skip <|
      WC.seq <|
      WC.region <|
      E rfl (mv (encS a0) rfl) ?_
     obtain ⟨z186, hz186, H⟩ := bindE H
     refine WL.op rfl <|
      OW.call [encS a0] rfl Tryd.func57 (by kernel_rfl) (by kernel_rfl) (map_cons' rfl rfl) (token_sign.calls k _ _ a0 z186 (HF.ten (V := [0]) (L := []) rfl) (Gl.vw hG rfl) hz186) ?_
     rintro _ w187 ⟨o188, rfl, s189⟩
     refine ⟨_, rfl, ?_⟩
     replace s189 := un_stepL (J := []) (L' := []) s189 rfl rfl
     replace hG := hG.step s189 rfl
     replace hB105 := hB105.step s189 rfl
     replace HF := HF.step s189 rfl
     refine E rfl (mv (.tuple #[encS z186.1, ii z186.2]) rfl) <|
      E rfl (ex_extract rfl rfl) <|
      E rfl (ex_extract rfl rfl) <|
      E rfl (sg (encS z186.1) rfl) <|
      E rfl (sg (ii z186.2) rfl) <|
      WL.nil <|
      WC.seq <|
      WC.seq <|
      WC.region <|
      E rfl (mv (ii z186.2) rfl) <|
      E rfl (e2 bin_eql rfl rfl) <|
      WL.nil ?_
     rcases condE H with ⟨c190, H⟩ | ⟨c190, H⟩
     ·
      refine WC.cond_t (vb c190 rfl) <|
       WC.seq <|
       WC.region <|
       E rfl (ex_build (cs := [ii (0 : Int), encS ([] : List UInt8), ii (0 : Int), ii (0 : Int), ii (0 : Int), ii (0 : Int)]) [(0, 1), (1, 1), (2, 1), (3, 3)] [] [ii 0, .string ⟨#[]⟩, ii 0, ii 0, ii 0, ii 0] U45 zr45 rfl (by kernel_rfl) rfl rfl) <|
       WL.op rfl <|
       OW.storeW rfl rfl sz45 hB105 rfl (oa rfl) ?_
      intro w191 s192 hB193
      replace hG := hG.step s192 rfl
      replace HF := HF.step s192 rfl
      refine E rfl (sg (ii 0) rfl) <|
       E rfl (sg (ii 20) rfl) <|
       WL.nil <|
       WC.ret ?_
      obtain rfl := Option.some.inj H
      exact ⟨_, (.cell (.agg #[ii (0 : Int), encS ([] : List UInt8), ii (0 : Int), ii (0 : Int), ii (0 : Int), ii (0 : Int)] : Value) rfl (run_loadN (cs := [ii (0 : Int), encS ([] : List UInt8), ii (0 : Int), ii (0 : Int), ii (0 : Int), ii (0 : Int)]) U45 rfl sz45 (hB193.cells rfl)) (.tmp (ii 0 : Value) rfl (.tmp (ii 20 : Value) rfl .nil))), _, rfl, HF.out⟩
     ·
      refine WC.cond_f (vb c190 rfl) <|
       WC.skip <|
       WC.seq <|
       WC.region <|
       E rfl (mv (encS z186.1) rfl) <|
       E rfl (ex_build (cs := [ii 3, encS z186.1, ii (0 : Int), ii (0 : Int), ii (0 : Int), ii (0 : Int)]) [(0, 1), (1, 1), (2, 1), (3, 3)] [(0, ii 3), (1, encS z186.1)] [ii 0, .string ⟨#[]⟩, ii 0, ii 0, ii 0, ii 0] U45 zr45 rfl (by kernel_rfl) (evs_cons rfl (evs_cons rfl rfl)) rfl) <|
       E rfl (mv (ii z186.2) rfl) <|
       WL.op rfl <|
       OW.storeW rfl rfl sz45 hB105 rfl (oa rfl) ?_
      intro w194 s195 hB196
      replace hG := hG.step s195 rfl
      replace HF := HF.step s195 rfl
      refine E rfl (sg (ii z186.2) rfl) <|
       E rfl (sg (ii 0) rfl) <|
       WL.nil <|
       WC.ret ?_
      obtain rfl := Option.some.inj H
      exact ⟨_, (.cell (.agg #[ii 3, encS z186.1, ii (0 : Int), ii (0 : Int), ii (0 : Int), ii (0 : Int)] : Value) rfl (run_loadN (cs := [ii 3, encS z186.1, ii (0 : Int), ii (0 : Int), ii (0 : Int), ii (0 : Int)]) U45 rfl sz45 (hB196.cells rfl)) (.tmp (ii z186.2 : Value) rfl (.tmp (ii 0 : Value) rfl .nil))), _, rfl, HF.out⟩

/-! ### token_Scan -/
set_option maxRecDepth 100000 in
theorem token_Scan.calls (k : Nat) (o0 : Tags) (w0 : World) (a0 : List UInt8) (r : (List T_api_Token) × T_api_Fault) (hO : ∀ b, b < w0.heap.size → o0 b < 40) (hG : Gl GG o0 w0) (H : token_Scan.f k a0 = some r) :
  Calls Tryd.prog 28 [encS a0].toArray w0 fun e_ w_ => ∃ (o_ : Tags) (rv0 : Value), e_ = .returned (one [rv0, .agg #[ii r.2.f_Code, ii r.2.f_At.f_Line, ii r.2.f_At.f_Col, ii r.2.f_At.f_Off]]) ∧ Step o0 w0 o_ w_ [] ∧ Own T_api_Token.rep 45 39 o_ w_ rv0 r.1 := by
 have HF := Fm.refl hO []
 unfold token_Scan.f at H
 refine SX.calls [encS a0] Tryd.func28 rfl rfl ?_
 rw [Tryd.ntmps28]
 refine WC.seq <|
  WC.region <|
  E rfl (sg (.slice none ([] : List T_api_Token).length 0) rfl) <|
  WL.op rfl <|
  OW.alloc' [ii (0 : Int), ii (0 : Int), ii (0 : Int), ii (0 : Int)] 40 HF rfl zr35 rfl ?_
 intro o102 w103 b101 s104 hB105
 replace hG := hG.step s104 rfl
 replace HF := HF.step s104 rfl
 refine WL.nil <|
  WC.seq <|
  WC.region <|
  E rfl (mv (encS a0) rfl) <|
  E rfl (ex_build (cs := [ii 1, ii 1, ii (0 : Int)]) [(0, 1), (1, 1), (2, 1)] [(0, ii 1), (1, ii 1)] [ii 0, ii 0, ii 0] U33 zr33 rfl (by kernel_rfl) (evs_cons rfl (evs_cons rfl rfl)) rfl) <|
  E rfl (ex_build (cs := [encS a0, ii 1, ii 1, ii (0 : Int)]) [(0, 1), (1, 3)] [(0, encS a0), (1, .agg #[ii 1, ii 1, ii (0 : Int)])] [.string ⟨#[]⟩, ii 0, ii 0, ii 0] U91 zr91 rfl (by kernel_rfl) (evs_cons rfl (evs_cons rfl rfl)) rfl) <|
  WL.op rfl <|
  OW.box' [encS a0, ii 1, ii 1, ii (0 : Int)] 41 HF rfl ((congrArg Value.cells (show ev _ _ = (.agg #[encS a0, ii 1, ii 1, ii (0 : Int)] : Value) from rfl)).trans rfl) ?_
 intro o107 w108 b106 s109 hB110
 replace hG := hG.step s109 rfl
 replace hB105 := hB105.step s109 rfl
 replace HF := HF.step s109 rfl
 refine E rfl (sg (pp b106 0) rfl) <|
  WL.nil <|
  WC.seq <|
  WC.region <|
  E rfl (sg (.slice none ([] : List T_api_Token).length 0) rfl) <|
  WL.nil ?_
 obtain ⟨z115, hz115, H⟩ := bindE H
 refine WC.for (fun k_ ρ_ w_ => ∃ (o_ : Tags) (x113 : (List T_api_Token)) (x114 : T_token_cursor) (v111 : Value), Fm o0 w0 o_ w_ [] ∧ Own T_api_Token.rep 45 46 o_ w_ v111 x113 ∧ Bk o_ w_ 40 b101 [ii (0 : Int), ii (0 : Int), ii (0 : Int), ii (0 : Int)] 35 ∧ Bk o_ w_ 41 b106 [encS x114.f_s, ii x114.f_at.f_Line, ii x114.f_at.f_Col, ii x114.f_at.f_Off] 91 ∧ Gl GG o_ w_ ∧ ρ_ 2 = .slice none ([] : List T_api_Token).length 0 ∧ ρ_ 3 = pp b101 0 ∧ ρ_ 4 = pp b106 0 ∧ ρ_ 5 = v111 ∧ token_Scan.l1 k k_ x113 x114 = some z115) k (fun ρ_ w_ => False) ⟨_, ([] : List T_api_Token), (⟨a0, (⟨1, 1, (0 : Int)⟩ : T_api_Spot)⟩ : T_token_cursor), _, HF, Own.nil, hB105, hB110, hG, rfl, rfl, rfl, rfl, hz115⟩ ?case116 ?_
 case case116 =>
  exact fun _ _ h_ => h_.elim
 have Ho117 := H
 rintro k118 ρ119 w120 ⟨o121, x113, x114, v111, HF, hO112, hB105, hB110, hG, s2_110, s3_110, s4_110, s5_113, H⟩
 cases k118 with
 | zero => cases H
 | succ k118 =>
 rw [token_Scan.l1.eq_2] at H
 refine WC.block <|
  WC.seq <|
  WC.region <|
  E rfl (mv (pp b106 0) s4_110) ?_
 obtain ⟨z122, hz122, H⟩ := bindE H
 refine WL.op rfl <|
  OW.call [pp b106 0] rfl Tryd.func39 (by kernel_rfl) (by kernel_rfl) (map_cons' rfl rfl) (token_cursor_space.calls k _ _ b106 x114 z122 (HF.ten (V := [0]) (L := [41]) rfl) (Bk.vw hB110 rfl) (Gl.vw hG rfl) hz122) ?_
 rintro _ w123 ⟨o124, rfl, s125, hB126⟩
 refine ⟨_, rfl, ?_⟩
 replace hB126 := Bk.unO (J := []) 0 hB126 s125 rfl rfl rfl
 replace s125 := un_stepL (J := []) (L' := [41]) s125 rfl rfl
 replace hO112 := hO112.step s125 rfl rfl
 replace hB105 := hB105.step s125 rfl
 replace hG := hG.step s125 rfl
 replace HF := HF.step s125 rfl
 refine WL.nil <|
  WC.seq <|
  WC.seq <|
  WC.region <|
  E rfl (mv (pp b106 0) s4_110) ?_
 obtain ⟨z127, hz127, H⟩ := bindE H
 refine WL.op rfl <|
  OW.call [pp b106 0] rfl Tryd.func40 (by kernel_rfl) (by kernel_rfl) (map_cons' rfl rfl) (token_cursor_here.calls _ _ b106 z122 z127 (HF.ten (V := [0]) (L := [41]) rfl) (Bk.vw hB126 rfl) hz127) ?_
 rintro _ w128 ⟨o129, rfl, s130⟩
 refine ⟨_, rfl, ?_⟩
 replace s130 := un_stepL (J := []) (L' := []) s130 rfl rfl
 replace hO112 := hO112.step s130 rfl rfl
 replace hB105 := hB105.step s130 rfl
 replace hG := hG.step s130 rfl
 replace hB126 := hB126.step s130 rfl
 replace HF := HF.step s130 rfl
 refine E rfl (e2 bin_eql_str rfl rfl) <|
  WL.nil ?_
 rcases condE H with ⟨c131, H⟩ | ⟨c131, H⟩
 ·
  refine WC.cond_t (vb c131 rfl) <|
   WC.seq <|
   WC.region <|
   E rfl (mv v111 s5_113) <|
   E rfl (mv (pp b106 0) s4_110) <|
   E rfl (ex_nilCheck rfl) <|
   E rfl (ex_fieldAddr rfl U91 rfl sz33) <|
   E rfl (ex_loadN (cs := [ii z122.f_at.f_Line, ii z122.f_at.f_Col, ii z122.f_at.f_Off]) rfl U33 rfl sz33 (hB126.cells rfl)) <|
   E rfl (ex_build (cs := [ii (0 : Int), encS ([] : List UInt8), ii (0 : Int), ii z122.f_at.f_Line, ii z122.f_at.f_Col, ii z122.f_at.f_Off]) [(0, 1), (1, 1), (2, 1), (3, 3)] [(3, .agg #[ii z122.f_at.f_Line, ii z122.f_at.f_Col, ii z122.f_at.f_Off])] [ii 0, .string ⟨#[]⟩, ii 0, ii 0, ii 0, ii 0] U45 zr45 rfl (by kernel_rfl) (evs_cons rfl rfl) rfl) <|
   WL.op rfl <|
   OW.row (r := T_api_Token.rep) (xs := [(⟨(0 : Int), ([] : List UInt8), (0 : Int), (⟨z122.f_at.f_Line, z122.f_at.f_Col, z122.f_at.f_Off⟩ : T_api_Spot)⟩ : T_api_Token)]) [(0, .agg #[ii (0 : Int), encS ([] : List UInt8), ii (0 : Int), ii z122.f_at.f_Line, ii z122.f_at.f_Col, ii z122.f_at.f_Off])] [[ii (0 : Int), encS ([] : List UInt8), ii (0 : Int), ii z122.f_at.f_Line, ii z122.f_at.f_Col, ii z122.f_at.f_Off]] 47 HF rfl U22 sz45 zr45 rfl (evs_cons rfl rfl) rfl rfl ⟨(T_api_Token.mk' (⟨(0 : Int), ([] : List UInt8), (0 : Int), (⟨z122.f_at.f_Line, z122.f_at.f_Col, z122.f_at.f_Off⟩ : T_api_Spot)⟩ : T_api_Token) ), trivial⟩ rfl rfl rfl rfl ?_
  intro o132 w133 v135 s134 hO136
  replace hO112 := hO112.step s134 rfl rfl
  replace hB105 := hB105.step s134 rfl
  replace hG := hG.step s134 rfl
  replace hB126 := hB126.step s134 rfl
  replace HF := HF.step s134 rfl
  obtain ⟨A137, c138, q139_, _, q139⟩ := hO136.row
  obtain ⟨u140, hu140, H⟩ := bindE H
  refine WL.op rfl <|
   OW.append (r := T_api_Token.rep) (E := 45) (i := 46) rfl U22 inf45 rfl (by decide) (by decide) (by decide) rfl ((show _ = (v135 : Value) from rfl).trans q139_) hO112 q139 rfl (of_decide_eq_true (chk_true hu140)) ?_
  intro o141 w142 v143 s144 hO145
  replace hB105 := hB105.step s144 rfl
  replace hG := hG.step s144 rfl
  replace hB126 := hB126.step s144 rfl
  replace hO136 := hO136.step s144 rfl rfl
  replace HF := HF.step s144 rfl
  refine E rfl (ex_build (cs := [ii (0 : Int), ii (0 : Int), ii (0 : Int), ii (0 : Int)]) [(0, 1), (1, 3)] [] [ii 0, ii 0, ii 0, ii 0] U35 zr35 rfl (by kernel_rfl) rfl rfl) <|
   E rfl (sg v143 rfl) <|
   WL.op rfl <|
   OW.storeW rfl s3_110 sz35 hB105 rfl (oa rfl) ?_
  intro w146 s147 hB148
  replace hG := hG.step s147 rfl
  replace hB126 := hB126.step s147 rfl
  replace hO136 := hO136.step s147 rfl rfl
  replace hO145 := hO145.step s147 rfl rfl
  replace HF := HF.step s147 rfl
  refine WL.nil <|
   WC.ret ?_
  obtain rfl := Option.some.inj H
  replace H := Ho117
  dsimp only at H
  obtain rfl := Option.some.inj H
  replace hO145 := Own.renTo (j := 39) hO145 rfl
  replace HF := HF.ren (i := 46) (j := 39) rfl
  exact ⟨_, (.tmp (v143 : Value) rfl (.cell (.agg #[ii (0 : Int), ii (0 : Int), ii (0 : Int), ii (0 : Int)] : Value) s3_110 (run_loadN (cs := [ii (0 : Int), ii (0 : Int), ii (0 : Int), ii (0 : Int)]) U35 rfl sz35 (hB148.cells rfl)) .nil)), _, v143, rfl, HF.out, hO145⟩
 ·
  refine WC.cond_f (vb c131 rfl) <|
   WC.skip <|
   WC.seq <|
   WC.region <|
   E rfl (mv (pp b106 0) s4_110) ?_
  obtain ⟨z149, hz149, H⟩ := bindE H
  refine WL.op rfl <|
   OW.call [pp b106 0] rfl Tryd.func40 (by kernel_rfl) (by kernel_rfl) (map_cons' rfl rfl) (token_cursor_here.calls _ _ b106 z122 z149 (HF.ten (V := [0]) (L := [41]) rfl) (Bk.vw hB126 rfl) hz149) ?_
  rintro _ w150 ⟨o151, rfl, s152⟩
  refine ⟨_, rfl, ?_⟩
  replace s152 := un_stepL (J := []) (L' := []) s152 rfl rfl
  replace hO112 := hO112.step s152 rfl rfl
  replace hB105 := hB105.step s152 rfl
  replace hG := hG.step s152 rfl
  replace hB126 := hB126.step s152 rfl
  replace HF := HF.step s152 rfl
  obtain ⟨z153, hz153, H⟩ := bindE H
  refine WL.op rfl <|
   OW.call [encS z149] rfl Tryd.func41 (by kernel_rfl) (by kernel_rfl) (map_cons' rfl rfl) (token_word.calls k _ _ z149 z153 (HF.ten (V := [0]) (L := []) rfl) (Gl.vw hG rfl) hz153) ?_
  rintro _ w154 ⟨o155, rfl, s156⟩
  refine ⟨_, rfl, ?_⟩
  replace s156 := un_stepL (J := []) (L' := []) s156 rfl rfl
  replace hO112 := hO112.step s156 rfl rfl
  replace hB105 := hB105.step s156 rfl
  replace hG := hG.step s156 rfl
  replace hB126 := hB126.step s156 rfl
  replace HF := HF.step s156 rfl
  refine E rfl (mv (.tuple #[.agg #[ii z153.1.f_Kind, encS z153.1.f_Text, ii z153.1.f_Int, ii z153.1.f_At.f_Line, ii z153.1.f_At.f_Col, ii z153.1.f_At.f_Off], ii z153.2.1, ii z153.2.2]) rfl) <|
   E rfl (ex_extract rfl rfl) <|
   E rfl (ex_extract rfl rfl) <|
   E rfl (ex_extract rfl rfl) <|
   WL.op rfl <|
   OW.alloc' [ii (0 : Int), encS ([] : List UInt8), ii (0 : Int), ii (0 : Int), ii (0 : Int), ii (0 : Int)] 48 HF rfl zr45 rfl ?_
  intro o158 w159 b157 s160 hB161
  replace hO112 := hO112.step s160 rfl rfl
  replace hB105 := hB105.step s160 rfl
  replace hG := hG.step s160 rfl
  replace hB126 := hB126.step s160 rfl
  replace HF := HF.step s160 rfl
  refine WL.op rfl <|
   OW.storeW rfl rfl sz45 hB161 rfl (oa rfl) ?_
  intro w162 s163 hB164
  replace hO112 := hO112.step s163 rfl rfl
  replace hB105 := hB105.step s163 rfl
  replace hG := hG.step s163 rfl
  replace hB126 := hB126.step s163 rfl
  replace HF := HF.step s163 rfl
  refine E rfl (sg (ii z153.2.1) rfl) <|
   E rfl (sg (ii z153.2.2) rfl) <|
   WL.nil <|
   WC.seq <|
   WC.seq <|
   WC.region <|
   E rfl (mv (ii z153.2.2) rfl) <|
   E rfl (e2 bin_neq rfl rfl) <|
   WL.nil ?_
  rcases condE H with ⟨c165, H⟩ | ⟨c165, H⟩
  ·
   refine WC.cond_t (vb c165 rfl) <|
    WC.seq <|
    WC.regionD' HF [] 7 8 (by kernel_rfl) rfl ?_
   intro w166 s167
   replace hO112 := hO112.step s167 rfl rfl
   replace hB105 := hB105.step s167 rfl
   replace hG := hG.step s167 rfl
   replace hB126 := hB126.step s167 rfl
   replace hB164 := hB164.step s167 rfl
   replace HF := HF.step s167 rfl
   have hO112D := hO112
   have hB105D := hB105
   have hGD := hG
   have hB126D := hB126
   have hB164D := hB164
   have sR := HF.here []
   refine WA.norm (listed' := #[false, false, false, false, false, false, false, false]) (by kernel_rfl) <|
    WA.ex 0 rfl (by kernel_rfl) (by kernel_rfl) (by kernel_rfl) rfl ⟨_, sR⟩ (fun w_ hS_ => ex_move (v := ii z153.2.2) rfl) <|
    WA.norm (listed' := #[true, false, false, false, false, false, false, false]) (by kernel_rfl) <|
    WA.ex 1 rfl (by kernel_rfl) (by kernel_rfl) (by kernel_rfl) rfl ⟨_, sR⟩ (fun w_ hS_ => ex_move (v := pp b106 0) s4_110) <|
    WA.norm (listed' := #[true, true, false, false, false, false, false, false]) (by kernel_rfl) <|
    WA.ex 2 rfl (by kernel_rfl) (by kernel_rfl) (by kernel_rfl) rfl ⟨_, sR⟩ (fun w_ hS_ => ex_nilCheck rfl) <|
    WA.norm (listed' := #[true, true, true, false, false, false, false, false]) (by kernel_rfl) <|
    WA.ex 3 rfl (by kernel_rfl) (by kernel_rfl) (by kernel_rfl) rfl ⟨_, sR⟩ (fun w_ hS_ => ex_fieldAddr rfl U91 rfl sz33) <|
    WA.norm (listed' := #[true, true, true, true, false, false, false, false]) (by kernel_rfl) <|
    WA.ex 4 rfl (by kernel_rfl) (by kernel_rfl) (by kernel_rfl) rfl ⟨_, sR⟩ (fun w_ hS_ => ex_loadN (cs := [ii z122.f_at.f_Line, ii z122.f_at.f_Col, ii z122.f_at.f_Off]) rfl U33 rfl sz33 ((hB126D.step hS_.choose_spec rfl).cells rfl)) <|
    WA.norm (listed' := #[true, true, true, true, true, false, false, false]) (by kernel_rfl) <|
    WA.ex 5 rfl (by kernel_rfl) (by kernel_rfl) (by kernel_rfl) rfl ⟨_, sR⟩ (fun w_ hS_ => ex_build (cs := [ii z153.2.2, ii z122.f_at.f_Line, ii z122.f_at.f_Col, ii z122.f_at.f_Off]) [(0, 1), (1, 3)] [(0, ii z153.2.2), (1, .agg #[ii z122.f_at.f_Line, ii z122.f_at.f_Col, ii z122.f_at.f_Off])] [ii 0, ii 0, ii 0, ii 0] U35 zr35 rfl (by kernel_rfl) (evs_cons rfl (evs_cons rfl rfl)) rfl) <|
    WA.norm (listed' := #[true, true, true, true, true, true, false, false]) (by kernel_rfl) <|
    WA.ex 6 rfl (by kernel_rfl) (by kernel_rfl) (by kernel_rfl) rfl ⟨_, sR⟩ (fun w_ hS_ => ex_assign (v := .slice none ([] : List T_api_Token).length 0) rfl) <|
    WA.norm (listed' := #[true, true, true, true, true, true, true, false]) (by kernel_rfl) <|
    WA.last 7 (by kernel_rfl) (by kernel_rfl) rfl rfl rfl <|
    OW.storeW rfl s3_110 sz35 hB105 rfl (oa rfl) ?_
   intro w168 s169 hB170
   replace hO112 := hO112.step s169 rfl rfl
   replace hG := hG.step s169 rfl
   replace hB126 := hB126.step s169 rfl
   replace hB164 := hB164.step s169 rfl
   replace HF := HF.step s169 rfl
   refine WC.ret ?_
   obtain rfl := Option.some.inj H
   replace H := Ho117
   dsimp only at H
   obtain rfl := Option.some.inj H
   exact ⟨_, (.tmp (.slice none ([] : List T_api_Token).length 0 : Value) rfl (.cell (.agg #[ii z153.2.2, ii z122.f_at.f_Line, ii z122.f_at.f_Col, ii z122.f_at.f_Off] : Value) s3_110 (run_loadN (cs := [ii z153.2.2, ii z122.f_at.f_Line, ii z122.f_at.f_Col, ii z122.f_at.f_Off]) U35 rfl sz35 (hB170.cells rfl)) .nil)), _, (.slice none 0 0), rfl, HF.out, Own.nil⟩
  ·
   refine WC.cond_f (vb c165 rfl) <|
    WC.skip <|
    WC.seq <|
    WC.region <|
    E rfl (mv (pp b106 0) s4_110) <|
    E rfl (ex_nilCheck rfl) <|
    E rfl (ex_fieldAddr rfl U91 rfl sz33) <|
    E rfl (ex_loadN (cs := [ii z122.f_at.f_Line, ii z122.f_at.f_Col, ii z122.f_at.f_Off]) rfl U33 rfl sz33 (hB126.cells rfl)) <|
    E rfl (ex_fieldAddr rfl U45 rfl sz33) <|
    WL.op rfl <|
    OW.store [ii z153.1.f_Kind, encS z153.1.f_Text, ii z153.1.f_Int, ii z122.f_at.f_Line, ii z122.f_at.f_Col, ii z122.f_at.f_Off] rfl (vs := [ii z122.f_at.f_Line, ii z122.f_at.f_Col, ii z122.f_at.f_Off]) rfl sz33 hB164 (Nat.le_of_ble_eq_true rfl) (oa rfl) rfl ?_
   intro w171 s172 hB173
   replace hO112 := hO112.step s172 rfl rfl
   replace hB105 := hB105.step s172 rfl
   replace hG := hG.step s172 rfl
   replace hB126 := hB126.step s172 rfl
   replace HF := HF.step s172 rfl
   refine WL.nil <|
    WC.seq <|
    WC.region <|
    E rfl (mv v111 s5_113) <|
    E rfl (ex_loadN (cs := [ii z153.1.f_Kind, encS z153.1.f_Text, ii z153.1.f_Int, ii z122.f_at.f_Line, ii z122.f_at.f_Col, ii z122.f_at.f_Off]) rfl U45 rfl sz45 (hB173.cells rfl)) <|
    WL.op rfl <|
    OW.row (r := T_api_Token.rep) (xs := [(⟨z153.1.f_Kind, z153.1.f_Text, z153.1.f_Int, (⟨z122.f_at.f_Line, z122.f_at.f_Col, z122.f_at.f_Off⟩ : T_api_Spot)⟩ : T_api_Token)]) [(0, .agg #[ii z153.1.f_Kind, encS z153.1.f_Text, ii z153.1.f_Int, ii z122.f_at.f_Line, ii z122.f_at.f_Col, ii z122.f_at.f_Off])] [[ii z153.1.f_Kind, encS z153.1.f_Text, ii z153.1.f_Int, ii z122.f_at.f_Line, ii z122.f_at.f_Col, ii z122.f_at.f_Off]] 49 HF rfl U22 sz45 zr45 rfl (evs_cons rfl rfl) rfl rfl ⟨(T_api_Token.mk' (⟨z153.1.f_Kind, z153.1.f_Text, z153.1.f_Int, (⟨z122.f_at.f_Line, z122.f_at.f_Col, z122.f_at.f_Off⟩ : T_api_Spot)⟩ : T_api_Token) ), trivial⟩ rfl rfl rfl rfl ?_
   intro o174 w175 v177 s176 hO178
   replace hO112 := hO112.step s176 rfl rfl
   replace hB105 := hB105.step s176 rfl
   replace hG := hG.step s176 rfl
   replace hB126 := hB126.step s176 rfl
   replace hB173 := hB173.step s176 rfl
   replace HF := HF.step s176 rfl
   obtain ⟨A179, c180, q181_, _, q181⟩ := hO178.row
   obtain ⟨u182, hu182, H⟩ := bindE H
   refine WL.op rfl <|
    OW.append (r := T_api_Token.rep) (E := 45) (i := 46) rfl U22 inf45 rfl (by decide) (by decide) (by decide) rfl ((show _ = (v177 : Value) from rfl).trans q181_) hO112 q181 rfl (of_decide_eq_true (chk_true hu182)) ?_
   intro o183 w184 v185 s186 hO187
   replace hB105 := hB105.step s186 rfl
   replace hG := hG.step s186 rfl
   replace hB126 := hB126.step s186 rfl
   replace hB173 := hB173.step s186 rfl
   replace hO178 := hO178.step s186 rfl rfl
   replace HF := HF.step s186 rfl
   refine E rfl (sg v185 rfl) <|
    WL.nil <|
    WC.region <|
    E rfl (mv (pp b106 0) s4_110) <|
    E rfl (mv (ii z153.2.1) rfl) ?_
   obtain ⟨z188, hz188, H⟩ := bindE H
   refine WL.op rfl <|
    OW.call [pp b106 0, ii z153.2.1] rfl Tryd.func42 (by kernel_rfl) (by kernel_rfl) (map_cons' rfl (map_cons' rfl rfl)) (token_cursor_skip.calls k _ _ b106 z122 z153.2.1 z188 (HF.ten (V := [0]) (L := [41]) rfl) (Bk.vw hB126 rfl) (Gl.vw hG rfl) hz188) ?_
   rintro _ w189 ⟨o190, rfl, s191, hB192⟩
   refine ⟨_, rfl, ?_⟩
   replace hB192 := Bk.unO (J := []) 0 hB192 s191 rfl rfl rfl
   replace s191 := un_stepL (J := []) (L' := [41]) s191 rfl rfl
   replace hB105 := hB105.step s191 rfl
   replace hG := hG.step s191 rfl
   replace hB173 := hB173.step s191 rfl
   replace hO178 := hO178.step s191 rfl rfl
   replace hO187 := hO187.step s191 rfl rfl
   replace HF := HF.step s191 rfl
   refine WL.nil ?_
   exact ⟨k118, Nat.lt_succ_self _, ⟨_, (x113 ++ [(⟨z153.1.f_Kind, z153.1.f_Text, z153.1.f_Int, (⟨z122.f_at.f_Line, z122.f_at.f_Col, z122.f_at.f_Off⟩ : T_api_Spot)⟩ : T_api_Token)]), z188, _, HF, hO187, hB105, hB192, hG, s2_110, s3_110, s4_110, rfl, H⟩⟩

/-! ### syntax_ahead -/
set_option maxRecDepth 100000 in
theorem syntax_ahead.calls (k : Nat) (o0 : Tags) (w0 : World) (a0 : List UInt8) (r : (List T_api_Token) × T_api_Fault) (hO : ∀ b, b < w0.heap.size → o0 b < 40) (hG : Gl GG o0 w0) (H : syntax_ahead.f k a0 = some r) :
  Calls Tryd.prog 14 [encS a0].toArray w0 fun e_ w_ => ∃ (o_ : Tags) (rv0 : Value), e_ = .returned (one [rv0, .agg #[ii r.2.f_Code, ii r.2.f_At.f_Line, ii r.2.f_At.f_Col, ii r.2.f_At.f_Off]]) ∧ Step o0 w0 o_ w_ [] ∧ Own T_api_Token.rep 45 39 o_ w_ rv0 r.1 := by
 have HF := Fm.refl hO []
 unfold syntax_ahead.f at H
 refine SX.calls [encS a0] Tryd.func14 rfl rfl ?_
 rw [Tryd.ntmps14]
 refine WC.seq <|
  WC.region <|
  E rfl (sg (.slice none ([] : List T_api_Token).length 0) rfl) <|
  WL.op rfl <|
  OW.alloc' [ii (0 : Int), ii (0 : Int), ii (0 : Int), ii (0 : Int)] 40 HF rfl zr35 rfl ?_
 intro o102 w103 b101 s104 hB105
 replace hG := hG.step s104 rfl
 replace HF := HF.step s104 rfl
 refine WL.nil <|
  WC.seq <|
  WC.region <|
  E rfl (mv (encS a0) rfl) ?_
 obtain ⟨z106, hz106, H⟩ := bindE H
 refine WL.op rfl <|
  OW.call [encS a0] rfl Tryd.func28 (by kernel_rfl) (by kernel_rfl) (map_cons' rfl rfl) (token_Scan.calls k _ _ a0 z106 (HF.ten (V := [0]) (L := []) rfl) (Gl.vw hG rfl) hz106) ?_
 rintro _ w107 ⟨o108, v110, rfl, s109, hO111⟩
 refine ⟨_, rfl, ?_⟩
 replace hO111 := Own.un9 (J := [41]) 0 hO111 rfl s109 rfl rfl
 replace s109 := un_stepL (J := [41]) (L' := []) s109 rfl rfl
 replace hG := hG.step s109 rfl
 replace hB105 := hB105.step s109 rfl
 replace HF := HF.step s109 rfl
 refine E rfl (mv (.tuple #[v110, .agg #[ii z106.2.f_Code, ii z106.2.f_At.f_Line, ii z106.2.f_At.f_Col, ii z106.2.f_At.f_Off]]) rfl) <|
  E rfl (ex_extract rfl rfl) <|
  E rfl (ex_extract rfl rfl) <|
  WL.op rfl <|
  OW.alloc' [ii (0 : Int), ii (0 : Int), ii (0 : Int), ii (0 : Int)] 42 HF rfl zr35 rfl ?_
 intro o113 w114 b112 s115 hB116
 replace hG := hG.step s115 rfl
 replace hB105 := hB105.step s115 rfl
 replace hO111 := hO111.step s115 rfl rfl
 replace HF := HF.step s115 rfl
 refine E rfl (sg v110 rfl) <|
  WL.op rfl <|
  OW.storeW rfl rfl sz35 hB116 rfl (oa rfl) ?_
 intro w117 s118 hB119
 replace hG := hG.step s118 rfl
 replace hB105 := hB105.step s118 rfl
 replace hO111 := hO111.step s118 rfl rfl
 replace HF := HF.step s118 rfl
 refine WL.nil <|
  WC.seq <|
  WC.seq <|
  WC.region <|
  E rfl (ex_fieldAddr rfl U35 rfl sz31) <|
  E rfl (ex_load1 rfl U31 rfl (hB119.cell rfl)) <|
  E rfl (e2 bin_eql rfl rfl) <|
  WL.nil ?_
 rcases condE H with ⟨c120, H⟩ | ⟨c120, H⟩
 ·
  refine WC.cond_t (vb c120 rfl) <|
   WC.seq <|
   WC.regionD' HF [] 3 4 (by kernel_rfl) rfl ?_
  intro w121 s122
  replace hG := hG.step s122 rfl
  replace hB105 := hB105.step s122 rfl
  replace hO111 := hO111.step s122 rfl rfl
  replace hB119 := hB119.step s122 rfl
  replace HF := HF.step s122 rfl
  have hGD := hG
  have hB105D := hB105
  have hO111D := hO111
  have hB119D := hB119
  have sR := HF.here []
  refine WA.norm (listed' := #[false, false, false, false]) (by kernel_rfl) <|
   WA.ex 0 rfl (by kernel_rfl) (by kernel_rfl) (by kernel_rfl) rfl ⟨_, sR⟩ (fun w_ hS_ => ex_move (v := v110) rfl) <|
   WA.norm (listed' := #[true, false, false, false]) (by kernel_rfl) <|
   WA.ex 1 rfl (by kernel_rfl) (by kernel_rfl) (by kernel_rfl) rfl ⟨_, sR⟩ (fun w_ hS_ => ex_loadN (cs := [ii z106.2.f_Code, ii z106.2.f_At.f_Line, ii z106.2.f_At.f_Col, ii z106.2.f_At.f_Off]) rfl U35 rfl sz35 ((hB119D.step hS_.choose_spec rfl).cells rfl)) <|
   WA.norm (listed' := #[true, true, false, false]) (by kernel_rfl) <|
   WA.ex 2 rfl (by kernel_rfl) (by kernel_rfl) (by kernel_rfl) rfl ⟨_, sR⟩ (fun w_ hS_ => ex_assign (v := v110) rfl) <|
   WA.norm (listed' := #[true, true, true, false]) (by kernel_rfl) <|
   WA.last 3 (by kernel_rfl) (by kernel_rfl) rfl rfl rfl <|
   OW.storeW rfl rfl sz35 hB105 rfl (oa rfl) ?_
  intro w123 s124 hB125
  replace hG := hG.step s124 rfl
  replace hO111 := hO111.step s124 rfl rfl
  replace hB119 := hB119.step s124 rfl
  replace HF := HF.step s124 rfl
  refine WC.ret ?_
  obtain rfl := Option.some.inj H
  replace hO111 := Own.renTo (j := 39) hO111 rfl
  replace HF := HF.ren (i := 41) (j := 39) rfl
  exact ⟨_, (.tmp (v110 : Value) rfl (.cell (.agg #[ii z106.2.f_Code, ii z106.2.f_At.f_Line, ii z106.2.f_At.f_Col, ii z106.2.f_At.f_Off] : Value) rfl (run_loadN (cs := [ii z106.2.f_Code, ii z106.2.f_At.f_Line, ii z106.2.f_At.f_Col, ii z106.2.f_At.f_Off]) U35 rfl sz35 (hB125.cells rfl)) .nil)), _, v110, rfl, HF.out, hO111⟩
 ·
  refine WC.cond_f (vb c120 rfl) <|
   WC.skip <|
   WC.seq <|
   WC.region <|
   E rfl (mv (encS a0) rfl) <|
   E rfl (ex_fieldAddr rfl U35 rfl sz33) <|
   E rfl (ex_fieldAddr rfl U33 rfl sz3) <|
   E rfl (ex_load1 rfl U3 rfl (hB119.cell rfl)) ?_
  obtain ⟨y126, hy126, H⟩ := bindE H
  refine E rfl (ex_slice_str (l := 0) (h := z106.2.f_At.f_Off) rfl U9 rfl ⟨_, rfl⟩ hy126) ?_
  obtain ⟨z127, hz127, H⟩ := bindE H
  refine WL.op rfl <|
   OW.call [encS y126] rfl Tryd.func28 (by kernel_rfl) (by kernel_rfl) (map_cons' rfl rfl) (token_Scan.calls k _ _ y126 z127 (HF.ten (V := [0]) (L := []) rfl) (Gl.vw hG rfl) hz127) ?_
  rintro _ w128 ⟨o129, v131, rfl, s130, hO132⟩
  refine ⟨_, rfl, ?_⟩
  replace hO132 := Own.un9 (J := [43]) 0 hO132 rfl s130 rfl rfl
  replace s130 := un_stepL (J := [43]) (L' := []) s130 rfl rfl
  replace hG := hG.step s130 rfl
  replace hB105 := hB105.step s130 rfl
  replace hO111 := hO111.step s130 rfl rfl
  replace hB119 := hB119.step s130 rfl
  replace HF := HF.step s130 rfl
  refine E rfl (mv (.tuple #[v131, .agg #[ii z127.2.f_Code, ii z127.2.f_At.f_Line, ii z127.2.f_At.f_Col, ii z127.2.f_At.f_Off]]) rfl) <|
   E rfl (ex_extract rfl rfl) <|
   E rfl (ex_extract rfl rfl) <|
   E rfl (sg v131 rfl) <|
   WL.nil ?_
  obtain ⟨z136, hz136, H⟩ := bindE H
  refine WC.cut (fun ρ_ w_ => ∃ (o_ : Tags) (v133 : Value), Fm o0 w0 o_ w_ [] ∧ Own T_api_Token.rep 45 43 o_ w_ v133 z136 ∧ Bk o_ w_ 40 b101 [ii (0 : Int), ii (0 : Int), ii (0 : Int), ii (0 : Int)] 35 ∧ Bk o_ w_ 42 b112 [ii z106.2.f_Code, ii z106.2.f_At.f_Line, ii z106.2.f_At.f_Col, ii z106.2.f_At.f_Off] 35 ∧ Gl GG o_ w_ ∧ ρ_ 2 = .slice none ([] : List T_api_Token).length 0 ∧ ρ_ 3 = pp b101 0 ∧ ρ_ 4 = v133 ∧ ρ_ 5 = pp b112 0) ?case137 ?_
  case case137 =>
   rintro ρ140 w138 ⟨o139, v133, HF, hO134, hB105, hB119, hG, s2_132, s3_132, s4_135, s5_135⟩
   refine WC.seq <|
    WC.regionD' HF [] 3 4 (by kernel_rfl) rfl ?_
   intro w141 s142
   replace hO134 := hO134.step s142 rfl rfl
   replace hB105 := hB105.step s142 rfl
   replace hB119 := hB119.step s142 rfl
   replace hG := hG.step s142 rfl
   replace HF := HF.step s142 rfl
   have hO134D := hO134
   have hB105D := hB105
   have hB119D := hB119
   have hGD := hG
   have sR := HF.here []
   refine WA.norm (listed' := #[false, false, false, false]) (by kernel_rfl) <|
    WA.ex 0 rfl (by kernel_rfl) (by kernel_rfl) (by kernel_rfl) rfl ⟨_, sR⟩ (fun w_ hS_ => ex_move (v := v133) s4_135) <|
    WA.norm (listed' := #[true, false, false, false]) (by kernel_rfl) <|
    WA.ex 1 rfl (by kernel_rfl) (by kernel_rfl) (by kernel_rfl) rfl ⟨_, sR⟩ (fun w_ hS_ => ex_loadN (cs := [ii z106.2.f_Code, ii z106.2.f_At.f_Line, ii z106.2.f_At.f_Col, ii z106.2.f_At.f_Off]) s5_135 U35 rfl sz35 ((hB119D.step hS_.choose_spec rfl).cells rfl)) <|
    WA.norm (listed' := #[true, true, false, false]) (by kernel_rfl) <|
    WA.ex 2 rfl (by kernel_rfl) (by kernel_rfl) (by kernel_rfl) rfl ⟨_, sR⟩ (fun w_ hS_ => ex_assign (v := v133) rfl) <|
    WA.norm (listed' := #[true, true, true, false]) (by kernel_rfl) <|
    WA.last 3 (by kernel_rfl) (by kernel_rfl) rfl rfl rfl <|
    OW.storeW rfl s3_132 sz35 hB105 rfl (oa rfl) ?_
   intro w143 s144 hB145
   replace hO134 := hO134.step s144 rfl rfl
   replace hB119 := hB119.step s144 rfl
   replace hG := hG.step s144 rfl
   replace HF := HF.step s144 rfl
   refine WC.ret ?_
   obtain rfl := Option.some.inj H
   replace hO134 := Own.renTo (j := 39) hO134 rfl
   replace HF := HF.ren (i := 43) (j := 39) rfl
   exact ⟨_, (.tmp (v133 : Value) rfl (.cell (.agg #[ii z106.2.f_Code, ii z106.2.f_At.f_Line, ii z106.2.f_At.f_Col, ii z106.2.f_At.f_Off] : Value) s3_132 (run_loadN (cs := [ii z106.2.f_Code, ii z106.2.f_At.f_Line, ii z106.2.f_At.f_Col, ii z106.2.f_At.f_Off]) U35 rfl sz35 (hB145.cells rfl)) .nil)), _, v133, rfl, HF.out, hO134⟩
  have Ho146 := H
  replace H := hz136
  refine WC.seq <|
   WC.region <|
   E rfl (mv v131 rfl) ?_
  obtain ⟨A147, c148, q149⟩ := hO132.slice
  refine E rfl (ex_len_slice ((show _ = (v131 : Value) from rfl).trans q149) U22) <|
   E rfl (sg (ii (z127.1.length : Int)) rfl) <|
   WL.nil <|
   WC.seq <|
   WC.region <|
   E rfl (mv (ii (z127.1.length : Int)) rfl) <|
   E rfl (e2 bin_gtr rfl rfl) <|
   WL.nil ?_
  rcases condE H with ⟨c150, H⟩ | ⟨c150, H⟩
  ·
   refine WC.cond_t (vb c150 rfl) <|
    WC.region <|
    E rfl (mv v131 rfl) <|
    E rfl (mv (ii (z127.1.length : Int)) rfl) <|
    E rfl (e2 bin_sub64 rfl rfl) <|
    E rfl (ex_fieldAddr rfl U35 rfl sz33) <|
    E rfl (ex_loadN (cs := [ii z106.2.f_At.f_Line, ii z106.2.f_At.f_Col, ii z106.2.f_At.f_Off]) rfl U33 rfl sz33 (hB119.cells rfl)) ?_
   obtain ⟨x151, hx151, H⟩ := bindE H
   obtain ⟨A156, c157, q158_⟩ := hO132.slice
   obtain ⟨ad152, cc159, e153, g154, g155, hl160, hR161, cell162⟩ := Row.ix (Own.rowOf hO132 q158_) hx151
   obtain rfl := T_api_Token.opn hR161
   refine E rfl (ex_indexAddr (i := (wrap64 ((z127.1.length : Int) - 1))) ((show _ = (v131 : Value) from rfl).trans q158_) e153 rfl U22 sz45 g154 g155) <|
    E rfl (ex_fieldAddr rfl U45 rfl sz33) <|
    WL.op rfl <|
    OW.storeElemPart (r := T_api_Token.rep) (j := (wrap64 ((z127.1.length : Int) - 1))) (y' := (⟨x151.f_Kind, x151.f_Text, x151.f_Int, (⟨z106.2.f_At.f_Line, z106.2.f_At.f_Col, z106.2.f_At.f_Off⟩ : T_api_Spot)⟩ : T_api_Token)) (off := 3) (c0 := [ii x151.f_Kind, encS x151.f_Text, ii x151.f_Int, ii x151.f_At.f_Line, ii x151.f_At.f_Col, ii x151.f_At.f_Off]) (vs := [ii z106.2.f_At.f_Line, ii z106.2.f_At.f_Col, ii z106.2.f_At.f_Off]) hO132 (q158_.trans (by rw [e153])) rfl g154 g155 ((congrArg Value.cells (show ev _ _ = (.agg #[ii z106.2.f_At.f_Line, ii z106.2.f_At.f_Col, ii z106.2.f_At.f_Off] : Value) from rfl)).trans rfl) sz33 cell162 rfl (Nat.le_of_ble_eq_true rfl) (by intro u_ hu_; simp only [List.mem_cons, List.not_mem_nil, or_false] at hu_; rcases hu_ with rfl | rfl | rfl <;> first | rfl) (T_api_Token.mk' (⟨x151.f_Kind, x151.f_Text, x151.f_Int, (⟨z106.2.f_At.f_Line, z106.2.f_At.f_Col, z106.2.f_At.f_Off⟩ : T_api_Spot)⟩ : T_api_Token) ) (by decide) ?_
   intro w164 s165 hO166
   replace hG := hG.step s165 rfl
   replace hB105 := hB105.step s165 rfl
   replace hO111 := hO111.step s165 rfl rfl
   replace hB119 := hB119.step s165 rfl
   replace HF := HF.step s165 rfl
   refine WL.nil ?_
   obtain rfl := Option.some.inj H
   exact ⟨_, _, HF, hO166, hB105, hB119, hG, rfl, rfl, rfl, rfl⟩
  ·
   refine WC.cond_f (vb c150 rfl) <|
    WC.skip ?_
   obtain rfl := Option.some.inj H
   exact ⟨_, _, HF, hO132, hB105, hB119, hG, rfl, rfl, rfl, rfl⟩

/-! ### syntax_counted -/
set_option maxRecDepth 100000 in
theorem syntax_counted.calls (o0 : Tags) (w0 : World) (a0 : T_api_Token) (r : Bool) (hO : ∀ b, b < w0.heap.size → o0 b < 40) (H : syntax_counted.f a0 = some r) :
  Calls Tryd.prog 15 [.agg #[ii a0.f_Kind, encS a0.f_Text, ii a0.f_Int, ii a0.f_At.f_Line, ii a0.f_At.f_Col, ii a0.f_At.f_Off]].toArray w0 fun e_ w_ => ∃ (o_ : Tags), e_ = .returned (one [.bool r]) ∧ Step o0 w0 o_ w_ [] := by
 have HF := Fm.refl hO []
 unfold syntax_counted.f at H
 refine SX.calls [.agg #[ii a0.f_Kind, encS a0.f_Text, ii a0.f_Int, ii a0.f_At.f_Line, ii a0.f_At.f_Col, ii a0.f_At.f_Off]] Tryd.func15 rfl rfl ?_
 rw [Tryd.ntmps15]
 refine WC.seq <|
  WC.region <|
  WL.op rfl <|
  OW.box' [ii a0.f_Kind, encS a0.f_Text, ii a0.f_Int, ii a0.f_At.f_Line, ii a0.f_At.f_Col, ii a0.f_At.f_Off] 40 HF rfl ((congrArg Value.cells (show ev _ _ = (.agg #[ii a0.f_Kind, encS a0.f_Text, ii a0.f_Int, ii a0.f_At.f_Line, ii a0.f_At.f_Col, ii a0.f_At.f_Off] : Value) from rfl)).trans rfl) ?_
 intro o102 w103 b101 s104 hB105
 replace HF := HF.step s104 rfl
 refine E rfl (sg (.bool false) rfl) <|
  WL.nil ?_
 obtain ⟨z106, hz106, H⟩ := bindE H
 refine WC.cut (fun ρ_ w_ => ∃ (o_ : Tags), Fm o0 w0 o_ w_ [] ∧ Bk o_ w_ 40 b101 [ii a0.f_Kind, encS a0.f_Text, ii a0.f_Int, ii a0.f_At.f_Line, ii a0.f_At.f_Col, ii a0.f_At.f_Off] 45 ∧ ρ_ 1 = pp b101 0 ∧ ρ_ 2 = .bool false ∧ z106 = .inr ()) ?case107 ?_
 case case107 =>
  rintro ρ110 w108 ⟨o109, HF, hB105, s1_105, s2_105, rfl⟩
  replace H : _ = some _ := H
  dsimp only at H
  refine WC.seq <|
   WC.region <|
   E rfl (ex_fieldAddr s1_105 U45 rfl sz43) <|
   E rfl (ex_load1 rfl U43 rfl (hB105.cell rfl)) <|
   E rfl (e2 bin_eql rfl rfl) <|
   E rfl (sg (.bool (a0.f_Kind == 1)) rfl) <|
   WL.nil <|
   WC.ret ?_
  obtain rfl := Option.some.inj H
  exact ⟨_, (.tmp (.bool (a0.f_Kind == 1) : Value) rfl .nil), _, rfl, HF.out⟩
 have Ho111 := H
 replace H := hz106
 refine WC.seq <|
  WC.region <|
  E rfl (ex_fieldAddr rfl U45 rfl sz43) <|
  E rfl (ex_load1 rfl U43 rfl (hB105.cell rfl)) <|
  E rfl (e2 bin_eql rfl rfl) <|
  WL.nil ?_
 rcases condE H with ⟨c112, H⟩ | ⟨c112, H⟩
 ·
  refine WC.cond_t (vb c112 rfl) <|
   WC.seq <|
   WC.region <|
   E rfl (ex_fieldAddr rfl U45 rfl sz9) <|
   E rfl (ex_load1 rfl U9 rfl (hB105.cell rfl)) <|
   WL.nil <|
   WC.block ?_
  obtain ⟨z114, hz114, H⟩ := bindE H
  refine WC.cut (fun ρ_ w_ => ∃ (o_ : Tags), Fm o0 w0 o_ w_ [] ∧ Bk o_ w_ 40 b101 [ii a0.f_Kind, encS a0.f_Text, ii a0.f_Int, ii a0.f_At.f_Line, ii a0.f_At.f_Col, ii a0.f_At.f_Off] 45 ∧ ρ_ 1 = pp b101 0 ∧ ρ_ 2 = .bool false ∧ ρ_ 8 = .bool z114) ?case115 ?_
  case case115 =>
   rintro ρ118 w116 ⟨o117, HF, hB105, s1_112, s2_112, s8_113⟩
   rcases condE H with ⟨c119, H⟩ | ⟨c119, H⟩
   ·
    refine WC.cond_t (vb c119 s8_113) <|
     WC.seq <|
     WC.region <|
     E rfl (sg (.bool true) rfl) <|
     WL.nil <|
     WC.ret ?_
    obtain rfl := Option.some.inj H
    replace H := Ho111
    dsimp only at H
    obtain rfl := Option.some.inj H
    exact ⟨_, (.tmp (.bool true : Value) rfl .nil), _, rfl, HF.out⟩
   ·
    refine WC.cond_f (vb c119 s8_113) <|
     WC.skip ?_
    obtain rfl := Option.some.inj H
    exact ⟨_, HF, hB105, s1_112, s2_112, rfl⟩
  have Ho120 := H
  replace H := hz114
  refine WC.seq <|
   WC.region <|
   E rfl (e2 bin_eql_str rfl rfl) <|
   E rfl (sg (.bool (a0.f_Text == ([126] : List UInt8))) rfl) <|
   WL.nil ?_
  rcases condE H with ⟨c121, H⟩ | ⟨c121, H⟩
  ·
   refine WC.cond_t (vb c121 rfl) <|
    WC.skip ?_
   obtain rfl := Option.some.inj H
   exact ⟨_, HF, hB105, rfl, rfl, rfl⟩
  ·
   refine WC.cond_f (vb c121 rfl) <|
    WC.seq <|
    WC.region <|
    E rfl (e2 bin_eql_str rfl rfl) <|
    E rfl (sg (.bool (a0.f_Text == ([38] : List UInt8))) rfl) <|
    WL.nil ?_
   rcases condE H with ⟨c122, H⟩ | ⟨c122, H⟩
   ·
    refine WC.cond_t (vb c122 rfl) <|
     WC.skip ?_
    obtain rfl := Option.some.inj H
    exact ⟨_, HF, hB105, rfl, rfl, rfl⟩
   ·
    refine WC.cond_f (vb c122 rfl) <|
     WC.seq <|
     WC.region <|
     E rfl (e2 bin_eql_str rfl rfl) <|
     E rfl (sg (.bool (a0.f_Text == ([124] : List UInt8))) rfl) <|
     WL.nil ?_
    rcases condE H with ⟨c123, H⟩ | ⟨c123, H⟩
    ·
     refine WC.cond_t (vb c123 rfl) <|
      WC.skip ?_
     obtain rfl := Option.some.inj H
     exact ⟨_, HF, hB105, rfl, rfl, rfl⟩
    ·
     refine WC.cond_f (vb c123 rfl) <|
      WC.seq <|
      WC.region <|
      E rfl (e2 bin_eql_str rfl rfl) <|
      E rfl (sg (.bool (a0.f_Text == ([45, 62] : List UInt8))) rfl) <|
      WL.nil ?_
     rcases condE H with ⟨c124, H⟩ | ⟨c124, H⟩
     ·
      refine WC.cond_t (vb c124 rfl) <|
       WC.skip ?_
      obtain rfl := Option.some.inj H
      exact ⟨_, HF, hB105, rfl, rfl, rfl⟩
     ·
      refine WC.cond_f (vb c124 rfl) <|
       WC.region <|
       E rfl (e2 bin_eql_str rfl rfl) <|
       E rfl (sg (.bool (a0.f_Text == ([60, 45, 62] : List UInt8))) rfl) <|
       WL.nil ?_
      obtain rfl := Option.some.inj H
      exact ⟨_, HF, hB105, rfl, rfl, rfl⟩
 ·
  refine WC.cond_f (vb c112 rfl) <|
   WC.skip ?_
  obtain rfl := Option.some.inj H
  exact ⟨_, HF, hB105, rfl, rfl, rfl⟩

/-! ### formula_Table_Len -/
set_option maxRecDepth 100000 in
theorem formula_Table_Len.calls (o0 : Tags) (w0 : World) (pb0 : Nat) (pv0_0 : Value) (pb0_1 : Nat) (a0 : T_formula_Table) (a0_1 : (List (T_api_Node × Int))) (r : Int) (hO : ∀ b, b < w0.heap.size → o0 b < 40) (hB0 : Bk o0 w0 2 pb0 [pv0_0, .map (some pb0_1)] 28) (hO0_0 : Own T_api_Node.rep 61 3 o0 w0 pv0_0 a0.f_rows) (hM0_1 : Mp (fun x_ : T_api_Node => Value.agg #[ii x_.f_Kind, encS x_.f_Name, ii x_.f_L, ii x_.f_R]) (fun v_ : Int => ii v_) 4 o0 w0 pb0_1 a0_1) (H : formula_Table_Len.f a0 a0_1 = some r) :
  Calls Tryd.prog 11 [pp pb0 0].toArray w0 fun e_ w_ => ∃ (o_ : Tags), e_ = .returned (one [ii r]) ∧ Step o0 w0 o_ w_ [] := by
 have HF := Fm.refl hO []
 unfold formula_Table_Len.f at H
 refine SX.calls [pp pb0 0] Tryd.func11 rfl rfl ?_
 rw [Tryd.ntmps11]
 refine WC.seq <|
  WC.region <|
  E rfl (sg (ii 0) rfl) <|
  WL.nil <|
  WC.seq <|
  WC.seq <|
  WC.region <|
  E rfl (mv (pp pb0 0) rfl) ?_
 obtain ⟨z101, hz101, H⟩ := bindE H
 refine WL.op rfl <|
  OW.call [pp pb0 0] rfl Tryd.func26 (by kernel_rfl) (by kernel_rfl) (map_cons' rfl rfl) (formula_Table_alive.calls _ _ pb0 pv0_0 pb0_1 a0 a0_1 z101 (HF.ten (V := [0]) (L := [2, 3, 4]) rfl) (Bk.vw hB0 rfl) (Own.vw hO0_0 rfl rfl) (Mp.vw hM0_1 rfl) hz101) ?_
 obtain rfl := Option.some.inj (show some true = some z101 from hz101)
 rintro _ w102 ⟨o103, rfl, s104⟩
 refine ⟨_, rfl, ?_⟩
 replace s104 := un_stepL (J := []) (L' := []) s104 rfl rfl
 replace hO0_0 := hO0_0.step s104 rfl rfl
 replace hB0 := hB0.step s104 rfl
 replace hM0_1 := hM0_1.step s104 rfl
 replace HF := HF.step s104 rfl
 refine E rfl (ex_not (b := true) rfl) <|
  WL.nil <|
  WC.cond_f rfl <|
  WC.skip <|
  WC.seq <|
  WC.region <|
  E rfl (mv (pp pb0 0) rfl) <|
  E rfl (ex_nilCheck rfl) <|
  E rfl (ex_fieldAddr rfl U28 rfl sz25) <|
  E rfl (ex_load1 rfl U25 rfl (hB0.cell rfl)) ?_
 obtain ⟨A105, c106, q107⟩ := hO0_0.slice
 refine E rfl (ex_len_slice ((show _ = (pv0_0 : Value) from rfl).trans q107) U25) <|
  E rfl (sg (ii (a0.f_rows.length : Int)) rfl) <|
  WL.nil <|
  WC.ret ?_
 obtain rfl := Option.some.inj H
 exact ⟨_, (.tmp (ii (a0.f_rows.length : Int) : Value) rfl .nil), _, rfl, HF.out⟩

/-! ### syntax_reader_now -/
set_option maxRecDepth 100000 in
theorem syntax_reader_now.calls (o0 : Tags) (w0 : World) (pb0 : Nat) (pA0_1 : Option Addr) (pc0_1 : Nat) (pb0_0 : Nat) (pv0_0_0 : Value) (pb0_0_1 : Nat) (a0 : T_syntax_reader) (a0_0 : T_formula_Table) (a0_0_1 : (List (T_api_Node × Int))) (r : T_api_Token) (hO : ∀ b, b < w0.heap.size → o0 b < 40) (hB0 : Bk o0 w0 2 pb0 [pp pb0_0 0, .slice pA0_1 a0.f_l.length pc0_1, ii a0.f_i, ii a0.f_names, ii a0.f_nest, .bool a0.f_counts, .bool a0.f_full] 55) (hra0_1 : Row T_api_Token.rep (fun b_ => o0 b_ = 0) (fun b_ => o0 b_ = 0) w0 pA0_1 a0.f_l) (hla0_1 : a0.f_l.length ≤ pc0_1) (hB0_0 : Bk o0 w0 3 pb0_0 [pv0_0_0, .map (some pb0_0_1)] 28) (hO0_0_0 : Own T_api_Node.rep 61 4 o0 w0 pv0_0_0 a0_0.f_rows) (hM0_0_1 : Mp (fun x_ : T_api_Node => Value.agg #[ii x_.f_Kind, encS x_.f_Name, ii x_.f_L, ii x_.f_R]) (fun v_ : Int => ii v_) 5 o0 w0 pb0_0_1 a0_0_1) (H : syntax_reader_now.f a0 a0_0 a0_0_1 = some r) :
  Calls Tryd.prog 19 [pp pb0 0].toArray w0 fun e_ w_ => ∃ (o_ : Tags), e_ = .returned (one [.agg #[ii r.f_Kind, encS r.f_Text, ii r.f_Int, ii r.f_At.f_Line, ii r.f_At.f_Col, ii r.f_At.f_Off]]) ∧ Step o0 w0 o_ w_ [] := by
 have HF := Fm.refl hO []
 unfold syntax_reader_now.f at H
 refine SX.calls [pp pb0 0] Tryd.func19 rfl rfl ?_
 rw [Tryd.ntmps19]
 refine WC.seq <|
  WC.region <|
  WL.op rfl <|
  OW.alloc' [ii (0 : Int), encS ([] : List UInt8), ii (0 : Int), ii (0 : Int), ii (0 : Int), ii (0 : Int)] 40 HF rfl zr45 rfl ?_
 intro o102 w103 b101 s104 hB105
 replace hra0_1 := hra0_1.step s104 rfl
 replace hB0 := hB0.step s104 rfl
 replace hO0_0_0 := hO0_0_0.step s104 rfl rfl
 replace hB0_0 := hB0_0.step s104 rfl
 replace hM0_0_1 := hM0_0_1.step s104 rfl
 replace HF := HF.step s104 rfl
 refine WL.nil <|
  WC.seq <|
  WC.seq <|
  WC.regionD' HF [] 10 10 (by kernel_rfl) rfl ?_
 intro w106 s107
 replace hra0_1 := hra0_1.step s107 rfl
 replace hB0 := hB0.step s107 rfl
 replace hO0_0_0 := hO0_0_0.step s107 rfl rfl
 replace hB0_0 := hB0_0.step s107 rfl
 replace hM0_0_1 := hM0_0_1.step s107 rfl
 replace hB105 := hB105.step s107 rfl
 replace HF := HF.step s107 rfl
 have hra0_1D := hra0_1
 have hB0D := hB0
 have hO0_0_0D := hO0_0_0
 have hB0_0D := hB0_0
 have hM0_0_1D := hM0_0_1
 have hB105D := hB105
 have sR := HF.here []
 refine WA.norm (listed' := #[false, false, false, false, false, false, false, false, false, false]) (by kernel_rfl) <|
  WA.ex 0 rfl (by kernel_rfl) (by kernel_rfl) (by kernel_rfl) rfl ⟨_, sR⟩ (fun w_ hS_ => ex_move (v := pp pb0 0) rfl) <|
  WA.norm (listed' := #[true, false, false, false, false, false, false, false, false, false]) (by kernel_rfl) <|
  WA.ex 1 rfl (by kernel_rfl) (by kernel_rfl) (by kernel_rfl) rfl ⟨_, sR⟩ (fun w_ hS_ => ex_nilCheck rfl) <|
  WA.norm (listed' := #[true, true, false, false, false, false, false, false, false, false]) (by kernel_rfl) <|
  WA.ex 2 rfl (by kernel_rfl) (by kernel_rfl) (by kernel_rfl) rfl ⟨_, sR⟩ (fun w_ hS_ => ex_fieldAddr rfl U55 rfl sz3) <|
  WA.norm (listed' := #[true, true, true, false, false, false, false, false, false, false]) (by kernel_rfl) <|
  WA.ex 3 rfl (by kernel_rfl) (by kernel_rfl) (by kernel_rfl) rfl ⟨_, sR⟩ (fun w_ hS_ => ex_load1 (v := ii a0.f_i) rfl U3 rfl ((hB0D.step hS_.choose_spec rfl).cell rfl)) <|
  WA.norm (listed' := #[true, true, true, true, false, false, false, false, false, false]) (by kernel_rfl) <|
  WA.ex 4 rfl (by kernel_rfl) (by kernel_rfl) (by kernel_rfl) rfl ⟨_, sR⟩ (fun w_ hS_ => ex_move (v := pp pb0 0) rfl) <|
  WA.norm (listed' := #[true, true, true, true, true, false, false, false, false, false]) (by kernel_rfl) <|
  WA.ex 5 rfl (by kernel_rfl) (by kernel_rfl) (by kernel_rfl) rfl ⟨_, sR⟩ (fun w_ hS_ => ex_nilCheck rfl) <|
  WA.norm (listed' := #[true, true, true, true, true, true, false, false, false, false]) (by kernel_rfl) <|
  WA.ex 6 rfl (by kernel_rfl) (by kernel_rfl) (by kernel_rfl) rfl ⟨_, sR⟩ (fun w_ hS_ => ex_fieldAddr rfl U55 rfl sz22) <|
  WA.norm (listed' := #[true, true, true, true, true, true, true, false, false, false]) (by kernel_rfl) <|
  WA.ex 7 rfl (by kernel_rfl) (by kernel_rfl) (by kernel_rfl) rfl ⟨_, sR⟩ (fun w_ hS_ => ex_load1 (v := .slice pA0_1 a0.f_l.length pc0_1) rfl U22 rfl ((hB0D.step hS_.choose_spec rfl).cell rfl)) <|
  WA.norm (listed' := #[true, true, true, true, true, true, true, true, false, false]) (by kernel_rfl) <|
  WA.ex 8 rfl (by kernel_rfl) (by kernel_rfl) (by kernel_rfl) rfl ⟨_, sR⟩ (fun w_ hS_ => ex_len_slice (A := pA0_1) (m := a0.f_l.length) (c := pc0_1) rfl U22) <|
  WA.norm (listed' := #[true, true, true, true, true, true, true, true, true, false]) (by kernel_rfl) <|
  WA.ex 9 rfl (by kernel_rfl) (by kernel_rfl) (by kernel_rfl) rfl ⟨_, sR⟩ (fun w_ hS_ => ex_bin (a := ii a0.f_i) (b := ii (a0.f_l.length : Int)) (v := .bool (decide (a0.f_i < (a0.f_l.length : Int)))) rfl rfl bin_lss) <|
  WA.norm (listed' := #[true, true, true, true, true, true, true, true, true, true]) (by kernel_rfl) <|
  WA.done (by kernel_rfl) ?_
 rcases condE H with ⟨c108, H⟩ | ⟨c108, H⟩
 ·
  refine WC.cond_t (vb c108 rfl) <|
   WC.seq <|
   WC.regionD' HF [] 10 11 (by kernel_rfl) rfl ?_
  intro w109 s110
  replace hra0_1 := hra0_1.step s110 rfl
  replace hB0 := hB0.step s110 rfl
  replace hO0_0_0 := hO0_0_0.step s110 rfl rfl
  replace hB0_0 := hB0_0.step s110 rfl
  replace hM0_0_1 := hM0_0_1.step s110 rfl
  replace hB105 := hB105.step s110 rfl
  replace HF := HF.step s110 rfl
  have hra0_1D := hra0_1
  have hB0D := hB0
  have hO0_0_0D := hO0_0_0
  have hB0_0D := hB0_0
  have hM0_0_1D := hM0_0_1
  have hB105D := hB105
  have sR := HF.here []
  refine WA.norm (listed' := #[false, false, false, false, false, false, false, false, false, false, false]) (by kernel_rfl) <|
   WA.ex 0 rfl (by kernel_rfl) (by kernel_rfl) (by kernel_rfl) rfl ⟨_, sR⟩ (fun w_ hS_ => ex_move (v := pp pb0 0) rfl) <|
   WA.norm (listed' := #[true, false, false, false, false, false, false, false, false, false, false]) (by kernel_rfl) <|
   WA.ex 1 rfl (by kernel_rfl) (by kernel_rfl) (by kernel_rfl) rfl ⟨_, sR⟩ (fun w_ hS_ => ex_nilCheck rfl) <|
   WA.norm (listed' := #[true, true, false, false, false, false, false, false, false, false, false]) (by kernel_rfl) <|
   WA.ex 2 rfl (by kernel_rfl) (by kernel_rfl) (by kernel_rfl) rfl ⟨_, sR⟩ (fun w_ hS_ => ex_fieldAddr rfl U55 rfl sz22) <|
   WA.norm (listed' := #[true, true, true, false, false, false, false, false, false, false, false]) (by kernel_rfl) <|
   WA.ex 3 rfl (by kernel_rfl) (by kernel_rfl) (by kernel_rfl) rfl ⟨_, sR⟩ (fun w_ hS_ => ex_load1 (v := .slice pA0_1 a0.f_l.length pc0_1) rfl U22 rfl ((hB0D.step hS_.choose_spec rfl).cell rfl)) <|
   WA.norm (listed' := #[true, true, true, true, false, false, false, false, false, false, false]) (by kernel_rfl) <|
   WA.ex 4 rfl (by kernel_rfl) (by kernel_rfl) (by kernel_rfl) rfl ⟨_, sR⟩ (fun w_ hS_ => ex_move (v := pp pb0 0) rfl) <|
   WA.norm (listed' := #[true, true, true, true, true, false, false, false, false, false, false]) (by kernel_rfl) <|
   WA.ex 5 rfl (by kernel_rfl) (by kernel_rfl) (by kernel_rfl) rfl ⟨_, sR⟩ (fun w_ hS_ => ex_nilCheck rfl) <|
   WA.norm (listed' := #[true, true, true, true, true, true, false, false, false, false, false]) (by kernel_rfl) <|
   WA.ex 6 rfl (by kernel_rfl) (by kernel_rfl) (by kernel_rfl) rfl ⟨_, sR⟩ (fun w_ hS_ => ex_fieldAddr rfl U55 rfl sz3) <|
   WA.norm (listed' := #[true, true, true, true, true, true, true, false, false, false, false]) (by kernel_rfl) <|
   WA.ex 7 rfl (by kernel_rfl) (by kernel_rfl) (by kernel_rfl) rfl ⟨_, sR⟩ (fun w_ hS_ => ex_load1 (v := ii a0.f_i) rfl U3 rfl ((hB0D.step hS_.choose_spec rfl).cell rfl)) <|
   WA.norm (listed' := #[true, true, true, true, true, true, true, true, false, false, false]) (by kernel_rfl) ?_
  obtain ⟨x111, hx111, H⟩ := bindE H
  obtain ⟨ad112, cc116, e113, g114, g115, hl117, hR118, cell119⟩ := Row.ix hra0_1D hx111
  obtain rfl := T_api_Token.opn hR118
  have hk120 := Row.at hra0_1D e113 hx111 (a0.f_i.toNat * 6)
  replace cell119 := fun j_ u_ hu_ => held_cell (Step.refl _ _ _) ⟨_, sR⟩ (by rw [add_block]; exact hk120) rfl (cell119 j_ u_ hu_)
  refine WA.ex 8 rfl (by kernel_rfl) (by kernel_rfl) (by kernel_rfl) rfl ⟨_, sR⟩ (fun w_ hS_ => ex_indexAddr (i := a0.f_i) rfl e113 rfl U22 sz45 g114 g115) <|
   WA.norm (listed' := #[true, true, true, true, true, true, true, true, true, false, false]) (by kernel_rfl) <|
   WA.ex 9 rfl (by kernel_rfl) (by kernel_rfl) (by kernel_rfl) rfl ⟨_, sR⟩ (fun w_ hS_ => ex_loadN (cs := [ii x111.f_Kind, encS x111.f_Text, ii x111.f_Int, ii x111.f_At.f_Line, ii x111.f_At.f_Col, ii x111.f_At.f_Off]) rfl U45 rfl sz45 (fun j_ u_ hu_ => held_cell sR hS_ (by rw [add_block]; exact hk120) rfl (cell119 j_ u_ hu_))) <|
   WA.norm (listed' := #[true, true, true, true, true, true, true, true, true, true, false]) (by kernel_rfl) <|
   WA.last 10 (by kernel_rfl) (by kernel_rfl) rfl rfl rfl <|
   OW.storeW rfl rfl sz45 hB105 rfl (oa rfl) ?_
  intro w121 s122 hB123
  replace hra0_1 := hra0_1.step s122 rfl
  replace hB0 := hB0.step s122 rfl
  replace hO0_0_0 := hO0_0_0.step s122 rfl rfl
  replace hB0_0 := hB0_0.step s122 rfl
  replace hM0_0_1 := hM0_0_1.step s122 rfl
  replace HF := HF.step s122 rfl
  refine WC.ret ?_
  obtain rfl := Option.some.inj H
  exact ⟨_, (.cell (.agg #[ii x111.f_Kind, encS x111.f_Text, ii x111.f_Int, ii x111.f_At.f_Line, ii x111.f_At.f_Col, ii x111.f_At.f_Off] : Value) rfl (run_loadN (cs := [ii x111.f_Kind, encS x111.f_Text, ii x111.f_Int, ii x111.f_At.f_Line, ii x111.f_At.f_Col, ii x111.f_At.f_Off]) U45 rfl sz45 (hB123.cells rfl)) .nil), _, rfl, HF.out⟩
 ·
  refine WC.cond_f (vb c108 rfl) <|
   WC.skip <|
   WC.seq <|
   WC.region <|
   E rfl (ex_build (cs := [ii (0 : Int), encS ([] : List UInt8), ii (0 : Int), ii (0 : Int), ii (0 : Int), ii (0 : Int)]) [(0, 1), (1, 1), (2, 1), (3, 3)] [] [ii 0, .string ⟨#[]⟩, ii 0, ii 0, ii 0, ii 0] U45 zr45 rfl (by kernel_rfl) rfl rfl) <|
   WL.op rfl <|
   OW.storeW rfl rfl sz45 hB105 rfl (oa rfl) ?_
  intro w124 s125 hB126
  replace hra0_1 := hra0_1.step s125 rfl
  replace hB0 := hB0.step s125 rfl
  replace hO0_0_0 := hO0_0_0.step s125 rfl rfl
  replace hB0_0 := hB0_0.step s125 rfl
  replace hM0_0_1 := hM0_0_1.step s125 rfl
  replace HF := HF.step s125 rfl
  refine WL.nil <|
   WC.ret ?_
  obtain rfl := Option.some.inj H
  exact ⟨_, (.cell (.agg #[ii (0 : Int), encS ([] : List UInt8), ii (0 : Int), ii (0 : Int), ii (0 : Int), ii (0 : Int)] : Value) rfl (run_loadN (cs := [ii (0 : Int), encS ([] : List UInt8), ii (0 : Int), ii (0 : Int), ii (0 : Int), ii (0 : Int)]) U45 rfl sz45 (hB126.cells rfl)) .nil), _, rfl, HF.out⟩

/-! ### syntax_reader_fail -/
set_option maxRecDepth 100000 in
theorem syntax_reader_fail.calls (o0 : Tags) (w0 : World) (pb0 : Nat) (pA0_1 : Option Addr) (pc0_1 : Nat) (pb0_0 : Nat) (pv0_0_0 : Value) (pb0_0_1 : Nat) (a0 : T_syntax_reader) (a1 : Int) (a0_0 : T_formula_Table) (a0_0_1 : (List (T_api_Node × Int))) (r : Exn (T_syntax_broken) (Unit)) (hO : ∀ b, b < w0.heap.size → o0 b < 40) (hB0 : Bk o0 w0 2 pb0 [pp pb0_0 0, .slice pA0_1 a0.f_l.length pc0_1, ii a0.f_i, ii a0.f_names, ii a0.f_nest, .bool a0.f_counts, .bool a0.f_full] 55) (hra0_1 : Row T_api_Token.rep (fun b_ => o0 b_ = 0) (fun b_ => o0 b_ = 0) w0 pA0_1 a0.f_l) (hla0_1 : a0.f_l.length ≤ pc0_1) (hB0_0 : Bk o0 w0 3 pb0_0 [pv0_0_0, .map (some pb0_0_1)] 28) (hO0_0_0 : Own T_api_Node.rep 61 4 o0 w0 pv0_0_0 a0_0.f_rows) (hM0_0_1 : Mp (fun x_ : T_api_Node => Value.agg #[ii x_.f_Kind, encS x_.f_Name, ii x_.f_L, ii x_.f_R]) (fun v_ : Int => ii v_) 5 o0 w0 pb0_0_1 a0_0_1) (H : syntax_reader_fail.f a0 a1 a0_0 a0_0_1 = some r) :
  Calls Tryd.prog 20 [pp pb0 0, ii a1].toArray w0 fun e_ w_ => ∃ (o_ : Tags), ((∃ p_, r = .ex p_ ∧ e_ = .panicked (pc (.iface 73 (.agg #[ii p_.f_f.f_Code, ii p_.f_f.f_At.f_Line, ii p_.f_f.f_At.f_Col, ii p_.f_f.f_At.f_Off]))) ∧ Step o0 w0 o_ w_ []) ∨ ∃ q_, r = .ok q_ ∧ e_ = .returned (one []) ∧ Step o0 w0 o_ w_ []) := by
 have HF := Fm.refl hO []
 unfold syntax_reader_fail.f at H
 refine SX.calls [pp pb0 0, ii a1] Tryd.func20 rfl rfl ?_
 rw [Tryd.ntmps20]
 refine WC.region <|
  E rfl (mv (ii a1) rfl) <|
  E rfl (mv (pp pb0 0) rfl) ?_
 obtain ⟨z101, hz101, H⟩ := bindE H
 refine WL.op rfl <|
  OW.call [pp pb0 0] rfl Tryd.func19 (by kernel_rfl) (by kernel_rfl) (map_cons' rfl rfl) (syntax_reader_now.calls _ _ pb0 pA0_1 pc0_1 pb0_0 pv0_0_0 pb0_0_1 a0 a0_0 a0_0_1 z101 (HF.ten (V := [0]) (L := [2, 3, 4, 5]) rfl) (Bk.vw hB0 rfl) (Row.vw hra0_1 rfl) hla0_1 (Bk.vw hB0_0 rfl) (Own.vw hO0_0_0 rfl rfl) (Mp.vw hM0_0_1 rfl) hz101) ?_
 rintro _ w102 ⟨o103, rfl, s104⟩
 refine ⟨_, rfl, ?_⟩
 replace s104 := un_stepL (J := []) (L' := []) s104 rfl rfl
 replace hra0_1 := hra0_1.step s104 rfl
 replace hB0 := hB0.step s104 rfl
 replace hO0_0_0 := hO0_0_0.step s104 rfl rfl
 replace hB0_0 := hB0_0.step s104 rfl
 replace hM0_0_1 := hM0_0_1.step s104 rfl
 replace HF := HF.step s104 rfl
 refine E rfl (ex_fieldN rfl U45 rfl U33 rfl sz33) <|
  E rfl (ex_build (cs := [ii a1, ii z101.f_At.f_Line, ii z101.f_At.f_Col, ii z101.f_At.f_Off]) [(0, 1), (1, 3)] [(0, ii a1), (1, .agg #[ii z101.f_At.f_Line, ii z101.f_At.f_Col, ii z101.f_At.f_Off])] [ii 0, ii 0, ii 0, ii 0] U35 zr35 rfl (by kernel_rfl) (evs_cons rfl (evs_cons rfl rfl)) rfl) <|
  E rfl (ex_build (cs := [ii a1, ii z101.f_At.f_Line, ii z101.f_At.f_Col, ii z101.f_At.f_Off]) [(0, 4)] [(0, .agg #[ii a1, ii z101.f_At.f_Line, ii z101.f_At.f_Col, ii z101.f_At.f_Off])] [ii 0, ii 0, ii 0, ii 0] U73 zr73 rfl (by kernel_rfl) (evs_cons rfl rfl) rfl) <|
  E rfl (ex_makeInterface (v := .agg #[ii a1, ii z101.f_At.f_Line, ii z101.f_At.f_Col, ii z101.f_At.f_Off]) rfl U73 rfl) <|
  WL.op rfl <|
  OW.panic (T := 73) (v := .agg #[ii a1, ii z101.f_At.f_Line, ii z101.f_At.f_Col, ii z101.f_At.f_Off]) rfl ?_
 obtain rfl := Option.some.inj H
 exact ⟨_, Or.inl ⟨_, rfl, rfl, HF.out⟩⟩
end Go.Proofs.YtpmkkhkphddfeaaDoor.X
