import Derived.Test.YtpmkkhkphddfeaaGreatDoorXAD
import Derived.Test.YtpmkkhkphddfeaaGreatDoorProg
import Derived.Test.YtpmkkhkphddfeaaGreatDoorS1
import Derived.Test.YtpmkkhkphddfeaaGreatDoorShelf
set_option maxRecDepth 20000
set_option linter.unusedVariables false
set_option linter.unusedSimpArgs false
set_option linter.unnecessarySimpa false
namespace Go.Proofs.YtpmkkhkphddfeaaGreatDoor.X
open Go Go.RowKit Go.Proofs.YtpmkkhkphddfeaaGreatDoor.SX
abbrev U3 := @Tryz.underlying3
abbrev U4 := @Tryz.underlying4
abbrev U9 := @Tryz.underlying9
abbrev U20 := @Tryz.underlying20
abbrev U22 := @Tryz.underlying22
abbrev U23 := @Tryz.underlying23
abbrev U28 := @Tryz.underlying28
abbrev U34 := @Tryz.underlying34
abbrev U36 := @Tryz.underlying36
abbrev U53 := @Tryz.underlying53
abbrev U54 := @Tryz.underlying54
abbrev U56 := @Tryz.underlying56
abbrev U58 := @Tryz.underlying58
abbrev U60 := @Tryz.underlying60
abbrev U64 := @Tryz.underlying64
abbrev U71 := @Tryz.underlying71
abbrev U74 := @Tryz.underlying74
abbrev U76 := @Tryz.underlying76
abbrev U78 := @Tryz.underlying78
abbrev U80 := @Tryz.underlying80
abbrev U92 := @Tryz.underlying92
abbrev U105 := @Tryz.underlying105
abbrev U111 := @Tryz.underlying111
abbrev U128 := @Tryz.underlying128
abbrev U153 := @Tryz.underlying153
abbrev U156 := @Tryz.underlying156

/-! What the program's variables hold -/
def GG : Glob := { L := [0, 1, 5, 7, 3, 4], T := fun w => Lib.Utf8Tabs 0 1 w ∧ Lib.TabIs Tryz.prog w "internal/strconv.uint64pow10" .u64 Lib.pow10Tab ∧ Lib.TabIs Tryz.prog w "math/bits.deBruijn64tab" .u8 db64I ∧ (∃ tp p, w.var? Tryz.prog "strconv.ErrSyntax" = some #[.iface tp p]) ∧ (∃ tp p, w.var? Tryz.prog "strconv.ErrRange" = some #[.iface tp p]), move := fun {w w'} hk h => ⟨⟨fun c hc => by rw [cell_move (w := w) (hk 0 (by simp))]; exact h.1.1 c hc, fun i hi => ⟨by rw [cell_move (w := w) (hk 1 (by simp))]; exact (h.1.2 i hi).1, by rw [cell_move (w := w) (hk 1 (by simp))]; exact (h.1.2 i hi).2⟩⟩, (var_move (by kernel_rfl : Tryz.prog.globalNamed "internal/strconv.uint64pow10" = some 5) (hk 5 (by simp))).trans h.2.1, (var_move (by kernel_rfl : Tryz.prog.globalNamed "math/bits.deBruijn64tab" = some 7) (hk 7 (by simp))).trans h.2.2.1, (by obtain ⟨tp, p, e⟩ := h.2.2.2.1; exact ⟨tp, p, (var_move (by kernel_rfl : Tryz.prog.globalNamed "strconv.ErrSyntax" = some 3) (hk 3 (by simp))).trans e⟩), (by obtain ⟨tp, p, e⟩ := h.2.2.2.2; exact ⟨tp, p, (var_move (by kernel_rfl : Tryz.prog.globalNamed "strconv.ErrRange" = some 4) (hk 4 (by simp))).trans e⟩)⟩ }

theorem inf60 : (Tryz.prog.info? 60).map (fun i => (i.zero, i.size, i.bytes)) = some (some (.agg #[ii 0, .string ⟨#[]⟩, ii 0, ii 0]), 4, 40) := by kernel_rfl
theorem inf76 : (Tryz.prog.info? 76).map (fun i => (i.zero, i.size, i.bytes)) = some (some (.agg #[ii 0, .string ⟨#[]⟩, ii 0, ii 0, ii 0, ii 0]), 6, 56) := by kernel_rfl
theorem key60 : KeyT Tryz.prog 60 (fun x_ : T_api_Node => Value.agg #[ii x_.f_Kind, encS x_.f_Name, ii x_.f_L, ii x_.f_R]) T_api_Node.eqb := keyT_asking U60 (fun _ _ => rfl) (fun e x w => by kernel_rfl) (fun x y => (EqR.agg U60 (by kernel_rfl) (EqF.cons (by decide) (PartR.one U58 rfl rfl) (PartR.one U58 rfl rfl) (EqR.int U58) (EqF.cons (by decide) (PartR.one U9 rfl rfl) (PartR.one U9 rfl rfl) (EqR.str U9) (EqF.cons (by decide) (PartR.one U3 rfl rfl) (PartR.one U3 rfl rfl) (EqR.int U3) (EqF.cons (by decide) (PartR.one U3 rfl rfl) (PartR.one U3 rfl rfl) (EqR.int U3) EqF.nil)))))) (fun x y h => by
 have h_ : x = y := by cases x; cases y; simp [T_api_Node.eqb, and_assoc] at h; simp [h]
 subst h_; simp [Instr.sameBits, sameBits_enc])
theorem sz3 : (Tryz.prog.info? 3).map (·.size) = some 1 := by kernel_rfl
theorem sz4 : (Tryz.prog.info? 4).map (·.size) = some 1 := by kernel_rfl
theorem sz9 : (Tryz.prog.info? 9).map (·.size) = some 1 := by kernel_rfl
theorem sz22 : (Tryz.prog.info? 22).map (·.size) = some 1 := by kernel_rfl
theorem sz23 : (Tryz.prog.info? 23).map (·.size) = some 1 := by kernel_rfl
theorem sz28 : (Tryz.prog.info? 28).map (·.size) = some 1 := by kernel_rfl
theorem sz34 : (Tryz.prog.info? 34).map (·.size) = some 3 := by kernel_rfl
theorem sz36 : (Tryz.prog.info? 36).map (·.size) = some 4 := by kernel_rfl
theorem sz54 : (Tryz.prog.info? 54).map (·.size) = some 1 := by kernel_rfl
theorem sz58 : (Tryz.prog.info? 58).map (·.size) = some 1 := by kernel_rfl
theorem sz60 : (Tryz.prog.info? 60).map (·.size) = some 4 := by kernel_rfl
theorem sz71 : (Tryz.prog.info? 71).map (·.size) = some 1 := by kernel_rfl
theorem sz74 : (Tryz.prog.info? 74).map (·.size) = some 1 := by kernel_rfl
theorem sz76 : (Tryz.prog.info? 76).map (·.size) = some 6 := by kernel_rfl
theorem sz78 : (Tryz.prog.info? 78).map (·.size) = some 1 := by kernel_rfl
theorem sz111 : (Tryz.prog.info? 111).map (·.size) = some 4 := by kernel_rfl
theorem zr3 : (Tryz.prog.info? 3).map (·.zero) = some (some (ii 0)) := by kernel_rfl
theorem zr9 : (Tryz.prog.info? 9).map (·.zero) = some (some (.string ⟨#[]⟩)) := by kernel_rfl
theorem zr34 : (Tryz.prog.info? 34).map (·.zero) = some (some (.agg #[ii 0, ii 0, ii 0])) := by kernel_rfl
theorem zr36 : (Tryz.prog.info? 36).map (·.zero) = some (some (.agg #[ii 0, ii 0, ii 0, ii 0])) := by kernel_rfl
theorem zr53 : (Tryz.prog.info? 53).map (·.zero) = some (some (.agg #[.slice none 0 0])) := by kernel_rfl
theorem zr56 : (Tryz.prog.info? 56).map (·.zero) = some (some (.agg #[.slice none 0 0, .map none])) := by kernel_rfl
theorem zr60 : (Tryz.prog.info? 60).map (·.zero) = some (some (.agg #[ii 0, .string ⟨#[]⟩, ii 0, ii 0])) := by kernel_rfl
theorem zr76 : (Tryz.prog.info? 76).map (·.zero) = some (some (.agg #[ii 0, .string ⟨#[]⟩, ii 0, ii 0, ii 0, ii 0])) := by kernel_rfl
theorem zr78 : (Tryz.prog.info? 78).map (·.zero) = some (some (.pointer none)) := by kernel_rfl
theorem zr80 : (Tryz.prog.info? 80).map (·.zero) = some (some (.agg #[.pointer none, .slice none 0 0, ii 0, ii 0, ii 0, .bool false, .bool false])) := by kernel_rfl
theorem zr111 : (Tryz.prog.info? 111).map (·.zero) = some (some (.agg #[ii 0, ii 0, ii 0, ii 0])) := by kernel_rfl
theorem zr128 : (Tryz.prog.info? 128).map (·.zero) = some (some (.agg #[.string ⟨#[]⟩, ii 0, ii 0, ii 0])) := by kernel_rfl
theorem zr156 : (Tryz.prog.info? 156).map (·.zero) = some (some (.agg #[.string ⟨#[]⟩, .string ⟨#[]⟩, .string ⟨#[]⟩, .string ⟨#[]⟩, .string ⟨#[]⟩, .string ⟨#[]⟩, .string ⟨#[]⟩, .string ⟨#[]⟩, .string ⟨#[]⟩, .string ⟨#[]⟩, .string ⟨#[]⟩, .string ⟨#[]⟩, .string ⟨#[]⟩, .string ⟨#[]⟩, .string ⟨#[]⟩, .string ⟨#[]⟩, .string ⟨#[]⟩, .string ⟨#[]⟩, .string ⟨#[]⟩, .string ⟨#[]⟩])) := by kernel_rfl

/-! ### dictumref03_letter -/
set_option maxRecDepth 100000 in
theorem dictumref03_letter.calls (o0 : Tags) (w0 : World) {a0 : UInt8} {r : Bool} (H : dictumref03_letter.f a0 = some r) (hO : ∀ b, b < w0.heap.size → o0 b < 40) :
  Calls Tryz.prog 110 [enc8 a0].toArray w0 fun e_ w_ => ∃ (o_ : Tags), e_ = .returned (one [.bool r]) ∧ Step o0 w0 o_ w_ [] := by
 have HF := Fm.refl hO []
 unfold dictumref03_letter.f at H
 refine SX.calls [enc8 a0] Tryz.func110 rfl rfl ?_
 rw [Tryz.ntmps110]
 refine WC.seq <|
  WC.region <|
  E rfl (sg (.bool false) rfl) <|
  WL.nil <|
  WC.seq <|
  WC.region <|
  E rfl (mv (enc8 a0) rfl) <|
  E rfl (ex_bin (a := enc8 a0) (b := enc8 (97 : UInt8)) (v := .bool (decide ((97 : UInt8) ≤ a0))) rfl rfl bin_geq_u8) <|
  E rfl (mv (.bool (decide ((97 : UInt8) ≤ a0))) rfl) ?_
 rcases condE H with ⟨c101, H⟩ | ⟨c101, H⟩
 ·
  refine WL.guardYes rfl rfl rfl (vb c101 rfl) <|
   OW.ex rfl (mv (enc8 a0) rfl) <|
   WL.guardYes rfl rfl rfl (vb c101 rfl) <|
   OW.ex rfl (ex_bin (a := enc8 a0) (b := enc8 (122 : UInt8)) (v := .bool (decide (a0 ≤ (122 : UInt8)))) rfl rfl bin_leq_u8) <|
   E rfl (ex_pick_t (v := .bool (decide (a0 ≤ (122 : UInt8)))) (vb c101 rfl) rfl) <|
   E rfl (mv (.bool (decide (a0 ≤ (122 : UInt8)))) rfl) ?_
  rcases condE H with ⟨c102, H⟩ | ⟨c102, H⟩
  ·
   refine WL.guardNo rfl rfl rfl (vb c102 rfl) <|
    WL.guardNo rfl rfl rfl (vb c102 rfl) <|
    WL.guardNo rfl rfl rfl (vb c102 rfl) <|
    WL.guardUn rfl rfl rfl rfl <|
    WL.guardUn rfl rfl rfl rfl <|
    WL.guardNo rfl rfl rfl (vb c102 rfl) <|
    E rfl (ex_pick_t (v := .bool true) (vb c102 rfl) rfl) <|
    E rfl (sg (.bool true) rfl) <|
    WL.nil <|
    WC.ret ?_
   obtain rfl := Option.some.inj H
   exact ⟨_, (.tmp _ rfl .nil), _, rfl, HF.out⟩
  ·
   refine WL.guardYes rfl rfl rfl (vb c102 rfl) <|
    OW.ex rfl (mv (enc8 a0) rfl) <|
    WL.guardYes rfl rfl rfl (vb c102 rfl) <|
    OW.ex rfl (ex_bin (a := enc8 a0) (b := enc8 (65 : UInt8)) (v := .bool (decide ((65 : UInt8) ≤ a0))) rfl rfl bin_geq_u8) <|
    WL.guardYes rfl rfl rfl (vb c102 rfl) <|
    OW.ex rfl (mv (.bool (decide ((65 : UInt8) ≤ a0))) rfl) ?_
   rcases condE H with ⟨c103, H⟩ | ⟨c103, H⟩
   ·
    refine WL.guardYes rfl rfl rfl (vb c103 rfl) <|
     OW.ex rfl (mv (enc8 a0) rfl) <|
     WL.guardYes rfl rfl rfl (vb c103 rfl) <|
     OW.ex rfl (ex_bin (a := enc8 a0) (b := enc8 (90 : UInt8)) (v := .bool (decide (a0 ≤ (90 : UInt8)))) rfl rfl bin_leq_u8) <|
     WL.guardYes rfl rfl rfl (vb c102 rfl) <|
     OW.ex rfl (ex_pick_t (v := .bool (decide (a0 ≤ (90 : UInt8)))) (vb c103 rfl) rfl) <|
     E rfl (ex_pick_f (v := .bool (decide (a0 ≤ (90 : UInt8)))) (vb c102 rfl) rfl) <|
     E rfl (sg (.bool (decide (a0 ≤ (90 : UInt8)))) rfl) <|
     WL.nil <|
     WC.ret ?_
    obtain rfl := Option.some.inj H
    exact ⟨_, (.tmp _ rfl .nil), _, rfl, HF.out⟩
   ·
    refine WL.guardNo rfl rfl rfl (vb c103 rfl) <|
     WL.guardNo rfl rfl rfl (vb c103 rfl) <|
     WL.guardYes rfl rfl rfl (vb c102 rfl) <|
     OW.ex rfl (ex_pick_f (v := .bool false) (vb c103 rfl) rfl) <|
     E rfl (ex_pick_f (v := .bool false) (vb c102 rfl) rfl) <|
     E rfl (sg (.bool false) rfl) <|
     WL.nil <|
     WC.ret ?_
    obtain rfl := Option.some.inj H
    exact ⟨_, (.tmp _ rfl .nil), _, rfl, HF.out⟩
 ·
  refine WL.guardNo rfl rfl rfl (vb c101 rfl) <|
   WL.guardNo rfl rfl rfl (vb c101 rfl) <|
   E rfl (ex_pick_f (v := .bool false) (vb c101 rfl) rfl) <|
   E rfl (mv (.bool false) rfl) <|
   WL.guardYes rfl rfl rfl rfl <|
   OW.ex rfl (mv (enc8 a0) rfl) <|
   WL.guardYes rfl rfl rfl rfl <|
   OW.ex rfl (ex_bin (a := enc8 a0) (b := enc8 (65 : UInt8)) (v := .bool (decide ((65 : UInt8) ≤ a0))) rfl rfl bin_geq_u8) <|
   WL.guardYes rfl rfl rfl rfl <|
   OW.ex rfl (mv (.bool (decide ((65 : UInt8) ≤ a0))) rfl) ?_
  rcases condE H with ⟨c104, H⟩ | ⟨c104, H⟩
  ·
   refine WL.guardYes rfl rfl rfl (vb c104 rfl) <|
    OW.ex rfl (mv (enc8 a0) rfl) <|
    WL.guardYes rfl rfl rfl (vb c104 rfl) <|
    OW.ex rfl (ex_bin (a := enc8 a0) (b := enc8 (90 : UInt8)) (v := .bool (decide (a0 ≤ (90 : UInt8)))) rfl rfl bin_leq_u8) <|
    WL.guardYes rfl rfl rfl rfl <|
    OW.ex rfl (ex_pick_t (v := .bool (decide (a0 ≤ (90 : UInt8)))) (vb c104 rfl) rfl) <|
    E rfl (ex_pick_f (v := .bool (decide (a0 ≤ (90 : UInt8)))) rfl rfl) <|
    E rfl (sg (.bool (decide (a0 ≤ (90 : UInt8)))) rfl) <|
    WL.nil <|
    WC.ret ?_
   obtain rfl := Option.some.inj H
   exact ⟨_, (.tmp _ rfl .nil), _, rfl, HF.out⟩
  ·
   refine WL.guardNo rfl rfl rfl (vb c104 rfl) <|
    WL.guardNo rfl rfl rfl (vb c104 rfl) <|
    WL.guardYes rfl rfl rfl rfl <|
    OW.ex rfl (ex_pick_f (v := .bool false) (vb c104 rfl) rfl) <|
    E rfl (ex_pick_f (v := .bool false) rfl rfl) <|
    E rfl (sg (.bool false) rfl) <|
    WL.nil <|
    WC.ret ?_
   obtain rfl := Option.some.inj H
   exact ⟨_, (.tmp _ rfl .nil), _, rfl, HF.out⟩

/-! ### dictumref03_Reserved -/
set_option maxRecDepth 100000 in
theorem dictumref03_Reserved.calls (o0 : Tags) (w0 : World) {r : (List (List UInt8))} (H : dictumref03_Reserved.f = some r) (hO : ∀ b, b < w0.heap.size → o0 b < 40) :
  Calls Tryz.prog 111 [].toArray w0 fun e_ w_ => ∃ (o_ : Tags) (rv0 : Value), e_ = .returned (one [rv0]) ∧ Step o0 w0 o_ w_ [] ∧ Own Rep.str 9 39 o_ w_ rv0 r := by
 have HF := Fm.refl hO []
 unfold dictumref03_Reserved.f at H
 refine SX.calls [] Tryz.func111 rfl rfl ?_
 rw [Tryz.ntmps111]
 refine WC.seq <|
  WC.region <|
  E rfl (sg (.slice none ([] : List (List UInt8)).length 0) rfl) <|
  WL.nil <|
  WC.seq <|
  WC.region <|
  WL.op rfl <|
  OW.row (r := Rep.str) (xs := [([97, 98, 111, 114, 116] : List UInt8), ([99, 97, 115, 101] : List UInt8), ([102, 97, 108, 115, 101] : List UInt8), ([102, 115, 116] : List UInt8), ([102, 117, 110] : List UInt8), ([105, 110] : List UInt8), ([105, 110, 108] : List UInt8), ([105, 110, 114] : List UInt8), ([108, 101, 116] : List UInt8), ([111, 102] : List UInt8), ([115, 110, 100] : List UInt8), ([116, 114, 117, 101] : List UInt8)]) [(0, encS ([97, 98, 111, 114, 116] : List UInt8)), (1, encS ([99, 97, 115, 101] : List UInt8)), (2, encS ([102, 97, 108, 115, 101] : List UInt8)), (3, encS ([102, 115, 116] : List UInt8)), (4, encS ([102, 117, 110] : List UInt8)), (5, encS ([105, 110] : List UInt8)), (6, encS ([105, 110, 108] : List UInt8)), (7, encS ([105, 110, 114] : List UInt8)), (8, encS ([108, 101, 116] : List UInt8)), (9, encS ([111, 102] : List UInt8)), (10, encS ([115, 110, 100] : List UInt8)), (11, encS ([116, 114, 117, 101] : List UInt8))] [[encS ([97, 98, 111, 114, 116] : List UInt8)], [encS ([99, 97, 115, 101] : List UInt8)], [encS ([102, 97, 108, 115, 101] : List UInt8)], [encS ([102, 115, 116] : List UInt8)], [encS ([102, 117, 110] : List UInt8)], [encS ([105, 110] : List UInt8)], [encS ([105, 110, 108] : List UInt8)], [encS ([105, 110, 114] : List UInt8)], [encS ([108, 101, 116] : List UInt8)], [encS ([111, 102] : List UInt8)], [encS ([115, 110, 100] : List UInt8)], [encS ([116, 114, 117, 101] : List UInt8)]] 40 HF rfl U153 sz9 zr9 rfl (evs_cons rfl (evs_cons rfl (evs_cons rfl (evs_cons rfl (evs_cons rfl (evs_cons rfl (evs_cons rfl (evs_cons rfl (evs_cons rfl (evs_cons rfl (evs_cons rfl (evs_cons rfl rfl)))))))))))) rfl rfl ⟨rfl, rfl, rfl, rfl, rfl, rfl, rfl, rfl, rfl, rfl, rfl, rfl, trivial⟩ rfl rfl rfl rfl ?_
 intro o101 w102 v104 s103 hO105
 refine E rfl (sg v104 rfl) <|
  WL.nil <|
  WC.ret ?_
 obtain rfl := Option.some.inj H
 replace hO105 := Own.renTo (j := 39) hO105 rfl
 replace HF := HF.step s103 rfl
 replace HF := HF.ren (i := 40) (j := 39) rfl
 exact ⟨_, (.tmp _ rfl .nil), _, v104, rfl, HF.out, hO105⟩

/-! ### dictumref03_Word -/
set_option maxRecDepth 100000 in
theorem dictumref03_Word.calls (k : Nat) (o0 : Tags) (w0 : World) {a0 : List UInt8} {r : Bool} (H : dictumref03_Word.f k a0 = some r) (hO : ∀ b, b < w0.heap.size → o0 b < 40) :
  Calls Tryz.prog 88 [encS a0].toArray w0 fun e_ w_ => ∃ (o_ : Tags), e_ = .returned (one [.bool r]) ∧ Step o0 w0 o_ w_ [] := by
 have HF := Fm.refl hO []
 unfold dictumref03_Word.f at H
 refine SX.calls [encS a0] Tryz.func88 rfl rfl ?_
 rw [Tryz.ntmps88]
 refine WC.seq <|
  WC.region <|
  E rfl (sg (.bool false) rfl) <|
  WL.nil <|
  WC.seq ?_
 obtain ⟨z102, hz102, H⟩ := bindE H
 refine WC.cut (fun ρ_ w_ => ∃ (o_ : Tags), Fm o0 w0 o_ w_ [] ∧ ρ_ 0 = encS a0 ∧ ρ_ 2 = .bool false ∧ ρ_ 19 = .bool z102) ?case103 ?_
 case case103 =>
  rintro ρ106 w104 ⟨o105, HF, s0_100, s2_100, s19_101⟩
  rcases condE H with ⟨c107, H⟩ | ⟨c107, H⟩
  ·
   refine WC.cond_t (vb c107 s19_101) <|
    WC.seq <|
    WC.region <|
    E rfl (sg (.bool false) rfl) <|
    WL.nil <|
    WC.ret ?_
   obtain rfl := Option.some.inj H
   exact ⟨_, (.tmp _ rfl .nil), _, rfl, HF.out⟩
  ·
   refine WC.cond_f (vb c107 s19_101) <|
    WC.skip <|
    WC.seq <|
    WC.seq <|
    WC.region <|
    E rfl (sg (ii 1) rfl) <|
    WL.nil ?_
   obtain ⟨z109, hz109, H⟩ := bindE H
   refine WC.for (fun k_ ρ_ w_ => ∃ (o_ : Tags) (x108 : Int), Fm o0 w0 o_ w_ [] ∧ ρ_ 0 = encS a0 ∧ ρ_ 2 = .bool false ∧ ρ_ 3 = ii x108 ∧ dictumref03_Word.l1 k a0 k_ x108 = some z109) k (fun ρ_ w_ => ∃ (o_ : Tags), Fm o0 w0 o_ w_ [] ∧ ρ_ 0 = encS a0 ∧ ρ_ 2 = .bool false ∧ z109 = .inr ()) ⟨_, 1, HF, s0_100, s2_100, rfl, hz109⟩ ?case110 ?_
   case case110 =>
    rintro ρ141 w142 ⟨o143, HF, s0_108, s2_108, rfl⟩
    dsimp only at H
    refine WC.seq <|
     WC.region ?_
    obtain ⟨z144, hz144, H⟩ := bindE H
    refine WL.op rfl <|
     OW.call [] rfl Tryz.func111 (by kernel_rfl) (by kernel_rfl) rfl (dictumref03_Reserved.calls _ _ hz144 (HF.ten (V := [0]) (L := []) rfl) ) ?_
    rintro _ w145 ⟨o146, v148, rfl, s147, hO149⟩
    refine ⟨_, rfl, ?_⟩
    replace hO149 := Own.un9 (J := [40]) 0 hO149 rfl s147 rfl rfl
    replace s147 := un_stepL (J := [40]) (L' := []) s147 rfl rfl
    refine E rfl (sg v148 rfl) <|
     WL.nil <|
     WC.seq <|
     WC.seq <|
     WC.region <|
     E rfl (sg (ii 0) rfl) <|
     WL.nil ?_
    obtain ⟨z151, hz151, H⟩ := bindE H
    replace HF := HF.step s147 rfl
    refine WC.for (fun k_ ρ_ w_ => ∃ (o_ : Tags) (x150 : Int), Fm o0 w0 o_ w_ [] ∧ Own Rep.str 9 40 o_ w_ v148 z144 ∧ ρ_ 0 = encS a0 ∧ ρ_ 2 = .bool false ∧ ρ_ 4 = v148 ∧ ρ_ 5 = ii x150 ∧ dictumref03_Word.l2 k a0 z144 k_ x150 = some z151) k (fun ρ_ w_ => ∃ (o_ : Tags), Fm o0 w0 o_ w_ [] ∧ ρ_ 2 = .bool false ∧ z151 = .inr ()) ⟨_, 0, HF, hO149, s0_108, s2_108, rfl, rfl, hz151⟩ ?case152 ?_
    case case152 =>
     rintro ρ173 w174 ⟨o175, HF, s2_150, rfl⟩
     dsimp only at H
     refine WC.seq <|
      WC.region <|
      E rfl (sg (.bool true) rfl) <|
      WL.nil <|
      WC.ret ?_
     obtain rfl := Option.some.inj H
     exact ⟨_, (.tmp _ rfl .nil), _, rfl, HF.out⟩
    have Ho153 := H
    rintro k154 ρ155 w156 ⟨o157, x150, HF, hO149, s0_149, s2_149, s4_149, s5_150, H⟩
    cases k154 with
    | zero => cases H
    | succ k154 =>
    rw [dictumref03_Word.l2.eq_2] at H
    refine WC.seq <|
     WC.seq <|
     WC.region <|
     E rfl (mv (ii x150) s5_150) <|
     E rfl (mv v148 s4_149) ?_
    obtain ⟨A158, c159, q160⟩ := hO149.slice
    refine E rfl (ex_len_slice ((show _ = (v148 : Value) from rfl).trans q160) U153) <|
     E rfl (e2 bin_lss rfl rfl) <|
     WL.nil ?_
    rcases condE H with ⟨c161, H⟩ | ⟨c161, H⟩
    ·
     refine WC.cond_t (vb c161 rfl) <|
      WC.skip <|
      WC.seq <|
      WC.block <|
      WC.seq <|
      WC.region <|
      E rfl (mv v148 s4_149) <|
      E rfl (mv (ii x150) s5_150) ?_
     obtain ⟨x162, hx162, H⟩ := bindE H
     obtain ⟨A167, c168, q169_⟩ := hO149.slice
     obtain ⟨ad163, e164, g165, g166, cell170⟩ := Row.ixS (Own.rowOf hO149 q169_) hx162
     refine E rfl (ex_indexAddr (i := x150) ((show _ = (v148 : Value) from rfl).trans q169_) e164 rfl U153 sz9 g165 g166) <|
      E rfl (ex_load1 (v := encS x162) rfl U9 rfl cell170) <|
      E rfl (mv (encS a0) s0_149) <|
      E rfl (e2 bin_eql_str rfl rfl) <|
      WL.nil ?_
     rcases condE H with ⟨c172, H⟩ | ⟨c172, H⟩
     ·
      refine WC.cond_t (vb c172 rfl) <|
       WC.seq <|
       WC.region <|
       E rfl (sg (.bool false) rfl) <|
       WL.nil <|
       WC.ret ?_
      obtain rfl := Option.some.inj H
      replace H := Ho153
      dsimp only at H
      obtain rfl := Option.some.inj H
      exact ⟨_, (.tmp _ rfl .nil), _, rfl, HF.out⟩
     ·
      refine WC.cond_f (vb c172 rfl) <|
       WC.skip <|
       WC.region <|
       E rfl (mv (ii x150) s5_150) <|
       E rfl (e2 bin_add64 rfl rfl) <|
       E rfl (sg (ii (wrap64 (x150 + 1))) rfl) <|
       WL.nil ?_
      exact ⟨k154, Nat.lt_succ_self _, ⟨_, wrap64 (x150 + 1), HF, hO149, s0_149, s2_149, s4_149, rfl, H⟩⟩
    ·
     refine WC.cond_f (vb c161 rfl) <|
      WC.exit ?_
     obtain rfl := Option.some.inj H
     exact ⟨_, HF, s2_149, rfl⟩
   have Ho111 := H
   rintro k112 ρ113 w114 ⟨o115, x108, HF, s0_107, s2_107, s3_108, H⟩
   cases k112 with
   | zero => cases H
   | succ k112 =>
   rw [dictumref03_Word.l1.eq_2] at H
   refine WC.seq <|
    WC.seq <|
    WC.region <|
    E rfl (mv (ii x108) s3_108) <|
    E rfl (mv (encS a0) s0_107) <|
    E rfl (ex_len_str (s := a0) rfl U9) <|
    E rfl (e2 bin_lss rfl rfl) <|
    WL.nil ?_
   rcases condE H with ⟨c116, H⟩ | ⟨c116, H⟩
   ·
    refine WC.cond_t (vb c116 rfl) <|
     WC.skip <|
     WC.seq <|
     WC.block ?_
    obtain ⟨z118, hz118, H⟩ := bindE H
    refine WC.cut (fun ρ_ w_ => ∃ (o_ : Tags), Fm o0 w0 o_ w_ [] ∧ ρ_ 0 = encS a0 ∧ ρ_ 2 = .bool false ∧ ρ_ 3 = ii x108 ∧ ρ_ 55 = .bool z118) ?case119 ?_
    case case119 =>
     rintro ρ122 w120 ⟨o121, HF, s0_116, s2_116, s3_116, s55_117⟩
     rcases condE H with ⟨c123, H⟩ | ⟨c123, H⟩
     ·
      refine WC.cond_t (vb c123 s55_117) <|
       WC.seq <|
       WC.region <|
       E rfl (sg (.bool false) rfl) <|
       WL.nil <|
       WC.ret ?_
      obtain rfl := Option.some.inj H
      replace H := Ho111
      dsimp only at H
      obtain rfl := Option.some.inj H
      exact ⟨_, (.tmp _ rfl .nil), _, rfl, HF.out⟩
     ·
      refine WC.cond_f (vb c123 s55_117) <|
       WC.skip <|
       WC.region <|
       E rfl (mv (ii x108) s3_116) <|
       E rfl (e2 bin_add64 rfl rfl) <|
       E rfl (sg (ii (wrap64 (x108 + 1))) rfl) <|
       WL.nil ?_
      exact ⟨k112, Nat.lt_succ_self _, ⟨_, wrap64 (x108 + 1), HF, s0_116, s2_116, rfl, H⟩⟩
    have Ho124 := H
    replace H := hz118
    refine WC.region <|
     E rfl (mv (encS a0) s0_107) <|
     E rfl (mv (ii x108) s3_108) ?_
    obtain ⟨x125, hx125, H⟩ := bindE H
    refine E rfl (ex_index_str (i := x108) rfl rfl U9 (ix_some hx125).1 (ix_some hx125).2.2) ?_
    obtain ⟨z126, hz126, H⟩ := bindE H
    refine WL.op rfl <|
     OW.call [enc8 x125] rfl Tryz.func110 (by kernel_rfl) (by kernel_rfl) (map_cons' rfl rfl) (dictumref03_letter.calls _ _ hz126 (HF.ten (V := [0]) (L := []) rfl) ) ?_
    rintro _ w127 ⟨o128, rfl, s129⟩
    refine ⟨_, rfl, ?_⟩
    replace s129 := un_stepL (J := []) (L' := []) s129 rfl rfl
    refine E rfl (ex_not (b := z126) rfl) <|
     E rfl (mv (.bool (!z126)) rfl) ?_
    rcases condE H with ⟨c130, H⟩ | ⟨c130, H⟩
    ·
     refine WL.guardYes rfl rfl rfl (vb c130 rfl) <|
      OW.ex rfl (mv (encS a0) s0_107) <|
      WL.guardYes rfl rfl rfl (vb c130 rfl) <|
      OW.ex rfl (mv (ii x108) s3_108) <|
      WL.guardYes rfl rfl rfl (vb c130 rfl) ?_
     obtain ⟨x131, hx131, H⟩ := bindE H
     refine OW.ex rfl (ex_index_str (i := x108) rfl rfl U9 (ix_some hx131).1 (ix_some hx131).2.2) <|
      WL.guardYes rfl rfl rfl (vb c130 rfl) <|
      OW.ex rfl (ex_bin (a := enc8 x131) (b := enc8 (48 : UInt8)) (v := .bool (decide ((48 : UInt8) ≤ x131))) rfl rfl bin_geq_u8) <|
      WL.guardYes rfl rfl rfl (vb c130 rfl) <|
      OW.ex rfl (mv (.bool (decide ((48 : UInt8) ≤ x131))) rfl) ?_
     rcases condE H with ⟨c132, H⟩ | ⟨c132, H⟩
     ·
      refine WL.guardYes rfl rfl rfl (vb c132 rfl) <|
       OW.ex rfl (mv (encS a0) s0_107) <|
       WL.guardYes rfl rfl rfl (vb c132 rfl) <|
       OW.ex rfl (mv (ii x108) s3_108) <|
       WL.guardYes rfl rfl rfl (vb c132 rfl) ?_
      obtain ⟨x133, hx133, H⟩ := bindE H
      refine OW.ex rfl (ex_index_str (i := x108) rfl rfl U9 (ix_some hx133).1 (ix_some hx133).2.2) <|
       WL.guardYes rfl rfl rfl (vb c132 rfl) <|
       OW.ex rfl (ex_bin (a := enc8 x133) (b := enc8 (57 : UInt8)) (v := .bool (decide (x133 ≤ (57 : UInt8)))) rfl rfl bin_leq_u8) <|
       WL.guardYes rfl rfl rfl (vb c130 rfl) <|
       OW.ex rfl (ex_pick_t (v := .bool (decide (x133 ≤ (57 : UInt8)))) (vb c132 rfl) rfl) <|
       WL.guardYes rfl rfl rfl (vb c130 rfl) <|
       OW.ex rfl (ex_not (b := (decide (x133 ≤ (57 : UInt8)))) rfl) <|
       E rfl (ex_pick_t (v := .bool (!(decide (x133 ≤ (57 : UInt8))))) (vb c130 rfl) rfl) <|
       E rfl (mv (.bool (!(decide (x133 ≤ (57 : UInt8))))) rfl) ?_
      rcases condE H with ⟨c134, H⟩ | ⟨c134, H⟩
      ·
       refine WL.guardYes rfl rfl rfl (vb c134 rfl) <|
        OW.ex rfl (mv (encS a0) s0_107) <|
        WL.guardYes rfl rfl rfl (vb c134 rfl) <|
        OW.ex rfl (mv (ii x108) s3_108) <|
        WL.guardYes rfl rfl rfl (vb c134 rfl) ?_
       obtain ⟨x135, hx135, H⟩ := bindE H
       refine OW.ex rfl (ex_index_str (i := x108) rfl rfl U9 (ix_some hx135).1 (ix_some hx135).2.2) <|
        WL.guardYes rfl rfl rfl (vb c134 rfl) <|
        OW.ex rfl (ex_bin (a := enc8 x135) (b := enc8 (95 : UInt8)) (v := .bool (!(x135 == (95 : UInt8)))) rfl rfl bin_neq_u8) <|
        E rfl (ex_pick_t (v := .bool (!(x135 == (95 : UInt8)))) (vb c134 rfl) rfl) <|
        E rfl (mv (.bool (!(x135 == (95 : UInt8)))) rfl) ?_
       rcases condE H with ⟨c136, H⟩ | ⟨c136, H⟩
       ·
        refine WL.guardYes rfl rfl rfl (vb c136 rfl) <|
         OW.ex rfl (mv (encS a0) s0_107) <|
         WL.guardYes rfl rfl rfl (vb c136 rfl) <|
         OW.ex rfl (mv (ii x108) s3_108) <|
         WL.guardYes rfl rfl rfl (vb c136 rfl) ?_
        obtain ⟨x137, hx137, H⟩ := bindE H
        refine OW.ex rfl (ex_index_str (i := x108) rfl rfl U9 (ix_some hx137).1 (ix_some hx137).2.2) <|
         WL.guardYes rfl rfl rfl (vb c136 rfl) <|
         OW.ex rfl (ex_bin (a := enc8 x137) (b := enc8 (39 : UInt8)) (v := .bool (!(x137 == (39 : UInt8)))) rfl rfl bin_neq_u8) <|
         E rfl (ex_pick_t (v := .bool (!(x137 == (39 : UInt8)))) (vb c136 rfl) rfl) <|
         WL.nil ?_
        obtain rfl := Option.some.inj H
        replace HF := HF.step s129 rfl
        exact ⟨_, HF, s0_107, s2_107, s3_108, rfl⟩
       ·
        refine WL.guardNo rfl rfl rfl (vb c136 rfl) <|
         WL.guardNo rfl rfl rfl (vb c136 rfl) <|
         WL.guardNo rfl rfl rfl (vb c136 rfl) <|
         WL.guardNo rfl rfl rfl (vb c136 rfl) <|
         E rfl (ex_pick_f (v := .bool false) (vb c136 rfl) rfl) <|
         WL.nil ?_
        obtain rfl := Option.some.inj H
        replace HF := HF.step s129 rfl
        exact ⟨_, HF, s0_107, s2_107, s3_108, rfl⟩
      ·
       refine WL.guardNo rfl rfl rfl (vb c134 rfl) <|
        WL.guardNo rfl rfl rfl (vb c134 rfl) <|
        WL.guardNo rfl rfl rfl (vb c134 rfl) <|
        WL.guardNo rfl rfl rfl (vb c134 rfl) <|
        E rfl (ex_pick_f (v := .bool false) (vb c134 rfl) rfl) <|
        E rfl (mv (.bool false) rfl) <|
        WL.guardNo rfl rfl rfl rfl <|
        WL.guardNo rfl rfl rfl rfl <|
        WL.guardNo rfl rfl rfl rfl <|
        WL.guardNo rfl rfl rfl rfl <|
        E rfl (ex_pick_f (v := .bool false) rfl rfl) <|
        WL.nil ?_
       obtain rfl := Option.some.inj H
       replace HF := HF.step s129 rfl
       exact ⟨_, HF, s0_107, s2_107, s3_108, rfl⟩
     ·
      refine WL.guardNo rfl rfl rfl (vb c132 rfl) <|
       WL.guardNo rfl rfl rfl (vb c132 rfl) <|
       WL.guardNo rfl rfl rfl (vb c132 rfl) <|
       WL.guardNo rfl rfl rfl (vb c132 rfl) <|
       WL.guardYes rfl rfl rfl (vb c130 rfl) <|
       OW.ex rfl (ex_pick_f (v := .bool false) (vb c132 rfl) rfl) <|
       WL.guardYes rfl rfl rfl (vb c130 rfl) <|
       OW.ex rfl (ex_not (b := false) rfl) <|
       E rfl (ex_pick_t (v := .bool true) (vb c130 rfl) rfl) <|
       E rfl (mv (.bool true) rfl) <|
       WL.guardYes rfl rfl rfl rfl <|
       OW.ex rfl (mv (encS a0) s0_107) <|
       WL.guardYes rfl rfl rfl rfl <|
       OW.ex rfl (mv (ii x108) s3_108) <|
       WL.guardYes rfl rfl rfl rfl ?_
      obtain ⟨x138, hx138, H⟩ := bindE H
      refine OW.ex rfl (ex_index_str (i := x108) rfl rfl U9 (ix_some hx138).1 (ix_some hx138).2.2) <|
       WL.guardYes rfl rfl rfl rfl <|
       OW.ex rfl (ex_bin (a := enc8 x138) (b := enc8 (95 : UInt8)) (v := .bool (!(x138 == (95 : UInt8)))) rfl rfl bin_neq_u8) <|
       E rfl (ex_pick_t (v := .bool (!(x138 == (95 : UInt8)))) rfl rfl) <|
       E rfl (mv (.bool (!(x138 == (95 : UInt8)))) rfl) ?_
      rcases condE H with ⟨c139, H⟩ | ⟨c139, H⟩
      ·
       refine WL.guardYes rfl rfl rfl (vb c139 rfl) <|
        OW.ex rfl (mv (encS a0) s0_107) <|
        WL.guardYes rfl rfl rfl (vb c139 rfl) <|
        OW.ex rfl (mv (ii x108) s3_108) <|
        WL.guardYes rfl rfl rfl (vb c139 rfl) ?_
       obtain ⟨x140, hx140, H⟩ := bindE H
       refine OW.ex rfl (ex_index_str (i := x108) rfl rfl U9 (ix_some hx140).1 (ix_some hx140).2.2) <|
        WL.guardYes rfl rfl rfl (vb c139 rfl) <|
        OW.ex rfl (ex_bin (a := enc8 x140) (b := enc8 (39 : UInt8)) (v := .bool (!(x140 == (39 : UInt8)))) rfl rfl bin_neq_u8) <|
        E rfl (ex_pick_t (v := .bool (!(x140 == (39 : UInt8)))) (vb c139 rfl) rfl) <|
        WL.nil ?_
       obtain rfl := Option.some.inj H
       replace HF := HF.step s129 rfl
       exact ⟨_, HF, s0_107, s2_107, s3_108, rfl⟩
      ·
       refine WL.guardNo rfl rfl rfl (vb c139 rfl) <|
        WL.guardNo rfl rfl rfl (vb c139 rfl) <|
        WL.guardNo rfl rfl rfl (vb c139 rfl) <|
        WL.guardNo rfl rfl rfl (vb c139 rfl) <|
        E rfl (ex_pick_f (v := .bool false) (vb c139 rfl) rfl) <|
        WL.nil ?_
       obtain rfl := Option.some.inj H
       replace HF := HF.step s129 rfl
       exact ⟨_, HF, s0_107, s2_107, s3_108, rfl⟩
    ·
     refine WL.guardNo rfl rfl rfl (vb c130 rfl) <|
      WL.guardNo rfl rfl rfl (vb c130 rfl) <|
      WL.guardNo rfl rfl rfl (vb c130 rfl) <|
      WL.guardNo rfl rfl rfl (vb c130 rfl) <|
      WL.guardNo rfl rfl rfl (vb c130 rfl) <|
      WL.guardUn rfl rfl rfl rfl <|
      WL.guardUn rfl rfl rfl rfl <|
      WL.guardUn rfl rfl rfl rfl <|
      WL.guardUn rfl rfl rfl rfl <|
      WL.guardNo rfl rfl rfl (vb c130 rfl) <|
      WL.guardNo rfl rfl rfl (vb c130 rfl) <|
      E rfl (ex_pick_f (v := .bool false) (vb c130 rfl) rfl) <|
      E rfl (mv (.bool false) rfl) <|
      WL.guardNo rfl rfl rfl rfl <|
      WL.guardNo rfl rfl rfl rfl <|
      WL.guardNo rfl rfl rfl rfl <|
      WL.guardNo rfl rfl rfl rfl <|
      E rfl (ex_pick_f (v := .bool false) rfl rfl) <|
      E rfl (mv (.bool false) rfl) <|
      WL.guardNo rfl rfl rfl rfl <|
      WL.guardNo rfl rfl rfl rfl <|
      WL.guardNo rfl rfl rfl rfl <|
      WL.guardNo rfl rfl rfl rfl <|
      E rfl (ex_pick_f (v := .bool false) rfl rfl) <|
      WL.nil ?_
     obtain rfl := Option.some.inj H
     replace HF := HF.step s129 rfl
     exact ⟨_, HF, s0_107, s2_107, s3_108, rfl⟩
   ·
    refine WC.cond_f (vb c116 rfl) <|
     WC.exit ?_
    obtain rfl := Option.some.inj H
    exact ⟨_, HF, s0_107, s2_107, rfl⟩
 have Ho176 := H
 replace H := hz102
 refine WC.region <|
  E rfl (mv (encS a0) rfl) <|
  E rfl (ex_len_str (s := a0) rfl U9) <|
  E rfl (e2 bin_lss rfl rfl) <|
  E rfl (mv (.bool (decide ((a0.length : Int) < 1))) rfl) ?_
 rcases condE H with ⟨c177, H⟩ | ⟨c177, H⟩
 ·
  refine WL.guardNo rfl rfl rfl (vb c177 rfl) <|
   WL.guardNo rfl rfl rfl (vb c177 rfl) <|
   WL.guardNo rfl rfl rfl (vb c177 rfl) <|
   E rfl (ex_pick_t (v := .bool true) (vb c177 rfl) rfl) <|
   E rfl (mv (.bool true) rfl) <|
   WL.guardNo rfl rfl rfl rfl <|
   WL.guardNo rfl rfl rfl rfl <|
   WL.guardNo rfl rfl rfl rfl <|
   WL.guardNo rfl rfl rfl rfl <|
   E rfl (ex_pick_t (v := .bool true) rfl rfl) <|
   WL.nil ?_
  obtain rfl := Option.some.inj H
  exact ⟨_, HF, rfl, rfl, rfl⟩
 ·
  refine WL.guardYes rfl rfl rfl (vb c177 rfl) <|
   OW.ex rfl (mv (encS a0) rfl) <|
   WL.guardYes rfl rfl rfl (vb c177 rfl) <|
   OW.ex rfl (ex_len_str (s := a0) rfl U9) <|
   WL.guardYes rfl rfl rfl (vb c177 rfl) <|
   OW.ex rfl (e2 bin_gtr rfl rfl) <|
   E rfl (ex_pick_f (v := .bool (decide ((a0.length : Int) > 31))) (vb c177 rfl) rfl) <|
   E rfl (mv (.bool (decide ((a0.length : Int) > 31))) rfl) ?_
  rcases condE H with ⟨c178, H⟩ | ⟨c178, H⟩
  ·
   refine WL.guardNo rfl rfl rfl (vb c178 rfl) <|
    WL.guardNo rfl rfl rfl (vb c178 rfl) <|
    WL.guardNo rfl rfl rfl (vb c178 rfl) <|
    WL.guardNo rfl rfl rfl (vb c178 rfl) <|
    E rfl (ex_pick_t (v := .bool true) (vb c178 rfl) rfl) <|
    WL.nil ?_
   obtain rfl := Option.some.inj H
   exact ⟨_, HF, rfl, rfl, rfl⟩
  ·
   refine WL.guardYes rfl rfl rfl (vb c178 rfl) <|
    OW.ex rfl (mv (encS a0) rfl) <|
    WL.guardYes rfl rfl rfl (vb c178 rfl) ?_
   obtain ⟨x179, hx179, H⟩ := bindE H
   refine OW.ex rfl (ex_index_str (i := (0 : Int)) rfl rfl U9 (ix_some hx179).1 (ix_some hx179).2.2) <|
    WL.guardYes rfl rfl rfl (vb c178 rfl) ?_
   obtain ⟨z180, hz180, H⟩ := bindE H
   refine OW.call [enc8 x179] rfl Tryz.func110 (by kernel_rfl) (by kernel_rfl) (map_cons' rfl rfl) (dictumref03_letter.calls _ _ hz180 (HF.ten (V := [0]) (L := []) rfl) ) ?_
   rintro _ w181 ⟨o182, rfl, s183⟩
   refine ⟨_, rfl, ?_⟩
   replace s183 := un_stepL (J := []) (L' := []) s183 rfl rfl
   refine WL.guardYes rfl rfl rfl (vb c178 rfl) <|
    OW.ex rfl (ex_not (b := z180) rfl) <|
    E rfl (ex_pick_f (v := .bool (!z180)) (vb c178 rfl) rfl) <|
    WL.nil ?_
   obtain rfl := Option.some.inj H
   replace HF := HF.step s183 rfl
   exact ⟨_, HF, rfl, rfl, rfl⟩

/-! ### dictumref03_T_Has -/
set_option maxRecDepth 100000 in
theorem dictumref03_T_Has.calls (o0 : Tags) (w0 : World) (pb0 : Nat) (pv0_0 : Value) {a0 : T_dictumref03_T} {a1 : Int} {r : Bool} (H : dictumref03_T_Has.f a0 a1 = some r) (hO : ∀ b, b < w0.heap.size → o0 b < 40) (hB0 : Bk o0 w0 2 pb0 [pv0_0] 53) (hO0_0 : Own T_api_Node.rep 60 3 o0 w0 pv0_0 a0.f_N) :
  Calls Tryz.prog 42 [pp pb0 0, ii a1].toArray w0 fun e_ w_ => ∃ (o_ : Tags), e_ = .returned (one [.bool r]) ∧ Step o0 w0 o_ w_ [] := by
 have HF := Fm.refl hO []
 unfold dictumref03_T_Has.f at H
 refine SX.calls [pp pb0 0, ii a1] Tryz.func42 rfl rfl ?_
 rw [Tryz.ntmps42]
 refine WC.seq <|
  WC.region <|
  E rfl (sg (.bool false) rfl) <|
  WL.nil <|
  WC.seq <|
  WC.region <|
  E rfl (mv (ii a1) rfl) <|
  E rfl (e2 bin_geq rfl rfl) <|
  E rfl (mv (.bool (decide (a1 ≥ 0))) rfl) ?_
 rcases condE H with ⟨c101, H⟩ | ⟨c101, H⟩
 ·
  refine WL.guardYes rfl rfl rfl (vb c101 rfl) <|
   OW.ex rfl (mv (ii a1) rfl) <|
   WL.guardYes rfl rfl rfl (vb c101 rfl) <|
   OW.ex rfl (mv (pp pb0 0) rfl) <|
   WL.guardYes rfl rfl rfl (vb c101 rfl) <|
   OW.ex rfl (ex_nilCheck rfl) <|
   WL.guardYes rfl rfl rfl (vb c101 rfl) <|
   OW.ex rfl (ex_fieldAddr rfl U53 rfl sz22) <|
   WL.guardYes rfl rfl rfl (vb c101 rfl) <|
   OW.ex rfl (ex_load1 rfl U22 rfl (hB0.cell rfl)) <|
   WL.guardYes rfl rfl rfl (vb c101 rfl) ?_
  obtain ⟨A102, c103, q104⟩ := hO0_0.slice
  refine OW.ex rfl (ex_len_slice ((show _ = (pv0_0 : Value) from rfl).trans q104) U22) <|
   WL.guardYes rfl rfl rfl (vb c101 rfl) <|
   OW.ex rfl (e2 bin_lss rfl rfl) <|
   E rfl (ex_pick_t (v := .bool (decide (a1 < (a0.f_N.length : Int)))) (vb c101 rfl) rfl) <|
   E rfl (sg (.bool (decide (a1 < (a0.f_N.length : Int)))) rfl) <|
   WL.nil <|
   WC.ret ?_
  obtain rfl := Option.some.inj H
  exact ⟨_, (.tmp _ rfl .nil), _, rfl, HF.out⟩
 ·
  refine WL.guardNo rfl rfl rfl (vb c101 rfl) <|
   WL.guardNo rfl rfl rfl (vb c101 rfl) <|
   WL.guardNo rfl rfl rfl (vb c101 rfl) <|
   WL.guardNo rfl rfl rfl (vb c101 rfl) <|
   WL.guardNo rfl rfl rfl (vb c101 rfl) <|
   WL.guardNo rfl rfl rfl (vb c101 rfl) <|
   WL.guardNo rfl rfl rfl (vb c101 rfl) <|
   E rfl (ex_pick_f (v := .bool false) (vb c101 rfl) rfl) <|
   E rfl (sg (.bool false) rfl) <|
   WL.nil <|
   WC.ret ?_
  obtain rfl := Option.some.inj H
  exact ⟨_, (.tmp _ rfl .nil), _, rfl, HF.out⟩

/-! ### dictumref03_T_Find -/
set_option maxRecDepth 100000 in
theorem dictumref03_T_Find.calls (k : Nat) (o0 : Tags) (w0 : World) (pb0 : Nat) (pv0_0 : Value) {a0 : T_dictumref03_T} {a1 : T_api_Node} {r : Int × Bool} (H : dictumref03_T_Find.f k a0 a1 = some r) (hO : ∀ b, b < w0.heap.size → o0 b < 40) (hB0 : Bk o0 w0 2 pb0 [pv0_0] 53) (hO0_0 : Own T_api_Node.rep 60 3 o0 w0 pv0_0 a0.f_N) :
  Calls Tryz.prog 89 [pp pb0 0, .agg #[ii a1.f_Kind, encS a1.f_Name, ii a1.f_L, ii a1.f_R]].toArray w0 fun e_ w_ => ∃ (o_ : Tags), e_ = .returned (one [ii r.1, .bool r.2]) ∧ Step o0 w0 o_ w_ [] := by
 have HF := Fm.refl hO []
 unfold dictumref03_T_Find.f at H
 refine SX.calls [pp pb0 0, .agg #[ii a1.f_Kind, encS a1.f_Name, ii a1.f_L, ii a1.f_R]] Tryz.func89 rfl rfl ?_
 rw [Tryz.ntmps89]
 refine WC.seq <|
  WC.region <|
  WL.op rfl <|
  OW.box' [ii a1.f_Kind, encS a1.f_Name, ii a1.f_L, ii a1.f_R] 40 HF rfl ((congrArg Value.cells (show ev _ _ = (.agg #[ii a1.f_Kind, encS a1.f_Name, ii a1.f_L, ii a1.f_R] : Value) from rfl)).trans rfl) ?_
 intro o102 w103 b101 s104 hB105
 refine E rfl (sg (ii 0) rfl) <|
  E rfl (sg (.bool false) rfl) <|
  WL.nil <|
  WC.seq <|
  WC.seq <|
  WC.region <|
  E rfl (sg (ii 0) rfl) <|
  WL.nil ?_
 obtain ⟨z107, hz107, H⟩ := bindE H
 replace hO0_0 := hO0_0.step s104 rfl rfl
 replace hB0 := hB0.step s104 rfl
 replace HF := HF.step s104 rfl
 refine WC.for (fun k_ ρ_ w_ => ∃ (o_ : Tags) (x106 : Int), Fm o0 w0 o_ w_ [] ∧ Bk o_ w_ 2 pb0 [pv0_0] 53 ∧ Own T_api_Node.rep 60 3 o_ w_ pv0_0 a0.f_N ∧ Bk o_ w_ 40 b101 [ii a1.f_Kind, encS a1.f_Name, ii a1.f_L, ii a1.f_R] 60 ∧ ρ_ 0 = pp pb0 0 ∧ ρ_ 3 = pp b101 0 ∧ ρ_ 4 = ii 0 ∧ ρ_ 5 = .bool false ∧ ρ_ 6 = ii x106 ∧ dictumref03_T_Find.l1 k a0 a1 k_ x106 = some z107) k (fun ρ_ w_ => ∃ (o_ : Tags), Fm o0 w0 o_ w_ [] ∧ Bk o_ w_ 2 pb0 [pv0_0] 53 ∧ Own T_api_Node.rep 60 3 o_ w_ pv0_0 a0.f_N ∧ ρ_ 4 = ii 0 ∧ ρ_ 5 = .bool false ∧ z107 = .inr ()) ⟨_, 0, HF, hB0, hO0_0, hB105, rfl, rfl, rfl, rfl, rfl, hz107⟩ ?case108 ?_
 case case108 =>
  rintro ρ134 w135 ⟨o136, HF, hB0, hO0_0, s4_106, s5_106, rfl⟩
  dsimp only at H
  refine WC.seq <|
   WC.region <|
   E rfl (sg (ii 0) rfl) <|
   E rfl (sg (.bool false) rfl) <|
   WL.nil <|
   WC.ret ?_
  obtain rfl := Option.some.inj H
  exact ⟨_, (.tmp _ rfl (.tmp _ rfl .nil)), _, rfl, HF.out⟩
 have Ho109 := H
 rintro k110 ρ111 w112 ⟨o113, x106, HF, hB0, hO0_0, hB105, s0_105, s3_105, s4_105, s5_105, s6_106, H⟩
 cases k110 with
 | zero => cases H
 | succ k110 =>
 rw [dictumref03_T_Find.l1.eq_2] at H
 refine WC.seq <|
  WC.seq <|
  WC.region <|
  E rfl (mv (ii x106) s6_106) <|
  E rfl (mv (pp pb0 0) s0_105) <|
  E rfl (ex_nilCheck rfl) <|
  E rfl (ex_fieldAddr rfl U53 rfl sz22) <|
  E rfl (ex_load1 rfl U22 rfl (hB0.cell rfl)) ?_
 obtain ⟨A114, c115, q116⟩ := hO0_0.slice
 refine E rfl (ex_len_slice ((show _ = (pv0_0 : Value) from rfl).trans q116) U22) <|
  E rfl (e2 bin_lss rfl rfl) <|
  WL.nil ?_
 rcases condE H with ⟨c117, H⟩ | ⟨c117, H⟩
 ·
  refine WC.cond_t (vb c117 rfl) <|
   WC.skip <|
   WC.seq <|
   WC.block <|
   WC.seq <|
   WC.regionD' HF [] 9 9 (by kernel_rfl) rfl ?_
  intro w118 s119
  replace hB0 := hB0.step s119 rfl
  have hB0D := hB0
  replace hO0_0 := hO0_0.step s119 rfl rfl
  have hO0_0D := hO0_0
  replace hB105 := hB105.step s119 rfl
  have hB105D := hB105
  replace HF := HF.step s119 rfl
  have sR := HF.here []
  refine WA.seq [0, 1, 2, 3, 4, 5, 6, 7, 8] (lb 9 511) 0 (by kernel_rfl) rfl ⟨_, sR⟩ <|
   X1 rfl (fun w_ hS_ => ex_move (v := pp pb0 0) s0_105) <|
   X1 rfl (fun w_ hS_ => ex_nilCheck rfl) <|
   X1 rfl (fun w_ hS_ => ex_fieldAddr rfl U53 rfl sz22) <|
   X1 rfl (fun w_ hS_ => ex_load1 (v := pv0_0) rfl U22 rfl ((hB0D.step hS_.choose_spec rfl).cell rfl)) <|
   X1 rfl (fun w_ hS_ => ex_move (v := ii x106) s6_106) ?_
  obtain ⟨x120, hx120, H⟩ := bindE H
  obtain ⟨A125, c126, q127_⟩ := hO0_0.slice
  obtain ⟨ad121, cc128, e122, g123, g124, hl129, hR130, cell131⟩ := Row.ix (Own.rowOf hO0_0D q127_) hx120
  obtain rfl := T_api_Node.opn hR130
  have hk132 := Row.at (Own.rowOf hO0_0D q127_) e122 hx120 (x106.toNat * 4)
  replace cell131 := fun j_ u_ hu_ => held_cell (Step.refl _ _ _) ⟨_, sR⟩ (by rw [add_block]; exact hk132) rfl (cell131 j_ u_ hu_)
  refine X1 rfl (fun w_ hS_ => ex_indexAddr (i := x106) ((show _ = (pv0_0 : Value) from rfl).trans q127_) e122 rfl U22 sz60 g123 g124) <|
   X1 rfl (fun w_ hS_ => ex_loadN (cs := [ii x120.f_Kind, encS x120.f_Name, ii x120.f_L, ii x120.f_R]) rfl U60 rfl sz60 (fun j_ u_ hu_ => held_cell sR hS_ (by rw [add_block]; exact hk132) rfl (cell131 j_ u_ hu_))) <|
   X1 rfl (fun w_ hS_ => ex_loadN (cs := [ii a1.f_Kind, encS a1.f_Name, ii a1.f_L, ii a1.f_R]) s3_105 U60 rfl sz60 ((hB105D.step hS_.choose_spec rfl).cells rfl)) <|
   X1 rfl (fun w_ hS_ => ex_bin (a := .agg #[ii x120.f_Kind, encS x120.f_Name, ii x120.f_L, ii x120.f_R]) (b := .agg #[ii a1.f_Kind, encS a1.f_Name, ii a1.f_L, ii a1.f_R]) (v := .bool (T_api_Node.eqb x120 (⟨a1.f_Kind, a1.f_Name, a1.f_L, a1.f_R⟩ : T_api_Node))) rfl rfl (bin_eql_agg (by kernel_rfl) (EqR.agg U60 (by kernel_rfl) (EqF.cons (by decide) (PartR.one U58 rfl rfl) (PartR.one U58 rfl rfl) (EqR.int U58) (EqF.cons (by decide) (PartR.one U9 rfl rfl) (PartR.one U9 rfl rfl) (EqR.str U9) (EqF.cons (by decide) (PartR.one U3 rfl rfl) (PartR.one U3 rfl rfl) (EqR.int U3) (EqF.cons (by decide) (PartR.one U3 rfl rfl) (PartR.one U3 rfl rfl) (EqR.int U3) EqF.nil))))))) <|
   WA.done (by kernel_rfl) ?_
  rcases condE H with ⟨c133, H⟩ | ⟨c133, H⟩
  ·
   refine WC.cond_t (vb c133 rfl) <|
    WC.seq <|
    WC.region <|
    E rfl (mv (ii x106) s6_106) <|
    E rfl (sg (ii x106) rfl) <|
    E rfl (sg (.bool true) rfl) <|
    WL.nil <|
    WC.ret ?_
   obtain rfl := Option.some.inj H
   replace H := Ho109
   dsimp only at H
   obtain rfl := Option.some.inj H
   exact ⟨_, (.tmp _ rfl (.tmp _ rfl .nil)), _, rfl, HF.out⟩
  ·
   refine WC.cond_f (vb c133 rfl) <|
    WC.skip <|
    WC.region <|
    E rfl (mv (ii x106) s6_106) <|
    E rfl (e2 bin_add64 rfl rfl) <|
    E rfl (sg (ii (wrap64 (x106 + 1))) rfl) <|
    WL.nil ?_
   exact ⟨k110, Nat.lt_succ_self _, ⟨_, wrap64 (x106 + 1), HF, hB0, hO0_0, hB105, s0_105, s3_105, s4_105, s5_105, rfl, H⟩⟩
 ·
  refine WC.cond_f (vb c117 rfl) <|
   WC.exit ?_
  obtain rfl := Option.some.inj H
  exact ⟨_, HF, hB0, hO0_0, s4_105, s5_105, rfl⟩

/-! ### dictumref03_T_Put -/
set_option maxRecDepth 100000 in
theorem dictumref03_T_Put.calls (k : Nat) (o0 : Tags) (w0 : World) (pb0 : Nat) (pv0_0 : Value) {a0 : T_dictumref03_T} {a1 : T_api_Node} {r : Int × Int × T_dictumref03_T} (H : dictumref03_T_Put.f k a0 a1 = some r) (hO : ∀ b, b < w0.heap.size → o0 b < 40) (hB0 : Bk o0 w0 2 pb0 [pv0_0] 53) (hO0_0 : Own T_api_Node.rep 60 3 o0 w0 pv0_0 a0.f_N) :
  Calls Tryz.prog 71 [pp pb0 0, .agg #[ii a1.f_Kind, encS a1.f_Name, ii a1.f_L, ii a1.f_R]].toArray w0 fun e_ w_ => ∃ (o_ : Tags) (u0_0 : Value), e_ = .returned (one [ii r.1, ii r.2.1]) ∧ Step o0 w0 o_ w_ [2, 3] ∧ Bk o_ w_ 2 pb0 [u0_0] 53 ∧ Own T_api_Node.rep 60 3 o_ w_ u0_0 r.2.2.f_N := by
 have HF := Fm.refl hO [2, 3]
 unfold dictumref03_T_Put.f at H
 refine SX.calls [pp pb0 0, .agg #[ii a1.f_Kind, encS a1.f_Name, ii a1.f_L, ii a1.f_R]] Tryz.func71 rfl rfl ?_
 rw [Tryz.ntmps71]
 refine WC.seq <|
  WC.region <|
  WL.op rfl <|
  OW.box' [ii a1.f_Kind, encS a1.f_Name, ii a1.f_L, ii a1.f_R] 40 HF rfl ((congrArg Value.cells (show ev _ _ = (.agg #[ii a1.f_Kind, encS a1.f_Name, ii a1.f_L, ii a1.f_R] : Value) from rfl)).trans rfl) ?_
 intro o102 w103 b101 s104 hB105
 refine E rfl (sg (ii 0) rfl) <|
  E rfl (sg (ii 0) rfl) <|
  WL.nil ?_
 obtain ⟨z106, hz106, H⟩ := bindE H
 refine WC.cut (fun ρ_ w_ => ∃ (o_ : Tags), Fm o0 w0 o_ w_ [2, 3] ∧ Bk o_ w_ 2 pb0 [pv0_0] 53 ∧ Own T_api_Node.rep 60 3 o_ w_ pv0_0 a0.f_N ∧ Bk o_ w_ 40 b101 [ii a1.f_Kind, encS a1.f_Name, ii a1.f_L, ii a1.f_R] 60 ∧ ρ_ 0 = pp pb0 0 ∧ ρ_ 3 = pp b101 0 ∧ ρ_ 4 = ii 0 ∧ ρ_ 5 = ii 0 ∧ z106 = .inr ()) ?case107 ?_
 case case107 =>
  rintro ρ110 w108 ⟨o109, HF, hB0, hO0_0, hB105, s0_105, s3_105, s4_105, s5_105, rfl⟩
  replace H : _ = some _ := H
  dsimp only at H
  refine WC.seq <|
   WC.region <|
   E rfl (mv (pp pb0 0) s0_105) <|
   E rfl (ex_loadN (cs := [ii a1.f_Kind, encS a1.f_Name, ii a1.f_L, ii a1.f_R]) s3_105 U60 rfl sz60 (hB105.cells rfl)) ?_
  obtain ⟨z111, hz111, H⟩ := bindE H
  refine WL.op rfl <|
   OW.call [pp pb0 0, .agg #[ii a1.f_Kind, encS a1.f_Name, ii a1.f_L, ii a1.f_R]] rfl Tryz.func89 (by kernel_rfl) (by kernel_rfl) (map_cons' rfl (map_cons' rfl rfl)) (dictumref03_T_Find.calls k _ _ pb0 pv0_0 (a0 := a0) (a1 := (⟨a1.f_Kind, a1.f_Name, a1.f_L, a1.f_R⟩ : T_api_Node)) hz111 (HF.ten (V := [0]) (L := [2, 3]) rfl) (Bk.vw hB0 rfl) (Own.vw hO0_0 rfl rfl)) ?_
  rintro _ w112 ⟨o113, rfl, s114⟩
  refine ⟨_, rfl, ?_⟩
  replace s114 := un_stepL (J := []) (L' := []) s114 rfl rfl
  refine E rfl (mv (.tuple #[ii z111.1, .bool z111.2]) rfl) <|
   E rfl (ex_extract rfl rfl) <|
   E rfl (ex_extract rfl rfl) <|
   E rfl (sg (ii z111.1) rfl) <|
   E rfl (sg (.bool z111.2) rfl) <|
   WL.nil <|
   WC.seq <|
   WC.seq <|
   WC.region <|
   E rfl (mv (.bool z111.2) rfl) <|
   WL.nil ?_
  rcases condE H with ⟨c115, H⟩ | ⟨c115, H⟩
  ·
   refine WC.cond_t (vb c115 rfl) <|
    WC.seq <|
    WC.region <|
    E rfl (mv (ii z111.1) rfl) <|
    E rfl (sg (ii z111.1) rfl) <|
    E rfl (sg (ii 0) rfl) <|
    WL.nil <|
    WC.ret ?_
   obtain rfl := Option.some.inj H
   replace hB0 := hB0.step s114 rfl
   replace hO0_0 := hO0_0.step s114 rfl rfl
   replace HF := HF.step s114 rfl
   exact ⟨_, (.tmp _ rfl (.tmp _ rfl .nil)), _, pv0_0, rfl, HF.out, hB0, hO0_0⟩
  ·
   refine WC.cond_f (vb c115 rfl) <|
    WC.skip <|
    WC.seq <|
    WC.seq <|
    WC.region <|
    E rfl (mv (pp pb0 0) s0_105) <|
    E rfl (ex_nilCheck rfl) <|
    E rfl (ex_fieldAddr rfl U53 rfl sz22) ?_
   replace hB0 := hB0.step s114 rfl
   refine E rfl (ex_load1 rfl U22 rfl (hB0.cell rfl)) ?_
   replace hO0_0 := hO0_0.step s114 rfl rfl
   obtain ⟨A116, c117, q118⟩ := hO0_0.slice
   refine E rfl (ex_len_slice ((show _ = (pv0_0 : Value) from rfl).trans q118) U22) <|
    E rfl (e2 bin_geq rfl rfl) <|
    WL.nil ?_
   rcases condE H with ⟨c119, H⟩ | ⟨c119, H⟩
   ·
    refine WC.cond_t (vb c119 rfl) <|
     WC.seq <|
     WC.region <|
     E rfl (sg (ii 0) rfl) <|
     E rfl (sg (ii 30) rfl) <|
     WL.nil <|
     WC.ret ?_
    obtain rfl := Option.some.inj H
    replace HF := HF.step s114 rfl
    exact ⟨_, (.tmp _ rfl (.tmp _ rfl .nil)), _, pv0_0, rfl, HF.out, hB0, hO0_0⟩
   ·
    refine WC.cond_f (vb c119 rfl) <|
     WC.skip ?_
    obtain ⟨z123, hz123, H⟩ := bindE H
    refine WC.cut (fun ρ_ w_ => ∃ (o_ : Tags) (v121 : Value), Fm o0 w0 o_ w_ [2, 3] ∧ Bk o_ w_ 2 pb0 [v121] 53 ∧ Own T_api_Node.rep 60 3 o_ w_ v121 z123.f_N ∧ ρ_ 0 = pp pb0 0 ∧ ρ_ 4 = ii 0 ∧ ρ_ 5 = ii 0) ?case124 ?_
    case case124 =>
     rintro ρ127 w125 ⟨o126, v121, HF, hB138, hO122, s0_119, s4_119, s5_119⟩
     refine WC.seq <|
      WC.region <|
      E rfl (mv (pp pb0 0) s0_119) <|
      E rfl (ex_nilCheck rfl) <|
      E rfl (ex_fieldAddr rfl U53 rfl sz22) <|
      E rfl (ex_load1 rfl U22 rfl (hB138.cell rfl)) ?_
     obtain ⟨A128, c129, q130⟩ := hO122.slice
     refine E rfl (ex_len_slice ((show _ = (v121 : Value) from rfl).trans q130) U22) <|
      E rfl (e2 bin_sub64 rfl rfl) <|
      E rfl (sg (ii (wrap64 ((z123.f_N.length : Int) - 1))) rfl) <|
      E rfl (sg (ii 0) rfl) <|
      WL.nil <|
      WC.ret ?_
     obtain rfl := Option.some.inj H
     exact ⟨_, (.tmp _ rfl (.tmp _ rfl .nil)), _, v121, rfl, HF.out, hB138, hO122⟩
    have Ho131 := H
    replace H := hz123
    replace HF := HF.step s114 rfl
    refine WC.regionD' HF [2, 3] 11 11 (by kernel_rfl) rfl ?_
    intro w132 s133
    have k114_133 := s114.t s133
    replace hB105 := hB105.step k114_133 rfl
    have hB105D := hB105
    replace HF := HF.step s133 rfl
    have sR := HF.here [2, 3]
    refine WA.seq [0, 1, 2, 3, 5] (lb 11 47) 6 (by kernel_rfl) rfl ⟨_, sR⟩ <|
     X1 rfl (fun w_ hS_ => ex_move (v := pp pb0 0) s0_105) <|
     X1 rfl (fun w_ hS_ => ex_move (v := pp pb0 0) s0_105) <|
     X1 rfl (fun w_ hS_ => ex_nilCheck rfl) <|
     X1 rfl (fun w_ hS_ => ex_fieldAddr rfl U53 rfl sz22) <|
     X1 rfl (fun w_ hS_ => ex_loadN (cs := [ii a1.f_Kind, encS a1.f_Name, ii a1.f_L, ii a1.f_R]) s3_105 U60 rfl sz60 ((hB105D.step hS_.choose_spec rfl).cells rfl)) ?_
    refine WA.both 4 6 (by kernel_rfl) rfl rfl rfl rfl ?_ ?_
    ·
     replace hB0 := hB0.step s133 rfl
     refine OW.ex rfl (ex_load1 rfl U22 rfl (hB0.cell rfl)) ?_
     refine ⟨⟨_, sR⟩, ?_⟩
     refine WA.norm (listed' := lb 11 63) (by kernel_rfl) <|
      WA.one 6 (by kernel_rfl) rfl rfl <|
      OW.row (r := T_api_Node.rep) (xs := [(⟨a1.f_Kind, a1.f_Name, a1.f_L, a1.f_R⟩ : T_api_Node)]) [(0, .agg #[ii a1.f_Kind, encS a1.f_Name, ii a1.f_L, ii a1.f_R])] [[ii a1.f_Kind, encS a1.f_Name, ii a1.f_L, ii a1.f_R]] 41 HF rfl U22 sz60 zr60 rfl (evs_cons rfl rfl) rfl rfl ⟨(T_api_Node.mk' (⟨a1.f_Kind, a1.f_Name, a1.f_L, a1.f_R⟩ : T_api_Node) ), trivial⟩ rfl rfl rfl rfl ?_
     intro o134 w135 v137 s136 hO138
     replace sR := Step.trans sR s136 (M := [2, 3]) rfl rfl
     refine ⟨⟨_, sR⟩, ?_⟩
     refine WA.norm (listed' := lb 11 127) (by kernel_rfl) ?_
     obtain ⟨A139, c140, q141_, _, q141⟩ := hO138.row
     obtain ⟨u142, hu142, H⟩ := bindE H
     refine WA.one 7 (by kernel_rfl) rfl rfl ?_
     have k133_136 := s133.t s136
     replace hO0_0 := hO0_0.step k133_136 rfl rfl
     refine OW.append (r := T_api_Node.rep) (E := 60) (i := 3) rfl U22 inf60 rfl (by decide) (by decide) (by decide) rfl ((show _ = (v137 : Value) from rfl).trans q141_) hO0_0 q141 rfl (of_decide_eq_true (chk_true hu142)) ?_
     intro o143 w144 v145 s146 hO147
     replace sR := Step.trans sR s146 (M := [2, 3]) rfl rfl
     refine ⟨⟨_, sR⟩, ?_⟩
     refine WA.norm (listed' := lb 11 255) (by kernel_rfl) <|
      WA.seq [8, 9] (lb 11 1023) 1 (by kernel_rfl) rfl ⟨_, sR⟩ <|
      X1 rfl (fun w_ hS_ => ex_nilCheck rfl) <|
      X1 rfl (fun w_ hS_ => ex_fieldAddr rfl U53 rfl sz22) <|
      WA.one 10 (by kernel_rfl) rfl rfl ?_
     have k136_146 := s136.t s146
     replace hB0 := hB0.step k136_146 rfl
     refine OW.store [v145] rfl (vs := [v145]) ((congrArg Value.cells (show ev _ _ = (v145 : Value) from rfl)).trans (Own.cells1 hO147)) sz22 hB0 (Nat.le_of_ble_eq_true rfl) (by intro u_ hu_; simp only [List.mem_cons, List.not_mem_nil, or_false] at hu_; rcases hu_ with rfl; first | rfl | exact Own.oneCell hO147) rfl ?_
     intro w148 s149 hB150
     replace sR := Step.trans sR s149 (M := [2, 3]) rfl rfl
     refine ⟨⟨_, sR⟩, ?_⟩
     refine WA.norm (listed' := lb 11 2047) (by kernel_rfl) <|
      WA.done (by kernel_rfl) ?_
     obtain rfl := Option.some.inj H
     replace hO147 := hO147.step s149 rfl rfl
     have k136_149 := k136_146.t s149
     replace HF := HF.step k136_149 rfl
     exact ⟨_, _, HF, hB150, hO147, s0_105, s4_105, s5_105⟩
    ·
     refine OW.row (r := T_api_Node.rep) (xs := [(⟨a1.f_Kind, a1.f_Name, a1.f_L, a1.f_R⟩ : T_api_Node)]) [(0, .agg #[ii a1.f_Kind, encS a1.f_Name, ii a1.f_L, ii a1.f_R])] [[ii a1.f_Kind, encS a1.f_Name, ii a1.f_L, ii a1.f_R]] 41 HF rfl U22 sz60 zr60 rfl (evs_cons rfl rfl) rfl rfl ⟨(T_api_Node.mk' (⟨a1.f_Kind, a1.f_Name, a1.f_L, a1.f_R⟩ : T_api_Node) ), trivial⟩ rfl rfl rfl rfl ?_
     intro o134 w135 v137 s136 hO138
     replace sR := Step.trans sR s136 (M := [2, 3]) rfl rfl
     refine ⟨⟨_, sR⟩, ?_⟩
     refine WA.norm (listed' := lb 11 111) (by kernel_rfl) <|
      WA.one 4 (by kernel_rfl) rfl rfl ?_
     have k133_136 := s133.t s136
     replace hB0 := hB0.step k133_136 rfl
     refine OW.ex rfl (ex_load1 rfl U22 rfl (hB0.cell rfl)) ?_
     refine ⟨⟨_, sR⟩, ?_⟩
     refine WA.norm (listed' := lb 11 127) (by kernel_rfl) ?_
     obtain ⟨A139, c140, q141_, _, q141⟩ := hO138.row
     obtain ⟨u142, hu142, H⟩ := bindE H
     refine WA.one 7 (by kernel_rfl) rfl rfl ?_
     replace hO0_0 := hO0_0.step k133_136 rfl rfl
     refine OW.append (r := T_api_Node.rep) (E := 60) (i := 3) rfl U22 inf60 rfl (by decide) (by decide) (by decide) rfl ((show _ = (v137 : Value) from rfl).trans q141_) hO0_0 q141 rfl (of_decide_eq_true (chk_true hu142)) ?_
     intro o143 w144 v145 s146 hO147
     replace sR := Step.trans sR s146 (M := [2, 3]) rfl rfl
     refine ⟨⟨_, sR⟩, ?_⟩
     refine WA.norm (listed' := lb 11 255) (by kernel_rfl) <|
      WA.seq [8, 9] (lb 11 1023) 1 (by kernel_rfl) rfl ⟨_, sR⟩ <|
      X1 rfl (fun w_ hS_ => ex_nilCheck rfl) <|
      X1 rfl (fun w_ hS_ => ex_fieldAddr rfl U53 rfl sz22) <|
      WA.one 10 (by kernel_rfl) rfl rfl ?_
     replace hB0 := hB0.step s146 rfl
     refine OW.store [v145] rfl (vs := [v145]) ((congrArg Value.cells (show ev _ _ = (v145 : Value) from rfl)).trans (Own.cells1 hO147)) sz22 hB0 (Nat.le_of_ble_eq_true rfl) (by intro u_ hu_; simp only [List.mem_cons, List.not_mem_nil, or_false] at hu_; rcases hu_ with rfl; first | rfl | exact Own.oneCell hO147) rfl ?_
     intro w148 s149 hB150
     replace sR := Step.trans sR s149 (M := [2, 3]) rfl rfl
     refine ⟨⟨_, sR⟩, ?_⟩
     refine WA.norm (listed' := lb 11 2047) (by kernel_rfl) <|
      WA.done (by kernel_rfl) ?_
     obtain rfl := Option.some.inj H
     replace hO147 := hO147.step s149 rfl rfl
     have k136_149 := (s136.t s146).t s149
     replace HF := HF.step k136_149 rfl
     exact ⟨_, _, HF, hB150, hO147, s0_105, s4_105, s5_105⟩
 have Ho151 := H
 replace H := hz106
 refine WC.seq <|
  WC.region <|
  E rfl (ex_fieldAddr rfl U60 rfl sz58) <|
  E rfl (ex_load1 rfl U58 rfl (hB105.cell rfl)) <|
  WL.nil <|
  WC.block <|
  WC.seq <|
  WC.region <|
  E rfl (e2 bin_eql rfl rfl) <|
  E rfl (sg (.bool (a1.f_Kind == 1)) rfl) <|
  WL.nil ?_
 rcases condE H with ⟨c152, H⟩ | ⟨c152, H⟩
 ·
  refine WC.cond_t (vb c152 rfl) <|
   WC.seq ?_
  obtain ⟨z154, hz154, H⟩ := bindE H
  refine WC.cut (fun ρ_ w_ => ∃ (o_ : Tags), Fm o0 w0 o_ w_ [2, 3] ∧ Bk o_ w_ 2 pb0 [pv0_0] 53 ∧ Own T_api_Node.rep 60 3 o_ w_ pv0_0 a0.f_N ∧ Bk o_ w_ 40 b101 [ii a1.f_Kind, encS a1.f_Name, ii a1.f_L, ii a1.f_R] 60 ∧ ρ_ 0 = pp pb0 0 ∧ ρ_ 3 = pp b101 0 ∧ ρ_ 4 = ii 0 ∧ ρ_ 5 = ii 0 ∧ ρ_ 19 = .bool z154) ?case155 ?_
  case case155 =>
   rintro ρ158 w156 ⟨o157, HF, hB0, hO0_0, hB105, s0_152, s3_152, s4_152, s5_152, s19_153⟩
   rcases condE H with ⟨c159, H⟩ | ⟨c159, H⟩
   ·
    refine WC.cond_t (vb c159 s19_153) <|
     WC.seq <|
     WC.region <|
     E rfl (sg (ii 0) rfl) <|
     E rfl (sg (ii 31) rfl) <|
     WL.nil <|
     WC.ret ?_
    obtain rfl := Option.some.inj H
    replace H := Ho151
    dsimp only at H
    obtain rfl := Option.some.inj H
    exact ⟨_, (.tmp _ rfl (.tmp _ rfl .nil)), _, pv0_0, rfl, HF.out, hB0, hO0_0⟩
   ·
    refine WC.cond_f (vb c159 s19_153) <|
     WC.skip <|
     WC.seq <|
     WC.region <|
     E rfl (ex_fieldAddr s3_152 U60 rfl sz9) <|
     E rfl (ex_load1 rfl U9 rfl (hB105.cell rfl)) ?_
    obtain ⟨z160, hz160, H⟩ := bindE H
    refine WL.op rfl <|
     OW.call [encS a1.f_Name] rfl Tryz.func88 (by kernel_rfl) (by kernel_rfl) (map_cons' rfl rfl) (dictumref03_Word.calls k _ _ hz160 (HF.ten (V := [0]) (L := []) rfl) ) ?_
    rintro _ w161 ⟨o162, rfl, s163⟩
    refine ⟨_, rfl, ?_⟩
    replace s163 := un_stepL (J := []) (L' := []) s163 rfl rfl
    refine E rfl (ex_not (b := z160) rfl) <|
     WL.nil ?_
    rcases condE H with ⟨c164, H⟩ | ⟨c164, H⟩
    ·
     refine WC.cond_t (vb c164 rfl) <|
      WC.seq <|
      WC.region <|
      E rfl (sg (ii 0) rfl) <|
      E rfl (sg (ii 32) rfl) <|
      WL.nil <|
      WC.ret ?_
     obtain rfl := Option.some.inj H
     replace H := Ho151
     dsimp only at H
     obtain rfl := Option.some.inj H
     replace hB0 := hB0.step s163 rfl
     replace hO0_0 := hO0_0.step s163 rfl rfl
     replace HF := HF.step s163 rfl
     exact ⟨_, (.tmp _ rfl (.tmp _ rfl .nil)), _, pv0_0, rfl, HF.out, hB0, hO0_0⟩
    ·
     refine WC.cond_f (vb c164 rfl) <|
      WC.skip ?_
     obtain rfl := Option.some.inj H
     replace hB0 := hB0.step s163 rfl
     replace hO0_0 := hO0_0.step s163 rfl rfl
     replace hB105 := hB105.step s163 rfl
     replace HF := HF.step s163 rfl
     exact ⟨_, HF, hB0, hO0_0, hB105, s0_152, s3_152, s4_152, s5_152, rfl⟩
  have Ho165 := H
  replace H := hz154
  refine WC.region <|
   E rfl (ex_fieldAddr rfl U60 rfl sz3) <|
   E rfl (ex_load1 rfl U3 rfl (hB105.cell rfl)) <|
   E rfl (e2 bin_neq rfl rfl) <|
   E rfl (mv (.bool (a1.f_L != 0)) rfl) ?_
  rcases condE H with ⟨c166, H⟩ | ⟨c166, H⟩
  ·
   refine WL.guardNo rfl rfl rfl (vb c166 rfl) <|
    WL.guardNo rfl rfl rfl (vb c166 rfl) <|
    WL.guardNo rfl rfl rfl (vb c166 rfl) <|
    E rfl (ex_pick_t (v := .bool true) (vb c166 rfl) rfl) <|
    WL.nil ?_
   obtain rfl := Option.some.inj H
   replace hO0_0 := hO0_0.step s104 rfl rfl
   replace hB0 := hB0.step s104 rfl
   replace HF := HF.step s104 rfl
   exact ⟨_, HF, hB0, hO0_0, hB105, rfl, rfl, rfl, rfl, rfl⟩
  ·
   refine WL.guardYes rfl rfl rfl (vb c166 rfl) <|
    OW.ex rfl (ex_fieldAddr rfl U60 rfl sz3) <|
    WL.guardYes rfl rfl rfl (vb c166 rfl) <|
    OW.ex rfl (ex_load1 rfl U3 rfl (hB105.cell rfl)) <|
    WL.guardYes rfl rfl rfl (vb c166 rfl) <|
    OW.ex rfl (e2 bin_neq rfl rfl) <|
    E rfl (ex_pick_f (v := .bool (a1.f_R != 0)) (vb c166 rfl) rfl) <|
    WL.nil ?_
   obtain rfl := Option.some.inj H
   replace hO0_0 := hO0_0.step s104 rfl rfl
   replace hB0 := hB0.step s104 rfl
   replace HF := HF.step s104 rfl
   exact ⟨_, HF, hB0, hO0_0, hB105, rfl, rfl, rfl, rfl, rfl⟩
 ·
  refine WC.cond_f (vb c152 rfl) <|
   WC.seq <|
   WC.region <|
   E rfl (e2 bin_eql rfl rfl) <|
   E rfl (sg (.bool (a1.f_Kind == 2)) rfl) <|
   WL.nil ?_
  rcases condE H with ⟨c167, H⟩ | ⟨c167, H⟩
  ·
   refine WC.cond_t (vb c167 rfl) ?_
   obtain ⟨z169, hz169, H⟩ := bindE H
   refine WC.cut (fun ρ_ w_ => ∃ (o_ : Tags), Fm o0 w0 o_ w_ [2, 3] ∧ Bk o_ w_ 2 pb0 [pv0_0] 53 ∧ Own T_api_Node.rep 60 3 o_ w_ pv0_0 a0.f_N ∧ Bk o_ w_ 40 b101 [ii a1.f_Kind, encS a1.f_Name, ii a1.f_L, ii a1.f_R] 60 ∧ ρ_ 0 = pp pb0 0 ∧ ρ_ 3 = pp b101 0 ∧ ρ_ 4 = ii 0 ∧ ρ_ 5 = ii 0 ∧ ρ_ 38 = .bool z169) ?case170 ?_
   case case170 =>
    rintro ρ173 w171 ⟨o172, HF, hB0, hO0_0, hB105, s0_167, s3_167, s4_167, s5_167, s38_168⟩
    rcases condE H with ⟨c174, H⟩ | ⟨c174, H⟩
    ·
     refine WC.cond_t (vb c174 s38_168) <|
      WC.seq <|
      WC.region <|
      E rfl (sg (ii 0) rfl) <|
      E rfl (sg (ii 31) rfl) <|
      WL.nil <|
      WC.ret ?_
     obtain rfl := Option.some.inj H
     replace H := Ho151
     dsimp only at H
     obtain rfl := Option.some.inj H
     exact ⟨_, (.tmp _ rfl (.tmp _ rfl .nil)), _, pv0_0, rfl, HF.out, hB0, hO0_0⟩
    ·
     refine WC.cond_f (vb c174 s38_168) <|
      WC.skip ?_
     obtain rfl := Option.some.inj H
     exact ⟨_, HF, hB0, hO0_0, hB105, s0_167, s3_167, s4_167, s5_167, rfl⟩
   have Ho175 := H
   replace H := hz169
   refine WC.region <|
    E rfl (ex_fieldAddr rfl U60 rfl sz9) <|
    E rfl (ex_load1 rfl U9 rfl (hB105.cell rfl)) <|
    E rfl (e2 bin_neq_str rfl rfl) <|
    E rfl (mv (.bool (!(a1.f_Name == ([] : List UInt8)))) rfl) ?_
   rcases condE H with ⟨c176, H⟩ | ⟨c176, H⟩
   ·
    refine WL.guardNo rfl rfl rfl (vb c176 rfl) <|
     WL.guardNo rfl rfl rfl (vb c176 rfl) <|
     WL.guardNo rfl rfl rfl (vb c176 rfl) <|
     E rfl (ex_pick_t (v := .bool true) (vb c176 rfl) rfl) <|
     E rfl (mv (.bool true) rfl) <|
     WL.guardNo rfl rfl rfl rfl <|
     WL.guardNo rfl rfl rfl rfl <|
     WL.guardNo rfl rfl rfl rfl <|
     E rfl (ex_pick_t (v := .bool true) rfl rfl) <|
     WL.nil ?_
    obtain rfl := Option.some.inj H
    replace hO0_0 := hO0_0.step s104 rfl rfl
    replace hB0 := hB0.step s104 rfl
    replace HF := HF.step s104 rfl
    exact ⟨_, HF, hB0, hO0_0, hB105, rfl, rfl, rfl, rfl, rfl⟩
   ·
    refine WL.guardYes rfl rfl rfl (vb c176 rfl) <|
     OW.ex rfl (ex_fieldAddr rfl U60 rfl sz3) <|
     WL.guardYes rfl rfl rfl (vb c176 rfl) <|
     OW.ex rfl (ex_load1 rfl U3 rfl (hB105.cell rfl)) <|
     WL.guardYes rfl rfl rfl (vb c176 rfl) <|
     OW.ex rfl (e2 bin_neq rfl rfl) <|
     E rfl (ex_pick_f (v := .bool (a1.f_L != 0)) (vb c176 rfl) rfl) <|
     E rfl (mv (.bool (a1.f_L != 0)) rfl) ?_
    rcases condE H with ⟨c177, H⟩ | ⟨c177, H⟩
    ·
     refine WL.guardNo rfl rfl rfl (vb c177 rfl) <|
      WL.guardNo rfl rfl rfl (vb c177 rfl) <|
      WL.guardNo rfl rfl rfl (vb c177 rfl) <|
      E rfl (ex_pick_t (v := .bool true) (vb c177 rfl) rfl) <|
      WL.nil ?_
     obtain rfl := Option.some.inj H
     replace hO0_0 := hO0_0.step s104 rfl rfl
     replace hB0 := hB0.step s104 rfl
     replace HF := HF.step s104 rfl
     exact ⟨_, HF, hB0, hO0_0, hB105, rfl, rfl, rfl, rfl, rfl⟩
    ·
     refine WL.guardYes rfl rfl rfl (vb c177 rfl) <|
      OW.ex rfl (ex_fieldAddr rfl U60 rfl sz3) <|
      WL.guardYes rfl rfl rfl (vb c177 rfl) <|
      OW.ex rfl (ex_load1 rfl U3 rfl (hB105.cell rfl)) <|
      WL.guardYes rfl rfl rfl (vb c177 rfl) <|
      OW.ex rfl (e2 bin_neq rfl rfl) <|
      E rfl (ex_pick_f (v := .bool (a1.f_R != 0)) (vb c177 rfl) rfl) <|
      WL.nil ?_
     obtain rfl := Option.some.inj H
     replace hO0_0 := hO0_0.step s104 rfl rfl
     replace hB0 := hB0.step s104 rfl
     replace HF := HF.step s104 rfl
     exact ⟨_, HF, hB0, hO0_0, hB105, rfl, rfl, rfl, rfl, rfl⟩
  ·
   refine WC.cond_f (vb c167 rfl) ?_
   obtain ⟨z179, hz179, H⟩ := bindE H
   refine WC.cut (fun ρ_ w_ => ∃ (o_ : Tags), Fm o0 w0 o_ w_ [2, 3] ∧ Bk o_ w_ 2 pb0 [pv0_0] 53 ∧ Own T_api_Node.rep 60 3 o_ w_ pv0_0 a0.f_N ∧ Bk o_ w_ 40 b101 [ii a1.f_Kind, encS a1.f_Name, ii a1.f_L, ii a1.f_R] 60 ∧ ρ_ 0 = pp pb0 0 ∧ ρ_ 3 = pp b101 0 ∧ ρ_ 4 = ii 0 ∧ ρ_ 5 = ii 0 ∧ ρ_ 39 = .bool z179) ?case180 ?_
   case case180 =>
    rintro ρ183 w181 ⟨o182, HF, hB0, hO0_0, hB105, s0_177, s3_177, s4_177, s5_177, s39_178⟩
    rcases condE H with ⟨c184, H⟩ | ⟨c184, H⟩
    ·
     refine WC.cond_t (vb c184 s39_178) ?_
     obtain ⟨z186, hz186, H⟩ := bindE H
     refine WC.cut (fun ρ_ w_ => ∃ (o_ : Tags), Fm o0 w0 o_ w_ [2, 3] ∧ Bk o_ w_ 2 pb0 [pv0_0] 53 ∧ Own T_api_Node.rep 60 3 o_ w_ pv0_0 a0.f_N ∧ Bk o_ w_ 40 b101 [ii a1.f_Kind, encS a1.f_Name, ii a1.f_L, ii a1.f_R] 60 ∧ ρ_ 0 = pp pb0 0 ∧ ρ_ 3 = pp b101 0 ∧ ρ_ 4 = ii 0 ∧ ρ_ 5 = ii 0 ∧ ρ_ 59 = .bool z186) ?case187 ?_
     case case187 =>
      rintro ρ190 w188 ⟨o189, HF, hB0, hO0_0, hB105, s0_184, s3_184, s4_184, s5_184, s59_185⟩
      rcases condE H with ⟨c191, H⟩ | ⟨c191, H⟩
      ·
       refine WC.cond_t (vb c191 s59_185) <|
        WC.seq <|
        WC.region <|
        E rfl (sg (ii 0) rfl) <|
        E rfl (sg (ii 31) rfl) <|
        WL.nil <|
        WC.ret ?_
       obtain rfl := Option.some.inj H
       replace H := Ho151
       dsimp only at H
       obtain rfl := Option.some.inj H
       exact ⟨_, (.tmp _ rfl (.tmp _ rfl .nil)), _, pv0_0, rfl, HF.out, hB0, hO0_0⟩
      ·
       refine WC.cond_f (vb c191 s59_185) <|
        WC.skip ?_
       obtain rfl := Option.some.inj H
       exact ⟨_, HF, hB0, hO0_0, hB105, s0_184, s3_184, s4_184, s5_184, rfl⟩
     have Ho192 := H
     replace H := hz186
     refine WC.region <|
      E rfl (ex_fieldAddr s3_177 U60 rfl sz9) <|
      E rfl (ex_load1 rfl U9 rfl (hB105.cell rfl)) <|
      E rfl (e2 bin_neq_str rfl rfl) <|
      E rfl (mv (.bool (!(a1.f_Name == ([] : List UInt8)))) rfl) ?_
     rcases condE H with ⟨c193, H⟩ | ⟨c193, H⟩
     ·
      refine WL.guardNo rfl rfl rfl (vb c193 rfl) <|
       WL.guardNo rfl rfl rfl (vb c193 rfl) <|
       WL.guardNo rfl rfl rfl (vb c193 rfl) <|
       WL.guardNo rfl rfl rfl (vb c193 rfl) <|
       WL.guardNo rfl rfl rfl (vb c193 rfl) <|
       E rfl (ex_pick_t (v := .bool true) (vb c193 rfl) rfl) <|
       E rfl (mv (.bool true) rfl) <|
       WL.guardNo rfl rfl rfl rfl <|
       WL.guardNo rfl rfl rfl rfl <|
       WL.guardNo rfl rfl rfl rfl <|
       WL.guardNo rfl rfl rfl rfl <|
       WL.guardNo rfl rfl rfl rfl <|
       E rfl (ex_pick_t (v := .bool true) rfl rfl) <|
       WL.nil ?_
      obtain rfl := Option.some.inj H
      exact ⟨_, HF, hB0, hO0_0, hB105, s0_177, s3_177, s4_177, s5_177, rfl⟩
     ·
      refine WL.guardYes rfl rfl rfl (vb c193 rfl) <|
       OW.ex rfl (mv (pp pb0 0) s0_177) <|
       WL.guardYes rfl rfl rfl (vb c193 rfl) <|
       OW.ex rfl (ex_fieldAddr s3_177 U60 rfl sz3) <|
       WL.guardYes rfl rfl rfl (vb c193 rfl) <|
       OW.ex rfl (ex_load1 rfl U3 rfl (hB105.cell rfl)) <|
       WL.guardYes rfl rfl rfl (vb c193 rfl) ?_
      obtain ⟨z194, hz194, H⟩ := bindE H
      refine OW.call [pp pb0 0, ii a1.f_L] rfl Tryz.func42 (by kernel_rfl) (by kernel_rfl) (map_cons' rfl (map_cons' rfl rfl)) (dictumref03_T_Has.calls _ _ pb0 pv0_0 (a0 := a0) hz194 (HF.ten (V := [0]) (L := [2, 3]) rfl) (Bk.vw hB0 rfl) (Own.vw hO0_0 rfl rfl)) ?_
      rintro _ w195 ⟨o196, rfl, s197⟩
      refine ⟨_, rfl, ?_⟩
      replace s197 := un_stepL (J := []) (L' := []) s197 rfl rfl
      refine WL.guardYes rfl rfl rfl (vb c193 rfl) <|
       OW.ex rfl (ex_not (b := z194) rfl) <|
       E rfl (ex_pick_f (v := .bool (!z194)) (vb c193 rfl) rfl) <|
       E rfl (mv (.bool (!z194)) rfl) ?_
      rcases condE H with ⟨c198, H⟩ | ⟨c198, H⟩
      ·
       refine WL.guardNo rfl rfl rfl (vb c198 rfl) <|
        WL.guardNo rfl rfl rfl (vb c198 rfl) <|
        WL.guardNo rfl rfl rfl (vb c198 rfl) <|
        WL.guardNo rfl rfl rfl (vb c198 rfl) <|
        WL.guardNo rfl rfl rfl (vb c198 rfl) <|
        E rfl (ex_pick_t (v := .bool true) (vb c198 rfl) rfl) <|
        WL.nil ?_
       obtain rfl := Option.some.inj H
       replace hB0 := hB0.step s197 rfl
       replace hO0_0 := hO0_0.step s197 rfl rfl
       replace hB105 := hB105.step s197 rfl
       replace HF := HF.step s197 rfl
       exact ⟨_, HF, hB0, hO0_0, hB105, s0_177, s3_177, s4_177, s5_177, rfl⟩
      ·
       refine WL.guardYes rfl rfl rfl (vb c198 rfl) <|
        OW.ex rfl (mv (pp pb0 0) s0_177) <|
        WL.guardYes rfl rfl rfl (vb c198 rfl) <|
        OW.ex rfl (ex_fieldAddr s3_177 U60 rfl sz3) <|
        WL.guardYes rfl rfl rfl (vb c198 rfl) ?_
       replace hB105 := hB105.step s197 rfl
       refine OW.ex rfl (ex_load1 rfl U3 rfl (hB105.cell rfl)) <|
        WL.guardYes rfl rfl rfl (vb c198 rfl) ?_
       obtain ⟨z199, hz199, H⟩ := bindE H
       replace hB0 := hB0.step s197 rfl
       replace hO0_0 := hO0_0.step s197 rfl rfl
       replace HF := HF.step s197 rfl
       refine OW.call [pp pb0 0, ii a1.f_R] rfl Tryz.func42 (by kernel_rfl) (by kernel_rfl) (map_cons' rfl (map_cons' rfl rfl)) (dictumref03_T_Has.calls _ _ pb0 pv0_0 (a0 := a0) hz199 (HF.ten (V := [0]) (L := [2, 3]) rfl) (Bk.vw hB0 rfl) (Own.vw hO0_0 rfl rfl)) ?_
       rintro _ w200 ⟨o201, rfl, s202⟩
       refine ⟨_, rfl, ?_⟩
       replace s202 := un_stepL (J := []) (L' := []) s202 rfl rfl
       refine WL.guardYes rfl rfl rfl (vb c198 rfl) <|
        OW.ex rfl (ex_not (b := z199) rfl) <|
        E rfl (ex_pick_f (v := .bool (!z199)) (vb c198 rfl) rfl) <|
        WL.nil ?_
       obtain rfl := Option.some.inj H
       replace hB0 := hB0.step s202 rfl
       replace hO0_0 := hO0_0.step s202 rfl rfl
       replace hB105 := hB105.step s202 rfl
       replace HF := HF.step s202 rfl
       exact ⟨_, HF, hB0, hO0_0, hB105, s0_177, s3_177, s4_177, s5_177, rfl⟩
    ·
     refine WC.cond_f (vb c184 s39_178) <|
      WC.seq <|
      WC.region <|
      E rfl (sg (ii 0) rfl) <|
      E rfl (sg (ii 31) rfl) <|
      WL.nil <|
      WC.ret ?_
     obtain rfl := Option.some.inj H
     replace H := Ho151
     dsimp only at H
     obtain rfl := Option.some.inj H
     exact ⟨_, (.tmp _ rfl (.tmp _ rfl .nil)), _, pv0_0, rfl, HF.out, hB0, hO0_0⟩
   have Ho203 := H
   replace H := hz179
   refine WC.seq <|
    WC.region <|
    E rfl (e2 bin_eql rfl rfl) <|
    E rfl (sg (.bool (a1.f_Kind == 3)) rfl) <|
    WL.nil ?_
   rcases condE H with ⟨c204, H⟩ | ⟨c204, H⟩
   ·
    refine WC.cond_t (vb c204 rfl) <|
     WC.skip ?_
    obtain rfl := Option.some.inj H
    replace hO0_0 := hO0_0.step s104 rfl rfl
    replace hB0 := hB0.step s104 rfl
    replace HF := HF.step s104 rfl
    exact ⟨_, HF, hB0, hO0_0, hB105, rfl, rfl, rfl, rfl, rfl⟩
   ·
    refine WC.cond_f (vb c204 rfl) <|
     WC.seq <|
     WC.region <|
     E rfl (e2 bin_eql rfl rfl) <|
     E rfl (sg (.bool (a1.f_Kind == 4)) rfl) <|
     WL.nil ?_
    rcases condE H with ⟨c205, H⟩ | ⟨c205, H⟩
    ·
     refine WC.cond_t (vb c205 rfl) <|
      WC.skip ?_
     obtain rfl := Option.some.inj H
     replace hO0_0 := hO0_0.step s104 rfl rfl
     replace hB0 := hB0.step s104 rfl
     replace HF := HF.step s104 rfl
     exact ⟨_, HF, hB0, hO0_0, hB105, rfl, rfl, rfl, rfl, rfl⟩
    ·
     refine WC.cond_f (vb c205 rfl) <|
      WC.region <|
      E rfl (e2 bin_eql rfl rfl) <|
      E rfl (sg (.bool (a1.f_Kind == 5)) rfl) <|
      WL.nil ?_
     obtain rfl := Option.some.inj H
     replace hO0_0 := hO0_0.step s104 rfl rfl
     replace hB0 := hB0.step s104 rfl
     replace HF := HF.step s104 rfl
     exact ⟨_, HF, hB0, hO0_0, hB105, rfl, rfl, rfl, rfl, rfl⟩

/-! ### dictumref03_From -/
set_option maxRecDepth 100000 in
theorem dictumref03_From.calls (k : Nat) (o0 : Tags) (w0 : World) (pA0 : Option Addr) (pc0 : Nat) {a0 : (List T_api_Node)} {r : Exn (Int) (T_dictumref03_T)} (H : dictumref03_From.f k a0 = some r) (hO : ∀ b, b < w0.heap.size → o0 b < 40) (hra0 : Row T_api_Node.rep (fun b_ => o0 b_ = 0) (fun b_ => o0 b_ = 0) w0 pA0 a0) (hla0 : a0.length ≤ pc0) :
  Calls Tryz.prog 46 [.slice pA0 a0.length pc0].toArray w0 fun e_ w_ => ∃ (o_ : Tags), ((∃ p_, r = .ex p_ ∧ e_ = .returned (one [.pointer none, ii p_]) ∧ Step o0 w0 o_ w_ [] ∧ (p_ != 0) = true) ∨ ∃ q_, r = .ok q_ ∧ ∃ (b_0 : Nat) (rv0_0 : Value), e_ = .returned (one [pp b_0 0, ii 0]) ∧ Step o0 w0 o_ w_ [] ∧ Bk o_ w_ 39 b_0 [rv0_0] 53 ∧ Own T_api_Node.rep 60 38 o_ w_ rv0_0 q_.f_N) := by
 have HF := Fm.refl hO []
 unfold dictumref03_From.f at H
 refine SX.calls [.slice pA0 a0.length pc0] Tryz.func46 rfl rfl ?_
 rw [Tryz.ntmps46]
 refine WC.seq <|
  WC.region <|
  E rfl (sg (.pointer none) rfl) <|
  E rfl (sg (ii 0) rfl) <|
  WL.nil <|
  WC.seq <|
  WC.region <|
  E rfl (ex_build (cs := [.slice none ([] : List T_api_Node).length 0]) [(0, 1)] [] [.slice none 0 0] U53 zr53 rfl (by kernel_rfl) rfl rfl) <|
  WL.op rfl <|
  OW.box' [.slice none ([] : List T_api_Node).length 0] 40 HF rfl ((congrArg Value.cells (show ev _ _ = (.agg #[.slice none ([] : List T_api_Node).length 0] : Value) from rfl)).trans rfl) ?_
 intro o102 w103 b101 s104 hB105
 refine E rfl (sg (pp b101 0) rfl) <|
  WL.nil <|
  WC.seq <|
  WC.seq <|
  WC.region <|
  E rfl (sg (ii 0) rfl) <|
  WL.nil ?_
 obtain ⟨z113, hz113, H⟩ := bindE H
 replace hra0 := hra0.step s104 rfl
 replace HF := HF.step s104 rfl
 refine WC.for (fun k_ ρ_ w_ => ∃ (o_ : Tags) (x106 : Int) (x107 : T_dictumref03_T) (v108 : Value), Fm o0 w0 o_ w_ [] ∧ Row T_api_Node.rep (fun b_ => o_ b_ = 0) (fun b_ => o_ b_ = 0) w_ pA0 a0 ∧ Bk o_ w_ 40 b101 [v108] 53 ∧ Own T_api_Node.rep 60 41 o_ w_ v108 x107.f_N ∧ ρ_ 0 = .slice pA0 a0.length pc0 ∧ ρ_ 2 = .pointer none ∧ ρ_ 3 = ii 0 ∧ ρ_ 4 = pp b101 0 ∧ ρ_ 5 = ii x106 ∧ dictumref03_From.l1 k a0 k_ x106 x107 = some z113) k (fun ρ_ w_ => ∃ (o_ : Tags) (x110 : T_dictumref03_T) (v111 : Value), Fm o0 w0 o_ w_ [] ∧ Bk o_ w_ 40 b101 [v111] 53 ∧ Own T_api_Node.rep 60 41 o_ w_ v111 x110.f_N ∧ ρ_ 2 = .pointer none ∧ ρ_ 3 = ii 0 ∧ ρ_ 4 = pp b101 0 ∧ z113 = .inr x110) ⟨_, 0, (⟨([] : List T_api_Node)⟩ : T_dictumref03_T), _, HF, hra0, hB105, Own.nil, rfl, rfl, rfl, rfl, rfl, hz113⟩ ?case114 ?_
 case case114 =>
  rintro ρ140 w141 ⟨o142, x110, v111, HF, hB105, hO112, s2_109, s3_109, s4_109, rfl⟩
  dsimp only at H
  refine WC.seq <|
   WC.region <|
   E rfl (mv (pp b101 0) s4_109) <|
   E rfl (sg (pp b101 0) rfl) <|
   E rfl (sg (ii 0) rfl) <|
   WL.nil <|
   WC.ret ?_
  obtain rfl := Option.some.inj H
  replace hB105 := Bk.renTo (j := 39) hB105
  replace hO112 := Own.ren (i := 40) (j := 39) hO112 rfl rfl
  replace HF := HF.ren (i := 40) (j := 39) rfl
  replace hB105 := Bk.ren (i := 41) (j := 38) hB105 rfl
  replace hO112 := Own.renTo (j := 38) hO112 rfl
  replace HF := HF.ren (i := 41) (j := 38) rfl
  exact ⟨_, (.tmp _ rfl (.tmp _ rfl .nil)), _, Or.inr ⟨_, rfl, b101, v111, rfl, HF.out, hB105, hO112⟩⟩
 have Ho115 := H
 rintro k116 ρ117 w118 ⟨o119, x106, x107, v108, HF, hra0, hB105, hO109, s0_105, s2_105, s3_105, s4_105, s5_106, H⟩
 cases k116 with
 | zero => cases H
 | succ k116 =>
 rw [dictumref03_From.l1.eq_2] at H
 refine WC.seq <|
  WC.seq <|
  WC.region <|
  E rfl (mv (ii x106) s5_106) <|
  E rfl (mv (.slice pA0 a0.length pc0) s0_105) <|
  E rfl (ex_len_slice (A := pA0) (m := a0.length) (c := pc0) rfl U22) <|
  E rfl (e2 bin_lss rfl rfl) <|
  WL.nil ?_
 rcases condE H with ⟨c120, H⟩ | ⟨c120, H⟩
 ·
  refine WC.cond_t (vb c120 rfl) <|
   WC.skip <|
   WC.seq <|
   WC.block <|
   WC.seq <|
   WC.region <|
   E rfl (mv (pp b101 0) s4_105) <|
   E rfl (mv (.slice pA0 a0.length pc0) s0_105) <|
   E rfl (mv (ii x106) s5_106) ?_
  obtain ⟨x121, hx121, H⟩ := bindE H
  obtain ⟨ad122, cc126, e123, g124, g125, hl127, hR128, cell129⟩ := Row.ix hra0 hx121
  obtain rfl := T_api_Node.opn hR128
  refine E rfl (ex_indexAddr (i := x106) rfl e123 rfl U22 sz60 g124 g125) <|
   E rfl (ex_loadN (cs := [ii x121.f_Kind, encS x121.f_Name, ii x121.f_L, ii x121.f_R]) rfl U60 rfl sz60 cell129) ?_
  obtain ⟨z131, hz131, H⟩ := bindE H
  refine WL.op rfl <|
   OW.call [pp b101 0, .agg #[ii x121.f_Kind, encS x121.f_Name, ii x121.f_L, ii x121.f_R]] rfl Tryz.func71 (by kernel_rfl) (by kernel_rfl) (map_cons' rfl (map_cons' rfl rfl)) (dictumref03_T_Put.calls k _ _ b101 v108 (a0 := x107) (a1 := x121) hz131 (HF.ten (V := [0]) (L := [40, 41]) rfl) (Bk.vw hB105 rfl) (Own.vw hO109 rfl rfl)) ?_
  rintro _ w132 ⟨o133, v136, rfl, s134, hB135, hO137⟩
  refine ⟨_, rfl, ?_⟩
  replace hB135 := Bk.unO (J := []) 0 hB135 s134 rfl rfl rfl
  replace hO137 := Own.unO (J := []) 1 hO137 s134 rfl rfl rfl
  replace s134 := un_stepL (J := []) (L' := [40, 41]) s134 rfl rfl
  refine E rfl (mv (.tuple #[ii z131.1, ii z131.2.1]) rfl) <|
   E rfl (ex_extract rfl rfl) <|
   E rfl (ex_extract rfl rfl) <|
   E rfl (sg (ii z131.1) rfl) <|
   E rfl (sg (ii z131.2.1) rfl) <|
   WL.nil <|
   WC.seq <|
   WC.seq <|
   WC.region <|
   E rfl (mv (ii z131.2.1) rfl) <|
   E rfl (e2 bin_neq rfl rfl) <|
   WL.nil ?_
  rcases condE H with ⟨c138, H⟩ | ⟨c138, H⟩
  ·
   refine WC.cond_t (vb c138 rfl) <|
    WC.seq <|
    WC.region <|
    E rfl (mv (ii z131.2.1) rfl) <|
    E rfl (sg (.pointer none) rfl) <|
    E rfl (sg (ii z131.2.1) rfl) <|
    WL.nil <|
    WC.ret ?_
   obtain rfl := Option.some.inj H
   replace H := Ho115
   dsimp only at H
   obtain rfl := Option.some.inj H
   replace HF := HF.step s134 rfl
   exact ⟨_, (.tmp _ rfl (.tmp _ rfl .nil)), _, Or.inl ⟨_, rfl, rfl, HF.out, c138⟩⟩
  ·
   refine WC.cond_f (vb c138 rfl) <|
    WC.skip <|
    WC.seq <|
    WC.region <|
    E rfl (mv (ii z131.1) rfl) <|
    E rfl (mv (ii x106) s5_106) <|
    E rfl (e2 bin_neq rfl rfl) <|
    WL.nil ?_
   rcases condE H with ⟨c139, H⟩ | ⟨c139, H⟩
   ·
    refine WC.cond_t (vb c139 rfl) <|
     WC.seq <|
     WC.region <|
     E rfl (sg (.pointer none) rfl) <|
     E rfl (sg (ii 31) rfl) <|
     WL.nil <|
     WC.ret ?_
    obtain rfl := Option.some.inj H
    replace H := Ho115
    dsimp only at H
    obtain rfl := Option.some.inj H
    replace HF := HF.step s134 rfl
    exact ⟨_, (.tmp _ rfl (.tmp _ rfl .nil)), _, Or.inl ⟨_, rfl, rfl, HF.out, rfl⟩⟩
   ·
    refine WC.cond_f (vb c139 rfl) <|
     WC.skip <|
     WC.region <|
     E rfl (mv (ii x106) s5_106) <|
     E rfl (e2 bin_add64 rfl rfl) <|
     E rfl (sg (ii (wrap64 (x106 + 1))) rfl) <|
     WL.nil ?_
    replace hra0 := hra0.step s134 rfl
    replace HF := HF.step s134 rfl
    exact ⟨k116, Nat.lt_succ_self _, ⟨_, wrap64 (x106 + 1), z131.2.2, _, HF, hra0, hB135, hO137, s0_105, s2_105, s3_105, s4_105, rfl, H⟩⟩
 ·
  refine WC.cond_f (vb c120 rfl) <|
   WC.exit ?_
  obtain rfl := Option.some.inj H
  exact ⟨_, x107, _, HF, hB105, hO109, s2_105, s3_105, s4_105, rfl⟩

/-! ### formula_New -/
set_option maxRecDepth 100000 in
theorem formula_New.calls (o0 : Tags) (w0 : World) {r : (T_formula_Table × (List (T_api_Node × Int)))} (H : formula_New.f = some r) (hO : ∀ b, b < w0.heap.size → o0 b < 40) :
  Calls Tryz.prog 21 [].toArray w0 fun e_ w_ => ∃ (o_ : Tags) (b_0 : Nat) (rv0_0 : Value) (m_0_1 : Nat), e_ = .returned (one [pp b_0 0]) ∧ Step o0 w0 o_ w_ [] ∧ Bk o_ w_ 39 b_0 [rv0_0, .map (some m_0_1)] 56 ∧ Own T_api_Node.rep 60 38 o_ w_ rv0_0 r.1.f_rows ∧ Mp (fun x_ : T_api_Node => Value.agg #[ii x_.f_Kind, encS x_.f_Name, ii x_.f_L, ii x_.f_R]) (fun v_ : Int => ii v_) 37 o_ w_ m_0_1 r.2 := by
 have HF := Fm.refl hO []
 unfold formula_New.f at H
 refine SX.calls [] Tryz.func21 rfl rfl ?_
 rw [Tryz.ntmps21]
 refine WC.seq <|
  WC.region <|
  E rfl (sg (.pointer none) rfl) <|
  WL.nil <|
  WC.seq <|
  WC.region <|
  WL.op rfl <|
  OW.makeMap (fun x_ : T_api_Node => Value.agg #[ii x_.f_Kind, encS x_.f_Name, ii x_.f_L, ii x_.f_R]) (fun v_ : Int => ii v_) 40 HF rfl ?_
 intro o102 w103 b101 s104 hM105
 refine E rfl (ex_build (cs := [.slice none ([] : List T_api_Node).length 0, .map (some b101)]) [(0, 1), (1, 1)] [(1, .map (some b101))] [.slice none 0 0, .map none] U56 zr56 rfl (by kernel_rfl) (evs_cons rfl rfl) rfl) <|
  WL.op rfl ?_
 replace HF := HF.step s104 rfl
 refine OW.box' [.slice none ([] : List T_api_Node).length 0, .map (some b101)] 41 HF rfl ((congrArg Value.cells (show ev _ _ = (.agg #[.slice none ([] : List T_api_Node).length 0, .map (some b101)] : Value) from rfl)).trans rfl) ?_
 intro o107 w108 b106 s109 hB110
 refine E rfl (sg (pp b106 0) rfl) <|
  WL.nil <|
  WC.ret ?_
 obtain rfl := Option.some.inj H
 replace hB110 := Bk.renTo (j := 39) hB110
 replace hM105 := hM105.step s109 rfl
 replace hM105 := Mp.ren (k := 41) (l := 39) hM105 rfl rfl
 replace HF := HF.step s109 rfl
 replace HF := HF.ren (i := 41) (j := 39) rfl
 replace hB110 := Bk.ren (i := 40) (j := 37) hB110 rfl
 replace hM105 := Mp.renTo (j := 37) hM105
 replace HF := HF.ren (i := 40) (j := 37) rfl
 exact ⟨_, (.tmp _ rfl .nil), _, b106, (.slice none 0 0), b101, rfl, HF.out, hB110, Own.nil, hM105⟩

/-! ### formula_Table_alive -/
set_option maxRecDepth 100000 in
theorem formula_Table_alive.calls (o0 : Tags) (w0 : World) (pb0 : Nat) (pv0_0 : Value) (pb0_1 : Nat) {a0 : T_formula_Table} {a0_1 : (List (T_api_Node × Int))} {r : Bool} (H : formula_Table_alive.f a0 a0_1 = some r) (hO : ∀ b, b < w0.heap.size → o0 b < 40) (hB0 : Bk o0 w0 2 pb0 [pv0_0, .map (some pb0_1)] 56) (hO0_0 : Own T_api_Node.rep 60 3 o0 w0 pv0_0 a0.f_rows) (hM0_1 : Mp (fun x_ : T_api_Node => Value.agg #[ii x_.f_Kind, encS x_.f_Name, ii x_.f_L, ii x_.f_R]) (fun v_ : Int => ii v_) 4 o0 w0 pb0_1 a0_1) :
  Calls Tryz.prog 22 [pp pb0 0].toArray w0 fun e_ w_ => ∃ (o_ : Tags), e_ = .returned (one [.bool r]) ∧ Step o0 w0 o_ w_ [] := by
 have HF := Fm.refl hO []
 unfold formula_Table_alive.f at H
 refine SX.calls [pp pb0 0] Tryz.func22 rfl rfl ?_
 rw [Tryz.ntmps22]
 refine WC.seq <|
  WC.region <|
  E rfl (sg (.bool false) rfl) <|
  WL.nil <|
  WC.seq <|
  WC.region <|
  E rfl (mv (pp pb0 0) rfl) <|
  E rfl (ex_bin (a := pp pb0 0) (b := .pointer none) (v := .bool true) rfl rfl (bin_neq_ptrSN U23)) <|
  E rfl (mv (.bool true) rfl) <|
  WL.guardYes rfl rfl rfl rfl <|
  OW.ex rfl (mv (pp pb0 0) rfl) <|
  WL.guardYes rfl rfl rfl rfl <|
  OW.ex rfl (ex_nilCheck rfl) <|
  WL.guardYes rfl rfl rfl rfl <|
  OW.ex rfl (ex_fieldAddr rfl U56 rfl sz54) <|
  WL.guardYes rfl rfl rfl rfl <|
  OW.ex rfl (ex_load1 rfl U54 rfl (hB0.cell rfl)) <|
  WL.guardYes rfl rfl rfl rfl <|
  OW.ex rfl (ex_bin (a := .map (some pb0_1)) (b := .map none) (v := .bool true) rfl rfl (bin_neq_mapS U54)) <|
  E rfl (ex_pick_t (v := .bool true) rfl rfl) <|
  E rfl (sg (.bool true) rfl) <|
  WL.nil <|
  WC.ret ?_
 obtain rfl := Option.some.inj H
 exact ⟨_, (.tmp _ rfl .nil), _, rfl, HF.out⟩

/-! ### formula_reserved -/
set_option maxRecDepth 100000 in
theorem formula_reserved.calls (o0 : Tags) (w0 : World) {a0 : List UInt8} {r : Bool} (H : formula_reserved.f a0 = some r) (hO : ∀ b, b < w0.heap.size → o0 b < 40) :
  Calls Tryz.prog 120 [encS a0].toArray w0 fun e_ w_ => ∃ (o_ : Tags), e_ = .returned (one [.bool r]) ∧ Step o0 w0 o_ w_ [] := by
 have HF := Fm.refl hO []
 unfold formula_reserved.f at H
 refine SX.calls [encS a0] Tryz.func120 rfl rfl ?_
 rw [Tryz.ntmps120]
 refine WC.seq <|
  WC.region <|
  E rfl (sg (.bool false) rfl) <|
  WL.nil <|
  WC.seq <|
  WC.seq <|
  WC.region <|
  E rfl (mv (encS a0) rfl) <|
  WL.nil <|
  WC.block ?_
 obtain ⟨z102, hz102, H⟩ := bindE H
 refine WC.cut (fun ρ_ w_ => ∃ (o_ : Tags), Fm o0 w0 o_ w_ [] ∧ ρ_ 2 = .bool false ∧ ρ_ 4 = .bool z102) ?case103 ?_
 case case103 =>
  rintro ρ106 w104 ⟨o105, HF, s2_100, s4_101⟩
  rcases condE H with ⟨c107, H⟩ | ⟨c107, H⟩
  ·
   refine WC.cond_t (vb c107 s4_101) <|
    WC.seq <|
    WC.region <|
    E rfl (sg (.bool true) rfl) <|
    WL.nil <|
    WC.ret ?_
   obtain rfl := Option.some.inj H
   exact ⟨_, (.tmp _ rfl .nil), _, rfl, HF.out⟩
  ·
   refine WC.cond_f (vb c107 s4_101) <|
    WC.skip <|
    WC.seq <|
    WC.region <|
    E rfl (sg (.bool false) rfl) <|
    WL.nil <|
    WC.ret ?_
   obtain rfl := Option.some.inj H
   exact ⟨_, (.tmp _ rfl .nil), _, rfl, HF.out⟩
 have Ho108 := H
 replace H := hz102
 refine WC.seq <|
  WC.region <|
  E rfl (e2 bin_eql_str rfl rfl) <|
  E rfl (sg (.bool (a0 == ([97, 98, 111, 114, 116] : List UInt8))) rfl) <|
  WL.nil ?_
 rcases condE H with ⟨c109, H⟩ | ⟨c109, H⟩
 ·
  refine WC.cond_t (vb c109 rfl) <|
   WC.skip ?_
  obtain rfl := Option.some.inj H
  exact ⟨_, HF, rfl, rfl⟩
 ·
  refine WC.cond_f (vb c109 rfl) <|
   WC.seq <|
   WC.region <|
   E rfl (e2 bin_eql_str rfl rfl) <|
   E rfl (sg (.bool (a0 == ([99, 97, 115, 101] : List UInt8))) rfl) <|
   WL.nil ?_
  rcases condE H with ⟨c110, H⟩ | ⟨c110, H⟩
  ·
   refine WC.cond_t (vb c110 rfl) <|
    WC.skip ?_
   obtain rfl := Option.some.inj H
   exact ⟨_, HF, rfl, rfl⟩
  ·
   refine WC.cond_f (vb c110 rfl) <|
    WC.seq <|
    WC.region <|
    E rfl (e2 bin_eql_str rfl rfl) <|
    E rfl (sg (.bool (a0 == ([102, 97, 108, 115, 101] : List UInt8))) rfl) <|
    WL.nil ?_
   rcases condE H with ⟨c111, H⟩ | ⟨c111, H⟩
   ·
    refine WC.cond_t (vb c111 rfl) <|
     WC.skip ?_
    obtain rfl := Option.some.inj H
    exact ⟨_, HF, rfl, rfl⟩
   ·
    refine WC.cond_f (vb c111 rfl) <|
     WC.seq <|
     WC.region <|
     E rfl (e2 bin_eql_str rfl rfl) <|
     E rfl (sg (.bool (a0 == ([102, 115, 116] : List UInt8))) rfl) <|
     WL.nil ?_
    rcases condE H with ⟨c112, H⟩ | ⟨c112, H⟩
    ·
     refine WC.cond_t (vb c112 rfl) <|
      WC.skip ?_
     obtain rfl := Option.some.inj H
     exact ⟨_, HF, rfl, rfl⟩
    ·
     refine WC.cond_f (vb c112 rfl) <|
      WC.seq <|
      WC.region <|
      E rfl (e2 bin_eql_str rfl rfl) <|
      E rfl (sg (.bool (a0 == ([102, 117, 110] : List UInt8))) rfl) <|
      WL.nil ?_
     rcases condE H with ⟨c113, H⟩ | ⟨c113, H⟩
     ·
      refine WC.cond_t (vb c113 rfl) <|
       WC.skip ?_
      obtain rfl := Option.some.inj H
      exact ⟨_, HF, rfl, rfl⟩
     ·
      refine WC.cond_f (vb c113 rfl) <|
       WC.seq <|
       WC.region <|
       E rfl (e2 bin_eql_str rfl rfl) <|
       E rfl (sg (.bool (a0 == ([105, 110] : List UInt8))) rfl) <|
       WL.nil ?_
      rcases condE H with ⟨c114, H⟩ | ⟨c114, H⟩
      ·
       refine WC.cond_t (vb c114 rfl) <|
        WC.skip ?_
       obtain rfl := Option.some.inj H
       exact ⟨_, HF, rfl, rfl⟩
      ·
       refine WC.cond_f (vb c114 rfl) <|
        WC.seq <|
        WC.region <|
        E rfl (e2 bin_eql_str rfl rfl) <|
        E rfl (sg (.bool (a0 == ([105, 110, 108] : List UInt8))) rfl) <|
        WL.nil ?_
       rcases condE H with ⟨c115, H⟩ | ⟨c115, H⟩
       ·
        refine WC.cond_t (vb c115 rfl) <|
         WC.skip ?_
        obtain rfl := Option.some.inj H
        exact ⟨_, HF, rfl, rfl⟩
       ·
        refine WC.cond_f (vb c115 rfl) <|
         WC.seq <|
         WC.region <|
         E rfl (e2 bin_eql_str rfl rfl) <|
         E rfl (sg (.bool (a0 == ([105, 110, 114] : List UInt8))) rfl) <|
         WL.nil ?_
        rcases condE H with ⟨c116, H⟩ | ⟨c116, H⟩
        ·
         refine WC.cond_t (vb c116 rfl) <|
          WC.skip ?_
         obtain rfl := Option.some.inj H
         exact ⟨_, HF, rfl, rfl⟩
        ·
         refine WC.cond_f (vb c116 rfl) <|
          WC.seq <|
          WC.region <|
          E rfl (e2 bin_eql_str rfl rfl) <|
          E rfl (sg (.bool (a0 == ([108, 101, 116] : List UInt8))) rfl) <|
          WL.nil ?_
         rcases condE H with ⟨c117, H⟩ | ⟨c117, H⟩
         ·
          refine WC.cond_t (vb c117 rfl) <|
           WC.skip ?_
          obtain rfl := Option.some.inj H
          exact ⟨_, HF, rfl, rfl⟩
         ·
          refine WC.cond_f (vb c117 rfl) <|
           WC.seq <|
           WC.region <|
           E rfl (e2 bin_eql_str rfl rfl) <|
           E rfl (sg (.bool (a0 == ([111, 102] : List UInt8))) rfl) <|
           WL.nil ?_
          rcases condE H with ⟨c118, H⟩ | ⟨c118, H⟩
          ·
           refine WC.cond_t (vb c118 rfl) <|
            WC.skip ?_
           obtain rfl := Option.some.inj H
           exact ⟨_, HF, rfl, rfl⟩
          ·
           refine WC.cond_f (vb c118 rfl) <|
            WC.seq <|
            WC.region <|
            E rfl (e2 bin_eql_str rfl rfl) <|
            E rfl (sg (.bool (a0 == ([115, 110, 100] : List UInt8))) rfl) <|
            WL.nil ?_
           rcases condE H with ⟨c119, H⟩ | ⟨c119, H⟩
           ·
            refine WC.cond_t (vb c119 rfl) <|
             WC.skip ?_
            obtain rfl := Option.some.inj H
            exact ⟨_, HF, rfl, rfl⟩
           ·
            refine WC.cond_f (vb c119 rfl) <|
             WC.region <|
             E rfl (e2 bin_eql_str rfl rfl) <|
             E rfl (sg (.bool (a0 == ([116, 114, 117, 101] : List UInt8))) rfl) <|
             WL.nil ?_
            obtain rfl := Option.some.inj H
            exact ⟨_, HF, rfl, rfl⟩

/-! ### formula_Word -/
set_option maxRecDepth 100000 in
theorem formula_Word.calls (k : Nat) (o0 : Tags) (w0 : World) {a0 : List UInt8} {r : Bool} (H : formula_Word.f k a0 = some r) (hO : ∀ b, b < w0.heap.size → o0 b < 40) :
  Calls Tryz.prog 112 [encS a0].toArray w0 fun e_ w_ => ∃ (o_ : Tags), e_ = .returned (one [.bool r]) ∧ Step o0 w0 o_ w_ [] := by
 have HF := Fm.refl hO []
 unfold formula_Word.f at H
 refine SX.calls [encS a0] Tryz.func112 rfl rfl ?_
 rw [Tryz.ntmps112]
 refine WC.seq <|
  WC.region <|
  E rfl (sg (.bool false) rfl) <|
  WL.nil <|
  WC.seq <|
  WC.seq <|
  WC.region <|
  E rfl (mv (encS a0) rfl) <|
  E rfl (ex_len_str (s := a0) rfl U9) <|
  E rfl (mv (ii 0) rfl) <|
  WL.nil ?_
 obtain ⟨z102, hz102, H⟩ := bindE H
 refine WC.for (fun k_ ρ_ w_ => ∃ (o_ : Tags) (x101 : Int), Fm o0 w0 o_ w_ [] ∧ ρ_ 0 = encS a0 ∧ ρ_ 2 = .bool false ∧ ρ_ 8 = ii (a0.length : Int) ∧ ρ_ 9 = ii x101 ∧ formula_Word.l1 k a0 k_ x101 = some z102) k (fun ρ_ w_ => ∃ (o_ : Tags), Fm o0 w0 o_ w_ [] ∧ ρ_ 0 = encS a0 ∧ ρ_ 2 = .bool false ∧ z102 = .inr ()) ⟨_, 0, HF, rfl, rfl, rfl, rfl, hz102⟩ ?case103 ?_
 case case103 =>
  rintro ρ132 w133 ⟨o134, HF, s0_101, s2_101, rfl⟩
  dsimp only at H
  refine WC.seq <|
   WC.region <|
   E rfl (mv (encS a0) s0_101) <|
   E rfl (e2 bin_neq_str rfl rfl) <|
   E rfl (mv (.bool (!(a0 == ([] : List UInt8)))) rfl) ?_
  rcases condE H with ⟨c135, H⟩ | ⟨c135, H⟩
  ·
   refine WL.guardYes rfl rfl rfl (vb c135 rfl) <|
    OW.ex rfl (mv (encS a0) s0_101) <|
    WL.guardYes rfl rfl rfl (vb c135 rfl) <|
    OW.ex rfl (ex_len_str (s := a0) rfl U9) <|
    WL.guardYes rfl rfl rfl (vb c135 rfl) <|
    OW.ex rfl (e2 bin_leq rfl rfl) <|
    E rfl (ex_pick_t (v := .bool (decide ((a0.length : Int) ≤ 31))) (vb c135 rfl) rfl) <|
    E rfl (mv (.bool (decide ((a0.length : Int) ≤ 31))) rfl) ?_
   rcases condE H with ⟨c136, H⟩ | ⟨c136, H⟩
   ·
    refine WL.guardYes rfl rfl rfl (vb c136 rfl) <|
     OW.ex rfl (mv (encS a0) s0_101) <|
     WL.guardYes rfl rfl rfl (vb c136 rfl) ?_
    obtain ⟨z137, hz137, H⟩ := bindE H
    refine OW.call [encS a0] rfl Tryz.func120 (by kernel_rfl) (by kernel_rfl) (map_cons' rfl rfl) (formula_reserved.calls _ _ hz137 (HF.ten (V := [0]) (L := []) rfl) ) ?_
    rintro _ w138 ⟨o139, rfl, s140⟩
    refine ⟨_, rfl, ?_⟩
    replace s140 := un_stepL (J := []) (L' := []) s140 rfl rfl
    refine WL.guardYes rfl rfl rfl (vb c136 rfl) <|
     OW.ex rfl (ex_not (b := z137) rfl) <|
     E rfl (ex_pick_t (v := .bool (!z137)) (vb c136 rfl) rfl) <|
     E rfl (sg (.bool (!z137)) rfl) <|
     WL.nil <|
     WC.ret ?_
    obtain rfl := Option.some.inj H
    replace HF := HF.step s140 rfl
    exact ⟨_, (.tmp _ rfl .nil), _, rfl, HF.out⟩
   ·
    refine WL.guardNo rfl rfl rfl (vb c136 rfl) <|
     WL.guardNo rfl rfl rfl (vb c136 rfl) <|
     WL.guardNo rfl rfl rfl (vb c136 rfl) <|
     E rfl (ex_pick_f (v := .bool false) (vb c136 rfl) rfl) <|
     E rfl (sg (.bool false) rfl) <|
     WL.nil <|
     WC.ret ?_
    obtain rfl := Option.some.inj H
    exact ⟨_, (.tmp _ rfl .nil), _, rfl, HF.out⟩
  ·
   refine WL.guardNo rfl rfl rfl (vb c135 rfl) <|
    WL.guardNo rfl rfl rfl (vb c135 rfl) <|
    WL.guardNo rfl rfl rfl (vb c135 rfl) <|
    E rfl (ex_pick_f (v := .bool false) (vb c135 rfl) rfl) <|
    E rfl (mv (.bool false) rfl) <|
    WL.guardNo rfl rfl rfl rfl <|
    WL.guardNo rfl rfl rfl rfl <|
    WL.guardNo rfl rfl rfl rfl <|
    E rfl (ex_pick_f (v := .bool false) rfl rfl) <|
    E rfl (sg (.bool false) rfl) <|
    WL.nil <|
    WC.ret ?_
   obtain rfl := Option.some.inj H
   exact ⟨_, (.tmp _ rfl .nil), _, rfl, HF.out⟩
 have Ho104 := H
 rintro k105 ρ106 w107 ⟨o108, x101, HF, s0_100, s2_100, s8_100, s9_101, H⟩
 cases k105 with
 | zero => cases H
 | succ k105 =>
 rw [formula_Word.l1.eq_2] at H
 refine WC.seq <|
  WC.region <|
  E rfl (e2 bin_lss s9_101 s8_100) <|
  WL.nil <|
  WC.seq ?_
 rcases condE H with ⟨c109, H⟩ | ⟨c109, H⟩
 ·
  refine WC.cond_t (vb c109 rfl) <|
   WC.skip <|
   WC.seq <|
   WC.block <|
   WC.seq <|
   WC.region <|
   E rfl (mv (ii x101) s9_101) <|
   E rfl (sg (ii x101) rfl) <|
   WL.nil <|
   WC.seq <|
   WC.region <|
   E rfl (mv (encS a0) s0_100) <|
   E rfl (mv (ii x101) rfl) ?_
  obtain ⟨x110, hx110, H⟩ := bindE H
  refine E rfl (ex_index_str (i := x101) rfl rfl U9 (ix_some hx110).1 (ix_some hx110).2.2) <|
   E rfl (sg (enc8 x110) rfl) <|
   WL.nil <|
   WC.seq <|
   WC.region <|
   E rfl (mv (enc8 x110) rfl) <|
   E rfl (ex_bin (a := enc8 x110) (b := enc8 (32 : UInt8)) (v := enc8 (x110 ||| (32 : UInt8))) rfl rfl bin_or_u8) <|
   E rfl (sg (enc8 (x110 ||| (32 : UInt8))) rfl) <|
   WL.nil ?_
  obtain ⟨z112, hz112, H⟩ := bindE H
  refine WC.cut (fun ρ_ w_ => ∃ (o_ : Tags), Fm o0 w0 o_ w_ [] ∧ ρ_ 0 = encS a0 ∧ ρ_ 2 = .bool false ∧ ρ_ 3 = ii x101 ∧ ρ_ 4 = enc8 x110 ∧ ρ_ 6 = .bool z112 ∧ ρ_ 8 = ii (a0.length : Int) ∧ ρ_ 9 = ii x101) ?case113 ?_
  case case113 =>
   rintro ρ116 w114 ⟨o115, HF, s0_110, s2_110, s3_110, s4_110, s6_111, s8_111, s9_111⟩
   obtain ⟨z118, hz118, H⟩ := bindE H
   refine WC.cut (fun ρ_ w_ => ∃ (o_ : Tags), Fm o0 w0 o_ w_ [] ∧ ρ_ 0 = encS a0 ∧ ρ_ 2 = .bool false ∧ ρ_ 8 = ii (a0.length : Int) ∧ ρ_ 9 = ii x101 ∧ ρ_ 44 = .bool z118) ?case119 ?_
   case case119 =>
    rintro ρ122 w120 ⟨o121, HF, s0_116, s2_116, s8_116, s9_116, s44_117⟩
    rcases condE H with ⟨c123, H⟩ | ⟨c123, H⟩
    ·
     refine WC.cond_t (vb c123 s44_117) <|
      WC.seq <|
      WC.region <|
      E rfl (sg (.bool false) rfl) <|
      WL.nil <|
      WC.ret ?_
     obtain rfl := Option.some.inj H
     replace H := Ho104
     dsimp only at H
     obtain rfl := Option.some.inj H
     exact ⟨_, (.tmp _ rfl .nil), _, rfl, HF.out⟩
    ·
     refine WC.cond_f (vb c123 s44_117) <|
      WC.skip <|
      WC.region <|
      E rfl (e2 bin_add64 s9_116 rfl) <|
      E rfl (mv (ii (wrap64 (x101 + 1))) rfl) <|
      WL.nil ?_
     exact ⟨k105, Nat.lt_succ_self _, ⟨_, wrap64 (x101 + 1), HF, s0_116, s2_116, s8_116, rfl, H⟩⟩
   have Ho124 := H
   replace H := hz118
   refine WC.region <|
    E rfl (mv (.bool z112) s6_111) <|
    E rfl (ex_not (b := z112) rfl) <|
    E rfl (mv (.bool (!z112)) rfl) ?_
   rcases condE H with ⟨c125, H⟩ | ⟨c125, H⟩
   ·
    refine WL.guardYes rfl rfl rfl (vb c125 rfl) <|
     OW.ex rfl (mv (ii x101) s3_110) <|
     WL.guardYes rfl rfl rfl (vb c125 rfl) <|
     OW.ex rfl (e2 bin_eql rfl rfl) <|
     WL.guardYes rfl rfl rfl (vb c125 rfl) <|
     OW.ex rfl (mv (.bool (x101 == 0)) rfl) ?_
    rcases condE H with ⟨c126, H⟩ | ⟨c126, H⟩
    ·
     refine WL.guardNo rfl rfl rfl (vb c126 rfl) <|
      WL.guardNo rfl rfl rfl (vb c126 rfl) <|
      WL.guardNo rfl rfl rfl (vb c126 rfl) <|
      WL.guardUn rfl rfl rfl rfl <|
      WL.guardUn rfl rfl rfl rfl <|
      WL.guardNo rfl rfl rfl (vb c126 rfl) <|
      WL.guardNo rfl rfl rfl (vb c126 rfl) <|
      WL.guardUn rfl rfl rfl rfl <|
      WL.guardUn rfl rfl rfl rfl <|
      WL.guardUn rfl rfl rfl rfl <|
      WL.guardUn rfl rfl rfl rfl <|
      WL.guardUn rfl rfl rfl rfl <|
      WL.guardUn rfl rfl rfl rfl <|
      WL.guardNo rfl rfl rfl (vb c126 rfl) <|
      WL.guardYes rfl rfl rfl (vb c125 rfl) <|
      OW.ex rfl (ex_pick_t (v := .bool true) (vb c126 rfl) rfl) <|
      E rfl (ex_pick_t (v := .bool true) (vb c125 rfl) rfl) <|
      WL.nil ?_
     obtain rfl := Option.some.inj H
     exact ⟨_, HF, s0_110, s2_110, s8_111, s9_111, rfl⟩
    ·
     refine WL.guardYes rfl rfl rfl (vb c126 rfl) <|
      OW.ex rfl (mv (enc8 x110) s4_110) <|
      WL.guardYes rfl rfl rfl (vb c126 rfl) <|
      OW.ex rfl (ex_bin (a := enc8 x110) (b := enc8 (95 : UInt8)) (v := .bool (!(x110 == (95 : UInt8)))) rfl rfl bin_neq_u8) <|
      WL.guardYes rfl rfl rfl (vb c126 rfl) <|
      OW.ex rfl (mv (.bool (!(x110 == (95 : UInt8)))) rfl) ?_
     rcases condE H with ⟨c127, H⟩ | ⟨c127, H⟩
     ·
      refine WL.guardYes rfl rfl rfl (vb c127 rfl) <|
       OW.ex rfl (mv (enc8 x110) s4_110) <|
       WL.guardYes rfl rfl rfl (vb c127 rfl) <|
       OW.ex rfl (ex_bin (a := enc8 x110) (b := enc8 (39 : UInt8)) (v := .bool (!(x110 == (39 : UInt8)))) rfl rfl bin_neq_u8) <|
       WL.guardYes rfl rfl rfl (vb c126 rfl) <|
       OW.ex rfl (ex_pick_t (v := .bool (!(x110 == (39 : UInt8)))) (vb c127 rfl) rfl) <|
       WL.guardYes rfl rfl rfl (vb c126 rfl) <|
       OW.ex rfl (mv (.bool (!(x110 == (39 : UInt8)))) rfl) ?_
      rcases condE H with ⟨c128, H⟩ | ⟨c128, H⟩
      ·
       refine WL.guardYes rfl rfl rfl (vb c128 rfl) <|
        OW.ex rfl (mv (enc8 x110) s4_110) <|
        WL.guardYes rfl rfl rfl (vb c128 rfl) <|
        OW.ex rfl (ex_bin (a := enc8 x110) (b := enc8 (48 : UInt8)) (v := .bool (decide (x110 < (48 : UInt8)))) rfl rfl bin_lss_u8) <|
        WL.guardYes rfl rfl rfl (vb c128 rfl) <|
        OW.ex rfl (mv (.bool (decide (x110 < (48 : UInt8)))) rfl) ?_
       rcases condE H with ⟨c129, H⟩ | ⟨c129, H⟩
       ·
        refine WL.guardNo rfl rfl rfl (vb c129 rfl) <|
         WL.guardNo rfl rfl rfl (vb c129 rfl) <|
         WL.guardYes rfl rfl rfl (vb c128 rfl) <|
         OW.ex rfl (ex_pick_t (v := .bool true) (vb c129 rfl) rfl) <|
         WL.guardYes rfl rfl rfl (vb c126 rfl) <|
         OW.ex rfl (ex_pick_t (v := .bool true) (vb c128 rfl) rfl) <|
         WL.guardYes rfl rfl rfl (vb c125 rfl) <|
         OW.ex rfl (ex_pick_f (v := .bool true) (vb c126 rfl) rfl) <|
         E rfl (ex_pick_t (v := .bool true) (vb c125 rfl) rfl) <|
         WL.nil ?_
        obtain rfl := Option.some.inj H
        exact ⟨_, HF, s0_110, s2_110, s8_111, s9_111, rfl⟩
       ·
        refine WL.guardYes rfl rfl rfl (vb c129 rfl) <|
         OW.ex rfl (mv (enc8 x110) s4_110) <|
         WL.guardYes rfl rfl rfl (vb c129 rfl) <|
         OW.ex rfl (ex_bin (a := enc8 x110) (b := enc8 (57 : UInt8)) (v := .bool (decide ((57 : UInt8) < x110))) rfl rfl bin_gtr_u8) <|
         WL.guardYes rfl rfl rfl (vb c128 rfl) <|
         OW.ex rfl (ex_pick_f (v := .bool (decide ((57 : UInt8) < x110))) (vb c129 rfl) rfl) <|
         WL.guardYes rfl rfl rfl (vb c126 rfl) <|
         OW.ex rfl (ex_pick_t (v := .bool (decide ((57 : UInt8) < x110))) (vb c128 rfl) rfl) <|
         WL.guardYes rfl rfl rfl (vb c125 rfl) <|
         OW.ex rfl (ex_pick_f (v := .bool (decide ((57 : UInt8) < x110))) (vb c126 rfl) rfl) <|
         E rfl (ex_pick_t (v := .bool (decide ((57 : UInt8) < x110))) (vb c125 rfl) rfl) <|
         WL.nil ?_
        obtain rfl := Option.some.inj H
        exact ⟨_, HF, s0_110, s2_110, s8_111, s9_111, rfl⟩
      ·
       refine WL.guardNo rfl rfl rfl (vb c128 rfl) <|
        WL.guardNo rfl rfl rfl (vb c128 rfl) <|
        WL.guardNo rfl rfl rfl (vb c128 rfl) <|
        WL.guardUn rfl rfl rfl rfl <|
        WL.guardUn rfl rfl rfl rfl <|
        WL.guardNo rfl rfl rfl (vb c128 rfl) <|
        WL.guardYes rfl rfl rfl (vb c126 rfl) <|
        OW.ex rfl (ex_pick_f (v := .bool false) (vb c128 rfl) rfl) <|
        WL.guardYes rfl rfl rfl (vb c125 rfl) <|
        OW.ex rfl (ex_pick_f (v := .bool false) (vb c126 rfl) rfl) <|
        E rfl (ex_pick_t (v := .bool false) (vb c125 rfl) rfl) <|
        WL.nil ?_
       obtain rfl := Option.some.inj H
       exact ⟨_, HF, s0_110, s2_110, s8_111, s9_111, rfl⟩
     ·
      refine WL.guardNo rfl rfl rfl (vb c127 rfl) <|
       WL.guardNo rfl rfl rfl (vb c127 rfl) <|
       WL.guardYes rfl rfl rfl (vb c126 rfl) <|
       OW.ex rfl (ex_pick_f (v := .bool false) (vb c127 rfl) rfl) <|
       WL.guardYes rfl rfl rfl (vb c126 rfl) <|
       OW.ex rfl (mv (.bool false) rfl) <|
       WL.guardNo rfl rfl rfl rfl <|
       WL.guardNo rfl rfl rfl rfl <|
       WL.guardNo rfl rfl rfl rfl <|
       WL.guardUn rfl rfl rfl rfl <|
       WL.guardUn rfl rfl rfl rfl <|
       WL.guardNo rfl rfl rfl rfl <|
       WL.guardYes rfl rfl rfl (vb c126 rfl) <|
       OW.ex rfl (ex_pick_f (v := .bool false) rfl rfl) <|
       WL.guardYes rfl rfl rfl (vb c125 rfl) <|
       OW.ex rfl (ex_pick_f (v := .bool false) (vb c126 rfl) rfl) <|
       E rfl (ex_pick_t (v := .bool false) (vb c125 rfl) rfl) <|
       WL.nil ?_
      obtain rfl := Option.some.inj H
      exact ⟨_, HF, s0_110, s2_110, s8_111, s9_111, rfl⟩
   ·
    refine WL.guardNo rfl rfl rfl (vb c125 rfl) <|
     WL.guardNo rfl rfl rfl (vb c125 rfl) <|
     WL.guardNo rfl rfl rfl (vb c125 rfl) <|
     WL.guardUn rfl rfl rfl rfl <|
     WL.guardUn rfl rfl rfl rfl <|
     WL.guardUn rfl rfl rfl rfl <|
     WL.guardUn rfl rfl rfl rfl <|
     WL.guardUn rfl rfl rfl rfl <|
     WL.guardUn rfl rfl rfl rfl <|
     WL.guardUn rfl rfl rfl rfl <|
     WL.guardUn rfl rfl rfl rfl <|
     WL.guardUn rfl rfl rfl rfl <|
     WL.guardUn rfl rfl rfl rfl <|
     WL.guardUn rfl rfl rfl rfl <|
     WL.guardUn rfl rfl rfl rfl <|
     WL.guardUn rfl rfl rfl rfl <|
     WL.guardUn rfl rfl rfl rfl <|
     WL.guardNo rfl rfl rfl (vb c125 rfl) <|
     E rfl (ex_pick_f (v := .bool false) (vb c125 rfl) rfl) <|
     WL.nil ?_
    obtain rfl := Option.some.inj H
    exact ⟨_, HF, s0_110, s2_110, s8_111, s9_111, rfl⟩
  have Ho130 := H
  replace H := hz112
  refine WC.region <|
   E rfl (mv (enc8 (x110 ||| (32 : UInt8))) rfl) <|
   E rfl (ex_bin (a := enc8 (x110 ||| (32 : UInt8))) (b := enc8 (97 : UInt8)) (v := .bool (decide ((97 : UInt8) ≤ (x110 ||| (32 : UInt8))))) rfl rfl bin_geq_u8) <|
   E rfl (mv (.bool (decide ((97 : UInt8) ≤ (x110 ||| (32 : UInt8))))) rfl) ?_
  rcases condE H with ⟨c131, H⟩ | ⟨c131, H⟩
  ·
   refine WL.guardYes rfl rfl rfl (vb c131 rfl) <|
    OW.ex rfl (mv (enc8 (x110 ||| (32 : UInt8))) rfl) <|
    WL.guardYes rfl rfl rfl (vb c131 rfl) <|
    OW.ex rfl (ex_bin (a := enc8 (x110 ||| (32 : UInt8))) (b := enc8 (122 : UInt8)) (v := .bool (decide ((x110 ||| (32 : UInt8)) ≤ (122 : UInt8)))) rfl rfl bin_leq_u8) <|
    E rfl (ex_pick_t (v := .bool (decide ((x110 ||| (32 : UInt8)) ≤ (122 : UInt8)))) (vb c131 rfl) rfl) <|
    E rfl (sg (.bool (decide ((x110 ||| (32 : UInt8)) ≤ (122 : UInt8)))) rfl) <|
    WL.nil ?_
   obtain rfl := Option.some.inj H
   exact ⟨_, HF, s0_100, s2_100, rfl, rfl, rfl, s8_100, s9_101⟩
  ·
   refine WL.guardNo rfl rfl rfl (vb c131 rfl) <|
    WL.guardNo rfl rfl rfl (vb c131 rfl) <|
    E rfl (ex_pick_f (v := .bool false) (vb c131 rfl) rfl) <|
    E rfl (sg (.bool false) rfl) <|
    WL.nil ?_
   obtain rfl := Option.some.inj H
   exact ⟨_, HF, s0_100, s2_100, rfl, rfl, rfl, s8_100, s9_101⟩
 ·
  refine WC.cond_f (vb c109 rfl) <|
   WC.exit ?_
  obtain rfl := Option.some.inj H
  exact ⟨_, HF, s0_100, s2_100, rfl⟩

/-! ### formula_Table_has -/
set_option maxRecDepth 100000 in
theorem formula_Table_has.calls (o0 : Tags) (w0 : World) (pb0 : Nat) (pv0_0 : Value) (pb0_1 : Nat) {a0 : T_formula_Table} {a1 : Int} {a0_1 : (List (T_api_Node × Int))} {r : Bool} (H : formula_Table_has.f a0 a1 a0_1 = some r) (hO : ∀ b, b < w0.heap.size → o0 b < 40) (hB0 : Bk o0 w0 2 pb0 [pv0_0, .map (some pb0_1)] 56) (hO0_0 : Own T_api_Node.rep 60 3 o0 w0 pv0_0 a0.f_rows) (hM0_1 : Mp (fun x_ : T_api_Node => Value.agg #[ii x_.f_Kind, encS x_.f_Name, ii x_.f_L, ii x_.f_R]) (fun v_ : Int => ii v_) 4 o0 w0 pb0_1 a0_1) :
  Calls Tryz.prog 49 [pp pb0 0, ii a1].toArray w0 fun e_ w_ => ∃ (o_ : Tags), e_ = .returned (one [.bool r]) ∧ Step o0 w0 o_ w_ [] := by
 have HF := Fm.refl hO []
 unfold formula_Table_has.f at H
 refine SX.calls [pp pb0 0, ii a1] Tryz.func49 rfl rfl ?_
 rw [Tryz.ntmps49]
 refine WC.seq <|
  WC.region <|
  E rfl (sg (.bool false) rfl) <|
  WL.nil <|
  WC.seq <|
  WC.region <|
  E rfl (mv (ii a1) rfl) <|
  E rfl (e2 bin_geq rfl rfl) <|
  E rfl (mv (.bool (decide (a1 ≥ 0))) rfl) ?_
 rcases condE H with ⟨c101, H⟩ | ⟨c101, H⟩
 ·
  refine WL.guardYes rfl rfl rfl (vb c101 rfl) <|
   OW.ex rfl (mv (ii a1) rfl) <|
   WL.guardYes rfl rfl rfl (vb c101 rfl) <|
   OW.ex rfl (mv (pp pb0 0) rfl) <|
   WL.guardYes rfl rfl rfl (vb c101 rfl) <|
   OW.ex rfl (ex_nilCheck rfl) <|
   WL.guardYes rfl rfl rfl (vb c101 rfl) <|
   OW.ex rfl (ex_fieldAddr rfl U56 rfl sz22) <|
   WL.guardYes rfl rfl rfl (vb c101 rfl) <|
   OW.ex rfl (ex_load1 rfl U22 rfl (hB0.cell rfl)) <|
   WL.guardYes rfl rfl rfl (vb c101 rfl) ?_
  obtain ⟨A102, c103, q104⟩ := hO0_0.slice
  refine OW.ex rfl (ex_len_slice ((show _ = (pv0_0 : Value) from rfl).trans q104) U22) <|
   WL.guardYes rfl rfl rfl (vb c101 rfl) <|
   OW.ex rfl (e2 bin_lss rfl rfl) <|
   E rfl (ex_pick_t (v := .bool (decide (a1 < (a0.f_rows.length : Int)))) (vb c101 rfl) rfl) <|
   E rfl (sg (.bool (decide (a1 < (a0.f_rows.length : Int)))) rfl) <|
   WL.nil <|
   WC.ret ?_
  obtain rfl := Option.some.inj H
  exact ⟨_, (.tmp _ rfl .nil), _, rfl, HF.out⟩
 ·
  refine WL.guardNo rfl rfl rfl (vb c101 rfl) <|
   WL.guardNo rfl rfl rfl (vb c101 rfl) <|
   WL.guardNo rfl rfl rfl (vb c101 rfl) <|
   WL.guardNo rfl rfl rfl (vb c101 rfl) <|
   WL.guardNo rfl rfl rfl (vb c101 rfl) <|
   WL.guardNo rfl rfl rfl (vb c101 rfl) <|
   WL.guardNo rfl rfl rfl (vb c101 rfl) <|
   E rfl (ex_pick_f (v := .bool false) (vb c101 rfl) rfl) <|
   E rfl (sg (.bool false) rfl) <|
   WL.nil <|
   WC.ret ?_
  obtain rfl := Option.some.inj H
  exact ⟨_, (.tmp _ rfl .nil), _, rfl, HF.out⟩

/-! ### formula_Table_fits -/
set_option maxRecDepth 100000 in
theorem formula_Table_fits.calls (k : Nat) (o0 : Tags) (w0 : World) (pb0 : Nat) (pv0_0 : Value) (pb0_1 : Nat) {a0 : T_formula_Table} {a1 : T_api_Node} {a0_1 : (List (T_api_Node × Int))} {r : Int} (H : formula_Table_fits.f k a0 a1 a0_1 = some r) (hO : ∀ b, b < w0.heap.size → o0 b < 40) (hB0 : Bk o0 w0 2 pb0 [pv0_0, .map (some pb0_1)] 56) (hO0_0 : Own T_api_Node.rep 60 3 o0 w0 pv0_0 a0.f_rows) (hM0_1 : Mp (fun x_ : T_api_Node => Value.agg #[ii x_.f_Kind, encS x_.f_Name, ii x_.f_L, ii x_.f_R]) (fun v_ : Int => ii v_) 4 o0 w0 pb0_1 a0_1) :
  Calls Tryz.prog 90 [pp pb0 0, .agg #[ii a1.f_Kind, encS a1.f_Name, ii a1.f_L, ii a1.f_R]].toArray w0 fun e_ w_ => ∃ (o_ : Tags), e_ = .returned (one [ii r]) ∧ Step o0 w0 o_ w_ [] := by
 have HF := Fm.refl hO []
 unfold formula_Table_fits.f at H
 refine SX.calls [pp pb0 0, .agg #[ii a1.f_Kind, encS a1.f_Name, ii a1.f_L, ii a1.f_R]] Tryz.func90 rfl rfl ?_
 rw [Tryz.ntmps90]
 refine WC.seq <|
  WC.region <|
  WL.op rfl <|
  OW.box' [ii a1.f_Kind, encS a1.f_Name, ii a1.f_L, ii a1.f_R] 40 HF rfl ((congrArg Value.cells (show ev _ _ = (.agg #[ii a1.f_Kind, encS a1.f_Name, ii a1.f_L, ii a1.f_R] : Value) from rfl)).trans rfl) ?_
 intro o102 w103 b101 s104 hB105
 refine E rfl (sg (ii 0) rfl) <|
  WL.nil <|
  WC.seq <|
  WC.seq <|
  WC.region <|
  E rfl (ex_fieldAddr rfl U60 rfl sz58) <|
  E rfl (ex_load1 rfl U58 rfl (hB105.cell rfl)) <|
  WL.nil <|
  WC.block <|
  WC.seq <|
  WC.region <|
  E rfl (e2 bin_eql rfl rfl) <|
  E rfl (sg (.bool (a1.f_Kind == 1)) rfl) <|
  WL.nil ?_
 rcases condE H with ⟨c106, H⟩ | ⟨c106, H⟩
 ·
  refine WC.cond_t (vb c106 rfl) <|
   WC.seq ?_
  obtain ⟨z108, hz108, H⟩ := bindE H
  refine WC.cut (fun ρ_ w_ => ∃ (o_ : Tags), Fm o0 w0 o_ w_ [] ∧ Bk o_ w_ 2 pb0 [pv0_0, .map (some pb0_1)] 56 ∧ Own T_api_Node.rep 60 3 o_ w_ pv0_0 a0.f_rows ∧ Mp (fun x_ : T_api_Node => Value.agg #[ii x_.f_Kind, encS x_.f_Name, ii x_.f_L, ii x_.f_R]) (fun v_ : Int => ii v_) 4 o_ w_ pb0_1 a0_1 ∧ Bk o_ w_ 40 b101 [ii a1.f_Kind, encS a1.f_Name, ii a1.f_L, ii a1.f_R] 60 ∧ ρ_ 3 = pp b101 0 ∧ ρ_ 4 = ii 0 ∧ ρ_ 16 = .bool z108) ?case109 ?_
  case case109 =>
   rintro ρ112 w110 ⟨o111, HF, hB0, hO0_0, hM0_1, hB105, s3_106, s4_106, s16_107⟩
   rcases condE H with ⟨c113, H⟩ | ⟨c113, H⟩
   ·
    refine WC.cond_t (vb c113 s16_107) <|
     WC.seq <|
     WC.region <|
     E rfl (sg (ii 31) rfl) <|
     WL.nil <|
     WC.ret ?_
    obtain rfl := Option.some.inj H
    exact ⟨_, (.tmp _ rfl .nil), _, rfl, HF.out⟩
   ·
    refine WC.cond_f (vb c113 s16_107) <|
     WC.skip <|
     WC.seq <|
     WC.region <|
     E rfl (ex_fieldAddr s3_106 U60 rfl sz9) <|
     E rfl (ex_load1 rfl U9 rfl (hB105.cell rfl)) ?_
    obtain ⟨z114, hz114, H⟩ := bindE H
    refine WL.op rfl <|
     OW.call [encS a1.f_Name] rfl Tryz.func112 (by kernel_rfl) (by kernel_rfl) (map_cons' rfl rfl) (formula_Word.calls k _ _ hz114 (HF.ten (V := [0]) (L := []) rfl) ) ?_
    rintro _ w115 ⟨o116, rfl, s117⟩
    refine ⟨_, rfl, ?_⟩
    replace s117 := un_stepL (J := []) (L' := []) s117 rfl rfl
    refine E rfl (ex_not (b := z114) rfl) <|
     WL.nil ?_
    rcases condE H with ⟨c118, H⟩ | ⟨c118, H⟩
    ·
     refine WC.cond_t (vb c118 rfl) <|
      WC.seq <|
      WC.region <|
      E rfl (sg (ii 32) rfl) <|
      WL.nil <|
      WC.ret ?_
     obtain rfl := Option.some.inj H
     replace HF := HF.step s117 rfl
     exact ⟨_, (.tmp _ rfl .nil), _, rfl, HF.out⟩
    ·
     refine WC.cond_f (vb c118 rfl) <|
      WC.skip <|
      WC.seq <|
      WC.region <|
      E rfl (sg (ii 0) rfl) <|
      WL.nil <|
      WC.ret ?_
     obtain rfl := Option.some.inj H
     replace HF := HF.step s117 rfl
     exact ⟨_, (.tmp _ rfl .nil), _, rfl, HF.out⟩
  have Ho119 := H
  replace H := hz108
  refine WC.region <|
   E rfl (ex_fieldAddr rfl U60 rfl sz3) <|
   E rfl (ex_load1 rfl U3 rfl (hB105.cell rfl)) <|
   E rfl (e2 bin_neq rfl rfl) <|
   E rfl (mv (.bool (a1.f_L != 0)) rfl) ?_
  rcases condE H with ⟨c120, H⟩ | ⟨c120, H⟩
  ·
   refine WL.guardNo rfl rfl rfl (vb c120 rfl) <|
    WL.guardNo rfl rfl rfl (vb c120 rfl) <|
    WL.guardNo rfl rfl rfl (vb c120 rfl) <|
    E rfl (ex_pick_t (v := .bool true) (vb c120 rfl) rfl) <|
    WL.nil ?_
   obtain rfl := Option.some.inj H
   replace hO0_0 := hO0_0.step s104 rfl rfl
   replace hB0 := hB0.step s104 rfl
   replace hM0_1 := hM0_1.step s104 rfl
   replace HF := HF.step s104 rfl
   exact ⟨_, HF, hB0, hO0_0, hM0_1, hB105, rfl, rfl, rfl⟩
  ·
   refine WL.guardYes rfl rfl rfl (vb c120 rfl) <|
    OW.ex rfl (ex_fieldAddr rfl U60 rfl sz3) <|
    WL.guardYes rfl rfl rfl (vb c120 rfl) <|
    OW.ex rfl (ex_load1 rfl U3 rfl (hB105.cell rfl)) <|
    WL.guardYes rfl rfl rfl (vb c120 rfl) <|
    OW.ex rfl (e2 bin_neq rfl rfl) <|
    E rfl (ex_pick_f (v := .bool (a1.f_R != 0)) (vb c120 rfl) rfl) <|
    WL.nil ?_
   obtain rfl := Option.some.inj H
   replace hO0_0 := hO0_0.step s104 rfl rfl
   replace hB0 := hB0.step s104 rfl
   replace hM0_1 := hM0_1.step s104 rfl
   replace HF := HF.step s104 rfl
   exact ⟨_, HF, hB0, hO0_0, hM0_1, hB105, rfl, rfl, rfl⟩
 ·
  refine WC.cond_f (vb c106 rfl) <|
   WC.seq <|
   WC.region <|
   E rfl (e2 bin_eql rfl rfl) <|
   E rfl (sg (.bool (a1.f_Kind == 2)) rfl) <|
   WL.nil ?_
  rcases condE H with ⟨c121, H⟩ | ⟨c121, H⟩
  ·
   refine WC.cond_t (vb c121 rfl) <|
    WC.seq <|
    WC.region <|
    E rfl (ex_loadN (cs := [ii a1.f_Kind, encS a1.f_Name, ii a1.f_L, ii a1.f_R]) rfl U60 rfl sz60 (hB105.cells rfl)) <|
    E rfl (ex_build (cs := [ii 2, encS ([] : List UInt8), ii (0 : Int), ii (0 : Int)]) [(0, 1), (1, 1), (2, 1), (3, 1)] [(0, ii 2)] [ii 0, .string ⟨#[]⟩, ii 0, ii 0] U60 zr60 rfl (by kernel_rfl) (evs_cons rfl rfl) rfl) <|
    E rfl (ex_bin (a := .agg #[ii a1.f_Kind, encS a1.f_Name, ii a1.f_L, ii a1.f_R]) (b := .agg #[ii 2, encS ([] : List UInt8), ii (0 : Int), ii (0 : Int)]) (v := .bool (!(T_api_Node.eqb (⟨a1.f_Kind, a1.f_Name, a1.f_L, a1.f_R⟩ : T_api_Node) (⟨2, ([] : List UInt8), (0 : Int), (0 : Int)⟩ : T_api_Node)))) rfl rfl (bin_neq_agg (by kernel_rfl) (EqR.agg U60 (by kernel_rfl) (EqF.cons (by decide) (PartR.one U58 rfl rfl) (PartR.one U58 rfl rfl) (EqR.int U58) (EqF.cons (by decide) (PartR.one U9 rfl rfl) (PartR.one U9 rfl rfl) (EqR.str U9) (EqF.cons (by decide) (PartR.one U3 rfl rfl) (PartR.one U3 rfl rfl) (EqR.int U3) (EqF.cons (by decide) (PartR.one U3 rfl rfl) (PartR.one U3 rfl rfl) (EqR.int U3) EqF.nil))))))) <|
    WL.nil ?_
   rcases condE H with ⟨c122, H⟩ | ⟨c122, H⟩
   ·
    refine WC.cond_t (vb c122 rfl) <|
     WC.seq <|
     WC.region <|
     E rfl (sg (ii 31) rfl) <|
     WL.nil <|
     WC.ret ?_
    obtain rfl := Option.some.inj H
    replace HF := HF.step s104 rfl
    exact ⟨_, (.tmp _ rfl .nil), _, rfl, HF.out⟩
   ·
    refine WC.cond_f (vb c122 rfl) <|
     WC.skip <|
     WC.seq <|
     WC.region <|
     E rfl (sg (ii 0) rfl) <|
     WL.nil <|
     WC.ret ?_
    obtain rfl := Option.some.inj H
    replace HF := HF.step s104 rfl
    exact ⟨_, (.tmp _ rfl .nil), _, rfl, HF.out⟩
  ·
   refine WC.cond_f (vb c121 rfl) ?_
   obtain ⟨z124, hz124, H⟩ := bindE H
   refine WC.cut (fun ρ_ w_ => ∃ (o_ : Tags), Fm o0 w0 o_ w_ [] ∧ Bk o_ w_ 2 pb0 [pv0_0, .map (some pb0_1)] 56 ∧ Own T_api_Node.rep 60 3 o_ w_ pv0_0 a0.f_rows ∧ Mp (fun x_ : T_api_Node => Value.agg #[ii x_.f_Kind, encS x_.f_Name, ii x_.f_L, ii x_.f_R]) (fun v_ : Int => ii v_) 4 o_ w_ pb0_1 a0_1 ∧ Bk o_ w_ 40 b101 [ii a1.f_Kind, encS a1.f_Name, ii a1.f_L, ii a1.f_R] 60 ∧ ρ_ 0 = pp pb0 0 ∧ ρ_ 3 = pp b101 0 ∧ ρ_ 4 = ii 0 ∧ ρ_ 26 = .bool z124) ?case125 ?_
   case case125 =>
    rintro ρ128 w126 ⟨o127, HF, hB0, hO0_0, hM0_1, hB105, s0_122, s3_122, s4_122, s26_123⟩
    rcases condE H with ⟨c129, H⟩ | ⟨c129, H⟩
    ·
     refine WC.cond_t (vb c129 s26_123) ?_
     obtain ⟨z131, hz131, H⟩ := bindE H
     refine WC.cut (fun ρ_ w_ => ∃ (o_ : Tags), Fm o0 w0 o_ w_ [] ∧ Bk o_ w_ 2 pb0 [pv0_0, .map (some pb0_1)] 56 ∧ Own T_api_Node.rep 60 3 o_ w_ pv0_0 a0.f_rows ∧ Mp (fun x_ : T_api_Node => Value.agg #[ii x_.f_Kind, encS x_.f_Name, ii x_.f_L, ii x_.f_R]) (fun v_ : Int => ii v_) 4 o_ w_ pb0_1 a0_1 ∧ ρ_ 4 = ii 0 ∧ ρ_ 46 = .bool z131) ?case132 ?_
     case case132 =>
      rintro ρ135 w133 ⟨o134, HF, hB0, hO0_0, hM0_1, s4_129, s46_130⟩
      rcases condE H with ⟨c136, H⟩ | ⟨c136, H⟩
      ·
       refine WC.cond_t (vb c136 s46_130) <|
        WC.seq <|
        WC.region <|
        E rfl (sg (ii 31) rfl) <|
        WL.nil <|
        WC.ret ?_
       obtain rfl := Option.some.inj H
       exact ⟨_, (.tmp _ rfl .nil), _, rfl, HF.out⟩
      ·
       refine WC.cond_f (vb c136 s46_130) <|
        WC.skip <|
        WC.seq <|
        WC.region <|
        E rfl (sg (ii 0) rfl) <|
        WL.nil <|
        WC.ret ?_
       obtain rfl := Option.some.inj H
       exact ⟨_, (.tmp _ rfl .nil), _, rfl, HF.out⟩
     have Ho137 := H
     replace H := hz131
     refine WC.region <|
      E rfl (ex_fieldAddr s3_122 U60 rfl sz9) <|
      E rfl (ex_load1 rfl U9 rfl (hB105.cell rfl)) <|
      E rfl (e2 bin_neq_str rfl rfl) <|
      E rfl (mv (.bool (!(a1.f_Name == ([] : List UInt8)))) rfl) ?_
     rcases condE H with ⟨c138, H⟩ | ⟨c138, H⟩
     ·
      refine WL.guardNo rfl rfl rfl (vb c138 rfl) <|
       WL.guardNo rfl rfl rfl (vb c138 rfl) <|
       WL.guardNo rfl rfl rfl (vb c138 rfl) <|
       WL.guardNo rfl rfl rfl (vb c138 rfl) <|
       WL.guardNo rfl rfl rfl (vb c138 rfl) <|
       E rfl (ex_pick_t (v := .bool true) (vb c138 rfl) rfl) <|
       E rfl (mv (.bool true) rfl) <|
       WL.guardNo rfl rfl rfl rfl <|
       WL.guardNo rfl rfl rfl rfl <|
       WL.guardNo rfl rfl rfl rfl <|
       WL.guardNo rfl rfl rfl rfl <|
       WL.guardNo rfl rfl rfl rfl <|
       E rfl (ex_pick_t (v := .bool true) rfl rfl) <|
       WL.nil ?_
      obtain rfl := Option.some.inj H
      exact ⟨_, HF, hB0, hO0_0, hM0_1, s4_122, rfl⟩
     ·
      refine WL.guardYes rfl rfl rfl (vb c138 rfl) <|
       OW.ex rfl (mv (pp pb0 0) s0_122) <|
       WL.guardYes rfl rfl rfl (vb c138 rfl) <|
       OW.ex rfl (ex_fieldAddr s3_122 U60 rfl sz3) <|
       WL.guardYes rfl rfl rfl (vb c138 rfl) <|
       OW.ex rfl (ex_load1 rfl U3 rfl (hB105.cell rfl)) <|
       WL.guardYes rfl rfl rfl (vb c138 rfl) ?_
      obtain ⟨z139, hz139, H⟩ := bindE H
      refine OW.call [pp pb0 0, ii a1.f_L] rfl Tryz.func49 (by kernel_rfl) (by kernel_rfl) (map_cons' rfl (map_cons' rfl rfl)) (formula_Table_has.calls _ _ pb0 pv0_0 pb0_1 (a0 := a0) hz139 (HF.ten (V := [0]) (L := [2, 3, 4]) rfl) (Bk.vw hB0 rfl) (Own.vw hO0_0 rfl rfl) (Mp.vw hM0_1 rfl)) ?_
      rintro _ w140 ⟨o141, rfl, s142⟩
      refine ⟨_, rfl, ?_⟩
      replace s142 := un_stepL (J := []) (L' := []) s142 rfl rfl
      refine WL.guardYes rfl rfl rfl (vb c138 rfl) <|
       OW.ex rfl (ex_not (b := z139) rfl) <|
       E rfl (ex_pick_f (v := .bool (!z139)) (vb c138 rfl) rfl) <|
       E rfl (mv (.bool (!z139)) rfl) ?_
      rcases condE H with ⟨c143, H⟩ | ⟨c143, H⟩
      ·
       refine WL.guardNo rfl rfl rfl (vb c143 rfl) <|
        WL.guardNo rfl rfl rfl (vb c143 rfl) <|
        WL.guardNo rfl rfl rfl (vb c143 rfl) <|
        WL.guardNo rfl rfl rfl (vb c143 rfl) <|
        WL.guardNo rfl rfl rfl (vb c143 rfl) <|
        E rfl (ex_pick_t (v := .bool true) (vb c143 rfl) rfl) <|
        WL.nil ?_
       obtain rfl := Option.some.inj H
       replace hB0 := hB0.step s142 rfl
       replace hO0_0 := hO0_0.step s142 rfl rfl
       replace hM0_1 := hM0_1.step s142 rfl
       replace HF := HF.step s142 rfl
       exact ⟨_, HF, hB0, hO0_0, hM0_1, s4_122, rfl⟩
      ·
       refine WL.guardYes rfl rfl rfl (vb c143 rfl) <|
        OW.ex rfl (mv (pp pb0 0) s0_122) <|
        WL.guardYes rfl rfl rfl (vb c143 rfl) <|
        OW.ex rfl (ex_fieldAddr s3_122 U60 rfl sz3) <|
        WL.guardYes rfl rfl rfl (vb c143 rfl) ?_
       replace hB105 := hB105.step s142 rfl
       refine OW.ex rfl (ex_load1 rfl U3 rfl (hB105.cell rfl)) <|
        WL.guardYes rfl rfl rfl (vb c143 rfl) ?_
       obtain ⟨z144, hz144, H⟩ := bindE H
       replace hB0 := hB0.step s142 rfl
       replace hO0_0 := hO0_0.step s142 rfl rfl
       replace hM0_1 := hM0_1.step s142 rfl
       replace HF := HF.step s142 rfl
       refine OW.call [pp pb0 0, ii a1.f_R] rfl Tryz.func49 (by kernel_rfl) (by kernel_rfl) (map_cons' rfl (map_cons' rfl rfl)) (formula_Table_has.calls _ _ pb0 pv0_0 pb0_1 (a0 := a0) hz144 (HF.ten (V := [0]) (L := [2, 3, 4]) rfl) (Bk.vw hB0 rfl) (Own.vw hO0_0 rfl rfl) (Mp.vw hM0_1 rfl)) ?_
       rintro _ w145 ⟨o146, rfl, s147⟩
       refine ⟨_, rfl, ?_⟩
       replace s147 := un_stepL (J := []) (L' := []) s147 rfl rfl
       refine WL.guardYes rfl rfl rfl (vb c143 rfl) <|
        OW.ex rfl (ex_not (b := z144) rfl) <|
        E rfl (ex_pick_f (v := .bool (!z144)) (vb c143 rfl) rfl) <|
        WL.nil ?_
       obtain rfl := Option.some.inj H
       replace hB0 := hB0.step s147 rfl
       replace hO0_0 := hO0_0.step s147 rfl rfl
       replace hM0_1 := hM0_1.step s147 rfl
       replace HF := HF.step s147 rfl
       exact ⟨_, HF, hB0, hO0_0, hM0_1, s4_122, rfl⟩
    ·
     refine WC.cond_f (vb c129 s26_123) <|
      WC.seq <|
      WC.region <|
      E rfl (sg (ii 31) rfl) <|
      WL.nil <|
      WC.ret ?_
     obtain rfl := Option.some.inj H
     exact ⟨_, (.tmp _ rfl .nil), _, rfl, HF.out⟩
   have Ho148 := H
   replace H := hz124
   refine WC.seq <|
    WC.region <|
    E rfl (e2 bin_eql rfl rfl) <|
    E rfl (sg (.bool (a1.f_Kind == 3)) rfl) <|
    WL.nil ?_
   rcases condE H with ⟨c149, H⟩ | ⟨c149, H⟩
   ·
    refine WC.cond_t (vb c149 rfl) <|
     WC.skip ?_
    obtain rfl := Option.some.inj H
    replace hO0_0 := hO0_0.step s104 rfl rfl
    replace hB0 := hB0.step s104 rfl
    replace hM0_1 := hM0_1.step s104 rfl
    replace HF := HF.step s104 rfl
    exact ⟨_, HF, hB0, hO0_0, hM0_1, hB105, rfl, rfl, rfl, rfl⟩
   ·
    refine WC.cond_f (vb c149 rfl) <|
     WC.seq <|
     WC.region <|
     E rfl (e2 bin_eql rfl rfl) <|
     E rfl (sg (.bool (a1.f_Kind == 4)) rfl) <|
     WL.nil ?_
    rcases condE H with ⟨c150, H⟩ | ⟨c150, H⟩
    ·
     refine WC.cond_t (vb c150 rfl) <|
      WC.skip ?_
     obtain rfl := Option.some.inj H
     replace hO0_0 := hO0_0.step s104 rfl rfl
     replace hB0 := hB0.step s104 rfl
     replace hM0_1 := hM0_1.step s104 rfl
     replace HF := HF.step s104 rfl
     exact ⟨_, HF, hB0, hO0_0, hM0_1, hB105, rfl, rfl, rfl, rfl⟩
    ·
     refine WC.cond_f (vb c150 rfl) <|
      WC.region <|
      E rfl (e2 bin_eql rfl rfl) <|
      E rfl (sg (.bool (a1.f_Kind == 5)) rfl) <|
      WL.nil ?_
     obtain rfl := Option.some.inj H
     replace hO0_0 := hO0_0.step s104 rfl rfl
     replace hB0 := hB0.step s104 rfl
     replace hM0_1 := hM0_1.step s104 rfl
     replace HF := HF.step s104 rfl
     exact ⟨_, HF, hB0, hO0_0, hM0_1, hB105, rfl, rfl, rfl, rfl⟩

/-! ### formula_Table_Put -/
set_option maxRecDepth 100000 in
theorem formula_Table_Put.calls (k : Nat) (o0 : Tags) (w0 : World) (pb0 : Nat) (pv0_0 : Value) (pb0_1 : Nat) {a0 : T_formula_Table} {a1 : T_api_Node} {a0_1 : (List (T_api_Node × Int))} {r : Int × Int × T_formula_Table × (List (T_api_Node × Int))} (H : formula_Table_Put.f k a0 a1 a0_1 = some r) (hO : ∀ b, b < w0.heap.size → o0 b < 40) (hB0 : Bk o0 w0 2 pb0 [pv0_0, .map (some pb0_1)] 56) (hO0_0 : Own T_api_Node.rep 60 3 o0 w0 pv0_0 a0.f_rows) (hM0_1 : Mp (fun x_ : T_api_Node => Value.agg #[ii x_.f_Kind, encS x_.f_Name, ii x_.f_L, ii x_.f_R]) (fun v_ : Int => ii v_) 4 o0 w0 pb0_1 a0_1) :
  Calls Tryz.prog 72 [pp pb0 0, .agg #[ii a1.f_Kind, encS a1.f_Name, ii a1.f_L, ii a1.f_R]].toArray w0 fun e_ w_ => ∃ (o_ : Tags) (u0_0 : Value), e_ = .returned (one [ii r.1, ii r.2.1]) ∧ Step o0 w0 o_ w_ [2, 3, 4] ∧ Bk o_ w_ 2 pb0 [u0_0, .map (some pb0_1)] 56 ∧ Own T_api_Node.rep 60 3 o_ w_ u0_0 r.2.2.1.f_rows ∧ Mp (fun x_ : T_api_Node => Value.agg #[ii x_.f_Kind, encS x_.f_Name, ii x_.f_L, ii x_.f_R]) (fun v_ : Int => ii v_) 4 o_ w_ pb0_1 r.2.2.2 := by
 have HF := Fm.refl hO [2, 3, 4]
 unfold formula_Table_Put.f at H
 refine SX.calls [pp pb0 0, .agg #[ii a1.f_Kind, encS a1.f_Name, ii a1.f_L, ii a1.f_R]] Tryz.func72 rfl rfl ?_
 rw [Tryz.ntmps72]
 refine WC.seq <|
  WC.region <|
  WL.op rfl <|
  OW.box' [ii a1.f_Kind, encS a1.f_Name, ii a1.f_L, ii a1.f_R] 40 HF rfl ((congrArg Value.cells (show ev _ _ = (.agg #[ii a1.f_Kind, encS a1.f_Name, ii a1.f_L, ii a1.f_R] : Value) from rfl)).trans rfl) ?_
 intro o102 w103 b101 s104 hB105
 refine E rfl (sg (ii 0) rfl) <|
  E rfl (sg (ii 0) rfl) <|
  WL.nil <|
  WC.seq <|
  WC.seq <|
  WC.region <|
  E rfl (mv (pp pb0 0) rfl) ?_
 obtain ⟨z106, hz106, H⟩ := bindE H
 refine WL.op rfl ?_
 replace hO0_0 := hO0_0.step s104 rfl rfl
 replace hB0 := hB0.step s104 rfl
 replace hM0_1 := hM0_1.step s104 rfl
 replace HF := HF.step s104 rfl
 refine OW.call [pp pb0 0] rfl Tryz.func22 (by kernel_rfl) (by kernel_rfl) (map_cons' rfl rfl) (formula_Table_alive.calls _ _ pb0 pv0_0 pb0_1 (a0 := a0) hz106 (HF.ten (V := [0]) (L := [2, 3, 4]) rfl) (Bk.vw hB0 rfl) (Own.vw hO0_0 rfl rfl) (Mp.vw hM0_1 rfl)) ?_
 obtain rfl := Option.some.inj (show some true = some z106 from hz106)
 rintro _ w107 ⟨o108, rfl, s109⟩
 refine ⟨_, rfl, ?_⟩
 replace s109 := un_stepL (J := []) (L' := []) s109 rfl rfl
 refine E rfl (ex_not (b := true) rfl) <|
  WL.nil <|
  WC.cond_f rfl <|
  WC.skip <|
  WC.seq <|
  WC.seq <|
  WC.region <|
  E rfl (mv (pp pb0 0) rfl) ?_
 replace hB105 := hB105.step s109 rfl
 refine E rfl (ex_loadN (cs := [ii a1.f_Kind, encS a1.f_Name, ii a1.f_L, ii a1.f_R]) rfl U60 rfl sz60 (hB105.cells rfl)) ?_
 obtain ⟨z110, hz110, H⟩ := bindE H
 refine WL.op rfl ?_
 replace hO0_0 := hO0_0.step s109 rfl rfl
 replace hB0 := hB0.step s109 rfl
 replace hM0_1 := hM0_1.step s109 rfl
 replace HF := HF.step s109 rfl
 refine OW.call [pp pb0 0, .agg #[ii a1.f_Kind, encS a1.f_Name, ii a1.f_L, ii a1.f_R]] rfl Tryz.func90 (by kernel_rfl) (by kernel_rfl) (map_cons' rfl (map_cons' rfl rfl)) (formula_Table_fits.calls k _ _ pb0 pv0_0 pb0_1 (a0 := a0) (a1 := (⟨a1.f_Kind, a1.f_Name, a1.f_L, a1.f_R⟩ : T_api_Node)) hz110 (HF.ten (V := [0]) (L := [2, 3, 4]) rfl) (Bk.vw hB0 rfl) (Own.vw hO0_0 rfl rfl) (Mp.vw hM0_1 rfl)) ?_
 rintro _ w111 ⟨o112, rfl, s113⟩
 refine ⟨_, rfl, ?_⟩
 replace s113 := un_stepL (J := []) (L' := []) s113 rfl rfl
 refine E rfl (sg (ii z110) rfl) <|
  WL.nil <|
  WC.seq <|
  WC.region <|
  E rfl (mv (ii z110) rfl) <|
  E rfl (e2 bin_neq rfl rfl) <|
  WL.nil ?_
 rcases condE H with ⟨c114, H⟩ | ⟨c114, H⟩
 ·
  refine WC.cond_t (vb c114 rfl) <|
   WC.seq <|
   WC.region <|
   E rfl (mv (ii z110) rfl) <|
   E rfl (sg (ii 0) rfl) <|
   E rfl (sg (ii z110) rfl) <|
   WL.nil <|
   WC.ret ?_
  obtain rfl := Option.some.inj H
  replace hO0_0 := hO0_0.step s113 rfl rfl
  replace hB0 := hB0.step s113 rfl
  replace hM0_1 := hM0_1.step s113 rfl
  replace HF := HF.step s113 rfl
  exact ⟨_, (.tmp _ rfl (.tmp _ rfl .nil)), _, pv0_0, rfl, HF.out, hB0, hO0_0, hM0_1⟩
 ·
  refine WC.cond_f (vb c114 rfl) <|
   WC.skip <|
   WC.seq <|
   WC.seq ?_
  replace HF := HF.step s113 rfl
  refine WC.regionD' HF [] 11 11 (by kernel_rfl) rfl ?_
  intro w115 s116
  have k113_116 := s113.t s116
  replace hB0 := hB0.step k113_116 rfl
  have hB0D := hB0
  replace hM0_1 := hM0_1.step k113_116 rfl
  have hM0_1D := hM0_1
  replace hB105 := hB105.step k113_116 rfl
  have hB105D := hB105
  replace HF := HF.step s116 rfl
  have sR := HF.here []
  refine WA.seq [0, 1, 2, 3, 4, 5, 6, 7, 8, 9, 10] (lb 11 2047) 0 (by kernel_rfl) rfl ⟨_, sR⟩ <|
   X1 rfl (fun w_ hS_ => ex_move (v := pp pb0 0) rfl) <|
   X1 rfl (fun w_ hS_ => ex_nilCheck rfl) <|
   X1 rfl (fun w_ hS_ => ex_fieldAddr rfl U56 rfl sz54) <|
   X1 rfl (fun w_ hS_ => ex_load1 (v := .map (some pb0_1)) rfl U54 rfl ((hB0D.step hS_.choose_spec rfl).cell rfl)) <|
   X1 rfl (fun w_ hS_ => ex_loadN (cs := [ii a1.f_Kind, encS a1.f_Name, ii a1.f_L, ii a1.f_R]) rfl U60 rfl sz60 ((hB105D.step hS_.choose_spec rfl).cells rfl)) <|
   X1 rfl (fun w_ hS_ => ex_lookup2 (ek := (fun x_ : T_api_Node => Value.agg #[ii x_.f_Kind, encS x_.f_Name, ii x_.f_L, ii x_.f_R])) (ev := (fun v_ : Int => ii v_)) (eq := T_api_Node.eqb) (x := (⟨a1.f_Kind, a1.f_Name, a1.f_L, a1.f_R⟩ : T_api_Node)) (z := (0 : Int)) rfl rfl U54 key60 (hM0_1D.step hS_.choose_spec rfl) zr3) <|
   X1 rfl (fun w_ hS_ => ex_move (v := .tuple #[ii ((mget T_api_Node.eqb a0_1 (⟨a1.f_Kind, a1.f_Name, a1.f_L, a1.f_R⟩ : T_api_Node)).getD (0 : Int)), .bool ((mget T_api_Node.eqb a0_1 (⟨a1.f_Kind, a1.f_Name, a1.f_L, a1.f_R⟩ : T_api_Node)).isSome)]) rfl) <|
   X1 rfl (fun w_ hS_ => ex_extract (vs := #[ii ((mget T_api_Node.eqb a0_1 (⟨a1.f_Kind, a1.f_Name, a1.f_L, a1.f_R⟩ : T_api_Node)).getD (0 : Int)), .bool ((mget T_api_Node.eqb a0_1 (⟨a1.f_Kind, a1.f_Name, a1.f_L, a1.f_R⟩ : T_api_Node)).isSome)]) (v := ii ((mget T_api_Node.eqb a0_1 (⟨a1.f_Kind, a1.f_Name, a1.f_L, a1.f_R⟩ : T_api_Node)).getD (0 : Int))) rfl rfl) <|
   X1 rfl (fun w_ hS_ => ex_extract (vs := #[ii ((mget T_api_Node.eqb a0_1 (⟨a1.f_Kind, a1.f_Name, a1.f_L, a1.f_R⟩ : T_api_Node)).getD (0 : Int)), .bool ((mget T_api_Node.eqb a0_1 (⟨a1.f_Kind, a1.f_Name, a1.f_L, a1.f_R⟩ : T_api_Node)).isSome)]) (v := .bool ((mget T_api_Node.eqb a0_1 (⟨a1.f_Kind, a1.f_Name, a1.f_L, a1.f_R⟩ : T_api_Node)).isSome)) rfl rfl) <|
   X1 rfl (fun w_ hS_ => ex_assign (v := ii ((mget T_api_Node.eqb a0_1 (⟨a1.f_Kind, a1.f_Name, a1.f_L, a1.f_R⟩ : T_api_Node)).getD (0 : Int))) rfl) <|
   X1 rfl (fun w_ hS_ => ex_assign (v := .bool ((mget T_api_Node.eqb a0_1 (⟨a1.f_Kind, a1.f_Name, a1.f_L, a1.f_R⟩ : T_api_Node)).isSome)) rfl) <|
   WA.done (by kernel_rfl) <|
   WC.seq <|
   WC.region <|
   E rfl (mv (.bool ((mget T_api_Node.eqb a0_1 (⟨a1.f_Kind, a1.f_Name, a1.f_L, a1.f_R⟩ : T_api_Node)).isSome)) rfl) <|
   WL.nil ?_
  rcases condE H with ⟨c117, H⟩ | ⟨c117, H⟩
  ·
   refine WC.cond_t (vb c117 rfl) <|
    WC.seq <|
    WC.region <|
    E rfl (mv (ii ((mget T_api_Node.eqb a0_1 (⟨a1.f_Kind, a1.f_Name, a1.f_L, a1.f_R⟩ : T_api_Node)).getD (0 : Int))) rfl) <|
    E rfl (sg (ii ((mget T_api_Node.eqb a0_1 (⟨a1.f_Kind, a1.f_Name, a1.f_L, a1.f_R⟩ : T_api_Node)).getD (0 : Int))) rfl) <|
    E rfl (sg (ii 0) rfl) <|
    WL.nil <|
    WC.ret ?_
   obtain rfl := Option.some.inj H
   replace hO0_0 := hO0_0.step k113_116 rfl rfl
   exact ⟨_, (.tmp _ rfl (.tmp _ rfl .nil)), _, pv0_0, rfl, HF.out, hB0, hO0_0, hM0_1⟩
  ·
   refine WC.cond_f (vb c117 rfl) <|
    WC.skip <|
    WC.seq <|
    WC.region <|
    E rfl (mv (pp pb0 0) rfl) <|
    E rfl (ex_nilCheck rfl) <|
    E rfl (ex_fieldAddr rfl U56 rfl sz22) <|
    E rfl (ex_load1 rfl U22 rfl (hB0.cell rfl)) ?_
   replace hO0_0 := hO0_0.step k113_116 rfl rfl
   obtain ⟨A118, c119, q120⟩ := hO0_0.slice
   refine E rfl (ex_len_slice ((show _ = (pv0_0 : Value) from rfl).trans q120) U22) <|
    E rfl (sg (ii (a0.f_rows.length : Int)) rfl) <|
    WL.nil <|
    WC.seq <|
    WC.seq <|
    WC.region <|
    E rfl (mv (ii (a0.f_rows.length : Int)) rfl) <|
    E rfl (e2 bin_geq rfl rfl) <|
    WL.nil ?_
   rcases condE H with ⟨c121, H⟩ | ⟨c121, H⟩
   ·
    refine WC.cond_t (vb c121 rfl) <|
     WC.seq <|
     WC.region <|
     E rfl (sg (ii 0) rfl) <|
     E rfl (sg (ii 30) rfl) <|
     WL.nil <|
     WC.ret ?_
    obtain rfl := Option.some.inj H
    exact ⟨_, (.tmp _ rfl (.tmp _ rfl .nil)), _, pv0_0, rfl, HF.out, hB0, hO0_0, hM0_1⟩
   ·
    refine WC.cond_f (vb c121 rfl) <|
     WC.skip ?_
    obtain ⟨z125, hz125, H⟩ := bindE H
    refine WC.cut (fun ρ_ w_ => ∃ (o_ : Tags) (v123 : Value), Fm o0 w0 o_ w_ [2, 3, 4] ∧ Bk o_ w_ 2 pb0 [v123, .map (some pb0_1)] 56 ∧ Own T_api_Node.rep 60 3 o_ w_ v123 z125.f_rows ∧ Mp (fun x_ : T_api_Node => Value.agg #[ii x_.f_Kind, encS x_.f_Name, ii x_.f_L, ii x_.f_R]) (fun v_ : Int => ii v_) 4 o_ w_ pb0_1 a0_1 ∧ Bk o_ w_ 40 b101 [ii a1.f_Kind, encS a1.f_Name, ii a1.f_L, ii a1.f_R] 60 ∧ ρ_ 0 = pp pb0 0 ∧ ρ_ 3 = pp b101 0 ∧ ρ_ 4 = ii 0 ∧ ρ_ 5 = ii 0 ∧ ρ_ 9 = ii (a0.f_rows.length : Int)) ?case126 ?_
    case case126 =>
     rintro ρ129 w127 ⟨o128, v123, HF, hB140, hO124, hM0_1, hB105, s0_121, s3_121, s4_121, s5_121, s9_121⟩
     refine WC.seq <|
      WC.regionD' HF [] 6 7 (by kernel_rfl) rfl ?_
     intro w130 s131
     replace hB140 := hB140.step s131 rfl
     have hB140D := hB140
     replace hB105 := hB105.step s131 rfl
     have hB105D := hB105
     replace HF := HF.step s131 rfl
     have sR := HF.here []
     refine WA.seq [0, 1, 2, 3, 4, 5] (lb 7 63) 1 (by kernel_rfl) rfl ⟨_, sR⟩ <|
      X1 rfl (fun w_ hS_ => ex_move (v := pp pb0 0) s0_121) <|
      X1 rfl (fun w_ hS_ => ex_nilCheck rfl) <|
      X1 rfl (fun w_ hS_ => ex_fieldAddr rfl U56 rfl sz54) <|
      X1 rfl (fun w_ hS_ => ex_load1 (v := .map (some pb0_1)) rfl U54 rfl ((hB140D.step hS_.choose_spec rfl).cell rfl)) <|
      X1 rfl (fun w_ hS_ => ex_loadN (cs := [ii a1.f_Kind, encS a1.f_Name, ii a1.f_L, ii a1.f_R]) s3_121 U60 rfl sz60 ((hB105D.step hS_.choose_spec rfl).cells rfl)) <|
      X1 rfl (fun w_ hS_ => ex_move (v := ii (a0.f_rows.length : Int)) s9_121) <|
      WA.last 6 (by kernel_rfl) (by kernel_rfl) rfl rfl rfl ?_
     replace hM0_1 := hM0_1.step s131 rfl
     refine OW.mapUpdate (ek := (fun x_ : T_api_Node => Value.agg #[ii x_.f_Kind, encS x_.f_Name, ii x_.f_L, ii x_.f_R])) (ev := (fun v_ : Int => ii v_)) (eq := T_api_Node.eqb) (kx := (⟨a1.f_Kind, a1.f_Name, a1.f_L, a1.f_R⟩ : T_api_Node)) (vx := (a0.f_rows.length : Int)) rfl rfl rfl U54 key60 hM0_1 ?_
     intro w132 s133 hM134
     refine WC.seq <|
      WC.region <|
      E rfl (mv (ii (a0.f_rows.length : Int)) s9_121) <|
      E rfl (sg (ii (a0.f_rows.length : Int)) rfl) <|
      E rfl (sg (ii 0) rfl) <|
      WL.nil <|
      WC.ret ?_
     obtain rfl := Option.some.inj H
     replace hB140 := hB140.step s133 rfl
     replace HF := HF.step s133 rfl
     have k131_133 := s131.t s133
     replace hO124 := hO124.step k131_133 rfl rfl
     exact ⟨_, (.tmp _ rfl (.tmp _ rfl .nil)), _, v123, rfl, HF.out, hB140, hO124, hM134⟩
    have Ho135 := H
    replace H := hz125
    refine WC.regionD' HF [2, 3] 11 11 (by kernel_rfl) rfl ?_
    intro w136 s137
    replace hB105 := hB105.step s137 rfl
    have hB105D := hB105
    replace HF := HF.step s137 rfl
    have sR := HF.here [2, 3]
    refine WA.seq [0, 1, 2, 3, 5] (lb 11 47) 6 (by kernel_rfl) rfl ⟨_, sR⟩ <|
     X1 rfl (fun w_ hS_ => ex_move (v := pp pb0 0) rfl) <|
     X1 rfl (fun w_ hS_ => ex_move (v := pp pb0 0) rfl) <|
     X1 rfl (fun w_ hS_ => ex_nilCheck rfl) <|
     X1 rfl (fun w_ hS_ => ex_fieldAddr rfl U56 rfl sz22) <|
     X1 rfl (fun w_ hS_ => ex_loadN (cs := [ii a1.f_Kind, encS a1.f_Name, ii a1.f_L, ii a1.f_R]) rfl U60 rfl sz60 ((hB105D.step hS_.choose_spec rfl).cells rfl)) ?_
    refine WA.both 4 6 (by kernel_rfl) rfl rfl rfl rfl ?_ ?_
    ·
     replace hB0 := hB0.step s137 rfl
     refine OW.ex rfl (ex_load1 rfl U22 rfl (hB0.cell rfl)) ?_
     refine ⟨⟨_, sR⟩, ?_⟩
     refine WA.norm (listed' := lb 11 63) (by kernel_rfl) <|
      WA.one 6 (by kernel_rfl) rfl rfl <|
      OW.row (r := T_api_Node.rep) (xs := [(⟨a1.f_Kind, a1.f_Name, a1.f_L, a1.f_R⟩ : T_api_Node)]) [(0, .agg #[ii a1.f_Kind, encS a1.f_Name, ii a1.f_L, ii a1.f_R])] [[ii a1.f_Kind, encS a1.f_Name, ii a1.f_L, ii a1.f_R]] 41 HF rfl U22 sz60 zr60 rfl (evs_cons rfl rfl) rfl rfl ⟨(T_api_Node.mk' (⟨a1.f_Kind, a1.f_Name, a1.f_L, a1.f_R⟩ : T_api_Node) ), trivial⟩ rfl rfl rfl rfl ?_
     intro o138 w139 v141 s140 hO142
     replace sR := Step.trans sR s140 (M := [2, 3]) rfl rfl
     refine ⟨⟨_, sR⟩, ?_⟩
     refine WA.norm (listed' := lb 11 127) (by kernel_rfl) ?_
     obtain ⟨A143, c144, q145_, _, q145⟩ := hO142.row
     obtain ⟨u146, hu146, H⟩ := bindE H
     refine WA.one 7 (by kernel_rfl) rfl rfl ?_
     have k137_140 := s137.t s140
     replace hO0_0 := hO0_0.step k137_140 rfl rfl
     refine OW.append (r := T_api_Node.rep) (E := 60) (i := 3) rfl U22 inf60 rfl (by decide) (by decide) (by decide) rfl ((show _ = (v141 : Value) from rfl).trans q145_) hO0_0 q145 rfl (of_decide_eq_true (chk_true hu146)) ?_
     intro o147 w148 v149 s150 hO151
     replace sR := Step.trans sR s150 (M := [2, 3]) rfl rfl
     refine ⟨⟨_, sR⟩, ?_⟩
     refine WA.norm (listed' := lb 11 255) (by kernel_rfl) <|
      WA.seq [8, 9] (lb 11 1023) 1 (by kernel_rfl) rfl ⟨_, sR⟩ <|
      X1 rfl (fun w_ hS_ => ex_nilCheck rfl) <|
      X1 rfl (fun w_ hS_ => ex_fieldAddr rfl U56 rfl sz22) <|
      WA.one 10 (by kernel_rfl) rfl rfl ?_
     have k140_150 := s140.t s150
     replace hB0 := hB0.step k140_150 rfl
     refine OW.store [v149, .map (some pb0_1)] rfl (vs := [v149]) ((congrArg Value.cells (show ev _ _ = (v149 : Value) from rfl)).trans (Own.cells1 hO151)) sz22 hB0 (Nat.le_of_ble_eq_true rfl) (by intro u_ hu_; simp only [List.mem_cons, List.not_mem_nil, or_false] at hu_; rcases hu_ with rfl; first | rfl | exact Own.oneCell hO151) rfl ?_
     intro w152 s153 hB154
     replace sR := Step.trans sR s153 (M := [2, 3]) rfl rfl
     refine ⟨⟨_, sR⟩, ?_⟩
     refine WA.norm (listed' := lb 11 2047) (by kernel_rfl) <|
      WA.done (by kernel_rfl) ?_
     obtain rfl := Option.some.inj H
     replace hO151 := hO151.step s153 rfl rfl
     have k140_153 := k140_150.t s153
     replace hB105 := hB105.step k140_153 rfl
     replace HF := HF.step k140_153 rfl
     have k137_153 := (k137_140.t s150).t s153
     replace hM0_1 := hM0_1.step k137_153 rfl
     exact ⟨_, _, HF, hB154, hO151, hM0_1, hB105, rfl, rfl, rfl, rfl, rfl⟩
    ·
     refine OW.row (r := T_api_Node.rep) (xs := [(⟨a1.f_Kind, a1.f_Name, a1.f_L, a1.f_R⟩ : T_api_Node)]) [(0, .agg #[ii a1.f_Kind, encS a1.f_Name, ii a1.f_L, ii a1.f_R])] [[ii a1.f_Kind, encS a1.f_Name, ii a1.f_L, ii a1.f_R]] 41 HF rfl U22 sz60 zr60 rfl (evs_cons rfl rfl) rfl rfl ⟨(T_api_Node.mk' (⟨a1.f_Kind, a1.f_Name, a1.f_L, a1.f_R⟩ : T_api_Node) ), trivial⟩ rfl rfl rfl rfl ?_
     intro o138 w139 v141 s140 hO142
     replace sR := Step.trans sR s140 (M := [2, 3]) rfl rfl
     refine ⟨⟨_, sR⟩, ?_⟩
     refine WA.norm (listed' := lb 11 111) (by kernel_rfl) <|
      WA.one 4 (by kernel_rfl) rfl rfl ?_
     have k137_140 := s137.t s140
     replace hB0 := hB0.step k137_140 rfl
     refine OW.ex rfl (ex_load1 rfl U22 rfl (hB0.cell rfl)) ?_
     refine ⟨⟨_, sR⟩, ?_⟩
     refine WA.norm (listed' := lb 11 127) (by kernel_rfl) ?_
     obtain ⟨A143, c144, q145_, _, q145⟩ := hO142.row
     obtain ⟨u146, hu146, H⟩ := bindE H
     refine WA.one 7 (by kernel_rfl) rfl rfl ?_
     replace hO0_0 := hO0_0.step k137_140 rfl rfl
     refine OW.append (r := T_api_Node.rep) (E := 60) (i := 3) rfl U22 inf60 rfl (by decide) (by decide) (by decide) rfl ((show _ = (v141 : Value) from rfl).trans q145_) hO0_0 q145 rfl (of_decide_eq_true (chk_true hu146)) ?_
     intro o147 w148 v149 s150 hO151
     replace sR := Step.trans sR s150 (M := [2, 3]) rfl rfl
     refine ⟨⟨_, sR⟩, ?_⟩
     refine WA.norm (listed' := lb 11 255) (by kernel_rfl) <|
      WA.seq [8, 9] (lb 11 1023) 1 (by kernel_rfl) rfl ⟨_, sR⟩ <|
      X1 rfl (fun w_ hS_ => ex_nilCheck rfl) <|
      X1 rfl (fun w_ hS_ => ex_fieldAddr rfl U56 rfl sz22) <|
      WA.one 10 (by kernel_rfl) rfl rfl ?_
     replace hB0 := hB0.step s150 rfl
     refine OW.store [v149, .map (some pb0_1)] rfl (vs := [v149]) ((congrArg Value.cells (show ev _ _ = (v149 : Value) from rfl)).trans (Own.cells1 hO151)) sz22 hB0 (Nat.le_of_ble_eq_true rfl) (by intro u_ hu_; simp only [List.mem_cons, List.not_mem_nil, or_false] at hu_; rcases hu_ with rfl; first | rfl | exact Own.oneCell hO151) rfl ?_
     intro w152 s153 hB154
     replace sR := Step.trans sR s153 (M := [2, 3]) rfl rfl
     refine ⟨⟨_, sR⟩, ?_⟩
     refine WA.norm (listed' := lb 11 2047) (by kernel_rfl) <|
      WA.done (by kernel_rfl) ?_
     obtain rfl := Option.some.inj H
     replace hO151 := hO151.step s153 rfl rfl
     have k140_153 := (s140.t s150).t s153
     replace hB105 := hB105.step k140_153 rfl
     replace HF := HF.step k140_153 rfl
     have k137_153 := (k137_140.t s150).t s153
     replace hM0_1 := hM0_1.step k137_153 rfl
     exact ⟨_, _, HF, hB154, hO151, hM0_1, hB105, rfl, rfl, rfl, rfl, rfl⟩

/-! ### formula_From -/
set_option maxRecDepth 100000 in
theorem formula_From.calls (k : Nat) (o0 : Tags) (w0 : World) (pA0 : Option Addr) (pc0 : Nat) {a0 : (List T_api_Node)} {r : Exn (Int) ((T_formula_Table × (List (T_api_Node × Int))))} (H : formula_From.f k a0 = some r) (hO : ∀ b, b < w0.heap.size → o0 b < 40) (hra0 : Row T_api_Node.rep (fun b_ => o0 b_ = 0) (fun b_ => o0 b_ = 0) w0 pA0 a0) (hla0 : a0.length ≤ pc0) :
  Calls Tryz.prog 47 [.slice pA0 a0.length pc0].toArray w0 fun e_ w_ => ∃ (o_ : Tags), ((∃ p_, r = .ex p_ ∧ e_ = .returned (one [.pointer none, ii p_]) ∧ Step o0 w0 o_ w_ [] ∧ (p_ != 0) = true) ∨ ∃ q_, r = .ok q_ ∧ ∃ (b_0 : Nat) (rv0_0 : Value) (m_0_1 : Nat), e_ = .returned (one [pp b_0 0, ii 0]) ∧ Step o0 w0 o_ w_ [] ∧ Bk o_ w_ 39 b_0 [rv0_0, .map (some m_0_1)] 56 ∧ Own T_api_Node.rep 60 38 o_ w_ rv0_0 q_.1.f_rows ∧ Mp (fun x_ : T_api_Node => Value.agg #[ii x_.f_Kind, encS x_.f_Name, ii x_.f_L, ii x_.f_R]) (fun v_ : Int => ii v_) 37 o_ w_ m_0_1 q_.2) := by
 have HF := Fm.refl hO []
 unfold formula_From.f at H
 refine SX.calls [.slice pA0 a0.length pc0] Tryz.func47 rfl rfl ?_
 rw [Tryz.ntmps47]
 refine WC.seq <|
  WC.region <|
  E rfl (sg (.pointer none) rfl) <|
  E rfl (sg (ii 0) rfl) <|
  WL.nil <|
  WC.seq <|
  WC.region ?_
 obtain ⟨z101, hz101, H⟩ := bindE H
 refine WL.op rfl <|
  OW.call [] rfl Tryz.func21 (by kernel_rfl) (by kernel_rfl) rfl (formula_New.calls _ _ hz101 (HF.ten (V := [0]) (L := []) rfl) ) ?_
 rintro _ w102 ⟨o103, b105, v107, b109, rfl, s104, hB106, hO108, hM110⟩
 refine ⟨_, rfl, ?_⟩
 replace hB106 := Bk.un9 (J := [40, 41, 42]) 0 hB106 rfl s104 rfl rfl
 replace hO108 := Own.un9 (J := [40, 41, 42]) 1 hO108 rfl s104 rfl rfl
 replace hM110 := Mp.un9 (J := [40, 41, 42]) 2 hM110 rfl s104 rfl rfl
 replace s104 := un_stepL (J := [40, 41, 42]) (L' := []) s104 rfl rfl
 refine E rfl (sg (pp b105 0) rfl) <|
  WL.nil <|
  WC.seq <|
  WC.seq <|
  WC.region <|
  E rfl (mv (.slice pA0 a0.length pc0) rfl) <|
  E rfl (ex_len_slice (A := pA0) (m := a0.length) (c := pc0) rfl U22) <|
  E rfl (mv (ii 0) rfl) <|
  WL.nil ?_
 obtain ⟨z120, hz120, H⟩ := bindE H
 replace hra0 := hra0.step s104 rfl
 replace HF := HF.step s104 rfl
 refine WC.for (fun k_ ρ_ w_ => ∃ (o_ : Tags) (x111 : Int) (x112 : T_formula_Table) (x115 : (List (T_api_Node × Int))) (v113 : Value), Fm o0 w0 o_ w_ [] ∧ Row T_api_Node.rep (fun b_ => o_ b_ = 0) (fun b_ => o_ b_ = 0) w_ pA0 a0 ∧ Bk o_ w_ 40 b105 [v113, .map (some b109)] 56 ∧ Own T_api_Node.rep 60 41 o_ w_ v113 x112.f_rows ∧ Mp (fun x_ : T_api_Node => Value.agg #[ii x_.f_Kind, encS x_.f_Name, ii x_.f_L, ii x_.f_R]) (fun v_ : Int => ii v_) 42 o_ w_ b109 x115 ∧ ρ_ 2 = .pointer none ∧ ρ_ 3 = ii 0 ∧ ρ_ 4 = pp b105 0 ∧ ρ_ 10 = .slice pA0 a0.length pc0 ∧ ρ_ 11 = ii (a0.length : Int) ∧ ρ_ 12 = ii x111 ∧ formula_From.l1 k a0 k_ x111 x112 x115 = some z120) k (fun ρ_ w_ => ∃ (o_ : Tags) (x116 : T_formula_Table) (x119 : (List (T_api_Node × Int))) (v117 : Value), Fm o0 w0 o_ w_ [] ∧ Bk o_ w_ 40 b105 [v117, .map (some b109)] 56 ∧ Own T_api_Node.rep 60 41 o_ w_ v117 x116.f_rows ∧ Mp (fun x_ : T_api_Node => Value.agg #[ii x_.f_Kind, encS x_.f_Name, ii x_.f_L, ii x_.f_R]) (fun v_ : Int => ii v_) 42 o_ w_ b109 x119 ∧ ρ_ 2 = .pointer none ∧ ρ_ 3 = ii 0 ∧ ρ_ 4 = pp b105 0 ∧ z120 = .inr (x116, x119)) ⟨_, 0, z101.1, z101.2, _, HF, hra0, hB106, hO108, hM110, rfl, rfl, rfl, rfl, rfl, rfl, hz120⟩ ?case121 ?_
 case case121 =>
  rintro ρ171 w172 ⟨o173, x116, x119, v117, HF, hB106, hO118, hM110, s2_115, s3_115, s4_115, rfl⟩
  dsimp only at H
  refine WC.seq <|
   WC.region <|
   E rfl (mv (pp b105 0) s4_115) <|
   E rfl (sg (pp b105 0) rfl) <|
   E rfl (sg (ii 0) rfl) <|
   WL.nil <|
   WC.ret ?_
  obtain rfl := Option.some.inj H
  replace hB106 := Bk.renTo (j := 39) hB106
  replace hO118 := Own.ren (i := 40) (j := 39) hO118 rfl rfl
  replace hM110 := Mp.ren (k := 40) (l := 39) hM110 rfl rfl
  replace HF := HF.ren (i := 40) (j := 39) rfl
  replace hB106 := Bk.ren (i := 41) (j := 38) hB106 rfl
  replace hO118 := Own.renTo (j := 38) hO118 rfl
  replace hM110 := Mp.ren (k := 41) (l := 38) hM110 rfl rfl
  replace HF := HF.ren (i := 41) (j := 38) rfl
  replace hB106 := Bk.ren (i := 42) (j := 37) hB106 rfl
  replace hO118 := Own.ren (i := 42) (j := 37) hO118 rfl rfl
  replace hM110 := Mp.renTo (j := 37) hM110
  replace HF := HF.ren (i := 42) (j := 37) rfl
  exact ⟨_, (.tmp _ rfl (.tmp _ rfl .nil)), _, Or.inr ⟨_, rfl, b105, v117, b109, rfl, HF.out, hB106, hO118, hM110⟩⟩
 have Ho122 := H
 rintro k123 ρ124 w125 ⟨o126, x111, x112, x115, v113, HF, hra0, hB106, hO114, hM110, s2_110, s3_110, s4_110, s10_110, s11_110, s12_111, H⟩
 cases k123 with
 | zero => cases H
 | succ k123 =>
 rw [formula_From.l1.eq_2] at H
 refine WC.seq <|
  WC.region <|
  E rfl (e2 bin_lss s12_111 s11_110) <|
  WL.nil <|
  WC.seq ?_
 rcases condE H with ⟨c127, H⟩ | ⟨c127, H⟩
 ·
  refine WC.cond_t (vb c127 rfl) <|
   WC.skip <|
   WC.seq <|
   WC.block <|
   WC.seq <|
   WC.region <|
   E rfl (mv (ii x111) s12_111) ?_
  obtain ⟨x128, hx128, H⟩ := bindE H
  obtain ⟨ad129, cc133, e130, g131, g132, hl134, hR135, cell136⟩ := Row.ix hra0 hx128
  obtain rfl := T_api_Node.opn hR135
  refine E rfl (ex_indexAddr (i := x111) s10_110 e130 s12_111 U22 sz60 g131 g132) <|
   E rfl (ex_loadN (cs := [ii x128.f_Kind, encS x128.f_Name, ii x128.f_L, ii x128.f_R]) rfl U60 rfl sz60 cell136) <|
   WL.op rfl <|
   OW.alloc' [ii (0 : Int), encS ([] : List UInt8), ii (0 : Int), ii (0 : Int)] 43 HF rfl zr60 rfl ?_
  intro o139 w140 b138 s141 hB142
  refine E rfl (sg (ii x111) rfl) <|
   WL.op rfl <|
   OW.storeW rfl rfl sz60 hB142 rfl (oa rfl) ?_
  intro w143 s144 hB145
  refine WL.nil <|
   WC.seq <|
   WC.region <|
   E rfl (mv (pp b105 0) s4_110) <|
   E rfl (ex_loadN (cs := [ii x128.f_Kind, encS x128.f_Name, ii x128.f_L, ii x128.f_R]) rfl U60 rfl sz60 (hB145.cells rfl)) ?_
  obtain ⟨z146, hz146, H⟩ := bindE H
  refine WL.op rfl ?_
  have k141_144 := s141.t s144
  replace hB106 := hB106.step k141_144 rfl
  replace hO114 := hO114.step k141_144 rfl rfl
  replace hM110 := hM110.step k141_144 rfl
  replace HF := HF.step k141_144 rfl
  refine OW.call [pp b105 0, .agg #[ii x128.f_Kind, encS x128.f_Name, ii x128.f_L, ii x128.f_R]] rfl Tryz.func72 (by kernel_rfl) (by kernel_rfl) (map_cons' rfl (map_cons' rfl rfl)) (formula_Table_Put.calls k _ _ b105 v113 b109 (a0 := x112) (a1 := x128) hz146 (HF.ten (V := [0]) (L := [40, 41, 42]) rfl) (Bk.vw hB106 rfl) (Own.vw hO114 rfl rfl) (Mp.vw hM110 rfl)) ?_
  rintro _ w147 ⟨o148, v151, rfl, s149, hB150, hO152, hM153⟩
  refine ⟨_, rfl, ?_⟩
  replace hB150 := Bk.unO (J := []) 0 hB150 s149 rfl rfl rfl
  replace hO152 := Own.unO (J := []) 1 hO152 s149 rfl rfl rfl
  replace hM153 := Mp.unO (J := []) 2 hM153 s149 rfl rfl rfl
  replace s149 := un_stepL (J := []) (L' := [40, 41, 42]) s149 rfl rfl
  refine E rfl (mv (.tuple #[ii z146.1, ii z146.2.1]) rfl) <|
   E rfl (ex_extract rfl rfl) <|
   E rfl (ex_extract rfl rfl) <|
   E rfl (sg (ii z146.1) rfl) <|
   E rfl (sg (ii z146.2.1) rfl) <|
   WL.nil ?_
  obtain ⟨z155, hz155, H⟩ := bindE H
  refine WC.cut (fun ρ_ w_ => ∃ (o_ : Tags), Fm o0 w0 o_ w_ [] ∧ Row T_api_Node.rep (fun b_ => o_ b_ = 0) (fun b_ => o_ b_ = 0) w_ pA0 a0 ∧ Bk o_ w_ 40 b105 [v151, .map (some b109)] 56 ∧ Own T_api_Node.rep 60 41 o_ w_ v151 z146.2.2.1.f_rows ∧ Mp (fun x_ : T_api_Node => Value.agg #[ii x_.f_Kind, encS x_.f_Name, ii x_.f_L, ii x_.f_R]) (fun v_ : Int => ii v_) 42 o_ w_ b109 z146.2.2.2 ∧ ρ_ 2 = .pointer none ∧ ρ_ 3 = ii 0 ∧ ρ_ 4 = pp b105 0 ∧ ρ_ 8 = ii z155 ∧ ρ_ 10 = .slice pA0 a0.length pc0 ∧ ρ_ 11 = ii (a0.length : Int) ∧ ρ_ 12 = ii x111) ?case156 ?_
  case case156 =>
   rintro ρ159 w157 ⟨o158, HF, hra0, hB150, hO152, hM153, s2_153, s3_153, s4_153, s8_154, s10_154, s11_154, s12_154⟩
   refine WC.seq <|
    WC.region <|
    E rfl (mv (ii z155) s8_154) <|
    E rfl (e2 bin_neq rfl rfl) <|
    WL.nil ?_
   rcases condE H with ⟨c160, H⟩ | ⟨c160, H⟩
   ·
    refine WC.cond_t (vb c160 rfl) <|
     WC.seq <|
     WC.region <|
     E rfl (mv (ii z155) s8_154) <|
     E rfl (sg (.pointer none) rfl) <|
     E rfl (sg (ii z155) rfl) <|
     WL.nil <|
     WC.ret ?_
    obtain rfl := Option.some.inj H
    replace H := Ho122
    dsimp only at H
    obtain rfl := Option.some.inj H
    exact ⟨_, (.tmp _ rfl (.tmp _ rfl .nil)), _, Or.inl ⟨_, rfl, rfl, HF.out, c160⟩⟩
   ·
    refine WC.cond_f (vb c160 rfl) <|
     WC.skip <|
     WC.region <|
     E rfl (e2 bin_add64 s12_154 rfl) <|
     E rfl (mv (ii (wrap64 (x111 + 1))) rfl) <|
     WL.nil ?_
    exact ⟨k123, Nat.lt_succ_self _, ⟨_, wrap64 (x111 + 1), z146.2.2.1, z146.2.2.2, _, HF, hra0, hB150, hO152, hM153, s2_153, s3_153, s4_153, s10_154, s11_154, rfl, H⟩⟩
  have Ho161 := H
  replace H := hz155
  obtain ⟨z163, hz163, H⟩ := bindE H
  refine WC.cut (fun ρ_ w_ => ∃ (o_ : Tags), Fm o0 w0 o_ w_ [] ∧ Row T_api_Node.rep (fun b_ => o_ b_ = 0) (fun b_ => o_ b_ = 0) w_ pA0 a0 ∧ Bk o_ w_ 40 b105 [v151, .map (some b109)] 56 ∧ Own T_api_Node.rep 60 41 o_ w_ v151 z146.2.2.1.f_rows ∧ Mp (fun x_ : T_api_Node => Value.agg #[ii x_.f_Kind, encS x_.f_Name, ii x_.f_L, ii x_.f_R]) (fun v_ : Int => ii v_) 42 o_ w_ b109 z146.2.2.2 ∧ ρ_ 2 = .pointer none ∧ ρ_ 3 = ii 0 ∧ ρ_ 4 = pp b105 0 ∧ ρ_ 8 = ii z146.2.1 ∧ ρ_ 10 = .slice pA0 a0.length pc0 ∧ ρ_ 11 = ii (a0.length : Int) ∧ ρ_ 12 = ii x111 ∧ ρ_ 29 = .bool z163) ?case164 ?_
  case case164 =>
   rintro ρ167 w165 ⟨o166, HF, hra0, hB150, hO152, hM153, s2_161, s3_161, s4_161, s8_161, s10_161, s11_161, s12_161, s29_162⟩
   rcases condE H with ⟨c168, H⟩ | ⟨c168, H⟩
   ·
    refine WC.cond_t (vb c168 s29_162) <|
     WC.region <|
     E rfl (sg (ii 31) rfl) <|
     WL.nil ?_
    obtain rfl := Option.some.inj H
    exact ⟨_, HF, hra0, hB150, hO152, hM153, s2_161, s3_161, s4_161, rfl, s10_161, s11_161, s12_161⟩
   ·
    refine WC.cond_f (vb c168 s29_162) <|
     WC.skip ?_
    obtain rfl := Option.some.inj H
    exact ⟨_, HF, hra0, hB150, hO152, hM153, s2_161, s3_161, s4_161, s8_161, s10_161, s11_161, s12_161⟩
  have Ho169 := H
  replace H := hz163
  refine WC.region <|
   E rfl (mv (ii z146.2.1) rfl) <|
   E rfl (e2 bin_eql rfl rfl) <|
   E rfl (mv (.bool (z146.2.1 == 0)) rfl) ?_
  rcases condE H with ⟨c170, H⟩ | ⟨c170, H⟩
  ·
   refine WL.guardYes rfl rfl rfl (vb c170 rfl) <|
    OW.ex rfl (mv (ii z146.1) rfl) <|
    WL.guardYes rfl rfl rfl (vb c170 rfl) <|
    OW.ex rfl (mv (ii x111) rfl) <|
    WL.guardYes rfl rfl rfl (vb c170 rfl) <|
    OW.ex rfl (e2 bin_neq rfl rfl) <|
    E rfl (ex_pick_t (v := .bool (z146.1 != x111)) (vb c170 rfl) rfl) <|
    WL.nil ?_
   obtain rfl := Option.some.inj H
   replace HF := HF.step s149 rfl
   have k141_149 := k141_144.t s149
   replace hra0 := hra0.step k141_149 rfl
   exact ⟨_, HF, hra0, hB150, hO152, hM153, s2_110, s3_110, s4_110, rfl, s10_110, s11_110, s12_111, rfl⟩
  ·
   refine WL.guardNo rfl rfl rfl (vb c170 rfl) <|
    WL.guardNo rfl rfl rfl (vb c170 rfl) <|
    WL.guardNo rfl rfl rfl (vb c170 rfl) <|
    E rfl (ex_pick_f (v := .bool false) (vb c170 rfl) rfl) <|
    WL.nil ?_
   obtain rfl := Option.some.inj H
   replace HF := HF.step s149 rfl
   have k141_149 := k141_144.t s149
   replace hra0 := hra0.step k141_149 rfl
   exact ⟨_, HF, hra0, hB150, hO152, hM153, s2_110, s3_110, s4_110, rfl, s10_110, s11_110, s12_111, rfl⟩
 ·
  refine WC.cond_f (vb c127 rfl) <|
   WC.exit ?_
  obtain rfl := Option.some.inj H
  exact ⟨_, x112, x115, _, HF, hB106, hO114, hM110, s2_110, s3_110, s4_110, rfl⟩

/-! ### dictumlaw03_Both -/
set_option maxRecDepth 100000 in
theorem dictumlaw03_Both.calls (k : Nat) (o0 : Tags) (w0 : World) (pA0 : Option Addr) (pc0 : Nat) {a0 : (List T_api_Node)} {r : Exn (Unit) ((T_formula_Table × (List (T_api_Node × Int))) × T_dictumref03_T)} (H : dictumlaw03_Both.f k a0 = some r) (hO : ∀ b, b < w0.heap.size → o0 b < 40) (hra0 : Row T_api_Node.rep (fun b_ => o0 b_ = 0) (fun b_ => o0 b_ = 0) w0 pA0 a0) (hla0 : a0.length ≤ pc0) :
  Calls Tryz.prog 20 [.slice pA0 a0.length pc0].toArray w0 fun e_ w_ => ∃ (o_ : Tags), ((∃ p_, r = .ex p_ ∧ e_ = .returned (one [.pointer none, .pointer none, .bool false]) ∧ Step o0 w0 o_ w_ []) ∨ ∃ q_, r = .ok q_ ∧ ∃ (b_0 : Nat) (rv0_0 : Value) (m_0_1 : Nat) (b_1 : Nat) (rv1_0 : Value), e_ = .returned (one [pp b_0 0, pp b_1 0, .bool true]) ∧ Step o0 w0 o_ w_ [] ∧ Bk o_ w_ 39 b_0 [rv0_0, .map (some m_0_1)] 56 ∧ Own T_api_Node.rep 60 38 o_ w_ rv0_0 q_.1.1.f_rows ∧ Mp (fun x_ : T_api_Node => Value.agg #[ii x_.f_Kind, encS x_.f_Name, ii x_.f_L, ii x_.f_R]) (fun v_ : Int => ii v_) 37 o_ w_ m_0_1 q_.1.2 ∧ Bk o_ w_ 36 b_1 [rv1_0] 53 ∧ Own T_api_Node.rep 60 35 o_ w_ rv1_0 q_.2.f_N) := by
 have HF := Fm.refl hO []
 unfold dictumlaw03_Both.f at H
 refine SX.calls [.slice pA0 a0.length pc0] Tryz.func20 rfl rfl ?_
 rw [Tryz.ntmps20]
 refine WC.seq <|
  WC.region <|
  E rfl (sg (.pointer none) rfl) <|
  E rfl (sg (.pointer none) rfl) <|
  E rfl (sg (.bool false) rfl) <|
  WL.nil <|
  WC.seq <|
  WC.region <|
  WL.op rfl <|
  OW.row (r := T_api_Node.rep) (xs := ([] : List T_api_Node)) [] [] 40 HF rfl U22 sz60 zr60 rfl rfl rfl rfl trivial rfl rfl rfl rfl ?_
 intro o101 w102 v104 s103 hO105
 refine E rfl (mv (.slice pA0 a0.length pc0) rfl) ?_
 obtain ⟨u106, hu106, H⟩ := bindE H
 refine WL.op rfl ?_
 replace hra0 := hra0.step s103 rfl
 refine OW.append (r := T_api_Node.rep) (E := 60) (i := 40) rfl U22 inf60 rfl (by decide) (by decide) (by decide) rfl rfl hO105 (hra0) rfl (of_decide_eq_true (chk_true hu106)) ?_
 intro o107 w108 v109 s110 hO111
 refine E rfl (sg v109 rfl) <|
  WL.nil <|
  WC.seq <|
  WC.region <|
  E rfl (mv (.slice pA0 a0.length pc0) rfl) ?_
 obtain ⟨z112, hz112, H⟩ := bindE H
 refine WL.op rfl ?_
 replace hra0 := hra0.step s110 rfl
 have k103_110 := s103.t s110
 replace HF := HF.step k103_110 rfl
 refine OW.call [.slice pA0 a0.length pc0] rfl Tryz.func46 (by kernel_rfl) (by kernel_rfl) (map_cons' rfl rfl) (dictumref03_From.calls k _ _ pA0 pc0 hz112 (HF.ten (V := [0]) (L := []) rfl) (Row.vw hra0 rfl) hla0) ?_
 rintro _ w113 ⟨o114, (⟨p115, rfl, rfl, s117, hz119⟩ | ⟨q116, rfl, b120, v122, rfl, s118, hB121, hO123⟩)⟩
 ·
  refine ⟨_, rfl, ?_⟩
  dsimp only at H
  replace s117 := un_stepL (J := []) (L' := []) s117 rfl rfl
  refine E rfl (mv (.tuple #[.pointer none, ii p115]) rfl) <|
   E rfl (ex_extract rfl rfl) <|
   E rfl (ex_extract rfl rfl) <|
   E rfl (sg (.pointer none) rfl) <|
   E rfl (sg (ii p115) rfl) <|
   WL.nil <|
   WC.seq <|
   WC.seq <|
   WC.region <|
   E rfl (mv (ii p115) rfl) <|
   E rfl (e2 bin_neq rfl rfl) <|
   WL.nil <|
   WC.cond_t (vb hz119 rfl) <|
   WC.seq <|
   WC.region <|
   E rfl (sg (.pointer none) rfl) <|
   E rfl (sg (.pointer none) rfl) <|
   E rfl (sg (.bool false) rfl) <|
   WL.nil <|
   WC.ret ?_
  obtain rfl := Option.some.inj H
  replace HF := HF.step s117 rfl
  exact ⟨_, (.tmp _ rfl (.tmp _ rfl (.tmp _ rfl .nil))), _, Or.inl ⟨_, rfl, rfl, HF.out⟩⟩
 ·
  refine ⟨_, rfl, ?_⟩
  dsimp only at H
  replace hB121 := Bk.un9 (J := [41, 42]) 0 hB121 rfl s118 rfl rfl
  replace hO123 := Own.un9 (J := [41, 42]) 1 hO123 rfl s118 rfl rfl
  replace s118 := un_stepL (J := [41, 42]) (L' := []) s118 rfl rfl
  refine E rfl (mv (.tuple #[pp b120 0, ii 0]) rfl) <|
   E rfl (ex_extract rfl rfl) <|
   E rfl (ex_extract rfl rfl) <|
   E rfl (sg (pp b120 0) rfl) <|
   E rfl (sg (ii 0) rfl) <|
   WL.nil <|
   WC.seq <|
   WC.seq <|
   WC.region <|
   E rfl (mv (ii 0) rfl) <|
   E rfl (e2 bin_neq rfl rfl) <|
   WL.nil ?_
  rcases condE H with ⟨c124, H⟩ | ⟨c124, H⟩
  ·
   refine WC.cond_t (vb c124 rfl) <|
    WC.seq <|
    WC.region <|
    E rfl (sg (.pointer none) rfl) <|
    E rfl (sg (.pointer none) rfl) <|
    E rfl (sg (.bool false) rfl) <|
    WL.nil <|
    WC.ret ?_
   obtain rfl := Option.some.inj H
   replace HF := HF.step s118 rfl
   exact ⟨_, (.tmp _ rfl (.tmp _ rfl (.tmp _ rfl .nil))), _, Or.inl ⟨_, rfl, rfl, HF.out⟩⟩
  ·
   refine WC.cond_f (vb c124 rfl) <|
    WC.skip <|
    WC.seq <|
    WC.region <|
    E rfl (mv v109 rfl) ?_
   replace hO111 := hO111.step s118 rfl rfl
   obtain ⟨A125, c126, q127e, q127l, q127⟩ := Own.vwRow (V := [0, 40]) (L := []) hO111 rfl rfl
   obtain ⟨z128, hz128, H⟩ := bindE H
   have q127e' := q127e
   refine WL.op rfl ?_
   replace HF := HF.step s118 rfl
   refine OW.call [v109] rfl Tryz.func47 (by kernel_rfl) (by kernel_rfl) (map_cons' rfl rfl) (by simp only [q127e]; exact (formula_From.calls k _ _ A125 c126 hz128 (HF.ten (V := [0, 40]) (L := []) rfl) q127 q127l)) ?_
   rintro _ w129 ⟨o130, (⟨p131, rfl, rfl, s133, hz135⟩ | ⟨q132, rfl, b136, v138, b140, rfl, s134, hB137, hO139, hM141⟩)⟩
   ·
    refine ⟨_, rfl, ?_⟩
    dsimp only at H
    replace s133 := un_stepL (J := []) (L' := []) s133 rfl rfl
    refine E rfl (mv (.tuple #[.pointer none, ii p131]) rfl) <|
     E rfl (ex_extract rfl rfl) <|
     E rfl (ex_extract rfl rfl) <|
     E rfl (sg (.pointer none) rfl) <|
     E rfl (sg (ii p131) rfl) <|
     WL.nil <|
     WC.seq <|
     WC.region <|
     E rfl (mv (.pointer none) rfl) <|
     E rfl (mv (pp b120 0) rfl) <|
     E rfl (sg (.pointer none) rfl) <|
     E rfl (sg (pp b120 0) rfl) <|
     E rfl (sg (.bool true) rfl) <|
     WL.nil <|
     WC.ret ?_
    cases H
   ·
    refine ⟨_, rfl, ?_⟩
    dsimp only at H
    replace hB137 := Bk.un9 (J := [43, 44, 45]) 0 hB137 rfl s134 rfl rfl
    replace hO139 := Own.un9f (J := [43, 44, 45]) 1 (fun h => h) hO139 rfl s134 rfl rfl
    replace hM141 := Mp.un9 (J := [43, 44, 45]) 2 hM141 rfl s134 rfl rfl
    replace s134 := un_stepL (J := [43, 44, 45]) (L' := []) s134 rfl rfl
    refine E rfl (mv (.tuple #[pp b136 0, ii 0]) rfl) <|
     E rfl (ex_extract rfl rfl) <|
     E rfl (ex_extract rfl rfl) <|
     E rfl (sg (pp b136 0) rfl) <|
     E rfl (sg (ii 0) rfl) <|
     WL.nil <|
     WC.seq <|
     WC.region <|
     E rfl (mv (pp b136 0) rfl) <|
     E rfl (mv (pp b120 0) rfl) <|
     E rfl (sg (pp b136 0) rfl) <|
     E rfl (sg (pp b120 0) rfl) <|
     E rfl (sg (.bool true) rfl) <|
     WL.nil <|
     WC.ret ?_
    obtain rfl := Option.some.inj H
    replace hB137 := Bk.renTo (j := 39) hB137
    replace hO139 := Own.ren (i := 43) (j := 39) hO139 rfl rfl
    replace hM141 := Mp.ren (k := 43) (l := 39) hM141 rfl rfl
    replace hB121 := hB121.step s134 rfl
    replace hB121 := Bk.ren (i := 43) (j := 39) hB121 rfl
    replace hO123 := hO123.step s134 rfl rfl
    replace hO123 := Own.ren (i := 43) (j := 39) hO123 rfl rfl
    replace HF := HF.step s134 rfl
    replace HF := HF.ren (i := 43) (j := 39) rfl
    replace hB137 := Bk.ren (i := 44) (j := 38) hB137 rfl
    replace hO139 := Own.renTo (j := 38) hO139 rfl
    replace hM141 := Mp.ren (k := 44) (l := 38) hM141 rfl rfl
    replace hB121 := Bk.ren (i := 44) (j := 38) hB121 rfl
    replace hO123 := Own.ren (i := 44) (j := 38) hO123 rfl rfl
    replace HF := HF.ren (i := 44) (j := 38) rfl
    replace hB137 := Bk.ren (i := 45) (j := 37) hB137 rfl
    replace hO139 := Own.ren (i := 45) (j := 37) hO139 rfl rfl
    replace hM141 := Mp.renTo (j := 37) hM141
    replace hB121 := Bk.ren (i := 45) (j := 37) hB121 rfl
    replace hO123 := Own.ren (i := 45) (j := 37) hO123 rfl rfl
    replace HF := HF.ren (i := 45) (j := 37) rfl
    replace hB137 := Bk.ren (i := 41) (j := 36) hB137 rfl
    replace hO139 := Own.ren (i := 41) (j := 36) hO139 rfl rfl
    replace hM141 := Mp.ren (k := 41) (l := 36) hM141 rfl rfl
    replace hB121 := Bk.renTo (j := 36) hB121
    replace hO123 := Own.ren (i := 41) (j := 36) hO123 rfl rfl
    replace HF := HF.ren (i := 41) (j := 36) rfl
    replace hB137 := Bk.ren (i := 42) (j := 35) hB137 rfl
    replace hO139 := Own.ren (i := 42) (j := 35) hO139 rfl rfl
    replace hM141 := Mp.ren (k := 42) (l := 35) hM141 rfl rfl
    replace hB121 := Bk.ren (i := 42) (j := 35) hB121 rfl
    replace hO123 := Own.renTo (j := 35) hO123 rfl
    replace HF := HF.ren (i := 42) (j := 35) rfl
    exact ⟨_, (.tmp _ rfl (.tmp _ rfl (.tmp _ rfl .nil))), _, Or.inr ⟨_, rfl, b136, v138, b140, b120, v122, rfl, HF.out, hB137, hO139, hM141, hB121, hO123⟩⟩

/-! ### dictumlaw04_Tables -/
set_option maxRecDepth 100000 in
theorem dictumlaw04_Tables.calls (k : Nat) (o0 : Tags) (w0 : World) (pA0 : Option Addr) (pc0 : Nat) {a0 : (List T_api_Node)} {r : (T_formula_Table × (List (T_api_Node × Int))) × T_dictumref03_T} (H : dictumlaw04_Tables.f k a0 = some r) (hO : ∀ b, b < w0.heap.size → o0 b < 40) (hra0 : Row T_api_Node.rep (fun b_ => o0 b_ = 0) (fun b_ => o0 b_ = 0) w0 pA0 a0) (hla0 : a0.length ≤ pc0) :
  Calls Tryz.prog 7 [.slice pA0 a0.length pc0].toArray w0 fun e_ w_ => ∃ (o_ : Tags) (b_0 : Nat) (rv0_0 : Value) (m_0_1 : Nat) (b_1 : Nat) (rv1_0 : Value), e_ = .returned (one [pp b_0 0, pp b_1 0]) ∧ Step o0 w0 o_ w_ [] ∧ Bk o_ w_ 39 b_0 [rv0_0, .map (some m_0_1)] 56 ∧ Own T_api_Node.rep 60 38 o_ w_ rv0_0 r.1.1.f_rows ∧ Mp (fun x_ : T_api_Node => Value.agg #[ii x_.f_Kind, encS x_.f_Name, ii x_.f_L, ii x_.f_R]) (fun v_ : Int => ii v_) 37 o_ w_ m_0_1 r.1.2 ∧ Bk o_ w_ 36 b_1 [rv1_0] 53 ∧ Own T_api_Node.rep 60 35 o_ w_ rv1_0 r.2.f_N := by
 have HF := Fm.refl hO []
 unfold dictumlaw04_Tables.f at H
 refine SX.calls [.slice pA0 a0.length pc0] Tryz.func7 rfl rfl ?_
 rw [Tryz.ntmps7]
 refine WC.seq <|
  WC.region <|
  E rfl (sg (.pointer none) rfl) <|
  E rfl (sg (.pointer none) rfl) <|
  WL.nil <|
  WC.seq <|
  WC.region <|
  E rfl (mv (.slice pA0 a0.length pc0) rfl) ?_
 obtain ⟨z101, hz101, H⟩ := bindE H
 refine WL.op rfl <|
  OW.call [.slice pA0 a0.length pc0] rfl Tryz.func20 (by kernel_rfl) (by kernel_rfl) (map_cons' rfl rfl) (dictumlaw03_Both.calls k _ _ pA0 pc0 hz101 (HF.ten (V := [0]) (L := []) rfl) (Row.vw hra0 rfl) hla0) ?_
 rintro _ w102 ⟨o103, (⟨p104, rfl, rfl, s106⟩ | ⟨q105, rfl, b108, v110, b112, b114, v116, rfl, s107, hB109, hO111, hM113, hB115, hO117⟩)⟩
 ·
  refine ⟨_, rfl, ?_⟩
  dsimp only at H
  replace s106 := un_stepL (J := []) (L' := []) s106 rfl rfl
  refine E rfl (mv (.tuple #[.pointer none, .pointer none, .bool false]) rfl) <|
   E rfl (ex_extract rfl rfl) <|
   E rfl (ex_extract rfl rfl) <|
   E rfl (ex_extract rfl rfl) <|
   E rfl (sg (.pointer none) rfl) <|
   E rfl (sg (.pointer none) rfl) <|
   E rfl (sg (.bool false) rfl) <|
   WL.nil <|
   WC.seq <|
   WC.seq <|
   WC.region <|
   E rfl (mv (.bool false) rfl) <|
   E rfl (ex_not (b := false) rfl) <|
   WL.nil <|
   WC.cond_t rfl <|
   WC.seq <|
   WC.region ?_
  obtain ⟨z118, hz118, H⟩ := bindE H
  refine WL.op rfl ?_
  replace HF := HF.step s106 rfl
  refine OW.call [] rfl Tryz.func21 (by kernel_rfl) (by kernel_rfl) rfl (formula_New.calls _ _ hz118 (HF.ten (V := [0]) (L := []) rfl) ) ?_
  rintro _ w119 ⟨o120, b122, v124, b126, rfl, s121, hB123, hO125, hM127⟩
  refine ⟨_, rfl, ?_⟩
  replace hB123 := Bk.un9 (J := [45, 46, 47]) 0 hB123 rfl s121 rfl rfl
  replace hO125 := Own.un9 (J := [45, 46, 47]) 1 hO125 rfl s121 rfl rfl
  replace hM127 := Mp.un9 (J := [45, 46, 47]) 2 hM127 rfl s121 rfl rfl
  replace s121 := un_stepL (J := [45, 46, 47]) (L' := []) s121 rfl rfl
  refine E rfl (ex_build (cs := [.slice none ([] : List T_api_Node).length 0]) [(0, 1)] [] [.slice none 0 0] U53 zr53 rfl (by kernel_rfl) rfl rfl) <|
   WL.op rfl ?_
  replace HF := HF.step s121 rfl
  refine OW.box' [.slice none ([] : List T_api_Node).length 0] 48 HF rfl ((congrArg Value.cells (show ev _ _ = (.agg #[.slice none ([] : List T_api_Node).length 0] : Value) from rfl)).trans rfl) ?_
  intro o129 w130 b128 s131 hB132
  refine E rfl (sg (pp b122 0) rfl) <|
   E rfl (sg (pp b128 0) rfl) <|
   WL.nil <|
   WC.ret ?_
  obtain rfl := Option.some.inj H
  replace hB123 := hB123.step s131 rfl
  replace hB123 := Bk.renTo (j := 39) hB123
  replace hO125 := hO125.step s131 rfl rfl
  replace hO125 := Own.ren (i := 45) (j := 39) hO125 rfl rfl
  replace hM127 := hM127.step s131 rfl
  replace hM127 := Mp.ren (k := 45) (l := 39) hM127 rfl rfl
  replace hB132 := Bk.ren (i := 45) (j := 39) hB132 rfl
  replace HF := HF.step s131 rfl
  replace HF := HF.ren (i := 45) (j := 39) rfl
  replace hB123 := Bk.ren (i := 46) (j := 38) hB123 rfl
  replace hO125 := Own.renTo (j := 38) hO125 rfl
  replace hM127 := Mp.ren (k := 46) (l := 38) hM127 rfl rfl
  replace hB132 := Bk.ren (i := 46) (j := 38) hB132 rfl
  replace HF := HF.ren (i := 46) (j := 38) rfl
  replace hB123 := Bk.ren (i := 47) (j := 37) hB123 rfl
  replace hO125 := Own.ren (i := 47) (j := 37) hO125 rfl rfl
  replace hM127 := Mp.renTo (j := 37) hM127
  replace hB132 := Bk.ren (i := 47) (j := 37) hB132 rfl
  replace HF := HF.ren (i := 47) (j := 37) rfl
  replace hB123 := Bk.ren (i := 48) (j := 36) hB123 rfl
  replace hO125 := Own.ren (i := 48) (j := 36) hO125 rfl rfl
  replace hM127 := Mp.ren (k := 48) (l := 36) hM127 rfl rfl
  replace hB132 := Bk.renTo (j := 36) hB132
  replace HF := HF.ren (i := 48) (j := 36) rfl
  exact ⟨_, (.tmp _ rfl (.tmp _ rfl .nil)), _, b122, v124, b126, b128, (.slice none 0 0), rfl, HF.out, hB123, hO125, hM127, hB132, Own.nil⟩
 ·
  refine ⟨_, rfl, ?_⟩
  dsimp only at H
  replace hB109 := Bk.un9 (J := [40, 41, 42, 43, 44]) 0 hB109 rfl s107 rfl rfl
  replace hO111 := Own.un9 (J := [40, 41, 42, 43, 44]) 1 hO111 rfl s107 rfl rfl
  replace hM113 := Mp.un9 (J := [40, 41, 42, 43, 44]) 2 hM113 rfl s107 rfl rfl
  replace hB115 := Bk.un9 (J := [40, 41, 42, 43, 44]) 3 hB115 rfl s107 rfl rfl
  replace hO117 := Own.un9 (J := [40, 41, 42, 43, 44]) 4 hO117 rfl s107 rfl rfl
  replace s107 := un_stepL (J := [40, 41, 42, 43, 44]) (L' := []) s107 rfl rfl
  refine E rfl (mv (.tuple #[pp b108 0, pp b114 0, .bool true]) rfl) <|
   E rfl (ex_extract rfl rfl) <|
   E rfl (ex_extract rfl rfl) <|
   E rfl (ex_extract rfl rfl) <|
   E rfl (sg (pp b108 0) rfl) <|
   E rfl (sg (pp b114 0) rfl) <|
   E rfl (sg (.bool true) rfl) <|
   WL.nil <|
   WC.seq <|
   WC.seq <|
   WC.region <|
   E rfl (mv (.bool true) rfl) <|
   E rfl (ex_not (b := true) rfl) <|
   WL.nil <|
   WC.cond_f rfl <|
   WC.skip <|
   WC.seq <|
   WC.region <|
   E rfl (mv (pp b108 0) rfl) <|
   E rfl (mv (pp b114 0) rfl) <|
   E rfl (sg (pp b108 0) rfl) <|
   E rfl (sg (pp b114 0) rfl) <|
   WL.nil <|
   WC.ret ?_
  obtain rfl := Option.some.inj H
  replace hB109 := Bk.renTo (j := 39) hB109
  replace hO111 := Own.ren (i := 40) (j := 39) hO111 rfl rfl
  replace hM113 := Mp.ren (k := 40) (l := 39) hM113 rfl rfl
  replace hB115 := Bk.ren (i := 40) (j := 39) hB115 rfl
  replace hO117 := Own.ren (i := 40) (j := 39) hO117 rfl rfl
  replace HF := HF.step s107 rfl
  replace HF := HF.ren (i := 40) (j := 39) rfl
  replace hB109 := Bk.ren (i := 41) (j := 38) hB109 rfl
  replace hO111 := Own.renTo (j := 38) hO111 rfl
  replace hM113 := Mp.ren (k := 41) (l := 38) hM113 rfl rfl
  replace hB115 := Bk.ren (i := 41) (j := 38) hB115 rfl
  replace hO117 := Own.ren (i := 41) (j := 38) hO117 rfl rfl
  replace HF := HF.ren (i := 41) (j := 38) rfl
  replace hB109 := Bk.ren (i := 42) (j := 37) hB109 rfl
  replace hO111 := Own.ren (i := 42) (j := 37) hO111 rfl rfl
  replace hM113 := Mp.renTo (j := 37) hM113
  replace hB115 := Bk.ren (i := 42) (j := 37) hB115 rfl
  replace hO117 := Own.ren (i := 42) (j := 37) hO117 rfl rfl
  replace HF := HF.ren (i := 42) (j := 37) rfl
  replace hB109 := Bk.ren (i := 43) (j := 36) hB109 rfl
  replace hO111 := Own.ren (i := 43) (j := 36) hO111 rfl rfl
  replace hM113 := Mp.ren (k := 43) (l := 36) hM113 rfl rfl
  replace hB115 := Bk.renTo (j := 36) hB115
  replace hO117 := Own.ren (i := 43) (j := 36) hO117 rfl rfl
  replace HF := HF.ren (i := 43) (j := 36) rfl
  replace hB109 := Bk.ren (i := 44) (j := 35) hB109 rfl
  replace hO111 := Own.ren (i := 44) (j := 35) hO111 rfl rfl
  replace hM113 := Mp.ren (k := 44) (l := 35) hM113 rfl rfl
  replace hB115 := Bk.ren (i := 44) (j := 35) hB115 rfl
  replace hO117 := Own.renTo (j := 35) hO117 rfl
  replace HF := HF.ren (i := 44) (j := 35) rfl
  exact ⟨_, (.tmp _ rfl (.tmp _ rfl .nil)), _, b108, v110, b112, b114, v116, rfl, HF.out, hB109, hO111, hM113, hB115, hO117⟩

/-! ### formula_Table_Len -/
set_option maxRecDepth 100000 in
theorem formula_Table_Len.calls (o0 : Tags) (w0 : World) (pb0 : Nat) (pv0_0 : Value) (pb0_1 : Nat) {a0 : T_formula_Table} {a0_1 : (List (T_api_Node × Int))} {r : Int} (H : formula_Table_Len.f a0 a0_1 = some r) (hO : ∀ b, b < w0.heap.size → o0 b < 40) (hB0 : Bk o0 w0 2 pb0 [pv0_0, .map (some pb0_1)] 56) (hO0_0 : Own T_api_Node.rep 60 3 o0 w0 pv0_0 a0.f_rows) (hM0_1 : Mp (fun x_ : T_api_Node => Value.agg #[ii x_.f_Kind, encS x_.f_Name, ii x_.f_L, ii x_.f_R]) (fun v_ : Int => ii v_) 4 o0 w0 pb0_1 a0_1) :
  Calls Tryz.prog 8 [pp pb0 0].toArray w0 fun e_ w_ => ∃ (o_ : Tags), e_ = .returned (one [ii r]) ∧ Step o0 w0 o_ w_ [] := by
 have HF := Fm.refl hO []
 unfold formula_Table_Len.f at H
 refine SX.calls [pp pb0 0] Tryz.func8 rfl rfl ?_
 rw [Tryz.ntmps8]
 refine WC.seq <|
  WC.region <|
  E rfl (sg (ii 0) rfl) <|
  WL.nil <|
  WC.seq <|
  WC.seq <|
  WC.region <|
  E rfl (mv (pp pb0 0) rfl) ?_
 obtain ⟨z101, hz101, H⟩ := bindE H
 refine WL.op rfl <|
  OW.call [pp pb0 0] rfl Tryz.func22 (by kernel_rfl) (by kernel_rfl) (map_cons' rfl rfl) (formula_Table_alive.calls _ _ pb0 pv0_0 pb0_1 (a0 := a0) hz101 (HF.ten (V := [0]) (L := [2, 3, 4]) rfl) (Bk.vw hB0 rfl) (Own.vw hO0_0 rfl rfl) (Mp.vw hM0_1 rfl)) ?_
 obtain rfl := Option.some.inj (show some true = some z101 from hz101)
 rintro _ w102 ⟨o103, rfl, s104⟩
 refine ⟨_, rfl, ?_⟩
 replace s104 := un_stepL (J := []) (L' := []) s104 rfl rfl
 refine E rfl (ex_not (b := true) rfl) <|
  WL.nil <|
  WC.cond_f rfl <|
  WC.skip <|
  WC.seq <|
  WC.region <|
  E rfl (mv (pp pb0 0) rfl) <|
  E rfl (ex_nilCheck rfl) <|
  E rfl (ex_fieldAddr rfl U56 rfl sz22) ?_
 replace hB0 := hB0.step s104 rfl
 refine E rfl (ex_load1 rfl U22 rfl (hB0.cell rfl)) ?_
 replace hO0_0 := hO0_0.step s104 rfl rfl
 obtain ⟨A105, c106, q107⟩ := hO0_0.slice
 refine E rfl (ex_len_slice ((show _ = (pv0_0 : Value) from rfl).trans q107) U22) <|
  E rfl (sg (ii (a0.f_rows.length : Int)) rfl) <|
  WL.nil <|
  WC.ret ?_
 obtain rfl := Option.some.inj H
 replace HF := HF.step s104 rfl
 exact ⟨_, (.tmp _ rfl .nil), _, rfl, HF.out⟩

/-! ### formula_Table_Copy -/
set_option maxRecDepth 100000 in
theorem formula_Table_Copy.calls (k : Nat) (o0 : Tags) (w0 : World) (pb0 : Nat) (pv0_0 : Value) (pb0_1 : Nat) {a0 : T_formula_Table} {a0_1 : (List (T_api_Node × Int))} {r : (T_formula_Table × (List (T_api_Node × Int)))} (H : formula_Table_Copy.f k a0 a0_1 = some r) (hO : ∀ b, b < w0.heap.size → o0 b < 40) (hB0 : Bk o0 w0 2 pb0 [pv0_0, .map (some pb0_1)] 56) (hO0_0 : Own T_api_Node.rep 60 3 o0 w0 pv0_0 a0.f_rows) (hM0_1 : Mp (fun x_ : T_api_Node => Value.agg #[ii x_.f_Kind, encS x_.f_Name, ii x_.f_L, ii x_.f_R]) (fun v_ : Int => ii v_) 4 o0 w0 pb0_1 a0_1) :
  Calls Tryz.prog 48 [pp pb0 0].toArray w0 fun e_ w_ => ∃ (o_ : Tags) (b_0 : Nat) (rv0_0 : Value) (m_0_1 : Nat), e_ = .returned (one [pp b_0 0]) ∧ Step o0 w0 o_ w_ [] ∧ Bk o_ w_ 39 b_0 [rv0_0, .map (some m_0_1)] 56 ∧ Own T_api_Node.rep 60 38 o_ w_ rv0_0 r.1.f_rows ∧ Mp (fun x_ : T_api_Node => Value.agg #[ii x_.f_Kind, encS x_.f_Name, ii x_.f_L, ii x_.f_R]) (fun v_ : Int => ii v_) 37 o_ w_ m_0_1 r.2 := by
 have HF := Fm.refl hO []
 unfold formula_Table_Copy.f at H
 refine SX.calls [pp pb0 0] Tryz.func48 rfl rfl ?_
 rw [Tryz.ntmps48]
 refine WC.seq <|
  WC.region <|
  E rfl (sg (.pointer none) rfl) <|
  WL.nil <|
  WC.seq <|
  WC.seq <|
  WC.region <|
  E rfl (mv (pp pb0 0) rfl) ?_
 obtain ⟨z101, hz101, H⟩ := bindE H
 refine WL.op rfl <|
  OW.call [pp pb0 0] rfl Tryz.func22 (by kernel_rfl) (by kernel_rfl) (map_cons' rfl rfl) (formula_Table_alive.calls _ _ pb0 pv0_0 pb0_1 (a0 := a0) hz101 (HF.ten (V := [0]) (L := [2, 3, 4]) rfl) (Bk.vw hB0 rfl) (Own.vw hO0_0 rfl rfl) (Mp.vw hM0_1 rfl)) ?_
 obtain rfl := Option.some.inj (show some true = some z101 from hz101)
 rintro _ w102 ⟨o103, rfl, s104⟩
 refine ⟨_, rfl, ?_⟩
 replace s104 := un_stepL (J := []) (L' := []) s104 rfl rfl
 refine E rfl (ex_not (b := true) rfl) <|
  WL.nil <|
  WC.cond_f rfl <|
  WC.skip <|
  WC.seq <|
  WC.region ?_
 obtain ⟨z105, hz105, H⟩ := bindE H
 refine WL.op rfl ?_
 replace HF := HF.step s104 rfl
 refine OW.call [] rfl Tryz.func21 (by kernel_rfl) (by kernel_rfl) rfl (formula_New.calls _ _ hz105 (HF.ten (V := [0]) (L := []) rfl) ) ?_
 rintro _ w106 ⟨o107, b109, v111, b113, rfl, s108, hB110, hO112, hM114⟩
 refine ⟨_, rfl, ?_⟩
 replace hB110 := Bk.un9 (J := [40, 41, 42]) 0 hB110 rfl s108 rfl rfl
 replace hO112 := Own.un9 (J := [40, 41, 42]) 1 hO112 rfl s108 rfl rfl
 replace hM114 := Mp.un9 (J := [40, 41, 42]) 2 hM114 rfl s108 rfl rfl
 replace s108 := un_stepL (J := [40, 41, 42]) (L' := []) s108 rfl rfl
 refine E rfl (sg (pp b109 0) rfl) <|
  WL.nil <|
  WC.seq <|
  WC.seq <|
  WC.region <|
  E rfl (mv (pp pb0 0) rfl) <|
  E rfl (ex_nilCheck rfl) <|
  E rfl (ex_fieldAddr rfl U56 rfl sz22) ?_
 have k104_108 := s104.t s108
 replace hB0 := hB0.step k104_108 rfl
 refine E rfl (ex_load1 rfl U22 rfl (hB0.cell rfl)) ?_
 replace hO0_0 := hO0_0.step k104_108 rfl rfl
 obtain ⟨A115, c116, q117⟩ := hO0_0.slice
 refine E rfl (ex_len_slice ((show _ = (pv0_0 : Value) from rfl).trans q117) U22) <|
  E rfl (mv (ii 0) rfl) <|
  WL.nil ?_
 obtain ⟨z127, hz127, H⟩ := bindE H
 obtain ⟨x123, x126⟩ := z127
 replace HF := HF.step s108 rfl
 replace hM0_1 := hM0_1.step k104_108 rfl
 refine WC.for (fun k_ ρ_ w_ => ∃ (o_ : Tags) (x118 : Int) (x119 : T_formula_Table) (x122 : (List (T_api_Node × Int))) (v120 : Value), Fm o0 w0 o_ w_ [] ∧ Own T_api_Node.rep 60 3 o_ w_ pv0_0 a0.f_rows ∧ Bk o_ w_ 2 pb0 [pv0_0, .map (some pb0_1)] 56 ∧ Mp (fun x_ : T_api_Node => Value.agg #[ii x_.f_Kind, encS x_.f_Name, ii x_.f_L, ii x_.f_R]) (fun v_ : Int => ii v_) 4 o_ w_ pb0_1 a0_1 ∧ Bk o_ w_ 40 b109 [v120, .map (some b113)] 56 ∧ Own T_api_Node.rep 60 41 o_ w_ v120 x119.f_rows ∧ Mp (fun x_ : T_api_Node => Value.agg #[ii x_.f_Kind, encS x_.f_Name, ii x_.f_L, ii x_.f_R]) (fun v_ : Int => ii v_) 42 o_ w_ b113 x122 ∧ ρ_ 2 = .pointer none ∧ ρ_ 3 = pp b109 0 ∧ ρ_ 13 = pv0_0 ∧ ρ_ 14 = ii (a0.f_rows.length : Int) ∧ ρ_ 15 = ii x118 ∧ formula_Table_Copy.l1 k a0 k_ x118 x119 x122 = some (x123, x126)) k (fun ρ_ w_ => ∃ (o_ : Tags) (v124 : Value), Fm o0 w0 o_ w_ [] ∧ Bk o_ w_ 2 pb0 [pv0_0, .map (some pb0_1)] 56 ∧ Own T_api_Node.rep 60 3 o_ w_ pv0_0 a0.f_rows ∧ Mp (fun x_ : T_api_Node => Value.agg #[ii x_.f_Kind, encS x_.f_Name, ii x_.f_L, ii x_.f_R]) (fun v_ : Int => ii v_) 4 o_ w_ pb0_1 a0_1 ∧ Bk o_ w_ 40 b109 [v124, .map (some b113)] 56 ∧ Own T_api_Node.rep 60 41 o_ w_ v124 x123.f_rows ∧ Mp (fun x_ : T_api_Node => Value.agg #[ii x_.f_Kind, encS x_.f_Name, ii x_.f_L, ii x_.f_R]) (fun v_ : Int => ii v_) 42 o_ w_ b113 x126 ∧ ρ_ 2 = .pointer none ∧ ρ_ 3 = pp b109 0) ⟨_, 0, z105.1, z105.2, _, HF, hO0_0, hB0, hM0_1, hB110, hO112, hM114, rfl, rfl, rfl, rfl, rfl, hz127⟩ ?case128 ?_
 case case128 =>
  rintro ρ189 w190 ⟨o191, v124, HF, hB0, hO0_0, hM0_1, hB110, hO125, hM114, s2_122, s3_122⟩
  refine WC.seq <|
   WC.region <|
   E rfl (mv (pp b109 0) s3_122) <|
   E rfl (sg (pp b109 0) rfl) <|
   WL.nil <|
   WC.ret ?_
  obtain rfl := Option.some.inj H
  replace hB110 := Bk.renTo (j := 39) hB110
  replace hO125 := Own.ren (i := 40) (j := 39) hO125 rfl rfl
  replace hM114 := Mp.ren (k := 40) (l := 39) hM114 rfl rfl
  replace HF := HF.ren (i := 40) (j := 39) rfl
  replace hB110 := Bk.ren (i := 41) (j := 38) hB110 rfl
  replace hO125 := Own.renTo (j := 38) hO125 rfl
  replace hM114 := Mp.ren (k := 41) (l := 38) hM114 rfl rfl
  replace HF := HF.ren (i := 41) (j := 38) rfl
  replace hB110 := Bk.ren (i := 42) (j := 37) hB110 rfl
  replace hO125 := Own.ren (i := 42) (j := 37) hO125 rfl rfl
  replace hM114 := Mp.renTo (j := 37) hM114
  replace HF := HF.ren (i := 42) (j := 37) rfl
  exact ⟨_, (.tmp _ rfl .nil), _, b109, v124, b113, rfl, HF.out, hB110, hO125, hM114⟩
 have Ho129 := H
 rintro k130 ρ131 w132 ⟨o133, x118, x119, x122, v120, HF, hO0_0, hB0, hM0_1, hB110, hO121, hM114, s2_117, s3_117, s13_117, s14_117, s15_118, H⟩
 cases k130 with
 | zero => cases H
 | succ k130 =>
 rw [formula_Table_Copy.l1.eq_2] at H
 refine WC.seq <|
  WC.region <|
  E rfl (e2 bin_lss s15_118 s14_117) <|
  WL.nil <|
  WC.seq ?_
 rcases condE H with ⟨c134, H⟩ | ⟨c134, H⟩
 ·
  refine WC.cond_t (vb c134 rfl) <|
   WC.skip <|
   WC.seq <|
   WC.block <|
   WC.seq <|
   WC.region <|
   E rfl (mv (ii x118) s15_118) ?_
  obtain ⟨x135, hx135, H⟩ := bindE H
  obtain ⟨A140, c141, q142_⟩ := hO0_0.slice
  obtain ⟨ad136, cc143, e137, g138, g139, hl144, hR145, cell146⟩ := Row.ix (Own.rowOf hO0_0 q142_) hx135
  obtain rfl := T_api_Node.opn hR145
  refine E rfl (ex_indexAddr (i := x118) ((show _ = (pv0_0 : Value) from s13_117).trans q142_) e137 s15_118 U22 sz60 g138 g139) <|
   E rfl (ex_loadN (cs := [ii x135.f_Kind, encS x135.f_Name, ii x135.f_L, ii x135.f_R]) rfl U60 rfl sz60 cell146) <|
   WL.op rfl <|
   OW.alloc' [ii (0 : Int), encS ([] : List UInt8), ii (0 : Int), ii (0 : Int)] 43 HF rfl zr60 rfl ?_
  intro o149 w150 b148 s151 hB152
  refine E rfl (sg (ii x118) rfl) <|
   WL.op rfl <|
   OW.storeW rfl rfl sz60 hB152 rfl (oa rfl) ?_
  intro w153 s154 hB155
  refine WL.nil ?_
  obtain ⟨z159, hz159, H⟩ := bindE H
  refine WC.cut (fun ρ_ w_ => ∃ (o_ : Tags) (v157 : Value), Fm o0 w0 o_ w_ [] ∧ Own T_api_Node.rep 60 3 o_ w_ pv0_0 a0.f_rows ∧ Bk o_ w_ 2 pb0 [pv0_0, .map (some pb0_1)] 56 ∧ Mp (fun x_ : T_api_Node => Value.agg #[ii x_.f_Kind, encS x_.f_Name, ii x_.f_L, ii x_.f_R]) (fun v_ : Int => ii v_) 4 o_ w_ pb0_1 a0_1 ∧ Bk o_ w_ 40 b109 [v157, .map (some b113)] 56 ∧ Own T_api_Node.rep 60 41 o_ w_ v157 z159.f_rows ∧ Bk o_ w_ 43 b148 [ii x135.f_Kind, encS x135.f_Name, ii x135.f_L, ii x135.f_R] 60 ∧ Mp (fun x_ : T_api_Node => Value.agg #[ii x_.f_Kind, encS x_.f_Name, ii x_.f_L, ii x_.f_R]) (fun v_ : Int => ii v_) 42 o_ w_ b113 x122 ∧ ρ_ 2 = .pointer none ∧ ρ_ 3 = pp b109 0 ∧ ρ_ 4 = ii x118 ∧ ρ_ 5 = pp b148 0 ∧ ρ_ 13 = pv0_0 ∧ ρ_ 14 = ii (a0.f_rows.length : Int) ∧ ρ_ 15 = ii x118) ?case160 ?_
  case case160 =>
   rintro ρ163 w161 ⟨o162, v157, HF, hO0_0, hB0, hM0_1, hB174, hO158, hB155, hM114, s2_155, s3_155, s4_155, s5_155, s13_155, s14_155, s15_155⟩
   refine WC.regionD' HF [] 6 7 (by kernel_rfl) rfl ?_
   intro w164 s165
   replace hB174 := hB174.step s165 rfl
   have hB174D := hB174
   replace hB155 := hB155.step s165 rfl
   have hB155D := hB155
   replace HF := HF.step s165 rfl
   have sR := HF.here []
   refine WA.seq [0, 1, 2, 3, 4, 5] (lb 7 63) 1 (by kernel_rfl) rfl ⟨_, sR⟩ <|
    X1 rfl (fun w_ hS_ => ex_move (v := pp b109 0) s3_155) <|
    X1 rfl (fun w_ hS_ => ex_nilCheck rfl) <|
    X1 rfl (fun w_ hS_ => ex_fieldAddr rfl U56 rfl sz54) <|
    X1 rfl (fun w_ hS_ => ex_load1 (v := .map (some b113)) rfl U54 rfl ((hB174D.step hS_.choose_spec rfl).cell rfl)) <|
    X1 rfl (fun w_ hS_ => ex_loadN (cs := [ii x135.f_Kind, encS x135.f_Name, ii x135.f_L, ii x135.f_R]) s5_155 U60 rfl sz60 ((hB155D.step hS_.choose_spec rfl).cells rfl)) <|
    X1 rfl (fun w_ hS_ => ex_move (v := ii x118) s4_155) <|
    WA.last 6 (by kernel_rfl) (by kernel_rfl) rfl rfl rfl ?_
   replace hM114 := hM114.step s165 rfl
   refine OW.mapUpdate (ek := (fun x_ : T_api_Node => Value.agg #[ii x_.f_Kind, encS x_.f_Name, ii x_.f_L, ii x_.f_R])) (ev := (fun v_ : Int => ii v_)) (eq := T_api_Node.eqb) (kx := x135) (vx := x118) rfl rfl rfl U54 key60 hM114 ?_
   intro w166 s167 hM168
   refine WC.region <|
    E rfl (e2 bin_add64 s15_155 rfl) <|
    E rfl (mv (ii (wrap64 (x118 + 1))) rfl) <|
    WL.nil ?_
   replace hB174 := hB174.step s167 rfl
   replace HF := HF.step s167 rfl
   have k165_167 := s165.t s167
   replace hO0_0 := hO0_0.step k165_167 rfl rfl
   replace hB0 := hB0.step k165_167 rfl
   replace hM0_1 := hM0_1.step k165_167 rfl
   replace hO158 := hO158.step k165_167 rfl rfl
   exact ⟨k130, Nat.lt_succ_self _, ⟨_, wrap64 (x118 + 1), z159, (mput T_api_Node.eqb x122 x135 x118), _, HF, hO0_0, hB0, hM0_1, hB174, hO158, hM168, s2_155, s3_155, s13_155, s14_155, rfl, H⟩⟩
  have Ho169 := H
  replace H := hz159
  have k151_154 := s151.t s154
  replace HF := HF.step k151_154 rfl
  refine WC.regionD' HF [40, 41] 11 11 (by kernel_rfl) rfl ?_
  intro w170 s171
  replace hB155 := hB155.step s171 rfl
  have hB155D := hB155
  replace HF := HF.step s171 rfl
  have sR := HF.here [40, 41]
  refine WA.seq [0, 1, 2, 3, 5] (lb 11 47) 6 (by kernel_rfl) rfl ⟨_, sR⟩ <|
   X1 rfl (fun w_ hS_ => ex_move (v := pp b109 0) s3_117) <|
   X1 rfl (fun w_ hS_ => ex_move (v := pp b109 0) s3_117) <|
   X1 rfl (fun w_ hS_ => ex_nilCheck rfl) <|
   X1 rfl (fun w_ hS_ => ex_fieldAddr rfl U56 rfl sz22) <|
   X1 rfl (fun w_ hS_ => ex_loadN (cs := [ii x135.f_Kind, encS x135.f_Name, ii x135.f_L, ii x135.f_R]) rfl U60 rfl sz60 ((hB155D.step hS_.choose_spec rfl).cells rfl)) ?_
  refine WA.both 4 6 (by kernel_rfl) rfl rfl rfl rfl ?_ ?_
  ·
   have k151_171 := k151_154.t s171
   replace hB110 := hB110.step k151_171 rfl
   refine OW.ex rfl (ex_load1 rfl U22 rfl (hB110.cell rfl)) ?_
   refine ⟨⟨_, sR⟩, ?_⟩
   refine WA.norm (listed' := lb 11 63) (by kernel_rfl) <|
    WA.one 6 (by kernel_rfl) rfl rfl <|
    OW.row (r := T_api_Node.rep) (xs := [x135]) [(0, .agg #[ii x135.f_Kind, encS x135.f_Name, ii x135.f_L, ii x135.f_R])] [[ii x135.f_Kind, encS x135.f_Name, ii x135.f_L, ii x135.f_R]] 44 HF rfl U22 sz60 zr60 rfl (evs_cons rfl rfl) rfl rfl ⟨(T_api_Node.mk' x135 ), trivial⟩ rfl rfl rfl rfl ?_
   intro o172 w173 v175 s174 hO176
   replace sR := Step.trans sR s174 (M := [40, 41]) rfl rfl
   refine ⟨⟨_, sR⟩, ?_⟩
   refine WA.norm (listed' := lb 11 127) (by kernel_rfl) ?_
   obtain ⟨A177, c178, q179_, _, q179⟩ := hO176.row
   obtain ⟨u180, hu180, H⟩ := bindE H
   refine WA.one 7 (by kernel_rfl) rfl rfl ?_
   have k151_174 := k151_171.t s174
   replace hO121 := hO121.step k151_174 rfl rfl
   refine OW.append (r := T_api_Node.rep) (E := 60) (i := 41) rfl U22 inf60 rfl (by decide) (by decide) (by decide) rfl ((show _ = (v175 : Value) from rfl).trans q179_) hO121 q179 rfl (of_decide_eq_true (chk_true hu180)) ?_
   intro o181 w182 v183 s184 hO185
   replace sR := Step.trans sR s184 (M := [40, 41]) rfl rfl
   refine ⟨⟨_, sR⟩, ?_⟩
   refine WA.norm (listed' := lb 11 255) (by kernel_rfl) <|
    WA.seq [8, 9] (lb 11 1023) 1 (by kernel_rfl) rfl ⟨_, sR⟩ <|
    X1 rfl (fun w_ hS_ => ex_nilCheck rfl) <|
    X1 rfl (fun w_ hS_ => ex_fieldAddr rfl U56 rfl sz22) <|
    WA.one 10 (by kernel_rfl) rfl rfl ?_
   have k174_184 := s174.t s184
   replace hB110 := hB110.step k174_184 rfl
   refine OW.store [v183, .map (some b113)] rfl (vs := [v183]) ((congrArg Value.cells (show ev _ _ = (v183 : Value) from rfl)).trans (Own.cells1 hO185)) sz22 hB110 (Nat.le_of_ble_eq_true rfl) (by intro u_ hu_; simp only [List.mem_cons, List.not_mem_nil, or_false] at hu_; rcases hu_ with rfl; first | rfl | exact Own.oneCell hO185) rfl ?_
   intro w186 s187 hB188
   replace sR := Step.trans sR s187 (M := [40, 41]) rfl rfl
   refine ⟨⟨_, sR⟩, ?_⟩
   refine WA.norm (listed' := lb 11 2047) (by kernel_rfl) <|
    WA.done (by kernel_rfl) ?_
   obtain rfl := Option.some.inj H
   replace hO185 := hO185.step s187 rfl rfl
   have k174_187 := k174_184.t s187
   replace hB155 := hB155.step k174_187 rfl
   replace HF := HF.step k174_187 rfl
   have k151_187 := (k151_174.t s184).t s187
   replace hO0_0 := hO0_0.step k151_187 rfl rfl
   replace hB0 := hB0.step k151_187 rfl
   replace hM0_1 := hM0_1.step k151_187 rfl
   replace hM114 := hM114.step k151_187 rfl
   exact ⟨_, _, HF, hO0_0, hB0, hM0_1, hB188, hO185, hB155, hM114, s2_117, s3_117, rfl, rfl, s13_117, s14_117, s15_118⟩
  ·
   refine OW.row (r := T_api_Node.rep) (xs := [x135]) [(0, .agg #[ii x135.f_Kind, encS x135.f_Name, ii x135.f_L, ii x135.f_R])] [[ii x135.f_Kind, encS x135.f_Name, ii x135.f_L, ii x135.f_R]] 44 HF rfl U22 sz60 zr60 rfl (evs_cons rfl rfl) rfl rfl ⟨(T_api_Node.mk' x135 ), trivial⟩ rfl rfl rfl rfl ?_
   intro o172 w173 v175 s174 hO176
   replace sR := Step.trans sR s174 (M := [40, 41]) rfl rfl
   refine ⟨⟨_, sR⟩, ?_⟩
   refine WA.norm (listed' := lb 11 111) (by kernel_rfl) <|
    WA.one 4 (by kernel_rfl) rfl rfl ?_
   have k151_174 := (k151_154.t s171).t s174
   replace hB110 := hB110.step k151_174 rfl
   refine OW.ex rfl (ex_load1 rfl U22 rfl (hB110.cell rfl)) ?_
   refine ⟨⟨_, sR⟩, ?_⟩
   refine WA.norm (listed' := lb 11 127) (by kernel_rfl) ?_
   obtain ⟨A177, c178, q179_, _, q179⟩ := hO176.row
   obtain ⟨u180, hu180, H⟩ := bindE H
   refine WA.one 7 (by kernel_rfl) rfl rfl ?_
   replace hO121 := hO121.step k151_174 rfl rfl
   refine OW.append (r := T_api_Node.rep) (E := 60) (i := 41) rfl U22 inf60 rfl (by decide) (by decide) (by decide) rfl ((show _ = (v175 : Value) from rfl).trans q179_) hO121 q179 rfl (of_decide_eq_true (chk_true hu180)) ?_
   intro o181 w182 v183 s184 hO185
   replace sR := Step.trans sR s184 (M := [40, 41]) rfl rfl
   refine ⟨⟨_, sR⟩, ?_⟩
   refine WA.norm (listed' := lb 11 255) (by kernel_rfl) <|
    WA.seq [8, 9] (lb 11 1023) 1 (by kernel_rfl) rfl ⟨_, sR⟩ <|
    X1 rfl (fun w_ hS_ => ex_nilCheck rfl) <|
    X1 rfl (fun w_ hS_ => ex_fieldAddr rfl U56 rfl sz22) <|
    WA.one 10 (by kernel_rfl) rfl rfl ?_
   replace hB110 := hB110.step s184 rfl
   refine OW.store [v183, .map (some b113)] rfl (vs := [v183]) ((congrArg Value.cells (show ev _ _ = (v183 : Value) from rfl)).trans (Own.cells1 hO185)) sz22 hB110 (Nat.le_of_ble_eq_true rfl) (by intro u_ hu_; simp only [List.mem_cons, List.not_mem_nil, or_false] at hu_; rcases hu_ with rfl; first | rfl | exact Own.oneCell hO185) rfl ?_
   intro w186 s187 hB188
   replace sR := Step.trans sR s187 (M := [40, 41]) rfl rfl
   refine ⟨⟨_, sR⟩, ?_⟩
   refine WA.norm (listed' := lb 11 2047) (by kernel_rfl) <|
    WA.done (by kernel_rfl) ?_
   obtain rfl := Option.some.inj H
   replace hO185 := hO185.step s187 rfl rfl
   have k174_187 := (s174.t s184).t s187
   replace hB155 := hB155.step k174_187 rfl
   replace HF := HF.step k174_187 rfl
   have k151_187 := (k151_174.t s184).t s187
   replace hO0_0 := hO0_0.step k151_187 rfl rfl
   replace hB0 := hB0.step k151_187 rfl
   replace hM0_1 := hM0_1.step k151_187 rfl
   replace hM114 := hM114.step k151_187 rfl
   exact ⟨_, _, HF, hO0_0, hB0, hM0_1, hB188, hO185, hB155, hM114, s2_117, s3_117, rfl, rfl, s13_117, s14_117, s15_118⟩
 ·
  refine WC.cond_f (vb c134 rfl) <|
   WC.exit ?_
  obtain ⟨rfl, rfl⟩ := Prod.mk.inj (Option.some.inj H)
  exact ⟨_, _, HF, hB0, hO0_0, hM0_1, hB110, hO121, hM114, s2_117, s3_117⟩

/-! ### syntax_known -/
set_option maxRecDepth 100000 in
theorem syntax_known.calls (k : Nat) (o0 : Tags) (w0 : World) (pb0 : Nat) (pv0_0 : Value) (pb0_1 : Nat) {a0 : T_formula_Table} {a0_1 : (List (T_api_Node × Int))} {r : Bool} (H : syntax_known.f k a0 a0_1 = some r) (hO : ∀ b, b < w0.heap.size → o0 b < 40) (hB0 : Bk o0 w0 2 pb0 [pv0_0, .map (some pb0_1)] 56) (hO0_0 : Own T_api_Node.rep 60 3 o0 w0 pv0_0 a0.f_rows) (hM0_1 : Mp (fun x_ : T_api_Node => Value.agg #[ii x_.f_Kind, encS x_.f_Name, ii x_.f_L, ii x_.f_R]) (fun v_ : Int => ii v_) 4 o0 w0 pb0_1 a0_1) :
  Calls Tryz.prog 23 [pp pb0 0].toArray w0 fun e_ w_ => ∃ (o_ : Tags), e_ = .returned (one [.bool r]) ∧ Step o0 w0 o_ w_ [] := by
 have HF := Fm.refl hO []
 unfold syntax_known.f at H
 refine SX.calls [pp pb0 0] Tryz.func23 rfl rfl ?_
 rw [Tryz.ntmps23]
 refine WC.seq <|
  WC.region <|
  E rfl (sg (.bool false) rfl) <|
  WL.nil <|
  WC.seq <|
  WC.region <|
  E rfl (mv (pp pb0 0) rfl) ?_
 obtain ⟨z101, hz101, H⟩ := bindE H
 refine WL.op rfl <|
  OW.call [pp pb0 0] rfl Tryz.func48 (by kernel_rfl) (by kernel_rfl) (map_cons' rfl rfl) (formula_Table_Copy.calls k _ _ pb0 pv0_0 pb0_1 (a0 := a0) hz101 (HF.ten (V := [0]) (L := [2, 3, 4]) rfl) (Bk.vw hB0 rfl) (Own.vw hO0_0 rfl rfl) (Mp.vw hM0_1 rfl)) ?_
 rintro _ w102 ⟨o103, b105, v107, b109, rfl, s104, hB106, hO108, hM110⟩
 refine ⟨_, rfl, ?_⟩
 replace hB106 := Bk.un9 (J := [40, 41, 42]) 0 hB106 rfl s104 rfl rfl
 replace hO108 := Own.un9 (J := [40, 41, 42]) 1 hO108 rfl s104 rfl rfl
 replace hM110 := Mp.un9 (J := [40, 41, 42]) 2 hM110 rfl s104 rfl rfl
 replace s104 := un_stepL (J := [40, 41, 42]) (L' := []) s104 rfl rfl
 refine E rfl (ex_bin (a := pp b105 0) (b := .pointer none) (v := .bool true) rfl rfl (bin_neq_ptrSN U23)) <|
  E rfl (sg (.bool true) rfl) <|
  WL.nil <|
  WC.ret ?_
 obtain rfl := Option.some.inj H
 replace HF := HF.step s104 rfl
 exact ⟨_, (.tmp _ rfl .nil), _, rfl, HF.out⟩

/-! ### formula_Table_Node -/
set_option maxRecDepth 100000 in
theorem formula_Table_Node.calls (o0 : Tags) (w0 : World) (pb0 : Nat) (pv0_0 : Value) (pb0_1 : Nat) {a0 : T_formula_Table} {a1 : Int} {a0_1 : (List (T_api_Node × Int))} {r : T_api_Node × Bool} (H : formula_Table_Node.f a0 a1 a0_1 = some r) (hO : ∀ b, b < w0.heap.size → o0 b < 40) (hB0 : Bk o0 w0 2 pb0 [pv0_0, .map (some pb0_1)] 56) (hO0_0 : Own T_api_Node.rep 60 3 o0 w0 pv0_0 a0.f_rows) (hM0_1 : Mp (fun x_ : T_api_Node => Value.agg #[ii x_.f_Kind, encS x_.f_Name, ii x_.f_L, ii x_.f_R]) (fun v_ : Int => ii v_) 4 o0 w0 pb0_1 a0_1) :
  Calls Tryz.prog 24 [pp pb0 0, ii a1].toArray w0 fun e_ w_ => ∃ (o_ : Tags), e_ = .returned (one [.agg #[ii r.1.f_Kind, encS r.1.f_Name, ii r.1.f_L, ii r.1.f_R], .bool r.2]) ∧ Step o0 w0 o_ w_ [] := by
 have HF := Fm.refl hO []
 unfold formula_Table_Node.f at H
 refine SX.calls [pp pb0 0, ii a1] Tryz.func24 rfl rfl ?_
 rw [Tryz.ntmps24]
 refine WC.seq <|
  WC.region <|
  WL.op rfl <|
  OW.alloc' [ii (0 : Int), encS ([] : List UInt8), ii (0 : Int), ii (0 : Int)] 40 HF rfl zr60 rfl ?_
 intro o102 w103 b101 s104 hB105
 refine E rfl (sg (.bool false) rfl) <|
  WL.nil <|
  WC.seq <|
  WC.seq <|
  WC.region <|
  E rfl (mv (pp pb0 0) rfl) ?_
 obtain ⟨z106, hz106, H⟩ := bindE H
 refine WL.op rfl ?_
 replace hO0_0 := hO0_0.step s104 rfl rfl
 replace hB0 := hB0.step s104 rfl
 replace hM0_1 := hM0_1.step s104 rfl
 replace HF := HF.step s104 rfl
 refine OW.call [pp pb0 0] rfl Tryz.func22 (by kernel_rfl) (by kernel_rfl) (map_cons' rfl rfl) (formula_Table_alive.calls _ _ pb0 pv0_0 pb0_1 (a0 := a0) hz106 (HF.ten (V := [0]) (L := [2, 3, 4]) rfl) (Bk.vw hB0 rfl) (Own.vw hO0_0 rfl rfl) (Mp.vw hM0_1 rfl)) ?_
 obtain rfl := Option.some.inj (show some true = some z106 from hz106)
 rintro _ w107 ⟨o108, rfl, s109⟩
 refine ⟨_, rfl, ?_⟩
 replace s109 := un_stepL (J := []) (L' := []) s109 rfl rfl
 refine E rfl (ex_not (b := true) rfl) <|
  E rfl (mv (.bool false) rfl) <|
  WL.guardYes rfl rfl rfl rfl <|
  OW.ex rfl (mv (pp pb0 0) rfl) <|
  WL.guardYes rfl rfl rfl rfl <|
  OW.ex rfl (mv (ii a1) rfl) <|
  WL.guardYes rfl rfl rfl rfl ?_
 obtain ⟨z110, hz110, H⟩ := bindE H
 replace hO0_0 := hO0_0.step s109 rfl rfl
 replace hB0 := hB0.step s109 rfl
 replace hM0_1 := hM0_1.step s109 rfl
 replace HF := HF.step s109 rfl
 refine OW.call [pp pb0 0, ii a1] rfl Tryz.func49 (by kernel_rfl) (by kernel_rfl) (map_cons' rfl (map_cons' rfl rfl)) (formula_Table_has.calls _ _ pb0 pv0_0 pb0_1 (a0 := a0) hz110 (HF.ten (V := [0]) (L := [2, 3, 4]) rfl) (Bk.vw hB0 rfl) (Own.vw hO0_0 rfl rfl) (Mp.vw hM0_1 rfl)) ?_
 rintro _ w111 ⟨o112, rfl, s113⟩
 refine ⟨_, rfl, ?_⟩
 replace s113 := un_stepL (J := []) (L' := []) s113 rfl rfl
 refine WL.guardYes rfl rfl rfl rfl <|
  OW.ex rfl (ex_not (b := z110) rfl) <|
  E rfl (ex_pick_f (v := .bool (!z110)) rfl rfl) <|
  WL.nil ?_
 rcases condE H with ⟨c114, H⟩ | ⟨c114, H⟩
 ·
  refine WC.cond_t (vb c114 rfl) <|
   WC.seq <|
   WC.region <|
   E rfl (ex_build (cs := [ii (0 : Int), encS ([] : List UInt8), ii (0 : Int), ii (0 : Int)]) [(0, 1), (1, 1), (2, 1), (3, 1)] [] [ii 0, .string ⟨#[]⟩, ii 0, ii 0] U60 zr60 rfl (by kernel_rfl) rfl rfl) <|
   WL.op rfl ?_
  have k109_113 := s109.t s113
  replace hB105 := hB105.step k109_113 rfl
  refine OW.storeW rfl rfl sz60 hB105 rfl (oa rfl) ?_
  intro w115 s116 hB117
  refine E rfl (sg (.bool false) rfl) <|
   WL.nil <|
   WC.ret ?_
  obtain rfl := Option.some.inj H
  have k113_116 := s113.t s116
  replace HF := HF.step k113_116 rfl
  exact ⟨_, (.cell _ rfl (run_loadN (cs := [ii (0 : Int), encS ([] : List UInt8), ii (0 : Int), ii (0 : Int)]) U60 rfl sz60 (hB117.cells rfl)) (.tmp _ rfl .nil)), _, rfl, HF.out⟩
 ·
  refine WC.cond_f (vb c114 rfl) <|
   WC.skip <|
   WC.seq <|
   WC.region <|
   E rfl (mv (pp pb0 0) rfl) <|
   E rfl (ex_nilCheck rfl) <|
   E rfl (ex_fieldAddr rfl U56 rfl sz22) ?_
  replace hB0 := hB0.step s113 rfl
  refine E rfl (ex_load1 rfl U22 rfl (hB0.cell rfl)) <|
   E rfl (mv (ii a1) rfl) ?_
  obtain ⟨x118, hx118, H⟩ := bindE H
  replace hO0_0 := hO0_0.step s113 rfl rfl
  obtain ⟨A123, c124, q125_⟩ := hO0_0.slice
  obtain ⟨ad119, cc126, e120, g121, g122, hl127, hR128, cell129⟩ := Row.ix (Own.rowOf hO0_0 q125_) hx118
  obtain rfl := T_api_Node.opn hR128
  refine E rfl (ex_indexAddr (i := a1) ((show _ = (pv0_0 : Value) from rfl).trans q125_) e120 rfl U22 sz60 g121 g122) <|
   E rfl (ex_loadN (cs := [ii x118.f_Kind, encS x118.f_Name, ii x118.f_L, ii x118.f_R]) rfl U60 rfl sz60 cell129) <|
   WL.op rfl ?_
  have k109_113 := s109.t s113
  replace hB105 := hB105.step k109_113 rfl
  refine OW.storeW rfl rfl sz60 hB105 rfl (oa rfl) ?_
  intro w131 s132 hB133
  refine E rfl (sg (.bool true) rfl) <|
   WL.nil <|
   WC.ret ?_
  obtain rfl := Option.some.inj H
  have k113_132 := s113.t s132
  replace HF := HF.step k113_132 rfl
  exact ⟨_, (.cell _ rfl (run_loadN (cs := [ii x118.f_Kind, encS x118.f_Name, ii x118.f_L, ii x118.f_R]) U60 rfl sz60 (hB133.cells rfl)) (.tmp _ rfl .nil)), _, rfl, HF.out⟩

/-! ### syntax_bot -/
set_option maxRecDepth 100000 in
theorem syntax_bot.calls (o0 : Tags) (w0 : World) (pb0 : Nat) (pv0_0 : Value) (pb0_1 : Nat) {a0 : T_formula_Table} {a1 : Int} {a0_1 : (List (T_api_Node × Int))} {r : Bool} (H : syntax_bot.f a0 a1 a0_1 = some r) (hO : ∀ b, b < w0.heap.size → o0 b < 40) (hB0 : Bk o0 w0 2 pb0 [pv0_0, .map (some pb0_1)] 56) (hO0_0 : Own T_api_Node.rep 60 3 o0 w0 pv0_0 a0.f_rows) (hM0_1 : Mp (fun x_ : T_api_Node => Value.agg #[ii x_.f_Kind, encS x_.f_Name, ii x_.f_L, ii x_.f_R]) (fun v_ : Int => ii v_) 4 o0 w0 pb0_1 a0_1) :
  Calls Tryz.prog 73 [pp pb0 0, ii a1].toArray w0 fun e_ w_ => ∃ (o_ : Tags), e_ = .returned (one [.bool r]) ∧ Step o0 w0 o_ w_ [] := by
 have HF := Fm.refl hO []
 unfold syntax_bot.f at H
 refine SX.calls [pp pb0 0, ii a1] Tryz.func73 rfl rfl ?_
 rw [Tryz.ntmps73]
 refine WC.seq <|
  WC.region <|
  E rfl (sg (.bool false) rfl) <|
  WL.nil <|
  WC.seq <|
  WC.region <|
  E rfl (mv (pp pb0 0) rfl) <|
  E rfl (mv (ii a1) rfl) ?_
 obtain ⟨z101, hz101, H⟩ := bindE H
 refine WL.op rfl <|
  OW.call [pp pb0 0, ii a1] rfl Tryz.func24 (by kernel_rfl) (by kernel_rfl) (map_cons' rfl (map_cons' rfl rfl)) (formula_Table_Node.calls _ _ pb0 pv0_0 pb0_1 (a0 := a0) hz101 (HF.ten (V := [0]) (L := [2, 3, 4]) rfl) (Bk.vw hB0 rfl) (Own.vw hO0_0 rfl rfl) (Mp.vw hM0_1 rfl)) ?_
 rintro _ w102 ⟨o103, rfl, s104⟩
 refine ⟨_, rfl, ?_⟩
 replace s104 := un_stepL (J := []) (L' := []) s104 rfl rfl
 refine E rfl (mv (.tuple #[.agg #[ii z101.1.f_Kind, encS z101.1.f_Name, ii z101.1.f_L, ii z101.1.f_R], .bool z101.2]) rfl) <|
  E rfl (ex_extract rfl rfl) <|
  E rfl (ex_extract rfl rfl) <|
  WL.op rfl ?_
 replace HF := HF.step s104 rfl
 refine OW.alloc' [ii (0 : Int), encS ([] : List UInt8), ii (0 : Int), ii (0 : Int)] 40 HF rfl zr60 rfl ?_
 intro o106 w107 b105 s108 hB109
 refine WL.op rfl <|
  OW.storeW rfl rfl sz60 hB109 rfl (oa rfl) ?_
 intro w110 s111 hB112
 refine E rfl (sg (.bool z101.2) rfl) <|
  WL.nil <|
  WC.seq <|
  WC.region <|
  E rfl (ex_fieldAddr rfl U60 rfl sz58) <|
  E rfl (ex_load1 rfl U58 rfl (hB112.cell rfl)) <|
  E rfl (e2 bin_eql rfl rfl) <|
  E rfl (sg (.bool (z101.1.f_Kind == 2)) rfl) <|
  WL.nil <|
  WC.ret ?_
 obtain rfl := Option.some.inj H
 have k108_111 := s108.t s111
 replace HF := HF.step k108_111 rfl
 exact ⟨_, (.tmp _ rfl .nil), _, rfl, HF.out⟩

/-! ### syntax_pieces -/
set_option maxRecDepth 100000 in
theorem syntax_pieces.calls (o0 : Tags) (w0 : World) (pb0 : Nat) (pv0_0 : Value) (pb0_1 : Nat) {a0 : T_formula_Table} {a1 : T_api_Node} {a0_1 : (List (T_api_Node × Int))} {r : (List UInt8) × (List Int) × (List Int)} (H : syntax_pieces.f a0 a1 a0_1 = some r) (hO : ∀ b, b < w0.heap.size → o0 b < 40) (hB0 : Bk o0 w0 2 pb0 [pv0_0, .map (some pb0_1)] 56) (hO0_0 : Own T_api_Node.rep 60 3 o0 w0 pv0_0 a0.f_rows) (hM0_1 : Mp (fun x_ : T_api_Node => Value.agg #[ii x_.f_Kind, encS x_.f_Name, ii x_.f_L, ii x_.f_R]) (fun v_ : Int => ii v_) 4 o0 w0 pb0_1 a0_1) :
  Calls Tryz.prog 50 [pp pb0 0, .agg #[ii a1.f_Kind, encS a1.f_Name, ii a1.f_L, ii a1.f_R]].toArray w0 fun e_ w_ => ∃ (o_ : Tags) (rv1 : Value) (rv2 : Value), e_ = .returned (one [encS r.1, rv1, rv2]) ∧ Step o0 w0 o_ w_ [] ∧ Own (Rep.int .i64) 3 39 o_ w_ rv1 r.2.1 ∧ Own (Rep.int .i64) 3 38 o_ w_ rv2 r.2.2 := by
 have HF := Fm.refl hO []
 unfold syntax_pieces.f at H
 refine SX.calls [pp pb0 0, .agg #[ii a1.f_Kind, encS a1.f_Name, ii a1.f_L, ii a1.f_R]] Tryz.func50 rfl rfl ?_
 rw [Tryz.ntmps50]
 refine WC.seq <|
  WC.region <|
  WL.op rfl <|
  OW.box' [ii a1.f_Kind, encS a1.f_Name, ii a1.f_L, ii a1.f_R] 40 HF rfl ((congrArg Value.cells (show ev _ _ = (.agg #[ii a1.f_Kind, encS a1.f_Name, ii a1.f_L, ii a1.f_R] : Value) from rfl)).trans rfl) ?_
 intro o102 w103 b101 s104 hB105
 refine E rfl (sg (encS ([] : List UInt8)) rfl) <|
  E rfl (sg (.slice none ([] : List Int).length 0) rfl) <|
  E rfl (sg (.slice none ([] : List Int).length 0) rfl) <|
  WL.nil <|
  WC.seq <|
  WC.seq <|
  WC.region <|
  E rfl (ex_fieldAddr rfl U60 rfl sz58) <|
  E rfl (ex_load1 rfl U58 rfl (hB105.cell rfl)) <|
  WL.nil <|
  WC.block <|
  WC.seq <|
  WC.region <|
  E rfl (e2 bin_eql rfl rfl) <|
  E rfl (sg (.bool (a1.f_Kind == 3)) rfl) <|
  WL.nil ?_
 rcases condE H with ⟨c106, H⟩ | ⟨c106, H⟩
 ·
  refine WC.cond_t (vb c106 rfl) <|
   WC.seq ?_
  replace HF := HF.step s104 rfl
  refine WC.regionD' HF [] 9 9 (by kernel_rfl) rfl ?_
  intro w107 s108
  replace hB105 := hB105.step s108 rfl
  have hB105D := hB105
  replace HF := HF.step s108 rfl
  have sR := HF.here []
  refine WA.seq [0, 1, 2, 3, 6] (lb 9 79) 4 (by kernel_rfl) rfl ⟨_, sR⟩ <|
   X1 rfl (fun w_ hS_ => ex_fieldAddr rfl U60 rfl sz3) <|
   X1 rfl (fun w_ hS_ => ex_load1 (v := ii a1.f_L) rfl U3 rfl ((hB105D.step hS_.choose_spec rfl).cell rfl)) <|
   X1 rfl (fun w_ hS_ => ex_fieldAddr rfl U60 rfl sz3) <|
   X1 rfl (fun w_ hS_ => ex_load1 (v := ii a1.f_R) rfl U3 rfl ((hB105D.step hS_.choose_spec rfl).cell rfl)) <|
   X1 rfl (fun w_ hS_ => ex_assign (v := encS ([32, 38, 32] : List UInt8)) rfl) ?_
  refine WA.both 4 5 (by kernel_rfl) rfl rfl rfl rfl ?_ ?_
  ·
   refine OW.row (r := (Rep.int .i64)) (xs := [a1.f_L, a1.f_R]) [(0, ii a1.f_L), (1, ii a1.f_R)] [[ii a1.f_L], [ii a1.f_R]] 41 HF rfl U92 sz3 zr3 rfl (evs_cons rfl (evs_cons rfl rfl)) rfl rfl ⟨rfl, rfl, trivial⟩ rfl rfl rfl rfl ?_
   intro o109 w110 v112 s111 hO113
   replace sR := Step.trans sR s111 (M := []) rfl rfl
   refine ⟨⟨_, sR⟩, ?_⟩
   refine WA.norm (listed' := lb 9 95) (by kernel_rfl) <|
    WA.seq [7] (lb 9 223) 2 (by kernel_rfl) rfl ⟨_, sR⟩ <|
    X1 rfl (fun w_ hS_ => ex_assign (v := v112) rfl) <|
    WA.one 5 (by kernel_rfl) rfl rfl ?_
   replace HF := HF.step s111 rfl
   refine OW.row (r := (Rep.int .i64)) (xs := [2, 3]) [(0, ii 2), (1, ii 3)] [[ii 2], [ii 3]] 42 HF rfl U92 sz3 zr3 rfl (evs_cons rfl (evs_cons rfl rfl)) rfl rfl ⟨rfl, rfl, trivial⟩ rfl rfl rfl rfl ?_
   intro o114 w115 v117 s116 hO118
   replace sR := Step.trans sR s116 (M := []) rfl rfl
   refine ⟨⟨_, sR⟩, ?_⟩
   refine WA.norm (listed' := lb 9 255) (by kernel_rfl) <|
    WA.seq [8] (lb 9 511) 0 (by kernel_rfl) rfl ⟨_, sR⟩ <|
    X1 rfl (fun w_ hS_ => ex_assign (v := v117) rfl) <|
    WA.done (by kernel_rfl) <|
    WC.ret ?_
   obtain rfl := Option.some.inj H
   replace hO113 := hO113.step s116 rfl rfl
   replace hO113 := Own.renTo (j := 39) hO113 rfl
   replace hO118 := Own.ren (i := 41) (j := 39) hO118 rfl rfl
   replace HF := HF.step s116 rfl
   replace HF := HF.ren (i := 41) (j := 39) rfl
   replace hO113 := Own.ren (i := 42) (j := 38) hO113 rfl rfl
   replace hO118 := Own.renTo (j := 38) hO118 rfl
   replace HF := HF.ren (i := 42) (j := 38) rfl
   exact ⟨_, (.tmp _ rfl (.tmp _ rfl (.tmp _ rfl .nil))), _, v112, v117, rfl, HF.out, hO113, hO118⟩
  ·
   refine OW.row (r := (Rep.int .i64)) (xs := [2, 3]) [(0, ii 2), (1, ii 3)] [[ii 2], [ii 3]] 41 HF rfl U92 sz3 zr3 rfl (evs_cons rfl (evs_cons rfl rfl)) rfl rfl ⟨rfl, rfl, trivial⟩ rfl rfl rfl rfl ?_
   intro o109 w110 v112 s111 hO113
   replace sR := Step.trans sR s111 (M := []) rfl rfl
   refine ⟨⟨_, sR⟩, ?_⟩
   refine WA.norm (listed' := lb 9 111) (by kernel_rfl) <|
    WA.one 4 (by kernel_rfl) rfl rfl ?_
   replace HF := HF.step s111 rfl
   refine OW.row (r := (Rep.int .i64)) (xs := [a1.f_L, a1.f_R]) [(0, ii a1.f_L), (1, ii a1.f_R)] [[ii a1.f_L], [ii a1.f_R]] 42 HF rfl U92 sz3 zr3 rfl (evs_cons rfl (evs_cons rfl rfl)) rfl rfl ⟨rfl, rfl, trivial⟩ rfl rfl rfl rfl ?_
   intro o114 w115 v117 s116 hO118
   replace sR := Step.trans sR s116 (M := []) rfl rfl
   refine ⟨⟨_, sR⟩, ?_⟩
   refine WA.norm (listed' := lb 9 127) (by kernel_rfl) <|
    WA.seq [7, 8] (lb 9 511) 0 (by kernel_rfl) rfl ⟨_, sR⟩ <|
    X1 rfl (fun w_ hS_ => ex_assign (v := v117) rfl) <|
    X1 rfl (fun w_ hS_ => ex_assign (v := v112) rfl) <|
    WA.done (by kernel_rfl) <|
    WC.ret ?_
   obtain rfl := Option.some.inj H
   replace hO118 := Own.renTo (j := 39) hO118 rfl
   replace hO113 := hO113.step s116 rfl rfl
   replace hO113 := Own.ren (i := 42) (j := 39) hO113 rfl rfl
   replace HF := HF.step s116 rfl
   replace HF := HF.ren (i := 42) (j := 39) rfl
   replace hO118 := Own.ren (i := 41) (j := 38) hO118 rfl rfl
   replace hO113 := Own.renTo (j := 38) hO113 rfl
   replace HF := HF.ren (i := 41) (j := 38) rfl
   exact ⟨_, (.tmp _ rfl (.tmp _ rfl (.tmp _ rfl .nil))), _, v117, v112, rfl, HF.out, hO118, hO113⟩
 ·
  refine WC.cond_f (vb c106 rfl) <|
   WC.seq <|
   WC.region <|
   E rfl (e2 bin_eql rfl rfl) <|
   E rfl (sg (.bool (a1.f_Kind == 4)) rfl) <|
   WL.nil ?_
  rcases condE H with ⟨c119, H⟩ | ⟨c119, H⟩
  ·
   refine WC.cond_t (vb c119 rfl) <|
    WC.seq ?_
   replace HF := HF.step s104 rfl
   refine WC.regionD' HF [] 9 9 (by kernel_rfl) rfl ?_
   intro w120 s121
   replace hB105 := hB105.step s121 rfl
   have hB105D := hB105
   replace HF := HF.step s121 rfl
   have sR := HF.here []
   refine WA.seq [0, 1, 2, 3, 6] (lb 9 79) 4 (by kernel_rfl) rfl ⟨_, sR⟩ <|
    X1 rfl (fun w_ hS_ => ex_fieldAddr rfl U60 rfl sz3) <|
    X1 rfl (fun w_ hS_ => ex_load1 (v := ii a1.f_L) rfl U3 rfl ((hB105D.step hS_.choose_spec rfl).cell rfl)) <|
    X1 rfl (fun w_ hS_ => ex_fieldAddr rfl U60 rfl sz3) <|
    X1 rfl (fun w_ hS_ => ex_load1 (v := ii a1.f_R) rfl U3 rfl ((hB105D.step hS_.choose_spec rfl).cell rfl)) <|
    X1 rfl (fun w_ hS_ => ex_assign (v := encS ([32, 124, 32] : List UInt8)) rfl) ?_
   refine WA.both 4 5 (by kernel_rfl) rfl rfl rfl rfl ?_ ?_
   ·
    refine OW.row (r := (Rep.int .i64)) (xs := [a1.f_L, a1.f_R]) [(0, ii a1.f_L), (1, ii a1.f_R)] [[ii a1.f_L], [ii a1.f_R]] 43 HF rfl U92 sz3 zr3 rfl (evs_cons rfl (evs_cons rfl rfl)) rfl rfl ⟨rfl, rfl, trivial⟩ rfl rfl rfl rfl ?_
    intro o122 w123 v125 s124 hO126
    replace sR := Step.trans sR s124 (M := []) rfl rfl
    refine ⟨⟨_, sR⟩, ?_⟩
    refine WA.norm (listed' := lb 9 95) (by kernel_rfl) <|
     WA.seq [7] (lb 9 223) 2 (by kernel_rfl) rfl ⟨_, sR⟩ <|
     X1 rfl (fun w_ hS_ => ex_assign (v := v125) rfl) <|
     WA.one 5 (by kernel_rfl) rfl rfl ?_
    replace HF := HF.step s124 rfl
    refine OW.row (r := (Rep.int .i64)) (xs := [1, 2]) [(0, ii 1), (1, ii 2)] [[ii 1], [ii 2]] 44 HF rfl U92 sz3 zr3 rfl (evs_cons rfl (evs_cons rfl rfl)) rfl rfl ⟨rfl, rfl, trivial⟩ rfl rfl rfl rfl ?_
    intro o127 w128 v130 s129 hO131
    replace sR := Step.trans sR s129 (M := []) rfl rfl
    refine ⟨⟨_, sR⟩, ?_⟩
    refine WA.norm (listed' := lb 9 255) (by kernel_rfl) <|
     WA.seq [8] (lb 9 511) 0 (by kernel_rfl) rfl ⟨_, sR⟩ <|
     X1 rfl (fun w_ hS_ => ex_assign (v := v130) rfl) <|
     WA.done (by kernel_rfl) <|
     WC.ret ?_
    obtain rfl := Option.some.inj H
    replace hO126 := hO126.step s129 rfl rfl
    replace hO126 := Own.renTo (j := 39) hO126 rfl
    replace hO131 := Own.ren (i := 43) (j := 39) hO131 rfl rfl
    replace HF := HF.step s129 rfl
    replace HF := HF.ren (i := 43) (j := 39) rfl
    replace hO126 := Own.ren (i := 44) (j := 38) hO126 rfl rfl
    replace hO131 := Own.renTo (j := 38) hO131 rfl
    replace HF := HF.ren (i := 44) (j := 38) rfl
    exact ⟨_, (.tmp _ rfl (.tmp _ rfl (.tmp _ rfl .nil))), _, v125, v130, rfl, HF.out, hO126, hO131⟩
   ·
    refine OW.row (r := (Rep.int .i64)) (xs := [1, 2]) [(0, ii 1), (1, ii 2)] [[ii 1], [ii 2]] 43 HF rfl U92 sz3 zr3 rfl (evs_cons rfl (evs_cons rfl rfl)) rfl rfl ⟨rfl, rfl, trivial⟩ rfl rfl rfl rfl ?_
    intro o122 w123 v125 s124 hO126
    replace sR := Step.trans sR s124 (M := []) rfl rfl
    refine ⟨⟨_, sR⟩, ?_⟩
    refine WA.norm (listed' := lb 9 111) (by kernel_rfl) <|
     WA.one 4 (by kernel_rfl) rfl rfl ?_
    replace HF := HF.step s124 rfl
    refine OW.row (r := (Rep.int .i64)) (xs := [a1.f_L, a1.f_R]) [(0, ii a1.f_L), (1, ii a1.f_R)] [[ii a1.f_L], [ii a1.f_R]] 44 HF rfl U92 sz3 zr3 rfl (evs_cons rfl (evs_cons rfl rfl)) rfl rfl ⟨rfl, rfl, trivial⟩ rfl rfl rfl rfl ?_
    intro o127 w128 v130 s129 hO131
    replace sR := Step.trans sR s129 (M := []) rfl rfl
    refine ⟨⟨_, sR⟩, ?_⟩
    refine WA.norm (listed' := lb 9 127) (by kernel_rfl) <|
     WA.seq [7, 8] (lb 9 511) 0 (by kernel_rfl) rfl ⟨_, sR⟩ <|
     X1 rfl (fun w_ hS_ => ex_assign (v := v130) rfl) <|
     X1 rfl (fun w_ hS_ => ex_assign (v := v125) rfl) <|
     WA.done (by kernel_rfl) <|
     WC.ret ?_
    obtain rfl := Option.some.inj H
    replace hO131 := Own.renTo (j := 39) hO131 rfl
    replace hO126 := hO126.step s129 rfl rfl
    replace hO126 := Own.ren (i := 44) (j := 39) hO126 rfl rfl
    replace HF := HF.step s129 rfl
    replace HF := HF.ren (i := 44) (j := 39) rfl
    replace hO131 := Own.ren (i := 43) (j := 38) hO131 rfl rfl
    replace hO126 := Own.renTo (j := 38) hO126 rfl
    replace HF := HF.ren (i := 43) (j := 38) rfl
    exact ⟨_, (.tmp _ rfl (.tmp _ rfl (.tmp _ rfl .nil))), _, v130, v125, rfl, HF.out, hO131, hO126⟩
  ·
   refine WC.cond_f (vb c119 rfl) <|
    WC.seq <|
    WC.region <|
    E rfl (e2 bin_eql rfl rfl) <|
    E rfl (sg (.bool (a1.f_Kind == 5)) rfl) <|
    WL.nil ?_
   rcases condE H with ⟨c132, H⟩ | ⟨c132, H⟩
   ·
    refine WC.cond_t (vb c132 rfl) <|
     WC.seq <|
     WC.block ?_
    obtain ⟨z134, hz134, H⟩ := bindE H
    refine WC.cut (fun ρ_ w_ => ∃ (o_ : Tags), Fm o0 w0 o_ w_ [] ∧ Bk o_ w_ 2 pb0 [pv0_0, .map (some pb0_1)] 56 ∧ Own T_api_Node.rep 60 3 o_ w_ pv0_0 a0.f_rows ∧ Mp (fun x_ : T_api_Node => Value.agg #[ii x_.f_Kind, encS x_.f_Name, ii x_.f_L, ii x_.f_R]) (fun v_ : Int => ii v_) 4 o_ w_ pb0_1 a0_1 ∧ Bk o_ w_ 40 b101 [ii a1.f_Kind, encS a1.f_Name, ii a1.f_L, ii a1.f_R] 60 ∧ ρ_ 0 = pp pb0 0 ∧ ρ_ 3 = pp b101 0 ∧ ρ_ 4 = encS ([] : List UInt8) ∧ ρ_ 5 = .slice none ([] : List Int).length 0 ∧ ρ_ 6 = .slice none ([] : List Int).length 0 ∧ ρ_ 27 = .bool z134) ?case135 ?_
    case case135 =>
     rintro ρ138 w136 ⟨o137, HF, hB0, hO0_0, hM0_1, hB105, s0_132, s3_132, s4_132, s5_132, s6_132, s27_133⟩
     rcases condE H with ⟨c139, H⟩ | ⟨c139, H⟩
     ·
      refine WC.cond_t (vb c139 s27_133) <|
       WC.seq <|
       WC.region <|
       E rfl (sg (encS ([116, 114, 117, 101] : List UInt8)) rfl) <|
       E rfl (sg (.slice none ([] : List Int).length 0) rfl) <|
       E rfl (sg (.slice none ([] : List Int).length 0) rfl) <|
       WL.nil <|
       WC.ret ?_
      obtain rfl := Option.some.inj H
      exact ⟨_, (.tmp _ rfl (.tmp _ rfl (.tmp _ rfl .nil))), _, (.slice none 0 0), (.slice none 0 0), rfl, HF.out, Own.nil, Own.nil⟩
     ·
      refine WC.cond_f (vb c139 s27_133) <|
       WC.seq <|
       WC.region <|
       E rfl (mv (pp pb0 0) s0_132) <|
       E rfl (ex_fieldAddr s3_132 U60 rfl sz3) <|
       E rfl (ex_load1 rfl U3 rfl (hB105.cell rfl)) ?_
      obtain ⟨z140, hz140, H⟩ := bindE H
      refine WL.op rfl <|
       OW.call [pp pb0 0, ii a1.f_R] rfl Tryz.func73 (by kernel_rfl) (by kernel_rfl) (map_cons' rfl (map_cons' rfl rfl)) (syntax_bot.calls _ _ pb0 pv0_0 pb0_1 (a0 := a0) hz140 (HF.ten (V := [0]) (L := [2, 3, 4]) rfl) (Bk.vw hB0 rfl) (Own.vw hO0_0 rfl rfl) (Mp.vw hM0_1 rfl)) ?_
      rintro _ w141 ⟨o142, rfl, s143⟩
      refine ⟨_, rfl, ?_⟩
      replace s143 := un_stepL (J := []) (L' := []) s143 rfl rfl
      refine E rfl (sg (.bool z140) rfl) <|
       WL.nil ?_
      rcases condE H with ⟨c144, H⟩ | ⟨c144, H⟩
      ·
       refine WC.cond_t (vb c144 rfl) <|
        WC.seq ?_
       replace HF := HF.step s143 rfl
       refine WC.regionD' HF [] 7 7 (by kernel_rfl) rfl ?_
       intro w145 s146
       have k143_146 := s143.t s146
       replace hB105 := hB105.step k143_146 rfl
       have hB105D := hB105
       replace HF := HF.step s146 rfl
       have sR := HF.here []
       refine WA.seq [0, 1, 4] (lb 7 19) 4 (by kernel_rfl) rfl ⟨_, sR⟩ <|
        X1 rfl (fun w_ hS_ => ex_fieldAddr s3_132 U60 rfl sz3) <|
        X1 rfl (fun w_ hS_ => ex_load1 (v := ii a1.f_L) rfl U3 rfl ((hB105D.step hS_.choose_spec rfl).cell rfl)) <|
        X1 rfl (fun w_ hS_ => ex_assign (v := encS ([126] : List UInt8)) rfl) ?_
       refine WA.both 2 3 (by kernel_rfl) rfl rfl rfl rfl ?_ ?_
       ·
        refine OW.row (r := (Rep.int .i64)) (xs := [a1.f_L]) [(0, ii a1.f_L)] [[ii a1.f_L]] 45 HF rfl U92 sz3 zr3 rfl (evs_cons rfl rfl) rfl rfl ⟨rfl, trivial⟩ rfl rfl rfl rfl ?_
        intro o147 w148 v150 s149 hO151
        replace sR := Step.trans sR s149 (M := []) rfl rfl
        refine ⟨⟨_, sR⟩, ?_⟩
        refine WA.norm (listed' := lb 7 23) (by kernel_rfl) <|
         WA.seq [5] (lb 7 55) 2 (by kernel_rfl) rfl ⟨_, sR⟩ <|
         X1 rfl (fun w_ hS_ => ex_assign (v := v150) rfl) <|
         WA.one 3 (by kernel_rfl) rfl rfl ?_
        replace HF := HF.step s149 rfl
        refine OW.row (r := (Rep.int .i64)) (xs := [3]) [(0, ii 3)] [[ii 3]] 46 HF rfl U92 sz3 zr3 rfl (evs_cons rfl rfl) rfl rfl ⟨rfl, trivial⟩ rfl rfl rfl rfl ?_
        intro o152 w153 v155 s154 hO156
        replace sR := Step.trans sR s154 (M := []) rfl rfl
        refine ⟨⟨_, sR⟩, ?_⟩
        refine WA.norm (listed' := lb 7 63) (by kernel_rfl) <|
         WA.seq [6] (lb 7 127) 0 (by kernel_rfl) rfl ⟨_, sR⟩ <|
         X1 rfl (fun w_ hS_ => ex_assign (v := v155) rfl) <|
         WA.done (by kernel_rfl) <|
         WC.ret ?_
        obtain rfl := Option.some.inj H
        replace hO151 := hO151.step s154 rfl rfl
        replace hO151 := Own.renTo (j := 39) hO151 rfl
        replace hO156 := Own.ren (i := 45) (j := 39) hO156 rfl rfl
        replace HF := HF.step s154 rfl
        replace HF := HF.ren (i := 45) (j := 39) rfl
        replace hO151 := Own.ren (i := 46) (j := 38) hO151 rfl rfl
        replace hO156 := Own.renTo (j := 38) hO156 rfl
        replace HF := HF.ren (i := 46) (j := 38) rfl
        exact ⟨_, (.tmp _ rfl (.tmp _ rfl (.tmp _ rfl .nil))), _, v150, v155, rfl, HF.out, hO151, hO156⟩
       ·
        refine OW.row (r := (Rep.int .i64)) (xs := [3]) [(0, ii 3)] [[ii 3]] 45 HF rfl U92 sz3 zr3 rfl (evs_cons rfl rfl) rfl rfl ⟨rfl, trivial⟩ rfl rfl rfl rfl ?_
        intro o147 w148 v150 s149 hO151
        replace sR := Step.trans sR s149 (M := []) rfl rfl
        refine ⟨⟨_, sR⟩, ?_⟩
        refine WA.norm (listed' := lb 7 27) (by kernel_rfl) <|
         WA.one 2 (by kernel_rfl) rfl rfl ?_
        replace HF := HF.step s149 rfl
        refine OW.row (r := (Rep.int .i64)) (xs := [a1.f_L]) [(0, ii a1.f_L)] [[ii a1.f_L]] 46 HF rfl U92 sz3 zr3 rfl (evs_cons rfl rfl) rfl rfl ⟨rfl, trivial⟩ rfl rfl rfl rfl ?_
        intro o152 w153 v155 s154 hO156
        replace sR := Step.trans sR s154 (M := []) rfl rfl
        refine ⟨⟨_, sR⟩, ?_⟩
        refine WA.norm (listed' := lb 7 31) (by kernel_rfl) <|
         WA.seq [5, 6] (lb 7 127) 0 (by kernel_rfl) rfl ⟨_, sR⟩ <|
         X1 rfl (fun w_ hS_ => ex_assign (v := v155) rfl) <|
         X1 rfl (fun w_ hS_ => ex_assign (v := v150) rfl) <|
         WA.done (by kernel_rfl) <|
         WC.ret ?_
        obtain rfl := Option.some.inj H
        replace hO156 := Own.renTo (j := 39) hO156 rfl
        replace hO151 := hO151.step s154 rfl rfl
        replace hO151 := Own.ren (i := 46) (j := 39) hO151 rfl rfl
        replace HF := HF.step s154 rfl
        replace HF := HF.ren (i := 46) (j := 39) rfl
        replace hO156 := Own.ren (i := 45) (j := 38) hO156 rfl rfl
        replace hO151 := Own.renTo (j := 38) hO151 rfl
        replace HF := HF.ren (i := 45) (j := 38) rfl
        exact ⟨_, (.tmp _ rfl (.tmp _ rfl (.tmp _ rfl .nil))), _, v155, v150, rfl, HF.out, hO156, hO151⟩
      ·
       refine WC.cond_f (vb c144 rfl) <|
        WC.skip <|
        WC.seq ?_
       replace HF := HF.step s143 rfl
       refine WC.regionD' HF [] 9 9 (by kernel_rfl) rfl ?_
       intro w157 s158
       have k143_158 := s143.t s158
       replace hB105 := hB105.step k143_158 rfl
       have hB105D := hB105
       replace HF := HF.step s158 rfl
       have sR := HF.here []
       refine WA.seq [0, 1, 2, 3, 6] (lb 9 79) 4 (by kernel_rfl) rfl ⟨_, sR⟩ <|
        X1 rfl (fun w_ hS_ => ex_fieldAddr s3_132 U60 rfl sz3) <|
        X1 rfl (fun w_ hS_ => ex_load1 (v := ii a1.f_L) rfl U3 rfl ((hB105D.step hS_.choose_spec rfl).cell rfl)) <|
        X1 rfl (fun w_ hS_ => ex_fieldAddr s3_132 U60 rfl sz3) <|
        X1 rfl (fun w_ hS_ => ex_load1 (v := ii a1.f_R) rfl U3 rfl ((hB105D.step hS_.choose_spec rfl).cell rfl)) <|
        X1 rfl (fun w_ hS_ => ex_assign (v := encS ([32, 45, 62, 32] : List UInt8)) rfl) ?_
       refine WA.both 4 5 (by kernel_rfl) rfl rfl rfl rfl ?_ ?_
       ·
        refine OW.row (r := (Rep.int .i64)) (xs := [a1.f_L, a1.f_R]) [(0, ii a1.f_L), (1, ii a1.f_R)] [[ii a1.f_L], [ii a1.f_R]] 47 HF rfl U92 sz3 zr3 rfl (evs_cons rfl (evs_cons rfl rfl)) rfl rfl ⟨rfl, rfl, trivial⟩ rfl rfl rfl rfl ?_
        intro o159 w160 v162 s161 hO163
        replace sR := Step.trans sR s161 (M := []) rfl rfl
        refine ⟨⟨_, sR⟩, ?_⟩
        refine WA.norm (listed' := lb 9 95) (by kernel_rfl) <|
         WA.seq [7] (lb 9 223) 2 (by kernel_rfl) rfl ⟨_, sR⟩ <|
         X1 rfl (fun w_ hS_ => ex_assign (v := v162) rfl) <|
         WA.one 5 (by kernel_rfl) rfl rfl ?_
        replace HF := HF.step s161 rfl
        refine OW.row (r := (Rep.int .i64)) (xs := [1, 0]) [(0, ii 1), (1, ii 0)] [[ii 1], [ii 0]] 48 HF rfl U92 sz3 zr3 rfl (evs_cons rfl (evs_cons rfl rfl)) rfl rfl ⟨rfl, rfl, trivial⟩ rfl rfl rfl rfl ?_
        intro o164 w165 v167 s166 hO168
        replace sR := Step.trans sR s166 (M := []) rfl rfl
        refine ⟨⟨_, sR⟩, ?_⟩
        refine WA.norm (listed' := lb 9 255) (by kernel_rfl) <|
         WA.seq [8] (lb 9 511) 0 (by kernel_rfl) rfl ⟨_, sR⟩ <|
         X1 rfl (fun w_ hS_ => ex_assign (v := v167) rfl) <|
         WA.done (by kernel_rfl) <|
         WC.ret ?_
        obtain rfl := Option.some.inj H
        replace hO163 := hO163.step s166 rfl rfl
        replace hO163 := Own.renTo (j := 39) hO163 rfl
        replace hO168 := Own.ren (i := 47) (j := 39) hO168 rfl rfl
        replace HF := HF.step s166 rfl
        replace HF := HF.ren (i := 47) (j := 39) rfl
        replace hO163 := Own.ren (i := 48) (j := 38) hO163 rfl rfl
        replace hO168 := Own.renTo (j := 38) hO168 rfl
        replace HF := HF.ren (i := 48) (j := 38) rfl
        exact ⟨_, (.tmp _ rfl (.tmp _ rfl (.tmp _ rfl .nil))), _, v162, v167, rfl, HF.out, hO163, hO168⟩
       ·
        refine OW.row (r := (Rep.int .i64)) (xs := [1, 0]) [(0, ii 1), (1, ii 0)] [[ii 1], [ii 0]] 47 HF rfl U92 sz3 zr3 rfl (evs_cons rfl (evs_cons rfl rfl)) rfl rfl ⟨rfl, rfl, trivial⟩ rfl rfl rfl rfl ?_
        intro o159 w160 v162 s161 hO163
        replace sR := Step.trans sR s161 (M := []) rfl rfl
        refine ⟨⟨_, sR⟩, ?_⟩
        refine WA.norm (listed' := lb 9 111) (by kernel_rfl) <|
         WA.one 4 (by kernel_rfl) rfl rfl ?_
        replace HF := HF.step s161 rfl
        refine OW.row (r := (Rep.int .i64)) (xs := [a1.f_L, a1.f_R]) [(0, ii a1.f_L), (1, ii a1.f_R)] [[ii a1.f_L], [ii a1.f_R]] 48 HF rfl U92 sz3 zr3 rfl (evs_cons rfl (evs_cons rfl rfl)) rfl rfl ⟨rfl, rfl, trivial⟩ rfl rfl rfl rfl ?_
        intro o164 w165 v167 s166 hO168
        replace sR := Step.trans sR s166 (M := []) rfl rfl
        refine ⟨⟨_, sR⟩, ?_⟩
        refine WA.norm (listed' := lb 9 127) (by kernel_rfl) <|
         WA.seq [7, 8] (lb 9 511) 0 (by kernel_rfl) rfl ⟨_, sR⟩ <|
         X1 rfl (fun w_ hS_ => ex_assign (v := v167) rfl) <|
         X1 rfl (fun w_ hS_ => ex_assign (v := v162) rfl) <|
         WA.done (by kernel_rfl) <|
         WC.ret ?_
        obtain rfl := Option.some.inj H
        replace hO168 := Own.renTo (j := 39) hO168 rfl
        replace hO163 := hO163.step s166 rfl rfl
        replace hO163 := Own.ren (i := 48) (j := 39) hO163 rfl rfl
        replace HF := HF.step s166 rfl
        replace HF := HF.ren (i := 48) (j := 39) rfl
        replace hO168 := Own.ren (i := 47) (j := 38) hO168 rfl rfl
        replace hO163 := Own.renTo (j := 38) hO163 rfl
        replace HF := HF.ren (i := 47) (j := 38) rfl
        exact ⟨_, (.tmp _ rfl (.tmp _ rfl (.tmp _ rfl .nil))), _, v167, v162, rfl, HF.out, hO168, hO163⟩
    have Ho169 := H
    replace H := hz134
    refine WC.region <|
     E rfl (mv (pp pb0 0) rfl) <|
     E rfl (ex_fieldAddr rfl U60 rfl sz3) <|
     E rfl (ex_load1 rfl U3 rfl (hB105.cell rfl)) ?_
    obtain ⟨z170, hz170, H⟩ := bindE H
    refine WL.op rfl ?_
    replace hO0_0 := hO0_0.step s104 rfl rfl
    replace hB0 := hB0.step s104 rfl
    replace hM0_1 := hM0_1.step s104 rfl
    replace HF := HF.step s104 rfl
    refine OW.call [pp pb0 0, ii a1.f_L] rfl Tryz.func73 (by kernel_rfl) (by kernel_rfl) (map_cons' rfl (map_cons' rfl rfl)) (syntax_bot.calls _ _ pb0 pv0_0 pb0_1 (a0 := a0) hz170 (HF.ten (V := [0]) (L := [2, 3, 4]) rfl) (Bk.vw hB0 rfl) (Own.vw hO0_0 rfl rfl) (Mp.vw hM0_1 rfl)) ?_
    rintro _ w171 ⟨o172, rfl, s173⟩
    refine ⟨_, rfl, ?_⟩
    replace s173 := un_stepL (J := []) (L' := []) s173 rfl rfl
    refine E rfl (mv (.bool z170) rfl) ?_
    rcases condE H with ⟨c174, H⟩ | ⟨c174, H⟩
    ·
     refine WL.guardYes rfl rfl rfl (vb c174 rfl) <|
      OW.ex rfl (mv (pp pb0 0) rfl) <|
      WL.guardYes rfl rfl rfl (vb c174 rfl) <|
      OW.ex rfl (ex_fieldAddr rfl U60 rfl sz3) <|
      WL.guardYes rfl rfl rfl (vb c174 rfl) ?_
     replace hB105 := hB105.step s173 rfl
     refine OW.ex rfl (ex_load1 rfl U3 rfl (hB105.cell rfl)) <|
      WL.guardYes rfl rfl rfl (vb c174 rfl) ?_
     obtain ⟨z175, hz175, H⟩ := bindE H
     replace hO0_0 := hO0_0.step s173 rfl rfl
     replace hB0 := hB0.step s173 rfl
     replace hM0_1 := hM0_1.step s173 rfl
     replace HF := HF.step s173 rfl
     refine OW.call [pp pb0 0, ii a1.f_R] rfl Tryz.func73 (by kernel_rfl) (by kernel_rfl) (map_cons' rfl (map_cons' rfl rfl)) (syntax_bot.calls _ _ pb0 pv0_0 pb0_1 (a0 := a0) hz175 (HF.ten (V := [0]) (L := [2, 3, 4]) rfl) (Bk.vw hB0 rfl) (Own.vw hO0_0 rfl rfl) (Mp.vw hM0_1 rfl)) ?_
     rintro _ w176 ⟨o177, rfl, s178⟩
     refine ⟨_, rfl, ?_⟩
     replace s178 := un_stepL (J := []) (L' := []) s178 rfl rfl
     refine E rfl (ex_pick_t (v := .bool z175) (vb c174 rfl) rfl) <|
      E rfl (sg (.bool z175) rfl) <|
      WL.nil ?_
     obtain rfl := Option.some.inj H
     replace hO0_0 := hO0_0.step s178 rfl rfl
     replace hB0 := hB0.step s178 rfl
     replace hM0_1 := hM0_1.step s178 rfl
     replace hB105 := hB105.step s178 rfl
     replace HF := HF.step s178 rfl
     exact ⟨_, HF, hB0, hO0_0, hM0_1, hB105, rfl, rfl, rfl, rfl, rfl, rfl⟩
    ·
     refine WL.guardNo rfl rfl rfl (vb c174 rfl) <|
      WL.guardNo rfl rfl rfl (vb c174 rfl) <|
      WL.guardNo rfl rfl rfl (vb c174 rfl) <|
      WL.guardNo rfl rfl rfl (vb c174 rfl) <|
      E rfl (ex_pick_f (v := .bool false) (vb c174 rfl) rfl) <|
      E rfl (sg (.bool false) rfl) <|
      WL.nil ?_
     obtain rfl := Option.some.inj H
     replace hO0_0 := hO0_0.step s173 rfl rfl
     replace hB0 := hB0.step s173 rfl
     replace hM0_1 := hM0_1.step s173 rfl
     replace hB105 := hB105.step s173 rfl
     replace HF := HF.step s173 rfl
     exact ⟨_, HF, hB0, hO0_0, hM0_1, hB105, rfl, rfl, rfl, rfl, rfl, rfl⟩
   ·
    refine WC.cond_f (vb c132 rfl) <|
     WC.seq <|
     WC.region <|
     E rfl (e2 bin_eql rfl rfl) <|
     E rfl (sg (.bool (a1.f_Kind == 2)) rfl) <|
     WL.nil ?_
    rcases condE H with ⟨c179, H⟩ | ⟨c179, H⟩
    ·
     refine WC.cond_t (vb c179 rfl) <|
      WC.seq <|
      WC.region <|
      E rfl (sg (encS ([102, 97, 108, 115, 101] : List UInt8)) rfl) <|
      E rfl (sg (.slice none ([] : List Int).length 0) rfl) <|
      E rfl (sg (.slice none ([] : List Int).length 0) rfl) <|
      WL.nil <|
      WC.ret ?_
     obtain rfl := Option.some.inj H
     replace HF := HF.step s104 rfl
     exact ⟨_, (.tmp _ rfl (.tmp _ rfl (.tmp _ rfl .nil))), _, (.slice none 0 0), (.slice none 0 0), rfl, HF.out, Own.nil, Own.nil⟩
    ·
     refine WC.cond_f (vb c179 rfl) <|
      WC.skip <|
      WC.seq <|
      WC.region <|
      E rfl (ex_fieldAddr rfl U60 rfl sz9) <|
      E rfl (ex_load1 rfl U9 rfl (hB105.cell rfl)) <|
      E rfl (sg (encS a1.f_Name) rfl) <|
      E rfl (sg (.slice none ([] : List Int).length 0) rfl) <|
      E rfl (sg (.slice none ([] : List Int).length 0) rfl) <|
      WL.nil <|
      WC.ret ?_
     obtain rfl := Option.some.inj H
     replace HF := HF.step s104 rfl
     exact ⟨_, (.tmp _ rfl (.tmp _ rfl (.tmp _ rfl .nil))), _, (.slice none 0 0), (.slice none 0 0), rfl, HF.out, Own.nil, Own.nil⟩

/-! ### syntax_level -/
set_option maxRecDepth 100000 in
theorem syntax_level.calls (o0 : Tags) (w0 : World) (pb0 : Nat) (pv0_0 : Value) (pb0_1 : Nat) {a0 : T_formula_Table} {a1 : Int} {a0_1 : (List (T_api_Node × Int))} {r : Int} (H : syntax_level.f a0 a1 a0_1 = some r) (hO : ∀ b, b < w0.heap.size → o0 b < 40) (hB0 : Bk o0 w0 2 pb0 [pv0_0, .map (some pb0_1)] 56) (hO0_0 : Own T_api_Node.rep 60 3 o0 w0 pv0_0 a0.f_rows) (hM0_1 : Mp (fun x_ : T_api_Node => Value.agg #[ii x_.f_Kind, encS x_.f_Name, ii x_.f_L, ii x_.f_R]) (fun v_ : Int => ii v_) 4 o0 w0 pb0_1 a0_1) :
  Calls Tryz.prog 51 [pp pb0 0, ii a1].toArray w0 fun e_ w_ => ∃ (o_ : Tags), e_ = .returned (one [ii r]) ∧ Step o0 w0 o_ w_ [] := by
 have HF := Fm.refl hO []
 unfold syntax_level.f at H
 refine SX.calls [pp pb0 0, ii a1] Tryz.func51 rfl rfl ?_
 rw [Tryz.ntmps51]
 refine WC.seq <|
  WC.region <|
  E rfl (sg (ii 0) rfl) <|
  WL.nil <|
  WC.seq <|
  WC.region <|
  E rfl (mv (pp pb0 0) rfl) <|
  E rfl (mv (ii a1) rfl) ?_
 obtain ⟨z101, hz101, H⟩ := bindE H
 refine WL.op rfl <|
  OW.call [pp pb0 0, ii a1] rfl Tryz.func24 (by kernel_rfl) (by kernel_rfl) (map_cons' rfl (map_cons' rfl rfl)) (formula_Table_Node.calls _ _ pb0 pv0_0 pb0_1 (a0 := a0) hz101 (HF.ten (V := [0]) (L := [2, 3, 4]) rfl) (Bk.vw hB0 rfl) (Own.vw hO0_0 rfl rfl) (Mp.vw hM0_1 rfl)) ?_
 rintro _ w102 ⟨o103, rfl, s104⟩
 refine ⟨_, rfl, ?_⟩
 replace s104 := un_stepL (J := []) (L' := []) s104 rfl rfl
 refine E rfl (mv (.tuple #[.agg #[ii z101.1.f_Kind, encS z101.1.f_Name, ii z101.1.f_L, ii z101.1.f_R], .bool z101.2]) rfl) <|
  E rfl (ex_extract rfl rfl) <|
  E rfl (ex_extract rfl rfl) <|
  WL.op rfl ?_
 replace HF := HF.step s104 rfl
 refine OW.alloc' [ii (0 : Int), encS ([] : List UInt8), ii (0 : Int), ii (0 : Int)] 40 HF rfl zr60 rfl ?_
 intro o106 w107 b105 s108 hB109
 refine WL.op rfl <|
  OW.storeW rfl rfl sz60 hB109 rfl (oa rfl) ?_
 intro w110 s111 hB112
 refine E rfl (sg (.bool z101.2) rfl) <|
  WL.nil <|
  WC.seq <|
  WC.seq <|
  WC.region <|
  E rfl (ex_fieldAddr rfl U60 rfl sz58) <|
  E rfl (ex_load1 rfl U58 rfl (hB112.cell rfl)) <|
  WL.nil <|
  WC.block <|
  WC.seq <|
  WC.region <|
  E rfl (e2 bin_eql rfl rfl) <|
  E rfl (sg (.bool (z101.1.f_Kind == 3)) rfl) <|
  WL.nil ?_
 rcases condE H with ⟨c113, H⟩ | ⟨c113, H⟩
 ·
  refine WC.cond_t (vb c113 rfl) <|
   WC.seq <|
   WC.region <|
   E rfl (sg (ii 2) rfl) <|
   WL.nil <|
   WC.ret ?_
  obtain rfl := Option.some.inj H
  have k108_111 := s108.t s111
  replace HF := HF.step k108_111 rfl
  exact ⟨_, (.tmp _ rfl .nil), _, rfl, HF.out⟩
 ·
  refine WC.cond_f (vb c113 rfl) <|
   WC.seq <|
   WC.region <|
   E rfl (e2 bin_eql rfl rfl) <|
   E rfl (sg (.bool (z101.1.f_Kind == 4)) rfl) <|
   WL.nil ?_
  rcases condE H with ⟨c114, H⟩ | ⟨c114, H⟩
  ·
   refine WC.cond_t (vb c114 rfl) <|
    WC.seq <|
    WC.region <|
    E rfl (sg (ii 1) rfl) <|
    WL.nil <|
    WC.ret ?_
   obtain rfl := Option.some.inj H
   have k108_111 := s108.t s111
   replace HF := HF.step k108_111 rfl
   exact ⟨_, (.tmp _ rfl .nil), _, rfl, HF.out⟩
  ·
   refine WC.cond_f (vb c114 rfl) <|
    WC.seq <|
    WC.region <|
    E rfl (e2 bin_eql rfl rfl) <|
    E rfl (sg (.bool (z101.1.f_Kind == 5)) rfl) <|
    WL.nil ?_
   rcases condE H with ⟨c115, H⟩ | ⟨c115, H⟩
   ·
    refine WC.cond_t (vb c115 rfl) <|
     WC.seq <|
     WC.seq <|
     WC.region <|
     E rfl (mv (pp pb0 0) rfl) <|
     E rfl (ex_fieldAddr rfl U60 rfl sz3) <|
     E rfl (ex_load1 rfl U3 rfl (hB112.cell rfl)) ?_
    obtain ⟨z116, hz116, H⟩ := bindE H
    refine WL.op rfl ?_
    have k108_111 := s108.t s111
    replace HF := HF.step k108_111 rfl
    have k104_111 := s104.t k108_111
    replace hO0_0 := hO0_0.step k104_111 rfl rfl
    replace hB0 := hB0.step k104_111 rfl
    replace hM0_1 := hM0_1.step k104_111 rfl
    refine OW.call [pp pb0 0, ii z101.1.f_R] rfl Tryz.func73 (by kernel_rfl) (by kernel_rfl) (map_cons' rfl (map_cons' rfl rfl)) (syntax_bot.calls _ _ pb0 pv0_0 pb0_1 (a0 := a0) hz116 (HF.ten (V := [0]) (L := [2, 3, 4]) rfl) (Bk.vw hB0 rfl) (Own.vw hO0_0 rfl rfl) (Mp.vw hM0_1 rfl)) ?_
    rintro _ w117 ⟨o118, rfl, s119⟩
    refine ⟨_, rfl, ?_⟩
    replace s119 := un_stepL (J := []) (L' := []) s119 rfl rfl
    refine WL.nil ?_
    rcases condE H with ⟨c120, H⟩ | ⟨c120, H⟩
    ·
     refine WC.cond_t (vb c120 rfl) <|
      WC.seq <|
      WC.region <|
      E rfl (sg (ii 3) rfl) <|
      WL.nil <|
      WC.ret ?_
     obtain rfl := Option.some.inj H
     replace HF := HF.step s119 rfl
     exact ⟨_, (.tmp _ rfl .nil), _, rfl, HF.out⟩
    ·
     refine WC.cond_f (vb c120 rfl) <|
      WC.skip <|
      WC.seq <|
      WC.region <|
      E rfl (sg (ii 0) rfl) <|
      WL.nil <|
      WC.ret ?_
     obtain rfl := Option.some.inj H
     replace HF := HF.step s119 rfl
     exact ⟨_, (.tmp _ rfl .nil), _, rfl, HF.out⟩
   ·
    refine WC.cond_f (vb c115 rfl) <|
     WC.skip <|
     WC.seq <|
     WC.region <|
     E rfl (sg (ii 3) rfl) <|
     WL.nil <|
     WC.ret ?_
    obtain rfl := Option.some.inj H
    have k108_111 := s108.t s111
    replace HF := HF.step k108_111 rfl
    exact ⟨_, (.tmp _ rfl .nil), _, rfl, HF.out⟩
end Go.Proofs.YtpmkkhkphddfeaaGreatDoor.X
