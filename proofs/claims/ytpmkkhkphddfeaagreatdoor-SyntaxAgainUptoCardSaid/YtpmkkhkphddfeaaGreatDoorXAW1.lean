import Derived.Test.YtpmkkhkphddfeaaGreatDoorXAW0
set_option maxRecDepth 20000
set_option linter.unusedVariables false
set_option linter.unusedSimpArgs false
set_option linter.unnecessarySimpa false
namespace Go.Proofs.YtpmkkhkphddfeaaGreatDoor.X
open Go Go.RowKit Go.Proofs.YtpmkkhkphddfeaaGreatDoor.SX
/-! ### stringslite_HasPrefix -/
set_option maxRecDepth 100000 in
theorem stringslite_HasPrefix.calls (o0 : Tags) (w0 : World) {a0 : List UInt8} {a1 : List UInt8} {r : Bool} (H : stringslite_HasPrefix.f a0 a1 = some r) (hO : ∀ b, b < w0.heap.size → o0 b < 40) :
  Calls Tryz.prog 127 [encS a0, encS a1].toArray w0 fun e_ w_ => ∃ (o_ : Tags), e_ = .returned (one [.bool r]) ∧ Step o0 w0 o_ w_ [] := by
 have HF := Fm.refl hO []
 unfold stringslite_HasPrefix.f at H
 refine SX.calls [encS a0, encS a1] Tryz.func127 rfl rfl ?_
 rw [Tryz.ntmps127]
 refine WC.seq <|
  WC.region <|
  E rfl (sg (.bool false) rfl) <|
  WL.nil <|
  WC.seq <|
  WC.region <|
  E rfl (mv (encS a0) rfl) <|
  E rfl (ex_len_str (s := a0) rfl U9) <|
  E rfl (mv (encS a1) rfl) <|
  E rfl (ex_len_str (s := a1) rfl U9) <|
  E rfl (e2 bin_geq rfl rfl) <|
  E rfl (mv (.bool (decide ((a0.length : Int) ≥ (a1.length : Int)))) rfl) ?_
 rcases condE H with ⟨c101, H⟩ | ⟨c101, H⟩
 ·
  refine WL.guardYes rfl rfl rfl (vb c101 rfl) <|
   OW.ex rfl (mv (encS a0) rfl) <|
   WL.guardYes rfl rfl rfl (vb c101 rfl) <|
   OW.ex rfl (mv (encS a1) rfl) <|
   WL.guardYes rfl rfl rfl (vb c101 rfl) <|
   OW.ex rfl (ex_len_str (s := a1) rfl U9) <|
   WL.guardYes rfl rfl rfl (vb c101 rfl) ?_
  obtain ⟨y102, hy102, H⟩ := bindE H
  refine OW.ex rfl (ex_slice_str (l := 0) (h := (a1.length : Int)) rfl U9 rfl ⟨_, rfl⟩ hy102) <|
   WL.guardYes rfl rfl rfl (vb c101 rfl) <|
   OW.ex rfl (mv (encS a1) rfl) <|
   WL.guardYes rfl rfl rfl (vb c101 rfl) <|
   OW.ex rfl (e2 bin_eql_str rfl rfl) <|
   E rfl (ex_pick_t (v := .bool (y102 == a1)) (vb c101 rfl) rfl) <|
   E rfl (sg (.bool (y102 == a1)) rfl) <|
   WL.nil <|
   WC.ret ?_
  obtain rfl := Option.some.inj H
  exact ⟨_, (.tmp _ rfl .nil), _, rfl, HF.out⟩
 ·
  refine WL.guardNo rfl rfl rfl (vb c101 rfl) <|
   WL.guardNo rfl rfl rfl (vb c101 rfl) <|
   WL.guardNo rfl rfl rfl (vb c101 rfl) <|
   WL.guardNo rfl rfl rfl (vb c101 rfl) <|
   WL.guardNo rfl rfl rfl (vb c101 rfl) <|
   WL.guardNo rfl rfl rfl (vb c101 rfl) <|
   E rfl (ex_pick_f (v := .bool false) (vb c101 rfl) rfl) <|
   E rfl (sg (.bool false) rfl) <|
   WL.nil <|
   WC.ret ?_
  obtain rfl := Option.some.inj H
  exact ⟨_, (.tmp _ rfl .nil), _, rfl, HF.out⟩

/-! ### strings_HasPrefix -/
set_option maxRecDepth 100000 in
theorem strings_HasPrefix.calls (o0 : Tags) (w0 : World) {a0 : List UInt8} {a1 : List UInt8} {r : Bool} (H : strings_HasPrefix.f a0 a1 = some r) (hO : ∀ b, b < w0.heap.size → o0 b < 40) :
  Calls Tryz.prog 117 [encS a0, encS a1].toArray w0 fun e_ w_ => ∃ (o_ : Tags), e_ = .returned (one [.bool r]) ∧ Step o0 w0 o_ w_ [] := by
 have HF := Fm.refl hO []
 unfold strings_HasPrefix.f at H
 refine SX.calls [encS a0, encS a1] Tryz.func117 rfl rfl ?_
 rw [Tryz.ntmps117]
 refine WC.seq <|
  WC.region <|
  E rfl (sg (.bool false) rfl) <|
  WL.nil <|
  WC.seq <|
  WC.region <|
  E rfl (mv (encS a0) rfl) <|
  E rfl (mv (encS a1) rfl) ?_
 obtain ⟨z101, hz101, H⟩ := bindE H
 refine WL.op rfl <|
  OW.call [encS a0, encS a1] rfl Tryz.func127 (by kernel_rfl) (by kernel_rfl) (map_cons' rfl (map_cons' rfl rfl)) (stringslite_HasPrefix.calls _ _ hz101 (HF.ten (V := [0]) (L := []) rfl) ) ?_
 rintro _ w102 ⟨o103, rfl, s104⟩
 refine ⟨_, rfl, ?_⟩
 replace s104 := un_stepL (J := []) (L' := []) s104 rfl rfl
 refine E rfl (sg (.bool z101) rfl) <|
  WL.nil <|
  WC.ret ?_
 obtain rfl := Option.some.inj H
 replace HF := HF.step s104 rfl
 exact ⟨_, (.tmp _ rfl .nil), _, rfl, HF.out⟩

/-! ### token_sign -/
set_option maxRecDepth 100000 in
theorem token_sign.calls (k : Nat) (o0 : Tags) (w0 : World) {a0 : List UInt8} {r : (List UInt8) × Int} (H : token_sign.f k a0 = some r) (hO : ∀ b, b < w0.heap.size → o0 b < 40) (hG : Gl GG o0 w0) :
  Calls Tryz.prog 99 [encS a0].toArray w0 fun e_ w_ => ∃ (o_ : Tags), e_ = .returned (one [encS r.1, ii r.2]) ∧ Step o0 w0 o_ w_ [] := by
 have HF := Fm.refl hO []
 unfold token_sign.f at H
 refine SX.calls [encS a0] Tryz.func99 rfl rfl ?_
 rw [Tryz.ntmps99]
 refine WC.seq <|
  WC.region <|
  E rfl (sg (encS ([] : List UInt8)) rfl) <|
  E rfl (sg (ii 0) rfl) <|
  WL.nil <|
  WC.seq <|
  WC.seq <|
  WC.region <|
  E rfl (ex_buildArr (cs := [encS ([60, 45, 62] : List UInt8), encS ([60, 61] : List UInt8), encS ([61, 62] : List UInt8), encS ([45, 62] : List UInt8), encS ([124, 45] : List UInt8), encS ([126] : List UInt8), encS ([38] : List UInt8), encS ([124] : List UInt8), encS ([40] : List UInt8), encS ([41] : List UInt8), encS ([91] : List UInt8), encS ([93] : List UInt8), encS ([123] : List UInt8), encS ([125] : List UInt8), encS ([44] : List UInt8), encS ([46] : List UInt8), encS ([58] : List UInt8), encS ([59] : List UInt8), encS ([61] : List UInt8), encS ([47] : List UInt8)]) [(0, encS ([60, 45, 62] : List UInt8)), (1, encS ([60, 61] : List UInt8)), (2, encS ([61, 62] : List UInt8)), (3, encS ([45, 62] : List UInt8)), (4, encS ([124, 45] : List UInt8)), (5, encS ([126] : List UInt8)), (6, encS ([38] : List UInt8)), (7, encS ([124] : List UInt8)), (8, encS ([40] : List UInt8)), (9, encS ([41] : List UInt8)), (10, encS ([91] : List UInt8)), (11, encS ([93] : List UInt8)), (12, encS ([123] : List UInt8)), (13, encS ([125] : List UInt8)), (14, encS ([44] : List UInt8)), (15, encS ([46] : List UInt8)), (16, encS ([58] : List UInt8)), (17, encS ([59] : List UInt8)), (18, encS ([61] : List UInt8)), (19, encS ([47] : List UInt8))] [.string ⟨#[]⟩, .string ⟨#[]⟩, .string ⟨#[]⟩, .string ⟨#[]⟩, .string ⟨#[]⟩, .string ⟨#[]⟩, .string ⟨#[]⟩, .string ⟨#[]⟩, .string ⟨#[]⟩, .string ⟨#[]⟩, .string ⟨#[]⟩, .string ⟨#[]⟩, .string ⟨#[]⟩, .string ⟨#[]⟩, .string ⟨#[]⟩, .string ⟨#[]⟩, .string ⟨#[]⟩, .string ⟨#[]⟩, .string ⟨#[]⟩, .string ⟨#[]⟩] U156 zr156 rfl sz9 (evs_cons rfl (evs_cons rfl (evs_cons rfl (evs_cons rfl (evs_cons rfl (evs_cons rfl (evs_cons rfl (evs_cons rfl (evs_cons rfl (evs_cons rfl (evs_cons rfl (evs_cons rfl (evs_cons rfl (evs_cons rfl (evs_cons rfl (evs_cons rfl (evs_cons rfl (evs_cons rfl (evs_cons rfl (evs_cons rfl rfl)))))))))))))))))))) rfl) <|
  E rfl (mv (ii 0) rfl) <|
  WL.nil ?_
 obtain ⟨z102, hz102, H⟩ := bindE H
 refine WC.for (fun k_ ρ_ w_ => ∃ (o_ : Tags) (x101 : Int), Fm o0 w0 o_ w_ [] ∧ Gl GG o_ w_ ∧ ρ_ 0 = encS a0 ∧ ρ_ 2 = encS ([] : List UInt8) ∧ ρ_ 3 = ii 0 ∧ ρ_ 8 = .agg (List.map encS ([([60, 45, 62] : List UInt8), ([60, 61] : List UInt8), ([61, 62] : List UInt8), ([45, 62] : List UInt8), ([124, 45] : List UInt8), ([126] : List UInt8), ([38] : List UInt8), ([124] : List UInt8), ([40] : List UInt8), ([41] : List UInt8), ([91] : List UInt8), ([93] : List UInt8), ([123] : List UInt8), ([125] : List UInt8), ([44] : List UInt8), ([46] : List UInt8), ([58] : List UInt8), ([59] : List UInt8), ([61] : List UInt8), ([47] : List UInt8)] : List (List UInt8))).toArray ∧ ρ_ 9 = ii x101 ∧ token_sign.l1 k a0 k_ x101 = some z102) k (fun ρ_ w_ => ∃ (o_ : Tags), Fm o0 w0 o_ w_ [] ∧ Gl GG o_ w_ ∧ ρ_ 0 = encS a0 ∧ ρ_ 2 = encS ([] : List UInt8) ∧ ρ_ 3 = ii 0 ∧ z102 = .inr ()) ⟨_, 0, HF, hG, rfl, rfl, rfl, rfl, rfl, hz102⟩ ?case103 ?_
 case case103 =>
  rintro ρ116 w117 ⟨o118, HF, hG, s0_101, s2_101, s3_101, rfl⟩
  dsimp only at H
  refine WC.seq <|
   WC.region <|
   E rfl (mv (encS a0) s0_101) ?_
  obtain ⟨z119, hz119, H⟩ := bindE H
  refine WL.op rfl <|
   OW.call [encS a0] rfl Tryz.func98 (by kernel_rfl) (by kernel_rfl) (map_cons' rfl rfl) (utf8_DecodeRuneInString.calls _ _ a0 z119 (HF.ten (V := [0]) (L := []) rfl) (Gl.vw hG rfl) hz119) ?_
  rintro _ w120 ⟨o121, rfl, s122⟩
  refine ⟨_, rfl, ?_⟩
  replace s122 := un_stepL (J := []) (L' := []) s122 rfl rfl
  refine E rfl (mv (.tuple #[.int .i32 z119.1, ii z119.2]) rfl) <|
   E rfl (ex_extract rfl rfl) <|
   E rfl (ex_extract rfl rfl) <|
   E rfl (sg (.int .i32 z119.1) rfl) <|
   E rfl (sg (ii z119.2) rfl) <|
   WL.nil <|
   WC.seq <|
   WC.seq <|
   WC.region <|
   E rfl (mv (.int .i32 z119.1) rfl) <|
   WL.nil <|
   WC.block <|
   WC.seq <|
   WC.region <|
   E rfl (e2 bin_eql rfl rfl) <|
   E rfl (sg (.bool (z119.1 == 172)) rfl) <|
   WL.nil ?_
  rcases condE H with ⟨c123, H⟩ | ⟨c123, H⟩
  ·
   refine WC.cond_t (vb c123 rfl) <|
    WC.seq <|
    WC.region <|
    E rfl (mv (ii z119.2) rfl) <|
    E rfl (sg (encS ([126] : List UInt8)) rfl) <|
    E rfl (sg (ii z119.2) rfl) <|
    WL.nil <|
    WC.ret ?_
   obtain rfl := Option.some.inj H
   replace HF := HF.step s122 rfl
   exact ⟨_, (.tmp _ rfl (.tmp _ rfl .nil)), _, rfl, HF.out⟩
  ·
   refine WC.cond_f (vb c123 rfl) <|
    WC.seq <|
    WC.region <|
    E rfl (e2 bin_eql rfl rfl) <|
    E rfl (sg (.bool (z119.1 == 8743)) rfl) <|
    WL.nil ?_
   rcases condE H with ⟨c124, H⟩ | ⟨c124, H⟩
   ·
    refine WC.cond_t (vb c124 rfl) <|
     WC.seq <|
     WC.region <|
     E rfl (mv (ii z119.2) rfl) <|
     E rfl (sg (encS ([38] : List UInt8)) rfl) <|
     E rfl (sg (ii z119.2) rfl) <|
     WL.nil <|
     WC.ret ?_
    obtain rfl := Option.some.inj H
    replace HF := HF.step s122 rfl
    exact ⟨_, (.tmp _ rfl (.tmp _ rfl .nil)), _, rfl, HF.out⟩
   ·
    refine WC.cond_f (vb c124 rfl) <|
     WC.seq <|
     WC.region <|
     E rfl (e2 bin_eql rfl rfl) <|
     E rfl (sg (.bool (z119.1 == 8744)) rfl) <|
     WL.nil ?_
    rcases condE H with ⟨c125, H⟩ | ⟨c125, H⟩
    ·
     refine WC.cond_t (vb c125 rfl) <|
      WC.seq <|
      WC.region <|
      E rfl (mv (ii z119.2) rfl) <|
      E rfl (sg (encS ([124] : List UInt8)) rfl) <|
      E rfl (sg (ii z119.2) rfl) <|
      WL.nil <|
      WC.ret ?_
     obtain rfl := Option.some.inj H
     replace HF := HF.step s122 rfl
     exact ⟨_, (.tmp _ rfl (.tmp _ rfl .nil)), _, rfl, HF.out⟩
    ·
     refine WC.cond_f (vb c125 rfl) <|
      WC.seq <|
      WC.region <|
      E rfl (e2 bin_eql rfl rfl) <|
      E rfl (sg (.bool (z119.1 == 8594)) rfl) <|
      WL.nil ?_
     rcases condE H with ⟨c126, H⟩ | ⟨c126, H⟩
     ·
      refine WC.cond_t (vb c126 rfl) <|
       WC.seq <|
       WC.region <|
       E rfl (mv (ii z119.2) rfl) <|
       E rfl (sg (encS ([45, 62] : List UInt8)) rfl) <|
       E rfl (sg (ii z119.2) rfl) <|
       WL.nil <|
       WC.ret ?_
      obtain rfl := Option.some.inj H
      replace HF := HF.step s122 rfl
      exact ⟨_, (.tmp _ rfl (.tmp _ rfl .nil)), _, rfl, HF.out⟩
     ·
      refine WC.cond_f (vb c126 rfl) <|
       WC.seq <|
       WC.region <|
       E rfl (e2 bin_eql rfl rfl) <|
       E rfl (sg (.bool (z119.1 == 8596)) rfl) <|
       WL.nil ?_
      rcases condE H with ⟨c127, H⟩ | ⟨c127, H⟩
      ·
       refine WC.cond_t (vb c127 rfl) <|
        WC.seq <|
        WC.region <|
        E rfl (mv (ii z119.2) rfl) <|
        E rfl (sg (encS ([60, 45, 62] : List UInt8)) rfl) <|
        E rfl (sg (ii z119.2) rfl) <|
        WL.nil <|
        WC.ret ?_
       obtain rfl := Option.some.inj H
       replace HF := HF.step s122 rfl
       exact ⟨_, (.tmp _ rfl (.tmp _ rfl .nil)), _, rfl, HF.out⟩
      ·
       refine WC.cond_f (vb c127 rfl) <|
        WC.seq <|
        WC.region <|
        E rfl (e2 bin_eql rfl rfl) <|
        E rfl (sg (.bool (z119.1 == 8866)) rfl) <|
        WL.nil ?_
       rcases condE H with ⟨c128, H⟩ | ⟨c128, H⟩
       ·
        refine WC.cond_t (vb c128 rfl) <|
         WC.seq <|
         WC.region <|
         E rfl (mv (ii z119.2) rfl) <|
         E rfl (sg (encS ([124, 45] : List UInt8)) rfl) <|
         E rfl (sg (ii z119.2) rfl) <|
         WL.nil <|
         WC.ret ?_
        obtain rfl := Option.some.inj H
        replace HF := HF.step s122 rfl
        exact ⟨_, (.tmp _ rfl (.tmp _ rfl .nil)), _, rfl, HF.out⟩
       ·
        refine WC.cond_f (vb c128 rfl) <|
         WC.seq <|
         WC.region <|
         E rfl (e2 bin_eql rfl rfl) <|
         E rfl (sg (.bool (z119.1 == 8804)) rfl) <|
         WL.nil ?_
        rcases condE H with ⟨c129, H⟩ | ⟨c129, H⟩
        ·
         refine WC.cond_t (vb c129 rfl) <|
          WC.seq <|
          WC.region <|
          E rfl (mv (ii z119.2) rfl) <|
          E rfl (sg (encS ([60, 61] : List UInt8)) rfl) <|
          E rfl (sg (ii z119.2) rfl) <|
          WL.nil <|
          WC.ret ?_
         obtain rfl := Option.some.inj H
         replace HF := HF.step s122 rfl
         exact ⟨_, (.tmp _ rfl (.tmp _ rfl .nil)), _, rfl, HF.out⟩
        ·
         refine WC.cond_f (vb c129 rfl) <|
          WC.skip <|
          WC.seq <|
          WC.region <|
          E rfl (sg (encS ([] : List UInt8)) rfl) <|
          E rfl (sg (ii 0) rfl) <|
          WL.nil <|
          WC.ret ?_
         obtain rfl := Option.some.inj H
         replace HF := HF.step s122 rfl
         exact ⟨_, (.tmp _ rfl (.tmp _ rfl .nil)), _, rfl, HF.out⟩
 have Ho104 := H
 rintro k105 ρ106 w107 ⟨o108, x101, HF, hG, s0_100, s2_100, s3_100, s8_100, s9_101, H⟩
 cases k105 with
 | zero => cases H
 | succ k105 =>
 rw [token_sign.l1.eq_2] at H
 refine WC.seq <|
  WC.region <|
  E rfl (e2 bin_lss s9_101 rfl) <|
  WL.nil <|
  WC.seq ?_
 rcases condE H with ⟨c109, H⟩ | ⟨c109, H⟩
 ·
  refine WC.cond_t (vb c109 rfl) <|
   WC.skip <|
   WC.seq <|
   WC.block <|
   WC.seq <|
   WC.region ?_
  obtain ⟨x110, hx110, H⟩ := bindE H
  refine E rfl (ex_indexAV (enc := encS) (i := x101) s8_100 s9_101 U156 U9 rfl sz9 rfl hx110) <|
   E rfl (sg (encS x110) rfl) <|
   WL.nil <|
   WC.seq <|
   WC.region <|
   E rfl (mv (encS a0) s0_100) <|
   E rfl (mv (encS x110) rfl) ?_
  obtain ⟨z111, hz111, H⟩ := bindE H
  refine WL.op rfl <|
   OW.call [encS a0, encS x110] rfl Tryz.func117 (by kernel_rfl) (by kernel_rfl) (map_cons' rfl (map_cons' rfl rfl)) (strings_HasPrefix.calls _ _ hz111 (HF.ten (V := [0]) (L := []) rfl) ) ?_
  rintro _ w112 ⟨o113, rfl, s114⟩
  refine ⟨_, rfl, ?_⟩
  replace s114 := un_stepL (J := []) (L' := []) s114 rfl rfl
  refine WL.nil ?_
  rcases condE H with ⟨c115, H⟩ | ⟨c115, H⟩
  ·
   refine WC.cond_t (vb c115 rfl) <|
    WC.seq <|
    WC.region <|
    E rfl (mv (encS x110) rfl) <|
    E rfl (mv (encS x110) rfl) <|
    E rfl (ex_len_str (s := x110) rfl U9) <|
    E rfl (sg (encS x110) rfl) <|
    E rfl (sg (ii (x110.length : Int)) rfl) <|
    WL.nil <|
    WC.ret ?_
   obtain rfl := Option.some.inj H
   replace H := Ho104
   dsimp only at H
   obtain rfl := Option.some.inj H
   replace HF := HF.step s114 rfl
   exact ⟨_, (.tmp _ rfl (.tmp _ rfl .nil)), _, rfl, HF.out⟩
  ·
   refine WC.cond_f (vb c115 rfl) <|
    WC.skip <|
    WC.region <|
    E rfl (e2 bin_add64 s9_101 rfl) <|
    E rfl (mv (ii (wrap64 (x101 + 1))) rfl) <|
    WL.nil ?_
   replace hG := hG.step s114 rfl
   replace HF := HF.step s114 rfl
   exact ⟨k105, Nat.lt_succ_self _, ⟨_, wrap64 (x101 + 1), HF, hG, s0_100, s2_100, s3_100, s8_100, rfl, H⟩⟩
 ·
  refine WC.cond_f (vb c109 rfl) <|
   WC.exit ?_
  obtain rfl := Option.some.inj H
  exact ⟨_, HF, hG, s0_100, s2_100, s3_100, rfl⟩

/-! ### token_word -/
set_option maxRecDepth 100000 in
theorem token_word.calls (k : Nat) (o0 : Tags) (w0 : World) {a0 : List UInt8} {r : T_api_Token × Int × Int} (H : token_word.f k a0 = some r) (hO : ∀ b, b < w0.heap.size → o0 b < 40) (hG : Gl GG o0 w0) :
  Calls Tryz.prog 77 [encS a0].toArray w0 fun e_ w_ => ∃ (o_ : Tags), e_ = .returned (one [.agg #[ii r.1.f_Kind, encS r.1.f_Text, ii r.1.f_Int, ii r.1.f_At.f_Line, ii r.1.f_At.f_Col, ii r.1.f_At.f_Off], ii r.2.1, ii r.2.2]) ∧ Step o0 w0 o_ w_ [] := by
 have HF := Fm.refl hO []
 unfold token_word.f at H
 refine SX.calls [encS a0] Tryz.func77 rfl rfl ?_
 rw [Tryz.ntmps77]
 refine WC.seq <|
  WC.region <|
  WL.op rfl <|
  OW.alloc' [ii (0 : Int), encS ([] : List UInt8), ii (0 : Int), ii (0 : Int), ii (0 : Int), ii (0 : Int)] 40 HF rfl zr76 rfl ?_
 intro o102 w103 b101 s104 hB105
 refine E rfl (sg (ii 0) rfl) <|
  E rfl (sg (ii 0) rfl) <|
  WL.nil <|
  WC.seq <|
  WC.block <|
  WC.seq <|
  WC.region <|
  E rfl (mv (encS a0) rfl) ?_
 obtain ⟨x106, hx106, H⟩ := bindE H
 refine E rfl (ex_index_str (i := (0 : Int)) rfl rfl U9 (ix_some hx106).1 (ix_some hx106).2.2) ?_
 obtain ⟨z107, hz107, H⟩ := bindE H
 refine WL.op rfl ?_
 replace HF := HF.step s104 rfl
 refine OW.call [enc8 x106] rfl Tryz.func93 (by kernel_rfl) (by kernel_rfl) (map_cons' rfl rfl) (token_letter.calls _ _ hz107 (HF.ten (V := [0]) (L := []) rfl) ) ?_
 rintro _ w108 ⟨o109, rfl, s110⟩
 refine ⟨_, rfl, ?_⟩
 replace s110 := un_stepL (J := []) (L' := []) s110 rfl rfl
 refine E rfl (sg (.bool z107) rfl) <|
  WL.nil ?_
 rcases condE H with ⟨c111, H⟩ | ⟨c111, H⟩
 ·
  refine WC.cond_t (vb c111 rfl) <|
   WC.seq <|
   WC.region <|
   E rfl (mv (encS a0) rfl) ?_
  obtain ⟨z112, hz112, H⟩ := bindE H
  refine WL.op rfl ?_
  replace HF := HF.step s110 rfl
  refine OW.call [encS a0, .func (.func 95) #[] #[]] rfl Tryz.func94 (by kernel_rfl) (by kernel_rfl) (map_cons' rfl (map_cons' rfl rfl)) (token_run_token_tail.calls k _ _ hz112 (HF.ten (V := [0]) (L := []) rfl) ) ?_
  rintro _ w113 ⟨o114, rfl, s115⟩
  refine ⟨_, rfl, ?_⟩
  replace s115 := un_stepL (J := []) (L' := []) s115 rfl rfl
  refine E rfl (sg (ii z112) rfl) <|
   WL.nil <|
   WC.seq <|
   WC.seq <|
   WC.region <|
   E rfl (mv (ii z112) rfl) <|
   E rfl (e2 bin_gtr rfl rfl) <|
   WL.nil ?_
  rcases condE H with ⟨c116, H⟩ | ⟨c116, H⟩
  ·
   refine WC.cond_t (vb c116 rfl) <|
    WC.seq <|
    WC.region <|
    E rfl (ex_build (cs := [ii (0 : Int), encS ([] : List UInt8), ii (0 : Int), ii (0 : Int), ii (0 : Int), ii (0 : Int)]) [(0, 1), (1, 1), (2, 1), (3, 3)] [] [ii 0, .string ⟨#[]⟩, ii 0, ii 0, ii 0, ii 0] U76 zr76 rfl (by kernel_rfl) rfl rfl) <|
    WL.op rfl ?_
   have k110_115 := s110.t s115
   replace hB105 := hB105.step k110_115 rfl
   refine OW.storeW rfl rfl sz76 hB105 rfl (oa rfl) ?_
   intro w117 s118 hB119
   refine E rfl (sg (ii 0) rfl) <|
    E rfl (sg (ii 22) rfl) <|
    WL.nil <|
    WC.ret ?_
   obtain rfl := Option.some.inj H
   have k115_118 := s115.t s118
   replace HF := HF.step k115_118 rfl
   exact ⟨_, (.cell _ rfl (run_loadN (cs := [ii (0 : Int), encS ([] : List UInt8), ii (0 : Int), ii (0 : Int), ii (0 : Int), ii (0 : Int)]) U76 rfl sz76 (hB119.cells rfl)) (.tmp _ rfl (.tmp _ rfl .nil))), _, rfl, HF.out⟩
  ·
   refine WC.cond_f (vb c116 rfl) <|
    WC.skip <|
    WC.seq <|
    WC.region <|
    E rfl (mv (encS a0) rfl) <|
    E rfl (mv (ii z112) rfl) ?_
   obtain ⟨y120, hy120, H⟩ := bindE H
   refine E rfl (ex_slice_str (l := 0) (h := z112) rfl U9 rfl ⟨_, rfl⟩ hy120) <|
    E rfl (ex_build (cs := [ii 1, encS y120, ii (0 : Int), ii (0 : Int), ii (0 : Int), ii (0 : Int)]) [(0, 1), (1, 1), (2, 1), (3, 3)] [(0, ii 1), (1, encS y120)] [ii 0, .string ⟨#[]⟩, ii 0, ii 0, ii 0, ii 0] U76 zr76 rfl (by kernel_rfl) (evs_cons rfl (evs_cons rfl rfl)) rfl) <|
    E rfl (mv (ii z112) rfl) <|
    WL.op rfl ?_
   have k110_115 := s110.t s115
   replace hB105 := hB105.step k110_115 rfl
   refine OW.storeW rfl rfl sz76 hB105 rfl (oa rfl) ?_
   intro w121 s122 hB123
   refine E rfl (sg (ii z112) rfl) <|
    E rfl (sg (ii 0) rfl) <|
    WL.nil <|
    WC.ret ?_
   obtain rfl := Option.some.inj H
   have k115_122 := s115.t s122
   replace HF := HF.step k115_122 rfl
   exact ⟨_, (.cell _ rfl (run_loadN (cs := [ii 1, encS y120, ii (0 : Int), ii (0 : Int), ii (0 : Int), ii (0 : Int)]) U76 rfl sz76 (hB123.cells rfl)) (.tmp _ rfl (.tmp _ rfl .nil))), _, rfl, HF.out⟩
 ·
  refine WC.cond_f (vb c111 rfl) <|
   WC.seq <|
   WC.region <|
   E rfl (mv (encS a0) rfl) ?_
  obtain ⟨x124, hx124, H⟩ := bindE H
  refine E rfl (ex_index_str (i := (0 : Int)) rfl rfl U9 (ix_some hx124).1 (ix_some hx124).2.2) ?_
  obtain ⟨z125, hz125, H⟩ := bindE H
  refine WL.op rfl ?_
  replace HF := HF.step s110 rfl
  refine OW.call [enc8 x124] rfl Tryz.func96 (by kernel_rfl) (by kernel_rfl) (map_cons' rfl rfl) (token_digit.calls _ _ hz125 (HF.ten (V := [0]) (L := []) rfl) ) ?_
  rintro _ w126 ⟨o127, rfl, s128⟩
  refine ⟨_, rfl, ?_⟩
  replace s128 := un_stepL (J := []) (L' := []) s128 rfl rfl
  refine E rfl (sg (.bool z125) rfl) <|
   WL.nil ?_
  rcases condE H with ⟨c129, H⟩ | ⟨c129, H⟩
  ·
   refine WC.cond_t (vb c129 rfl) <|
    WC.seq <|
    WC.region <|
    E rfl (mv (encS a0) rfl) ?_
   obtain ⟨z130, hz130, H⟩ := bindE H
   refine WL.op rfl ?_
   replace HF := HF.step s128 rfl
   refine OW.call [encS a0, .func (.func 96) #[] #[]] rfl Tryz.func94 (by kernel_rfl) (by kernel_rfl) (map_cons' rfl (map_cons' rfl rfl)) (token_run_token_digit.calls k _ _ hz130 (HF.ten (V := [0]) (L := []) rfl) ) ?_
   rintro _ w131 ⟨o132, rfl, s133⟩
   refine ⟨_, rfl, ?_⟩
   replace s133 := un_stepL (J := []) (L' := []) s133 rfl rfl
   refine E rfl (sg (ii z130) rfl) <|
    WL.nil <|
    WC.seq <|
    WC.region <|
    E rfl (mv (encS a0) rfl) <|
    E rfl (mv (ii z130) rfl) ?_
   obtain ⟨y134, hy134, H⟩ := bindE H
   refine E rfl (ex_slice_str (l := 0) (h := z130) rfl U9 rfl ⟨_, rfl⟩ hy134) ?_
   obtain ⟨z135, hz135, H⟩ := bindE H
   refine WL.op rfl ?_
   replace HF := HF.step s133 rfl
   have k104_133 := ((s104.t s110).t s128).t s133
   replace hG := hG.step k104_133 rfl
   refine OW.call [encS y134] rfl Tryz.func97 (by kernel_rfl) (by kernel_rfl) (map_cons' rfl rfl) (strconv_Atoi.calls _ _ y134 z135 (HF.ten (V := [0]) (L := []) rfl) (Gl.vw hG rfl) hz135) ?_
   rintro _ w136 ⟨o137, v139, rfl, s138, hE140⟩
   refine ⟨_, rfl, ?_⟩
   replace s138 := un_stepL (J := []) (L' := []) s138 rfl rfl
   refine E rfl (mv (.tuple #[ii z135.1, v139]) rfl) <|
    E rfl (ex_extract rfl rfl) <|
    E rfl (ex_extract rfl rfl) <|
    E rfl (sg (ii z135.1) rfl) <|
    E rfl (sg v139 rfl) <|
    WL.nil <|
    WC.seq ?_
   obtain ⟨z142, hz142, H⟩ := bindE H
   refine WC.cut (fun ρ_ w_ => ∃ (o_ : Tags), Fm o0 w0 o_ w_ [] ∧ Bk o_ w_ 40 b101 [ii (0 : Int), encS ([] : List UInt8), ii (0 : Int), ii (0 : Int), ii (0 : Int), ii (0 : Int)] 76 ∧ Gl GG o_ w_ ∧ ρ_ 0 = encS a0 ∧ ρ_ 2 = pp b101 0 ∧ ρ_ 3 = ii 0 ∧ ρ_ 4 = ii 0 ∧ ρ_ 6 = ii z130 ∧ ρ_ 7 = ii z135.1 ∧ ρ_ 66 = .bool z142) ?case143 ?_
   case case143 =>
    rintro ρ146 w144 ⟨o145, HF, hB105, hG, s0_140, s2_140, s3_140, s4_140, s6_140, s7_140, s66_141⟩
    rcases condE H with ⟨c147, H⟩ | ⟨c147, H⟩
    ·
     refine WC.cond_t (vb c147 s66_141) <|
      WC.seq <|
      WC.region <|
      E rfl (ex_build (cs := [ii (0 : Int), encS ([] : List UInt8), ii (0 : Int), ii (0 : Int), ii (0 : Int), ii (0 : Int)]) [(0, 1), (1, 1), (2, 1), (3, 3)] [] [ii 0, .string ⟨#[]⟩, ii 0, ii 0, ii 0, ii 0] U76 zr76 rfl (by kernel_rfl) rfl rfl) <|
      WL.op rfl <|
      OW.storeW rfl s2_140 sz76 hB105 rfl (oa rfl) ?_
     intro w148 s149 hB150
     refine E rfl (sg (ii 0) rfl) <|
      E rfl (sg (ii 21) rfl) <|
      WL.nil <|
      WC.ret ?_
     obtain rfl := Option.some.inj H
     replace HF := HF.step s149 rfl
     exact ⟨_, (.cell _ s2_140 (run_loadN (cs := [ii (0 : Int), encS ([] : List UInt8), ii (0 : Int), ii (0 : Int), ii (0 : Int), ii (0 : Int)]) U76 rfl sz76 (hB150.cells rfl)) (.tmp _ rfl (.tmp _ rfl .nil))), _, rfl, HF.out⟩
    ·
     refine WC.cond_f (vb c147 s66_141) <|
      WC.skip <|
      WC.seq <|
      WC.region <|
      E rfl (mv (ii z135.1) s7_140) <|
      E rfl (ex_build (cs := [ii 2, encS ([] : List UInt8), ii z135.1, ii (0 : Int), ii (0 : Int), ii (0 : Int)]) [(0, 1), (1, 1), (2, 1), (3, 3)] [(0, ii 2), (2, ii z135.1)] [ii 0, .string ⟨#[]⟩, ii 0, ii 0, ii 0, ii 0] U76 zr76 rfl (by kernel_rfl) (evs_cons rfl (evs_cons rfl rfl)) rfl) <|
      E rfl (mv (ii z130) s6_140) <|
      WL.op rfl <|
      OW.storeW rfl s2_140 sz76 hB105 rfl (oa rfl) ?_
     intro w151 s152 hB153
     refine E rfl (sg (ii z130) rfl) <|
      E rfl (sg (ii 0) rfl) <|
      WL.nil <|
      WC.ret ?_
     obtain rfl := Option.some.inj H
     replace HF := HF.step s152 rfl
     exact ⟨_, (.cell _ s2_140 (run_loadN (cs := [ii 2, encS ([] : List UInt8), ii z135.1, ii (0 : Int), ii (0 : Int), ii (0 : Int)]) U76 rfl sz76 (hB153.cells rfl)) (.tmp _ rfl (.tmp _ rfl .nil))), _, rfl, HF.out⟩
   have Ho154 := H
   replace H := hz142
   refine WC.region <|
    E rfl (mv (ii z130) rfl) <|
    E rfl (e2 bin_gtr rfl rfl) <|
    E rfl (mv (.bool (decide (z130 > 1))) rfl) ?_
   rcases condE H with ⟨c155, H⟩ | ⟨c155, H⟩
   ·
    refine WL.guardYes rfl rfl rfl (vb c155 rfl) <|
     OW.ex rfl (mv (encS a0) rfl) <|
     WL.guardYes rfl rfl rfl (vb c155 rfl) ?_
    obtain ⟨x156, hx156, H⟩ := bindE H
    refine OW.ex rfl (ex_index_str (i := (0 : Int)) rfl rfl U9 (ix_some hx156).1 (ix_some hx156).2.2) <|
     WL.guardYes rfl rfl rfl (vb c155 rfl) <|
     OW.ex rfl (ex_bin (a := enc8 x156) (b := enc8 (48 : UInt8)) (v := .bool (x156 == (48 : UInt8))) rfl rfl bin_eql_u8) <|
     E rfl (ex_pick_t (v := .bool (x156 == (48 : UInt8))) (vb c155 rfl) rfl) <|
     E rfl (mv (.bool (x156 == (48 : UInt8))) rfl) ?_
    rcases condE H with ⟨c157, H⟩ | ⟨c157, H⟩
    ·
     refine WL.guardNo rfl rfl rfl (vb c157 rfl) <|
      WL.guardNo rfl rfl rfl (vb c157 rfl) <|
      E rfl (ex_pick_t (v := .bool true) (vb c157 rfl) rfl) <|
      E rfl (mv (.bool true) rfl) <|
      WL.guardNo rfl rfl rfl rfl <|
      WL.guardNo rfl rfl rfl rfl <|
      E rfl (ex_pick_t (v := .bool true) rfl rfl) <|
      E rfl (mv (.bool true) rfl) <|
      WL.guardNo rfl rfl rfl rfl <|
      WL.guardNo rfl rfl rfl rfl <|
      WL.guardNo rfl rfl rfl rfl <|
      WL.guardNo rfl rfl rfl rfl <|
      WL.guardNo rfl rfl rfl rfl <|
      WL.guardUn rfl rfl rfl rfl <|
      WL.guardUn rfl rfl rfl rfl <|
      WL.guardUn rfl rfl rfl rfl <|
      WL.guardUn rfl rfl rfl rfl <|
      WL.guardNo rfl rfl rfl rfl <|
      E rfl (ex_pick_t (v := .bool true) rfl rfl) <|
      WL.nil ?_
     obtain rfl := Option.some.inj H
     replace hG := hG.step s138 rfl
     replace HF := HF.step s138 rfl
     have k110_138 := ((s110.t s128).t s133).t s138
     replace hB105 := hB105.step k110_138 rfl
     exact ⟨_, HF, hB105, hG, rfl, rfl, rfl, rfl, rfl, rfl, rfl⟩
    ·
     refine WL.guardYes rfl rfl rfl (vb c157 rfl) <|
      OW.ex rfl (mv v139 rfl) <|
      WL.guardYes rfl rfl rfl (vb c157 rfl) <|
      OW.ex rfl (ex_errNeq (b := z135.2) rfl U105 hE140) <|
      E rfl (ex_pick_f (v := .bool z135.2) (vb c157 rfl) rfl) <|
      E rfl (mv (.bool z135.2) rfl) ?_
     rcases condE H with ⟨c158, H⟩ | ⟨c158, H⟩
     ·
      refine WL.guardNo rfl rfl rfl (vb c158 rfl) <|
       WL.guardNo rfl rfl rfl (vb c158 rfl) <|
       E rfl (ex_pick_t (v := .bool true) (vb c158 rfl) rfl) <|
       E rfl (mv (.bool true) rfl) <|
       WL.guardNo rfl rfl rfl rfl <|
       WL.guardNo rfl rfl rfl rfl <|
       WL.guardNo rfl rfl rfl rfl <|
       WL.guardNo rfl rfl rfl rfl <|
       WL.guardNo rfl rfl rfl rfl <|
       WL.guardUn rfl rfl rfl rfl <|
       WL.guardUn rfl rfl rfl rfl <|
       WL.guardUn rfl rfl rfl rfl <|
       WL.guardUn rfl rfl rfl rfl <|
       WL.guardNo rfl rfl rfl rfl <|
       E rfl (ex_pick_t (v := .bool true) rfl rfl) <|
       WL.nil ?_
      obtain rfl := Option.some.inj H
      replace hG := hG.step s138 rfl
      replace HF := HF.step s138 rfl
      have k110_138 := ((s110.t s128).t s133).t s138
      replace hB105 := hB105.step k110_138 rfl
      exact ⟨_, HF, hB105, hG, rfl, rfl, rfl, rfl, rfl, rfl, rfl⟩
     ·
      refine WL.guardYes rfl rfl rfl (vb c158 rfl) <|
       OW.ex rfl (mv (ii z135.1) rfl) <|
       WL.guardYes rfl rfl rfl (vb c158 rfl) <|
       OW.ex rfl (e2 bin_gtr rfl rfl) <|
       E rfl (ex_pick_f (v := .bool (decide (z135.1 > 999999999))) (vb c158 rfl) rfl) <|
       E rfl (mv (.bool (decide (z135.1 > 999999999))) rfl) ?_
      rcases condE H with ⟨c159, H⟩ | ⟨c159, H⟩
      ·
       refine WL.guardNo rfl rfl rfl (vb c159 rfl) <|
        WL.guardNo rfl rfl rfl (vb c159 rfl) <|
        WL.guardNo rfl rfl rfl (vb c159 rfl) <|
        WL.guardNo rfl rfl rfl (vb c159 rfl) <|
        WL.guardNo rfl rfl rfl (vb c159 rfl) <|
        WL.guardUn rfl rfl rfl rfl <|
        WL.guardUn rfl rfl rfl rfl <|
        WL.guardUn rfl rfl rfl rfl <|
        WL.guardUn rfl rfl rfl rfl <|
        WL.guardNo rfl rfl rfl (vb c159 rfl) <|
        E rfl (ex_pick_t (v := .bool true) (vb c159 rfl) rfl) <|
        WL.nil ?_
       obtain rfl := Option.some.inj H
       replace hG := hG.step s138 rfl
       replace HF := HF.step s138 rfl
       have k110_138 := ((s110.t s128).t s133).t s138
       replace hB105 := hB105.step k110_138 rfl
       exact ⟨_, HF, hB105, hG, rfl, rfl, rfl, rfl, rfl, rfl, rfl⟩
      ·
       refine WL.guardYes rfl rfl rfl (vb c159 rfl) <|
        OW.ex rfl (mv (ii z130) rfl) <|
        WL.guardYes rfl rfl rfl (vb c159 rfl) <|
        OW.ex rfl (mv (encS a0) rfl) <|
        WL.guardYes rfl rfl rfl (vb c159 rfl) <|
        OW.ex rfl (ex_len_str (s := a0) rfl U9) <|
        WL.guardYes rfl rfl rfl (vb c159 rfl) <|
        OW.ex rfl (e2 bin_lss rfl rfl) <|
        WL.guardYes rfl rfl rfl (vb c159 rfl) <|
        OW.ex rfl (mv (.bool (decide (z130 < (a0.length : Int)))) rfl) ?_
       rcases condE H with ⟨c160, H⟩ | ⟨c160, H⟩
       ·
        refine WL.guardYes rfl rfl rfl (vb c160 rfl) <|
         OW.ex rfl (mv (encS a0) rfl) <|
         WL.guardYes rfl rfl rfl (vb c160 rfl) <|
         OW.ex rfl (mv (ii z130) rfl) <|
         WL.guardYes rfl rfl rfl (vb c160 rfl) ?_
        obtain ⟨x161, hx161, H⟩ := bindE H
        refine OW.ex rfl (ex_index_str (i := z130) rfl rfl U9 (ix_some hx161).1 (ix_some hx161).2.2) <|
         WL.guardYes rfl rfl rfl (vb c160 rfl) ?_
        obtain ⟨z162, hz162, H⟩ := bindE H
        replace HF := HF.step s138 rfl
        refine OW.call [enc8 x161] rfl Tryz.func95 (by kernel_rfl) (by kernel_rfl) (map_cons' rfl rfl) (token_tail.calls _ _ hz162 (HF.ten (V := [0]) (L := []) rfl) ) ?_
        rintro _ w163 ⟨o164, rfl, s165⟩
        refine ⟨_, rfl, ?_⟩
        replace s165 := un_stepL (J := []) (L' := []) s165 rfl rfl
        refine WL.guardYes rfl rfl rfl (vb c159 rfl) <|
         OW.ex rfl (ex_pick_t (v := .bool z162) (vb c160 rfl) rfl) <|
         E rfl (ex_pick_f (v := .bool z162) (vb c159 rfl) rfl) <|
         WL.nil ?_
        obtain rfl := Option.some.inj H
        replace HF := HF.step s165 rfl
        have k138_165 := s138.t s165
        replace hG := hG.step k138_165 rfl
        have k110_165 := ((s110.t s128).t s133).t k138_165
        replace hB105 := hB105.step k110_165 rfl
        exact ⟨_, HF, hB105, hG, rfl, rfl, rfl, rfl, rfl, rfl, rfl⟩
       ·
        refine WL.guardNo rfl rfl rfl (vb c160 rfl) <|
         WL.guardNo rfl rfl rfl (vb c160 rfl) <|
         WL.guardNo rfl rfl rfl (vb c160 rfl) <|
         WL.guardNo rfl rfl rfl (vb c160 rfl) <|
         WL.guardYes rfl rfl rfl (vb c159 rfl) <|
         OW.ex rfl (ex_pick_f (v := .bool false) (vb c160 rfl) rfl) <|
         E rfl (ex_pick_f (v := .bool false) (vb c159 rfl) rfl) <|
         WL.nil ?_
        obtain rfl := Option.some.inj H
        replace hG := hG.step s138 rfl
        replace HF := HF.step s138 rfl
        have k110_138 := ((s110.t s128).t s133).t s138
        replace hB105 := hB105.step k110_138 rfl
        exact ⟨_, HF, hB105, hG, rfl, rfl, rfl, rfl, rfl, rfl, rfl⟩
   ·
    refine WL.guardNo rfl rfl rfl (vb c155 rfl) <|
     WL.guardNo rfl rfl rfl (vb c155 rfl) <|
     WL.guardNo rfl rfl rfl (vb c155 rfl) <|
     E rfl (ex_pick_f (v := .bool false) (vb c155 rfl) rfl) <|
     E rfl (mv (.bool false) rfl) <|
     WL.guardYes rfl rfl rfl rfl <|
     OW.ex rfl (mv v139 rfl) <|
     WL.guardYes rfl rfl rfl rfl <|
     OW.ex rfl (ex_errNeq (b := z135.2) rfl U105 hE140) <|
     E rfl (ex_pick_f (v := .bool z135.2) rfl rfl) <|
     E rfl (mv (.bool z135.2) rfl) ?_
    rcases condE H with ⟨c166, H⟩ | ⟨c166, H⟩
    ·
     refine WL.guardNo rfl rfl rfl (vb c166 rfl) <|
      WL.guardNo rfl rfl rfl (vb c166 rfl) <|
      E rfl (ex_pick_t (v := .bool true) (vb c166 rfl) rfl) <|
      E rfl (mv (.bool true) rfl) <|
      WL.guardNo rfl rfl rfl rfl <|
      WL.guardNo rfl rfl rfl rfl <|
      WL.guardNo rfl rfl rfl rfl <|
      WL.guardNo rfl rfl rfl rfl <|
      WL.guardNo rfl rfl rfl rfl <|
      WL.guardUn rfl rfl rfl rfl <|
      WL.guardUn rfl rfl rfl rfl <|
      WL.guardUn rfl rfl rfl rfl <|
      WL.guardUn rfl rfl rfl rfl <|
      WL.guardNo rfl rfl rfl rfl <|
      E rfl (ex_pick_t (v := .bool true) rfl rfl) <|
      WL.nil ?_
     obtain rfl := Option.some.inj H
     replace hG := hG.step s138 rfl
     replace HF := HF.step s138 rfl
     have k110_138 := ((s110.t s128).t s133).t s138
     replace hB105 := hB105.step k110_138 rfl
     exact ⟨_, HF, hB105, hG, rfl, rfl, rfl, rfl, rfl, rfl, rfl⟩
    ·
     refine WL.guardYes rfl rfl rfl (vb c166 rfl) <|
      OW.ex rfl (mv (ii z135.1) rfl) <|
      WL.guardYes rfl rfl rfl (vb c166 rfl) <|
      OW.ex rfl (e2 bin_gtr rfl rfl) <|
      E rfl (ex_pick_f (v := .bool (decide (z135.1 > 999999999))) (vb c166 rfl) rfl) <|
      E rfl (mv (.bool (decide (z135.1 > 999999999))) rfl) ?_
     rcases condE H with ⟨c167, H⟩ | ⟨c167, H⟩
     ·
      refine WL.guardNo rfl rfl rfl (vb c167 rfl) <|
       WL.guardNo rfl rfl rfl (vb c167 rfl) <|
       WL.guardNo rfl rfl rfl (vb c167 rfl) <|
       WL.guardNo rfl rfl rfl (vb c167 rfl) <|
       WL.guardNo rfl rfl rfl (vb c167 rfl) <|
       WL.guardUn rfl rfl rfl rfl <|
       WL.guardUn rfl rfl rfl rfl <|
       WL.guardUn rfl rfl rfl rfl <|
       WL.guardUn rfl rfl rfl rfl <|
       WL.guardNo rfl rfl rfl (vb c167 rfl) <|
       E rfl (ex_pick_t (v := .bool true) (vb c167 rfl) rfl) <|
       WL.nil ?_
      obtain rfl := Option.some.inj H
      replace hG := hG.step s138 rfl
      replace HF := HF.step s138 rfl
      have k110_138 := ((s110.t s128).t s133).t s138
      replace hB105 := hB105.step k110_138 rfl
      exact ⟨_, HF, hB105, hG, rfl, rfl, rfl, rfl, rfl, rfl, rfl⟩
     ·
      refine WL.guardYes rfl rfl rfl (vb c167 rfl) <|
       OW.ex rfl (mv (ii z130) rfl) <|
       WL.guardYes rfl rfl rfl (vb c167 rfl) <|
       OW.ex rfl (mv (encS a0) rfl) <|
       WL.guardYes rfl rfl rfl (vb c167 rfl) <|
       OW.ex rfl (ex_len_str (s := a0) rfl U9) <|
       WL.guardYes rfl rfl rfl (vb c167 rfl) <|
       OW.ex rfl (e2 bin_lss rfl rfl) <|
       WL.guardYes rfl rfl rfl (vb c167 rfl) <|
       OW.ex rfl (mv (.bool (decide (z130 < (a0.length : Int)))) rfl) ?_
      rcases condE H with ⟨c168, H⟩ | ⟨c168, H⟩
      ·
       refine WL.guardYes rfl rfl rfl (vb c168 rfl) <|
        OW.ex rfl (mv (encS a0) rfl) <|
        WL.guardYes rfl rfl rfl (vb c168 rfl) <|
        OW.ex rfl (mv (ii z130) rfl) <|
        WL.guardYes rfl rfl rfl (vb c168 rfl) ?_
       obtain ⟨x169, hx169, H⟩ := bindE H
       refine OW.ex rfl (ex_index_str (i := z130) rfl rfl U9 (ix_some hx169).1 (ix_some hx169).2.2) <|
        WL.guardYes rfl rfl rfl (vb c168 rfl) ?_
       obtain ⟨z170, hz170, H⟩ := bindE H
       replace HF := HF.step s138 rfl
       refine OW.call [enc8 x169] rfl Tryz.func95 (by kernel_rfl) (by kernel_rfl) (map_cons' rfl rfl) (token_tail.calls _ _ hz170 (HF.ten (V := [0]) (L := []) rfl) ) ?_
       rintro _ w171 ⟨o172, rfl, s173⟩
       refine ⟨_, rfl, ?_⟩
       replace s173 := un_stepL (J := []) (L' := []) s173 rfl rfl
       refine WL.guardYes rfl rfl rfl (vb c167 rfl) <|
        OW.ex rfl (ex_pick_t (v := .bool z170) (vb c168 rfl) rfl) <|
        E rfl (ex_pick_f (v := .bool z170) (vb c167 rfl) rfl) <|
        WL.nil ?_
       obtain rfl := Option.some.inj H
       replace HF := HF.step s173 rfl
       have k138_173 := s138.t s173
       replace hG := hG.step k138_173 rfl
       have k110_173 := ((s110.t s128).t s133).t k138_173
       replace hB105 := hB105.step k110_173 rfl
       exact ⟨_, HF, hB105, hG, rfl, rfl, rfl, rfl, rfl, rfl, rfl⟩
      ·
       refine WL.guardNo rfl rfl rfl (vb c168 rfl) <|
        WL.guardNo rfl rfl rfl (vb c168 rfl) <|
        WL.guardNo rfl rfl rfl (vb c168 rfl) <|
        WL.guardNo rfl rfl rfl (vb c168 rfl) <|
        WL.guardYes rfl rfl rfl (vb c167 rfl) <|
        OW.ex rfl (ex_pick_f (v := .bool false) (vb c168 rfl) rfl) <|
        E rfl (ex_pick_f (v := .bool false) (vb c167 rfl) rfl) <|
        WL.nil ?_
       obtain rfl := Option.some.inj H
       replace hG := hG.step s138 rfl
       replace HF := HF.step s138 rfl
       have k110_138 := ((s110.t s128).t s133).t s138
       replace hB105 := hB105.step k110_138 rfl
       exact ⟨_, HF, hB105, hG, rfl, rfl, rfl, rfl, rfl, rfl, rfl⟩
  ·
   refine WC.cond_f (vb c129 rfl) <|
    WC.skip <|
    WC.seq <|
    WC.seq <|
    WC.region <|
    E rfl (mv (encS a0) rfl) ?_
   obtain ⟨z174, hz174, H⟩ := bindE H
   refine WL.op rfl ?_
   replace HF := HF.step s128 rfl
   have k104_128 := (s104.t s110).t s128
   replace hG := hG.step k104_128 rfl
   refine OW.call [encS a0] rfl Tryz.func98 (by kernel_rfl) (by kernel_rfl) (map_cons' rfl rfl) (utf8_DecodeRuneInString.calls _ _ a0 z174 (HF.ten (V := [0]) (L := []) rfl) (Gl.vw hG rfl) hz174) ?_
   rintro _ w175 ⟨o176, rfl, s177⟩
   refine ⟨_, rfl, ?_⟩
   replace s177 := un_stepL (J := []) (L' := []) s177 rfl rfl
   refine E rfl (mv (.tuple #[.int .i32 z174.1, ii z174.2]) rfl) <|
    E rfl (ex_extract rfl rfl) <|
    E rfl (ex_extract rfl rfl) <|
    E rfl (sg (.int .i32 z174.1) rfl) <|
    E rfl (sg (ii z174.2) rfl) <|
    WL.nil <|
    WC.seq <|
    WC.region <|
    E rfl (mv (.int .i32 z174.1) rfl) <|
    WL.nil <|
    WC.block <|
    WC.seq <|
    WC.region <|
    E rfl (e2 bin_eql rfl rfl) <|
    E rfl (sg (.bool (z174.1 == 8868)) rfl) <|
    WL.nil ?_
   rcases condE H with ⟨c178, H⟩ | ⟨c178, H⟩
   ·
    refine WC.cond_t (vb c178 rfl) <|
     WC.seq <|
     WC.region <|
     E rfl (ex_build (cs := [ii 1, encS ([116, 114, 117, 101] : List UInt8), ii (0 : Int), ii (0 : Int), ii (0 : Int), ii (0 : Int)]) [(0, 1), (1, 1), (2, 1), (3, 3)] [(0, ii 1), (1, encS ([116, 114, 117, 101] : List UInt8))] [ii 0, .string ⟨#[]⟩, ii 0, ii 0, ii 0, ii 0] U76 zr76 rfl (by kernel_rfl) (evs_cons rfl (evs_cons rfl rfl)) rfl) <|
     E rfl (mv (ii z174.2) rfl) <|
     WL.op rfl ?_
    have k110_177 := (s110.t s128).t s177
    replace hB105 := hB105.step k110_177 rfl
    refine OW.storeW rfl rfl sz76 hB105 rfl (oa rfl) ?_
    intro w179 s180 hB181
    refine E rfl (sg (ii z174.2) rfl) <|
     E rfl (sg (ii 0) rfl) <|
     WL.nil <|
     WC.ret ?_
    obtain rfl := Option.some.inj H
    have k177_180 := s177.t s180
    replace HF := HF.step k177_180 rfl
    exact ⟨_, (.cell _ rfl (run_loadN (cs := [ii 1, encS ([116, 114, 117, 101] : List UInt8), ii (0 : Int), ii (0 : Int), ii (0 : Int), ii (0 : Int)]) U76 rfl sz76 (hB181.cells rfl)) (.tmp _ rfl (.tmp _ rfl .nil))), _, rfl, HF.out⟩
   ·
    refine WC.cond_f (vb c178 rfl) <|
     WC.seq <|
     WC.region <|
     E rfl (e2 bin_eql rfl rfl) <|
     E rfl (sg (.bool (z174.1 == 8869)) rfl) <|
     WL.nil ?_
    rcases condE H with ⟨c182, H⟩ | ⟨c182, H⟩
    ·
     refine WC.cond_t (vb c182 rfl) <|
      WC.seq <|
      WC.region <|
      E rfl (ex_build (cs := [ii 1, encS ([102, 97, 108, 115, 101] : List UInt8), ii (0 : Int), ii (0 : Int), ii (0 : Int), ii (0 : Int)]) [(0, 1), (1, 1), (2, 1), (3, 3)] [(0, ii 1), (1, encS ([102, 97, 108, 115, 101] : List UInt8))] [ii 0, .string ⟨#[]⟩, ii 0, ii 0, ii 0, ii 0] U76 zr76 rfl (by kernel_rfl) (evs_cons rfl (evs_cons rfl rfl)) rfl) <|
      E rfl (mv (ii z174.2) rfl) <|
      WL.op rfl ?_
     have k110_177 := (s110.t s128).t s177
     replace hB105 := hB105.step k110_177 rfl
     refine OW.storeW rfl rfl sz76 hB105 rfl (oa rfl) ?_
     intro w183 s184 hB185
     refine E rfl (sg (ii z174.2) rfl) <|
      E rfl (sg (ii 0) rfl) <|
      WL.nil <|
      WC.ret ?_
     obtain rfl := Option.some.inj H
     have k177_184 := s177.t s184
     replace HF := HF.step k177_184 rfl
     exact ⟨_, (.cell _ rfl (run_loadN (cs := [ii 1, encS ([102, 97, 108, 115, 101] : List UInt8), ii (0 : Int), ii (0 : Int), ii (0 : Int), ii (0 : Int)]) U76 rfl sz76 (hB185.cells rfl)) (.tmp _ rfl (.tmp _ rfl .nil))), _, rfl, HF.out⟩
    ·
     refine WC.cond_f (vb c182 rfl) <|
      WC.skip <|
      WC.seq <|
      WC.region <|
      E rfl (mv (encS a0) rfl) ?_
     obtain ⟨z186, hz186, H⟩ := bindE H
     refine WL.op rfl ?_
     replace hG := hG.step s177 rfl
     replace HF := HF.step s177 rfl
     refine OW.call [encS a0] rfl Tryz.func99 (by kernel_rfl) (by kernel_rfl) (map_cons' rfl rfl) (token_sign.calls k _ _ hz186 (HF.ten (V := [0]) (L := []) rfl) (Gl.vw hG rfl)) ?_
     rintro _ w187 ⟨o188, rfl, s189⟩
     refine ⟨_, rfl, ?_⟩
     replace s189 := un_stepL (J := []) (L' := []) s189 rfl rfl
     refine E rfl (mv (.tuple #[encS z186.1, ii z186.2]) rfl) <|
      E rfl (ex_extract rfl rfl) <|
      E rfl (ex_extract rfl rfl) <|
      E rfl (sg (encS z186.1) rfl) <|
      E rfl (sg (ii z186.2) rfl) <|
      WL.nil <|
      WC.seq <|
      WC.seq <|
      WC.region <|
      E rfl (mv (ii z186.2) rfl) <|
      E rfl (e2 bin_eql rfl rfl) <|
      WL.nil ?_
     rcases condE H with ⟨c190, H⟩ | ⟨c190, H⟩
     ·
      refine WC.cond_t (vb c190 rfl) <|
       WC.seq <|
       WC.region <|
       E rfl (ex_build (cs := [ii (0 : Int), encS ([] : List UInt8), ii (0 : Int), ii (0 : Int), ii (0 : Int), ii (0 : Int)]) [(0, 1), (1, 1), (2, 1), (3, 3)] [] [ii 0, .string ⟨#[]⟩, ii 0, ii 0, ii 0, ii 0] U76 zr76 rfl (by kernel_rfl) rfl rfl) <|
       WL.op rfl ?_
      have k110_189 := ((s110.t s128).t s177).t s189
      replace hB105 := hB105.step k110_189 rfl
      refine OW.storeW rfl rfl sz76 hB105 rfl (oa rfl) ?_
      intro w191 s192 hB193
      refine E rfl (sg (ii 0) rfl) <|
       E rfl (sg (ii 20) rfl) <|
       WL.nil <|
       WC.ret ?_
      obtain rfl := Option.some.inj H
      have k189_192 := s189.t s192
      replace HF := HF.step k189_192 rfl
      exact ⟨_, (.cell _ rfl (run_loadN (cs := [ii (0 : Int), encS ([] : List UInt8), ii (0 : Int), ii (0 : Int), ii (0 : Int), ii (0 : Int)]) U76 rfl sz76 (hB193.cells rfl)) (.tmp _ rfl (.tmp _ rfl .nil))), _, rfl, HF.out⟩
     ·
      refine WC.cond_f (vb c190 rfl) <|
       WC.skip <|
       WC.seq <|
       WC.region <|
       E rfl (mv (encS z186.1) rfl) <|
       E rfl (ex_build (cs := [ii 3, encS z186.1, ii (0 : Int), ii (0 : Int), ii (0 : Int), ii (0 : Int)]) [(0, 1), (1, 1), (2, 1), (3, 3)] [(0, ii 3), (1, encS z186.1)] [ii 0, .string ⟨#[]⟩, ii 0, ii 0, ii 0, ii 0] U76 zr76 rfl (by kernel_rfl) (evs_cons rfl (evs_cons rfl rfl)) rfl) <|
       E rfl (mv (ii z186.2) rfl) <|
       WL.op rfl ?_
      have k110_189 := ((s110.t s128).t s177).t s189
      replace hB105 := hB105.step k110_189 rfl
      refine OW.storeW rfl rfl sz76 hB105 rfl (oa rfl) ?_
      intro w194 s195 hB196
      refine E rfl (sg (ii z186.2) rfl) <|
       E rfl (sg (ii 0) rfl) <|
       WL.nil <|
       WC.ret ?_
      obtain rfl := Option.some.inj H
      have k189_195 := s189.t s195
      replace HF := HF.step k189_195 rfl
      exact ⟨_, (.cell _ rfl (run_loadN (cs := [ii 3, encS z186.1, ii (0 : Int), ii (0 : Int), ii (0 : Int), ii (0 : Int)]) U76 rfl sz76 (hB196.cells rfl)) (.tmp _ rfl (.tmp _ rfl .nil))), _, rfl, HF.out⟩

/-! ### token_Scan -/
set_option maxRecDepth 100000 in
theorem token_Scan.calls (k : Nat) (o0 : Tags) (w0 : World) {a0 : List UInt8} {r : (List T_api_Token) × T_api_Fault} (H : token_Scan.f k a0 = some r) (hO : ∀ b, b < w0.heap.size → o0 b < 40) (hG : Gl GG o0 w0) :
  Calls Tryz.prog 54 [encS a0].toArray w0 fun e_ w_ => ∃ (o_ : Tags) (rv0 : Value), e_ = .returned (one [rv0, .agg #[ii r.2.f_Code, ii r.2.f_At.f_Line, ii r.2.f_At.f_Col, ii r.2.f_At.f_Off]]) ∧ Step o0 w0 o_ w_ [] ∧ Own T_api_Token.rep 76 39 o_ w_ rv0 r.1 := by
 have HF := Fm.refl hO []
 unfold token_Scan.f at H
 refine SX.calls [encS a0] Tryz.func54 rfl rfl ?_
 rw [Tryz.ntmps54]
 refine WC.seq <|
  WC.region <|
  E rfl (sg (.slice none ([] : List T_api_Token).length 0) rfl) <|
  WL.op rfl <|
  OW.alloc' [ii (0 : Int), ii (0 : Int), ii (0 : Int), ii (0 : Int)] 40 HF rfl zr36 rfl ?_
 intro o102 w103 b101 s104 hB105
 refine WL.nil <|
  WC.seq <|
  WC.region <|
  E rfl (mv (encS a0) rfl) <|
  E rfl (ex_build (cs := [ii 1, ii 1, ii (0 : Int)]) [(0, 1), (1, 1), (2, 1)] [(0, ii 1), (1, ii 1)] [ii 0, ii 0, ii 0] U34 zr34 rfl (by kernel_rfl) (evs_cons rfl (evs_cons rfl rfl)) rfl) <|
  E rfl (ex_build (cs := [encS a0, ii 1, ii 1, ii (0 : Int)]) [(0, 1), (1, 3)] [(0, encS a0), (1, .agg #[ii 1, ii 1, ii (0 : Int)])] [.string ⟨#[]⟩, ii 0, ii 0, ii 0] U128 zr128 rfl (by kernel_rfl) (evs_cons rfl (evs_cons rfl rfl)) rfl) <|
  WL.op rfl ?_
 replace HF := HF.step s104 rfl
 refine OW.box' [encS a0, ii 1, ii 1, ii (0 : Int)] 41 HF rfl ((congrArg Value.cells (show ev _ _ = (.agg #[encS a0, ii 1, ii 1, ii (0 : Int)] : Value) from rfl)).trans rfl) ?_
 intro o107 w108 b106 s109 hB110
 refine E rfl (sg (pp b106 0) rfl) <|
  WL.nil <|
  WC.seq <|
  WC.region <|
  E rfl (sg (.slice none ([] : List T_api_Token).length 0) rfl) <|
  WL.nil ?_
 obtain ⟨z115, hz115, H⟩ := bindE H
 replace hB105 := hB105.step s109 rfl
 replace HF := HF.step s109 rfl
 have k104_109 := s104.t s109
 replace hG := hG.step k104_109 rfl
 refine WC.for (fun k_ ρ_ w_ => ∃ (o_ : Tags) (x113 : (List T_api_Token)) (x114 : T_token_cursor) (v111 : Value), Fm o0 w0 o_ w_ [] ∧ Own T_api_Token.rep 76 46 o_ w_ v111 x113 ∧ Bk o_ w_ 40 b101 [ii (0 : Int), ii (0 : Int), ii (0 : Int), ii (0 : Int)] 36 ∧ Bk o_ w_ 41 b106 [encS x114.f_s, ii x114.f_at.f_Line, ii x114.f_at.f_Col, ii x114.f_at.f_Off] 128 ∧ Gl GG o_ w_ ∧ ρ_ 2 = .slice none ([] : List T_api_Token).length 0 ∧ ρ_ 3 = pp b101 0 ∧ ρ_ 4 = pp b106 0 ∧ ρ_ 5 = v111 ∧ token_Scan.l1 k k_ x113 x114 = some z115) k (fun ρ_ w_ => False) ⟨_, ([] : List T_api_Token), (⟨a0, (⟨1, 1, (0 : Int)⟩ : T_api_Spot)⟩ : T_token_cursor), _, HF, Own.nil, hB105, hB110, hG, rfl, rfl, rfl, rfl, hz115⟩ ?case116 ?_
 case case116 =>
  exact fun _ _ h_ => h_.elim
 have Ho117 := H
 rintro k118 ρ119 w120 ⟨o121, x113, x114, v111, HF, hO112, hB105, hB110, hG, s2_110, s3_110, s4_110, s5_113, H⟩
 cases k118 with
 | zero => cases H
 | succ k118 =>
 rw [token_Scan.l1.eq_2] at H
 refine WC.block <|
  WC.seq <|
  WC.region <|
  E rfl (mv (pp b106 0) s4_110) ?_
 obtain ⟨z122, hz122, H⟩ := bindE H
 refine WL.op rfl <|
  OW.call [pp b106 0] rfl Tryz.func75 (by kernel_rfl) (by kernel_rfl) (map_cons' rfl rfl) (token_cursor_space.calls k _ _ b106 (a0 := x114) hz122 (HF.ten (V := [0]) (L := [41]) rfl) (Bk.vw hB110 rfl) (Gl.vw hG rfl)) ?_
 rintro _ w123 ⟨o124, rfl, s125, hB126⟩
 refine ⟨_, rfl, ?_⟩
 replace hB126 := Bk.unO (J := []) 0 hB126 s125 rfl rfl rfl
 replace s125 := un_stepL (J := []) (L' := [41]) s125 rfl rfl
 refine WL.nil <|
  WC.seq <|
  WC.seq <|
  WC.region <|
  E rfl (mv (pp b106 0) s4_110) ?_
 obtain ⟨z127, hz127, H⟩ := bindE H
 refine WL.op rfl ?_
 replace HF := HF.step s125 rfl
 refine OW.call [pp b106 0] rfl Tryz.func76 (by kernel_rfl) (by kernel_rfl) (map_cons' rfl rfl) (token_cursor_here.calls _ _ b106 (a0 := z122) hz127 (HF.ten (V := [0]) (L := [41]) rfl) (Bk.vw hB126 rfl)) ?_
 rintro _ w128 ⟨o129, rfl, s130⟩
 refine ⟨_, rfl, ?_⟩
 replace s130 := un_stepL (J := []) (L' := []) s130 rfl rfl
 refine E rfl (e2 bin_eql_str rfl rfl) <|
  WL.nil ?_
 rcases condE H with ⟨c131, H⟩ | ⟨c131, H⟩
 ·
  refine WC.cond_t (vb c131 rfl) <|
   WC.seq <|
   WC.region <|
   E rfl (mv v111 s5_113) <|
   E rfl (mv (pp b106 0) s4_110) <|
   E rfl (ex_nilCheck rfl) <|
   E rfl (ex_fieldAddr rfl U128 rfl sz34) ?_
  replace hB126 := hB126.step s130 rfl
  refine E rfl (ex_loadN (cs := [ii z122.f_at.f_Line, ii z122.f_at.f_Col, ii z122.f_at.f_Off]) rfl U34 rfl sz34 (hB126.cells rfl)) <|
   E rfl (ex_build (cs := [ii (0 : Int), encS ([] : List UInt8), ii (0 : Int), ii z122.f_at.f_Line, ii z122.f_at.f_Col, ii z122.f_at.f_Off]) [(0, 1), (1, 1), (2, 1), (3, 3)] [(3, .agg #[ii z122.f_at.f_Line, ii z122.f_at.f_Col, ii z122.f_at.f_Off])] [ii 0, .string ⟨#[]⟩, ii 0, ii 0, ii 0, ii 0] U76 zr76 rfl (by kernel_rfl) (evs_cons rfl rfl) rfl) <|
   WL.op rfl ?_
  replace HF := HF.step s130 rfl
  refine OW.row (r := T_api_Token.rep) (xs := [(⟨(0 : Int), ([] : List UInt8), (0 : Int), (⟨z122.f_at.f_Line, z122.f_at.f_Col, z122.f_at.f_Off⟩ : T_api_Spot)⟩ : T_api_Token)]) [(0, .agg #[ii (0 : Int), encS ([] : List UInt8), ii (0 : Int), ii z122.f_at.f_Line, ii z122.f_at.f_Col, ii z122.f_at.f_Off])] [[ii (0 : Int), encS ([] : List UInt8), ii (0 : Int), ii z122.f_at.f_Line, ii z122.f_at.f_Col, ii z122.f_at.f_Off]] 47 HF rfl U71 sz76 zr76 rfl (evs_cons rfl rfl) rfl rfl ⟨(T_api_Token.mk' (⟨(0 : Int), ([] : List UInt8), (0 : Int), (⟨z122.f_at.f_Line, z122.f_at.f_Col, z122.f_at.f_Off⟩ : T_api_Spot)⟩ : T_api_Token) ), trivial⟩ rfl rfl rfl rfl ?_
  intro o132 w133 v135 s134 hO136
  obtain ⟨A137, c138, q139_, _, q139⟩ := hO136.row
  obtain ⟨u140, hu140, H⟩ := bindE H
  refine WL.op rfl ?_
  have k125_134 := (s125.t s130).t s134
  replace hO112 := hO112.step k125_134 rfl rfl
  refine OW.append (r := T_api_Token.rep) (E := 76) (i := 46) rfl U71 inf76 rfl (by decide) (by decide) (by decide) rfl ((show _ = (v135 : Value) from rfl).trans q139_) hO112 q139 rfl (of_decide_eq_true (chk_true hu140)) ?_
  intro o141 w142 v143 s144 hO145
  refine E rfl (ex_build (cs := [ii (0 : Int), ii (0 : Int), ii (0 : Int), ii (0 : Int)]) [(0, 1), (1, 3)] [] [ii 0, ii 0, ii 0, ii 0] U36 zr36 rfl (by kernel_rfl) rfl rfl) <|
   E rfl (sg v143 rfl) <|
   WL.op rfl ?_
  have k125_144 := k125_134.t s144
  replace hB105 := hB105.step k125_144 rfl
  refine OW.storeW rfl s3_110 sz36 hB105 rfl (oa rfl) ?_
  intro w146 s147 hB148
  refine WL.nil <|
   WC.ret ?_
  obtain rfl := Option.some.inj H
  replace H := Ho117
  dsimp only at H
  obtain rfl := Option.some.inj H
  replace hO145 := hO145.step s147 rfl rfl
  replace hO145 := Own.renTo (j := 39) hO145 rfl
  have k134_147 := (s134.t s144).t s147
  replace HF := HF.step k134_147 rfl
  replace HF := HF.ren (i := 46) (j := 39) rfl
  exact ⟨_, (.tmp _ rfl (.cell _ s3_110 (run_loadN (cs := [ii (0 : Int), ii (0 : Int), ii (0 : Int), ii (0 : Int)]) U36 rfl sz36 (hB148.cells rfl)) .nil)), _, v143, rfl, HF.out, hO145⟩
 ·
  refine WC.cond_f (vb c131 rfl) <|
   WC.skip <|
   WC.seq <|
   WC.region <|
   E rfl (mv (pp b106 0) s4_110) ?_
  obtain ⟨z149, hz149, H⟩ := bindE H
  refine WL.op rfl ?_
  replace hB126 := hB126.step s130 rfl
  replace HF := HF.step s130 rfl
  refine OW.call [pp b106 0] rfl Tryz.func76 (by kernel_rfl) (by kernel_rfl) (map_cons' rfl rfl) (token_cursor_here.calls _ _ b106 (a0 := z122) hz149 (HF.ten (V := [0]) (L := [41]) rfl) (Bk.vw hB126 rfl)) ?_
  rintro _ w150 ⟨o151, rfl, s152⟩
  refine ⟨_, rfl, ?_⟩
  replace s152 := un_stepL (J := []) (L' := []) s152 rfl rfl
  obtain ⟨z153, hz153, H⟩ := bindE H
  refine WL.op rfl ?_
  replace HF := HF.step s152 rfl
  have k125_152 := (s125.t s130).t s152
  replace hG := hG.step k125_152 rfl
  refine OW.call [encS z149] rfl Tryz.func77 (by kernel_rfl) (by kernel_rfl) (map_cons' rfl rfl) (token_word.calls k _ _ hz153 (HF.ten (V := [0]) (L := []) rfl) (Gl.vw hG rfl)) ?_
  rintro _ w154 ⟨o155, rfl, s156⟩
  refine ⟨_, rfl, ?_⟩
  replace s156 := un_stepL (J := []) (L' := []) s156 rfl rfl
  refine E rfl (mv (.tuple #[.agg #[ii z153.1.f_Kind, encS z153.1.f_Text, ii z153.1.f_Int, ii z153.1.f_At.f_Line, ii z153.1.f_At.f_Col, ii z153.1.f_At.f_Off], ii z153.2.1, ii z153.2.2]) rfl) <|
   E rfl (ex_extract rfl rfl) <|
   E rfl (ex_extract rfl rfl) <|
   E rfl (ex_extract rfl rfl) <|
   WL.op rfl ?_
  replace HF := HF.step s156 rfl
  refine OW.alloc' [ii (0 : Int), encS ([] : List UInt8), ii (0 : Int), ii (0 : Int), ii (0 : Int), ii (0 : Int)] 48 HF rfl zr76 rfl ?_
  intro o158 w159 b157 s160 hB161
  refine WL.op rfl <|
   OW.storeW rfl rfl sz76 hB161 rfl (oa rfl) ?_
  intro w162 s163 hB164
  refine E rfl (sg (ii z153.2.1) rfl) <|
   E rfl (sg (ii z153.2.2) rfl) <|
   WL.nil <|
   WC.seq <|
   WC.seq <|
   WC.region <|
   E rfl (mv (ii z153.2.2) rfl) <|
   E rfl (e2 bin_neq rfl rfl) <|
   WL.nil ?_
  rcases condE H with ⟨c165, H⟩ | ⟨c165, H⟩
  ·
   refine WC.cond_t (vb c165 rfl) <|
    WC.seq ?_
   have k160_163 := s160.t s163
   replace HF := HF.step k160_163 rfl
   refine WC.regionD' HF [] 7 8 (by kernel_rfl) rfl ?_
   intro w166 s167
   have k152_167 := (((s152.t s156).t s160).t s163).t s167
   replace hB126 := hB126.step k152_167 rfl
   have hB126D := hB126
   replace HF := HF.step s167 rfl
   have sR := HF.here []
   refine WA.seq [0, 1, 2, 3, 4, 5, 6] (lb 8 127) 1 (by kernel_rfl) rfl ⟨_, sR⟩ <|
    X1 rfl (fun w_ hS_ => ex_move (v := ii z153.2.2) rfl) <|
    X1 rfl (fun w_ hS_ => ex_move (v := pp b106 0) s4_110) <|
    X1 rfl (fun w_ hS_ => ex_nilCheck rfl) <|
    X1 rfl (fun w_ hS_ => ex_fieldAddr rfl U128 rfl sz34) <|
    X1 rfl (fun w_ hS_ => ex_loadN (cs := [ii z122.f_at.f_Line, ii z122.f_at.f_Col, ii z122.f_at.f_Off]) rfl U34 rfl sz34 ((hB126D.step hS_.choose_spec rfl).cells rfl)) <|
    X1 rfl (fun w_ hS_ => ex_build (cs := [ii z153.2.2, ii z122.f_at.f_Line, ii z122.f_at.f_Col, ii z122.f_at.f_Off]) [(0, 1), (1, 3)] [(0, ii z153.2.2), (1, .agg #[ii z122.f_at.f_Line, ii z122.f_at.f_Col, ii z122.f_at.f_Off])] [ii 0, ii 0, ii 0, ii 0] U36 zr36 rfl (by kernel_rfl) (evs_cons rfl (evs_cons rfl rfl)) rfl) <|
    X1 rfl (fun w_ hS_ => ex_assign (v := .slice none ([] : List T_api_Token).length 0) rfl) <|
    WA.last 7 (by kernel_rfl) (by kernel_rfl) rfl rfl rfl ?_
   have k125_167 := (((k125_152.t s156).t s160).t s163).t s167
   replace hB105 := hB105.step k125_167 rfl
   refine OW.storeW rfl s3_110 sz36 hB105 rfl (oa rfl) ?_
   intro w168 s169 hB170
   refine WC.ret ?_
   obtain rfl := Option.some.inj H
   replace H := Ho117
   dsimp only at H
   obtain rfl := Option.some.inj H
   replace HF := HF.step s169 rfl
   exact ⟨_, (.tmp _ rfl (.cell _ s3_110 (run_loadN (cs := [ii z153.2.2, ii z122.f_at.f_Line, ii z122.f_at.f_Col, ii z122.f_at.f_Off]) U36 rfl sz36 (hB170.cells rfl)) .nil)), _, (.slice none 0 0), rfl, HF.out, Own.nil⟩
  ·
   refine WC.cond_f (vb c165 rfl) <|
    WC.skip <|
    WC.seq <|
    WC.region <|
    E rfl (mv (pp b106 0) s4_110) <|
    E rfl (ex_nilCheck rfl) <|
    E rfl (ex_fieldAddr rfl U128 rfl sz34) ?_
   have k152_163 := ((s152.t s156).t s160).t s163
   replace hB126 := hB126.step k152_163 rfl
   refine E rfl (ex_loadN (cs := [ii z122.f_at.f_Line, ii z122.f_at.f_Col, ii z122.f_at.f_Off]) rfl U34 rfl sz34 (hB126.cells rfl)) <|
    E rfl (ex_fieldAddr rfl U76 rfl sz34) <|
    WL.op rfl <|
    OW.store [ii z153.1.f_Kind, encS z153.1.f_Text, ii z153.1.f_Int, ii z122.f_at.f_Line, ii z122.f_at.f_Col, ii z122.f_at.f_Off] rfl (vs := [ii z122.f_at.f_Line, ii z122.f_at.f_Col, ii z122.f_at.f_Off]) rfl sz34 hB164 (Nat.le_of_ble_eq_true rfl) (oa rfl) rfl ?_
   intro w171 s172 hB173
   refine WL.nil <|
    WC.seq <|
    WC.region <|
    E rfl (mv v111 s5_113) <|
    E rfl (ex_loadN (cs := [ii z153.1.f_Kind, encS z153.1.f_Text, ii z153.1.f_Int, ii z122.f_at.f_Line, ii z122.f_at.f_Col, ii z122.f_at.f_Off]) rfl U76 rfl sz76 (hB173.cells rfl)) <|
    WL.op rfl ?_
   have k160_172 := (s160.t s163).t s172
   replace HF := HF.step k160_172 rfl
   refine OW.row (r := T_api_Token.rep) (xs := [(⟨z153.1.f_Kind, z153.1.f_Text, z153.1.f_Int, (⟨z122.f_at.f_Line, z122.f_at.f_Col, z122.f_at.f_Off⟩ : T_api_Spot)⟩ : T_api_Token)]) [(0, .agg #[ii z153.1.f_Kind, encS z153.1.f_Text, ii z153.1.f_Int, ii z122.f_at.f_Line, ii z122.f_at.f_Col, ii z122.f_at.f_Off])] [[ii z153.1.f_Kind, encS z153.1.f_Text, ii z153.1.f_Int, ii z122.f_at.f_Line, ii z122.f_at.f_Col, ii z122.f_at.f_Off]] 49 HF rfl U71 sz76 zr76 rfl (evs_cons rfl rfl) rfl rfl ⟨(T_api_Token.mk' (⟨z153.1.f_Kind, z153.1.f_Text, z153.1.f_Int, (⟨z122.f_at.f_Line, z122.f_at.f_Col, z122.f_at.f_Off⟩ : T_api_Spot)⟩ : T_api_Token) ), trivial⟩ rfl rfl rfl rfl ?_
   intro o174 w175 v177 s176 hO178
   obtain ⟨A179, c180, q181_, _, q181⟩ := hO178.row
   obtain ⟨u182, hu182, H⟩ := bindE H
   refine WL.op rfl ?_
   have k125_176 := ((((k125_152.t s156).t s160).t s163).t s172).t s176
   replace hO112 := hO112.step k125_176 rfl rfl
   refine OW.append (r := T_api_Token.rep) (E := 76) (i := 46) rfl U71 inf76 rfl (by decide) (by decide) (by decide) rfl ((show _ = (v177 : Value) from rfl).trans q181_) hO112 q181 rfl (of_decide_eq_true (chk_true hu182)) ?_
   intro o183 w184 v185 s186 hO187
   refine E rfl (sg v185 rfl) <|
    WL.nil <|
    WC.region <|
    E rfl (mv (pp b106 0) s4_110) <|
    E rfl (mv (ii z153.2.1) rfl) ?_
   obtain ⟨z188, hz188, H⟩ := bindE H
   refine WL.op rfl ?_
   have k176_186 := s176.t s186
   replace HF := HF.step k176_186 rfl
   have k172_186 := s172.t k176_186
   replace hB126 := hB126.step k172_186 rfl
   have k156_186 := ((s156.t s160).t s163).t k172_186
   replace hG := hG.step k156_186 rfl
   refine OW.call [pp b106 0, ii z153.2.1] rfl Tryz.func78 (by kernel_rfl) (by kernel_rfl) (map_cons' rfl (map_cons' rfl rfl)) (token_cursor_skip.calls k _ _ b106 (a0 := z122) hz188 (HF.ten (V := [0]) (L := [41]) rfl) (Bk.vw hB126 rfl) (Gl.vw hG rfl)) ?_
   rintro _ w189 ⟨o190, rfl, s191, hB192⟩
   refine ⟨_, rfl, ?_⟩
   replace hB192 := Bk.unO (J := []) 0 hB192 s191 rfl rfl rfl
   replace s191 := un_stepL (J := []) (L' := [41]) s191 rfl rfl
   refine WL.nil ?_
   replace hG := hG.step s191 rfl
   replace hO187 := hO187.step s191 rfl rfl
   replace HF := HF.step s191 rfl
   have k125_191 := (k125_176.t s186).t s191
   replace hB105 := hB105.step k125_191 rfl
   exact ⟨k118, Nat.lt_succ_self _, ⟨_, (x113 ++ [(⟨z153.1.f_Kind, z153.1.f_Text, z153.1.f_Int, (⟨z122.f_at.f_Line, z122.f_at.f_Col, z122.f_at.f_Off⟩ : T_api_Spot)⟩ : T_api_Token)]), z188, _, HF, hO187, hB105, hB192, hG, s2_110, s3_110, s4_110, rfl, H⟩⟩

/-! ### syntax_ahead -/
set_option maxRecDepth 100000 in
theorem syntax_ahead.calls (k : Nat) (o0 : Tags) (w0 : World) {a0 : List UInt8} {r : (List T_api_Token) × T_api_Fault} (H : syntax_ahead.f k a0 = some r) (hO : ∀ b, b < w0.heap.size → o0 b < 40) (hG : Gl GG o0 w0) :
  Calls Tryz.prog 28 [encS a0].toArray w0 fun e_ w_ => ∃ (o_ : Tags) (rv0 : Value), e_ = .returned (one [rv0, .agg #[ii r.2.f_Code, ii r.2.f_At.f_Line, ii r.2.f_At.f_Col, ii r.2.f_At.f_Off]]) ∧ Step o0 w0 o_ w_ [] ∧ Own T_api_Token.rep 76 39 o_ w_ rv0 r.1 := by
 have HF := Fm.refl hO []
 unfold syntax_ahead.f at H
 refine SX.calls [encS a0] Tryz.func28 rfl rfl ?_
 rw [Tryz.ntmps28]
 refine WC.seq <|
  WC.region <|
  E rfl (sg (.slice none ([] : List T_api_Token).length 0) rfl) <|
  WL.op rfl <|
  OW.alloc' [ii (0 : Int), ii (0 : Int), ii (0 : Int), ii (0 : Int)] 40 HF rfl zr36 rfl ?_
 intro o102 w103 b101 s104 hB105
 refine WL.nil <|
  WC.seq <|
  WC.region <|
  E rfl (mv (encS a0) rfl) ?_
 obtain ⟨z106, hz106, H⟩ := bindE H
 refine WL.op rfl ?_
 replace hG := hG.step s104 rfl
 replace HF := HF.step s104 rfl
 refine OW.call [encS a0] rfl Tryz.func54 (by kernel_rfl) (by kernel_rfl) (map_cons' rfl rfl) (token_Scan.calls k _ _ hz106 (HF.ten (V := [0]) (L := []) rfl) (Gl.vw hG rfl)) ?_
 rintro _ w107 ⟨o108, v110, rfl, s109, hO111⟩
 refine ⟨_, rfl, ?_⟩
 replace hO111 := Own.un9 (J := [41]) 0 hO111 rfl s109 rfl rfl
 replace s109 := un_stepL (J := [41]) (L' := []) s109 rfl rfl
 refine E rfl (mv (.tuple #[v110, .agg #[ii z106.2.f_Code, ii z106.2.f_At.f_Line, ii z106.2.f_At.f_Col, ii z106.2.f_At.f_Off]]) rfl) <|
  E rfl (ex_extract rfl rfl) <|
  E rfl (ex_extract rfl rfl) <|
  WL.op rfl ?_
 replace HF := HF.step s109 rfl
 refine OW.alloc' [ii (0 : Int), ii (0 : Int), ii (0 : Int), ii (0 : Int)] 42 HF rfl zr36 rfl ?_
 intro o113 w114 b112 s115 hB116
 refine E rfl (sg v110 rfl) <|
  WL.op rfl <|
  OW.storeW rfl rfl sz36 hB116 rfl (oa rfl) ?_
 intro w117 s118 hB119
 refine WL.nil <|
  WC.seq <|
  WC.seq <|
  WC.region <|
  E rfl (ex_fieldAddr rfl U36 rfl sz28) <|
  E rfl (ex_load1 rfl U28 rfl (hB119.cell rfl)) <|
  E rfl (e2 bin_eql rfl rfl) <|
  WL.nil ?_
 rcases condE H with ⟨c120, H⟩ | ⟨c120, H⟩
 ·
  refine WC.cond_t (vb c120 rfl) <|
   WC.seq ?_
  have k115_118 := s115.t s118
  replace HF := HF.step k115_118 rfl
  refine WC.regionD' HF [] 3 4 (by kernel_rfl) rfl ?_
  intro w121 s122
  replace hB119 := hB119.step s122 rfl
  have hB119D := hB119
  replace HF := HF.step s122 rfl
  have sR := HF.here []
  refine WA.seq [0, 1, 2] (lb 4 7) 1 (by kernel_rfl) rfl ⟨_, sR⟩ <|
   X1 rfl (fun w_ hS_ => ex_move (v := v110) rfl) <|
   X1 rfl (fun w_ hS_ => ex_loadN (cs := [ii z106.2.f_Code, ii z106.2.f_At.f_Line, ii z106.2.f_At.f_Col, ii z106.2.f_At.f_Off]) rfl U36 rfl sz36 ((hB119D.step hS_.choose_spec rfl).cells rfl)) <|
   X1 rfl (fun w_ hS_ => ex_assign (v := v110) rfl) <|
   WA.last 3 (by kernel_rfl) (by kernel_rfl) rfl rfl rfl ?_
  have k109_122 := ((s109.t s115).t s118).t s122
  replace hB105 := hB105.step k109_122 rfl
  refine OW.storeW rfl rfl sz36 hB105 rfl (oa rfl) ?_
  intro w123 s124 hB125
  refine WC.ret ?_
  obtain rfl := Option.some.inj H
  have k115_124 := (k115_118.t s122).t s124
  replace hO111 := hO111.step k115_124 rfl rfl
  replace hO111 := Own.renTo (j := 39) hO111 rfl
  replace HF := HF.step s124 rfl
  replace HF := HF.ren (i := 41) (j := 39) rfl
  exact ⟨_, (.tmp _ rfl (.cell _ rfl (run_loadN (cs := [ii z106.2.f_Code, ii z106.2.f_At.f_Line, ii z106.2.f_At.f_Col, ii z106.2.f_At.f_Off]) U36 rfl sz36 (hB125.cells rfl)) .nil)), _, v110, rfl, HF.out, hO111⟩
 ·
  refine WC.cond_f (vb c120 rfl) <|
   WC.skip <|
   WC.seq <|
   WC.region <|
   E rfl (mv (encS a0) rfl) <|
   E rfl (ex_fieldAddr rfl U36 rfl sz34) <|
   E rfl (ex_fieldAddr rfl U34 rfl sz3) <|
   E rfl (ex_load1 rfl U3 rfl (hB119.cell rfl)) ?_
  obtain ⟨y126, hy126, H⟩ := bindE H
  refine E rfl (ex_slice_str (l := 0) (h := z106.2.f_At.f_Off) rfl U9 rfl ⟨_, rfl⟩ hy126) ?_
  obtain ⟨z127, hz127, H⟩ := bindE H
  refine WL.op rfl ?_
  have k115_118 := s115.t s118
  replace HF := HF.step k115_118 rfl
  have k109_118 := s109.t k115_118
  replace hG := hG.step k109_118 rfl
  refine OW.call [encS y126] rfl Tryz.func54 (by kernel_rfl) (by kernel_rfl) (map_cons' rfl rfl) (token_Scan.calls k _ _ hz127 (HF.ten (V := [0]) (L := []) rfl) (Gl.vw hG rfl)) ?_
  rintro _ w128 ⟨o129, v131, rfl, s130, hO132⟩
  refine ⟨_, rfl, ?_⟩
  replace hO132 := Own.un9 (J := [43]) 0 hO132 rfl s130 rfl rfl
  replace s130 := un_stepL (J := [43]) (L' := []) s130 rfl rfl
  refine E rfl (mv (.tuple #[v131, .agg #[ii z127.2.f_Code, ii z127.2.f_At.f_Line, ii z127.2.f_At.f_Col, ii z127.2.f_At.f_Off]]) rfl) <|
   E rfl (ex_extract rfl rfl) <|
   E rfl (ex_extract rfl rfl) <|
   E rfl (sg v131 rfl) <|
   WL.nil ?_
  obtain ⟨z136, hz136, H⟩ := bindE H
  refine WC.cut (fun ρ_ w_ => ∃ (o_ : Tags) (v133 : Value), Fm o0 w0 o_ w_ [] ∧ Own T_api_Token.rep 76 43 o_ w_ v133 z136 ∧ Bk o_ w_ 40 b101 [ii (0 : Int), ii (0 : Int), ii (0 : Int), ii (0 : Int)] 36 ∧ Bk o_ w_ 42 b112 [ii z106.2.f_Code, ii z106.2.f_At.f_Line, ii z106.2.f_At.f_Col, ii z106.2.f_At.f_Off] 36 ∧ Gl GG o_ w_ ∧ ρ_ 2 = .slice none ([] : List T_api_Token).length 0 ∧ ρ_ 3 = pp b101 0 ∧ ρ_ 4 = v133 ∧ ρ_ 5 = pp b112 0) ?case137 ?_
  case case137 =>
   rintro ρ140 w138 ⟨o139, v133, HF, hO134, hB105, hB119, hG, s2_132, s3_132, s4_135, s5_135⟩
   refine WC.seq <|
    WC.regionD' HF [] 3 4 (by kernel_rfl) rfl ?_
   intro w141 s142
   replace hB119 := hB119.step s142 rfl
   have hB119D := hB119
   replace HF := HF.step s142 rfl
   have sR := HF.here []
   refine WA.seq [0, 1, 2] (lb 4 7) 1 (by kernel_rfl) rfl ⟨_, sR⟩ <|
    X1 rfl (fun w_ hS_ => ex_move (v := v133) s4_135) <|
    X1 rfl (fun w_ hS_ => ex_loadN (cs := [ii z106.2.f_Code, ii z106.2.f_At.f_Line, ii z106.2.f_At.f_Col, ii z106.2.f_At.f_Off]) s5_135 U36 rfl sz36 ((hB119D.step hS_.choose_spec rfl).cells rfl)) <|
    X1 rfl (fun w_ hS_ => ex_assign (v := v133) rfl) <|
    WA.last 3 (by kernel_rfl) (by kernel_rfl) rfl rfl rfl ?_
   replace hB105 := hB105.step s142 rfl
   refine OW.storeW rfl s3_132 sz36 hB105 rfl (oa rfl) ?_
   intro w143 s144 hB145
   refine WC.ret ?_
   obtain rfl := Option.some.inj H
   have k142_144 := s142.t s144
   replace hO134 := hO134.step k142_144 rfl rfl
   replace hO134 := Own.renTo (j := 39) hO134 rfl
   replace HF := HF.step s144 rfl
   replace HF := HF.ren (i := 43) (j := 39) rfl
   exact ⟨_, (.tmp _ rfl (.cell _ s3_132 (run_loadN (cs := [ii z106.2.f_Code, ii z106.2.f_At.f_Line, ii z106.2.f_At.f_Col, ii z106.2.f_At.f_Off]) U36 rfl sz36 (hB145.cells rfl)) .nil)), _, v133, rfl, HF.out, hO134⟩
  have Ho146 := H
  replace H := hz136
  refine WC.seq <|
   WC.region <|
   E rfl (mv v131 rfl) ?_
  obtain ⟨A147, c148, q149⟩ := hO132.slice
  refine E rfl (ex_len_slice ((show _ = (v131 : Value) from rfl).trans q149) U71) <|
   E rfl (sg (ii (z127.1.length : Int)) rfl) <|
   WL.nil <|
   WC.seq <|
   WC.region <|
   E rfl (mv (ii (z127.1.length : Int)) rfl) <|
   E rfl (e2 bin_gtr rfl rfl) <|
   WL.nil ?_
  rcases condE H with ⟨c150, H⟩ | ⟨c150, H⟩
  ·
   refine WC.cond_t (vb c150 rfl) <|
    WC.region <|
    E rfl (mv v131 rfl) <|
    E rfl (mv (ii (z127.1.length : Int)) rfl) <|
    E rfl (e2 bin_sub64 rfl rfl) <|
    E rfl (ex_fieldAddr rfl U36 rfl sz34) ?_
   replace hB119 := hB119.step s130 rfl
   refine E rfl (ex_loadN (cs := [ii z106.2.f_At.f_Line, ii z106.2.f_At.f_Col, ii z106.2.f_At.f_Off]) rfl U34 rfl sz34 (hB119.cells rfl)) ?_
   obtain ⟨x151, hx151, H⟩ := bindE H
   obtain ⟨A156, c157, q158_⟩ := hO132.slice
   obtain ⟨ad152, cc159, e153, g154, g155, hl160, hR161, cell162⟩ := Row.ix (Own.rowOf hO132 q158_) hx151
   obtain rfl := T_api_Token.opn hR161
   refine E rfl (ex_indexAddr (i := (wrap64 ((z127.1.length : Int) - 1))) ((show _ = (v131 : Value) from rfl).trans q158_) e153 rfl U71 sz76 g154 g155) <|
    E rfl (ex_fieldAddr rfl U76 rfl sz34) <|
    WL.op rfl <|
    OW.storeElemPart (r := T_api_Token.rep) (j := (wrap64 ((z127.1.length : Int) - 1))) (y' := (⟨x151.f_Kind, x151.f_Text, x151.f_Int, (⟨z106.2.f_At.f_Line, z106.2.f_At.f_Col, z106.2.f_At.f_Off⟩ : T_api_Spot)⟩ : T_api_Token)) (off := 3) (c0 := [ii x151.f_Kind, encS x151.f_Text, ii x151.f_Int, ii x151.f_At.f_Line, ii x151.f_At.f_Col, ii x151.f_At.f_Off]) (vs := [ii z106.2.f_At.f_Line, ii z106.2.f_At.f_Col, ii z106.2.f_At.f_Off]) hO132 (q158_.trans (by rw [e153])) rfl g154 g155 ((congrArg Value.cells (show ev _ _ = (.agg #[ii z106.2.f_At.f_Line, ii z106.2.f_At.f_Col, ii z106.2.f_At.f_Off] : Value) from rfl)).trans rfl) sz34 cell162 rfl (Nat.le_of_ble_eq_true rfl) (by intro u_ hu_; simp only [List.mem_cons, List.not_mem_nil, or_false] at hu_; rcases hu_ with rfl | rfl | rfl <;> first | rfl) (T_api_Token.mk' (⟨x151.f_Kind, x151.f_Text, x151.f_Int, (⟨z106.2.f_At.f_Line, z106.2.f_At.f_Col, z106.2.f_At.f_Off⟩ : T_api_Spot)⟩ : T_api_Token) ) (by decide) ?_
   intro w164 s165 hO166
   refine WL.nil ?_
   obtain rfl := Option.some.inj H
   replace hB119 := hB119.step s165 rfl
   have k130_165 := s130.t s165
   replace hG := hG.step k130_165 rfl
   replace HF := HF.step k130_165 rfl
   have k109_165 := k109_118.t k130_165
   replace hB105 := hB105.step k109_165 rfl
   exact ⟨_, _, HF, hO166, hB105, hB119, hG, rfl, rfl, rfl, rfl⟩
  ·
   refine WC.cond_f (vb c150 rfl) <|
    WC.skip ?_
   obtain rfl := Option.some.inj H
   replace hG := hG.step s130 rfl
   replace hB119 := hB119.step s130 rfl
   replace HF := HF.step s130 rfl
   have k109_130 := k109_118.t s130
   replace hB105 := hB105.step k109_130 rfl
   exact ⟨_, _, HF, hO132, hB105, hB119, hG, rfl, rfl, rfl, rfl⟩

/-! ### syntax_counted -/
set_option maxRecDepth 100000 in
theorem syntax_counted.calls (o0 : Tags) (w0 : World) {a0 : T_api_Token} {r : Bool} (H : syntax_counted.f a0 = some r) (hO : ∀ b, b < w0.heap.size → o0 b < 40) :
  Calls Tryz.prog 29 [.agg #[ii a0.f_Kind, encS a0.f_Text, ii a0.f_Int, ii a0.f_At.f_Line, ii a0.f_At.f_Col, ii a0.f_At.f_Off]].toArray w0 fun e_ w_ => ∃ (o_ : Tags), e_ = .returned (one [.bool r]) ∧ Step o0 w0 o_ w_ [] := by
 have HF := Fm.refl hO []
 unfold syntax_counted.f at H
 refine SX.calls [.agg #[ii a0.f_Kind, encS a0.f_Text, ii a0.f_Int, ii a0.f_At.f_Line, ii a0.f_At.f_Col, ii a0.f_At.f_Off]] Tryz.func29 rfl rfl ?_
 rw [Tryz.ntmps29]
 refine WC.seq <|
  WC.region <|
  WL.op rfl <|
  OW.box' [ii a0.f_Kind, encS a0.f_Text, ii a0.f_Int, ii a0.f_At.f_Line, ii a0.f_At.f_Col, ii a0.f_At.f_Off] 40 HF rfl ((congrArg Value.cells (show ev _ _ = (.agg #[ii a0.f_Kind, encS a0.f_Text, ii a0.f_Int, ii a0.f_At.f_Line, ii a0.f_At.f_Col, ii a0.f_At.f_Off] : Value) from rfl)).trans rfl) ?_
 intro o102 w103 b101 s104 hB105
 refine E rfl (sg (.bool false) rfl) <|
  WL.nil ?_
 obtain ⟨z106, hz106, H⟩ := bindE H
 refine WC.cut (fun ρ_ w_ => ∃ (o_ : Tags), Fm o0 w0 o_ w_ [] ∧ Bk o_ w_ 40 b101 [ii a0.f_Kind, encS a0.f_Text, ii a0.f_Int, ii a0.f_At.f_Line, ii a0.f_At.f_Col, ii a0.f_At.f_Off] 76 ∧ ρ_ 1 = pp b101 0 ∧ ρ_ 2 = .bool false ∧ z106 = .inr ()) ?case107 ?_
 case case107 =>
  rintro ρ110 w108 ⟨o109, HF, hB105, s1_105, s2_105, rfl⟩
  replace H : _ = some _ := H
  dsimp only at H
  refine WC.seq <|
   WC.region <|
   E rfl (ex_fieldAddr s1_105 U76 rfl sz74) <|
   E rfl (ex_load1 rfl U74 rfl (hB105.cell rfl)) <|
   E rfl (e2 bin_eql rfl rfl) <|
   E rfl (sg (.bool (a0.f_Kind == 1)) rfl) <|
   WL.nil <|
   WC.ret ?_
  obtain rfl := Option.some.inj H
  exact ⟨_, (.tmp _ rfl .nil), _, rfl, HF.out⟩
 have Ho111 := H
 replace H := hz106
 refine WC.seq <|
  WC.region <|
  E rfl (ex_fieldAddr rfl U76 rfl sz74) <|
  E rfl (ex_load1 rfl U74 rfl (hB105.cell rfl)) <|
  E rfl (e2 bin_eql rfl rfl) <|
  WL.nil ?_
 rcases condE H with ⟨c112, H⟩ | ⟨c112, H⟩
 ·
  refine WC.cond_t (vb c112 rfl) <|
   WC.seq <|
   WC.region <|
   E rfl (ex_fieldAddr rfl U76 rfl sz9) <|
   E rfl (ex_load1 rfl U9 rfl (hB105.cell rfl)) <|
   WL.nil <|
   WC.block ?_
  obtain ⟨z114, hz114, H⟩ := bindE H
  refine WC.cut (fun ρ_ w_ => ∃ (o_ : Tags), Fm o0 w0 o_ w_ [] ∧ Bk o_ w_ 40 b101 [ii a0.f_Kind, encS a0.f_Text, ii a0.f_Int, ii a0.f_At.f_Line, ii a0.f_At.f_Col, ii a0.f_At.f_Off] 76 ∧ ρ_ 1 = pp b101 0 ∧ ρ_ 2 = .bool false ∧ ρ_ 8 = .bool z114) ?case115 ?_
  case case115 =>
   rintro ρ118 w116 ⟨o117, HF, hB105, s1_112, s2_112, s8_113⟩
   rcases condE H with ⟨c119, H⟩ | ⟨c119, H⟩
   ·
    refine WC.cond_t (vb c119 s8_113) <|
     WC.seq <|
     WC.region <|
     E rfl (sg (.bool true) rfl) <|
     WL.nil <|
     WC.ret ?_
    obtain rfl := Option.some.inj H
    replace H := Ho111
    dsimp only at H
    obtain rfl := Option.some.inj H
    exact ⟨_, (.tmp _ rfl .nil), _, rfl, HF.out⟩
   ·
    refine WC.cond_f (vb c119 s8_113) <|
     WC.skip ?_
    obtain rfl := Option.some.inj H
    exact ⟨_, HF, hB105, s1_112, s2_112, rfl⟩
  have Ho120 := H
  replace H := hz114
  refine WC.seq <|
   WC.region <|
   E rfl (e2 bin_eql_str rfl rfl) <|
   E rfl (sg (.bool (a0.f_Text == ([126] : List UInt8))) rfl) <|
   WL.nil ?_
  rcases condE H with ⟨c121, H⟩ | ⟨c121, H⟩
  ·
   refine WC.cond_t (vb c121 rfl) <|
    WC.skip ?_
   obtain rfl := Option.some.inj H
   replace HF := HF.step s104 rfl
   exact ⟨_, HF, hB105, rfl, rfl, rfl⟩
  ·
   refine WC.cond_f (vb c121 rfl) <|
    WC.seq <|
    WC.region <|
    E rfl (e2 bin_eql_str rfl rfl) <|
    E rfl (sg (.bool (a0.f_Text == ([38] : List UInt8))) rfl) <|
    WL.nil ?_
   rcases condE H with ⟨c122, H⟩ | ⟨c122, H⟩
   ·
    refine WC.cond_t (vb c122 rfl) <|
     WC.skip ?_
    obtain rfl := Option.some.inj H
    replace HF := HF.step s104 rfl
    exact ⟨_, HF, hB105, rfl, rfl, rfl⟩
   ·
    refine WC.cond_f (vb c122 rfl) <|
     WC.seq <|
     WC.region <|
     E rfl (e2 bin_eql_str rfl rfl) <|
     E rfl (sg (.bool (a0.f_Text == ([124] : List UInt8))) rfl) <|
     WL.nil ?_
    rcases condE H with ⟨c123, H⟩ | ⟨c123, H⟩
    ·
     refine WC.cond_t (vb c123 rfl) <|
      WC.skip ?_
     obtain rfl := Option.some.inj H
     replace HF := HF.step s104 rfl
     exact ⟨_, HF, hB105, rfl, rfl, rfl⟩
    ·
     refine WC.cond_f (vb c123 rfl) <|
      WC.seq <|
      WC.region <|
      E rfl (e2 bin_eql_str rfl rfl) <|
      E rfl (sg (.bool (a0.f_Text == ([45, 62] : List UInt8))) rfl) <|
      WL.nil ?_
     rcases condE H with ⟨c124, H⟩ | ⟨c124, H⟩
     ·
      refine WC.cond_t (vb c124 rfl) <|
       WC.skip ?_
      obtain rfl := Option.some.inj H
      replace HF := HF.step s104 rfl
      exact ⟨_, HF, hB105, rfl, rfl, rfl⟩
     ·
      refine WC.cond_f (vb c124 rfl) <|
       WC.region <|
       E rfl (e2 bin_eql_str rfl rfl) <|
       E rfl (sg (.bool (a0.f_Text == ([60, 45, 62] : List UInt8))) rfl) <|
       WL.nil ?_
      obtain rfl := Option.some.inj H
      replace HF := HF.step s104 rfl
      exact ⟨_, HF, hB105, rfl, rfl, rfl⟩
 ·
  refine WC.cond_f (vb c112 rfl) <|
   WC.skip ?_
  obtain rfl := Option.some.inj H
  replace HF := HF.step s104 rfl
  exact ⟨_, HF, hB105, rfl, rfl, rfl⟩

/-! ### formula_Table_Len -/
set_option maxRecDepth 100000 in
theorem formula_Table_Len.calls (o0 : Tags) (w0 : World) (pb0 : Nat) (pv0_0 : Value) (pb0_1 : Nat) {a0 : T_formula_Table} {a0_1 : (List (T_api_Node × Int))} {r : Int} (H : formula_Table_Len.f a0 a0_1 = some r) (hO : ∀ b, b < w0.heap.size → o0 b < 40) (hB0 : Bk o0 w0 2 pb0 [pv0_0, .map (some pb0_1)] 56) (hO0_0 : Own T_api_Node.rep 60 3 o0 w0 pv0_0 a0.f_rows) (hM0_1 : Mp (fun x_ : T_api_Node => Value.agg #[ii x_.f_Kind, encS x_.f_Name, ii x_.f_L, ii x_.f_R]) (fun v_ : Int => ii v_) 4 o0 w0 pb0_1 a0_1) :
  Calls Tryz.prog 8 [pp pb0 0].toArray w0 fun e_ w_ => ∃ (o_ : Tags), e_ = .returned (one [ii r]) ∧ Step o0 w0 o_ w_ [] := by
 have HF := Fm.refl hO []
 unfold formula_Table_Len.f at H
 refine SX.calls [pp pb0 0] Tryz.func8 rfl rfl ?_
 rw [Tryz.ntmps8]
 refine WC.seq <|
  WC.region <|
  E rfl (sg (ii 0) rfl) <|
  WL.nil <|
  WC.seq <|
  WC.seq <|
  WC.region <|
  E rfl (mv (pp pb0 0) rfl) ?_
 obtain ⟨z101, hz101, H⟩ := bindE H
 refine WL.op rfl <|
  OW.call [pp pb0 0] rfl Tryz.func22 (by kernel_rfl) (by kernel_rfl) (map_cons' rfl rfl) (formula_Table_alive.calls _ _ pb0 pv0_0 pb0_1 (a0 := a0) hz101 (HF.ten (V := [0]) (L := [2, 3, 4]) rfl) (Bk.vw hB0 rfl) (Own.vw hO0_0 rfl rfl) (Mp.vw hM0_1 rfl)) ?_
 obtain rfl := Option.some.inj (show some true = some z101 from hz101)
 rintro _ w102 ⟨o103, rfl, s104⟩
 refine ⟨_, rfl, ?_⟩
 replace s104 := un_stepL (J := []) (L' := []) s104 rfl rfl
 refine E rfl (ex_not (b := true) rfl) <|
  WL.nil <|
  WC.cond_f rfl <|
  WC.skip <|
  WC.seq <|
  WC.region <|
  E rfl (mv (pp pb0 0) rfl) <|
  E rfl (ex_nilCheck rfl) <|
  E rfl (ex_fieldAddr rfl U56 rfl sz22) ?_
 replace hB0 := hB0.step s104 rfl
 refine E rfl (ex_load1 rfl U22 rfl (hB0.cell rfl)) ?_
 replace hO0_0 := hO0_0.step s104 rfl rfl
 obtain ⟨A105, c106, q107⟩ := hO0_0.slice
 refine E rfl (ex_len_slice ((show _ = (pv0_0 : Value) from rfl).trans q107) U22) <|
  E rfl (sg (ii (a0.f_rows.length : Int)) rfl) <|
  WL.nil <|
  WC.ret ?_
 obtain rfl := Option.some.inj H
 replace HF := HF.step s104 rfl
 exact ⟨_, (.tmp _ rfl .nil), _, rfl, HF.out⟩

/-! ### syntax_reader_now -/
set_option maxRecDepth 100000 in
theorem syntax_reader_now.calls (o0 : Tags) (w0 : World) (pb0 : Nat) (pA0_1 : Option Addr) (pc0_1 : Nat) (pb0_0 : Nat) (pv0_0_0 : Value) (pb0_0_1 : Nat) {a0 : T_syntax_reader} {a0_0 : T_formula_Table} {a0_0_1 : (List (T_api_Node × Int))} {r : T_api_Token} (H : syntax_reader_now.f a0 a0_0 a0_0_1 = some r) (hO : ∀ b, b < w0.heap.size → o0 b < 40) (hB0 : Bk o0 w0 2 pb0 [pp pb0_0 0, .slice pA0_1 a0.f_l.length pc0_1, ii a0.f_i, ii a0.f_names, ii a0.f_nest, .bool a0.f_counts, .bool a0.f_full] 80) (hra0_1 : Row T_api_Token.rep (fun b_ => o0 b_ = 0) (fun b_ => o0 b_ = 0) w0 pA0_1 a0.f_l) (hla0_1 : a0.f_l.length ≤ pc0_1) (hB0_0 : Bk o0 w0 3 pb0_0 [pv0_0_0, .map (some pb0_0_1)] 56) (hO0_0_0 : Own T_api_Node.rep 60 4 o0 w0 pv0_0_0 a0_0.f_rows) (hM0_0_1 : Mp (fun x_ : T_api_Node => Value.agg #[ii x_.f_Kind, encS x_.f_Name, ii x_.f_L, ii x_.f_R]) (fun v_ : Int => ii v_) 5 o0 w0 pb0_0_1 a0_0_1) :
  Calls Tryz.prog 33 [pp pb0 0].toArray w0 fun e_ w_ => ∃ (o_ : Tags), e_ = .returned (one [.agg #[ii r.f_Kind, encS r.f_Text, ii r.f_Int, ii r.f_At.f_Line, ii r.f_At.f_Col, ii r.f_At.f_Off]]) ∧ Step o0 w0 o_ w_ [] := by
 have HF := Fm.refl hO []
 unfold syntax_reader_now.f at H
 refine SX.calls [pp pb0 0] Tryz.func33 rfl rfl ?_
 rw [Tryz.ntmps33]
 refine WC.seq <|
  WC.region <|
  WL.op rfl <|
  OW.alloc' [ii (0 : Int), encS ([] : List UInt8), ii (0 : Int), ii (0 : Int), ii (0 : Int), ii (0 : Int)] 40 HF rfl zr76 rfl ?_
 intro o102 w103 b101 s104 hB105
 refine WL.nil <|
  WC.seq <|
  WC.seq ?_
 replace HF := HF.step s104 rfl
 refine WC.regionD' HF [] 10 10 (by kernel_rfl) rfl ?_
 intro w106 s107
 have k104_107 := s104.t s107
 replace hB0 := hB0.step k104_107 rfl
 have hB0D := hB0
 replace HF := HF.step s107 rfl
 have sR := HF.here []
 refine WA.seq [0, 1, 2, 3, 4, 5, 6, 7, 8, 9] (lb 10 1023) 0 (by kernel_rfl) rfl ⟨_, sR⟩ <|
  X1 rfl (fun w_ hS_ => ex_move (v := pp pb0 0) rfl) <|
  X1 rfl (fun w_ hS_ => ex_nilCheck rfl) <|
  X1 rfl (fun w_ hS_ => ex_fieldAddr rfl U80 rfl sz3) <|
  X1 rfl (fun w_ hS_ => ex_load1 (v := ii a0.f_i) rfl U3 rfl ((hB0D.step hS_.choose_spec rfl).cell rfl)) <|
  X1 rfl (fun w_ hS_ => ex_move (v := pp pb0 0) rfl) <|
  X1 rfl (fun w_ hS_ => ex_nilCheck rfl) <|
  X1 rfl (fun w_ hS_ => ex_fieldAddr rfl U80 rfl sz71) <|
  X1 rfl (fun w_ hS_ => ex_load1 (v := .slice pA0_1 a0.f_l.length pc0_1) rfl U71 rfl ((hB0D.step hS_.choose_spec rfl).cell rfl)) <|
  X1 rfl (fun w_ hS_ => ex_len_slice (A := pA0_1) (m := a0.f_l.length) (c := pc0_1) rfl U71) <|
  X1 rfl (fun w_ hS_ => ex_bin (a := ii a0.f_i) (b := ii (a0.f_l.length : Int)) (v := .bool (decide (a0.f_i < (a0.f_l.length : Int)))) rfl rfl bin_lss) <|
  WA.done (by kernel_rfl) ?_
 rcases condE H with ⟨c108, H⟩ | ⟨c108, H⟩
 ·
  refine WC.cond_t (vb c108 rfl) <|
   WC.seq <|
   WC.regionD' HF [] 10 11 (by kernel_rfl) rfl ?_
  intro w109 s110
  have k104_110 := k104_107.t s110
  replace hra0_1 := hra0_1.step k104_110 rfl
  have hra0_1D := hra0_1
  replace hB0 := hB0.step s110 rfl
  have hB0D := hB0
  replace HF := HF.step s110 rfl
  have sR := HF.here []
  refine WA.seq [0, 1, 2, 3, 4, 5, 6, 7, 8, 9] (lb 11 1023) 1 (by kernel_rfl) rfl ⟨_, sR⟩ <|
   X1 rfl (fun w_ hS_ => ex_move (v := pp pb0 0) rfl) <|
   X1 rfl (fun w_ hS_ => ex_nilCheck rfl) <|
   X1 rfl (fun w_ hS_ => ex_fieldAddr rfl U80 rfl sz71) <|
   X1 rfl (fun w_ hS_ => ex_load1 (v := .slice pA0_1 a0.f_l.length pc0_1) rfl U71 rfl ((hB0D.step hS_.choose_spec rfl).cell rfl)) <|
   X1 rfl (fun w_ hS_ => ex_move (v := pp pb0 0) rfl) <|
   X1 rfl (fun w_ hS_ => ex_nilCheck rfl) <|
   X1 rfl (fun w_ hS_ => ex_fieldAddr rfl U80 rfl sz3) <|
   X1 rfl (fun w_ hS_ => ex_load1 (v := ii a0.f_i) rfl U3 rfl ((hB0D.step hS_.choose_spec rfl).cell rfl)) ?_
  obtain ⟨x111, hx111, H⟩ := bindE H
  obtain ⟨ad112, cc116, e113, g114, g115, hl117, hR118, cell119⟩ := Row.ix hra0_1D hx111
  obtain rfl := T_api_Token.opn hR118
  have hk120 := Row.at hra0_1D e113 hx111 (a0.f_i.toNat * 6)
  replace cell119 := fun j_ u_ hu_ => held_cell (Step.refl _ _ _) ⟨_, sR⟩ (by rw [add_block]; exact hk120) rfl (cell119 j_ u_ hu_)
  refine X1 rfl (fun w_ hS_ => ex_indexAddr (i := a0.f_i) rfl e113 rfl U71 sz76 g114 g115) <|
   X1 rfl (fun w_ hS_ => ex_loadN (cs := [ii x111.f_Kind, encS x111.f_Text, ii x111.f_Int, ii x111.f_At.f_Line, ii x111.f_At.f_Col, ii x111.f_At.f_Off]) rfl U76 rfl sz76 (fun j_ u_ hu_ => held_cell sR hS_ (by rw [add_block]; exact hk120) rfl (cell119 j_ u_ hu_))) <|
   WA.last 10 (by kernel_rfl) (by kernel_rfl) rfl rfl rfl ?_
  have k107_110 := s107.t s110
  replace hB105 := hB105.step k107_110 rfl
  refine OW.storeW rfl rfl sz76 hB105 rfl (oa rfl) ?_
  intro w121 s122 hB123
  refine WC.ret ?_
  obtain rfl := Option.some.inj H
  replace HF := HF.step s122 rfl
  exact ⟨_, (.cell _ rfl (run_loadN (cs := [ii x111.f_Kind, encS x111.f_Text, ii x111.f_Int, ii x111.f_At.f_Line, ii x111.f_At.f_Col, ii x111.f_At.f_Off]) U76 rfl sz76 (hB123.cells rfl)) .nil), _, rfl, HF.out⟩
 ·
  refine WC.cond_f (vb c108 rfl) <|
   WC.skip <|
   WC.seq <|
   WC.region <|
   E rfl (ex_build (cs := [ii (0 : Int), encS ([] : List UInt8), ii (0 : Int), ii (0 : Int), ii (0 : Int), ii (0 : Int)]) [(0, 1), (1, 1), (2, 1), (3, 3)] [] [ii 0, .string ⟨#[]⟩, ii 0, ii 0, ii 0, ii 0] U76 zr76 rfl (by kernel_rfl) rfl rfl) <|
   WL.op rfl ?_
  replace hB105 := hB105.step s107 rfl
  refine OW.storeW rfl rfl sz76 hB105 rfl (oa rfl) ?_
  intro w124 s125 hB126
  refine WL.nil <|
   WC.ret ?_
  obtain rfl := Option.some.inj H
  replace HF := HF.step s125 rfl
  exact ⟨_, (.cell _ rfl (run_loadN (cs := [ii (0 : Int), encS ([] : List UInt8), ii (0 : Int), ii (0 : Int), ii (0 : Int), ii (0 : Int)]) U76 rfl sz76 (hB126.cells rfl)) .nil), _, rfl, HF.out⟩

/-! ### syntax_reader_fail -/
set_option maxRecDepth 100000 in
theorem syntax_reader_fail.calls (o0 : Tags) (w0 : World) (pb0 : Nat) (pA0_1 : Option Addr) (pc0_1 : Nat) (pb0_0 : Nat) (pv0_0_0 : Value) (pb0_0_1 : Nat) {a0 : T_syntax_reader} {a1 : Int} {a0_0 : T_formula_Table} {a0_0_1 : (List (T_api_Node × Int))} {r : Exn (T_syntax_broken) (Unit)} (H : syntax_reader_fail.f a0 a1 a0_0 a0_0_1 = some r) (hO : ∀ b, b < w0.heap.size → o0 b < 40) (hB0 : Bk o0 w0 2 pb0 [pp pb0_0 0, .slice pA0_1 a0.f_l.length pc0_1, ii a0.f_i, ii a0.f_names, ii a0.f_nest, .bool a0.f_counts, .bool a0.f_full] 80) (hra0_1 : Row T_api_Token.rep (fun b_ => o0 b_ = 0) (fun b_ => o0 b_ = 0) w0 pA0_1 a0.f_l) (hla0_1 : a0.f_l.length ≤ pc0_1) (hB0_0 : Bk o0 w0 3 pb0_0 [pv0_0_0, .map (some pb0_0_1)] 56) (hO0_0_0 : Own T_api_Node.rep 60 4 o0 w0 pv0_0_0 a0_0.f_rows) (hM0_0_1 : Mp (fun x_ : T_api_Node => Value.agg #[ii x_.f_Kind, encS x_.f_Name, ii x_.f_L, ii x_.f_R]) (fun v_ : Int => ii v_) 5 o0 w0 pb0_0_1 a0_0_1) :
  Calls Tryz.prog 34 [pp pb0 0, ii a1].toArray w0 fun e_ w_ => ∃ (o_ : Tags), ((∃ p_, r = .ex p_ ∧ e_ = .panicked (pc (.iface 111 (.agg #[ii p_.f_f.f_Code, ii p_.f_f.f_At.f_Line, ii p_.f_f.f_At.f_Col, ii p_.f_f.f_At.f_Off]))) ∧ Step o0 w0 o_ w_ []) ∨ ∃ q_, r = .ok q_ ∧ e_ = .returned (one []) ∧ Step o0 w0 o_ w_ []) := by
 have HF := Fm.refl hO []
 unfold syntax_reader_fail.f at H
 refine SX.calls [pp pb0 0, ii a1] Tryz.func34 rfl rfl ?_
 rw [Tryz.ntmps34]
 refine WC.region <|
  E rfl (mv (ii a1) rfl) <|
  E rfl (mv (pp pb0 0) rfl) ?_
 obtain ⟨z101, hz101, H⟩ := bindE H
 refine WL.op rfl <|
  OW.call [pp pb0 0] rfl Tryz.func33 (by kernel_rfl) (by kernel_rfl) (map_cons' rfl rfl) (syntax_reader_now.calls _ _ pb0 pA0_1 pc0_1 pb0_0 pv0_0_0 pb0_0_1 (a0 := a0) (a0_0 := a0_0) hz101 (HF.ten (V := [0]) (L := [2, 3, 4, 5]) rfl) (Bk.vw hB0 rfl) (Row.vw hra0_1 rfl) hla0_1 (Bk.vw hB0_0 rfl) (Own.vw hO0_0_0 rfl rfl) (Mp.vw hM0_0_1 rfl)) ?_
 rintro _ w102 ⟨o103, rfl, s104⟩
 refine ⟨_, rfl, ?_⟩
 replace s104 := un_stepL (J := []) (L' := []) s104 rfl rfl
 refine E rfl (ex_fieldN rfl U76 rfl U34 rfl sz34) <|
  E rfl (ex_build (cs := [ii a1, ii z101.f_At.f_Line, ii z101.f_At.f_Col, ii z101.f_At.f_Off]) [(0, 1), (1, 3)] [(0, ii a1), (1, .agg #[ii z101.f_At.f_Line, ii z101.f_At.f_Col, ii z101.f_At.f_Off])] [ii 0, ii 0, ii 0, ii 0] U36 zr36 rfl (by kernel_rfl) (evs_cons rfl (evs_cons rfl rfl)) rfl) <|
  E rfl (ex_build (cs := [ii a1, ii z101.f_At.f_Line, ii z101.f_At.f_Col, ii z101.f_At.f_Off]) [(0, 4)] [(0, .agg #[ii a1, ii z101.f_At.f_Line, ii z101.f_At.f_Col, ii z101.f_At.f_Off])] [ii 0, ii 0, ii 0, ii 0] U111 zr111 rfl (by kernel_rfl) (evs_cons rfl rfl) rfl) <|
  E rfl (ex_makeInterface (v := .agg #[ii a1, ii z101.f_At.f_Line, ii z101.f_At.f_Col, ii z101.f_At.f_Off]) rfl U111 rfl) <|
  WL.op rfl <|
  OW.panic (T := 111) (v := .agg #[ii a1, ii z101.f_At.f_Line, ii z101.f_At.f_Col, ii z101.f_At.f_Off]) rfl ?_
 obtain rfl := Option.some.inj H
 replace HF := HF.step s104 rfl
 exact ⟨_, Or.inl ⟨_, rfl, rfl, HF.out⟩⟩

/-! ### syntax_reader_take -/
set_option maxRecDepth 100000 in
theorem syntax_reader_take.calls (o0 : Tags) (w0 : World) (pb0 : Nat) (pA0_1 : Option Addr) (pc0_1 : Nat) (pb0_0 : Nat) (pv0_0_0 : Value) (pb0_0_1 : Nat) {a0 : T_syntax_reader} {a0_0 : T_formula_Table} {a0_0_1 : (List (T_api_Node × Int))} {r : Exn (T_syntax_broken × T_syntax_reader) (T_api_Token × T_syntax_reader)} (H : syntax_reader_take.f a0 a0_0 a0_0_1 = some r) (hO : ∀ b, b < w0.heap.size → o0 b < 40) (hB0 : Bk o0 w0 2 pb0 [pp pb0_0 0, .slice pA0_1 a0.f_l.length pc0_1, ii a0.f_i, ii a0.f_names, ii a0.f_nest, .bool a0.f_counts, .bool a0.f_full] 80) (hra0_1 : Row T_api_Token.rep (fun b_ => o0 b_ = 0) (fun b_ => o0 b_ = 0) w0 pA0_1 a0.f_l) (hla0_1 : a0.f_l.length ≤ pc0_1) (hB0_0 : Bk o0 w0 3 pb0_0 [pv0_0_0, .map (some pb0_0_1)] 56) (hO0_0_0 : Own T_api_Node.rep 60 4 o0 w0 pv0_0_0 a0_0.f_rows) (hM0_0_1 : Mp (fun x_ : T_api_Node => Value.agg #[ii x_.f_Kind, encS x_.f_Name, ii x_.f_L, ii x_.f_R]) (fun v_ : Int => ii v_) 5 o0 w0 pb0_0_1 a0_0_1) :
  Calls Tryz.prog 81 [pp pb0 0].toArray w0 fun e_ w_ => ∃ (o_ : Tags), ((∃ p_, r = .ex p_ ∧ ∃ (B_0_1 : Option Addr) (d_0_1 : Nat), e_ = .panicked (pc (.iface 111 (.agg #[ii p_.1.f_f.f_Code, ii p_.1.f_f.f_At.f_Line, ii p_.1.f_f.f_At.f_Col, ii p_.1.f_f.f_At.f_Off]))) ∧ Step o0 w0 o_ w_ [2] ∧ Bk o_ w_ 2 pb0 [pp pb0_0 0, .slice B_0_1 p_.2.f_l.length d_0_1, ii p_.2.f_i, ii p_.2.f_names, ii p_.2.f_nest, .bool p_.2.f_counts, .bool p_.2.f_full] 80 ∧ p_.2.f_l.length ≤ d_0_1 ∧ Row T_api_Token.rep (fun b_ => o_ b_ = 0) (fun b_ => o_ b_ = 0) w_ B_0_1 p_.2.f_l) ∨ ∃ q_, r = .ok q_ ∧ ∃ (B_0_1 : Option Addr) (d_0_1 : Nat), e_ = .returned (one [.agg #[ii q_.1.f_Kind, encS q_.1.f_Text, ii q_.1.f_Int, ii q_.1.f_At.f_Line, ii q_.1.f_At.f_Col, ii q_.1.f_At.f_Off]]) ∧ Step o0 w0 o_ w_ [2] ∧ Bk o_ w_ 2 pb0 [pp pb0_0 0, .slice B_0_1 q_.2.f_l.length d_0_1, ii q_.2.f_i, ii q_.2.f_names, ii q_.2.f_nest, .bool q_.2.f_counts, .bool q_.2.f_full] 80 ∧ q_.2.f_l.length ≤ d_0_1 ∧ Row T_api_Token.rep (fun b_ => o_ b_ = 0) (fun b_ => o_ b_ = 0) w_ B_0_1 q_.2.f_l) := by
 have HF := Fm.refl hO [2]
 unfold syntax_reader_take.f at H
 refine SX.calls [pp pb0 0] Tryz.func81 rfl rfl ?_
 rw [Tryz.ntmps81]
 refine WC.seq <|
  WC.region <|
  WL.op rfl <|
  OW.alloc' [ii (0 : Int), encS ([] : List UInt8), ii (0 : Int), ii (0 : Int), ii (0 : Int), ii (0 : Int)] 40 HF rfl zr76 rfl ?_
 intro o102 w103 b101 s104 hB105
 refine WL.nil <|
  WC.seq <|
  WC.region <|
  E rfl (mv (pp pb0 0) rfl) ?_
 obtain ⟨z106, hz106, H⟩ := bindE H
 refine WL.op rfl ?_
 replace hra0_1 := hra0_1.step s104 rfl
 replace hB0 := hB0.step s104 rfl
 replace hO0_0_0 := hO0_0_0.step s104 rfl rfl
 replace hB0_0 := hB0_0.step s104 rfl
 replace hM0_0_1 := hM0_0_1.step s104 rfl
 replace HF := HF.step s104 rfl
 refine OW.call [pp pb0 0] rfl Tryz.func33 (by kernel_rfl) (by kernel_rfl) (map_cons' rfl rfl) (syntax_reader_now.calls _ _ pb0 pA0_1 pc0_1 pb0_0 pv0_0_0 pb0_0_1 (a0 := a0) (a0_0 := a0_0) hz106 (HF.ten (V := [0]) (L := [2, 3, 4, 5]) rfl) (Bk.vw hB0 rfl) (Row.vw hra0_1 rfl) hla0_1 (Bk.vw hB0_0 rfl) (Own.vw hO0_0_0 rfl rfl) (Mp.vw hM0_0_1 rfl)) ?_
 rintro _ w107 ⟨o108, rfl, s109⟩
 refine ⟨_, rfl, ?_⟩
 replace s109 := un_stepL (J := []) (L' := []) s109 rfl rfl
 refine WL.op rfl ?_
 replace HF := HF.step s109 rfl
 refine OW.alloc' [ii (0 : Int), encS ([] : List UInt8), ii (0 : Int), ii (0 : Int), ii (0 : Int), ii (0 : Int)] 41 HF rfl zr76 rfl ?_
 intro o111 w112 b110 s113 hB114
 refine WL.op rfl <|
  OW.storeW rfl rfl sz76 hB114 rfl (oa rfl) ?_
 intro w115 s116 hB117
 refine WL.nil ?_
 obtain ⟨z123, hz123, H⟩ := bindE H
 refine WC.cut (fun ρ_ w_ => ∃ (o_ : Tags) (x118 : T_syntax_reader) (A119 : Option Addr) (c120 : Nat), Fm o0 w0 o_ w_ [2] ∧ Bk o_ w_ 2 pb0 [pp pb0_0 0, .slice A119 x118.f_l.length c120, ii x118.f_i, ii x118.f_names, ii x118.f_nest, .bool x118.f_counts, .bool x118.f_full] 80 ∧ Row T_api_Token.rep (fun b_ => o_ b_ = 0) (fun b_ => o_ b_ = 0) w_ A119 x118.f_l ∧ x118.f_l.length ≤ c120 ∧ Bk o_ w_ 3 pb0_0 [pv0_0_0, .map (some pb0_0_1)] 56 ∧ Own T_api_Node.rep 60 4 o_ w_ pv0_0_0 a0_0.f_rows ∧ Mp (fun x_ : T_api_Node => Value.agg #[ii x_.f_Kind, encS x_.f_Name, ii x_.f_L, ii x_.f_R]) (fun v_ : Int => ii v_) 5 o_ w_ pb0_0_1 a0_0_1 ∧ Bk o_ w_ 40 b101 [ii (0 : Int), encS ([] : List UInt8), ii (0 : Int), ii (0 : Int), ii (0 : Int), ii (0 : Int)] 76 ∧ Bk o_ w_ 41 b110 [ii z106.f_Kind, encS z106.f_Text, ii z106.f_Int, ii z106.f_At.f_Line, ii z106.f_At.f_Col, ii z106.f_At.f_Off] 76 ∧ ρ_ 0 = pp pb0 0 ∧ ρ_ 2 = pp b101 0 ∧ ρ_ 3 = pp b110 0 ∧ z123 = .inr x118) ?case124 ?_
 case case124 =>
  rintro ρ127 w125 ⟨o126, x118, A119, c120, HF, hB132, hr121, hl122, hB0_0, hO0_0_0, hM0_0_1, hB105, hB117, s0_117, s2_117, s3_117, rfl⟩
  replace H : _ = some _ := H
  dsimp only at H
  refine WC.seq <|
   WC.region <|
   E rfl (mv (pp pb0 0) s0_117) <|
   E rfl (ex_nilCheck rfl) <|
   E rfl (ex_fieldAddr rfl U80 rfl sz3) <|
   E rfl (ex_load1 rfl U3 rfl (hB132.cell rfl)) <|
   E rfl (e2 bin_add64 rfl rfl) <|
   E rfl (ex_nilCheck rfl) <|
   E rfl (ex_fieldAddr rfl U80 rfl sz3) <|
   WL.op rfl <|
   OW.store [pp pb0_0 0, .slice A119 x118.f_l.length c120, ii (wrap64 (x118.f_i + 1)), ii x118.f_names, ii x118.f_nest, .bool x118.f_counts, .bool x118.f_full] rfl (vs := [ii (wrap64 (x118.f_i + 1))]) rfl sz3 hB132 (Nat.le_of_ble_eq_true rfl) (oa rfl) rfl ?_
  intro w128 s129 hB130
  refine WL.nil <|
   WC.seq <|
   WC.region ?_
  replace hB117 := hB117.step s129 rfl
  refine E rfl (ex_loadN (cs := [ii z106.f_Kind, encS z106.f_Text, ii z106.f_Int, ii z106.f_At.f_Line, ii z106.f_At.f_Col, ii z106.f_At.f_Off]) s3_117 U76 rfl sz76 (hB117.cells rfl)) <|
   WL.op rfl ?_
  replace hB105 := hB105.step s129 rfl
  refine OW.storeW rfl s2_117 sz76 hB105 rfl (oa rfl) ?_
  intro w131 s132 hB133
  refine WL.nil <|
   WC.ret ?_
  obtain rfl := Option.some.inj H
  replace hB130 := hB130.step s132 rfl
  have k129_132 := s129.t s132
  replace hr121 := hr121.step k129_132 rfl
  replace HF := HF.step k129_132 rfl
  exact ⟨_, (.cell _ s2_117 (run_loadN (cs := [ii z106.f_Kind, encS z106.f_Text, ii z106.f_Int, ii z106.f_At.f_Line, ii z106.f_At.f_Col, ii z106.f_At.f_Off]) U76 rfl sz76 (hB133.cells rfl)) .nil), _, Or.inr ⟨_, rfl, A119, c120, rfl, HF.out, hB130, hl122, hr121⟩⟩
 have Ho134 := H
 replace H := hz123
 obtain ⟨z136, hz136, H⟩ := bindE H
 refine WC.cut (fun ρ_ w_ => ∃ (o_ : Tags), Fm o0 w0 o_ w_ [2] ∧ Bk o_ w_ 2 pb0 [pp pb0_0 0, .slice pA0_1 a0.f_l.length pc0_1, ii a0.f_i, ii a0.f_names, ii a0.f_nest, .bool a0.f_counts, .bool a0.f_full] 80 ∧ Row T_api_Token.rep (fun b_ => o_ b_ = 0) (fun b_ => o_ b_ = 0) w_ pA0_1 a0.f_l ∧ Bk o_ w_ 3 pb0_0 [pv0_0_0, .map (some pb0_0_1)] 56 ∧ Own T_api_Node.rep 60 4 o_ w_ pv0_0_0 a0_0.f_rows ∧ Mp (fun x_ : T_api_Node => Value.agg #[ii x_.f_Kind, encS x_.f_Name, ii x_.f_L, ii x_.f_R]) (fun v_ : Int => ii v_) 5 o_ w_ pb0_0_1 a0_0_1 ∧ Bk o_ w_ 40 b101 [ii (0 : Int), encS ([] : List UInt8), ii (0 : Int), ii (0 : Int), ii (0 : Int), ii (0 : Int)] 76 ∧ Bk o_ w_ 41 b110 [ii z106.f_Kind, encS z106.f_Text, ii z106.f_Int, ii z106.f_At.f_Line, ii z106.f_At.f_Col, ii z106.f_At.f_Off] 76 ∧ ρ_ 0 = pp pb0 0 ∧ ρ_ 2 = pp b101 0 ∧ ρ_ 3 = pp b110 0 ∧ ρ_ 13 = .bool z136) ?case137 ?_
 case case137 =>
  rintro ρ140 w138 ⟨o139, HF, hB0, hra0_1, hB0_0, hO0_0_0, hM0_0_1, hB105, hB117, s0_134, s2_134, s3_134, s13_135⟩
  rcases condE H with ⟨c141, H⟩ | ⟨c141, H⟩
  ·
   refine WC.cond_t (vb c141 s13_135) ?_
   obtain ⟨z142, hz142, H⟩ := bindE H
   refine WC.cut (fun ρ_ w_ => ∃ (o_ : Tags), Fm o0 w0 o_ w_ [2] ∧ Bk o_ w_ 2 pb0 [pp pb0_0 0, .slice pA0_1 a0.f_l.length pc0_1, ii a0.f_i, ii a0.f_names, ii a0.f_nest, .bool a0.f_counts, .bool a0.f_full] 80 ∧ Row T_api_Token.rep (fun b_ => o_ b_ = 0) (fun b_ => o_ b_ = 0) w_ pA0_1 a0.f_l ∧ Bk o_ w_ 3 pb0_0 [pv0_0_0, .map (some pb0_0_1)] 56 ∧ Own T_api_Node.rep 60 4 o_ w_ pv0_0_0 a0_0.f_rows ∧ Mp (fun x_ : T_api_Node => Value.agg #[ii x_.f_Kind, encS x_.f_Name, ii x_.f_L, ii x_.f_R]) (fun v_ : Int => ii v_) 5 o_ w_ pb0_0_1 a0_0_1 ∧ Bk o_ w_ 40 b101 [ii (0 : Int), encS ([] : List UInt8), ii (0 : Int), ii (0 : Int), ii (0 : Int), ii (0 : Int)] 76 ∧ Bk o_ w_ 41 b110 [ii z106.f_Kind, encS z106.f_Text, ii z106.f_Int, ii z106.f_At.f_Line, ii z106.f_At.f_Col, ii z106.f_At.f_Off] 76 ∧ ρ_ 0 = pp pb0 0 ∧ ρ_ 2 = pp b101 0 ∧ ρ_ 3 = pp b110 0 ∧ z142 = .inr ()) ?case143 ?_
   case case143 =>
    rintro ρ146 w144 ⟨o145, HF, hB0, hra0_1, hB0_0, hO0_0_0, hM0_0_1, hB105, hB117, s0_141, s2_141, s3_141, rfl⟩
    replace H : _ = some _ := H
    dsimp only at H
    refine WC.region <|
     E rfl (mv (pp pb0 0) s0_141) <|
     E rfl (ex_nilCheck rfl) <|
     E rfl (ex_fieldAddr rfl U80 rfl sz3) <|
     E rfl (ex_load1 rfl U3 rfl (hB0.cell rfl)) <|
     E rfl (e2 bin_add64 rfl rfl) <|
     E rfl (ex_nilCheck rfl) <|
     E rfl (ex_fieldAddr rfl U80 rfl sz3) <|
     WL.op rfl <|
     OW.store [pp pb0_0 0, .slice pA0_1 a0.f_l.length pc0_1, ii a0.f_i, ii (wrap64 (a0.f_names + 1)), ii a0.f_nest, .bool a0.f_counts, .bool a0.f_full] rfl (vs := [ii (wrap64 (a0.f_names + 1))]) rfl sz3 hB0 (Nat.le_of_ble_eq_true rfl) (oa rfl) rfl ?_
    intro w147 s148 hB149
    refine WL.nil ?_
    obtain rfl := Option.some.inj H
    replace hra0_1 := hra0_1.step s148 rfl
    replace hB0_0 := hB0_0.step s148 rfl
    replace hO0_0_0 := hO0_0_0.step s148 rfl rfl
    replace hM0_0_1 := hM0_0_1.step s148 rfl
    replace hB105 := hB105.step s148 rfl
    replace hB117 := hB117.step s148 rfl
    replace HF := HF.step s148 rfl
    exact ⟨_, (⟨a0.f_l, a0.f_i, wrap64 (a0.f_names + 1), a0.f_nest, a0.f_counts, a0.f_full⟩ : T_syntax_reader), _, _, HF, hB149, hra0_1, hla0_1, hB0_0, hO0_0_0, hM0_0_1, hB105, hB117, s0_141, s2_141, s3_141, rfl⟩
   have Ho150 := H
   replace H := hz142
   refine WC.seq <|
    WC.region <|
    E rfl (mv (pp pb0 0) s0_134) <|
    E rfl (ex_nilCheck rfl) <|
    E rfl (ex_fieldAddr rfl U80 rfl sz3) <|
    E rfl (ex_load1 rfl U3 rfl (hB0.cell rfl)) <|
    E rfl (e2 bin_eql rfl rfl) <|
    WL.nil ?_
   rcases condE H with ⟨c151, H⟩ | ⟨c151, H⟩
   ·
    refine WC.cond_t (vb c151 rfl) <|
     WC.region <|
     E rfl (mv (pp pb0 0) s0_134) ?_
    obtain ⟨z152, hz152, H⟩ := bindE H
    refine WL.op rfl <|
     OW.callP [pp pb0 0, ii 40] rfl Tryz.func34 (by kernel_rfl) (by kernel_rfl) (map_cons' rfl (map_cons' rfl rfl)) (syntax_reader_fail.calls _ _ pb0 pA0_1 pc0_1 pb0_0 pv0_0_0 pb0_0_1 (a0 := a0) (a0_0 := a0_0) hz152 (HF.ten (V := [0]) (L := [2, 3, 4, 5]) rfl) (Bk.vw hB0 rfl) (Row.vw hra0_1 rfl) hla0_1 (Bk.vw hB0_0 rfl) (Own.vw hO0_0_0 rfl rfl) (Mp.vw hM0_0_1 rfl)) ?_
    rintro _ w153 ⟨o154, (⟨p155, rfl, rfl, s157⟩ | ⟨q156, rfl, rfl, s158⟩)⟩
    ·
     refine Or.inr ⟨_, rfl, ?_⟩
     dsimp only at H
     replace s157 := un_stepL (J := []) (L' := []) s157 rfl rfl
     obtain rfl := Option.some.inj H
     replace H := Ho150
     dsimp only at H
     obtain rfl := Option.some.inj H
     replace H := Ho134
     dsimp only at H
     obtain rfl := Option.some.inj H
     replace hB0 := hB0.step s157 rfl
     replace hra0_1 := hra0_1.step s157 rfl
     replace HF := HF.step s157 rfl
     exact ⟨_, Or.inl ⟨_, rfl, pA0_1, pc0_1, rfl, HF.out, hB0, hla0_1, hra0_1⟩⟩
    ·
     refine Or.inl ⟨_, rfl, ?_⟩
     dsimp only at H
     replace s158 := un_stepL (J := []) (L' := []) s158 rfl rfl
     refine WL.nil ?_
     obtain rfl := Option.some.inj H
     replace hB0 := hB0.step s158 rfl
     replace hra0_1 := hra0_1.step s158 rfl
     replace hB0_0 := hB0_0.step s158 rfl
     replace hO0_0_0 := hO0_0_0.step s158 rfl rfl
     replace hM0_0_1 := hM0_0_1.step s158 rfl
     replace hB105 := hB105.step s158 rfl
     replace hB117 := hB117.step s158 rfl
     replace HF := HF.step s158 rfl
     exact ⟨_, HF, hB0, hra0_1, hB0_0, hO0_0_0, hM0_0_1, hB105, hB117, s0_134, s2_134, s3_134, rfl⟩
   ·
    refine WC.cond_f (vb c151 rfl) <|
     WC.skip ?_
    obtain rfl := Option.some.inj H
    exact ⟨_, HF, hB0, hra0_1, hB0_0, hO0_0_0, hM0_0_1, hB105, hB117, s0_134, s2_134, s3_134, rfl⟩
  ·
   refine WC.cond_f (vb c141 s13_135) <|
    WC.skip ?_
   obtain rfl := Option.some.inj H
   exact ⟨_, a0, _, _, HF, hB0, hra0_1, hla0_1, hB0_0, hO0_0_0, hM0_0_1, hB105, hB117, s0_134, s2_134, s3_134, rfl⟩
 have Ho159 := H
 replace H := hz136
 refine WC.region <|
  E rfl (ex_loadN (cs := [ii z106.f_Kind, encS z106.f_Text, ii z106.f_Int, ii z106.f_At.f_Line, ii z106.f_At.f_Col, ii z106.f_At.f_Off]) rfl U76 rfl sz76 (hB117.cells rfl)) ?_
 obtain ⟨z160, hz160, H⟩ := bindE H
 refine WL.op rfl ?_
 have k113_116 := s113.t s116
 replace HF := HF.step k113_116 rfl
 refine OW.call [.agg #[ii z106.f_Kind, encS z106.f_Text, ii z106.f_Int, ii z106.f_At.f_Line, ii z106.f_At.f_Col, ii z106.f_At.f_Off]] rfl Tryz.func29 (by kernel_rfl) (by kernel_rfl) (map_cons' rfl rfl) (syntax_counted.calls _ _ (a0 := z106) hz160 (HF.ten (V := [0]) (L := []) rfl) ) ?_
 rintro _ w161 ⟨o162, rfl, s163⟩
 refine ⟨_, rfl, ?_⟩
 replace s163 := un_stepL (J := []) (L' := []) s163 rfl rfl
 refine E rfl (mv (.bool z160) rfl) ?_
 rcases condE H with ⟨c164, H⟩ | ⟨c164, H⟩
 ·
  refine WL.guardYes rfl rfl rfl (vb c164 rfl) <|
   OW.ex rfl (mv (pp pb0 0) rfl) <|
   WL.guardYes rfl rfl rfl (vb c164 rfl) <|
   OW.ex rfl (ex_nilCheck rfl) <|
   WL.guardYes rfl rfl rfl (vb c164 rfl) <|
   OW.ex rfl (ex_fieldAddr rfl U80 rfl sz4) <|
   WL.guardYes rfl rfl rfl (vb c164 rfl) ?_
  have k109_163 := ((s109.t s113).t s116).t s163
  replace hB0 := hB0.step k109_163 rfl
  refine OW.ex rfl (ex_load1 rfl U4 rfl (hB0.cell rfl)) <|
   E rfl (ex_pick_t (v := .bool a0.f_counts) (vb c164 rfl) rfl) <|
   WL.nil ?_
  obtain rfl := Option.some.inj H
  replace hB117 := hB117.step s163 rfl
  replace HF := HF.step s163 rfl
  replace hra0_1 := hra0_1.step k109_163 rfl
  replace hO0_0_0 := hO0_0_0.step k109_163 rfl rfl
  replace hB0_0 := hB0_0.step k109_163 rfl
  replace hM0_0_1 := hM0_0_1.step k109_163 rfl
  replace hB105 := hB105.step k109_163 rfl
  exact ⟨_, HF, hB0, hra0_1, hB0_0, hO0_0_0, hM0_0_1, hB105, hB117, rfl, rfl, rfl, rfl⟩
 ·
  refine WL.guardNo rfl rfl rfl (vb c164 rfl) <|
   WL.guardNo rfl rfl rfl (vb c164 rfl) <|
   WL.guardNo rfl rfl rfl (vb c164 rfl) <|
   WL.guardNo rfl rfl rfl (vb c164 rfl) <|
   E rfl (ex_pick_f (v := .bool false) (vb c164 rfl) rfl) <|
   WL.nil ?_
  obtain rfl := Option.some.inj H
  replace hB117 := hB117.step s163 rfl
  replace HF := HF.step s163 rfl
  have k109_163 := ((s109.t s113).t s116).t s163
  replace hra0_1 := hra0_1.step k109_163 rfl
  replace hB0 := hB0.step k109_163 rfl
  replace hO0_0_0 := hO0_0_0.step k109_163 rfl rfl
  replace hB0_0 := hB0_0.step k109_163 rfl
  replace hM0_0_1 := hM0_0_1.step k109_163 rfl
  replace hB105 := hB105.step k109_163 rfl
  exact ⟨_, HF, hB0, hra0_1, hB0_0, hO0_0_0, hM0_0_1, hB105, hB117, rfl, rfl, rfl, rfl⟩

/-! ### syntax_reader_sign -/
set_option maxRecDepth 100000 in
theorem syntax_reader_sign.calls (o0 : Tags) (w0 : World) (pb0 : Nat) (pA0_1 : Option Addr) (pc0_1 : Nat) (pb0_0 : Nat) (pv0_0_0 : Value) (pb0_0_1 : Nat) {a0 : T_syntax_reader} {a1 : List UInt8} {a0_0 : T_formula_Table} {a0_0_1 : (List (T_api_Node × Int))} {r : Exn (T_syntax_broken × T_syntax_reader) (Bool × T_syntax_reader)} (H : syntax_reader_sign.f a0 a1 a0_0 a0_0_1 = some r) (hO : ∀ b, b < w0.heap.size → o0 b < 40) (hB0 : Bk o0 w0 2 pb0 [pp pb0_0 0, .slice pA0_1 a0.f_l.length pc0_1, ii a0.f_i, ii a0.f_names, ii a0.f_nest, .bool a0.f_counts, .bool a0.f_full] 80) (hra0_1 : Row T_api_Token.rep (fun b_ => o0 b_ = 0) (fun b_ => o0 b_ = 0) w0 pA0_1 a0.f_l) (hla0_1 : a0.f_l.length ≤ pc0_1) (hB0_0 : Bk o0 w0 3 pb0_0 [pv0_0_0, .map (some pb0_0_1)] 56) (hO0_0_0 : Own T_api_Node.rep 60 4 o0 w0 pv0_0_0 a0_0.f_rows) (hM0_0_1 : Mp (fun x_ : T_api_Node => Value.agg #[ii x_.f_Kind, encS x_.f_Name, ii x_.f_L, ii x_.f_R]) (fun v_ : Int => ii v_) 5 o0 w0 pb0_0_1 a0_0_1) :
  Calls Tryz.prog 58 [pp pb0 0, encS a1].toArray w0 fun e_ w_ => ∃ (o_ : Tags), ((∃ p_, r = .ex p_ ∧ ∃ (B_0_1 : Option Addr) (d_0_1 : Nat), e_ = .panicked (pc (.iface 111 (.agg #[ii p_.1.f_f.f_Code, ii p_.1.f_f.f_At.f_Line, ii p_.1.f_f.f_At.f_Col, ii p_.1.f_f.f_At.f_Off]))) ∧ Step o0 w0 o_ w_ [2] ∧ Bk o_ w_ 2 pb0 [pp pb0_0 0, .slice B_0_1 p_.2.f_l.length d_0_1, ii p_.2.f_i, ii p_.2.f_names, ii p_.2.f_nest, .bool p_.2.f_counts, .bool p_.2.f_full] 80 ∧ p_.2.f_l.length ≤ d_0_1 ∧ Row T_api_Token.rep (fun b_ => o_ b_ = 0) (fun b_ => o_ b_ = 0) w_ B_0_1 p_.2.f_l) ∨ ∃ q_, r = .ok q_ ∧ ∃ (B_0_1 : Option Addr) (d_0_1 : Nat), e_ = .returned (one [.bool q_.1]) ∧ Step o0 w0 o_ w_ [2] ∧ Bk o_ w_ 2 pb0 [pp pb0_0 0, .slice B_0_1 q_.2.f_l.length d_0_1, ii q_.2.f_i, ii q_.2.f_names, ii q_.2.f_nest, .bool q_.2.f_counts, .bool q_.2.f_full] 80 ∧ q_.2.f_l.length ≤ d_0_1 ∧ Row T_api_Token.rep (fun b_ => o_ b_ = 0) (fun b_ => o_ b_ = 0) w_ B_0_1 q_.2.f_l) := by
 have HF := Fm.refl hO [2]
 unfold syntax_reader_sign.f at H
 refine SX.calls [pp pb0 0, encS a1] Tryz.func58 rfl rfl ?_
 rw [Tryz.ntmps58]
 refine WC.seq <|
  WC.region <|
  E rfl (sg (.bool false) rfl) <|
  WL.nil <|
  WC.seq <|
  WC.region <|
  E rfl (mv (pp pb0 0) rfl) ?_
 obtain ⟨z101, hz101, H⟩ := bindE H
 refine WL.op rfl <|
  OW.call [pp pb0 0] rfl Tryz.func33 (by kernel_rfl) (by kernel_rfl) (map_cons' rfl rfl) (syntax_reader_now.calls _ _ pb0 pA0_1 pc0_1 pb0_0 pv0_0_0 pb0_0_1 (a0 := a0) (a0_0 := a0_0) hz101 (HF.ten (V := [0]) (L := [2, 3, 4, 5]) rfl) (Bk.vw hB0 rfl) (Row.vw hra0_1 rfl) hla0_1 (Bk.vw hB0_0 rfl) (Own.vw hO0_0_0 rfl rfl) (Mp.vw hM0_0_1 rfl)) ?_
 rintro _ w102 ⟨o103, rfl, s104⟩
 refine ⟨_, rfl, ?_⟩
 replace s104 := un_stepL (J := []) (L' := []) s104 rfl rfl
 refine WL.op rfl ?_
 replace HF := HF.step s104 rfl
 refine OW.alloc' [ii (0 : Int), encS ([] : List UInt8), ii (0 : Int), ii (0 : Int), ii (0 : Int), ii (0 : Int)] 40 HF rfl zr76 rfl ?_
 intro o106 w107 b105 s108 hB109
 refine WL.op rfl <|
  OW.storeW rfl rfl sz76 hB109 rfl (oa rfl) ?_
 intro w110 s111 hB112
 refine WL.nil <|
  WC.seq ?_
 obtain ⟨z114, hz114, H⟩ := bindE H
 refine WC.cut (fun ρ_ w_ => ∃ (o_ : Tags), Fm o0 w0 o_ w_ [2] ∧ Bk o_ w_ 2 pb0 [pp pb0_0 0, .slice pA0_1 a0.f_l.length pc0_1, ii a0.f_i, ii a0.f_names, ii a0.f_nest, .bool a0.f_counts, .bool a0.f_full] 80 ∧ Row T_api_Token.rep (fun b_ => o_ b_ = 0) (fun b_ => o_ b_ = 0) w_ pA0_1 a0.f_l ∧ Bk o_ w_ 3 pb0_0 [pv0_0_0, .map (some pb0_0_1)] 56 ∧ Own T_api_Node.rep 60 4 o_ w_ pv0_0_0 a0_0.f_rows ∧ Mp (fun x_ : T_api_Node => Value.agg #[ii x_.f_Kind, encS x_.f_Name, ii x_.f_L, ii x_.f_R]) (fun v_ : Int => ii v_) 5 o_ w_ pb0_0_1 a0_0_1 ∧ ρ_ 0 = pp pb0 0 ∧ ρ_ 4 = .bool false ∧ ρ_ 16 = .bool z114) ?case115 ?_
 case case115 =>
  rintro ρ118 w116 ⟨o117, HF, hB0, hra0_1, hB0_0, hO0_0_0, hM0_0_1, s0_112, s4_112, s16_113⟩
  rcases condE H with ⟨c119, H⟩ | ⟨c119, H⟩
  ·
   refine WC.cond_t (vb c119 s16_113) <|
    WC.seq <|
    WC.region <|
    E rfl (sg (.bool false) rfl) <|
    WL.nil <|
    WC.ret ?_
   obtain rfl := Option.some.inj H
   exact ⟨_, (.tmp _ rfl .nil), _, Or.inr ⟨_, rfl, pA0_1, pc0_1, rfl, HF.out, hB0, hla0_1, hra0_1⟩⟩
  ·
   refine WC.cond_f (vb c119 s16_113) <|
    WC.skip <|
    WC.seq <|
    WC.region <|
    E rfl (mv (pp pb0 0) s0_112) ?_
   obtain ⟨z120, hz120, H⟩ := bindE H
   refine WL.op rfl <|
    OW.callP [pp pb0 0] rfl Tryz.func81 (by kernel_rfl) (by kernel_rfl) (map_cons' rfl rfl) (syntax_reader_take.calls _ _ pb0 pA0_1 pc0_1 pb0_0 pv0_0_0 pb0_0_1 (a0 := a0) (a0_0 := a0_0) hz120 (HF.ten (V := [0]) (L := [2, 3, 4, 5]) rfl) (Bk.vw hB0 rfl) (Row.vw hra0_1 rfl) hla0_1 (Bk.vw hB0_0 rfl) (Own.vw hO0_0_0 rfl rfl) (Mp.vw hM0_0_1 rfl)) ?_
   rintro _ w121 ⟨o122, (⟨p123, rfl, A128, c129, rfl, s125, hB127, hl130, hr131⟩ | ⟨q124, rfl, A133, c134, rfl, s126, hB132, hl135, hr136⟩)⟩
   ·
    refine Or.inr ⟨_, rfl, ?_⟩
    dsimp only at H
    replace hB127 := Bk.unO (J := []) 0 hB127 s125 rfl rfl rfl
    replace hr131 := hr131.un (J := []) s125
    replace s125 := un_stepL (J := []) (L' := [2]) s125 rfl rfl
    obtain rfl := Option.some.inj H
    replace HF := HF.step s125 rfl
    exact ⟨_, Or.inl ⟨_, rfl, A128, c129, rfl, HF.out, hB127, hl130, hr131⟩⟩
   ·
    refine Or.inl ⟨_, rfl, ?_⟩
    dsimp only at H
    replace hB132 := Bk.unO (J := []) 0 hB132 s126 rfl rfl rfl
    replace hr136 := hr136.un (J := []) s126
    replace s126 := un_stepL (J := []) (L' := [2]) s126 rfl rfl
    refine WL.nil <|
     WC.seq <|
     WC.region <|
     E rfl (sg (.bool true) rfl) <|
     WL.nil <|
     WC.ret ?_
    obtain rfl := Option.some.inj H
    replace HF := HF.step s126 rfl
    exact ⟨_, (.tmp _ rfl .nil), _, Or.inr ⟨_, rfl, A133, c134, rfl, HF.out, hB132, hl135, hr136⟩⟩
 have Ho137 := H
 replace H := hz114
 refine WC.region <|
  E rfl (ex_fieldAddr rfl U76 rfl sz74) <|
  E rfl (ex_load1 rfl U74 rfl (hB112.cell rfl)) <|
  E rfl (e2 bin_neq rfl rfl) <|
  E rfl (mv (.bool (z101.f_Kind != 3)) rfl) ?_
 rcases condE H with ⟨c138, H⟩ | ⟨c138, H⟩
 ·
  refine WL.guardNo rfl rfl rfl (vb c138 rfl) <|
   WL.guardNo rfl rfl rfl (vb c138 rfl) <|
   WL.guardNo rfl rfl rfl (vb c138 rfl) <|
   WL.guardNo rfl rfl rfl (vb c138 rfl) <|
   E rfl (ex_pick_t (v := .bool true) (vb c138 rfl) rfl) <|
   WL.nil ?_
  obtain rfl := Option.some.inj H
  have k108_111 := s108.t s111
  replace HF := HF.step k108_111 rfl
  have k104_111 := s104.t k108_111
  replace hra0_1 := hra0_1.step k104_111 rfl
  replace hB0 := hB0.step k104_111 rfl
  replace hO0_0_0 := hO0_0_0.step k104_111 rfl rfl
  replace hB0_0 := hB0_0.step k104_111 rfl
  replace hM0_0_1 := hM0_0_1.step k104_111 rfl
  exact ⟨_, HF, hB0, hra0_1, hB0_0, hO0_0_0, hM0_0_1, rfl, rfl, rfl⟩
 ·
  refine WL.guardYes rfl rfl rfl (vb c138 rfl) <|
   OW.ex rfl (ex_fieldAddr rfl U76 rfl sz9) <|
   WL.guardYes rfl rfl rfl (vb c138 rfl) <|
   OW.ex rfl (ex_load1 rfl U9 rfl (hB112.cell rfl)) <|
   WL.guardYes rfl rfl rfl (vb c138 rfl) <|
   OW.ex rfl (mv (encS a1) rfl) <|
   WL.guardYes rfl rfl rfl (vb c138 rfl) <|
   OW.ex rfl (e2 bin_neq_str rfl rfl) <|
   E rfl (ex_pick_f (v := .bool (!(z101.f_Text == a1))) (vb c138 rfl) rfl) <|
   WL.nil ?_
  obtain rfl := Option.some.inj H
  have k108_111 := s108.t s111
  replace HF := HF.step k108_111 rfl
  have k104_111 := s104.t k108_111
  replace hra0_1 := hra0_1.step k104_111 rfl
  replace hB0 := hB0.step k104_111 rfl
  replace hO0_0_0 := hO0_0_0.step k104_111 rfl rfl
  replace hB0_0 := hB0_0.step k104_111 rfl
  replace hM0_0_1 := hM0_0_1.step k104_111 rfl
  exact ⟨_, HF, hB0, hra0_1, hB0_0, hO0_0_0, hM0_0_1, rfl, rfl, rfl⟩

/-! ### syntax_reader_put -/
set_option maxRecDepth 100000 in
theorem syntax_reader_put.calls (o0 : Tags) (w0 : World) (pb0 : Nat) (pA0_1 : Option Addr) (pc0_1 : Nat) (pb0_0 : Nat) (pv0_0_0 : Value) (pb0_0_1 : Nat) {a0 : T_syntax_reader} {a1 : Int} {a2 : Int} {a0_0 : T_formula_Table} {a0_0_1 : (List (T_api_Node × Int))} {r : Int × T_syntax_reader} (H : syntax_reader_put.f a0 a1 a2 a0_0 a0_0_1 = some r) (hO : ∀ b, b < w0.heap.size → o0 b < 40) (hB0 : Bk o0 w0 2 pb0 [pp pb0_0 0, .slice pA0_1 a0.f_l.length pc0_1, ii a0.f_i, ii a0.f_names, ii a0.f_nest, .bool a0.f_counts, .bool a0.f_full] 80) (hra0_1 : Row T_api_Token.rep (fun b_ => o0 b_ = 0) (fun b_ => o0 b_ = 0) w0 pA0_1 a0.f_l) (hla0_1 : a0.f_l.length ≤ pc0_1) (hB0_0 : Bk o0 w0 3 pb0_0 [pv0_0_0, .map (some pb0_0_1)] 56) (hO0_0_0 : Own T_api_Node.rep 60 4 o0 w0 pv0_0_0 a0_0.f_rows) (hM0_0_1 : Mp (fun x_ : T_api_Node => Value.agg #[ii x_.f_Kind, encS x_.f_Name, ii x_.f_L, ii x_.f_R]) (fun v_ : Int => ii v_) 5 o0 w0 pb0_0_1 a0_0_1) :
  Calls Tryz.prog 82 [pp pb0 0, ii a1, ii a2].toArray w0 fun e_ w_ => ∃ (o_ : Tags) (B_0_1 : Option Addr) (d_0_1 : Nat), e_ = .returned (one [ii r.1]) ∧ Step o0 w0 o_ w_ [2] ∧ Bk o_ w_ 2 pb0 [pp pb0_0 0, .slice B_0_1 r.2.f_l.length d_0_1, ii r.2.f_i, ii r.2.f_names, ii r.2.f_nest, .bool r.2.f_counts, .bool r.2.f_full] 80 ∧ r.2.f_l.length ≤ d_0_1 ∧ Row T_api_Token.rep (fun b_ => o_ b_ = 0) (fun b_ => o_ b_ = 0) w_ B_0_1 r.2.f_l := by
 have HF := Fm.refl hO [2]
 unfold syntax_reader_put.f at H
 refine SX.calls [pp pb0 0, ii a1, ii a2] Tryz.func82 rfl rfl ?_
 rw [Tryz.ntmps82]
 refine WC.seq <|
  WC.region <|
  E rfl (sg (ii 0) rfl) <|
  WL.nil <|
  WC.seq <|
  WC.region <|
  E rfl (mv (pp pb0 0) rfl) <|
  E rfl (mv (pp pb0 0) rfl) <|
  E rfl (ex_nilCheck rfl) <|
  E rfl (ex_fieldAddr rfl U80 rfl sz4) <|
  E rfl (ex_load1 rfl U4 rfl (hB0.cell rfl)) <|
  E rfl (mv (.bool a0.f_full) rfl) ?_
 rcases condE H with ⟨c101, H⟩ | ⟨c101, H⟩
 ·
  refine WL.guardNo rfl rfl rfl (vb c101 rfl) <|
   WL.guardNo rfl rfl rfl (vb c101 rfl) <|
   E rfl (ex_pick_t (v := .bool true) (vb c101 rfl) rfl) <|
   E rfl (ex_nilCheck rfl) <|
   E rfl (ex_fieldAddr rfl U80 rfl sz4) <|
   WL.op rfl <|
   OW.store [pp pb0_0 0, .slice pA0_1 a0.f_l.length pc0_1, ii a0.f_i, ii a0.f_names, ii a0.f_nest, .bool a0.f_counts, .bool true] rfl (vs := [.bool true]) rfl sz4 hB0 (Nat.le_of_ble_eq_true rfl) (oa rfl) rfl ?_
  intro w102 s103 hB104
  refine WL.nil <|
   WC.seq <|
   WC.region <|
   E rfl (mv (ii a1) rfl) <|
   E rfl (sg (ii a1) rfl) <|
   WL.nil <|
   WC.ret ?_
  obtain rfl := Option.some.inj H
  replace hra0_1 := hra0_1.step s103 rfl
  replace HF := HF.step s103 rfl
  exact ⟨_, (.tmp _ rfl .nil), _, pA0_1, pc0_1, rfl, HF.out, hB104, hla0_1, hra0_1⟩
 ·
  refine WL.guardYes rfl rfl rfl (vb c101 rfl) <|
   OW.ex rfl (mv (ii a2) rfl) <|
   WL.guardYes rfl rfl rfl (vb c101 rfl) <|
   OW.ex rfl (e2 bin_eql rfl rfl) <|
   E rfl (ex_pick_f (v := .bool (a2 == 30)) (vb c101 rfl) rfl) <|
   E rfl (ex_nilCheck rfl) <|
   E rfl (ex_fieldAddr rfl U80 rfl sz4) <|
   WL.op rfl <|
   OW.store [pp pb0_0 0, .slice pA0_1 a0.f_l.length pc0_1, ii a0.f_i, ii a0.f_names, ii a0.f_nest, .bool a0.f_counts, .bool (a2 == 30)] rfl (vs := [.bool (a2 == 30)]) rfl sz4 hB0 (Nat.le_of_ble_eq_true rfl) (oa rfl) rfl ?_
  intro w105 s106 hB107
  refine WL.nil <|
   WC.seq <|
   WC.region <|
   E rfl (mv (ii a1) rfl) <|
   E rfl (sg (ii a1) rfl) <|
   WL.nil <|
   WC.ret ?_
  obtain rfl := Option.some.inj H
  replace hra0_1 := hra0_1.step s106 rfl
  replace HF := HF.step s106 rfl
  exact ⟨_, (.tmp _ rfl .nil), _, pA0_1, pc0_1, rfl, HF.out, hB107, hla0_1, hra0_1⟩

/-! ### syntax_reader_node -/
set_option maxRecDepth 100000 in
theorem syntax_reader_node.calls (k : Nat) (o0 : Tags) (w0 : World) (pb0 : Nat) (pA0_1 : Option Addr) (pc0_1 : Nat) (pb0_0 : Nat) (pv0_0_0 : Value) (pb0_0_1 : Nat) {a0 : T_syntax_reader} {a1 : Int} {a2 : List UInt8} {a3 : Int} {a4 : Int} {a0_0 : T_formula_Table} {a0_0_1 : (List (T_api_Node × Int))} {r : Int × T_syntax_reader × T_formula_Table × (List (T_api_Node × Int))} (H : syntax_reader_node.f k a0 a1 a2 a3 a4 a0_0 a0_0_1 = some r) (hO : ∀ b, b < w0.heap.size → o0 b < 40) (hB0 : Bk o0 w0 2 pb0 [pp pb0_0 0, .slice pA0_1 a0.f_l.length pc0_1, ii a0.f_i, ii a0.f_names, ii a0.f_nest, .bool a0.f_counts, .bool a0.f_full] 80) (hra0_1 : Row T_api_Token.rep (fun b_ => o0 b_ = 0) (fun b_ => o0 b_ = 0) w0 pA0_1 a0.f_l) (hla0_1 : a0.f_l.length ≤ pc0_1) (hB0_0 : Bk o0 w0 3 pb0_0 [pv0_0_0, .map (some pb0_0_1)] 56) (hO0_0_0 : Own T_api_Node.rep 60 4 o0 w0 pv0_0_0 a0_0.f_rows) (hM0_0_1 : Mp (fun x_ : T_api_Node => Value.agg #[ii x_.f_Kind, encS x_.f_Name, ii x_.f_L, ii x_.f_R]) (fun v_ : Int => ii v_) 5 o0 w0 pb0_0_1 a0_0_1) :
  Calls Tryz.prog 59 [pp pb0 0, ii a1, encS a2, ii a3, ii a4].toArray w0 fun e_ w_ => ∃ (o_ : Tags) (B_0_1 : Option Addr) (d_0_1 : Nat) (u5_0 : Value), e_ = .returned (one [ii r.1]) ∧ Step o0 w0 o_ w_ [2, 3, 4, 5] ∧ Bk o_ w_ 2 pb0 [pp pb0_0 0, .slice B_0_1 r.2.1.f_l.length d_0_1, ii r.2.1.f_i, ii r.2.1.f_names, ii r.2.1.f_nest, .bool r.2.1.f_counts, .bool r.2.1.f_full] 80 ∧ r.2.1.f_l.length ≤ d_0_1 ∧ Row T_api_Token.rep (fun b_ => o_ b_ = 0) (fun b_ => o_ b_ = 0) w_ B_0_1 r.2.1.f_l ∧ Bk o_ w_ 3 pb0_0 [u5_0, .map (some pb0_0_1)] 56 ∧ Own T_api_Node.rep 60 4 o_ w_ u5_0 r.2.2.1.f_rows ∧ Mp (fun x_ : T_api_Node => Value.agg #[ii x_.f_Kind, encS x_.f_Name, ii x_.f_L, ii x_.f_R]) (fun v_ : Int => ii v_) 5 o_ w_ pb0_0_1 r.2.2.2 := by
 have HF := Fm.refl hO [2, 3, 4, 5]
 unfold syntax_reader_node.f at H
 refine SX.calls [pp pb0 0, ii a1, encS a2, ii a3, ii a4] Tryz.func59 rfl rfl ?_
 rw [Tryz.ntmps59]
 refine WC.seq <|
  WC.region <|
  E rfl (sg (ii 0) rfl) <|
  WL.nil <|
  WC.seq <|
  WC.seq <|
  WC.region <|
  E rfl (mv (pp pb0 0) rfl) <|
  E rfl (ex_nilCheck rfl) <|
  E rfl (ex_fieldAddr rfl U80 rfl sz4) <|
  E rfl (ex_load1 rfl U4 rfl (hB0.cell rfl)) <|
  WL.nil ?_
 rcases condE H with ⟨c101, H⟩ | ⟨c101, H⟩
 ·
  refine WC.cond_t (vb c101 rfl) <|
   WC.seq <|
   WC.region <|
   E rfl (sg (ii 0) rfl) <|
   WL.nil <|
   WC.ret ?_
  obtain rfl := Option.some.inj H
  exact ⟨_, (.tmp _ rfl .nil), _, pA0_1, pc0_1, pv0_0_0, rfl, HF.out, hB0, hla0_1, hra0_1, hB0_0, hO0_0_0, hM0_0_1⟩
 ·
  refine WC.cond_f (vb c101 rfl) <|
   WC.skip <|
   WC.seq <|
   WC.region <|
   E rfl (mv (pp pb0 0) rfl) <|
   E rfl (mv (pp pb0 0) rfl) <|
   E rfl (ex_nilCheck rfl) <|
   E rfl (ex_fieldAddr rfl U80 rfl sz23) <|
   E rfl (ex_load1 rfl U23 rfl (hB0.cell rfl)) <|
   E rfl (mv (ii a1) rfl) <|
   E rfl (mv (encS a2) rfl) <|
   E rfl (mv (ii a3) rfl) <|
   E rfl (mv (ii a4) rfl) <|
   E rfl (ex_build (cs := [ii a1, encS a2, ii a3, ii a4]) [(0, 1), (1, 1), (2, 1), (3, 1)] [(0, ii a1), (1, encS a2), (2, ii a3), (3, ii a4)] [ii 0, .string ⟨#[]⟩, ii 0, ii 0] U60 zr60 rfl (by kernel_rfl) (evs_cons rfl (evs_cons rfl (evs_cons rfl (evs_cons rfl rfl)))) rfl) ?_
  obtain ⟨z102, hz102, H⟩ := bindE H
  refine WL.op rfl <|
   OW.call [pp pb0_0 0, .agg #[ii a1, encS a2, ii a3, ii a4]] rfl Tryz.func72 (by kernel_rfl) (by kernel_rfl) (map_cons' rfl (map_cons' rfl rfl)) (formula_Table_Put.calls k _ _ pb0_0 pv0_0_0 pb0_0_1 (a0 := a0_0) (a1 := (⟨a1, a2, a3, a4⟩ : T_api_Node)) hz102 (HF.ten (V := [0]) (L := [3, 4, 5]) rfl) (Bk.vw hB0_0 rfl) (Own.vw hO0_0_0 rfl rfl) (Mp.vw hM0_0_1 rfl)) ?_
  rintro _ w103 ⟨o104, v107, rfl, s105, hB106, hO108, hM109⟩
  refine ⟨_, rfl, ?_⟩
  replace hB106 := Bk.unO (J := []) 0 hB106 s105 rfl rfl rfl
  replace hO108 := Own.unO (J := []) 1 hO108 s105 rfl rfl rfl
  replace hM109 := Mp.unO (J := []) 2 hM109 s105 rfl rfl rfl
  replace s105 := un_stepL (J := []) (L' := [3, 4, 5]) s105 rfl rfl
  refine E rfl (ex_extract rfl rfl) <|
   E rfl (ex_extract rfl rfl) ?_
  obtain ⟨z110, hz110, H⟩ := bindE H
  refine WL.op rfl ?_
  replace hra0_1 := hra0_1.step s105 rfl
  replace hB0 := hB0.step s105 rfl
  replace HF := HF.step s105 rfl
  refine OW.call [pp pb0 0, ii z102.1, ii z102.2.1] rfl Tryz.func82 (by kernel_rfl) (by kernel_rfl) (map_cons' rfl (map_cons' rfl (map_cons' rfl rfl))) (syntax_reader_put.calls _ _ pb0 pA0_1 pc0_1 pb0_0 v107 pb0_0_1 (a0 := a0) (a0_0 := z102.2.2.1) hz110 (HF.ten (V := [0]) (L := [2, 3, 4, 5]) rfl) (Bk.vw hB0 rfl) (Row.vw hra0_1 rfl) hla0_1 (Bk.vw hB106 rfl) (Own.vw hO108 rfl rfl) (Mp.vw hM109 rfl)) ?_
  rintro _ w111 ⟨o112, A115, c116, rfl, s113, hB114, hl117, hr118⟩
  refine ⟨_, rfl, ?_⟩
  replace hB114 := Bk.unO (J := []) 0 hB114 s113 rfl rfl rfl
  replace hr118 := hr118.un (J := []) s113
  replace s113 := un_stepL (J := []) (L' := [2]) s113 rfl rfl
  refine E rfl (sg (ii z110.1) rfl) <|
   WL.nil <|
   WC.ret ?_
  obtain rfl := Option.some.inj H
  replace hB106 := hB106.step s113 rfl
  replace hO108 := hO108.step s113 rfl rfl
  replace hM109 := hM109.step s113 rfl
  replace HF := HF.step s113 rfl
  exact ⟨_, (.tmp _ rfl .nil), _, A115, c116, v107, rfl, HF.out, hB114, hl117, hr118, hB106, hO108, hM109⟩

def syntax_reader_formula.Spec (g_ : T_syntax_reader → T_formula_Table → (List (T_api_Node × Int)) → Option (Exn (T_syntax_broken × T_syntax_reader × T_formula_Table × (List (T_api_Node × Int))) (Int × T_syntax_reader × T_formula_Table × (List (T_api_Node × Int))))) : Prop := ∀ (o0 : Tags) (w0 : World) (pb0 : Nat) (pA0_1 : Option Addr) (pc0_1 : Nat) (pb0_0 : Nat) (pv0_0_0 : Value) (pb0_0_1 : Nat) {a0 : T_syntax_reader} {a0_0 : T_formula_Table} {a0_0_1 : (List (T_api_Node × Int))} {r : Exn (T_syntax_broken × T_syntax_reader × T_formula_Table × (List (T_api_Node × Int))) (Int × T_syntax_reader × T_formula_Table × (List (T_api_Node × Int)))} (H : g_ a0 a0_0 a0_0_1 = some r) (hO : ∀ b, b < w0.heap.size → o0 b < 40) (hB0 : Bk o0 w0 2 pb0 [pp pb0_0 0, .slice pA0_1 a0.f_l.length pc0_1, ii a0.f_i, ii a0.f_names, ii a0.f_nest, .bool a0.f_counts, .bool a0.f_full] 80) (hra0_1 : Row T_api_Token.rep (fun b_ => o0 b_ = 0) (fun b_ => o0 b_ = 0) w0 pA0_1 a0.f_l) (hla0_1 : a0.f_l.length ≤ pc0_1) (hB0_0 : Bk o0 w0 3 pb0_0 [pv0_0_0, .map (some pb0_0_1)] 56) (hO0_0_0 : Own T_api_Node.rep 60 4 o0 w0 pv0_0_0 a0_0.f_rows) (hM0_0_1 : Mp (fun x_ : T_api_Node => Value.agg #[ii x_.f_Kind, encS x_.f_Name, ii x_.f_L, ii x_.f_R]) (fun v_ : Int => ii v_) 5 o0 w0 pb0_0_1 a0_0_1),
  Calls Tryz.prog 32 [pp pb0 0].toArray w0 fun e_ w_ => ∃ (o_ : Tags), ((∃ p_, r = .ex p_ ∧ ∃ (B_0_1 : Option Addr) (d_0_1 : Nat) (u1_0 : Value), e_ = .panicked (pc (.iface 111 (.agg #[ii p_.1.f_f.f_Code, ii p_.1.f_f.f_At.f_Line, ii p_.1.f_f.f_At.f_Col, ii p_.1.f_f.f_At.f_Off]))) ∧ Step o0 w0 o_ w_ [2, 3, 4, 5] ∧ Bk o_ w_ 2 pb0 [pp pb0_0 0, .slice B_0_1 p_.2.1.f_l.length d_0_1, ii p_.2.1.f_i, ii p_.2.1.f_names, ii p_.2.1.f_nest, .bool p_.2.1.f_counts, .bool p_.2.1.f_full] 80 ∧ p_.2.1.f_l.length ≤ d_0_1 ∧ Row T_api_Token.rep (fun b_ => o_ b_ = 0) (fun b_ => o_ b_ = 0) w_ B_0_1 p_.2.1.f_l ∧ Bk o_ w_ 3 pb0_0 [u1_0, .map (some pb0_0_1)] 56 ∧ Own T_api_Node.rep 60 4 o_ w_ u1_0 p_.2.2.1.f_rows ∧ Mp (fun x_ : T_api_Node => Value.agg #[ii x_.f_Kind, encS x_.f_Name, ii x_.f_L, ii x_.f_R]) (fun v_ : Int => ii v_) 5 o_ w_ pb0_0_1 p_.2.2.2) ∨ ∃ q_, r = .ok q_ ∧ ∃ (B_0_1 : Option Addr) (d_0_1 : Nat) (u1_0 : Value), e_ = .returned (one [ii q_.1]) ∧ Step o0 w0 o_ w_ [2, 3, 4, 5] ∧ Bk o_ w_ 2 pb0 [pp pb0_0 0, .slice B_0_1 q_.2.1.f_l.length d_0_1, ii q_.2.1.f_i, ii q_.2.1.f_names, ii q_.2.1.f_nest, .bool q_.2.1.f_counts, .bool q_.2.1.f_full] 80 ∧ q_.2.1.f_l.length ≤ d_0_1 ∧ Row T_api_Token.rep (fun b_ => o_ b_ = 0) (fun b_ => o_ b_ = 0) w_ B_0_1 q_.2.1.f_l ∧ Bk o_ w_ 3 pb0_0 [u1_0, .map (some pb0_0_1)] 56 ∧ Own T_api_Node.rep 60 4 o_ w_ u1_0 q_.2.2.1.f_rows ∧ Mp (fun x_ : T_api_Node => Value.agg #[ii x_.f_Kind, encS x_.f_Name, ii x_.f_L, ii x_.f_R]) (fun v_ : Int => ii v_) 5 o_ w_ pb0_0_1 q_.2.2.2)
def syntax_reader_single.Spec (g_ : T_syntax_reader → T_formula_Table → (List (T_api_Node × Int)) → Option (Exn (T_syntax_broken × T_syntax_reader × T_formula_Table × (List (T_api_Node × Int))) (Int × T_syntax_reader × T_formula_Table × (List (T_api_Node × Int))))) : Prop := ∀ (o0 : Tags) (w0 : World) (pb0 : Nat) (pA0_1 : Option Addr) (pc0_1 : Nat) (pb0_0 : Nat) (pv0_0_0 : Value) (pb0_0_1 : Nat) {a0 : T_syntax_reader} {a0_0 : T_formula_Table} {a0_0_1 : (List (T_api_Node × Int))} {r : Exn (T_syntax_broken × T_syntax_reader × T_formula_Table × (List (T_api_Node × Int))) (Int × T_syntax_reader × T_formula_Table × (List (T_api_Node × Int)))} (H : g_ a0 a0_0 a0_0_1 = some r) (hO : ∀ b, b < w0.heap.size → o0 b < 40) (hB0 : Bk o0 w0 2 pb0 [pp pb0_0 0, .slice pA0_1 a0.f_l.length pc0_1, ii a0.f_i, ii a0.f_names, ii a0.f_nest, .bool a0.f_counts, .bool a0.f_full] 80) (hra0_1 : Row T_api_Token.rep (fun b_ => o0 b_ = 0) (fun b_ => o0 b_ = 0) w0 pA0_1 a0.f_l) (hla0_1 : a0.f_l.length ≤ pc0_1) (hB0_0 : Bk o0 w0 3 pb0_0 [pv0_0_0, .map (some pb0_0_1)] 56) (hO0_0_0 : Own T_api_Node.rep 60 4 o0 w0 pv0_0_0 a0_0.f_rows) (hM0_0_1 : Mp (fun x_ : T_api_Node => Value.agg #[ii x_.f_Kind, encS x_.f_Name, ii x_.f_L, ii x_.f_R]) (fun v_ : Int => ii v_) 5 o0 w0 pb0_0_1 a0_0_1),
  Calls Tryz.prog 100 [pp pb0 0].toArray w0 fun e_ w_ => ∃ (o_ : Tags), ((∃ p_, r = .ex p_ ∧ ∃ (B_0_1 : Option Addr) (d_0_1 : Nat) (u1_0 : Value), e_ = .panicked (pc (.iface 111 (.agg #[ii p_.1.f_f.f_Code, ii p_.1.f_f.f_At.f_Line, ii p_.1.f_f.f_At.f_Col, ii p_.1.f_f.f_At.f_Off]))) ∧ Step o0 w0 o_ w_ [2, 3, 4, 5] ∧ Bk o_ w_ 2 pb0 [pp pb0_0 0, .slice B_0_1 p_.2.1.f_l.length d_0_1, ii p_.2.1.f_i, ii p_.2.1.f_names, ii p_.2.1.f_nest, .bool p_.2.1.f_counts, .bool p_.2.1.f_full] 80 ∧ p_.2.1.f_l.length ≤ d_0_1 ∧ Row T_api_Token.rep (fun b_ => o_ b_ = 0) (fun b_ => o_ b_ = 0) w_ B_0_1 p_.2.1.f_l ∧ Bk o_ w_ 3 pb0_0 [u1_0, .map (some pb0_0_1)] 56 ∧ Own T_api_Node.rep 60 4 o_ w_ u1_0 p_.2.2.1.f_rows ∧ Mp (fun x_ : T_api_Node => Value.agg #[ii x_.f_Kind, encS x_.f_Name, ii x_.f_L, ii x_.f_R]) (fun v_ : Int => ii v_) 5 o_ w_ pb0_0_1 p_.2.2.2) ∨ ∃ q_, r = .ok q_ ∧ ∃ (B_0_1 : Option Addr) (d_0_1 : Nat) (u1_0 : Value), e_ = .returned (one [ii q_.1]) ∧ Step o0 w0 o_ w_ [2, 3, 4, 5] ∧ Bk o_ w_ 2 pb0 [pp pb0_0 0, .slice B_0_1 q_.2.1.f_l.length d_0_1, ii q_.2.1.f_i, ii q_.2.1.f_names, ii q_.2.1.f_nest, .bool q_.2.1.f_counts, .bool q_.2.1.f_full] 80 ∧ q_.2.1.f_l.length ≤ d_0_1 ∧ Row T_api_Token.rep (fun b_ => o_ b_ = 0) (fun b_ => o_ b_ = 0) w_ B_0_1 q_.2.1.f_l ∧ Bk o_ w_ 3 pb0_0 [u1_0, .map (some pb0_0_1)] 56 ∧ Own T_api_Node.rep 60 4 o_ w_ u1_0 q_.2.2.1.f_rows ∧ Mp (fun x_ : T_api_Node => Value.agg #[ii x_.f_Kind, encS x_.f_Name, ii x_.f_L, ii x_.f_R]) (fun v_ : Int => ii v_) 5 o_ w_ pb0_0_1 q_.2.2.2)
def syntax_reader_row_syntax_reader_single.Spec (g_ : T_syntax_reader → (List UInt8) → Int → T_formula_Table → (List (T_api_Node × Int)) → Option (Exn (T_syntax_broken × T_syntax_reader × T_formula_Table × (List (T_api_Node × Int))) (Int × T_syntax_reader × T_formula_Table × (List (T_api_Node × Int))))) : Prop := ∀ (o0 : Tags) (w0 : World) (pb0 : Nat) (pA0_1 : Option Addr) (pc0_1 : Nat) (pb0_0 : Nat) (pv0_0_0 : Value) (pb0_0_1 : Nat) {a0 : T_syntax_reader} {a1 : List UInt8} {a3 : Int} {a0_0 : T_formula_Table} {a0_0_1 : (List (T_api_Node × Int))} {r : Exn (T_syntax_broken × T_syntax_reader × T_formula_Table × (List (T_api_Node × Int))) (Int × T_syntax_reader × T_formula_Table × (List (T_api_Node × Int)))} (H : g_ a0 a1 a3 a0_0 a0_0_1 = some r) (hO : ∀ b, b < w0.heap.size → o0 b < 40) (hB0 : Bk o0 w0 2 pb0 [pp pb0_0 0, .slice pA0_1 a0.f_l.length pc0_1, ii a0.f_i, ii a0.f_names, ii a0.f_nest, .bool a0.f_counts, .bool a0.f_full] 80) (hra0_1 : Row T_api_Token.rep (fun b_ => o0 b_ = 0) (fun b_ => o0 b_ = 0) w0 pA0_1 a0.f_l) (hla0_1 : a0.f_l.length ≤ pc0_1) (hB0_0 : Bk o0 w0 3 pb0_0 [pv0_0_0, .map (some pb0_0_1)] 56) (hO0_0_0 : Own T_api_Node.rep 60 4 o0 w0 pv0_0_0 a0_0.f_rows) (hM0_0_1 : Mp (fun x_ : T_api_Node => Value.agg #[ii x_.f_Kind, encS x_.f_Name, ii x_.f_L, ii x_.f_R]) (fun v_ : Int => ii v_) 5 o0 w0 pb0_0_1 a0_0_1),
  Calls Tryz.prog 79 [pp pb0 0, encS a1, .func (.func 100) #[pp pb0 0] #[], ii a3].toArray w0 fun e_ w_ => ∃ (o_ : Tags), ((∃ p_, r = .ex p_ ∧ ∃ (B_0_1 : Option Addr) (d_0_1 : Nat) (u4_0 : Value), e_ = .panicked (pc (.iface 111 (.agg #[ii p_.1.f_f.f_Code, ii p_.1.f_f.f_At.f_Line, ii p_.1.f_f.f_At.f_Col, ii p_.1.f_f.f_At.f_Off]))) ∧ Step o0 w0 o_ w_ [2, 3, 4, 5] ∧ Bk o_ w_ 2 pb0 [pp pb0_0 0, .slice B_0_1 p_.2.1.f_l.length d_0_1, ii p_.2.1.f_i, ii p_.2.1.f_names, ii p_.2.1.f_nest, .bool p_.2.1.f_counts, .bool p_.2.1.f_full] 80 ∧ p_.2.1.f_l.length ≤ d_0_1 ∧ Row T_api_Token.rep (fun b_ => o_ b_ = 0) (fun b_ => o_ b_ = 0) w_ B_0_1 p_.2.1.f_l ∧ Bk o_ w_ 3 pb0_0 [u4_0, .map (some pb0_0_1)] 56 ∧ Own T_api_Node.rep 60 4 o_ w_ u4_0 p_.2.2.1.f_rows ∧ Mp (fun x_ : T_api_Node => Value.agg #[ii x_.f_Kind, encS x_.f_Name, ii x_.f_L, ii x_.f_R]) (fun v_ : Int => ii v_) 5 o_ w_ pb0_0_1 p_.2.2.2) ∨ ∃ q_, r = .ok q_ ∧ ∃ (B_0_1 : Option Addr) (d_0_1 : Nat) (u4_0 : Value), e_ = .returned (one [ii q_.1]) ∧ Step o0 w0 o_ w_ [2, 3, 4, 5] ∧ Bk o_ w_ 2 pb0 [pp pb0_0 0, .slice B_0_1 q_.2.1.f_l.length d_0_1, ii q_.2.1.f_i, ii q_.2.1.f_names, ii q_.2.1.f_nest, .bool q_.2.1.f_counts, .bool q_.2.1.f_full] 80 ∧ q_.2.1.f_l.length ≤ d_0_1 ∧ Row T_api_Token.rep (fun b_ => o_ b_ = 0) (fun b_ => o_ b_ = 0) w_ B_0_1 q_.2.1.f_l ∧ Bk o_ w_ 3 pb0_0 [u4_0, .map (some pb0_0_1)] 56 ∧ Own T_api_Node.rep 60 4 o_ w_ u4_0 q_.2.2.1.f_rows ∧ Mp (fun x_ : T_api_Node => Value.agg #[ii x_.f_Kind, encS x_.f_Name, ii x_.f_L, ii x_.f_R]) (fun v_ : Int => ii v_) 5 o_ w_ pb0_0_1 q_.2.2.2)
def syntax_reader_both.Spec (g_ : T_syntax_reader → T_formula_Table → (List (T_api_Node × Int)) → Option (Exn (T_syntax_broken × T_syntax_reader × T_formula_Table × (List (T_api_Node × Int))) (Int × T_syntax_reader × T_formula_Table × (List (T_api_Node × Int))))) : Prop := ∀ (o0 : Tags) (w0 : World) (pb0 : Nat) (pA0_1 : Option Addr) (pc0_1 : Nat) (pb0_0 : Nat) (pv0_0_0 : Value) (pb0_0_1 : Nat) {a0 : T_syntax_reader} {a0_0 : T_formula_Table} {a0_0_1 : (List (T_api_Node × Int))} {r : Exn (T_syntax_broken × T_syntax_reader × T_formula_Table × (List (T_api_Node × Int))) (Int × T_syntax_reader × T_formula_Table × (List (T_api_Node × Int)))} (H : g_ a0 a0_0 a0_0_1 = some r) (hO : ∀ b, b < w0.heap.size → o0 b < 40) (hB0 : Bk o0 w0 2 pb0 [pp pb0_0 0, .slice pA0_1 a0.f_l.length pc0_1, ii a0.f_i, ii a0.f_names, ii a0.f_nest, .bool a0.f_counts, .bool a0.f_full] 80) (hra0_1 : Row T_api_Token.rep (fun b_ => o0 b_ = 0) (fun b_ => o0 b_ = 0) w0 pA0_1 a0.f_l) (hla0_1 : a0.f_l.length ≤ pc0_1) (hB0_0 : Bk o0 w0 3 pb0_0 [pv0_0_0, .map (some pb0_0_1)] 56) (hO0_0_0 : Own T_api_Node.rep 60 4 o0 w0 pv0_0_0 a0_0.f_rows) (hM0_0_1 : Mp (fun x_ : T_api_Node => Value.agg #[ii x_.f_Kind, encS x_.f_Name, ii x_.f_L, ii x_.f_R]) (fun v_ : Int => ii v_) 5 o0 w0 pb0_0_1 a0_0_1),
  Calls Tryz.prog 80 [pp pb0 0].toArray w0 fun e_ w_ => ∃ (o_ : Tags), ((∃ p_, r = .ex p_ ∧ ∃ (B_0_1 : Option Addr) (d_0_1 : Nat) (u1_0 : Value), e_ = .panicked (pc (.iface 111 (.agg #[ii p_.1.f_f.f_Code, ii p_.1.f_f.f_At.f_Line, ii p_.1.f_f.f_At.f_Col, ii p_.1.f_f.f_At.f_Off]))) ∧ Step o0 w0 o_ w_ [2, 3, 4, 5] ∧ Bk o_ w_ 2 pb0 [pp pb0_0 0, .slice B_0_1 p_.2.1.f_l.length d_0_1, ii p_.2.1.f_i, ii p_.2.1.f_names, ii p_.2.1.f_nest, .bool p_.2.1.f_counts, .bool p_.2.1.f_full] 80 ∧ p_.2.1.f_l.length ≤ d_0_1 ∧ Row T_api_Token.rep (fun b_ => o_ b_ = 0) (fun b_ => o_ b_ = 0) w_ B_0_1 p_.2.1.f_l ∧ Bk o_ w_ 3 pb0_0 [u1_0, .map (some pb0_0_1)] 56 ∧ Own T_api_Node.rep 60 4 o_ w_ u1_0 p_.2.2.1.f_rows ∧ Mp (fun x_ : T_api_Node => Value.agg #[ii x_.f_Kind, encS x_.f_Name, ii x_.f_L, ii x_.f_R]) (fun v_ : Int => ii v_) 5 o_ w_ pb0_0_1 p_.2.2.2) ∨ ∃ q_, r = .ok q_ ∧ ∃ (B_0_1 : Option Addr) (d_0_1 : Nat) (u1_0 : Value), e_ = .returned (one [ii q_.1]) ∧ Step o0 w0 o_ w_ [2, 3, 4, 5] ∧ Bk o_ w_ 2 pb0 [pp pb0_0 0, .slice B_0_1 q_.2.1.f_l.length d_0_1, ii q_.2.1.f_i, ii q_.2.1.f_names, ii q_.2.1.f_nest, .bool q_.2.1.f_counts, .bool q_.2.1.f_full] 80 ∧ q_.2.1.f_l.length ≤ d_0_1 ∧ Row T_api_Token.rep (fun b_ => o_ b_ = 0) (fun b_ => o_ b_ = 0) w_ B_0_1 q_.2.1.f_l ∧ Bk o_ w_ 3 pb0_0 [u1_0, .map (some pb0_0_1)] 56 ∧ Own T_api_Node.rep 60 4 o_ w_ u1_0 q_.2.2.1.f_rows ∧ Mp (fun x_ : T_api_Node => Value.agg #[ii x_.f_Kind, encS x_.f_Name, ii x_.f_L, ii x_.f_R]) (fun v_ : Int => ii v_) 5 o_ w_ pb0_0_1 q_.2.2.2)
def syntax_reader_row_syntax_reader_both.Spec (g_ : T_syntax_reader → (List UInt8) → Int → T_formula_Table → (List (T_api_Node × Int)) → Option (Exn (T_syntax_broken × T_syntax_reader × T_formula_Table × (List (T_api_Node × Int))) (Int × T_syntax_reader × T_formula_Table × (List (T_api_Node × Int))))) : Prop := ∀ (o0 : Tags) (w0 : World) (pb0 : Nat) (pA0_1 : Option Addr) (pc0_1 : Nat) (pb0_0 : Nat) (pv0_0_0 : Value) (pb0_0_1 : Nat) {a0 : T_syntax_reader} {a1 : List UInt8} {a3 : Int} {a0_0 : T_formula_Table} {a0_0_1 : (List (T_api_Node × Int))} {r : Exn (T_syntax_broken × T_syntax_reader × T_formula_Table × (List (T_api_Node × Int))) (Int × T_syntax_reader × T_formula_Table × (List (T_api_Node × Int)))} (H : g_ a0 a1 a3 a0_0 a0_0_1 = some r) (hO : ∀ b, b < w0.heap.size → o0 b < 40) (hB0 : Bk o0 w0 2 pb0 [pp pb0_0 0, .slice pA0_1 a0.f_l.length pc0_1, ii a0.f_i, ii a0.f_names, ii a0.f_nest, .bool a0.f_counts, .bool a0.f_full] 80) (hra0_1 : Row T_api_Token.rep (fun b_ => o0 b_ = 0) (fun b_ => o0 b_ = 0) w0 pA0_1 a0.f_l) (hla0_1 : a0.f_l.length ≤ pc0_1) (hB0_0 : Bk o0 w0 3 pb0_0 [pv0_0_0, .map (some pb0_0_1)] 56) (hO0_0_0 : Own T_api_Node.rep 60 4 o0 w0 pv0_0_0 a0_0.f_rows) (hM0_0_1 : Mp (fun x_ : T_api_Node => Value.agg #[ii x_.f_Kind, encS x_.f_Name, ii x_.f_L, ii x_.f_R]) (fun v_ : Int => ii v_) 5 o0 w0 pb0_0_1 a0_0_1),
  Calls Tryz.prog 79 [pp pb0 0, encS a1, .func (.func 80) #[pp pb0 0] #[], ii a3].toArray w0 fun e_ w_ => ∃ (o_ : Tags), ((∃ p_, r = .ex p_ ∧ ∃ (B_0_1 : Option Addr) (d_0_1 : Nat) (u4_0 : Value), e_ = .panicked (pc (.iface 111 (.agg #[ii p_.1.f_f.f_Code, ii p_.1.f_f.f_At.f_Line, ii p_.1.f_f.f_At.f_Col, ii p_.1.f_f.f_At.f_Off]))) ∧ Step o0 w0 o_ w_ [2, 3, 4, 5] ∧ Bk o_ w_ 2 pb0 [pp pb0_0 0, .slice B_0_1 p_.2.1.f_l.length d_0_1, ii p_.2.1.f_i, ii p_.2.1.f_names, ii p_.2.1.f_nest, .bool p_.2.1.f_counts, .bool p_.2.1.f_full] 80 ∧ p_.2.1.f_l.length ≤ d_0_1 ∧ Row T_api_Token.rep (fun b_ => o_ b_ = 0) (fun b_ => o_ b_ = 0) w_ B_0_1 p_.2.1.f_l ∧ Bk o_ w_ 3 pb0_0 [u4_0, .map (some pb0_0_1)] 56 ∧ Own T_api_Node.rep 60 4 o_ w_ u4_0 p_.2.2.1.f_rows ∧ Mp (fun x_ : T_api_Node => Value.agg #[ii x_.f_Kind, encS x_.f_Name, ii x_.f_L, ii x_.f_R]) (fun v_ : Int => ii v_) 5 o_ w_ pb0_0_1 p_.2.2.2) ∨ ∃ q_, r = .ok q_ ∧ ∃ (B_0_1 : Option Addr) (d_0_1 : Nat) (u4_0 : Value), e_ = .returned (one [ii q_.1]) ∧ Step o0 w0 o_ w_ [2, 3, 4, 5] ∧ Bk o_ w_ 2 pb0 [pp pb0_0 0, .slice B_0_1 q_.2.1.f_l.length d_0_1, ii q_.2.1.f_i, ii q_.2.1.f_names, ii q_.2.1.f_nest, .bool q_.2.1.f_counts, .bool q_.2.1.f_full] 80 ∧ q_.2.1.f_l.length ≤ d_0_1 ∧ Row T_api_Token.rep (fun b_ => o_ b_ = 0) (fun b_ => o_ b_ = 0) w_ B_0_1 q_.2.1.f_l ∧ Bk o_ w_ 3 pb0_0 [u4_0, .map (some pb0_0_1)] 56 ∧ Own T_api_Node.rep 60 4 o_ w_ u4_0 q_.2.2.1.f_rows ∧ Mp (fun x_ : T_api_Node => Value.agg #[ii x_.f_Kind, encS x_.f_Name, ii x_.f_L, ii x_.f_R]) (fun v_ : Int => ii v_) 5 o_ w_ pb0_0_1 q_.2.2.2)
def syntax_reader_implied.Spec (g_ : T_syntax_reader → T_formula_Table → (List (T_api_Node × Int)) → Option (Exn (T_syntax_broken × T_syntax_reader × T_formula_Table × (List (T_api_Node × Int))) (Int × T_syntax_reader × T_formula_Table × (List (T_api_Node × Int))))) : Prop := ∀ (o0 : Tags) (w0 : World) (pb0 : Nat) (pA0_1 : Option Addr) (pc0_1 : Nat) (pb0_0 : Nat) (pv0_0_0 : Value) (pb0_0_1 : Nat) {a0 : T_syntax_reader} {a0_0 : T_formula_Table} {a0_0_1 : (List (T_api_Node × Int))} {r : Exn (T_syntax_broken × T_syntax_reader × T_formula_Table × (List (T_api_Node × Int))) (Int × T_syntax_reader × T_formula_Table × (List (T_api_Node × Int)))} (H : g_ a0 a0_0 a0_0_1 = some r) (hO : ∀ b, b < w0.heap.size → o0 b < 40) (hB0 : Bk o0 w0 2 pb0 [pp pb0_0 0, .slice pA0_1 a0.f_l.length pc0_1, ii a0.f_i, ii a0.f_names, ii a0.f_nest, .bool a0.f_counts, .bool a0.f_full] 80) (hra0_1 : Row T_api_Token.rep (fun b_ => o0 b_ = 0) (fun b_ => o0 b_ = 0) w0 pA0_1 a0.f_l) (hla0_1 : a0.f_l.length ≤ pc0_1) (hB0_0 : Bk o0 w0 3 pb0_0 [pv0_0_0, .map (some pb0_0_1)] 56) (hO0_0_0 : Own T_api_Node.rep 60 4 o0 w0 pv0_0_0 a0_0.f_rows) (hM0_0_1 : Mp (fun x_ : T_api_Node => Value.agg #[ii x_.f_Kind, encS x_.f_Name, ii x_.f_L, ii x_.f_R]) (fun v_ : Int => ii v_) 5 o0 w0 pb0_0_1 a0_0_1),
  Calls Tryz.prog 57 [pp pb0 0].toArray w0 fun e_ w_ => ∃ (o_ : Tags), ((∃ p_, r = .ex p_ ∧ ∃ (B_0_1 : Option Addr) (d_0_1 : Nat) (u1_0 : Value), e_ = .panicked (pc (.iface 111 (.agg #[ii p_.1.f_f.f_Code, ii p_.1.f_f.f_At.f_Line, ii p_.1.f_f.f_At.f_Col, ii p_.1.f_f.f_At.f_Off]))) ∧ Step o0 w0 o_ w_ [2, 3, 4, 5] ∧ Bk o_ w_ 2 pb0 [pp pb0_0 0, .slice B_0_1 p_.2.1.f_l.length d_0_1, ii p_.2.1.f_i, ii p_.2.1.f_names, ii p_.2.1.f_nest, .bool p_.2.1.f_counts, .bool p_.2.1.f_full] 80 ∧ p_.2.1.f_l.length ≤ d_0_1 ∧ Row T_api_Token.rep (fun b_ => o_ b_ = 0) (fun b_ => o_ b_ = 0) w_ B_0_1 p_.2.1.f_l ∧ Bk o_ w_ 3 pb0_0 [u1_0, .map (some pb0_0_1)] 56 ∧ Own T_api_Node.rep 60 4 o_ w_ u1_0 p_.2.2.1.f_rows ∧ Mp (fun x_ : T_api_Node => Value.agg #[ii x_.f_Kind, encS x_.f_Name, ii x_.f_L, ii x_.f_R]) (fun v_ : Int => ii v_) 5 o_ w_ pb0_0_1 p_.2.2.2) ∨ ∃ q_, r = .ok q_ ∧ ∃ (B_0_1 : Option Addr) (d_0_1 : Nat) (u1_0 : Value), e_ = .returned (one [ii q_.1]) ∧ Step o0 w0 o_ w_ [2, 3, 4, 5] ∧ Bk o_ w_ 2 pb0 [pp pb0_0 0, .slice B_0_1 q_.2.1.f_l.length d_0_1, ii q_.2.1.f_i, ii q_.2.1.f_names, ii q_.2.1.f_nest, .bool q_.2.1.f_counts, .bool q_.2.1.f_full] 80 ∧ q_.2.1.f_l.length ≤ d_0_1 ∧ Row T_api_Token.rep (fun b_ => o_ b_ = 0) (fun b_ => o_ b_ = 0) w_ B_0_1 q_.2.1.f_l ∧ Bk o_ w_ 3 pb0_0 [u1_0, .map (some pb0_0_1)] 56 ∧ Own T_api_Node.rep 60 4 o_ w_ u1_0 q_.2.2.1.f_rows ∧ Mp (fun x_ : T_api_Node => Value.agg #[ii x_.f_Kind, encS x_.f_Name, ii x_.f_L, ii x_.f_R]) (fun v_ : Int => ii v_) 5 o_ w_ pb0_0_1 q_.2.2.2)
structure G_syntax_reader_formula.OK (R : G_syntax_reader_formula) : Prop where
 syntax_reader_formula : syntax_reader_formula.Spec R.syntax_reader_formula
 syntax_reader_single : syntax_reader_single.Spec R.syntax_reader_single
 syntax_reader_row_syntax_reader_single : syntax_reader_row_syntax_reader_single.Spec R.syntax_reader_row_syntax_reader_single
 syntax_reader_both : syntax_reader_both.Spec R.syntax_reader_both
 syntax_reader_row_syntax_reader_both : syntax_reader_row_syntax_reader_both.Spec R.syntax_reader_row_syntax_reader_both
 syntax_reader_implied : syntax_reader_implied.Spec R.syntax_reader_implied
/-! ### syntax_reader_formula -/
set_option maxRecDepth 100000 in
theorem syntax_reader_formula.callsF (k : Nat) (R : G_syntax_reader_formula) (hR : G_syntax_reader_formula.OK R) : syntax_reader_formula.Spec (syntax_reader_formula.F k R) := by
 intro o0 w0 pb0 pA0_1 pc0_1 pb0_0 pv0_0_0 pb0_0_1 a0 a0_0 a0_0_1 r H hO hB0 hra0_1 hla0_1 hB0_0 hO0_0_0 hM0_0_1
 have HF := Fm.refl hO [2, 3, 4, 5]
 unfold syntax_reader_formula.F at H
 refine SX.calls [pp pb0 0] Tryz.func32 rfl rfl ?_
 rw [Tryz.ntmps32]
 refine WC.seq <|
  WC.region <|
  E rfl (sg (ii 0) rfl) <|
  WL.nil <|
  WC.seq <|
  WC.region <|
  E rfl (mv (pp pb0 0) rfl) ?_
 obtain ⟨z101, hz101, H⟩ := bindE H
 refine WL.op rfl <|
  OW.callP [pp pb0 0] rfl Tryz.func57 (by kernel_rfl) (by kernel_rfl) (map_cons' rfl rfl) (hR.syntax_reader_implied _ _ pb0 pA0_1 pc0_1 pb0_0 pv0_0_0 pb0_0_1 (a0 := a0) (a0_0 := a0_0) hz101 (HF.ten (V := [0]) (L := [2, 3, 4, 5]) rfl) (Bk.vw hB0 rfl) (Row.vw hra0_1 rfl) hla0_1 (Bk.vw hB0_0 rfl) (Own.vw hO0_0_0 rfl rfl) (Mp.vw hM0_0_1 rfl)) ?_
 rintro _ w102 ⟨o103, (⟨p104, rfl, A109, c110, v114, rfl, s106, hB108, hl111, hr112, hB113, hO115, hM116⟩ | ⟨q105, rfl, A118, c119, v123, rfl, s107, hB117, hl120, hr121, hB122, hO124, hM125⟩)⟩
 ·
  refine Or.inr ⟨_, rfl, ?_⟩
  dsimp only at H
  replace hB108 := Bk.unO (J := []) 0 hB108 s106 rfl rfl rfl
  replace hr112 := hr112.un (J := []) s106
  replace hB113 := Bk.unO (J := []) 1 hB113 s106 rfl rfl rfl
  replace hO115 := Own.unO (J := []) 2 hO115 s106 rfl rfl rfl
  replace hM116 := Mp.unO (J := []) 3 hM116 s106 rfl rfl rfl
  replace s106 := un_stepL (J := []) (L' := [2, 3, 4, 5]) s106 rfl rfl
  obtain rfl := Option.some.inj H
  replace HF := HF.step s106 rfl
  exact ⟨_, Or.inl ⟨_, rfl, A109, c110, v114, rfl, HF.out, hB108, hl111, hr112, hB113, hO115, hM116⟩⟩
 ·
  refine Or.inl ⟨_, rfl, ?_⟩
  dsimp only at H
  replace hB117 := Bk.unO (J := []) 0 hB117 s107 rfl rfl rfl
  replace hr121 := hr121.un (J := []) s107
  replace hB122 := Bk.unO (J := []) 1 hB122 s107 rfl rfl rfl
  replace hO124 := Own.unO (J := []) 2 hO124 s107 rfl rfl rfl
  replace hM125 := Mp.unO (J := []) 3 hM125 s107 rfl rfl rfl
  replace s107 := un_stepL (J := []) (L' := [2, 3, 4, 5]) s107 rfl rfl
  refine E rfl (sg (ii q105.1) rfl) <|
   WL.nil <|
   WC.seq <|
   WC.seq <|
   WC.region <|
   E rfl (mv (pp pb0 0) rfl) ?_
  obtain ⟨z126, hz126, H⟩ := bindE H
  refine WL.op rfl ?_
  replace HF := HF.step s107 rfl
  refine OW.callP [pp pb0 0, encS ([60, 45, 62] : List UInt8)] rfl Tryz.func58 (by kernel_rfl) (by kernel_rfl) (map_cons' rfl (map_cons' rfl rfl)) (syntax_reader_sign.calls _ _ pb0 A118 c119 pb0_0 v123 pb0_0_1 (a0 := q105.2.1) (a0_0 := q105.2.2.1) hz126 (HF.ten (V := [0]) (L := [2, 3, 4, 5]) rfl) (Bk.vw hB117 rfl) (Row.vw hr121 rfl) hl120 (Bk.vw hB122 rfl) (Own.vw hO124 rfl rfl) (Mp.vw hM125 rfl)) ?_
  rintro _ w127 ⟨o128, (⟨p129, rfl, A134, c135, rfl, s131, hB133, hl136, hr137⟩ | ⟨q130, rfl, A139, c140, rfl, s132, hB138, hl141, hr142⟩)⟩
  ·
   refine Or.inr ⟨_, rfl, ?_⟩
   dsimp only at H
   replace hB133 := Bk.unO (J := []) 0 hB133 s131 rfl rfl rfl
   replace hr137 := hr137.un (J := []) s131
   replace s131 := un_stepL (J := []) (L' := [2]) s131 rfl rfl
   obtain rfl := Option.some.inj H
   replace hB122 := hB122.step s131 rfl
   replace hO124 := hO124.step s131 rfl rfl
   replace hM125 := hM125.step s131 rfl
   replace HF := HF.step s131 rfl
   exact ⟨_, Or.inl ⟨_, rfl, A134, c135, v123, rfl, HF.out, hB133, hl136, hr137, hB122, hO124, hM125⟩⟩
  ·
   refine Or.inl ⟨_, rfl, ?_⟩
   dsimp only at H
   replace hB138 := Bk.unO (J := []) 0 hB138 s132 rfl rfl rfl
   replace hr142 := hr142.un (J := []) s132
   replace s132 := un_stepL (J := []) (L' := [2]) s132 rfl rfl
   refine E rfl (ex_not (b := q130.1) rfl) <|
    WL.nil ?_
   rcases condE H with ⟨c143, H⟩ | ⟨c143, H⟩
   ·
    refine WC.cond_t (vb c143 rfl) <|
     WC.seq <|
     WC.region <|
     E rfl (mv (ii q105.1) rfl) <|
     E rfl (sg (ii q105.1) rfl) <|
     WL.nil <|
     WC.ret ?_
    obtain rfl := Option.some.inj H
    replace hB122 := hB122.step s132 rfl
    replace hO124 := hO124.step s132 rfl rfl
    replace hM125 := hM125.step s132 rfl
    replace HF := HF.step s132 rfl
    exact ⟨_, (.tmp _ rfl .nil), _, Or.inr ⟨_, rfl, A139, c140, v123, rfl, HF.out, hB138, hl141, hr142, hB122, hO124, hM125⟩⟩
   ·
    refine WC.cond_f (vb c143 rfl) <|
     WC.skip <|
     WC.seq <|
     WC.region <|
     E rfl (mv (pp pb0 0) rfl) ?_
    obtain ⟨z144, hz144, H⟩ := bindE H
    refine WL.op rfl ?_
    replace hB122 := hB122.step s132 rfl
    replace hO124 := hO124.step s132 rfl rfl
    replace hM125 := hM125.step s132 rfl
    replace HF := HF.step s132 rfl
    refine OW.callP [pp pb0 0] rfl Tryz.func32 (by kernel_rfl) (by kernel_rfl) (map_cons' rfl rfl) (hR.syntax_reader_formula _ _ pb0 A139 c140 pb0_0 v123 pb0_0_1 (a0 := q130.2) (a0_0 := q105.2.2.1) hz144 (HF.ten (V := [0]) (L := [2, 3, 4, 5]) rfl) (Bk.vw hB138 rfl) (Row.vw hr142 rfl) hl141 (Bk.vw hB122 rfl) (Own.vw hO124 rfl rfl) (Mp.vw hM125 rfl)) ?_
    rintro _ w145 ⟨o146, (⟨p147, rfl, A152, c153, v157, rfl, s149, hB151, hl154, hr155, hB156, hO158, hM159⟩ | ⟨q148, rfl, A161, c162, v166, rfl, s150, hB160, hl163, hr164, hB165, hO167, hM168⟩)⟩
    ·
     refine Or.inr ⟨_, rfl, ?_⟩
     dsimp only at H
     replace hB151 := Bk.unO (J := []) 0 hB151 s149 rfl rfl rfl
     replace hr155 := hr155.un (J := []) s149
     replace hB156 := Bk.unO (J := []) 1 hB156 s149 rfl rfl rfl
     replace hO158 := Own.unO (J := []) 2 hO158 s149 rfl rfl rfl
     replace hM159 := Mp.unO (J := []) 3 hM159 s149 rfl rfl rfl
     replace s149 := un_stepL (J := []) (L' := [2, 3, 4, 5]) s149 rfl rfl
     obtain rfl := Option.some.inj H
     replace HF := HF.step s149 rfl
     exact ⟨_, Or.inl ⟨_, rfl, A152, c153, v157, rfl, HF.out, hB151, hl154, hr155, hB156, hO158, hM159⟩⟩
    ·
     refine Or.inl ⟨_, rfl, ?_⟩
     dsimp only at H
     replace hB160 := Bk.unO (J := []) 0 hB160 s150 rfl rfl rfl
     replace hr164 := hr164.un (J := []) s150
     replace hB165 := Bk.unO (J := []) 1 hB165 s150 rfl rfl rfl
     replace hO167 := Own.unO (J := []) 2 hO167 s150 rfl rfl rfl
     replace hM168 := Mp.unO (J := []) 3 hM168 s150 rfl rfl rfl
     replace s150 := un_stepL (J := []) (L' := [2, 3, 4, 5]) s150 rfl rfl
     refine E rfl (sg (ii q148.1) rfl) <|
      WL.nil <|
      WC.seq <|
      WC.region <|
      E rfl (mv (pp pb0 0) rfl) <|
      E rfl (mv (ii q105.1) rfl) <|
      E rfl (mv (ii q148.1) rfl) ?_
     obtain ⟨z169, hz169, H⟩ := bindE H
     refine WL.op rfl ?_
     replace HF := HF.step s150 rfl
     refine OW.call [pp pb0 0, ii 5, encS ([] : List UInt8), ii q105.1, ii q148.1] rfl Tryz.func59 (by kernel_rfl) (by kernel_rfl) (map_cons' rfl (map_cons' rfl (map_cons' rfl (map_cons' rfl (map_cons' rfl rfl))))) (syntax_reader_node.calls k _ _ pb0 A161 c162 pb0_0 v166 pb0_0_1 (a0 := q148.2.1) (a0_0 := q148.2.2.1) hz169 (HF.ten (V := [0]) (L := [2, 3, 4, 5]) rfl) (Bk.vw hB160 rfl) (Row.vw hr164 rfl) hl163 (Bk.vw hB165 rfl) (Own.vw hO167 rfl rfl) (Mp.vw hM168 rfl)) ?_
     rintro _ w170 ⟨o171, A174, c175, v179, rfl, s172, hB173, hl176, hr177, hB178, hO180, hM181⟩
     refine ⟨_, rfl, ?_⟩
     replace hB173 := Bk.unO (J := []) 0 hB173 s172 rfl rfl rfl
     replace hr177 := hr177.un (J := []) s172
     replace hB178 := Bk.unO (J := []) 1 hB178 s172 rfl rfl rfl
     replace hO180 := Own.unO (J := []) 2 hO180 s172 rfl rfl rfl
     replace hM181 := Mp.unO (J := []) 3 hM181 s172 rfl rfl rfl
     replace s172 := un_stepL (J := []) (L' := [2, 3, 4, 5]) s172 rfl rfl
     refine E rfl (sg (ii z169.1) rfl) <|
      WL.nil <|
      WC.seq <|
      WC.region <|
      E rfl (mv (pp pb0 0) rfl) <|
      E rfl (mv (ii q148.1) rfl) <|
      E rfl (mv (ii q105.1) rfl) ?_
     obtain ⟨z182, hz182, H⟩ := bindE H
     refine WL.op rfl ?_
     replace HF := HF.step s172 rfl
     refine OW.call [pp pb0 0, ii 5, encS ([] : List UInt8), ii q148.1, ii q105.1] rfl Tryz.func59 (by kernel_rfl) (by kernel_rfl) (map_cons' rfl (map_cons' rfl (map_cons' rfl (map_cons' rfl (map_cons' rfl rfl))))) (syntax_reader_node.calls k _ _ pb0 A174 c175 pb0_0 v179 pb0_0_1 (a0 := z169.2.1) (a0_0 := z169.2.2.1) hz182 (HF.ten (V := [0]) (L := [2, 3, 4, 5]) rfl) (Bk.vw hB173 rfl) (Row.vw hr177 rfl) hl176 (Bk.vw hB178 rfl) (Own.vw hO180 rfl rfl) (Mp.vw hM181 rfl)) ?_
     rintro _ w183 ⟨o184, A187, c188, v192, rfl, s185, hB186, hl189, hr190, hB191, hO193, hM194⟩
     refine ⟨_, rfl, ?_⟩
     replace hB186 := Bk.unO (J := []) 0 hB186 s185 rfl rfl rfl
     replace hr190 := hr190.un (J := []) s185
     replace hB191 := Bk.unO (J := []) 1 hB191 s185 rfl rfl rfl
     replace hO193 := Own.unO (J := []) 2 hO193 s185 rfl rfl rfl
     replace hM194 := Mp.unO (J := []) 3 hM194 s185 rfl rfl rfl
     replace s185 := un_stepL (J := []) (L' := [2, 3, 4, 5]) s185 rfl rfl
     refine E rfl (sg (ii z182.1) rfl) <|
      WL.nil <|
      WC.seq <|
      WC.region <|
      E rfl (mv (pp pb0 0) rfl) <|
      E rfl (mv (ii z169.1) rfl) <|
      E rfl (mv (ii z182.1) rfl) ?_
     obtain ⟨z195, hz195, H⟩ := bindE H
     refine WL.op rfl ?_
     replace HF := HF.step s185 rfl
     refine OW.call [pp pb0 0, ii 3, encS ([] : List UInt8), ii z169.1, ii z182.1] rfl Tryz.func59 (by kernel_rfl) (by kernel_rfl) (map_cons' rfl (map_cons' rfl (map_cons' rfl (map_cons' rfl (map_cons' rfl rfl))))) (syntax_reader_node.calls k _ _ pb0 A187 c188 pb0_0 v192 pb0_0_1 (a0 := z182.2.1) (a0_0 := z182.2.2.1) hz195 (HF.ten (V := [0]) (L := [2, 3, 4, 5]) rfl) (Bk.vw hB186 rfl) (Row.vw hr190 rfl) hl189 (Bk.vw hB191 rfl) (Own.vw hO193 rfl rfl) (Mp.vw hM194 rfl)) ?_
     rintro _ w196 ⟨o197, A200, c201, v205, rfl, s198, hB199, hl202, hr203, hB204, hO206, hM207⟩
     refine ⟨_, rfl, ?_⟩
     replace hB199 := Bk.unO (J := []) 0 hB199 s198 rfl rfl rfl
     replace hr203 := hr203.un (J := []) s198
     replace hB204 := Bk.unO (J := []) 1 hB204 s198 rfl rfl rfl
     replace hO206 := Own.unO (J := []) 2 hO206 s198 rfl rfl rfl
     replace hM207 := Mp.unO (J := []) 3 hM207 s198 rfl rfl rfl
     replace s198 := un_stepL (J := []) (L' := [2, 3, 4, 5]) s198 rfl rfl
     refine E rfl (sg (ii z195.1) rfl) <|
      WL.nil <|
      WC.ret ?_
     obtain rfl := Option.some.inj H
     replace HF := HF.step s198 rfl
     exact ⟨_, (.tmp _ rfl .nil), _, Or.inr ⟨_, rfl, A200, c201, v205, rfl, HF.out, hB199, hl202, hr203, hB204, hO206, hM207⟩⟩

/-! ### syntax_reader_single -/
set_option maxRecDepth 100000 in
theorem syntax_reader_single.callsF (k : Nat) (R : G_syntax_reader_formula) (hR : G_syntax_reader_formula.OK R) : syntax_reader_single.Spec (syntax_reader_single.F k R) := by
 intro o0 w0 pb0 pA0_1 pc0_1 pb0_0 pv0_0_0 pb0_0_1 a0 a0_0 a0_0_1 r H hO hB0 hra0_1 hla0_1 hB0_0 hO0_0_0 hM0_0_1
 have HF := Fm.refl hO [2, 3, 4, 5]
 unfold syntax_reader_single.F at H
 refine SX.calls [pp pb0 0] Tryz.func100 rfl rfl ?_
 rw [Tryz.ntmps100]
 refine WC.seq <|
  WC.region <|
  E rfl (sg (ii 0) rfl) <|
  WL.nil <|
  WC.seq <|
  WC.region <|
  E rfl (mv (pp pb0 0) rfl) ?_
 obtain ⟨z101, hz101, H⟩ := bindE H
 refine WL.op rfl <|
  OW.call [pp pb0 0] rfl Tryz.func33 (by kernel_rfl) (by kernel_rfl) (map_cons' rfl rfl) (syntax_reader_now.calls _ _ pb0 pA0_1 pc0_1 pb0_0 pv0_0_0 pb0_0_1 (a0 := a0) (a0_0 := a0_0) hz101 (HF.ten (V := [0]) (L := [2, 3, 4, 5]) rfl) (Bk.vw hB0 rfl) (Row.vw hra0_1 rfl) hla0_1 (Bk.vw hB0_0 rfl) (Own.vw hO0_0_0 rfl rfl) (Mp.vw hM0_0_1 rfl)) ?_
 rintro _ w102 ⟨o103, rfl, s104⟩
 refine ⟨_, rfl, ?_⟩
 replace s104 := un_stepL (J := []) (L' := []) s104 rfl rfl
 refine WL.op rfl ?_
 replace HF := HF.step s104 rfl
 refine OW.alloc' [ii (0 : Int), encS ([] : List UInt8), ii (0 : Int), ii (0 : Int), ii (0 : Int), ii (0 : Int)] 40 HF rfl zr76 rfl ?_
 intro o106 w107 b105 s108 hB109
 refine WL.op rfl <|
  OW.storeW rfl rfl sz76 hB109 rfl (oa rfl) ?_
 intro w110 s111 hB112
 refine WL.nil <|
  WC.seq <|
  WC.block <|
  WC.seq <|
  WC.region <|
  E rfl (mv (pp pb0 0) rfl) ?_
 obtain ⟨z113, hz113, H⟩ := bindE H
 refine WL.op rfl ?_
 have k108_111 := s108.t s111
 replace HF := HF.step k108_111 rfl
 have k104_111 := s104.t k108_111
 replace hra0_1 := hra0_1.step k104_111 rfl
 replace hB0 := hB0.step k104_111 rfl
 replace hO0_0_0 := hO0_0_0.step k104_111 rfl rfl
 replace hB0_0 := hB0_0.step k104_111 rfl
 replace hM0_0_1 := hM0_0_1.step k104_111 rfl
 refine OW.callP [pp pb0 0, encS ([126] : List UInt8)] rfl Tryz.func58 (by kernel_rfl) (by kernel_rfl) (map_cons' rfl (map_cons' rfl rfl)) (syntax_reader_sign.calls _ _ pb0 pA0_1 pc0_1 pb0_0 pv0_0_0 pb0_0_1 (a0 := a0) (a0_0 := a0_0) hz113 (HF.ten (V := [0]) (L := [2, 3, 4, 5]) rfl) (Bk.vw hB0 rfl) (Row.vw hra0_1 rfl) hla0_1 (Bk.vw hB0_0 rfl) (Own.vw hO0_0_0 rfl rfl) (Mp.vw hM0_0_1 rfl)) ?_
 rintro _ w114 ⟨o115, (⟨p116, rfl, A121, c122, rfl, s118, hB120, hl123, hr124⟩ | ⟨q117, rfl, A126, c127, rfl, s119, hB125, hl128, hr129⟩)⟩
 ·
  refine Or.inr ⟨_, rfl, ?_⟩
  dsimp only at H
  replace hB120 := Bk.unO (J := []) 0 hB120 s118 rfl rfl rfl
  replace hr124 := hr124.un (J := []) s118
  replace s118 := un_stepL (J := []) (L' := [2]) s118 rfl rfl
  obtain rfl := Option.some.inj H
  replace hO0_0_0 := hO0_0_0.step s118 rfl rfl
  replace hB0_0 := hB0_0.step s118 rfl
  replace hM0_0_1 := hM0_0_1.step s118 rfl
  replace HF := HF.step s118 rfl
  exact ⟨_, Or.inl ⟨_, rfl, A121, c122, pv0_0_0, rfl, HF.out, hB120, hl123, hr124, hB0_0, hO0_0_0, hM0_0_1⟩⟩
 ·
  refine Or.inl ⟨_, rfl, ?_⟩
  dsimp only at H
  replace hB125 := Bk.unO (J := []) 0 hB125 s119 rfl rfl rfl
  replace hr129 := hr129.un (J := []) s119
  replace s119 := un_stepL (J := []) (L' := [2]) s119 rfl rfl
  refine E rfl (sg (.bool q117.1) rfl) <|
   WL.nil ?_
  rcases condE H with ⟨c130, H⟩ | ⟨c130, H⟩
  ·
   refine WC.cond_t (vb c130 rfl) <|
    WC.seq <|
    WC.region <|
    E rfl (mv (pp pb0 0) rfl) ?_
   obtain ⟨z131, hz131, H⟩ := bindE H
   refine WL.op rfl ?_
   replace hO0_0_0 := hO0_0_0.step s119 rfl rfl
   replace hB0_0 := hB0_0.step s119 rfl
   replace hM0_0_1 := hM0_0_1.step s119 rfl
   replace HF := HF.step s119 rfl
   refine OW.callP [pp pb0 0] rfl Tryz.func100 (by kernel_rfl) (by kernel_rfl) (map_cons' rfl rfl) (hR.syntax_reader_single _ _ pb0 A126 c127 pb0_0 pv0_0_0 pb0_0_1 (a0 := q117.2) (a0_0 := a0_0) hz131 (HF.ten (V := [0]) (L := [2, 3, 4, 5]) rfl) (Bk.vw hB125 rfl) (Row.vw hr129 rfl) hl128 (Bk.vw hB0_0 rfl) (Own.vw hO0_0_0 rfl rfl) (Mp.vw hM0_0_1 rfl)) ?_
   rintro _ w132 ⟨o133, (⟨p134, rfl, A139, c140, v144, rfl, s136, hB138, hl141, hr142, hB143, hO145, hM146⟩ | ⟨q135, rfl, A148, c149, v153, rfl, s137, hB147, hl150, hr151, hB152, hO154, hM155⟩)⟩
   ·
    refine Or.inr ⟨_, rfl, ?_⟩
    dsimp only at H
    replace hB138 := Bk.unO (J := []) 0 hB138 s136 rfl rfl rfl
    replace hr142 := hr142.un (J := []) s136
    replace hB143 := Bk.unO (J := []) 1 hB143 s136 rfl rfl rfl
    replace hO145 := Own.unO (J := []) 2 hO145 s136 rfl rfl rfl
    replace hM146 := Mp.unO (J := []) 3 hM146 s136 rfl rfl rfl
    replace s136 := un_stepL (J := []) (L' := [2, 3, 4, 5]) s136 rfl rfl
    obtain rfl := Option.some.inj H
    replace HF := HF.step s136 rfl
    exact ⟨_, Or.inl ⟨_, rfl, A139, c140, v144, rfl, HF.out, hB138, hl141, hr142, hB143, hO145, hM146⟩⟩
   ·
    refine Or.inl ⟨_, rfl, ?_⟩
    dsimp only at H
    replace hB147 := Bk.unO (J := []) 0 hB147 s137 rfl rfl rfl
    replace hr151 := hr151.un (J := []) s137
    replace hB152 := Bk.unO (J := []) 1 hB152 s137 rfl rfl rfl
    replace hO154 := Own.unO (J := []) 2 hO154 s137 rfl rfl rfl
    replace hM155 := Mp.unO (J := []) 3 hM155 s137 rfl rfl rfl
    replace s137 := un_stepL (J := []) (L' := [2, 3, 4, 5]) s137 rfl rfl
    refine E rfl (sg (ii q135.1) rfl) <|
     WL.nil <|
     WC.seq <|
     WC.region <|
     E rfl (mv (pp pb0 0) rfl) <|
     E rfl (mv (ii q135.1) rfl) <|
     E rfl (mv (pp pb0 0) rfl) ?_
    obtain ⟨z156, hz156, H⟩ := bindE H
    refine WL.op rfl ?_
    replace HF := HF.step s137 rfl
    refine OW.call [pp pb0 0, ii 2, encS ([] : List UInt8), ii 0, ii 0] rfl Tryz.func59 (by kernel_rfl) (by kernel_rfl) (map_cons' rfl (map_cons' rfl (map_cons' rfl (map_cons' rfl (map_cons' rfl rfl))))) (syntax_reader_node.calls k _ _ pb0 A148 c149 pb0_0 v153 pb0_0_1 (a0 := q135.2.1) (a0_0 := q135.2.2.1) hz156 (HF.ten (V := [0]) (L := [2, 3, 4, 5]) rfl) (Bk.vw hB147 rfl) (Row.vw hr151 rfl) hl150 (Bk.vw hB152 rfl) (Own.vw hO154 rfl rfl) (Mp.vw hM155 rfl)) ?_
    rintro _ w157 ⟨o158, A161, c162, v166, rfl, s159, hB160, hl163, hr164, hB165, hO167, hM168⟩
    refine ⟨_, rfl, ?_⟩
    replace hB160 := Bk.unO (J := []) 0 hB160 s159 rfl rfl rfl
    replace hr164 := hr164.un (J := []) s159
    replace hB165 := Bk.unO (J := []) 1 hB165 s159 rfl rfl rfl
    replace hO167 := Own.unO (J := []) 2 hO167 s159 rfl rfl rfl
    replace hM168 := Mp.unO (J := []) 3 hM168 s159 rfl rfl rfl
    replace s159 := un_stepL (J := []) (L' := [2, 3, 4, 5]) s159 rfl rfl
    obtain ⟨z169, hz169, H⟩ := bindE H
    refine WL.op rfl ?_
    replace HF := HF.step s159 rfl
    refine OW.call [pp pb0 0, ii 5, encS ([] : List UInt8), ii q135.1, ii z156.1] rfl Tryz.func59 (by kernel_rfl) (by kernel_rfl) (map_cons' rfl (map_cons' rfl (map_cons' rfl (map_cons' rfl (map_cons' rfl rfl))))) (syntax_reader_node.calls k _ _ pb0 A161 c162 pb0_0 v166 pb0_0_1 (a0 := z156.2.1) (a0_0 := z156.2.2.1) hz169 (HF.ten (V := [0]) (L := [2, 3, 4, 5]) rfl) (Bk.vw hB160 rfl) (Row.vw hr164 rfl) hl163 (Bk.vw hB165 rfl) (Own.vw hO167 rfl rfl) (Mp.vw hM168 rfl)) ?_
    rintro _ w170 ⟨o171, A174, c175, v179, rfl, s172, hB173, hl176, hr177, hB178, hO180, hM181⟩
    refine ⟨_, rfl, ?_⟩
    replace hB173 := Bk.unO (J := []) 0 hB173 s172 rfl rfl rfl
    replace hr177 := hr177.un (J := []) s172
    replace hB178 := Bk.unO (J := []) 1 hB178 s172 rfl rfl rfl
    replace hO180 := Own.unO (J := []) 2 hO180 s172 rfl rfl rfl
    replace hM181 := Mp.unO (J := []) 3 hM181 s172 rfl rfl rfl
    replace s172 := un_stepL (J := []) (L' := [2, 3, 4, 5]) s172 rfl rfl
    refine E rfl (sg (ii z169.1) rfl) <|
     WL.nil <|
     WC.ret ?_
    obtain rfl := Option.some.inj H
    replace HF := HF.step s172 rfl
    exact ⟨_, (.tmp _ rfl .nil), _, Or.inr ⟨_, rfl, A174, c175, v179, rfl, HF.out, hB173, hl176, hr177, hB178, hO180, hM181⟩⟩
  ·
   refine WC.cond_f (vb c130 rfl) ?_
   obtain ⟨z183, hz183, H⟩ := bindE H
   refine WC.cut (fun ρ_ w_ => ∃ (o_ : Tags), Fm o0 w0 o_ w_ [2, 3, 4, 5] ∧ Bk o_ w_ 2 pb0 [pp pb0_0 0, .slice A126 q117.2.f_l.length c127, ii q117.2.f_i, ii q117.2.f_names, ii q117.2.f_nest, .bool q117.2.f_counts, .bool q117.2.f_full] 80 ∧ Row T_api_Token.rep (fun b_ => o_ b_ = 0) (fun b_ => o_ b_ = 0) w_ A126 q117.2.f_l ∧ Bk o_ w_ 3 pb0_0 [pv0_0_0, .map (some pb0_0_1)] 56 ∧ Own T_api_Node.rep 60 4 o_ w_ pv0_0_0 a0_0.f_rows ∧ Mp (fun x_ : T_api_Node => Value.agg #[ii x_.f_Kind, encS x_.f_Name, ii x_.f_L, ii x_.f_R]) (fun v_ : Int => ii v_) 5 o_ w_ pb0_0_1 a0_0_1 ∧ Bk o_ w_ 40 b105 [ii z101.f_Kind, encS z101.f_Text, ii z101.f_Int, ii z101.f_At.f_Line, ii z101.f_At.f_Col, ii z101.f_At.f_Off] 76 ∧ ρ_ 0 = pp pb0 0 ∧ ρ_ 2 = ii 0 ∧ ρ_ 3 = pp b105 0 ∧ ρ_ 19 = .bool z183) ?case184 ?_
   case case184 =>
    rintro ρ187 w185 ⟨o186, HF, hB125, hr129, hB0_0, hO0_0_0, hM0_0_1, hB112, s0_181, s2_181, s3_181, s19_182⟩
    rcases condE H with ⟨c188, H⟩ | ⟨c188, H⟩
    ·
     refine WC.cond_t (vb c188 s19_182) ?_
     obtain ⟨z189, hz189, H⟩ := bindE H
     refine WC.cut (fun ρ_ w_ => ∃ (o_ : Tags), Fm o0 w0 o_ w_ [2, 3, 4, 5] ∧ Bk o_ w_ 2 pb0 [pp pb0_0 0, .slice A126 q117.2.f_l.length c127, ii q117.2.f_i, ii q117.2.f_names, ii q117.2.f_nest, .bool q117.2.f_counts, .bool q117.2.f_full] 80 ∧ Row T_api_Token.rep (fun b_ => o_ b_ = 0) (fun b_ => o_ b_ = 0) w_ A126 q117.2.f_l ∧ Bk o_ w_ 3 pb0_0 [pv0_0_0, .map (some pb0_0_1)] 56 ∧ Own T_api_Node.rep 60 4 o_ w_ pv0_0_0 a0_0.f_rows ∧ Mp (fun x_ : T_api_Node => Value.agg #[ii x_.f_Kind, encS x_.f_Name, ii x_.f_L, ii x_.f_R]) (fun v_ : Int => ii v_) 5 o_ w_ pb0_0_1 a0_0_1 ∧ ρ_ 0 = pp pb0 0 ∧ ρ_ 2 = ii 0 ∧ z189 = .inr ()) ?case190 ?_
     case case190 =>
      rintro ρ193 w191 ⟨o192, HF, hB125, hr129, hB0_0, hO0_0_0, hM0_0_1, s0_188, s2_188, rfl⟩
      replace H : _ = some _ := H
      dsimp only at H
      refine WC.seq <|
       WC.region <|
       E rfl (mv (pp pb0 0) s0_188) <|
       E rfl (ex_nilCheck rfl) <|
       E rfl (ex_fieldAddr rfl U80 rfl sz3) <|
       E rfl (ex_load1 rfl U3 rfl (hB125.cell rfl)) <|
       E rfl (e2 bin_add64 rfl rfl) <|
       E rfl (ex_nilCheck rfl) <|
       E rfl (ex_fieldAddr rfl U80 rfl sz3) <|
       WL.op rfl <|
       OW.store [pp pb0_0 0, .slice A126 q117.2.f_l.length c127, ii q117.2.f_i, ii q117.2.f_names, ii (wrap64 (q117.2.f_nest + 1)), .bool q117.2.f_counts, .bool q117.2.f_full] rfl (vs := [ii (wrap64 (q117.2.f_nest + 1))]) rfl sz3 hB125 (Nat.le_of_ble_eq_true rfl) (oa rfl) rfl ?_
      intro w194 s195 hB196
      refine WL.nil <|
       WC.seq <|
       WC.region <|
       E rfl (mv (pp pb0 0) s0_188) ?_
      obtain ⟨z197, hz197, H⟩ := bindE H
      refine WL.op rfl ?_
      replace hr129 := hr129.step s195 rfl
      replace hB0_0 := hB0_0.step s195 rfl
      replace hO0_0_0 := hO0_0_0.step s195 rfl rfl
      replace hM0_0_1 := hM0_0_1.step s195 rfl
      replace HF := HF.step s195 rfl
      refine OW.callP [pp pb0 0] rfl Tryz.func81 (by kernel_rfl) (by kernel_rfl) (map_cons' rfl rfl) (syntax_reader_take.calls _ _ pb0 A126 c127 pb0_0 pv0_0_0 pb0_0_1 (a0 := (⟨q117.2.f_l, q117.2.f_i, q117.2.f_names, wrap64 (q117.2.f_nest + 1), q117.2.f_counts, q117.2.f_full⟩ : T_syntax_reader)) (a0_0 := a0_0) hz197 (HF.ten (V := [0]) (L := [2, 3, 4, 5]) rfl) (Bk.vw hB196 rfl) (Row.vw hr129 rfl) hl128 (Bk.vw hB0_0 rfl) (Own.vw hO0_0_0 rfl rfl) (Mp.vw hM0_0_1 rfl)) ?_
      rintro _ w198 ⟨o199, (⟨p200, rfl, A205, c206, rfl, s202, hB204, hl207, hr208⟩ | ⟨q201, rfl, A210, c211, rfl, s203, hB209, hl212, hr213⟩)⟩
      ·
       refine Or.inr ⟨_, rfl, ?_⟩
       dsimp only at H
       replace hB204 := Bk.unO (J := []) 0 hB204 s202 rfl rfl rfl
       replace hr208 := hr208.un (J := []) s202
       replace s202 := un_stepL (J := []) (L' := [2]) s202 rfl rfl
       obtain rfl := Option.some.inj H
       replace hB0_0 := hB0_0.step s202 rfl
       replace hO0_0_0 := hO0_0_0.step s202 rfl rfl
       replace hM0_0_1 := hM0_0_1.step s202 rfl
       replace HF := HF.step s202 rfl
       exact ⟨_, Or.inl ⟨_, rfl, A205, c206, pv0_0_0, rfl, HF.out, hB204, hl207, hr208, hB0_0, hO0_0_0, hM0_0_1⟩⟩
      ·
       refine Or.inl ⟨_, rfl, ?_⟩
       dsimp only at H
       replace hB209 := Bk.unO (J := []) 0 hB209 s203 rfl rfl rfl
       replace hr213 := hr213.un (J := []) s203
       replace s203 := un_stepL (J := []) (L' := [2]) s203 rfl rfl
       refine WL.nil <|
        WC.seq <|
        WC.region <|
        E rfl (mv (pp pb0 0) s0_188) ?_
       obtain ⟨z214, hz214, H⟩ := bindE H
       refine WL.op rfl ?_
       replace hB0_0 := hB0_0.step s203 rfl
       replace hO0_0_0 := hO0_0_0.step s203 rfl rfl
       replace hM0_0_1 := hM0_0_1.step s203 rfl
       replace HF := HF.step s203 rfl
       refine OW.callP [pp pb0 0] rfl Tryz.func32 (by kernel_rfl) (by kernel_rfl) (map_cons' rfl rfl) (hR.syntax_reader_formula _ _ pb0 A210 c211 pb0_0 pv0_0_0 pb0_0_1 (a0 := q201.2) (a0_0 := a0_0) hz214 (HF.ten (V := [0]) (L := [2, 3, 4, 5]) rfl) (Bk.vw hB209 rfl) (Row.vw hr213 rfl) hl212 (Bk.vw hB0_0 rfl) (Own.vw hO0_0_0 rfl rfl) (Mp.vw hM0_0_1 rfl)) ?_
       rintro _ w215 ⟨o216, (⟨p217, rfl, A222, c223, v227, rfl, s219, hB221, hl224, hr225, hB226, hO228, hM229⟩ | ⟨q218, rfl, A231, c232, v236, rfl, s220, hB230, hl233, hr234, hB235, hO237, hM238⟩)⟩
       ·
        refine Or.inr ⟨_, rfl, ?_⟩
        dsimp only at H
        replace hB221 := Bk.unO (J := []) 0 hB221 s219 rfl rfl rfl
        replace hr225 := hr225.un (J := []) s219
        replace hB226 := Bk.unO (J := []) 1 hB226 s219 rfl rfl rfl
        replace hO228 := Own.unO (J := []) 2 hO228 s219 rfl rfl rfl
        replace hM229 := Mp.unO (J := []) 3 hM229 s219 rfl rfl rfl
        replace s219 := un_stepL (J := []) (L' := [2, 3, 4, 5]) s219 rfl rfl
        obtain rfl := Option.some.inj H
        replace HF := HF.step s219 rfl
        exact ⟨_, Or.inl ⟨_, rfl, A222, c223, v227, rfl, HF.out, hB221, hl224, hr225, hB226, hO228, hM229⟩⟩
       ·
        refine Or.inl ⟨_, rfl, ?_⟩
        dsimp only at H
        replace hB230 := Bk.unO (J := []) 0 hB230 s220 rfl rfl rfl
        replace hr234 := hr234.un (J := []) s220
        replace hB235 := Bk.unO (J := []) 1 hB235 s220 rfl rfl rfl
        replace hO237 := Own.unO (J := []) 2 hO237 s220 rfl rfl rfl
        replace hM238 := Mp.unO (J := []) 3 hM238 s220 rfl rfl rfl
        replace s220 := un_stepL (J := []) (L' := [2, 3, 4, 5]) s220 rfl rfl
        refine E rfl (sg (ii q218.1) rfl) <|
         WL.nil ?_
        obtain ⟨z244, hz244, H⟩ := bindE H
        refine WC.cut (fun ρ_ w_ => ∃ (o_ : Tags) (x239 : T_syntax_reader) (A240 : Option Addr) (c241 : Nat), Fm o0 w0 o_ w_ [2, 3, 4, 5] ∧ Bk o_ w_ 2 pb0 [pp pb0_0 0, .slice A240 x239.f_l.length c241, ii x239.f_i, ii x239.f_names, ii x239.f_nest, .bool x239.f_counts, .bool x239.f_full] 80 ∧ Row T_api_Token.rep (fun b_ => o_ b_ = 0) (fun b_ => o_ b_ = 0) w_ A240 x239.f_l ∧ x239.f_l.length ≤ c241 ∧ Bk o_ w_ 3 pb0_0 [v236, .map (some pb0_0_1)] 56 ∧ Own T_api_Node.rep 60 4 o_ w_ v236 q218.2.2.1.f_rows ∧ Mp (fun x_ : T_api_Node => Value.agg #[ii x_.f_Kind, encS x_.f_Name, ii x_.f_L, ii x_.f_R]) (fun v_ : Int => ii v_) 5 o_ w_ pb0_0_1 q218.2.2.2 ∧ ρ_ 0 = pp pb0 0 ∧ ρ_ 2 = ii 0 ∧ ρ_ 5 = ii q218.1 ∧ z244 = .inr x239) ?case245 ?_
        case case245 =>
         rintro ρ248 w246 ⟨o247, x239, A240, c241, HF, hB251, hr242, hl243, hB235, hO237, hM238, s0_238, s2_238, s5_238, rfl⟩
         replace H : _ = some _ := H
         dsimp only at H
         refine WC.seq <|
          WC.region <|
          E rfl (mv (pp pb0 0) s0_238) <|
          E rfl (ex_nilCheck rfl) <|
          E rfl (ex_fieldAddr rfl U80 rfl sz3) <|
          E rfl (ex_load1 rfl U3 rfl (hB251.cell rfl)) <|
          E rfl (e2 bin_sub64 rfl rfl) <|
          E rfl (ex_nilCheck rfl) <|
          E rfl (ex_fieldAddr rfl U80 rfl sz3) <|
          WL.op rfl <|
          OW.store [pp pb0_0 0, .slice A240 x239.f_l.length c241, ii x239.f_i, ii x239.f_names, ii (wrap64 (x239.f_nest - 1)), .bool x239.f_counts, .bool x239.f_full] rfl (vs := [ii (wrap64 (x239.f_nest - 1))]) rfl sz3 hB251 (Nat.le_of_ble_eq_true rfl) (oa rfl) rfl ?_
         intro w249 s250 hB251
         refine WL.nil <|
          WC.seq <|
          WC.region <|
          E rfl (mv (ii q218.1) s5_238) <|
          E rfl (sg (ii q218.1) rfl) <|
          WL.nil <|
          WC.ret ?_
         obtain rfl := Option.some.inj H
         replace hr242 := hr242.step s250 rfl
         replace hB235 := hB235.step s250 rfl
         replace hO237 := hO237.step s250 rfl rfl
         replace hM238 := hM238.step s250 rfl
         replace HF := HF.step s250 rfl
         exact ⟨_, (.tmp _ rfl .nil), _, Or.inr ⟨_, rfl, A240, c241, v236, rfl, HF.out, hB251, hl243, hr242, hB235, hO237, hM238⟩⟩
        have Ho252 := H
        replace H := hz244
        refine WC.seq <|
         WC.region <|
         E rfl (mv (pp pb0 0) s0_188) ?_
        obtain ⟨z253, hz253, H⟩ := bindE H
        refine WL.op rfl ?_
        replace HF := HF.step s220 rfl
        refine OW.callP [pp pb0 0, encS ([41] : List UInt8)] rfl Tryz.func58 (by kernel_rfl) (by kernel_rfl) (map_cons' rfl (map_cons' rfl rfl)) (syntax_reader_sign.calls _ _ pb0 A231 c232 pb0_0 v236 pb0_0_1 (a0 := q218.2.1) (a0_0 := q218.2.2.1) hz253 (HF.ten (V := [0]) (L := [2, 3, 4, 5]) rfl) (Bk.vw hB230 rfl) (Row.vw hr234 rfl) hl233 (Bk.vw hB235 rfl) (Own.vw hO237 rfl rfl) (Mp.vw hM238 rfl)) ?_
        rintro _ w254 ⟨o255, (⟨p256, rfl, A261, c262, rfl, s258, hB260, hl263, hr264⟩ | ⟨q257, rfl, A266, c267, rfl, s259, hB265, hl268, hr269⟩)⟩
        ·
         refine Or.inr ⟨_, rfl, ?_⟩
         dsimp only at H
         replace hB260 := Bk.unO (J := []) 0 hB260 s258 rfl rfl rfl
         replace hr264 := hr264.un (J := []) s258
         replace s258 := un_stepL (J := []) (L' := [2]) s258 rfl rfl
         obtain rfl := Option.some.inj H
         replace H := Ho252
         dsimp only at H
         obtain rfl := Option.some.inj H
         replace hB235 := hB235.step s258 rfl
         replace hO237 := hO237.step s258 rfl rfl
         replace hM238 := hM238.step s258 rfl
         replace HF := HF.step s258 rfl
         exact ⟨_, Or.inl ⟨_, rfl, A261, c262, v236, rfl, HF.out, hB260, hl263, hr264, hB235, hO237, hM238⟩⟩
        ·
         refine Or.inl ⟨_, rfl, ?_⟩
         dsimp only at H
         replace hB265 := Bk.unO (J := []) 0 hB265 s259 rfl rfl rfl
         replace hr269 := hr269.un (J := []) s259
         replace s259 := un_stepL (J := []) (L' := [2]) s259 rfl rfl
         refine E rfl (ex_not (b := q257.1) rfl) <|
          WL.nil ?_
         rcases condE H with ⟨c270, H⟩ | ⟨c270, H⟩
         ·
          refine WC.cond_t (vb c270 rfl) <|
           WC.region <|
           E rfl (mv (pp pb0 0) s0_188) ?_
          obtain ⟨z271, hz271, H⟩ := bindE H
          refine WL.op rfl ?_
          replace hB235 := hB235.step s259 rfl
          replace hO237 := hO237.step s259 rfl rfl
          replace hM238 := hM238.step s259 rfl
          replace HF := HF.step s259 rfl
          refine OW.callP [pp pb0 0, ii 41] rfl Tryz.func34 (by kernel_rfl) (by kernel_rfl) (map_cons' rfl (map_cons' rfl rfl)) (syntax_reader_fail.calls _ _ pb0 A266 c267 pb0_0 v236 pb0_0_1 (a0 := q257.2) (a0_0 := q218.2.2.1) hz271 (HF.ten (V := [0]) (L := [2, 3, 4, 5]) rfl) (Bk.vw hB265 rfl) (Row.vw hr269 rfl) hl268 (Bk.vw hB235 rfl) (Own.vw hO237 rfl rfl) (Mp.vw hM238 rfl)) ?_
          rintro _ w272 ⟨o273, (⟨p274, rfl, rfl, s276⟩ | ⟨q275, rfl, rfl, s277⟩)⟩
          ·
           refine Or.inr ⟨_, rfl, ?_⟩
           dsimp only at H
           replace s276 := un_stepL (J := []) (L' := []) s276 rfl rfl
           obtain rfl := Option.some.inj H
           replace H := Ho252
           dsimp only at H
           obtain rfl := Option.some.inj H
           replace hB235 := hB235.step s276 rfl
           replace hO237 := hO237.step s276 rfl rfl
           replace hM238 := hM238.step s276 rfl
           replace hB265 := hB265.step s276 rfl
           replace hr269 := hr269.step s276 rfl
           replace HF := HF.step s276 rfl
           exact ⟨_, Or.inl ⟨_, rfl, A266, c267, v236, rfl, HF.out, hB265, hl268, hr269, hB235, hO237, hM238⟩⟩
          ·
           refine Or.inl ⟨_, rfl, ?_⟩
           dsimp only at H
           replace s277 := un_stepL (J := []) (L' := []) s277 rfl rfl
           refine WL.nil ?_
           obtain rfl := Option.some.inj H
           replace hB235 := hB235.step s277 rfl
           replace hO237 := hO237.step s277 rfl rfl
           replace hM238 := hM238.step s277 rfl
           replace hB265 := hB265.step s277 rfl
           replace hr269 := hr269.step s277 rfl
           replace HF := HF.step s277 rfl
           exact ⟨_, q257.2, _, _, HF, hB265, hr269, hl268, hB235, hO237, hM238, s0_188, s2_188, rfl, rfl⟩
         ·
          refine WC.cond_f (vb c270 rfl) <|
           WC.skip ?_
          obtain rfl := Option.some.inj H
          replace hB235 := hB235.step s259 rfl
          replace hO237 := hO237.step s259 rfl rfl
          replace hM238 := hM238.step s259 rfl
          replace HF := HF.step s259 rfl
          exact ⟨_, q257.2, _, _, HF, hB265, hr269, hl268, hB235, hO237, hM238, s0_188, s2_188, rfl, rfl⟩
     have Ho278 := H
     replace H := hz189
     refine WC.seq <|
      WC.region <|
      E rfl (mv (pp pb0 0) s0_181) <|
      E rfl (ex_nilCheck rfl) <|
      E rfl (ex_fieldAddr rfl U80 rfl sz3) <|
      E rfl (ex_load1 rfl U3 rfl (hB125.cell rfl)) <|
      E rfl (e2 bin_eql rfl rfl) <|
      WL.nil ?_
     rcases condE H with ⟨c279, H⟩ | ⟨c279, H⟩
     ·
      refine WC.cond_t (vb c279 rfl) <|
       WC.region <|
       E rfl (mv (pp pb0 0) s0_181) ?_
      obtain ⟨z280, hz280, H⟩ := bindE H
      refine WL.op rfl <|
       OW.callP [pp pb0 0, ii 41] rfl Tryz.func34 (by kernel_rfl) (by kernel_rfl) (map_cons' rfl (map_cons' rfl rfl)) (syntax_reader_fail.calls _ _ pb0 A126 c127 pb0_0 pv0_0_0 pb0_0_1 (a0 := q117.2) (a0_0 := a0_0) hz280 (HF.ten (V := [0]) (L := [2, 3, 4, 5]) rfl) (Bk.vw hB125 rfl) (Row.vw hr129 rfl) hl128 (Bk.vw hB0_0 rfl) (Own.vw hO0_0_0 rfl rfl) (Mp.vw hM0_0_1 rfl)) ?_
      rintro _ w281 ⟨o282, (⟨p283, rfl, rfl, s285⟩ | ⟨q284, rfl, rfl, s286⟩)⟩
      ·
       refine Or.inr ⟨_, rfl, ?_⟩
       dsimp only at H
       replace s285 := un_stepL (J := []) (L' := []) s285 rfl rfl
       obtain rfl := Option.some.inj H
       replace H := Ho278
       dsimp only at H
       obtain rfl := Option.some.inj H
       replace hB125 := hB125.step s285 rfl
       replace hr129 := hr129.step s285 rfl
       replace hB0_0 := hB0_0.step s285 rfl
       replace hO0_0_0 := hO0_0_0.step s285 rfl rfl
       replace hM0_0_1 := hM0_0_1.step s285 rfl
       replace HF := HF.step s285 rfl
       exact ⟨_, Or.inl ⟨_, rfl, A126, c127, pv0_0_0, rfl, HF.out, hB125, hl128, hr129, hB0_0, hO0_0_0, hM0_0_1⟩⟩
      ·
       refine Or.inl ⟨_, rfl, ?_⟩
       dsimp only at H
       replace s286 := un_stepL (J := []) (L' := []) s286 rfl rfl
       refine WL.nil ?_
       obtain rfl := Option.some.inj H
       replace hB125 := hB125.step s286 rfl
       replace hr129 := hr129.step s286 rfl
       replace hB0_0 := hB0_0.step s286 rfl
       replace hO0_0_0 := hO0_0_0.step s286 rfl rfl
       replace hM0_0_1 := hM0_0_1.step s286 rfl
       replace HF := HF.step s286 rfl
       exact ⟨_, HF, hB125, hr129, hB0_0, hO0_0_0, hM0_0_1, s0_181, s2_181, rfl⟩
     ·
      refine WC.cond_f (vb c279 rfl) <|
       WC.skip ?_
      obtain rfl := Option.some.inj H
      exact ⟨_, HF, hB125, hr129, hB0_0, hO0_0_0, hM0_0_1, s0_181, s2_181, rfl⟩
    ·
     refine WC.cond_f (vb c188 s19_182) ?_
     obtain ⟨z288, hz288, H⟩ := bindE H
     refine WC.cut (fun ρ_ w_ => ∃ (o_ : Tags), Fm o0 w0 o_ w_ [2, 3, 4, 5] ∧ Bk o_ w_ 2 pb0 [pp pb0_0 0, .slice A126 q117.2.f_l.length c127, ii q117.2.f_i, ii q117.2.f_names, ii q117.2.f_nest, .bool q117.2.f_counts, .bool q117.2.f_full] 80 ∧ Row T_api_Token.rep (fun b_ => o_ b_ = 0) (fun b_ => o_ b_ = 0) w_ A126 q117.2.f_l ∧ Bk o_ w_ 3 pb0_0 [pv0_0_0, .map (some pb0_0_1)] 56 ∧ Own T_api_Node.rep 60 4 o_ w_ pv0_0_0 a0_0.f_rows ∧ Mp (fun x_ : T_api_Node => Value.agg #[ii x_.f_Kind, encS x_.f_Name, ii x_.f_L, ii x_.f_R]) (fun v_ : Int => ii v_) 5 o_ w_ pb0_0_1 a0_0_1 ∧ Bk o_ w_ 40 b105 [ii z101.f_Kind, encS z101.f_Text, ii z101.f_Int, ii z101.f_At.f_Line, ii z101.f_At.f_Col, ii z101.f_At.f_Off] 76 ∧ ρ_ 0 = pp pb0 0 ∧ ρ_ 2 = ii 0 ∧ ρ_ 3 = pp b105 0 ∧ ρ_ 59 = .bool z288) ?case289 ?_
     case case289 =>
      rintro ρ292 w290 ⟨o291, HF, hB125, hr129, hB0_0, hO0_0_0, hM0_0_1, hB112, s0_286, s2_286, s3_286, s59_287⟩
      rcases condE H with ⟨c293, H⟩ | ⟨c293, H⟩
      ·
       refine WC.cond_t (vb c293 s59_287) <|
        WC.seq <|
        WC.region <|
        E rfl (mv (pp pb0 0) s0_286) ?_
       obtain ⟨z294, hz294, H⟩ := bindE H
       refine WL.op rfl <|
        OW.callP [pp pb0 0] rfl Tryz.func81 (by kernel_rfl) (by kernel_rfl) (map_cons' rfl rfl) (syntax_reader_take.calls _ _ pb0 A126 c127 pb0_0 pv0_0_0 pb0_0_1 (a0 := q117.2) (a0_0 := a0_0) hz294 (HF.ten (V := [0]) (L := [2, 3, 4, 5]) rfl) (Bk.vw hB125 rfl) (Row.vw hr129 rfl) hl128 (Bk.vw hB0_0 rfl) (Own.vw hO0_0_0 rfl rfl) (Mp.vw hM0_0_1 rfl)) ?_
       rintro _ w295 ⟨o296, (⟨p297, rfl, A302, c303, rfl, s299, hB301, hl304, hr305⟩ | ⟨q298, rfl, A307, c308, rfl, s300, hB306, hl309, hr310⟩)⟩
       ·
        refine Or.inr ⟨_, rfl, ?_⟩
        dsimp only at H
        replace hB301 := Bk.unO (J := []) 0 hB301 s299 rfl rfl rfl
        replace hr305 := hr305.un (J := []) s299
        replace s299 := un_stepL (J := []) (L' := [2]) s299 rfl rfl
        obtain rfl := Option.some.inj H
        replace hB0_0 := hB0_0.step s299 rfl
        replace hO0_0_0 := hO0_0_0.step s299 rfl rfl
        replace hM0_0_1 := hM0_0_1.step s299 rfl
        replace HF := HF.step s299 rfl
        exact ⟨_, Or.inl ⟨_, rfl, A302, c303, pv0_0_0, rfl, HF.out, hB301, hl304, hr305, hB0_0, hO0_0_0, hM0_0_1⟩⟩
       ·
        refine Or.inl ⟨_, rfl, ?_⟩
        dsimp only at H
        replace hB306 := Bk.unO (J := []) 0 hB306 s300 rfl rfl rfl
        replace hr310 := hr310.un (J := []) s300
        replace s300 := un_stepL (J := []) (L' := [2]) s300 rfl rfl
        refine WL.nil <|
         WC.seq <|
         WC.region <|
         E rfl (mv (pp pb0 0) s0_286) ?_
        obtain ⟨z311, hz311, H⟩ := bindE H
        refine WL.op rfl ?_
        replace hB0_0 := hB0_0.step s300 rfl
        replace hO0_0_0 := hO0_0_0.step s300 rfl rfl
        replace hM0_0_1 := hM0_0_1.step s300 rfl
        replace HF := HF.step s300 rfl
        refine OW.call [pp pb0 0, ii 2, encS ([] : List UInt8), ii 0, ii 0] rfl Tryz.func59 (by kernel_rfl) (by kernel_rfl) (map_cons' rfl (map_cons' rfl (map_cons' rfl (map_cons' rfl (map_cons' rfl rfl))))) (syntax_reader_node.calls k _ _ pb0 A307 c308 pb0_0 pv0_0_0 pb0_0_1 (a0 := q298.2) (a0_0 := a0_0) hz311 (HF.ten (V := [0]) (L := [2, 3, 4, 5]) rfl) (Bk.vw hB306 rfl) (Row.vw hr310 rfl) hl309 (Bk.vw hB0_0 rfl) (Own.vw hO0_0_0 rfl rfl) (Mp.vw hM0_0_1 rfl)) ?_
        rintro _ w312 ⟨o313, A316, c317, v321, rfl, s314, hB315, hl318, hr319, hB320, hO322, hM323⟩
        refine ⟨_, rfl, ?_⟩
        replace hB315 := Bk.unO (J := []) 0 hB315 s314 rfl rfl rfl
        replace hr319 := hr319.un (J := []) s314
        replace hB320 := Bk.unO (J := []) 1 hB320 s314 rfl rfl rfl
        replace hO322 := Own.unO (J := []) 2 hO322 s314 rfl rfl rfl
        replace hM323 := Mp.unO (J := []) 3 hM323 s314 rfl rfl rfl
        replace s314 := un_stepL (J := []) (L' := [2, 3, 4, 5]) s314 rfl rfl
        refine E rfl (sg (ii z311.1) rfl) <|
         WL.nil <|
         WC.seq <|
         WC.region <|
         E rfl (mv (pp pb0 0) s0_286) <|
         E rfl (mv (ii z311.1) rfl) <|
         E rfl (mv (ii z311.1) rfl) ?_
        obtain ⟨z324, hz324, H⟩ := bindE H
        refine WL.op rfl ?_
        replace HF := HF.step s314 rfl
        refine OW.call [pp pb0 0, ii 5, encS ([] : List UInt8), ii z311.1, ii z311.1] rfl Tryz.func59 (by kernel_rfl) (by kernel_rfl) (map_cons' rfl (map_cons' rfl (map_cons' rfl (map_cons' rfl (map_cons' rfl rfl))))) (syntax_reader_node.calls k _ _ pb0 A316 c317 pb0_0 v321 pb0_0_1 (a0 := z311.2.1) (a0_0 := z311.2.2.1) hz324 (HF.ten (V := [0]) (L := [2, 3, 4, 5]) rfl) (Bk.vw hB315 rfl) (Row.vw hr319 rfl) hl318 (Bk.vw hB320 rfl) (Own.vw hO322 rfl rfl) (Mp.vw hM323 rfl)) ?_
        rintro _ w325 ⟨o326, A329, c330, v334, rfl, s327, hB328, hl331, hr332, hB333, hO335, hM336⟩
        refine ⟨_, rfl, ?_⟩
        replace hB328 := Bk.unO (J := []) 0 hB328 s327 rfl rfl rfl
        replace hr332 := hr332.un (J := []) s327
        replace hB333 := Bk.unO (J := []) 1 hB333 s327 rfl rfl rfl
        replace hO335 := Own.unO (J := []) 2 hO335 s327 rfl rfl rfl
        replace hM336 := Mp.unO (J := []) 3 hM336 s327 rfl rfl rfl
        replace s327 := un_stepL (J := []) (L' := [2, 3, 4, 5]) s327 rfl rfl
        refine E rfl (sg (ii z324.1) rfl) <|
         WL.nil <|
         WC.ret ?_
        obtain rfl := Option.some.inj H
        replace HF := HF.step s327 rfl
        exact ⟨_, (.tmp _ rfl .nil), _, Or.inr ⟨_, rfl, A329, c330, v334, rfl, HF.out, hB328, hl331, hr332, hB333, hO335, hM336⟩⟩
      ·
       refine WC.cond_f (vb c293 s59_287) ?_
       obtain ⟨z338, hz338, H⟩ := bindE H
       refine WC.cut (fun ρ_ w_ => ∃ (o_ : Tags), Fm o0 w0 o_ w_ [2, 3, 4, 5] ∧ Bk o_ w_ 2 pb0 [pp pb0_0 0, .slice A126 q117.2.f_l.length c127, ii q117.2.f_i, ii q117.2.f_names, ii q117.2.f_nest, .bool q117.2.f_counts, .bool q117.2.f_full] 80 ∧ Row T_api_Token.rep (fun b_ => o_ b_ = 0) (fun b_ => o_ b_ = 0) w_ A126 q117.2.f_l ∧ Bk o_ w_ 3 pb0_0 [pv0_0_0, .map (some pb0_0_1)] 56 ∧ Own T_api_Node.rep 60 4 o_ w_ pv0_0_0 a0_0.f_rows ∧ Mp (fun x_ : T_api_Node => Value.agg #[ii x_.f_Kind, encS x_.f_Name, ii x_.f_L, ii x_.f_R]) (fun v_ : Int => ii v_) 5 o_ w_ pb0_0_1 a0_0_1 ∧ Bk o_ w_ 40 b105 [ii z101.f_Kind, encS z101.f_Text, ii z101.f_Int, ii z101.f_At.f_Line, ii z101.f_At.f_Col, ii z101.f_At.f_Off] 76 ∧ ρ_ 0 = pp pb0 0 ∧ ρ_ 2 = ii 0 ∧ ρ_ 3 = pp b105 0 ∧ ρ_ 76 = .bool z338) ?case339 ?_
       case case339 =>
        rintro ρ342 w340 ⟨o341, HF, hB125, hr129, hB0_0, hO0_0_0, hM0_0_1, hB112, s0_336, s2_336, s3_336, s76_337⟩
        rcases condE H with ⟨c343, H⟩ | ⟨c343, H⟩
        ·
         refine WC.cond_t (vb c343 s76_337) <|
          WC.seq <|
          WC.region <|
          E rfl (mv (pp pb0 0) s0_336) ?_
         obtain ⟨z344, hz344, H⟩ := bindE H
         refine WL.op rfl <|
          OW.callP [pp pb0 0] rfl Tryz.func81 (by kernel_rfl) (by kernel_rfl) (map_cons' rfl rfl) (syntax_reader_take.calls _ _ pb0 A126 c127 pb0_0 pv0_0_0 pb0_0_1 (a0 := q117.2) (a0_0 := a0_0) hz344 (HF.ten (V := [0]) (L := [2, 3, 4, 5]) rfl) (Bk.vw hB125 rfl) (Row.vw hr129 rfl) hl128 (Bk.vw hB0_0 rfl) (Own.vw hO0_0_0 rfl rfl) (Mp.vw hM0_0_1 rfl)) ?_
         rintro _ w345 ⟨o346, (⟨p347, rfl, A352, c353, rfl, s349, hB351, hl354, hr355⟩ | ⟨q348, rfl, A357, c358, rfl, s350, hB356, hl359, hr360⟩)⟩
         ·
          refine Or.inr ⟨_, rfl, ?_⟩
          dsimp only at H
          replace hB351 := Bk.unO (J := []) 0 hB351 s349 rfl rfl rfl
          replace hr355 := hr355.un (J := []) s349
          replace s349 := un_stepL (J := []) (L' := [2]) s349 rfl rfl
          obtain rfl := Option.some.inj H
          replace hB0_0 := hB0_0.step s349 rfl
          replace hO0_0_0 := hO0_0_0.step s349 rfl rfl
          replace hM0_0_1 := hM0_0_1.step s349 rfl
          replace HF := HF.step s349 rfl
          exact ⟨_, Or.inl ⟨_, rfl, A352, c353, pv0_0_0, rfl, HF.out, hB351, hl354, hr355, hB0_0, hO0_0_0, hM0_0_1⟩⟩
         ·
          refine Or.inl ⟨_, rfl, ?_⟩
          dsimp only at H
          replace hB356 := Bk.unO (J := []) 0 hB356 s350 rfl rfl rfl
          replace hr360 := hr360.un (J := []) s350
          replace s350 := un_stepL (J := []) (L' := [2]) s350 rfl rfl
          refine WL.nil <|
           WC.seq <|
           WC.region <|
           E rfl (mv (pp pb0 0) s0_336) ?_
          obtain ⟨z361, hz361, H⟩ := bindE H
          refine WL.op rfl ?_
          replace hB0_0 := hB0_0.step s350 rfl
          replace hO0_0_0 := hO0_0_0.step s350 rfl rfl
          replace hM0_0_1 := hM0_0_1.step s350 rfl
          replace HF := HF.step s350 rfl
          refine OW.call [pp pb0 0, ii 2, encS ([] : List UInt8), ii 0, ii 0] rfl Tryz.func59 (by kernel_rfl) (by kernel_rfl) (map_cons' rfl (map_cons' rfl (map_cons' rfl (map_cons' rfl (map_cons' rfl rfl))))) (syntax_reader_node.calls k _ _ pb0 A357 c358 pb0_0 pv0_0_0 pb0_0_1 (a0 := q348.2) (a0_0 := a0_0) hz361 (HF.ten (V := [0]) (L := [2, 3, 4, 5]) rfl) (Bk.vw hB356 rfl) (Row.vw hr360 rfl) hl359 (Bk.vw hB0_0 rfl) (Own.vw hO0_0_0 rfl rfl) (Mp.vw hM0_0_1 rfl)) ?_
          rintro _ w362 ⟨o363, A366, c367, v371, rfl, s364, hB365, hl368, hr369, hB370, hO372, hM373⟩
          refine ⟨_, rfl, ?_⟩
          replace hB365 := Bk.unO (J := []) 0 hB365 s364 rfl rfl rfl
          replace hr369 := hr369.un (J := []) s364
          replace hB370 := Bk.unO (J := []) 1 hB370 s364 rfl rfl rfl
          replace hO372 := Own.unO (J := []) 2 hO372 s364 rfl rfl rfl
          replace hM373 := Mp.unO (J := []) 3 hM373 s364 rfl rfl rfl
          replace s364 := un_stepL (J := []) (L' := [2, 3, 4, 5]) s364 rfl rfl
          refine E rfl (sg (ii z361.1) rfl) <|
           WL.nil <|
           WC.ret ?_
          obtain rfl := Option.some.inj H
          replace HF := HF.step s364 rfl
          exact ⟨_, (.tmp _ rfl .nil), _, Or.inr ⟨_, rfl, A366, c367, v371, rfl, HF.out, hB365, hl368, hr369, hB370, hO372, hM373⟩⟩
        ·
         refine WC.cond_f (vb c343 s76_337) ?_
         obtain ⟨z375, hz375, H⟩ := bindE H
         refine WC.cut (fun ρ_ w_ => ∃ (o_ : Tags), Fm o0 w0 o_ w_ [2, 3, 4, 5] ∧ Bk o_ w_ 2 pb0 [pp pb0_0 0, .slice A126 q117.2.f_l.length c127, ii q117.2.f_i, ii q117.2.f_names, ii q117.2.f_nest, .bool q117.2.f_counts, .bool q117.2.f_full] 80 ∧ Row T_api_Token.rep (fun b_ => o_ b_ = 0) (fun b_ => o_ b_ = 0) w_ A126 q117.2.f_l ∧ Bk o_ w_ 3 pb0_0 [pv0_0_0, .map (some pb0_0_1)] 56 ∧ Own T_api_Node.rep 60 4 o_ w_ pv0_0_0 a0_0.f_rows ∧ Mp (fun x_ : T_api_Node => Value.agg #[ii x_.f_Kind, encS x_.f_Name, ii x_.f_L, ii x_.f_R]) (fun v_ : Int => ii v_) 5 o_ w_ pb0_0_1 a0_0_1 ∧ Bk o_ w_ 40 b105 [ii z101.f_Kind, encS z101.f_Text, ii z101.f_Int, ii z101.f_At.f_Line, ii z101.f_At.f_Col, ii z101.f_At.f_Off] 76 ∧ ρ_ 0 = pp pb0 0 ∧ ρ_ 2 = ii 0 ∧ ρ_ 3 = pp b105 0 ∧ ρ_ 89 = .bool z375) ?case376 ?_
         case case376 =>
          rintro ρ379 w377 ⟨o378, HF, hB125, hr129, hB0_0, hO0_0_0, hM0_0_1, hB112, s0_373, s2_373, s3_373, s89_374⟩
          rcases condE H with ⟨c380, H⟩ | ⟨c380, H⟩
          ·
           refine WC.cond_t (vb c380 s89_374) <|
            WC.seq <|
            WC.region <|
            E rfl (mv (pp pb0 0) s0_373) ?_
           obtain ⟨z381, hz381, H⟩ := bindE H
           refine WL.op rfl <|
            OW.callP [pp pb0 0] rfl Tryz.func81 (by kernel_rfl) (by kernel_rfl) (map_cons' rfl rfl) (syntax_reader_take.calls _ _ pb0 A126 c127 pb0_0 pv0_0_0 pb0_0_1 (a0 := q117.2) (a0_0 := a0_0) hz381 (HF.ten (V := [0]) (L := [2, 3, 4, 5]) rfl) (Bk.vw hB125 rfl) (Row.vw hr129 rfl) hl128 (Bk.vw hB0_0 rfl) (Own.vw hO0_0_0 rfl rfl) (Mp.vw hM0_0_1 rfl)) ?_
           rintro _ w382 ⟨o383, (⟨p384, rfl, A389, c390, rfl, s386, hB388, hl391, hr392⟩ | ⟨q385, rfl, A394, c395, rfl, s387, hB393, hl396, hr397⟩)⟩
           ·
            refine Or.inr ⟨_, rfl, ?_⟩
            dsimp only at H
            replace hB388 := Bk.unO (J := []) 0 hB388 s386 rfl rfl rfl
            replace hr392 := hr392.un (J := []) s386
            replace s386 := un_stepL (J := []) (L' := [2]) s386 rfl rfl
            obtain rfl := Option.some.inj H
            replace hB0_0 := hB0_0.step s386 rfl
            replace hO0_0_0 := hO0_0_0.step s386 rfl rfl
            replace hM0_0_1 := hM0_0_1.step s386 rfl
            replace HF := HF.step s386 rfl
            exact ⟨_, Or.inl ⟨_, rfl, A389, c390, pv0_0_0, rfl, HF.out, hB388, hl391, hr392, hB0_0, hO0_0_0, hM0_0_1⟩⟩
           ·
            refine Or.inl ⟨_, rfl, ?_⟩
            dsimp only at H
            replace hB393 := Bk.unO (J := []) 0 hB393 s387 rfl rfl rfl
            replace hr397 := hr397.un (J := []) s387
            replace s387 := un_stepL (J := []) (L' := [2]) s387 rfl rfl
            refine WL.nil <|
             WC.seq <|
             WC.region <|
             E rfl (mv (pp pb0 0) s0_373) <|
             E rfl (ex_fieldAddr s3_373 U76 rfl sz9) ?_
            replace hB112 := hB112.step s387 rfl
            refine E rfl (ex_load1 rfl U9 rfl (hB112.cell rfl)) ?_
            obtain ⟨z398, hz398, H⟩ := bindE H
            refine WL.op rfl ?_
            replace hB0_0 := hB0_0.step s387 rfl
            replace hO0_0_0 := hO0_0_0.step s387 rfl rfl
            replace hM0_0_1 := hM0_0_1.step s387 rfl
            replace HF := HF.step s387 rfl
            refine OW.call [pp pb0 0, ii 1, encS z101.f_Text, ii 0, ii 0] rfl Tryz.func59 (by kernel_rfl) (by kernel_rfl) (map_cons' rfl (map_cons' rfl (map_cons' rfl (map_cons' rfl (map_cons' rfl rfl))))) (syntax_reader_node.calls k _ _ pb0 A394 c395 pb0_0 pv0_0_0 pb0_0_1 (a0 := q385.2) (a0_0 := a0_0) hz398 (HF.ten (V := [0]) (L := [2, 3, 4, 5]) rfl) (Bk.vw hB393 rfl) (Row.vw hr397 rfl) hl396 (Bk.vw hB0_0 rfl) (Own.vw hO0_0_0 rfl rfl) (Mp.vw hM0_0_1 rfl)) ?_
            rintro _ w399 ⟨o400, A403, c404, v408, rfl, s401, hB402, hl405, hr406, hB407, hO409, hM410⟩
            refine ⟨_, rfl, ?_⟩
            replace hB402 := Bk.unO (J := []) 0 hB402 s401 rfl rfl rfl
            replace hr406 := hr406.un (J := []) s401
            replace hB407 := Bk.unO (J := []) 1 hB407 s401 rfl rfl rfl
            replace hO409 := Own.unO (J := []) 2 hO409 s401 rfl rfl rfl
            replace hM410 := Mp.unO (J := []) 3 hM410 s401 rfl rfl rfl
            replace s401 := un_stepL (J := []) (L' := [2, 3, 4, 5]) s401 rfl rfl
            refine E rfl (sg (ii z398.1) rfl) <|
             WL.nil <|
             WC.ret ?_
            obtain rfl := Option.some.inj H
            replace HF := HF.step s401 rfl
            exact ⟨_, (.tmp _ rfl .nil), _, Or.inr ⟨_, rfl, A403, c404, v408, rfl, HF.out, hB402, hl405, hr406, hB407, hO409, hM410⟩⟩
          ·
           refine WC.cond_f (vb c380 s89_374) <|
            WC.skip <|
            WC.seq <|
            WC.region <|
            E rfl (mv (pp pb0 0) s0_373) ?_
           obtain ⟨z411, hz411, H⟩ := bindE H
           refine WL.op rfl <|
            OW.callP [pp pb0 0, ii 41] rfl Tryz.func34 (by kernel_rfl) (by kernel_rfl) (map_cons' rfl (map_cons' rfl rfl)) (syntax_reader_fail.calls _ _ pb0 A126 c127 pb0_0 pv0_0_0 pb0_0_1 (a0 := q117.2) (a0_0 := a0_0) hz411 (HF.ten (V := [0]) (L := [2, 3, 4, 5]) rfl) (Bk.vw hB125 rfl) (Row.vw hr129 rfl) hl128 (Bk.vw hB0_0 rfl) (Own.vw hO0_0_0 rfl rfl) (Mp.vw hM0_0_1 rfl)) ?_
           rintro _ w412 ⟨o413, (⟨p414, rfl, rfl, s416⟩ | ⟨q415, rfl, rfl, s417⟩)⟩
           ·
            refine Or.inr ⟨_, rfl, ?_⟩
            dsimp only at H
            replace s416 := un_stepL (J := []) (L' := []) s416 rfl rfl
            obtain rfl := Option.some.inj H
            replace hB125 := hB125.step s416 rfl
            replace hr129 := hr129.step s416 rfl
            replace hB0_0 := hB0_0.step s416 rfl
            replace hO0_0_0 := hO0_0_0.step s416 rfl rfl
            replace hM0_0_1 := hM0_0_1.step s416 rfl
            replace HF := HF.step s416 rfl
            exact ⟨_, Or.inl ⟨_, rfl, A126, c127, pv0_0_0, rfl, HF.out, hB125, hl128, hr129, hB0_0, hO0_0_0, hM0_0_1⟩⟩
           ·
            refine Or.inl ⟨_, rfl, ?_⟩
            dsimp only at H
            replace s417 := un_stepL (J := []) (L' := []) s417 rfl rfl
            refine WL.nil <|
             WC.seq <|
             WC.region <|
             E rfl (sg (ii 0) rfl) <|
             WL.nil <|
             WC.ret ?_
            obtain rfl := Option.some.inj H
            replace hB125 := hB125.step s417 rfl
            replace hr129 := hr129.step s417 rfl
            replace hB0_0 := hB0_0.step s417 rfl
            replace hO0_0_0 := hO0_0_0.step s417 rfl rfl
            replace hM0_0_1 := hM0_0_1.step s417 rfl
            replace HF := HF.step s417 rfl
            exact ⟨_, (.tmp _ rfl .nil), _, Or.inr ⟨_, rfl, A126, c127, pv0_0_0, rfl, HF.out, hB125, hl128, hr129, hB0_0, hO0_0_0, hM0_0_1⟩⟩
         have Ho418 := H
         replace H := hz375
         refine WC.region <|
          E rfl (ex_fieldAddr s3_336 U76 rfl sz74) <|
          E rfl (ex_load1 rfl U74 rfl (hB112.cell rfl)) <|
          E rfl (e2 bin_eql rfl rfl) <|
          E rfl (mv (.bool (z101.f_Kind == 1)) rfl) ?_
         rcases condE H with ⟨c419, H⟩ | ⟨c419, H⟩
         ·
          refine WL.guardYes rfl rfl rfl (vb c419 rfl) <|
           OW.ex rfl (ex_fieldAddr s3_336 U76 rfl sz9) <|
           WL.guardYes rfl rfl rfl (vb c419 rfl) <|
           OW.ex rfl (ex_load1 rfl U9 rfl (hB112.cell rfl)) <|
           WL.guardYes rfl rfl rfl (vb c419 rfl) ?_
          obtain ⟨z420, hz420, H⟩ := bindE H
          refine OW.call [encS z101.f_Text] rfl Tryz.func112 (by kernel_rfl) (by kernel_rfl) (map_cons' rfl rfl) (formula_Word.calls k _ _ hz420 (HF.ten (V := [0]) (L := []) rfl) ) ?_
          rintro _ w421 ⟨o422, rfl, s423⟩
          refine ⟨_, rfl, ?_⟩
          replace s423 := un_stepL (J := []) (L' := []) s423 rfl rfl
          refine E rfl (ex_pick_t (v := .bool z420) (vb c419 rfl) rfl) <|
           E rfl (sg (.bool z420) rfl) <|
           WL.nil ?_
          obtain rfl := Option.some.inj H
          replace hB125 := hB125.step s423 rfl
          replace hr129 := hr129.step s423 rfl
          replace hB0_0 := hB0_0.step s423 rfl
          replace hO0_0_0 := hO0_0_0.step s423 rfl rfl
          replace hM0_0_1 := hM0_0_1.step s423 rfl
          replace hB112 := hB112.step s423 rfl
          replace HF := HF.step s423 rfl
          exact ⟨_, HF, hB125, hr129, hB0_0, hO0_0_0, hM0_0_1, hB112, s0_336, s2_336, s3_336, rfl⟩
         ·
          refine WL.guardNo rfl rfl rfl (vb c419 rfl) <|
           WL.guardNo rfl rfl rfl (vb c419 rfl) <|
           WL.guardNo rfl rfl rfl (vb c419 rfl) <|
           E rfl (ex_pick_f (v := .bool false) (vb c419 rfl) rfl) <|
           E rfl (sg (.bool false) rfl) <|
           WL.nil ?_
          obtain rfl := Option.some.inj H
          exact ⟨_, HF, hB125, hr129, hB0_0, hO0_0_0, hM0_0_1, hB112, s0_336, s2_336, s3_336, rfl⟩
       have Ho424 := H
       replace H := hz338
       refine WC.region <|
        E rfl (ex_fieldAddr s3_286 U76 rfl sz74) <|
        E rfl (ex_load1 rfl U74 rfl (hB112.cell rfl)) <|
        E rfl (e2 bin_eql rfl rfl) <|
        E rfl (mv (.bool (z101.f_Kind == 1)) rfl) ?_
       rcases condE H with ⟨c425, H⟩ | ⟨c425, H⟩
       ·
        refine WL.guardYes rfl rfl rfl (vb c425 rfl) <|
         OW.ex rfl (ex_fieldAddr s3_286 U76 rfl sz9) <|
         WL.guardYes rfl rfl rfl (vb c425 rfl) <|
         OW.ex rfl (ex_load1 rfl U9 rfl (hB112.cell rfl)) <|
         WL.guardYes rfl rfl rfl (vb c425 rfl) <|
         OW.ex rfl (e2 bin_eql_str rfl rfl) <|
         E rfl (ex_pick_t (v := .bool (z101.f_Text == ([102, 97, 108, 115, 101] : List UInt8))) (vb c425 rfl) rfl) <|
         E rfl (sg (.bool (z101.f_Text == ([102, 97, 108, 115, 101] : List UInt8))) rfl) <|
         WL.nil ?_
        obtain rfl := Option.some.inj H
        exact ⟨_, HF, hB125, hr129, hB0_0, hO0_0_0, hM0_0_1, hB112, s0_286, s2_286, s3_286, rfl⟩
       ·
        refine WL.guardNo rfl rfl rfl (vb c425 rfl) <|
         WL.guardNo rfl rfl rfl (vb c425 rfl) <|
         WL.guardNo rfl rfl rfl (vb c425 rfl) <|
         E rfl (ex_pick_f (v := .bool false) (vb c425 rfl) rfl) <|
         E rfl (sg (.bool false) rfl) <|
         WL.nil ?_
        obtain rfl := Option.some.inj H
        exact ⟨_, HF, hB125, hr129, hB0_0, hO0_0_0, hM0_0_1, hB112, s0_286, s2_286, s3_286, rfl⟩
     have Ho426 := H
     replace H := hz288
     refine WC.region <|
      E rfl (ex_fieldAddr s3_181 U76 rfl sz74) <|
      E rfl (ex_load1 rfl U74 rfl (hB112.cell rfl)) <|
      E rfl (e2 bin_eql rfl rfl) <|
      E rfl (mv (.bool (z101.f_Kind == 1)) rfl) ?_
     rcases condE H with ⟨c427, H⟩ | ⟨c427, H⟩
     ·
      refine WL.guardYes rfl rfl rfl (vb c427 rfl) <|
       OW.ex rfl (ex_fieldAddr s3_181 U76 rfl sz9) <|
       WL.guardYes rfl rfl rfl (vb c427 rfl) <|
       OW.ex rfl (ex_load1 rfl U9 rfl (hB112.cell rfl)) <|
       WL.guardYes rfl rfl rfl (vb c427 rfl) <|
       OW.ex rfl (e2 bin_eql_str rfl rfl) <|
       E rfl (ex_pick_t (v := .bool (z101.f_Text == ([116, 114, 117, 101] : List UInt8))) (vb c427 rfl) rfl) <|
       E rfl (sg (.bool (z101.f_Text == ([116, 114, 117, 101] : List UInt8))) rfl) <|
       WL.nil ?_
      obtain rfl := Option.some.inj H
      exact ⟨_, HF, hB125, hr129, hB0_0, hO0_0_0, hM0_0_1, hB112, s0_181, s2_181, s3_181, rfl⟩
     ·
      refine WL.guardNo rfl rfl rfl (vb c427 rfl) <|
       WL.guardNo rfl rfl rfl (vb c427 rfl) <|
       WL.guardNo rfl rfl rfl (vb c427 rfl) <|
       E rfl (ex_pick_f (v := .bool false) (vb c427 rfl) rfl) <|
       E rfl (sg (.bool false) rfl) <|
       WL.nil ?_
      obtain rfl := Option.some.inj H
      exact ⟨_, HF, hB125, hr129, hB0_0, hO0_0_0, hM0_0_1, hB112, s0_181, s2_181, s3_181, rfl⟩
   have Ho428 := H
   replace H := hz183
   refine WC.region <|
    E rfl (ex_fieldAddr rfl U76 rfl sz74) ?_
   replace hB112 := hB112.step s119 rfl
   refine E rfl (ex_load1 rfl U74 rfl (hB112.cell rfl)) <|
    E rfl (e2 bin_eql rfl rfl) <|
    E rfl (mv (.bool (z101.f_Kind == 3)) rfl) ?_
   rcases condE H with ⟨c429, H⟩ | ⟨c429, H⟩
   ·
    refine WL.guardYes rfl rfl rfl (vb c429 rfl) <|
     OW.ex rfl (ex_fieldAddr rfl U76 rfl sz9) <|
     WL.guardYes rfl rfl rfl (vb c429 rfl) <|
     OW.ex rfl (ex_load1 rfl U9 rfl (hB112.cell rfl)) <|
     WL.guardYes rfl rfl rfl (vb c429 rfl) <|
     OW.ex rfl (e2 bin_eql_str rfl rfl) <|
     E rfl (ex_pick_t (v := .bool (z101.f_Text == ([40] : List UInt8))) (vb c429 rfl) rfl) <|
     E rfl (sg (.bool (z101.f_Text == ([40] : List UInt8))) rfl) <|
     WL.nil ?_
    obtain rfl := Option.some.inj H
    replace hO0_0_0 := hO0_0_0.step s119 rfl rfl
    replace hB0_0 := hB0_0.step s119 rfl
    replace hM0_0_1 := hM0_0_1.step s119 rfl
    replace HF := HF.step s119 rfl
    exact ⟨_, HF, hB125, hr129, hB0_0, hO0_0_0, hM0_0_1, hB112, rfl, rfl, rfl, rfl⟩
   ·
    refine WL.guardNo rfl rfl rfl (vb c429 rfl) <|
     WL.guardNo rfl rfl rfl (vb c429 rfl) <|
     WL.guardNo rfl rfl rfl (vb c429 rfl) <|
     E rfl (ex_pick_f (v := .bool false) (vb c429 rfl) rfl) <|
     E rfl (sg (.bool false) rfl) <|
     WL.nil ?_
    obtain rfl := Option.some.inj H
    replace hO0_0_0 := hO0_0_0.step s119 rfl rfl
    replace hB0_0 := hB0_0.step s119 rfl
    replace hM0_0_1 := hM0_0_1.step s119 rfl
    replace HF := HF.step s119 rfl
    exact ⟨_, HF, hB125, hr129, hB0_0, hO0_0_0, hM0_0_1, hB112, rfl, rfl, rfl, rfl⟩

/-! ### syntax_reader_row_syntax_reader_single -/
set_option maxRecDepth 100000 in
theorem syntax_reader_row_syntax_reader_single.callsF (k : Nat) (R : G_syntax_reader_formula) (hR : G_syntax_reader_formula.OK R) : syntax_reader_row_syntax_reader_single.Spec (syntax_reader_row_syntax_reader_single.F k R) := by
 intro o0 w0 pb0 pA0_1 pc0_1 pb0_0 pv0_0_0 pb0_0_1 a0 a1 a3 a0_0 a0_0_1 r H hO hB0 hra0_1 hla0_1 hB0_0 hO0_0_0 hM0_0_1
 have HF := Fm.refl hO [2, 3, 4, 5]
 unfold syntax_reader_row_syntax_reader_single.F at H
 refine SX.calls [pp pb0 0, encS a1, .func (.func 100) #[pp pb0 0] #[], ii a3] Tryz.func79 rfl rfl ?_
 rw [Tryz.ntmps79]
 refine WC.seq <|
  WC.region <|
  E rfl (sg (ii 0) rfl) <|
  WL.nil <|
  WC.seq <|
  WC.region <|
  E rfl (mv (.func (.func 100) #[pp pb0 0] #[]) rfl) ?_
 obtain ⟨z101, hz101, H⟩ := bindE H
 refine WL.op rfl <|
  OW.callFP [pp pb0 0] [] (show ev _ _ = .func (.func 100) #[pp pb0 0] #[] from rfl) [] rfl Tryz.func100 (by kernel_rfl) (by kernel_rfl) rfl (hR.syntax_reader_single _ _ pb0 pA0_1 pc0_1 pb0_0 pv0_0_0 pb0_0_1 (a0 := a0) (a0_0 := a0_0) hz101 (HF.ten (V := [0]) (L := [2, 3, 4, 5]) rfl) (Bk.vw hB0 rfl) (Row.vw hra0_1 rfl) hla0_1 (Bk.vw hB0_0 rfl) (Own.vw hO0_0_0 rfl rfl) (Mp.vw hM0_0_1 rfl)) ?_
 rintro _ w102 ⟨o103, (⟨p104, rfl, A109, c110, v114, rfl, s106, hB108, hl111, hr112, hB113, hO115, hM116⟩ | ⟨q105, rfl, A118, c119, v123, rfl, s107, hB117, hl120, hr121, hB122, hO124, hM125⟩)⟩
 ·
  refine Or.inr ⟨_, rfl, ?_⟩
  dsimp only at H
  replace hB108 := Bk.unO (J := []) 0 hB108 s106 rfl rfl rfl
  replace hr112 := hr112.un (J := []) s106
  replace hB113 := Bk.unO (J := []) 1 hB113 s106 rfl rfl rfl
  replace hO115 := Own.unO (J := []) 2 hO115 s106 rfl rfl rfl
  replace hM116 := Mp.unO (J := []) 3 hM116 s106 rfl rfl rfl
  replace s106 := un_stepL (J := []) (L' := [2, 3, 4, 5]) s106 rfl rfl
  obtain rfl := Option.some.inj H
  replace HF := HF.step s106 rfl
  exact ⟨_, Or.inl ⟨_, rfl, A109, c110, v114, rfl, HF.out, hB108, hl111, hr112, hB113, hO115, hM116⟩⟩
 ·
  refine Or.inl ⟨_, rfl, ?_⟩
  dsimp only at H
  replace hB117 := Bk.unO (J := []) 0 hB117 s107 rfl rfl rfl
  replace hr121 := hr121.un (J := []) s107
  replace hB122 := Bk.unO (J := []) 1 hB122 s107 rfl rfl rfl
  replace hO124 := Own.unO (J := []) 2 hO124 s107 rfl rfl rfl
  replace hM125 := Mp.unO (J := []) 3 hM125 s107 rfl rfl rfl
  replace s107 := un_stepL (J := []) (L' := [2, 3, 4, 5]) s107 rfl rfl
  refine E rfl (sg (ii q105.1) rfl) <|
   WL.nil <|
   WC.seq ?_
  obtain ⟨z146, hz146, H⟩ := bindE H
  replace HF := HF.step s107 rfl
  refine WC.for (fun k_ ρ_ w_ => ∃ (o_ : Tags) (x126 : Int) (x127 : T_syntax_reader) (x132 : T_formula_Table) (x135 : (List (T_api_Node × Int))) (A128 : Option Addr) (c129 : Nat) (v133 : Value), Fm o0 w0 o_ w_ [2, 3, 4, 5] ∧ Bk o_ w_ 2 pb0 [pp pb0_0 0, .slice A128 x127.f_l.length c129, ii x127.f_i, ii x127.f_names, ii x127.f_nest, .bool x127.f_counts, .bool x127.f_full] 80 ∧ Row T_api_Token.rep (fun b_ => o_ b_ = 0) (fun b_ => o_ b_ = 0) w_ A128 x127.f_l ∧ x127.f_l.length ≤ c129 ∧ Bk o_ w_ 3 pb0_0 [v133, .map (some pb0_0_1)] 56 ∧ Own T_api_Node.rep 60 4 o_ w_ v133 x132.f_rows ∧ Mp (fun x_ : T_api_Node => Value.agg #[ii x_.f_Kind, encS x_.f_Name, ii x_.f_L, ii x_.f_R]) (fun v_ : Int => ii v_) 5 o_ w_ pb0_0_1 x135 ∧ ρ_ 0 = pp pb0 0 ∧ ρ_ 1 = encS a1 ∧ ρ_ 2 = .func (.func 100) #[pp pb0 0] #[] ∧ ρ_ 3 = ii a3 ∧ ρ_ 8 = ii 0 ∧ ρ_ 9 = ii x126 ∧ syntax_reader_row_syntax_reader_single.l1 k a1 a3 R k_ x126 x127 x132 x135 = some z146) k (fun ρ_ w_ => ∃ (o_ : Tags) (x136 : Int) (x137 : T_syntax_reader) (x142 : T_formula_Table) (x145 : (List (T_api_Node × Int))) (A138 : Option Addr) (c139 : Nat) (v143 : Value), Fm o0 w0 o_ w_ [2, 3, 4, 5] ∧ Bk o_ w_ 2 pb0 [pp pb0_0 0, .slice A138 x137.f_l.length c139, ii x137.f_i, ii x137.f_names, ii x137.f_nest, .bool x137.f_counts, .bool x137.f_full] 80 ∧ Row T_api_Token.rep (fun b_ => o_ b_ = 0) (fun b_ => o_ b_ = 0) w_ A138 x137.f_l ∧ x137.f_l.length ≤ c139 ∧ Bk o_ w_ 3 pb0_0 [v143, .map (some pb0_0_1)] 56 ∧ Own T_api_Node.rep 60 4 o_ w_ v143 x142.f_rows ∧ Mp (fun x_ : T_api_Node => Value.agg #[ii x_.f_Kind, encS x_.f_Name, ii x_.f_L, ii x_.f_R]) (fun v_ : Int => ii v_) 5 o_ w_ pb0_0_1 x145 ∧ ρ_ 8 = ii 0 ∧ ρ_ 9 = ii x136 ∧ z146 = .inr (x136, x137, x142, x145)) ⟨_, q105.1, q105.2.1, q105.2.2.1, q105.2.2.2, _, _, _, HF, hB117, hr121, hl120, hB122, hO124, hM125, rfl, rfl, rfl, rfl, rfl, rfl, hz146⟩ ?case147 ?_
  case case147 =>
   rintro ρ209 w210 ⟨o211, x136, x137, x142, x145, A138, c139, v143, HF, hB148, hr140, hl141, hB122, hO144, hM125, s8_135, s9_136, rfl⟩
   dsimp only at H
   refine WC.seq <|
    WC.region <|
    E rfl (mv (ii x136) s9_136) <|
    E rfl (sg (ii x136) rfl) <|
    WL.nil <|
    WC.ret ?_
   obtain rfl := Option.some.inj H
   exact ⟨_, (.tmp _ rfl .nil), _, Or.inr ⟨_, rfl, A138, c139, v143, rfl, HF.out, hB148, hl141, hr140, hB122, hO144, hM125⟩⟩
  have Ho148 := H
  rintro k149 ρ150 w151 ⟨o152, x126, x127, x132, x135, A128, c129, v133, HF, hB117, hr130, hl131, hB122, hO134, hM125, s0_125, s1_125, s2_125, s3_125, s8_125, s9_126, H⟩
  cases k149 with
  | zero => cases H
  | succ k149 =>
  rw [syntax_reader_row_syntax_reader_single.l1.eq_2] at H
  refine WC.seq <|
   WC.seq <|
   WC.region <|
   E rfl (mv (pp pb0 0) s0_125) <|
   E rfl (mv (encS a1) s1_125) ?_
  obtain ⟨z153, hz153, H⟩ := bindE H
  refine WL.op rfl <|
   OW.callP [pp pb0 0, encS a1] rfl Tryz.func58 (by kernel_rfl) (by kernel_rfl) (map_cons' rfl (map_cons' rfl rfl)) (syntax_reader_sign.calls _ _ pb0 A128 c129 pb0_0 v133 pb0_0_1 (a0 := x127) (a0_0 := x132) hz153 (HF.ten (V := [0]) (L := [2, 3, 4, 5]) rfl) (Bk.vw hB117 rfl) (Row.vw hr130 rfl) hl131 (Bk.vw hB122 rfl) (Own.vw hO134 rfl rfl) (Mp.vw hM125 rfl)) ?_
  rintro _ w154 ⟨o155, (⟨p156, rfl, A161, c162, rfl, s158, hB160, hl163, hr164⟩ | ⟨q157, rfl, A166, c167, rfl, s159, hB165, hl168, hr169⟩)⟩
  ·
   refine Or.inr ⟨_, rfl, ?_⟩
   dsimp only at H
   replace hB160 := Bk.unO (J := []) 0 hB160 s158 rfl rfl rfl
   replace hr164 := hr164.un (J := []) s158
   replace s158 := un_stepL (J := []) (L' := [2]) s158 rfl rfl
   obtain rfl := Option.some.inj H
   replace H := Ho148
   dsimp only at H
   obtain rfl := Option.some.inj H
   replace hB122 := hB122.step s158 rfl
   replace hO134 := hO134.step s158 rfl rfl
   replace hM125 := hM125.step s158 rfl
   replace HF := HF.step s158 rfl
   exact ⟨_, Or.inl ⟨_, rfl, A161, c162, v133, rfl, HF.out, hB160, hl163, hr164, hB122, hO134, hM125⟩⟩
  ·
   refine Or.inl ⟨_, rfl, ?_⟩
   dsimp only at H
   replace hB165 := Bk.unO (J := []) 0 hB165 s159 rfl rfl rfl
   replace hr169 := hr169.un (J := []) s159
   replace s159 := un_stepL (J := []) (L' := [2]) s159 rfl rfl
   refine WL.nil ?_
   rcases condE H with ⟨c170, H⟩ | ⟨c170, H⟩
   ·
    refine WC.cond_t (vb c170 rfl) <|
     WC.skip <|
     WC.block <|
     WC.region <|
     E rfl (mv (pp pb0 0) s0_125) <|
     E rfl (mv (ii a3) s3_125) <|
     E rfl (mv (ii x126) s9_126) <|
     E rfl (mv (.func (.func 100) #[pp pb0 0] #[]) s2_125) ?_
    obtain ⟨z171, hz171, H⟩ := bindE H
    refine WL.op rfl ?_
    replace hB122 := hB122.step s159 rfl
    replace hO134 := hO134.step s159 rfl rfl
    replace hM125 := hM125.step s159 rfl
    replace HF := HF.step s159 rfl
    refine OW.callFP [pp pb0 0] [] (show ev _ _ = .func (.func 100) #[pp pb0 0] #[] from rfl) [] rfl Tryz.func100 (by kernel_rfl) (by kernel_rfl) rfl (hR.syntax_reader_single _ _ pb0 A166 c167 pb0_0 v133 pb0_0_1 (a0 := q157.2) (a0_0 := x132) hz171 (HF.ten (V := [0]) (L := [2, 3, 4, 5]) rfl) (Bk.vw hB165 rfl) (Row.vw hr169 rfl) hl168 (Bk.vw hB122 rfl) (Own.vw hO134 rfl rfl) (Mp.vw hM125 rfl)) ?_
    rintro _ w172 ⟨o173, (⟨p174, rfl, A179, c180, v184, rfl, s176, hB178, hl181, hr182, hB183, hO185, hM186⟩ | ⟨q175, rfl, A188, c189, v193, rfl, s177, hB187, hl190, hr191, hB192, hO194, hM195⟩)⟩
    ·
     refine Or.inr ⟨_, rfl, ?_⟩
     dsimp only at H
     replace hB178 := Bk.unO (J := []) 0 hB178 s176 rfl rfl rfl
     replace hr182 := hr182.un (J := []) s176
     replace hB183 := Bk.unO (J := []) 1 hB183 s176 rfl rfl rfl
     replace hO185 := Own.unO (J := []) 2 hO185 s176 rfl rfl rfl
     replace hM186 := Mp.unO (J := []) 3 hM186 s176 rfl rfl rfl
     replace s176 := un_stepL (J := []) (L' := [2, 3, 4, 5]) s176 rfl rfl
     obtain rfl := Option.some.inj H
     replace H := Ho148
     dsimp only at H
     obtain rfl := Option.some.inj H
     replace HF := HF.step s176 rfl
     exact ⟨_, Or.inl ⟨_, rfl, A179, c180, v184, rfl, HF.out, hB178, hl181, hr182, hB183, hO185, hM186⟩⟩
    ·
     refine Or.inl ⟨_, rfl, ?_⟩
     dsimp only at H
     replace hB187 := Bk.unO (J := []) 0 hB187 s177 rfl rfl rfl
     replace hr191 := hr191.un (J := []) s177
     replace hB192 := Bk.unO (J := []) 1 hB192 s177 rfl rfl rfl
     replace hO194 := Own.unO (J := []) 2 hO194 s177 rfl rfl rfl
     replace hM195 := Mp.unO (J := []) 3 hM195 s177 rfl rfl rfl
     replace s177 := un_stepL (J := []) (L' := [2, 3, 4, 5]) s177 rfl rfl
     obtain ⟨z196, hz196, H⟩ := bindE H
     refine WL.op rfl ?_
     replace HF := HF.step s177 rfl
     refine OW.call [pp pb0 0, ii a3, encS ([] : List UInt8), ii x126, ii q175.1] rfl Tryz.func59 (by kernel_rfl) (by kernel_rfl) (map_cons' rfl (map_cons' rfl (map_cons' rfl (map_cons' rfl (map_cons' rfl rfl))))) (syntax_reader_node.calls k _ _ pb0 A188 c189 pb0_0 v193 pb0_0_1 (a0 := q175.2.1) (a0_0 := q175.2.2.1) hz196 (HF.ten (V := [0]) (L := [2, 3, 4, 5]) rfl) (Bk.vw hB187 rfl) (Row.vw hr191 rfl) hl190 (Bk.vw hB192 rfl) (Own.vw hO194 rfl rfl) (Mp.vw hM195 rfl)) ?_
     rintro _ w197 ⟨o198, A201, c202, v206, rfl, s199, hB200, hl203, hr204, hB205, hO207, hM208⟩
     refine ⟨_, rfl, ?_⟩
     replace hB200 := Bk.unO (J := []) 0 hB200 s199 rfl rfl rfl
     replace hr204 := hr204.un (J := []) s199
     replace hB205 := Bk.unO (J := []) 1 hB205 s199 rfl rfl rfl
     replace hO207 := Own.unO (J := []) 2 hO207 s199 rfl rfl rfl
     replace hM208 := Mp.unO (J := []) 3 hM208 s199 rfl rfl rfl
     replace s199 := un_stepL (J := []) (L' := [2, 3, 4, 5]) s199 rfl rfl
     refine E rfl (sg (ii z196.1) rfl) <|
      WL.nil ?_
     replace HF := HF.step s199 rfl
     exact ⟨k149, Nat.lt_succ_self _, ⟨_, z196.1, z196.2.1, z196.2.2.1, z196.2.2.2, _, _, _, HF, hB200, hr204, hl203, hB205, hO207, hM208, s0_125, s1_125, s2_125, s3_125, s8_125, rfl, H⟩⟩
   ·
    refine WC.cond_f (vb c170 rfl) <|
     WC.exit ?_
    obtain rfl := Option.some.inj H
    replace hB122 := hB122.step s159 rfl
    replace hO134 := hO134.step s159 rfl rfl
    replace hM125 := hM125.step s159 rfl
    replace HF := HF.step s159 rfl
    exact ⟨_, x126, q157.2, x132, x135, _, _, _, HF, hB165, hr169, hl168, hB122, hO134, hM125, s8_125, s9_126, rfl⟩

/-! ### syntax_reader_both -/
set_option maxRecDepth 100000 in
theorem syntax_reader_both.callsF (k : Nat) (R : G_syntax_reader_formula) (hR : G_syntax_reader_formula.OK R) : syntax_reader_both.Spec (syntax_reader_both.F k R) := by
 intro o0 w0 pb0 pA0_1 pc0_1 pb0_0 pv0_0_0 pb0_0_1 a0 a0_0 a0_0_1 r H hO hB0 hra0_1 hla0_1 hB0_0 hO0_0_0 hM0_0_1
 have HF := Fm.refl hO [2, 3, 4, 5]
 unfold syntax_reader_both.F at H
 refine SX.calls [pp pb0 0] Tryz.func80 rfl rfl ?_
 rw [Tryz.ntmps80]
 refine WC.seq <|
  WC.region <|
  E rfl (sg (ii 0) rfl) <|
  WL.nil <|
  WC.seq <|
  WC.region <|
  E rfl (mv (pp pb0 0) rfl) <|
  E rfl (mv (pp pb0 0) rfl) <|
  E rfl (ex_makeFuncB [pp pb0 0] [] (map_cons' rfl rfl) rfl) ?_
 obtain ⟨z101, hz101, H⟩ := bindE H
 refine WL.op rfl <|
  OW.callP [pp pb0 0, encS ([38] : List UInt8), .func (.func 100) #[pp pb0 0] #[], ii 3] rfl Tryz.func79 (by kernel_rfl) (by kernel_rfl) (map_cons' rfl (map_cons' rfl (map_cons' rfl (map_cons' rfl rfl)))) (hR.syntax_reader_row_syntax_reader_single _ _ pb0 pA0_1 pc0_1 pb0_0 pv0_0_0 pb0_0_1 (a0 := a0) (a0_0 := a0_0) hz101 (HF.ten (V := [0]) (L := [2, 3, 4, 5]) rfl) (Bk.vw hB0 rfl) (Row.vw hra0_1 rfl) hla0_1 (Bk.vw hB0_0 rfl) (Own.vw hO0_0_0 rfl rfl) (Mp.vw hM0_0_1 rfl)) ?_
 rintro _ w102 ⟨o103, (⟨p104, rfl, A109, c110, v114, rfl, s106, hB108, hl111, hr112, hB113, hO115, hM116⟩ | ⟨q105, rfl, A118, c119, v123, rfl, s107, hB117, hl120, hr121, hB122, hO124, hM125⟩)⟩
 ·
  refine Or.inr ⟨_, rfl, ?_⟩
  dsimp only at H
  replace hB108 := Bk.unO (J := []) 0 hB108 s106 rfl rfl rfl
  replace hr112 := hr112.un (J := []) s106
  replace hB113 := Bk.unO (J := []) 1 hB113 s106 rfl rfl rfl
  replace hO115 := Own.unO (J := []) 2 hO115 s106 rfl rfl rfl
  replace hM116 := Mp.unO (J := []) 3 hM116 s106 rfl rfl rfl
  replace s106 := un_stepL (J := []) (L' := [2, 3, 4, 5]) s106 rfl rfl
  obtain rfl := Option.some.inj H
  replace HF := HF.step s106 rfl
  exact ⟨_, Or.inl ⟨_, rfl, A109, c110, v114, rfl, HF.out, hB108, hl111, hr112, hB113, hO115, hM116⟩⟩
 ·
  refine Or.inl ⟨_, rfl, ?_⟩
  dsimp only at H
  replace hB117 := Bk.unO (J := []) 0 hB117 s107 rfl rfl rfl
  replace hr121 := hr121.un (J := []) s107
  replace hB122 := Bk.unO (J := []) 1 hB122 s107 rfl rfl rfl
  replace hO124 := Own.unO (J := []) 2 hO124 s107 rfl rfl rfl
  replace hM125 := Mp.unO (J := []) 3 hM125 s107 rfl rfl rfl
  replace s107 := un_stepL (J := []) (L' := [2, 3, 4, 5]) s107 rfl rfl
  refine E rfl (sg (ii q105.1) rfl) <|
   WL.nil <|
   WC.ret ?_
  obtain rfl := Option.some.inj H
  replace HF := HF.step s107 rfl
  exact ⟨_, (.tmp _ rfl .nil), _, Or.inr ⟨_, rfl, A118, c119, v123, rfl, HF.out, hB117, hl120, hr121, hB122, hO124, hM125⟩⟩

/-! ### syntax_reader_row_syntax_reader_both -/
set_option maxRecDepth 100000 in
theorem syntax_reader_row_syntax_reader_both.callsF (k : Nat) (R : G_syntax_reader_formula) (hR : G_syntax_reader_formula.OK R) : syntax_reader_row_syntax_reader_both.Spec (syntax_reader_row_syntax_reader_both.F k R) := by
 intro o0 w0 pb0 pA0_1 pc0_1 pb0_0 pv0_0_0 pb0_0_1 a0 a1 a3 a0_0 a0_0_1 r H hO hB0 hra0_1 hla0_1 hB0_0 hO0_0_0 hM0_0_1
 have HF := Fm.refl hO [2, 3, 4, 5]
 unfold syntax_reader_row_syntax_reader_both.F at H
 refine SX.calls [pp pb0 0, encS a1, .func (.func 80) #[pp pb0 0] #[], ii a3] Tryz.func79 rfl rfl ?_
 rw [Tryz.ntmps79]
 refine WC.seq <|
  WC.region <|
  E rfl (sg (ii 0) rfl) <|
  WL.nil <|
  WC.seq <|
  WC.region <|
  E rfl (mv (.func (.func 80) #[pp pb0 0] #[]) rfl) ?_
 obtain ⟨z101, hz101, H⟩ := bindE H
 refine WL.op rfl <|
  OW.callFP [pp pb0 0] [] (show ev _ _ = .func (.func 80) #[pp pb0 0] #[] from rfl) [] rfl Tryz.func80 (by kernel_rfl) (by kernel_rfl) rfl (hR.syntax_reader_both _ _ pb0 pA0_1 pc0_1 pb0_0 pv0_0_0 pb0_0_1 (a0 := a0) (a0_0 := a0_0) hz101 (HF.ten (V := [0]) (L := [2, 3, 4, 5]) rfl) (Bk.vw hB0 rfl) (Row.vw hra0_1 rfl) hla0_1 (Bk.vw hB0_0 rfl) (Own.vw hO0_0_0 rfl rfl) (Mp.vw hM0_0_1 rfl)) ?_
 rintro _ w102 ⟨o103, (⟨p104, rfl, A109, c110, v114, rfl, s106, hB108, hl111, hr112, hB113, hO115, hM116⟩ | ⟨q105, rfl, A118, c119, v123, rfl, s107, hB117, hl120, hr121, hB122, hO124, hM125⟩)⟩
 ·
  refine Or.inr ⟨_, rfl, ?_⟩
  dsimp only at H
  replace hB108 := Bk.unO (J := []) 0 hB108 s106 rfl rfl rfl
  replace hr112 := hr112.un (J := []) s106
  replace hB113 := Bk.unO (J := []) 1 hB113 s106 rfl rfl rfl
  replace hO115 := Own.unO (J := []) 2 hO115 s106 rfl rfl rfl
  replace hM116 := Mp.unO (J := []) 3 hM116 s106 rfl rfl rfl
  replace s106 := un_stepL (J := []) (L' := [2, 3, 4, 5]) s106 rfl rfl
  obtain rfl := Option.some.inj H
  replace HF := HF.step s106 rfl
  exact ⟨_, Or.inl ⟨_, rfl, A109, c110, v114, rfl, HF.out, hB108, hl111, hr112, hB113, hO115, hM116⟩⟩
 ·
  refine Or.inl ⟨_, rfl, ?_⟩
  dsimp only at H
  replace hB117 := Bk.unO (J := []) 0 hB117 s107 rfl rfl rfl
  replace hr121 := hr121.un (J := []) s107
  replace hB122 := Bk.unO (J := []) 1 hB122 s107 rfl rfl rfl
  replace hO124 := Own.unO (J := []) 2 hO124 s107 rfl rfl rfl
  replace hM125 := Mp.unO (J := []) 3 hM125 s107 rfl rfl rfl
  replace s107 := un_stepL (J := []) (L' := [2, 3, 4, 5]) s107 rfl rfl
  refine E rfl (sg (ii q105.1) rfl) <|
   WL.nil <|
   WC.seq ?_
  obtain ⟨z146, hz146, H⟩ := bindE H
  replace HF := HF.step s107 rfl
  refine WC.for (fun k_ ρ_ w_ => ∃ (o_ : Tags) (x126 : Int) (x127 : T_syntax_reader) (x132 : T_formula_Table) (x135 : (List (T_api_Node × Int))) (A128 : Option Addr) (c129 : Nat) (v133 : Value), Fm o0 w0 o_ w_ [2, 3, 4, 5] ∧ Bk o_ w_ 2 pb0 [pp pb0_0 0, .slice A128 x127.f_l.length c129, ii x127.f_i, ii x127.f_names, ii x127.f_nest, .bool x127.f_counts, .bool x127.f_full] 80 ∧ Row T_api_Token.rep (fun b_ => o_ b_ = 0) (fun b_ => o_ b_ = 0) w_ A128 x127.f_l ∧ x127.f_l.length ≤ c129 ∧ Bk o_ w_ 3 pb0_0 [v133, .map (some pb0_0_1)] 56 ∧ Own T_api_Node.rep 60 4 o_ w_ v133 x132.f_rows ∧ Mp (fun x_ : T_api_Node => Value.agg #[ii x_.f_Kind, encS x_.f_Name, ii x_.f_L, ii x_.f_R]) (fun v_ : Int => ii v_) 5 o_ w_ pb0_0_1 x135 ∧ ρ_ 0 = pp pb0 0 ∧ ρ_ 1 = encS a1 ∧ ρ_ 2 = .func (.func 80) #[pp pb0 0] #[] ∧ ρ_ 3 = ii a3 ∧ ρ_ 8 = ii 0 ∧ ρ_ 9 = ii x126 ∧ syntax_reader_row_syntax_reader_both.l1 k a1 a3 R k_ x126 x127 x132 x135 = some z146) k (fun ρ_ w_ => ∃ (o_ : Tags) (x136 : Int) (x137 : T_syntax_reader) (x142 : T_formula_Table) (x145 : (List (T_api_Node × Int))) (A138 : Option Addr) (c139 : Nat) (v143 : Value), Fm o0 w0 o_ w_ [2, 3, 4, 5] ∧ Bk o_ w_ 2 pb0 [pp pb0_0 0, .slice A138 x137.f_l.length c139, ii x137.f_i, ii x137.f_names, ii x137.f_nest, .bool x137.f_counts, .bool x137.f_full] 80 ∧ Row T_api_Token.rep (fun b_ => o_ b_ = 0) (fun b_ => o_ b_ = 0) w_ A138 x137.f_l ∧ x137.f_l.length ≤ c139 ∧ Bk o_ w_ 3 pb0_0 [v143, .map (some pb0_0_1)] 56 ∧ Own T_api_Node.rep 60 4 o_ w_ v143 x142.f_rows ∧ Mp (fun x_ : T_api_Node => Value.agg #[ii x_.f_Kind, encS x_.f_Name, ii x_.f_L, ii x_.f_R]) (fun v_ : Int => ii v_) 5 o_ w_ pb0_0_1 x145 ∧ ρ_ 8 = ii 0 ∧ ρ_ 9 = ii x136 ∧ z146 = .inr (x136, x137, x142, x145)) ⟨_, q105.1, q105.2.1, q105.2.2.1, q105.2.2.2, _, _, _, HF, hB117, hr121, hl120, hB122, hO124, hM125, rfl, rfl, rfl, rfl, rfl, rfl, hz146⟩ ?case147 ?_
  case case147 =>
   rintro ρ209 w210 ⟨o211, x136, x137, x142, x145, A138, c139, v143, HF, hB148, hr140, hl141, hB122, hO144, hM125, s8_135, s9_136, rfl⟩
   dsimp only at H
   refine WC.seq <|
    WC.region <|
    E rfl (mv (ii x136) s9_136) <|
    E rfl (sg (ii x136) rfl) <|
    WL.nil <|
    WC.ret ?_
   obtain rfl := Option.some.inj H
   exact ⟨_, (.tmp _ rfl .nil), _, Or.inr ⟨_, rfl, A138, c139, v143, rfl, HF.out, hB148, hl141, hr140, hB122, hO144, hM125⟩⟩
  have Ho148 := H
  rintro k149 ρ150 w151 ⟨o152, x126, x127, x132, x135, A128, c129, v133, HF, hB117, hr130, hl131, hB122, hO134, hM125, s0_125, s1_125, s2_125, s3_125, s8_125, s9_126, H⟩
  cases k149 with
  | zero => cases H
  | succ k149 =>
  rw [syntax_reader_row_syntax_reader_both.l1.eq_2] at H
  refine WC.seq <|
   WC.seq <|
   WC.region <|
   E rfl (mv (pp pb0 0) s0_125) <|
   E rfl (mv (encS a1) s1_125) ?_
  obtain ⟨z153, hz153, H⟩ := bindE H
  refine WL.op rfl <|
   OW.callP [pp pb0 0, encS a1] rfl Tryz.func58 (by kernel_rfl) (by kernel_rfl) (map_cons' rfl (map_cons' rfl rfl)) (syntax_reader_sign.calls _ _ pb0 A128 c129 pb0_0 v133 pb0_0_1 (a0 := x127) (a0_0 := x132) hz153 (HF.ten (V := [0]) (L := [2, 3, 4, 5]) rfl) (Bk.vw hB117 rfl) (Row.vw hr130 rfl) hl131 (Bk.vw hB122 rfl) (Own.vw hO134 rfl rfl) (Mp.vw hM125 rfl)) ?_
  rintro _ w154 ⟨o155, (⟨p156, rfl, A161, c162, rfl, s158, hB160, hl163, hr164⟩ | ⟨q157, rfl, A166, c167, rfl, s159, hB165, hl168, hr169⟩)⟩
  ·
   refine Or.inr ⟨_, rfl, ?_⟩
   dsimp only at H
   replace hB160 := Bk.unO (J := []) 0 hB160 s158 rfl rfl rfl
   replace hr164 := hr164.un (J := []) s158
   replace s158 := un_stepL (J := []) (L' := [2]) s158 rfl rfl
   obtain rfl := Option.some.inj H
   replace H := Ho148
   dsimp only at H
   obtain rfl := Option.some.inj H
   replace hB122 := hB122.step s158 rfl
   replace hO134 := hO134.step s158 rfl rfl
   replace hM125 := hM125.step s158 rfl
   replace HF := HF.step s158 rfl
   exact ⟨_, Or.inl ⟨_, rfl, A161, c162, v133, rfl, HF.out, hB160, hl163, hr164, hB122, hO134, hM125⟩⟩
  ·
   refine Or.inl ⟨_, rfl, ?_⟩
   dsimp only at H
   replace hB165 := Bk.unO (J := []) 0 hB165 s159 rfl rfl rfl
   replace hr169 := hr169.un (J := []) s159
   replace s159 := un_stepL (J := []) (L' := [2]) s159 rfl rfl
   refine WL.nil ?_
   rcases condE H with ⟨c170, H⟩ | ⟨c170, H⟩
   ·
    refine WC.cond_t (vb c170 rfl) <|
     WC.skip <|
     WC.block <|
     WC.region <|
     E rfl (mv (pp pb0 0) s0_125) <|
     E rfl (mv (ii a3) s3_125) <|
     E rfl (mv (ii x126) s9_126) <|
     E rfl (mv (.func (.func 80) #[pp pb0 0] #[]) s2_125) ?_
    obtain ⟨z171, hz171, H⟩ := bindE H
    refine WL.op rfl ?_
    replace hB122 := hB122.step s159 rfl
    replace hO134 := hO134.step s159 rfl rfl
    replace hM125 := hM125.step s159 rfl
    replace HF := HF.step s159 rfl
    refine OW.callFP [pp pb0 0] [] (show ev _ _ = .func (.func 80) #[pp pb0 0] #[] from rfl) [] rfl Tryz.func80 (by kernel_rfl) (by kernel_rfl) rfl (hR.syntax_reader_both _ _ pb0 A166 c167 pb0_0 v133 pb0_0_1 (a0 := q157.2) (a0_0 := x132) hz171 (HF.ten (V := [0]) (L := [2, 3, 4, 5]) rfl) (Bk.vw hB165 rfl) (Row.vw hr169 rfl) hl168 (Bk.vw hB122 rfl) (Own.vw hO134 rfl rfl) (Mp.vw hM125 rfl)) ?_
    rintro _ w172 ⟨o173, (⟨p174, rfl, A179, c180, v184, rfl, s176, hB178, hl181, hr182, hB183, hO185, hM186⟩ | ⟨q175, rfl, A188, c189, v193, rfl, s177, hB187, hl190, hr191, hB192, hO194, hM195⟩)⟩
    ·
     refine Or.inr ⟨_, rfl, ?_⟩
     dsimp only at H
     replace hB178 := Bk.unO (J := []) 0 hB178 s176 rfl rfl rfl
     replace hr182 := hr182.un (J := []) s176
     replace hB183 := Bk.unO (J := []) 1 hB183 s176 rfl rfl rfl
     replace hO185 := Own.unO (J := []) 2 hO185 s176 rfl rfl rfl
     replace hM186 := Mp.unO (J := []) 3 hM186 s176 rfl rfl rfl
     replace s176 := un_stepL (J := []) (L' := [2, 3, 4, 5]) s176 rfl rfl
     obtain rfl := Option.some.inj H
     replace H := Ho148
     dsimp only at H
     obtain rfl := Option.some.inj H
     replace HF := HF.step s176 rfl
     exact ⟨_, Or.inl ⟨_, rfl, A179, c180, v184, rfl, HF.out, hB178, hl181, hr182, hB183, hO185, hM186⟩⟩
    ·
     refine Or.inl ⟨_, rfl, ?_⟩
     dsimp only at H
     replace hB187 := Bk.unO (J := []) 0 hB187 s177 rfl rfl rfl
     replace hr191 := hr191.un (J := []) s177
     replace hB192 := Bk.unO (J := []) 1 hB192 s177 rfl rfl rfl
     replace hO194 := Own.unO (J := []) 2 hO194 s177 rfl rfl rfl
     replace hM195 := Mp.unO (J := []) 3 hM195 s177 rfl rfl rfl
     replace s177 := un_stepL (J := []) (L' := [2, 3, 4, 5]) s177 rfl rfl
     obtain ⟨z196, hz196, H⟩ := bindE H
     refine WL.op rfl ?_
     replace HF := HF.step s177 rfl
     refine OW.call [pp pb0 0, ii a3, encS ([] : List UInt8), ii x126, ii q175.1] rfl Tryz.func59 (by kernel_rfl) (by kernel_rfl) (map_cons' rfl (map_cons' rfl (map_cons' rfl (map_cons' rfl (map_cons' rfl rfl))))) (syntax_reader_node.calls k _ _ pb0 A188 c189 pb0_0 v193 pb0_0_1 (a0 := q175.2.1) (a0_0 := q175.2.2.1) hz196 (HF.ten (V := [0]) (L := [2, 3, 4, 5]) rfl) (Bk.vw hB187 rfl) (Row.vw hr191 rfl) hl190 (Bk.vw hB192 rfl) (Own.vw hO194 rfl rfl) (Mp.vw hM195 rfl)) ?_
     rintro _ w197 ⟨o198, A201, c202, v206, rfl, s199, hB200, hl203, hr204, hB205, hO207, hM208⟩
     refine ⟨_, rfl, ?_⟩
     replace hB200 := Bk.unO (J := []) 0 hB200 s199 rfl rfl rfl
     replace hr204 := hr204.un (J := []) s199
     replace hB205 := Bk.unO (J := []) 1 hB205 s199 rfl rfl rfl
     replace hO207 := Own.unO (J := []) 2 hO207 s199 rfl rfl rfl
     replace hM208 := Mp.unO (J := []) 3 hM208 s199 rfl rfl rfl
     replace s199 := un_stepL (J := []) (L' := [2, 3, 4, 5]) s199 rfl rfl
     refine E rfl (sg (ii z196.1) rfl) <|
      WL.nil ?_
     replace HF := HF.step s199 rfl
     exact ⟨k149, Nat.lt_succ_self _, ⟨_, z196.1, z196.2.1, z196.2.2.1, z196.2.2.2, _, _, _, HF, hB200, hr204, hl203, hB205, hO207, hM208, s0_125, s1_125, s2_125, s3_125, s8_125, rfl, H⟩⟩
   ·
    refine WC.cond_f (vb c170 rfl) <|
     WC.exit ?_
    obtain rfl := Option.some.inj H
    replace hB122 := hB122.step s159 rfl
    replace hO134 := hO134.step s159 rfl rfl
    replace hM125 := hM125.step s159 rfl
    replace HF := HF.step s159 rfl
    exact ⟨_, x126, q157.2, x132, x135, _, _, _, HF, hB165, hr169, hl168, hB122, hO134, hM125, s8_125, s9_126, rfl⟩

/-! ### syntax_reader_implied -/
set_option maxRecDepth 100000 in
theorem syntax_reader_implied.callsF (k : Nat) (R : G_syntax_reader_formula) (hR : G_syntax_reader_formula.OK R) : syntax_reader_implied.Spec (syntax_reader_implied.F k R) := by
 intro o0 w0 pb0 pA0_1 pc0_1 pb0_0 pv0_0_0 pb0_0_1 a0 a0_0 a0_0_1 r H hO hB0 hra0_1 hla0_1 hB0_0 hO0_0_0 hM0_0_1
 have HF := Fm.refl hO [2, 3, 4, 5]
 unfold syntax_reader_implied.F at H
 refine SX.calls [pp pb0 0] Tryz.func57 rfl rfl ?_
 rw [Tryz.ntmps57]
 refine WC.seq <|
  WC.region <|
  E rfl (sg (ii 0) rfl) <|
  WL.nil <|
  WC.seq <|
  WC.region <|
  E rfl (mv (pp pb0 0) rfl) <|
  E rfl (mv (pp pb0 0) rfl) <|
  E rfl (ex_makeFuncB [pp pb0 0] [] (map_cons' rfl rfl) rfl) ?_
 obtain ⟨z101, hz101, H⟩ := bindE H
 refine WL.op rfl <|
  OW.callP [pp pb0 0, encS ([124] : List UInt8), .func (.func 80) #[pp pb0 0] #[], ii 4] rfl Tryz.func79 (by kernel_rfl) (by kernel_rfl) (map_cons' rfl (map_cons' rfl (map_cons' rfl (map_cons' rfl rfl)))) (hR.syntax_reader_row_syntax_reader_both _ _ pb0 pA0_1 pc0_1 pb0_0 pv0_0_0 pb0_0_1 (a0 := a0) (a0_0 := a0_0) hz101 (HF.ten (V := [0]) (L := [2, 3, 4, 5]) rfl) (Bk.vw hB0 rfl) (Row.vw hra0_1 rfl) hla0_1 (Bk.vw hB0_0 rfl) (Own.vw hO0_0_0 rfl rfl) (Mp.vw hM0_0_1 rfl)) ?_
 rintro _ w102 ⟨o103, (⟨p104, rfl, A109, c110, v114, rfl, s106, hB108, hl111, hr112, hB113, hO115, hM116⟩ | ⟨q105, rfl, A118, c119, v123, rfl, s107, hB117, hl120, hr121, hB122, hO124, hM125⟩)⟩
 ·
  refine Or.inr ⟨_, rfl, ?_⟩
  dsimp only at H
  replace hB108 := Bk.unO (J := []) 0 hB108 s106 rfl rfl rfl
  replace hr112 := hr112.un (J := []) s106
  replace hB113 := Bk.unO (J := []) 1 hB113 s106 rfl rfl rfl
  replace hO115 := Own.unO (J := []) 2 hO115 s106 rfl rfl rfl
  replace hM116 := Mp.unO (J := []) 3 hM116 s106 rfl rfl rfl
  replace s106 := un_stepL (J := []) (L' := [2, 3, 4, 5]) s106 rfl rfl
  obtain rfl := Option.some.inj H
  replace HF := HF.step s106 rfl
  exact ⟨_, Or.inl ⟨_, rfl, A109, c110, v114, rfl, HF.out, hB108, hl111, hr112, hB113, hO115, hM116⟩⟩
 ·
  refine Or.inl ⟨_, rfl, ?_⟩
  dsimp only at H
  replace hB117 := Bk.unO (J := []) 0 hB117 s107 rfl rfl rfl
  replace hr121 := hr121.un (J := []) s107
  replace hB122 := Bk.unO (J := []) 1 hB122 s107 rfl rfl rfl
  replace hO124 := Own.unO (J := []) 2 hO124 s107 rfl rfl rfl
  replace hM125 := Mp.unO (J := []) 3 hM125 s107 rfl rfl rfl
  replace s107 := un_stepL (J := []) (L' := [2, 3, 4, 5]) s107 rfl rfl
  refine E rfl (sg (ii q105.1) rfl) <|
   WL.nil <|
   WC.seq <|
   WC.seq <|
   WC.region <|
   E rfl (mv (pp pb0 0) rfl) ?_
  obtain ⟨z126, hz126, H⟩ := bindE H
  refine WL.op rfl ?_
  replace HF := HF.step s107 rfl
  refine OW.callP [pp pb0 0, encS ([45, 62] : List UInt8)] rfl Tryz.func58 (by kernel_rfl) (by kernel_rfl) (map_cons' rfl (map_cons' rfl rfl)) (syntax_reader_sign.calls _ _ pb0 A118 c119 pb0_0 v123 pb0_0_1 (a0 := q105.2.1) (a0_0 := q105.2.2.1) hz126 (HF.ten (V := [0]) (L := [2, 3, 4, 5]) rfl) (Bk.vw hB117 rfl) (Row.vw hr121 rfl) hl120 (Bk.vw hB122 rfl) (Own.vw hO124 rfl rfl) (Mp.vw hM125 rfl)) ?_
  rintro _ w127 ⟨o128, (⟨p129, rfl, A134, c135, rfl, s131, hB133, hl136, hr137⟩ | ⟨q130, rfl, A139, c140, rfl, s132, hB138, hl141, hr142⟩)⟩
  ·
   refine Or.inr ⟨_, rfl, ?_⟩
   dsimp only at H
   replace hB133 := Bk.unO (J := []) 0 hB133 s131 rfl rfl rfl
   replace hr137 := hr137.un (J := []) s131
   replace s131 := un_stepL (J := []) (L' := [2]) s131 rfl rfl
   obtain rfl := Option.some.inj H
   replace hB122 := hB122.step s131 rfl
   replace hO124 := hO124.step s131 rfl rfl
   replace hM125 := hM125.step s131 rfl
   replace HF := HF.step s131 rfl
   exact ⟨_, Or.inl ⟨_, rfl, A134, c135, v123, rfl, HF.out, hB133, hl136, hr137, hB122, hO124, hM125⟩⟩
  ·
   refine Or.inl ⟨_, rfl, ?_⟩
   dsimp only at H
   replace hB138 := Bk.unO (J := []) 0 hB138 s132 rfl rfl rfl
   replace hr142 := hr142.un (J := []) s132
   replace s132 := un_stepL (J := []) (L' := [2]) s132 rfl rfl
   refine E rfl (ex_not (b := q130.1) rfl) <|
    WL.nil ?_
   rcases condE H with ⟨c143, H⟩ | ⟨c143, H⟩
   ·
    refine WC.cond_t (vb c143 rfl) <|
     WC.seq <|
     WC.region <|
     E rfl (mv (ii q105.1) rfl) <|
     E rfl (sg (ii q105.1) rfl) <|
     WL.nil <|
     WC.ret ?_
    obtain rfl := Option.some.inj H
    replace hB122 := hB122.step s132 rfl
    replace hO124 := hO124.step s132 rfl rfl
    replace hM125 := hM125.step s132 rfl
    replace HF := HF.step s132 rfl
    exact ⟨_, (.tmp _ rfl .nil), _, Or.inr ⟨_, rfl, A139, c140, v123, rfl, HF.out, hB138, hl141, hr142, hB122, hO124, hM125⟩⟩
   ·
    refine WC.cond_f (vb c143 rfl) <|
     WC.skip <|
     WC.seq <|
     WC.region <|
     E rfl (mv (pp pb0 0) rfl) <|
     E rfl (mv (ii q105.1) rfl) <|
     E rfl (mv (pp pb0 0) rfl) ?_
    obtain ⟨z144, hz144, H⟩ := bindE H
    refine WL.op rfl ?_
    replace hB122 := hB122.step s132 rfl
    replace hO124 := hO124.step s132 rfl rfl
    replace hM125 := hM125.step s132 rfl
    replace HF := HF.step s132 rfl
    refine OW.callP [pp pb0 0] rfl Tryz.func57 (by kernel_rfl) (by kernel_rfl) (map_cons' rfl rfl) (hR.syntax_reader_implied _ _ pb0 A139 c140 pb0_0 v123 pb0_0_1 (a0 := q130.2) (a0_0 := q105.2.2.1) hz144 (HF.ten (V := [0]) (L := [2, 3, 4, 5]) rfl) (Bk.vw hB138 rfl) (Row.vw hr142 rfl) hl141 (Bk.vw hB122 rfl) (Own.vw hO124 rfl rfl) (Mp.vw hM125 rfl)) ?_
    rintro _ w145 ⟨o146, (⟨p147, rfl, A152, c153, v157, rfl, s149, hB151, hl154, hr155, hB156, hO158, hM159⟩ | ⟨q148, rfl, A161, c162, v166, rfl, s150, hB160, hl163, hr164, hB165, hO167, hM168⟩)⟩
    ·
     refine Or.inr ⟨_, rfl, ?_⟩
     dsimp only at H
     replace hB151 := Bk.unO (J := []) 0 hB151 s149 rfl rfl rfl
     replace hr155 := hr155.un (J := []) s149
     replace hB156 := Bk.unO (J := []) 1 hB156 s149 rfl rfl rfl
     replace hO158 := Own.unO (J := []) 2 hO158 s149 rfl rfl rfl
     replace hM159 := Mp.unO (J := []) 3 hM159 s149 rfl rfl rfl
     replace s149 := un_stepL (J := []) (L' := [2, 3, 4, 5]) s149 rfl rfl
     obtain rfl := Option.some.inj H
     replace HF := HF.step s149 rfl
     exact ⟨_, Or.inl ⟨_, rfl, A152, c153, v157, rfl, HF.out, hB151, hl154, hr155, hB156, hO158, hM159⟩⟩
    ·
     refine Or.inl ⟨_, rfl, ?_⟩
     dsimp only at H
     replace hB160 := Bk.unO (J := []) 0 hB160 s150 rfl rfl rfl
     replace hr164 := hr164.un (J := []) s150
     replace hB165 := Bk.unO (J := []) 1 hB165 s150 rfl rfl rfl
     replace hO167 := Own.unO (J := []) 2 hO167 s150 rfl rfl rfl
     replace hM168 := Mp.unO (J := []) 3 hM168 s150 rfl rfl rfl
     replace s150 := un_stepL (J := []) (L' := [2, 3, 4, 5]) s150 rfl rfl
     obtain ⟨z169, hz169, H⟩ := bindE H
     refine WL.op rfl ?_
     replace HF := HF.step s150 rfl
     refine OW.call [pp pb0 0, ii 5, encS ([] : List UInt8), ii q105.1, ii q148.1] rfl Tryz.func59 (by kernel_rfl) (by kernel_rfl) (map_cons' rfl (map_cons' rfl (map_cons' rfl (map_cons' rfl (map_cons' rfl rfl))))) (syntax_reader_node.calls k _ _ pb0 A161 c162 pb0_0 v166 pb0_0_1 (a0 := q148.2.1) (a0_0 := q148.2.2.1) hz169 (HF.ten (V := [0]) (L := [2, 3, 4, 5]) rfl) (Bk.vw hB160 rfl) (Row.vw hr164 rfl) hl163 (Bk.vw hB165 rfl) (Own.vw hO167 rfl rfl) (Mp.vw hM168 rfl)) ?_
     rintro _ w170 ⟨o171, A174, c175, v179, rfl, s172, hB173, hl176, hr177, hB178, hO180, hM181⟩
     refine ⟨_, rfl, ?_⟩
     replace hB173 := Bk.unO (J := []) 0 hB173 s172 rfl rfl rfl
     replace hr177 := hr177.un (J := []) s172
     replace hB178 := Bk.unO (J := []) 1 hB178 s172 rfl rfl rfl
     replace hO180 := Own.unO (J := []) 2 hO180 s172 rfl rfl rfl
     replace hM181 := Mp.unO (J := []) 3 hM181 s172 rfl rfl rfl
     replace s172 := un_stepL (J := []) (L' := [2, 3, 4, 5]) s172 rfl rfl
     refine E rfl (sg (ii z169.1) rfl) <|
      WL.nil <|
      WC.ret ?_
     obtain rfl := Option.some.inj H
     replace HF := HF.step s172 rfl
     exact ⟨_, (.tmp _ rfl .nil), _, Or.inr ⟨_, rfl, A174, c175, v179, rfl, HF.out, hB173, hl176, hr177, hB178, hO180, hM181⟩⟩

theorem G_syntax_reader_formula.ok (k : Nat) : ∀ n, G_syntax_reader_formula.OK (G_syntax_reader_formula.rec_ k n)
 | 0 => ⟨(by intro o0 w0 pb0 pA0_1 pc0_1 pb0_0 pv0_0_0 pb0_0_1 a0 a0_0 a0_0_1 r H hO hB0 hra0_1 hla0_1 hB0_0 hO0_0_0 hM0_0_1; exact nomatch (show (none : Option (Exn (T_syntax_broken × T_syntax_reader × T_formula_Table × (List (T_api_Node × Int))) (Int × T_syntax_reader × T_formula_Table × (List (T_api_Node × Int))))) = some r from H)), (by intro o0 w0 pb0 pA0_1 pc0_1 pb0_0 pv0_0_0 pb0_0_1 a0 a0_0 a0_0_1 r H hO hB0 hra0_1 hla0_1 hB0_0 hO0_0_0 hM0_0_1; exact nomatch (show (none : Option (Exn (T_syntax_broken × T_syntax_reader × T_formula_Table × (List (T_api_Node × Int))) (Int × T_syntax_reader × T_formula_Table × (List (T_api_Node × Int))))) = some r from H)), (by intro o0 w0 pb0 pA0_1 pc0_1 pb0_0 pv0_0_0 pb0_0_1 a0 a1 a3 a0_0 a0_0_1 r H hO hB0 hra0_1 hla0_1 hB0_0 hO0_0_0 hM0_0_1; exact nomatch (show (none : Option (Exn (T_syntax_broken × T_syntax_reader × T_formula_Table × (List (T_api_Node × Int))) (Int × T_syntax_reader × T_formula_Table × (List (T_api_Node × Int))))) = some r from H)), (by intro o0 w0 pb0 pA0_1 pc0_1 pb0_0 pv0_0_0 pb0_0_1 a0 a0_0 a0_0_1 r H hO hB0 hra0_1 hla0_1 hB0_0 hO0_0_0 hM0_0_1; exact nomatch (show (none : Option (Exn (T_syntax_broken × T_syntax_reader × T_formula_Table × (List (T_api_Node × Int))) (Int × T_syntax_reader × T_formula_Table × (List (T_api_Node × Int))))) = some r from H)), (by intro o0 w0 pb0 pA0_1 pc0_1 pb0_0 pv0_0_0 pb0_0_1 a0 a1 a3 a0_0 a0_0_1 r H hO hB0 hra0_1 hla0_1 hB0_0 hO0_0_0 hM0_0_1; exact nomatch (show (none : Option (Exn (T_syntax_broken × T_syntax_reader × T_formula_Table × (List (T_api_Node × Int))) (Int × T_syntax_reader × T_formula_Table × (List (T_api_Node × Int))))) = some r from H)), (by intro o0 w0 pb0 pA0_1 pc0_1 pb0_0 pv0_0_0 pb0_0_1 a0 a0_0 a0_0_1 r H hO hB0 hra0_1 hla0_1 hB0_0 hO0_0_0 hM0_0_1; exact nomatch (show (none : Option (Exn (T_syntax_broken × T_syntax_reader × T_formula_Table × (List (T_api_Node × Int))) (Int × T_syntax_reader × T_formula_Table × (List (T_api_Node × Int))))) = some r from H))⟩
 | n + 1 => ⟨syntax_reader_formula.callsF k (G_syntax_reader_formula.rec_ k n) (G_syntax_reader_formula.ok k n), syntax_reader_single.callsF k (G_syntax_reader_formula.rec_ k n) (G_syntax_reader_formula.ok k n), syntax_reader_row_syntax_reader_single.callsF k (G_syntax_reader_formula.rec_ k n) (G_syntax_reader_formula.ok k n), syntax_reader_both.callsF k (G_syntax_reader_formula.rec_ k n) (G_syntax_reader_formula.ok k n), syntax_reader_row_syntax_reader_both.callsF k (G_syntax_reader_formula.rec_ k n) (G_syntax_reader_formula.ok k n), syntax_reader_implied.callsF k (G_syntax_reader_formula.rec_ k n) (G_syntax_reader_formula.ok k n)⟩
theorem syntax_reader_formula.calls (k : Nat) : syntax_reader_formula.Spec (syntax_reader_formula.f k) := (G_syntax_reader_formula.ok k k).syntax_reader_formula
theorem syntax_reader_single.calls (k : Nat) : syntax_reader_single.Spec (syntax_reader_single.f k) := (G_syntax_reader_formula.ok k k).syntax_reader_single
theorem syntax_reader_row_syntax_reader_single.calls (k : Nat) : syntax_reader_row_syntax_reader_single.Spec (syntax_reader_row_syntax_reader_single.f k) := (G_syntax_reader_formula.ok k k).syntax_reader_row_syntax_reader_single
theorem syntax_reader_both.calls (k : Nat) : syntax_reader_both.Spec (syntax_reader_both.f k) := (G_syntax_reader_formula.ok k k).syntax_reader_both
theorem syntax_reader_row_syntax_reader_both.calls (k : Nat) : syntax_reader_row_syntax_reader_both.Spec (syntax_reader_row_syntax_reader_both.f k) := (G_syntax_reader_formula.ok k k).syntax_reader_row_syntax_reader_both
theorem syntax_reader_implied.calls (k : Nat) : syntax_reader_implied.Spec (syntax_reader_implied.f k) := (G_syntax_reader_formula.ok k k).syntax_reader_implied
end Go.Proofs.YtpmkkhkphddfeaaGreatDoor.X
