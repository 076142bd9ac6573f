import Derived.Test.YtjhmhdedonibbaaDoorXAW0
set_option maxRecDepth 20000
set_option linter.unusedVariables false
set_option linter.unusedSimpArgs false
set_option linter.unnecessarySimpa false
namespace Go.Proofs.YtjhmhdedonibbaaDoor.X
open Go Go.RowKit Go.Proofs.YtjhmhdedonibbaaDoor.SX
/-! ### strings_Join -/
set_option maxRecDepth 100000 in
theorem strings_Join.calls (k : Nat) (o0 : Tags) (w0 : World) (pA0 : Option Addr) (pc0 : Nat) (a0 : (List (List UInt8))) (a1 : List UInt8) (r : (List UInt8)) (hO : ∀ b, b < w0.heap.size → o0 b < 10) (hra0 : Row Rep.str (fun b_ => o0 b_ = 0) (fun b_ => o0 b_ = 0) w0 pA0 a0) (hla0 : a0.length ≤ pc0) (H : strings_Join.f k a0 a1 = some r) :
    Calls Tryd.prog 34 [.slice pA0 a0.length pc0, encS a1].toArray w0 fun e_ w_ => ∃ (o_ : Tags), e_ = .returned (one [encS r]) ∧ Step o0 w0 o_ w_ [] := by
  have HF := Fm.refl hO []
  unfold strings_Join.f at H
  refine SX.calls [.slice pA0 a0.length pc0, encS a1] Tryd.func34 rfl rfl ?_
  rw [Tryd.ntmps34]
  refine WC.seq ?_
  refine WC.region ?_
  refine WL.ex rfl (ex_assign (v := encS ([] : List UInt8)) rfl) ?_
  refine WL.nil ?_
  refine WC.seq ?_
  refine WC.seq ?_
  refine WC.region ?_
  refine WL.ex rfl (ex_move (v := .slice pA0 a0.length pc0) rfl) ?_
  refine WL.ex rfl (ex_len_slice (A := pA0) (m := a0.length) (c := pc0) rfl Tryd.underlying49) ?_
  refine WL.nil ?_
  refine WC.block ?_
  refine WC.seq ?_
  refine WC.region ?_
  refine WL.ex rfl (ex_bin (a := .int .i64 (a0.length : Int)) (b := .int .i64 0) (v := .bool ((a0.length : Int) == 0)) rfl rfl bin_eql) ?_
  refine WL.ex rfl (ex_assign (v := .bool ((a0.length : Int) == 0)) rfl) ?_
  refine WL.nil ?_
  rcases condE H with ⟨c101, H⟩ | ⟨c101, H⟩
  ·
    refine WC.cond_t ((show _ = Value.bool ((a0.length : Int) == 0) from rfl).trans (congrArg Value.bool c101)) ?_
    refine WC.seq ?_
    refine WC.region ?_
    refine WL.ex rfl (ex_assign (v := encS ([] : List UInt8)) rfl) ?_
    refine WL.nil ?_
    refine WC.ret ?_
    obtain rfl := Option.some.inj H
    exact ⟨_, (.tmp (encS ([] : List UInt8) : Value) rfl .nil), _, rfl, HF.out⟩
  ·
    refine WC.cond_f ((show _ = Value.bool ((a0.length : Int) == 0) from rfl).trans (congrArg Value.bool c101)) ?_
    refine WC.seq ?_
    refine WC.region ?_
    refine WL.ex rfl (ex_bin (a := .int .i64 (a0.length : Int)) (b := .int .i64 1) (v := .bool ((a0.length : Int) == 1)) rfl rfl bin_eql) ?_
    refine WL.ex rfl (ex_assign (v := .bool ((a0.length : Int) == 1)) rfl) ?_
    refine WL.nil ?_
    rcases condE H with ⟨c102, H⟩ | ⟨c102, H⟩
    ·
      refine WC.cond_t ((show _ = Value.bool ((a0.length : Int) == 1) from rfl).trans (congrArg Value.bool c102)) ?_
      refine WC.seq ?_
      refine WC.region ?_
      refine WL.ex rfl (ex_move (v := .slice pA0 a0.length pc0) rfl) ?_
      obtain ⟨x103, hx103, H⟩ := bindE H
      obtain ⟨ad104, e105, g106, g107, cell108⟩ := Row.ixS hra0 hx103
      refine WL.ex rfl (ex_indexAddr (i := (0 : Int)) rfl e105 rfl Tryd.underlying49 sz9 g106 g107) ?_
      refine WL.ex rfl (ex_load1 (v := encS x103) rfl Tryd.underlying9 rfl cell108) ?_
      refine WL.ex rfl (ex_assign (v := encS x103) rfl) ?_
      refine WL.nil ?_
      refine WC.ret ?_
      obtain rfl := Option.some.inj H
      exact ⟨_, (.tmp (encS x103 : Value) rfl .nil), _, rfl, HF.out⟩
    ·
      refine WC.cond_f ((show _ = Value.bool ((a0.length : Int) == 1) from rfl).trans (congrArg Value.bool c102)) ?_
      refine WC.skip ?_
      refine WC.seq ?_
      refine WC.region ?_
      refine WL.ex rfl (ex_assign (v := .int .i64 0) rfl) ?_
      refine WL.nil ?_
      obtain ⟨z111, hz111, H⟩ := bindE H
      refine WC.cut (fun ρ_ w_ => ∃ (o_ : Tags), Fm o0 w0 o_ w_ [] ∧ Row Rep.str (fun b_ => o_ b_ = 0) (fun b_ => o_ b_ = 0) w_ pA0 a0 ∧ ρ_ 0 = .slice pA0 a0.length pc0 ∧ ρ_ 1 = encS a1 ∧ ρ_ 4 = encS ([] : List UInt8) ∧ ρ_ 5 = .int .i64 z111) ?case112 ?_
      case case112 =>
        rintro ρ115 w113 ⟨o114, HF, hra0, s0_109, s1_109, s4_109, s5_110⟩
        refine WC.seq ?_
        refine WC.seq ?_
        refine WC.region ?_
        refine WL.ex rfl (ex_move (v := .slice pA0 a0.length pc0) s0_109) ?_
        refine WL.ex rfl (ex_len_slice (A := pA0) (m := a0.length) (c := pc0) rfl Tryd.underlying49) ?_
        refine WL.ex rfl (ex_move (v := .int .i64 0) rfl) ?_
        refine WL.nil ?_
        obtain ⟨z119, hz119, H⟩ := bindE H
        refine WC.for (fun k_ ρ_ w_ => ∃ (o_ : Tags) (x116 : Int) (x117 : Int), Fm o0 w0 o_ w_ [] ∧ Row Rep.str (fun b_ => o_ b_ = 0) (fun b_ => o_ b_ = 0) w_ pA0 a0 ∧ ρ_ 0 = .slice pA0 a0.length pc0 ∧ ρ_ 1 = encS a1 ∧ ρ_ 4 = encS ([] : List UInt8) ∧ ρ_ 5 = .int .i64 x116 ∧ ρ_ 39 = .slice pA0 a0.length pc0 ∧ ρ_ 40 = .int .i64 (a0.length : Int) ∧ ρ_ 41 = .int .i64 x117 ∧ strings_Join.l1 k a0 k_ x116 x117 = some z119) k (fun ρ_ w_ => ∃ (o_ : Tags), Fm o0 w0 o_ w_ [] ∧ Row Rep.str (fun b_ => o_ b_ = 0) (fun b_ => o_ b_ = 0) w_ pA0 a0 ∧ ρ_ 0 = .slice pA0 a0.length pc0 ∧ ρ_ 1 = encS a1 ∧ ρ_ 4 = encS ([] : List UInt8) ∧ ρ_ 5 = .int .i64 z119) ⟨_, z111, 0, HF, hra0, s0_109, s1_109, s4_109, s5_110, rfl, rfl, rfl, hz119⟩ ?case120 ?_
        case case120 =>
          rintro ρ137 w135 ⟨o136, HF, hra0, s0_117, s1_117, s4_117, s5_118⟩
          refine WC.seq ?_
          refine WC.region ?_
          refine WL.op rfl ?_
          refine OW.allocFr 10 HF rfl (by kernel_rfl) ?_
          intro o139 w140 b138 s141 hB142 hl143
          replace hra0 := hra0.step s141 rfl
          replace HF := HF.step s141 rfl
          refine WL.nil ?_
          refine WC.seq ?_
          refine WC.region ?_
          refine WL.ex rfl (ex_move (v := .int .i64 z119) s5_118) ?_
          obtain ⟨z144, hz144, H⟩ := bindE H
          refine WL.op rfl ?_
          refine OW.call [.pointer (some ⟨b138, 0, none⟩), .int .i64 z119] rfl Tryd.func50 (by kernel_rfl) (by kernel_rfl) (map_cons' rfl (map_cons' rfl rfl)) (Builder_Grow.calls _ _ b138 z119 z144 (HF.ten (V := [0]) (L := [10]) rfl) (Bk.vw (V := [0]) (L := [10]) hB142 rfl) hl143 hz144) ?_
          rintro _ w145 ⟨o146, rfl, s147, hB148⟩
          refine ⟨_, rfl, ?_⟩
          replace hB148 := Bd.unO (J := []) 0 hB148 s147 rfl rfl rfl
          replace s147 := un_stepL (J := []) (L' := [10]) s147 rfl rfl
          replace hra0 := hra0.step s147 rfl
          replace HF := HF.step s147 rfl
          refine WL.nil ?_
          refine WC.seq ?_
          refine WC.region ?_
          refine WL.ex rfl (ex_move (v := .slice pA0 a0.length pc0) s0_117) ?_
          obtain ⟨x149, hx149, H⟩ := bindE H
          obtain ⟨ad150, e151, g152, g153, cell154⟩ := Row.ixS hra0 hx149
          refine WL.ex rfl (ex_indexAddr (i := (0 : Int)) rfl e151 rfl Tryd.underlying49 sz9 g152 g153) ?_
          refine WL.ex rfl (ex_load1 (v := encS x149) rfl Tryd.underlying9 rfl cell154) ?_
          obtain ⟨z156, hz156, H⟩ := bindE H
          refine WL.op rfl ?_
          refine OW.call [.pointer (some ⟨b138, 0, none⟩), encS x149] rfl Tryd.func51 (by kernel_rfl) (by kernel_rfl) (map_cons' rfl (map_cons' rfl rfl)) (Builder_WriteString.calls _ _ b138 z144 x149 z156 (HF.ten (V := [0]) (L := [10]) rfl) (Bd.vw (V := [0]) (L := [10]) hB148 rfl rfl) hz156) ?_
          rintro _ w157 ⟨o158, rfl, s159, hB160⟩
          refine ⟨_, rfl, ?_⟩
          replace hB160 := Bd.unO (J := []) 0 hB160 s159 rfl rfl rfl
          replace s159 := un_stepL (J := []) (L' := [10]) s159 rfl rfl
          replace hra0 := hra0.step s159 rfl
          replace HF := HF.step s159 rfl
          refine WL.nil ?_
          refine WC.seq ?_
          refine WC.seq ?_
          refine WC.region ?_
          refine WL.ex rfl (ex_move (v := .slice pA0 a0.length pc0) s0_117) ?_
          obtain ⟨y161, hy161, H⟩ := bindE H
          have hr163 := Row.cut hra0 hla0 hy161
          obtain ⟨A164, el167⟩ : ∃ A_, A_ = subA pA0 pc0 (1 : Int).toNat 1 := ⟨_, rfl⟩
          rw [show subA pA0 pc0 (1 : Int).toNat Rep.str.sz = A164 from el167.symm] at hr163
          have hl166 : y161.length ≤ pc0 - (1 : Int).toNat := cut_le hla0 hy161
          refine WL.ex rfl (ex_slice' (l := 1) (h := (a0.length : Int)) rfl Tryd.underlying49 sz9 ⟨_, rfl⟩ rfl (cut_low hy161) (cut_mid hy161) (cut_cap hla0 hy161) el167 (cut_len hy161)) ?_
          refine WL.ex rfl (ex_len_slice (A := A164) (m := y161.length) (c := (pc0 - (1 : Int).toNat)) rfl Tryd.underlying49) ?_
          refine WL.ex rfl (ex_move (v := .int .i64 0) rfl) ?_
          refine WL.nil ?_
          obtain ⟨z171, hz171, H⟩ := bindE H
          refine WC.for (fun k_ ρ_ w_ => ∃ (o_ : Tags) (x168 : Int) (x169 : (List UInt8)), Fm o0 w0 o_ w_ [] ∧ Row Rep.str (fun b_ => o_ b_ = 0) (fun b_ => o_ b_ = 0) w_ A164 y161 ∧ Bd 84 5 10 o_ w_ b138 x169 ∧ ρ_ 1 = encS a1 ∧ ρ_ 4 = encS ([] : List UInt8) ∧ ρ_ 8 = .pointer (some ⟨b138, 0, none⟩) ∧ ρ_ 63 = .slice A164 y161.length (pc0 - (1 : Int).toNat) ∧ ρ_ 64 = .int .i64 (y161.length : Int) ∧ ρ_ 65 = .int .i64 x168 ∧ strings_Join.l2 k a1 y161 k_ x168 x169 = some z171) k (fun ρ_ w_ => ∃ (o_ : Tags), Fm o0 w0 o_ w_ [] ∧ Bd 84 5 10 o_ w_ b138 z171 ∧ ρ_ 4 = encS ([] : List UInt8) ∧ ρ_ 8 = .pointer (some ⟨b138, 0, none⟩)) ⟨_, 0, z156.2, HF, hr163, hB160, s1_117, s4_117, rfl, rfl, rfl, rfl, hz171⟩ ?case172 ?_
          case case172 =>
            rintro ρ198 w196 ⟨o197, HF, hB160, s4_169, s8_169⟩
            refine WC.seq ?_
            refine WC.region ?_
            obtain ⟨z199, hz199, H⟩ := bindE H
            refine WL.op rfl ?_
            refine OW.call [.pointer (some ⟨b138, 0, none⟩)] rfl Tryd.func52 (by kernel_rfl) (by kernel_rfl) (map_cons' s8_169 rfl) (Builder_String.calls _ _ b138 z171 z199 (HF.ten (V := [0]) (L := [10]) rfl) (Bd.vw (V := [0]) (L := [10]) hB160 rfl rfl) hz199) ?_
            rintro _ w200 ⟨o201, rfl, s202⟩
            refine ⟨_, rfl, ?_⟩
            replace s202 := un_stepL (J := []) (L' := [10]) s202 rfl rfl
            replace HF := HF.step s202 rfl
            refine WL.ex rfl (ex_assign (v := encS z199) rfl) ?_
            refine WL.nil ?_
            refine WC.ret ?_
            obtain rfl := Option.some.inj H
            exact ⟨_, (.tmp (encS z199 : Value) rfl .nil), _, rfl, HF.out⟩
          have Ho173 := H
          rintro k174 ρ175 w176 ⟨o177, x168, x169, HF, hr163, hB160, s1_167, s4_167, s8_167, s63_167, s64_167, s65_168, H⟩
          cases k174 with
          | zero => cases H
          | succ k174 =>
          rw [strings_Join.l2.eq_2] at H
          refine WC.seq ?_
          refine WC.region ?_
          refine WL.ex rfl (ex_bin (a := .int .i64 x168) (b := .int .i64 (y161.length : Int)) (v := .bool (decide (x168 < (y161.length : Int)))) s65_168 s64_167 bin_lss) ?_
          refine WL.nil ?_
          refine WC.seq ?_
          rcases condE H with ⟨c178, H⟩ | ⟨c178, H⟩
          ·
            refine WC.cond_t ((show _ = Value.bool (decide (x168 < (y161.length : Int))) from rfl).trans (congrArg Value.bool c178)) ?_
            refine WC.skip ?_
            refine WC.seq ?_
            refine WC.block ?_
            refine WC.seq ?_
            refine WC.region ?_
            obtain ⟨x179, hx179, H⟩ := bindE H
            obtain ⟨ad180, e181, g182, g183, cell184⟩ := Row.ixS hr163 hx179
            refine WL.ex rfl (ex_indexAddr (i := x168) s63_167 e181 s65_168 Tryd.underlying49 sz9 g182 g183) ?_
            refine WL.ex rfl (ex_load1 (v := encS x179) rfl Tryd.underlying9 rfl cell184) ?_
            refine WL.ex rfl (ex_assign (v := encS x179) rfl) ?_
            refine WL.nil ?_
            refine WC.seq ?_
            refine WC.region ?_
            refine WL.ex rfl (ex_move (v := encS a1) s1_167) ?_
            obtain ⟨z186, hz186, H⟩ := bindE H
            refine WL.op rfl ?_
            refine OW.call [.pointer (some ⟨b138, 0, none⟩), encS a1] rfl Tryd.func51 (by kernel_rfl) (by kernel_rfl) (map_cons' s8_167 (map_cons' rfl rfl)) (Builder_WriteString.calls _ _ b138 x169 a1 z186 (HF.ten (V := [0]) (L := [10]) rfl) (Bd.vw (V := [0]) (L := [10]) hB160 rfl rfl) hz186) ?_
            rintro _ w187 ⟨o188, rfl, s189, hB190⟩
            refine ⟨_, rfl, ?_⟩
            replace hB190 := Bd.unO (J := []) 0 hB190 s189 rfl rfl rfl
            replace s189 := un_stepL (J := []) (L' := [10]) s189 rfl rfl
            replace hr163 := hr163.step s189 rfl
            replace HF := HF.step s189 rfl
            refine WL.nil ?_
            refine WC.region ?_
            refine WL.ex rfl (ex_move (v := encS x179) rfl) ?_
            obtain ⟨z191, hz191, H⟩ := bindE H
            refine WL.op rfl ?_
            refine OW.call [.pointer (some ⟨b138, 0, none⟩), encS x179] rfl Tryd.func51 (by kernel_rfl) (by kernel_rfl) (map_cons' s8_167 (map_cons' rfl rfl)) (Builder_WriteString.calls _ _ b138 z186.2 x179 z191 (HF.ten (V := [0]) (L := [10]) rfl) (Bd.vw (V := [0]) (L := [10]) hB190 rfl rfl) hz191) ?_
            rintro _ w192 ⟨o193, rfl, s194, hB195⟩
            refine ⟨_, rfl, ?_⟩
            replace hB195 := Bd.unO (J := []) 0 hB195 s194 rfl rfl rfl
            replace s194 := un_stepL (J := []) (L' := [10]) s194 rfl rfl
            replace hr163 := hr163.step s194 rfl
            replace HF := HF.step s194 rfl
            refine WL.nil ?_
            refine WC.region ?_
            refine WL.ex rfl (ex_bin (a := .int .i64 x168) (b := .int .i64 1) (v := .int .i64 (wrap64 (x168 + 1))) s65_168 rfl bin_add64) ?_
            refine WL.ex rfl (ex_move (v := .int .i64 (wrap64 (x168 + 1))) rfl) ?_
            refine WL.nil ?_
            exact ⟨k174, Nat.lt_succ_self _, ⟨_, wrap64 (x168 + 1), z191.2, HF, hr163, hB195, s1_167, s4_167, s8_167, s63_167, s64_167, rfl, H⟩⟩
          ·
            refine WC.cond_f ((show _ = Value.bool (decide (x168 < (y161.length : Int))) from rfl).trans (congrArg Value.bool c178)) ?_
            refine WC.exit ?_
            obtain rfl := Option.some.inj H
            exact ⟨_, HF, hB160, s4_167, s8_167⟩
        have Ho121 := H
        rintro k122 ρ123 w124 ⟨o125, x116, x117, HF, hra0, s0_115, s1_115, s4_115, s5_116, s39_116, s40_116, s41_117, H⟩
        cases k122 with
        | zero => cases H
        | succ k122 =>
        rw [strings_Join.l1.eq_2] at H
        refine WC.seq ?_
        refine WC.region ?_
        refine WL.ex rfl (ex_bin (a := .int .i64 x117) (b := .int .i64 (a0.length : Int)) (v := .bool (decide (x117 < (a0.length : Int)))) s41_117 s40_116 bin_lss) ?_
        refine WL.nil ?_
        refine WC.seq ?_
        rcases condE H with ⟨c126, H⟩ | ⟨c126, H⟩
        ·
          refine WC.cond_t ((show _ = Value.bool (decide (x117 < (a0.length : Int))) from rfl).trans (congrArg Value.bool c126)) ?_
          refine WC.skip ?_
          refine WC.seq ?_
          refine WC.block ?_
          refine WC.seq ?_
          refine WC.region ?_
          obtain ⟨x127, hx127, H⟩ := bindE H
          obtain ⟨ad128, e129, g130, g131, cell132⟩ := Row.ixS hra0 hx127
          refine WL.ex rfl (ex_indexAddr (i := x117) s39_116 e129 s41_117 Tryd.underlying49 sz9 g130 g131) ?_
          refine WL.ex rfl (ex_load1 (v := encS x127) rfl Tryd.underlying9 rfl cell132) ?_
          refine WL.ex rfl (ex_assign (v := encS x127) rfl) ?_
          refine WL.nil ?_
          refine WC.seq ?_
          refine WC.seq ?_
          refine WC.region ?_
          refine WL.ex rfl (ex_move (v := encS x127) rfl) ?_
          refine WL.ex rfl (ex_len_str (s := x127) rfl Tryd.underlying9) ?_
          refine WL.ex rfl (ex_move (v := .int .i64 x116) s5_116) ?_
          refine WL.ex rfl (ex_bin (a := .int .i64 9223372036854775807) (b := .int .i64 x116) (v := .int .i64 (wrap64 (9223372036854775807 - x116))) rfl rfl bin_sub64) ?_
          refine WL.ex rfl (ex_bin (a := .int .i64 (x127.length : Int)) (b := .int .i64 (wrap64 (9223372036854775807 - x116))) (v := .bool (decide ((x127.length : Int) > (wrap64 (9223372036854775807 - x116))))) rfl rfl bin_gtr) ?_
          refine WL.nil ?_
          rcases condE H with ⟨c134, H⟩ | ⟨c134, H⟩
          ·
            refine WC.cond_t ((show _ = Value.bool (decide ((x127.length : Int) > (wrap64 (9223372036854775807 - x116)))) from rfl).trans (congrArg Value.bool c134)) ?_
            cases H
          ·
            refine WC.cond_f ((show _ = Value.bool (decide ((x127.length : Int) > (wrap64 (9223372036854775807 - x116)))) from rfl).trans (congrArg Value.bool c134)) ?_
            refine WC.skip ?_
            refine WC.region ?_
            refine WL.ex rfl (ex_move (v := .int .i64 x116) s5_116) ?_
            refine WL.ex rfl (ex_move (v := encS x127) rfl) ?_
            refine WL.ex rfl (ex_len_str (s := x127) rfl Tryd.underlying9) ?_
            refine WL.ex rfl (ex_bin (a := .int .i64 x116) (b := .int .i64 (x127.length : Int)) (v := .int .i64 (wrap64 (x116 + (x127.length : Int)))) rfl rfl bin_add64) ?_
            refine WL.ex rfl (ex_assign (v := .int .i64 (wrap64 (x116 + (x127.length : Int)))) rfl) ?_
            refine WL.nil ?_
            refine WC.region ?_
            refine WL.ex rfl (ex_bin (a := .int .i64 x117) (b := .int .i64 1) (v := .int .i64 (wrap64 (x117 + 1))) s41_117 rfl bin_add64) ?_
            refine WL.ex rfl (ex_move (v := .int .i64 (wrap64 (x117 + 1))) rfl) ?_
            refine WL.nil ?_
            exact ⟨k122, Nat.lt_succ_self _, ⟨_, wrap64 (x116 + (x127.length : Int)), wrap64 (x117 + 1), HF, hra0, s0_115, s1_115, s4_115, rfl, s39_116, s40_116, rfl, H⟩⟩
        ·
          refine WC.cond_f ((show _ = Value.bool (decide (x117 < (a0.length : Int))) from rfl).trans (congrArg Value.bool c126)) ?_
          refine WC.exit ?_
          obtain rfl := Option.some.inj H
          exact ⟨_, HF, hra0, s0_115, s1_115, s4_115, s5_116⟩
      have Ho203 := H
      replace H := hz111
      refine WC.seq ?_
      refine WC.region ?_
      refine WL.ex rfl (ex_move (v := encS a1) rfl) ?_
      refine WL.ex rfl (ex_len_str (s := a1) rfl Tryd.underlying9) ?_
      refine WL.ex rfl (ex_bin (a := .int .i64 (a1.length : Int)) (b := .int .i64 0) (v := .bool (decide ((a1.length : Int) > 0))) rfl rfl bin_gtr) ?_
      refine WL.nil ?_
      rcases condE H with ⟨c204, H⟩ | ⟨c204, H⟩
      ·
        refine WC.cond_t ((show _ = Value.bool (decide ((a1.length : Int) > 0)) from rfl).trans (congrArg Value.bool c204)) ?_
        refine WC.seq ?_
        refine WC.seq ?_
        refine WC.region ?_
        refine WL.ex rfl (ex_move (v := encS a1) rfl) ?_
        refine WL.ex rfl (ex_len_str (s := a1) rfl Tryd.underlying9) ?_
        refine WL.ex rfl (ex_move (v := .slice pA0 a0.length pc0) rfl) ?_
        refine WL.ex rfl (ex_len_slice (A := pA0) (m := a0.length) (c := pc0) rfl Tryd.underlying49) ?_
        refine WL.ex rfl (ex_bin (a := .int .i64 (a0.length : Int)) (b := .int .i64 1) (v := .int .i64 (wrap64 ((a0.length : Int) - 1))) rfl rfl bin_sub64) ?_
        obtain ⟨u205, hu205, H⟩ := bindE H
        refine WL.ex rfl (ex_bin (a := .int .i64 9223372036854775807) (b := .int .i64 (wrap64 ((a0.length : Int) - 1))) (v := .int .i64 (wrap64 ((9223372036854775807 : Int).tdiv (wrap64 ((a0.length : Int) - 1))))) rfl rfl (bin_quo64 (by have h_ := chk_true hu205; simpa using h_))) ?_
        refine WL.ex rfl (ex_bin (a := .int .i64 (a1.length : Int)) (b := .int .i64 (wrap64 ((9223372036854775807 : Int).tdiv (wrap64 ((a0.length : Int) - 1))))) (v := .bool (decide ((a1.length : Int) ≥ (wrap64 ((9223372036854775807 : Int).tdiv (wrap64 ((a0.length : Int) - 1))))))) rfl rfl bin_geq) ?_
        refine WL.nil ?_
        rcases condE H with ⟨c206, H⟩ | ⟨c206, H⟩
        ·
          refine WC.cond_t ((show _ = Value.bool (decide ((a1.length : Int) ≥ (wrap64 ((9223372036854775807 : Int).tdiv (wrap64 ((a0.length : Int) - 1)))))) from rfl).trans (congrArg Value.bool c206)) ?_
          cases H
        ·
          refine WC.cond_f ((show _ = Value.bool (decide ((a1.length : Int) ≥ (wrap64 ((9223372036854775807 : Int).tdiv (wrap64 ((a0.length : Int) - 1)))))) from rfl).trans (congrArg Value.bool c206)) ?_
          refine WC.skip ?_
          refine WC.region ?_
          refine WL.ex rfl (ex_move (v := .int .i64 0) rfl) ?_
          refine WL.ex rfl (ex_move (v := encS a1) rfl) ?_
          refine WL.ex rfl (ex_len_str (s := a1) rfl Tryd.underlying9) ?_
          refine WL.ex rfl (ex_move (v := .slice pA0 a0.length pc0) rfl) ?_
          refine WL.ex rfl (ex_len_slice (A := pA0) (m := a0.length) (c := pc0) rfl Tryd.underlying49) ?_
          refine WL.ex rfl (ex_bin (a := .int .i64 (a0.length : Int)) (b := .int .i64 1) (v := .int .i64 (wrap64 ((a0.length : Int) - 1))) rfl rfl bin_sub64) ?_
          refine WL.ex rfl (ex_bin (a := .int .i64 (a1.length : Int)) (b := .int .i64 (wrap64 ((a0.length : Int) - 1))) (v := .int .i64 (wrap64 ((a1.length : Int) * (wrap64 ((a0.length : Int) - 1))))) rfl rfl bin_mul64) ?_
          refine WL.ex rfl (ex_bin (a := .int .i64 0) (b := .int .i64 (wrap64 ((a1.length : Int) * (wrap64 ((a0.length : Int) - 1))))) (v := .int .i64 (wrap64 (0 + (wrap64 ((a1.length : Int) * (wrap64 ((a0.length : Int) - 1))))))) rfl rfl bin_add64) ?_
          refine WL.ex rfl (ex_assign (v := .int .i64 (wrap64 (0 + (wrap64 ((a1.length : Int) * (wrap64 ((a0.length : Int) - 1))))))) rfl) ?_
          refine WL.nil ?_
          obtain rfl := Option.some.inj H
          exact ⟨_, HF, hra0, rfl, rfl, rfl, rfl⟩
      ·
        refine WC.cond_f ((show _ = Value.bool (decide ((a1.length : Int) > 0)) from rfl).trans (congrArg Value.bool c204)) ?_
        refine WC.skip ?_
        obtain rfl := Option.some.inj H
        exact ⟨_, HF, hra0, rfl, rfl, rfl, rfl⟩

/-! ### token_Join -/
set_option maxRecDepth 100000 in
theorem token_Join.calls (k : Nat) (o0 : Tags) (w0 : World) (pA0 : Option Addr) (pc0 : Nat) (a0 : (List T_api_Token)) (r : (List UInt8) × Int) (hO : ∀ b, b < w0.heap.size → o0 b < 10) (hra0 : Row T_api_Token.rep (fun b_ => o0 b_ = 0) (fun b_ => o0 b_ = 0) w0 pA0 a0) (hla0 : a0.length ≤ pc0) (hG : Gl GG o0 w0) (H : token_Join.f k a0 = some r) :
    Calls Tryd.prog 19 [.slice pA0 a0.length pc0].toArray w0 fun e_ w_ => ∃ (o_ : Tags), e_ = .returned (one [encS r.1, .int .i64 r.2]) ∧ Step o0 w0 o_ w_ [] := by
  have HF := Fm.refl hO []
  unfold token_Join.f at H
  refine SX.calls [.slice pA0 a0.length pc0] Tryd.func19 rfl rfl ?_
  rw [Tryd.ntmps19]
  refine WC.seq ?_
  refine WC.region ?_
  refine WL.ex rfl (ex_assign (v := encS ([] : List UInt8)) rfl) ?_
  refine WL.ex rfl (ex_assign (v := .int .i64 0) rfl) ?_
  refine WL.nil ?_
  refine WC.seq ?_
  refine WC.region ?_
  refine WL.ex rfl (ex_assign (v := .slice none ([] : List (List UInt8)).length 0) rfl) ?_
  refine WL.nil ?_
  refine WC.seq ?_
  refine WC.seq ?_
  refine WC.region ?_
  refine WL.ex rfl (ex_move (v := .slice pA0 a0.length pc0) rfl) ?_
  refine WL.ex rfl (ex_len_slice (A := pA0) (m := a0.length) (c := pc0) rfl Tryd.underlying28) ?_
  refine WL.ex rfl (ex_move (v := .int .i64 0) rfl) ?_
  refine WL.nil ?_
  obtain ⟨z108, hz108, H⟩ := bindE H
  refine WC.for (fun k_ ρ_ w_ => ∃ (o_ : Tags) (x103 : (List (List UInt8))) (x104 : Int) (v101 : Value), Fm o0 w0 o_ w_ [] ∧ Row T_api_Token.rep (fun b_ => o_ b_ = 0) (fun b_ => o_ b_ = 0) w_ pA0 a0 ∧ Own Rep.str 9 12 o_ w_ v101 x103 ∧ Gl GG o_ w_ ∧ ρ_ 0 = .slice pA0 a0.length pc0 ∧ ρ_ 2 = encS ([] : List UInt8) ∧ ρ_ 3 = .int .i64 0 ∧ ρ_ 4 = v101 ∧ ρ_ 9 = .slice pA0 a0.length pc0 ∧ ρ_ 10 = .int .i64 (a0.length : Int) ∧ ρ_ 11 = .int .i64 x104 ∧ token_Join.l1 k a0 k_ x103 x104 = some z108) k (fun ρ_ w_ => ∃ (o_ : Tags) (x107 : (List (List UInt8))) (v105 : Value), Fm o0 w0 o_ w_ [] ∧ Own Rep.str 9 12 o_ w_ v105 x107 ∧ Gl GG o_ w_ ∧ ρ_ 2 = encS ([] : List UInt8) ∧ ρ_ 3 = .int .i64 0 ∧ ρ_ 4 = v105 ∧ z108 = .inr x107) ⟨_, ([] : List (List UInt8)), 0, _, HF, hra0, Own.nil, hG, rfl, rfl, rfl, rfl, rfl, rfl, rfl, hz108⟩ ?case109 ?_
  case case109 =>
    rintro ρ164 w162 ⟨o163, x107, v105, HF, hO106, hG, s2_104, s3_104, s4_107, rfl⟩
    dsimp only at H
    refine WC.seq ?_
    refine WC.region ?_
    refine WL.ex rfl (ex_move (v := v105) s4_107) ?_
    obtain ⟨A165, c166, q167e, q167l, q167⟩ := Own.vwRow (V := [0, 12]) (L := []) hO106 rfl rfl
    obtain ⟨z168, hz168, H⟩ := bindE H
    have q167e' := q167e
    refine WL.op rfl ?_
    refine OW.call [v105, encS ([32] : List UInt8)] rfl Tryd.func34 (by kernel_rfl) (by kernel_rfl) (map_cons' rfl (map_cons' rfl rfl)) (by simp only [q167e]; exact (strings_Join.calls k _ _ A165 c166 x107 ([32] : List UInt8) z168 (HF.ten (V := [0, 12]) (L := []) rfl) q167 q167l hz168)) ?_
    rintro _ w169 ⟨o170, rfl, s171⟩
    refine ⟨_, rfl, ?_⟩
    replace s171 := un_stepL (J := []) (L' := []) s171 rfl rfl
    replace hO106 := hO106.step s171 rfl rfl
    replace hG := hG.step s171 rfl
    replace HF := HF.step s171 rfl
    refine WL.ex rfl (ex_assign (v := encS z168) rfl) ?_
    refine WL.ex rfl (ex_assign (v := .int .i64 0) rfl) ?_
    refine WL.nil ?_
    refine WC.ret ?_
    obtain rfl := Option.some.inj H
    exact ⟨_, (.tmp (encS z168 : Value) rfl (.tmp (.int .i64 0 : Value) rfl .nil)), _, rfl, HF.out⟩
  have Ho110 := H
  rintro k111 ρ112 w113 ⟨o114, x103, x104, v101, HF, hra0, hO102, hG, s0_100, s2_100, s3_100, s4_103, s9_103, s10_103, s11_104, H⟩
  cases k111 with
  | zero => cases H
  | succ k111 =>
  rw [token_Join.l1.eq_2] at H
  refine WC.seq ?_
  refine WC.region ?_
  refine WL.ex rfl (ex_bin (a := .int .i64 x104) (b := .int .i64 (a0.length : Int)) (v := .bool (decide (x104 < (a0.length : Int)))) s11_104 s10_103 bin_lss) ?_
  refine WL.nil ?_
  refine WC.seq ?_
  rcases condE H with ⟨c115, H⟩ | ⟨c115, H⟩
  ·
    refine WC.cond_t ((show _ = Value.bool (decide (x104 < (a0.length : Int))) from rfl).trans (congrArg Value.bool c115)) ?_
    refine WC.skip ?_
    refine WC.seq ?_
    refine WC.block ?_
    refine WC.seq ?_
    refine WC.region ?_
    refine WL.ex rfl (ex_move (v := .int .i64 x104) s11_104) ?_
    obtain ⟨x116, hx116, H⟩ := bindE H
    obtain ⟨ad117, cc121, e118, g119, g120, hl122, hR123, cell124⟩ := Row.ix hra0 hx116
    obtain rfl := T_api_Token.opn hR123
    refine WL.ex rfl (ex_indexAddr (i := x104) s9_103 e118 s11_104 Tryd.underlying28 sz37 g119 g120) ?_
    refine WL.ex rfl (ex_loadN (cs := [.int .i64 x116.f_Kind, encS x116.f_Text, .int .i64 x116.f_Int, .int .i64 x116.f_At.f_Line, .int .i64 x116.f_At.f_Col, .int .i64 x116.f_At.f_Off]) rfl Tryd.underlying37 rfl sz37 cell124) ?_
    refine WL.op rfl ?_
    refine OW.alloc' [.int .i64 (0 : Int), encS ([] : List UInt8), .int .i64 (0 : Int), .int .i64 (0 : Int), .int .i64 (0 : Int), .int .i64 (0 : Int)] 10 HF rfl zr37 rfl ?_
    intro o127 w128 b126 s129 hB130
    replace hra0 := hra0.step s129 rfl
    replace hO102 := hO102.step s129 rfl rfl
    replace hG := hG.step s129 rfl
    replace HF := HF.step s129 rfl
    refine WL.ex rfl (ex_assign (v := .int .i64 x104) rfl) ?_
    refine WL.op rfl ?_
    refine OW.store [.int .i64 x116.f_Kind, encS x116.f_Text, .int .i64 x116.f_Int, .int .i64 x116.f_At.f_Line, .int .i64 x116.f_At.f_Col, .int .i64 x116.f_At.f_Off] rfl (vs := [.int .i64 x116.f_Kind, encS x116.f_Text, .int .i64 x116.f_Int, .int .i64 x116.f_At.f_Line, .int .i64 x116.f_At.f_Col, .int .i64 x116.f_At.f_Off]) ((congrArg Value.cells (show ev _ _ = (.agg #[.int .i64 x116.f_Kind, encS x116.f_Text, .int .i64 x116.f_Int, .int .i64 x116.f_At.f_Line, .int .i64 x116.f_At.f_Col, .int .i64 x116.f_At.f_Off] : Value) from rfl)).trans rfl) sz37 hB130 (Nat.le_of_ble_eq_true rfl) (by intro u_ hu_; simp only [List.mem_cons, List.not_mem_nil, or_false] at hu_; rcases hu_ with rfl | rfl | rfl | rfl | rfl | rfl <;> first | rfl) rfl ?_
    intro w131 s132 hB133
    replace hra0 := hra0.step s132 rfl
    replace hO102 := hO102.step s132 rfl rfl
    replace hG := hG.step s132 rfl
    replace HF := HF.step s132 rfl
    refine WL.nil ?_
    refine WC.seq ?_
    refine WC.region ?_
    refine WL.ex rfl (ex_loadN (cs := [.int .i64 x116.f_Kind, encS x116.f_Text, .int .i64 x116.f_Int, .int .i64 x116.f_At.f_Line, .int .i64 x116.f_At.f_Col, .int .i64 x116.f_At.f_Off]) rfl Tryd.underlying37 rfl sz37 (hB133.cells rfl)) ?_
    obtain ⟨z134, hz134, H⟩ := bindE H
    refine WL.op rfl ?_
    refine OW.call [.agg #[.int .i64 x116.f_Kind, encS x116.f_Text, .int .i64 x116.f_Int, .int .i64 x116.f_At.f_Line, .int .i64 x116.f_At.f_Col, .int .i64 x116.f_At.f_Off]] rfl Tryd.func17 (by kernel_rfl) (by kernel_rfl) (map_cons' rfl rfl) (token_Write.calls k _ _ x116 z134 (HF.ten (V := [0]) (L := []) rfl) (Gl.vw (V := [0]) (L := []) hG rfl) hz134) ?_
    rintro _ w135 ⟨o136, rfl, s137⟩
    refine ⟨_, rfl, ?_⟩
    replace s137 := un_stepL (J := []) (L' := []) s137 rfl rfl
    replace hra0 := hra0.step s137 rfl
    replace hO102 := hO102.step s137 rfl rfl
    replace hG := hG.step s137 rfl
    replace hB133 := hB133.step s137 rfl
    replace HF := HF.step s137 rfl
    refine WL.ex rfl (ex_move (v := .tuple #[encS z134.1, .int .i64 z134.2]) rfl) ?_
    refine WL.ex rfl (ex_extract (vs := #[encS z134.1, .int .i64 z134.2]) (v := encS z134.1) rfl rfl) ?_
    refine WL.ex rfl (ex_extract (vs := #[encS z134.1, .int .i64 z134.2]) (v := .int .i64 z134.2) rfl rfl) ?_
    refine WL.ex rfl (ex_assign (v := encS z134.1) rfl) ?_
    refine WL.ex rfl (ex_assign (v := .int .i64 z134.2) rfl) ?_
    refine WL.nil ?_
    refine WC.seq ?_
    obtain ⟨z139, hz139, H⟩ := bindE H
    refine WC.cut (fun ρ_ w_ => ∃ (o_ : Tags), Fm o0 w0 o_ w_ [] ∧ Row T_api_Token.rep (fun b_ => o_ b_ = 0) (fun b_ => o_ b_ = 0) w_ pA0 a0 ∧ Own Rep.str 9 12 o_ w_ v101 x103 ∧ Gl GG o_ w_ ∧ ρ_ 0 = .slice pA0 a0.length pc0 ∧ ρ_ 2 = encS ([] : List UInt8) ∧ ρ_ 3 = .int .i64 0 ∧ ρ_ 4 = v101 ∧ ρ_ 7 = encS z134.1 ∧ ρ_ 9 = .slice pA0 a0.length pc0 ∧ ρ_ 10 = .int .i64 (a0.length : Int) ∧ ρ_ 11 = .int .i64 x104 ∧ ρ_ 34 = .bool z139) ?case140 ?_
    case case140 =>
      rintro ρ143 w141 ⟨o142, HF, hra0, hO102, hG, s0_137, s2_137, s3_137, s4_137, s7_137, s9_137, s10_137, s11_137, s34_138⟩
      rcases condE H with ⟨c144, H⟩ | ⟨c144, H⟩
      ·
        refine WC.cond_t ((show _ = Value.bool z139 from s34_138).trans (congrArg Value.bool c144)) ?_
        refine WC.seq ?_
        refine WC.region ?_
        refine WL.ex rfl (ex_assign (v := encS ([] : List UInt8)) rfl) ?_
        refine WL.ex rfl (ex_assign (v := .int .i64 2) rfl) ?_
        refine WL.nil ?_
        refine WC.ret ?_
        obtain rfl := Option.some.inj H
        replace H := Ho110
        dsimp only at H
        obtain rfl := Option.some.inj H
        exact ⟨_, (.tmp (encS ([] : List UInt8) : Value) rfl (.tmp (.int .i64 2 : Value) rfl .nil)), _, rfl, HF.out⟩
      ·
        refine WC.cond_f ((show _ = Value.bool z139 from s34_138).trans (congrArg Value.bool c144)) ?_
        refine WC.skip ?_
        refine WC.region ?_
        refine WL.ex rfl (ex_move (v := v101) s4_137) ?_
        refine WL.ex rfl (ex_move (v := encS z134.1) s7_137) ?_
        refine WL.op rfl ?_
        refine OW.row (r := Rep.str) (xs := [z134.1]) [(0, encS z134.1)] [[encS z134.1]] 11 HF rfl Tryd.underlying49 sz9 zr9 rfl (evs_cons rfl rfl) rfl rfl ⟨rfl, trivial⟩ rfl rfl rfl rfl ?_
        intro o145 w146 v148 s147 hO149
        replace hra0 := hra0.step s147 rfl
        replace hO102 := hO102.step s147 rfl rfl
        replace hG := hG.step s147 rfl
        replace HF := HF.step s147 rfl
        obtain ⟨A150, c151, q152_, _, q152⟩ := hO149.row
        obtain ⟨u153, hu153, H⟩ := bindE H
        refine WL.op rfl ?_
        refine OW.append (r := Rep.str) (E := 9) (i := 12) rfl Tryd.underlying49 inf9 rfl (by decide) (by decide) (by decide) rfl ((show _ = (v148 : Value) from rfl).trans q152_) hO102 q152 rfl (of_decide_eq_true (chk_true hu153)) ?_
        intro o154 w155 v156 s157 hO158
        replace hra0 := hra0.step s157 rfl
        replace hG := hG.step s157 rfl
        replace hO149 := hO149.step s157 rfl rfl
        replace HF := HF.step s157 rfl
        refine WL.ex rfl (ex_assign (v := v156) rfl) ?_
        refine WL.nil ?_
        refine WC.region ?_
        refine WL.ex rfl (ex_bin (a := .int .i64 x104) (b := .int .i64 1) (v := .int .i64 (wrap64 (x104 + 1))) s11_137 rfl bin_add64) ?_
        refine WL.ex rfl (ex_move (v := .int .i64 (wrap64 (x104 + 1))) rfl) ?_
        refine WL.nil ?_
        exact ⟨k111, Nat.lt_succ_self _, ⟨_, (x103 ++ [z134.1]), wrap64 (x104 + 1), _, HF, hra0, hO158, hG, s0_137, s2_137, s3_137, rfl, s9_137, s10_137, rfl, H⟩⟩
    have Ho159 := H
    replace H := hz139
    refine WC.region ?_
    refine WL.ex rfl (ex_move (v := .int .i64 z134.2) rfl) ?_
    refine WL.ex rfl (ex_bin (a := .int .i64 z134.2) (b := .int .i64 0) (v := .bool (z134.2 != 0)) rfl rfl bin_neq) ?_
    refine WL.ex rfl (ex_move (v := .bool (z134.2 != 0)) rfl) ?_
    rcases condE H with ⟨c160, H⟩ | ⟨c160, H⟩
    ·
      refine WL.guardNo rfl rfl rfl ((show _ = Value.bool (z134.2 != 0) from rfl).trans (congrArg Value.bool c160)) ?_
      refine WL.guardNo rfl rfl rfl ((show _ = Value.bool (z134.2 != 0) from rfl).trans (congrArg Value.bool c160)) ?_
      refine WL.guardNo rfl rfl rfl ((show _ = Value.bool (z134.2 != 0) from rfl).trans (congrArg Value.bool c160)) ?_
      refine WL.guardNo rfl rfl rfl ((show _ = Value.bool (z134.2 != 0) from rfl).trans (congrArg Value.bool c160)) ?_
      refine WL.guardUn rfl rfl rfl rfl ?_
      refine WL.guardUn rfl rfl rfl rfl ?_
      refine WL.guardUn rfl rfl rfl rfl ?_
      refine WL.guardUn rfl rfl rfl rfl ?_
      refine WL.guardUn rfl rfl rfl rfl ?_
      refine WL.guardNo rfl rfl rfl ((show _ = Value.bool (z134.2 != 0) from rfl).trans (congrArg Value.bool c160)) ?_
      refine WL.ex rfl (ex_pick_t (v := .bool true) ((show _ = Value.bool (z134.2 != 0) from rfl).trans (congrArg Value.bool c160)) rfl) ?_
      refine WL.nil ?_
      obtain rfl := Option.some.inj H
      exact ⟨_, HF, hra0, hO102, hG, s0_100, s2_100, s3_100, s4_103, rfl, s9_103, s10_103, s11_104, rfl⟩
    ·
      refine WL.guardYes rfl rfl rfl ((show _ = Value.bool (z134.2 != 0) from rfl).trans (congrArg Value.bool c160)) ?_
      refine OW.ex rfl (ex_fieldAddr rfl Tryd.underlying37 rfl sz35) ?_
      refine WL.guardYes rfl rfl rfl ((show _ = Value.bool (z134.2 != 0) from rfl).trans (congrArg Value.bool c160)) ?_
      refine OW.ex rfl (ex_load1 (v := .int .i64 x116.f_Kind) rfl Tryd.underlying35 rfl (hB133.cell rfl)) ?_
      refine WL.guardYes rfl rfl rfl ((show _ = Value.bool (z134.2 != 0) from rfl).trans (congrArg Value.bool c160)) ?_
      refine OW.ex rfl (ex_bin (a := .int .i64 x116.f_Kind) (b := .int .i64 0) (v := .bool (x116.f_Kind == 0)) rfl rfl bin_eql) ?_
      refine WL.guardYes rfl rfl rfl ((show _ = Value.bool (z134.2 != 0) from rfl).trans (congrArg Value.bool c160)) ?_
      refine OW.ex rfl (ex_move (v := .bool (x116.f_Kind == 0)) rfl) ?_
      rcases condE H with ⟨c161, H⟩ | ⟨c161, H⟩
      ·
        refine WL.guardYes rfl rfl rfl ((show _ = Value.bool (x116.f_Kind == 0) from rfl).trans (congrArg Value.bool c161)) ?_
        refine OW.ex rfl (ex_move (v := .int .i64 x104) rfl) ?_
        refine WL.guardYes rfl rfl rfl ((show _ = Value.bool (x116.f_Kind == 0) from rfl).trans (congrArg Value.bool c161)) ?_
        refine OW.ex rfl (ex_move (v := .slice pA0 a0.length pc0) s0_100) ?_
        refine WL.guardYes rfl rfl rfl ((show _ = Value.bool (x116.f_Kind == 0) from rfl).trans (congrArg Value.bool c161)) ?_
        refine OW.ex rfl (ex_len_slice (A := pA0) (m := a0.length) (c := pc0) rfl Tryd.underlying28) ?_
        refine WL.guardYes rfl rfl rfl ((show _ = Value.bool (x116.f_Kind == 0) from rfl).trans (congrArg Value.bool c161)) ?_
        refine OW.ex rfl (ex_bin (a := .int .i64 (a0.length : Int)) (b := .int .i64 1) (v := .int .i64 (wrap64 ((a0.length : Int) - 1))) rfl rfl bin_sub64) ?_
        refine WL.guardYes rfl rfl rfl ((show _ = Value.bool (x116.f_Kind == 0) from rfl).trans (congrArg Value.bool c161)) ?_
        refine OW.ex rfl (ex_bin (a := .int .i64 x104) (b := .int .i64 (wrap64 ((a0.length : Int) - 1))) (v := .bool (decide (x104 < (wrap64 ((a0.length : Int) - 1))))) rfl rfl bin_lss) ?_
        refine WL.guardYes rfl rfl rfl ((show _ = Value.bool (z134.2 != 0) from rfl).trans (congrArg Value.bool c160)) ?_
        refine OW.ex rfl (ex_pick_t (v := .bool (decide (x104 < (wrap64 ((a0.length : Int) - 1))))) ((show _ = Value.bool (x116.f_Kind == 0) from rfl).trans (congrArg Value.bool c161)) rfl) ?_
        refine WL.ex rfl (ex_pick_f (v := .bool (decide (x104 < (wrap64 ((a0.length : Int) - 1))))) ((show _ = Value.bool (z134.2 != 0) from rfl).trans (congrArg Value.bool c160)) rfl) ?_
        refine WL.nil ?_
        obtain rfl := Option.some.inj H
        exact ⟨_, HF, hra0, hO102, hG, s0_100, s2_100, s3_100, s4_103, rfl, s9_103, s10_103, s11_104, rfl⟩
      ·
        refine WL.guardNo rfl rfl rfl ((show _ = Value.bool (x116.f_Kind == 0) from rfl).trans (congrArg Value.bool c161)) ?_
        refine WL.guardNo rfl rfl rfl ((show _ = Value.bool (x116.f_Kind == 0) from rfl).trans (congrArg Value.bool c161)) ?_
        refine WL.guardNo rfl rfl rfl ((show _ = Value.bool (x116.f_Kind == 0) from rfl).trans (congrArg Value.bool c161)) ?_
        refine WL.guardNo rfl rfl rfl ((show _ = Value.bool (x116.f_Kind == 0) from rfl).trans (congrArg Value.bool c161)) ?_
        refine WL.guardNo rfl rfl rfl ((show _ = Value.bool (x116.f_Kind == 0) from rfl).trans (congrArg Value.bool c161)) ?_
        refine WL.guardYes rfl rfl rfl ((show _ = Value.bool (z134.2 != 0) from rfl).trans (congrArg Value.bool c160)) ?_
        refine OW.ex rfl (ex_pick_f (v := .bool false) ((show _ = Value.bool (x116.f_Kind == 0) from rfl).trans (congrArg Value.bool c161)) rfl) ?_
        refine WL.ex rfl (ex_pick_f (v := .bool false) ((show _ = Value.bool (z134.2 != 0) from rfl).trans (congrArg Value.bool c160)) rfl) ?_
        refine WL.nil ?_
        obtain rfl := Option.some.inj H
        exact ⟨_, HF, hra0, hO102, hG, s0_100, s2_100, s3_100, s4_103, rfl, s9_103, s10_103, s11_104, rfl⟩
  ·
    refine WC.cond_f ((show _ = Value.bool (decide (x104 < (a0.length : Int))) from rfl).trans (congrArg Value.bool c115)) ?_
    refine WC.exit ?_
    obtain rfl := Option.some.inj H
    exact ⟨_, x103, _, HF, hO102, hG, s2_100, s3_100, s4_103, rfl⟩

/-! ### dictumlaw02_num -/
set_option maxRecDepth 100000 in
theorem dictumlaw02_num.calls (o0 : Tags) (w0 : World) (a0 : Int) (r : Int) (hO : ∀ b, b < w0.heap.size → o0 b < 10) (H : dictumlaw02_num.f a0 = some r) :
    Calls Tryd.prog 21 [.int .i64 a0].toArray w0 fun e_ w_ => ∃ (o_ : Tags), e_ = .returned (one [.int .i64 r]) ∧ Step o0 w0 o_ w_ [] := by
  have HF := Fm.refl hO []
  unfold dictumlaw02_num.f at H
  refine SX.calls [.int .i64 a0] Tryd.func21 rfl rfl ?_
  rw [Tryd.ntmps21]
  refine WC.seq ?_
  refine WC.region ?_
  refine WL.ex rfl (ex_assign (v := .int .i64 0) rfl) ?_
  refine WL.nil ?_
  refine WC.seq ?_
  refine WC.region ?_
  refine WL.ex rfl (ex_move (v := .int .i64 a0) rfl) ?_
  refine WL.ex rfl (ex_assign (v := .int .i64 a0) rfl) ?_
  refine WL.nil ?_
  refine WC.ret ?_
  obtain rfl := Option.some.inj H
  exact ⟨_, (.tmp (.int .i64 a0 : Value) rfl .nil), _, rfl, HF.out⟩

/-! ### token_At -/
set_option maxRecDepth 100000 in
theorem token_At.calls (k : Nat) (o0 : Tags) (w0 : World) (a0 : List UInt8) (a1 : Int) (r : T_api_Spot) (hO : ∀ b, b < w0.heap.size → o0 b < 10) (H : token_At.f k a0 a1 = some r) :
    Calls Tryd.prog 9 [encS a0, .int .i64 a1].toArray w0 fun e_ w_ => ∃ (o_ : Tags), e_ = .returned (one [.agg #[.int .i64 r.f_Line, .int .i64 r.f_Col, .int .i64 r.f_Off]]) ∧ Step o0 w0 o_ w_ [] := by
  have HF := Fm.refl hO []
  unfold token_At.f at H
  refine SX.calls [encS a0, .int .i64 a1] Tryd.func9 rfl rfl ?_
  rw [Tryd.ntmps9]
  refine WC.seq ?_
  refine WC.region ?_
  refine WL.op rfl ?_
  refine OW.alloc' [.int .i64 (0 : Int), .int .i64 (0 : Int), .int .i64 (0 : Int)] 10 HF rfl zr23 rfl ?_
  intro o102 w103 b101 s104 hB105
  replace HF := HF.step s104 rfl
  refine WL.nil ?_
  refine WC.seq ?_
  refine WC.region ?_
  refine WL.ex rfl (ex_move (v := .int .i64 a1) rfl) ?_
  refine WL.ex rfl (ex_move (v := encS a0) rfl) ?_
  refine WL.ex rfl (ex_len_str (s := a0) rfl Tryd.underlying9) ?_
  refine WL.ex rfl (ex_min (a := a1) (b := (a0.length : Int)) rfl rfl) ?_
  refine WL.ex rfl (ex_max (a := 0) (b := (if (a0.length : Int) < a1 then (a0.length : Int) else a1)) rfl rfl) ?_
  refine WL.ex rfl (ex_assign (v := .int .i64 (if (if (a0.length : Int) < a1 then (a0.length : Int) else a1) > 0 then (if (a0.length : Int) < a1 then (a0.length : Int) else a1) else 0)) rfl) ?_
  refine WL.nil ?_
  refine WC.seq ?_
  refine WC.region ?_
  refine WL.ex rfl (ex_move (v := .int .i64 (if (if (a0.length : Int) < a1 then (a0.length : Int) else a1) > 0 then (if (a0.length : Int) < a1 then (a0.length : Int) else a1) else 0)) rfl) ?_
  refine WL.ex rfl (ex_build (cs := [.int .i64 1, .int .i64 1, .int .i64 (if (if (a0.length : Int) < a1 then (a0.length : Int) else a1) > 0 then (if (a0.length : Int) < a1 then (a0.length : Int) else a1) else 0)]) [(0, 1), (1, 1), (2, 1)] [(0, .int .i64 1), (1, .int .i64 1), (2, .int .i64 (if (if (a0.length : Int) < a1 then (a0.length : Int) else a1) > 0 then (if (a0.length : Int) < a1 then (a0.length : Int) else a1) else 0))] [.int .i64 0, .int .i64 0, .int .i64 0] Tryd.underlying23 zr23 rfl (by kernel_rfl) (evs_cons rfl (evs_cons rfl (evs_cons rfl rfl))) rfl) ?_
  refine WL.op rfl ?_
  refine OW.alloc' [.int .i64 (0 : Int), .int .i64 (0 : Int), .int .i64 (0 : Int)] 11 HF rfl zr23 rfl ?_
  intro o107 w108 b106 s109 hB110
  replace hB105 := hB105.step s109 rfl
  replace HF := HF.step s109 rfl
  refine WL.op rfl ?_
  refine OW.store [.int .i64 1, .int .i64 1, .int .i64 (if (if (a0.length : Int) < a1 then (a0.length : Int) else a1) > 0 then (if (a0.length : Int) < a1 then (a0.length : Int) else a1) else 0)] rfl (vs := [.int .i64 1, .int .i64 1, .int .i64 (if (if (a0.length : Int) < a1 then (a0.length : Int) else a1) > 0 then (if (a0.length : Int) < a1 then (a0.length : Int) else a1) else 0)]) ((congrArg Value.cells (show ev _ _ = (.agg #[.int .i64 1, .int .i64 1, .int .i64 (if (if (a0.length : Int) < a1 then (a0.length : Int) else a1) > 0 then (if (a0.length : Int) < a1 then (a0.length : Int) else a1) else 0)] : Value) from rfl)).trans rfl) sz23 hB110 (Nat.le_of_ble_eq_true rfl) (by intro u_ hu_; simp only [List.mem_cons, List.not_mem_nil, or_false] at hu_; rcases hu_ with rfl | rfl | rfl <;> first | rfl) rfl ?_
  intro w111 s112 hB113
  replace hB105 := hB105.step s112 rfl
  replace HF := HF.step s112 rfl
  refine WL.nil ?_
  refine WC.seq ?_
  refine WC.seq ?_
  refine WC.region ?_
  refine WL.ex rfl (ex_move (v := encS a0) rfl) ?_
  refine WL.op rfl ?_
  refine OW.rangeStr (s := a0) 12 HF rfl Tryd.underlying9 rfl ?_
  intro o115 w116 b114 s117 hI118
  replace hB105 := hB105.step s117 rfl
  replace hB113 := hB113.step s117 rfl
  replace HF := HF.step s117 rfl
  refine WL.nil ?_
  obtain ⟨z122, hz122, H⟩ := bindE H
  refine WC.for (fun k_ ρ_ w_ => ∃ (o_ : Tags) (x119 : T_api_Spot) (x120 : Nat), Fm o0 w0 o_ w_ [] ∧ Bk o_ w_ 10 b101 [.int .i64 (0 : Int), .int .i64 (0 : Int), .int .i64 (0 : Int)] 23 ∧ Bk o_ w_ 11 b106 [.int .i64 x119.f_Line, .int .i64 x119.f_Col, .int .i64 x119.f_Off] 23 ∧ It 12 o_ w_ b114 a0 x120 ∧ ρ_ 1 = .int .i64 (if (if (a0.length : Int) < a1 then (a0.length : Int) else a1) > 0 then (if (a0.length : Int) < a1 then (a0.length : Int) else a1) else 0) ∧ ρ_ 4 = .pointer (some ⟨b101, 0, none⟩) ∧ ρ_ 5 = .pointer (some ⟨b106, 0, none⟩) ∧ ρ_ 16 = .pointer (some ⟨b114, 0, none⟩) ∧ token_At.l1 k a0 a1 k_ x119 x120 = some z122) k (fun ρ_ w_ => ∃ (o_ : Tags), Fm o0 w0 o_ w_ [] ∧ Bk o_ w_ 10 b101 [.int .i64 (0 : Int), .int .i64 (0 : Int), .int .i64 (0 : Int)] 23 ∧ Bk o_ w_ 11 b106 [.int .i64 z122.f_Line, .int .i64 z122.f_Col, .int .i64 z122.f_Off] 23 ∧ ρ_ 4 = .pointer (some ⟨b101, 0, none⟩) ∧ ρ_ 5 = .pointer (some ⟨b106, 0, none⟩)) ⟨_, (⟨1, 1, (if (if (a0.length : Int) < a1 then (a0.length : Int) else a1) > 0 then (if (a0.length : Int) < a1 then (a0.length : Int) else a1) else 0)⟩ : T_api_Spot), 0, HF, hB105, hB113, hI118, rfl, rfl, rfl, rfl, hz122⟩ ?case123 ?_
  case case123 =>
    rintro ρ146 w144 ⟨o145, HF, hB105, hB113, s4_120, s5_120⟩
    refine WC.seq ?_
    refine WC.region ?_
    refine WL.ex rfl (ex_loadN (cs := [.int .i64 z122.f_Line, .int .i64 z122.f_Col, .int .i64 z122.f_Off]) s5_120 Tryd.underlying23 rfl sz23 (hB113.cells rfl)) ?_
    refine WL.op rfl ?_
    refine OW.store [.int .i64 z122.f_Line, .int .i64 z122.f_Col, .int .i64 z122.f_Off] s4_120 (vs := [.int .i64 z122.f_Line, .int .i64 z122.f_Col, .int .i64 z122.f_Off]) ((congrArg Value.cells (show ev _ _ = (.agg #[.int .i64 z122.f_Line, .int .i64 z122.f_Col, .int .i64 z122.f_Off] : Value) from rfl)).trans rfl) sz23 hB105 (Nat.le_of_ble_eq_true rfl) (by intro u_ hu_; simp only [List.mem_cons, List.not_mem_nil, or_false] at hu_; rcases hu_ with rfl | rfl | rfl <;> first | rfl) rfl ?_
    intro w147 s148 hB149
    replace hB113 := hB113.step s148 rfl
    replace HF := HF.step s148 rfl
    refine WL.nil ?_
    refine WC.ret ?_
    obtain rfl := Option.some.inj H
    exact ⟨_, (.cell (.agg #[.int .i64 z122.f_Line, .int .i64 z122.f_Col, .int .i64 z122.f_Off] : Value) s4_120 (run_loadN (cs := [.int .i64 z122.f_Line, .int .i64 z122.f_Col, .int .i64 z122.f_Off]) Tryd.underlying23 rfl sz23 (hB149.cells rfl)) .nil), _, rfl, HF.out⟩
  have Ho124 := H
  rintro k125 ρ126 w127 ⟨o128, x119, x120, HF, hB105, hB113, hI118, s1_118, s4_118, s5_118, s16_118, H⟩
  cases k125 with
  | zero => cases H
  | succ k125 =>
  rw [token_At.l1.eq_2] at H
  refine WC.seq ?_
  refine WC.region ?_
  rcases condE H with ⟨c129, H⟩ | ⟨c129, H⟩
  ·
    refine WL.op rfl (OW.nextYes (q := x120) rfl s16_118 hI118 c129 ?_)
    intro w130 s131 hI132
    replace hB105 := hB105.step s131 rfl
    replace hB113 := hB113.step s131 rfl
    replace HF := HF.step s131 rfl
    refine WL.ex rfl (ex_extract (vs := #[.bool true, .int .i64 (x120 : Int), .int .i32 (runeAt a0 x120)]) (v := .bool true) rfl rfl) ?_
    refine WL.nil ?_
    refine WC.seq ?_
    refine WC.cond_t rfl ?_
    refine WC.skip ?_
    refine WC.block ?_
    refine WC.seq ?_
    refine WC.region ?_
    refine WL.ex rfl (ex_extract (vs := #[.bool true, .int .i64 (x120 : Int), .int .i32 (runeAt a0 x120)]) (v := .int .i64 (x120 : Int)) rfl rfl) ?_
    refine WL.ex rfl (ex_extract (vs := #[.bool true, .int .i64 (x120 : Int), .int .i32 (runeAt a0 x120)]) (v := .int .i32 (runeAt a0 x120)) rfl rfl) ?_
    refine WL.ex rfl (ex_assign (v := .int .i64 (x120 : Int)) rfl) ?_
    refine WL.ex rfl (ex_assign (v := .int .i32 (runeAt a0 x120)) rfl) ?_
    refine WL.nil ?_
    refine WC.seq ?_
    refine WC.seq ?_
    refine WC.region ?_
    refine WL.ex rfl (ex_move (v := .int .i64 (x120 : Int)) rfl) ?_
    refine WL.ex rfl (ex_move (v := .int .i64 (if (if (a0.length : Int) < a1 then (a0.length : Int) else a1) > 0 then (if (a0.length : Int) < a1 then (a0.length : Int) else a1) else 0)) s1_118) ?_
    refine WL.ex rfl (ex_bin (a := .int .i64 (x120 : Int)) (b := .int .i64 (if (if (a0.length : Int) < a1 then (a0.length : Int) else a1) > 0 then (if (a0.length : Int) < a1 then (a0.length : Int) else a1) else 0)) (v := .bool (decide ((x120 : Int) ≥ (if (if (a0.length : Int) < a1 then (a0.length : Int) else a1) > 0 then (if (a0.length : Int) < a1 then (a0.length : Int) else a1) else 0)))) rfl rfl bin_geq) ?_
    refine WL.nil ?_
    rcases condE H with ⟨c133, H⟩ | ⟨c133, H⟩
    ·
      refine WC.cond_t ((show _ = Value.bool (decide ((x120 : Int) ≥ (if (if (a0.length : Int) < a1 then (a0.length : Int) else a1) > 0 then (if (a0.length : Int) < a1 then (a0.length : Int) else a1) else 0))) from rfl).trans (congrArg Value.bool c133)) ?_
      refine WC.exit ?_
      obtain rfl := Option.some.inj H
      exact ⟨_, HF, hB105, hB113, s4_118, s5_118⟩
    ·
      refine WC.cond_f ((show _ = Value.bool (decide ((x120 : Int) ≥ (if (if (a0.length : Int) < a1 then (a0.length : Int) else a1) > 0 then (if (a0.length : Int) < a1 then (a0.length : Int) else a1) else 0))) from rfl).trans (congrArg Value.bool c133)) ?_
      refine WC.skip ?_
      refine WC.seq ?_
      refine WC.region ?_
      refine WL.ex rfl (ex_move (v := .int .i32 (runeAt a0 x120)) rfl) ?_
      refine WL.ex rfl (ex_bin (a := .int .i32 (runeAt a0 x120)) (b := .int .i32 10) (v := .bool ((runeAt a0 x120) == 10)) rfl rfl bin_eql) ?_
      refine WL.nil ?_
      rcases condE H with ⟨c134, H⟩ | ⟨c134, H⟩
      ·
        refine WC.cond_t ((show _ = Value.bool ((runeAt a0 x120) == 10) from rfl).trans (congrArg Value.bool c134)) ?_
        refine WC.region ?_
        refine WL.ex rfl (ex_fieldAddr s5_118 Tryd.underlying23 rfl sz3) ?_
        refine WL.ex rfl (ex_load1 (v := .int .i64 x119.f_Line) rfl Tryd.underlying3 rfl (hB113.cell rfl)) ?_
        refine WL.ex rfl (ex_bin (a := .int .i64 x119.f_Line) (b := .int .i64 1) (v := .int .i64 (wrap64 (x119.f_Line + 1))) rfl rfl bin_add64) ?_
        refine WL.ex rfl (ex_fieldAddr s5_118 Tryd.underlying23 rfl sz3) ?_
        refine WL.op rfl ?_
        refine OW.store [.int .i64 (wrap64 (x119.f_Line + 1)), .int .i64 x119.f_Col, .int .i64 x119.f_Off] rfl (vs := [.int .i64 (wrap64 (x119.f_Line + 1))]) ((congrArg Value.cells (show ev _ _ = (.int .i64 (wrap64 (x119.f_Line + 1)) : Value) from rfl)).trans rfl) sz3 hB113 (Nat.le_of_ble_eq_true rfl) (by intro u_ hu_; simp only [List.mem_cons, List.not_mem_nil, or_false] at hu_; rcases hu_ with rfl; first | rfl) rfl ?_
        intro w135 s136 hB137
        replace hB105 := hB105.step s136 rfl
        replace hI132 := hI132.step s136 rfl
        replace HF := HF.step s136 rfl
        refine WL.ex rfl (ex_fieldAddr s5_118 Tryd.underlying23 rfl sz3) ?_
        refine WL.op rfl ?_
        refine OW.store [.int .i64 (wrap64 (x119.f_Line + 1)), .int .i64 1, .int .i64 x119.f_Off] rfl (vs := [.int .i64 1]) ((congrArg Value.cells (show ev _ _ = (.int .i64 1 : Value) from rfl)).trans rfl) sz3 hB137 (Nat.le_of_ble_eq_true rfl) (by intro u_ hu_; simp only [List.mem_cons, List.not_mem_nil, or_false] at hu_; rcases hu_ with rfl; first | rfl) rfl ?_
        intro w138 s139 hB140
        replace hB105 := hB105.step s139 rfl
        replace hI132 := hI132.step s139 rfl
        replace HF := HF.step s139 rfl
        refine WL.nil ?_
        exact ⟨k125, Nat.lt_succ_self _, ⟨_, (⟨wrap64 (x119.f_Line + 1), 1, x119.f_Off⟩ : T_api_Spot), (x120 + wideAt a0 x120), HF, hB105, hB140, hI132, s1_118, s4_118, s5_118, s16_118, H⟩⟩
      ·
        refine WC.cond_f ((show _ = Value.bool ((runeAt a0 x120) == 10) from rfl).trans (congrArg Value.bool c134)) ?_
        refine WC.region ?_
        refine WL.ex rfl (ex_fieldAddr s5_118 Tryd.underlying23 rfl sz3) ?_
        refine WL.ex rfl (ex_load1 (v := .int .i64 x119.f_Col) rfl Tryd.underlying3 rfl (hB113.cell rfl)) ?_
        refine WL.ex rfl (ex_bin (a := .int .i64 x119.f_Col) (b := .int .i64 1) (v := .int .i64 (wrap64 (x119.f_Col + 1))) rfl rfl bin_add64) ?_
        refine WL.ex rfl (ex_fieldAddr s5_118 Tryd.underlying23 rfl sz3) ?_
        refine WL.op rfl ?_
        refine OW.store [.int .i64 x119.f_Line, .int .i64 (wrap64 (x119.f_Col + 1)), .int .i64 x119.f_Off] rfl (vs := [.int .i64 (wrap64 (x119.f_Col + 1))]) ((congrArg Value.cells (show ev _ _ = (.int .i64 (wrap64 (x119.f_Col + 1)) : Value) from rfl)).trans rfl) sz3 hB113 (Nat.le_of_ble_eq_true rfl) (by intro u_ hu_; simp only [List.mem_cons, List.not_mem_nil, or_false] at hu_; rcases hu_ with rfl; first | rfl) rfl ?_
        intro w141 s142 hB143
        replace hB105 := hB105.step s142 rfl
        replace hI132 := hI132.step s142 rfl
        replace HF := HF.step s142 rfl
        refine WL.nil ?_
        exact ⟨k125, Nat.lt_succ_self _, ⟨_, (⟨x119.f_Line, wrap64 (x119.f_Col + 1), x119.f_Off⟩ : T_api_Spot), (x120 + wideAt a0 x120), HF, hB105, hB143, hI132, s1_118, s4_118, s5_118, s16_118, H⟩⟩
  ·
    refine WL.op rfl (OW.nextNo (q := x120) rfl s16_118 hI118 c129 ?_)
    refine WL.ex rfl (ex_extract (vs := #[.bool false]) (v := .bool false) rfl rfl) ?_
    refine WL.nil ?_
    refine WC.seq ?_
    refine WC.cond_f rfl ?_
    refine WC.exit ?_
    obtain rfl := Option.some.inj H
    exact ⟨_, HF, hB105, hB113, s4_118, s5_118⟩

/-! ### dictumlaw02_alive -/
set_option maxRecDepth 100000 in
theorem dictumlaw02_alive.calls (k : Nat) (o0 : Tags) (w0 : World) (r : Bool) (hO : ∀ b, b < w0.heap.size → o0 b < 10) (hG : Gl GG o0 w0) (H : dictumlaw02_alive.f k = some r) :
    Calls Tryd.prog 13 [].toArray w0 fun e_ w_ => ∃ (o_ : Tags), e_ = .returned (one [.bool r]) ∧ Step o0 w0 o_ w_ [] := by
  have HF := Fm.refl hO []
  unfold dictumlaw02_alive.f at H
  refine SX.calls [] Tryd.func13 rfl rfl ?_
  rw [Tryd.ntmps13]
  refine WC.seq ?_
  refine WC.region ?_
  refine WL.ex rfl (ex_assign (v := .bool false) rfl) ?_
  refine WL.nil ?_
  refine WC.seq ?_
  refine WC.region ?_
  obtain ⟨z101, hz101, H⟩ := bindE H
  refine WL.op rfl ?_
  refine OW.call [encS ([112, 32, 45, 62, 32, 40, 113, 49, 41, 32, 35, 32, 120] : List UInt8)] rfl Tryd.func14 (by kernel_rfl) (by kernel_rfl) (map_cons' rfl rfl) (token_Scan.calls k _ _ ([112, 32, 45, 62, 32, 40, 113, 49, 41, 32, 35, 32, 120] : List UInt8) z101 (HF.ten (V := [0]) (L := []) rfl) (Gl.vw (V := [0]) (L := []) hG rfl) hz101) ?_
  rintro _ w102 ⟨o103, v105, rfl, s104, hO106⟩
  refine ⟨_, rfl, ?_⟩
  replace hO106 := Own.un9 (J := [10]) 0 hO106 rfl s104 rfl rfl
  replace s104 := un_stepL (J := [10]) (L' := []) s104 rfl rfl
  replace hG := hG.step s104 rfl
  replace HF := HF.step s104 rfl
  refine WL.ex rfl (ex_move (v := .tuple #[v105, .agg #[.int .i64 z101.2.f_Code, .int .i64 z101.2.f_At.f_Line, .int .i64 z101.2.f_At.f_Col, .int .i64 z101.2.f_At.f_Off]]) rfl) ?_
  refine WL.ex rfl (ex_extract (vs := #[v105, .agg #[.int .i64 z101.2.f_Code, .int .i64 z101.2.f_At.f_Line, .int .i64 z101.2.f_At.f_Col, .int .i64 z101.2.f_At.f_Off]]) (v := v105) rfl rfl) ?_
  refine WL.ex rfl (ex_extract (vs := #[v105, .agg #[.int .i64 z101.2.f_Code, .int .i64 z101.2.f_At.f_Line, .int .i64 z101.2.f_At.f_Col, .int .i64 z101.2.f_At.f_Off]]) (v := .agg #[.int .i64 z101.2.f_Code, .int .i64 z101.2.f_At.f_Line, .int .i64 z101.2.f_At.f_Col, .int .i64 z101.2.f_At.f_Off]) rfl rfl) ?_
  refine WL.op rfl ?_
  refine OW.alloc' [.int .i64 (0 : Int), .int .i64 (0 : Int), .int .i64 (0 : Int), .int .i64 (0 : Int)] 11 HF rfl zr31 rfl ?_
  intro o108 w109 b107 s110 hB111
  replace hG := hG.step s110 rfl
  replace hO106 := hO106.step s110 rfl rfl
  replace HF := HF.step s110 rfl
  refine WL.ex rfl (ex_assign (v := v105) rfl) ?_
  refine WL.op rfl ?_
  refine OW.store [.int .i64 z101.2.f_Code, .int .i64 z101.2.f_At.f_Line, .int .i64 z101.2.f_At.f_Col, .int .i64 z101.2.f_At.f_Off] rfl (vs := [.int .i64 z101.2.f_Code, .int .i64 z101.2.f_At.f_Line, .int .i64 z101.2.f_At.f_Col, .int .i64 z101.2.f_At.f_Off]) ((congrArg Value.cells (show ev _ _ = (.agg #[.int .i64 z101.2.f_Code, .int .i64 z101.2.f_At.f_Line, .int .i64 z101.2.f_At.f_Col, .int .i64 z101.2.f_At.f_Off] : Value) from rfl)).trans rfl) sz31 hB111 (Nat.le_of_ble_eq_true rfl) (by intro u_ hu_; simp only [List.mem_cons, List.not_mem_nil, or_false] at hu_; rcases hu_ with rfl | rfl | rfl | rfl <;> first | rfl) rfl ?_
  intro w112 s113 hB114
  replace hG := hG.step s113 rfl
  replace hO106 := hO106.step s113 rfl rfl
  replace HF := HF.step s113 rfl
  refine WL.nil ?_
  refine WC.seq ?_
  refine WC.region ?_
  obtain ⟨z115, hz115, H⟩ := bindE H
  refine WL.op rfl ?_
  refine OW.call [encS ([97, 10, 32, 48, 48, 55] : List UInt8)] rfl Tryd.func14 (by kernel_rfl) (by kernel_rfl) (map_cons' rfl rfl) (token_Scan.calls k _ _ ([97, 10, 32, 48, 48, 55] : List UInt8) z115 (HF.ten (V := [0]) (L := []) rfl) (Gl.vw (V := [0]) (L := []) hG rfl) hz115) ?_
  rintro _ w116 ⟨o117, v119, rfl, s118, hO120⟩
  refine ⟨_, rfl, ?_⟩
  replace hO120 := Own.un9 (J := [12]) 0 hO120 rfl s118 rfl rfl
  replace s118 := un_stepL (J := [12]) (L' := []) s118 rfl rfl
  replace hG := hG.step s118 rfl
  replace hO106 := hO106.step s118 rfl rfl
  replace hB114 := hB114.step s118 rfl
  replace HF := HF.step s118 rfl
  refine WL.ex rfl (ex_move (v := .tuple #[v119, .agg #[.int .i64 z115.2.f_Code, .int .i64 z115.2.f_At.f_Line, .int .i64 z115.2.f_At.f_Col, .int .i64 z115.2.f_At.f_Off]]) rfl) ?_
  refine WL.ex rfl (ex_extract (vs := #[v119, .agg #[.int .i64 z115.2.f_Code, .int .i64 z115.2.f_At.f_Line, .int .i64 z115.2.f_At.f_Col, .int .i64 z115.2.f_At.f_Off]]) (v := v119) rfl rfl) ?_
  refine WL.ex rfl (ex_extract (vs := #[v119, .agg #[.int .i64 z115.2.f_Code, .int .i64 z115.2.f_At.f_Line, .int .i64 z115.2.f_At.f_Col, .int .i64 z115.2.f_At.f_Off]]) (v := .agg #[.int .i64 z115.2.f_Code, .int .i64 z115.2.f_At.f_Line, .int .i64 z115.2.f_At.f_Col, .int .i64 z115.2.f_At.f_Off]) rfl rfl) ?_
  refine WL.op rfl ?_
  refine OW.alloc' [.int .i64 (0 : Int), .int .i64 (0 : Int), .int .i64 (0 : Int), .int .i64 (0 : Int)] 13 HF rfl zr31 rfl ?_
  intro o122 w123 b121 s124 hB125
  replace hG := hG.step s124 rfl
  replace hO106 := hO106.step s124 rfl rfl
  replace hB114 := hB114.step s124 rfl
  replace hO120 := hO120.step s124 rfl rfl
  replace HF := HF.step s124 rfl
  refine WL.ex rfl (ex_assign (v := v119) rfl) ?_
  refine WL.op rfl ?_
  refine OW.store [.int .i64 z115.2.f_Code, .int .i64 z115.2.f_At.f_Line, .int .i64 z115.2.f_At.f_Col, .int .i64 z115.2.f_At.f_Off] rfl (vs := [.int .i64 z115.2.f_Code, .int .i64 z115.2.f_At.f_Line, .int .i64 z115.2.f_At.f_Col, .int .i64 z115.2.f_At.f_Off]) ((congrArg Value.cells (show ev _ _ = (.agg #[.int .i64 z115.2.f_Code, .int .i64 z115.2.f_At.f_Line, .int .i64 z115.2.f_At.f_Col, .int .i64 z115.2.f_At.f_Off] : Value) from rfl)).trans rfl) sz31 hB125 (Nat.le_of_ble_eq_true rfl) (by intro u_ hu_; simp only [List.mem_cons, List.not_mem_nil, or_false] at hu_; rcases hu_ with rfl | rfl | rfl | rfl <;> first | rfl) rfl ?_
  intro w126 s127 hB128
  replace hG := hG.step s127 rfl
  replace hO106 := hO106.step s127 rfl rfl
  replace hB114 := hB114.step s127 rfl
  replace hO120 := hO120.step s127 rfl rfl
  replace HF := HF.step s127 rfl
  refine WL.nil ?_
  refine WC.seq ?_
  refine WC.region ?_
  refine WL.ex rfl (ex_build (cs := [.int .i64 1, encS ([97] : List UInt8), .int .i64 (0 : Int), .int .i64 (0 : Int), .int .i64 (0 : Int), .int .i64 (0 : Int)]) [(0, 1), (1, 1), (2, 1), (3, 3)] [(0, .int .i64 1), (1, encS ([97] : List UInt8))] [.int .i64 0, .string ⟨#[]⟩, .int .i64 0, .int .i64 0, .int .i64 0, .int .i64 0] Tryd.underlying37 zr37 rfl (by kernel_rfl) (evs_cons rfl (evs_cons rfl rfl)) rfl) ?_
  refine WL.ex rfl (ex_build (cs := [.int .i64 3, encS ([45, 62] : List UInt8), .int .i64 (0 : Int), .int .i64 (0 : Int), .int .i64 (0 : Int), .int .i64 (0 : Int)]) [(0, 1), (1, 1), (2, 1), (3, 3)] [(0, .int .i64 3), (1, encS ([45, 62] : List UInt8))] [.int .i64 0, .string ⟨#[]⟩, .int .i64 0, .int .i64 0, .int .i64 0, .int .i64 0] Tryd.underlying37 zr37 rfl (by kernel_rfl) (evs_cons rfl (evs_cons rfl rfl)) rfl) ?_
  refine WL.ex rfl (ex_build (cs := [.int .i64 2, encS ([] : List UInt8), .int .i64 7, .int .i64 (0 : Int), .int .i64 (0 : Int), .int .i64 (0 : Int)]) [(0, 1), (1, 1), (2, 1), (3, 3)] [(0, .int .i64 2), (2, .int .i64 7)] [.int .i64 0, .string ⟨#[]⟩, .int .i64 0, .int .i64 0, .int .i64 0, .int .i64 0] Tryd.underlying37 zr37 rfl (by kernel_rfl) (evs_cons rfl (evs_cons rfl rfl)) rfl) ?_
  refine WL.op rfl ?_
  refine OW.row (r := T_api_Token.rep) (xs := [(⟨1, ([97] : List UInt8), (0 : Int), (⟨(0 : Int), (0 : Int), (0 : Int)⟩ : T_api_Spot)⟩ : T_api_Token), (⟨3, ([45, 62] : List UInt8), (0 : Int), (⟨(0 : Int), (0 : Int), (0 : Int)⟩ : T_api_Spot)⟩ : T_api_Token), (⟨2, ([] : List UInt8), 7, (⟨(0 : Int), (0 : Int), (0 : Int)⟩ : T_api_Spot)⟩ : T_api_Token)]) [(0, .agg #[.int .i64 1, encS ([97] : List UInt8), .int .i64 (0 : Int), .int .i64 (0 : Int), .int .i64 (0 : Int), .int .i64 (0 : Int)]), (1, .agg #[.int .i64 3, encS ([45, 62] : List UInt8), .int .i64 (0 : Int), .int .i64 (0 : Int), .int .i64 (0 : Int), .int .i64 (0 : Int)]), (2, .agg #[.int .i64 2, encS ([] : List UInt8), .int .i64 7, .int .i64 (0 : Int), .int .i64 (0 : Int), .int .i64 (0 : Int)])] [[.int .i64 1, encS ([97] : List UInt8), .int .i64 (0 : Int), .int .i64 (0 : Int), .int .i64 (0 : Int), .int .i64 (0 : Int)], [.int .i64 3, encS ([45, 62] : List UInt8), .int .i64 (0 : Int), .int .i64 (0 : Int), .int .i64 (0 : Int), .int .i64 (0 : Int)], [.int .i64 2, encS ([] : List UInt8), .int .i64 7, .int .i64 (0 : Int), .int .i64 (0 : Int), .int .i64 (0 : Int)]] 14 HF rfl Tryd.underlying28 sz37 zr37 rfl (evs_cons rfl (evs_cons rfl (evs_cons rfl rfl))) rfl rfl ⟨(T_api_Token.mk' (⟨1, ([97] : List UInt8), (0 : Int), (⟨(0 : Int), (0 : Int), (0 : Int)⟩ : T_api_Spot)⟩ : T_api_Token) ), (T_api_Token.mk' (⟨3, ([45, 62] : List UInt8), (0 : Int), (⟨(0 : Int), (0 : Int), (0 : Int)⟩ : T_api_Spot)⟩ : T_api_Token) ), (T_api_Token.mk' (⟨2, ([] : List UInt8), 7, (⟨(0 : Int), (0 : Int), (0 : Int)⟩ : T_api_Spot)⟩ : T_api_Token) ), trivial⟩ rfl rfl rfl rfl ?_
  intro o129 w130 v132 s131 hO133
  replace hG := hG.step s131 rfl
  replace hO106 := hO106.step s131 rfl rfl
  replace hB114 := hB114.step s131 rfl
  replace hO120 := hO120.step s131 rfl rfl
  replace hB128 := hB128.step s131 rfl
  replace HF := HF.step s131 rfl
  obtain ⟨A134, c135, q136e, q136l, q136⟩ := Own.vwRow (V := [0, 14]) (L := []) hO133 rfl rfl
  obtain ⟨z137, hz137, H⟩ := bindE H
  have q136e' := q136e
  refine WL.op rfl ?_
  refine OW.call [v132] rfl Tryd.func19 (by kernel_rfl) (by kernel_rfl) (map_cons' rfl rfl) (by simp only [q136e]; exact (token_Join.calls k _ _ A134 c135 ([(⟨1, ([97] : List UInt8), (0 : Int), (⟨(0 : Int), (0 : Int), (0 : Int)⟩ : T_api_Spot)⟩ : T_api_Token), (⟨3, ([45, 62] : List UInt8), (0 : Int), (⟨(0 : Int), (0 : Int), (0 : Int)⟩ : T_api_Spot)⟩ : T_api_Token), (⟨2, ([] : List UInt8), 7, (⟨(0 : Int), (0 : Int), (0 : Int)⟩ : T_api_Spot)⟩ : T_api_Token)]) z137 (HF.ten (V := [0, 14]) (L := []) rfl) q136 q136l (Gl.vw (V := [0, 14]) (L := []) hG rfl) hz137)) ?_
  rintro _ w138 ⟨o139, rfl, s140⟩
  refine ⟨_, rfl, ?_⟩
  replace s140 := un_stepL (J := []) (L' := []) s140 rfl rfl
  replace hG := hG.step s140 rfl
  replace hO106 := hO106.step s140 rfl rfl
  replace hB114 := hB114.step s140 rfl
  replace hO120 := hO120.step s140 rfl rfl
  replace hB128 := hB128.step s140 rfl
  replace hO133 := hO133.step s140 rfl rfl
  replace HF := HF.step s140 rfl
  refine WL.ex rfl (ex_move (v := .tuple #[encS z137.1, .int .i64 z137.2]) rfl) ?_
  refine WL.ex rfl (ex_extract (vs := #[encS z137.1, .int .i64 z137.2]) (v := encS z137.1) rfl rfl) ?_
  refine WL.ex rfl (ex_extract (vs := #[encS z137.1, .int .i64 z137.2]) (v := .int .i64 z137.2) rfl rfl) ?_
  refine WL.ex rfl (ex_assign (v := encS z137.1) rfl) ?_
  refine WL.ex rfl (ex_assign (v := .int .i64 z137.2) rfl) ?_
  refine WL.nil ?_
  refine WC.seq ?_
  refine WC.region ?_
  obtain ⟨z141, hz141, H⟩ := bindE H
  refine WL.op rfl ?_
  refine OW.call [encS ([194, 172, 112, 226, 136, 168, 226, 138, 165] : List UInt8)] rfl Tryd.func14 (by kernel_rfl) (by kernel_rfl) (map_cons' rfl rfl) (token_Scan.calls k _ _ ([194, 172, 112, 226, 136, 168, 226, 138, 165] : List UInt8) z141 (HF.ten (V := [0]) (L := []) rfl) (Gl.vw (V := [0]) (L := []) hG rfl) hz141) ?_
  rintro _ w142 ⟨o143, v145, rfl, s144, hO146⟩
  refine ⟨_, rfl, ?_⟩
  replace hO146 := Own.un9 (J := [15]) 0 hO146 rfl s144 rfl rfl
  replace s144 := un_stepL (J := [15]) (L' := []) s144 rfl rfl
  replace hG := hG.step s144 rfl
  replace hO106 := hO106.step s144 rfl rfl
  replace hB114 := hB114.step s144 rfl
  replace hO120 := hO120.step s144 rfl rfl
  replace hB128 := hB128.step s144 rfl
  replace hO133 := hO133.step s144 rfl rfl
  replace HF := HF.step s144 rfl
  refine WL.ex rfl (ex_move (v := .tuple #[v145, .agg #[.int .i64 z141.2.f_Code, .int .i64 z141.2.f_At.f_Line, .int .i64 z141.2.f_At.f_Col, .int .i64 z141.2.f_At.f_Off]]) rfl) ?_
  refine WL.ex rfl (ex_extract (vs := #[v145, .agg #[.int .i64 z141.2.f_Code, .int .i64 z141.2.f_At.f_Line, .int .i64 z141.2.f_At.f_Col, .int .i64 z141.2.f_At.f_Off]]) (v := v145) rfl rfl) ?_
  refine WL.ex rfl (ex_extract (vs := #[v145, .agg #[.int .i64 z141.2.f_Code, .int .i64 z141.2.f_At.f_Line, .int .i64 z141.2.f_At.f_Col, .int .i64 z141.2.f_At.f_Off]]) (v := .agg #[.int .i64 z141.2.f_Code, .int .i64 z141.2.f_At.f_Line, .int .i64 z141.2.f_At.f_Col, .int .i64 z141.2.f_At.f_Off]) rfl rfl) ?_
  refine WL.op rfl ?_
  refine OW.alloc' [.int .i64 (0 : Int), .int .i64 (0 : Int), .int .i64 (0 : Int), .int .i64 (0 : Int)] 16 HF rfl zr31 rfl ?_
  intro o148 w149 b147 s150 hB151
  replace hG := hG.step s150 rfl
  replace hO106 := hO106.step s150 rfl rfl
  replace hB114 := hB114.step s150 rfl
  replace hO120 := hO120.step s150 rfl rfl
  replace hB128 := hB128.step s150 rfl
  replace hO133 := hO133.step s150 rfl rfl
  replace hO146 := hO146.step s150 rfl rfl
  replace HF := HF.step s150 rfl
  refine WL.ex rfl (ex_assign (v := v145) rfl) ?_
  refine WL.op rfl ?_
  refine OW.store [.int .i64 z141.2.f_Code, .int .i64 z141.2.f_At.f_Line, .int .i64 z141.2.f_At.f_Col, .int .i64 z141.2.f_At.f_Off] rfl (vs := [.int .i64 z141.2.f_Code, .int .i64 z141.2.f_At.f_Line, .int .i64 z141.2.f_At.f_Col, .int .i64 z141.2.f_At.f_Off]) ((congrArg Value.cells (show ev _ _ = (.agg #[.int .i64 z141.2.f_Code, .int .i64 z141.2.f_At.f_Line, .int .i64 z141.2.f_At.f_Col, .int .i64 z141.2.f_At.f_Off] : Value) from rfl)).trans rfl) sz31 hB151 (Nat.le_of_ble_eq_true rfl) (by intro u_ hu_; simp only [List.mem_cons, List.not_mem_nil, or_false] at hu_; rcases hu_ with rfl | rfl | rfl | rfl <;> first | rfl) rfl ?_
  intro w152 s153 hB154
  replace hG := hG.step s153 rfl
  replace hO106 := hO106.step s153 rfl rfl
  replace hB114 := hB114.step s153 rfl
  replace hO120 := hO120.step s153 rfl rfl
  replace hB128 := hB128.step s153 rfl
  replace hO133 := hO133.step s153 rfl rfl
  replace hO146 := hO146.step s153 rfl rfl
  replace HF := HF.step s153 rfl
  refine WL.nil ?_
  refine WC.seq ?_
  refine WC.region ?_
  refine WL.ex rfl (ex_loadN (cs := [.int .i64 z101.2.f_Code, .int .i64 z101.2.f_At.f_Line, .int .i64 z101.2.f_At.f_Col, .int .i64 z101.2.f_At.f_Off]) rfl Tryd.underlying31 rfl sz31 (hB114.cells rfl)) ?_
  refine WL.ex rfl (ex_build (cs := [.int .i64 (0 : Int), .int .i64 (0 : Int), .int .i64 (0 : Int), .int .i64 (0 : Int)]) [(0, 1), (1, 3)] [] [.int .i64 0, .int .i64 0, .int .i64 0, .int .i64 0] Tryd.underlying31 zr31 rfl (by kernel_rfl) rfl rfl) ?_
  refine WL.ex rfl (ex_bin (a := .agg #[.int .i64 z101.2.f_Code, .int .i64 z101.2.f_At.f_Line, .int .i64 z101.2.f_At.f_Col, .int .i64 z101.2.f_At.f_Off]) (b := .agg #[.int .i64 (0 : Int), .int .i64 (0 : Int), .int .i64 (0 : Int), .int .i64 (0 : Int)]) (v := .bool (T_api_Fault.eqb z101.2 (⟨(0 : Int), (⟨(0 : Int), (0 : Int), (0 : Int)⟩ : T_api_Spot)⟩ : T_api_Fault))) rfl rfl (bin_eql_agg (by kernel_rfl) (EqR.agg Tryd.underlying31 (by kernel_rfl) (EqF.cons (by decide) (PartR.one Tryd.underlying29 rfl rfl) (PartR.one Tryd.underlying29 rfl rfl) (EqR.int Tryd.underlying29) (EqF.cons (by decide) (PartR.many Tryd.underlying23 rfl sz23) (PartR.many Tryd.underlying23 rfl sz23) (EqR.agg Tryd.underlying23 (by kernel_rfl) (EqF.cons (by decide) (PartR.one Tryd.underlying3 rfl rfl) (PartR.one Tryd.underlying3 rfl rfl) (EqR.int Tryd.underlying3) (EqF.cons (by decide) (PartR.one Tryd.underlying3 rfl rfl) (PartR.one Tryd.underlying3 rfl rfl) (EqR.int Tryd.underlying3) (EqF.cons (by decide) (PartR.one Tryd.underlying3 rfl rfl) (PartR.one Tryd.underlying3 rfl rfl) (EqR.int Tryd.underlying3) EqF.nil)))) EqF.nil))))) ?_
  refine WL.ex rfl (ex_move (v := .bool (T_api_Fault.eqb z101.2 (⟨(0 : Int), (⟨(0 : Int), (0 : Int), (0 : Int)⟩ : T_api_Spot)⟩ : T_api_Fault))) rfl) ?_
  rcases condE H with ⟨c155, H⟩ | ⟨c155, H⟩
  ·
    refine WL.guardYes rfl rfl rfl ((show _ = Value.bool (T_api_Fault.eqb z101.2 (⟨(0 : Int), (⟨(0 : Int), (0 : Int), (0 : Int)⟩ : T_api_Spot)⟩ : T_api_Fault)) from rfl).trans (congrArg Value.bool c155)) ?_
    refine OW.ex rfl (ex_move (v := v105) rfl) ?_
    refine WL.guardYes rfl rfl rfl ((show _ = Value.bool (T_api_Fault.eqb z101.2 (⟨(0 : Int), (⟨(0 : Int), (0 : Int), (0 : Int)⟩ : T_api_Spot)⟩ : T_api_Fault)) from rfl).trans (congrArg Value.bool c155)) ?_
    obtain ⟨A156, c157, q158⟩ := hO106.slice
    refine OW.ex rfl (ex_len_slice ((show _ = (v105 : Value) from rfl).trans q158) Tryd.underlying28) ?_
    refine WL.guardYes rfl rfl rfl ((show _ = Value.bool (T_api_Fault.eqb z101.2 (⟨(0 : Int), (⟨(0 : Int), (0 : Int), (0 : Int)⟩ : T_api_Spot)⟩ : T_api_Fault)) from rfl).trans (congrArg Value.bool c155)) ?_
    refine OW.ex rfl (ex_bin (a := .int .i64 (z101.1.length : Int)) (b := .int .i64 6) (v := .bool ((z101.1.length : Int) == 6)) rfl rfl bin_eql) ?_
    refine WL.ex rfl (ex_pick_t (v := .bool ((z101.1.length : Int) == 6)) ((show _ = Value.bool (T_api_Fault.eqb z101.2 (⟨(0 : Int), (⟨(0 : Int), (0 : Int), (0 : Int)⟩ : T_api_Spot)⟩ : T_api_Fault)) from rfl).trans (congrArg Value.bool c155)) rfl) ?_
    refine WL.ex rfl (ex_move (v := .bool ((z101.1.length : Int) == 6)) rfl) ?_
    rcases condE H with ⟨c159, H⟩ | ⟨c159, H⟩
    ·
      refine WL.guardYes rfl rfl rfl ((show _ = Value.bool ((z101.1.length : Int) == 6) from rfl).trans (congrArg Value.bool c159)) ?_
      refine OW.ex rfl (ex_move (v := v105) rfl) ?_
      refine WL.guardYes rfl rfl rfl ((show _ = Value.bool ((z101.1.length : Int) == 6) from rfl).trans (congrArg Value.bool c159)) ?_
      obtain ⟨x160, hx160, H⟩ := bindE H
      obtain ⟨A165, c166, q167_⟩ := hO106.slice
      obtain ⟨ad161, cc168, e162, g163, g164, hl169, hR170, cell171⟩ := Row.ix (Own.rowOf hO106 q167_) hx160
      obtain rfl := T_api_Token.opn hR170
      refine OW.ex rfl (ex_indexAddr (i := (1 : Int)) ((show _ = (v105 : Value) from rfl).trans q167_) e162 rfl Tryd.underlying28 sz37 g163 g164) ?_
      refine WL.guardYes rfl rfl rfl ((show _ = Value.bool ((z101.1.length : Int) == 6) from rfl).trans (congrArg Value.bool c159)) ?_
      refine OW.ex rfl (ex_fieldAddr rfl Tryd.underlying37 rfl sz9) ?_
      refine WL.guardYes rfl rfl rfl ((show _ = Value.bool ((z101.1.length : Int) == 6) from rfl).trans (congrArg Value.bool c159)) ?_
      refine OW.ex rfl (ex_load1 (v := encS x160.f_Text) rfl Tryd.underlying9 rfl (cell171 1 _ rfl)) ?_
      refine WL.guardYes rfl rfl rfl ((show _ = Value.bool ((z101.1.length : Int) == 6) from rfl).trans (congrArg Value.bool c159)) ?_
      refine OW.ex rfl (ex_bin (a := encS x160.f_Text) (b := encS ([45, 62] : List UInt8)) (v := .bool (x160.f_Text == ([45, 62] : List UInt8))) rfl rfl bin_eql_str) ?_
      refine WL.ex rfl (ex_pick_t (v := .bool (x160.f_Text == ([45, 62] : List UInt8))) ((show _ = Value.bool ((z101.1.length : Int) == 6) from rfl).trans (congrArg Value.bool c159)) rfl) ?_
      refine WL.ex rfl (ex_move (v := .bool (x160.f_Text == ([45, 62] : List UInt8))) rfl) ?_
      rcases condE H with ⟨c173, H⟩ | ⟨c173, H⟩
      ·
        refine WL.guardYes rfl rfl rfl ((show _ = Value.bool (x160.f_Text == ([45, 62] : List UInt8)) from rfl).trans (congrArg Value.bool c173)) ?_
        refine OW.ex rfl (ex_move (v := v105) rfl) ?_
        refine WL.guardYes rfl rfl rfl ((show _ = Value.bool (x160.f_Text == ([45, 62] : List UInt8)) from rfl).trans (congrArg Value.bool c173)) ?_
        obtain ⟨x174, hx174, H⟩ := bindE H
        obtain ⟨A179, c180, q181_⟩ := hO106.slice
        obtain ⟨ad175, cc182, e176, g177, g178, hl183, hR184, cell185⟩ := Row.ix (Own.rowOf hO106 q181_) hx174
        obtain rfl := T_api_Token.opn hR184
        refine OW.ex rfl (ex_indexAddr (i := (3 : Int)) ((show _ = (v105 : Value) from rfl).trans q181_) e176 rfl Tryd.underlying28 sz37 g177 g178) ?_
        refine WL.guardYes rfl rfl rfl ((show _ = Value.bool (x160.f_Text == ([45, 62] : List UInt8)) from rfl).trans (congrArg Value.bool c173)) ?_
        refine OW.ex rfl (ex_fieldAddr rfl Tryd.underlying37 rfl sz9) ?_
        refine WL.guardYes rfl rfl rfl ((show _ = Value.bool (x160.f_Text == ([45, 62] : List UInt8)) from rfl).trans (congrArg Value.bool c173)) ?_
        refine OW.ex rfl (ex_load1 (v := encS x174.f_Text) rfl Tryd.underlying9 rfl (cell185 1 _ rfl)) ?_
        refine WL.guardYes rfl rfl rfl ((show _ = Value.bool (x160.f_Text == ([45, 62] : List UInt8)) from rfl).trans (congrArg Value.bool c173)) ?_
        refine OW.ex rfl (ex_bin (a := encS x174.f_Text) (b := encS ([113, 49] : List UInt8)) (v := .bool (x174.f_Text == ([113, 49] : List UInt8))) rfl rfl bin_eql_str) ?_
        refine WL.ex rfl (ex_pick_t (v := .bool (x174.f_Text == ([113, 49] : List UInt8))) ((show _ = Value.bool (x160.f_Text == ([45, 62] : List UInt8)) from rfl).trans (congrArg Value.bool c173)) rfl) ?_
        refine WL.ex rfl (ex_move (v := .bool (x174.f_Text == ([113, 49] : List UInt8))) rfl) ?_
        rcases condE H with ⟨c187, H⟩ | ⟨c187, H⟩
        ·
          refine WL.guardYes rfl rfl rfl ((show _ = Value.bool (x174.f_Text == ([113, 49] : List UInt8)) from rfl).trans (congrArg Value.bool c187)) ?_
          refine OW.ex rfl (ex_move (v := v105) rfl) ?_
          refine WL.guardYes rfl rfl rfl ((show _ = Value.bool (x174.f_Text == ([113, 49] : List UInt8)) from rfl).trans (congrArg Value.bool c187)) ?_
          obtain ⟨x188, hx188, H⟩ := bindE H
          obtain ⟨A193, c194, q195_⟩ := hO106.slice
          obtain ⟨ad189, cc196, e190, g191, g192, hl197, hR198, cell199⟩ := Row.ix (Own.rowOf hO106 q195_) hx188
          obtain rfl := T_api_Token.opn hR198
          refine OW.ex rfl (ex_indexAddr (i := (3 : Int)) ((show _ = (v105 : Value) from rfl).trans q195_) e190 rfl Tryd.underlying28 sz37 g191 g192) ?_
          refine WL.guardYes rfl rfl rfl ((show _ = Value.bool (x174.f_Text == ([113, 49] : List UInt8)) from rfl).trans (congrArg Value.bool c187)) ?_
          refine OW.ex rfl (ex_fieldAddr rfl Tryd.underlying37 rfl sz23) ?_
          refine WL.guardYes rfl rfl rfl ((show _ = Value.bool (x174.f_Text == ([113, 49] : List UInt8)) from rfl).trans (congrArg Value.bool c187)) ?_
          refine OW.ex rfl (ex_fieldAddr rfl Tryd.underlying23 rfl sz3) ?_
          refine WL.guardYes rfl rfl rfl ((show _ = Value.bool (x174.f_Text == ([113, 49] : List UInt8)) from rfl).trans (congrArg Value.bool c187)) ?_
          refine OW.ex rfl (ex_load1 (v := .int .i64 x188.f_At.f_Off) rfl Tryd.underlying3 rfl (cell199 5 _ rfl)) ?_
          refine WL.guardYes rfl rfl rfl ((show _ = Value.bool (x174.f_Text == ([113, 49] : List UInt8)) from rfl).trans (congrArg Value.bool c187)) ?_
          refine OW.ex rfl (ex_bin (a := .int .i64 x188.f_At.f_Off) (b := .int .i64 6) (v := .bool (x188.f_At.f_Off == 6)) rfl rfl bin_eql) ?_
          refine WL.ex rfl (ex_pick_t (v := .bool (x188.f_At.f_Off == 6)) ((show _ = Value.bool (x174.f_Text == ([113, 49] : List UInt8)) from rfl).trans (congrArg Value.bool c187)) rfl) ?_
          refine WL.ex rfl (ex_move (v := .bool (x188.f_At.f_Off == 6)) rfl) ?_
          rcases condE H with ⟨c201, H⟩ | ⟨c201, H⟩
          ·
            refine WL.guardYes rfl rfl rfl ((show _ = Value.bool (x188.f_At.f_Off == 6) from rfl).trans (congrArg Value.bool c201)) ?_
            refine OW.ex rfl (ex_move (v := v105) rfl) ?_
            refine WL.guardYes rfl rfl rfl ((show _ = Value.bool (x188.f_At.f_Off == 6) from rfl).trans (congrArg Value.bool c201)) ?_
            obtain ⟨x202, hx202, H⟩ := bindE H
            obtain ⟨A207, c208, q209_⟩ := hO106.slice
            obtain ⟨ad203, cc210, e204, g205, g206, hl211, hR212, cell213⟩ := Row.ix (Own.rowOf hO106 q209_) hx202
            obtain rfl := T_api_Token.opn hR212
            refine OW.ex rfl (ex_indexAddr (i := (5 : Int)) ((show _ = (v105 : Value) from rfl).trans q209_) e204 rfl Tryd.underlying28 sz37 g205 g206) ?_
            refine WL.guardYes rfl rfl rfl ((show _ = Value.bool (x188.f_At.f_Off == 6) from rfl).trans (congrArg Value.bool c201)) ?_
            refine OW.ex rfl (ex_fieldAddr rfl Tryd.underlying37 rfl sz35) ?_
            refine WL.guardYes rfl rfl rfl ((show _ = Value.bool (x188.f_At.f_Off == 6) from rfl).trans (congrArg Value.bool c201)) ?_
            refine OW.ex rfl (ex_load1 (v := .int .i64 x202.f_Kind) rfl Tryd.underlying35 rfl (cell213 0 _ rfl)) ?_
            refine WL.guardYes rfl rfl rfl ((show _ = Value.bool (x188.f_At.f_Off == 6) from rfl).trans (congrArg Value.bool c201)) ?_
            refine OW.ex rfl (ex_bin (a := .int .i64 x202.f_Kind) (b := .int .i64 0) (v := .bool (x202.f_Kind == 0)) rfl rfl bin_eql) ?_
            refine WL.ex rfl (ex_pick_t (v := .bool (x202.f_Kind == 0)) ((show _ = Value.bool (x188.f_At.f_Off == 6) from rfl).trans (congrArg Value.bool c201)) rfl) ?_
            refine WL.ex rfl (ex_move (v := .bool (x202.f_Kind == 0)) rfl) ?_
            rcases condE H with ⟨c215, H⟩ | ⟨c215, H⟩
            ·
              refine WL.guardYes rfl rfl rfl ((show _ = Value.bool (x202.f_Kind == 0) from rfl).trans (congrArg Value.bool c215)) ?_
              refine OW.ex rfl (ex_loadN (cs := [.int .i64 z115.2.f_Code, .int .i64 z115.2.f_At.f_Line, .int .i64 z115.2.f_At.f_Col, .int .i64 z115.2.f_At.f_Off]) rfl Tryd.underlying31 rfl sz31 (hB128.cells rfl)) ?_
              refine WL.guardYes rfl rfl rfl ((show _ = Value.bool (x202.f_Kind == 0) from rfl).trans (congrArg Value.bool c215)) ?_
              refine OW.ex rfl (ex_build (cs := [.int .i64 2, .int .i64 2, .int .i64 3]) [(0, 1), (1, 1), (2, 1)] [(2, .int .i64 3), (0, .int .i64 2), (1, .int .i64 2)] [.int .i64 0, .int .i64 0, .int .i64 0] Tryd.underlying23 zr23 rfl (by kernel_rfl) (evs_cons rfl (evs_cons rfl (evs_cons rfl rfl))) rfl) ?_
              refine WL.guardYes rfl rfl rfl ((show _ = Value.bool (x202.f_Kind == 0) from rfl).trans (congrArg Value.bool c215)) ?_
              refine OW.ex rfl (ex_build (cs := [.int .i64 21, .int .i64 2, .int .i64 2, .int .i64 3]) [(0, 1), (1, 3)] [(0, .int .i64 21), (1, .agg #[.int .i64 2, .int .i64 2, .int .i64 3])] [.int .i64 0, .int .i64 0, .int .i64 0, .int .i64 0] Tryd.underlying31 zr31 rfl (by kernel_rfl) (evs_cons rfl (evs_cons rfl rfl)) rfl) ?_
              refine WL.guardYes rfl rfl rfl ((show _ = Value.bool (x202.f_Kind == 0) from rfl).trans (congrArg Value.bool c215)) ?_
              refine OW.ex rfl (ex_bin (a := .agg #[.int .i64 z115.2.f_Code, .int .i64 z115.2.f_At.f_Line, .int .i64 z115.2.f_At.f_Col, .int .i64 z115.2.f_At.f_Off]) (b := .agg #[.int .i64 21, .int .i64 2, .int .i64 2, .int .i64 3]) (v := .bool (T_api_Fault.eqb z115.2 (⟨21, (⟨2, 2, 3⟩ : T_api_Spot)⟩ : T_api_Fault))) rfl rfl (bin_eql_agg (by kernel_rfl) (EqR.agg Tryd.underlying31 (by kernel_rfl) (EqF.cons (by decide) (PartR.one Tryd.underlying29 rfl rfl) (PartR.one Tryd.underlying29 rfl rfl) (EqR.int Tryd.underlying29) (EqF.cons (by decide) (PartR.many Tryd.underlying23 rfl sz23) (PartR.many Tryd.underlying23 rfl sz23) (EqR.agg Tryd.underlying23 (by kernel_rfl) (EqF.cons (by decide) (PartR.one Tryd.underlying3 rfl rfl) (PartR.one Tryd.underlying3 rfl rfl) (EqR.int Tryd.underlying3) (EqF.cons (by decide) (PartR.one Tryd.underlying3 rfl rfl) (PartR.one Tryd.underlying3 rfl rfl) (EqR.int Tryd.underlying3) (EqF.cons (by decide) (PartR.one Tryd.underlying3 rfl rfl) (PartR.one Tryd.underlying3 rfl rfl) (EqR.int Tryd.underlying3) EqF.nil)))) EqF.nil))))) ?_
              refine WL.ex rfl (ex_pick_t (v := .bool (T_api_Fault.eqb z115.2 (⟨21, (⟨2, 2, 3⟩ : T_api_Spot)⟩ : T_api_Fault))) ((show _ = Value.bool (x202.f_Kind == 0) from rfl).trans (congrArg Value.bool c215)) rfl) ?_
              refine WL.ex rfl (ex_move (v := .bool (T_api_Fault.eqb z115.2 (⟨21, (⟨2, 2, 3⟩ : T_api_Spot)⟩ : T_api_Fault))) rfl) ?_
              rcases condE H with ⟨c216, H⟩ | ⟨c216, H⟩
              ·
                refine WL.guardYes rfl rfl rfl ((show _ = Value.bool (T_api_Fault.eqb z115.2 (⟨21, (⟨2, 2, 3⟩ : T_api_Spot)⟩ : T_api_Fault)) from rfl).trans (congrArg Value.bool c216)) ?_
                refine OW.ex rfl (ex_move (v := .int .i64 z137.2) rfl) ?_
                refine WL.guardYes rfl rfl rfl ((show _ = Value.bool (T_api_Fault.eqb z115.2 (⟨21, (⟨2, 2, 3⟩ : T_api_Spot)⟩ : T_api_Fault)) from rfl).trans (congrArg Value.bool c216)) ?_
                obtain ⟨z217, hz217, H⟩ := bindE H
                refine OW.call [.int .i64 z137.2] rfl Tryd.func21 (by kernel_rfl) (by kernel_rfl) (map_cons' rfl rfl) (dictumlaw02_num.calls _ _ z137.2 z217 (HF.ten (V := [0]) (L := []) rfl)  hz217) ?_
                rintro _ w218 ⟨o219, rfl, s220⟩
                refine ⟨_, rfl, ?_⟩
                replace s220 := un_stepL (J := []) (L' := []) s220 rfl rfl
                replace hG := hG.step s220 rfl
                replace hO106 := hO106.step s220 rfl rfl
                replace hB114 := hB114.step s220 rfl
                replace hO120 := hO120.step s220 rfl rfl
                replace hB128 := hB128.step s220 rfl
                replace hO133 := hO133.step s220 rfl rfl
                replace hO146 := hO146.step s220 rfl rfl
                replace hB154 := hB154.step s220 rfl
                replace HF := HF.step s220 rfl
                refine WL.guardYes rfl rfl rfl ((show _ = Value.bool (T_api_Fault.eqb z115.2 (⟨21, (⟨2, 2, 3⟩ : T_api_Spot)⟩ : T_api_Fault)) from rfl).trans (congrArg Value.bool c216)) ?_
                refine OW.ex rfl (ex_bin (a := .int .i64 z217) (b := .int .i64 0) (v := .bool (z217 == 0)) rfl rfl bin_eql) ?_
                refine WL.ex rfl (ex_pick_t (v := .bool (z217 == 0)) ((show _ = Value.bool (T_api_Fault.eqb z115.2 (⟨21, (⟨2, 2, 3⟩ : T_api_Spot)⟩ : T_api_Fault)) from rfl).trans (congrArg Value.bool c216)) rfl) ?_
                refine WL.ex rfl (ex_move (v := .bool (z217 == 0)) rfl) ?_
                rcases condE H with ⟨c221, H⟩ | ⟨c221, H⟩
                ·
                  refine WL.guardYes rfl rfl rfl ((show _ = Value.bool (z217 == 0) from rfl).trans (congrArg Value.bool c221)) ?_
                  refine OW.ex rfl (ex_move (v := encS z137.1) rfl) ?_
                  refine WL.guardYes rfl rfl rfl ((show _ = Value.bool (z217 == 0) from rfl).trans (congrArg Value.bool c221)) ?_
                  refine OW.ex rfl (ex_bin (a := encS z137.1) (b := encS ([97, 32, 45, 62, 32, 55] : List UInt8)) (v := .bool (z137.1 == ([97, 32, 45, 62, 32, 55] : List UInt8))) rfl rfl bin_eql_str) ?_
                  refine WL.ex rfl (ex_pick_t (v := .bool (z137.1 == ([97, 32, 45, 62, 32, 55] : List UInt8))) ((show _ = Value.bool (z217 == 0) from rfl).trans (congrArg Value.bool c221)) rfl) ?_
                  refine WL.ex rfl (ex_move (v := .bool (z137.1 == ([97, 32, 45, 62, 32, 55] : List UInt8))) rfl) ?_
                  rcases condE H with ⟨c222, H⟩ | ⟨c222, H⟩
                  ·
                    refine WL.guardYes rfl rfl rfl ((show _ = Value.bool (z137.1 == ([97, 32, 45, 62, 32, 55] : List UInt8)) from rfl).trans (congrArg Value.bool c222)) ?_
                    refine OW.ex rfl (ex_loadN (cs := [.int .i64 z141.2.f_Code, .int .i64 z141.2.f_At.f_Line, .int .i64 z141.2.f_At.f_Col, .int .i64 z141.2.f_At.f_Off]) rfl Tryd.underlying31 rfl sz31 (hB154.cells rfl)) ?_
                    refine WL.guardYes rfl rfl rfl ((show _ = Value.bool (z137.1 == ([97, 32, 45, 62, 32, 55] : List UInt8)) from rfl).trans (congrArg Value.bool c222)) ?_
                    refine OW.ex rfl (ex_build (cs := [.int .i64 (0 : Int), .int .i64 (0 : Int), .int .i64 (0 : Int), .int .i64 (0 : Int)]) [(0, 1), (1, 3)] [] [.int .i64 0, .int .i64 0, .int .i64 0, .int .i64 0] Tryd.underlying31 zr31 rfl (by kernel_rfl) rfl rfl) ?_
                    refine WL.guardYes rfl rfl rfl ((show _ = Value.bool (z137.1 == ([97, 32, 45, 62, 32, 55] : List UInt8)) from rfl).trans (congrArg Value.bool c222)) ?_
                    refine OW.ex rfl (ex_bin (a := .agg #[.int .i64 z141.2.f_Code, .int .i64 z141.2.f_At.f_Line, .int .i64 z141.2.f_At.f_Col, .int .i64 z141.2.f_At.f_Off]) (b := .agg #[.int .i64 (0 : Int), .int .i64 (0 : Int), .int .i64 (0 : Int), .int .i64 (0 : Int)]) (v := .bool (T_api_Fault.eqb z141.2 (⟨(0 : Int), (⟨(0 : Int), (0 : Int), (0 : Int)⟩ : T_api_Spot)⟩ : T_api_Fault))) rfl rfl (bin_eql_agg (by kernel_rfl) (EqR.agg Tryd.underlying31 (by kernel_rfl) (EqF.cons (by decide) (PartR.one Tryd.underlying29 rfl rfl) (PartR.one Tryd.underlying29 rfl rfl) (EqR.int Tryd.underlying29) (EqF.cons (by decide) (PartR.many Tryd.underlying23 rfl sz23) (PartR.many Tryd.underlying23 rfl sz23) (EqR.agg Tryd.underlying23 (by kernel_rfl) (EqF.cons (by decide) (PartR.one Tryd.underlying3 rfl rfl) (PartR.one Tryd.underlying3 rfl rfl) (EqR.int Tryd.underlying3) (EqF.cons (by decide) (PartR.one Tryd.underlying3 rfl rfl) (PartR.one Tryd.underlying3 rfl rfl) (EqR.int Tryd.underlying3) (EqF.cons (by decide) (PartR.one Tryd.underlying3 rfl rfl) (PartR.one Tryd.underlying3 rfl rfl) (EqR.int Tryd.underlying3) EqF.nil)))) EqF.nil))))) ?_
                    refine WL.ex rfl (ex_pick_t (v := .bool (T_api_Fault.eqb z141.2 (⟨(0 : Int), (⟨(0 : Int), (0 : Int), (0 : Int)⟩ : T_api_Spot)⟩ : T_api_Fault))) ((show _ = Value.bool (z137.1 == ([97, 32, 45, 62, 32, 55] : List UInt8)) from rfl).trans (congrArg Value.bool c222)) rfl) ?_
                    refine WL.ex rfl (ex_move (v := .bool (T_api_Fault.eqb z141.2 (⟨(0 : Int), (⟨(0 : Int), (0 : Int), (0 : Int)⟩ : T_api_Spot)⟩ : T_api_Fault))) rfl) ?_
                    rcases condE H with ⟨c223, H⟩ | ⟨c223, H⟩
                    ·
                      refine WL.guardYes rfl rfl rfl ((show _ = Value.bool (T_api_Fault.eqb z141.2 (⟨(0 : Int), (⟨(0 : Int), (0 : Int), (0 : Int)⟩ : T_api_Spot)⟩ : T_api_Fault)) from rfl).trans (congrArg Value.bool c223)) ?_
                      refine OW.ex rfl (ex_move (v := v145) rfl) ?_
                      refine WL.guardYes rfl rfl rfl ((show _ = Value.bool (T_api_Fault.eqb z141.2 (⟨(0 : Int), (⟨(0 : Int), (0 : Int), (0 : Int)⟩ : T_api_Spot)⟩ : T_api_Fault)) from rfl).trans (congrArg Value.bool c223)) ?_
                      obtain ⟨A224, c225, q226⟩ := hO146.slice
                      refine OW.ex rfl (ex_len_slice ((show _ = (v145 : Value) from rfl).trans q226) Tryd.underlying28) ?_
                      refine WL.guardYes rfl rfl rfl ((show _ = Value.bool (T_api_Fault.eqb z141.2 (⟨(0 : Int), (⟨(0 : Int), (0 : Int), (0 : Int)⟩ : T_api_Spot)⟩ : T_api_Fault)) from rfl).trans (congrArg Value.bool c223)) ?_
                      refine OW.ex rfl (ex_bin (a := .int .i64 (z141.1.length : Int)) (b := .int .i64 5) (v := .bool ((z141.1.length : Int) == 5)) rfl rfl bin_eql) ?_
                      refine WL.ex rfl (ex_pick_t (v := .bool ((z141.1.length : Int) == 5)) ((show _ = Value.bool (T_api_Fault.eqb z141.2 (⟨(0 : Int), (⟨(0 : Int), (0 : Int), (0 : Int)⟩ : T_api_Spot)⟩ : T_api_Fault)) from rfl).trans (congrArg Value.bool c223)) rfl) ?_
                      refine WL.ex rfl (ex_move (v := .bool ((z141.1.length : Int) == 5)) rfl) ?_
                      rcases condE H with ⟨c227, H⟩ | ⟨c227, H⟩
                      ·
                        refine WL.guardYes rfl rfl rfl ((show _ = Value.bool ((z141.1.length : Int) == 5) from rfl).trans (congrArg Value.bool c227)) ?_
                        refine OW.ex rfl (ex_move (v := v145) rfl) ?_
                        refine WL.guardYes rfl rfl rfl ((show _ = Value.bool ((z141.1.length : Int) == 5) from rfl).trans (congrArg Value.bool c227)) ?_
                        obtain ⟨x228, hx228, H⟩ := bindE H
                        obtain ⟨A233, c234, q235_⟩ := hO146.slice
                        obtain ⟨ad229, cc236, e230, g231, g232, hl237, hR238, cell239⟩ := Row.ix (Own.rowOf hO146 q235_) hx228
                        obtain rfl := T_api_Token.opn hR238
                        refine OW.ex rfl (ex_indexAddr (i := (0 : Int)) ((show _ = (v145 : Value) from rfl).trans q235_) e230 rfl Tryd.underlying28 sz37 g231 g232) ?_
                        refine WL.guardYes rfl rfl rfl ((show _ = Value.bool ((z141.1.length : Int) == 5) from rfl).trans (congrArg Value.bool c227)) ?_
                        refine OW.ex rfl (ex_fieldAddr rfl Tryd.underlying37 rfl sz9) ?_
                        refine WL.guardYes rfl rfl rfl ((show _ = Value.bool ((z141.1.length : Int) == 5) from rfl).trans (congrArg Value.bool c227)) ?_
                        refine OW.ex rfl (ex_load1 (v := encS x228.f_Text) rfl Tryd.underlying9 rfl (cell239 1 _ rfl)) ?_
                        refine WL.guardYes rfl rfl rfl ((show _ = Value.bool ((z141.1.length : Int) == 5) from rfl).trans (congrArg Value.bool c227)) ?_
                        refine OW.ex rfl (ex_bin (a := encS x228.f_Text) (b := encS ([126] : List UInt8)) (v := .bool (x228.f_Text == ([126] : List UInt8))) rfl rfl bin_eql_str) ?_
                        refine WL.ex rfl (ex_pick_t (v := .bool (x228.f_Text == ([126] : List UInt8))) ((show _ = Value.bool ((z141.1.length : Int) == 5) from rfl).trans (congrArg Value.bool c227)) rfl) ?_
                        refine WL.ex rfl (ex_move (v := .bool (x228.f_Text == ([126] : List UInt8))) rfl) ?_
                        rcases condE H with ⟨c241, H⟩ | ⟨c241, H⟩
                        ·
                          refine WL.guardYes rfl rfl rfl ((show _ = Value.bool (x228.f_Text == ([126] : List UInt8)) from rfl).trans (congrArg Value.bool c241)) ?_
                          refine OW.ex rfl (ex_move (v := v145) rfl) ?_
                          refine WL.guardYes rfl rfl rfl ((show _ = Value.bool (x228.f_Text == ([126] : List UInt8)) from rfl).trans (congrArg Value.bool c241)) ?_
                          obtain ⟨x242, hx242, H⟩ := bindE H
                          obtain ⟨A247, c248, q249_⟩ := hO146.slice
                          obtain ⟨ad243, cc250, e244, g245, g246, hl251, hR252, cell253⟩ := Row.ix (Own.rowOf hO146 q249_) hx242
                          obtain rfl := T_api_Token.opn hR252
                          refine OW.ex rfl (ex_indexAddr (i := (3 : Int)) ((show _ = (v145 : Value) from rfl).trans q249_) e244 rfl Tryd.underlying28 sz37 g245 g246) ?_
                          refine WL.guardYes rfl rfl rfl ((show _ = Value.bool (x228.f_Text == ([126] : List UInt8)) from rfl).trans (congrArg Value.bool c241)) ?_
                          refine OW.ex rfl (ex_fieldAddr rfl Tryd.underlying37 rfl sz9) ?_
                          refine WL.guardYes rfl rfl rfl ((show _ = Value.bool (x228.f_Text == ([126] : List UInt8)) from rfl).trans (congrArg Value.bool c241)) ?_
                          refine OW.ex rfl (ex_load1 (v := encS x242.f_Text) rfl Tryd.underlying9 rfl (cell253 1 _ rfl)) ?_
                          refine WL.guardYes rfl rfl rfl ((show _ = Value.bool (x228.f_Text == ([126] : List UInt8)) from rfl).trans (congrArg Value.bool c241)) ?_
                          refine OW.ex rfl (ex_bin (a := encS x242.f_Text) (b := encS ([102, 97, 108, 115, 101] : List UInt8)) (v := .bool (x242.f_Text == ([102, 97, 108, 115, 101] : List UInt8))) rfl rfl bin_eql_str) ?_
                          refine WL.ex rfl (ex_pick_t (v := .bool (x242.f_Text == ([102, 97, 108, 115, 101] : List UInt8))) ((show _ = Value.bool (x228.f_Text == ([126] : List UInt8)) from rfl).trans (congrArg Value.bool c241)) rfl) ?_
                          refine WL.ex rfl (ex_move (v := .bool (x242.f_Text == ([102, 97, 108, 115, 101] : List UInt8))) rfl) ?_
                          rcases condE H with ⟨c255, H⟩ | ⟨c255, H⟩
                          ·
                            refine WL.guardYes rfl rfl rfl ((show _ = Value.bool (x242.f_Text == ([102, 97, 108, 115, 101] : List UInt8)) from rfl).trans (congrArg Value.bool c255)) ?_
                            refine OW.ex rfl (ex_move (v := v145) rfl) ?_
                            refine WL.guardYes rfl rfl rfl ((show _ = Value.bool (x242.f_Text == ([102, 97, 108, 115, 101] : List UInt8)) from rfl).trans (congrArg Value.bool c255)) ?_
                            obtain ⟨x256, hx256, H⟩ := bindE H
                            obtain ⟨A261, c262, q263_⟩ := hO146.slice
                            obtain ⟨ad257, cc264, e258, g259, g260, hl265, hR266, cell267⟩ := Row.ix (Own.rowOf hO146 q263_) hx256
                            obtain rfl := T_api_Token.opn hR266
                            refine OW.ex rfl (ex_indexAddr (i := (3 : Int)) ((show _ = (v145 : Value) from rfl).trans q263_) e258 rfl Tryd.underlying28 sz37 g259 g260) ?_
                            refine WL.guardYes rfl rfl rfl ((show _ = Value.bool (x242.f_Text == ([102, 97, 108, 115, 101] : List UInt8)) from rfl).trans (congrArg Value.bool c255)) ?_
                            refine OW.ex rfl (ex_fieldAddr rfl Tryd.underlying37 rfl sz35) ?_
                            refine WL.guardYes rfl rfl rfl ((show _ = Value.bool (x242.f_Text == ([102, 97, 108, 115, 101] : List UInt8)) from rfl).trans (congrArg Value.bool c255)) ?_
                            refine OW.ex rfl (ex_load1 (v := .int .i64 x256.f_Kind) rfl Tryd.underlying35 rfl (cell267 0 _ rfl)) ?_
                            refine WL.guardYes rfl rfl rfl ((show _ = Value.bool (x242.f_Text == ([102, 97, 108, 115, 101] : List UInt8)) from rfl).trans (congrArg Value.bool c255)) ?_
                            refine OW.ex rfl (ex_bin (a := .int .i64 x256.f_Kind) (b := .int .i64 1) (v := .bool (x256.f_Kind == 1)) rfl rfl bin_eql) ?_
                            refine WL.ex rfl (ex_pick_t (v := .bool (x256.f_Kind == 1)) ((show _ = Value.bool (x242.f_Text == ([102, 97, 108, 115, 101] : List UInt8)) from rfl).trans (congrArg Value.bool c255)) rfl) ?_
                            refine WL.ex rfl (ex_move (v := .bool (x256.f_Kind == 1)) rfl) ?_
                            rcases condE H with ⟨c269, H⟩ | ⟨c269, H⟩
                            ·
                              refine WL.guardYes rfl rfl rfl ((show _ = Value.bool (x256.f_Kind == 1) from rfl).trans (congrArg Value.bool c269)) ?_
                              obtain ⟨z270, hz270, H⟩ := bindE H
                              refine OW.call [encS ([113, 95, 49, 39] : List UInt8)] rfl Tryd.func11 (by kernel_rfl) (by kernel_rfl) (map_cons' rfl rfl) (token_Name.calls k _ _ ([113, 95, 49, 39] : List UInt8) z270 (HF.ten (V := [0]) (L := []) rfl) (Gl.vw (V := [0]) (L := []) hG rfl) hz270) ?_
                              rintro _ w271 ⟨o272, rfl, s273⟩
                              refine ⟨_, rfl, ?_⟩
                              replace s273 := un_stepL (J := []) (L' := []) s273 rfl rfl
                              replace hG := hG.step s273 rfl
                              replace hO106 := hO106.step s273 rfl rfl
                              replace hB114 := hB114.step s273 rfl
                              replace hO120 := hO120.step s273 rfl rfl
                              replace hB128 := hB128.step s273 rfl
                              replace hO133 := hO133.step s273 rfl rfl
                              replace hO146 := hO146.step s273 rfl rfl
                              replace hB154 := hB154.step s273 rfl
                              replace HF := HF.step s273 rfl
                              refine WL.ex rfl (ex_pick_t (v := .bool z270) ((show _ = Value.bool (x256.f_Kind == 1) from rfl).trans (congrArg Value.bool c269)) rfl) ?_
                              refine WL.ex rfl (ex_move (v := .bool z270) rfl) ?_
                              rcases condE H with ⟨c274, H⟩ | ⟨c274, H⟩
                              ·
                                refine WL.guardYes rfl rfl rfl ((show _ = Value.bool z270 from rfl).trans (congrArg Value.bool c274)) ?_
                                obtain ⟨z275, hz275, H⟩ := bindE H
                                refine OW.call [encS ([49, 113] : List UInt8)] rfl Tryd.func11 (by kernel_rfl) (by kernel_rfl) (map_cons' rfl rfl) (token_Name.calls k _ _ ([49, 113] : List UInt8) z275 (HF.ten (V := [0]) (L := []) rfl) (Gl.vw (V := [0]) (L := []) hG rfl) hz275) ?_
                                rintro _ w276 ⟨o277, rfl, s278⟩
                                refine ⟨_, rfl, ?_⟩
                                replace s278 := un_stepL (J := []) (L' := []) s278 rfl rfl
                                replace hG := hG.step s278 rfl
                                replace hO106 := hO106.step s278 rfl rfl
                                replace hB114 := hB114.step s278 rfl
                                replace hO120 := hO120.step s278 rfl rfl
                                replace hB128 := hB128.step s278 rfl
                                replace hO133 := hO133.step s278 rfl rfl
                                replace hO146 := hO146.step s278 rfl rfl
                                replace hB154 := hB154.step s278 rfl
                                replace HF := HF.step s278 rfl
                                refine WL.guardYes rfl rfl rfl ((show _ = Value.bool z270 from rfl).trans (congrArg Value.bool c274)) ?_
                                refine OW.ex rfl (ex_not (b := z275) rfl) ?_
                                refine WL.ex rfl (ex_pick_t (v := .bool (!z275)) ((show _ = Value.bool z270 from rfl).trans (congrArg Value.bool c274)) rfl) ?_
                                refine WL.ex rfl (ex_move (v := .bool (!z275)) rfl) ?_
                                rcases condE H with ⟨c279, H⟩ | ⟨c279, H⟩
                                ·
                                  refine WL.guardYes rfl rfl rfl ((show _ = Value.bool (!z275) from rfl).trans (congrArg Value.bool c279)) ?_
                                  obtain ⟨z280, hz280, H⟩ := bindE H
                                  refine OW.call [encS ([97, 195, 169, 10, 98] : List UInt8), .int .i64 4] rfl Tryd.func9 (by kernel_rfl) (by kernel_rfl) (map_cons' rfl (map_cons' rfl rfl)) (token_At.calls k _ _ ([97, 195, 169, 10, 98] : List UInt8) 4 z280 (HF.ten (V := [0]) (L := []) rfl)  hz280) ?_
                                  rintro _ w281 ⟨o282, rfl, s283⟩
                                  refine ⟨_, rfl, ?_⟩
                                  replace s283 := un_stepL (J := []) (L' := []) s283 rfl rfl
                                  replace hG := hG.step s283 rfl
                                  replace hO106 := hO106.step s283 rfl rfl
                                  replace hB114 := hB114.step s283 rfl
                                  replace hO120 := hO120.step s283 rfl rfl
                                  replace hB128 := hB128.step s283 rfl
                                  replace hO133 := hO133.step s283 rfl rfl
                                  replace hO146 := hO146.step s283 rfl rfl
                                  replace hB154 := hB154.step s283 rfl
                                  replace HF := HF.step s283 rfl
                                  refine WL.guardYes rfl rfl rfl ((show _ = Value.bool (!z275) from rfl).trans (congrArg Value.bool c279)) ?_
                                  refine OW.ex rfl (ex_build (cs := [.int .i64 2, .int .i64 1, .int .i64 4]) [(0, 1), (1, 1), (2, 1)] [(2, .int .i64 4), (0, .int .i64 2), (1, .int .i64 1)] [.int .i64 0, .int .i64 0, .int .i64 0] Tryd.underlying23 zr23 rfl (by kernel_rfl) (evs_cons rfl (evs_cons rfl (evs_cons rfl rfl))) rfl) ?_
                                  refine WL.guardYes rfl rfl rfl ((show _ = Value.bool (!z275) from rfl).trans (congrArg Value.bool c279)) ?_
                                  refine OW.ex rfl (ex_bin (a := .agg #[.int .i64 z280.f_Line, .int .i64 z280.f_Col, .int .i64 z280.f_Off]) (b := .agg #[.int .i64 2, .int .i64 1, .int .i64 4]) (v := .bool (T_api_Spot.eqb z280 (⟨2, 1, 4⟩ : T_api_Spot))) rfl rfl (bin_eql_agg (by kernel_rfl) (EqR.agg Tryd.underlying23 (by kernel_rfl) (EqF.cons (by decide) (PartR.one Tryd.underlying3 rfl rfl) (PartR.one Tryd.underlying3 rfl rfl) (EqR.int Tryd.underlying3) (EqF.cons (by decide) (PartR.one Tryd.underlying3 rfl rfl) (PartR.one Tryd.underlying3 rfl rfl) (EqR.int Tryd.underlying3) (EqF.cons (by decide) (PartR.one Tryd.underlying3 rfl rfl) (PartR.one Tryd.underlying3 rfl rfl) (EqR.int Tryd.underlying3) EqF.nil)))))) ?_
                                  refine WL.ex rfl (ex_pick_t (v := .bool (T_api_Spot.eqb z280 (⟨2, 1, 4⟩ : T_api_Spot))) ((show _ = Value.bool (!z275) from rfl).trans (congrArg Value.bool c279)) rfl) ?_
                                  refine WL.ex rfl (ex_assign (v := .bool (T_api_Spot.eqb z280 (⟨2, 1, 4⟩ : T_api_Spot))) rfl) ?_
                                  refine WL.nil ?_
                                  refine WC.ret ?_
                                  obtain rfl := Option.some.inj H
                                  exact ⟨_, (.tmp (.bool (T_api_Spot.eqb z280 (⟨2, 1, 4⟩ : T_api_Spot)) : Value) rfl .nil), _, rfl, HF.out⟩
                                ·
                                  refine WL.guardNo rfl rfl rfl ((show _ = Value.bool (!z275) from rfl).trans (congrArg Value.bool c279)) ?_
                                  refine WL.guardNo rfl rfl rfl ((show _ = Value.bool (!z275) from rfl).trans (congrArg Value.bool c279)) ?_
                                  refine WL.guardNo rfl rfl rfl ((show _ = Value.bool (!z275) from rfl).trans (congrArg Value.bool c279)) ?_
                                  refine WL.ex rfl (ex_pick_f (v := .bool false) ((show _ = Value.bool (!z275) from rfl).trans (congrArg Value.bool c279)) rfl) ?_
                                  refine WL.ex rfl (ex_assign (v := .bool false) rfl) ?_
                                  refine WL.nil ?_
                                  refine WC.ret ?_
                                  obtain rfl := Option.some.inj H
                                  exact ⟨_, (.tmp (.bool false : Value) rfl .nil), _, rfl, HF.out⟩
                              ·
                                refine WL.guardNo rfl rfl rfl ((show _ = Value.bool z270 from rfl).trans (congrArg Value.bool c274)) ?_
                                refine WL.guardNo rfl rfl rfl ((show _ = Value.bool z270 from rfl).trans (congrArg Value.bool c274)) ?_
                                refine WL.ex rfl (ex_pick_f (v := .bool false) ((show _ = Value.bool z270 from rfl).trans (congrArg Value.bool c274)) rfl) ?_
                                refine WL.ex rfl (ex_move (v := .bool false) rfl) ?_
                                refine WL.guardNo rfl rfl rfl rfl ?_
                                refine WL.guardNo rfl rfl rfl rfl ?_
                                refine WL.guardNo rfl rfl rfl rfl ?_
                                refine WL.ex rfl (ex_pick_f (v := .bool false) rfl rfl) ?_
                                refine WL.ex rfl (ex_assign (v := .bool false) rfl) ?_
                                refine WL.nil ?_
                                refine WC.ret ?_
                                obtain rfl := Option.some.inj H
                                exact ⟨_, (.tmp (.bool false : Value) rfl .nil), _, rfl, HF.out⟩
                            ·
                              refine WL.guardNo rfl rfl rfl ((show _ = Value.bool (x256.f_Kind == 1) from rfl).trans (congrArg Value.bool c269)) ?_
                              refine WL.ex rfl (ex_pick_f (v := .bool false) ((show _ = Value.bool (x256.f_Kind == 1) from rfl).trans (congrArg Value.bool c269)) rfl) ?_
                              refine WL.ex rfl (ex_move (v := .bool false) rfl) ?_
                              refine WL.guardNo rfl rfl rfl rfl ?_
                              refine WL.guardNo rfl rfl rfl rfl ?_
                              refine WL.ex rfl (ex_pick_f (v := .bool false) rfl rfl) ?_
                              refine WL.ex rfl (ex_move (v := .bool false) rfl) ?_
                              refine WL.guardNo rfl rfl rfl rfl ?_
                              refine WL.guardNo rfl rfl rfl rfl ?_
                              refine WL.guardNo rfl rfl rfl rfl ?_
                              refine WL.ex rfl (ex_pick_f (v := .bool false) rfl rfl) ?_
                              refine WL.ex rfl (ex_assign (v := .bool false) rfl) ?_
                              refine WL.nil ?_
                              refine WC.ret ?_
                              obtain rfl := Option.some.inj H
                              exact ⟨_, (.tmp (.bool false : Value) rfl .nil), _, rfl, HF.out⟩
                          ·
                            refine WL.guardNo rfl rfl rfl ((show _ = Value.bool (x242.f_Text == ([102, 97, 108, 115, 101] : List UInt8)) from rfl).trans (congrArg Value.bool c255)) ?_
                            refine WL.guardNo rfl rfl rfl ((show _ = Value.bool (x242.f_Text == ([102, 97, 108, 115, 101] : List UInt8)) from rfl).trans (congrArg Value.bool c255)) ?_
                            refine WL.guardNo rfl rfl rfl ((show _ = Value.bool (x242.f_Text == ([102, 97, 108, 115, 101] : List UInt8)) from rfl).trans (congrArg Value.bool c255)) ?_
                            refine WL.guardNo rfl rfl rfl ((show _ = Value.bool (x242.f_Text == ([102, 97, 108, 115, 101] : List UInt8)) from rfl).trans (congrArg Value.bool c255)) ?_
                            refine WL.guardNo rfl rfl rfl ((show _ = Value.bool (x242.f_Text == ([102, 97, 108, 115, 101] : List UInt8)) from rfl).trans (congrArg Value.bool c255)) ?_
                            refine WL.ex rfl (ex_pick_f (v := .bool false) ((show _ = Value.bool (x242.f_Text == ([102, 97, 108, 115, 101] : List UInt8)) from rfl).trans (congrArg Value.bool c255)) rfl) ?_
                            refine WL.ex rfl (ex_move (v := .bool false) rfl) ?_
                            refine WL.guardNo rfl rfl rfl rfl ?_
                            refine WL.ex rfl (ex_pick_f (v := .bool false) rfl rfl) ?_
                            refine WL.ex rfl (ex_move (v := .bool false) rfl) ?_
                            refine WL.guardNo rfl rfl rfl rfl ?_
                            refine WL.guardNo rfl rfl rfl rfl ?_
                            refine WL.ex rfl (ex_pick_f (v := .bool false) rfl rfl) ?_
                            refine WL.ex rfl (ex_move (v := .bool false) rfl) ?_
                            refine WL.guardNo rfl rfl rfl rfl ?_
                            refine WL.guardNo rfl rfl rfl rfl ?_
                            refine WL.guardNo rfl rfl rfl rfl ?_
                            refine WL.ex rfl (ex_pick_f (v := .bool false) rfl rfl) ?_
                            refine WL.ex rfl (ex_assign (v := .bool false) rfl) ?_
                            refine WL.nil ?_
                            refine WC.ret ?_
                            obtain rfl := Option.some.inj H
                            exact ⟨_, (.tmp (.bool false : Value) rfl .nil), _, rfl, HF.out⟩
                        ·
                          refine WL.guardNo rfl rfl rfl ((show _ = Value.bool (x228.f_Text == ([126] : List UInt8)) from rfl).trans (congrArg Value.bool c241)) ?_
                          refine WL.guardNo rfl rfl rfl ((show _ = Value.bool (x228.f_Text == ([126] : List UInt8)) from rfl).trans (congrArg Value.bool c241)) ?_
                          refine WL.guardNo rfl rfl rfl ((show _ = Value.bool (x228.f_Text == ([126] : List UInt8)) from rfl).trans (congrArg Value.bool c241)) ?_
                          refine WL.guardNo rfl rfl rfl ((show _ = Value.bool (x228.f_Text == ([126] : List UInt8)) from rfl).trans (congrArg Value.bool c241)) ?_
                          refine WL.guardNo rfl rfl rfl ((show _ = Value.bool (x228.f_Text == ([126] : List UInt8)) from rfl).trans (congrArg Value.bool c241)) ?_
                          refine WL.ex rfl (ex_pick_f (v := .bool false) ((show _ = Value.bool (x228.f_Text == ([126] : List UInt8)) from rfl).trans (congrArg Value.bool c241)) rfl) ?_
                          refine WL.ex rfl (ex_move (v := .bool false) rfl) ?_
                          refine WL.guardNo rfl rfl rfl rfl ?_
                          refine WL.guardNo rfl rfl rfl rfl ?_
                          refine WL.guardNo rfl rfl rfl rfl ?_
                          refine WL.guardNo rfl rfl rfl rfl ?_
                          refine WL.guardNo rfl rfl rfl rfl ?_
                          refine WL.ex rfl (ex_pick_f (v := .bool false) rfl rfl) ?_
                          refine WL.ex rfl (ex_move (v := .bool false) rfl) ?_
                          refine WL.guardNo rfl rfl rfl rfl ?_
                          refine WL.ex rfl (ex_pick_f (v := .bool false) rfl rfl) ?_
                          refine WL.ex rfl (ex_move (v := .bool false) rfl) ?_
                          refine WL.guardNo rfl rfl rfl rfl ?_
                          refine WL.guardNo rfl rfl rfl rfl ?_
                          refine WL.ex rfl (ex_pick_f (v := .bool false) rfl rfl) ?_
                          refine WL.ex rfl (ex_move (v := .bool false) rfl) ?_
                          refine WL.guardNo rfl rfl rfl rfl ?_
                          refine WL.guardNo rfl rfl rfl rfl ?_
                          refine WL.guardNo rfl rfl rfl rfl ?_
                          refine WL.ex rfl (ex_pick_f (v := .bool false) rfl rfl) ?_
                          refine WL.ex rfl (ex_assign (v := .bool false) rfl) ?_
                          refine WL.nil ?_
                          refine WC.ret ?_
                          obtain rfl := Option.some.inj H
                          exact ⟨_, (.tmp (.bool false : Value) rfl .nil), _, rfl, HF.out⟩
                      ·
                        refine WL.guardNo rfl rfl rfl ((show _ = Value.bool ((z141.1.length : Int) == 5) from rfl).trans (congrArg Value.bool c227)) ?_
                        refine WL.guardNo rfl rfl rfl ((show _ = Value.bool ((z141.1.length : Int) == 5) from rfl).trans (congrArg Value.bool c227)) ?_
                        refine WL.guardNo rfl rfl rfl ((show _ = Value.bool ((z141.1.length : Int) == 5) from rfl).trans (congrArg Value.bool c227)) ?_
                        refine WL.guardNo rfl rfl rfl ((show _ = Value.bool ((z141.1.length : Int) == 5) from rfl).trans (congrArg Value.bool c227)) ?_
                        refine WL.guardNo rfl rfl rfl ((show _ = Value.bool ((z141.1.length : Int) == 5) from rfl).trans (congrArg Value.bool c227)) ?_
                        refine WL.ex rfl (ex_pick_f (v := .bool false) ((show _ = Value.bool ((z141.1.length : Int) == 5) from rfl).trans (congrArg Value.bool c227)) rfl) ?_
                        refine WL.ex rfl (ex_move (v := .bool false) rfl) ?_
                        refine WL.guardNo rfl rfl rfl rfl ?_
                        refine WL.guardNo rfl rfl rfl rfl ?_
                        refine WL.guardNo rfl rfl rfl rfl ?_
                        refine WL.guardNo rfl rfl rfl rfl ?_
                        refine WL.guardNo rfl rfl rfl rfl ?_
                        refine WL.ex rfl (ex_pick_f (v := .bool false) rfl rfl) ?_
                        refine WL.ex rfl (ex_move (v := .bool false) rfl) ?_
                        refine WL.guardNo rfl rfl rfl rfl ?_
                        refine WL.guardNo rfl rfl rfl rfl ?_
                        refine WL.guardNo rfl rfl rfl rfl ?_
                        refine WL.guardNo rfl rfl rfl rfl ?_
                        refine WL.guardNo rfl rfl rfl rfl ?_
                        refine WL.ex rfl (ex_pick_f (v := .bool false) rfl rfl) ?_
                        refine WL.ex rfl (ex_move (v := .bool false) rfl) ?_
                        refine WL.guardNo rfl rfl rfl rfl ?_
                        refine WL.ex rfl (ex_pick_f (v := .bool false) rfl rfl) ?_
                        refine WL.ex rfl (ex_move (v := .bool false) rfl) ?_
                        refine WL.guardNo rfl rfl rfl rfl ?_
                        refine WL.guardNo rfl rfl rfl rfl ?_
                        refine WL.ex rfl (ex_pick_f (v := .bool false) rfl rfl) ?_
                        refine WL.ex rfl (ex_move (v := .bool false) rfl) ?_
                        refine WL.guardNo rfl rfl rfl rfl ?_
                        refine WL.guardNo rfl rfl rfl rfl ?_
                        refine WL.guardNo rfl rfl rfl rfl ?_
                        refine WL.ex rfl (ex_pick_f (v := .bool false) rfl rfl) ?_
                        refine WL.ex rfl (ex_assign (v := .bool false) rfl) ?_
                        refine WL.nil ?_
                        refine WC.ret ?_
                        obtain rfl := Option.some.inj H
                        exact ⟨_, (.tmp (.bool false : Value) rfl .nil), _, rfl, HF.out⟩
                    ·
                      refine WL.guardNo rfl rfl rfl ((show _ = Value.bool (T_api_Fault.eqb z141.2 (⟨(0 : Int), (⟨(0 : Int), (0 : Int), (0 : Int)⟩ : T_api_Spot)⟩ : T_api_Fault)) from rfl).trans (congrArg Value.bool c223)) ?_
                      refine WL.guardNo rfl rfl rfl ((show _ = Value.bool (T_api_Fault.eqb z141.2 (⟨(0 : Int), (⟨(0 : Int), (0 : Int), (0 : Int)⟩ : T_api_Spot)⟩ : T_api_Fault)) from rfl).trans (congrArg Value.bool c223)) ?_
                      refine WL.guardNo rfl rfl rfl ((show _ = Value.bool (T_api_Fault.eqb z141.2 (⟨(0 : Int), (⟨(0 : Int), (0 : Int), (0 : Int)⟩ : T_api_Spot)⟩ : T_api_Fault)) from rfl).trans (congrArg Value.bool c223)) ?_
                      refine WL.ex rfl (ex_pick_f (v := .bool false) ((show _ = Value.bool (T_api_Fault.eqb z141.2 (⟨(0 : Int), (⟨(0 : Int), (0 : Int), (0 : Int)⟩ : T_api_Spot)⟩ : T_api_Fault)) from rfl).trans (congrArg Value.bool c223)) rfl) ?_
                      refine WL.ex rfl (ex_move (v := .bool false) rfl) ?_
                      refine WL.guardNo rfl rfl rfl rfl ?_
                      refine WL.guardNo rfl rfl rfl rfl ?_
                      refine WL.guardNo rfl rfl rfl rfl ?_
                      refine WL.guardNo rfl rfl rfl rfl ?_
                      refine WL.guardNo rfl rfl rfl rfl ?_
                      refine WL.ex rfl (ex_pick_f (v := .bool false) rfl rfl) ?_
                      refine WL.ex rfl (ex_move (v := .bool false) rfl) ?_
                      refine WL.guardNo rfl rfl rfl rfl ?_
                      refine WL.guardNo rfl rfl rfl rfl ?_
                      refine WL.guardNo rfl rfl rfl rfl ?_
                      refine WL.guardNo rfl rfl rfl rfl ?_
                      refine WL.guardNo rfl rfl rfl rfl ?_
                      refine WL.ex rfl (ex_pick_f (v := .bool false) rfl rfl) ?_
                      refine WL.ex rfl (ex_move (v := .bool false) rfl) ?_
                      refine WL.guardNo rfl rfl rfl rfl ?_
                      refine WL.guardNo rfl rfl rfl rfl ?_
                      refine WL.guardNo rfl rfl rfl rfl ?_
                      refine WL.guardNo rfl rfl rfl rfl ?_
                      refine WL.guardNo rfl rfl rfl rfl ?_
                      refine WL.ex rfl (ex_pick_f (v := .bool false) rfl rfl) ?_
                      refine WL.ex rfl (ex_move (v := .bool false) rfl) ?_
                      refine WL.guardNo rfl rfl rfl rfl ?_
                      refine WL.ex rfl (ex_pick_f (v := .bool false) rfl rfl) ?_
                      refine WL.ex rfl (ex_move (v := .bool false) rfl) ?_
                      refine WL.guardNo rfl rfl rfl rfl ?_
                      refine WL.guardNo rfl rfl rfl rfl ?_
                      refine WL.ex rfl (ex_pick_f (v := .bool false) rfl rfl) ?_
                      refine WL.ex rfl (ex_move (v := .bool false) rfl) ?_
                      refine WL.guardNo rfl rfl rfl rfl ?_
                      refine WL.guardNo rfl rfl rfl rfl ?_
                      refine WL.guardNo rfl rfl rfl rfl ?_
                      refine WL.ex rfl (ex_pick_f (v := .bool false) rfl rfl) ?_
                      refine WL.ex rfl (ex_assign (v := .bool false) rfl) ?_
                      refine WL.nil ?_
                      refine WC.ret ?_
                      obtain rfl := Option.some.inj H
                      exact ⟨_, (.tmp (.bool false : Value) rfl .nil), _, rfl, HF.out⟩
                  ·
                    refine WL.guardNo rfl rfl rfl ((show _ = Value.bool (z137.1 == ([97, 32, 45, 62, 32, 55] : List UInt8)) from rfl).trans (congrArg Value.bool c222)) ?_
                    refine WL.guardNo rfl rfl rfl ((show _ = Value.bool (z137.1 == ([97, 32, 45, 62, 32, 55] : List UInt8)) from rfl).trans (congrArg Value.bool c222)) ?_
                    refine WL.guardNo rfl rfl rfl ((show _ = Value.bool (z137.1 == ([97, 32, 45, 62, 32, 55] : List UInt8)) from rfl).trans (congrArg Value.bool c222)) ?_
                    refine WL.ex rfl (ex_pick_f (v := .bool false) ((show _ = Value.bool (z137.1 == ([97, 32, 45, 62, 32, 55] : List UInt8)) from rfl).trans (congrArg Value.bool c222)) rfl) ?_
                    refine WL.ex rfl (ex_move (v := .bool false) rfl) ?_
                    refine WL.guardNo rfl rfl rfl rfl ?_
                    refine WL.guardNo rfl rfl rfl rfl ?_
                    refine WL.guardNo rfl rfl rfl rfl ?_
                    refine WL.ex rfl (ex_pick_f (v := .bool false) rfl rfl) ?_
                    refine WL.ex rfl (ex_move (v := .bool false) rfl) ?_
                    refine WL.guardNo rfl rfl rfl rfl ?_
                    refine WL.guardNo rfl rfl rfl rfl ?_
                    refine WL.guardNo rfl rfl rfl rfl ?_
                    refine WL.guardNo rfl rfl rfl rfl ?_
                    refine WL.guardNo rfl rfl rfl rfl ?_
                    refine WL.ex rfl (ex_pick_f (v := .bool false) rfl rfl) ?_
                    refine WL.ex rfl (ex_move (v := .bool false) rfl) ?_
                    refine WL.guardNo rfl rfl rfl rfl ?_
                    refine WL.guardNo rfl rfl rfl rfl ?_
                    refine WL.guardNo rfl rfl rfl rfl ?_
                    refine WL.guardNo rfl rfl rfl rfl ?_
                    refine WL.guardNo rfl rfl rfl rfl ?_
                    refine WL.ex rfl (ex_pick_f (v := .bool false) rfl rfl) ?_
                    refine WL.ex rfl (ex_move (v := .bool false) rfl) ?_
                    refine WL.guardNo rfl rfl rfl rfl ?_
                    refine WL.guardNo rfl rfl rfl rfl ?_
                    refine WL.guardNo rfl rfl rfl rfl ?_
                    refine WL.guardNo rfl rfl rfl rfl ?_
                    refine WL.guardNo rfl rfl rfl rfl ?_
                    refine WL.ex rfl (ex_pick_f (v := .bool false) rfl rfl) ?_
                    refine WL.ex rfl (ex_move (v := .bool false) rfl) ?_
                    refine WL.guardNo rfl rfl rfl rfl ?_
                    refine WL.ex rfl (ex_pick_f (v := .bool false) rfl rfl) ?_
                    refine WL.ex rfl (ex_move (v := .bool false) rfl) ?_
                    refine WL.guardNo rfl rfl rfl rfl ?_
                    refine WL.guardNo rfl rfl rfl rfl ?_
                    refine WL.ex rfl (ex_pick_f (v := .bool false) rfl rfl) ?_
                    refine WL.ex rfl (ex_move (v := .bool false) rfl) ?_
                    refine WL.guardNo rfl rfl rfl rfl ?_
                    refine WL.guardNo rfl rfl rfl rfl ?_
                    refine WL.guardNo rfl rfl rfl rfl ?_
                    refine WL.ex rfl (ex_pick_f (v := .bool false) rfl rfl) ?_
                    refine WL.ex rfl (ex_assign (v := .bool false) rfl) ?_
                    refine WL.nil ?_
                    refine WC.ret ?_
                    obtain rfl := Option.some.inj H
                    exact ⟨_, (.tmp (.bool false : Value) rfl .nil), _, rfl, HF.out⟩
                ·
                  refine WL.guardNo rfl rfl rfl ((show _ = Value.bool (z217 == 0) from rfl).trans (congrArg Value.bool c221)) ?_
                  refine WL.guardNo rfl rfl rfl ((show _ = Value.bool (z217 == 0) from rfl).trans (congrArg Value.bool c221)) ?_
                  refine WL.ex rfl (ex_pick_f (v := .bool false) ((show _ = Value.bool (z217 == 0) from rfl).trans (congrArg Value.bool c221)) rfl) ?_
                  refine WL.ex rfl (ex_move (v := .bool false) rfl) ?_
                  refine WL.guardNo rfl rfl rfl rfl ?_
                  refine WL.guardNo rfl rfl rfl rfl ?_
                  refine WL.guardNo rfl rfl rfl rfl ?_
                  refine WL.ex rfl (ex_pick_f (v := .bool false) rfl rfl) ?_
                  refine WL.ex rfl (ex_move (v := .bool false) rfl) ?_
                  refine WL.guardNo rfl rfl rfl rfl ?_
                  refine WL.guardNo rfl rfl rfl rfl ?_
                  refine WL.guardNo rfl rfl rfl rfl ?_
                  refine WL.ex rfl (ex_pick_f (v := .bool false) rfl rfl) ?_
                  refine WL.ex rfl (ex_move (v := .bool false) rfl) ?_
                  refine WL.guardNo rfl rfl rfl rfl ?_
                  refine WL.guardNo rfl rfl rfl rfl ?_
                  refine WL.guardNo rfl rfl rfl rfl ?_
                  refine WL.guardNo rfl rfl rfl rfl ?_
                  refine WL.guardNo rfl rfl rfl rfl ?_
                  refine WL.ex rfl (ex_pick_f (v := .bool false) rfl rfl) ?_
                  refine WL.ex rfl (ex_move (v := .bool false) rfl) ?_
                  refine WL.guardNo rfl rfl rfl rfl ?_
                  refine WL.guardNo rfl rfl rfl rfl ?_
                  refine WL.guardNo rfl rfl rfl rfl ?_
                  refine WL.guardNo rfl rfl rfl rfl ?_
                  refine WL.guardNo rfl rfl rfl rfl ?_
                  refine WL.ex rfl (ex_pick_f (v := .bool false) rfl rfl) ?_
                  refine WL.ex rfl (ex_move (v := .bool false) rfl) ?_
                  refine WL.guardNo rfl rfl rfl rfl ?_
                  refine WL.guardNo rfl rfl rfl rfl ?_
                  refine WL.guardNo rfl rfl rfl rfl ?_
                  refine WL.guardNo rfl rfl rfl rfl ?_
                  refine WL.guardNo rfl rfl rfl rfl ?_
                  refine WL.ex rfl (ex_pick_f (v := .bool false) rfl rfl) ?_
                  refine WL.ex rfl (ex_move (v := .bool false) rfl) ?_
                  refine WL.guardNo rfl rfl rfl rfl ?_
                  refine WL.ex rfl (ex_pick_f (v := .bool false) rfl rfl) ?_
                  refine WL.ex rfl (ex_move (v := .bool false) rfl) ?_
                  refine WL.guardNo rfl rfl rfl rfl ?_
                  refine WL.guardNo rfl rfl rfl rfl ?_
                  refine WL.ex rfl (ex_pick_f (v := .bool false) rfl rfl) ?_
                  refine WL.ex rfl (ex_move (v := .bool false) rfl) ?_
                  refine WL.guardNo rfl rfl rfl rfl ?_
                  refine WL.guardNo rfl rfl rfl rfl ?_
                  refine WL.guardNo rfl rfl rfl rfl ?_
                  refine WL.ex rfl (ex_pick_f (v := .bool false) rfl rfl) ?_
                  refine WL.ex rfl (ex_assign (v := .bool false) rfl) ?_
                  refine WL.nil ?_
                  refine WC.ret ?_
                  obtain rfl := Option.some.inj H
                  exact ⟨_, (.tmp (.bool false : Value) rfl .nil), _, rfl, HF.out⟩
              ·
                refine WL.guardNo rfl rfl rfl ((show _ = Value.bool (T_api_Fault.eqb z115.2 (⟨21, (⟨2, 2, 3⟩ : T_api_Spot)⟩ : T_api_Fault)) from rfl).trans (congrArg Value.bool c216)) ?_
                refine WL.guardNo rfl rfl rfl ((show _ = Value.bool (T_api_Fault.eqb z115.2 (⟨21, (⟨2, 2, 3⟩ : T_api_Spot)⟩ : T_api_Fault)) from rfl).trans (congrArg Value.bool c216)) ?_
                refine WL.guardNo rfl rfl rfl ((show _ = Value.bool (T_api_Fault.eqb z115.2 (⟨21, (⟨2, 2, 3⟩ : T_api_Spot)⟩ : T_api_Fault)) from rfl).trans (congrArg Value.bool c216)) ?_
                refine WL.ex rfl (ex_pick_f (v := .bool false) ((show _ = Value.bool (T_api_Fault.eqb z115.2 (⟨21, (⟨2, 2, 3⟩ : T_api_Spot)⟩ : T_api_Fault)) from rfl).trans (congrArg Value.bool c216)) rfl) ?_
                refine WL.ex rfl (ex_move (v := .bool false) rfl) ?_
                refine WL.guardNo rfl rfl rfl rfl ?_
                refine WL.guardNo rfl rfl rfl rfl ?_
                refine WL.ex rfl (ex_pick_f (v := .bool false) rfl rfl) ?_
                refine WL.ex rfl (ex_move (v := .bool false) rfl) ?_
                refine WL.guardNo rfl rfl rfl rfl ?_
                refine WL.guardNo rfl rfl rfl rfl ?_
                refine WL.guardNo rfl rfl rfl rfl ?_
                refine WL.ex rfl (ex_pick_f (v := .bool false) rfl rfl) ?_
                refine WL.ex rfl (ex_move (v := .bool false) rfl) ?_
                refine WL.guardNo rfl rfl rfl rfl ?_
                refine WL.guardNo rfl rfl rfl rfl ?_
                refine WL.guardNo rfl rfl rfl rfl ?_
                refine WL.ex rfl (ex_pick_f (v := .bool false) rfl rfl) ?_
                refine WL.ex rfl (ex_move (v := .bool false) rfl) ?_
                refine WL.guardNo rfl rfl rfl rfl ?_
                refine WL.guardNo rfl rfl rfl rfl ?_
                refine WL.guardNo rfl rfl rfl rfl ?_
                refine WL.guardNo rfl rfl rfl rfl ?_
                refine WL.guardNo rfl rfl rfl rfl ?_
                refine WL.ex rfl (ex_pick_f (v := .bool false) rfl rfl) ?_
                refine WL.ex rfl (ex_move (v := .bool false) rfl) ?_
                refine WL.guardNo rfl rfl rfl rfl ?_
                refine WL.guardNo rfl rfl rfl rfl ?_
                refine WL.guardNo rfl rfl rfl rfl ?_
                refine WL.guardNo rfl rfl rfl rfl ?_
                refine WL.guardNo rfl rfl rfl rfl ?_
                refine WL.ex rfl (ex_pick_f (v := .bool false) rfl rfl) ?_
                refine WL.ex rfl (ex_move (v := .bool false) rfl) ?_
                refine WL.guardNo rfl rfl rfl rfl ?_
                refine WL.guardNo rfl rfl rfl rfl ?_
                refine WL.guardNo rfl rfl rfl rfl ?_
                refine WL.guardNo rfl rfl rfl rfl ?_
                refine WL.guardNo rfl rfl rfl rfl ?_
                refine WL.ex rfl (ex_pick_f (v := .bool false) rfl rfl) ?_
                refine WL.ex rfl (ex_move (v := .bool false) rfl) ?_
                refine WL.guardNo rfl rfl rfl rfl ?_
                refine WL.ex rfl (ex_pick_f (v := .bool false) rfl rfl) ?_
                refine WL.ex rfl (ex_move (v := .bool false) rfl) ?_
                refine WL.guardNo rfl rfl rfl rfl ?_
                refine WL.guardNo rfl rfl rfl rfl ?_
                refine WL.ex rfl (ex_pick_f (v := .bool false) rfl rfl) ?_
                refine WL.ex rfl (ex_move (v := .bool false) rfl) ?_
                refine WL.guardNo rfl rfl rfl rfl ?_
                refine WL.guardNo rfl rfl rfl rfl ?_
                refine WL.guardNo rfl rfl rfl rfl ?_
                refine WL.ex rfl (ex_pick_f (v := .bool false) rfl rfl) ?_
                refine WL.ex rfl (ex_assign (v := .bool false) rfl) ?_
                refine WL.nil ?_
                refine WC.ret ?_
                obtain rfl := Option.some.inj H
                exact ⟨_, (.tmp (.bool false : Value) rfl .nil), _, rfl, HF.out⟩
            ·
              refine WL.guardNo rfl rfl rfl ((show _ = Value.bool (x202.f_Kind == 0) from rfl).trans (congrArg Value.bool c215)) ?_
              refine WL.guardNo rfl rfl rfl ((show _ = Value.bool (x202.f_Kind == 0) from rfl).trans (congrArg Value.bool c215)) ?_
              refine WL.guardNo rfl rfl rfl ((show _ = Value.bool (x202.f_Kind == 0) from rfl).trans (congrArg Value.bool c215)) ?_
              refine WL.guardNo rfl rfl rfl ((show _ = Value.bool (x202.f_Kind == 0) from rfl).trans (congrArg Value.bool c215)) ?_
              refine WL.ex rfl (ex_pick_f (v := .bool false) ((show _ = Value.bool (x202.f_Kind == 0) from rfl).trans (congrArg Value.bool c215)) rfl) ?_
              refine WL.ex rfl (ex_move (v := .bool false) rfl) ?_
              refine WL.guardNo rfl rfl rfl rfl ?_
              refine WL.guardNo rfl rfl rfl rfl ?_
              refine WL.guardNo rfl rfl rfl rfl ?_
              refine WL.ex rfl (ex_pick_f (v := .bool false) rfl rfl) ?_
              refine WL.ex rfl (ex_move (v := .bool false) rfl) ?_
              refine WL.guardNo rfl rfl rfl rfl ?_
              refine WL.guardNo rfl rfl rfl rfl ?_
              refine WL.ex rfl (ex_pick_f (v := .bool false) rfl rfl) ?_
              refine WL.ex rfl (ex_move (v := .bool false) rfl) ?_
              refine WL.guardNo rfl rfl rfl rfl ?_
              refine WL.guardNo rfl rfl rfl rfl ?_
              refine WL.guardNo rfl rfl rfl rfl ?_
              refine WL.ex rfl (ex_pick_f (v := .bool false) rfl rfl) ?_
              refine WL.ex rfl (ex_move (v := .bool false) rfl) ?_
              refine WL.guardNo rfl rfl rfl rfl ?_
              refine WL.guardNo rfl rfl rfl rfl ?_
              refine WL.guardNo rfl rfl rfl rfl ?_
              refine WL.ex rfl (ex_pick_f (v := .bool false) rfl rfl) ?_
              refine WL.ex rfl (ex_move (v := .bool false) rfl) ?_
              refine WL.guardNo rfl rfl rfl rfl ?_
              refine WL.guardNo rfl rfl rfl rfl ?_
              refine WL.guardNo rfl rfl rfl rfl ?_
              refine WL.guardNo rfl rfl rfl rfl ?_
              refine WL.guardNo rfl rfl rfl rfl ?_
              refine WL.ex rfl (ex_pick_f (v := .bool false) rfl rfl) ?_
              refine WL.ex rfl (ex_move (v := .bool false) rfl) ?_
              refine WL.guardNo rfl rfl rfl rfl ?_
              refine WL.guardNo rfl rfl rfl rfl ?_
              refine WL.guardNo rfl rfl rfl rfl ?_
              refine WL.guardNo rfl rfl rfl rfl ?_
              refine WL.guardNo rfl rfl rfl rfl ?_
              refine WL.ex rfl (ex_pick_f (v := .bool false) rfl rfl) ?_
              refine WL.ex rfl (ex_move (v := .bool false) rfl) ?_
              refine WL.guardNo rfl rfl rfl rfl ?_
              refine WL.guardNo rfl rfl rfl rfl ?_
              refine WL.guardNo rfl rfl rfl rfl ?_
              refine WL.guardNo rfl rfl rfl rfl ?_
              refine WL.guardNo rfl rfl rfl rfl ?_
              refine WL.ex rfl (ex_pick_f (v := .bool false) rfl rfl) ?_
              refine WL.ex rfl (ex_move (v := .bool false) rfl) ?_
              refine WL.guardNo rfl rfl rfl rfl ?_
              refine WL.ex rfl (ex_pick_f (v := .bool false) rfl rfl) ?_
              refine WL.ex rfl (ex_move (v := .bool false) rfl) ?_
              refine WL.guardNo rfl rfl rfl rfl ?_
              refine WL.guardNo rfl rfl rfl rfl ?_
              refine WL.ex rfl (ex_pick_f (v := .bool false) rfl rfl) ?_
              refine WL.ex rfl (ex_move (v := .bool false) rfl) ?_
              refine WL.guardNo rfl rfl rfl rfl ?_
              refine WL.guardNo rfl rfl rfl rfl ?_
              refine WL.guardNo rfl rfl rfl rfl ?_
              refine WL.ex rfl (ex_pick_f (v := .bool false) rfl rfl) ?_
              refine WL.ex rfl (ex_assign (v := .bool false) rfl) ?_
              refine WL.nil ?_
              refine WC.ret ?_
              obtain rfl := Option.some.inj H
              exact ⟨_, (.tmp (.bool false : Value) rfl .nil), _, rfl, HF.out⟩
          ·
            refine WL.guardNo rfl rfl rfl ((show _ = Value.bool (x188.f_At.f_Off == 6) from rfl).trans (congrArg Value.bool c201)) ?_
            refine WL.guardNo rfl rfl rfl ((show _ = Value.bool (x188.f_At.f_Off == 6) from rfl).trans (congrArg Value.bool c201)) ?_
            refine WL.guardNo rfl rfl rfl ((show _ = Value.bool (x188.f_At.f_Off == 6) from rfl).trans (congrArg Value.bool c201)) ?_
            refine WL.guardNo rfl rfl rfl ((show _ = Value.bool (x188.f_At.f_Off == 6) from rfl).trans (congrArg Value.bool c201)) ?_
            refine WL.guardNo rfl rfl rfl ((show _ = Value.bool (x188.f_At.f_Off == 6) from rfl).trans (congrArg Value.bool c201)) ?_
            refine WL.ex rfl (ex_pick_f (v := .bool false) ((show _ = Value.bool (x188.f_At.f_Off == 6) from rfl).trans (congrArg Value.bool c201)) rfl) ?_
            refine WL.ex rfl (ex_move (v := .bool false) rfl) ?_
            refine WL.guardNo rfl rfl rfl rfl ?_
            refine WL.guardNo rfl rfl rfl rfl ?_
            refine WL.guardNo rfl rfl rfl rfl ?_
            refine WL.guardNo rfl rfl rfl rfl ?_
            refine WL.ex rfl (ex_pick_f (v := .bool false) rfl rfl) ?_
            refine WL.ex rfl (ex_move (v := .bool false) rfl) ?_
            refine WL.guardNo rfl rfl rfl rfl ?_
            refine WL.guardNo rfl rfl rfl rfl ?_
            refine WL.guardNo rfl rfl rfl rfl ?_
            refine WL.ex rfl (ex_pick_f (v := .bool false) rfl rfl) ?_
            refine WL.ex rfl (ex_move (v := .bool false) rfl) ?_
            refine WL.guardNo rfl rfl rfl rfl ?_
            refine WL.guardNo rfl rfl rfl rfl ?_
            refine WL.ex rfl (ex_pick_f (v := .bool false) rfl rfl) ?_
            refine WL.ex rfl (ex_move (v := .bool false) rfl) ?_
            refine WL.guardNo rfl rfl rfl rfl ?_
            refine WL.guardNo rfl rfl rfl rfl ?_
            refine WL.guardNo rfl rfl rfl rfl ?_
            refine WL.ex rfl (ex_pick_f (v := .bool false) rfl rfl) ?_
            refine WL.ex rfl (ex_move (v := .bool false) rfl) ?_
            refine WL.guardNo rfl rfl rfl rfl ?_
            refine WL.guardNo rfl rfl rfl rfl ?_
            refine WL.guardNo rfl rfl rfl rfl ?_
            refine WL.ex rfl (ex_pick_f (v := .bool false) rfl rfl) ?_
            refine WL.ex rfl (ex_move (v := .bool false) rfl) ?_
            refine WL.guardNo rfl rfl rfl rfl ?_
            refine WL.guardNo rfl rfl rfl rfl ?_
            refine WL.guardNo rfl rfl rfl rfl ?_
            refine WL.guardNo rfl rfl rfl rfl ?_
            refine WL.guardNo rfl rfl rfl rfl ?_
            refine WL.ex rfl (ex_pick_f (v := .bool false) rfl rfl) ?_
            refine WL.ex rfl (ex_move (v := .bool false) rfl) ?_
            refine WL.guardNo rfl rfl rfl rfl ?_
            refine WL.guardNo rfl rfl rfl rfl ?_
            refine WL.guardNo rfl rfl rfl rfl ?_
            refine WL.guardNo rfl rfl rfl rfl ?_
            refine WL.guardNo rfl rfl rfl rfl ?_
            refine WL.ex rfl (ex_pick_f (v := .bool false) rfl rfl) ?_
            refine WL.ex rfl (ex_move (v := .bool false) rfl) ?_
            refine WL.guardNo rfl rfl rfl rfl ?_
            refine WL.guardNo rfl rfl rfl rfl ?_
            refine WL.guardNo rfl rfl rfl rfl ?_
            refine WL.guardNo rfl rfl rfl rfl ?_
            refine WL.guardNo rfl rfl rfl rfl ?_
            refine WL.ex rfl (ex_pick_f (v := .bool false) rfl rfl) ?_
            refine WL.ex rfl (ex_move (v := .bool false) rfl) ?_
            refine WL.guardNo rfl rfl rfl rfl ?_
            refine WL.ex rfl (ex_pick_f (v := .bool false) rfl rfl) ?_
            refine WL.ex rfl (ex_move (v := .bool false) rfl) ?_
            refine WL.guardNo rfl rfl rfl rfl ?_
            refine WL.guardNo rfl rfl rfl rfl ?_
            refine WL.ex rfl (ex_pick_f (v := .bool false) rfl rfl) ?_
            refine WL.ex rfl (ex_move (v := .bool false) rfl) ?_
            refine WL.guardNo rfl rfl rfl rfl ?_
            refine WL.guardNo rfl rfl rfl rfl ?_
            refine WL.guardNo rfl rfl rfl rfl ?_
            refine WL.ex rfl (ex_pick_f (v := .bool false) rfl rfl) ?_
            refine WL.ex rfl (ex_assign (v := .bool false) rfl) ?_
            refine WL.nil ?_
            refine WC.ret ?_
            obtain rfl := Option.some.inj H
            exact ⟨_, (.tmp (.bool false : Value) rfl .nil), _, rfl, HF.out⟩
        ·
          refine WL.guardNo rfl rfl rfl ((show _ = Value.bool (x174.f_Text == ([113, 49] : List UInt8)) from rfl).trans (congrArg Value.bool c187)) ?_
          refine WL.guardNo rfl rfl rfl ((show _ = Value.bool (x174.f_Text == ([113, 49] : List UInt8)) from rfl).trans (congrArg Value.bool c187)) ?_
          refine WL.guardNo rfl rfl rfl ((show _ = Value.bool (x174.f_Text == ([113, 49] : List UInt8)) from rfl).trans (congrArg Value.bool c187)) ?_
          refine WL.guardNo rfl rfl rfl ((show _ = Value.bool (x174.f_Text == ([113, 49] : List UInt8)) from rfl).trans (congrArg Value.bool c187)) ?_
          refine WL.guardNo rfl rfl rfl ((show _ = Value.bool (x174.f_Text == ([113, 49] : List UInt8)) from rfl).trans (congrArg Value.bool c187)) ?_
          refine WL.guardNo rfl rfl rfl ((show _ = Value.bool (x174.f_Text == ([113, 49] : List UInt8)) from rfl).trans (congrArg Value.bool c187)) ?_
          refine WL.ex rfl (ex_pick_f (v := .bool false) ((show _ = Value.bool (x174.f_Text == ([113, 49] : List UInt8)) from rfl).trans (congrArg Value.bool c187)) rfl) ?_
          refine WL.ex rfl (ex_move (v := .bool false) rfl) ?_
          refine WL.guardNo rfl rfl rfl rfl ?_
          refine WL.guardNo rfl rfl rfl rfl ?_
          refine WL.guardNo rfl rfl rfl rfl ?_
          refine WL.guardNo rfl rfl rfl rfl ?_
          refine WL.guardNo rfl rfl rfl rfl ?_
          refine WL.ex rfl (ex_pick_f (v := .bool false) rfl rfl) ?_
          refine WL.ex rfl (ex_move (v := .bool false) rfl) ?_
          refine WL.guardNo rfl rfl rfl rfl ?_
          refine WL.guardNo rfl rfl rfl rfl ?_
          refine WL.guardNo rfl rfl rfl rfl ?_
          refine WL.guardNo rfl rfl rfl rfl ?_
          refine WL.ex rfl (ex_pick_f (v := .bool false) rfl rfl) ?_
          refine WL.ex rfl (ex_move (v := .bool false) rfl) ?_
          refine WL.guardNo rfl rfl rfl rfl ?_
          refine WL.guardNo rfl rfl rfl rfl ?_
          refine WL.guardNo rfl rfl rfl rfl ?_
          refine WL.ex rfl (ex_pick_f (v := .bool false) rfl rfl) ?_
          refine WL.ex rfl (ex_move (v := .bool false) rfl) ?_
          refine WL.guardNo rfl rfl rfl rfl ?_
          refine WL.guardNo rfl rfl rfl rfl ?_
          refine WL.ex rfl (ex_pick_f (v := .bool false) rfl rfl) ?_
          refine WL.ex rfl (ex_move (v := .bool false) rfl) ?_
          refine WL.guardNo rfl rfl rfl rfl ?_
          refine WL.guardNo rfl rfl rfl rfl ?_
          refine WL.guardNo rfl rfl rfl rfl ?_
          refine WL.ex rfl (ex_pick_f (v := .bool false) rfl rfl) ?_
          refine WL.ex rfl (ex_move (v := .bool false) rfl) ?_
          refine WL.guardNo rfl rfl rfl rfl ?_
          refine WL.guardNo rfl rfl rfl rfl ?_
          refine WL.guardNo rfl rfl rfl rfl ?_
          refine WL.ex rfl (ex_pick_f (v := .bool false) rfl rfl) ?_
          refine WL.ex rfl (ex_move (v := .bool false) rfl) ?_
          refine WL.guardNo rfl rfl rfl rfl ?_
          refine WL.guardNo rfl rfl rfl rfl ?_
          refine WL.guardNo rfl rfl rfl rfl ?_
          refine WL.guardNo rfl rfl rfl rfl ?_
          refine WL.guardNo rfl rfl rfl rfl ?_
          refine WL.ex rfl (ex_pick_f (v := .bool false) rfl rfl) ?_
          refine WL.ex rfl (ex_move (v := .bool false) rfl) ?_
          refine WL.guardNo rfl rfl rfl rfl ?_
          refine WL.guardNo rfl rfl rfl rfl ?_
          refine WL.guardNo rfl rfl rfl rfl ?_
          refine WL.guardNo rfl rfl rfl rfl ?_
          refine WL.guardNo rfl rfl rfl rfl ?_
          refine WL.ex rfl (ex_pick_f (v := .bool false) rfl rfl) ?_
          refine WL.ex rfl (ex_move (v := .bool false) rfl) ?_
          refine WL.guardNo rfl rfl rfl rfl ?_
          refine WL.guardNo rfl rfl rfl rfl ?_
          refine WL.guardNo rfl rfl rfl rfl ?_
          refine WL.guardNo rfl rfl rfl rfl ?_
          refine WL.guardNo rfl rfl rfl rfl ?_
          refine WL.ex rfl (ex_pick_f (v := .bool false) rfl rfl) ?_
          refine WL.ex rfl (ex_move (v := .bool false) rfl) ?_
          refine WL.guardNo rfl rfl rfl rfl ?_
          refine WL.ex rfl (ex_pick_f (v := .bool false) rfl rfl) ?_
          refine WL.ex rfl (ex_move (v := .bool false) rfl) ?_
          refine WL.guardNo rfl rfl rfl rfl ?_
          refine WL.guardNo rfl rfl rfl rfl ?_
          refine WL.ex rfl (ex_pick_f (v := .bool false) rfl rfl) ?_
          refine WL.ex rfl (ex_move (v := .bool false) rfl) ?_
          refine WL.guardNo rfl rfl rfl rfl ?_
          refine WL.guardNo rfl rfl rfl rfl ?_
          refine WL.guardNo rfl rfl rfl rfl ?_
          refine WL.ex rfl (ex_pick_f (v := .bool false) rfl rfl) ?_
          refine WL.ex rfl (ex_assign (v := .bool false) rfl) ?_
          refine WL.nil ?_
          refine WC.ret ?_
          obtain rfl := Option.some.inj H
          exact ⟨_, (.tmp (.bool false : Value) rfl .nil), _, rfl, HF.out⟩
      ·
        refine WL.guardNo rfl rfl rfl ((show _ = Value.bool (x160.f_Text == ([45, 62] : List UInt8)) from rfl).trans (congrArg Value.bool c173)) ?_
        refine WL.guardNo rfl rfl rfl ((show _ = Value.bool (x160.f_Text == ([45, 62] : List UInt8)) from rfl).trans (congrArg Value.bool c173)) ?_
        refine WL.guardNo rfl rfl rfl ((show _ = Value.bool (x160.f_Text == ([45, 62] : List UInt8)) from rfl).trans (congrArg Value.bool c173)) ?_
        refine WL.guardNo rfl rfl rfl ((show _ = Value.bool (x160.f_Text == ([45, 62] : List UInt8)) from rfl).trans (congrArg Value.bool c173)) ?_
        refine WL.guardNo rfl rfl rfl ((show _ = Value.bool (x160.f_Text == ([45, 62] : List UInt8)) from rfl).trans (congrArg Value.bool c173)) ?_
        refine WL.ex rfl (ex_pick_f (v := .bool false) ((show _ = Value.bool (x160.f_Text == ([45, 62] : List UInt8)) from rfl).trans (congrArg Value.bool c173)) rfl) ?_
        refine WL.ex rfl (ex_move (v := .bool false) rfl) ?_
        refine WL.guardNo rfl rfl rfl rfl ?_
        refine WL.guardNo rfl rfl rfl rfl ?_
        refine WL.guardNo rfl rfl rfl rfl ?_
        refine WL.guardNo rfl rfl rfl rfl ?_
        refine WL.guardNo rfl rfl rfl rfl ?_
        refine WL.guardNo rfl rfl rfl rfl ?_
        refine WL.ex rfl (ex_pick_f (v := .bool false) rfl rfl) ?_
        refine WL.ex rfl (ex_move (v := .bool false) rfl) ?_
        refine WL.guardNo rfl rfl rfl rfl ?_
        refine WL.guardNo rfl rfl rfl rfl ?_
        refine WL.guardNo rfl rfl rfl rfl ?_
        refine WL.guardNo rfl rfl rfl rfl ?_
        refine WL.guardNo rfl rfl rfl rfl ?_
        refine WL.ex rfl (ex_pick_f (v := .bool false) rfl rfl) ?_
        refine WL.ex rfl (ex_move (v := .bool false) rfl) ?_
        refine WL.guardNo rfl rfl rfl rfl ?_
        refine WL.guardNo rfl rfl rfl rfl ?_
        refine WL.guardNo rfl rfl rfl rfl ?_
        refine WL.guardNo rfl rfl rfl rfl ?_
        refine WL.ex rfl (ex_pick_f (v := .bool false) rfl rfl) ?_
        refine WL.ex rfl (ex_move (v := .bool false) rfl) ?_
        refine WL.guardNo rfl rfl rfl rfl ?_
        refine WL.guardNo rfl rfl rfl rfl ?_
        refine WL.guardNo rfl rfl rfl rfl ?_
        refine WL.ex rfl (ex_pick_f (v := .bool false) rfl rfl) ?_
        refine WL.ex rfl (ex_move (v := .bool false) rfl) ?_
        refine WL.guardNo rfl rfl rfl rfl ?_
        refine WL.guardNo rfl rfl rfl rfl ?_
        refine WL.ex rfl (ex_pick_f (v := .bool false) rfl rfl) ?_
        refine WL.ex rfl (ex_move (v := .bool false) rfl) ?_
        refine WL.guardNo rfl rfl rfl rfl ?_
        refine WL.guardNo rfl rfl rfl rfl ?_
        refine WL.guardNo rfl rfl rfl rfl ?_
        refine WL.ex rfl (ex_pick_f (v := .bool false) rfl rfl) ?_
        refine WL.ex rfl (ex_move (v := .bool false) rfl) ?_
        refine WL.guardNo rfl rfl rfl rfl ?_
        refine WL.guardNo rfl rfl rfl rfl ?_
        refine WL.guardNo rfl rfl rfl rfl ?_
        refine WL.ex rfl (ex_pick_f (v := .bool false) rfl rfl) ?_
        refine WL.ex rfl (ex_move (v := .bool false) rfl) ?_
        refine WL.guardNo rfl rfl rfl rfl ?_
        refine WL.guardNo rfl rfl rfl rfl ?_
        refine WL.guardNo rfl rfl rfl rfl ?_
        refine WL.guardNo rfl rfl rfl rfl ?_
        refine WL.guardNo rfl rfl rfl rfl ?_
        refine WL.ex rfl (ex_pick_f (v := .bool false) rfl rfl) ?_
        refine WL.ex rfl (ex_move (v := .bool false) rfl) ?_
        refine WL.guardNo rfl rfl rfl rfl ?_
        refine WL.guardNo rfl rfl rfl rfl ?_
        refine WL.guardNo rfl rfl rfl rfl ?_
        refine WL.guardNo rfl rfl rfl rfl ?_
        refine WL.guardNo rfl rfl rfl rfl ?_
        refine WL.ex rfl (ex_pick_f (v := .bool false) rfl rfl) ?_
        refine WL.ex rfl (ex_move (v := .bool false) rfl) ?_
        refine WL.guardNo rfl rfl rfl rfl ?_
        refine WL.guardNo rfl rfl rfl rfl ?_
        refine WL.guardNo rfl rfl rfl rfl ?_
        refine WL.guardNo rfl rfl rfl rfl ?_
        refine WL.guardNo rfl rfl rfl rfl ?_
        refine WL.ex rfl (ex_pick_f (v := .bool false) rfl rfl) ?_
        refine WL.ex rfl (ex_move (v := .bool false) rfl) ?_
        refine WL.guardNo rfl rfl rfl rfl ?_
        refine WL.ex rfl (ex_pick_f (v := .bool false) rfl rfl) ?_
        refine WL.ex rfl (ex_move (v := .bool false) rfl) ?_
        refine WL.guardNo rfl rfl rfl rfl ?_
        refine WL.guardNo rfl rfl rfl rfl ?_
        refine WL.ex rfl (ex_pick_f (v := .bool false) rfl rfl) ?_
        refine WL.ex rfl (ex_move (v := .bool false) rfl) ?_
        refine WL.guardNo rfl rfl rfl rfl ?_
        refine WL.guardNo rfl rfl rfl rfl ?_
        refine WL.guardNo rfl rfl rfl rfl ?_
        refine WL.ex rfl (ex_pick_f (v := .bool false) rfl rfl) ?_
        refine WL.ex rfl (ex_assign (v := .bool false) rfl) ?_
        refine WL.nil ?_
        refine WC.ret ?_
        obtain rfl := Option.some.inj H
        exact ⟨_, (.tmp (.bool false : Value) rfl .nil), _, rfl, HF.out⟩
    ·
      refine WL.guardNo rfl rfl rfl ((show _ = Value.bool ((z101.1.length : Int) == 6) from rfl).trans (congrArg Value.bool c159)) ?_
      refine WL.guardNo rfl rfl rfl ((show _ = Value.bool ((z101.1.length : Int) == 6) from rfl).trans (congrArg Value.bool c159)) ?_
      refine WL.guardNo rfl rfl rfl ((show _ = Value.bool ((z101.1.length : Int) == 6) from rfl).trans (congrArg Value.bool c159)) ?_
      refine WL.guardNo rfl rfl rfl ((show _ = Value.bool ((z101.1.length : Int) == 6) from rfl).trans (congrArg Value.bool c159)) ?_
      refine WL.guardNo rfl rfl rfl ((show _ = Value.bool ((z101.1.length : Int) == 6) from rfl).trans (congrArg Value.bool c159)) ?_
      refine WL.ex rfl (ex_pick_f (v := .bool false) ((show _ = Value.bool ((z101.1.length : Int) == 6) from rfl).trans (congrArg Value.bool c159)) rfl) ?_
      refine WL.ex rfl (ex_move (v := .bool false) rfl) ?_
      refine WL.guardNo rfl rfl rfl rfl ?_
      refine WL.guardNo rfl rfl rfl rfl ?_
      refine WL.guardNo rfl rfl rfl rfl ?_
      refine WL.guardNo rfl rfl rfl rfl ?_
      refine WL.guardNo rfl rfl rfl rfl ?_
      refine WL.ex rfl (ex_pick_f (v := .bool false) rfl rfl) ?_
      refine WL.ex rfl (ex_move (v := .bool false) rfl) ?_
      refine WL.guardNo rfl rfl rfl rfl ?_
      refine WL.guardNo rfl rfl rfl rfl ?_
      refine WL.guardNo rfl rfl rfl rfl ?_
      refine WL.guardNo rfl rfl rfl rfl ?_
      refine WL.guardNo rfl rfl rfl rfl ?_
      refine WL.guardNo rfl rfl rfl rfl ?_
      refine WL.ex rfl (ex_pick_f (v := .bool false) rfl rfl) ?_
      refine WL.ex rfl (ex_move (v := .bool false) rfl) ?_
      refine WL.guardNo rfl rfl rfl rfl ?_
      refine WL.guardNo rfl rfl rfl rfl ?_
      refine WL.guardNo rfl rfl rfl rfl ?_
      refine WL.guardNo rfl rfl rfl rfl ?_
      refine WL.guardNo rfl rfl rfl rfl ?_
      refine WL.ex rfl (ex_pick_f (v := .bool false) rfl rfl) ?_
      refine WL.ex rfl (ex_move (v := .bool false) rfl) ?_
      refine WL.guardNo rfl rfl rfl rfl ?_
      refine WL.guardNo rfl rfl rfl rfl ?_
      refine WL.guardNo rfl rfl rfl rfl ?_
      refine WL.guardNo rfl rfl rfl rfl ?_
      refine WL.ex rfl (ex_pick_f (v := .bool false) rfl rfl) ?_
      refine WL.ex rfl (ex_move (v := .bool false) rfl) ?_
      refine WL.guardNo rfl rfl rfl rfl ?_
      refine WL.guardNo rfl rfl rfl rfl ?_
      refine WL.guardNo rfl rfl rfl rfl ?_
      refine WL.ex rfl (ex_pick_f (v := .bool false) rfl rfl) ?_
      refine WL.ex rfl (ex_move (v := .bool false) rfl) ?_
      refine WL.guardNo rfl rfl rfl rfl ?_
      refine WL.guardNo rfl rfl rfl rfl ?_
      refine WL.ex rfl (ex_pick_f (v := .bool false) rfl rfl) ?_
      refine WL.ex rfl (ex_move (v := .bool false) rfl) ?_
      refine WL.guardNo rfl rfl rfl rfl ?_
      refine WL.guardNo rfl rfl rfl rfl ?_
      refine WL.guardNo rfl rfl rfl rfl ?_
      refine WL.ex rfl (ex_pick_f (v := .bool false) rfl rfl) ?_
      refine WL.ex rfl (ex_move (v := .bool false) rfl) ?_
      refine WL.guardNo rfl rfl rfl rfl ?_
      refine WL.guardNo rfl rfl rfl rfl ?_
      refine WL.guardNo rfl rfl rfl rfl ?_
      refine WL.ex rfl (ex_pick_f (v := .bool false) rfl rfl) ?_
      refine WL.ex rfl (ex_move (v := .bool false) rfl) ?_
      refine WL.guardNo rfl rfl rfl rfl ?_
      refine WL.guardNo rfl rfl rfl rfl ?_
      refine WL.guardNo rfl rfl rfl rfl ?_
      refine WL.guardNo rfl rfl rfl rfl ?_
      refine WL.guardNo rfl rfl rfl rfl ?_
      refine WL.ex rfl (ex_pick_f (v := .bool false) rfl rfl) ?_
      refine WL.ex rfl (ex_move (v := .bool false) rfl) ?_
      refine WL.guardNo rfl rfl rfl rfl ?_
      refine WL.guardNo rfl rfl rfl rfl ?_
      refine WL.guardNo rfl rfl rfl rfl ?_
      refine WL.guardNo rfl rfl rfl rfl ?_
      refine WL.guardNo rfl rfl rfl rfl ?_
      refine WL.ex rfl (ex_pick_f (v := .bool false) rfl rfl) ?_
      refine WL.ex rfl (ex_move (v := .bool false) rfl) ?_
      refine WL.guardNo rfl rfl rfl rfl ?_
      refine WL.guardNo rfl rfl rfl rfl ?_
      refine WL.guardNo rfl rfl rfl rfl ?_
      refine WL.guardNo rfl rfl rfl rfl ?_
      refine WL.guardNo rfl rfl rfl rfl ?_
      refine WL.ex rfl (ex_pick_f (v := .bool false) rfl rfl) ?_
      refine WL.ex rfl (ex_move (v := .bool false) rfl) ?_
      refine WL.guardNo rfl rfl rfl rfl ?_
      refine WL.ex rfl (ex_pick_f (v := .bool false) rfl rfl) ?_
      refine WL.ex rfl (ex_move (v := .bool false) rfl) ?_
      refine WL.guardNo rfl rfl rfl rfl ?_
      refine WL.guardNo rfl rfl rfl rfl ?_
      refine WL.ex rfl (ex_pick_f (v := .bool false) rfl rfl) ?_
      refine WL.ex rfl (ex_move (v := .bool false) rfl) ?_
      refine WL.guardNo rfl rfl rfl rfl ?_
      refine WL.guardNo rfl rfl rfl rfl ?_
      refine WL.guardNo rfl rfl rfl rfl ?_
      refine WL.ex rfl (ex_pick_f (v := .bool false) rfl rfl) ?_
      refine WL.ex rfl (ex_assign (v := .bool false) rfl) ?_
      refine WL.nil ?_
      refine WC.ret ?_
      obtain rfl := Option.some.inj H
      exact ⟨_, (.tmp (.bool false : Value) rfl .nil), _, rfl, HF.out⟩
  ·
    refine WL.guardNo rfl rfl rfl ((show _ = Value.bool (T_api_Fault.eqb z101.2 (⟨(0 : Int), (⟨(0 : Int), (0 : Int), (0 : Int)⟩ : T_api_Spot)⟩ : T_api_Fault)) from rfl).trans (congrArg Value.bool c155)) ?_
    refine WL.guardNo rfl rfl rfl ((show _ = Value.bool (T_api_Fault.eqb z101.2 (⟨(0 : Int), (⟨(0 : Int), (0 : Int), (0 : Int)⟩ : T_api_Spot)⟩ : T_api_Fault)) from rfl).trans (congrArg Value.bool c155)) ?_
    refine WL.guardNo rfl rfl rfl ((show _ = Value.bool (T_api_Fault.eqb z101.2 (⟨(0 : Int), (⟨(0 : Int), (0 : Int), (0 : Int)⟩ : T_api_Spot)⟩ : T_api_Fault)) from rfl).trans (congrArg Value.bool c155)) ?_
    refine WL.ex rfl (ex_pick_f (v := .bool false) ((show _ = Value.bool (T_api_Fault.eqb z101.2 (⟨(0 : Int), (⟨(0 : Int), (0 : Int), (0 : Int)⟩ : T_api_Spot)⟩ : T_api_Fault)) from rfl).trans (congrArg Value.bool c155)) rfl) ?_
    refine WL.ex rfl (ex_move (v := .bool false) rfl) ?_
    refine WL.guardNo rfl rfl rfl rfl ?_
    refine WL.guardNo rfl rfl rfl rfl ?_
    refine WL.guardNo rfl rfl rfl rfl ?_
    refine WL.guardNo rfl rfl rfl rfl ?_
    refine WL.guardNo rfl rfl rfl rfl ?_
    refine WL.ex rfl (ex_pick_f (v := .bool false) rfl rfl) ?_
    refine WL.ex rfl (ex_move (v := .bool false) rfl) ?_
    refine WL.guardNo rfl rfl rfl rfl ?_
    refine WL.guardNo rfl rfl rfl rfl ?_
    refine WL.guardNo rfl rfl rfl rfl ?_
    refine WL.guardNo rfl rfl rfl rfl ?_
    refine WL.guardNo rfl rfl rfl rfl ?_
    refine WL.ex rfl (ex_pick_f (v := .bool false) rfl rfl) ?_
    refine WL.ex rfl (ex_move (v := .bool false) rfl) ?_
    refine WL.guardNo rfl rfl rfl rfl ?_
    refine WL.guardNo rfl rfl rfl rfl ?_
    refine WL.guardNo rfl rfl rfl rfl ?_
    refine WL.guardNo rfl rfl rfl rfl ?_
    refine WL.guardNo rfl rfl rfl rfl ?_
    refine WL.guardNo rfl rfl rfl rfl ?_
    refine WL.ex rfl (ex_pick_f (v := .bool false) rfl rfl) ?_
    refine WL.ex rfl (ex_move (v := .bool false) rfl) ?_
    refine WL.guardNo rfl rfl rfl rfl ?_
    refine WL.guardNo rfl rfl rfl rfl ?_
    refine WL.guardNo rfl rfl rfl rfl ?_
    refine WL.guardNo rfl rfl rfl rfl ?_
    refine WL.guardNo rfl rfl rfl rfl ?_
    refine WL.ex rfl (ex_pick_f (v := .bool false) rfl rfl) ?_
    refine WL.ex rfl (ex_move (v := .bool false) rfl) ?_
    refine WL.guardNo rfl rfl rfl rfl ?_
    refine WL.guardNo rfl rfl rfl rfl ?_
    refine WL.guardNo rfl rfl rfl rfl ?_
    refine WL.guardNo rfl rfl rfl rfl ?_
    refine WL.ex rfl (ex_pick_f (v := .bool false) rfl rfl) ?_
    refine WL.ex rfl (ex_move (v := .bool false) rfl) ?_
    refine WL.guardNo rfl rfl rfl rfl ?_
    refine WL.guardNo rfl rfl rfl rfl ?_
    refine WL.guardNo rfl rfl rfl rfl ?_
    refine WL.ex rfl (ex_pick_f (v := .bool false) rfl rfl) ?_
    refine WL.ex rfl (ex_move (v := .bool false) rfl) ?_
    refine WL.guardNo rfl rfl rfl rfl ?_
    refine WL.guardNo rfl rfl rfl rfl ?_
    refine WL.ex rfl (ex_pick_f (v := .bool false) rfl rfl) ?_
    refine WL.ex rfl (ex_move (v := .bool false) rfl) ?_
    refine WL.guardNo rfl rfl rfl rfl ?_
    refine WL.guardNo rfl rfl rfl rfl ?_
    refine WL.guardNo rfl rfl rfl rfl ?_
    refine WL.ex rfl (ex_pick_f (v := .bool false) rfl rfl) ?_
    refine WL.ex rfl (ex_move (v := .bool false) rfl) ?_
    refine WL.guardNo rfl rfl rfl rfl ?_
    refine WL.guardNo rfl rfl rfl rfl ?_
    refine WL.guardNo rfl rfl rfl rfl ?_
    refine WL.ex rfl (ex_pick_f (v := .bool false) rfl rfl) ?_
    refine WL.ex rfl (ex_move (v := .bool false) rfl) ?_
    refine WL.guardNo rfl rfl rfl rfl ?_
    refine WL.guardNo rfl rfl rfl rfl ?_
    refine WL.guardNo rfl rfl rfl rfl ?_
    refine WL.guardNo rfl rfl rfl rfl ?_
    refine WL.guardNo rfl rfl rfl rfl ?_
    refine WL.ex rfl (ex_pick_f (v := .bool false) rfl rfl) ?_
    refine WL.ex rfl (ex_move (v := .bool false) rfl) ?_
    refine WL.guardNo rfl rfl rfl rfl ?_
    refine WL.guardNo rfl rfl rfl rfl ?_
    refine WL.guardNo rfl rfl rfl rfl ?_
    refine WL.guardNo rfl rfl rfl rfl ?_
    refine WL.guardNo rfl rfl rfl rfl ?_
    refine WL.ex rfl (ex_pick_f (v := .bool false) rfl rfl) ?_
    refine WL.ex rfl (ex_move (v := .bool false) rfl) ?_
    refine WL.guardNo rfl rfl rfl rfl ?_
    refine WL.guardNo rfl rfl rfl rfl ?_
    refine WL.guardNo rfl rfl rfl rfl ?_
    refine WL.guardNo rfl rfl rfl rfl ?_
    refine WL.guardNo rfl rfl rfl rfl ?_
    refine WL.ex rfl (ex_pick_f (v := .bool false) rfl rfl) ?_
    refine WL.ex rfl (ex_move (v := .bool false) rfl) ?_
    refine WL.guardNo rfl rfl rfl rfl ?_
    refine WL.ex rfl (ex_pick_f (v := .bool false) rfl rfl) ?_
    refine WL.ex rfl (ex_move (v := .bool false) rfl) ?_
    refine WL.guardNo rfl rfl rfl rfl ?_
    refine WL.guardNo rfl rfl rfl rfl ?_
    refine WL.ex rfl (ex_pick_f (v := .bool false) rfl rfl) ?_
    refine WL.ex rfl (ex_move (v := .bool false) rfl) ?_
    refine WL.guardNo rfl rfl rfl rfl ?_
    refine WL.guardNo rfl rfl rfl rfl ?_
    refine WL.guardNo rfl rfl rfl rfl ?_
    refine WL.ex rfl (ex_pick_f (v := .bool false) rfl rfl) ?_
    refine WL.ex rfl (ex_assign (v := .bool false) rfl) ?_
    refine WL.nil ?_
    refine WC.ret ?_
    obtain rfl := Option.some.inj H
    exact ⟨_, (.tmp (.bool false : Value) rfl .nil), _, rfl, HF.out⟩

/-! ### dictumlaw02_TokenFirst -/
set_option maxRecDepth 100000 in
theorem dictumlaw02_TokenFirst.calls (k : Nat) (o0 : Tags) (w0 : World) (a0 : List UInt8) (r : Bool) (hO : ∀ b, b < w0.heap.size → o0 b < 10) (hG : Gl GG o0 w0) (H : dictumlaw02_TokenFirst.f k a0 = some r) :
    Calls Tryd.prog 8 [encS a0].toArray w0 fun e_ w_ => ∃ (o_ : Tags), e_ = .returned (one [.bool r]) ∧ Step o0 w0 o_ w_ [] := by
  have HF := Fm.refl hO []
  unfold dictumlaw02_TokenFirst.f at H
  refine SX.calls [encS a0] Tryd.func8 rfl rfl ?_
  rw [Tryd.ntmps8]
  refine WC.seq ?_
  refine WC.region ?_
  refine WL.ex rfl (ex_assign (v := .bool false) rfl) ?_
  refine WL.nil ?_
  refine WC.seq ?_
  refine WC.region ?_
  refine WL.ex rfl (ex_move (v := encS a0) rfl) ?_
  obtain ⟨z101, hz101, H⟩ := bindE H
  refine WL.op rfl ?_
  refine OW.call [encS a0] rfl Tryd.func14 (by kernel_rfl) (by kernel_rfl) (map_cons' rfl rfl) (token_Scan.calls k _ _ a0 z101 (HF.ten (V := [0]) (L := []) rfl) (Gl.vw (V := [0]) (L := []) hG rfl) hz101) ?_
  rintro _ w102 ⟨o103, v105, rfl, s104, hO106⟩
  refine ⟨_, rfl, ?_⟩
  replace hO106 := Own.un9 (J := [10]) 0 hO106 rfl s104 rfl rfl
  replace s104 := un_stepL (J := [10]) (L' := []) s104 rfl rfl
  replace hG := hG.step s104 rfl
  replace HF := HF.step s104 rfl
  refine WL.ex rfl (ex_move (v := .tuple #[v105, .agg #[.int .i64 z101.2.f_Code, .int .i64 z101.2.f_At.f_Line, .int .i64 z101.2.f_At.f_Col, .int .i64 z101.2.f_At.f_Off]]) rfl) ?_
  refine WL.ex rfl (ex_extract (vs := #[v105, .agg #[.int .i64 z101.2.f_Code, .int .i64 z101.2.f_At.f_Line, .int .i64 z101.2.f_At.f_Col, .int .i64 z101.2.f_At.f_Off]]) (v := v105) rfl rfl) ?_
  refine WL.ex rfl (ex_extract (vs := #[v105, .agg #[.int .i64 z101.2.f_Code, .int .i64 z101.2.f_At.f_Line, .int .i64 z101.2.f_At.f_Col, .int .i64 z101.2.f_At.f_Off]]) (v := .agg #[.int .i64 z101.2.f_Code, .int .i64 z101.2.f_At.f_Line, .int .i64 z101.2.f_At.f_Col, .int .i64 z101.2.f_At.f_Off]) rfl rfl) ?_
  refine WL.op rfl ?_
  refine OW.alloc' [.int .i64 (0 : Int), .int .i64 (0 : Int), .int .i64 (0 : Int), .int .i64 (0 : Int)] 11 HF rfl zr31 rfl ?_
  intro o108 w109 b107 s110 hB111
  replace hG := hG.step s110 rfl
  replace hO106 := hO106.step s110 rfl rfl
  replace HF := HF.step s110 rfl
  refine WL.ex rfl (ex_assign (v := v105) rfl) ?_
  refine WL.op rfl ?_
  refine OW.store [.int .i64 z101.2.f_Code, .int .i64 z101.2.f_At.f_Line, .int .i64 z101.2.f_At.f_Col, .int .i64 z101.2.f_At.f_Off] rfl (vs := [.int .i64 z101.2.f_Code, .int .i64 z101.2.f_At.f_Line, .int .i64 z101.2.f_At.f_Col, .int .i64 z101.2.f_At.f_Off]) ((congrArg Value.cells (show ev _ _ = (.agg #[.int .i64 z101.2.f_Code, .int .i64 z101.2.f_At.f_Line, .int .i64 z101.2.f_At.f_Col, .int .i64 z101.2.f_At.f_Off] : Value) from rfl)).trans rfl) sz31 hB111 (Nat.le_of_ble_eq_true rfl) (by intro u_ hu_; simp only [List.mem_cons, List.not_mem_nil, or_false] at hu_; rcases hu_ with rfl | rfl | rfl | rfl <;> first | rfl) rfl ?_
  intro w112 s113 hB114
  replace hG := hG.step s113 rfl
  replace hO106 := hO106.step s113 rfl rfl
  replace HF := HF.step s113 rfl
  refine WL.nil ?_
  refine WC.seq ?_
  refine WC.seq ?_
  refine WC.region ?_
  refine WL.ex rfl (ex_loadN (cs := [.int .i64 z101.2.f_Code, .int .i64 z101.2.f_At.f_Line, .int .i64 z101.2.f_At.f_Col, .int .i64 z101.2.f_At.f_Off]) rfl Tryd.underlying31 rfl sz31 (hB114.cells rfl)) ?_
  refine WL.ex rfl (ex_build (cs := [.int .i64 (0 : Int), .int .i64 (0 : Int), .int .i64 (0 : Int), .int .i64 (0 : Int)]) [(0, 1), (1, 3)] [] [.int .i64 0, .int .i64 0, .int .i64 0, .int .i64 0] Tryd.underlying31 zr31 rfl (by kernel_rfl) rfl rfl) ?_
  refine WL.ex rfl (ex_bin (a := .agg #[.int .i64 z101.2.f_Code, .int .i64 z101.2.f_At.f_Line, .int .i64 z101.2.f_At.f_Col, .int .i64 z101.2.f_At.f_Off]) (b := .agg #[.int .i64 (0 : Int), .int .i64 (0 : Int), .int .i64 (0 : Int), .int .i64 (0 : Int)]) (v := .bool (T_api_Fault.eqb z101.2 (⟨(0 : Int), (⟨(0 : Int), (0 : Int), (0 : Int)⟩ : T_api_Spot)⟩ : T_api_Fault))) rfl rfl (bin_eql_agg (by kernel_rfl) (EqR.agg Tryd.underlying31 (by kernel_rfl) (EqF.cons (by decide) (PartR.one Tryd.underlying29 rfl rfl) (PartR.one Tryd.underlying29 rfl rfl) (EqR.int Tryd.underlying29) (EqF.cons (by decide) (PartR.many Tryd.underlying23 rfl sz23) (PartR.many Tryd.underlying23 rfl sz23) (EqR.agg Tryd.underlying23 (by kernel_rfl) (EqF.cons (by decide) (PartR.one Tryd.underlying3 rfl rfl) (PartR.one Tryd.underlying3 rfl rfl) (EqR.int Tryd.underlying3) (EqF.cons (by decide) (PartR.one Tryd.underlying3 rfl rfl) (PartR.one Tryd.underlying3 rfl rfl) (EqR.int Tryd.underlying3) (EqF.cons (by decide) (PartR.one Tryd.underlying3 rfl rfl) (PartR.one Tryd.underlying3 rfl rfl) (EqR.int Tryd.underlying3) EqF.nil)))) EqF.nil))))) ?_
  refine WL.nil ?_
  rcases condE H with ⟨c115, H⟩ | ⟨c115, H⟩
  ·
    refine WC.cond_t ((show _ = Value.bool (T_api_Fault.eqb z101.2 (⟨(0 : Int), (⟨(0 : Int), (0 : Int), (0 : Int)⟩ : T_api_Spot)⟩ : T_api_Fault)) from rfl).trans (congrArg Value.bool c115)) ?_
    refine WC.seq ?_
    refine WC.region ?_
    obtain ⟨z116, hz116, H⟩ := bindE H
    refine WL.op rfl ?_
    refine OW.call [] rfl Tryd.func13 (by kernel_rfl) (by kernel_rfl) rfl (dictumlaw02_alive.calls k _ _ z116 (HF.ten (V := [0]) (L := []) rfl) (Gl.vw (V := [0]) (L := []) hG rfl) hz116) ?_
    rintro _ w117 ⟨o118, rfl, s119⟩
    refine ⟨_, rfl, ?_⟩
    replace s119 := un_stepL (J := []) (L' := []) s119 rfl rfl
    replace hG := hG.step s119 rfl
    replace hO106 := hO106.step s119 rfl rfl
    replace hB114 := hB114.step s119 rfl
    replace HF := HF.step s119 rfl
    refine WL.ex rfl (ex_assign (v := .bool z116) rfl) ?_
    refine WL.nil ?_
    refine WC.ret ?_
    obtain rfl := Option.some.inj H
    exact ⟨_, (.tmp (.bool z116 : Value) rfl .nil), _, rfl, HF.out⟩
  ·
    refine WC.cond_f ((show _ = Value.bool (T_api_Fault.eqb z101.2 (⟨(0 : Int), (⟨(0 : Int), (0 : Int), (0 : Int)⟩ : T_api_Spot)⟩ : T_api_Fault)) from rfl).trans (congrArg Value.bool c115)) ?_
    refine WC.skip ?_
    refine WC.seq ?_
    obtain ⟨z121, hz121, H⟩ := bindE H
    refine WC.cut (fun ρ_ w_ => ∃ (o_ : Tags), Fm o0 w0 o_ w_ [] ∧ Bk o_ w_ 11 b107 [.int .i64 z101.2.f_Code, .int .i64 z101.2.f_At.f_Line, .int .i64 z101.2.f_At.f_Col, .int .i64 z101.2.f_At.f_Off] 31 ∧ Gl GG o_ w_ ∧ ρ_ 0 = encS a0 ∧ ρ_ 2 = .bool false ∧ ρ_ 4 = .pointer (some ⟨b107, 0, none⟩) ∧ ρ_ 37 = .bool z121) ?case122 ?_
    case case122 =>
      rintro ρ125 w123 ⟨o124, HF, hB114, hG, s0_119, s2_119, s4_119, s37_120⟩
      rcases condE H with ⟨c126, H⟩ | ⟨c126, H⟩
      ·
        refine WC.cond_t ((show _ = Value.bool z121 from s37_120).trans (congrArg Value.bool c126)) ?_
        refine WC.seq ?_
        refine WC.region ?_
        refine WL.ex rfl (ex_assign (v := .bool false) rfl) ?_
        refine WL.nil ?_
        refine WC.ret ?_
        obtain rfl := Option.some.inj H
        exact ⟨_, (.tmp (.bool false : Value) rfl .nil), _, rfl, HF.out⟩
      ·
        refine WC.cond_f ((show _ = Value.bool z121 from s37_120).trans (congrArg Value.bool c126)) ?_
        refine WC.skip ?_
        refine WC.seq ?_
        refine WC.region ?_
        refine WL.ex rfl (ex_move (v := encS a0) s0_119) ?_
        refine WL.ex rfl (ex_fieldAddr s4_119 Tryd.underlying31 rfl sz23) ?_
        refine WL.ex rfl (ex_fieldAddr rfl Tryd.underlying23 rfl sz3) ?_
        refine WL.ex rfl (ex_load1 (v := .int .i64 z101.2.f_At.f_Off) rfl Tryd.underlying3 rfl (hB114.cell rfl)) ?_
        obtain ⟨y127, hy127, H⟩ := bindE H
        refine WL.ex rfl (ex_slice_str (l := 0) (h := z101.2.f_At.f_Off) rfl Tryd.underlying9 rfl ⟨_, rfl⟩ hy127) ?_
        obtain ⟨z128, hz128, H⟩ := bindE H
        refine WL.op rfl ?_
        refine OW.call [encS y127] rfl Tryd.func14 (by kernel_rfl) (by kernel_rfl) (map_cons' rfl rfl) (token_Scan.calls k _ _ y127 z128 (HF.ten (V := [0]) (L := []) rfl) (Gl.vw (V := [0]) (L := []) hG rfl) hz128) ?_
        rintro _ w129 ⟨o130, v132, rfl, s131, hO133⟩
        refine ⟨_, rfl, ?_⟩
        replace hO133 := Own.un9 (J := [12]) 0 hO133 rfl s131 rfl rfl
        replace s131 := un_stepL (J := [12]) (L' := []) s131 rfl rfl
        replace hB114 := hB114.step s131 rfl
        replace hG := hG.step s131 rfl
        replace HF := HF.step s131 rfl
        refine WL.ex rfl (ex_move (v := .tuple #[v132, .agg #[.int .i64 z128.2.f_Code, .int .i64 z128.2.f_At.f_Line, .int .i64 z128.2.f_At.f_Col, .int .i64 z128.2.f_At.f_Off]]) rfl) ?_
        refine WL.ex rfl (ex_extract (vs := #[v132, .agg #[.int .i64 z128.2.f_Code, .int .i64 z128.2.f_At.f_Line, .int .i64 z128.2.f_At.f_Col, .int .i64 z128.2.f_At.f_Off]]) (v := v132) rfl rfl) ?_
        refine WL.ex rfl (ex_extract (vs := #[v132, .agg #[.int .i64 z128.2.f_Code, .int .i64 z128.2.f_At.f_Line, .int .i64 z128.2.f_At.f_Col, .int .i64 z128.2.f_At.f_Off]]) (v := .agg #[.int .i64 z128.2.f_Code, .int .i64 z128.2.f_At.f_Line, .int .i64 z128.2.f_At.f_Col, .int .i64 z128.2.f_At.f_Off]) rfl rfl) ?_
        refine WL.op rfl ?_
        refine OW.alloc' [.int .i64 (0 : Int), .int .i64 (0 : Int), .int .i64 (0 : Int), .int .i64 (0 : Int)] 13 HF rfl zr31 rfl ?_
        intro o135 w136 b134 s137 hB138
        replace hB114 := hB114.step s137 rfl
        replace hG := hG.step s137 rfl
        replace hO133 := hO133.step s137 rfl rfl
        replace HF := HF.step s137 rfl
        refine WL.ex rfl (ex_assign (v := v132) rfl) ?_
        refine WL.op rfl ?_
        refine OW.store [.int .i64 z128.2.f_Code, .int .i64 z128.2.f_At.f_Line, .int .i64 z128.2.f_At.f_Col, .int .i64 z128.2.f_At.f_Off] rfl (vs := [.int .i64 z128.2.f_Code, .int .i64 z128.2.f_At.f_Line, .int .i64 z128.2.f_At.f_Col, .int .i64 z128.2.f_At.f_Off]) ((congrArg Value.cells (show ev _ _ = (.agg #[.int .i64 z128.2.f_Code, .int .i64 z128.2.f_At.f_Line, .int .i64 z128.2.f_At.f_Col, .int .i64 z128.2.f_At.f_Off] : Value) from rfl)).trans rfl) sz31 hB138 (Nat.le_of_ble_eq_true rfl) (by intro u_ hu_; simp only [List.mem_cons, List.not_mem_nil, or_false] at hu_; rcases hu_ with rfl | rfl | rfl | rfl <;> first | rfl) rfl ?_
        intro w139 s140 hB141
        replace hB114 := hB114.step s140 rfl
        replace hG := hG.step s140 rfl
        replace hO133 := hO133.step s140 rfl rfl
        replace HF := HF.step s140 rfl
        refine WL.nil ?_
        refine WC.seq ?_
        refine WC.region ?_
        refine WL.ex rfl (ex_loadN (cs := [.int .i64 z128.2.f_Code, .int .i64 z128.2.f_At.f_Line, .int .i64 z128.2.f_At.f_Col, .int .i64 z128.2.f_At.f_Off]) rfl Tryd.underlying31 rfl sz31 (hB141.cells rfl)) ?_
        refine WL.ex rfl (ex_build (cs := [.int .i64 (0 : Int), .int .i64 (0 : Int), .int .i64 (0 : Int), .int .i64 (0 : Int)]) [(0, 1), (1, 3)] [] [.int .i64 0, .int .i64 0, .int .i64 0, .int .i64 0] Tryd.underlying31 zr31 rfl (by kernel_rfl) rfl rfl) ?_
        refine WL.ex rfl (ex_bin (a := .agg #[.int .i64 z128.2.f_Code, .int .i64 z128.2.f_At.f_Line, .int .i64 z128.2.f_At.f_Col, .int .i64 z128.2.f_At.f_Off]) (b := .agg #[.int .i64 (0 : Int), .int .i64 (0 : Int), .int .i64 (0 : Int), .int .i64 (0 : Int)]) (v := .bool (T_api_Fault.eqb z128.2 (⟨(0 : Int), (⟨(0 : Int), (0 : Int), (0 : Int)⟩ : T_api_Spot)⟩ : T_api_Fault))) rfl rfl (bin_eql_agg (by kernel_rfl) (EqR.agg Tryd.underlying31 (by kernel_rfl) (EqF.cons (by decide) (PartR.one Tryd.underlying29 rfl rfl) (PartR.one Tryd.underlying29 rfl rfl) (EqR.int Tryd.underlying29) (EqF.cons (by decide) (PartR.many Tryd.underlying23 rfl sz23) (PartR.many Tryd.underlying23 rfl sz23) (EqR.agg Tryd.underlying23 (by kernel_rfl) (EqF.cons (by decide) (PartR.one Tryd.underlying3 rfl rfl) (PartR.one Tryd.underlying3 rfl rfl) (EqR.int Tryd.underlying3) (EqF.cons (by decide) (PartR.one Tryd.underlying3 rfl rfl) (PartR.one Tryd.underlying3 rfl rfl) (EqR.int Tryd.underlying3) (EqF.cons (by decide) (PartR.one Tryd.underlying3 rfl rfl) (PartR.one Tryd.underlying3 rfl rfl) (EqR.int Tryd.underlying3) EqF.nil)))) EqF.nil))))) ?_
        refine WL.ex rfl (ex_move (v := .bool (T_api_Fault.eqb z128.2 (⟨(0 : Int), (⟨(0 : Int), (0 : Int), (0 : Int)⟩ : T_api_Spot)⟩ : T_api_Fault))) rfl) ?_
        rcases condE H with ⟨c142, H⟩ | ⟨c142, H⟩
        ·
          refine WL.guardYes rfl rfl rfl ((show _ = Value.bool (T_api_Fault.eqb z128.2 (⟨(0 : Int), (⟨(0 : Int), (0 : Int), (0 : Int)⟩ : T_api_Spot)⟩ : T_api_Fault)) from rfl).trans (congrArg Value.bool c142)) ?_
          obtain ⟨z143, hz143, H⟩ := bindE H
          refine OW.call [] rfl Tryd.func13 (by kernel_rfl) (by kernel_rfl) rfl (dictumlaw02_alive.calls k _ _ z143 (HF.ten (V := [0]) (L := []) rfl) (Gl.vw (V := [0]) (L := []) hG rfl) hz143) ?_
          rintro _ w144 ⟨o145, rfl, s146⟩
          refine ⟨_, rfl, ?_⟩
          replace s146 := un_stepL (J := []) (L' := []) s146 rfl rfl
          replace hB114 := hB114.step s146 rfl
          replace hG := hG.step s146 rfl
          replace hO133 := hO133.step s146 rfl rfl
          replace hB141 := hB141.step s146 rfl
          replace HF := HF.step s146 rfl
          refine WL.ex rfl (ex_pick_t (v := .bool z143) ((show _ = Value.bool (T_api_Fault.eqb z128.2 (⟨(0 : Int), (⟨(0 : Int), (0 : Int), (0 : Int)⟩ : T_api_Spot)⟩ : T_api_Fault)) from rfl).trans (congrArg Value.bool c142)) rfl) ?_
          refine WL.ex rfl (ex_assign (v := .bool z143) rfl) ?_
          refine WL.nil ?_
          refine WC.ret ?_
          obtain rfl := Option.some.inj H
          exact ⟨_, (.tmp (.bool z143 : Value) rfl .nil), _, rfl, HF.out⟩
        ·
          refine WL.guardNo rfl rfl rfl ((show _ = Value.bool (T_api_Fault.eqb z128.2 (⟨(0 : Int), (⟨(0 : Int), (0 : Int), (0 : Int)⟩ : T_api_Spot)⟩ : T_api_Fault)) from rfl).trans (congrArg Value.bool c142)) ?_
          refine WL.ex rfl (ex_pick_f (v := .bool false) ((show _ = Value.bool (T_api_Fault.eqb z128.2 (⟨(0 : Int), (⟨(0 : Int), (0 : Int), (0 : Int)⟩ : T_api_Spot)⟩ : T_api_Fault)) from rfl).trans (congrArg Value.bool c142)) rfl) ?_
          refine WL.ex rfl (ex_assign (v := .bool false) rfl) ?_
          refine WL.nil ?_
          refine WC.ret ?_
          obtain rfl := Option.some.inj H
          exact ⟨_, (.tmp (.bool false : Value) rfl .nil), _, rfl, HF.out⟩
    have Ho147 := H
    replace H := hz121
    refine WC.regionD' HF [] 22 (by kernel_rfl) rfl ?_
    intro w148 s149
    replace hG := hG.step s149 rfl
    replace hO106 := hO106.step s149 rfl rfl
    replace hB114 := hB114.step s149 rfl
    replace HF := HF.step s149 rfl
    have hGD := hG
    have hO106D := hO106
    have hB114D := hB114
    have sR := HF.here []
    refine WA.norm (listed' := #[false, false, false, false, false, false, false, false, false, false, false, false, false, false, false, false, false, false, false, false, false, false]) (by kernel_rfl) ?_
    refine WA.ex 0 rfl (by kernel_rfl) (by kernel_rfl) (by kernel_rfl) rfl ⟨_, sR⟩ (fun w_ hS_ => ex_fieldAddr rfl Tryd.underlying31 rfl sz23) ?_
    refine WA.norm (listed' := #[true, false, false, false, false, false, false, false, false, false, false, false, false, false, false, false, false, false, false, false, false, false]) (by kernel_rfl) ?_
    refine WA.ex 1 rfl (by kernel_rfl) (by kernel_rfl) (by kernel_rfl) rfl ⟨_, sR⟩ (fun w_ hS_ => ex_fieldAddr rfl Tryd.underlying23 rfl sz3) ?_
    refine WA.norm (listed' := #[true, true, false, false, false, false, false, false, false, false, false, false, false, false, false, false, false, false, false, false, false, false]) (by kernel_rfl) ?_
    refine WA.ex 2 rfl (by kernel_rfl) (by kernel_rfl) (by kernel_rfl) rfl ⟨_, sR⟩ (fun w_ hS_ => ex_load1 (v := .int .i64 z101.2.f_At.f_Off) rfl Tryd.underlying3 rfl ((hB114D.step hS_.choose_spec rfl).cell rfl)) ?_
    refine WA.norm (listed' := #[true, true, true, false, false, false, false, false, false, false, false, false, false, false, false, false, false, false, false, false, false, false]) (by kernel_rfl) ?_
    refine WA.ex 3 rfl (by kernel_rfl) (by kernel_rfl) (by kernel_rfl) rfl ⟨_, sR⟩ (fun w_ hS_ => ex_bin (a := .int .i64 z101.2.f_At.f_Off) (b := .int .i64 0) (v := .bool (decide (z101.2.f_At.f_Off < 0))) rfl rfl bin_lss) ?_
    refine WA.norm (listed' := #[true, true, true, true, false, false, false, false, false, false, false, false, false, false, false, false, false, false, false, false, false, false]) (by kernel_rfl) ?_
    refine WA.ex 4 rfl (by kernel_rfl) (by kernel_rfl) (by kernel_rfl) rfl ⟨_, sR⟩ (fun w_ hS_ => ex_move (v := .bool (decide (z101.2.f_At.f_Off < 0))) rfl) ?_
    refine WA.norm (listed' := #[true, true, true, true, true, false, false, false, false, false, false, false, false, false, false, false, false, false, false, false, false, false]) (by kernel_rfl) ?_
    rcases condE H with ⟨c150, H⟩ | ⟨c150, H⟩
    ·
      refine WA.takeNo 5 rfl (by kernel_rfl) (by kernel_rfl) (by kernel_rfl) rfl rfl rfl ((show _ = Value.bool (decide (z101.2.f_At.f_Off < 0)) from rfl).trans (congrArg Value.bool c150)) ⟨_, sR⟩ ?_
      refine WA.norm (listed' := #[true, true, true, true, true, true, false, false, false, false, false, false, false, false, false, false, false, false, false, false, false, false]) (by kernel_rfl) ?_
      refine WA.takeNo 6 rfl (by kernel_rfl) (by kernel_rfl) (by kernel_rfl) rfl rfl rfl ((show _ = Value.bool (decide (z101.2.f_At.f_Off < 0)) from rfl).trans (congrArg Value.bool c150)) ⟨_, sR⟩ ?_
      refine WA.norm (listed' := #[true, true, true, true, true, true, true, false, false, false, false, false, false, false, false, false, false, false, false, false, false, false]) (by kernel_rfl) ?_
      refine WA.takeNo 7 rfl (by kernel_rfl) (by kernel_rfl) (by kernel_rfl) rfl rfl rfl ((show _ = Value.bool (decide (z101.2.f_At.f_Off < 0)) from rfl).trans (congrArg Value.bool c150)) ⟨_, sR⟩ ?_
      refine WA.norm (listed' := #[true, true, true, true, true, true, true, true, false, false, false, false, false, false, false, false, false, false, false, false, false, false]) (by kernel_rfl) ?_
      refine WA.takeNo 8 rfl (by kernel_rfl) (by kernel_rfl) (by kernel_rfl) rfl rfl rfl ((show _ = Value.bool (decide (z101.2.f_At.f_Off < 0)) from rfl).trans (congrArg Value.bool c150)) ⟨_, sR⟩ ?_
      refine WA.norm (listed' := #[true, true, true, true, true, true, true, true, true, false, false, false, false, false, false, false, false, false, false, false, false, false]) (by kernel_rfl) ?_
      refine WA.takeNo 9 rfl (by kernel_rfl) (by kernel_rfl) (by kernel_rfl) rfl rfl rfl ((show _ = Value.bool (decide (z101.2.f_At.f_Off < 0)) from rfl).trans (congrArg Value.bool c150)) ⟨_, sR⟩ ?_
      refine WA.norm (listed' := #[true, true, true, true, true, true, true, true, true, true, false, false, false, false, false, false, false, false, false, false, false, false]) (by kernel_rfl) ?_
      refine WA.takeNo 10 rfl (by kernel_rfl) (by kernel_rfl) (by kernel_rfl) rfl rfl rfl ((show _ = Value.bool (decide (z101.2.f_At.f_Off < 0)) from rfl).trans (congrArg Value.bool c150)) ⟨_, sR⟩ ?_
      refine WA.norm (listed' := #[true, true, true, true, true, true, true, true, true, true, true, false, false, false, false, false, false, false, false, false, false, false]) (by kernel_rfl) ?_
      refine WA.ex 11 rfl (by kernel_rfl) (by kernel_rfl) (by kernel_rfl) rfl ⟨_, sR⟩ (fun w_ hS_ => ex_pick_t (v := .bool true) ((show _ = Value.bool (decide (z101.2.f_At.f_Off < 0)) from rfl).trans (congrArg Value.bool c150)) rfl) ?_
      refine WA.norm (listed' := #[true, true, true, true, true, true, true, true, true, true, true, true, false, false, false, false, false, false, false, false, false, false]) (by kernel_rfl) ?_
      refine WA.ex 12 rfl (by kernel_rfl) (by kernel_rfl) (by kernel_rfl) rfl ⟨_, sR⟩ (fun w_ hS_ => ex_move (v := .bool true) rfl) ?_
      refine WA.norm (listed' := #[true, true, true, true, true, true, true, true, true, true, true, true, true, false, false, false, false, false, false, false, false, false]) (by kernel_rfl) ?_
      refine WA.takeNo 13 rfl (by kernel_rfl) (by kernel_rfl) (by kernel_rfl) rfl rfl rfl rfl ⟨_, sR⟩ ?_
      refine WA.norm (listed' := #[true, true, true, true, true, true, true, true, true, true, true, true, true, true, false, false, false, false, false, false, false, false]) (by kernel_rfl) ?_
      refine WA.takeNo 14 rfl (by kernel_rfl) (by kernel_rfl) (by kernel_rfl) rfl rfl rfl rfl ⟨_, sR⟩ ?_
      refine WA.norm (listed' := #[true, true, true, true, true, true, true, true, true, true, true, true, true, true, true, false, false, false, false, false, false, false]) (by kernel_rfl) ?_
      refine WA.takeNo 15 rfl (by kernel_rfl) (by kernel_rfl) (by kernel_rfl) rfl rfl rfl rfl ⟨_, sR⟩ ?_
      refine WA.norm (listed' := #[true, true, true, true, true, true, true, true, true, true, true, true, true, true, true, true, false, false, false, false, false, false]) (by kernel_rfl) ?_
      refine WA.takeNo 16 rfl (by kernel_rfl) (by kernel_rfl) (by kernel_rfl) rfl rfl rfl rfl ⟨_, sR⟩ ?_
      refine WA.norm (listed' := #[true, true, true, true, true, true, true, true, true, true, true, true, true, true, true, true, true, false, false, false, false, false]) (by kernel_rfl) ?_
      refine WA.takeNo 17 rfl (by kernel_rfl) (by kernel_rfl) (by kernel_rfl) rfl rfl rfl rfl ⟨_, sR⟩ ?_
      refine WA.norm (listed' := #[true, true, true, true, true, true, true, true, true, true, true, true, true, true, true, true, true, true, false, false, false, false]) (by kernel_rfl) ?_
      refine WA.takeNo 18 rfl (by kernel_rfl) (by kernel_rfl) (by kernel_rfl) rfl rfl rfl rfl ⟨_, sR⟩ ?_
      refine WA.norm (listed' := #[true, true, true, true, true, true, true, true, true, true, true, true, true, true, true, true, true, true, true, false, false, false]) (by kernel_rfl) ?_
      refine WA.takeNo 19 rfl (by kernel_rfl) (by kernel_rfl) (by kernel_rfl) rfl rfl rfl rfl ⟨_, sR⟩ ?_
      refine WA.norm (listed' := #[true, true, true, true, true, true, true, true, true, true, true, true, true, true, true, true, true, true, true, true, false, false]) (by kernel_rfl) ?_
      refine WA.takeNo 20 rfl (by kernel_rfl) (by kernel_rfl) (by kernel_rfl) rfl rfl rfl rfl ⟨_, sR⟩ ?_
      refine WA.norm (listed' := #[true, true, true, true, true, true, true, true, true, true, true, true, true, true, true, true, true, true, true, true, true, false]) (by kernel_rfl) ?_
      refine WA.ex 21 rfl (by kernel_rfl) (by kernel_rfl) (by kernel_rfl) rfl ⟨_, sR⟩ (fun w_ hS_ => ex_pick_t (v := .bool true) rfl rfl) ?_
      refine WA.norm (listed' := #[true, true, true, true, true, true, true, true, true, true, true, true, true, true, true, true, true, true, true, true, true, true]) (by kernel_rfl) ?_
      refine WA.done (by kernel_rfl) ?_
      obtain rfl := Option.some.inj H
      exact ⟨_, HF, hB114, hG, rfl, rfl, rfl, rfl⟩
    ·
      refine WA.exYes (i := 5) rfl (by kernel_rfl) (by kernel_rfl) (by kernel_rfl) rfl rfl rfl ((show _ = Value.bool (decide (z101.2.f_At.f_Off < 0)) from rfl).trans (congrArg Value.bool c150)) ⟨_, sR⟩ (fun w_ hS_ => ex_fieldAddr rfl Tryd.underlying31 rfl sz23) ?_
      refine WA.norm (listed' := #[true, true, true, true, true, true, false, false, false, false, false, false, false, false, false, false, false, false, false, false, false, false]) (by kernel_rfl) ?_
      refine WA.exYes (i := 6) rfl (by kernel_rfl) (by kernel_rfl) (by kernel_rfl) rfl rfl rfl ((show _ = Value.bool (decide (z101.2.f_At.f_Off < 0)) from rfl).trans (congrArg Value.bool c150)) ⟨_, sR⟩ (fun w_ hS_ => ex_fieldAddr rfl Tryd.underlying23 rfl sz3) ?_
      refine WA.norm (listed' := #[true, true, true, true, true, true, true, false, false, false, false, false, false, false, false, false, false, false, false, false, false, false]) (by kernel_rfl) ?_
      refine WA.exYes (i := 7) rfl (by kernel_rfl) (by kernel_rfl) (by kernel_rfl) rfl rfl rfl ((show _ = Value.bool (decide (z101.2.f_At.f_Off < 0)) from rfl).trans (congrArg Value.bool c150)) ⟨_, sR⟩ (fun w_ hS_ => ex_load1 (v := .int .i64 z101.2.f_At.f_Off) rfl Tryd.underlying3 rfl ((hB114D.step hS_.choose_spec rfl).cell rfl)) ?_
      refine WA.norm (listed' := #[true, true, true, true, true, true, true, true, false, false, false, false, false, false, false, false, false, false, false, false, false, false]) (by kernel_rfl) ?_
      refine WA.exYes (i := 8) rfl (by kernel_rfl) (by kernel_rfl) (by kernel_rfl) rfl rfl rfl ((show _ = Value.bool (decide (z101.2.f_At.f_Off < 0)) from rfl).trans (congrArg Value.bool c150)) ⟨_, sR⟩ (fun w_ hS_ => ex_move (v := encS a0) rfl) ?_
      refine WA.norm (listed' := #[true, true, true, true, true, true, true, true, true, false, false, false, false, false, false, false, false, false, false, false, false, false]) (by kernel_rfl) ?_
      refine WA.exYes (i := 9) rfl (by kernel_rfl) (by kernel_rfl) (by kernel_rfl) rfl rfl rfl ((show _ = Value.bool (decide (z101.2.f_At.f_Off < 0)) from rfl).trans (congrArg Value.bool c150)) ⟨_, sR⟩ (fun w_ hS_ => ex_len_str (s := a0) rfl Tryd.underlying9) ?_
      refine WA.norm (listed' := #[true, true, true, true, true, true, true, true, true, true, false, false, false, false, false, false, false, false, false, false, false, false]) (by kernel_rfl) ?_
      refine WA.exYes (i := 10) rfl (by kernel_rfl) (by kernel_rfl) (by kernel_rfl) rfl rfl rfl ((show _ = Value.bool (decide (z101.2.f_At.f_Off < 0)) from rfl).trans (congrArg Value.bool c150)) ⟨_, sR⟩ (fun w_ hS_ => ex_bin (a := .int .i64 z101.2.f_At.f_Off) (b := .int .i64 (a0.length : Int)) (v := .bool (decide (z101.2.f_At.f_Off > (a0.length : Int)))) rfl rfl bin_gtr) ?_
      refine WA.norm (listed' := #[true, true, true, true, true, true, true, true, true, true, true, false, false, false, false, false, false, false, false, false, false, false]) (by kernel_rfl) ?_
      refine WA.ex 11 rfl (by kernel_rfl) (by kernel_rfl) (by kernel_rfl) rfl ⟨_, sR⟩ (fun w_ hS_ => ex_pick_f (v := .bool (decide (z101.2.f_At.f_Off > (a0.length : Int)))) ((show _ = Value.bool (decide (z101.2.f_At.f_Off < 0)) from rfl).trans (congrArg Value.bool c150)) rfl) ?_
      refine WA.norm (listed' := #[true, true, true, true, true, true, true, true, true, true, true, true, false, false, false, false, false, false, false, false, false, false]) (by kernel_rfl) ?_
      refine WA.ex 12 rfl (by kernel_rfl) (by kernel_rfl) (by kernel_rfl) rfl ⟨_, sR⟩ (fun w_ hS_ => ex_move (v := .bool (decide (z101.2.f_At.f_Off > (a0.length : Int)))) rfl) ?_
      refine WA.norm (listed' := #[true, true, true, true, true, true, true, true, true, true, true, true, true, false, false, false, false, false, false, false, false, false]) (by kernel_rfl) ?_
      rcases condE H with ⟨c151, H⟩ | ⟨c151, H⟩
      ·
        refine WA.takeNo 13 rfl (by kernel_rfl) (by kernel_rfl) (by kernel_rfl) rfl rfl rfl ((show _ = Value.bool (decide (z101.2.f_At.f_Off > (a0.length : Int))) from rfl).trans (congrArg Value.bool c151)) ⟨_, sR⟩ ?_
        refine WA.norm (listed' := #[true, true, true, true, true, true, true, true, true, true, true, true, true, true, false, false, false, false, false, false, false, false]) (by kernel_rfl) ?_
        refine WA.takeNo 14 rfl (by kernel_rfl) (by kernel_rfl) (by kernel_rfl) rfl rfl rfl ((show _ = Value.bool (decide (z101.2.f_At.f_Off > (a0.length : Int))) from rfl).trans (congrArg Value.bool c151)) ⟨_, sR⟩ ?_
        refine WA.norm (listed' := #[true, true, true, true, true, true, true, true, true, true, true, true, true, true, true, false, false, false, false, false, false, false]) (by kernel_rfl) ?_
        refine WA.takeNo 15 rfl (by kernel_rfl) (by kernel_rfl) (by kernel_rfl) rfl rfl rfl ((show _ = Value.bool (decide (z101.2.f_At.f_Off > (a0.length : Int))) from rfl).trans (congrArg Value.bool c151)) ⟨_, sR⟩ ?_
        refine WA.norm (listed' := #[true, true, true, true, true, true, true, true, true, true, true, true, true, true, true, true, false, false, false, false, false, false]) (by kernel_rfl) ?_
        refine WA.takeNo 16 rfl (by kernel_rfl) (by kernel_rfl) (by kernel_rfl) rfl rfl rfl ((show _ = Value.bool (decide (z101.2.f_At.f_Off > (a0.length : Int))) from rfl).trans (congrArg Value.bool c151)) ⟨_, sR⟩ ?_
        refine WA.norm (listed' := #[true, true, true, true, true, true, true, true, true, true, true, true, true, true, true, true, true, false, false, false, false, false]) (by kernel_rfl) ?_
        refine WA.takeNo 17 rfl (by kernel_rfl) (by kernel_rfl) (by kernel_rfl) rfl rfl rfl ((show _ = Value.bool (decide (z101.2.f_At.f_Off > (a0.length : Int))) from rfl).trans (congrArg Value.bool c151)) ⟨_, sR⟩ ?_
        refine WA.norm (listed' := #[true, true, true, true, true, true, true, true, true, true, true, true, true, true, true, true, true, true, false, false, false, false]) (by kernel_rfl) ?_
        refine WA.takeNo 18 rfl (by kernel_rfl) (by kernel_rfl) (by kernel_rfl) rfl rfl rfl ((show _ = Value.bool (decide (z101.2.f_At.f_Off > (a0.length : Int))) from rfl).trans (congrArg Value.bool c151)) ⟨_, sR⟩ ?_
        refine WA.norm (listed' := #[true, true, true, true, true, true, true, true, true, true, true, true, true, true, true, true, true, true, true, false, false, false]) (by kernel_rfl) ?_
        refine WA.takeNo 19 rfl (by kernel_rfl) (by kernel_rfl) (by kernel_rfl) rfl rfl rfl ((show _ = Value.bool (decide (z101.2.f_At.f_Off > (a0.length : Int))) from rfl).trans (congrArg Value.bool c151)) ⟨_, sR⟩ ?_
        refine WA.norm (listed' := #[true, true, true, true, true, true, true, true, true, true, true, true, true, true, true, true, true, true, true, true, false, false]) (by kernel_rfl) ?_
        refine WA.takeNo 20 rfl (by kernel_rfl) (by kernel_rfl) (by kernel_rfl) rfl rfl rfl ((show _ = Value.bool (decide (z101.2.f_At.f_Off > (a0.length : Int))) from rfl).trans (congrArg Value.bool c151)) ⟨_, sR⟩ ?_
        refine WA.norm (listed' := #[true, true, true, true, true, true, true, true, true, true, true, true, true, true, true, true, true, true, true, true, true, false]) (by kernel_rfl) ?_
        refine WA.ex 21 rfl (by kernel_rfl) (by kernel_rfl) (by kernel_rfl) rfl ⟨_, sR⟩ (fun w_ hS_ => ex_pick_t (v := .bool true) ((show _ = Value.bool (decide (z101.2.f_At.f_Off > (a0.length : Int))) from rfl).trans (congrArg Value.bool c151)) rfl) ?_
        refine WA.norm (listed' := #[true, true, true, true, true, true, true, true, true, true, true, true, true, true, true, true, true, true, true, true, true, true]) (by kernel_rfl) ?_
        refine WA.done (by kernel_rfl) ?_
        obtain rfl := Option.some.inj H
        exact ⟨_, HF, hB114, hG, rfl, rfl, rfl, rfl⟩
      ·
        refine WA.exYes (i := 13) rfl (by kernel_rfl) (by kernel_rfl) (by kernel_rfl) rfl rfl rfl ((show _ = Value.bool (decide (z101.2.f_At.f_Off > (a0.length : Int))) from rfl).trans (congrArg Value.bool c151)) ⟨_, sR⟩ (fun w_ hS_ => ex_move (v := encS a0) rfl) ?_
        refine WA.norm (listed' := #[true, true, true, true, true, true, true, true, true, true, true, true, true, true, false, false, false, false, false, false, false, false]) (by kernel_rfl) ?_
        refine WA.exYes (i := 14) rfl (by kernel_rfl) (by kernel_rfl) (by kernel_rfl) rfl rfl rfl ((show _ = Value.bool (decide (z101.2.f_At.f_Off > (a0.length : Int))) from rfl).trans (congrArg Value.bool c151)) ⟨_, sR⟩ (fun w_ hS_ => ex_fieldAddr rfl Tryd.underlying31 rfl sz23) ?_
        refine WA.norm (listed' := #[true, true, true, true, true, true, true, true, true, true, true, true, true, true, true, false, false, false, false, false, false, false]) (by kernel_rfl) ?_
        refine WA.exYes (i := 15) rfl (by kernel_rfl) (by kernel_rfl) (by kernel_rfl) rfl rfl rfl ((show _ = Value.bool (decide (z101.2.f_At.f_Off > (a0.length : Int))) from rfl).trans (congrArg Value.bool c151)) ⟨_, sR⟩ (fun w_ hS_ => ex_fieldAddr rfl Tryd.underlying23 rfl sz3) ?_
        refine WA.norm (listed' := #[true, true, true, true, true, true, true, true, true, true, true, true, true, true, true, true, false, false, false, false, false, false]) (by kernel_rfl) ?_
        refine WA.exYes (i := 16) rfl (by kernel_rfl) (by kernel_rfl) (by kernel_rfl) rfl rfl rfl ((show _ = Value.bool (decide (z101.2.f_At.f_Off > (a0.length : Int))) from rfl).trans (congrArg Value.bool c151)) ⟨_, sR⟩ (fun w_ hS_ => ex_load1 (v := .int .i64 z101.2.f_At.f_Off) rfl Tryd.underlying3 rfl ((hB114D.step hS_.choose_spec rfl).cell rfl)) ?_
        refine WA.norm (listed' := #[true, true, true, true, true, true, true, true, true, true, true, true, true, true, true, true, true, false, false, false, false, false]) (by kernel_rfl) ?_
        refine WA.exYes (i := 18) rfl (by kernel_rfl) (by kernel_rfl) (by kernel_rfl) rfl rfl rfl ((show _ = Value.bool (decide (z101.2.f_At.f_Off > (a0.length : Int))) from rfl).trans (congrArg Value.bool c151)) ⟨_, sR⟩ (fun w_ hS_ => ex_fieldAddr rfl Tryd.underlying31 rfl sz23) ?_
        refine WA.norm (listed' := #[true, true, true, true, true, true, true, true, true, true, true, true, true, true, true, true, true, false, true, false, false, false]) (by kernel_rfl) ?_
        refine WA.exYes (i := 19) rfl (by kernel_rfl) (by kernel_rfl) (by kernel_rfl) rfl rfl rfl ((show _ = Value.bool (decide (z101.2.f_At.f_Off > (a0.length : Int))) from rfl).trans (congrArg Value.bool c151)) ⟨_, sR⟩ (fun w_ hS_ => ex_loadN (cs := [.int .i64 z101.2.f_At.f_Line, .int .i64 z101.2.f_At.f_Col, .int .i64 z101.2.f_At.f_Off]) rfl Tryd.underlying23 rfl sz23 ((hB114D.step hS_.choose_spec rfl).cells rfl)) ?_
        refine WA.norm (listed' := #[true, true, true, true, true, true, true, true, true, true, true, true, true, true, true, true, true, false, true, true, false, false]) (by kernel_rfl) ?_
        obtain ⟨z152, hz152, H⟩ := bindE H
        refine WA.oneYes 17 (by kernel_rfl) rfl rfl rfl rfl ((show _ = Value.bool (decide (z101.2.f_At.f_Off > (a0.length : Int))) from rfl).trans (congrArg Value.bool c151)) ?_
        refine OW.call [encS a0, .int .i64 z101.2.f_At.f_Off] rfl Tryd.func9 (by kernel_rfl) (by kernel_rfl) (map_cons' rfl (map_cons' rfl rfl)) (token_At.calls k _ _ a0 z101.2.f_At.f_Off z152 (HF.ten (V := [0]) (L := []) rfl)  hz152) ?_
        rintro _ w153 ⟨o154, rfl, s155⟩
        refine ⟨_, rfl, ?_⟩
        replace s155 := un_stepL (J := []) (L' := []) s155 rfl rfl
        replace hG := hG.step s155 rfl
        replace hO106 := hO106.step s155 rfl rfl
        replace hB114 := hB114.step s155 rfl
        replace HF := HF.step s155 rfl
        replace sR := Step.trans sR s155 (M := []) rfl rfl
        refine ⟨⟨_, sR⟩, ?_⟩
        refine WA.norm (listed' := #[true, true, true, true, true, true, true, true, true, true, true, true, true, true, true, true, true, true, true, true, false, false]) (by kernel_rfl) ?_
        refine WA.exYes (i := 20) rfl (by kernel_rfl) (by kernel_rfl) (by kernel_rfl) rfl rfl rfl ((show _ = Value.bool (decide (z101.2.f_At.f_Off > (a0.length : Int))) from rfl).trans (congrArg Value.bool c151)) ⟨_, sR⟩ (fun w_ hS_ => ex_bin (a := .agg #[.int .i64 z152.f_Line, .int .i64 z152.f_Col, .int .i64 z152.f_Off]) (b := .agg #[.int .i64 z101.2.f_At.f_Line, .int .i64 z101.2.f_At.f_Col, .int .i64 z101.2.f_At.f_Off]) (v := .bool (!(T_api_Spot.eqb z152 (⟨z101.2.f_At.f_Line, z101.2.f_At.f_Col, z101.2.f_At.f_Off⟩ : T_api_Spot)))) rfl rfl (bin_neq_agg (by kernel_rfl) (EqR.agg Tryd.underlying23 (by kernel_rfl) (EqF.cons (by decide) (PartR.one Tryd.underlying3 rfl rfl) (PartR.one Tryd.underlying3 rfl rfl) (EqR.int Tryd.underlying3) (EqF.cons (by decide) (PartR.one Tryd.underlying3 rfl rfl) (PartR.one Tryd.underlying3 rfl rfl) (EqR.int Tryd.underlying3) (EqF.cons (by decide) (PartR.one Tryd.underlying3 rfl rfl) (PartR.one Tryd.underlying3 rfl rfl) (EqR.int Tryd.underlying3) EqF.nil)))))) ?_
        refine WA.norm (listed' := #[true, true, true, true, true, true, true, true, true, true, true, true, true, true, true, true, true, true, true, true, true, false]) (by kernel_rfl) ?_
        refine WA.ex 21 rfl (by kernel_rfl) (by kernel_rfl) (by kernel_rfl) rfl ⟨_, sR⟩ (fun w_ hS_ => ex_pick_f (v := .bool (!(T_api_Spot.eqb z152 (⟨z101.2.f_At.f_Line, z101.2.f_At.f_Col, z101.2.f_At.f_Off⟩ : T_api_Spot)))) ((show _ = Value.bool (decide (z101.2.f_At.f_Off > (a0.length : Int))) from rfl).trans (congrArg Value.bool c151)) rfl) ?_
        refine WA.norm (listed' := #[true, true, true, true, true, true, true, true, true, true, true, true, true, true, true, true, true, true, true, true, true, true]) (by kernel_rfl) ?_
        refine WA.done (by kernel_rfl) ?_
        obtain rfl := Option.some.inj H
        exact ⟨_, HF, hB114, hG, rfl, rfl, rfl, rfl⟩
end Go.Proofs.YtjhmhdedonibbaaDoor.X
