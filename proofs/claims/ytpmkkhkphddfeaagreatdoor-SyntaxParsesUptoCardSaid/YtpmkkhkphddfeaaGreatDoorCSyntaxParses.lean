/- For every input of bulk at most 1048576 the Go function dictum/dictumlaw04.SyntaxParses of the given program returns true, and each argument reads behind the call as it read before. Conditions: the listed package-level variables hold what the program's text lays (tied by the card). -/
import Derived.Test.YtpmkkhkphddfeaaGreatDoorCards
import Derived.Test.YtpmkkhkphddfeaaGreatDoorTie
import Derived.Test.YtpmkkhkphddfeaaGreatDoorXAW2
import Derived.Test.YtpmkkhkphddfeaaGreatDoorL2
import Derived.Test.YtpmkkhkphddfeaaGreatDoorS3
set_option maxRecDepth 100000
set_option linter.unusedVariables false
set_option linter.unusedSimpArgs false
namespace Go.Proofs.YtpmkkhkphddfeaaGreatDoor.CSyntaxParses
open Go Go.ChangeShapes Go.WideShapes Go.ChangeAt Go.RowKit Go.Lib Go.Proofs.YtpmkkhkphddfeaaGreatDoor.SX Go.Proofs.YtpmkkhkphddfeaaGreatDoor.X
theorem opens_ar {P : Program} {t : TypeId} {α : Type} {n e : Nat} {r : Rep α} {b : α → Nat} {ok : α → Prop} (hT : P.underlying t = some (.array n e)) (hct : P.cellsOf t = n * r.sz) (hc : P.cellsOf e = r.sz) (h : Opens P e r b ok) : Opens P t (Rep.arr n r) (bulkL b) (fun xs => xs.length = n ∧ okL ok xs) := fun fuel_ => by
  cases fuel_ with
  | zero => exact OpensAt.zero
  | succ f_ => exact opens_arr hT hct hc (h f_)
theorem opens_sl {P : Program} {t : TypeId} {α : Type} {e : TypeId} {r : Rep α} {b : α → Nat} {ok : α → Prop} (hT : P.underlying t = some (.slice e)) (hc : P.cellsOf e = r.sz) (hr : 0 < r.sz) (h : Opens P e r b ok) : Opens P t (Rep.slice r) (bulkL b) (okL ok) := fun fuel_ => by
  cases fuel_ with
  | zero => exact OpensAt.zero
  | succ f_ => exact opens_slice hT hc hr (h f_)
theorem T_api_Node.opens : Opens Tryz.prog 60 T_api_Node.rep T_api_Node.bulk T_api_Node.ok := fun fuel_ => by
  cases fuel_ with
  | zero => exact OpensAt.zero
  | succ f_ => exact opens_struct (fun p => (⟨p.1, p.2.1, p.2.2.1, p.2.2.2⟩ : T_api_Node)) Tryz.underlying60 (by kernel_rfl) (fun _ => rfl) (fopens_cons rfl (by kernel_rfl) ((opens_i Tryz.underlying58) f_) (fopens_cons rfl (by kernel_rfl) ((opens_str Tryz.underlying9) f_) (fopens_cons rfl (by kernel_rfl) ((opens_i Tryz.underlying3) f_) (fopens_one rfl (by kernel_rfl) ((opens_i Tryz.underlying3) f_)))))
theorem own : ownKnob Tryz.prog.godebug = none := by kernel_rfl
theorem laidOut : laidOutB Tryz.prog = true := by kernel_rfl
noncomputable def put (h : Array Obj) (g : Nat) (cs : Array Value) : Array Obj := h.modify g fun
  | .cells _ t frozen => .cells cs t frozen
  | o => o
noncomputable def laidHeap (os : Os) : Array Obj := (World.holding Tryz.prog os ⟨#[.cells #[.string ⟨#[118, 97, 108, 117, 101, 32, 111, 117, 116, 32, 111, 102, 32, 114, 97, 110, 103, 101]⟩] 181, .cells #[.string ⟨#[105, 110, 118, 97, 108, 105, 100, 32, 115, 121, 110, 116, 97, 120]⟩] 181], #[], []⟩).heap
noncomputable def laidHeap0 (os : Os) : Array Obj := put (laidHeap os) 6 #[.int .u8 0, .int .u8 1, .int .u8 28, .int .u8 2, .int .u8 29, .int .u8 14, .int .u8 24, .int .u8 3, .int .u8 30, .int .u8 22, .int .u8 20, .int .u8 15, .int .u8 25, .int .u8 17, .int .u8 4, .int .u8 8, .int .u8 31, .int .u8 27, .int .u8 13, .int .u8 23, .int .u8 21, .int .u8 19, .int .u8 16, .int .u8 7, .int .u8 26, .int .u8 12, .int .u8 18, .int .u8 6, .int .u8 11, .int .u8 5, .int .u8 10, .int .u8 9]
noncomputable def laidHeap1 (os : Os) : Array Obj := put (laidHeap0 os) 7 #[.int .u8 0, .int .u8 1, .int .u8 56, .int .u8 2, .int .u8 57, .int .u8 49, .int .u8 28, .int .u8 3, .int .u8 61, .int .u8 58, .int .u8 42, .int .u8 50, .int .u8 38, .int .u8 29, .int .u8 17, .int .u8 4, .int .u8 62, .int .u8 47, .int .u8 59, .int .u8 36, .int .u8 45, .int .u8 43, .int .u8 51, .int .u8 22, .int .u8 53, .int .u8 39, .int .u8 33, .int .u8 30, .int .u8 24, .int .u8 18, .int .u8 12, .int .u8 5, .int .u8 63, .int .u8 55, .int .u8 48, .int .u8 27, .int .u8 60, .int .u8 41, .int .u8 37, .int .u8 16, .int .u8 46, .int .u8 35, .int .u8 44, .int .u8 21, .int .u8 52, .int .u8 32, .int .u8 23, .int .u8 11, .int .u8 54, .int .u8 26, .int .u8 40, .int .u8 15, .int .u8 34, .int .u8 20, .int .u8 31, .int .u8 10, .int .u8 25, .int .u8 14, .int .u8 19, .int .u8 9, .int .u8 13, .int .u8 8, .int .u8 7, .int .u8 6]
noncomputable def laidHeap2 (os : Os) : Array Obj := put (laidHeap1 os) 5 #[.int .u64 1, .int .u64 10, .int .u64 100, .int .u64 1000, .int .u64 10000, .int .u64 100000, .int .u64 1000000, .int .u64 10000000, .int .u64 100000000, .int .u64 1000000000, .int .u64 10000000000, .int .u64 100000000000, .int .u64 1000000000000, .int .u64 10000000000000, .int .u64 100000000000000, .int .u64 1000000000000000, .int .u64 10000000000000000, .int .u64 100000000000000000, .int .u64 1000000000000000000, .int .u64 10000000000000000000]
noncomputable def laidHeap3 (os : Os) : Array Obj := put (laidHeap2 os) 1 #[.int .u8 128, .int .u8 191, .int .u8 160, .int .u8 191, .int .u8 128, .int .u8 159, .int .u8 144, .int .u8 191, .int .u8 128, .int .u8 143, .int .u8 0, .int .u8 0, .int .u8 0, .int .u8 0, .int .u8 0, .int .u8 0, .int .u8 0, .int .u8 0, .int .u8 0, .int .u8 0, .int .u8 0, .int .u8 0, .int .u8 0, .int .u8 0, .int .u8 0, .int .u8 0, .int .u8 0, .int .u8 0, .int .u8 0, .int .u8 0, .int .u8 0, .int .u8 0]
noncomputable def laidHeap4 (os : Os) : Array Obj := put (laidHeap3 os) 4 #[.iface 179 (.pointer (some ⟨(World.settled Tryz.prog os).heap.size + 0, 0, none⟩))]
noncomputable def laidHeap5 (os : Os) : Array Obj := put (laidHeap4 os) 3 #[.iface 179 (.pointer (some ⟨(World.settled Tryz.prog os).heap.size + 1, 0, none⟩))]
noncomputable def laidHeap6 (os : Os) : Array Obj := put (laidHeap5 os) 0 (Go.Pinned.utf8FirstZ.map fun z => Value.int .u8 (Int.ofNat z)).toArray
noncomputable def laidWorld (os : Os) : World := { World.holding Tryz.prog os ⟨#[.cells #[.string ⟨#[118, 97, 108, 117, 101, 32, 111, 117, 116, 32, 111, 102, 32, 114, 97, 110, 103, 101]⟩] 181, .cells #[.string ⟨#[105, 110, 118, 97, 108, 105, 100, 32, 115, 121, 110, 116, 97, 120]⟩] 181], #[], []⟩ with heap := laidHeap6 os }
noncomputable abbrev N0 : Nat := (World.settled Tryz.prog default).heap.size
set_option maxRecDepth 1000000 in
theorem laid_met (os : Os) (args : Array Value) : laidMet Tryz.prog Rows.syntaxParsesUptoRow.laid ((laidWorld os).forCall (fun _ _ => 0) ⟨#[], args, []⟩).memory :=
  (LaidIn.of_run [6, 7, 5, 1, 4, N0 + 0, 3, N0 + 1, 0] 10 (by kernel_rfl) (by kernel_rfl) (by kernel_rfl) (by kernel_rfl)).met
set_option maxRecDepth 1000000 in
theorem witness_row (os : Os) {H : Type} (enc : TypeId × Value → H) :
    (Rows.OpenSpec.upto Rows.syntaxParsesSpec).preRow enc Tryz.prog Tryz.f4 Rows.syntaxParsesUptoRow.domain false Rows.syntaxParsesUptoRow.laid ((laidWorld os).forCall (fun _ _ => 0) ⟨#[], #[.slice none 0 0, .string ByteArray.empty], []⟩).memory #[.slice none 0 0, .string ByteArray.empty] := by
  have hw : (DataW.whole enc Tryz.prog ((laidWorld os).forCall (fun _ _ => 0) ⟨#[], #[.slice none 0 0, .string ByteArray.empty], []⟩).memory Tryz.f4.params.toList Rows.syntaxParsesSpec.vars false (#[.slice none 0 0, .string ByteArray.empty] : Array Value).toList 8).map (fun x => (x.1, x.2.1)) = some ([.nil, .lit (.string [])], []) := by kernel_rfl
  obtain ⟨⟨x1, x2, x3⟩, hx, hx1⟩ := Option.map_eq_some_iff.1 hw
  simp only [Prod.mk.injEq] at hx1
  obtain ⟨rfl, rfl⟩ := hx1
  exact OpenSpec.preRow_of_cond 8 hx (by kernel_rfl) (fun k hk => by cases hk; kernel_rfl) (by kernel_rfl) (laid_met os _)
def ren : Shelf.Ren := { t := fun i => if i = 5 then 5 else if i = 119 then 165 else if i = 138 then 168 else 169, f := id, g := fun i => if i = 3 then 0 else 1 }
theorem utabs {W : World} (h3 : VarReads Tryz.prog W "unicode/utf8.first" firstData) (h4 : VarReads Tryz.prog W "unicode/utf8.acceptRanges" acceptData) : Utf8Tabs 0 1 W :=
  utf8Tabs_of_readsT (ρ := ren) ⟨Tryz.underlying5, Tryz.underlying165, Tryz.underlying168, Tryz.underlying169⟩ ⟨by kernel_rfl, by kernel_rfl, by kernel_rfl, by kernel_rfl, by kernel_rfl, by kernel_rfl, by kernel_rfl⟩ h3 h4
theorem gl {W : World} (hL : laidMet Tryz.prog Rows.syntaxParsesUptoRow.laid W) : Gl GG (fun _ => 0) W := by
  refine ⟨fun b hb => ⟨rfl, ?_⟩, ⟨utabs (Pinned.utf8First_eq ▸ (laidMet.reads hL (n := "unicode/utf8.first") (d := Rows.laid_unicode_utf8_first) (by simp [Rows.syntaxParsesUptoRow]))) (show VarReads Tryz.prog W "unicode/utf8.acceptRanges" acceptData from (show Rows.laid_unicode_utf8_acceptRanges = acceptData by kernel_rfl) ▸ (laidMet.reads hL (n := "unicode/utf8.acceptRanges") (d := Rows.laid_unicode_utf8_acceptRanges) (by simp [Rows.syntaxParsesUptoRow]))), tab_reads (g := 5) (by kernel_rfl) (by kernel_rfl) Tryz.underlying190 Tryz.underlying170 (by kernel_rfl) (by kernel_rfl) (show VarReads Tryz.prog W "internal/strconv.uint64pow10" (tabData .u64 pow10Tab) from (show Rows.laid_internal_strconv_uint64pow10 = tabData .u64 pow10Tab by kernel_rfl) ▸ (laidMet.reads hL (n := "internal/strconv.uint64pow10") (d := Rows.laid_internal_strconv_uint64pow10) (by simp [Rows.syntaxParsesUptoRow]))), tab_reads (g := 7) (by kernel_rfl) (by kernel_rfl) Tryz.underlying196 Tryz.underlying5 (by kernel_rfl) (by kernel_rfl) (show VarReads Tryz.prog W "math/bits.deBruijn64tab" (tabData .u8 db64I) from (show Rows.laid_math_bits_deBruijn64tab = tabData .u8 db64I by kernel_rfl) ▸ (laidMet.reads hL (n := "math/bits.deBruijn64tab") (d := Rows.laid_math_bits_deBruijn64tab) (by simp [Rows.syntaxParsesUptoRow]))), iface_reads (g := 3) (by kernel_rfl) (by kernel_rfl) Tryz.underlying105 (laidMet.reads hL (n := "strconv.ErrSyntax") (d := Rows.laid_strconv_ErrSyntax) (by simp [Rows.syntaxParsesUptoRow])), iface_reads (g := 4) (by kernel_rfl) (by kernel_rfl) Tryz.underlying105 (laidMet.reads hL (n := "strconv.ErrRange") (d := Rows.laid_strconv_ErrRange) (by simp [Rows.syntaxParsesUptoRow]))⟩⟩
  simp only [GG, List.mem_cons, List.not_mem_nil, or_false] at hb
  rcases hb with rfl | rfl | rfl | rfl | rfl | rfl
  · exact reads_sz (g := 0) (by kernel_rfl) (laidMet.reads hL (n := "unicode/utf8.first") (d := Rows.laid_unicode_utf8_first) (by simp [Rows.syntaxParsesUptoRow]))
  · exact reads_sz (g := 1) (by kernel_rfl) (laidMet.reads hL (n := "unicode/utf8.acceptRanges") (d := Rows.laid_unicode_utf8_acceptRanges) (by simp [Rows.syntaxParsesUptoRow]))
  · exact reads_sz (g := 5) (by kernel_rfl) (laidMet.reads hL (n := "internal/strconv.uint64pow10") (d := Rows.laid_internal_strconv_uint64pow10) (by simp [Rows.syntaxParsesUptoRow]))
  · exact reads_sz (g := 7) (by kernel_rfl) (laidMet.reads hL (n := "math/bits.deBruijn64tab") (d := Rows.laid_math_bits_deBruijn64tab) (by simp [Rows.syntaxParsesUptoRow]))
  · exact reads_sz (g := 3) (by kernel_rfl) (laidMet.reads hL (n := "strconv.ErrSyntax") (d := Rows.laid_strconv_ErrSyntax) (by simp [Rows.syntaxParsesUptoRow]))
  · exact reads_sz (g := 4) (by kernel_rfl) (laidMet.reads hL (n := "strconv.ErrRange") (d := Rows.laid_strconv_ErrRange) (by simp [Rows.syntaxParsesUptoRow]))
set_option maxHeartbeats 2000000 in
theorem contract (H : Type) (enc : TypeId × Value → H) (W : World) (base : Nat) (args : Array Value) (ds gs : List (DataW H)) (before : List MemPlace)
    (hval : ∀ (j : Nat) t v, Tryz.f4.params[j]? = some t → args[j]? = some v → Value.okWide Tryz.prog W .any base t v)
    (hW : DataW.Whole enc Tryz.prog Tryz.f4.params.toList Rows.syntaxParsesSpec.vars false W args.toList ds gs before) (hL : laidMet Tryz.prog Rows.syntaxParsesUptoRow.laid W) (hk : Rows.uptoSmall H (ds ++ gs) = true) :
    Calls Tryz.prog 4 args W fun e W' => ∃ v, e = .returned v ∧ Rows.syntaxParsesSpec.post enc Tryz.prog Tryz.f4 false true false false W args v W' := by
  have hW' := hW
  obtain ⟨p, q, hA0, hV, rfl, hfz, hnd⟩ := hW
  have hA : DataW.TrodAll enc Tryz.prog W 0 (fun _ => true) true Tryz.f4.params.toList args.toList ds p := hA0
  rw [Tryz.params4] at hA hval
  obtain ⟨v0, vs0, d0, ds0, p0, q0, hargs, rfl, rfl, h0, r0⟩ := trodAll_cons hA
  obtain ⟨v1, vs1, d1, ds1, p1, q1, rfl, rfl, rfl, h1, r1⟩ := trodAll_cons r0
  obtain ⟨rfl, rfl, rfl⟩ := trodAll_nil r1
  obtain rfl : args = #[v0, v1] := by cases args; simp_all
  obtain ⟨rfl, rfl⟩ := trodVars_none hV
  have lt0 : ∀ x ∈ p0, x.block < W.heap.size := by obtain ⟨m, hm⟩ := h0; exact DataW.trod_lt m _ _ _ hm
  obtain ⟨x0, R0, b0, o0⟩ := Opens.arg (opens_sl Tryz.underlying22 (by kernel_rfl) (by decide) T_api_Node.opens) h0
  obtain ⟨A0, c0, E0, l0, w0⟩ := R0
  have e0 := arg_slice Tryz.underlying22 (hval 0 22 v0 rfl rfl) E0
  subst e0
  have lt1 : ∀ x ∈ p1, x.block < W.heap.size := by obtain ⟨m, hm⟩ := h1; exact DataW.trod_lt m _ _ _ hm
  obtain ⟨x1, R1, b1, o1⟩ := Opens.arg (opens_str Tryz.underlying9) h1
  have e1 := arg_str Tryz.underlying9 (hval 1 9 v1 rfl rfl) R1
  subst e1
  have hb : (bulkL T_api_Node.bulk) x0 + bulkS x1 ≤ 1048576 := by
    have hz : decide (Rows.uptoBulkAll ([d0, d1] ++ []) ≤ 1048576) = true := hk
    have hz := of_decide_eq_true hz
    simp only [List.cons_append, List.nil_append, Rows.uptoBulkAll] at hz
    omega
  obtain ⟨k, hp⟩ := SyntaxParses_pure x0 x1 hb o0 o1
  refine (dictumlaw04_SyntaxParses.calls k (fun _ => 0) W A0 c0 hp (fun b _ => by decide) w0 l0 (gl hL)).mono ?_
  rintro e W' ⟨o', rfl, st⟩
  have bel := below_of st
  exact ⟨_, rfl, _, _, _, [], _, [], hW', trodAll_mk1 (shut_bool Tryz.underlying4 _), (trodAll_cons_mk (Below.trod laidOut (by kernel_rfl) (of_decide_eq_true (by kernel_rfl)) h0 bel lt0) (trodAll_cons_mk (Below.trod laidOut (by kernel_rfl) (of_decide_eq_true (by kernel_rfl)) h1 bel lt1) trodAll_mk0)), rfl, bel.frame _, fun h => by cases h⟩
set_option maxHeartbeats 2000000 in
theorem lifted (os : Os) (started : os.Started) (H : Type) (enc : TypeId × Value → H) (F : Stop.Interp) :
    ReturnsInHanded {} Tryz.checked os 4 .any ((Rows.OpenSpec.upto Rows.syntaxParsesSpec).preRow enc Tryz.prog Tryz.f4 Rows.syntaxParsesUptoRow.domain false Rows.syntaxParsesUptoRow.laid) (((Rows.OpenSpec.upto Rows.syntaxParsesSpec).at F).post enc Tryz.prog Tryz.f4 false true false false) := by
  refine returnsInHanded_of_row (C := Tryz.checked) (s := Rows.OpenSpec.upto Rows.syntaxParsesSpec) own started (by kernel_rfl) Tryz.func4
    (witness_row_atRef (enc := enc) (C := Tryz.checked) false (laidWorld os) #[.slice none 0 0, .string ByteArray.empty] rfl (by kernel_rfl) (by kernel_rfl) (by kernel_rfl) (witness_row os enc)) ?_
  intro W base args ds gs before hval hW _ hcond _ hL _ _
  exact contract H enc W base args ds gs before hval hW hL (hcond _ rfl)
theorem saidUpto : Rows.SyntaxParsesUptoSaid :=
  OpenClaim.holds_of_cond 4 Tryz.f4 rfl rfl rfl rfl rfl rfl rfl ⟨rfl, rfl, rfl, rfl, rfl⟩ rfl rfl rfl rfl rfl (by kernel_rfl) Tryz.func4 (by kernel_rfl)
    (of_decide_eq_true (by kernel_rfl)) (by unfold Func.isWrapper; first | (rw [if_pos (by decide +kernel)]; kernel_rfl) | (rw [if_neg (by decide +kernel)]; exact ⟨rfl, rfl⟩))
    (fun os started H enc _ F => by rw [OpenClaim.pre_eq_preRow]; exact lifted os started H enc F)
theorem plain (f : FuncId) (fn : Func) (hf : Tryz.pinned.checked.prog.funcNamed "dictum/dictumlaw04.SyntaxParses" = some f) (hfn : Tryz.pinned.checked.prog.funcs[f]? = some fn) :
    true = Tryz.pinned.checked.prog.looks [] ∧ ∀ (j : Nat) t, fn.params[j]? = some t → Tryz.pinned.checked.prog.wantsStandIn t = false := by
  obtain rfl : f = 4 := Option.some.inj ((show Tryz.prog.funcNamed "dictum/dictumlaw04.SyntaxParses" = some 4 by kernel_rfl).symm.trans hf) |>.symm
  obtain rfl : fn = Tryz.f4 := (Option.some.inj (Tryz.func4.symm.trans hfn)).symm
  refine ⟨by kernel_rfl, fun j t ht => ?_⟩
  rw [Tryz.params4] at ht
  have hm := Array.mem_of_getElem? ht
  simp only [List.mem_toArray, List.mem_cons, List.not_mem_nil, or_false] at hm
  rcases hm with rfl | rfl
  · exact (show Tryz.prog.wantsStandIn 22 = false by kernel_rfl)
  · exact (show Tryz.prog.wantsStandIn 9 = false by kernel_rfl)
theorem cardUpto : Rows.SyntaxParsesUptoCardSaid :=
  Claim7.holds_tied_plain_at .later [] _ _ _ _ saidUpto (fun _ h => by cases h) (by kernel_rfl) (fun _ h => by cases h) syntaxParsesUpto_row_tie rfl ⟨rfl, rfl⟩ (by kernel_rfl) rfl plain (by kernel_rfl)
end Go.Proofs.YtpmkkhkphddfeaaGreatDoor.CSyntaxParses
namespace Go.Proofs.YtpmkkhkphddfeaaGreatDoor
/-- For every input of bulk at most 1048576 the Go function dictum/dictumlaw04.SyntaxParses of the given program returns true, and each argument reads behind the call as it read before. Conditions: the listed package-level variables hold what the program's text lays (tied by the card). -/
theorem syntaxParses_holds : Rows.SyntaxParsesUptoCardSaid := CSyntaxParses.cardUpto
#print axioms syntaxParses_holds
end Go.Proofs.YtpmkkhkphddfeaaGreatDoor
