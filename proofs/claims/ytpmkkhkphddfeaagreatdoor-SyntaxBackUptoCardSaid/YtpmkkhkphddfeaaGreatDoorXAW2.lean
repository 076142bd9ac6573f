import Derived.Test.YtpmkkhkphddfeaaGreatDoorXAW1
set_option maxRecDepth 20000
set_option linter.unusedVariables false
set_option linter.unusedSimpArgs false
set_option linter.unnecessarySimpa false
namespace Go.Proofs.YtpmkkhkphddfeaaGreatDoor.X
open Go Go.RowKit Go.Proofs.YtpmkkhkphddfeaaGreatDoor.SX
def syntax_reader_formula.Spec (g_ : T_syntax_reader → T_formula_Table → (List (T_api_Node × Int)) → Option (Exn (T_syntax_broken × T_syntax_reader × T_formula_Table × (List (T_api_Node × Int))) (Int × T_syntax_reader × T_formula_Table × (List (T_api_Node × Int))))) : Prop := ∀ (o0 : Tags) (w0 : World) (pb0 : Nat) (pA0_1 : Option Addr) (pc0_1 : Nat) (pb0_0 : Nat) (pv0_0_0 : Value) (pb0_0_1 : Nat) {a0 : T_syntax_reader} {a0_0 : T_formula_Table} {a0_0_1 : (List (T_api_Node × Int))} {r : Exn (T_syntax_broken × T_syntax_reader × T_formula_Table × (List (T_api_Node × Int))) (Int × T_syntax_reader × T_formula_Table × (List (T_api_Node × Int)))} (H : g_ a0 a0_0 a0_0_1 = some r) (hO : ∀ b, b < w0.heap.size → o0 b < 40) (hB0 : Bk o0 w0 2 pb0 [pp pb0_0 0, .slice pA0_1 a0.f_l.length pc0_1, ii a0.f_i, ii a0.f_names, ii a0.f_nest, .bool a0.f_counts, .bool a0.f_full] 80) (hra0_1 : Row T_api_Token.rep (fun b_ => o0 b_ = 0) (fun b_ => o0 b_ = 0) w0 pA0_1 a0.f_l) (hla0_1 : a0.f_l.length ≤ pc0_1) (hB0_0 : Bk o0 w0 3 pb0_0 [pv0_0_0, .map (some pb0_0_1)] 56) (hO0_0_0 : Own T_api_Node.rep 60 4 o0 w0 pv0_0_0 a0_0.f_rows) (hM0_0_1 : Mp (fun x_ : T_api_Node => Value.agg #[ii x_.f_Kind, encS x_.f_Name, ii x_.f_L, ii x_.f_R]) (fun v_ : Int => ii v_) 5 o0 w0 pb0_0_1 a0_0_1),
  Calls Tryz.prog 32 [pp pb0 0].toArray w0 fun e_ w_ => ∃ (o_ : Tags), ((∃ p_, r = .ex p_ ∧ ∃ (B_0_1 : Option Addr) (d_0_1 : Nat) (u1_0 : Value), e_ = .panicked (pc (.iface 111 (.agg #[ii p_.1.f_f.f_Code, ii p_.1.f_f.f_At.f_Line, ii p_.1.f_f.f_At.f_Col, ii p_.1.f_f.f_At.f_Off]))) ∧ Step o0 w0 o_ w_ [2, 3, 4, 5] ∧ Bk o_ w_ 2 pb0 [pp pb0_0 0, .slice B_0_1 p_.2.1.f_l.length d_0_1, ii p_.2.1.f_i, ii p_.2.1.f_names, ii p_.2.1.f_nest, .bool p_.2.1.f_counts, .bool p_.2.1.f_full] 80 ∧ p_.2.1.f_l.length ≤ d_0_1 ∧ Row T_api_Token.rep (fun b_ => o_ b_ = 0) (fun b_ => o_ b_ = 0) w_ B_0_1 p_.2.1.f_l ∧ Bk o_ w_ 3 pb0_0 [u1_0, .map (some pb0_0_1)] 56 ∧ Own T_api_Node.rep 60 4 o_ w_ u1_0 p_.2.2.1.f_rows ∧ Mp (fun x_ : T_api_Node => Value.agg #[ii x_.f_Kind, encS x_.f_Name, ii x_.f_L, ii x_.f_R]) (fun v_ : Int => ii v_) 5 o_ w_ pb0_0_1 p_.2.2.2) ∨ ∃ q_, r = .ok q_ ∧ ∃ (B_0_1 : Option Addr) (d_0_1 : Nat) (u1_0 : Value), e_ = .returned (one [ii q_.1]) ∧ Step o0 w0 o_ w_ [2, 3, 4, 5] ∧ Bk o_ w_ 2 pb0 [pp pb0_0 0, .slice B_0_1 q_.2.1.f_l.length d_0_1, ii q_.2.1.f_i, ii q_.2.1.f_names, ii q_.2.1.f_nest, .bool q_.2.1.f_counts, .bool q_.2.1.f_full] 80 ∧ q_.2.1.f_l.length ≤ d_0_1 ∧ Row T_api_Token.rep (fun b_ => o_ b_ = 0) (fun b_ => o_ b_ = 0) w_ B_0_1 q_.2.1.f_l ∧ Bk o_ w_ 3 pb0_0 [u1_0, .map (some pb0_0_1)] 56 ∧ Own T_api_Node.rep 60 4 o_ w_ u1_0 q_.2.2.1.f_rows ∧ Mp (fun x_ : T_api_Node => Value.agg #[ii x_.f_Kind, encS x_.f_Name, ii x_.f_L, ii x_.f_R]) (fun v_ : Int => ii v_) 5 o_ w_ pb0_0_1 q_.2.2.2)
def syntax_reader_single.Spec (g_ : T_syntax_reader → T_formula_Table → (List (T_api_Node × Int)) → Option (Exn (T_syntax_broken × T_syntax_reader × T_formula_Table × (List (T_api_Node × Int))) (Int × T_syntax_reader × T_formula_Table × (List (T_api_Node × Int))))) : Prop := ∀ (o0 : Tags) (w0 : World) (pb0 : Nat) (pA0_1 : Option Addr) (pc0_1 : Nat) (pb0_0 : Nat) (pv0_0_0 : Value) (pb0_0_1 : Nat) {a0 : T_syntax_reader} {a0_0 : T_formula_Table} {a0_0_1 : (List (T_api_Node × Int))} {r : Exn (T_syntax_broken × T_syntax_reader × T_formula_Table × (List (T_api_Node × Int))) (Int × T_syntax_reader × T_formula_Table × (List (T_api_Node × Int)))} (H : g_ a0 a0_0 a0_0_1 = some r) (hO : ∀ b, b < w0.heap.size → o0 b < 40) (hB0 : Bk o0 w0 2 pb0 [pp pb0_0 0, .slice pA0_1 a0.f_l.length pc0_1, ii a0.f_i, ii a0.f_names, ii a0.f_nest, .bool a0.f_counts, .bool a0.f_full] 80) (hra0_1 : Row T_api_Token.rep (fun b_ => o0 b_ = 0) (fun b_ => o0 b_ = 0) w0 pA0_1 a0.f_l) (hla0_1 : a0.f_l.length ≤ pc0_1) (hB0_0 : Bk o0 w0 3 pb0_0 [pv0_0_0, .map (some pb0_0_1)] 56) (hO0_0_0 : Own T_api_Node.rep 60 4 o0 w0 pv0_0_0 a0_0.f_rows) (hM0_0_1 : Mp (fun x_ : T_api_Node => Value.agg #[ii x_.f_Kind, encS x_.f_Name, ii x_.f_L, ii x_.f_R]) (fun v_ : Int => ii v_) 5 o0 w0 pb0_0_1 a0_0_1),
  Calls Tryz.prog 100 [pp pb0 0].toArray w0 fun e_ w_ => ∃ (o_ : Tags), ((∃ p_, r = .ex p_ ∧ ∃ (B_0_1 : Option Addr) (d_0_1 : Nat) (u1_0 : Value), e_ = .panicked (pc (.iface 111 (.agg #[ii p_.1.f_f.f_Code, ii p_.1.f_f.f_At.f_Line, ii p_.1.f_f.f_At.f_Col, ii p_.1.f_f.f_At.f_Off]))) ∧ Step o0 w0 o_ w_ [2, 3, 4, 5] ∧ Bk o_ w_ 2 pb0 [pp pb0_0 0, .slice B_0_1 p_.2.1.f_l.length d_0_1, ii p_.2.1.f_i, ii p_.2.1.f_names, ii p_.2.1.f_nest, .bool p_.2.1.f_counts, .bool p_.2.1.f_full] 80 ∧ p_.2.1.f_l.length ≤ d_0_1 ∧ Row T_api_Token.rep (fun b_ => o_ b_ = 0) (fun b_ => o_ b_ = 0) w_ B_0_1 p_.2.1.f_l ∧ Bk o_ w_ 3 pb0_0 [u1_0, .map (some pb0_0_1)] 56 ∧ Own T_api_Node.rep 60 4 o_ w_ u1_0 p_.2.2.1.f_rows ∧ Mp (fun x_ : T_api_Node => Value.agg #[ii x_.f_Kind, encS x_.f_Name, ii x_.f_L, ii x_.f_R]) (fun v_ : Int => ii v_) 5 o_ w_ pb0_0_1 p_.2.2.2) ∨ ∃ q_, r = .ok q_ ∧ ∃ (B_0_1 : Option Addr) (d_0_1 : Nat) (u1_0 : Value), e_ = .returned (one [ii q_.1]) ∧ Step o0 w0 o_ w_ [2, 3, 4, 5] ∧ Bk o_ w_ 2 pb0 [pp pb0_0 0, .slice B_0_1 q_.2.1.f_l.length d_0_1, ii q_.2.1.f_i, ii q_.2.1.f_names, ii q_.2.1.f_nest, .bool q_.2.1.f_counts, .bool q_.2.1.f_full] 80 ∧ q_.2.1.f_l.length ≤ d_0_1 ∧ Row T_api_Token.rep (fun b_ => o_ b_ = 0) (fun b_ => o_ b_ = 0) w_ B_0_1 q_.2.1.f_l ∧ Bk o_ w_ 3 pb0_0 [u1_0, .map (some pb0_0_1)] 56 ∧ Own T_api_Node.rep 60 4 o_ w_ u1_0 q_.2.2.1.f_rows ∧ Mp (fun x_ : T_api_Node => Value.agg #[ii x_.f_Kind, encS x_.f_Name, ii x_.f_L, ii x_.f_R]) (fun v_ : Int => ii v_) 5 o_ w_ pb0_0_1 q_.2.2.2)
def syntax_reader_row_syntax_reader_single.Spec (g_ : T_syntax_reader → (List UInt8) → Int → T_formula_Table → (List (T_api_Node × Int)) → Option (Exn (T_syntax_broken × T_syntax_reader × T_formula_Table × (List (T_api_Node × Int))) (Int × T_syntax_reader × T_formula_Table × (List (T_api_Node × Int))))) : Prop := ∀ (o0 : Tags) (w0 : World) (pb0 : Nat) (pA0_1 : Option Addr) (pc0_1 : Nat) (pb0_0 : Nat) (pv0_0_0 : Value) (pb0_0_1 : Nat) {a0 : T_syntax_reader} {a1 : List UInt8} {a3 : Int} {a0_0 : T_formula_Table} {a0_0_1 : (List (T_api_Node × Int))} {r : Exn (T_syntax_broken × T_syntax_reader × T_formula_Table × (List (T_api_Node × Int))) (Int × T_syntax_reader × T_formula_Table × (List (T_api_Node × Int)))} (H : g_ a0 a1 a3 a0_0 a0_0_1 = some r) (hO : ∀ b, b < w0.heap.size → o0 b < 40) (hB0 : Bk o0 w0 2 pb0 [pp pb0_0 0, .slice pA0_1 a0.f_l.length pc0_1, ii a0.f_i, ii a0.f_names, ii a0.f_nest, .bool a0.f_counts, .bool a0.f_full] 80) (hra0_1 : Row T_api_Token.rep (fun b_ => o0 b_ = 0) (fun b_ => o0 b_ = 0) w0 pA0_1 a0.f_l) (hla0_1 : a0.f_l.length ≤ pc0_1) (hB0_0 : Bk o0 w0 3 pb0_0 [pv0_0_0, .map (some pb0_0_1)] 56) (hO0_0_0 : Own T_api_Node.rep 60 4 o0 w0 pv0_0_0 a0_0.f_rows) (hM0_0_1 : Mp (fun x_ : T_api_Node => Value.agg #[ii x_.f_Kind, encS x_.f_Name, ii x_.f_L, ii x_.f_R]) (fun v_ : Int => ii v_) 5 o0 w0 pb0_0_1 a0_0_1),
  Calls Tryz.prog 79 [pp pb0 0, encS a1, .func (.func 100) #[pp pb0 0] #[], ii a3].toArray w0 fun e_ w_ => ∃ (o_ : Tags), ((∃ p_, r = .ex p_ ∧ ∃ (B_0_1 : Option Addr) (d_0_1 : Nat) (u4_0 : Value), e_ = .panicked (pc (.iface 111 (.agg #[ii p_.1.f_f.f_Code, ii p_.1.f_f.f_At.f_Line, ii p_.1.f_f.f_At.f_Col, ii p_.1.f_f.f_At.f_Off]))) ∧ Step o0 w0 o_ w_ [2, 3, 4, 5] ∧ Bk o_ w_ 2 pb0 [pp pb0_0 0, .slice B_0_1 p_.2.1.f_l.length d_0_1, ii p_.2.1.f_i, ii p_.2.1.f_names, ii p_.2.1.f_nest, .bool p_.2.1.f_counts, .bool p_.2.1.f_full] 80 ∧ p_.2.1.f_l.length ≤ d_0_1 ∧ Row T_api_Token.rep (fun b_ => o_ b_ = 0) (fun b_ => o_ b_ = 0) w_ B_0_1 p_.2.1.f_l ∧ Bk o_ w_ 3 pb0_0 [u4_0, .map (some pb0_0_1)] 56 ∧ Own T_api_Node.rep 60 4 o_ w_ u4_0 p_.2.2.1.f_rows ∧ Mp (fun x_ : T_api_Node => Value.agg #[ii x_.f_Kind, encS x_.f_Name, ii x_.f_L, ii x_.f_R]) (fun v_ : Int => ii v_) 5 o_ w_ pb0_0_1 p_.2.2.2) ∨ ∃ q_, r = .ok q_ ∧ ∃ (B_0_1 : Option Addr) (d_0_1 : Nat) (u4_0 : Value), e_ = .returned (one [ii q_.1]) ∧ Step o0 w0 o_ w_ [2, 3, 4, 5] ∧ Bk o_ w_ 2 pb0 [pp pb0_0 0, .slice B_0_1 q_.2.1.f_l.length d_0_1, ii q_.2.1.f_i, ii q_.2.1.f_names, ii q_.2.1.f_nest, .bool q_.2.1.f_counts, .bool q_.2.1.f_full] 80 ∧ q_.2.1.f_l.length ≤ d_0_1 ∧ Row T_api_Token.rep (fun b_ => o_ b_ = 0) (fun b_ => o_ b_ = 0) w_ B_0_1 q_.2.1.f_l ∧ Bk o_ w_ 3 pb0_0 [u4_0, .map (some pb0_0_1)] 56 ∧ Own T_api_Node.rep 60 4 o_ w_ u4_0 q_.2.2.1.f_rows ∧ Mp (fun x_ : T_api_Node => Value.agg #[ii x_.f_Kind, encS x_.f_Name, ii x_.f_L, ii x_.f_R]) (fun v_ : Int => ii v_) 5 o_ w_ pb0_0_1 q_.2.2.2)
def syntax_reader_both.Spec (g_ : T_syntax_reader → T_formula_Table → (List (T_api_Node × Int)) → Option (Exn (T_syntax_broken × T_syntax_reader × T_formula_Table × (List (T_api_Node × Int))) (Int × T_syntax_reader × T_formula_Table × (List (T_api_Node × Int))))) : Prop := ∀ (o0 : Tags) (w0 : World) (pb0 : Nat) (pA0_1 : Option Addr) (pc0_1 : Nat) (pb0_0 : Nat) (pv0_0_0 : Value) (pb0_0_1 : Nat) {a0 : T_syntax_reader} {a0_0 : T_formula_Table} {a0_0_1 : (List (T_api_Node × Int))} {r : Exn (T_syntax_broken × T_syntax_reader × T_formula_Table × (List (T_api_Node × Int))) (Int × T_syntax_reader × T_formula_Table × (List (T_api_Node × Int)))} (H : g_ a0 a0_0 a0_0_1 = some r) (hO : ∀ b, b < w0.heap.size → o0 b < 40) (hB0 : Bk o0 w0 2 pb0 [pp pb0_0 0, .slice pA0_1 a0.f_l.length pc0_1, ii a0.f_i, ii a0.f_names, ii a0.f_nest, .bool a0.f_counts, .bool a0.f_full] 80) (hra0_1 : Row T_api_Token.rep (fun b_ => o0 b_ = 0) (fun b_ => o0 b_ = 0) w0 pA0_1 a0.f_l) (hla0_1 : a0.f_l.length ≤ pc0_1) (hB0_0 : Bk o0 w0 3 pb0_0 [pv0_0_0, .map (some pb0_0_1)] 56) (hO0_0_0 : Own T_api_Node.rep 60 4 o0 w0 pv0_0_0 a0_0.f_rows) (hM0_0_1 : Mp (fun x_ : T_api_Node => Value.agg #[ii x_.f_Kind, encS x_.f_Name, ii x_.f_L, ii x_.f_R]) (fun v_ : Int => ii v_) 5 o0 w0 pb0_0_1 a0_0_1),
  Calls Tryz.prog 80 [pp pb0 0].toArray w0 fun e_ w_ => ∃ (o_ : Tags), ((∃ p_, r = .ex p_ ∧ ∃ (B_0_1 : Option Addr) (d_0_1 : Nat) (u1_0 : Value), e_ = .panicked (pc (.iface 111 (.agg #[ii p_.1.f_f.f_Code, ii p_.1.f_f.f_At.f_Line, ii p_.1.f_f.f_At.f_Col, ii p_.1.f_f.f_At.f_Off]))) ∧ Step o0 w0 o_ w_ [2, 3, 4, 5] ∧ Bk o_ w_ 2 pb0 [pp pb0_0 0, .slice B_0_1 p_.2.1.f_l.length d_0_1, ii p_.2.1.f_i, ii p_.2.1.f_names, ii p_.2.1.f_nest, .bool p_.2.1.f_counts, .bool p_.2.1.f_full] 80 ∧ p_.2.1.f_l.length ≤ d_0_1 ∧ Row T_api_Token.rep (fun b_ => o_ b_ = 0) (fun b_ => o_ b_ = 0) w_ B_0_1 p_.2.1.f_l ∧ Bk o_ w_ 3 pb0_0 [u1_0, .map (some pb0_0_1)] 56 ∧ Own T_api_Node.rep 60 4 o_ w_ u1_0 p_.2.2.1.f_rows ∧ Mp (fun x_ : T_api_Node => Value.agg #[ii x_.f_Kind, encS x_.f_Name, ii x_.f_L, ii x_.f_R]) (fun v_ : Int => ii v_) 5 o_ w_ pb0_0_1 p_.2.2.2) ∨ ∃ q_, r = .ok q_ ∧ ∃ (B_0_1 : Option Addr) (d_0_1 : Nat) (u1_0 : Value), e_ = .returned (one [ii q_.1]) ∧ Step o0 w0 o_ w_ [2, 3, 4, 5] ∧ Bk o_ w_ 2 pb0 [pp pb0_0 0, .slice B_0_1 q_.2.1.f_l.length d_0_1, ii q_.2.1.f_i, ii q_.2.1.f_names, ii q_.2.1.f_nest, .bool q_.2.1.f_counts, .bool q_.2.1.f_full] 80 ∧ q_.2.1.f_l.length ≤ d_0_1 ∧ Row T_api_Token.rep (fun b_ => o_ b_ = 0) (fun b_ => o_ b_ = 0) w_ B_0_1 q_.2.1.f_l ∧ Bk o_ w_ 3 pb0_0 [u1_0, .map (some pb0_0_1)] 56 ∧ Own T_api_Node.rep 60 4 o_ w_ u1_0 q_.2.2.1.f_rows ∧ Mp (fun x_ : T_api_Node => Value.agg #[ii x_.f_Kind, encS x_.f_Name, ii x_.f_L, ii x_.f_R]) (fun v_ : Int => ii v_) 5 o_ w_ pb0_0_1 q_.2.2.2)
def syntax_reader_row_syntax_reader_both.Spec (g_ : T_syntax_reader → (List UInt8) → Int → T_formula_Table → (List (T_api_Node × Int)) → Option (Exn (T_syntax_broken × T_syntax_reader × T_formula_Table × (List (T_api_Node × Int))) (Int × T_syntax_reader × T_formula_Table × (List (T_api_Node × Int))))) : Prop := ∀ (o0 : Tags) (w0 : World) (pb0 : Nat) (pA0_1 : Option Addr) (pc0_1 : Nat) (pb0_0 : Nat) (pv0_0_0 : Value) (pb0_0_1 : Nat) {a0 : T_syntax_reader} {a1 : List UInt8} {a3 : Int} {a0_0 : T_formula_Table} {a0_0_1 : (List (T_api_Node × Int))} {r : Exn (T_syntax_broken × T_syntax_reader × T_formula_Table × (List (T_api_Node × Int))) (Int × T_syntax_reader × T_formula_Table × (List (T_api_Node × Int)))} (H : g_ a0 a1 a3 a0_0 a0_0_1 = some r) (hO : ∀ b, b < w0.heap.size → o0 b < 40) (hB0 : Bk o0 w0 2 pb0 [pp pb0_0 0, .slice pA0_1 a0.f_l.length pc0_1, ii a0.f_i, ii a0.f_names, ii a0.f_nest, .bool a0.f_counts, .bool a0.f_full] 80) (hra0_1 : Row T_api_Token.rep (fun b_ => o0 b_ = 0) (fun b_ => o0 b_ = 0) w0 pA0_1 a0.f_l) (hla0_1 : a0.f_l.length ≤ pc0_1) (hB0_0 : Bk o0 w0 3 pb0_0 [pv0_0_0, .map (some pb0_0_1)] 56) (hO0_0_0 : Own T_api_Node.rep 60 4 o0 w0 pv0_0_0 a0_0.f_rows) (hM0_0_1 : Mp (fun x_ : T_api_Node => Value.agg #[ii x_.f_Kind, encS x_.f_Name, ii x_.f_L, ii x_.f_R]) (fun v_ : Int => ii v_) 5 o0 w0 pb0_0_1 a0_0_1),
  Calls Tryz.prog 79 [pp pb0 0, encS a1, .func (.func 80) #[pp pb0 0] #[], ii a3].toArray w0 fun e_ w_ => ∃ (o_ : Tags), ((∃ p_, r = .ex p_ ∧ ∃ (B_0_1 : Option Addr) (d_0_1 : Nat) (u4_0 : Value), e_ = .panicked (pc (.iface 111 (.agg #[ii p_.1.f_f.f_Code, ii p_.1.f_f.f_At.f_Line, ii p_.1.f_f.f_At.f_Col, ii p_.1.f_f.f_At.f_Off]))) ∧ Step o0 w0 o_ w_ [2, 3, 4, 5] ∧ Bk o_ w_ 2 pb0 [pp pb0_0 0, .slice B_0_1 p_.2.1.f_l.length d_0_1, ii p_.2.1.f_i, ii p_.2.1.f_names, ii p_.2.1.f_nest, .bool p_.2.1.f_counts, .bool p_.2.1.f_full] 80 ∧ p_.2.1.f_l.length ≤ d_0_1 ∧ Row T_api_Token.rep (fun b_ => o_ b_ = 0) (fun b_ => o_ b_ = 0) w_ B_0_1 p_.2.1.f_l ∧ Bk o_ w_ 3 pb0_0 [u4_0, .map (some pb0_0_1)] 56 ∧ Own T_api_Node.rep 60 4 o_ w_ u4_0 p_.2.2.1.f_rows ∧ Mp (fun x_ : T_api_Node => Value.agg #[ii x_.f_Kind, encS x_.f_Name, ii x_.f_L, ii x_.f_R]) (fun v_ : Int => ii v_) 5 o_ w_ pb0_0_1 p_.2.2.2) ∨ ∃ q_, r = .ok q_ ∧ ∃ (B_0_1 : Option Addr) (d_0_1 : Nat) (u4_0 : Value), e_ = .returned (one [ii q_.1]) ∧ Step o0 w0 o_ w_ [2, 3, 4, 5] ∧ Bk o_ w_ 2 pb0 [pp pb0_0 0, .slice B_0_1 q_.2.1.f_l.length d_0_1, ii q_.2.1.f_i, ii q_.2.1.f_names, ii q_.2.1.f_nest, .bool q_.2.1.f_counts, .bool q_.2.1.f_full] 80 ∧ q_.2.1.f_l.length ≤ d_0_1 ∧ Row T_api_Token.rep (fun b_ => o_ b_ = 0) (fun b_ => o_ b_ = 0) w_ B_0_1 q_.2.1.f_l ∧ Bk o_ w_ 3 pb0_0 [u4_0, .map (some pb0_0_1)] 56 ∧ Own T_api_Node.rep 60 4 o_ w_ u4_0 q_.2.2.1.f_rows ∧ Mp (fun x_ : T_api_Node => Value.agg #[ii x_.f_Kind, encS x_.f_Name, ii x_.f_L, ii x_.f_R]) (fun v_ : Int => ii v_) 5 o_ w_ pb0_0_1 q_.2.2.2)
def syntax_reader_implied.Spec (g_ : T_syntax_reader → T_formula_Table → (List (T_api_Node × Int)) → Option (Exn (T_syntax_broken × T_syntax_reader × T_formula_Table × (List (T_api_Node × Int))) (Int × T_syntax_reader × T_formula_Table × (List (T_api_Node × Int))))) : Prop := ∀ (o0 : Tags) (w0 : World) (pb0 : Nat) (pA0_1 : Option Addr) (pc0_1 : Nat) (pb0_0 : Nat) (pv0_0_0 : Value) (pb0_0_1 : Nat) {a0 : T_syntax_reader} {a0_0 : T_formula_Table} {a0_0_1 : (List (T_api_Node × Int))} {r : Exn (T_syntax_broken × T_syntax_reader × T_formula_Table × (List (T_api_Node × Int))) (Int × T_syntax_reader × T_formula_Table × (List (T_api_Node × Int)))} (H : g_ a0 a0_0 a0_0_1 = some r) (hO : ∀ b, b < w0.heap.size → o0 b < 40) (hB0 : Bk o0 w0 2 pb0 [pp pb0_0 0, .slice pA0_1 a0.f_l.length pc0_1, ii a0.f_i, ii a0.f_names, ii a0.f_nest, .bool a0.f_counts, .bool a0.f_full] 80) (hra0_1 : Row T_api_Token.rep (fun b_ => o0 b_ = 0) (fun b_ => o0 b_ = 0) w0 pA0_1 a0.f_l) (hla0_1 : a0.f_l.length ≤ pc0_1) (hB0_0 : Bk o0 w0 3 pb0_0 [pv0_0_0, .map (some pb0_0_1)] 56) (hO0_0_0 : Own T_api_Node.rep 60 4 o0 w0 pv0_0_0 a0_0.f_rows) (hM0_0_1 : Mp (fun x_ : T_api_Node => Value.agg #[ii x_.f_Kind, encS x_.f_Name, ii x_.f_L, ii x_.f_R]) (fun v_ : Int => ii v_) 5 o0 w0 pb0_0_1 a0_0_1),
  Calls Tryz.prog 57 [pp pb0 0].toArray w0 fun e_ w_ => ∃ (o_ : Tags), ((∃ p_, r = .ex p_ ∧ ∃ (B_0_1 : Option Addr) (d_0_1 : Nat) (u1_0 : Value), e_ = .panicked (pc (.iface 111 (.agg #[ii p_.1.f_f.f_Code, ii p_.1.f_f.f_At.f_Line, ii p_.1.f_f.f_At.f_Col, ii p_.1.f_f.f_At.f_Off]))) ∧ Step o0 w0 o_ w_ [2, 3, 4, 5] ∧ Bk o_ w_ 2 pb0 [pp pb0_0 0, .slice B_0_1 p_.2.1.f_l.length d_0_1, ii p_.2.1.f_i, ii p_.2.1.f_names, ii p_.2.1.f_nest, .bool p_.2.1.f_counts, .bool p_.2.1.f_full] 80 ∧ p_.2.1.f_l.length ≤ d_0_1 ∧ Row T_api_Token.rep (fun b_ => o_ b_ = 0) (fun b_ => o_ b_ = 0) w_ B_0_1 p_.2.1.f_l ∧ Bk o_ w_ 3 pb0_0 [u1_0, .map (some pb0_0_1)] 56 ∧ Own T_api_Node.rep 60 4 o_ w_ u1_0 p_.2.2.1.f_rows ∧ Mp (fun x_ : T_api_Node => Value.agg #[ii x_.f_Kind, encS x_.f_Name, ii x_.f_L, ii x_.f_R]) (fun v_ : Int => ii v_) 5 o_ w_ pb0_0_1 p_.2.2.2) ∨ ∃ q_, r = .ok q_ ∧ ∃ (B_0_1 : Option Addr) (d_0_1 : Nat) (u1_0 : Value), e_ = .returned (one [ii q_.1]) ∧ Step o0 w0 o_ w_ [2, 3, 4, 5] ∧ Bk o_ w_ 2 pb0 [pp pb0_0 0, .slice B_0_1 q_.2.1.f_l.length d_0_1, ii q_.2.1.f_i, ii q_.2.1.f_names, ii q_.2.1.f_nest, .bool q_.2.1.f_counts, .bool q_.2.1.f_full] 80 ∧ q_.2.1.f_l.length ≤ d_0_1 ∧ Row T_api_Token.rep (fun b_ => o_ b_ = 0) (fun b_ => o_ b_ = 0) w_ B_0_1 q_.2.1.f_l ∧ Bk o_ w_ 3 pb0_0 [u1_0, .map (some pb0_0_1)] 56 ∧ Own T_api_Node.rep 60 4 o_ w_ u1_0 q_.2.2.1.f_rows ∧ Mp (fun x_ : T_api_Node => Value.agg #[ii x_.f_Kind, encS x_.f_Name, ii x_.f_L, ii x_.f_R]) (fun v_ : Int => ii v_) 5 o_ w_ pb0_0_1 q_.2.2.2)
structure G_syntax_reader_formula.OK (R : G_syntax_reader_formula) : Prop where
 syntax_reader_formula : syntax_reader_formula.Spec R.syntax_reader_formula
 syntax_reader_single : syntax_reader_single.Spec R.syntax_reader_single
 syntax_reader_row_syntax_reader_single : syntax_reader_row_syntax_reader_single.Spec R.syntax_reader_row_syntax_reader_single
 syntax_reader_both : syntax_reader_both.Spec R.syntax_reader_both
 syntax_reader_row_syntax_reader_both : syntax_reader_row_syntax_reader_both.Spec R.syntax_reader_row_syntax_reader_both
 syntax_reader_implied : syntax_reader_implied.Spec R.syntax_reader_implied
/-! ### syntax_reader_formula -/
set_option maxRecDepth 100000 in
theorem syntax_reader_formula.callsF (k : Nat) (R : G_syntax_reader_formula) (hR : G_syntax_reader_formula.OK R) : syntax_reader_formula.Spec (syntax_reader_formula.F k R) := by
 intro o0 w0 pb0 pA0_1 pc0_1 pb0_0 pv0_0_0 pb0_0_1 a0 a0_0 a0_0_1 r H hO hB0 hra0_1 hla0_1 hB0_0 hO0_0_0 hM0_0_1
 have HF := Fm.refl hO [2, 3, 4, 5]
 unfold syntax_reader_formula.F at H
 refine SX.calls [pp pb0 0] Tryz.func32 rfl rfl ?_
 rw [Tryz.ntmps32]
 refine WC.seq <|
  WC.region <|
  E rfl (sg (ii 0) rfl) <|
  WL.nil <|
  WC.seq <|
  WC.region <|
  E rfl (mv (pp pb0 0) rfl) ?_
 obtain ⟨z101, hz101, H⟩ := bindE H
 refine WL.op rfl <|
  OW.callP [pp pb0 0] rfl Tryz.func57 (by kernel_rfl) (by kernel_rfl) (map_cons' rfl rfl) (hR.syntax_reader_implied _ _ pb0 pA0_1 pc0_1 pb0_0 pv0_0_0 pb0_0_1 (a0 := a0) (a0_0 := a0_0) hz101 (HF.ten (V := [0]) (L := [2, 3, 4, 5]) rfl) (Bk.vw hB0 rfl) (Row.vw hra0_1 rfl) hla0_1 (Bk.vw hB0_0 rfl) (Own.vw hO0_0_0 rfl rfl) (Mp.vw hM0_0_1 rfl)) ?_
 rintro _ w102 ⟨o103, (⟨p104, rfl, A109, c110, v114, rfl, s106, hB108, hl111, hr112, hB113, hO115, hM116⟩ | ⟨q105, rfl, A118, c119, v123, rfl, s107, hB117, hl120, hr121, hB122, hO124, hM125⟩)⟩
 ·
  refine Or.inr ⟨_, rfl, ?_⟩
  dsimp only at H
  replace hB108 := Bk.unO (J := []) 0 hB108 s106 rfl rfl rfl
  replace hr112 := hr112.un (J := []) s106
  replace hB113 := Bk.unO (J := []) 1 hB113 s106 rfl rfl rfl
  replace hO115 := Own.unO (J := []) 2 hO115 s106 rfl rfl rfl
  replace hM116 := Mp.unO (J := []) 3 hM116 s106 rfl rfl rfl
  replace s106 := un_stepL (J := []) (L' := [2, 3, 4, 5]) s106 rfl rfl
  obtain rfl := Option.some.inj H
  replace HF := HF.step s106 rfl
  exact ⟨_, Or.inl ⟨_, rfl, A109, c110, v114, rfl, HF.out, hB108, hl111, hr112, hB113, hO115, hM116⟩⟩
 ·
  refine Or.inl ⟨_, rfl, ?_⟩
  dsimp only at H
  replace hB117 := Bk.unO (J := []) 0 hB117 s107 rfl rfl rfl
  replace hr121 := hr121.un (J := []) s107
  replace hB122 := Bk.unO (J := []) 1 hB122 s107 rfl rfl rfl
  replace hO124 := Own.unO (J := []) 2 hO124 s107 rfl rfl rfl
  replace hM125 := Mp.unO (J := []) 3 hM125 s107 rfl rfl rfl
  replace s107 := un_stepL (J := []) (L' := [2, 3, 4, 5]) s107 rfl rfl
  refine E rfl (sg (ii q105.1) rfl) <|
   WL.nil <|
   WC.seq <|
   WC.seq <|
   WC.region <|
   E rfl (mv (pp pb0 0) rfl) ?_
  obtain ⟨z126, hz126, H⟩ := bindE H
  refine WL.op rfl ?_
  replace HF := HF.step s107 rfl
  refine OW.callP [pp pb0 0, encS ([60, 45, 62] : List UInt8)] rfl Tryz.func58 (by kernel_rfl) (by kernel_rfl) (map_cons' rfl (map_cons' rfl rfl)) (syntax_reader_sign.calls _ _ pb0 A118 c119 pb0_0 v123 pb0_0_1 (a0 := q105.2.1) (a0_0 := q105.2.2.1) hz126 (HF.ten (V := [0]) (L := [2, 3, 4, 5]) rfl) (Bk.vw hB117 rfl) (Row.vw hr121 rfl) hl120 (Bk.vw hB122 rfl) (Own.vw hO124 rfl rfl) (Mp.vw hM125 rfl)) ?_
  rintro _ w127 ⟨o128, (⟨p129, rfl, A134, c135, rfl, s131, hB133, hl136, hr137⟩ | ⟨q130, rfl, A139, c140, rfl, s132, hB138, hl141, hr142⟩)⟩
  ·
   refine Or.inr ⟨_, rfl, ?_⟩
   dsimp only at H
   replace hB133 := Bk.unO (J := []) 0 hB133 s131 rfl rfl rfl
   replace hr137 := hr137.un (J := []) s131
   replace s131 := un_stepL (J := []) (L' := [2]) s131 rfl rfl
   obtain rfl := Option.some.inj H
   replace hB122 := hB122.step s131 rfl
   replace hO124 := hO124.step s131 rfl rfl
   replace hM125 := hM125.step s131 rfl
   replace HF := HF.step s131 rfl
   exact ⟨_, Or.inl ⟨_, rfl, A134, c135, v123, rfl, HF.out, hB133, hl136, hr137, hB122, hO124, hM125⟩⟩
  ·
   refine Or.inl ⟨_, rfl, ?_⟩
   dsimp only at H
   replace hB138 := Bk.unO (J := []) 0 hB138 s132 rfl rfl rfl
   replace hr142 := hr142.un (J := []) s132
   replace s132 := un_stepL (J := []) (L' := [2]) s132 rfl rfl
   refine E rfl (ex_not (b := q130.1) rfl) <|
    WL.nil ?_
   rcases condE H with ⟨c143, H⟩ | ⟨c143, H⟩
   ·
    refine WC.cond_t (vb c143 rfl) <|
     WC.seq <|
     WC.region <|
     E rfl (mv (ii q105.1) rfl) <|
     E rfl (sg (ii q105.1) rfl) <|
     WL.nil <|
     WC.ret ?_
    obtain rfl := Option.some.inj H
    replace hB122 := hB122.step s132 rfl
    replace hO124 := hO124.step s132 rfl rfl
    replace hM125 := hM125.step s132 rfl
    replace HF := HF.step s132 rfl
    exact ⟨_, (.tmp _ rfl .nil), _, Or.inr ⟨_, rfl, A139, c140, v123, rfl, HF.out, hB138, hl141, hr142, hB122, hO124, hM125⟩⟩
   ·
    refine WC.cond_f (vb c143 rfl) <|
     WC.skip <|
     WC.seq <|
     WC.region <|
     E rfl (mv (pp pb0 0) rfl) ?_
    obtain ⟨z144, hz144, H⟩ := bindE H
    refine WL.op rfl ?_
    replace hB122 := hB122.step s132 rfl
    replace hO124 := hO124.step s132 rfl rfl
    replace hM125 := hM125.step s132 rfl
    replace HF := HF.step s132 rfl
    refine OW.callP [pp pb0 0] rfl Tryz.func32 (by kernel_rfl) (by kernel_rfl) (map_cons' rfl rfl) (hR.syntax_reader_formula _ _ pb0 A139 c140 pb0_0 v123 pb0_0_1 (a0 := q130.2) (a0_0 := q105.2.2.1) hz144 (HF.ten (V := [0]) (L := [2, 3, 4, 5]) rfl) (Bk.vw hB138 rfl) (Row.vw hr142 rfl) hl141 (Bk.vw hB122 rfl) (Own.vw hO124 rfl rfl) (Mp.vw hM125 rfl)) ?_
    rintro _ w145 ⟨o146, (⟨p147, rfl, A152, c153, v157, rfl, s149, hB151, hl154, hr155, hB156, hO158, hM159⟩ | ⟨q148, rfl, A161, c162, v166, rfl, s150, hB160, hl163, hr164, hB165, hO167, hM168⟩)⟩
    ·
     refine Or.inr ⟨_, rfl, ?_⟩
     dsimp only at H
     replace hB151 := Bk.unO (J := []) 0 hB151 s149 rfl rfl rfl
     replace hr155 := hr155.un (J := []) s149
     replace hB156 := Bk.unO (J := []) 1 hB156 s149 rfl rfl rfl
     replace hO158 := Own.unO (J := []) 2 hO158 s149 rfl rfl rfl
     replace hM159 := Mp.unO (J := []) 3 hM159 s149 rfl rfl rfl
     replace s149 := un_stepL (J := []) (L' := [2, 3, 4, 5]) s149 rfl rfl
     obtain rfl := Option.some.inj H
     replace HF := HF.step s149 rfl
     exact ⟨_, Or.inl ⟨_, rfl, A152, c153, v157, rfl, HF.out, hB151, hl154, hr155, hB156, hO158, hM159⟩⟩
    ·
     refine Or.inl ⟨_, rfl, ?_⟩
     dsimp only at H
     replace hB160 := Bk.unO (J := []) 0 hB160 s150 rfl rfl rfl
     replace hr164 := hr164.un (J := []) s150
     replace hB165 := Bk.unO (J := []) 1 hB165 s150 rfl rfl rfl
     replace hO167 := Own.unO (J := []) 2 hO167 s150 rfl rfl rfl
     replace hM168 := Mp.unO (J := []) 3 hM168 s150 rfl rfl rfl
     replace s150 := un_stepL (J := []) (L' := [2, 3, 4, 5]) s150 rfl rfl
     refine E rfl (sg (ii q148.1) rfl) <|
      WL.nil <|
      WC.seq <|
      WC.region <|
      E rfl (mv (pp pb0 0) rfl) <|
      E rfl (mv (ii q105.1) rfl) <|
      E rfl (mv (ii q148.1) rfl) ?_
     obtain ⟨z169, hz169, H⟩ := bindE H
     refine WL.op rfl ?_
     replace HF := HF.step s150 rfl
     refine OW.call [pp pb0 0, ii 5, encS ([] : List UInt8), ii q105.1, ii q148.1] rfl Tryz.func59 (by kernel_rfl) (by kernel_rfl) (map_cons' rfl (map_cons' rfl (map_cons' rfl (map_cons' rfl (map_cons' rfl rfl))))) (syntax_reader_node.calls k _ _ pb0 A161 c162 pb0_0 v166 pb0_0_1 (a0 := q148.2.1) (a0_0 := q148.2.2.1) hz169 (HF.ten (V := [0]) (L := [2, 3, 4, 5]) rfl) (Bk.vw hB160 rfl) (Row.vw hr164 rfl) hl163 (Bk.vw hB165 rfl) (Own.vw hO167 rfl rfl) (Mp.vw hM168 rfl)) ?_
     rintro _ w170 ⟨o171, A174, c175, v179, rfl, s172, hB173, hl176, hr177, hB178, hO180, hM181⟩
     refine ⟨_, rfl, ?_⟩
     replace hB173 := Bk.unO (J := []) 0 hB173 s172 rfl rfl rfl
     replace hr177 := hr177.un (J := []) s172
     replace hB178 := Bk.unO (J := []) 1 hB178 s172 rfl rfl rfl
     replace hO180 := Own.unO (J := []) 2 hO180 s172 rfl rfl rfl
     replace hM181 := Mp.unO (J := []) 3 hM181 s172 rfl rfl rfl
     replace s172 := un_stepL (J := []) (L' := [2, 3, 4, 5]) s172 rfl rfl
     refine E rfl (sg (ii z169.1) rfl) <|
      WL.nil <|
      WC.seq <|
      WC.region <|
      E rfl (mv (pp pb0 0) rfl) <|
      E rfl (mv (ii q148.1) rfl) <|
      E rfl (mv (ii q105.1) rfl) ?_
     obtain ⟨z182, hz182, H⟩ := bindE H
     refine WL.op rfl ?_
     replace HF := HF.step s172 rfl
     refine OW.call [pp pb0 0, ii 5, encS ([] : List UInt8), ii q148.1, ii q105.1] rfl Tryz.func59 (by kernel_rfl) (by kernel_rfl) (map_cons' rfl (map_cons' rfl (map_cons' rfl (map_cons' rfl (map_cons' rfl rfl))))) (syntax_reader_node.calls k _ _ pb0 A174 c175 pb0_0 v179 pb0_0_1 (a0 := z169.2.1) (a0_0 := z169.2.2.1) hz182 (HF.ten (V := [0]) (L := [2, 3, 4, 5]) rfl) (Bk.vw hB173 rfl) (Row.vw hr177 rfl) hl176 (Bk.vw hB178 rfl) (Own.vw hO180 rfl rfl) (Mp.vw hM181 rfl)) ?_
     rintro _ w183 ⟨o184, A187, c188, v192, rfl, s185, hB186, hl189, hr190, hB191, hO193, hM194⟩
     refine ⟨_, rfl, ?_⟩
     replace hB186 := Bk.unO (J := []) 0 hB186 s185 rfl rfl rfl
     replace hr190 := hr190.un (J := []) s185
     replace hB191 := Bk.unO (J := []) 1 hB191 s185 rfl rfl rfl
     replace hO193 := Own.unO (J := []) 2 hO193 s185 rfl rfl rfl
     replace hM194 := Mp.unO (J := []) 3 hM194 s185 rfl rfl rfl
     replace s185 := un_stepL (J := []) (L' := [2, 3, 4, 5]) s185 rfl rfl
     refine E rfl (sg (ii z182.1) rfl) <|
      WL.nil <|
      WC.seq <|
      WC.region <|
      E rfl (mv (pp pb0 0) rfl) <|
      E rfl (mv (ii z169.1) rfl) <|
      E rfl (mv (ii z182.1) rfl) ?_
     obtain ⟨z195, hz195, H⟩ := bindE H
     refine WL.op rfl ?_
     replace HF := HF.step s185 rfl
     refine OW.call [pp pb0 0, ii 3, encS ([] : List UInt8), ii z169.1, ii z182.1] rfl Tryz.func59 (by kernel_rfl) (by kernel_rfl) (map_cons' rfl (map_cons' rfl (map_cons' rfl (map_cons' rfl (map_cons' rfl rfl))))) (syntax_reader_node.calls k _ _ pb0 A187 c188 pb0_0 v192 pb0_0_1 (a0 := z182.2.1) (a0_0 := z182.2.2.1) hz195 (HF.ten (V := [0]) (L := [2, 3, 4, 5]) rfl) (Bk.vw hB186 rfl) (Row.vw hr190 rfl) hl189 (Bk.vw hB191 rfl) (Own.vw hO193 rfl rfl) (Mp.vw hM194 rfl)) ?_
     rintro _ w196 ⟨o197, A200, c201, v205, rfl, s198, hB199, hl202, hr203, hB204, hO206, hM207⟩
     refine ⟨_, rfl, ?_⟩
     replace hB199 := Bk.unO (J := []) 0 hB199 s198 rfl rfl rfl
     replace hr203 := hr203.un (J := []) s198
     replace hB204 := Bk.unO (J := []) 1 hB204 s198 rfl rfl rfl
     replace hO206 := Own.unO (J := []) 2 hO206 s198 rfl rfl rfl
     replace hM207 := Mp.unO (J := []) 3 hM207 s198 rfl rfl rfl
     replace s198 := un_stepL (J := []) (L' := [2, 3, 4, 5]) s198 rfl rfl
     refine E rfl (sg (ii z195.1) rfl) <|
      WL.nil <|
      WC.ret ?_
     obtain rfl := Option.some.inj H
     replace HF := HF.step s198 rfl
     exact ⟨_, (.tmp _ rfl .nil), _, Or.inr ⟨_, rfl, A200, c201, v205, rfl, HF.out, hB199, hl202, hr203, hB204, hO206, hM207⟩⟩

/-! ### syntax_reader_single -/
set_option maxRecDepth 100000 in
theorem syntax_reader_single.callsF (k : Nat) (R : G_syntax_reader_formula) (hR : G_syntax_reader_formula.OK R) : syntax_reader_single.Spec (syntax_reader_single.F k R) := by
 intro o0 w0 pb0 pA0_1 pc0_1 pb0_0 pv0_0_0 pb0_0_1 a0 a0_0 a0_0_1 r H hO hB0 hra0_1 hla0_1 hB0_0 hO0_0_0 hM0_0_1
 have HF := Fm.refl hO [2, 3, 4, 5]
 unfold syntax_reader_single.F at H
 refine SX.calls [pp pb0 0] Tryz.func100 rfl rfl ?_
 rw [Tryz.ntmps100]
 refine WC.seq <|
  WC.region <|
  E rfl (sg (ii 0) rfl) <|
  WL.nil <|
  WC.seq <|
  WC.region <|
  E rfl (mv (pp pb0 0) rfl) ?_
 obtain ⟨z101, hz101, H⟩ := bindE H
 refine WL.op rfl <|
  OW.call [pp pb0 0] rfl Tryz.func33 (by kernel_rfl) (by kernel_rfl) (map_cons' rfl rfl) (syntax_reader_now.calls _ _ pb0 pA0_1 pc0_1 pb0_0 pv0_0_0 pb0_0_1 (a0 := a0) (a0_0 := a0_0) hz101 (HF.ten (V := [0]) (L := [2, 3, 4, 5]) rfl) (Bk.vw hB0 rfl) (Row.vw hra0_1 rfl) hla0_1 (Bk.vw hB0_0 rfl) (Own.vw hO0_0_0 rfl rfl) (Mp.vw hM0_0_1 rfl)) ?_
 rintro _ w102 ⟨o103, rfl, s104⟩
 refine ⟨_, rfl, ?_⟩
 replace s104 := un_stepL (J := []) (L' := []) s104 rfl rfl
 refine WL.op rfl ?_
 replace HF := HF.step s104 rfl
 refine OW.alloc' [ii (0 : Int), encS ([] : List UInt8), ii (0 : Int), ii (0 : Int), ii (0 : Int), ii (0 : Int)] 40 HF rfl zr76 rfl ?_
 intro o106 w107 b105 s108 hB109
 refine WL.op rfl <|
  OW.storeW rfl rfl sz76 hB109 rfl (oa rfl) ?_
 intro w110 s111 hB112
 refine WL.nil <|
  WC.seq <|
  WC.block <|
  WC.seq <|
  WC.region <|
  E rfl (mv (pp pb0 0) rfl) ?_
 obtain ⟨z113, hz113, H⟩ := bindE H
 refine WL.op rfl ?_
 have k108_111 := s108.t s111
 replace HF := HF.step k108_111 rfl
 have k104_111 := s104.t k108_111
 replace hra0_1 := hra0_1.step k104_111 rfl
 replace hB0 := hB0.step k104_111 rfl
 replace hO0_0_0 := hO0_0_0.step k104_111 rfl rfl
 replace hB0_0 := hB0_0.step k104_111 rfl
 replace hM0_0_1 := hM0_0_1.step k104_111 rfl
 refine OW.callP [pp pb0 0, encS ([126] : List UInt8)] rfl Tryz.func58 (by kernel_rfl) (by kernel_rfl) (map_cons' rfl (map_cons' rfl rfl)) (syntax_reader_sign.calls _ _ pb0 pA0_1 pc0_1 pb0_0 pv0_0_0 pb0_0_1 (a0 := a0) (a0_0 := a0_0) hz113 (HF.ten (V := [0]) (L := [2, 3, 4, 5]) rfl) (Bk.vw hB0 rfl) (Row.vw hra0_1 rfl) hla0_1 (Bk.vw hB0_0 rfl) (Own.vw hO0_0_0 rfl rfl) (Mp.vw hM0_0_1 rfl)) ?_
 rintro _ w114 ⟨o115, (⟨p116, rfl, A121, c122, rfl, s118, hB120, hl123, hr124⟩ | ⟨q117, rfl, A126, c127, rfl, s119, hB125, hl128, hr129⟩)⟩
 ·
  refine Or.inr ⟨_, rfl, ?_⟩
  dsimp only at H
  replace hB120 := Bk.unO (J := []) 0 hB120 s118 rfl rfl rfl
  replace hr124 := hr124.un (J := []) s118
  replace s118 := un_stepL (J := []) (L' := [2]) s118 rfl rfl
  obtain rfl := Option.some.inj H
  replace hO0_0_0 := hO0_0_0.step s118 rfl rfl
  replace hB0_0 := hB0_0.step s118 rfl
  replace hM0_0_1 := hM0_0_1.step s118 rfl
  replace HF := HF.step s118 rfl
  exact ⟨_, Or.inl ⟨_, rfl, A121, c122, pv0_0_0, rfl, HF.out, hB120, hl123, hr124, hB0_0, hO0_0_0, hM0_0_1⟩⟩
 ·
  refine Or.inl ⟨_, rfl, ?_⟩
  dsimp only at H
  replace hB125 := Bk.unO (J := []) 0 hB125 s119 rfl rfl rfl
  replace hr129 := hr129.un (J := []) s119
  replace s119 := un_stepL (J := []) (L' := [2]) s119 rfl rfl
  refine E rfl (sg (.bool q117.1) rfl) <|
   WL.nil ?_
  rcases condE H with ⟨c130, H⟩ | ⟨c130, H⟩
  ·
   refine WC.cond_t (vb c130 rfl) <|
    WC.seq <|
    WC.region <|
    E rfl (mv (pp pb0 0) rfl) ?_
   obtain ⟨z131, hz131, H⟩ := bindE H
   refine WL.op rfl ?_
   replace hO0_0_0 := hO0_0_0.step s119 rfl rfl
   replace hB0_0 := hB0_0.step s119 rfl
   replace hM0_0_1 := hM0_0_1.step s119 rfl
   replace HF := HF.step s119 rfl
   refine OW.callP [pp pb0 0] rfl Tryz.func100 (by kernel_rfl) (by kernel_rfl) (map_cons' rfl rfl) (hR.syntax_reader_single _ _ pb0 A126 c127 pb0_0 pv0_0_0 pb0_0_1 (a0 := q117.2) (a0_0 := a0_0) hz131 (HF.ten (V := [0]) (L := [2, 3, 4, 5]) rfl) (Bk.vw hB125 rfl) (Row.vw hr129 rfl) hl128 (Bk.vw hB0_0 rfl) (Own.vw hO0_0_0 rfl rfl) (Mp.vw hM0_0_1 rfl)) ?_
   rintro _ w132 ⟨o133, (⟨p134, rfl, A139, c140, v144, rfl, s136, hB138, hl141, hr142, hB143, hO145, hM146⟩ | ⟨q135, rfl, A148, c149, v153, rfl, s137, hB147, hl150, hr151, hB152, hO154, hM155⟩)⟩
   ·
    refine Or.inr ⟨_, rfl, ?_⟩
    dsimp only at H
    replace hB138 := Bk.unO (J := []) 0 hB138 s136 rfl rfl rfl
    replace hr142 := hr142.un (J := []) s136
    replace hB143 := Bk.unO (J := []) 1 hB143 s136 rfl rfl rfl
    replace hO145 := Own.unO (J := []) 2 hO145 s136 rfl rfl rfl
    replace hM146 := Mp.unO (J := []) 3 hM146 s136 rfl rfl rfl
    replace s136 := un_stepL (J := []) (L' := [2, 3, 4, 5]) s136 rfl rfl
    obtain rfl := Option.some.inj H
    replace HF := HF.step s136 rfl
    exact ⟨_, Or.inl ⟨_, rfl, A139, c140, v144, rfl, HF.out, hB138, hl141, hr142, hB143, hO145, hM146⟩⟩
   ·
    refine Or.inl ⟨_, rfl, ?_⟩
    dsimp only at H
    replace hB147 := Bk.unO (J := []) 0 hB147 s137 rfl rfl rfl
    replace hr151 := hr151.un (J := []) s137
    replace hB152 := Bk.unO (J := []) 1 hB152 s137 rfl rfl rfl
    replace hO154 := Own.unO (J := []) 2 hO154 s137 rfl rfl rfl
    replace hM155 := Mp.unO (J := []) 3 hM155 s137 rfl rfl rfl
    replace s137 := un_stepL (J := []) (L' := [2, 3, 4, 5]) s137 rfl rfl
    refine E rfl (sg (ii q135.1) rfl) <|
     WL.nil <|
     WC.seq <|
     WC.region <|
     E rfl (mv (pp pb0 0) rfl) <|
     E rfl (mv (ii q135.1) rfl) <|
     E rfl (mv (pp pb0 0) rfl) ?_
    obtain ⟨z156, hz156, H⟩ := bindE H
    refine WL.op rfl ?_
    replace HF := HF.step s137 rfl
    refine OW.call [pp pb0 0, ii 2, encS ([] : List UInt8), ii 0, ii 0] rfl Tryz.func59 (by kernel_rfl) (by kernel_rfl) (map_cons' rfl (map_cons' rfl (map_cons' rfl (map_cons' rfl (map_cons' rfl rfl))))) (syntax_reader_node.calls k _ _ pb0 A148 c149 pb0_0 v153 pb0_0_1 (a0 := q135.2.1) (a0_0 := q135.2.2.1) hz156 (HF.ten (V := [0]) (L := [2, 3, 4, 5]) rfl) (Bk.vw hB147 rfl) (Row.vw hr151 rfl) hl150 (Bk.vw hB152 rfl) (Own.vw hO154 rfl rfl) (Mp.vw hM155 rfl)) ?_
    rintro _ w157 ⟨o158, A161, c162, v166, rfl, s159, hB160, hl163, hr164, hB165, hO167, hM168⟩
    refine ⟨_, rfl, ?_⟩
    replace hB160 := Bk.unO (J := []) 0 hB160 s159 rfl rfl rfl
    replace hr164 := hr164.un (J := []) s159
    replace hB165 := Bk.unO (J := []) 1 hB165 s159 rfl rfl rfl
    replace hO167 := Own.unO (J := []) 2 hO167 s159 rfl rfl rfl
    replace hM168 := Mp.unO (J := []) 3 hM168 s159 rfl rfl rfl
    replace s159 := un_stepL (J := []) (L' := [2, 3, 4, 5]) s159 rfl rfl
    obtain ⟨z169, hz169, H⟩ := bindE H
    refine WL.op rfl ?_
    replace HF := HF.step s159 rfl
    refine OW.call [pp pb0 0, ii 5, encS ([] : List UInt8), ii q135.1, ii z156.1] rfl Tryz.func59 (by kernel_rfl) (by kernel_rfl) (map_cons' rfl (map_cons' rfl (map_cons' rfl (map_cons' rfl (map_cons' rfl rfl))))) (syntax_reader_node.calls k _ _ pb0 A161 c162 pb0_0 v166 pb0_0_1 (a0 := z156.2.1) (a0_0 := z156.2.2.1) hz169 (HF.ten (V := [0]) (L := [2, 3, 4, 5]) rfl) (Bk.vw hB160 rfl) (Row.vw hr164 rfl) hl163 (Bk.vw hB165 rfl) (Own.vw hO167 rfl rfl) (Mp.vw hM168 rfl)) ?_
    rintro _ w170 ⟨o171, A174, c175, v179, rfl, s172, hB173, hl176, hr177, hB178, hO180, hM181⟩
    refine ⟨_, rfl, ?_⟩
    replace hB173 := Bk.unO (J := []) 0 hB173 s172 rfl rfl rfl
    replace hr177 := hr177.un (J := []) s172
    replace hB178 := Bk.unO (J := []) 1 hB178 s172 rfl rfl rfl
    replace hO180 := Own.unO (J := []) 2 hO180 s172 rfl rfl rfl
    replace hM181 := Mp.unO (J := []) 3 hM181 s172 rfl rfl rfl
    replace s172 := un_stepL (J := []) (L' := [2, 3, 4, 5]) s172 rfl rfl
    refine E rfl (sg (ii z169.1) rfl) <|
     WL.nil <|
     WC.ret ?_
    obtain rfl := Option.some.inj H
    replace HF := HF.step s172 rfl
    exact ⟨_, (.tmp _ rfl .nil), _, Or.inr ⟨_, rfl, A174, c175, v179, rfl, HF.out, hB173, hl176, hr177, hB178, hO180, hM181⟩⟩
  ·
   refine WC.cond_f (vb c130 rfl) ?_
   obtain ⟨z183, hz183, H⟩ := bindE H
   refine WC.cut (fun ρ_ w_ => ∃ (o_ : Tags), Fm o0 w0 o_ w_ [2, 3, 4, 5] ∧ Bk o_ w_ 2 pb0 [pp pb0_0 0, .slice A126 q117.2.f_l.length c127, ii q117.2.f_i, ii q117.2.f_names, ii q117.2.f_nest, .bool q117.2.f_counts, .bool q117.2.f_full] 80 ∧ Row T_api_Token.rep (fun b_ => o_ b_ = 0) (fun b_ => o_ b_ = 0) w_ A126 q117.2.f_l ∧ Bk o_ w_ 3 pb0_0 [pv0_0_0, .map (some pb0_0_1)] 56 ∧ Own T_api_Node.rep 60 4 o_ w_ pv0_0_0 a0_0.f_rows ∧ Mp (fun x_ : T_api_Node => Value.agg #[ii x_.f_Kind, encS x_.f_Name, ii x_.f_L, ii x_.f_R]) (fun v_ : Int => ii v_) 5 o_ w_ pb0_0_1 a0_0_1 ∧ Bk o_ w_ 40 b105 [ii z101.f_Kind, encS z101.f_Text, ii z101.f_Int, ii z101.f_At.f_Line, ii z101.f_At.f_Col, ii z101.f_At.f_Off] 76 ∧ ρ_ 0 = pp pb0 0 ∧ ρ_ 2 = ii 0 ∧ ρ_ 3 = pp b105 0 ∧ ρ_ 19 = .bool z183) ?case184 ?_
   case case184 =>
    rintro ρ187 w185 ⟨o186, HF, hB125, hr129, hB0_0, hO0_0_0, hM0_0_1, hB112, s0_181, s2_181, s3_181, s19_182⟩
    rcases condE H with ⟨c188, H⟩ | ⟨c188, H⟩
    ·
     refine WC.cond_t (vb c188 s19_182) ?_
     obtain ⟨z189, hz189, H⟩ := bindE H
     refine WC.cut (fun ρ_ w_ => ∃ (o_ : Tags), Fm o0 w0 o_ w_ [2, 3, 4, 5] ∧ Bk o_ w_ 2 pb0 [pp pb0_0 0, .slice A126 q117.2.f_l.length c127, ii q117.2.f_i, ii q117.2.f_names, ii q117.2.f_nest, .bool q117.2.f_counts, .bool q117.2.f_full] 80 ∧ Row T_api_Token.rep (fun b_ => o_ b_ = 0) (fun b_ => o_ b_ = 0) w_ A126 q117.2.f_l ∧ Bk o_ w_ 3 pb0_0 [pv0_0_0, .map (some pb0_0_1)] 56 ∧ Own T_api_Node.rep 60 4 o_ w_ pv0_0_0 a0_0.f_rows ∧ Mp (fun x_ : T_api_Node => Value.agg #[ii x_.f_Kind, encS x_.f_Name, ii x_.f_L, ii x_.f_R]) (fun v_ : Int => ii v_) 5 o_ w_ pb0_0_1 a0_0_1 ∧ ρ_ 0 = pp pb0 0 ∧ ρ_ 2 = ii 0 ∧ z189 = .inr ()) ?case190 ?_
     case case190 =>
      rintro ρ193 w191 ⟨o192, HF, hB125, hr129, hB0_0, hO0_0_0, hM0_0_1, s0_188, s2_188, rfl⟩
      replace H : _ = some _ := H
      dsimp only at H
      refine WC.seq <|
       WC.region <|
       E rfl (mv (pp pb0 0) s0_188) <|
       E rfl (ex_nilCheck rfl) <|
       E rfl (ex_fieldAddr rfl U80 rfl sz3) <|
       E rfl (ex_load1 rfl U3 rfl (hB125.cell rfl)) <|
       E rfl (e2 bin_add64 rfl rfl) <|
       E rfl (ex_nilCheck rfl) <|
       E rfl (ex_fieldAddr rfl U80 rfl sz3) <|
       WL.op rfl <|
       OW.store [pp pb0_0 0, .slice A126 q117.2.f_l.length c127, ii q117.2.f_i, ii q117.2.f_names, ii (wrap64 (q117.2.f_nest + 1)), .bool q117.2.f_counts, .bool q117.2.f_full] rfl (vs := [ii (wrap64 (q117.2.f_nest + 1))]) rfl sz3 hB125 (Nat.le_of_ble_eq_true rfl) (oa rfl) rfl ?_
      intro w194 s195 hB196
      refine WL.nil <|
       WC.seq <|
       WC.region <|
       E rfl (mv (pp pb0 0) s0_188) ?_
      obtain ⟨z197, hz197, H⟩ := bindE H
      refine WL.op rfl ?_
      replace hr129 := hr129.step s195 rfl
      replace hB0_0 := hB0_0.step s195 rfl
      replace hO0_0_0 := hO0_0_0.step s195 rfl rfl
      replace hM0_0_1 := hM0_0_1.step s195 rfl
      replace HF := HF.step s195 rfl
      refine OW.callP [pp pb0 0] rfl Tryz.func81 (by kernel_rfl) (by kernel_rfl) (map_cons' rfl rfl) (syntax_reader_take.calls _ _ pb0 A126 c127 pb0_0 pv0_0_0 pb0_0_1 (a0 := (⟨q117.2.f_l, q117.2.f_i, q117.2.f_names, wrap64 (q117.2.f_nest + 1), q117.2.f_counts, q117.2.f_full⟩ : T_syntax_reader)) (a0_0 := a0_0) hz197 (HF.ten (V := [0]) (L := [2, 3, 4, 5]) rfl) (Bk.vw hB196 rfl) (Row.vw hr129 rfl) hl128 (Bk.vw hB0_0 rfl) (Own.vw hO0_0_0 rfl rfl) (Mp.vw hM0_0_1 rfl)) ?_
      rintro _ w198 ⟨o199, (⟨p200, rfl, A205, c206, rfl, s202, hB204, hl207, hr208⟩ | ⟨q201, rfl, A210, c211, rfl, s203, hB209, hl212, hr213⟩)⟩
      ·
       refine Or.inr ⟨_, rfl, ?_⟩
       dsimp only at H
       replace hB204 := Bk.unO (J := []) 0 hB204 s202 rfl rfl rfl
       replace hr208 := hr208.un (J := []) s202
       replace s202 := un_stepL (J := []) (L' := [2]) s202 rfl rfl
       obtain rfl := Option.some.inj H
       replace hB0_0 := hB0_0.step s202 rfl
       replace hO0_0_0 := hO0_0_0.step s202 rfl rfl
       replace hM0_0_1 := hM0_0_1.step s202 rfl
       replace HF := HF.step s202 rfl
       exact ⟨_, Or.inl ⟨_, rfl, A205, c206, pv0_0_0, rfl, HF.out, hB204, hl207, hr208, hB0_0, hO0_0_0, hM0_0_1⟩⟩
      ·
       refine Or.inl ⟨_, rfl, ?_⟩
       dsimp only at H
       replace hB209 := Bk.unO (J := []) 0 hB209 s203 rfl rfl rfl
       replace hr213 := hr213.un (J := []) s203
       replace s203 := un_stepL (J := []) (L' := [2]) s203 rfl rfl
       refine WL.nil <|
        WC.seq <|
        WC.region <|
        E rfl (mv (pp pb0 0) s0_188) ?_
       obtain ⟨z214, hz214, H⟩ := bindE H
       refine WL.op rfl ?_
       replace hB0_0 := hB0_0.step s203 rfl
       replace hO0_0_0 := hO0_0_0.step s203 rfl rfl
       replace hM0_0_1 := hM0_0_1.step s203 rfl
       replace HF := HF.step s203 rfl
       refine OW.callP [pp pb0 0] rfl Tryz.func32 (by kernel_rfl) (by kernel_rfl) (map_cons' rfl rfl) (hR.syntax_reader_formula _ _ pb0 A210 c211 pb0_0 pv0_0_0 pb0_0_1 (a0 := q201.2) (a0_0 := a0_0) hz214 (HF.ten (V := [0]) (L := [2, 3, 4, 5]) rfl) (Bk.vw hB209 rfl) (Row.vw hr213 rfl) hl212 (Bk.vw hB0_0 rfl) (Own.vw hO0_0_0 rfl rfl) (Mp.vw hM0_0_1 rfl)) ?_
       rintro _ w215 ⟨o216, (⟨p217, rfl, A222, c223, v227, rfl, s219, hB221, hl224, hr225, hB226, hO228, hM229⟩ | ⟨q218, rfl, A231, c232, v236, rfl, s220, hB230, hl233, hr234, hB235, hO237, hM238⟩)⟩
       ·
        refine Or.inr ⟨_, rfl, ?_⟩
        dsimp only at H
        replace hB221 := Bk.unO (J := []) 0 hB221 s219 rfl rfl rfl
        replace hr225 := hr225.un (J := []) s219
        replace hB226 := Bk.unO (J := []) 1 hB226 s219 rfl rfl rfl
        replace hO228 := Own.unO (J := []) 2 hO228 s219 rfl rfl rfl
        replace hM229 := Mp.unO (J := []) 3 hM229 s219 rfl rfl rfl
        replace s219 := un_stepL (J := []) (L' := [2, 3, 4, 5]) s219 rfl rfl
        obtain rfl := Option.some.inj H
        replace HF := HF.step s219 rfl
        exact ⟨_, Or.inl ⟨_, rfl, A222, c223, v227, rfl, HF.out, hB221, hl224, hr225, hB226, hO228, hM229⟩⟩
       ·
        refine Or.inl ⟨_, rfl, ?_⟩
        dsimp only at H
        replace hB230 := Bk.unO (J := []) 0 hB230 s220 rfl rfl rfl
        replace hr234 := hr234.un (J := []) s220
        replace hB235 := Bk.unO (J := []) 1 hB235 s220 rfl rfl rfl
        replace hO237 := Own.unO (J := []) 2 hO237 s220 rfl rfl rfl
        replace hM238 := Mp.unO (J := []) 3 hM238 s220 rfl rfl rfl
        replace s220 := un_stepL (J := []) (L' := [2, 3, 4, 5]) s220 rfl rfl
        refine E rfl (sg (ii q218.1) rfl) <|
         WL.nil ?_
        obtain ⟨z244, hz244, H⟩ := bindE H
        refine WC.cut (fun ρ_ w_ => ∃ (o_ : Tags) (x239 : T_syntax_reader) (A240 : Option Addr) (c241 : Nat), Fm o0 w0 o_ w_ [2, 3, 4, 5] ∧ Bk o_ w_ 2 pb0 [pp pb0_0 0, .slice A240 x239.f_l.length c241, ii x239.f_i, ii x239.f_names, ii x239.f_nest, .bool x239.f_counts, .bool x239.f_full] 80 ∧ Row T_api_Token.rep (fun b_ => o_ b_ = 0) (fun b_ => o_ b_ = 0) w_ A240 x239.f_l ∧ x239.f_l.length ≤ c241 ∧ Bk o_ w_ 3 pb0_0 [v236, .map (some pb0_0_1)] 56 ∧ Own T_api_Node.rep 60 4 o_ w_ v236 q218.2.2.1.f_rows ∧ Mp (fun x_ : T_api_Node => Value.agg #[ii x_.f_Kind, encS x_.f_Name, ii x_.f_L, ii x_.f_R]) (fun v_ : Int => ii v_) 5 o_ w_ pb0_0_1 q218.2.2.2 ∧ ρ_ 0 = pp pb0 0 ∧ ρ_ 2 = ii 0 ∧ ρ_ 5 = ii q218.1 ∧ z244 = .inr x239) ?case245 ?_
        case case245 =>
         rintro ρ248 w246 ⟨o247, x239, A240, c241, HF, hB251, hr242, hl243, hB235, hO237, hM238, s0_238, s2_238, s5_238, rfl⟩
         replace H : _ = some _ := H
         dsimp only at H
         refine WC.seq <|
          WC.region <|
          E rfl (mv (pp pb0 0) s0_238) <|
          E rfl (ex_nilCheck rfl) <|
          E rfl (ex_fieldAddr rfl U80 rfl sz3) <|
          E rfl (ex_load1 rfl U3 rfl (hB251.cell rfl)) <|
          E rfl (e2 bin_sub64 rfl rfl) <|
          E rfl (ex_nilCheck rfl) <|
          E rfl (ex_fieldAddr rfl U80 rfl sz3) <|
          WL.op rfl <|
          OW.store [pp pb0_0 0, .slice A240 x239.f_l.length c241, ii x239.f_i, ii x239.f_names, ii (wrap64 (x239.f_nest - 1)), .bool x239.f_counts, .bool x239.f_full] rfl (vs := [ii (wrap64 (x239.f_nest - 1))]) rfl sz3 hB251 (Nat.le_of_ble_eq_true rfl) (oa rfl) rfl ?_
         intro w249 s250 hB251
         refine WL.nil <|
          WC.seq <|
          WC.region <|
          E rfl (mv (ii q218.1) s5_238) <|
          E rfl (sg (ii q218.1) rfl) <|
          WL.nil <|
          WC.ret ?_
         obtain rfl := Option.some.inj H
         replace hr242 := hr242.step s250 rfl
         replace hB235 := hB235.step s250 rfl
         replace hO237 := hO237.step s250 rfl rfl
         replace hM238 := hM238.step s250 rfl
         replace HF := HF.step s250 rfl
         exact ⟨_, (.tmp _ rfl .nil), _, Or.inr ⟨_, rfl, A240, c241, v236, rfl, HF.out, hB251, hl243, hr242, hB235, hO237, hM238⟩⟩
        have Ho252 := H
        replace H := hz244
        refine WC.seq <|
         WC.region <|
         E rfl (mv (pp pb0 0) s0_188) ?_
        obtain ⟨z253, hz253, H⟩ := bindE H
        refine WL.op rfl ?_
        replace HF := HF.step s220 rfl
        refine OW.callP [pp pb0 0, encS ([41] : List UInt8)] rfl Tryz.func58 (by kernel_rfl) (by kernel_rfl) (map_cons' rfl (map_cons' rfl rfl)) (syntax_reader_sign.calls _ _ pb0 A231 c232 pb0_0 v236 pb0_0_1 (a0 := q218.2.1) (a0_0 := q218.2.2.1) hz253 (HF.ten (V := [0]) (L := [2, 3, 4, 5]) rfl) (Bk.vw hB230 rfl) (Row.vw hr234 rfl) hl233 (Bk.vw hB235 rfl) (Own.vw hO237 rfl rfl) (Mp.vw hM238 rfl)) ?_
        rintro _ w254 ⟨o255, (⟨p256, rfl, A261, c262, rfl, s258, hB260, hl263, hr264⟩ | ⟨q257, rfl, A266, c267, rfl, s259, hB265, hl268, hr269⟩)⟩
        ·
         refine Or.inr ⟨_, rfl, ?_⟩
         dsimp only at H
         replace hB260 := Bk.unO (J := []) 0 hB260 s258 rfl rfl rfl
         replace hr264 := hr264.un (J := []) s258
         replace s258 := un_stepL (J := []) (L' := [2]) s258 rfl rfl
         obtain rfl := Option.some.inj H
         replace H := Ho252
         dsimp only at H
         obtain rfl := Option.some.inj H
         replace hB235 := hB235.step s258 rfl
         replace hO237 := hO237.step s258 rfl rfl
         replace hM238 := hM238.step s258 rfl
         replace HF := HF.step s258 rfl
         exact ⟨_, Or.inl ⟨_, rfl, A261, c262, v236, rfl, HF.out, hB260, hl263, hr264, hB235, hO237, hM238⟩⟩
        ·
         refine Or.inl ⟨_, rfl, ?_⟩
         dsimp only at H
         replace hB265 := Bk.unO (J := []) 0 hB265 s259 rfl rfl rfl
         replace hr269 := hr269.un (J := []) s259
         replace s259 := un_stepL (J := []) (L' := [2]) s259 rfl rfl
         refine E rfl (ex_not (b := q257.1) rfl) <|
          WL.nil ?_
         rcases condE H with ⟨c270, H⟩ | ⟨c270, H⟩
         ·
          refine WC.cond_t (vb c270 rfl) <|
           WC.region <|
           E rfl (mv (pp pb0 0) s0_188) ?_
          obtain ⟨z271, hz271, H⟩ := bindE H
          refine WL.op rfl ?_
          replace hB235 := hB235.step s259 rfl
          replace hO237 := hO237.step s259 rfl rfl
          replace hM238 := hM238.step s259 rfl
          replace HF := HF.step s259 rfl
          refine OW.callP [pp pb0 0, ii 41] rfl Tryz.func34 (by kernel_rfl) (by kernel_rfl) (map_cons' rfl (map_cons' rfl rfl)) (syntax_reader_fail.calls _ _ pb0 A266 c267 pb0_0 v236 pb0_0_1 (a0 := q257.2) (a0_0 := q218.2.2.1) hz271 (HF.ten (V := [0]) (L := [2, 3, 4, 5]) rfl) (Bk.vw hB265 rfl) (Row.vw hr269 rfl) hl268 (Bk.vw hB235 rfl) (Own.vw hO237 rfl rfl) (Mp.vw hM238 rfl)) ?_
          rintro _ w272 ⟨o273, (⟨p274, rfl, rfl, s276⟩ | ⟨q275, rfl, rfl, s277⟩)⟩
          ·
           refine Or.inr ⟨_, rfl, ?_⟩
           dsimp only at H
           replace s276 := un_stepL (J := []) (L' := []) s276 rfl rfl
           obtain rfl := Option.some.inj H
           replace H := Ho252
           dsimp only at H
           obtain rfl := Option.some.inj H
           replace hB235 := hB235.step s276 rfl
           replace hO237 := hO237.step s276 rfl rfl
           replace hM238 := hM238.step s276 rfl
           replace hB265 := hB265.step s276 rfl
           replace hr269 := hr269.step s276 rfl
           replace HF := HF.step s276 rfl
           exact ⟨_, Or.inl ⟨_, rfl, A266, c267, v236, rfl, HF.out, hB265, hl268, hr269, hB235, hO237, hM238⟩⟩
          ·
           refine Or.inl ⟨_, rfl, ?_⟩
           dsimp only at H
           replace s277 := un_stepL (J := []) (L' := []) s277 rfl rfl
           refine WL.nil ?_
           obtain rfl := Option.some.inj H
           replace hB235 := hB235.step s277 rfl
           replace hO237 := hO237.step s277 rfl rfl
           replace hM238 := hM238.step s277 rfl
           replace hB265 := hB265.step s277 rfl
           replace hr269 := hr269.step s277 rfl
           replace HF := HF.step s277 rfl
           exact ⟨_, q257.2, _, _, HF, hB265, hr269, hl268, hB235, hO237, hM238, s0_188, s2_188, rfl, rfl⟩
         ·
          refine WC.cond_f (vb c270 rfl) <|
           WC.skip ?_
          obtain rfl := Option.some.inj H
          replace hB235 := hB235.step s259 rfl
          replace hO237 := hO237.step s259 rfl rfl
          replace hM238 := hM238.step s259 rfl
          replace HF := HF.step s259 rfl
          exact ⟨_, q257.2, _, _, HF, hB265, hr269, hl268, hB235, hO237, hM238, s0_188, s2_188, rfl, rfl⟩
     have Ho278 := H
     replace H := hz189
     refine WC.seq <|
      WC.region <|
      E rfl (mv (pp pb0 0) s0_181) <|
      E rfl (ex_nilCheck rfl) <|
      E rfl (ex_fieldAddr rfl U80 rfl sz3) <|
      E rfl (ex_load1 rfl U3 rfl (hB125.cell rfl)) <|
      E rfl (e2 bin_eql rfl rfl) <|
      WL.nil ?_
     rcases condE H with ⟨c279, H⟩ | ⟨c279, H⟩
     ·
      refine WC.cond_t (vb c279 rfl) <|
       WC.region <|
       E rfl (mv (pp pb0 0) s0_181) ?_
      obtain ⟨z280, hz280, H⟩ := bindE H
      refine WL.op rfl <|
       OW.callP [pp pb0 0, ii 41] rfl Tryz.func34 (by kernel_rfl) (by kernel_rfl) (map_cons' rfl (map_cons' rfl rfl)) (syntax_reader_fail.calls _ _ pb0 A126 c127 pb0_0 pv0_0_0 pb0_0_1 (a0 := q117.2) (a0_0 := a0_0) hz280 (HF.ten (V := [0]) (L := [2, 3, 4, 5]) rfl) (Bk.vw hB125 rfl) (Row.vw hr129 rfl) hl128 (Bk.vw hB0_0 rfl) (Own.vw hO0_0_0 rfl rfl) (Mp.vw hM0_0_1 rfl)) ?_
      rintro _ w281 ⟨o282, (⟨p283, rfl, rfl, s285⟩ | ⟨q284, rfl, rfl, s286⟩)⟩
      ·
       refine Or.inr ⟨_, rfl, ?_⟩
       dsimp only at H
       replace s285 := un_stepL (J := []) (L' := []) s285 rfl rfl
       obtain rfl := Option.some.inj H
       replace H := Ho278
       dsimp only at H
       obtain rfl := Option.some.inj H
       replace hB125 := hB125.step s285 rfl
       replace hr129 := hr129.step s285 rfl
       replace hB0_0 := hB0_0.step s285 rfl
       replace hO0_0_0 := hO0_0_0.step s285 rfl rfl
       replace hM0_0_1 := hM0_0_1.step s285 rfl
       replace HF := HF.step s285 rfl
       exact ⟨_, Or.inl ⟨_, rfl, A126, c127, pv0_0_0, rfl, HF.out, hB125, hl128, hr129, hB0_0, hO0_0_0, hM0_0_1⟩⟩
      ·
       refine Or.inl ⟨_, rfl, ?_⟩
       dsimp only at H
       replace s286 := un_stepL (J := []) (L' := []) s286 rfl rfl
       refine WL.nil ?_
       obtain rfl := Option.some.inj H
       replace hB125 := hB125.step s286 rfl
       replace hr129 := hr129.step s286 rfl
       replace hB0_0 := hB0_0.step s286 rfl
       replace hO0_0_0 := hO0_0_0.step s286 rfl rfl
       replace hM0_0_1 := hM0_0_1.step s286 rfl
       replace HF := HF.step s286 rfl
       exact ⟨_, HF, hB125, hr129, hB0_0, hO0_0_0, hM0_0_1, s0_181, s2_181, rfl⟩
     ·
      refine WC.cond_f (vb c279 rfl) <|
       WC.skip ?_
      obtain rfl := Option.some.inj H
      exact ⟨_, HF, hB125, hr129, hB0_0, hO0_0_0, hM0_0_1, s0_181, s2_181, rfl⟩
    ·
     refine WC.cond_f (vb c188 s19_182) ?_
     obtain ⟨z288, hz288, H⟩ := bindE H
     refine WC.cut (fun ρ_ w_ => ∃ (o_ : Tags), Fm o0 w0 o_ w_ [2, 3, 4, 5] ∧ Bk o_ w_ 2 pb0 [pp pb0_0 0, .slice A126 q117.2.f_l.length c127, ii q117.2.f_i, ii q117.2.f_names, ii q117.2.f_nest, .bool q117.2.f_counts, .bool q117.2.f_full] 80 ∧ Row T_api_Token.rep (fun b_ => o_ b_ = 0) (fun b_ => o_ b_ = 0) w_ A126 q117.2.f_l ∧ Bk o_ w_ 3 pb0_0 [pv0_0_0, .map (some pb0_0_1)] 56 ∧ Own T_api_Node.rep 60 4 o_ w_ pv0_0_0 a0_0.f_rows ∧ Mp (fun x_ : T_api_Node => Value.agg #[ii x_.f_Kind, encS x_.f_Name, ii x_.f_L, ii x_.f_R]) (fun v_ : Int => ii v_) 5 o_ w_ pb0_0_1 a0_0_1 ∧ Bk o_ w_ 40 b105 [ii z101.f_Kind, encS z101.f_Text, ii z101.f_Int, ii z101.f_At.f_Line, ii z101.f_At.f_Col, ii z101.f_At.f_Off] 76 ∧ ρ_ 0 = pp pb0 0 ∧ ρ_ 2 = ii 0 ∧ ρ_ 3 = pp b105 0 ∧ ρ_ 59 = .bool z288) ?case289 ?_
     case case289 =>
      rintro ρ292 w290 ⟨o291, HF, hB125, hr129, hB0_0, hO0_0_0, hM0_0_1, hB112, s0_286, s2_286, s3_286, s59_287⟩
      rcases condE H with ⟨c293, H⟩ | ⟨c293, H⟩
      ·
       refine WC.cond_t (vb c293 s59_287) <|
        WC.seq <|
        WC.region <|
        E rfl (mv (pp pb0 0) s0_286) ?_
       obtain ⟨z294, hz294, H⟩ := bindE H
       refine WL.op rfl <|
        OW.callP [pp pb0 0] rfl Tryz.func81 (by kernel_rfl) (by kernel_rfl) (map_cons' rfl rfl) (syntax_reader_take.calls _ _ pb0 A126 c127 pb0_0 pv0_0_0 pb0_0_1 (a0 := q117.2) (a0_0 := a0_0) hz294 (HF.ten (V := [0]) (L := [2, 3, 4, 5]) rfl) (Bk.vw hB125 rfl) (Row.vw hr129 rfl) hl128 (Bk.vw hB0_0 rfl) (Own.vw hO0_0_0 rfl rfl) (Mp.vw hM0_0_1 rfl)) ?_
       rintro _ w295 ⟨o296, (⟨p297, rfl, A302, c303, rfl, s299, hB301, hl304, hr305⟩ | ⟨q298, rfl, A307, c308, rfl, s300, hB306, hl309, hr310⟩)⟩
       ·
        refine Or.inr ⟨_, rfl, ?_⟩
        dsimp only at H
        replace hB301 := Bk.unO (J := []) 0 hB301 s299 rfl rfl rfl
        replace hr305 := hr305.un (J := []) s299
        replace s299 := un_stepL (J := []) (L' := [2]) s299 rfl rfl
        obtain rfl := Option.some.inj H
        replace hB0_0 := hB0_0.step s299 rfl
        replace hO0_0_0 := hO0_0_0.step s299 rfl rfl
        replace hM0_0_1 := hM0_0_1.step s299 rfl
        replace HF := HF.step s299 rfl
        exact ⟨_, Or.inl ⟨_, rfl, A302, c303, pv0_0_0, rfl, HF.out, hB301, hl304, hr305, hB0_0, hO0_0_0, hM0_0_1⟩⟩
       ·
        refine Or.inl ⟨_, rfl, ?_⟩
        dsimp only at H
        replace hB306 := Bk.unO (J := []) 0 hB306 s300 rfl rfl rfl
        replace hr310 := hr310.un (J := []) s300
        replace s300 := un_stepL (J := []) (L' := [2]) s300 rfl rfl
        refine WL.nil <|
         WC.seq <|
         WC.region <|
         E rfl (mv (pp pb0 0) s0_286) ?_
        obtain ⟨z311, hz311, H⟩ := bindE H
        refine WL.op rfl ?_
        replace hB0_0 := hB0_0.step s300 rfl
        replace hO0_0_0 := hO0_0_0.step s300 rfl rfl
        replace hM0_0_1 := hM0_0_1.step s300 rfl
        replace HF := HF.step s300 rfl
        refine OW.call [pp pb0 0, ii 2, encS ([] : List UInt8), ii 0, ii 0] rfl Tryz.func59 (by kernel_rfl) (by kernel_rfl) (map_cons' rfl (map_cons' rfl (map_cons' rfl (map_cons' rfl (map_cons' rfl rfl))))) (syntax_reader_node.calls k _ _ pb0 A307 c308 pb0_0 pv0_0_0 pb0_0_1 (a0 := q298.2) (a0_0 := a0_0) hz311 (HF.ten (V := [0]) (L := [2, 3, 4, 5]) rfl) (Bk.vw hB306 rfl) (Row.vw hr310 rfl) hl309 (Bk.vw hB0_0 rfl) (Own.vw hO0_0_0 rfl rfl) (Mp.vw hM0_0_1 rfl)) ?_
        rintro _ w312 ⟨o313, A316, c317, v321, rfl, s314, hB315, hl318, hr319, hB320, hO322, hM323⟩
        refine ⟨_, rfl, ?_⟩
        replace hB315 := Bk.unO (J := []) 0 hB315 s314 rfl rfl rfl
        replace hr319 := hr319.un (J := []) s314
        replace hB320 := Bk.unO (J := []) 1 hB320 s314 rfl rfl rfl
        replace hO322 := Own.unO (J := []) 2 hO322 s314 rfl rfl rfl
        replace hM323 := Mp.unO (J := []) 3 hM323 s314 rfl rfl rfl
        replace s314 := un_stepL (J := []) (L' := [2, 3, 4, 5]) s314 rfl rfl
        refine E rfl (sg (ii z311.1) rfl) <|
         WL.nil <|
         WC.seq <|
         WC.region <|
         E rfl (mv (pp pb0 0) s0_286) <|
         E rfl (mv (ii z311.1) rfl) <|
         E rfl (mv (ii z311.1) rfl) ?_
        obtain ⟨z324, hz324, H⟩ := bindE H
        refine WL.op rfl ?_
        replace HF := HF.step s314 rfl
        refine OW.call [pp pb0 0, ii 5, encS ([] : List UInt8), ii z311.1, ii z311.1] rfl Tryz.func59 (by kernel_rfl) (by kernel_rfl) (map_cons' rfl (map_cons' rfl (map_cons' rfl (map_cons' rfl (map_cons' rfl rfl))))) (syntax_reader_node.calls k _ _ pb0 A316 c317 pb0_0 v321 pb0_0_1 (a0 := z311.2.1) (a0_0 := z311.2.2.1) hz324 (HF.ten (V := [0]) (L := [2, 3, 4, 5]) rfl) (Bk.vw hB315 rfl) (Row.vw hr319 rfl) hl318 (Bk.vw hB320 rfl) (Own.vw hO322 rfl rfl) (Mp.vw hM323 rfl)) ?_
        rintro _ w325 ⟨o326, A329, c330, v334, rfl, s327, hB328, hl331, hr332, hB333, hO335, hM336⟩
        refine ⟨_, rfl, ?_⟩
        replace hB328 := Bk.unO (J := []) 0 hB328 s327 rfl rfl rfl
        replace hr332 := hr332.un (J := []) s327
        replace hB333 := Bk.unO (J := []) 1 hB333 s327 rfl rfl rfl
        replace hO335 := Own.unO (J := []) 2 hO335 s327 rfl rfl rfl
        replace hM336 := Mp.unO (J := []) 3 hM336 s327 rfl rfl rfl
        replace s327 := un_stepL (J := []) (L' := [2, 3, 4, 5]) s327 rfl rfl
        refine E rfl (sg (ii z324.1) rfl) <|
         WL.nil <|
         WC.ret ?_
        obtain rfl := Option.some.inj H
        replace HF := HF.step s327 rfl
        exact ⟨_, (.tmp _ rfl .nil), _, Or.inr ⟨_, rfl, A329, c330, v334, rfl, HF.out, hB328, hl331, hr332, hB333, hO335, hM336⟩⟩
      ·
       refine WC.cond_f (vb c293 s59_287) ?_
       obtain ⟨z338, hz338, H⟩ := bindE H
       refine WC.cut (fun ρ_ w_ => ∃ (o_ : Tags), Fm o0 w0 o_ w_ [2, 3, 4, 5] ∧ Bk o_ w_ 2 pb0 [pp pb0_0 0, .slice A126 q117.2.f_l.length c127, ii q117.2.f_i, ii q117.2.f_names, ii q117.2.f_nest, .bool q117.2.f_counts, .bool q117.2.f_full] 80 ∧ Row T_api_Token.rep (fun b_ => o_ b_ = 0) (fun b_ => o_ b_ = 0) w_ A126 q117.2.f_l ∧ Bk o_ w_ 3 pb0_0 [pv0_0_0, .map (some pb0_0_1)] 56 ∧ Own T_api_Node.rep 60 4 o_ w_ pv0_0_0 a0_0.f_rows ∧ Mp (fun x_ : T_api_Node => Value.agg #[ii x_.f_Kind, encS x_.f_Name, ii x_.f_L, ii x_.f_R]) (fun v_ : Int => ii v_) 5 o_ w_ pb0_0_1 a0_0_1 ∧ Bk o_ w_ 40 b105 [ii z101.f_Kind, encS z101.f_Text, ii z101.f_Int, ii z101.f_At.f_Line, ii z101.f_At.f_Col, ii z101.f_At.f_Off] 76 ∧ ρ_ 0 = pp pb0 0 ∧ ρ_ 2 = ii 0 ∧ ρ_ 3 = pp b105 0 ∧ ρ_ 76 = .bool z338) ?case339 ?_
       case case339 =>
        rintro ρ342 w340 ⟨o341, HF, hB125, hr129, hB0_0, hO0_0_0, hM0_0_1, hB112, s0_336, s2_336, s3_336, s76_337⟩
        rcases condE H with ⟨c343, H⟩ | ⟨c343, H⟩
        ·
         refine WC.cond_t (vb c343 s76_337) <|
          WC.seq <|
          WC.region <|
          E rfl (mv (pp pb0 0) s0_336) ?_
         obtain ⟨z344, hz344, H⟩ := bindE H
         refine WL.op rfl <|
          OW.callP [pp pb0 0] rfl Tryz.func81 (by kernel_rfl) (by kernel_rfl) (map_cons' rfl rfl) (syntax_reader_take.calls _ _ pb0 A126 c127 pb0_0 pv0_0_0 pb0_0_1 (a0 := q117.2) (a0_0 := a0_0) hz344 (HF.ten (V := [0]) (L := [2, 3, 4, 5]) rfl) (Bk.vw hB125 rfl) (Row.vw hr129 rfl) hl128 (Bk.vw hB0_0 rfl) (Own.vw hO0_0_0 rfl rfl) (Mp.vw hM0_0_1 rfl)) ?_
         rintro _ w345 ⟨o346, (⟨p347, rfl, A352, c353, rfl, s349, hB351, hl354, hr355⟩ | ⟨q348, rfl, A357, c358, rfl, s350, hB356, hl359, hr360⟩)⟩
         ·
          refine Or.inr ⟨_, rfl, ?_⟩
          dsimp only at H
          replace hB351 := Bk.unO (J := []) 0 hB351 s349 rfl rfl rfl
          replace hr355 := hr355.un (J := []) s349
          replace s349 := un_stepL (J := []) (L' := [2]) s349 rfl rfl
          obtain rfl := Option.some.inj H
          replace hB0_0 := hB0_0.step s349 rfl
          replace hO0_0_0 := hO0_0_0.step s349 rfl rfl
          replace hM0_0_1 := hM0_0_1.step s349 rfl
          replace HF := HF.step s349 rfl
          exact ⟨_, Or.inl ⟨_, rfl, A352, c353, pv0_0_0, rfl, HF.out, hB351, hl354, hr355, hB0_0, hO0_0_0, hM0_0_1⟩⟩
         ·
          refine Or.inl ⟨_, rfl, ?_⟩
          dsimp only at H
          replace hB356 := Bk.unO (J := []) 0 hB356 s350 rfl rfl rfl
          replace hr360 := hr360.un (J := []) s350
          replace s350 := un_stepL (J := []) (L' := [2]) s350 rfl rfl
          refine WL.nil <|
           WC.seq <|
           WC.region <|
           E rfl (mv (pp pb0 0) s0_336) ?_
          obtain ⟨z361, hz361, H⟩ := bindE H
          refine WL.op rfl ?_
          replace hB0_0 := hB0_0.step s350 rfl
          replace hO0_0_0 := hO0_0_0.step s350 rfl rfl
          replace hM0_0_1 := hM0_0_1.step s350 rfl
          replace HF := HF.step s350 rfl
          refine OW.call [pp pb0 0, ii 2, encS ([] : List UInt8), ii 0, ii 0] rfl Tryz.func59 (by kernel_rfl) (by kernel_rfl) (map_cons' rfl (map_cons' rfl (map_cons' rfl (map_cons' rfl (map_cons' rfl rfl))))) (syntax_reader_node.calls k _ _ pb0 A357 c358 pb0_0 pv0_0_0 pb0_0_1 (a0 := q348.2) (a0_0 := a0_0) hz361 (HF.ten (V := [0]) (L := [2, 3, 4, 5]) rfl) (Bk.vw hB356 rfl) (Row.vw hr360 rfl) hl359 (Bk.vw hB0_0 rfl) (Own.vw hO0_0_0 rfl rfl) (Mp.vw hM0_0_1 rfl)) ?_
          rintro _ w362 ⟨o363, A366, c367, v371, rfl, s364, hB365, hl368, hr369, hB370, hO372, hM373⟩
          refine ⟨_, rfl, ?_⟩
          replace hB365 := Bk.unO (J := []) 0 hB365 s364 rfl rfl rfl
          replace hr369 := hr369.un (J := []) s364
          replace hB370 := Bk.unO (J := []) 1 hB370 s364 rfl rfl rfl
          replace hO372 := Own.unO (J := []) 2 hO372 s364 rfl rfl rfl
          replace hM373 := Mp.unO (J := []) 3 hM373 s364 rfl rfl rfl
          replace s364 := un_stepL (J := []) (L' := [2, 3, 4, 5]) s364 rfl rfl
          refine E rfl (sg (ii z361.1) rfl) <|
           WL.nil <|
           WC.ret ?_
          obtain rfl := Option.some.inj H
          replace HF := HF.step s364 rfl
          exact ⟨_, (.tmp _ rfl .nil), _, Or.inr ⟨_, rfl, A366, c367, v371, rfl, HF.out, hB365, hl368, hr369, hB370, hO372, hM373⟩⟩
        ·
         refine WC.cond_f (vb c343 s76_337) ?_
         obtain ⟨z375, hz375, H⟩ := bindE H
         refine WC.cut (fun ρ_ w_ => ∃ (o_ : Tags), Fm o0 w0 o_ w_ [2, 3, 4, 5] ∧ Bk o_ w_ 2 pb0 [pp pb0_0 0, .slice A126 q117.2.f_l.length c127, ii q117.2.f_i, ii q117.2.f_names, ii q117.2.f_nest, .bool q117.2.f_counts, .bool q117.2.f_full] 80 ∧ Row T_api_Token.rep (fun b_ => o_ b_ = 0) (fun b_ => o_ b_ = 0) w_ A126 q117.2.f_l ∧ Bk o_ w_ 3 pb0_0 [pv0_0_0, .map (some pb0_0_1)] 56 ∧ Own T_api_Node.rep 60 4 o_ w_ pv0_0_0 a0_0.f_rows ∧ Mp (fun x_ : T_api_Node => Value.agg #[ii x_.f_Kind, encS x_.f_Name, ii x_.f_L, ii x_.f_R]) (fun v_ : Int => ii v_) 5 o_ w_ pb0_0_1 a0_0_1 ∧ Bk o_ w_ 40 b105 [ii z101.f_Kind, encS z101.f_Text, ii z101.f_Int, ii z101.f_At.f_Line, ii z101.f_At.f_Col, ii z101.f_At.f_Off] 76 ∧ ρ_ 0 = pp pb0 0 ∧ ρ_ 2 = ii 0 ∧ ρ_ 3 = pp b105 0 ∧ ρ_ 89 = .bool z375) ?case376 ?_
         case case376 =>
          rintro ρ379 w377 ⟨o378, HF, hB125, hr129, hB0_0, hO0_0_0, hM0_0_1, hB112, s0_373, s2_373, s3_373, s89_374⟩
          rcases condE H with ⟨c380, H⟩ | ⟨c380, H⟩
          ·
           refine WC.cond_t (vb c380 s89_374) <|
            WC.seq <|
            WC.region <|
            E rfl (mv (pp pb0 0) s0_373) ?_
           obtain ⟨z381, hz381, H⟩ := bindE H
           refine WL.op rfl <|
            OW.callP [pp pb0 0] rfl Tryz.func81 (by kernel_rfl) (by kernel_rfl) (map_cons' rfl rfl) (syntax_reader_take.calls _ _ pb0 A126 c127 pb0_0 pv0_0_0 pb0_0_1 (a0 := q117.2) (a0_0 := a0_0) hz381 (HF.ten (V := [0]) (L := [2, 3, 4, 5]) rfl) (Bk.vw hB125 rfl) (Row.vw hr129 rfl) hl128 (Bk.vw hB0_0 rfl) (Own.vw hO0_0_0 rfl rfl) (Mp.vw hM0_0_1 rfl)) ?_
           rintro _ w382 ⟨o383, (⟨p384, rfl, A389, c390, rfl, s386, hB388, hl391, hr392⟩ | ⟨q385, rfl, A394, c395, rfl, s387, hB393, hl396, hr397⟩)⟩
           ·
            refine Or.inr ⟨_, rfl, ?_⟩
            dsimp only at H
            replace hB388 := Bk.unO (J := []) 0 hB388 s386 rfl rfl rfl
            replace hr392 := hr392.un (J := []) s386
            replace s386 := un_stepL (J := []) (L' := [2]) s386 rfl rfl
            obtain rfl := Option.some.inj H
            replace hB0_0 := hB0_0.step s386 rfl
            replace hO0_0_0 := hO0_0_0.step s386 rfl rfl
            replace hM0_0_1 := hM0_0_1.step s386 rfl
            replace HF := HF.step s386 rfl
            exact ⟨_, Or.inl ⟨_, rfl, A389, c390, pv0_0_0, rfl, HF.out, hB388, hl391, hr392, hB0_0, hO0_0_0, hM0_0_1⟩⟩
           ·
            refine Or.inl ⟨_, rfl, ?_⟩
            dsimp only at H
            replace hB393 := Bk.unO (J := []) 0 hB393 s387 rfl rfl rfl
            replace hr397 := hr397.un (J := []) s387
            replace s387 := un_stepL (J := []) (L' := [2]) s387 rfl rfl
            refine WL.nil <|
             WC.seq <|
             WC.region <|
             E rfl (mv (pp pb0 0) s0_373) <|
             E rfl (ex_fieldAddr s3_373 U76 rfl sz9) ?_
            replace hB112 := hB112.step s387 rfl
            refine E rfl (ex_load1 rfl U9 rfl (hB112.cell rfl)) ?_
            obtain ⟨z398, hz398, H⟩ := bindE H
            refine WL.op rfl ?_
            replace hB0_0 := hB0_0.step s387 rfl
            replace hO0_0_0 := hO0_0_0.step s387 rfl rfl
            replace hM0_0_1 := hM0_0_1.step s387 rfl
            replace HF := HF.step s387 rfl
            refine OW.call [pp pb0 0, ii 1, encS z101.f_Text, ii 0, ii 0] rfl Tryz.func59 (by kernel_rfl) (by kernel_rfl) (map_cons' rfl (map_cons' rfl (map_cons' rfl (map_cons' rfl (map_cons' rfl rfl))))) (syntax_reader_node.calls k _ _ pb0 A394 c395 pb0_0 pv0_0_0 pb0_0_1 (a0 := q385.2) (a0_0 := a0_0) hz398 (HF.ten (V := [0]) (L := [2, 3, 4, 5]) rfl) (Bk.vw hB393 rfl) (Row.vw hr397 rfl) hl396 (Bk.vw hB0_0 rfl) (Own.vw hO0_0_0 rfl rfl) (Mp.vw hM0_0_1 rfl)) ?_
            rintro _ w399 ⟨o400, A403, c404, v408, rfl, s401, hB402, hl405, hr406, hB407, hO409, hM410⟩
            refine ⟨_, rfl, ?_⟩
            replace hB402 := Bk.unO (J := []) 0 hB402 s401 rfl rfl rfl
            replace hr406 := hr406.un (J := []) s401
            replace hB407 := Bk.unO (J := []) 1 hB407 s401 rfl rfl rfl
            replace hO409 := Own.unO (J := []) 2 hO409 s401 rfl rfl rfl
            replace hM410 := Mp.unO (J := []) 3 hM410 s401 rfl rfl rfl
            replace s401 := un_stepL (J := []) (L' := [2, 3, 4, 5]) s401 rfl rfl
            refine E rfl (sg (ii z398.1) rfl) <|
             WL.nil <|
             WC.ret ?_
            obtain rfl := Option.some.inj H
            replace HF := HF.step s401 rfl
            exact ⟨_, (.tmp _ rfl .nil), _, Or.inr ⟨_, rfl, A403, c404, v408, rfl, HF.out, hB402, hl405, hr406, hB407, hO409, hM410⟩⟩
          ·
           refine WC.cond_f (vb c380 s89_374) <|
            WC.skip <|
            WC.seq <|
            WC.region <|
            E rfl (mv (pp pb0 0) s0_373) ?_
           obtain ⟨z411, hz411, H⟩ := bindE H
           refine WL.op rfl <|
            OW.callP [pp pb0 0, ii 41] rfl Tryz.func34 (by kernel_rfl) (by kernel_rfl) (map_cons' rfl (map_cons' rfl rfl)) (syntax_reader_fail.calls _ _ pb0 A126 c127 pb0_0 pv0_0_0 pb0_0_1 (a0 := q117.2) (a0_0 := a0_0) hz411 (HF.ten (V := [0]) (L := [2, 3, 4, 5]) rfl) (Bk.vw hB125 rfl) (Row.vw hr129 rfl) hl128 (Bk.vw hB0_0 rfl) (Own.vw hO0_0_0 rfl rfl) (Mp.vw hM0_0_1 rfl)) ?_
           rintro _ w412 ⟨o413, (⟨p414, rfl, rfl, s416⟩ | ⟨q415, rfl, rfl, s417⟩)⟩
           ·
            refine Or.inr ⟨_, rfl, ?_⟩
            dsimp only at H
            replace s416 := un_stepL (J := []) (L' := []) s416 rfl rfl
            obtain rfl := Option.some.inj H
            replace hB125 := hB125.step s416 rfl
            replace hr129 := hr129.step s416 rfl
            replace hB0_0 := hB0_0.step s416 rfl
            replace hO0_0_0 := hO0_0_0.step s416 rfl rfl
            replace hM0_0_1 := hM0_0_1.step s416 rfl
            replace HF := HF.step s416 rfl
            exact ⟨_, Or.inl ⟨_, rfl, A126, c127, pv0_0_0, rfl, HF.out, hB125, hl128, hr129, hB0_0, hO0_0_0, hM0_0_1⟩⟩
           ·
            refine Or.inl ⟨_, rfl, ?_⟩
            dsimp only at H
            replace s417 := un_stepL (J := []) (L' := []) s417 rfl rfl
            refine WL.nil <|
             WC.seq <|
             WC.region <|
             E rfl (sg (ii 0) rfl) <|
             WL.nil <|
             WC.ret ?_
            obtain rfl := Option.some.inj H
            replace hB125 := hB125.step s417 rfl
            replace hr129 := hr129.step s417 rfl
            replace hB0_0 := hB0_0.step s417 rfl
            replace hO0_0_0 := hO0_0_0.step s417 rfl rfl
            replace hM0_0_1 := hM0_0_1.step s417 rfl
            replace HF := HF.step s417 rfl
            exact ⟨_, (.tmp _ rfl .nil), _, Or.inr ⟨_, rfl, A126, c127, pv0_0_0, rfl, HF.out, hB125, hl128, hr129, hB0_0, hO0_0_0, hM0_0_1⟩⟩
         have Ho418 := H
         replace H := hz375
         refine WC.region <|
          E rfl (ex_fieldAddr s3_336 U76 rfl sz74) <|
          E rfl (ex_load1 rfl U74 rfl (hB112.cell rfl)) <|
          E rfl (e2 bin_eql rfl rfl) <|
          E rfl (mv (.bool (z101.f_Kind == 1)) rfl) ?_
         rcases condE H with ⟨c419, H⟩ | ⟨c419, H⟩
         ·
          refine WL.guardYes rfl rfl rfl (vb c419 rfl) <|
           OW.ex rfl (ex_fieldAddr s3_336 U76 rfl sz9) <|
           WL.guardYes rfl rfl rfl (vb c419 rfl) <|
           OW.ex rfl (ex_load1 rfl U9 rfl (hB112.cell rfl)) <|
           WL.guardYes rfl rfl rfl (vb c419 rfl) ?_
          obtain ⟨z420, hz420, H⟩ := bindE H
          refine OW.call [encS z101.f_Text] rfl Tryz.func112 (by kernel_rfl) (by kernel_rfl) (map_cons' rfl rfl) (formula_Word.calls k _ _ hz420 (HF.ten (V := [0]) (L := []) rfl) ) ?_
          rintro _ w421 ⟨o422, rfl, s423⟩
          refine ⟨_, rfl, ?_⟩
          replace s423 := un_stepL (J := []) (L' := []) s423 rfl rfl
          refine E rfl (ex_pick_t (v := .bool z420) (vb c419 rfl) rfl) <|
           E rfl (sg (.bool z420) rfl) <|
           WL.nil ?_
          obtain rfl := Option.some.inj H
          replace hB125 := hB125.step s423 rfl
          replace hr129 := hr129.step s423 rfl
          replace hB0_0 := hB0_0.step s423 rfl
          replace hO0_0_0 := hO0_0_0.step s423 rfl rfl
          replace hM0_0_1 := hM0_0_1.step s423 rfl
          replace hB112 := hB112.step s423 rfl
          replace HF := HF.step s423 rfl
          exact ⟨_, HF, hB125, hr129, hB0_0, hO0_0_0, hM0_0_1, hB112, s0_336, s2_336, s3_336, rfl⟩
         ·
          refine WL.guardNo rfl rfl rfl (vb c419 rfl) <|
           WL.guardNo rfl rfl rfl (vb c419 rfl) <|
           WL.guardNo rfl rfl rfl (vb c419 rfl) <|
           E rfl (ex_pick_f (v := .bool false) (vb c419 rfl) rfl) <|
           E rfl (sg (.bool false) rfl) <|
           WL.nil ?_
          obtain rfl := Option.some.inj H
          exact ⟨_, HF, hB125, hr129, hB0_0, hO0_0_0, hM0_0_1, hB112, s0_336, s2_336, s3_336, rfl⟩
       have Ho424 := H
       replace H := hz338
       refine WC.region <|
        E rfl (ex_fieldAddr s3_286 U76 rfl sz74) <|
        E rfl (ex_load1 rfl U74 rfl (hB112.cell rfl)) <|
        E rfl (e2 bin_eql rfl rfl) <|
        E rfl (mv (.bool (z101.f_Kind == 1)) rfl) ?_
       rcases condE H with ⟨c425, H⟩ | ⟨c425, H⟩
       ·
        refine WL.guardYes rfl rfl rfl (vb c425 rfl) <|
         OW.ex rfl (ex_fieldAddr s3_286 U76 rfl sz9) <|
         WL.guardYes rfl rfl rfl (vb c425 rfl) <|
         OW.ex rfl (ex_load1 rfl U9 rfl (hB112.cell rfl)) <|
         WL.guardYes rfl rfl rfl (vb c425 rfl) <|
         OW.ex rfl (e2 bin_eql_str rfl rfl) <|
         E rfl (ex_pick_t (v := .bool (z101.f_Text == ([102, 97, 108, 115, 101] : List UInt8))) (vb c425 rfl) rfl) <|
         E rfl (sg (.bool (z101.f_Text == ([102, 97, 108, 115, 101] : List UInt8))) rfl) <|
         WL.nil ?_
        obtain rfl := Option.some.inj H
        exact ⟨_, HF, hB125, hr129, hB0_0, hO0_0_0, hM0_0_1, hB112, s0_286, s2_286, s3_286, rfl⟩
       ·
        refine WL.guardNo rfl rfl rfl (vb c425 rfl) <|
         WL.guardNo rfl rfl rfl (vb c425 rfl) <|
         WL.guardNo rfl rfl rfl (vb c425 rfl) <|
         E rfl (ex_pick_f (v := .bool false) (vb c425 rfl) rfl) <|
         E rfl (sg (.bool false) rfl) <|
         WL.nil ?_
        obtain rfl := Option.some.inj H
        exact ⟨_, HF, hB125, hr129, hB0_0, hO0_0_0, hM0_0_1, hB112, s0_286, s2_286, s3_286, rfl⟩
     have Ho426 := H
     replace H := hz288
     refine WC.region <|
      E rfl (ex_fieldAddr s3_181 U76 rfl sz74) <|
      E rfl (ex_load1 rfl U74 rfl (hB112.cell rfl)) <|
      E rfl (e2 bin_eql rfl rfl) <|
      E rfl (mv (.bool (z101.f_Kind == 1)) rfl) ?_
     rcases condE H with ⟨c427, H⟩ | ⟨c427, H⟩
     ·
      refine WL.guardYes rfl rfl rfl (vb c427 rfl) <|
       OW.ex rfl (ex_fieldAddr s3_181 U76 rfl sz9) <|
       WL.guardYes rfl rfl rfl (vb c427 rfl) <|
       OW.ex rfl (ex_load1 rfl U9 rfl (hB112.cell rfl)) <|
       WL.guardYes rfl rfl rfl (vb c427 rfl) <|
       OW.ex rfl (e2 bin_eql_str rfl rfl) <|
       E rfl (ex_pick_t (v := .bool (z101.f_Text == ([116, 114, 117, 101] : List UInt8))) (vb c427 rfl) rfl) <|
       E rfl (sg (.bool (z101.f_Text == ([116, 114, 117, 101] : List UInt8))) rfl) <|
       WL.nil ?_
      obtain rfl := Option.some.inj H
      exact ⟨_, HF, hB125, hr129, hB0_0, hO0_0_0, hM0_0_1, hB112, s0_181, s2_181, s3_181, rfl⟩
     ·
      refine WL.guardNo rfl rfl rfl (vb c427 rfl) <|
       WL.guardNo rfl rfl rfl (vb c427 rfl) <|
       WL.guardNo rfl rfl rfl (vb c427 rfl) <|
       E rfl (ex_pick_f (v := .bool false) (vb c427 rfl) rfl) <|
       E rfl (sg (.bool false) rfl) <|
       WL.nil ?_
      obtain rfl := Option.some.inj H
      exact ⟨_, HF, hB125, hr129, hB0_0, hO0_0_0, hM0_0_1, hB112, s0_181, s2_181, s3_181, rfl⟩
   have Ho428 := H
   replace H := hz183
   refine WC.region <|
    E rfl (ex_fieldAddr rfl U76 rfl sz74) ?_
   replace hB112 := hB112.step s119 rfl
   refine E rfl (ex_load1 rfl U74 rfl (hB112.cell rfl)) <|
    E rfl (e2 bin_eql rfl rfl) <|
    E rfl (mv (.bool (z101.f_Kind == 3)) rfl) ?_
   rcases condE H with ⟨c429, H⟩ | ⟨c429, H⟩
   ·
    refine WL.guardYes rfl rfl rfl (vb c429 rfl) <|
     OW.ex rfl (ex_fieldAddr rfl U76 rfl sz9) <|
     WL.guardYes rfl rfl rfl (vb c429 rfl) <|
     OW.ex rfl (ex_load1 rfl U9 rfl (hB112.cell rfl)) <|
     WL.guardYes rfl rfl rfl (vb c429 rfl) <|
     OW.ex rfl (e2 bin_eql_str rfl rfl) <|
     E rfl (ex_pick_t (v := .bool (z101.f_Text == ([40] : List UInt8))) (vb c429 rfl) rfl) <|
     E rfl (sg (.bool (z101.f_Text == ([40] : List UInt8))) rfl) <|
     WL.nil ?_
    obtain rfl := Option.some.inj H
    replace hO0_0_0 := hO0_0_0.step s119 rfl rfl
    replace hB0_0 := hB0_0.step s119 rfl
    replace hM0_0_1 := hM0_0_1.step s119 rfl
    replace HF := HF.step s119 rfl
    exact ⟨_, HF, hB125, hr129, hB0_0, hO0_0_0, hM0_0_1, hB112, rfl, rfl, rfl, rfl⟩
   ·
    refine WL.guardNo rfl rfl rfl (vb c429 rfl) <|
     WL.guardNo rfl rfl rfl (vb c429 rfl) <|
     WL.guardNo rfl rfl rfl (vb c429 rfl) <|
     E rfl (ex_pick_f (v := .bool false) (vb c429 rfl) rfl) <|
     E rfl (sg (.bool false) rfl) <|
     WL.nil ?_
    obtain rfl := Option.some.inj H
    replace hO0_0_0 := hO0_0_0.step s119 rfl rfl
    replace hB0_0 := hB0_0.step s119 rfl
    replace hM0_0_1 := hM0_0_1.step s119 rfl
    replace HF := HF.step s119 rfl
    exact ⟨_, HF, hB125, hr129, hB0_0, hO0_0_0, hM0_0_1, hB112, rfl, rfl, rfl, rfl⟩

/-! ### syntax_reader_row_syntax_reader_single -/
set_option maxRecDepth 100000 in
theorem syntax_reader_row_syntax_reader_single.callsF (k : Nat) (R : G_syntax_reader_formula) (hR : G_syntax_reader_formula.OK R) : syntax_reader_row_syntax_reader_single.Spec (syntax_reader_row_syntax_reader_single.F k R) := by
 intro o0 w0 pb0 pA0_1 pc0_1 pb0_0 pv0_0_0 pb0_0_1 a0 a1 a3 a0_0 a0_0_1 r H hO hB0 hra0_1 hla0_1 hB0_0 hO0_0_0 hM0_0_1
 have HF := Fm.refl hO [2, 3, 4, 5]
 unfold syntax_reader_row_syntax_reader_single.F at H
 refine SX.calls [pp pb0 0, encS a1, .func (.func 100) #[pp pb0 0] #[], ii a3] Tryz.func79 rfl rfl ?_
 rw [Tryz.ntmps79]
 refine WC.seq <|
  WC.region <|
  E rfl (sg (ii 0) rfl) <|
  WL.nil <|
  WC.seq <|
  WC.region <|
  E rfl (mv (.func (.func 100) #[pp pb0 0] #[]) rfl) ?_
 obtain ⟨z101, hz101, H⟩ := bindE H
 refine WL.op rfl <|
  OW.callFP [pp pb0 0] [] (show ev _ _ = .func (.func 100) #[pp pb0 0] #[] from rfl) [] rfl Tryz.func100 (by kernel_rfl) (by kernel_rfl) rfl (hR.syntax_reader_single _ _ pb0 pA0_1 pc0_1 pb0_0 pv0_0_0 pb0_0_1 (a0 := a0) (a0_0 := a0_0) hz101 (HF.ten (V := [0]) (L := [2, 3, 4, 5]) rfl) (Bk.vw hB0 rfl) (Row.vw hra0_1 rfl) hla0_1 (Bk.vw hB0_0 rfl) (Own.vw hO0_0_0 rfl rfl) (Mp.vw hM0_0_1 rfl)) ?_
 rintro _ w102 ⟨o103, (⟨p104, rfl, A109, c110, v114, rfl, s106, hB108, hl111, hr112, hB113, hO115, hM116⟩ | ⟨q105, rfl, A118, c119, v123, rfl, s107, hB117, hl120, hr121, hB122, hO124, hM125⟩)⟩
 ·
  refine Or.inr ⟨_, rfl, ?_⟩
  dsimp only at H
  replace hB108 := Bk.unO (J := []) 0 hB108 s106 rfl rfl rfl
  replace hr112 := hr112.un (J := []) s106
  replace hB113 := Bk.unO (J := []) 1 hB113 s106 rfl rfl rfl
  replace hO115 := Own.unO (J := []) 2 hO115 s106 rfl rfl rfl
  replace hM116 := Mp.unO (J := []) 3 hM116 s106 rfl rfl rfl
  replace s106 := un_stepL (J := []) (L' := [2, 3, 4, 5]) s106 rfl rfl
  obtain rfl := Option.some.inj H
  replace HF := HF.step s106 rfl
  exact ⟨_, Or.inl ⟨_, rfl, A109, c110, v114, rfl, HF.out, hB108, hl111, hr112, hB113, hO115, hM116⟩⟩
 ·
  refine Or.inl ⟨_, rfl, ?_⟩
  dsimp only at H
  replace hB117 := Bk.unO (J := []) 0 hB117 s107 rfl rfl rfl
  replace hr121 := hr121.un (J := []) s107
  replace hB122 := Bk.unO (J := []) 1 hB122 s107 rfl rfl rfl
  replace hO124 := Own.unO (J := []) 2 hO124 s107 rfl rfl rfl
  replace hM125 := Mp.unO (J := []) 3 hM125 s107 rfl rfl rfl
  replace s107 := un_stepL (J := []) (L' := [2, 3, 4, 5]) s107 rfl rfl
  refine E rfl (sg (ii q105.1) rfl) <|
   WL.nil <|
   WC.seq ?_
  obtain ⟨z146, hz146, H⟩ := bindE H
  replace HF := HF.step s107 rfl
  refine WC.for (fun k_ ρ_ w_ => ∃ (o_ : Tags) (x126 : Int) (x127 : T_syntax_reader) (x132 : T_formula_Table) (x135 : (List (T_api_Node × Int))) (A128 : Option Addr) (c129 : Nat) (v133 : Value), Fm o0 w0 o_ w_ [2, 3, 4, 5] ∧ Bk o_ w_ 2 pb0 [pp pb0_0 0, .slice A128 x127.f_l.length c129, ii x127.f_i, ii x127.f_names, ii x127.f_nest, .bool x127.f_counts, .bool x127.f_full] 80 ∧ Row T_api_Token.rep (fun b_ => o_ b_ = 0) (fun b_ => o_ b_ = 0) w_ A128 x127.f_l ∧ x127.f_l.length ≤ c129 ∧ Bk o_ w_ 3 pb0_0 [v133, .map (some pb0_0_1)] 56 ∧ Own T_api_Node.rep 60 4 o_ w_ v133 x132.f_rows ∧ Mp (fun x_ : T_api_Node => Value.agg #[ii x_.f_Kind, encS x_.f_Name, ii x_.f_L, ii x_.f_R]) (fun v_ : Int => ii v_) 5 o_ w_ pb0_0_1 x135 ∧ ρ_ 0 = pp pb0 0 ∧ ρ_ 1 = encS a1 ∧ ρ_ 2 = .func (.func 100) #[pp pb0 0] #[] ∧ ρ_ 3 = ii a3 ∧ ρ_ 8 = ii 0 ∧ ρ_ 9 = ii x126 ∧ syntax_reader_row_syntax_reader_single.l1 k a1 a3 R k_ x126 x127 x132 x135 = some z146) k (fun ρ_ w_ => ∃ (o_ : Tags) (x136 : Int) (x137 : T_syntax_reader) (x142 : T_formula_Table) (x145 : (List (T_api_Node × Int))) (A138 : Option Addr) (c139 : Nat) (v143 : Value), Fm o0 w0 o_ w_ [2, 3, 4, 5] ∧ Bk o_ w_ 2 pb0 [pp pb0_0 0, .slice A138 x137.f_l.length c139, ii x137.f_i, ii x137.f_names, ii x137.f_nest, .bool x137.f_counts, .bool x137.f_full] 80 ∧ Row T_api_Token.rep (fun b_ => o_ b_ = 0) (fun b_ => o_ b_ = 0) w_ A138 x137.f_l ∧ x137.f_l.length ≤ c139 ∧ Bk o_ w_ 3 pb0_0 [v143, .map (some pb0_0_1)] 56 ∧ Own T_api_Node.rep 60 4 o_ w_ v143 x142.f_rows ∧ Mp (fun x_ : T_api_Node => Value.agg #[ii x_.f_Kind, encS x_.f_Name, ii x_.f_L, ii x_.f_R]) (fun v_ : Int => ii v_) 5 o_ w_ pb0_0_1 x145 ∧ ρ_ 8 = ii 0 ∧ ρ_ 9 = ii x136 ∧ z146 = .inr (x136, x137, x142, x145)) ⟨_, q105.1, q105.2.1, q105.2.2.1, q105.2.2.2, _, _, _, HF, hB117, hr121, hl120, hB122, hO124, hM125, rfl, rfl, rfl, rfl, rfl, rfl, hz146⟩ ?case147 ?_
  case case147 =>
   rintro ρ209 w210 ⟨o211, x136, x137, x142, x145, A138, c139, v143, HF, hB148, hr140, hl141, hB122, hO144, hM125, s8_135, s9_136, rfl⟩
   dsimp only at H
   refine WC.seq <|
    WC.region <|
    E rfl (mv (ii x136) s9_136) <|
    E rfl (sg (ii x136) rfl) <|
    WL.nil <|
    WC.ret ?_
   obtain rfl := Option.some.inj H
   exact ⟨_, (.tmp _ rfl .nil), _, Or.inr ⟨_, rfl, A138, c139, v143, rfl, HF.out, hB148, hl141, hr140, hB122, hO144, hM125⟩⟩
  have Ho148 := H
  rintro k149 ρ150 w151 ⟨o152, x126, x127, x132, x135, A128, c129, v133, HF, hB117, hr130, hl131, hB122, hO134, hM125, s0_125, s1_125, s2_125, s3_125, s8_125, s9_126, H⟩
  cases k149 with
  | zero => cases H
  | succ k149 =>
  rw [syntax_reader_row_syntax_reader_single.l1.eq_2] at H
  refine WC.seq <|
   WC.seq <|
   WC.region <|
   E rfl (mv (pp pb0 0) s0_125) <|
   E rfl (mv (encS a1) s1_125) ?_
  obtain ⟨z153, hz153, H⟩ := bindE H
  refine WL.op rfl <|
   OW.callP [pp pb0 0, encS a1] rfl Tryz.func58 (by kernel_rfl) (by kernel_rfl) (map_cons' rfl (map_cons' rfl rfl)) (syntax_reader_sign.calls _ _ pb0 A128 c129 pb0_0 v133 pb0_0_1 (a0 := x127) (a0_0 := x132) hz153 (HF.ten (V := [0]) (L := [2, 3, 4, 5]) rfl) (Bk.vw hB117 rfl) (Row.vw hr130 rfl) hl131 (Bk.vw hB122 rfl) (Own.vw hO134 rfl rfl) (Mp.vw hM125 rfl)) ?_
  rintro _ w154 ⟨o155, (⟨p156, rfl, A161, c162, rfl, s158, hB160, hl163, hr164⟩ | ⟨q157, rfl, A166, c167, rfl, s159, hB165, hl168, hr169⟩)⟩
  ·
   refine Or.inr ⟨_, rfl, ?_⟩
   dsimp only at H
   replace hB160 := Bk.unO (J := []) 0 hB160 s158 rfl rfl rfl
   replace hr164 := hr164.un (J := []) s158
   replace s158 := un_stepL (J := []) (L' := [2]) s158 rfl rfl
   obtain rfl := Option.some.inj H
   replace H := Ho148
   dsimp only at H
   obtain rfl := Option.some.inj H
   replace hB122 := hB122.step s158 rfl
   replace hO134 := hO134.step s158 rfl rfl
   replace hM125 := hM125.step s158 rfl
   replace HF := HF.step s158 rfl
   exact ⟨_, Or.inl ⟨_, rfl, A161, c162, v133, rfl, HF.out, hB160, hl163, hr164, hB122, hO134, hM125⟩⟩
  ·
   refine Or.inl ⟨_, rfl, ?_⟩
   dsimp only at H
   replace hB165 := Bk.unO (J := []) 0 hB165 s159 rfl rfl rfl
   replace hr169 := hr169.un (J := []) s159
   replace s159 := un_stepL (J := []) (L' := [2]) s159 rfl rfl
   refine WL.nil ?_
   rcases condE H with ⟨c170, H⟩ | ⟨c170, H⟩
   ·
    refine WC.cond_t (vb c170 rfl) <|
     WC.skip <|
     WC.block <|
     WC.region <|
     E rfl (mv (pp pb0 0) s0_125) <|
     E rfl (mv (ii a3) s3_125) <|
     E rfl (mv (ii x126) s9_126) <|
     E rfl (mv (.func (.func 100) #[pp pb0 0] #[]) s2_125) ?_
    obtain ⟨z171, hz171, H⟩ := bindE H
    refine WL.op rfl ?_
    replace hB122 := hB122.step s159 rfl
    replace hO134 := hO134.step s159 rfl rfl
    replace hM125 := hM125.step s159 rfl
    replace HF := HF.step s159 rfl
    refine OW.callFP [pp pb0 0] [] (show ev _ _ = .func (.func 100) #[pp pb0 0] #[] from rfl) [] rfl Tryz.func100 (by kernel_rfl) (by kernel_rfl) rfl (hR.syntax_reader_single _ _ pb0 A166 c167 pb0_0 v133 pb0_0_1 (a0 := q157.2) (a0_0 := x132) hz171 (HF.ten (V := [0]) (L := [2, 3, 4, 5]) rfl) (Bk.vw hB165 rfl) (Row.vw hr169 rfl) hl168 (Bk.vw hB122 rfl) (Own.vw hO134 rfl rfl) (Mp.vw hM125 rfl)) ?_
    rintro _ w172 ⟨o173, (⟨p174, rfl, A179, c180, v184, rfl, s176, hB178, hl181, hr182, hB183, hO185, hM186⟩ | ⟨q175, rfl, A188, c189, v193, rfl, s177, hB187, hl190, hr191, hB192, hO194, hM195⟩)⟩
    ·
     refine Or.inr ⟨_, rfl, ?_⟩
     dsimp only at H
     replace hB178 := Bk.unO (J := []) 0 hB178 s176 rfl rfl rfl
     replace hr182 := hr182.un (J := []) s176
     replace hB183 := Bk.unO (J := []) 1 hB183 s176 rfl rfl rfl
     replace hO185 := Own.unO (J := []) 2 hO185 s176 rfl rfl rfl
     replace hM186 := Mp.unO (J := []) 3 hM186 s176 rfl rfl rfl
     replace s176 := un_stepL (J := []) (L' := [2, 3, 4, 5]) s176 rfl rfl
     obtain rfl := Option.some.inj H
     replace H := Ho148
     dsimp only at H
     obtain rfl := Option.some.inj H
     replace HF := HF.step s176 rfl
     exact ⟨_, Or.inl ⟨_, rfl, A179, c180, v184, rfl, HF.out, hB178, hl181, hr182, hB183, hO185, hM186⟩⟩
    ·
     refine Or.inl ⟨_, rfl, ?_⟩
     dsimp only at H
     replace hB187 := Bk.unO (J := []) 0 hB187 s177 rfl rfl rfl
     replace hr191 := hr191.un (J := []) s177
     replace hB192 := Bk.unO (J := []) 1 hB192 s177 rfl rfl rfl
     replace hO194 := Own.unO (J := []) 2 hO194 s177 rfl rfl rfl
     replace hM195 := Mp.unO (J := []) 3 hM195 s177 rfl rfl rfl
     replace s177 := un_stepL (J := []) (L' := [2, 3, 4, 5]) s177 rfl rfl
     obtain ⟨z196, hz196, H⟩ := bindE H
     refine WL.op rfl ?_
     replace HF := HF.step s177 rfl
     refine OW.call [pp pb0 0, ii a3, encS ([] : List UInt8), ii x126, ii q175.1] rfl Tryz.func59 (by kernel_rfl) (by kernel_rfl) (map_cons' rfl (map_cons' rfl (map_cons' rfl (map_cons' rfl (map_cons' rfl rfl))))) (syntax_reader_node.calls k _ _ pb0 A188 c189 pb0_0 v193 pb0_0_1 (a0 := q175.2.1) (a0_0 := q175.2.2.1) hz196 (HF.ten (V := [0]) (L := [2, 3, 4, 5]) rfl) (Bk.vw hB187 rfl) (Row.vw hr191 rfl) hl190 (Bk.vw hB192 rfl) (Own.vw hO194 rfl rfl) (Mp.vw hM195 rfl)) ?_
     rintro _ w197 ⟨o198, A201, c202, v206, rfl, s199, hB200, hl203, hr204, hB205, hO207, hM208⟩
     refine ⟨_, rfl, ?_⟩
     replace hB200 := Bk.unO (J := []) 0 hB200 s199 rfl rfl rfl
     replace hr204 := hr204.un (J := []) s199
     replace hB205 := Bk.unO (J := []) 1 hB205 s199 rfl rfl rfl
     replace hO207 := Own.unO (J := []) 2 hO207 s199 rfl rfl rfl
     replace hM208 := Mp.unO (J := []) 3 hM208 s199 rfl rfl rfl
     replace s199 := un_stepL (J := []) (L' := [2, 3, 4, 5]) s199 rfl rfl
     refine E rfl (sg (ii z196.1) rfl) <|
      WL.nil ?_
     replace HF := HF.step s199 rfl
     exact ⟨k149, Nat.lt_succ_self _, ⟨_, z196.1, z196.2.1, z196.2.2.1, z196.2.2.2, _, _, _, HF, hB200, hr204, hl203, hB205, hO207, hM208, s0_125, s1_125, s2_125, s3_125, s8_125, rfl, H⟩⟩
   ·
    refine WC.cond_f (vb c170 rfl) <|
     WC.exit ?_
    obtain rfl := Option.some.inj H
    replace hB122 := hB122.step s159 rfl
    replace hO134 := hO134.step s159 rfl rfl
    replace hM125 := hM125.step s159 rfl
    replace HF := HF.step s159 rfl
    exact ⟨_, x126, q157.2, x132, x135, _, _, _, HF, hB165, hr169, hl168, hB122, hO134, hM125, s8_125, s9_126, rfl⟩

/-! ### syntax_reader_both -/
set_option maxRecDepth 100000 in
theorem syntax_reader_both.callsF (k : Nat) (R : G_syntax_reader_formula) (hR : G_syntax_reader_formula.OK R) : syntax_reader_both.Spec (syntax_reader_both.F k R) := by
 intro o0 w0 pb0 pA0_1 pc0_1 pb0_0 pv0_0_0 pb0_0_1 a0 a0_0 a0_0_1 r H hO hB0 hra0_1 hla0_1 hB0_0 hO0_0_0 hM0_0_1
 have HF := Fm.refl hO [2, 3, 4, 5]
 unfold syntax_reader_both.F at H
 refine SX.calls [pp pb0 0] Tryz.func80 rfl rfl ?_
 rw [Tryz.ntmps80]
 refine WC.seq <|
  WC.region <|
  E rfl (sg (ii 0) rfl) <|
  WL.nil <|
  WC.seq <|
  WC.region <|
  E rfl (mv (pp pb0 0) rfl) <|
  E rfl (mv (pp pb0 0) rfl) <|
  E rfl (ex_makeFuncB [pp pb0 0] [] (map_cons' rfl rfl) rfl) ?_
 obtain ⟨z101, hz101, H⟩ := bindE H
 refine WL.op rfl <|
  OW.callP [pp pb0 0, encS ([38] : List UInt8), .func (.func 100) #[pp pb0 0] #[], ii 3] rfl Tryz.func79 (by kernel_rfl) (by kernel_rfl) (map_cons' rfl (map_cons' rfl (map_cons' rfl (map_cons' rfl rfl)))) (hR.syntax_reader_row_syntax_reader_single _ _ pb0 pA0_1 pc0_1 pb0_0 pv0_0_0 pb0_0_1 (a0 := a0) (a0_0 := a0_0) hz101 (HF.ten (V := [0]) (L := [2, 3, 4, 5]) rfl) (Bk.vw hB0 rfl) (Row.vw hra0_1 rfl) hla0_1 (Bk.vw hB0_0 rfl) (Own.vw hO0_0_0 rfl rfl) (Mp.vw hM0_0_1 rfl)) ?_
 rintro _ w102 ⟨o103, (⟨p104, rfl, A109, c110, v114, rfl, s106, hB108, hl111, hr112, hB113, hO115, hM116⟩ | ⟨q105, rfl, A118, c119, v123, rfl, s107, hB117, hl120, hr121, hB122, hO124, hM125⟩)⟩
 ·
  refine Or.inr ⟨_, rfl, ?_⟩
  dsimp only at H
  replace hB108 := Bk.unO (J := []) 0 hB108 s106 rfl rfl rfl
  replace hr112 := hr112.un (J := []) s106
  replace hB113 := Bk.unO (J := []) 1 hB113 s106 rfl rfl rfl
  replace hO115 := Own.unO (J := []) 2 hO115 s106 rfl rfl rfl
  replace hM116 := Mp.unO (J := []) 3 hM116 s106 rfl rfl rfl
  replace s106 := un_stepL (J := []) (L' := [2, 3, 4, 5]) s106 rfl rfl
  obtain rfl := Option.some.inj H
  replace HF := HF.step s106 rfl
  exact ⟨_, Or.inl ⟨_, rfl, A109, c110, v114, rfl, HF.out, hB108, hl111, hr112, hB113, hO115, hM116⟩⟩
 ·
  refine Or.inl ⟨_, rfl, ?_⟩
  dsimp only at H
  replace hB117 := Bk.unO (J := []) 0 hB117 s107 rfl rfl rfl
  replace hr121 := hr121.un (J := []) s107
  replace hB122 := Bk.unO (J := []) 1 hB122 s107 rfl rfl rfl
  replace hO124 := Own.unO (J := []) 2 hO124 s107 rfl rfl rfl
  replace hM125 := Mp.unO (J := []) 3 hM125 s107 rfl rfl rfl
  replace s107 := un_stepL (J := []) (L' := [2, 3, 4, 5]) s107 rfl rfl
  refine E rfl (sg (ii q105.1) rfl) <|
   WL.nil <|
   WC.ret ?_
  obtain rfl := Option.some.inj H
  replace HF := HF.step s107 rfl
  exact ⟨_, (.tmp _ rfl .nil), _, Or.inr ⟨_, rfl, A118, c119, v123, rfl, HF.out, hB117, hl120, hr121, hB122, hO124, hM125⟩⟩

/-! ### syntax_reader_row_syntax_reader_both -/
set_option maxRecDepth 100000 in
theorem syntax_reader_row_syntax_reader_both.callsF (k : Nat) (R : G_syntax_reader_formula) (hR : G_syntax_reader_formula.OK R) : syntax_reader_row_syntax_reader_both.Spec (syntax_reader_row_syntax_reader_both.F k R) := by
 intro o0 w0 pb0 pA0_1 pc0_1 pb0_0 pv0_0_0 pb0_0_1 a0 a1 a3 a0_0 a0_0_1 r H hO hB0 hra0_1 hla0_1 hB0_0 hO0_0_0 hM0_0_1
 have HF := Fm.refl hO [2, 3, 4, 5]
 unfold syntax_reader_row_syntax_reader_both.F at H
 refine SX.calls [pp pb0 0, encS a1, .func (.func 80) #[pp pb0 0] #[], ii a3] Tryz.func79 rfl rfl ?_
 rw [Tryz.ntmps79]
 refine WC.seq <|
  WC.region <|
  E rfl (sg (ii 0) rfl) <|
  WL.nil <|
  WC.seq <|
  WC.region <|
  E rfl (mv (.func (.func 80) #[pp pb0 0] #[]) rfl) ?_
 obtain ⟨z101, hz101, H⟩ := bindE H
 refine WL.op rfl <|
  OW.callFP [pp pb0 0] [] (show ev _ _ = .func (.func 80) #[pp pb0 0] #[] from rfl) [] rfl Tryz.func80 (by kernel_rfl) (by kernel_rfl) rfl (hR.syntax_reader_both _ _ pb0 pA0_1 pc0_1 pb0_0 pv0_0_0 pb0_0_1 (a0 := a0) (a0_0 := a0_0) hz101 (HF.ten (V := [0]) (L := [2, 3, 4, 5]) rfl) (Bk.vw hB0 rfl) (Row.vw hra0_1 rfl) hla0_1 (Bk.vw hB0_0 rfl) (Own.vw hO0_0_0 rfl rfl) (Mp.vw hM0_0_1 rfl)) ?_
 rintro _ w102 ⟨o103, (⟨p104, rfl, A109, c110, v114, rfl, s106, hB108, hl111, hr112, hB113, hO115, hM116⟩ | ⟨q105, rfl, A118, c119, v123, rfl, s107, hB117, hl120, hr121, hB122, hO124, hM125⟩)⟩
 ·
  refine Or.inr ⟨_, rfl, ?_⟩
  dsimp only at H
  replace hB108 := Bk.unO (J := []) 0 hB108 s106 rfl rfl rfl
  replace hr112 := hr112.un (J := []) s106
  replace hB113 := Bk.unO (J := []) 1 hB113 s106 rfl rfl rfl
  replace hO115 := Own.unO (J := []) 2 hO115 s106 rfl rfl rfl
  replace hM116 := Mp.unO (J := []) 3 hM116 s106 rfl rfl rfl
  replace s106 := un_stepL (J := []) (L' := [2, 3, 4, 5]) s106 rfl rfl
  obtain rfl := Option.some.inj H
  replace HF := HF.step s106 rfl
  exact ⟨_, Or.inl ⟨_, rfl, A109, c110, v114, rfl, HF.out, hB108, hl111, hr112, hB113, hO115, hM116⟩⟩
 ·
  refine Or.inl ⟨_, rfl, ?_⟩
  dsimp only at H
  replace hB117 := Bk.unO (J := []) 0 hB117 s107 rfl rfl rfl
  replace hr121 := hr121.un (J := []) s107
  replace hB122 := Bk.unO (J := []) 1 hB122 s107 rfl rfl rfl
  replace hO124 := Own.unO (J := []) 2 hO124 s107 rfl rfl rfl
  replace hM125 := Mp.unO (J := []) 3 hM125 s107 rfl rfl rfl
  replace s107 := un_stepL (J := []) (L' := [2, 3, 4, 5]) s107 rfl rfl
  refine E rfl (sg (ii q105.1) rfl) <|
   WL.nil <|
   WC.seq ?_
  obtain ⟨z146, hz146, H⟩ := bindE H
  replace HF := HF.step s107 rfl
  refine WC.for (fun k_ ρ_ w_ => ∃ (o_ : Tags) (x126 : Int) (x127 : T_syntax_reader) (x132 : T_formula_Table) (x135 : (List (T_api_Node × Int))) (A128 : Option Addr) (c129 : Nat) (v133 : Value), Fm o0 w0 o_ w_ [2, 3, 4, 5] ∧ Bk o_ w_ 2 pb0 [pp pb0_0 0, .slice A128 x127.f_l.length c129, ii x127.f_i, ii x127.f_names, ii x127.f_nest, .bool x127.f_counts, .bool x127.f_full] 80 ∧ Row T_api_Token.rep (fun b_ => o_ b_ = 0) (fun b_ => o_ b_ = 0) w_ A128 x127.f_l ∧ x127.f_l.length ≤ c129 ∧ Bk o_ w_ 3 pb0_0 [v133, .map (some pb0_0_1)] 56 ∧ Own T_api_Node.rep 60 4 o_ w_ v133 x132.f_rows ∧ Mp (fun x_ : T_api_Node => Value.agg #[ii x_.f_Kind, encS x_.f_Name, ii x_.f_L, ii x_.f_R]) (fun v_ : Int => ii v_) 5 o_ w_ pb0_0_1 x135 ∧ ρ_ 0 = pp pb0 0 ∧ ρ_ 1 = encS a1 ∧ ρ_ 2 = .func (.func 80) #[pp pb0 0] #[] ∧ ρ_ 3 = ii a3 ∧ ρ_ 8 = ii 0 ∧ ρ_ 9 = ii x126 ∧ syntax_reader_row_syntax_reader_both.l1 k a1 a3 R k_ x126 x127 x132 x135 = some z146) k (fun ρ_ w_ => ∃ (o_ : Tags) (x136 : Int) (x137 : T_syntax_reader) (x142 : T_formula_Table) (x145 : (List (T_api_Node × Int))) (A138 : Option Addr) (c139 : Nat) (v143 : Value), Fm o0 w0 o_ w_ [2, 3, 4, 5] ∧ Bk o_ w_ 2 pb0 [pp pb0_0 0, .slice A138 x137.f_l.length c139, ii x137.f_i, ii x137.f_names, ii x137.f_nest, .bool x137.f_counts, .bool x137.f_full] 80 ∧ Row T_api_Token.rep (fun b_ => o_ b_ = 0) (fun b_ => o_ b_ = 0) w_ A138 x137.f_l ∧ x137.f_l.length ≤ c139 ∧ Bk o_ w_ 3 pb0_0 [v143, .map (some pb0_0_1)] 56 ∧ Own T_api_Node.rep 60 4 o_ w_ v143 x142.f_rows ∧ Mp (fun x_ : T_api_Node => Value.agg #[ii x_.f_Kind, encS x_.f_Name, ii x_.f_L, ii x_.f_R]) (fun v_ : Int => ii v_) 5 o_ w_ pb0_0_1 x145 ∧ ρ_ 8 = ii 0 ∧ ρ_ 9 = ii x136 ∧ z146 = .inr (x136, x137, x142, x145)) ⟨_, q105.1, q105.2.1, q105.2.2.1, q105.2.2.2, _, _, _, HF, hB117, hr121, hl120, hB122, hO124, hM125, rfl, rfl, rfl, rfl, rfl, rfl, hz146⟩ ?case147 ?_
  case case147 =>
   rintro ρ209 w210 ⟨o211, x136, x137, x142, x145, A138, c139, v143, HF, hB148, hr140, hl141, hB122, hO144, hM125, s8_135, s9_136, rfl⟩
   dsimp only at H
   refine WC.seq <|
    WC.region <|
    E rfl (mv (ii x136) s9_136) <|
    E rfl (sg (ii x136) rfl) <|
    WL.nil <|
    WC.ret ?_
   obtain rfl := Option.some.inj H
   exact ⟨_, (.tmp _ rfl .nil), _, Or.inr ⟨_, rfl, A138, c139, v143, rfl, HF.out, hB148, hl141, hr140, hB122, hO144, hM125⟩⟩
  have Ho148 := H
  rintro k149 ρ150 w151 ⟨o152, x126, x127, x132, x135, A128, c129, v133, HF, hB117, hr130, hl131, hB122, hO134, hM125, s0_125, s1_125, s2_125, s3_125, s8_125, s9_126, H⟩
  cases k149 with
  | zero => cases H
  | succ k149 =>
  rw [syntax_reader_row_syntax_reader_both.l1.eq_2] at H
  refine WC.seq <|
   WC.seq <|
   WC.region <|
   E rfl (mv (pp pb0 0) s0_125) <|
   E rfl (mv (encS a1) s1_125) ?_
  obtain ⟨z153, hz153, H⟩ := bindE H
  refine WL.op rfl <|
   OW.callP [pp pb0 0, encS a1] rfl Tryz.func58 (by kernel_rfl) (by kernel_rfl) (map_cons' rfl (map_cons' rfl rfl)) (syntax_reader_sign.calls _ _ pb0 A128 c129 pb0_0 v133 pb0_0_1 (a0 := x127) (a0_0 := x132) hz153 (HF.ten (V := [0]) (L := [2, 3, 4, 5]) rfl) (Bk.vw hB117 rfl) (Row.vw hr130 rfl) hl131 (Bk.vw hB122 rfl) (Own.vw hO134 rfl rfl) (Mp.vw hM125 rfl)) ?_
  rintro _ w154 ⟨o155, (⟨p156, rfl, A161, c162, rfl, s158, hB160, hl163, hr164⟩ | ⟨q157, rfl, A166, c167, rfl, s159, hB165, hl168, hr169⟩)⟩
  ·
   refine Or.inr ⟨_, rfl, ?_⟩
   dsimp only at H
   replace hB160 := Bk.unO (J := []) 0 hB160 s158 rfl rfl rfl
   replace hr164 := hr164.un (J := []) s158
   replace s158 := un_stepL (J := []) (L' := [2]) s158 rfl rfl
   obtain rfl := Option.some.inj H
   replace H := Ho148
   dsimp only at H
   obtain rfl := Option.some.inj H
   replace hB122 := hB122.step s158 rfl
   replace hO134 := hO134.step s158 rfl rfl
   replace hM125 := hM125.step s158 rfl
   replace HF := HF.step s158 rfl
   exact ⟨_, Or.inl ⟨_, rfl, A161, c162, v133, rfl, HF.out, hB160, hl163, hr164, hB122, hO134, hM125⟩⟩
  ·
   refine Or.inl ⟨_, rfl, ?_⟩
   dsimp only at H
   replace hB165 := Bk.unO (J := []) 0 hB165 s159 rfl rfl rfl
   replace hr169 := hr169.un (J := []) s159
   replace s159 := un_stepL (J := []) (L' := [2]) s159 rfl rfl
   refine WL.nil ?_
   rcases condE H with ⟨c170, H⟩ | ⟨c170, H⟩
   ·
    refine WC.cond_t (vb c170 rfl) <|
     WC.skip <|
     WC.block <|
     WC.region <|
     E rfl (mv (pp pb0 0) s0_125) <|
     E rfl (mv (ii a3) s3_125) <|
     E rfl (mv (ii x126) s9_126) <|
     E rfl (mv (.func (.func 80) #[pp pb0 0] #[]) s2_125) ?_
    obtain ⟨z171, hz171, H⟩ := bindE H
    refine WL.op rfl ?_
    replace hB122 := hB122.step s159 rfl
    replace hO134 := hO134.step s159 rfl rfl
    replace hM125 := hM125.step s159 rfl
    replace HF := HF.step s159 rfl
    refine OW.callFP [pp pb0 0] [] (show ev _ _ = .func (.func 80) #[pp pb0 0] #[] from rfl) [] rfl Tryz.func80 (by kernel_rfl) (by kernel_rfl) rfl (hR.syntax_reader_both _ _ pb0 A166 c167 pb0_0 v133 pb0_0_1 (a0 := q157.2) (a0_0 := x132) hz171 (HF.ten (V := [0]) (L := [2, 3, 4, 5]) rfl) (Bk.vw hB165 rfl) (Row.vw hr169 rfl) hl168 (Bk.vw hB122 rfl) (Own.vw hO134 rfl rfl) (Mp.vw hM125 rfl)) ?_
    rintro _ w172 ⟨o173, (⟨p174, rfl, A179, c180, v184, rfl, s176, hB178, hl181, hr182, hB183, hO185, hM186⟩ | ⟨q175, rfl, A188, c189, v193, rfl, s177, hB187, hl190, hr191, hB192, hO194, hM195⟩)⟩
    ·
     refine Or.inr ⟨_, rfl, ?_⟩
     dsimp only at H
     replace hB178 := Bk.unO (J := []) 0 hB178 s176 rfl rfl rfl
     replace hr182 := hr182.un (J := []) s176
     replace hB183 := Bk.unO (J := []) 1 hB183 s176 rfl rfl rfl
     replace hO185 := Own.unO (J := []) 2 hO185 s176 rfl rfl rfl
     replace hM186 := Mp.unO (J := []) 3 hM186 s176 rfl rfl rfl
     replace s176 := un_stepL (J := []) (L' := [2, 3, 4, 5]) s176 rfl rfl
     obtain rfl := Option.some.inj H
     replace H := Ho148
     dsimp only at H
     obtain rfl := Option.some.inj H
     replace HF := HF.step s176 rfl
     exact ⟨_, Or.inl ⟨_, rfl, A179, c180, v184, rfl, HF.out, hB178, hl181, hr182, hB183, hO185, hM186⟩⟩
    ·
     refine Or.inl ⟨_, rfl, ?_⟩
     dsimp only at H
     replace hB187 := Bk.unO (J := []) 0 hB187 s177 rfl rfl rfl
     replace hr191 := hr191.un (J := []) s177
     replace hB192 := Bk.unO (J := []) 1 hB192 s177 rfl rfl rfl
     replace hO194 := Own.unO (J := []) 2 hO194 s177 rfl rfl rfl
     replace hM195 := Mp.unO (J := []) 3 hM195 s177 rfl rfl rfl
     replace s177 := un_stepL (J := []) (L' := [2, 3, 4, 5]) s177 rfl rfl
     obtain ⟨z196, hz196, H⟩ := bindE H
     refine WL.op rfl ?_
     replace HF := HF.step s177 rfl
     refine OW.call [pp pb0 0, ii a3, encS ([] : List UInt8), ii x126, ii q175.1] rfl Tryz.func59 (by kernel_rfl) (by kernel_rfl) (map_cons' rfl (map_cons' rfl (map_cons' rfl (map_cons' rfl (map_cons' rfl rfl))))) (syntax_reader_node.calls k _ _ pb0 A188 c189 pb0_0 v193 pb0_0_1 (a0 := q175.2.1) (a0_0 := q175.2.2.1) hz196 (HF.ten (V := [0]) (L := [2, 3, 4, 5]) rfl) (Bk.vw hB187 rfl) (Row.vw hr191 rfl) hl190 (Bk.vw hB192 rfl) (Own.vw hO194 rfl rfl) (Mp.vw hM195 rfl)) ?_
     rintro _ w197 ⟨o198, A201, c202, v206, rfl, s199, hB200, hl203, hr204, hB205, hO207, hM208⟩
     refine ⟨_, rfl, ?_⟩
     replace hB200 := Bk.unO (J := []) 0 hB200 s199 rfl rfl rfl
     replace hr204 := hr204.un (J := []) s199
     replace hB205 := Bk.unO (J := []) 1 hB205 s199 rfl rfl rfl
     replace hO207 := Own.unO (J := []) 2 hO207 s199 rfl rfl rfl
     replace hM208 := Mp.unO (J := []) 3 hM208 s199 rfl rfl rfl
     replace s199 := un_stepL (J := []) (L' := [2, 3, 4, 5]) s199 rfl rfl
     refine E rfl (sg (ii z196.1) rfl) <|
      WL.nil ?_
     replace HF := HF.step s199 rfl
     exact ⟨k149, Nat.lt_succ_self _, ⟨_, z196.1, z196.2.1, z196.2.2.1, z196.2.2.2, _, _, _, HF, hB200, hr204, hl203, hB205, hO207, hM208, s0_125, s1_125, s2_125, s3_125, s8_125, rfl, H⟩⟩
   ·
    refine WC.cond_f (vb c170 rfl) <|
     WC.exit ?_
    obtain rfl := Option.some.inj H
    replace hB122 := hB122.step s159 rfl
    replace hO134 := hO134.step s159 rfl rfl
    replace hM125 := hM125.step s159 rfl
    replace HF := HF.step s159 rfl
    exact ⟨_, x126, q157.2, x132, x135, _, _, _, HF, hB165, hr169, hl168, hB122, hO134, hM125, s8_125, s9_126, rfl⟩

/-! ### syntax_reader_implied -/
set_option maxRecDepth 100000 in
theorem syntax_reader_implied.callsF (k : Nat) (R : G_syntax_reader_formula) (hR : G_syntax_reader_formula.OK R) : syntax_reader_implied.Spec (syntax_reader_implied.F k R) := by
 intro o0 w0 pb0 pA0_1 pc0_1 pb0_0 pv0_0_0 pb0_0_1 a0 a0_0 a0_0_1 r H hO hB0 hra0_1 hla0_1 hB0_0 hO0_0_0 hM0_0_1
 have HF := Fm.refl hO [2, 3, 4, 5]
 unfold syntax_reader_implied.F at H
 refine SX.calls [pp pb0 0] Tryz.func57 rfl rfl ?_
 rw [Tryz.ntmps57]
 refine WC.seq <|
  WC.region <|
  E rfl (sg (ii 0) rfl) <|
  WL.nil <|
  WC.seq <|
  WC.region <|
  E rfl (mv (pp pb0 0) rfl) <|
  E rfl (mv (pp pb0 0) rfl) <|
  E rfl (ex_makeFuncB [pp pb0 0] [] (map_cons' rfl rfl) rfl) ?_
 obtain ⟨z101, hz101, H⟩ := bindE H
 refine WL.op rfl <|
  OW.callP [pp pb0 0, encS ([124] : List UInt8), .func (.func 80) #[pp pb0 0] #[], ii 4] rfl Tryz.func79 (by kernel_rfl) (by kernel_rfl) (map_cons' rfl (map_cons' rfl (map_cons' rfl (map_cons' rfl rfl)))) (hR.syntax_reader_row_syntax_reader_both _ _ pb0 pA0_1 pc0_1 pb0_0 pv0_0_0 pb0_0_1 (a0 := a0) (a0_0 := a0_0) hz101 (HF.ten (V := [0]) (L := [2, 3, 4, 5]) rfl) (Bk.vw hB0 rfl) (Row.vw hra0_1 rfl) hla0_1 (Bk.vw hB0_0 rfl) (Own.vw hO0_0_0 rfl rfl) (Mp.vw hM0_0_1 rfl)) ?_
 rintro _ w102 ⟨o103, (⟨p104, rfl, A109, c110, v114, rfl, s106, hB108, hl111, hr112, hB113, hO115, hM116⟩ | ⟨q105, rfl, A118, c119, v123, rfl, s107, hB117, hl120, hr121, hB122, hO124, hM125⟩)⟩
 ·
  refine Or.inr ⟨_, rfl, ?_⟩
  dsimp only at H
  replace hB108 := Bk.unO (J := []) 0 hB108 s106 rfl rfl rfl
  replace hr112 := hr112.un (J := []) s106
  replace hB113 := Bk.unO (J := []) 1 hB113 s106 rfl rfl rfl
  replace hO115 := Own.unO (J := []) 2 hO115 s106 rfl rfl rfl
  replace hM116 := Mp.unO (J := []) 3 hM116 s106 rfl rfl rfl
  replace s106 := un_stepL (J := []) (L' := [2, 3, 4, 5]) s106 rfl rfl
  obtain rfl := Option.some.inj H
  replace HF := HF.step s106 rfl
  exact ⟨_, Or.inl ⟨_, rfl, A109, c110, v114, rfl, HF.out, hB108, hl111, hr112, hB113, hO115, hM116⟩⟩
 ·
  refine Or.inl ⟨_, rfl, ?_⟩
  dsimp only at H
  replace hB117 := Bk.unO (J := []) 0 hB117 s107 rfl rfl rfl
  replace hr121 := hr121.un (J := []) s107
  replace hB122 := Bk.unO (J := []) 1 hB122 s107 rfl rfl rfl
  replace hO124 := Own.unO (J := []) 2 hO124 s107 rfl rfl rfl
  replace hM125 := Mp.unO (J := []) 3 hM125 s107 rfl rfl rfl
  replace s107 := un_stepL (J := []) (L' := [2, 3, 4, 5]) s107 rfl rfl
  refine E rfl (sg (ii q105.1) rfl) <|
   WL.nil <|
   WC.seq <|
   WC.seq <|
   WC.region <|
   E rfl (mv (pp pb0 0) rfl) ?_
  obtain ⟨z126, hz126, H⟩ := bindE H
  refine WL.op rfl ?_
  replace HF := HF.step s107 rfl
  refine OW.callP [pp pb0 0, encS ([45, 62] : List UInt8)] rfl Tryz.func58 (by kernel_rfl) (by kernel_rfl) (map_cons' rfl (map_cons' rfl rfl)) (syntax_reader_sign.calls _ _ pb0 A118 c119 pb0_0 v123 pb0_0_1 (a0 := q105.2.1) (a0_0 := q105.2.2.1) hz126 (HF.ten (V := [0]) (L := [2, 3, 4, 5]) rfl) (Bk.vw hB117 rfl) (Row.vw hr121 rfl) hl120 (Bk.vw hB122 rfl) (Own.vw hO124 rfl rfl) (Mp.vw hM125 rfl)) ?_
  rintro _ w127 ⟨o128, (⟨p129, rfl, A134, c135, rfl, s131, hB133, hl136, hr137⟩ | ⟨q130, rfl, A139, c140, rfl, s132, hB138, hl141, hr142⟩)⟩
  ·
   refine Or.inr ⟨_, rfl, ?_⟩
   dsimp only at H
   replace hB133 := Bk.unO (J := []) 0 hB133 s131 rfl rfl rfl
   replace hr137 := hr137.un (J := []) s131
   replace s131 := un_stepL (J := []) (L' := [2]) s131 rfl rfl
   obtain rfl := Option.some.inj H
   replace hB122 := hB122.step s131 rfl
   replace hO124 := hO124.step s131 rfl rfl
   replace hM125 := hM125.step s131 rfl
   replace HF := HF.step s131 rfl
   exact ⟨_, Or.inl ⟨_, rfl, A134, c135, v123, rfl, HF.out, hB133, hl136, hr137, hB122, hO124, hM125⟩⟩
  ·
   refine Or.inl ⟨_, rfl, ?_⟩
   dsimp only at H
   replace hB138 := Bk.unO (J := []) 0 hB138 s132 rfl rfl rfl
   replace hr142 := hr142.un (J := []) s132
   replace s132 := un_stepL (J := []) (L' := [2]) s132 rfl rfl
   refine E rfl (ex_not (b := q130.1) rfl) <|
    WL.nil ?_
   rcases condE H with ⟨c143, H⟩ | ⟨c143, H⟩
   ·
    refine WC.cond_t (vb c143 rfl) <|
     WC.seq <|
     WC.region <|
     E rfl (mv (ii q105.1) rfl) <|
     E rfl (sg (ii q105.1) rfl) <|
     WL.nil <|
     WC.ret ?_
    obtain rfl := Option.some.inj H
    replace hB122 := hB122.step s132 rfl
    replace hO124 := hO124.step s132 rfl rfl
    replace hM125 := hM125.step s132 rfl
    replace HF := HF.step s132 rfl
    exact ⟨_, (.tmp _ rfl .nil), _, Or.inr ⟨_, rfl, A139, c140, v123, rfl, HF.out, hB138, hl141, hr142, hB122, hO124, hM125⟩⟩
   ·
    refine WC.cond_f (vb c143 rfl) <|
     WC.skip <|
     WC.seq <|
     WC.region <|
     E rfl (mv (pp pb0 0) rfl) <|
     E rfl (mv (ii q105.1) rfl) <|
     E rfl (mv (pp pb0 0) rfl) ?_
    obtain ⟨z144, hz144, H⟩ := bindE H
    refine WL.op rfl ?_
    replace hB122 := hB122.step s132 rfl
    replace hO124 := hO124.step s132 rfl rfl
    replace hM125 := hM125.step s132 rfl
    replace HF := HF.step s132 rfl
    refine OW.callP [pp pb0 0] rfl Tryz.func57 (by kernel_rfl) (by kernel_rfl) (map_cons' rfl rfl) (hR.syntax_reader_implied _ _ pb0 A139 c140 pb0_0 v123 pb0_0_1 (a0 := q130.2) (a0_0 := q105.2.2.1) hz144 (HF.ten (V := [0]) (L := [2, 3, 4, 5]) rfl) (Bk.vw hB138 rfl) (Row.vw hr142 rfl) hl141 (Bk.vw hB122 rfl) (Own.vw hO124 rfl rfl) (Mp.vw hM125 rfl)) ?_
    rintro _ w145 ⟨o146, (⟨p147, rfl, A152, c153, v157, rfl, s149, hB151, hl154, hr155, hB156, hO158, hM159⟩ | ⟨q148, rfl, A161, c162, v166, rfl, s150, hB160, hl163, hr164, hB165, hO167, hM168⟩)⟩
    ·
     refine Or.inr ⟨_, rfl, ?_⟩
     dsimp only at H
     replace hB151 := Bk.unO (J := []) 0 hB151 s149 rfl rfl rfl
     replace hr155 := hr155.un (J := []) s149
     replace hB156 := Bk.unO (J := []) 1 hB156 s149 rfl rfl rfl
     replace hO158 := Own.unO (J := []) 2 hO158 s149 rfl rfl rfl
     replace hM159 := Mp.unO (J := []) 3 hM159 s149 rfl rfl rfl
     replace s149 := un_stepL (J := []) (L' := [2, 3, 4, 5]) s149 rfl rfl
     obtain rfl := Option.some.inj H
     replace HF := HF.step s149 rfl
     exact ⟨_, Or.inl ⟨_, rfl, A152, c153, v157, rfl, HF.out, hB151, hl154, hr155, hB156, hO158, hM159⟩⟩
    ·
     refine Or.inl ⟨_, rfl, ?_⟩
     dsimp only at H
     replace hB160 := Bk.unO (J := []) 0 hB160 s150 rfl rfl rfl
     replace hr164 := hr164.un (J := []) s150
     replace hB165 := Bk.unO (J := []) 1 hB165 s150 rfl rfl rfl
     replace hO167 := Own.unO (J := []) 2 hO167 s150 rfl rfl rfl
     replace hM168 := Mp.unO (J := []) 3 hM168 s150 rfl rfl rfl
     replace s150 := un_stepL (J := []) (L' := [2, 3, 4, 5]) s150 rfl rfl
     obtain ⟨z169, hz169, H⟩ := bindE H
     refine WL.op rfl ?_
     replace HF := HF.step s150 rfl
     refine OW.call [pp pb0 0, ii 5, encS ([] : List UInt8), ii q105.1, ii q148.1] rfl Tryz.func59 (by kernel_rfl) (by kernel_rfl) (map_cons' rfl (map_cons' rfl (map_cons' rfl (map_cons' rfl (map_cons' rfl rfl))))) (syntax_reader_node.calls k _ _ pb0 A161 c162 pb0_0 v166 pb0_0_1 (a0 := q148.2.1) (a0_0 := q148.2.2.1) hz169 (HF.ten (V := [0]) (L := [2, 3, 4, 5]) rfl) (Bk.vw hB160 rfl) (Row.vw hr164 rfl) hl163 (Bk.vw hB165 rfl) (Own.vw hO167 rfl rfl) (Mp.vw hM168 rfl)) ?_
     rintro _ w170 ⟨o171, A174, c175, v179, rfl, s172, hB173, hl176, hr177, hB178, hO180, hM181⟩
     refine ⟨_, rfl, ?_⟩
     replace hB173 := Bk.unO (J := []) 0 hB173 s172 rfl rfl rfl
     replace hr177 := hr177.un (J := []) s172
     replace hB178 := Bk.unO (J := []) 1 hB178 s172 rfl rfl rfl
     replace hO180 := Own.unO (J := []) 2 hO180 s172 rfl rfl rfl
     replace hM181 := Mp.unO (J := []) 3 hM181 s172 rfl rfl rfl
     replace s172 := un_stepL (J := []) (L' := [2, 3, 4, 5]) s172 rfl rfl
     refine E rfl (sg (ii z169.1) rfl) <|
      WL.nil <|
      WC.ret ?_
     obtain rfl := Option.some.inj H
     replace HF := HF.step s172 rfl
     exact ⟨_, (.tmp _ rfl .nil), _, Or.inr ⟨_, rfl, A174, c175, v179, rfl, HF.out, hB173, hl176, hr177, hB178, hO180, hM181⟩⟩

theorem G_syntax_reader_formula.ok (k : Nat) : ∀ n, G_syntax_reader_formula.OK (G_syntax_reader_formula.rec_ k n)
 | 0 => ⟨(by intro o0 w0 pb0 pA0_1 pc0_1 pb0_0 pv0_0_0 pb0_0_1 a0 a0_0 a0_0_1 r H hO hB0 hra0_1 hla0_1 hB0_0 hO0_0_0 hM0_0_1; exact nomatch (show (none : Option (Exn (T_syntax_broken × T_syntax_reader × T_formula_Table × (List (T_api_Node × Int))) (Int × T_syntax_reader × T_formula_Table × (List (T_api_Node × Int))))) = some r from H)), (by intro o0 w0 pb0 pA0_1 pc0_1 pb0_0 pv0_0_0 pb0_0_1 a0 a0_0 a0_0_1 r H hO hB0 hra0_1 hla0_1 hB0_0 hO0_0_0 hM0_0_1; exact nomatch (show (none : Option (Exn (T_syntax_broken × T_syntax_reader × T_formula_Table × (List (T_api_Node × Int))) (Int × T_syntax_reader × T_formula_Table × (List (T_api_Node × Int))))) = some r from H)), (by intro o0 w0 pb0 pA0_1 pc0_1 pb0_0 pv0_0_0 pb0_0_1 a0 a1 a3 a0_0 a0_0_1 r H hO hB0 hra0_1 hla0_1 hB0_0 hO0_0_0 hM0_0_1; exact nomatch (show (none : Option (Exn (T_syntax_broken × T_syntax_reader × T_formula_Table × (List (T_api_Node × Int))) (Int × T_syntax_reader × T_formula_Table × (List (T_api_Node × Int))))) = some r from H)), (by intro o0 w0 pb0 pA0_1 pc0_1 pb0_0 pv0_0_0 pb0_0_1 a0 a0_0 a0_0_1 r H hO hB0 hra0_1 hla0_1 hB0_0 hO0_0_0 hM0_0_1; exact nomatch (show (none : Option (Exn (T_syntax_broken × T_syntax_reader × T_formula_Table × (List (T_api_Node × Int))) (Int × T_syntax_reader × T_formula_Table × (List (T_api_Node × Int))))) = some r from H)), (by intro o0 w0 pb0 pA0_1 pc0_1 pb0_0 pv0_0_0 pb0_0_1 a0 a1 a3 a0_0 a0_0_1 r H hO hB0 hra0_1 hla0_1 hB0_0 hO0_0_0 hM0_0_1; exact nomatch (show (none : Option (Exn (T_syntax_broken × T_syntax_reader × T_formula_Table × (List (T_api_Node × Int))) (Int × T_syntax_reader × T_formula_Table × (List (T_api_Node × Int))))) = some r from H)), (by intro o0 w0 pb0 pA0_1 pc0_1 pb0_0 pv0_0_0 pb0_0_1 a0 a0_0 a0_0_1 r H hO hB0 hra0_1 hla0_1 hB0_0 hO0_0_0 hM0_0_1; exact nomatch (show (none : Option (Exn (T_syntax_broken × T_syntax_reader × T_formula_Table × (List (T_api_Node × Int))) (Int × T_syntax_reader × T_formula_Table × (List (T_api_Node × Int))))) = some r from H))⟩
 | n + 1 => ⟨syntax_reader_formula.callsF k (G_syntax_reader_formula.rec_ k n) (G_syntax_reader_formula.ok k n), syntax_reader_single.callsF k (G_syntax_reader_formula.rec_ k n) (G_syntax_reader_formula.ok k n), syntax_reader_row_syntax_reader_single.callsF k (G_syntax_reader_formula.rec_ k n) (G_syntax_reader_formula.ok k n), syntax_reader_both.callsF k (G_syntax_reader_formula.rec_ k n) (G_syntax_reader_formula.ok k n), syntax_reader_row_syntax_reader_both.callsF k (G_syntax_reader_formula.rec_ k n) (G_syntax_reader_formula.ok k n), syntax_reader_implied.callsF k (G_syntax_reader_formula.rec_ k n) (G_syntax_reader_formula.ok k n)⟩
theorem syntax_reader_formula.calls (k : Nat) : syntax_reader_formula.Spec (syntax_reader_formula.f k) := (G_syntax_reader_formula.ok k k).syntax_reader_formula
theorem syntax_reader_single.calls (k : Nat) : syntax_reader_single.Spec (syntax_reader_single.f k) := (G_syntax_reader_formula.ok k k).syntax_reader_single
theorem syntax_reader_row_syntax_reader_single.calls (k : Nat) : syntax_reader_row_syntax_reader_single.Spec (syntax_reader_row_syntax_reader_single.f k) := (G_syntax_reader_formula.ok k k).syntax_reader_row_syntax_reader_single
theorem syntax_reader_both.calls (k : Nat) : syntax_reader_both.Spec (syntax_reader_both.f k) := (G_syntax_reader_formula.ok k k).syntax_reader_both
theorem syntax_reader_row_syntax_reader_both.calls (k : Nat) : syntax_reader_row_syntax_reader_both.Spec (syntax_reader_row_syntax_reader_both.f k) := (G_syntax_reader_formula.ok k k).syntax_reader_row_syntax_reader_both
theorem syntax_reader_implied.calls (k : Nat) : syntax_reader_implied.Spec (syntax_reader_implied.f k) := (G_syntax_reader_formula.ok k k).syntax_reader_implied

/-! ### syntax_Parse_1 -/
set_option maxRecDepth 100000 in
theorem syntax_Parse_1.calls (k : Nat) (o0 : Tags) (w0 : World) (pb0 : Nat) (pb1 : Nat) (pb2 : Nat) (pb0_0 : Nat) (pA0_0_1 : Option Addr) (pc0_0_1 : Nat) (pb0_0_0 : Nat) (pv0_0_0_0 : Value) (pb0_0_0_1 : Nat) {a1 : Int} {a2 : T_api_Fault} {a0_0 : T_syntax_reader} {a0_0_0 : T_formula_Table} {a0_0_0_1 : (List (T_api_Node × Int))} {r : Exn (T_syntax_broken × Int × T_syntax_reader × T_formula_Table × (List (T_api_Node × Int))) (Int × T_syntax_reader × T_formula_Table × (List (T_api_Node × Int)))} (H : syntax_Parse_1.f k a1 a2 a0_0 a0_0_0 a0_0_0_1 = some r) (hO : ∀ b, b < w0.heap.size → o0 b < 40) (hB0 : Bk o0 w0 2 pb0 [pp pb0_0 0] 78) (hB1 : Bk o0 w0 3 pb1 [ii a1] 3) (hB2 : Bk o0 w0 4 pb2 [ii a2.f_Code, ii a2.f_At.f_Line, ii a2.f_At.f_Col, ii a2.f_At.f_Off] 36) (hB0_0 : Bk o0 w0 5 pb0_0 [pp pb0_0_0 0, .slice pA0_0_1 a0_0.f_l.length pc0_0_1, ii a0_0.f_i, ii a0_0.f_names, ii a0_0.f_nest, .bool a0_0.f_counts, .bool a0_0.f_full] 80) (hra0_0_1 : Row T_api_Token.rep (fun b_ => o0 b_ = 0) (fun b_ => o0 b_ = 0) w0 pA0_0_1 a0_0.f_l) (hla0_0_1 : a0_0.f_l.length ≤ pc0_0_1) (hB0_0_0 : Bk o0 w0 6 pb0_0_0 [pv0_0_0_0, .map (some pb0_0_0_1)] 56) (hO0_0_0_0 : Own T_api_Node.rep 60 7 o0 w0 pv0_0_0_0 a0_0_0.f_rows) (hM0_0_0_1 : Mp (fun x_ : T_api_Node => Value.agg #[ii x_.f_Kind, encS x_.f_Name, ii x_.f_L, ii x_.f_R]) (fun v_ : Int => ii v_) 8 o0 w0 pb0_0_0_1 a0_0_0_1) :
  Calls Tryz.prog 31 [pp pb0 0, pp pb1 0, pp pb2 0].toArray w0 fun e_ w_ => ∃ (o_ : Tags), ((∃ p_, r = .ex p_ ∧ ∃ (B_3_1 : Option Addr) (d_3_1 : Nat) (u4_0 : Value), e_ = .panicked (pc (.iface 111 (.agg #[ii p_.1.f_f.f_Code, ii p_.1.f_f.f_At.f_Line, ii p_.1.f_f.f_At.f_Col, ii p_.1.f_f.f_At.f_Off]))) ∧ Step o0 w0 o_ w_ [3, 5, 6, 7, 8] ∧ Bk o_ w_ 3 pb1 [ii p_.2.1] 3 ∧ Bk o_ w_ 5 pb0_0 [pp pb0_0_0 0, .slice B_3_1 p_.2.2.1.f_l.length d_3_1, ii p_.2.2.1.f_i, ii p_.2.2.1.f_names, ii p_.2.2.1.f_nest, .bool p_.2.2.1.f_counts, .bool p_.2.2.1.f_full] 80 ∧ p_.2.2.1.f_l.length ≤ d_3_1 ∧ Row T_api_Token.rep (fun b_ => o_ b_ = 0) (fun b_ => o_ b_ = 0) w_ B_3_1 p_.2.2.1.f_l ∧ Bk o_ w_ 6 pb0_0_0 [u4_0, .map (some pb0_0_0_1)] 56 ∧ Own T_api_Node.rep 60 7 o_ w_ u4_0 p_.2.2.2.1.f_rows ∧ Mp (fun x_ : T_api_Node => Value.agg #[ii x_.f_Kind, encS x_.f_Name, ii x_.f_L, ii x_.f_R]) (fun v_ : Int => ii v_) 8 o_ w_ pb0_0_0_1 p_.2.2.2.2) ∨ ∃ q_, r = .ok q_ ∧ ∃ (B_3_1 : Option Addr) (d_3_1 : Nat) (u4_0 : Value), e_ = .returned (one []) ∧ Step o0 w0 o_ w_ [3, 5, 6, 7, 8] ∧ Bk o_ w_ 3 pb1 [ii q_.1] 3 ∧ Bk o_ w_ 5 pb0_0 [pp pb0_0_0 0, .slice B_3_1 q_.2.1.f_l.length d_3_1, ii q_.2.1.f_i, ii q_.2.1.f_names, ii q_.2.1.f_nest, .bool q_.2.1.f_counts, .bool q_.2.1.f_full] 80 ∧ q_.2.1.f_l.length ≤ d_3_1 ∧ Row T_api_Token.rep (fun b_ => o_ b_ = 0) (fun b_ => o_ b_ = 0) w_ B_3_1 q_.2.1.f_l ∧ Bk o_ w_ 6 pb0_0_0 [u4_0, .map (some pb0_0_0_1)] 56 ∧ Own T_api_Node.rep 60 7 o_ w_ u4_0 q_.2.2.1.f_rows ∧ Mp (fun x_ : T_api_Node => Value.agg #[ii x_.f_Kind, encS x_.f_Name, ii x_.f_L, ii x_.f_R]) (fun v_ : Int => ii v_) 8 o_ w_ pb0_0_0_1 q_.2.2.2) := by
 have HF := Fm.refl hO [3, 5, 6, 7, 8]
 unfold syntax_Parse_1.f at H
 refine SX.calls [pp pb0 0, pp pb1 0, pp pb2 0] Tryz.func31 rfl rfl ?_
 rw [Tryz.ntmps31]
 refine WC.seq <|
  WC.region <|
  E rfl (ex_load1 rfl U78 rfl (hB0.cell rfl)) ?_
 obtain ⟨z101, hz101, H⟩ := bindE H
 refine WL.op rfl <|
  OW.callP [pp pb0_0 0] rfl Tryz.func32 (by kernel_rfl) (by kernel_rfl) (map_cons' rfl rfl) (syntax_reader_formula.calls k _ _ pb0_0 pA0_0_1 pc0_0_1 pb0_0_0 pv0_0_0_0 pb0_0_0_1 (a0 := a0_0) (a0_0 := a0_0_0) hz101 (HF.ten (V := [0]) (L := [5, 6, 7, 8]) rfl) (Bk.vw hB0_0 rfl) (Row.vw hra0_0_1 rfl) hla0_0_1 (Bk.vw hB0_0_0 rfl) (Own.vw hO0_0_0_0 rfl rfl) (Mp.vw hM0_0_0_1 rfl)) ?_
 rintro _ w102 ⟨o103, (⟨p104, rfl, A109, c110, v114, rfl, s106, hB108, hl111, hr112, hB113, hO115, hM116⟩ | ⟨q105, rfl, A118, c119, v123, rfl, s107, hB117, hl120, hr121, hB122, hO124, hM125⟩)⟩
 ·
  refine Or.inr ⟨_, rfl, ?_⟩
  dsimp only at H
  replace hB108 := Bk.unO (J := []) 0 hB108 s106 rfl rfl rfl
  replace hr112 := hr112.un (J := []) s106
  replace hB113 := Bk.unO (J := []) 1 hB113 s106 rfl rfl rfl
  replace hO115 := Own.unO (J := []) 2 hO115 s106 rfl rfl rfl
  replace hM116 := Mp.unO (J := []) 3 hM116 s106 rfl rfl rfl
  replace s106 := un_stepL (J := []) (L' := [5, 6, 7, 8]) s106 rfl rfl
  obtain rfl := Option.some.inj H
  replace hB1 := hB1.step s106 rfl
  replace HF := HF.step s106 rfl
  exact ⟨_, Or.inl ⟨_, rfl, A109, c110, v114, rfl, HF.out, hB1, hB108, hl111, hr112, hB113, hO115, hM116⟩⟩
 ·
  refine Or.inl ⟨_, rfl, ?_⟩
  dsimp only at H
  replace hB117 := Bk.unO (J := []) 0 hB117 s107 rfl rfl rfl
  replace hr121 := hr121.un (J := []) s107
  replace hB122 := Bk.unO (J := []) 1 hB122 s107 rfl rfl rfl
  replace hO124 := Own.unO (J := []) 2 hO124 s107 rfl rfl rfl
  replace hM125 := Mp.unO (J := []) 3 hM125 s107 rfl rfl rfl
  replace s107 := un_stepL (J := []) (L' := [5, 6, 7, 8]) s107 rfl rfl
  refine WL.op rfl ?_
  replace hB1 := hB1.step s107 rfl
  refine OW.storeW rfl rfl sz3 hB1 rfl (oa rfl) ?_
  intro w126 s127 hB128
  refine WL.nil ?_
  obtain ⟨z130, hz130, H⟩ := bindE H
  refine WC.cut (fun ρ_ w_ => ∃ (o_ : Tags), Fm o0 w0 o_ w_ [3, 5, 6, 7, 8] ∧ Bk o_ w_ 2 pb0 [pp pb0_0 0] 78 ∧ Bk o_ w_ 3 pb1 [ii q105.1] 3 ∧ Bk o_ w_ 4 pb2 [ii a2.f_Code, ii a2.f_At.f_Line, ii a2.f_At.f_Col, ii a2.f_At.f_Off] 36 ∧ Bk o_ w_ 5 pb0_0 [pp pb0_0_0 0, .slice A118 q105.2.1.f_l.length c119, ii q105.2.1.f_i, ii q105.2.1.f_names, ii q105.2.1.f_nest, .bool q105.2.1.f_counts, .bool q105.2.1.f_full] 80 ∧ Row T_api_Token.rep (fun b_ => o_ b_ = 0) (fun b_ => o_ b_ = 0) w_ A118 q105.2.1.f_l ∧ Bk o_ w_ 6 pb0_0_0 [v123, .map (some pb0_0_0_1)] 56 ∧ Own T_api_Node.rep 60 7 o_ w_ v123 q105.2.2.1.f_rows ∧ Mp (fun x_ : T_api_Node => Value.agg #[ii x_.f_Kind, encS x_.f_Name, ii x_.f_L, ii x_.f_R]) (fun v_ : Int => ii v_) 8 o_ w_ pb0_0_0_1 q105.2.2.2 ∧ ρ_ 0 = pp pb0 0 ∧ ρ_ 13 = .bool z130) ?case131 ?_
  case case131 =>
   rintro ρ134 w132 ⟨o133, HF, hB0, hB128, hB2, hB117, hr121, hB122, hO124, hM125, s0_128, s13_129⟩
   rcases condE H with ⟨c135, H⟩ | ⟨c135, H⟩
   ·
    refine WC.cond_t (vb c135 s13_129) <|
     WC.region <|
     E rfl (ex_load1 s0_128 U78 rfl (hB0.cell rfl)) ?_
    obtain ⟨z136, hz136, H⟩ := bindE H
    refine WL.op rfl <|
     OW.callP [pp pb0_0 0, ii 41] rfl Tryz.func34 (by kernel_rfl) (by kernel_rfl) (map_cons' rfl (map_cons' rfl rfl)) (syntax_reader_fail.calls _ _ pb0_0 A118 c119 pb0_0_0 v123 pb0_0_0_1 (a0 := q105.2.1) (a0_0 := q105.2.2.1) hz136 (HF.ten (V := [0]) (L := [5, 6, 7, 8]) rfl) (Bk.vw hB117 rfl) (Row.vw hr121 rfl) hl120 (Bk.vw hB122 rfl) (Own.vw hO124 rfl rfl) (Mp.vw hM125 rfl)) ?_
    rintro _ w137 ⟨o138, (⟨p139, rfl, rfl, s141⟩ | ⟨q140, rfl, rfl, s142⟩)⟩
    ·
     refine Or.inr ⟨_, rfl, ?_⟩
     dsimp only at H
     replace s141 := un_stepL (J := []) (L' := []) s141 rfl rfl
     obtain rfl := Option.some.inj H
     replace hB128 := hB128.step s141 rfl
     replace hB117 := hB117.step s141 rfl
     replace hr121 := hr121.step s141 rfl
     replace hB122 := hB122.step s141 rfl
     replace hO124 := hO124.step s141 rfl rfl
     replace hM125 := hM125.step s141 rfl
     replace HF := HF.step s141 rfl
     exact ⟨_, Or.inl ⟨_, rfl, A118, c119, v123, rfl, HF.out, hB128, hB117, hl120, hr121, hB122, hO124, hM125⟩⟩
    ·
     refine Or.inl ⟨_, rfl, ?_⟩
     dsimp only at H
     replace s142 := un_stepL (J := []) (L' := []) s142 rfl rfl
     refine WL.nil ?_
     obtain rfl := Option.some.inj H
     replace hB128 := hB128.step s142 rfl
     replace hB117 := hB117.step s142 rfl
     replace hr121 := hr121.step s142 rfl
     replace hB122 := hB122.step s142 rfl
     replace hO124 := hO124.step s142 rfl rfl
     replace hM125 := hM125.step s142 rfl
     replace HF := HF.step s142 rfl
     exact ⟨_, .nil, _, Or.inr ⟨_, rfl, A118, c119, v123, rfl, HF.out, hB128, hB117, hl120, hr121, hB122, hO124, hM125⟩⟩
   ·
    refine WC.cond_f (vb c135 s13_129) <|
     WC.skip ?_
    obtain rfl := Option.some.inj H
    exact ⟨_, .nil, _, Or.inr ⟨_, rfl, A118, c119, v123, rfl, HF.out, hB128, hB117, hl120, hr121, hB122, hO124, hM125⟩⟩
  have Ho143 := H
  replace H := hz130
  refine WC.region ?_
  have k107_127 := s107.t s127
  replace hB0 := hB0.step k107_127 rfl
  refine E rfl (ex_load1 rfl U78 rfl (hB0.cell rfl)) ?_
  obtain ⟨z144, hz144, H⟩ := bindE H
  refine WL.op rfl ?_
  replace hB117 := hB117.step s127 rfl
  replace hr121 := hr121.step s127 rfl
  replace hB122 := hB122.step s127 rfl
  replace hO124 := hO124.step s127 rfl rfl
  replace hM125 := hM125.step s127 rfl
  replace HF := HF.step k107_127 rfl
  refine OW.call [pp pb0_0 0] rfl Tryz.func33 (by kernel_rfl) (by kernel_rfl) (map_cons' rfl rfl) (syntax_reader_now.calls _ _ pb0_0 A118 c119 pb0_0_0 v123 pb0_0_0_1 (a0 := q105.2.1) (a0_0 := q105.2.2.1) hz144 (HF.ten (V := [0]) (L := [5, 6, 7, 8]) rfl) (Bk.vw hB117 rfl) (Row.vw hr121 rfl) hl120 (Bk.vw hB122 rfl) (Own.vw hO124 rfl rfl) (Mp.vw hM125 rfl)) ?_
  rintro _ w145 ⟨o146, rfl, s147⟩
  refine ⟨_, rfl, ?_⟩
  replace s147 := un_stepL (J := []) (L' := []) s147 rfl rfl
  refine E rfl (ex_field1 rfl U76 rfl U74 rfl rfl) <|
   E rfl (e2 bin_neq rfl rfl) <|
   E rfl (mv (.bool (z144.f_Kind != 0)) rfl) ?_
  rcases condE H with ⟨c148, H⟩ | ⟨c148, H⟩
  ·
   refine WL.guardNo rfl rfl rfl (vb c148 rfl) <|
    WL.guardNo rfl rfl rfl (vb c148 rfl) <|
    WL.guardNo rfl rfl rfl (vb c148 rfl) <|
    E rfl (ex_pick_t (v := .bool true) (vb c148 rfl) rfl) <|
    WL.nil ?_
   obtain rfl := Option.some.inj H
   replace hB0 := hB0.step s147 rfl
   replace hB117 := hB117.step s147 rfl
   replace hr121 := hr121.step s147 rfl
   replace hB122 := hB122.step s147 rfl
   replace hO124 := hO124.step s147 rfl rfl
   replace hM125 := hM125.step s147 rfl
   replace hB128 := hB128.step s147 rfl
   replace HF := HF.step s147 rfl
   have k107_147 := k107_127.t s147
   replace hB2 := hB2.step k107_147 rfl
   exact ⟨_, HF, hB0, hB128, hB2, hB117, hr121, hB122, hO124, hM125, rfl, rfl⟩
  ·
   refine WL.guardYes rfl rfl rfl (vb c148 rfl) <|
    OW.ex rfl (ex_fieldAddr rfl U36 rfl sz28) <|
    WL.guardYes rfl rfl rfl (vb c148 rfl) ?_
   have k107_147 := k107_127.t s147
   replace hB2 := hB2.step k107_147 rfl
   refine OW.ex rfl (ex_load1 rfl U28 rfl (hB2.cell rfl)) <|
    WL.guardYes rfl rfl rfl (vb c148 rfl) <|
    OW.ex rfl (e2 bin_neq rfl rfl) <|
    E rfl (ex_pick_f (v := .bool (a2.f_Code != 0)) (vb c148 rfl) rfl) <|
    WL.nil ?_
   obtain rfl := Option.some.inj H
   replace hB0 := hB0.step s147 rfl
   replace hB117 := hB117.step s147 rfl
   replace hr121 := hr121.step s147 rfl
   replace hB122 := hB122.step s147 rfl
   replace hO124 := hO124.step s147 rfl rfl
   replace hM125 := hM125.step s147 rfl
   replace hB128 := hB128.step s147 rfl
   replace HF := HF.step s147 rfl
   exact ⟨_, HF, hB0, hB128, hB2, hB117, hr121, hB122, hO124, hM125, rfl, rfl⟩

/-! ### formula_Table_Cut -/
set_option maxRecDepth 100000 in
theorem formula_Table_Cut.calls (k : Nat) (o0 : Tags) (w0 : World) (pb0 : Nat) (pv0_0 : Value) (pb0_1 : Nat) {a0 : T_formula_Table} {a1 : Int} {a0_1 : (List (T_api_Node × Int))} {r : Int × T_formula_Table × (List (T_api_Node × Int))} (H : formula_Table_Cut.f k a0 a1 a0_1 = some r) (hO : ∀ b, b < w0.heap.size → o0 b < 40) (hB0 : Bk o0 w0 2 pb0 [pv0_0, .map (some pb0_1)] 56) (hO0_0 : Own T_api_Node.rep 60 3 o0 w0 pv0_0 a0.f_rows) (hM0_1 : Mp (fun x_ : T_api_Node => Value.agg #[ii x_.f_Kind, encS x_.f_Name, ii x_.f_L, ii x_.f_R]) (fun v_ : Int => ii v_) 4 o0 w0 pb0_1 a0_1) :
  Calls Tryz.prog 56 [pp pb0 0, ii a1].toArray w0 fun e_ w_ => ∃ (o_ : Tags) (u0_0 : Value), e_ = .returned (one [ii r.1]) ∧ Step o0 w0 o_ w_ [2, 3, 4] ∧ Bk o_ w_ 2 pb0 [u0_0, .map (some pb0_1)] 56 ∧ Own T_api_Node.rep 60 3 o_ w_ u0_0 r.2.1.f_rows ∧ Mp (fun x_ : T_api_Node => Value.agg #[ii x_.f_Kind, encS x_.f_Name, ii x_.f_L, ii x_.f_R]) (fun v_ : Int => ii v_) 4 o_ w_ pb0_1 r.2.2 := by
 have HF := Fm.refl hO [2, 3, 4]
 unfold formula_Table_Cut.f at H
 refine SX.calls [pp pb0 0, ii a1] Tryz.func56 rfl rfl ?_
 rw [Tryz.ntmps56]
 refine WC.seq <|
  WC.region <|
  E rfl (sg (ii 0) rfl) <|
  WL.nil <|
  WC.seq <|
  WC.block <|
  WC.seq <|
  WC.region <|
  E rfl (mv (pp pb0 0) rfl) ?_
 obtain ⟨z101, hz101, H⟩ := bindE H
 refine WL.op rfl <|
  OW.call [pp pb0 0] rfl Tryz.func22 (by kernel_rfl) (by kernel_rfl) (map_cons' rfl rfl) (formula_Table_alive.calls _ _ pb0 pv0_0 pb0_1 (a0 := a0) hz101 (HF.ten (V := [0]) (L := [2, 3, 4]) rfl) (Bk.vw hB0 rfl) (Own.vw hO0_0 rfl rfl) (Mp.vw hM0_1 rfl)) ?_
 obtain rfl := Option.some.inj (show some true = some z101 from hz101)
 rintro _ w102 ⟨o103, rfl, s104⟩
 refine ⟨_, rfl, ?_⟩
 replace s104 := un_stepL (J := []) (L' := []) s104 rfl rfl
 refine E rfl (ex_not (b := true) rfl) <|
  E rfl (sg (.bool false) rfl) <|
  WL.nil <|
  WC.cond_f rfl ?_
 obtain ⟨z106, hz106, H⟩ := bindE H
 refine WC.cut (fun ρ_ w_ => ∃ (o_ : Tags), Fm o0 w0 o_ w_ [2, 3, 4] ∧ Bk o_ w_ 2 pb0 [pv0_0, .map (some pb0_1)] 56 ∧ Own T_api_Node.rep 60 3 o_ w_ pv0_0 a0.f_rows ∧ Mp (fun x_ : T_api_Node => Value.agg #[ii x_.f_Kind, encS x_.f_Name, ii x_.f_L, ii x_.f_R]) (fun v_ : Int => ii v_) 4 o_ w_ pb0_1 a0_1 ∧ ρ_ 0 = pp pb0 0 ∧ ρ_ 1 = ii a1 ∧ ρ_ 4 = ii 0 ∧ ρ_ 11 = .bool z106) ?case107 ?_
 case case107 =>
  rintro ρ110 w108 ⟨o109, HF, hB0, hO0_0, hM0_1, s0_104, s1_104, s4_104, s11_105⟩
  rcases condE H with ⟨c111, H⟩ | ⟨c111, H⟩
  ·
   refine WC.cond_t (vb c111 s11_105) <|
    WC.seq <|
    WC.region <|
    E rfl (sg (ii 2) rfl) <|
    WL.nil <|
    WC.ret ?_
   obtain rfl := Option.some.inj H
   exact ⟨_, (.tmp _ rfl .nil), _, pv0_0, rfl, HF.out, hB0, hO0_0, hM0_1⟩
  ·
   refine WC.cond_f (vb c111 s11_105) <|
    WC.skip <|
    WC.seq <|
    WC.seq <|
    WC.region <|
    E rfl (mv (pp pb0 0) s0_104) <|
    E rfl (ex_nilCheck rfl) <|
    E rfl (ex_fieldAddr rfl U56 rfl sz22) <|
    E rfl (ex_load1 rfl U22 rfl (hB0.cell rfl)) <|
    E rfl (mv (ii a1) s1_104) ?_
   obtain ⟨A112, c113, q114, hl115, hr116⟩ := hO0_0.row
   obtain ⟨y117, hy117, H⟩ := bindE H
   have hr119 := Row.cut hr116 hl115 hy117
   obtain ⟨A120, el123⟩ : ∃ A_, A_ = subA A112 c113 (a1 : Int).toNat 4 := ⟨_, rfl⟩
   rw [show subA A112 c113 (a1 : Int).toNat T_api_Node.rep.sz = A120 from el123.symm] at hr119
   have hl122 : y117.length ≤ c113 - (a1 : Int).toNat := cut_le hl115 hy117
   refine E rfl (ex_slice' (l := a1) (h := (a0.f_rows.length : Int)) ((show _ = (pv0_0 : Value) from rfl).trans q114) U22 sz60 ⟨_, rfl⟩ rfl (cut_low hy117) (cut_mid hy117) (cut_cap hl115 hy117) el123 (cut_len hy117)) <|
    E rfl (ex_len_slice (A := A120) (m := y117.length) (c := (c113 - (a1 : Int).toNat)) rfl U22) <|
    E rfl (mv (ii 0) rfl) <|
    WL.nil ?_
   obtain ⟨z127, hz127, H⟩ := bindE H
   refine WC.for (fun k_ ρ_ w_ => ∃ (o_ : Tags) (x124 : Int) (x125 : (List (T_api_Node × Int))), Fm o0 w0 o_ w_ [2, 3, 4] ∧ Row T_api_Node.rep (fun b_ => o_ b_ = 3) (fun b_ => o_ b_ = 0) w_ A120 y117 ∧ Bk o_ w_ 2 pb0 [pv0_0, .map (some pb0_1)] 56 ∧ Own T_api_Node.rep 60 3 o_ w_ pv0_0 a0.f_rows ∧ Mp (fun x_ : T_api_Node => Value.agg #[ii x_.f_Kind, encS x_.f_Name, ii x_.f_L, ii x_.f_R]) (fun v_ : Int => ii v_) 4 o_ w_ pb0_1 x125 ∧ ρ_ 0 = pp pb0 0 ∧ ρ_ 1 = ii a1 ∧ ρ_ 4 = ii 0 ∧ ρ_ 28 = .slice A120 y117.length (c113 - (a1 : Int).toNat) ∧ ρ_ 29 = ii (y117.length : Int) ∧ ρ_ 30 = ii x124 ∧ formula_Table_Cut.l1 k y117 k_ x124 x125 = some z127) k (fun ρ_ w_ => ∃ (o_ : Tags), Fm o0 w0 o_ w_ [2, 3, 4] ∧ Bk o_ w_ 2 pb0 [pv0_0, .map (some pb0_1)] 56 ∧ Own T_api_Node.rep 60 3 o_ w_ pv0_0 a0.f_rows ∧ Mp (fun x_ : T_api_Node => Value.agg #[ii x_.f_Kind, encS x_.f_Name, ii x_.f_L, ii x_.f_R]) (fun v_ : Int => ii v_) 4 o_ w_ pb0_1 z127 ∧ ρ_ 0 = pp pb0 0 ∧ ρ_ 1 = ii a1 ∧ ρ_ 4 = ii 0) ⟨_, 0, a0_1, HF, hr119, hB0, hO0_0, hM0_1, s0_104, s1_104, s4_104, rfl, rfl, rfl, hz127⟩ ?case128 ?_
   case case128 =>
    rintro ρ158 w159 ⟨o160, HF, hB0, hO0_0, hM0_1, s0_125, s1_125, s4_125⟩
    refine WC.seq <|
     WC.region <|
     E rfl (mv (pp pb0 0) s0_125) <|
     E rfl (mv (pp pb0 0) s0_125) <|
     E rfl (ex_nilCheck rfl) <|
     E rfl (ex_fieldAddr rfl U56 rfl sz22) <|
     E rfl (ex_load1 rfl U22 rfl (hB0.cell rfl)) <|
     E rfl (mv (ii a1) s1_125) ?_
    obtain ⟨y161, hy161, H⟩ := bindE H
    obtain ⟨A163, c164, q165, hl166, hO167⟩ := Own.take hO0_0 (cut_pos hy161) (cut_high hy161)
    obtain ⟨v168, e169⟩ : ∃ v_, v_ = Value.slice A163 (a1 : Int).toNat c164 := ⟨_, rfl⟩
    rw [← e169, cut_take hy161] at hO167
    refine E rfl (ex_take (h := a1) ((show _ = (pv0_0 : Value) from rfl).trans q165) U22 sz60 ⟨_, rfl⟩ (cut_pos hy161) (Int.le_trans (cut_high hy161) (Int.ofNat_le.2 hl166)) e169) <|
     E rfl (ex_nilCheck rfl) <|
     E rfl (ex_fieldAddr rfl U56 rfl sz22) <|
     WL.op rfl <|
     OW.store [v168, .map (some pb0_1)] rfl (vs := [v168]) ((congrArg Value.cells (show ev _ _ = (v168 : Value) from rfl)).trans (Own.cells1 hO167)) sz22 hB0 (Nat.le_of_ble_eq_true rfl) (by intro u_ hu_; simp only [List.mem_cons, List.not_mem_nil, or_false] at hu_; rcases hu_ with rfl; first | rfl | exact Own.oneCell hO167) rfl ?_
    intro w170 s171 hB172
    refine WL.nil <|
     WC.seq <|
     WC.region <|
     E rfl (sg (ii 0) rfl) <|
     WL.nil <|
     WC.ret ?_
    obtain rfl := Option.some.inj H
    replace hM0_1 := hM0_1.step s171 rfl
    replace hO167 := hO167.step s171 rfl rfl
    replace HF := HF.step s171 rfl
    exact ⟨_, (.tmp _ rfl .nil), _, v168, rfl, HF.out, hB172, hO167, hM0_1⟩
   have Ho129 := H
   rintro k130 ρ131 w132 ⟨o133, x124, x125, HF, hr119, hB0, hO0_0, hM0_1, s0_123, s1_123, s4_123, s28_123, s29_123, s30_124, H⟩
   cases k130 with
   | zero => cases H
   | succ k130 =>
   rw [formula_Table_Cut.l1.eq_2] at H
   refine WC.seq <|
    WC.region <|
    E rfl (e2 bin_lss s30_124 s29_123) <|
    WL.nil <|
    WC.seq ?_
   rcases condE H with ⟨c134, H⟩ | ⟨c134, H⟩
   ·
    refine WC.cond_t (vb c134 rfl) <|
     WC.skip <|
     WC.seq <|
     WC.block <|
     WC.seq <|
     WC.region ?_
    obtain ⟨x135, hx135, H⟩ := bindE H
    obtain ⟨ad136, cc140, e137, g138, g139, hl141, hR142, cell143⟩ := Row.ix hr119 hx135
    obtain rfl := T_api_Node.opn hR142
    refine E rfl (ex_indexAddr (i := x124) s28_123 e137 s30_124 U22 sz60 g138 g139) <|
     E rfl (ex_loadN (cs := [ii x135.f_Kind, encS x135.f_Name, ii x135.f_L, ii x135.f_R]) rfl U60 rfl sz60 cell143) <|
     WL.op rfl <|
     OW.alloc' [ii (0 : Int), encS ([] : List UInt8), ii (0 : Int), ii (0 : Int)] 40 HF rfl zr60 rfl ?_
    intro o146 w147 b145 s148 hB149
    refine WL.op rfl <|
     OW.storeW rfl rfl sz60 hB149 rfl (oa rfl) ?_
    intro w150 s151 hB152
    refine WL.nil ?_
    have k148_151 := s148.t s151
    replace HF := HF.step k148_151 rfl
    refine WC.regionD' HF [4] 6 6 (by kernel_rfl) rfl ?_
    intro w153 s154
    have k148_154 := k148_151.t s154
    replace hB0 := hB0.step k148_154 rfl
    have hB0D := hB0
    replace hB152 := hB152.step s154 rfl
    have hB152D := hB152
    replace HF := HF.step s154 rfl
    have sR := HF.here [4]
    refine WA.seq [0, 1, 2, 3, 4] (lb 6 31) 1 (by kernel_rfl) rfl ⟨_, sR⟩ <|
     X1 rfl (fun w_ hS_ => ex_move (v := pp pb0 0) s0_123) <|
     X1 rfl (fun w_ hS_ => ex_nilCheck rfl) <|
     X1 rfl (fun w_ hS_ => ex_fieldAddr rfl U56 rfl sz54) <|
     X1 rfl (fun w_ hS_ => ex_load1 (v := .map (some pb0_1)) rfl U54 rfl ((hB0D.step hS_.choose_spec rfl).cell rfl)) <|
     X1 rfl (fun w_ hS_ => ex_loadN (cs := [ii x135.f_Kind, encS x135.f_Name, ii x135.f_L, ii x135.f_R]) rfl U60 rfl sz60 ((hB152D.step hS_.choose_spec rfl).cells rfl)) <|
     WA.one 5 (by kernel_rfl) rfl rfl ?_
    replace hM0_1 := hM0_1.step k148_154 rfl
    refine OW.delete (ek := (fun x_ : T_api_Node => Value.agg #[ii x_.f_Kind, encS x_.f_Name, ii x_.f_L, ii x_.f_R])) (ev := (fun v_ : Int => ii v_)) (eq := T_api_Node.eqb) (kx := x135) rfl rfl U54 key60 hM0_1 ?_
    intro w155 s156 hM157
    replace sR := Step.trans sR s156 (M := [4]) rfl rfl
    refine ⟨⟨_, sR⟩, ?_⟩
    refine WA.norm (listed' := lb 6 63) (by kernel_rfl) <|
     WA.done (by kernel_rfl) <|
     WC.region <|
     E rfl (e2 bin_add64 s30_124 rfl) <|
     E rfl (mv (ii (wrap64 (x124 + 1))) rfl) <|
     WL.nil ?_
    replace hB0 := hB0.step s156 rfl
    replace HF := HF.step s156 rfl
    have k148_156 := k148_154.t s156
    replace hr119 := hr119.stepB k148_156 rfl rfl
    replace hO0_0 := hO0_0.step k148_156 rfl rfl
    exact ⟨k130, Nat.lt_succ_self _, ⟨_, wrap64 (x124 + 1), (mdel T_api_Node.eqb x125 x135), HF, hr119, hB0, hO0_0, hM157, s0_123, s1_123, s4_123, s28_123, s29_123, rfl, H⟩⟩
   ·
    refine WC.cond_f (vb c134 rfl) <|
     WC.exit ?_
    obtain rfl := Option.some.inj H
    exact ⟨_, HF, hB0, hO0_0, hM0_1, s0_123, s1_123, s4_123⟩
 have Ho173 := H
 replace H := hz106
 refine WC.region <|
  E rfl (mv (ii a1) rfl) <|
  E rfl (e2 bin_lss rfl rfl) <|
  E rfl (mv (.bool (decide (a1 < 0))) rfl) ?_
 rcases condE H with ⟨c174, H⟩ | ⟨c174, H⟩
 ·
  refine WL.guardNo rfl rfl rfl (vb c174 rfl) <|
   WL.guardNo rfl rfl rfl (vb c174 rfl) <|
   WL.guardNo rfl rfl rfl (vb c174 rfl) <|
   WL.guardNo rfl rfl rfl (vb c174 rfl) <|
   WL.guardNo rfl rfl rfl (vb c174 rfl) <|
   WL.guardNo rfl rfl rfl (vb c174 rfl) <|
   WL.guardNo rfl rfl rfl (vb c174 rfl) <|
   E rfl (ex_pick_t (v := .bool true) (vb c174 rfl) rfl) <|
   E rfl (sg (.bool true) rfl) <|
   WL.nil ?_
  obtain rfl := Option.some.inj H
  replace hO0_0 := hO0_0.step s104 rfl rfl
  replace hB0 := hB0.step s104 rfl
  replace hM0_1 := hM0_1.step s104 rfl
  replace HF := HF.step s104 rfl
  exact ⟨_, HF, hB0, hO0_0, hM0_1, rfl, rfl, rfl, rfl⟩
 ·
  refine WL.guardYes rfl rfl rfl (vb c174 rfl) <|
   OW.ex rfl (mv (ii a1) rfl) <|
   WL.guardYes rfl rfl rfl (vb c174 rfl) <|
   OW.ex rfl (mv (pp pb0 0) rfl) <|
   WL.guardYes rfl rfl rfl (vb c174 rfl) <|
   OW.ex rfl (ex_nilCheck rfl) <|
   WL.guardYes rfl rfl rfl (vb c174 rfl) <|
   OW.ex rfl (ex_fieldAddr rfl U56 rfl sz22) <|
   WL.guardYes rfl rfl rfl (vb c174 rfl) ?_
  replace hB0 := hB0.step s104 rfl
  refine OW.ex rfl (ex_load1 rfl U22 rfl (hB0.cell rfl)) <|
   WL.guardYes rfl rfl rfl (vb c174 rfl) ?_
  replace hO0_0 := hO0_0.step s104 rfl rfl
  obtain ⟨A175, c176, q177⟩ := hO0_0.slice
  refine OW.ex rfl (ex_len_slice ((show _ = (pv0_0 : Value) from rfl).trans q177) U22) <|
   WL.guardYes rfl rfl rfl (vb c174 rfl) <|
   OW.ex rfl (e2 bin_gtr rfl rfl) <|
   E rfl (ex_pick_f (v := .bool (decide (a1 > (a0.f_rows.length : Int)))) (vb c174 rfl) rfl) <|
   E rfl (sg (.bool (decide (a1 > (a0.f_rows.length : Int)))) rfl) <|
   WL.nil ?_
  obtain rfl := Option.some.inj H
  replace hM0_1 := hM0_1.step s104 rfl
  replace HF := HF.step s104 rfl
  exact ⟨_, HF, hB0, hO0_0, hM0_1, rfl, rfl, rfl, rfl⟩

/-! ### syntax_reader_read_1_rec -/
set_option maxRecDepth 100000 in
theorem syntax_reader_read_1_rec.dcalls (k : Nat) (o0 : Tags) (w0 : World) (pb0 : Nat) (pb1 : Nat) (pb2 : Nat) (pb0_0 : Nat) (pA0_0_1 : Option Addr) (pc0_0_1 : Nat) (pb0_0_0 : Nat) (pv0_0_0_0 : Value) (pb0_0_0_1 : Nat) {a1 : Int} {a2 : T_api_Fault} {a0_0 : T_syntax_reader} {a0_0_0 : T_formula_Table} {a0_0_0_1 : (List (T_api_Node × Int))} {p0 : T_syntax_broken} {r : T_api_Fault × T_formula_Table × (List (T_api_Node × Int))} (H : syntax_reader_read_1_rec.f k a1 a2 a0_0 a0_0_0 a0_0_0_1 p0 = some r) (hO : ∀ b, b < w0.heap.size → o0 b < 40) (hB0 : Bk o0 w0 2 pb0 [pp pb0_0 0] 78) (hB1 : Bk o0 w0 3 pb1 [ii a1] 3) (hB2 : Bk o0 w0 4 pb2 [ii a2.f_Code, ii a2.f_At.f_Line, ii a2.f_At.f_Col, ii a2.f_At.f_Off] 36) (hB0_0 : Bk o0 w0 5 pb0_0 [pp pb0_0_0 0, .slice pA0_0_1 a0_0.f_l.length pc0_0_1, ii a0_0.f_i, ii a0_0.f_names, ii a0_0.f_nest, .bool a0_0.f_counts, .bool a0_0.f_full] 80) (hra0_0_1 : Row T_api_Token.rep (fun b_ => o0 b_ = 0) (fun b_ => o0 b_ = 0) w0 pA0_0_1 a0_0.f_l) (hla0_0_1 : a0_0.f_l.length ≤ pc0_0_1) (hB0_0_0 : Bk o0 w0 6 pb0_0_0 [pv0_0_0_0, .map (some pb0_0_0_1)] 56) (hO0_0_0_0 : Own T_api_Node.rep 60 7 o0 w0 pv0_0_0_0 a0_0_0.f_rows) (hM0_0_0_1 : Mp (fun x_ : T_api_Node => Value.agg #[ii x_.f_Kind, encS x_.f_Name, ii x_.f_L, ii x_.f_R]) (fun v_ : Int => ii v_) 8 o0 w0 pb0_0_0_1 a0_0_0_1) :
  DCalls Tryz.prog 55 [pp pb0 0, pp pb1 0, pp pb2 0].toArray (.panicking (pc (.iface 111 (.agg #[ii p0.f_f.f_Code, ii p0.f_f.f_At.f_Line, ii p0.f_f.f_At.f_Col, ii p0.f_f.f_At.f_Off])))) w0 fun e_ u_ w_ => u_ = recd (.iface 111 (.agg #[ii p0.f_f.f_Code, ii p0.f_f.f_At.f_Line, ii p0.f_f.f_At.f_Col, ii p0.f_f.f_At.f_Off])) ∧ ∃ (o_ : Tags) (u4_0 : Value), e_ = .returned (one []) ∧ Step o0 w0 o_ w_ [4, 6, 7, 8] ∧ Bk o_ w_ 4 pb2 [ii r.1.f_Code, ii r.1.f_At.f_Line, ii r.1.f_At.f_Col, ii r.1.f_At.f_Off] 36 ∧ Bk o_ w_ 6 pb0_0_0 [u4_0, .map (some pb0_0_0_1)] 56 ∧ Own T_api_Node.rep 60 7 o_ w_ u4_0 r.2.1.f_rows ∧ Mp (fun x_ : T_api_Node => Value.agg #[ii x_.f_Kind, encS x_.f_Name, ii x_.f_L, ii x_.f_R]) (fun v_ : Int => ii v_) 8 o_ w_ pb0_0_0_1 r.2.2 := by
 have HF := Fm.refl hO [4, 6, 7, 8]
 unfold syntax_reader_read_1_rec.f at H
 refine dcalls_rec (rv := .iface 111 (.agg #[ii p0.f_f.f_Code, ii p0.f_f.f_At.f_Line, ii p0.f_f.f_At.f_Col, ii p0.f_f.f_At.f_Off])) [pp pb0 0, pp pb1 0, pp pb2 0] Tryz.func55 rfl rfl rfl (.inr ⟨rfl, rfl⟩) ?_
 rw [Tryz.ntmps55]
 refine WC.block <|
  WC.seq <|
  WC.region <|
  E rfl (ex_errEql (b := true) rfl U20 isErr_if) <|
  WL.nil <|
  WC.cond_f rfl <|
  WC.seq <|
  WC.region <|
  E rfl (ex_typeAssertY (v := .agg #[ii p0.f_f.f_Code, ii p0.f_f.f_At.f_Line, ii p0.f_f.f_At.f_Col, ii p0.f_f.f_At.f_Off]) rfl U111 rfl) <|
  E rfl (ex_extract rfl rfl) <|
  E rfl (ex_extract rfl rfl) <|
  WL.nil <|
  WC.cond_t rfl <|
  WC.seq <|
  WC.region <|
  WL.op rfl <|
  OW.alloc' [ii (0 : Int), ii (0 : Int), ii (0 : Int), ii (0 : Int)] 40 HF rfl zr111 rfl ?_
 intro o102 w103 b101 s104 hB105
 refine WL.op rfl <|
  OW.storeW rfl rfl sz111 hB105 rfl (oa rfl) ?_
 intro w106 s107 hB108
 refine WL.nil <|
  WC.seq ?_
 have k104_107 := s104.t s107
 replace HF := HF.step k104_107 rfl
 refine WC.regionD' HF [6, 7, 8] 6 6 (by kernel_rfl) rfl ?_
 intro w109 s110
 have k104_110 := k104_107.t s110
 replace hB0 := hB0.step k104_110 rfl
 have hB0D := hB0
 replace hB1 := hB1.step k104_110 rfl
 have hB1D := hB1
 replace hB0_0 := hB0_0.step k104_110 rfl
 have hB0_0D := hB0_0
 replace HF := HF.step s110 rfl
 have sR := HF.here [6, 7, 8]
 refine WA.seq [0, 1, 2, 3, 4] (lb 6 31) 1 (by kernel_rfl) rfl ⟨_, sR⟩ <|
  X1 rfl (fun w_ hS_ => ex_load1 (v := pp pb0_0 0) rfl U78 rfl ((hB0D.step hS_.choose_spec rfl).cell rfl)) <|
  X1 rfl (fun w_ hS_ => ex_nilCheck rfl) <|
  X1 rfl (fun w_ hS_ => ex_fieldAddr rfl U80 rfl sz23) <|
  X1 rfl (fun w_ hS_ => ex_load1 (v := pp pb0_0_0 0) rfl U23 rfl ((hB0_0D.step hS_.choose_spec rfl).cell rfl)) <|
  X1 rfl (fun w_ hS_ => ex_load1 (v := ii a1) rfl U3 rfl ((hB1D.step hS_.choose_spec rfl).cell rfl)) ?_
 obtain ⟨z111, hz111, H⟩ := bindE H
 refine WA.one 5 (by kernel_rfl) rfl rfl ?_
 replace hO0_0_0_0 := hO0_0_0_0.step k104_110 rfl rfl
 replace hB0_0_0 := hB0_0_0.step k104_110 rfl
 replace hM0_0_0_1 := hM0_0_0_1.step k104_110 rfl
 refine OW.call [pp pb0_0_0 0, ii a1] rfl Tryz.func56 (by kernel_rfl) (by kernel_rfl) (map_cons' rfl (map_cons' rfl rfl)) (formula_Table_Cut.calls k _ _ pb0_0_0 pv0_0_0_0 pb0_0_0_1 (a0 := a0_0_0) hz111 (HF.ten (V := [0]) (L := [6, 7, 8]) rfl) (Bk.vw hB0_0_0 rfl) (Own.vw hO0_0_0_0 rfl rfl) (Mp.vw hM0_0_0_1 rfl)) ?_
 rintro _ w112 ⟨o113, v116, rfl, s114, hB115, hO117, hM118⟩
 refine ⟨_, rfl, ?_⟩
 replace hB115 := Bk.unO (J := []) 0 hB115 s114 rfl rfl rfl
 replace hO117 := Own.unO (J := []) 1 hO117 s114 rfl rfl rfl
 replace hM118 := Mp.unO (J := []) 2 hM118 s114 rfl rfl rfl
 replace s114 := un_stepL (J := []) (L' := [6, 7, 8]) s114 rfl rfl
 replace sR := Step.trans sR s114 (M := [6, 7, 8]) rfl rfl
 refine ⟨⟨_, sR⟩, ?_⟩
 refine WA.norm (listed' := lb 6 63) (by kernel_rfl) <|
  WA.done (by kernel_rfl) <|
  WC.region <|
  E rfl (ex_fieldAddr rfl U111 rfl sz36) ?_
 have k110_114 := s110.t s114
 replace hB108 := hB108.step k110_114 rfl
 refine E rfl (ex_loadN (cs := [ii p0.f_f.f_Code, ii p0.f_f.f_At.f_Line, ii p0.f_f.f_At.f_Col, ii p0.f_f.f_At.f_Off]) rfl U36 rfl sz36 (hB108.cells rfl)) <|
  WL.op rfl ?_
 have k104_114 := k104_110.t s114
 replace hB2 := hB2.step k104_114 rfl
 refine OW.storeW rfl rfl sz36 hB2 rfl (oa rfl) ?_
 intro w119 s120 hB121
 refine WL.nil ?_
 obtain rfl := Option.some.inj H
 replace hB115 := hB115.step s120 rfl
 replace hO117 := hO117.step s120 rfl rfl
 replace hM118 := hM118.step s120 rfl
 have k114_120 := s114.t s120
 replace HF := HF.step k114_120 rfl
 exact ⟨_, .nil, _, v116, rfl, HF.out, hB121, hB115, hO117, hM118⟩

/-! ### syntax_reader_read_1_ret -/
set_option maxRecDepth 100000 in
theorem syntax_reader_read_1_ret.dcalls (o0 : Tags) (w0 : World) (pb0 : Nat) (pb1 : Nat) (pb2 : Nat) (pb0_0 : Nat) (pA0_0_1 : Option Addr) (pc0_0_1 : Nat) (pb0_0_0 : Nat) (pv0_0_0_0 : Value) (pb0_0_0_1 : Nat) {a1 : Int} {a2 : T_api_Fault} {a0_0 : T_syntax_reader} {a0_0_0 : T_formula_Table} {a0_0_0_1 : (List (T_api_Node × Int))} {r : Unit} (H : syntax_reader_read_1_ret.f a1 a2 a0_0 a0_0_0 a0_0_0_1 = some r) (hO : ∀ b, b < w0.heap.size → o0 b < 40) (hB0 : Bk o0 w0 2 pb0 [pp pb0_0 0] 78) (hB1 : Bk o0 w0 3 pb1 [ii a1] 3) (hB2 : Bk o0 w0 4 pb2 [ii a2.f_Code, ii a2.f_At.f_Line, ii a2.f_At.f_Col, ii a2.f_At.f_Off] 36) (hB0_0 : Bk o0 w0 5 pb0_0 [pp pb0_0_0 0, .slice pA0_0_1 a0_0.f_l.length pc0_0_1, ii a0_0.f_i, ii a0_0.f_names, ii a0_0.f_nest, .bool a0_0.f_counts, .bool a0_0.f_full] 80) (hra0_0_1 : Row T_api_Token.rep (fun b_ => o0 b_ = 0) (fun b_ => o0 b_ = 0) w0 pA0_0_1 a0_0.f_l) (hla0_0_1 : a0_0.f_l.length ≤ pc0_0_1) (hB0_0_0 : Bk o0 w0 6 pb0_0_0 [pv0_0_0_0, .map (some pb0_0_0_1)] 56) (hO0_0_0_0 : Own T_api_Node.rep 60 7 o0 w0 pv0_0_0_0 a0_0_0.f_rows) (hM0_0_0_1 : Mp (fun x_ : T_api_Node => Value.agg #[ii x_.f_Kind, encS x_.f_Name, ii x_.f_L, ii x_.f_R]) (fun v_ : Int => ii v_) 8 o0 w0 pb0_0_0_1 a0_0_0_1) :
  DCalls Tryz.prog 55 [pp pb0 0, pp pb1 0, pp pb2 0].toArray .returning w0 fun e_ u_ w_ => u_ = .returning ∧ ∃ (o_ : Tags), e_ = .returned (one []) ∧ Step o0 w0 o_ w_ [] := by
 have HF := Fm.refl hO []
 unfold syntax_reader_read_1_ret.f at H
 refine dcalls_rec (rv := .nilIface) [pp pb0 0, pp pb1 0, pp pb2 0] Tryz.func55 rfl rfl rfl (.inl ⟨rfl, rfl, rfl⟩) ?_
 rw [Tryz.ntmps55]
 refine WC.block <|
  WC.seq <|
  WC.region <|
  E rfl (ex_errEql (b := false) rfl U20 isErr_ni) <|
  WL.nil <|
  WC.cond_t rfl <|
  WC.region <|
  E rfl (sg .nilIface rfl) <|
  WL.nil ?_
 obtain rfl := Option.some.inj H
 exact ⟨_, .nil, _, rfl, HF.out⟩

/-! ### syntax_reader_read_syntax_Parse_1 -/
set_option maxRecDepth 100000 in
theorem syntax_reader_read_syntax_Parse_1.calls (k : Nat) (o0 : Tags) (w0 : World) (pb0 : Nat) (pA0_1 : Option Addr) (pc0_1 : Nat) (pb0_0 : Nat) (pv0_0_0 : Value) (pb1_0 : Nat) (pb1_1 : Nat) (pb1_2 : Nat) (pb0_0_1 : Nat) {a0 : T_syntax_reader} {a0_0 : T_formula_Table} {a1_1 : Int} {a1_2 : T_api_Fault} {a0_0_1 : (List (T_api_Node × Int))} {r : T_api_Fault × T_syntax_reader × T_formula_Table × Int × (List (T_api_Node × Int))} (H : syntax_reader_read_syntax_Parse_1.f k a0 a0_0 a1_1 a1_2 a0_0_1 = some r) (hO : ∀ b, b < w0.heap.size → o0 b < 40) (hB0 : Bk o0 w0 2 pb0 [pp pb0_0 0, .slice pA0_1 a0.f_l.length pc0_1, ii a0.f_i, ii a0.f_names, ii a0.f_nest, .bool a0.f_counts, .bool a0.f_full] 80) (hra0_1 : Row T_api_Token.rep (fun b_ => o0 b_ = 0) (fun b_ => o0 b_ = 0) w0 pA0_1 a0.f_l) (hla0_1 : a0.f_l.length ≤ pc0_1) (hB0_0 : Bk o0 w0 3 pb0_0 [pv0_0_0, .map (some pb0_0_1)] 56) (hO0_0_0 : Own T_api_Node.rep 60 4 o0 w0 pv0_0_0 a0_0.f_rows) (hB1_0 : Bk o0 w0 5 pb1_0 [pp pb0 0] 78) (hB1_1 : Bk o0 w0 6 pb1_1 [ii a1_1] 3) (hB1_2 : Bk o0 w0 7 pb1_2 [ii a1_2.f_Code, ii a1_2.f_At.f_Line, ii a1_2.f_At.f_Col, ii a1_2.f_At.f_Off] 36) (hM0_0_1 : Mp (fun x_ : T_api_Node => Value.agg #[ii x_.f_Kind, encS x_.f_Name, ii x_.f_L, ii x_.f_R]) (fun v_ : Int => ii v_) 8 o0 w0 pb0_0_1 a0_0_1) :
  Calls Tryz.prog 30 [pp pb0 0, .func (.func 31) #[] #[pp pb1_0 0, pp pb1_1 0, pp pb1_2 0]].toArray w0 fun e_ w_ => ∃ (o_ : Tags) (B_0_1 : Option Addr) (d_0_1 : Nat) (u2_0 : Value), e_ = .returned (one [.agg #[ii r.1.f_Code, ii r.1.f_At.f_Line, ii r.1.f_At.f_Col, ii r.1.f_At.f_Off]]) ∧ Step o0 w0 o_ w_ [2, 3, 4, 6, 8] ∧ Bk o_ w_ 2 pb0 [pp pb0_0 0, .slice B_0_1 r.2.1.f_l.length d_0_1, ii r.2.1.f_i, ii r.2.1.f_names, ii r.2.1.f_nest, .bool r.2.1.f_counts, .bool r.2.1.f_full] 80 ∧ r.2.1.f_l.length ≤ d_0_1 ∧ Row T_api_Token.rep (fun b_ => o_ b_ = 0) (fun b_ => o_ b_ = 0) w_ B_0_1 r.2.1.f_l ∧ Bk o_ w_ 3 pb0_0 [u2_0, .map (some pb0_0_1)] 56 ∧ Own T_api_Node.rep 60 4 o_ w_ u2_0 r.2.2.1.f_rows ∧ Bk o_ w_ 6 pb1_1 [ii r.2.2.2.1] 3 ∧ Mp (fun x_ : T_api_Node => Value.agg #[ii x_.f_Kind, encS x_.f_Name, ii x_.f_L, ii x_.f_R]) (fun v_ : Int => ii v_) 8 o_ w_ pb0_0_1 r.2.2.2.2 := by
 have HF := Fm.refl hO [2, 3, 4, 6, 8]
 unfold syntax_reader_read_syntax_Parse_1.f at H
 refine SX.callsD [pp pb0 0, .func (.func 31) #[] #[pp pb1_0 0, pp pb1_1 0, pp pb1_2 0]] Tryz.func30 rfl rfl ?_
 rw [Tryz.ntmps30]
 refine WC.seq <|
  WC.region <|
  WL.op rfl <|
  OW.box' [pp pb0 0] 40 HF rfl ((congrArg Value.cells (show ev _ _ = (pp pb0 0 : Value) from rfl)).trans rfl) ?_
 intro o102 w103 b101 s104 hB105
 refine WL.op rfl ?_
 replace HF := HF.step s104 rfl
 refine OW.alloc' [ii (0 : Int), ii (0 : Int), ii (0 : Int), ii (0 : Int)] 41 HF rfl zr36 rfl ?_
 intro o107 w108 b106 s109 hB110
 refine WL.nil <|
  WC.seq <|
  WC.region ?_
 replace hB105 := hB105.step s109 rfl
 refine E rfl (ex_load1 rfl U78 rfl (hB105.cell rfl)) <|
  E rfl (ex_nilCheck rfl) <|
  E rfl (ex_fieldAddr rfl U80 rfl sz23) ?_
 have k104_109 := s104.t s109
 replace hB0 := hB0.step k104_109 rfl
 refine E rfl (ex_load1 rfl U23 rfl (hB0.cell rfl)) ?_
 obtain ⟨z111, hz111, H⟩ := bindE H
 refine WL.op rfl ?_
 replace HF := HF.step s109 rfl
 replace hO0_0_0 := hO0_0_0.step k104_109 rfl rfl
 replace hB0_0 := hB0_0.step k104_109 rfl
 replace hM0_0_1 := hM0_0_1.step k104_109 rfl
 refine OW.call [pp pb0_0 0] rfl Tryz.func8 (by kernel_rfl) (by kernel_rfl) (map_cons' rfl rfl) (formula_Table_Len.calls _ _ pb0_0 pv0_0_0 pb0_0_1 (a0 := a0_0) hz111 (HF.ten (V := [0]) (L := [3, 4, 8]) rfl) (Bk.vw hB0_0 rfl) (Own.vw hO0_0_0 rfl rfl) (Mp.vw hM0_0_1 rfl)) ?_
 rintro _ w112 ⟨o113, rfl, s114⟩
 refine ⟨_, rfl, ?_⟩
 replace s114 := un_stepL (J := []) (L' := []) s114 rfl rfl
 refine WL.op rfl ?_
 replace HF := HF.step s114 rfl
 refine OW.alloc' [ii (0 : Int)] 42 HF rfl zr3 rfl ?_
 intro o116 w117 b115 s118 hB119
 refine WL.op rfl <|
  OW.storeW rfl rfl sz3 hB119 rfl (oa rfl) ?_
 intro w120 s121 hB122
 refine WL.nil <|
  WC.seq <|
  WC.region <|
  E rfl (ex_makeFuncC [pp b101 0, pp b115 0, pp b106 0] (map_cons' rfl (map_cons' rfl (map_cons' rfl rfl)))) <|
  WL.op rfl <|
  OW.defer [] [pp b101 0, pp b115 0, pp b106 0] rfl [] rfl <|
  WL.nil <|
  WC.seq <|
  WC.region <|
  E rfl (mv (.func (.func 31) #[] #[pp pb1_0 0, pp pb1_1 0, pp pb1_2 0]) rfl) ?_
 obtain ⟨z123, hz123, H⟩ := bindE H
 refine WL.op rfl ?_
 have k118_121 := s118.t s121
 replace HF := HF.step k118_121 rfl
 have k114_121 := s114.t k118_121
 replace hB0 := hB0.step k114_121 rfl
 replace hO0_0_0 := hO0_0_0.step k114_121 rfl rfl
 replace hB0_0 := hB0_0.step k114_121 rfl
 replace hM0_0_1 := hM0_0_1.step k114_121 rfl
 have k104_121 := k104_109.t k114_121
 replace hra0_1 := hra0_1.step k104_121 rfl
 replace hB1_0 := hB1_0.step k104_121 rfl
 replace hB1_1 := hB1_1.step k104_121 rfl
 replace hB1_2 := hB1_2.step k104_121 rfl
 refine OW.callFP [] [pp pb1_0 0, pp pb1_1 0, pp pb1_2 0] (show ev _ _ = .func (.func 31) #[] #[pp pb1_0 0, pp pb1_1 0, pp pb1_2 0] from rfl) [] rfl Tryz.func31 (by kernel_rfl) (by kernel_rfl) rfl (syntax_Parse_1.calls k _ _ pb1_0 pb1_1 pb1_2 pb0 pA0_1 pc0_1 pb0_0 pv0_0_0 pb0_0_1 (a2 := a1_2) (a0_0 := a0) (a0_0_0 := a0_0) hz123 (HF.ten (V := [0]) (L := [5, 6, 7, 2, 3, 4, 8]) rfl) (Bk.vw hB1_0 rfl) (Bk.vw hB1_1 rfl) (Bk.vw hB1_2 rfl) (Bk.vw hB0 rfl) (Row.vw hra0_1 rfl) hla0_1 (Bk.vw hB0_0 rfl) (Own.vw hO0_0_0 rfl rfl) (Mp.vw hM0_0_1 rfl)) ?_
 rintro _ w124 ⟨o125, (⟨p126, rfl, A132, c133, v137, rfl, s128, hB130, hB131, hl134, hr135, hB136, hO138, hM139⟩ | ⟨q127, rfl, A142, c143, v147, rfl, s129, hB140, hB141, hl144, hr145, hB146, hO148, hM149⟩)⟩
 ·
  refine Or.inr ⟨_, rfl, ?_⟩
  dsimp only at H
  replace hB130 := Bk.unO (J := []) 1 hB130 s128 rfl rfl rfl
  replace hB131 := Bk.unO (J := []) 3 hB131 s128 rfl rfl rfl
  replace hr135 := hr135.un (J := []) s128
  replace hB136 := Bk.unO (J := []) 4 hB136 s128 rfl rfl rfl
  replace hO138 := Own.unO (J := []) 5 hO138 s128 rfl rfl rfl
  replace hM139 := Mp.unO (J := []) 6 hM139 s128 rfl rfl rfl
  replace s128 := un_stepL (J := []) (L' := [6, 2, 3, 4, 8]) s128 rfl rfl
  obtain ⟨z150, hz150, H⟩ := bindE H
  replace hB122 := hB122.step s128 rfl
  replace HF := HF.step s128 rfl
  have k114_128 := k114_121.t s128
  replace hB105 := hB105.step k114_128 rfl
  replace hB110 := hB110.step k114_128 rfl
  refine lv_one (xs := []) (cs := [pp b101 0, pp b115 0, pp b106 0]) (fun h_ => by cases h_) Tryz.func55 (by kernel_rfl) (by kernel_rfl) (DCalls.mono (syntax_reader_read_1_rec.dcalls k _ _ b101 b115 b106 pb0 A132 c133 pb0_0 v137 pb0_0_1 (a2 := (⟨(0 : Int), (⟨(0 : Int), (0 : Int), (0 : Int)⟩ : T_api_Spot)⟩ : T_api_Fault)) (a0_0 := p126.2.2.1) (a0_0_0 := p126.2.2.2.1) (p0 := p126.1) hz150 (HF.ten (V := [0]) (L := [40, 42, 41, 2, 3, 4, 8]) rfl) (Bk.vw hB105 rfl) (Bk.vw hB122 rfl) (Bk.vw hB110 rfl) (Bk.vw hB131 rfl) (Row.vw hr135 rfl) hl134 (Bk.vw hB136 rfl) (Own.vw hO138 rfl rfl) (Mp.vw hM139 rfl)) ?_)
  rintro _ _ w151 ⟨rfl, o152, v156, rfl, s153, hB154, hB155, hO157, hM158⟩
  replace hB154 := Bk.unO (J := []) 2 hB154 s153 rfl rfl rfl
  replace hB155 := Bk.unO (J := []) 4 hB155 s153 rfl rfl rfl
  replace hO157 := Own.unO (J := []) 5 hO157 s153 rfl rfl rfl
  replace hM158 := Mp.unO (J := []) 6 hM158 s153 rfl rfl rfl
  replace s153 := un_stepL (J := []) (L' := [41, 3, 4, 8]) s153 rfl rfl
  refine Lv.doneR ?_
  obtain rfl := Option.some.inj H
  replace hB130 := hB130.step s153 rfl
  replace hB131 := hB131.step s153 rfl
  replace hr135 := hr135.step s153 rfl
  replace HF := HF.step s153 rfl
  exact ⟨_, (.cell _ rfl (run_loadN (cs := [ii z150.1.f_Code, ii z150.1.f_At.f_Line, ii z150.1.f_At.f_Col, ii z150.1.f_At.f_Off]) U36 rfl sz36 (hB154.cells rfl)) .nil), _, A132, c133, v156, rfl, HF.out, hB131, hl134, hr135, hB155, hO157, hB130, hM158⟩
 ·
  refine Or.inl ⟨_, rfl, ?_⟩
  dsimp only at H
  replace hB140 := Bk.unO (J := []) 1 hB140 s129 rfl rfl rfl
  replace hB141 := Bk.unO (J := []) 3 hB141 s129 rfl rfl rfl
  replace hr145 := hr145.un (J := []) s129
  replace hB146 := Bk.unO (J := []) 4 hB146 s129 rfl rfl rfl
  replace hO148 := Own.unO (J := []) 5 hO148 s129 rfl rfl rfl
  replace hM149 := Mp.unO (J := []) 6 hM149 s129 rfl rfl rfl
  replace s129 := un_stepL (J := []) (L' := [6, 2, 3, 4, 8]) s129 rfl rfl
  refine WL.nil <|
   WC.seq <|
   WC.seq <|
   WC.region ?_
  have k114_129 := k114_121.t s129
  replace hB105 := hB105.step k114_129 rfl
  refine E rfl (ex_load1 rfl U78 rfl (hB105.cell rfl)) <|
   E rfl (ex_nilCheck rfl) <|
   E rfl (ex_fieldAddr rfl U80 rfl sz4) <|
   E rfl (ex_load1 rfl U4 rfl (hB141.cell rfl)) <|
   WL.nil ?_
  rcases condE H with ⟨c159, H⟩ | ⟨c159, H⟩
  ·
   refine WC.cond_t (vb c159 rfl) <|
    WC.region <|
    E rfl (ex_build (cs := [ii 30, ii (0 : Int), ii (0 : Int), ii (0 : Int)]) [(0, 1), (1, 3)] [(0, ii 30)] [ii 0, ii 0, ii 0, ii 0] U36 zr36 rfl (by kernel_rfl) (evs_cons rfl rfl) rfl) <|
    E rfl (ex_build (cs := [ii 30, ii (0 : Int), ii (0 : Int), ii (0 : Int)]) [(0, 4)] [(0, .agg #[ii 30, ii (0 : Int), ii (0 : Int), ii (0 : Int)])] [ii 0, ii 0, ii 0, ii 0] U111 zr111 rfl (by kernel_rfl) (evs_cons rfl rfl) rfl) <|
    E rfl (ex_makeInterface (v := .agg #[ii 30, ii (0 : Int), ii (0 : Int), ii (0 : Int)]) rfl U111 rfl) <|
    WL.op rfl <|
    OW.panic (T := 111) (v := .agg #[ii 30, ii (0 : Int), ii (0 : Int), ii (0 : Int)]) rfl ?_
   obtain ⟨z160, hz160, H⟩ := bindE H
   replace hB122 := hB122.step s129 rfl
   replace HF := HF.step s129 rfl
   replace hB110 := hB110.step k114_129 rfl
   refine lv_one (xs := []) (cs := [pp b101 0, pp b115 0, pp b106 0]) (fun h_ => by cases h_) Tryz.func55 (by kernel_rfl) (by kernel_rfl) (DCalls.mono (syntax_reader_read_1_rec.dcalls k _ _ b101 b115 b106 pb0 A142 c143 pb0_0 v147 pb0_0_1 (a2 := (⟨(0 : Int), (⟨(0 : Int), (0 : Int), (0 : Int)⟩ : T_api_Spot)⟩ : T_api_Fault)) (a0_0 := q127.2.1) (a0_0_0 := q127.2.2.1) (p0 := (⟨(⟨30, (⟨(0 : Int), (0 : Int), (0 : Int)⟩ : T_api_Spot)⟩ : T_api_Fault)⟩ : T_syntax_broken)) hz160 (HF.ten (V := [0]) (L := [40, 42, 41, 2, 3, 4, 8]) rfl) (Bk.vw hB105 rfl) (Bk.vw hB122 rfl) (Bk.vw hB110 rfl) (Bk.vw hB141 rfl) (Row.vw hr145 rfl) hl144 (Bk.vw hB146 rfl) (Own.vw hO148 rfl rfl) (Mp.vw hM149 rfl)) ?_)
   rintro _ _ w161 ⟨rfl, o162, v166, rfl, s163, hB164, hB165, hO167, hM168⟩
   replace hB164 := Bk.unO (J := []) 2 hB164 s163 rfl rfl rfl
   replace hB165 := Bk.unO (J := []) 4 hB165 s163 rfl rfl rfl
   replace hO167 := Own.unO (J := []) 5 hO167 s163 rfl rfl rfl
   replace hM168 := Mp.unO (J := []) 6 hM168 s163 rfl rfl rfl
   replace s163 := un_stepL (J := []) (L' := [41, 3, 4, 8]) s163 rfl rfl
   refine Lv.doneR ?_
   obtain rfl := Option.some.inj H
   replace hB140 := hB140.step s163 rfl
   replace hB141 := hB141.step s163 rfl
   replace hr145 := hr145.step s163 rfl
   replace HF := HF.step s163 rfl
   exact ⟨_, (.cell _ rfl (run_loadN (cs := [ii z160.1.f_Code, ii z160.1.f_At.f_Line, ii z160.1.f_At.f_Col, ii z160.1.f_At.f_Off]) U36 rfl sz36 (hB164.cells rfl)) .nil), _, A142, c143, v166, rfl, HF.out, hB141, hl144, hr145, hB165, hO167, hB140, hM168⟩
  ·
   refine WC.cond_f (vb c159 rfl) <|
    WC.skip <|
    WC.seq <|
    WC.region <|
    E rfl (ex_build (cs := [ii (0 : Int), ii (0 : Int), ii (0 : Int), ii (0 : Int)]) [(0, 1), (1, 3)] [] [ii 0, ii 0, ii 0, ii 0] U36 zr36 rfl (by kernel_rfl) rfl rfl) <|
    WL.op rfl ?_
   replace hB110 := hB110.step k114_129 rfl
   refine OW.storeW rfl rfl sz36 hB110 rfl (oa rfl) ?_
   intro w169 s170 hB171
   refine WL.nil <|
    WC.ret ?_
   obtain ⟨z172, hz172, H⟩ := bindE H
   replace hB105 := hB105.step s170 rfl
   replace hB141 := hB141.step s170 rfl
   replace hr145 := hr145.step s170 rfl
   replace hB146 := hB146.step s170 rfl
   replace hO148 := hO148.step s170 rfl rfl
   replace hM149 := hM149.step s170 rfl
   have k129_170 := s129.t s170
   replace hB122 := hB122.step k129_170 rfl
   replace HF := HF.step k129_170 rfl
   refine lv_one (xs := []) (cs := [pp b101 0, pp b115 0, pp b106 0]) (fun h_ => by cases h_) Tryz.func55 (by kernel_rfl) (by kernel_rfl) (DCalls.mono (syntax_reader_read_1_ret.dcalls _ _ b101 b115 b106 pb0 A142 c143 pb0_0 v147 pb0_0_1 (a2 := (⟨(0 : Int), (⟨(0 : Int), (0 : Int), (0 : Int)⟩ : T_api_Spot)⟩ : T_api_Fault)) (a0_0 := q127.2.1) (a0_0_0 := q127.2.2.1) hz172 (HF.ten (V := [0]) (L := [40, 42, 41, 2, 3, 4, 8]) rfl) (Bk.vw hB105 rfl) (Bk.vw hB122 rfl) (Bk.vw hB171 rfl) (Bk.vw hB141 rfl) (Row.vw hr145 rfl) hl144 (Bk.vw hB146 rfl) (Own.vw hO148 rfl rfl) (Mp.vw hM149 rfl)) ?_)
   obtain rfl := Option.some.inj (show some () = some z172 from hz172)
   rintro _ _ w173 ⟨rfl, o174, rfl, s175⟩
   replace s175 := un_stepL (J := []) (L' := []) s175 rfl rfl
   refine Lv.done ?_
   obtain rfl := Option.some.inj H
   replace hB141 := hB141.step s175 rfl
   replace hr145 := hr145.step s175 rfl
   replace hB146 := hB146.step s175 rfl
   replace hO148 := hO148.step s175 rfl rfl
   replace hM149 := hM149.step s175 rfl
   replace hB171 := hB171.step s175 rfl
   replace HF := HF.step s175 rfl
   have k170_175 := s170.t s175
   replace hB140 := hB140.step k170_175 rfl
   exact ⟨_, (.cell _ rfl (run_loadN (cs := [ii (0 : Int), ii (0 : Int), ii (0 : Int), ii (0 : Int)]) U36 rfl sz36 (hB171.cells rfl)) .nil), _, A142, c143, v147, rfl, HF.out, hB141, hl144, hr145, hB146, hO148, hB140, hM149⟩

/-! ### syntax_Parse -/
set_option maxRecDepth 100000 in
theorem syntax_Parse.calls (k : Nat) (o0 : Tags) (w0 : World) (pb0 : Nat) (pv0_0 : Value) (pb0_1 : Nat) {a0 : T_formula_Table} {a1 : List UInt8} {a0_1 : (List (T_api_Node × Int))} {r : Int × T_api_Fault × T_formula_Table × (List (T_api_Node × Int))} (H : syntax_Parse.f k a0 a1 a0_1 = some r) (hO : ∀ b, b < w0.heap.size → o0 b < 40) (hB0 : Bk o0 w0 2 pb0 [pv0_0, .map (some pb0_1)] 56) (hO0_0 : Own T_api_Node.rep 60 3 o0 w0 pv0_0 a0.f_rows) (hM0_1 : Mp (fun x_ : T_api_Node => Value.agg #[ii x_.f_Kind, encS x_.f_Name, ii x_.f_L, ii x_.f_R]) (fun v_ : Int => ii v_) 4 o0 w0 pb0_1 a0_1) (hG : Gl GG o0 w0) :
  Calls Tryz.prog 12 [pp pb0 0, encS a1].toArray w0 fun e_ w_ => ∃ (o_ : Tags) (u0_0 : Value), e_ = .returned (one [ii r.1, .agg #[ii r.2.1.f_Code, ii r.2.1.f_At.f_Line, ii r.2.1.f_At.f_Col, ii r.2.1.f_At.f_Off]]) ∧ Step o0 w0 o_ w_ [2, 3, 4] ∧ Bk o_ w_ 2 pb0 [u0_0, .map (some pb0_1)] 56 ∧ Own T_api_Node.rep 60 3 o_ w_ u0_0 r.2.2.1.f_rows ∧ Mp (fun x_ : T_api_Node => Value.agg #[ii x_.f_Kind, encS x_.f_Name, ii x_.f_L, ii x_.f_R]) (fun v_ : Int => ii v_) 4 o_ w_ pb0_1 r.2.2.2 := by
 have HF := Fm.refl hO [2, 3, 4]
 unfold syntax_Parse.f at H
 refine SX.calls [pp pb0 0, encS a1] Tryz.func12 rfl rfl ?_
 rw [Tryz.ntmps12]
 refine WC.seq <|
  WC.region <|
  E rfl (sg (ii 0) rfl) <|
  WL.op rfl <|
  OW.alloc' [ii (0 : Int), ii (0 : Int), ii (0 : Int), ii (0 : Int)] 40 HF rfl zr36 rfl ?_
 intro o102 w103 b101 s104 hB105
 refine WL.nil <|
  WC.seq <|
  WC.seq <|
  WC.region <|
  E rfl (mv (pp pb0 0) rfl) ?_
 obtain ⟨z106, hz106, H⟩ := bindE H
 refine WL.op rfl ?_
 replace hO0_0 := hO0_0.step s104 rfl rfl
 replace hB0 := hB0.step s104 rfl
 replace hM0_1 := hM0_1.step s104 rfl
 replace HF := HF.step s104 rfl
 refine OW.call [pp pb0 0] rfl Tryz.func23 (by kernel_rfl) (by kernel_rfl) (map_cons' rfl rfl) (syntax_known.calls k _ _ pb0 pv0_0 pb0_1 (a0 := a0) hz106 (HF.ten (V := [0]) (L := [2, 3, 4]) rfl) (Bk.vw hB0 rfl) (Own.vw hO0_0 rfl rfl) (Mp.vw hM0_1 rfl)) ?_
 rintro _ w107 ⟨o108, rfl, s109⟩
 refine ⟨_, rfl, ?_⟩
 replace s109 := un_stepL (J := []) (L' := []) s109 rfl rfl
 refine E rfl (ex_not (b := z106) rfl) <|
  WL.nil ?_
 rcases condE H with ⟨c110, H⟩ | ⟨c110, H⟩
 ·
  refine WC.cond_t (vb c110 rfl) <|
   WC.seq <|
   WC.region <|
   E rfl (ex_build (cs := [ii 1, ii (0 : Int), ii (0 : Int), ii (0 : Int)]) [(0, 1), (1, 3)] [(0, ii 1)] [ii 0, ii 0, ii 0, ii 0] U36 zr36 rfl (by kernel_rfl) (evs_cons rfl rfl) rfl) <|
   E rfl (sg (ii 0) rfl) <|
   WL.op rfl ?_
  replace hB105 := hB105.step s109 rfl
  refine OW.storeW rfl rfl sz36 hB105 rfl (oa rfl) ?_
  intro w111 s112 hB113
  refine WL.nil <|
   WC.ret ?_
  obtain rfl := Option.some.inj H
  have k109_112 := s109.t s112
  replace hO0_0 := hO0_0.step k109_112 rfl rfl
  replace hB0 := hB0.step k109_112 rfl
  replace hM0_1 := hM0_1.step k109_112 rfl
  replace HF := HF.step k109_112 rfl
  exact ⟨_, (.tmp _ rfl (.cell _ rfl (run_loadN (cs := [ii 1, ii (0 : Int), ii (0 : Int), ii (0 : Int)]) U36 rfl sz36 (hB113.cells rfl)) .nil)), _, pv0_0, rfl, HF.out, hB0, hO0_0, hM0_1⟩
 ·
  refine WC.cond_f (vb c110 rfl) <|
   WC.skip <|
   WC.seq <|
   WC.region <|
   E rfl (mv (encS a1) rfl) ?_
  obtain ⟨z114, hz114, H⟩ := bindE H
  refine WL.op rfl ?_
  replace HF := HF.step s109 rfl
  have k104_109 := s104.t s109
  replace hG := hG.step k104_109 rfl
  refine OW.call [encS a1] rfl Tryz.func28 (by kernel_rfl) (by kernel_rfl) (map_cons' rfl rfl) (syntax_ahead.calls k _ _ hz114 (HF.ten (V := [0]) (L := []) rfl) (Gl.vw hG rfl)) ?_
  rintro _ w115 ⟨o116, v118, rfl, s117, hO119⟩
  refine ⟨_, rfl, ?_⟩
  replace hO119 := Own.un9 (J := [41]) 0 hO119 rfl s117 rfl rfl
  replace s117 := un_stepL (J := [41]) (L' := []) s117 rfl rfl
  refine E rfl (mv (.tuple #[v118, .agg #[ii z114.2.f_Code, ii z114.2.f_At.f_Line, ii z114.2.f_At.f_Col, ii z114.2.f_At.f_Off]]) rfl) <|
   E rfl (ex_extract rfl rfl) <|
   E rfl (ex_extract rfl rfl) <|
   WL.op rfl ?_
  replace HF := HF.step s117 rfl
  refine OW.alloc' [ii (0 : Int), ii (0 : Int), ii (0 : Int), ii (0 : Int)] 42 HF rfl zr36 rfl ?_
  intro o121 w122 b120 s123 hB124
  refine E rfl (sg v118 rfl) <|
   WL.op rfl <|
   OW.storeW rfl rfl sz36 hB124 rfl (oa rfl) ?_
  intro w125 s126 hB127
  refine WL.nil <|
   WC.seq <|
   WC.region <|
   E rfl (sg (ii 0) rfl) <|
   WL.nil <|
   WC.seq <|
   WC.seq <|
   WC.region <|
   E rfl (mv v118 rfl) ?_
  have k123_126 := s123.t s126
  replace hO119 := hO119.step k123_126 rfl rfl
  obtain ⟨A128, c129, q130⟩ := hO119.slice
  refine E rfl (ex_len_slice ((show _ = (v118 : Value) from rfl).trans q130) U71) <|
   E rfl (mv (ii 0) rfl) <|
   WL.nil ?_
  obtain ⟨z133, hz133, H⟩ := bindE H
  replace HF := HF.step k123_126 rfl
  have k117_126 := s117.t k123_126
  replace hG := hG.step k117_126 rfl
  have k109_126 := s109.t k117_126
  replace hO0_0 := hO0_0.step k109_126 rfl rfl
  replace hB0 := hB0.step k109_126 rfl
  replace hM0_1 := hM0_1.step k109_126 rfl
  replace hB105 := hB105.step k109_126 rfl
  refine WC.for (fun k_ ρ_ w_ => ∃ (o_ : Tags) (x131 : Int) (x132 : Int), Fm o0 w0 o_ w_ [2, 3, 4] ∧ Own T_api_Token.rep 76 41 o_ w_ v118 z114.1 ∧ Bk o_ w_ 2 pb0 [pv0_0, .map (some pb0_1)] 56 ∧ Own T_api_Node.rep 60 3 o_ w_ pv0_0 a0.f_rows ∧ Mp (fun x_ : T_api_Node => Value.agg #[ii x_.f_Kind, encS x_.f_Name, ii x_.f_L, ii x_.f_R]) (fun v_ : Int => ii v_) 4 o_ w_ pb0_1 a0_1 ∧ Bk o_ w_ 40 b101 [ii (0 : Int), ii (0 : Int), ii (0 : Int), ii (0 : Int)] 36 ∧ Bk o_ w_ 42 b120 [ii z114.2.f_Code, ii z114.2.f_At.f_Line, ii z114.2.f_At.f_Col, ii z114.2.f_At.f_Off] 36 ∧ Gl GG o_ w_ ∧ ρ_ 0 = pp pb0 0 ∧ ρ_ 4 = ii 0 ∧ ρ_ 5 = pp b101 0 ∧ ρ_ 6 = v118 ∧ ρ_ 7 = pp b120 0 ∧ ρ_ 8 = ii x131 ∧ ρ_ 23 = v118 ∧ ρ_ 24 = ii (z114.1.length : Int) ∧ ρ_ 25 = ii x132 ∧ syntax_Parse.l1 k a0 a0_1 z114 k_ x131 x132 = some z133) k (fun ρ_ w_ => ∃ (o_ : Tags), Fm o0 w0 o_ w_ [2, 3, 4] ∧ Own T_api_Token.rep 76 41 o_ w_ v118 z114.1 ∧ Bk o_ w_ 2 pb0 [pv0_0, .map (some pb0_1)] 56 ∧ Own T_api_Node.rep 60 3 o_ w_ pv0_0 a0.f_rows ∧ Mp (fun x_ : T_api_Node => Value.agg #[ii x_.f_Kind, encS x_.f_Name, ii x_.f_L, ii x_.f_R]) (fun v_ : Int => ii v_) 4 o_ w_ pb0_1 a0_1 ∧ Bk o_ w_ 40 b101 [ii (0 : Int), ii (0 : Int), ii (0 : Int), ii (0 : Int)] 36 ∧ Bk o_ w_ 42 b120 [ii z114.2.f_Code, ii z114.2.f_At.f_Line, ii z114.2.f_At.f_Col, ii z114.2.f_At.f_Off] 36 ∧ Gl GG o_ w_ ∧ ρ_ 0 = pp pb0 0 ∧ ρ_ 4 = ii 0 ∧ ρ_ 5 = pp b101 0 ∧ ρ_ 6 = v118 ∧ ρ_ 7 = pp b120 0 ∧ z133 = .inr ()) ⟨_, 0, 0, HF, hO119, hB0, hO0_0, hM0_1, hB105, hB127, hG, rfl, rfl, rfl, rfl, rfl, rfl, rfl, rfl, rfl, hz133⟩ ?case134 ?_
  case case134 =>
   rintro ρ180 w181 ⟨o182, HF, hO119, hB0, hO0_0, hM0_1, hB105, hB127, hG, s0_132, s4_132, s5_132, s6_132, s7_132, rfl⟩
   dsimp only at H
   refine WC.seq <|
    WC.region <|
    E rfl (mv (pp pb0 0) s0_132) <|
    E rfl (mv v118 s6_132) <|
    E rfl (ex_build (cs := [pp pb0 0, v118, ii (0 : Int), ii (0 : Int), ii (0 : Int), .bool false, .bool false]) [(0, 1), (1, 1), (2, 1), (3, 1), (4, 1), (5, 1), (6, 1)] [(0, pp pb0 0), (1, v118)] [.pointer none, .slice none 0 0, ii 0, ii 0, ii 0, .bool false, .bool false] U80 zr80 rfl (by kernel_rfl) (evs_cons rfl (evs_cons rfl rfl)) (by simp only [List.map_cons, List.map_nil, Own.cells1 hO119] <;> rfl)) <|
    WL.op rfl <|
    OW.box' [pp pb0 0, v118, ii (0 : Int), ii (0 : Int), ii (0 : Int), .bool false, .bool false] 44 HF rfl ((congrArg Value.cells (show ev _ _ = (.agg #[pp pb0 0, v118, ii (0 : Int), ii (0 : Int), ii (0 : Int), .bool false, .bool false] : Value) from rfl)).trans rfl) ?_
   intro o184 w185 b183 s186 hB187
   refine WL.op rfl ?_
   replace HF := HF.step s186 rfl
   refine OW.alloc' [.pointer none] 45 HF rfl zr78 rfl ?_
   intro o189 w190 b188 s191 hB192
   refine WL.op rfl <|
    OW.storeW rfl rfl sz78 hB192 rfl (oa rfl) ?_
   intro w193 s194 hB195
   refine WL.nil <|
    WC.seq <|
    WC.region <|
    WL.op rfl ?_
   have k191_194 := s191.t s194
   replace HF := HF.step k191_194 rfl
   refine OW.alloc' [ii (0 : Int)] 46 HF rfl zr3 rfl ?_
   intro o197 w198 b196 s199 hB200
   refine WL.op rfl <|
    OW.storeW rfl rfl sz3 hB200 rfl (oa rfl) ?_
   intro w201 s202 hB203
   refine WL.nil <|
    WC.seq <|
    WC.region ?_
   have k199_202 := s199.t s202
   replace hB195 := hB195.step k199_202 rfl
   refine E rfl (ex_load1 rfl U78 rfl (hB195.cell rfl)) <|
    E rfl (ex_makeFuncC [pp b188 0, pp b196 0, pp b120 0] (map_cons' rfl (map_cons' rfl (map_cons' s7_132 rfl)))) ?_
   have k186_202 := ((s186.t s191).t s194).t k199_202
   replace hO119 := hO119.step k186_202 rfl rfl
   obtain ⟨A204, c205, rfl, hl206, hr207⟩ := hO119.pubRow
   replace hB0 := hB0.step k186_202 rfl
   replace hB0 := hB0.pub 41 rfl
   replace hO0_0 := hO0_0.step k186_202 rfl rfl
   replace hO0_0 := hO0_0.pub 41 rfl
   replace hM0_1 := hM0_1.step k186_202 rfl
   replace hM0_1 := hM0_1.pub 41 rfl
   replace hB105 := hB105.step k186_202 rfl
   replace hB105 := hB105.pub 41 rfl
   replace hB127 := hB127.step k186_202 rfl
   replace hB127 := hB127.pub 41 rfl
   replace hG := hG.step k186_202 rfl
   replace hG := hG.pub 41
   have k191_202 := k191_194.t k199_202
   replace hB187 := hB187.step k191_202 rfl
   replace hB187 := hB187.pub 41 rfl
   replace hB195 := hB195.pub 41 rfl
   replace hB203 := hB203.pub 41 rfl
   replace HF := HF.step k199_202 rfl
   replace HF := HF.pub 41 rfl
   obtain ⟨z208, hz208, H⟩ := bindE H
   refine WL.op rfl <|
    OW.call [pp b183 0, .func (.func 31) #[] #[pp b188 0, pp b196 0, pp b120 0]] rfl Tryz.func30 (by kernel_rfl) (by kernel_rfl) (map_cons' rfl (map_cons' rfl rfl)) (syntax_reader_read_syntax_Parse_1.calls k _ _ b183 A204 c205 pb0 pv0_0 b188 b196 b120 pb0_1 (a0 := (⟨z114.1, (0 : Int), (0 : Int), (0 : Int), false, false⟩ : T_syntax_reader)) (a0_0 := a0) (a1_2 := z114.2) hz208 (HF.ten (V := [0]) (L := [44, 2, 3, 45, 46, 42, 4]) rfl) (Bk.vw hB187 rfl) (Row.vw hr207 rfl) hl206 (Bk.vw hB0 rfl) (Own.vw hO0_0 rfl rfl) (Bk.vw hB195 rfl) (Bk.vw hB203 rfl) (Bk.vw hB127 rfl) (Mp.vw hM0_1 rfl)) ?_
   rintro _ w209 ⟨o210, A213, c214, v218, rfl, s211, hB212, hl215, hr216, hB217, hO219, hB220, hM221⟩
   refine ⟨_, rfl, ?_⟩
   replace hB212 := Bk.unO (J := []) 0 hB212 s211 rfl rfl rfl
   replace hr216 := hr216.un (J := []) s211
   replace hB217 := Bk.unO (J := []) 1 hB217 s211 rfl rfl rfl
   replace hO219 := Own.unO (J := []) 2 hO219 s211 rfl rfl rfl
   replace hB220 := Bk.unO (J := []) 4 hB220 s211 rfl rfl rfl
   replace hM221 := Mp.unO (J := []) 6 hM221 s211 rfl rfl rfl
   replace s211 := un_stepL (J := []) (L' := [44, 2, 3, 46, 4]) s211 rfl rfl
   refine WL.op rfl ?_
   replace HF := HF.step s211 rfl
   refine OW.alloc' [ii (0 : Int), ii (0 : Int), ii (0 : Int), ii (0 : Int)] 47 HF rfl zr36 rfl ?_
   intro o223 w224 b222 s225 hB226
   refine WL.op rfl <|
    OW.storeW rfl rfl sz36 hB226 rfl (oa rfl) ?_
   intro w227 s228 hB229
   refine WL.nil <|
    WC.seq <|
    WC.seq <|
    WC.region <|
    E rfl (ex_fieldAddr rfl U36 rfl sz28) <|
    E rfl (ex_load1 rfl U28 rfl (hB229.cell rfl)) <|
    E rfl (e2 bin_neq rfl rfl) <|
    WL.nil ?_
   rcases condE H with ⟨c230, H⟩ | ⟨c230, H⟩
   ·
    refine WC.cond_t (vb c230 rfl) <|
     WC.seq ?_
    have k225_228 := s225.t s228
    replace HF := HF.step k225_228 rfl
    refine WC.regionD' HF [] 2 3 (by kernel_rfl) rfl ?_
    intro w231 s232
    replace hB229 := hB229.step s232 rfl
    have hB229D := hB229
    replace HF := HF.step s232 rfl
    have sR := HF.here []
    refine WA.seq [0, 1] (lb 3 3) 1 (by kernel_rfl) rfl ⟨_, sR⟩ <|
     X1 rfl (fun w_ hS_ => ex_loadN (cs := [ii z208.1.f_Code, ii z208.1.f_At.f_Line, ii z208.1.f_At.f_Col, ii z208.1.f_At.f_Off]) rfl U36 rfl sz36 ((hB229D.step hS_.choose_spec rfl).cells rfl)) <|
     X1 rfl (fun w_ hS_ => ex_assign (v := ii 0) rfl) <|
     WA.last 2 (by kernel_rfl) (by kernel_rfl) rfl rfl rfl ?_
    have k211_232 := ((s211.t s225).t s228).t s232
    replace hB105 := hB105.step k211_232 rfl
    refine OW.storeW rfl s5_132 sz36 hB105 rfl (oa rfl) ?_
    intro w233 s234 hB235
    refine WC.ret ?_
    obtain rfl := Option.some.inj H
    replace HF := HF.step s234 rfl
    have k225_234 := (k225_228.t s232).t s234
    replace hB217 := hB217.step k225_234 rfl
    replace hO219 := hO219.step k225_234 rfl rfl
    replace hM221 := hM221.step k225_234 rfl
    exact ⟨_, (.tmp _ rfl (.cell _ s5_132 (run_loadN (cs := [ii z208.1.f_Code, ii z208.1.f_At.f_Line, ii z208.1.f_At.f_Col, ii z208.1.f_At.f_Off]) U36 rfl sz36 (hB235.cells rfl)) .nil)), _, v218, rfl, HF.out, hB217, hO219, hM221⟩
   ·
    refine WC.cond_f (vb c230 rfl) <|
     WC.skip <|
     WC.seq ?_
    have k225_228 := s225.t s228
    replace HF := HF.step k225_228 rfl
    refine WC.regionD' HF [] 3 4 (by kernel_rfl) rfl ?_
    intro w236 s237
    have k225_237 := k225_228.t s237
    replace hB220 := hB220.step k225_237 rfl
    have hB220D := hB220
    replace hB229 := hB229.step s237 rfl
    have hB229D := hB229
    replace HF := HF.step s237 rfl
    have sR := HF.here []
    refine WA.seq [0, 1, 2] (lb 4 7) 1 (by kernel_rfl) rfl ⟨_, sR⟩ <|
     X1 rfl (fun w_ hS_ => ex_load1 (v := ii z208.2.2.2.1) rfl U3 rfl ((hB220D.step hS_.choose_spec rfl).cell rfl)) <|
     X1 rfl (fun w_ hS_ => ex_loadN (cs := [ii z208.1.f_Code, ii z208.1.f_At.f_Line, ii z208.1.f_At.f_Col, ii z208.1.f_At.f_Off]) rfl U36 rfl sz36 ((hB229D.step hS_.choose_spec rfl).cells rfl)) <|
     X1 rfl (fun w_ hS_ => ex_assign (v := ii z208.2.2.2.1) rfl) <|
     WA.last 3 (by kernel_rfl) (by kernel_rfl) rfl rfl rfl ?_
    have k211_237 := s211.t k225_237
    replace hB105 := hB105.step k211_237 rfl
    refine OW.storeW rfl s5_132 sz36 hB105 rfl (oa rfl) ?_
    intro w238 s239 hB240
    refine WC.ret ?_
    obtain rfl := Option.some.inj H
    replace HF := HF.step s239 rfl
    have k225_239 := k225_237.t s239
    replace hB217 := hB217.step k225_239 rfl
    replace hO219 := hO219.step k225_239 rfl rfl
    replace hM221 := hM221.step k225_239 rfl
    exact ⟨_, (.tmp _ rfl (.cell _ s5_132 (run_loadN (cs := [ii z208.1.f_Code, ii z208.1.f_At.f_Line, ii z208.1.f_At.f_Col, ii z208.1.f_At.f_Off]) U36 rfl sz36 (hB240.cells rfl)) .nil)), _, v218, rfl, HF.out, hB217, hO219, hM221⟩
  have Ho135 := H
  rintro k136 ρ137 w138 ⟨o139, x131, x132, HF, hO119, hB0, hO0_0, hM0_1, hB105, hB127, hG, s0_130, s4_130, s5_130, s6_130, s7_130, s8_131, s23_131, s24_131, s25_132, H⟩
  cases k136 with
  | zero => cases H
  | succ k136 =>
  rw [syntax_Parse.l1.eq_2] at H
  refine WC.seq <|
   WC.region <|
   E rfl (e2 bin_lss s25_132 s24_131) <|
   WL.nil <|
   WC.seq ?_
  rcases condE H with ⟨c140, H⟩ | ⟨c140, H⟩
  ·
   refine WC.cond_t (vb c140 rfl) <|
    WC.skip ?_
   obtain ⟨z142, hz142, H⟩ := bindE H
   refine WC.cut (fun ρ_ w_ => ∃ (o_ : Tags) (x141 : Int), Fm o0 w0 o_ w_ [2, 3, 4] ∧ Own T_api_Token.rep 76 41 o_ w_ v118 z114.1 ∧ Bk o_ w_ 2 pb0 [pv0_0, .map (some pb0_1)] 56 ∧ Own T_api_Node.rep 60 3 o_ w_ pv0_0 a0.f_rows ∧ Mp (fun x_ : T_api_Node => Value.agg #[ii x_.f_Kind, encS x_.f_Name, ii x_.f_L, ii x_.f_R]) (fun v_ : Int => ii v_) 4 o_ w_ pb0_1 a0_1 ∧ Bk o_ w_ 40 b101 [ii (0 : Int), ii (0 : Int), ii (0 : Int), ii (0 : Int)] 36 ∧ Bk o_ w_ 42 b120 [ii z114.2.f_Code, ii z114.2.f_At.f_Line, ii z114.2.f_At.f_Col, ii z114.2.f_At.f_Off] 36 ∧ Gl GG o_ w_ ∧ ρ_ 0 = pp pb0 0 ∧ ρ_ 4 = ii 0 ∧ ρ_ 5 = pp b101 0 ∧ ρ_ 6 = v118 ∧ ρ_ 7 = pp b120 0 ∧ ρ_ 8 = ii x141 ∧ ρ_ 23 = v118 ∧ ρ_ 24 = ii (z114.1.length : Int) ∧ ρ_ 25 = ii x132 ∧ z142 = .inr x141) ?case143 ?_
   case case143 =>
    rintro ρ146 w144 ⟨o145, x141, HF, hO119, hB0, hO0_0, hM0_1, hB105, hB127, hG, s0_140, s4_140, s5_140, s6_140, s7_140, s8_141, s23_141, s24_141, s25_141, rfl⟩
    replace H : _ = some _ := H
    dsimp only at H
    refine WC.region <|
     E rfl (e2 bin_add64 s25_141 rfl) <|
     E rfl (mv (ii (wrap64 (x132 + 1))) rfl) <|
     WL.nil ?_
    exact ⟨k136, Nat.lt_succ_self _, ⟨_, x141, wrap64 (x132 + 1), HF, hO119, hB0, hO0_0, hM0_1, hB105, hB127, hG, s0_140, s4_140, s5_140, s6_140, s7_140, s8_141, s23_141, s24_141, rfl, H⟩⟩
   have Ho147 := H
   replace H := hz142
   refine WC.block <|
    WC.seq <|
    WC.region ?_
   obtain ⟨x148, hx148, H⟩ := bindE H
   obtain ⟨A153, c154, q155_⟩ := hO119.slice
   obtain ⟨ad149, cc156, e150, g151, g152, hl157, hR158, cell159⟩ := Row.ix (Own.rowOf hO119 q155_) hx148
   obtain rfl := T_api_Token.opn hR158
   refine E rfl (ex_indexAddr (i := x132) ((show _ = (v118 : Value) from s23_131).trans q155_) e150 s25_132 U71 sz76 g151 g152) <|
    E rfl (ex_loadN (cs := [ii x148.f_Kind, encS x148.f_Text, ii x148.f_Int, ii x148.f_At.f_Line, ii x148.f_At.f_Col, ii x148.f_At.f_Off]) rfl U76 rfl sz76 cell159) <|
    WL.op rfl <|
    OW.alloc' [ii (0 : Int), encS ([] : List UInt8), ii (0 : Int), ii (0 : Int), ii (0 : Int), ii (0 : Int)] 43 HF rfl zr76 rfl ?_
   intro o162 w163 b161 s164 hB165
   refine WL.op rfl <|
    OW.storeW rfl rfl sz76 hB165 rfl (oa rfl) ?_
   intro w166 s167 hB168
   refine WL.nil <|
    WC.seq <|
    WC.region <|
    E rfl (ex_loadN (cs := [ii x148.f_Kind, encS x148.f_Text, ii x148.f_Int, ii x148.f_At.f_Line, ii x148.f_At.f_Col, ii x148.f_At.f_Off]) rfl U76 rfl sz76 (hB168.cells rfl)) ?_
   obtain ⟨z169, hz169, H⟩ := bindE H
   refine WL.op rfl ?_
   have k164_167 := s164.t s167
   replace HF := HF.step k164_167 rfl
   refine OW.call [.agg #[ii x148.f_Kind, encS x148.f_Text, ii x148.f_Int, ii x148.f_At.f_Line, ii x148.f_At.f_Col, ii x148.f_At.f_Off]] rfl Tryz.func29 (by kernel_rfl) (by kernel_rfl) (map_cons' rfl rfl) (syntax_counted.calls _ _ (a0 := x148) hz169 (HF.ten (V := [0]) (L := []) rfl) ) ?_
   rintro _ w170 ⟨o171, rfl, s172⟩
   refine ⟨_, rfl, ?_⟩
   replace s172 := un_stepL (J := []) (L' := []) s172 rfl rfl
   refine WL.nil ?_
   rcases condE H with ⟨c173, H⟩ | ⟨c173, H⟩
   ·
    refine WC.cond_t (vb c173 rfl) <|
     WC.seq <|
     WC.region <|
     E rfl (mv (ii x131) s8_131) <|
     E rfl (e2 bin_add64 rfl rfl) <|
     E rfl (sg (ii (wrap64 (x131 + 1))) rfl) <|
     WL.nil <|
     WC.seq <|
     WC.region <|
     E rfl (mv (ii (wrap64 (x131 + 1))) rfl) <|
     E rfl (e2 bin_gtr rfl rfl) <|
     WL.nil ?_
    rcases condE H with ⟨c174, H⟩ | ⟨c174, H⟩
    ·
     refine WC.cond_t (vb c174 rfl) <|
      WC.seq ?_
     replace HF := HF.step s172 rfl
     refine WC.regionD' HF [] 4 5 (by kernel_rfl) rfl ?_
     intro w175 s176
     have k172_176 := s172.t s176
     replace hB168 := hB168.step k172_176 rfl
     have hB168D := hB168
     replace HF := HF.step s176 rfl
     have sR := HF.here []
     refine WA.seq [0, 1, 2, 3] (lb 5 15) 1 (by kernel_rfl) rfl ⟨_, sR⟩ <|
      X1 rfl (fun w_ hS_ => ex_fieldAddr rfl U76 rfl sz34) <|
      X1 rfl (fun w_ hS_ => ex_loadN (cs := [ii x148.f_At.f_Line, ii x148.f_At.f_Col, ii x148.f_At.f_Off]) rfl U34 rfl sz34 ((hB168D.step hS_.choose_spec rfl).cells rfl)) <|
      X1 rfl (fun w_ hS_ => ex_build (cs := [ii 40, ii x148.f_At.f_Line, ii x148.f_At.f_Col, ii x148.f_At.f_Off]) [(0, 1), (1, 3)] [(0, ii 40), (1, .agg #[ii x148.f_At.f_Line, ii x148.f_At.f_Col, ii x148.f_At.f_Off])] [ii 0, ii 0, ii 0, ii 0] U36 zr36 rfl (by kernel_rfl) (evs_cons rfl (evs_cons rfl rfl)) rfl) <|
      X1 rfl (fun w_ hS_ => ex_assign (v := ii 0) rfl) <|
      WA.last 4 (by kernel_rfl) (by kernel_rfl) rfl rfl rfl ?_
     have k164_176 := k164_167.t k172_176
     replace hB105 := hB105.step k164_176 rfl
     refine OW.storeW rfl s5_130 sz36 hB105 rfl (oa rfl) ?_
     intro w177 s178 hB179
     refine WC.ret ?_
     obtain rfl := Option.some.inj H
     replace H := Ho147
     dsimp only at H
     obtain rfl := Option.some.inj H
     replace H := Ho135
     dsimp only at H
     obtain rfl := Option.some.inj H
     replace HF := HF.step s178 rfl
     have k164_178 := k164_176.t s178
     replace hB0 := hB0.step k164_178 rfl
     replace hO0_0 := hO0_0.step k164_178 rfl rfl
     replace hM0_1 := hM0_1.step k164_178 rfl
     exact ⟨_, (.tmp _ rfl (.cell _ s5_130 (run_loadN (cs := [ii 40, ii x148.f_At.f_Line, ii x148.f_At.f_Col, ii x148.f_At.f_Off]) U36 rfl sz36 (hB179.cells rfl)) .nil)), _, pv0_0, rfl, HF.out, hB0, hO0_0, hM0_1⟩
    ·
     refine WC.cond_f (vb c174 rfl) <|
      WC.skip ?_
     obtain rfl := Option.some.inj H
     replace HF := HF.step s172 rfl
     have k164_172 := k164_167.t s172
     replace hO119 := hO119.step k164_172 rfl rfl
     replace hB0 := hB0.step k164_172 rfl
     replace hO0_0 := hO0_0.step k164_172 rfl rfl
     replace hM0_1 := hM0_1.step k164_172 rfl
     replace hB105 := hB105.step k164_172 rfl
     replace hB127 := hB127.step k164_172 rfl
     replace hG := hG.step k164_172 rfl
     exact ⟨_, wrap64 (x131 + 1), HF, hO119, hB0, hO0_0, hM0_1, hB105, hB127, hG, s0_130, s4_130, s5_130, s6_130, s7_130, rfl, s23_131, s24_131, s25_132, rfl⟩
   ·
    refine WC.cond_f (vb c173 rfl) <|
     WC.skip ?_
    obtain rfl := Option.some.inj H
    replace HF := HF.step s172 rfl
    have k164_172 := k164_167.t s172
    replace hO119 := hO119.step k164_172 rfl rfl
    replace hB0 := hB0.step k164_172 rfl
    replace hO0_0 := hO0_0.step k164_172 rfl rfl
    replace hM0_1 := hM0_1.step k164_172 rfl
    replace hB105 := hB105.step k164_172 rfl
    replace hB127 := hB127.step k164_172 rfl
    replace hG := hG.step k164_172 rfl
    exact ⟨_, x131, HF, hO119, hB0, hO0_0, hM0_1, hB105, hB127, hG, s0_130, s4_130, s5_130, s6_130, s7_130, s8_131, s23_131, s24_131, s25_132, rfl⟩
  ·
   refine WC.cond_f (vb c140 rfl) <|
    WC.exit ?_
   obtain rfl := Option.some.inj H
   exact ⟨_, HF, hO119, hB0, hO0_0, hM0_1, hB105, hB127, hG, s0_130, s4_130, s5_130, s6_130, s7_130, rfl⟩

/-! ### syntax_Take_1 -/
set_option maxRecDepth 100000 in
theorem syntax_Take_1.calls (k : Nat) (o0 : Tags) (w0 : World) (pb0 : Nat) (pb1 : Nat) (pb0_0 : Nat) (pA0_0_1 : Option Addr) (pc0_0_1 : Nat) (pb0_0_0 : Nat) (pv0_0_0_0 : Value) (pb0_0_0_1 : Nat) {a1 : Int} {a0_0 : T_syntax_reader} {a0_0_0 : T_formula_Table} {a0_0_0_1 : (List (T_api_Node × Int))} {r : Exn (T_syntax_broken × Int × T_syntax_reader × T_formula_Table × (List (T_api_Node × Int))) (Int × T_syntax_reader × T_formula_Table × (List (T_api_Node × Int)))} (H : syntax_Take_1.f k a1 a0_0 a0_0_0 a0_0_0_1 = some r) (hO : ∀ b, b < w0.heap.size → o0 b < 40) (hB0 : Bk o0 w0 2 pb0 [pp pb0_0 0] 78) (hB1 : Bk o0 w0 3 pb1 [ii a1] 3) (hB0_0 : Bk o0 w0 4 pb0_0 [pp pb0_0_0 0, .slice pA0_0_1 a0_0.f_l.length pc0_0_1, ii a0_0.f_i, ii a0_0.f_names, ii a0_0.f_nest, .bool a0_0.f_counts, .bool a0_0.f_full] 80) (hra0_0_1 : Row T_api_Token.rep (fun b_ => o0 b_ = 0) (fun b_ => o0 b_ = 0) w0 pA0_0_1 a0_0.f_l) (hla0_0_1 : a0_0.f_l.length ≤ pc0_0_1) (hB0_0_0 : Bk o0 w0 5 pb0_0_0 [pv0_0_0_0, .map (some pb0_0_0_1)] 56) (hO0_0_0_0 : Own T_api_Node.rep 60 6 o0 w0 pv0_0_0_0 a0_0_0.f_rows) (hM0_0_0_1 : Mp (fun x_ : T_api_Node => Value.agg #[ii x_.f_Kind, encS x_.f_Name, ii x_.f_L, ii x_.f_R]) (fun v_ : Int => ii v_) 7 o0 w0 pb0_0_0_1 a0_0_0_1) :
  Calls Tryz.prog 60 [pp pb0 0, pp pb1 0].toArray w0 fun e_ w_ => ∃ (o_ : Tags), ((∃ p_, r = .ex p_ ∧ ∃ (B_2_1 : Option Addr) (d_2_1 : Nat) (u3_0 : Value), e_ = .panicked (pc (.iface 111 (.agg #[ii p_.1.f_f.f_Code, ii p_.1.f_f.f_At.f_Line, ii p_.1.f_f.f_At.f_Col, ii p_.1.f_f.f_At.f_Off]))) ∧ Step o0 w0 o_ w_ [3, 4, 5, 6, 7] ∧ Bk o_ w_ 3 pb1 [ii p_.2.1] 3 ∧ Bk o_ w_ 4 pb0_0 [pp pb0_0_0 0, .slice B_2_1 p_.2.2.1.f_l.length d_2_1, ii p_.2.2.1.f_i, ii p_.2.2.1.f_names, ii p_.2.2.1.f_nest, .bool p_.2.2.1.f_counts, .bool p_.2.2.1.f_full] 80 ∧ p_.2.2.1.f_l.length ≤ d_2_1 ∧ Row T_api_Token.rep (fun b_ => o_ b_ = 0) (fun b_ => o_ b_ = 0) w_ B_2_1 p_.2.2.1.f_l ∧ Bk o_ w_ 5 pb0_0_0 [u3_0, .map (some pb0_0_0_1)] 56 ∧ Own T_api_Node.rep 60 6 o_ w_ u3_0 p_.2.2.2.1.f_rows ∧ Mp (fun x_ : T_api_Node => Value.agg #[ii x_.f_Kind, encS x_.f_Name, ii x_.f_L, ii x_.f_R]) (fun v_ : Int => ii v_) 7 o_ w_ pb0_0_0_1 p_.2.2.2.2) ∨ ∃ q_, r = .ok q_ ∧ ∃ (B_2_1 : Option Addr) (d_2_1 : Nat) (u3_0 : Value), e_ = .returned (one []) ∧ Step o0 w0 o_ w_ [3, 4, 5, 6, 7] ∧ Bk o_ w_ 3 pb1 [ii q_.1] 3 ∧ Bk o_ w_ 4 pb0_0 [pp pb0_0_0 0, .slice B_2_1 q_.2.1.f_l.length d_2_1, ii q_.2.1.f_i, ii q_.2.1.f_names, ii q_.2.1.f_nest, .bool q_.2.1.f_counts, .bool q_.2.1.f_full] 80 ∧ q_.2.1.f_l.length ≤ d_2_1 ∧ Row T_api_Token.rep (fun b_ => o_ b_ = 0) (fun b_ => o_ b_ = 0) w_ B_2_1 q_.2.1.f_l ∧ Bk o_ w_ 5 pb0_0_0 [u3_0, .map (some pb0_0_0_1)] 56 ∧ Own T_api_Node.rep 60 6 o_ w_ u3_0 q_.2.2.1.f_rows ∧ Mp (fun x_ : T_api_Node => Value.agg #[ii x_.f_Kind, encS x_.f_Name, ii x_.f_L, ii x_.f_R]) (fun v_ : Int => ii v_) 7 o_ w_ pb0_0_0_1 q_.2.2.2) := by
 have HF := Fm.refl hO [3, 4, 5, 6, 7]
 unfold syntax_Take_1.f at H
 refine SX.calls [pp pb0 0, pp pb1 0] Tryz.func60 rfl rfl ?_
 rw [Tryz.ntmps60]
 refine WC.region <|
  E rfl (ex_load1 rfl U78 rfl (hB0.cell rfl)) ?_
 obtain ⟨z101, hz101, H⟩ := bindE H
 refine WL.op rfl <|
  OW.callP [pp pb0_0 0] rfl Tryz.func32 (by kernel_rfl) (by kernel_rfl) (map_cons' rfl rfl) (syntax_reader_formula.calls k _ _ pb0_0 pA0_0_1 pc0_0_1 pb0_0_0 pv0_0_0_0 pb0_0_0_1 (a0 := a0_0) (a0_0 := a0_0_0) hz101 (HF.ten (V := [0]) (L := [4, 5, 6, 7]) rfl) (Bk.vw hB0_0 rfl) (Row.vw hra0_0_1 rfl) hla0_0_1 (Bk.vw hB0_0_0 rfl) (Own.vw hO0_0_0_0 rfl rfl) (Mp.vw hM0_0_0_1 rfl)) ?_
 rintro _ w102 ⟨o103, (⟨p104, rfl, A109, c110, v114, rfl, s106, hB108, hl111, hr112, hB113, hO115, hM116⟩ | ⟨q105, rfl, A118, c119, v123, rfl, s107, hB117, hl120, hr121, hB122, hO124, hM125⟩)⟩
 ·
  refine Or.inr ⟨_, rfl, ?_⟩
  dsimp only at H
  replace hB108 := Bk.unO (J := []) 0 hB108 s106 rfl rfl rfl
  replace hr112 := hr112.un (J := []) s106
  replace hB113 := Bk.unO (J := []) 1 hB113 s106 rfl rfl rfl
  replace hO115 := Own.unO (J := []) 2 hO115 s106 rfl rfl rfl
  replace hM116 := Mp.unO (J := []) 3 hM116 s106 rfl rfl rfl
  replace s106 := un_stepL (J := []) (L' := [4, 5, 6, 7]) s106 rfl rfl
  obtain rfl := Option.some.inj H
  replace hB1 := hB1.step s106 rfl
  replace HF := HF.step s106 rfl
  exact ⟨_, Or.inl ⟨_, rfl, A109, c110, v114, rfl, HF.out, hB1, hB108, hl111, hr112, hB113, hO115, hM116⟩⟩
 ·
  refine Or.inl ⟨_, rfl, ?_⟩
  dsimp only at H
  replace hB117 := Bk.unO (J := []) 0 hB117 s107 rfl rfl rfl
  replace hr121 := hr121.un (J := []) s107
  replace hB122 := Bk.unO (J := []) 1 hB122 s107 rfl rfl rfl
  replace hO124 := Own.unO (J := []) 2 hO124 s107 rfl rfl rfl
  replace hM125 := Mp.unO (J := []) 3 hM125 s107 rfl rfl rfl
  replace s107 := un_stepL (J := []) (L' := [4, 5, 6, 7]) s107 rfl rfl
  refine WL.op rfl ?_
  replace hB1 := hB1.step s107 rfl
  refine OW.storeW rfl rfl sz3 hB1 rfl (oa rfl) ?_
  intro w126 s127 hB128
  refine WL.nil ?_
  obtain rfl := Option.some.inj H
  replace hB117 := hB117.step s127 rfl
  replace hr121 := hr121.step s127 rfl
  replace hB122 := hB122.step s127 rfl
  replace hO124 := hO124.step s127 rfl rfl
  replace hM125 := hM125.step s127 rfl
  have k107_127 := s107.t s127
  replace HF := HF.step k107_127 rfl
  exact ⟨_, .nil, _, Or.inr ⟨_, rfl, A118, c119, v123, rfl, HF.out, hB128, hB117, hl120, hr121, hB122, hO124, hM125⟩⟩

/-! ### syntax_reader_read_syntax_Take_1 -/
set_option maxRecDepth 100000 in
theorem syntax_reader_read_syntax_Take_1.calls (k : Nat) (o0 : Tags) (w0 : World) (pb0 : Nat) (pA0_1 : Option Addr) (pc0_1 : Nat) (pb0_0 : Nat) (pv0_0_0 : Value) (pb1_0 : Nat) (pb1_1 : Nat) (pb0_0_1 : Nat) {a0 : T_syntax_reader} {a0_0 : T_formula_Table} {a1_1 : Int} {a0_0_1 : (List (T_api_Node × Int))} {r : T_api_Fault × T_syntax_reader × T_formula_Table × Int × (List (T_api_Node × Int))} (H : syntax_reader_read_syntax_Take_1.f k a0 a0_0 a1_1 a0_0_1 = some r) (hO : ∀ b, b < w0.heap.size → o0 b < 40) (hB0 : Bk o0 w0 2 pb0 [pp pb0_0 0, .slice pA0_1 a0.f_l.length pc0_1, ii a0.f_i, ii a0.f_names, ii a0.f_nest, .bool a0.f_counts, .bool a0.f_full] 80) (hra0_1 : Row T_api_Token.rep (fun b_ => o0 b_ = 0) (fun b_ => o0 b_ = 0) w0 pA0_1 a0.f_l) (hla0_1 : a0.f_l.length ≤ pc0_1) (hB0_0 : Bk o0 w0 3 pb0_0 [pv0_0_0, .map (some pb0_0_1)] 56) (hO0_0_0 : Own T_api_Node.rep 60 4 o0 w0 pv0_0_0 a0_0.f_rows) (hB1_0 : Bk o0 w0 5 pb1_0 [pp pb0 0] 78) (hB1_1 : Bk o0 w0 6 pb1_1 [ii a1_1] 3) (hM0_0_1 : Mp (fun x_ : T_api_Node => Value.agg #[ii x_.f_Kind, encS x_.f_Name, ii x_.f_L, ii x_.f_R]) (fun v_ : Int => ii v_) 7 o0 w0 pb0_0_1 a0_0_1) :
  Calls Tryz.prog 30 [pp pb0 0, .func (.func 60) #[] #[pp pb1_0 0, pp pb1_1 0]].toArray w0 fun e_ w_ => ∃ (o_ : Tags) (B_0_1 : Option Addr) (d_0_1 : Nat) (u2_0 : Value), e_ = .returned (one [.agg #[ii r.1.f_Code, ii r.1.f_At.f_Line, ii r.1.f_At.f_Col, ii r.1.f_At.f_Off]]) ∧ Step o0 w0 o_ w_ [2, 3, 4, 6, 7] ∧ Bk o_ w_ 2 pb0 [pp pb0_0 0, .slice B_0_1 r.2.1.f_l.length d_0_1, ii r.2.1.f_i, ii r.2.1.f_names, ii r.2.1.f_nest, .bool r.2.1.f_counts, .bool r.2.1.f_full] 80 ∧ r.2.1.f_l.length ≤ d_0_1 ∧ Row T_api_Token.rep (fun b_ => o_ b_ = 0) (fun b_ => o_ b_ = 0) w_ B_0_1 r.2.1.f_l ∧ Bk o_ w_ 3 pb0_0 [u2_0, .map (some pb0_0_1)] 56 ∧ Own T_api_Node.rep 60 4 o_ w_ u2_0 r.2.2.1.f_rows ∧ Bk o_ w_ 6 pb1_1 [ii r.2.2.2.1] 3 ∧ Mp (fun x_ : T_api_Node => Value.agg #[ii x_.f_Kind, encS x_.f_Name, ii x_.f_L, ii x_.f_R]) (fun v_ : Int => ii v_) 7 o_ w_ pb0_0_1 r.2.2.2.2 := by
 have HF := Fm.refl hO [2, 3, 4, 6, 7]
 unfold syntax_reader_read_syntax_Take_1.f at H
 refine SX.callsD [pp pb0 0, .func (.func 60) #[] #[pp pb1_0 0, pp pb1_1 0]] Tryz.func30 rfl rfl ?_
 rw [Tryz.ntmps30]
 refine WC.seq <|
  WC.region <|
  WL.op rfl <|
  OW.box' [pp pb0 0] 40 HF rfl ((congrArg Value.cells (show ev _ _ = (pp pb0 0 : Value) from rfl)).trans rfl) ?_
 intro o102 w103 b101 s104 hB105
 refine WL.op rfl ?_
 replace HF := HF.step s104 rfl
 refine OW.alloc' [ii (0 : Int), ii (0 : Int), ii (0 : Int), ii (0 : Int)] 41 HF rfl zr36 rfl ?_
 intro o107 w108 b106 s109 hB110
 refine WL.nil <|
  WC.seq <|
  WC.region ?_
 replace hB105 := hB105.step s109 rfl
 refine E rfl (ex_load1 rfl U78 rfl (hB105.cell rfl)) <|
  E rfl (ex_nilCheck rfl) <|
  E rfl (ex_fieldAddr rfl U80 rfl sz23) ?_
 have k104_109 := s104.t s109
 replace hB0 := hB0.step k104_109 rfl
 refine E rfl (ex_load1 rfl U23 rfl (hB0.cell rfl)) ?_
 obtain ⟨z111, hz111, H⟩ := bindE H
 refine WL.op rfl ?_
 replace HF := HF.step s109 rfl
 replace hO0_0_0 := hO0_0_0.step k104_109 rfl rfl
 replace hB0_0 := hB0_0.step k104_109 rfl
 replace hM0_0_1 := hM0_0_1.step k104_109 rfl
 refine OW.call [pp pb0_0 0] rfl Tryz.func8 (by kernel_rfl) (by kernel_rfl) (map_cons' rfl rfl) (formula_Table_Len.calls _ _ pb0_0 pv0_0_0 pb0_0_1 (a0 := a0_0) hz111 (HF.ten (V := [0]) (L := [3, 4, 7]) rfl) (Bk.vw hB0_0 rfl) (Own.vw hO0_0_0 rfl rfl) (Mp.vw hM0_0_1 rfl)) ?_
 rintro _ w112 ⟨o113, rfl, s114⟩
 refine ⟨_, rfl, ?_⟩
 replace s114 := un_stepL (J := []) (L' := []) s114 rfl rfl
 refine WL.op rfl ?_
 replace HF := HF.step s114 rfl
 refine OW.alloc' [ii (0 : Int)] 42 HF rfl zr3 rfl ?_
 intro o116 w117 b115 s118 hB119
 refine WL.op rfl <|
  OW.storeW rfl rfl sz3 hB119 rfl (oa rfl) ?_
 intro w120 s121 hB122
 refine WL.nil <|
  WC.seq <|
  WC.region <|
  E rfl (ex_makeFuncC [pp b101 0, pp b115 0, pp b106 0] (map_cons' rfl (map_cons' rfl (map_cons' rfl rfl)))) <|
  WL.op rfl <|
  OW.defer [] [pp b101 0, pp b115 0, pp b106 0] rfl [] rfl <|
  WL.nil <|
  WC.seq <|
  WC.region <|
  E rfl (mv (.func (.func 60) #[] #[pp pb1_0 0, pp pb1_1 0]) rfl) ?_
 obtain ⟨z123, hz123, H⟩ := bindE H
 refine WL.op rfl ?_
 have k118_121 := s118.t s121
 replace HF := HF.step k118_121 rfl
 have k114_121 := s114.t k118_121
 replace hB0 := hB0.step k114_121 rfl
 replace hO0_0_0 := hO0_0_0.step k114_121 rfl rfl
 replace hB0_0 := hB0_0.step k114_121 rfl
 replace hM0_0_1 := hM0_0_1.step k114_121 rfl
 have k104_121 := k104_109.t k114_121
 replace hra0_1 := hra0_1.step k104_121 rfl
 replace hB1_0 := hB1_0.step k104_121 rfl
 replace hB1_1 := hB1_1.step k104_121 rfl
 refine OW.callFP [] [pp pb1_0 0, pp pb1_1 0] (show ev _ _ = .func (.func 60) #[] #[pp pb1_0 0, pp pb1_1 0] from rfl) [] rfl Tryz.func60 (by kernel_rfl) (by kernel_rfl) rfl (syntax_Take_1.calls k _ _ pb1_0 pb1_1 pb0 pA0_1 pc0_1 pb0_0 pv0_0_0 pb0_0_1 (a0_0 := a0) (a0_0_0 := a0_0) hz123 (HF.ten (V := [0]) (L := [5, 6, 2, 3, 4, 7]) rfl) (Bk.vw hB1_0 rfl) (Bk.vw hB1_1 rfl) (Bk.vw hB0 rfl) (Row.vw hra0_1 rfl) hla0_1 (Bk.vw hB0_0 rfl) (Own.vw hO0_0_0 rfl rfl) (Mp.vw hM0_0_1 rfl)) ?_
 rintro _ w124 ⟨o125, (⟨p126, rfl, A132, c133, v137, rfl, s128, hB130, hB131, hl134, hr135, hB136, hO138, hM139⟩ | ⟨q127, rfl, A142, c143, v147, rfl, s129, hB140, hB141, hl144, hr145, hB146, hO148, hM149⟩)⟩
 ·
  refine Or.inr ⟨_, rfl, ?_⟩
  dsimp only at H
  replace hB130 := Bk.unO (J := []) 1 hB130 s128 rfl rfl rfl
  replace hB131 := Bk.unO (J := []) 2 hB131 s128 rfl rfl rfl
  replace hr135 := hr135.un (J := []) s128
  replace hB136 := Bk.unO (J := []) 3 hB136 s128 rfl rfl rfl
  replace hO138 := Own.unO (J := []) 4 hO138 s128 rfl rfl rfl
  replace hM139 := Mp.unO (J := []) 5 hM139 s128 rfl rfl rfl
  replace s128 := un_stepL (J := []) (L' := [6, 2, 3, 4, 7]) s128 rfl rfl
  obtain ⟨z150, hz150, H⟩ := bindE H
  replace hB122 := hB122.step s128 rfl
  replace HF := HF.step s128 rfl
  have k114_128 := k114_121.t s128
  replace hB105 := hB105.step k114_128 rfl
  replace hB110 := hB110.step k114_128 rfl
  refine lv_one (xs := []) (cs := [pp b101 0, pp b115 0, pp b106 0]) (fun h_ => by cases h_) Tryz.func55 (by kernel_rfl) (by kernel_rfl) (DCalls.mono (syntax_reader_read_1_rec.dcalls k _ _ b101 b115 b106 pb0 A132 c133 pb0_0 v137 pb0_0_1 (a2 := (⟨(0 : Int), (⟨(0 : Int), (0 : Int), (0 : Int)⟩ : T_api_Spot)⟩ : T_api_Fault)) (a0_0 := p126.2.2.1) (a0_0_0 := p126.2.2.2.1) (p0 := p126.1) hz150 (HF.ten (V := [0]) (L := [40, 42, 41, 2, 3, 4, 7]) rfl) (Bk.vw hB105 rfl) (Bk.vw hB122 rfl) (Bk.vw hB110 rfl) (Bk.vw hB131 rfl) (Row.vw hr135 rfl) hl134 (Bk.vw hB136 rfl) (Own.vw hO138 rfl rfl) (Mp.vw hM139 rfl)) ?_)
  rintro _ _ w151 ⟨rfl, o152, v156, rfl, s153, hB154, hB155, hO157, hM158⟩
  replace hB154 := Bk.unO (J := []) 2 hB154 s153 rfl rfl rfl
  replace hB155 := Bk.unO (J := []) 4 hB155 s153 rfl rfl rfl
  replace hO157 := Own.unO (J := []) 5 hO157 s153 rfl rfl rfl
  replace hM158 := Mp.unO (J := []) 6 hM158 s153 rfl rfl rfl
  replace s153 := un_stepL (J := []) (L' := [41, 3, 4, 7]) s153 rfl rfl
  refine Lv.doneR ?_
  obtain rfl := Option.some.inj H
  replace hB130 := hB130.step s153 rfl
  replace hB131 := hB131.step s153 rfl
  replace hr135 := hr135.step s153 rfl
  replace HF := HF.step s153 rfl
  exact ⟨_, (.cell _ rfl (run_loadN (cs := [ii z150.1.f_Code, ii z150.1.f_At.f_Line, ii z150.1.f_At.f_Col, ii z150.1.f_At.f_Off]) U36 rfl sz36 (hB154.cells rfl)) .nil), _, A132, c133, v156, rfl, HF.out, hB131, hl134, hr135, hB155, hO157, hB130, hM158⟩
 ·
  refine Or.inl ⟨_, rfl, ?_⟩
  dsimp only at H
  replace hB140 := Bk.unO (J := []) 1 hB140 s129 rfl rfl rfl
  replace hB141 := Bk.unO (J := []) 2 hB141 s129 rfl rfl rfl
  replace hr145 := hr145.un (J := []) s129
  replace hB146 := Bk.unO (J := []) 3 hB146 s129 rfl rfl rfl
  replace hO148 := Own.unO (J := []) 4 hO148 s129 rfl rfl rfl
  replace hM149 := Mp.unO (J := []) 5 hM149 s129 rfl rfl rfl
  replace s129 := un_stepL (J := []) (L' := [6, 2, 3, 4, 7]) s129 rfl rfl
  refine WL.nil <|
   WC.seq <|
   WC.seq <|
   WC.region ?_
  have k114_129 := k114_121.t s129
  replace hB105 := hB105.step k114_129 rfl
  refine E rfl (ex_load1 rfl U78 rfl (hB105.cell rfl)) <|
   E rfl (ex_nilCheck rfl) <|
   E rfl (ex_fieldAddr rfl U80 rfl sz4) <|
   E rfl (ex_load1 rfl U4 rfl (hB141.cell rfl)) <|
   WL.nil ?_
  rcases condE H with ⟨c159, H⟩ | ⟨c159, H⟩
  ·
   refine WC.cond_t (vb c159 rfl) <|
    WC.region <|
    E rfl (ex_build (cs := [ii 30, ii (0 : Int), ii (0 : Int), ii (0 : Int)]) [(0, 1), (1, 3)] [(0, ii 30)] [ii 0, ii 0, ii 0, ii 0] U36 zr36 rfl (by kernel_rfl) (evs_cons rfl rfl) rfl) <|
    E rfl (ex_build (cs := [ii 30, ii (0 : Int), ii (0 : Int), ii (0 : Int)]) [(0, 4)] [(0, .agg #[ii 30, ii (0 : Int), ii (0 : Int), ii (0 : Int)])] [ii 0, ii 0, ii 0, ii 0] U111 zr111 rfl (by kernel_rfl) (evs_cons rfl rfl) rfl) <|
    E rfl (ex_makeInterface (v := .agg #[ii 30, ii (0 : Int), ii (0 : Int), ii (0 : Int)]) rfl U111 rfl) <|
    WL.op rfl <|
    OW.panic (T := 111) (v := .agg #[ii 30, ii (0 : Int), ii (0 : Int), ii (0 : Int)]) rfl ?_
   obtain ⟨z160, hz160, H⟩ := bindE H
   replace hB122 := hB122.step s129 rfl
   replace HF := HF.step s129 rfl
   replace hB110 := hB110.step k114_129 rfl
   refine lv_one (xs := []) (cs := [pp b101 0, pp b115 0, pp b106 0]) (fun h_ => by cases h_) Tryz.func55 (by kernel_rfl) (by kernel_rfl) (DCalls.mono (syntax_reader_read_1_rec.dcalls k _ _ b101 b115 b106 pb0 A142 c143 pb0_0 v147 pb0_0_1 (a2 := (⟨(0 : Int), (⟨(0 : Int), (0 : Int), (0 : Int)⟩ : T_api_Spot)⟩ : T_api_Fault)) (a0_0 := q127.2.1) (a0_0_0 := q127.2.2.1) (p0 := (⟨(⟨30, (⟨(0 : Int), (0 : Int), (0 : Int)⟩ : T_api_Spot)⟩ : T_api_Fault)⟩ : T_syntax_broken)) hz160 (HF.ten (V := [0]) (L := [40, 42, 41, 2, 3, 4, 7]) rfl) (Bk.vw hB105 rfl) (Bk.vw hB122 rfl) (Bk.vw hB110 rfl) (Bk.vw hB141 rfl) (Row.vw hr145 rfl) hl144 (Bk.vw hB146 rfl) (Own.vw hO148 rfl rfl) (Mp.vw hM149 rfl)) ?_)
   rintro _ _ w161 ⟨rfl, o162, v166, rfl, s163, hB164, hB165, hO167, hM168⟩
   replace hB164 := Bk.unO (J := []) 2 hB164 s163 rfl rfl rfl
   replace hB165 := Bk.unO (J := []) 4 hB165 s163 rfl rfl rfl
   replace hO167 := Own.unO (J := []) 5 hO167 s163 rfl rfl rfl
   replace hM168 := Mp.unO (J := []) 6 hM168 s163 rfl rfl rfl
   replace s163 := un_stepL (J := []) (L' := [41, 3, 4, 7]) s163 rfl rfl
   refine Lv.doneR ?_
   obtain rfl := Option.some.inj H
   replace hB140 := hB140.step s163 rfl
   replace hB141 := hB141.step s163 rfl
   replace hr145 := hr145.step s163 rfl
   replace HF := HF.step s163 rfl
   exact ⟨_, (.cell _ rfl (run_loadN (cs := [ii z160.1.f_Code, ii z160.1.f_At.f_Line, ii z160.1.f_At.f_Col, ii z160.1.f_At.f_Off]) U36 rfl sz36 (hB164.cells rfl)) .nil), _, A142, c143, v166, rfl, HF.out, hB141, hl144, hr145, hB165, hO167, hB140, hM168⟩
  ·
   refine WC.cond_f (vb c159 rfl) <|
    WC.skip <|
    WC.seq <|
    WC.region <|
    E rfl (ex_build (cs := [ii (0 : Int), ii (0 : Int), ii (0 : Int), ii (0 : Int)]) [(0, 1), (1, 3)] [] [ii 0, ii 0, ii 0, ii 0] U36 zr36 rfl (by kernel_rfl) rfl rfl) <|
    WL.op rfl ?_
   replace hB110 := hB110.step k114_129 rfl
   refine OW.storeW rfl rfl sz36 hB110 rfl (oa rfl) ?_
   intro w169 s170 hB171
   refine WL.nil <|
    WC.ret ?_
   obtain ⟨z172, hz172, H⟩ := bindE H
   replace hB105 := hB105.step s170 rfl
   replace hB141 := hB141.step s170 rfl
   replace hr145 := hr145.step s170 rfl
   replace hB146 := hB146.step s170 rfl
   replace hO148 := hO148.step s170 rfl rfl
   replace hM149 := hM149.step s170 rfl
   have k129_170 := s129.t s170
   replace hB122 := hB122.step k129_170 rfl
   replace HF := HF.step k129_170 rfl
   refine lv_one (xs := []) (cs := [pp b101 0, pp b115 0, pp b106 0]) (fun h_ => by cases h_) Tryz.func55 (by kernel_rfl) (by kernel_rfl) (DCalls.mono (syntax_reader_read_1_ret.dcalls _ _ b101 b115 b106 pb0 A142 c143 pb0_0 v147 pb0_0_1 (a2 := (⟨(0 : Int), (⟨(0 : Int), (0 : Int), (0 : Int)⟩ : T_api_Spot)⟩ : T_api_Fault)) (a0_0 := q127.2.1) (a0_0_0 := q127.2.2.1) hz172 (HF.ten (V := [0]) (L := [40, 42, 41, 2, 3, 4, 7]) rfl) (Bk.vw hB105 rfl) (Bk.vw hB122 rfl) (Bk.vw hB171 rfl) (Bk.vw hB141 rfl) (Row.vw hr145 rfl) hl144 (Bk.vw hB146 rfl) (Own.vw hO148 rfl rfl) (Mp.vw hM149 rfl)) ?_)
   obtain rfl := Option.some.inj (show some () = some z172 from hz172)
   rintro _ _ w173 ⟨rfl, o174, rfl, s175⟩
   replace s175 := un_stepL (J := []) (L' := []) s175 rfl rfl
   refine Lv.done ?_
   obtain rfl := Option.some.inj H
   replace hB141 := hB141.step s175 rfl
   replace hr145 := hr145.step s175 rfl
   replace hB146 := hB146.step s175 rfl
   replace hO148 := hO148.step s175 rfl rfl
   replace hM149 := hM149.step s175 rfl
   replace hB171 := hB171.step s175 rfl
   replace HF := HF.step s175 rfl
   have k170_175 := s170.t s175
   replace hB140 := hB140.step k170_175 rfl
   exact ⟨_, (.cell _ rfl (run_loadN (cs := [ii (0 : Int), ii (0 : Int), ii (0 : Int), ii (0 : Int)]) U36 rfl sz36 (hB171.cells rfl)) .nil), _, A142, c143, v147, rfl, HF.out, hB141, hl144, hr145, hB146, hO148, hB140, hM149⟩

/-! ### syntax_Take -/
set_option maxRecDepth 100000 in
theorem syntax_Take.calls (k : Nat) (o0 : Tags) (w0 : World) (pb0 : Nat) (pv0_0 : Value) (pA1 : Option Addr) (pc1 : Nat) (pb0_1 : Nat) {a0 : T_formula_Table} {a1 : (List T_api_Token)} {a0_1 : (List (T_api_Node × Int))} {r : Int × Int × T_api_Fault × T_formula_Table × (List (T_api_Node × Int))} (H : syntax_Take.f k a0 a1 a0_1 = some r) (hO : ∀ b, b < w0.heap.size → o0 b < 40) (hB0 : Bk o0 w0 2 pb0 [pv0_0, .map (some pb0_1)] 56) (hO0_0 : Own T_api_Node.rep 60 3 o0 w0 pv0_0 a0.f_rows) (hra1 : Row T_api_Token.rep (fun b_ => o0 b_ = 0) (fun b_ => o0 b_ = 0) w0 pA1 a1) (hla1 : a1.length ≤ pc1) (hM0_1 : Mp (fun x_ : T_api_Node => Value.agg #[ii x_.f_Kind, encS x_.f_Name, ii x_.f_L, ii x_.f_R]) (fun v_ : Int => ii v_) 4 o0 w0 pb0_1 a0_1) :
  Calls Tryz.prog 35 [pp pb0 0, .slice pA1 a1.length pc1].toArray w0 fun e_ w_ => ∃ (o_ : Tags) (u0_0 : Value), e_ = .returned (one [ii r.1, ii r.2.1, .agg #[ii r.2.2.1.f_Code, ii r.2.2.1.f_At.f_Line, ii r.2.2.1.f_At.f_Col, ii r.2.2.1.f_At.f_Off]]) ∧ Step o0 w0 o_ w_ [2, 3, 4] ∧ Bk o_ w_ 2 pb0 [u0_0, .map (some pb0_1)] 56 ∧ Own T_api_Node.rep 60 3 o_ w_ u0_0 r.2.2.2.1.f_rows ∧ Mp (fun x_ : T_api_Node => Value.agg #[ii x_.f_Kind, encS x_.f_Name, ii x_.f_L, ii x_.f_R]) (fun v_ : Int => ii v_) 4 o_ w_ pb0_1 r.2.2.2.2 := by
 have HF := Fm.refl hO [2, 3, 4]
 unfold syntax_Take.f at H
 refine SX.calls [pp pb0 0, .slice pA1 a1.length pc1] Tryz.func35 rfl rfl ?_
 rw [Tryz.ntmps35]
 refine WC.seq <|
  WC.region <|
  E rfl (sg (ii 0) rfl) <|
  E rfl (sg (ii 0) rfl) <|
  WL.op rfl <|
  OW.alloc' [ii (0 : Int), ii (0 : Int), ii (0 : Int), ii (0 : Int)] 40 HF rfl zr36 rfl ?_
 intro o102 w103 b101 s104 hB105
 refine WL.nil <|
  WC.seq <|
  WC.seq <|
  WC.region <|
  E rfl (mv (pp pb0 0) rfl) ?_
 obtain ⟨z106, hz106, H⟩ := bindE H
 refine WL.op rfl ?_
 replace hO0_0 := hO0_0.step s104 rfl rfl
 replace hB0 := hB0.step s104 rfl
 replace hM0_1 := hM0_1.step s104 rfl
 replace HF := HF.step s104 rfl
 refine OW.call [pp pb0 0] rfl Tryz.func23 (by kernel_rfl) (by kernel_rfl) (map_cons' rfl rfl) (syntax_known.calls k _ _ pb0 pv0_0 pb0_1 (a0 := a0) hz106 (HF.ten (V := [0]) (L := [2, 3, 4]) rfl) (Bk.vw hB0 rfl) (Own.vw hO0_0 rfl rfl) (Mp.vw hM0_1 rfl)) ?_
 rintro _ w107 ⟨o108, rfl, s109⟩
 refine ⟨_, rfl, ?_⟩
 replace s109 := un_stepL (J := []) (L' := []) s109 rfl rfl
 refine E rfl (ex_not (b := z106) rfl) <|
  WL.nil ?_
 rcases condE H with ⟨c110, H⟩ | ⟨c110, H⟩
 ·
  refine WC.cond_t (vb c110 rfl) <|
   WC.seq <|
   WC.region <|
   E rfl (ex_build (cs := [ii 1, ii (0 : Int), ii (0 : Int), ii (0 : Int)]) [(0, 1), (1, 3)] [(0, ii 1)] [ii 0, ii 0, ii 0, ii 0] U36 zr36 rfl (by kernel_rfl) (evs_cons rfl rfl) rfl) <|
   E rfl (sg (ii 0) rfl) <|
   E rfl (sg (ii 0) rfl) <|
   WL.op rfl ?_
  replace hB105 := hB105.step s109 rfl
  refine OW.storeW rfl rfl sz36 hB105 rfl (oa rfl) ?_
  intro w111 s112 hB113
  refine WL.nil <|
   WC.ret ?_
  obtain rfl := Option.some.inj H
  have k109_112 := s109.t s112
  replace hO0_0 := hO0_0.step k109_112 rfl rfl
  replace hB0 := hB0.step k109_112 rfl
  replace hM0_1 := hM0_1.step k109_112 rfl
  replace HF := HF.step k109_112 rfl
  exact ⟨_, (.tmp _ rfl (.tmp _ rfl (.cell _ rfl (run_loadN (cs := [ii 1, ii (0 : Int), ii (0 : Int), ii (0 : Int)]) U36 rfl sz36 (hB113.cells rfl)) .nil))), _, pv0_0, rfl, HF.out, hB0, hO0_0, hM0_1⟩
 ·
  refine WC.cond_f (vb c110 rfl) <|
   WC.skip <|
   WC.seq <|
   WC.region <|
   E rfl (mv (pp pb0 0) rfl) <|
   E rfl (mv (.slice pA1 a1.length pc1) rfl) <|
   E rfl (ex_build (cs := [pp pb0 0, .slice pA1 a1.length pc1, ii (0 : Int), ii (0 : Int), ii (0 : Int), .bool true, .bool false]) [(0, 1), (1, 1), (2, 1), (3, 1), (4, 1), (5, 1), (6, 1)] [(0, pp pb0 0), (1, .slice pA1 a1.length pc1), (5, .bool true)] [.pointer none, .slice none 0 0, ii 0, ii 0, ii 0, .bool false, .bool false] U80 zr80 rfl (by kernel_rfl) (evs_cons rfl (evs_cons rfl (evs_cons rfl rfl))) rfl) <|
   WL.op rfl ?_
  replace HF := HF.step s109 rfl
  refine OW.box' [pp pb0 0, .slice pA1 a1.length pc1, ii (0 : Int), ii (0 : Int), ii (0 : Int), .bool true, .bool false] 41 HF rfl ((congrArg Value.cells (show ev _ _ = (.agg #[pp pb0 0, .slice pA1 a1.length pc1, ii (0 : Int), ii (0 : Int), ii (0 : Int), .bool true, .bool false] : Value) from rfl)).trans rfl) ?_
  intro o115 w116 b114 s117 hB118
  refine WL.op rfl ?_
  replace HF := HF.step s117 rfl
  refine OW.alloc' [.pointer none] 42 HF rfl zr78 rfl ?_
  intro o120 w121 b119 s122 hB123
  refine WL.op rfl <|
   OW.storeW rfl rfl sz78 hB123 rfl (oa rfl) ?_
  intro w124 s125 hB126
  refine WL.nil <|
   WC.seq <|
   WC.region <|
   WL.op rfl ?_
  have k122_125 := s122.t s125
  replace HF := HF.step k122_125 rfl
  refine OW.alloc' [ii (0 : Int)] 43 HF rfl zr3 rfl ?_
  intro o128 w129 b127 s130 hB131
  refine WL.op rfl <|
   OW.storeW rfl rfl sz3 hB131 rfl (oa rfl) ?_
  intro w132 s133 hB134
  refine WL.nil <|
   WC.seq <|
   WC.region ?_
  have k130_133 := s130.t s133
  replace hB126 := hB126.step k130_133 rfl
  refine E rfl (ex_load1 rfl U78 rfl (hB126.cell rfl)) <|
   E rfl (ex_makeFuncC [pp b119 0, pp b127 0] (map_cons' rfl (map_cons' rfl rfl))) ?_
  obtain ⟨z135, hz135, H⟩ := bindE H
  refine WL.op rfl ?_
  replace HF := HF.step k130_133 rfl
  have k122_133 := k122_125.t k130_133
  replace hB118 := hB118.step k122_133 rfl
  have k109_133 := (s109.t s117).t k122_133
  replace hO0_0 := hO0_0.step k109_133 rfl rfl
  replace hB0 := hB0.step k109_133 rfl
  replace hM0_1 := hM0_1.step k109_133 rfl
  have k104_133 := s104.t k109_133
  replace hra1 := hra1.step k104_133 rfl
  refine OW.call [pp b114 0, .func (.func 60) #[] #[pp b119 0, pp b127 0]] rfl Tryz.func30 (by kernel_rfl) (by kernel_rfl) (map_cons' rfl (map_cons' rfl rfl)) (syntax_reader_read_syntax_Take_1.calls k _ _ b114 pA1 pc1 pb0 pv0_0 b119 b127 pb0_1 (a0 := (⟨a1, (0 : Int), (0 : Int), (0 : Int), true, false⟩ : T_syntax_reader)) (a0_0 := a0) hz135 (HF.ten (V := [0]) (L := [41, 2, 3, 42, 43, 4]) rfl) (Bk.vw hB118 rfl) (Row.vw hra1 rfl) hla1 (Bk.vw hB0 rfl) (Own.vw hO0_0 rfl rfl) (Bk.vw hB126 rfl) (Bk.vw hB134 rfl) (Mp.vw hM0_1 rfl)) ?_
  rintro _ w136 ⟨o137, A140, c141, v145, rfl, s138, hB139, hl142, hr143, hB144, hO146, hB147, hM148⟩
  refine ⟨_, rfl, ?_⟩
  replace hB139 := Bk.unO (J := []) 0 hB139 s138 rfl rfl rfl
  replace hr143 := hr143.un (J := []) s138
  replace hB144 := Bk.unO (J := []) 1 hB144 s138 rfl rfl rfl
  replace hO146 := Own.unO (J := []) 2 hO146 s138 rfl rfl rfl
  replace hB147 := Bk.unO (J := []) 4 hB147 s138 rfl rfl rfl
  replace hM148 := Mp.unO (J := []) 5 hM148 s138 rfl rfl rfl
  replace s138 := un_stepL (J := []) (L' := [41, 2, 3, 43, 4]) s138 rfl rfl
  refine WL.op rfl ?_
  replace HF := HF.step s138 rfl
  refine OW.alloc' [ii (0 : Int), ii (0 : Int), ii (0 : Int), ii (0 : Int)] 44 HF rfl zr36 rfl ?_
  intro o150 w151 b149 s152 hB153
  refine WL.op rfl <|
   OW.storeW rfl rfl sz36 hB153 rfl (oa rfl) ?_
  intro w154 s155 hB156
  refine WL.nil <|
   WC.seq <|
   WC.seq <|
   WC.region <|
   E rfl (ex_fieldAddr rfl U36 rfl sz28) <|
   E rfl (ex_load1 rfl U28 rfl (hB156.cell rfl)) <|
   E rfl (e2 bin_neq rfl rfl) <|
   WL.nil ?_
  rcases condE H with ⟨c157, H⟩ | ⟨c157, H⟩
  ·
   refine WC.cond_t (vb c157 rfl) <|
    WC.seq ?_
   have k152_155 := s152.t s155
   replace HF := HF.step k152_155 rfl
   refine WC.regionD' HF [] 3 4 (by kernel_rfl) rfl ?_
   intro w158 s159
   replace hB156 := hB156.step s159 rfl
   have hB156D := hB156
   replace HF := HF.step s159 rfl
   have sR := HF.here []
   refine WA.seq [0, 1, 2] (lb 4 7) 1 (by kernel_rfl) rfl ⟨_, sR⟩ <|
    X1 rfl (fun w_ hS_ => ex_loadN (cs := [ii z135.1.f_Code, ii z135.1.f_At.f_Line, ii z135.1.f_At.f_Col, ii z135.1.f_At.f_Off]) rfl U36 rfl sz36 ((hB156D.step hS_.choose_spec rfl).cells rfl)) <|
    X1 rfl (fun w_ hS_ => ex_assign (v := ii 0) rfl) <|
    X1 rfl (fun w_ hS_ => ex_assign (v := ii 0) rfl) <|
    WA.last 3 (by kernel_rfl) (by kernel_rfl) rfl rfl rfl ?_
   have k109_159 := (((k109_133.t s138).t s152).t s155).t s159
   replace hB105 := hB105.step k109_159 rfl
   refine OW.storeW rfl rfl sz36 hB105 rfl (oa rfl) ?_
   intro w160 s161 hB162
   refine WC.ret ?_
   obtain rfl := Option.some.inj H
   replace HF := HF.step s161 rfl
   have k152_161 := (k152_155.t s159).t s161
   replace hB144 := hB144.step k152_161 rfl
   replace hO146 := hO146.step k152_161 rfl rfl
   replace hM148 := hM148.step k152_161 rfl
   exact ⟨_, (.tmp _ rfl (.tmp _ rfl (.cell _ rfl (run_loadN (cs := [ii z135.1.f_Code, ii z135.1.f_At.f_Line, ii z135.1.f_At.f_Col, ii z135.1.f_At.f_Off]) U36 rfl sz36 (hB162.cells rfl)) .nil))), _, v145, rfl, HF.out, hB144, hO146, hM148⟩
  ·
   refine WC.cond_f (vb c157 rfl) <|
    WC.skip <|
    WC.seq ?_
   have k152_155 := s152.t s155
   replace HF := HF.step k152_155 rfl
   refine WC.regionD' HF [] 8 9 (by kernel_rfl) rfl ?_
   intro w163 s164
   have k138_164 := ((s138.t s152).t s155).t s164
   replace hB126 := hB126.step k138_164 rfl
   have hB126D := hB126
   have k152_164 := k152_155.t s164
   replace hB139 := hB139.step k152_164 rfl
   have hB139D := hB139
   replace hB147 := hB147.step k152_164 rfl
   have hB147D := hB147
   replace hB156 := hB156.step s164 rfl
   have hB156D := hB156
   replace HF := HF.step s164 rfl
   have sR := HF.here []
   refine WA.seq [0, 1, 2, 3, 4, 5, 6, 7] (lb 9 255) 1 (by kernel_rfl) rfl ⟨_, sR⟩ <|
    X1 rfl (fun w_ hS_ => ex_load1 (v := ii z135.2.2.2.1) rfl U3 rfl ((hB147D.step hS_.choose_spec rfl).cell rfl)) <|
    X1 rfl (fun w_ hS_ => ex_load1 (v := pp b114 0) rfl U78 rfl ((hB126D.step hS_.choose_spec rfl).cell rfl)) <|
    X1 rfl (fun w_ hS_ => ex_nilCheck rfl) <|
    X1 rfl (fun w_ hS_ => ex_fieldAddr rfl U80 rfl sz3) <|
    X1 rfl (fun w_ hS_ => ex_load1 (v := ii z135.2.1.f_i) rfl U3 rfl ((hB139D.step hS_.choose_spec rfl).cell rfl)) <|
    X1 rfl (fun w_ hS_ => ex_loadN (cs := [ii z135.1.f_Code, ii z135.1.f_At.f_Line, ii z135.1.f_At.f_Col, ii z135.1.f_At.f_Off]) rfl U36 rfl sz36 ((hB156D.step hS_.choose_spec rfl).cells rfl)) <|
    X1 rfl (fun w_ hS_ => ex_assign (v := ii z135.2.2.2.1) rfl) <|
    X1 rfl (fun w_ hS_ => ex_assign (v := ii z135.2.1.f_i) rfl) <|
    WA.last 8 (by kernel_rfl) (by kernel_rfl) rfl rfl rfl ?_
   have k109_164 := k109_133.t k138_164
   replace hB105 := hB105.step k109_164 rfl
   refine OW.storeW rfl rfl sz36 hB105 rfl (oa rfl) ?_
   intro w165 s166 hB167
   refine WC.ret ?_
   obtain rfl := Option.some.inj H
   replace HF := HF.step s166 rfl
   have k152_166 := k152_164.t s166
   replace hB144 := hB144.step k152_166 rfl
   replace hO146 := hO146.step k152_166 rfl rfl
   replace hM148 := hM148.step k152_166 rfl
   exact ⟨_, (.tmp _ rfl (.tmp _ rfl (.cell _ rfl (run_loadN (cs := [ii z135.1.f_Code, ii z135.1.f_At.f_Line, ii z135.1.f_At.f_Col, ii z135.1.f_At.f_Off]) U36 rfl sz36 (hB167.cells rfl)) .nil))), _, v145, rfl, HF.out, hB144, hO146, hM148⟩
end Go.Proofs.YtpmkkhkphddfeaaGreatDoor.X
