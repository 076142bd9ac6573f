/- Layer 2, plain: rows of words and gaps are scanned as their tokens. -/
import Derived.Test.YtjhmhdedonibbaaDoorTP
set_option linter.unusedVariables false
set_option linter.unusedSimpArgs false
namespace Go.Proofs.YtjhmhdedonibbaaDoor.X
open Go Go.RowKit Go.Proofs.YtjhmhdedonibbaaDoor.SX
/-- A gap is gone over whole. -/
def Skips (g : List UInt8) : Prop := ∀ (s : List UInt8) (i : Nat) (r : List UInt8), s.drop i = g ++ r → S s i = S s (i + g.length)
theorem skips_nil : Skips [] := fun s i r h => rfl
theorem skips_app {g h : List UInt8} (hg : Skips g) (hh : Skips h) : Skips (g ++ h) := by
  intro s i r e
  rw [List.append_assoc] at e
  rw [hg s i _ e, List.length_append, ← Nat.add_assoc]
  refine hh s (i + g.length) r ?_
  rw [← List.drop_drop, e, List.drop_left]
theorem drop_lt {s : List UInt8} {i : Nat} {c : UInt8} {r : List UInt8} (h : s.drop i = c :: r) : i < s.length ∧ s.getD i 0 = c := by
  have hl := congrArg List.length h
  rw [List.length_drop, List.length_cons] at hl
  refine ⟨by omega, ?_⟩
  rw [← Nat.add_zero i, ← getD_drop0, h]
  rfl
theorem skips_blank {c : UInt8} (hc : blankB c = true) : Skips [c] := by
  intro s i r e
  obtain ⟨h1, h2⟩ := drop_lt e
  exact S_blank h1 (by rw [h2]; exact hc)
theorem nlOf_app : ∀ (w : List UInt8) (r : List UInt8), (∀ c ∈ w, (c == 10) = false) → nlOf (w ++ 10 :: r) = w.length
  | [], r, _ => rfl
  | c :: t, r, h => by
    show nlOf (c :: (t ++ 10 :: r)) = t.length + 1
    rw [nlOf.eq_2, h c (List.mem_cons_self ..), cond_false, nlOf_app t r (fun x hx => h x (List.mem_cons_of_mem _ hx))]
theorem skips_com {w : List UInt8} (hw : ∀ c ∈ w, (c == 10) = false) : Skips (35 :: (w ++ [10])) := by
  intro s i r e
  have e2 : s.drop i = 35 :: ((w ++ [10]) ++ r) := e
  obtain ⟨h1, h2⟩ := drop_lt e2
  have e3 : s.drop i = (35 :: w) ++ 10 :: r := by rw [e2, List.append_assoc]; rfl
  have hn : nlOf (s.drop i) = w.length + 1 := by
    rw [e3, nlOf_app (35 :: w) r (fun c hc => by
      rcases List.mem_cons.1 hc with rfl | hc
      · rfl
      · exact hw c hc)]
    rfl
  have e4 : s.drop (i + (w.length + 1)) = 10 :: r := by
    rw [← List.drop_drop, e3]
    exact List.drop_left (l₁ := 35 :: w)
  obtain ⟨h3, h4⟩ := drop_lt e4
  rw [S_com h1 (by rw [h2]; rfl) (by rw [h2]; rfl), hn, S_blank h3 (by rw [h4]; rfl)]
  congr 1
  simp only [List.length_cons, List.length_append, List.length_nil]
  omega
/-- A text of gaps and words, and its tokens. -/
inductive Toks : List UInt8 → List T_api_Token → Prop
  | fin (g : List UInt8) : Skips g → Toks g []
  | tok (g x r : List UInt8) (t : T_api_Token) (ts : List T_api_Token) : Skips g → x ≠ [] → wordP x = .inl (t, x.length) → gapped r → Toks r ts → Toks (g ++ (x ++ r)) (t :: ts)
theorem bare_put (t : T_api_Token) (q : T_api_Spot) : bare (put t q) = bare t := rfl
theorem scan_toks {s : List UInt8} {l : List UInt8} {ts : List T_api_Token} (ht : Toks l ts) : ∀ (d i : Nat) (p : Int × Int) (acc : List T_api_Token), s.drop i = l → i ≤ s.length → s.length - i < d →
    ∃ m, scanP s d i p acc = (acc ++ m, F0) ∧ m.map bare = ts.map bare ++ [tk 0 [] 0] := by
  induction ht with
  | fin g hg =>
    intro d i p acc e hi hd
    obtain ⟨d, rfl⟩ : ∃ m, d = m + 1 := ⟨d - 1, by omega⟩
    have hS := hg s i [] (by rw [e, List.append_nil])
    have hl := congrArg List.length e
    rw [List.length_drop] at hl
    rw [S_end (i := i + g.length) (by omega)] at hS
    rw [scanP.eq_2, if_pos (by omega)]
    exact ⟨_, rfl, rfl⟩
  | tok g x r t ts hg hx hw hr _ ih =>
    intro d i p acc e hi hd
    obtain ⟨d, rfl⟩ : ∃ m, d = m + 1 := ⟨d - 1, by omega⟩
    have hl := congrArg List.length e
    rw [List.length_drop, List.length_append, List.length_append] at hl
    have h1 : 1 ≤ x.length := List.length_pos_iff.2 hx
    have e2 : s.drop (i + g.length) = x ++ r := by rw [← List.drop_drop, e, List.drop_left]
    have hn := word_nogap hx hw
    have hb : s.getD (i + g.length) 0 = x.getD 0 0 := by
      rw [← Nat.add_zero (i + g.length), ← getD_drop0, e2, getD_app h1]
    unfold gapB at hn
    rw [Bool.or_eq_false_iff, ← hb] at hn
    have hS : S s i = i + g.length := by rw [hg s i _ e, S_stop (by omega) hn.1 hn.2]
    have e3 : s.drop (i + g.length + x.length) = r := by rw [← List.drop_drop, e2, List.drop_left]
    rw [scanP.eq_2, hS, if_neg (by omega), e2, wordP_app hx hr, hw]
    simp only
    obtain ⟨m, hm, hm2⟩ := ih d (i + g.length + x.length) (W s (i + g.length + x.length) (i + g.length) (W s (i + g.length) i p).2).2 (acc ++ [put t (spotOf (W s (i + g.length) i p).2 ((i + g.length : Nat) : Int))]) e3 (by omega) (by omega)
    refine ⟨put t (spotOf (W s (i + g.length) i p).2 ((i + g.length : Nat) : Int)) :: m, ?_, ?_⟩
    · show scanP s d _ _ _ = _
      rw [hm, List.append_assoc]
      rfl
    · rw [List.map_cons, List.map_cons, hm2, bare_put]
      rfl
theorem scanS_toks {s : List UInt8} {ts : List T_api_Token} (ht : Toks s ts) : ∃ m, scanS s = (m, F0) ∧ m.map bare = ts.map bare ++ [tk 0 [] 0] := by
  obtain ⟨m, h1, h2⟩ := scan_toks (s := s) ht (s.length + 1) 0 (1, 1) [] rfl (Nat.zero_le _) (by omega)
  exact ⟨m, h1, h2⟩
theorem write_put (t : T_api_Token) (q : T_api_Spot) : writeP (put t q) = writeP t := rfl
/-- How a scan without a fault looks. -/
theorem scan_struct (s : List UInt8) : ∀ (d i : Nat) (p : Int × Int) (acc out : List T_api_Token), s.length - i < d → i ≤ s.length → scanP s d i p acc = (out, F0) →
    ∃ ts q, out = acc ++ (ts ++ [put (tk 0 [] 0) q]) ∧ ∀ t ∈ ts, (writeP t).2 = 0 ∧ t.f_Kind ≠ 0 := by
  intro d
  induction d with
  | zero => intro i p acc out h; omega
  | succ d ih =>
    intro i p acc out h1 h2 h
    obtain ⟨g1, g2⟩ := S_ge s i h2
    rw [scanP.eq_2] at h
    by_cases he : s.length ≤ S s i
    · rw [if_pos he] at h
      injection h with h _
      exact ⟨[], _, h.symm, fun t ht => by cases ht⟩
    · rw [if_neg he] at h
      cases hw : wordP (s.drop (S s i)) with
      | inr e =>
        rw [hw] at h
        injection h with _ h
        have he3 := wordP_err hw
        have := congrArg T_api_Fault.f_Code h
        have h0 : e = 0 := this
        omega
      | inl tn =>
        obtain ⟨t, n⟩ := tn
        rw [hw] at h
        obtain ⟨n1, n2, n3, n4, n5⟩ := wordP_ok (by omega) hw
        have hne : s.drop (S s i) ≠ [] := by intro e2; have := congrArg List.length e2; simp at this; omega
        obtain ⟨ts, q, e1, e2⟩ := ih _ _ _ _ (by omega) n2 h
        refine ⟨put t (spotOf (W s (S s i) i p).2 (S s i)) :: ts, q, ?_, ?_⟩
        · rw [e1, List.append_assoc]; rfl
        · intro u hu
          rcases List.mem_cons.1 hu with rfl | hu
          · rw [write_put]; exact word_write hne hw
          · exact e2 u hu
end Go.Proofs.YtjhmhdedonibbaaDoor.X
