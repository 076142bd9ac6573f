/- Layer 5, plain: a text read as a set, by the program. -/
import Derived.Test.YtfdocckaobmgeaaDoorBTa
set_option linter.unusedVariables false
set_option linter.unusedSimpArgs false
namespace Go.Proofs.YtfdocckaobmgeaaDoor.X
open Go Go.RowKit Go.Proofs.YtfdocckaobmgeaaDoor.SX
open Go.Lib (decDigits itoa)
/-- d numbers from lo. -/
def fill (e : List UInt64) (lo : Nat) : Nat → List UInt64
  | 0 => e
  | d + 1 => fill (withB e lo) (lo + 1) d
theorem fill_len : ∀ (d : Nat) (e : List UInt64) (lo : Nat), (fill e lo d).length = e.length
  | 0, e, lo => rfl
  | d + 1, e, lo => by rw [fill, fill_len d, with_len]
theorem mem_fill : ∀ (d : Nat) (e : List UInt64) (lo j : Nat), e.length = 16 → lo + d ≤ 1024 → mem (fill e lo d) j = (mem e j || (decide (lo ≤ j) && decide (j < lo + d)))
  | 0, e, lo, j, he, h => by
    rw [fill]
    by_cases h1 : lo ≤ j
    · rw [decide_eq_false (by omega : ¬ j < lo + 0), Bool.and_false, Bool.or_false]
    · rw [decide_eq_false h1, Bool.false_and, Bool.or_false]
  | d + 1, e, lo, j, he, h => by
    rw [fill, mem_fill d _ _ j (by rw [with_len, he]) (by omega), mem_with he (by omega), Bool.or_assoc]
    congr 1
    rw [Bool.eq_iff_iff]
    simp only [Bool.or_eq_true, Bool.and_eq_true, decide_eq_true_eq]
    omega
def fillR (e : List UInt64) (r : Nat × Nat) : List UInt64 := fill e r.1 (r.2 + 1 - r.1)
def fillAll (e : List UInt64) (rs : List (Nat × Nat)) : List UInt64 := rs.foldl fillR e
def inR (j : Nat) (r : Nat × Nat) : Bool := decide (r.1 ≤ j) && decide (j ≤ r.2)
theorem mem_fillR {e : List UInt64} (he : e.length = 16) {r : Nat × Nat} (h1 : r.1 ≤ r.2) (h2 : r.2 < 1024) (j : Nat) : mem (fillR e r) j = (mem e j || inR j r) := by
  unfold fillR inR
  rw [mem_fill _ e _ j he (by omega)]
  congr 2
  rw [decide_eq_decide]
  omega
theorem fillAll_len : ∀ (rs : List (Nat × Nat)) (e : List UInt64), (fillAll e rs).length = e.length
  | [], e => rfl
  | r :: rs, e => by
    show (fillAll (fillR e r) rs).length = _
    rw [fillAll_len rs, fillR, fill_len]
theorem mem_fillAll : ∀ (rs : List (Nat × Nat)) (e : List UInt64) (j : Nat), e.length = 16 → (∀ r ∈ rs, r.1 ≤ r.2 ∧ r.2 < 1024) → mem (fillAll e rs) j = (mem e j || rs.any (inR j))
  | [], e, j, he, h => by
    show mem e j = (mem e j || false)
    rw [Bool.or_false]
  | r :: rs, e, j, he, h => by
    have h1 := h r (List.mem_cons_self ..)
    show mem (fillAll (fillR e r) rs) j = _
    rw [mem_fillAll rs _ j (by rw [fillR, fill_len, he]) (fun x hx => h x (List.mem_cons_of_mem _ hx)), mem_fillR he h1.1 h1.2, Bool.or_assoc]
    rfl
theorem mem_runs {e : List UInt64} (he : e.length = 16) : ∀ (D n j : Nat), 1024 - n < D → n ≤ j → j < 1024 → mem e j = (runs e D n).any (inR j)
  | 0, n, j, h, _, _ => by omega
  | D + 1, n, j, h, h1, h2 => by
    rw [runs]
    rcases nx_cases e n with ⟨i, p1, p2, p3, p4, p5⟩ | ⟨p1, p2⟩
    · rw [p5]
      simp only [List.any_cons]
      have g1 := en_ge e i
      unfold inR at *
      by_cases a : j < i
      · rw [p4 j h1 a, decide_eq_false (by omega : ¬ i ≤ j), Bool.false_and, Bool.false_or]
        symm
        rw [List.any_eq_false]
        intro r hr
        have := (runs_lt he D _ r hr).1
        rw [decide_eq_false (by omega : ¬ r.1 ≤ j), Bool.false_and]
        decide
      · by_cases b : j ≤ en e i
        · have : mem e j = true := by
            by_cases hi : j = i
            · rw [hi]; exact p3
            · exact en_in e i j (by omega) b
          rw [this, decide_eq_true (by omega : i ≤ j), decide_eq_true b]
          rfl
        · rw [decide_eq_false b, Bool.and_false, Bool.false_or]
          exact mem_runs he D _ j (by omega) (by omega) h2
    · rw [p2, p1 j h1 h2]
      rfl
/-- The runs of a set make it. -/
theorem fill_runs {e : List UInt64} (he : e.length = 16) : fillAll Z16 (runs e 1025 0) = e :=
  set_ext (by rw [fillAll_len]; rfl) he fun j hj => by
    rw [mem_fillAll _ _ j z16_len (fun r hr => (runs_lt he 1025 0 r hr).2), mem_z, Bool.false_or, ← mem_runs he 1025 0 j (by omega) (Nat.zero_le _) hj]
theorem rtxt_ne (r : Nat × Nat) : rtxt r ≠ [] := by
  obtain ⟨c, t, h, _⟩ := dd_head r.1
  unfold rtxt
  rw [h]
  simp
theorem txt_nil {e : List UInt64} (he : e.length = 16) (h : txt e = []) : e = Z16 := by
  unfold txt at h
  have := fill_runs he
  cases hr : runs e 1025 0 with
  | nil => rw [hr] at this; exact this.symm
  | cons r rs =>
    rw [hr] at h
    have h2 : rtxt r ++ (rs.map rtxt).flatMap (fun y => 44 :: y) = [] := h
    exact absurd (List.append_eq_nil_iff.1 h2).1 (rtxt_ne r)
theorem dd_dig (u : Nat) : ∀ c ∈ decDigits u, 48 ≤ c.toNat ∧ c.toNat ≤ 57 := by
  induction u using Nat.strongRecOn with
  | _ u ih =>
    intro c hc
    by_cases h : u < 10
    · rw [dd_small h, List.mem_singleton] at hc
      subst hc
      have := dg_nat h
      omega
    · rw [dd_big h, List.mem_append, List.mem_singleton] at hc
      rcases hc with hc | hc
      · exact ih (u / 10) (by omega) c hc
      · subst hc
        have := dg_nat (d := u % 10) (by omega)
        omega
theorem dd_no (u : Nat) (b : UInt8) (hb : b.toNat < 48) : ∀ c ∈ decDigits u, c ≠ b := fun c hc e => by
  have := (dd_dig u c hc).1
  rw [e] at this
  omega
theorem idx_no (b : UInt8) : ∀ p : List UInt8, (∀ c ∈ p, c ≠ b) → Lib.indexByte p b = -1
  | [], _ => rfl
  | x :: t, h => by
    rw [idx_cons, if_neg (by simpa using h x (List.mem_cons_self ..)), idx_no b t fun c hc => h c (List.mem_cons_of_mem _ hc)]
    rfl
theorem idx_app (b : UInt8) (q : List UInt8) : ∀ p : List UInt8, (∀ c ∈ p, c ≠ b) → Lib.indexByte (p ++ b :: q) b = (p.length : Int)
  | [], _ => by
    rw [List.nil_append, idx_cons, if_pos (by simp)]
    rfl
  | x :: t, h => by
    rw [List.cons_append, idx_cons, if_neg (by simpa using h x (List.mem_cons_self ..)), idx_app b q t fun c hc => h c (List.mem_cons_of_mem _ hc), if_neg (by rw [beq_iff_eq]; omega), List.length_cons]
    omega
theorem split_no (b : UInt8) : ∀ p : List UInt8, (∀ c ∈ p, c ≠ b) → splitB b p = [p]
  | [], _ => rfl
  | x :: t, h => by
    unfold splitB
    rw [show (x == b) = false from by simpa using h x (List.mem_cons_self ..), cond_false, split_no b t fun c hc => h c (List.mem_cons_of_mem _ hc)]
theorem split_app (b : UInt8) (q : List UInt8) : ∀ p : List UInt8, (∀ c ∈ p, c ≠ b) → splitB b (p ++ b :: q) = p :: splitB b q
  | [], _ => by
    rw [List.nil_append]
    conv => lhs; unfold splitB
    rw [show (b == b) = true from by simp, cond_true]
  | x :: t, h => by
    rw [List.cons_append]
    conv => lhs; unfold splitB
    rw [show (x == b) = false from by simpa using h x (List.mem_cons_self ..), cond_false, split_app b q t fun c hc => h c (List.mem_cons_of_mem _ hc)]
theorem split_glue (b : UInt8) : ∀ (ts : List (List UInt8)), ts ≠ [] → (∀ p ∈ ts, ∀ c ∈ p, c ≠ b) → splitB b (glue b ts) = ts
  | [], h, _ => absurd rfl h
  | [p], _, h => by
    show splitB b (p ++ []) = [p]
    rw [List.append_nil, split_no b p (h p (List.mem_cons_self ..))]
  | p :: q :: ts, _, h => by
    have ih := split_glue b (q :: ts) (by simp) fun x hx => h x (List.mem_cons_of_mem _ hx)
    have : glue b (p :: q :: ts) = p ++ b :: glue b (q :: ts) := by simp [glue]
    rw [this, split_app b _ p (h p (List.mem_cons_self ..)), ih]
theorem split_len (b : UInt8) : ∀ (s : List UInt8), ∀ p ∈ splitB b s, p.length ≤ s.length
  | [], p, h => by
    have : p ∈ [([] : List UInt8)] := h
    rw [List.mem_singleton] at this
    rw [this]
    exact Nat.le_refl _
  | x :: t, p, h => by
    unfold splitB at h
    cases hx : x == b with
    | true =>
      rw [hx, cond_true] at h
      rcases List.mem_cons.1 h with h | h
      · rw [h]; exact Nat.zero_le _
      · have := split_len b t p h
        rw [List.length_cons]; omega
    | false =>
      rw [hx, cond_false] at h
      cases hs : splitB b t with
      | nil => exact absurd hs (splitB_ne b t)
      | cons q qs =>
        rw [hs] at h
        rcases List.mem_cons.1 h with h | h
        · have := split_len b t q (by rw [hs]; exact List.mem_cons_self ..)
          rw [h, List.length_cons, List.length_cons]; omega
        · have := split_len b t p (by rw [hs]; exact List.mem_cons_of_mem _ h)
          rw [List.length_cons]; omega
theorem rtxt_comma (r : Nat × Nat) : ∀ c ∈ rtxt r, c ≠ 44 := by
  intro c hc
  unfold rtxt at hc
  rw [List.mem_append] at hc
  rcases hc with hc | hc
  · exact dd_no _ 44 (by decide) c hc
  · split at hc
    · rcases List.mem_cons.1 hc with hc | hc
      · rw [hc]; decide
      · exact dd_no _ 44 (by decide) c hc
    · cases hc
theorem undec_dd {n : Nat} (h : n < 1024) : undecE (decDigits n) 1023 = ((n : Int), 0) := by
  unfold undecE
  have hl := dd4 h
  obtain ⟨c, t, e, _⟩ := dd_head n
  have hne : 1 ≤ (decDigits n).length := by rw [e]; simp
  have hi := (dd_iff (decDigits n) n (dd_dec n) hne).1 rfl
  rw [dd_dec n, if_neg (by
    rintro (h | h | ⟨h2, h3⟩)
    · omega
    · omega
    · rcases hi with h | h
      · omega
      · exact h h3)]
  show (if _ then _ else _) = _
  rw [if_neg (by omega)]
theorem undec_cases (s : List UInt8) : undecE s 1023 = (0, 2) ∨ ∃ v : Nat, v < 1024 ∧ undecE s 1023 = ((v : Int), 0) := by
  unfold undecE
  split
  · exact Or.inl rfl
  · cases Lib.decFrom 0 s with
    | none => exact Or.inl rfl
    | some v =>
      simp only
      split
      · exact Or.inl rfl
      · exact Or.inr ⟨v, by omega, rfl⟩
theorem scut_no {p : List UInt8} (h : Lib.indexByte p 45 = -1) : strings_Cut.f p [45] = some (p, [], false) := by
  unfold strings_Cut.f stringslite_Cut.f stringslite_Index.f
  simp only
  rw [h, bind_some', decide_eq_false (by decide), cond_false, bind_some']
theorem scut_at {p : List UInt8} {i : Nat} (h : Lib.indexByte p 45 = (i : Int)) (hi : i < p.length) (hl : p.length ≤ 1000000000) : strings_Cut.f p [45] = some (p.take i, p.drop (i + 1), true) := by
  unfold strings_Cut.f stringslite_Cut.f stringslite_Index.f
  simp only
  rw [h, bind_some', decide_eq_true (by omega), cond_true, cut_to p (by omega), bind_some', show wrap64 ((i : Int) + (([45] : List UInt8).length : Int)) = ((i + 1 : Nat) : Int) from wsucc i (by omega), cut_from p (by omega), bind_some', bind_some']
theorem parse_l2 (k : Nat) (hi : Nat) (hh : hi < 1024) (q : Int) : ∀ (d x kk : Nat) (e : List UInt64), d = hi + 1 - x → d < kk → e.length = 16 → x < 1025 → bits_Parse.l2 k ((hi : Int), q) kk (x : Int) e = some (fill e x d)
  | 0, x, kk, e, h1, h2, he, hx => by
    obtain ⟨kk, rfl⟩ : ∃ m, kk = m + 1 := ⟨kk - 1, by omega⟩
    rw [bits_Parse.l2.eq_2]
    simp only
    rw [decide_eq_false (by omega), cond_false]
    rfl
  | d + 1, x, kk, e, h1, h2, he, hx => by
    obtain ⟨kk, rfl⟩ : ∃ m, kk = m + 1 := ⟨kk - 1, by omega⟩
    have hx2 : x < 1024 := by omega
    rw [bits_Parse.l2.eq_2]
    simp only
    rw [decide_eq_true (by omega : (x : Int) ≤ (hi : Int)), cond_true, ix_word he hx2, bind_some', tmod_nat, chk_of (decide_eq_true (by omega)), bind_some', bind_some', wsucc x (by omega), tdiv_nat hx2, Int.toNat_natCast, Int.toNat_natCast, fill]
    exact parse_l2 k hi hh q d (x + 1) kk (withB e x) (by omega) (by omega) (by rw [with_len, he]) (by omega)
/-- One piece, whatever it is. -/
theorem piece_any (k : Nat) (hk : 1100 < k) (p : List UInt8) (hp : p.length ≤ 100000000) (ps : List (List UInt8)) (e : List UInt64) (he : e.length = 16) :
    bits_Parse.l1 k (p :: ps) e = some (.inl ()) ∨ ∃ f, f.length = 16 ∧ bits_Parse.l1 k (p :: ps) e = bits_Parse.l1 k ps f := by
  rw [bits_Parse.l1.eq_2]
  have main : ∀ a b : List UInt8, a.length ≤ 100000000 → b.length ≤ 100000000 →
      (((octet_Undec.f a 1023).bind fun z173 => (octet_Undec.f b 1023).bind fun z177 => ((bif (z173.2 != 0) then some true else some (z177.2 != 0)) : Option (Bool)).bind fun z182 => (bif z182 then some (.inl ()) else (bits_Parse.l2 k z177 k z173.1 e).bind fun z199 => bits_Parse.l1 k ps z199)) : Option (Sum Unit (List UInt64))) = some (.inl ()) ∨
      ∃ f, f.length = 16 ∧ (((octet_Undec.f a 1023).bind fun z173 => (octet_Undec.f b 1023).bind fun z177 => ((bif (z173.2 != 0) then some true else some (z177.2 != 0)) : Option (Bool)).bind fun z182 => (bif z182 then some (.inl ()) else (bits_Parse.l2 k z177 k z173.1 e).bind fun z199 => bits_Parse.l1 k ps z199)) : Option (Sum Unit (List UInt64))) = bits_Parse.l1 k ps f := by
    intro a b ha hb
    rw [pundec_f a _ (by omega), bind_some', pundec_f b _ (by omega), bind_some']
    rcases undec_cases a with h1 | ⟨v, hv, h1⟩
    · rw [h1]; exact Or.inl rfl
    · rcases undec_cases b with h2 | ⟨w, hw, h2⟩
      · rw [h1, h2]; exact Or.inl rfl
      · refine Or.inr ⟨fill e v (w + 1 - v), by rw [fill_len, he], ?_⟩
        rw [h1, h2]
        show (bits_Parse.l2 k ((w : Int), 0) k (v : Int) e).bind _ = _
        rw [parse_l2 k w hw 0 (w + 1 - v) v k e rfl (by omega) he (by omega)]
        rfl
  rcases splitB_idx 45 p with ⟨h, _⟩ | ⟨i, h, hi, _⟩
  · rw [scut_no h, bind_some']
    exact main p p hp hp
  · rw [scut_at h hi (by omega), bind_some']
    exact main _ _ (by rw [List.length_take]; omega) (by rw [List.length_drop]; omega)
theorem pieces_any (k : Nat) (hk : 1100 < k) : ∀ (ps : List (List UInt8)) (e : List UInt64), (∀ p ∈ ps, p.length ≤ 100000000) → e.length = 16 →
    bits_Parse.l1 k ps e = some (.inl ()) ∨ ∃ f, f.length = 16 ∧ bits_Parse.l1 k ps e = some (.inr f)
  | [], e, _, he => Or.inr ⟨e, he, rfl⟩
  | p :: ps, e, h, he => by
    rcases piece_any k hk p (h p (List.mem_cons_self ..)) ps e he with h1 | ⟨f, hf, h1⟩
    · exact Or.inl h1
    · rw [h1]
      exact pieces_any k hk ps f (fun q hq => h q (List.mem_cons_of_mem _ hq)) hf
theorem piece_run (k : Nat) (hk : 1100 < k) (r : Nat × Nat) (h1 : r.1 ≤ r.2) (h2 : r.2 < 1024) (ps : List (List UInt8)) (e : List UInt64) (he : e.length = 16) :
    bits_Parse.l1 k (rtxt r :: ps) e = bits_Parse.l1 k ps (fillR e r) := by
  rw [bits_Parse.l1.eq_2]
  have d1 := dd4 (n := r.1) (by omega)
  have d2 := dd4 h2
  have hd := dd_no r.1 45 (by decide)
  by_cases h : r.2 > r.1
  · have e1 : rtxt r = decDigits r.1 ++ 45 :: decDigits r.2 := by unfold rtxt; rw [if_pos h]
    have hlen : (decDigits r.1 ++ 45 :: decDigits r.2).length = (decDigits r.1).length + ((decDigits r.2).length + 1) := by rw [List.length_append, List.length_cons]
    rw [e1, scut_at (idx_app 45 _ _ hd) (by omega) (by omega), bind_some', List.take_left, show (decDigits r.1 ++ 45 :: decDigits r.2).drop ((decDigits r.1).length + 1) = decDigits r.2 from by
      rw [List.drop_append, List.drop_of_length_le (by omega), show (decDigits r.1).length + 1 - (decDigits r.1).length = 1 from by omega]
      rfl]
    simp only [Bool.not_true, cond_false]
    rw [bind_some', pundec_f _ _ (by omega), bind_some', pundec_f _ _ (by omega), bind_some', undec_dd (by omega), undec_dd h2]
    show (bits_Parse.l2 k ((r.2 : Int), 0) k (r.1 : Int) e).bind _ = _
    rw [parse_l2 k r.2 h2 0 (r.2 + 1 - r.1) r.1 k e rfl (by omega) he (by omega)]
    rfl
  · have e1 : rtxt r = decDigits r.1 := by unfold rtxt; rw [if_neg h, List.append_nil]
    have e2 : r.2 = r.1 := by omega
    rw [e1, scut_no (idx_no 45 _ hd), bind_some']
    simp only [Bool.not_false, cond_true]
    rw [bind_some', pundec_f _ _ (by omega), bind_some', bind_some', undec_dd (by omega)]
    show (bits_Parse.l2 k ((r.1 : Int), 0) k (r.1 : Int) e).bind _ = _
    rw [parse_l2 k r.1 (by omega) 0 (r.1 + 1 - r.1) r.1 k e rfl (by omega) he (by omega)]
    unfold fillR
    rw [e2]
    rfl
theorem pieces_runs (k : Nat) (hk : 1100 < k) : ∀ (rs : List (Nat × Nat)) (e : List UInt64), (∀ r ∈ rs, r.1 ≤ r.2 ∧ r.2 < 1024) → e.length = 16 → bits_Parse.l1 k (rs.map rtxt) e = some (.inr (fillAll e rs))
  | [], e, _, he => rfl
  | r :: rs, e, h, he => by
    have h1 := h r (List.mem_cons_self ..)
    rw [List.map_cons, piece_run k hk r h1.1 h1.2 _ e he, pieces_runs k hk rs _ (fun q hq => h q (List.mem_cons_of_mem _ hq)) (by rw [fillR, fill_len, he])]
    rfl
theorem seq44 (s : List UInt8) (hs : s.length ≤ 100000000) : strings_SplitSeq.seq ([44], s, 0) = some (splitB 44 s) := by
  unfold strings_SplitSeq.seq
  rw [if_pos ⟨rfl, rfl, by show s.length ≤ _; omega⟩]
  rfl
theorem parse_can {e : List UInt64} (he : e.length = 16) {k : Nat} (hk : 1100 < k) (hs : (txt e).length ≤ 100000000) : bits_Parse.f k (txt e) = some (e, 0) := by
  unfold bits_Parse.f
  by_cases h0 : txt e = []
  · rw [h0, show (([] : List UInt8) == []) = true from rfl, cond_true, txt_nil he h0]
    rfl
  · rw [show (txt e == []) = false from by simp [h0], cond_false]
    unfold strings_SplitSeq.f strings_splitSeq.f
    rw [bind_some', bind_some', seq44 _ hs, bind_some']
    have hne : (runs e 1025 0).map rtxt ≠ [] := fun h => h0 (by unfold txt; rw [h]; rfl)
    have hsp : splitB 44 (txt e) = (runs e 1025 0).map rtxt := split_glue 44 _ hne fun p hp => by
      obtain ⟨r, _, rfl⟩ := List.mem_map.1 hp
      exact rtxt_comma r
    rw [hsp, show List.replicate 16 (0 : UInt64) = Z16 from rfl, pieces_runs k hk _ Z16 (fun r hr => (runs_lt he 1025 0 r hr).2) z16_len, bind_some', fill_runs he]
    simp only
    rw [text_f he hk, bind_some', show (!(txt e == txt e)) = false from by simp]
    rfl
theorem parse_any {s : List UInt8} (hs : s.length ≤ 100000000) {k : Nat} (hk : 1100 < k) :
    bits_Parse.f k s = some (Z16, 50) ∨ ∃ e, e.length = 16 ∧ txt e = s ∧ bits_Parse.f k s = some (e, 0) := by
  unfold bits_Parse.f
  by_cases h0 : s = []
  · rw [h0, show (([] : List UInt8) == []) = true from rfl, cond_true]
    exact Or.inr ⟨Z16, z16_len, by decide +kernel, rfl⟩
  · rw [show (s == []) = false from by simp [h0], cond_false]
    unfold strings_SplitSeq.f strings_splitSeq.f
    rw [bind_some', bind_some', seq44 _ hs, bind_some', show List.replicate 16 (0 : UInt64) = Z16 from rfl]
    rcases pieces_any k hk (splitB 44 s) Z16 (fun p hp => by have := split_len 44 s p hp; omega) z16_len with h1 | ⟨f, hf, h1⟩
    · rw [h1]
      exact Or.inl rfl
    · rw [h1, bind_some']
      simp only
      rw [text_f hf hk, bind_some']
      by_cases ht : txt f = s
      · rw [show (!(txt f == s)) = false from by simp [ht]]
        exact Or.inr ⟨f, hf, ht, rfl⟩
      · rw [show (!(txt f == s)) = true from by simp [ht]]
        exact Or.inl rfl
end Go.Proofs.YtfdocckaobmgeaaDoor.X
