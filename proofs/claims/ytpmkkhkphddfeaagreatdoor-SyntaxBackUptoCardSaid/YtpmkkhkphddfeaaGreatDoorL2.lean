/- Layer 4, plain: the program reads as the grammar says. -/
import Derived.Test.YtpmkkhkphddfeaaGreatDoorL1
import Derived.Test.YtpmkkhkphddfeaaGreatDoorXAD
set_option linter.unusedVariables false
set_option linter.unusedSimpArgs false
namespace Go.Proofs.YtpmkkhkphddfeaaGreatDoor.X
open Go Go.RowKit Go.Proofs.YtpmkkhkphddfeaaGreatDoor.SX
abbrev XE := T_syntax_broken × T_syntax_reader × T_formula_Table × MapN
abbrev XO := Int × T_syntax_reader × T_formula_Table × MapN
section sim
variable {l : List T_api_Token} {cnt : Bool} {ns : Nat}
def Out (l : List T_api_Token) (cnt : Bool) (ns : Nat) : Sum PE (Int × PS) → Exn XE XO → Prop
  | .inl e, .ex p => p.1 = ⟨e.1⟩ ∧ p.2.2.1 = ⟨e.2⟩ ∧ Tab e.2 p.2.2.2
  | .inr q, .ok r => r.1 = q.1 ∧ r.2.1 = rdOf l cnt ns q.2 ∧ r.2.2.1 = ⟨q.2.N⟩ ∧ Tab q.2.N r.2.2.2 ∧ Okp4 l q.2
  | _, _ => False
def Sim (l : List T_api_Token) (cnt : Bool) (ns : Nat) (o : Sum PE (Int × PS)) (X : Option (Exn XE XO)) : Prop := ∃ r, X = some r ∧ Out l cnt ns o r
/-- Of a loop. -/
def SimL (l : List T_api_Token) (cnt : Bool) (ns : Nat) (o : Sum PE (Int × PS)) (X : Option (Sum (Exn XE XO) XO)) : Prop := (∃ p, X = some (.inl (.ex p)) ∧ Out l cnt ns o (.ex p)) ∨ (∃ r, X = some (.inr r) ∧ Out l cnt ns o (.ok r))
theorem Out.inv_ex {e : PE} {r : Exn XE XO} (h : Out l cnt ns (.inl e) r) : ∃ p, r = .ex p ∧ p.1 = ⟨e.1⟩ ∧ p.2.2.1 = ⟨e.2⟩ ∧ Tab e.2 p.2.2.2 := by
  cases r with
  | ex p => exact ⟨p, rfl, h⟩
  | ok r => exact h.elim
theorem Out.inv_ok {q : Int × PS} {r : Exn XE XO} (h : Out l cnt ns (.inr q) r) : ∃ m, r = .ok (q.1, rdOf l cnt ns q.2, ⟨q.2.N⟩, m) ∧ Tab q.2.N m ∧ Okp4 l q.2 := by
  cases r with
  | ex p => exact h.elim
  | ok r =>
    obtain ⟨a, b, c, d⟩ := r
    obtain ⟨rfl, rfl, rfl, h4, h5⟩ := h
    exact ⟨d, rfl, h4, h5⟩
theorem th_some {x : PO} {f : Int → PS → PO} {o : Sum PE (Int × PS)} (h : th x f = some o) : (∃ e, x = some (.inl e) ∧ o = .inl e) ∨ (∃ q, x = some (.inr q) ∧ f q.1 q.2 = some o) := by
  unfold th at h
  cases x with
  | none => cases h
  | some r =>
    cases r with
    | inl e => exact .inl ⟨e, rfl, (Option.some.inj h).symm⟩
    | inr q => exact .inr ⟨q, rfl, h⟩
theorem tkn_some {s : PS} {f : PS → PO} {o : Sum PE (Int × PS)} (h : tkn cnt s f = some o) : (∃ e, tk4 cnt s = .inl e ∧ o = .inl e) ∨ (∃ q, tk4 cnt s = .inr q ∧ f q = some o) := by
  unfold tkn at h
  cases hx : tk4 cnt s with
  | inl e => rw [hx] at h; exact .inl ⟨e, rfl, (Option.some.inj h).symm⟩
  | inr q => rw [hx] at h; exact .inr ⟨q, rfl, h⟩
theorem Sim.bind {x : PO} {f : Int → PS → PO} {o : Sum PE (Int × PS)} {X : Option (Exn XE XO)} {F : Exn XE XO → Option (Exn XE XO)} {ns' : Nat} (h : ∀ o1, x = some o1 → Sim l cnt ns' o1 X) (ho : th x f = some o)
    (hex : ∀ p, F (.ex p) = some (.ex (p.1, p.2.1, p.2.2.1, p.2.2.2))) (hok : ∀ a s m, Okp4 l s → Tab s.N m → f a s = some o → Sim l cnt ns o (F (.ok (a, rdOf l cnt ns' s, ⟨s.N⟩, m)))) : Sim l cnt ns o (X.bind F) := by
  rcases th_some ho with ⟨e, h1, rfl⟩ | ⟨q, h1, h2⟩
  · obtain ⟨r, hX, hr⟩ := h _ h1
    obtain ⟨p, rfl, g1, g2, g3⟩ := hr.inv_ex
    rw [hX, bind_some', hex]
    exact ⟨_, rfl, g1, g2, g3⟩
  · obtain ⟨r, hX, hr⟩ := h _ h1
    obtain ⟨m, rfl, g1, g2⟩ := hr.inv_ok
    rw [hX, bind_some']
    exact hok _ _ _ g2 g1 h2
theorem Sim.sign (hlen : l.length ≤ 1000000000) {s : PS} {m : MapN} {x : List UInt8} {f : PS → PO} {g : PO} {o : Sum PE (Int × PS)} {G : Exn (T_syntax_broken × T_syntax_reader) (Bool × T_syntax_reader) → Option (Exn XE XO)} (hs : Okp4 l s) (hT : Tab s.N m)
    (ho : (bif signB (hd s) x then tkn cnt s f else g) = some o) (hex : ∀ e, G (.ex (e, rdOf l cnt ns s)) = some (.ex (e, rdOf l cnt ns s, ⟨s.N⟩, m))) (hno : signB (hd s) x = false → g = some o → Sim l cnt ns o (G (.ok (false, rdOf l cnt ns s))))
    (hyes : ∀ q, Okp4 l q → Tab q.N m → q.N = s.N → signB (hd s) x = true → f q = some o → Sim l cnt ns o (G (.ok (true, rdOf l cnt ns q)))) : Sim l cnt ns o ((syntax_reader_sign.f (rdOf l cnt ns s) x ⟨s.N⟩ m).bind G) := by
  cases hc : signB (hd s) x with
  | false =>
    rw [hc, cond_false] at ho
    rw [sign_no l cnt ns s hs ⟨s.N⟩ m x hc, bind_some']
    exact hno hc ho
  | true =>
    rw [hc, cond_true] at ho
    rcases sign_yes l hlen cnt ns s hs ⟨s.N⟩ m x hc with ⟨e, h1, h2, h3⟩ | ⟨q, h1, h2, h3, h4⟩
    · rcases tkn_some ho with ⟨e', g1, rfl⟩ | ⟨q', g1, _⟩
      · rw [g1] at h1
        injection h1 with h1
        subst h1
        rw [h3, bind_some', hex]
        exact ⟨_, rfl, rfl, by rw [h2], by rw [h2]; exact hT⟩
      · rw [g1] at h1; cases h1
    · rcases tkn_some ho with ⟨e', g1, _⟩ | ⟨q', g1, g2⟩
      · rw [g1] at h1; cases h1
      · rw [g1] at h1
        injection h1 with h1
        subst h1
        rw [h4, bind_some']
        exact hyes q' h2 (by rw [h3]; exact hT) h3 hc g2
theorem Sim.node {s : PS} {m : MapN} {k : Nat} {kd a b : Int} {nm : List UInt8} {o : Sum PE (Int × PS)} {G : XO → Option (Exn XE XO)} (hs : Okp4 l s) (hT : Tab s.N m) (hn : nm.length ≤ 1000000000000) (hk : nm.length < k)
    (h : ∀ m', Tab (nd s ⟨kd, nm, a, b⟩).2.N m' → Okp4 l (nd s ⟨kd, nm, a, b⟩).2 → Sim l cnt ns o (G ((nd s ⟨kd, nm, a, b⟩).1, rdOf l cnt ns (nd s ⟨kd, nm, a, b⟩).2, ⟨(nd s ⟨kd, nm, a, b⟩).2.N⟩, m'))) : Sim l cnt ns o ((syntax_reader_node.f k (rdOf l cnt ns s) kd nm a b ⟨s.N⟩ m).bind G) := by
  obtain ⟨m', h1, h2⟩ := node_f l cnt ns s k kd a b nm m hT hn hk
  rw [h1, bind_some']
  exact h m' h2 (hs.nd _)
theorem Sim.ok {q : Int × PS} {m : MapN} (hT : Tab q.2.N m) (hs : Okp4 l q.2) : Sim l cnt ns (.inr q) (some (.ok (q.1, rdOf l cnt ns q.2, ⟨q.2.N⟩, m))) := ⟨_, rfl, rfl, rfl, rfl, hT, hs⟩
/-- What the six functions and two loops come to, where the grammar has an answer with so many steps. -/
structure Sims (l : List T_api_Token) (cnt : Bool) (B n : Nat) : Prop where
  fo : ∀ ns s o, ps cnt n .fo ns s = some o → Okp4 l s → ns ≤ 1024 → ∀ k j, B + n ≤ k → 2 * n ≤ j → ∀ m, Tab s.N m → Sim l cnt ns o ((G_syntax_reader_formula.rec_ k j).syntax_reader_formula (rdOf l cnt ns s) ⟨s.N⟩ m)
  im : ∀ ns s o, ps cnt n .im ns s = some o → Okp4 l s → ns ≤ 1024 → ∀ k j, B + n ≤ k → 2 * n ≤ j → ∀ m, Tab s.N m → Sim l cnt ns o ((G_syntax_reader_formula.rec_ k j).syntax_reader_implied (rdOf l cnt ns s) ⟨s.N⟩ m)
  jo : ∀ ns s o, ps cnt n .jo ns s = some o → Okp4 l s → ns ≤ 1024 → ∀ k j, B + n ≤ k → 2 * n ≤ j → ∀ m, Tab s.N m → Sim l cnt ns o ((G_syntax_reader_formula.rec_ k j).syntax_reader_row_syntax_reader_both (rdOf l cnt ns s) [124] 4 ⟨s.N⟩ m)
  bo : ∀ ns s o, ps cnt n .bo ns s = some o → Okp4 l s → ns ≤ 1024 → ∀ k j, B + n ≤ k → 2 * n ≤ j → ∀ m, Tab s.N m → Sim l cnt ns o ((G_syntax_reader_formula.rec_ k j).syntax_reader_both (rdOf l cnt ns s) ⟨s.N⟩ m)
  si : ∀ ns s o, ps cnt n .si ns s = some o → Okp4 l s → ns ≤ 1024 → ∀ k j, B + n ≤ k → 2 * n ≤ j → ∀ m, Tab s.N m → Sim l cnt ns o ((G_syntax_reader_formula.rec_ k j).syntax_reader_single (rdOf l cnt ns s) ⟨s.N⟩ m)
  jl : ∀ a ns s o, ps cnt n (.jl a) ns s = some o → Okp4 l s → ns ≤ 1024 → ∀ k j kk, B + n ≤ k → 2 * n ≤ j → n ≤ kk → ∀ m, Tab s.N m → SimL l cnt ns o (syntax_reader_row_syntax_reader_both.l1 k [124] 4 (G_syntax_reader_formula.rec_ k j) kk a (rdOf l cnt ns s) ⟨s.N⟩ m)
  bl : ∀ a ns s o, ps cnt n (.bl a) ns s = some o → Okp4 l s → ns ≤ 1024 → ∀ k j kk, B + n ≤ k → 2 * n ≤ j → n ≤ kk → ∀ m, Tab s.N m → SimL l cnt ns o (syntax_reader_row_syntax_reader_single.l1 k [38] 3 (G_syntax_reader_formula.rec_ k j) kk a (rdOf l cnt ns s) ⟨s.N⟩ m)
variable {B n : Nat}
theorem sim_im (hlen : l.length ≤ 1000000000) (ih : Sims l cnt B n) : ∀ ns s o, ps cnt (n + 1) .im ns s = some o → Okp4 l s → ns ≤ 1024 → ∀ k j, B + (n + 1) ≤ k → 2 * (n + 1) ≤ j → ∀ m, Tab s.N m → Sim l cnt ns o ((G_syntax_reader_formula.rec_ k j).syntax_reader_implied (rdOf l cnt ns s) ⟨s.N⟩ m) := by
  intro ns s o ho hs hns k j hk hj m hT
  obtain ⟨j, rfl⟩ : ∃ q, j = q + 1 := ⟨j - 1, by omega⟩
  show Sim l cnt ns o (syntax_reader_implied.F k (G_syntax_reader_formula.rec_ k j) (rdOf l cnt ns s) ⟨s.N⟩ m)
  unfold ps at ho
  unfold syntax_reader_implied.F
  refine Sim.bind (fun o1 h1 => ih.jo ns s o1 h1 hs hns k j (by omega) (by omega) m hT) ho (fun p => rfl) fun a s1 m1 hs1 hT1 h1 => ?_
  refine Sim.sign hlen hs1 hT1 h1 (fun e => rfl) (fun _ h => ?_) fun q hq hTq hqN _ h => ?_
  · rw [← Option.some.inj h]; exact Sim.ok (q := (a, s1)) hT1 hs1
  · show Sim l cnt ns o (((G_syntax_reader_formula.rec_ k j).syntax_reader_implied (rdOf l cnt ns q) ⟨s1.N⟩ m1).bind _)
    rw [← hqN]
    refine Sim.bind (fun o2 h2 => ih.im ns q o2 h2 hq hns k j (by omega) (by omega) m1 hTq) h (fun p => rfl) fun b s2 m2 hs2 hT2 h2 => ?_
    refine Sim.node hs2 hT2 (by decide) (show 0 < k from by omega) fun m3 hT3 hs3 => ?_
    rw [← Option.some.inj h2]
    exact Sim.ok (q := impN s2 a b) hT3 hs3
theorem sim_fo (hlen : l.length ≤ 1000000000) (ih : Sims l cnt B n) : ∀ ns s o, ps cnt (n + 1) .fo ns s = some o → Okp4 l s → ns ≤ 1024 → ∀ k j, B + (n + 1) ≤ k → 2 * (n + 1) ≤ j → ∀ m, Tab s.N m → Sim l cnt ns o ((G_syntax_reader_formula.rec_ k j).syntax_reader_formula (rdOf l cnt ns s) ⟨s.N⟩ m) := by
  intro ns s o ho hs hns k j hk hj m hT
  obtain ⟨j, rfl⟩ : ∃ q, j = q + 1 := ⟨j - 1, by omega⟩
  show Sim l cnt ns o (syntax_reader_formula.F k (G_syntax_reader_formula.rec_ k j) (rdOf l cnt ns s) ⟨s.N⟩ m)
  unfold ps at ho
  unfold syntax_reader_formula.F
  refine Sim.bind (fun o1 h1 => ih.im ns s o1 h1 hs hns k j (by omega) (by omega) m hT) ho (fun p => rfl) fun a s1 m1 hs1 hT1 h1 => ?_
  refine Sim.sign hlen hs1 hT1 h1 (fun e => rfl) (fun _ h => ?_) fun q hq hTq hqN _ h => ?_
  · rw [← Option.some.inj h]; exact Sim.ok (q := (a, s1)) hT1 hs1
  · show Sim l cnt ns o (((G_syntax_reader_formula.rec_ k j).syntax_reader_formula (rdOf l cnt ns q) ⟨s1.N⟩ m1).bind _)
    rw [← hqN]
    refine Sim.bind (fun o2 h2 => ih.fo ns q o2 h2 hq hns k j (by omega) (by omega) m1 hTq) h (fun p => rfl) fun b s2 m2 hs2 hT2 h2 => ?_
    refine Sim.node hs2 hT2 (by decide) (show 0 < k from by omega) fun m3 hT3 hs3 => ?_
    refine Sim.node hs3 hT3 (by decide) (show 0 < k from by omega) fun m4 hT4 hs4 => ?_
    refine Sim.node hs4 hT4 (by decide) (show 0 < k from by omega) fun m5 hT5 hs5 => ?_
    rw [← Option.some.inj h2]
    exact Sim.ok (q := iffN s2 a b) hT5 hs5
theorem SimL.done {X : Option (Sum (Exn XE XO) XO)} {o : Sum PE (Int × PS)} {F : Sum (Exn XE XO) XO → Option (Exn XE XO)} (h : SimL l cnt ns o X) (hl : ∀ r, F (.inl r) = some r) (hr : ∀ r, F (.inr r) = some (.ok (r.1, r.2.1, r.2.2.1, r.2.2.2))) : Sim l cnt ns o (X.bind F) := by
  rcases h with ⟨p, rfl, h⟩ | ⟨r, rfl, h⟩
  · rw [bind_some', hl]; exact ⟨_, rfl, h⟩
  · rw [bind_some', hr]; exact ⟨_, rfl, h⟩
theorem sim_jo (ih : Sims l cnt B n) : ∀ ns s o, ps cnt (n + 1) .jo ns s = some o → Okp4 l s → ns ≤ 1024 → ∀ k j, B + (n + 1) ≤ k → 2 * (n + 1) ≤ j → ∀ m, Tab s.N m → Sim l cnt ns o ((G_syntax_reader_formula.rec_ k j).syntax_reader_row_syntax_reader_both (rdOf l cnt ns s) [124] 4 ⟨s.N⟩ m) := by
  intro ns s o ho hs hns k j hk hj m hT
  obtain ⟨j, rfl⟩ : ∃ q, j = q + 1 := ⟨j - 1, by omega⟩
  show Sim l cnt ns o (syntax_reader_row_syntax_reader_both.F k (G_syntax_reader_formula.rec_ k j) (rdOf l cnt ns s) [124] 4 ⟨s.N⟩ m)
  unfold ps at ho
  unfold syntax_reader_row_syntax_reader_both.F
  refine Sim.bind (fun o1 h1 => ih.bo ns s o1 h1 hs hns k j (by omega) (by omega) m hT) ho (fun p => rfl) fun a s1 m1 hs1 hT1 h1 => ?_
  exact SimL.done (ih.jl a ns s1 o h1 hs1 hns k j k (by omega) (by omega) (by omega) m1 hT1) (fun r => rfl) (fun r => rfl)
theorem sim_bo (ih : Sims l cnt B n) : ∀ ns s o, ps cnt (n + 1) .bo ns s = some o → Okp4 l s → ns ≤ 1024 → ∀ k j, B + (n + 1) ≤ k → 2 * (n + 1) ≤ j → ∀ m, Tab s.N m → Sim l cnt ns o ((G_syntax_reader_formula.rec_ k j).syntax_reader_both (rdOf l cnt ns s) ⟨s.N⟩ m) := by
  intro ns s o ho hs hns k j hk hj m hT
  obtain ⟨j, rfl⟩ : ∃ q, j = q + 2 := ⟨j - 2, by omega⟩
  show Sim l cnt ns o (syntax_reader_both.F k (G_syntax_reader_formula.rec_ k (j + 1)) (rdOf l cnt ns s) ⟨s.N⟩ m)
  unfold ps at ho
  unfold syntax_reader_both.F
  have key : Sim l cnt ns o (syntax_reader_row_syntax_reader_single.F k (G_syntax_reader_formula.rec_ k j) (rdOf l cnt ns s) [38] 3 ⟨s.N⟩ m) := by
    unfold syntax_reader_row_syntax_reader_single.F
    refine Sim.bind (fun o1 h1 => ih.si ns s o1 h1 hs hns k j (by omega) (by omega) m hT) ho (fun p => rfl) fun a s1 m1 hs1 hT1 h1 => ?_
    exact SimL.done (ih.bl a ns s1 o h1 hs1 hns k j k (by omega) (by omega) (by omega) m1 hT1) (fun r => rfl) (fun r => rfl)
  obtain ⟨r, h1, h2⟩ := key
  show Sim l cnt ns o ((syntax_reader_row_syntax_reader_single.F k (G_syntax_reader_formula.rec_ k j) (rdOf l cnt ns s) [38] 3 ⟨s.N⟩ m).bind _)
  rw [h1, bind_some']
  cases r with
  | ex p => exact ⟨_, rfl, h2⟩
  | ok r => exact ⟨_, rfl, h2⟩
theorem sim_bl (hlen : l.length ≤ 1000000000) (ih : Sims l cnt B n) : ∀ a ns s o, ps cnt (n + 1) (.bl a) ns s = some o → Okp4 l s → ns ≤ 1024 → ∀ k j kk, B + (n + 1) ≤ k → 2 * (n + 1) ≤ j → n + 1 ≤ kk → ∀ m, Tab s.N m → SimL l cnt ns o (syntax_reader_row_syntax_reader_single.l1 k [38] 3 (G_syntax_reader_formula.rec_ k j) kk a (rdOf l cnt ns s) ⟨s.N⟩ m) := by
  intro a ns s o ho hs hns k j kk hk hj hkk m hT
  obtain ⟨kk, rfl⟩ : ∃ q, kk = q + 1 := ⟨kk - 1, by omega⟩
  rw [syntax_reader_row_syntax_reader_single.l1.eq_2]
  unfold ps at ho
  cases hc : signB (hd s) [38] with
  | false =>
    rw [hc, cond_false] at ho
    rw [sign_no l cnt ns s hs ⟨s.N⟩ m _ hc, ← Option.some.inj ho]
    exact .inr ⟨_, rfl, rfl, rfl, rfl, hT, hs⟩
  | true =>
    rw [hc, cond_true] at ho
    rcases sign_yes l hlen cnt ns s hs ⟨s.N⟩ m _ hc with ⟨e, h1, h2, h3⟩ | ⟨q, h1, h2, h3, h4⟩
    · rcases tkn_some ho with ⟨e', g1, rfl⟩ | ⟨q', g1, _⟩
      · rw [g1] at h1
        injection h1 with h1
        subst h1
        rw [h3]
        exact .inl ⟨_, rfl, rfl, by rw [h2], by rw [h2]; exact hT⟩
      · rw [g1] at h1; cases h1
    · rcases tkn_some ho with ⟨e', g1, _⟩ | ⟨q', g1, g2⟩
      · rw [g1] at h1; cases h1
      · rw [g1] at h1
        injection h1 with h1
        subst h1
        rw [h4, bind_some']
        show SimL l cnt ns o (((G_syntax_reader_formula.rec_ k j).syntax_reader_single (rdOf l cnt ns q') ⟨s.N⟩ m).bind _)
        rw [← h3] at hT ⊢
        rcases th_some g2 with ⟨e, f1, rfl⟩ | ⟨b, f1, f2⟩
        · obtain ⟨r, hX, hr⟩ := ih.si ns q' _ f1 h2 hns k j (by omega) (by omega) m hT
          obtain ⟨p, rfl, g1, g2, g3⟩ := hr.inv_ex
          rw [hX]
          exact .inl ⟨_, rfl, g1, g2, g3⟩
        · obtain ⟨r, hX, hr⟩ := ih.si ns q' _ f1 h2 hns k j (by omega) (by omega) m hT
          obtain ⟨m2, rfl, hT2, hs2⟩ := hr.inv_ok
          rw [hX, bind_some']
          obtain ⟨m3, e1, e2⟩ := node_f l cnt ns b.2 k 3 a b.1 [] m2 hT2 (by decide) (show 0 < k from by omega)
          show SimL l cnt ns o ((syntax_reader_node.f k (rdOf l cnt ns b.2) 3 [] a b.1 ⟨b.2.N⟩ m2).bind _)
          rw [e1, bind_some']
          exact ih.bl _ ns _ o f2 (hs2.nd _) hns k j kk (by omega) (by omega) (by omega) m3 e2
theorem sim_jl (hlen : l.length ≤ 1000000000) (ih : Sims l cnt B n) : ∀ a ns s o, ps cnt (n + 1) (.jl a) ns s = some o → Okp4 l s → ns ≤ 1024 → ∀ k j kk, B + (n + 1) ≤ k → 2 * (n + 1) ≤ j → n + 1 ≤ kk → ∀ m, Tab s.N m → SimL l cnt ns o (syntax_reader_row_syntax_reader_both.l1 k [124] 4 (G_syntax_reader_formula.rec_ k j) kk a (rdOf l cnt ns s) ⟨s.N⟩ m) := by
  intro a ns s o ho hs hns k j kk hk hj hkk m hT
  obtain ⟨kk, rfl⟩ : ∃ q, kk = q + 1 := ⟨kk - 1, by omega⟩
  rw [syntax_reader_row_syntax_reader_both.l1.eq_2]
  unfold ps at ho
  cases hc : signB (hd s) [124] with
  | false =>
    rw [hc, cond_false] at ho
    rw [sign_no l cnt ns s hs ⟨s.N⟩ m _ hc, ← Option.some.inj ho]
    exact .inr ⟨_, rfl, rfl, rfl, rfl, hT, hs⟩
  | true =>
    rw [hc, cond_true] at ho
    rcases sign_yes l hlen cnt ns s hs ⟨s.N⟩ m _ hc with ⟨e, h1, h2, h3⟩ | ⟨q, h1, h2, h3, h4⟩
    · rcases tkn_some ho with ⟨e', g1, rfl⟩ | ⟨q', g1, _⟩
      · rw [g1] at h1
        injection h1 with h1
        subst h1
        rw [h3]
        exact .inl ⟨_, rfl, rfl, by rw [h2], by rw [h2]; exact hT⟩
      · rw [g1] at h1; cases h1
    · rcases tkn_some ho with ⟨e', g1, _⟩ | ⟨q', g1, g2⟩
      · rw [g1] at h1; cases h1
      · rw [g1] at h1
        injection h1 with h1
        subst h1
        rw [h4, bind_some']
        show SimL l cnt ns o (((G_syntax_reader_formula.rec_ k j).syntax_reader_both (rdOf l cnt ns q') ⟨s.N⟩ m).bind _)
        rw [← h3] at hT ⊢
        rcases th_some g2 with ⟨e, f1, rfl⟩ | ⟨b, f1, f2⟩
        · obtain ⟨r, hX, hr⟩ := ih.bo ns q' _ f1 h2 hns k j (by omega) (by omega) m hT
          obtain ⟨p, rfl, g1, g2, g3⟩ := hr.inv_ex
          rw [hX]
          exact .inl ⟨_, rfl, g1, g2, g3⟩
        · obtain ⟨r, hX, hr⟩ := ih.bo ns q' _ f1 h2 hns k j (by omega) (by omega) m hT
          obtain ⟨m2, rfl, hT2, hs2⟩ := hr.inv_ok
          rw [hX, bind_some']
          obtain ⟨m3, e1, e2⟩ := node_f l cnt ns b.2 k 4 a b.1 [] m2 hT2 (by decide) (show 0 < k from by omega)
          show SimL l cnt ns o ((syntax_reader_node.f k (rdOf l cnt ns b.2) 4 [] a b.1 ⟨b.2.N⟩ m2).bind _)
          rw [e1, bind_some']
          exact ih.jl _ ns _ o f2 (hs2.nd _) hns k j kk (by omega) (by omega) (by omega) m3 e2
end sim
end Go.Proofs.YtpmkkhkphddfeaaGreatDoor.X
set_option linter.unusedVariables false
set_option linter.unusedSimpArgs false
namespace Go.Proofs.YtpmkkhkphddfeaaGreatDoor.X
open Go Go.RowKit Go.Proofs.YtpmkkhkphddfeaaGreatDoor.SX
theorem bif_and (a b : Bool) : ((bif a then some b else some false) : Option Bool) = some (a && b) := by cases a <;> rfl
section sim
variable {l : List T_api_Token} {cnt : Bool} {ns : Nat} {B n : Nat}
theorem Sim.take (hlen : l.length ≤ 1000000000) {s : PS} {m : MapN} {f : PS → PO} {o : Sum PE (Int × PS)} {G : Exn (T_syntax_broken × T_syntax_reader) (T_api_Token × T_syntax_reader) → Option (Exn XE XO)} (hs : Okp4 l s) (hT : Tab s.N m) (hne : s.ts ≠ [])
    (ho : tkn cnt s f = some o) (hex : ∀ e, G (.ex (e, rdOf l cnt ns s)) = some (.ex (e, rdOf l cnt ns s, ⟨s.N⟩, m)))
    (hok : ∀ q, Okp4 l q → Tab q.N m → q.N = s.N → f q = some o → Sim l cnt ns o (G (.ok (hd s, rdOf l cnt ns q)))) : Sim l cnt ns o ((syntax_reader_take.f (rdOf l cnt ns s) ⟨s.N⟩ m).bind G) := by
  rcases take_f l hlen cnt ns s hs hne ⟨s.N⟩ m with ⟨e, h1, h2, h3⟩ | ⟨q, h1, h2, h3, h4⟩
  · rcases tkn_some ho with ⟨e', g1, rfl⟩ | ⟨q', g1, _⟩
    · rw [g1] at h1
      injection h1 with h1
      subst h1
      rw [h3, bind_some', hex]
      exact ⟨_, rfl, rfl, by rw [h2], by rw [h2]; exact hT⟩
    · rw [g1] at h1; cases h1
  · rcases tkn_some ho with ⟨e', g1, _⟩ | ⟨q', g1, g2⟩
    · rw [g1] at h1; cases h1
    · rw [g1] at h1
      injection h1 with h1
      subst h1
      rw [h4, bind_some']
      exact hok q' h2 (by rw [h3]; exact hT) h3 g2
theorem hd_mem {l : List T_api_Token} {s : PS} (h : Okp4 l s) (hne : s.ts ≠ []) : hd s ∈ l := by
  unfold hd
  cases ht : s.ts with
  | nil => exact absurd ht hne
  | cons a t => exact h.suf.subset (by rw [ht]; exact List.mem_cons_self ..)
theorem sign_uncounted {t : T_api_Token} (h : signB t [40] = true ∨ signB t [41] = true) : ctB t = false := by
  unfold signB at h
  simp only [Bool.and_eq_true, beq_iff_eq] at h
  unfold ctB
  rcases h with ⟨h1, h2⟩ | ⟨h1, h2⟩ <;> rw [h1, h2] <;> rfl
theorem take_adv (hlen : l.length ≤ 1000000000) {s : PS} (hs : Okp4 l s) (hne : s.ts ≠ []) (hc : ctB (hd s) = false) (T : T_formula_Table) (m : MapN) : Okp4 l (adv s) ∧ syntax_reader_take.f (rdOf l cnt ns s) T m = some (.ok (hd s, rdOf l cnt ns (adv s))) := by
  have e : tk4 cnt s = .inr (adv s) := by unfold tk4; rw [hc]; rfl
  rcases take_f l hlen cnt ns s hs hne T m with ⟨e', h1, _⟩ | ⟨q, h1, h2, h3, h4⟩
  · rw [e] at h1; cases h1
  · rw [e] at h1
    injection h1 with h1
    subst h1
    exact ⟨h2, h4⟩
theorem sim_si (hlen : l.length ≤ 1000000000) (hB : ∀ t ∈ l, t.f_Text.length ≤ 1000000000 ∧ t.f_Text.length < B) (ih : Sims l cnt B n) : ∀ ns s o, ps cnt (n + 1) .si ns s = some o → Okp4 l s → ns ≤ 1024 → ∀ k j, B + (n + 1) ≤ k → 2 * (n + 1) ≤ j → ∀ m, Tab s.N m → Sim l cnt ns o ((G_syntax_reader_formula.rec_ k j).syntax_reader_single (rdOf l cnt ns s) ⟨s.N⟩ m) := by
  intro ns s o ho hs hns k j hk hj m hT
  obtain ⟨j, rfl⟩ : ∃ q, j = q + 1 := ⟨j - 1, by omega⟩
  show Sim l cnt ns o (syntax_reader_single.F k (G_syntax_reader_formula.rec_ k j) (rdOf l cnt ns s) ⟨s.N⟩ m)
  unfold ps at ho
  unfold syntax_reader_single.F
  rw [now_f l cnt ns s hs, bind_some']
  refine Sim.sign hlen hs hT ho (fun e => rfl) (fun hn1 h => ?_) fun q hq hTq hqN _ h => ?_
  · -- no '~'
    clear ho
    simp only [bif_and]
    cases h2 : signB (hd s) [40] with
    | true =>
      have hne := sign_ne h2
      rw [h2, cond_true] at h
      have e : ((hd s).f_Kind == 3 && (hd s).f_Text == ([40] : List UInt8)) = true := h2
      rw [e]
      have hz : ((rdOf l cnt ns s).f_nest == 1024) = decide (1024 ≤ ns) := by
        show (((ns : Nat) : Int) == 1024) = _
        rw [Bool.eq_iff_iff, beq_iff_eq, decide_eq_true_eq]; omega
      simp only [bind_some', cond_true, cond_false]
      rw [hz]
      by_cases h10 : 1024 ≤ ns
      · rw [decide_eq_true h10, cond_true] at h
        rw [decide_eq_true h10, cond_true, fail_f l cnt ns s hs, ← Option.some.inj h]
        exact ⟨_, rfl, rfl, rfl, hT⟩
      · rw [decide_eq_false h10, cond_false] at h
        rw [decide_eq_false h10, cond_false, bind_some']
        have hw : wrap64 (((ns : Nat) : Int) + 1) = ((ns + 1 : Nat) : Int) := wsucc ns (by omega)
        obtain ⟨ha, htk⟩ := take_adv (cnt := cnt) (ns := ns + 1) hlen hs hne (sign_uncounted (.inl h2)) ⟨s.N⟩ m
        have htk' : syntax_reader_take.f (⟨(rdOf l cnt ns s).f_l, (rdOf l cnt ns s).f_i, (rdOf l cnt ns s).f_names, wrap64 ((rdOf l cnt ns s).f_nest + 1), (rdOf l cnt ns s).f_counts, (rdOf l cnt ns s).f_full⟩ : T_syntax_reader) ⟨s.N⟩ m = some (.ok (hd s, rdOf l cnt (ns + 1) (adv s))) := by
          rw [← htk]
          show syntax_reader_take.f (⟨l, _, _, wrap64 (((ns : Nat) : Int) + 1), cnt, s.full⟩ : T_syntax_reader) ⟨s.N⟩ m = _
          rw [hw]
          rfl
        rw [htk', bind_some']
        refine Sim.bind (ns' := ns + 1) (fun o1 h1 => ih.fo (ns + 1) (adv s) o1 h1 ha (by omega) k j (by omega) (by omega) m hT) h (fun p => rfl) fun a s1 m1 hs1 hT1 h1 => ?_
        simp only
        cases h3 : signB (hd s1) [41] with
        | true =>
          rw [h3, cond_true] at h1
          have hne1 := sign_ne h3
          rcases sign_yes l hlen cnt (ns + 1) s1 hs1 ⟨s1.N⟩ m1 _ h3 with ⟨e, g1, _⟩ | ⟨q, g1, g2, g3, g4⟩
          · have e' : tk4 cnt s1 = .inr (adv s1) := by unfold tk4; rw [sign_uncounted (.inr h3)]; rfl
            rw [e'] at g1; cases g1
          · have e' : tk4 cnt s1 = .inr (adv s1) := by unfold tk4; rw [sign_uncounted (.inr h3)]; rfl
            rw [e'] at g1
            injection g1 with g1
            subst g1
            rw [g4, ← Option.some.inj h1]
            have hw2 : wrap64 (((ns + 1 : Nat) : Int) - 1) = ((ns : Nat) : Int) := by rw [w64 (by omega) (by omega)]; omega
            refine ⟨_, rfl, rfl, ?_, rfl, hT1, g2⟩
            show (⟨l, _, _, wrap64 (((ns + 1 : Nat) : Int) - 1), cnt, s1.full⟩ : T_syntax_reader) = _
            rw [hw2]
            rfl
        | false =>
          rw [h3, cond_false] at h1
          rw [sign_no l cnt (ns + 1) s1 hs1 ⟨s1.N⟩ m1 _ h3, ← Option.some.inj h1, bind_some']
          show Sim l cnt ns _ (((((syntax_reader_fail.f (rdOf l cnt (ns + 1) s1) 41 ⟨s1.N⟩ m1).bind _)).bind _))
          rw [fail_f l cnt (ns + 1) s1 hs1]
          exact ⟨_, rfl, rfl, rfl, hT1⟩
    | false =>
      rw [h2, cond_false] at h
      have e : ((hd s).f_Kind == 3 && (hd s).f_Text == ([40] : List UInt8)) = false := h2
      rw [e]
      simp only [bind_some', cond_false]
      cases h3 : (hd s).f_Kind == 1 && (hd s).f_Text == [116, 114, 117, 101] with
      | true =>
        rw [h3, cond_true] at h
        rw [cond_true]
        refine Sim.take hlen hs hT (name_ne h3) h (fun e => rfl) fun q hq hTq hqN h => ?_
        show Sim l cnt ns o ((syntax_reader_node.f k (rdOf l cnt ns q) 2 [] 0 0 ⟨s.N⟩ m).bind _)
        rw [← hqN]
        refine Sim.node hq hTq (by decide) (show 0 < k from by omega) fun m3 hT3 hs3 => ?_
        refine Sim.node hs3 hT3 (by decide) (show 0 < k from by omega) fun m4 hT4 hs4 => ?_
        rw [← Option.some.inj h]
        exact Sim.ok (q := topN q) hT4 hs4
      | false =>
      rw [h3, cond_false] at h
      rw [cond_false]
      cases h4 : (hd s).f_Kind == 1 && (hd s).f_Text == [102, 97, 108, 115, 101] with
      | true =>
        rw [h4, cond_true] at h
        rw [cond_true]
        refine Sim.take hlen hs hT (name_ne h4) h (fun e => rfl) fun q hq hTq hqN h => ?_
        show Sim l cnt ns o ((syntax_reader_node.f k (rdOf l cnt ns q) 2 [] 0 0 ⟨s.N⟩ m).bind _)
        rw [← hqN]
        refine Sim.node hq hTq (by decide) (show 0 < k from by omega) fun m3 hT3 hs3 => ?_
        rw [← Option.some.inj h]
        exact Sim.ok (q := botN q) hT3 hs3
      | false =>
      rw [h4, cond_false] at h
      rw [cond_false]
      have ew : ((bif ((hd s).f_Kind == 1) then (formula_Word.f k (hd s).f_Text).bind fun z420 => some z420 else some false) : Option Bool) = some ((hd s).f_Kind == 1 && wordB (hd s).f_Text) := by
        cases hk1 : (hd s).f_Kind == 1 with
        | false => rfl
        | true =>
          have hm := hB _ (hd_mem hs (hd_ne (by rw [beq_iff_eq] at hk1; rw [hk1]; decide)))
          rw [word_f' k _ (by omega) (by omega)]
          rfl
      rw [ew, bind_some']
      cases h5 : (hd s).f_Kind == 1 && wordB (hd s).f_Text with
      | true =>
        have hm := hB _ (hd_mem hs (name_ne h5))
        rw [h5, cond_true] at h
        rw [cond_true]
        refine Sim.take hlen hs hT (name_ne h5) h (fun e => rfl) fun q hq hTq hqN h => ?_
        show Sim l cnt ns o ((syntax_reader_node.f k (rdOf l cnt ns q) 1 (hd s).f_Text 0 0 ⟨s.N⟩ m).bind _)
        rw [← hqN]
        refine Sim.node hq hTq (by omega) (by omega) fun m3 hT3 hs3 => ?_
        rw [← Option.some.inj h]
        exact Sim.ok (q := nd q ⟨1, (hd s).f_Text, 0, 0⟩) hT3 hs3
      | false =>
        rw [h5, cond_false] at h
        rw [cond_false, fail_f l cnt ns s hs, ← Option.some.inj h]
        exact ⟨_, rfl, rfl, rfl, hT⟩
  · show Sim l cnt ns o (((G_syntax_reader_formula.rec_ k j).syntax_reader_single (rdOf l cnt ns q) ⟨s.N⟩ m).bind _)
    rw [← hqN]
    refine Sim.bind (fun o2 h2 => ih.si ns q o2 h2 hq hns k j (by omega) (by omega) m hTq) h (fun p => rfl) fun a s2 m2 hs2 hT2 h2 => ?_
    refine Sim.node hs2 hT2 (by decide) (show 0 < k from by omega) fun m3 hT3 hs3 => ?_
    refine Sim.node hs3 hT3 (by decide) (show 0 < k from by omega) fun m4 hT4 hs4 => ?_
    rw [← Option.some.inj h2]
    exact Sim.ok (q := notN s2 a) hT4 hs4
theorem sims (hlen : l.length ≤ 1000000000) (hB : ∀ t ∈ l, t.f_Text.length ≤ 1000000000 ∧ t.f_Text.length < B) : ∀ n, Sims l cnt B n
  | 0 => ⟨fun _ _ _ h => (by cases h), fun _ _ _ h => (by cases h), fun _ _ _ h => (by cases h), fun _ _ _ h => (by cases h), fun _ _ _ h => (by cases h), fun _ _ _ _ h => (by cases h), fun _ _ _ _ h => (by cases h)⟩
  | n + 1 => ⟨sim_fo hlen (sims hlen hB n), sim_im hlen (sims hlen hB n), sim_jo (sims hlen hB n), sim_bo (sims hlen hB n), sim_si hlen hB (sims hlen hB n), sim_jl hlen (sims hlen hB n), sim_bl hlen (sims hlen hB n)⟩
end sim
end Go.Proofs.YtpmkkhkphddfeaaGreatDoor.X
set_option linter.unusedVariables false
set_option linter.unusedSimpArgs false
namespace Go.Proofs.YtpmkkhkphddfeaaGreatDoor.X
open Go Go.RowKit Go.Proofs.YtpmkkhkphddfeaaGreatDoor.SX
def endT (q : T_api_Spot) : T_api_Token := ⟨0, [], 0, q⟩
theorem spec_text : ∀ e ∈ SPECS, e.2.2.length ≤ 5 := by decide
theorem sign_text : ∀ x ∈ SIGNS, x.length ≤ 5 := by decide
theorem word_text {l : List UInt8} {t : T_api_Token} {n : Nat} (h : wordP l = .inl (t, n)) : t.f_Text.length ≤ 31 := by
  unfold wordP at h
  cases h1 : letB (l.getD 0 0) with
  | true =>
    rw [h1, cond_true] at h
    split at h
    · cases h
    · rename_i h31
      injection h with h
      injection h with h h'
      rw [← h]
      show (l.take (runN tailB l)).length ≤ 31
      rw [List.length_take]
      omega
  | false =>
  rw [h1, cond_false] at h
  cases h2 : digB (l.getD 0 0) with
  | true =>
    rw [h2, cond_true] at h
    cases hn : numBad l with
    | true => rw [hn] at h; cases h
    | false =>
      rw [hn, cond_false] at h
      injection h with h
      injection h with h h'
      rw [← h]
      exact Nat.zero_le _
  | false =>
  rw [h2, cond_false] at h
  cases h3 : specOf l with
  | some e =>
    rw [h3] at h
    injection h with h
    injection h with h h'
    rw [← h]
    have := spec_text e (spec_mem h3).1
    show e.2.2.length ≤ 31
    omega
  | none =>
  rw [h3] at h
  cases h4 : signOf l with
  | some x =>
    rw [h4] at h
    injection h with h
    injection h with h h'
    rw [← h]
    have := sign_text x (signOf_mem h4).1
    show x.length ≤ 31
    omega
  | none => rw [h4] at h; cases h
/-- A scan comes to tokens and an end, or to a fault. -/
theorem scan_form (s : List UInt8) : ∀ (d i : Nat) (p : Int × Int) (acc : List T_api_Token), s.length - i < d → i ≤ s.length →
    (∃ ts q, scanP s d i p acc = (acc ++ (ts ++ [endT q]), F0) ∧ (∀ t ∈ ts, t.f_Kind ≠ 0 ∧ t.f_Text.length ≤ 31) ∧ ts.length ≤ s.length - i) ∨ (∃ c q, scanP s d i p acc = ([], ⟨c, q⟩) ∧ c ≠ 0) := by
  intro d
  induction d with
  | zero => intro i p acc h; omega
  | succ d ih =>
    intro i p acc h1 h2
    obtain ⟨g1, g2⟩ := S_ge s i h2
    rw [scanP.eq_2]
    by_cases he : s.length ≤ S s i
    · rw [if_pos he]
      exact .inl ⟨[], _, rfl, fun t h => (by cases h), Nat.zero_le _⟩
    · rw [if_neg he]
      cases hw : wordP (s.drop (S s i)) with
      | inr e =>
        have := wordP_err hw
        exact .inr ⟨e, _, rfl, by omega⟩
      | inl tn =>
        obtain ⟨t, n⟩ := tn
        obtain ⟨n1, n2, n3, n4, n5⟩ := wordP_ok (by omega) hw
        simp only
        rcases ih (S s i + n) (W s (S s i + n) (S s i) (W s (S s i) i p).2).2 (acc ++ [put t (spotOf (W s (S s i) i p).2 (S s i))]) (by omega) n2 with ⟨ts, q, e1, e2, e3⟩ | ⟨c, q, e1, e2⟩
        · refine .inl ⟨put t (spotOf (W s (S s i) i p).2 (S s i)) :: ts, q, ?_, fun x hx => ?_, by rw [List.length_cons]; omega⟩
          · rw [e1, List.append_assoc]; rfl
          · rcases List.mem_cons.1 hx with rfl | hx
            · refine ⟨?_, show t.f_Text.length ≤ 31 from word_text hw⟩
              show t.f_Kind ≠ 0
              rcases n4 with h | h | h <;> rw [h] <;> decide
            · exact e2 x hx
        · exact .inr ⟨c, q, e1, e2⟩
theorem scanS_form (s : List UInt8) : (∃ ts q, scanS s = (ts ++ [endT q], F0) ∧ (∀ t ∈ ts, t.f_Kind ≠ 0 ∧ t.f_Text.length ≤ 31) ∧ ts.length ≤ s.length) ∨ (∃ c q, scanS s = ([], ⟨c, q⟩) ∧ c ≠ 0) := by
  exact scan_form s (s.length + 1) 0 (1, 1) [] (by omega) (Nat.zero_le _)
/-- Where a fault is, the text ahead of it is scanned without one. -/
theorem scanS_ahead {s : List UInt8} {c : Int} {q : T_api_Spot} (h : scanS s = ([], ⟨c, q⟩)) (hc : c ≠ 0) : ∃ m : Nat, m ≤ s.length ∧ q.f_Off = (m : Int) ∧ ∃ ts q', scanS (s.take m) = (ts ++ [endT q'], F0) ∧ (∀ t ∈ ts, t.f_Kind ≠ 0 ∧ t.f_Text.length ≤ 31) ∧ ts.length ≤ s.length := by
  obtain ⟨m, m1, m2, m3, m4, m5⟩ := scan_first (s := s) (s.length + 1) 0 (1, 1) [] [] c q (by omega) (Nat.zero_le _) (al_refl s 0) (by rw [W_ge (Nat.le_refl 0)]) h hc
  have hl : (s.take m).length = m := by rw [List.length_take]; omega
  have h5 := m5 ((s.take m).length + 1) (1, 1) (by rw [hl]; omega)
  refine ⟨m, m2, by rw [m4]; rfl, ?_⟩
  rcases scanS_form (s.take m) with ⟨ts, q', e1, e2, e3⟩ | ⟨c', q', e1, e2⟩
  · exact ⟨ts, q', e1, e2, by omega⟩
  · have : scanS (s.take m) = scanP (s.take m) ((s.take m).length + 1) 0 (1, 1) [] := rfl
    rw [← this, e1] at h5
    exact absurd (congrArg T_api_Fault.f_Code h5) e2
def frontT (s : List UInt8) : List T_api_Token := (scanS (s.take (scanS s).2.f_At.f_Off.toNat)).1.dropLast
def ahP (s : List UInt8) : List T_api_Token × T_api_Fault := bif (scanS s).2.f_Code == 0 then scanS s else (frontT s ++ [endT (scanS s).2.f_At], (scanS s).2)
/-- What stands ahead: tokens and an end. -/
theorem ahP_form (s : List UInt8) : ∃ ts q, (ahP s).1 = ts ++ [endT q] ∧ (∀ t ∈ ts, t.f_Kind ≠ 0 ∧ t.f_Text.length ≤ 31) ∧ ts.length ≤ s.length ∧ (((ahP s).2.f_Code == 0) = true → (ahP s).2 = F0) := by
  unfold ahP
  rcases scanS_form s with ⟨ts, q, e1, e2, e3⟩ | ⟨c, q, e1, e2⟩
  · rw [e1]
    exact ⟨ts, q, rfl, e2, e3, fun _ => rfl⟩
  · obtain ⟨m, m1, m2, ts, q', f1, f2, f3⟩ := scanS_ahead e1 e2
    unfold frontT
    rw [e1]
    have : ((⟨c, q⟩ : T_api_Fault).f_Code == 0) = false := by rw [← Bool.not_eq_true, beq_iff_eq]; exact e2
    rw [this, cond_false, show (⟨c, q⟩ : T_api_Fault).f_At.f_Off.toNat = m from by show q.f_Off.toNat = m; rw [m2]; rfl, f1]
    refine ⟨ts, q, by rw [List.dropLast_concat], f2, f3, fun h => ?_⟩
    rw [this] at h; cases h
theorem ahead_f (k : Nat) (s : List UInt8) (hs : s.length ≤ 1000000000) (hk : s.length + 30 ≤ k) : syntax_ahead.f k s = some (ahP s) := by
  unfold syntax_ahead.f ahP
  rw [scan_f k s hs hk, bind_some']
  rcases scanS_form s with ⟨ts, q, e1, e2, e3⟩ | ⟨c, q, e1, e2⟩
  · rw [e1]; rfl
  · obtain ⟨m, m1, m2, ts, q', f1, f2, f3⟩ := scanS_ahead e1 e2
    unfold frontT
    rw [e1]
    have h0 : ((⟨c, q⟩ : T_api_Fault).f_Code == 0) = false := by rw [← Bool.not_eq_true, beq_iff_eq]; exact e2
    simp only
    rw [h0, cond_false, cond_false, show (⟨c, q⟩ : T_api_Fault).f_At.f_Off.toNat = m from by show q.f_Off.toNat = m; rw [m2]; rfl, f1]
    rw [show (⟨c, q⟩ : T_api_Fault).f_At.f_Off = (m : Int) from m2, cut_to s m1, bind_some', scan_f k (s.take m) (by rw [List.length_take]; omega) (by rw [List.length_take]; omega), f1, bind_some']
    simp only
    have hln : ((ts ++ [endT q']).length : Int) = (ts.length : Int) + 1 := by rw [List.length_append, List.length_singleton]; omega
    rw [hln, decide_eq_true (by omega : (ts.length : Int) + 1 > 0), cond_true, w64 (by omega) (by omega), show (ts.length : Int) + 1 - 1 = (ts.length : Int) from by omega, ix_nat, List.getElem?_append_right (Nat.le_refl _), Nat.sub_self, List.getElem?_cons_zero, bind_some', Int.toNat_natCast, List.set_append_right _ _ (Nat.le_refl _), Nat.sub_self, List.set_cons_zero, bind_some', List.dropLast_concat, ← show (⟨c, q⟩ : T_api_Fault).f_At.f_Off = (m : Int) from m2]
    rfl
/-! How many count -/
theorem ct_end (q : T_api_Spot) : ctB (endT q) = false := rfl
/-- The spot of the counted token that is one too many. -/
def many : Nat → List T_api_Token → Option T_api_Spot
  | _, [] => none
  | n, t :: r => bif ctB t then (if 512 < n + 1 then some t.f_At else many (n + 1) r) else many n r
def ctl (ts : List T_api_Token) : Nat := (ts.filter ctB).length
theorem ctl_cons (t : T_api_Token) (r : List T_api_Token) : ctl (t :: r) = (bif ctB t then 1 else 0) + ctl r := by
  unfold ctl
  rw [List.filter_cons]
  cases ctB t with
  | true => rw [if_pos rfl, List.length_cons, cond_true]; omega
  | false => rw [if_neg (by decide), cond_false]; omega
theorem ctl_le : ∀ ts : List T_api_Token, ctl ts ≤ ts.length := fun ts => List.length_filter_le _ _
theorem many_none : ∀ (ts : List T_api_Token) (n : Nat), many n ts = none → n ≤ 512 → n + ctl ts ≤ 512
  | [], n, _, h => h
  | t :: r, n, h, h0 => by
    rw [ctl_cons]
    unfold many at h
    cases hc : ctB t with
    | true =>
      rw [hc, cond_true] at h
      rw [cond_true]
      by_cases h5 : 512 < n + 1
      · rw [if_pos h5] at h; cases h
      · rw [if_neg h5] at h
        have := many_none r (n + 1) h (by omega)
        omega
    | false =>
      rw [hc, cond_false] at h
      rw [cond_false]
      have := many_none r n h h0
      omega
end Go.Proofs.YtpmkkhkphddfeaaGreatDoor.X
set_option linter.unusedVariables false
set_option linter.unusedSimpArgs false
namespace Go.Proofs.YtpmkkhkphddfeaaGreatDoor.X
open Go Go.RowKit Go.Proofs.YtpmkkhkphddfeaaGreatDoor.SX
/-! Rows are put behind those that are there -/
def Pre (N : List T_api_Node) (x : PO) : Prop := ∀ o, x = some o → match o with
  | .inl e => N <+: e.2 ∧ e.1.f_Code ≠ 0
  | .inr q => N <+: q.2.N
theorem Pre.th {N : List T_api_Node} {x : PO} {f : Int → PS → PO} (h : Pre N x) (hf : ∀ a s, N <+: s.N → Pre N (f a s)) : Pre N (X.th x f) := by
  intro o ho
  rcases th_some ho with ⟨e, h1, rfl⟩ | ⟨q, h1, h2⟩
  · exact h _ h1
  · exact hf q.1 q.2 (h _ h1) o h2
theorem tk_N {cnt : Bool} {s q : PS} (h : tk4 cnt s = .inr q) : q.N = s.N := by
  unfold tk4 at h
  cases hc : (ctB (hd s) && cnt) with
  | true =>
    rw [hc, cond_true] at h
    cases hd : decide (s.nm = 512) with
    | true => rw [hd] at h; cases h
    | false => rw [hd, cond_false] at h; injection h with h; rw [← h]
  | false => rw [hc, cond_false] at h; injection h with h; rw [← h]; rfl
theorem tk_Ne {cnt : Bool} {s : PS} {e : PE} (h : tk4 cnt s = .inl e) : e.2 = s.N ∧ e.1.f_Code ≠ 0 := by
  unfold tk4 at h
  cases hc : (ctB (hd s) && cnt) with
  | true =>
    rw [hc, cond_true] at h
    cases hd : decide (s.nm = 512) with
    | true => rw [hd, cond_true] at h; injection h with h; rw [← h]; exact ⟨rfl, show (40 : Int) ≠ 0 from by decide⟩
    | false => rw [hd] at h; cases h
  | false => rw [hc] at h; cases h
theorem Pre.tkn {N : List T_api_Node} {cnt : Bool} {s : PS} {f : PS → PO} (hs : N <+: s.N) (hf : ∀ q, N <+: q.N → Pre N (f q)) : Pre N (X.tkn cnt s f) := by
  intro o ho
  rcases tkn_some ho with ⟨e, h1, rfl⟩ | ⟨q, h1, h2⟩
  · show N <+: e.2 ∧ _
    rw [(tk_Ne h1).1]; exact ⟨hs, (tk_Ne h1).2⟩
  · exact hf q (by rw [tk_N h1]; exact hs) o h2
theorem nd_pre (s : PS) (x : T_api_Node) : s.N <+: (nd s x).2.N := by
  unfold nd
  cases s.full with
  | true => exact List.prefix_refl _
  | false => exact putN_pre _ _
theorem Pre.pair {N : List T_api_Node} {q : Int × PS} (h : N <+: q.2.N) : Pre N (some (.inr q)) := fun o ho => by rw [← Option.some.inj ho]; exact h
theorem Pre.err {N : List T_api_Node} {s : PS} (h : N <+: s.N) : Pre N (some (.inl (fl s 41))) := fun o ho => by rw [← Option.some.inj ho]; exact ⟨h, show (41 : Int) ≠ 0 from by decide⟩
theorem ps_pre (cnt : Bool) : ∀ (n : Nat) (md : Mod) (ns : Nat) (s : PS) (N : List T_api_Node), N <+: s.N → Pre N (ps cnt n md ns s)
  | 0, md, ns, s, N, h => fun o ho => by cases md <;> cases ho
  | n + 1, .fo, ns, s, N, h => by
    unfold ps
    refine (ps_pre cnt n .im ns s N h).th fun a s1 h1 => ?_
    cases signB (hd s1) [60, 45, 62] with
    | false => exact Pre.pair h1
    | true => exact Pre.tkn h1 fun q hq => (ps_pre cnt n .fo ns q N hq).th fun b s2 h2 => Pre.pair (((h2.trans (nd_pre _ _)).trans (nd_pre _ _)).trans (nd_pre _ _))
  | n + 1, .im, ns, s, N, h => by
    unfold ps
    refine (ps_pre cnt n .jo ns s N h).th fun a s1 h1 => ?_
    cases signB (hd s1) [45, 62] with
    | false => exact Pre.pair h1
    | true => exact Pre.tkn h1 fun q hq => (ps_pre cnt n .im ns q N hq).th fun b s2 h2 => Pre.pair (h2.trans (nd_pre _ _))
  | n + 1, .jo, ns, s, N, h => by
    unfold ps
    exact (ps_pre cnt n .bo ns s N h).th fun a s1 h1 => ps_pre cnt n (.jl a) ns s1 N h1
  | n + 1, .bo, ns, s, N, h => by
    unfold ps
    exact (ps_pre cnt n .si ns s N h).th fun a s1 h1 => ps_pre cnt n (.bl a) ns s1 N h1
  | n + 1, .jl a, ns, s, N, h => by
    unfold ps
    cases signB (hd s) [124] with
    | false => exact Pre.pair h
    | true => exact Pre.tkn h fun q hq => (ps_pre cnt n .bo ns q N hq).th fun b s2 h2 => ps_pre cnt n _ ns _ N (h2.trans (nd_pre _ _))
  | n + 1, .bl a, ns, s, N, h => by
    unfold ps
    cases signB (hd s) [38] with
    | false => exact Pre.pair h
    | true => exact Pre.tkn h fun q hq => (ps_pre cnt n .si ns q N hq).th fun b s2 h2 => ps_pre cnt n _ ns _ N (h2.trans (nd_pre _ _))
  | n + 1, .si, ns, s, N, h => by
    unfold ps
    cases signB (hd s) [126] with
    | true => exact Pre.tkn h fun q hq => (ps_pre cnt n .si ns q N hq).th fun b s2 h2 => Pre.pair ((h2.trans (nd_pre _ _)).trans (nd_pre _ _))
    | false =>
    rw [cond_false]
    cases signB (hd s) [40] with
    | true =>
      rw [cond_true]
      cases decide (1024 ≤ ns) with
      | true => exact Pre.err h
      | false =>
        rw [cond_false]
        refine (ps_pre cnt n .fo (ns + 1) (adv s) N h).th fun a s1 h1 => ?_
        cases signB (hd s1) [41] with
        | true => exact Pre.pair h1
        | false => exact Pre.err h1
    | false =>
    rw [cond_false]
    cases (hd s).f_Kind == 1 && (hd s).f_Text == [116, 114, 117, 101] with
    | true => exact Pre.tkn h fun q hq => Pre.pair ((hq.trans (nd_pre _ _)).trans (nd_pre _ _))
    | false =>
    rw [cond_false]
    cases (hd s).f_Kind == 1 && (hd s).f_Text == [102, 97, 108, 115, 101] with
    | true => exact Pre.tkn h fun q hq => Pre.pair (hq.trans (nd_pre _ _))
    | false =>
    rw [cond_false]
    cases (hd s).f_Kind == 1 && wordB (hd s).f_Text with
    | true => exact Pre.tkn h fun q hq => Pre.pair (hq.trans (nd_pre _ _))
    | false => exact Pre.err h
/-! A table is cut -/
theorem cut_l1 (k : Nat) (y : List T_api_Node) (hy : y.length ≤ 100000) : ∀ (d kk i : Nat) (m : MapN), y.length - i ≤ d → d < kk → i ≤ y.length → uniq m → ∃ m', formula_Table_Cut.l1 k y kk (i : Int) m = some m' ∧ uniq m' ∧ ∀ x, mget T_api_Node.eqb m' x = if x ∈ y.drop i then none else mget T_api_Node.eqb m x := by
  intro d
  induction d with
  | zero =>
    intro kk i m h1 h2 h3 hu
    obtain ⟨q, rfl⟩ : ∃ q, kk = q + 1 := ⟨kk - 1, by omega⟩
    rw [formula_Table_Cut.l1.eq_2, decide_eq_false (by omega : ¬ (i : Int) < (y.length : Int)), List.drop_eq_nil_of_le (by omega)]
    exact ⟨m, rfl, hu, fun x => by rw [if_neg (by simp)]⟩
  | succ d ih =>
    intro kk i m h1 h2 h3 hu
    obtain ⟨q, rfl⟩ : ∃ q, kk = q + 1 := ⟨kk - 1, by omega⟩
    by_cases h : i < y.length
    · obtain ⟨m', e1, e2, e3⟩ := ih q (i + 1) (mdel T_api_Node.eqb m y[i]) (by omega) (by omega) h (uniq_mdel eqN_iff _ m hu)
      rw [formula_Table_Cut.l1.eq_2, decide_eq_true (by omega : (i : Int) < (y.length : Int)), cond_true, ix_nat, List.getElem?_eq_getElem h, bind_some', wsucc i (by omega)]
      refine ⟨m', e1, e2, fun x => ?_⟩
      rw [e3, mget_mdel eqN_iff y[i] x m hu, eqbN, drop_cons h]
      by_cases h5 : x ∈ y.drop (i + 1)
      · rw [if_pos h5, if_pos (List.mem_cons_of_mem _ h5)]
      · rw [if_neg h5]
        by_cases h6 : x = y[i]
        · rw [decide_eq_true h6, if_pos (by rw [h6]; exact List.mem_cons_self ..)]; rfl
        · rw [decide_eq_false h6, if_neg (by rw [List.mem_cons, not_or]; exact ⟨h6, h5⟩)]; rfl
    · rw [formula_Table_Cut.l1.eq_2, decide_eq_false (by omega : ¬ (i : Int) < (y.length : Int)), List.drop_eq_nil_of_le (by omega)]
      exact ⟨m, rfl, hu, fun x => by rw [if_neg (by simp)]⟩
theorem cut_f (k : Nat) (N M : List T_api_Node) (m : MapN) (hp : N <+: M) (hT : Tab M m) (hk : 1025 ≤ k) : ∃ m', formula_Table_Cut.f k ⟨M⟩ (N.length : Int) m = some (0, ⟨N⟩, m') ∧ Tab N m' := by
  obtain ⟨t, rfl⟩ := hp
  have hr := hT.room
  rw [List.length_append] at hr
  obtain ⟨m', e1, e2, e3⟩ := cut_l1 k t (by omega) t.length k 0 m (by omega) (by omega) (by omega) hT.uq
  have hone := List.nodup_append.1 hT.one
  refine ⟨m', ?_, fun x => ?_, e2, hone.1, by omega⟩
  · unfold formula_Table_Cut.f
    rw [show formula_Table_alive.f ⟨N ++ t⟩ m = some true from rfl, bind_some', decide_eq_false (by omega : ¬ (N.length : Int) < 0), cond_false, bind_some']
    show (bif decide ((N.length : Int) > ((N ++ t).length : Int)) then _ else _) = _
    rw [List.length_append, decide_eq_false (by omega : ¬ (N.length : Int) > ((N.length + t.length : Nat) : Int)), cond_false]
    show ((cut (N ++ t) (N.length : Int) ((N.length + t.length : Nat) : Int)).bind _) = _
    rw [show cut (N ++ t) (N.length : Int) ((N.length + t.length : Nat) : Int) = some t from by rw [← List.length_append, cut_from (N ++ t) (by rw [List.length_append]; omega), List.drop_left], bind_some', show formula_Table_Cut.l1 k t k 0 m = _ from e1, bind_some']
    show ((cut (N ++ t) 0 (N.length : Int)).bind _) = _
    rw [cut_to (N ++ t) (by rw [List.length_append]; omega), List.take_left]
    rfl
  · rw [e3, List.drop_zero, hT.get]
    by_cases hx : x ∈ t
    · rw [if_pos hx]
      have : numN N x = none := numN_none.2 fun h => hone.2.2 x h x hx rfl
      rw [this]
      rfl
    · rw [if_neg hx]
      have e : numN (N ++ t) x = numN N x := by
        unfold numN
        rw [lfind_app]
        cases hc : lfind T_api_Node.eqb x N 0 with
        | some i => rfl
        | none =>
          show (lfind T_api_Node.eqb x t 0).map _ = none
          rw [(lfind_none eqN_iff x t).2 hx]
          rfl
      rw [e]
theorem ahP_len (s : List UInt8) : (ahP s).1.length ≤ s.length + 1 := by
  obtain ⟨ts, q, e1, e2, e3, _⟩ := ahP_form s
  rw [e1, List.length_append, List.length_singleton]
  omega
theorem ahP_text (s : List UInt8) : ∀ t ∈ (ahP s).1, t.f_Text.length ≤ 31 := by
  obtain ⟨ts, q, e1, e2, e3, _⟩ := ahP_form s
  rw [e1]
  intro t ht
  rcases List.mem_append.1 ht with h | h
  · exact (e2 t h).2
  · rw [List.mem_singleton.1 h]; exact Nat.zero_le _
/-! Parse -/
/-- The number, the fault, the rows behind it. -/
def parseP (N : List T_api_Node) (s : List UInt8) : Int × T_api_Fault × List T_api_Node := match many 0 (ahP s).1 with
  | some q => (0, ⟨40, q⟩, N)
  | none => match ps false (10 * (ahP s).1.length + 5) .fo 0 ⟨(ahP s).1, 0, false, N⟩ with
    | none => (0, F0, N)
    | some (.inl e) => (0, e.1, N)
    | some (.inr (a, q)) => bif (hd q).f_Kind != 0 || (ahP s).2.f_Code != 0 then (0, ⟨41, (hd q).f_At⟩, N) else bif q.full then (0, ⟨30, ⟨0, 0, 0⟩⟩, N) else (a, F0, q.N)
theorem parse_l1 (k : Nat) (T : T_formula_Table) (m : MapN) (l : List T_api_Token) (f : T_api_Fault) (hl : l.length ≤ 1000000000) : ∀ (d kk i n : Nat), l.length - i ≤ d → d < kk → i ≤ l.length → n ≤ i → syntax_Parse.l1 k T m (l, f) kk (n : Int) (i : Int) = some (match many n (l.drop i) with | some q => .inl (0, ⟨40, q⟩, T, m) | none => .inr ()) := by
  intro d
  induction d with
  | zero =>
    intro kk i n h1 h2 h3 h4
    obtain ⟨q, rfl⟩ : ∃ q, kk = q + 1 := ⟨kk - 1, by omega⟩
    rw [syntax_Parse.l1.eq_2, decide_eq_false (by show ¬ (i : Int) < (l.length : Int); omega), List.drop_eq_nil_of_le (by omega)]
    rfl
  | succ d ih =>
    intro kk i n h1 h2 h3 h4
    obtain ⟨q, rfl⟩ : ∃ q, kk = q + 1 := ⟨kk - 1, by omega⟩
    by_cases h : i < l.length
    · rw [syntax_Parse.l1.eq_2, decide_eq_true (by show (i : Int) < (l.length : Int); omega), cond_true]
      show Option.bind ((ix l (i : Int)).bind _) _ = _
      rw [ix_nat, List.getElem?_eq_getElem h, bind_some', counted_f, bind_some', drop_cons h, wsucc i (by omega)]
      unfold many
      cases ctB l[i] with
      | true =>
        rw [cond_true, cond_true, wsucc n (by omega)]
        by_cases h5 : 512 < n + 1
        · rw [if_pos h5, decide_eq_true (by omega : ((n + 1 : Nat) : Int) > 512)]
          rfl
        · rw [if_neg h5, decide_eq_false (by omega : ¬ ((n + 1 : Nat) : Int) > 512)]
          exact ih q (i + 1) (n + 1) (by omega) (by omega) h (by omega)
      | false =>
        rw [cond_false, cond_false]
        exact ih q (i + 1) n (by omega) (by omega) h (by omega)
    · rw [syntax_Parse.l1.eq_2, decide_eq_false (by show ¬ (i : Int) < (l.length : Int); omega), List.drop_eq_nil_of_le (by omega)]
      rfl
theorem ps_end (l : List T_api_Token) (N : List T_api_Node) : ∃ o, ps false (10 * l.length + 5) .fo 0 ⟨l, 0, false, N⟩ = some o := by
  obtain ⟨o, h, _⟩ := (ps_fin false l.length ⟨l, 0, false, N⟩ (Nat.le_refl _) 0 (10 * l.length + 5)).1 (Nat.le_refl _)
  exact ⟨o, h⟩
theorem parse_f (k : Nat) (N : List T_api_Node) (m : MapN) (s : List UInt8) (hT : Tab N m) (hs : s.length ≤ 2000000) (hk : 30 * s.length + 2000 ≤ k) : ∃ m', syntax_Parse.f k ⟨N⟩ s m = some ((parseP N s).1, (parseP N s).2.1, ⟨(parseP N s).2.2⟩, m') ∧ Tab (parseP N s).2.2 m' := by
  unfold syntax_Parse.f parseP
  have hl := ahP_len s
  have hx := ahP_text s
  rw [known_f k N m hT (by omega), bind_some', show (!true) = false from rfl, cond_false, ahead_f k s (by omega) (by omega), bind_some', show syntax_Parse.l1 k ⟨N⟩ m (ahP s) k 0 0 = _ from parse_l1 k ⟨N⟩ m (ahP s).1 (ahP s).2 (by omega) (ahP s).1.length k 0 0 (by omega) (by omega) (by omega) (Nat.le_refl _), bind_some', List.drop_zero]
  cases hm : many 0 (ahP s).1 with
  | some q => exact ⟨m, rfl, hT⟩
  | none =>
    simp only
    obtain ⟨o, ho⟩ := ps_end (ahP s).1 N
    have hB : ∀ t ∈ (ahP s).1, t.f_Text.length ≤ 1000000000 ∧ t.f_Text.length < 40 := fun t ht => by have := hx t ht; omega
    have hok : Okp4 (ahP s).1 ⟨(ahP s).1, 0, false, N⟩ := ⟨List.suffix_refl _, Nat.zero_le _⟩
    obtain ⟨r, hr, hout⟩ := (sims (cnt := false) (B := 40) (by omega) hB (10 * (ahP s).1.length + 5)).fo 0 _ o ho hok (by omega) k k (by omega) (by omega) m hT
    have hpre := ps_pre false (10 * (ahP s).1.length + 5) .fo 0 ⟨(ahP s).1, 0, false, N⟩ N (List.prefix_refl _) o ho
    have hr0 : syntax_reader_formula.f k (⟨(ahP s).1, (0 : Int), (0 : Int), (0 : Int), false, false⟩ : T_syntax_reader) ⟨N⟩ m = some r := by
      rw [← hr]
      show _ = (G_syntax_reader_formula.rec_ k k).syntax_reader_formula (⟨(ahP s).1, (((ahP s).1.length - (ahP s).1.length : Nat) : Int), ((0 : Nat) : Int), ((0 : Nat) : Int), false, false⟩ : T_syntax_reader) ⟨N⟩ m
      rw [Nat.sub_self]
      rfl
    -- what comes of a fault
    have bad : ∀ (M : List T_api_Node) (mM : MapN) (c : Int) (q : T_api_Spot) (rd : T_syntax_reader) (w : Int), N <+: M → Tab M mM → ∃ m', syntax_reader_read_1_rec.f k (N.length : Int) (⟨(0 : Int), (⟨(0 : Int), (0 : Int), (0 : Int)⟩ : T_api_Spot)⟩ : T_api_Fault) rd ⟨M⟩ mM ⟨⟨c, q⟩⟩ = some (⟨c, q⟩, ⟨N⟩, m') ∧ Tab N m' := by
      intro M mM c q rd w h1 h2
      obtain ⟨m', e1, e2⟩ := cut_f k N M mM h1 h2 (by omega)
      refine ⟨m', ?_, e2⟩
      unfold syntax_reader_read_1_rec.f
      rw [e1]
      rfl
    rw [ho]
    unfold syntax_reader_read_syntax_Parse_1.f syntax_Parse_1.f
    rw [hr0, len_f, bind_some', bind_some']
    cases o with
    | inl e =>
      obtain ⟨p, rfl, g1, g2, g3⟩ := hout.inv_ex
      obtain ⟨p1, p2, p3, p4⟩ := p
      simp only at g1 g2 g3
      subst g1 g2
      obtain ⟨m', e1, e2⟩ := bad e.2 p4 e.1.f_Code e.1.f_At p2 0 hpre.1 g3
      refine ⟨m', ?_, e2⟩
      show Option.bind (Option.bind (syntax_reader_read_1_rec.f k (N.length : Int) _ p2 ⟨e.2⟩ p4 ⟨⟨e.1.f_Code, e.1.f_At⟩⟩) _) _ = _
      rw [e1, bind_some', bind_some']
      simp only
      rw [show (e.1.f_Code != 0) = true from by rw [bne_iff_ne]; exact hpre.2]
      rfl
    | inr q =>
      obtain ⟨a, q⟩ := q
      obtain ⟨m1, rfl, g1, g2⟩ := hout.inv_ok
      simp only
      rw [now_f _ false 0 q g2, bind_some']
      have ez : ((bif ((hd q).f_Kind != 0) then some true else some ((ahP s).2.f_Code != 0)) : Option Bool) = some ((hd q).f_Kind != 0 || (ahP s).2.f_Code != 0) := by
        cases (hd q).f_Kind != 0 <;> rfl
      rw [ez, bind_some']
      cases hz : ((hd q).f_Kind != 0 || (ahP s).2.f_Code != 0) with
      | true =>
        obtain ⟨m', e1, e2⟩ := bad q.N m1 41 (hd q).f_At (rdOf (ahP s).1 false 0 q) 0 hpre g1
        refine ⟨m', ?_, e2⟩
        rw [cond_true, fail_f _ false 0 q g2, bind_some']
        show Option.bind (Option.bind (syntax_reader_read_1_rec.f k (N.length : Int) _ (rdOf (ahP s).1 false 0 q) ⟨q.N⟩ m1 ⟨⟨41, (hd q).f_At⟩⟩) _) _ = _
        rw [e1]
        rfl
      | false =>
        rw [cond_false, bind_some']
        simp only
        show ∃ m', Option.bind (bif q.full then _ else _) _ = _ ∧ _
        cases hf : q.full with
        | true =>
          obtain ⟨m', e1, e2⟩ := bad q.N m1 30 ⟨0, 0, 0⟩ (rdOf (ahP s).1 false 0 q) 0 hpre g1
          refine ⟨m', ?_, e2⟩
          rw [cond_true, e1]
          rfl
        | false => exact ⟨m1, rfl, g1⟩
end Go.Proofs.YtpmkkhkphddfeaaGreatDoor.X
set_option linter.unusedVariables false
set_option linter.unusedSimpArgs false
namespace Go.Proofs.YtpmkkhkphddfeaaGreatDoor.X
open Go Go.RowKit Go.Proofs.YtpmkkhkphddfeaaGreatDoor.SX
/-! Count -/
theorem count_l1 (k : Nat) (l : List T_api_Token) (f : T_api_Fault) (hl : l.length ≤ 1000000000) : ∀ (d kk i n : Nat), l.length - i ≤ d → d < kk → i ≤ l.length → n ≤ i → syntax_Count.l1 k (l, f) kk (n : Int) (i : Int) = some ((n + ctl (l.drop i) : Nat) : Int) := by
  intro d
  induction d with
  | zero =>
    intro kk i n h1 h2 h3 h4
    obtain ⟨q, rfl⟩ : ∃ q, kk = q + 1 := ⟨kk - 1, by omega⟩
    rw [syntax_Count.l1.eq_2, decide_eq_false (by show ¬ (i : Int) < (l.length : Int); omega), List.drop_eq_nil_of_le (by omega)]
    rfl
  | succ d ih =>
    intro kk i n h1 h2 h3 h4
    obtain ⟨q, rfl⟩ : ∃ q, kk = q + 1 := ⟨kk - 1, by omega⟩
    by_cases h : i < l.length
    · rw [syntax_Count.l1.eq_2, decide_eq_true (by show (i : Int) < (l.length : Int); omega), cond_true]
      show Option.bind ((ix l (i : Int)).bind _) _ = _
      rw [ix_nat, List.getElem?_eq_getElem h, bind_some', counted_f, bind_some', drop_cons h, ctl_cons, wsucc i (by omega)]
      cases ctB l[i] with
      | true =>
        rw [cond_true, cond_true, bind_some', wsucc n (by omega), ih q (i + 1) (n + 1) (by omega) (by omega) h (by omega), show n + 1 + ctl (l.drop (i + 1)) = n + (1 + ctl (l.drop (i + 1))) from by omega]
      | false =>
        rw [cond_false, cond_false, bind_some', ih q (i + 1) n (by omega) (by omega) h (by omega), Nat.zero_add]
    · rw [syntax_Count.l1.eq_2, decide_eq_false (by show ¬ (i : Int) < (l.length : Int); omega), List.drop_eq_nil_of_le (by omega)]
      rfl
theorem count_f (k : Nat) (s : List UInt8) (hs : s.length ≤ 100000000) (hk : s.length + 30 ≤ k) : syntax_Count.f k s = some (ctl (ahP s).1 : Int) := by
  unfold syntax_Count.f
  have hl := ahP_len s
  rw [ahead_f k s (by omega) hk, bind_some', show syntax_Count.l1 k (ahP s) k 0 0 = _ from count_l1 k (ahP s).1 (ahP s).2 (by omega) (ahP s).1.length k 0 0 (by omega) (by omega) (by omega) (Nat.le_refl _), bind_some', List.drop_zero, Nat.zero_add]
end Go.Proofs.YtpmkkhkphddfeaaGreatDoor.X
set_option linter.unusedVariables false
set_option linter.unusedSimpArgs false
namespace Go.Proofs.YtpmkkhkphddfeaaGreatDoor.X
open Go Go.RowKit Go.Proofs.YtpmkkhkphddfeaaGreatDoor.SX
def node0 : T_api_Node := ⟨0, [], 0, 0⟩
def ndA (N : List T_api_Node) (i : Nat) : T_api_Node := N.getD i node0
/-- Rows stand on earlier rows; names are short. -/
structure Wf (N : List T_api_Node) : Prop where
  two : ∀ i, i < N.length → (ndA N i).f_Kind = 3 ∨ (ndA N i).f_Kind = 4 ∨ (ndA N i).f_Kind = 5 → 0 ≤ (ndA N i).f_L ∧ (ndA N i).f_L < (i : Int) ∧ 0 ≤ (ndA N i).f_R ∧ (ndA N i).f_R < (i : Int)
  name : ∀ i, i < N.length → (ndA N i).f_Name.length ≤ 31
  kind : ∀ i, i < N.length → (ndA N i).f_Kind = 1 ∨ (ndA N i).f_Kind = 2 ∨ (ndA N i).f_Kind = 3 ∨ (ndA N i).f_Kind = 4 ∨ (ndA N i).f_Kind = 5
inductive Sh where
  | lit (s : List UInt8)
  | neg (l : Nat)
  | two (s : List UInt8) (l : Nat) (a : Int) (r : Nat) (b : Int)
def botA (N : List T_api_Node) (i : Nat) : Bool := (ndA N i).f_Kind == 2
def shp (N : List T_api_Node) (x : T_api_Node) : Sh :=
  bif x.f_Kind == 3 then .two [32, 38, 32] x.f_L.toNat 2 x.f_R.toNat 3 else
  bif x.f_Kind == 4 then .two [32, 124, 32] x.f_L.toNat 1 x.f_R.toNat 2 else
  bif x.f_Kind == 5 then (bif botA N x.f_R.toNat then (bif botA N x.f_L.toNat then .lit [116, 114, 117, 101] else .neg x.f_L.toNat) else .two [32, 45, 62, 32] x.f_L.toNat 1 x.f_R.toNat 0) else
  bif x.f_Kind == 2 then .lit [102, 97, 108, 115, 101] else .lit x.f_Name
def lvA (N : List T_api_Node) (i : Nat) : Int :=
  bif (ndA N i).f_Kind == 3 then 2 else bif (ndA N i).f_Kind == 4 then 1 else bif (ndA N i).f_Kind == 5 then (bif botA N (ndA N i).f_R.toNat then 3 else 0) else 3
def ptT (N : List T_api_Node) (t : List UInt8) (i : Nat) (a : Int) : List UInt8 := bif decide (lvA N i < a) then 40 :: (t ++ [41]) else t
def rdT (N : List T_api_Node) (i : Nat) (a : Int) : Nat := bif decide (lvA N i < a) then 2 else 0
def bdT (N : List T_api_Node) : Nat → Nat → List UInt8
  | 0, _ => []
  | n + 1, i => match shp N (ndA N i) with
    | .lit s => s
    | .neg l => 126 :: ptT N (bdT N n l) l 3
    | .two s l a r b => ptT N (bdT N n l) l a ++ (s ++ ptT N (bdT N n r) r b)
def wdT (N : List T_api_Node) : Nat → Nat → Nat
  | 0, _ => 0
  | n + 1, i => min 65537 (match shp N (ndA N i) with
    | .lit s => s.length
    | .neg l => 1 + (wdT N n l + rdT N l 3)
    | .two s l a r b => s.length + (wdT N n l + rdT N l a) + (wdT N n r + rdT N r b))
/-- A formula's text, and how wide it is. -/
def bd (N : List T_api_Node) (i : Nat) : List UInt8 := bdT N (i + 1) i
def wd (N : List T_api_Node) (i : Nat) : Nat := wdT N (i + 1) i
theorem shp_below {N : List T_api_Node} (h : Wf N) {i : Nat} (hi : i < N.length) : (∀ l, shp N (ndA N i) = .neg l → l < i) ∧ (∀ s l a r b, shp N (ndA N i) = .two s l a r b → l < i ∧ r < i) := by
  have h2 := h.two i hi
  unfold shp
  cases h3 : (ndA N i).f_Kind == 3 with
  | true =>
    have := h2 (.inl (by simpa using h3))
    refine ⟨fun l e => (by cases e), fun s l a r b e => ?_⟩
    rw [cond_true] at e
    injection e with _ e1 _ e2 _
    omega
  | false =>
  rw [cond_false]
  cases h4 : (ndA N i).f_Kind == 4 with
  | true =>
    have := h2 (.inr (.inl (by simpa using h4)))
    refine ⟨fun l e => (by cases e), fun s l a r b e => ?_⟩
    rw [cond_true] at e
    injection e with _ e1 _ e2 _
    omega
  | false =>
  rw [cond_false]
  cases h5 : (ndA N i).f_Kind == 5 with
  | true =>
    have := h2 (.inr (.inr (by simpa using h5)))
    rw [cond_true]
    cases botA N (ndA N i).f_R.toNat with
    | true =>
      cases botA N (ndA N i).f_L.toNat with
      | true => exact ⟨fun l e => (by cases e), fun s l a r b e => (by cases e)⟩
      | false =>
        refine ⟨fun l e => ?_, fun s l a r b e => (by cases e)⟩
        rw [cond_true, cond_false] at e
        injection e with e
        omega
    | false =>
      refine ⟨fun l e => (by cases e), fun s l a r b e => ?_⟩
      rw [cond_false] at e
      injection e with _ e1 _ e2 _
      omega
  | false =>
  rw [cond_false]
  cases (ndA N i).f_Kind == 2 <;> exact ⟨fun l e => (by cases e), fun s l a r b e => (by cases e)⟩
theorem bdT_fuel {N : List T_api_Node} (h : Wf N) : ∀ (n m i : Nat), i < n → i < m → i < N.length → bdT N n i = bdT N m i := by
  intro n
  induction n with
  | zero => intro m i h1; omega
  | succ n ih =>
    intro m i h1 h2 h3
    obtain ⟨m, rfl⟩ : ∃ q, m = q + 1 := ⟨m - 1, by omega⟩
    obtain ⟨b1, b2⟩ := shp_below h h3
    unfold bdT
    cases hs : shp N (ndA N i) with
    | lit s => rfl
    | neg l =>
      have := b1 l hs
      simp only
      rw [ih m l (by omega) (by omega) (by omega)]
    | two s l a r b =>
      have := b2 s l a r b hs
      simp only
      rw [ih m l (by omega) (by omega) (by omega), ih m r (by omega) (by omega) (by omega)]
theorem wdT_fuel {N : List T_api_Node} (h : Wf N) : ∀ (n m i : Nat), i < n → i < m → i < N.length → wdT N n i = wdT N m i := by
  intro n
  induction n with
  | zero => intro m i h1; omega
  | succ n ih =>
    intro m i h1 h2 h3
    obtain ⟨m, rfl⟩ : ∃ q, m = q + 1 := ⟨m - 1, by omega⟩
    obtain ⟨b1, b2⟩ := shp_below h h3
    unfold wdT
    cases hs : shp N (ndA N i) with
    | lit s => rfl
    | neg l =>
      have := b1 l hs
      simp only
      rw [ih m l (by omega) (by omega) (by omega)]
    | two s l a r b =>
      have := b2 s l a r b hs
      simp only
      rw [ih m l (by omega) (by omega) (by omega), ih m r (by omega) (by omega) (by omega)]
def pt (N : List T_api_Node) (i : Nat) (a : Int) : List UInt8 := ptT N (bd N i) i a
theorem bd_eq {N : List T_api_Node} (h : Wf N) {i : Nat} (hi : i < N.length) : bd N i = match shp N (ndA N i) with
    | .lit s => s
    | .neg l => 126 :: pt N l 3
    | .two s l a r b => pt N l a ++ (s ++ pt N r b) := by
  obtain ⟨b1, b2⟩ := shp_below h hi
  unfold bd bdT pt bd
  cases hs : shp N (ndA N i) with
  | lit s => rfl
  | neg l =>
    have := b1 l hs
    simp only
    rw [bdT_fuel h i (l + 1) l (by omega) (by omega) (by omega)]
  | two s l a r b =>
    have := b2 s l a r b hs
    simp only
    rw [bdT_fuel h i (l + 1) l (by omega) (by omega) (by omega), bdT_fuel h i (r + 1) r (by omega) (by omega) (by omega)]
theorem wd_eq {N : List T_api_Node} (h : Wf N) {i : Nat} (hi : i < N.length) : wd N i = min 65537 (match shp N (ndA N i) with
    | .lit s => s.length
    | .neg l => 1 + (wd N l + rdT N l 3)
    | .two s l a r b => s.length + (wd N l + rdT N l a) + (wd N r + rdT N r b)) := by
  obtain ⟨b1, b2⟩ := shp_below h hi
  show wdT N (i + 1) i = _
  unfold wdT wd
  cases hs : shp N (ndA N i) with
  | lit s => rfl
  | neg l =>
    have := b1 l hs
    simp only
    rw [wdT_fuel h i (l + 1) l (by omega) (by omega) (by omega)]
  | two s l a r b =>
    have := b2 s l a r b hs
    simp only
    rw [wdT_fuel h i (l + 1) l (by omega) (by omega) (by omega), wdT_fuel h i (r + 1) r (by omega) (by omega) (by omega)]
theorem wd_le {N : List T_api_Node} (i : Nat) : wd N i ≤ 65537 := by
  unfold wd wdT
  exact Nat.min_le_left _ _
theorem rd_le (N : List T_api_Node) (i : Nat) (a : Int) : rdT N i a ≤ 2 := by
  unfold rdT
  cases decide (lvA N i < a)
  · exact Nat.zero_le _
  · exact Nat.le_refl _
theorem pt_len (N : List T_api_Node) (i : Nat) (a : Int) : (pt N i a).length = (bd N i).length + rdT N i a := by
  unfold pt ptT rdT
  cases decide (lvA N i < a) with
  | true => simp
  | false => rfl
/-- If a text is not too wide, it is as wide as it is said to be; so are its parts. -/
theorem bd_len {N : List T_api_Node} (h : Wf N) : ∀ (n i : Nat), i < n → i < N.length → wd N i ≤ 65536 → (bd N i).length = wd N i := by
  intro n
  induction n with
  | zero => intro i h1; omega
  | succ n ih =>
    intro i h1 h2 h3
    obtain ⟨b1, b2⟩ := shp_below h h2
    rw [wd_eq h h2] at h3 ⊢
    rw [bd_eq h h2]
    cases hs : shp N (ndA N i) with
    | lit s => rw [hs] at h3; simp only at h3 ⊢; omega
    | neg l =>
      have := b1 l hs
      rw [hs] at h3
      simp only at h3 ⊢
      rw [List.length_cons, pt_len, ih l (by omega) (by omega) (by omega)]
      omega
    | two s l a r b =>
      have := b2 s l a r b hs
      rw [hs] at h3
      simp only at h3 ⊢
      rw [List.length_append, List.length_append, pt_len, pt_len, ih l (by omega) (by omega) (by omega), ih r (by omega) (by omega) (by omega)]
      omega
theorem wd_parts {N : List T_api_Node} (h : Wf N) {i : Nat} (hi : i < N.length) (hw : wd N i ≤ 65536) : (∀ l, shp N (ndA N i) = .neg l → wd N l ≤ 65536) ∧ (∀ s l a r b, shp N (ndA N i) = .two s l a r b → wd N l ≤ 65536 ∧ wd N r ≤ 65536) := by
  rw [wd_eq h hi] at hw
  refine ⟨fun l e => ?_, fun s l a r b e => ?_⟩
  · rw [e] at hw; simp only at hw; omega
  · rw [e] at hw; simp only at hw; omega
/-! The program -/
theorem ndA_get {N : List T_api_Node} {i : Nat} (h : i < N.length) : N[i]? = some (ndA N i) := by
  unfold ndA
  rw [List.getElem?_eq_getElem h, List.getD_eq_getElem?_getD, List.getElem?_eq_getElem h]
  rfl
theorem node_f' (N : List T_api_Node) (m : MapN) (i : Nat) (h : i < N.length) : formula_Table_Node.f ⟨N⟩ (i : Int) m = some (ndA N i, true) := by
  unfold formula_Table_Node.f
  rw [show formula_Table_alive.f ⟨N⟩ m = some true from rfl, bind_some', has_f, bind_some', show hasN N (i : Int) = true from by unfold hasN; rw [decide_eq_true (by omega : (0 : Int) ≤ (i : Int)), decide_eq_true (by omega : (i : Int) < (N.length : Int))]; rfl]
  show ((ix N (i : Int)).bind _) = _
  rw [ix_nat, ndA_get h]
  rfl
theorem node_no (N : List T_api_Node) (m : MapN) (i : Int) (h : hasN N i = false) : formula_Table_Node.f ⟨N⟩ i m = some (node0, false) := by
  unfold formula_Table_Node.f
  rw [show formula_Table_alive.f ⟨N⟩ m = some true from rfl, bind_some', has_f, bind_some', h]
  rfl
theorem bot_f (N : List T_api_Node) (m : MapN) (i : Nat) (h : i < N.length) : syntax_bot.f ⟨N⟩ (i : Int) m = some (botA N i) := by
  unfold syntax_bot.f
  rw [node_f' N m i h]
  rfl
def partsOf : Sh → List UInt8 × List Int × List Int
  | .lit s => (s, [], [])
  | .neg l => ([126], [(l : Int)], [3])
  | .two s l a r b => (s, [(l : Int), (r : Int)], [a, b])
theorem pieces_f {N : List T_api_Node} (h : Wf N) (m : MapN) {i : Nat} (hi : i < N.length) : syntax_pieces.f ⟨N⟩ (ndA N i) m = some (partsOf (shp N (ndA N i))) := by
  have h2 := h.two i hi
  unfold syntax_pieces.f shp
  cases h3 : (ndA N i).f_Kind == 3 with
  | true =>
    have := h2 (.inl (by simpa using h3))
    rw [cond_true, cond_true]
    show some (_, [(ndA N i).f_L, (ndA N i).f_R], _) = some (_, [(((ndA N i).f_L.toNat : Nat) : Int), (((ndA N i).f_R.toNat : Nat) : Int)], _)
    rw [Int.toNat_of_nonneg this.1, Int.toNat_of_nonneg this.2.2.1]
  | false =>
  rw [cond_false, cond_false]
  cases h4 : (ndA N i).f_Kind == 4 with
  | true =>
    have := h2 (.inr (.inl (by simpa using h4)))
    rw [cond_true, cond_true]
    show some (_, [(ndA N i).f_L, (ndA N i).f_R], _) = some (_, [(((ndA N i).f_L.toNat : Nat) : Int), (((ndA N i).f_R.toNat : Nat) : Int)], _)
    rw [Int.toNat_of_nonneg this.1, Int.toNat_of_nonneg this.2.2.1]
  | false =>
  rw [cond_false, cond_false]
  cases h5 : (ndA N i).f_Kind == 5 with
  | true =>
    have := h2 (.inr (.inr (by simpa using h5)))
    rw [cond_true, cond_true]
    have eL : (ndA N i).f_L = (((ndA N i).f_L.toNat : Nat) : Int) := (Int.toNat_of_nonneg this.1).symm
    have eR : (ndA N i).f_R = (((ndA N i).f_R.toNat : Nat) : Int) := (Int.toNat_of_nonneg this.2.2.1).symm
    have fL := bot_f N m (ndA N i).f_L.toNat (by omega)
    have fR := bot_f N m (ndA N i).f_R.toNat (by omega)
    rw [← eL] at fL
    rw [← eR] at fR
    rw [fL, fR]
    simp only [bind_some']
    cases botA N (ndA N i).f_R.toNat <;> cases botA N (ndA N i).f_L.toNat
    · show some (_, [(ndA N i).f_L, (ndA N i).f_R], _) = some (_, [(((ndA N i).f_L.toNat : Nat) : Int), (((ndA N i).f_R.toNat : Nat) : Int)], _)
      rw [← eL, ← eR]
    · show some (_, [(ndA N i).f_L, (ndA N i).f_R], _) = some (_, [(((ndA N i).f_L.toNat : Nat) : Int), (((ndA N i).f_R.toNat : Nat) : Int)], _)
      rw [← eL, ← eR]
    · show some (_, [(ndA N i).f_L], _) = some (_, [(((ndA N i).f_L.toNat : Nat) : Int)], _)
      rw [← eL]
    · rfl
  | false =>
  rw [cond_false, cond_false]
  cases h2 : (ndA N i).f_Kind == 2 <;> rfl
theorem level_f {N : List T_api_Node} (h : Wf N) (m : MapN) {i : Nat} (hi : i < N.length) : syntax_level.f ⟨N⟩ (i : Int) m = some (lvA N i) := by
  have h2 := h.two i hi
  unfold syntax_level.f lvA
  rw [node_f' N m i hi, bind_some']
  simp only
  cases h3 : (ndA N i).f_Kind == 3 with
  | true => rfl
  | false =>
  rw [cond_false, cond_false]
  cases h4 : (ndA N i).f_Kind == 4 with
  | true => rfl
  | false =>
  rw [cond_false, cond_false]
  cases h5 : (ndA N i).f_Kind == 5 with
  | true =>
    have := h2 (.inr (.inr (by simpa using h5)))
    have fR := bot_f N m (ndA N i).f_R.toNat (by omega)
    rw [Int.toNat_of_nonneg this.2.2.1] at fR
    rw [cond_true, cond_true, fR, bind_some']
    cases botA N (ndA N i).f_R.toNat <;> rfl
  | false => rfl
/-! How wide -/
abbrev eqI : Int → Int → Bool := fun a_ b_ => a_ == b_
theorem eqI_iff (a b : Int) : eqI a b = true ↔ a = b := beq_iff_eq
def Memo (N : List T_api_Node) (M : List (Int × Int)) : Prop := ∀ id v, mget eqI M id = some v → ∃ i : Nat, id = (i : Int) ∧ i < N.length ∧ v = (wd N i : Int)
theorem Memo.put {N : List T_api_Node} {M : List (Int × Int)} (h : Memo N M) {i : Nat} (hi : i < N.length) : Memo N (mput eqI M (i : Int) (wd N i : Int)) := by
  intro id v hv
  rw [mget_mput eqI_iff] at hv
  cases hc : eqI id (i : Int) with
  | true =>
    rw [hc, cond_true] at hv
    exact ⟨i, (eqI_iff _ _).1 hc, hi, (Option.some.inj hv).symm⟩
  | false =>
    rw [hc, cond_false] at hv
    exact h id v hv
end Go.Proofs.YtpmkkhkphddfeaaGreatDoor.X
set_option linter.unusedVariables false
set_option linter.unusedSimpArgs false
namespace Go.Proofs.YtpmkkhkphddfeaaGreatDoor.X
open Go Go.RowKit Go.Proofs.YtpmkkhkphddfeaaGreatDoor.SX
theorem wadd (w x : Nat) (hw : w ≤ 1000000) (hx : x ≤ 65537) : wrap64 ((w : Int) + (x : Int)) = ((w + x : Nat) : Int) ∧ wrap64 (((w + x : Nat) : Int) + 2) = ((w + (x + 2) : Nat) : Int) := by
  refine ⟨?_, ?_⟩
  · rw [w64 (by omega) (by omega), Int.natCast_add]
  · rw [w64 (by omega) (by omega), ← Nat.add_assoc, Int.natCast_add (w + x) 2]
    rfl
theorem width_f {N : List T_api_Node} (h : Wf N) (m : MapN) : ∀ (n i : Nat) (M : List (Int × Int)), i < n → i < N.length → Memo N M → ∀ k j, 4 ≤ k → n ≤ j → ∃ M', (G_syntax_width.rec_ k j).syntax_width ⟨N⟩ (i : Int) M m = some ((wd N i : Int), M') ∧ Memo N M' := by
  intro n
  induction n with
  | zero => intro i M h1; omega
  | succ n ih =>
    intro i M h1 h2 hM k j hk hj
    obtain ⟨j, rfl⟩ : ∃ q, j = q + 1 := ⟨j - 1, by omega⟩
    obtain ⟨k, rfl⟩ : ∃ q, k = q + 3 := ⟨k - 3, by omega⟩
    show ∃ M', syntax_width.F (k + 3) (G_syntax_width.rec_ (k + 3) j) ⟨N⟩ (i : Int) M m = _ ∧ _
    unfold syntax_width.F
    cases hg : mget eqI M (i : Int) with
    | some v =>
      obtain ⟨q, e1, e2, e3⟩ := hM _ _ hg
      obtain rfl : i = q := by omega
      refine ⟨M, ?_, hM⟩
      show some (v, M) = _
      rw [e3]
    | none =>
      show ∃ M', (formula_Table_Node.f ⟨N⟩ (i : Int) m).bind _ = _ ∧ _
      rw [node_f' N m i h2, bind_some', show syntax_pieces.f ⟨N⟩ (ndA N i, true).1 m = _ from pieces_f h m h2, bind_some']
      obtain ⟨b1, b2⟩ := shp_below h h2
      have hname := h.name i h2
      have fin : ∀ (w : Nat) (M1 : List (Int × Int)), min 65537 w = wd N i → Memo N M1 → ∃ M', some (((mget eqI (mput eqI M1 (i : Int) (if (65537 : Int) < (w : Int) then 65537 else (w : Int))) (i : Int)).getD (0 : Int)), mput eqI M1 (i : Int) (if (65537 : Int) < (w : Int) then 65537 else (w : Int))) = some ((wd N i : Int), M') ∧ Memo N M' := by
        intro w M1 e1 e2
        have e3 : (if (65537 : Int) < (w : Int) then (65537 : Int) else (w : Int)) = (wd N i : Int) := by split <;> omega
        rw [e3, mget_mput eqI_iff, show eqI (i : Int) (i : Int) = true from beq_self_eq_true _]
        exact ⟨_, rfl, e2.put h2⟩
      have one : ∀ (p : List UInt8 × List Int × List Int) (q : Nat) (w : Nat) (l : Nat) (a : Int) (M1 : List (Int × Int)) (kk : Nat), p.2.1[q]? = some (l : Int) → p.2.2[q]? = some a → q < p.2.1.length → q ≤ 2 → l < i → Memo N M1 → w ≤ 1000000 → ∃ M2, syntax_width.l1 (k + 3) ⟨N⟩ m (G_syntax_width.rec_ (k + 3) j) p (kk + 1) (w : Int) (q : Int) M1 = syntax_width.l1 (k + 3) ⟨N⟩ m (G_syntax_width.rec_ (k + 3) j) p kk ((w + (wd N l + rdT N l a) : Nat) : Int) ((q + 1 : Nat) : Int) M2 ∧ Memo N M2 := by
        intro p q w l a M1 kk g1 g2 g3 g4 g5 g6 g7
        obtain ⟨M2, e1, e2⟩ := ih l M1 (by omega) (by omega) g6 (k + 3) j (by omega) (by omega)
        have hl := wd_le (N := N) l
        refine ⟨M2, ?_, e2⟩
        rw [syntax_width.l1.eq_2, decide_eq_true (by omega : (q : Int) < (p.2.1.length : Int)), cond_true, ix_nat, g1, bind_some', e1, bind_some', ix_nat, g2, bind_some', level_f h m (by omega), bind_some']
        simp only
        obtain ⟨hw, h2'⟩ := wadd w (wd N l) g7 hl
        rw [hw]
        unfold rdT
        cases decide (lvA N l < a) with
        | true =>
          rw [cond_true, cond_true, bind_some', wsucc q (by omega)]
          simp only [Nat.add_zero]
          rw [h2']
        | false =>
          rw [cond_false, cond_false, bind_some', wsucc q (by omega)]
          simp only [Nat.add_zero]
      have stop : ∀ (p : List UInt8 × List Int × List Int) (q : Nat) (w : Int) (M1 : List (Int × Int)) (kk : Nat), p.2.1.length = q → syntax_width.l1 (k + 3) ⟨N⟩ m (G_syntax_width.rec_ (k + 3) j) p (kk + 1) w (q : Int) M1 = some (w, M1) := by
        intro p q w M1 kk g1
        rw [syntax_width.l1.eq_2, decide_eq_false (by omega : ¬ (q : Int) < (p.2.1.length : Int))]
        rfl
      have hwd := wd_eq h h2
      cases hs : shp N (ndA N i) with
      | lit s =>
        rw [hs] at hwd
        simp only at hwd
        show ∃ M', (syntax_width.l1 (k + 3) ⟨N⟩ m (G_syntax_width.rec_ (k + 3) j) (s, [], []) (k + 2 + 1) (s.length : Int) ((0 : Nat) : Int) M).bind _ = _ ∧ _
        rw [stop (s, [], []) 0 _ M (k + 2) rfl, bind_some']
        exact fin s.length M hwd.symm hM
      | neg l =>
        have hl := b1 l hs
        rw [hs] at hwd
        simp only at hwd
        obtain ⟨M2, e1, e2⟩ := one ([126], [(l : Int)], [3]) 0 1 l 3 M (k + 2) rfl rfl (by show 0 < 1; omega) (by omega) hl hM (by omega)
        show ∃ M', (syntax_width.l1 (k + 3) ⟨N⟩ m (G_syntax_width.rec_ (k + 3) j) ([126], [(l : Int)], [3]) (k + 2 + 1) ((1 : Nat) : Int) ((0 : Nat) : Int) M).bind _ = _ ∧ _
        rw [e1, stop ([126], [(l : Int)], [3]) (0 + 1) _ M2 (k + 1) rfl, bind_some']
        exact fin _ M2 hwd.symm e2
      | two s l a r b =>
        have hl := b2 s l a r b hs
        rw [hs] at hwd
        simp only at hwd
        have hsl : s.length ≤ 4 := by
          unfold shp at hs
          revert hs
          cases (ndA N i).f_Kind == 3 <;> cases (ndA N i).f_Kind == 4 <;> cases (ndA N i).f_Kind == 5 <;> cases botA N (ndA N i).f_R.toNat <;> cases botA N (ndA N i).f_L.toNat <;> cases (ndA N i).f_Kind == 2 <;> intro hs <;> first | (injection hs with e1; rw [← e1]; decide) | cases hs
        have hwl := wd_le (N := N) l
        have hrl := rd_le N l a
        obtain ⟨M2, e1, e2⟩ := one (s, [(l : Int), (r : Int)], [a, b]) 0 s.length l a M (k + 2) rfl rfl (by show 0 < 2; omega) (by omega) hl.1 hM (by omega)
        obtain ⟨M3, e3, e4⟩ := one (s, [(l : Int), (r : Int)], [a, b]) 1 (s.length + (wd N l + rdT N l a)) r b M2 (k + 1) rfl rfl (by show 1 < 2; omega) (by omega) hl.2 e2 (by omega)
        show ∃ M', (syntax_width.l1 (k + 3) ⟨N⟩ m (G_syntax_width.rec_ (k + 3) j) (s, [(l : Int), (r : Int)], [a, b]) (k + 2 + 1) (s.length : Int) ((0 : Nat) : Int) M).bind _ = _ ∧ _
        rw [e1, e3, stop (s, [(l : Int), (r : Int)], [a, b]) (1 + 1) _ M3 k rfl, bind_some']
        exact fin _ M3 hwd.symm e4
end Go.Proofs.YtpmkkhkphddfeaaGreatDoor.X
set_option linter.unusedVariables false
set_option linter.unusedSimpArgs false
namespace Go.Proofs.YtpmkkhkphddfeaaGreatDoor.X
open Go Go.RowKit Go.Proofs.YtpmkkhkphddfeaaGreatDoor.SX
theorem wbyte_f (b : List UInt8) (c : UInt8) (h : b.length ≤ 100000000) : Builder_WriteByte.f b c = some (b ++ [c]) := by
  unfold Builder_WriteByte.f
  rw [chk_of (decide_eq_true (by rw [List.length_singleton]; omega))]
  rfl
theorem wstr_f (b s : List UInt8) (h : b.length + s.length ≤ 100000000) : Builder_WriteString.f b s = some ((s.length : Int), b ++ s) := by
  unfold Builder_WriteString.f
  rw [chk_of (decide_eq_true (by omega))]
  rfl
theorem w01 : wrap64 ((0 : Int) + 1) = ((1 : Nat) : Int) := by rw [w64 (by omega) (by omega)]; rfl
theorem w12 : wrap64 (((1 : Nat) : Int) + 1) = ((2 : Nat) : Int) := by rw [w64 (by omega) (by omega)]; rfl
theorem write_f {N : List T_api_Node} (h : Wf N) (m : MapN) : ∀ (n i : Nat) (b : List UInt8) (a : Int), i < n → i < N.length → b.length + (pt N i a).length ≤ 10000000 → ∀ k j, 4 ≤ k → n ≤ j → (G_syntax_write.rec_ k j).syntax_write b ⟨N⟩ (i : Int) a m = some (b ++ pt N i a) := by
  intro n
  induction n with
  | zero => intro i b a h1; omega
  | succ n ih =>
    intro i b a h1 h2 hb k j hk hj
    obtain ⟨j, rfl⟩ : ∃ q, j = q + 1 := ⟨j - 1, by omega⟩
    obtain ⟨k, rfl⟩ : ∃ q, k = q + 3 := ⟨k - 3, by omega⟩
    show syntax_write.F (k + 3) (G_syntax_write.rec_ (k + 3) j) b ⟨N⟩ (i : Int) a m = _
    unfold syntax_write.F
    rw [node_f' N m i h2, bind_some', show syntax_pieces.f ⟨N⟩ (ndA N i, true).1 m = _ from pieces_f h m h2, bind_some', level_f h m h2, bind_some']
    obtain ⟨b1, b2⟩ := shp_below h h2
    -- what stands between the parentheses
    have key : ∀ c : List UInt8, c.length + (bd N i).length ≤ 10000000 → ((bif (((partsOf (shp N (ndA N i))).2.1.length : Int) != 2) then (Builder_WriteString.f c (partsOf (shp N (ndA N i))).1).bind fun z203 => some z203.2 else some c : Option (List UInt8)).bind fun z132 => syntax_write.l1 (k + 3) ⟨N⟩ m (G_syntax_write.rec_ (k + 3) j) (partsOf (shp N (ndA N i))) (k + 3) 0 z132) = some (c ++ bd N i) := by
      intro c hc
      rw [bd_eq h h2] at hc ⊢
      have stop : ∀ (p : List UInt8 × List Int × List Int) (q : Nat) (w : List UInt8) (kk : Nat), p.2.1.length = q → syntax_write.l1 (k + 3) ⟨N⟩ m (G_syntax_write.rec_ (k + 3) j) p (kk + 1) (q : Int) w = some w := by
        intro p q w kk g1
        rw [syntax_write.l1.eq_2, decide_eq_false (by omega : ¬ (q : Int) < (p.2.1.length : Int))]
        rfl
      cases hs : shp N (ndA N i) with
      | lit s =>
        rw [hs] at hc
        simp only at hc
        show ((Builder_WriteString.f c s).bind _).bind _ = _
        rw [wstr_f c s (by omega)]
        exact stop (s, [], []) 0 _ (k + 2) rfl
      | neg l =>
        have hl := b1 l hs
        rw [hs] at hc
        simp only [List.length_cons] at hc
        show ((Builder_WriteString.f c [126]).bind _).bind _ = _
        rw [wstr_f c [126] (by rw [List.length_singleton]; omega), bind_some', bind_some']
        show syntax_write.l1 (k + 3) ⟨N⟩ m (G_syntax_write.rec_ (k + 3) j) ([126], [(l : Int)], [3]) (k + 2 + 1) 0 (c ++ [126]) = _
        rw [syntax_write.l1.eq_2, w01]
        show (((G_syntax_write.rec_ (k + 3) j).syntax_write (c ++ [126]) ⟨N⟩ (l : Int) 3 m).bind fun z177 => syntax_write.l1 (k + 3) ⟨N⟩ m (G_syntax_write.rec_ (k + 3) j) ([126], [(l : Int)], [3]) (k + 1 + 1) ((1 : Nat) : Int) z177) = _
        rw [ih l (c ++ [126]) 3 (by omega) (by omega) (by rw [List.length_append, List.length_singleton]; omega) (k + 3) j (by omega) (by omega), bind_some', stop ([126], [(l : Int)], [3]) 1 _ (k + 1) rfl]
        simp
      | two s l a r b' =>
        have hl := b2 s l a r b' hs
        rw [hs] at hc
        simp only [List.length_append] at hc
        show syntax_write.l1 (k + 3) ⟨N⟩ m (G_syntax_write.rec_ (k + 3) j) (s, [(l : Int), (r : Int)], [a, b']) (k + 2 + 1) 0 c = _
        rw [syntax_write.l1.eq_2, w01]
        show (((G_syntax_write.rec_ (k + 3) j).syntax_write c ⟨N⟩ (l : Int) a m).bind fun z177 => syntax_write.l1 (k + 3) ⟨N⟩ m (G_syntax_write.rec_ (k + 3) j) (s, [(l : Int), (r : Int)], [a, b']) (k + 1 + 1) ((1 : Nat) : Int) z177) = _
        rw [ih l c a (by omega) (by omega) (by omega) (k + 3) j (by omega) (by omega), bind_some', syntax_write.l1.eq_2, w12]
        show (((Builder_WriteString.f (c ++ pt N l a) s).bind _).bind _) = _
        rw [wstr_f _ s (by rw [List.length_append]; omega), bind_some', bind_some']
        show (((G_syntax_write.rec_ (k + 3) j).syntax_write (c ++ pt N l a ++ s) ⟨N⟩ (r : Int) b' m).bind fun z177 => syntax_write.l1 (k + 3) ⟨N⟩ m (G_syntax_write.rec_ (k + 3) j) (s, [(l : Int), (r : Int)], [a, b']) (k + 1) ((2 : Nat) : Int) z177) = _
        rw [ih r _ b' (by omega) (by omega) (by rw [List.length_append, List.length_append]; omega) (k + 3) j (by omega) (by omega), bind_some', stop (s, [(l : Int), (r : Int)], [a, b']) 2 _ k rfl]
        simp
    have hpl := pt_len N i a
    cases hc : decide (lvA N i < a) with
    | true =>
      have e1 : pt N i a = 40 :: (bd N i ++ [41]) := by unfold pt ptT; rw [hc]; rfl
      rw [e1] at hb ⊢
      simp only [List.length_cons, List.length_append, List.length_nil] at hb
      rw [cond_true, wbyte_f b 40 (by omega), bind_some', bind_some']
      have := key (b ++ [40]) (by rw [List.length_append, List.length_singleton]; omega)
      rw [← Option.bind_assoc, this, bind_some', cond_true, wbyte_f _ 41 (by simp only [List.length_append, List.length_singleton]; omega)]
      simp
    | false =>
      have e1 : pt N i a = bd N i := by unfold pt ptT; rw [hc]; rfl
      rw [e1] at hb ⊢
      rw [cond_false, bind_some']
      have := key b (by omega)
      rw [← Option.bind_assoc, this]
      rfl
/-- What is written; 31: no such formula; 11: too long a text. -/
def printP (N : List T_api_Node) (i : Int) : List UInt8 × Int := bif hasN N i then (bif decide (65536 < wd N i.toNat) then ([], 11) else (bd N i.toNat, 0)) else ([], 31)
theorem print_f (k : Nat) {N : List T_api_Node} (h : Wf N) (m : MapN) (hT : Tab N m) (i : Int) (hk : 1100 ≤ k) : syntax_Print.f k ⟨N⟩ i m = some (printP N i) := by
  unfold syntax_Print.f printP
  have hr := hT.room
  rw [known_f k N m hT (by omega), bind_some', show (!true) = false from rfl, cond_false]
  cases hh : hasN N i with
  | false => rw [node_no N m i hh]; rfl
  | true =>
    have h2 : 0 ≤ i ∧ i < (N.length : Int) := by unfold hasN at hh; rw [Bool.and_eq_true, decide_eq_true_eq, decide_eq_true_eq] at hh; exact hh
    obtain ⟨q, rfl⟩ : ∃ q : Nat, i = (q : Int) := ⟨i.toNat, by omega⟩
    have hq : q < N.length := by omega
    rw [node_f' N m q hq, bind_some', show (!((ndA N q, true) : T_api_Node × Bool).2) = false from rfl, cond_false, cond_true, Int.toNat_natCast]
    obtain ⟨M', e1, _⟩ := width_f h m (q + 1) q [] (by omega) hq (fun id v hv => by cases hv) k k (by omega) (by omega)
    rw [show syntax_width.f k ⟨N⟩ (q : Int) ([] : List (Int × Int)) m = _ from e1, bind_some']
    have hd : decide ((wd N q : Int) > 65536) = decide (65536 < wd N q) := by rw [decide_eq_decide]; omega
    show (bif decide ((wd N q : Int) > 65536) then _ else _) = _
    rw [hd]
    by_cases hw : 65536 < wd N q
    · rw [decide_eq_true hw]; rfl
    · rw [decide_eq_false hw, cond_false, cond_false]
      have hlen := bd_len h (q + 1) q (by omega) hq (by omega)
      have hlv : decide (lvA N q < 0) = false := by
        unfold lvA
        cases (ndA N q).f_Kind == 3 <;> cases (ndA N q).f_Kind == 4 <;> cases (ndA N q).f_Kind == 5 <;> cases botA N (ndA N q).f_R.toNat <;> rfl
      have hpt : pt N q 0 = bd N q := by unfold pt ptT; rw [hlv]; rfl
      rw [show syntax_write.f k ([] : List UInt8) ⟨N⟩ (q : Int) 0 m = _ from write_f h m (q + 1) q [] 0 (by omega) hq (by rw [hpt, hlen, List.length_nil]; omega) k k (by omega) (by omega), bind_some', hpt, List.nil_append]
      unfold Builder_String.f
      rw [chk_of (decide_eq_true (by omega))]
      rfl
end Go.Proofs.YtpmkkhkphddfeaaGreatDoor.X
set_option linter.unusedVariables false
set_option linter.unusedSimpArgs false
namespace Go.Proofs.YtpmkkhkphddfeaaGreatDoor.X
open Go Go.RowKit Go.Proofs.YtpmkkhkphddfeaaGreatDoor.SX
theorem fit_facts {N : List T_api_Node} {x : T_api_Node} (h : fitN N x = 0) : (x.f_Kind = 1 ∨ x.f_Kind = 2 ∨ x.f_Kind = 3 ∨ x.f_Kind = 4 ∨ x.f_Kind = 5) ∧ x.f_Name.length ≤ 31 ∧ (x.f_Kind = 3 ∨ x.f_Kind = 4 ∨ x.f_Kind = 5 → hasN N x.f_L = true ∧ hasN N x.f_R = true) := by
  unfold fitN at h
  cases h1 : x.f_Kind == 1 with
  | true =>
    have e : x.f_Kind = 1 := by simpa using h1
    rw [h1, cond_true] at h
    cases h2 : (x.f_L != 0 || x.f_R != 0) with
    | true => rw [h2, cond_true] at h; exact absurd h (by decide)
    | false =>
      rw [h2, cond_false] at h
      cases h3 : wordB x.f_Name with
      | true =>
        unfold wordB at h3
        rw [Bool.and_eq_true, Bool.and_eq_true, Bool.and_eq_true, decide_eq_true_eq] at h3
        exact ⟨.inl e, h3.2.2.1, fun h => by rw [e] at h; rcases h with h | h | h <;> exact absurd h (by decide)⟩
      | false => rw [h3, cond_false] at h; exact absurd h (by decide)
  | false =>
  rw [h1, cond_false] at h
  cases h2 : x.f_Kind == 2 with
  | true =>
    have e : x.f_Kind = 2 := by simpa using h2
    rw [h2, cond_true] at h
    cases h3 : x.f_Name == [] with
    | true =>
      have e3 : x.f_Name = [] := by simpa using h3
      exact ⟨.inr (.inl e), (by rw [e3]; exact Nat.zero_le _), fun h => by rw [e] at h; rcases h with h | h | h <;> exact absurd h (by decide)⟩
    | false => rw [h3] at h; exact absurd h (by show ¬ (31 : Int) = 0; decide)
  | false =>
  rw [h2, cond_false] at h
  cases h3 : x.f_Kind == 3 || (x.f_Kind == 4 || x.f_Kind == 5) with
  | false => rw [h3, cond_false] at h; exact absurd h (by decide)
  | true =>
    rw [h3, cond_true] at h
    rw [Bool.or_eq_true, Bool.or_eq_true, beq_iff_eq, beq_iff_eq, beq_iff_eq] at h3
    cases h4 : x.f_Name == [] with
    | false => rw [h4] at h; exact absurd h (by show ¬ (31 : Int) = 0; decide)
    | true =>
      have e3 : x.f_Name = [] := by simpa using h4
      rw [h4] at h
      refine ⟨.inr (.inr h3), (by rw [e3]; exact Nat.zero_le _), fun _ => ?_⟩
      cases h5 : hasN N x.f_L <;> cases h6 : hasN N x.f_R <;> rw [h5, h6] at h
      · exact absurd h (by show ¬ (31 : Int) = 0; decide)
      · exact absurd h (by show ¬ (31 : Int) = 0; decide)
      · exact absurd h (by show ¬ (31 : Int) = 0; decide)
      · exact ⟨rfl, rfl⟩
theorem good_fit : ∀ (a N : List T_api_Node), good N a = true → ∀ i (h : i < a.length), fitN (N ++ a.take i) a[i] = 0
  | [], N, _, i, h => absurd h (Nat.not_lt_zero _)
  | x :: r, N, hg, 0, h => by
    have := (good_cons.1 hg).1.1
    rw [List.take_zero, List.append_nil]
    exact this
  | x :: r, N, hg, i + 1, h => by
    have := good_fit r (N ++ [x]) (good_cons.1 hg).2 i (by simpa using h)
    rw [List.append_assoc] at this
    exact this
theorem hasN_take {a : List T_api_Node} {i : Nat} {v : Int} (hi : i < a.length) (h : hasN (a.take i) v = true) : 0 ≤ v ∧ v < (i : Int) := by
  unfold hasN at h
  rw [Bool.and_eq_true, decide_eq_true_eq, decide_eq_true_eq, List.length_take] at h
  omega
theorem good_wf {a : List T_api_Node} (h : good [] a = true) : Wf a := by
  have key : ∀ i, i < a.length → fitN (a.take i) (ndA a i) = 0 := fun i hi => by
    have h1 := good_fit a [] h i hi
    have h2 := ndA_get hi
    rw [List.getElem?_eq_getElem hi] at h2
    rw [← Option.some.inj h2]
    exact h1
  refine ⟨fun i hi hk => ?_, fun i hi => (fit_facts (key i hi)).2.1, fun i hi => (fit_facts (key i hi)).1⟩
  have := (fit_facts (key i hi)).2.2 hk
  have h1 := hasN_take hi this.1
  have h2 := hasN_take hi this.2
  exact ⟨h1.1, h1.2, h2.1, h2.2⟩
theorem rows_wf (a : List T_api_Node) : Wf (rowsOf a) := by
  unfold rowsOf
  cases h : good [] a with
  | true => exact good_wf h
  | false => exact ⟨fun i hi => absurd hi (Nat.not_lt_zero _), fun i hi => absurd hi (Nat.not_lt_zero _), fun i hi => absurd hi (Nat.not_lt_zero _)⟩
end Go.Proofs.YtpmkkhkphddfeaaGreatDoor.X
set_option linter.unusedVariables false
set_option linter.unusedSimpArgs false
namespace Go.Proofs.YtpmkkhkphddfeaaGreatDoor.X
open Go Go.RowKit Go.Proofs.YtpmkkhkphddfeaaGreatDoor.SX
/-- A token that ends a formula. -/
structure Stop (t : T_api_Token) : Prop where
  k1 : (t.f_Kind == 1) = false
  s1 : signB t [126] = false
  s2 : signB t [40] = false
  s3 : signB t [124] = false
  s4 : signB t [38] = false
  s5 : signB t [45, 62] = false
  s6 : signB t [60, 45, 62] = false
/-- The same tokens at other spots, up to an end. -/
inductive Smt (l0 l1 : List T_api_Token) : List T_api_Token → List T_api_Token → Prop
  | base : Smt l0 l1 l0 l1
  | cons (t t' : T_api_Token) (l l' : List T_api_Token) : t.f_Kind ≠ 0 → t'.f_Kind = t.f_Kind → t'.f_Text = t.f_Text → Smt l0 l1 l l' → Smt l0 l1 (t :: l) (t' :: l')
abbrev hdl (l : List T_api_Token) : T_api_Token := l.headD tok0
/-- Ends. -/
structure Ends (l0 l1 : List T_api_Token) : Prop where
  a : Stop (hdl l0)
  b : Stop (hdl l1)
  k : (hdl l0).f_Kind = 0
theorem sign0 {t : T_api_Token} (h : t.f_Kind = 0) (x : List UInt8) : signB t x = false := by
  unfold signB
  rw [h]
  rfl
section
variable {l0 l1 : List T_api_Token}
theorem Smt.sign (h0 : Ends l0 l1) {l l' : List T_api_Token} (h : Smt l0 l1 l l') {x : List UInt8} (hx : signB (hdl l0) x = false ∧ signB (hdl l1) x = false) : signB (hdl l') x = signB (hdl l) x := by
  cases h with
  | base => rw [hx.1, hx.2]
  | cons t t' l l' a b c d => show signB t' x = signB t x; unfold signB; rw [b, c]
theorem Smt.kind (h0 : Ends l0 l1) {l l' : List T_api_Token} (h : Smt l0 l1 l l') : ((hdl l').f_Kind == 1) = ((hdl l).f_Kind == 1) := by
  cases h with
  | base => rw [h0.a.k1, h0.b.k1]
  | cons t t' l l' a b c d => show (t'.f_Kind == 1) = _; rw [b]; rfl
theorem Smt.text {l l' : List T_api_Token} (h : Smt l0 l1 l l') (hk : (hdl l).f_Kind ≠ 0) (h0 : (hdl l0).f_Kind = 0) : (hdl l').f_Text = (hdl l).f_Text ∧ Smt l0 l1 l.tail l'.tail := by
  cases h with
  | base => exact absurd h0 hk
  | cons t t' l l' a b c d => exact ⟨c, d⟩
theorem sign_kind {t : T_api_Token} {x : List UInt8} (h : signB t x = true) : t.f_Kind ≠ 0 := by
  intro e
  rw [sign0 e] at h
  cases h
theorem Smt.close (h0 : Ends l0 l1) {l l' : List T_api_Token} (h : Smt l0 l1 l l') {x : List UInt8} (hx : signB (hdl l) x = true) : signB (hdl l') x = true ∧ Smt l0 l1 l.tail l'.tail := by
  cases h with
  | base => exact absurd h0.k (sign_kind hx)
  | cons t t' l l' a b c d => exact ⟨by rw [← hx]; show signB t' x = signB t x; unfold signB; rw [b, c], d⟩
/-- What comes of a state comes of the same tokens and any table that has the rows. -/
def Sp (l0 l1 : List T_api_Token) (s : PS) (x : PO) (y : List T_api_Token → List T_api_Node → PO) : Prop := ∀ a q, x = some (.inr (a, q)) → q.ts.length ≤ s.ts.length ∧ (q.full = false → s.full = false ∧ s.N <+: q.N ∧ hasN q.N a = true ∧ ∀ M ts', M.Nodup → q.N <+: M → Smt l0 l1 s.ts ts' → ∃ tq, Smt l0 l1 q.ts tq ∧ y ts' M = some (.inr (a, ⟨tq, q.nm, false, M⟩)))
def okA (s : PS) (a : Int) : Prop := s.full = false → hasN s.N a = true
theorem hasN_pre {N M : List T_api_Node} {a : Int} (h : N <+: M) (ha : hasN N a = true) : hasN M a = true := by
  have := h.length_le
  unfold hasN at ha ⊢
  rw [Bool.and_eq_true, decide_eq_true_eq, decide_eq_true_eq] at ha ⊢
  omega
theorem Sp.th {s : PS} {x : PO} {y : List T_api_Token → List T_api_Node → PO} {f g : Int → PS → PO} (hx : Sp l0 l1 s x y) (hf : ∀ a s1, s1.ts.length ≤ s.ts.length → (s1.full = false → s.full = false ∧ s.N <+: s1.N) → okA s1 a → Sp l0 l1 s1 (f a s1) (fun ts' M => g a ⟨ts', s1.nm, false, M⟩)) : Sp l0 l1 s (X.th x f) (fun ts' M => X.th (y ts' M) g) := by
  intro a q e
  cases x with
  | none => cases e
  | some o =>
    cases o with
    | inl e' => cases e
    | inr p =>
      obtain ⟨a1, s1⟩ := p
      have e2 : f a1 s1 = some (.inr (a, q)) := e
      obtain ⟨c1, c2⟩ := hx a1 s1 rfl
      obtain ⟨d1, d2⟩ := hf a1 s1 c1 (fun h => ⟨(c2 h).1, (c2 h).2.1⟩) (fun h => (c2 h).2.2.1) a q e2
      refine ⟨Nat.le_trans d1 c1, fun h => ?_⟩
      obtain ⟨u1, u2, u3, u4⟩ := d2 h
      obtain ⟨v1, v2, v3, v4⟩ := c2 u1
      refine ⟨v1, v2.trans u2, u3, fun M ts' hM hp hs => ?_⟩
      obtain ⟨t1, w1, w2⟩ := v4 M ts' hM (u2.trans hp) hs
      obtain ⟨t2, z1, z2⟩ := u4 M t1 hM hp w1
      refine ⟨t2, z1, ?_⟩
      show X.th (y ts' M) g = _
      rw [w2]
      exact z2
theorem Sp.bif {s : PS} {c : Bool} {c' : List T_api_Token → Bool} {x x2 : PO} {y y2 : List T_api_Token → List T_api_Node → PO} (hc : ∀ ts', Smt l0 l1 s.ts ts' → c' ts' = c) (h1 : c = true → Sp l0 l1 s x y) (h2 : c = false → Sp l0 l1 s x2 y2) : Sp l0 l1 s (bif c then x else x2) (fun ts' M => bif c' ts' then y ts' M else y2 ts' M) := by
  intro a q e
  cases c with
  | true =>
    obtain ⟨d1, d2⟩ := h1 rfl a q e
    refine ⟨d1, fun h => ?_⟩
    obtain ⟨u1, u2, u3, u4⟩ := d2 h
    refine ⟨u1, u2, u3, fun M ts' hM hp hs => ?_⟩
    obtain ⟨t2, z1, z2⟩ := u4 M ts' hM hp hs
    refine ⟨t2, z1, ?_⟩
    show (bif c' ts' then y ts' M else y2 ts' M) = _
    rw [hc ts' hs]
    exact z2
  | false =>
    obtain ⟨d1, d2⟩ := h2 rfl a q e
    refine ⟨d1, fun h => ?_⟩
    obtain ⟨u1, u2, u3, u4⟩ := d2 h
    refine ⟨u1, u2, u3, fun M ts' hM hp hs => ?_⟩
    obtain ⟨t2, z1, z2⟩ := u4 M ts' hM hp hs
    refine ⟨t2, z1, ?_⟩
    show (bif c' ts' then y ts' M else y2 ts' M) = _
    rw [hc ts' hs]
    exact z2
theorem Sp.err {s : PS} {e : PE} {y : List T_api_Token → List T_api_Node → PO} : Sp l0 l1 s (some (.inl e)) y := fun a q h => by cases h
/-- A way that must hold. -/
theorem Sp.must {s : PS} {c : Bool} {c' : List T_api_Token → Bool} {x : PO} {e : PE} {y y2 : List T_api_Token → List T_api_Node → PO} (hc : ∀ ts', Smt l0 l1 s.ts ts' → c = true → c' ts' = true) (h1 : c = true → Sp l0 l1 s x y) : Sp l0 l1 s (bif c then x else some (.inl e)) (fun ts' M => bif c' ts' then y ts' M else y2 ts' M) := by
  intro a q e
  cases c with
  | true =>
    obtain ⟨d1, d2⟩ := h1 rfl a q e
    refine ⟨d1, fun h => ?_⟩
    obtain ⟨u1, u2, u3, u4⟩ := d2 h
    refine ⟨u1, u2, u3, fun M ts' hM hp hs => ?_⟩
    obtain ⟨t2, z1, z2⟩ := u4 M ts' hM hp hs
    refine ⟨t2, z1, ?_⟩
    show (_root_.cond (c' ts') (y ts' M) (y2 ts' M)) = _
    rw [hc ts' hs rfl]
    exact z2
  | false => cases e
theorem Sp.adv {s : PS} {x : PO} {g : List T_api_Token → List T_api_Node → PO} (ht : ∀ ts', Smt l0 l1 s.ts ts' → Smt l0 l1 s.ts.tail ts'.tail) (h : Sp l0 l1 (X.adv s) x g) : Sp l0 l1 s x (fun ts' M => g ts'.tail M) := by
  intro a q e
  obtain ⟨d1, d2⟩ := h a q e
  refine ⟨Nat.le_trans d1 (by show s.ts.tail.length ≤ _; rw [List.length_tail]; omega), fun h => ?_⟩
  obtain ⟨u1, u2, u3, u4⟩ := d2 h
  exact ⟨u1, u2, u3, fun M ts' hM hp hs => u4 M ts'.tail hM hp (ht ts' hs)⟩
theorem Sp.ret {s : PS} {a : Int} (ha : okA s a) : Sp l0 l1 s (some (.inr (a, s))) (fun ts' M => some (.inr (a, ⟨ts', s.nm, false, M⟩))) := by
  intro a' q e
  injection e with e
  injection e with e
  injection e with e1 e2
  subst e1 e2
  exact ⟨Nat.le_refl _, fun h => ⟨h, List.prefix_rfl, ha h, fun M ts' hM hp hs => ⟨ts', hs, rfl⟩⟩⟩
theorem fit_pre {N M : List T_api_Node} {x : T_api_Node} (h : N <+: M) (hf : fitN N x = 0) : fitN M x = 0 := by
  unfold fitN at hf ⊢
  cases h1 : x.f_Kind == 1 with
  | true => rw [h1, cond_true] at hf; rw [cond_true]; exact hf
  | false =>
  rw [h1, cond_false] at hf
  rw [cond_false]
  cases h2 : x.f_Kind == 2 with
  | true => rw [h2, cond_true] at hf; rw [cond_true]; exact hf
  | false =>
  rw [h2, cond_false] at hf
  rw [cond_false]
  cases h3 : x.f_Kind == 3 || (x.f_Kind == 4 || x.f_Kind == 5) with
  | false => rw [h3, cond_false] at hf; exact absurd hf (by decide)
  | true =>
    rw [h3, cond_true] at hf
    rw [cond_true]
    cases h4 : (x.f_Name == []) with
    | false => rw [h4] at hf; exact absurd hf (by show ¬ (31 : Int) = 0; decide)
    | true =>
      rw [h4] at hf
      cases h5 : hasN N x.f_L with
      | false => rw [h5] at hf; exact absurd hf (by show ¬ (31 : Int) = 0; decide)
      | true =>
        cases h6 : hasN N x.f_R with
        | false => rw [h5, h6] at hf; exact absurd hf (by show ¬ (31 : Int) = 0; decide)
        | true => rw [hasN_pre h h5, hasN_pre h h6]; rfl
theorem get_pre {N M : List T_api_Node} {i : Nat} {x : T_api_Node} (h : N <+: M) (hx : N[i]? = some x) : M[i]? = some x := by
  obtain ⟨r, rfl⟩ := h
  have := (List.getElem?_eq_some_iff.1 hx).1
  rw [List.getElem?_append_left this]
  exact hx
theorem has_nat {N : List T_api_Node} {i : Nat} (h : i < N.length) : hasN N (i : Int) = true := by
  unfold hasN
  rw [Bool.and_eq_true, decide_eq_true_eq, decide_eq_true_eq]
  omega
theorem Sp.nd {s : PS} {x : T_api_Node} (hf : s.full = false → fitN s.N x = 0) : Sp l0 l1 s (some (.inr (X.nd s x))) (fun ts' M => some (.inr (X.nd ⟨ts', s.nm, false, M⟩ x))) := by
  intro a q e
  injection e with e
  injection e with e
  refine ⟨?_, fun h => ?_⟩
  · have := nd_ts s x
    rw [e] at this
    rw [show q.ts = s.ts from this]
    exact Nat.le_refl _
  unfold X.nd at e
  cases hs : s.full with
  | true =>
    rw [hs, cond_true] at e
    injection e with e1 e2
    rw [← e2, hs] at h
    cases h
  | false =>
    have hf0 := hf hs
    rw [hs, cond_false] at e
    injection e with e1 e2
    have key : ∀ i : Nat, (putN s.N x).1 = (i : Int) → s.N <+: (putN s.N x).2.2 → (putN s.N x).2.2[i]? = some x → s.full = false → true = true ∧ s.N <+: q.N ∧ hasN q.N a = true ∧ ∀ M ts', M.Nodup → q.N <+: M → Smt l0 l1 s.ts ts' → ∃ tq, Smt l0 l1 q.ts tq ∧ some (.inr (X.nd ⟨ts', s.nm, false, M⟩ x)) = (some (.inr (a, ⟨tq, q.nm, false, M⟩)) : PO) := by
      intro i g1 g2 g3 _
      subst e2
      have g4 := (List.getElem?_eq_some_iff.1 g3).1
      refine ⟨rfl, g2, by rw [← e1, g1]; exact has_nat g4, fun M ts' hM hp hsim => ⟨ts', hsim, ?_⟩⟩
      have hm := numN_of hM (get_pre hp g3)
      have hp2 := putN_old (fit_pre (g2.trans hp) hf0) hm
      unfold X.nd
      rw [cond_false, hp2, ← e1, g1]
      rfl
    have fin : ∀ i : Nat, (putN s.N x).1 = (i : Int) → s.N <+: (putN s.N x).2.2 → (putN s.N x).2.2[i]? = some x → false = false ∧ s.N <+: q.N ∧ hasN q.N a = true ∧ ∀ M ts', M.Nodup → q.N <+: M → Smt l0 l1 s.ts ts' → ∃ tq, Smt l0 l1 q.ts tq ∧ some (.inr (X.nd ⟨ts', s.nm, false, M⟩ x)) = (some (.inr (a, ⟨tq, q.nm, false, M⟩)) : PO) := fun i g1 g2 g3 => ⟨rfl, (key i g1 g2 g3 hs).2⟩
    cases hn : numN s.N x with
    | some i =>
      have hp := putN_old hf0 hn
      exact fin i (by rw [hp]) (by rw [hp]; exact List.prefix_rfl) (by rw [hp]; exact numN_get hn)
    | none =>
      by_cases hl : 1024 ≤ s.N.length
      · rw [putN_full hf0 hn hl] at e2
        rw [← e2] at h
        exact absurd (show true = false from h) (by decide)
      · have hp := putN_new hf0 hn (by omega)
        exact fin s.N.length (by rw [hp]) (by rw [hp]; exact List.prefix_append _ _) (by rw [hp, List.getElem?_append_right (Nat.le_refl _), Nat.sub_self]; rfl)
end
end Go.Proofs.YtpmkkhkphddfeaaGreatDoor.X
set_option linter.unusedVariables false
set_option linter.unusedSimpArgs false
namespace Go.Proofs.YtpmkkhkphddfeaaGreatDoor.X
open Go Go.RowKit Go.Proofs.YtpmkkhkphddfeaaGreatDoor.SX
theorem tkn_no (s : PS) (f : PS → PO) : tkn false s f = f (adv s) := by
  unfold tkn tk4
  rw [Bool.and_false]
  rfl
variable {l0 l1 : List T_api_Token}
theorem Sp.tkn {s : PS} {f g : PS → PO} (ht : ∀ ts', Smt l0 l1 s.ts ts' → Smt l0 l1 s.ts.tail ts'.tail) (h : Sp l0 l1 (X.adv s) (f (X.adv s)) (fun ts' M => g ⟨ts', s.nm, false, M⟩)) : Sp l0 l1 s (X.tkn false s f) (fun ts' M => X.tkn false ⟨ts', s.nm, false, M⟩ g) := by
  rw [tkn_no]
  have h2 : (fun ts' M => X.tkn false ⟨ts', s.nm, false, M⟩ g) = (fun (ts' : List T_api_Token) (M : List T_api_Node) => (fun (ts' : List T_api_Token) (M : List T_api_Node) => g ⟨ts', s.nm, false, M⟩) ts'.tail M) := by
    funext ts' M
    rw [tkn_no]
    rfl
  rw [h2]
  exact Sp.adv ht h
theorem okA.on {s s1 : PS} {a : Int} (h : okA s a) (hs : s1.full = false → s.full = false ∧ s.N <+: s1.N) : okA s1 a := fun hf => hasN_pre (hs hf).2 (h (hs hf).1)
theorem fit_two {N : List T_api_Node} {k a b : Int} (hk : k = 3 ∨ k = 4 ∨ k = 5) (ha : hasN N a = true) (hb : hasN N b = true) : fitN N ⟨k, [], a, b⟩ = 0 := by
  unfold fitN
  simp only [ha, hb]
  rcases hk with rfl | rfl | rfl <;> rfl
theorem Sp.two {s : PS} {k a b : Int} (hk : k = 3 ∨ k = 4 ∨ k = 5) (ha : okA s a) (hb : okA s b) : Sp l0 l1 s (some (.inr (X.nd s ⟨k, [], a, b⟩))) (fun ts' M => some (.inr (X.nd ⟨ts', s.nm, false, M⟩ ⟨k, [], a, b⟩))) := Sp.nd fun h => fit_two hk (ha h) (hb h)
theorem iffN_th (s : PS) (a b : Int) : (some (.inr (iffN s a b)) : PO) = th (some (.inr (impN s a b))) fun u s => th (some (.inr (impN s b a))) fun v s => some (.inr (nd s ⟨3, [], u, v⟩)) := rfl
theorem notN_th (s : PS) (a : Int) : (some (.inr (notN s a)) : PO) = th (some (.inr (nd s ⟨2, [], 0, 0⟩))) fun u s => some (.inr (nd s ⟨5, [], a, u⟩)) := rfl
theorem topN_th (s : PS) : (some (.inr (topN s)) : PO) = th (some (.inr (nd s ⟨2, [], 0, 0⟩))) fun u s => some (.inr (nd s ⟨5, [], u, u⟩)) := rfl
theorem Sp.imp {s : PS} {a b : Int} (ha : okA s a) (hb : okA s b) : Sp l0 l1 s (some (.inr (impN s a b))) (fun ts' M => some (.inr (impN ⟨ts', s.nm, false, M⟩ a b))) := Sp.two (.inr (.inr rfl)) ha hb
theorem Sp.iff {s : PS} {a b : Int} (ha : okA s a) (hb : okA s b) : Sp l0 l1 s (some (.inr (iffN s a b))) (fun ts' M => some (.inr (iffN ⟨ts', s.nm, false, M⟩ a b))) :=
  Sp.th (Sp.imp ha hb) (g := fun u s => X.th (some (.inr (impN s b a))) fun v s => some (.inr (X.nd s ⟨3, [], u, v⟩))) fun u s1 _ h1 hu =>
  Sp.th (Sp.imp (hb.on h1) (ha.on h1)) (g := fun v s => some (.inr (X.nd s ⟨3, [], u, v⟩))) fun v s2 _ h2 hv => Sp.two (.inl rfl) (hu.on h2) hv
theorem Sp.bot {s : PS} : Sp l0 l1 s (some (.inr (X.nd s ⟨2, [], 0, 0⟩))) (fun ts' M => some (.inr (X.nd ⟨ts', s.nm, false, M⟩ ⟨2, [], 0, 0⟩))) := Sp.nd fun h => rfl
theorem Sp.not {s : PS} {a : Int} (ha : okA s a) : Sp l0 l1 s (some (.inr (notN s a))) (fun ts' M => some (.inr (notN ⟨ts', s.nm, false, M⟩ a))) :=
  Sp.th Sp.bot (g := fun u s => some (.inr (X.nd s ⟨5, [], a, u⟩))) fun u s1 _ h1 hu => Sp.two (.inr (.inr rfl)) (ha.on h1) hu
theorem Sp.top {s : PS} : Sp l0 l1 s (some (.inr (topN s))) (fun ts' M => some (.inr (topN ⟨ts', s.nm, false, M⟩))) :=
  Sp.th Sp.bot (g := fun u s => some (.inr (X.nd s ⟨5, [], u, u⟩))) fun u s1 _ h1 hu => Sp.two (.inr (.inr rfl)) hu hu
theorem fit_atom {N : List T_api_Node} {x : List UInt8} (h : wordB x = true) : fitN N ⟨1, x, 0, 0⟩ = 0 := by
  unfold fitN
  simp only [h]
  rfl
def mdA : Mod → PS → Prop
  | .jl a, s => okA s a
  | .bl a, s => okA s a
  | _, _ => True
theorem ps_sp (h0 : Ends l0 l1) (hc0 : signB (hdl l0) [41] = false) : ∀ (n n' : Nat), n ≤ n' → ∀ (md : Mod) (ns ns' : Nat) (s : PS), (ns' = ns ∨ ns' + s.ts.length ≤ 1023) → mdA md s → Sp l0 l1 s (ps false n md ns s) (fun ts' M => ps false n' md ns' ⟨ts', s.nm, false, M⟩) := by
  intro n
  induction n with
  | zero => intro n' _ md ns ns' s _ _ a q e; cases e
  | succ n ih =>
    intro n' hn md ns ns' s hns hmd
    obtain ⟨n', rfl⟩ : ∃ q, n' = q + 1 := ⟨n' - 1, by omega⟩
    have hn := Nat.le_of_succ_le_succ hn
    have tl : ∀ x, signB (hd s) x = true → ∀ ts', Smt l0 l1 s.ts ts' → Smt l0 l1 s.ts.tail ts'.tail := fun x hx ts' hs => (hs.close h0 hx).2
    have nsl : ∀ s1 : PS, s1.ts.length ≤ s.ts.length → (ns' = ns ∨ ns' + s1.ts.length ≤ 1023) := fun s1 h => by omega
    have nsa : (ns' = ns ∨ ns' + (adv s).ts.length ≤ 1023) := nsl _ (by show s.ts.tail.length ≤ _; rw [List.length_tail]; omega)
    have lenA : (adv s).ts.length ≤ s.ts.length := by show s.ts.tail.length ≤ _; rw [List.length_tail]; omega
    cases md with
    | fo =>
      unfold ps
      refine Sp.th (g := fun a s => bif signB (hd s) [60, 45, 62] then tkn false s fun s => th (ps false n' .fo ns' s) fun b s => some (.inr (iffN s a b)) else some (.inr (a, s))) (ih n' hn .im ns ns' s hns trivial) fun a s1 hl1 h1 ha => ?_
      refine Sp.bif (c' := fun ts' => signB (hdl ts') [60, 45, 62]) (fun ts' hs => hs.sign h0 ⟨h0.a.s6, h0.b.s6⟩) (fun hc => ?_) (fun _ => Sp.ret ha)
      refine Sp.tkn (fun ts' hs => (hs.close h0 hc).2) (g := fun s => th (ps false n' .fo ns' s) fun b s => some (.inr (iffN s a b))) ?_
      refine Sp.th (g := fun b s => some (.inr (iffN s a b))) (ih n' hn .fo ns ns' (adv s1) (nsl _ (by show s1.ts.tail.length ≤ _; rw [List.length_tail]; omega)) trivial) fun b s2 hl2 h2 hb => ?_
      exact Sp.iff (ha.on (s := s1) h2) hb
    | im =>
      unfold ps
      refine Sp.th (g := fun a s => bif signB (hd s) [45, 62] then tkn false s fun s => th (ps false n' .im ns' s) fun b s => some (.inr (impN s a b)) else some (.inr (a, s))) (ih n' hn .jo ns ns' s hns trivial) fun a s1 hl1 h1 ha => ?_
      refine Sp.bif (c' := fun ts' => signB (hdl ts') [45, 62]) (fun ts' hs => hs.sign h0 ⟨h0.a.s5, h0.b.s5⟩) (fun hc => ?_) (fun _ => Sp.ret ha)
      refine Sp.tkn (fun ts' hs => (hs.close h0 hc).2) (g := fun s => th (ps false n' .im ns' s) fun b s => some (.inr (impN s a b))) ?_
      refine Sp.th (g := fun b s => some (.inr (impN s a b))) (ih n' hn .im ns ns' (adv s1) (nsl _ (by show s1.ts.tail.length ≤ _; rw [List.length_tail]; omega)) trivial) fun b s2 hl2 h2 hb => ?_
      exact Sp.imp (ha.on (s := s1) h2) hb
    | jo =>
      unfold ps
      exact Sp.th (g := fun a s => ps false n' (.jl a) ns' s) (ih n' hn .bo ns ns' s hns trivial) fun a s1 hl1 h1 ha => ih n' hn (.jl a) ns ns' s1 (nsl _ hl1) ha
    | bo =>
      unfold ps
      exact Sp.th (g := fun a s => ps false n' (.bl a) ns' s) (ih n' hn .si ns ns' s hns trivial) fun a s1 hl1 h1 ha => ih n' hn (.bl a) ns ns' s1 (nsl _ hl1) ha
    | jl a =>
      unfold ps
      refine Sp.bif (c' := fun ts' => signB (hdl ts') [124]) (fun ts' hs => hs.sign h0 ⟨h0.a.s3, h0.b.s3⟩) (fun hc => ?_) (fun _ => Sp.ret hmd)
      refine Sp.tkn (tl _ hc) (g := fun s => th (ps false n' .bo ns' s) fun b s => ps false n' (.jl (nd s ⟨4, [], a, b⟩).1) ns' (nd s ⟨4, [], a, b⟩).2) ?_
      refine Sp.th (g := fun b s => ps false n' (.jl (nd s ⟨4, [], a, b⟩).1) ns' (nd s ⟨4, [], a, b⟩).2) (ih n' hn .bo ns ns' (adv s) nsa trivial) fun b s2 hl2 h2 hb => ?_
      exact Sp.th (g := fun v s => ps false n' (.jl v) ns' s) (Sp.two (.inr (.inl rfl)) (okA.on (s := s) hmd h2) hb) fun v s3 hl3 h3 hv => ih n' hn (.jl v) ns ns' s3 (nsl _ (by omega)) hv
    | bl a =>
      unfold ps
      refine Sp.bif (c' := fun ts' => signB (hdl ts') [38]) (fun ts' hs => hs.sign h0 ⟨h0.a.s4, h0.b.s4⟩) (fun hc => ?_) (fun _ => Sp.ret hmd)
      refine Sp.tkn (tl _ hc) (g := fun s => th (ps false n' .si ns' s) fun b s => ps false n' (.bl (nd s ⟨3, [], a, b⟩).1) ns' (nd s ⟨3, [], a, b⟩).2) ?_
      refine Sp.th (g := fun b s => ps false n' (.bl (nd s ⟨3, [], a, b⟩).1) ns' (nd s ⟨3, [], a, b⟩).2) (ih n' hn .si ns ns' (adv s) nsa trivial) fun b s2 hl2 h2 hb => ?_
      exact Sp.th (g := fun v s => ps false n' (.bl v) ns' s) (Sp.two (.inl rfl) (okA.on (s := s) hmd h2) hb) fun v s3 hl3 h3 hv => ih n' hn (.bl v) ns ns' s3 (nsl _ (by omega)) hv
    | si =>
      unfold ps
      refine Sp.bif (c' := fun ts' => signB (hdl ts') [126]) (fun ts' hs => hs.sign h0 ⟨h0.a.s1, h0.b.s1⟩) (fun hc => ?_) (fun _ => ?_)
      · refine Sp.tkn (tl _ hc) (g := fun s => th (ps false n' .si ns' s) fun a s => some (.inr (notN s a))) ?_
        exact Sp.th (g := fun a s => some (.inr (notN s a))) (ih n' hn .si ns ns' (adv s) nsa trivial) fun a s1 hl1 h1 ha => Sp.not ha
      refine Sp.bif (c' := fun ts' => signB (hdl ts') [40]) (fun ts' hs => hs.sign h0 ⟨h0.a.s2, h0.b.s2⟩) (fun hc => ?_) (fun _ => ?_)
      · by_cases hb : 1024 ≤ ns
        · rw [decide_eq_true hb]
          exact Sp.err
        · have hne : s.ts ≠ [] := sign_ne hc
          have hlt := tail_lt hne
          have hb' : ¬ 1024 ≤ ns' := by
            have : 0 < s.ts.length := by omega
            omega
          simp only [decide_eq_false hb, decide_eq_false hb', cond_false]
          refine Sp.adv (g := fun ts' M => th (ps false n' .fo (ns' + 1) ⟨ts', s.nm, false, M⟩) fun a s => bif signB (hd s) [41] then some (.inr (a, adv s)) else some (.inl (fl s 41))) (tl _ hc) ?_
          refine Sp.th (g := fun a s => bif signB (hd s) [41] then some (.inr (a, adv s)) else some (.inl (fl s 41))) (ih n' hn .fo (ns + 1) (ns' + 1) (adv s) (by show _ ∨ ns' + 1 + s.ts.tail.length ≤ 1023; omega) trivial) fun a s1 hl1 h1 ha => ?_
          refine Sp.must (c' := fun ts' => signB (hdl ts') [41]) (y2 := fun ts' M => some (.inl (fl ⟨ts', s1.nm, false, M⟩ 41))) (fun ts' hs hx => (hs.close h0 hx).1) fun hx => ?_
          exact Sp.adv (g := fun ts' M => some (.inr (a, ⟨ts', s1.nm, false, M⟩))) (fun ts' hs => (hs.close h0 hx).2) (Sp.ret (s := adv s1) ha)
      have kt : ∀ (x : List UInt8) ts', Smt l0 l1 s.ts ts' → ((hdl ts').f_Kind == 1 && (hdl ts').f_Text == x) = ((hd s).f_Kind == 1 && (hd s).f_Text == x) := fun x ts' hs => by
        cases hk : (hd s).f_Kind == 1 with
        | false => rw [show ((hdl ts').f_Kind == 1) = false from (hs.kind h0).trans hk]; rfl
        | true => rw [show ((hdl ts').f_Kind == 1) = true from (hs.kind h0).trans hk, (hs.text (by rw [show (hdl s.ts).f_Kind = 1 from beq_iff_eq.1 hk]; decide) h0.k).1]; rfl
      have ktl : (hd s).f_Kind == 1 → ∀ ts', Smt l0 l1 s.ts ts' → Smt l0 l1 s.ts.tail ts'.tail := fun hk ts' hs => (hs.text (by rw [show (hdl s.ts).f_Kind = 1 from beq_iff_eq.1 hk]; decide) h0.k).2
      refine Sp.bif (c' := fun ts' => (hdl ts').f_Kind == 1 && (hdl ts').f_Text == [116, 114, 117, 101]) (kt _) (fun hc => ?_) (fun _ => ?_)
      · rw [Bool.and_eq_true] at hc
        exact Sp.tkn (ktl hc.1) (g := fun s => some (.inr (topN s))) Sp.top
      refine Sp.bif (c' := fun ts' => (hdl ts').f_Kind == 1 && (hdl ts').f_Text == [102, 97, 108, 115, 101]) (kt _) (fun hc => ?_) (fun _ => ?_)
      · rw [Bool.and_eq_true] at hc
        exact Sp.tkn (ktl hc.1) (g := fun s => some (.inr (botN s))) Sp.bot
      intro a q e
      cases hk : ((hd s).f_Kind == 1 && wordB (hd s).f_Text) with
      | false => rw [hk] at e; cases e
      | true =>
        rw [hk] at e
        have hk2 := hk
        rw [Bool.and_eq_true] at hk2
        have hsp : Sp l0 l1 s (tkn false s fun q => some (.inr (nd q ⟨1, (hd s).f_Text, 0, 0⟩))) (fun ts' M => tkn false ⟨ts', s.nm, false, M⟩ fun q => some (.inr (nd q ⟨1, (hd s).f_Text, 0, 0⟩))) := Sp.tkn (ktl hk2.1) (g := fun q => some (.inr (nd q ⟨1, (hd s).f_Text, 0, 0⟩))) (Sp.nd fun _ => fit_atom hk2.2)
        obtain ⟨d1, d2⟩ := hsp a q e
        refine ⟨d1, fun h => ?_⟩
        obtain ⟨u1, u2, u3, u4⟩ := d2 h
        refine ⟨u1, u2, u3, fun M ts' hM hp hs => ?_⟩
        obtain ⟨t2, z1, z2⟩ := u4 M ts' hM hp hs
        have ek : ((hdl ts').f_Kind == 1) = true := (hs.kind h0).trans hk2.1
        have et := (hs.text (by rw [show (hdl s.ts).f_Kind = 1 from beq_iff_eq.1 hk2.1]; decide) h0.k).1
        refine ⟨t2, z1, ?_⟩
        show (bif (hdl ts').f_Kind == 1 && wordB (hdl ts').f_Text then tkn false ⟨ts', s.nm, false, M⟩ fun q => some (.inr (nd q ⟨1, (hdl ts').f_Text, 0, 0⟩)) else _) = _
        rw [et, ek, show wordB (hdl s.ts).f_Text = true from hk2.2]
        exact z2
end Go.Proofs.YtpmkkhkphddfeaaGreatDoor.X
set_option linter.unusedVariables false
set_option linter.unusedSimpArgs false
namespace Go.Proofs.YtpmkkhkphddfeaaGreatDoor.X
open Go Go.RowKit Go.Proofs.YtpmkkhkphddfeaaGreatDoor.SX
/-- A token without its spot. -/
def nak (t : T_api_Token) : T_api_Token := tk t.f_Kind t.f_Text t.f_Int
/-- A gap is gone over whole. -/
def Skips (g : List UInt8) : Prop := ∀ (s : List UInt8) (i : Nat) (r : List UInt8), s.drop i = g ++ r → S s i = S s (i + g.length)
theorem skips_nil : Skips [] := fun s i r h => rfl
theorem skips_app {g h : List UInt8} (hg : Skips g) (hh : Skips h) : Skips (g ++ h) := by
  intro s i r e
  rw [List.append_assoc] at e
  rw [hg s i _ e, List.length_append, ← Nat.add_assoc]
  refine hh s (i + g.length) r ?_
  rw [← List.drop_drop, e, List.drop_left]
theorem drop_lt {s : List UInt8} {i : Nat} {c : UInt8} {r : List UInt8} (h : s.drop i = c :: r) : i < s.length ∧ s.getD i 0 = c := by
  have hl := congrArg List.length h
  rw [List.length_drop, List.length_cons] at hl
  refine ⟨by omega, ?_⟩
  rw [← Nat.add_zero i, ← getD_drop0, h]
  rfl
theorem skips_blank {c : UInt8} (hc : blankB c = true) : Skips [c] := by
  intro s i r e
  obtain ⟨h1, h2⟩ := drop_lt e
  exact S_blank h1 (by rw [h2]; exact hc)
theorem nlOf_app : ∀ (w : List UInt8) (r : List UInt8), (∀ c ∈ w, (c == 10) = false) → nlOf (w ++ 10 :: r) = w.length
  | [], r, _ => rfl
  | c :: t, r, h => by
    show nlOf (c :: (t ++ 10 :: r)) = t.length + 1
    rw [nlOf.eq_2, h c (List.mem_cons_self ..), cond_false, nlOf_app t r (fun x hx => h x (List.mem_cons_of_mem _ hx))]
theorem skips_com {w : List UInt8} (hw : ∀ c ∈ w, (c == 10) = false) : Skips (35 :: (w ++ [10])) := by
  intro s i r e
  have e2 : s.drop i = 35 :: ((w ++ [10]) ++ r) := e
  obtain ⟨h1, h2⟩ := drop_lt e2
  have e3 : s.drop i = (35 :: w) ++ 10 :: r := by rw [e2, List.append_assoc]; rfl
  have hn : nlOf (s.drop i) = w.length + 1 := by
    rw [e3, nlOf_app (35 :: w) r (fun c hc => by
      rcases List.mem_cons.1 hc with rfl | hc
      · rfl
      · exact hw c hc)]
    rfl
  have e4 : s.drop (i + (w.length + 1)) = 10 :: r := by
    rw [← List.drop_drop, e3]
    exact List.drop_left (l₁ := 35 :: w)
  obtain ⟨h3, h4⟩ := drop_lt e4
  rw [S_com h1 (by rw [h2]; rfl) (by rw [h2]; rfl), hn, S_blank h3 (by rw [h4]; rfl)]
  congr 1
  simp only [List.length_cons, List.length_append, List.length_nil]
  omega
/-- A text of gaps and words, and its tokens. -/
inductive Tks : List UInt8 → List T_api_Token → Prop
  | fin (g : List UInt8) : Skips g → Tks g []
  | tok (g x r : List UInt8) (t : T_api_Token) (ts : List T_api_Token) : Skips g → x ≠ [] → wordP (x ++ r) = .inl (t, x.length) → Tks r ts → Tks (g ++ (x ++ r)) (t :: ts)
theorem nak_put (t : T_api_Token) (q : T_api_Spot) : nak (put t q) = nak t := rfl
theorem scan_tks {s : List UInt8} {l : List UInt8} {ts : List T_api_Token} (ht : Tks l ts) : ∀ (d i : Nat) (p : Int × Int) (acc : List T_api_Token), s.drop i = l → i ≤ s.length → s.length - i < d →
    ∃ m, scanP s d i p acc = (acc ++ m, F0) ∧ m.map nak = ts.map nak ++ [tk 0 [] 0] := by
  induction ht with
  | fin g hg =>
    intro d i p acc e hi hd
    obtain ⟨d, rfl⟩ : ∃ m, d = m + 1 := ⟨d - 1, by omega⟩
    have hS := hg s i [] (by rw [e, List.append_nil])
    have hl := congrArg List.length e
    rw [List.length_drop] at hl
    rw [S_end (i := i + g.length) (by omega)] at hS
    rw [scanP.eq_2, if_pos (by omega)]
    exact ⟨_, rfl, rfl⟩
  | tok g x r t ts hg hx hw _ ih =>
    intro d i p acc e hi hd
    obtain ⟨d, rfl⟩ : ∃ m, d = m + 1 := ⟨d - 1, by omega⟩
    have hl := congrArg List.length e
    rw [List.length_drop, List.length_append, List.length_append] at hl
    have h1 : 1 ≤ x.length := List.length_pos_iff.2 hx
    have e2 : s.drop (i + g.length) = x ++ r := by rw [← List.drop_drop, e, List.drop_left]
    have hn := word_nogap (x := x ++ r) (by simp [hx]) hw
    have hb : s.getD (i + g.length) 0 = (x ++ r).getD 0 0 := by
      rw [← Nat.add_zero (i + g.length), ← getD_drop0, e2]
    unfold gapB at hn
    rw [Bool.or_eq_false_iff, ← hb] at hn
    have hS : S s i = i + g.length := by rw [hg s i _ e, S_stop (by omega) hn.1 hn.2]
    have e3 : s.drop (i + g.length + x.length) = r := by rw [← List.drop_drop, e2, List.drop_left]
    rw [scanP.eq_2, hS, if_neg (by omega), e2, hw]
    simp only
    obtain ⟨m, hm, hm2⟩ := ih d (i + g.length + x.length) (W s (i + g.length + x.length) (i + g.length) (W s (i + g.length) i p).2).2 (acc ++ [put t (spotOf (W s (i + g.length) i p).2 ((i + g.length : Nat) : Int))]) e3 (by omega) (by omega)
    refine ⟨put t (spotOf (W s (i + g.length) i p).2 ((i + g.length : Nat) : Int)) :: m, ?_, ?_⟩
    · show scanP s d _ _ _ = _
      rw [hm, List.append_assoc]
      rfl
    · rw [List.map_cons, List.map_cons, hm2, nak_put]
      rfl
theorem scanS_tks {s : List UInt8} {ts : List T_api_Token} (ht : Tks s ts) : ∃ m, scanS s = (m, F0) ∧ m.map nak = ts.map nak ++ [tk 0 [] 0] := by
  obtain ⟨m, h1, h2⟩ := scan_tks (s := s) ht (s.length + 1) 0 (1, 1) [] rfl (Nat.zero_le _) (by omega)
  exact ⟨m, h1, h2⟩
theorem sign40 (r : List UInt8) : wordP (40 :: r) = .inl (tk 3 [40] 0, 1) := rfl
theorem sign41 (r : List UInt8) : wordP (41 :: r) = .inl (tk 3 [41] 0, 1) := rfl
end Go.Proofs.YtpmkkhkphddfeaaGreatDoor.X
set_option linter.unusedVariables false
set_option linter.unusedSimpArgs false
namespace Go.Proofs.YtpmkkhkphddfeaaGreatDoor.X
open Go Go.RowKit Go.Proofs.YtpmkkhkphddfeaaGreatDoor.SX
/-- What a parse without a fault is. -/
structure Psd (N : List T_api_Node) (s : List UInt8) (a : Int) (q : PS) : Prop where
  eq : parseP N s = (a, F0, q.N)
  few : many 0 (ahP s).1 = none
  run : ps false (10 * (ahP s).1.length + 5) .fo 0 ⟨(ahP s).1, 0, false, N⟩ = some (.inr (a, q))
  fin : (hd q).f_Kind = 0
  ok : (ahP s).2.f_Code = 0
  room : q.full = false
theorem parse_cases (N : List T_api_Node) (s : List UInt8) : ((parseP N s).2.1.f_Code ≠ 0 ∧ (parseP N s).1 = 0 ∧ (parseP N s).2.2 = N) ∨ ∃ a q, Psd N s a q := by
  cases hm : many 0 (ahP s).1 with
  | some p =>
    have : parseP N s = (0, ⟨40, p⟩, N) := by unfold parseP; rw [hm]
    rw [this]
    exact .inl ⟨by show ¬ (40 : Int) = 0; decide, rfl, rfl⟩
  | none =>
    obtain ⟨o, ho⟩ := ps_end (ahP s).1 N
    have hp := ps_pre false _ .fo 0 _ N (List.prefix_rfl (l := N)) o ho
    cases o with
    | inl e =>
      have : parseP N s = (0, e.1, N) := by unfold parseP; rw [hm]; simp only; rw [ho]
      rw [this]
      exact .inl ⟨hp.2, rfl, rfl⟩
    | inr r =>
      obtain ⟨a, q⟩ := r
      have e1 : parseP N s = bif (hd q).f_Kind != 0 || (ahP s).2.f_Code != 0 then (0, ⟨41, (hd q).f_At⟩, N) else bif q.full then (0, ⟨30, ⟨0, 0, 0⟩⟩, N) else (a, F0, q.N) := by unfold parseP; rw [hm]; simp only; rw [ho]
      cases hb : ((hd q).f_Kind != 0 || (ahP s).2.f_Code != 0) with
      | true =>
        rw [hb, cond_true] at e1
        rw [e1]
        exact .inl ⟨by show ¬ (41 : Int) = 0; decide, rfl, rfl⟩
      | false =>
        rw [hb, cond_false] at e1
        rw [Bool.or_eq_false_iff, bne_eq_false_iff_eq, bne_eq_false_iff_eq] at hb
        cases hf : q.full with
        | true =>
          rw [hf, cond_true] at e1
          rw [e1]
          exact .inl ⟨by show ¬ (30 : Int) = 0; decide, rfl, rfl⟩
        | false =>
          rw [hf, cond_false] at e1
          exact .inr ⟨a, q, e1, hm, ho, hb.1, hb.2, hf⟩
theorem parse_of {N : List T_api_Node} {s : List UInt8} {a : Int} {q : PS} (h1 : many 0 (ahP s).1 = none) (h2 : ps false (10 * (ahP s).1.length + 5) .fo 0 ⟨(ahP s).1, 0, false, N⟩ = some (.inr (a, q))) (h3 : (hd q).f_Kind = 0) (h4 : (ahP s).2.f_Code = 0) (h5 : q.full = false) : parseP N s = (a, F0, q.N) := by
  unfold parseP
  rw [h1]
  simp only
  rw [h2]
  simp only
  rw [h3, h4, h5]
  rfl
theorem Smt.end_ {l0 l1 l l' : List T_api_Token} (h : Smt l0 l1 l l') (hk : (hdl l).f_Kind = 0) : l = l0 ∧ l' = l1 := by
  cases h with
  | base => exact ⟨rfl, rfl⟩
  | cons t t' l l' a b c d => exact absurd hk a
theorem stop_end (q : T_api_Spot) : Stop (endT q) := ⟨rfl, rfl, rfl, rfl, rfl, rfl, rfl⟩
theorem sim_refl (l0 : List T_api_Token) : ∀ ts : List T_api_Token, (∀ t ∈ ts, t.f_Kind ≠ 0) → Smt l0 l0 (ts ++ l0) (ts ++ l0)
  | [], _ => Smt.base
  | t :: r, h => Smt.cons t t _ _ (h t (List.mem_cons_self ..)) rfl rfl (sim_refl l0 r fun x hx => h x (List.mem_cons_of_mem _ hx))
/-- Again, on any table that has the rows. -/
theorem parse_again {N M : List T_api_Node} {s : List UInt8} {a : Int} {q : PS} (h : Psd N s a q) (hM : M.Nodup) (hp : q.N <+: M) : parseP M s = (a, F0, M) := by
  obtain ⟨ts, e, f1, f2, _, _⟩ := ahP_form s
  have h0 : Ends [endT e] [endT e] := ⟨stop_end e, stop_end e, rfl⟩
  have hr := h.run
  obtain ⟨_, c2⟩ := ps_sp h0 rfl _ _ (Nat.le_refl _) .fo 0 0 _ (.inl rfl) trivial a q hr
  obtain ⟨_, _, _, u4⟩ := c2 h.room
  obtain ⟨tq, w1, w2⟩ := u4 M (ahP s).1 hM hp (by show Smt _ _ (ahP s).1 _; rw [f1]; exact sim_refl _ ts fun t ht => (f2 t ht).1)
  obtain ⟨g1, g2⟩ := w1.end_ h.fin
  exact parse_of (q := ⟨tq, q.nm, false, M⟩) h.few w2 (by show (hdl tq).f_Kind = 0; rw [g2]; rfl) h.ok rfl
theorem ct_nak (t : T_api_Token) : ctB (nak t) = ctB t := rfl
theorem ctl_nak : ∀ l : List T_api_Token, ctl (l.map nak) = ctl l
  | [] => rfl
  | t :: r => by rw [List.map_cons, ctl_cons, ctl_cons, ct_nak, ctl_nak r]
theorem ctl_app (a b : List T_api_Token) : ctl (a ++ b) = ctl a + ctl b := by unfold ctl; rw [List.filter_append, List.length_append]
theorem many_of : ∀ (ts : List T_api_Token) (n : Nat), n + ctl ts ≤ 512 → many n ts = none
  | [], n, _ => rfl
  | t :: r, n, h => by
    rw [ctl_cons] at h
    rw [many.eq_2]
    cases hc : ctB t with
    | true =>
      rw [hc, cond_true] at h
      rw [cond_true, if_neg (by omega)]
      exact many_of r (n + 1) (by omega)
    | false =>
      rw [hc, cond_false] at h
      rw [cond_false]
      exact many_of r n (by omega)
theorem nak_kind {t t' : T_api_Token} (h : nak t = nak t') : t.f_Kind = t'.f_Kind ∧ t.f_Text = t'.f_Text := by
  unfold nak tk at h
  injection h with h1 h2
  exact ⟨h1, h2⟩
theorem sim_nak {l0 l1 : List T_api_Token} : ∀ (ts us : List T_api_Token), us.map nak = ts.map nak → (∀ t ∈ ts, t.f_Kind ≠ 0) → Smt l0 l1 (ts ++ l0) (us ++ l1)
  | [], us, h, _ => by
    rw [List.map_nil, List.map_eq_nil_iff] at h
    subst h
    exact Smt.base
  | t :: r, [], h, _ => by cases h
  | t :: r, u :: v, h, hk => by
    rw [List.map_cons, List.map_cons] at h
    injection h with h1 h2
    have := nak_kind h1
    exact Smt.cons t u _ _ (hk t (List.mem_cons_self ..)) this.1 this.2 (sim_nak r v h2 fun x hx => hk x (List.mem_cons_of_mem _ hx))
end Go.Proofs.YtpmkkhkphddfeaaGreatDoor.X
set_option linter.unusedVariables false
set_option linter.unusedSimpArgs false
namespace Go.Proofs.YtpmkkhkphddfeaaGreatDoor.X
open Go Go.RowKit Go.Proofs.YtpmkkhkphddfeaaGreatDoor.SX
theorem Le.th {x x' : PO} {f f' : Int → PS → PO} (h : Le x x') (hf : ∀ a s, Le (f a s) (f' a s)) : Le (X.th x f) (X.th x' f') := Le.bind h fun r => match r with
  | .inl e => Le.refl _
  | .inr q => hf q.1 q.2
theorem Le.tkn {c : Bool} {s : PS} {f f' : PS → PO} (hf : ∀ s, Le (f s) (f' s)) : Le (X.tkn c s f) (X.tkn c s f') := by
  unfold X.tkn
  cases tk4 c s with
  | inl e => exact Le.refl _
  | inr q => exact hf q
theorem ps_step (c : Bool) : ∀ (n : Nat) (md : Mod) (ns : Nat) (s : PS), Le (ps c n md ns s) (ps c (n + 1) md ns s) := by
  intro n
  induction n with
  | zero => intro md ns s; exact Le.none _
  | succ n ih =>
    intro md ns s
    cases md <;> (rw [ps, ps]; repeat' first | exact Le.refl _ | exact ih _ _ _ | refine Le.th ?_ fun a s => ?_ | refine Le.tkn fun s => ?_ | refine Le.cond ?_ ?_)
theorem ps_mono (c : Bool) {n n' : Nat} (h : n ≤ n') (md : Mod) (ns : Nat) (s : PS) : Le (ps c n md ns s) (ps c n' md ns s) := by
  induction n' with
  | zero => rw [Nat.le_zero.1 h]; exact Le.refl _
  | succ m ih =>
    by_cases e : n = m + 1
    · rw [e]; exact Le.refl _
    · exact fun r hr => ps_step c m md ns s r (ih (by omega) r hr)
/-- It comes to an answer. -/
def Rd (md : Mod) (ns : Nat) (s : PS) (a : Int) (q : PS) : Prop := ∃ n, ps false n md ns s = some (.inr (a, q))
theorem two_fuel {m1 m2 : Mod} {n1 n2 : Nat} {s1 s2 q1 q2 : PS} {a1 a2 : Int} (h1 : Rd m1 n1 s1 a1 q1) (h2 : Rd m2 n2 s2 a2 q2) : ∃ n, ps false n m1 n1 s1 = some (.inr (a1, q1)) ∧ ps false n m2 n2 s2 = some (.inr (a2, q2)) := by
  obtain ⟨n, e1⟩ := h1
  obtain ⟨m, e2⟩ := h2
  exact ⟨max n m, ps_mono false (Nat.le_max_left _ _) _ _ _ _ e1, ps_mono false (Nat.le_max_right _ _) _ _ _ _ e2⟩
theorem rd_bo {ns : Nat} {s s1 q : PS} {a b : Int} (h1 : Rd .si ns s a s1) (h2 : Rd (.bl a) ns s1 b q) : Rd .bo ns s b q := by
  obtain ⟨n, e1, e2⟩ := two_fuel h1 h2
  exact ⟨n + 1, by rw [ps, e1]; exact e2⟩
theorem rd_jo {ns : Nat} {s s1 q : PS} {a b : Int} (h1 : Rd .bo ns s a s1) (h2 : Rd (.jl a) ns s1 b q) : Rd .jo ns s b q := by
  obtain ⟨n, e1, e2⟩ := two_fuel h1 h2
  exact ⟨n + 1, by rw [ps, e1]; exact e2⟩
theorem rd_bl0 {ns : Nat} {s : PS} {a : Int} (h : signB (hd s) [38] = false) : Rd (.bl a) ns s a s := ⟨1, by rw [ps, h]; rfl⟩
theorem rd_jl0 {ns : Nat} {s : PS} {a : Int} (h : signB (hd s) [124] = false) : Rd (.jl a) ns s a s := ⟨1, by rw [ps, h]; rfl⟩
theorem rd_bl1 {ns : Nat} {s s2 q : PS} {a b c : Int} (h : signB (hd s) [38] = true) (h1 : Rd .si ns (adv s) b s2) (h2 : Rd (.bl (nd s2 ⟨3, [], a, b⟩).1) ns (nd s2 ⟨3, [], a, b⟩).2 c q) : Rd (.bl a) ns s c q := by
  obtain ⟨n, e1, e2⟩ := two_fuel h1 h2
  exact ⟨n + 1, by rw [ps, h, cond_true, tkn_no, e1]; exact e2⟩
theorem rd_jl1 {ns : Nat} {s s2 q : PS} {a b c : Int} (h : signB (hd s) [124] = true) (h1 : Rd .bo ns (adv s) b s2) (h2 : Rd (.jl (nd s2 ⟨4, [], a, b⟩).1) ns (nd s2 ⟨4, [], a, b⟩).2 c q) : Rd (.jl a) ns s c q := by
  obtain ⟨n, e1, e2⟩ := two_fuel h1 h2
  exact ⟨n + 1, by rw [ps, h, cond_true, tkn_no, e1]; exact e2⟩
theorem rd_im0 {ns : Nat} {s s1 : PS} {a : Int} (h1 : Rd .jo ns s a s1) (h : signB (hd s1) [45, 62] = false) : Rd .im ns s a s1 := by
  obtain ⟨n, e1⟩ := h1
  refine ⟨n + 1, ?_⟩
  rw [ps, e1]
  show (bif signB (hd s1) [45, 62] then _ else _) = _
  rw [h]
  rfl
theorem rd_im1 {ns : Nat} {s s1 s2 : PS} {a b : Int} (h1 : Rd .jo ns s a s1) (h : signB (hd s1) [45, 62] = true) (h2 : Rd .im ns (adv s1) b s2) : Rd .im ns s (impN s2 a b).1 (impN s2 a b).2 := by
  obtain ⟨n, e1, e2⟩ := two_fuel h1 h2
  refine ⟨n + 1, ?_⟩
  rw [ps, e1]
  show (bif signB (hd s1) [45, 62] then _ else _) = _
  rw [h, cond_true, tkn_no, e2]
  rfl
theorem rd_fo0 {ns : Nat} {s s1 : PS} {a : Int} (h1 : Rd .im ns s a s1) (h : signB (hd s1) [60, 45, 62] = false) : Rd .fo ns s a s1 := by
  obtain ⟨n, e1⟩ := h1
  refine ⟨n + 1, ?_⟩
  rw [ps, e1]
  show (bif signB (hd s1) [60, 45, 62] then _ else _) = _
  rw [h]
  rfl
theorem rd_neg {ns : Nat} {s s1 : PS} {a : Int} (h : signB (hd s) [126] = true) (h1 : Rd .si ns (adv s) a s1) : Rd .si ns s (notN s1 a).1 (notN s1 a).2 := by
  obtain ⟨n, e1⟩ := h1
  refine ⟨n + 1, ?_⟩
  rw [ps, h, cond_true, tkn_no, e1]
  rfl
theorem rd_par {ns : Nat} {s s1 : PS} {a : Int} (h0 : signB (hd s) [126] = false) (h : signB (hd s) [40] = true) (hn : ns < 1024) (h1 : Rd .fo (ns + 1) (adv s) a s1) (h2 : signB (hd s1) [41] = true) : Rd .si ns s a (adv s1) := by
  obtain ⟨n, e1⟩ := h1
  refine ⟨n + 1, ?_⟩
  rw [ps, h0, cond_false, h, cond_true, decide_eq_false (by omega : ¬ 1024 ≤ ns), cond_false, e1]
  show (bif signB (hd s1) [41] then _ else _) = _
  rw [h2]
  rfl
theorem rd_word {ns : Nat} {s : PS} (t : T_api_Token) (h : hd s = t) (hk : t.f_Kind = 1) :
    (t.f_Text = [116, 114, 117, 101] → Rd .si ns s (topN (adv s)).1 (topN (adv s)).2) ∧ (t.f_Text = [102, 97, 108, 115, 101] → Rd .si ns s (botN (adv s)).1 (botN (adv s)).2) ∧
    (wordB t.f_Text = true → Rd .si ns s (nd (adv s) ⟨1, t.f_Text, 0, 0⟩).1 (nd (adv s) ⟨1, t.f_Text, 0, 0⟩).2) := by
  have hs : ∀ x, signB (hd s) x = false := fun x => by rw [h]; unfold signB; rw [hk]; rfl
  have h1 : ((hd s).f_Kind == 1) = true := by rw [h, hk]; rfl
  refine ⟨fun e => ⟨1, ?_⟩, fun e => ⟨1, ?_⟩, fun e => ⟨1, ?_⟩⟩
  · rw [ps, hs, cond_false, hs, cond_false, h1, h, e]
    show (tkn false s fun s => some (.inr (topN s))) = _
    rw [tkn_no]
  · rw [ps, hs, cond_false, hs, cond_false, h1, h, e]
    show (tkn false s fun s => some (.inr (botN s))) = _
    rw [tkn_no]
  · have n1 : (t.f_Text == [116, 114, 117, 101]) = false := by
      rw [beq_eq_false_iff_ne]
      intro e2
      rw [e2] at e
      exact absurd e (by decide)
    have n2 : (t.f_Text == [102, 97, 108, 115, 101]) = false := by
      rw [beq_eq_false_iff_ne]
      intro e2
      rw [e2] at e
      exact absurd e (by decide)
    rw [ps, hs, cond_false, hs, cond_false, h1, h, n1, n2, e]
    show (tkn false s fun q => some (.inr (nd q ⟨1, t.f_Text, 0, 0⟩))) = _
    rw [tkn_no]
end Go.Proofs.YtpmkkhkphddfeaaGreatDoor.X
set_option linter.unusedVariables false
set_option linter.unusedSimpArgs false
namespace Go.Proofs.YtpmkkhkphddfeaaGreatDoor.X
open Go Go.RowKit Go.Proofs.YtpmkkhkphddfeaaGreatDoor.SX
def tkn3 (s : List UInt8) : T_api_Token := ⟨3, s, 0, ⟨0, 0, 0⟩⟩
def tkn1 (s : List UInt8) : T_api_Token := ⟨1, s, 0, ⟨0, 0, 0⟩⟩
def sgn (s : List UInt8) : T_api_Token := tkn3 (s.drop 1).dropLast
def toT (N : List T_api_Node) (t : List T_api_Token) (i : Nat) (a : Int) : List T_api_Token := bif decide (lvA N i < a) then tkn3 [40] :: (t ++ [tkn3 [41]]) else t
def tkT (N : List T_api_Node) : Nat → Nat → List T_api_Token
  | 0, _ => []
  | n + 1, i => match shp N (ndA N i) with
    | .lit s => [tkn1 s]
    | .neg l => tkn3 [126] :: toT N (tkT N n l) l 3
    | .two s l a r b => toT N (tkT N n l) l a ++ (sgn s :: toT N (tkT N n r) r b)
def tb (N : List T_api_Node) (i : Nat) : List T_api_Token := tkT N (i + 1) i
def to_ (N : List T_api_Node) (i : Nat) (a : Int) : List T_api_Token := toT N (tb N i) i a
theorem tkT_fuel {N : List T_api_Node} (h : Wf N) : ∀ (n m i : Nat), i < n → i < m → i < N.length → tkT N n i = tkT N m i := by
  intro n
  induction n with
  | zero => intro m i h1; omega
  | succ n ih =>
    intro m i h1 h2 h3
    obtain ⟨m, rfl⟩ : ∃ q, m = q + 1 := ⟨m - 1, by omega⟩
    obtain ⟨b1, b2⟩ := shp_below h h3
    unfold tkT
    cases hs : shp N (ndA N i) with
    | lit s => rfl
    | neg l =>
      have := b1 l hs
      simp only
      rw [ih m l (by omega) (by omega) (by omega)]
    | two s l a r b =>
      have := b2 s l a r b hs
      simp only
      rw [ih m l (by omega) (by omega) (by omega), ih m r (by omega) (by omega) (by omega)]
theorem tb_eq {N : List T_api_Node} (h : Wf N) {i : Nat} (hi : i < N.length) : tb N i = match shp N (ndA N i) with
    | .lit s => [tkn1 s]
    | .neg l => tkn3 [126] :: to_ N l 3
    | .two s l a r b => to_ N l a ++ (sgn s :: to_ N r b) := by
  obtain ⟨b1, b2⟩ := shp_below h hi
  unfold tb tkT to_ tb
  cases hs : shp N (ndA N i) with
  | lit s => rfl
  | neg l =>
    have := b1 l hs
    simp only
    rw [tkT_fuel h i (l + 1) l (by omega) (by omega) (by omega)]
  | two s l a r b =>
    have := b2 s l a r b hs
    simp only
    rw [tkT_fuel h i (l + 1) l (by omega) (by omega) (by omega), tkT_fuel h i (r + 1) r (by omega) (by omega) (by omega)]
/-- A table made of rows. -/
structure Fine (N : List T_api_Node) : Prop where
  wf : Wf N
  one : N.Nodup
  fit : ∀ i, i < N.length → fitN N (ndA N i) = 0
theorem fit_rows {N : List T_api_Node} {x : T_api_Node} (h : fitN N x = 0) : (∃ s, x = ⟨1, s, 0, 0⟩ ∧ wordB s = true) ∨ x = ⟨2, [], 0, 0⟩ ∨ ∃ a b, x = ⟨3, [], a, b⟩ ∨ x = ⟨4, [], a, b⟩ ∨ x = ⟨5, [], a, b⟩ := by
  obtain ⟨k, nm, a, b⟩ := x
  unfold fitN at h
  simp only at h
  cases h1 : k == 1 with
  | true =>
    have e := eq_of_beq h1
    rw [h1, cond_true] at h
    cases h2 : (a != 0 || b != 0) with
    | true => rw [h2, cond_true] at h; exact absurd h (by decide)
    | false =>
      rw [h2, cond_false] at h
      rw [Bool.or_eq_false_iff, bne_eq_false_iff_eq, bne_eq_false_iff_eq] at h2
      cases h3 : wordB nm with
      | true => exact .inl ⟨nm, by rw [e, h2.1, h2.2], h3⟩
      | false => rw [h3, cond_false] at h; exact absurd h (by decide)
  | false =>
  rw [h1, cond_false] at h
  cases h2 : k == 2 with
  | true =>
    have e := eq_of_beq h2
    rw [h2, cond_true] at h
    cases h3 : (!(nm == []) || (a != 0 || b != 0)) with
    | true => rw [h3] at h; exact absurd h (by show ¬ (31 : Int) = 0; decide)
    | false =>
      rw [Bool.or_eq_false_iff, Bool.or_eq_false_iff, bne_eq_false_iff_eq, bne_eq_false_iff_eq] at h3
      have e3 : nm = [] := by simpa using h3.1
      exact .inr (.inl (by rw [e, e3, h3.2.1, h3.2.2]))
  | false =>
  rw [h2, cond_false] at h
  cases h3 : k == 3 || (k == 4 || k == 5) with
  | false => rw [h3, cond_false] at h; exact absurd h (by decide)
  | true =>
    rw [h3, cond_true] at h
    rw [Bool.or_eq_true, Bool.or_eq_true, beq_iff_eq, beq_iff_eq, beq_iff_eq] at h3
    cases h4 : nm == [] with
    | false => rw [h4] at h; exact absurd h (by show ¬ (31 : Int) = 0; decide)
    | true =>
      have e3 : nm = [] := by simpa using h4
      rcases h3 with e | e | e
      · exact .inr (.inr ⟨a, b, .inl (by rw [e, e3])⟩)
      · exact .inr (.inr ⟨a, b, .inr (.inl (by rw [e, e3]))⟩)
      · exact .inr (.inr ⟨a, b, .inr (.inr (by rw [e, e3]))⟩)
theorem bot_row {N : List T_api_Node} (h : Fine N) {i : Nat} (hi : i < N.length) (hb : botA N i = true) : ndA N i = ⟨2, [], 0, 0⟩ := by
  have hk : (ndA N i).f_Kind = 2 := by unfold botA at hb; exact eq_of_beq hb
  rcases fit_rows (h.fit i hi) with ⟨s, e, _⟩ | e | ⟨a, b, e | e | e⟩
  · rw [e] at hk; exact absurd hk (by show ¬ (1 : Int) = 2; decide)
  · exact e
  · rw [e] at hk; exact absurd hk (by show ¬ (3 : Int) = 2; decide)
  · rw [e] at hk; exact absurd hk (by show ¬ (4 : Int) = 2; decide)
  · rw [e] at hk; exact absurd hk (by show ¬ (5 : Int) = 2; decide)
abbrev stN (N : List T_api_Node) (l : List T_api_Token) : PS := ⟨l, 0, false, N⟩
theorem nd_row {N : List T_api_Node} (h : Fine N) {i : Nat} (hi : i < N.length) {x : T_api_Node} (hx : ndA N i = x) (l : List T_api_Token) : nd (stN N l) x = ((i : Int), stN N l) := by
  have hg : N[i]? = some x := by
    rw [List.getElem?_eq_getElem hi]
    unfold ndA at hx
    rw [List.getD_eq_getElem?_getD, List.getElem?_eq_getElem hi] at hx
    exact congrArg some hx
  have hf := h.fit i hi
  rw [hx] at hf
  have hp := putN_old hf (numN_of h.one hg)
  unfold nd
  show (bif false then _ else ((putN N x).1, (⟨l, 0, (putN N x).2.1 == 30, (putN N x).2.2⟩ : PS))) = _
  rw [hp]
  rfl
/-- What a row may be. -/
theorem acase {N : List T_api_Node} (h : Fine N) {i : Nat} (hi : i < N.length) :
    (lvA N i = 3 ∧ ∃ s, shp N (ndA N i) = .lit s ∧ ndA N i = ⟨1, s, 0, 0⟩ ∧ wordB s = true) ∨
    (lvA N i = 3 ∧ shp N (ndA N i) = .lit [102, 97, 108, 115, 101] ∧ ndA N i = ⟨2, [], 0, 0⟩) ∨
    (∃ l r : Nat, l < i ∧ r < i ∧ ((lvA N i = 3 ∧ shp N (ndA N i) = .lit [116, 114, 117, 101] ∧ ndA N i = ⟨5, [], (l : Int), (r : Int)⟩ ∧ botA N l = true ∧ botA N r = true) ∨
      (lvA N i = 3 ∧ shp N (ndA N i) = .neg l ∧ ndA N i = ⟨5, [], (l : Int), (r : Int)⟩ ∧ botA N r = true) ∨
      (lvA N i = 2 ∧ shp N (ndA N i) = .two [32, 38, 32] l 2 r 3 ∧ ndA N i = ⟨3, [], (l : Int), (r : Int)⟩) ∨
      (lvA N i = 1 ∧ shp N (ndA N i) = .two [32, 124, 32] l 1 r 2 ∧ ndA N i = ⟨4, [], (l : Int), (r : Int)⟩) ∨
      (lvA N i = 0 ∧ shp N (ndA N i) = .two [32, 45, 62, 32] l 1 r 0 ∧ ndA N i = ⟨5, [], (l : Int), (r : Int)⟩))) := by
  have h2 := h.wf.two i hi
  unfold lvA shp
  rcases fit_rows (h.fit i hi) with ⟨s, e, hw⟩ | e | ⟨a, b, e | e | e⟩
  · rw [e]; exact .inl ⟨rfl, s, rfl, rfl, hw⟩
  · rw [e]; exact .inr (.inl ⟨rfl, rfl, rfl⟩)
  · rw [e] at h2 ⊢
    have := h2 (.inl rfl)
    simp only at this
    obtain ⟨l, rfl⟩ : ∃ l : Nat, a = (l : Int) := ⟨a.toNat, by omega⟩
    obtain ⟨r, rfl⟩ : ∃ r : Nat, b = (r : Int) := ⟨b.toNat, by omega⟩
    exact .inr (.inr ⟨l, r, by omega, by omega, .inr (.inr (.inl ⟨rfl, rfl, rfl⟩))⟩)
  · rw [e] at h2 ⊢
    have := h2 (.inr (.inl rfl))
    simp only at this
    obtain ⟨l, rfl⟩ : ∃ l : Nat, a = (l : Int) := ⟨a.toNat, by omega⟩
    obtain ⟨r, rfl⟩ : ∃ r : Nat, b = (r : Int) := ⟨b.toNat, by omega⟩
    exact .inr (.inr ⟨l, r, by omega, by omega, .inr (.inr (.inr (.inl ⟨rfl, rfl, rfl⟩)))⟩)
  · rw [e] at h2 ⊢
    have := h2 (.inr (.inr rfl))
    simp only at this
    obtain ⟨l, rfl⟩ : ∃ l : Nat, a = (l : Int) := ⟨a.toNat, by omega⟩
    obtain ⟨r, rfl⟩ : ∃ r : Nat, b = (r : Int) := ⟨b.toNat, by omega⟩
    refine .inr (.inr ⟨l, r, by omega, by omega, ?_⟩)
    simp only [Int.toNat_natCast]
    cases hR : botA N r with
    | false => exact .inr (.inr (.inr (.inr ⟨rfl, rfl, by trivial⟩)))
    | true =>
      cases hL : botA N l with
      | true => exact .inl ⟨rfl, rfl, by trivial, by trivial, by trivial⟩
      | false => exact .inr (.inl ⟨rfl, rfl, by trivial, by trivial⟩)
end Go.Proofs.YtpmkkhkphddfeaaGreatDoor.X
set_option linter.unusedVariables false
set_option linter.unusedSimpArgs false
namespace Go.Proofs.YtpmkkhkphddfeaaGreatDoor.X
open Go Go.RowKit Go.Proofs.YtpmkkhkphddfeaaGreatDoor.SX
section
variable {N : List T_api_Node} {i : Int} {t : List T_api_Token} {ns : Nat}
/-- What may follow, so that nothing is read on. -/
structure Nx0 (l : List T_api_Token) : Prop where
  a : signB (hdl l) [38] = false
  b : signB (hdl l) [124] = false
  c : signB (hdl l) [45, 62] = false
theorem bo_of_si (h : ∀ rest, Rd .si ns (stN N (t ++ rest)) i (stN N rest)) : ∀ rest c q, Rd (.bl i) ns (stN N rest) c q → Rd .bo ns (stN N (t ++ rest)) c q := fun rest c q g => rd_bo (h rest) g
theorem jo_of_bo (h : ∀ rest c q, Rd (.bl i) ns (stN N rest) c q → Rd .bo ns (stN N (t ++ rest)) c q) : ∀ rest c q, signB (hdl rest) [38] = false → Rd (.jl i) ns (stN N rest) c q → Rd .jo ns (stN N (t ++ rest)) c q := fun rest c q g1 g2 => rd_jo (h rest i (stN N rest) (rd_bl0 g1)) g2
theorem im_of_jo (h : ∀ rest c q, signB (hdl rest) [38] = false → Rd (.jl i) ns (stN N rest) c q → Rd .jo ns (stN N (t ++ rest)) c q) : ∀ rest, Nx0 rest → Rd .im ns (stN N (t ++ rest)) i (stN N rest) := fun rest g => rd_im0 (h rest i (stN N rest) g.a (rd_jl0 g.b)) g.c
theorem si_of_im (hn : ns < 1024) (h : ∀ rest, Nx0 rest → Rd .im (ns + 1) (stN N (t ++ rest)) i (stN N rest)) : ∀ rest, Rd .si ns (stN N ((tkn3 [40] :: (t ++ [tkn3 [41]])) ++ rest)) i (stN N rest) := by
  intro rest
  have h1 := h (tkn3 [41] :: rest) ⟨rfl, rfl, rfl⟩
  have e : adv (stN N ((tkn3 [40] :: (t ++ [tkn3 [41]])) ++ rest)) = stN N (t ++ (tkn3 [41] :: rest)) := by
    show stN N ((t ++ [tkn3 [41]]) ++ rest) = _
    rw [List.append_assoc]
    rfl
  exact rd_par (s1 := stN N (tkn3 [41] :: rest)) rfl rfl hn (by rw [e]; exact rd_fo0 h1 rfl) rfl
end
theorem Nx0.sign (x : List UInt8) (l : List T_api_Token) (h1 : (x == [38]) = false) (h2 : (x == [124]) = false) (h3 : (x == [45, 62]) = false) : Nx0 (tkn3 x :: l) := by
  refine ⟨?_, ?_, ?_⟩
  · show (true && (x == [38])) = false; rw [h1]; rfl
  · show (true && (x == [124])) = false; rw [h2]; rfl
  · show (true && (x == [45, 62])) = false; rw [h3]; rfl
/-- All four ways to read a formula. -/
structure Reads (N : List T_api_Node) (i : Nat) : Prop where
  si : ∀ ns rest, ns + i < 1024 → Rd .si ns (stN N (to_ N i 3 ++ rest)) (i : Int) (stN N rest)
  bo : ∀ ns rest c q, ns + i < 1024 → Rd (.bl (i : Int)) ns (stN N rest) c q → Rd .bo ns (stN N (to_ N i 2 ++ rest)) c q
  jo : ∀ ns rest c q, ns + i < 1024 → signB (hdl rest) [38] = false → Rd (.jl (i : Int)) ns (stN N rest) c q → Rd .jo ns (stN N (to_ N i 1 ++ rest)) c q
  im : ∀ ns rest, ns + i < 1024 → Nx0 rest → Rd .im ns (stN N (to_ N i 0 ++ rest)) (i : Int) (stN N rest)
theorem to_no {N : List T_api_Node} {i : Nat} {a : Int} (h : ¬ lvA N i < a) : to_ N i a = tb N i := by unfold to_ toT; rw [decide_eq_false h]; rfl
theorem to_yes {N : List T_api_Node} {i : Nat} {a : Int} (h : lvA N i < a) : to_ N i a = tkn3 [40] :: (tb N i ++ [tkn3 [41]]) := by unfold to_ toT; rw [decide_eq_true h]; rfl
theorem reads_3 {N : List T_api_Node} {i : Nat} (hl : lvA N i = 3) (p : ∀ ns rest, ns + i ≤ 1024 → Rd .si ns (stN N (tb N i ++ rest)) (i : Int) (stN N rest)) : Reads N i := by
  have e : ∀ a : Int, a ≤ 3 → to_ N i a = tb N i := fun a ha => to_no (by omega)
  refine ⟨fun ns rest hn => ?_, fun ns rest c q hn => ?_, fun ns rest c q hn => ?_, fun ns rest hn => ?_⟩
  · rw [e 3 (by omega)]; exact p ns rest (by omega)
  · rw [e 2 (by omega)]; exact bo_of_si (fun r => p ns r (by omega)) rest c q
  · rw [e 1 (by omega)]; exact jo_of_bo (bo_of_si (fun r => p ns r (by omega))) rest c q
  · rw [e 0 (by omega)]; exact im_of_jo (jo_of_bo (bo_of_si (fun r => p ns r (by omega)))) rest
theorem reads_2 {N : List T_api_Node} {i : Nat} (hl : lvA N i = 2) (p : ∀ ns rest c q, ns + i ≤ 1024 → Rd (.bl (i : Int)) ns (stN N rest) c q → Rd .bo ns (stN N (tb N i ++ rest)) c q) : Reads N i := by
  have e : ∀ a : Int, a ≤ 2 → to_ N i a = tb N i := fun a ha => to_no (by omega)
  refine ⟨fun ns rest hn => ?_, fun ns rest c q hn => ?_, fun ns rest c q hn => ?_, fun ns rest hn => ?_⟩
  · rw [to_yes (by omega)]; exact si_of_im (by omega) (im_of_jo (jo_of_bo fun r c q => p (ns + 1) r c q (by omega))) rest
  · rw [e 2 (by omega)]; exact p ns rest c q (by omega)
  · rw [e 1 (by omega)]; exact jo_of_bo (fun r c q => p ns r c q (by omega)) rest c q
  · rw [e 0 (by omega)]; exact im_of_jo (jo_of_bo fun r c q => p ns r c q (by omega)) rest
theorem reads_1 {N : List T_api_Node} {i : Nat} (hl : lvA N i = 1) (p : ∀ ns rest c q, ns + i ≤ 1024 → signB (hdl rest) [38] = false → Rd (.jl (i : Int)) ns (stN N rest) c q → Rd .jo ns (stN N (tb N i ++ rest)) c q) : Reads N i := by
  have e : ∀ a : Int, a ≤ 1 → to_ N i a = tb N i := fun a ha => to_no (by omega)
  have si : ∀ ns rest, ns + i < 1024 → Rd .si ns (stN N ((tkn3 [40] :: (tb N i ++ [tkn3 [41]])) ++ rest)) (i : Int) (stN N rest) := fun ns rest hn => si_of_im (by omega) (im_of_jo fun r c q => p (ns + 1) r c q (by omega)) rest
  refine ⟨fun ns rest hn => ?_, fun ns rest c q hn => ?_, fun ns rest c q hn => ?_, fun ns rest hn => ?_⟩
  · rw [to_yes (by omega)]; exact si ns rest hn
  · rw [to_yes (by omega)]; exact bo_of_si (fun r => si ns r hn) rest c q
  · rw [e 1 (by omega)]; exact p ns rest c q (by omega)
  · rw [e 0 (by omega)]; exact im_of_jo (fun r c q => p ns r c q (by omega)) rest
theorem reads_0 {N : List T_api_Node} {i : Nat} (hl : lvA N i = 0) (p : ∀ ns rest, ns + i ≤ 1024 → Nx0 rest → Rd .im ns (stN N (tb N i ++ rest)) (i : Int) (stN N rest)) : Reads N i := by
  have si : ∀ ns rest, ns + i < 1024 → Rd .si ns (stN N ((tkn3 [40] :: (tb N i ++ [tkn3 [41]])) ++ rest)) (i : Int) (stN N rest) := fun ns rest hn => si_of_im (by omega) (fun r => p (ns + 1) r (by omega)) rest
  refine ⟨fun ns rest hn => ?_, fun ns rest c q hn => ?_, fun ns rest c q hn => ?_, fun ns rest hn => ?_⟩
  · rw [to_yes (by omega)]; exact si ns rest hn
  · rw [to_yes (by omega)]; exact bo_of_si (fun r => si ns r hn) rest c q
  · rw [to_yes (by omega)]; exact jo_of_bo (bo_of_si (fun r => si ns r hn)) rest c q
  · rw [to_no (by omega)]; exact p ns rest (by omega)
theorem reads {N : List T_api_Node} (h : Fine N) : ∀ n i, i < n → i < N.length → Reads N i := by
  intro n
  induction n with
  | zero => intro i h1; omega
  | succ n ih =>
    intro i h1 hi
    have htb := tb_eq h.wf hi
    rcases acase h hi with ⟨hl, s, hs, hx, hw⟩ | ⟨hl, hs, hx⟩ | ⟨l, r, hl1, hr1, hh⟩
    · rw [hs] at htb
      refine reads_3 hl fun ns rest hn => ?_
      have hr := (rd_word (ns := ns) (s := stN N (tb N i ++ rest)) (tkn1 s) (by rw [htb]; rfl) rfl).2.2 hw
      have e : adv (stN N (tb N i ++ rest)) = stN N rest := by rw [htb]; rfl
      rw [e, show (tkn1 s).f_Text = s from rfl, nd_row h hi hx] at hr
      exact hr
    · rw [hs] at htb
      refine reads_3 hl fun ns rest hn => ?_
      have hr := (rd_word (ns := ns) (s := stN N (tb N i ++ rest)) (tkn1 [102, 97, 108, 115, 101]) (by rw [htb]; rfl) rfl).2.1 rfl
      have e : adv (stN N (tb N i ++ rest)) = stN N rest := by rw [htb]; rfl
      rw [e] at hr
      unfold botN at hr
      rw [nd_row h hi hx] at hr
      exact hr
    · have hl2 : l < N.length := by omega
      have hr2 : r < N.length := by omega
      have L := ih l (by omega) hl2
      have R := ih r (by omega) hr2
      rcases hh with ⟨hl, hs, hx, bl, br⟩ | ⟨hl, hs, hx, br⟩ | ⟨hl, hs, hx⟩ | ⟨hl, hs, hx⟩ | ⟨hl, hs, hx⟩
      · rw [hs] at htb
        refine reads_3 hl fun ns rest hn => ?_
        have hr := (rd_word (ns := ns) (s := stN N (tb N i ++ rest)) (tkn1 [116, 114, 117, 101]) (by rw [htb]; rfl) rfl).1 rfl
        have e : adv (stN N (tb N i ++ rest)) = stN N rest := by rw [htb]; rfl
        have e1 := nd_row h hl2 (bot_row h hl2 bl) rest
        have e2 := nd_row h hr2 (bot_row h hr2 br) rest
        have e3 : (l : Int) = (r : Int) := by
          rw [e1] at e2
          injection e2
        rw [e] at hr
        unfold topN botN impN at hr
        rw [e1] at hr
        simp only at hr
        rw [nd_row h hi (hx.trans (by rw [← e3]))] at hr
        exact hr
      · rw [hs] at htb
        refine reads_3 hl fun ns rest hn => ?_
        have e : adv (stN N (tb N i ++ rest)) = stN N (to_ N l 3 ++ rest) := by rw [htb]; rfl
        have hr := rd_neg (ns := ns) (s := stN N (tb N i ++ rest)) (by rw [htb]; rfl) (by rw [e]; exact L.si ns rest (by omega))
        unfold notN botN impN at hr
        rw [nd_row h hr2 (bot_row h hr2 br) rest] at hr
        simp only at hr
        rw [nd_row h hi hx] at hr
        exact hr
      · rw [hs] at htb
        refine reads_2 hl fun ns rest c q hn g => ?_
        rw [htb]
        simp only
        rw [List.append_assoc]
        refine L.bo ns _ c q (by omega) (rd_bl1 (s2 := stN N rest) rfl (R.si ns rest (by omega)) ?_)
        rw [nd_row h hi hx]
        exact g
      · rw [hs] at htb
        refine reads_1 hl fun ns rest c q hn g0 g => ?_
        rw [htb]
        simp only
        rw [List.append_assoc]
        refine L.jo ns _ c q (by omega) rfl (rd_jl1 (s2 := stN N rest) rfl (R.bo ns rest (r : Int) (stN N rest) (by omega) (rd_bl0 g0)) ?_)
        rw [nd_row h hi hx]
        exact g
      · rw [hs] at htb
        refine reads_0 hl fun ns rest hn g => ?_
        rw [htb]
        simp only
        rw [List.append_assoc]
        have := rd_im1 (s1 := stN N (sgn [32, 45, 62, 32] :: (to_ N r 0 ++ rest))) (L.jo ns _ (l : Int) _ (by omega) rfl (rd_jl0 rfl)) rfl (R.im ns rest (by omega) g)
        unfold impN at this
        rw [nd_row h hi hx] at this
        exact this
/-- A formula's tokens and an end. -/
theorem reads_all {N : List T_api_Node} (h : Fine N) {i : Nat} (hi : i < N.length) (h1 : i < 1024) : Rd .fo 0 (stN N (tb N i ++ [tok0])) (i : Int) (stN N [tok0]) := by
  have := (reads h (i + 1) i (Nat.lt_succ_self i) hi).im 0 [tok0] (by omega) ⟨rfl, rfl, rfl⟩
  have hlv : ¬ lvA N i < 0 := by
    unfold lvA
    cases (ndA N i).f_Kind == 3 <;> cases (ndA N i).f_Kind == 4 <;> cases (ndA N i).f_Kind == 5 <;> cases botA N (ndA N i).f_R.toNat <;> decide
  rw [to_no hlv] at this
  exact rd_fo0 this rfl
end Go.Proofs.YtpmkkhkphddfeaaGreatDoor.X
set_option linter.unusedVariables false
set_option linter.unusedSimpArgs false
namespace Go.Proofs.YtpmkkhkphddfeaaGreatDoor.X
open Go Go.RowKit Go.Proofs.YtpmkkhkphddfeaaGreatDoor.SX
theorem name_cls : ∀ c : _root_.Fin 256, (letV (UInt8.ofNat c.val) = true → letB (UInt8.ofNat c.val) = true) ∧ ((letV (UInt8.ofNat c.val) || tailC (UInt8.ofNat c.val)) = true → tailB (UInt8.ofNat c.val) = true) := by decide +kernel
theorem name_c (c : UInt8) : (letV c = true → letB c = true) ∧ ((letV c || tailC c) = true → tailB c = true) := by
  have := name_cls ⟨c.toNat, c.toNat_lt⟩
  simpa using this
theorem badW_tail : ∀ (s : List UInt8) (i : Nat), badW (i + 1) s = false → ∀ c ∈ s, tailB c = true
  | [], i, _ => fun c hc => by cases hc
  | c :: t, i, h => by
    rw [badW.eq_2, Bool.or_eq_false_iff] at h
    intro x hx
    rcases List.mem_cons.1 hx with rfl | hx
    · have h1 := h.1
      unfold badAt at h1
      rw [decide_eq_false (by omega : ¬ i + 1 = 0), Bool.false_or] at h1
      refine (name_c x).2 ?_
      cases hl : letV x <;> cases ht : tailC x <;> rw [hl, ht] at h1 <;> first | rfl | cases h1
    · exact badW_tail t (i + 1) h.2 x hx
theorem word_facts {s : List UInt8} (h : wordB s = true) : ∃ c t, s = c :: t ∧ letB c = true ∧ (∀ x ∈ s, tailB x = true) ∧ s.length ≤ 31 := by
  unfold wordB at h
  rw [Bool.and_eq_true, Bool.and_eq_true, Bool.and_eq_true, decide_eq_true_eq] at h
  obtain ⟨h1, h2, h3, _⟩ := h
  cases s with
  | nil => cases h2
  | cons c t =>
    have h1' : badW 0 (c :: t) = false := by cases hb : badW 0 (c :: t) with | true => rw [hb] at h1; cases h1 | false => rfl
    rw [badW.eq_2, Bool.or_eq_false_iff] at h1'
    have hl : letV c = true := by
      have := h1'.1
      unfold badAt at this
      cases hl : letV c with
      | true => rfl
      | false => rw [hl] at this; cases this
    refine ⟨c, t, rfl, (name_c c).1 hl, fun x hx => ?_, h3⟩
    rcases List.mem_cons.1 hx with rfl | hx
    · exact (name_c x).2 (by rw [hl]; rfl)
    · exact badW_tail t 0 h1'.2 x hx
/-- What may stand behind a name. -/
def Bnd (r : List UInt8) : Prop := r = [] ∨ ∃ c u, r = c :: u ∧ tailB c = false
theorem runN_all {p : UInt8 → Bool} {r : List UInt8} (hr : r = [] ∨ ∃ c u, r = c :: u ∧ p c = false) : ∀ s : List UInt8, (∀ c ∈ s, p c = true) → runN p (s ++ r) = s.length
  | [], _ => by
    rcases hr with rfl | ⟨c, u, rfl, h⟩
    · rfl
    · exact runN_cons_f h
  | c :: t, h => by
    show runN p (c :: (t ++ r)) = t.length + 1
    rw [runN_cons_t (h c (List.mem_cons_self ..)), runN_all hr t fun x hx => h x (List.mem_cons_of_mem _ hx)]
theorem word_of {c : UInt8} {t r : List UInt8} (h1 : letB c = true) (h2 : ∀ x ∈ c :: t, tailB x = true) (h3 : (c :: t).length ≤ 31) (hr : Bnd r) : wordP ((c :: t) ++ r) = .inl (tkn1 (c :: t), (c :: t).length) := by
  unfold wordP
  rw [show ((c :: t) ++ r).getD 0 0 = c from rfl, h1, cond_true, runN_all hr (c :: t) h2, if_neg (by omega), List.take_left]
  rfl
theorem tks_word {s r : List UInt8} {ts : List T_api_Token} (h : ∃ c t, s = c :: t ∧ letB c = true ∧ (∀ x ∈ s, tailB x = true) ∧ s.length ≤ 31) (hr : Bnd r) (ht : Tks r ts) : Tks (s ++ r) (tkn1 s :: ts) := by
  obtain ⟨c, t, rfl, h1, h2, h3⟩ := h
  exact Tks.tok [] (c :: t) r _ ts skips_nil (by simp) (word_of h1 h2 h3 hr) ht
theorem tks_sp {r : List UInt8} {ts : List T_api_Token} (ht : Tks r ts) : Tks (32 :: r) ts := by
  cases ht with
  | fin g hg => exact Tks.fin (32 :: r) (skips_app (skips_blank rfl) hg)
  | tok g x r' t ts' hg hx hw h => exact Tks.tok (32 :: g) x r' t ts' (skips_app (skips_blank rfl) hg) hx hw h
theorem tks_pt {N : List T_api_Node} {i : Nat} (p : ∀ r ts, Bnd r → Tks r ts → Tks (bd N i ++ r) (tb N i ++ ts)) (a : Int) (r : List UInt8) (ts : List T_api_Token) (hr : Bnd r) (ht : Tks r ts) : Tks (pt N i a ++ r) (to_ N i a ++ ts) := by
  by_cases h : lvA N i < a
  · rw [to_yes h, show pt N i a = 40 :: (bd N i ++ [41]) from by unfold pt ptT; rw [decide_eq_true h]; rfl]
    have h2 := p (41 :: r) (tkn3 [41] :: ts) (.inr ⟨41, r, rfl, rfl⟩) (Tks.tok [] [41] r _ ts skips_nil (by simp) rfl ht)
    have h3 := Tks.tok [] [40] _ (tkn3 [40]) _ skips_nil (by simp) rfl h2
    simpa using h3
  · rw [to_no h, show pt N i a = bd N i from by unfold pt ptT; rw [decide_eq_false h]; rfl]
    exact p r ts hr ht
theorem tks_bd {N : List T_api_Node} (h : Fine N) : ∀ n i, i < n → i < N.length → ∀ r ts, Bnd r → Tks r ts → Tks (bd N i ++ r) (tb N i ++ ts) := by
  intro n
  induction n with
  | zero => intro i h1; omega
  | succ n ih =>
    intro i h1 hi r ts hr ht
    have htb := tb_eq h.wf hi
    have hbd := bd_eq h.wf hi
    rcases acase h hi with ⟨hl, s, hs, hx, hw⟩ | ⟨hl, hs, hx⟩ | ⟨l, r', hl1, hr1, hh⟩
    · rw [hs] at htb hbd
      rw [htb, hbd]
      exact tks_word (word_facts hw) hr ht
    · rw [hs] at htb hbd
      rw [htb, hbd]
      exact tks_word (s := [102, 97, 108, 115, 101]) ⟨102, _, rfl, rfl, by decide, by decide⟩ hr ht
    · have L := tks_pt (ih l (by omega) (by omega))
      have R := tks_pt (ih r' (by omega) (by omega))
      rcases hh with ⟨hl, hs, hx, bl, br⟩ | ⟨hl, hs, hx, br⟩ | ⟨hl, hs, hx⟩ | ⟨hl, hs, hx⟩ | ⟨hl, hs, hx⟩
      · rw [hs] at htb hbd
        rw [htb, hbd]
        exact tks_word (s := [116, 114, 117, 101]) ⟨116, _, rfl, rfl, by decide, by decide⟩ hr ht
      · rw [hs] at htb hbd
        rw [htb, hbd]
        exact Tks.tok [] [126] _ (tkn3 [126]) _ skips_nil (by simp) rfl (L 3 r ts hr ht)
      · rw [hs] at htb hbd
        rw [htb, hbd]
        have h3 := Tks.tok [32] [38] _ (sgn [32, 38, 32]) _ (skips_blank rfl) (by simp) rfl (tks_sp (R 3 r ts hr ht))
        have h4 := L 2 _ _ (.inr ⟨32, _, rfl, rfl⟩) h3
        simpa using h4
      · rw [hs] at htb hbd
        rw [htb, hbd]
        have h3 := Tks.tok [32] [124] _ (sgn [32, 124, 32]) _ (skips_blank rfl) (by simp) rfl (tks_sp (R 2 r ts hr ht))
        have h4 := L 1 _ _ (.inr ⟨32, _, rfl, rfl⟩) h3
        simpa using h4
      · rw [hs] at htb hbd
        rw [htb, hbd]
        have h3 := Tks.tok [32] [45, 62] _ (sgn [32, 45, 62, 32]) _ (skips_blank rfl) (by simp) rfl (tks_sp (R 0 r ts hr ht))
        have h4 := L 1 _ _ (.inr ⟨32, _, rfl, rfl⟩) h3
        simpa using h4
theorem scan_bd {N : List T_api_Node} (h : Fine N) {i : Nat} (hi : i < N.length) : ∃ m, scanS (bd N i) = (m, F0) ∧ m.map nak = (tb N i).map nak ++ [tk 0 [] 0] := by
  have := tks_bd h (i + 1) i (Nat.lt_succ_self i) hi [] [] (.inl rfl) (Tks.fin [] skips_nil)
  rw [List.append_nil, List.append_nil] at this
  exact scanS_tks this
theorem good_nodup : ∀ (a N : List T_api_Node), N.Nodup → good N a = true → (N ++ a).Nodup
  | [], N, h, _ => by rw [List.append_nil]; exact h
  | x :: r, N, h, hg => by
    obtain ⟨⟨_, h2, _⟩, h3⟩ := good_cons.1 hg
    have := good_nodup r (N ++ [x]) (by
      rw [List.nodup_append]
      refine ⟨h, by simp, fun a ha b hb e => ?_⟩
      rw [List.mem_singleton] at hb
      rw [e, hb] at ha
      exact numN_none.1 h2 ha) h3
    rw [List.append_assoc] at this
    exact this
theorem rows_fine (a : List T_api_Node) : Fine (rowsOf a) := by
  refine ⟨rows_wf a, ?_, ?_⟩
  · unfold rowsOf
    cases h : good [] a with
    | true => have := good_nodup a [] List.nodup_nil h; exact this
    | false => exact List.nodup_nil
  · unfold rowsOf
    cases h : good [] a with
    | false => exact fun i hi => absurd hi (Nat.not_lt_zero _)
    | true =>
      intro i hi
      have h1 := good_fit a [] h i hi
      have h2 := ndA_get hi
      have hi' : i < a.length := hi
      rw [show (bif true then a else ([] : List T_api_Node)) = a from rfl] at h2 ⊢
      rw [List.getElem?_eq_getElem hi'] at h2
      rw [← Option.some.inj h2]
      exact fit_pre (List.take_prefix i a) h1
end Go.Proofs.YtpmkkhkphddfeaaGreatDoor.X
set_option linter.unusedVariables false
set_option linter.unusedSimpArgs false
namespace Go.Proofs.YtpmkkhkphddfeaaGreatDoor.X
open Go Go.RowKit Go.Proofs.YtpmkkhkphddfeaaGreatDoor.SX
set_option maxRecDepth 100000 in
theorem heads_at : dictumlaw04_heads.f 64 = some true := by kernel_rfl
theorem heads_ev : Ev fun k => dictumlaw04_heads.f k = some true := Ev.mono (fun k k' h => dictumlaw04_heads.mono h) heads_at
end Go.Proofs.YtpmkkhkphddfeaaGreatDoor.X
set_option linter.unusedVariables false
set_option linter.unusedSimpArgs false
namespace Go.Proofs.YtpmkkhkphddfeaaGreatDoor.X
open Go Go.RowKit Go.Proofs.YtpmkkhkphddfeaaGreatDoor.SX
theorem stop_0 {t : T_api_Token} (h : t.f_Kind = 0) : Stop t := ⟨by rw [h]; rfl, sign0 h _, sign0 h _, sign0 h _, sign0 h _, sign0 h _, sign0 h _⟩
/-- A formula's text is parsed as that formula. -/
theorem parse_text {N : List T_api_Node} (h : Fine N) {i : Nat} (hi : i < N.length) (h1 : i < 1024) (hc : ctl (ahP (bd N i)).1 ≤ 512) : parseP N (bd N i) = ((i : Int), F0, N) := by
  obtain ⟨m, m1, m2⟩ := scan_bd h hi
  have hA : ahP (bd N i) = (m, F0) := by unfold ahP; rw [m1]; rfl
  have hkind : ∀ t ∈ tb N i, t.f_Kind ≠ 0 := by
    rcases scanS_form (bd N i) with ⟨ts, q, e1, e2, _⟩ | ⟨c, q, e1, e2⟩
    · rw [e1] at m1
      injection m1 with m1 _
      rw [← m1, List.map_append, List.map_cons, List.map_nil] at m2
      have e3 := congrArg List.dropLast m2
      rw [List.dropLast_concat, List.dropLast_concat] at e3
      intro t ht
      have h3 : nak t ∈ ts.map nak := by rw [e3]; exact List.mem_map_of_mem ht
      obtain ⟨u, hu, e4⟩ := List.mem_map.1 h3
      rw [← (nak_kind e4).1]
      exact (e2 u hu).1
    · rw [e1] at m1
      injection m1 with _ m1
      exact absurd (congrArg T_api_Fault.f_Code m1) e2
  obtain ⟨us, mm, rfl, g2, g3⟩ := List.map_eq_append_iff.1 m2
  obtain ⟨xe, m4, rfl, g6, g7⟩ := List.map_eq_cons_iff.1 g3
  obtain rfl := List.map_eq_nil_iff.1 g7
  have ke := nak_kind (t' := tk 0 [] 0) (by rw [g6]; rfl)
  have h0 : Ends [tok0] [xe] := ⟨stop_0 rfl, stop_0 ke.1, rfl⟩
  obtain ⟨n, hn⟩ := reads_all h hi h1
  obtain ⟨_, c2⟩ := ps_sp h0 rfl n (max n (10 * (us ++ [xe]).length + 5)) (Nat.le_max_left _ _) .fo 0 0 _ (.inl rfl) trivial _ _ hn
  obtain ⟨_, _, _, u4⟩ := c2 rfl
  obtain ⟨tq, w1, w2⟩ := u4 N (us ++ [xe]) h.one List.prefix_rfl (sim_nak (tb N i) us g2 hkind)
  obtain ⟨_, rfl⟩ := w1.end_ rfl
  obtain ⟨o, ho⟩ := ps_end (us ++ [xe]) N
  have h2 := ps_mono false (Nat.le_max_right n (10 * (us ++ [xe]).length + 5)) _ _ _ _ ho
  have h3 : o = .inr ((i : Int), ⟨[xe], 0, false, N⟩) := Option.some.inj (h2.symm.trans w2)
  rw [h3] at ho
  refine parse_of (q := ⟨[xe], 0, false, N⟩) ?_ ?_ ke.1 ?_ rfl
  · exact many_of _ 0 (by omega)
  · rw [hA]; exact ho
  · rw [hA]; rfl
theorem fault_self (x : T_api_Fault) : T_api_Fault.eqb x x = true := by unfold T_api_Fault.eqb T_api_Spot.eqb; simp
theorem back_l1 {N : List T_api_Node} (h : Fine N) (k : Nat) (hk : 30000000 ≤ k) : ∀ (d kk i : Nat) (m : MapN), 40 - i ≤ d → d < kk → i ≤ 40 → Tab N m → dictumlaw04_SyntaxBack.l1 k (N.length : Int) kk (i : Int) ⟨N⟩ m = some (.inr ()) := by
  intro d
  induction d with
  | zero =>
    intro kk i m h1 h2 h3 hT
    obtain ⟨kk, rfl⟩ : ∃ q, kk = q + 1 := ⟨kk - 1, by omega⟩
    rw [dictumlaw04_SyntaxBack.l1.eq_2, decide_eq_false (by omega : ¬ (i : Int) < 40)]
    cases decide ((i : Int) < (N.length : Int)) <;> rfl
  | succ d ih =>
    intro kk i m h1 h2 h3 hT
    obtain ⟨kk, rfl⟩ : ∃ q, kk = q + 1 := ⟨kk - 1, by omega⟩
    rw [dictumlaw04_SyntaxBack.l1.eq_2]
    by_cases hi : i < N.length
    · by_cases h40 : i < 40
      · rw [decide_eq_true (by omega : (i : Int) < (N.length : Int)), cond_true, decide_eq_true (by omega : (i : Int) < 40), bind_some', cond_true, print_f k h.wf m hT (i : Int) (by omega), bind_some']
        have hhas : hasN N (i : Int) = true := has_nat hi
        unfold printP
        rw [hhas, cond_true, Int.toNat_natCast]
        unfold dictumlaw04_num.f
        have next : ∀ m', Tab N m' → dictumlaw04_SyntaxBack.l1 k (N.length : Int) kk (wrap64 ((i : Int) + 1)) ⟨N⟩ m' = some (.inr ()) := fun m' hT' => by
          rw [wsucc i (by omega)]
          exact ih kk (i + 1) m' (by omega) (by omega) (by omega) hT'
        by_cases hw : 65536 < wd N i
        · rw [decide_eq_true hw]
          exact next m hT
        · rw [decide_eq_false hw, cond_false, bind_some']
          have hlen := bd_len h.wf (i + 1) i (Nat.lt_succ_self i) hi (by omega)
          have hlen2 : (bd N i).length ≤ 65536 := by rw [hlen]; omega
          simp only
          rw [show ((0 : Int) != 0) = false from rfl, cond_false, count_f k (bd N i) (by omega) (by omega), bind_some', bind_some']
          by_cases hc : ctl (ahP (bd N i)).1 ≤ 512
          · rw [decide_eq_false (by omega : ¬ ((ctl (ahP (bd N i)).1 : Nat) : Int) > 512), cond_false]
            obtain ⟨m', e3, hT3⟩ := parse_f k N m (bd N i) hT (by omega) (by omega)
            rw [parse_text h hi (by omega) hc] at e3 hT3
            rw [e3, bind_some']
            simp only
            rw [show T_api_Fault.eqb F0 (⟨(0 : Int), (⟨(0 : Int), (0 : Int), (0 : Int)⟩ : T_api_Spot)⟩ : T_api_Fault) = true from fault_self _, show (!true) = false from rfl, cond_false, bne_self_eq_false, cond_false, len_f, bind_some', bne_self_eq_false, bind_some', cond_false, bind_some']
            exact next m' hT3
          · rw [decide_eq_true (by omega : ((ctl (ahP (bd N i)).1 : Nat) : Int) > 512), cond_true, bind_some']
            exact next m hT
      · rw [decide_eq_false (by omega : ¬ (i : Int) < 40)]
        cases decide ((i : Int) < (N.length : Int)) <;> rfl
    · rw [decide_eq_false (by omega : ¬ (i : Int) < (N.length : Int))]
      rfl
theorem node_len (x : T_api_Node) : x.f_Name.length ≤ T_api_Node.bulk x := by
  unfold T_api_Node.bulk
  simp only [bulk1, bulkS]
  omega
theorem sum_mem {α : Type} (b : α → Nat) : ∀ (a : List α) (x : α), x ∈ a → b x ≤ (a.map b).sum
  | [], x, h => by cases h
  | y :: r, x, h => by
    rw [List.map_cons, List.sum_cons]
    rcases List.mem_cons.1 h with rfl | h
    · omega
    · have := sum_mem b r x h
      omega
theorem rows_bulk (a : List T_api_Node) : a.length ≤ (bulkL T_api_Node.bulk) a ∧ ∀ x ∈ a, x.f_Name.length ≤ (bulkL T_api_Node.bulk) a := by
  have h := len_le_bulk T_api_Node.bulk (fun x => by unfold T_api_Node.bulk; omega) a
  simp only [bulkL]
  refine ⟨by omega, fun x hx => ?_⟩
  have h1 := sum_mem T_api_Node.bulk a x hx
  have := node_len x
  omega
theorem SyntaxBack_pure : ∀ (x0 : (List T_api_Node)), (bulkL T_api_Node.bulk) x0 ≤ 1048576 → (okL T_api_Node.ok) x0 → ∃ k, dictumlaw04_SyntaxBack.f k x0 = some true := by
  intro x0 hb _
  obtain ⟨r1, r2⟩ := rows_bulk x0
  obtain ⟨k0, hk0⟩ := heads_ev
  have h1 : 40000000 ≤ max k0 40000000 := Nat.le_max_right _ _
  refine ⟨max k0 40000000, ?_⟩
  have hh := hk0 (max k0 40000000) (Nat.le_max_left _ _)
  generalize max k0 40000000 = k at h1 hh
  obtain ⟨m, e1, hT⟩ := tables_f k x0 (by omega) (fun x hx => by have := r2 x hx; omega) (by omega) (by omega)
  have hF := rows_fine x0
  generalize rowsOf x0 = N at e1 hT hF
  unfold dictumlaw04_SyntaxBack.f
  rw [e1, bind_some']
  simp only
  rw [len_f, bind_some', show dictumlaw04_SyntaxBack.l1 k (N.length : Int) k 0 ⟨N⟩ m = _ from back_l1 hF k (by omega) 40 k 0 m (by omega) (by omega) (by omega) hT, bind_some']
  simp only
  rw [hh]
  rfl
end Go.Proofs.YtpmkkhkphddfeaaGreatDoor.X
