/- Layer 5, plain: the law of set algebra. -/
import Derived.Test.YtfdocckaobmgeaaDoorBJm
import Derived.Test.YtfdocckaobmgeaaDoorBJx
import Derived.Test.YtfdocckaobmgeaaDoorBJd
import Derived.Test.YtfdocckaobmgeaaDoorBAl
set_option linter.unusedVariables false
set_option linter.unusedSimpArgs false
namespace Go.Proofs.YtfdocckaobmgeaaDoor.X
open Go Go.RowKit Go.Proofs.YtfdocckaobmgeaaDoor.SX
section
variable {a b c : List UInt64} (ha : a.length = 16) (hb : b.length = 16) (hc : c.length = 16)
include ha hb hc
theorem alg1 : miB c (unB a b) = meB (miB c a) (miB c b) := set_ext (mi_len hc (un_len ha hb)) (me_len (mi_len hc ha) (mi_len hc hb)) fun j hj => by
  rw [mem_mi hc (un_len ha hb) hj, mem_un ha hb hj, mem_me (mi_len hc ha) (mi_len hc hb) hj, mem_mi hc ha hj, mem_mi hc hb hj]
  cases mem a j <;> cases mem b j <;> cases mem c j <;> rfl
theorem alg2 : miB c (meB a b) = unB (miB c a) (miB c b) := set_ext (mi_len hc (me_len ha hb)) (un_len (mi_len hc ha) (mi_len hc hb)) fun j hj => by
  rw [mem_mi hc (me_len ha hb) hj, mem_me ha hb hj, mem_un (mi_len hc ha) (mi_len hc hb) hj, mem_mi hc ha hj, mem_mi hc hb hj]
  cases mem a j <;> cases mem b j <;> cases mem c j <;> rfl
theorem alg3 : meB a (unB b c) = unB (meB a b) (meB a c) := set_ext (me_len ha (un_len hb hc)) (un_len (me_len ha hb) (me_len ha hc)) fun j hj => by
  rw [mem_me ha (un_len hb hc) hj, mem_un hb hc hj, mem_un (me_len ha hb) (me_len ha hc) hj, mem_me ha hb hj, mem_me ha hc hj]
  cases mem a j <;> cases mem b j <;> cases mem c j <;> rfl
theorem cmp_trans (h1 : cmpP a b < 0) (h2 : cmpP b c < 0) : cmpP a c < 0 := by
  rcases cmp_cases ha hb with ⟨i, p1, p2, p3, p4, p5⟩ | ⟨i, p1, p2, p3, p4, p5⟩ | ⟨p1, p2⟩
  · rcases cmp_cases hb hc with ⟨j, q1, q2, q3, q4, q5⟩ | ⟨j, q1, q2, q3, q4, q5⟩ | ⟨q1, q2⟩
    · rcases Nat.lt_trichotomy i j with h | h | h
      · rw [cmp_lt ha hc p1 p2 (by rw [← q4 i h, p3]) fun m hm => (p4 m hm).trans (q4 m (by omega))]
        decide
      · subst h; rw [p3] at q2; cases q2
      · rw [cmp_lt ha hc q1 (by rw [p4 j h, q2]) q3 fun m hm => (p4 m (by omega)).trans (q4 m hm)]
        decide
    · rw [q5] at h2; exact absurd h2 (by decide)
    · rw [q2] at h2; exact absurd h2 (by decide)
  · rw [p5] at h1; exact absurd h1 (by decide)
  · rw [p2] at h1; exact absurd h1 (by decide)
end
section
variable {a b : List UInt64} (ha : a.length = 16) (hb : b.length = 16)
include ha hb
theorem alg4 : meB (meB a b) a = meB a b := set_ext (me_len (me_len ha hb) ha) (me_len ha hb) fun j hj => by
  rw [mem_me (me_len ha hb) ha hj, mem_me ha hb hj]
  cases mem a j <;> cases mem b j <;> rfl
theorem alg5 : meB a (unB a b) = a := set_ext (me_len ha (un_len ha hb)) ha fun j hj => by
  rw [mem_me ha (un_len ha hb) hj, mem_un ha hb hj]
  cases mem a j <;> cases mem b j <;> rfl
theorem counts : ∀ (d n : Nat), d = 1024 - n → (mb (unB a b) n).length + (mb (meB a b) n).length = (mb a n).length + (mb b n).length
  | 0, n, h => by rw [mb_end _ (by omega), mb_end _ (by omega), mb_end _ (by omega), mb_end _ (by omega)]
  | d + 1, n, h => by
    have ih := counts d (n + 1) (by omega)
    have hn : n < 1024 := by omega
    have hu := mem_un ha hb hn
    have hm := mem_me ha hb hn
    cases h1 : mem a n <;> cases h2 : mem b n <;> rw [h1, h2] at hu hm
    · rw [mb_out _ hn hu, mb_out _ hn hm, mb_out _ hn h1, mb_out _ hn h2, ih]
    · rw [mb_in _ hn hu, mb_out _ hn hm, mb_out _ hn h1, mb_in _ hn h2, List.length_cons, List.length_cons]; omega
    · rw [mb_in _ hn hu, mb_out _ hn hm, mb_in _ hn h1, mb_out _ hn h2, List.length_cons, List.length_cons]; omega
    · rw [mb_in _ hn hu, mb_in _ hn hm, mb_in _ hn h1, mb_in _ hn h2, List.length_cons, List.length_cons, List.length_cons, List.length_cons]; omega
theorem cmp_anti : cmpP a b = -cmpP b a := by
  rcases cmp_cases ha hb with ⟨i, p1, p2, p3, p4, p5⟩ | ⟨i, p1, p2, p3, p4, p5⟩ | ⟨p1, p2⟩
  · rw [p5, cmp_gt hb ha p1 p3 p2 fun m hm => (p4 m hm).symm]
  · rw [p5, cmp_lt hb ha p1 p3 p2 fun m hm => (p4 m hm).symm]; rfl
  · subst p1; rw [p2]; rfl
theorem cmp_zero : (cmpP a b == 0) = (a == b) := by
  rw [Bool.eq_iff_iff, beq_iff_eq, beq_iff_eq]
  rcases cmp_cases ha hb with ⟨i, p1, p2, p3, p4, p5⟩ | ⟨i, p1, p2, p3, p4, p5⟩ | ⟨p1, p2⟩
  · rw [p5]
    exact ⟨fun h => absurd h (by decide), fun h => by subst h; rw [p2] at p3; cases p3⟩
  · rw [p5]
    exact ⟨fun h => absurd h (by decide), fun h => by subst h; rw [p2] at p3; cases p3⟩
  · exact ⟨fun _ => p1, fun _ => p2⟩
end
theorem cmp_small {a b : List UInt64} (ha : a.length = 16) (hb : b.length = 16) : -1 ≤ cmpP a b ∧ cmpP a b ≤ 1 := by
  rcases cmp_cases ha hb with ⟨i, p1, p2, p3, p4, p5⟩ | ⟨i, p1, p2, p3, p4, p5⟩ | ⟨p1, p2⟩
  · rw [p5]; decide
  · rw [p5]; decide
  · rw [p2]; decide
theorem wsum {m n : Nat} (hm : m ≤ 1024) (hn : n ≤ 1024) : wrap64 ((m : Int) + (n : Int)) = ((m + n : Nat) : Int) := by
  rw [w64 (by omega) (by omega)]; omega
theorem BitsAlgebra_pure : ∀ (x0 x1 x2 : (List UInt64)), (bulkL bulk1) x0 + (bulkL bulk1) x1 + (bulkL bulk1) x2 ≤ 1048576 → (fun xs => xs.length = 16 ∧ okL okT xs) x0 → (fun xs => xs.length = 16 ∧ okL okT xs) x1 → (fun xs => xs.length = 16 ∧ okL okT xs) x2 → ∃ k, dictumlaw05_BitsAlgebra.f k x0 x1 x2 = some true := by
  intro a b c _ h0 h1 h2
  obtain ⟨ha, _⟩ := h0
  obtain ⟨hb, _⟩ := h1
  obtain ⟨hc, _⟩ := h2
  obtain ⟨k0, hk0⟩ := heads_ev
  refine ⟨max k0 1048600, ?_⟩
  have hh := hk0 (max k0 1048600) (by omega)
  have hk : 16 < max k0 1048600 := by omega
  generalize max k0 1048600 = k at hh hk
  have hsm := cmp_small hb ha
  unfold dictumlaw05_BitsAlgebra.f
  rw [union_f ha hb hk, bind_some', meet_f ha hb hk, bind_some', minus_f hc (un_len ha hb) hk, bind_some', minus_f hc ha hk, bind_some', minus_f hc hb hk, bind_some', meet_f (mi_len hc ha) (mi_len hc hb) hk, bind_some', minus_f hc (me_len ha hb) hk, bind_some', bind_some', bind_some', union_f (mi_len hc ha) (mi_len hc hb) hk, bind_some', union_f hb hc hk, bind_some', meet_f ha (un_len hb hc) hk, bind_some', meet_f ha hc hk, bind_some', union_f (me_len ha hb) (me_len ha hc) hk, bind_some',
    sub_f (me_len ha hb) ha hk, bind_some', alg4 ha hb, sub_f ha (un_len ha hb) hk, bind_some', alg5 ha hb]
  simp only [beq_self_eq_true, cond_true]
  rw [count_f (un_len ha hb) hk, bind_some', count_f (me_len ha hb) hk, bind_some', count_f ha hk, bind_some', count_f hb hk, bind_some', wsum (mb_le _ _) (mb_le _ _), wsum (mb_le _ _) (mb_le _ _), counts ha hb 1024 0 rfl]
  simp only [beq_self_eq_true]
  rw [bind_some', sub_f ha hb hk, bind_some']
  simp only [beq_self_eq_true, cond_true]
  rw [cmp_f ha hb hk, bind_some', cmp_f hb ha hk, bind_some', show wrap64 (0 - cmpP b a) = cmpP a b from by rw [w64 (by omega) (by omega), cmp_anti ha hb]; omega]
  simp only [beq_self_eq_true, cond_true]
  rw [bind_some', cmp_zero ha hb]
  simp only [beq_self_eq_true, cond_true]
  rw [bind_some', bind_some']
  have ht : (bif decide (cmpP a b < 0) then (bits_Compare.f k b c).bind fun z242 => (bif !decide (z242 < 0) then some true else (bits_Compare.f k a c).bind fun z247 => some (decide (z247 < 0))) else some true) = some true := by
    by_cases h1 : cmpP a b < 0
    · rw [decide_eq_true h1, cond_true, cmp_f hb hc hk, bind_some']
      by_cases h2 : cmpP b c < 0
      · rw [decide_eq_true h2, show (!true) = false from rfl, cond_false, cmp_f ha hc hk, bind_some', decide_eq_true (cmp_trans ha hb hc h1 h2)]
      · rw [decide_eq_false h2]; rfl
    · rw [decide_eq_false h1]; rfl
  rw [ht, bind_some', alg1 ha hb hc, alg2 ha hb hc, alg3 ha hb hc]
  simp only [beq_self_eq_true, cond_true]
  rw [hh]
  rfl
end Go.Proofs.YtfdocckaobmgeaaDoor.X
