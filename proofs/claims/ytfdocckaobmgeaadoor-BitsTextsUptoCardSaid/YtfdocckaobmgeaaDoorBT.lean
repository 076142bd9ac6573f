/- Layer 5, plain: the law of texts. -/
import Derived.Test.YtfdocckaobmgeaaDoorBTd
import Derived.Test.YtfdocckaobmgeaaDoorBAl
set_option linter.unusedVariables false
set_option linter.unusedSimpArgs false
namespace Go.Proofs.YtfdocckaobmgeaaDoor.X
open Go Go.RowKit Go.Proofs.YtfdocckaobmgeaaDoor.SX
theorem flat44 : ∀ v : List (List UInt8), (v.flatMap fun y => (44 : UInt8) :: y).length = total v + v.length
  | [] => rfl
  | a :: u => by
    rw [List.flatMap_cons, List.length_append, flat44 u]
    show a.length + 1 + (total u + u.length) = a.length + total u + (u.length + 1)
    omega
theorem glue_len (v : List (List UInt8)) : (glue 44 v).length ≤ total v + v.length := by
  cases v with
  | nil => exact Nat.zero_le _
  | cons a u =>
    show (a ++ u.flatMap fun y => (44 : UInt8) :: y).length ≤ a.length + total u + (u.length + 1)
    rw [List.length_append, flat44]
    omega
theorem txt_len {e : List UInt64} (he : e.length = 16) : (txt e).length ≤ 10240 := by
  have hr := runs_len he 1025 0
  have hs : ((runs e 1025 0).map rtxt).length ≤ 1024 := by rw [List.length_map]; omega
  have ht := total_le ((runs e 1025 0).map rtxt) fun x hx => by
    obtain ⟨r, hr, rfl⟩ := List.mem_map.1 hx
    have := runs_lt he 1025 0 r hr
    exact rtxt_len (by omega) (by omega)
  have := glue_len ((runs e 1025 0).map rtxt)
  unfold txt
  omega
theorem parse_same {s : List UInt8} (hs : s.length ≤ 100000000) {k : Nat} (hk : 20000 < k) (hkk : s.length + 1 < k) : ∃ r, bits_Parse.f k s = some r ∧ dictumref05_Parse.f k s = some r := by
  rcases parse_any hs (k := k) (by omega) with h1 | ⟨e, he, ht, h1⟩
  · rcases rparse_any hs (k := k) (by omega) hkk with h2 | ⟨f, hf, ht, h2⟩
    · exact ⟨_, h1, h2⟩
    · have := parse_can hf (k := k) (by omega) (by have := txt_len hf; omega)
      rw [ht] at this
      exact ⟨_, this, h2⟩
  · have := rparse_can he (k := k) (by omega) (by have := txt_len he; omega) (by have := txt_len he; omega)
    rw [ht] at this
    exact ⟨_, h1, this⟩
theorem BitsTexts_pure : ∀ (x0 : (List UInt64)) (x1 : List UInt8), (bulkL bulk1) x0 + bulkS x1 ≤ 1048576 → (fun xs => xs.length = 16 ∧ okL okT xs) x0 → okS x1 → ∃ k, dictumlaw05_BitsTexts.f k x0 x1 = some true := by
  intro x0 x1 hb h0 _
  obtain ⟨hl, _⟩ := h0
  have hs : x1.length ≤ 1048576 := by unfold bulkS at hb; omega
  obtain ⟨k0, hk0⟩ := heads_ev
  refine ⟨max k0 2000000, ?_⟩
  have hh := hk0 (max k0 2000000) (by omega)
  have hk : 2000000 ≤ max k0 2000000 := Nat.le_max_right _ _
  generalize max k0 2000000 = k at hh hk
  obtain ⟨r, h1, h2⟩ := parse_same (s := x1) (by omega) (k := k) (by omega) (by omega)
  have hc := parse_can hl (k := k) (by omega) (by have := txt_len hl; omega)
  unfold dictumlaw05_BitsTexts.f
  rw [text_f hl (by omega), bind_some', hc, bind_some', h1, bind_some', h2, bind_some', rtext_f hl (by omega), bind_some']
  simp only [beq_self_eq_true, cond_true]
  rw [hh]
  rfl
end Go.Proofs.YtfdocckaobmgeaaDoor.X
