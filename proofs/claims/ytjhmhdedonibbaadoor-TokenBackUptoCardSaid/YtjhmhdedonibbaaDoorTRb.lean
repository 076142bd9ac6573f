/- Layer 2, plain: the law of joining and cutting. -/
import Derived.Test.YtjhmhdedonibbaaDoorTR
import Derived.Test.YtjhmhdedonibbaaDoorTOb
import Derived.Test.YtjhmhdedonibbaaDoorTAl
set_option linter.unusedVariables false
set_option linter.unusedSimpArgs false
namespace Go.Proofs.YtjhmhdedonibbaaDoor.X
open Go Go.RowKit Go.Proofs.YtjhmhdedonibbaaDoor.SX
/-- What can be joined: tokens, an end behind them or none. -/
theorem gath_form : ∀ (l : List T_api_Token) (ws : List (List UInt8)), gath l = some ws → ∃ ts es, l = ts ++ es ∧ (∀ t ∈ ts, t.f_Kind ≠ 0) ∧ (es = [] ∨ ∃ e, es = [e] ∧ e.f_Kind = 0 ∧ (writeP e).2 = 0)
  | [], ws, h => ⟨[], [], rfl, fun t h => (by cases h), Or.inl rfl⟩
  | t :: r, ws, h => by
    unfold gath at h
    split at h
    · cases h
    · rename_i hn
      obtain ⟨v, hv, rfl⟩ := Option.map_eq_some_iff.1 h
      have hw : (writeP t).2 = 0 := Classical.byContradiction fun hc => hn (Or.inl hc)
      by_cases hk : t.f_Kind = 0
      · have hr : r = [] := Classical.byContradiction fun hc => hn (Or.inr ⟨hk, hc⟩)
        subst hr
        exact ⟨[], [t], rfl, fun t h => (by cases h), Or.inr ⟨t, rfl, hk, hw⟩⟩
      · obtain ⟨ts, es, e1, e2, e3⟩ := gath_form r v hv
        refine ⟨t :: ts, es, by rw [e1]; rfl, fun u hu => ?_, e3⟩
        rcases List.mem_cons.1 hu with rfl | hu
        · exact hk
        · exact e2 u hu
def nE : List T_api_Token → List T_api_Token
  | [] => []
  | t :: r => if t.f_Kind = 0 then nE r else bare t :: nE r
theorem nE_all : ∀ (ts : List T_api_Token), (∀ t ∈ ts, t.f_Kind ≠ 0) → ∀ es, (es = [] ∨ ∃ e : T_api_Token, es = [e] ∧ e.f_Kind = 0 ∧ (writeP e).2 = 0) → nE (ts ++ es) = ts.map bare
  | [], _, es, h => by
    rcases h with rfl | ⟨e, rfl, hk, _⟩
    · rfl
    · show nE [e] = []
      unfold nE
      rw [if_pos hk]
      rfl
  | t :: r, ht, es, h => by
    show nE (t :: (r ++ es)) = _
    unfold nE
    rw [if_neg (ht t (List.mem_cons_self ..)), nE_all r (fun u hu => ht u (List.mem_cons_of_mem _ hu)) es h]
    rfl
theorem flat_gapped (ws : List (List UInt8)) : gapped (ws.flatMap fun y => 32 :: y) := by
  cases ws with
  | nil => exact Or.inl rfl
  | cons w r => exact Or.inr ⟨32, _, rfl, rfl⟩
theorem gath_toks : ∀ (l : List T_api_Token) (ws : List (List UInt8)), gath l = some ws → Toks (ws.flatMap fun y => 32 :: y) (nE l) ∧ Toks (glue ws) (nE l)
  | [], ws, h => by
    rw [← Option.some.inj h]
    exact ⟨.fin [] skips_nil, .fin [] skips_nil⟩
  | t :: r, ws, h => by
    have h0 := h
    unfold gath at h
    split at h
    · cases h
    · rename_i hn
      obtain ⟨v, hv, rfl⟩ := Option.map_eq_some_iff.1 h
      have hw : (writeP t).2 = 0 := Classical.byContradiction fun hc => hn (Or.inl hc)
      by_cases hk : t.f_Kind = 0
      · have hr : r = [] := Classical.byContradiction fun hc => hn (Or.inr ⟨hk, hc⟩)
        subst hr
        obtain rfl : [] = v := Option.some.inj hv
        have e1 : nE [t] = [] := by unfold nE; rw [if_pos hk]; rfl
        have e2 := (write_end hw hk).1
        rw [e1]
        show Toks (32 :: (writeP t).1 ++ []) [] ∧ Toks ((writeP t).1 ++ []) []
        rw [e2]
        exact ⟨.fin [32] (skips_blank rfl), .fin [] skips_nil⟩
      · obtain ⟨a, b⟩ := gath_toks r v hv
        obtain ⟨c, d⟩ := write_word hw hk
        have e1 : nE (t :: r) = bare t :: nE r := by rw [nE.eq_2, if_neg hk]
        rw [e1]
        have key : ∀ g, Skips g → Toks (g ++ ((writeP t).1 ++ v.flatMap fun y => 32 :: y)) (bare t :: nE r) := fun g hg => .tok g _ _ _ _ hg c d (flat_gapped v) a
        exact ⟨key [32] (skips_blank rfl), key [] skips_nil⟩
theorem flat_len : ∀ v : List (List UInt8), (v.flatMap fun y => 32 :: y).length = total v + v.length
  | [] => rfl
  | a :: u => by
    rw [List.flatMap_cons, List.length_append, flat_len u]
    show a.length + 1 + (total u + u.length) = a.length + total u + (u.length + 1)
    omega
theorem glue_len (v : List (List UInt8)) : (glue v).length ≤ total v + v.length := by
  cases v with
  | nil => exact Nat.le_refl _
  | cons a u =>
    show (a ++ _).length ≤ a.length + total u + (u.length + 1)
    rw [List.length_append, flat_len]
    omega
theorem ix_last {α : Type} (l : List α) (e : α) (h : l.length ≤ 1000000000) : ix (l ++ [e]) (wrap64 (((l ++ [e]).length : Int) - 1)) = some e := by
  rw [List.length_append, List.length_singleton, w64 (by omega) (by omega), show ((l.length + 1 : Nat) : Int) - 1 = (l.length : Int) from by omega, ix_nat]
  simp
theorem TokenBack_pure : ∀ (x0 : (List T_api_Token)), (bulkL T_api_Token.bulk) x0 ≤ 1048576 → (okL T_api_Token.ok) x0 → ∃ k, dictumlaw02_TokenBack.f k x0 = some true := by
  intro x0 hb ho
  obtain ⟨r1, r2, r3⟩ := room_bulk x0
  simp only [bulkL] at hb
  obtain ⟨k0, hk0⟩ := alive_ev
  refine ⟨max k0 20000020, ?_⟩
  have hh := hk0 (max k0 20000020) (by omega)
  have hk : 20000020 ≤ max k0 20000020 := Nat.le_max_right _ _
  generalize max k0 20000020 = k at hh hk
  unfold dictumlaw02_TokenBack.f
  rw [join_f k x0 (by omega) (by omega) (by omega) (fun t h => by have := r3 t h; exact ⟨by omega, by omega⟩), bind_some']
  unfold dictumlaw02_num.f joinP
  cases hg : gath x0 with
  | none =>
    show (dictumlaw02_alive.f k).bind _ = _
    rw [hh]
    rfl
  | some ws =>
    have h1 := gath_len x0 ws hg
    have h2 := gath_total x0 ws hg
    have h3 := glue_len ws
    obtain ⟨m, hm, hm2⟩ := scanS_toks (gath_toks x0 ws hg).2
    have hml : m.length = (nE x0).length + 1 := by have := congrArg List.length hm2; rw [List.length_map, List.length_append, List.length_map] at this; exact this
    obtain ⟨ts, es, e1, e2, e3⟩ := gath_form x0 ws hg
    have hne := nE_all ts e2 es e3
    rw [← e1] at hne
    rw [bind_some']
    simp only
    rw [show ((0 : Int) != 0) = false from rfl, cond_false, scan_f k _ (by omega) (by omega), bind_some', hm, plain_f k x0 (by omega) (by omega), bind_some']
    have hlen : ts.length ≤ x0.length := by rw [e1, List.length_append]; omega
    rw [hne, List.length_map] at hml
    rw [hne, map_bare2] at hm2
    have fin : ∀ w : List T_api_Token, w = ts.map bare ++ [tk 0 [] 0] → (bif T_api_Fault.eqb F0 (⟨(0 : Int), (⟨(0 : Int), (0 : Int), (0 : Int)⟩ : T_api_Spot)⟩ : T_api_Fault) then
        (dictumlaw02_plain.f k m).bind fun z148 => (dictumlaw02_same.f k z148 w).bind fun z160 => (bif z160 then (dictumlaw02_alive.f k ).bind fun z165 => some z165 else some false) else some false) = some true := by
      rintro w rfl
      rw [show T_api_Fault.eqb F0 (⟨(0 : Int), (⟨(0 : Int), (0 : Int), (0 : Int)⟩ : T_api_Spot)⟩ : T_api_Fault) = true from fault_refl _, cond_true, plain_f k m (by omega) (by omega), bind_some', hm2, same2_f k _ (by rw [List.length_append, List.length_map, List.length_singleton]; omega) (by rw [List.length_append, List.length_map, List.length_singleton]; omega), bind_some', cond_true, hh]
      rfl
    have hbl : (x0.map bare).length = x0.length := List.length_map ..
    rcases e3 with rfl | ⟨e, rfl, hk0', hw0⟩
    · rw [List.append_nil] at e1
      subst e1
      have hl : ((bif (((x0.map bare).length : Int) == 0) then some true else (ix (x0.map bare) (wrap64 (((x0.map bare).length : Int) - 1))).bind fun x199 => some (x199.f_Kind != 0)) : Option Bool) = some true := by
        rcases List.eq_nil_or_concat x0 with rfl | ⟨u, e, rfl⟩
        · rfl
        · rw [List.concat_eq_append] at *
          have hke := e2 e (by simp)
          have hlu : u.length ≤ 2000000 := by rw [List.length_append, List.length_singleton] at hlen r2; omega
          have hz : (((List.map bare (u ++ [e])).length : Int) == 0) = false := by rw [← Bool.not_eq_true, beq_iff_eq, List.length_map, List.length_append, List.length_singleton]; omega
          rw [hz, cond_false, List.map_append, List.map_cons, List.map_nil, ix_last _ _ (by rw [List.length_map]; omega), bind_some']
          show some (e.f_Kind != 0) = some true
          rw [show (e.f_Kind != 0) = true from by rw [bne_iff_ne]; exact hke]
      rw [hl, bind_some', cond_true, chk_of (decide_eq_true (by rw [List.length_singleton, hbl]; omega)), bind_some', bind_some']
      exact fin _ rfl
    · have hl : ((bif (((x0.map bare).length : Int) == 0) then some true else (ix (x0.map bare) (wrap64 (((x0.map bare).length : Int) - 1))).bind fun x199 => some (x199.f_Kind != 0)) : Option Bool) = some false := by
        have hz : (((List.map bare x0).length : Int) == 0) = false := by rw [← Bool.not_eq_true, beq_iff_eq, List.length_map, e1, List.length_append, List.length_singleton]; omega
        rw [hz, cond_false, e1, List.map_append, List.map_cons, List.map_nil, ix_last _ _ (by rw [List.length_map]; omega), bind_some']
        show some (e.f_Kind != 0) = some false
        rw [hk0']
        rfl
      rw [hl, bind_some', cond_false, bind_some']
      refine fin _ ?_
      rw [e1, List.map_append]
      congr 1
      show [bare e] = _
      rw [(write_end hw0 hk0').2]
end Go.Proofs.YtjhmhdedonibbaaDoor.X
