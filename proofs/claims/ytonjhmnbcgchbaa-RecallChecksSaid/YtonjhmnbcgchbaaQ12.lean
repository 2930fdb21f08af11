/-
  RecallChecks: what Plan returns is accepted; what is accepted is the cheapest; one element less or more is refused.
-/
import Derived.Test.YtonjhmnbcgchbaaQ10
namespace Go.Proofs.Ytonjhmnbcgchbaa
open Go.Lad Classical
set_option linter.unusedVariables false
set_option linter.unusedSectionVars false
set_option linter.unusedSimpArgs false

theorem checkS_zero {l : List GOption} {p : Nat} (h : RT l p) {s : List Int} {t : List GBranch} (hc : checkS l p s t = 0) : goodB l p s = true ∧ fol l p (costW l s) l.length 0 0 t = some [] := by
  unfold checkS at hc
  split at hc
  · rename_i hg
    split at hc
    · rename_i hf
      rw [Int.toNat_natCast] at hf
      exact ⟨hg, hf⟩
    · cases hc
  · cases hc
theorem checkS_other {l : List GOption} {p : Nat} {s : List Int} {t : List GBranch} (hg : goodB l p s = true) (hf : fol l p (costW l s) l.length 0 0 t ≠ some []) : checkS l p s t = 19 := by
  unfold checkS
  rw [if_pos hg, Int.toNat_natCast, if_neg hf]
theorem goodB_spec {l : List GOption} {p : Nat} (h : RT l p) {s : List Int} (hg : goodB l p s = true) : ∃ m, m < 2 ^ l.length ∧ s = lst m l.length ∧ goodM l p m ∧ costW l s = cst l m := by
  have hn := h.hn
  unfold goodB at hg
  simp only [Bool.and_eq_true, decide_eq_true_eq, Int.toNat_natCast] at hg
  have e := rise_lst hg.2.1 (by omega)
  obtain ⟨_, hlt⟩ := rise_rp hg.2.1 (by omega)
  refine ⟨mask s, hlt, e, hg.2.2, ?_⟩
  conv => lhs; rw [e]
  exact costW_lst h _ l.length (Nat.le_refl _)
/-- what is accepted is cheapest -/
theorem check_least {l : List GOption} {p : Nat} (h : RT l p) {s : List Int} {t : List GBranch} (hf : fol l p (costW l s) l.length 0 0 t = some []) {x : Nat} (hg : goodM l p x) : costW l s ≤ cst l x :=
  fol_sound h (costW l s) l.length 0 0 t [] (by omega) (by decide) hf x (fun i hi => absurd hi (by omega)) hg
theorem fol_more {l : List GOption} {p : Nat} {c : Int} {r k m : Nat} {t : List GBranch} (hf : fol l p c r k m t = some []) (u : List GBranch) : fol l p c r k m (t ++ u) = some u := by
  obtain ⟨pre, _, e, hp⟩ := fol_pre r k m t [] hf
  rw [List.append_nil] at e
  rw [e]
  exact hp u
theorem fol_less {l : List GOption} {p : Nat} {c : Int} {r k m : Nat} {t : List GBranch} {x : GBranch} (hf : fol l p c r k m (t ++ [x]) = some []) : fol l p c r k m t ≠ some [] := by
  intro hc
  rw [fol_more hc [x]] at hf
  cases hf
theorem checks_true (l : List GOption) (p : Int) (s : List Int) (t : List GBranch) : ladinglaw46_RecallChecks l p s t = some true := by
  unfold ladinglaw46_RecallChecks
  obtain ⟨b, hb, hb2⟩ := light_eq l 9 (by omega)
  have hb : ladinglaw46_light l 9 = some b := hb
  rw [small_true, bind_in, hb, bind_in]
  unfold ladinglaw46_RecallChecks.j3
  simp only [ltZ_eq, bif_dec]
  cases b with
  | false => rfl
  | true =>
    have h9 := (hb2 rfl).1
    have hl := light_lit (by omega) (hb2 rfl)
    rw [bif_not, cond_true]
    by_cases h1 : p < 0
    · rw [if_pos h1]; rfl
    · rw [if_neg h1]
      by_cases h2 : 12 < p
      · rw [if_pos h2]; rfl
      · rw [if_neg h2, Right_eq hl, bind_in]
        cases hr : rightB l p with
        | false => rfl
        | true =>
          obtain ⟨q, rfl, h⟩ := rightB_iff.1 hr
          rw [bif_not, cond_true]
          by_cases h3 : 12 < (s.length : Int)
          · rw [if_pos h3]; rfl
          · rw [if_neg h3, bind_in]
            by_cases h4 : 600 < (t.length : Int)
            · rw [decide_eq_true h4]; rfl
            · have hlen := planS_len h
              rw [decide_eq_false h4, cond_false, Plan_eq h, bind_in]
              have hv : (visAll l q).1 = true := (vis_small l.length 0 0 0 Never [] (by
                have : 2 ^ (l.length + 1) ≤ 2 ^ 10 := Nat.pow_le_pow_right (by omega) (by omega)
                simp; omega)).1
              -- what Plan returns is accepted, or is nothing
              have hx : (bif (eqZ (planS l q).2.2 0) then
                  ((recall_Check l q (planS l q).1 (planS l q).2.1).bind fun c10 =>
                  bif (!eqZ c10 0) then some true
                  else (bif (!eqZ (planS l q).2.2 0) then (bif (decide (0 < ((planS l q).1.length : Int))) then some true else some (decide (0 < ((planS l q).2.1.length : Int)))) else some false))
                else (bif (!eqZ (planS l q).2.2 0) then (bif (decide (0 < ((planS l q).1.length : Int))) then some true else some (decide (0 < ((planS l q).2.1.length : Int)))) else some false)) = some false := by
                rw [eqZ_eq, bif_dec]
                rcases plan_spec h with ⟨e0, _⟩ | ⟨e, _⟩ | ⟨_, e⟩
                · rw [if_pos e0, Check_eq hl _ hlen.1, plan_checks h e0, bind_in, eqZ_eq, decide_eq_true rfl, decide_eq_true e0]; rfl
                · rw [e]; rfl
                · rw [hv] at e; cases e
              simp only [bif_dec] at hx
              rw [hx, bind_in]
              unfold ladinglaw46_RecallChecks.j2
              rw [cond_false, Check_eq hl _ (by omega), bind_in, eqZ_eq, bif_not, bif_dec]
              by_cases hc : checkS l (q : Int) s t = 0
              · rw [if_pos hc]
                obtain ⟨hg, hf⟩ := checkS_zero h hc
                obtain ⟨m, hm, hs, hgm, hcm⟩ := goodB_spec h hg
                have htne : t ≠ [] := by
                  intro e
                  rw [e, fol_nil] at hf; cases hf
                have hpos : 0 < t.length := by cases t with | nil => exact absurd rfl htne | cons _ _ => simp
                rcases plan_spec h with ⟨e0, b, hbl, e1, hgb, hmin, _, _, _, _⟩ | ⟨_, _, _, hno⟩ | ⟨_, e⟩
                · have hcb : costW l (planS l q).1 = cst l b := by rw [e1]; exact costW_lst h b l.length (Nat.le_refl _)
                  have hle1 := check_least h hf hgb
                  have hle2 := hmin m hm hgm
                  rw [eqZ_eq, bif_not, bif_dec, if_pos e0, eqZ_eq, bif_dec, if_neg (by omega), Good_eq hl _ (by omega), hg, bind_in, bif_not, cond_true, Cost_eq l s (by omega), bind_in, Cost_eq l _ hlen.1, bind_in, eqZ_eq, decide_eq_true (show costW l s = costW l (planS l q).1 by omega), bind_in]
                  unfold ladinglaw46_RecallChecks.j1
                  obtain ⟨x, t0, rfl⟩ : ∃ x t0, t = x :: t0 := by cases t with | nil => exact absurd rfl htne | cons x t0 => exact ⟨x, t0, rfl⟩
                  rw [Bool.not_true, cond_false, app_nil (by omega), bind_in, idx_cons, bind_in, app_one (by omega), bind_in, cond_true, z64_i (by omega), bind_in]
                  have hcut : cut (x :: t0) 0 ((((x :: t0).length : Nat) : Int) - 1) = some ((x :: t0).take t0.length) := by
                    unfold cut
                    rw [if_pos (by simp; omega), show ((((x :: t0).length : Nat) : Int) - 1).toNat = t0.length by simp]; rfl
                  have hsplit : ∃ y, x :: t0 = (x :: t0).take t0.length ++ [y] := by
                    have hlast := take_snoc (x :: t0) t0.length (by simp)
                    rw [List.take_of_length_le (by simp)] at hlast
                    exact ⟨_, hlast⟩
                  obtain ⟨y, hy⟩ := hsplit
                  have hless : checkS l (q : Int) s ((x :: t0).take t0.length) = 19 := checkS_other hg (fol_less (x := y) (by rw [← hy]; exact hf))
                  have hmore : checkS l (q : Int) s (x :: t0 ++ [x]) = 19 := checkS_other hg (by rw [fol_more hf [x]]; simp)
                  rw [hcut, bind_in, Check_eq hl _ (by omega), bind_in, hless, eqZ_eq, decide_eq_true rfl, cond_true, Check_eq hl _ (by omega), bind_in, hmore, eqZ_eq, decide_eq_true rfl]
                · exact absurd hgm (hno m hm)
                · rw [hv] at e; cases e
              · rw [if_neg hc]
end Go.Proofs.Ytonjhmnbcgchbaa
