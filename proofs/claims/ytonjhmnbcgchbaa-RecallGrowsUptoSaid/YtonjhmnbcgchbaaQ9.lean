/-
  Check of the reference; the laws' own helpers; the first law.
-/
import Derived.Test.YtonjhmnbcgchbaaQ8
namespace Go.Proofs.Ytonjhmnbcgchbaa
open Go.Lad Classical
set_option linter.unusedVariables false
set_option linter.unusedSectionVars false
set_option linter.unusedSimpArgs false

def resW (N : Nat) : Option (List GBranch) → Int
  | some u => ((N - u.length : Nat) : Int)
  | none => -1
section
variable {l : List GOption} {p : Nat} (h : RT l p)
include h
theorem walk_neg (c : Int) (t : List GBranch) (f : Nat) (k : Int) (s : List Int) : ladingref46_walk.rec (f + 1) l (p : Int) c t (-1) k s = some (-1) := by
  unfold ladingref46_walk.rec ladingref46_walk.body
  rw [ltZ_eq, bif_dec, if_pos (by omega), bind_in]; rfl
theorem walk_eq (c : Int) (tree : List GBranch) (hN : tree.length ≤ 1000000) : ∀ (r f k m j : Nat), r < f → k + r = l.length → m < 2 ^ k → j ≤ tree.length →
    ladingref46_walk.rec f l (p : Int) c tree (j : Int) (k : Int) (lst m k) = some (resW tree.length (fol l p c r k m (tree.drop j)))
  | r, 0, k, m, j, hf, _, _, _ => absurd hf (by omega)
  | r, f + 1, k, m, j, hf, hk, hm, hj => by
    have hn := h.hn
    have hsl := lst_len m k
    unfold ladingref46_walk.rec ladingref46_walk.body
    rw [ltZ_eq, bif_dec, if_neg (by omega), bind_in, leZ_eq]
    unfold ladingref46_walk.j3
    by_cases hjl : tree.length ≤ j
    · rw [decide_eq_true (by omega), List.drop_eq_nil_of_le hjl, fol_nil]; rfl
    · rw [decide_eq_false (by omega), cond_false, idx_nat (show j < tree.length by omega), bind_in, refBound_eq h (by omega) rfl hm, bind_in, List.drop_eq_getElem_cons (show j < tree.length by omega), eqZ_eq, bif_not, bif_dec]
      unfold ladingref46_walk.j2
      by_cases h1 : tree[j].2 = bnd l p k m
      · rw [if_pos h1, eqZ_eq, bif_dec]
        by_cases h2 : tree[j].1 = 0
        · rw [if_pos h2, bind_in, ltZ_eq]
          have e : fol l p c r k m (tree[j] :: tree.drop (j + 1)) = if c ≤ tree[j].2 then some (tree.drop (j + 1)) else none := by
            cases r <;> (unfold fol; rw [if_pos h1, if_pos h2])
          rw [e]
          by_cases h3 : c ≤ tree[j].2
          · rw [if_pos h3, decide_eq_false (by omega), cond_false, bif_dec, if_pos h2, z64_succ (by omega), bind_in]
            unfold resW
            dsimp only
            rw [List.length_drop]
            congr 2
            omega
          · rw [if_neg h3, decide_eq_true (by omega)]; rfl
        · rw [if_neg h2, bind_in, cond_false, bif_dec, if_neg h2, eqZ_eq, bif_not, bif_dec]
          unfold ladingref46_walk.j1
          by_cases h3 : tree[j].1 = 2
          · rw [if_pos h3, bind_in, eqZ_eq]
            cases r with
            | zero =>
              rw [decide_eq_true (show (k : Int) = (l.length : Int) by omega)]
              have e : fol l p c 0 k m (tree[j] :: tree.drop (j + 1)) = none := by unfold fol; rw [if_pos h1, if_neg h2]
              rw [e]; rfl
            | succ r =>
              rw [decide_eq_false (show ¬ (k : Int) = (l.length : Int) by omega), cond_false]
              have e : fol l p c (r + 1) k m (tree[j] :: tree.drop (j + 1)) = (fol l p c r (k + 1) m (tree.drop (j + 1))).bind (fun t' => fol l p c r (k + 1) (m ||| 2 ^ k) t') := by
                rw [fol, if_pos h1, if_neg h2, if_pos h3]
              have e1 := walk_eq c tree hN r f (k + 1) m (j + 1) (by omega) (by omega) (lt_succ_pow hm) (by omega)
              rw [lst_ge hm (by omega)] at e1
              rw [z64_succ (by omega), bind_in, z64_succ (by omega), bind_in, e1, bind_in, bind_in, app_nil (by omega), bind_in, app_one (by omega), bind_in, e, ← lst_or hm]
              cases hv : fol l p c r (k + 1) m (tree.drop (j + 1)) with
              | none =>
                obtain ⟨g, rfl⟩ : ∃ g, f = g + 1 := ⟨f - 1, by omega⟩
                show (ladingref46_walk.rec (g + 1) l (p : Int) c tree (-1) _ _).bind _ = _
                rw [walk_neg h, bind_in]; rfl
              | some w =>
                obtain ⟨pre, _, hpre, _⟩ := fol_pre r (k + 1) m _ w hv
                have hw : w = tree.drop (tree.length - w.length) := by
                  have e3 : tree = tree.take (j + 1) ++ (pre ++ w) := by rw [← hpre, List.take_append_drop]
                  have e4 := congrArg List.length e3
                  conv => rhs; rw [e3]
                  rw [← List.append_assoc, List.drop_append_of_le_length (by simp at e4 ⊢; omega)]
                  have : (tree.take (j + 1) ++ (pre ++ w)).length - w.length = (tree.take (j + 1) ++ pre).length := by simp; omega
                  rw [List.drop_eq_nil_of_le (by simp at e4 ⊢; omega), List.nil_append]
                have e2 := walk_eq c tree hN r f (k + 1) (m ||| 2 ^ k) (tree.length - w.length) (by omega) (by omega) (or_bit_lt hm) (by omega)
                rw [← hw] at e2
                show (ladingref46_walk.rec f l (p : Int) c tree ((tree.length - w.length : Nat) : Int) _ _).bind _ = _
                rw [e2, bind_in]; rfl
          · rw [if_neg h3, bind_in]
            have e : fol l p c r k m (tree[j] :: tree.drop (j + 1)) = none := by
              cases r <;> (unfold fol; rw [if_pos h1, if_neg h2])
              rw [if_neg h3]
            rw [e]; rfl
      · rw [if_neg h1, bind_in]
        have e : fol l p c r k m (tree[j] :: tree.drop (j + 1)) = none := by cases r <;> (unfold fol; rw [if_neg h1])
        rw [e]; rfl
end
theorem refCheck_eq {l : List GOption} (hl : Lit l) (p : Int) {s : List Int} (hs : s.length ≤ 1000000) {t : List GBranch} (ht : t.length ≤ 1000000) : ladingref46_Check l p s t = some (checkS l p s t) := by
  unfold ladingref46_Check checkS
  rw [refGood_eq hl p hs, bind_in]
  cases hg : goodB l p s with
  | false => rfl
  | true =>
    rw [bif_not, cond_true, if_pos rfl]
    have hr : rightB l p = true := by unfold goodB at hg; rw [Bool.and_eq_true] at hg; exact hg.1
    obtain ⟨q, rfl, h⟩ := rightB_iff.1 hr
    have hn := h.hn
    have e1 := walk_eq h (costW l s) t ht l.length bigFuel.n 0 0 0 (by show l.length < 1606938044258990275541962092341162602522202993782792835301376; omega) (by omega) (by decide) (by omega)
    rw [refCost_eq l s hs, bind_in]
    unfold ladingref46_walk
    have e1 : ladingref46_walk.rec Fuel.n l (q : Int) (costW l s) t 0 0 [] = _ := e1
    rw [e1, bind_in, Int.toNat_natCast, List.drop_zero]
    unfold ladingref46_Check.j1
    cases hv : fol l q (costW l s) l.length 0 0 t with
    | none => rfl
    | some u =>
      obtain ⟨pre, hne, hpre, _⟩ := fol_pre _ _ _ _ _ hv
      have hlen : t.length = pre.length + u.length := by rw [hpre]; simp
      have hpos : 0 < pre.length := by cases pre with | nil => exact absurd rfl hne | cons _ _ => simp
      unfold resW
      dsimp only
      rw [ltZ_eq, bif_dec, if_neg (by omega), bind_in, eqZ_eq]
      cases u with
      | nil => simp
      | cons x u =>
        rw [decide_eq_false (by simp at hlen ⊢; omega)]
        simp
/-! ### lists are equal -/
theorem Same_eq {a b : List Int} (ha : a.length ≤ 1000000) : ladingref46_Same a b = some (decide (a = b)) := by
  unfold ladingref46_Same
  rw [eqZ_eq, bif_not, bif_dec]
  by_cases hl : a.length = b.length
  · rw [if_pos (by omega)]
    have key := loop_scan (body := fun x => ladingref46_Same.b1 a b x) a (fun k x => if b[k]? = some x then none else some false) true (fun k hk => by
      have hkb : k < b.length := by omega
      unfold ladingref46_Same.b1
      simp only [ltZ_eq, eqZ_eq, bif_dec, bif_not, idx_nat hk, idx_nat hkb, bind_in, z64_succ (show k + 1 ≤ 9223372036854775807 by omega)]
      rw [if_pos (by omega), List.getElem?_eq_getElem hkb]
      by_cases hc : a[k] = b[k]
      · rw [if_pos hc, if_pos (by rw [hc])]
      · rw [if_neg hc, if_neg (fun e => hc (by injection e with e; exact e.symm))]) (by
      unfold ladingref46_Same.b1
      simp only [ltZ_eq, bif_dec]
      rw [if_neg (by omega)]) (by omega)
    rw [key]
    congr 1
    by_cases hab : a = b
    · subst hab
      rw [decide_eq_true rfl, scan_none.2 fun i hi => by rw [Nat.zero_add, if_pos (List.getElem?_eq_getElem hi)]]; rfl
    · rw [decide_eq_false hab]
      cases hsc : scan (fun k x => if b[k]? = some x then none else some false) 0 a with
      | none =>
        exfalso
        refine hab (List.ext_getElem hl fun i h1 h2 => ?_)
        have := scan_none.1 hsc i h1
        rw [Nat.zero_add] at this
        split at this
        · rename_i h3
          rw [List.getElem?_eq_getElem h2] at h3
          injection h3 with h3; exact h3.symm
        · cases this
      | some c =>
        obtain ⟨i, hi, h6, _⟩ := scan_some.1 hsc
        split at h6
        · cases h6
        · injection h6 with h6; rw [← h6]; rfl
  · rw [if_neg (by omega), decide_eq_false (fun e => hl (by rw [e]))]
theorem SameTree_self {a : List GBranch} (ha : a.length ≤ 1000000) : ladingref46_SameTree a a = some true := by
  unfold ladingref46_SameTree
  rw [eqZ_eq, bif_not, bif_dec, if_pos rfl]
  rw [loop_scan (body := fun x => ladingref46_SameTree.b1 a a x) a (fun k x => none) true (fun k hk => by
    unfold ladingref46_SameTree.b1
    simp only [ltZ_eq, eqZ_eq, bif_dec, bif_not, idx_nat hk, bind_in, z64_succ (show k + 1 ≤ 9223372036854775807 by omega)]
    rw [if_pos (by omega)]
    simp) (by
    unfold ladingref46_SameTree.b1
    simp only [ltZ_eq, bif_dec]
    rw [if_neg (by omega)]) (by omega), scan_none.2 fun i hi => rfl]
  rfl
/-- lists of at most 12 elements -/
def lightO (o : GOption) : Prop := o.2.1.length ≤ 12 ∧ o.2.2.1.length ≤ 12 ∧ o.2.2.2.length ≤ 12
theorem light_eq (l : List GOption) (n : Nat) (hn : n ≤ 100) : ∃ b, ladinglaw46_light l (n : Int) = some b ∧ (b = true → l.length ≤ n ∧ ∀ o ∈ l, lightO o) := by
  unfold ladinglaw46_light
  refine loopF_inv (fun k x => x = (k : Int) ∧ k ≤ l.length ∧ ∀ j (hj : j < l.length), j < k → lightO l[j]) (n + 1) ⟨rfl, by omega, fun j _ h => absurd h (by omega)⟩ (fun k hk x hx => ?_) (fun x hx => ?_) (by omega)
  · obtain ⟨rfl, hkl, hall⟩ := hx
    unfold ladinglaw46_light.b1
    simp only [ltZ_eq, leZ_eq, bif_dec]
    by_cases h1 : k < l.length
    · rw [if_pos (by omega), bind_in, decide_eq_true (show (k : Int) ≤ (n : Int) by omega)]
      unfold ladinglaw46_light.j2
      simp only [cond_true, idx_nat h1, bind_in, ltZ_eq, bif_dec]
      unfold ladinglaw46_light.j1
      by_cases c1 : 12 < (l[k].2.1.length : Int)
      · rw [if_pos c1]; exact .inr ⟨false, rfl, fun h => by cases h⟩
      · rw [if_neg c1]
        by_cases c2 : 12 < (l[k].2.2.1.length : Int)
        · rw [if_pos c2]; exact .inr ⟨false, rfl, fun h => by cases h⟩
        · rw [if_neg c2]
          by_cases c3 : 12 < (l[k].2.2.2.length : Int)
          · rw [decide_eq_true c3]; exact .inr ⟨false, rfl, fun h => by cases h⟩
          · rw [decide_eq_false c3, bind_in, cond_false, z64_succ (by omega), bind_in]
            refine .inl ⟨_, rfl, rfl, by omega, fun j hj hjk => ?_⟩
            by_cases e : j = k
            · subst e; unfold lightO; omega
            · exact hall j hj (by omega)
    · rw [if_neg (by omega), bind_in]
      unfold ladinglaw46_light.j2
      rw [cond_false, leZ_eq]
      refine .inr ⟨_, rfl, fun h => ?_⟩
      rw [decide_eq_true_eq] at h
      refine ⟨by omega, fun o ho => ?_⟩
      obtain ⟨j, hj, rfl⟩ := List.mem_iff_getElem.1 ho
      exact hall j hj (by omega)
  · obtain ⟨rfl, hkl, hall⟩ := hx
    unfold ladinglaw46_light.b1
    simp only [ltZ_eq, leZ_eq, bif_dec]
    have hb : (if ((n + 1 : Nat) : Int) < (l.length : Int) then some (decide (((n + 1 : Nat) : Int) ≤ (n : Int))) else some false) = some false := by
      split
      · rw [decide_eq_false (by omega)]
      · rfl
    rw [hb, bind_in]
    unfold ladinglaw46_light.j2
    rw [cond_false, leZ_eq]
    refine ⟨_, rfl, fun h => ?_⟩
    rw [decide_eq_true_eq] at h
    refine ⟨by omega, fun o ho => ?_⟩
    obtain ⟨j, hj, rfl⟩ := List.mem_iff_getElem.1 ho
    exact hall j hj (by omega)
theorem light_lit {l : List GOption} {n : Nat} (hn : n ≤ 100) (h : l.length ≤ n ∧ ∀ o ∈ l, lightO o) : Lit l := ⟨by omega, fun o ho => by have := h.2 o ho; unfold lightO at this; omega⟩
theorem small_true : ladinglaw46_small = some true := by kernel_rfl
theorem planS_len {l : List GOption} {p : Nat} (h : RT l p) : (planS l p).1.length ≤ 1000000 ∧ (planS l p).2.1.length ≤ 1000000 := by
  have hn := h.hn
  unfold planS
  split
  · split
    · simp
    · have h1 := lst_len (visAll l p).2.1 l.length
      have h2 := vis_len (l := l) (p := p) l.length 0 0 0 Never [] (by simp)
      have h2 : (visAll l p).2.2.2.length ≤ 4000 := h2
      dsimp only
      omega
  · simp
theorem plans_eq {l : List GOption} (hl : Lit l) (p : Int) : ∃ x : List Int × List GBranch × Int, recall_Plan l p = some x ∧ ladingref46_Plan l p = some x ∧ x.1.length ≤ 1000000 ∧ x.2.1.length ≤ 1000000 := by
  cases hr : rightB l p with
  | false => exact ⟨_, Plan_bad hl hr, refPlan_bad hl hr, by simp, by simp⟩
  | true =>
    obtain ⟨q, rfl, h⟩ := rightB_iff.1 hr
    exact ⟨_, Plan_eq h, refPlan_eq h, (planS_len h).1, (planS_len h).2⟩
theorem tells_true (l : List GOption) (p : Int) (s : List Int) (t : List GBranch) : ladinglaw46_RecallTells l p s t = some true := by
  unfold ladinglaw46_RecallTells
  obtain ⟨b, hb, hb2⟩ := light_eq l 14 (by omega)
  have hb : ladinglaw46_light l 14 = some b := hb
  rw [small_true, bind_in, hb, bind_in]
  unfold ladinglaw46_RecallTells.j2
  simp only [ltZ_eq, bif_dec]
  cases b with
  | false => rfl
  | true =>
    have hl := light_lit (by omega) (hb2 rfl)
    rw [bif_not, cond_true]
    by_cases h1 : 20 < (s.length : Int)
    · rw [if_pos h1]; rfl
    · rw [if_neg h1]
      by_cases h2 : 4000 < (t.length : Int)
      · rw [if_pos h2]; rfl
      · rw [if_neg h2, bind_in]
        by_cases h3 : 70 < p
        · rw [decide_eq_true h3]; rfl
        · obtain ⟨x, e1, e2, e3, e4⟩ := plans_eq hl p
          rw [decide_eq_false h3, cond_false, e1, bind_in, e2, bind_in, Right_eq hl, bind_in, refRight_eq hl, bind_in, beq_self_eq_true, cond_true, Good_eq hl p (by omega), bind_in, refGood_eq hl p (by omega), bind_in, beq_self_eq_true, cond_true, Cost_eq l s (by omega), bind_in, refCost_eq l s (by omega), bind_in, bind_in]
          unfold ladinglaw46_RecallTells.j1
          rw [eqZ_eq, eqZ_eq, decide_eq_true rfl, decide_eq_true rfl, cond_true, cond_true, cond_true, Same_eq e3, decide_eq_true rfl, bind_in, cond_true, SameTree_self e4, bind_in, cond_true, Check_eq hl p (by omega), bind_in, refCheck_eq hl p (by omega) (by omega), bind_in, eqZ_eq, decide_eq_true rfl]
end Go.Proofs.Ytonjhmnbcgchbaa
