/-
  The search finds the first of the cheapest good sets; trees prove it.
-/
import Derived.Test.YtonjhmnbcgchbaaQ9
namespace Go.Proofs.Ytonjhmnbcgchbaa
open Go.Lad Classical
set_option linter.unusedVariables false
set_option linter.unusedSectionVars false
set_option linter.unusedSimpArgs false

def cst (l : List GOption) (m : Nat) : Int := (sumT l m l.length).1
/-- all sets that go on from a node, in the order of the search -/
def subsS : Nat → Nat → Nat → List Nat
  | 0, _, m => [m]
  | r + 1, k, m => subsS r (k + 1) m ++ subsS r (k + 1) (m ||| 2 ^ k)
theorem mem_subs : ∀ (r k m x : Nat), m < 2 ^ k → (x ∈ subsS r k m ↔ x < 2 ^ (k + r) ∧ ∀ i, i < k → x.testBit i = m.testBit i)
  | 0, k, m, x, hm => by
    unfold subsS
    rw [List.mem_singleton]
    constructor
    · rintro rfl; exact ⟨hm, fun _ _ => rfl⟩
    · rintro ⟨h1, h2⟩
      apply Nat.eq_of_testBit_eq
      intro i
      by_cases hi : i < k
      · exact h2 i hi
      · rw [Nat.testBit_lt_two_pow (Nat.lt_of_lt_of_le h1 (Nat.pow_le_pow_right (by omega) (by omega))), Nat.testBit_lt_two_pow (Nat.lt_of_lt_of_le hm (Nat.pow_le_pow_right (by omega) (by omega)))]
  | r + 1, k, m, x, hm => by
    unfold subsS
    rw [List.mem_append, mem_subs r (k + 1) m x (lt_succ_pow hm), mem_subs r (k + 1) (m ||| 2 ^ k) x (or_bit_lt hm), show k + 1 + r = k + (r + 1) by omega]
    have hmk : m.testBit k = false := Nat.testBit_lt_two_pow hm
    have ho : ∀ i, (m ||| 2 ^ k).testBit i = (m.testBit i || decide (k = i)) := fun i => by rw [Nat.testBit_or, Nat.testBit_two_pow]
    constructor
    · rintro (⟨h1, h2⟩ | ⟨h1, h2⟩)
      · exact ⟨h1, fun i hi => h2 i (by omega)⟩
      · refine ⟨h1, fun i hi => ?_⟩
        rw [h2 i (by omega), ho, decide_eq_false (by omega), Bool.or_false]
    · rintro ⟨h1, h2⟩
      cases hx : x.testBit k with
      | false =>
        refine .inl ⟨h1, fun i hi => ?_⟩
        by_cases e : i = k
        · subst e; rw [hx, hmk]
        · exact h2 i (by omega)
      | true =>
        refine .inr ⟨h1, fun i hi => ?_⟩
        rw [ho]
        by_cases e : i = k
        · subst e; rw [hx]; simp
        · rw [h2 i (by omega), decide_eq_false (by omega), Bool.or_false]
noncomputable def stepS (l : List GOption) (p : Nat) (s : Nat × Int) (x : Nat) : Nat × Int := if goodM l p x ∧ cst l x < s.2 then (x, cst l x) else s
theorem fold_spec {l : List GOption} {p : Nat} : ∀ (L : List Nat) (s : Nat × Int), (L.foldl (stepS l p) s).2 ≤ s.2 ∧ (∀ x ∈ L, goodM l p x → (L.foldl (stepS l p) s).2 ≤ cst l x) ∧ (L.foldl (stepS l p) s = s ∨ ((L.foldl (stepS l p) s).1 ∈ L ∧ goodM l p (L.foldl (stepS l p) s).1 ∧ cst l (L.foldl (stepS l p) s).1 = (L.foldl (stepS l p) s).2 ∧ (L.foldl (stepS l p) s).2 < s.2))
  | [], s => ⟨Int.le_refl _, (fun x hx => (nomatch hx)), Or.inl rfl⟩
  | y :: L, s => by
    rw [List.foldl_cons]
    obtain ⟨h1, h2, h3⟩ := fold_spec (l := l) (p := p) L (stepS l p s y)
    have hs : (stepS l p s y).2 ≤ s.2 ∧ (goodM l p y → (stepS l p s y).2 ≤ cst l y) ∧ (stepS l p s y = s ∨ (goodM l p y ∧ cst l y < s.2 ∧ stepS l p s y = (y, cst l y))) := by
      unfold stepS
      by_cases h : goodM l p y ∧ cst l y < s.2
      · rw [if_pos h]
        exact ⟨by dsimp only; omega, fun _ => Int.le_refl _, .inr ⟨h.1, h.2, rfl⟩⟩
      · rw [if_neg h]
        refine ⟨Int.le_refl _, fun hg => ?_, .inl rfl⟩
        have : ¬ cst l y < s.2 := fun hc => h ⟨hg, hc⟩
        omega
    refine ⟨by omega, fun x hx hg => ?_, ?_⟩
    · rcases List.mem_cons.1 hx with rfl | hx
      · have := hs.2.1 hg; omega
      · exact h2 x hx hg
    · rcases h3 with h3 | ⟨h4, h5, h6, h7⟩
      · rw [h3]
        rcases hs.2.2 with h8 | ⟨h8, h9, h10⟩
        · exact .inl h8
        · rw [h10]
          exact .inr ⟨List.mem_cons_self, h8, rfl, h9⟩
      · exact .inr ⟨List.mem_cons_of_mem _ h4, h5, h6, by omega⟩
theorem fold_same {l : List GOption} {p : Nat} : ∀ (L : List Nat) (s : Nat × Int), (∀ x ∈ L, goodM l p x → s.2 ≤ cst l x) → L.foldl (stepS l p) s = s
  | [], s, _ => rfl
  | y :: L, s, h => by
    rw [List.foldl_cons]
    have e : stepS l p s y = s := by
      unfold stepS
      rw [if_neg]
      rintro ⟨h1, h2⟩
      have := h y List.mem_cons_self h1
      omega
    rw [e]
    exact fold_same L s fun x hx => h x (List.mem_cons_of_mem _ hx)
section
variable {l : List GOption} {p : Nat} (h : RT l p)
include h
theorem sum_mono {m s : Nat} (hms : ∀ i, m.testBit i = true → s.testBit i = true) {j : Nat} (hj : j < l.length) (hsj : s.testBit j = true) (hmj : m.testBit j = false) : ∀ k, k ≤ l.length → (sumT l m k).1 + (if j < k then l[j].1 else 0) ≤ (sumT l s k).1
  | 0, _ => by simp [sumT]
  | k + 1, hk => by
    have ih := sum_mono hms hj hsj hmj k (by omega)
    have hc := (h.cost k (by omega)).1
    rw [sumT_succ, sumT_succ, getD_at (show k < l.length by omega)]
    by_cases hkj : j = k
    · subst hkj
      rw [if_pos hsj, if_neg (by rw [hmj]; simp), if_pos (by omega)]
      have e0 : (if j < j then l[j].1 else 0) = 0 := if_neg (by omega)
      rw [e0] at ih
      dsimp only
      omega
    · have e : (if j < k + 1 then l[j].1 else 0) = (if j < k then l[j].1 else 0) := by
        by_cases h1 : j < k
        · rw [if_pos h1, if_pos (by omega)]
        · rw [if_neg h1, if_neg (by omega)]
      rw [e]
      by_cases hm : m.testBit k = true
      · rw [if_pos hm, if_pos (hms k hm)]; dsimp only; omega
      · rw [if_neg hm]
        by_cases hsk : s.testBit k = true
        · rw [if_pos hsk]; dsimp only; omega
        · rw [if_neg hsk]; exact ih
theorem sum_sub {m s : Nat} (hms : ∀ i, m.testBit i = true → s.testBit i = true) : ∀ k, k ≤ l.length → (sumT l m k).1 ≤ (sumT l s k).1
  | 0, _ => by simp [sumT]
  | k + 1, hk => by
    have ih := sum_sub hms k (by omega)
    have hc := (h.cost k (by omega)).1
    rw [sumT_succ, sumT_succ, getD_at (show k < l.length by omega)]
    by_cases hm : m.testBit k = true
    · rw [if_pos hm, if_pos (hms k hm)]; dsimp only; omega
    · rw [if_neg hm]
      split
      · dsimp only; omega
      · exact ih
theorem cst_lt (m : Nat) : 0 ≤ cst l m ∧ cst l m < Never := by
  have ok := sumT_ok h m l.length (Nat.le_refl _)
  have hn := h.hn
  unfold cst
  simp only [Never]
  omega
/-- the bound of a node is no greater than the cost of a good set that goes on from it -/
theorem bnd_lower {k m s : Nat} (hk : k ≤ l.length) (hm : m < 2 ^ k) (hs : ∀ i, i < k → s.testBit i = m.testBit i) (hg : goodM l p s) : bnd l p k m ≤ cst l s := by
  have hsub : ∀ i, m.testBit i = true → s.testBit i = true := fun i hi => by rw [hs i (bit_lt hm hi)]; exact hi
  have hnb : ¬ badS l k m := by
    rintro ⟨i, hi, h1, h2⟩
    refine hg.1 ⟨i, hi, hsub i h1, h2.imp ?_ ?_⟩
    · rintro ⟨x, h3, h4⟩; exact ⟨x, hsub x h3, h4⟩
    · rintro ⟨x, h3, h4, h5⟩; exact ⟨x, by omega, by rw [hs x h3]; exact h4, h5⟩
  have hms := sum_sub h hsub l.length (Nat.le_refl _)
  have hmo : most l p k m ≤ cst l s - cst l m := by
    rw [most_le]
    refine ⟨by unfold cst; omega, fun q hq hnr => ?_⟩
    obtain ⟨i, hi, h1, h2⟩ := hg.2 q hq
    have hik : k ≤ i := by
      rcases Nat.lt_or_ge i k with h3 | h3
      · exact absurd ⟨i, hi, by rw [← hs i h3]; exact h1, h2⟩ hnr
      · exact h3
    have hmi : m.testBit i = false := by
      rw [Bool.eq_false_iff]
      intro hc
      have := bit_lt hm hc
      omega
    have h3 := sum_mono h hsub hi h1 hmi l.length (Nat.le_refl _)
    rw [if_pos hi] at h3
    have h4 : least l k q ≤ l[i].1 := (least_le.1 (Int.le_refl _)).2 l[i] (by
      rw [List.mem_iff_getElem]
      exact ⟨i - k, by rw [List.length_drop]; omega, by rw [List.getElem_drop]; congr 1; omega⟩) h2
    unfold cst
    omega
  have c1 := cst_lt h s
  have c2 := cst_lt h m
  unfold bnd
  rw [if_neg hnb, if_neg (by omega)]
  have : (sumT l m l.length).1 = cst l m := rfl
  omega
theorem bnd_leaf {m : Nat} : bnd l p l.length m = if goodM l p m then cst l m else Never := by
  have hl : ∀ q, least l l.length q = Never := fun q => by unfold least; rw [List.drop_length]; rfl
  unfold bnd
  by_cases hb : badS l l.length m
  · rw [if_pos hb, if_neg (fun hg => hg.1 hb)]
  · rw [if_neg hb]
    by_cases hr : ∀ q, q < p → remS l m q
    · have h0 : most l p l.length m = 0 := Int.le_antisymm (most_le.2 ⟨Int.le_refl _, fun q hq hn => absurd (hr q hq) hn⟩) most_nn
      rw [if_pos (show goodM l p m from ⟨hb, hr⟩), h0, if_neg (by decide), Int.add_zero]; rfl
    · rw [if_neg (fun hg : goodM l p m => hr hg.2), if_pos]
      refine Int.le_antisymm most_never ?_
      obtain ⟨q, hq⟩ := Classical.not_forall.1 hr
      obtain ⟨hq1, hq2⟩ := Classical.not_imp.1 hq
      have := (most_le.1 (Int.le_refl (most l p l.length m))).2 q hq1 hq2
      rw [hl] at this
      exact this
theorem vis_fold : ∀ (r k m b : Nat) (c : Int) (t : List GBranch), k + r = l.length → m < 2 ^ k → c ≤ Never → (vis l p r k m b c t).1 = true →
    ((vis l p r k m b c t).2.1, (vis l p r k m b c t).2.2.1) = (subsS r k m).foldl (stepS l p) (b, c)
  | 0, k, m, b, c, t, hk, hm, hc, hv => by
    unfold vis at hv ⊢
    have hkn : k = l.length := by omega
    subst hkn
    by_cases h1 : 4000 ≤ t.length
    · rw [if_pos h1] at hv; cases hv
    · rw [if_neg h1] at hv ⊢
      unfold subsS
      rw [List.foldl_cons, List.foldl_nil]
      have hb := bnd_leaf h (m := m)
      by_cases h2 : c ≤ bnd l p l.length m
      · rw [if_pos h2]
        unfold stepS
        rw [if_neg]
        rintro ⟨h3, h4⟩
        rw [if_pos h3] at hb
        dsimp only at h4
        omega
      · rw [if_neg h2]
        have h3 : goodM l p m := Classical.not_not.1 fun hn => by
          rw [if_neg hn] at hb
          omega
        rw [if_pos h3] at hb
        unfold stepS
        rw [if_pos ⟨h3, by dsimp only; omega⟩, hb]
  | r + 1, k, m, b, c, t, hk, hm, hc, hv => by
    unfold vis at hv ⊢
    by_cases h1 : 4000 ≤ t.length
    · rw [if_pos h1] at hv; cases hv
    · rw [if_neg h1] at hv ⊢
      by_cases h2 : c ≤ bnd l p k m
      · rw [if_pos h2]
        exact (fold_same _ (b, c) fun x hx hg => by
          have := ((mem_subs (r + 1) k m x hm).1 hx).2
          have := bnd_lower h (by omega) hm this hg
          dsimp only; omega).symm
      · rw [if_neg h2] at hv ⊢
        by_cases h3 : (vis l p r (k + 1) m b c (t ++ [(2, bnd l p k m)])).1 = true
        · rw [if_pos h3] at hv ⊢
          have i1 := vis_fold r (k + 1) m b c (t ++ [(2, bnd l p k m)]) (by omega) (lt_succ_pow hm) hc h3
          have hc1 := (fold_spec (l := l) (p := p) (subsS r (k + 1) m) (b, c)).1
          rw [← i1] at hc1
          have i2 := vis_fold r (k + 1) (m ||| 2 ^ k) _ _ _ (by omega) (or_bit_lt hm) (by dsimp only at hc1; omega) hv
          rw [i2]
          show List.foldl (stepS l p) ((vis l p r (k + 1) m b c (t ++ [(2, bnd l p k m)])).2.1, (vis l p r (k + 1) m b c (t ++ [(2, bnd l p k m)])).2.2.1) _ = _
          rw [i1]
          show _ = List.foldl (stepS l p) (b, c) (subsS r (k + 1) m ++ subsS r (k + 1) (m ||| 2 ^ k))
          rw [List.foldl_append]
        · rw [if_neg h3] at hv; exact absurd hv h3
/-- THE SEARCH FINDS THE CHEAPEST. -/
theorem vis_best_spec (hv : (visAll l p).1 = true) : ((visAll l p).2.1, (visAll l p).2.2.1) = (subsS l.length 0 0).foldl (stepS l p) (0, Never) :=
  vis_fold h l.length 0 0 0 Never [] (by omega) (by decide) (Int.le_refl _) hv
omit h in
theorem all_subs {n x : Nat} : x ∈ subsS n 0 0 ↔ x < 2 ^ n := by
  rw [mem_subs n 0 0 x (by decide), Nat.zero_add]
  exact ⟨fun h => h.1, fun h => ⟨h, fun i hi => absurd hi (by omega)⟩⟩
/-- what Plan returns: the cheapest good set, or none if there is none, or that the tree is full -/
theorem plan_spec : ((planS l p).2.2 = 0 ∧ ∃ b, b < 2 ^ l.length ∧ (planS l p).1 = lst b l.length ∧ goodM l p b ∧ (∀ x, x < 2 ^ l.length → goodM l p x → cst l b ≤ cst l x) ∧ (visAll l p).1 = true ∧ (visAll l p).2.1 = b ∧ (visAll l p).2.2.1 = cst l b ∧ (planS l p).2.1 = (visAll l p).2.2.2)
    ∨ (planS l p = ([], [], 4) ∧ (visAll l p).1 = true ∧ (visAll l p).2.2.1 = Never ∧ ∀ x, x < 2 ^ l.length → ¬ goodM l p x) ∨ (planS l p = ([], [], 6) ∧ (visAll l p).1 = false) := by
  cases hv : (visAll l p).1 with
  | false => exact .inr (.inr ⟨by unfold planS; rw [hv]; rfl, rfl⟩)
  | true =>
    have hf := vis_best_spec h hv
    obtain ⟨f1, f2, f3⟩ := fold_spec (l := l) (p := p) (subsS l.length 0 0) (0, Never)
    rw [← hf] at f1 f2 f3
    dsimp only at f1 f2 f3
    by_cases hn : (visAll l p).2.2.1 = Never
    · refine .inr (.inl ⟨by unfold planS; rw [hv, if_pos rfl, if_pos hn], rfl, hn, fun x hx hg => ?_⟩)
      have := f2 x (all_subs.2 hx) hg
      have := cst_lt h x
      omega
    · rcases f3 with f3 | ⟨f4, f5, f6, f7⟩
      · exact absurd (congrArg Prod.snd f3) hn
      · refine .inl ⟨by unfold planS; rw [hv, if_pos rfl, if_neg hn], (visAll l p).2.1, all_subs.1 f4, by unfold planS; rw [hv, if_pos rfl, if_neg hn], f5, fun x hx hg => ?_, rfl, rfl, f6.symm, by unfold planS; rw [hv, if_pos rfl, if_neg hn]⟩
        rw [f6]
        exact f2 x (all_subs.2 hx) hg
omit h in
theorem vis_small : ∀ (r k m b : Nat) (c : Int) (t : List GBranch), t.length + 2 ^ (r + 1) ≤ 4001 → (vis l p r k m b c t).1 = true ∧ (vis l p r k m b c t).2.2.2.length < t.length + 2 ^ (r + 1)
  | 0, k, m, b, c, t, ht => by
    unfold vis
    rw [if_neg (by simp at ht; omega)]
    split <;> simp
  | r + 1, k, m, b, c, t, ht => by
    have hp : 2 ^ (r + 1 + 1) = 2 ^ (r + 1) + 2 ^ (r + 1) := by rw [Nat.pow_succ 2 (r + 1)]; omega
    have hp1 : 0 < 2 ^ (r + 1) := Nat.pow_pos (by omega)
    rw [hp] at ht
    unfold vis
    rw [if_neg (by omega)]
    split
    · refine ⟨rfl, ?_⟩
      rw [hp]; simp; omega
    · have i1 := vis_small r (k + 1) m b c (t ++ [(2, bnd l p k m)]) (by simp; omega)
      simp only [List.length_append, List.length_singleton] at i1
      rw [if_pos i1.1]
      have i2 := vis_small r (k + 1) (m ||| 2 ^ k) (vis l p r (k + 1) m b c (t ++ [(2, bnd l p k m)])).2.1 (vis l p r (k + 1) m b c (t ++ [(2, bnd l p k m)])).2.2.1 (vis l p r (k + 1) m b c (t ++ [(2, bnd l p k m)])).2.2.2 (by omega)
      exact ⟨i2.1, by omega⟩
/-! ### trees -/
theorem vis_tree : ∀ (r k m b : Nat) (c : Int) (t : List GBranch), k + r = l.length → m < 2 ^ k → (vis l p r k m b c t).1 = true →
    (vis l p r k m b c t).2.2.1 ≤ c ∧ ∃ seg, (vis l p r k m b c t).2.2.2 = t ++ seg ∧ seg ≠ [] ∧ ∀ d, d ≤ (vis l p r k m b c t).2.2.1 → ∀ u, fol l p d r k m (seg ++ u) = some u
  | 0, k, m, b, c, t, hk, hm, hv => by
    unfold vis at hv ⊢
    by_cases h1 : 4000 ≤ t.length
    · rw [if_pos h1] at hv; cases hv
    · rw [if_neg h1] at hv ⊢
      by_cases h2 : c ≤ bnd l p k m
      · rw [if_pos h2]
        refine ⟨Int.le_refl _, [(0, bnd l p k m)], rfl, by simp, fun d hd u => ?_⟩
        show fol l p d 0 k m ((0, bnd l p k m) :: u) = some u
        unfold fol
        dsimp only at hd ⊢
        rw [if_pos rfl, if_pos rfl, if_pos (by omega)]
      · rw [if_neg h2]
        refine ⟨by dsimp only; omega, [(0, bnd l p k m)], rfl, by simp, fun d hd u => ?_⟩
        show fol l p d 0 k m ((0, bnd l p k m) :: u) = some u
        unfold fol
        dsimp only at hd ⊢
        rw [if_pos rfl, if_pos rfl, if_pos (by omega)]
  | r + 1, k, m, b, c, t, hk, hm, hv => by
    unfold vis at hv ⊢
    by_cases h1 : 4000 ≤ t.length
    · rw [if_pos h1] at hv; cases hv
    · rw [if_neg h1] at hv ⊢
      by_cases h2 : c ≤ bnd l p k m
      · rw [if_pos h2]
        refine ⟨Int.le_refl _, [(0, bnd l p k m)], rfl, by simp, fun d hd u => ?_⟩
        show fol l p d (r + 1) k m ((0, bnd l p k m) :: u) = some u
        unfold fol
        dsimp only at hd ⊢
        rw [if_pos rfl, if_pos rfl, if_pos (by omega)]
      · rw [if_neg h2] at hv ⊢
        by_cases h3 : (vis l p r (k + 1) m b c (t ++ [(2, bnd l p k m)])).1 = true
        · rw [if_pos h3] at hv ⊢
          obtain ⟨c1, s1, e1, n1, f1⟩ := vis_tree r (k + 1) m b c (t ++ [(2, bnd l p k m)]) (by omega) (lt_succ_pow hm) h3
          obtain ⟨c2, s2, e2, n2, f2⟩ := vis_tree r (k + 1) (m ||| 2 ^ k) _ _ _ (by omega) (or_bit_lt hm) hv
          refine ⟨by omega, (2, bnd l p k m) :: (s1 ++ s2), ?_, by simp, fun d hd u => ?_⟩
          · rw [e2, e1]; simp
          · show fol l p d (r + 1) k m ((2, bnd l p k m) :: (s1 ++ s2 ++ u)) = some u
            unfold fol
            dsimp only
            rw [if_pos rfl, if_neg (by decide), if_pos rfl, List.append_assoc, f1 d (by omega), bind_in, f2 d hd]
        · rw [if_neg h3] at hv; exact absurd hv h3
theorem fol_sound (d : Int) : ∀ (r k m : Nat) (t u : List GBranch), k + r = l.length → m < 2 ^ k → fol l p d r k m t = some u → ∀ s, (∀ i, i < k → s.testBit i = m.testBit i) → goodM l p s → d ≤ cst l s
  | _, _, _, [], u, _, _, hf => by rw [fol_nil] at hf; cases hf
  | 0, k, m, x :: t, u, hk, hm, hf => fun s hs hg => by
    have hb := bnd_lower h (by omega) hm hs hg
    unfold fol at hf
    split at hf
    · split at hf
      · split at hf
        · omega
        · cases hf
      · cases hf
    · cases hf
  | r + 1, k, m, x :: t, u, hk, hm, hf => fun s hs hg => by
    have hb := bnd_lower h (by omega) hm hs hg
    unfold fol at hf
    split at hf
    · split at hf
      · split at hf
        · omega
        · cases hf
      · split at hf
        · obtain ⟨t1, e1, e2⟩ := Option.bind_eq_some_iff.1 hf
          cases hx : s.testBit k with
          | false =>
            refine fol_sound d r (k + 1) m t t1 (by omega) (lt_succ_pow hm) e1 s (fun i hi => ?_) hg
            by_cases e : i = k
            · subst e; rw [hx, Nat.testBit_lt_two_pow hm]
            · exact hs i (by omega)
          | true =>
            refine fol_sound d r (k + 1) (m ||| 2 ^ k) t1 u (by omega) (or_bit_lt hm) e2 s (fun i hi => ?_) hg
            rw [Nat.testBit_or, Nat.testBit_two_pow]
            by_cases e : i = k
            · subst e; rw [hx]; simp
            · rw [hs i (by omega), decide_eq_false (by omega), Bool.or_false]
        · cases hf
    · cases hf
/-- what Plan returns is accepted -/
theorem plan_checks (hp : (planS l p).2.2 = 0) : checkS l p (planS l p).1 (planS l p).2.1 = 0 := by
  have hn := h.hn
  rcases plan_spec h with ⟨_, b, hb, e1, hg, hmin, hv, e2, e3, e4⟩ | ⟨e, _⟩ | ⟨e, _⟩
  · unfold checkS
    have hgood : goodB l p (planS l p).1 = true := by
      unfold goodB
      rw [rightB_of h, e1, lst_rise, Int.toNat_natCast, mask_lst hb, decide_eq_true hg]; rfl
    rw [if_pos hgood, if_pos]
    obtain ⟨_, seg, hs, _, hf⟩ := vis_tree h l.length 0 0 0 Never [] (by omega) (by decide) hv
    have hs : (visAll l p).2.2.2 = [] ++ seg := hs
    rw [List.nil_append] at hs
    have hc : costW l (planS l p).1 = cst l b := by rw [e1]; exact costW_lst h b l.length (Nat.le_refl _)
    have := hf (cst l b) (by rw [← e3]; exact Int.le_refl _) []
    rw [List.append_nil] at this
    rw [hc, e4, hs, Int.toNat_natCast]
    exact this
  · rw [e] at hp; cases hp
  · rw [e] at hp; cases hp
end
end Go.Proofs.Ytonjhmnbcgchbaa
