/-
  The bound of a node: as the code reckons it with masks.
-/
import Derived.Test.YtonjhmnbcgchbaaQ3
namespace Go.Proofs.Ytonjhmnbcgchbaa
open Go.Lad Classical
set_option linter.unusedVariables false
set_option linter.unusedSectionVars false
set_option linter.unusedSimpArgs false

/-- a set breaks a rule, as far as the first k options are decided -/
def badS (l : List GOption) (k m : Nat) : Prop := ∃ i, ∃ hi : i < l.length, m.testBit i = true ∧ ((∃ x : Nat, m.testBit x = true ∧ (x : Int) ∈ l[i].2.2.2) ∨ (∃ x : Nat, x < k ∧ m.testBit x = false ∧ (x : Int) ∈ l[i].2.2.1))
def remS (l : List GOption) (m q : Nat) : Prop := ∃ i, ∃ hi : i < l.length, m.testBit i = true ∧ (q : Int) ∈ l[i].2.1
noncomputable def least (l : List GOption) (k q : Nat) : Int := (l.drop k).foldl (fun a o => if (q : Int) ∈ o.2.1 then min a o.1 else a) Never
noncomputable def most (l : List GOption) (p k m : Nat) : Int := (List.range p).foldl (fun a q => if remS l m q then a else max a (least l k q)) 0
noncomputable def bnd (l : List GOption) (p k m : Nat) : Int := if badS l k m then Never else if most l p k m = Never then Never else (sumT l m l.length).1 + most l p k m

theorem leastF_le (q : Nat) : ∀ (l : List GOption) (a z : Int), (z ≤ l.foldl (fun a o => if (q : Int) ∈ o.2.1 then min a o.1 else a) a ↔ z ≤ a ∧ ∀ o ∈ l, (q : Int) ∈ o.2.1 → z ≤ o.1)
  | [], a, z => by simp
  | o :: l, a, z => by
    rw [List.foldl_cons, leastF_le q l]
    by_cases h : (q : Int) ∈ o.2.1
    · rw [if_pos h]
      simp only [List.forall_mem_cons]
      constructor
      · rintro ⟨h1, h2⟩; exact ⟨by omega, fun _ => by omega, h2⟩
      · rintro ⟨h1, h2, h3⟩; exact ⟨by have := h2 h; omega, h3⟩
    · rw [if_neg h]
      simp only [List.forall_mem_cons]
      constructor
      · rintro ⟨h1, h2⟩; exact ⟨h1, fun h' => absurd h' h, h2⟩
      · rintro ⟨h1, h2, h3⟩; exact ⟨h1, h3⟩
theorem least_le {l : List GOption} {k q : Nat} {z : Int} : z ≤ least l k q ↔ z ≤ Never ∧ ∀ o ∈ l.drop k, (q : Int) ∈ o.2.1 → z ≤ o.1 := leastF_le q _ _ _
theorem mostF_le (P : Nat → Prop) (L : Nat → Int) : ∀ (l : List Nat) (a z : Int), (l.foldl (fun a q => if P q then a else max a (L q)) a ≤ z ↔ a ≤ z ∧ ∀ q ∈ l, ¬ P q → L q ≤ z)
  | [], a, z => by simp
  | q :: l, a, z => by
    rw [List.foldl_cons, mostF_le P L l]
    by_cases h : P q
    · rw [if_pos h]
      simp only [List.forall_mem_cons]
      constructor
      · rintro ⟨h1, h2⟩; exact ⟨h1, fun h' => absurd h h', h2⟩
      · rintro ⟨h1, h2, h3⟩; exact ⟨h1, h3⟩
    · rw [if_neg h]
      simp only [List.forall_mem_cons]
      constructor
      · rintro ⟨h1, h2⟩; exact ⟨by omega, fun _ => by omega, h2⟩
      · rintro ⟨h1, h2, h3⟩; exact ⟨by have := h2 h; omega, h3⟩
theorem most_le {l : List GOption} {p k m : Nat} {z : Int} : most l p k m ≤ z ↔ 0 ≤ z ∧ ∀ q, q < p → ¬ remS l m q → least l k q ≤ z := by
  unfold most
  rw [mostF_le]
  simp only [List.mem_range]
theorem least_never {l : List GOption} {k q : Nat} : least l k q ≤ Never := (least_le.1 (Int.le_refl _)).1
theorem most_nn {l : List GOption} {p k m : Nat} : 0 ≤ most l p k m := (most_le.1 (Int.le_refl _)).1
theorem most_never {l : List GOption} {p k m : Nat} : most l p k m ≤ Never := most_le.2 ⟨by decide, fun q _ _ => least_never⟩
theorem eq_of_le {a b : Int} (h : ∀ z, a ≤ z ↔ b ≤ z) : a = b := Int.le_antisymm ((h b).2 (Int.le_refl _)) ((h a).1 (Int.le_refl _))
section
variable {l : List GOption} {p : Nat} (h : RT l p)
include h
theorem least_nn {k q : Nat} : 0 ≤ least l k q := least_le.2 ⟨by decide, fun o ho _ => by
  obtain ⟨i, hi, rfl⟩ := List.mem_iff_getElem.1 (List.mem_of_mem_drop ho)
  exact (h.cost i hi).1⟩
theorem inner_eq {k t : Nat} (hk : k ≤ l.length) (ht : t < 64) {a v : Int} (hv : andI .u64 v (negU v) = ((2 ^ t : Nat) : Int)) :
    loopF (fun x => recall_problem_bound.b1 (k : Int) (l.map conv) a v ((l.map conv).drop k) x.1 x.2) (Never, 0) = some (.inl (max a (least l k t), andI .u64 v (IntKind.u64.wrap (v - 1)))) := by
  have hp := h.hp
  have hn := h.hn
  have hd : (l.drop k).length = l.length - k := List.length_drop
  have key := loop_fold (body := fun x => recall_problem_bound.b1 (k : Int) (l.map conv) a v ((l.map conv).drop k) x.1 x.2) (fun j (s : Int) => (s, (j : Int))) (l.drop k) (fun _ s o => if (t : Int) ∈ o.2.1 then min s o.1 else s) (fun s => (Sum.inl (max a s, andI .u64 v (IntKind.u64.wrap (v - 1))) : (Int × Int) ⊕ Int)) (fun _ _ => True) (fun _ _ _ _ => trivial) (fun j hj s _ => ?_) (fun s _ => ?_) (by omega) (s0 := Never) trivial
  · rw [foldI_foldl (fun (s : Int) (o : GOption) => if (t : Int) ∈ o.2.1 then min s o.1 else s)] at key
    exact key
  · have hkj : k + j < l.length := by omega
    have hi := h.mrem hkj
    have hml : mask l[k + j].2.1 < 18446744073709551616 := w_lt_of (n := p) (by omega) (mask_lt hi)
    have hidx : idx (l.map conv) ((k : Int) + (j : Int)) = some (conv l[k + j]) := by
      rw [idx_eq (k := k + j) (by omega) (by simpa using hkj), List.getElem_map]
    unfold recall_problem_bound.b1
    simp only [ltZ_eq, bif_dec, bif_not, hidx, bind_in, z64_succ (show j + 1 ≤ 9223372036854775807 by omega), eqZ_eq]
    rw [if_pos (by simp; omega)]
    unfold svNeed need
    rw [if_pos (by simp; omega), bind_in, hv]
    have e : andI .u64 (conv l[k + j]).2.1 ((2 ^ t : Nat) : Int) = ((mask l[k + j].2.1 &&& 2 ^ t : Nat) : Int) := andI_nat hml (two_lt ht)
    rw [e, List.getElem_drop]
    have e2 : (((mask l[k + j].2.1 &&& 2 ^ t : Nat) : Int) = 0) ↔ ¬ (t : Int) ∈ l[k + j].2.1 := by
      have h3 := mask_bit (fun x hx => (hi x hx).2) t
      have h4 := @and_two (mask l[k + j].2.1) t
      rw [h3] at h4
      rw [← decide_eq_false_iff_not, ← h4]; omega
    by_cases hm : (t : Int) ∈ l[k + j].2.1
    · rw [if_neg (by rw [e2]; simpa using hm), if_pos hm]; rfl
    · rw [if_pos (e2.2 hm), if_neg hm]
  · unfold recall_problem_bound.b1
    simp only [ltZ_eq, bif_dec]
    rw [if_neg (by simp)]
theorem left_eq {k : Nat} (hk : k ≤ l.length) : ∀ (x : Nat), x < 18446744073709551616 → ∀ (a : Int), ∃ r, iterM (fun x => recall_problem_bound.b2 (k : Int) (l.map conv) x.1 x.2) (x + 1) (a, (x : Int)) = some r ∧ ∀ z, r ≤ z ↔ a ≤ z ∧ ∀ q, x.testBit q = true → least l k q ≤ z := by
  intro x
  induction x using Nat.strongRecOn with
  | ind x ih =>
    intro hx a
    by_cases h0 : x = 0
    · subst h0
      refine ⟨a, ?_, fun z => by simp⟩
      unfold iterM
      unfold recall_problem_bound.b2
      simp [eqZ_eq]
    · obtain ⟨t, ht, htb, hlow, hone, y, hy, hyx, hyb⟩ := low_bit (show 0 < x by omega) hx
      obtain ⟨r, hr, hz⟩ := ih y hyx (by omega) (max a (least l k t))
      refine ⟨r, ?_, fun z => ?_⟩
      · have hcut : cut (l.map conv) (k : Int) (((l.map conv).length : Nat) : Int) = some ((l.map conv).drop k) := by
          unfold cut
          rw [if_pos (by simp; omega)]
          rw [show (((l.map conv).length : Nat) : Int).toNat = (l.map conv).length from rfl, List.take_length]; simp
        have hb : recall_problem_bound.b2 (k : Int) (l.map conv) a (x : Int) = some (.inl (max a (least l k t), (y : Int))) := by
          unfold recall_problem_bound.b2
          simp only [eqZ_eq, bif_not, bif_dec]
          rw [if_neg (by omega), hcut, bind_in, bind_in, inner_eq h hk ht hone, hy]
        rw [iterM, hb]
        exact iterM_le (by omega) hr
      · rw [hz z]
        constructor
        · rintro ⟨h1, h2⟩
          refine ⟨by omega, fun q hq => ?_⟩
          by_cases hqt : q = t
          · subst hqt; omega
          · exact h2 q (by rw [hyb, hq]; simp [hqt])
        · rintro ⟨h1, h2⟩
          refine ⟨by have := h2 t htb; omega, fun q hq => h2 q ?_⟩
          rw [hyb] at hq
          simp at hq
          exact hq.1
/-- THE BOUND, as the code reckons it. -/
theorem bound_eq {k m : Nat} (hk : k ≤ l.length) (hm : m < 2 ^ l.length) (p4 p5 : Int) (t : List GBranch) : recall_problem_bound (k : Int) (m : Int) ((2 ^ p - 1 : Nat) : Int) p4 p5 (l.map conv) t = some (bnd l p k m) := by
  have hp := h.hp
  have hn := h.hn
  have hm64 : m < 18446744073709551616 := w_lt_of (by omega) hm
  have ok := sumT_ok h m l.length (Nat.le_refl _)
  have hk2 : 2 ^ k < 18446744073709551616 := two_lt (by omega)
  unfold recall_problem_bound
  rw [sum_eq h hm64, bind_in]
  have e1 : andI .u64 ((sumT l m l.length).2.2.2 : Int) (m : Int) = (((sumT l m l.length).2.2.2 &&& m : Nat) : Int) := andI_nat (w_lt_of (by omega) ok.2.2.2.2) hm64
  have e2 : anI .u64 ((sumT l m l.length).2.2.1 : Int) (m : Int) = ((anN (sumT l m l.length).2.2.1 m : Nat) : Int) := anI_nat (w_lt_of (by omega) ok.2.2.2.1) hm64
  have e3 : andI .u64 ((anN (sumT l m l.length).2.2.1 m : Nat) : Int) (IntKind.u64.wrap (((2 ^ k : Nat) : Int) - 1)) = ((anN (sumT l m l.length).2.2.1 m &&& (2 ^ k - 1) : Nat) : Int) := by
    rw [wrap_pred (Nat.pow_pos (by omega)) (Nat.le_of_lt hk2), andI_nat (anN_lt (w_lt_of (by omega) ok.2.2.2.1)) (by omega)]
  have hx : (bif (!eqZ (andI .u64 ((sumT l m l.length).2.2.2 : Int) (m : Int)) 0) then some true else ((shlZ .u64 1 (k : Int)).bind fun v9 => some (!eqZ (andI .u64 (anI .u64 ((sumT l m l.length).2.2.1 : Int) (m : Int)) (IntKind.u64.wrap (v9 - 1))) 0))) = some (decide (badS l k m)) := by
    rw [shlZ_nat (by omega), bind_in, e1, e2, e3, eqZ_eq, eqZ_eq, bif_not, bif_dec]
    have q1 : ((((sumT l m l.length).2.2.2 &&& m : Nat) : Int) = 0) ↔ ¬ ∃ i, ∃ hi : i < l.length, m.testBit i = true ∧ ∃ x : Nat, m.testBit x = true ∧ (x : Int) ∈ l[i].2.2.2 := by
      rw [show ((((sumT l m l.length).2.2.2 &&& m : Nat) : Int) = 0) ↔ ((sumT l m l.length).2.2.2 &&& m = 0) by omega, and_zero]
      constructor
      · rintro h1 ⟨i, hi, h2, x, h3, h4⟩
        exact h1 x ⟨(sumT_exc h m x l.length (Nat.le_refl _)).2 ⟨i, hi, hi, h2, h4⟩, h3⟩
      · rintro h1 x ⟨h2, h3⟩
        obtain ⟨i, hi, _, h4, h5⟩ := (sumT_exc h m x l.length (Nat.le_refl _)).1 h2
        exact h1 ⟨i, hi, h4, x, h3, h5⟩
    have q2 : (((anN (sumT l m l.length).2.2.1 m &&& (2 ^ k - 1) : Nat) : Int) = 0) ↔ ¬ ∃ i, ∃ hi : i < l.length, m.testBit i = true ∧ ∃ x : Nat, x < k ∧ m.testBit x = false ∧ (x : Int) ∈ l[i].2.2.1 := by
      rw [show (((anN (sumT l m l.length).2.2.1 m &&& (2 ^ k - 1) : Nat) : Int) = 0) ↔ (anN (sumT l m l.length).2.2.1 m &&& (2 ^ k - 1) = 0) by omega, and_zero]
      constructor
      · rintro h1 ⟨i, hi, h2, x, h3, h4, h5⟩
        refine h1 x ⟨?_, by rw [Nat.testBit_two_pow_sub_one]; simpa using h3⟩
        rw [anN_bit hm64 (w_lt_of (by omega) ok.2.2.2.1), (sumT_need h m x l.length (Nat.le_refl _)).2 ⟨i, hi, hi, h2, h5⟩, h4]; rfl
      · rintro h1 x ⟨h2, h3⟩
        rw [anN_bit hm64 (w_lt_of (by omega) ok.2.2.2.1)] at h2
        rw [Nat.testBit_two_pow_sub_one] at h3
        simp only [Bool.and_eq_true, Bool.not_eq_true', decide_eq_true_eq] at h2 h3
        obtain ⟨i, hi, _, h4, h5⟩ := (sumT_need h m x l.length (Nat.le_refl _)).1 h2.1
        exact h1 ⟨i, hi, h4, x, h3, h2.2, h5⟩
    by_cases c1 : (((sumT l m l.length).2.2.2 &&& m : Nat) : Int) = 0
    · rw [if_pos c1]
      by_cases c2 : ((anN (sumT l m l.length).2.2.1 m &&& (2 ^ k - 1) : Nat) : Int) = 0
      · have : ¬ badS l k m := by
          rintro ⟨i, hi, h1, h2 | h2⟩
          · exact q1.1 c1 ⟨i, hi, h1, h2⟩
          · exact q2.1 c2 ⟨i, hi, h1, h2⟩
        rw [decide_eq_true c2, decide_eq_false this]; rfl
      · have : badS l k m := by
          obtain ⟨i, hi, h1, h2⟩ := Classical.not_not.1 (fun hc => c2 (q2.2 hc))
          exact ⟨i, hi, h1, .inr h2⟩
        rw [decide_eq_false c2, decide_eq_true this]; rfl
    · rw [if_neg c1]
      have : badS l k m := by
        obtain ⟨i, hi, h1, h2⟩ := Classical.not_not.1 (fun hc => c1 (q1.2 hc))
        exact ⟨i, hi, h1, .inl h2⟩
      rw [decide_eq_true this]
  dsimp only
  rw [hx, bind_in]
  unfold recall_problem_bound.j2 bnd
  by_cases hb : badS l k m
  · rw [decide_eq_true hb, if_pos hb]; rfl
  · rw [decide_eq_false hb, if_neg hb, cond_false]
    have e4 : anI .u64 ((2 ^ p - 1 : Nat) : Int) ((sumT l m l.length).2.1 : Int) = ((anN (2 ^ p - 1) (sumT l m l.length).2.1 : Nat) : Int) := anI_nat (by have := two_lt (k := p) (by omega); omega) (w_lt_of (by omega) ok.2.2.1)
    have hlt : anN (2 ^ p - 1) (sumT l m l.length).2.1 < 18446744073709551616 := anN_lt (by have := two_lt (k := p) (by omega); omega)
    obtain ⟨r, hr, hz⟩ := left_eq h hk (anN (2 ^ p - 1) (sumT l m l.length).2.1) hlt 0
    have hr2 : r = most l p k m := eq_of_le fun z => by
      rw [hz z, most_le]
      constructor
      · rintro ⟨h1, h2⟩
        refine ⟨h1, fun q hq hnr => h2 q ?_⟩
        rw [anN_bit (w_lt_of (by omega) ok.2.2.1) (by have := two_lt (k := p) (by omega); omega), Nat.testBit_two_pow_sub_one, decide_eq_true hq, Bool.true_and, Bool.not_eq_true', Bool.eq_false_iff]
        intro hc
        obtain ⟨i, hi, _, h4, h5⟩ := (sumT_rem h m q l.length (Nat.le_refl _)).1 hc
        exact hnr ⟨i, hi, h4, h5⟩
      · rintro ⟨h1, h2⟩
        refine ⟨h1, fun q hq => ?_⟩
        rw [anN_bit (w_lt_of (by omega) ok.2.2.1) (by have := two_lt (k := p) (by omega); omega), Nat.testBit_two_pow_sub_one] at hq
        simp only [Bool.and_eq_true, Bool.not_eq_true', decide_eq_true_eq] at hq
        refine h2 q hq.1 ?_
        rintro ⟨i, hi, h4, h5⟩
        rw [(sumT_rem h m q l.length (Nat.le_refl _)).2 ⟨i, hi, hi, h4, h5⟩] at hq
        cases hq.2
    rw [e4, loopF_of hr (by omega), bind_in, hr2]
    unfold recall_problem_bound.j1
    rw [eqZ_eq, bif_dec]
    by_cases hnv : most l p k m = Never
    · rw [if_pos hnv, if_pos hnv]
    · rw [if_neg hnv, if_neg hnv]
      have h1 := @most_nn l p k m
      have h2 := @most_never l p k m
      have h3 : (1073741824 : Int) * (l.length : Int) ≤ 1073741824 * 40 := by omega
      rw [z64_i (by have := ok.1; have := ok.2.1; simp only [Never] at h2; omega), bind_in]
end
end Go.Proofs.Ytonjhmnbcgchbaa
