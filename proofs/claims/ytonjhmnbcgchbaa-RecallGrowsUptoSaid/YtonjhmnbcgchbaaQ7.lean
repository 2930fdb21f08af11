/-
  Plan, Good and Check, of the code and of the reference.
-/
import Derived.Test.YtonjhmnbcgchbaaQ6
namespace Go.Proofs.Ytonjhmnbcgchbaa
open Go.Lad Classical
set_option linter.unusedVariables false
set_option linter.unusedSectionVars false
set_option linter.unusedSimpArgs false

noncomputable def visAll (l : List GOption) (p : Nat) : Bool × Nat × Int × List GBranch := vis l p l.length 0 0 0 Never []
noncomputable def planS (l : List GOption) (p : Nat) : List Int × List GBranch × Int :=
  if (visAll l p).1 = true then if (visAll l p).2.2.1 = Never then ([], [], 4) else (lst (visAll l p).2.1 l.length, (visAll l p).2.2.2, 0) else ([], [], 6)
theorem rightB_of {l : List GOption} {p : Nat} (h : RT l p) : rightB l p = true := rightB_iff.2 ⟨p, rfl, h⟩
section
variable {l : List GOption} {p : Nat} (h : RT l p)
include h
theorem set_eq {b : Nat} (hb : b < 18446744073709551616) (g : Bool × Int × Int × Int × (List GBranch) × List GOptionx) (hg : g.2.2.1 = (b : Int)) : loopF (fun x => recall_Plan.b1 l g x.1 x.2) (0, []) = some (lst b l.length) := by
  have hn := h.hn
  refine loopF_at (fun k => ((k : Int), lst b k)) l.length rfl (fun k hk => ?_) ?_ (by omega)
  · have hlen := lst_len b k
    unfold recall_Plan.b1
    simp only [ltZ_eq, eqZ_eq, bif_dec, bif_not, shlZ_nat (show k < 64 by omega), bind_in, hg, andI_nat hb (two_lt (show k < 64 by omega)), z64_succ (show k + 1 ≤ 9223372036854775807 by omega)]
    rw [if_pos (by omega), app_one (by omega), bind_in, lst_succ]
    have e : ((((b &&& 2 ^ k : Nat) : Int)) = 0) ↔ b.testBit k = false := by rw [← and_two]; omega
    by_cases hbk : b.testBit k = true
    · rw [if_neg (by rw [e, hbk]; simp), if_pos hbk]
    · rw [if_pos (by rw [e]; simpa using hbk), if_neg hbk, List.append_nil]
  · unfold recall_Plan.b1
    simp only [ltZ_eq, bif_dec]
    rw [if_neg (by omega)]
theorem Plan_eq : recall_Plan l (p : Int) = some (planS l p) := by
  have hn := h.hn
  have hg := grow_eq h l.length bigFuel.n 0 0 0 Never [] (by show l.length < 1606938044258990275541962092341162602522202993782792835301376; omega) (by omega) (by decide) (by simp)
  have hb := vis_best (l := l) (p := p) (n := l.length) l.length 0 0 0 Never [] (by omega) (by decide) (Nat.pow_pos (by omega))
  unfold recall_Plan
  rw [Right_eq h.lit, rightB_of h, bind_in, bif_not, cond_true, load_eq h, bind_in]
  unfold recall_problem_grow
  have hg : recall_problem_grow.rec Fuel.n 0 0 ((2 ^ p - 1 : Nat) : Int) 0 Never (l.map conv) [] = _ := hg
  dsimp only
  rw [hg, bind_in]
  unfold planS visAll
  cases hv : (vis l p l.length 0 0 0 Never []).1 with
  | false => rw [bif_not, cond_false, if_neg (by simp)]
  | true =>
    rw [bif_not, cond_true, if_pos rfl, eqZ_eq, bif_dec]
    by_cases hc : (vis l p l.length 0 0 0 Never []).2.2.1 = Never
    · rw [if_pos hc, if_pos hc]
    · rw [if_neg hc, if_neg hc, set_eq h (w_lt_of (by omega) hb) _ rfl, bind_in]
      unfold recall_Plan.j1 slices_Clip_api_Branch_api_Branch_v2 clipN
      dsimp only
      rw [eqZ_eq]
      simp [bind_in]
theorem refPlan_eq : ladingref46_Plan l (p : Int) = some (planS l p) := by
  unfold ladingref46_Plan
  rw [refRight_eq h.lit, rightB_of h, bind_in, bif_not, cond_true, visit_eq h, bind_in]
  unfold planS visAll
  cases hv : (vis l p l.length 0 0 0 Never []).1 with
  | false => rw [bif_not, cond_false, if_neg (by simp)]
  | true =>
    rw [bif_not, cond_true, if_pos rfl, eqZ_eq, bif_dec]
    by_cases hc : (vis l p l.length 0 0 0 Never []).2.2.1 = Never
    · rw [if_pos hc, if_pos hc]
    · rw [if_neg hc, if_neg hc]
end
theorem Plan_bad {l : List GOption} {p : Int} (hl : Lit l) (hr : rightB l p = false) : recall_Plan l p = some ([], [], 1) := by
  unfold recall_Plan
  rw [Right_eq hl, hr, bind_in]; rfl
theorem refPlan_bad {l : List GOption} {p : Int} (hl : Lit l) (hr : rightB l p = false) : ladingref46_Plan l p = some ([], [], 1) := by
  unfold ladingref46_Plan
  rw [refRight_eq hl, hr, bind_in]; rfl
/-! ### good sets -/
def goodM (l : List GOption) (p m : Nat) : Prop := ¬ badS l l.length m ∧ ∀ q, q < p → remS l m q
theorem rise_rp {s : List Int} {n : Nat} (h : riseB n (-1) (-1) s = true) (hn : n ≤ 1000) : Rp s (mask s) n ∧ mask s < 2 ^ n := by
  have hm := rise_mem h
  have hl := rise_len h (by omega)
  refine ⟨⟨fun x hx => by have := hm x hx; omega, fun i => ?_, by omega⟩, mask_lt fun x hx => by have := hm x hx; omega⟩
  rw [mask_bit (fun x hx => by have := hm x hx; omega)]
  simp
theorem pair_ext : ∀ {a b : List Int}, a.Pairwise (· < ·) → b.Pairwise (· < ·) → (∀ x, x ∈ a ↔ x ∈ b) → a = b
  | [], [], _, _, _ => rfl
  | [], y :: b, _, _, h => by have := (h y).2 List.mem_cons_self; cases this
  | x :: a, [], _, _, h => by have := (h x).1 List.mem_cons_self; cases this
  | x :: a, y :: b, ha, hb, h => by
    have ha' := List.pairwise_cons.1 ha
    have hb' := List.pairwise_cons.1 hb
    have hxy : x = y := by
      rcases List.mem_cons.1 ((h x).1 List.mem_cons_self) with e | e
      · exact e
      · rcases List.mem_cons.1 ((h y).2 List.mem_cons_self) with e2 | e2
        · exact e2.symm
        · have := ha'.1 y e2
          have := hb'.1 x e
          omega
    subst hxy
    congr 1
    refine pair_ext ha'.2 hb'.2 fun z => ⟨fun hz => ?_, fun hz => ?_⟩
    · rcases List.mem_cons.1 ((h z).1 (List.mem_cons_of_mem _ hz)) with e | e
      · subst e; have := ha'.1 z hz; omega
      · exact e
    · rcases List.mem_cons.1 ((h z).2 (List.mem_cons_of_mem _ hz)) with e | e
      · subst e; have := hb'.1 z hz; omega
      · exact e
theorem lst_pair (m : Nat) : ∀ k, (lst m k).Pairwise (· < ·)
  | 0 => List.Pairwise.nil
  | k + 1 => by
    rw [lst_succ, List.pairwise_append]
    refine ⟨lst_pair m k, ?_, fun x hx y hy => ?_⟩
    · split <;> simp
    · obtain ⟨i, rfl, hi, _⟩ := mem_lst.1 hx
      split at hy
      · simp at hy; omega
      · cases hy
theorem rise_lst {s : List Int} {n : Nat} (h : riseB n (-1) (-1) s = true) (hn : n ≤ 1000) : s = lst (mask s) n := by
  obtain ⟨rp, hlt⟩ := rise_rp h hn
  refine pair_ext (rise_pair h) (lst_pair _ _) fun x => ?_
  rw [mem_lst]
  constructor
  · intro hx
    obtain ⟨i, hi⟩ := Int.eq_ofNat_of_zero_le (rp.lt x hx).1
    have := rp.lt x hx
    exact ⟨i, hi, by omega, (rp.bit i).2 (by rw [← hi]; exact hx)⟩
  · rintro ⟨i, rfl, _, hb⟩
    exact (rp.bit i).1 hb
theorem lst_rise {m n : Nat} : riseB n (-1) (-1) (lst m n) = true := by
  refine rise_of (lst_pair m n) fun x hx => ?_
  obtain ⟨i, rfl, hi, _⟩ := mem_lst.1 hx
  omega
theorem mask_lst {m n : Nat} (hm : m < 2 ^ n) : mask (lst m n) = m := by
  apply Nat.eq_of_testBit_eq
  intro i
  rw [mask_bit (fun x hx => by obtain ⟨j, rfl, _⟩ := mem_lst.1 hx; omega), Bool.eq_iff_iff, decide_eq_true_eq, mem_lst]
  constructor
  · rintro ⟨j, e, _, hb⟩
    have : i = j := by omega
    rw [this]; exact hb
  · intro hb; exact ⟨i, rfl, bit_lt hm hb, hb⟩
noncomputable def goodB (l : List GOption) (p : Int) (s : List Int) : Bool := rightB l p && (riseB l.length (-1) (-1) s && decide (goodM l p.toNat (mask s)))
theorem Good_eq {l : List GOption} (hl : Lit l) (p : Int) {s : List Int} (hs : s.length ≤ 1000000) : recall_Good l p s = some (goodB l p s) := by
  unfold recall_Good goodB
  rw [Right_eq hl, bind_in]
  cases hr : rightB l p with
  | false => simp [bind_in, recall_Good.j1]
  | true =>
    rw [bif_not, cond_true, ascends_eq _ _ hs, bind_in, bind_in, Bool.true_and]
    unfold recall_Good.j1
    cases ha : riseB l.length (-1) (-1) s with
    | false => rfl
    | true =>
      obtain ⟨q, rfl, h⟩ := rightB_iff.1 hr
      have hp := h.hp
      have hn := h.hn
      obtain ⟨rp, hlt⟩ := rise_rp ha (by omega)
      have hm64 : mask s < 18446744073709551616 := w_lt_of (by omega) hlt
      have ok := sumT_ok h (mask s) l.length (Nat.le_refl _)
      rw [Bool.not_true, cond_false, Bool.true_and, load_eq h, bind_in, bits_eq (fun x hx => by have := rise_mem ha x hx; omega) hs, bind_in]
      dsimp only
      rw [sum_eq h hm64, bind_in]
      dsimp only
      rw [andI_nat (w_lt_of (by omega) ok.2.2.2.2) hm64, anI_nat (w_lt_of (by omega) ok.2.2.2.1) hm64, andI_nat (w_lt_of (by omega) ok.2.2.1) (by have := two_lt (k := q) (by omega); omega), eqZ_eq, eqZ_eq, eqZ_eq, bif_dec, bif_dec, Int.toNat_natCast]
      have q1 : ((((sumT l (mask s) l.length).2.2.2 &&& mask s : Nat) : Int) = 0) ↔ ¬ ∃ i, ∃ hi : i < l.length, (mask s).testBit i = true ∧ ∃ x : Nat, (mask s).testBit x = true ∧ (x : Int) ∈ l[i].2.2.2 := by
        rw [show ((((sumT l (mask s) l.length).2.2.2 &&& mask s : Nat) : Int) = 0) ↔ ((sumT l (mask s) l.length).2.2.2 &&& mask s = 0) by omega, and_zero]
        constructor
        · rintro h1 ⟨i, hi, h2, x, h3, h4⟩
          exact h1 x ⟨(sumT_exc h _ x l.length (Nat.le_refl _)).2 ⟨i, hi, hi, h2, h4⟩, h3⟩
        · rintro h1 x ⟨h2, h3⟩
          obtain ⟨i, hi, _, h4, h5⟩ := (sumT_exc h _ x l.length (Nat.le_refl _)).1 h2
          exact h1 ⟨i, hi, h4, x, h3, h5⟩
      have q2 : (((anN (sumT l (mask s) l.length).2.2.1 (mask s) : Nat) : Int) = 0) ↔ ¬ ∃ i, ∃ hi : i < l.length, (mask s).testBit i = true ∧ ∃ x : Nat, x < l.length ∧ (mask s).testBit x = false ∧ (x : Int) ∈ l[i].2.2.1 := by
        constructor
        · rintro h1 ⟨i, hi, h2, x, h3, h4, h5⟩
          have h6 : anN (sumT l (mask s) l.length).2.2.1 (mask s) = 0 := by omega
          have h7 := anN_bit hm64 (w_lt_of (by omega) ok.2.2.2.1) x
          rw [h6, (sumT_need h _ x l.length (Nat.le_refl _)).2 ⟨i, hi, hi, h2, h5⟩, h4] at h7
          simp at h7
        · intro h1
          have : anN (sumT l (mask s) l.length).2.2.1 (mask s) = 0 := by
            apply Nat.eq_of_testBit_eq
            intro x
            rw [anN_bit hm64 (w_lt_of (by omega) ok.2.2.2.1), Nat.zero_testBit, Bool.eq_false_iff]
            intro hc
            simp only [Bool.and_eq_true, Bool.not_eq_true'] at hc
            obtain ⟨i, hi, _, h4, h5⟩ := (sumT_need h _ x l.length (Nat.le_refl _)).1 hc.1
            exact h1 ⟨i, hi, h4, x, by have := (h.mneed hi _ h5).1; omega, hc.2, h5⟩
          omega
      have q3 : (((sumT l (mask s) l.length).2.1 &&& (2 ^ q - 1) : Nat) : Int) = ((2 ^ q - 1 : Nat) : Int) ↔ ∀ x, x < q → remS l (mask s) x := by
        rw [show ((((sumT l (mask s) l.length).2.1 &&& (2 ^ q - 1) : Nat) : Int) = ((2 ^ q - 1 : Nat) : Int)) ↔ ((sumT l (mask s) l.length).2.1 &&& (2 ^ q - 1) = 2 ^ q - 1) by omega]
        constructor
        · intro h1 x hx
          have h2 := congrArg (fun y => Nat.testBit y x) h1
          simp only [Nat.testBit_and, Nat.testBit_two_pow_sub_one, decide_eq_true hx, Bool.and_true] at h2
          obtain ⟨i, hi, _, h4, h5⟩ := (sumT_rem h _ x l.length (Nat.le_refl _)).1 h2
          exact ⟨i, hi, h4, h5⟩
        · intro h1
          apply Nat.eq_of_testBit_eq
          intro x
          rw [Nat.testBit_and, Nat.testBit_two_pow_sub_one]
          by_cases hx : x < q
          · obtain ⟨i, hi, h4, h5⟩ := h1 x hx
            rw [(sumT_rem h _ x l.length (Nat.le_refl _)).2 ⟨i, hi, hi, h4, h5⟩]; simp
          · rw [decide_eq_false hx, Bool.and_false]
      have hbad : badS l l.length (mask s) ↔ ¬ (((((sumT l (mask s) l.length).2.2.2 &&& mask s : Nat) : Int) = 0) ∧ (((anN (sumT l (mask s) l.length).2.2.1 (mask s) : Nat) : Int) = 0)) := by
        rw [q1, q2]
        constructor
        · rintro ⟨i, hi, h1, h2 | h2⟩ ⟨c1, c2⟩
          · exact c1 ⟨i, hi, h1, h2⟩
          · exact c2 ⟨i, hi, h1, h2⟩
        · intro hc
          by_cases c1 : ∃ i, ∃ hi : i < l.length, (mask s).testBit i = true ∧ ∃ x : Nat, (mask s).testBit x = true ∧ (x : Int) ∈ l[i].2.2.2
          · obtain ⟨i, hi, h1, h2⟩ := c1
            exact ⟨i, hi, h1, .inl h2⟩
          · obtain ⟨i, hi, h1, h2⟩ := Classical.not_not.1 (fun c2 => hc ⟨c1, c2⟩)
            exact ⟨i, hi, h1, .inr h2⟩
      congr 1
      by_cases c1 : (((sumT l (mask s) l.length).2.2.2 &&& mask s : Nat) : Int) = 0
      · rw [if_pos c1]
        by_cases c2 : ((anN (sumT l (mask s) l.length).2.2.1 (mask s) : Nat) : Int) = 0
        · rw [if_pos c2]
          congr 1
          rw [decide_eq_decide, q3]
          exact ⟨fun h1 => ⟨fun hb => hbad.1 hb ⟨c1, c2⟩, h1⟩, fun h1 => h1.2⟩
        · rw [if_neg c2]
          congr 1
          exact (decide_eq_false fun (h1 : goodM l q (mask s)) => h1.1 (hbad.2 fun hc => c2 hc.2)).symm
      · rw [if_neg c1]
        congr 1
        exact (decide_eq_false fun (h1 : goodM l q (mask s)) => h1.1 (hbad.2 fun hc => c1 hc.1)).symm
end Go.Proofs.Ytonjhmnbcgchbaa
