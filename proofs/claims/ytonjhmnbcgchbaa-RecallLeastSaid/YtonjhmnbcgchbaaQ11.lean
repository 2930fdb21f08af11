/-
  RecallLeast: Plan's set is the first of the cheapest good ones.
-/
import Derived.Test.YtonjhmnbcgchbaaQ10
namespace Go.Proofs.Ytonjhmnbcgchbaa
open Go.Lad Classical
set_option linter.unusedVariables false
set_option linter.unusedSectionVars false
set_option linter.unusedSimpArgs false

/-- the set with a number: its options from k on are the number's bits, the first the highest -/
def numS : Nat → Nat → Nat → Nat
  | 0, _, _ => 0
  | r + 1, k, x => (if x.testBit r = true then 2 ^ k else 0) ||| numS r (k + 1) x
theorem numS_bit : ∀ (r k x i : Nat), (numS r k x).testBit i = (decide (k ≤ i ∧ i < k + r) && x.testBit (k + r - 1 - i))
  | 0, k, x, i => by
    unfold numS
    rw [Nat.zero_testBit, decide_eq_false (by omega)]; rfl
  | r + 1, k, x, i => by
    unfold numS
    rw [Nat.testBit_or, numS_bit r (k + 1) x i]
    have e0 : (if x.testBit r = true then 2 ^ k else 0).testBit i = (decide (k = i) && x.testBit r) := by
      cases x.testBit r with
      | true => rw [if_pos rfl, Nat.testBit_two_pow, Bool.and_true]
      | false => rw [if_neg (by simp), Nat.zero_testBit, Bool.and_false]
    rw [e0, show k + 1 + r - 1 - i = k + (r + 1) - 1 - i by omega]
    by_cases h1 : k = i
    · subst h1
      rw [decide_eq_true rfl, decide_eq_false (show ¬ (k + 1 ≤ k ∧ k < k + 1 + r) by omega), decide_eq_true (show k ≤ k ∧ k < k + (r + 1) by omega), show k + (r + 1) - 1 - k = r by omega]
      simp
    · rw [decide_eq_false h1]
      by_cases h2 : k + 1 ≤ i ∧ i < k + 1 + r
      · rw [decide_eq_true h2, decide_eq_true (show k ≤ i ∧ i < k + (r + 1) by omega)]; simp
      · rw [decide_eq_false h2, decide_eq_false (show ¬ (k ≤ i ∧ i < k + (r + 1)) by omega)]; simp
theorem numS_lt (r k x : Nat) : numS r k x < 2 ^ (k + r) := by
  apply Nat.lt_pow_two_of_testBit
  intro i hi
  rw [numS_bit, decide_eq_false (by omega)]; rfl
/-- the sets in the order of their numbers are those in the order of the search -/
theorem subs_num : ∀ (r k m : Nat), subsS r k m = (List.range (2 ^ r)).map fun x => m ||| numS r k x
  | 0, k, m => by unfold subsS; simp [numS]
  | r + 1, k, m => by
    unfold subsS
    rw [subs_num r (k + 1) m, subs_num r (k + 1) (m ||| 2 ^ k), Nat.pow_succ, Nat.mul_two, List.range_add, List.map_append]
    congr 1
    · refine List.map_congr_left fun x hx => ?_
      have hx : x < 2 ^ r := List.mem_range.1 hx
      show m ||| numS r (k + 1) x = m ||| numS (r + 1) k x
      conv => rhs; unfold numS
      rw [Nat.testBit_lt_two_pow hx]; simp
    · rw [List.map_map]
      refine List.map_congr_left fun x hx => ?_
      have hx : x < 2 ^ r := List.mem_range.1 hx
      show m ||| 2 ^ k ||| numS r (k + 1) x = m ||| numS (r + 1) k (2 ^ r + x)
      have hb : (2 ^ r + x).testBit r = true := by
        have := tb_form (t := r) (a := 1) hx r
        rw [Nat.mul_one] at this
        rw [this]; simp
      have he : numS r (k + 1) (2 ^ r + x) = numS r (k + 1) x := by
        apply Nat.eq_of_testBit_eq
        intro i
        rw [numS_bit, numS_bit]
        by_cases h1 : k + 1 ≤ i ∧ i < k + 1 + r
        · have := tb_form (t := r) (a := 1) hx (k + 1 + r - 1 - i)
          rw [Nat.mul_one, if_pos (by omega)] at this
          rw [this]
        · rw [decide_eq_false h1]; rfl
      conv => rhs; unfold numS
      rw [hb, if_pos rfl, he, Nat.or_assoc]
theorem subset_eq {n x : Nat} (hn : n ≤ 40) (hx : x < 2 ^ n) : ladinglaw46_subset (n : Int) (x : Int) = some (lst (numS n 0 x) n) := by
  have hx2 : x < 1099511627776 := lt_pow_le hx hn
  unfold ladinglaw46_subset
  refine loopF_at (fun k => ((k : Int), lst (numS n 0 x) k)) n rfl (fun k hk => ?_) ?_ (by omega)
  · have hlen := lst_len (numS n 0 x) k
    unfold ladinglaw46_subset.b1
    simp only [ltZ_eq, eqZ_eq, bif_dec]
    rw [if_pos (by omega), z64_i (by omega), bind_in, z64_i (by omega), bind_in]
    have e1 : IntKind.u64.wrap ((n : Int) - 1 - (k : Int)) = ((n - 1 - k : Nat) : Int) := by
      rw [show (n : Int) - 1 - (k : Int) = ((n - 1 - k : Nat) : Int) by omega]
      exact wrap_nat (by omega)
    have e2 : shrI .i64 (x : Int) ((n - 1 - k : Nat) : Int) = ((x / 2 ^ (n - 1 - k) : Nat) : Int) := by
      unfold shrI
      rw [show min (((n - 1 - k : Nat) : Int).toNat) (IntKind.i64.bits) = n - 1 - k by show min (((n - 1 - k : Nat) : Int).toNat) 64 = n - 1 - k; simp; omega]
      rw [Int.fdiv_eq_ediv_of_nonneg _ (by exact Int.pow_nonneg (by omega))]
      simp
    have hdiv : x / 2 ^ (n - 1 - k) ≤ x := Nat.div_le_self _ _
    have e5 : (numS n 0 x).testBit k = decide (x / 2 ^ (n - 1 - k) % 2 = 1) := by
      rw [numS_bit, decide_eq_true (show 0 ≤ k ∧ k < 0 + n by omega), Bool.true_and, show 0 + n - 1 - k = n - 1 - k by omega, Nat.testBit_eq_decide_div_mod_eq]
    generalize x / 2 ^ (n - 1 - k) = y at e2 hdiv e5
    have e3 : shrZ .i64 (x : Int) ((n - 1 - k : Nat) : Int) = some (y : Int) := by
      unfold shrZ
      rw [e2, leZ_eq, decide_eq_true (by omega), Bool.true_and]
      have : inZ .i64 (y : Int) = true := by
        unfold inZ
        rw [leZ_eq, leZ_eq, Bool.and_eq_true, decide_eq_true_eq, decide_eq_true_eq]
        exact ⟨by show (-9223372036854775808 : Int) ≤ _; omega, by show _ ≤ (9223372036854775807 : Int); omega⟩
      rw [this]; rfl
    have e4 : andI .i64 (y : Int) 1 = ((y % 2 : Nat) : Int) := by
      unfold andI
      show IntKind.i64.wrap (((BitVec.ofInt 64 (y : Int) &&& BitVec.ofInt 64 ((1 : Nat) : Int)).toNat : Nat) : Int) = _
      rw [bv_nat, bv_nat, BitVec.toNat_and, bv_to (by omega), bv_to (by omega), Nat.and_one_is_mod]
      exact wrap_in (show inK .i64 _ from ⟨by show (-9223372036854775808 : Int) ≤ _; omega, by show _ ≤ (9223372036854775807 : Int); omega⟩)
    rw [e1, e3, bind_in, e4, z64_succ (by omega), app_one (by omega), bind_in, bind_in, bind_in, lst_succ]
    rw [e5]
    by_cases hb : y % 2 = 1
    · rw [if_pos (by omega), decide_eq_true hb, if_pos rfl]
    · rw [if_neg (by omega), decide_eq_false hb, if_neg (by simp), List.append_nil]
  · unfold ladinglaw46_subset.b1
    simp only [ltZ_eq, bif_dec]
    rw [if_neg (by omega)]
section
variable {l : List GOption} {p : Nat} (h : RT l p)
include h
theorem sumLoop_eq {m : Nat} (hm : m < 2 ^ l.length) : loopF (fun x => ladinglaw46_RecallLeast.b1 l (lst m l.length) x.1 x.2) (0, 0) = some (cst l m) := by
  have hn := h.hn
  have hlen := lst_len m l.length
  have hrp := lst_rp (n := l.length) (Nat.le_refl _) (by omega) hm
  -- the sums of the first elements
  have hs : ∀ j, j ≤ (lst m l.length).length → 0 ≤ ((lst m l.length).take j).foldl (fun n x => n + (l.getD x.toNat ops0).1) 0 ∧ ((lst m l.length).take j).foldl (fun n x => n + (l.getD x.toNat ops0).1) 0 ≤ 1073741824 * (j : Int) := by
    intro j
    induction j with
    | zero => intro _; simp
    | succ j ih =>
      intro hj
      have := ih (by omega)
      rw [take_snoc _ j (by omega), List.foldl_append, List.foldl_cons, List.foldl_nil]
      obtain ⟨i, hi, e1, _, _⟩ := hrp.at (show j < (lst m l.length).length by omega)
      have hc := h.cost i hi
      rw [e1, Int.toNat_natCast, getD_at hi]
      omega
  have key := loopF_at (body := fun x => ladinglaw46_RecallLeast.b1 l (lst m l.length) x.1 x.2) (b := ((lst m l.length).take (lst m l.length).length).foldl (fun n x => n + (l.getD x.toNat ops0).1) 0) (x := (0, 0)) (fun k => (((lst m l.length).take k).foldl (fun n x => n + (l.getD x.toNat ops0).1) 0, (k : Int))) (lst m l.length).length rfl (fun k hk => ?_) ?_ (by omega)
  · rw [key, List.take_length]
    congr 1
    have : ∀ k, k ≤ l.length → (lst m k).foldl (fun n x => n + (l.getD x.toNat ops0).1) 0 = (sumT l m k).1 := by
      intro k
      induction k with
      | zero => intro _; rfl
      | succ k ih =>
        intro hk
        rw [lst_succ, List.foldl_append, ih (by omega), sumT_succ]
        by_cases hb : m.testBit k = true
        · rw [if_pos hb, if_pos hb, List.foldl_cons, List.foldl_nil, Int.toNat_natCast]
        · rw [if_neg hb, if_neg hb, List.foldl_nil]
    exact this l.length (Nat.le_refl _)
  · obtain ⟨i, hi, e1, _, e3⟩ := hrp.at hk
    have hb := hs k (by omega)
    have hc := h.cost i hi
    unfold ladinglaw46_RecallLeast.b1
    simp only [ltZ_eq, bif_dec, idx_nat hk, bind_in, e3, z64_succ (show k + 1 ≤ 9223372036854775807 by omega)]
    rw [if_pos (by omega), z64_i (by omega), bind_in, take_snoc _ k hk, List.foldl_append, List.foldl_cons, List.foldl_nil, e1, Int.toNat_natCast, getD_at hi]
  · unfold ladinglaw46_RecallLeast.b1
    simp only [ltZ_eq, bif_dec]
    rw [if_neg (by omega)]
/-- the law's own search: the best of the first x sets -/
noncomputable def lawS (l : List GOption) (p : Nat) (x : Nat) : Nat × Int := ((List.range x).map fun y => numS l.length 0 y).foldl (stepS l p) (0, Never)
omit h in
theorem lawS_succ (x : Nat) : lawS l p (x + 1) = stepS l p (lawS l p x) (numS l.length 0 x) := by
  unfold lawS
  rw [List.range_succ, List.map_append, List.foldl_append]; rfl
/-- what the law keeps of it -/
noncomputable def lawC (s : Nat × Int) : Int := if s.2 = Never then -1 else s.2
theorem least_loop (hn9 : l.length ≤ 9) : loopF (fun x => ladinglaw46_RecallLeast.b2 l (p : Int) x.1 x.2.1 x.2.2) ([], (-1), 0) = some (.inl (lst (lawS l p (2 ^ l.length)).1 l.length, lawC (lawS l p (2 ^ l.length)))) := by
  have hn := h.hn
  have hpw : 2 ^ l.length ≤ 2 ^ 9 := Nat.pow_le_pow_right (by omega) hn9
  have hz : lst 0 l.length = [] := by rw [lst_ge (m := 0) (k := 0) (by decide) (by omega)]; rfl
  have hnn : (0 : Int) ≤ ((2 ^ l.length : Nat) : Int) := Int.natCast_nonneg _
  have hshl : shlZ .i64 1 (IntKind.u64.wrap (l.length : Int)) = some ((2 ^ l.length : Nat) : Int) := by
    rw [wrap_nat (by omega)]
    unfold shlZ shlI
    rw [leZ_eq, decide_eq_true (by omega), cond_true]
    rw [show min ((l.length : Int).toNat) (IntKind.i64.bits) = l.length by show min ((l.length : Int).toNat) 64 = l.length; simp; omega, Int.one_mul]
    rw [show ((2 : Int) ^ l.length) = ((2 ^ l.length : Nat) : Int) by simp]
    rw [wrap_in (show inK .i64 _ from ⟨by show (-9223372036854775808 : Int) ≤ _; omega, by show _ ≤ (9223372036854775807 : Int); omega⟩)]
  refine loopF_at (fun x => (lst (lawS l p x).1 l.length, lawC (lawS l p x), (x : Int))) (2 ^ l.length) ?_ (fun x hx => ?_) ?_ (by omega)
  · have : lawS l p 0 = (0, Never) := rfl
    rw [this, hz]; unfold lawC; rw [if_pos rfl]; rfl
  · have hlt : numS l.length 0 x < 2 ^ l.length := by have := numS_lt l.length 0 x; rwa [Nat.zero_add] at this
    have hlen := lst_len (numS l.length 0 x) l.length
    have hcst := cst_lt h (numS l.length 0 x)
    have hgood : goodB l p (lst (numS l.length 0 x) l.length) = decide (goodM l p (numS l.length 0 x)) := by
      unfold goodB
      rw [rightB_of h, lst_rise, Int.toNat_natCast, mask_lst hlt]; rfl
    have hcost : costW l (lst (numS l.length 0 x) l.length) = cst l (numS l.length 0 x) := costW_lst h _ l.length (Nat.le_refl _)
    unfold ladinglaw46_RecallLeast.b2
    simp only [hshl, bind_in, ltZ_eq, bif_dec, subset_eq hn hx, Good_eq h.lit _ (show (lst (numS l.length 0 x) l.length).length ≤ 1000000 by omega), hgood, bif_not, z64_succ (show x + 1 ≤ 9223372036854775807 by omega), sumLoop_eq h hlt]
    rw [if_pos (by omega), lawS_succ]
    unfold stepS
    by_cases hg : goodM l p (numS l.length 0 x)
    · rw [if_pos hg]
      unfold ladinglaw46_RecallLeast.j2
      rw [Cost_eq l _ (by omega), bind_in, hcost, eqZ_eq, decide_eq_true rfl]
      simp only [Bool.not_true, cond_false, ltZ_eq, bif_dec]
      unfold ladinglaw46_RecallLeast.j1
      simp only [z64_succ (show x + 1 ≤ 9223372036854775807 by omega), bind_in]
      unfold lawC
      by_cases hN : (lawS l p x).2 = Never
      · rw [if_pos hN, if_pos (by omega), if_pos ⟨hg, by omega⟩, if_neg (by dsimp only; omega)]; rfl
      · have hnn : 0 ≤ (lawS l p x).2 := by
          obtain ⟨_, _, h3⟩ := fold_spec (l := l) (p := p) ((List.range x).map fun y => numS l.length 0 y) (0, Never)
          rcases h3 with h3 | ⟨_, _, h3, _⟩
          · exact absurd (congrArg Prod.snd h3) hN
          · have := cst_lt h (lawS l p x).1
            have h3 : cst l (lawS l p x).1 = (lawS l p x).2 := h3
            omega
        rw [if_neg hN, if_neg (by omega)]
        by_cases hc : cst l (numS l.length 0 x) < (lawS l p x).2
        · rw [decide_eq_true hc, if_pos ⟨hg, hc⟩, if_neg (by dsimp only; omega)]; rfl
        · rw [decide_eq_false hc, if_neg (fun h2 => hc h2.2), if_neg hN]; rfl
    · rw [if_neg hg, if_neg (fun h2 => hg h2.1)]
  · unfold ladinglaw46_RecallLeast.b2
    dsimp only
    rw [hshl, bind_in, ltZ_eq, bif_dec, if_neg (by omega)]
end
theorem least_true (l : List GOption) (p : Int) : ladinglaw46_RecallLeast l p = some true := by
  unfold ladinglaw46_RecallLeast
  obtain ⟨b, hb, hb2⟩ := light_eq l 9 (by omega)
  have hb : ladinglaw46_light l 9 = some b := hb
  rw [small_true, bind_in, hb, bind_in]
  unfold ladinglaw46_RecallLeast.j4
  simp only [ltZ_eq, bif_dec]
  cases b with
  | false => rfl
  | true =>
    have h9 := (hb2 rfl).1
    have hl := light_lit (by omega) (hb2 rfl)
    rw [bif_not, cond_true]
    by_cases h1 : p < 0
    · rw [if_pos h1]; rfl
    · rw [if_neg h1]
      by_cases h2 : 12 < p
      · rw [if_pos h2]; rfl
      · rw [if_neg h2, Right_eq hl, bind_in, bind_in]
        cases hr : rightB l p with
        | false => rfl
        | true =>
          obtain ⟨q, rfl, h⟩ := rightB_iff.1 hr
          have hlen := planS_len h
          rw [Bool.not_true, cond_false, Plan_eq h, bind_in, least_loop h h9, bind_in]
          dsimp only
          unfold ladinglaw46_RecallLeast.j3
          have hsub : ((List.range (2 ^ l.length)).map fun y => numS l.length 0 y) = subsS l.length 0 0 := by
            rw [subs_num]
            exact List.map_congr_left fun x _ => by rw [Nat.zero_or]
          have hv : (visAll l q).1 = true := (vis_small l.length 0 0 0 Never [] (by
            have : 2 ^ (l.length + 1) ≤ 2 ^ 10 := Nat.pow_le_pow_right (by omega) (by omega)
            simp; omega)).1
          have hf := vis_best_spec h hv
          have hlaw : lawS l q (2 ^ l.length) = ((visAll l q).2.1, (visAll l q).2.2.1) := by
            unfold lawS
            rw [hsub, ← hf]
          rw [hlaw]
          unfold lawC
          rcases plan_spec h with ⟨e0, b, hbl, e1, hg, hmin, _, e2, e3, e4⟩ | ⟨e, _, e3, _⟩ | ⟨_, e⟩
          · have := cst_lt h b
            dsimp only
            rw [e2, e3, if_neg (by omega), ltZ_eq, bif_dec, if_neg (by omega), cond_true, e0, eqZ_eq, decide_eq_true rfl, cond_true, Same_eq hlen.1, e1, decide_eq_true rfl, bind_in]
          · dsimp only
            rw [e3, if_pos rfl, e]
            rfl
          · rw [hv] at e; cases e
end Go.Proofs.Ytonjhmnbcgchbaa
