/-
  Good of the reference; checking a tree.
-/
import Derived.Test.YtonjhmnbcgchbaaQ7
namespace Go.Proofs.Ytonjhmnbcgchbaa
open Go.Lad Classical
set_option linter.unusedVariables false
set_option linter.unusedSectionVars false
set_option linter.unusedSimpArgs false

theorem any_eq_dec {α : Type} {l : List α} {f : α → Bool} {P : Prop} [Decidable P] (h : (∃ x ∈ l, f x = true) ↔ P) : l.any f = decide P := by
  rw [Bool.eq_iff_iff, List.any_eq_true, decide_eq_true_eq]; exact h
theorem refGood_eq {l : List GOption} (hl : Lit l) (p : Int) {s : List Int} (hs : s.length ≤ 1000000) : ladingref46_Good l p s = some (goodB l p s) := by
  unfold ladingref46_Good goodB
  rw [refRight_eq hl, bind_in]
  cases hr : rightB l p with
  | false => simp [bind_in, ladingref46_Good.j3]
  | true =>
    rw [bif_not, cond_true, rising_eq _ _ hs, bind_in, bind_in, Bool.true_and]
    unfold ladingref46_Good.j3
    cases ha : riseB l.length (-1) (-1) s with
    | false => rfl
    | true =>
      obtain ⟨q, rfl, h⟩ := rightB_iff.1 hr
      have hp := h.hp
      have hn := h.hn
      obtain ⟨rp, hlt⟩ := rise_rp ha (by omega)
      have hslen := rp.len
      rw [Bool.not_true, cond_false, Bool.true_and, Int.toNat_natCast]
      have h1 : loopF (fun x => ladingref46_Good.b1 l (q : Int) s x) 0 = some (if ∀ x, x < q → remS l (mask s) x then .inl () else .inr false) := by
        have key := loop_scan (body := fun x => ladingref46_Good.b1 l (q : Int) s x) (List.range q) (fun (x : Nat) (_ : Nat) => if remS l (mask s) x then none else some (.inr false : Unit ⊕ Bool)) (.inl ()) (fun k hk => by
          have hk2 : k < q := by simpa using hk
          unfold ladingref46_Good.b1
          simp only [ltZ_eq, bif_dec, bif_not, removed_eq hl rp, bind_in, z64_succ (show k + 1 ≤ 9223372036854775807 by omega)]
          rw [if_pos (by omega)]
          by_cases hc : remS l (mask s) k <;> simp [hc]) (by
          unfold ladingref46_Good.b1
          simp only [ltZ_eq, bif_dec]
          rw [if_neg (by simp)]) (by simp; omega)
        rw [key]
        congr 1
        by_cases hall : ∀ x, x < q → remS l (mask s) x
        · rw [if_pos hall, scan_none.2 fun i hi => by rw [if_pos (hall _ (by simpa using hi))]]; rfl
        · rw [if_neg hall]
          cases hsc : scan (fun (x : Nat) (_ : Nat) => if remS l (mask s) x then none else some (.inr false : Unit ⊕ Bool)) 0 (List.range q) with
          | none =>
            exfalso
            refine hall fun x hx => ?_
            have := scan_none.1 hsc x (by simpa using hx)
            split at this
            · rename_i h9; simpa using h9
            · cases this
          | some b =>
            obtain ⟨i, hi, h6, _⟩ := scan_some.1 hsc
            split at h6
            · cases h6
            · injection h6 with h6; rw [← h6]; rfl
      rw [h1, bind_in]
      by_cases hall : ∀ x, x < q → remS l (mask s) x
      · rw [if_pos hall]
        dsimp only
        unfold ladingref46_Good.j2
        let bd : Int → Bool := fun x => ((l.getD x.toNat ops0).2.2.1.any fun y => decide (y ∉ s)) || ((l.getD x.toNat ops0).2.2.2.any fun y => decide (y ∈ s))
        have key := loop_scan (body := fun x => ladingref46_Good.b4 l s x) s (fun _ x => if bd x = true then some false else none) true (fun j hj => by
          obtain ⟨i, hi, e1, e2, e3⟩ := rp.at hj
          have lo := hl.2 l[i] (List.getElem_mem hi)
          have hx := loop_scan (body := fun x => ladingref46_Good.b2 s l[i] x) l[i].2.2.1 (fun _ y => if decide (y ∉ s) = true then some (.inr (.inr false) : Unit ⊕ (Int ⊕ Bool)) else none) (.inl ()) (fun a ha => by
            unfold ladingref46_Good.b2
            simp only [ltZ_eq, bif_dec, bif_not, idx_nat ha, bind_in, has_eq _ hslen, z64_succ (show a + 1 ≤ 9223372036854775807 by omega)]
            rw [if_pos (by omega)]
            by_cases hc : l[i].2.2.1[a] ∈ s <;> simp [hc]) (by
            unfold ladingref46_Good.b2
            simp only [ltZ_eq, bif_dec]
            rw [if_neg (by omega)]) (by omega)
          rw [scan_any (fun y => decide (y ∉ s))] at hx
          have hy : ladingref46_Good.j1 s (j : Int) l[i] = some (if (l[i].2.2.2.any fun y => decide (y ∈ s)) = true then (.inr false : Int ⊕ Bool) else .inl ((j + 1 : Nat) : Int)) := by
            unfold ladingref46_Good.j1
            have key := loop_scan (body := fun x => ladingref46_Good.b3 s (j : Int) l[i] x) l[i].2.2.2 (fun _ y => if decide (y ∈ s) = true then some (.inr false : Int ⊕ Bool) else none) (.inl ((j + 1 : Nat) : Int)) (fun a ha => by
              unfold ladingref46_Good.b3
              simp only [ltZ_eq, bif_dec, idx_nat ha, bind_in, has_eq _ hslen, z64_succ (show a + 1 ≤ 9223372036854775807 by omega)]
              rw [if_pos (by omega)]
              by_cases hc : l[i].2.2.2[a] ∈ s <;> simp [hc]) (by
              unfold ladingref46_Good.b3
              simp only [ltZ_eq, bif_dec, z64_succ (show j + 1 ≤ 9223372036854775807 by omega), bind_in]
              rw [if_neg (by omega)]; rfl) (by omega)
            rw [key, scan_any (fun y => decide (y ∈ s))]
            split <;> rfl
          unfold ladingref46_Good.b4
          simp only [ltZ_eq, bif_dec, idx_nat hj, bind_in, e3, hx]
          rw [if_pos (by omega)]
          have hbd : bd s[j] = ((l[i].2.2.1.any fun y => decide (y ∉ s)) || (l[i].2.2.2.any fun y => decide (y ∈ s))) := by
            simp only [bd]
            rw [e1, Int.toNat_natCast, getD_at hi]
          rw [hbd]
          cases hA : (l[i].2.2.1.any fun y => decide (y ∉ s)) with
          | true => rfl
          | false =>
            simp only [Bool.false_eq_true, if_false, Bool.false_or, Option.getD_none]
            rw [hy]
            cases hB : (l[i].2.2.2.any fun y => decide (y ∈ s)) <;> rfl) (by
          unfold ladingref46_Good.b4
          simp only [ltZ_eq, bif_dec]
          rw [if_neg (by omega)]) (by omega)
        rw [key, scan_any bd]
        have hany : s.any bd = decide (badS l l.length (mask s)) := any_eq_dec (by
          constructor
          · rintro ⟨x, hx, e⟩
            obtain ⟨j, hj, rfl⟩ := List.mem_iff_getElem.1 hx
            obtain ⟨i, hi, e1, e2, _⟩ := rp.at hj
            simp only [bd] at e
            rw [e1, Int.toNat_natCast, getD_at hi, Bool.or_eq_true, List.any_eq_true, List.any_eq_true] at e
            refine ⟨i, hi, e2, e.symm.imp ?_ ?_⟩
            · rintro ⟨y, hy, e⟩
              rw [decide_eq_true_eq] at e
              obtain ⟨t, ht⟩ := Int.eq_ofNat_of_zero_le (rp.lt y e).1
              rw [ht] at e hy
              exact ⟨t, (rp.bit t).2 e, hy⟩
            · rintro ⟨y, hy, e⟩
              rw [decide_eq_true_eq] at e
              have hyy := h.mneed hi y hy
              obtain ⟨t, ht⟩ := Int.eq_ofNat_of_zero_le hyy.2
              rw [ht] at e hy hyy
              refine ⟨t, by omega, ?_, hy⟩
              rw [Bool.eq_false_iff]
              exact fun hc => e ((rp.bit t).1 hc)
          · rintro ⟨i, hi, h1, h2⟩
            refine ⟨(i : Int), (rp.bit i).1 h1, ?_⟩
            simp only [bd]
            rw [Int.toNat_natCast, getD_at hi, Bool.or_eq_true, List.any_eq_true, List.any_eq_true]
            refine h2.symm.imp ?_ ?_
            · rintro ⟨x, h3, h4, h5⟩
              refine ⟨(x : Int), h5, ?_⟩
              rw [decide_eq_true_eq]
              intro hc
              rw [(rp.bit x).2 hc] at h4; cases h4
            · rintro ⟨x, h3, h4⟩
              exact ⟨(x : Int), h4, by rw [decide_eq_true_eq]; exact (rp.bit x).1 h3⟩)
        rw [hany]
        by_cases hb : badS l l.length (mask s)
        · rw [decide_eq_true hb, if_pos rfl, decide_eq_false (fun hg : goodM l q (mask s) => hg.1 hb)]; rfl
        · rw [decide_eq_false hb, if_neg (by simp), decide_eq_true (show goodM l q (mask s) from ⟨hb, hall⟩)]; rfl
      · rw [if_neg hall]
        dsimp only
        rw [decide_eq_false (fun hg : goodM l q (mask s) => hall hg.2)]
/-! ### trees -/
noncomputable def fol (l : List GOption) (p : Nat) (c : Int) : Nat → Nat → Nat → List GBranch → Option (List GBranch)
  | _, _, _, [] => none
  | 0, k, m, x :: t => if x.2 = bnd l p k m then if x.1 = 0 then if c ≤ x.2 then some t else none else none else none
  | r + 1, k, m, x :: t => if x.2 = bnd l p k m then if x.1 = 0 then if c ≤ x.2 then some t else none else if x.1 = 2 then (fol l p c r (k + 1) m t).bind (fun t' => fol l p c r (k + 1) (m ||| 2 ^ k) t') else none else none
theorem fol_nil {l : List GOption} {p r k m : Nat} {c : Int} : fol l p c r k m [] = none := by cases r <;> rfl
theorem fol_pre {l : List GOption} {p : Nat} {c : Int} : ∀ (r k m : Nat) (t t' : List GBranch), fol l p c r k m t = some t' → ∃ pre, pre ≠ [] ∧ t = pre ++ t' ∧ ∀ u, fol l p c r k m (pre ++ u) = some u
  | _, _, _, [], t', h => by rw [fol_nil] at h; cases h
  | 0, k, m, x :: t, t', h => by
    unfold fol at h
    split at h
    · rename_i h1
      split at h
      · rename_i h2
        split at h
        · rename_i h3
          injection h with h
          subst h
          refine ⟨[x], by simp, rfl, fun u => ?_⟩
          show fol l p c 0 k m (x :: u) = some u
          unfold fol
          rw [if_pos h1, if_pos h2, if_pos h3]
        · cases h
      · cases h
    · cases h
  | r + 1, k, m, x :: t, t', h => by
    unfold fol at h
    split at h
    · rename_i h1
      split at h
      · rename_i h2
        split at h
        · rename_i h3
          injection h with h
          subst h
          refine ⟨[x], by simp, rfl, fun u => ?_⟩
          show fol l p c (r + 1) k m (x :: u) = some u
          unfold fol
          rw [if_pos h1, if_pos h2, if_pos h3]
        · cases h
      · rename_i h2
        split at h
        · rename_i h3
          obtain ⟨t1, e1, e2⟩ := Option.bind_eq_some_iff.1 h
          obtain ⟨a, _, rfl, ha⟩ := fol_pre r (k + 1) m t t1 e1
          obtain ⟨b, _, rfl, hb⟩ := fol_pre r (k + 1) (m ||| 2 ^ k) t1 t' e2
          refine ⟨x :: (a ++ b), by simp, by simp, fun u => ?_⟩
          show fol l p c (r + 1) k m (x :: (a ++ b ++ u)) = some u
          unfold fol
          rw [if_pos h1, if_neg h2, if_pos h3, List.append_assoc, ha, bind_in, hb]
        · cases h
    · cases h
theorem idx_cons {α : Type} (x : α) (t : List α) : idx (x :: t) 0 = some x := by unfold idx; rfl
theorem cut_cons {α : Type} (x : α) (t : List α) : cut (x :: t) 1 (((x :: t).length : Nat) : Int) = some t := by
  unfold cut
  rw [if_pos (by simp; omega), show ((((x :: t).length : Nat) : Int)).toNat = (x :: t).length from rfl, List.take_length]; rfl
section
variable {l : List GOption} {p : Nat} (h : RT l p)
include h
theorem follow_eq (c : Int) : ∀ (r f k m : Nat) (b : Int) (t : List GBranch), r < f → k + r = l.length → m < 2 ^ k →
    ∃ t', recall_problem_follow.rec f (k : Int) (m : Int) ((2 ^ p - 1 : Nat) : Int) b c t (l.map conv) = some ((fol l p c r k m t).isSome, ((2 ^ p - 1 : Nat) : Int), b, c, t', l.map conv) ∧ ∀ u, fol l p c r k m t = some u → t' = u
  | r, 0, k, m, b, t, hf, _, _ => absurd hf (by omega)
  | r, f + 1, k, m, b, [], hf, hk, hm => by
    refine ⟨[], ?_, fun u hu => by rw [fol_nil] at hu; cases hu⟩
    unfold recall_problem_follow.rec recall_problem_follow.body
    rw [eqZ_eq, bif_dec, if_pos (by simp), fol_nil]; rfl
  | r, f + 1, k, m, b, x :: t, hf, hk, hm => by
    have hn := h.hn
    unfold recall_problem_follow.rec recall_problem_follow.body
    rw [eqZ_eq, bif_dec, if_neg (by simp; omega), idx_cons, bind_in, cut_cons, bind_in, bound2_eq, bound_eq h (by omega) (lt_pow_le hm (by omega)), bind_in, eqZ_eq, bif_not, bif_dec]
    by_cases h1 : x.2 = bnd l p k m
    · rw [if_pos h1, eqZ_eq, bif_dec]
      by_cases h2 : x.1 = 0
      · rw [if_pos h2, leZ_eq]
        have e : fol l p c r k m (x :: t) = if c ≤ x.2 then some t else none := by
          cases r <;> (unfold fol; rw [if_pos h1, if_pos h2])
        rw [e]
        by_cases h3 : c ≤ x.2
        · rw [if_pos h3, decide_eq_true h3]
          exact ⟨t, rfl, fun u hu => by injection hu⟩
        · rw [if_neg h3, decide_eq_false h3]
          exact ⟨t, rfl, fun u hu => by cases hu⟩
      · rw [if_neg h2, eqZ_eq, bif_not, bif_dec]
        by_cases h3 : x.1 = 2
        · rw [if_pos h3, bind_in, eqZ_eq, List.length_map]
          unfold recall_problem_follow.j1
          cases r with
          | zero =>
            rw [decide_eq_true (show (k : Int) = (l.length : Int) by omega)]
            have e : fol l p c 0 k m (x :: t) = none := by unfold fol; rw [if_pos h1, if_neg h2]
            rw [e]
            exact ⟨t, rfl, fun u hu => by cases hu⟩
          | succ r =>
            rw [decide_eq_false (show ¬ (k : Int) = (l.length : Int) by omega), cond_false]
            unfold recall_kids_v2
            have e : fol l p c (r + 1) k m (x :: t) = (fol l p c r (k + 1) m t).bind (fun t' => fol l p c r (k + 1) (m ||| 2 ^ k) t') := by
              rw [fol, if_pos h1, if_neg h2, if_pos h3]
            obtain ⟨t1, e1, hu1⟩ := follow_eq c r f (k + 1) m b t (by omega) (by omega) (lt_succ_pow hm)
            rw [z64_succ (by omega), bind_in, e1, bind_in, e]
            cases hv : fol l p c r (k + 1) m t with
            | none =>
              exact ⟨t1, rfl, fun u hu => by cases hu⟩
            | some w =>
              have := hu1 w hv
              subst this
              rw [bind_in]
              obtain ⟨t2, e2, hu2⟩ := follow_eq c r f (k + 1) (m ||| 2 ^ k) b t1 (by omega) (by omega) (or_bit_lt hm)
              refine ⟨t2, ?_, hu2⟩
              simp only [Option.isSome_some, cond_true, bind_in, shlZ_nat (show k < 64 by omega), orI_nat (w_lt_of (n := k) (by omega) hm) (two_lt (show k < 64 by omega)), e2]
        · rw [if_neg h3, bind_in]
          unfold recall_problem_follow.j1
          have e : fol l p c r k m (x :: t) = none := by
            cases r <;> (unfold fol; rw [if_pos h1, if_neg h2])
            rw [if_neg h3]
          rw [e]
          exact ⟨t, rfl, fun u hu => by cases hu⟩
    · rw [if_neg h1]
      have e : fol l p c r k m (x :: t) = none := by cases r <;> (unfold fol; rw [if_neg h1])
      rw [e]
      exact ⟨t, rfl, fun u hu => by cases hu⟩
end
/-- what Check returns -/
noncomputable def checkS (l : List GOption) (p : Int) (s : List Int) (t : List GBranch) : Int :=
  if goodB l p s = true then if fol l p.toNat (costW l s) l.length 0 0 t = some [] then 0 else 19 else 1
theorem Check_eq {l : List GOption} (hl : Lit l) (p : Int) {s : List Int} (hs : s.length ≤ 1000000) (t : List GBranch) : recall_Check l p s t = some (checkS l p s t) := by
  unfold recall_Check checkS
  rw [Good_eq hl p hs, bind_in]
  cases hg : goodB l p s with
  | false => rfl
  | true =>
    rw [bif_not, cond_true, if_pos rfl]
    have hr : rightB l p = true := by unfold goodB at hg; rw [Bool.and_eq_true] at hg; exact hg.1
    obtain ⟨q, rfl, h⟩ := rightB_iff.1 hr
    have hn := h.hn
    obtain ⟨t', e1, hu⟩ := follow_eq h (costW l s) l.length bigFuel.n 0 0 0 t (by show l.length < 1606938044258990275541962092341162602522202993782792835301376; omega) (by omega) (by decide)
    rw [load_eq h, bind_in, Cost_eq l s hs, bind_in]
    unfold recall_problem_follow
    have e1 : recall_problem_follow.rec Fuel.n 0 0 ((2 ^ q - 1 : Nat) : Int) 0 (costW l s) t (l.map conv) = _ := e1
    dsimp only
    rw [e1, bind_in, Int.toNat_natCast]
    cases hv : fol l q (costW l s) l.length 0 0 t with
    | none => rfl
    | some u =>
      rw [hu u hv]
      simp only [Option.isSome_some, Bool.not_true, cond_false, bind_in, ltZ_eq]
      unfold recall_Check.j1
      cases u with
      | nil => simp
      | cons x u => simp
end Go.Proofs.Ytonjhmnbcgchbaa
