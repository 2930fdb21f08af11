/-
  Layer 28 (prefer): PreferOrder.
-/
import Derived.Test.YtimiahoaafjmmaaP5
namespace Go.Proofs.Ytimiahoaafjmmaa
open Go.Lad
set_option linter.unusedVariables false
set_option linter.unusedSimpArgs false
set_option linter.unusedSectionVars false
theorem cmp_range (a b : List Bool) : ∀ w, cmpF w a b = 1 ∨ cmpF w a b = 0 ∨ cmpF w a b = -1
  | [] => .inr (.inl rfl)
  | x :: w => by
    unfold cmpF
    split
    · exact .inl rfl
    · split
      · exact .inr (.inr rfl)
      · exact cmp_range a b w
theorem cmp_neg (a b : List Bool) : ∀ w, cmpF w b a = -cmpF w a b
  | [] => rfl
  | x :: w => by
    have ih := cmp_neg a b w
    unfold cmpF
    cases hol a x <;> cases hol b x <;> simp [ih]
theorem cmp_self (a : List Bool) : ∀ w, cmpF w a a = 0
  | [] => rfl
  | x :: w => by
    have ih := cmp_self a w
    unfold cmpF
    cases hol a x <;> simp [ih]
/-- comparing is transitive -/
theorem cmp_trans (a b c : List Bool) : ∀ w, (0 ≤ cmpF w a b → 0 ≤ cmpF w b c → 0 ≤ cmpF w a c) ∧ (0 < cmpF w a b → 0 ≤ cmpF w b c → 0 < cmpF w a c) ∧ (cmpF w a b = 0 → cmpF w a c = cmpF w b c)
  | [] => by simp [cmpF]
  | x :: w => by
    have ih := cmp_trans a b c w
    unfold cmpF
    cases hol a x <;> cases hol b x <;> cases hol c x <;> simp [ih] <;> exact ih
theorem cmp_zero (a b : List Bool) : ∀ w, cmpF w a b = 0 ↔ ∀ x ∈ w, hol a x = hol b x
  | [] => by simp [cmpF]
  | x :: w => by
    have ih := cmp_zero a b w
    unfold cmpF
    cases ha : hol a x <;> cases hb : hol b x <;> simp [ih, ha, hb]
theorem cmp_app (a b : List Bool) (y : Int) : ∀ w, cmpF (w ++ [y]) a b = if cmpF w a b = 0 then (if hol a y = true then 1 else 0) - (if hol b y = true then 1 else 0) else cmpF w a b
  | [] => by
    simp only [List.nil_append, cmpF, if_true]
    cases hol a y <;> cases hol b y <;> simp
  | x :: w => by
    have ih := cmp_app a b y w
    rw [List.cons_append]
    unfold cmpF
    cases hol a x <;> cases hol b x <;> simp [ih]
theorem same_loop {w : List Int} {a b : List Bool} (hw : w.length ≤ 1000000) (ha : a.length ≤ 1000000) (hb : b.length ≤ 1000000) : loopF (fun x => ladinglaw28_PreferOrder.b1 w a b x.1 x.2) (true, 0) = some (w.all fun x => hol a x == hol b x) := by
  obtain ⟨r, h1, h2⟩ := loopF_inv (body := fun x => ladinglaw28_PreferOrder.b1 w a b x.1 x.2) (fun k x => x = ((w.take k).all (fun x => hol a x == hol b x), (k : Int))) (Q := fun r => r = w.all fun x => hol a x == hol b x) w.length (x := (true, 0)) (by simp)
    (fun k hk x hx => by
      subst hx
      refine .inl ⟨((w.take (k + 1)).all (fun x => hol a x == hol b x), ((k + 1 : Nat) : Int)), ?_, rfl⟩
      simp only [ladinglaw28_PreferOrder.b1, lt_n hk, cond_true]
      rw [take_snoc _ k hk, List.all_append]
      cases (w.take k).all (fun x => hol a x == hol b x) with
      | false => rw [cond_false, z64_nx hk (by omega), bind_in, Bool.false_and]
      | true => rw [cond_true, idx_nat hk, bind_in, rhold_eq ha, bind_in, bind_in, rhold_eq hb, bind_in, z64_nx hk (by omega), bind_in, Bool.true_and]; simp)
    (fun x hx => by
      subst hx
      refine ⟨_, ?_, rfl⟩
      simp only [ladinglaw28_PreferOrder.b1, lt_e, cond_false, List.take_length])
    (by omega)
  rw [h1, h2]
theorem order_true (w : List Int) (a b c : List Bool) (y : Int) : ladinglaw28_PreferOrder w a b c y = some true := by
  unfold ladinglaw28_PreferOrder
  rw [small_true, bind_in]
  simp only [ltZ_eq]
  by_cases h1 : 12 < w.length
  · rw [decide_eq_true (by omega), cond_true, bind_in]; simp only [ladinglaw28_PreferOrder.j5, cond_true]
  rw [decide_eq_false (by omega), cond_false]
  by_cases h2 : 20 < a.length
  · rw [decide_eq_true (by omega), cond_true, bind_in]; simp only [ladinglaw28_PreferOrder.j5, cond_true]
  rw [decide_eq_false (by omega), cond_false]
  by_cases h3 : 20 < b.length
  · rw [decide_eq_true (by omega), cond_true, bind_in]; simp only [ladinglaw28_PreferOrder.j5, cond_true]
  rw [decide_eq_false (by omega), cond_false, bind_in]
  by_cases h4 : 20 < c.length
  · rw [decide_eq_true (by omega)]; simp only [ladinglaw28_PreferOrder.j5, cond_true]
  rw [decide_eq_false (by omega)]
  unfold ladinglaw28_PreferOrder.j5
  rw [cond_false, cmp_eq (by omega) (by omega) (by omega), bind_in, cmp_eq (by omega) (by omega) (by omega), bind_in, cmp_eq (by omega) (by omega) (by omega), bind_in, cmp_eq (by omega) (by omega) (by omega), bind_in]
  have hab := cmp_range a b w
  have hbc := cmp_range b c w
  have hac := cmp_range a c w
  obtain ⟨t1, t2, t3⟩ := cmp_trans a b c w
  rw [z64_in (by omega) (by omega), bind_in, cmp_neg a b w, eqZ_eq, decide_eq_true rfl, Bool.not_true, cond_false, cmp_eq (by omega) (by omega) (by omega), bind_in, cmp_self, eqZ_eq, decide_eq_true rfl, Bool.not_true, cond_false]
  have key : (bif leZ 0 (cmpF w a b) then
          (bif leZ 0 (cmpF w b c) then
            (bif ltZ (cmpF w a c) 0 then some true
            else (bif ltZ 0 (cmpF w a b) then
                (bif leZ 0 (cmpF w b c) then (bif leZ (cmpF w a c) 0 then some true else (bif eqZ (cmpF w a b) 0 then some (!eqZ (cmpF w a c) (cmpF w b c)) else some false))
                else (bif eqZ (cmpF w a b) 0 then some (!eqZ (cmpF w a c) (cmpF w b c)) else some false))
              else (bif eqZ (cmpF w a b) 0 then some (!eqZ (cmpF w a c) (cmpF w b c)) else some false)))
          else (bif ltZ 0 (cmpF w a b) then
              (bif leZ 0 (cmpF w b c) then (bif leZ (cmpF w a c) 0 then some true else (bif eqZ (cmpF w a b) 0 then some (!eqZ (cmpF w a c) (cmpF w b c)) else some false))
              else (bif eqZ (cmpF w a b) 0 then some (!eqZ (cmpF w a c) (cmpF w b c)) else some false))
            else (bif eqZ (cmpF w a b) 0 then some (!eqZ (cmpF w a c) (cmpF w b c)) else some false)))
        else (bif ltZ 0 (cmpF w a b) then
            (bif leZ 0 (cmpF w b c) then (bif leZ (cmpF w a c) 0 then some true else (bif eqZ (cmpF w a b) 0 then some (!eqZ (cmpF w a c) (cmpF w b c)) else some false))
            else (bif eqZ (cmpF w a b) 0 then some (!eqZ (cmpF w a c) (cmpF w b c)) else some false))
          else (bif eqZ (cmpF w a b) 0 then some (!eqZ (cmpF w a c) (cmpF w b c)) else some false))) = some false := by
    generalize cmpF w a b = ab at *
    generalize cmpF w b c = bc at *
    generalize cmpF w a c = ac at *
    rcases hab with rfl | rfl | rfl <;> rcases hbc with rfl | rfl | rfl <;> rcases hac with rfl | rfl | rfl <;> first | rfl | (exfalso; omega)
  rw [key, bind_in]
  unfold ladinglaw28_PreferOrder.j4
  rw [cond_false, same_loop (by omega) (by omega) (by omega), bind_in]
  unfold ladinglaw28_PreferOrder.j3
  rw [app_in (by simp only [List.length_nil]; omega), bind_in, List.nil_append, app_in (by simp only [List.length_singleton]; omega), bind_in, cmp_eq (by simp only [List.length_append, List.length_singleton]; omega) (by omega) (by omega), bind_in, rhold_eq (by omega), bind_in, cmp_app]
  unfold ladinglaw28_PreferOrder.j2
  rw [rhold_eq (by omega)]
  have hz : (w.all fun x => hol a x == hol b x) = decide (cmpF w a b = 0) := by
    rw [Bool.eq_iff_iff, decide_eq_true_eq, cmp_zero, List.all_eq_true]
    exact ⟨fun h x hx => by simpa using h x hx, fun h x hx => by simpa using h x hx⟩
  rw [hz]
  generalize cmpF w a b = ab at *
  rcases hab with rfl | rfl | rfl <;> cases hol a y <;> cases hol b y <;> rfl
end Go.Proofs.Ytimiahoaafjmmaa
