/-
  Layer 28 (prefer): Check, of the code and of the reference, as one plain function.
-/
import Derived.Test.YtimiahoaafjmmaaP3
namespace Go.Proofs.Ytimiahoaafjmmaa
open Go.Lad
set_option linter.unusedVariables false
set_option linter.unusedSimpArgs false
set_option linter.unusedSectionVars false
def StepOK (C : List (List Int)) (w : List Int) (m T : List Bool) (P : List (List (List Int))) (k : Nat) : Prop :=
  T.getD k false = hol m (w.getD k 0) ∧ (T.getD k false = true → P.getD k [] = []) ∧ (T.getD k false = false → prfF (C ++ units (fixF w (T.take k) ++ [w.getD k 0])) (P.getD k []) = 0)
def CheckOK (l : List GClause) (n : Int) (w : List Int) (m T : List Bool) (P : List (List (List Int))) : Prop :=
  m.length = n ∧ holdsF l m = true ∧ T.length = w.length ∧ P.length = w.length ∧ ∀ k, k < w.length → StepOK (lits l) w m T P k
noncomputable def checkF (l : List GClause) (n : Int) (w : List Int) (m T : List Bool) (P : List (List (List Int))) : Int :=
  if rightW l n w = true then @ite _ (CheckOK l n w m T P) (Classical.propDecidable _) 0 19 else 1
noncomputable def allOK (p : Nat → Prop) (n : Nat) : Int := @ite _ (∀ k, k < n → p k) (Classical.propDecidable _) 0 19
theorem allOK_yes {p : Nat → Prop} {n : Nat} (h : ∀ k, k < n → p k) : allOK p n = 0 := by unfold allOK; rw [@if_pos _ (Classical.propDecidable _) h]
theorem allOK_no {p : Nat → Prop} {n k : Nat} (hk : k < n) (h : ¬ p k) : allOK p n = 19 := by unfold allOK; rw [@if_neg _ (Classical.propDecidable _) (fun hh => h (hh k hk))]
theorem checkF_yes {l : List GClause} {n : Int} {w : List Int} {m T : List Bool} {P : List (List (List Int))} (hr : rightW l n w = true) (h : CheckOK l n w m T P) : checkF l n w m T P = 0 := by
  unfold checkF; rw [if_pos hr, @if_pos _ (Classical.propDecidable _) h]
theorem checkF_no {l : List GClause} {n : Int} {w : List Int} {m T : List Bool} {P : List (List (List Int))} (hr : rightW l n w = true) (h : ¬ CheckOK l n w m T P) : checkF l n w m T P = 19 := by
  unfold checkF; rw [if_pos hr, @if_neg _ (Classical.propDecidable _) h]
theorem checkF_zero {l : List GClause} {n : Int} {w : List Int} {m T : List Bool} {P : List (List (List Int))} (h : checkF l n w m T P = 0) : rightW l n w = true ∧ CheckOK l n w m T P := by
  cases hr : rightW l n w with
  | false => unfold checkF at h; rw [hr, if_neg (by simp)] at h; cases h
  | true =>
    refine ⟨rfl, Classical.byContradiction fun hn => ?_⟩
    rw [checkF_no hr hn] at h; cases h
theorem getD_at {α : Type} {l : List α} {k : Nat} {d : α} (h : k < l.length) : l.getD k d = l[k] := by rw [List.getD_eq_getElem?_getD, List.getElem?_eq_getElem h]; rfl
/-! ### the bounds of what is asked of Proof -/
theorem units_map (l : List GClause) (s : List Int) (x : Int) : l ++ (units (s ++ [x])).map mk = (l ++ (units s).map mk) ++ [([x], 0, 0, 0)] := by
  unfold units
  rw [List.map_append, List.map_append, List.append_assoc]; rfl
theorem units_ok {l : List GClause} {s : List Int} (h1 : l.length ≤ 20000) (h2 : ∀ c ∈ l, c.1.length ≤ 1000000) (hs : s.length ≤ 10000) : Ok (lits (l ++ (units s).map mk)) ∧ (l ++ (units s).map mk).length ≤ 100000 := by
  have h3 : (l ++ (units s).map mk).length ≤ 30000 := by unfold units; simp only [List.length_append, List.length_map]; omega
  refine ⟨ok_of (by omega) fun c hm => ?_, by omega⟩
  rcases List.mem_append.1 hm with hm | hm
  · exact h2 c hm
  · obtain ⟨x, hx, rfl⟩ := List.mem_map.1 hm
    unfold units at hx
    obtain ⟨y, _, rfl⟩ := List.mem_map.1 hx
    simp
theorem units_lits (l : List GClause) (s : List Int) : lits (l ++ (units s).map mk) = lits l ++ units s := lits_app l (units s)
theorem units_len (l : List GClause) (s : List Int) : (l ++ (units s).map mk).length = l.length + s.length := by unfold units; simp
/-! ### the code's loop -/
theorem check_loop {l : List GClause} {n : Int} {w : List Int} {m T : List Bool} {P : List (List (List Int))} (h : Sized l) (hr : rightW l n w = true) (hm : m.length ≤ 1000000) (hT : T.length = w.length) (hP : P.length = w.length) (hc : ∀ L ∈ P, ∀ c ∈ L, c.length ≤ 1000000) :
    loopF (fun x => prefer_Check.b1 w m T P x.1 x.2) (0, l) = some (allOK (StepOK (lits l) w m T P) w.length) := by
  obtain ⟨hr1, hr2, hr3⟩ := rightW_iff.1 hr
  have hn := (rightF_iff.1 hr1).1
  have hb := badA_f.1 hr3
  obtain ⟨r, h1, h2⟩ := loopF_inv (body := fun x => prefer_Check.b1 w m T P x.1 x.2) (fun k x => x = ((k : Int), l ++ (units (fixF w (T.take k))).map mk) ∧ ∀ j, j < k → StepOK (lits l) w m T P j) (Q := fun r => r = allOK (StepOK (lits l) w m T P) w.length) w.length (x := (0, l))
    ⟨by rw [List.take_zero, fix_nil]; simp [units], fun j hj => by omega⟩
    (fun k hk x hx => by
      obtain ⟨rfl, hx⟩ := hx
      have hkT : k < T.length := by omega
      have hkP : k < P.length := by omega
      have hwk := hb _ (List.getElem_mem hk)
      have hfl := fix_len w (T.take k)
      have hstep : StepOK (lits l) w m T P k ↔ (T[k] = hol m w[k] ∧ (T[k] = true → P[k] = []) ∧ (T[k] = false → prfF (lits l ++ units (fixF w (T.take k) ++ [w[k]])) P[k] = 0)) := by
        unfold StepOK
        rw [getD_at hkT, getD_at hk, getD_at hkP]
      have hnext : StepOK (lits l) w m T P k → ∀ j, j < k + 1 → StepOK (lits l) w m T P j := fun hk j hj => by
        rcases Nat.lt_or_ge j k with h | h
        · exact hx j h
        · have : j = k := by omega
          rw [this]; exact hk
      have hfix := fix_take1 hk hkT
      simp only [prefer_Check.b1, lt_n hk, cond_true, idx_nat hk, bind_in, idx_nat hkT, pholds_eq hm]
      cases hTk : T[k] with
      | true =>
        cases hh : hol m w[k] with
        | false =>
          rw [show (!(true == false)) = true from rfl, cond_true, bind_in]
          unfold prefer_Check.j1
          rw [cond_true]
          exact .inr ⟨19, rfl, (allOK_no hk (fun hs => by have := (hstep.1 hs).1; rw [hTk, hh] at this; cases this)).symm⟩
        | true =>
          rw [show (!(true == true)) = false from rfl, cond_false, cond_true, idx_nat hkP, bind_in, bind_in, ltZ_eq]
          unfold prefer_Check.j1
          by_cases hp : P[k] = []
          · rw [hp, decide_eq_false (by simp), cond_false, idx_nat hkT, bind_in, hTk, cond_true, app_in (by rw [units_len]; simp only [List.length_singleton]; have := h.len; omega), bind_in, z64_nx hk (by omega), bind_in]
            refine .inl ⟨_, rfl, ?_, hnext (hstep.2 ⟨by rw [hTk, hh], fun _ => hp, fun e => by rw [hTk] at e; cases e⟩)⟩
            rw [hfix, units_map, hTk]; rfl
          · have := List.length_pos_iff.2 hp
            rw [decide_eq_true (by omega), cond_true]
            exact .inr ⟨19, rfl, (allOK_no hk (fun hs => hp ((hstep.1 hs).2.1 hTk))).symm⟩
      | false =>
        cases hh : hol m w[k] with
        | true =>
          rw [show (!(false == true)) = true from rfl, cond_true, bind_in]
          unfold prefer_Check.j1
          rw [cond_true]
          exact .inr ⟨19, rfl, (allOK_no hk (fun hs => by have := (hstep.1 hs).1; rw [hTk, hh] at this; cases this)).symm⟩
        | false =>
          rw [show (!(false == false)) = false from rfl, cond_false, cond_false, bind_in]
          unfold prefer_Check.j1
          have hlen : (l ++ (units (fixF w (T.take k))).map mk).length ≤ 1000000 := by rw [units_len]; have := h.len; omega
          have hcl : slices_Clone_api_Clause_api_Clause_v2 (l ++ (units (fixF w (T.take k))).map mk) = some (l ++ (units (fixF w (T.take k))).map mk) := (show slices_Clone_api_Clause_api_Clause_v2 _ = slices_Clone_api_Clause_api_Clause (l ++ (units (fixF w (T.take k))).map mk) from rfl).trans (cloneC_eq hlen)
          obtain ⟨u1, u2⟩ := units_ok (l := l) (s := fixF w (T.take k) ++ [w[k]]) hn.2.2 h.lits (by simp only [List.length_append, List.length_singleton]; omega)
          rw [cond_false, idx_nat hkT, bind_in, hTk, cond_false, hcl, bind_in, app_in (by simp only [List.length_singleton]; omega), bind_in, idx_nat hkP, bind_in, ← units_map, Proof_eq u1 u2 (hc _ (List.getElem_mem hkP)), bind_in, units_lits, bif_not, bif_eqZ]
          by_cases hp : prfF (lits l ++ units (fixF w (T.take k) ++ [w[k]])) P[k] = 0
          · rw [if_pos hp, z64_in (by omega) (by omega), bind_in, app_in (by simp only [List.length_singleton]; omega), bind_in, z64_nx hk (by omega), bind_in]
            refine .inl ⟨_, rfl, ?_, hnext (hstep.2 ⟨by rw [hTk, hh], (fun e => by rw [hTk] at e; cases e), fun _ => hp⟩)⟩
            rw [hfix, units_map, hTk]; rfl
          · rw [if_neg hp]
            exact .inr ⟨19, rfl, (allOK_no hk (fun hs => hp ((hstep.1 hs).2.2 hTk))).symm⟩)
    (fun x hx => by
      obtain ⟨rfl, hx⟩ := hx
      exact ⟨0, by simp only [prefer_Check.b1, lt_e, cond_false], (allOK_yes hx).symm⟩)
    (by omega)
  rw [h1, h2]
/-! ### the reference's loop -/
theorem rcheck_loop {l : List GClause} {n : Int} {w : List Int} {m T : List Bool} {P : List (List (List Int))} (h : Sized l) (hr : rightW l n w = true) (hm : m.length ≤ 1000000) (hT : T.length = w.length) (hP : P.length = w.length) (hc : ∀ L ∈ P, ∀ c ∈ L, c.length ≤ 1000000) :
    loopF (fun x => ladingref28_Check.b2 l w m T P x) 0 = some (allOK (StepOK (lits l) w m T P) w.length) := by
  obtain ⟨hr1, hr2, hr3⟩ := rightW_iff.1 hr
  have hn := (rightF_iff.1 hr1).1
  have hb := badA_f.1 hr3
  have hb2 : ∀ x ∈ w, -2000 ≤ x ∧ x ≤ 2000 := fun x hx => by have := hb x hx; omega
  obtain ⟨r, h1, h2⟩ := loopF_inv (body := fun x => ladingref28_Check.b2 l w m T P x) (fun k x => x = (k : Int) ∧ ∀ j, j < k → StepOK (lits l) w m T P j) (Q := fun r => r = allOK (StepOK (lits l) w m T P) w.length) w.length (x := 0)
    ⟨rfl, fun j hj => by omega⟩
    (fun k hk x hx => by
      obtain ⟨rfl, hx⟩ := hx
      have hkT : k < T.length := by omega
      have hkP : k < P.length := by omega
      have hfl := fix_len w (T.take k)
      have hstep : StepOK (lits l) w m T P k ↔ (T[k] = hol m w[k] ∧ (T[k] = true → P[k] = []) ∧ (T[k] = false → prfF (lits l ++ units (fixF w (T.take k) ++ [w[k]])) P[k] = 0)) := by
        unfold StepOK
        rw [getD_at hkT, getD_at hk, getD_at hkP]
      have hnext : StepOK (lits l) w m T P k → ∀ j, j < k + 1 → StepOK (lits l) w m T P j := fun hk j hj => by
        rcases Nat.lt_or_ge j k with h | h
        · exact hx j h
        · have : j = k := by omega
          rw [this]; exact hk
      simp only [ladingref28_Check.b2, lt_n hk, cond_true, idx_nat hk, bind_in, idx_nat hkT, rhold_eq hm]
      cases hTk : T[k] with
      | true =>
        cases hh : hol m w[k] with
        | false =>
          rw [show (!(true == false)) = true from rfl, cond_true]
          exact .inr ⟨19, rfl, (allOK_no hk (fun hs => by have := (hstep.1 hs).1; rw [hTk, hh] at this; cases this)).symm⟩
        | true =>
          rw [show (!(true == true)) = false from rfl, cond_false, idx_nat hkP, bind_in, ltZ_eq]
          by_cases hp : P[k] = []
          · rw [hp, decide_eq_false (by simp), cond_false, z64_nx hk (by omega), bind_in]
            exact .inl ⟨_, rfl, rfl, hnext (hstep.2 ⟨by rw [hTk, hh], fun _ => hp, fun e => by rw [hTk] at e; cases e⟩)⟩
          · have := List.length_pos_iff.2 hp
            rw [decide_eq_true (by omega), cond_true]
            exact .inr ⟨19, rfl, (allOK_no hk (fun hs => hp ((hstep.1 hs).2.1 hTk))).symm⟩
      | false =>
        cases hh : hol m w[k] with
        | true =>
          rw [show (!(false == true)) = true from rfl, cond_true]
          exact .inr ⟨19, rfl, (allOK_no hk (fun hs => by have := (hstep.1 hs).1; rw [hTk, hh] at this; cases this)).symm⟩
        | false =>
          rw [show (!(false == false)) = false from rfl, cond_false, cond_false]
          obtain ⟨u1, u2⟩ := units_ok (l := l) (s := fixF w (T.take k) ++ [w[k]]) hn.2.2 h.lits (by simp only [List.length_append, List.length_singleton]; omega)
          have hsl : (fixF w (T.take k) ++ [w[k]]).length ≤ 10000 := by simp only [List.length_append, List.length_singleton]; omega
          have key : loopF (fun x => ladingref28_Check.b1 (fixF w (T.take k) ++ [w[k]]) x.1 x.2) (0, l) = some (l ++ (units (fixF w (T.take k) ++ [w[k]])).map mk) := by
            generalize fixF w (T.take k) ++ [w[k]] = s at hsl
            refine loopF_at (body := fun x => ladingref28_Check.b1 s x.1 x.2) (fun j => ((j : Int), l ++ (units (s.take j)).map mk)) s.length (by simp [units]) (fun j hj => ?_) ?_ (by omega)
            · simp only [ladingref28_Check.b1, lt_n hj, cond_true, idx_nat hj, bind_in]
              rw [app_in (by rw [units_len, List.length_take]; simp only [List.length_singleton]; have := h.len; omega), bind_in, z64_nx hj (by omega), bind_in, take_snoc s j hj, units_map]
            · simp only [ladingref28_Check.b1, lt_e, cond_false, List.take_length]
          rw [app_in (by simp only [List.length_nil]; have := h.len; omega), bind_in, List.nil_append, fixed_eq (by omega) (by omega) (by omega) hb2, bind_in, app_in (by simp only [List.length_singleton]; omega), bind_in, key, bind_in]
          unfold ladingref28_Check.j1
          rw [idx_nat hkP, bind_in, rProof_eq u1 u2 (hc _ (List.getElem_mem hkP)), bind_in, units_lits, bif_not, bif_eqZ]
          by_cases hp : prfF (lits l ++ units (fixF w (T.take k) ++ [w[k]])) P[k] = 0
          · rw [if_pos hp, z64_nx hk (by omega), bind_in]
            exact .inl ⟨_, rfl, rfl, hnext (hstep.2 ⟨by rw [hTk, hh], (fun e => by rw [hTk] at e; cases e), fun _ => hp⟩)⟩
          · rw [if_neg hp]
            exact .inr ⟨19, rfl, (allOK_no hk (fun hs => hp ((hstep.1 hs).2.2 hTk))).symm⟩)
    (fun x hx => by
      obtain ⟨rfl, hx⟩ := hx
      exact ⟨0, by simp only [ladingref28_Check.b2, lt_e, cond_false], (allOK_yes hx).symm⟩)
    (by omega)
  rw [h1, h2]
theorem checkF_all {l : List GClause} {n : Int} {w : List Int} {m T : List Bool} {P : List (List (List Int))} (hr : rightW l n w = true) (h1 : m.length = n) (h2 : holdsF l m = true) (h3 : T.length = w.length) (h4 : P.length = w.length) : allOK (StepOK (lits l) w m T P) w.length = checkF l n w m T P := by
  by_cases h : ∀ k, k < w.length → StepOK (lits l) w m T P k
  · rw [allOK_yes h, checkF_yes hr ⟨h1, h2, h3, h4, h⟩]
  · rw [checkF_no hr fun hh => h hh.2.2.2.2]
    unfold allOK
    rw [@if_neg _ (Classical.propDecidable _) h]
theorem check_eq {l : List GClause} {n : Int} {w : List Int} {m T : List Bool} {P : List (List (List Int))} (h : Sized l) (hw : w.length ≤ 1000000) (hm : m.length ≤ 1000000) (hc : ∀ L ∈ P, ∀ c ∈ L, c.length ≤ 1000000) : prefer_Check l n w m T P = some (checkF l n w m T P) := by
  have hok := ok_of (l := l) (by have := h.len; omega) h.lits
  unfold prefer_Check
  rw [pright_eq hok hw, bind_in]
  cases hr : rightW l n w with
  | false => rw [Bool.not_false, cond_true]; unfold checkF; rw [hr, if_neg (by simp)]
  | true =>
    rw [Bool.not_true, cond_false, bif_not, bif_eqZ]
    by_cases h1 : (m.length : Int) = n
    · rw [if_pos h1, holds_eq hok, bind_in]
      cases h2 : holdsF l m with
      | false =>
        rw [Bool.not_false, cond_true, bind_in]
        simp only [prefer_Check.j2, cond_true]
        rw [checkF_no hr fun hh => by have := hh.2.1; rw [h2] at this; cases this]
      | true =>
        rw [Bool.not_true, cond_false, bif_not, bif_eqZ]
        by_cases h3 : T.length = w.length
        · rw [if_pos (by omega), bind_in, eqZ_eq]
          by_cases h4 : P.length = w.length
          · rw [decide_eq_true (by omega), Bool.not_true]
            unfold prefer_Check.j2
            rw [cond_false, cloneC_eq (by have := h.len; omega), bind_in, check_loop h hr hm h3 h4 hc, checkF_all hr h1 h2 h3 h4]
          · rw [decide_eq_false (by omega), Bool.not_false]
            simp only [prefer_Check.j2, cond_true]
            rw [checkF_no hr fun hh => h4 hh.2.2.2.1]
        · rw [if_neg (by omega), bind_in]
          simp only [prefer_Check.j2, cond_true]
          rw [checkF_no hr fun hh => h3 hh.2.2.1]
    · rw [if_neg h1, bind_in]
      simp only [prefer_Check.j2, cond_true]
      rw [checkF_no hr fun hh => h1 hh.1]
theorem rcheck_eq {l : List GClause} {n : Int} {w : List Int} {m T : List Bool} {P : List (List (List Int))} (h : Sized l) (hw : w.length ≤ 1000000) (hm : m.length ≤ 1000000) (hc : ∀ L ∈ P, ∀ c ∈ L, c.length ≤ 1000000) : ladingref28_Check l n w m T P = some (checkF l n w m T P) := by
  have hok := ok_of (l := l) (by have := h.len; omega) h.lits
  unfold ladingref28_Check
  rw [rright28_eq hok hw, bind_in]
  cases hr : rightW l n w with
  | false => rw [Bool.not_false, cond_true]; unfold checkF; rw [hr, if_neg (by simp)]
  | true =>
    rw [Bool.not_true, cond_false, bif_not, bif_eqZ]
    by_cases h1 : (m.length : Int) = n
    · rw [if_pos h1, bif_not, bif_eqZ]
      by_cases h3 : T.length = w.length
      · rw [if_pos (by omega), bif_not, bif_eqZ]
        by_cases h4 : P.length = w.length
        · rw [if_pos (by omega), rholds_eq hok, bind_in, bind_in]
          cases h2 : holdsF l m with
          | false =>
            rw [Bool.not_false]
            simp only [ladingref28_Check.j2, cond_true]
            rw [checkF_no hr fun hh => by have := hh.2.1; rw [h2] at this; cases this]
          | true =>
            rw [Bool.not_true]
            unfold ladingref28_Check.j2
            rw [cond_false, rcheck_loop h hr hm h3 h4 hc, checkF_all hr h1 h2 h3 h4]
        · rw [if_neg (by omega), bind_in]
          simp only [ladingref28_Check.j2, cond_true]
          rw [checkF_no hr fun hh => h4 hh.2.2.2.1]
      · rw [if_neg (by omega), bind_in]
        simp only [ladingref28_Check.j2, cond_true]
        rw [checkF_no hr fun hh => h3 hh.2.2.1]
    · rw [if_neg h1, bind_in]
      simp only [ladingref28_Check.j2, cond_true]
      rw [checkF_no hr fun hh => h1 hh.1]
/-! ### what is accepted, and what Best returns -/
theorem best_ok {l : List GClause} {n : Nat} {w : List Int} {m T : List Bool} {P : List (List (List Int))} (hn : n ≤ 2000) (hr : rightW l (n : Int) w = true) (ht : Took (lits l) n w T P) (hl : T.length = w.length) (hm : Sat (lits l) n (fixF w T) m) : CheckOK l n w m T P := by
  have hw := small_of hn (rightW_iff.1 hr).2.2
  have hh := Took.hol ht.len hw hm
  refine ⟨by rw [hm.1], holds_iff.2 hm.2.1, hl, by rw [ht.plen, hl], fun k hk => ?_⟩
  have hkT : k < T.length := by omega
  unfold StepOK
  rw [getD_at hkT, getD_at hk]
  refine ⟨(hh k hkT).symm, fun e => (ht.yes k hkT e).1, fun e => ?_⟩
  obtain ⟨_, h2, h3⟩ := ht.no k hkT e
  exact prfF_yes h3 h2
/-- what is accepted is best -/
theorem check_best {l : List GClause} {n : Nat} {w : List Int} {m m' T : List Bool} {P : List (List (List Int))} (hn : n ≤ 2000) (hr : rightW l (n : Int) w = true) (h : CheckOK l n w m T P) (hm' : Sat (lits l) n [] m') : cmpF w m' m ≤ 0 := by
  have hw := small_of hn (rightW_iff.1 hr).2.2
  refine Classical.byContradiction fun hc => ?_
  obtain ⟨k, hk, h1, h2, h3⟩ := cmp_pos (show 0 < cmpF w m' m by omega)
  obtain ⟨g1, g2, g3, g4, g5⟩ := h
  have hst : ∀ j (hj : j < w.length), T[j]'(by omega) = hol m w[j] := fun j hj => by
    have := (g5 j hj).1
    rwa [getD_at (show j < T.length by omega), getD_at hj] at this
  have hk5 := g5 k hk
  unfold StepOK at hk5
  rw [getD_at (show k < T.length by omega), getD_at hk] at hk5
  have hf : T[k]'(by omega) = false := by rw [hst k hk]; exact h2
  have hp := hk5.2.2 hf
  have hPrf : PrfOK (lits l ++ units (fixF w (T.take k) ++ [w[k]])) (P.getD k []) := Classical.byContradiction fun hno => by
    unfold prfF at hp
    split at hp
    · cases hp
    · rw [if_neg (by rw [@decide_eq_true_iff _ (Classical.propDecidable _)]; exact hno)] at hp
      cases hp
  refine prf_no2 (m := m') (by rw [hm'.1]; exact hn) hPrf fun c hc => ?_
  rcases List.mem_append.1 hc with hc | hc
  · exact hm'.2.1 c hc
  · unfold units at hc
    obtain ⟨y, hy, rfl⟩ := List.mem_map.1 hc
    refine ⟨y, by simp, ?_⟩
    rcases List.mem_append.1 hy with hy | hy
    · refine (fix_tru hw hm'.1 (by rw [List.length_take]; omega)).2 (fun j hj => ?_) y hy
      rw [List.length_take] at hj
      rw [List.getElem_take, hst j (by omega)]
      exact h3 j (by omega)
    · rw [List.mem_singleton.1 hy, ← hol_tru (hw _ (List.getElem_mem hk)).1]; exact h1
end Go.Proofs.Ytimiahoaafjmmaa
