/-
  Layer 28 (prefer): Solve's other instance; what holds in a model; comparing; the law's bounds.
-/
import Derived.Test.YtimiahoaafjmmaaC5
namespace Go.Proofs.Ytimiahoaafjmmaa
open Go.Lad
set_option linter.unusedVariables false
set_option linter.unusedSimpArgs false
set_option linter.unusedSectionVars false
/-! ### Solve's other instance -/
theorem loopF_map {α β γ : Type} [Fuel] (g : β → γ) {b1 : α → Option (α ⊕ β)} {b2 : α → Option (α ⊕ γ)} (h : ∀ x, b2 x = (b1 x).map (Sum.map id g)) (x : α) : loopF b2 x = (loopF b1 x).map g := by
  unfold loopF
  generalize Fuel.n = n
  induction n generalizing x with
  | zero => rfl
  | succ n ih =>
    unfold iterM
    rw [h]
    cases b1 x with
    | none => rfl
    | some y => cases y with
      | inl y => exact ih y
      | inr y => rfl
def perm (r : Res) : List (List Int) × Int × List Bool := (r.2.1, r.2.2, r.1)
theorem v2_j1 (a : List GClause) (b : List (List Int)) (c d : List Int) : solve_Solve_v2.j1 a b c d = (solve_Solve.j1 a b c d).map (Sum.map id (Sum.map id perm)) := by
  unfold solve_Solve_v2.j1 solve_Solve.j1
  cases app? b [d] with
  | none => rfl
  | some l =>
    rw [bind_in, bind_in]
    cases app? a [(d, 0, 0, 0)] with
    | none => rfl
    | some m =>
      rw [bind_in, bind_in]
      cases eqZ (c.length : Int) 0 with
      | true => rfl
      | false =>
        rw [cond_false, cond_false]
        cases z64 ((c.length : Int) - 1) with
        | none => rfl
        | some v =>
          rw [bind_in, bind_in]
          cases cut c 0 v with
          | none => rfl
          | some e => rfl
theorem v2_b2 (p : Int) (q : Bool × List Int) (a : Int) (b : List Bool) : solve_Solve_v2.b2 p q a b = (solve_Solve.b2 p q a b).map (Sum.map id (Sum.map id perm)) := by
  unfold solve_Solve_v2.b2 solve_Solve.b2
  cases ltZ a p with
  | false => rfl
  | true =>
    rw [cond_true, cond_true]
    cases z64 (a + 1) with
    | none => rfl
    | some v =>
      rw [bind_in, bind_in]
      cases slices_BinarySearch_int_int q.2 v with
      | none => rfl
      | some i =>
        rw [bind_in, bind_in]
        cases idx b a with
        | none => rfl
        | some x => rfl
theorem v2_j2 (p : Int) (q : Bool × List Int) (a : List GClause) (b : List (List Int)) (c : List Int) : solve_Solve_v2.j2 p q a b c = (solve_Solve.j2 p q a b c).map (Sum.map id perm) := by
  unfold solve_Solve_v2.j2 solve_Solve.j2
  cases solve_open q.2 p with
  | none => rfl
  | some o =>
    rw [bind_in, bind_in]
    cases ltZ o p with
    | true =>
      rw [cond_true, cond_true]
      cases z64 (-o) with
      | none => rfl
      | some v =>
        rw [bind_in, bind_in]
        cases z64 (v - 1) with
        | none => rfl
        | some w =>
          rw [bind_in, bind_in]
          cases app? c [w] with
          | none => rfl
          | some l => rfl
    | false =>
      rw [cond_false, cond_false]
      cases msNeed p p with
      | none => rfl
      | some u =>
        rw [bind_in, bind_in]
        exact loopF_map (Sum.map id perm) (fun x => v2_b2 p q x.1 x.2) _
theorem v2_b3 (p : Int) (s : List Int) (a : List GClause) (b : List (List Int)) (c : List Int) : solve_Solve_v2.b3 p s a b c = (solve_Solve.b3 p s a b c).map (Sum.map id perm) := by
  unfold solve_Solve_v2.b3 solve_Solve.b3
  cases slices_Concat_int_int [s, c] with
  | none => rfl
  | some i =>
    rw [bind_in, bind_in]
    cases clause_Propagate a i with
    | none => rfl
    | some q =>
      rw [bind_in, bind_in]
      cases q.1 with
      | true =>
        rw [Bool.not_true, cond_false, cond_false, bind_in, bind_in]
        exact v2_j2 p q a b c
      | false =>
        rw [Bool.not_false, cond_true, cond_true]
        cases eqZ (b.length : Int) 4000 with
        | true => rfl
        | false =>
          rw [cond_false, cond_false, show (fun x : Int × List Int => solve_Solve_v2.b1 c x.1 x.2) = (fun x => solve_Solve.b1 c x.1 x.2) from rfl]
          cases loopF (fun x : Int × List Int => solve_Solve.b1 c x.1 x.2) (0, []) with
          | none => rfl
          | some l =>
            rw [bind_in, bind_in, v2_j1]
            cases solve_Solve.j1 a b c l with
            | none => rfl
            | some y => cases y with
              | inl y => exact v2_j2 p q y.1 y.2.1 y.2.2
              | inr y => rfl
theorem solve_v2 (l : List GClause) (n : Int) (s : List Int) : solve_Solve_v2 l n s = (solve_Solve l n s).map perm := by
  unfold solve_Solve_v2 solve_Solve
  cases ((clause_Right l n).bind fun r4 => bif (!r4) then some true else ((slices_ContainsFunc_int_int_v3 s n).bind fun v5 => some v5)) with
  | none => rfl
  | some b =>
    rw [bind_in, bind_in]
    unfold solve_Solve_v2.j3 solve_Solve.j3
    cases b with
    | true => rfl
    | false =>
      rw [cond_false, cond_false]
      cases slices_Clone_api_Clause_api_Clause l with
      | none => rfl
      | some c =>
        rw [bind_in, bind_in]
        exact loopF_map perm (fun x => v2_b3 n s x.1 x.2.1 x.2.2) _
/-! ### what holds in a model -/
def hol (m : List Bool) (x : Int) : Bool := decide (x ≠ 0 ∧ m[x.natAbs - 1]? = some (decide (0 < x)))
theorem hol_tru {m : List Bool} {x : Int} (h : Lit x) : hol m x = tru m x := by
  unfold hol tru
  rw [decide_eq_decide]
  exact ⟨fun g => ⟨h, g.2⟩, fun g => ⟨h.1, g.2⟩⟩
theorem pholds_eq {m : List Bool} {x : Int} (hm : m.length ≤ 1000000) : prefer_holds m x = some (hol m x) := by
  unfold prefer_holds hol
  rw [bif_ltZ]
  by_cases h0 : 0 < x
  · rw [if_pos h0, bind_in, leZ_eq]
    unfold prefer_holds.j2
    rw [bif_dec]
    by_cases h1 : x ≤ (m.length : Int)
    · have hk : (x - 1).toNat < m.length := by omega
      rw [if_pos h1, z64_in (by omega) (by omega), bind_in, idx_int (by omega) hk, bind_in, show x.natAbs - 1 = (x - 1).toNat by omega, List.getElem?_eq_getElem hk, decide_eq_true h0]
      congr 1
      cases hb : m[(x - 1).toNat] with
      | true => exact (decide_eq_true ⟨by omega, rfl⟩).symm
      | false => exact (decide_eq_false (fun h => by have := h.2; simp at this)).symm
    · rw [if_neg h1, bif_ltZ, if_neg (by omega), bind_in]
      unfold prefer_holds.j1
      rw [cond_false, List.getElem?_eq_none (by omega), decide_eq_false (fun h => by have := h.2; simp at this)]
  · rw [if_neg h0, bind_in]
    unfold prefer_holds.j2
    rw [cond_false, bif_ltZ]
    by_cases h1 : x < 0
    · rw [if_pos h1, z64_in (by omega) (by omega), bind_in, leZ_eq, bind_in]
      unfold prefer_holds.j1
      rw [bif_dec]
      by_cases h2 : -(m.length : Int) ≤ x
      · have hk : (-x - 1).toNat < m.length := by omega
        rw [if_pos h2, z64_in (by omega) (by omega), bind_in, z64_in (by omega) (by omega), bind_in, idx_int (by omega) hk, bind_in, show x.natAbs - 1 = (-x - 1).toNat by omega, List.getElem?_eq_getElem hk, decide_eq_false h0]
        congr 1
        cases hb : m[(-x - 1).toNat] with
        | true => exact (decide_eq_false (fun h => by have := h.2; simp at this)).symm
        | false => exact (decide_eq_true ⟨by omega, rfl⟩).symm
      · rw [if_neg h2, List.getElem?_eq_none (by omega), decide_eq_false (fun h => by have := h.2; simp at this)]
    · rw [if_neg h1, bind_in]
      unfold prefer_holds.j1
      rw [cond_false, decide_eq_false (fun h => h.1 (by omega))]
theorem rhold_eq {m : List Bool} {x : Int} (hm : m.length ≤ 1000000) : ladingref28_Holds m x = some (hol m x) := (show ladingref28_Holds m x = prefer_holds m x from rfl).trans (pholds_eq hm)
/-! ### comparing -/
def cmpF : List Int → List Bool → List Bool → Int
  | [], _, _ => 0
  | x :: w, a, b => if hol a x = true ∧ hol b x = false then 1 else if hol b x = true ∧ hol a x = false then -1 else cmpF w a b
theorem cmp_scan (a b : List Bool) : ∀ (w : List Int) (k : Nat), (scan (fun _ x => if hol a x = true ∧ hol b x = false then some 1 else if hol b x = true ∧ hol a x = false then some (-1) else none) k w).getD (0 : Int) = cmpF w a b
  | [], _ => rfl
  | x :: w, k => by
    unfold scan cmpF
    by_cases h1 : hol a x = true ∧ hol b x = false
    · simp only [if_pos h1]; rfl
    · by_cases h2 : hol b x = true ∧ hol a x = false
      · simp only [if_neg h1, if_pos h2]; rfl
      · simp only [if_neg h1, if_neg h2]; exact cmp_scan a b w (k + 1)
theorem cmp_eq {w : List Int} {a b : List Bool} (hw : w.length ≤ 1000000) (ha : a.length ≤ 1000000) (hb : b.length ≤ 1000000) : prefer_Compare w a b = some (cmpF w a b) := by
  unfold prefer_Compare
  refine (loop_scan w (fun _ x => if hol a x = true ∧ hol b x = false then some 1 else if hol b x = true ∧ hol a x = false then some (-1) else none) 0 (fun k hk => ?_) ?_ (by omega)).trans (congrArg some (cmp_scan a b w 0))
  · simp only [prefer_Compare.b1, lt_n hk, cond_true, idx_nat hk, bind_in, pholds_eq ha, pholds_eq hb]
    cases hol a w[k] <;> cases hol b w[k] <;> simp only [cond_true, cond_false, Bool.not_true, Bool.not_false, bind_in, prefer_Compare.j2, prefer_Compare.j1, z64_nx hk (by omega)] <;> rfl
  · simp only [prefer_Compare.b1, lt_e, cond_false]
theorem rcmp_eq {w : List Int} {a b : List Bool} (hw : w.length ≤ 1000000) (ha : a.length ≤ 1000000) (hb : b.length ≤ 1000000) : ladingref28_Compare w a b = some (cmpF w a b) := by
  unfold ladingref28_Compare
  refine (loop_scan w (fun _ x => if hol a x = true ∧ hol b x = false then some 1 else if hol b x = true ∧ hol a x = false then some (-1) else none) 0 (fun k hk => ?_) ?_ (by omega)).trans (congrArg some (cmp_scan a b w 0))
  · simp only [ladingref28_Compare.b1, lt_n hk, cond_true, idx_nat hk, bind_in, rhold_eq ha, rhold_eq hb]
    cases hol a w[k] <;> cases hol b w[k] <;> simp only [cond_true, cond_false, Bool.not_true, Bool.not_false, bind_in, ladingref28_Compare.j2, ladingref28_Compare.j1, z64_nx hk (by omega)] <;> rfl
  · simp only [ladingref28_Compare.b1, lt_e, cond_false]
theorem cmp_pos {a b : List Bool} : ∀ {w : List Int}, 0 < cmpF w a b → ∃ k, ∃ hk : k < w.length, hol a w[k] = true ∧ hol b w[k] = false ∧ ∀ j (hj : j < k), hol a (w[j]'(by omega)) = hol b (w[j]'(by omega))
  | [], h => by simp [cmpF] at h
  | x :: w, h => by
    unfold cmpF at h
    split at h
    · rename_i h1; exact ⟨0, by simp, h1.1, h1.2, fun j hj => by omega⟩
    · rename_i h1
      split at h
      · omega
      · rename_i h2
        obtain ⟨k, hk, h3, h4, h5⟩ := cmp_pos h
        refine ⟨k + 1, by simpa using hk, by simpa using h3, by simpa using h4, fun j hj => ?_⟩
        cases j with
        | zero =>
          simp only [List.getElem_cons_zero]
          cases ha : hol a x <;> cases hb : hol b x <;> simp_all
        | succ j => simpa using h5 j (by omega)
/-! ### the law's bounds -/
theorem few_eq {l : List GClause} {n : Int} {s : List Int} : ∃ b, ladingref28_Few l n s = some b ∧ (b = true → l.length ≤ 20 ∧ (∀ c ∈ l, c.1.length ≤ 6) ∧ n ≤ 10 ∧ s.length ≤ 12) := by
  unfold ladingref28_Few
  have hfin : ∀ k : Nat, ¬ (k < l.length ∧ k < 21) → ladingref28_Few.b1 l n s (k : Int) = some (.inr (decide (l.length ≤ 20 ∧ n ≤ 10 ∧ s.length ≤ 12))) := fun k hk => by
    have h0 : (bif ltZ (k : Int) (l.length : Int) then some (ltZ (k : Int) 21) else some false) = some false := by
      rw [bif_ltZ]
      by_cases h : (k : Int) < (l.length : Int)
      · rw [if_pos h, ltZ_eq, decide_eq_false (by omega)]
      · rw [if_neg h]
    unfold ladingref28_Few.b1
    rw [h0, bind_in]
    unfold ladingref28_Few.j1
    rw [cond_false]
    simp only [leZ_eq, bif_dec]
    by_cases h1 : (l.length : Int) ≤ 20
    · rw [if_pos h1]
      by_cases h2 : n ≤ 10
      · rw [if_pos h2, Option.map_some]
        congr 2
        rw [decide_eq_decide]
        exact ⟨fun h => ⟨by omega, h2, by omega⟩, fun h => by omega⟩
      · rw [if_neg h2, decide_eq_false (by omega)]; rfl
    · rw [if_neg h1, decide_eq_false (by omega)]; rfl
  refine loopF_inv (fun k x => x = (k : Int) ∧ k ≤ l.length ∧ ∀ j (hj : j < l.length), j < k → l[j].1.length ≤ 6) 21 ⟨rfl, Nat.zero_le _, fun j _ hj => by omega⟩ (fun k hk x hx => ?_) (fun x hx => ?_) (by omega)
  · obtain ⟨rfl, h3, h4⟩ := hx
    by_cases hkl : k < l.length
    · have h0 : (bif ltZ (k : Int) (l.length : Int) then some (ltZ (k : Int) 21) else some false) = some true := by
        rw [lt_n hkl, cond_true, ltZ_eq, decide_eq_true (by omega)]
      unfold ladingref28_Few.b1
      rw [h0, bind_in]
      unfold ladingref28_Few.j1
      rw [cond_true, idx_nat hkl, bind_in, bif_ltZ]
      by_cases h8 : 6 < l[k].1.length
      · rw [if_pos (by omega)]
        exact .inr ⟨_, rfl, fun h => by cases h⟩
      · rw [if_neg (by omega), z64_succ (by omega), bind_in]
        refine .inl ⟨_, rfl, rfl, hkl, fun j hj hjk => ?_⟩
        rcases Nat.lt_or_ge j k with h | h
        · exact h4 j hj h
        · have : j = k := by omega
          subst this; omega
    · rw [hfin k (by omega)]
      refine .inr ⟨_, rfl, fun h => ?_⟩
      have h := of_decide_eq_true h
      refine ⟨h.1, fun c hc => ?_, h.2⟩
      obtain ⟨j, hj, rfl⟩ := List.mem_iff_getElem.1 hc
      exact h4 j hj (by omega)
  · obtain ⟨rfl, h3, h4⟩ := hx
    rw [hfin 21 (by omega)]
    refine ⟨_, rfl, fun h => ?_⟩
    have h := of_decide_eq_true h
    omega
theorem light1 {p : List (List (List Int))} {k : Nat} (hk : k < p.length) (hk2 : k ≤ 20) (h30 : p[k].length ≤ 30) :
    loopF (fun x => ladinglaw28_light.b1 p (k : Int) x) 0 = some (if (p[k].any fun c => decide (10 < c.length)) = true then .inr false else .inl ((k + 1 : Nat) : Int)) := by
  refine (loop_scan p[k] (fun _ c => if decide (10 < c.length) = true then some (Sum.inr false : Int ⊕ Bool) else none) (.inl ((k + 1 : Nat) : Int)) (fun j hj => ?_) ?_ (by omega)).trans ?_
  · simp only [ladinglaw28_light.b1, idx_nat hk, bind_in, lt_n hj, cond_true, idx_nat hj]
    rw [bif_ltZ]
    by_cases h : 10 < p[k][j].length
    · rw [if_pos (by omega), if_pos (decide_eq_true h)]
    · rw [if_neg (by omega), if_neg (by simpa using h), z64_succ (by omega), bind_in]
  · simp only [ladinglaw28_light.b1, idx_nat hk, bind_in, lt_e, cond_false]
    rw [z64_succ (by omega)]; rfl
  · rw [scan_any]
    split <;> rfl
theorem light_eq {p : List (List (List Int))} : ∃ b, ladinglaw28_light p = some b ∧ (b = true → p.length ≤ 14 ∧ ∀ L ∈ p, L.length ≤ 30 ∧ ∀ c ∈ L, c.length ≤ 10) := by
  unfold ladinglaw28_light
  have hfin : ∀ k : Nat, ¬ (k < p.length ∧ k < 15) → ladinglaw28_light.b2 p (k : Int) = some (.inr (decide (p.length ≤ 14))) := fun k hk => by
    have h0 : (bif ltZ (k : Int) (p.length : Int) then some (ltZ (k : Int) 15) else some false) = some false := by
      rw [bif_ltZ]
      by_cases h : (k : Int) < (p.length : Int)
      · rw [if_pos h, ltZ_eq, decide_eq_false (by omega)]
      · rw [if_neg h]
    unfold ladinglaw28_light.b2
    rw [h0, bind_in]
    unfold ladinglaw28_light.j1
    rw [cond_false, leZ_eq]
    congr 2
    rw [decide_eq_decide]; omega
  refine loopF_inv (fun k x => x = (k : Int) ∧ k ≤ p.length ∧ ∀ j (hj : j < p.length), j < k → p[j].length ≤ 30 ∧ ∀ c ∈ p[j], c.length ≤ 10) 15 ⟨rfl, Nat.zero_le _, fun j _ hj => by omega⟩ (fun k hk x hx => ?_) (fun x hx => ?_) (by omega)
  · obtain ⟨rfl, h3, h4⟩ := hx
    by_cases hkl : k < p.length
    · have h0 : (bif ltZ (k : Int) (p.length : Int) then some (ltZ (k : Int) 15) else some false) = some true := by
        rw [lt_n hkl, cond_true, ltZ_eq, decide_eq_true (by omega)]
      unfold ladinglaw28_light.b2
      rw [h0, bind_in]
      unfold ladinglaw28_light.j1
      rw [cond_true, idx_nat hkl, bind_in, bif_ltZ]
      by_cases h8 : 30 < p[k].length
      · rw [if_pos (by omega)]
        exact .inr ⟨_, rfl, fun h => by cases h⟩
      · rw [if_neg (by omega), light1 hkl (by omega) (by omega)]
        by_cases ha : (p[k].any fun c => decide (10 < c.length)) = true
        · rw [if_pos ha]
          exact .inr ⟨_, rfl, fun h => by cases h⟩
        · rw [if_neg ha]
          refine .inl ⟨_, rfl, rfl, hkl, fun j hj hjk => ?_⟩
          rcases Nat.lt_or_ge j k with h | h
          · exact h4 j hj h
          · have : j = k := by omega
            subst this
            refine ⟨by omega, fun c hc => ?_⟩
            have := List.any_eq_false.1 (Bool.eq_false_iff.2 ha) c hc
            simpa using this
    · rw [hfin k (by omega)]
      refine .inr ⟨_, rfl, fun h => ?_⟩
      have h := of_decide_eq_true h
      refine ⟨h, fun c hc => ?_⟩
      obtain ⟨j, hj, rfl⟩ := List.mem_iff_getElem.1 hc
      exact h4 j hj (by omega)
  · obtain ⟨rfl, h3, h4⟩ := hx
    rw [hfin 15 (by omega)]
    refine ⟨_, rfl, fun h => ?_⟩
    have h := of_decide_eq_true h
    omega
/-- equal lists of proofs -/
theorem proofs_same {p : List (List (List Int))} (h1 : p.length ≤ 1000000) (h2 : ∀ L ∈ p, L.length ≤ 1000000 ∧ ∀ c ∈ L, c.length ≤ 1000000) : ladingref28_Proofs p p = some true := by
  unfold ladingref28_Proofs
  rw [bif_not, bif_eqZ, if_pos rfl]
  refine loopF_at (body := fun x => ladingref28_Proofs.b3 p p x) (fun k => (k : Int)) p.length rfl (fun k hk => ?_) ?_ (by omega)
  · obtain ⟨hL, hc⟩ := h2 _ (List.getElem_mem hk)
    simp only [ladingref28_Proofs.b3, lt_n hk, cond_true, idx_nat hk, bind_in]
    rw [bif_not, bif_eqZ, if_pos rfl]
    refine loopF_at (body := fun x => ladingref28_Proofs.b2 p p (k : Int) x) (fun j => (j : Int)) p[k].length rfl (fun j hj => ?_) ?_ (by omega)
    · have hcj := hc _ (List.getElem_mem hj)
      simp only [ladingref28_Proofs.b2, idx_nat hk, bind_in, lt_n hj, cond_true, idx_nat hj]
      rw [bif_not, bif_eqZ, if_pos rfl]
      refine loopF_at (body := fun x => ladingref28_Proofs.b1 p p (k : Int) (j : Int) x) (fun i => (i : Int)) p[k][j].length rfl (fun i hi => ?_) ?_ (by omega)
      · simp only [ladingref28_Proofs.b1, idx_nat hk, bind_in, idx_nat hj, lt_n hi, cond_true, idx_nat hi]
        rw [bif_not, bif_eqZ, if_pos rfl, z64_nx hi (by omega), bind_in]
      · simp only [ladingref28_Proofs.b1, idx_nat hk, bind_in, idx_nat hj, lt_e, cond_false, z64_nx hj (by omega)]
        rfl
    · simp only [ladingref28_Proofs.b2, idx_nat hk, bind_in, lt_e, cond_false, z64_nx hk (by omega)]
      rfl
  · simp only [ladingref28_Proofs.b3, lt_e, cond_false]
/-! ### what is right -/
theorem pbadA_eq {n : Int} {s : List Int} (h : 0 ≤ n ∧ n ≤ 2000) (hs : s.length ≤ 1000000) : slices_ContainsFunc_int_int_v2 s n = some (badA n s) := (show slices_ContainsFunc_int_int_v2 s n = slices_ContainsFunc_int_int_v3 s n from rfl).trans (badA_eq h hs)
def rightW (l : List GClause) (n : Int) (w : List Int) : Bool := rightF l n && (decide (w.length ≤ 2000) && !badA n w)
theorem pright_eq {l : List GClause} {n : Int} {w : List Int} (h : Ok (lits l)) (hw : w.length ≤ 1000000) : prefer_right l n w = some (rightW l n w) := by
  unfold prefer_right rightW
  rw [right_eq h, bind_in]
  cases hr : rightF l n with
  | false => rw [Bool.not_false, cond_true, bind_in]; simp only [prefer_right.j1, cond_true, Bool.false_and]
  | true =>
    have hn := (rightF_iff.1 hr).1
    rw [Bool.not_true, cond_false, bind_in, ltZ_eq]
    unfold prefer_right.j1
    by_cases h2 : 2000 < w.length
    · rw [decide_eq_true (by omega), cond_true, decide_eq_false (by omega)]; rfl
    · rw [decide_eq_false (by omega), cond_false, pbadA_eq ⟨hn.1, hn.2.1⟩ hw, bind_in, decide_eq_true (by omega)]; rfl
theorem rright28_eq {l : List GClause} {n : Int} {w : List Int} (h : Ok (lits l)) (hw : w.length ≤ 1000000) : ladingref28_Right l n w = some (rightW l n w) := by
  unfold ladingref28_Right rightW
  rw [rright_eq h, bind_in]
  cases hr : rightF l n with
  | false => rw [Bool.not_false, cond_true, bind_in]; simp only [ladingref28_Right.j2, cond_true, Bool.false_and]
  | true =>
    have hn := (rightF_iff.1 hr).1
    rw [Bool.not_true, cond_false, bind_in, ltZ_eq]
    unfold ladingref28_Right.j2
    by_cases h2 : 2000 < w.length
    · rw [decide_eq_true (by omega), cond_true, decide_eq_false (by omega)]; rfl
    · rw [decide_eq_false (by omega), cond_false, decide_eq_true (by omega)]
      refine (loop_scan w (fun _ x => if badN n x = true then some false else none) true (fun k hk => ?_) ?_ (by omega)).trans ?_
      · simp only [ladingref28_Right.b1, lt_n hk, cond_true, idx_nat hk, bind_in, bad_test ⟨hn.1, hn.2.1⟩, ladingref28_Right.j1, z64_nx hk (by omega)]
        cases badN n w[k] <;> rfl
      · simp only [ladingref28_Right.b1, lt_e, cond_false]
      · rw [scan_any]
        unfold badA
        cases w.any (badN n) <;> rfl
theorem rightW_iff {l : List GClause} {n : Int} {w : List Int} : rightW l n w = true ↔ rightF l n = true ∧ w.length ≤ 2000 ∧ badA n w = false := by
  unfold rightW
  rw [Bool.and_eq_true, Bool.and_eq_true, decide_eq_true_eq]
  simp
end Go.Proofs.Ytimiahoaafjmmaa
