/-
  Layer 26 (clause): the reference's functions; Right, Holds; what the bounds say.
-/
import Derived.Test.YtbkdiclfhoelbaaC7
namespace Go.Proofs.Ytbkdiclfhoelbaa
open Go.Lad
set_option linter.unusedVariables false
set_option linter.unusedSimpArgs false
set_option linter.unusedSectionVars false
theorem rprop_eq {l : List GClause} {s : List Int} (h : Ok (lits l)) (hs : s.length ≤ 1000000) : ladingref26_Propagate l s = some (propF (lits l) s) := by
  unfold ladingref26_Propagate
  obtain ⟨r, h3, h4⟩ := closure_eq (s := s) h hs
  rw [h3, bind_in, bif_not]
  unfold propF
  rcases h4 with ⟨h5, h6⟩ | ⟨h5, h6, h7, h8, h9⟩
  · have h5 : r.2 = false := h5
    rw [h5, cond_false, if_pos (failB_iff.2 h6)]
  · have h5 : r.2 = true := h5
    have h7 : r.1.length = 4001 := h7
    have h8 : ins r.1 0 = false := h8
    have h9 : ∀ x, Lit x → (ins r.1 x = true ↔ Der (lits l) s x) := h9
    rw [h5, cond_true, if_neg (by rw [failB_iff]; exact h6)]
    refine loopF_at (body := fun x => ladingref26_Propagate.b1 r x.1 x.2) (fun k => ((k : Int) - 2000, (upTo k).filter (derB (lits l) s))) 4001 rfl (fun k hk => ?_) ?_ (by omega)
    · have hfl : ((upTo k).filter (derB (lits l) s)).length ≤ k := Nat.le_trans (List.length_filter_le _ _) (by rw [upTo_len]; exact Nat.le_refl _)
      have hz : z64 ((2000 : Int) + ((k : Int) - 2000)) = some (k : Int) := z64_p (by omega) (by omega) (by omega)
      have hz2 : z64 ((k : Int) - 2000 + 1) = some (((k + 1 : Nat) : Int) - 2000) := z64_p (by omega) (by omega) (by omega)
      simp only [ladingref26_Propagate.b1, leZ_eq, hz, hz2, bind_in, ins_at h7 hk, ins_der h8 h9 (show (-2000 : Int) ≤ (k : Int) - 2000 by omega) (show (k : Int) - 2000 ≤ 2000 by omega)]
      rw [decide_eq_true (by omega), cond_true, upTo_succ, List.filter_append, fil1]
      cases hd : derB (lits l) s ((k : Int) - 2000) with
      | true =>
        rw [cond_true, app_in (by simp; omega), bind_in, if_pos rfl]
      | false =>
        rw [cond_false, if_neg (by simp), List.append_nil]
    · simp only [ladingref26_Propagate.b1, leZ_eq]
      rw [decide_eq_false (by omega), cond_false]; rfl
theorem rFollows_eq {l : List GClause} {c : List Int} (h : Ok (lits l)) (hc : c.length ≤ 1000000) : ladingref26_Follows l c = some (failB (lits l) (negs c)) := by
  unfold ladingref26_Follows
  have key : loopF (fun x => ladingref26_Follows.b1 c x.1 x.2) (0, []) = some (negs c) := by
    refine loopF_at (body := fun x => ladingref26_Follows.b1 c x.1 x.2) (b := negs c) (fun k => ((k : Int), negs (c.take k))) c.length rfl (fun k hk => ?_) ?_ (by omega)
    · have hnl := negs_len (c.take k)
      rw [List.length_take] at hnl
      simp only [ladingref26_Follows.b1, lt_n hk, cond_true, idx_nat hk, bind_in, Lit_eq]
      rw [take_snoc c k hk, negs_snoc]
      by_cases hp : Lit c[k]
      · rw [decide_eq_true hp, cond_true, if_pos hp, z64_in (by unfold Lit at hp; omega) (by unfold Lit at hp; omega), bind_in, app_in (by simp; omega), bind_in, z64_nx hk (by omega), bind_in]
      · rw [decide_eq_false hp, cond_false, if_neg hp, z64_nx hk (by omega), bind_in]
    · simp only [ladingref26_Follows.b1, lt_e, cond_false, List.take_length]
  rw [key, bind_in]
  unfold ladingref26_Follows.j1
  obtain ⟨r, h1, h2⟩ := closure_eq (s := negs c) h (Nat.le_trans (negs_len c) hc)
  rw [h1, bind_in]
  congr 1
  rcases h2 with ⟨h3, h4⟩ | ⟨h3, h4, _⟩
  · rw [show r.2 = false from h3, failB_iff.2 h4]; rfl
  · rw [show r.2 = true from h3, failB_f.2 h4]; rfl
abbrev mk (c : List Int) : GClause := (c, 0, 0, 0)
theorem lits_mk (L : List (List Int)) : lits (L.map mk) = L := by
  unfold lits
  rw [List.map_map]
  exact List.map_id' L
theorem rProof_eq {l : List GClause} {L : List (List Int)} (h : Ok (lits l)) (hl : l.length ≤ 100000) (hL : ∀ c ∈ L, c.length ≤ 1000000) : ladingref26_Proof l L = some (prfF (lits l) L) := by
  unfold ladingref26_Proof
  simp only [ltZ_eq, eqZ_eq]
  by_cases h4 : L.length ≤ 4000
  · rw [decide_eq_false (by omega), cond_false]
    by_cases hn : L = []
    · rw [prfF_no h4 (fun h => h.1 hn), hn, decide_eq_true (by simp), cond_true]
    · obtain ⟨h5, h6⟩ := last_at hn
      rw [decide_eq_false (by omega), cond_false, app_in (by simp; omega), bind_in]
      obtain ⟨r, h7, h8⟩ := loop_keep (body := fun x => ladingref26_Proof.b1 L x.1 x.2) L (fun k s => s = l ++ (L.take k).map mk ∧ allF (lits l) (L.take k))
          (Q := fun r => (r = .inl () ∧ allF (lits l) L) ∨ (r = .inr 19 ∧ ¬ allF (lits l) L)) (s0 := [] ++ l)
          ⟨by simp, trivial⟩
          (fun k hk s hs => by
            obtain ⟨rfl, h10⟩ := hs
            have hlit : lits (l ++ (L.take k).map mk) = lits l ++ L.take k := by
              unfold lits
              rw [List.map_append]
              congr 1
              exact lits_mk _
            have hOk : Ok (lits (l ++ (L.take k).map mk)) := by
              rw [hlit]
              refine ⟨by simp only [List.length_append, List.length_map, List.length_take]; omega, fun c hc => ?_⟩
              rcases List.mem_append.1 hc with hc | hc
              · exact h.2 c hc
              · exact hL c (List.mem_of_mem_take hc)
            have hck := hL _ (List.getElem_mem hk)
            simp only [ladingref26_Proof.b1, lt_n hk, cond_true, idx_nat hk, bind_in, rFollows_eq hOk hck, bif_not]
            rw [hlit]
            cases hf : failB (lits l ++ L.take k) (negs L[k]) with
            | true =>
              rw [cond_true]
              refine .inl ⟨l ++ (L.take (k + 1)).map mk, ?_, rfl, ?_⟩
              · rw [app_in (by simp only [List.length_append, List.length_map, List.length_take, List.length_singleton]; omega), bind_in, z64_nx hk (by omega), bind_in, take_snoc L k hk, List.map_append, List.append_assoc]; rfl
              · rw [take_snoc L k hk, allF_append]
                exact ⟨h10, allF_one.2 (failB_iff.1 hf)⟩
            | false =>
              rw [cond_false]
              refine .inr ⟨_, rfl, .inr ⟨rfl, fun this => ?_⟩⟩
              rw [← List.take_append_drop k L, List.drop_eq_getElem_cons hk, allF_append] at this
              exact failB_f.1 hf this.2.1)
          (fun s hs => by
            refine ⟨.inl (), by simp only [ladingref26_Proof.b1, lt_e, cond_false], .inl ⟨rfl, ?_⟩⟩
            have := hs.2
            rwa [List.take_length] at this)
          (by omega)
      rw [h7, bind_in]
      rcases h8 with ⟨rfl, h8⟩ | ⟨rfl, h8⟩
      · show ladingref26_Proof.j1 L = _
        unfold ladingref26_Proof.j1
        have hlast := hL _ (List.getElem_mem h5)
        rw [z64_pred (by omega) (by omega), bind_in, idx_nat h5, bind_in, loop_any L[L.length - 1] (fun x => decide (Lit x)) 19 0 (fun k hk => ?_) ?_ (by omega)]
        · have hla : (L[L.length - 1].any fun x => decide (Lit x)) = lastLit L := by unfold lastLit; rw [h6]
          rw [hla]
          cases hll : lastLit L with
          | true =>
            rw [if_pos rfl, prfF_no h4 (fun h => by rw [h.2.1] at hll; cases hll)]
          | false => rw [if_neg (by simp), prfF_yes h4 ⟨hn, hll, h8⟩]
        · simp only [ladingref26_Proof.b2, lt_e, cond_false]
        · simp only [ladingref26_Proof.b2, lt_n hk, cond_true, idx_nat hk, bind_in, Lit_eq, z64_nx hk (by omega)]
          by_cases hp : Lit (L[L.length - 1])[k] <;> simp [hp]
      · rw [prfF_no h4 fun h => h8 h.2.2]
  · rw [decide_eq_true (by omega), cond_true]
    unfold prfF
    rw [if_pos (by omega)]
theorem bif_pick {α : Type} {b : Bool} {x y : α} : (bif b then some x else some y) = some (if b = true then x else y) := by cases b <;> rfl
/-! ### Right -/
def badN (n x : Int) : Bool := decide (x = 0 ∨ x < -n ∨ n < x)
def rightF (l : List GClause) (n : Int) : Bool := decide (0 ≤ n ∧ n ≤ 2000 ∧ l.length ≤ 20000) && !(l.any fun c => c.1.any (badN n))
theorem rightF_iff {l : List GClause} {n : Int} : rightF l n = true ↔ (0 ≤ n ∧ n ≤ 2000 ∧ l.length ≤ 20000) ∧ ∀ c ∈ l, ∀ x ∈ c.1, x ≠ 0 ∧ -n ≤ x ∧ x ≤ n := by
  unfold rightF
  rw [Bool.and_eq_true, decide_eq_true_eq]
  refine and_congr Iff.rfl ?_
  rw [Bool.not_eq_true', List.any_eq_false]
  refine forall_congr' fun c => forall_congr' fun hc => ?_
  rw [List.any_eq_true]
  constructor
  · intro h x hx
    have : ¬ badN n x = true := fun hb => h ⟨x, hx, hb⟩
    unfold badN at this
    rw [decide_eq_true_eq] at this
    omega
  · rintro h ⟨x, hx, hb⟩
    have := h x hx
    unfold badN at hb
    rw [decide_eq_true_eq] at hb
    omega
theorem right1_eq {n x : Int} (h : 0 ≤ n ∧ n ≤ 2000) : clause_Right_1_1 x n = some (badN n x) := by
  unfold clause_Right_1_1 badN
  simp only [eqZ_eq, ltZ_eq, bif_dec]
  rw [z64_in (by omega) (by omega), bind_in]
  by_cases h1 : x = 0
  · rw [if_pos h1, decide_eq_true (.inl h1)]
  · rw [if_neg h1]
    by_cases h2 : x < -n
    · rw [if_pos h2, decide_eq_true (.inr (.inl h2))]
    · rw [if_neg h2]
      congr 1
      rw [decide_eq_decide]
      omega
theorem right2_eq {c : GClause} {n : Int} (h : 0 ≤ n ∧ n ≤ 2000) (hc : c.1.length ≤ 1000000) : clause_Right_1 c n = some (c.1.any (badN n)) := by
  have hb : ∀ k (hk : k < c.1.length), slices_IndexFunc_int_int_v3.b1 c.1 n (k : Int) = some (if badN n c.1[k] = true then .inr (k : Int) else .inl ((k + 1 : Nat) : Int)) := fun k hk => by
    simp only [slices_IndexFunc_int_int_v3.b1, lt_n hk, cond_true, idx_nat hk, bind_in, right1_eq h, z64_nx hk (by omega)]
    exact bif_pick
  have he : slices_IndexFunc_int_int_v3.b1 c.1 n (c.1.length : Int) = some (.inr (-1)) := by simp only [slices_IndexFunc_int_int_v3.b1, lt_e, cond_false]
  obtain ⟨i, h1, h2, _⟩ := loop_idx (body := fun x => slices_IndexFunc_int_int_v3.b1 c.1 n x) c.1 (badN n) hb he (by omega)
  unfold clause_Right_1 slices_ContainsFunc_int_int_v2
  rw [show slices_IndexFunc_int_int_v3 c.1 n = some i from h1, bind_in, bind_in, h2]
theorem right_eq {l : List GClause} {n : Int} (h : Ok (lits l)) : clause_Right l n = some (rightF l n) := by
  obtain ⟨h200, hc⟩ := h
  rw [List.length_map] at h200
  unfold clause_Right rightF
  simp only [ltZ_eq, bif_dec]
  by_cases h1 : n < 0
  · rw [if_pos h1, bind_in, decide_eq_false (by omega)]; rfl
  · rw [if_neg h1]
    by_cases h2 : 2000 < n
    · rw [if_pos h2, bind_in, decide_eq_false (by omega)]; rfl
    · rw [if_neg h2, bind_in]
      unfold clause_Right.j1
      by_cases h3 : l.length ≤ 20000
      · rw [decide_eq_false (by omega), cond_false, decide_eq_true (by omega)]
        have hb : ∀ k (hk : k < l.length), slices_IndexFunc_api_Clause_api_Clause.b1 l n (k : Int) = some (if (fun c : GClause => c.1.any (badN n)) l[k] = true then .inr (k : Int) else .inl ((k + 1 : Nat) : Int)) := fun k hk => by
          simp only [slices_IndexFunc_api_Clause_api_Clause.b1, lt_n hk, cond_true, idx_nat hk, bind_in, right2_eq (c := l[k]) (show 0 ≤ n ∧ n ≤ 2000 by omega) (hc _ (List.mem_map.2 ⟨_, List.getElem_mem hk, rfl⟩)), z64_nx hk (by omega)]
          exact bif_pick
        have he : slices_IndexFunc_api_Clause_api_Clause.b1 l n (l.length : Int) = some (.inr (-1)) := by simp only [slices_IndexFunc_api_Clause_api_Clause.b1, lt_e, cond_false]
        obtain ⟨i, h1, h2, _⟩ := loop_idx (body := fun x => slices_IndexFunc_api_Clause_api_Clause.b1 l n x) l (fun c : GClause => c.1.any (badN n)) hb he (by omega)
        unfold slices_ContainsFunc_api_Clause_api_Clause
        rw [show slices_IndexFunc_api_Clause_api_Clause l n = some i from h1, bind_in, bind_in, h2, Bool.true_and]
      · rw [decide_eq_true (by omega), cond_true, decide_eq_false (by omega)]; rfl
theorem rright_eq {l : List GClause} {n : Int} (h : Ok (lits l)) : ladingref26_Right l n = some (rightF l n) := by
  obtain ⟨h200, hc⟩ := h
  rw [List.length_map] at h200
  unfold ladingref26_Right rightF
  simp only [ltZ_eq, bif_dec]
  by_cases h1 : n < 0
  · rw [if_pos h1, bind_in, decide_eq_false (by omega)]; rfl
  · rw [if_neg h1]
    by_cases h2 : 2000 < n
    · rw [if_pos h2, bind_in, decide_eq_false (by omega)]; rfl
    · rw [if_neg h2, bind_in]
      unfold ladingref26_Right.j2
      by_cases h3 : l.length ≤ 20000
      · rw [decide_eq_false (by omega), cond_false, decide_eq_true (by omega), Bool.true_and]
        rw [loop_any (body := fun x => ladingref26_Right.b2 l n x) l (fun c => c.1.any (badN n)) false true (fun k hk => ?_) ?_ (by omega)]
        · cases l.any (fun c => c.1.any (badN n)) <;> rfl
        · simp only [ladingref26_Right.b2, lt_e, cond_false]
        · have hck := hc _ (List.mem_map.2 ⟨_, List.getElem_mem hk, rfl⟩)
          simp only [ladingref26_Right.b2, lt_n hk, cond_true]
          rw [loop_any (body := fun x => ladingref26_Right.b1 l n (k : Int) x) l[k].1 (badN n) (.inr false) (.inl ((k + 1 : Nat) : Int)) (fun j hj => ?_) ?_ (by omega)]
          · simp only [ladingref26_Right.b1, idx_nat hk, bind_in, lt_e, cond_false, z64_nx hk (by omega)]; rfl
          · simp only [ladingref26_Right.b1, idx_nat hk, bind_in, lt_n hj, cond_true, idx_nat hj, z64_p (show -n = -n from rfl) (by omega) (by omega)]
            simp only [eqZ_eq, ltZ_eq, bif_dec]
            by_cases h4 : badN n l[k].1[j] = true
            · rw [if_pos h4]
              unfold badN at h4
              rw [decide_eq_true_eq] at h4
              have : (if l[k].1[j] = 0 then some true else if l[k].1[j] < -n then some true else some (decide (n < l[k].1[j]))) = some true := by
                by_cases h5 : l[k].1[j] = 0
                · rw [if_pos h5]
                · rw [if_neg h5]
                  by_cases h6 : l[k].1[j] < -n
                  · rw [if_pos h6]
                  · rw [if_neg h6, decide_eq_true (by omega)]
              rw [this, bind_in]
              simp only [ladingref26_Right.j1, cond_true]
            · rw [if_neg h4]
              unfold badN at h4
              rw [decide_eq_true_eq] at h4
              rw [if_neg (by omega), if_neg (by omega), decide_eq_false (by omega), bind_in]
              simp only [ladingref26_Right.j1, cond_false, z64_nx hj (by omega), bind_in]
      · rw [decide_eq_true (by omega), cond_true, decide_eq_false (by omega)]; rfl
end Go.Proofs.Ytbkdiclfhoelbaa
