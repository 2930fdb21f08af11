/-
  Layer 26 (clause): Propagate, Follows, Proof, as the code has them.
-/
import Derived.Test.YtbkdiclfhoelbaaC5
namespace Go.Proofs.Ytbkdiclfhoelbaa
open Go.Lad
set_option linter.unusedVariables false
set_option linter.unusedSimpArgs false
set_option linter.unusedSectionVars false
noncomputable def derB (C : List (List Int)) (s : List Int) (x : Int) : Bool := @decide (Der C s x) (Classical.propDecidable _)
theorem derB_iff {C : List (List Int)} {s : List Int} {x : Int} : derB C s x = true ↔ Der C s x := by unfold derB; exact @decide_eq_true_iff _ (Classical.propDecidable _)
noncomputable def failB (C : List (List Int)) (s : List Int) : Bool := @decide (Fails C s) (Classical.propDecidable _)
theorem failB_iff {C : List (List Int)} {s : List Int} : failB C s = true ↔ Fails C s := by unfold failB; exact @decide_eq_true_iff _ (Classical.propDecidable _)
theorem failB_f {C : List (List Int)} {s : List Int} : failB C s = false ↔ ¬ Fails C s := by rw [← failB_iff]; simp
/-- all literals, ascending -/
def upTo (n : Nat) : List Int := (List.range n).map fun (k : Nat) => (k : Int) - 2000
theorem upTo_succ (n : Nat) : upTo (n + 1) = upTo n ++ [(n : Int) - 2000] := by
  unfold upTo
  rw [List.range_succ, List.map_append]; rfl
theorem mem_upTo {n : Nat} {x : Int} : x ∈ upTo n ↔ -2000 ≤ x ∧ x < (n : Int) - 2000 := by
  unfold upTo
  rw [List.mem_map]
  constructor
  · rintro ⟨k, hk, rfl⟩
    have := List.mem_range.1 hk
    omega
  · rintro ⟨h1, h2⟩
    exact ⟨(x + 2000).toNat, List.mem_range.2 (by omega), by omega⟩
theorem upTo_sorted (n : Nat) : (upTo n).Pairwise (· < ·) := by
  unfold upTo
  rw [List.pairwise_map]
  exact List.pairwise_lt_range.imp fun {a b} h => by omega
theorem upTo_len (n : Nat) : (upTo n).length = n := by unfold upTo; simp
/-- the closure, ascending -/
noncomputable def clos (C : List (List Int)) (s : List Int) : List Int := (upTo 4001).filter (derB C s)
theorem mem_clos {C : List (List Int)} {s : List Int} {x : Int} : x ∈ clos C s ↔ Der C s x := by
  unfold clos
  rw [List.mem_filter, derB_iff, mem_upTo]
  exact ⟨fun h => h.2, fun h => ⟨by have := h.lit; unfold Lit at this; omega, h⟩⟩
theorem clos_sorted (C : List (List Int)) (s : List Int) : (clos C s).Pairwise (· < ·) := (upTo_sorted 4001).filter _
theorem clos_len (C : List (List Int)) (s : List Int) : (clos C s).length ≤ 4001 := Nat.le_trans (List.length_filter_le _ _) (by rw [upTo_len]; exact Nat.le_refl _)
/-- what Propagate returns -/
noncomputable def propF (C : List (List Int)) (s : List Int) : List Int × Bool := if failB C s = true then ([], false) else (clos C s, true)
abbrev lits (l : List GClause) : List (List Int) := l.map (·.1)
theorem ins_at {v : List Bool} {k : Nat} (hv : v.length = 4001) (hk : k < 4001) : idx v (k : Int) = some (ins v ((k : Int) - 2000)) := by
  rw [idx_nat (by omega)]
  unfold ins
  rw [show (2000 + ((k : Int) - 2000)).toNat = k by omega, List.getD_eq_getElem?_getD, List.getElem?_eq_getElem (by omega)]; rfl
theorem ins_der {C : List (List Int)} {s : List Int} {v : List Bool} (h0 : ins v 0 = false) (h : ∀ x, Lit x → (ins v x = true ↔ Der C s x)) {x : Int} (h1 : -2000 ≤ x) (h2 : x ≤ 2000) : ins v x = derB C s x := by
  rw [Bool.eq_iff_iff, derB_iff]
  by_cases hx : x = 0
  · rw [hx, h0]
    exact iff_of_false (by simp) fun h => h.lit.1 rfl
  · exact h x ⟨hx, h1, h2⟩
theorem prop_eq {l : List GClause} {s : List Int} (h : Ok (lits l)) (hs : s.length ≤ 1000000) : clause_Propagate l s = some (propF (lits l) s) := by
  unfold clause_Propagate
  obtain ⟨b, h1, h2⟩ := load_eq h
  obtain ⟨r, h3, h4⟩ := close_eq (s := s) h2 h hs
  rw [h1, bind_in, h3, bind_in, bif_not]
  unfold propF
  rcases h4 with ⟨h5, h6⟩ | ⟨h5, h6, h7, h8, h9⟩
  · rw [h5, cond_false, if_pos (failB_iff.2 h6)]
  · rw [h5, cond_true, if_neg (by rw [failB_iff]; exact h6)]
    refine loopF_at (body := fun x => clause_Propagate.b1 r x.1 x.2) (fun k => ((k : Int), (upTo k).filter (derB (lits l) s))) 4001 rfl (fun k hk => ?_) ?_ (by omega)
    · have hv : vNeed (k : Int) 4001 = some () := by
        unfold vNeed
        rw [ltZ_eq, decide_eq_true (by omega)]; rfl
      have hfl : ((upTo k).filter (derB (lits l) s)).length ≤ k := Nat.le_trans (List.length_filter_le _ _) (by rw [upTo_len]; exact Nat.le_refl _)
      simp only [clause_Propagate.b1, ltZ_eq, hv, bind_in, ins_at h7 hk, ins_der h8 h9 (show (-2000 : Int) ≤ (k : Int) - 2000 by omega) (show (k : Int) - 2000 ≤ 2000 by omega)]
      rw [decide_eq_true (by omega), cond_true, upTo_succ, List.filter_append, fil1]
      cases hd : derB (lits l) s ((k : Int) - 2000) with
      | true =>
        rw [cond_true, z64_in (by omega) (by omega), bind_in, app_in (by simp; omega), bind_in, z64_succ (by omega), bind_in, if_pos rfl]
      | false =>
        rw [cond_false, z64_succ (by omega), bind_in, if_neg (by simp), List.append_nil]
    · simp only [clause_Propagate.b1, ltZ_eq]
      rw [decide_eq_false (by omega), cond_false]; rfl
/-- the opposites of literals -/
def negs (c : List Int) : List Int := (c.filter fun x => decide (Lit x)).map fun x => -x
theorem negs_snoc (c : List Int) (x : Int) : negs (c ++ [x]) = if Lit x then negs c ++ [-x] else negs c := by
  unfold negs
  rw [List.filter_append, fil1]
  by_cases h : Lit x
  · rw [decide_eq_true h, if_pos rfl, if_pos h, List.map_append]; rfl
  · rw [decide_eq_false h, if_neg (by simp), if_neg h, List.append_nil]
theorem mem_negs {c : List Int} {x : Int} : x ∈ negs c ↔ -x ∈ c ∧ Lit x := by
  unfold negs
  rw [List.mem_map]
  constructor
  · rintro ⟨y, hy, rfl⟩
    obtain ⟨h1, h2⟩ := List.mem_filter.1 hy
    rw [Int.neg_neg]
    exact ⟨h1, (of_decide_eq_true h2).neg⟩
  · rintro ⟨h1, h2⟩
    exact ⟨-x, List.mem_filter.2 ⟨h1, decide_eq_true h2.neg⟩, by omega⟩
theorem negs_len (c : List Int) : (negs c).length ≤ c.length := by
  unfold negs
  rw [List.length_map]
  exact List.length_filter_le _ _
theorem follows_eq {C : List (List Int)} {c : List Int} {b : (List (List Int)) × List (Int × List Int)} (hb : BaseOK C b) (hC : Ok C) (hc : c.length ≤ 1000000) : clause_base_follows b c = some (failB C (negs c)) := by
  unfold clause_base_follows
  have key : loopF (fun x => clause_base_follows.b1 c x.1 x.2) (0, []) = some (negs c) := by
    refine loopF_at (body := fun x => clause_base_follows.b1 c x.1 x.2) (b := negs c) (fun k => ((k : Int), negs (c.take k))) c.length rfl (fun k hk => ?_) ?_ (by omega)
    · have hnl := negs_len (c.take k)
      rw [List.length_take] at hnl
      simp only [clause_base_follows.b1, lt_n hk, cond_true, idx_nat hk, bind_in, lit_eq]
      rw [take_snoc c k hk, negs_snoc]
      by_cases hp : Lit c[k]
      · rw [decide_eq_true hp, cond_true, if_pos hp, z64_in (by unfold Lit at hp; omega) (by unfold Lit at hp; omega), bind_in, app_in (by simp; omega), bind_in, z64_nx hk (by omega), bind_in]
      · rw [decide_eq_false hp, cond_false, if_neg hp, z64_nx hk (by omega), bind_in]
    · simp only [clause_base_follows.b1, lt_e, cond_false, List.take_length]
  rw [key]
  · rw [bind_in]
    unfold clause_base_follows.j1
    obtain ⟨r, h1, h2⟩ := close_eq (s := negs c) hb hC (Nat.le_trans (negs_len c) hc)
    rw [h1, bind_in]
    congr 1
    rcases h2 with ⟨h3, h4⟩ | ⟨h3, h4, _⟩
    · rw [h3, failB_iff.2 h4]; rfl
    · rw [h3, failB_f.2 h4]; rfl
theorem Follows_eq {l : List GClause} {c : List Int} (h : Ok (lits l)) (hc : c.length ≤ 1000000) : clause_Follows l c = some (failB (lits l) (negs c)) := by
  unfold clause_Follows
  obtain ⟨b, h1, h2⟩ := load_eq h
  rw [h1, bind_in, follows_eq h2 h hc, bind_in]
/-! ### proofs -/
/-- each clause follows from those before it -/
def allF : List (List Int) → List (List Int) → Prop
  | _, [] => True
  | C, c :: r => Fails C (negs c) ∧ allF (C ++ [c]) r
theorem allF_append : ∀ {L M C : List (List Int)}, allF C (L ++ M) ↔ allF C L ∧ allF (C ++ L) M
  | [], M, C => by simp [allF]
  | c :: L, M, C => by
    show (Fails C (negs c) ∧ allF (C ++ [c]) (L ++ M)) ↔ _
    rw [allF_append (L := L), show C ++ [c] ++ L = C ++ (c :: L) by simp]
    exact ⟨fun h => ⟨⟨h.1, h.2.1⟩, h.2.2⟩, fun h => ⟨h.1.1, h.1.2, h.2⟩⟩
theorem allF_one {C : List (List Int)} {c : List Int} : allF C [c] ↔ Fails C (negs c) := by simp [allF]
/-- has the last list a literal? -/
def lastLit (L : List (List Int)) : Bool := (L.getLast?.getD []).any fun x => decide (Lit x)
def PrfOK (C L : List (List Int)) : Prop := L ≠ [] ∧ lastLit L = false ∧ allF C L
noncomputable def prfF (C L : List (List Int)) : Int := if 4000 < L.length then 6 else if @decide (PrfOK C L) (Classical.propDecidable _) = true then 0 else 19
theorem prfF_yes {C L : List (List Int)} (h : L.length ≤ 4000) (h1 : PrfOK C L) : prfF C L = 0 := by
  unfold prfF
  rw [if_neg (by omega), if_pos (by rw [@decide_eq_true_iff _ (Classical.propDecidable _)]; exact h1)]
theorem prfF_no {C L : List (List Int)} (h : L.length ≤ 4000) (h1 : ¬ PrfOK C L) : prfF C L = 19 := by
  unfold prfF
  rw [if_neg (by omega), if_neg (by rw [@decide_eq_true_iff _ (Classical.propDecidable _)]; exact h1)]
theorem last_at {L : List (List Int)} (h : L ≠ []) : L.length - 1 < L.length ∧ L.getLast?.getD [] = L[L.length - 1]'(by have := List.length_pos_iff.2 h; omega) := by
  have := List.length_pos_iff.2 h
  refine ⟨by omega, ?_⟩
  rw [List.getLast?_eq_getElem?, List.getElem?_eq_getElem (by omega)]; rfl
theorem containsLit_eq {c : List Int} (hc : c.length ≤ 1000000) : slices_ContainsFunc_int_int c = some (c.any fun x => decide (Lit x)) := by
  have hb : ∀ k (hk : k < c.length), slices_IndexFunc_int_int_v2.b1 c (k : Int) = some (if (fun x => decide (Lit x)) c[k] = true then .inr (k : Int) else .inl ((k + 1 : Nat) : Int)) := fun k hk => by
    simp only [slices_IndexFunc_int_int_v2.b1, lt_n hk, cond_true, idx_nat hk, bind_in, lit_eq, z64_nx hk (by omega)]
    by_cases hp : Lit c[k] <;> simp [hp]
  have he : slices_IndexFunc_int_int_v2.b1 c (c.length : Int) = some (.inr (-1)) := by simp only [slices_IndexFunc_int_int_v2.b1, lt_e, cond_false]
  obtain ⟨i, h1, h2, _⟩ := loop_idx (body := fun x => slices_IndexFunc_int_int_v2.b1 c x) c (fun x => decide (Lit x)) hb he (by omega)
  unfold slices_ContainsFunc_int_int
  rw [show slices_IndexFunc_int_int_v2 c = some i from h1, bind_in, h2]
theorem Proof_eq {l : List GClause} {L : List (List Int)} (h : Ok (lits l)) (hl : l.length ≤ 100000) (hL : ∀ c ∈ L, c.length ≤ 1000000) : clause_Proof l L = some (prfF (lits l) L) := by
  unfold clause_Proof
  simp only [ltZ_eq, eqZ_eq]
  by_cases h4 : L.length ≤ 4000
  · rw [decide_eq_false (by omega), cond_false]
    by_cases hn : L = []
    · rw [prfF_no h4 (fun h => h.1 hn), hn, decide_eq_true (by simp), cond_true, bind_in]; rfl
    · obtain ⟨h5, h6⟩ := last_at hn
      rw [decide_eq_false (by omega), cond_false, z64_pred (by omega) (by omega), bind_in, idx_nat h5, bind_in, containsLit_eq (hL _ (List.getElem_mem h5)), bind_in, bind_in]
      have hla : (L[L.length - 1].any fun x => decide (Lit x)) = lastLit L := by unfold lastLit; rw [h6]
      rw [hla]
      cases hll : lastLit L with
      | true =>
        rw [prfF_no h4 (fun h => by rw [h.2.1] at hll; cases hll)]; rfl
      | false =>
        unfold clause_Proof.j1
        rw [cond_false]
        obtain ⟨b, h1, h2⟩ := load_eq h
        rw [h1, bind_in]
        obtain ⟨r, h7, h8⟩ := loop_keep (body := fun x => clause_Proof.b1 L x.1 x.2.1 x.2.2) L (fun k s => BaseOK (lits l ++ L.take k) s ∧ allF (lits l) (L.take k)) (Q := fun r => r = prfF (lits l) L) (s0 := b)
          (by rw [List.take_zero, List.append_nil]; exact ⟨h2, trivial⟩)
          (fun k hk s hs => by
            obtain ⟨h9, h10⟩ := hs
            have hOk : Ok (lits l ++ L.take k) := by
              refine ⟨by simp only [List.length_append, List.length_map, List.length_take]; omega, fun c hc => ?_⟩
              rcases List.mem_append.1 hc with hc | hc
              · exact h.2 c hc
              · exact hL c (List.mem_of_mem_take hc)
            have hck := hL _ (List.getElem_mem hk)
            simp only [clause_Proof.b1, lt_n hk, cond_true, idx_nat hk, bind_in]
            rw [show ((s.1, s.2) : (List (List Int)) × List (Int × List Int)) = s from rfl, follows_eq h9 hOk hck, bind_in, bif_not]
            cases hf : failB (lits l ++ L.take k) (negs L[k]) with
            | true =>
              rw [cond_true]
              obtain ⟨b', h11, h12⟩ := add_eq (c := L[k]) h9 hOk.1 hck
              refine .inl ⟨b', ?_, ?_, ?_⟩
              · rw [h11, bind_in, z64_nx hk (by omega), bind_in]
              · rw [take_snoc L k hk, ← List.append_assoc]; exact h12
              · rw [take_snoc L k hk, allF_append]
                exact ⟨h10, allF_one.2 (failB_iff.1 hf)⟩
            | false =>
              rw [cond_false]
              refine .inr ⟨_, rfl, (prfF_no h4 fun hp => ?_).symm⟩
              have := hp.2.2
              rw [← List.take_append_drop k L, List.drop_eq_getElem_cons hk, allF_append] at this
              exact failB_f.1 hf this.2.1)
          (fun s hs => by
            refine ⟨0, by simp only [clause_Proof.b1, lt_e, cond_false], (prfF_yes h4 ⟨hn, hll, ?_⟩).symm⟩
            have := hs.2
            rwa [List.take_length] at this)
          (by omega)
        rw [← h8]; exact h7
  · rw [decide_eq_true (by omega), cond_true]
    unfold prfF
    rw [if_pos (by omega)]
end Go.Proofs.Ytbkdiclfhoelbaa
