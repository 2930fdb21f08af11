/-
  Layer 26 (clause): ClauseSound.
-/
import Derived.Test.YtbkdiclfhoelbaaC10
namespace Go.Proofs.Ytbkdiclfhoelbaa
open Go.Lad
set_option linter.unusedVariables false
set_option linter.unusedSimpArgs false
set_option linter.unusedSectionVars false
theorem wrapU {a : Nat} (h : a < 18446744073709551616) : IntKind.u64.wrap (a : Int) = (a : Int) := by
  unfold IntKind.wrap
  have h1 : (a : Int) % 18446744073709551616 = (a : Int) := Int.emod_eq_of_lt (by omega) (by omega)
  simp [IntKind.bits, IntKind.signed, h1]
theorem shl1_eq {n : Nat} (hn : n ≤ 8) : shlZ .i64 1 (IntKind.u64.wrap (n : Int)) = some ((2 ^ n : Nat) : Int) := by
  have hpw : 2 ^ n ≤ 2 ^ 8 := Nat.pow_le_pow_right (by omega) hn
  have hnn : (0 : Int) ≤ ((2 ^ n : Nat) : Int) := Int.natCast_nonneg _
  rw [wrapU (by omega)]
  unfold shlZ shlI
  rw [leZ_eq, decide_eq_true (by omega), cond_true]
  rw [show min ((n : Int).toNat) (IntKind.i64.bits) = n by show min ((n : Int).toNat) 64 = n; simp; omega, Int.one_mul]
  rw [show ((2 : Int) ^ n) = ((2 ^ n : Nat) : Int) by simp]
  rw [wrap_in (show inK .i64 _ from ⟨by show (-9223372036854775808 : Int) ≤ _; omega, by show _ ≤ (9223372036854775807 : Int); omega⟩)]
theorem shr_eq {x k : Nat} (hx : x ≤ 1000) (hk : k ≤ 8) : ∃ y : Int, shrZ .i64 (x : Int) (IntKind.u64.wrap (k : Int)) = some y := by
  have e2 : shrI .i64 (x : Int) (k : Int) = ((x / 2 ^ k : Nat) : Int) := by
    unfold shrI
    rw [show min ((k : Int).toNat) (IntKind.i64.bits) = k by show min ((k : Int).toNat) 64 = k; simp; omega]
    rw [Int.fdiv_eq_ediv_of_nonneg _ (by exact Int.pow_nonneg (by omega))]
    simp
  have hdiv : x / 2 ^ k ≤ x := Nat.div_le_self _ _
  generalize x / 2 ^ k = y at e2 hdiv
  refine ⟨(y : Int), ?_⟩
  rw [wrapU (by omega)]
  unfold shrZ
  rw [e2, leZ_eq, decide_eq_true (by omega), Bool.true_and]
  have : inZ .i64 (y : Int) = true := by
    unfold inZ
    rw [leZ_eq, leZ_eq, Bool.and_eq_true, decide_eq_true_eq, decide_eq_true_eq]
    exact ⟨by show (-9223372036854775808 : Int) ≤ _; omega, by show _ ≤ (9223372036854775807 : Int); omega⟩
  rw [this]; rfl
theorem model_eq {n bits : Nat} (hn : n ≤ 8) (hb : bits ≤ 1000) : ∃ m, ladinglaw26_model (n : Int) (bits : Int) = some m ∧ m.length = n := by
  unfold ladinglaw26_model
  rw [msNeed_in (by omega) (by omega), bind_in]
  refine loopF_inv (body := fun x => ladinglaw26_model.b1 (n : Int) (bits : Int) x.1 x.2) (fun k x => x.1 = (k : Int) ∧ x.2.length = n) n ⟨rfl, by rw [repT_len]; simp⟩ (fun k hk x hx => ?_) (fun x hx => ?_) (by omega)
  · obtain ⟨i, o⟩ := x
    obtain ⟨h1, h2⟩ := hx
    simp only at h1 h2
    subst h1
    obtain ⟨y, hy⟩ := shr_eq (x := bits) (k := k) hb (by omega)
    have hko : k < o.length := by omega
    refine .inl ⟨(((k + 1 : Nat) : Int), o.set (k : Int).toNat (eqZ (andI .i64 y 1) 1)), ?_, ?_⟩
    · simp only [ladinglaw26_model.b1, lt_n hk, cond_true, hy, bind_in, idx_nat hko, z64_nx hk (by omega)]
    · exact ⟨rfl, by rw [List.length_set]; exact h2⟩
  · obtain ⟨i, o⟩ := x
    obtain ⟨h1, h2⟩ := hx
    simp only at h1 h2
    subst h1
    exact ⟨o, by simp only [ladinglaw26_model.b1, lt_e, cond_false], h2⟩
theorem satisfied_eq {m : List Bool} {c : List Int} (hc : c.length ≤ 1000000) : ladinglaw26_satisfied m c = some (c.any (tru m)) := by
  unfold ladinglaw26_satisfied
  rw [loop_any c (tru m) true false (fun k hk => ?_) ?_ (by omega)]
  · cases c.any (tru m) <;> rfl
  · simp only [ladinglaw26_satisfied.b1, lt_e, cond_false]
  · simp only [ladinglaw26_satisfied.b1, lt_n hk, cond_true, idx_nat hk, bind_in, true_eq, z64_nx hk (by omega)]
    exact bif_pick
/-- a clause that follows holds in each model -/
theorem follow_sat {C : List (List Int)} {c : List Int} {m : List Bool} (h : Fails C (negs c)) (hC : ∀ c ∈ C, ∃ x ∈ c, tru m x = true) (hr : ∀ x ∈ c, x.natAbs ≤ m.length) : ∃ x ∈ c, tru m x = true := by
  refine Classical.byContradiction fun hn => h.no hC fun x hx hl => ?_
  obtain ⟨h1, _⟩ := mem_negs.1 hx
  have h2 := hr _ h1
  rw [Int.natAbs_neg] at h2
  rcases tru_dec hl h2 with h3 | h3
  · exact h3
  · exact absurd ⟨-x, h1, h3⟩ hn
theorem all_sat {m : List Bool} : ∀ {L C : List (List Int)}, allF C L → (∀ c ∈ C, ∃ x ∈ c, tru m x = true) → (∀ c ∈ L, ∀ x ∈ c, x.natAbs ≤ m.length) → ∀ c ∈ L, ∃ x ∈ c, tru m x = true
  | [], _, _, _, _ => fun c hc => by cases hc
  | d :: L, C, h, hC, hr => fun c hc => by
    have hd := follow_sat h.1 hC (hr d (by simp))
    rcases List.mem_cons.1 hc with rfl | hc
    · exact hd
    · refine all_sat h.2 (fun c hc => ?_) (fun c hc => hr c (List.mem_cons_of_mem _ hc)) c hc
      rcases List.mem_append.1 hc with hc | hc
      · exact hC c hc
      · rw [List.mem_singleton.1 hc]; exact hd
theorem prf_no {m : List Bool} {C L : List (List Int)} (h : PrfOK C L) (hC : ∀ c ∈ C, ∃ x ∈ c, tru m x = true) (hr : ∀ c ∈ L, ∀ x ∈ c, x.natAbs ≤ m.length) : False := by
  obtain ⟨h1, h2, h3⟩ := h
  obtain ⟨h5, h6⟩ := last_at h1
  obtain ⟨x, hx, ht⟩ := all_sat h3 hC hr _ (List.getElem_mem h5)
  unfold lastLit at h2
  rw [h6, List.any_eq_false] at h2
  exact h2 x hx (decide_eq_true (tru_iff.1 ht).1)
theorem sound_true (l : List GClause) (learnt : List (List Int)) (n : Int) : ladinglaw26_ClauseSound l learnt n = some true := by
  unfold ladinglaw26_ClauseSound
  rw [small_true, bind_in]
  simp only [ltZ_eq, bif_dec]
  by_cases h0 : n < 0
  · rw [if_pos h0, bind_in]; simp only [ladinglaw26_ClauseSound.j3, cond_true]
  rw [if_neg h0]
  by_cases h8 : 8 < n
  · rw [if_pos h8, bind_in]; simp only [ladinglaw26_ClauseSound.j3, cond_true]
  rw [if_neg h8]
  obtain ⟨N, rfl⟩ : ∃ N : Nat, n = N := ⟨n.toNat, by omega⟩
  have hN : N ≤ 8 := by omega
  obtain ⟨b, h1, h2⟩ := light_eq (l := l) (n := 40) (by omega)
  have h1 : ladinglaw26_light l 40 = some b := h1
  rw [h1, bind_in]
  cases b with
  | false => simp only [Bool.not_false, cond_true, bind_in, ladinglaw26_ClauseSound.j3]
  | true =>
    have h2 := h2 rfl
    have hok := ok8 (by omega) h2
    obtain ⟨b, h4, h5⟩ := few_eq (l := learnt) (n := 16) (by omega)
    have h4 : ladinglaw26_few learnt 16 = some b := h4
    rw [Bool.not_true, cond_false, h4, bind_in]
    cases b with
    | false => simp only [Bool.not_false, cond_true, bind_in, ladinglaw26_ClauseSound.j3]
    | true =>
      have h5 := h5 rfl
      rw [Bool.not_true, cond_false, right_eq hok, bind_in, bind_in]
      cases hr : rightF l (N : Int) with
      | false => simp only [Bool.not_false, cond_true, bind_in, ladinglaw26_ClauseSound.j3]
      | true =>
        simp only [Bool.not_true, ladinglaw26_ClauseSound.j3, cond_false]
        have hL : ∀ c ∈ learnt, c.length ≤ 1000000 := fun c hc => by have := h5.2 c hc; omega
        have hall : loopF (fun x => ladinglaw26_ClauseSound.b1 learnt x.1 x.2) (0, []) = some (learnt.map mk) := by
          refine loopF_at (body := fun x => ladinglaw26_ClauseSound.b1 learnt x.1 x.2) (fun k => ((k : Int), (learnt.take k).map mk)) learnt.length rfl (fun k hk => ?_) ?_ (by omega)
          · simp only [ladinglaw26_ClauseSound.b1, lt_n hk, cond_true, idx_nat hk, bind_in]
            rw [app_in (by simp only [List.length_map, List.length_take, List.length_singleton]; omega), bind_in, z64_nx hk (by omega), bind_in, take_snoc learnt k hk, List.map_append]; rfl
          · simp only [ladinglaw26_ClauseSound.b1, lt_e, cond_false, List.take_length]
        rw [hall, bind_in]
        have hokL : Ok (lits (learnt.map mk)) := by
          rw [lits_mk]
          exact ⟨by omega, hL⟩
        simp only [ladinglaw26_ClauseSound.j2]
        rw [right_eq hokL, bind_in]
        cases hrL : rightF (learnt.map mk) (N : Int) with
        | false => simp only [Bool.not_false, cond_true]
        | true =>
          rw [Bool.not_true, cond_false, Proof_eq hok (by omega) hL, bind_in]
          have hrr : ∀ c ∈ learnt, ∀ x ∈ c, x.natAbs ≤ N := fun c hc x hx => by
            have := (rightF_iff.1 hrL).2 (mk c) (List.mem_map.2 ⟨c, hc, rfl⟩) x hx
            omega
          have hpw : 2 ^ N ≤ 2 ^ 8 := Nat.pow_le_pow_right (by omega) hN
          obtain ⟨r, h9, h10⟩ := loopF_inv (body := fun x => ladinglaw26_ClauseSound.b3 l learnt (N : Int) true (prfF (lits l) learnt) x) (fun k x => x = (k : Int)) (Q := fun r => r = true) (2 ^ N) (x := 0) rfl
            (fun k hk x hx => by
              subst hx
              obtain ⟨m, hm, hml⟩ := model_eq (n := N) (bits := k) hN (by omega)
              simp only [ladinglaw26_ClauseSound.b3, shl1_eq hN, bind_in, lt_n hk, cond_true, hm, holds_eq hok]
              cases hh : holdsF l m with
              | false =>
                rw [Bool.not_false, cond_true, z64_succ (by omega), bind_in]
                exact .inl ⟨_, rfl, rfl⟩
              | true =>
                have hC := holds_iff.1 hh
                have hno : ¬ PrfOK (lits l) learnt := fun hp => prf_no hp hC fun c hc x hx => by rw [hml]; exact hrr c hc x hx
                rw [Bool.not_true, cond_false, prfF_no (by omega) hno, eqZ_eq, decide_eq_false (by omega), cond_false]
                rw [loop_any (body := fun x => ladinglaw26_ClauseSound.b2 l learnt (k : Int) m x) learnt (fun c => failB (lits l) (negs c) && !c.any (tru m)) (.inr false) (.inl ((k + 1 : Nat) : Int)) (fun j hj => ?_) ?_ (by omega)]
                · rw [if_neg]
                  · exact .inl ⟨_, rfl, rfl⟩
                  · intro ha
                    obtain ⟨c, hc, ha⟩ := List.any_eq_true.1 ha
                    rw [Bool.and_eq_true, Bool.not_eq_true'] at ha
                    obtain ⟨x, hx, ht⟩ := follow_sat (failB_iff.1 ha.1) hC fun x hx => by rw [hml]; exact hrr c hc x hx
                    rw [List.any_eq_false] at ha
                    exact ha.2 x hx ht
                · simp only [ladinglaw26_ClauseSound.b2, lt_e, cond_false, z64_succ (show k + 1 ≤ 9223372036854775807 by omega), bind_in]; rfl
                · have hcj := hL _ (List.getElem_mem hj)
                  simp only [ladinglaw26_ClauseSound.b2, lt_n hj, cond_true, idx_nat hj, bind_in, Follows_eq hok hcj, satisfied_eq hcj]
                  cases failB (lits l) (negs learnt[j]) with
                  | false => simp only [cond_false, bind_in, ladinglaw26_ClauseSound.j1, z64_nx hj (by omega), Bool.false_and]; rfl
                  | true =>
                    rw [cond_true, bind_in, Bool.true_and]
                    simp only [ladinglaw26_ClauseSound.j1, z64_nx hj (by omega), bind_in]
                    exact bif_pick)
            (fun x hx => by
              subst hx
              simp only [ladinglaw26_ClauseSound.b3, shl1_eq hN, bind_in, lt_e, cond_false, cond_true, eqZ_eq, bif_dec]
              refine ⟨true, ?_, rfl⟩
              by_cases hp : prfF (lits l) learnt = 0
              · rw [if_pos hp]; rfl
              · rw [if_neg hp]
                have : prfF (lits l) learnt = 19 := by
                  by_cases hP : PrfOK (lits l) learnt
                  · exact absurd (prfF_yes (by omega) hP) hp
                  · exact prfF_no (by omega) hP
                rw [this]; rfl)
            (by omega)
          rw [h9, h10]
end Go.Proofs.Ytbkdiclfhoelbaa
