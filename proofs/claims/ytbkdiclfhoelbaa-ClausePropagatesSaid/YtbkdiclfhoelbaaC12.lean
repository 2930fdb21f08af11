/-
  Layer 26 (clause): ClausePropagates.
-/
import Derived.Test.YtbkdiclfhoelbaaC11
namespace Go.Proofs.Ytbkdiclfhoelbaa
open Go.Lad
set_option linter.unusedVariables false
set_option linter.unusedSimpArgs false
set_option linter.unusedSectionVars false
theorem has_eq {l : List Int} {n : Int} (h : l.length ≤ 1000000) : ladinglaw26_has l n = some (decide (n ∈ l)) := by
  unfold ladinglaw26_has
  rw [loop_any l (fun x => decide (x = n)) true false (fun k hk => ?_) ?_ (by omega)]
  · congr 1
    rw [Bool.eq_iff_iff, decide_eq_true_iff]
    by_cases hn : n ∈ l
    · rw [if_pos (List.any_eq_true.2 ⟨n, hn, by simp⟩)]; simp [hn]
    · rw [if_neg (fun ha => by
        obtain ⟨x, hx, he⟩ := List.any_eq_true.1 ha
        exact hn (of_decide_eq_true he ▸ hx))]; simp [hn]
  · simp only [ladinglaw26_has.b1, lt_e, cond_false]
  · simp only [ladinglaw26_has.b1, lt_n hk, cond_true, idx_nat hk, bind_in, eqZ_eq, z64_nx hk (by omega)]
    exact bif_pick
theorem propF_ok {C : List (List Int)} {s : List Int} (h : ¬ Fails C s) : propF C s = (clos C s, true) := by
  unfold propF
  rw [if_neg (by rw [failB_iff]; exact h)]
theorem propF_bad {C : List (List Int)} {s : List Int} (h : Fails C s) : propF C s = ([], false) := by
  unfold propF
  rw [if_pos (failB_iff.2 h)]
/-- the closure is its own closure -/
theorem clos_clos {C : List (List Int)} {s : List Int} (h : ¬ Fails C s) : propF C (clos C s) = (clos C s, true) := by
  refine propF_of (fun hf => h (hf.sub (fun x hx _ => mem_clos.1 hx) fun c hc => ⟨c, hc, fun _ => Iff.rfl⟩)) (clos_sorted C s) fun x => ⟨fun hx => ?_, fun hx => .start hx (mem_clos.1 hx).lit⟩
  exact mem_clos.2 (hx.sub (fun x hx _ => mem_clos.1 hx) fun c hc => ⟨c, hc, fun _ => Iff.rfl⟩)
theorem loop1 {l : List GClause} {s : List Int} (hl : ∀ x ∈ s, Lit x) (hs : s.length ≤ 1000000) : loopF (fun x => ladinglaw26_ClausePropagates.b1 s (propF (lits l) s) x) 0 = some (.inl ()) := by
  have hpl := propF_len (lits l) s
  rw [loop_any s (fun x => (propF (lits l) s).2 && !decide (x ∈ (propF (lits l) s).1)) (.inr false) (.inl ()) (fun k hk => ?_) ?_ (by omega)]
  · rw [if_neg]
    intro ha
    obtain ⟨x, hx, ha⟩ := List.any_eq_true.1 ha
    by_cases hf : Fails (lits l) s
    · rw [propF_bad hf] at ha; cases ha
    · rw [propF_ok hf] at ha
      simp only [Bool.true_and, Bool.not_eq_true', decide_eq_false_iff_not] at ha
      exact ha (mem_clos.2 (.start hx (hl x hx)))
  · simp only [ladinglaw26_ClausePropagates.b1, lt_e, cond_false]
  · simp only [ladinglaw26_ClausePropagates.b1, lt_n hk, cond_true, idx_nat hk, bind_in, has_eq (show (propF (lits l) s).1.length ≤ 1000000 by omega)]
    cases (propF (lits l) s).2 with
    | false => simp only [cond_false, bind_in, ladinglaw26_ClausePropagates.j1, z64_nx hk (by omega), Bool.false_and]; rfl
    | true =>
      rw [cond_true, bind_in, Bool.true_and]
      simp only [ladinglaw26_ClausePropagates.j1, z64_nx hk (by omega), bind_in]
      exact bif_pick
theorem loop2 {C : List (List Int)} {s : List Int} : loopF (fun x => ladinglaw26_ClausePropagates.b2 (propF C s) x) 1 = some (.inl ()) := by
  have hpl := propF_len C s
  have hsort : (propF C s).1.Pairwise (· < ·) := by
    by_cases hf : Fails C s
    · rw [propF_bad hf]; exact .nil
    · rw [propF_ok hf]; dsimp only; exact clos_sorted C s
  generalize propF C s = p at *
  obtain ⟨r, h1, h2⟩ := loopF_inv (body := fun x => ladinglaw26_ClausePropagates.b2 p x) (fun k x => x = ((k + 1 : Nat) : Int)) (Q := fun r => r = .inl ()) (p.1.length - 1) (x := 1) rfl
    (fun k hk x hx => by
      subst hx
      have h1 : k + 1 < p.1.length := by omega
      have h2 : k < p.1.length := by omega
      simp only [ladinglaw26_ClausePropagates.b2, lt_n h1, cond_true, idx_nat h1, bind_in, z64_p (show ((k + 1 : Nat) : Int) - 1 = (k : Int) by omega) (by omega) (by omega), idx_nat h2, leZ_eq, z64_nx h1 (by omega)]
      have := List.pairwise_iff_getElem.1 hsort k (k + 1) h2 h1 (by omega)
      rw [decide_eq_false (by omega), cond_false]
      exact .inl ⟨_, rfl, rfl⟩)
    (fun x hx => by
      subst hx
      simp only [ladinglaw26_ClausePropagates.b2, ltZ_eq]
      rw [decide_eq_false (by omega), cond_false]
      exact ⟨_, rfl, rfl⟩)
    (by omega)
  rw [← h2]; exact h1
theorem loop3 {s : List Int} {m : List Bool} {h : Bool} (hs : s.length ≤ 1000000) : loopF (fun x => ladinglaw26_ClausePropagates.b3 s m x.1 x.2) (h, 0) = some (h && s.all (tru m)) := by
  refine loopF_at (body := fun x => ladinglaw26_ClausePropagates.b3 s m x.1 x.2) (fun k => (h && (s.take k).all (tru m), (k : Int))) s.length (by simp) (fun k hk => ?_) ?_ (by omega)
  · simp only [ladinglaw26_ClausePropagates.b3, lt_n hk, cond_true, idx_nat hk, bind_in, true_eq, z64_nx hk (by omega)]
    rw [take_snoc s k hk, List.all_append, ← Bool.and_assoc]
    cases h && (s.take k).all (tru m) with
    | false => rfl
    | true => simp
  · simp only [ladinglaw26_ClausePropagates.b3, lt_e, cond_false, List.take_length]
theorem loop4 {C s : _} {m : List Bool} {k : Nat} (hk : k ≤ 1000) (hp : ∀ x ∈ (propF C s).1, tru m x = true) : loopF (fun x => ladinglaw26_ClausePropagates.b4 (propF C s) (k : Int) m true x) 0 = some (.inl ((k + 1 : Nat) : Int)) := by
  have hpl := propF_len C s
  rw [loop_any (propF C s).1 (fun x => !tru m x) (.inr (.inr false)) (.inl ((k + 1 : Nat) : Int)) (fun j hj => ?_) ?_ (by omega)]
  · rw [if_neg]
    intro ha
    obtain ⟨x, hx, ha⟩ := List.any_eq_true.1 ha
    rw [hp x hx] at ha; cases ha
  · simp only [ladinglaw26_ClausePropagates.b4, cond_true, bind_in, lt_e, ladinglaw26_ClausePropagates.j2, cond_false, z64_succ (show k + 1 ≤ 9223372036854775807 by omega)]; rfl
  · simp only [ladinglaw26_ClausePropagates.b4, cond_true, bind_in, lt_n hj, ladinglaw26_ClausePropagates.j2, idx_nat hj, true_eq, z64_nx hj (by omega)]
    exact bif_pick
theorem loop5 {l : List GClause} {s : List Int} {N : Nat} (hok : Ok (lits l)) (hl : ∀ x ∈ s, Lit x) (hs : s.length ≤ 1000000) (hN : N ≤ 8) :
    loopF (fun x => ladinglaw26_ClausePropagates.b5 l s (N : Int) (propF (lits l) s) x) 0 = some (.inl ()) := by
  have hpw : 2 ^ N ≤ 2 ^ 8 := Nat.pow_le_pow_right (by omega) hN
  obtain ⟨r, h1, h2⟩ := loopF_inv (body := fun x => ladinglaw26_ClausePropagates.b5 l s (N : Int) (propF (lits l) s) x) (fun k x => x = (k : Int)) (Q := fun r => r = .inl ()) (2 ^ N) (x := 0) rfl
    (fun k hk x hx => by
      subst hx
      obtain ⟨m, hm, hml⟩ := model_eq (n := N) (bits := k) hN (by omega)
      simp only [ladinglaw26_ClausePropagates.b5, shl1_eq hN, bind_in, lt_n hk, cond_true, hm, holds_eq hok, loop3 hs]
      cases ha : holdsF l m && s.all (tru m) with
      | false =>
        refine .inl ⟨((k + 1 : Nat) : Int), ?_, rfl⟩
        simp only [ladinglaw26_ClausePropagates.j4, cond_false, bind_in, ladinglaw26_ClausePropagates.j3]
        refine loopF_of (n := 1) ?_ (by omega)
        unfold iterM
        simp only [ladinglaw26_ClausePropagates.b4, cond_false, bind_in, ladinglaw26_ClausePropagates.j2, z64_succ (show k + 1 ≤ 9223372036854775807 by omega)]; rfl
      | true =>
        rw [Bool.and_eq_true] at ha
        have hC := holds_iff.1 ha.1
        have ht : ∀ x ∈ s, Lit x → tru m x = true := fun x hx _ => List.all_eq_true.1 ha.2 x hx
        have hnf : ¬ Fails (lits l) s := fun hf => hf.no hC ht
        refine .inl ⟨((k + 1 : Nat) : Int), ?_, rfl⟩
        have h4 := loop4 (C := lits l) (s := s) (m := m) (k := k) (by omega) fun x hx => by
          rw [propF_ok hnf] at hx
          dsimp only at hx
          exact (mem_clos.1 hx).tru hC ht
        rw [propF_ok hnf] at h4 ⊢
        simp only [ladinglaw26_ClausePropagates.j4, cond_true, bind_in, ladinglaw26_ClausePropagates.j3, Bool.not_true, cond_false]
        exact h4)
    (fun x hx => by
      subst hx
      simp only [ladinglaw26_ClausePropagates.b5, shl1_eq hN, bind_in, lt_e, cond_false]
      exact ⟨_, rfl, rfl⟩)
    (by omega)
  rw [← h2]; exact h1
theorem propagates_true (l : List GClause) (s : List Int) (n : Int) : ladinglaw26_ClausePropagates l s n = some true := by
  unfold ladinglaw26_ClausePropagates
  rw [small_true, bind_in]
  simp only [ltZ_eq, bif_dec]
  by_cases h0 : n < 0
  · rw [if_pos h0, bind_in]; simp only [ladinglaw26_ClausePropagates.j10, cond_true]
  rw [if_neg h0]
  by_cases h8 : 8 < n
  · rw [if_pos h8, bind_in]; simp only [ladinglaw26_ClausePropagates.j10, cond_true]
  rw [if_neg h8]
  obtain ⟨N, rfl⟩ : ∃ N : Nat, n = N := ⟨n.toNat, by omega⟩
  have hN : N ≤ 8 := by omega
  obtain ⟨b, h1, h2⟩ := light_eq (l := l) (n := 40) (by omega)
  have h1 : ladinglaw26_light l 40 = some b := h1
  rw [h1, bind_in]
  cases b with
  | false => simp only [Bool.not_false, cond_true, bind_in, ladinglaw26_ClausePropagates.j10]
  | true =>
    have h2 := h2 rfl
    have hok := ok8 (by omega) h2
    rw [Bool.not_true, cond_false, right_eq hok, bind_in]
    cases hr : rightF l (N : Int) with
    | false => simp only [Bool.not_false, cond_true, bind_in, ladinglaw26_ClausePropagates.j10]
    | true =>
      rw [Bool.not_true, cond_false]
      by_cases h16 : (16 : Int) < (s.length : Int)
      · rw [if_pos h16, bind_in]; simp only [ladinglaw26_ClausePropagates.j10, cond_true]
      rw [if_neg h16]
      have hs : s.length ≤ 1000000 := by omega
      have hoks : Ok (lits [(s, 0, 0, 0)]) := ok_of (by simp) fun c hc => by rw [List.mem_singleton.1 hc]; exact hs
      rw [right_eq hoks, bind_in, bind_in]
      cases hrs : rightF [(s, 0, 0, 0)] (N : Int) with
      | false => simp only [Bool.not_false, cond_true, ladinglaw26_ClausePropagates.j10]
      | true =>
        have hl : ∀ x ∈ s, Lit x := fun x hx => by
          have := (rightF_iff.1 hrs).2 _ (List.mem_singleton.2 rfl) x hx
          unfold Lit
          omega
        have hpl := propF_len (lits l) s
        simp only [Bool.not_true, cond_false, ladinglaw26_ClausePropagates.j10]
        rw [prop_eq hok hs, bind_in, loop1 hl hs, bind_in]
        simp only [ladinglaw26_ClausePropagates.j9]
        rw [loop2, bind_in]
        simp only [ladinglaw26_ClausePropagates.j8]
        rw [prop_eq hok (by omega), bind_in]
        have hv : ((bif (propF (lits l) s).2 then
            (bif (!(propF (lits l) (propF (lits l) s).1).2) then some true
            else ((ladingref26_Same (propF (lits l) (propF (lits l) s).1).1 (propF (lits l) s).1).bind fun s21 =>
              bif (!s21) then some true
              else (bif (!(propF (lits l) s).2) then some (ltZ 0 ((propF (lits l) s).1.length : Int)) else some false)))
          else (bif (!(propF (lits l) s).2) then some (ltZ 0 ((propF (lits l) s).1.length : Int)) else some false)) : Option Bool) = some false := by
          by_cases hf : Fails (lits l) s
          · rw [propF_bad hf]
            simp only [cond_false, Bool.not_false, cond_true, List.length_nil, ltZ_eq]; rfl
          · have hcl := clos_len (lits l) s
            rw [propF_ok hf]
            simp only [cond_true]
            rw [clos_clos hf]
            simp only [Bool.not_true, cond_false]
            rw [same_eq (by omega), bind_in, decide_eq_true rfl, Bool.not_true, cond_false]
        rw [hv, bind_in]
        simp only [ladinglaw26_ClausePropagates.j7, cond_false]
        rw [loop5 hok hl hs hN, bind_in]
        simp only [ladinglaw26_ClausePropagates.j6, eqZ_eq, bif_dec]
        cases s with
        | nil => rw [if_pos (by simp)]
        | cons x s =>
          rw [if_neg (by simp only [List.length_cons]; omega), cut1, bind_in, prop_eq hok (by simp only [List.length_cons] at hs; omega), bind_in]
          have hpl2 := propF_len (lits l) s
          by_cases hf : Fails (lits l) (x :: s)
          · rw [propF_bad hf]
            refine loopF_of (n := 1) ?_ (by omega)
            unfold iterM
            simp only [ladinglaw26_ClausePropagates.b6, cond_false, bind_in, ladinglaw26_ClausePropagates.j5, cond_true, Bool.not_false]
            cases (propF (lits l) s).2 <;> rfl
          · have hf2 : ¬ Fails (lits l) s := fun h => hf (h.mono (fun y hy => List.mem_cons_of_mem _ hy) fun c hc => hc)
            have hcl := clos_len (lits l) s
            have hcl2 := clos_len (lits l) (x :: s)
            rw [propF_ok hf, propF_ok hf2]
            rw [loop_any (clos (lits l) s) (fun y => !decide (y ∈ clos (lits l) (x :: s))) false true (fun j hj => ?_) ?_ (by omega)]
            · rw [if_neg]
              intro ha
              obtain ⟨y, hy, ha⟩ := List.any_eq_true.1 ha
              rw [Bool.not_eq_true', decide_eq_false_iff_not] at ha
              exact ha (mem_clos.2 ((mem_clos.1 hy).mono (fun y hy => List.mem_cons_of_mem _ hy) fun c hc => hc))
            · simp only [ladinglaw26_ClausePropagates.b6, cond_true, bind_in, lt_e, ladinglaw26_ClausePropagates.j5, cond_false]; rfl
            · simp only [ladinglaw26_ClausePropagates.b6, cond_true, bind_in, lt_n hj, ladinglaw26_ClausePropagates.j5, idx_nat hj, has_eq (show (clos (lits l) (x :: s)).length ≤ 1000000 by omega), z64_nx hj (by omega)]
              exact bif_pick
end Go.Proofs.Ytbkdiclfhoelbaa
