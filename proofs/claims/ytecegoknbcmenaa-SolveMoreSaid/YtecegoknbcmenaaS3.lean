/-
  Layer 27 (solve): the reference.
-/
import Derived.Test.YtecegoknbcmenaaS2
namespace Go.Proofs.Ytecegoknbcmenaa
open Go.Lad
set_option linter.unusedVariables false
set_option linter.unusedSimpArgs false
set_option linter.unusedSectionVars false
theorem bad_test {n x : Int} (h : 0 ≤ n ∧ n ≤ 2000) : (bif eqZ x 0 then some true else (z64 (-n)).bind fun v => bif ltZ x v then some true else some (ltZ n x)) = some (badN n x) := by
  unfold badN
  simp only [eqZ_eq, ltZ_eq, bif_dec]
  rw [z64_in (by omega) (by omega), bind_in]
  by_cases h1 : x = 0
  · rw [if_pos h1, decide_eq_true (.inl h1)]
  · rw [if_neg h1]
    by_cases h2 : x < -n
    · rw [if_pos h2, decide_eq_true (.inr (.inl h2))]
    · rw [if_neg h2]
      congr 1
      rw [decide_eq_decide]
      omega
theorem rbad_eq {n : Int} {s : List Int} (h : 0 ≤ n ∧ n ≤ 2000) (hs : s.length ≤ 1000000) : loopF (fun x => ladingref27_Solve.b1 n s x) 0 = some (if badA n s = true then .inr ([], [], 1) else .inl ()) := by
  rw [loop_any (body := fun x => ladingref27_Solve.b1 n s x) s (badN n) (.inr ([], [], 1)) (.inl ()) (fun k hk => ?_) ?_ (by omega)]
  · rfl
  · simp only [ladingref27_Solve.b1, lt_e, cond_false]
  · simp only [ladingref27_Solve.b1, lt_n hk, cond_true, idx_nat hk, bind_in, bad_test h, ladingref27_Solve.j1, z64_nx hk (by omega)]
    exact bif_pick
theorem ropens_eq {cl : List Int} {n : Nat} (hn : n ≤ 2000) (hc : cl.length ≤ 1000000) : loopF (fun x => ladingref27_Solve.b3 (n : Int) (true, cl) x) 0 = some (openN cl n : Int) := by
  obtain ⟨b, h1, v, rfl, h2, h3, h4⟩ := loopF_inv (body := fun x => ladingref27_Solve.b3 (n : Int) (true, cl) x) (fun k x => x = (k : Int) ∧ ∀ j, j < k → opn cl j = false) (Q := fun b => ∃ v : Nat, b = (v : Int) ∧ v ≤ n ∧ (∀ j, j < v → opn cl j = false) ∧ (v < n → opn cl v = true)) n (x := 0) ⟨rfl, fun j h => by omega⟩
    (fun k hk x hx => by
      obtain ⟨rfl, hx⟩ := hx
      simp only [ladingref27_Solve.b3, lt_n hk, cond_true]
      rw [z64_in (by omega) (by omega), bind_in, has_eq hc, bind_in, z64_in (by omega) (by omega), bind_in, z64_in (by omega) (by omega), bind_in, has_eq hc, bind_in]
      have ho : (bif decide ((k : Int) + 1 ∈ cl) then some true else some (decide (-(k : Int) - 1 ∈ cl))) = some (!opn cl k) := by
        unfold opn
        by_cases h1 : (k : Int) + 1 ∈ cl <;> by_cases h2 : -(k : Int) - 1 ∈ cl <;> simp [h1, h2]
      rw [ho, bind_in]
      simp only [ladingref27_Solve.j3]
      cases hk2 : opn cl k with
      | true =>
        rw [Bool.not_true, cond_false]
        exact .inr ⟨_, rfl, k, rfl, by omega, hx, fun _ => hk2⟩
      | false =>
        rw [Bool.not_false, cond_true, z64_in (by omega) (by omega), bind_in]
        refine .inl ⟨_, rfl, by omega, fun j hj => ?_⟩
        rcases Nat.lt_or_ge j k with h | h
        · exact hx j h
        · have : j = k := by omega
          rw [this]; exact hk2)
    (fun x hx => by
      obtain ⟨rfl, hx⟩ := hx
      exact ⟨(n : Int), by simp only [ladingref27_Solve.b3, lt_e, cond_false, bind_in, ladingref27_Solve.j3], n, rfl, Nat.le_refl _, hx, fun h => by omega⟩)
    (by omega)
  rw [h1, openN_uniq h2 h3 h4]
theorem rsolve_eq {l : List GClause} {n : Nat} {asm : List Int} (hn : n ≤ 2000) (hl : l.length ≤ 100000) (hc : ∀ c ∈ l, c.1.length ≤ 1000000) (has : asm.length ≤ 100000) (hr : rightF l (n : Int) = true) (hb : badA (n : Int) asm = false) :
    ∃ r, ladingref27_Solve l (n : Int) asm = some r ∧ Runs (lits l) n asm ([], []) r := by
  unfold ladingref27_Solve
  rw [rright_eq (ok_of (by omega) hc), bind_in, hr, Bool.not_true, cond_false, rbad_eq (by omega) (by omega), hb, if_neg (by simp), bind_in]
  show ∃ r, ladingref27_Solve.j6 l (n : Int) asm = some r ∧ _
  unfold ladingref27_Solve.j6
  rw [app_in (by simp only [List.length_nil]; omega), bind_in, List.nil_append]
  refine steps_loop (body := fun x => ladingref27_Solve.b5 (n : Int) asm x.1 x.2.1 x.2.2) hn fun L D hg => ?_
  have hDl : D.length ≤ n := hg.len
  have hf : L.length ≤ 4000 := hg.few
  have hok := ok_app hl hc hn hf hg.short
  simp only [ladingref27_Solve.b5]
  rw [app_in (by simp only [List.length_nil]; omega), bind_in, List.nil_append, app_in (by omega), bind_in, rprop_eq hok (by simp only [List.length_append]; omega), bind_in, lits_app]
  unfold step
  simp only
  by_cases hfail : failB (lits l ++ L) (asm ++ D) = true
  · rw [if_pos hfail]
    have hp : propF (lits l ++ L) (asm ++ D) = ([], false) := by unfold propF; rw [if_pos hfail]
    rw [hp]
    simp only [Bool.not_false, cond_true]
    have key : loopF (fun x => ladingref27_Solve.b2 D x.1 x.2) (0, []) = some (neg D) := by
      refine loopF_at (body := fun x => ladingref27_Solve.b2 D x.1 x.2) (fun k => ((k : Int), neg (D.take k))) D.length rfl (fun k hk => ?_) ?_ (by omega)
      · have hlow := hg.low _ (List.getElem_mem hk)
        simp only [ladingref27_Solve.b2, lt_n hk, cond_true, idx_nat hk, bind_in]
        rw [z64_in (by omega) (by omega), bind_in, app_in (by unfold neg; simp; omega), bind_in, z64_nx hk (by omega), bind_in, take_snoc D k hk, neg_snoc]
      · simp only [ladingref27_Solve.b2, lt_e, cond_false, List.take_length]
    rw [key, bind_in]
    unfold ladingref27_Solve.j2
    rw [app_in (by simp only [List.length_singleton]; omega), bind_in, app_in (by simp only [List.length_append, List.length_map, List.length_singleton]; omega), bind_in, bif_ltZ]
    by_cases h4 : L.length = 4000
    · rw [if_pos (by simp only [List.length_append, List.length_singleton]; omega), if_pos h4]; rfl
    · rw [if_neg (by simp only [List.length_append, List.length_singleton]; omega), if_neg h4, bif_eqZ]
      by_cases hD : D = []
      · rw [if_pos (by rw [hD]; rfl), if_pos hD]; rfl
      · have hpos := List.length_pos_iff.2 hD
        rw [if_neg (by omega), if_neg hD, z64_pred hpos (by omega), bind_in, cut_last hD, bind_in, bind_in]
        simp only [List.map_append, List.append_assoc]; rfl
  · rw [if_neg hfail]
    have hp : propF (lits l ++ L) (asm ++ D) = (clos (lits l ++ L) (asm ++ D), true) := by unfold propF; rw [if_neg hfail]
    have hcl := clos_len (lits l ++ L) (asm ++ D)
    rw [hp]
    generalize clos (lits l ++ L) (asm ++ D) = cl at *
    simp only [Bool.not_true, cond_false, bind_in, ladingref27_Solve.j5]
    rw [ropens_eq hn (by omega), bind_in]
    unfold ladingref27_Solve.j4
    rw [bif_ltZ]
    have hol := (openN_spec cl n).1
    by_cases hv : openN cl n < n
    · rw [if_pos (by omega), if_pos hv, z64_in (by omega) (by omega), bind_in, z64_in (by omega) (by omega), bind_in, app_in (by simp only [List.length_singleton]; omega), bind_in]
    · rw [if_neg (by omega), if_neg hv, msNeed_in (by omega) (by omega), bind_in]
      obtain ⟨r, h1, h2⟩ := loopF_inv (body := fun x => ladingref27_Solve.b4 (n : Int) (true, cl) x.1 x.2) (fun k x => x.1 = (k : Int) ∧ x.2.length = n ∧ x.2.take k = modelF cl k) (Q := fun r => r = .inr (modelF cl n, [], 0)) n (x := (0, repT (n : Int) false)) ⟨rfl, by rw [repT_len]; simp, rfl⟩
        (fun k hk x hx => by
          obtain ⟨i, o⟩ := x
          obtain ⟨h1, h2, h3⟩ := hx
          simp only at h1 h2 h3
          subst h1
          have hko : k < o.length := by omega
          have hz1 : z64 ((k : Int) + 1) = some ((k : Int) + 1) := z64_in (by omega) (by omega)
          refine .inl ⟨(((k + 1 : Nat) : Int), o.set (k : Int).toNat (decide ((k : Int) + 1 ∈ cl))), ?_, rfl, by rw [List.length_set]; exact h2, ?_⟩
          · simp only [ladingref27_Solve.b4, lt_n hk, cond_true, hz1, bind_in, has_eq (show cl.length ≤ 1000000 by omega), idx_nat hko]
            rfl
          · simp only
            rw [Int.toNat_natCast, take_snoc _ k (by rw [List.length_set]; omega), List.getElem_set_self, List.take_set, List.set_eq_of_length_le (by rw [List.length_take]; omega), h3, modelF_succ])
        (fun x hx => by
          obtain ⟨i, o⟩ := x
          obtain ⟨h1, h2, h3⟩ := hx
          simp only at h1 h2 h3
          subst h1
          refine ⟨.inr (o, [], 0), by simp only [ladingref27_Solve.b4, lt_e, cond_false], ?_⟩
          rw [← h3, List.take_of_length_le (by omega)])
        (by omega)
      rw [h1, h2]
theorem rsolve_bad {l : List GClause} {n : Int} {asm : List Int} (hl : l.length ≤ 100000) (hc : ∀ c ∈ l, c.1.length ≤ 1000000) (has : asm.length ≤ 100000) (h : rightF l n = false ∨ badA n asm = true) : ladingref27_Solve l n asm = some ([], [], 1) := by
  unfold ladingref27_Solve
  rw [rright_eq (ok_of (by omega) hc), bind_in]
  cases hr : rightF l n with
  | false => rw [Bool.not_false, cond_true]
  | true =>
    have hb := h.resolve_left (by rw [hr]; simp)
    have hn := (rightF_iff.1 hr).1
    rw [Bool.not_true, cond_false, rbad_eq ⟨hn.1, hn.2.1⟩ (by omega), hb, if_pos rfl, bind_in]
/-! ### the results -/
theorem Good.res {C : List (List Int)} {n : Nat} {asm : List Int} {st : List (List Int) × List Int} {r : Res} (h : Good n st) (hn : n ≤ 2000) (hr : Runs C n asm st r) : r.1.length ≤ n ∧ r.2.1.length ≤ 4000 ∧ ∀ c ∈ r.2.1, c.length ≤ n := by
  induction hr with
  | stop hs =>
    rename_i st r
    obtain ⟨L, D⟩ := st
    have hl := h.len
    have hf := h.few
    unfold Go.Proofs.Ytecegoknbcmenaa.step at hs
    simp only at hs hl hf
    split at hs
    · split at hs
      · injection hs with hs; subst hs; exact ⟨by simp, by simp, fun c hc => by cases hc⟩
      · rename_i h4
        split at hs
        · injection hs with hs; subst hs
          refine ⟨by simp, by simp only [List.length_append, List.length_singleton]; omega, fun c hc => ?_⟩
          rcases List.mem_append.1 hc with hc | hc
          · exact h.short c hc
          · rw [List.mem_singleton.1 hc]; unfold neg; rw [List.length_map]; exact hl
        · cases hs
    · split at hs
      · cases hs
      · injection hs with hs; subst hs
        exact ⟨by rw [modelF_len]; exact Nat.le_refl _, by simp, fun c hc => by cases hc⟩
  | next hs _ ih => exact ih (h.step hn hs).1
/-- the code returns what the reference returns -/
theorem solve_both {l : List GClause} {n : Int} {asm : List Int} (hl : l.length ≤ 100000) (hc : ∀ c ∈ l, c.1.length ≤ 1000000) (has : asm.length ≤ 100000) : ∃ r, solve_Solve l n asm = some r ∧ ladingref27_Solve l n asm = some r ∧ r.1.length ≤ 2000 ∧ r.2.1.length ≤ 4000 ∧ ∀ c ∈ r.2.1, c.length ≤ 2000 := by
  cases hr : rightF l n with
  | false => exact ⟨_, solve_bad hl hc has (.inl hr), rsolve_bad hl hc has (.inl hr), by simp, by simp, fun c hc => by cases hc⟩
  | true =>
    cases hb : badA n asm with
    | true => exact ⟨_, solve_bad hl hc has (.inr hb), rsolve_bad hl hc has (.inr hb), by simp, by simp, fun c hc => by cases hc⟩
    | false =>
      have hn := (rightF_iff.1 hr).1
      obtain ⟨N, rfl⟩ : ∃ N : Nat, n = N := ⟨n.toNat, by omega⟩
      have hN : N ≤ 2000 := by omega
      obtain ⟨r, h1, h2⟩ := solve_eq hN hl hc has hr hb
      obtain ⟨r', h3, h4⟩ := rsolve_eq hN hl hc has hr hb
      have := h4.det h2
      subst this
      have h5 := (good_nil N).res hN h2
      exact ⟨_, h1, h3, by omega, h5.2.1, fun c hc => by have := h5.2.2 c hc; omega⟩
end Go.Proofs.Ytecegoknbcmenaa
