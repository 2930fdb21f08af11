/-
  Layer 27 (solve): SolveMore.
-/
import Derived.Test.YtecegoknbcmenaaS5
namespace Go.Proofs.Ytecegoknbcmenaa
open Go.Lad
set_option linter.unusedVariables false
set_option linter.unusedSimpArgs false
set_option linter.unusedSectionVars false
theorem prop2_eq {l : List GClause} {s : List Int} (h : Ok (lits l)) (hs : s.length ≤ 1000000) : clause_Propagate_v2 l s = some (propF (lits l) s) := by
  unfold clause_Propagate_v2
  obtain ⟨b, h1, h2⟩ := load_eq h
  obtain ⟨r, h3, h4⟩ := close_eq (s := s) h2 h hs
  rw [h1, bind_in, h3, bind_in, bif_not]
  unfold propF
  rcases h4 with ⟨h5, h6⟩ | ⟨h5, h6, h7, h8, h9⟩
  · rw [h5, cond_false, if_pos (failB_iff.2 h6)]
  · rw [h5, cond_true, if_neg (by rw [failB_iff]; exact h6)]
    refine loopF_at (body := fun x => clause_Propagate_v2.b1 r x.1 x.2) (fun k => ((k : Int), (upTo k).filter (derB (lits l) s))) 4001 rfl (fun k hk => ?_) ?_ (by omega)
    · have hv : vNeed (k : Int) 4001 = some () := by
        unfold vNeed
        rw [ltZ_eq, decide_eq_true (by omega)]; rfl
      have hfl : ((upTo k).filter (derB (lits l) s)).length ≤ k := Nat.le_trans (List.length_filter_le _ _) (by rw [upTo_len]; exact Nat.le_refl _)
      simp only [clause_Propagate_v2.b1, ltZ_eq, hv, bind_in, ins_at h7 hk, ins_der h8 h9 (show (-2000 : Int) ≤ (k : Int) - 2000 by omega) (show (k : Int) - 2000 ≤ 2000 by omega)]
      rw [decide_eq_true (by omega), cond_true, upTo_succ, List.filter_append, fil1]
      cases hd : derB (lits l) s ((k : Int) - 2000) with
      | true =>
        rw [cond_true, z64_in (by omega) (by omega), bind_in, app_in (by simp; omega), bind_in, z64_succ (by omega), bind_in, if_pos rfl]
      | false =>
        rw [cond_false, z64_succ (by omega), bind_in, if_neg (by simp), List.append_nil]
    · simp only [clause_Propagate_v2.b1, ltZ_eq]
      rw [decide_eq_false (by omega), cond_false]; rfl
theorem before_tri : ∀ {a b : List Bool}, a.length = b.length → a = b ∨ Before a b ∨ Before b a
  | [], [], _ => .inl rfl
  | [], _ :: _, h => by cases h
  | _ :: _, [], h => by cases h
  | x :: a, y :: b, h => by
    by_cases hxy : x = y
    · subst hxy
      rcases before_tri (a := a) (b := b) (by simpa using h) with h1 | ⟨v, g1, g2, g3⟩ | ⟨v, g1, g2, g3⟩
      · exact .inl (by rw [h1])
      · exact .inr (.inl ⟨v + 1, by rw [List.take_succ_cons, List.take_succ_cons, g1], by simpa using g2, by simpa using g3⟩)
      · exact .inr (.inr ⟨v + 1, by rw [List.take_succ_cons, List.take_succ_cons, g1], by simpa using g2, by simpa using g3⟩)
    · cases x with
      | true =>
        have : y = false := by cases y <;> simp_all
        subst this
        exact .inr (.inr ⟨0, rfl, rfl, rfl⟩)
      | false =>
        have : y = true := by cases y <;> simp_all
        subst this
        exact .inr (.inl ⟨0, rfl, rfl, rfl⟩)
theorem der_range {C : List (List Int)} {n : Nat} {s : List Int} {x : Int} (ha : Asked C n s) (h : Der C s x) : x.natAbs ≤ n :=
  h.least (fun x => x.natAbs ≤ n) (fun x hx _ => (ha.asmOK x hx).2) fun c hc x hx _ _ => (ha.right c hc x hx).2
/-- the true literals of a model -/
def truesF (m : List Bool) (k : Nat) : List Int := ((List.range k).filter fun i => m.getD i false).map fun (i : Nat) => (i : Int) + 1
theorem trues_succ (m : List Bool) {k : Nat} (hk : k < m.length) : truesF m (k + 1) = truesF m k ++ if m[k] = true then [(k : Int) + 1] else [] := by
  unfold truesF
  rw [List.range_succ, List.filter_append, List.map_append, fil1, List.getD_eq_getElem?_getD, List.getElem?_eq_getElem hk, Option.getD_some]
  cases m[k] <;> rfl
theorem trues_len (m : List Bool) (k : Nat) : (truesF m k).length ≤ k := by
  unfold truesF
  rw [List.length_map]
  exact Nat.le_trans (List.length_filter_le _ _) (by simp)
theorem trues_loop {m : List Bool} {K : List (List Int)} {e : Int} {s : List Int} (hm : m.length ≤ 1000) (hs : s.length ≤ 1000) : loopF (fun x => ladinglaw27_SolveMore.b1 (m, K, e) x.1 x.2) (0, s) = some (s ++ truesF m m.length) := by
  refine loopF_at (body := fun x => ladinglaw27_SolveMore.b1 (m, K, e) x.1 x.2) (fun k => ((k : Int), s ++ truesF m k)) m.length (by simp [truesF]) (fun k hk => ?_) ?_ (by omega)
  · have hl := trues_len m k
    have hz1 : z64 ((k : Int) + 1) = some ((k : Int) + 1) := z64_in (by omega) (by omega)
    simp only [ladinglaw27_SolveMore.b1, lt_n hk, cond_true, idx_nat hk, bind_in, hz1]
    rw [trues_succ m hk]
    cases m[k] with
    | true =>
      rw [cond_true, app_in (by simp only [List.length_append, List.length_singleton]; omega), bind_in, if_pos rfl, List.append_assoc]; rfl
    | false => rw [cond_false, if_neg (by simp), List.append_nil]; rfl
  · simp only [ladinglaw27_SolveMore.b1, lt_e, cond_false]
theorem more_true (l : List GClause) (n : Int) (asm more : List Int) : ladinglaw27_SolveMore l n asm more = some true := by
  unfold ladinglaw27_SolveMore
  rw [small_true, bind_in]
  obtain ⟨b, h1, h2⟩ := few_eq (l := l) (n := n) (most := 11) (s := asm)
  rw [h1, bind_in]
  cases b with
  | false => rw [Bool.not_false, cond_true, bind_in]; simp only [ladinglaw27_SolveMore.j7, cond_true]
  | true =>
    obtain ⟨g1, g2, g3, g4⟩ := h2 rfl
    have hc : ∀ c ∈ l, c.1.length ≤ 1000000 := fun c hc => by have := g2 c hc; omega
    have hok : Ok (lits l) := ok_of (by omega) hc
    rw [Bool.not_true, cond_false, bif_ltZ]
    by_cases h8 : (8 : Int) < (more.length : Int)
    · rw [if_pos h8, bind_in]; simp only [ladinglaw27_SolveMore.j7, cond_true]
    rw [if_neg h8]
    have hokm : Ok (lits [(more, 0, 0, 0)]) := ok_of (by simp) fun c hc => by rw [List.mem_singleton.1 hc]; show more.length ≤ _; omega
    rw [right_eq hokm, bind_in, bind_in]
    cases hrm : rightF [(more, 0, 0, 0)] n with
    | false => rw [Bool.not_false]; simp only [ladinglaw27_SolveMore.j7, cond_true]
    | true =>
      have hmr := rightF_iff.1 hrm
      rw [Bool.not_true]
      simp only [ladinglaw27_SolveMore.j7, cond_false]
      have hc2 : ∀ c ∈ l ++ [(more, 0, 0, 0)], c.1.length ≤ 1000000 := fun c hm => by
        rcases List.mem_append.1 hm with hm | hm
        · exact hc c hm
        · rw [List.mem_singleton.1 hm]; show more.length ≤ _; omega
      have hl2 : (l ++ [(more, 0, 0, 0)]).length ≤ 100000 := by simp only [List.length_append, List.length_singleton]; omega
      have hlits : lits (l ++ [(more, 0, 0, 0)]) = lits l ++ [more] := by unfold lits; rw [List.map_append]; rfl
      have hR : rightF (l ++ [(more, 0, 0, 0)]) n = rightF l n := by
        rw [Bool.eq_iff_iff, rightF_iff, rightF_iff]
        constructor
        · exact fun h => ⟨⟨h.1.1, h.1.2.1, by omega⟩, fun c hm x hx => h.2 c (List.mem_append_left _ hm) x hx⟩
        · refine fun h => ⟨⟨h.1.1, h.1.2.1, by simp only [List.length_append, List.length_singleton]; omega⟩, fun c hm x hx => ?_⟩
          rcases List.mem_append.1 hm with hm | hm
          · exact h.2 c hm x hx
          · exact hmr.2 c hm x hx
      have hbadcase : (rightF l n = false ∨ badA n asm = true) → solve_Solve l n asm = some ([], [], 1) ∧ solve_Solve (l ++ [(more, 0, 0, 0)]) n asm = some ([], [], 1) := fun h =>
        ⟨solve_bad (by omega) hc (by omega) h, solve_bad hl2 hc2 (by omega) (by rw [hR]; exact h)⟩
      by_cases hbad : rightF l n = false ∨ badA n asm = true
      · obtain ⟨e1, e2⟩ := hbadcase hbad
        rw [e1, bind_in, app_in (by simp only [List.length_nil]; omega), bind_in, List.nil_append, app_in (by simp only [List.length_singleton]; omega), bind_in, e2, bind_in]
        simp only [eqZ_eq]
        rw [show decide ((1 : Int) = 0) = false from rfl, Bool.not_false, cond_true, cond_true, decide_true]
      · rw [not_or] at hbad
        have hr : rightF l n = true := by simpa using hbad.1
        have hb : badA n asm = false := by simpa using hbad.2
        have hn := (rightF_iff.1 hr).1
        obtain ⟨N, rfl⟩ : ∃ N : Nat, n = N := ⟨n.toNat, by omega⟩
        have ha := asked_of hr hb
        obtain ⟨r, e1, o1⟩ := solve_found (l := l) (n := N) (asm := asm) (by omega) hc (by omega) hr hb
        obtain ⟨r2, e2, o2⟩ := solve_found (l := l ++ [(more, 0, 0, 0)]) (n := N) (asm := asm) hl2 hc2 (by omega) (by rw [hR]; exact hr) hb
        rw [hlits] at o2
        have hsub : ∀ m, Sat (lits l ++ [more]) N asm m → Sat (lits l) N asm m := fun m hm => ⟨hm.1, fun c hc => hm.2.1 c (List.mem_append_left _ hc), hm.2.2⟩
        rw [e1, bind_in, app_in (by simp only [List.length_nil]; omega), bind_in, List.nil_append, app_in (by simp only [List.length_singleton]; omega), bind_in, e2, bind_in]
        rcases o1 with ⟨m, rfl, hm1, hm2⟩ | ⟨K, rfl, hu1, hu2⟩ | ⟨K, rfl, hK1, hK2, hK3⟩
        · have hml := hm1.1
          have hholds : clause_Holds [(more, 0, 0, 0)] m = some (holdsF [(more, 0, 0, 0)] m) := holds_eq hokm
          have hmore : holdsF [(more, 0, 0, 0)] m = true ↔ ∃ x ∈ more, tru m x = true := by
            rw [holds_iff]
            exact ⟨fun h => h more (by simp [lits]), fun h c hc => by
              have : c = more := by simpa [lits] using hc
              rw [this]; exact h⟩
          have hsat2 : ∀ m', m'.length = N → (∃ x ∈ more, tru m' x = true) → Sat (lits l) N asm m' → Sat (lits l ++ [more]) N asm m' := fun m' _ hx hs => ⟨hs.1, fun c hc => by
            rcases List.mem_append.1 hc with hc | hc
            · exact hs.2.1 c hc
            · rw [List.mem_singleton.1 hc]; exact hx, hs.2.2⟩
          simp only [eqZ_eq]
          rw [decide_true, Bool.not_true, cond_false, hholds, bind_in]
          -- what the further clause does
          have hstep : (bif holdsF [(more, 0, 0, 0)] m then
              ((bif !decide (r2.2.2 = 0) then some true else (ladingref27_Bools m r2.1).bind fun b14 => some (!b14)).bind fun x => ladinglaw27_SolveMore.j1 x)
            else
              ((bif decide (r2.2.2 = 0) then (ladingref27_Bools m r2.1).bind fun b16 => bif b16 then some true else (clause_Holds l r2.1).bind fun h17 => some (!h17) else some false).bind fun x => ladinglaw27_SolveMore.j2 x)) = some (.inl ()) := by
            cases hh : holdsF [(more, 0, 0, 0)] m with
            | true =>
              have hs := hsat2 m hml (hmore.1 hh) hm1
              rw [cond_true]
              rcases o2 with ⟨m2, rfl, hq1, hq2⟩ | ⟨K, rfl, hu1, _⟩ | ⟨K, rfl, hK1, hK2, hK3⟩
              · have : m = m2 := by
                  rcases before_tri (hml.trans hq1.1.symm) with h | h | h
                  · exact h
                  · exact absurd h (hq2 m hs)
                  · exact absurd h (hm2 m2 (hsub m2 hq1))
                subst this
                rw [show decide ((0 : Int) = 0) = true from rfl, Bool.not_true, cond_false, bools_eq (by omega), bind_in, decide_eq_true rfl, bind_in]; rfl
              · exact absurd hs (hu1 m)
              · exact (full_no (by omega) hK1 hK2 hK3).elim
            | false =>
              rw [cond_false]
              rcases o2 with ⟨m2, rfl, hq1, hq2⟩ | ⟨K, rfl, hu1, _⟩ | ⟨K, rfl, hK1, hK2, hK3⟩
              · have hne : m ≠ m2 := fun h => by
                  subst h
                  have := hmore.2 (hq1.2.1 more (by simp))
                  rw [hh] at this; cases this
                have hh2 : holdsF l m2 = true := holds_iff.2 (hsub m2 hq1).2.1
                rw [show decide ((0 : Int) = 0) = true from rfl, cond_true, bools_eq (by omega), bind_in, decide_eq_false hne, cond_false, holds_eq hok, bind_in, hh2, bind_in]; rfl
              · rw [show decide ((26 : Int) = 0) = false from rfl, cond_false, bind_in]; rfl
              · exact (full_no (by omega) hK1 hK2 hK3).elim
          rw [hstep, bind_in]
          show ladinglaw27_SolveMore.j6 l (N : Int) asm true (m, [], 0) = some true
          unfold ladinglaw27_SolveMore.j6
          rw [app_in (by simp only [List.length_nil]; omega), bind_in, List.nil_append, trues_loop (by omega) (by omega), bind_in]
          unfold ladinglaw27_SolveMore.j5
          -- the model's own true literals assumed
          have htl := trues_len m m.length
          have htm : ∀ x ∈ truesF m m.length, Lit x ∧ x.natAbs ≤ N ∧ tru m x = true := fun x hx => by
            unfold truesF at hx
            obtain ⟨i, hi, rfl⟩ := List.mem_map.1 hx
            obtain ⟨h1, h2⟩ := List.mem_filter.1 hi
            have h1 := List.mem_range.1 h1
            rw [List.getD_eq_getElem?_getD, List.getElem?_eq_getElem h1, Option.getD_some] at h2
            have hl : Lit ((i : Int) + 1) := ⟨by omega, by omega, by omega⟩
            refine ⟨hl, by omega, tru_iff.2 ⟨hl, ?_⟩⟩
            rw [show ((i : Int) + 1).natAbs - 1 = i by omega, List.getElem?_eq_getElem h1, h2, decide_eq_true (by omega)]
          have hb3 : badA (N : Int) (asm ++ truesF m m.length) = false := by
            unfold badA
            rw [List.any_append, Bool.or_eq_false_iff]
            refine ⟨hb, List.any_eq_false.2 fun x hx => ?_⟩
            have := htm x hx
            unfold badN
            rw [decide_eq_true_eq]
            have h1 := this.1
            unfold Lit at h1
            omega
          obtain ⟨r3, e3, o3⟩ := solve_found (l := l) (n := N) (asm := asm ++ truesF m m.length) (by omega) hc (by simp only [List.length_append]; omega) hr hb3
          have hs3 : Sat (lits l) N (asm ++ truesF m m.length) m := ⟨hml, hm1.2.1, fun x hx => by
            rcases List.mem_append.1 hx with hx | hx
            · exact hm1.2.2 x hx
            · exact (htm x hx).2.2⟩
          have hr3 : r3 = (m, [], 0) := by
            rcases o3 with ⟨m3, rfl, hq1, hq2⟩ | ⟨K, rfl, hu1, _⟩ | ⟨K, rfl, hK1, hK2, hK3⟩
            · have : m = m3 := by
                rcases before_tri (hml.trans hq1.1.symm) with h | h | h
                · exact h
                · exact absurd h (hq2 m hs3)
                · exact absurd h (hm2 m3 ⟨hq1.1, hq1.2.1, fun x hx => hq1.2.2 x (List.mem_append_left _ hx)⟩)
              rw [this]
            · exact absurd hs3 (hu1 m)
            · exact (full_no (by omega) hK1 hK2 hK3).elim
          subst hr3
          rw [e3, bind_in, prop2_eq hok (by omega), bind_in]
          have hnf : ¬ Fails (lits l) asm := fun hf => hf.no hm1.2.1 fun x hx _ => hm1.2.2 x hx
          have hp : propF (lits l) asm = (clos (lits l) asm, true) := by unfold propF; rw [if_neg (by rw [failB_iff]; exact hnf)]
          have hcl := clos_len (lits l) asm
          have hcd : ∀ x ∈ clos (lits l) asm, Der (lits l) asm x := fun x hx => mem_clos.1 hx
          rw [hp]
          generalize clos (lits l) asm = cl at *
          simp only [Bool.not_true, cond_false, eqZ_eq]
          rw [decide_true, Bool.not_true, cond_false, bools_eq (by omega), bind_in, decide_eq_true rfl, Bool.not_true, bind_in]
          unfold ladinglaw27_SolveMore.j4
          rw [cond_false]
          -- the opposite of what all models have in common
          have hcom : ∀ x ∈ cl, solve_Solve l (N : Int) (asm ++ [-x]) = none ∨ ∃ q, solve_Solve l (N : Int) (asm ++ [-x]) = some q ∧ q.2.2 = 26 := fun x hx => by
            have hd := hcd x hx
            have hlx := hd.lit
            have hrx := der_range ha hd
            have hbx : badA (N : Int) (asm ++ [-x]) = false := by
              unfold badA
              rw [List.any_append, Bool.or_eq_false_iff]
              refine ⟨hb, List.any_eq_false.2 fun y hy => ?_⟩
              rw [List.mem_singleton.1 hy]
              unfold badN
              rw [decide_eq_true_eq]
              unfold Lit at hlx
              omega
            obtain ⟨q, e4, o4⟩ := solve_found (l := l) (n := N) (asm := asm ++ [-x]) (by omega) hc (by simp only [List.length_append, List.length_singleton]; omega) hr hbx
            refine .inr ⟨q, e4, ?_⟩
            rcases o4 with ⟨m4, rfl, hq1, _⟩ | ⟨K, rfl, _⟩ | ⟨K, rfl, hK1, hK2, hK3⟩
            · exact (tru_neg (hd.tru hq1.2.1 fun y hy _ => hq1.2.2 y (List.mem_append_left _ hy)) (hq1.2.2 _ (by simp))).elim
            · rfl
            · exact (full_no (by omega) hK1 hK2 hK3).elim
          have hend : ∀ k : Nat, ¬ (k < cl.length ∧ k < 3) → ladinglaw27_SolveMore.b2 l (N : Int) asm true (cl, true) (k : Int) = some (.inr true) := fun k hk => by
            have ht : (bif ltZ (k : Int) (cl.length : Int) then some (ltZ (k : Int) 3) else some false) = some false := by
              rw [bif_ltZ]
              by_cases h : (k : Int) < (cl.length : Int)
              · rw [if_pos h, ltZ_eq, decide_eq_false (by omega)]
              · rw [if_neg h]
            simp only [ladinglaw27_SolveMore.b2, ht, bind_in, ladinglaw27_SolveMore.j3, cond_false]
          obtain ⟨q, hq1, hq2⟩ := loopF_inv (body := fun x => ladinglaw27_SolveMore.b2 l (N : Int) asm true (cl, true) x) (fun k x => x = (k : Int)) (Q := fun r => r = true) 3 (x := 0) rfl
            (fun k hk x hx => by
              subst hx
              by_cases hkl : k < cl.length
              · have ht : (bif ltZ (k : Int) (cl.length : Int) then some (ltZ (k : Int) 3) else some false) = some true := by
                  rw [lt_n hkl, cond_true, ltZ_eq, decide_eq_true (by omega)]
                have hlx := (hcd _ (List.getElem_mem hkl)).lit
                have hz : z64 (-cl[k]) = some (-cl[k]) := z64_in (by unfold Lit at hlx; omega) (by unfold Lit at hlx; omega)
                rcases hcom _ (List.getElem_mem hkl) with hno | ⟨q, e4, e5⟩
                · have hlx2 := hlx
                  obtain ⟨q, e4, _⟩ := solve_both (l := l) (n := (N : Int)) (asm := asm ++ [-cl[k]]) (by omega) hc (by simp only [List.length_append, List.length_singleton]; omega)
                  rw [hno] at e4; cases e4
                · simp only [ladinglaw27_SolveMore.b2, ht, bind_in, ladinglaw27_SolveMore.j3, cond_true]
                  rw [app_in (by simp only [List.length_nil]; omega), bind_in, List.nil_append, idx_nat hkl, bind_in, hz, bind_in, app_in (by simp only [List.length_singleton]; omega), bind_in, e4, bind_in, e5, eqZ_eq, show decide ((26 : Int) = 26) = true from rfl, Bool.not_true, cond_false, z64_succ (by omega), bind_in]
                  exact .inl ⟨_, rfl, rfl⟩
              · rw [hend k (by omega)]
                exact .inr ⟨_, rfl, rfl⟩)
            (fun x hx => by
              subst hx
              exact ⟨_, hend 3 (by omega), rfl⟩)
            (by omega)
          rw [hq1, hq2]
        · have hr2 : r2.2.2 = 26 := by
            rcases o2 with ⟨m2, rfl, hq1, hq2⟩ | ⟨K, rfl, _⟩ | ⟨K, rfl, hK1, hK2, hK3⟩
            · exact absurd (hsub m2 hq1) (hu1 m2)
            · rfl
            · exact (full_no (by omega) hK1 hK2 hK3).elim
          simp only [eqZ_eq]
          rw [show decide ((26 : Int) = 0) = false from rfl, Bool.not_false, cond_true, cond_true, hr2, decide_eq_true rfl]
        · exact (full_no (by omega) hK1 hK2 hK3).elim
end Go.Proofs.Ytecegoknbcmenaa
