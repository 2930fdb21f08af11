/-
  Layer 26 (clause): the examples; ClauseTells.
-/
import Derived.Test.YtbkdiclfhoelbaaC9
namespace Go.Proofs.Ytbkdiclfhoelbaa
open Go.Lad
set_option linter.unusedVariables false
set_option linter.unusedSimpArgs false
set_option linter.unusedSectionVars false
theorem ok_of {l : List GClause} (h1 : l.length ≤ 200000) (h2 : ∀ c ∈ l, c.1.length ≤ 1000000) : Ok (lits l) := by
  refine ⟨by rw [List.length_map]; exact h1, fun c hc => ?_⟩
  obtain ⟨x, hx, rfl⟩ := List.mem_map.1 hc
  exact h2 x hx
theorem ok8 {l : List GClause} {n : Nat} (hn : n ≤ 200000) (h : l.length ≤ n ∧ ∀ c ∈ l, c.1.length ≤ 8) : Ok (lits l) :=
  ok_of (by omega) fun c hc => by have := h.2 c hc; omega
theorem propF_of {C : List (List Int)} {s out : List Int} (h1 : ¬ Fails C s) (h2 : out.Pairwise (· < ·)) (h3 : ∀ x, Der C s x ↔ x ∈ out) : propF C s = (out, true) := by
  unfold propF
  rw [if_neg (by rw [failB_iff]; exact h1), sorted_ext (clos_sorted C s) h2 fun x => mem_clos.trans (h3 x)]
theorem ex1 : propF [[1, 2], [-2, 3]] [-1] = ([-1, 2, 3], true) := by
  refine propF_of (fun h => h.no (m := [false, true, true]) ?_ ?_) (by decide) fun x => ⟨fun h => ?_, fun h => ?_⟩
  · intro c hc
    rcases List.mem_cons.1 hc with rfl | hc
    · exact ⟨2, by decide, by decide⟩
    · rw [List.mem_singleton.1 hc]
      exact ⟨3, by decide, by decide⟩
  · intro x hx _
    rw [List.mem_singleton.1 hx]; decide
  · refine h.least (fun x => x ∈ [-1, 2, 3]) (fun x hx _ => by rw [List.mem_singleton.1 hx]; decide) fun c hc x hx hl ho => ?_
    rcases List.mem_cons.1 hc with rfl | hc
    · rcases List.mem_cons.1 hx with rfl | hx
      · have := ho 2 (by decide) (by decide) (by decide)
        exact absurd this (by decide)
      · rw [List.mem_singleton.1 hx]; decide
    · rw [List.mem_singleton.1 hc] at hx ho
      rcases List.mem_cons.1 hx with rfl | hx
      · have := ho 3 (by decide) (by decide) (by decide)
        exact absurd this (by decide)
      · rw [List.mem_singleton.1 hx]; decide
  · have d1 : Der [[1, 2], [-2, 3]] [-1] (-1) := .start (by decide) (by decide)
    have d2 : Der [[1, 2], [-2, 3]] [-1] 2 := .unit (c := [1, 2]) (by decide) (by decide) (by decide) fun y hy hl hne => by
      rcases List.mem_cons.1 hy with rfl | hy
      · exact d1
      · exact absurd (List.mem_singleton.1 hy) hne
    have d3 : Der [[1, 2], [-2, 3]] [-1] 3 := .unit (c := [-2, 3]) (by decide) (by decide) (by decide) fun y hy hl hne => by
      rcases List.mem_cons.1 hy with rfl | hy
      · exact d2
      · exact absurd (List.mem_singleton.1 hy) hne
    rcases List.mem_cons.1 h with rfl | h
    · exact d1
    · rcases List.mem_cons.1 h with rfl | h
      · exact d2
      · rw [List.mem_singleton.1 h]; exact d3
theorem ex2 : Fails [[1, 2], [1, -2]] [-1] := by
  have d1 : Der [[1, 2], [1, -2]] [-1] (-1) := .start (by decide) (by decide)
  have d2 : Der [[1, 2], [1, -2]] [-1] 2 := .unit (c := [1, 2]) (by decide) (by decide) (by decide) fun y hy hl hne => by
    rcases List.mem_cons.1 hy with rfl | hy
    · exact d1
    · exact absurd (List.mem_singleton.1 hy) hne
  refine .inl ⟨[1, -2], by decide, fun y hy hl => ?_⟩
  rcases List.mem_cons.1 hy with rfl | hy
  · exact d1
  · rw [List.mem_singleton.1 hy]; exact d2
theorem ex3 : ¬ Fails [[1, 2], [1, -2]] [-2] := fun h => by
  refine h.no (m := [true, false]) ?_ ?_
  · intro c hc
    rcases List.mem_cons.1 hc with rfl | hc
    · exact ⟨1, by decide, by decide⟩
    · rw [List.mem_singleton.1 hc]
      exact ⟨1, by decide, by decide⟩
  · intro x hx _
    rw [List.mem_singleton.1 hx]; decide
theorem ex4 : PrfOK [[1, 2], [1, -2], [-1, 2], [-1, -2]] [[1], []] := by
  refine ⟨by simp, by decide, ex2.mono (fun _ h => h) (fun c hc => ?_), ?_, trivial⟩
  · rcases List.mem_cons.1 hc with rfl | hc
    · decide
    · rw [List.mem_singleton.1 hc]; decide
  · show Fails [[1, 2], [1, -2], [-1, 2], [-1, -2], [1]] []
    have d1 : Der [[1, 2], [1, -2], [-1, 2], [-1, -2], [1]] [] 1 := .unit (c := [1]) (by decide) (by decide) (by decide) fun y hy hl hne => absurd (List.mem_singleton.1 hy) hne
    have d2 : Der [[1, 2], [1, -2], [-1, 2], [-1, -2], [1]] [] 2 := .unit (c := [-1, 2]) (by decide) (by decide) (by decide) fun y hy hl hne => by
      rcases List.mem_cons.1 hy with rfl | hy
      · exact d1
      · exact absurd (List.mem_singleton.1 hy) hne
    refine .inl ⟨[-1, -2], by decide, fun y hy hl => ?_⟩
    rcases List.mem_cons.1 hy with rfl | hy
    · exact d1
    · rw [List.mem_singleton.1 hy]; exact d2
theorem two_none {C : List (List Int)} (h : ∀ c ∈ C, ∀ x ∈ c, ∃ y ∈ c, Lit y ∧ y ≠ x) (hn : ∀ c ∈ C, ∃ y ∈ c, Lit y) : ¬ Fails C [] := by
  have hd : ∀ x, ¬ Der C [] x := fun x hx => hx.least (fun _ => False) (fun x h => by cases h) fun c hc x hx hl ho => by
    obtain ⟨y, h1, h2, h3⟩ := h c hc x hx
    exact ho y h1 h2 h3
  rintro (⟨c, hc, ho⟩ | ⟨x, h1, _⟩)
  · obtain ⟨y, h1, h2⟩ := hn c hc
    exact hd _ (ho y h1 h2)
  · exact hd x h1
theorem ex5 : ¬ PrfOK [[1, 2], [1, -2], [-1, 2], [-1, -2]] [[]] := fun h => by
  have h2 : Fails [[1, 2], [1, -2], [-1, 2], [-1, -2]] [] := h.2.2.1
  refine two_none ?_ ?_ h2 <;> decide
theorem small_true : ladinglaw26_small = some true := by
  unfold ladinglaw26_small ladinglaw26_of
  simp only [bind_in]
  rw [prop_eq (ok_of (by decide) (by decide)) (by decide), bind_in]
  show ((appT? _ _).bind fun l8 => _) = _
  rw [show lits [([1, 2], 0, 0, 0), ([-2, 3], 0, 0, 0)] = [[1, 2], [-2, 3]] from rfl, ex1]
  rw [show appT? ([([1, 2], 0, 0, 0), ([1, -2], 0, 0, 0)] : List GClause) [([-1, 2], 0, 0, 0), ([-1, -2], 0, 0, 0)] = some [([1, 2], 0, 0, 0), ([1, -2], 0, 0, 0), ([-1, 2], 0, 0, 0), ([-1, -2], 0, 0, 0)] from
    app_in (l := ([([1, 2], 0, 0, 0), ([1, -2], 0, 0, 0)] : List GClause)) (m := [([-1, 2], 0, 0, 0), ([-1, -2], 0, 0, 0)]) (by decide), bind_in]
  have hok2 : Ok (lits [([1, 2], 0, 0, 0), ([1, -2], 0, 0, 0)]) := ok_of (by decide) (by decide)
  have hok4 : Ok (lits [([1, 2], 0, 0, 0), ([1, -2], 0, 0, 0), ([-1, 2], 0, 0, 0), ([-1, -2], 0, 0, 0)]) := ok_of (by decide) (by decide)
  simp only [cond_true]
  rw [same_eq (by decide), bind_in, decide_eq_true rfl, cond_true, Follows_eq hok2 (by decide), bind_in, Follows_eq hok2 (by decide), bind_in]
  rw [show failB (lits [([1, 2], 0, 0, 0), ([1, -2], 0, 0, 0)]) (negs [1]) = true from failB_iff.2 ex2, show failB (lits [([1, 2], 0, 0, 0), ([1, -2], 0, 0, 0)]) (negs [2]) = false from failB_f.2 ex3]
  simp only [cond_true, Bool.not_false, bind_in, ladinglaw26_small.j1]
  rw [Proof_eq hok4 (by decide) (by decide), bind_in, Proof_eq hok4 (by decide) (by decide), bind_in, right_eq hok4, bind_in, right_eq hok4, bind_in, holds_eq hok2, bind_in]
  rw [show prfF (lits [([1, 2], 0, 0, 0), ([1, -2], 0, 0, 0), ([-1, 2], 0, 0, 0), ([-1, -2], 0, 0, 0)]) [[1], []] = 0 from prfF_yes (by decide) ex4,
    show prfF (lits [([1, 2], 0, 0, 0), ([1, -2], 0, 0, 0), ([-1, 2], 0, 0, 0), ([-1, -2], 0, 0, 0)]) [[]] = 19 from prfF_no (by decide) ex5]
  simp only [eqZ_eq]
  rfl
theorem propF_len (C : List (List Int)) (s : List Int) : (propF C s).1.length ≤ 4001 := by
  unfold propF
  by_cases h : failB C s = true
  · rw [if_pos h, List.length_nil]; omega
  · rw [if_neg h]; dsimp only; exact clos_len C s
theorem tells_true (l : List GClause) (s : List Int) (learnt : List (List Int)) (m : List Bool) (n : Int) : ladinglaw26_ClauseTells l s learnt m n = some true := by
  unfold ladinglaw26_ClauseTells
  rw [small_true, bind_in]
  obtain ⟨b, h1, h2⟩ := light_eq (l := l) (n := 60) (by omega)
  have h1 : ladinglaw26_light l 60 = some b := h1
  rw [h1, bind_in]
  cases b with
  | false => simp only [Bool.not_false, cond_true, bind_in, ladinglaw26_ClauseTells.j2]
  | true =>
    have h2 := h2 rfl
    have hok := ok8 (by omega) h2
    rw [Bool.not_true, cond_false, bif_ltZ]
    by_cases h3 : (60 : Int) < (s.length : Int)
    · rw [if_pos h3, bind_in]; simp only [ladinglaw26_ClauseTells.j2, cond_true]
    · rw [if_neg h3]
      obtain ⟨b, h4, h5⟩ := few_eq (l := learnt) (n := 20) (by omega)
      have h4 : ladinglaw26_few learnt 20 = some b := h4
      rw [h4, bind_in]
      cases b with
      | false => simp only [Bool.not_false, cond_true, bind_in, ladinglaw26_ClauseTells.j2]
      | true =>
        have h5 := h5 rfl
        rw [Bool.not_true, cond_false, bind_in, ltZ_eq]
        by_cases h6 : (60 : Int) < (m.length : Int)
        · rw [decide_eq_true h6]; simp only [ladinglaw26_ClauseTells.j2, cond_true]
        · rw [decide_eq_false h6]
          have hs : s.length ≤ 1000000 := by omega
          have hL : ∀ c ∈ learnt, c.length ≤ 1000000 := fun c hc => by have := h5.2 c hc; omega
          have hcl : (propF (lits l) s).1.length ≤ 1000000 := by
            have := propF_len (lits l) s
            omega
          simp only [ladinglaw26_ClauseTells.j2, cond_false]
          rw [prop_eq hok hs, bind_in, rprop_eq hok hs, bind_in, same_eq hcl, bind_in, Follows_eq hok hs, bind_in, rFollows_eq hok hs, bind_in, right_eq hok, bind_in, rright_eq hok, bind_in]
          simp only [beq_self_eq_true, decide_true, cond_true, bind_in, ladinglaw26_ClauseTells.j1]
          rw [holds_eq hok, bind_in, rholds_eq hok, bind_in, Proof_eq hok (by omega) hL, bind_in, rProof_eq hok (by omega) hL, bind_in]
          simp only [beq_self_eq_true, cond_true, eqZ_eq, decide_true]
end Go.Proofs.Ytbkdiclfhoelbaa
