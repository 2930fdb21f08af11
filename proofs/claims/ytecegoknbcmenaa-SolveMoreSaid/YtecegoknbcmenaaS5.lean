/-
  Layer 27 (solve): the examples; SolveTells.
-/
import Derived.Test.YtecegoknbcmenaaS4
namespace Go.Proofs.Ytecegoknbcmenaa
open Go.Lad
set_option linter.unusedVariables false
set_option linter.unusedSimpArgs false
set_option linter.unusedSectionVars false
/-- the ascending lists of numbers from 1 to n -/
def subs : Nat → List (List Int)
  | 0 => [[]]
  | n + 1 => subs n ++ (subs n).map fun c => c ++ [((n + 1 : Nat) : Int)]
theorem subs_len : ∀ n, (subs n).length = 2 ^ n
  | 0 => rfl
  | n + 1 => by
    unfold subs
    rw [List.length_append, List.length_map, subs_len n, Nat.pow_succ]; omega
theorem mem_subs : ∀ (n : Nat) (c : List Int), c.Pairwise (· < ·) → (∀ x ∈ c, 1 ≤ x ∧ x ≤ (n : Int)) → c ∈ subs n
  | 0, c, _, h => by
    cases c with
    | nil => simp [subs]
    | cons x c => have := h x (by simp); omega
  | n + 1, c, hs, h => by
    unfold subs
    rcases List.eq_nil_or_concat c with rfl | ⟨d, x, hdx⟩
    · exact List.mem_append_left _ (mem_subs n [] .nil fun x hx => by cases hx)
    · rw [List.concat_eq_append] at hdx
      subst hdx
      obtain ⟨h1, h2, h3⟩ := List.pairwise_append.1 hs
      have hx := h x (by simp)
      have hd : ∀ y ∈ d, y < x := fun y hy => h3 y hy x (by simp)
      by_cases he : x = ((n + 1 : Nat) : Int)
      · refine List.mem_append_right _ (List.mem_map.2 ⟨d, mem_subs n d h1 fun y hy => ?_, by rw [he]⟩)
        have := hd y hy
        have := h y (List.mem_append_left _ hy)
        omega
      · refine List.mem_append_left _ (mem_subs n _ hs fun y hy => ?_)
        have := h y hy
        rcases List.mem_append.1 hy with hy | hy
        · have := hd y hy; omega
        · rw [List.mem_singleton.1 hy] at this ⊢; omega
theorem full_no {n : Nat} {K : List (List Int)} (hn : n ≤ 11) (h1 : K.length = 4000) (h2 : K.Nodup) (h3 : ∀ c ∈ K, c.Pairwise (· < ·) ∧ ∀ x ∈ c, 1 ≤ x ∧ x ≤ (n : Int)) : False := by
  have := nodup_le h2 (m := subs n) fun c hc => mem_subs n c (h3 c hc).1 (h3 c hc).2
  rw [subs_len] at this
  have h4 : 2 ^ n ≤ 2 ^ 11 := Nat.pow_le_pow_right (by omega) hn
  omega
theorem asked_of {l : List GClause} {n : Nat} {asm : List Int} (hr : rightF l (n : Int) = true) (hb : badA (n : Int) asm = false) : Asked (lits l) n asm := by
  obtain ⟨⟨h1, h2, h3⟩, h4⟩ := rightF_iff.1 hr
  refine ⟨by omega, fun c hc x hx => ?_, fun x hx => ?_⟩
  · obtain ⟨d, hd, rfl⟩ := List.mem_map.1 hc
    have := h4 d hd x hx
    exact ⟨⟨this.1, by omega, by omega⟩, by omega⟩
  · unfold badA at hb
    rw [List.any_eq_false] at hb
    have := hb x hx
    unfold badN at this
    rw [decide_eq_true_eq] at this
    exact ⟨⟨by omega, by omega, by omega⟩, by omega⟩
/-- Solve's result, if the question is right -/
theorem solve_found {l : List GClause} {n : Nat} {asm : List Int} (hl : l.length ≤ 100000) (hc : ∀ c ∈ l, c.1.length ≤ 1000000) (has : asm.length ≤ 100000) (hr : rightF l (n : Int) = true) (hb : badA (n : Int) asm = false) :
    ∃ r, solve_Solve l (n : Int) asm = some r ∧ Outcome (lits l) n asm r := by
  have ha := asked_of hr hb
  obtain ⟨r, h1, h2⟩ := solve_eq ha.small hl hc has hr hb
  exact ⟨r, h1, found ha h2 (inv2_nil _ _ _)⟩
theorem two_none {C : List (List Int)} (h : ∀ c ∈ C, ∀ x ∈ c, ∃ y ∈ c, Lit y ∧ y ≠ x) (hn : ∀ c ∈ C, ∃ y ∈ c, Lit y) : ¬ Fails C [] ∧ ∀ x, ¬ Der C [] x := by
  have hd : ∀ x, ¬ Der C [] x := fun x hx => hx.least (fun _ => False) (fun x h => by cases h) fun c hc x hx hl ho => by
    obtain ⟨y, h1, h2, h3⟩ := h c hc x hx
    exact ho y h1 h2 h3
  refine ⟨?_, hd⟩
  rintro (⟨c, hc, ho⟩ | ⟨x, h1, _⟩)
  · obtain ⟨y, h1, h2⟩ := hn c hc
    exact hd _ (ho y h1 h2)
  · exact hd x h1
instance (C : List (List Int)) (n : Nat) (asm : List Int) (m : List Bool) : Decidable (Sat C n asm m) := by unfold Sat; infer_instance
theorem three {m : List Bool} (h : m.length = 3) : ∃ a b c, m = [a, b, c] := by
  match m, h with
  | [a, b, c], _ => exact ⟨a, b, c, rfl⟩
theorem ex1 {r : Res} (h : Outcome [[1, 2], [-1, 3]] 3 [] r) : r = ([false, true, false], [], 0) := by
  have hs : Sat [[1, 2], [-1, 3]] 3 [] [false, true, false] := by decide
  rcases h with ⟨m, rfl, h1, h2⟩ | ⟨K, rfl, h1, _⟩ | ⟨K, rfl, h1, h2, h3⟩
  · have h3 := h2 _ hs
    obtain ⟨a, b, c, rfl⟩ := three h1.1
    cases a with
    | true => exact absurd ⟨0, rfl, rfl, rfl⟩ h3
    | false => cases b with
      | false => exact absurd h1 (by cases c <;> decide)
      | true => cases c with
        | true => exact absurd ⟨2, rfl, rfl, rfl⟩ h3
        | false => rfl
  · exact absurd hs (h1 _)
  · exact (full_no (by omega) h1 h2 h3).elim
theorem ex2 {r : Res} (h : Outcome [[1, 2], [-1, 3]] 3 [1] r) : r = ([true, false, true], [], 0) := by
  have hs : Sat [[1, 2], [-1, 3]] 3 [1] [true, false, true] := by decide
  rcases h with ⟨m, rfl, h1, h2⟩ | ⟨K, rfl, h1, _⟩ | ⟨K, rfl, h1, h2, h3⟩
  · have h3 := h2 _ hs
    obtain ⟨a, b, c, rfl⟩ := three h1.1
    cases a with
    | false => exact absurd h1 (by cases b <;> cases c <;> decide)
    | true => cases c with
      | false => exact absurd h1 (by cases b <;> decide)
      | true => cases b with
        | true => exact absurd ⟨1, rfl, rfl, rfl⟩ h3
        | false => rfl
  · exact absurd hs (h1 _)
  · exact (full_no (by omega) h1 h2 h3).elim
theorem ex3 : Runs [[1, 2], [1, -2], [-1, 2], [-1, -2]] 2 [] ([], []) ([], [[1], []], 26) := by
  obtain ⟨n1, n2⟩ := two_none (C := [[1, 2], [1, -2], [-1, 2], [-1, -2]]) (by decide) (by decide)
  have hcl : clos [[1, 2], [1, -2], [-1, 2], [-1, -2]] [] = [] := List.eq_nil_iff_forall_not_mem.2 fun x hx => n2 x (mem_clos.1 hx)
  have d1 : Der [[1, 2], [1, -2], [-1, 2], [-1, -2]] [-1] (-1) := .start (by decide) (by decide)
  have d2 : Der [[1, 2], [1, -2], [-1, 2], [-1, -2]] [-1] 2 := .unit (c := [1, 2]) (by decide) (by decide) (by decide) fun y hy hl hne => by
    rcases List.mem_cons.1 hy with rfl | hy
    · exact d1
    · exact absurd (List.mem_singleton.1 hy) hne
  have f2 : Fails [[1, 2], [1, -2], [-1, 2], [-1, -2]] [-1] := by
    refine .inl ⟨[1, -2], by decide, fun y hy hl => ?_⟩
    rcases List.mem_cons.1 hy with rfl | hy
    · exact d1
    · rw [List.mem_singleton.1 hy]; exact d2
  have e1 : Der [[1, 2], [1, -2], [-1, 2], [-1, -2], [1]] [] 1 := .unit (c := [1]) (by decide) (by decide) (by decide) fun y hy hl hne => absurd (List.mem_singleton.1 hy) hne
  have e2 : Der [[1, 2], [1, -2], [-1, 2], [-1, -2], [1]] [] 2 := .unit (c := [-1, 2]) (by decide) (by decide) (by decide) fun y hy hl hne => by
    rcases List.mem_cons.1 hy with rfl | hy
    · exact e1
    · exact absurd (List.mem_singleton.1 hy) hne
  have f3 : Fails [[1, 2], [1, -2], [-1, 2], [-1, -2], [1]] [] := by
    refine .inl ⟨[-1, -2], by decide, fun y hy hl => ?_⟩
    rcases List.mem_cons.1 hy with rfl | hy
    · exact e1
    · rw [List.mem_singleton.1 hy]; exact e2
  refine .next (st' := ([], [-1])) ?_ (.next (st' := ([[1]], [])) ?_ (.stop ?_))
  · unfold step
    simp only [List.append_nil]
    rw [if_neg (by rw [failB_iff]; exact n1), hcl]
    rw [show openN [] 2 = 0 from by decide, if_pos (by omega)]; rfl
  · unfold step
    simp only [List.append_nil, List.nil_append]
    rw [if_pos (failB_iff.2 f2), if_neg (by simp), if_neg (by simp)]; rfl
  · unfold step
    simp only [List.append_nil]
    rw [show failB ([[1, 2], [1, -2], [-1, 2], [-1, -2]] ++ [[1]]) [] = true from failB_iff.2 f3, if_pos rfl, if_neg (by simp), if_pos trivial]; rfl
theorem small_true : ladinglaw27_small = some true := by
  unfold ladinglaw27_small
  obtain ⟨r1, h1, o1⟩ := solve_found (l := [([1, 2], 0, 0, 0), ([-1, 3], 0, 0, 0)]) (n := 3) (asm := []) (by decide) (by decide) (by decide) (by decide) (by decide)
  have e1 := ex1 o1
  subst e1
  obtain ⟨r2, h2, o2⟩ := solve_found (l := [([1, 2], 0, 0, 0), ([-1, 3], 0, 0, 0)]) (n := 3) (asm := [1]) (by decide) (by decide) (by decide) (by decide) (by decide)
  have e2 := ex2 o2
  subst e2
  obtain ⟨r3, h3, o3⟩ := solve_eq (l := [([1, 2], 0, 0, 0), ([1, -2], 0, 0, 0), ([-1, 2], 0, 0, 0), ([-1, -2], 0, 0, 0)]) (n := 2) (asm := []) (by decide) (by decide) (by decide) (by decide) (by decide) (by decide)
  have e3 := ex3.det o3
  subst e3
  have h4 := solve_bad (l := []) (n := 2) (asm := [3]) (by decide) (by decide) (by decide) (.inr (by decide))
  have h1 : solve_Solve [([1, 2], 0, 0, 0), ([-1, 3], 0, 0, 0)] 3 [] = _ := h1
  have h2 : solve_Solve [([1, 2], 0, 0, 0), ([-1, 3], 0, 0, 0)] 3 [1] = _ := h2
  have h3 : solve_Solve [([1, 2], 0, 0, 0), ([1, -2], 0, 0, 0), ([-1, 2], 0, 0, 0), ([-1, -2], 0, 0, 0)] 2 [] = _ := h3
  rw [h1, bind_in, h2, bind_in, h3, bind_in, h4, bind_in]
  simp only [eqZ_eq, decide_true, cond_true]
  rw [bools_eq (by decide), bind_in, decide_eq_true rfl, cond_true, bools_eq (by decide), bind_in, decide_eq_true rfl, bind_in]
  unfold ladinglaw27_small.j1
  simp only [eqZ_eq, decide_true, cond_true, List.length_nil]
  rw [show decide (((0 : Nat) : Int) = 0) = true from rfl, cond_true, lists_eq (by decide) (by decide), bind_in, decide_eq_true rfl]; rfl
theorem tells_true (l : List GClause) (n : Int) (asm : List Int) : ladinglaw27_SolveTells l n asm = some true := by
  unfold ladinglaw27_SolveTells
  rw [small_true, bind_in]
  obtain ⟨b, h1, h2⟩ := few_eq (l := l) (n := n) (most := 13) (s := asm)
  rw [h1, bind_in]
  cases b with
  | false => rw [Bool.not_false, cond_true]
  | true =>
    obtain ⟨g1, g2, g3, g4⟩ := h2 rfl
    obtain ⟨r, h3, h4, h5, h6, h7⟩ := solve_both (l := l) (n := n) (asm := asm) (by omega) (fun c hc => by have := g2 c hc; omega) (by omega)
    rw [Bool.not_true, cond_false, h3, bind_in, h4, bind_in, cond_true, bools_eq (by omega), bind_in, decide_eq_true rfl, cond_true, lists_eq (by omega) (fun c hc => by have := h7 c hc; omega), bind_in, decide_eq_true rfl, cond_true, eqZ_eq, decide_eq_true rfl]
end Go.Proofs.Ytecegoknbcmenaa
