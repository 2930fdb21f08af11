/-
  Layer 28 (prefer): the examples; PreferTells.
-/
import Derived.Test.YtimiahoaafjmmaaP4
namespace Go.Proofs.Ytimiahoaafjmmaa
open Go.Lad
set_option linter.unusedVariables false
set_option linter.unusedSimpArgs false
set_option linter.unusedSectionVars false
theorem sized_of {l : List GClause} {n k : Nat} (hn : n ≤ 100000) (hk : k ≤ 1000000) (h1 : l.length ≤ n) (h2 : ∀ c ∈ l, c.1.length ≤ k) : Sized l := ⟨by omega, fun c hc => by have := h2 c hc; omega⟩
theorem took_map {C : List (List Int)} {n : Nat} {w : List Int} {T m : List Bool} {P : List (List (List Int))} (h : Took C n w T P) (hl : T.length = w.length) (hw : ∀ x ∈ w, Small n x) (hm : Sat C n (fixF w T) m) : T = w.map (hol m) := by
  have hh := Took.hol h.len hw hm
  refine List.ext_getElem (by rw [List.length_map, hl]) fun i h1 h2 => ?_
  rw [List.getElem_map, hh i h1]
theorem sat_nil {C : List (List Int)} {n : Nat} {s : List Int} {m : List Bool} (h : Sat C n s m) : Sat C n [] m := ⟨h.1, h.2.1, fun x hx => by cases hx⟩
theorem two {m : List Bool} (h : m.length = 2) : ∃ a b, m = [a, b] := by
  match m, h with
  | [a, b], _ => exact ⟨a, b, rfl⟩
theorem is_true {l : List GClause} {w : List Int} {model T : List Bool} (hs : Sized l) (hw : w.length ≤ 2000) (hr : rightW l ((2 : Nat) : Int) w = true) (hx : ∃ m, Sat (lits l) 2 [] m)
    (hu : ∀ a b, Sat (lits l) 2 [] [a, b] → (∀ m', Sat (lits l) 2 [] m' → cmpF w m' [a, b] ≤ 0) → (∀ m', Sat (lits l) 2 (fixF w (w.map (hol [a, b]))) m' → ¬ Before m' [a, b]) → [a, b] = model ∧ w.map (hol [a, b]) = T) : ladinglaw28_is l w model T = some true := by
  have hsm := small_of (show 2 ≤ 2000 by omega) (rightW_iff.1 hr).2.2
  rcases best_spec hs (by omega) hr with ⟨h1, _⟩ | ⟨m, T', P, h1, h2, h3, h4, h5⟩
  · obtain ⟨m, hm⟩ := hx
    exact (h1 m hm).elim
  · have hT := took_map h2 h3 hsm h4
    obtain ⟨a, b, rfl⟩ := two h4.1
    obtain ⟨e1, e2⟩ := hu a b (sat_nil h4) (fun m' hm' => h2.best hsm h3 h4 hm') (by rw [← hT]; exact h5)
    have hck := checkF_yes hr (best_ok (by omega) hr h2 h3 h4)
    have hsz := best_size (n := ((2 : Nat) : Int)) hs (show w.length ≤ 90000 by omega)
    rw [h1] at hsz
    unfold ladinglaw28_is
    have hb : prefer_Best l 2 w = some ([a, b], T', P, 0) := (best_eq (n := ((2 : Nat) : Int)) hs (by omega)).trans (by rw [h1])
    rw [hb, bind_in]
    simp only [eqZ_eq]
    rw [decide_true, cond_true, bools_eq (by simp), bind_in, decide_eq_true e1, cond_true, bools_eq (by omega), bind_in, decide_eq_true (by rw [hT]; exact e2), cond_true, decide_eq_true (by rw [h2.plen, h3]), cond_true]
    have hc : prefer_Check l 2 w [a, b] T' P = some 0 := (check_eq (n := ((2 : Nat) : Int)) hs (by omega) (by simp) (fun L hL c hc => by have := (hsz.2.2.2 L hL).2 c hc; omega)).trans (by rw [hck])
    rw [hc, bind_in]; rfl
def cl0 : List GClause := [([-1, -2], 0, 0, 0)]
def cl1 : List GClause := [([-1, -2], 0, 0, 0), ([-1], 0, 0, 0)]
theorem is1 : ladinglaw28_is cl0 [1, 2] [true, false] [true, false] = some true := by
  refine is_true (sized_of (n := 10) (k := 10) (by omega) (by omega) (by decide) (by decide)) (by decide) (by decide) ⟨[false, false], by decide⟩ fun a b h1 h2 h3 => ?_
  cases a with
  | true => cases b with
    | true => exact absurd h1 (by decide)
    | false => exact ⟨rfl, by decide⟩
  | false => exact absurd (h2 [true, false] (by decide)) (by cases b <;> decide)
theorem is2 : ladinglaw28_is cl0 [2, 1] [false, true] [true, false] = some true := by
  refine is_true (sized_of (n := 10) (k := 10) (by omega) (by omega) (by decide) (by decide)) (by decide) (by decide) ⟨[false, false], by decide⟩ fun a b h1 h2 h3 => ?_
  cases b with
  | true => cases a with
    | true => exact absurd h1 (by decide)
    | false => exact ⟨rfl, by decide⟩
  | false => exact absurd (h2 [false, true] (by decide)) (by cases a <;> decide)
theorem is3 : ladinglaw28_is cl0 [-1, 2, 1] [false, true] [true, true, false] = some true := by
  refine is_true (sized_of (n := 10) (k := 10) (by omega) (by omega) (by decide) (by decide)) (by decide) (by decide) ⟨[false, false], by decide⟩ fun a b h1 h2 h3 => ?_
  cases b with
  | true => cases a with
    | true => exact absurd h1 (by decide)
    | false => exact ⟨rfl, by decide⟩
  | false => exact absurd (h2 [false, true] (by decide)) (by cases a <;> decide)
theorem is4 : ladinglaw28_is cl0 [] [false, false] [] = some true := by
  refine is_true (sized_of (n := 10) (k := 10) (by omega) (by omega) (by decide) (by decide)) (by decide) (by decide) ⟨[false, false], by decide⟩ fun a b h1 h2 h3 => ?_
  cases a with
  | true => exact absurd ⟨0, rfl, rfl, rfl⟩ (h3 [false, false] (by cases b <;> decide))
  | false => cases b with
    | true => exact absurd ⟨1, rfl, rfl, rfl⟩ (h3 [false, false] (by decide))
    | false => exact ⟨rfl, rfl⟩
theorem is5 : ladinglaw28_is cl1 [1, 2] [false, true] [false, true] = some true := by
  refine is_true (sized_of (n := 10) (k := 10) (by omega) (by omega) (by decide) (by decide)) (by decide) (by decide) ⟨[false, false], by decide⟩ fun a b h1 h2 h3 => ?_
  cases a with
  | true => exact absurd h1 (by cases b <;> decide)
  | false => cases b with
    | true => exact ⟨rfl, by decide⟩
    | false => exact absurd (h2 [false, true] (by decide)) (by decide)
theorem best_un : prefer_Best [([1], 0, 0, 0), ([-1], 0, 0, 0)] 1 [] = some ([], [], [], 26) := by
  have hs : Sized [(([1] : List Int), (0 : Int), (0 : Int), (0 : Int)), ([-1], 0, 0, 0)] := sized_of (n := 10) (k := 10) (by omega) (by omega) (by decide) (by decide)
  refine (best_eq (n := ((1 : Nat) : Int)) hs (by simp)).trans ?_
  rcases best_spec (n := 1) (w := []) hs (by omega) (by decide) with ⟨h1, h2⟩ | ⟨m, T', P, h1, h2, h3, h4, h5⟩
  · rw [h2]
  · exfalso
    have h4 := sat_nil h4
    match m, h4.1 with
    | [a], _ => exact absurd h4 (by cases a <;> decide)
theorem best_bad : prefer_Best cl0 2 [3] = some ([], [], [], 1) := by
  have hs : Sized cl0 := sized_of (n := 10) (k := 10) (by omega) (by omega) (by decide) (by decide)
  refine (best_eq (n := ((2 : Nat) : Int)) hs (by simp)).trans ?_
  unfold bestF
  rw [if_neg (by decide)]; rfl
theorem small_true : ladinglaw28_small = some true := by
  unfold ladinglaw28_small
  rw [show ladinglaw28_or (-1) (-2) = some ([-1, -2], 0, 0, 0) from rfl, bind_in, bind_in, best_un, bind_in]
  have e2 : prefer_Best [([-1, -2], 0, 0, 0)] 2 [3] = _ := best_bad
  have i1 : ladinglaw28_is [([-1, -2], 0, 0, 0)] [1, 2] [true, false] [true, false] = _ := is1
  have i2 : ladinglaw28_is [([-1, -2], 0, 0, 0)] [2, 1] [false, true] [true, false] = _ := is2
  have i3 : ladinglaw28_is [([-1, -2], 0, 0, 0)] [-1, 2, 1] [false, true] [true, true, false] = _ := is3
  have i4 : ladinglaw28_is [([-1, -2], 0, 0, 0)] [] [false, false] [] = _ := is4
  have i5 : ladinglaw28_is [([-1, -2], 0, 0, 0), ([-1], 0, 0, 0)] [1, 2] [false, true] [false, true] = _ := is5
  rw [e2, bind_in, i1, bind_in, cond_true, i2, bind_in, cond_true, i3, bind_in, bind_in]
  unfold ladinglaw28_small.j2
  rw [i4, bind_in, cond_true, i5, bind_in, bind_in]
  unfold ladinglaw28_small.j1
  simp only [cond_true, eqZ_eq]
  simp only [decide_true, cond_true]
  rw [cmp_eq (by decide) (by decide) (by decide), bind_in]
  decide
/-- whatever is asked, the code says what the reference says -/
theorem tells_true (l : List GClause) (n : Int) (w : List Int) (a b T : List Bool) (P : List (List (List Int))) : ladinglaw28_PreferTells l n w a b T P = some true := by
  unfold ladinglaw28_PreferTells
  rw [small_true, bind_in]
  obtain ⟨f, h1, h2⟩ := few_eq (l := l) (n := n) (s := w)
  rw [h1, bind_in]
  cases f with
  | false => rw [Bool.not_false, cond_true, bind_in]; simp only [ladinglaw28_PreferTells.j3, cond_true]
  | true =>
    obtain ⟨g1, g2, g3, g4⟩ := h2 rfl
    obtain ⟨q, h3, h4⟩ := light_eq (p := P)
    rw [Bool.not_true, cond_false, h3, bind_in]
    cases q with
    | false => rw [Bool.not_false, cond_true, bind_in]; simp only [ladinglaw28_PreferTells.j3, cond_true]
    | true =>
      obtain ⟨g5, g6⟩ := h4 rfl
      rw [Bool.not_true, cond_false]
      simp only [ltZ_eq]
      by_cases ha : 20 < a.length
      · rw [decide_eq_true (by omega), cond_true, bind_in]; simp only [ladinglaw28_PreferTells.j3, cond_true]
      rw [decide_eq_false (by omega), cond_false]
      by_cases hb : 20 < b.length
      · rw [decide_eq_true (by omega), cond_true, bind_in]; simp only [ladinglaw28_PreferTells.j3, cond_true]
      rw [decide_eq_false (by omega), cond_false, bind_in]
      by_cases hT : 20 < T.length
      · rw [decide_eq_true (by omega)]; simp only [ladinglaw28_PreferTells.j3, cond_true]
      rw [decide_eq_false (by omega)]
      have hs : Sized l := sized_of (by omega) (by omega) g1 g2
      have hP : ∀ L ∈ P, ∀ c ∈ L, c.length ≤ 1000000 := fun L hL c hc => by have := (g6 L hL).2 c hc; omega
      obtain ⟨z1, z2, z3, z4⟩ := best_size (n := n) (w := w) hs (by omega)
      unfold ladinglaw28_PreferTells.j3
      rw [cond_false, best_eq hs (by omega), bind_in, rbest_eq hs (by omega), bind_in]
      generalize bestF l n w = r at z1 z2 z3 z4
      have hR : ∀ L ∈ r.2.2.1, ∀ c ∈ L, c.length ≤ 1000000 := fun L hL c hc => by have := (z4 L hL).2 c hc; omega
      rw [eqZ_eq, decide_eq_true rfl, Bool.not_true, cond_false, bools_eq (by omega), bind_in, decide_eq_true rfl, Bool.not_true, cond_false, bools_eq (by omega), bind_in, decide_eq_true rfl, Bool.not_true, cond_false,
        proofs_same (by omega) (fun L hL => ⟨by have := (z4 L hL).1; omega, hR L hL⟩), bind_in, Bool.not_true, bind_in]
      unfold ladinglaw28_PreferTells.j2
      rw [cond_false, cmp_eq (by omega) (by omega) (by omega), bind_in, rcmp_eq (by omega) (by omega) (by omega), bind_in, eqZ_eq, decide_eq_true rfl, Bool.not_true, cond_false, cmp_eq (by omega) (by omega) (by omega), bind_in, rcmp_eq (by omega) (by omega) (by omega), bind_in, eqZ_eq, decide_eq_true rfl, Bool.not_true, bind_in]
      unfold ladinglaw28_PreferTells.j1
      rw [cond_false, check_eq hs (by omega) (by omega) hP, bind_in, rcheck_eq hs (by omega) (by omega) hP, bind_in, check_eq hs (by omega) (by omega) hP, bind_in, rcheck_eq hs (by omega) (by omega) hP, bind_in, check_eq hs (by omega) (by omega) hR, bind_in, rcheck_eq hs (by omega) (by omega) hR, bind_in]
      simp only [eqZ_eq, decide_true, cond_true]
      rw [check_eq hs (by omega) (by omega) hR, bind_in, rcheck_eq hs (by omega) (by omega) hR, bind_in, decide_eq_true rfl]
end Go.Proofs.Ytimiahoaafjmmaa
