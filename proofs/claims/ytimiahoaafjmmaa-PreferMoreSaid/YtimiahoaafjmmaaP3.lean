/-
  Layer 28 (prefer): what Best finds: which wishes are taken.
-/
import Derived.Test.YtimiahoaafjmmaaP2
namespace Go.Proofs.Ytimiahoaafjmmaa
open Go.Lad
set_option linter.unusedVariables false
set_option linter.unusedSimpArgs false
set_option linter.unusedSectionVars false
theorem badA_f {n : Int} {s : List Int} : badA n s = false ↔ ∀ x ∈ s, x ≠ 0 ∧ -n ≤ x ∧ x ≤ n := by
  unfold badA
  rw [List.any_eq_false]
  refine ⟨fun h x hx => ?_, fun h x hx => ?_⟩
  · have := h x hx
    unfold badN at this
    rw [decide_eq_true_eq] at this
    omega
  · have := h x hx
    unfold badN
    rw [decide_eq_true_eq]
    omega
theorem badA_fix {n : Int} {w : List Int} {T : List Bool} (h : badA n w = false) : badA n (fixF w T) = false := badA_f.2 fun y hy => by
  obtain ⟨x, hx, e⟩ := fix_mem hy
  have := badA_f.1 h x hx
  omega
theorem badA_app {n : Int} {s t : List Int} (h1 : badA n s = false) (h2 : badA n t = false) : badA n (s ++ t) = false := badA_f.2 fun y hy => by
  rcases List.mem_append.1 hy with hy | hy
  · exact badA_f.1 h1 y hy
  · exact badA_f.1 h2 y hy
/-- what Solve returns, with few variables -/
def Sol2 (C : List (List Int)) (n : Nat) (s : List Int) (r : Res) : Prop :=
  (∃ m, r = (m, [], 0) ∧ Sat C n s m ∧ ∀ m', Sat C n s m' → ¬ Before m' m) ∨
  (∃ K, r = ([], K, 26) ∧ (∀ m, ¬ Sat C n s m) ∧ PrfOK (C ++ units s) K ∧ K.length ≤ 4000 ∧ ∀ c ∈ K, c.length ≤ 2000)
theorem sol_two {l : List GClause} {n : Nat} {s : List Int} (h : Sized l) (hn : n ≤ 11) (hs : s.length ≤ 100000) (hr : rightF l (n : Int) = true) (hb : badA (n : Int) s = false) : Sol2 (lits l) n s (solF l n s) := by
  obtain ⟨r, h1, h2⟩ := solve_found h.len h.lits hs hr hb
  have he := sol_eq (n := (n : Int)) h hs
  have e : solF l n s = r := Option.some.inj (he.1.symm.trans h1)
  rw [e] at he ⊢
  rcases h2 with ⟨m, rfl, h3, h4⟩ | ⟨K, rfl, h3, h4, h5, h6, h7⟩ | ⟨K, rfl, h3, h4, h5⟩
  · exact .inl ⟨m, rfl, h3, h4⟩
  · exact .inr ⟨K, rfl, h3, h4, h6, he.2.2.2.2.2⟩
  · exact (full_no hn h3 h4 h5).elim
/-! ### literals of few variables -/
def Small (n : Nat) (x : Int) : Prop := Lit x ∧ x.natAbs ≤ n
theorem small_of {n : Nat} {w : List Int} (hn : n ≤ 2000) (h : badA (n : Int) w = false) : ∀ x ∈ w, Small n x := fun x hx => by
  have := badA_f.1 h x hx
  exact ⟨⟨by omega, by omega, by omega⟩, by omega⟩
theorem tru_pick {m : List Bool} {x : Int} {n : Nat} (h : Small n x) (hm : m.length = n) (t : Bool) : tru m (pick x t) = true ↔ hol m x = t := by
  rw [hol_tru h.1]
  unfold pick
  rcases tru_dec h.1 (by rw [hm]; exact h.2) with h1 | h1
  · cases t with
    | true => rw [if_pos rfl]
    | false =>
      rw [if_neg (by simp), h1]
      exact ⟨fun h2 => (tru_neg h1 h2).elim, fun h2 => by cases h2⟩
  · cases t with
    | true => rw [if_pos rfl]
    | false =>
      rw [if_neg (by simp), h1]
      refine ⟨fun _ => ?_, fun _ => rfl⟩
      cases h2 : tru m x with
      | false => rfl
      | true => exact (tru_neg h2 h1).elim
/-- what is fixed holds: the wishes that hold are those that are taken -/
theorem fix_tru {m : List Bool} {n : Nat} {w : List Int} {T : List Bool} (hw : ∀ x ∈ w, Small n x) (hm : m.length = n) (hl : T.length ≤ w.length) :
    (∀ y ∈ fixF w T, tru m y = true) ↔ ∀ k (hk : k < T.length), hol m (w[k]'(by omega)) = T[k] := by
  have hlen : (fixF w T).length = T.length := by unfold fixF; rw [List.length_zipWith]; omega
  have hget : ∀ k (hk : k < T.length), (fixF w T)[k]'(by omega) = pick (w[k]'(by omega)) T[k] := fun k hk => by unfold fixF; rw [List.getElem_zipWith]
  refine ⟨fun h k hk => ?_, fun h y hy => ?_⟩
  · have := h _ (List.getElem_mem (show k < (fixF w T).length by omega))
    rw [hget k hk] at this
    exact (tru_pick (hw _ (List.getElem_mem _)) hm _).1 this
  · obtain ⟨k, hk, rfl⟩ := List.mem_iff_getElem.1 hy
    rw [hget k (by omega)]
    exact (tru_pick (hw _ (List.getElem_mem _)) hm _).2 (h k (by omega))
/-! ### which wishes are taken -/
structure Took (C : List (List Int)) (n : Nat) (w : List Int) (T : List Bool) (P : List (List (List Int))) : Prop where
  len : T.length ≤ w.length
  plen : P.length = T.length
  yes : ∀ k (hk : k < T.length), T[k] = true → P.getD k [] = [] ∧ ∃ m, Sat C n (fixF w (T.take k) ++ [w[k]'(by omega)]) m
  no : ∀ k (hk : k < T.length), T[k] = false → (∀ m, ¬ Sat C n (fixF w (T.take k) ++ [w[k]'(by omega)]) m) ∧ PrfOK (C ++ units (fixF w (T.take k) ++ [w[k]'(by omega)])) (P.getD k []) ∧ (P.getD k []).length ≤ 4000
  some : ∃ m, Sat C n (fixF w T) m
theorem getD_snoc {α : Type} {l : List α} {k : Nat} {x d : α} : (l ++ [x]).getD k d = if k < l.length then l.getD k d else if k = l.length then x else d := by
  rw [List.getD_eq_getElem?_getD, List.getD_eq_getElem?_getD, List.getElem?_append]
  split
  · rfl
  · split
    · rename_i h; subst h; simp
    · rw [List.getElem?_eq_none (by simp; omega)]; rfl
theorem Took.snoc {C : List (List Int)} {n : Nat} {w : List Int} {T : List Bool} {P : List (List (List Int))} (h : Took C n w T P) (hT : T.length < w.length) {t : Bool} {K : List (List Int)}
    (h1 : t = true → K = [] ∧ ∃ m, Sat C n (fixF w T ++ [w[T.length]]) m) (h2 : t = false → (∀ m, ¬ Sat C n (fixF w T ++ [w[T.length]]) m) ∧ PrfOK (C ++ units (fixF w T ++ [w[T.length]])) K ∧ K.length ≤ 4000)
    (h3 : ∃ m, Sat C n (fixF w T ++ [pick w[T.length] t]) m) : Took C n w (T ++ [t]) (P ++ [K]) := by
  have htk : ∀ k, k ≤ T.length → (T ++ [t]).take k = T.take k := fun k hk => by rw [List.take_append_of_le_length hk]
  have hplen := h.plen
  refine ⟨by simp; omega, by simp [h.plen], fun k hk e => ?_, fun k hk e => ?_, by rw [fix_snoc hT]; exact h3⟩
  · rw [htk k (by simp at hk; omega), getD_snoc]
    by_cases hkt : k < T.length
    · rw [List.getElem_append_left hkt] at e
      rw [if_pos (by omega)]
      exact h.yes k hkt e
    · have : k = T.length := by simp at hk; omega
      subst this
      rw [List.getElem_append_right (Nat.le_refl _)] at e
      simp at e
      rw [if_neg (by omega), if_pos hplen.symm, List.take_length]
      exact h1 e
  · rw [htk k (by simp at hk; omega), getD_snoc]
    by_cases hkt : k < T.length
    · rw [List.getElem_append_left hkt] at e
      rw [if_pos (by omega)]
      exact h.no k hkt e
    · have : k = T.length := by simp at hk; omega
      subst this
      rw [List.getElem_append_right (Nat.le_refl _)] at e
      simp at e
      rw [if_neg (by omega), if_pos hplen.symm, List.take_length]
      exact h2 e
theorem sat_app {C : List (List Int)} {n : Nat} {s t : List Int} {m : List Bool} : Sat C n (s ++ t) m ↔ Sat C n s m ∧ ∀ x ∈ t, tru m x = true := by
  unfold Sat
  refine ⟨fun h => ⟨⟨h.1, h.2.1, fun x hx => h.2.2 x (List.mem_append_left _ hx)⟩, fun x hx => h.2.2 x (List.mem_append_right _ hx)⟩, fun h => ⟨h.1.1, h.1.2.1, fun x hx => ?_⟩⟩
  rcases List.mem_append.1 hx with hx | hx
  · exact h.1.2.2 x hx
  · exact h.2 x hx
/-- WHAT BEST RETURNS -/
theorem best_spec {l : List GClause} {n : Nat} {w : List Int} (h : Sized l) (hn : n ≤ 11) (hr : rightW l (n : Int) w = true) :
    ((∀ m, ¬ Sat (lits l) n [] m) ∧ bestF l n w = ([], [], [], 26)) ∨
    ∃ m T P, bestF l n w = (m, T, P, 0) ∧ Took (lits l) n w T P ∧ T.length = w.length ∧ Sat (lits l) n (fixF w T) m ∧ ∀ m', Sat (lits l) n (fixF w T) m' → ¬ Before m' m := by
  obtain ⟨hr1, hr2, hr3⟩ := rightW_iff.1 hr
  have hsm := small_of (by omega) hr3
  unfold bestF
  rw [if_pos hr]
  rcases sol_two h hn (s := []) (by simp) hr1 rfl with ⟨m0, e0, h1, h2⟩ | ⟨K, e0, h1, _⟩
  · rw [e0, if_pos rfl]
    have hgo : ∃ s, goF l n w = .inl s ∧ Took (lits l) n w s.1 s.2 ∧ s.1.length = w.length := by
      refine runI_inv (f := fun k s x => Sum.map id Sum.inr (bodyB l n w k s x)) (fin := Sum.inl) (fun k s => Took (lits l) n w s.1 s.2 ∧ s.1.length = k) (fun e : TP ⊕ Int => ∃ s, e = .inl s ∧ Took (lits l) n w s.1 s.2 ∧ s.1.length = w.length) (fun k hk s hs => ?_) (fun s hs => ⟨s, rfl, hs.1, hs.2⟩) ⟨⟨by simp, rfl, fun k hk => by simp at hk, fun k hk => by simp at hk, m0, by rw [fix_nil]; exact h1⟩, rfl⟩
      obtain ⟨ht, rfl⟩ := hs
      have hl := fix_len w s.1
      have hx := hsm _ (List.getElem_mem hk)
      have hb1 : badA (n : Int) (fixF w s.1 ++ [w[s.1.length]]) = false := badA_app (badA_fix hr3) (badA_f.2 fun y hy => by
        rw [List.mem_singleton.1 hy]; exact badA_f.1 hr3 _ (List.getElem_mem hk))
      unfold bodyB
      rcases sol_two h hn (s := fixF w s.1 ++ [w[s.1.length]]) (by simp only [List.length_append, List.length_singleton]; omega) hr1 hb1 with ⟨m1, e1, h3, h4⟩ | ⟨K, e1, h3, h4, h5, h6⟩
      · rw [e1, if_pos rfl]
        refine ⟨fun s' e => ?_, fun b e => by cases e⟩
        injection e with e; subst e
        exact ⟨ht.snoc hk (fun _ => ⟨rfl, m1, h3⟩) (fun e => by cases e) ⟨m1, h3⟩, by simp⟩
      · rw [e1, if_neg (show ¬ (26 : Int) = 0 by decide), if_pos rfl]
        refine ⟨fun s' e => ?_, fun b e => by cases e⟩
        injection e with e; subst e
        refine ⟨ht.snoc hk (fun e => by cases e) (fun _ => ⟨h3, h4, h5⟩) ?_, by simp⟩
        obtain ⟨m2, h7⟩ := ht.some
        refine ⟨m2, sat_app.2 ⟨h7, fun y hy => ?_⟩⟩
        rw [List.mem_singleton.1 hy, tru_pick hx h7.1]
        cases h8 : hol m2 w[s.1.length] with
        | false => rfl
        | true =>
          rw [hol_tru hx.1] at h8
          exact (h3 m2 (sat_app.2 ⟨h7, fun y hy => by rw [List.mem_singleton.1 hy]; exact h8⟩)).elim
    obtain ⟨s, h3, h4, h5⟩ := hgo
    rw [h3]
    simp only
    unfold endF
    have hl := fix_len w s.1
    rcases sol_two h hn (s := fixF w s.1) (by omega) hr1 (badA_fix hr3) with ⟨m1, e1, h6, h7⟩ | ⟨K, e1, h6, _⟩
    · rw [e1, if_pos rfl]
      exact .inr ⟨m1, s.1, s.2, rfl, h4, h5, h6, h7⟩
    · obtain ⟨m2, h7⟩ := h4.some
      exact (h6 m2 h7).elim
  · rw [e0, if_neg (show ¬ (26 : Int) = 0 by decide)]
    exact .inl ⟨h1, rfl⟩
/-- a model that is best: the wishes that hold are those that are taken -/
theorem Took.hol {C : List (List Int)} {n : Nat} {w : List Int} {T : List Bool} {m : List Bool} (hT : T.length ≤ w.length) (hw : ∀ x ∈ w, Small n x) (hm : Sat C n (fixF w T) m) : ∀ k (hk : k < T.length), hol m (w[k]'(by omega)) = T[k] := (fix_tru hw hm.1 hT).1 hm.2.2
/-- no model is better -/
theorem Took.best {C : List (List Int)} {n : Nat} {w : List Int} {T : List Bool} {P : List (List (List Int))} {m m' : List Bool} (h : Took C n w T P) (hw : ∀ x ∈ w, Small n x) (hl : T.length = w.length) (hm : Sat C n (fixF w T) m) (hm' : Sat C n [] m') : cmpF w m' m ≤ 0 := by
  refine Classical.byContradiction fun hc => ?_
  obtain ⟨k, hk, h1, h2, h3⟩ := cmp_pos (show 0 < cmpF w m' m by omega)
  have hh := Took.hol h.len hw hm
  have hf : T[k]'(by omega) = false := by rw [← hh k (by omega)]; exact h2
  refine (h.no k (by omega) hf).1 m' (sat_app.2 ⟨⟨hm'.1, hm'.2.1, ?_⟩, fun y hy => ?_⟩)
  · refine (fix_tru hw hm'.1 (by rw [List.length_take]; omega)).2 fun j hj => ?_
    rw [List.length_take] at hj
    rw [List.getElem_take, ← hh j (by omega)]
    exact h3 j (by omega)
  · rw [List.mem_singleton.1 hy, ← hol_tru (hw _ (List.getElem_mem hk)).1]; exact h1
/-- which of the first wishes are taken does not depend on the others -/
theorem fix_take : ∀ {w : List Int} {T : List Bool} {k : Nat}, T.length ≤ k → fixF w T = fixF (w.take k) T
  | [], T, k, _ => by simp
  | x :: w, [], k, _ => by rw [fix_nil, fix_nil]
  | x :: w, b :: T, 0, h => by simp at h
  | x :: w, b :: T, k + 1, h => by
    have := fix_take (w := w) (T := T) (k := k) (by simpa using h)
    unfold fixF at this ⊢
    rw [List.take_succ_cons, List.zipWith_cons_cons, List.zipWith_cons_cons, this]
theorem Took.uniq {C : List (List Int)} {n : Nat} {w w' : List Int} {T T' : List Bool} {P P' : List (List (List Int))} (h : Took C n w T P) (h' : Took C n w' T' P') : ∀ {j : Nat}, w.take j = w'.take j → j ≤ T.length → j ≤ T'.length → T.take j = T'.take j
  | 0, _, _, _ => by simp
  | j + 1, hw, hj, hj' => by
    have hl := h.len
    have hl' := h'.len
    have hwj : w.take j = w'.take j := by
      have := congrArg (List.take j) hw
      rwa [List.take_take, List.take_take, Nat.min_eq_left (by omega)] at this
    have hg : w[j]'(by omega) = w'[j]'(by omega) := by
      have := congrArg (fun l => l[j]?) hw
      simp only [List.getElem?_take_of_lt (Nat.lt_succ_self j)] at this
      rw [List.getElem?_eq_getElem (by omega), List.getElem?_eq_getElem (by omega)] at this
      exact Option.some.inj this
    have ih := h.uniq h' hwj (by omega) (by omega)
    have hfix : fixF w (T.take j) = fixF w' (T'.take j) := by
      rw [fix_take (w := w) (k := j) (by rw [List.length_take]; omega), fix_take (w := w') (k := j) (by rw [List.length_take]; omega), hwj, ih]
    rw [take_snoc T j (by omega), take_snoc T' j (by omega), ih]
    congr 2
    cases hb : T[j]'(by omega) with
    | true =>
      cases hb' : T'[j]'(by omega) with
      | true => rfl
      | false =>
        obtain ⟨m, h1⟩ := (h.yes j (by omega) hb).2
        rw [hfix, hg] at h1
        exact ((h'.no j (by omega) hb').1 m h1).elim
    | false =>
      cases hb' : T'[j]'(by omega) with
      | false => rfl
      | true =>
        obtain ⟨m, h1⟩ := (h'.yes j (by omega) hb').2
        rw [← hfix, ← hg] at h1
        exact ((h.no j (by omega) hb).1 m h1).elim
/-! ### proofs are sound -/
theorem follow_sat2 {C : List (List Int)} {c : List Int} {m : List Bool} (hm : m.length = 2000) (h : Fails C (negs c)) (hC : ∀ c ∈ C, ∃ x ∈ c, tru m x = true) : ∃ x ∈ c, tru m x = true := by
  refine Classical.byContradiction fun hn => h.no hC fun x hx hl => ?_
  obtain ⟨h1, _⟩ := mem_negs.1 hx
  rcases tru_dec hl (by rw [hm]; unfold Lit at hl; omega) with h3 | h3
  · exact h3
  · exact absurd ⟨-x, h1, h3⟩ hn
theorem all_sat2 {m : List Bool} (hm : m.length = 2000) : ∀ {L C : List (List Int)}, allF C L → (∀ c ∈ C, ∃ x ∈ c, tru m x = true) → ∀ c ∈ L, ∃ x ∈ c, tru m x = true
  | [], _, _, _ => fun c hc => by cases hc
  | d :: L, C, h, hC => fun c hc => by
    have hd := follow_sat2 hm h.1 hC
    rcases List.mem_cons.1 hc with rfl | hc
    · exact hd
    · refine all_sat2 hm h.2 (fun c hc => ?_) c hc
      rcases List.mem_append.1 hc with hc | hc
      · exact hC c hc
      · rw [List.mem_singleton.1 hc]; exact hd
theorem prf_no2 {m : List Bool} {C L : List (List Int)} (hm : m.length ≤ 2000) (h : PrfOK C L) (hC : ∀ c ∈ C, ∃ x ∈ c, tru m x = true) : False := by
  -- a model of all variables
  have hm2 : (m ++ List.replicate (2000 - m.length) false).length = 2000 := by simp; omega
  have hC2 : ∀ c ∈ C, ∃ x ∈ c, tru (m ++ List.replicate (2000 - m.length) false) x = true := fun c hc => by
    obtain ⟨x, hx, ht⟩ := hC c hc
    obtain ⟨h1, h2⟩ := tru_iff.1 ht
    refine ⟨x, hx, tru_iff.2 ⟨h1, ?_⟩⟩
    rw [List.getElem?_append_left (List.getElem?_eq_some_iff.1 h2).1]; exact h2
  obtain ⟨h1, h2, h3⟩ := h
  obtain ⟨h5, h6⟩ := last_at h1
  obtain ⟨x, hx, ht⟩ := all_sat2 hm2 h3 hC2 _ (List.getElem_mem h5)
  unfold lastLit at h2
  rw [h6, List.any_eq_false] at h2
  exact h2 x hx (decide_eq_true (tru_iff.1 ht).1)
end Go.Proofs.Ytimiahoaafjmmaa
