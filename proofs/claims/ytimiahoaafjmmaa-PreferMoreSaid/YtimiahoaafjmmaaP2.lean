/-
  Layer 28 (prefer): Best, of the code and of the reference, as one plain function; what it finds.
-/
import Derived.Test.YtimiahoaafjmmaaP1
namespace Go.Proofs.Ytimiahoaafjmmaa
open Go.Lad
set_option linter.unusedVariables false
set_option linter.unusedSimpArgs false
set_option linter.unusedSectionVars false
def pick (x : Int) (t : Bool) : Int := if t = true then x else -x
/-- the literals that are fixed: the wishes that are taken, the others' negations -/
def fixF (w : List Int) (T : List Bool) : List Int := List.zipWith pick w T
theorem get_at {α : Type} {w : List α} {i k : Nat} (hi : i < w.length) (hk : k < w.length) (e : i = k) : w[i] = w[k] := by subst e; rfl
theorem fix_nil (w : List Int) : fixF w [] = [] := by unfold fixF; simp
theorem fix_snoc : ∀ {w : List Int} {T : List Bool} (h : T.length < w.length) (t : Bool), fixF w (T ++ [t]) = fixF w T ++ [pick w[T.length] t]
  | [], T, h, _ => by simp at h
  | x :: w, [], h, t => by simp [fixF]
  | x :: w, b :: T, h, t => by
    have h' : T.length < w.length := by simpa using h
    have := fix_snoc h' t
    unfold fixF at this ⊢
    rw [List.cons_append, List.zipWith_cons_cons, List.zipWith_cons_cons, this]
    simp
theorem fix_take1 {w : List Int} {T : List Bool} {k : Nat} (h : k < w.length) (ht : k < T.length) : fixF w (T.take (k + 1)) = fixF w (T.take k) ++ [pick w[k] T[k]] := by
  rw [take_snoc T k ht, fix_snoc (by rw [List.length_take]; omega), get_at (k := k) _ h (by rw [List.length_take]; omega)]
theorem fix_len (w : List Int) (T : List Bool) : (fixF w T).length ≤ w.length := by unfold fixF; rw [List.length_zipWith]; omega
theorem fix_mem {w : List Int} {T : List Bool} {y : Int} (h : y ∈ fixF w T) : ∃ x ∈ w, y = x ∨ y = -x := by
  unfold fixF at h
  obtain ⟨i, hi, rfl⟩ := List.mem_iff_getElem.1 h
  rw [List.length_zipWith] at hi
  rw [List.getElem_zipWith]
  refine ⟨w[i]'(by omega), List.getElem_mem _, ?_⟩
  unfold pick
  split
  · exact .inl rfl
  · exact .inr rfl
theorem fixed_eq {w : List Int} {T : List Bool} {k : Nat} (hk : k ≤ w.length) (ht : k ≤ T.length) (hw : w.length ≤ 1000000) (hb : ∀ x ∈ w, -2000 ≤ x ∧ x ≤ 2000) : ladingref28_Fixed w T (k : Int) = some (fixF w (T.take k)) := by
  unfold ladingref28_Fixed
  refine loopF_at (body := fun x => ladingref28_Fixed.b1 w T (k : Int) x.1 x.2) (fun j => ((j : Int), fixF w (T.take j))) k (by rw [List.take_zero, fix_nil]; rfl) (fun j hj => ?_) ?_ (by omega)
  · have hjw : j < w.length := by omega
    have hjt : j < T.length := by omega
    have hx := hb _ (List.getElem_mem hjw)
    have hl := fix_len w (T.take j)
    simp only [ladingref28_Fixed.b1, lt_n hj, cond_true, idx_nat hjt, bind_in, idx_nat hjw]
    rw [fix_take1 hjw hjt]
    cases T[j] with
    | true => rw [cond_true, app_in (by simp only [List.length_singleton]; omega), bind_in, z64_succ (by omega), bind_in]; rfl
    | false => rw [cond_false, z64_in (by omega) (by omega), bind_in, app_in (by simp only [List.length_singleton]; omega), bind_in, z64_succ (by omega), bind_in]; rfl
  · simp only [ladingref28_Fixed.b1, lt_e, cond_false]
/-! ### Solve's result -/
structure Sized (l : List GClause) : Prop where
  len : l.length ≤ 100000
  lits : ∀ c ∈ l, c.1.length ≤ 1000000
noncomputable def solF (l : List GClause) (n : Int) (s : List Int) : Res := (solve_Solve l n s).getD ([], [], 0)
theorem sol_eq {l : List GClause} {n : Int} {s : List Int} (h : Sized l) (hs : s.length ≤ 100000) :
    solve_Solve l n s = some (solF l n s) ∧ solve_Solve_v2 l n s = some (perm (solF l n s)) ∧ ladingref27_Solve l n s = some (solF l n s) ∧ (solF l n s).1.length ≤ 2000 ∧ (solF l n s).2.1.length ≤ 4000 ∧ ∀ c ∈ (solF l n s).2.1, c.length ≤ 2000 := by
  obtain ⟨r, h1, h2, h3⟩ := solve_both (n := n) h.len h.lits hs
  have e : solF l n s = r := by unfold solF; rw [h1]; rfl
  rw [e, solve_v2, h1]
  exact ⟨rfl, rfl, h2, h3⟩
/-! ### Best -/
abbrev TP := List Bool × List (List (List Int))
abbrev Out := (List Bool) × (List Bool) × (List (List (List Int))) × Int
noncomputable def bodyB (l : List GClause) (n : Int) (w : List Int) (k : Nat) (s : TP) (x : Int) : TP ⊕ Int :=
  if (solF l n (fixF w s.1 ++ [x])).2.2 = 0 then .inl (s.1 ++ [true], s.2 ++ [[]])
  else if (solF l n (fixF w s.1 ++ [x])).2.2 = 26 then .inl (s.1 ++ [false], s.2 ++ [(solF l n (fixF w s.1 ++ [x])).2.1])
  else .inr (solF l n (fixF w s.1 ++ [x])).2.2
noncomputable def goF (l : List GClause) (n : Int) (w : List Int) : TP ⊕ Int := runI (fun k s x => Sum.map id Sum.inr (bodyB l n w k s x)) Sum.inl 0 ([], []) w
def failO (e : Int) : Out := ([], [], [], e)
noncomputable def endF (l : List GClause) (n : Int) (w : List Int) (T : List Bool) (P : List (List (List Int))) : Out :=
  if (solF l n (fixF w T)).2.2 = 0 then ((solF l n (fixF w T)).1, T, P, 0) else failO (solF l n (fixF w T)).2.2
noncomputable def bestF (l : List GClause) (n : Int) (w : List Int) : Out :=
  if rightW l n w = true then
    if (solF l n []).2.2 = 0 then
      match goF l n w with
      | .inl s => endF l n w s.1 s.2
      | .inr e => failO e
    else failO (solF l n []).2.2
  else failO 1
theorem runI_map {α σ ε β : Type} (g : ε → β) (f : Nat → σ → α → σ ⊕ ε) (fin : σ → ε) : ∀ (l : List α) (k : Nat) (s : σ), runI (fun k s x => Sum.map id g (f k s x)) (fun s => g (fin s)) k s l = g (runI f fin k s l)
  | [], _, _ => rfl
  | x :: l, k, s => by
    unfold runI
    cases f k s x with
    | inl s' => exact runI_map g f fin l (k + 1) s'
    | inr b => rfl
theorem runI_inv {α σ β : Type} {f : Nat → σ → α → σ ⊕ β} {fin : σ → β} {l : List α} (I : Nat → σ → Prop) (Q : β → Prop)
    (h : ∀ k (hk : k < l.length) s, I k s → (∀ s', f k s l[k] = .inl s' → I (k + 1) s') ∧ ∀ b, f k s l[k] = .inr b → Q b) (hd : ∀ s, I l.length s → Q (fin s)) {s0 : σ} (h0 : I 0 s0) : Q (runI f fin 0 s0 l) := by
  have key : ∀ (r : List α) (k : Nat) (s : σ), l.drop k = r → k ≤ l.length → I k s → Q (runI f fin k s r) := by
    intro r
    induction r with
    | nil =>
      intro k s he hk hs
      have : k = l.length := by
        have := congrArg List.length he
        rw [List.length_drop, List.length_nil] at this; omega
      subst this
      exact hd s hs
    | cons x r ih =>
      intro k s he hk hs
      have hlt : k < l.length := by
        have := congrArg List.length he
        rw [List.length_drop, List.length_cons] at this; omega
      have hx : l[k] = x ∧ l.drop (k + 1) = r := by
        rw [List.drop_eq_getElem_cons hlt] at he
        exact ⟨(List.cons.inj he).1, (List.cons.inj he).2⟩
      obtain ⟨h1, h2⟩ := h k hlt s hs
      rw [hx.1] at h1 h2
      unfold runI
      cases hf : f k s x with
      | inl s' => exact ih (k + 1) s' hx.2 hlt (h1 s' hf)
      | inr b => exact h2 b hf
  exact key l 0 s0 rfl (Nat.zero_le _) h0
theorem small_lits {n : Int} {w : List Int} (hn : n ≤ 2000) (h : badA n w = false) : ∀ x ∈ w, x ≠ 0 ∧ -n ≤ x ∧ x ≤ n := fun x hx => by
  unfold badA at h
  rw [List.any_eq_false] at h
  have := h x hx
  unfold badN at this
  rw [decide_eq_true_eq] at this
  omega
def gCode (w : List Int) : TP ⊕ Int → (List Int × TP) ⊕ Out
  | .inl s => .inl (fixF w s.1, s.1, s.2)
  | .inr e => .inr (failO e)
def gRef : TP ⊕ Int → TP ⊕ Out
  | .inl s => .inl s
  | .inr e => .inr (failO e)
theorem best_eq {l : List GClause} {n : Int} {w : List Int} (h : Sized l) (hw : w.length ≤ 1000000) : prefer_Best l n w = some (bestF l n w) := by
  unfold prefer_Best bestF
  rw [pright_eq (ok_of (by have := h.len; omega) h.lits) hw, bind_in]
  cases hr : rightW l n w with
  | false => rw [Bool.not_false, cond_true, if_neg (by simp)]; rfl
  | true =>
    obtain ⟨hr1, hr2, hr3⟩ := rightW_iff.1 hr
    have hn := (rightF_iff.1 hr1).1
    have hb := small_lits hn.2.1 hr3
    rw [Bool.not_true, cond_false, if_pos rfl, (sol_eq h (by simp)).1, bind_in, bif_not, bif_eqZ]
    by_cases h0 : (solF l n []).2.2 = 0
    · rw [if_pos h0, if_pos h0]
      have key := loop_run (body := fun x => prefer_Best.b1 l n w x.1 x.2.1 x.2.2.1 x.2.2.2) (fun k (s : TP) => ((k : Int), fixF w s.1, s.1, s.2)) w
        (fun k s x => Sum.map id (gCode w) (Sum.map id Sum.inr (bodyB l n w k s x)))
        (fun s => gCode w (Sum.inl s)) (fun k s => s.1.length = k ∧ s.2.length = k)
        (fun k hk s s' hs hf => by
          obtain ⟨h1, h2⟩ := hs
          unfold bodyB at hf
          split at hf
          · injection hf with hf; subst hf; simp [h1, h2]
          · split at hf
            · injection hf with hf; subst hf; simp [h1, h2]
            · cases hf)
        (fun k hk s hs => by
          obtain ⟨h1, h2⟩ := hs
          have hx := hb _ (List.getElem_mem hk)
          have hl := fix_len w s.1
          have hsl : (fixF w s.1 ++ [w[k]]).length ≤ 100000 := by simp only [List.length_append, List.length_singleton]; omega
          simp only [prefer_Best.b1, lt_n hk, cond_true, idx_nat hk, bind_in, clone_eq (show (fixF w s.1).length ≤ 1000000 by omega)]
          rw [app_in (by simp only [List.length_singleton]; omega), bind_in, (sol_eq h hsl).2.1, bind_in]
          unfold bodyB perm
          have hfix : ∀ t, fixF w (s.1 ++ [t]) = fixF w s.1 ++ [pick w[k] t] := fun t => by
            rw [fix_snoc (by omega), get_at (k := k) _ hk h1]
          generalize solF l n (fixF w s.1 ++ [w[k]]) = r
          simp only
          rw [bif_eqZ]
          by_cases e0 : r.2.2 = 0
          · rw [if_pos e0, if_pos e0, app_in (by simp only [List.length_singleton]; omega), bind_in, app_in (by simp only [List.length_singleton]; omega), bind_in, z64_nx hk (by omega), bind_in]
            simp only [Sum.map_inl, id, hfix]
            rfl
          · rw [if_neg e0, if_neg e0, bif_eqZ]
            by_cases e1 : r.2.2 = 26
            · rw [if_pos e1, if_pos e1, z64_in (by omega) (by omega), bind_in, app_in (by simp only [List.length_singleton]; omega), bind_in, app_in (by simp only [List.length_singleton]; omega), bind_in, app_in (by simp only [List.length_singleton]; omega), bind_in, z64_nx hk (by omega), bind_in]
              simp only [Sum.map_inl, id, hfix]
              rfl
            · rw [if_neg e1, if_neg e1]
              rfl)
        (fun s hs => by simp only [prefer_Best.b1, lt_e, cond_false]; rfl) (by omega) (s0 := ([], [])) ⟨rfl, rfl⟩
      have key := key.trans (congrArg some (runI_map (gCode w) (fun k s x => Sum.map id Sum.inr (bodyB l n w k s x)) Sum.inl w 0 ([], [])))
      simp only [fix_nil] at key
      have key2 : loopF (fun x => prefer_Best.b1 l n w x.1 x.2.1 x.2.2.1 x.2.2.2) ((0 : Int), ([] : List Int), ([] : List Bool), ([] : List (List (List Int)))) = some (gCode w (goF l n w)) := key
      rw [key2, bind_in]
      show (match gCode w (goF l n w) with | .inl x => prefer_Best.j1 l n x.1 x.2.1 x.2.2 | .inr r => some r) = _
      cases goF l n w with
      | inr e => rfl
      | inl s =>
        show prefer_Best.j1 l n (fixF w s.1) s.1 s.2 = some (endF l n w s.1 s.2)
        unfold prefer_Best.j1 endF
        have hl := fix_len w s.1
        rw [(sol_eq h (by omega)).2.1, bind_in]
        unfold perm
        generalize solF l n (fixF w s.1) = r
        simp only
        rw [bif_not, bif_eqZ]
        by_cases e0 : r.2.2 = 0
        · rw [if_pos e0, if_pos e0]
        · rw [if_neg e0, if_neg e0]; rfl
    · rw [if_neg h0, if_neg h0]; rfl
theorem rbest_eq {l : List GClause} {n : Int} {w : List Int} (h : Sized l) (hw : w.length ≤ 1000000) : ladingref28_Best l n w = some (bestF l n w) := by
  unfold ladingref28_Best bestF
  rw [rright28_eq (ok_of (by have := h.len; omega) h.lits) hw, bind_in]
  cases hr : rightW l n w with
  | false => rw [Bool.not_false, cond_true, if_neg (by simp)]; rfl
  | true =>
    obtain ⟨hr1, hr2, hr3⟩ := rightW_iff.1 hr
    have hn := (rightF_iff.1 hr1).1
    have hb := small_lits hn.2.1 hr3
    have hb2 : ∀ x ∈ w, -2000 ≤ x ∧ x ≤ 2000 := fun x hx => by have := hb x hx; omega
    rw [Bool.not_true, cond_false, if_pos rfl, (sol_eq h (by simp)).2.2.1, bind_in, bif_not, bif_eqZ]
    by_cases h0 : (solF l n []).2.2 = 0
    · rw [if_pos h0, if_pos h0]
      have key := loop_run (body := fun x => ladingref28_Best.b1 l n w x.1 x.2.1 x.2.2) (fun k (s : TP) => ((k : Int), s.1, s.2)) w
        (fun k s x => Sum.map id gRef (Sum.map id Sum.inr (bodyB l n w k s x)))
        (fun s => gRef (Sum.inl s)) (fun k s => s.1.length = k ∧ s.2.length = k)
        (fun k hk s s' hs hf => by
          obtain ⟨h1, h2⟩ := hs
          unfold bodyB at hf
          split at hf
          · injection hf with hf; subst hf; simp [h1, h2]
          · split at hf
            · injection hf with hf; subst hf; simp [h1, h2]
            · cases hf)
        (fun k hk s hs => by
          obtain ⟨h1, h2⟩ := hs
          have hl := fix_len w s.1
          have hsl : (fixF w s.1 ++ [w[k]]).length ≤ 100000 := by simp only [List.length_append, List.length_singleton]; omega
          simp only [ladingref28_Best.b1, lt_n hk, cond_true]
          rw [fixed_eq (by omega) (by omega) hw hb2, bind_in, idx_nat hk, bind_in, List.take_of_length_le (by omega), app_in (by simp only [List.length_singleton]; omega), bind_in, (sol_eq h hsl).2.2.1, bind_in]
          unfold bodyB
          generalize solF l n (fixF w s.1 ++ [w[k]]) = r
          simp only [eqZ_eq]
          by_cases e0 : r.2.2 = 0
          · rw [decide_eq_true e0, Bool.not_true, cond_false, bind_in]
            unfold ladingref28_Best.j1
            rw [cond_false, eqZ_eq, decide_eq_true e0, cond_true, if_pos e0, app_in (by simp only [List.length_singleton]; omega), bind_in, app_in (by simp only [List.length_singleton]; omega), bind_in, z64_nx hk (by omega), bind_in]
            rfl
          · rw [decide_eq_false e0, Bool.not_false, cond_true, bind_in]
            unfold ladingref28_Best.j1
            by_cases e1 : r.2.2 = 26
            · rw [decide_eq_true e1, Bool.not_true, cond_false, eqZ_eq, decide_eq_false e0, cond_false, if_neg e0, if_pos e1, app_in (by simp only [List.length_singleton]; omega), bind_in, app_in (by simp only [List.length_singleton]; omega), bind_in, z64_nx hk (by omega), bind_in]
              rfl
            · rw [decide_eq_false e1, Bool.not_false, cond_true, if_neg e0, if_neg e1]
              rfl)
        (fun s hs => by simp only [ladingref28_Best.b1, lt_e, cond_false]; rfl) (by omega) (s0 := ([], [])) ⟨rfl, rfl⟩
      have key := key.trans (congrArg some (runI_map gRef (fun k s x => Sum.map id Sum.inr (bodyB l n w k s x)) Sum.inl w 0 ([], [])))
      have key2 : loopF (fun x => ladingref28_Best.b1 l n w x.1 x.2.1 x.2.2) ((0 : Int), ([] : List Bool), ([] : List (List (List Int)))) = some (gRef (goF l n w)) := key
      rw [key2, bind_in]
      have hlen : ∀ s, goF l n w = .inl s → s.1.length = w.length := by
        refine runI_inv (f := fun k s x => Sum.map id Sum.inr (bodyB l n w k s x)) (fin := Sum.inl) (fun k s => s.1.length = k) (fun e : TP ⊕ Int => ∀ s, e = .inl s → s.1.length = w.length) (fun k hk s hs => ?_) (fun s hs s' e => by injection e with e; subst e; exact hs) rfl
        unfold bodyB
        refine ⟨fun s' e => ?_, fun b e => ?_⟩
        · split at e
          · injection e with e; subst e; simp [hs]
          · split at e
            · injection e with e; subst e; simp [hs]
            · cases e
        · split at e
          · cases e
          · split at e
            · cases e
            · injection e with e; subst e; intro s' h; cases h
      show (match gRef (goF l n w) with | .inl x => ladingref28_Best.j2 l n w x.1 x.2 | .inr r => some r) = _
      cases hg : goF l n w with
      | inr e => rfl
      | inl s =>
        show ladingref28_Best.j2 l n w s.1 s.2 = some (endF l n w s.1 s.2)
        unfold ladingref28_Best.j2 endF
        have hl := fix_len w s.1
        have hsl := hlen s hg
        rw [fixed_eq (Nat.le_refl _) (by omega) hw hb2, bind_in, List.take_of_length_le (by omega), (sol_eq h (by omega)).2.2.1, bind_in]
        generalize solF l n (fixF w s.1) = r
        rw [bif_not, bif_eqZ]
        by_cases e0 : r.2.2 = 0
        · rw [if_pos e0, if_pos e0]
        · rw [if_neg e0, if_neg e0]; rfl
    · rw [if_neg h0, if_neg h0]; rfl
/-! ### the sizes of what Best returns -/
theorem best_size {l : List GClause} {n : Int} {w : List Int} (h : Sized l) (hw : w.length ≤ 90000) : (bestF l n w).1.length ≤ 2000 ∧ (bestF l n w).2.1.length ≤ w.length ∧ (bestF l n w).2.2.1.length ≤ w.length ∧ ∀ L ∈ (bestF l n w).2.2.1, L.length ≤ 4000 ∧ ∀ c ∈ L, c.length ≤ 2000 := by
  have hf : ∀ e, (failO e).1.length ≤ 2000 ∧ (failO e).2.1.length ≤ w.length ∧ (failO e).2.2.1.length ≤ w.length ∧ ∀ L ∈ (failO e).2.2.1, L.length ≤ 4000 ∧ ∀ c ∈ L, c.length ≤ 2000 := fun e => ⟨by simp [failO], by simp [failO], by simp [failO], fun L hL => by cases hL⟩
  unfold bestF
  split
  · split
    · have hgo : ∀ s, goF l n w = .inl s → s.1.length ≤ w.length ∧ s.2.length ≤ w.length ∧ ∀ L ∈ s.2, L.length ≤ 4000 ∧ ∀ c ∈ L, c.length ≤ 2000 := by
        refine runI_inv (f := fun k s x => Sum.map id Sum.inr (bodyB l n w k s x)) (fin := Sum.inl) (fun k s => s.1.length = k ∧ s.2.length = k ∧ ∀ L ∈ s.2, L.length ≤ 4000 ∧ ∀ c ∈ L, c.length ≤ 2000) (fun e : TP ⊕ Int => ∀ s, e = .inl s → s.1.length ≤ w.length ∧ s.2.length ≤ w.length ∧ ∀ L ∈ s.2, L.length ≤ 4000 ∧ ∀ c ∈ L, c.length ≤ 2000) (fun k hk s hs => ?_) (fun s hs s' e => by injection e with e; subst e; exact ⟨by omega, by omega, hs.2.2⟩) ⟨rfl, rfl, fun L hL => by cases hL⟩
        obtain ⟨h1, h2, h3⟩ := hs
        have hl := fix_len w s.1
        have hsz := (sol_eq (n := n) h (show (fixF w s.1 ++ [w[k]]).length ≤ 100000 by simp only [List.length_append, List.length_singleton]; omega)).2.2.2.2
        unfold bodyB
        refine ⟨fun s' e => ?_, fun b e => ?_⟩
        · split at e
          · injection e with e; subst e
            refine ⟨by simp [h1], by simp [h2], fun L hL => ?_⟩
            rcases List.mem_append.1 hL with hL | hL
            · exact h3 L hL
            · rw [List.mem_singleton.1 hL]; exact ⟨by simp, fun c hc => by cases hc⟩
          · split at e
            · injection e with e; subst e
              refine ⟨by simp [h1], by simp [h2], fun L hL => ?_⟩
              rcases List.mem_append.1 hL with hL | hL
              · exact h3 L hL
              · rw [List.mem_singleton.1 hL]; exact hsz
            · cases e
        · split at e
          · cases e
          · split at e
            · cases e
            · injection e with e; subst e; intro s' h; cases h
      split
      · rename_i s hs
        obtain ⟨g1, g2, g3⟩ := hgo s hs
        unfold endF
        split
        · have hl := fix_len w s.1
          exact ⟨(sol_eq (n := n) h (by omega)).2.2.2.1, g1, g2, g3⟩
        · exact hf _
      · exact hf _
    · exact hf _
  · exact hf _
end Go.Proofs.Ytimiahoaafjmmaa
