/-
  Plain texts of layers 26 to 28.
-/
import Derived.Test.YthibbellkcdodaaC5
namespace Go.Proofs.Ythibbellkcdodaa
open Go.Lad
set_option linter.unusedVariables false
set_option linter.unusedSimpArgs false
set_option linter.unusedSectionVars false
/-! ### Solve's other instance -/
theorem loopF_map {α β γ : Type} [Fuel] (g : β → γ) {b1 : α → Option (α ⊕ β)} {b2 : α → Option (α ⊕ γ)} (h : ∀ x, b2 x = (b1 x).map (Sum.map id g)) (x : α) : loopF b2 x = (loopF b1 x).map g := by
  unfold loopF
  generalize Fuel.n = n
  induction n generalizing x with
  | zero => rfl
  | succ n ih =>
    unfold iterM
    rw [h]
    cases b1 x with
    | none => rfl
    | some y => cases y with
      | inl y => exact ih y
      | inr y => rfl
def perm (r : Res) : List (List Int) × Int × List Bool := (r.2.1, r.2.2, r.1)
theorem v2_j1 (a : List GClause) (b : List (List Int)) (c d : List Int) : solve_Solve_v2.j1 a b c d = (solve_Solve.j1 a b c d).map (Sum.map id (Sum.map id perm)) := by
  unfold solve_Solve_v2.j1 solve_Solve.j1
  cases app? b [d] with
  | none => rfl
  | some l =>
    rw [bind_in, bind_in]
    cases app? a [(d, 0, 0, 0)] with
    | none => rfl
    | some m =>
      rw [bind_in, bind_in]
      cases eqZ (c.length : Int) 0 with
      | true => rfl
      | false =>
        rw [cond_false, cond_false]
        cases z64 ((c.length : Int) - 1) with
        | none => rfl
        | some v =>
          rw [bind_in, bind_in]
          cases cut c 0 v with
          | none => rfl
          | some e => rfl
theorem v2_b2 (p : Int) (q : Bool × List Int) (a : Int) (b : List Bool) : solve_Solve_v2.b2 p q a b = (solve_Solve.b2 p q a b).map (Sum.map id (Sum.map id perm)) := by
  unfold solve_Solve_v2.b2 solve_Solve.b2
  cases ltZ a p with
  | false => rfl
  | true =>
    rw [cond_true, cond_true]
    cases z64 (a + 1) with
    | none => rfl
    | some v =>
      rw [bind_in, bind_in]
      cases slices_BinarySearch_int_int q.2 v with
      | none => rfl
      | some i =>
        rw [bind_in, bind_in]
        cases idx b a with
        | none => rfl
        | some x => rfl
theorem v2_j2 (p : Int) (q : Bool × List Int) (a : List GClause) (b : List (List Int)) (c : List Int) : solve_Solve_v2.j2 p q a b c = (solve_Solve.j2 p q a b c).map (Sum.map id perm) := by
  unfold solve_Solve_v2.j2 solve_Solve.j2
  cases solve_open q.2 p with
  | none => rfl
  | some o =>
    rw [bind_in, bind_in]
    cases ltZ o p with
    | true =>
      rw [cond_true, cond_true]
      cases z64 (-o) with
      | none => rfl
      | some v =>
        rw [bind_in, bind_in]
        cases z64 (v - 1) with
        | none => rfl
        | some w =>
          rw [bind_in, bind_in]
          cases app? c [w] with
          | none => rfl
          | some l => rfl
    | false =>
      rw [cond_false, cond_false]
      cases msNeed p p with
      | none => rfl
      | some u =>
        rw [bind_in, bind_in]
        exact loopF_map (Sum.map id perm) (fun x => v2_b2 p q x.1 x.2) _
theorem v2_b3 (p : Int) (s : List Int) (a : List GClause) (b : List (List Int)) (c : List Int) : solve_Solve_v2.b3 p s a b c = (solve_Solve.b3 p s a b c).map (Sum.map id perm) := by
  unfold solve_Solve_v2.b3 solve_Solve.b3
  cases slices_Concat_int_int [s, c] with
  | none => rfl
  | some i =>
    rw [bind_in, bind_in]
    cases clause_Propagate a i with
    | none => rfl
    | some q =>
      rw [bind_in, bind_in]
      cases q.1 with
      | true =>
        rw [Bool.not_true, cond_false, cond_false, bind_in, bind_in]
        exact v2_j2 p q a b c
      | false =>
        rw [Bool.not_false, cond_true, cond_true]
        cases eqZ (b.length : Int) 4000 with
        | true => rfl
        | false =>
          rw [cond_false, cond_false, show (fun x : Int × List Int => solve_Solve_v2.b1 c x.1 x.2) = (fun x => solve_Solve.b1 c x.1 x.2) from rfl]
          cases loopF (fun x : Int × List Int => solve_Solve.b1 c x.1 x.2) (0, []) with
          | none => rfl
          | some l =>
            rw [bind_in, bind_in, v2_j1]
            cases solve_Solve.j1 a b c l with
            | none => rfl
            | some y => cases y with
              | inl y => exact v2_j2 p q y.1 y.2.1 y.2.2
              | inr y => rfl
theorem solve_v2 (l : List GClause) (n : Int) (s : List Int) : solve_Solve_v2 l n s = (solve_Solve l n s).map perm := by
  unfold solve_Solve_v2 solve_Solve
  cases ((clause_Right l n).bind fun r4 => bif (!r4) then some true else ((slices_ContainsFunc_int_int_v2 s n).bind fun v5 => some v5)) with
  | none => rfl
  | some b =>
    rw [bind_in, bind_in]
    unfold solve_Solve_v2.j3 solve_Solve.j3
    cases b with
    | true => rfl
    | false =>
      rw [cond_false, cond_false]
      cases slices_Clone_api_Clause_api_Clause l with
      | none => rfl
      | some c =>
        rw [bind_in, bind_in]
        exact loopF_map perm (fun x => v2_b3 n s x.1 x.2.1 x.2.2) _
/-! ### Solve's result -/
structure Sized (l : List GClause) : Prop where
  len : l.length ≤ 100000
  lits : ∀ c ∈ l, c.1.length ≤ 1000000
noncomputable def solF (l : List GClause) (n : Int) (s : List Int) : Res := (solve_Solve l n s).getD ([], [], 0)
theorem sol_eq {l : List GClause} {n : Int} {s : List Int} (h : Sized l) (hs : s.length ≤ 100000) :
    solve_Solve l n s = some (solF l n s) ∧ solve_Solve_v2 l n s = some (perm (solF l n s)) ∧ ladingref27_Solve l n s = some (solF l n s) ∧ (solF l n s).1.length ≤ 2000 ∧ (solF l n s).2.1.length ≤ 4000 ∧ ∀ c ∈ (solF l n s).2.1, c.length ≤ 2000 := by
  obtain ⟨r, h1, h2, h3⟩ := solve_both (n := n) h.len h.lits hs
  have e : solF l n s = r := by unfold solF; rw [h1]; rfl
  rw [e, solve_v2, h1]
  exact ⟨rfl, rfl, h2, h3⟩
theorem runI_map {α σ ε β : Type} (g : ε → β) (f : Nat → σ → α → σ ⊕ ε) (fin : σ → ε) : ∀ (l : List α) (k : Nat) (s : σ), runI (fun k s x => Sum.map id g (f k s x)) (fun s => g (fin s)) k s l = g (runI f fin k s l)
  | [], _, _ => rfl
  | x :: l, k, s => by
    unfold runI
    cases f k s x with
    | inl s' => exact runI_map g f fin l (k + 1) s'
    | inr b => rfl
theorem runI_inv {α σ β : Type} {f : Nat → σ → α → σ ⊕ β} {fin : σ → β} {l : List α} (I : Nat → σ → Prop) (Q : β → Prop)
    (h : ∀ k (hk : k < l.length) s, I k s → (∀ s', f k s l[k] = .inl s' → I (k + 1) s') ∧ ∀ b, f k s l[k] = .inr b → Q b) (hd : ∀ s, I l.length s → Q (fin s)) {s0 : σ} (h0 : I 0 s0) : Q (runI f fin 0 s0 l) := by
  have key : ∀ (r : List α) (k : Nat) (s : σ), l.drop k = r → k ≤ l.length → I k s → Q (runI f fin k s r) := by
    intro r
    induction r with
    | nil =>
      intro k s he hk hs
      have : k = l.length := by
        have := congrArg List.length he
        rw [List.length_drop, List.length_nil] at this; omega
      subst this
      exact hd s hs
    | cons x r ih =>
      intro k s he hk hs
      have hlt : k < l.length := by
        have := congrArg List.length he
        rw [List.length_drop, List.length_cons] at this; omega
      have hx : l[k] = x ∧ l.drop (k + 1) = r := by
        rw [List.drop_eq_getElem_cons hlt] at he
        exact ⟨(List.cons.inj he).1, (List.cons.inj he).2⟩
      obtain ⟨h1, h2⟩ := h k hlt s hs
      rw [hx.1] at h1 h2
      unfold runI
      cases hf : f k s x with
      | inl s' => exact ih (k + 1) s' hx.2 hlt (h1 s' hf)
      | inr b => exact h2 b hf
  exact key l 0 s0 rfl (Nat.zero_le _) h0
theorem badA_f {n : Int} {s : List Int} : badA n s = false ↔ ∀ x ∈ s, x ≠ 0 ∧ -n ≤ x ∧ x ≤ n := by
  unfold badA
  rw [List.any_eq_false]
  refine ⟨fun h x hx => ?_, fun h x hx => ?_⟩
  · have := h x hx
    unfold badN at this
    rw [decide_eq_true_eq] at this
    omega
  · have := h x hx
    unfold badN
    rw [decide_eq_true_eq]
    omega
/-- what Solve returns, with few variables -/
def Sol2 (C : List (List Int)) (n : Nat) (s : List Int) (r : Res) : Prop :=
  (∃ m, r = (m, [], 0) ∧ Sat C n s m ∧ ∀ m', Sat C n s m' → ¬ Before m' m) ∨
  (∃ K, r = ([], K, 26) ∧ (∀ m, ¬ Sat C n s m) ∧ PrfOK (C ++ units s) K ∧ K.length ≤ 4000 ∧ ∀ c ∈ K, c.length ≤ 2000)
theorem sol_two {l : List GClause} {n : Nat} {s : List Int} (h : Sized l) (hn : n ≤ 11) (hs : s.length ≤ 100000) (hr : rightF l (n : Int) = true) (hb : badA (n : Int) s = false) : Sol2 (lits l) n s (solF l n s) := by
  obtain ⟨r, h1, h2⟩ := solve_found h.len h.lits hs hr hb
  have he := sol_eq (n := (n : Int)) h hs
  have e : solF l n s = r := Option.some.inj (he.1.symm.trans h1)
  rw [e] at he ⊢
  rcases h2 with ⟨m, rfl, h3, h4⟩ | ⟨K, rfl, h3, h4, h5, h6, h7⟩ | ⟨K, rfl, h3, h4, h5⟩
  · exact .inl ⟨m, rfl, h3, h4⟩
  · exact .inr ⟨K, rfl, h3, h4, h6, he.2.2.2.2.2⟩
  · exact (full_no hn h3 h4 h5).elim
/-! ### proofs are sound -/
theorem follow_sat2 {C : List (List Int)} {c : List Int} {m : List Bool} (hm : m.length = 2000) (h : Fails C (negs c)) (hC : ∀ c ∈ C, ∃ x ∈ c, tru m x = true) : ∃ x ∈ c, tru m x = true := by
  refine Classical.byContradiction fun hn => h.no hC fun x hx hl => ?_
  obtain ⟨h1, _⟩ := mem_negs.1 hx
  rcases tru_dec hl (by rw [hm]; unfold Lit at hl; omega) with h3 | h3
  · exact h3
  · exact absurd ⟨-x, h1, h3⟩ hn
theorem all_sat2 {m : List Bool} (hm : m.length = 2000) : ∀ {L C : List (List Int)}, allF C L → (∀ c ∈ C, ∃ x ∈ c, tru m x = true) → ∀ c ∈ L, ∃ x ∈ c, tru m x = true
  | [], _, _, _ => fun c hc => by cases hc
  | d :: L, C, h, hC => fun c hc => by
    have hd := follow_sat2 hm h.1 hC
    rcases List.mem_cons.1 hc with rfl | hc
    · exact hd
    · refine all_sat2 hm h.2 (fun c hc => ?_) c hc
      rcases List.mem_append.1 hc with hc | hc
      · exact hC c hc
      · rw [List.mem_singleton.1 hc]; exact hd
theorem prf_no2 {m : List Bool} {C L : List (List Int)} (hm : m.length ≤ 2000) (h : PrfOK C L) (hC : ∀ c ∈ C, ∃ x ∈ c, tru m x = true) : False := by
  -- a model of all variables
  have hm2 : (m ++ List.replicate (2000 - m.length) false).length = 2000 := by simp; omega
  have hC2 : ∀ c ∈ C, ∃ x ∈ c, tru (m ++ List.replicate (2000 - m.length) false) x = true := fun c hc => by
    obtain ⟨x, hx, ht⟩ := hC c hc
    obtain ⟨h1, h2⟩ := tru_iff.1 ht
    refine ⟨x, hx, tru_iff.2 ⟨h1, ?_⟩⟩
    rw [List.getElem?_append_left (List.getElem?_eq_some_iff.1 h2).1]; exact h2
  obtain ⟨h1, h2, h3⟩ := h
  obtain ⟨h5, h6⟩ := last_at h1
  obtain ⟨x, hx, ht⟩ := all_sat2 hm2 h3 hC2 _ (List.getElem_mem h5)
  unfold lastLit at h2
  rw [h6, List.any_eq_false] at h2
  exact h2 x hx (decide_eq_true (tru_iff.1 ht).1)
end Go.Proofs.Ythibbellkcdodaa
