/-
  Layer 26 (clause): Holds; bounds; laws of what follows; the examples.
-/
import Derived.Test.YtbkdiclfhoelbaaC8
namespace Go.Proofs.Ytbkdiclfhoelbaa
open Go.Lad
set_option linter.unusedVariables false
set_option linter.unusedSimpArgs false
set_option linter.unusedSectionVars false
/-! ### models -/
def tru (m : List Bool) (x : Int) : Bool := decide (Lit x ∧ m[x.natAbs - 1]? = some (decide (0 < x)))
theorem tru_iff {m : List Bool} {x : Int} : tru m x = true ↔ Lit x ∧ m[x.natAbs - 1]? = some (decide (0 < x)) := by unfold tru; exact decide_eq_true_iff
theorem tru_neg {m : List Bool} {x : Int} (h : tru m x = true) (h2 : tru m (-x) = true) : False := by
  obtain ⟨h3, h4⟩ := tru_iff.1 h
  obtain ⟨h5, h6⟩ := tru_iff.1 h2
  rw [Int.natAbs_neg, h4] at h6
  have := Option.some.inj h6
  rw [decide_eq_decide] at this
  unfold Lit at h3
  omega
theorem tru_dec {m : List Bool} {x : Int} (h : Lit x) (hm : x.natAbs ≤ m.length) : tru m x = true ∨ tru m (-x) = true := by
  have hx : x.natAbs - 1 < m.length := by unfold Lit at h; omega
  by_cases he : m[x.natAbs - 1] = decide (0 < x)
  · exact .inl (tru_iff.2 ⟨h, by rw [List.getElem?_eq_getElem hx, he]⟩)
  · refine .inr (tru_iff.2 ⟨h.neg, ?_⟩)
    rw [Int.natAbs_neg, List.getElem?_eq_getElem hx]
    congr 1
    have : decide (0 < -x) = !decide (0 < x) := by
      unfold Lit at h
      by_cases hp : 0 < x
      · rw [decide_eq_true hp, decide_eq_false (by omega)]; rfl
      · rw [decide_eq_false hp, decide_eq_true (by omega)]; rfl
    rw [this]
    cases h1 : m[x.natAbs - 1] <;> cases h2 : decide (0 < x) <;> simp_all
theorem true_eq {m : List Bool} {x : Int} : ladingref26_True m x = some (tru m x) := by
  unfold ladingref26_True
  rw [Lit_eq, bind_in, bif_not]
  by_cases hx : Lit x
  · rw [decide_eq_true hx, cond_true]
    have hx' := hx
    unfold Lit at hx'
    rw [z64_in (by omega) (by omega), bind_in, z64_p (show max x (-x) - 1 = ((x.natAbs - 1 : Nat) : Int) by omega) (by omega) (by omega), bind_in, bif_ltZ]
    by_cases hm : x.natAbs - 1 < m.length
    · rw [if_pos (by omega), idx_nat hm, bind_in, ltZ_eq]
      congr 1
      rw [Bool.eq_iff_iff, tru_iff, List.getElem?_eq_getElem hm]
      simp [hx]
    · rw [if_neg (by omega)]
      congr 1
      symm
      rw [Bool.eq_false_iff, Ne, tru_iff, List.getElem?_eq_none (by omega)]
      simp
  · rw [decide_eq_false hx, cond_false]
    congr 1
    symm
    rw [Bool.eq_false_iff, Ne, tru_iff]
    exact fun h => hx h.1
def holdsF (l : List GClause) (m : List Bool) : Bool := l.all fun c => c.1.any (tru m)
theorem holds_iff {l : List GClause} {m : List Bool} : holdsF l m = true ↔ ∀ c ∈ lits l, ∃ x ∈ c, tru m x = true := by
  unfold holdsF lits
  rw [List.all_eq_true]
  constructor
  · intro h c hc
    obtain ⟨x, hx, rfl⟩ := List.mem_map.1 hc
    exact List.any_eq_true.1 (h x hx)
  · exact fun h c hc => List.any_eq_true.2 (h c.1 (List.mem_map.2 ⟨c, hc, rfl⟩))
theorem holds1_eq {m : List Bool} {x : Int} : clause_Holds_1_1 x (min (m.length : Int) 2000) m = some (tru m x) := by
  generalize hn : min (m.length : Int) 2000 = n
  have hn0 : 0 ≤ n ∧ n ≤ 2000 ∧ n ≤ m.length := by omega
  have hneg : (bif ltZ x 0 then (z64 (-n)).bind fun v => bif leZ v x then (z64 (-x)).bind fun v => (z64 (v - 1)).bind fun v => (idx m v).bind fun v => some (!v) else some false else some false) = some (decide (x < 0) && tru m x) := by
    simp only [ltZ_eq, leZ_eq, bif_dec]
    by_cases h1 : x < 0
    · rw [if_pos h1, decide_eq_true h1, Bool.true_and, z64_in (by omega) (by omega), bind_in]
      by_cases h2 : -n ≤ x
      · have hm : x.natAbs - 1 < m.length := by omega
        rw [if_pos h2, z64_in (by omega) (by omega), bind_in, z64_p (show -x - 1 = ((x.natAbs - 1 : Nat) : Int) by omega) (by omega) (by omega), bind_in, idx_nat hm, bind_in]
        congr 1
        rw [Bool.eq_iff_iff, tru_iff, List.getElem?_eq_getElem hm, decide_eq_false (show ¬ 0 < x by omega)]
        have : Lit x := ⟨by omega, by omega, by omega⟩
        simp [this]
      · rw [if_neg h2]
        congr 1
        symm
        rw [Bool.eq_false_iff, Ne, tru_iff]
        rintro ⟨h3, h4⟩
        have := (List.getElem?_eq_some_iff.1 h4).1
        unfold Lit at h3
        omega
    · rw [if_neg h1, decide_eq_false h1, Bool.false_and]
  unfold clause_Holds_1_1
  rw [hneg]
  simp only [ltZ_eq, leZ_eq, bif_dec]
  by_cases h1 : 0 < x
  · rw [if_pos h1, decide_eq_false (show ¬ x < 0 by omega), Bool.false_and]
    by_cases h2 : x ≤ n
    · have hm : x.natAbs - 1 < m.length := by omega
      rw [if_pos h2, z64_p (show x - 1 = ((x.natAbs - 1 : Nat) : Int) by omega) (by omega) (by omega), bind_in, idx_nat hm, bind_in]
      have : Lit x := ⟨by omega, by omega, by omega⟩
      have ht : tru m x = m[x.natAbs - 1] := by
        rw [Bool.eq_iff_iff, tru_iff, List.getElem?_eq_getElem hm, decide_eq_true h1]
        simp [this]
      rw [ht]
      cases m[x.natAbs - 1] with
      | true => rfl
      | false => rw [cond_false]
    · rw [if_neg h2]
      have ht : tru m x = false := by
        rw [Bool.eq_false_iff, Ne, tru_iff]
        rintro ⟨h3, h4⟩
        have := (List.getElem?_eq_some_iff.1 h4).1
        unfold Lit at h3
        omega
      rw [ht]
  · rw [if_neg h1]
    by_cases h2 : x < 0
    · rw [decide_eq_true h2, Bool.true_and]
    · have ht : tru m x = false := by
        rw [Bool.eq_false_iff, Ne, tru_iff]
        rintro ⟨h3, h4⟩
        unfold Lit at h3
        omega
      rw [ht, Bool.and_false]
theorem holds2_eq {c : GClause} {m : List Bool} (hc : c.1.length ≤ 1000000) : clause_Holds_1 c (min (m.length : Int) 2000) m = some (!c.1.any (tru m)) := by
  have hb : ∀ k (hk : k < c.1.length), slices_IndexFunc_int_int_v4.b1 c.1 (min (m.length : Int) 2000) m (k : Int) = some (if tru m c.1[k] = true then .inr (k : Int) else .inl ((k + 1 : Nat) : Int)) := fun k hk => by
    simp only [slices_IndexFunc_int_int_v4.b1, lt_n hk, cond_true, idx_nat hk, bind_in, holds1_eq, z64_nx hk (by omega)]
    exact bif_pick
  have he : slices_IndexFunc_int_int_v4.b1 c.1 (min (m.length : Int) 2000) m (c.1.length : Int) = some (.inr (-1)) := by simp only [slices_IndexFunc_int_int_v4.b1, lt_e, cond_false]
  obtain ⟨i, h1, h2, _⟩ := loop_idx (body := fun x => slices_IndexFunc_int_int_v4.b1 c.1 (min (m.length : Int) 2000) m x) c.1 (tru m) hb he (by omega)
  unfold clause_Holds_1 slices_ContainsFunc_int_int_v3
  rw [show slices_IndexFunc_int_int_v4 c.1 (min (m.length : Int) 2000) m = some i from h1, bind_in, bind_in, h2]
theorem holds_eq {l : List GClause} {m : List Bool} (h : Ok (lits l)) : clause_Holds l m = some (holdsF l m) := by
  obtain ⟨h200, hc⟩ := h
  rw [List.length_map] at h200
  have hb : ∀ k (hk : k < l.length), slices_IndexFunc_api_Clause_api_Clause_v2.b1 l (min (m.length : Int) 2000) m (k : Int) = some (if (fun c : GClause => !c.1.any (tru m)) l[k] = true then .inr (k : Int) else .inl ((k + 1 : Nat) : Int)) := fun k hk => by
    simp only [slices_IndexFunc_api_Clause_api_Clause_v2.b1, lt_n hk, cond_true, idx_nat hk, bind_in, holds2_eq (c := l[k]) (hc _ (List.mem_map.2 ⟨_, List.getElem_mem hk, rfl⟩)), z64_nx hk (by omega)]
    exact bif_pick
  have he : slices_IndexFunc_api_Clause_api_Clause_v2.b1 l (min (m.length : Int) 2000) m (l.length : Int) = some (.inr (-1)) := by simp only [slices_IndexFunc_api_Clause_api_Clause_v2.b1, lt_e, cond_false]
  obtain ⟨i, h1, h2, _⟩ := loop_idx (body := fun x => slices_IndexFunc_api_Clause_api_Clause_v2.b1 l (min (m.length : Int) 2000) m x) l (fun c : GClause => !c.1.any (tru m)) hb he (by omega)
  unfold clause_Holds slices_ContainsFunc_api_Clause_api_Clause_v2
  rw [show slices_IndexFunc_api_Clause_api_Clause_v2 l (min (m.length : Int) 2000) m = some i from h1, bind_in, bind_in, h2]
  unfold holdsF
  rw [List.any_eq_not_all_not, Bool.not_not]
  simp
theorem rholds_eq {l : List GClause} {m : List Bool} (h : Ok (lits l)) : ladingref26_Holds l m = some (holdsF l m) := by
  obtain ⟨h200, hc⟩ := h
  rw [List.length_map] at h200
  unfold ladingref26_Holds
  rw [loop_any (body := fun x => ladingref26_Holds.b2 l m x) l (fun c : GClause => !c.1.any (tru m)) false true (fun k hk => ?_) ?_ (by omega)]
  · unfold holdsF
    rw [List.any_eq_not_all_not]
    simp only [Bool.not_not]
    cases l.all (fun c => c.1.any (tru m)) <;> rfl
  · simp only [ladingref26_Holds.b2, lt_e, cond_false]
  · have hck := hc _ (List.mem_map.2 ⟨_, List.getElem_mem hk, rfl⟩)
    simp only [ladingref26_Holds.b2, lt_n hk, cond_true]
    have key : loopF (fun x => ladingref26_Holds.b1 l m (k : Int) x.1 x.2) (false, 0) = some (l[k].1.any (tru m)) := by
      refine loopF_at (body := fun x => ladingref26_Holds.b1 l m (k : Int) x.1 x.2) (fun j => ((l[k].1.take j).any (tru m), (j : Int))) l[k].1.length rfl (fun j hj => ?_) ?_ (by omega)
      · simp only [ladingref26_Holds.b1, idx_nat hk, bind_in, lt_n hj, cond_true, idx_nat hj, true_eq, z64_nx hj (by omega)]
        rw [take_snoc _ j hj, List.any_append]
        cases (l[k].1.take j).any (tru m) with
        | true => rfl
        | false => simp
      · simp only [ladingref26_Holds.b1, idx_nat hk, bind_in, lt_e, cond_false, List.take_length]
    rw [key, bind_in]
    simp only [ladingref26_Holds.j1, z64_nx hk (by omega), bind_in]
    exact bif_pick
/-! ### bounds -/
theorem loop_few {α : Type} {body : Int → Option (Int ⊕ Bool)} (l : List α) (len : α → Nat) (n : Nat) (hn : n ≤ 1000000)
    (h1 : ∀ k (hk : k < l.length), k ≤ n → body (k : Int) = some (if 8 < len l[k] then .inr false else .inl ((k + 1 : Nat) : Int)))
    (h2 : ∀ k : Nat, ¬ (k < l.length ∧ k ≤ n) → body (k : Int) = some (.inr (decide (l.length ≤ n)))) :
    ∃ b, loopF body 0 = some b ∧ (b = true → l.length ≤ n ∧ ∀ x ∈ l, len x ≤ 8) := by
  refine loopF_inv (fun k x => x = (k : Int) ∧ k ≤ l.length ∧ ∀ j (hj : j < l.length), j < k → len l[j] ≤ 8) (n + 1) ⟨rfl, Nat.zero_le _, fun j _ hj => by omega⟩ (fun k hk x hx => ?_) (fun x hx => ?_) (by omega)
  · obtain ⟨rfl, h3, h4⟩ := hx
    by_cases hkl : k < l.length
    · rw [h1 k hkl (by omega)]
      by_cases h8 : 8 < len l[k]
      · rw [if_pos h8]
        exact .inr ⟨_, rfl, fun h => by cases h⟩
      · rw [if_neg h8]
        refine .inl ⟨_, rfl, rfl, hkl, fun j hj hjk => ?_⟩
        rcases Nat.lt_or_ge j k with h | h
        · exact h4 j hj h
        · have : j = k := by omega
          subst this; omega
    · rw [h2 k (by omega)]
      refine .inr ⟨_, rfl, fun h => ⟨of_decide_eq_true h, fun x hx => ?_⟩⟩
      obtain ⟨j, hj, rfl⟩ := List.mem_iff_getElem.1 hx
      exact h4 j hj (by omega)
  · obtain ⟨rfl, h3, h4⟩ := hx
    refine ⟨_, h2 (n + 1) (by omega), fun h => absurd (of_decide_eq_true h) (by omega)⟩
theorem light_eq {l : List GClause} {n : Nat} (hn : n ≤ 1000000) : ∃ b, ladinglaw26_light l (n : Int) = some b ∧ (b = true → l.length ≤ n ∧ ∀ c ∈ l, c.1.length ≤ 8) := by
  unfold ladinglaw26_light
  refine loop_few (body := fun x => ladinglaw26_light.b1 l n x) l (fun c => c.1.length) n hn (fun k hk hkn => ?_) (fun k hk => ?_)
  · simp only [ladinglaw26_light.b1, lt_n hk, cond_true, leZ_eq, bind_in]
    rw [decide_eq_true (by omega)]
    simp only [ladinglaw26_light.j1, cond_true, idx_nat hk, bind_in, ltZ_eq, z64_succ (show k + 1 ≤ 9223372036854775807 by omega), bif_dec]
    by_cases h : 8 < l[k].1.length
    · rw [if_pos (by omega), if_pos h]
    · rw [if_neg (by omega), if_neg h]
  · simp only [ladinglaw26_light.b1, ltZ_eq, leZ_eq, bif_dec]
    have hle : leZ (l.length : Int) (n : Int) = decide (l.length ≤ n) := by rw [leZ_eq, decide_eq_decide]; omega
    by_cases h : (k : Int) < (l.length : Int)
    · rw [if_pos h, decide_eq_false (by omega), bind_in]
      simp only [ladinglaw26_light.j1, cond_false, hle]
    · rw [if_neg h, bind_in]
      simp only [ladinglaw26_light.j1, cond_false, hle]
theorem few_eq {l : List (List Int)} {n : Nat} (hn : n ≤ 1000000) : ∃ b, ladinglaw26_few l (n : Int) = some b ∧ (b = true → l.length ≤ n ∧ ∀ c ∈ l, c.length ≤ 8) := by
  unfold ladinglaw26_few
  refine loop_few (body := fun x => ladinglaw26_few.b1 l n x) l (fun c => c.length) n hn (fun k hk hkn => ?_) (fun k hk => ?_)
  · simp only [ladinglaw26_few.b1, lt_n hk, cond_true, leZ_eq, bind_in]
    rw [decide_eq_true (by omega)]
    simp only [ladinglaw26_few.j1, cond_true, idx_nat hk, bind_in, ltZ_eq, z64_succ (show k + 1 ≤ 9223372036854775807 by omega), bif_dec]
    by_cases h : 8 < l[k].length
    · rw [if_pos (by omega), if_pos h]
    · rw [if_neg (by omega), if_neg h]
  · simp only [ladinglaw26_few.b1, ltZ_eq, leZ_eq, bif_dec]
    have hle : leZ (l.length : Int) (n : Int) = decide (l.length ≤ n) := by rw [leZ_eq, decide_eq_decide]; omega
    by_cases h : (k : Int) < (l.length : Int)
    · rw [if_pos h, decide_eq_false (by omega), bind_in]
      simp only [ladinglaw26_few.j1, cond_false, hle]
    · rw [if_neg h, bind_in]
      simp only [ladinglaw26_few.j1, cond_false, hle]
/-! ### laws of what follows -/
theorem Der.sub {C C' : List (List Int)} {s s' : List Int} {x : Int} (h : Der C s x) (hs : ∀ x ∈ s, Lit x → Der C' s' x) (hC : ∀ c ∈ C, ∃ c' ∈ C', ∀ x, x ∈ c ↔ x ∈ c') : Der C' s' x := by
  refine h.least (Der C' s') hs fun c hc x hx hl ho => ?_
  obtain ⟨c', h1, h2⟩ := hC c hc
  exact .unit h1 ((h2 x).1 hx) hl fun y hy hyl hne => ho y ((h2 y).2 hy) hyl hne
theorem Fails.sub {C C' : List (List Int)} {s s' : List Int} (h : Fails C s) (hs : ∀ x ∈ s, Lit x → Der C' s' x) (hC : ∀ c ∈ C, ∃ c' ∈ C', ∀ x, x ∈ c ↔ x ∈ c') : Fails C' s' := by
  rcases h with ⟨c, hc, ho⟩ | ⟨x, h1, h2⟩
  · obtain ⟨c', h1, h2⟩ := hC c hc
    exact .inl ⟨c', h1, fun y hy hl => (ho y ((h2 y).2 hy) hl).sub hs hC⟩
  · exact .inr ⟨x, h1.sub hs hC, h2.sub hs hC⟩
theorem Fails.mono {C C' : List (List Int)} {s s' : List Int} (h : Fails C s) (hs : ∀ x ∈ s, x ∈ s') (hC : ∀ c ∈ C, c ∈ C') : Fails C' s' :=
  h.sub (fun x hx hl => .start (hs x hx) hl) fun c hc => ⟨c, hC c hc, fun _ => Iff.rfl⟩
theorem Der.mono {C C' : List (List Int)} {s s' : List Int} {x : Int} (h : Der C s x) (hs : ∀ x ∈ s, x ∈ s') (hC : ∀ c ∈ C, c ∈ C') : Der C' s' x :=
  h.sub (fun x hx hl => .start (hs x hx) hl) fun c hc => ⟨c, hC c hc, fun _ => Iff.rfl⟩
/-- what follows is true in each model -/
theorem Der.tru {C : List (List Int)} {s : List Int} {m : List Bool} {x : Int} (h : Der C s x) (hC : ∀ c ∈ C, ∃ x ∈ c, tru m x = true) (hs : ∀ x ∈ s, Lit x → tru m x = true) : tru m x = true := by
  refine h.least (fun x => Go.Proofs.Ytbkdiclfhoelbaa.tru m x = true) hs fun c hc x hx hl ho => ?_
  obtain ⟨z, hz, ht⟩ := hC c hc
  by_cases e : z = x
  · rw [← e]; exact ht
  · exact (tru_neg ht (ho z hz (tru_iff.1 ht).1 e)).elim
theorem Fails.no {C : List (List Int)} {s : List Int} {m : List Bool} (h : Fails C s) (hC : ∀ c ∈ C, ∃ x ∈ c, tru m x = true) (hs : ∀ x ∈ s, Lit x → tru m x = true) : False := by
  rcases h with ⟨c, hc, ho⟩ | ⟨x, h1, h2⟩
  · obtain ⟨z, hz, ht⟩ := hC c hc
    exact tru_neg ht ((ho z hz (tru_iff.1 ht).1).tru hC hs)
  · exact tru_neg (h1.tru hC hs) (h2.tru hC hs)
/-- ascending lists with the same numbers -/
theorem sorted_ext : ∀ {l m : List Int}, l.Pairwise (· < ·) → m.Pairwise (· < ·) → (∀ x, x ∈ l ↔ x ∈ m) → l = m
  | [], [], _, _, _ => rfl
  | [], y :: m, _, _, h => by have := (h y).2 (by simp); cases this
  | x :: l, [], _, _, h => by have := (h x).1 (by simp); cases this
  | x :: l, y :: m, h1, h2, h => by
    obtain ⟨h3, h4⟩ := List.pairwise_cons.1 h1
    obtain ⟨h5, h6⟩ := List.pairwise_cons.1 h2
    have e : x = y := by
      rcases List.mem_cons.1 ((h x).1 (by simp)) with e | e
      · exact e
      · rcases List.mem_cons.1 ((h y).2 (by simp)) with e2 | e2
        · exact e2.symm
        · have := h5 x e
          have := h3 y e2
          omega
    subst e
    rw [sorted_ext h4 h6 fun z => ⟨fun hz => ?_, fun hz => ?_⟩]
    · exact (List.mem_cons.1 ((h z).1 (List.mem_cons_of_mem _ hz))).resolve_left fun e => by have := h3 z hz; omega
    · exact (List.mem_cons.1 ((h z).2 (List.mem_cons_of_mem _ hz))).resolve_left fun e => by have := h5 z hz; omega
end Go.Proofs.Ytbkdiclfhoelbaa
