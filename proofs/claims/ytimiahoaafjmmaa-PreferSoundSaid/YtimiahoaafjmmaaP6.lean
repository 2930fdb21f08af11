/-
  Layer 28 (prefer): all models, by their numbers; PreferBest.
-/
import Derived.Test.YtimiahoaafjmmaaP5
namespace Go.Proofs.Ytimiahoaafjmmaa
open Go.Lad
set_option linter.unusedVariables false
set_option linter.unusedSimpArgs false
set_option linter.unusedSectionVars false
/-! ### the law's satisfies -/
def satF (l : List GClause) (m : List Bool) : Bool := l.all fun c => c.1.any (hol m)
theorem satisfies_eq {l : List GClause} {m : List Bool} (h : Sized l) (hm : m.length ≤ 1000000) : ladinglaw28_satisfies l m = some (satF l m) := by
  unfold ladinglaw28_satisfies
  have h1 : ∀ k (hk : k < l.length), loopF (fun x => ladinglaw28_satisfies.b1 l m (k : Int) x.1 x.2) (false, 0) = some (l[k].1.any (hol m)) := fun k hk => by
    have hc := h.lits _ (List.getElem_mem hk)
    obtain ⟨r, g1, g2⟩ := loopF_inv (body := fun x => ladinglaw28_satisfies.b1 l m (k : Int) x.1 x.2) (fun j x => x = ((l[k].1.take j).any (hol m), (j : Int))) (Q := fun r => r = l[k].1.any (hol m)) l[k].1.length (x := (false, 0)) (by simp)
      (fun j hj x hx => by
        subst hx
        refine .inl ⟨((l[k].1.take (j + 1)).any (hol m), ((j + 1 : Nat) : Int)), ?_, rfl⟩
        simp only [ladinglaw28_satisfies.b1, idx_nat hk, bind_in, lt_n hj, cond_true]
        rw [take_snoc _ j hj, List.any_append]
        cases (l[k].1.take j).any (hol m) with
        | true => rw [cond_true, z64_nx hj (by omega), bind_in, Bool.true_or]
        | false => rw [cond_false, idx_nat hj, bind_in, rhold_eq hm, bind_in, z64_nx hj (by omega), bind_in, Bool.false_or]; simp)
      (fun x hx => by
        subst hx
        refine ⟨_, ?_, rfl⟩
        simp only [ladinglaw28_satisfies.b1, idx_nat hk, bind_in, lt_e, cond_false, List.take_length])
      (by omega)
    rw [g1, g2]
  refine (loop_scan l (fun _ c => if (!c.1.any (hol m)) = true then some false else none) true (fun k hk => ?_) ?_ (by have := h.len; omega)).trans ?_
  · simp only [ladinglaw28_satisfies.b2, lt_n hk, cond_true, h1 k hk, bind_in, ladinglaw28_satisfies.j1, z64_nx hk (by have := h.len; omega)]
    cases l[k].1.any (hol m) <;> rfl
  · simp only [ladinglaw28_satisfies.b2, lt_e, cond_false]
  · rw [scan_any]
    unfold satF
    rw [List.any_eq_not_all_not]
    simp only [Bool.not_not]
    cases l.all fun c => c.1.any (hol m) <;> rfl
theorem satF_iff {l : List GClause} {n : Nat} {m : List Bool} (hr : rightF l (n : Int) = true) : satF l m = true ↔ ∀ c ∈ lits l, ∃ x ∈ c, tru m x = true := by
  obtain ⟨hn, hc⟩ := rightF_iff.1 hr
  have hlit : ∀ c ∈ l, ∀ x ∈ c.1, Lit x := fun c h x hx => by have := hc c h x hx; exact ⟨by omega, by omega, by omega⟩
  unfold satF
  rw [List.all_eq_true]
  refine ⟨fun h c hm => ?_, fun h c hm => ?_⟩
  · obtain ⟨d, hd, rfl⟩ := List.mem_map.1 hm
    obtain ⟨x, hx, ht⟩ := List.any_eq_true.1 (h d hd)
    exact ⟨x, hx, by rw [← hol_tru (hlit d hd x hx)]; exact ht⟩
  · obtain ⟨x, hx, ht⟩ := h _ (List.mem_map.2 ⟨c, hm, rfl⟩)
    exact List.any_eq_true.2 ⟨x, hx, by rw [hol_tru (hlit c hm x hx)]; exact ht⟩
/-! ### models by their numbers -/
def bitsB (k n : Nat) : List Bool := (List.range n).map fun i => decide (k / 2 ^ i % 2 = 1)
theorem bitsB_len (k n : Nat) : (bitsB k n).length = n := by unfold bitsB; simp
theorem bitsB_get {k n i : Nat} (h : i < (bitsB k n).length) : (bitsB k n)[i] = decide (k / 2 ^ i % 2 = 1) := by simp [bitsB]
def numOf : List Bool → Nat
  | [] => 0
  | b :: m => (if b = true then 1 else 0) + 2 * numOf m
theorem numOf_lt : ∀ m : List Bool, numOf m < 2 ^ m.length
  | [] => by simp [numOf]
  | b :: m => by
    have := numOf_lt m
    unfold numOf
    rw [List.length_cons, Nat.pow_succ]
    split <;> omega
theorem bits_num : ∀ m : List Bool, bitsB (numOf m) m.length = m
  | [] => rfl
  | b :: m => by
    have ih := bits_num m
    apply List.ext_getElem (by rw [bitsB_len])
    intro i h1 h2
    rw [bitsB_get]
    cases i with
    | zero =>
      rw [List.getElem_cons_zero, Nat.pow_zero, Nat.div_one]
      unfold numOf
      cases b with
      | true => rw [if_pos rfl]; exact decide_eq_true (by omega)
      | false => rw [if_neg (by simp)]; exact decide_eq_false (by omega)
    | succ i =>
      rw [List.getElem_cons_succ]
      have hi : i < m.length := by simpa using h2
      have hg : (bitsB (numOf m) m.length)[i]'(by rw [bitsB_len]; exact hi) = m[i] := by
        have := congrArg (fun z => z[i]?) ih
        rw [List.getElem?_eq_getElem (by rw [bitsB_len]; exact hi), List.getElem?_eq_getElem hi] at this
        exact Option.some.inj this
      rw [← hg, bitsB_get, Nat.pow_succ', ← Nat.div_div_eq_div_mul]
      have : numOf (b :: m) / 2 = numOf m := by
        rw [show numOf (b :: m) = (if b = true then 1 else 0) + 2 * numOf m from rfl]
        split <;> omega
      rw [this]
def modelsF (l : List GClause) (n k : Nat) : List (List Bool) := ((List.range k).map fun j => bitsB j n).filter (satF l)
theorem modelsF_succ (l : List GClause) (n k : Nat) : modelsF l n (k + 1) = if satF l (bitsB k n) = true then modelsF l n k ++ [bitsB k n] else modelsF l n k := by
  unfold modelsF
  rw [List.range_succ, List.map_append, List.filter_append, List.map_singleton, List.filter_cons, List.filter_nil]
  cases satF l (bitsB k n) <;> simp
theorem modelsF_len (l : List GClause) (n k : Nat) : (modelsF l n k).length ≤ k := by
  unfold modelsF
  have := List.length_filter_le (satF l) ((List.range k).map fun j => bitsB j n)
  simpa using this
theorem mem_models {l : List GClause} {n : Nat} {m : List Bool} : m ∈ modelsF l n (2 ^ n) ↔ m.length = n ∧ satF l m = true := by
  unfold modelsF
  rw [List.mem_filter, List.mem_map]
  refine ⟨fun ⟨⟨j, hj, e⟩, h⟩ => ⟨by rw [← e, bitsB_len], h⟩, fun ⟨h1, h2⟩ => ⟨⟨numOf m, List.mem_range.2 (by rw [← h1]; exact numOf_lt m), by rw [← h1]; exact bits_num m⟩, h2⟩⟩
theorem rem2 {k : Nat} (h : k ≤ 1000000) : remZ .i64 (k : Int) 2 = some ((k % 2 : Nat) : Int) := by
  unfold remZ inZ
  rw [eqZ_eq, leZ_eq, leZ_eq]
  have e : ((k : Int).tmod 2) = ((k % 2 : Nat) : Int) := rfl
  rw [e, decide_eq_false (by omega), decide_eq_true (by show (-9223372036854775808 : Int) ≤ _; omega), decide_eq_true (by show _ ≤ (9223372036854775807 : Int); omega)]
  rfl
theorem quo2 {k : Nat} (h : k ≤ 1000000) : quoZ .i64 (k : Int) 2 = some ((k / 2 : Nat) : Int) := by
  unfold quoZ inZ
  rw [eqZ_eq, leZ_eq, leZ_eq]
  have e : ((k : Int).tdiv 2) = ((k / 2 : Nat) : Int) := rfl
  rw [e, decide_eq_false (by omega), decide_eq_true (by show (-9223372036854775808 : Int) ≤ _; omega), decide_eq_true (by show _ ≤ (9223372036854775807 : Int); omega)]
  rfl
theorem models_eq {l : List GClause} {n : Nat} (h : Sized l) (hn : n ≤ 8) : ladinglaw28_models l (n : Int) = some (modelsF l n (2 ^ n)) := by
  have hp : ∀ k, k ≤ 8 → 2 ^ k ≤ 256 := fun k hk => Nat.le_trans (Nat.pow_le_pow_right (by omega) hk) (by decide)
  unfold ladinglaw28_models
  have h1 : loopF (fun x => ladinglaw28_models.b1 (n : Int) x.1 x.2) (1, 0) = some ((2 ^ n : Nat) : Int) := by
    refine loopF_at (body := fun x => ladinglaw28_models.b1 (n : Int) x.1 x.2) (fun k => (((2 ^ k : Nat) : Int), (k : Int))) n rfl (fun k hk => ?_) ?_ (by omega)
    · have := hp k (by omega)
      have e : (2 : Int) * ((2 ^ k : Nat) : Int) = ((2 ^ (k + 1) : Nat) : Int) := by
        rw [Nat.pow_succ]
        generalize 2 ^ k = p
        omega
      have h9 := hp (k + 1) (by omega)
      have ez : z64 ((2 ^ (k + 1) : Nat) : Int) = some ((2 ^ (k + 1) : Nat) : Int) := by
        generalize 2 ^ (k + 1) = p at h9
        exact z64_in (by omega) (by omega)
      simp only [ladinglaw28_models.b1, lt_n hk, cond_true, bind_in, ltZ_eq]
      rw [decide_eq_true (by omega)]
      unfold ladinglaw28_models.j1
      rw [cond_true, e, ez, bind_in, z64_succ (by omega), bind_in]
    · simp only [ladinglaw28_models.b1, lt_e, cond_false, bind_in, ladinglaw28_models.j1]
  have h8 := hp n hn
  rw [h1, bind_in]
  unfold ladinglaw28_models.j3
  have h2 : ∀ k : Nat, k < 2 ^ n → loopF (fun x => ladinglaw28_models.b2 x.1 x.2.1 x.2.2) ((k : Int), 0, repT (n : Int) false) = some (bitsB k n) := fun k hk => by
    obtain ⟨r, g1, g2⟩ := loopF_inv (body := fun x => ladinglaw28_models.b2 x.1 x.2.1 x.2.2) (fun j x => x.1 = ((k / 2 ^ j : Nat) : Int) ∧ x.2.1 = (j : Int) ∧ x.2.2.length = n ∧ ∀ i (hi : i < x.2.2.length), i < j → x.2.2[i] = decide (k / 2 ^ i % 2 = 1)) (Q := fun r => r = bitsB k n) n (x := ((k : Int), 0, repT (n : Int) false))
      ⟨by simp, rfl, by rw [repT_len]; simp, fun i _ h => by omega⟩
      (fun j hj x hx => by
        obtain ⟨a, b, o⟩ := x
        obtain ⟨e1, e2, e3, e4⟩ := hx
        simp only at e1 e2 e3 e4
        subst e1 e2
        have hjo : j < o.length := by omega
        have hdiv : k / 2 ^ j ≤ k := Nat.div_le_self _ _
        refine .inl ⟨((((k / 2 ^ (j + 1) : Nat)) : Int), ((j + 1 : Nat) : Int), o.set (j : Int).toNat (eqZ ((k / 2 ^ j % 2 : Nat) : Int) 1)), ?_, rfl, rfl, by rw [List.length_set]; exact e3, fun i hi hij => ?_⟩
        · simp only [ladinglaw28_models.b2, lt_n hjo, cond_true, rem2 (show k / 2 ^ j ≤ 1000000 by omega), quo2 (show k / 2 ^ j ≤ 1000000 by omega), bind_in, idx_nat hjo, z64_nx hjo (by omega)]
          rw [Nat.div_div_eq_div_mul, ← Nat.pow_succ]
        · simp only at hi ⊢
          rw [List.getElem_set]
          split
          · rename_i e
            have : j = i := by simpa using e
            subst this
            rw [eqZ_eq, decide_eq_decide]; omega
          · rename_i e
            rw [List.length_set] at hi
            have : j ≠ i := by simpa using e
            exact e4 i hi (by omega))
      (fun x hx => by
        obtain ⟨a, b, o⟩ := x
        obtain ⟨e1, e2, e3, e4⟩ := hx
        simp only at e1 e2 e3 e4
        subst e1 e2
        refine ⟨o, ?_, List.ext_getElem (by rw [bitsB_len]; exact e3) fun i hi hi2 => by rw [e4 i hi (by omega), bitsB_get]⟩
        have : ltZ (n : Int) (o.length : Int) = false := by rw [e3]; exact lt_e
        simp only [ladinglaw28_models.b2, this, cond_false])
      (by omega)
    rw [g1, g2]
  refine loopF_at (body := fun x => ladinglaw28_models.b3 l (n : Int) ((2 ^ n : Nat) : Int) x.1 x.2) (fun k => ((k : Int), modelsF l n k)) (2 ^ n) rfl (fun k hk => ?_) ?_ (by omega)
  · have hml := modelsF_len l n k
    simp only [ladinglaw28_models.b3, lt_n hk, cond_true]
    rw [show max (n : Int) 0 = (n : Int) by omega, msNeed_in (by omega) (by omega), bind_in, h2 k hk, bind_in]
    unfold ladinglaw28_models.j2
    rw [satisfies_eq h (by rw [bitsB_len]; omega), bind_in, modelsF_succ]
    cases satF l (bitsB k n) with
    | true => rw [cond_true, if_pos rfl, app_in (by simp only [List.length_singleton]; omega), bind_in, z64_nx hk (by omega), bind_in]
    | false => rw [cond_false, if_neg (by simp), z64_nx hk (by omega), bind_in]
  · simp only [ladinglaw28_models.b3, lt_e, cond_false]
theorem models_sat {l : List GClause} {n : Nat} {m : List Bool} (hr : rightF l (n : Int) = true) : m ∈ modelsF l n (2 ^ n) ↔ Sat (lits l) n [] m := by
  rw [mem_models, satF_iff hr]
  exact ⟨fun h => ⟨h.1, h.2, fun x hx => by cases hx⟩, fun h => ⟨h.1, h.2.1⟩⟩
/-! ### PreferBest -/
theorem bestwishes_eq {n : Int} {w : List Int} {s : Bool} (h : 0 ≤ n ∧ n ≤ 2000) (hw : w.length ≤ 1000000) : loopF (fun x => ladinglaw28_PreferBest.b1 n w s x) 0 = some (if badA n w = true then .inr s else .inl ()) := by
  refine (loop_scan w (fun _ x => if badN n x = true then some (Sum.inr s : Unit ⊕ Bool) else none) (.inl ()) (fun k hk => ?_) ?_ (by omega)).trans ?_
  · simp only [ladinglaw28_PreferBest.b1, lt_n hk, cond_true, idx_nat hk, bind_in, bad_test h, ladinglaw28_PreferBest.j1, z64_nx hk (by omega)]
    cases badN n w[k] <;> rfl
  · simp only [ladinglaw28_PreferBest.b1, lt_e, cond_false]
  · rw [scan_any]
    unfold badA
    split <;> rfl
/-- no model is better: the law's loops -/
theorem better_loop {w : List Int} {r : Out} {M : List (List Bool)} {m : List Bool} (hw : w.length ≤ 1000000) (hM : M.length ≤ 1000000) (hlen : ∀ a ∈ M, a.length ≤ 1000000) (hT : r.2.1 = w.map (hol m)) (hb : ∀ a ∈ M, cmpF w a m ≤ 0) :
    loopF (fun x => ladinglaw28_PreferBest.b4 w true r M x) 0 = some true := by
  have hTl : r.2.1.length = w.length := by rw [hT, List.length_map]
  refine loopF_at (body := fun x => ladinglaw28_PreferBest.b4 w true r M x) (fun k => (k : Int)) M.length rfl (fun k hk => ?_) ?_ (by omega)
  · have hlk := hlen _ (List.getElem_mem hk)
    have hbk := hb _ (List.getElem_mem hk)
    simp only [ladinglaw28_PreferBest.b4, lt_n hk, cond_true]
    obtain ⟨q, g1, g2⟩ := loopF_inv (body := fun x => ladinglaw28_PreferBest.b3 w r M (k : Int) x) (fun j x => x = (j : Int) ∧ ∀ i (hi : i < w.length), i < j → hol M[k] w[i] = hol m w[i]) (Q := fun q => q = (.inl ((k + 1 : Nat) : Int) : Int ⊕ Bool)) w.length (x := 0) ⟨rfl, fun i _ h => by omega⟩
      (fun j hj x hx => by
        obtain ⟨rfl, hx⟩ := hx
        have hjT : j < r.2.1.length := by omega
        have hTj : r.2.1[j] = hol m w[j] := by
          have := congrArg (fun z => z[j]?) hT
          rw [List.getElem?_eq_getElem hjT, List.getElem?_map, List.getElem?_eq_getElem hj] at this
          exact Option.some.inj this
        simp only [ladinglaw28_PreferBest.b3, lt_n hj, cond_true, idx_nat hk, bind_in, idx_nat hj, rhold_eq hlk, idx_nat hjT, hTj, ladinglaw28_PreferBest.j2, z64_nx hk (by omega), z64_nx hj (by omega)]
        cases h1 : hol M[k] w[j] with
        | true =>
          cases h2 : hol m w[j] with
          | true =>
            refine .inl ⟨((j + 1 : Nat) : Int), rfl, rfl, fun i hi hij => ?_⟩
            rcases Nat.lt_or_ge i j with h | h
            · exact hx i hi h
            · have : i = j := by omega
              subst this; rw [h1, h2]
          | false =>
            exfalso
            -- the first difference is in favour of the other model
            have key : ∀ (w : List Int) (j : Nat) (hj : j < w.length), hol M[k] w[j] = true → hol m w[j] = false → (∀ i (hi : i < w.length), i < j → hol M[k] w[i] = hol m w[i]) → cmpF w M[k] m = 1 := by
              intro w
              induction w with
              | nil => intro j hj; simp at hj
              | cons y w ih =>
                intro j hj a1 a2 a3
                unfold cmpF
                cases j with
                | zero => rw [if_pos ⟨by simpa using a1, by simpa using a2⟩]
                | succ j =>
                  have e := a3 0 (by simp) (by omega)
                  simp only [List.getElem_cons_zero] at e
                  rw [if_neg (by rw [e]; intro h; rw [h.1] at h; cases h.2), if_neg (by rw [e]; intro h; rw [h.1] at h; cases h.2)]
                  exact ih j (by simpa using hj) (by simpa using a1) (by simpa using a2) fun i hi hij => by
                    have := a3 (i + 1) (by simp only [List.length_cons]; omega) (by omega)
                    simp only [List.getElem_cons_succ] at this
                    exact this
            have := key w j hj h1 h2 hx
            omega
        | false =>
          cases h2 : hol m w[j] with
          | true => exact .inr ⟨_, rfl, rfl⟩
          | false =>
            refine .inl ⟨((j + 1 : Nat) : Int), rfl, rfl, fun i hi hij => ?_⟩
            rcases Nat.lt_or_ge i j with h | h
            · exact hx i hi h
            · have : i = j := by omega
              subst this; rw [h1, h2])
      (fun x hx => by
        obtain ⟨rfl, hx⟩ := hx
        refine ⟨_, ?_, rfl⟩
        simp only [ladinglaw28_PreferBest.b3, lt_e, cond_false, z64_nx hk (by omega)]; rfl)
      (by omega)
    rw [g1, g2]
  · simp only [ladinglaw28_PreferBest.b4, lt_e, cond_false]
theorem best_true (l : List GClause) (n : Int) (w : List Int) : ladinglaw28_PreferBest l n w = some true := by
  unfold ladinglaw28_PreferBest
  rw [small_true, bind_in]
  obtain ⟨f, h1, h2⟩ := few_eq (l := l) (n := n) (s := w)
  rw [h1, bind_in]
  cases f with
  | false => rw [Bool.not_false, cond_true, bind_in]; simp only [ladinglaw28_PreferBest.j6, cond_true]
  | true =>
    obtain ⟨g1, g2, g3, g4⟩ := h2 rfl
    have hs : Sized l := sized_of (by omega) (by omega) g1 g2
    rw [Bool.not_true, cond_false, bif_ltZ]
    by_cases h8 : 8 < n
    · rw [if_pos h8, bind_in]; simp only [ladinglaw28_PreferBest.j6, cond_true]
    rw [if_neg h8, right_eq (ok_of (by omega) hs.lits), bind_in, bind_in]
    cases hr : rightF l n with
    | false => rw [Bool.not_false]; simp only [ladinglaw28_PreferBest.j6, cond_true]
    | true =>
      have hn := (rightF_iff.1 hr).1
      obtain ⟨N, rfl⟩ : ∃ N : Nat, n = N := ⟨n.toNat, by omega⟩
      have hN : N ≤ 8 := by omega
      rw [Bool.not_true]
      unfold ladinglaw28_PreferBest.j6
      rw [cond_false, bestwishes_eq ⟨hn.1, hn.2.1⟩ (by omega)]
      cases hb : badA (N : Int) w with
      | true => rw [if_pos rfl, bind_in]
      | false =>
        rw [if_neg (by simp), bind_in]
        show ladinglaw28_PreferBest.j5 l (N : Int) w true = some true
        unfold ladinglaw28_PreferBest.j5
        have hrW : rightW l (N : Int) w = true := rightW_iff.2 ⟨hr, by omega, hb⟩
        have hsm := small_of (by omega) hb
        rw [best_eq hs (by omega), bind_in, models_eq hs hN, bind_in, bif_eqZ]
        have hsz := best_size (n := (N : Int)) (w := w) hs (by omega)
        rcases best_spec hs (by omega) hrW with ⟨e1, e2⟩ | ⟨m, T, P, e1, e2, e3, e4, e5⟩
        · have hM : modelsF l N (2 ^ N) = [] := List.eq_nil_iff_forall_not_mem.2 fun m hm => e1 m ((models_sat hr).1 hm)
          rw [hM, e2, if_pos (show ((List.length ([] : List (List Bool)) : Nat) : Int) = 0 from rfl)]; rfl
        · have hT := took_map e2 e3 hsm e4
          have hmem := (models_sat (l := l) (n := N) hr).2 (sat_nil e4)
          have hpos : 0 < (modelsF l N (2 ^ N)).length := List.length_pos_of_mem hmem
          rw [if_neg (by omega), e1]
          rw [e1] at hsz
          have hml0 : m.length ≤ 2000 := hsz.1
          simp only [eqZ_eq]
          have hsatm : satF l m = true := (mem_models.1 hmem).2
          have hck := checkF_yes hrW (best_ok (by omega) hrW e2 e3 e4)
          rw [decide_true, Bool.not_true, cond_false, decide_eq_true (by rw [e4.1]), Bool.not_true, cond_false, decide_eq_true (by rw [e3]), Bool.not_true, cond_false, satisfies_eq hs (by omega), bind_in, hsatm, Bool.not_true, cond_false,
            check_eq hs (by omega) (by omega) (fun L hL c hc => by have := (hsz.2.2.2 L hL).2 c hc; omega), bind_in, hck, decide_eq_true rfl, Bool.not_true, bind_in]
          unfold ladinglaw28_PreferBest.j4
          have hl2 : loopF (fun x => ladinglaw28_PreferBest.b2 w (m, T, P, 0) x) 0 = some (.inl () : Unit ⊕ Bool) := by
            refine loopF_at (body := fun x => ladinglaw28_PreferBest.b2 w (m, T, P, 0) x) (fun k => (k : Int)) w.length rfl (fun k hk => ?_) ?_ (by omega)
            · have hkT : k < T.length := by omega
              have hTk : T[k] = hol m w[k] := (Took.hol e2.len hsm e4 k hkT).symm
              simp only [ladinglaw28_PreferBest.b2, lt_n hk, cond_true, idx_nat hkT, bind_in, idx_nat hk, rhold_eq (show m.length ≤ 1000000 by omega), hTk, z64_nx hk (by omega)]
              cases hol m w[k] <;> rfl
            · simp only [ladinglaw28_PreferBest.b2, lt_e, cond_false]
          rw [cond_false, hl2, bind_in]
          show ladinglaw28_PreferBest.j3 w true (m, T, P, 0) (modelsF l N (2 ^ N)) = some true
          unfold ladinglaw28_PreferBest.j3
          have hpw : 2 ^ N ≤ 2 ^ 8 := Nat.pow_le_pow_right (by omega) hN
          have hml := modelsF_len l N (2 ^ N)
          exact better_loop (m := m) (by omega) (by omega) (fun a ha => by have := ((models_sat hr).1 ha).1; omega) hT fun a ha => e2.best hsm e3 e4 ((models_sat hr).1 ha)
end Go.Proofs.Ytimiahoaafjmmaa
