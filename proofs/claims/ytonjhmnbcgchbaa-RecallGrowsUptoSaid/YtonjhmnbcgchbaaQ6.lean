/-
  The search: the code's and the reference's are one.
-/
import Derived.Test.YtonjhmnbcgchbaaQ5
namespace Go.Proofs.Ytonjhmnbcgchbaa
open Go.Lad Classical
set_option linter.unusedVariables false
set_option linter.unusedSectionVars false
set_option linter.unusedSimpArgs false

noncomputable def vis (l : List GOption) (p : Nat) : Nat → Nat → Nat → Nat → Int → List GBranch → Bool × Nat × Int × List GBranch
  | 0, k, m, b, c, t => if 4000 ≤ t.length then (false, b, c, t) else if c ≤ bnd l p k m then (true, b, c, t ++ [(0, bnd l p k m)]) else (true, m, bnd l p k m, t ++ [(0, bnd l p k m)])
  | r + 1, k, m, b, c, t => if 4000 ≤ t.length then (false, b, c, t) else if c ≤ bnd l p k m then (true, b, c, t ++ [(0, bnd l p k m)]) else
    if (vis l p r (k + 1) m b c (t ++ [(2, bnd l p k m)])).1 = true then
      vis l p r (k + 1) (m ||| 2 ^ k) (vis l p r (k + 1) m b c (t ++ [(2, bnd l p k m)])).2.1 (vis l p r (k + 1) m b c (t ++ [(2, bnd l p k m)])).2.2.1 (vis l p r (k + 1) m b c (t ++ [(2, bnd l p k m)])).2.2.2
    else vis l p r (k + 1) m b c (t ++ [(2, bnd l p k m)])
theorem vis_len {l : List GOption} {p : Nat} : ∀ (r k m b : Nat) (c : Int) (t : List GBranch), t.length ≤ 4000 → (vis l p r k m b c t).2.2.2.length ≤ 4000
  | 0, k, m, b, c, t, ht => by
    unfold vis
    split
    · exact ht
    · split <;> (simp; omega)
  | r + 1, k, m, b, c, t, ht => by
    unfold vis
    split
    · exact ht
    · split
      · simp; omega
      · have h1 := vis_len (l := l) (p := p) r (k + 1) m b c (t ++ [(2, bnd l p k m)]) (by simp; omega)
        split
        · exact vis_len r (k + 1) (m ||| 2 ^ k) _ _ _ h1
        · exact h1
theorem or_bit_lt {m k : Nat} (hm : m < 2 ^ k) : m ||| 2 ^ k < 2 ^ (k + 1) := Nat.or_lt_two_pow (Nat.lt_of_lt_of_le hm (Nat.pow_le_pow_right (by omega) (by omega))) (Nat.pow_lt_pow_right (by omega) (by omega))
theorem lt_succ_pow {m k : Nat} (hm : m < 2 ^ k) : m < 2 ^ (k + 1) := Nat.lt_of_lt_of_le hm (Nat.pow_le_pow_right (by omega) (by omega))
theorem lt_pow_le {m k n : Nat} (hm : m < 2 ^ k) (h : k ≤ n) : m < 2 ^ n := Nat.lt_of_lt_of_le hm (Nat.pow_le_pow_right (by omega) h)
theorem vis_best {l : List GOption} {p n : Nat} : ∀ (r k m b : Nat) (c : Int) (t : List GBranch), k + r = n → m < 2 ^ k → b < 2 ^ n → (vis l p r k m b c t).2.1 < 2 ^ n
  | 0, k, m, b, c, t, hk, hm, hb => by
    unfold vis
    split
    · exact hb
    · split
      · exact hb
      · exact lt_pow_le hm (by omega)
  | r + 1, k, m, b, c, t, hk, hm, hb => by
    unfold vis
    split
    · exact hb
    · split
      · exact hb
      · have h1 := vis_best (l := l) (p := p) (n := n) r (k + 1) m b c (t ++ [(2, bnd l p k m)]) (by omega) (lt_succ_pow hm) hb
        split
        · exact vis_best r (k + 1) (m ||| 2 ^ k) _ _ _ (by omega) (or_bit_lt hm) h1
        · exact h1
theorem app_one {α : Type} {l : List α} {x : α} (h : l.length ≤ 1000000) : app? l [x] = some (l ++ [x]) := by unfold app?; rw [if_pos (by simp; omega)]
theorem app_nil {α : Type} {l : List α} (h : l.length ≤ 1000000) : app? [] l = some l := by unfold app?; rw [if_pos (by simp; omega)]; rfl
theorem set_last {α : Type} (t : List α) (x y : α) : (t ++ [x]).set ((t.length : Nat) : Int).toNat y = t ++ [y] := by simp
theorem idx_last {α : Type} (t : List α) (x : α) : idx (t ++ [x]) ((t.length : Nat) : Int) = some x := by
  rw [idx_nat (by simp)]; simp
section
variable {l : List GOption} {p : Nat} (h : RT l p)
include h
theorem grow_eq : ∀ (r f k m b : Nat) (c : Int) (t : List GBranch), r < f → k + r = l.length → m < 2 ^ k → t.length ≤ 4000 →
    recall_problem_grow.rec f (k : Int) (m : Int) ((2 ^ p - 1 : Nat) : Int) (b : Int) c (l.map conv) t = some ((vis l p r k m b c t).1, ((2 ^ p - 1 : Nat) : Int), ((vis l p r k m b c t).2.1 : Int), (vis l p r k m b c t).2.2.1, (vis l p r k m b c t).2.2.2, l.map conv)
  | r, 0, k, m, b, c, t, hf, _, _, _ => absurd hf (by omega)
  | r, f + 1, k, m, b, c, t, hf, hk, hm, ht => by
    have hn := h.hn
    unfold recall_problem_grow.rec recall_problem_grow.body
    rw [eqZ_eq, bif_dec]
    by_cases hl : 4000 ≤ t.length
    · rw [if_pos (by omega)]
      cases r <;> (unfold vis; rw [if_pos hl])
    · rw [if_neg (by omega), bound_eq h (by omega) (lt_pow_le hm (by omega)), bind_in, app_one (by omega), bind_in, leZ_eq, bif_dec]
      by_cases hc : c ≤ bnd l p k m
      · rw [if_pos hc]
        cases r <;> (unfold vis; rw [if_neg hl, if_pos hc])
      · rw [if_neg hc, eqZ_eq, bif_dec, List.length_map]
        cases r with
        | zero =>
          rw [if_pos (by omega)]
          unfold vis
          rw [if_neg hl, if_neg hc]
        | succ r =>
          rw [if_neg (by omega), idx_last, bind_in, bind_in, set_last]
          unfold recall_kids
          have e1 := grow_eq r f (k + 1) m b c (t ++ [(2, bnd l p k m)]) (by omega) (by omega) (lt_succ_pow hm) (by simp; omega)
          have hlen := vis_len (l := l) (p := p) r (k + 1) m b c (t ++ [(2, bnd l p k m)]) (by simp; omega)
          rw [z64_succ (by omega), bind_in, e1, bind_in]
          conv => rhs; unfold vis
          rw [if_neg hl, if_neg hc]
          cases hv : (vis l p r (k + 1) m b c (t ++ [(2, bnd l p k m)])).1 with
          | true =>
            rw [cond_true, if_pos rfl, bind_in, shlZ_nat (by omega), bind_in, orI_nat (w_lt_of (by omega) hm) (two_lt (by omega))]
            have e2 := grow_eq r f (k + 1) (m ||| 2 ^ k) (vis l p r (k + 1) m b c (t ++ [(2, bnd l p k m)])).2.1 (vis l p r (k + 1) m b c (t ++ [(2, bnd l p k m)])).2.2.1 (vis l p r (k + 1) m b c (t ++ [(2, bnd l p k m)])).2.2.2 (by omega) (by omega) (or_bit_lt hm) hlen
            dsimp only
            rw [e2]; rfl
          | false =>
            rw [cond_false, if_neg (by simp), bind_in, hv]
omit h in
theorem lst_ge {m k n : Nat} (hm : m < 2 ^ k) (hk : k ≤ n) : lst m n = lst m k := by
  have : ∀ d, lst m (k + d) = lst m k := by
    intro d
    induction d with
    | zero => rfl
    | succ d ih =>
      rw [← Nat.add_assoc, lst_succ, ih, if_neg, List.append_nil]
      intro hc
      have := bit_lt hm hc
      omega
  have := this (n - k)
  rw [show k + (n - k) = n by omega] at this
  exact this
omit h in
theorem lst_congr {m m' k : Nat} (h : ∀ i, i < k → m.testBit i = m'.testBit i) : lst m k = lst m' k := by
  unfold lst
  congr 1
  exact List.filter_congr fun i hi => h i (List.mem_range.1 hi)
omit h in
theorem lst_or {m k : Nat} (hm : m < 2 ^ k) : lst (m ||| 2 ^ k) (k + 1) = lst m k ++ [(k : Int)] := by
  rw [lst_succ, if_pos (by rw [Nat.testBit_or, Nat.testBit_two_pow_self, Bool.or_true])]
  congr 1
  exact lst_congr fun i hi => by
    rw [Nat.testBit_or, Nat.testBit_two_pow]
    have : ¬ k = i := by omega
    simp [this]
theorem visit3_eq : ∀ (r f k m b : Nat) (c : Int) (t : List GBranch), r < f → k + r = l.length → m < 2 ^ k → t.length ≤ 4000 →
    ladingref46_search_visit_v3.rec f (k : Int) (lst m k) l (p : Int) c (lst b l.length) t = some ((vis l p r k m b c t).1, l, (p : Int), (vis l p r k m b c t).2.2.1, lst (vis l p r k m b c t).2.1 l.length, (vis l p r k m b c t).2.2.2)
  | r, 0, k, m, b, c, t, hf, _, _, _ => absurd hf (by omega)
  | r, f + 1, k, m, b, c, t, hf, hk, hm, ht => by
    have hn := h.hn
    have hsl := lst_len m k
    unfold ladingref46_search_visit_v3.rec ladingref46_search_visit_v3.body
    rw [leZ_eq, bif_dec]
    by_cases hl : 4000 ≤ t.length
    · rw [if_pos (by omega)]
      cases r <;> (unfold vis; rw [if_pos hl])
    · rw [if_neg (by omega), refBound_eq h (by omega) rfl hm, bind_in, app_one (by omega), bind_in, leZ_eq, bif_dec]
      by_cases hc : c ≤ bnd l p k m
      · rw [if_pos hc]
        cases r <;> (unfold vis; rw [if_neg hl, if_pos hc])
      · rw [if_neg hc, eqZ_eq, bif_dec]
        cases r with
        | zero =>
          rw [if_pos (by omega), app_nil (by omega), bind_in]
          unfold vis
          rw [if_neg hl, if_neg hc]
          dsimp only
          rw [lst_ge (n := l.length) hm (by omega)]
        | succ r =>
          rw [if_neg (by omega), idx_last, bind_in, bind_in, set_last]
          have e1 := visit3_eq r f (k + 1) m b c (t ++ [(2, bnd l p k m)]) (by omega) (by omega) (lt_succ_pow hm) (by simp; omega)
          rw [lst_ge hm (by omega)] at e1
          have hlen := vis_len (l := l) (p := p) r (k + 1) m b c (t ++ [(2, bnd l p k m)]) (by simp; omega)
          rw [z64_succ (by omega), bind_in, e1, bind_in]
          conv => rhs; unfold vis
          rw [if_neg hl, if_neg hc]
          cases hv : (vis l p r (k + 1) m b c (t ++ [(2, bnd l p k m)])).1 with
          | true =>
            rw [cond_true, if_pos rfl, bind_in, app_nil (by omega), bind_in, app_one (by omega), bind_in, ← lst_or hm]
            have e2 := visit3_eq r f (k + 1) (m ||| 2 ^ k) (vis l p r (k + 1) m b c (t ++ [(2, bnd l p k m)])).2.1 (vis l p r (k + 1) m b c (t ++ [(2, bnd l p k m)])).2.2.1 (vis l p r (k + 1) m b c (t ++ [(2, bnd l p k m)])).2.2.2 (by omega) (by omega) (or_bit_lt hm) hlen
            dsimp only
            rw [e2]; rfl
          | false =>
            rw [cond_false, if_neg (by simp)]
            dsimp only
            rw [hv]
theorem visit2_eq : ∀ (r f k m : Nat) (c : Int) (t : List GBranch), r < f → k + r = l.length → m < 2 ^ k → t.length ≤ 4000 →
    ladingref46_search_visit_v2.rec f (k : Int) (lst m k) l (p : Int) c t = some ((vis l p r k m 0 c t).1, l, (p : Int), (vis l p r k m 0 c t).2.2.1, lst (vis l p r k m 0 c t).2.1 l.length, (vis l p r k m 0 c t).2.2.2)
  | r, 0, k, m, c, t, hf, _, _, _ => absurd hf (by omega)
  | r, f + 1, k, m, c, t, hf, hk, hm, ht => by
    have hn := h.hn
    have hsl := lst_len m k
    have hz : lst 0 l.length = [] := by rw [lst_ge (m := 0) (k := 0) (by decide) (by omega)]; rfl
    unfold ladingref46_search_visit_v2.rec ladingref46_search_visit_v2.body
    rw [leZ_eq, bif_dec]
    by_cases hl : 4000 ≤ t.length
    · rw [if_pos (by omega)]
      cases r <;> (unfold vis; rw [if_pos hl, hz])
    · rw [if_neg (by omega), refBound_eq h (by omega) rfl hm, bind_in, app_one (by omega), bind_in, leZ_eq, bif_dec]
      by_cases hc : c ≤ bnd l p k m
      · rw [if_pos hc]
        cases r <;> (unfold vis; rw [if_neg hl, if_pos hc, hz])
      · rw [if_neg hc, eqZ_eq, bif_dec]
        cases r with
        | zero =>
          rw [if_pos (by omega), app_nil (by omega), bind_in]
          unfold vis
          rw [if_neg hl, if_neg hc]
          dsimp only
          rw [lst_ge (n := l.length) hm (by omega)]
        | succ r =>
          rw [if_neg (by omega), idx_last, bind_in, bind_in, set_last]
          have e1 := visit2_eq r f (k + 1) m c (t ++ [(2, bnd l p k m)]) (by omega) (by omega) (lt_succ_pow hm) (by simp; omega)
          rw [lst_ge hm (by omega)] at e1
          have hlen := vis_len (l := l) (p := p) r (k + 1) m 0 c (t ++ [(2, bnd l p k m)]) (by simp; omega)
          rw [z64_succ (by omega), bind_in, e1, bind_in]
          conv => rhs; unfold vis
          rw [if_neg hl, if_neg hc]
          cases hv : (vis l p r (k + 1) m 0 c (t ++ [(2, bnd l p k m)])).1 with
          | true =>
            rw [cond_true, if_pos rfl, bind_in, app_nil (by omega), bind_in, app_one (by omega), bind_in, ← lst_or hm]
            have e2 := visit3_eq h r bigFuel.n (k + 1) (m ||| 2 ^ k) (vis l p r (k + 1) m 0 c (t ++ [(2, bnd l p k m)])).2.1 (vis l p r (k + 1) m 0 c (t ++ [(2, bnd l p k m)])).2.2.1 (vis l p r (k + 1) m 0 c (t ++ [(2, bnd l p k m)])).2.2.2 (by show r < 1606938044258990275541962092341162602522202993782792835301376; omega) (by omega) (or_bit_lt hm) hlen
            dsimp only
            unfold ladingref46_search_visit_v3
            rw [e2]; rfl
          | false =>
            rw [cond_false, if_neg (by simp)]
            dsimp only
            rw [hv]
theorem visit_eq : ladingref46_search_visit 0 [] l (p : Int) Never = some ((vis l p l.length 0 0 0 Never []).1, l, (p : Int), (vis l p l.length 0 0 0 Never []).2.2.1, lst (vis l p l.length 0 0 0 Never []).2.1 l.length, (vis l p l.length 0 0 0 Never []).2.2.2) := by
  have hn := h.hn
  have key : ∀ N : Nat, ladingref46_search_visit_v2.body (ladingref46_search_visit_v2.rec N) 0 [] l (p : Int) Never [] = some ((vis l p l.length 0 0 0 Never []).1, l, (p : Int), (vis l p l.length 0 0 0 Never []).2.2.1, lst (vis l p l.length 0 0 0 Never []).2.1 l.length, (vis l p l.length 0 0 0 Never []).2.2.2) ∨ N ≤ l.length := fun N => by
    by_cases hN : N ≤ l.length
    · exact .inr hN
    · exact .inl (visit2_eq h l.length (N + 1) 0 0 Never [] (by omega) (by omega) (by decide) (by simp))
  have hb : ¬ bigFuel.n ≤ l.length := by
    show ¬ 1606938044258990275541962092341162602522202993782792835301376 ≤ l.length
    omega
  rw [← (key bigFuel.n).resolve_right hb]
  unfold ladingref46_search_visit ladingref46_search_visit_v2.body
  rw [leZ_eq, bif_dec, if_neg (by simp)]
  rfl
end
end Go.Proofs.Ytonjhmnbcgchbaa
