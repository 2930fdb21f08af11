/-
  Layer 27 (solve): lists, searching, joining.
-/
import Derived.Test.YtecegoknbcmenaaC3
namespace Go.Proofs.Ytecegoknbcmenaa
open Go.Lad
set_option linter.unusedVariables false
set_option linter.unusedSimpArgs false
set_option linter.unusedSectionVars false
theorem ok_of {l : List GClause} (h1 : l.length ≤ 200000) (h2 : ∀ c ∈ l, c.1.length ≤ 1000000) : Ok (lits l) := by
  refine ⟨by rw [List.length_map]; exact h1, fun c hc => ?_⟩
  obtain ⟨x, hx, rfl⟩ := List.mem_map.1 hc
  exact h2 x hx
theorem lits_app (l : List GClause) (L : List (List Int)) : lits (l ++ L.map mk) = lits l ++ L := by
  unfold lits
  rw [List.map_append]
  congr 1
  exact lits_mk L
theorem propF_len (C : List (List Int)) (s : List Int) : (propF C s).1.length ≤ 4001 := by
  unfold propF
  by_cases h : failB C s = true
  · rw [if_pos h, List.length_nil]; omega
  · rw [if_neg h]; dsimp only; exact clos_len C s
theorem cloneC_eq {l : List GClause} (h : l.length ≤ 1000000) : slices_Clone_api_Clause_api_Clause l = some l := by
  unfold slices_Clone_api_Clause_api_Clause
  refine bothN_same ?_ (fun h => by rw [h])
  rw [app_in (by simp; omega)]; rfl
theorem grow_eq {n : Nat} (h : n ≤ 2000000) : slices_Grow_int_int (n : Int) = some [] := by
  unfold slices_Grow_int_int
  rw [bif_ltZ, if_neg (by omega), z64_p (show (0 : Int) - 0 = 0 from rfl) (by omega) (by omega), bind_in, z64_p (show (n : Int) - 0 = (n : Int) by omega) (by omega) (by omega), bind_in, bif_ltZ]
  by_cases hn : 0 < n
  · rw [if_pos (by omega), need_in ⟨rfl, rfl⟩, bind_in]
    unfold i1Need
    rw [need_in (by omega), bind_in, cut_in (by omega) (by omega) (by rw [repT_len]; omega), bind_in]
    simp
  · rw [if_neg (by omega)]
theorem concat_eq {a b : List Int} (ha : a.length ≤ 1000000) (hb : b.length ≤ 1000000) : slices_Concat_int_int [a, b] = some (a ++ b) := by
  unfold slices_Concat_int_int
  have h1 : loopF (fun x => slices_Concat_int_int.b1 [a, b] x.1 x.2) (0, 0) = some ((a.length + b.length : Nat) : Int) := by
    refine loopF_of (n := 3) ?_ (by omega)
    unfold iterM iterM iterM
    have e1 : idx [a, b] 0 = some a := rfl
    have e2 : idx [a, b] 1 = some b := idx_at (by omega) rfl
    have l2 : ((([a, b] : List (List Int)).length : Nat) : Int) = 2 := rfl
    simp only [slices_Concat_int_int.b1, ltZ_eq, l2, e1, bind_in]
    rw [decide_eq_true (by omega), cond_true, z64_p (show (0 : Int) + (a.length : Int) = (a.length : Int) by omega) (by omega) (by omega), bind_in, decide_eq_false (by omega), cond_false, z64_p (show (0 : Int) + 1 = 1 from rfl) (by omega) (by omega), bind_in]
    dsimp only
    rw [decide_eq_true (by omega), cond_true, e2, bind_in, z64_p (show (a.length : Int) + (b.length : Int) = ((a.length + b.length : Nat) : Int) by omega) (by omega) (by omega), bind_in, decide_eq_false (by omega), cond_false, z64_p (show (1 : Int) + 1 = 2 from rfl) (by omega) (by omega), bind_in]
    dsimp only
    rw [decide_eq_false (by omega), cond_false]
  rw [h1, bind_in]
  unfold slices_Concat_int_int.j1
  rw [grow_eq (by omega), bind_in]
  refine loopF_of (n := 3) ?_ (by omega)
  unfold iterM iterM iterM
  have e1 : idx [a, b] 0 = some a := rfl
  have e2 : idx [a, b] 1 = some b := idx_at (by omega) rfl
  have l2 : ((([a, b] : List (List Int)).length : Nat) : Int) = 2 := rfl
  simp only [slices_Concat_int_int.b2, ltZ_eq, l2, e1, bind_in]
  rw [decide_eq_true (by omega), cond_true, app_in (by simp; omega), bind_in, z64_p (show (0 : Int) + 1 = 1 from rfl) (by omega) (by omega), bind_in]
  dsimp only
  rw [decide_eq_true (by omega), cond_true, e2, bind_in, app_in (by simp; omega), bind_in, z64_p (show (1 : Int) + 1 = 2 from rfl) (by omega) (by omega), bind_in]
  dsimp only
  rw [decide_eq_false (by omega), cond_false, List.nil_append]
theorem has_eq {l : List Int} {n : Int} (h : l.length ≤ 1000000) : ladingref27_has l n = some (decide (n ∈ l)) := by
  unfold ladingref27_has
  rw [loop_any l (fun x => decide (x = n)) true false (fun k hk => ?_) ?_ (by omega)]
  · congr 1
    rw [Bool.eq_iff_iff, decide_eq_true_iff]
    by_cases hn : n ∈ l
    · rw [if_pos (List.any_eq_true.2 ⟨n, hn, by simp⟩)]; simp [hn]
    · rw [if_neg (fun ha => by
        obtain ⟨x, hx, he⟩ := List.any_eq_true.1 ha
        exact hn (of_decide_eq_true he ▸ hx))]; simp [hn]
  · simp only [ladingref27_has.b1, lt_e, cond_false]
  · simp only [ladingref27_has.b1, lt_n hk, cond_true, idx_nat hk, bind_in, eqZ_eq, z64_nx hk (by omega)]
    exact bif_pick
theorem less_eq {x y : Int} : cmp_Less_int x y = some (ltZ x y) := by
  unfold cmp_Less_int cmp_isNaN_int
  rw [bind_in, eqZ_eq, decide_eq_true rfl]; rfl
theorem half_eq {a : Nat} (h : a ≤ 4000000) : shrZ .u64 (IntKind.u64.wrap (a : Int)) 1 = some ((a / 2 : Nat) : Int) := by
  have h1 : IntKind.u64.wrap (a : Int) = (a : Int) := by
    unfold IntKind.wrap
    have h1 : (a : Int) % 18446744073709551616 = (a : Int) := Int.emod_eq_of_lt (by omega) (by omega)
    simp [IntKind.bits, IntKind.signed, h1]
  have e2 : shrI .u64 (a : Int) 1 = ((a / 2 : Nat) : Int) := by
    unfold shrI
    rw [show min ((1 : Int).toNat) (IntKind.u64.bits) = 1 from rfl]
    rw [Int.fdiv_eq_ediv_of_nonneg _ (by omega)]
    simp
  rw [h1]
  have hd : a / 2 ≤ a := Nat.div_le_self _ _
  generalize a / 2 = y at *
  unfold shrZ
  rw [e2, leZ_eq, decide_eq_true (by omega), Bool.true_and]
  have : inZ .u64 (y : Int) = true := by
    unfold inZ
    rw [leZ_eq, leZ_eq, Bool.and_eq_true, decide_eq_true_eq, decide_eq_true_eq]
    exact ⟨by show (0 : Int) ≤ _; omega, by show _ ≤ (18446744073709551615 : Int); omega⟩
  rw [this]; rfl
theorem wrapI {a : Nat} (h : a ≤ 4000000) : IntKind.i64.wrap (a : Int) = (a : Int) :=
  wrap_in (show inK .i64 _ from ⟨by show (-9223372036854775808 : Int) ≤ _; omega, by show _ ≤ (9223372036854775807 : Int); omega⟩)
/-- searching an ascending list -/
theorem search_eq {l : List Int} {t : Int} (hl : l.length ≤ 1000000) (hs : l.Pairwise (· < ·)) : ∃ i, slices_BinarySearch_int_int l t = some (i, decide (t ∈ l)) := by
  unfold slices_BinarySearch_int_int
  have hs' := List.pairwise_iff_getElem.1 hs
  obtain ⟨b, h1, m, rfl, hm, h2, h3⟩ := loopF_less (body := fun x => slices_BinarySearch_int_int.b1 l t x.1 x.2) (x := (0, (l.length : Int)))
    (fun y => ∃ i j : Nat, y = ((i : Int), (j : Int)) ∧ i ≤ j ∧ j ≤ l.length ∧ (∀ k (hk : k < l.length), k < i → l[k] < t) ∧ ∀ k (hk : k < l.length), j ≤ k → t ≤ l[k])
    (fun y => (y.2 - y.1).toNat)
    (Q := fun b => ∃ m : Nat, b = (m : Int) ∧ m ≤ l.length ∧ (∀ k (hk : k < l.length), k < m → l[k] < t) ∧ ∀ k (hk : k < l.length), m ≤ k → t ≤ l[k])
    ⟨0, l.length, rfl, by omega, by omega, fun k _ h => by omega, fun k hk h => by omega⟩
    (fun y hy => by
      obtain ⟨i, j, rfl, hij, hj, h1, h2⟩ := hy
      by_cases hlt : i < j
      · have hh : (i + j) / 2 < l.length := by omega
        simp only [slices_BinarySearch_int_int.b1, lt_n hlt, cond_true]
        rw [z64_add (by omega), bind_in, half_eq (by omega), bind_in, wrapI (by omega), idx_nat hh, bind_in, less_eq, bind_in, ltZ_eq]
        by_cases hc : l[(i + j) / 2] < t
        · rw [decide_eq_true hc, cond_true, z64_nx hh (by omega), bind_in]
          refine .inl ⟨_, rfl, ⟨(i + j) / 2 + 1, j, rfl, by omega, hj, fun k hk hlt => ?_, h2⟩, by simp only; omega⟩
          rcases Nat.lt_or_ge k ((i + j) / 2) with h | h
          · have := hs' k ((i + j) / 2) hk hh h; omega
          · have : k = (i + j) / 2 := by omega
            subst this; exact hc
        · rw [decide_eq_false hc, cond_false]
          refine .inl ⟨_, rfl, ⟨i, (i + j) / 2, rfl, by omega, by omega, h1, fun k hk hle => ?_⟩, by simp only; omega⟩
          rcases Nat.lt_or_ge ((i + j) / 2) k with h | h
          · have := hs' ((i + j) / 2) k hh hk h; omega
          · have : k = (i + j) / 2 := by omega
            subst this; omega
      · have : i = j := by omega
        subst this
        exact .inr ⟨(i : Int), by simp only [slices_BinarySearch_int_int.b1, lt_e, cond_false], i, rfl, hj, h1, h2⟩)
    (by simp only; omega)
  rw [h1, bind_in]
  unfold slices_BinarySearch_int_int.j1
  rw [bif_ltZ]
  by_cases hml : m < l.length
  · rw [if_pos (by omega), idx_nat hml, bind_in, bif_eqZ]
    by_cases he : l[m] = t
    · rw [if_pos he, decide_eq_true (by rw [← he]; exact List.getElem_mem hml)]
      exact ⟨_, rfl⟩
    · rw [if_neg he, bind_in]
      unfold slices_isNaN_int
      rw [bind_in, eqZ_eq, decide_eq_true rfl, Bool.not_true, cond_false]
      refine ⟨(m : Int), ?_⟩
      congr 2
      symm
      rw [decide_eq_false_iff_not]
      intro hmem
      obtain ⟨k, hk, hkt⟩ := List.mem_iff_getElem.1 hmem
      rcases Nat.lt_trichotomy k m with h | h | h
      · have := h2 k hk h; omega
      · subst h; exact he hkt
      · have := hs' m k hml hk h
        have := h3 m hml (by omega)
        omega
  · rw [if_neg (by omega)]
    refine ⟨(m : Int), ?_⟩
    congr 2
    symm
    rw [decide_eq_false_iff_not]
    intro hmem
    obtain ⟨k, hk, hkt⟩ := List.mem_iff_getElem.1 hmem
    have := h2 k hk (by omega)
    omega
/-- a loop that compares -/
theorem loop_same {α : Type} [DecidableEq α] {body : Int → Option (Int ⊕ Bool)} {a b : List α} (hl : a.length = b.length) (hn : a.length ≤ 1000000)
    (h : ∀ k (hk : k < a.length) (hb : k < b.length), body (k : Int) = some (if a[k] = b[k] then .inl ((k + 1 : Nat) : Int) else .inr false)) (hd : body (a.length : Int) = some (.inr true)) : loopF body 0 = some (decide (a = b)) := by
  rw [loop_scan a (fun k x => if some x = b[k]? then none else some false) true (fun k hk => ?_) hd (by omega)]
  · congr 1
    cases hs : scan (fun k x => if some x = b[k]? then none else some false) 0 a with
    | none =>
      have : a = b := List.ext_getElem hl fun i h1 h2 => by
        have := scan_none.1 hs i h1
        rw [Nat.zero_add, List.getElem?_eq_getElem h2] at this
        split at this
        · rename_i e; injection e
        · cases this
      rw [decide_eq_true this]; rfl
    | some c =>
      obtain ⟨i, hi, h1, _⟩ := scan_some.1 hs
      rw [Nat.zero_add, List.getElem?_eq_getElem (by omega)] at h1
      split at h1
      · cases h1
      · rename_i hne
        injection h1 with h1
        subst h1
        rw [decide_eq_false fun e => hne (by subst e; rfl)]; rfl
  · have hb : k < b.length := by omega
    rw [h k hk hb, List.getElem?_eq_getElem hb]
    simp only [Option.some.injEq]
    split <;> rfl
theorem bools_eq {a b : List Bool} (h : a.length ≤ 1000000) : ladingref27_Bools a b = some (decide (a = b)) := by
  unfold ladingref27_Bools
  rw [bif_not, bif_eqZ]
  by_cases hl : a.length = b.length
  · rw [if_pos (by omega)]
    refine loop_same hl h (fun k hk hb => ?_) ?_
    · simp only [ladingref27_Bools.b1, lt_n hk, cond_true, idx_nat hk, idx_nat hb, bind_in, z64_nx hk (by omega), bif_not]
      cases a[k] <;> cases b[k] <;> rfl
    · simp only [ladingref27_Bools.b1, lt_e, cond_false]
  · rw [if_neg (by omega), decide_eq_false (fun e => hl (by rw [e]))]
theorem lists_eq {a b : List (List Int)} (h : a.length ≤ 1000000) (hc : ∀ c ∈ a, c.length ≤ 1000000) : ladingref27_Lists a b = some (decide (a = b)) := by
  unfold ladingref27_Lists
  rw [bif_not, bif_eqZ]
  by_cases hl : a.length = b.length
  · rw [if_pos (by omega)]
    refine loop_same hl h (fun k hk hb => ?_) ?_
    · simp only [ladingref27_Lists.b1, lt_n hk, cond_true, idx_nat hk, idx_nat hb, bind_in, same_eq (hc _ (List.getElem_mem hk)), z64_nx hk (by omega), bif_not]
      by_cases he : a[k] = b[k]
      · rw [decide_eq_true he, if_pos he]; rfl
      · rw [decide_eq_false he, if_neg he]; rfl
    · simp only [ladingref27_Lists.b1, lt_e, cond_false]
  · rw [if_neg (by omega), decide_eq_false (fun e => hl (by rw [e]))]
theorem few_eq {l : List GClause} {n most : Int} {s : List Int} : ∃ b, ladingref27_Few l n most s = some b ∧ (b = true → l.length ≤ 40 ∧ (∀ c ∈ l, c.1.length ≤ 8) ∧ n ≤ most ∧ s.length ≤ 10) := by
  unfold ladingref27_Few
  have hfin : ∀ k : Nat, ¬ (k < l.length ∧ k < 41) → ladingref27_Few.b1 l n most s (k : Int) = some (.inr (decide (l.length ≤ 40 ∧ n ≤ most ∧ s.length ≤ 10))) := fun k hk => by
    have h0 : (bif ltZ (k : Int) (l.length : Int) then some (ltZ (k : Int) 41) else some false) = some false := by
      rw [bif_ltZ]
      by_cases h : (k : Int) < (l.length : Int)
      · rw [if_pos h, ltZ_eq, decide_eq_false (by omega)]
      · rw [if_neg h]
    unfold ladingref27_Few.b1
    rw [h0, bind_in]
    unfold ladingref27_Few.j1
    rw [cond_false]
    simp only [leZ_eq, bif_dec]
    by_cases h1 : (l.length : Int) ≤ 40
    · rw [if_pos h1]
      by_cases h2 : n ≤ most
      · rw [if_pos h2, Option.map_some]
        congr 2
        rw [decide_eq_decide]
        exact ⟨fun h => ⟨by omega, h2, by omega⟩, fun h => by omega⟩
      · rw [if_neg h2, decide_eq_false (by omega)]; rfl
    · rw [if_neg h1, decide_eq_false (by omega)]; rfl
  refine loopF_inv (fun k x => x = (k : Int) ∧ k ≤ l.length ∧ ∀ j (hj : j < l.length), j < k → l[j].1.length ≤ 8) 41 ⟨rfl, Nat.zero_le _, fun j _ hj => by omega⟩ (fun k hk x hx => ?_) (fun x hx => ?_) (by omega)
  · obtain ⟨rfl, h3, h4⟩ := hx
    by_cases hkl : k < l.length
    · have h0 : (bif ltZ (k : Int) (l.length : Int) then some (ltZ (k : Int) 41) else some false) = some true := by
        rw [lt_n hkl, cond_true, ltZ_eq, decide_eq_true (by omega)]
      unfold ladingref27_Few.b1
      rw [h0, bind_in]
      unfold ladingref27_Few.j1
      rw [cond_true, idx_nat hkl, bind_in, bif_ltZ]
      by_cases h8 : 8 < l[k].1.length
      · rw [if_pos (by omega)]
        exact .inr ⟨_, rfl, fun h => by cases h⟩
      · rw [if_neg (by omega), z64_succ (by omega), bind_in]
        refine .inl ⟨_, rfl, rfl, hkl, fun j hj hjk => ?_⟩
        rcases Nat.lt_or_ge j k with h | h
        · exact h4 j hj h
        · have : j = k := by omega
          subst this; omega
    · rw [hfin k (by omega)]
      refine .inr ⟨_, rfl, fun h => ?_⟩
      have h := of_decide_eq_true h
      refine ⟨h.1, fun c hc => ?_, h.2⟩
      obtain ⟨j, hj, rfl⟩ := List.mem_iff_getElem.1 hc
      exact h4 j hj (by omega)
  · obtain ⟨rfl, h3, h4⟩ := hx
    refine ⟨_, hfin 41 (by omega), fun h => ?_⟩
    have h := of_decide_eq_true h
    omega
end Go.Proofs.Ytecegoknbcmenaa
