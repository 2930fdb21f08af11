/-
  Plain texts of layers 26 to 28.
-/
import Derived.Test.YthibbellkcdodaaC3
/-
  Layer 27 (solve): lists, searching, joining.
-/
namespace Go.Proofs.Ythibbellkcdodaa
open Go.Lad
set_option linter.unusedVariables false
set_option linter.unusedSimpArgs false
set_option linter.unusedSectionVars false
theorem ok_of {l : List GClause} (h1 : l.length ≤ 200000) (h2 : ∀ c ∈ l, c.1.length ≤ 1000000) : Ok (lits l) := by
  refine ⟨by rw [List.length_map]; exact h1, fun c hc => ?_⟩
  obtain ⟨x, hx, rfl⟩ := List.mem_map.1 hc
  exact h2 x hx
theorem lits_app (l : List GClause) (L : List (List Int)) : lits (l ++ L.map mk) = lits l ++ L := by
  unfold lits
  rw [List.map_append]
  congr 1
  exact lits_mk L
theorem cloneC_eq {l : List GClause} (h : l.length ≤ 1000000) : slices_Clone_api_Clause_api_Clause l = some l := by
  unfold slices_Clone_api_Clause_api_Clause
  refine bothN_same ?_ (fun h => by rw [h])
  rw [app_in (by simp; omega)]; rfl
theorem grow_eq {n : Nat} (h : n ≤ 2000000) : slices_Grow_int_int (n : Int) = some [] := by
  unfold slices_Grow_int_int
  rw [bif_ltZ, if_neg (by omega), z64_p (show (0 : Int) - 0 = 0 from rfl) (by omega) (by omega), bind_in, z64_p (show (n : Int) - 0 = (n : Int) by omega) (by omega) (by omega), bind_in, bif_ltZ]
  by_cases hn : 0 < n
  · rw [if_pos (by omega), need_in ⟨rfl, rfl⟩, bind_in]
    unfold i1Need
    rw [need_in (by omega), bind_in, cut_in (by omega) (by omega) (by rw [repT_len]; omega), bind_in]
    simp
  · rw [if_neg (by omega)]
theorem concat_eq {a b : List Int} (ha : a.length ≤ 1000000) (hb : b.length ≤ 1000000) : slices_Concat_int_int [a, b] = some (a ++ b) := by
  unfold slices_Concat_int_int
  have h1 : loopF (fun x => slices_Concat_int_int.b1 [a, b] x.1 x.2) (0, 0) = some ((a.length + b.length : Nat) : Int) := by
    refine loopF_of (n := 3) ?_ (by omega)
    unfold iterM iterM iterM
    have e1 : idx [a, b] 0 = some a := rfl
    have e2 : idx [a, b] 1 = some b := idx_at (by omega) rfl
    have l2 : ((([a, b] : List (List Int)).length : Nat) : Int) = 2 := rfl
    simp only [slices_Concat_int_int.b1, ltZ_eq, l2, e1, bind_in]
    rw [decide_eq_true (by omega), cond_true, z64_p (show (0 : Int) + (a.length : Int) = (a.length : Int) by omega) (by omega) (by omega), bind_in, decide_eq_false (by omega), cond_false, z64_p (show (0 : Int) + 1 = 1 from rfl) (by omega) (by omega), bind_in]
    dsimp only
    rw [decide_eq_true (by omega), cond_true, e2, bind_in, z64_p (show (a.length : Int) + (b.length : Int) = ((a.length + b.length : Nat) : Int) by omega) (by omega) (by omega), bind_in, decide_eq_false (by omega), cond_false, z64_p (show (1 : Int) + 1 = 2 from rfl) (by omega) (by omega), bind_in]
    dsimp only
    rw [decide_eq_false (by omega), cond_false]
  rw [h1, bind_in]
  unfold slices_Concat_int_int.j1
  rw [grow_eq (by omega), bind_in]
  refine loopF_of (n := 3) ?_ (by omega)
  unfold iterM iterM iterM
  have e1 : idx [a, b] 0 = some a := rfl
  have e2 : idx [a, b] 1 = some b := idx_at (by omega) rfl
  have l2 : ((([a, b] : List (List Int)).length : Nat) : Int) = 2 := rfl
  simp only [slices_Concat_int_int.b2, ltZ_eq, l2, e1, bind_in]
  rw [decide_eq_true (by omega), cond_true, app_in (by simp; omega), bind_in, z64_p (show (0 : Int) + 1 = 1 from rfl) (by omega) (by omega), bind_in]
  dsimp only
  rw [decide_eq_true (by omega), cond_true, e2, bind_in, app_in (by simp; omega), bind_in, z64_p (show (1 : Int) + 1 = 2 from rfl) (by omega) (by omega), bind_in]
  dsimp only
  rw [decide_eq_false (by omega), cond_false, List.nil_append]
theorem has_eq {l : List Int} {n : Int} (h : l.length ≤ 1000000) : ladingref27_has l n = some (decide (n ∈ l)) := by
  unfold ladingref27_has
  rw [loop_any l (fun x => decide (x = n)) true false (fun k hk => ?_) ?_ (by omega)]
  · congr 1
    rw [Bool.eq_iff_iff, decide_eq_true_iff]
    by_cases hn : n ∈ l
    · rw [if_pos (List.any_eq_true.2 ⟨n, hn, by simp⟩)]; simp [hn]
    · rw [if_neg (fun ha => by
        obtain ⟨x, hx, he⟩ := List.any_eq_true.1 ha
        exact hn (of_decide_eq_true he ▸ hx))]; simp [hn]
  · simp only [ladingref27_has.b1, lt_e, cond_false]
  · simp only [ladingref27_has.b1, lt_n hk, cond_true, idx_nat hk, bind_in, eqZ_eq, z64_nx hk (by omega)]
    exact bif_pick
theorem less_eq {x y : Int} : cmp_Less_int x y = some (ltZ x y) := by
  unfold cmp_Less_int cmp_isNaN_int
  rw [bind_in, eqZ_eq, decide_eq_true rfl]; rfl
theorem half_eq {a : Nat} (h : a ≤ 4000000) : shrZ .u64 (IntKind.u64.wrap (a : Int)) 1 = some ((a / 2 : Nat) : Int) := by
  have h1 : IntKind.u64.wrap (a : Int) = (a : Int) := by
    unfold IntKind.wrap
    have h1 : (a : Int) % 18446744073709551616 = (a : Int) := Int.emod_eq_of_lt (by omega) (by omega)
    simp [IntKind.bits, IntKind.signed, h1]
  have e2 : shrI .u64 (a : Int) 1 = ((a / 2 : Nat) : Int) := by
    unfold shrI
    rw [show min ((1 : Int).toNat) (IntKind.u64.bits) = 1 from rfl]
    rw [Int.fdiv_eq_ediv_of_nonneg _ (by omega)]
    simp
  rw [h1]
  have hd : a / 2 ≤ a := Nat.div_le_self _ _
  generalize a / 2 = y at *
  unfold shrZ
  rw [e2, leZ_eq, decide_eq_true (by omega), Bool.true_and]
  have : inZ .u64 (y : Int) = true := by
    unfold inZ
    rw [leZ_eq, leZ_eq, Bool.and_eq_true, decide_eq_true_eq, decide_eq_true_eq]
    exact ⟨by show (0 : Int) ≤ _; omega, by show _ ≤ (18446744073709551615 : Int); omega⟩
  rw [this]; rfl
theorem wrapI {a : Nat} (h : a ≤ 4000000) : IntKind.i64.wrap (a : Int) = (a : Int) :=
  wrap_in (show inK .i64 _ from ⟨by show (-9223372036854775808 : Int) ≤ _; omega, by show _ ≤ (9223372036854775807 : Int); omega⟩)
/-- searching an ascending list -/
theorem search_eq {l : List Int} {t : Int} (hl : l.length ≤ 1000000) (hs : l.Pairwise (· < ·)) : ∃ i, slices_BinarySearch_int_int l t = some (i, decide (t ∈ l)) := by
  unfold slices_BinarySearch_int_int
  have hs' := List.pairwise_iff_getElem.1 hs
  obtain ⟨b, h1, m, rfl, hm, h2, h3⟩ := loopF_less (body := fun x => slices_BinarySearch_int_int.b1 l t x.1 x.2) (x := (0, (l.length : Int)))
    (fun y => ∃ i j : Nat, y = ((i : Int), (j : Int)) ∧ i ≤ j ∧ j ≤ l.length ∧ (∀ k (hk : k < l.length), k < i → l[k] < t) ∧ ∀ k (hk : k < l.length), j ≤ k → t ≤ l[k])
    (fun y => (y.2 - y.1).toNat)
    (Q := fun b => ∃ m : Nat, b = (m : Int) ∧ m ≤ l.length ∧ (∀ k (hk : k < l.length), k < m → l[k] < t) ∧ ∀ k (hk : k < l.length), m ≤ k → t ≤ l[k])
    ⟨0, l.length, rfl, by omega, by omega, fun k _ h => by omega, fun k hk h => by omega⟩
    (fun y hy => by
      obtain ⟨i, j, rfl, hij, hj, h1, h2⟩ := hy
      by_cases hlt : i < j
      · have hh : (i + j) / 2 < l.length := by omega
        simp only [slices_BinarySearch_int_int.b1, lt_n hlt, cond_true]
        rw [z64_add (by omega), bind_in, half_eq (by omega), bind_in, wrapI (by omega), idx_nat hh, bind_in, less_eq, bind_in, ltZ_eq]
        by_cases hc : l[(i + j) / 2] < t
        · rw [decide_eq_true hc, cond_true, z64_nx hh (by omega), bind_in]
          refine .inl ⟨_, rfl, ⟨(i + j) / 2 + 1, j, rfl, by omega, hj, fun k hk hlt => ?_, h2⟩, by simp only; omega⟩
          rcases Nat.lt_or_ge k ((i + j) / 2) with h | h
          · have := hs' k ((i + j) / 2) hk hh h; omega
          · have : k = (i + j) / 2 := by omega
            subst this; exact hc
        · rw [decide_eq_false hc, cond_false]
          refine .inl ⟨_, rfl, ⟨i, (i + j) / 2, rfl, by omega, by omega, h1, fun k hk hle => ?_⟩, by simp only; omega⟩
          rcases Nat.lt_or_ge ((i + j) / 2) k with h | h
          · have := hs' ((i + j) / 2) k hh hk h; omega
          · have : k = (i + j) / 2 := by omega
            subst this; omega
      · have : i = j := by omega
        subst this
        exact .inr ⟨(i : Int), by simp only [slices_BinarySearch_int_int.b1, lt_e, cond_false], i, rfl, hj, h1, h2⟩)
    (by simp only; omega)
  rw [h1, bind_in]
  unfold slices_BinarySearch_int_int.j1
  rw [bif_ltZ]
  by_cases hml : m < l.length
  · rw [if_pos (by omega), idx_nat hml, bind_in, bif_eqZ]
    by_cases he : l[m] = t
    · rw [if_pos he, decide_eq_true (by rw [← he]; exact List.getElem_mem hml)]
      exact ⟨_, rfl⟩
    · rw [if_neg he, bind_in]
      unfold slices_isNaN_int
      rw [bind_in, eqZ_eq, decide_eq_true rfl, Bool.not_true, cond_false]
      refine ⟨(m : Int), ?_⟩
      congr 2
      symm
      rw [decide_eq_false_iff_not]
      intro hmem
      obtain ⟨k, hk, hkt⟩ := List.mem_iff_getElem.1 hmem
      rcases Nat.lt_trichotomy k m with h | h | h
      · have := h2 k hk h; omega
      · subst h; exact he hkt
      · have := hs' m k hml hk h
        have := h3 m hml (by omega)
        omega
  · rw [if_neg (by omega)]
    refine ⟨(m : Int), ?_⟩
    congr 2
    symm
    rw [decide_eq_false_iff_not]
    intro hmem
    obtain ⟨k, hk, hkt⟩ := List.mem_iff_getElem.1 hmem
    have := h2 k hk (by omega)
    omega
end Go.Proofs.Ythibbellkcdodaa
/-
  Layer 27 (solve): the steps of the search; the code and the reference make them.
-/
namespace Go.Proofs.Ythibbellkcdodaa
open Go.Lad
set_option linter.unusedVariables false
set_option linter.unusedSimpArgs false
set_option linter.unusedSectionVars false
abbrev Res : Type := (List Bool) × (List (List Int)) × Int
/-- is a variable open? -/
def opn (cl : List Int) (v : Nat) : Bool := decide ((v : Int) + 1 ∉ cl) && decide (-(v : Int) - 1 ∉ cl)
/-- the first open variable; n if there is none -/
def openN (cl : List Int) (n : Nat) : Nat := (scan (fun k (_ : Nat) => if opn cl k = true then some k else none) 0 (List.range n)).getD n
theorem openN_spec (cl : List Int) (n : Nat) : openN cl n ≤ n ∧ (∀ j, j < openN cl n → opn cl j = false) ∧ (openN cl n < n → opn cl (openN cl n) = true) := by
  unfold openN
  cases hs : scan (fun k (_ : Nat) => if opn cl k = true then some k else none) 0 (List.range n) with
  | none =>
    refine ⟨Nat.le_refl _, fun j hj => ?_, fun h => by simp at h⟩
    have hj : j < n := hj
    have := scan_none.1 hs j (by simpa using hj)
    rw [Nat.zero_add] at this
    cases ho : opn cl j with
    | false => rfl
    | true => rw [ho, if_pos rfl] at this; cases this
  | some b =>
    obtain ⟨i, hi, h1, h2⟩ := scan_some.1 hs
    rw [Nat.zero_add] at h1
    rw [List.length_range] at hi
    cases ho : opn cl i with
    | false => rw [ho, if_neg (by simp)] at h1; cases h1
    | true =>
      rw [ho, if_pos rfl] at h1
      injection h1 with h1
      subst h1
      refine ⟨Nat.le_of_lt hi, fun j hj => ?_, fun _ => ho⟩
      have := h2 j hj
      rw [Nat.zero_add] at this
      cases hoj : opn cl j with
      | false => rfl
      | true => rw [hoj, if_pos rfl] at this; cases this
theorem openN_uniq {cl : List Int} {n v : Nat} (h1 : v ≤ n) (h2 : ∀ j, j < v → opn cl j = false) (h3 : v < n → opn cl v = true) : v = openN cl n := by
  obtain ⟨g1, g2, g3⟩ := openN_spec cl n
  rcases Nat.lt_trichotomy v (openN cl n) with h | h | h
  · have := g2 v h
    rw [h3 (by omega)] at this; cases this
  · exact h
  · have := h2 _ h
    rw [g3 (by omega)] at this; cases this
/-- the values of the variables -/
def modelF (cl : List Int) (n : Nat) : List Bool := (List.range n).map fun (v : Nat) => decide ((v : Int) + 1 ∈ cl)
theorem modelF_len (cl : List Int) (n : Nat) : (modelF cl n).length = n := by unfold modelF; simp
theorem modelF_succ (cl : List Int) (n : Nat) : modelF cl (n + 1) = modelF cl n ++ [decide ((n : Int) + 1 ∈ cl)] := by
  unfold modelF
  rw [List.range_succ, List.map_append]; rfl
def neg (D : List Int) : List Int := D.map fun x => -x
/-- one step: learnt clauses and decided literals -/
noncomputable def step (C : List (List Int)) (n : Nat) (asm : List Int) (st : List (List Int) × List Int) : (List (List Int) × List Int) ⊕ Res :=
  if failB (C ++ st.1) (asm ++ st.2) = true then
    if st.1.length = 4000 then .inr ([], [], 6)
    else if st.2 = [] then .inr ([], st.1 ++ [neg st.2], 26)
    else .inl (st.1 ++ [neg st.2], st.2.dropLast)
  else if openN (clos (C ++ st.1) (asm ++ st.2)) n < n then .inl (st.1, st.2 ++ [-(openN (clos (C ++ st.1) (asm ++ st.2)) n : Int) - 1])
  else .inr (modelF (clos (C ++ st.1) (asm ++ st.2)) n, [], 0)
inductive Runs (C : List (List Int)) (n : Nat) (asm : List Int) : List (List Int) × List Int → Res → Prop
  | stop {st : List (List Int) × List Int} {r : Res} : step C n asm st = .inr r → Runs C n asm st r
  | next {st st' : List (List Int) × List Int} {r : Res} : step C n asm st = .inl st' → Runs C n asm st' r → Runs C n asm st r
theorem Runs.det {C : List (List Int)} {n : Nat} {asm : List Int} {st : List (List Int) × List Int} {r r' : Res} (h : Runs C n asm st r) : Runs C n asm st r' → r = r' := by
  induction h with
  | stop h1 =>
    intro h
    cases h with
    | stop h2 => rw [h1] at h2; injection h2
    | next h2 _ => rw [h1] at h2; cases h2
  | next h1 _ ih =>
    intro h
    cases h with
    | stop h2 => rw [h1] at h2; cases h2
    | next h2 h3 =>
      rw [h1] at h2
      injection h2 with h2
      subst h2
      exact ih h3
/-- what every state satisfies -/
structure Good (n : Nat) (st : List (List Int) × List Int) : Prop where
  few : st.1.length ≤ 4000
  short : ∀ c ∈ st.1, c.length ≤ n
  nd : st.2.Nodup
  low : ∀ x ∈ st.2, -(n : Int) ≤ x ∧ x ≤ -1
theorem Good.len {n : Nat} {st : List (List Int) × List Int} (h : Good n st) : st.2.length ≤ n := by
  have := nodup_le h.nd (m := (List.range n).map fun (k : Nat) => -(k : Int) - 1) fun x hx => by
    have := h.low x hx
    exact List.mem_map.2 ⟨(-x - 1).toNat, List.mem_range.2 (by omega), by omega⟩
  simpa using this
theorem good_nil (n : Nat) : Good n ([], []) := ⟨by simp, fun c hc => (by cases hc), List.nodup_nil, fun x hx => (by cases hx)⟩
theorem Good.step {C : List (List Int)} {n : Nat} {asm : List Int} {st st' : List (List Int) × List Int} (h : Good n st) (hn : n ≤ 2000) (hs : step C n asm st = .inl st') : Good n st' ∧ (4000 - st'.1.length) * (n + 2) + (n - st'.2.length) < (4000 - st.1.length) * (n + 2) + (n - st.2.length) := by
  obtain ⟨L, D⟩ := st
  have hl := h.len
  have hf := h.few
  unfold Go.Proofs.Ythibbellkcdodaa.step at hs
  simp only at hs hl hf
  split at hs
  · split at hs
    · cases hs
    · rename_i h4
      split at hs
      · cases hs
      · rename_i hD
        injection hs with hs
        subst hs
        have hpos := List.length_pos_iff.2 hD
        refine ⟨⟨by simp only [List.length_append, List.length_singleton]; omega, fun c hc => ?_, ?_, fun x hx => h.low x (List.mem_of_mem_take (by rw [List.dropLast_eq_take] at hx; exact hx))⟩, ?_⟩
        · rcases List.mem_append.1 hc with hc | hc
          · exact h.short c hc
          · rw [List.mem_singleton.1 hc]
            unfold neg
            rw [List.length_map]; exact hl
        · rw [List.dropLast_eq_take]
          exact h.nd.sublist (List.take_sublist _ _)
        · simp only [List.length_append, List.length_singleton, List.length_dropLast]
          have e : 4000 - L.length = (4000 - (L.length + 1)) + 1 := by omega
          rw [e, Nat.succ_mul]
          omega
  · rename_i hnf
    split at hs
    · rename_i hv
      injection hs with hs
      subst hs
      have hop := (openN_spec (clos (C ++ L) (asm ++ D)) n).2.2 hv
      generalize hvv : openN (clos (C ++ L) (asm ++ D)) n = v at *
      unfold opn at hop
      rw [Bool.and_eq_true, decide_eq_true_eq, decide_eq_true_eq] at hop
      have hnew : -(v : Int) - 1 ∉ D := fun hm => hop.2 (mem_clos.2 (.start (List.mem_append_right _ hm) ⟨by omega, by omega, by omega⟩))
      have hg : Good n (L, D ++ [-(v : Int) - 1]) := by
        refine ⟨h.few, h.short, ?_, fun x hx => ?_⟩
        · rw [List.nodup_append]
          exact ⟨h.nd, by simp, fun a ha b hb => by rw [List.mem_singleton.1 hb]; exact fun e => hnew (e ▸ ha)⟩
        · rcases List.mem_append.1 hx with hx | hx
          · exact h.low x hx
          · rw [List.mem_singleton.1 hx]; omega
      refine ⟨hg, ?_⟩
      have := hg.len
      simp only [List.length_append, List.length_singleton] at this ⊢
      omega
    · cases hs
/-- a loop that makes the steps -/
theorem steps_loop {C : List (List Int)} {n : Nat} {asm : List Int} {l : List GClause} {body : (List GClause × List (List Int) × List Int) → Option ((List GClause × List (List Int) × List Int) ⊕ Res)} (hn : n ≤ 2000)
    (h : ∀ L D, Good n (L, D) → body (l ++ L.map mk, L, D) = some (match step C n asm (L, D) with | .inl st => .inl (l ++ st.1.map mk, st.1, st.2) | .inr r => .inr r)) :
    ∃ r, loopF body (l, [], []) = some r ∧ Runs C n asm ([], []) r := by
  refine loopF_less (fun y => ∃ L D, y = (l ++ L.map mk, L, D) ∧ Good n (L, D) ∧ ∀ r, Runs C n asm (L, D) r → Runs C n asm ([], []) r) (fun y => (4000 - y.2.1.length) * (n + 2) + (n - y.2.2.length)) ⟨[], [], by simp, good_nil n, fun _ h => h⟩ (fun y hy => ?_) ?_
  · obtain ⟨L, D, rfl, hg, hr⟩ := hy
    rw [h L D hg]
    cases hst : step C n asm (L, D) with
    | inl st =>
      obtain ⟨g1, g2⟩ := hg.step hn hst
      exact .inl ⟨_, rfl, ⟨st.1, st.2, rfl, g1, fun r h => hr r (.next hst h)⟩, g2⟩
    | inr r => exact .inr ⟨r, rfl, hr r (.stop hst)⟩
  · simp only [List.length_nil]
    have : (4000 - 0) * (n + 2) ≤ 4000 * 2002 := Nat.mul_le_mul (by omega) (by omega)
    omega
theorem ok_app {l : List GClause} {L : List (List Int)} {n : Nat} (hl : l.length ≤ 100000) (hc : ∀ c ∈ l, c.1.length ≤ 1000000) (hn : n ≤ 2000) (hL : L.length ≤ 4000) (hs : ∀ c ∈ L, c.length ≤ n) : Ok (lits (l ++ L.map mk)) := by
  refine ok_of (by simp only [List.length_append, List.length_map]; omega) fun c hm => ?_
  rcases List.mem_append.1 hm with hm | hm
  · exact hc c hm
  · obtain ⟨x, hx, rfl⟩ := List.mem_map.1 hm
    have := hs x hx
    show x.length ≤ _
    omega
/-- whether an assumed literal is none -/
def badA (n : Int) (s : List Int) : Bool := s.any (badN n)
theorem solve1_eq {n x : Int} (h : 0 ≤ n ∧ n ≤ 2000) : solve_Solve_1 x n = some (badN n x) := by
  unfold solve_Solve_1 badN
  simp only [eqZ_eq, ltZ_eq, bif_dec]
  rw [z64_in (by omega) (by omega), bind_in]
  by_cases h1 : x = 0
  · rw [if_pos h1, decide_eq_true (.inl h1)]
  · rw [if_neg h1]
    by_cases h2 : x < -n
    · rw [if_pos h2, decide_eq_true (.inr (.inl h2))]
    · rw [if_neg h2]
      congr 1
      rw [decide_eq_decide]
      omega
theorem badA_eq {n : Int} {s : List Int} (h : 0 ≤ n ∧ n ≤ 2000) (hs : s.length ≤ 1000000) : slices_ContainsFunc_int_int_v2 s n = some (badA n s) := by
  have hb : ∀ k (hk : k < s.length), slices_IndexFunc_int_int_v2.b1 s n (k : Int) = some (if badN n s[k] = true then .inr (k : Int) else .inl ((k + 1 : Nat) : Int)) := fun k hk => by
    simp only [slices_IndexFunc_int_int_v2.b1, lt_n hk, cond_true, idx_nat hk, bind_in, solve1_eq h, z64_nx hk (by omega)]
    exact bif_pick
  have he : slices_IndexFunc_int_int_v2.b1 s n (s.length : Int) = some (.inr (-1)) := by simp only [slices_IndexFunc_int_int_v2.b1, lt_e, cond_false]
  obtain ⟨i, h1, h2, _⟩ := loop_idx (body := fun x => slices_IndexFunc_int_int_v2.b1 s n x) s (badN n) hb he (by omega)
  unfold slices_ContainsFunc_int_int_v2
  rw [show slices_IndexFunc_int_int_v2 s n = some i from h1, bind_in, h2]; rfl
theorem opens_eq {cl : List Int} {n : Nat} (hn : n ≤ 2000) (hc : cl.length ≤ 1000000) (hs : cl.Pairwise (· < ·)) : solve_open cl (n : Int) = some (openN cl n : Int) := by
  obtain ⟨b, h1, v, rfl, h2, h3, h4⟩ := loopF_inv (body := fun x => solve_open.b1 cl (n : Int) x) (fun k x => x = (k : Int) ∧ ∀ j, j < k → opn cl j = false) (Q := fun b => ∃ v : Nat, b = (v : Int) ∧ v ≤ n ∧ (∀ j, j < v → opn cl j = false) ∧ (v < n → opn cl v = true)) n (x := 0) ⟨rfl, fun j h => by omega⟩
    (fun k hk x hx => by
      obtain ⟨rfl, hx⟩ := hx
      obtain ⟨i1, e1⟩ := search_eq (t := (k : Int) + 1) hc hs
      obtain ⟨i2, e2⟩ := search_eq (t := -(k : Int) - 1) hc hs
      simp only [solve_open.b1, lt_n hk, cond_true]
      rw [z64_in (by omega) (by omega), bind_in, e1, bind_in, z64_in (by omega) (by omega), bind_in, z64_in (by omega) (by omega), bind_in, e2, bind_in]
      have ho : (bif !(decide ((k : Int) + 1 ∈ cl)) then some (!decide (-(k : Int) - 1 ∈ cl)) else some false) = some (opn cl k) := by
        unfold opn
        by_cases h1 : (k : Int) + 1 ∈ cl <;> by_cases h2 : -(k : Int) - 1 ∈ cl <;> simp [h1, h2]
      simp only [ho, bind_in, solve_open.j1]
      cases hk2 : opn cl k with
      | true =>
        rw [cond_true]
        exact .inr ⟨_, rfl, k, rfl, by omega, hx, fun _ => hk2⟩
      | false =>
        rw [cond_false, z64_in (by omega) (by omega), bind_in]
        refine .inl ⟨_, rfl, by omega, fun j hj => ?_⟩
        rcases Nat.lt_or_ge j k with h | h
        · exact hx j h
        · have : j = k := by omega
          rw [this]; exact hk2)
    (fun x hx => by
      obtain ⟨rfl, hx⟩ := hx
      exact ⟨(n : Int), by simp only [solve_open.b1, lt_e, cond_false], n, rfl, Nat.le_refl _, hx, fun h => by omega⟩)
    (by omega)
  unfold solve_open
  rw [h1, openN_uniq h2 h3 h4]
theorem neg_snoc (D : List Int) (x : Int) : neg (D ++ [x]) = neg D ++ [-x] := by unfold neg; rw [List.map_append]; rfl
theorem cut_last {D : List Int} (h : D ≠ []) : cut D 0 ((D.length - 1 : Nat) : Int) = some D.dropLast := by
  have := List.length_pos_iff.2 h
  rw [cut_in (by omega) (by omega) (by omega), Int.toNat_natCast, show (0 : Int).toNat = 0 from rfl, List.drop_zero, List.dropLast_eq_take]
theorem solve_eq {l : List GClause} {n : Nat} {asm : List Int} (hn : n ≤ 2000) (hl : l.length ≤ 100000) (hc : ∀ c ∈ l, c.1.length ≤ 1000000) (has : asm.length ≤ 100000) (hr : rightF l (n : Int) = true) (hb : badA (n : Int) asm = false) :
    ∃ r, solve_Solve l (n : Int) asm = some r ∧ Runs (lits l) n asm ([], []) r := by
  unfold solve_Solve
  rw [right_eq (ok_of (by omega) hc), bind_in, hr, Bool.not_true, cond_false, badA_eq (by omega) (by omega), bind_in, bind_in, hb]
  unfold solve_Solve.j3
  rw [cond_false, cloneC_eq (by omega), bind_in]
  refine steps_loop (body := fun x => solve_Solve.b3 (n : Int) asm x.1 x.2.1 x.2.2) hn fun L D hg => ?_
  have hDl : D.length ≤ n := hg.len
  have hf : L.length ≤ 4000 := hg.few
  have hok := ok_app hl hc hn hf hg.short
  simp only [solve_Solve.b3]
  rw [concat_eq (by omega) (by omega), bind_in, prop_eq hok (by simp only [List.length_append]; omega), bind_in, lits_app]
  unfold step
  simp only
  by_cases hfail : failB (lits l ++ L) (asm ++ D) = true
  · rw [if_pos hfail]
    have hp : propF (lits l ++ L) (asm ++ D) = ([], false) := by unfold propF; rw [if_pos hfail]
    rw [hp]
    simp only [Bool.not_false, cond_true]
    rw [bif_eqZ]
    by_cases h4 : L.length = 4000
    · rw [if_pos (by omega), if_pos h4]; rfl
    · rw [if_neg (by omega), if_neg h4]
      have key : loopF (fun x => solve_Solve.b1 D x.1 x.2) (0, []) = some (neg D) := by
        refine loopF_at (body := fun x => solve_Solve.b1 D x.1 x.2) (fun k => ((k : Int), neg (D.take k))) D.length rfl (fun k hk => ?_) ?_ (by omega)
        · have hlow := hg.low _ (List.getElem_mem hk)
          simp only [solve_Solve.b1, lt_n hk, cond_true, idx_nat hk, bind_in]
          rw [z64_in (by omega) (by omega), bind_in, app_in (by unfold neg; simp; omega), bind_in, z64_nx hk (by omega), bind_in, take_snoc D k hk, neg_snoc]
        · simp only [solve_Solve.b1, lt_e, cond_false, List.take_length]
      rw [key, bind_in]
      unfold solve_Solve.j1
      rw [app_in (by simp only [List.length_singleton]; omega), bind_in, app_in (by simp only [List.length_append, List.length_map, List.length_singleton]; omega), bind_in, bif_eqZ]
      by_cases hD : D = []
      · rw [if_pos (by rw [hD]; rfl), if_pos hD]; rfl
      · have hpos := List.length_pos_iff.2 hD
        rw [if_neg (by omega), if_neg hD, z64_pred hpos (by omega), bind_in, cut_last hD, bind_in, bind_in]
        simp only [List.map_append, List.append_assoc]; rfl
  · rw [if_neg hfail]
    have hp : propF (lits l ++ L) (asm ++ D) = (clos (lits l ++ L) (asm ++ D), true) := by unfold propF; rw [if_neg hfail]
    have hcl := clos_len (lits l ++ L) (asm ++ D)
    have hcs := clos_sorted (lits l ++ L) (asm ++ D)
    rw [hp]
    generalize clos (lits l ++ L) (asm ++ D) = cl at *
    simp only [Bool.not_true, cond_false, bind_in, solve_Solve.j2]
    rw [opens_eq hn (by omega) hcs, bind_in, bif_ltZ]
    have hol := (openN_spec cl n).1
    by_cases hv : openN cl n < n
    · rw [if_pos (by omega), if_pos hv, z64_in (by omega) (by omega), bind_in, z64_in (by omega) (by omega), bind_in, app_in (by simp only [List.length_singleton]; omega), bind_in]
    · rw [if_neg (by omega), if_neg hv, msNeed_in (by omega) (by omega), bind_in]
      obtain ⟨r, h1, h2⟩ := loopF_inv (body := fun x => solve_Solve.b2 (n : Int) (true, cl) x.1 x.2) (fun k x => x.1 = (k : Int) ∧ x.2.length = n ∧ x.2.take k = modelF cl k) (Q := fun r => r = .inr (modelF cl n, [], 0)) n (x := (0, repT (n : Int) false)) ⟨rfl, by rw [repT_len]; simp, rfl⟩
        (fun k hk x hx => by
          obtain ⟨i, o⟩ := x
          obtain ⟨h1, h2, h3⟩ := hx
          simp only at h1 h2 h3
          subst h1
          obtain ⟨i1, e1⟩ := search_eq (l := cl) (t := (k : Int) + 1) (by omega) hcs
          have hko : k < o.length := by omega
          have hz1 : z64 ((k : Int) + 1) = some ((k : Int) + 1) := z64_in (by omega) (by omega)
          refine .inl ⟨(((k + 1 : Nat) : Int), o.set (k : Int).toNat (decide ((k : Int) + 1 ∈ cl))), ?_, rfl, by rw [List.length_set]; exact h2, ?_⟩
          · simp only [solve_Solve.b2, lt_n hk, cond_true, hz1, bind_in, e1, idx_nat hko]
            rfl
          · simp only
            rw [Int.toNat_natCast, take_snoc _ k (by rw [List.length_set]; omega), List.getElem_set_self, List.take_set, List.set_eq_of_length_le (by rw [List.length_take]; omega), h3, modelF_succ])
        (fun x hx => by
          obtain ⟨i, o⟩ := x
          obtain ⟨h1, h2, h3⟩ := hx
          simp only at h1 h2 h3
          subst h1
          refine ⟨.inr (o, [], 0), by simp only [solve_Solve.b2, lt_e, cond_false], ?_⟩
          rw [← h3, List.take_of_length_le (by omega)])
        (by omega)
      rw [h1, h2]
theorem solve_bad {l : List GClause} {n : Int} {asm : List Int} (hl : l.length ≤ 100000) (hc : ∀ c ∈ l, c.1.length ≤ 1000000) (has : asm.length ≤ 100000) (h : rightF l n = false ∨ badA n asm = true) : solve_Solve l n asm = some ([], [], 1) := by
  unfold solve_Solve
  rw [right_eq (ok_of (by omega) hc), bind_in]
  cases hr : rightF l n with
  | false => rw [Bool.not_false, cond_true, bind_in]; simp only [solve_Solve.j3, cond_true]
  | true =>
    have hb := h.resolve_left (by rw [hr]; simp)
    have hn := (rightF_iff.1 hr).1
    rw [Bool.not_true, cond_false, badA_eq ⟨hn.1, hn.2.1⟩ (by omega), bind_in, bind_in, hb]; simp only [solve_Solve.j3, cond_true]
end Go.Proofs.Ythibbellkcdodaa
/-
  Layer 27 (solve): the reference.
-/
namespace Go.Proofs.Ythibbellkcdodaa
open Go.Lad
set_option linter.unusedVariables false
set_option linter.unusedSimpArgs false
set_option linter.unusedSectionVars false
theorem bad_test {n x : Int} (h : 0 ≤ n ∧ n ≤ 2000) : (bif eqZ x 0 then some true else (z64 (-n)).bind fun v => bif ltZ x v then some true else some (ltZ n x)) = some (badN n x) := by
  unfold badN
  simp only [eqZ_eq, ltZ_eq, bif_dec]
  rw [z64_in (by omega) (by omega), bind_in]
  by_cases h1 : x = 0
  · rw [if_pos h1, decide_eq_true (.inl h1)]
  · rw [if_neg h1]
    by_cases h2 : x < -n
    · rw [if_pos h2, decide_eq_true (.inr (.inl h2))]
    · rw [if_neg h2]
      congr 1
      rw [decide_eq_decide]
      omega
theorem rbad_eq {n : Int} {s : List Int} (h : 0 ≤ n ∧ n ≤ 2000) (hs : s.length ≤ 1000000) : loopF (fun x => ladingref27_Solve.b1 n s x) 0 = some (if badA n s = true then .inr ([], [], 1) else .inl ()) := by
  rw [loop_any (body := fun x => ladingref27_Solve.b1 n s x) s (badN n) (.inr ([], [], 1)) (.inl ()) (fun k hk => ?_) ?_ (by omega)]
  · rfl
  · simp only [ladingref27_Solve.b1, lt_e, cond_false]
  · simp only [ladingref27_Solve.b1, lt_n hk, cond_true, idx_nat hk, bind_in, bad_test h, ladingref27_Solve.j1, z64_nx hk (by omega)]
    exact bif_pick
theorem ropens_eq {cl : List Int} {n : Nat} (hn : n ≤ 2000) (hc : cl.length ≤ 1000000) : loopF (fun x => ladingref27_Solve.b3 (n : Int) (true, cl) x) 0 = some (openN cl n : Int) := by
  obtain ⟨b, h1, v, rfl, h2, h3, h4⟩ := loopF_inv (body := fun x => ladingref27_Solve.b3 (n : Int) (true, cl) x) (fun k x => x = (k : Int) ∧ ∀ j, j < k → opn cl j = false) (Q := fun b => ∃ v : Nat, b = (v : Int) ∧ v ≤ n ∧ (∀ j, j < v → opn cl j = false) ∧ (v < n → opn cl v = true)) n (x := 0) ⟨rfl, fun j h => by omega⟩
    (fun k hk x hx => by
      obtain ⟨rfl, hx⟩ := hx
      simp only [ladingref27_Solve.b3, lt_n hk, cond_true]
      rw [z64_in (by omega) (by omega), bind_in, has_eq hc, bind_in, z64_in (by omega) (by omega), bind_in, z64_in (by omega) (by omega), bind_in, has_eq hc, bind_in]
      have ho : (bif decide ((k : Int) + 1 ∈ cl) then some true else some (decide (-(k : Int) - 1 ∈ cl))) = some (!opn cl k) := by
        unfold opn
        by_cases h1 : (k : Int) + 1 ∈ cl <;> by_cases h2 : -(k : Int) - 1 ∈ cl <;> simp [h1, h2]
      rw [ho, bind_in]
      simp only [ladingref27_Solve.j3]
      cases hk2 : opn cl k with
      | true =>
        rw [Bool.not_true, cond_false]
        exact .inr ⟨_, rfl, k, rfl, by omega, hx, fun _ => hk2⟩
      | false =>
        rw [Bool.not_false, cond_true, z64_in (by omega) (by omega), bind_in]
        refine .inl ⟨_, rfl, by omega, fun j hj => ?_⟩
        rcases Nat.lt_or_ge j k with h | h
        · exact hx j h
        · have : j = k := by omega
          rw [this]; exact hk2)
    (fun x hx => by
      obtain ⟨rfl, hx⟩ := hx
      exact ⟨(n : Int), by simp only [ladingref27_Solve.b3, lt_e, cond_false, bind_in, ladingref27_Solve.j3], n, rfl, Nat.le_refl _, hx, fun h => by omega⟩)
    (by omega)
  rw [h1, openN_uniq h2 h3 h4]
theorem rsolve_eq {l : List GClause} {n : Nat} {asm : List Int} (hn : n ≤ 2000) (hl : l.length ≤ 100000) (hc : ∀ c ∈ l, c.1.length ≤ 1000000) (has : asm.length ≤ 100000) (hr : rightF l (n : Int) = true) (hb : badA (n : Int) asm = false) :
    ∃ r, ladingref27_Solve l (n : Int) asm = some r ∧ Runs (lits l) n asm ([], []) r := by
  unfold ladingref27_Solve
  rw [rright_eq (ok_of (by omega) hc), bind_in, hr, Bool.not_true, cond_false, rbad_eq (by omega) (by omega), hb, if_neg (by simp), bind_in]
  show ∃ r, ladingref27_Solve.j6 l (n : Int) asm = some r ∧ _
  unfold ladingref27_Solve.j6
  rw [app_in (by simp only [List.length_nil]; omega), bind_in, List.nil_append]
  refine steps_loop (body := fun x => ladingref27_Solve.b5 (n : Int) asm x.1 x.2.1 x.2.2) hn fun L D hg => ?_
  have hDl : D.length ≤ n := hg.len
  have hf : L.length ≤ 4000 := hg.few
  have hok := ok_app hl hc hn hf hg.short
  simp only [ladingref27_Solve.b5]
  rw [app_in (by simp only [List.length_nil]; omega), bind_in, List.nil_append, app_in (by omega), bind_in, rprop_eq hok (by simp only [List.length_append]; omega), bind_in, lits_app]
  unfold step
  simp only
  by_cases hfail : failB (lits l ++ L) (asm ++ D) = true
  · rw [if_pos hfail]
    have hp : propF (lits l ++ L) (asm ++ D) = ([], false) := by unfold propF; rw [if_pos hfail]
    rw [hp]
    simp only [Bool.not_false, cond_true]
    have key : loopF (fun x => ladingref27_Solve.b2 D x.1 x.2) (0, []) = some (neg D) := by
      refine loopF_at (body := fun x => ladingref27_Solve.b2 D x.1 x.2) (fun k => ((k : Int), neg (D.take k))) D.length rfl (fun k hk => ?_) ?_ (by omega)
      · have hlow := hg.low _ (List.getElem_mem hk)
        simp only [ladingref27_Solve.b2, lt_n hk, cond_true, idx_nat hk, bind_in]
        rw [z64_in (by omega) (by omega), bind_in, app_in (by unfold neg; simp; omega), bind_in, z64_nx hk (by omega), bind_in, take_snoc D k hk, neg_snoc]
      · simp only [ladingref27_Solve.b2, lt_e, cond_false, List.take_length]
    rw [key, bind_in]
    unfold ladingref27_Solve.j2
    rw [app_in (by simp only [List.length_singleton]; omega), bind_in, app_in (by simp only [List.length_append, List.length_map, List.length_singleton]; omega), bind_in, bif_ltZ]
    by_cases h4 : L.length = 4000
    · rw [if_pos (by simp only [List.length_append, List.length_singleton]; omega), if_pos h4]; rfl
    · rw [if_neg (by simp only [List.length_append, List.length_singleton]; omega), if_neg h4, bif_eqZ]
      by_cases hD : D = []
      · rw [if_pos (by rw [hD]; rfl), if_pos hD]; rfl
      · have hpos := List.length_pos_iff.2 hD
        rw [if_neg (by omega), if_neg hD, z64_pred hpos (by omega), bind_in, cut_last hD, bind_in, bind_in]
        simp only [List.map_append, List.append_assoc]; rfl
  · rw [if_neg hfail]
    have hp : propF (lits l ++ L) (asm ++ D) = (clos (lits l ++ L) (asm ++ D), true) := by unfold propF; rw [if_neg hfail]
    have hcl := clos_len (lits l ++ L) (asm ++ D)
    rw [hp]
    generalize clos (lits l ++ L) (asm ++ D) = cl at *
    simp only [Bool.not_true, cond_false, bind_in, ladingref27_Solve.j5]
    rw [ropens_eq hn (by omega), bind_in]
    unfold ladingref27_Solve.j4
    rw [bif_ltZ]
    have hol := (openN_spec cl n).1
    by_cases hv : openN cl n < n
    · rw [if_pos (by omega), if_pos hv, z64_in (by omega) (by omega), bind_in, z64_in (by omega) (by omega), bind_in, app_in (by simp only [List.length_singleton]; omega), bind_in]
    · rw [if_neg (by omega), if_neg hv, msNeed_in (by omega) (by omega), bind_in]
      obtain ⟨r, h1, h2⟩ := loopF_inv (body := fun x => ladingref27_Solve.b4 (n : Int) (true, cl) x.1 x.2) (fun k x => x.1 = (k : Int) ∧ x.2.length = n ∧ x.2.take k = modelF cl k) (Q := fun r => r = .inr (modelF cl n, [], 0)) n (x := (0, repT (n : Int) false)) ⟨rfl, by rw [repT_len]; simp, rfl⟩
        (fun k hk x hx => by
          obtain ⟨i, o⟩ := x
          obtain ⟨h1, h2, h3⟩ := hx
          simp only at h1 h2 h3
          subst h1
          have hko : k < o.length := by omega
          have hz1 : z64 ((k : Int) + 1) = some ((k : Int) + 1) := z64_in (by omega) (by omega)
          refine .inl ⟨(((k + 1 : Nat) : Int), o.set (k : Int).toNat (decide ((k : Int) + 1 ∈ cl))), ?_, rfl, by rw [List.length_set]; exact h2, ?_⟩
          · simp only [ladingref27_Solve.b4, lt_n hk, cond_true, hz1, bind_in, has_eq (show cl.length ≤ 1000000 by omega), idx_nat hko]
            rfl
          · simp only
            rw [Int.toNat_natCast, take_snoc _ k (by rw [List.length_set]; omega), List.getElem_set_self, List.take_set, List.set_eq_of_length_le (by rw [List.length_take]; omega), h3, modelF_succ])
        (fun x hx => by
          obtain ⟨i, o⟩ := x
          obtain ⟨h1, h2, h3⟩ := hx
          simp only at h1 h2 h3
          subst h1
          refine ⟨.inr (o, [], 0), by simp only [ladingref27_Solve.b4, lt_e, cond_false], ?_⟩
          rw [← h3, List.take_of_length_le (by omega)])
        (by omega)
      rw [h1, h2]
theorem rsolve_bad {l : List GClause} {n : Int} {asm : List Int} (hl : l.length ≤ 100000) (hc : ∀ c ∈ l, c.1.length ≤ 1000000) (has : asm.length ≤ 100000) (h : rightF l n = false ∨ badA n asm = true) : ladingref27_Solve l n asm = some ([], [], 1) := by
  unfold ladingref27_Solve
  rw [rright_eq (ok_of (by omega) hc), bind_in]
  cases hr : rightF l n with
  | false => rw [Bool.not_false, cond_true]
  | true =>
    have hb := h.resolve_left (by rw [hr]; simp)
    have hn := (rightF_iff.1 hr).1
    rw [Bool.not_true, cond_false, rbad_eq ⟨hn.1, hn.2.1⟩ (by omega), hb, if_pos rfl, bind_in]
/-! ### the results -/
theorem Good.res {C : List (List Int)} {n : Nat} {asm : List Int} {st : List (List Int) × List Int} {r : Res} (h : Good n st) (hn : n ≤ 2000) (hr : Runs C n asm st r) : r.1.length ≤ n ∧ r.2.1.length ≤ 4000 ∧ ∀ c ∈ r.2.1, c.length ≤ n := by
  induction hr with
  | stop hs =>
    rename_i st r
    obtain ⟨L, D⟩ := st
    have hl := h.len
    have hf := h.few
    unfold Go.Proofs.Ythibbellkcdodaa.step at hs
    simp only at hs hl hf
    split at hs
    · split at hs
      · injection hs with hs; subst hs; exact ⟨by simp, by simp, fun c hc => by cases hc⟩
      · rename_i h4
        split at hs
        · injection hs with hs; subst hs
          refine ⟨by simp, by simp only [List.length_append, List.length_singleton]; omega, fun c hc => ?_⟩
          rcases List.mem_append.1 hc with hc | hc
          · exact h.short c hc
          · rw [List.mem_singleton.1 hc]; unfold neg; rw [List.length_map]; exact hl
        · cases hs
    · split at hs
      · cases hs
      · injection hs with hs; subst hs
        exact ⟨by rw [modelF_len]; exact Nat.le_refl _, by simp, fun c hc => by cases hc⟩
  | next hs _ ih => exact ih (h.step hn hs).1
/-- the code returns what the reference returns -/
theorem solve_both {l : List GClause} {n : Int} {asm : List Int} (hl : l.length ≤ 100000) (hc : ∀ c ∈ l, c.1.length ≤ 1000000) (has : asm.length ≤ 100000) : ∃ r, solve_Solve l n asm = some r ∧ ladingref27_Solve l n asm = some r ∧ r.1.length ≤ 2000 ∧ r.2.1.length ≤ 4000 ∧ ∀ c ∈ r.2.1, c.length ≤ 2000 := by
  cases hr : rightF l n with
  | false => exact ⟨_, solve_bad hl hc has (.inl hr), rsolve_bad hl hc has (.inl hr), by simp, by simp, fun c hc => by cases hc⟩
  | true =>
    cases hb : badA n asm with
    | true => exact ⟨_, solve_bad hl hc has (.inr hb), rsolve_bad hl hc has (.inr hb), by simp, by simp, fun c hc => by cases hc⟩
    | false =>
      have hn := (rightF_iff.1 hr).1
      obtain ⟨N, rfl⟩ : ∃ N : Nat, n = N := ⟨n.toNat, by omega⟩
      have hN : N ≤ 2000 := by omega
      obtain ⟨r, h1, h2⟩ := solve_eq hN hl hc has hr hb
      obtain ⟨r', h3, h4⟩ := rsolve_eq hN hl hc has hr hb
      have := h4.det h2
      subst this
      have h5 := (good_nil N).res hN h2
      exact ⟨_, h1, h3, by omega, h5.2.1, fun c hc => by have := h5.2.2 c hc; omega⟩
end Go.Proofs.Ythibbellkcdodaa
