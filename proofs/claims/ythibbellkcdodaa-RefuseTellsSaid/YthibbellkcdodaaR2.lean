/-
  Layer 30 (refuse): Facts and Check, of the code and of the reference, as plain functions.
-/
import Derived.Test.YthibbellkcdodaaR1
namespace Go.Proofs.Ythibbellkcdodaa
open Go.Lad
set_option linter.unusedVariables false
set_option linter.unusedSimpArgs false
set_option linter.unusedSectionVars false
/-! ### Facts -/
def factOf (l : List GClause) (i : Int) : Option Int := if 0 ≤ i ∧ i < (l.length : Int) ∧ 0 ≤ (l.getD i.toNat dfl).2.2.1 then some (l.getD i.toNat dfl).2.2.1 else none
def rawF (l : List GClause) (core : List Int) : List Int := core.filterMap (factOf l)
theorem raw_snoc (l : List GClause) (c : List Int) (x : Int) : rawF l (c ++ [x]) = rawF l c ++ (factOf l x).toList := by
  unfold rawF
  rw [List.filterMap_append]
  congr 1
theorem raw_len (l : List GClause) (c : List Int) : (rawF l c).length ≤ c.length := List.length_filterMap_le _ _
def factsF (l : List GClause) (core : List Int) : List Int := Lib.compact ((rawF l core).mergeSort fun x y => decide (x ≤ y))
/-- what is compacted of an ascending list -/
theorem compact_asc {l : List Int} (h : l.Pairwise (· ≤ ·)) : ∀ m, m ≤ l.length → (Lib.compactUpTo l.toArray m).Pairwise (· < ·) ∧ (∀ x, x ∈ Lib.compactUpTo l.toArray m ↔ x ∈ l.take m)
  | 0, _ => by simp [Lib.compactUpTo]
  | m + 1, hm => by
    obtain ⟨h1, h2⟩ := compact_asc h m (by omega)
    have hml : m < l.length := by omega
    have hd : l.toArray[m]! = l[m] := by simp [hml]
    rw [Lib.compactUpTo_succ, hd]
    have hle : ∀ x ∈ l.take m, x ≤ l[m] := fun x hx => by
      obtain ⟨i, hi, rfl⟩ := List.mem_iff_getElem.1 hx
      rw [List.length_take] at hi
      rw [List.getElem_take]
      exact List.pairwise_iff_getElem.1 h i m (by omega) hml (by omega)
    cases hk : Lib.keeps l.toArray m with
    | true =>
      rw [if_pos rfl]
      refine ⟨List.pairwise_append.2 ⟨h1, by simp, fun x hx y hy => ?_⟩, fun x => ?_⟩
      · rw [List.mem_singleton.1 hy]
        have hxt := (h2 x).1 hx
        have hne : x ≠ l[m] := fun e => by
          subst e
          unfold Lib.keeps at hk
          rw [decide_eq_true_eq] at hk
          rcases hk with hk | hk
          · subst hk; simp at hxt
          · obtain ⟨i, hi, hie⟩ := List.mem_iff_getElem.1 hxt
            rw [List.length_take] at hi
            rw [List.getElem_take] at hie
            have hpm : m - 1 < l.length := by omega
            have hd2 : l.toArray[m - 1]! = l[m - 1] := by simp [hpm]
            rw [hd, hd2] at hk
            have h3 : l[i] ≤ l[m - 1] := by
              rcases Nat.lt_or_ge i (m - 1) with h5 | h5
              · exact List.pairwise_iff_getElem.1 h i (m - 1) (by omega) hpm h5
              · have : i = m - 1 := by omega
                subst this; exact Int.le_refl _
            have h4 := List.pairwise_iff_getElem.1 h (m - 1) m hpm hml (by omega)
            omega
        have := hle x hxt
        omega
      · rw [List.mem_append, h2, take_snoc l m hml, List.mem_append]
    | false =>
      rw [if_neg (by simp), List.append_nil]
      refine ⟨h1, fun x => ?_⟩
      rw [h2, take_snoc l m hml, List.mem_append, List.mem_singleton]
      refine ⟨.inl, fun hx => hx.elim id fun e => ?_⟩
      subst e
      unfold Lib.keeps at hk
      rw [decide_eq_false_iff_not] at hk
      have hm0 : m ≠ 0 := fun e => hk (.inl e)
      have he : l.toArray[m]! = l.toArray[m - 1]! := Classical.byContradiction fun e => hk (.inr e)
      have hpm : m - 1 < l.length := by omega
      have hd2 : l.toArray[m - 1]! = l[m - 1] := by simp [hpm]
      rw [hd, hd2] at he
      rw [he]
      exact List.mem_iff_getElem.2 ⟨m - 1, by rw [List.length_take]; omega, by rw [List.getElem_take]⟩
theorem facts_spec (l : List GClause) (core : List Int) : (factsF l core).Pairwise (· < ·) ∧ ∀ x, x ∈ factsF l core ↔ x ∈ rawF l core := by
  have hs : ((rawF l core).mergeSort fun x y => decide (x ≤ y)).Pairwise (· ≤ ·) := by
    have := List.pairwise_mergeSort (le := fun x y : Int => decide (x ≤ y)) (fun a b c h1 h2 => by simp only [decide_eq_true_eq] at *; omega) (fun a b => by simp only [Bool.or_eq_true, decide_eq_true_eq]; omega) (rawF l core)
    exact this.imp fun h => by simpa using h
  obtain ⟨h1, h2⟩ := compact_asc hs _ (Nat.le_refl _)
  refine ⟨h1, fun x => (h2 x).trans ?_⟩
  rw [List.take_length]
  exact (List.mergeSort_perm _ _).mem_iff
theorem facts_len (l : List GClause) (core : List Int) : (factsF l core).length ≤ core.length := by
  have h1 := compact_len ((rawF l core).mergeSort fun x y => decide (x ≤ y))
  rw [List.length_mergeSort] at h1
  exact Nat.le_trans h1 (raw_len l core)
theorem facts_eq {l : List GClause} {core : List Int} (hl : l.length ≤ 1000000) (hc : core.length ≤ 1000000) : refuse_Facts l core = some (factsF l core) := by
  unfold refuse_Facts
  have key : loopF (fun x => refuse_Facts.b1 l core x.1 x.2) (0, []) = some (rawF l core) := by
    refine loopF_at (body := fun x => refuse_Facts.b1 l core x.1 x.2) (fun k => ((k : Int), rawF l (core.take k))) core.length rfl (fun k hk => ?_) ?_ (by omega)
    · have hrl := raw_len l (core.take k)
      rw [List.length_take] at hrl
      simp only [refuse_Facts.b1, lt_n hk, cond_true, idx_nat hk, bind_in, leZ_eq, ltZ_eq]
      rw [take_snoc core k hk, raw_snoc]
      unfold refuse_Facts.j1 factOf
      by_cases h1 : 0 ≤ core[k]
      · rw [decide_eq_true h1, cond_true]
        by_cases h2 : core[k] < (l.length : Int)
        · rw [decide_eq_true h2, cond_true, idx_valid ⟨h1, h2⟩, bind_in, bind_in]
          by_cases h3 : 0 ≤ (l.getD core[k].toNat dfl).2.2.1
          · rw [decide_eq_true h3, cond_true, if_pos ⟨h1, h2, h3⟩, bind_in, app_in (by simp only [List.length_singleton]; omega), bind_in, z64_nx hk (by omega), bind_in]; rfl
          · rw [decide_eq_false h3, cond_false, if_neg (fun h => h3 h.2.2), z64_nx hk (by omega), bind_in]; simp
        · rw [decide_eq_false h2, cond_false, bind_in, cond_false, if_neg (fun h => h2 h.2.1), z64_nx hk (by omega), bind_in]; simp
      · rw [decide_eq_false h1, cond_false, bind_in, cond_false, if_neg (fun h => h1 h.1), z64_nx hk (by omega), bind_in]; simp
    · simp only [refuse_Facts.b1, lt_e, cond_false, List.take_length]
  rw [key, bind_in]
  unfold refuse_Facts.j2
  have hrl := raw_len l core
  have e1 : slices_Sort_int (rawF l core) = some ((rawF l core).mergeSort fun x y => decide (x ≤ y)) := by
    unfold slices_Sort_int sortF
    rw [bleN, decide_eq_true (by omega)]; rfl
  have e2 : slices_Compact_int ((rawF l core).mergeSort fun x y => decide (x ≤ y)) = some (factsF l core) := by
    unfold slices_Compact_int compF
    rw [bleN, List.length_mergeSort, decide_eq_true (by omega)]; rfl
  rw [e1, bind_in, e2, bind_in]
/-- a number put into an ascending list -/
theorem put_asc {o : List Int} {n : Int} {j : Nat} (hp : o.Pairwise (· < ·)) (hj : j ≤ o.length) (h1 : ∀ i (hi : i < o.length), i < j → o[i] < n) (h2 : ∀ (h : j < o.length), n ≤ o[j]) {d : Nat} (hd : d = j ∧ (∀ (h : j < o.length), o[j] ≠ n) ∨ d = j + 1 ∧ ∃ (h : j < o.length), o[j] = n) :
    (o.take j ++ [n] ++ o.drop d).Pairwise (· < ·) ∧ ∀ y, y ∈ o.take j ++ [n] ++ o.drop d ↔ y ∈ o ∨ y = n := by
  have hdj : j ≤ d := by rcases hd with h | h <;> omega
  have hlo : ∀ y ∈ o.take j, y < n := fun y hy => by
    obtain ⟨i, hi, rfl⟩ := List.mem_iff_getElem.1 hy
    rw [List.length_take] at hi
    rw [List.getElem_take]
    exact h1 i (by omega) (by omega)
  have hhi : ∀ y ∈ o.drop d, n < y := fun y hy => by
    obtain ⟨i, hi, rfl⟩ := List.mem_iff_getElem.1 hy
    rw [List.length_drop] at hi
    rw [List.getElem_drop]
    have hjo : j < o.length := by omega
    have h3 := h2 hjo
    rcases hd with ⟨rfl, h⟩ | ⟨rfl, hj2, he⟩
    · have h4 := h hjo
      rcases Nat.eq_zero_or_pos i with h5 | h5
      · subst h5
        simp only [Nat.add_zero]
        omega
      · have := List.pairwise_iff_getElem.1 hp d (d + i) hjo (by omega) (by omega)
        omega
    · have := List.pairwise_iff_getElem.1 hp j (j + 1 + i) hjo (by omega) (by omega)
      omega
  constructor
  · rw [List.append_assoc, List.pairwise_append]
    refine ⟨hp.sublist (List.take_sublist _ _), ?_, fun x hx y hy => ?_⟩
    · rw [List.singleton_append, List.pairwise_cons]
      exact ⟨hhi, hp.sublist (List.drop_sublist _ _)⟩
    · have hx := hlo x hx
      rw [List.singleton_append] at hy
      rcases List.mem_cons.1 hy with rfl | hy
      · exact hx
      · have := hhi y hy; omega
  · intro y
    rw [List.mem_append, List.mem_append, List.mem_singleton]
    constructor
    · rintro ((h | h) | h)
      · exact .inl (List.mem_of_mem_take h)
      · exact .inr h
      · exact .inl (List.mem_of_mem_drop h)
    · rintro (h | h)
      · rw [← List.take_append_drop j o] at h
        rcases List.mem_append.1 h with h | h
        · exact .inl (.inl h)
        · rcases hd with ⟨rfl, _⟩ | ⟨rfl, hj2, he⟩
          · exact .inr h
          · rw [List.drop_eq_getElem_cons hj2] at h
            rcases List.mem_cons.1 h with rfl | h
            · exact .inl (.inr he)
            · exact .inr h
      · exact .inl (.inr h)
theorem rfacts_eq {l : List GClause} {core : List Int} (hl : l.length ≤ 1000000) (hc : core.length ≤ 1000000) : ladingref30_Facts l core = some (factsF l core) := by
  unfold ladingref30_Facts
  obtain ⟨r, g1, g2⟩ := loopF_inv (body := fun x => ladingref30_Facts.b2 l core x.1 x.2) (fun k x => ∃ o : List Int, x = (o, (k : Int)) ∧ o.Pairwise (· < ·) ∧ (∀ y, y ∈ o ↔ y ∈ rawF l (core.take k)) ∧ o.length ≤ k) (Q := fun r => r.Pairwise (· < ·) ∧ ∀ y, y ∈ r ↔ y ∈ rawF l core) core.length (x := ([], 0))
    ⟨[], rfl, .nil, fun y => by simp [rawF], by simp⟩
    (fun k hk x hx => by
      obtain ⟨o, rfl, o1, o2, o3⟩ := hx
      simp only [ladingref30_Facts.b2, lt_n hk, cond_true, idx_nat hk, bind_in, ltZ_eq, leZ_eq]
      rw [take_snoc core k hk]
      simp only [raw_snoc]
      unfold ladingref30_Facts.j4 factOf
      have skip : ∀ (h : ¬ (0 ≤ core[k] ∧ core[k] < (l.length : Int) ∧ 0 ≤ (l.getD core[k].toNat dfl).2.2.1)), ∃ o' : List Int, ((o, ((k + 1 : Nat) : Int)) : List Int × Int) = (o', ((k + 1 : Nat) : Int)) ∧ o'.Pairwise (· < ·) ∧ (∀ y, y ∈ o' ↔ y ∈ rawF l (core.take k) ++ (if 0 ≤ core[k] ∧ core[k] < (l.length : Int) ∧ 0 ≤ (l.getD core[k].toNat dfl).2.2.1 then some (l.getD core[k].toNat dfl).2.2.1 else none).toList) ∧ o'.length ≤ k + 1 := fun h => by
        rw [if_neg h]
        exact ⟨o, rfl, o1, fun y => by simp [o2], by omega⟩
      by_cases h1 : core[k] < 0
      · rw [decide_eq_true h1, cond_true, bind_in, cond_true, z64_nx hk (by omega), bind_in]
        exact .inl ⟨_, rfl, skip fun h => by omega⟩
      rw [decide_eq_false h1, cond_false]
      by_cases h2 : (l.length : Int) ≤ core[k]
      · rw [decide_eq_true h2, cond_true, bind_in, cond_true, z64_nx hk (by omega), bind_in]
        exact .inl ⟨_, rfl, skip fun h => by omega⟩
      rw [decide_eq_false h2, cond_false, idx_valid ⟨by omega, by omega⟩, bind_in, bind_in]
      by_cases h3 : (l.getD core[k].toNat dfl).2.2.1 < 0
      · rw [decide_eq_true h3, cond_true, z64_nx hk (by omega), bind_in]
        exact .inl ⟨_, rfl, skip fun h => by omega⟩
      rw [decide_eq_false h3, cond_false, idx_nat hk, bind_in, idx_valid ⟨by omega, by omega⟩, bind_in, if_pos ⟨by omega, by omega, by omega⟩]
      generalize hcl : l.getD core[k].toNat dfl = cl at *
      obtain ⟨q, q1, j, rfl, q2, q3, q4⟩ := loopF_inv (body := fun x => ladingref30_Facts.b1 o cl x.1 x.2) (fun j x => x = ((j : Int), o.take j) ∧ ∀ i (hi : i < o.length), i < j → o[i] < cl.2.2.1) (Q := fun q => ∃ j : Nat, q = ((j : Int), o.take j) ∧ j ≤ o.length ∧ (∀ i (hi : i < o.length), i < j → o[i] < cl.2.2.1) ∧ ∀ (h : j < o.length), cl.2.2.1 ≤ o[j]) o.length (x := (0, []))
        ⟨by simp, fun i hi h => by omega⟩
        (fun j hj x hx => by
          obtain ⟨rfl, hx⟩ := hx
          simp only [ladingref30_Facts.b1, lt_n hj, cond_true, idx_nat hj, bind_in, ltZ_eq]
          unfold ladingref30_Facts.j1
          by_cases h : o[j] < cl.2.2.1
          · rw [decide_eq_true h, cond_true, idx_nat hj, bind_in, app_in (by rw [List.length_take]; simp only [List.length_singleton]; omega), bind_in, z64_nx hj (by omega), bind_in]
            refine .inl ⟨_, rfl, by rw [take_snoc o j hj], fun i hi hij => ?_⟩
            rcases Nat.lt_or_ge i j with h5 | h5
            · exact hx i hi h5
            · have : i = j := by omega
              subst this; exact h
          · rw [decide_eq_false h, cond_false]
            exact .inr ⟨_, rfl, j, rfl, by omega, hx, fun _ => by omega⟩)
        (fun x hx => by
          obtain ⟨rfl, hx⟩ := hx
          refine ⟨_, ?_, o.length, rfl, Nat.le_refl _, hx, fun h => by omega⟩
          simp only [ladingref30_Facts.b1, lt_e, cond_false, bind_in, ladingref30_Facts.j1])
        (by omega)
      rw [q1, bind_in]
      unfold ladingref30_Facts.j3
      rw [app_in (by rw [List.length_take]; simp only [List.length_singleton]; omega), bind_in]
      have fin : ∀ d, d ≤ o.length → (d = j ∧ (∀ (h : j < o.length), o[j] ≠ cl.2.2.1) ∨ d = j + 1 ∧ ∃ (h : j < o.length), o[j] = cl.2.2.1) → ∃ o' : List Int, ((o.take j ++ [cl.2.2.1] ++ o.drop d, ((k + 1 : Nat) : Int)) : List Int × Int) = (o', ((k + 1 : Nat) : Int)) ∧ o'.Pairwise (· < ·) ∧ (∀ y, y ∈ o' ↔ y ∈ rawF l (core.take k) ++ (some cl.2.2.1).toList) ∧ o'.length ≤ k + 1 := fun d hdl hd => by
        obtain ⟨w1, w2⟩ := put_asc o1 q2 q3 q4 hd
        refine ⟨_, rfl, w1, fun y => ?_, ?_⟩
        · rw [w2, o2]; simp
        · simp only [List.length_append, List.length_take, List.length_drop, List.length_singleton]
          rcases hd with ⟨h, _⟩ | ⟨h, _⟩ <;> omega
      by_cases hjl : j < o.length
      · rw [lt_n hjl, cond_true, idx_nat hjl, bind_in, eqZ_eq]
        unfold ladingref30_Facts.j2
        by_cases he : o[j] = cl.2.2.1
        · rw [decide_eq_true he, bind_in, cond_true, z64_nx hjl (by omega), bind_in, cut_in (by omega) (by omega) (by omega), bind_in, Int.toNat_natCast, Int.toNat_natCast, List.take_length, app_in (by simp only [List.length_append, List.length_take, List.length_drop, List.length_singleton]; omega), bind_in, z64_nx hk (by omega), bind_in]
          exact .inl ⟨_, rfl, fin (j + 1) (by omega) (.inr ⟨rfl, hjl, he⟩)⟩
        · rw [decide_eq_false he, bind_in, cond_false, cut_in (by omega) (by omega) (by omega), bind_in, Int.toNat_natCast, Int.toNat_natCast, List.take_length, app_in (by simp only [List.length_append, List.length_take, List.length_drop, List.length_singleton]; omega), bind_in, z64_nx hk (by omega), bind_in]
          exact .inl ⟨_, rfl, fin j (by omega) (.inl ⟨rfl, fun _ => he⟩)⟩
      · have hje : j = o.length := by omega
        unfold ladingref30_Facts.j2
        rw [hje, lt_e, cond_false, bind_in, cond_false, cut_in (by omega) (by omega) (by omega), bind_in, Int.toNat_natCast, List.take_length, app_in (by simp only [List.length_append, List.length_drop, List.length_singleton]; omega), bind_in, z64_nx hk (by omega), bind_in]
        have := fin o.length (Nat.le_refl _) (.inl ⟨hje.symm, fun h => by omega⟩)
        rw [hje, List.take_length] at this
        exact .inl ⟨_, rfl, this⟩)
    (fun x hx => by
      obtain ⟨o, rfl, o1, o2, o3⟩ := hx
      rw [List.take_length] at o2
      exact ⟨o, by simp only [ladingref30_Facts.b2, lt_e, cond_false], o1, o2⟩)
    (by omega)
  rw [g1]
  obtain ⟨s1, s2⟩ := facts_spec l core
  rw [sorted_ext g2.1 s1 fun x => (g2.2 x).trans (s2 x).symm]
/-! ### Check -/
def ascB (n : Int) : Int → List Int → Bool
  | _, [] => true
  | s, i :: r => !(decide (i ≤ s ∨ n ≤ i)) && ascB n i r
theorem ascB_iff {n : Int} : ∀ {s : Int} {c : List Int}, ascB n s c = true ↔ (∀ x ∈ c, s < x ∧ x < n) ∧ c.Pairwise (· < ·)
  | s, [] => by simp [ascB]
  | s, i :: r => by
    unfold ascB
    rw [Bool.and_eq_true, ascB_iff, List.pairwise_cons]
    simp only [Bool.not_eq_true', decide_eq_false_iff_not, List.mem_cons, forall_eq_or_imp]
    constructor
    · rintro ⟨h1, h2, h3⟩
      exact ⟨⟨by omega, fun x hx => by have := h2 x hx; omega⟩, fun x hx => (h2 x hx).1, h3⟩
    · rintro ⟨⟨h1, h2⟩, h3, h4⟩
      exact ⟨by omega, fun x hx => ⟨h3 x hx, (h2 x hx).2⟩, h4⟩
theorem asc_valid {l : List GClause} {c : List Int} (h : ascB (l.length : Int) (-1) c = true) : Valid l c := fun i hi => by
  have := (ascB_iff.1 h).1 i hi
  omega
theorem asc_run (n : Int) : ∀ (c : List Int) (k : Nat) (s : Int), runI (fun _ s x => if x ≤ s ∨ n ≤ x then .inr (.inr 1 : Unit ⊕ Int) else .inl x) (fun _ => .inl ()) k s c = if ascB n s c = true then .inl () else .inr 1
  | [], _, _ => rfl
  | i :: r, k, s => by
    unfold runI ascB
    by_cases h : i ≤ s ∨ n ≤ i
    · rw [if_pos h, decide_eq_true h]; rfl
    · rw [if_neg h, decide_eq_false h]
      simp only [Bool.not_false, Bool.true_and]
      exact asc_run n r (k + 1) i
theorem asc_loop {l : List GClause} {r : Ref} (hc : r.1.length ≤ 1000000) : loopF (fun x => refuse_Check.b1 l r x.1 x.2) ((-1), 0) = some (if ascB (l.length : Int) (-1) r.1 = true then .inl () else .inr 1) := by
  rw [← asc_run (l.length : Int) r.1 0 (-1)]
  exact loop_run (body := fun x => refuse_Check.b1 l r x.1 x.2) (fun k s => (s, (k : Int))) r.1 _ _ (fun _ _ => True) (fun _ _ _ _ _ _ => trivial)
    (fun k hk s _ => by
      simp only [refuse_Check.b1, lt_n hk, cond_true, idx_nat hk, bind_in, leZ_eq]
      unfold refuse_Check.j1
      by_cases h1 : r.1[k] ≤ s
      · rw [decide_eq_true h1, cond_true, bind_in, cond_true, if_pos (.inl h1)]
      · rw [decide_eq_false h1, cond_false, bind_in]
        by_cases h2 : (l.length : Int) ≤ r.1[k]
        · rw [decide_eq_true h2, cond_true, if_pos (.inr h2)]
        · rw [decide_eq_false h2, cond_false, if_neg (fun h => h.elim h1 h2), z64_nx hk (by omega), bind_in])
    (fun s _ => by simp only [refuse_Check.b1, lt_e, cond_false]) (by omega) trivial
theorem asc_snoc {n : Int} {c : List Int} {x : Int} : ascB n (-1) (c ++ [x]) = true ↔ ascB n (-1) c = true ∧ 0 ≤ x ∧ x < n ∧ ∀ y ∈ c, y < x := by
  rw [ascB_iff, ascB_iff, List.pairwise_append]
  simp only [List.mem_append, List.mem_singleton]
  constructor
  · rintro ⟨h1, h2, _, h3⟩
    have := h1 x (.inr rfl)
    exact ⟨⟨fun y hy => h1 y (.inl hy), h2⟩, by omega, this.2, fun y hy => h3 y hy x rfl⟩
  · rintro ⟨⟨h1, h2⟩, h3, h4, h5⟩
    refine ⟨fun y hy => ?_, h2, by simp, fun y hy z hz => by rw [hz]; exact h5 y hy⟩
    rcases hy with hy | rfl
    · exact h1 y hy
    · omega
theorem asc_take {n : Int} {c : List Int} {k : Nat} (h : ascB n (-1) c = true) : ascB n (-1) (c.take k) = true := by
  obtain ⟨h1, h2⟩ := ascB_iff.1 h
  exact ascB_iff.2 ⟨fun x hx => h1 x (List.mem_of_mem_take hx), h2.sublist (List.take_sublist _ _)⟩
theorem rasc_loop {l : List GClause} {r : Ref} (hc : r.1.length ≤ 1000000) : loopF (fun x => ladingref30_Check.b1 l r x) 0 = some (if ascB (l.length : Int) (-1) r.1 = true then .inl () else .inr 1) := by
  obtain ⟨q, g1, g2⟩ := loopF_inv (body := fun x => ladingref30_Check.b1 l r x) (fun k x => x = (k : Int) ∧ ascB (l.length : Int) (-1) (r.1.take k) = true) (Q := fun q => q = if ascB (l.length : Int) (-1) r.1 = true then .inl () else .inr 1) r.1.length (x := 0) ⟨rfl, rfl⟩
    (fun k hk x hx => by
      obtain ⟨rfl, hx⟩ := hx
      have hsn := asc_snoc (n := (l.length : Int)) (c := r.1.take k) (x := r.1[k])
      rw [← take_snoc r.1 k hk] at hsn
      have bad : ¬ (0 ≤ r.1[k] ∧ r.1[k] < (l.length : Int) ∧ ∀ y ∈ r.1.take k, y < r.1[k]) → (.inr (.inr 1) : Int ⊕ (Unit ⊕ Int)) = .inr (if ascB (l.length : Int) (-1) r.1 = true then .inl () else .inr 1) := fun h => by
        rw [if_neg fun h' => h (hsn.1 (asc_take h')).2]
      simp only [ladingref30_Check.b1, lt_n hk, cond_true, idx_nat hk, bind_in, ltZ_eq, leZ_eq]
      unfold ladingref30_Check.j1
      by_cases h1 : r.1[k] < 0
      · rw [decide_eq_true h1, cond_true, bind_in, cond_true]
        exact .inr ⟨_, rfl, Sum.inr.inj (bad fun h => by omega)⟩
      rw [decide_eq_false h1, cond_false]
      by_cases h2 : (l.length : Int) ≤ r.1[k]
      · rw [decide_eq_true h2, cond_true, bind_in, cond_true]
        exact .inr ⟨_, rfl, Sum.inr.inj (bad fun h => by omega)⟩
      rw [decide_eq_false h2, cond_false]
      by_cases h0 : 0 < k
      · have hk1 : k - 1 < r.1.length := by omega
        rw [decide_eq_true (by omega), cond_true, z64_pred h0 (by omega), bind_in, idx_nat hk1, bind_in, bind_in]
        by_cases h3 : r.1[k] ≤ r.1[k - 1]
        · rw [decide_eq_true h3, cond_true]
          refine .inr ⟨_, rfl, Sum.inr.inj (bad fun h => ?_)⟩
          have := h.2.2 r.1[k - 1] (List.mem_iff_getElem.2 ⟨k - 1, by rw [List.length_take]; omega, by rw [List.getElem_take]⟩)
          omega
        · rw [decide_eq_false h3, cond_false, z64_nx hk (by omega), bind_in]
          refine .inl ⟨_, rfl, rfl, hsn.2 ⟨hx, by omega, by omega, fun y hy => ?_⟩⟩
          obtain ⟨i, hi, rfl⟩ := List.mem_iff_getElem.1 hy
          rw [List.length_take] at hi
          rw [List.getElem_take]
          have hp := (ascB_iff.1 hx).2
          rcases Nat.lt_or_ge i (k - 1) with h | h
          · have := List.pairwise_iff_getElem.1 hp i (k - 1) (by rw [List.length_take]; omega) (by rw [List.length_take]; omega) h
            rw [List.getElem_take, List.getElem_take] at this
            omega
          · have : i = k - 1 := by omega
            subst this; omega
      · have hk0 : k = 0 := by omega
        subst hk0
        rw [decide_eq_false (by omega), cond_false, bind_in, cond_false, z64_nx hk (by omega), bind_in]
        exact .inl ⟨_, rfl, rfl, hsn.2 ⟨hx, by omega, by omega, fun y hy => by simp at hy⟩⟩)
    (fun x hx => by
      obtain ⟨rfl, hx⟩ := hx
      rw [List.take_length] at hx
      refine ⟨.inl (), by simp only [ladingref30_Check.b1, lt_e, cond_false], by rw [if_pos hx]⟩)
    (by omega)
  rw [g1, g2]
def modOK (l : List GClause) (n : Int) (core : List Int) (k : Nat) (m : List Bool) : Bool := decide ((m.length : Int) = n) && holdsF (pickF l (er core k)) m
def ChkOK (l : List GClause) (n : Int) (r : Ref) : Prop := prfF (lits (pickF l r.1)) r.2.1 = 0 ∧ r.2.2.length = r.1.length ∧ ∀ k (hk : k < r.2.2.length), modOK l n r.1 k r.2.2[k] = true
noncomputable def checkF (l : List GClause) (n : Int) (r : Ref) : Int :=
  if rightF l n = true ∧ ascB (l.length : Int) (-1) r.1 = true then @ite _ (ChkOK l n r) (Classical.propDecidable _) 0 19 else 1
theorem checkF_yes {l : List GClause} {n : Int} {r : Ref} (h1 : rightF l n = true) (h2 : ascB (l.length : Int) (-1) r.1 = true) (h : ChkOK l n r) : checkF l n r = 0 := by
  unfold checkF; rw [if_pos ⟨h1, h2⟩, @if_pos _ (Classical.propDecidable _) h]
theorem checkF_no {l : List GClause} {n : Int} {r : Ref} (h1 : rightF l n = true) (h2 : ascB (l.length : Int) (-1) r.1 = true) (h : ¬ ChkOK l n r) : checkF l n r = 19 := by
  unfold checkF; rw [if_pos ⟨h1, h2⟩, @if_neg _ (Classical.propDecidable _) h]
theorem checkF_zero {l : List GClause} {n : Int} {r : Ref} (h : checkF l n r = 0) : rightF l n = true ∧ ascB (l.length : Int) (-1) r.1 = true ∧ ChkOK l n r := by
  by_cases h1 : rightF l n = true ∧ ascB (l.length : Int) (-1) r.1 = true
  · refine ⟨h1.1, h1.2, Classical.byContradiction fun hn => ?_⟩
    rw [checkF_no h1.1 h1.2 hn] at h; cases h
  · unfold checkF at h; rw [if_neg h1] at h; cases h
theorem mods_none {l : List GClause} {n : Int} {core : List Int} {M : List (List Bool)} : (scan (fun k m => if modOK l n core k m = true then none else some (19 : Int)) 0 M).getD 0 = @ite _ (∀ k (hk : k < M.length), modOK l n core k M[k] = true) (Classical.propDecidable _) 0 19 := by
  cases hs : scan (fun k m => if modOK l n core k m = true then none else some (19 : Int)) 0 M with
  | none =>
    have : ∀ k (hk : k < M.length), modOK l n core k M[k] = true := fun k hk => by
      have := scan_none.1 hs k hk
      rw [Nat.zero_add] at this
      split at this
      · assumption
      · cases this
    rw [@if_pos _ (Classical.propDecidable _) this]; rfl
  | some b =>
    obtain ⟨i, hi, h1, _⟩ := scan_some.1 hs
    rw [Nat.zero_add] at h1
    split at h1
    · cases h1
    · rename_i hne
      injection h1 with h1
      subst h1
      rw [@if_neg _ (Classical.propDecidable _) fun h => hne (h i hi)]; rfl
theorem chk_ite {l : List GClause} {n : Int} {r : Ref} (h1 : prfF (lits (pickF l r.1)) r.2.1 = 0) (h2 : r.2.2.length = r.1.length) :
    @ite _ (∀ k (hk : k < r.2.2.length), modOK l n r.1 k r.2.2[k] = true) (Classical.propDecidable _) (0 : Int) 19 = @ite _ (ChkOK l n r) (Classical.propDecidable _) 0 19 := by
  by_cases h : ∀ k (hk : k < r.2.2.length), modOK l n r.1 k r.2.2[k] = true
  · rw [@if_pos _ (Classical.propDecidable _) h, @if_pos _ (Classical.propDecidable _) (show ChkOK l n r from ⟨h1, h2, h⟩)]
  · rw [@if_neg _ (Classical.propDecidable _) h, @if_neg _ (Classical.propDecidable _) (fun hh : ChkOK l n r => h hh.2.2)]
theorem check_eq {l : List GClause} {n : Int} {r : Ref} (h : Sized l) (hl : l.length ≤ 10000) (hc : r.1.length ≤ 10000) (hp : ∀ c ∈ r.2.1, c.length ≤ 1000000) : refuse_Check l n r = some (checkF l n r) := by
  unfold refuse_Check
  rw [right_eq (ok_of (by omega) h.lits), bind_in]
  cases hr : rightF l n with
  | false => rw [Bool.not_false, cond_true]; unfold checkF; rw [hr, if_neg (by simp)]
  | true =>
    rw [Bool.not_true, cond_false, asc_loop (by omega), bind_in]
    cases ha : ascB (l.length : Int) (-1) r.1 with
    | false => unfold checkF; rw [hr, ha, if_neg (by simp), if_neg (by simp)]
    | true =>
      rw [if_pos rfl]
      have hv := asc_valid ha
      have hsp := h.pick hv (by omega)
      show refuse_Check.j4 l n r = _
      unfold refuse_Check.j4
      rw [pick_eq hv (by omega), bind_in, Proof_eq (ok_of (by rw [pick_len]; omega) hsp.lits) (by rw [pick_len]; omega) hp, bind_in, bif_not, bif_eqZ]
      by_cases h1 : prfF (lits (pickF l r.1)) r.2.1 = 0
      · rw [if_pos h1, bind_in, eqZ_eq]
        by_cases h2 : r.2.2.length = r.1.length
        · rw [decide_eq_true (by omega), Bool.not_true]
          unfold refuse_Check.j3
          rw [cond_false]
          refine (loop_scan r.2.2 (fun k m => if modOK l n r.1 k m = true then none else some (19 : Int)) 0 (fun k hk => ?_) ?_ (by omega)).trans ?_
          · have hkc : k < r.1.length := by omega
            have hel := er_len hkc
            simp only [refuse_Check.b2, lt_n hk, cond_true, idx_nat hk, bind_in]
            unfold modOK
            rw [bif_not, bif_eqZ]
            by_cases h3 : ((r.2.2[k]).length : Int) = n
            · rw [if_pos h3, decide_eq_true h3, Bool.true_and, without2_eq hkc (by omega), bind_in, pick_eq (hv.er k) (by omega), bind_in, holds_eq (ok_of (by rw [pick_len]; omega) (h.pick (hv.er k) (by omega)).lits), bind_in, bind_in]
              unfold refuse_Check.j2
              cases holdsF (pickF l (er r.1 k)) r.2.2[k] with
              | true => rw [Bool.not_true, cond_false, z64_nx hk (by omega), bind_in]; rfl
              | false => rw [Bool.not_false, cond_true]; rfl
            · rw [if_neg h3, decide_eq_false h3, bind_in]
              unfold refuse_Check.j2
              rw [cond_true]; rfl
          · simp only [refuse_Check.b2, lt_e, cond_false]
          · rw [mods_none, chk_ite h1 h2]
            have hh : rightF l n = true ∧ ascB (l.length : Int) (-1) r.1 = true := ⟨hr, ha⟩
            unfold checkF
            rw [if_pos hh]
        · rw [decide_eq_false (by omega), Bool.not_false]
          unfold refuse_Check.j3
          rw [cond_true, checkF_no hr ha fun hh => h2 hh.2.1]
      · rw [if_neg h1, bind_in]
        unfold refuse_Check.j3
        rw [cond_true, checkF_no hr ha fun hh => h1 hh.1]
theorem rcheck_eq {l : List GClause} {n : Int} {r : Ref} (h : Sized l) (hl : l.length ≤ 10000) (hc : r.1.length ≤ 10000) (hp : ∀ c ∈ r.2.1, c.length ≤ 1000000) : ladingref30_Check l n r = some (checkF l n r) := by
  unfold ladingref30_Check
  rw [rright_eq (ok_of (by omega) h.lits), bind_in]
  cases hr : rightF l n with
  | false => rw [Bool.not_false, cond_true]; unfold checkF; rw [hr, if_neg (by simp)]
  | true =>
    rw [Bool.not_true, cond_false, rasc_loop (by omega), bind_in]
    cases ha : ascB (l.length : Int) (-1) r.1 with
    | false => unfold checkF; rw [hr, ha, if_neg (by simp), if_neg (by simp)]
    | true =>
      rw [if_pos rfl]
      have hv := asc_valid ha
      have hsp := h.pick hv (by omega)
      show ladingref30_Check.j4 l n r = _
      unfold ladingref30_Check.j4
      rw [clauses_all hv (by omega), bind_in, rProof_eq (ok_of (by rw [pick_len]; omega) hsp.lits) (by rw [pick_len]; omega) hp, bind_in, bif_not, bif_eqZ]
      by_cases h1 : prfF (lits (pickF l r.1)) r.2.1 = 0
      · rw [if_pos h1, bind_in, eqZ_eq]
        by_cases h2 : r.2.2.length = r.1.length
        · rw [decide_eq_true (by omega), Bool.not_true]
          unfold ladingref30_Check.j3
          rw [cond_false]
          refine (loop_scan r.2.2 (fun k m => if modOK l n r.1 k m = true then none else some (19 : Int)) 0 (fun k hk => ?_) ?_ (by omega)).trans ?_
          · have hkc : k < r.1.length := by omega
            have hel := er_len hkc
            simp only [ladingref30_Check.b2, lt_n hk, cond_true, idx_nat hk, bind_in]
            unfold modOK
            rw [bif_not, bif_eqZ]
            by_cases h3 : ((r.2.2[k]).length : Int) = n
            · rw [if_pos h3, decide_eq_true h3, Bool.true_and, clauses_but hv (by omega), bind_in, rholds_eq (ok_of (by rw [pick_len]; omega) (h.pick (hv.er k) (by omega)).lits), bind_in, bind_in]
              unfold ladingref30_Check.j2
              cases holdsF (pickF l (er r.1 k)) r.2.2[k] with
              | true => rw [Bool.not_true, cond_false, z64_nx hk (by omega), bind_in]; rfl
              | false => rw [Bool.not_false, cond_true]; rfl
            · rw [if_neg h3, decide_eq_false h3, bind_in]
              unfold ladingref30_Check.j2
              rw [cond_true]; rfl
          · simp only [ladingref30_Check.b2, lt_e, cond_false]
          · rw [mods_none, chk_ite h1 h2]
            have hh : rightF l n = true ∧ ascB (l.length : Int) (-1) r.1 = true := ⟨hr, ha⟩
            unfold checkF
            rw [if_pos hh]
        · rw [decide_eq_false (by omega), Bool.not_false]
          unfold ladingref30_Check.j3
          rw [cond_true, checkF_no hr ha fun hh => h2 hh.2.1]
      · rw [if_neg h1, bind_in]
        unfold ladingref30_Check.j3
        rw [cond_true, checkF_no hr ha fun hh => h1 hh.1]
end Go.Proofs.Ythibbellkcdodaa
