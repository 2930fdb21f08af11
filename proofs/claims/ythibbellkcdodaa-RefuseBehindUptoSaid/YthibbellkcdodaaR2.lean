/-
  Layer 30 (refuse): Facts and Check, of the code and of the reference, as plain functions.
-/
import Derived.Test.YthibbellkcdodaaR1
namespace Go.Proofs.Ythibbellkcdodaa
open Go.Lad
set_option linter.unusedVariables false
set_option linter.unusedSimpArgs false
set_option linter.unusedSectionVars false
/-! ### Facts -/
def factOf (l : List GClause) (i : Int) : Option Int := if 0 ≤ i ∧ i < (l.length : Int) ∧ 0 ≤ (l.getD i.toNat dfl).2.2.1 then some (l.getD i.toNat dfl).2.2.1 else none
def rawF (l : List GClause) (core : List Int) : List Int := core.filterMap (factOf l)
theorem raw_snoc (l : List GClause) (c : List Int) (x : Int) : rawF l (c ++ [x]) = rawF l c ++ (factOf l x).toList := by
  unfold rawF
  rw [List.filterMap_append]
  congr 1
theorem raw_len (l : List GClause) (c : List Int) : (rawF l c).length ≤ c.length := List.length_filterMap_le _ _
def factsF (l : List GClause) (core : List Int) : List Int := Lib.compact ((rawF l core).mergeSort fun x y => decide (x ≤ y))
/-- what is compacted of an ascending list -/
theorem compact_asc {l : List Int} (h : l.Pairwise (· ≤ ·)) : ∀ m, m ≤ l.length → (Lib.compactUpTo l.toArray m).Pairwise (· < ·) ∧ (∀ x, x ∈ Lib.compactUpTo l.toArray m ↔ x ∈ l.take m)
  | 0, _ => by simp [Lib.compactUpTo]
  | m + 1, hm => by
    obtain ⟨h1, h2⟩ := compact_asc h m (by omega)
    have hml : m < l.length := by omega
    have hd : l.toArray[m]! = l[m] := by simp [hml]
    rw [Lib.compactUpTo_succ, hd]
    have hle : ∀ x ∈ l.take m, x ≤ l[m] := fun x hx => by
      obtain ⟨i, hi, rfl⟩ := List.mem_iff_getElem.1 hx
      rw [List.length_take] at hi
      rw [List.getElem_take]
      exact List.pairwise_iff_getElem.1 h i m (by omega) hml (by omega)
    cases hk : Lib.keeps l.toArray m with
    | true =>
      rw [if_pos rfl]
      refine ⟨List.pairwise_append.2 ⟨h1, by simp, fun x hx y hy => ?_⟩, fun x => ?_⟩
      · rw [List.mem_singleton.1 hy]
        have hxt := (h2 x).1 hx
        have hne : x ≠ l[m] := fun e => by
          subst e
          unfold Lib.keeps at hk
          rw [decide_eq_true_eq] at hk
          rcases hk with hk | hk
          · subst hk; simp at hxt
          · obtain ⟨i, hi, hie⟩ := List.mem_iff_getElem.1 hxt
            rw [List.length_take] at hi
            rw [List.getElem_take] at hie
            have hpm : m - 1 < l.length := by omega
            have hd2 : l.toArray[m - 1]! = l[m - 1] := by simp [hpm]
            rw [hd, hd2] at hk
            have h3 : l[i] ≤ l[m - 1] := by
              rcases Nat.lt_or_ge i (m - 1) with h5 | h5
              · exact List.pairwise_iff_getElem.1 h i (m - 1) (by omega) hpm h5
              · have : i = m - 1 := by omega
                subst this; exact Int.le_refl _
            have h4 := List.pairwise_iff_getElem.1 h (m - 1) m hpm hml (by omega)
            omega
        have := hle x hxt
        omega
      · rw [List.mem_append, h2, take_snoc l m hml, List.mem_append]
    | false =>
      rw [if_neg (by simp), List.append_nil]
      refine ⟨h1, fun x => ?_⟩
      rw [h2, take_snoc l m hml, List.mem_append, List.mem_singleton]
      refine ⟨.inl, fun hx => hx.elim id fun e => ?_⟩
      subst e
      unfold Lib.keeps at hk
      rw [decide_eq_false_iff_not] at hk
      have hm0 : m ≠ 0 := fun e => hk (.inl e)
      have he : l.toArray[m]! = l.toArray[m - 1]! := Classical.byContradiction fun e => hk (.inr e)
      have hpm : m - 1 < l.length := by omega
      have hd2 : l.toArray[m - 1]! = l[m - 1] := by simp [hpm]
      rw [hd, hd2] at he
      rw [he]
      exact List.mem_iff_getElem.2 ⟨m - 1, by rw [List.length_take]; omega, by rw [List.getElem_take]⟩
theorem facts_spec (l : List GClause) (core : List Int) : (factsF l core).Pairwise (· < ·) ∧ ∀ x, x ∈ factsF l core ↔ x ∈ rawF l core := by
  have hs : ((rawF l core).mergeSort fun x y => decide (x ≤ y)).Pairwise (· ≤ ·) := by
    have := List.pairwise_mergeSort (le := fun x y : Int => decide (x ≤ y)) (fun a b c h1 h2 => by simp only [decide_eq_true_eq] at *; omega) (fun a b => by simp only [Bool.or_eq_true, decide_eq_true_eq]; omega) (rawF l core)
    exact this.imp fun h => by simpa using h
  obtain ⟨h1, h2⟩ := compact_asc hs _ (Nat.le_refl _)
  refine ⟨h1, fun x => (h2 x).trans ?_⟩
  rw [List.take_length]
  exact (List.mergeSort_perm _ _).mem_iff
theorem facts_len (l : List GClause) (core : List Int) : (factsF l core).length ≤ core.length := by
  have h1 := compact_len ((rawF l core).mergeSort fun x y => decide (x ≤ y))
  rw [List.length_mergeSort] at h1
  exact Nat.le_trans h1 (raw_len l core)
theorem facts_eq {l : List GClause} {core : List Int} (hl : l.length ≤ 1000000) (hc : core.length ≤ 1000000) : refuse_Facts l core = some (factsF l core) := by
  unfold refuse_Facts
  have key : loopF (fun x => refuse_Facts.b1 l core x.1 x.2) (0, []) = some (rawF l core) := by
    refine loopF_at (body := fun x => refuse_Facts.b1 l core x.1 x.2) (fun k => ((k : Int), rawF l (core.take k))) core.length rfl (fun k hk => ?_) ?_ (by omega)
    · have hrl := raw_len l (core.take k)
      rw [List.length_take] at hrl
      simp only [refuse_Facts.b1, lt_n hk, cond_true, idx_nat hk, bind_in, leZ_eq, ltZ_eq]
      rw [take_snoc core k hk, raw_snoc]
      unfold refuse_Facts.j1 factOf
      by_cases h1 : 0 ≤ core[k]
      · rw [decide_eq_true h1, cond_true]
        by_cases h2 : core[k] < (l.length : Int)
        · rw [decide_eq_true h2, cond_true, idx_valid ⟨h1, h2⟩, bind_in, bind_in]
          by_cases h3 : 0 ≤ (l.getD core[k].toNat dfl).2.2.1
          · rw [decide_eq_true h3, cond_true, if_pos ⟨h1, h2, h3⟩, bind_in, app_in (by simp only [List.length_singleton]; omega), bind_in, z64_nx hk (by omega), bind_in]; rfl
          · rw [decide_eq_false h3, cond_false, if_neg (fun h => h3 h.2.2), z64_nx hk (by omega), bind_in]; simp
        · rw [decide_eq_false h2, cond_false, bind_in, cond_false, if_neg (fun h => h2 h.2.1), z64_nx hk (by omega), bind_in]; simp
      · rw [decide_eq_false h1, cond_false, bind_in, cond_false, if_neg (fun h => h1 h.1), z64_nx hk (by omega), bind_in]; simp
    · simp only [refuse_Facts.b1, lt_e, cond_false, List.take_length]
  rw [key, bind_in]
  unfold refuse_Facts.j2
  have hrl := raw_len l core
  have e1 : slices_Sort_int (rawF l core) = some ((rawF l core).mergeSort fun x y => decide (x ≤ y)) := by
    unfold slices_Sort_int sortF
    rw [bleN, decide_eq_true (by omega)]; rfl
  have e2 : slices_Compact_int ((rawF l core).mergeSort fun x y => decide (x ≤ y)) = some (factsF l core) := by
    unfold slices_Compact_int compF
    rw [bleN, List.length_mergeSort, decide_eq_true (by omega)]; rfl
  rw [e1, bind_in, e2, bind_in]
/-! ### Check -/
def ascB (n : Int) : Int → List Int → Bool
  | _, [] => true
  | s, i :: r => !(decide (i ≤ s ∨ n ≤ i)) && ascB n i r
theorem ascB_iff {n : Int} : ∀ {s : Int} {c : List Int}, ascB n s c = true ↔ (∀ x ∈ c, s < x ∧ x < n) ∧ c.Pairwise (· < ·)
  | s, [] => by simp [ascB]
  | s, i :: r => by
    unfold ascB
    rw [Bool.and_eq_true, ascB_iff, List.pairwise_cons]
    simp only [Bool.not_eq_true', decide_eq_false_iff_not, List.mem_cons, forall_eq_or_imp]
    constructor
    · rintro ⟨h1, h2, h3⟩
      exact ⟨⟨by omega, fun x hx => by have := h2 x hx; omega⟩, fun x hx => (h2 x hx).1, h3⟩
    · rintro ⟨⟨h1, h2⟩, h3, h4⟩
      exact ⟨by omega, fun x hx => ⟨h3 x hx, (h2 x hx).2⟩, h4⟩
theorem asc_valid {l : List GClause} {c : List Int} (h : ascB (l.length : Int) (-1) c = true) : Valid l c := fun i hi => by
  have := (ascB_iff.1 h).1 i hi
  omega
theorem asc_run (n : Int) : ∀ (c : List Int) (k : Nat) (s : Int), runI (fun _ s x => if x ≤ s ∨ n ≤ x then .inr (.inr 1 : Unit ⊕ Int) else .inl x) (fun _ => .inl ()) k s c = if ascB n s c = true then .inl () else .inr 1
  | [], _, _ => rfl
  | i :: r, k, s => by
    unfold runI ascB
    by_cases h : i ≤ s ∨ n ≤ i
    · rw [if_pos h, decide_eq_true h]; rfl
    · rw [if_neg h, decide_eq_false h]
      simp only [Bool.not_false, Bool.true_and]
      exact asc_run n r (k + 1) i
theorem asc_loop {l : List GClause} {r : Ref} (hc : r.1.length ≤ 1000000) : loopF (fun x => refuse_Check.b1 l r x.1 x.2) ((-1), 0) = some (if ascB (l.length : Int) (-1) r.1 = true then .inl () else .inr 1) := by
  rw [← asc_run (l.length : Int) r.1 0 (-1)]
  exact loop_run (body := fun x => refuse_Check.b1 l r x.1 x.2) (fun k s => (s, (k : Int))) r.1 _ _ (fun _ _ => True) (fun _ _ _ _ _ _ => trivial)
    (fun k hk s _ => by
      simp only [refuse_Check.b1, lt_n hk, cond_true, idx_nat hk, bind_in, leZ_eq]
      unfold refuse_Check.j1
      by_cases h1 : r.1[k] ≤ s
      · rw [decide_eq_true h1, cond_true, bind_in, cond_true, if_pos (.inl h1)]
      · rw [decide_eq_false h1, cond_false, bind_in]
        by_cases h2 : (l.length : Int) ≤ r.1[k]
        · rw [decide_eq_true h2, cond_true, if_pos (.inr h2)]
        · rw [decide_eq_false h2, cond_false, if_neg (fun h => h.elim h1 h2), z64_nx hk (by omega), bind_in])
    (fun s _ => by simp only [refuse_Check.b1, lt_e, cond_false]) (by omega) trivial
def modOK (l : List GClause) (n : Int) (core : List Int) (k : Nat) (m : List Bool) : Bool := decide ((m.length : Int) = n) && holdsF (pickF l (er core k)) m
def ChkOK (l : List GClause) (n : Int) (r : Ref) : Prop := prfF (lits (pickF l r.1)) r.2.1 = 0 ∧ r.2.2.length = r.1.length ∧ ∀ k (hk : k < r.2.2.length), modOK l n r.1 k r.2.2[k] = true
noncomputable def checkF (l : List GClause) (n : Int) (r : Ref) : Int :=
  if rightF l n = true ∧ ascB (l.length : Int) (-1) r.1 = true then @ite _ (ChkOK l n r) (Classical.propDecidable _) 0 19 else 1
theorem checkF_yes {l : List GClause} {n : Int} {r : Ref} (h1 : rightF l n = true) (h2 : ascB (l.length : Int) (-1) r.1 = true) (h : ChkOK l n r) : checkF l n r = 0 := by
  unfold checkF; rw [if_pos ⟨h1, h2⟩, @if_pos _ (Classical.propDecidable _) h]
theorem checkF_no {l : List GClause} {n : Int} {r : Ref} (h1 : rightF l n = true) (h2 : ascB (l.length : Int) (-1) r.1 = true) (h : ¬ ChkOK l n r) : checkF l n r = 19 := by
  unfold checkF; rw [if_pos ⟨h1, h2⟩, @if_neg _ (Classical.propDecidable _) h]
theorem checkF_zero {l : List GClause} {n : Int} {r : Ref} (h : checkF l n r = 0) : rightF l n = true ∧ ascB (l.length : Int) (-1) r.1 = true ∧ ChkOK l n r := by
  by_cases h1 : rightF l n = true ∧ ascB (l.length : Int) (-1) r.1 = true
  · refine ⟨h1.1, h1.2, Classical.byContradiction fun hn => ?_⟩
    rw [checkF_no h1.1 h1.2 hn] at h; cases h
  · unfold checkF at h; rw [if_neg h1] at h; cases h
theorem mods_none {l : List GClause} {n : Int} {core : List Int} {M : List (List Bool)} : (scan (fun k m => if modOK l n core k m = true then none else some (19 : Int)) 0 M).getD 0 = @ite _ (∀ k (hk : k < M.length), modOK l n core k M[k] = true) (Classical.propDecidable _) 0 19 := by
  cases hs : scan (fun k m => if modOK l n core k m = true then none else some (19 : Int)) 0 M with
  | none =>
    have : ∀ k (hk : k < M.length), modOK l n core k M[k] = true := fun k hk => by
      have := scan_none.1 hs k hk
      rw [Nat.zero_add] at this
      split at this
      · assumption
      · cases this
    rw [@if_pos _ (Classical.propDecidable _) this]; rfl
  | some b =>
    obtain ⟨i, hi, h1, _⟩ := scan_some.1 hs
    rw [Nat.zero_add] at h1
    split at h1
    · cases h1
    · rename_i hne
      injection h1 with h1
      subst h1
      rw [@if_neg _ (Classical.propDecidable _) fun h => hne (h i hi)]; rfl
theorem chk_ite {l : List GClause} {n : Int} {r : Ref} (h1 : prfF (lits (pickF l r.1)) r.2.1 = 0) (h2 : r.2.2.length = r.1.length) :
    @ite _ (∀ k (hk : k < r.2.2.length), modOK l n r.1 k r.2.2[k] = true) (Classical.propDecidable _) (0 : Int) 19 = @ite _ (ChkOK l n r) (Classical.propDecidable _) 0 19 := by
  by_cases h : ∀ k (hk : k < r.2.2.length), modOK l n r.1 k r.2.2[k] = true
  · rw [@if_pos _ (Classical.propDecidable _) h, @if_pos _ (Classical.propDecidable _) (show ChkOK l n r from ⟨h1, h2, h⟩)]
  · rw [@if_neg _ (Classical.propDecidable _) h, @if_neg _ (Classical.propDecidable _) (fun hh : ChkOK l n r => h hh.2.2)]
theorem check_eq {l : List GClause} {n : Int} {r : Ref} (h : Sized l) (hl : l.length ≤ 10000) (hc : r.1.length ≤ 10000) (hp : ∀ c ∈ r.2.1, c.length ≤ 1000000) : refuse_Check l n r = some (checkF l n r) := by
  unfold refuse_Check
  rw [right_eq (ok_of (by omega) h.lits), bind_in]
  cases hr : rightF l n with
  | false => rw [Bool.not_false, cond_true]; unfold checkF; rw [hr, if_neg (by simp)]
  | true =>
    rw [Bool.not_true, cond_false, asc_loop (by omega), bind_in]
    cases ha : ascB (l.length : Int) (-1) r.1 with
    | false => unfold checkF; rw [hr, ha, if_neg (by simp), if_neg (by simp)]
    | true =>
      rw [if_pos rfl]
      have hv := asc_valid ha
      have hsp := h.pick hv (by omega)
      show refuse_Check.j4 l n r = _
      unfold refuse_Check.j4
      rw [pick_eq hv (by omega), bind_in, Proof_eq (ok_of (by rw [pick_len]; omega) hsp.lits) (by rw [pick_len]; omega) hp, bind_in, bif_not, bif_eqZ]
      by_cases h1 : prfF (lits (pickF l r.1)) r.2.1 = 0
      · rw [if_pos h1, bind_in, eqZ_eq]
        by_cases h2 : r.2.2.length = r.1.length
        · rw [decide_eq_true (by omega), Bool.not_true]
          unfold refuse_Check.j3
          rw [cond_false]
          refine (loop_scan r.2.2 (fun k m => if modOK l n r.1 k m = true then none else some (19 : Int)) 0 (fun k hk => ?_) ?_ (by omega)).trans ?_
          · have hkc : k < r.1.length := by omega
            have hel := er_len hkc
            simp only [refuse_Check.b2, lt_n hk, cond_true, idx_nat hk, bind_in]
            unfold modOK
            rw [bif_not, bif_eqZ]
            by_cases h3 : ((r.2.2[k]).length : Int) = n
            · rw [if_pos h3, decide_eq_true h3, Bool.true_and, without2_eq hkc (by omega), bind_in, pick_eq (hv.er k) (by omega), bind_in, holds_eq (ok_of (by rw [pick_len]; omega) (h.pick (hv.er k) (by omega)).lits), bind_in, bind_in]
              unfold refuse_Check.j2
              cases holdsF (pickF l (er r.1 k)) r.2.2[k] with
              | true => rw [Bool.not_true, cond_false, z64_nx hk (by omega), bind_in]; rfl
              | false => rw [Bool.not_false, cond_true]; rfl
            · rw [if_neg h3, decide_eq_false h3, bind_in]
              unfold refuse_Check.j2
              rw [cond_true]; rfl
          · simp only [refuse_Check.b2, lt_e, cond_false]
          · rw [mods_none, chk_ite h1 h2]
            have hh : rightF l n = true ∧ ascB (l.length : Int) (-1) r.1 = true := ⟨hr, ha⟩
            unfold checkF
            rw [if_pos hh]
        · rw [decide_eq_false (by omega), Bool.not_false]
          unfold refuse_Check.j3
          rw [cond_true, checkF_no hr ha fun hh => h2 hh.2.1]
      · rw [if_neg h1, bind_in]
        unfold refuse_Check.j3
        rw [cond_true, checkF_no hr ha fun hh => h1 hh.1]
end Go.Proofs.Ythibbellkcdodaa
