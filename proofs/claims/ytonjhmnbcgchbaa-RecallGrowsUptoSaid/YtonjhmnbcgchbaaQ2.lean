/-
  The options, as plain words: right ones, masks of lists, what a set costs and removes.
-/
import Derived.Test.YtonjhmnbcgchbaaRModel
import Derived.Test.YtonjhmnbcgchbaaQ1
import Derived.Test.YtonjhmnbcgchbaaDPl
namespace Go.Proofs.Ytonjhmnbcgchbaa
open Go.Lad
set_option linter.unusedVariables false
set_option linter.unusedSectionVars false
set_option linter.unusedSimpArgs false

abbrev Never : Int := 1099511627776
/-! ### ascending lists -/
def riseB (n but : Int) : Int → List Int → Bool
  | _, [] => true
  | last, x :: r => decide (last < x ∧ x < n ∧ x ≠ but) && riseB n but x r
theorem rise_mem {n but : Int} : ∀ {l : List Int} {last : Int}, riseB n but last l = true → ∀ x ∈ l, last < x ∧ x < n ∧ x ≠ but
  | [], _, _, x, hx => nomatch hx
  | y :: r, last, h, x, hx => by
    unfold riseB at h
    rw [Bool.and_eq_true, decide_eq_true_eq] at h
    rcases List.mem_cons.1 hx with rfl | hx
    · exact h.1
    · have := rise_mem h.2 x hx
      omega
theorem rise_pair {n but : Int} : ∀ {l : List Int} {last : Int}, riseB n but last l = true → l.Pairwise (· < ·)
  | [], _, _ => List.Pairwise.nil
  | y :: r, last, h => by
    unfold riseB at h
    rw [Bool.and_eq_true] at h
    exact List.Pairwise.cons (fun x hx => (rise_mem h.2 x hx).1) (rise_pair h.2)
theorem rise_of {n but : Int} : ∀ {l : List Int} {last : Int}, l.Pairwise (· < ·) → (∀ x ∈ l, last < x ∧ x < n ∧ x ≠ but) → riseB n but last l = true
  | [], _, _, _ => rfl
  | y :: r, last, hp, h => by
    unfold riseB
    rw [Bool.and_eq_true, decide_eq_true_eq]
    have hp := List.pairwise_cons.1 hp
    exact ⟨h y List.mem_cons_self, rise_of hp.2 fun x hx => ⟨hp.1 x hx, (h x (List.mem_cons_of_mem _ hx)).2⟩⟩
theorem rise_len {n but : Int} : ∀ {l : List Int} {last : Int}, riseB n but last l = true → last < n → (l.length : Int) ≤ n - last - 1
  | [], _, _, hn => by simp; omega
  | y :: r, last, h, hn => by
    unfold riseB at h
    rw [Bool.and_eq_true, decide_eq_true_eq] at h
    have := rise_len h.2 h.1.2.1
    simp only [List.length_cons]
    omega
theorem runI_rise {n but : Int} : ∀ (l : List Int) (k : Nat) (s : Int), runI (fun _ (s : Int) x => if s < x ∧ x < n ∧ x ≠ but then .inl x else .inr false) (fun _ => true) k s l = riseB n but s l
  | [], _, _ => rfl
  | x :: r, k, s => by
    unfold runI riseB
    by_cases h : s < x ∧ x < n ∧ x ≠ but
    · rw [if_pos h, decide_eq_true h, Bool.true_and]
      exact runI_rise r (k + 1) x
    · rw [if_neg h, decide_eq_false h, Bool.false_and]
theorem ascends_eq {l : List Int} (n but : Int) (hl : l.length ≤ 1000000) : recall_ascends l n but = some (riseB n but (-1) l) := by
  unfold recall_ascends
  rw [← runI_rise l 0 (-1)]
  refine loop_run (fun k (s : Int) => (s, (k : Int))) l _ _ (fun _ _ => True) (fun _ _ _ _ _ _ => trivial) (fun k hk s _ => ?_) (fun s _ => ?_) (by omega) trivial
  · unfold recall_ascends.b1
    simp only [ltZ_eq, leZ_eq, eqZ_eq, bif_dec, idx_nat hk, bind_in]
    rw [if_pos (by omega)]
    unfold recall_ascends.j1
    by_cases h1 : l[k] ≤ s
    · rw [if_pos h1, if_neg (by omega)]; rfl
    · rw [if_neg h1]
      by_cases h2 : n ≤ l[k]
      · rw [if_pos h2, if_neg (by omega)]; rfl
      · rw [if_neg h2]
        by_cases h3 : l[k] = but
        · simp only [decide_eq_true h3, bind_in, cond_true, z64_succ (show k + 1 ≤ 9223372036854775807 by omega)]
          rw [if_neg (by omega)]
        · simp only [decide_eq_false h3, bind_in, cond_false, z64_succ (show k + 1 ≤ 9223372036854775807 by omega)]
          rw [if_pos ⟨by omega, by omega, h3⟩]
  · unfold recall_ascends.b1
    simp only [ltZ_eq, bif_dec]
    rw [if_neg (by omega)]
theorem rising_eq {l : List Int} (n but : Int) (hl : l.length ≤ 1000000) : ladingref46_rising l n but = some (riseB n but (-1) l) := by
  unfold ladingref46_rising
  rw [← runI_rise l 0 (-1)]
  refine loop_run (fun k (s : Int) => (k : Int)) l _ _ (fun k s => (k = 0 ∧ s = -1) ∨ (0 < k ∧ 0 ≤ s ∧ l[k - 1]? = some s)) (fun k hk s s' hI he => ?_) (fun k hk s hI => ?_) (fun s _ => ?_) (by omega) (.inl ⟨rfl, rfl⟩)
  · split at he
    · rename_i h
      injection he with he
      subst he
      right
      refine ⟨by omega, ?_, by simp [List.getElem?_eq_getElem hk]⟩
      rcases hI with ⟨_, h2⟩ | ⟨_, h2, _⟩ <;> omega
    · cases he
  · unfold ladingref46_rising.b1
    simp only [ltZ_eq, leZ_eq, eqZ_eq, bif_dec, idx_nat hk, bind_in]
    rw [if_pos (by omega)]
    have hs : -1 ≤ s := by rcases hI with ⟨_, h2⟩ | ⟨_, h2, _⟩ <;> omega
    unfold ladingref46_rising.j1
    by_cases h1 : l[k] < 0
    · rw [if_pos h1, if_neg (by omega)]; rfl
    · rw [if_neg h1]
      by_cases h2 : n ≤ l[k]
      · rw [if_pos h2, if_neg (by omega)]; rfl
      · rw [if_neg h2]
        by_cases h3 : l[k] = but
        · rw [if_pos h3, if_neg (by omega)]; rfl
        · rw [if_neg h3]
          by_cases hk0 : k = 0
          · subst hk0
            have hs1 : s = -1 := by rcases hI with ⟨_, h2⟩ | ⟨h, _⟩ <;> omega
            rw [if_neg (by omega)]
            simp only [bind_in, cond_false, z64_succ (show 0 + 1 ≤ 9223372036854775807 by omega)]
            rw [if_pos ⟨by omega, by omega, h3⟩]
          · rw [if_pos (by omega)]
            obtain ⟨_, hs0, hse⟩ : 0 < k ∧ 0 ≤ s ∧ l[k - 1]? = some s := by
              rcases hI with ⟨h2, _⟩ | h2
              · exact absurd h2 hk0
              · exact h2
            have e1 : idx l ((k : Int) - 1) = some s := idx_at (by omega) (by rw [show ((k : Int) - 1).toNat = k - 1 by omega]; exact hse)
            have e2 : z64 ((k : Int) - 1) = some ((k : Int) - 1) := z64_i (by omega)
            simp only [e2, bind_in, e1, z64_succ (show k + 1 ≤ 9223372036854775807 by omega)]
            by_cases h4 : l[k] ≤ s
            · rw [decide_eq_true h4, cond_true, if_neg (by omega)]
            · rw [decide_eq_false h4, cond_false, if_pos ⟨by omega, by omega, h3⟩]
  · unfold ladingref46_rising.b1
    simp only [ltZ_eq, bif_dec]
    rw [if_neg (by omega)]
/-! ### right options -/
def okO (n p k : Int) (o : GOption) : Bool := decide (0 ≤ o.1 ∧ o.1 ≤ 1073741824) && (riseB p (-1) (-1) o.2.1 && (riseB n k (-1) o.2.2.1 && riseB n k (-1) o.2.2.2))
def rightB (l : List GOption) (p : Int) : Bool := decide (0 ≤ p ∧ p ≤ 60 ∧ l.length ≤ 40) && (scan (fun (k : Nat) o => if okO l.length p k o = true then none else some false) 0 l).getD true
/-- lists of ordinary lengths -/
def Lit (l : List GOption) : Prop := l.length ≤ 1000000 ∧ ∀ o ∈ l, o.2.1.length ≤ 1000000 ∧ o.2.2.1.length ≤ 1000000 ∧ o.2.2.2.length ≤ 1000000
theorem Right_eq {l : List GOption} (h : Lit l) (p : Int) : recall_Right l p = some (rightB l p) := by
  unfold recall_Right rightB
  simp only [ltZ_eq, bif_dec, bind_in]
  unfold recall_Right.j2
  by_cases h1 : p < 0
  · rw [if_pos h1, decide_eq_false (by omega)]; rfl
  · rw [if_neg h1]
    by_cases h2 : 60 < p
    · rw [if_pos h2, decide_eq_false (by omega)]; rfl
    · rw [if_neg h2]
      by_cases h3 : 40 < (l.length : Int)
      · rw [decide_eq_true h3, decide_eq_false (by omega)]; rfl
      · rw [decide_eq_false h3, decide_eq_true (by omega), bind_in, cond_false, Bool.true_and]
        refine loop_scan l _ _ (fun k hk => ?_) ?_ (by omega)
        · have ho := h.2 l[k] (List.getElem_mem hk)
          unfold recall_Right.b1
          simp only [ltZ_eq, bif_dec, idx_nat hk, bind_in, ascends_eq _ _ ho.1, ascends_eq _ _ ho.2.1, ascends_eq _ _ ho.2.2]
          rw [if_pos (by omega)]
          unfold recall_Right.j1 okO
          by_cases c1 : l[k].1 < 0
          · rw [if_pos c1, decide_eq_false (by omega)]; rfl
          · rw [if_neg c1]
            by_cases c2 : 1073741824 < l[k].1
            · rw [if_pos c2, decide_eq_false (by omega)]; rfl
            · rw [if_neg c2, decide_eq_true (by omega), Bool.true_and]
              cases riseB p (-1) (-1) l[k].2.1 <;> cases riseB l.length k (-1) l[k].2.2.1 <;> cases riseB l.length k (-1) l[k].2.2.2 <;> simp [z64_succ (show k + 1 ≤ 9223372036854775807 by omega)]
        · unfold recall_Right.b1
          simp only [ltZ_eq, bif_dec]
          rw [if_neg (by omega)]
theorem refRight_eq {l : List GOption} (h : Lit l) (p : Int) : ladingref46_Right l p = some (rightB l p) := by
  unfold ladingref46_Right rightB
  simp only [ltZ_eq, bif_dec, bind_in]
  unfold ladingref46_Right.j2
  by_cases h1 : p < 0
  · rw [if_pos h1, decide_eq_false (by omega)]; rfl
  · rw [if_neg h1]
    by_cases h2 : 60 < p
    · rw [if_pos h2, decide_eq_false (by omega)]; rfl
    · rw [if_neg h2]
      by_cases h3 : 40 < (l.length : Int)
      · rw [decide_eq_true h3, decide_eq_false (by omega)]; rfl
      · rw [decide_eq_false h3, decide_eq_true (by omega), bind_in, cond_false, Bool.true_and]
        refine loop_scan l _ _ (fun k hk => ?_) ?_ (by omega)
        · have ho := h.2 l[k] (List.getElem_mem hk)
          unfold ladingref46_Right.b1
          simp only [ltZ_eq, bif_dec, idx_nat hk, bind_in, rising_eq _ _ ho.1, rising_eq _ _ ho.2.1, rising_eq _ _ ho.2.2]
          rw [if_pos (by omega)]
          unfold ladingref46_Right.j1 okO
          by_cases c1 : l[k].1 < 0
          · rw [if_pos c1, decide_eq_false (by omega)]; rfl
          · rw [if_neg c1]
            by_cases c2 : 1073741824 < l[k].1
            · rw [if_pos c2, decide_eq_false (by omega)]; rfl
            · rw [if_neg c2, decide_eq_true (by omega), Bool.true_and]
              cases riseB p (-1) (-1) l[k].2.1 <;> cases riseB l.length k (-1) l[k].2.2.1 <;> cases riseB l.length k (-1) l[k].2.2.2 <;> simp [z64_succ (show k + 1 ≤ 9223372036854775807 by omega)]
        · unfold ladingref46_Right.b1
          simp only [ltZ_eq, bif_dec]
          rw [if_neg (by omega)]
/-- right options and a number of problems -/
structure RT (l : List GOption) (p : Nat) : Prop where
  hp : p ≤ 60
  hn : l.length ≤ 40
  cost : ∀ i (h : i < l.length), 0 ≤ l[i].1 ∧ l[i].1 ≤ 1073741824
  rem : ∀ i (h : i < l.length), riseB p (-1) (-1) l[i].2.1 = true
  need : ∀ i (h : i < l.length), riseB l.length i (-1) l[i].2.2.1 = true
  exc : ∀ i (h : i < l.length), riseB l.length i (-1) l[i].2.2.2 = true
theorem rightB_iff {l : List GOption} {p : Int} : rightB l p = true ↔ ∃ q : Nat, p = q ∧ RT l q := by
  unfold rightB
  rw [Bool.and_eq_true, decide_eq_true_eq]
  constructor
  · rintro ⟨⟨h1, h2, h3⟩, h4⟩
    have h5 : scan (fun (k : Nat) o => if okO l.length p k o = true then none else some false) 0 l = none := by
      cases hs : scan (fun (k : Nat) o => if okO l.length p k o = true then none else some false) 0 l with
      | none => rfl
      | some b =>
        obtain ⟨i, hi, h6, _⟩ := scan_some.1 hs
        split at h6
        · cases h6
        · injection h6 with h6
          rw [hs, ← h6] at h4; cases h4
    rw [scan_none] at h5
    have h6 : ∀ i (h : i < l.length), okO l.length p i l[i] = true := fun i h => by
      have := h5 i h
      split at this
      · rename_i h7; simpa using h7
      · cases this
    obtain ⟨q, rfl⟩ := Int.eq_ofNat_of_zero_le h1
    unfold okO at h6
    simp only [Bool.and_eq_true, decide_eq_true_eq] at h6
    exact ⟨q, rfl, by omega, h3, fun i h => (h6 i h).1, fun i h => (h6 i h).2.1, fun i h => (h6 i h).2.2.1, fun i h => (h6 i h).2.2.2⟩
  · rintro ⟨q, rfl, h⟩
    refine ⟨⟨by omega, by have := h.hp; omega, h.hn⟩, ?_⟩
    rw [scan_none.2 fun i hi => ?_]
    · rfl
    · rw [if_pos]
      unfold okO
      simp only [Bool.and_eq_true, decide_eq_true_eq, Nat.zero_add]
      exact ⟨h.cost i hi, h.rem i hi, h.need i hi, h.exc i hi⟩
theorem RT.lit {l : List GOption} {p : Nat} (h : RT l p) : Lit l := by
  refine ⟨by have := h.hn; omega, fun o ho => ?_⟩
  obtain ⟨i, hi, rfl⟩ := List.mem_iff_getElem.1 ho
  have h1 := rise_len (h.rem i hi) (by omega)
  have h2 := rise_len (h.need i hi) (by omega)
  have h3 := rise_len (h.exc i hi) (by omega)
  have := h.hp
  have := h.hn
  omega
end Go.Proofs.Ytonjhmnbcgchbaa
