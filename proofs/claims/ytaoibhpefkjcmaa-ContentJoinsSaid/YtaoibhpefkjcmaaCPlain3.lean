/-
  Layer 4 (content): the law ContentPrints in plain words.
-/
import Derived.Test.YtaoibhpefkjcmaaCPlain2
namespace Go.Proofs.Ytaoibhpefkjcmaa
set_option linter.unusedSimpArgs false
open Go.Lad
set_option linter.unusedVariables false

theorem printM_at {l : List Bs} (hn : l.Nodup) {k : Nat} (hk : k < l.length) : printM l l[k] = (k : Int) := by
  unfold printM
  rw [pos_first hk rfl (fun j hj e => List.pairwise_iff_getElem.1 hn j k (by omega) hk hj e)]
theorem text_print {l : List Bs} {s : Bs} (h : s ∈ l) : textM l (printM l s) = (s, true) := by
  unfold printM
  cases hp : pos l s with
  | none => exact absurd h (pos_none.1 hp)
  | some i =>
    obtain ⟨hi, he, _⟩ := pos_hit hp
    show textM l (i : Int) = _
    unfold textM
    rw [if_neg (by omega), if_neg (by omega), Int.toNat_natCast, List.getD_eq_getElem?_getD, List.getElem?_eq_getElem hi, he]
    rfl
theorem text_neg (l : List Bs) : textM l (-1) = ([], false) := if_pos (by omega)
theorem prints_loop {l : List Bs} {s : Bs} (h : l.length ≤ 1000000) (hn : l.Nodup) : loopM (ladinglaw04_ContentPrints.b1 l s) (false, 0) = some (.inr (decide (s ∈ l))) := by
  refine loop_at (fun k => (decide (s ∈ l.take k), (k : Int))) l.length (by simp) (fun k hk => ?_) ?_
  · have hone : decide (s ∈ l.take (k + 1)) = (decide (s ∈ l.take k) || decide (l[k] = s)) := by
      rw [take_snoc l k hk]
      rw [← Bool.decide_or]
      exact decide_eq_decide.2 (by rw [List.mem_append, List.mem_singleton]; exact ⟨fun h => h.imp id Eq.symm, fun h => h.imp id Eq.symm⟩)
    show ladinglaw04_ContentPrints.b1 l s (decide (s ∈ l.take k), (k : Int)) = some (.inl (decide (s ∈ l.take (k + 1)), ((k + 1 : Nat) : Int)))
    rw [hone]
    generalize decide (s ∈ l.take k) = v
    simp only [ladinglaw04_ContentPrints.b1]
    rw [if_pos (by omega), idx_nat hk]
    simp only [bind_in]
    rw [print_eq h]
    simp only [bind_in]
    rw [if_pos (printM_at hn hk), i64_succ (by omega)]
    simp only [bind_in]
    cases v <;> simp
  · simp only [ladinglaw04_ContentPrints.b1]
    rw [if_neg (by omega), take_all l _ (Nat.le_refl _)]
theorem text_shape (l : List Bs) (n : Int) : (0 ≤ n → (textM l n).2 = decide (n < (l.length : Int))) ∧ (¬ 0 ≤ n → (textM l n).2 = false) ∧ ((textM l n).2 = false → (textM l n).1 = []) := by
  unfold textM
  by_cases h1 : n < 0
  · rw [if_pos h1]
    exact ⟨fun h => by omega, fun _ => rfl, fun _ => rfl⟩
  · rw [if_neg h1]
    by_cases h2 : (l.length : Int) ≤ n
    · rw [if_pos h2]
      exact ⟨fun _ => by simp; omega, fun _ => rfl, fun _ => rfl⟩
    · rw [if_neg h2]
      exact ⟨fun _ => by simp; omega, fun h => by omega, fun h => by cases h⟩
theorem prints_true (l : List Bs) (s : Bs) (n : Int) : ladinglaw04_ContentPrints l s n = some true := by
  unfold ladinglaw04_ContentPrints
  obtain ⟨fa, hfa, ha⟩ := few_eq l
  rw [small_eq, hfa]
  simp only [bind_in]
  by_cases h1 : fa = true
  · have ha := ha h1
    have hA := ha.fits
    rw [if_pos h1]
    by_cases h3 : 100 < (s.length : Int)
    · rw [if_pos h3]
    · rw [if_neg h3, right_eq hA]
      simp only [bind_in]
      by_cases hr : rightM l = true
      · rw [if_pos hr, prints_loop hA.1 (right_nodup hr)]
        simp only [bind_in]
        rw [print_eq hA.1, text_eq]
        simp only [bind_in]
        rw [text_eq]
        simp only [bind_in]
        obtain ⟨t1, t2, t3⟩ := text_shape l n
        generalize textM l n = t at *
        have fin : (if 0 ≤ n then
            (if (t.2 == decide (n < (l.length : Int))) = true then (if t.2 = true then some true else some (decide (t.1 = []))) else some false)
          else
            (if (t.2 == false) = true then (if t.2 = true then some true else some (decide (t.1 = []))) else some false)) = some true := by
          have tail : (if t.2 = true then some true else some (decide (t.1 = []))) = some true := by
            by_cases ht : t.2 = true
            · rw [if_pos ht]
            · rw [if_neg ht, t3 (by simpa using ht)]
              rfl
          by_cases h0 : 0 ≤ n
          · rw [if_pos h0, t1 h0] at *
            rw [if_pos (by simp)]
            rw [← t1 h0]
            exact tail
          · rw [if_neg h0, if_pos (by rw [t2 h0]; rfl)]
            exact tail
        by_cases hs : s ∈ l
        · rw [text_print hs]
          simp only [hs, decide_true, beq_self_eq_true, if_true]
          exact fin
        · rw [printM_not hs, text_neg]
          simp only [hs, decide_false, beq_self_eq_true, if_true, Bool.false_eq_true, if_false]
          exact fin
      · rw [if_neg hr]
  · rw [if_neg h1]
end Go.Proofs.Ytaoibhpefkjcmaa
