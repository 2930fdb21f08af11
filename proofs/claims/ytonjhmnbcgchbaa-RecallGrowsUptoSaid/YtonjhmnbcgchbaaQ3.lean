/-
  Masks of lists; loading; what a set costs, removes, needs and excludes.
-/
import Derived.Test.YtonjhmnbcgchbaaQ2
namespace Go.Proofs.Ytonjhmnbcgchbaa
open Go.Lad
set_option linter.unusedVariables false
set_option linter.unusedSectionVars false
set_option linter.unusedSimpArgs false

def mask (l : List Int) : Nat := l.foldl (fun m x => m ||| 2 ^ x.toNat) 0
theorem maskF_bit (i : Nat) : ∀ (l : List Int) (m : Nat), (∀ x ∈ l, 0 ≤ x) → (l.foldl (fun m x => m ||| 2 ^ x.toNat) m).testBit i = (m.testBit i || decide ((i : Int) ∈ l))
  | [], m, _ => by simp
  | x :: l, m, h => by
    rw [List.foldl_cons, maskF_bit i l _ fun y hy => h y (List.mem_cons_of_mem _ hy), Nat.testBit_or, Nat.testBit_two_pow]
    have hx := h x List.mem_cons_self
    by_cases e : (i : Int) = x
    · have : x.toNat = i := by omega
      simp [e, this]
    · have : ¬ x.toNat = i := by omega
      simp [e, this]
theorem mask_bit {l : List Int} (h : ∀ x ∈ l, 0 ≤ x) (i : Nat) : (mask l).testBit i = decide ((i : Int) ∈ l) := by
  unfold mask; rw [maskF_bit i l 0 h]; simp
theorem maskF_lt {n : Nat} : ∀ (l : List Int) (m : Nat), m < 2 ^ n → (∀ x ∈ l, x < n ∧ 0 ≤ x) → l.foldl (fun m x => m ||| 2 ^ x.toNat) m < 2 ^ n
  | [], m, hm, _ => hm
  | x :: l, m, hm, h => by
    have hx := h x List.mem_cons_self
    exact maskF_lt l _ (Nat.or_lt_two_pow hm (Nat.pow_lt_pow_right (by omega) (by omega))) fun y hy => h y (List.mem_cons_of_mem _ hy)
theorem mask_lt {l : List Int} {n : Nat} (h : ∀ x ∈ l, x < n ∧ 0 ≤ x) : mask l < 2 ^ n := maskF_lt l 0 (Nat.pow_pos (by omega)) h
theorem bits_eq {l : List Int} (h : ∀ x ∈ l, x < 64 ∧ 0 ≤ x) (hl : l.length ≤ 1000000) : recall_bits l = some (mask l : Int) := by
  have key : recall_bits l = some ((foldI (fun _ (m : Nat) (x : Int) => m ||| 2 ^ x.toNat) 0 0 l : Nat) : Int) := by
    unfold recall_bits
    refine loop_fold (fun k (s : Nat) => ((s : Int), (k : Int))) l (fun _ m x => m ||| 2 ^ x.toNat) (fun s => (s : Int)) (fun _ s => s < 18446744073709551616) (fun k hk s hs => ?_) (fun k hk s hs => ?_) (fun s _ => ?_) (by omega) (s0 := 0) (by decide)
    · have := h l[k] (List.getElem_mem hk)
      exact Nat.or_lt_two_pow (n := 64) hs (two_lt (by omega))
    · have := h l[k] (List.getElem_mem hk)
      unfold recall_bits.b1
      simp only [ltZ_eq, bif_dec, idx_nat hk, bind_in, z64_succ (show k + 1 ≤ 9223372036854775807 by omega)]
      rw [if_pos (by omega)]
      obtain ⟨q, hq⟩ := Int.eq_ofNat_of_zero_le this.2
      rw [hq, shlZ_nat (by omega), bind_in, orI_nat hs (two_lt (by omega))]
      simp
    · unfold recall_bits.b1
      simp only [ltZ_eq, bif_dec]
      rw [if_neg (by omega)]
  rw [key, foldI_foldl (fun (m : Nat) (x : Int) => m ||| 2 ^ x.toNat)]; rfl
def conv (o : GOption) : GOptionx := (o.1, (mask o.2.1 : Int), (mask o.2.2.1 : Int), (mask o.2.2.2 : Int))
theorem foldl_snoc {α β : Type} (f : α → β) : ∀ (l : List α) (s : List β), l.foldl (fun s x => s ++ [f x]) s = s ++ l.map f
  | [], s => by simp
  | x :: l, s => by rw [List.foldl_cons, foldl_snoc f l]; simp
section
variable {l : List GOption} {p : Nat} (h : RT l p)
include h
theorem RT.mrem {i : Nat} (hi : i < l.length) : ∀ x ∈ l[i].2.1, x < (p : Int) ∧ 0 ≤ x := fun x hx => by have := rise_mem (h.rem i hi) x hx; omega
theorem RT.mneed {i : Nat} (hi : i < l.length) : ∀ x ∈ l[i].2.2.1, x < (l.length : Int) ∧ 0 ≤ x := fun x hx => by have := rise_mem (h.need i hi) x hx; omega
theorem RT.mexc {i : Nat} (hi : i < l.length) : ∀ x ∈ l[i].2.2.2, x < (l.length : Int) ∧ 0 ≤ x := fun x hx => by have := rise_mem (h.exc i hi) x hx; omega
theorem load_eq : recall_load l p = some (((2 ^ p - 1 : Nat) : Int), 0, Never, l.map conv, []) := by
  have hp := h.hp
  have hn := h.hn
  unfold recall_load
  rw [shlZ_nat (by omega), bind_in, wrap_pred (Nat.pow_pos (by omega)) (Nat.le_of_lt (two_lt (by omega)))]
  have key := loop_fold (body := fun x => recall_load.b1 l x.1 x.2.1 x.2.2.1 x.2.2.2.1 x.2.2.2.2) (fun k (s : List GOptionx) => ((k : Int), ((2 ^ p - 1 : Nat) : Int), (0 : Int), Never, s)) l (fun _ s o => s ++ [conv o]) (fun s => (((2 ^ p - 1 : Nat) : Int), (0 : Int), Never, s, ([] : List GBranch))) (fun k s => s.length = k) (fun k hk s hs => by simp [hs]) (fun k hk s hs => ?_) (fun s _ => ?_) (by omega) (s0 := []) rfl
  · rw [foldI_foldl (fun (s : List GOptionx) o => s ++ [conv o]), foldl_snoc conv] at key
    exact key
  · have lit := h.lit.2 l[k] (List.getElem_mem hk)
    unfold recall_load.b1
    simp only [ltZ_eq, bif_dec, idx_nat hk, bind_in, z64_succ (show k + 1 ≤ 9223372036854775807 by omega)]
    rw [if_pos (by omega), bits_eq (fun x hx => by have := h.mrem hk x hx; omega) lit.1, bind_in, bits_eq (fun x hx => by have := h.mneed hk x hx; omega) lit.2.1, bind_in, bits_eq (fun x hx => by have := h.mexc hk x hx; omega) lit.2.2, bind_in]
    unfold app?
    rw [if_pos (by simp; omega), bind_in]
    rfl
  · unfold recall_load.b1
    simp only [ltZ_eq, bif_dec]
    rw [if_neg (by omega)]
/-- the first k options that are in a set: cost, what they remove, need, exclude -/
def sumT (l : List GOption) (m : Nat) : Nat → Int × Nat × Nat × Nat
  | 0 => (0, 0, 0, 0)
  | k + 1 => if m.testBit k = true then ((sumT l m k).1 + (l.getD k (0, [], [], [])).1, (sumT l m k).2.1 ||| mask (l.getD k (0, [], [], [])).2.1, (sumT l m k).2.2.1 ||| mask (l.getD k (0, [], [], [])).2.2.1, (sumT l m k).2.2.2 ||| mask (l.getD k (0, [], [], [])).2.2.2) else sumT l m k
omit h in
theorem getD_at {k : Nat} (hk : k < l.length) : l.getD k (0, [], [], []) = l[k] := by simp [hk]
theorem sumT_ok (m : Nat) : ∀ k, k ≤ l.length → 0 ≤ (sumT l m k).1 ∧ (sumT l m k).1 ≤ 1073741824 * k ∧ (sumT l m k).2.1 < 2 ^ p ∧ (sumT l m k).2.2.1 < 2 ^ l.length ∧ (sumT l m k).2.2.2 < 2 ^ l.length
  | 0, _ => ⟨Int.le_refl _, by simp [sumT], Nat.pow_pos (by omega), Nat.pow_pos (by omega), Nat.pow_pos (by omega)⟩
  | k + 1, hk => by
    have ih := sumT_ok m k (by omega)
    unfold sumT
    split
    · rw [getD_at (show k < l.length by omega)]
      have hc := h.cost k (by omega)
      refine ⟨by dsimp only; omega, by dsimp only; omega, Nat.or_lt_two_pow ih.2.2.1 (mask_lt (h.mrem (by omega))), Nat.or_lt_two_pow ih.2.2.2.1 (mask_lt (h.mneed (by omega))), Nat.or_lt_two_pow ih.2.2.2.2 (mask_lt (h.mexc (by omega)))⟩
    · omega
theorem sum_eq {m : Nat} (hm : m < 18446744073709551616) (p2 p3 p4 : Int) (t : List GBranch) : recall_problem_sum m p2 p3 p4 (l.map conv) t = some ((sumT l m l.length).1, ((sumT l m l.length).2.1 : Int), ((sumT l m l.length).2.2.1 : Int), ((sumT l m l.length).2.2.2 : Int)) := by
  have hp := h.hp
  have hn := h.hn
  unfold recall_problem_sum
  refine loopF_at (fun k => ((k : Int), (sumT l m k).1, ((sumT l m k).2.1 : Int), ((sumT l m k).2.2.1 : Int), ((sumT l m k).2.2.2 : Int))) l.length rfl (fun k hk => ?_) ?_ (by omega)
  · have ih := sumT_ok h m k (by omega)
    have hc := h.cost k hk
    have hl : k < (l.map conv).length := by simpa using hk
    have l1 : mask l[k].2.1 < 2 ^ p := mask_lt (h.mrem hk)
    have l2 : mask l[k].2.2.1 < 2 ^ l.length := mask_lt (h.mneed hk)
    have l3 : mask l[k].2.2.2 < 2 ^ l.length := mask_lt (h.mexc hk)
    unfold recall_problem_sum.b1
    simp only [ltZ_eq, bif_dec, bif_not, idx_nat hl, bind_in, z64_succ (show k + 1 ≤ 9223372036854775807 by omega), List.getElem_map, shlZ_nat (show k < 64 by omega), andI_nat hm (two_lt (show k < 64 by omega)), eqZ_eq]
    rw [if_pos (by simp; omega)]
    have e : ((((m &&& 2 ^ k : Nat) : Int)) = 0) ↔ m.testBit k = false := by rw [← and_two]; omega
    conv => rhs; unfold sumT
    rw [getD_at hk]
    by_cases hb : m.testBit k = true
    · rw [if_neg (by rw [e, hb]; simp), if_pos hb]
      show (z64 ((sumT l m k).1 + l[k].1)).bind _ = _
      rw [z64_i (by omega), bind_in]
      show some (Sum.inl (((k + 1 : Nat) : Int), _, orI .u64 ((sumT l m k).2.1 : Int) (mask l[k].2.1 : Int), orI .u64 ((sumT l m k).2.2.1 : Int) (mask l[k].2.2.1 : Int), orI .u64 ((sumT l m k).2.2.2 : Int) (mask l[k].2.2.2 : Int))) = _
      rw [orI_nat (w_lt_of (by omega) ih.2.2.1) (w_lt_of (by omega) l1), orI_nat (w_lt_of (by omega) ih.2.2.2.1) (w_lt_of (by omega) l2), orI_nat (w_lt_of (by omega) ih.2.2.2.2) (w_lt_of (by omega) l3)]
    · rw [if_pos (by rw [e]; simpa using hb), if_neg hb]
  · unfold recall_problem_sum.b1
    simp only [ltZ_eq, bif_dec]
    rw [if_neg (by simp)]
end
theorem sum2_eq (a b c d : Int) (t : List GBranch) (o : List GOptionx) : recall_problem_sum_v2 a b c d t o = recall_problem_sum a b c d o t := rfl
theorem bound2_eq (a b c d e : Int) (t : List GBranch) (o : List GOptionx) : recall_problem_bound_v2 a b c d e t o = recall_problem_bound a b c d e o t := rfl
/-! ### a set, by what is in it -/
theorem sumT_rem {l : List GOption} {p : Nat} (h : RT l p) (m q : Nat) : ∀ k, k ≤ l.length → ((sumT l m k).2.1.testBit q = true ↔ ∃ i, ∃ hi : i < l.length, i < k ∧ m.testBit i = true ∧ (q : Int) ∈ l[i].2.1)
  | 0, _ => by simp [sumT]
  | k + 1, hk => by
    have ih := sumT_rem h m q k (by omega)
    have hb := mask_bit (fun x hx => (h.mrem (show k < l.length by omega) x hx).2) q
    unfold sumT
    constructor
    · intro hx
      split at hx
      · rw [getD_at (show k < l.length by omega)] at hx
        dsimp only at hx
        rw [Nat.testBit_or, Bool.or_eq_true, hb, decide_eq_true_eq] at hx
        rcases hx with hx | hx
        · obtain ⟨i, hi, h1, h2, h3⟩ := ih.1 hx
          exact ⟨i, hi, by omega, h2, h3⟩
        · exact ⟨k, by omega, by omega, by assumption, hx⟩
      · obtain ⟨i, hi, h1, h2, h3⟩ := ih.1 hx
        exact ⟨i, hi, by omega, h2, h3⟩
    · rintro ⟨i, hi, h1, h2, h3⟩
      by_cases hik : i = k
      · subst hik
        rw [if_pos h2, getD_at hi]
        dsimp only
        rw [Nat.testBit_or, Bool.or_eq_true, hb, decide_eq_true_eq]
        exact .inr h3
      · have := ih.2 ⟨i, hi, by omega, h2, h3⟩
        split
        · dsimp only; rw [Nat.testBit_or, Bool.or_eq_true]; exact .inl this
        · exact this
theorem sumT_need {l : List GOption} {p : Nat} (h : RT l p) (m q : Nat) : ∀ k, k ≤ l.length → ((sumT l m k).2.2.1.testBit q = true ↔ ∃ i, ∃ hi : i < l.length, i < k ∧ m.testBit i = true ∧ (q : Int) ∈ l[i].2.2.1)
  | 0, _ => by simp [sumT]
  | k + 1, hk => by
    have ih := sumT_need h m q k (by omega)
    have hb := mask_bit (fun x hx => (h.mneed (show k < l.length by omega) x hx).2) q
    unfold sumT
    constructor
    · intro hx
      split at hx
      · rw [getD_at (show k < l.length by omega)] at hx
        dsimp only at hx
        rw [Nat.testBit_or, Bool.or_eq_true, hb, decide_eq_true_eq] at hx
        rcases hx with hx | hx
        · obtain ⟨i, hi, h1, h2, h3⟩ := ih.1 hx
          exact ⟨i, hi, by omega, h2, h3⟩
        · exact ⟨k, by omega, by omega, by assumption, hx⟩
      · obtain ⟨i, hi, h1, h2, h3⟩ := ih.1 hx
        exact ⟨i, hi, by omega, h2, h3⟩
    · rintro ⟨i, hi, h1, h2, h3⟩
      by_cases hik : i = k
      · subst hik
        rw [if_pos h2, getD_at hi]
        dsimp only
        rw [Nat.testBit_or, Bool.or_eq_true, hb, decide_eq_true_eq]
        exact .inr h3
      · have := ih.2 ⟨i, hi, by omega, h2, h3⟩
        split
        · dsimp only; rw [Nat.testBit_or, Bool.or_eq_true]; exact .inl this
        · exact this
theorem sumT_exc {l : List GOption} {p : Nat} (h : RT l p) (m q : Nat) : ∀ k, k ≤ l.length → ((sumT l m k).2.2.2.testBit q = true ↔ ∃ i, ∃ hi : i < l.length, i < k ∧ m.testBit i = true ∧ (q : Int) ∈ l[i].2.2.2)
  | 0, _ => by simp [sumT]
  | k + 1, hk => by
    have ih := sumT_exc h m q k (by omega)
    have hb := mask_bit (fun x hx => (h.mexc (show k < l.length by omega) x hx).2) q
    unfold sumT
    constructor
    · intro hx
      split at hx
      · rw [getD_at (show k < l.length by omega)] at hx
        dsimp only at hx
        rw [Nat.testBit_or, Bool.or_eq_true, hb, decide_eq_true_eq] at hx
        rcases hx with hx | hx
        · obtain ⟨i, hi, h1, h2, h3⟩ := ih.1 hx
          exact ⟨i, hi, by omega, h2, h3⟩
        · exact ⟨k, by omega, by omega, by assumption, hx⟩
      · obtain ⟨i, hi, h1, h2, h3⟩ := ih.1 hx
        exact ⟨i, hi, by omega, h2, h3⟩
    · rintro ⟨i, hi, h1, h2, h3⟩
      by_cases hik : i = k
      · subst hik
        rw [if_pos h2, getD_at hi]
        dsimp only
        rw [Nat.testBit_or, Bool.or_eq_true, hb, decide_eq_true_eq]
        exact .inr h3
      · have := ih.2 ⟨i, hi, by omega, h2, h3⟩
        split
        · dsimp only; rw [Nat.testBit_or, Bool.or_eq_true]; exact .inl this
        · exact this
end Go.Proofs.Ytonjhmnbcgchbaa
