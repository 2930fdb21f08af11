/-
  Masks: sets of numbers below 64 as natural numbers. No program in sight.
-/
import Derived.Test.YtonjhmnbcgchbaaLs
namespace Go.Lad
set_option linter.unusedVariables false
set_option linter.unusedSectionVars false
set_option linter.unusedSimpArgs false


theorem wrap_nat {a : Nat} (h : a < 18446744073709551616) : IntKind.u64.wrap (a : Int) = (a : Int) := by
  unfold IntKind.wrap
  have h1 : (a : Int) % 18446744073709551616 = (a : Int) := Int.emod_eq_of_lt (by omega) (by omega)
  simp [IntKind.bits, IntKind.signed, h1]
theorem bv_nat {a : Nat} : BitVec.ofInt 64 (a : Int) = BitVec.ofNat 64 a := by simp
theorem bv_to {a : Nat} (h : a < 18446744073709551616) : (BitVec.ofNat 64 a).toNat = a := by rw [BitVec.toNat_ofNat]; exact Nat.mod_eq_of_lt h
theorem w_lt_of {a : Nat} {n : Nat} (hn : n ≤ 64) (h : a < 2 ^ n) : a < 18446744073709551616 := Nat.lt_of_lt_of_le h (show 2 ^ n ≤ 2 ^ 64 from Nat.pow_le_pow_right (by omega) hn)
theorem orI_nat {a b : Nat} (ha : a < 18446744073709551616) (hb : b < 18446744073709551616) : orI .u64 (a : Int) (b : Int) = ((a ||| b : Nat) : Int) := by
  unfold orI
  show IntKind.u64.wrap (((BitVec.ofInt 64 (a : Int) ||| BitVec.ofInt 64 (b : Int)).toNat : Nat) : Int) = _
  rw [bv_nat, bv_nat, BitVec.toNat_or, bv_to ha, bv_to hb]
  exact wrap_nat (show a ||| b < 2 ^ 64 from Nat.or_lt_two_pow ha hb)
theorem andI_nat {a b : Nat} (ha : a < 18446744073709551616) (hb : b < 18446744073709551616) : andI .u64 (a : Int) (b : Int) = ((a &&& b : Nat) : Int) := by
  unfold andI
  show IntKind.u64.wrap (((BitVec.ofInt 64 (a : Int) &&& BitVec.ofInt 64 (b : Int)).toNat : Nat) : Int) = _
  rw [bv_nat, bv_nat, BitVec.toNat_and, bv_to ha, bv_to hb]
  exact wrap_nat (show a &&& b < 2 ^ 64 from Nat.and_lt_two_pow a hb)
def anN (a b : Nat) : Nat := a &&& (18446744073709551615 - b)
theorem anI_nat {a b : Nat} (ha : a < 18446744073709551616) (hb : b < 18446744073709551616) : anI .u64 (a : Int) (b : Int) = ((anN a b : Nat) : Int) := by
  unfold anI anN
  show IntKind.u64.wrap (((BitVec.ofInt 64 (a : Int) &&& ~~~BitVec.ofInt 64 (b : Int)).toNat : Nat) : Int) = _
  rw [bv_nat, bv_nat, BitVec.toNat_and, BitVec.toNat_not, bv_to ha, bv_to hb]
  have : (2 ^ 64 - 1 - b : Nat) = 18446744073709551615 - b := by omega
  rw [this]
  exact wrap_nat (show a &&& _ < 2 ^ 64 from Nat.and_lt_two_pow a (by show 18446744073709551615 - b < 18446744073709551616; omega))
theorem anN_bit {a b : Nat} (hb : b < 18446744073709551616) (ha : a < 18446744073709551616) (i : Nat) : (anN a b).testBit i = (a.testBit i && !b.testBit i) := by
  unfold anN
  rw [Nat.testBit_and]
  have e : 18446744073709551615 - b = 2 ^ 64 - (b + 1) := by omega
  rw [e, Nat.testBit_two_pow_sub_succ hb]
  by_cases hi : i < 64
  · simp [hi]
  · have : a.testBit i = false := Nat.testBit_lt_two_pow (Nat.lt_of_lt_of_le ha (show 2 ^ 64 ≤ 2 ^ i from Nat.pow_le_pow_right (by omega) (by omega)))
    simp [this]
theorem anN_lt {a b : Nat} (ha : a < 18446744073709551616) : anN a b < 18446744073709551616 := show a &&& _ < 18446744073709551616 from Nat.lt_of_le_of_lt Nat.and_le_left ha
theorem shlI_nat {k : Nat} (hk : k < 64) : shlI .u64 1 (k : Int) = ((2 ^ k : Nat) : Int) := by
  unfold shlI
  have h2 : min ((k : Int).toNat) (IntKind.u64.bits) = k := by show min ((k : Int).toNat) 64 = k; simp; omega
  rw [h2, Int.one_mul]
  have : ((2 : Int) ^ k) = ((2 ^ k : Nat) : Int) := by simp
  rw [this]
  exact wrap_nat (w_lt_of (n := k + 1) (by omega) (Nat.pow_lt_pow_right (by omega) (by omega)))
theorem shlZ_nat {k : Nat} (hk : k < 64) : shlZ .u64 1 (k : Int) = some ((2 ^ k : Nat) : Int) := by
  unfold shlZ
  rw [leZ_eq, decide_eq_true (by omega), cond_true, shlI_nat hk]
theorem two_lt {k : Nat} (hk : k < 64) : 2 ^ k < 18446744073709551616 := w_lt_of (n := k + 1) (by omega) (Nat.pow_lt_pow_right (by omega) (by omega))
theorem wrap_pred {a : Nat} (h0 : 0 < a) (h : a ≤ 18446744073709551616) : IntKind.u64.wrap ((a : Int) - 1) = ((a - 1 : Nat) : Int) := by
  rw [show (a : Int) - 1 = ((a - 1 : Nat) : Int) by omega]
  exact wrap_nat (by omega)
theorem and_two {a k : Nat} : (a &&& 2 ^ k = 0) ↔ a.testBit k = false := by
  constructor
  · intro h
    have := congrArg (fun x => Nat.testBit x k) h
    simpa [Nat.testBit_and, Nat.testBit_two_pow_self] using this
  · intro h
    apply Nat.eq_of_testBit_eq
    intro i
    rw [Nat.testBit_and, Nat.zero_testBit, Nat.testBit_two_pow]
    by_cases hi : k = i
    · subst hi; simp [h]
    · simp [hi]
theorem and_zero {a b : Nat} : (a &&& b = 0) ↔ ∀ i, ¬ (a.testBit i = true ∧ b.testBit i = true) := by
  constructor
  · intro h i ⟨h1, h2⟩
    have := congrArg (fun x => Nat.testBit x i) h
    simp [Nat.testBit_and, h1, h2] at this
  · intro h
    apply Nat.eq_of_testBit_eq
    intro i
    rw [Nat.testBit_and, Nat.zero_testBit]
    cases h1 : a.testBit i <;> cases h2 : b.testBit i <;> simp
    exact h i ⟨h1, h2⟩
theorem bit_lt {m n i : Nat} (h : m < 2 ^ n) (hi : m.testBit i = true) : i < n := by
  rcases Nat.lt_or_ge i n with h2 | h2
  · exact h2
  · rw [Nat.testBit_lt_two_pow (Nat.lt_of_lt_of_le h (Nat.pow_le_pow_right (by omega) h2))] at hi; cases hi
/-! ### the lowest bit -/
theorem low_form : ∀ (x : Nat), 0 < x → ∃ t u, x = 2 ^ t * (2 * u + 1) := by
  intro x
  induction x using Nat.strongRecOn with
  | ind x ih =>
    intro h
    rcases Nat.mod_two_eq_zero_or_one x with h0 | h1
    · obtain ⟨t, u, e⟩ := ih (x / 2) (by omega) (by omega)
      exact ⟨t + 1, u, by rw [Nat.pow_succ, Nat.mul_assoc, Nat.mul_left_comm, ← e]; omega⟩
    · exact ⟨0, x / 2, by rw [Nat.pow_zero, Nat.one_mul]; omega⟩
theorem tb_form {t a b : Nat} (hb : b < 2 ^ t) (j : Nat) : (2 ^ t * a + b).testBit j = if j < t then b.testBit j else a.testBit (j - t) := Nat.testBit_two_pow_mul_add a hb j
theorem tb_odd (u j : Nat) : (2 * u + 1).testBit j = if j = 0 then true else u.testBit (j - 1) := by
  cases j with
  | zero => simp
  | succ j =>
    rw [Nat.testBit_succ]
    rw [show (2 * u + 1) / 2 = u by omega]; simp
theorem tb_even (u j : Nat) : (2 * u).testBit j = if j = 0 then false else u.testBit (j - 1) := by
  cases j with
  | zero => simp
  | succ j =>
    rw [Nat.testBit_succ]
    rw [show (2 * u) / 2 = u by omega]; simp
/-- the lowest bit: alone, and the rest without it -/
theorem low_bit {x : Nat} (h0 : 0 < x) (hx : x < 18446744073709551616) : ∃ t, t < 64 ∧ x.testBit t = true ∧ (∀ j, j < t → x.testBit j = false) ∧ andI .u64 (x : Int) (negU (x : Int)) = ((2 ^ t : Nat) : Int) ∧
    ∃ y : Nat, andI .u64 (x : Int) (IntKind.u64.wrap ((x : Int) - 1)) = (y : Int) ∧ y < x ∧ ∀ j, y.testBit j = (x.testBit j && decide (j ≠ t)) := by
  obtain ⟨t, u, e⟩ := low_form x h0
  have hpos : 0 < 2 ^ t := Nat.pow_pos (by omega)
  have hbit : ∀ j, x.testBit j = if j < t then false else if j = t then true else u.testBit (j - t - 1) := fun j => by
    have := tb_form (t := t) (a := 2 * u + 1) (b := 0) hpos j
    rw [Nat.add_zero, ← e] at this
    rw [this, tb_odd]
    simp only [Nat.zero_testBit]
    by_cases h1 : j < t
    · simp [h1]
    · by_cases h2 : j = t
      · subst h2; simp
      · rw [if_neg h1, if_neg h1, if_neg (by omega), if_neg h2]
  have htb : x.testBit t = true := by rw [hbit]; simp
  have ht : t < 64 := bit_lt hx htb
  have hxm : x - 1 = 2 ^ t * (2 * u) + (2 ^ t - 1) := by rw [e, Nat.mul_add, Nat.mul_one]; omega
  have hbm : ∀ j, (x - 1).testBit j = if j < t then true else if j = t then false else u.testBit (j - t - 1) := fun j => by
    have := tb_form (t := t) (a := 2 * u) (b := 2 ^ t - 1) (by omega) j
    rw [← hxm] at this
    rw [this, tb_even, Nat.testBit_two_pow_sub_one]
    by_cases h1 : j < t
    · simp [h1]
    · by_cases h2 : j = t
      · subst h2; simp
      · rw [if_neg h1, if_neg h1, if_neg (by omega), if_neg h2]
  refine ⟨t, ht, htb, fun j hj => by rw [hbit, if_pos hj], ?_, ?_⟩
  · -- alone
    have hn : negU (x : Int) = ((18446744073709551616 - x : Nat) : Int) := by
      unfold negU IntKind.wrap
      have h1 : (0 - (x : Int)) % 18446744073709551616 = ((18446744073709551616 - x : Nat) : Int) := by omega
      simp [IntKind.bits, IntKind.signed] at h1 ⊢
      omega
    rw [hn, andI_nat hx (by omega)]
    congr 1
    apply Nat.eq_of_testBit_eq
    intro j
    rw [Nat.testBit_and, Nat.testBit_two_pow]
    have e2 : 18446744073709551616 - x = 2 ^ 64 - ((x - 1) + 1) := by omega
    rw [e2, Nat.testBit_two_pow_sub_succ (show x - 1 < 2 ^ 64 by show x - 1 < 18446744073709551616; omega), hbit, hbm]
    by_cases h1 : j < t
    · have : t ≠ j := by omega
      simp [h1, this]
    · by_cases h2 : j = t
      · subst h2; simp [ht]
      · have : t ≠ j := fun h => h2 h.symm
        simp [h1, h2, this]
        cases u.testBit (j - t - 1) <;> simp
  · refine ⟨x &&& (x - 1), ?_, ?_, fun j => ?_⟩
    · rw [wrap_pred h0 (by omega), andI_nat hx (by omega)]
    · have := @Nat.and_le_right x (x - 1); omega
    · rw [Nat.testBit_and, hbit, hbm]
      by_cases h1 : j < t
      · have : j ≠ t := by omega
        simp [h1, this]
      · by_cases h2 : j = t
        · subst h2; simp
        · simp [h1, h2]
end Go.Lad
