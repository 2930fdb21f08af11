/-
  Layer 14 (lex): what the small functions compute, in plain words.
-/
import Derived.Test.YtblcedjcialnhaaDoorLModel
import Derived.Test.YtblcedjcialnhaaDoorLs
import Derived.IntWalk
namespace Go.Proofs.YtblcedjcialnhaaDoor
open Go.Lad
set_option linter.unusedVariables false
set_option linter.unusedSimpArgs false

def isL (c : UInt8) : Bool := decide (97 ≤ c.toNat ∧ c.toNat ≤ 122)
def isD (c : UInt8) : Bool := decide (48 ≤ c.toNat ∧ c.toNat ≤ 57)
def isB (c : UInt8) : Bool := decide (c.toNat = 32 ∨ c.toNat = 9 ∨ c.toNat = 10)
def isA (c : UInt8) : Bool := isL c || isD c
theorem bAt_nat {s : Bs} {k : Nat} (h : k < s.length) : bAt s (k : Int) = some (s[k].toNat : Int) := by unfold bAt; rw [idx_nat h]; rfl
theorem bAt_0 {s : Bs} (h : 0 < s.length) : bAt s 0 = some (s[0].toNat : Int) := bAt_nat h
theorem tw_stop {α : Type} (p : α → Bool) : ∀ (s : List α) (h : (s.takeWhile p).length < s.length), p s[(s.takeWhile p).length] = false
  | x :: r, h => by
    by_cases hx : p x = true
    · have e : (x :: r).takeWhile p = x :: r.takeWhile p := by simp [hx]
      have hl : (r.takeWhile p).length < r.length := by rw [e] at h; simpa using h
      have := tw_stop p r hl
      simp only [e, List.length_cons, List.getElem_cons_succ]
      exact this
    · have e : (x :: r).takeWhile p = [] := by simp [hx]
      simp only [e, List.length_nil, List.getElem_cons_zero]
      simpa using hx
theorem tw_in {α : Type} (p : α → Bool) : ∀ (s : List α) (k : Nat) (h : k < (s.takeWhile p).length) (h2 : k < s.length), p s[k] = true
  | x :: r, k, h, h2 => by
    by_cases hx : p x = true
    · have e : (x :: r).takeWhile p = x :: r.takeWhile p := by simp [hx]
      rw [e] at h
      cases k with
      | zero => exact hx
      | succ k => exact tw_in p r k (by simpa using h) (by simpa using h2)
    · have e : (x :: r).takeWhile p = [] := by simp [hx]
      rw [e] at h; cases h
theorem tw_le {α : Type} (p : α → Bool) (s : List α) : (s.takeWhile p).length ≤ s.length := (List.takeWhile_prefix p).length_le
theorem tw_take {α : Type} (p : α → Bool) (s : List α) : s.take (s.takeWhile p).length = s.takeWhile p := (List.prefix_iff_eq_take.1 (List.takeWhile_prefix p)).symm
theorem tw_all {α : Type} (p : α → Bool) (s : List α) : s.all p = decide ((s.takeWhile p).length = s.length) := by
  induction s with
  | nil => rfl
  | cons x r ih =>
    by_cases hx : p x = true
    · simp [hx, ih]
    · simp [hx]
theorem span_loop {body : Int → Option (Int ⊕ Int)} (p : UInt8 → Bool) (s : Bs) (k0 : Nat) (h0 : k0 ≤ s.length)
    (h : ∀ k (hk : k < s.length), body (k : Int) = some (if p s[k] = true then .inl ((k + 1 : Nat) : Int) else .inr (k : Int))) (hd : body (s.length : Int) = some (.inr (s.length : Int))) (hs : s.length ≤ 1000000000000) :
    loopF body (k0 : Int) = some ((k0 + ((s.drop k0).takeWhile p).length : Nat) : Int) := by
  have hle := tw_le p (s.drop k0)
  rw [List.length_drop] at hle
  refine loopF_at (fun k => ((k0 + k : Nat) : Int)) ((s.drop k0).takeWhile p).length rfl (fun k hk => ?_) ?_
  · rw [h (k0 + k) (by omega)]
    have := tw_in p (s.drop k0) k hk (by rw [List.length_drop]; omega)
    rw [List.getElem_drop] at this
    rw [if_pos this]; rfl
  · by_cases hl : k0 + ((s.drop k0).takeWhile p).length < s.length
    · rw [h _ hl]
      have := tw_stop p (s.drop k0) (by rw [List.length_drop]; omega)
      rw [List.getElem_drop] at this
      rw [if_neg (by rw [this]; simp)]
    · rw [show k0 + ((s.drop k0).takeWhile p).length = s.length by omega]; exact hd
abbrev Mx : Nat := 1000000000000
theorem letter_eq (c : UInt8) : lex_letter (c.toNat : Int) = some (isL c) := by
  unfold lex_letter isL
  simp only [leZ_eq, bif_dec]
  by_cases h : 97 ≤ c.toNat
  · rw [if_pos (by omega)]; congr 1; rw [decide_eq_decide]; omega
  · rw [if_neg (by omega)]; congr 1; symm; rw [decide_eq_false_iff_not]; omega
theorem digit_eq (c : UInt8) : lex_digit (c.toNat : Int) = some (isD c) := by
  unfold lex_digit isD
  simp only [leZ_eq, bif_dec]
  by_cases h : 48 ≤ c.toNat
  · rw [if_pos (by omega)]; congr 1; rw [decide_eq_decide]; omega
  · rw [if_neg (by omega)]; congr 1; symm; rw [decide_eq_false_iff_not]; omega
theorem rletter_eq (c : UInt8) : ladingref14_letter (c.toNat : Int) = some (isL c) := letter_eq c
theorem rdigit_eq (c : UInt8) : ladingref14_digit (c.toNat : Int) = some (isD c) := digit_eq c
theorem blank_eq (c : UInt8) : lex_blank (c.toNat : Int) = some (isB c) := by
  unfold lex_blank isB
  simp only [eqZ_eq, bif_dec]
  by_cases h : c.toNat = 32
  · rw [if_pos (by omega), decide_eq_true (.inl h)]
  · rw [if_neg (by omega)]
    by_cases h2 : c.toNat = 9
    · rw [if_pos (by omega), decide_eq_true (.inr (.inl h2))]
    · rw [if_neg (by omega)]; congr 1; rw [decide_eq_decide]; omega
theorem rblank_eq (c : UInt8) : ladingref14_Blank (c.toNat : Int) = some (isB c) := by
  unfold ladingref14_Blank isB
  simp only [eqZ_eq, bif_dec]
  by_cases h : c.toNat = 9
  · rw [if_pos (by omega), decide_eq_true (.inr (.inl h))]
  · rw [if_neg (by omega)]
    by_cases h2 : c.toNat = 10
    · rw [if_pos (by omega), decide_eq_true (.inr (.inr h2))]
    · rw [if_neg (by omega)]; congr 1; rw [decide_eq_decide]; omega
theorem next1_eq (c : UInt8) : lex_next_1 (c.toNat : Int) = some (isA c) := by
  unfold lex_next_1 isA
  rw [letter_eq, bind_in, digit_eq, bind_in]
  cases isL c <;> rfl
theorem word1_eq (c : UInt8) : lex_Word_1 (c.toNat : Int) = some (isA c) := next1_eq c
theorem span_eq {s : Bs} (hs : s.length ≤ Mx) : lex_span s = some ((s.takeWhile isB).length : Int) := by
  have := span_loop (body := fun x => lex_span.b1 s x) isB s 0 (Nat.zero_le _) (fun k hk => ?_) ?_ hs
  · rw [Nat.zero_add, List.drop_zero] at this; exact this
  · simp only [lex_span.b1, bif_ltZ, lt_t hk, if_true, bAt_nat hk, bind_in, blank_eq, lex_span.j1, z64_succ (show k + 1 ≤ 9223372036854775807 by unfold Mx at hs; omega)]
    cases isB s[k] <;> rfl
  · simp only [lex_span.b1, bif_ltZ, lt_f, if_false, bind_in, lex_span.j1]; rfl
theorem span2_eq {s : Bs} (hs : s.length ≤ Mx) : lex_span_v2 s = some ((s.takeWhile isA).length : Int) := by
  have := span_loop (body := fun x => lex_span_v2.b1 s x) isA s 0 (Nat.zero_le _) (fun k hk => ?_) ?_ hs
  · rw [Nat.zero_add, List.drop_zero] at this; exact this
  · simp only [lex_span_v2.b1, bif_ltZ, lt_t hk, if_true, bAt_nat hk, bind_in, next1_eq, lex_span_v2.j1, z64_succ (show k + 1 ≤ 9223372036854775807 by unfold Mx at hs; omega)]
    cases isA s[k] <;> rfl
  · simp only [lex_span_v2.b1, bif_ltZ, lt_f, if_false, bind_in, lex_span_v2.j1]; rfl
theorem span3_eq {s : Bs} (hs : s.length ≤ Mx) : lex_span_v3 s = some ((s.takeWhile isA).length : Int) := span2_eq hs
theorem span4_eq {s : Bs} (hs : s.length ≤ Mx) : lex_span_v4 s = some ((s.takeWhile isD).length : Int) := by
  have := span_loop (body := fun x => lex_span_v4.b1 s x) isD s 0 (Nat.zero_le _) (fun k hk => ?_) ?_ hs
  · rw [Nat.zero_add, List.drop_zero] at this; exact this
  · simp only [lex_span_v4.b1, bif_ltZ, lt_t hk, if_true, bAt_nat hk, bind_in, digit_eq, lex_span_v4.j1, z64_succ (show k + 1 ≤ 9223372036854775807 by unfold Mx at hs; omega)]
    cases isD s[k] <;> rfl
  · simp only [lex_span_v4.b1, bif_ltZ, lt_f, if_false, bind_in, lex_span_v4.j1]; rfl
/-! ### words -/
def headP (p : UInt8 → Bool) : Bs → Bool
  | [] => false
  | c :: _ => p c
theorem headP_at {p : UInt8 → Bool} {s : Bs} (h : 0 < s.length) : headP p s = p s[0] := by
  cases s with
  | nil => cases h
  | cons c r => rfl
def wordB (s : Bs) : Bool := headP isL s && decide (s.length ≤ 20) && s.all isA
theorem word_eq {s : Bs} (hs : s.length ≤ Mx) : lex_Word s = some (wordB s) := by
  unfold lex_Word
  rw [bif_dec]
  by_cases h0 : s = []
  · subst h0; rfl
  · have hp : 0 < s.length := List.length_pos_iff.2 h0
    rw [if_neg h0, bAt_0 hp, bind_in, letter_eq, bind_in, bif_not]
    unfold wordB
    rw [headP_at hp]
    cases h1 : isL s[0] with
    | false => rfl
    | true =>
      simp only [cond_true, ltZ_eq, bind_in, lex_Word.j1, span3_eq hs, bif_dec, eqZ_eq, Bool.true_and]
      by_cases h2 : s.length ≤ 20
      · rw [if_neg (by omega), tw_all]
        congr 1
        simp [h2]
        omega
      · rw [if_pos (by omega)]; simp [h2]
theorem rword_eq {s : Bs} (hs : s.length ≤ Mx) : ladingref14_Word s = some (wordB s) := by
  unfold ladingref14_Word
  simp only [ltZ_eq, bif_dec]
  by_cases h0 : s = []
  · subst h0; rfl
  · have hp : 0 < s.length := List.length_pos_iff.2 h0
    rw [if_neg (by omega)]
    by_cases h2 : s.length ≤ 20
    · rw [if_neg (by omega), bAt_0 hp, bind_in, rletter_eq, bind_in, bind_in]
      unfold wordB ladingref14_Word.j2
      rw [headP_at hp]
      cases h1 : isL s[0] with
      | false => rfl
      | true =>
        rw [Bool.not_true, cond_false, decide_eq_true h2, Bool.true_and, Bool.true_and]
        have key : ∃ b, loopF (fun x => ladingref14_Word.b1 s x) 1 = some b ∧ b = s.all isA := by
          have ha : isA s[0] = true := by unfold isA; rw [h1]; rfl
          refine loopF_inv (fun k x => x = ((k + 1 : Nat) : Int) ∧ k + 1 ≤ s.length ∧ ∀ j (hj : j < s.length), j ≤ k → isA s[j] = true) (s.length - 1) ⟨rfl, hp, fun j hj hk => by
            obtain rfl : j = 0 := by omega
            exact ha⟩ (fun k hk x hx => ?_) (fun x hx => ?_) (by omega)
          · obtain ⟨rfl, h3, h4⟩ := hx
            have hk1 : k + 1 < s.length := by omega
            have hb : ladingref14_Word.b1 s ((k + 1 : Nat) : Int) = some (if isA s[k + 1] = true then .inl ((k + 1 + 1 : Nat) : Int) else .inr false) := by
              simp only [ladingref14_Word.b1, bif_ltZ, lt_t hk1, if_true, bAt_nat hk1, bind_in, rletter_eq, rdigit_eq, ladingref14_Word.j1, z64_succ (show k + 1 + 1 ≤ 9223372036854775807 by omega), bif_not]
              unfold isA
              cases isL s[k + 1] <;> cases isD s[k + 1] <;> rfl
            cases h5 : isA s[k + 1] with
            | true =>
              exact .inl ⟨_, by rw [hb, if_pos h5], rfl, by omega, fun j hj hjk => by
                by_cases e : j = k + 1
                · subst e; exact h5
                · exact h4 j hj (by omega)⟩
            | false =>
              refine .inr ⟨_, by rw [hb, if_neg (by rw [h5]; simp)], ?_⟩
              symm
              rw [List.all_eq_false]
              exact ⟨s[k + 1], List.getElem_mem _, by rw [h5]; simp⟩
          · obtain ⟨rfl, h3, h4⟩ := hx
            refine ⟨true, ?_, ?_⟩
            · rw [show s.length - 1 + 1 = s.length by omega]
              simp only [ladingref14_Word.b1, bif_ltZ, lt_f, if_false]
            · symm
              rw [List.all_eq_true]
              intro x hx
              obtain ⟨i, hi, rfl⟩ := List.mem_iff_getElem.1 hx
              exact h4 i hi (by omega)
        obtain ⟨b, h5, rfl⟩ := key
        exact h5
    · rw [if_pos (by omega)]
      unfold wordB
      simp [h2, bind_in, ladingref14_Word.j2]
/-! ### numbers -/
def dig (c : UInt8) : Int := (c.toNat : Int) - 48
def val (s : Bs) : Int := s.foldl (fun n c => 10 * n + dig c) 0
theorem val_snoc (s : Bs) (c : UInt8) : val (s ++ [c]) = 10 * val s + dig c := by unfold val; rw [List.foldl_append]; rfl
theorem val_take (s : Bs) (k : Nat) (h : k < s.length) : val (s.take (k + 1)) = 10 * val (s.take k) + dig s[k] := by rw [take_snoc s k h, val_snoc]
def lead0 (s : Bs) : Bool := match s with | c :: _ :: _ => decide (c.toNat = 48) | _ => false
def numB (s : Bs) : Bool := decide (s ≠ []) && s.all isD && !lead0 s && decide (s.length ≤ 13) && decide (val s ≤ 1099511627776)
def numV (s : Bs) : Int × Bool := if numB s = true then (val s, true) else (0, false)
theorem dig_of {c : UInt8} (h : isD c = true) : 0 ≤ dig c ∧ dig c ≤ 9 := by
  have := of_decide_eq_true h
  unfold dig
  omega
theorem val_nn : ∀ (s : Bs) (k : Nat), (∀ j (hj : j < s.length), j < k → isD s[j] = true) → 0 ≤ val (s.take k) := by
  intro s k
  induction k with
  | zero => intro _; rw [List.take_zero]; exact Int.le_refl _
  | succ k ih =>
    intro h
    have h2 := ih fun j hj hk => h j hj (by omega)
    by_cases hk : k < s.length
    · rw [val_take s k hk]
      have := (dig_of (h k hk (by omega))).1
      omega
    · rw [take_all s (k + 1) (by omega)]; rw [take_all s k (by omega)] at h2; exact h2
/-- more digits: more -/
theorem val_mono (s : Bs) (k : Nat) (h : ∀ j (hj : j < s.length), isD s[j] = true) : ∀ d, val (s.take k) ≤ val (s.take (k + d))
  | 0 => Int.le_refl _
  | d + 1 => by
    have ih := val_mono s k h d
    by_cases hk : k + d < s.length
    · rw [show k + (d + 1) = k + d + 1 by omega, val_take s _ hk]
      have := (dig_of (h _ hk)).1
      have := val_nn s (k + d) fun j hj _ => h j hj
      omega
    · rw [take_all s (k + (d + 1)) (by omega)]; rw [take_all s (k + d) (by omega)] at ih; exact ih
theorem val_lt (s : Bs) (h : ∀ j (hj : j < s.length), isD s[j] = true) : ∀ (k : Nat), k ≤ 13 → val (s.take k) < 10 ^ k
  | 0, _ => by rw [List.take_zero]; decide
  | k + 1, hk => by
    have ih := val_lt s h k (by omega)
    have e : (10 : Int) ^ (k + 1) = 10 ^ k * 10 := Int.pow_succ ..
    have hp : (0 : Int) < 10 ^ k := Int.pow_pos (by decide)
    by_cases hl : k < s.length
    · rw [val_take s k hl]
      have := (dig_of (h k hl)).2
      omega
    · rw [take_all s (k + 1) (by omega)]; rw [take_all s k (by omega)] at ih; omega
theorem val_13 (s : Bs) (h : ∀ j (hj : j < s.length), isD s[j] = true) (k : Nat) (hk : k ≤ 13) : val (s.take k) < 10000000000000 := by
  have h1 := val_lt s h k hk
  have h2 : (10 : Int) ^ k ≤ 10 ^ 13 := by
    have : (10 : Nat) ^ k ≤ 10 ^ 13 := Nat.pow_le_pow_right (by decide) hk
    have := Int.ofNat_le.2 this
    simpa using this
  have : (10 : Int) ^ 13 = 10000000000000 := by decide
  omega
/-- a long number without a zero in front is large -/
theorem val_ge (s : Bs) (h : ∀ j (hj : j < s.length), isD s[j] = true) (h0 : 0 < s.length) (h1 : s[0].toNat ≠ 48) : ∀ (k : Nat), k < s.length → (10 : Int) ^ k ≤ val (s.take (k + 1))
  | 0, hk => by
    rw [val_take s 0 hk, List.take_zero]
    have := of_decide_eq_true (h 0 hk)
    show (1 : Int) ≤ 10 * 0 + dig s[0]
    unfold dig
    omega
  | k + 1, hk => by
    have ih := val_ge s h h0 h1 k (by omega)
    have e : (10 : Int) ^ (k + 1) = 10 ^ k * 10 := Int.pow_succ ..
    rw [val_take s (k + 1) hk]
    have := (dig_of (h _ hk)).1
    omega
theorem all_iff {p : UInt8 → Bool} {s : Bs} : s.all p = true ↔ ∀ j (hj : j < s.length), p s[j] = true := by
  rw [List.all_eq_true]
  constructor
  · exact fun h j hj => h _ (List.getElem_mem _)
  · intro h x hx
    obtain ⟨i, hi, rfl⟩ := List.mem_iff_getElem.1 hx
    exact h i hi
theorem lead0_iff {s : Bs} (h : 0 < s.length) : lead0 s = decide (s[0].toNat = 48 ∧ 1 < s.length) := by
  match s, h with
  | [c], _ => simp [lead0]
  | c :: d :: r, _ => simp [lead0]
theorem numB_long {s : Bs} (h : ¬ s.length ≤ 13) : numB s = false := by unfold numB; simp [h]
theorem wrap_dig {c : UInt8} (h : isD c = true) : IntKind.u8.wrap ((c.toNat : Int) - 48) = dig c := by
  have := dig_of h
  unfold dig at *
  exact IntWalk.u8_in _ (by omega)
theorem one_48 {s : Bs} (h : s.length = 1) (h48 : (s[0]'(by omega)).toNat = 48) : s = ([48] : Bs) := by
  obtain ⟨c, rfl⟩ := List.length_eq_one_iff.1 h
  have : c = 48 := UInt8.toNat_inj.1 h48
  rw [this]
theorem num_eq {s : Bs} (hs : s.length ≤ Mx) : lex_Number s = some (numV s) := by
  unfold lex_Number
  rw [bif_dec]
  by_cases h0 : s = []
  · subst h0; rfl
  · have hp : 0 < s.length := List.length_pos_iff.2 h0
    rw [if_neg h0, span4_eq hs, bind_in, bif_not, bif_eqZ]
    unfold numV numB
    rw [decide_eq_true h0, Bool.true_and, tw_all]
    by_cases hd : (s.takeWhile isD).length = s.length
    · rw [if_pos (by omega), decide_eq_true hd, bAt_0 hp, bind_in, bif_eqZ, lead0_iff hp, Bool.true_and]
      have hall := all_iff.1 (show s.all isD = true by rw [tw_all, decide_eq_true hd])
      have hv : lex_Number.j2 s (decide (¬ s.length ≤ 13)) = some (if decide (s.length ≤ 13) && decide (val s ≤ 1099511627776) then (val s, true) else (0, false)) := by
        unfold lex_Number.j2
        by_cases h13 : s.length ≤ 13
        · rw [decide_eq_false (by omega), cond_false, decide_eq_true h13, Bool.true_and]
          have hl : loopF (fun x => lex_Number.b1 s x.1 x.2) (0, 0) = some (val s) := by
            refine loopF_at (fun k => (val (s.take k), (k : Int))) s.length rfl (fun k hk => ?_) ?_
            · have h1 := val_nn s k fun j hj _ => hall j hj
              have h2 := val_13 s hall k (by omega)
              have h3 := dig_of (hall k hk)
              simp only [lex_Number.b1, bif_ltZ, lt_t hk, if_true, bAt_nat hk, bind_in, wrap_dig (hall k hk), z64_succ (show k + 1 ≤ 9223372036854775807 by omega), z64_i (show -9223372036854775808 ≤ (10 : Int) * val (s.take k) ∧ (10 : Int) * val (s.take k) ≤ 9223372036854775807 by omega), z64_i (show -9223372036854775808 ≤ (10 : Int) * val (s.take k) + dig s[k] ∧ (10 : Int) * val (s.take k) + dig s[k] ≤ 9223372036854775807 by omega), val_take s k hk]
            · simp only [lex_Number.b1, bif_ltZ, lt_f, if_false, List.take_length]
          rw [hl, bind_in]
          unfold lex_Number.j1
          rw [bif_ltZ]
          by_cases hb : val s ≤ 1099511627776
          · rw [if_neg (by omega), decide_eq_true hb]; rfl
          · rw [if_pos (by omega), decide_eq_false hb]; rfl
        · rw [decide_eq_true h13, cond_true, decide_eq_false h13]; rfl
      have e13 : ltZ 13 (s.length : Int) = decide (¬ s.length ≤ 13) := by rw [ltZ_eq, decide_eq_decide]; omega
      by_cases h48 : s[0].toNat = 48
      · rw [if_pos (by omega), bif_not, bif_dec]
        by_cases h1 : 1 < s.length
        · rw [if_neg (fun e => by rw [e] at h1; simp at h1), bind_in, decide_eq_true ⟨h48, h1⟩]; rfl
        · rw [if_pos (one_48 (by omega) h48), e13, bind_in, hv, decide_eq_false (p := s[0].toNat = 48 ∧ 1 < s.length) (fun e => h1 e.2)]; rfl
      · rw [if_neg (by omega), e13, bind_in, hv, decide_eq_false (p := s[0].toNat = 48 ∧ 1 < s.length) (fun e => h48 e.1)]; rfl
    · rw [if_neg (by omega), decide_eq_false hd]; rfl
theorem rnum_eq {s : Bs} (hs : s.length ≤ Mx) : ladingref14_Number s = some (numV s) := by
  unfold ladingref14_Number
  have key : ∃ b, loopF (fun x => ladingref14_Number.b1 s x.1 x.2) (0, 0) = some b ∧ ((b = .inl (val s) ∧ ∀ j (hj : j < s.length), isD s[j] = true) ∨ (b = .inr (0, false) ∧ numB s = false)) := by
    refine loopF_inv (fun k x => x = (val (s.take k), (k : Int)) ∧ k ≤ s.length ∧ ∀ j (hj : j < s.length), j < k → isD s[j] = true) s.length ⟨rfl, Nat.zero_le _, fun j _ h => absurd h (by omega)⟩ (fun k hk x hx => ?_) (fun x hx => ?_) (by unfold Mx at hs; omega)
    · obtain ⟨rfl, h3, h4⟩ := hx
      have h1 := val_nn s k h4
      simp only [ladingref14_Number.b1, bif_ltZ, lt_t hk, if_true, bAt_nat hk, bind_in, rdigit_eq, bif_not, ltZ_eq]
      cases h5 : isD s[k] with
      | false =>
        refine .inr ⟨.inr (0, false), rfl, .inr ⟨rfl, ?_⟩⟩
        have : s.all isD = false := by rw [List.all_eq_false]; exact ⟨s[k], List.getElem_mem _, by rw [h5]; simp⟩
        unfold numB; rw [this]; simp
      | true =>
        have hd := dig_of h5
        by_cases h6 : (1099511627776 : Int) < val (s.take k)
        · refine .inr ⟨.inr (0, false), by rw [decide_eq_true h6]; rfl, .inr ⟨rfl, ?_⟩⟩
          cases ha : s.all isD with
          | false => unfold numB; rw [ha]; simp
          | true =>
            have h7 := val_mono s k (all_iff.1 ha) (s.length - k)
            rw [show k + (s.length - k) = s.length by omega, List.take_length] at h7
            unfold numB; rw [decide_eq_false (show ¬ val s ≤ 1099511627776 by omega)]; simp
        · refine .inl ⟨(val (s.take (k + 1)), ((k + 1 : Nat) : Int)), ?_, rfl, by omega, fun j hj hjk => ?_⟩
          · rw [decide_eq_false h6]
            unfold dig at hd
            simp only [cond_true, bind_in, ladingref14_Number.j1, cond_false, bAt_nat hk, z64_succ (show k + 1 ≤ 9223372036854775807 by unfold Mx at hs; omega), z64_i (show -9223372036854775808 ≤ (10 : Int) * val (s.take k) ∧ (10 : Int) * val (s.take k) ≤ 9223372036854775807 by omega), z64_i (show -9223372036854775808 ≤ (10 : Int) * val (s.take k) + (s[k].toNat : Int) ∧ (10 : Int) * val (s.take k) + (s[k].toNat : Int) ≤ 9223372036854775807 by omega), z64_i (show -9223372036854775808 ≤ (10 : Int) * val (s.take k) + (s[k].toNat : Int) - 48 ∧ (10 : Int) * val (s.take k) + (s[k].toNat : Int) - 48 ≤ 9223372036854775807 by omega), val_take s k hk]
            unfold dig
            rw [Int.add_sub_assoc]
            rfl
          · by_cases e : j = k
            · subst e; exact h5
            · exact h4 j hj (by omega)
    · obtain ⟨rfl, h3, h4⟩ := hx
      exact ⟨.inl (val s), by simp only [ladingref14_Number.b1, bif_ltZ, lt_f, if_false, List.take_length], .inl ⟨rfl, fun j hj => h4 j hj hj⟩⟩
  obtain ⟨b, hb, hq⟩ := key
  rw [hb, bind_in]
  rcases hq with ⟨rfl, hall⟩ | ⟨rfl, hf⟩
  · dsimp only
    unfold ladingref14_Number.j3
    simp only [bif_ltZ]
    by_cases h0 : s = []
    · subst h0; rfl
    · have hp : 0 < s.length := List.length_pos_iff.2 h0
      rw [if_neg (by omega)]
      unfold numV numB
      rw [decide_eq_true h0, all_iff.2 hall, lead0_iff hp, Bool.true_and, Bool.true_and]
      by_cases h13 : s.length ≤ 13
      · rw [decide_eq_true h13, Bool.and_true]
        by_cases h1 : 1 < s.length
        · rw [if_pos (by omega), bAt_0 hp, bind_in, bif_eqZ]
          by_cases h48 : s[0].toNat = 48
          · rw [if_pos (by omega), decide_eq_true (p := s[0].toNat = 48 ∧ 1 < s.length) ⟨h48, h1⟩, bind_in]; rfl
          · rw [if_neg (by omega), decide_eq_false (p := s[0].toNat = 48 ∧ 1 < s.length) (fun e => h48 e.1), bind_in, ltZ_eq]
            unfold ladingref14_Number.j2
            rw [bif_dec]
            by_cases hb : val s ≤ 1099511627776
            · rw [if_neg (by omega), decide_eq_true hb]; rfl
            · rw [if_pos (by omega), decide_eq_false hb]; rfl
        · rw [if_neg (by omega), decide_eq_false (p := s[0].toNat = 48 ∧ 1 < s.length) (fun e => h1 e.2), bind_in, ltZ_eq]
          unfold ladingref14_Number.j2
          rw [bif_dec]
          by_cases hb : val s ≤ 1099511627776
          · rw [if_neg (by omega), decide_eq_true hb]; rfl
          · rw [if_pos (by omega), decide_eq_false hb]; rfl
      · rw [decide_eq_false h13, Bool.and_false, Bool.false_and]
        rw [if_pos (by omega), bAt_0 hp, bind_in, bif_eqZ]
        by_cases h48 : s[0].toNat = 48
        · rw [if_pos (by omega), bind_in]; rfl
        · rw [if_neg (by omega), bind_in, ltZ_eq]
          have h7 : (10 : Int) ^ 13 ≤ val (s.take 14) := val_ge s hall hp h48 13 (by omega)
          have h8 := val_mono s 14 hall (s.length - 14)
          rw [show 14 + (s.length - 14) = s.length by omega, List.take_length] at h8
          have : (10 : Int) ^ 13 = 10000000000000 := by decide
          rw [decide_eq_true (show (1099511627776 : Int) < val s by omega)]; rfl
  · unfold numV; rw [hf]; rfl
end Go.Proofs.YtblcedjcialnhaaDoor
