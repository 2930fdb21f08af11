/-
  Layer 4 (content): the law ContentFull in plain words.
-/
import Derived.Test.YtaoibhpefkjcmaaXModel
import Derived.Test.YtaoibhpefkjcmaaDPl
namespace Go.Proofs.Ytaoibhpefkjcmaa
open Go.Lad
set_option linter.unusedVariables false
set_option linter.unusedSimpArgs false
theorem small_true : ladinglaw04_small = some true := by kernel_rfl
theorem z64_i {n : Int} (h : -9223372036854775808 ≤ n ∧ n ≤ 9223372036854775807) : z64 n = some n := z64_in h.1 h.2
theorem idx_at {α : Type} {l : List α} {n : Int} {x : α} (h0 : 0 ≤ n) (h : l[n.toNat]? = some x) : idx l n = some x := by unfold idx; rw [if_pos h0, h]
theorem size1 {a : Bs} (h : a.length ≤ 4000000) : content_size [a] = some (a.length : Int) := by
  unfold content_size
  refine loopF_of (n := 2) ?_
  simp only [iterM, content_size.b1, bif_ltZ, List.length_cons, List.length_nil]
  rw [if_pos (by omega), idx_at (x := a) (by omega) rfl]
  simp only [bind_in]
  rw [z64_i (by omega)]
  simp only [bind_in]
  rw [z64_i (by omega)]
  simp only [bind_in]
  rw [if_neg (by omega)]
  simp
theorem size2 {a b : Bs} (h : a.length ≤ 4000000) (h' : b.length ≤ 4000000) : content_size [a, b] = some ((a.length : Int) + (b.length : Int)) := by
  unfold content_size
  refine loopF_of (n := 3) ?_
  simp only [iterM, content_size.b1, bif_ltZ, List.length_cons, List.length_nil]
  rw [if_pos (by omega), idx_at (x := a) (by omega) rfl]
  simp only [bind_in]
  rw [z64_i (by omega)]
  simp only [bind_in]
  rw [z64_i (by omega)]
  simp only [bind_in]
  rw [if_pos (by omega), idx_at (x := b) (by omega) rfl]
  simp only [bind_in]
  rw [z64_i (by omega)]
  simp only [bind_in]
  rw [z64_i (by omega)]
  simp only [bind_in]
  rw [if_neg (by omega)]
  simp
theorem right1 {a : Bs} (h : a.length ≤ 4000000) : content_Right [a] = some (decide ((a.length : Int) ≤ 1048576)) := by
  unfold content_Right
  have e : loopF (fun x => content_Right.b1 [a] x.1 x.2) (0, ([] : List (Bs × Bool))) = some [(a, true)] := by
    refine loopF_of (n := 2) ?_
    simp only [iterM, content_Right.b1, bif_ltZ, List.length_cons, List.length_nil]
    rw [if_pos (by omega), idx_at (x := a) (by omega) rfl]
    simp only [bind_in]
    rw [z64_i (by omega)]
    simp only [bind_in]
    rw [if_neg (by omega)]
    rfl
  rw [e]
  simp only [bind_in, content_Right.j1, bif_eqZ, List.length_cons, List.length_nil]
  rw [need_in (by omega)]
  simp only [bind_in]
  rw [if_pos (by first | trivial | omega), size1 h]
  simp only [bind_in, leZ_eq]
theorem right2 {a b : Bs} (hab : a ≠ b) (h : a.length ≤ 4000000) (h' : b.length ≤ 4000000) : content_Right [a, b] = some (decide ((a.length : Int) + (b.length : Int) ≤ 1048576)) := by
  unfold content_Right
  have e : loopF (fun x => content_Right.b1 [a, b] x.1 x.2) (0, ([] : List (Bs × Bool))) = some [(a, true), (b, true)] := by
    refine loopF_of (n := 3) ?_
    simp only [iterM, content_Right.b1, bif_ltZ, List.length_cons, List.length_nil]
    rw [if_pos (by omega), idx_at (x := a) (by omega) rfl]
    simp only [bind_in]
    rw [z64_i (by omega)]
    simp only [bind_in]
    rw [if_pos (by omega), idx_at (x := b) (by omega) rfl]
    simp only [bind_in]
    rw [z64_i (by omega)]
    simp only [bind_in]
    rw [if_neg (by omega)]
    have : putM (putM [] a true) b true = [(a, true), (b, true)] := by simp [putM, pos, hab, Ne.symm hab]
    rw [this]
  rw [e]
  simp only [bind_in, content_Right.j1, bif_eqZ, List.length_cons, List.length_nil]
  rw [need_in (by omega)]
  simp only [bind_in]
  rw [if_pos (by first | trivial | omega), size2 h h']
  simp only [bind_in, leZ_eq]
theorem print1 {a s : Bs} : content_Print [a] s = some (if s = a then 0 else -1) := by
  unfold content_Print slices_Index_string_string
  have e : loopF (fun x => slices_Index_string_string.b1 [a] s x) 0 = some (if s = a then 0 else -1) := by
    refine loopF_of (n := 2) ?_
    simp only [iterM, slices_Index_string_string.b1, bif_ltZ, bif_dec, List.length_cons, List.length_nil]
    rw [if_pos (by omega), idx_at (x := a) (by omega) rfl]
    simp only [bind_in]
    by_cases h : s = a
    · rw [if_pos h, if_pos h]
    · rw [if_neg h, if_neg h, z64_i (by omega)]
      simp only [bind_in]
      rw [if_neg (by omega)]
  rw [e]
  simp only [bind_in]
theorem clone_eq {l : List Bs} (h : l.length ≤ 2147483647) : slices_Clone_string_string l = some l := by
  unfold slices_Clone_string_string
  refine bothN_same ?_ (fun h => by rw [h])
  rw [app_in (by simpa using h)]
  rfl
theorem add1 {a s : Bs} (h : a.length ≤ 1048576) (hs : s.length ≤ 1048576) : content_Add [a] s = some (if s = a then (0, 0, [a]) else if 1048576 < a.length + s.length then (0, 6, []) else (1, 0, [a, s])) := by
  unfold content_Add
  rw [right1 (by omega)]
  simp only [bind_in, bif_not, bif_dec, bif_leZ, bif_ltZ]
  rw [if_pos (by omega), print1]
  simp only [bind_in]
  by_cases e : s = a
  · rw [if_pos e, if_pos e, if_pos (by omega), clone_eq (by simp)]
    rfl
  · rw [if_neg e, if_neg e, if_neg (by omega), size1 (by omega)]
    simp only [bind_in]
    rw [z64_i (by omega)]
    simp only [bind_in]
    by_cases e2 : 1048576 < a.length + s.length
    · rw [if_pos (by omega), if_pos e2]
    · rw [if_neg (by omega), if_neg e2, clone_eq (by simp)]
      simp only [bind_in]
      rw [app_in (by simp)]
      rfl
theorem full_true (s : Bs) (p : Int) (hp : 0 ≤ p ∧ p ≤ 255) : ladinglaw04_ContentFull s p = some true := by
  unfold ladinglaw04_ContentFull
  rw [small_true]
  simp only [bind_in, bif_ltZ]
  by_cases h1 : 100 < (s.length : Int)
  · rw [if_pos h1]
    rfl
  · rw [if_neg h1]
    simp only [bind_in, ladinglaw04_ContentFull.j2, bif_ltZ]
    by_cases h2 : 100 < p
    · rw [if_pos h2]
    · rw [if_neg h2, z64_i (by omega)]
      simp only [bind_in]
      rw [msNeed_in (by omega) (by omega)]
      have lb : (u8sT (repT ((1048576 : Int) - p) (0 : Int))).length = (1048576 - p).toNat := by rw [u8_len, repT_len]
      have lo : (u8sT (repT (p + 1) (0 : Int))).length = (p + 1).toNat := by rw [u8_len, repT_len]
      revert lb
      generalize u8sT (repT ((1048576 : Int) - p) (0 : Int)) = big
      intro lb
      simp only [bind_in]
      rw [need_in (by rw [lb]; omega)]
      simp only [bind_in]
      rw [add1 (by rw [lb]; omega) (by omega), add1 (by rw [lb]; omega) (by rw [lb]; omega), if_pos (rfl : big = big)]
      simp only [bind_in]
      rw [z64_i (by omega)]
      simp only [bind_in]
      rw [msNeed_in (by omega) (by omega)]
      simp only [bind_in]
      revert lo
      generalize u8sT (repT (p + 1) (0 : Int)) = ov
      intro lo
      have hne : big ≠ ov := fun e => by rw [e, lo] at lb; omega
      rw [need_in (by rw [lo]; omega)]
      simp only [bind_in]
      have hr2 : content_Right [big, ov] = some false := by
        rw [right2 hne (by rw [lb]; omega) (by rw [lo]; omega), decide_eq_false]
        rw [lb, lo]; omega
      have hadd : content_Add [big, ov] s = some (0, 1, []) := by
        unfold content_Add
        rw [hr2]; rfl
      rw [hadd]
      simp only [bind_in, bif_not, bif_eqZ]
      rw [if_pos (by first | trivial | omega), if_pos (by first | trivial | omega), hr2]
      simp only [bind_in, cond_false]
      rw [if_pos (by first | trivial | omega), right1 (by rw [lb]; omega)]
      simp only [bind_in]
      rw [decide_eq_true (by rw [lb]; omega)]
      simp only [Bool.not_true, ladinglaw04_ContentFull.j1, cond_false, cond_true, bif_not, bif_leZ, bif_eqZ]
      have hsne : s ≠ big := fun e => by rw [e, lb] at h1; omega
      rw [if_neg hsne]
      by_cases h3 : (s.length : Int) ≤ p
      · have hlt : ¬ 1048576 < big.length + s.length := by rw [lb]; omega
        rw [if_pos h3, if_neg hlt]
        rfl
      · have hlt : 1048576 < big.length + s.length := by rw [lb]; omega
        rw [if_neg h3, if_pos hlt]
        rfl
end Go.Proofs.Ytaoibhpefkjcmaa
