/-
  Layer 14 (lex): one token, and all of them.
-/
import Derived.Test.YtblcedjcialnhaaDoorLx1
namespace Go.Proofs.YtblcedjcialnhaaDoor
open Go.Lad
set_option linter.unusedVariables false
set_option linter.unusedSimpArgs false

abbrev signL : List Bs := [([61, 61] : Bs), ([59] : Bs), ([44] : Bs), ([61] : Bs), ([60] : Bs), ([43] : Bs), ([45] : Bs), ([42] : Bs), ([46] : Bs), ([33] : Bs), ([40] : Bs), ([41] : Bs), ([123] : Bs), ([125] : Bs)]
abbrev oneL : Bs := [59, 44, 61, 60, 43, 45, 42, 46, 33, 40, 41, 123, 125]
def signS : Bs → Bs
  | [] => []
  | c :: r => if c = 61 ∧ headP (fun d => decide (d = 61)) r = true then [61, 61] else if c ∈ oneL then [c] else []
theorem signS_cons (c : UInt8) (r : Bs) : signS (c :: r) = if c = 61 ∧ headP (fun d => decide (d = 61)) r = true then [61, 61] else if c ∈ oneL then [c] else [] := rfl
theorem signS_pre (s : Bs) : (signS s).length ≤ s.length ∧ s.take (signS s).length = signS s := by
  cases s with
  | nil => exact ⟨Nat.le_refl _, rfl⟩
  | cons c r =>
    rw [signS_cons]
    by_cases hc : c = 61 ∧ headP (fun d => decide (d = 61)) r = true
    · rw [if_pos hc]
      cases r with
      | nil => exact absurd hc.2 (by simp [headP])
      | cons d r =>
        have h1 : d = 61 := of_decide_eq_true hc.2
        rw [hc.1, h1]; simp
    · rw [if_neg hc]
      by_cases hm : c ∈ oneL
      · rw [if_pos hm]; simp
      · rw [if_neg hm]; simp
def signR (s : Bs) : GToken × Int := if signS s = [] then ((0, [], 0, 0), 10) else ((2, signS s, 0, 0), 0)
def nextS (s : Bs) : GToken × Int :=
  if headP isL s = true then (if (s.takeWhile isA).length ≤ 20 then ((0, s.takeWhile isA, 0, 0), 0) else ((0, [], 0, 0), 12))
  else if headP isD s = true then (if numB (s.takeWhile isD) = true then ((1, s.takeWhile isD, val (s.takeWhile isD), 0), 0) else ((0, [], 0, 0), 3))
  else signR s
theorem prefix_eq (s g : Bs) (hs : s.length ≤ Mx) : strings_HasPrefix s g = some (decide (s.take g.length = g)) := by
  unfold strings_HasPrefix internal_stringslite_HasPrefix
  rw [bif_leZ]
  by_cases h : g.length ≤ s.length
  · rw [if_pos (by omega), cut_in (by omega) (by omega) (by omega)]
    simp [bind_in]
  · rw [if_neg (by omega), bind_in, decide_eq_false (fun e => h (by have := congrArg List.length e; rw [List.length_take] at this; omega))]
theorem sign_scan (c : UInt8) (r : Bs) : (scan (fun _ g => if (c :: r).take g.length = g then some (((2, g, 0, 0), 0) : GToken × Int) else none) 0 signL).getD ((0, [], 0, 0), 10) = signR (c :: r) := by
  unfold signR signS
  by_cases h : c = 61
  · subst h
    cases r with
    | nil => simp [scan, headP]
    | cons d r =>
      by_cases hd : d = 61
      · subst hd; simp [scan, headP]
      · simp [scan, headP, hd]
  · simp only [h, false_and, if_false, scan, List.length_cons, List.length_nil, List.take_succ_cons, List.cons.injEq, List.take_zero, and_true]
    by_cases hm : c ∈ oneL
    · rw [if_pos hm, if_neg (show ¬ ([c] : Bs) = [] by simp)]
      simp only [oneL, List.mem_cons, List.not_mem_nil, or_false] at hm
      rcases hm with rfl | rfl | rfl | rfl | rfl | rfl | rfl | rfl | rfl | rfl | rfl | rfl | rfl <;> first | exact absurd rfl h | simp
    · rw [if_neg hm, if_pos rfl]
      simp only [oneL, List.mem_cons, List.not_mem_nil, or_false, not_or] at hm
      simp [hm]
theorem head_tw {p q : UInt8 → Bool} {s : Bs} (h : headP p s = true) (hpq : ∀ c, p c = true → q c = true) : headP p (s.takeWhile q) = true ∧ 0 < (s.takeWhile q).length := by
  cases s with
  | nil => cases h
  | cons c r =>
    have h : p c = true := h
    have e : (c :: r).takeWhile q = c :: r.takeWhile q := by simp [hpq c h]
    rw [e]
    exact ⟨h, by simp⟩
theorem isL_isA (c : UInt8) (h : isL c = true) : isA c = true := by unfold isA; rw [h]; rfl
theorem isD_isA (c : UInt8) (h : isD c = true) : isA c = true := by unfold isA; rw [h, Bool.or_true]
theorem tw_allp (p : UInt8 → Bool) (s : Bs) : (s.takeWhile p).all p = true := List.all_takeWhile
theorem cut_tw {p : UInt8 → Bool} {s : Bs} : cut s 0 ((s.takeWhile p).length : Int) = some (s.takeWhile p) := by
  rw [cut_in (by omega) (by omega) (by have := tw_le p s; omega)]
  simp [tw_take]
theorem next_eq {s : Bs} (h0 : 0 < s.length) (hs : s.length ≤ Mx) : lex_next s = some (nextS s) := by
  unfold lex_next nextS
  rw [bAt_0 h0, bind_in, letter_eq, bind_in, headP_at h0, headP_at h0]
  cases hL : isL s[0] with
  | true =>
    rw [cond_true, if_pos rfl, span2_eq hs, bind_in, cut_tw, bind_in, word_eq (Nat.le_trans (tw_le _ _) hs), bind_in]
    obtain ⟨h1, h2⟩ := head_tw (q := isA) (by rw [headP_at h0]; exact hL) isL_isA
    unfold wordB
    rw [h1, tw_allp, Bool.true_and, Bool.and_true]
    by_cases h20 : (s.takeWhile isA).length ≤ 20
    · rw [if_pos h20, decide_eq_true h20]; rfl
    · rw [if_neg h20, decide_eq_false h20]; rfl
  | false =>
    rw [cond_false, if_neg (by simp), bind_in, digit_eq, bind_in]
    cases hD : isD s[0] with
    | true =>
      rw [cond_true, if_pos rfl, span4_eq hs, bind_in, cut_tw, bind_in, num_eq (Nat.le_trans (tw_le _ _) hs), bind_in]
      unfold numV
      cases numB (s.takeWhile isD) <;> rfl
    | false =>
      rw [cond_false, if_neg (by simp)]
      match s, h0 with
      | c :: r, _ =>
      rw [← sign_scan]
      refine loop_scan signL (fun _ g => if (c :: r).take g.length = g then some (((2, g, 0, 0), 0) : GToken × Int) else none) _ (fun k hk => ?_) ?_ (by simp)
      · have hk' : (k : Int) < 14 := by have : k < 14 := hk; omega
        simp only [lex_next.b1, bif_ltZ, if_pos hk', idx_nat (l := signL) hk, bind_in, prefix_eq _ _ hs, bif_dec, z64_succ (show k + 1 ≤ 9223372036854775807 by have : k < 14 := hk; omega)]
        split <;> rfl
      · rfl
theorem drop_cons {s : Bs} {p : Nat} (h : p < s.length) : s.drop p = s[p] :: s.drop (p + 1) := List.drop_eq_getElem_cons h
theorem cut_drop {s : Bs} {p : Nat} (h : p ≤ s.length) : cut s (p : Int) (s.length : Int) = some (s.drop p) := by
  rw [cut_in (by omega) (by omega) (by omega)]; simp
theorem cut_mid {s : Bs} {p k : Nat} (h : p + k ≤ s.length) : cut s (p : Int) ((p + k : Nat) : Int) = some ((s.drop p).take k) := by
  rw [cut_in (by omega) (by omega) (by omega), Int.toNat_natCast, Int.toNat_natCast, List.take_drop]
theorem headP_drop {q : UInt8 → Bool} {s : Bs} {p : Nat} (h : p < s.length) : headP q (s.drop p) = q s[p] := by rw [drop_cons h]; rfl
theorem rsign_eq {s : Bs} {p : Nat} (h : p < s.length) (hs : s.length ≤ Mx) : ladingref14_sign s (p : Int) = some ((signS (s.drop p)).length : Int) := by
  unfold ladingref14_sign Mx at *
  rw [z64_succ (by omega), bind_in, bif_ltZ, drop_cons h, signS_cons]
  have e61 : ∀ c : UInt8, ((c.toNat : Int) = 61) ↔ c = 61 := fun c => ⟨fun e => UInt8.toNat_inj.1 (by show c.toNat = 61; omega), fun e => by rw [e]; rfl⟩
  have one : ladingref14_sign.j1 s (p : Int) false = some (if s[p] ∈ oneL then 1 else 0) := by
    unfold ladingref14_sign.j1
    rw [cond_false, loop_scan oneL (fun _ g => if (decide (s[p] = g)) = true then some (1 : Int) else none) 0 (fun k hk => ?_) rfl (by simp), scan_any (fun g => decide (s[p] = g))]
    · by_cases hm : s[p] ∈ oneL
      · rw [if_pos hm, if_pos (List.any_eq_true.2 ⟨_, hm, by simp⟩)]; rfl
      · rw [if_neg hm, if_neg (fun ha => by
          obtain ⟨x, hx, he⟩ := List.any_eq_true.1 ha
          exact hm ((of_decide_eq_true he) ▸ hx))]; rfl
    · have hk' : k < 13 := hk
      simp only [ladingref14_sign.b1, bif_ltZ, lt_t hk, if_true, bAt_nat h, bAt_nat hk, bind_in, bif_eqZ, z64_succ (show k + 1 ≤ 9223372036854775807 by omega), decide_eq_true_eq]
      by_cases he : s[p] = oneL[k]
      · rw [if_pos (by rw [he]), if_pos he]
      · rw [if_neg (fun e => he (UInt8.toNat_inj.1 (by omega))), if_neg he]
  by_cases h1 : p + 1 < s.length
  · rw [if_pos (by omega), bind_in, bAt_nat h1, bind_in, bif_eqZ, headP_drop h1]
    by_cases h2 : s[p + 1] = 61
    · rw [if_pos ((e61 _).2 h2), bAt_nat h, bind_in, bind_in, eqZ_eq]
      by_cases h3 : s[p] = 61
      · rw [decide_eq_true ((e61 _).2 h3), if_pos ⟨h3, by simp [h2]⟩]; rfl
      · rw [decide_eq_false (fun e => h3 ((e61 _).1 e)), if_neg (fun e => h3 e.1), one]; split <;> rfl
    · rw [if_neg (fun e => h2 ((e61 _).1 e)), bind_in, if_neg (fun e => h2 (by simpa using e.2)), one]; split <;> rfl
  · rw [if_neg (by omega), bind_in, List.drop_eq_nil_of_le (by omega), if_neg (fun e => by simp [headP] at e), one]; split <;> rfl
def posT (p : Nat) (t : GToken × Int) : GToken × Int := if t.2 = 0 then ((t.1.1, t.1.2.1, t.1.2.2.1, (p : Int)), 0) else ((0, [], 0, 0), t.2)
theorem tw_head {q : UInt8 → Bool} {c : UInt8} {r : Bs} (h : q c = true) : (c :: r).takeWhile q = c :: r.takeWhile q := by simp [h]
theorem token_eq {s : Bs} {p : Nat} (h : p < s.length) (hs : s.length ≤ Mx) : ladingref14_token s (p : Int) = some (posT p (nextS (s.drop p))) := by
  unfold ladingref14_token nextS Mx at *
  rw [z64_succ (by omega), bind_in, bAt_nat h, bind_in, rletter_eq, bind_in, headP_drop h, headP_drop h]
  cases hL : isL s[p] with
  | true =>
    have hl : loopF (fun x => ladingref14_token.b1 s x) ((p + 1 : Nat) : Int) = some ((p + 1 + ((s.drop (p + 1)).takeWhile isA).length : Nat) : Int) := by
      refine span_loop isA s (p + 1) (by omega) (fun k hk => ?_) ?_ (by omega)
      · simp only [ladingref14_token.b1, bif_ltZ, lt_t hk, if_true, bAt_nat hk, bind_in, rletter_eq, rdigit_eq, ladingref14_token.j1, z64_succ (show k + 1 ≤ 9223372036854775807 by omega)]
        unfold isA
        cases isL s[k] <;> cases isD s[k] <;> rfl
      · simp only [ladingref14_token.b1, bif_ltZ, lt_f, if_false, bind_in, ladingref14_token.j1]; rfl
    have ew : ((s.drop p).takeWhile isA).length = 1 + ((s.drop (p + 1)).takeWhile isA).length := by
      rw [drop_cons h, tw_head (isL_isA _ hL)]; simp; omega
    have hle := tw_le isA (s.drop p)
    rw [List.length_drop] at hle
    rw [cond_true, if_pos rfl, hl, bind_in]
    unfold ladingref14_token.j2
    rw [show p + 1 + ((s.drop (p + 1)).takeWhile isA).length = p + ((s.drop p).takeWhile isA).length by omega, z64_i (by omega), bind_in, bif_ltZ]
    by_cases h20 : ((s.drop p).takeWhile isA).length ≤ 20
    · rw [if_neg (by omega), if_pos h20, cut_mid (by omega), bind_in, bind_in, tw_take]; rfl
    · rw [if_pos (by omega), if_neg h20, bind_in]; rfl
  | false =>
    rw [cond_false, if_neg (by simp), bind_in]
    dsimp only
    unfold ladingref14_token.j6
    rw [bAt_nat h, bind_in, rdigit_eq, bind_in]
    cases hD : isD s[p] with
    | true =>
      have hl : loopF (fun x => ladingref14_token.b2 s x) ((p + 1 : Nat) : Int) = some ((p + 1 + ((s.drop (p + 1)).takeWhile isD).length : Nat) : Int) := by
        refine span_loop isD s (p + 1) (by omega) (fun k hk => ?_) ?_ (by omega)
        · simp only [ladingref14_token.b2, bif_ltZ, lt_t hk, if_true, bAt_nat hk, bind_in, rdigit_eq, ladingref14_token.j3, z64_succ (show k + 1 ≤ 9223372036854775807 by omega)]
          cases isD s[k] <;> rfl
        · simp only [ladingref14_token.b2, bif_ltZ, lt_f, if_false, bind_in, ladingref14_token.j3]; rfl
      have ew : ((s.drop p).takeWhile isD).length = 1 + ((s.drop (p + 1)).takeWhile isD).length := by
        rw [drop_cons h, tw_head hD]; simp; omega
      have hle := tw_le isD (s.drop p)
      rw [List.length_drop] at hle
      rw [cond_true, if_pos rfl, hl, bind_in]
      unfold ladingref14_token.j4
      rw [show p + 1 + ((s.drop (p + 1)).takeWhile isD).length = p + ((s.drop p).takeWhile isD).length by omega, cut_mid (by omega), bind_in, tw_take, rnum_eq (by unfold Mx; omega), bind_in]
      unfold numV
      cases numB ((s.drop p).takeWhile isD) <;> rfl
    | false =>
      rw [cond_false, if_neg (by simp), bind_in]
      dsimp only
      unfold ladingref14_token.j5
      rw [rsign_eq h (by unfold Mx; omega), bind_in, bif_eqZ]
      unfold signR
      by_cases hsn : signS (s.drop p) = []
      · rw [if_pos hsn, hsn, if_pos (show (([] : Bs).length : Int) = 0 from rfl)]; rfl
      · have hpos : 0 < (signS (s.drop p)).length := List.length_pos_iff.2 hsn
        have hpre := signS_pre (s.drop p)
        have h3 := hpre.1
        rw [List.length_drop] at h3
        rw [if_neg (by omega), if_neg hsn, z64_add (by omega), bind_in, cut_mid (by omega), bind_in, hpre.2]; rfl
end Go.Proofs.YtblcedjcialnhaaDoor
