/-
  Layer 10 (name): what Skeleton and Right compute, in plain words.
-/
import Derived.Test.YtkhlbajdoaokeaaDoorNModel
import Derived.Test.YtkhlbajdoaokeaaDoorLs
import Derived.Lib.SplitLaws
import Derived.IntWalk
namespace Go.Proofs.YtkhlbajdoaokeaaDoor
open Go.Lad
set_option linter.unusedVariables false
set_option linter.unusedSimpArgs false

abbrev Mx : Nat := 1000000
def isL (c : UInt8) : Bool := decide (97 ≤ c.toNat ∧ c.toNat ≤ 122)
def isD (c : UInt8) : Bool := decide (48 ≤ c.toNat ∧ c.toNat ≤ 57)
def isA (c : UInt8) : Bool := isL c || isD c
def headP (p : UInt8 → Bool) : Bs → Bool
  | [] => false
  | c :: _ => p c
theorem bAt_nat {s : Bs} {k : Nat} (h : k < s.length) : bAt s (k : Int) = some (s[k].toNat : Int) := by unfold bAt; rw [idx_nat h]; rfl
theorem bAt_cons {c : UInt8} {r : Bs} : bAt (c :: r) 0 = some (c.toNat : Int) := bAt_nat (s := c :: r) (k := 0) (by simp)
theorem c_eq (c d : UInt8) : ((c.toNat : Int) = (d.toNat : Int)) ↔ c = d := ⟨fun e => UInt8.toNat_inj.1 (by omega), fun e => by rw [e]⟩
theorem drop_cons {α : Type} {s : List α} {p : Nat} (h : p < s.length) : s.drop p = s[p] :: s.drop (p + 1) := List.drop_eq_getElem_cons h
/-! ### what a name looks like -/
def chS (c : UInt8) : Bs := if c = 48 then [111] else if c = 49 ∨ c = 105 then [108] else if c = 45 then [] else [c]
def stepS : Bs → Bs × Nat
  | [] => ([], 1)
  | c :: r => if c = 114 ∧ headP (fun d => decide (d = 110)) r = true then ([109], 2) else if c = 118 ∧ headP (fun d => decide (d = 118)) r = true then ([119], 2) else (chS c, 1)
theorem stepS_cons (c : UInt8) (r : Bs) : stepS (c :: r) = if c = 114 ∧ headP (fun d => decide (d = 110)) r = true then ([109], 2) else if c = 118 ∧ headP (fun d => decide (d = 118)) r = true then ([119], 2) else (chS c, 1) := rfl
def skel : Bs → Bs
  | [] => []
  | [c] => chS c
  | c :: d :: r => if c = 114 ∧ d = 110 then 109 :: skel r else if c = 118 ∧ d = 118 then 119 :: skel r else chS c ++ skel (d :: r)
theorem skel_step {s : Bs} (h : s ≠ []) : skel s = (stepS s).1 ++ skel (s.drop (stepS s).2) := by
  match s, h with
  | [c], _ => simp [skel, stepS, headP]
  | c :: d :: r, _ =>
    simp only [skel, stepS, headP, decide_eq_true_eq]
    by_cases h1 : c = 114 ∧ d = 110
    · rw [if_pos h1, if_pos h1]; rfl
    · rw [if_neg h1, if_neg h1]
      by_cases h2 : c = 118 ∧ d = 118
      · rw [if_pos h2, if_pos h2]; rfl
      · rw [if_neg h2, if_neg h2]; rfl
theorem stepS_le (s : Bs) (h : s ≠ []) : 1 ≤ (stepS s).2 ∧ (stepS s).2 ≤ s.length ∧ (stepS s).1.length ≤ (stepS s).2 := by
  match s, h with
  | [c], _ =>
    simp only [stepS, headP]
    simp only [Bool.false_eq_true, and_false, if_false, chS]
    refine ⟨Nat.le_refl _, by simp, ?_⟩
    split <;> (try split) <;> (try split) <;> simp
  | c :: d :: r, _ =>
    simp only [stepS]
    split
    · simp
    · split
      · simp
      · refine ⟨Nat.le_refl _, by simp, ?_⟩
        simp only [chS]
        split <;> (try split) <;> (try split) <;> simp
theorem prefix_eq (s g : Bs) : strings_HasPrefix s g = some (decide (s.take g.length = g)) := by
  unfold strings_HasPrefix internal_stringslite_HasPrefix
  rw [bif_leZ]
  by_cases h : g.length ≤ s.length
  · rw [if_pos (by omega), cut_in (by omega) (by omega) (by omega)]
    simp [bind_in]
  · rw [if_neg (by omega), bind_in, decide_eq_false (fun e => h (by have := congrArg List.length e; rw [List.length_take] at this; omega))]
theorem two_take (c d e : UInt8) (r : Bs) : ((c :: r).take ([d, e] : Bs).length = [d, e]) ↔ (c = d ∧ headP (fun x => decide (x = e)) r = true) := by
  cases r with
  | nil => simp [headP]
  | cons f r => simp [headP]
theorem u8s_app (l m : List Int) : u8sT (l ++ m) = u8sT l ++ u8sT m := by unfold u8sT; exact List.map_append
theorem cut_tail {s : Bs} {k : Nat} (h : k ≤ s.length) : cut s (k : Int) (s.length : Int) = some (s.drop k) := by
  rw [cut_in (by omega) (by omega) (by omega)]; simp
theorem cut_1 (c : UInt8) (r : Bs) : cut (c :: r) 1 ((c :: r).length : Int) = some r := by
  have := cut_tail (s := c :: r) (k := 1) (by simp)
  exact this
theorem skelB (c : UInt8) (r : Bs) (out : List Int) (ho : out.length + 1 ≤ Mx) :
    ∃ e : List Int, name_Skeleton.b1 (c :: r) out = some (.inl ((c :: r).drop (stepS (c :: r)).2, out ++ e)) ∧ u8sT e = (stepS (c :: r)).1 := by
  have ap : ∀ x : Int, app? out [x] = some (out ++ [x]) := fun x => app_in (by simp; unfold Mx at ho; omega)
  have e48 : ((c.toNat : Int) = 48) ↔ c = 48 := c_eq c 48
  have e49 : ((c.toNat : Int) = 49) ↔ c = 49 := c_eq c 49
  have e105 : ((c.toNat : Int) = 105) ↔ c = 105 := c_eq c 105
  have e45 : ((c.toNat : Int) = 45) ↔ c = 45 := c_eq c 45
  unfold name_Skeleton.b1
  rw [bif_not, bif_dec, if_neg (by simp), prefix_eq, bind_in, bif_dec]
  simp only [two_take, stepS_cons]
  by_cases h1 : c = 114 ∧ headP (fun d => decide (d = 110)) r = true
  · rw [if_pos h1, if_pos h1, ap, bind_in]
    cases r with
    | nil => exact absurd h1.2 (by simp [headP])
    | cons d r =>
      rw [show cut (c :: d :: r) 2 ((c :: d :: r).length : Int) = some r from cut_tail (s := c :: d :: r) (k := 2) (by simp), bind_in]
      exact ⟨_, rfl, rfl⟩
  · rw [if_neg h1, if_neg h1, prefix_eq, bind_in, bif_dec]
    simp only [two_take]
    by_cases h2 : c = 118 ∧ headP (fun d => decide (d = 118)) r = true
    · rw [if_pos h2, if_pos h2, ap, bind_in]
      cases r with
      | nil => exact absurd h2.2 (by simp [headP])
      | cons d r =>
        rw [show cut (c :: d :: r) 2 ((c :: d :: r).length : Int) = some r from cut_tail (s := c :: d :: r) (k := 2) (by simp), bind_in]
        exact ⟨_, rfl, rfl⟩
    · rw [if_neg h2, if_neg h2, bAt_cons, bind_in, bif_eqZ]
      unfold chS
      by_cases h3 : c = 48
      · rw [if_pos (e48.2 h3), if_pos h3, ap, bind_in, cut_1, bind_in]
        exact ⟨_, rfl, rfl⟩
      · rw [if_neg (fun e => h3 (e48.1 e)), if_neg h3, bind_in, bif_eqZ]
        have key : ∀ b : Bool, (b = true ↔ (c = 49 ∨ c = 105)) → ∃ e : List Int, name_Skeleton.j1 (c :: r) out b = some (.inl (r, out ++ e)) ∧ u8sT e = if c = 49 ∨ c = 105 then [108] else if c = 45 then [] else [c] := by
          intro b hb
          unfold name_Skeleton.j1
          cases b with
          | true =>
            rw [cond_true, if_pos (hb.1 rfl), ap, bind_in, cut_1, bind_in]
            exact ⟨_, rfl, rfl⟩
          | false =>
            rw [cond_false, if_neg (fun e => by have := hb.2 e; cases this), bAt_cons, bind_in, bif_not, bif_eqZ]
            by_cases h5 : c = 45
            · rw [if_pos (e45.2 h5), if_pos h5, cut_1, bind_in]
              exact ⟨[], by rw [List.append_nil], rfl⟩
            · rw [if_neg (fun e => h5 (e45.1 e)), if_neg h5, bind_in, ap, bind_in, cut_1, bind_in]
              refine ⟨_, rfl, ?_⟩
              unfold u8sT
              simp
        by_cases h4 : c = 49
        · rw [if_pos (e49.2 h4), bind_in]
          exact key true (by simp [h4])
        · rw [if_neg (fun e => h4 (e49.1 e)), bind_in, bind_in, eqZ_eq]
          exact key _ (by rw [decide_eq_true_eq, e105]; simp [h4])
theorem skel_it : ∀ (n : Nat) (r : Bs) (out : List Int), r.length ≤ n → out.length + r.length + 1 ≤ Mx → iterM (fun x => name_Skeleton.b1 x.1 x.2) (n + 1) (r, out) = some (u8sT out ++ skel r)
  | n, [], out, h, ho => by
    have e : name_Skeleton.b1 [] out = some (.inr (u8sT out)) := by
      unfold name_Skeleton.b1
      rw [need_in (show (u8sT out).length ≤ 9223372036854775807 by rw [u8_len]; unfold Mx at ho; omega)]; rfl
    unfold iterM
    rw [e]
    simp [skel]
  | 0, c :: r, out, h, ho => by simp at h
  | n + 1, c :: r, out, h, ho => by
    rw [List.length_cons] at h ho
    obtain ⟨e, h1, h2⟩ := skelB c r out (by omega)
    have hl := stepS_le (c :: r) (by simp)
    rw [skel_step (s := c :: r) (by simp), ← h2, ← List.append_assoc, ← u8s_app]
    have he : e.length ≤ (stepS (c :: r)).2 := by have := congrArg List.length h2; rw [u8_len] at this; omega
    rw [List.length_cons] at hl
    unfold iterM
    rw [h1]
    refine skel_it n _ _ ?_ ?_
    · rw [List.length_drop, List.length_cons]; omega
    · rw [List.length_append, List.length_drop, List.length_cons]; omega
theorem skel_eq {s : Bs} (hs : s.length + 1 ≤ Mx) : name_Skeleton s = some (skel s) := by
  unfold name_Skeleton
  exact loopF_of (skel_it s.length s [] (Nat.le_refl _) (by simpa using hs)) (by unfold Mx at hs; omega)
theorem skel_len : ∀ (n : Nat) (s : Bs), s.length ≤ n → (skel s).length ≤ s.length
  | n, [], _ => by simp [skel]
  | 0, c :: r, h => by simp at h
  | n + 1, c :: r, h => by
    have hl := stepS_le (c :: r) (by simp)
    rw [skel_step (s := c :: r) (by simp), List.length_append]
    have := skel_len n ((c :: r).drop (stepS (c :: r)).2) (by rw [List.length_drop]; omega)
    rw [List.length_drop] at this
    omega
/-- the reference -/
theorem cat_in {a b : Bs} (h : a.length + b.length ≤ 9223372036854775807) : cat? a b = some (a ++ b) := if_pos h
theorem cut_mid {s : Bs} {p k : Nat} (h : p + k ≤ s.length) : cut s (p : Int) ((p + k : Nat) : Int) = some ((s.drop p).take k) := by
  rw [cut_in (by omega) (by omega) (by omega), Int.toNat_natCast, Int.toNat_natCast, List.take_drop]
theorem rskelB (s : Bs) (k : Nat) (hk : k < s.length) (out : Bs) (ho : out.length + 1 ≤ Mx) (hs : s.length ≤ Mx) :
    ladingref10_Skeleton.b1 s out (k : Int) = some (.inl (out ++ (stepS (s.drop k)).1, ((k + (stepS (s.drop k)).2 : Nat) : Int))) := by
  unfold Mx at ho hs
  have ap : ∀ x : UInt8, cat? out [x] = some (out ++ [x]) := fun x => cat_in (by simp; omega)
  have hz1 := z64_succ (n := k) (by omega)
  have hz2 : z64 ((k : Int) + 2) = some ((k + 2 : Nat) : Int) := z64_add (a := k) (b := 2) (by omega)
  obtain ⟨c, r, hd⟩ : ∃ c r, s.drop k = c :: r := ⟨_, _, drop_cons hk⟩
  have hc : s[k] = c := by rw [drop_cons hk] at hd; injection hd
  have hr : s.drop (k + 1) = r := by rw [drop_cons hk] at hd; injection hd
  have e48 : ((c.toNat : Int) = 48) ↔ c = 48 := c_eq c 48
  have e49 : ((c.toNat : Int) = 49) ↔ c = 49 := c_eq c 49
  have e105 : ((c.toNat : Int) = 105) ↔ c = 105 := c_eq c 105
  have e45 : ((c.toNat : Int) = 45) ↔ c = 45 := c_eq c 45
  have htwo : (((z64 ((k : Int) + 1)).bind fun v4 =>
    bif (ltZ v4 (s.length : Int)) then
      ((z64 ((k : Int) + 2)).bind fun v5 =>
      (cut s (k : Int) v5).bind fun s6 =>
      some s6)
    else
      some ([] : Bs)) : Option Bs) = some (if r = [] then [] else (c :: r).take 2) := by
    rw [hz1, bind_in, bif_ltZ]
    by_cases h : k + 1 < s.length
    · have hne : ¬ r = [] := by rw [← hr]; intro e; have := congrArg List.length e; simp at this; omega
      rw [if_pos (by omega), hz2, bind_in, cut_mid (by omega), bind_in, hd, if_neg hne]
    · have hne : r = [] := by rw [← hr]; exact List.drop_eq_nil_of_le (by omega)
      rw [if_neg (by omega), if_pos hne]
  have htw : ∀ d e : UInt8, ((if r = [] then ([] : Bs) else (c :: r).take 2) = [d, e]) ↔ (c = d ∧ headP (fun x => decide (x = e)) r = true) := by
    intro d e
    cases r with
    | nil => simp [headP]
    | cons f r => simp [headP]
  unfold ladingref10_Skeleton.b1
  rw [bif_ltZ, if_pos (by omega), htwo, bind_in]
  unfold ladingref10_Skeleton.j3
  simp only [bif_dec, htw]
  rw [hd]
  simp only [stepS_cons]
  by_cases h1 : c = 114 ∧ headP (fun d => decide (d = 110)) r = true
  · rw [if_pos h1, if_pos h1, bind_in]
    unfold ladingref10_Skeleton.j2
    rw [cond_true, bif_dec, if_pos ((htw 114 110).2 h1), ap, bind_in, hz2]; rfl
  · rw [if_neg h1, if_neg h1, bind_in]
    unfold ladingref10_Skeleton.j2
    by_cases h2 : c = 118 ∧ headP (fun d => decide (d = 118)) r = true
    · rw [if_pos h2, decide_eq_true h2, cond_true, bif_dec, if_neg (fun e => h1 ((htw 114 110).1 e)), ap, bind_in, hz2]; rfl
    · rw [if_neg h2, decide_eq_false h2, cond_false, bAt_nat hk, bind_in, hc, bif_eqZ]
      unfold chS
      by_cases h5 : c = 45
      · subst h5
        rw [if_pos (e45.2 rfl), hz1]
        simp [bind_in]
      · rw [if_neg (fun e => h5 (e45.1 e)), bif_eqZ]
        by_cases h3 : c = 48
        · rw [if_pos (e48.2 h3), if_pos h3, ap, bind_in, hz1]; rfl
        · rw [if_neg (fun e => h3 (e48.1 e)), if_neg h3]
          have key : ∀ b : Bool, (b = true ↔ (c = 49 ∨ c = 105)) → ladingref10_Skeleton.j1 s out (k : Int) b = some (.inl (out ++ (if c = 49 ∨ c = 105 then [108] else if c = 45 then [] else [c]), ((k + 1 : Nat) : Int))) := by
            intro b hb
            unfold ladingref10_Skeleton.j1
            cases b with
            | true => rw [cond_true, if_pos (hb.1 rfl), ap, bind_in, hz1]; rfl
            | false =>
              rw [cond_false, if_neg (fun e => by have := hb.2 e; cases this), hz1, bind_in, cut_mid (by omega), bind_in, hd, if_neg h5]
              rw [show (c :: r).take 1 = [c] by simp, ap, bind_in, bind_in]
          rw [bif_eqZ]
          by_cases h4 : c = 49
          · rw [if_pos (e49.2 h4), bind_in, eqZ_eq]
            exact key _ (by rw [decide_eq_true_eq, e49]; simp [h4])
          · rw [if_neg (fun e => h4 (e49.1 e)), bind_in, eqZ_eq]
            exact key _ (by rw [decide_eq_true_eq, e105]; simp [h4])
theorem rskel_it (s : Bs) (hs : s.length + 1 ≤ Mx) : ∀ (n k : Nat) (out : Bs), s.length ≤ k + n → k ≤ s.length → out.length ≤ k → iterM (fun x => ladingref10_Skeleton.b1 s x.1 x.2) (n + 1) (out, (k : Int)) = some (out ++ skel (s.drop k)) := by
  intro n
  induction n with
  | zero =>
    intro k out h1 h2 h3
    obtain rfl : k = s.length := by omega
    have e : ladingref10_Skeleton.b1 s out (s.length : Int) = some (.inr out) := by unfold ladingref10_Skeleton.b1; rw [bif_ltZ, if_neg (by omega)]
    unfold iterM
    rw [e]
    simp [skel]
  | succ n ih =>
    intro k out h1 h2 h3
    by_cases hk : k < s.length
    · have hl := stepS_le (s.drop k) (by intro e; have := congrArg List.length e; simp at this; omega)
      rw [List.length_drop] at hl
      unfold iterM
      rw [rskelB s k hk out (by omega) (by omega)]
      dsimp only
      rw [ih _ _ (by omega) (by omega) (by rw [List.length_append]; omega), skel_step (s := s.drop k) (by intro e; have := congrArg List.length e; simp at this; omega), List.append_assoc, List.drop_drop]
    · obtain rfl : k = s.length := by omega
      have e : ladingref10_Skeleton.b1 s out (s.length : Int) = some (.inr out) := by unfold ladingref10_Skeleton.b1; rw [bif_ltZ, if_neg (by omega)]
      unfold iterM
      rw [e]
      simp [skel]
theorem rskel_eq {s : Bs} (hs : s.length + 1 ≤ Mx) : ladingref10_Skeleton s = some (skel s) := by
  unfold ladingref10_Skeleton
  have := rskel_it s hs s.length 0 [] (by omega) (by omega) (by simp)
  rw [List.nil_append, List.drop_zero] at this
  exact loopF_of this (by unfold Mx at hs; omega)
def conf (a b : Bs) : Bool := decide (skel a = skel b)
theorem conf_eq {a b : Bs} (ha : a.length + 1 ≤ Mx) (hb : b.length + 1 ≤ Mx) : name_Confusable a b = some (conf a b) := by
  unfold name_Confusable
  rw [skel_eq ha, bind_in, skel_eq hb]; rfl
theorem rconf_eq {a b : Bs} (ha : a.length + 1 ≤ Mx) (hb : b.length + 1 ≤ Mx) : ladingref10_Confusable a b = some (conf a b) := by
  unfold ladingref10_Confusable
  rw [rskel_eq ha, bind_in, rskel_eq hb]; rfl
end Go.Proofs.YtkhlbajdoaokeaaDoor
