/-
  RecallGrows: one more option, one problem less, one more unit of cost.
-/
import Derived.Test.YtonjhmnbcgchbaaQ10
namespace Go.Proofs.Ytonjhmnbcgchbaa
open Go.Lad Classical
set_option linter.unusedVariables false
set_option linter.unusedSectionVars false
set_option linter.unusedSimpArgs false

theorem sumC_congr {l l' : List GOption} {m : Nat} : ∀ (k : Nat), (∀ i, i < k → (l.getD i ops0).1 = (l'.getD i ops0).1) → (sumT l m k).1 = (sumT l' m k).1
  | 0, _ => rfl
  | k + 1, h => by
    have ih := sumC_congr (l := l) (l' := l') (m := m) k fun i hi => h i (by omega)
    have hk := h k (by omega)
    rw [sumT_succ, sumT_succ]
    by_cases hm : m.testBit k = true
    · rw [if_pos hm, if_pos hm]
      show (sumT l m k).1 + (l.getD k ops0).1 = (sumT l' m k).1 + (l'.getD k ops0).1
      rw [ih, hk]
    · rw [if_neg hm, if_neg hm]; exact ih
/-- what Plan costs at a list that has a good set of this cost -/
theorem plan_at {l : List GOption} {p : Nat} (h : RT l p) {x : Nat} (hx : x < 2 ^ l.length) (hg : goodM l p x) :
    ((planS l p).2.2 = 0 ∧ ∃ b, b < 2 ^ l.length ∧ goodM l p b ∧ costW l (planS l p).1 = cst l b ∧ cst l b ≤ cst l x) ∨ ((planS l p).2.2 = 6 ∧ (planS l p).1 = []) := by
  rcases plan_spec h with ⟨e0, b, hbl, e1, hgb, hmin, _⟩ | ⟨_, _, _, hno⟩ | ⟨e, _⟩
  · exact .inl ⟨e0, b, hbl, hgb, by rw [e1]; exact costW_lst h b l.length (Nat.le_refl _), hmin x hx hg⟩
  · exact absurd hg (hno x hx)
  · exact .inr ⟨by rw [e], by rw [e]⟩
/-! ### one more option -/
section
variable {l : List GOption} {more : GOption} {p : Nat} (h : RT l p) (h2 : RT (l ++ [more]) p) {b : Nat} (hb : b < 2 ^ l.length)
include h h2 hb
theorem long_good (hg : goodM l p b) : goodM (l ++ [more]) p b := by
  constructor
  · rintro ⟨i, hi, h1, h3⟩
    have hil : i < l.length := bit_lt hb h1
    rw [List.getElem_append_left hil] at h3
    refine hg.1 ⟨i, hil, h1, h3.imp (fun h => h) ?_⟩
    rintro ⟨x, _, h5, h6⟩
    have := h.mneed hil _ h6
    exact ⟨x, by omega, h5, h6⟩
  · intro q hq
    obtain ⟨i, hi, h1, h3⟩ := hg.2 q hq
    exact ⟨i, by simp; omega, h1, by rw [List.getElem_append_left hi]; exact h3⟩
theorem long_cst : cst (l ++ [more]) b = cst l b := by
  unfold cst
  rw [List.length_append, List.length_singleton, sumT_succ, if_neg (by rw [Nat.testBit_lt_two_pow hb]; simp)]
  exact sumC_congr _ fun i hi => by rw [List.getD_eq_getElem?_getD, List.getD_eq_getElem?_getD, List.getElem?_append_left hi]
end
/-! ### one problem less -/
def cutO (q : Int) (o : GOption) : GOption := if 0 < o.2.1.length ∧ o.2.1.getLast? = some (q - 1) then (o.1, o.2.1.take (o.2.1.length - 1), o.2.2) else o
theorem cutO_same (q : Int) (o : GOption) : (cutO q o).1 = o.1 ∧ (cutO q o).2.2 = o.2.2 := by
  unfold cutO
  split <;> exact ⟨rfl, rfl⟩
theorem snoc_form {α : Type} {s : List α} (h : s ≠ []) : ∃ y, s = s.take (s.length - 1) ++ [y] ∧ s.getLast? = some y := by
  refine ⟨s.getLast h, ?_, List.getLast?_eq_some_getLast h⟩
  rw [← List.dropLast_eq_take, List.dropLast_concat_getLast]
theorem cutO_rise {q : Nat} {o : GOption} (hr : riseB ((q + 1 : Nat) : Int) (-1) (-1) o.2.1 = true) : riseB (q : Int) (-1) (-1) (cutO ((q + 1 : Nat) : Int) o).2.1 = true ∧ ∀ x : Nat, x < q → (x : Int) ∈ o.2.1 → (x : Int) ∈ (cutO ((q + 1 : Nat) : Int) o).2.1 := by
  have hm := rise_mem hr
  have hp := rise_pair hr
  by_cases hne : o.2.1 = []
  · have e : cutO ((q + 1 : Nat) : Int) o = o := by unfold cutO; rw [if_neg (by simp [hne])]
    rw [e, hne]
    exact ⟨rfl, fun x _ hx => hx⟩
  · obtain ⟨y, hy, hl⟩ := snoc_form hne
    have hpos : 0 < o.2.1.length := by cases hz : o.2.1 with | nil => exact absurd hz hne | cons _ _ => simp
    have hyl : ∀ x ∈ o.2.1.take (o.2.1.length - 1), x < y := fun x hx => by
      rw [hy, List.pairwise_append] at hp
      exact hp.2.2 x hx y (by simp)
    have hym := hm y (by rw [hy]; simp)
    unfold cutO
    by_cases hc : y = (q : Int)
    · rw [if_pos ⟨hpos, by rw [hl, hc]; congr 1; omega⟩]
      dsimp only
      refine ⟨rise_of (hp.sublist (List.take_sublist _ _)) fun x hx => ?_, fun x hxq hx => ?_⟩
      · have := hm x (List.mem_of_mem_take hx)
        have := hyl x hx
        omega
      · rw [hy] at hx
        rcases List.mem_append.1 hx with hx | hx
        · exact hx
        · have := List.mem_singleton.1 hx; omega
    · rw [if_neg (by rw [hl]; rintro ⟨_, e⟩; injection e with e; omega)]
      refine ⟨rise_of hp fun x hx => ?_, fun x _ hx => hx⟩
      have := hm x hx
      rw [hy] at hx
      rcases List.mem_append.1 hx with hx | hx
      · have := hyl x hx; omega
      · have := List.mem_singleton.1 hx; omega
section
variable {l : List GOption} {q : Nat} (h : RT l (q + 1))
include h
theorem less_rt : RT (l.map (cutO ((q + 1 : Nat) : Int))) q := by
  have hp := h.hp
  have hn := h.hn
  have hs := cutO_same ((q + 1 : Nat) : Int)
  refine ⟨by omega, by simpa using hn, fun i hi => ?_, fun i hi => ?_, fun i hi => ?_, fun i hi => ?_⟩
  all_goals
    have hil : i < l.length := by simpa using hi
    rw [List.getElem_map]
  · rw [(hs l[i]).1]; exact h.cost i hil
  · exact (cutO_rise (h.rem i hil)).1
  · rw [(hs l[i]).2, List.length_map]; exact h.need i hil
  · rw [(hs l[i]).2, List.length_map]; exact h.exc i hil
theorem less_good {b : Nat} (hg : goodM l (q + 1) b) : goodM (l.map (cutO ((q + 1 : Nat) : Int))) q b := by
  have hs := cutO_same ((q + 1 : Nat) : Int)
  constructor
  · rintro ⟨i, hi, h1, h3⟩
    have hil : i < l.length := by simpa using hi
    rw [List.getElem_map, (hs l[i]).2, List.length_map] at h3
    exact hg.1 ⟨i, hil, h1, h3⟩
  · intro x hx
    obtain ⟨i, hi, h1, h3⟩ := hg.2 x (by omega)
    exact ⟨i, by simpa using hi, h1, by rw [List.getElem_map]; exact (cutO_rise (h.rem i hi)).2 x hx h3⟩
theorem less_cst (b : Nat) : cst (l.map (cutO ((q + 1 : Nat) : Int))) b = cst l b := by
  unfold cst
  rw [List.length_map]
  refine sumC_congr _ fun i hi => ?_
  rw [getD_at (show i < (l.map (cutO ((q + 1 : Nat) : Int))).length by simpa using hi), getD_at hi, List.getElem_map]
  exact (cutO_same _ _).1
theorem less_loop : loopF (fun x => ladinglaw46_RecallGrows.b1 ((q + 1 : Nat) : Int) x.1 x.2) (0, l) = some (l.map (cutO ((q + 1 : Nat) : Int))) := by
  have hp := h.hp
  have hn := h.hn
  have hfin : (l.take l.length).map (cutO ((q + 1 : Nat) : Int)) ++ l.drop l.length = l.map (cutO ((q + 1 : Nat) : Int)) := by rw [List.take_length, List.drop_length, List.append_nil]
  rw [← hfin]
  refine loopF_at (fun k => ((k : Int), (l.take k).map (cutO ((q + 1 : Nat) : Int)) ++ l.drop k)) l.length (by simp) (fun k hk => ?_) ?_ (by omega)
  · have hlen : ((l.take k).map (cutO ((q + 1 : Nat) : Int)) ++ l.drop k).length = l.length := by simp; omega
    have hlk : ((l.take k).map (cutO ((q + 1 : Nat) : Int))).length = k := by simp; omega
    have hget : idx ((l.take k).map (cutO ((q + 1 : Nat) : Int)) ++ l.drop k) (k : Int) = some l[k] := by
      rw [idx_nat (by omega)]
      congr 1
      rw [List.getElem_append_right (by omega)]
      rw [List.getElem_drop]
      congr 1
      omega
    have hset : ∀ o, ((l.take k).map (cutO ((q + 1 : Nat) : Int)) ++ l.drop k).set ((k : Int)).toNat o = (l.take k).map (cutO ((q + 1 : Nat) : Int)) ++ o :: l.drop (k + 1) := fun o => by
      rw [Int.toNat_natCast, List.set_append_right _ _ (by omega), hlk, Nat.sub_self, List.drop_eq_getElem_cons hk]; rfl
    have hnext : (l.take (k + 1)).map (cutO ((q + 1 : Nat) : Int)) ++ l.drop (k + 1) = (l.take k).map (cutO ((q + 1 : Nat) : Int)) ++ cutO ((q + 1 : Nat) : Int) l[k] :: l.drop (k + 1) := by
      rw [take_snoc l k hk, List.map_append]; simp
    have hlit := (h.lit.2 l[k] (List.getElem_mem hk)).1
    unfold ladinglaw46_RecallGrows.b1
    simp only [ltZ_eq, eqZ_eq, bif_dec, hlen, hget, bind_in]
    rw [if_pos (by omega)]
    unfold ladinglaw46_RecallGrows.j2
    simp only [z64_succ (show k + 1 ≤ 9223372036854775807 by omega), bind_in, hget]
    rw [hnext]
    by_cases hne : 0 < l[k].2.1.length
    · rw [if_pos (by omega), z64_i (by omega), bind_in]
      obtain ⟨y, hy, hl⟩ := snoc_form (s := l[k].2.1) (fun e => by rw [e] at hne; simp at hne)
      have hidx : idx l[k].2.1 ((l[k].2.1.length : Int) - 1) = some y := by
        unfold idx
        rw [if_pos (by omega), ← hl, List.getLast?_eq_getElem?]
        congr 1
        omega
      rw [hidx, bind_in, z64_i (by omega), bind_in, bind_in]
      have hcut : cut l[k].2.1 0 ((l[k].2.1.length : Int) - 1) = some (l[k].2.1.take (l[k].2.1.length - 1)) := by
        unfold cut
        rw [if_pos (by omega), show ((l[k].2.1.length : Int) - 1).toNat = l[k].2.1.length - 1 by omega]; rfl
      by_cases hc : y = ((q + 1 : Nat) : Int) - 1
      · rw [decide_eq_true hc, cond_true, bind_in, hcut, bind_in, hset]
        unfold cutO
        rw [if_pos ⟨hne, by rw [hl, hc]⟩]
      · rw [decide_eq_false hc, cond_false]
        unfold cutO
        rw [if_neg (by rw [hl]; rintro ⟨_, e⟩; injection e with e; exact hc e), List.drop_eq_getElem_cons hk]
    · rw [if_neg (by omega), bind_in, cond_false]
      unfold cutO
      rw [if_neg (fun e => hne e.1), List.drop_eq_getElem_cons hk]
  · unfold ladinglaw46_RecallGrows.b1
    simp only [ltZ_eq, bif_dec]
    rw [if_neg (by simp)]
end
/-! ### one more unit of cost -/
def dear (l : List GOption) (j : Nat) (o : GOption) : List GOption := l.set j (o.1 + 1, o.2)
section
variable {l : List GOption} {p : Nat} (h : RT l p) {j : Nat} (hj : j < l.length) (hc : l[j].1 ≠ 1073741824)
include h hj hc
theorem dear_get {i : Nat} (hi : i < l.length) : ∃ hi2 : i < (dear l j l[j]).length, (dear l j l[j])[i] = ((if i = j then l[i].1 + 1 else l[i].1), l[i].2) := by
  refine ⟨by unfold dear; rw [List.length_set]; exact hi, ?_⟩
  unfold dear
  rw [List.getElem_set]
  by_cases e : j = i
  · subst e; rw [if_pos rfl, if_pos rfl]
  · rw [if_neg e, if_neg (fun e2 => e e2.symm)]
theorem dear_rt : RT (dear l j l[j]) p := by
  have hlen : (dear l j l[j]).length = l.length := by unfold dear; rw [List.length_set]
  refine ⟨h.hp, by rw [hlen]; exact h.hn, fun i hi => ?_, fun i hi => ?_, fun i hi => ?_, fun i hi => ?_⟩
  all_goals
    obtain ⟨hi2, e⟩ := dear_get h hj hc (show i < l.length by omega)
    rw [e]
  · have h1 := h.cost i (by omega)
    by_cases e2 : i = j
    · subst e2
      rw [if_pos rfl]
      omega
    · rw [if_neg e2]; exact h1
  · exact h.rem i (by omega)
  · rw [hlen]; exact h.need i (by omega)
  · rw [hlen]; exact h.exc i (by omega)
theorem dear_good {b : Nat} : goodM (dear l j l[j]) p b ↔ goodM l p b := by
  have hlen : (dear l j l[j]).length = l.length := by unfold dear; rw [List.length_set]
  constructor
  · rintro ⟨g1, g2⟩
    constructor
    · rintro ⟨i, hi, h1, h3⟩
      obtain ⟨hi2, e⟩ := dear_get h hj hc hi
      exact g1 ⟨i, hi2, h1, by rw [e, hlen]; exact h3⟩
    · intro x hx
      obtain ⟨i, hi, h1, h3⟩ := g2 x hx
      obtain ⟨hi2, e⟩ := dear_get h hj hc (show i < l.length by omega)
      rw [e] at h3
      exact ⟨i, by omega, h1, h3⟩
  · rintro ⟨g1, g2⟩
    constructor
    · rintro ⟨i, hi, h1, h3⟩
      obtain ⟨hi2, e⟩ := dear_get h hj hc (show i < l.length by omega)
      rw [e, hlen] at h3
      exact g1 ⟨i, by omega, h1, h3⟩
    · intro x hx
      obtain ⟨i, hi, h1, h3⟩ := g2 x hx
      obtain ⟨hi2, e⟩ := dear_get h hj hc hi
      exact ⟨i, hi2, h1, by rw [e]; exact h3⟩
theorem dear_sum (b : Nat) : ∀ k, k ≤ l.length → (sumT (dear l j l[j]) b k).1 = (sumT l b k).1 + (if j < k ∧ b.testBit j = true then 1 else 0)
  | 0, _ => by simp [sumT]
  | k + 1, hk => by
    have ih := dear_sum b k (by omega)
    obtain ⟨hi2, e⟩ := dear_get h hj hc (show k < l.length by omega)
    rw [sumT_succ, sumT_succ]
    by_cases hb : b.testBit k = true
    · rw [if_pos hb, if_pos hb]
      rw [getD_at hi2, getD_at (show k < l.length by omega), e]
      dsimp only
      rw [ih]
      by_cases e2 : k = j
      · subst e2
        rw [if_pos rfl, if_neg (by omega), if_pos ⟨by omega, hb⟩]
        omega
      · rw [if_neg e2]
        by_cases e3 : j < k ∧ b.testBit j = true
        · rw [if_pos e3, if_pos ⟨by omega, e3.2⟩]; omega
        · rw [if_neg e3, if_neg (fun e4 => e3 ⟨by omega, e4.2⟩)]; omega
    · rw [if_neg hb, if_neg hb, ih]
      by_cases e3 : j < k ∧ b.testBit j = true
      · rw [if_pos e3, if_pos ⟨by omega, e3.2⟩]
      · rw [if_neg e3, if_neg]
        rintro ⟨e4, e5⟩
        by_cases e6 : j = k
        · rw [e6] at e5; exact hb e5
        · exact e3 ⟨by omega, e5⟩
theorem dear_cst (b : Nat) : cst l b ≤ cst (dear l j l[j]) b ∧ cst (dear l j l[j]) b ≤ cst l b + 1 := by
  have hlen : (dear l j l[j]).length = l.length := by unfold dear; rw [List.length_set]
  have := dear_sum h hj hc b l.length (Nat.le_refl _)
  unfold cst
  rw [hlen, this]
  split <;> omega
end
/-! ### the law -/
theorem grows_true (l : List GOption) (p : Int) (more : GOption) (k : Int) (hlen : l.length ≤ 1048576) : ladinglaw46_RecallGrows l p more k = some true := by
  unfold ladinglaw46_RecallGrows
  have ha : app? [] l = some l := by unfold app?; rw [if_pos (by simp; omega)]; rfl
  have ha2 : app? l [more] = some (l ++ [more]) := by unfold app?; rw [if_pos (by simp; omega)]
  obtain ⟨b, hb, hb2⟩ := light_eq (l ++ [more]) 13 (by omega)
  have hb : ladinglaw46_light (l ++ [more]) 13 = some b := hb
  rw [small_true, bind_in, ha, bind_in, ha2, bind_in, hb, bind_in]
  unfold ladinglaw46_RecallGrows.j7
  simp only [ltZ_eq, bif_dec]
  cases b with
  | false => rfl
  | true =>
    have h13 := (hb2 rfl).1
    rw [List.length_append, List.length_singleton] at h13
    have hl2 := light_lit (by omega) (hb2 rfl)
    have hl : Lit l := ⟨by omega, fun o ho => hl2.2 o (List.mem_append_left _ ho)⟩
    rw [bif_not, cond_true]
    by_cases h1 : p < 1
    · rw [if_pos h1]; rfl
    · rw [if_neg h1]
      by_cases h2 : 20 < p
      · rw [if_pos h2]; rfl
      · rw [if_neg h2, Right_eq hl, bind_in, bind_in]
        cases hr : rightB l p with
        | false => rfl
        | true =>
          obtain ⟨q1, rfl, h⟩ := rightB_iff.1 hr
          obtain ⟨q, rfl⟩ : ∃ q, q1 = q + 1 := ⟨q1 - 1, by omega⟩
          have hpl := planS_len h
          rw [Bool.not_true, cond_false, Plan_eq h, bind_in, eqZ_eq, bif_not, bif_dec]
          rcases plan_spec h with ⟨e0, b, hbl, e1, hgb, hmin, _⟩ | ⟨e, _⟩ | ⟨e, _⟩
          · have hcost : costW l (planS l (q + 1)).1 = cst l b := by rw [e1]; exact costW_lst h b l.length (Nat.le_refl _)
            have hcb := cst_lt h b
            rw [if_pos e0, Cost_eq l _ hpl.1, bind_in, ha, bind_in, ha2, bind_in, hcost, Right_eq hl2, bind_in]
            -- with the further option
            have hlong : (bif rightB (l ++ [more]) ((q + 1 : Nat) : Int) then
                ((recall_Plan (l ++ [more]) ((q + 1 : Nat) : Int)).bind fun p16 =>
                (bif (!eqZ p16.2.2 0) then (bif (!eqZ p16.2.2 6) then some true else (bif (eqZ p16.2.2 0) then ((recall_Cost (l ++ [more]) p16.1).bind fun c17 => some (decide (cst l b < c17))) else some false))
                else (bif (eqZ p16.2.2 0) then ((recall_Cost (l ++ [more]) p16.1).bind fun c18 => some (decide (cst l b < c18))) else some false)).bind fun x => ladinglaw46_RecallGrows.j1 x)
              else some (.inl ())) = some (.inl ()) := by
              cases hr2 : rightB (l ++ [more]) ((q + 1 : Nat) : Int) with
              | false => rfl
              | true =>
                obtain ⟨q', e', h2⟩ := rightB_iff.1 hr2
                have : q' = q + 1 := by omega
                subst this
                have hpl2 := planS_len h2
                rw [cond_true, Plan_eq h2, bind_in]
                rcases plan_at h2 (x := b) (by rw [List.length_append, List.length_singleton]; exact lt_succ_pow hbl) (long_good h h2 hbl hgb) with ⟨f0, b', hb', hg', hc', hle⟩ | ⟨f6, _⟩
                · rw [long_cst h h2 hbl] at hle
                  rw [f0, Cost_eq _ _ hpl2.1, hc']
                  simp only [bind_in]
                  rw [decide_eq_false (show ¬ cst l b < cst (l ++ [more]) b' by omega)]
                  rfl
                · rw [f6]; rfl
            rw [hlong, bind_in]
            dsimp only
            unfold ladinglaw46_RecallGrows.j6
            rw [ha, bind_in, less_loop h, bind_in]
            -- with one problem less
            unfold ladinglaw46_RecallGrows.j5
            have hl3 := less_rt h
            have hpl3 := planS_len hl3
            rw [z64_i (by omega), bind_in, show ((q + 1 : Nat) : Int) - 1 = (q : Int) by omega, Plan_eq hl3, bind_in]
            have hx : (bif (!eqZ (planS (l.map (cutO ((q + 1 : Nat) : Int))) q).2.2 0) then (bif (!eqZ (planS (l.map (cutO ((q + 1 : Nat) : Int))) q).2.2 6) then some true else (bif (eqZ (planS (l.map (cutO ((q + 1 : Nat) : Int))) q).2.2 0) then ((recall_Cost (l.map (cutO ((q + 1 : Nat) : Int))) (planS (l.map (cutO ((q + 1 : Nat) : Int))) q).1).bind fun c42 => some (ltZ (cst l b) c42)) else some false))
                else (bif (eqZ (planS (l.map (cutO ((q + 1 : Nat) : Int))) q).2.2 0) then ((recall_Cost (l.map (cutO ((q + 1 : Nat) : Int))) (planS (l.map (cutO ((q + 1 : Nat) : Int))) q).1).bind fun c43 => some (ltZ (cst l b) c43)) else some false)) = some false := by
              rcases plan_at hl3 (x := b) (by rw [List.length_map]; exact hbl) (less_good h hgb) with ⟨f0, b', hb', hg', hc', hle⟩ | ⟨f6, _⟩
              · rw [less_cst h b] at hle
                rw [f0, Cost_eq _ _ hpl3.1, hc']
                simp only [bind_in, ltZ_eq]
                rw [decide_eq_false (show ¬ cst l b < cst (l.map (cutO ((q + 1 : Nat) : Int))) b' by omega)]
                rfl
              · rw [f6]; rfl
            rw [hx, bind_in]
            -- with one more unit of cost
            unfold ladinglaw46_RecallGrows.j4
            simp only [cond_false, ltZ_eq, leZ_eq, bif_dec, eqZ_eq]
            unfold ladinglaw46_RecallGrows.j3
            by_cases hk0 : k < 0
            · rw [if_pos hk0]; rfl
            · rw [if_neg hk0]
              by_cases hk1 : (l.length : Int) ≤ k
              · rw [if_pos hk1]; rfl
              · rw [if_neg hk1]
                obtain ⟨j, rfl⟩ := Int.eq_ofNat_of_zero_le (show 0 ≤ k by omega)
                have hj : j < l.length := by omega
                rw [idx_nat hj, bind_in, bind_in]
                by_cases hcm : l[j].1 = 1073741824
                · rw [decide_eq_true hcm]; rfl
                · have hcj := h.cost j hj
                  have hd := dear_rt h hj hcm
                  have hpl4 := planS_len hd
                  have hdlen : (dear l j l[j]).length = l.length := by unfold dear; rw [List.length_set]
                  rw [decide_eq_false hcm, cond_false, ha, bind_in, idx_nat hj, bind_in, bind_in, z64_i (by omega), bind_in, bind_in, bind_in]
                  show ((recall_Plan (dear l j l[j]) ((q + 1 : Nat) : Int)).bind fun p53 => (recall_Cost (dear l j l[j]) p53.1).bind _) = _
                  rw [Plan_eq hd, bind_in, Cost_eq _ _ hpl4.1, bind_in, cond_true, eqZ_eq, eqZ_eq, bif_dec]
                  rcases plan_at hd (x := b) (by rw [hdlen]; exact hbl) ((dear_good h hj hcm).2 hgb) with ⟨f0, b', hb', hg', hc', hle⟩ | ⟨f6, _⟩
                  · have hg'' := (dear_good h hj hcm).1 hg'
                    have hm2 := hmin b' (by rw [← hdlen]; exact hb') hg''
                    have d1 := dear_cst h hj hcm b
                    have d2 := dear_cst h hj hcm b'
                    rw [if_neg (by omega), bif_dec, if_pos f0, eqZ_eq, bif_dec, hc']
                    by_cases he : cst (dear l j l[j]) b' = cst l b
                    · rw [if_pos he]
                    · rw [if_neg he, z64_i (by simp only [Never] at hcb; omega), bind_in, eqZ_eq, decide_eq_true (show cst (dear l j l[j]) b' = cst l b + 1 by omega)]
                  · rw [if_pos f6]
          · rw [if_neg (by rw [e]; decide)]
          · rw [if_neg (by rw [e]; decide)]
end Go.Proofs.Ytonjhmnbcgchbaa
