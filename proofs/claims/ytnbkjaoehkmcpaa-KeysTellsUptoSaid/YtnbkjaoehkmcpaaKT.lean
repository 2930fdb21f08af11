/-
  Layer 11 (keys): the law KeysTells in plain words: the reference computes the same.
-/
import Derived.Test.YtnbkjaoehkmcpaaKC
namespace Go.Proofs.Ytnbkjaoehkmcpaa
open Go.Lad
set_option linter.unusedVariables false
set_option linter.unusedSimpArgs false
theorem rowner_eq {l : List GFact} {s : Bs} (h : Bd l) : ladingref11_Owner l s = some (ownT l s) := by
  have hl := h.1
  unfold ladingref11_Owner
  have hloop : ∃ a, loopF (fun x => ladingref11_Owner.b1 l s x.1 x.2) ((-1), 0) = some a ∧ ((a = -1 ∧ lastOf (ownB s) l = none) ∨ ∃ m, ∃ hm : m < l.length, a = (m : Int) ∧ lastOf (ownB s) l = some l[m]) := by
    refine loopF_inv (fun k x => ∃ a, x = (a, (k : Int)) ∧ ((a = -1 ∧ lastOf (ownB s) (l.take k) = none) ∨ ∃ m, ∃ hm : m < l.length, a = (m : Int) ∧ lastOf (ownB s) (l.take k) = some l[m])) l.length ⟨-1, rfl, .inl ⟨rfl, rfl⟩⟩ ?_ ?_
    · rintro k hk x ⟨a, rfl, ha⟩
      have hb : ((idx l (k : Int)).bind fun v5 => bif eqZ v5.1 5 then (idx l (k : Int)).bind fun v6 => some (decide (v6.2.1 = s)) else (idx l (k : Int)).bind fun v7 => bif eqZ v7.1 4 then (idx l (k : Int)).bind fun v8 => some (decide (v8.2.1 = s)) else some false) = some (ownB s l[k]) := by
        rw [idx_nat hk]
        simp only [bind_in, bif_eqZ]
        unfold ownB
        by_cases h5 : l[k].1 = 5
        · simp [h5]
        · by_cases h4 : l[k].1 = 4
          · simp [h4]
          · simp [h4, h5]
      simp only [ladingref11_Owner.b1, bif_ltZ, lt_t hk, if_true]
      rw [hb]
      simp only [bind_in, ladingref11_Owner.j1]
      rw [take_snoc l k hk, lastOf_snoc, z64_succ (by omega)]
      cases ownB s l[k] with
      | true => exact .inl ⟨_, rfl, _, rfl, .inr ⟨k, hk, rfl, by simp⟩⟩
      | false => exact .inl ⟨_, rfl, _, rfl, by simpa using ha⟩
    · rintro x ⟨a, rfl, ha⟩
      rw [List.take_length] at ha
      exact ⟨a, by simp only [ladingref11_Owner.b1, bif_ltZ, lt_f, if_false], ha⟩
  obtain ⟨a, h1, h2⟩ := hloop
  rw [h1]
  simp only [bind_in, ladingref11_Owner.j2, bif_ltZ]
  unfold ownT
  rcases h2 with ⟨rfl, h3⟩ | ⟨m, hm, rfl, h3⟩
  · rw [if_pos (by omega), h3]
  · rw [if_neg (by omega), h3, idx_nat hm]
    simp only [bind_in]
    have := h.2 _ (List.getElem_mem hm)
    rw [app_in (by simp only [List.length_nil, Nat.zero_add]; exact Nat.le_trans this (by omega))]
    rfl
theorem rdel_eq {l : List GFact} {s : Bs} (h : Bd l) : ladingref11_Delegates l s = some (delT l s) := by
  have hl := h.1
  unfold ladingref11_Delegates
  have hloop : ∃ a, loopF (fun x => ladingref11_Delegates.b1 l s x.1 x.2) ((-1), 0) = some a ∧ ((a = -1 ∧ delT l s = ([], 0, 0)) ∨ ∃ m, ∃ hm : m < l.length, a = (m : Int) ∧ delT l s = (fKeys l[m], fNeed l[m], fUntil l[m])) := by
    refine loopF_inv (fun k x => ∃ a, x = (a, (k : Int)) ∧ ((a = -1 ∧ delT (l.take k) s = ([], 0, 0)) ∨ ∃ m, ∃ hm : m < l.length, a = (m : Int) ∧ delT (l.take k) s = (fKeys l[m], fNeed l[m], fUntil l[m]))) l.length ⟨-1, rfl, .inl ⟨rfl, rfl⟩⟩ ?_ ?_
    · rintro k hk x ⟨a, rfl, ha⟩
      have e : delT (l.take k ++ [l[k]]) s = if tdB s l[k] = true then (if l[k].1 = 6 then (fKeys l[k], fNeed l[k], fUntil l[k]) else ([], 0, 0)) else delT (l.take k) s := by
        unfold delT
        rw [lastOf_snoc]
        cases tdB s l[k] <;> simp
      simp only [ladingref11_Delegates.b1, bif_ltZ, lt_t hk, if_true, idx_nat hk, bind_in, bif_dec]
      rw [take_snoc l k hk, e]
      by_cases hs : l[k].2.1 = s
      · rw [if_pos hs]
        simp only [bind_in, ladingref11_Delegates.j1, ladingref11_Delegates.j3, idx_nat hk, eqZ_eq, bif_dec]
        rw [if_pos hs]
        by_cases h5 : l[k].1 = 5
        · have ht : tdB s l[k] = true := decide_eq_true ⟨.inl h5, hs⟩
          rw [if_pos h5, ht]
          simp only [bind_in, ladingref11_Delegates.j2, bif_dec]
          rw [if_neg (by omega), z64_succ (by omega)]
          exact .inl ⟨_, rfl, _, rfl, .inl ⟨rfl, by simp [h5]⟩⟩
        · rw [if_neg h5]
          simp only [bind_in, ladingref11_Delegates.j2, bif_dec]
          by_cases h6 : l[k].1 = 6
          · have ht : tdB s l[k] = true := decide_eq_true ⟨.inr h6, hs⟩
            rw [if_pos h6, ht, z64_succ (by omega)]
            exact .inl ⟨_, rfl, _, rfl, .inr ⟨k, hk, rfl, by simp [h6]⟩⟩
          · have ht : tdB s l[k] = false := decide_eq_false (by omega)
            rw [if_neg h6, ht, z64_succ (by omega)]
            exact .inl ⟨_, rfl, _, rfl, by simpa using ha⟩
      · have ht : tdB s l[k] = false := decide_eq_false fun h => hs h.2
        rw [if_neg hs, ht]
        simp only [bind_in, ladingref11_Delegates.j1, cond_false, ladingref11_Delegates.j3, idx_nat hk, bif_dec]
        rw [if_neg hs]
        simp only [bind_in, ladingref11_Delegates.j2, cond_false]
        rw [z64_succ (by omega)]
        exact .inl ⟨_, rfl, _, rfl, by simpa using ha⟩
    · rintro x ⟨a, rfl, ha⟩
      rw [List.take_length] at ha
      exact ⟨a, by simp only [ladingref11_Delegates.b1, bif_ltZ, lt_f, if_false], ha⟩
  obtain ⟨a, h1, h2⟩ := hloop
  rw [h1]
  simp only [bind_in, ladingref11_Delegates.j4, bif_ltZ]
  rcases h2 with ⟨rfl, h3⟩ | ⟨m, hm, rfl, h3⟩
  · rw [if_pos (by omega), h3]
  · rw [if_neg (by omega), h3, idx_nat hm]
    simp only [bind_in]
    have := h.2 _ (List.getElem_mem hm)
    rw [app_in (by simp only [List.length_nil, Nat.zero_add]; exact Nat.le_trans this (by omega))]
    rfl
theorem rmay_eq {l : List GFact} {reg : List Int} {f : GFact} {S : List Int} (h : Bd l) (hf : (fKeys f).length ≤ 1000) (hS : S.length ≤ 1000000) (hr : reg.length ≤ 1000000) : ladingref11_May l reg f S = some (mayF l reg f S) := by
  have hright : ladingref11_right f = some (setB (fKeys f) (fNeed f)) := right_eq (Nat.le_trans hf (by omega))
  have ho := ownT_len h (nameF f)
  have hd := delT_len h (nameF f)
  have h2 : ∀ K n, K.length ≤ 1000 → ladingref11_May.j2 l f S K n = some (if n ≤ cnt K S then 0 else if f.1 = 0 ∧ 1 ≤ (delT l (nameF f)).2.1 ∧ (l.length : Int) ≤ (delT l (nameF f)).2.2 ∧ (delT l (nameF f)).2.1 ≤ cnt (delT l (nameF f)).1 S then 0 else 23) := fun K n hK => by
    unfold ladingref11_May.j2
    rw [count_eq hS (by omega)]
    simp only [bind_in, bif_leZ]
    by_cases h1 : n ≤ cnt K S
    · rw [if_pos h1, if_pos h1]
    · rw [if_neg h1, if_neg h1, rname_eq]
      simp only [bind_in]
      rw [rdel_eq h]
      simp only [bind_in, eqZ_eq, leZ_eq, bif_dec]
      by_cases h2 : f.1 = 0
      · rw [if_pos h2]
        by_cases h3 : 1 ≤ (delT l (nameF f)).2.1
        · rw [if_pos h3]
          by_cases h4 : (l.length : Int) ≤ (delT l (nameF f)).2.2
          · rw [if_pos h4, count_eq hS (by omega)]
            simp only [bind_in, ladingref11_May.j1, bif_dec]
            by_cases h5 : (delT l (nameF f)).2.1 ≤ cnt (delT l (nameF f)).1 S
            · rw [if_pos h5, if_pos ⟨h2, h3, h4, h5⟩]
            · rw [if_neg h5, if_neg fun h => h5 h.2.2.2]
          · rw [if_neg h4, if_neg fun h => h4 h.2.2.1]; rfl
        · rw [if_neg h3, if_neg fun h => h3 h.2.1]; rfl
      · rw [if_neg h2, if_neg fun h => h2 h.1]; rfl
  have h4 : ladingref11_May.j4 l reg f S false = some (mayB l f S) := by
    unfold ladingref11_May.j4 mayB
    rw [cond_false, rname_eq]
    simp only [bind_in]
    rw [rowner_eq h]
    simp only [bind_in]
    cases hi : (ownT l (nameF f)).2.2 with
    | true =>
      simp only [hi, Bool.not_true, cond_false, bind_in, ladingref11_May.j3, Bool.true_eq_false, false_and, if_false]
      exact h2 _ _ ho
    | false =>
      simp only [hi, Bool.not_false, cond_true, bind_in, ladingref11_May.j3, true_and, if_true, eqZ_eq, bif_not, bif_dec]
      by_cases h5 : f.1 = 5
      · rw [if_pos h5, if_neg (fun h => h h5)]
        exact h2 _ _ hf
      · rw [if_neg h5, if_pos h5]
  have h5 : ladingref11_May.j5 l reg f S false = some (if f.1 = 3 ∨ f.1 = 7 then (if 1 ≤ cnt reg S then 0 else 22) else mayB l f S) := by
    unfold ladingref11_May.j5
    rw [cond_false, bif_eqZ, eqZ_eq]
    by_cases c : f.1 = 3 ∨ f.1 = 7
    · rw [if_pos c]
      have : (if f.1 = 3 then some true else some (decide (f.1 = 7))) = some true := by
        by_cases a : f.1 = 3
        · rw [if_pos a]
        · rw [if_neg a, decide_eq_true (by omega)]
      rw [this]
      simp only [bind_in, ladingref11_May.j4, cond_true]
      rw [count_eq hS hr]
      simp only [bind_in, bif_eqZ]
      have h0 : 0 ≤ cnt reg S := by unfold cnt; omega
      by_cases c1 : 1 ≤ cnt reg S
      · rw [if_neg (by omega), if_pos c1]
      · rw [if_pos (by omega), if_neg c1]
    · rw [if_neg c]
      have : (if f.1 = 3 then some true else some (decide (f.1 = 7))) = some false := by
        rw [if_neg (by omega), decide_eq_false (by omega)]
      rw [this]
      simp only [bind_in]
      exact h4
  unfold ladingref11_May
  simp only [ltZ_eq, leZ_eq, bif_dec]
  by_cases hk : f.1 < 0 ∨ 8 ≤ f.1
  · have : (if f.1 < 0 then some true else some (decide (8 ≤ f.1))) = some true := by
      by_cases a : f.1 < 0
      · rw [if_pos a]
      · rw [if_neg a, decide_eq_true (by omega)]
    rw [this]
    simp only [bind_in, ladingref11_May.j6, cond_true]
    unfold mayF
    rw [if_neg (by omega), if_neg (by omega), if_neg (by omega)]
  · have : (if f.1 < 0 then some true else some (decide (8 ≤ f.1))) = some false := by
      rw [if_neg (by omega), decide_eq_false (by omega)]
    rw [this]
    simp only [bind_in, ladingref11_May.j6, cond_false, hright, eqZ_eq, bif_dec]
    unfold mayF
    by_cases c : f.1 = 4 ∨ f.1 = 5 ∨ f.1 = 6
    · rw [if_pos c]
      have : (if f.1 = 4 then some (!setB (fKeys f) (fNeed f)) else if f.1 = 5 then some (!setB (fKeys f) (fNeed f)) else if f.1 = 6 then some (!setB (fKeys f) (fNeed f)) else some false) = some (!setB (fKeys f) (fNeed f)) := by
        rcases c with c | c | c <;> simp [c]
      rw [this]
      simp only [bind_in]
      cases setB (fKeys f) (fNeed f) with
      | true =>
        rw [if_pos rfl]
        show ladingref11_May.j5 l reg f S false = _
        rw [h5, if_neg (by omega)]
      | false => rfl
    · rw [if_neg c]
      have : (if f.1 = 4 then some (!setB (fKeys f) (fNeed f)) else if f.1 = 5 then some (!setB (fKeys f) (fNeed f)) else if f.1 = 6 then some (!setB (fKeys f) (fNeed f)) else some false) = some false := by
        rw [if_neg (by omega), if_neg (by omega), if_neg (by omega)]
      rw [this]
      simp only [bind_in]
      rw [h5]
      by_cases c2 : f.1 = 3 ∨ f.1 = 7
      · rw [if_pos c2, if_pos c2]
      · rw [if_neg c2, if_neg c2, if_pos (by omega)]
theorem radmit_eq {l : List GFact} {reg : List Int} {sg : List (List Int)} (h : Bd l) (hs : ∀ S ∈ sg, S.length ≤ 1000000) (hr : reg.length ≤ 1000000) : ladingref11_Admit l reg sg = some (admF l reg sg) := by
  unfold ladingref11_Admit admF
  have hl := h.1
  refine loop_scan l _ _ (fun k hk => ?_) ?_ (by omega)
  · simp only [ladingref11_Admit.b1, bif_ltZ, lt_t hk, if_true]
    have : (if (k : Int) < (sg.length : Int) then (idx sg (k : Int)).bind fun v6 => some v6 else some []) = some (sg.getD k []) := by
      by_cases hk2 : k < sg.length
      · rw [if_pos (by omega), idx_nat hk2, List.getD_eq_getElem?_getD, List.getElem?_eq_getElem hk2]; rfl
      · rw [if_neg (by omega), List.getD_eq_getElem?_getD, List.getElem?_eq_none (by omega)]; rfl
    rw [this]
    simp only [bind_in, ladingref11_Admit.j1]
    rw [cut_take (by omega)]
    simp only [bind_in, idx_nat hk]
    rw [rmay_eq (h.take k) (h.2 _ (List.getElem_mem hk)) (by
      rw [List.getD_eq_getElem?_getD]
      cases hg : sg[k]? with
      | none => simp
      | some S => exact hs S (List.mem_of_getElem? hg)) hr]
    simp only [bind_in, bif_not, bif_eqZ, z64_succ (show k + 1 ≤ 9223372036854775807 by omega)]
    split <;> rfl
  · simp only [ladingref11_Admit.b1, bif_ltZ, lt_f, if_false]
theorem rchain_eq {l : List GFact} {s : Bs} (h : l.length ≤ 1000000) : ladingref11_Chain l s = some (chainF l s) := by
  unfold ladingref11_Chain chainF
  refine loop_fold (body := fun x : Int × List Int => ladingref11_Chain.b1 l s x.1 x.2) (fun k o => ((k : Int), o)) l (fun (k : Nat) (o : List Int) f => if ownB s f = true then o ++ [(k : Int)] else o) id (fun k o => o.length ≤ k) (fun k hk o ho => ?_) (fun k hk o ho => ?_) (fun o ho => ?_) (by omega) (Nat.le_refl _)
  · split
    · simp; omega
    · omega
  · have hb : ((idx l (k : Int)).bind fun v5 => bif eqZ v5.1 5 then (idx l (k : Int)).bind fun v6 => some (decide (v6.2.1 = s)) else (idx l (k : Int)).bind fun v7 => bif eqZ v7.1 4 then (idx l (k : Int)).bind fun v8 => some (decide (v8.2.1 = s)) else some false) = some (ownB s l[k]) := by
      rw [idx_nat hk]
      simp only [bind_in, bif_eqZ]
      unfold ownB
      by_cases h5 : l[k].1 = 5
      · simp [h5]
      · by_cases h4 : l[k].1 = 4
        · simp [h4]
        · simp [h4, h5]
    simp only [ladingref11_Chain.b1, bif_ltZ, lt_t hk, if_true]
    rw [hb]
    simp only [bind_in, ladingref11_Chain.j1]
    cases ownB s l[k] with
    | true =>
      simp only [cond_true, if_true]
      rw [app_in (by simp; omega), z64_succ (by omega)]; rfl
    | false =>
      simp only [cond_false]
      rw [z64_succ (by omega)]; rfl
  · simp only [ladingref11_Chain.b1, bif_ltZ, lt_f, if_false]; rfl
theorem rwalk_eq {l : List GFact} {s : Bs} {c : List Int} (h : Bd l) (hc : c.length ≤ 1000000) : ladingref11_Walk l s c = some (walkT l s c) := by
  have hl := h.1
  unfold ladingref11_Walk walkT
  rw [rchain_eq (by omega)]
  simp only [bind_in]
  rw [ints_eq hc]
  simp only [bind_in, bif_not, bif_dec]
  by_cases he : c = chainF l s
  · rw [if_pos he, if_pos he, rowner_eq h]
    simp only [bind_in]
    cases (ownT l s).2.2 <;> rfl
  · rw [if_neg he, if_neg he]
theorem tells_true (l : List GFact) (reg : List Int) (sg : List (List Int)) (f : GFact) (S : List Int) (nm : Bs) (ch : List Int) (hl : l.length ≤ 2000000) (hsg : sg.length ≤ 2000000) : ladinglaw11_KeysTells l reg sg f S nm ch = some true := by
  unfold ladinglaw11_KeysTells
  rw [small_true]
  simp only [bind_in]
  rw [app_in (by simp; omega)]
  simp only [bind_in]
  rw [app_in (by simp; omega)]
  obtain ⟨b, hb, hfew⟩ := few_eq (l := [f] ++ l) (sg := [S, reg, ch] ++ sg) (n := 18) (by simp; omega) (by simp; omega)
  simp only [bind_in]
  rw [hb]
  simp only [bind_in, ltZ_eq]
  cases b with
  | false => rfl
  | true =>
    obtain ⟨f1, f2, f3, f4⟩ := hfew rfl
    have f1 : l.length + 1 ≤ 18 := by simp at f1; omega
    simp only [Bool.not_true, cond_false, bind_in]
    by_cases h15 : 15 < (l.length : Int)
    · rw [decide_eq_true h15]; rfl
    · rw [decide_eq_false h15]
      have hBd : Bd l := ⟨by omega, fun g hg => Nat.le_trans (f3 g (by simp [hg])) (by omega)⟩
      have hf : (fKeys f).length ≤ 1000 := Nat.le_trans (f3 f (by simp)) (by omega)
      have hreg : reg.length ≤ 20 := f4 reg (by simp)
      have hS : S.length ≤ 20 := f4 S (by simp)
      have hc : ch.length ≤ 20 := f4 ch (by simp)
      have hss : ∀ S ∈ sg, S.length ≤ 1000000 := fun S hS => Nat.le_trans (f4 S (by simp [hS])) (by omega)
      have ho := ownT_len hBd nm
      have hd := delT_len hBd nm
      have hcl := chainF_len l nm
      have hw1 : (walkT l nm ch).1.length ≤ 1000 := by
        unfold walkT
        split
        · split
          · exact ho
          · simp
        · simp
      simp only [ladinglaw11_KeysTells.j3, cond_false]
      rw [owner_eq hBd]
      simp only [bind_in]
      rw [rowner_eq hBd]
      simp only [bind_in]
      rw [delegates_eq hBd]
      simp only [bind_in]
      rw [rdel_eq hBd]
      simp only [bind_in]
      rw [ints_eq (by omega)]
      simp only [bind_in, eqZ_eq, decide_true, Bool.not_true, cond_false, BEq.rfl]
      rw [ints_eq (by omega)]
      simp only [bind_in, eqZ_eq, decide_true, Bool.not_true, cond_false, ladinglaw11_KeysTells.j2]
      rw [admit_eq hBd hss (by omega)]
      simp only [bind_in]
      rw [radmit_eq hBd hss (by omega)]
      simp only [bind_in]
      rw [walk_eq hBd (by omega)]
      simp only [bind_in]
      rw [rwalk_eq hBd (by omega)]
      simp only [bind_in]
      rw [chain_eq (by omega)]
      simp only [bind_in]
      rw [rchain_eq (by omega)]
      simp only [bind_in]
      rw [walk_eq hBd (by omega)]
      simp only [bind_in]
      rw [ints_eq (by omega)]
      simp only [bind_in, eqZ_eq, decide_true, Bool.not_true, cond_false]
      rw [ints_eq (by omega)]
      simp only [bind_in, eqZ_eq, decide_true, Bool.not_true, cond_false, ladinglaw11_KeysTells.j1, cond_true]
      rw [may_eq hBd hf (by omega) (by omega)]
      simp only [bind_in]
      rw [rmay_eq hBd hf (by omega) (by omega)]
      simp only [bind_in, decide_true, cond_true]
      have hwk := walk_key (s := nm) hBd
      have hwt : walkT l nm (chainF l nm) = if (ownT l nm).2.2 = true then ((ownT l nm).1, (ownT l nm).2.1, 0) else ([], 0, 24) := by
        unfold walkT; rw [if_pos rfl]
      rw [hwt]
      cases hi : (ownT l nm).2.2 with
      | true =>
        rw [if_pos rfl]
        simp only
        rw [ints_eq (by omega)]
        simp [bind_in]
      | false =>
        have he : ownT l nm = ([], 0, false) := by
          unfold ownT at hi ⊢
          cases hlo : lastOf (ownB nm) l with
          | none => rfl
          | some g => rw [hlo] at hi; cases hi
        rw [if_neg (by simp), he]
        simp only
        rw [ints_eq (by simp)]
        simp [bind_in]
end Go.Proofs.Ytnbkjaoehkmcpaa
