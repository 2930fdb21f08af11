/-
  Layer 30 (refuse): what Core hands back is minimal; the law's bounds; the examples; RefuseTells.
-/
import Derived.Test.YthibbellkcdodaaR2
namespace Go.Proofs.Ythibbellkcdodaa
open Go.Lad
set_option linter.unusedVariables false
set_option linter.unusedSimpArgs false
set_option linter.unusedSectionVars false
/-! ### models of the clauses with some indices -/
def Op (l : List GClause) (n : Nat) (c : List Int) : Prop := ∃ m, Sat (lits (pickF l c)) n [] m
theorem mem_pick {l : List GClause} {c : List Int} {d : List Int} : d ∈ lits (pickF l c) ↔ ∃ i ∈ c, d = (l.getD i.toNat dfl).1 := by
  unfold lits pickF
  simp only [List.mem_map, List.map_map, Function.comp_apply]
  exact ⟨fun ⟨i, h1, h2⟩ => ⟨i, h1, h2.symm⟩, fun ⟨i, h1, h2⟩ => ⟨i, h1, h2.symm⟩⟩
theorem sat_mono {l : List GClause} {n : Nat} {a b : List Int} {m : List Bool} (h : ∀ x ∈ a, x ∈ b) (hs : Sat (lits (pickF l b)) n [] m) : Sat (lits (pickF l a)) n [] m := by
  refine ⟨hs.1, fun d hd => ?_, fun x hx => by cases hx⟩
  obtain ⟨i, hi, rfl⟩ := mem_pick.1 hd
  exact hs.2.1 _ (mem_pick.2 ⟨i, h i hi, rfl⟩)
theorem Op.mono {l : List GClause} {n : Nat} {a b : List Int} (h : ∀ x ∈ a, x ∈ b) (hs : Op l n b) : Op l n a := hs.elim fun m hm => ⟨m, sat_mono h hm⟩
theorem pick_all (l : List GClause) : pickF l (rangeI l.length) = l := by
  refine List.ext_getElem (by rw [pick_len, rangeI_len]) fun i h1 h2 => ?_
  simp only [pickF, rangeI, List.getElem_map, List.getElem_range, Int.toNat_natCast, List.getD_eq_getElem?_getD, List.getElem?_eq_getElem h2, Option.getD_some]
structure Fit (l : List GClause) (n : Nat) : Prop where
  size : Sized l
  few : n ≤ 11
  right : rightF l (n : Int) = true
  len : l.length ≤ 10000
theorem sol_cases {l : List GClause} {n : Nat} {c : List Int} (h : Fit l n) (hv : Valid l c) (hc : c.length ≤ 10000) :
    (∃ m, solF (pickF l c) (n : Int) [] = (m, [], 0) ∧ Sat (lits (pickF l c)) n [] m) ∨
    (∃ K, solF (pickF l c) (n : Int) [] = ([], K, 26) ∧ ¬ Op l n c ∧ PrfOK (lits (pickF l c)) K ∧ K.length ≤ 4000 ∧ ∀ d ∈ K, d.length ≤ 2000) := by
  rcases sol_two (s := []) (h.size.pick hv (by omega)) h.few (by simp) (right_pick h.right hv (by omega)) (badA_f.2 fun x hx => by cases hx) with ⟨m, h1, h2, _⟩ | ⟨K, h1, h2, h3, h4⟩
  · exact .inl ⟨m, h1, h2⟩
  · refine .inr ⟨K, h1, fun ⟨m, hm⟩ => h2 m hm, ?_, h4⟩
    simpa [units] using h3
theorem sol_sat {l : List GClause} {n : Nat} {c : List Int} (h : Fit l n) (hv : Valid l c) (hc : c.length ≤ 10000) (ho : Op l n c) : ∃ m, solF (pickF l c) (n : Int) [] = (m, [], 0) ∧ Sat (lits (pickF l c)) n [] m := by
  rcases sol_cases h hv hc with h1 | ⟨K, _, h1, _⟩
  · exact h1
  · exact absurd ho h1
theorem sol_un {l : List GClause} {n : Nat} {c : List Int} (h : Fit l n) (hv : Valid l c) (hc : c.length ≤ 10000) (ho : ¬ Op l n c) : ∃ K, solF (pickF l c) (n : Int) [] = ([], K, 26) ∧ PrfOK (lits (pickF l c)) K ∧ K.length ≤ 4000 ∧ ∀ d ∈ K, d.length ≤ 2000 := by
  rcases sol_cases h hv hc with ⟨m, _, h1⟩ | ⟨K, h1, _, h2⟩
  · exact absurd ⟨m, h1⟩ ho
  · exact ⟨K, h1, h2⟩
theorem er_er {c : List Int} {k j : Nat} (hkj : k ≤ j) {x : Int} (hk : k < c.length) (hj : j < (er c k).length) (h : x ∈ er (er c k) j) : x ∈ er c (j + 1) := by
  have hel := er_len hk
  obtain ⟨i, hne, hi⟩ := (mem_er hj).1 h
  rw [er_get] at hi
  refine (mem_er (by omega)).2 ?_
  by_cases h1 : i < k
  · rw [if_pos ⟨h1, by omega⟩] at hi
    exact ⟨i, by omega, hi⟩
  · rw [if_neg (by omega), if_pos (by omega)] at hi
    exact ⟨i + 1, by omega, hi⟩
theorem er_subl (c : List Int) (k : Nat) : (er c k).Sublist c := by
  have h : (er c k).Sublist (c.take k ++ c.drop k) := by
    unfold er
    refine List.Sublist.append (List.Sublist.refl _) ?_
    rw [← List.drop_drop]
    exact List.drop_sublist _ _
  rwa [List.take_append_drop] at h
theorem red_step_un {l : List GClause} {n : Nat} {k : Nat} {c : List Int} (h : Fit l n) (hv : Valid l c) (hc : c.length ≤ 10000) (ho : ¬ Op l n (er c k)) : redF l (n : Int) (k + 1) c = redF l (n : Int) k (er c k) := by
  have hel : (er c k).length ≤ c.length := (er_subl c k).length_le
  obtain ⟨K, h1, _⟩ := sol_un h (hv.er k) (by omega) ho
  rw [red_succ, h1, if_pos rfl]
theorem red_step_op {l : List GClause} {n : Nat} {k : Nat} {c : List Int} (h : Fit l n) (hv : Valid l c) (hc : c.length ≤ 10000) (ho : Op l n (er c k)) : redF l (n : Int) (k + 1) c = redF l (n : Int) k c := by
  have hel : (er c k).length ≤ c.length := (er_subl c k).length_le
  obtain ⟨m, h1, _⟩ := sol_sat h (hv.er k) (by omega) ho
  rw [red_succ, h1, if_neg (by show ¬ (0 : Int) = 26; omega), if_pos rfl]
theorem red_spec {l : List GClause} {n : Nat} (h : Fit l n) : ∀ {k : Nat} {c : List Int}, Valid l c → c.length ≤ 10000 → k ≤ c.length → ¬ Op l n c → (∀ j, k ≤ j → j < c.length → Op l n (er c j)) →
    ∃ d, redF l (n : Int) k c = .inl d ∧ d.Sublist c ∧ ¬ Op l n d ∧ ∀ j, j < d.length → Op l n (er d j)
  | 0, c, hv, hc, hk, hu, ho => ⟨c, rfl, List.Sublist.refl _, hu, fun j hj => ho j (Nat.zero_le _) hj⟩
  | k + 1, c, hv, hc, hk, hu, ho => by
    have hel := er_len (show k < c.length by omega)
    by_cases h1 : Op l n (er c k)
    · rw [red_step_op h hv hc h1]
      refine red_spec h hv hc (by omega) hu fun j hkj hj => ?_
      rcases Nat.lt_or_ge k j with h2 | h2
      · exact ho j h2 hj
      · have : j = k := by omega
        subst this; exact h1
    · rw [red_step_un h hv hc h1]
      obtain ⟨d, d1, d2, d3, d4⟩ := red_spec h (hv.er k) (by omega) (by omega) h1 fun j hkj hj => (ho (j + 1) (by omega) (by omega)).mono fun x hx => er_er hkj (by omega) hj hx
      exact ⟨d, d1, d2.trans (er_subl c k), d3, d4⟩
theorem mod_spec {l : List GClause} {n : Nat} {c : List Int} (h : Fit l n) (hv : Valid l c) (hc : c.length ≤ 10000) (ho : ∀ j, j < c.length → Op l n (er c j)) :
    ∃ ms, modF l (n : Int) c = .inl ms ∧ ms.length = c.length ∧ ∀ j (hj : j < ms.length), Sat (lits (pickF l (er c j))) n [] ms[j] := by
  unfold modF
  refine runI_inv (fun k (s : List (List Bool)) => s.length = k ∧ ∀ j (hj : j < s.length), Sat (lits (pickF l (er c j))) n [] s[j]) (fun (r : List (List Bool) ⊕ Int) => ∃ ms, r = .inl ms ∧ ms.length = c.length ∧ ∀ j (hj : j < ms.length), Sat (lits (pickF l (er c j))) n [] ms[j])
    (fun k hk s hs => ?_) (fun s hs => ⟨s, rfl, hs⟩) ⟨rfl, fun j hj => by simp at hj⟩
  have hel := er_len hk
  obtain ⟨m, h1, h2⟩ := sol_sat h (hv.er k) (by omega) (ho k hk)
  rw [h1, if_pos rfl]
  refine ⟨fun s' e => ?_, fun b e => by cases e⟩
  injection e with e
  have e : s ++ [m] = s' := e
  subst e
  refine ⟨by simp [hs.1], fun j hj => ?_⟩
  rw [List.getElem_append]
  split
  · exact hs.2 j _
  · rename_i hge
    have : j = k := by rw [List.length_append, List.length_singleton] at hj; have := hs.1; omega
    subst this
    simpa using h2
/-- WHAT CORE HANDS BACK -/
structure Cored (l : List GClause) (n : Nat) (r : Ref) : Prop where
  red : redF l (n : Int) l.length (rangeI l.length) = .inl r.1
  sub : r.1.Sublist (rangeI l.length)
  un : ¬ Op l n r.1
  prf : PrfOK (lits (pickF l r.1)) r.2.1
  plen : r.2.1.length ≤ 4000
  plits : ∀ d ∈ r.2.1, d.length ≤ 2000
  mlen : r.2.2.length = r.1.length
  mods : ∀ j (hj : j < r.2.2.length), Sat (lits (pickF l (er r.1 j))) n [] r.2.2[j]
theorem core_spec {l : List GClause} {n : Nat} (h : Fit l n) : (∃ m, Sat (lits l) n [] m) ∧ coreF l (n : Int) = (nul, 4) ∨ ∃ r, coreF l (n : Int) = (r, 0) ∧ (¬ ∃ m, Sat (lits l) n [] m) ∧ Cored l n r := by
  have hlen := h.len
  have hall := sol_cases h (rangeI_valid l) (by rw [rangeI_len]; omega)
  unfold Op at hall
  rw [pick_all] at hall
  unfold coreF
  rw [if_pos h.right]
  rcases hall with ⟨m, h1, h2⟩ | ⟨K, h1, h2, _⟩
  · exact .inl ⟨⟨m, h2⟩, by rw [h1, if_pos rfl]⟩
  · refine .inr ?_
    rw [h1, if_neg (by show ¬ (26 : Int) = 0; omega), if_pos rfl]
    obtain ⟨d, d1, d2, d3, d4⟩ := red_spec h (k := l.length) (rangeI_valid l) (by rw [rangeI_len]; omega) (by rw [rangeI_len]; omega) (show ¬ Op l n (rangeI l.length) by unfold Op; rw [pick_all]; exact h2) fun j h5 h6 => by rw [rangeI_len] at h6; omega
    have hdl := d2.length_le
    rw [rangeI_len] at hdl
    have hv : Valid l d := fun i hi => rangeI_valid l i (d2.subset hi)
    obtain ⟨K', k1, k2, k3, k4⟩ := sol_un h hv (by omega) d3
    obtain ⟨ms, m1, m2, m3⟩ := mod_spec h hv (by omega) d4
    refine ⟨(d, K', ms), ?_, h2, d1, d2, d3, k2, k3, k4, m2, m3⟩
    rw [d1]
    show showF l (n : Int) d = _
    unfold showF
    rw [k1, if_pos rfl, m1]
theorem range_asc (k : Nat) : (rangeI k).Pairwise (· < ·) := by
  unfold rangeI
  rw [List.pairwise_map]
  exact List.pairwise_lt_range.imp fun h => by omega
theorem Cored.asc {l : List GClause} {n : Nat} {r : Ref} (h : Cored l n r) : ascB (l.length : Int) (-1) r.1 = true := by
  refine ascB_iff.2 ⟨fun x hx => ?_, (range_asc _).sublist h.sub⟩
  have := rangeI_valid l x (h.sub.subset hx)
  omega
theorem Cored.len {l : List GClause} {n : Nat} {r : Ref} (h : Cored l n r) : r.1.length ≤ l.length := by
  have := h.sub.length_le
  rwa [rangeI_len] at this
theorem modOK_sat {l : List GClause} {n : Nat} {c : List Int} {k : Nat} {m : List Bool} : modOK l (n : Int) c k m = true ↔ Sat (lits (pickF l (er c k))) n [] m := by
  unfold modOK Sat
  rw [Bool.and_eq_true, decide_eq_true_eq, holds_iff]
  exact ⟨fun h => ⟨by omega, h.2, fun x hx => by cases hx⟩, fun h => ⟨by omega, h.2.1⟩⟩
theorem Cored.check {l : List GClause} {n : Nat} {r : Ref} (hf : Fit l n) (h : Cored l n r) : checkF l (n : Int) r = 0 :=
  checkF_yes hf.right h.asc ⟨prfF_yes h.plen h.prf, h.mlen, fun k hk => modOK_sat.2 (h.mods k hk)⟩
/-! ### how long what Core hands back is -/
/-! ### the law's bounds -/
theorem light_gen {α : Type} {l : List α} {N : Nat} (f : α → Nat) (B : Nat) {body : Int → Option (Int ⊕ Bool)} (hN : N ≤ 1000)
    (h1 : ∀ k (hk : k < l.length), k ≤ N → body (k : Int) = some (if B < f l[k] then .inr false else .inl ((k + 1 : Nat) : Int)))
    (h2 : ∀ k : Nat, ¬ (k < l.length ∧ k ≤ N) → body (k : Int) = some (.inr (decide (l.length ≤ N)))) : ∃ b, loopF body 0 = some b ∧ (b = true → l.length ≤ N ∧ ∀ x ∈ l, f x ≤ B) := by
  refine loopF_inv (fun k x => x = (k : Int) ∧ k ≤ l.length ∧ ∀ j (hj : j < l.length), j < k → f l[j] ≤ B) (N + 1) ⟨rfl, Nat.zero_le _, fun j _ hj => by omega⟩ (fun k hk x hx => ?_) (fun x hx => ?_) (by omega)
  · obtain ⟨rfl, h3, h4⟩ := hx
    by_cases hkl : k < l.length
    · rw [h1 k hkl (by omega)]
      by_cases h8 : B < f l[k]
      · rw [if_pos h8]; exact .inr ⟨_, rfl, fun h => by cases h⟩
      · rw [if_neg h8]
        refine .inl ⟨_, rfl, rfl, hkl, fun j hj hjk => ?_⟩
        rcases Nat.lt_or_ge j k with h | h
        · exact h4 j hj h
        · have : j = k := by omega
          subst this; omega
    · rw [h2 k (by omega)]
      refine .inr ⟨_, rfl, fun h => ?_⟩
      have h := of_decide_eq_true h
      refine ⟨h, fun c hc => ?_⟩
      obtain ⟨j, hj, rfl⟩ := List.mem_iff_getElem.1 hc
      exact h4 j hj (by omega)
  · obtain ⟨rfl, h3, h4⟩ := hx
    rw [h2 (N + 1) (by omega)]
    refine ⟨_, rfl, fun h => ?_⟩
    have h := of_decide_eq_true h
    refine ⟨h, fun c hc => ?_⟩
    omega
theorem cond_two {a b : Int} {p q : Int} : (bif ltZ a b then some (leZ p q) else some false) = some (decide (a < b ∧ p ≤ q)) := by
  rw [ltZ_eq, leZ_eq]
  by_cases h1 : a < b
  · rw [decide_eq_true h1, cond_true]
    congr 1
    rw [decide_eq_decide]; exact ⟨fun h => ⟨h1, h⟩, fun h => h.2⟩
  · rw [decide_eq_false h1, cond_false, decide_eq_false (fun h => h1 h.1)]
theorem light_eq (l : List GClause) {N : Nat} (hN : N ≤ 1000) : ∃ b, ladinglaw30_light l (N : Int) = some b ∧ (b = true → l.length ≤ N ∧ ∀ x ∈ l, x.1.length ≤ 6) := by
  unfold ladinglaw30_light
  refine light_gen (fun x : GClause => x.1.length) 6 hN (fun k hk hkN => ?_) fun k hk => ?_
  · unfold ladinglaw30_light.b1 ladinglaw30_light.j1
    rw [cond_two, bind_in, decide_eq_true (by omega), cond_true, idx_nat hk, bind_in, bif_ltZ, z64_succ (by omega), bind_in]
    by_cases h : 6 < l[k].1.length
    · rw [if_pos (by omega), if_pos h]
    · rw [if_neg (by omega), if_neg h]
  · unfold ladinglaw30_light.b1 ladinglaw30_light.j1
    rw [cond_two, bind_in, decide_eq_false (by omega), cond_false, leZ_eq]
    congr 2
    rw [decide_eq_decide]; omega
theorem lists30_eq (l : List (List Int)) {N : Nat} (hN : N ≤ 1000) : ∃ b, ladinglaw30_lists l (N : Int) = some b ∧ (b = true → l.length ≤ N ∧ ∀ x ∈ l, x.length ≤ 12) := by
  unfold ladinglaw30_lists
  refine light_gen (fun x : List Int => x.length) 12 hN (fun k hk hkN => ?_) fun k hk => ?_
  · unfold ladinglaw30_lists.b1 ladinglaw30_lists.j1
    rw [cond_two, bind_in, decide_eq_true (by omega), cond_true, idx_nat hk, bind_in, bif_ltZ, z64_succ (by omega), bind_in]
    by_cases h : 12 < l[k].length
    · rw [if_pos (by omega), if_pos h]
    · rw [if_neg (by omega), if_neg h]
  · unfold ladinglaw30_lists.b1 ladinglaw30_lists.j1
    rw [cond_two, bind_in, decide_eq_false (by omega), cond_false, leZ_eq]
    congr 2
    rw [decide_eq_decide]; omega
theorem models30_eq (l : List (List Bool)) {N : Nat} (hN : N ≤ 1000) : ∃ b, ladinglaw30_models l (N : Int) = some b ∧ (b = true → l.length ≤ N ∧ ∀ x ∈ l, x.length ≤ 20) := by
  unfold ladinglaw30_models
  refine light_gen (fun x : List Bool => x.length) 20 hN (fun k hk hkN => ?_) fun k hk => ?_
  · unfold ladinglaw30_models.b1 ladinglaw30_models.j1
    rw [cond_two, bind_in, decide_eq_true (by omega), cond_true, idx_nat hk, bind_in, bif_ltZ, z64_succ (by omega), bind_in]
    by_cases h : 20 < l[k].length
    · rw [if_pos (by omega), if_pos h]
    · rw [if_neg (by omega), if_neg h]
  · unfold ladinglaw30_models.b1 ladinglaw30_models.j1
    rw [cond_two, bind_in, decide_eq_false (by omega), cond_false, leZ_eq]
    congr 2
    rw [decide_eq_decide]; omega
/-! ### the examples -/
theorem sized_of {l : List GClause} {n k : Nat} (hn : n ≤ 100000) (hk : k ≤ 1000000) (h1 : l.length ≤ n) (h2 : ∀ c ∈ l, c.1.length ≤ k) : Sized l := ⟨by omega, fun c hc => by have := h2 c hc; omega⟩
def exA : List GClause := [([1], 0, 5, 0), ([2], 0, 5, 0), ([-1, 3], 0, -1, 0), ([-3], 0, 5, 0)]
def exB : List GClause := [([1], 0, 0, 0), ([-1, 2], 0, 0, 0)]
theorem fit1 : Fit exA 3 := ⟨sized_of (n := 10) (k := 10) (by omega) (by omega) (by decide) (by decide), by omega, by decide, by decide⟩
theorem fit2 : Fit exB 2 := ⟨sized_of (n := 10) (k := 10) (by omega) (by omega) (by decide) (by decide), by omega, by decide, by decide⟩
theorem un3 {c : List Int} (h : ∀ x y z, ¬ Sat (lits (pickF exA c)) 3 [] [x, y, z]) : ¬ Op exA 3 c := fun ⟨m, hm⟩ => by
  match m, hm.1 with
  | [x, y, z], _ => exact h x y z hm
theorem valid_of {l : List GClause} {c : List Int} (h : (c.all fun i => decide (0 ≤ i ∧ i < (l.length : Int))) = true) : Valid l c := fun i hi => by
  simpa using List.all_eq_true.1 h i hi
theorem red1 : redF exA ((3 : Nat) : Int) 4 [0, 1, 2, 3] = .inl [0, 2, 3] := by
  rw [red_step_op fit1 (valid_of (by decide)) (by decide) ⟨[true, true, true], by decide⟩, red_step_op fit1 (valid_of (by decide)) (by decide) ⟨[true, true, false], by decide⟩,
    red_step_un fit1 (valid_of (by decide)) (by decide) (un3 (by decide))]
  exact (red_step_op fit1 (valid_of (by decide)) (by decide) ⟨[false, true, false], by decide⟩).trans rfl
theorem un_all : ¬ ∃ m, Sat (lits exA) 3 [] m := fun ⟨m, hm⟩ => by
  match m, hm.1 with
  | [x, y, z], _ => exact absurd hm (by revert x y z; decide)
theorem small_true : ladinglaw30_small = some true := by
  unfold ladinglaw30_small
  simp only [ladinglaw30_of, bind_in]
  rcases core_spec fit1 with ⟨h, _⟩ | ⟨r, h1, _, h2⟩
  · exact absurd h un_all
  have h3 : coreF exB ((2 : Nat) : Int) = (nul, 4) := by
    rcases core_spec fit2 with ⟨_, h3⟩ | ⟨_, _, h, _⟩
    · exact h3
    · exact absurd ⟨[true, true], by decide⟩ h
  have hr : r.1 = [0, 2, 3] := by
    have h5 := h2.red
    rw [show rangeI exA.length = [0, 1, 2, 3] by decide, show exA.length = 4 from rfl, red1] at h5
    exact (Sum.inl.inj h5).symm
  have e1 : refuse_Core ([([1], 0, 5, 0), ([2], 0, 5, 0), ([-1, 3], 0, -1, 0), ([-3], 0, 5, 0)] : List GClause) 3 = some (r, 0) := (core_eq (n := ((3 : Nat) : Int)) fit1.size fit1.len).trans (congrArg some h1)
  have e2 : refuse_Core ([([1], 0, 0, 0), ([-1, 2], 0, 0, 0)] : List GClause) 2 = some (nul, 4) := (core_eq (n := ((2 : Nat) : Int)) fit2.size fit2.len).trans (congrArg some h3)
  have e3 : refuse_Check ([([1], 0, 5, 0), ([2], 0, 5, 0), ([-1, 3], 0, -1, 0), ([-3], 0, 5, 0)] : List GClause) 3 r = some 0 :=
    (check_eq (n := ((3 : Nat) : Int)) fit1.size fit1.len (by have := h2.len; have := fit1.len; omega) (fun c hc => by have := h2.plits c hc; omega)).trans (congrArg some (h2.check fit1))
  have e4 : refuse_Facts ([([1], 0, 5, 0), ([2], 0, 5, 0), ([-1, 3], 0, -1, 0), ([-3], 0, 5, 0)] : List GClause) [0, 2, 3] = some [5] := by
    refine (facts_eq (l := exA) (by decide) (by decide)).trans (congrArg some ?_)
    obtain ⟨f1, f2⟩ := facts_spec exA [0, 2, 3]
    refine sorted_ext f1 (by simp) fun x => (f2 x).trans ?_
    have : rawF exA [0, 2, 3] = [5, 5] := by decide
    rw [this]; simp
  rw [e1, bind_in, e2, bind_in, e3, hr, e4, bind_in, bind_in, same_eq (by decide), bind_in, same_eq (by decide), bind_in]
  simp only [eqZ_eq]
  simp only [decide_true, cond_true]
end Go.Proofs.Ythibbellkcdodaa
