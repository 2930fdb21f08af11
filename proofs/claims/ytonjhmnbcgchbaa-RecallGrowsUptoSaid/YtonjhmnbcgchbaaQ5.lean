/-
  The bound of a node: as the reference reckons it with lists; costs.
-/
import Derived.Test.YtonjhmnbcgchbaaQ4
namespace Go.Proofs.Ytonjhmnbcgchbaa
open Go.Lad Classical
set_option linter.unusedVariables false
set_option linter.unusedSectionVars false
set_option linter.unusedSimpArgs false

theorem has_eq {l : List Int} (x : Int) (hl : l.length ≤ 1000000) : ladingref46_has l x = some (decide (x ∈ l)) := by
  unfold ladingref46_has
  rw [loop_scan l (fun _ y => if decide (y = x) = true then some true else none) false (fun k hk => ?_) ?_ (by omega), scan_any (fun y => decide (y = x)) true]
  · have : (l.any fun y => decide (y = x)) = decide (x ∈ l) := by
      rw [Bool.eq_iff_iff, List.any_eq_true, decide_eq_true_eq]
      exact ⟨fun ⟨y, hy, e⟩ => by rw [decide_eq_true_eq] at e; rw [← e]; exact hy, fun hx => ⟨x, hx, by simp⟩⟩
    rw [this]
    by_cases h : x ∈ l <;> simp [h]
  · unfold ladingref46_has.b1
    simp only [ltZ_eq, bif_dec]
    rw [if_neg (by omega)]
  · unfold ladingref46_has.b1
    simp only [ltZ_eq, eqZ_eq, bif_dec, idx_nat hk, bind_in, z64_succ (show k + 1 ≤ 9223372036854775807 by omega)]
    rw [if_pos (by omega)]
    by_cases h : l[k] = x <;> simp [h]
/-- a list and a mask of the same set -/
structure Rp (s : List Int) (m n : Nat) : Prop where
  lt : ∀ x ∈ s, 0 ≤ x ∧ x < n
  bit : ∀ i : Nat, m.testBit i = true ↔ (i : Int) ∈ s
  len : s.length ≤ 1000000
abbrev ops0 : GOption := (0, [], [], [])
theorem Rp.at {s : List Int} {m : Nat} {l : List GOption} (h : Rp s m l.length) {j : Nat} (hj : j < s.length) : ∃ i, ∃ hi : i < l.length, s[j] = (i : Int) ∧ m.testBit i = true ∧ idx l s[j] = some l[i] := by
  have h1 := h.lt s[j] (List.getElem_mem hj)
  obtain ⟨i, hi⟩ := Int.eq_ofNat_of_zero_le h1.1
  have hil : i < l.length := by omega
  refine ⟨i, hil, hi, (h.bit i).2 (by rw [← hi]; exact List.getElem_mem hj), idx_eq hi hil⟩
theorem Rp.get {s : List Int} {m n : Nat} (h : Rp s m n) {i : Nat} (hb : m.testBit i = true) : ∃ j, ∃ hj : j < s.length, s[j] = (i : Int) := by
  obtain ⟨j, hj, e⟩ := List.mem_iff_getElem.1 ((h.bit i).1 hb)
  exact ⟨j, hj, e⟩
theorem removed_eq {l : List GOption} (hl : Lit l) {s : List Int} {m : Nat} (h : Rp s m l.length) (q : Nat) : ladingref46_removed l s (q : Int) = some (decide (remS l m q)) := by
  unfold ladingref46_removed
  have hlen := h.len
  rw [loop_scan s (fun _ x => if decide ((q : Int) ∈ (l.getD x.toNat ops0).2.1) = true then some true else none) false (fun k hk => ?_) ?_ (by omega), scan_any (fun (x : Int) => decide ((q : Int) ∈ (l.getD x.toNat ops0).2.1)) true]
  · have : (s.any fun x => decide ((q : Int) ∈ (l.getD x.toNat ops0).2.1)) = decide (remS l m q) := by
      rw [Bool.eq_iff_iff, List.any_eq_true, decide_eq_true_eq]
      constructor
      · rintro ⟨x, hx, e⟩
        obtain ⟨j, hj, rfl⟩ := List.mem_iff_getElem.1 hx
        obtain ⟨i, hi, e1, e2, _⟩ := h.at hj
        rw [e1, decide_eq_true_eq, Int.toNat_natCast, getD_at hi] at e
        exact ⟨i, hi, e2, e⟩
      · rintro ⟨i, hi, h1, h2⟩
        refine ⟨(i : Int), (h.bit i).1 h1, ?_⟩
        rw [decide_eq_true_eq, Int.toNat_natCast, getD_at hi]
        exact h2
    rw [this]
    by_cases hc : remS l m q <;> simp [hc]
  · unfold ladingref46_removed.b1
    simp only [ltZ_eq, bif_dec]
    rw [if_neg (by omega)]
  · obtain ⟨i, hi, e1, e2, e3⟩ := h.at hk
    unfold ladingref46_removed.b1
    simp only [ltZ_eq, bif_dec, idx_nat hk, bind_in, e3, has_eq _ (hl.2 _ (List.getElem_mem hi)).1, z64_succ (show k + 1 ≤ 9223372036854775807 by omega)]
    rw [if_pos (by omega), e1, Int.toNat_natCast, getD_at hi]
    by_cases hc : (q : Int) ∈ l[i].2.1 <;> simp [hc]
/-! ### costs -/
def costW (l : List GOption) (s : List Int) : Int := s.foldl (fun n x => if 0 ≤ x ∧ x < (l.length : Int) then addW n (l.getD x.toNat ops0).1 else n) 0
theorem Cost_eq (l : List GOption) (s : List Int) (hs : s.length ≤ 1000000) : recall_Cost l s = some (costW l s) := by
  have key := loop_fold (body := fun x => recall_Cost.b1 l s x.1 x.2) (fun k (n : Int) => (n, (k : Int))) s (fun _ n x => if 0 ≤ x ∧ x < (l.length : Int) then addW n (l.getD x.toNat ops0).1 else n) (fun n => n) (fun _ _ => True) (fun _ _ _ _ => trivial) (fun k hk n _ => ?_) (fun n _ => ?_) (by omega) (s0 := 0) trivial
  · rw [foldI_foldl (fun (n : Int) (x : Int) => if 0 ≤ x ∧ x < (l.length : Int) then addW n (l.getD x.toNat ops0).1 else n)] at key
    exact key
  · unfold recall_Cost.b1
    simp only [ltZ_eq, leZ_eq, bif_dec, idx_nat hk, bind_in]
    rw [if_pos (by omega)]
    unfold recall_Cost.j1
    simp only [z64_succ (show k + 1 ≤ 9223372036854775807 by omega), bind_in]
    by_cases h1 : 0 ≤ s[k]
    · rw [if_pos h1, bind_in]
      by_cases h2 : s[k] < (l.length : Int)
      · rw [decide_eq_true h2, cond_true, if_pos ⟨h1, h2⟩]
        obtain ⟨i, hi⟩ := Int.eq_ofNat_of_zero_le h1
        have hil : i < l.length := by omega
        rw [idx_eq hi hil, bind_in, hi, Int.toNat_natCast, getD_at hil]
      · rw [decide_eq_false h2, cond_false, if_neg (by omega)]
    · rw [if_neg h1, bind_in, cond_false, if_neg (by omega)]
  · unfold recall_Cost.b1
    simp only [ltZ_eq, bif_dec]
    rw [if_neg (by omega)]
theorem refCost_eq (l : List GOption) (s : List Int) (hs : s.length ≤ 1000000) : ladingref46_Cost l s = some (costW l s) := by
  have key := loop_fold (body := fun x => ladingref46_Cost.b1 l s x.1 x.2) (fun k (n : Int) => (n, (k : Int))) s (fun _ n x => if 0 ≤ x ∧ x < (l.length : Int) then addW n (l.getD x.toNat ops0).1 else n) (fun n => n) (fun _ _ => True) (fun _ _ _ _ => trivial) (fun k hk n _ => ?_) (fun n _ => ?_) (by omega) (s0 := 0) trivial
  · rw [foldI_foldl (fun (n : Int) (x : Int) => if 0 ≤ x ∧ x < (l.length : Int) then addW n (l.getD x.toNat ops0).1 else n)] at key
    exact key
  · unfold ladingref46_Cost.b1
    simp only [ltZ_eq, leZ_eq, bif_dec, idx_nat hk, bind_in]
    rw [if_pos (by omega)]
    unfold ladingref46_Cost.j1
    simp only [z64_succ (show k + 1 ≤ 9223372036854775807 by omega), bind_in, idx_nat hk]
    by_cases h1 : 0 ≤ s[k]
    · rw [if_pos h1, bind_in]
      by_cases h2 : s[k] < (l.length : Int)
      · rw [decide_eq_true h2, cond_true, if_pos ⟨h1, h2⟩]
        obtain ⟨i, hi⟩ := Int.eq_ofNat_of_zero_le h1
        have hil : i < l.length := by omega
        rw [idx_eq hi hil, bind_in, hi, Int.toNat_natCast, getD_at hil]
      · rw [decide_eq_false h2, cond_false, if_neg (by omega)]
    · rw [if_neg h1, bind_in, cond_false, if_neg (by omega)]
  · unfold ladingref46_Cost.b1
    simp only [ltZ_eq, bif_dec]
    rw [if_neg (by omega)]
/-! ### the list of a mask -/
def lst (m k : Nat) : List Int := ((List.range k).filter fun i => m.testBit i).map fun (i : Nat) => (i : Int)
theorem lst_zero (m : Nat) : lst m 0 = [] := rfl
theorem lst_succ (m k : Nat) : lst m (k + 1) = lst m k ++ if m.testBit k = true then [(k : Int)] else [] := by
  unfold lst
  rw [List.range_succ, List.filter_append, List.map_append]
  by_cases h : m.testBit k = true
  · simp [h]
  · simp [h]
theorem mem_lst {m k : Nat} {x : Int} : x ∈ lst m k ↔ ∃ i : Nat, x = i ∧ i < k ∧ m.testBit i = true := by
  unfold lst
  simp only [List.mem_map, List.mem_filter, List.mem_range]
  constructor
  · rintro ⟨i, ⟨h1, h2⟩, rfl⟩; exact ⟨i, rfl, h1, h2⟩
  · rintro ⟨i, rfl, h1, h2⟩; exact ⟨i, ⟨h1, h2⟩, rfl⟩
theorem lst_len (m k : Nat) : (lst m k).length ≤ k := by
  unfold lst
  rw [List.length_map]
  have := List.length_filter_le (fun i => m.testBit i) (List.range k)
  simpa using this
theorem lst_rp {m k n : Nat} (hk : k ≤ n) (hn : n ≤ 1000000) (hm : m < 2 ^ k) : Rp (lst m k) m n := by
  refine ⟨fun x hx => ?_, fun i => ?_, by have := lst_len m k; omega⟩
  · obtain ⟨i, rfl, h1, _⟩ := mem_lst.1 hx
    omega
  · rw [mem_lst]
    constructor
    · intro h; exact ⟨i, rfl, bit_lt hm h, h⟩
    · rintro ⟨j, e, h1, h2⟩
      have : i = j := by omega
      rw [this]; exact h2
theorem addW_in {a b : Int} (h : 0 ≤ a + b ∧ a + b ≤ 9223372036854775807) : addW a b = a + b := by
  exact wrap_in (show inK .i64 (a + b) from ⟨by show (-9223372036854775808 : Int) ≤ a + b; omega, by show a + b ≤ 9223372036854775807; omega⟩)
section
variable {l : List GOption} {p : Nat} (h : RT l p)
include h
omit h in
theorem sumT_succ (m k : Nat) : sumT l m (k + 1) = if m.testBit k = true then ((sumT l m k).1 + (l.getD k (0, [], [], [])).1, (sumT l m k).2.1 ||| mask (l.getD k (0, [], [], [])).2.1, (sumT l m k).2.2.1 ||| mask (l.getD k (0, [], [], [])).2.2.1, (sumT l m k).2.2.2 ||| mask (l.getD k (0, [], [], [])).2.2.2) else sumT l m k := rfl
theorem costW_lst (m : Nat) : ∀ k, k ≤ l.length → costW l (lst m k) = (sumT l m k).1
  | 0, _ => rfl
  | k + 1, hk => by
    have ih := costW_lst m k (by omega)
    have ok := sumT_ok h m k (by omega)
    have hc := h.cost k (by omega)
    have hn := h.hn
    rw [lst_succ]
    unfold costW at ih ⊢
    rw [List.foldl_append, ih, sumT_succ]
    by_cases hb : m.testBit k = true
    · rw [if_pos hb, if_pos hb, List.foldl_cons, List.foldl_nil, if_pos (by omega), Int.toNat_natCast, getD_at (show k < l.length by omega), addW_in (by omega)]
    · rw [if_neg hb, if_neg hb, List.foldl_nil]
theorem refInner_eq {k q : Nat} (hk : k ≤ l.length) : loopF (fun x => ladingref46_bound.b4 l (q : Int) x.1 x.2) (Never, (k : Int)) = some (least l k q) := by
  have hn := h.hn
  have hd : (l.drop k).length = l.length - k := List.length_drop
  have key := loop_fold (body := fun x => ladingref46_bound.b4 l (q : Int) x.1 x.2) (fun j (s : Int) => (s, ((k + j : Nat) : Int))) (l.drop k) (fun _ s o => if (q : Int) ∈ o.2.1 then min s o.1 else s) (fun s => s) (fun _ _ => True) (fun _ _ _ _ => trivial) (fun j hj s _ => ?_) (fun s _ => ?_) (by omega) (s0 := Never) trivial
  · rw [foldI_foldl (fun (s : Int) (o : GOption) => if (q : Int) ∈ o.2.1 then min s o.1 else s)] at key
    exact key
  · have hkj : k + j < l.length := by omega
    have lit := h.lit.2 l[k + j] (List.getElem_mem hkj)
    unfold ladingref46_bound.b4
    simp only [ltZ_eq, bif_dec, idx_nat hkj, bind_in, has_eq _ lit.1, z64_succ (show k + j + 1 ≤ 9223372036854775807 by omega)]
    rw [if_pos (by omega), List.getElem_drop]
    by_cases hm : (q : Int) ∈ l[k + j].2.1
    · simp only [hm, decide_true, cond_true, if_true]; rfl
    · simp only [hm, decide_false, cond_false, if_false]; rfl
  · unfold ladingref46_bound.b4
    simp only [ltZ_eq, bif_dec]
    rw [if_neg (by rw [hd]; omega)]
omit h in
theorem runI_most (P : Nat → Prop) (L : Nat → Int) (hL : ∀ q, L q ≤ Never) : ∀ (r : List Nat) (q : Nat) (a : Int), r = List.range' q r.length → a < Never →
    runI (fun q (a : Int) (_ : Nat) => if P q then .inl a else if L q = Never then .inr (.inr Never : Int ⊕ Int) else .inl (max a (L q))) (fun a => .inl a) q a r = (if r.foldl (fun a q => if P q then a else max a (L q)) a = Never then .inr Never else .inl (r.foldl (fun a q => if P q then a else max a (L q)) a))
  | [], q, a, _, ha => by
    unfold runI
    rw [List.foldl_nil, if_neg (by omega)]
  | x :: r, q, a, hr, ha => by
    rw [List.length_cons, List.range'_succ] at hr
    injection hr with hx hr
    subst hx
    unfold runI
    rw [List.foldl_cons]
    by_cases hP : P x
    · rw [if_pos hP, if_pos hP]
      exact runI_most P L hL r (x + 1) a hr ha
    · rw [if_neg hP, if_neg hP]
      by_cases hN : L x = Never
      · rw [if_pos hN]
        have : r.foldl (fun a q => if P q then a else max a (L q)) (max a (L x)) = Never := by
          refine Int.le_antisymm ((mostF_le P L r _ _).2 ⟨by have := hL x; omega, fun q _ _ => hL q⟩) ?_
          have := ((mostF_le P L r (max a (L x)) _).1 (Int.le_refl _)).1
          omega
        rw [if_pos this]
      · rw [if_neg hN]
        exact runI_most P L hL r (x + 1) _ hr (by have := hL x; omega)
/-- THE BOUND, as the reference reckons it. -/
theorem refBound_eq {k m : Nat} {s : List Int} (hk : k ≤ l.length) (hs : s = lst m k) (hm : m < 2 ^ k) : ladingref46_bound l (p : Int) (k : Int) s = some (bnd l p k m) := by
  have hp := h.hp
  have hn := h.hn
  have rp : Rp s m l.length := by rw [hs]; exact lst_rp hk (by omega) hm
  have hslen := rp.len
  have lit := h.lit
  unfold ladingref46_bound
  have h1 : loopF (fun x => ladingref46_bound.b3 l (k : Int) s x) 0 = some (if badS l k m then .inr Never else .inl ()) := by
    let bd : Int → Bool := fun x => ((l.getD x.toNat ops0).2.2.2.any fun y => decide (y ∈ s)) || ((l.getD x.toNat ops0).2.2.1.any fun y => decide (y < (k : Int) ∧ y ∉ s))
    rw [loop_scan s (fun _ x => if bd x = true then some (.inr Never : Unit ⊕ Int) else none) (.inl ()) (fun j hj => ?_) ?_ (by omega), scan_any bd]
    · have : (s.any bd) = decide (badS l k m) := by
        rw [Bool.eq_iff_iff, List.any_eq_true, decide_eq_true_eq]
        constructor
        · rintro ⟨x, hx, e⟩
          obtain ⟨j, hj, rfl⟩ := List.mem_iff_getElem.1 hx
          obtain ⟨i, hi, e1, e2, _⟩ := rp.at hj
          simp only [bd] at e
          rw [e1, Int.toNat_natCast, getD_at hi, Bool.or_eq_true, List.any_eq_true, List.any_eq_true] at e
          refine ⟨i, hi, e2, e.imp ?_ ?_⟩
          · rintro ⟨y, hy, e⟩
            rw [decide_eq_true_eq] at e
            obtain ⟨t, ht⟩ := Int.eq_ofNat_of_zero_le (rp.lt y e).1
            rw [ht] at e hy
            exact ⟨t, (rp.bit t).2 e, hy⟩
          · rintro ⟨y, hy, e⟩
            rw [decide_eq_true_eq] at e
            obtain ⟨t, ht⟩ := Int.eq_ofNat_of_zero_le (h.mneed hi y hy).2
            rw [ht] at e hy
            refine ⟨t, by omega, ?_, hy⟩
            rw [Bool.eq_false_iff]
            exact fun hc => e.2 ((rp.bit t).1 hc)
        · rintro ⟨i, hi, h1, h2⟩
          refine ⟨(i : Int), (rp.bit i).1 h1, ?_⟩
          simp only [bd]
          rw [Int.toNat_natCast, getD_at hi, Bool.or_eq_true, List.any_eq_true, List.any_eq_true]
          refine h2.imp ?_ ?_
          · rintro ⟨x, h3, h4⟩
            exact ⟨(x : Int), h4, by rw [decide_eq_true_eq]; exact (rp.bit x).1 h3⟩
          · rintro ⟨x, h3, h4, h5⟩
            refine ⟨(x : Int), h5, ?_⟩
            rw [decide_eq_true_eq]
            refine ⟨by omega, fun hc => ?_⟩
            rw [(rp.bit x).2 hc] at h4; cases h4
      rw [this]
      by_cases hb : badS l k m
      · rw [decide_eq_true hb, if_pos rfl, if_pos hb]; rfl
      · rw [decide_eq_false hb, if_neg (by simp), if_neg hb]; rfl
    · unfold ladingref46_bound.b3
      simp only [ltZ_eq, bif_dec]
      rw [if_neg (by omega)]
    · obtain ⟨i, hi, e1, e2, e3⟩ := rp.at hj
      have lo := lit.2 l[i] (List.getElem_mem hi)
      have hx : loopF (fun x => ladingref46_bound.b1 s l[i] x) 0 = some (if (l[i].2.2.2.any fun y => decide (y ∈ s)) = true then (.inr (.inr (.inr Never)) : Unit ⊕ (Int ⊕ (Unit ⊕ Int))) else .inl ()) := by
        rw [loop_scan l[i].2.2.2 (fun _ y => if decide (y ∈ s) = true then some (.inr (.inr (.inr Never)) : Unit ⊕ (Int ⊕ (Unit ⊕ Int))) else none) (.inl ()) (fun a ha => ?_) ?_ (by omega), scan_any (fun y => decide (y ∈ s))]
        · split <;> rfl
        · unfold ladingref46_bound.b1
          simp only [ltZ_eq, bif_dec]
          rw [if_neg (by omega)]
        · unfold ladingref46_bound.b1
          simp only [ltZ_eq, bif_dec, idx_nat ha, bind_in, has_eq _ hslen, z64_succ (show a + 1 ≤ 9223372036854775807 by omega)]
          rw [if_pos (by omega)]
          by_cases hc : l[i].2.2.2[a] ∈ s <;> simp [hc]
      have hy : ladingref46_bound.j2 (k : Int) s (j : Int) l[i] = some (if (l[i].2.2.1.any fun y => decide (y < (k : Int) ∧ y ∉ s)) = true then (.inr (.inr Never) : Int ⊕ (Unit ⊕ Int)) else .inl ((j + 1 : Nat) : Int)) := by
        unfold ladingref46_bound.j2
        rw [loop_scan l[i].2.2.1 (fun _ y => if decide (y < (k : Int) ∧ y ∉ s) = true then some (.inr (.inr Never) : Int ⊕ (Unit ⊕ Int)) else none) (.inl ((j + 1 : Nat) : Int)) (fun a ha => ?_) ?_ (by omega), scan_any (fun y => decide (y < (k : Int) ∧ y ∉ s))]
        · split <;> rfl
        · unfold ladingref46_bound.b2
          simp only [ltZ_eq, bif_dec, z64_succ (show j + 1 ≤ 9223372036854775807 by omega), bind_in]
          rw [if_neg (by omega)]; rfl
        · unfold ladingref46_bound.b2
          simp only [ltZ_eq, bif_dec, idx_nat ha, bind_in, has_eq _ hslen]
          rw [if_pos (by omega)]
          unfold ladingref46_bound.j1
          simp only [z64_succ (show a + 1 ≤ 9223372036854775807 by omega), bind_in]
          by_cases hc : l[i].2.2.1[a] < (k : Int)
          · by_cases hd : l[i].2.2.1[a] ∈ s <;> simp [hc, hd]
          · simp [hc]
      unfold ladingref46_bound.b3
      simp only [ltZ_eq, bif_dec, idx_nat hj, bind_in, e3, hx]
      rw [if_pos (by omega)]
      have hbd : bd s[j] = ((l[i].2.2.2.any fun y => decide (y ∈ s)) || (l[i].2.2.1.any fun y => decide (y < (k : Int) ∧ y ∉ s))) := by
        simp only [bd]
        rw [e1, Int.toNat_natCast, getD_at hi]
      rw [hbd]
      cases hA : (l[i].2.2.2.any fun y => decide (y ∈ s)) with
      | true => rfl
      | false =>
        simp only [Bool.false_eq_true, if_false, Bool.false_or]
        rw [hy]
        cases hB : (l[i].2.2.1.any fun y => decide (y < (k : Int) ∧ y ∉ s)) <;> rfl
  rw [h1, bind_in]
  unfold bnd
  by_cases hb : badS l k m
  · rw [if_pos hb, if_pos hb]
  · rw [if_neg hb, if_neg hb]
    dsimp only
    unfold ladingref46_bound.j5
    have h2 : loopF (fun x => ladingref46_bound.b5 l (p : Int) (k : Int) s x.1 x.2) (0, 0) = some (if most l p k m = Never then .inr Never else .inl (most l p k m)) := by
      unfold most
      rw [← runI_most (remS l m) (least l k) (fun q => least_never) (List.range p) 0 0 (by rw [List.length_range, List.range_eq_range']) (by decide)]
      refine loop_run (fun q (a : Int) => (a, (q : Int))) (List.range p) _ _ (fun _ _ => True) (fun _ _ _ _ _ _ => trivial) (fun q hq a _ => ?_) (fun a _ => ?_) (by simp; omega) trivial
      · have hq2 : q < p := by simpa using hq
        unfold ladingref46_bound.b5
        simp only [ltZ_eq, bif_dec, removed_eq lit rp, bind_in, z64_succ (show q + 1 ≤ 9223372036854775807 by omega)]
        rw [if_pos (by omega)]
        by_cases hr : remS l m q
        · rw [if_pos hr, if_pos hr]
        · rw [if_neg hr, if_neg hr, refInner_eq h hk, bind_in]
          unfold ladingref46_bound.j3
          simp only [eqZ_eq, bif_dec, z64_succ (show q + 1 ≤ 9223372036854775807 by omega), bind_in]
          by_cases hN : least l k q = Never
          · rw [if_pos hN, if_pos hN]
          · rw [if_neg hN, if_neg hN]
      · unfold ladingref46_bound.b5
        simp only [ltZ_eq, bif_dec]
        rw [if_neg (by simp)]
    rw [h2, bind_in]
    by_cases hnv : most l p k m = Never
    · rw [if_pos hnv, if_pos hnv]
    · rw [if_neg hnv, if_neg hnv]
      dsimp only
      unfold ladingref46_bound.j4
      have hc : costW l s = (sumT l m l.length).1 := by
        rw [hs]
        have e : lst m k = lst m l.length := by
          have : ∀ d, k + d ≤ l.length → lst m (k + d) = lst m k := by
            intro d
            induction d with
            | zero => intro _; rfl
            | succ d ih =>
              intro hd
              rw [← Nat.add_assoc, lst_succ, ih (by omega), if_neg, List.append_nil]
              intro hc
              have := bit_lt hm hc
              omega
          have := this (l.length - k) (by omega)
          rw [← this]; congr 1; omega
        rw [e]
        exact costW_lst h m l.length (Nat.le_refl _)
      have ok := sumT_ok h m l.length (Nat.le_refl _)
      have h3 := @most_nn l p k m
      have h4 := @most_never l p k m
      rw [refCost_eq l s hslen, bind_in, hc, z64_i (by simp only [Never] at h4; omega), bind_in]
end
end Go.Proofs.Ytonjhmnbcgchbaa
