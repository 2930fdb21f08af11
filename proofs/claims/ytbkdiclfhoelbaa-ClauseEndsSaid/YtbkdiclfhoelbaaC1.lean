/-
  Layer 26 (clause): lists, own literals, the base.
-/
import Derived.Test.YtbkdiclfhoelbaaCModel
import Derived.Test.YtbkdiclfhoelbaaLs
namespace Go.Lad
set_option linter.unusedVariables false
set_option linter.unusedSimpArgs false
set_option linter.unusedSectionVars false
/-! ### loops over lists -/
theorem loop_any {α β : Type} {body : Int → Option (Int ⊕ β)} (l : List α) (p : α → Bool) (b e : β)
    (h : ∀ k (hk : k < l.length), body (k : Int) = some (if p l[k] = true then .inr b else .inl ((k + 1 : Nat) : Int)))
    (hd : body (l.length : Int) = some (.inr e)) (hn : l.length < 1606938044258990275541962092341162602522202993782792835301376) :
    loopF body 0 = some (if l.any p = true then b else e) := by
  rw [loop_scan l (fun _ x => if p x = true then some b else none) e (fun k hk => ?_) hd hn, scan_any p b]
  · split <;> rfl
  · rw [h k hk]
    split <;> rfl
theorem loop_idx {α : Type} {body : Int → Option (Int ⊕ Int)} (l : List α) (p : α → Bool)
    (h : ∀ k (hk : k < l.length), body (k : Int) = some (if p l[k] = true then .inr (k : Int) else .inl ((k + 1 : Nat) : Int)))
    (hd : body (l.length : Int) = some (.inr (-1))) (hn : l.length < 1606938044258990275541962092341162602522202993782792835301376) :
    ∃ i, loopF body 0 = some i ∧ leZ 0 i = l.any p ∧ ((i = -1 ∧ ∀ x ∈ l, p x = false) ∨ ∃ m : Nat, ∃ hm : m < l.length, i = m ∧ p l[m] = true ∧ ∀ j (hj : j < m), p (l[j]'(by omega)) = false) := by
  refine ⟨_, loop_scan l (fun k x => if p x = true then some (k : Int) else none) (-1) (fun k hk => ?_) hd hn, ?_⟩
  · rw [h k hk]
    split <;> rfl
  · cases hs : scan (fun k x => if p x = true then some (k : Int) else none) 0 l with
    | none =>
      have hf : ∀ x ∈ l, p x = false := fun x hx => by
        obtain ⟨i, hi, he⟩ := List.mem_iff_getElem.1 hx
        have := scan_none.1 hs i hi
        rw [he] at this
        cases hp : p x with
        | false => rfl
        | true => rw [hp, if_pos rfl] at this; cases this
      refine ⟨?_, .inl ⟨rfl, hf⟩⟩
      rw [Option.getD_none, leZ_eq, decide_eq_false (by omega)]
      exact (List.any_eq_false.2 fun x hx => by rw [hf x hx]; exact Bool.false_ne_true).symm
    | some b =>
      obtain ⟨i, hi, h1, h2⟩ := scan_some.1 hs
      rw [Nat.zero_add] at h1
      split at h1
      · rename_i he
        injection h1 with h1
        subst h1
        refine ⟨?_, .inr ⟨i, hi, rfl, he, fun j hj => ?_⟩⟩
        · rw [Option.getD_some, leZ_eq, decide_eq_true (by omega)]
          exact (List.any_eq_true.2 ⟨_, List.getElem_mem hi, he⟩).symm
        · have := h2 j hj
          cases hp : p (l[j]'(by omega)) with
          | false => rfl
          | true => rw [hp, if_pos rfl] at this; cases this
      · cases h1
/-- a loop whose rounds become fewer -/
theorem loopF_less {α β : Type} {body : α → Option (α ⊕ β)} (I : α → Prop) (m : α → Nat) {Q : β → Prop} {x : α} (h0 : I x) (h : ∀ x, I x → (∃ y, body x = some (.inl y) ∧ I y ∧ m y < m x) ∨ ∃ b, body x = some (.inr b) ∧ Q b)
    (hn : m x < 1606938044258990275541962092341162602522202993782792835301375) : ∃ b, loopF body x = some b ∧ Q b := by
  refine loopF_inv (fun k y => I y ∧ m y + k ≤ m x) (m x + 1) ⟨h0, Nat.le_refl _⟩ (fun k hk y hy => ?_) (fun y hy => absurd hy.2 (by omega)) (by omega)
  rcases h y hy.1 with ⟨z, hz, hi, hl⟩ | h
  · exact .inl ⟨z, hz, hi, by omega⟩
  · exact .inr h
/-- a loop over a list with a statement that every turn keeps -/
theorem loop_keep {α σ β : Type} {body : Int × σ → Option ((Int × σ) ⊕ β)} (l : List α) (I : Nat → σ → Prop) {Q : β → Prop} {s0 : σ} (h0 : I 0 s0)
    (h : ∀ k (hk : k < l.length) s, I k s → (∃ s', body ((k : Int), s) = some (.inl (((k + 1 : Nat) : Int), s')) ∧ I (k + 1) s') ∨ ∃ b, body ((k : Int), s) = some (.inr b) ∧ Q b)
    (hd : ∀ s, I l.length s → ∃ b, body ((l.length : Int), s) = some (.inr b) ∧ Q b) (hn : l.length < 1606938044258990275541962092341162602522202993782792835301376) :
    ∃ b, loopF body (0, s0) = some b ∧ Q b := by
  refine loopF_inv (fun k x => x.1 = (k : Int) ∧ I k x.2) l.length ⟨rfl, h0⟩ (fun k hk x hx => ?_) (fun x hx => ?_) hn
  · obtain ⟨i, s⟩ := x
    obtain ⟨h1, h2⟩ := hx
    cases h1
    rcases h k hk s h2 with ⟨s', h3, h4⟩ | h3
    · exact .inl ⟨_, h3, rfl, h4⟩
    · exact .inr h3
  · obtain ⟨i, s⟩ := x
    obtain ⟨h1, h2⟩ := hx
    cases h1
    exact hd s h2
end Go.Lad
namespace Go.Proofs.Ytbkdiclfhoelbaa
open Go.Lad
set_option linter.unusedVariables false
set_option linter.unusedSimpArgs false
set_option linter.unusedSectionVars false
theorem fil1 {α : Type} (p : α → Bool) (x : α) : [x].filter p = if p x = true then [x] else [] := by cases h : p x <;> simp [h]
/-! ### literals -/
def Lit (x : Int) : Prop := x ≠ 0 ∧ -2000 ≤ x ∧ x ≤ 2000
instance (x : Int) : Decidable (Lit x) := by unfold Lit; infer_instance
theorem Lit.neg {x : Int} (h : Lit x) : Lit (-x) := by unfold Lit at *; omega
theorem lit_eq {x : Int} : clause_lit x = some (decide (Lit x)) := by
  unfold clause_lit
  simp only [eqZ_eq, leZ_eq, bif_not, bif_dec]
  by_cases h1 : x = 0
  · rw [if_pos h1, decide_eq_false (fun h => h.1 h1)]
  · rw [if_neg h1]
    by_cases h2 : -2000 ≤ x
    · rw [if_pos h2]; congr 1; rw [decide_eq_decide]; exact ⟨fun h => ⟨h1, h2, h⟩, fun h => h.2.2⟩
    · rw [if_neg h2, decide_eq_false (fun h => h2 h.2.1)]
theorem Lit_eq {x : Int} : ladingref26_Lit x = some (decide (Lit x)) := lit_eq
/-! ### lists of numbers -/
theorem lt_n {k n : Nat} (h : k < n) : ltZ (k : Int) (n : Int) = true := by rw [ltZ_eq, decide_eq_true (by omega)]
theorem lt_e {k : Nat} : ltZ (k : Int) (k : Int) = false := by rw [ltZ_eq, decide_eq_false (by omega)]
theorem z64_nx {k n : Nat} (h : k < n) (hn : n ≤ 9223372036854775807) : z64 ((k : Int) + 1) = some ((k + 1 : Nat) : Int) := z64_succ (by omega)
theorem z64_p {n : Int} {r : Int} (h : n = r) (h1 : -9223372036854775808 ≤ r) (h2 : r ≤ 9223372036854775807) : z64 n = some r := by rw [h]; exact z64_in h1 h2
theorem index_eq {l : List Int} {p : Int} (h : l.length ≤ 1000000) : ∃ i, slices_Index_int_int l p = some i ∧ leZ 0 i = decide (p ∈ l) := by
  have hb : ∀ k (hk : k < l.length), slices_Index_int_int.b1 l p (k : Int) = some (if (fun x => decide (p = x)) l[k] = true then .inr (k : Int) else .inl ((k + 1 : Nat) : Int)) := fun k hk => by
    simp only [slices_Index_int_int.b1, lt_n hk, cond_true, idx_nat hk, bind_in, bif_eqZ, z64_nx hk (by omega), decide_eq_true_eq]
    split <;> rfl
  have hd : slices_Index_int_int.b1 l p (l.length : Int) = some (.inr (-1)) := by simp only [slices_Index_int_int.b1, lt_e, cond_false]
  obtain ⟨i, h1, h2, _⟩ := loop_idx (body := fun x => slices_Index_int_int.b1 l p x) l (fun x => decide (p = x)) hb hd (by omega)
  refine ⟨i, h1, h2.trans ?_⟩
  rw [Bool.eq_iff_iff]
  simp
theorem contains_eq {l : List Int} {p : Int} (h : l.length ≤ 1000000) : slices_Contains_int_int l p = some (decide (p ∈ l)) := by
  obtain ⟨i, h1, h2⟩ := index_eq (l := l) (p := p) h
  unfold slices_Contains_int_int
  rw [h1, bind_in, h2]
theorem clone_eq {l : List Int} (h : l.length ≤ 1000000) : slices_Clone_int_int l = some l := by
  unfold slices_Clone_int_int
  refine bothN_same ?_ (fun h => by rw [h])
  rw [app_in (by simp; omega)]; rfl
theorem same_eq {a b : List Int} (h : a.length ≤ 1000000) : ladingref26_Same a b = some (decide (a = b)) := by
  unfold ladingref26_Same
  rw [bif_not, bif_eqZ]
  by_cases hl : a.length = b.length
  · rw [if_pos (by omega), loop_scan a (fun k x => if x = b.getD k 0 then none else some false) true (fun k hk => ?_) ?_ (by omega)]
    · congr 1
      cases hs : scan (fun k x => if x = b.getD k 0 then none else some false) 0 a with
      | none =>
        have : a = b := List.ext_getElem hl fun i h1 h2 => by
          have := scan_none.1 hs i h1
          rw [Nat.zero_add, List.getD_eq_getElem?_getD, List.getElem?_eq_getElem h2] at this
          split at this
          · assumption
          · cases this
        rw [decide_eq_true this]; rfl
      | some c =>
        obtain ⟨i, hi, h1, _⟩ := scan_some.1 hs
        rw [Nat.zero_add, List.getD_eq_getElem?_getD, List.getElem?_eq_getElem (by omega)] at h1
        split at h1
        · cases h1
        · rename_i hne
          injection h1 with h1
          subst h1
          rw [decide_eq_false fun e => hne (by subst e; rfl)]; rfl
    · simp only [ladingref26_Same.b1, lt_e, cond_false]
    · have hkb : k < b.length := by omega
      simp only [ladingref26_Same.b1, lt_n hk, cond_true, idx_nat hk, idx_nat hkb, bind_in, bif_not, bif_eqZ, z64_nx hk (by omega), List.getD_eq_getElem?_getD, List.getElem?_eq_getElem hkb, Option.getD_some]
      split <;> rfl
  · rw [if_neg (by omega), decide_eq_false (fun e => hl (by rw [e]))]
/-- DeleteFunc of what is no literal -/
theorem delete_eq {l : List Int} (h : l.length ≤ 1000000) : slices_DeleteFunc_int_int l = some (l.filter fun x => decide (Lit x)) := by
  have hb : ∀ k (hk : k < l.length), slices_IndexFunc_int_int.b1 l (k : Int) = some (if (fun x => !decide (Lit x)) l[k] = true then .inr (k : Int) else .inl ((k + 1 : Nat) : Int)) := fun k hk => by
    simp only [slices_IndexFunc_int_int.b1, lt_n hk, cond_true, idx_nat hk, bind_in, clause_base_close_1, lit_eq, z64_nx hk (by omega)]
    by_cases hp : Lit l[k] <;> simp [hp]
  have he : slices_IndexFunc_int_int.b1 l (l.length : Int) = some (.inr (-1)) := by simp only [slices_IndexFunc_int_int.b1, lt_e, cond_false]
  obtain ⟨i, h1, -, h2⟩ := loop_idx (body := fun x => slices_IndexFunc_int_int.b1 l x) l (fun x => !decide (Lit x)) hb he (by omega)
  · have h1 : slices_IndexFunc_int_int l = some i := h1
    unfold slices_DeleteFunc_int_int
    rw [h1, bind_in, bif_eqZ]
    rcases h2 with ⟨rfl, h2⟩ | ⟨m, hm, rfl, h3, h4⟩
    · rw [if_pos rfl]
      congr 1
      exact (List.filter_eq_self.2 fun x hx => by have := h2 x hx; simpa using this).symm
    · rw [if_neg (by omega), z64_nx hm (by omega), bind_in]
      have key := loopF_inv (body := fun x => slices_DeleteFunc_int_int.b1 x.1 x.2.1 x.2.2)
        (fun k x => ∃ a : Nat, x.1 = (a : Int) ∧ x.2.1 = ((m + 1 + k : Nat) : Int) ∧ a < m + 1 + k ∧ x.2.2.length = l.length ∧ x.2.2.take a = (l.take (m + 1 + k)).filter (fun x => decide (Lit x)) ∧ x.2.2.drop (m + 1 + k) = l.drop (m + 1 + k))
        (Q := fun r => r = l.filter fun x => decide (Lit x)) (l.length - (m + 1)) (x := ((m : Int), ((m + 1 : Nat) : Int), l))
        ⟨m, rfl, rfl, by omega, rfl, ?_, rfl⟩ (fun k hk x hx => ?_) (fun x hx => ?_) (by omega)
      · obtain ⟨b, h5, h6⟩ := key
        rw [← h6]; exact h5
      · rw [take_snoc l m hm, List.filter_append]
        have : decide (Lit l[m]) = false := by simpa using h3
        rw [fil1, this]
        simp only [Bool.false_eq_true, if_false, List.append_nil]
        symm
        refine List.filter_eq_self.2 fun x hx => ?_
        obtain ⟨j, hj, he⟩ := List.mem_iff_getElem.1 hx
        rw [List.length_take] at hj
        have := h4 j (by omega)
        rw [List.getElem_take] at he
        rw [he] at this
        simpa using this
      · obtain ⟨i, j, s⟩ := x
        obtain ⟨a, ha, hj, hlt, hl, ht, hd⟩ := hx
        simp only at ha hj hl ht hd
        subst ha hj
        have hjl : m + 1 + k < s.length := by omega
        have hjl' : m + 1 + k < l.length := by omega
        have he : s[m + 1 + k] = l[m + 1 + k] := by
          have := congrArg (fun z => z[0]?) hd
          simpa [hjl, hjl'] using this
        have has : a < s.length := by omega
        refine .inl ?_
        simp only [slices_DeleteFunc_int_int.b1, lt_n hjl, cond_true, idx_nat hjl, idx_nat has, bind_in, clause_base_close_1, lit_eq, he, z64_nx hjl (by omega), z64_nx has (by omega), Bool.not_not]
        have hd' : s.drop (m + 1 + (k + 1)) = l.drop (m + 1 + (k + 1)) := by
          have := congrArg (List.drop 1) hd
          rw [List.drop_drop, List.drop_drop] at this
          exact this
        by_cases hp : Lit l[m + 1 + k]
        · rw [decide_eq_true hp, cond_true]
          refine ⟨_, rfl, a + 1, rfl, rfl, by omega, by rw [List.length_set]; exact hl, ?_, ?_⟩
          · show (s.set (a : Int).toNat l[m + 1 + k]).take (a + 1) = _
            rw [Int.toNat_natCast, take_snoc _ a (by rw [List.length_set]; omega), List.getElem_set_self, List.take_set, List.set_eq_of_length_le (by rw [List.length_take]; omega), ht]
            rw [show m + 1 + (k + 1) = (m + 1 + k) + 1 by omega, take_snoc l (m + 1 + k) hjl', List.filter_append, fil1, decide_eq_true hp]; rfl
          · show (s.set (a : Int).toNat l[m + 1 + k]).drop _ = _
            rw [Int.toNat_natCast, List.drop_set, if_pos (by omega)]
            exact hd'
        · rw [decide_eq_false hp, cond_false]
          refine ⟨_, rfl, a, rfl, rfl, by omega, hl, ?_, hd'⟩
          show s.take a = _
          rw [show m + 1 + (k + 1) = (m + 1 + k) + 1 by omega, take_snoc l (m + 1 + k) hjl', List.filter_append, fil1, decide_eq_false hp, ht]
          simp
      · obtain ⟨i, j, s⟩ := x
        obtain ⟨a, ha, hj, hlt, hl, ht, hd⟩ := hx
        simp only at ha hj hl ht hd
        subst ha hj
        have e : m + 1 + (l.length - (m + 1)) = s.length := by omega
        rw [e] at *
        have has : a < s.length := by omega
        refine ⟨_, ?_, rfl⟩
        simp only [slices_DeleteFunc_int_int.b1, lt_e, cond_false]
        rw [cut_in (by omega) (by omega) (by omega), bind_in, need_in ⟨by omega, by omega⟩, bind_in]
        have hc : (clrT s (a : Int) (s.length : Int) 0).length = s.length := by
          unfold clrT
          simp; omega
        rw [cut_in (by omega) (by omega) (by rw [hc]; omega), bind_in, Option.map_some]
        congr 2
        rw [Int.toNat_natCast, show (0 : Int).toNat = 0 from rfl, List.drop_zero]
        unfold clrT
        rw [Int.toNat_natCast, List.append_assoc, List.take_left' (by rw [List.length_take]; omega), ht, List.take_of_length_le (by omega)]
end Go.Proofs.Ytbkdiclfhoelbaa
