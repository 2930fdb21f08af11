/-
  Plain texts of layers 26 to 28.
-/
import Derived.Test.YthibbellkcdodaaRModel
import Derived.Test.YthibbellkcdodaaLs
/-
  Layer 26 (clause): lists, own literals, the base.
-/
namespace Go.Lad
set_option linter.unusedVariables false
set_option linter.unusedSimpArgs false
set_option linter.unusedSectionVars false
/-! ### loops over lists -/
theorem loop_any {α β : Type} {body : Int → Option (Int ⊕ β)} (l : List α) (p : α → Bool) (b e : β)
    (h : ∀ k (hk : k < l.length), body (k : Int) = some (if p l[k] = true then .inr b else .inl ((k + 1 : Nat) : Int)))
    (hd : body (l.length : Int) = some (.inr e)) (hn : l.length < 1606938044258990275541962092341162602522202993782792835301376) :
    loopF body 0 = some (if l.any p = true then b else e) := by
  rw [loop_scan l (fun _ x => if p x = true then some b else none) e (fun k hk => ?_) hd hn, scan_any p b]
  · split <;> rfl
  · rw [h k hk]
    split <;> rfl
theorem loop_idx {α : Type} {body : Int → Option (Int ⊕ Int)} (l : List α) (p : α → Bool)
    (h : ∀ k (hk : k < l.length), body (k : Int) = some (if p l[k] = true then .inr (k : Int) else .inl ((k + 1 : Nat) : Int)))
    (hd : body (l.length : Int) = some (.inr (-1))) (hn : l.length < 1606938044258990275541962092341162602522202993782792835301376) :
    ∃ i, loopF body 0 = some i ∧ leZ 0 i = l.any p ∧ ((i = -1 ∧ ∀ x ∈ l, p x = false) ∨ ∃ m : Nat, ∃ hm : m < l.length, i = m ∧ p l[m] = true ∧ ∀ j (hj : j < m), p (l[j]'(by omega)) = false) := by
  refine ⟨_, loop_scan l (fun k x => if p x = true then some (k : Int) else none) (-1) (fun k hk => ?_) hd hn, ?_⟩
  · rw [h k hk]
    split <;> rfl
  · cases hs : scan (fun k x => if p x = true then some (k : Int) else none) 0 l with
    | none =>
      have hf : ∀ x ∈ l, p x = false := fun x hx => by
        obtain ⟨i, hi, he⟩ := List.mem_iff_getElem.1 hx
        have := scan_none.1 hs i hi
        rw [he] at this
        cases hp : p x with
        | false => rfl
        | true => rw [hp, if_pos rfl] at this; cases this
      refine ⟨?_, .inl ⟨rfl, hf⟩⟩
      rw [Option.getD_none, leZ_eq, decide_eq_false (by omega)]
      exact (List.any_eq_false.2 fun x hx => by rw [hf x hx]; exact Bool.false_ne_true).symm
    | some b =>
      obtain ⟨i, hi, h1, h2⟩ := scan_some.1 hs
      rw [Nat.zero_add] at h1
      split at h1
      · rename_i he
        injection h1 with h1
        subst h1
        refine ⟨?_, .inr ⟨i, hi, rfl, he, fun j hj => ?_⟩⟩
        · rw [Option.getD_some, leZ_eq, decide_eq_true (by omega)]
          exact (List.any_eq_true.2 ⟨_, List.getElem_mem hi, he⟩).symm
        · have := h2 j hj
          cases hp : p (l[j]'(by omega)) with
          | false => rfl
          | true => rw [hp, if_pos rfl] at this; cases this
      · cases h1
/-- a loop whose rounds become fewer -/
theorem loopF_less {α β : Type} {body : α → Option (α ⊕ β)} (I : α → Prop) (m : α → Nat) {Q : β → Prop} {x : α} (h0 : I x) (h : ∀ x, I x → (∃ y, body x = some (.inl y) ∧ I y ∧ m y < m x) ∨ ∃ b, body x = some (.inr b) ∧ Q b)
    (hn : m x < 1606938044258990275541962092341162602522202993782792835301375) : ∃ b, loopF body x = some b ∧ Q b := by
  refine loopF_inv (fun k y => I y ∧ m y + k ≤ m x) (m x + 1) ⟨h0, Nat.le_refl _⟩ (fun k hk y hy => ?_) (fun y hy => absurd hy.2 (by omega)) (by omega)
  rcases h y hy.1 with ⟨z, hz, hi, hl⟩ | h
  · exact .inl ⟨z, hz, hi, by omega⟩
  · exact .inr h
/-- a loop over a list with a statement that every turn keeps -/
theorem loop_keep {α σ β : Type} {body : Int × σ → Option ((Int × σ) ⊕ β)} (l : List α) (I : Nat → σ → Prop) {Q : β → Prop} {s0 : σ} (h0 : I 0 s0)
    (h : ∀ k (hk : k < l.length) s, I k s → (∃ s', body ((k : Int), s) = some (.inl (((k + 1 : Nat) : Int), s')) ∧ I (k + 1) s') ∨ ∃ b, body ((k : Int), s) = some (.inr b) ∧ Q b)
    (hd : ∀ s, I l.length s → ∃ b, body ((l.length : Int), s) = some (.inr b) ∧ Q b) (hn : l.length < 1606938044258990275541962092341162602522202993782792835301376) :
    ∃ b, loopF body (0, s0) = some b ∧ Q b := by
  refine loopF_inv (fun k x => x.1 = (k : Int) ∧ I k x.2) l.length ⟨rfl, h0⟩ (fun k hk x hx => ?_) (fun x hx => ?_) hn
  · obtain ⟨i, s⟩ := x
    obtain ⟨h1, h2⟩ := hx
    cases h1
    rcases h k hk s h2 with ⟨s', h3, h4⟩ | h3
    · exact .inl ⟨_, h3, rfl, h4⟩
    · exact .inr h3
  · obtain ⟨i, s⟩ := x
    obtain ⟨h1, h2⟩ := hx
    cases h1
    exact hd s h2
end Go.Lad
namespace Go.Proofs.Ythibbellkcdodaa
open Go.Lad
set_option linter.unusedVariables false
set_option linter.unusedSimpArgs false
set_option linter.unusedSectionVars false
theorem fil1 {α : Type} (p : α → Bool) (x : α) : [x].filter p = if p x = true then [x] else [] := by cases h : p x <;> simp [h]
/-! ### literals -/
def Lit (x : Int) : Prop := x ≠ 0 ∧ -2000 ≤ x ∧ x ≤ 2000
instance (x : Int) : Decidable (Lit x) := by unfold Lit; infer_instance
theorem Lit.neg {x : Int} (h : Lit x) : Lit (-x) := by unfold Lit at *; omega
theorem lit_eq {x : Int} : clause_lit x = some (decide (Lit x)) := by
  unfold clause_lit
  simp only [eqZ_eq, leZ_eq, bif_not, bif_dec]
  by_cases h1 : x = 0
  · rw [if_pos h1, decide_eq_false (fun h => h.1 h1)]
  · rw [if_neg h1]
    by_cases h2 : -2000 ≤ x
    · rw [if_pos h2]; congr 1; rw [decide_eq_decide]; exact ⟨fun h => ⟨h1, h2, h⟩, fun h => h.2.2⟩
    · rw [if_neg h2, decide_eq_false (fun h => h2 h.2.1)]
theorem Lit_eq {x : Int} : ladingref26_Lit x = some (decide (Lit x)) := lit_eq
/-! ### lists of numbers -/
theorem lt_n {k n : Nat} (h : k < n) : ltZ (k : Int) (n : Int) = true := by rw [ltZ_eq, decide_eq_true (by omega)]
theorem lt_e {k : Nat} : ltZ (k : Int) (k : Int) = false := by rw [ltZ_eq, decide_eq_false (by omega)]
theorem z64_nx {k n : Nat} (h : k < n) (hn : n ≤ 9223372036854775807) : z64 ((k : Int) + 1) = some ((k + 1 : Nat) : Int) := z64_succ (by omega)
theorem z64_p {n : Int} {r : Int} (h : n = r) (h1 : -9223372036854775808 ≤ r) (h2 : r ≤ 9223372036854775807) : z64 n = some r := by rw [h]; exact z64_in h1 h2
theorem index_eq {l : List Int} {p : Int} (h : l.length ≤ 1000000) : ∃ i, slices_Index_int_int l p = some i ∧ leZ 0 i = decide (p ∈ l) := by
  have hb : ∀ k (hk : k < l.length), slices_Index_int_int.b1 l p (k : Int) = some (if (fun x => decide (p = x)) l[k] = true then .inr (k : Int) else .inl ((k + 1 : Nat) : Int)) := fun k hk => by
    simp only [slices_Index_int_int.b1, lt_n hk, cond_true, idx_nat hk, bind_in, bif_eqZ, z64_nx hk (by omega), decide_eq_true_eq]
    split <;> rfl
  have hd : slices_Index_int_int.b1 l p (l.length : Int) = some (.inr (-1)) := by simp only [slices_Index_int_int.b1, lt_e, cond_false]
  obtain ⟨i, h1, h2, _⟩ := loop_idx (body := fun x => slices_Index_int_int.b1 l p x) l (fun x => decide (p = x)) hb hd (by omega)
  refine ⟨i, h1, h2.trans ?_⟩
  rw [Bool.eq_iff_iff]
  simp
theorem contains_eq {l : List Int} {p : Int} (h : l.length ≤ 1000000) : slices_Contains_int_int l p = some (decide (p ∈ l)) := by
  obtain ⟨i, h1, h2⟩ := index_eq (l := l) (p := p) h
  unfold slices_Contains_int_int
  rw [h1, bind_in, h2]
theorem clone_eq {l : List Int} (h : l.length ≤ 1000000) : slices_Clone_int_int l = some l := by
  unfold slices_Clone_int_int
  refine bothN_same ?_ (fun h => by rw [h])
  rw [app_in (by simp; omega)]; rfl
theorem same_eq {a b : List Int} (h : a.length ≤ 1000000) : ladingref26_Same a b = some (decide (a = b)) := by
  unfold ladingref26_Same
  rw [bif_not, bif_eqZ]
  by_cases hl : a.length = b.length
  · rw [if_pos (by omega), loop_scan a (fun k x => if x = b.getD k 0 then none else some false) true (fun k hk => ?_) ?_ (by omega)]
    · congr 1
      cases hs : scan (fun k x => if x = b.getD k 0 then none else some false) 0 a with
      | none =>
        have : a = b := List.ext_getElem hl fun i h1 h2 => by
          have := scan_none.1 hs i h1
          rw [Nat.zero_add, List.getD_eq_getElem?_getD, List.getElem?_eq_getElem h2] at this
          split at this
          · assumption
          · cases this
        rw [decide_eq_true this]; rfl
      | some c =>
        obtain ⟨i, hi, h1, _⟩ := scan_some.1 hs
        rw [Nat.zero_add, List.getD_eq_getElem?_getD, List.getElem?_eq_getElem (by omega)] at h1
        split at h1
        · cases h1
        · rename_i hne
          injection h1 with h1
          subst h1
          rw [decide_eq_false fun e => hne (by subst e; rfl)]; rfl
    · simp only [ladingref26_Same.b1, lt_e, cond_false]
    · have hkb : k < b.length := by omega
      simp only [ladingref26_Same.b1, lt_n hk, cond_true, idx_nat hk, idx_nat hkb, bind_in, bif_not, bif_eqZ, z64_nx hk (by omega), List.getD_eq_getElem?_getD, List.getElem?_eq_getElem hkb, Option.getD_some]
      split <;> rfl
  · rw [if_neg (by omega), decide_eq_false (fun e => hl (by rw [e]))]
/-- DeleteFunc of what is no literal -/
theorem delete_eq {l : List Int} (h : l.length ≤ 1000000) : slices_DeleteFunc_int_int l = some (l.filter fun x => decide (Lit x)) := by
  have hb : ∀ k (hk : k < l.length), slices_IndexFunc_int_int_v3.b1 l (k : Int) = some (if (fun x => !decide (Lit x)) l[k] = true then .inr (k : Int) else .inl ((k + 1 : Nat) : Int)) := fun k hk => by
    simp only [slices_IndexFunc_int_int_v3.b1, lt_n hk, cond_true, idx_nat hk, bind_in, clause_base_close_1, lit_eq, z64_nx hk (by omega)]
    by_cases hp : Lit l[k] <;> simp [hp]
  have he : slices_IndexFunc_int_int_v3.b1 l (l.length : Int) = some (.inr (-1)) := by simp only [slices_IndexFunc_int_int_v3.b1, lt_e, cond_false]
  obtain ⟨i, h1, -, h2⟩ := loop_idx (body := fun x => slices_IndexFunc_int_int_v3.b1 l x) l (fun x => !decide (Lit x)) hb he (by omega)
  · have h1 : slices_IndexFunc_int_int_v3 l = some i := h1
    unfold slices_DeleteFunc_int_int
    rw [h1, bind_in, bif_eqZ]
    rcases h2 with ⟨rfl, h2⟩ | ⟨m, hm, rfl, h3, h4⟩
    · rw [if_pos rfl]
      congr 1
      exact (List.filter_eq_self.2 fun x hx => by have := h2 x hx; simpa using this).symm
    · rw [if_neg (by omega), z64_nx hm (by omega), bind_in]
      have key := loopF_inv (body := fun x => slices_DeleteFunc_int_int.b1 x.1 x.2.1 x.2.2)
        (fun k x => ∃ a : Nat, x.1 = (a : Int) ∧ x.2.1 = ((m + 1 + k : Nat) : Int) ∧ a < m + 1 + k ∧ x.2.2.length = l.length ∧ x.2.2.take a = (l.take (m + 1 + k)).filter (fun x => decide (Lit x)) ∧ x.2.2.drop (m + 1 + k) = l.drop (m + 1 + k))
        (Q := fun r => r = l.filter fun x => decide (Lit x)) (l.length - (m + 1)) (x := ((m : Int), ((m + 1 : Nat) : Int), l))
        ⟨m, rfl, rfl, by omega, rfl, ?_, rfl⟩ (fun k hk x hx => ?_) (fun x hx => ?_) (by omega)
      · obtain ⟨b, h5, h6⟩ := key
        rw [← h6]; exact h5
      · rw [take_snoc l m hm, List.filter_append]
        have : decide (Lit l[m]) = false := by simpa using h3
        rw [fil1, this]
        simp only [Bool.false_eq_true, if_false, List.append_nil]
        symm
        refine List.filter_eq_self.2 fun x hx => ?_
        obtain ⟨j, hj, he⟩ := List.mem_iff_getElem.1 hx
        rw [List.length_take] at hj
        have := h4 j (by omega)
        rw [List.getElem_take] at he
        rw [he] at this
        simpa using this
      · obtain ⟨i, j, s⟩ := x
        obtain ⟨a, ha, hj, hlt, hl, ht, hd⟩ := hx
        simp only at ha hj hl ht hd
        subst ha hj
        have hjl : m + 1 + k < s.length := by omega
        have hjl' : m + 1 + k < l.length := by omega
        have he : s[m + 1 + k] = l[m + 1 + k] := by
          have := congrArg (fun z => z[0]?) hd
          simpa [hjl, hjl'] using this
        have has : a < s.length := by omega
        refine .inl ?_
        simp only [slices_DeleteFunc_int_int.b1, lt_n hjl, cond_true, idx_nat hjl, idx_nat has, bind_in, clause_base_close_1, lit_eq, he, z64_nx hjl (by omega), z64_nx has (by omega), Bool.not_not]
        have hd' : s.drop (m + 1 + (k + 1)) = l.drop (m + 1 + (k + 1)) := by
          have := congrArg (List.drop 1) hd
          rw [List.drop_drop, List.drop_drop] at this
          exact this
        by_cases hp : Lit l[m + 1 + k]
        · rw [decide_eq_true hp, cond_true]
          refine ⟨_, rfl, a + 1, rfl, rfl, by omega, by rw [List.length_set]; exact hl, ?_, ?_⟩
          · show (s.set (a : Int).toNat l[m + 1 + k]).take (a + 1) = _
            rw [Int.toNat_natCast, take_snoc _ a (by rw [List.length_set]; omega), List.getElem_set_self, List.take_set, List.set_eq_of_length_le (by rw [List.length_take]; omega), ht]
            rw [show m + 1 + (k + 1) = (m + 1 + k) + 1 by omega, take_snoc l (m + 1 + k) hjl', List.filter_append, fil1, decide_eq_true hp]; rfl
          · show (s.set (a : Int).toNat l[m + 1 + k]).drop _ = _
            rw [Int.toNat_natCast, List.drop_set, if_pos (by omega)]
            exact hd'
        · rw [decide_eq_false hp, cond_false]
          refine ⟨_, rfl, a, rfl, rfl, by omega, hl, ?_, hd'⟩
          show s.take a = _
          rw [show m + 1 + (k + 1) = (m + 1 + k) + 1 by omega, take_snoc l (m + 1 + k) hjl', List.filter_append, fil1, decide_eq_false hp, ht]
          simp
      · obtain ⟨i, j, s⟩ := x
        obtain ⟨a, ha, hj, hlt, hl, ht, hd⟩ := hx
        simp only at ha hj hl ht hd
        subst ha hj
        have e : m + 1 + (l.length - (m + 1)) = s.length := by omega
        rw [e] at *
        have has : a < s.length := by omega
        refine ⟨_, ?_, rfl⟩
        simp only [slices_DeleteFunc_int_int.b1, lt_e, cond_false]
        rw [cut_in (by omega) (by omega) (by omega), bind_in, need_in ⟨by omega, by omega⟩, bind_in]
        have hc : (clrT s (a : Int) (s.length : Int) 0).length = s.length := by
          unfold clrT
          simp; omega
        rw [cut_in (by omega) (by omega) (by rw [hc]; omega), bind_in, Option.map_some]
        congr 2
        rw [Int.toNat_natCast, show (0 : Int).toNat = 0 from rfl, List.drop_zero]
        unfold clrT
        rw [Int.toNat_natCast, List.append_assoc, List.take_left' (by rw [List.length_take]; omega), ht, List.take_of_length_le (by omega)]
end Go.Proofs.Ythibbellkcdodaa
/-
  Layer 26 (clause): the base: own literals, the places of a literal.
-/
namespace Go.Proofs.Ythibbellkcdodaa
open Go.Lad
set_option linter.unusedVariables false
set_option linter.unusedSimpArgs false
set_option linter.unusedSectionVars false
/-- the literals of a clause, each once -/
def own (c : List Int) : List Int := c.foldl (fun o x => if Lit x ∧ x ∉ o then o ++ [x] else o) []
theorem own_snoc (c : List Int) (x : Int) : own (c ++ [x]) = if Lit x ∧ x ∉ own c then own c ++ [x] else own c := by
  unfold own; rw [List.foldl_append]; rfl
theorem mem_own {c : List Int} : ∀ {x : Int}, x ∈ own c ↔ x ∈ c ∧ Lit x := by
  refine rev_ind (p := fun c => ∀ {x : Int}, x ∈ own c ↔ x ∈ c ∧ Lit x) (fun {x} => by simp [own]) (fun c y ih {x} => ?_) c
  rw [own_snoc]
  by_cases h : Lit y ∧ y ∉ own c
  · rw [if_pos h, List.mem_append, List.mem_append, ih, List.mem_singleton]
    constructor
    · rintro (⟨h1, h2⟩ | rfl)
      · exact ⟨.inl h1, h2⟩
      · exact ⟨.inr rfl, h.1⟩
    · rintro ⟨h1 | rfl, h2⟩
      · exact .inl ⟨h1, h2⟩
      · exact .inr rfl
  · rw [if_neg h, ih, List.mem_append, List.mem_singleton]
    constructor
    · rintro ⟨h1, h2⟩; exact ⟨.inl h1, h2⟩
    · rintro ⟨h1 | rfl, h2⟩
      · exact ⟨h1, h2⟩
      · by_cases h3 : x ∈ own c
        · exact ih.1 h3
        · exact absurd ⟨h2, h3⟩ h
theorem own_nodup (c : List Int) : (own c).Nodup := by
  refine rev_ind (p := fun c => (own c).Nodup) List.nodup_nil (fun c y ih => ?_) c
  rw [own_snoc]
  split
  · rename_i h
    rw [List.nodup_append]
    refine ⟨ih, by simp, fun a ha b hb => ?_⟩
    simp at hb
    subst hb
    exact fun e => h.2 (e ▸ ha)
  · exact ih
theorem own_len (c : List Int) : (own c).length ≤ c.length := by
  refine rev_ind (p := fun c => (own c).length ≤ c.length) (Nat.le_refl _) (fun c y ih => ?_) c
  rw [own_snoc]
  split <;> simp <;> omega
/-- the clauses in which a literal stands -/
def wh (C : List (List Int)) (x : Int) : List Int := ((List.range C.length).filter fun k => decide (x ∈ C.getD k [])).map fun (k : Nat) => (k : Int)
theorem wh_len (C : List (List Int)) (x : Int) : (wh C x).length ≤ C.length := by
  unfold wh
  rw [List.length_map]
  exact Nat.le_trans (List.length_filter_le _ _) (by simp)
theorem wh_snoc (C : List (List Int)) (c : List Int) (x : Int) : wh (C ++ [c]) x = wh C x ++ if x ∈ c then [(C.length : Int)] else [] := by
  unfold wh
  rw [List.length_append, List.length_singleton, List.range_succ, List.filter_append, List.map_append]
  have h1 : (List.range C.length).filter (fun k => decide (x ∈ (C ++ [c]).getD k [])) = (List.range C.length).filter (fun k => decide (x ∈ C.getD k [])) := by
    refine List.filter_congr fun k hk => ?_
    have hk := List.mem_range.1 hk
    rw [List.getD_eq_getElem?_getD, List.getD_eq_getElem?_getD, List.getElem?_append_left hk]
  have h2 : (C ++ [c]).getD C.length [] = c := by
    rw [List.getD_eq_getElem?_getD]; simp
  rw [h1, fil1, h2]
  by_cases hx : x ∈ c
  · simp [hx]
  · simp [hx]
theorem mem_wh {C : List (List Int)} {x i : Int} : i ∈ wh C x ↔ ∃ k : Nat, ∃ hk : k < C.length, i = k ∧ x ∈ C[k] := by
  unfold wh
  constructor
  · intro h
    obtain ⟨k, hk, rfl⟩ := List.mem_map.1 h
    obtain ⟨h1, h2⟩ := List.mem_filter.1 hk
    have h1 := List.mem_range.1 h1
    refine ⟨k, h1, rfl, ?_⟩
    have h2 := of_decide_eq_true h2
    rwa [List.getD_eq_getElem?_getD, List.getElem?_eq_getElem h1, Option.getD_some] at h2
  · rintro ⟨k, hk, rfl, hx⟩
    refine List.mem_map.2 ⟨k, List.mem_filter.2 ⟨List.mem_range.2 hk, decide_eq_true ?_⟩, rfl⟩
    rwa [List.getD_eq_getElem?_getD, List.getElem?_eq_getElem hk, Option.getD_some]
/-- a base of clauses -/
def BaseOK (C : List (List Int)) (b : (List (List Int)) × List (Int × List Int)) : Prop := b.1 = C.map own ∧ ∀ x, Lit x → (lookM b.2 x).getD [] = wh C x
theorem base_nil : BaseOK [] ([], []) := ⟨rfl, fun x _ => rfl⟩
theorem add_eq {C : List (List Int)} {c : List Int} {b : (List (List Int)) × List (Int × List Int)} (hb : BaseOK C b) (hC : C.length ≤ 200000) (hc : c.length ≤ 1000000) :
    ∃ b', clause_base_add_v2 c b.1 b.2 = some b' ∧ BaseOK (C ++ [c]) b' := by
  obtain ⟨h1, h2⟩ := hb
  unfold clause_base_add_v2
  have hl : b.1.length = C.length := by rw [h1, List.length_map]
  refine loop_keep (body := fun x => clause_base_add_v2.b1 c x.1 x.2.1 x.2.2.1 x.2.2.2) c
    (fun k s => s.1 = own (c.take k) ∧ (∀ x, Lit x → (lookM s.2.1 x).getD [] = wh C x ++ if x ∈ c.take k then [(C.length : Int)] else []) ∧ s.2.2 = b.1) ⟨rfl, fun x hx => ?_, rfl⟩ (fun k hk s hs => .inl ?_) (fun s hs => ?_) (by omega)
  · rw [h2 x hx]; simp
  · obtain ⟨o, m, v⟩ := s
    obtain ⟨h3, h4, h5⟩ := hs
    simp only at h3 h4 h5
    subst h3 h5
    have ho : (own (c.take k)).length ≤ 1000000 := by
      have := own_len (c.take k)
      rw [List.length_take] at this; omega
    simp only [clause_base_add_v2.b1, lt_n hk, cond_true, idx_nat hk, bind_in, lit_eq, contains_eq ho]
    rw [take_snoc c k hk, own_snoc]
    by_cases hp : Lit c[k]
    · rw [decide_eq_true hp, cond_true, bind_in]
      by_cases hm : c[k] ∈ own (c.take k)
      · rw [decide_eq_true hm]
        simp only [clause_base_add_v2.j1, Bool.not_true, cond_false, z64_nx hk (by omega), bind_in]
        rw [if_neg (fun h => h.2 hm)]
        refine ⟨_, rfl, rfl, fun x hx => ?_, rfl⟩
        show (lookM m x).getD [] = _
        rw [h4 x hx]
        by_cases hx2 : x ∈ c.take k
        · rw [if_pos hx2, if_pos (List.mem_append_left _ hx2)]
        · rw [if_neg hx2, if_neg]
          intro h
          rcases List.mem_append.1 h with h | h
          · exact hx2 h
          · rw [List.mem_singleton.1 h] at hx2
            exact hx2 (mem_own.1 hm).1
      · rw [decide_eq_false hm]
        have hw := h4 _ hp
        have hnk : c[k] ∉ c.take k := fun h => hm (mem_own.2 ⟨h, hp⟩)
        rw [if_neg hnk, List.append_nil] at hw
        have hwl := wh_len C c[k]
        simp only [clause_base_add_v2.j1, Bool.not_false, cond_true]
        rw [app_in (by simp; omega), bind_in, hw, app_in (by simp; omega), bind_in, need_in trivial, bind_in, z64_nx hk (by omega), bind_in, if_pos ⟨hp, hm⟩]
        refine ⟨_, rfl, rfl, fun x hx => ?_, rfl⟩
        show (lookM (putM m c[k] _) x).getD [] = _
        rw [look_put]
        by_cases hx2 : x = c[k]
        · rw [if_pos hx2, hx2, Option.getD_some, if_pos (List.mem_append_right _ (by simp)), hl]
        · rw [if_neg hx2, h4 x hx]
          congr 1
          have : (x ∈ c.take k ++ [c[k]]) ↔ x ∈ c.take k := by
            rw [List.mem_append, List.mem_singleton]
            exact ⟨fun h => h.resolve_right hx2, .inl⟩
          simp only [this]
    · rw [decide_eq_false hp, cond_false, bind_in]
      simp only [clause_base_add_v2.j1, cond_false, z64_nx hk (by omega), bind_in]
      rw [if_neg (fun h => hp h.1)]
      refine ⟨_, rfl, rfl, fun x hx => ?_, rfl⟩
      show (lookM m x).getD [] = _
      rw [h4 x hx]
      have : (x ∈ c.take k ++ [c[k]]) ↔ x ∈ c.take k := by
        rw [List.mem_append, List.mem_singleton]
        exact ⟨fun h => h.elim id fun h => absurd (h ▸ hx) hp, .inl⟩
      simp only [this]
  · obtain ⟨o, m, v⟩ := s
    obtain ⟨h3, h4, h5⟩ := hs
    simp only at h3 h4 h5
    subst h3 h5
    rw [List.take_length] at h4 ⊢
    refine ⟨((C ++ [c]).map own, m), ?_, ?_⟩
    · simp only [clause_base_add_v2.b1, lt_e, cond_false]
      rw [app_in (by simp; omega), bind_in, h1, List.map_append]; rfl
    · refine ⟨rfl, fun x hx => ?_⟩
      show (lookM m x).getD [] = _
      rw [h4 x hx, wh_snoc]
/-- the clauses as lists of numbers -/
def Ok (C : List (List Int)) : Prop := C.length ≤ 200000 ∧ ∀ c ∈ C, c.length ≤ 1000000
theorem load_eq {l : List GClause} (h : Ok (l.map (·.1))) : ∃ b, clause_load l = some b ∧ BaseOK (l.map (·.1)) b := by
  obtain ⟨h1, h2⟩ := h
  rw [List.length_map] at h1
  unfold clause_load
  refine loop_keep (body := fun x => clause_load.b1 l x.1 x.2.1 x.2.2) l (fun k s => BaseOK ((l.take k).map (·.1)) s) base_nil (fun k hk s hs => .inl ?_) (fun s hs => ?_) (by omega)
  · obtain ⟨b', h3, h4⟩ := add_eq (c := l[k].1) hs (by simp; omega) (h2 _ (List.mem_map.2 ⟨_, List.getElem_mem hk, rfl⟩))
    simp only [clause_load.b1, lt_n hk, cond_true, idx_nat hk, bind_in, h3, z64_nx hk (by omega)]
    refine ⟨_, rfl, ?_⟩
    rw [take_snoc l k hk, List.map_append]
    exact h4
  · simp only [clause_load.b1, lt_e, cond_false]
    rw [List.take_length] at hs
    exact ⟨_, rfl, hs⟩
end Go.Proofs.Ythibbellkcdodaa
/-
  Layer 26 (clause): what follows by unit propagation; the closure that the code reckons.
-/
namespace Go.Proofs.Ythibbellkcdodaa
open Go.Lad
set_option linter.unusedVariables false
set_option linter.unusedSimpArgs false
set_option linter.unusedSectionVars false
/-- what follows from literals under clauses -/
inductive Der (C : List (List Int)) (s : List Int) : Int → Prop
  | start {x : Int} : x ∈ s → Lit x → Der C s x
  | unit {c : List Int} {x : Int} : c ∈ C → x ∈ c → Lit x → (∀ y ∈ c, Lit y → y ≠ x → Der C s (-y)) → Der C s x
def Fails (C : List (List Int)) (s : List Int) : Prop := (∃ c ∈ C, ∀ y ∈ c, Lit y → Der C s (-y)) ∨ ∃ x, Der C s x ∧ Der C s (-x)
theorem Der.lit {C : List (List Int)} {s : List Int} {x : Int} (h : Der C s x) : Lit x := by cases h <;> assumption
/-- a set that is closed contains what follows -/
theorem Der.least {C : List (List Int)} {s : List Int} (P : Int → Prop) (h1 : ∀ x ∈ s, Lit x → P x) (h2 : ∀ c ∈ C, ∀ x ∈ c, Lit x → (∀ y ∈ c, Lit y → y ≠ x → P (-y)) → P x) {x : Int} (h : Der C s x) : P x := by
  induction h with
  | start h3 h4 => exact h1 _ h3 h4
  | unit h3 h4 h5 _ ih => exact h2 _ h3 _ h4 h5 ih
/-! ### the set as a list of marks -/
/-- whether a mark is set -/
def ins (v : List Bool) (x : Int) : Bool := v.getD (2000 + x).toNat false
theorem lit_ix {x : Int} (h : Lit x) : 0 ≤ 2000 + x ∧ (2000 + x).toNat < 4001 := by unfold Lit at h; omega
theorem idx_ins {v : List Bool} {x n : Int} (hv : v.length = 4001) (h : Lit x) (hn : n = 2000 + x) : idx v n = some (ins v x) := by
  obtain ⟨h1, h2⟩ := lit_ix h
  rw [hn, idx_int h1 (by omega)]
  unfold ins
  rw [List.getD_eq_getElem?_getD, List.getElem?_eq_getElem (by omega)]; rfl
theorem ins_set {v : List Bool} {x y : Int} (hv : v.length = 4001) (h : Lit x) (hy : Lit y) : ins (v.set (2000 + x).toNat true) y = (decide (y = x) || ins v y) := by
  obtain ⟨h1, h2⟩ := lit_ix h
  obtain ⟨h3, h4⟩ := lit_ix hy
  unfold ins
  rw [List.getD_eq_getElem?_getD, List.getD_eq_getElem?_getD, List.getElem?_set]
  by_cases e : y = x
  · rw [if_pos (by rw [e]), if_pos (by omega), decide_eq_true e]; rfl
  · rw [if_neg (by omega), decide_eq_false e, Bool.false_or]
theorem ins_zero {v : List Bool} {x : Int} (hv : v.length = 4001) (h : Lit x) : ins (v.set (2000 + x).toNat true) 0 = ins v 0 := by
  obtain ⟨h1, h2⟩ := lit_ix h
  unfold Lit at h
  unfold ins
  rw [List.getD_eq_getElem?_getD, List.getD_eq_getElem?_getD, List.getElem?_set, if_neg (by omega)]
theorem ins_rep (x : Int) : ins (List.replicate 4001 false) x = false := by
  unfold ins
  rw [List.getD_eq_getElem?_getD, List.getElem?_replicate]
  split <;> rfl
/-- how many marks are not set -/
def frees (v : List Bool) : Nat := v.countP (fun b => !b)
theorem frees_set : ∀ {v : List Bool} {k : Nat} (hk : k < v.length), v[k] = false → frees (v.set k true) + 1 = frees v
  | [], _, hk, _ => absurd hk (by simp)
  | b :: v, 0, _, h => by
    have h : b = false := h
    subst h
    unfold frees
    rw [List.set_cons_zero, List.countP_cons, List.countP_cons]; simp
  | b :: v, k + 1, hk, h => by
    have := frees_set (v := v) (k := k) (by simpa using hk) h
    unfold frees at *
    rw [List.set_cons_succ, List.countP_cons, List.countP_cons]
    omega
theorem frees_le (v : List Bool) : frees v ≤ v.length := List.countP_le_length
theorem frees_ins {v : List Bool} {x : Int} (hv : v.length = 4001) (h : Lit x) (hx : ins v x = false) : frees (v.set (2000 + x).toNat true) + 1 = frees v := by
  obtain ⟨h1, h2⟩ := lit_ix h
  refine frees_set (by omega) ?_
  unfold ins at hx
  rwa [List.getD_eq_getElem?_getD, List.getElem?_eq_getElem (by omega)] at hx
/-! ### look -/
/-- what look returns -/
def LookOK (v : List Bool) (c : List Int) (r : Int × Bool) : Prop :=
  (r.2 = true ∧ r.1 = 0 ∧ ∀ y ∈ c, ins v (-y) = true) ∨
  (r.2 = true ∧ r.1 ∈ c ∧ Lit r.1 ∧ ins v (-r.1) = false ∧ ∀ y ∈ c, y ≠ r.1 → ins v (-y) = true) ∨
  (r.2 = false ∧ ∃ x ∈ c, ∃ y ∈ c, x ≠ y ∧ ins v (-x) = false ∧ ins v (-y) = false)
theorem look_eq {v : List Bool} {c : List Int} (hv : v.length = 4001) (hc : ∀ x ∈ c, Lit x) (hn : c.Nodup) (hl : c.length ≤ 1000000) : ∃ r, clause_look c v = some r ∧ LookOK v c r := by
  unfold clause_look
  refine loopF_inv (body := fun x => clause_look.b1 c v x.1 x.2)
    (fun k x => x.2 = (k : Int) ∧ ((x.1 = 0 ∧ ∀ y ∈ c.take k, ins v (-y) = true) ∨ (x.1 ∈ c.take k ∧ Lit x.1 ∧ ins v (-x.1) = false ∧ ∀ y ∈ c.take k, y ≠ x.1 → ins v (-y) = true)))
    c.length ⟨rfl, .inl ⟨rfl, by simp⟩⟩ (fun k hk x hx => ?_) (fun x hx => ?_) (by omega)
  · obtain ⟨f, i⟩ := x
    obtain ⟨h1, h2⟩ := hx
    simp only at h1 h2
    subst h1
    have hck := hc _ (List.getElem_mem hk)
    have hz : z64 ((2000 : Int) - c[k]) = some (2000 + -c[k]) := z64_p (by omega) (by unfold Lit at hck; omega) (by unfold Lit at hck; omega)
    have hvn : vNeed (2000 + -c[k]) 4001 = some () := by
      unfold vNeed
      rw [ltZ_eq, decide_eq_true (by unfold Lit at hck; omega)]; rfl
    simp only [clause_look.b1, lt_n hk, cond_true, idx_nat hk, bind_in, hz, hvn, idx_ins hv hck.neg rfl, z64_nx hk (by omega), eqZ_eq]
    cases hi : ins v (-c[k]) with
    | true =>
      rw [cond_true]
      refine .inl ⟨_, rfl, rfl, ?_⟩
      show (f = 0 ∧ _) ∨ _
      rw [take_snoc c k hk]
      rcases h2 with ⟨h2, h3⟩ | ⟨h2, h3, h4, h5⟩
      · refine .inl ⟨h2, fun y hy => ?_⟩
        rcases List.mem_append.1 hy with hy | hy
        · exact h3 y hy
        · rw [List.mem_singleton.1 hy]; exact hi
      · refine .inr ⟨List.mem_append_left _ h2, h3, h4, fun y hy hne => ?_⟩
        rcases List.mem_append.1 hy with hy | hy
        · exact h5 y hy hne
        · rw [List.mem_singleton.1 hy]; exact hi
    | false =>
      rw [cond_false]
      rcases h2 with ⟨h2, h3⟩ | ⟨h2, h3, h4, h5⟩
      · subst h2
        refine .inl ⟨_, rfl, rfl, .inr ?_⟩
        rw [take_snoc c k hk]
        refine ⟨List.mem_append_right _ (List.mem_singleton.2 rfl), hck, hi, fun y hy hne => ?_⟩
        rcases List.mem_append.1 hy with hy | hy
        · exact h3 y hy
        · exact absurd (List.mem_singleton.1 hy) hne
      · refine .inr ⟨_, by rw [decide_eq_false h3.1]; rfl, .inr (.inr ⟨rfl, f, List.mem_of_mem_take h2, c[k], List.getElem_mem hk, ?_, h4, hi⟩)⟩
        rintro rfl
        obtain ⟨j, hj, he⟩ := List.mem_iff_getElem.1 h2
        rw [List.length_take] at hj
        rw [List.getElem_take] at he
        have := (List.getElem_inj hn).1 he
        omega
  · obtain ⟨f, i⟩ := x
    obtain ⟨h1, h2⟩ := hx
    simp only at h1 h2
    subst h1
    rw [List.take_length] at h2
    refine ⟨(f, true), by simp only [clause_look.b1, lt_e, cond_false], ?_⟩
    rcases h2 with ⟨h2, h3⟩ | h2
    · exact .inl ⟨rfl, h2, h3⟩
    · exact .inr (.inl ⟨rfl, h2⟩)
end Go.Proofs.Ythibbellkcdodaa
