/-
  Layer 26 (clause): the base: own literals, the places of a literal.
-/
import Derived.Test.YtbkdiclfhoelbaaC1
namespace Go.Proofs.Ytbkdiclfhoelbaa
open Go.Lad
set_option linter.unusedVariables false
set_option linter.unusedSimpArgs false
set_option linter.unusedSectionVars false
/-- the literals of a clause, each once -/
def own (c : List Int) : List Int := c.foldl (fun o x => if Lit x ∧ x ∉ o then o ++ [x] else o) []
theorem own_snoc (c : List Int) (x : Int) : own (c ++ [x]) = if Lit x ∧ x ∉ own c then own c ++ [x] else own c := by
  unfold own; rw [List.foldl_append]; rfl
theorem mem_own {c : List Int} : ∀ {x : Int}, x ∈ own c ↔ x ∈ c ∧ Lit x := by
  refine rev_ind (p := fun c => ∀ {x : Int}, x ∈ own c ↔ x ∈ c ∧ Lit x) (fun {x} => by simp [own]) (fun c y ih {x} => ?_) c
  rw [own_snoc]
  by_cases h : Lit y ∧ y ∉ own c
  · rw [if_pos h, List.mem_append, List.mem_append, ih, List.mem_singleton]
    constructor
    · rintro (⟨h1, h2⟩ | rfl)
      · exact ⟨.inl h1, h2⟩
      · exact ⟨.inr rfl, h.1⟩
    · rintro ⟨h1 | rfl, h2⟩
      · exact .inl ⟨h1, h2⟩
      · exact .inr rfl
  · rw [if_neg h, ih, List.mem_append, List.mem_singleton]
    constructor
    · rintro ⟨h1, h2⟩; exact ⟨.inl h1, h2⟩
    · rintro ⟨h1 | rfl, h2⟩
      · exact ⟨h1, h2⟩
      · by_cases h3 : x ∈ own c
        · exact ih.1 h3
        · exact absurd ⟨h2, h3⟩ h
theorem own_nodup (c : List Int) : (own c).Nodup := by
  refine rev_ind (p := fun c => (own c).Nodup) List.nodup_nil (fun c y ih => ?_) c
  rw [own_snoc]
  split
  · rename_i h
    rw [List.nodup_append]
    refine ⟨ih, by simp, fun a ha b hb => ?_⟩
    simp at hb
    subst hb
    exact fun e => h.2 (e ▸ ha)
  · exact ih
theorem own_len (c : List Int) : (own c).length ≤ c.length := by
  refine rev_ind (p := fun c => (own c).length ≤ c.length) (Nat.le_refl _) (fun c y ih => ?_) c
  rw [own_snoc]
  split <;> simp <;> omega
/-- the clauses in which a literal stands -/
def wh (C : List (List Int)) (x : Int) : List Int := ((List.range C.length).filter fun k => decide (x ∈ C.getD k [])).map fun (k : Nat) => (k : Int)
theorem wh_len (C : List (List Int)) (x : Int) : (wh C x).length ≤ C.length := by
  unfold wh
  rw [List.length_map]
  exact Nat.le_trans (List.length_filter_le _ _) (by simp)
theorem wh_snoc (C : List (List Int)) (c : List Int) (x : Int) : wh (C ++ [c]) x = wh C x ++ if x ∈ c then [(C.length : Int)] else [] := by
  unfold wh
  rw [List.length_append, List.length_singleton, List.range_succ, List.filter_append, List.map_append]
  have h1 : (List.range C.length).filter (fun k => decide (x ∈ (C ++ [c]).getD k [])) = (List.range C.length).filter (fun k => decide (x ∈ C.getD k [])) := by
    refine List.filter_congr fun k hk => ?_
    have hk := List.mem_range.1 hk
    rw [List.getD_eq_getElem?_getD, List.getD_eq_getElem?_getD, List.getElem?_append_left hk]
  have h2 : (C ++ [c]).getD C.length [] = c := by
    rw [List.getD_eq_getElem?_getD]; simp
  rw [h1, fil1, h2]
  by_cases hx : x ∈ c
  · simp [hx]
  · simp [hx]
theorem mem_wh {C : List (List Int)} {x i : Int} : i ∈ wh C x ↔ ∃ k : Nat, ∃ hk : k < C.length, i = k ∧ x ∈ C[k] := by
  unfold wh
  constructor
  · intro h
    obtain ⟨k, hk, rfl⟩ := List.mem_map.1 h
    obtain ⟨h1, h2⟩ := List.mem_filter.1 hk
    have h1 := List.mem_range.1 h1
    refine ⟨k, h1, rfl, ?_⟩
    have h2 := of_decide_eq_true h2
    rwa [List.getD_eq_getElem?_getD, List.getElem?_eq_getElem h1, Option.getD_some] at h2
  · rintro ⟨k, hk, rfl, hx⟩
    refine List.mem_map.2 ⟨k, List.mem_filter.2 ⟨List.mem_range.2 hk, decide_eq_true ?_⟩, rfl⟩
    rwa [List.getD_eq_getElem?_getD, List.getElem?_eq_getElem hk, Option.getD_some]
/-- a base of clauses -/
def BaseOK (C : List (List Int)) (b : (List (List Int)) × List (Int × List Int)) : Prop := b.1 = C.map own ∧ ∀ x, Lit x → (lookM b.2 x).getD [] = wh C x
theorem base_nil : BaseOK [] ([], []) := ⟨rfl, fun x _ => rfl⟩
theorem add_eq {C : List (List Int)} {c : List Int} {b : (List (List Int)) × List (Int × List Int)} (hb : BaseOK C b) (hC : C.length ≤ 200000) (hc : c.length ≤ 1000000) :
    ∃ b', clause_base_add_v2 c b.1 b.2 = some b' ∧ BaseOK (C ++ [c]) b' := by
  obtain ⟨h1, h2⟩ := hb
  unfold clause_base_add_v2
  have hl : b.1.length = C.length := by rw [h1, List.length_map]
  refine loop_keep (body := fun x => clause_base_add_v2.b1 c x.1 x.2.1 x.2.2.1 x.2.2.2) c
    (fun k s => s.1 = own (c.take k) ∧ (∀ x, Lit x → (lookM s.2.1 x).getD [] = wh C x ++ if x ∈ c.take k then [(C.length : Int)] else []) ∧ s.2.2 = b.1) ⟨rfl, fun x hx => ?_, rfl⟩ (fun k hk s hs => .inl ?_) (fun s hs => ?_) (by omega)
  · rw [h2 x hx]; simp
  · obtain ⟨o, m, v⟩ := s
    obtain ⟨h3, h4, h5⟩ := hs
    simp only at h3 h4 h5
    subst h3 h5
    have ho : (own (c.take k)).length ≤ 1000000 := by
      have := own_len (c.take k)
      rw [List.length_take] at this; omega
    simp only [clause_base_add_v2.b1, lt_n hk, cond_true, idx_nat hk, bind_in, lit_eq, contains_eq ho]
    rw [take_snoc c k hk, own_snoc]
    by_cases hp : Lit c[k]
    · rw [decide_eq_true hp, cond_true, bind_in]
      by_cases hm : c[k] ∈ own (c.take k)
      · rw [decide_eq_true hm]
        simp only [clause_base_add_v2.j1, Bool.not_true, cond_false, z64_nx hk (by omega), bind_in]
        rw [if_neg (fun h => h.2 hm)]
        refine ⟨_, rfl, rfl, fun x hx => ?_, rfl⟩
        show (lookM m x).getD [] = _
        rw [h4 x hx]
        by_cases hx2 : x ∈ c.take k
        · rw [if_pos hx2, if_pos (List.mem_append_left _ hx2)]
        · rw [if_neg hx2, if_neg]
          intro h
          rcases List.mem_append.1 h with h | h
          · exact hx2 h
          · rw [List.mem_singleton.1 h] at hx2
            exact hx2 (mem_own.1 hm).1
      · rw [decide_eq_false hm]
        have hw := h4 _ hp
        have hnk : c[k] ∉ c.take k := fun h => hm (mem_own.2 ⟨h, hp⟩)
        rw [if_neg hnk, List.append_nil] at hw
        have hwl := wh_len C c[k]
        simp only [clause_base_add_v2.j1, Bool.not_false, cond_true]
        rw [app_in (by simp; omega), bind_in, hw, app_in (by simp; omega), bind_in, need_in trivial, bind_in, z64_nx hk (by omega), bind_in, if_pos ⟨hp, hm⟩]
        refine ⟨_, rfl, rfl, fun x hx => ?_, rfl⟩
        show (lookM (putM m c[k] _) x).getD [] = _
        rw [look_put]
        by_cases hx2 : x = c[k]
        · rw [if_pos hx2, hx2, Option.getD_some, if_pos (List.mem_append_right _ (by simp)), hl]
        · rw [if_neg hx2, h4 x hx]
          congr 1
          have : (x ∈ c.take k ++ [c[k]]) ↔ x ∈ c.take k := by
            rw [List.mem_append, List.mem_singleton]
            exact ⟨fun h => h.resolve_right hx2, .inl⟩
          simp only [this]
    · rw [decide_eq_false hp, cond_false, bind_in]
      simp only [clause_base_add_v2.j1, cond_false, z64_nx hk (by omega), bind_in]
      rw [if_neg (fun h => hp h.1)]
      refine ⟨_, rfl, rfl, fun x hx => ?_, rfl⟩
      show (lookM m x).getD [] = _
      rw [h4 x hx]
      have : (x ∈ c.take k ++ [c[k]]) ↔ x ∈ c.take k := by
        rw [List.mem_append, List.mem_singleton]
        exact ⟨fun h => h.elim id fun h => absurd (h ▸ hx) hp, .inl⟩
      simp only [this]
  · obtain ⟨o, m, v⟩ := s
    obtain ⟨h3, h4, h5⟩ := hs
    simp only at h3 h4 h5
    subst h3 h5
    rw [List.take_length] at h4 ⊢
    refine ⟨((C ++ [c]).map own, m), ?_, ?_⟩
    · simp only [clause_base_add_v2.b1, lt_e, cond_false]
      rw [app_in (by simp; omega), bind_in, h1, List.map_append]; rfl
    · refine ⟨rfl, fun x hx => ?_⟩
      show (lookM m x).getD [] = _
      rw [h4 x hx, wh_snoc]
/-- the clauses as lists of numbers -/
def Ok (C : List (List Int)) : Prop := C.length ≤ 200000 ∧ ∀ c ∈ C, c.length ≤ 1000000
theorem load_eq {l : List GClause} (h : Ok (l.map (·.1))) : ∃ b, clause_load l = some b ∧ BaseOK (l.map (·.1)) b := by
  obtain ⟨h1, h2⟩ := h
  rw [List.length_map] at h1
  unfold clause_load
  refine loop_keep (body := fun x => clause_load.b1 l x.1 x.2.1 x.2.2) l (fun k s => BaseOK ((l.take k).map (·.1)) s) base_nil (fun k hk s hs => .inl ?_) (fun s hs => ?_) (by omega)
  · obtain ⟨b', h3, h4⟩ := add_eq (c := l[k].1) hs (by simp; omega) (h2 _ (List.mem_map.2 ⟨_, List.getElem_mem hk, rfl⟩))
    simp only [clause_load.b1, lt_n hk, cond_true, idx_nat hk, bind_in, h3, z64_nx hk (by omega)]
    refine ⟨_, rfl, ?_⟩
    rw [take_snoc l k hk, List.map_append]
    exact h4
  · simp only [clause_load.b1, lt_e, cond_false]
    rw [List.take_length] at hs
    exact ⟨_, rfl, hs⟩
end Go.Proofs.Ytbkdiclfhoelbaa
