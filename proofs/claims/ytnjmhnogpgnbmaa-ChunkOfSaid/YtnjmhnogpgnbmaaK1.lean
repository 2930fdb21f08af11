/-
  Layer 36 (chunk): what the functions of contents reckon, in plain words.
-/
import Derived.Test.YtnjmhnogpgnbmaaKModel
import Derived.Test.YtnjmhnogpgnbmaaLs
namespace Go.Proofs.Ytnjmhnogpgnbmaa
open Go.Lad
set_option linter.unusedVariables false
set_option linter.unusedSimpArgs false
set_option linter.unusedSectionVars false
theorem small_true : ladinglaw36_small = some true := by kernel_rfl
def szF : List Bs → Nat
  | [] => 0
  | x :: r => x.length + szF r
theorem szF_app (a b : List Bs) : szF (a ++ b) = szF a + szF b := by
  induction a with
  | nil => simp [szF]
  | cons x r ih => rw [List.cons_append, szF, szF, ih]; omega
theorem szF_take (l : List Bs) (k : Nat) : szF (l.take k) ≤ szF l := by
  have := szF_app (l.take k) (l.drop k)
  rw [List.take_append_drop] at this
  omega
theorem szF_mem {l : List Bs} {x : Bs} (h : x ∈ l) : x.length ≤ szF l := by
  induction l with
  | nil => cases h
  | cons y r ih =>
    rcases List.mem_cons.1 h with rfl | h
    · unfold szF; omega
    · have := ih h
      unfold szF; omega
theorem size_eq {l : List Bs} (h : szF l ≤ 1000000000) (hl : l.length ≤ 1000000000) : content_size l = some (szF l : Int) := by
  unfold content_size
  refine loopF_at (fun k => (((szF (l.take k) : Nat) : Int), (k : Int))) l.length (by simp [szF]) (fun k hk => ?_) ?_
  · have h1 := szF_take l k
    have h2 := szF_mem (List.getElem_mem hk)
    simp only [content_size.b1, bif_ltZ]
    rw [if_pos (by omega), idx_nat hk]
    simp only [bind_in]
    rw [z64_add (by omega)]
    simp only [bind_in]
    rw [z64_succ (by omega)]
    simp only [bind_in]
    rw [take_snoc l k hk, szF_app]
    simp [szF]
  · simp only [content_size.b1, bif_ltZ]
    rw [if_neg (by omega), List.take_length]
theorem bytes_eq {l : List Bs} (h : szF l ≤ 1000000000) (hl : l.length ≤ 1000000000) : ladingref04_bytes l = some (szF l : Int) := (show ladingref04_bytes l = content_size l from rfl).trans (size_eq h hl)
def posI {α : Type} [DecidableEq α] (l : List α) (s : α) : Int := match pos l s with
  | some i => (i : Int)
  | none => -1
theorem scan_pos {α : Type} [DecidableEq α] (s : α) : ∀ (l : List α) (k : Nat), scan (fun k x => if s = x then some ((k : Nat) : Int) else none) k l = (pos l s).map fun i => ((k + i : Nat) : Int)
  | [], k => rfl
  | y :: r, k => by
    unfold scan pos
    by_cases h : s = y
    · rw [if_pos h, if_pos h]; rfl
    · rw [if_neg h, if_neg h]
      dsimp only
      rw [scan_pos s r (k + 1)]
      cases pos r s with
      | none => rfl
      | some i => simp; omega
theorem scan_posI {α : Type} [DecidableEq α] (s : α) (l : List α) : (scan (fun k x => if s = x then some ((k : Nat) : Int) else none) 0 l).getD (-1) = posI l s := by
  rw [scan_pos]
  unfold posI
  cases pos l s with
  | none => rfl
  | some i => simp
theorem index_eq {l : List Bs} {s : Bs} (hl : l.length ≤ 1000000000) : slices_Index_string_string l s = some (posI l s) := by
  unfold slices_Index_string_string
  rw [← scan_posI]
  refine loop_scan l _ (-1) (fun k hk => ?_) ?_ (by omega)
  · simp only [slices_Index_string_string.b1, bif_ltZ, bif_dec]
    rw [if_pos (by omega), idx_nat hk]
    simp only [bind_in]
    by_cases h : s = l[k]
    · rw [if_pos h, if_pos h]
    · rw [if_neg h, if_neg h, z64_succ (by omega)]
      simp only [bind_in]
  · simp only [slices_Index_string_string.b1, bif_ltZ]
    rw [if_neg (by omega)]
theorem print_eq {l : List Bs} {s : Bs} (hl : l.length ≤ 1000000000) : content_Print l s = some (posI l s) := by
  unfold content_Print
  rw [index_eq hl]; rfl
theorem rprint_eq {l : List Bs} {s : Bs} (hl : l.length ≤ 1000000000) : ladingref04_Print l s = some (posI l s) := by
  unfold ladingref04_Print
  rw [← scan_posI]
  refine loop_scan l _ (-1) (fun k hk => ?_) ?_ (by omega)
  · simp only [ladingref04_Print.b1, bif_ltZ, bif_dec]
    rw [if_pos (by omega), idx_nat hk]
    simp only [bind_in]
    by_cases h : s = l[k]
    · rw [if_pos h.symm, if_pos h]
    · rw [if_neg (Ne.symm h), if_neg h, z64_succ (by omega)]
      simp only [bind_in]
  · simp only [ladingref04_Print.b1, bif_ltZ]
    rw [if_neg (by omega)]
theorem posI_neg {α : Type} [DecidableEq α] {l : List α} {s : α} : posI l s < 0 ↔ s ∉ l := by
  unfold posI
  cases h : pos l s with
  | none => exact ⟨fun _ => pos_none.1 h, fun _ => by dsimp only; omega⟩
  | some i =>
    refine ⟨fun h2 => ?_, fun h2 => ?_⟩
    · dsimp only at h2; omega
    · exact absurd (pos_none.2 h2) (by rw [h]; simp)
theorem posI_at {α : Type} [DecidableEq α] {l : List α} {k : Nat} (hn : l.Nodup) (hk : k < l.length) : posI l l[k] = k := by
  have : pos l l[k] = some k := pos_first hk rfl fun j hj he => by
    have := (List.getElem_inj hn (h₀ := by omega) (h₁ := hk)).1 he
    omega
  unfold posI; rw [this]
theorem posI_get {α : Type} [DecidableEq α] {l : List α} {s : α} (h : 0 ≤ posI l s) : l[(posI l s).toNat]? = some s := by
  unfold posI at h ⊢
  cases hp : pos l s with
  | none => rw [hp] at h; dsimp only at h; omega
  | some i => exact (pos_some hp).1
/-! ### right lists -/
def RightP (l : List Bs) : Prop := l.Nodup ∧ szF l ≤ 1048576
instance (l : List Bs) : Decidable (RightP l) := inferInstanceAs (Decidable (_ ∧ _))
def seenF (l : List Bs) : List (Bs × Bool) := l.foldl (fun m x => putM m x true) []
theorem seenF_snoc (l : List Bs) (x : Bs) : seenF (l ++ [x]) = putM (seenF l) x true := by unfold seenF; rw [List.foldl_append]; rfl
theorem nodup_snoc {l : List Bs} {x : Bs} : (l ++ [x]).Nodup ↔ l.Nodup ∧ x ∉ l := by
  rw [List.nodup_append]
  constructor
  · rintro ⟨h1, _, h3⟩
    exact ⟨h1, fun hx => h3 x hx x (by simp) rfl⟩
  · rintro ⟨h1, h2⟩
    exact ⟨h1, by simp, fun a ha b hb e => by rw [List.mem_singleton.1 hb] at e; subst e; exact h2 ha⟩
theorem seen_spec (l : List Bs) : (∀ y, y ∈ (seenF l).map (·.1) ↔ y ∈ l) ∧ ((seenF l).map (·.1)).length ≤ l.length ∧ (((seenF l).map (·.1)).length = l.length ↔ l.Nodup) := by
  refine rev_ind (p := fun l => (∀ y, y ∈ (seenF l).map (·.1) ↔ y ∈ l) ∧ ((seenF l).map (·.1)).length ≤ l.length ∧ (((seenF l).map (·.1)).length = l.length ↔ l.Nodup)) ⟨fun y => by simp [seenF], by simp [seenF], by simp [seenF]⟩ (fun l x ih => ?_) l
  obtain ⟨h1, h2, h3⟩ := ih
  rw [seenF_snoc, keys_put, List.length_append, List.length_singleton, nodup_snoc]
  by_cases hx : x ∈ (seenF l).map (·.1)
  · rw [if_pos hx]
    have hx' := (h1 x).1 hx
    refine ⟨fun y => ?_, by omega, ⟨fun h => by omega, fun h => absurd hx' h.2⟩⟩
    rw [h1 y, List.mem_append, List.mem_singleton]
    exact ⟨.inl, fun h => h.elim id fun e => e ▸ hx'⟩
  · rw [if_neg hx]
    refine ⟨fun y => ?_, ?_, ?_⟩
    · rw [List.mem_append, List.mem_append, h1 y]
    · rw [List.length_append, List.length_singleton]; omega
    · rw [List.length_append, List.length_singleton]
      constructor
      · intro h
        exact ⟨h3.1 (by omega), fun h4 => hx ((h1 x).2 h4)⟩
      · rintro ⟨h, _⟩
        rw [h3.2 h]
theorem right_eq {l : List Bs} (h : szF l ≤ 1000000000) (hl : l.length ≤ 1000000000) : content_Right l = some (decide (RightP l)) := by
  unfold content_Right
  have e : loopF (fun x => content_Right.b1 l x.1 x.2) (0, ([] : List (Bs × Bool))) = some (seenF l) := by
    refine loopF_at (fun k => ((k : Int), seenF (l.take k))) l.length (by simp [seenF]) (fun k hk => ?_) ?_
    · simp only [content_Right.b1, bif_ltZ]
      rw [if_pos (by omega), idx_nat hk]
      simp only [bind_in]
      rw [z64_succ (by omega)]
      simp only [bind_in]
      rw [take_snoc l k hk, seenF_snoc]
    · simp only [content_Right.b1, bif_ltZ]
      rw [if_neg (by omega), List.take_length]
  rw [e]
  obtain ⟨_, h2, h3⟩ := seen_spec l
  rw [List.length_map] at h2 h3
  simp only [bind_in, content_Right.j1, bif_eqZ]
  rw [need_in (by omega)]
  simp only [bind_in]
  by_cases hn : l.Nodup
  · rw [if_pos (by rw [h3.2 hn]), size_eq h hl]
    simp only [bind_in, leZ_eq]
    congr 1
    by_cases h4 : szF l ≤ 1048576
    · rw [decide_eq_true (by omega), decide_eq_true (show RightP l from ⟨hn, h4⟩)]
    · rw [decide_eq_false (by omega), decide_eq_false (fun h : RightP l => h4 h.2)]
  · rw [if_neg (fun h => hn (h3.1 (by omega))), decide_eq_false (fun h : RightP l => hn h.1)]
theorem rright_eq {l : List Bs} (h : szF l ≤ 1000000000) (hl : l.length ≤ 1000000000) : ladingref04_Right l = some (decide (RightP l)) := by
  unfold ladingref04_Right
  have e : loopF (fun x => ladingref04_Right.b1 l x) 0 = some ((scan (fun k x => if posI l x = k then none else some (Sum.inr false : Unit ⊕ Bool)) 0 l).getD (.inl ())) := by
    refine loop_scan l _ _ (fun k hk => ?_) ?_ (by omega)
    · simp only [ladingref04_Right.b1, bif_ltZ, bif_not, bif_eqZ]
      rw [if_pos (by omega), idx_nat hk]
      simp only [bind_in]
      rw [rprint_eq hl]
      simp only [bind_in]
      by_cases h5 : posI l l[k] = k
      · rw [if_pos h5, if_pos h5, z64_succ (by omega)]
        simp only [bind_in]
      · rw [if_neg h5, if_neg h5]
    · simp only [ladingref04_Right.b1, bif_ltZ]
      rw [if_neg (by omega)]
  rw [e]
  simp only [bind_in]
  by_cases hn : l.Nodup
  · have : scan (fun k x => if posI l x = k then none else some (Sum.inr false : Unit ⊕ Bool)) 0 l = none := scan_none.2 fun i hi => by rw [posI_at hn hi, if_pos (by omega)]
    rw [this]
    simp only [Option.getD_none, ladingref04_Right.j1]
    rw [bytes_eq h hl]
    simp only [bind_in, leZ_eq]
    congr 1
    by_cases h4 : szF l ≤ 1048576
    · rw [decide_eq_true (by omega), decide_eq_true (show RightP l from ⟨hn, h4⟩)]
    · rw [decide_eq_false (by omega), decide_eq_false (fun h : RightP l => h4 h.2)]
  · rw [decide_eq_false (fun h : RightP l => hn h.1)]
    cases hs : scan (fun k x => if posI l x = k then none else some (Sum.inr false : Unit ⊕ Bool)) 0 l with
    | none =>
      exfalso
      refine hn ?_
      rw [List.nodup_iff_pairwise_ne, List.pairwise_iff_getElem]
      intro i j hi hj hij he
      have h1 := scan_none.1 hs j hj
      split at h1
      · rename_i h2
        rw [← he] at h2
        have h3 := scan_none.1 hs i hi
        split at h3
        · rename_i h4; rw [h4] at h2; omega
        · cases h3
      · cases h1
    | some b =>
      obtain ⟨i, hi, h1, _⟩ := scan_some.1 hs
      split at h1
      · cases h1
      · injection h1 with h1
        rw [← h1]; rfl
/-! ### adding -/
theorem clone_eq {l : List Bs} (h : l.length ≤ 1000000000) : slices_Clone_string_string l = some l := by
  unfold slices_Clone_string_string
  refine bothN_same ?_ (fun h => by rw [h])
  rw [app_in (by simp only [List.length_nil]; omega)]
  rfl
theorem clone2_eq {l : List Bs} (h : l.length ≤ 1000000000) : slices_Clone_string_string_v2 l = some l := (show slices_Clone_string_string_v2 l = slices_Clone_string_string l from rfl).trans (clone_eq h)
def addF (l : List Bs) (s : Bs) : List Bs × Int × Int :=
  if RightP l then (if s ∈ l then (l, posI l s, 0) else if 1048576 < szF l + s.length then ([], 0, 6) else (l ++ [s], (l.length : Int), 0)) else ([], 0, 1)
section
variable {l : List Bs} {s : Bs} (h : szF l ≤ 1000000000) (hl : l.length ≤ 1000000000) (hs : s.length ≤ 1000000000)
include h hl hs
theorem add2_eq : content_Add_v2 l s = some (addF l s) := by
  unfold content_Add_v2 addF
  rw [right_eq h hl]
  simp only [bind_in, bif_not, bif_dec, bif_leZ, bif_ltZ]
  by_cases hr : RightP l
  · rw [if_pos hr, if_pos hr, print_eq hl]
    simp only [bind_in]
    by_cases hm : s ∈ l
    · have := posI_neg (l := l) (s := s)
      rw [if_pos (by
        rcases Int.lt_or_le (posI l s) 0 with h1 | h1
        · exact absurd hm (this.1 h1)
        · exact h1), if_pos hm, clone2_eq hl]
      simp only [bind_in]
    · have := posI_neg.2 hm
      rw [if_neg (by omega), if_neg hm, size_eq h hl]
      simp only [bind_in]
      rw [z64_add (by omega)]
      simp only [bind_in]
      by_cases h6 : 1048576 < szF l + s.length
      · rw [if_pos (by omega), if_pos h6]
      · rw [if_neg (by omega), if_neg h6, clone_eq hl]
        simp only [bind_in]
        rw [app_in (by simp only [List.length_singleton]; omega)]
        simp only [bind_in]
  · rw [if_neg hr, if_neg hr]
theorem add_eq : content_Add l s = some ((addF l s).2.1, (addF l s).2.2, (addF l s).1) := by
  unfold content_Add addF
  rw [right_eq h hl]
  simp only [bind_in, bif_not, bif_dec, bif_leZ, bif_ltZ]
  by_cases hr : RightP l
  · rw [if_pos hr, if_pos hr, print_eq hl]
    simp only [bind_in]
    by_cases hm : s ∈ l
    · have := posI_neg (l := l) (s := s)
      rw [if_pos (by
        rcases Int.lt_or_le (posI l s) 0 with h1 | h1
        · exact absurd hm (this.1 h1)
        · exact h1), if_pos hm, clone_eq hl]
      simp only [bind_in]
    · have := posI_neg.2 hm
      rw [if_neg (by omega), if_neg hm, size_eq h hl]
      simp only [bind_in]
      rw [z64_add (by omega)]
      simp only [bind_in]
      by_cases h6 : 1048576 < szF l + s.length
      · rw [if_pos (by omega), if_pos h6]
      · rw [if_neg (by omega), if_neg h6, clone_eq hl]
        simp only [bind_in]
        rw [app_in (by simp only [List.length_singleton]; omega)]
        simp only [bind_in]
  · rw [if_neg hr, if_neg hr]
theorem radd2_eq : ladingref04_Add_v2 l s = some (addF l s) := by
  unfold ladingref04_Add_v2 addF
  rw [rright_eq h hl]
  simp only [bind_in, bif_not, bif_dec, bif_leZ, bif_ltZ]
  by_cases hr : RightP l
  · rw [if_pos hr, if_pos hr, app_in (by simp only [List.length_nil]; omega)]
    simp only [bind_in, List.nil_append]
    rw [rprint_eq hl]
    simp only [bind_in]
    by_cases hm : s ∈ l
    · have := posI_neg (l := l) (s := s)
      rw [if_pos (by
        rcases Int.lt_or_le (posI l s) 0 with h1 | h1
        · exact absurd hm (this.1 h1)
        · exact h1), if_pos hm]
    · have := posI_neg.2 hm
      rw [if_neg (by omega), if_neg hm, bytes_eq h hl]
      simp only [bind_in]
      rw [z64_add (by omega)]
      simp only [bind_in]
      by_cases h6 : 1048576 < szF l + s.length
      · rw [if_pos (by omega), if_pos h6]
      · rw [if_neg (by omega), if_neg h6, app_in (by simp only [List.length_singleton]; omega)]
        simp only [bind_in]
  · rw [if_neg hr, if_neg hr]
theorem radd_eq : ladingref04_Add l s = some ((addF l s).2.1, (addF l s).2.2, (addF l s).1) := by
  unfold ladingref04_Add addF
  rw [rright_eq h hl]
  simp only [bind_in, bif_not, bif_dec, bif_leZ, bif_ltZ]
  by_cases hr : RightP l
  · rw [if_pos hr, if_pos hr, app_in (by simp only [List.length_nil]; omega)]
    simp only [bind_in, List.nil_append]
    rw [rprint_eq hl]
    simp only [bind_in]
    by_cases hm : s ∈ l
    · have := posI_neg (l := l) (s := s)
      rw [if_pos (by
        rcases Int.lt_or_le (posI l s) 0 with h1 | h1
        · exact absurd hm (this.1 h1)
        · exact h1), if_pos hm]
    · have := posI_neg.2 hm
      rw [if_neg (by omega), if_neg hm, bytes_eq h hl]
      simp only [bind_in]
      rw [z64_add (by omega)]
      simp only [bind_in]
      by_cases h6 : 1048576 < szF l + s.length
      · rw [if_pos (by omega), if_pos h6]
      · rw [if_neg (by omega), if_neg h6, app_in (by simp only [List.length_singleton]; omega)]
        simp only [bind_in]
  · rw [if_neg hr, if_neg hr]
end
/-! ### texts -/
def textF (l : List Bs) (n : Int) : Bs × Bool := if 0 ≤ n ∧ n < l.length then (l.getD n.toNat [], true) else ([], false)
theorem text_eq (l : List Bs) (n : Int) : content_Text l n = some (textF l n) := by
  unfold content_Text textF
  simp only [bif_ltZ, leZ_eq]
  by_cases h1 : n < 0
  · rw [if_pos h1, if_neg (by omega)]; rfl
  · rw [if_neg h1]
    simp only [bind_in, content_Text.j1, bif_dec]
    by_cases h2 : (l.length : Int) ≤ n
    · rw [if_pos h2, if_neg (by omega)]
    · rw [if_neg h2, if_pos (by omega), idx_int (by omega) (by omega)]
      simp only [bind_in]
      rw [List.getD_eq_getElem?_getD, List.getElem?_eq_getElem (by omega)]; rfl
theorem rtext_eq (l : List Bs) (n : Int) : ladingref04_Text l n = some (textF l n) := (show ladingref04_Text l n = content_Text l n from rfl).trans (text_eq l n)
theorem textF_ok {l : List Bs} {n : Int} (h : (textF l n).2 = true) : (textF l n).1 ∈ l ∧ 0 ≤ n ∧ n < l.length ∧ l[n.toNat]? = some (textF l n).1 := by
  unfold textF at h ⊢
  split at h
  · rename_i h1
    rw [if_pos h1]
    dsimp only
    rw [List.getD_eq_getElem?_getD, List.getElem?_eq_getElem (by omega)]
    exact ⟨List.getElem_mem _, h1.1, h1.2, rfl⟩
  · cases h
theorem textF_get {l : List Bs} {n : Int} {s : Bs} (h0 : 0 ≤ n) (h : l[n.toNat]? = some s) : textF l n = (s, true) := by
  obtain ⟨h1, h2⟩ := List.getElem?_eq_some_iff.1 h
  unfold textF
  rw [if_pos (by omega), List.getD_eq_getElem?_getD, h]; rfl
theorem few_eq {l : List Bs} {n : Nat} (hn : n ≤ 1000000) : ∃ b, ladinglaw36_few l (n : Int) = some b ∧ (b = true → l.length ≤ n ∧ ∀ x ∈ l, x.length ≤ 3000) := by
  unfold ladinglaw36_few
  have key : ∀ k, k < n + 2 → ∀ x : Int, (x = (k : Int) ∧ k ≤ l.length ∧ k ≤ n + 1 ∧ ∀ y ∈ l.take k, y.length ≤ 3000) →
      (∃ y, ladinglaw36_few.b1 l n x = some (.inl y) ∧ (y = ((k + 1 : Nat) : Int) ∧ k + 1 ≤ l.length ∧ k + 1 ≤ n + 1 ∧ ∀ y ∈ l.take (k + 1), y.length ≤ 3000)) ∨ ∃ b, ladinglaw36_few.b1 l n x = some (.inr b) ∧ (b = true → l.length ≤ n ∧ ∀ x ∈ l, x.length ≤ 3000) := by
    intro k hk x hx
    obtain ⟨rfl, hkl, hkn, hx⟩ := hx
    simp only [ladinglaw36_few.b1, bif_ltZ, leZ_eq]
    by_cases h1 : k < l.length
    · rw [if_pos (by omega)]
      simp only [bind_in, ladinglaw36_few.j1, bif_dec, bif_ltZ]
      by_cases h2 : k ≤ n
      · rw [if_pos (by omega), idx_nat h1]
        simp only [bind_in]
        by_cases h3 : (3000 : Int) < (l[k].length : Int)
        · rw [if_pos h3]
          exact .inr ⟨_, rfl, fun h => by cases h⟩
        · rw [if_neg h3, z64_succ (by omega)]
          simp only [bind_in]
          refine .inl ⟨_, rfl, rfl, by omega, by omega, fun y hy => ?_⟩
          rw [take_snoc l k h1, List.mem_append, List.mem_singleton] at hy
          rcases hy with hy | rfl
          · exact hx y hy
          · omega
      · rw [if_neg (by omega), leZ_eq]
        exact .inr ⟨_, rfl, fun h => by
          have := of_decide_eq_true h
          omega⟩
    · rw [if_neg (by omega)]
      simp only [bind_in, ladinglaw36_few.j1, cond_false, leZ_eq]
      refine .inr ⟨_, rfl, fun h => ⟨by have := of_decide_eq_true h; omega, ?_⟩⟩
      rw [List.take_of_length_le (by omega)] at hx
      exact hx
  exact loopF_inv (body := fun x => ladinglaw36_few.b1 l n x) (fun k x => x = (k : Int) ∧ k ≤ l.length ∧ k ≤ n + 1 ∧ ∀ y ∈ l.take k, y.length ≤ 3000) (Q := fun b => b = true → l.length ≤ n ∧ ∀ x ∈ l, x.length ≤ 3000) (n + 2) (x := 0) ⟨rfl, by omega, by omega, by simp⟩ key (fun x hx => by have := hx.2.2.1; omega)
theorem sz_few {l : List Bs} {n : Nat} (hl : l.length ≤ n) (h : ∀ x ∈ l, x.length ≤ 3000) : szF l ≤ 3000 * n := by
  have : szF l ≤ 3000 * l.length := by
    clear hl
    induction l with
    | nil => simp [szF]
    | cons x r ih =>
      have := ih fun y hy => h y (List.mem_cons_of_mem _ hy)
      have := h x List.mem_cons_self
      rw [szF, List.length_cons]; omega
  have : 3000 * l.length ≤ 3000 * n := Nat.mul_le_mul_left _ hl
  omega
end Go.Proofs.Ytnjmhnogpgnbmaa
