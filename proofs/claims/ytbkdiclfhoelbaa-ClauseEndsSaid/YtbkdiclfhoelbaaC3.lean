/-
  Layer 26 (clause): what follows by unit propagation; the closure that the code reckons.
-/
import Derived.Test.YtbkdiclfhoelbaaC2
namespace Go.Proofs.Ytbkdiclfhoelbaa
open Go.Lad
set_option linter.unusedVariables false
set_option linter.unusedSimpArgs false
set_option linter.unusedSectionVars false
/-- what follows from literals under clauses -/
inductive Der (C : List (List Int)) (s : List Int) : Int → Prop
  | start {x : Int} : x ∈ s → Lit x → Der C s x
  | unit {c : List Int} {x : Int} : c ∈ C → x ∈ c → Lit x → (∀ y ∈ c, Lit y → y ≠ x → Der C s (-y)) → Der C s x
def Fails (C : List (List Int)) (s : List Int) : Prop := (∃ c ∈ C, ∀ y ∈ c, Lit y → Der C s (-y)) ∨ ∃ x, Der C s x ∧ Der C s (-x)
theorem Der.lit {C : List (List Int)} {s : List Int} {x : Int} (h : Der C s x) : Lit x := by cases h <;> assumption
/-- a set that is closed contains what follows -/
theorem Der.least {C : List (List Int)} {s : List Int} (P : Int → Prop) (h1 : ∀ x ∈ s, Lit x → P x) (h2 : ∀ c ∈ C, ∀ x ∈ c, Lit x → (∀ y ∈ c, Lit y → y ≠ x → P (-y)) → P x) {x : Int} (h : Der C s x) : P x := by
  induction h with
  | start h3 h4 => exact h1 _ h3 h4
  | unit h3 h4 h5 _ ih => exact h2 _ h3 _ h4 h5 ih
/-! ### the set as a list of marks -/
/-- whether a mark is set -/
def ins (v : List Bool) (x : Int) : Bool := v.getD (2000 + x).toNat false
theorem lit_ix {x : Int} (h : Lit x) : 0 ≤ 2000 + x ∧ (2000 + x).toNat < 4001 := by unfold Lit at h; omega
theorem idx_ins {v : List Bool} {x n : Int} (hv : v.length = 4001) (h : Lit x) (hn : n = 2000 + x) : idx v n = some (ins v x) := by
  obtain ⟨h1, h2⟩ := lit_ix h
  rw [hn, idx_int h1 (by omega)]
  unfold ins
  rw [List.getD_eq_getElem?_getD, List.getElem?_eq_getElem (by omega)]; rfl
theorem ins_set {v : List Bool} {x y : Int} (hv : v.length = 4001) (h : Lit x) (hy : Lit y) : ins (v.set (2000 + x).toNat true) y = (decide (y = x) || ins v y) := by
  obtain ⟨h1, h2⟩ := lit_ix h
  obtain ⟨h3, h4⟩ := lit_ix hy
  unfold ins
  rw [List.getD_eq_getElem?_getD, List.getD_eq_getElem?_getD, List.getElem?_set]
  by_cases e : y = x
  · rw [if_pos (by rw [e]), if_pos (by omega), decide_eq_true e]; rfl
  · rw [if_neg (by omega), decide_eq_false e, Bool.false_or]
theorem ins_zero {v : List Bool} {x : Int} (hv : v.length = 4001) (h : Lit x) : ins (v.set (2000 + x).toNat true) 0 = ins v 0 := by
  obtain ⟨h1, h2⟩ := lit_ix h
  unfold Lit at h
  unfold ins
  rw [List.getD_eq_getElem?_getD, List.getD_eq_getElem?_getD, List.getElem?_set, if_neg (by omega)]
theorem ins_rep (x : Int) : ins (List.replicate 4001 false) x = false := by
  unfold ins
  rw [List.getD_eq_getElem?_getD, List.getElem?_replicate]
  split <;> rfl
/-- how many marks are not set -/
def frees (v : List Bool) : Nat := v.countP (fun b => !b)
theorem frees_set : ∀ {v : List Bool} {k : Nat} (hk : k < v.length), v[k] = false → frees (v.set k true) + 1 = frees v
  | [], _, hk, _ => absurd hk (by simp)
  | b :: v, 0, _, h => by
    have h : b = false := h
    subst h
    unfold frees
    rw [List.set_cons_zero, List.countP_cons, List.countP_cons]; simp
  | b :: v, k + 1, hk, h => by
    have := frees_set (v := v) (k := k) (by simpa using hk) h
    unfold frees at *
    rw [List.set_cons_succ, List.countP_cons, List.countP_cons]
    omega
theorem frees_le (v : List Bool) : frees v ≤ v.length := List.countP_le_length
theorem frees_ins {v : List Bool} {x : Int} (hv : v.length = 4001) (h : Lit x) (hx : ins v x = false) : frees (v.set (2000 + x).toNat true) + 1 = frees v := by
  obtain ⟨h1, h2⟩ := lit_ix h
  refine frees_set (by omega) ?_
  unfold ins at hx
  rwa [List.getD_eq_getElem?_getD, List.getElem?_eq_getElem (by omega)] at hx
/-! ### look -/
/-- what look returns -/
def LookOK (v : List Bool) (c : List Int) (r : Int × Bool) : Prop :=
  (r.2 = true ∧ r.1 = 0 ∧ ∀ y ∈ c, ins v (-y) = true) ∨
  (r.2 = true ∧ r.1 ∈ c ∧ Lit r.1 ∧ ins v (-r.1) = false ∧ ∀ y ∈ c, y ≠ r.1 → ins v (-y) = true) ∨
  (r.2 = false ∧ ∃ x ∈ c, ∃ y ∈ c, x ≠ y ∧ ins v (-x) = false ∧ ins v (-y) = false)
theorem look_eq {v : List Bool} {c : List Int} (hv : v.length = 4001) (hc : ∀ x ∈ c, Lit x) (hn : c.Nodup) (hl : c.length ≤ 1000000) : ∃ r, clause_look c v = some r ∧ LookOK v c r := by
  unfold clause_look
  refine loopF_inv (body := fun x => clause_look.b1 c v x.1 x.2)
    (fun k x => x.2 = (k : Int) ∧ ((x.1 = 0 ∧ ∀ y ∈ c.take k, ins v (-y) = true) ∨ (x.1 ∈ c.take k ∧ Lit x.1 ∧ ins v (-x.1) = false ∧ ∀ y ∈ c.take k, y ≠ x.1 → ins v (-y) = true)))
    c.length ⟨rfl, .inl ⟨rfl, by simp⟩⟩ (fun k hk x hx => ?_) (fun x hx => ?_) (by omega)
  · obtain ⟨f, i⟩ := x
    obtain ⟨h1, h2⟩ := hx
    simp only at h1 h2
    subst h1
    have hck := hc _ (List.getElem_mem hk)
    have hz : z64 ((2000 : Int) - c[k]) = some (2000 + -c[k]) := z64_p (by omega) (by unfold Lit at hck; omega) (by unfold Lit at hck; omega)
    have hvn : vNeed (2000 + -c[k]) 4001 = some () := by
      unfold vNeed
      rw [ltZ_eq, decide_eq_true (by unfold Lit at hck; omega)]; rfl
    simp only [clause_look.b1, lt_n hk, cond_true, idx_nat hk, bind_in, hz, hvn, idx_ins hv hck.neg rfl, z64_nx hk (by omega), eqZ_eq]
    cases hi : ins v (-c[k]) with
    | true =>
      rw [cond_true]
      refine .inl ⟨_, rfl, rfl, ?_⟩
      show (f = 0 ∧ _) ∨ _
      rw [take_snoc c k hk]
      rcases h2 with ⟨h2, h3⟩ | ⟨h2, h3, h4, h5⟩
      · refine .inl ⟨h2, fun y hy => ?_⟩
        rcases List.mem_append.1 hy with hy | hy
        · exact h3 y hy
        · rw [List.mem_singleton.1 hy]; exact hi
      · refine .inr ⟨List.mem_append_left _ h2, h3, h4, fun y hy hne => ?_⟩
        rcases List.mem_append.1 hy with hy | hy
        · exact h5 y hy hne
        · rw [List.mem_singleton.1 hy]; exact hi
    | false =>
      rw [cond_false]
      rcases h2 with ⟨h2, h3⟩ | ⟨h2, h3, h4, h5⟩
      · subst h2
        refine .inl ⟨_, rfl, rfl, .inr ?_⟩
        rw [take_snoc c k hk]
        refine ⟨List.mem_append_right _ (List.mem_singleton.2 rfl), hck, hi, fun y hy hne => ?_⟩
        rcases List.mem_append.1 hy with hy | hy
        · exact h3 y hy
        · exact absurd (List.mem_singleton.1 hy) hne
      · refine .inr ⟨_, by rw [decide_eq_false h3.1]; rfl, .inr (.inr ⟨rfl, f, List.mem_of_mem_take h2, c[k], List.getElem_mem hk, ?_, h4, hi⟩)⟩
        rintro rfl
        obtain ⟨j, hj, he⟩ := List.mem_iff_getElem.1 h2
        rw [List.length_take] at hj
        rw [List.getElem_take] at he
        have := (List.getElem_inj hn).1 he
        omega
  · obtain ⟨f, i⟩ := x
    obtain ⟨h1, h2⟩ := hx
    simp only at h1 h2
    subst h1
    rw [List.take_length] at h2
    refine ⟨(f, true), by simp only [clause_look.b1, lt_e, cond_false], ?_⟩
    rcases h2 with ⟨h2, h3⟩ | h2
    · exact .inl ⟨rfl, h2, h3⟩
    · exact .inr (.inl ⟨rfl, h2⟩)
end Go.Proofs.Ytbkdiclfhoelbaa
