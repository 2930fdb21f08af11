/-
  Layer 26 (clause): the closure that the code reckons is what follows.
-/
import Derived.Test.YtbkdiclfhoelbaaC3
namespace Go.Proofs.Ytbkdiclfhoelbaa
open Go.Lad
set_option linter.unusedVariables false
set_option linter.unusedSimpArgs false
set_option linter.unusedSectionVars false
/-- what is known of a clause that has been looked at -/
def Seen (v : List Bool) (todo : List Int) (c : List Int) : Prop := ∃ z ∈ own c, ins v (-z) = false ∧ ((∀ y ∈ own c, y ≠ z → ins v (-y) = true) → ins v z = true ∨ z ∈ todo)
theorem Seen.mono {v : List Bool} {t t' : List Int} {c : List Int} (h : Seen v t c) (ht : ∀ x ∈ t, x ∈ t') : Seen v t' c := by
  obtain ⟨z, h1, h2, h3⟩ := h
  exact ⟨z, h1, h2, fun h => (h3 h).imp id (ht z)⟩
/-- the loop's state -/
structure Inv (C : List (List Int)) (s : List Int) (v : List Bool) (todo : List Int) : Prop where
  len : v.length = 4001
  zero : ins v 0 = false
  din : ∀ x, Lit x → ins v x = true → Der C s x
  dto : ∀ x ∈ todo, Der C s x
  st : ∀ x ∈ s, Lit x → ins v x = true ∨ x ∈ todo
  ne : ∀ c ∈ C, own c ≠ []
  one : ∀ c ∈ C, ∀ x, own c = [x] → ins v x = true ∨ x ∈ todo
  con : ∀ x, Lit x → ins v x = true → ins v (-x) = false
  seen : ∀ c ∈ C, (∃ y ∈ own c, ins v (-y) = true) → Seen v todo c
theorem Inv.done {C : List (List Int)} {s : List Int} {v : List Bool} (h : Inv C s v []) : ¬ Fails C s ∧ ∀ x, Lit x → (ins v x = true ↔ Der C s x) := by
  have key : ∀ x, Der C s x → ins v x = true := fun x hx => by
    refine hx.least (fun x => ins v x = true) (fun x h1 h2 => (h.st x h1 h2).resolve_right (by simp)) (fun c hc x hx hl ho => ?_)
    by_cases he : own c = [x]
    · exact (h.one c hc x he).resolve_right (by simp)
    · have : ∃ y ∈ own c, y ≠ x := by
        refine Classical.byContradiction fun hn => he ?_
        have hall : ∀ y ∈ own c, y = x := fun y hy => Classical.byContradiction fun hne => hn ⟨y, hy, hne⟩
        have hx' : x ∈ own c := mem_own.2 ⟨hx, hl⟩
        have hnd := own_nodup c
        cases hc' : own c with
        | nil => rw [hc'] at hx'; cases hx'
        | cons a r =>
          rw [hc'] at hall hnd
          have ha := hall a (by simp)
          subst ha
          cases r with
          | nil => rfl
          | cons b r =>
            have hb := hall b (by simp)
            subst hb
            simp at hnd
      obtain ⟨y, hy, hne⟩ := this
      obtain ⟨hy1, hy2⟩ := mem_own.1 hy
      obtain ⟨z, h1, h2, h3⟩ := h.seen c hc ⟨y, hy, ho y hy1 hy2 hne⟩
      have hzx : z = x := Classical.byContradiction fun hzx => by
        obtain ⟨h4, h5⟩ := mem_own.1 h1
        have := ho z h4 h5 hzx
        have h2 : ins v (-z) = false := h2
        rw [h2] at this; cases this
      subst hzx
      refine (h3 fun y hy hne => ?_).resolve_right (by simp)
      obtain ⟨h4, h5⟩ := mem_own.1 hy
      exact ho y h4 h5 hne
  refine ⟨?_, fun x hx => ⟨h.din x hx, key x⟩⟩
  rintro (⟨c, hc, ho⟩ | ⟨x, h1, h2⟩)
  · obtain ⟨y, hy⟩ := List.exists_mem_of_ne_nil _ (h.ne c hc)
    obtain ⟨hy1, hy2⟩ := mem_own.1 hy
    obtain ⟨z, h1, h2, _⟩ := h.seen c hc ⟨y, hy, key _ (ho y hy1 hy2)⟩
    obtain ⟨h4, h5⟩ := mem_own.1 h1
    rw [key _ (ho z h4 h5)] at h2; cases h2
  · have := h.con x h1.lit (key x h1)
    rw [key _ h2] at this; cases this
/-- what close returns -/
def CloseOK (C : List (List Int)) (s : List Int) (r : Bool × List Bool) : Prop :=
  (r.1 = false ∧ Fails C s) ∨ (r.1 = true ∧ ¬ Fails C s ∧ r.2.length = 4001 ∧ ins r.2 0 = false ∧ ∀ x, Lit x → (ins r.2 x = true ↔ Der C s x))
/-- the loop over the clauses in which the opposite of a literal stands -/
theorem inner_eq {C : List (List Int)} {s : List Int} {b : (List (List Int)) × List (Int × List Int)} {v : List Bool} {todo : List Int} {x : Int} (hb : BaseOK C b) (hC : Ok C) (hx : Lit x)
    (hl : v.length = 4001) (hd : ∀ y, Lit y → ins (v.set (2000 + x).toNat true) y = true → Der C s y) (ht : ∀ y ∈ todo, Der C s y) (hn : todo.length ≤ 1000000000) :
    ∃ r, loopF (fun y => clause_base_close.b2 b v (2000 + x) (-x) y.1 y.2) (0, todo) = some r ∧
      ((∃ t, r = .inl (v.set (2000 + x).toNat true, t) ∧ (∀ y ∈ t, Der C s y) ∧ (∀ y ∈ todo, y ∈ t) ∧ t.length ≤ todo.length + C.length ∧ ∀ c ∈ C, -x ∈ own c → Seen (v.set (2000 + x).toNat true) t c) ∨
       (∃ w, r = .inr (false, w) ∧ Fails C s)) := by
  obtain ⟨hb1, hb2⟩ := hb
  have hw := hb2 (-x) hx.neg
  have hwl := wh_len C (-x)
  have hb0 : b.1.length = C.length := by rw [hb1, List.length_map]
  generalize hW : wh C (-x) = W at *
  have hv' : (v.set (2000 + x).toNat true).length = 4001 := by rw [List.length_set, hl]
  generalize hV : v.set (2000 + x).toNat true = V at *
  obtain ⟨h200, hlen⟩ := hC
  refine loop_keep (body := fun y => clause_base_close.b2 b v (2000 + x) (-x) y.1 y.2) W
    (fun k t => (∀ y ∈ t, Der C s y) ∧ (∀ y ∈ todo, y ∈ t) ∧ t.length ≤ todo.length + k ∧ ∀ j (hj : j < W.length), j < k → ∀ i : Nat, ∀ hi : i < C.length, W[j] = (i : Int) → Seen V t C[i])
    ⟨ht, fun _ h => h, Nat.le_refl _, fun j _ hj => by omega⟩ (fun k hk t hI => ?_) (fun t hI => ?_) (by omega)
  · obtain ⟨h1, h2, h3, h4⟩ := hI
    have hmem : W[k] ∈ wh C (-x) := by rw [hW]; exact List.getElem_mem hk
    obtain ⟨i, hi, hWk, hxi⟩ := mem_wh.1 hmem
    have hib : i < b.1.length := by omega
    have hbi : b.1[i] = own C[i] := by
      have : b.1[i]? = some (own C[i]) := by rw [hb1, List.getElem?_map, List.getElem?_eq_getElem hi]; rfl
      rw [List.getElem?_eq_getElem hib] at this
      exact Option.some.inj this
    have hCi := List.getElem_mem hi
    obtain ⟨r, hr, hrl⟩ := look_eq (v := V) (c := own C[i]) hv' (fun y hy => (mem_own.1 hy).2) (own_nodup _) (Nat.le_trans (own_len _) (hlen _ hCi))
    have hstep : clause_base_close.b2 b v (2000 + x) (-x) (k : Int) t = (bif r.2 then some (eqZ r.1 0) else some false).bind fun y => clause_base_close.j1 v (2000 + x) (k : Int) t r y := by
      simp only [clause_base_close.b2, hw, lt_n hk, cond_true, idx_nat hk, bind_in, hWk, idx_nat hib, hbi, hV, hr]
    rw [hstep]
    rcases hrl with ⟨h5, h6, h7⟩ | ⟨h5, h6, h7, h8, h9⟩ | ⟨h5, y, hy, z, hz, hyz, h6, h7⟩
    · refine .inr ⟨.inr (false, V), ?_, .inr ⟨V, rfl, .inl ⟨C[i], hCi, fun y hy hl => hd _ hl.neg (h7 y (mem_own.2 ⟨hy, hl⟩))⟩⟩⟩
      rw [h5, h6, cond_true, eqZ_eq, decide_eq_true rfl, bind_in]
      simp only [clause_base_close.j1, cond_true, hV]
    · have hD : Der C s r.1 := .unit hCi (mem_own.1 h6).1 h7 fun y hy hl hne => hd _ hl.neg (h9 y (mem_own.2 ⟨hy, hl⟩) hne)
      refine .inl ⟨t ++ [r.1], ?_, ?_, ?_, ?_, ?_⟩
      · rw [h5, cond_true, eqZ_eq, decide_eq_false h7.1, bind_in]
        simp only [clause_base_close.j1, cond_false, h5, cond_true]
        rw [app_in (by simp; omega), bind_in, z64_nx hk (by omega), bind_in]
      · intro y hy
        rcases List.mem_append.1 hy with hy | hy
        · exact h1 y hy
        · rw [List.mem_singleton.1 hy]; exact hD
      · exact fun y hy => List.mem_append_left _ (h2 y hy)
      · simp; omega
      · intro j hj hjk i' hi' he
        rcases Nat.lt_or_ge j k with hlt | hge
        · exact (h4 j hj hlt i' hi' he).mono fun y hy => List.mem_append_left _ hy
        · have : j = k := by omega
          subst this
          have : i' = i := by omega
          subst this
          exact ⟨r.1, h6, h8, fun _ => .inr (List.mem_append_right _ (by simp))⟩
    · refine .inl ⟨t, ?_, h1, h2, by omega, ?_⟩
      · rw [h5, cond_false, bind_in]
        simp only [clause_base_close.j1, cond_false, h5]
        rw [z64_nx hk (by omega), bind_in]
      · intro j hj hjk i' hi' he
        rcases Nat.lt_or_ge j k with hlt | hge
        · exact h4 j hj hlt i' hi' he
        · have : j = k := by omega
          subst this
          have : i' = i := by omega
          subst this
          exact ⟨y, hy, h6, fun h => by rw [h z hz (Ne.symm hyz)] at h7; cases h7⟩
  · obtain ⟨h1, h2, h3, h4⟩ := hI
    refine ⟨.inl (V, t), ?_, .inl ⟨t, rfl, h1, h2, by omega, fun c hc hxc => ?_⟩⟩
    · simp only [clause_base_close.b2, hw, lt_e, cond_false, hV]
    · obtain ⟨i, hi, rfl⟩ := List.mem_iff_getElem.1 hc
      have : (i : Int) ∈ W := hW ▸ mem_wh.2 ⟨i, hi, rfl, (mem_own.1 hxc).1⟩
      obtain ⟨j, hj, he⟩ := List.mem_iff_getElem.1 this
      exact h4 j hj hj i hi he
end Go.Proofs.Ytbkdiclfhoelbaa
