/-
  Plain texts of layers 26 to 28.
-/
import Derived.Test.YthibbellkcdodaaC1
/-
  Layer 26 (clause): the closure that the code reckons is what follows.
-/
namespace Go.Proofs.Ythibbellkcdodaa
open Go.Lad
set_option linter.unusedVariables false
set_option linter.unusedSimpArgs false
set_option linter.unusedSectionVars false
/-- what is known of a clause that has been looked at -/
def Seen (v : List Bool) (todo : List Int) (c : List Int) : Prop := ∃ z ∈ own c, ins v (-z) = false ∧ ((∀ y ∈ own c, y ≠ z → ins v (-y) = true) → ins v z = true ∨ z ∈ todo)
theorem Seen.mono {v : List Bool} {t t' : List Int} {c : List Int} (h : Seen v t c) (ht : ∀ x ∈ t, x ∈ t') : Seen v t' c := by
  obtain ⟨z, h1, h2, h3⟩ := h
  exact ⟨z, h1, h2, fun h => (h3 h).imp id (ht z)⟩
/-- the loop's state -/
structure Inv (C : List (List Int)) (s : List Int) (v : List Bool) (todo : List Int) : Prop where
  len : v.length = 4001
  zero : ins v 0 = false
  din : ∀ x, Lit x → ins v x = true → Der C s x
  dto : ∀ x ∈ todo, Der C s x
  st : ∀ x ∈ s, Lit x → ins v x = true ∨ x ∈ todo
  ne : ∀ c ∈ C, own c ≠ []
  one : ∀ c ∈ C, ∀ x, own c = [x] → ins v x = true ∨ x ∈ todo
  con : ∀ x, Lit x → ins v x = true → ins v (-x) = false
  seen : ∀ c ∈ C, (∃ y ∈ own c, ins v (-y) = true) → Seen v todo c
theorem Inv.done {C : List (List Int)} {s : List Int} {v : List Bool} (h : Inv C s v []) : ¬ Fails C s ∧ ∀ x, Lit x → (ins v x = true ↔ Der C s x) := by
  have key : ∀ x, Der C s x → ins v x = true := fun x hx => by
    refine hx.least (fun x => ins v x = true) (fun x h1 h2 => (h.st x h1 h2).resolve_right (by simp)) (fun c hc x hx hl ho => ?_)
    by_cases he : own c = [x]
    · exact (h.one c hc x he).resolve_right (by simp)
    · have : ∃ y ∈ own c, y ≠ x := by
        refine Classical.byContradiction fun hn => he ?_
        have hall : ∀ y ∈ own c, y = x := fun y hy => Classical.byContradiction fun hne => hn ⟨y, hy, hne⟩
        have hx' : x ∈ own c := mem_own.2 ⟨hx, hl⟩
        have hnd := own_nodup c
        cases hc' : own c with
        | nil => rw [hc'] at hx'; cases hx'
        | cons a r =>
          rw [hc'] at hall hnd
          have ha := hall a (by simp)
          subst ha
          cases r with
          | nil => rfl
          | cons b r =>
            have hb := hall b (by simp)
            subst hb
            simp at hnd
      obtain ⟨y, hy, hne⟩ := this
      obtain ⟨hy1, hy2⟩ := mem_own.1 hy
      obtain ⟨z, h1, h2, h3⟩ := h.seen c hc ⟨y, hy, ho y hy1 hy2 hne⟩
      have hzx : z = x := Classical.byContradiction fun hzx => by
        obtain ⟨h4, h5⟩ := mem_own.1 h1
        have := ho z h4 h5 hzx
        have h2 : ins v (-z) = false := h2
        rw [h2] at this; cases this
      subst hzx
      refine (h3 fun y hy hne => ?_).resolve_right (by simp)
      obtain ⟨h4, h5⟩ := mem_own.1 hy
      exact ho y h4 h5 hne
  refine ⟨?_, fun x hx => ⟨h.din x hx, key x⟩⟩
  rintro (⟨c, hc, ho⟩ | ⟨x, h1, h2⟩)
  · obtain ⟨y, hy⟩ := List.exists_mem_of_ne_nil _ (h.ne c hc)
    obtain ⟨hy1, hy2⟩ := mem_own.1 hy
    obtain ⟨z, h1, h2, _⟩ := h.seen c hc ⟨y, hy, key _ (ho y hy1 hy2)⟩
    obtain ⟨h4, h5⟩ := mem_own.1 h1
    rw [key _ (ho z h4 h5)] at h2; cases h2
  · have := h.con x h1.lit (key x h1)
    rw [key _ h2] at this; cases this
/-- what close returns -/
def CloseOK (C : List (List Int)) (s : List Int) (r : Bool × List Bool) : Prop :=
  (r.1 = false ∧ Fails C s) ∨ (r.1 = true ∧ ¬ Fails C s ∧ r.2.length = 4001 ∧ ins r.2 0 = false ∧ ∀ x, Lit x → (ins r.2 x = true ↔ Der C s x))
/-- the loop over the clauses in which the opposite of a literal stands -/
theorem inner_eq {C : List (List Int)} {s : List Int} {b : (List (List Int)) × List (Int × List Int)} {v : List Bool} {todo : List Int} {x : Int} (hb : BaseOK C b) (hC : Ok C) (hx : Lit x)
    (hl : v.length = 4001) (hd : ∀ y, Lit y → ins (v.set (2000 + x).toNat true) y = true → Der C s y) (ht : ∀ y ∈ todo, Der C s y) (hn : todo.length ≤ 1000000000) :
    ∃ r, loopF (fun y => clause_base_close.b2 b v (2000 + x) (-x) y.1 y.2) (0, todo) = some r ∧
      ((∃ t, r = .inl (v.set (2000 + x).toNat true, t) ∧ (∀ y ∈ t, Der C s y) ∧ (∀ y ∈ todo, y ∈ t) ∧ t.length ≤ todo.length + C.length ∧ ∀ c ∈ C, -x ∈ own c → Seen (v.set (2000 + x).toNat true) t c) ∨
       (∃ w, r = .inr (false, w) ∧ Fails C s)) := by
  obtain ⟨hb1, hb2⟩ := hb
  have hw := hb2 (-x) hx.neg
  have hwl := wh_len C (-x)
  have hb0 : b.1.length = C.length := by rw [hb1, List.length_map]
  generalize hW : wh C (-x) = W at *
  have hv' : (v.set (2000 + x).toNat true).length = 4001 := by rw [List.length_set, hl]
  generalize hV : v.set (2000 + x).toNat true = V at *
  obtain ⟨h200, hlen⟩ := hC
  refine loop_keep (body := fun y => clause_base_close.b2 b v (2000 + x) (-x) y.1 y.2) W
    (fun k t => (∀ y ∈ t, Der C s y) ∧ (∀ y ∈ todo, y ∈ t) ∧ t.length ≤ todo.length + k ∧ ∀ j (hj : j < W.length), j < k → ∀ i : Nat, ∀ hi : i < C.length, W[j] = (i : Int) → Seen V t C[i])
    ⟨ht, fun _ h => h, Nat.le_refl _, fun j _ hj => by omega⟩ (fun k hk t hI => ?_) (fun t hI => ?_) (by omega)
  · obtain ⟨h1, h2, h3, h4⟩ := hI
    have hmem : W[k] ∈ wh C (-x) := by rw [hW]; exact List.getElem_mem hk
    obtain ⟨i, hi, hWk, hxi⟩ := mem_wh.1 hmem
    have hib : i < b.1.length := by omega
    have hbi : b.1[i] = own C[i] := by
      have : b.1[i]? = some (own C[i]) := by rw [hb1, List.getElem?_map, List.getElem?_eq_getElem hi]; rfl
      rw [List.getElem?_eq_getElem hib] at this
      exact Option.some.inj this
    have hCi := List.getElem_mem hi
    obtain ⟨r, hr, hrl⟩ := look_eq (v := V) (c := own C[i]) hv' (fun y hy => (mem_own.1 hy).2) (own_nodup _) (Nat.le_trans (own_len _) (hlen _ hCi))
    have hstep : clause_base_close.b2 b v (2000 + x) (-x) (k : Int) t = (bif r.2 then some (eqZ r.1 0) else some false).bind fun y => clause_base_close.j1 v (2000 + x) (k : Int) t r y := by
      simp only [clause_base_close.b2, hw, lt_n hk, cond_true, idx_nat hk, bind_in, hWk, idx_nat hib, hbi, hV, hr]
    rw [hstep]
    rcases hrl with ⟨h5, h6, h7⟩ | ⟨h5, h6, h7, h8, h9⟩ | ⟨h5, y, hy, z, hz, hyz, h6, h7⟩
    · refine .inr ⟨.inr (false, V), ?_, .inr ⟨V, rfl, .inl ⟨C[i], hCi, fun y hy hl => hd _ hl.neg (h7 y (mem_own.2 ⟨hy, hl⟩))⟩⟩⟩
      rw [h5, h6, cond_true, eqZ_eq, decide_eq_true rfl, bind_in]
      simp only [clause_base_close.j1, cond_true, hV]
    · have hD : Der C s r.1 := .unit hCi (mem_own.1 h6).1 h7 fun y hy hl hne => hd _ hl.neg (h9 y (mem_own.2 ⟨hy, hl⟩) hne)
      refine .inl ⟨t ++ [r.1], ?_, ?_, ?_, ?_, ?_⟩
      · rw [h5, cond_true, eqZ_eq, decide_eq_false h7.1, bind_in]
        simp only [clause_base_close.j1, cond_false, h5, cond_true]
        rw [app_in (by simp; omega), bind_in, z64_nx hk (by omega), bind_in]
      · intro y hy
        rcases List.mem_append.1 hy with hy | hy
        · exact h1 y hy
        · rw [List.mem_singleton.1 hy]; exact hD
      · exact fun y hy => List.mem_append_left _ (h2 y hy)
      · simp; omega
      · intro j hj hjk i' hi' he
        rcases Nat.lt_or_ge j k with hlt | hge
        · exact (h4 j hj hlt i' hi' he).mono fun y hy => List.mem_append_left _ hy
        · have : j = k := by omega
          subst this
          have : i' = i := by omega
          subst this
          exact ⟨r.1, h6, h8, fun _ => .inr (List.mem_append_right _ (by simp))⟩
    · refine .inl ⟨t, ?_, h1, h2, by omega, ?_⟩
      · rw [h5, cond_false, bind_in]
        simp only [clause_base_close.j1, cond_false, h5]
        rw [z64_nx hk (by omega), bind_in]
      · intro j hj hjk i' hi' he
        rcases Nat.lt_or_ge j k with hlt | hge
        · exact h4 j hj hlt i' hi' he
        · have : j = k := by omega
          subst this
          have : i' = i := by omega
          subst this
          exact ⟨y, hy, h6, fun h => by rw [h z hz (Ne.symm hyz)] at h7; cases h7⟩
  · obtain ⟨h1, h2, h3, h4⟩ := hI
    refine ⟨.inl (V, t), ?_, .inl ⟨t, rfl, h1, h2, by omega, fun c hc hxc => ?_⟩⟩
    · simp only [clause_base_close.b2, hw, lt_e, cond_false, hV]
    · obtain ⟨i, hi, rfl⟩ := List.mem_iff_getElem.1 hc
      have : (i : Int) ∈ W := hW ▸ mem_wh.2 ⟨i, hi, rfl, (mem_own.1 hxc).1⟩
      obtain ⟨j, hj, he⟩ := List.mem_iff_getElem.1 this
      exact h4 j hj hj i hi he
end Go.Proofs.Ythibbellkcdodaa
/-
  Layer 26 (clause): close.
-/
namespace Go.Proofs.Ythibbellkcdodaa
open Go.Lad
set_option linter.unusedVariables false
set_option linter.unusedSimpArgs false
set_option linter.unusedSectionVars false
theorem idx0 {α : Type} (x : α) (r : List α) : idx (x :: r) 0 = some x := idx_at (by omega) rfl
theorem cut1 {α : Type} (x : α) (r : List α) : cut (x :: r) 1 ((x :: r).length : Int) = some r := by
  rw [cut_in (by omega) (by simp only [List.length_cons]; omega) (by omega), Int.toNat_natCast, List.take_length]; rfl
theorem ltz_cons {α : Type} (x : α) (r : List α) : ltZ 0 ((x :: r).length : Int) = true := by
  rw [ltZ_eq, decide_eq_true (by simp only [List.length_cons]; omega)]
theorem z64_lit {x : Int} (h : Lit x) : z64 ((2000 : Int) + x) = some (2000 + x) := z64_p rfl (by unfold Lit at h; omega) (by unfold Lit at h; omega)
theorem z64_litn {x : Int} (h : Lit x) : z64 ((2000 : Int) - x) = some (2000 + -x) := z64_p (by omega) (by unfold Lit at h; omega) (by unfold Lit at h; omega)
theorem vneed_lit {x : Int} (h : Lit x) : vNeed (2000 + x) 4001 = some () := by
  unfold vNeed
  rw [ltZ_eq, decide_eq_true (by unfold Lit at h; omega)]; rfl
theorem main_eq {C : List (List Int)} {s : List Int} {b : (List (List Int)) × List (Int × List Int)} {todo : List Int} (hb : BaseOK C b) (hC : Ok C)
    (h0 : Inv C s (List.replicate 4001 false) todo) (hn : todo.length ≤ 1300000) : ∃ r, clause_base_close.j2 b todo = some r ∧ CloseOK C s r := by
  unfold clause_base_close.j2
  refine loopF_less (body := fun x => clause_base_close.b3 b x.1 x.2) (fun y => Inv C s y.1 y.2 ∧ y.2.length + frees y.1 * (C.length + 1) ≤ 900000000) (fun y => y.2.length + frees y.1 * (C.length + 1)) ⟨h0, ?_⟩ (fun y hy => ?_) ?_
  · show todo.length + frees (List.replicate 4001 false) * (C.length + 1) ≤ _
    have h1 : frees (List.replicate 4001 false) ≤ 4001 := Nat.le_trans (frees_le _) (by rw [List.length_replicate]; exact Nat.le_refl _)
    have h2 := Nat.mul_le_mul h1 (show C.length + 1 ≤ 200001 by have := hC.1; omega)
    omega
  · obtain ⟨v, t⟩ := y
    obtain ⟨hI, hm⟩ := hy
    simp only at hI hm
    cases t with
    | nil =>
      refine .inr ⟨(true, v), ?_, .inr ⟨rfl, hI.done.1, hI.len, hI.zero, hI.done.2⟩⟩
      show clause_base_close.b3 b v [] = _
      simp only [clause_base_close.b3]
      rw [show ltZ 0 ((([] : List Int).length : Nat) : Int) = false by rw [ltZ_eq, decide_eq_false (by simp)], cond_false]
    | cons x rest =>
      have hDx := hI.dto x (by simp)
      have hx := hDx.lit
      have hstep : clause_base_close.b3 b v (x :: rest) = bif ins v x then some (.inl (v, rest)) else
          bif ins (v.set (2000 + x).toNat true) (-x) then some (.inr (false, v.set (2000 + x).toNat true)) else
          loopF (fun y => clause_base_close.b2 b v (2000 + x) (-x) y.1 y.2) (0, rest) := by
        simp only [clause_base_close.b3, ltz_cons, cond_true, idx0, bind_in, cut1, z64_lit hx, z64_litn hx, vneed_lit hx, vneed_lit hx.neg, idx_ins hI.len hx rfl,
          idx_ins (v := v.set (2000 + x).toNat true) (by rw [List.length_set]; exact hI.len) hx.neg rfl, z64_p (show -x = -x from rfl) (by unfold Lit at hx; omega) (by unfold Lit at hx; omega)]
      show (∃ y, clause_base_close.b3 b v (x :: rest) = _ ∧ _) ∨ _
      rw [hstep]
      rw [List.length_cons] at hm
      cases hin : ins v x with
      | true =>
        rw [cond_true]
        refine .inl ⟨_, rfl, ⟨⟨hI.len, hI.zero, hI.din, fun y hy => hI.dto y (List.mem_cons_of_mem _ hy), ?_, hI.ne, ?_, hI.con, ?_⟩, ?_⟩, ?_⟩
        · intro y hy hl
          rcases hI.st y hy hl with h | h
          · exact .inl h
          · rcases List.mem_cons.1 h with rfl | h
            · exact .inl hin
            · exact .inr h
        · intro c hc y hy
          rcases hI.one c hc y hy with h | h
          · exact .inl h
          · rcases List.mem_cons.1 h with rfl | h
            · exact .inl hin
            · exact .inr h
        · intro c hc hy
          obtain ⟨z, h1, h2, h3⟩ := hI.seen c hc hy
          refine ⟨z, h1, h2, fun h => ?_⟩
          rcases h3 h with h | h
          · exact .inl h
          · rcases List.mem_cons.1 h with rfl | h
            · exact .inl hin
            · exact .inr h
        · show rest.length + frees v * (C.length + 1) ≤ _
          omega
        · show rest.length + frees v * (C.length + 1) < (x :: rest).length + frees v * (C.length + 1)
          rw [List.length_cons]; omega
      | false =>
        rw [cond_false]
        have hfr := frees_ins hI.len hx hin
        have hxx : -x ≠ x := by unfold Lit at hx; omega
        have hset : ∀ y, Lit y → ins (v.set (2000 + x).toNat true) y = (decide (y = x) || ins v y) := fun y hy => ins_set hI.len hx hy
        have hzero : ins (v.set (2000 + x).toNat true) 0 = ins v 0 := ins_zero hI.len hx
        have hdin : ∀ y, Lit y → ins (v.set (2000 + x).toNat true) y = true → Der C s y := fun y hy h => by
          rw [hset y hy] at h
          by_cases e : y = x
          · rw [e]; exact hDx
          · rw [decide_eq_false e, Bool.false_or] at h
            exact hI.din y hy h
        have hlen : (v.set (2000 + x).toNat true).length = 4001 := by rw [List.length_set]; exact hI.len
        cases hneg : ins (v.set (2000 + x).toNat true) (-x) with
        | true =>
          rw [cond_true]
          exact .inr ⟨_, rfl, .inl ⟨rfl, .inr ⟨x, hDx, hdin _ hx.neg hneg⟩⟩⟩
        | false =>
          rw [cond_false]
          obtain ⟨r, hr, h | h⟩ := inner_eq hb hC hx hI.len hdin (fun y hy => hI.dto y (List.mem_cons_of_mem _ hy)) (show rest.length ≤ 1000000000 by omega)
          · obtain ⟨t, rfl, h1, h2, h3, h4⟩ := h
            rw [hr]
            have hvx : ins (v.set (2000 + x).toNat true) x = true := by rw [hset x hx, decide_eq_true rfl]; rfl
            have hup : ∀ y, Lit y → ins v y = true → ins (v.set (2000 + x).toNat true) y = true := fun y hy h => by rw [hset y hy, h, Bool.or_true]
            have hmeas : t.length + frees (v.set (2000 + x).toNat true) * (C.length + 1) < rest.length + 1 + frees v * (C.length + 1) := by
              rw [← hfr, Nat.succ_mul]; omega
            refine .inl ⟨_, rfl, ⟨⟨hlen, hzero.trans hI.zero, hdin, h1, ?_, hI.ne, ?_, ?_, ?_⟩, ?_⟩, ?_⟩
            · intro y hy hl
              rcases hI.st y hy hl with h | h
              · exact .inl (hup y hl h)
              · rcases List.mem_cons.1 h with rfl | h
                · exact .inl hvx
                · exact .inr (h2 y h)
            · intro c hc y hy
              have hl : Lit y := (mem_own.1 (hy ▸ (by simp : y ∈ [y]))).2
              rcases hI.one c hc y hy with h | h
              · exact .inl (hup y hl h)
              · rcases List.mem_cons.1 h with rfl | h
                · exact .inl hvx
                · exact .inr (h2 y h)
            · intro y hy h
              show ins (v.set (2000 + x).toNat true) (-y) = false
              by_cases e : y = x
              · rw [e]; exact hneg
              · have h : ins (v.set (2000 + x).toNat true) y = true := h
                rw [hset y hy, decide_eq_false e, Bool.false_or] at h
                rw [hset _ hy.neg, hI.con y hy h, Bool.or_false]
                refine decide_eq_false fun e2 => ?_
                have : y = -x := by omega
                rw [this] at h
                rw [hup _ hx.neg h] at hneg; cases hneg
            · intro c hc hy
              by_cases hxc : -x ∈ own c
              · exact h4 c hc hxc
              · have hne : ∀ y ∈ own c, ins (v.set (2000 + x).toNat true) (-y) = ins v (-y) := fun y hy => by
                  rw [hset _ (mem_own.1 hy).2.neg, decide_eq_false fun e => hxc ?_, Bool.false_or]
                  rwa [show -x = y by omega]
                obtain ⟨y, hy1, hy2⟩ := hy
                have hy2 : ins (v.set (2000 + x).toNat true) (-y) = true := hy2
                rw [hne y hy1] at hy2
                obtain ⟨z, h5, h6, h7⟩ := hI.seen c hc ⟨y, hy1, hy2⟩
                refine ⟨z, h5, by rw [← h6]; exact hne z h5, fun h => ?_⟩
                rcases h7 (fun y hy hz => by rw [← hne y hy]; exact h y hy hz) with h | h
                · exact .inl (hup z (mem_own.1 h5).2 h)
                · rcases List.mem_cons.1 h with rfl | h
                  · exact .inl hvx
                  · exact .inr (h2 z h)
            · show t.length + frees (v.set (2000 + x).toNat true) * (C.length + 1) ≤ _
              omega
            · show t.length + frees (v.set (2000 + x).toNat true) * (C.length + 1) < (x :: rest).length + frees v * (C.length + 1)
              rw [List.length_cons]; exact hmeas
          · obtain ⟨w, rfl, hf⟩ := h
            rw [hr]
            exact .inr ⟨_, rfl, .inl ⟨rfl, hf⟩⟩
  · show todo.length + frees (List.replicate 4001 false) * (C.length + 1) < _
    have h1 : frees (List.replicate 4001 false) ≤ 4001 := Nat.le_trans (frees_le _) (by rw [List.length_replicate]; exact Nat.le_refl _)
    have h2 := Nat.mul_le_mul h1 (show C.length + 1 ≤ 200001 by have := hC.1; omega)
    omega
theorem close_eq {C : List (List Int)} {s : List Int} {b : (List (List Int)) × List (Int × List Int)} (hb : BaseOK C b) (hC : Ok C) (hs : s.length ≤ 1000000) :
    ∃ r, clause_base_close b s = some r ∧ CloseOK C s r := by
  unfold clause_base_close
  rw [clone_eq hs, bind_in, delete_eq hs, bind_in]
  have hfl : (s.filter fun x => decide (Lit x)).length ≤ s.length := List.length_filter_le _ _
  have hb0 : b.1.length = C.length := by rw [hb.1, List.length_map]
  have h200 := hC.1
  obtain ⟨r, hr, hq⟩ := loop_keep (body := fun x => clause_base_close.b1 b x.1 x.2) C
    (fun k t => (∀ y ∈ t, Der C s y) ∧ (∀ x ∈ s, Lit x → x ∈ t) ∧ t.length ≤ s.length + k ∧ ∀ j (hj : j < C.length), j < k → own C[j] ≠ [] ∧ ∀ x, own C[j] = [x] → x ∈ t)
    (Q := fun r => (∃ t, r = .inl t ∧ Inv C s (List.replicate 4001 false) t ∧ t.length ≤ 1300000) ∨ ∃ w, r = .inr (false, w) ∧ Fails C s)
    (s0 := s.filter fun x => decide (Lit x))
    ⟨fun y hy => .start (List.mem_filter.1 hy).1 (of_decide_eq_true (List.mem_filter.1 hy).2), fun x hx hl => List.mem_filter.2 ⟨hx, decide_eq_true hl⟩, hfl, fun j _ hj => by omega⟩
    (fun k hk t hI => by
      obtain ⟨h1, h2, h3, h4⟩ := hI
      have hkb : k < b.1.length := by omega
      have hbk : b.1[k] = own C[k] := by
        have : b.1[k]? = some (own C[k]) := by rw [hb.1, List.getElem?_map, List.getElem?_eq_getElem hk]; rfl
        rw [List.getElem?_eq_getElem hkb] at this
        exact Option.some.inj this
      have hmem := List.getElem_mem hk
      cases ho : own C[k] with
      | nil =>
        refine .inr ⟨.inr (false, List.replicate 4001 false), ?_, .inr ⟨_, rfl, .inl ⟨C[k], hmem, fun y hy hl => ?_⟩⟩⟩
        · simp only [clause_base_close.b1, lt_n hkb, cond_true, idx_nat hkb, bind_in, hbk, ho, eqZ_eq]
          rw [decide_eq_true (by simp), cond_true]
        · have : y ∈ own C[k] := mem_own.2 ⟨hy, hl⟩
          rw [ho] at this; cases this
      | cons x r =>
        cases r with
        | nil =>
          refine .inl ⟨t ++ [x], ?_, ?_, ?_, ?_, ?_⟩
          · simp only [clause_base_close.b1, lt_n hkb, cond_true, idx_nat hkb, bind_in, hbk, ho, eqZ_eq]
            rw [decide_eq_false (by simp), cond_false, decide_eq_true (by simp), cond_true, idx0, bind_in, app_in (by simp; omega), bind_in, z64_nx hk (by omega), bind_in]
          · intro y hy
            rcases List.mem_append.1 hy with hy | hy
            · exact h1 y hy
            · rw [List.mem_singleton.1 hy]
              have hxo : x ∈ own C[k] := by rw [ho]; simp
              refine .unit hmem (mem_own.1 hxo).1 (mem_own.1 hxo).2 fun y hy hl hne => ?_
              have : y ∈ own C[k] := mem_own.2 ⟨hy, hl⟩
              rw [ho] at this
              exact absurd (List.mem_singleton.1 this) hne
          · exact fun y hy hl => List.mem_append_left _ (h2 y hy hl)
          · simp; omega
          · intro j hj hjk
            rcases Nat.lt_or_ge j k with hlt | hge
            · exact ⟨(h4 j hj hlt).1, fun y hy => List.mem_append_left _ ((h4 j hj hlt).2 y hy)⟩
            · have : j = k := by omega
              subst this
              rw [ho]
              exact ⟨by simp, fun y hy => by injection hy with hy; rw [hy]; simp⟩
        | cons y r =>
          refine .inl ⟨t, ?_, h1, h2, by omega, ?_⟩
          · simp only [clause_base_close.b1, lt_n hkb, cond_true, idx_nat hkb, bind_in, hbk, ho, eqZ_eq]
            rw [decide_eq_false (by simp only [List.length_cons]; omega), cond_false, decide_eq_false (by simp only [List.length_cons]; omega), cond_false, z64_nx hk (by omega), bind_in]
          · intro j hj hjk
            rcases Nat.lt_or_ge j k with hlt | hge
            · exact h4 j hj hlt
            · have : j = k := by omega
              subst this
              rw [ho]
              exact ⟨by simp, fun y hy => by injection hy with h1 h2; cases h2⟩)
    (fun t hI => by
      obtain ⟨h1, h2, h3, h4⟩ := hI
      have hC' := hb0
      refine ⟨.inl t, ?_, .inl ⟨t, rfl, ⟨by rw [List.length_replicate], ins_rep 0, fun x _ h => (by rw [ins_rep] at h; cases h), h1, fun x hx hl => .inr (h2 x hx hl), fun c hc => ?_, fun c hc x hx => ?_, fun x _ h => (by rw [ins_rep] at h; cases h), fun c hc h => ?_⟩, by omega⟩⟩
      · simp only [clause_base_close.b1]
        rw [hb0, lt_e, cond_false]
      · obtain ⟨j, hj, rfl⟩ := List.mem_iff_getElem.1 hc
        exact (h4 j hj hj).1
      · obtain ⟨j, hj, rfl⟩ := List.mem_iff_getElem.1 hc
        exact .inr ((h4 j hj hj).2 x hx)
      · obtain ⟨y, _, h⟩ := h
        rw [ins_rep] at h; cases h)
    (by omega)
  rw [hr, bind_in]
  rcases hq with ⟨t, rfl, h1, h2⟩ | ⟨w, rfl, h⟩
  · exact main_eq hb hC h1 h2
  · exact ⟨_, rfl, .inl ⟨rfl, h⟩⟩
end Go.Proofs.Ythibbellkcdodaa
/-
  Layer 26 (clause): Propagate, Follows, Proof, as the code has them.
-/
namespace Go.Proofs.Ythibbellkcdodaa
open Go.Lad
set_option linter.unusedVariables false
set_option linter.unusedSimpArgs false
set_option linter.unusedSectionVars false
noncomputable def derB (C : List (List Int)) (s : List Int) (x : Int) : Bool := @decide (Der C s x) (Classical.propDecidable _)
theorem derB_iff {C : List (List Int)} {s : List Int} {x : Int} : derB C s x = true ↔ Der C s x := by unfold derB; exact @decide_eq_true_iff _ (Classical.propDecidable _)
noncomputable def failB (C : List (List Int)) (s : List Int) : Bool := @decide (Fails C s) (Classical.propDecidable _)
theorem failB_iff {C : List (List Int)} {s : List Int} : failB C s = true ↔ Fails C s := by unfold failB; exact @decide_eq_true_iff _ (Classical.propDecidable _)
theorem failB_f {C : List (List Int)} {s : List Int} : failB C s = false ↔ ¬ Fails C s := by rw [← failB_iff]; simp
/-- all literals, ascending -/
def upTo (n : Nat) : List Int := (List.range n).map fun (k : Nat) => (k : Int) - 2000
theorem upTo_succ (n : Nat) : upTo (n + 1) = upTo n ++ [(n : Int) - 2000] := by
  unfold upTo
  rw [List.range_succ, List.map_append]; rfl
theorem mem_upTo {n : Nat} {x : Int} : x ∈ upTo n ↔ -2000 ≤ x ∧ x < (n : Int) - 2000 := by
  unfold upTo
  rw [List.mem_map]
  constructor
  · rintro ⟨k, hk, rfl⟩
    have := List.mem_range.1 hk
    omega
  · rintro ⟨h1, h2⟩
    exact ⟨(x + 2000).toNat, List.mem_range.2 (by omega), by omega⟩
theorem upTo_sorted (n : Nat) : (upTo n).Pairwise (· < ·) := by
  unfold upTo
  rw [List.pairwise_map]
  exact List.pairwise_lt_range.imp fun {a b} h => by omega
theorem upTo_len (n : Nat) : (upTo n).length = n := by unfold upTo; simp
/-- the closure, ascending -/
noncomputable def clos (C : List (List Int)) (s : List Int) : List Int := (upTo 4001).filter (derB C s)
theorem mem_clos {C : List (List Int)} {s : List Int} {x : Int} : x ∈ clos C s ↔ Der C s x := by
  unfold clos
  rw [List.mem_filter, derB_iff, mem_upTo]
  exact ⟨fun h => h.2, fun h => ⟨by have := h.lit; unfold Lit at this; omega, h⟩⟩
theorem clos_sorted (C : List (List Int)) (s : List Int) : (clos C s).Pairwise (· < ·) := (upTo_sorted 4001).filter _
theorem clos_len (C : List (List Int)) (s : List Int) : (clos C s).length ≤ 4001 := Nat.le_trans (List.length_filter_le _ _) (by rw [upTo_len]; exact Nat.le_refl _)
/-- what Propagate returns -/
noncomputable def propF (C : List (List Int)) (s : List Int) : List Int × Bool := if failB C s = true then ([], false) else (clos C s, true)
abbrev lits (l : List GClause) : List (List Int) := l.map (·.1)
theorem ins_at {v : List Bool} {k : Nat} (hv : v.length = 4001) (hk : k < 4001) : idx v (k : Int) = some (ins v ((k : Int) - 2000)) := by
  rw [idx_nat (by omega)]
  unfold ins
  rw [show (2000 + ((k : Int) - 2000)).toNat = k by omega, List.getD_eq_getElem?_getD, List.getElem?_eq_getElem (by omega)]; rfl
theorem ins_der {C : List (List Int)} {s : List Int} {v : List Bool} (h0 : ins v 0 = false) (h : ∀ x, Lit x → (ins v x = true ↔ Der C s x)) {x : Int} (h1 : -2000 ≤ x) (h2 : x ≤ 2000) : ins v x = derB C s x := by
  rw [Bool.eq_iff_iff, derB_iff]
  by_cases hx : x = 0
  · rw [hx, h0]
    exact iff_of_false (by simp) fun h => h.lit.1 rfl
  · exact h x ⟨hx, h1, h2⟩
theorem prop_eq {l : List GClause} {s : List Int} (h : Ok (lits l)) (hs : s.length ≤ 1000000) : clause_Propagate l s = some ((propF (lits l) s).2, (propF (lits l) s).1) := by
  unfold clause_Propagate
  obtain ⟨b, h1, h2⟩ := load_eq h
  obtain ⟨r, h3, h4⟩ := close_eq (s := s) h2 h hs
  rw [h1, bind_in, h3, bind_in, bif_not]
  unfold propF
  rcases h4 with ⟨h5, h6⟩ | ⟨h5, h6, h7, h8, h9⟩
  · rw [h5, cond_false, if_pos (failB_iff.2 h6)]
  · rw [h5, cond_true, if_neg (by rw [failB_iff]; exact h6)]
    refine loopF_at (body := fun x => clause_Propagate.b1 r x.1 x.2) (fun k => ((k : Int), (upTo k).filter (derB (lits l) s))) 4001 rfl (fun k hk => ?_) ?_ (by omega)
    · have hv : vNeed (k : Int) 4001 = some () := by
        unfold vNeed
        rw [ltZ_eq, decide_eq_true (by omega)]; rfl
      have hfl : ((upTo k).filter (derB (lits l) s)).length ≤ k := Nat.le_trans (List.length_filter_le _ _) (by rw [upTo_len]; exact Nat.le_refl _)
      simp only [clause_Propagate.b1, ltZ_eq, hv, bind_in, ins_at h7 hk, ins_der h8 h9 (show (-2000 : Int) ≤ (k : Int) - 2000 by omega) (show (k : Int) - 2000 ≤ 2000 by omega)]
      rw [decide_eq_true (by omega), cond_true, upTo_succ, List.filter_append, fil1]
      cases hd : derB (lits l) s ((k : Int) - 2000) with
      | true =>
        rw [cond_true, z64_in (by omega) (by omega), bind_in, app_in (by simp; omega), bind_in, z64_succ (by omega), bind_in, if_pos rfl]
      | false =>
        rw [cond_false, z64_succ (by omega), bind_in, if_neg (by simp), List.append_nil]
    · simp only [clause_Propagate.b1, ltZ_eq]
      rw [decide_eq_false (by omega), cond_false]; rfl
/-- the opposites of literals -/
def negs (c : List Int) : List Int := (c.filter fun x => decide (Lit x)).map fun x => -x
theorem negs_snoc (c : List Int) (x : Int) : negs (c ++ [x]) = if Lit x then negs c ++ [-x] else negs c := by
  unfold negs
  rw [List.filter_append, fil1]
  by_cases h : Lit x
  · rw [decide_eq_true h, if_pos rfl, if_pos h, List.map_append]; rfl
  · rw [decide_eq_false h, if_neg (by simp), if_neg h, List.append_nil]
theorem mem_negs {c : List Int} {x : Int} : x ∈ negs c ↔ -x ∈ c ∧ Lit x := by
  unfold negs
  rw [List.mem_map]
  constructor
  · rintro ⟨y, hy, rfl⟩
    obtain ⟨h1, h2⟩ := List.mem_filter.1 hy
    rw [Int.neg_neg]
    exact ⟨h1, (of_decide_eq_true h2).neg⟩
  · rintro ⟨h1, h2⟩
    exact ⟨-x, List.mem_filter.2 ⟨h1, decide_eq_true h2.neg⟩, by omega⟩
theorem negs_len (c : List Int) : (negs c).length ≤ c.length := by
  unfold negs
  rw [List.length_map]
  exact List.length_filter_le _ _
theorem follows_eq {C : List (List Int)} {c : List Int} {b : (List (List Int)) × List (Int × List Int)} (hb : BaseOK C b) (hC : Ok C) (hc : c.length ≤ 1000000) : clause_base_follows b c = some (failB C (negs c)) := by
  unfold clause_base_follows
  have key : loopF (fun x => clause_base_follows.b1 c x.1 x.2) (0, []) = some (negs c) := by
    refine loopF_at (body := fun x => clause_base_follows.b1 c x.1 x.2) (b := negs c) (fun k => ((k : Int), negs (c.take k))) c.length rfl (fun k hk => ?_) ?_ (by omega)
    · have hnl := negs_len (c.take k)
      rw [List.length_take] at hnl
      simp only [clause_base_follows.b1, lt_n hk, cond_true, idx_nat hk, bind_in, lit_eq]
      rw [take_snoc c k hk, negs_snoc]
      by_cases hp : Lit c[k]
      · rw [decide_eq_true hp, cond_true, if_pos hp, z64_in (by unfold Lit at hp; omega) (by unfold Lit at hp; omega), bind_in, app_in (by simp; omega), bind_in, z64_nx hk (by omega), bind_in]
      · rw [decide_eq_false hp, cond_false, if_neg hp, z64_nx hk (by omega), bind_in]
    · simp only [clause_base_follows.b1, lt_e, cond_false, List.take_length]
  rw [key]
  · rw [bind_in]
    unfold clause_base_follows.j1
    obtain ⟨r, h1, h2⟩ := close_eq (s := negs c) hb hC (Nat.le_trans (negs_len c) hc)
    rw [h1, bind_in]
    congr 1
    rcases h2 with ⟨h3, h4⟩ | ⟨h3, h4, _⟩
    · rw [h3, failB_iff.2 h4]; rfl
    · rw [h3, failB_f.2 h4]; rfl
/-! ### proofs -/
/-- each clause follows from those before it -/
def allF : List (List Int) → List (List Int) → Prop
  | _, [] => True
  | C, c :: r => Fails C (negs c) ∧ allF (C ++ [c]) r
theorem allF_append : ∀ {L M C : List (List Int)}, allF C (L ++ M) ↔ allF C L ∧ allF (C ++ L) M
  | [], M, C => by simp [allF]
  | c :: L, M, C => by
    show (Fails C (negs c) ∧ allF (C ++ [c]) (L ++ M)) ↔ _
    rw [allF_append (L := L), show C ++ [c] ++ L = C ++ (c :: L) by simp]
    exact ⟨fun h => ⟨⟨h.1, h.2.1⟩, h.2.2⟩, fun h => ⟨h.1.1, h.1.2, h.2⟩⟩
theorem allF_one {C : List (List Int)} {c : List Int} : allF C [c] ↔ Fails C (negs c) := by simp [allF]
/-- has the last list a literal? -/
def lastLit (L : List (List Int)) : Bool := (L.getLast?.getD []).any fun x => decide (Lit x)
def PrfOK (C L : List (List Int)) : Prop := L ≠ [] ∧ lastLit L = false ∧ allF C L
noncomputable def prfF (C L : List (List Int)) : Int := if 4000 < L.length then 6 else if @decide (PrfOK C L) (Classical.propDecidable _) = true then 0 else 19
theorem prfF_yes {C L : List (List Int)} (h : L.length ≤ 4000) (h1 : PrfOK C L) : prfF C L = 0 := by
  unfold prfF
  rw [if_neg (by omega), if_pos (by rw [@decide_eq_true_iff _ (Classical.propDecidable _)]; exact h1)]
theorem prfF_no {C L : List (List Int)} (h : L.length ≤ 4000) (h1 : ¬ PrfOK C L) : prfF C L = 19 := by
  unfold prfF
  rw [if_neg (by omega), if_neg (by rw [@decide_eq_true_iff _ (Classical.propDecidable _)]; exact h1)]
theorem last_at {L : List (List Int)} (h : L ≠ []) : L.length - 1 < L.length ∧ L.getLast?.getD [] = L[L.length - 1]'(by have := List.length_pos_iff.2 h; omega) := by
  have := List.length_pos_iff.2 h
  refine ⟨by omega, ?_⟩
  rw [List.getLast?_eq_getElem?, List.getElem?_eq_getElem (by omega)]; rfl
theorem containsLit_eq {c : List Int} (hc : c.length ≤ 1000000) : slices_ContainsFunc_int_int_v3 c = some (c.any fun x => decide (Lit x)) := by
  have hb : ∀ k (hk : k < c.length), slices_IndexFunc_int_int_v4.b1 c (k : Int) = some (if (fun x => decide (Lit x)) c[k] = true then .inr (k : Int) else .inl ((k + 1 : Nat) : Int)) := fun k hk => by
    simp only [slices_IndexFunc_int_int_v4.b1, lt_n hk, cond_true, idx_nat hk, bind_in, lit_eq, z64_nx hk (by omega)]
    by_cases hp : Lit c[k] <;> simp [hp]
  have he : slices_IndexFunc_int_int_v4.b1 c (c.length : Int) = some (.inr (-1)) := by simp only [slices_IndexFunc_int_int_v4.b1, lt_e, cond_false]
  obtain ⟨i, h1, h2, _⟩ := loop_idx (body := fun x => slices_IndexFunc_int_int_v4.b1 c x) c (fun x => decide (Lit x)) hb he (by omega)
  unfold slices_ContainsFunc_int_int_v3
  rw [show slices_IndexFunc_int_int_v4 c = some i from h1, bind_in, h2]
theorem Proof_eq {l : List GClause} {L : List (List Int)} (h : Ok (lits l)) (hl : l.length ≤ 100000) (hL : ∀ c ∈ L, c.length ≤ 1000000) : clause_Proof l L = some (prfF (lits l) L) := by
  unfold clause_Proof
  simp only [ltZ_eq, eqZ_eq]
  by_cases h4 : L.length ≤ 4000
  · rw [decide_eq_false (by omega), cond_false]
    by_cases hn : L = []
    · rw [prfF_no h4 (fun h => h.1 hn), hn, decide_eq_true (by simp), cond_true, bind_in]; rfl
    · obtain ⟨h5, h6⟩ := last_at hn
      rw [decide_eq_false (by omega), cond_false, z64_pred (by omega) (by omega), bind_in, idx_nat h5, bind_in, containsLit_eq (hL _ (List.getElem_mem h5)), bind_in, bind_in]
      have hla : (L[L.length - 1].any fun x => decide (Lit x)) = lastLit L := by unfold lastLit; rw [h6]
      rw [hla]
      cases hll : lastLit L with
      | true =>
        rw [prfF_no h4 (fun h => by rw [h.2.1] at hll; cases hll)]; rfl
      | false =>
        unfold clause_Proof.j1
        rw [cond_false]
        obtain ⟨b, h1, h2⟩ := load_eq h
        rw [h1, bind_in]
        obtain ⟨r, h7, h8⟩ := loop_keep (body := fun x => clause_Proof.b1 L x.1 x.2.1 x.2.2) L (fun k s => BaseOK (lits l ++ L.take k) s ∧ allF (lits l) (L.take k)) (Q := fun r => r = prfF (lits l) L) (s0 := b)
          (by rw [List.take_zero, List.append_nil]; exact ⟨h2, trivial⟩)
          (fun k hk s hs => by
            obtain ⟨h9, h10⟩ := hs
            have hOk : Ok (lits l ++ L.take k) := by
              refine ⟨by simp only [List.length_append, List.length_map, List.length_take]; omega, fun c hc => ?_⟩
              rcases List.mem_append.1 hc with hc | hc
              · exact h.2 c hc
              · exact hL c (List.mem_of_mem_take hc)
            have hck := hL _ (List.getElem_mem hk)
            simp only [clause_Proof.b1, lt_n hk, cond_true, idx_nat hk, bind_in]
            rw [show ((s.1, s.2) : (List (List Int)) × List (Int × List Int)) = s from rfl, follows_eq h9 hOk hck, bind_in, bif_not]
            cases hf : failB (lits l ++ L.take k) (negs L[k]) with
            | true =>
              rw [cond_true]
              obtain ⟨b', h11, h12⟩ := add_eq (c := L[k]) h9 hOk.1 hck
              refine .inl ⟨b', ?_, ?_, ?_⟩
              · rw [h11, bind_in, z64_nx hk (by omega), bind_in]
              · rw [take_snoc L k hk, ← List.append_assoc]; exact h12
              · rw [take_snoc L k hk, allF_append]
                exact ⟨h10, allF_one.2 (failB_iff.1 hf)⟩
            | false =>
              rw [cond_false]
              refine .inr ⟨_, rfl, (prfF_no h4 fun hp => ?_).symm⟩
              have := hp.2.2
              rw [← List.take_append_drop k L, List.drop_eq_getElem_cons hk, allF_append] at this
              exact failB_f.1 hf this.2.1)
          (fun s hs => by
            refine ⟨0, by simp only [clause_Proof.b1, lt_e, cond_false], (prfF_yes h4 ⟨hn, hll, ?_⟩).symm⟩
            have := hs.2
            rwa [List.take_length] at this)
          (by omega)
        rw [← h8]; exact h7
  · rw [decide_eq_true (by omega), cond_true]
    unfold prfF
    rw [if_pos (by omega)]
end Go.Proofs.Ythibbellkcdodaa
