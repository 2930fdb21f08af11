/-
  Layer 26 (clause): close.
-/
import Derived.Test.YtbkdiclfhoelbaaC4
namespace Go.Proofs.Ytbkdiclfhoelbaa
open Go.Lad
set_option linter.unusedVariables false
set_option linter.unusedSimpArgs false
set_option linter.unusedSectionVars false
theorem idx0 {α : Type} (x : α) (r : List α) : idx (x :: r) 0 = some x := idx_at (by omega) rfl
theorem cut1 {α : Type} (x : α) (r : List α) : cut (x :: r) 1 ((x :: r).length : Int) = some r := by
  rw [cut_in (by omega) (by simp only [List.length_cons]; omega) (by omega), Int.toNat_natCast, List.take_length]; rfl
theorem ltz_cons {α : Type} (x : α) (r : List α) : ltZ 0 ((x :: r).length : Int) = true := by
  rw [ltZ_eq, decide_eq_true (by simp only [List.length_cons]; omega)]
theorem z64_lit {x : Int} (h : Lit x) : z64 ((2000 : Int) + x) = some (2000 + x) := z64_p rfl (by unfold Lit at h; omega) (by unfold Lit at h; omega)
theorem z64_litn {x : Int} (h : Lit x) : z64 ((2000 : Int) - x) = some (2000 + -x) := z64_p (by omega) (by unfold Lit at h; omega) (by unfold Lit at h; omega)
theorem vneed_lit {x : Int} (h : Lit x) : vNeed (2000 + x) 4001 = some () := by
  unfold vNeed
  rw [ltZ_eq, decide_eq_true (by unfold Lit at h; omega)]; rfl
theorem main_eq {C : List (List Int)} {s : List Int} {b : (List (List Int)) × List (Int × List Int)} {todo : List Int} (hb : BaseOK C b) (hC : Ok C)
    (h0 : Inv C s (List.replicate 4001 false) todo) (hn : todo.length ≤ 1300000) : ∃ r, clause_base_close.j2 b todo = some r ∧ CloseOK C s r := by
  unfold clause_base_close.j2
  refine loopF_less (body := fun x => clause_base_close.b3 b x.1 x.2) (fun y => Inv C s y.1 y.2 ∧ y.2.length + frees y.1 * (C.length + 1) ≤ 900000000) (fun y => y.2.length + frees y.1 * (C.length + 1)) ⟨h0, ?_⟩ (fun y hy => ?_) ?_
  · show todo.length + frees (List.replicate 4001 false) * (C.length + 1) ≤ _
    have h1 : frees (List.replicate 4001 false) ≤ 4001 := Nat.le_trans (frees_le _) (by rw [List.length_replicate]; exact Nat.le_refl _)
    have h2 := Nat.mul_le_mul h1 (show C.length + 1 ≤ 200001 by have := hC.1; omega)
    omega
  · obtain ⟨v, t⟩ := y
    obtain ⟨hI, hm⟩ := hy
    simp only at hI hm
    cases t with
    | nil =>
      refine .inr ⟨(true, v), ?_, .inr ⟨rfl, hI.done.1, hI.len, hI.zero, hI.done.2⟩⟩
      show clause_base_close.b3 b v [] = _
      simp only [clause_base_close.b3]
      rw [show ltZ 0 ((([] : List Int).length : Nat) : Int) = false by rw [ltZ_eq, decide_eq_false (by simp)], cond_false]
    | cons x rest =>
      have hDx := hI.dto x (by simp)
      have hx := hDx.lit
      have hstep : clause_base_close.b3 b v (x :: rest) = bif ins v x then some (.inl (v, rest)) else
          bif ins (v.set (2000 + x).toNat true) (-x) then some (.inr (false, v.set (2000 + x).toNat true)) else
          loopF (fun y => clause_base_close.b2 b v (2000 + x) (-x) y.1 y.2) (0, rest) := by
        simp only [clause_base_close.b3, ltz_cons, cond_true, idx0, bind_in, cut1, z64_lit hx, z64_litn hx, vneed_lit hx, vneed_lit hx.neg, idx_ins hI.len hx rfl,
          idx_ins (v := v.set (2000 + x).toNat true) (by rw [List.length_set]; exact hI.len) hx.neg rfl, z64_p (show -x = -x from rfl) (by unfold Lit at hx; omega) (by unfold Lit at hx; omega)]
      show (∃ y, clause_base_close.b3 b v (x :: rest) = _ ∧ _) ∨ _
      rw [hstep]
      rw [List.length_cons] at hm
      cases hin : ins v x with
      | true =>
        rw [cond_true]
        refine .inl ⟨_, rfl, ⟨⟨hI.len, hI.zero, hI.din, fun y hy => hI.dto y (List.mem_cons_of_mem _ hy), ?_, hI.ne, ?_, hI.con, ?_⟩, ?_⟩, ?_⟩
        · intro y hy hl
          rcases hI.st y hy hl with h | h
          · exact .inl h
          · rcases List.mem_cons.1 h with rfl | h
            · exact .inl hin
            · exact .inr h
        · intro c hc y hy
          rcases hI.one c hc y hy with h | h
          · exact .inl h
          · rcases List.mem_cons.1 h with rfl | h
            · exact .inl hin
            · exact .inr h
        · intro c hc hy
          obtain ⟨z, h1, h2, h3⟩ := hI.seen c hc hy
          refine ⟨z, h1, h2, fun h => ?_⟩
          rcases h3 h with h | h
          · exact .inl h
          · rcases List.mem_cons.1 h with rfl | h
            · exact .inl hin
            · exact .inr h
        · show rest.length + frees v * (C.length + 1) ≤ _
          omega
        · show rest.length + frees v * (C.length + 1) < (x :: rest).length + frees v * (C.length + 1)
          rw [List.length_cons]; omega
      | false =>
        rw [cond_false]
        have hfr := frees_ins hI.len hx hin
        have hxx : -x ≠ x := by unfold Lit at hx; omega
        have hset : ∀ y, Lit y → ins (v.set (2000 + x).toNat true) y = (decide (y = x) || ins v y) := fun y hy => ins_set hI.len hx hy
        have hzero : ins (v.set (2000 + x).toNat true) 0 = ins v 0 := ins_zero hI.len hx
        have hdin : ∀ y, Lit y → ins (v.set (2000 + x).toNat true) y = true → Der C s y := fun y hy h => by
          rw [hset y hy] at h
          by_cases e : y = x
          · rw [e]; exact hDx
          · rw [decide_eq_false e, Bool.false_or] at h
            exact hI.din y hy h
        have hlen : (v.set (2000 + x).toNat true).length = 4001 := by rw [List.length_set]; exact hI.len
        cases hneg : ins (v.set (2000 + x).toNat true) (-x) with
        | true =>
          rw [cond_true]
          exact .inr ⟨_, rfl, .inl ⟨rfl, .inr ⟨x, hDx, hdin _ hx.neg hneg⟩⟩⟩
        | false =>
          rw [cond_false]
          obtain ⟨r, hr, h | h⟩ := inner_eq hb hC hx hI.len hdin (fun y hy => hI.dto y (List.mem_cons_of_mem _ hy)) (show rest.length ≤ 1000000000 by omega)
          · obtain ⟨t, rfl, h1, h2, h3, h4⟩ := h
            rw [hr]
            have hvx : ins (v.set (2000 + x).toNat true) x = true := by rw [hset x hx, decide_eq_true rfl]; rfl
            have hup : ∀ y, Lit y → ins v y = true → ins (v.set (2000 + x).toNat true) y = true := fun y hy h => by rw [hset y hy, h, Bool.or_true]
            have hmeas : t.length + frees (v.set (2000 + x).toNat true) * (C.length + 1) < rest.length + 1 + frees v * (C.length + 1) := by
              rw [← hfr, Nat.succ_mul]; omega
            refine .inl ⟨_, rfl, ⟨⟨hlen, hzero.trans hI.zero, hdin, h1, ?_, hI.ne, ?_, ?_, ?_⟩, ?_⟩, ?_⟩
            · intro y hy hl
              rcases hI.st y hy hl with h | h
              · exact .inl (hup y hl h)
              · rcases List.mem_cons.1 h with rfl | h
                · exact .inl hvx
                · exact .inr (h2 y h)
            · intro c hc y hy
              have hl : Lit y := (mem_own.1 (hy ▸ (by simp : y ∈ [y]))).2
              rcases hI.one c hc y hy with h | h
              · exact .inl (hup y hl h)
              · rcases List.mem_cons.1 h with rfl | h
                · exact .inl hvx
                · exact .inr (h2 y h)
            · intro y hy h
              show ins (v.set (2000 + x).toNat true) (-y) = false
              by_cases e : y = x
              · rw [e]; exact hneg
              · have h : ins (v.set (2000 + x).toNat true) y = true := h
                rw [hset y hy, decide_eq_false e, Bool.false_or] at h
                rw [hset _ hy.neg, hI.con y hy h, Bool.or_false]
                refine decide_eq_false fun e2 => ?_
                have : y = -x := by omega
                rw [this] at h
                rw [hup _ hx.neg h] at hneg; cases hneg
            · intro c hc hy
              by_cases hxc : -x ∈ own c
              · exact h4 c hc hxc
              · have hne : ∀ y ∈ own c, ins (v.set (2000 + x).toNat true) (-y) = ins v (-y) := fun y hy => by
                  rw [hset _ (mem_own.1 hy).2.neg, decide_eq_false fun e => hxc ?_, Bool.false_or]
                  rwa [show -x = y by omega]
                obtain ⟨y, hy1, hy2⟩ := hy
                have hy2 : ins (v.set (2000 + x).toNat true) (-y) = true := hy2
                rw [hne y hy1] at hy2
                obtain ⟨z, h5, h6, h7⟩ := hI.seen c hc ⟨y, hy1, hy2⟩
                refine ⟨z, h5, by rw [← h6]; exact hne z h5, fun h => ?_⟩
                rcases h7 (fun y hy hz => by rw [← hne y hy]; exact h y hy hz) with h | h
                · exact .inl (hup z (mem_own.1 h5).2 h)
                · rcases List.mem_cons.1 h with rfl | h
                  · exact .inl hvx
                  · exact .inr (h2 z h)
            · show t.length + frees (v.set (2000 + x).toNat true) * (C.length + 1) ≤ _
              omega
            · show t.length + frees (v.set (2000 + x).toNat true) * (C.length + 1) < (x :: rest).length + frees v * (C.length + 1)
              rw [List.length_cons]; exact hmeas
          · obtain ⟨w, rfl, hf⟩ := h
            rw [hr]
            exact .inr ⟨_, rfl, .inl ⟨rfl, hf⟩⟩
  · show todo.length + frees (List.replicate 4001 false) * (C.length + 1) < _
    have h1 : frees (List.replicate 4001 false) ≤ 4001 := Nat.le_trans (frees_le _) (by rw [List.length_replicate]; exact Nat.le_refl _)
    have h2 := Nat.mul_le_mul h1 (show C.length + 1 ≤ 200001 by have := hC.1; omega)
    omega
theorem close_eq {C : List (List Int)} {s : List Int} {b : (List (List Int)) × List (Int × List Int)} (hb : BaseOK C b) (hC : Ok C) (hs : s.length ≤ 1000000) :
    ∃ r, clause_base_close b s = some r ∧ CloseOK C s r := by
  unfold clause_base_close
  rw [clone_eq hs, bind_in, delete_eq hs, bind_in]
  have hfl : (s.filter fun x => decide (Lit x)).length ≤ s.length := List.length_filter_le _ _
  have hb0 : b.1.length = C.length := by rw [hb.1, List.length_map]
  have h200 := hC.1
  obtain ⟨r, hr, hq⟩ := loop_keep (body := fun x => clause_base_close.b1 b x.1 x.2) C
    (fun k t => (∀ y ∈ t, Der C s y) ∧ (∀ x ∈ s, Lit x → x ∈ t) ∧ t.length ≤ s.length + k ∧ ∀ j (hj : j < C.length), j < k → own C[j] ≠ [] ∧ ∀ x, own C[j] = [x] → x ∈ t)
    (Q := fun r => (∃ t, r = .inl t ∧ Inv C s (List.replicate 4001 false) t ∧ t.length ≤ 1300000) ∨ ∃ w, r = .inr (false, w) ∧ Fails C s)
    (s0 := s.filter fun x => decide (Lit x))
    ⟨fun y hy => .start (List.mem_filter.1 hy).1 (of_decide_eq_true (List.mem_filter.1 hy).2), fun x hx hl => List.mem_filter.2 ⟨hx, decide_eq_true hl⟩, hfl, fun j _ hj => by omega⟩
    (fun k hk t hI => by
      obtain ⟨h1, h2, h3, h4⟩ := hI
      have hkb : k < b.1.length := by omega
      have hbk : b.1[k] = own C[k] := by
        have : b.1[k]? = some (own C[k]) := by rw [hb.1, List.getElem?_map, List.getElem?_eq_getElem hk]; rfl
        rw [List.getElem?_eq_getElem hkb] at this
        exact Option.some.inj this
      have hmem := List.getElem_mem hk
      cases ho : own C[k] with
      | nil =>
        refine .inr ⟨.inr (false, List.replicate 4001 false), ?_, .inr ⟨_, rfl, .inl ⟨C[k], hmem, fun y hy hl => ?_⟩⟩⟩
        · simp only [clause_base_close.b1, lt_n hkb, cond_true, idx_nat hkb, bind_in, hbk, ho, eqZ_eq]
          rw [decide_eq_true (by simp), cond_true]
        · have : y ∈ own C[k] := mem_own.2 ⟨hy, hl⟩
          rw [ho] at this; cases this
      | cons x r =>
        cases r with
        | nil =>
          refine .inl ⟨t ++ [x], ?_, ?_, ?_, ?_, ?_⟩
          · simp only [clause_base_close.b1, lt_n hkb, cond_true, idx_nat hkb, bind_in, hbk, ho, eqZ_eq]
            rw [decide_eq_false (by simp), cond_false, decide_eq_true (by simp), cond_true, idx0, bind_in, app_in (by simp; omega), bind_in, z64_nx hk (by omega), bind_in]
          · intro y hy
            rcases List.mem_append.1 hy with hy | hy
            · exact h1 y hy
            · rw [List.mem_singleton.1 hy]
              have hxo : x ∈ own C[k] := by rw [ho]; simp
              refine .unit hmem (mem_own.1 hxo).1 (mem_own.1 hxo).2 fun y hy hl hne => ?_
              have : y ∈ own C[k] := mem_own.2 ⟨hy, hl⟩
              rw [ho] at this
              exact absurd (List.mem_singleton.1 this) hne
          · exact fun y hy hl => List.mem_append_left _ (h2 y hy hl)
          · simp; omega
          · intro j hj hjk
            rcases Nat.lt_or_ge j k with hlt | hge
            · exact ⟨(h4 j hj hlt).1, fun y hy => List.mem_append_left _ ((h4 j hj hlt).2 y hy)⟩
            · have : j = k := by omega
              subst this
              rw [ho]
              exact ⟨by simp, fun y hy => by injection hy with hy; rw [hy]; simp⟩
        | cons y r =>
          refine .inl ⟨t, ?_, h1, h2, by omega, ?_⟩
          · simp only [clause_base_close.b1, lt_n hkb, cond_true, idx_nat hkb, bind_in, hbk, ho, eqZ_eq]
            rw [decide_eq_false (by simp only [List.length_cons]; omega), cond_false, decide_eq_false (by simp only [List.length_cons]; omega), cond_false, z64_nx hk (by omega), bind_in]
          · intro j hj hjk
            rcases Nat.lt_or_ge j k with hlt | hge
            · exact h4 j hj hlt
            · have : j = k := by omega
              subst this
              rw [ho]
              exact ⟨by simp, fun y hy => by injection hy with h1 h2; cases h2⟩)
    (fun t hI => by
      obtain ⟨h1, h2, h3, h4⟩ := hI
      have hC' := hb0
      refine ⟨.inl t, ?_, .inl ⟨t, rfl, ⟨by rw [List.length_replicate], ins_rep 0, fun x _ h => (by rw [ins_rep] at h; cases h), h1, fun x hx hl => .inr (h2 x hx hl), fun c hc => ?_, fun c hc x hx => ?_, fun x _ h => (by rw [ins_rep] at h; cases h), fun c hc h => ?_⟩, by omega⟩⟩
      · simp only [clause_base_close.b1]
        rw [hb0, lt_e, cond_false]
      · obtain ⟨j, hj, rfl⟩ := List.mem_iff_getElem.1 hc
        exact (h4 j hj hj).1
      · obtain ⟨j, hj, rfl⟩ := List.mem_iff_getElem.1 hc
        exact .inr ((h4 j hj hj).2 x hx)
      · obtain ⟨y, _, h⟩ := h
        rw [ins_rep] at h; cases h)
    (by omega)
  rw [hr, bind_in]
  rcases hq with ⟨t, rfl, h1, h2⟩ | ⟨w, rfl, h⟩
  · exact main_eq hb hC h1 h2
  · exact ⟨_, rfl, .inl ⟨rfl, h⟩⟩
end Go.Proofs.Ytbkdiclfhoelbaa
