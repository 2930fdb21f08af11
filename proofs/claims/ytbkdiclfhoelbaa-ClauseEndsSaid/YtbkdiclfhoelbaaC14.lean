/-
  Layer 26 (clause): ClauseEnds.
-/
import Derived.Test.YtbkdiclfhoelbaaC13
namespace Go.Proofs.Ytbkdiclfhoelbaa
open Go.Lad
set_option linter.unusedVariables false
set_option linter.unusedSimpArgs false
set_option linter.unusedSectionVars false
theorem last_loop {L : List (List Int)} {k : Nat} (hk : k < L.length) (hl : L.length ≤ 1000000) (hc : ∀ c ∈ L, c.length ≤ 1000000) :
    loopF (fun x => ladinglaw26_ClauseEnds.b1 L ((k + 1 : Nat) : Int) x.1 x.2) (true, 0) = some (!lastLit (L.take (k + 1))) := by
  have hck := hc _ (List.getElem_mem hk)
  have hla : lastLit (L.take (k + 1)) = L[k].any fun x => decide (Lit x) := by
    unfold lastLit
    rw [take_snoc L k hk, List.getLast?_append]; simp
  rw [hla]
  have hz : z64 (((k + 1 : Nat) : Int) - 1) = some (k : Int) := z64_p (by omega) (by omega) (by omega)
  refine loopF_at (body := fun x => ladinglaw26_ClauseEnds.b1 L ((k + 1 : Nat) : Int) x.1 x.2) (fun j => (!(L[k].take j).any (fun x => decide (Lit x)), (j : Int))) L[k].length rfl (fun j hj => ?_) ?_ (by omega)
  · simp only [ladinglaw26_ClauseEnds.b1, hz, bind_in, idx_nat hk, lt_n hj, cond_true, idx_nat hj, Lit_eq, z64_nx hj (by omega)]
    rw [take_snoc _ j hj, List.any_append]
    cases (L[k].take j).any (fun x => decide (Lit x)) with
    | true => rfl
    | false => simp
  · simp only [ladinglaw26_ClauseEnds.b1, hz, bind_in, idx_nat hk, lt_e, cond_false, List.take_length]
theorem lastLit_drop {L M : List (List Int)} (h : M ≠ []) : lastLit (L ++ M) = lastLit M := by
  unfold lastLit
  rw [List.getLast?_append]
  cases hm : M.getLast? with
  | none => exact absurd (List.getLast?_eq_none_iff.1 hm) h
  | some c => rfl
theorem ends_true (l : List GClause) (L : List (List Int)) (k : Int) : ladinglaw26_ClauseEnds l L k = some true := by
  unfold ladinglaw26_ClauseEnds
  rw [small_true, bind_in]
  obtain ⟨b, h1, h2⟩ := light_eq (l := l) (n := 40) (by omega)
  have h1 : ladinglaw26_light l 40 = some b := h1
  rw [h1, bind_in]
  cases b with
  | false =>
    simp only [Bool.not_false, cond_true, bind_in, ladinglaw26_ClauseEnds.j4]
    rw [h1, bind_in, Bool.not_false, cond_true]
  | true =>
    have h2 := h2 rfl
    have hok := ok8 (by omega) h2
    obtain ⟨b, h4, h5⟩ := few_eq (l := L) (n := 10) (by omega)
    have h4 : ladinglaw26_few L 10 = some b := h4
    rw [Bool.not_true, cond_false, h4, bind_in]
    cases b with
    | false =>
      simp only [Bool.not_false, cond_true, bind_in, ladinglaw26_ClauseEnds.j4]
      rw [h1, bind_in, Bool.not_true, cond_false, h4, bind_in, Bool.not_false]
    | true =>
      have h5 := h5 rfl
      have hL : ∀ c ∈ L, c.length ≤ 1000000 := fun c hc => by have := h5.2 c hc; omega
      have hL4 : L.length ≤ 4000 := by omega
      rw [Bool.not_true, cond_false, Proof_eq hok (by omega) (fun c hc => by cases hc), bind_in, prfF_no (C := lits l) (L := []) (by simp) (fun h => h.1 rfl), bind_in, eqZ_eq, decide_eq_true rfl, Bool.not_true]
      simp only [ladinglaw26_ClauseEnds.j4, cond_false, eqZ_eq]
      rw [app_in (by simp only [List.length_nil]; omega), bind_in, List.nil_append, app_in (by simp only [List.length_singleton]; omega), bind_in]
      have hok2 : Ok (lits (l ++ [([], 0, 0, 0)])) := by
        rw [lits_snoc]
        refine ⟨by simp only [List.length_append, List.length_map, List.length_singleton]; omega, fun c hc => ?_⟩
        rcases List.mem_append.1 hc with hc | hc
        · exact hok.2 c hc
        · rw [List.mem_singleton.1 hc, List.length_nil]; omega
      have hP0 : PrfOK (lits l ++ [[]]) [[]] := ⟨by simp, rfl, .inl ⟨[], by simp, fun y hy => by cases hy⟩, trivial⟩
      rw [Proof_eq hok2 (by simp only [List.length_append, List.length_singleton]; omega) (fun c hc => by rw [List.mem_singleton.1 hc, List.length_nil]; omega), bind_in, lits_snoc, prfF_yes (by simp) hP0, decide_eq_true rfl, Bool.not_true, cond_false]
      rw [Proof_eq hok (by omega) hL, bind_in]
      by_cases hp : prfF (lits l) L = 0
      · have hP := (prfF_zero hL4).1 hp
        obtain ⟨hn, hll, hall⟩ := hP
        have hpos := List.length_pos_iff.2 hn
        rw [decide_eq_true hp, Bool.not_true, cond_false, bind_in, decide_eq_false (by omega)]
        simp only [ladinglaw26_ClauseEnds.j3, cond_false]
        obtain ⟨M, hM⟩ : ∃ M, L.length = M + 1 := ⟨L.length - 1, by omega⟩
        rw [z64_p (show (L.length : Int) - 1 = (M : Int) by omega) (by omega) (by omega), bind_in]
        have hfst : (bif ltZ 0 (M : Int) then loopF (fun x => ladinglaw26_ClauseEnds.b1 L (M : Int) x.1 x.2) (true, 0) else some false) = some (decide (prfF (lits l) (L.take M) = 0)) := by
          rw [bif_ltZ]
          cases M with
          | zero =>
            rw [if_neg (by omega), List.take_zero, prfF_no (by simp) (fun h => h.1 rfl)]; rfl
          | succ M =>
            rw [if_pos (by omega), last_loop (by omega) (by omega) hL]
            congr 1
            rw [Bool.eq_iff_iff, decide_eq_true_iff, prfF_zero (by rw [List.length_take]; omega), Bool.not_eq_true']
            constructor
            · intro h
              refine ⟨fun e => ?_, h, ?_⟩
              · have := congrArg List.length e
                rw [List.length_take, List.length_nil] at this; omega
              · rw [← List.take_append_drop (M + 1) L, allF_append] at hall
                exact hall.1
            · exact fun h => h.2.1
        rw [hfst, bind_in]
        simp only [ladinglaw26_ClauseEnds.j2]
        rw [cut_in (by omega) (by omega) (by omega), bind_in, Int.toNat_natCast, show (0 : Int).toNat = 0 from rfl, List.drop_zero, Proof_eq hok (by omega) (fun c hc => hL c (List.mem_of_mem_take hc)), bind_in, eqZ_eq, beq_self_eq_true, Bool.not_true, cond_false]
        simp only [ltZ_eq, bif_dec]
        by_cases hk0 : k < 0
        · rw [if_pos hk0, bind_in]; simp only [ladinglaw26_ClauseEnds.j1, cond_true]
        rw [if_neg hk0, bind_in]
        by_cases hkM : (M : Int) < k
        · rw [decide_eq_true hkM]; simp only [ladinglaw26_ClauseEnds.j1, cond_true]
        rw [decide_eq_false hkM]
        obtain ⟨K, rfl⟩ : ∃ K : Nat, k = K := ⟨k.toNat, by omega⟩
        have hK : K < L.length := by omega
        simp only [ladinglaw26_ClauseEnds.j1, cond_false]
        rw [cut_in (by omega) (by omega) (by omega), bind_in, Int.toNat_natCast, show (0 : Int).toNat = 0 from rfl, List.drop_zero, app_in (by simp only [List.length_nil, List.length_take]; omega), bind_in, List.nil_append, idx_nat hK, bind_in,
          app_in (by simp only [List.length_singleton, List.length_take]; omega), bind_in, cond_true, cut_in (by omega) (by omega) (by omega), bind_in, Int.toNat_natCast, Int.toNat_natCast, List.take_length,
          app_in (by simp only [List.length_append, List.length_singleton, List.length_take, List.length_drop]; omega), bind_in]
        have hmem : ∀ c ∈ L.take K ++ [L[K]] ++ L.drop K, c ∈ L := fun c hc => by
          rcases List.mem_append.1 hc with hc | hc
          · rcases List.mem_append.1 hc with hc | hc
            · exact List.mem_of_mem_take hc
            · rw [List.mem_singleton.1 hc]; exact List.getElem_mem hK
          · exact List.mem_of_mem_drop hc
        have hPK : PrfOK (lits l) (L.take K ++ [L[K]] ++ L.drop K) := by
          have hd : L.drop K ≠ [] := fun e => by
            have := congrArg List.length e
            rw [List.length_drop, List.length_nil] at this; omega
          refine ⟨by simp [hd], ?_, ?_⟩
          · rw [lastLit_drop hd, ← lastLit_drop (L := L.take K) hd, List.take_append_drop]; exact hll
          · rw [← List.take_append_drop K L, allF_append] at hall
            obtain ⟨ha, hb⟩ := hall
            rw [allF_append, allF_append]
            refine ⟨⟨ha, ?_⟩, ?_⟩
            · rw [List.drop_eq_getElem_cons hK] at hb
              exact allF_one.2 hb.1
            · exact allF_sim hb (Sim.of_sub fun c hc => by
                rw [← List.append_assoc]
                exact List.mem_append_left _ hc)
        rw [Proof_eq hok (by omega) (fun c hc => hL c (hmem c hc)), bind_in, prfF_yes ?_ hPK]
        · rw [eqZ_eq, decide_eq_true rfl]
        · simp only [List.length_append, List.length_singleton, List.length_take, List.length_drop]; omega
      · rw [decide_eq_false hp, Bool.not_false, cond_true, bind_in]
        simp only [ladinglaw26_ClauseEnds.j3, cond_true]
end Go.Proofs.Ytbkdiclfhoelbaa
