/-
  Layer 26 (clause): ClauseTurns.
-/
import Derived.Test.YtbkdiclfhoelbaaC10
namespace Go.Proofs.Ytbkdiclfhoelbaa
open Go.Lad
set_option linter.unusedVariables false
set_option linter.unusedSimpArgs false
set_option linter.unusedSectionVars false
/-- each clause of the one is, as a set, one of the other -/
def Sim (C C' : List (List Int)) : Prop := ∀ c ∈ C, ∃ c' ∈ C', ∀ x, x ∈ c ↔ x ∈ c'
theorem Sim.snoc {C C' : List (List Int)} (h : Sim C C') (c : List Int) : Sim (C ++ [c]) (C' ++ [c]) := fun d hd => by
  rcases List.mem_append.1 hd with hd | hd
  · obtain ⟨e, h1, h2⟩ := h d hd
    exact ⟨e, List.mem_append_left _ h1, h2⟩
  · exact ⟨c, by simp, fun x => by rw [List.mem_singleton.1 hd]⟩
theorem Sim.of_sub {C C' : List (List Int)} (h : ∀ c ∈ C, c ∈ C') : Sim C C' := fun c hc => ⟨c, h c hc, fun _ => Iff.rfl⟩
theorem Fails.sim {C C' : List (List Int)} {s : List Int} (h : Fails C s) (hs : Sim C C') : Fails C' s := h.sub (fun x hx hl => .start hx hl) hs
theorem Der.sim {C C' : List (List Int)} {s : List Int} {x : Int} (h : Der C s x) (hs : Sim C C') : Der C' s x := h.sub (fun x hx hl => .start hx hl) hs
theorem allF_sim : ∀ {L C C' : List (List Int)}, allF C L → Sim C C' → allF C' L
  | [], _, _, _, _ => trivial
  | c :: L, C, C', h, hs => ⟨h.1.sim hs, allF_sim h.2 (hs.snoc c)⟩
theorem prfF_congr {C C' L L' : List (List Int)} (hl : L.length ≤ 4000) (hl' : L'.length ≤ 4000) (h : PrfOK C L ↔ PrfOK C' L') : prfF C L = prfF C' L' := by
  by_cases hp : PrfOK C L
  · rw [prfF_yes hl hp, prfF_yes hl' (h.1 hp)]
  · rw [prfF_no hl hp, prfF_no hl' fun h' => hp (h.2 h')]
theorem prfF_zero {C L : List (List Int)} (hl : L.length ≤ 4000) : prfF C L = 0 ↔ PrfOK C L := by
  constructor
  · intro h
    refine Classical.byContradiction fun hn => ?_
    rw [prfF_no hl hn] at h
    omega
  · exact prfF_yes hl
theorem propF_sim {C C' : List (List Int)} {s : List Int} (h1 : Sim C C') (h2 : Sim C' C) : propF C s = propF C' s := by
  have hf : failB C s = failB C' s := by
    rw [Bool.eq_iff_iff, failB_iff, failB_iff]
    exact ⟨fun h => h.sim h1, fun h => h.sim h2⟩
  have hd : derB C s = derB C' s := funext fun x => by
    rw [Bool.eq_iff_iff, derB_iff, derB_iff]
    exact ⟨fun h => h.sim h1, fun h => h.sim h2⟩
  unfold propF clos
  rw [hf, hd]
theorem failB_sim {C C' : List (List Int)} {s : List Int} (h1 : Sim C C') (h2 : Sim C' C) : failB C s = failB C' s := by
  rw [Bool.eq_iff_iff, failB_iff, failB_iff]
  exact ⟨fun h => h.sim h1, fun h => h.sim h2⟩
/-- the clauses, from another one on, each backwards -/
def turnF (l : List GClause) (b k : Nat) : List GClause := (List.range k).map fun i => let c := l.getD ((i + b) % l.length) ([], 0, 0, 0); (c.1.reverse, c.2)
theorem turn_sim1 {l : List GClause} {b : Nat} : Sim (lits (turnF l b l.length)) (lits l) := fun c hc => by
  obtain ⟨d, hd, rfl⟩ := List.mem_map.1 hc
  unfold turnF at hd
  obtain ⟨i, hi, rfl⟩ := List.mem_map.1 hd
  have hi := List.mem_range.1 hi
  have hm : (i + b) % l.length < l.length := Nat.mod_lt _ (by omega)
  refine ⟨l[(i + b) % l.length].1, List.mem_map.2 ⟨_, List.getElem_mem hm, rfl⟩, fun x => ?_⟩
  rw [List.getD_eq_getElem?_getD, List.getElem?_eq_getElem hm]
  simp
theorem turn_sim2 {l : List GClause} {b : Nat} (hb : b ≤ l.length) : Sim (lits l) (lits (turnF l b l.length)) := fun c hc => by
  obtain ⟨d, hd, rfl⟩ := List.mem_map.1 hc
  obtain ⟨j, hj, rfl⟩ := List.mem_iff_getElem.1 hd
  have hex : ∃ i, i < l.length ∧ (i + b) % l.length = j := by
    by_cases h : b ≤ j
    · exact ⟨j - b, by omega, by rw [show j - b + b = j by omega]; exact Nat.mod_eq_of_lt hj⟩
    · exact ⟨j + l.length - b, by omega, by rw [show j + l.length - b + b = j + l.length by omega, Nat.add_mod_right]; exact Nat.mod_eq_of_lt hj⟩
  obtain ⟨i, hi, he⟩ := hex
  refine ⟨l[j].1.reverse, List.mem_map.2 ⟨(l[j].1.reverse, l[j].2), ?_, rfl⟩, fun x => by simp⟩
  unfold turnF
  refine List.mem_map.2 ⟨i, List.mem_range.2 hi, ?_⟩
  rw [he, List.getD_eq_getElem?_getD, List.getElem?_eq_getElem hj]; rfl
theorem turn_len {l : List GClause} {b : Nat} : (turnF l b l.length).length = l.length := by unfold turnF; simp
theorem turn_ok {l : List GClause} {b : Nat} (h : l.length ≤ 40 ∧ ∀ c ∈ l, c.1.length ≤ 8) : Ok (lits (turnF l b l.length)) := by
  refine ok_of (by rw [turn_len]; omega) fun c hc => ?_
  unfold turnF at hc
  obtain ⟨i, hi, rfl⟩ := List.mem_map.1 hc
  have hi := List.mem_range.1 hi
  have hm : (i + b) % l.length < l.length := Nat.mod_lt _ (by omega)
  rw [List.getD_eq_getElem?_getD, List.getElem?_eq_getElem hm]
  simp only [Option.getD_some, List.length_reverse]
  have := h.2 _ (List.getElem_mem hm)
  omega
theorem rem_eq {a b : Nat} (hb : 0 < b) (hl : b ≤ 1000000) : remZ .i64 (a : Int) (b : Int) = some ((a % b : Nat) : Int) := by
  have hm : a % b < b := Nat.mod_lt _ hb
  have e : ((a : Int).tmod (b : Int)) = ((a % b : Nat) : Int) := rfl
  unfold remZ
  rw [e, eqZ_eq, decide_eq_false (by omega), Bool.not_false, Bool.true_and]
  generalize a % b = y at *
  have : inZ .i64 (y : Int) = true := by
    unfold inZ
    rw [leZ_eq, leZ_eq, Bool.and_eq_true, decide_eq_true_eq, decide_eq_true_eq]
    exact ⟨by show (-9223372036854775808 : Int) ≤ _; omega, by show _ ≤ (9223372036854775807 : Int); omega⟩
  rw [this]; rfl
theorem turn_eq {l : List GClause} {b : Nat} (h : l.length ≤ 40 ∧ ∀ c ∈ l, c.1.length ≤ 8) (hb : b ≤ l.length) : loopF (fun x => ladinglaw26_ClauseTurns.b2 l (b : Int) x.1 x.2) (0, []) = some (turnF l b l.length) := by
  obtain ⟨h1, h2⟩ := h
  refine loopF_at (body := fun x => ladinglaw26_ClauseTurns.b2 l (b : Int) x.1 x.2) (fun k => ((k : Int), turnF l b k)) l.length rfl (fun k hk => ?_) ?_ (by omega)
  · have hm : (k + b) % l.length < l.length := Nat.mod_lt _ (by omega)
    have hc := h2 _ (List.getElem_mem hm)
    have hstep : turnF l b (k + 1) = turnF l b k ++ [(l[(k + b) % l.length].1.reverse, l[(k + b) % l.length].2)] := by
      unfold turnF
      rw [List.range_succ, List.map_append, List.map_singleton, List.getD_eq_getElem?_getD, List.getElem?_eq_getElem hm]; rfl
    have htl : (turnF l b k).length = k := by unfold turnF; simp
    simp only [ladinglaw26_ClauseTurns.b2, lt_n hk, cond_true]
    rw [z64_add (by omega), bind_in, rem_eq (by omega) (by omega), bind_in, idx_nat hm, bind_in, z64_in (by omega) (by omega), bind_in, hstep]
    generalize l[(k + b) % l.length] = c at *
    refine loopF_at (body := fun x => ladinglaw26_ClauseTurns.b1 (k : Int) (turnF l b k) c x.1 x.2) (fun j => ((c.1.length : Int) - 1 - (j : Int), c.1.reverse.take j)) c.1.length (by simp) (fun j hj => ?_) ?_ (by omega)
    · have hj2 : c.1.length - 1 - j < c.1.length := by omega
      have hj3 : j < c.1.reverse.length := by rw [List.length_reverse]; exact hj
      simp only [ladinglaw26_ClauseTurns.b1, leZ_eq]
      rw [decide_eq_true (by omega), cond_true, show (c.1.length : Int) - 1 - (j : Int) = ((c.1.length - 1 - j : Nat) : Int) by omega, idx_nat hj2, bind_in]
      rw [app_in (by simp only [List.length_take, List.length_reverse, List.length_singleton]; omega), bind_in, z64_in (by omega) (by omega), bind_in, take_snoc _ j hj3]
      have hrev : c.1.reverse[j] = c.1[c.1.length - 1 - j] := by rw [List.getElem_reverse]
      rw [hrev, show ((c.1.length - 1 - j : Nat) : Int) - 1 = (c.1.length : Int) - 1 - ((j + 1 : Nat) : Int) by omega]
    · simp only [ladinglaw26_ClauseTurns.b1, leZ_eq]
      rw [decide_eq_false (by omega), cond_false, List.take_of_length_le (by simp), app_in (by simp only [htl, List.length_singleton]; omega), bind_in, z64_nx hk (by omega), bind_in]; rfl
  · simp only [ladinglaw26_ClauseTurns.b2, lt_e, cond_false]
theorem lits_snoc (l : List GClause) (c : List Int) : lits (l ++ [(c, 0, 0, 0)]) = lits l ++ [c] := by unfold lits; rw [List.map_append]; rfl
theorem lastLit_cons {c : List Int} {L : List (List Int)} (h : L ≠ []) : lastLit (c :: L) = lastLit L := by
  unfold lastLit
  cases L with
  | nil => exact absurd rfl h
  | cons d L => rw [List.getLast?_cons_cons]
theorem turns_true (l : List GClause) (s : List Int) (learnt : List (List Int)) (n : Int) : ladinglaw26_ClauseTurns l s learnt n = some true := by
  unfold ladinglaw26_ClauseTurns
  rw [small_true, bind_in]
  obtain ⟨b, h1, h2⟩ := light_eq (l := l) (n := 40) (by omega)
  have h1 : ladinglaw26_light l 40 = some b := h1
  rw [h1, bind_in]
  cases b with
  | false => simp only [Bool.not_false, cond_true, bind_in, ladinglaw26_ClauseTurns.j3]
  | true =>
    have h2 := h2 rfl
    have hok := ok8 (by omega) h2
    rw [Bool.not_true, cond_false, bif_ltZ]
    by_cases h3 : (30 : Int) < (s.length : Int)
    · rw [if_pos h3, bind_in]; simp only [ladinglaw26_ClauseTurns.j3, cond_true]
    rw [if_neg h3]
    obtain ⟨b, h4, h5⟩ := few_eq (l := learnt) (n := 10) (by omega)
    have h4 : ladinglaw26_few learnt 10 = some b := h4
    rw [h4, bind_in]
    cases b with
    | false => simp only [Bool.not_false, cond_true, bind_in, ladinglaw26_ClauseTurns.j3]
    | true =>
      have h5 := h5 rfl
      rw [Bool.not_true, cond_false]
      simp only [ltZ_eq, bif_dec]
      by_cases h6 : n < 0
      · rw [if_pos h6, bind_in]; simp only [ladinglaw26_ClauseTurns.j3, cond_true]
      rw [if_neg h6, bind_in]
      by_cases h7 : (l.length : Int) < n
      · rw [decide_eq_true h7]; simp only [ladinglaw26_ClauseTurns.j3, cond_true]
      rw [decide_eq_false h7]
      obtain ⟨N, rfl⟩ : ∃ N : Nat, n = N := ⟨n.toNat, by omega⟩
      have hs : s.length ≤ 1000000 := by omega
      have hL : ∀ c ∈ learnt, c.length ≤ 1000000 := fun c hc => by have := h5.2 c hc; omega
      have hokt := turn_ok (b := N) h2
      have hs1 : Sim (lits (turnF l N l.length)) (lits l) := turn_sim1
      have hs2 : Sim (lits l) (lits (turnF l N l.length)) := turn_sim2 (by omega)
      have htl : (turnF l N l.length).length = l.length := turn_len
      have hpl := propF_len (lits l) s
      have hL4 : learnt.length ≤ 4000 := by omega
      simp only [ladinglaw26_ClauseTurns.j3, cond_false]
      rw [turn_eq h2 (by omega), bind_in]
      simp only [ladinglaw26_ClauseTurns.j2]
      rw [prop_eq hok hs, bind_in, prop_eq hokt hs, bind_in, Proof_eq hok (by omega) hL, bind_in, Follows_eq hok hs, bind_in, Follows_eq hokt hs, bind_in, Proof_eq hokt (by omega) hL, bind_in,
        propF_sim hs1 hs2, failB_sim hs1 hs2, prfF_congr (C := lits (turnF l N l.length)) (C' := lits l) (L := learnt) (L' := learnt) hL4 hL4 ⟨fun h => ⟨h.1, h.2.1, allF_sim h.2.2 hs1⟩, fun h => ⟨h.1, h.2.1, allF_sim h.2.2 hs2⟩⟩]
      rw [same_eq (by omega)]
      simp only [beq_self_eq_true, Bool.not_true, cond_false, bind_in, decide_true, eqZ_eq, ladinglaw26_ClauseTurns.j1]
      rw [Follows_eq hok hs, bind_in]
      cases hf : failB (lits l) (negs s) with
      | false => simp only [Bool.not_false, cond_true]
      | true =>
        have hF := failB_iff.1 hf
        rw [Bool.not_true, cond_false, app_in (by simp only [List.length_singleton]; omega), bind_in]
        have hL2 : ∀ c ∈ [s] ++ learnt, c.length ≤ 1000000 := fun c hc => by
          rcases List.mem_append.1 hc with hc | hc
          · rw [List.mem_singleton.1 hc]; exact hs
          · exact hL c hc
        rw [Proof_eq hok (by omega) hL2, bind_in, app_in (by simp only [List.length_nil]; omega), bind_in, List.nil_append, app_in (by simp only [List.length_singleton]; omega), bind_in]
        have hok2 : Ok (lits (l ++ [(s, 0, 0, 0)])) := by
          rw [lits_snoc]
          refine ⟨by simp only [List.length_append, List.length_map, List.length_singleton]; omega, fun c hc => ?_⟩
          rcases List.mem_append.1 hc with hc | hc
          · exact hok.2 c hc
          · rw [List.mem_singleton.1 hc]; exact hs
        rw [Proof_eq hok2 (by simp only [List.length_append, List.length_singleton]; omega) hL, bind_in, lits_snoc, cond_true]
        by_cases hn : learnt = []
        · subst hn
          rw [prfF_no (C := lits l) (L := []) (by simp) (fun h => h.1 rfl)]
          rfl
        · have hne : decide ((learnt.length : Int) = 0) = false := decide_eq_false (by have := List.length_pos_iff.2 hn; omega)
          have hfg : prfF (lits l) ([s] ++ learnt) = prfF (lits l ++ [s]) learnt := by
            refine prfF_congr (by simp only [List.length_append, List.length_singleton]; omega) hL4 ?_
            rw [List.singleton_append]
            unfold PrfOK
            rw [lastLit_cons hn]
            exact ⟨fun h => ⟨hn, h.2.1, h.2.2.2⟩, fun h => ⟨by simp, h.2.1, hF, h.2.2⟩⟩
          rw [hfg, hne, decide_eq_true (show prfF (lits l ++ [s]) learnt = prfF (lits l ++ [s]) learnt from rfl)]
          by_cases he : prfF (lits l) learnt = 0
          · have hp := (prfF_zero hL4).1 he
            have : prfF (lits l ++ [s]) learnt = 0 := prfF_yes hL4 ⟨hn, hp.2.1, allF_sim hp.2.2 (Sim.of_sub fun c hc => List.mem_append_left _ hc)⟩
            rw [decide_eq_true he, this]; rfl
          · rw [decide_eq_false he]; rfl
end Go.Proofs.Ytbkdiclfhoelbaa
