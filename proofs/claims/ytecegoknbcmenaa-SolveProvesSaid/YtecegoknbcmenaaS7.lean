/-
  Layer 27 (solve): SolveProves.
-/
import Derived.Test.YtecegoknbcmenaaS6
namespace Go.Proofs.Ytecegoknbcmenaa
open Go.Lad
set_option linter.unusedVariables false
set_option linter.unusedSimpArgs false
set_option linter.unusedSectionVars false
theorem cut_one {α : Type} {l : List α} {k : Nat} (h : k < l.length) : cut l (k : Int) ((k + 1 : Nat) : Int) = some [l[k]] := by
  rw [cut_in (by omega) (by omega) (by omega), Int.toNat_natCast, Int.toNat_natCast, take_snoc l k h, List.drop_append_of_le_length (by rw [List.length_take]; omega), List.drop_of_length_le (by rw [List.length_take]; omega), List.nil_append]
theorem right_units {n : Int} {s : List Int} (h : badA n s = true) : rightF ((units s).map mk) n = false := by
  rw [Bool.eq_false_iff, Ne, rightF_iff]
  rintro ⟨_, h2⟩
  unfold badA at h
  obtain ⟨x, hx, hb⟩ := List.any_eq_true.1 h
  unfold badN at hb
  rw [decide_eq_true_eq] at hb
  have := h2 (mk [x]) (List.mem_map.2 ⟨[x], by unfold units; exact List.mem_map.2 ⟨x, hx, rfl⟩, rfl⟩) x (by simp)
  omega
theorem loopP1 {K : List (List Int)} {i : Nat} {m : List Bool} {e : Int} (hi : i < K.length) (hl : ∀ c ∈ K, c.length ≤ 1000000) (hp : ∀ c ∈ K, ∀ x ∈ c, 1 ≤ x) : loopF (fun x => ladinglaw27_SolveProves.b1 (m, K, e) (i : Int) x) 0 = some (.inl ()) := by
  have hli := hl _ (List.getElem_mem hi)
  rw [loop_any (body := fun x => ladinglaw27_SolveProves.b1 (m, K, e) (i : Int) x) K[i] (fun x => decide (x < 1)) (.inr (.inr (.inr false))) (.inl ()) (fun k hk => ?_) ?_ (by omega)]
  · rw [if_neg]
    intro ha
    obtain ⟨x, hx, hd⟩ := List.any_eq_true.1 ha
    have := of_decide_eq_true hd
    have := hp _ (List.getElem_mem hi) x hx
    omega
  · simp only [ladinglaw27_SolveProves.b1, idx_nat hi, bind_in, lt_e, cond_false]
  · simp only [ladinglaw27_SolveProves.b1, idx_nat hi, bind_in, lt_n hk, cond_true, idx_nat hk, z64_nx hk (by omega)]
    rw [ltZ_eq]
    exact bif_pick
theorem loopP2 {K : List (List Int)} {i : Nat} {m : List Bool} {e : Int} (hi : i < K.length) (hK : K.length ≤ 4000) (hl : ∀ c ∈ K, c.length ≤ 1000000) (hn : K.Nodup) : ladinglaw27_SolveProves.j2 (m, K, e) (i : Int) = some (.inl ((i + 1 : Nat) : Int)) := by
  unfold ladinglaw27_SolveProves.j2
  have hend : ∀ k : Nat, ¬ (k < i ∧ K.length ≤ 200) → ladinglaw27_SolveProves.b2 (m, K, e) (i : Int) (k : Int) = some (.inr (.inl ((i + 1 : Nat) : Int))) := fun k hk => by
    have ht : (bif ltZ (k : Int) (i : Int) then some (leZ (K.length : Int) 200) else some false) = some false := by
      rw [bif_ltZ]
      by_cases h : (k : Int) < (i : Int)
      · rw [if_pos h, leZ_eq, decide_eq_false (by omega)]
      · rw [if_neg h]
    simp only [ladinglaw27_SolveProves.b2, ht, bind_in, ladinglaw27_SolveProves.j1, cond_false, z64_nx hi (by omega)]; rfl
  by_cases h200 : K.length ≤ 200
  · have hlen : (K.take i).length = i := by rw [List.length_take]; omega
    have hnd := List.pairwise_iff_getElem.1 hn
    rw [loop_any (body := fun x => ladinglaw27_SolveProves.b2 (m, K, e) (i : Int) x) (K.take i) (fun _ => false) (.inr (.inr false)) (.inl ((i + 1 : Nat) : Int)) (fun k hk => ?_) ?_ (by omega)]
    · rw [if_neg (by simp)]
    · rw [hlen]; exact hend i (by omega)
    · rw [hlen] at hk
      have hkK : k < K.length := by omega
      have ht : (bif ltZ (k : Int) (i : Int) then some (leZ (K.length : Int) 200) else some false) = some true := by
        rw [lt_n hk, cond_true, leZ_eq, decide_eq_true (by omega)]
      simp only [ladinglaw27_SolveProves.b2, ht, bind_in, ladinglaw27_SolveProves.j1, cond_true, z64_nx hi (by omega), cut_one hi, z64_nx hkK (by omega), cut_one hkK]
      rw [lists_eq (by simp) (fun c hc => by rw [List.mem_singleton.1 hc]; exact hl _ (List.getElem_mem hi)), bind_in, decide_eq_false fun he => ?_, cond_false, if_neg (by simp)]
      injection he with he
      exact hnd k i hkK hi hk he.symm
  · refine loopF_of (n := 1) ?_ (by omega)
    unfold iterM
    have := hend 0 (by omega)
    have this : ladinglaw27_SolveProves.b2 (m, K, e) (i : Int) 0 = _ := this
    rw [this]
theorem loopP3 {K : List (List Int)} {m : List Bool} {e : Int} (hK : K.length ≤ 4000) (hl : ∀ c ∈ K, c.length ≤ 1000000) (hn : K.Nodup) (hp : ∀ c ∈ K, ∀ x ∈ c, 1 ≤ x) : loopF (fun x => ladinglaw27_SolveProves.b3 (m, K, e) x) 0 = some (.inl ()) := by
  refine loopF_at (body := fun x => ladinglaw27_SolveProves.b3 (m, K, e) x) (fun k => (k : Int)) K.length rfl (fun k hk => ?_) ?_ (by omega)
  · simp only [ladinglaw27_SolveProves.b3, lt_n hk, cond_true]
    rw [loopP1 hk hl hp, bind_in]
    exact loopP2 hk hK hl hn
  · simp only [ladinglaw27_SolveProves.b3, lt_e, cond_false]
theorem proves_true (l : List GClause) (n : Int) (asm : List Int) : ladinglaw27_SolveProves l n asm = some true := by
  unfold ladinglaw27_SolveProves
  rw [small_true, bind_in]
  obtain ⟨b, h1, h2⟩ := few_eq (l := l) (n := n) (most := 16) (s := asm)
  rw [h1, bind_in]
  cases b with
  | false => rw [Bool.not_false, cond_true]
  | true =>
    obtain ⟨g1, g2, g3, g4⟩ := h2 rfl
    have hc : ∀ c ∈ l, c.1.length ≤ 1000000 := fun c hc => by have := g2 c hc; omega
    have hok : Ok (lits l) := ok_of (by omega) hc
    obtain ⟨w1, w2⟩ := with_ok (s := asm) g1 g2 (by omega)
    obtain ⟨u1, u2⟩ := with_ok (l := []) (s := asm) (by simp) (fun c hc => by cases hc) (by omega)
    have hargs : (rightF l n = false ∨ badA n asm = true) → ((clause_Right l n).bind fun r8 => bif (!r8) then some true else (ladinglaw27_with [] asm).bind fun w9 => (clause_Right w9 n).bind fun r10 => some (!r10)) = some true := fun hbad => by
      rw [right_eq hok, bind_in]
      cases hr : rightF l n with
      | false => rw [Bool.not_false, cond_true]
      | true =>
        have hb := hbad.resolve_left (by rw [hr]; simp)
        rw [Bool.not_true, cond_false, with_eq (by simp) (by omega), bind_in, right_eq u1, bind_in, List.nil_append, right_units hb]; rfl
    have hbadcase : (rightF l n = false ∨ badA n asm = true) → ((solve_Solve l n asm).bind fun s6 => (bif (eqZ s6.2.2 1) then some true else some (eqZ s6.2.2 6)).bind fun x => ladinglaw27_SolveProves.j5 l n asm true s6 x) = some true := fun hbad => by
      rw [solve_bad (by omega) hc (by omega) hbad, bind_in]
      simp only [eqZ_eq, decide_true, cond_true, bind_in, ladinglaw27_SolveProves.j5, List.length_nil]
      rw [show decide (((0 : Nat) : Int) = 0) = true from rfl, cond_true, show decide ((1 : Int) = 6) = false from rfl, cond_false]
      exact hargs hbad
    rw [Bool.not_true, cond_false]
    cases hr : rightF l n with
    | false => exact hbadcase (.inl hr)
    | true =>
      cases hb : badA n asm with
      | true => exact hbadcase (.inr hb)
      | false =>
        have hn := (rightF_iff.1 hr).1
        obtain ⟨N, rfl⟩ : ∃ N : Nat, n = N := ⟨n.toNat, by omega⟩
        obtain ⟨r, h3, h4⟩ := solve_found (l := l) (n := N) (asm := asm) (by omega) hc (by omega) hr hb
        rw [h3, bind_in]
        rcases h4 with ⟨m, rfl, hm1, hm2⟩ | ⟨K, rfl, hu1, hu2, hu3, hu4, hu5⟩ | ⟨K, rfl, hK1, hK2, hK3⟩
        · have hh : holdsF l m = true := holds_iff.2 hm1.2.1
          have ht : asm.all (tru m) = true := List.all_eq_true.2 hm1.2.2
          simp only [eqZ_eq]
          rw [show decide ((0 : Int) = 1) = false from rfl, cond_false, show decide ((0 : Int) = 6) = false from rfl, bind_in]
          unfold ladinglaw27_SolveProves.j5
          simp only [cond_false, cond_true, eqZ_eq, decide_true, List.length_nil, hm1.1]
          rw [show decide (((0 : Nat) : Int) = 0) = true from rfl, cond_true, holds_eq hok, bind_in, hh, cond_true, true27_eq (by omega), bind_in, ht]
        · have hpos := List.length_pos_iff.2 hu2.1
          have hKl : ∀ c ∈ K, c.length ≤ 1000000 := fun c hc => by
            have := nodup_le ((hu5 c hc).1.imp fun {a b} h => by omega) (m := (List.range N).map fun (k : Nat) => (k : Int) + 1) fun x hx => by
              have := (hu5 c hc).2 x hx
              exact List.mem_map.2 ⟨(x - 1).toNat, List.mem_range.2 (by omega), by omega⟩
            simp at this
            omega
          simp only [eqZ_eq]
          rw [show decide ((26 : Int) = 1) = false from rfl, cond_false, show decide ((26 : Int) = 6) = false from rfl, bind_in]
          unfold ladinglaw27_SolveProves.j5
          simp only [cond_false, eqZ_eq, List.length_nil, ltZ_eq]
          rw [show decide ((26 : Int) = 0) = false from rfl, cond_false, decide_true, Bool.not_true, cond_false, show decide (((0 : Nat) : Int) = 0) = true from rfl, Bool.not_true, cond_false, decide_eq_false (show ¬ (K.length : Int) = 0 by omega), cond_false, decide_eq_false (show ¬ (4000 : Int) < (K.length : Int) by omega), bind_in]
          unfold ladinglaw27_SolveProves.j4
          rw [cond_false, loopP3 hu4 hKl hu3 (fun c hc x hx => ((hu5 c hc).2 x hx).1), bind_in]
          show ladinglaw27_SolveProves.j3 l asm true ([], K, 26) = some true
          unfold ladinglaw27_SolveProves.j3
          rw [bif_ltZ]
          by_cases h200 : (200 : Int) < (K.length : Int)
          · rw [if_pos h200]
          · rw [if_neg h200, cond_true, with_eq (by omega) (by omega), bind_in, Proof_eq w1 w2 hKl, bind_in, with_lits, prfF_yes hu4 hu2, eqZ_eq, decide_eq_true rfl]
        · have h11 : ¬ N ≤ 11 := fun h => full_no h hK1 hK2 hK3
          simp only [eqZ_eq]
          rw [show decide ((6 : Int) = 1) = false from rfl, cond_false, decide_true, bind_in]
          unfold ladinglaw27_SolveProves.j5
          simp only [cond_true, eqZ_eq, List.length_nil, decide_true]
          rw [show decide (((0 : Nat) : Int) = 0) = true from rfl, cond_true, cond_true, bif_ltZ, if_pos (by omega)]
end Go.Proofs.Ytecegoknbcmenaa
