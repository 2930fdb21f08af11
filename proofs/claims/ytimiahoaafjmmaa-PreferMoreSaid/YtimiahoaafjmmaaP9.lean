/-
  Layer 28 (prefer): PreferMore.
-/
import Derived.Test.YtimiahoaafjmmaaP5
namespace Go.Proofs.Ytimiahoaafjmmaa
open Go.Lad
set_option linter.unusedVariables false
set_option linter.unusedSimpArgs false
set_option linter.unusedSectionVars false
theorem rem_n {a b : Nat} (ha : a ≤ 1000000) (hb : 0 < b) (hb2 : b ≤ 1000000) : remZ .i64 (a : Int) (b : Int) = some ((a % b : Nat) : Int) := by
  have h := Nat.mod_lt a hb
  unfold remZ inZ
  rw [eqZ_eq, leZ_eq, leZ_eq]
  have e : ((a : Int).tmod (b : Int)) = ((a % b : Nat) : Int) := rfl
  rw [e, decide_eq_false (by omega), decide_eq_true (by show (-9223372036854775808 : Int) ≤ _; omega), decide_eq_true (by show _ ≤ (9223372036854775807 : Int); omega)]
  rfl
theorem badA_neg {n x : Int} (h : x ≠ 0 ∧ -n ≤ x ∧ x ≤ n) : badA n [x, -x] = false := badA_f.2 fun y hy => by
  rcases List.mem_cons.1 hy with rfl | hy
  · exact h
  · rw [List.mem_singleton.1 hy]; omega
/-- with a clause more no model is better -/
theorem more_end {l : List GClause} {n : Nat} {w : List Int} {c : GClause} {r : Out} (hs : Sized l) (hl : l.length ≤ 19) (hc : c.1.length ≤ 6) (hn : n ≤ 10) (hw : w.length ≤ 12) (hm : r.1.length ≤ 1000000) (hb : ∀ m', Sat (lits l) n [] m' → cmpF w m' r.1 ≤ 0) : ladinglaw28_PreferMore.j3 l (n : Int) w true r c.1 c.2.1 c.2.2.1 c.2.2.2 = some true := by
  have hs2 : Sized (l ++ [c]) := by
    refine ⟨by simp; omega, fun d hd => ?_⟩
    rcases List.mem_append.1 hd with hd | hd
    · exact hs.lits d hd
    · rw [List.mem_singleton.1 hd]; omega
  unfold ladinglaw28_PreferMore.j3
  rw [app_in (by simp only [List.length_nil]; omega), bind_in, List.nil_append, app_in (by simp only [List.length_singleton]; omega), bind_in]
  show ((prefer_Best (l ++ [c]) (n : Int) w).bind fun b37 => _) = _
  rw [best_eq hs2 (by omega), bind_in, cond_true]
  cases hr : rightW (l ++ [c]) (n : Int) w with
  | false =>
    unfold bestF
    rw [hr, if_neg (by simp)]; rfl
  | true =>
    rcases best_spec hs2 (by omega) hr with ⟨e1, e2⟩ | ⟨m, T, P, e1, e2, e3, e4, e5⟩
    · rw [e2]; rfl
    · have hsat : Sat (lits l) n [] m := ⟨e4.1, fun d hd => e4.2.1 d (by
        unfold lits at hd ⊢
        rw [List.map_append]
        exact List.mem_append_left _ hd), fun x hx => by cases hx⟩
      have := hb m hsat
      rw [e1]
      simp only [eqZ_eq]
      rw [decide_true, Bool.not_true, cond_false, cmp_eq (by omega) (by rw [e4.1]; omega) hm, bind_in, leZ_eq, decide_eq_true this]
theorem more_true (l : List GClause) (n : Int) (w : List Int) (c : GClause) (p : Int) (hp : 0 ≤ p ∧ p ≤ 255) : ladinglaw28_PreferMore l n w c p = some true := by
  unfold ladinglaw28_PreferMore
  rw [small_true, bind_in]
  obtain ⟨f, h1, h2⟩ := few_eq (l := l) (n := n) (s := w)
  rw [h1, bind_in]
  cases f with
  | false => rw [Bool.not_false, cond_true, bind_in]; simp only [ladinglaw28_PreferMore.j6, cond_true]
  | true =>
    obtain ⟨g1, g2, g3, g4⟩ := h2 rfl
    have hs : Sized l := sized_of (by omega) (by omega) g1 g2
    rw [Bool.not_true, cond_false, bif_ltZ]
    by_cases hc : 6 < c.1.length
    · rw [if_pos (by omega), bind_in]; simp only [ladinglaw28_PreferMore.j6, cond_true]
    rw [if_neg (by omega), bind_in, ltZ_eq]
    by_cases hl : 19 < l.length
    · rw [decide_eq_true (by omega)]; simp only [ladinglaw28_PreferMore.j6, cond_true]
    rw [decide_eq_false (by omega)]
    unfold ladinglaw28_PreferMore.j6
    rw [cond_false, best_eq hs (by omega), bind_in]
    have hsz := best_size (n := n) (w := w) hs (by omega)
    cases hr : rightW l n w with
    | false =>
      have e : bestF l n w = failO 1 := by unfold bestF; rw [hr, if_neg (by simp)]
      rw [e]
      simp only [failO, eqZ_eq]
      rw [show decide ((1 : Int) = 0) = false from rfl, Bool.not_false, cond_true, bind_in]
      unfold ladinglaw28_PreferMore.j5
      rfl
    | true =>
      obtain ⟨hr1, hr2, hr3⟩ := rightW_iff.1 hr
      have hn := (rightF_iff.1 hr1).1
      obtain ⟨N, rfl⟩ : ∃ N : Nat, n = N := ⟨n.toNat, by omega⟩
      have hN : N ≤ 10 := by omega
      have hsm := small_of (by omega) hr3
      rcases best_spec hs (by omega) hr with ⟨e1, e2⟩ | ⟨m, T, P, e1, e2, e3, e4, e5⟩
      · rw [e2]; rfl
      · rw [e1] at hsz ⊢
        have hml : m.length ≤ 1000000 := by rw [e4.1]; omega
        have hend := more_end (c := c) (r := (m, T, P, 0)) hs (by omega) (by omega) hN (by omega) hml (fun m' hm' => e2.best hsm e3 e4 hm')
        have hsatm : ∃ m, Sat (lits l) N [] m := ⟨m, sat_nil e4⟩
        simp only [eqZ_eq]
        rw [decide_true, Bool.not_true, cond_false, decide_eq_true (by rw [e3]), Bool.not_true, bind_in]
        unfold ladinglaw28_PreferMore.j5
        obtain ⟨a, rfl⟩ : ∃ a : Nat, p = a := ⟨p.toNat, by omega⟩
        have hlt := Nat.mod_lt a (show 0 < w.length + 1 by omega)
        generalize hj : a % (w.length + 1) = j at hlt
        have hjw : j ≤ w.length := by omega
        -- the first wishes
        have hr13 : badA (N : Int) (w.take j) = false := badA_f.2 fun x hx => badA_f.1 hr3 x (List.mem_of_mem_take hx)
        have hlen13 : (w.take j).length = j := by rw [List.length_take]; omega
        have hrW13 : rightW l (N : Int) (w.take j) = true := rightW_iff.2 ⟨hr1, by omega, hr13⟩
        rw [cond_false, z64_succ (by omega), bind_in, rem_n (by omega) (by omega) (by omega), bind_in, hj, cut_in (by omega) (by omega) (by omega), bind_in, Int.toNat_natCast, show (0 : Int).toNat = 0 from rfl, List.drop_zero, best_eq hs (by omega), bind_in]
        rcases best_spec (w := w.take j) hs (by omega) hrW13 with ⟨f1, _⟩ | ⟨m2, T2, P2, f1, f2, f3, f4, f5⟩
        · obtain ⟨m0, hm0⟩ := hsatm
          exact (f1 m0 hm0).elim
        · have hT2 : T2 = T.take j := by
            have := f2.uniq e2 (j := j) (by rw [List.take_take, Nat.min_self]) (by omega) (by omega)
            rwa [List.take_of_length_le (by omega)] at this
          rw [f1]
          simp only [eqZ_eq]
          rw [decide_true, Bool.not_true, cond_false, hlen13, cut_in (by omega) (by omega) (by omega), bind_in, Int.toNat_natCast, show (0 : Int).toNat = 0 from rfl, List.drop_zero, bools_eq (by omega), bind_in, decide_eq_true hT2, Bool.not_true, bind_in]
          unfold ladinglaw28_PreferMore.j4
          rw [cond_false, bif_ltZ, hlen13]
          by_cases hj0 : j = 0
          · rw [if_neg (by omega), bind_in]
            exact hend
          · rw [if_pos (by omega)]
            have h0 : 0 < (w.take j).length := by omega
            have h0w : 0 < w.length := by omega
            have hx0 : (w.take j)[0] = w[0] := List.getElem_take
            have hxb := badA_f.1 hr3 _ (List.getElem_mem h0w)
            have hidx : idx (w.take j) 0 = some w[0] := by
              have := idx_nat h0
              rw [hx0] at this
              exact this
            rw [hidx, bind_in, app_in (by simp only [List.length_nil]; omega), bind_in, List.nil_append, z64_in (by omega) (by omega), bind_in, app_in (by simp only [List.length_cons, List.length_nil]; omega), bind_in, best_eq hs (by simp only [List.length_append, List.length_cons, List.length_nil]; omega), bind_in]
            have hr21 : badA (N : Int) (w.take j ++ [w[0], -w[0]]) = false := badA_app hr13 (badA_neg hxb)
            have hlen21 : (w.take j ++ [w[0], -w[0]]).length = j + 2 := by simp only [List.length_append, List.length_cons, List.length_nil]; omega
            have hrW21 : rightW l (N : Int) (w.take j ++ [w[0], -w[0]]) = true := rightW_iff.2 ⟨hr1, by omega, hr21⟩
            rcases best_spec (w := w.take j ++ [w[0], -w[0]]) hs (by omega) hrW21 with ⟨k1, _⟩ | ⟨m3, T3, P3, k1, k2, k3, k4, k5⟩
            · obtain ⟨m0, hm0⟩ := hsatm
              exact (k1 m0 hm0).elim
            · have hsm3 := small_of (by omega) hr21
              have hh := Took.hol k2.len hsm3 k4
              have hsmx := hsm _ (List.getElem_mem h0w)
              -- the first wish again, and its negation
              have ha : T3[0]'(by omega) = T[0]'(by omega) := by
                have := k2.uniq e2 (j := 1) (by rw [List.take_append_of_le_length (by omega), List.take_take, Nat.min_eq_left (by omega)]) (by omega) (by omega)
                have := congrArg (fun z => z[0]?) this
                simp only [List.getElem?_take_of_lt (Nat.lt_succ_self 0)] at this
                rw [List.getElem?_eq_getElem (by omega), List.getElem?_eq_getElem (by omega)] at this
                exact Option.some.inj this
              have hb0 : hol m3 w[0] = T3[0]'(by omega) := by
                have := hh 0 (by omega)
                rw [List.getElem_append_left h0, hx0] at this
                exact this
              have hb1 : hol m3 w[0] = T3[j]'(by omega) := by
                have := hh j (by omega)
                rw [List.getElem_append_right (by omega)] at this
                simp only [hlen13, Nat.sub_self, List.getElem_cons_zero] at this
                exact this
              have hb2 : hol m3 (-w[0]) = T3[j + 1]'(by omega) := by
                have := hh (j + 1) (by omega)
                rw [List.getElem_append_right (by omega)] at this
                simp only [hlen13, Nat.add_sub_cancel_left, List.getElem_cons_succ, List.getElem_cons_zero] at this
                exact this
              have hneg : hol m3 (-w[0]) = !hol m3 w[0] := by
                have hp1 := tru_pick hsmx k4.1 (hol m3 w[0])
                have hp2 := hp1.2 rfl
                rw [hol_tru hsmx.1, hol_tru hsmx.1.neg]
                rw [hol_tru hsmx.1] at hp2
                unfold pick at hp2
                cases ht : tru m3 w[0] with
                | true =>
                  cases ht2 : tru m3 (-w[0]) with
                  | true => exact (tru_neg ht ht2).elim
                  | false => rfl
                | false =>
                  rw [ht, if_neg (by simp)] at hp2
                  rw [hp2]; rfl
              rw [k1]
              have hT0 : idx T 0 = some (T[0]'(by omega)) := idx_nat (show 0 < T.length by omega)
              have hzj : z64 ((j : Int) + 2) = some ((j + 2 : Nat) : Int) := by rw [z64_in (by omega) (by omega)]; rfl
              have hzj1 : z64 ((j : Int) + 1) = some ((j + 1 : Nat) : Int) := z64_succ (by omega)
              simp only [eqZ_eq]
              rw [decide_true, Bool.not_true, cond_false, hzj, bind_in, decide_eq_true (by rw [k3, hlen21]), Bool.not_true, bind_in]
              unfold ladinglaw28_PreferMore.j2
              simp only [hlen13, hT0, hzj1, bind_in, idx_nat (show j < T3.length by omega), idx_nat (show j + 1 < T3.length by omega)]
              rw [← hb1, ← hb2, hneg, hb0, ha]
              cases hT00 : T[0]'(by omega) <;> exact hend
end Go.Proofs.Ytimiahoaafjmmaa
