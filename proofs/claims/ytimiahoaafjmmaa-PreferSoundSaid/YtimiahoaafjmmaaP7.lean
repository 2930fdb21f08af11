/-
  Layer 28 (prefer): PreferSound.
-/
import Derived.Test.YtimiahoaafjmmaaP6
namespace Go.Proofs.Ytimiahoaafjmmaa
open Go.Lad
set_option linter.unusedVariables false
set_option linter.unusedSimpArgs false
set_option linter.unusedSectionVars false
theorem sound_loop {w : List Int} {m : List Bool} {M : List (List Bool)} (hw : w.length ≤ 1000000) (hm : m.length ≤ 1000000) (hM : M.length ≤ 1000000) (hlen : ∀ a ∈ M, a.length ≤ 1000000) (hb : ∀ a ∈ M, cmpF w a m ≤ 0) : loopF (fun x => ladinglaw28_PreferSound.b1 w m M x) 0 = some (.inl ()) := by
  refine loopF_at (body := fun x => ladinglaw28_PreferSound.b1 w m M x) (fun k => (k : Int)) M.length rfl (fun k hk => ?_) ?_ (by omega)
  · have hbk := hb _ (List.getElem_mem hk)
    simp only [ladinglaw28_PreferSound.b1, lt_n hk, cond_true, idx_nat hk, bind_in, cmp_eq hw (hlen _ (List.getElem_mem hk)) hm, z64_nx hk (by omega)]
    rw [bif_ltZ, if_neg (by omega)]
  · simp only [ladinglaw28_PreferSound.b1, lt_e, cond_false]
theorem rem_nat {a b : Nat} (ha : a ≤ 1000000) (hb : 0 < b) (hb2 : b ≤ 1000000) : remZ .i64 (a : Int) (b : Int) = some ((a % b : Nat) : Int) := by
  have h := Nat.mod_lt a hb
  unfold remZ inZ
  rw [eqZ_eq, leZ_eq, leZ_eq]
  have e : ((a : Int).tmod (b : Int)) = ((a % b : Nat) : Int) := rfl
  rw [e, decide_eq_false (by omega), decide_eq_true (by show (-9223372036854775808 : Int) ≤ _; omega), decide_eq_true (by show _ ≤ (9223372036854775807 : Int); omega)]
  rfl
/-- the second half: what Best returns is not accepted with other wishes -/
theorem sound_two {l : List GClause} {n : Nat} {w : List Int} {p : Int} (hs : Sized l) (hn : n ≤ 8) (hw : w.length ≤ 12) (hp : 0 ≤ p ∧ p ≤ 255) : ladinglaw28_PreferSound.j3 l (n : Int) w p true = some true := by
  unfold ladinglaw28_PreferSound.j3
  rw [best_eq hs (by omega), bind_in]
  cases hr : rightW l (n : Int) w with
  | false =>
    unfold bestF
    rw [hr, if_neg (by simp)]; rfl
  | true =>
    have hsm := small_of (by omega) (rightW_iff.1 hr).2.2
    have hsz := best_size (n := (n : Int)) (w := w) hs (by omega)
    rcases best_spec hs (by omega) hr with ⟨e1, e2⟩ | ⟨m, T, P, e1, e2, e3, e4, e5⟩
    · rw [e2]; rfl
    · rw [e1] at hsz ⊢
      have hm : m.length ≤ 1000000 := by rw [e4.1]; omega
      have hP : ∀ L ∈ P, ∀ c ∈ L, c.length ≤ 1000000 := fun L hL c hc => by have := (hsz.2.2.2 L hL).2 c hc; omega
      simp only [eqZ_eq]
      rw [decide_true, Bool.not_true, cond_false, bind_in]
      unfold ladinglaw28_PreferSound.j2
      by_cases hT : T.length = 0
      · rw [decide_eq_true (by omega), cond_true]
      · rw [decide_eq_false (by omega), cond_false, app_in (by simp only [List.length_nil]; omega), bind_in, List.nil_append]
        obtain ⟨a, rfl⟩ : ∃ a : Nat, p = a := ⟨p.toNat, by omega⟩
        have hlt := Nat.mod_lt a (show 0 < T.length by omega)
        have h1 : checkF l (n : Int) w m (T.set ((a % T.length : Nat) : Int).toNat (!T[a % T.length])) P = 19 := checkF_no hr fun hh => by
          have hst := (hh.2.2.2.2 (a % T.length) (by omega)).1
          rw [Int.toNat_natCast, getD_at (by rw [List.length_set]; exact hlt), List.getElem_set_self, getD_at (show a % T.length < w.length by omega), Took.hol e2.len hsm e4 _ hlt] at hst
          cases hb : T[a % T.length] <;> rw [hb] at hst <;> cases hst
        have h2 : checkF l (n : Int) w m (T.take (T.length - 1)) P = 19 := checkF_no hr fun hh => by
          have := hh.2.2.1
          rw [List.length_take] at this
          omega
        simp only [rem_nat (show a ≤ 1000000 by omega) (show 0 < T.length by omega) (show T.length ≤ 1000000 by omega), bind_in, idx_nat hlt, cond_true, check_eq hs (show w.length ≤ 1000000 by omega) hm hP, h1]
        rw [eqZ_eq, decide_eq_true rfl, cond_true, z64_pred (by omega) (by omega), bind_in, cut_in (by omega) (by omega) (by omega), bind_in, Int.toNat_natCast, show (0 : Int).toNat = 0 from rfl, List.drop_zero, h2, eqZ_eq, decide_eq_true rfl]
theorem sound_true (l : List GClause) (n : Int) (w : List Int) (m T : List Bool) (P : List (List (List Int))) (p : Int) (hp : 0 ≤ p ∧ p ≤ 255) : ladinglaw28_PreferSound l n w m T P p = some true := by
  unfold ladinglaw28_PreferSound
  rw [small_true, bind_in]
  obtain ⟨f, h1, h2⟩ := few_eq (l := l) (n := n) (s := w)
  rw [h1, bind_in]
  cases f with
  | false => rw [Bool.not_false, cond_true, bind_in]; simp only [ladinglaw28_PreferSound.j4, cond_true]
  | true =>
    obtain ⟨g1, g2, g3, g4⟩ := h2 rfl
    have hs : Sized l := sized_of (by omega) (by omega) g1 g2
    rw [Bool.not_true, cond_false, bif_ltZ]
    by_cases h8 : 8 < n
    · rw [if_pos h8, bind_in]; simp only [ladinglaw28_PreferSound.j4, cond_true]
    obtain ⟨q, h3, h4⟩ := light_eq (p := P)
    rw [if_neg h8, h3, bind_in]
    cases q with
    | false => rw [Bool.not_false, cond_true, bind_in]; simp only [ladinglaw28_PreferSound.j4, cond_true]
    | true =>
      obtain ⟨g5, g6⟩ := h4 rfl
      rw [Bool.not_true, cond_false, right_eq (ok_of (by omega) hs.lits), bind_in]
      cases hr : rightF l n with
      | false => rw [Bool.not_false, cond_true, bind_in]; simp only [ladinglaw28_PreferSound.j4, cond_true]
      | true =>
        have hn := (rightF_iff.1 hr).1
        obtain ⟨N, rfl⟩ : ∃ N : Nat, n = N := ⟨n.toNat, by omega⟩
        have hN : N ≤ 8 := by omega
        rw [Bool.not_true, cond_false]
        simp only [ltZ_eq]
        by_cases hm : 20 < m.length
        · rw [decide_eq_true (by omega), cond_true, bind_in]; simp only [ladinglaw28_PreferSound.j4, cond_true]
        rw [decide_eq_false (by omega), cond_false, bind_in]
        by_cases hT : 20 < T.length
        · rw [decide_eq_true (by omega)]; simp only [ladinglaw28_PreferSound.j4, cond_true]
        rw [decide_eq_false (by omega)]
        have hP : ∀ L ∈ P, ∀ c ∈ L, c.length ≤ 1000000 := fun L hL c hc => by have := (g6 L hL).2 c hc; omega
        have hpw : 2 ^ N ≤ 2 ^ 8 := Nat.pow_le_pow_right (by omega) hN
        have hml := modelsF_len l N (2 ^ N)
        unfold ladinglaw28_PreferSound.j4
        rw [cond_false, models_eq hs hN, bind_in, check_eq hs (by omega) (by omega) hP, bind_in, bif_eqZ]
        by_cases hc : checkF l (N : Int) w m T P = 0
        · obtain ⟨c1, c2⟩ := checkF_zero hc
          have hlen : m.length = N := by have := c2.1; omega
          have hsat : Sat (lits l) N [] m := ⟨hlen, holds_iff.1 c2.2.1, fun x hx => by cases hx⟩
          have hsatm : satF l m = true := (satF_iff hr).2 hsat.2.1
          rw [if_pos hc, eqZ_eq, decide_eq_true (by omega), Bool.not_true, cond_false, satisfies_eq hs (by omega), bind_in, hsatm, Bool.not_true, bind_in]
          unfold ladinglaw28_PreferSound.j1
          rw [cond_false, sound_loop (by omega) (by omega) (by omega) (fun a ha => by have := ((models_sat hr).1 ha).1; omega) (fun a ha => check_best (by omega) c1 c2 ((models_sat hr).1 ha)), bind_in]
          exact sound_two hs hN (by omega) hp
        · rw [if_neg hc, bind_in]
          exact sound_two hs hN (by omega) hp
end Go.Proofs.Ytimiahoaafjmmaa
