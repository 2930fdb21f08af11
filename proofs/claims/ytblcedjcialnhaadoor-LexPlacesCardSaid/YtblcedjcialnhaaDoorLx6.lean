/-
  Layer 14 (lex): LexJoins, LexErrors, LexWords.
-/
import Derived.Test.YtblcedjcialnhaaDoorLx5
namespace Go.Proofs.YtblcedjcialnhaaDoor
open Go.Lad
set_option linter.unusedVariables false
set_option linter.unusedSimpArgs false

theorem lexV_in {s : Bs} (h : s.length ≤ 8000) : lexV s = toR (lexR 0 s) := if_pos h
/-- the two ways that a text reads -/
theorem lexR_cases (s : Bs) : (∃ m, lexR 0 s = .inl (m ++ [eofT s.length])) ∨ ∃ (k : Nat) (e : Int), lexR 0 s = .inr ((k : Int), e) ∧ k < s.length ∧ (e = 10 ∨ e = 12 ∨ e = 3) ∧ (∀ p' : Nat, lexR p' (s.drop k) = .inr ((p' : Int), e)) ∧ ∃ l, lexR 0 (s.take k) = .inl l := by
  cases h : lexR 0 s with
  | inl l =>
    obtain ⟨m, hm⟩ := lexR_end s 0 l h
    exact .inl ⟨m, by rw [hm, Nat.zero_add]⟩
  | inr e =>
    obtain ⟨k, h1, h2, h3, h4, h5⟩ := lexR_bad s 0 e h
    obtain ⟨a, b⟩ := e
    refine .inr ⟨k, b, ?_, h2, h3, h4, h5⟩
    rw [show a = (k : Int) by rw [show a = (((0 + k : Nat)) : Int) from h1, Nat.zero_add]]
theorem rem3 {n : Int} (h : 0 ≤ n ∧ n ≤ 255) : ∃ k : Nat, k < 3 ∧ remZ .u8 n 3 = some (k : Int) := by
  have e : n.tmod 3 = n % 3 := Int.tmod_eq_emod_of_nonneg h.1
  have h1 : 0 ≤ n % 3 := Int.emod_nonneg n (by decide)
  have h2 : n % 3 < 3 := Int.emod_lt_of_pos n (by decide)
  refine ⟨(n % 3).toNat, by omega, ?_⟩
  unfold remZ inZ
  rw [e, eqZ_eq, leZ_eq, leZ_eq, decide_eq_false (show ¬ (3 : Int) = 0 by decide), decide_eq_true (show IntKind.u8.min ≤ n % 3 from h1), decide_eq_true (show n % 3 ≤ IntKind.u8.max from (by show n % 3 ≤ 255; omega))]
  show some (n % 3) = _
  rw [Int.toNat_of_nonneg h1]
theorem sep3 {k : Nat} (h : k < 3) : ∃ b : UInt8, isB b = true ∧ cut ([9, 10, 32] : Bs) (k : Int) (IntKind.u8.wrap ((k : Int) + 1)) = some [b] := by
  have : k = 0 ∨ k = 1 ∨ k = 2 := by omega
  rcases this with rfl | rfl | rfl
  · exact ⟨9, by decide, by decide⟩
  · exact ⟨10, by decide, by decide⟩
  · exact ⟨32, by decide, by decide⟩
theorem joins_true (s p : Bs) (n : Int) (hn : 0 ≤ n ∧ n ≤ 255) : ladinglaw14_LexJoins s p n = some true := by
  unfold ladinglaw14_LexJoins
  obtain ⟨c, hc, hcl⟩ := cut3_eq s
  obtain ⟨d, hd, hdl⟩ := cut3_eq p
  obtain ⟨k, hk, hr⟩ := rem3 hn
  obtain ⟨b, hb, hcut⟩ := sep3 hk
  have hl : (c ++ b :: d).length ≤ 8000 := by simp; omega
  rw [small_true, bind_in, hc, bind_in, hd, bind_in, hr, bind_in, bind_in, hcut, bind_in, lex_eq, bind_in, lex_eq, bind_in, cat_in (by simp; omega), bind_in, cat_in (by simp; omega), bind_in,
    show c ++ [b] ++ d = c ++ b :: d by simp, lex_eq, bind_in, lexV_in hl, lexV_in (s := c) (by omega), lexV_in (s := d) (by omega)]
  obtain ⟨j1, j2⟩ := lexR_join d hb c 0
  rcases lexR_cases c with ⟨m, hm⟩ | ⟨a, e, he, ha, he3, _, _⟩
  · rw [j2 m (by rw [Nat.zero_add]; exact hm), hm, Nat.zero_add, show c.length + 1 = 0 + (c.length + 1) by omega, lexR_shift]
    rw [show (toR (.inl (m ++ [eofT c.length]))).2.2 = 0 from rfl, eqZ_self, Bool.not_true, cond_false]
    rcases lexR_cases d with ⟨m2, hm2⟩ | ⟨a, e, he, ha, he3, _, _⟩
    · rw [hm2, show (toR (.inl (m2 ++ [eofT d.length]))).2.2 = 0 from rfl, eqZ_self, Bool.not_true, cond_false]
      have h1 := lexR_len c 0 _ hm
      have h2 := lexR_len d 0 _ hm2
      have e3 : toR (appR m (shR (c.length + 1) (.inl (m2 ++ [eofT d.length])))) = (m ++ (m2 ++ [eofT d.length]).map (shT (c.length + 1)), 0, 0) := rfl
      have e1 : toR (.inl (m ++ [eofT c.length])) = (m ++ [eofT c.length], 0, 0) := rfl
      have e2 : toR (.inl (m2 ++ [eofT d.length])) = (m2 ++ [eofT d.length], 0, 0) := rfl
      rw [e1, e2, e3]
      generalize hL2 : m2 ++ [eofT d.length] = L2 at *
      have hL2p : 0 < L2.length := by rw [← hL2]; simp
      simp only [List.length_append, List.length_cons, List.length_nil] at h1
      have hlen : ((m ++ [eofT c.length]).length : Int) = (m.length : Int) + 1 := by simp
      have hlen2 : ((m ++ L2.map (shT (c.length + 1))).length : Int) = (m.length : Int) + (L2.length : Int) := by simp
      simp only [hlen, hlen2, bif_ltZ, eqZ_self, Bool.not_true, cond_false]
      rw [if_neg (by omega), z64_i (by omega), bind_in, z64_i (by omega), bind_in, show (m.length : Int) + 1 - 1 + (L2.length : Int) = (m.length : Int) + (L2.length : Int) by omega, eqZ_self, bind_in]
      unfold ladinglaw14_LexJoins.j2
      rw [Bool.not_true, cond_false]
      refine loopF_at (fun k => (k : Int)) (m.length + L2.length) rfl (fun k hk => ?_) ?_
      · have hkL : k < (m ++ L2.map (shT (c.length + 1))).length := by simp; omega
        have hj : ∀ t : GToken, ladinglaw14_LexJoins.j1 (m ++ L2.map (shT (c.length + 1)), 0, 0) (k : Int) (m ++ L2.map (shT (c.length + 1)))[k].1 (m ++ L2.map (shT (c.length + 1)))[k].2.1 (m ++ L2.map (shT (c.length + 1)))[k].2.2.1 (m ++ L2.map (shT (c.length + 1)))[k].2.2.2 = some (.inl ((k + 1 : Nat) : Int)) := by
          intro _
          unfold ladinglaw14_LexJoins.j1
          rw [idx_nat hkL, bind_in, eqZ_self, eqZ_self, eqZ_self, decide_eq_true rfl, z64_succ (by omega)]; rfl
        simp only [ladinglaw14_LexJoins.b1, hlen, hlen2, bif_ltZ]
        rw [if_pos (by omega), z64_i (by omega), bind_in]
        by_cases hkm : k < m.length
        · have e4 : (m ++ L2.map (shT (c.length + 1)))[k] = m[k] := List.getElem_append_left hkm
          rw [if_pos (by omega), idx_nat (by simp; omega), bind_in, bind_in]
          have e5 : (m ++ [eofT c.length])[k]'(by simp; omega) = m[k] := List.getElem_append_left hkm
          have := hj (0, [], 0, 0)
          rw [e4] at this
          rw [e5]
          exact this
        · have e4 : (m ++ L2.map (shT (c.length + 1)))[k] = shT (c.length + 1) (L2[k - m.length]'(by omega)) := by
            rw [List.getElem_append_right (by omega), List.getElem_map]
          rw [if_neg (by omega), z64_i (by omega), bind_in, z64_i (by omega), bind_in, idx_eq (k := k - m.length) (by omega) (by omega), bind_in]
          have hb2 : 0 ≤ (L2[k - m.length]'(by omega)).2.2.2 ∧ (L2[k - m.length]'(by omega)).2.2.2 ≤ 1000000 := by
            have := lexR_place d 0 L2 hm2 _ (List.getElem_mem (show k - m.length < L2.length by omega))
            omega
          rw [z64_i (by omega), bind_in, z64_i (by omega), bind_in, bind_in]
          have := hj (0, [], 0, 0)
          rw [e4] at this
          have e6 : (shT (c.length + 1) (L2[k - m.length]'(by omega))).2.2.2 = (L2[k - m.length]'(by omega)).2.2.2 + (c.length : Int) + 1 := by unfold shT; dsimp only; omega
          rw [e6] at this
          exact this
      · simp only [ladinglaw14_LexJoins.b1, hlen, hlen2, bif_ltZ]
        rw [if_neg (by omega)]
    · rw [he]
      have e1 : toR (appR m (shR (c.length + 1) (.inr ((a : Int), e)))) = ([], (a : Int) + ((c.length + 1 : Nat) : Int), e) := rfl
      have e2 : toR (.inr ((a : Int), e)) = ([], (a : Int), e) := rfl
      rw [e1, e2]
      have hne : eqZ e 0 = false := by rw [eqZ_eq]; exact decide_eq_false (by omega)
      rw [hne, Bool.not_false, cond_true, cond_true, eqZ_self, cond_true, z64_succ (by omega), bind_in, z64_add (by omega), bind_in]
      rw [show ((c.length + 1 + a : Nat) : Int) = (a : Int) + ((c.length + 1 : Nat) : Int) by omega, eqZ_self]; rfl
  · rw [j1 _ he, he]
    have e2 : toR (.inr ((a : Int), e)) = ([], (a : Int), e) := rfl
    rw [e2]
    have hne : eqZ e 0 = false := by rw [eqZ_eq]; exact decide_eq_false (by omega)
    rw [hne, Bool.not_false, cond_true, cond_true, eqZ_self, cond_true, eqZ_self]; rfl
end Go.Proofs.YtblcedjcialnhaaDoor
