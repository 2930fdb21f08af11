/-
  Layer 14 (lex): LexErrors, LexWords.
-/
import Derived.Test.YtblcedjcialnhaaDoorLx6
namespace Go.Proofs.YtblcedjcialnhaaDoor
open Go.Lad
set_option linter.unusedVariables false
set_option linter.unusedSimpArgs false

theorem lexR_blanks : ∀ (n p : Nat), lexR p (List.replicate n 32) = .inl [eofT (p + n)]
  | 0, p => lexR_nil p
  | n + 1, p => by
    rw [List.replicate_succ, lexR_blank p _ (by decide), lexR_blanks n (p + 1), show p + 1 + n = p + (n + 1) by omega]
theorem lexV_pad {c : Bs} {n : Nat} (h : c.length + (n + 1) ≤ 8000) : (lexV (c ++ List.replicate (n + 1) 32)).2.2 = (lexV c).2.2 ∧ (lexV (c ++ List.replicate (n + 1) 32)).1.length = (lexV c).1.length := by
  rw [lexV_in (by rw [List.length_append, List.length_replicate]; omega), lexV_in (s := c) (by omega), List.replicate_succ]
  obtain ⟨j1, j2⟩ := lexR_join (b := 32) (List.replicate n 32) (by decide) c 0
  rcases lexR_cases c with ⟨m, hm⟩ | ⟨a, e, he, ha, he3, _, _⟩
  · rw [j2 m (by rw [Nat.zero_add]; exact hm), hm, lexR_blanks]
    refine ⟨rfl, ?_⟩
    show (m ++ [eofT _]).length = (m ++ [eofT _]).length
    simp
  · rw [j1 _ he, he]; exact ⟨rfl, rfl⟩
theorem spaces_eq : loopF (fun x => ladinglaw14_LexErrors.b1 x) ([32, 32, 32, 32, 32, 32, 32, 32, 32, 32] : Bs) = some (List.replicate 10240 32) := by
  refine loopF_at (fun k => (List.replicate (10 * 2 ^ k) 32 : Bs)) 10 rfl (fun k hk => ?_) ?_
  · have h1 : 2 ^ k ≤ 2 ^ 9 := Nat.pow_le_pow_right (by decide) (by omega)
    have h2 : (2 : Nat) ^ 9 = 512 := by decide
    simp only [ladinglaw14_LexErrors.b1, List.length_replicate, bif_ltZ]
    rw [if_pos (by omega), cat_in (by simp only [List.length_replicate]; omega), bind_in, List.replicate_append_replicate, show 10 * 2 ^ k + 10 * 2 ^ k = 10 * 2 ^ (k + 1) by rw [Nat.pow_succ]; omega]
  · have h2 : (2 : Nat) ^ 10 = 1024 := by decide
    simp only [ladinglaw14_LexErrors.b1, List.length_replicate, bif_ltZ]
    rw [if_neg (by omega), show 10 * 2 ^ 10 = 10240 by decide]
theorem cut_rep {n : Nat} (h : n ≤ 10240) : cut (List.replicate 10240 32 : Bs) 0 (n : Int) = some (List.replicate n 32) := by
  rw [cut_in (by omega) (by omega) (by rw [List.length_replicate]; omega)]
  rw [Int.toNat_natCast, List.take_replicate, Nat.min_eq_left h]; rfl
theorem errors_true (s : Bs) : ladinglaw14_LexErrors s = some true := by
  unfold ladinglaw14_LexErrors
  obtain ⟨c, hc, hcl⟩ := cut3_eq s
  rw [small_true, bind_in, hc, bind_in, lex_eq, bind_in, spaces_eq, bind_in]
  unfold ladinglaw14_LexErrors.j3
  rw [z64_i (by omega), bind_in, show (8000 : Int) - (c.length : Int) = ((8000 - c.length : Nat) : Int) by omega, cut_rep (by omega), bind_in, cat_in (by rw [List.length_replicate]; omega), bind_in, lex_eq, bind_in,
    z64_i (by omega), bind_in, show (8001 : Int) - (c.length : Int) = ((8001 - c.length : Nat) : Int) by omega, cut_rep (by omega), bind_in, cat_in (by rw [List.length_replicate]; omega), bind_in, lex_eq, bind_in]
  have h1 : lexV (c ++ List.replicate (8001 - c.length) 32) = ([], 0, 6) := if_neg (by rw [List.length_append, List.length_replicate]; omega)
  obtain ⟨h2, h3⟩ := lexV_pad (c := c) (n := 7999 - c.length) (by omega)
  rw [show 7999 - c.length + 1 = 8000 - c.length by omega] at h2 h3
  rw [h1, h2, h3, eqZ_self, eqZ_self, eqZ_self, eqZ_self, Bool.not_true, cond_false, cond_false, cond_false, bind_in]
  unfold ladinglaw14_LexErrors.j2
  rw [cond_false, lexV_in (s := c) (by omega)]
  rcases lexR_cases c with ⟨m, hm⟩ | ⟨a, e, he, ha, he3, hd, l, ht⟩
  · rw [hm]; rfl
  · rw [he, show toR (.inr ((a : Int), e)) = ([], (a : Int), e) from rfl]
    simp only [bif_ltZ, bif_leZ, bif_not, bif_eqZ]
    rw [if_neg (show ¬ e = 0 by omega), if_neg (show ¬ (a : Int) < 0 by omega), if_neg (show ¬ (c.length : Int) ≤ (a : Int) by omega)]
    have hj : ladinglaw14_LexErrors.j1 true c ([], (a : Int), e) false = some true := by
      unfold ladinglaw14_LexErrors.j1
      rw [cond_false]
      dsimp only
      rw [cut_in (by omega) (by omega) (by omega), bind_in, lex_eq, bind_in, cut_drop (by omega), bind_in, lex_eq, bind_in, cond_true]
      have e1 : (c.take (a : Int).toNat).drop (0 : Int).toNat = c.take a := by simp
      rw [e1, lexV_in (by rw [List.length_take]; omega), ht, lexV_in (by rw [List.length_drop]; omega), hd 0]
      rw [show (toR (.inl l)).2.2 = 0 from rfl, eqZ_self, cond_true, show toR (.inr (((0 : Nat) : Int), e)) = ([], 0, e) from rfl, eqZ_self, cond_true, eqZ_self]
    by_cases h10 : e = 10
    · rw [if_pos h10, bind_in]; exact hj
    · rw [if_neg h10]
      by_cases h12 : e = 12
      · rw [if_pos h12, bind_in]; exact hj
      · rw [if_neg h12, bind_in]
        have : e = 3 := by omega
        subst this
        exact hj
/-! ### words and numbers -/
theorem tw_self {q : UInt8 → Bool} {s : Bs} (h : s.all q = true) : s.takeWhile q = s := by
  have := tw_all q s
  rw [h] at this
  have := of_decide_eq_true this.symm
  have e := tw_take q s
  rw [this, List.take_length] at e
  exact e.symm
theorem isL_notB {c : UInt8} (h : isL c = true) : isB c = false := by
  have := of_decide_eq_true h
  exact decide_eq_false (by omega)
theorem isD_notB {c : UInt8} (h : isD c = true) : isB c = false := by
  have := of_decide_eq_true h
  exact decide_eq_false (by omega)
theorem isD_notL {c : UInt8} (h : isD c = true) : isL c = false := by
  have := of_decide_eq_true h
  exact decide_eq_false (by omega)
theorem word_lex {c : Bs} (h : wordB c = true) : c.length ≤ 20 ∧ lexR 0 c = .inl [(0, c, 0, 0), eofT c.length] := by
  unfold wordB at h
  rw [Bool.and_eq_true, Bool.and_eq_true] at h
  obtain ⟨⟨h1, h2⟩, h3⟩ := h
  have h2 := of_decide_eq_true h2
  have hn : nextS c = ((0, c, 0, 0), 0) := by unfold nextS; rw [if_pos h1, tw_self h3, if_pos h2]
  refine ⟨h2, ?_⟩
  cases c with
  | nil => cases h1
  | cons x q =>
    rw [lexR_tok 0 (isL_notB h1) (by rw [hn]), hn]
    show consR _ (lexR (0 + (x :: q).length) ((x :: q).drop (x :: q).length)) = _
    rw [List.drop_length, lexR_nil, Nat.zero_add]; rfl
theorem num_lex {c : Bs} (h : numB c = true) : 0 ≤ val c ∧ val c ≤ 1099511627776 ∧ lexR 0 c = .inl [(1, c, val c, 0), eofT c.length] := by
  have h' := h
  unfold numB at h
  rw [Bool.and_eq_true, Bool.and_eq_true, Bool.and_eq_true, Bool.and_eq_true] at h
  obtain ⟨⟨⟨⟨h0, h1⟩, h2⟩, h3⟩, h4⟩ := h
  have h0 := of_decide_eq_true h0
  have h4 := of_decide_eq_true h4
  have hv := val_nn c c.length fun j hj _ => all_iff.1 h1 j hj
  rw [List.take_length] at hv
  refine ⟨hv, h4, ?_⟩
  cases c with
  | nil => exact absurd rfl h0
  | cons x q =>
    have hx : isD x = true := by simp at h1; exact h1.1
    have hn : nextS (x :: q) = ((1, x :: q, val (x :: q), 0), 0) := by
      unfold nextS
      rw [if_neg (by show ¬ isL x = true; rw [isD_notL hx]; simp), if_pos (show headP isD (x :: q) = true from hx), tw_self h1, if_pos h']
    rw [lexR_tok 0 (isD_notB hx) (by rw [hn]), hn]
    show consR _ (lexR (0 + (x :: q).length) ((x :: q).drop (x :: q).length)) = _
    rw [List.drop_length, lexR_nil, Nat.zero_add]; rfl
theorem lexR_wid (r : Bs) (p : Nat) : ∀ t l, lexR p r = .inl (t :: l) → t.2.1.length ≤ r.length := by
  refine lex_all (P := fun p r => ∀ t l, lexR p r = .inl (t :: l) → t.2.1.length ≤ r.length) ?_ ?_ ?_ ?_ r p
  · intro p t l h
    rw [lexR_nil] at h
    injection h with h
    injection h with h _
    subst h
    exact Nat.le_refl _
  · intro p c q hb ih t l h
    rw [lexR_blank p q hb] at h
    have := ih t l h
    simp only [List.length_cons]; omega
  · intro p c q hb h2 ih t l h
    rw [lexR_tok p hb h2] at h
    obtain ⟨l', _, h3⟩ := consR_inl h
    injection h3 with h3 _
    rw [h3]
    exact next_le h2
  · intro p c q hb h2 t l h
    rw [lexR_err p hb h2] at h; cases h
/-- a token that is the whole text -/
theorem one_tok (r : Bs) (p : Nat) : ∀ t e, lexR p r = .inl [t, e] → t.2.1.length = r.length → t = atT p (nextS r).1 ∧ (nextS r).2 = 0 := by
  refine lex_all (P := fun p r => ∀ t e, lexR p r = .inl [t, e] → t.2.1.length = r.length → t = atT p (nextS r).1 ∧ (nextS r).2 = 0) ?_ ?_ ?_ ?_ r p
  · intro p t e h
    rw [lexR_nil] at h
    injection h with h
    cases h
  · intro p c q hb ih t e h hl
    rw [lexR_blank p q hb] at h
    exfalso
    have h2 := lexR_wid q (p + 1) t [e] h
    rw [hl, List.length_cons] at h2
    omega
  · intro p c q hb h2 ih t e h hl
    rw [lexR_tok p hb h2] at h
    obtain ⟨l', _, h3⟩ := consR_inl h
    injection h3 with h3 _
    exact ⟨h3, h2⟩
  · intro p c q hb h2 t e h
    rw [lexR_err p hb h2] at h; cases h
theorem words_true (s : Bs) : ladinglaw14_LexWords s = some true := by
  unfold ladinglaw14_LexWords
  obtain ⟨c, hc, hcl⟩ := cut3_eq s
  rw [small_true, bind_in, hc, bind_in, lex_eq, bind_in, num_eq (by unfold Mx; omega), bind_in, word_eq (by unfold Mx; omega), bind_in, lexV_in (s := c) (by omega)]
  have hw : wordB c = false ∨ ∃ h : wordB c = true, c.length ≤ 20 ∧ lexR 0 c = .inl [(0, c, 0, 0), eofT c.length] := by
    cases h : wordB c with
    | false => exact .inl rfl
    | true => exact .inr ⟨rfl, word_lex h⟩
  have hn : numB c = false ∨ ∃ h : numB c = true, 0 ≤ val c ∧ val c ≤ 1099511627776 ∧ lexR 0 c = .inl [(1, c, val c, 0), eofT c.length] := by
    cases h : numB c with
    | false => exact .inl rfl
    | true => exact .inr ⟨rfl, num_lex h⟩
  have bad : (∀ t e, lexR 0 c ≠ .inl [t, e]) → wordB c = false ∧ numV c = (0, false) := by
    intro h
    constructor
    · rcases hw with hw | ⟨_, _, hw⟩
      · exact hw
      · exact absurd hw (h _ _)
    · unfold numV
      rcases hn with hn | ⟨_, _, _, hn⟩
      · rw [hn]; rfl
      · exact absurd hn (h _ _)
  have badr : wordB c = false ∧ numV c = (0, false) → ladinglaw14_LexWords.j2 true c (toR (lexR 0 c)) (numV c) (wordB c) true = some true := by
    rintro ⟨h1, h2⟩
    rw [h1, h2]; rfl
  rcases lexR_cases c with ⟨m, hm⟩ | ⟨a, e, he, ha, he3, hd, l, ht⟩
  · rw [hm, show toR (.inl (m ++ [eofT c.length])) = (m ++ [eofT c.length], 0, 0) from rfl, eqZ_self, Bool.not_true, cond_false, bind_in]
    match m, hm with
    | [], hm =>
      rw [show eqZ ((([] : List GToken) ++ [eofT c.length]).length : Int) 2 = false from rfl, Bool.not_false, ← show toR (lexR 0 c) = ([] ++ [eofT c.length], 0, 0) by rw [hm]; rfl]
      exact badr (bad fun t e h => by rw [hm] at h; injection h with h; cases h)
    | t :: t2 :: r, hm =>
      have e1 : eqZ ((t :: t2 :: r ++ [eofT c.length]).length : Int) 2 = false := by rw [eqZ_eq]; exact decide_eq_false (by simp; omega)
      rw [e1, Bool.not_false, ← show toR (lexR 0 c) = (t :: t2 :: r ++ [eofT c.length], 0, 0) by rw [hm]; rfl]
      exact badr (bad fun t' e h => by rw [hm] at h; injection h with h; have := congrArg List.length h; simp at this)
    | [t], hm =>
      have hm : lexR 0 c = .inl [t, eofT c.length] := hm
      show ladinglaw14_LexWords.j2 true c ([t, eofT c.length], 0, 0) (numV c) (wordB c) false = some true
      have i0 : idx [t, eofT c.length] 0 = some t := rfl
      unfold ladinglaw14_LexWords.j2
      simp only [cond_false, i0, bind_in, bif_dec]
      by_cases hx : t.2.1 = c
      · simp only [if_pos hx]
        obtain ⟨k1, k2⟩ := one_tok c 0 t _ hm (by rw [hx])
        obtain ⟨g1, g2, g3, g4, g5⟩ := next_kind k2
        have f1 : t.1 = (nextS c).1.1 := by rw [k1]; rfl
        have f2 : t.2.1 = (nextS c).1.2.1 := by rw [k1]; rfl
        have f3 : t.2.2.1 = (nextS c).1.2.2.1 := by rw [k1]; rfl
        rw [← f1, ← f2, hx] at g4
        rw [← f1, ← f2, ← f3, hx] at g5
        have w1 : wordB c = eqZ t.1 0 := by
          rw [eqZ_eq]
          by_cases h0 : t.1 = 0
          · rw [decide_eq_true h0, g4 h0]
          · rw [decide_eq_false h0]
            rcases hw with hw | ⟨_, _, hw⟩
            · exact hw
            · rw [hm] at hw
              injection hw with hw
              injection hw with hw _
              exact absurd (by rw [hw]) h0
        have w2 : numB c = eqZ t.1 1 := by
          rw [eqZ_eq]
          by_cases h0 : t.1 = 1
          · rw [decide_eq_true h0, (g5 h0).1]
          · rw [decide_eq_false h0]
            rcases hn with hn | ⟨_, _, _, hn⟩
            · exact hn
            · rw [hm] at hn
              injection hn with hn
              injection hn with hn _
              exact absurd (by rw [hn]) h0
        have w3 : (numV c).2 = numB c := by unfold numV; cases numB c <;> rfl
        rw [w3, ← w1, ← w2]
        simp only [BEq.rfl, Bool.not_true, cond_false, bind_in]
        unfold ladinglaw14_LexWords.j1
        simp only [cond_false, i0, bind_in]
        have w4 : (bif !(numV c).2 then some true else bif eqZ (numV c).1 t.2.2.1 then bif leZ 0 (numV c).1 then some (leZ (numV c).1 1099511627776) else some false else some false) = some true := by
          rw [w3]
          rcases hn with hn | ⟨h1, h2, h3, h4⟩
          · rw [hn]; rfl
          · have h5 : t.1 = 1 := by
              rw [h1, eqZ_eq] at w2
              exact of_decide_eq_true w2.symm
            have h6 := (g5 h5).2
            have h7 : (numV c).1 = val c := by unfold numV; rw [if_pos h1]
            rw [h1, h7, ← h6, eqZ_self, leZ_eq, leZ_eq, decide_eq_true (by omega), decide_eq_true (by omega)]; rfl
        cases hwc : wordB c with
        | false => simpa using w4
        | true =>
          have h20 : c.length ≤ 20 := (word_lex hwc).1
          have : leZ (c.length : Int) 20 = true := by rw [leZ_eq]; exact decide_eq_true (by omega)
          rw [this]
          simpa using w4
      · simp only [if_neg hx]
        have w1 : wordB c = false := by
          rcases hw with hw | ⟨_, _, hw⟩
          · exact hw
          · rw [hm] at hw
            injection hw with hw
            injection hw with hw _
            exact absurd (by rw [hw]) hx
        have w2 : numB c = false := by
          rcases hn with hn | ⟨_, _, _, hn⟩
          · exact hn
          · rw [hm] at hn
            injection hn with hn
            injection hn with hn _
            exact absurd (by rw [hn]) hx
        have w3 : numV c = (0, false) := by unfold numV; rw [w2]; rfl
        rw [w1, w3]; rfl
  · rw [he, show toR (.inr ((a : Int), e)) = ([], (a : Int), e) from rfl]
    have hne : eqZ e 0 = false := by rw [eqZ_eq]; exact decide_eq_false (by omega)
    rw [hne, Bool.not_false, cond_true, bind_in, ← show toR (lexR 0 c) = ([], (a : Int), e) by rw [he]; rfl]
    exact badr (bad fun t e h => by rw [he] at h; cases h)
end Go.Proofs.YtblcedjcialnhaaDoor
