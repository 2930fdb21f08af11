/-
  Layer 14 (lex): LexPlaces, LexBack.
-/
import Derived.Test.YtblcedjcialnhaaDoorLx7
namespace Go.Proofs.YtblcedjcialnhaaDoor
open Go.Lad
set_option linter.unusedVariables false
set_option linter.unusedSimpArgs false

inductive Tks (c : Bs) : Nat → List GToken → Prop
  | eof (p : Nat) (hp : p ≤ c.length) (hb : ∀ j (hj : j < c.length), p ≤ j → isB c[j] = true) : Tks c p [eofT c.length]
  | tok (p q : Nat) (l : List GToken) (hpq : p ≤ q) (hq : q < c.length) (hb : ∀ j (hj : j < c.length), p ≤ j → j < q → isB c[j] = true) (h0 : (nextS (c.drop q)).2 = 0) (hl : l ≠ [])
      (h : Tks c (q + (nextS (c.drop q)).1.2.1.length) l) : Tks c p (atT q (nextS (c.drop q)).1 :: l)
theorem Tks.ext {c : Bs} {p : Nat} {l : List GToken} (hp : p < c.length) (hb : isB c[p] = true) (h : Tks c (p + 1) l) : Tks c p l := by
  have key : ∀ j (hj : j < c.length), p ≤ j → p + 1 ≤ j ∨ isB c[j] = true := by
    intro j hj h1
    by_cases e : j = p
    · subst e; exact .inr hb
    · exact .inl (by omega)
  cases h with
  | eof _ h1 h2 => exact .eof p (by omega) fun j hj h3 => (key j hj h3).elim (h2 j hj) id
  | tok _ q l h1 h2 h3 h4 h5 h6 => exact .tok p q l (by omega) h2 (fun j hj h7 h8 => (key j hj h7).elim (fun h9 => h3 j hj h9 h8) id) h4 h5 h6
theorem tks_of (r : Bs) (p : Nat) : ∀ c : Bs, r = c.drop p → p ≤ c.length → ∀ l, lexR p r = .inl l → Tks c p l := by
  refine lex_all (P := fun p r => ∀ c : Bs, r = c.drop p → p ≤ c.length → ∀ l, lexR p r = .inl l → Tks c p l) ?_ ?_ ?_ ?_ r p
  · intro p c hr hp l h
    rw [lexR_nil] at h
    injection h with h
    have : c.length ≤ p := List.drop_eq_nil_iff.1 hr.symm
    have e : p = c.length := by omega
    subst e
    subst h
    exact .eof _ (Nat.le_refl _) fun j hj h => absurd hj (by omega)
  · intro p ch q hb ih c hr hp l h
    have hlt : p < c.length := by
      apply Classical.byContradiction
      intro hn
      rw [List.drop_eq_nil_of_le (by omega)] at hr
      cases hr
    rw [drop_cons hlt] at hr
    injection hr with h1 h2
    rw [lexR_blank p q hb] at h
    exact Tks.ext hlt (by rw [← h1]; exact hb) (ih c h2 (by omega) l h)
  · intro p ch q hb h2 ih c hr hp l h
    have hlt : p < c.length := by
      apply Classical.byContradiction
      intro hn
      rw [List.drop_eq_nil_of_le (by omega)] at hr
      cases hr
    rw [lexR_tok p hb h2] at h
    obtain ⟨l', hl, rfl⟩ := consR_inl h
    have hm := next_le h2
    obtain ⟨m', hm'⟩ := lexR_end _ _ l' hl
    have hcl : (ch :: q).length = c.length - p := by rw [hr, List.length_drop]
    have h3 := ih c (by rw [hr, List.drop_drop]) (by omega) l' hl
    rw [hr] at h2 h3 ⊢
    exact .tok p p l' (Nat.le_refl _) hlt (fun j hj h4 h5 => absurd h4 (by omega)) h2 (by rw [hm']; simp) h3
  · intro p ch q hb h2 c hr hp l h
    rw [lexR_err p hb h2] at h; cases h
theorem place_round {c : Bs} {L : List GToken} {z : Int × Int} {p q i : Nat} {t : GToken} (hc : c.length ≤ 3000) (hLl : L.length ≤ 8001) (hi : i < L.length) (hL : L[i] = t) (hpos : t.2.2.2 = (q : Int)) (hpq : p ≤ q) (hq : q + t.2.1.length ≤ c.length)
    (hlast : t.2.1 = [] ↔ i + 1 = L.length) (hk : t.1 = 3 ↔ i + 1 = L.length) (hn : t.1 ≠ 1 → t.2.2.1 = 0) (htext : (c.drop q).take t.2.1.length = t.2.1) (hbl : ∀ j (hj : j < c.length), p ≤ j → j < q → isB c[j] = true) :
    ladinglaw14_LexPlaces.b2 c (L, z) (p : Int) (i : Int) = some (.inl (((q + t.2.1.length : Nat) : Int), ((i + 1 : Nat) : Int))) := by
  unfold ladinglaw14_LexPlaces.b2
  have e1 : eqZ (i : Int) ((L.length : Int) - 1) = decide (i + 1 = L.length) := by rw [eqZ_eq, decide_eq_decide]; omega
  have e2 : (decide (t.2.1 = ([] : Bs)) == decide (i + 1 = L.length)) = true := by rw [beq_iff_eq, decide_eq_decide]; exact hlast
  have e3 : (eqZ t.1 3 == decide (i + 1 = L.length)) = true := by rw [eqZ_eq, beq_iff_eq, decide_eq_decide]; exact hk
  have e4 : (bif !eqZ t.1 1 then some (!eqZ t.2.2.1 0) else some false) = some false := by
    by_cases h : t.1 = 1
    · rw [h]; rfl
    · rw [hn h]
      cases eqZ t.1 1 <;> rfl
  have hj : ladinglaw14_LexPlaces.j1 c (p : Int) (i : Int) t false = some (.inl (((q + t.2.1.length : Nat) : Int), ((i + 1 : Nat) : Int))) := by
    unfold ladinglaw14_LexPlaces.j1
    rw [cond_false, hpos, z64_add (by omega), bind_in, cut_mid hq, bind_in, htext, decide_eq_true rfl, Bool.not_true, cond_false]
    refine loopF_at (fun k => ((p + k : Nat) : Int)) (q - p) rfl (fun k hk => ?_) ?_
    · have hjl : p + k < c.length := by omega
      have hlt : ((p + k : Nat) : Int) < (q : Int) := by omega
      simp only [ladinglaw14_LexPlaces.b1, hpos, bif_ltZ, if_pos hlt, bAt_nat hjl, bind_in, rblank_eq, hbl _ hjl (by omega) (by omega), z64_succ (show p + k + 1 ≤ 9223372036854775807 by omega)]
      rfl
    · rw [show p + (q - p) = q by omega]
      simp only [ladinglaw14_LexPlaces.b1, hpos, bif_ltZ, lt_f, if_false, z64_add (show q + t.2.1.length ≤ 9223372036854775807 by omega), bind_in, z64_succ (show i + 1 ≤ 9223372036854775807 by omega)]
      rfl
  simp only [bif_ltZ]
  rw [if_pos (show (i : Int) < (L.length : Int) by omega), idx_nat hi, bind_in, hL, hpos, if_neg (show ¬ (q : Int) < (p : Int) by omega), z64_i (by omega), bind_in, if_neg (by omega), z64_i (by omega), bind_in, e1, e2, Bool.not_true, cond_false, bind_in, e1, e3, Bool.not_true, cond_false, e4, bind_in]
  exact hj
theorem drop_at {α : Type} {L : List α} {i : Nat} {t : α} {l : List α} (h : L.drop i = t :: l) : ∃ hi : i < L.length, L[i] = t ∧ L.drop (i + 1) = l ∧ L.length = i + 1 + l.length := by
  have hi : i < L.length := by
    apply Classical.byContradiction
    intro hn
    rw [List.drop_eq_nil_of_le (by omega)] at h
    cases h
  have hl := congrArg List.length h
  rw [List.length_drop, List.length_cons] at hl
  rw [List.drop_eq_getElem_cons hi] at h
  injection h with h1 h2
  exact ⟨hi, h1, h2, by omega⟩
theorem place_iter {c : Bs} {L : List GToken} {z : Int × Int} (hc : c.length ≤ 3000) (hLl : L.length ≤ 8001) {p : Nat} {l : List GToken} (h : Tks c p l) : ∀ i, L.drop i = l → iterM (fun x => ladinglaw14_LexPlaces.b2 c (L, z) x.1 x.2) (l.length + 1) ((p : Int), (i : Int)) = some (.inl (c.length : Int)) := by
  induction h with
  | eof p hp hb =>
    intro i hd
    obtain ⟨hi, h1, h2, h3⟩ := drop_at hd
    have hr := place_round (z := z) (p := p) (q := c.length) hc hLl hi h1 rfl hp (Nat.le_refl _) ⟨fun _ => h3.symm, fun _ => rfl⟩ ⟨fun _ => h3.symm, fun _ => rfl⟩ (fun _ => rfl) (by simp) (fun j hj h4 _ => hb j hj h4)
    rw [iter_next (show (fun x : Int × Int => ladinglaw14_LexPlaces.b2 c (L, z) x.1 x.2) ((p : Int), (i : Int)) = _ from hr)]
    refine iter_done ?_
    show ladinglaw14_LexPlaces.b2 c (L, z) ((c.length + 0 : Nat) : Int) ((i + 1 : Nat) : Int) = _
    unfold ladinglaw14_LexPlaces.b2
    rw [bif_ltZ, if_neg (by show ¬ ((i + 1 : Nat) : Int) < (L.length : Int); simp at h3; omega)]; rfl
  | tok p q l hpq hq hb h0 hl _ ih =>
    intro i hd
    obtain ⟨hi, h1, h2, h3⟩ := drop_at hd
    have hl0 : 0 < l.length := List.length_pos_iff.2 hl
    have hm := next_le h0
    rw [List.length_drop] at hm
    obtain ⟨g1, g2, g3, _, _⟩ := next_kind h0
    have hp := next_pos h0
    have hr := place_round (z := z) (p := p) (q := q) hc hLl hi h1 rfl hpq (by show q + (nextS (c.drop q)).1.2.1.length ≤ _; omega)
      ⟨fun e => absurd (show (nextS (c.drop q)).1.2.1.length = 0 by rw [show (nextS (c.drop q)).1.2.1 = [] from e]; rfl) (by omega), fun e => absurd e (by omega)⟩ ⟨fun e => absurd e g1, fun e => absurd e (by omega)⟩ g3 hp.2 hb
    rw [List.length_cons, iter_next (show (fun x : Int × Int => ladinglaw14_LexPlaces.b2 c (L, z) x.1 x.2) ((p : Int), (i : Int)) = _ from hr)]
    exact ih (i + 1) h2
theorem places_true (s : Bs) : ladinglaw14_LexPlaces s = some true := by
  unfold ladinglaw14_LexPlaces
  obtain ⟨c, hc, hcl⟩ := cut3_eq s
  rw [small_true, bind_in, hc, bind_in, lex_eq, bind_in, lexV_in (s := c) (by omega)]
  rcases lexR_cases c with ⟨m, hm⟩ | ⟨a, e, he, ha, he3, _, _⟩
  · rw [hm, show toR (.inl (m ++ [eofT c.length])) = (m ++ [eofT c.length], 0, 0) from rfl, eqZ_self, Bool.not_true, cond_false]
    have ht := tks_of c 0 c rfl (Nat.zero_le _) _ hm
    have hl := (lexR_len c 0 _ hm).1
    have := place_iter (z := (0, 0)) hcl (L := m ++ [eofT c.length]) (by omega) ht 0 rfl
    have h0 : loopF (fun x => ladinglaw14_LexPlaces.b2 c (m ++ [eofT c.length], 0, 0) x.1 x.2) (0, 0) = some (.inl (c.length : Int)) := loopF_of this (by omega)
    rw [h0, bind_in]
    dsimp only
    unfold ladinglaw14_LexPlaces.j2
    rw [cond_true, eqZ_self, cond_true, eqZ_self, cond_true, ltZ_eq, decide_eq_true (by simp <;> omega)]
  · rw [he, show toR (.inr ((a : Int), e)) = ([], (a : Int), e) from rfl]
    have hne : eqZ e 0 = false := by rw [eqZ_eq]; exact decide_eq_false (by omega)
    rw [hne, Bool.not_false, cond_true, cond_true]
    dsimp only
    rw [leZ_eq, decide_eq_true (by omega), cond_true, ltZ_eq, decide_eq_true (by omega)]
/-! ### back -/
def key (t : GToken) : Int × Bs × Int := (t.1, t.2.1, t.2.2.1)
def Good (t : GToken) : Prop := (nextS t.2.1).2 = 0 ∧ (nextS t.2.1).1 = (t.1, t.2.1, t.2.2.1, 0) ∧ headP isB t.2.1 = false
theorem lexR_good (r : Bs) (p : Nat) : ∀ m, lexR p r = .inl (m ++ [eofT (p + r.length)]) → ∀ t ∈ m, Good t := by
  refine lex_all (P := fun p r => ∀ m, lexR p r = .inl (m ++ [eofT (p + r.length)]) → ∀ t ∈ m, Good t) ?_ ?_ ?_ ?_ r p
  · intro p m h t ht
    rw [lexR_nil] at h
    injection h with h
    have := congrArg List.length h
    simp at this
    rw [this] at ht; cases ht
  · intro p c q hb ih m h
    rw [lexR_blank p q hb] at h
    exact ih m (by rw [h, List.length_cons, show p + (q.length + 1) = p + 1 + q.length by omega])
  · intro p c q hb h2 ih m h t ht
    rw [lexR_tok p hb h2] at h
    have hm := next_le h2
    obtain ⟨l', hl, hl2⟩ := consR_inl h
    obtain ⟨m', hm'⟩ := lexR_end _ _ l' hl
    have e2 : p + (nextS (c :: q)).1.2.1.length + ((c :: q).drop (nextS (c :: q)).1.2.1.length).length = p + (c :: q).length := by rw [List.length_drop]; omega
    have h4 := ih m' (by rw [hl, hm'])
    rw [hm', e2, ← List.cons_append] at hl2
    have e3 : m = atT p (nextS (c :: q)).1 :: m' := List.append_cancel_right hl2
    rw [e3] at ht
    rcases List.mem_cons.1 ht with rfl | ht
    · have h5 := next_cut h2 (Nat.le_refl _)
      have h6 := next_pos h2
      rw [h6.2] at h5
      have h7 : (atT p (nextS (c :: q)).1).2.1 = (nextS (c :: q)).1.2.1 := rfl
      unfold Good
      rw [h7, h5]
      refine ⟨h2, ?_, ?_⟩
      · obtain ⟨_, g2, _⟩ := next_kind h2
        show (nextS (c :: q)).1 = ((nextS (c :: q)).1.1, (nextS (c :: q)).1.2.1, (nextS (c :: q)).1.2.2.1, 0)
        rw [← g2]
      · rw [← h6.2, headP_cut _ h6.1]; exact hb
    · exact h4 t ht
  · intro p c q hb h2 m h
    rw [lexR_err p hb h2] at h; cases h
theorem relex : ∀ (m : List GToken), (∀ t ∈ m, Good t) → ∀ p, ∃ m' q, lexR p (Lib.join (m.map (·.2.1)) [32]) = .inl (m' ++ [eofT q]) ∧ m'.map key = m.map key
  | [], _, p => ⟨[], p, lexR_nil p, rfl⟩
  | t :: r, h, p => by
    obtain ⟨g1, g2, g3⟩ := h t List.mem_cons_self
    have hp := (next_pos g1).1
    have step : ∀ Y, Sep Y → lexR p (t.2.1 ++ Y) = consR (t.1, t.2.1, t.2.2.1, (p : Int)) (lexR (p + t.2.1.length) Y) := by
      intro Y hY
      rw [g2] at hp
      have e : ∃ c q, t.2.1 = c :: q := by
        cases hc : t.2.1 with
        | nil => rw [hc] at hp; cases hp
        | cons c q => exact ⟨c, q, rfl⟩
      obtain ⟨c, q, hcq⟩ := e
      have hx := next_ext c q hY
      rw [← hcq] at hx
      have hb : isB c = false := by rw [hcq] at g3; exact g3
      have h1 := lexR_tok p (c := c) (q := q ++ Y) hb (by rw [← List.cons_append, ← hcq, hx]; exact g1)
      rw [← List.cons_append, ← hcq, hx, g2] at h1
      rw [h1]
      show consR _ (lexR (p + t.2.1.length) ((t.2.1 ++ Y).drop t.2.1.length)) = _
      rw [List.drop_left]; rfl
    rw [List.map_cons, Lib.join_cons]
    cases r with
    | nil =>
      refine ⟨[(t.1, t.2.1, t.2.2.1, (p : Int))], p + t.2.1.length, ?_, rfl⟩
      show lexR p (t.2.1 ++ []) = _
      rw [step [] sep_nil, lexR_nil]; rfl
    | cons t2 r =>
      obtain ⟨m', q, h1, h2⟩ := relex (t2 :: r) (fun x hx => h x (List.mem_cons_of_mem _ hx)) (p + t.2.1.length + 1)
      have e : Lib.joinTail [32] ((t2 :: r).map (·.2.1)) = 32 :: Lib.join ((t2 :: r).map (·.2.1)) [32] := by
        rw [List.map_cons, Lib.join_cons]
        unfold Lib.joinTail
        simp
      refine ⟨(t.1, t.2.1, t.2.2.1, (p : Int)) :: m', q, ?_, by rw [List.map_cons, List.map_cons, h2]; rfl⟩
      rw [e, step _ (sep_cons _ (by decide)), lexR_blank _ _ (by decide), h1]; rfl
theorem like_true {a b : List GToken} (h : a.map key = b.map key) (hl : a.length ≤ Mx) : ladingref14_Like a b = some true := by
  unfold ladingref14_Like Mx at *
  have hlen : a.length = b.length := by have := congrArg List.length h; simpa using this
  rw [hlen, eqZ_self, Bool.not_true, cond_false]
  refine loopF_at (fun k => (k : Int)) a.length rfl (fun k hk => ?_) ?_
  · have hk' : k < b.length := by omega
    have e : key a[k] = key b[k] := by
      have := List.getElem_of_eq h (i := k) (by simpa using hk)
      simpa using this
    have e1 : a[k].1 = b[k].1 := congrArg (·.1) e
    have e2 : a[k].2.1 = b[k].2.1 := congrArg (·.2.1) e
    have e3 : a[k].2.2.1 = b[k].2.2.1 := congrArg (·.2.2) e
    simp only [ladingref14_Like.b1, bif_ltZ, lt_t hk, if_true, idx_nat hk, idx_nat hk', bind_in, e1, e2, e3, eqZ_self, Bool.not_true, cond_false, decide_eq_true, ladingref14_Like.j1, z64_succ (show k + 1 ≤ 9223372036854775807 by omega)]
  · simp only [ladingref14_Like.b1, bif_ltZ, lt_f, if_false]
theorem wordsL_key (l : List GToken) : wordsL l = ((l.map key).filter fun t => !decide (t.1 = 3)).map (·.2.1) := by
  unfold wordsL
  induction l with
  | nil => rfl
  | cons t r ih =>
    rw [List.map_cons, List.filter_cons, List.filter_cons]
    by_cases h : t.1 = 3
    · have h' : (key t).1 = 3 := h
      simp [h, h', ih]
    · have h' : ¬ (key t).1 = 3 := h
      simp [h, h', ih]; rfl
theorem wordsL_good : ∀ {m : List GToken}, (∀ t ∈ m, t.1 ≠ 3) → wordsL m = m.map (·.2.1)
  | [], _ => rfl
  | t :: r, h => by
    have h1 := wordsL_good (m := r) fun x hx => h x (List.mem_cons_of_mem _ hx)
    have h2 := h t List.mem_cons_self
    unfold wordsL at *
    simp [h2, h1]
theorem textS_eof (m : List GToken) (n : Nat) : textS (m ++ [eofT n]) = textS m := by rw [textS_snoc, if_pos rfl]
theorem back_true (s : Bs) : ladinglaw14_LexBack s = some true := by
  unfold ladinglaw14_LexBack
  obtain ⟨c, hc, hcl⟩ := cut3_eq s
  rw [small_true, bind_in, hc, bind_in, lex_eq, bind_in, lexV_in (s := c) (by omega)]
  rcases lexR_cases c with ⟨m, hm⟩ | ⟨a, e, he, ha, he3, _, _⟩
  · rw [hm, show toR (.inl (m ++ [eofT c.length])) = (m ++ [eofT c.length], 0, 0) from rfl, eqZ_self, Bool.not_true, cond_false]
    have hl := lexR_len c 0 _ hm
    have hg := lexR_good c 0 m (by rw [Nat.zero_add]; exact hm)
    have hk3 : ∀ t ∈ m, t.1 ≠ 3 := fun t ht => by
      obtain ⟨g1, g2, _⟩ := hg t ht
      have := (next_kind g1).1
      rw [g2] at this
      exact this
    have hT : textS (m ++ [eofT c.length]) = Lib.join (m.map (·.2.1)) [32] := by
      rw [textS_eof]; unfold textS; rw [wordsL_good hk3]
    have hTl := textS_len (m ++ [eofT c.length])
    obtain ⟨m', q, h1, h2⟩ := relex m hg 0
    have hV : lexV (textS (m ++ [eofT c.length])) = (m' ++ [eofT q], 0, 0) := by
      rw [lexV_in (by omega), hT, h1]; rfl
    have hVl := lexV_len (textS (m ++ [eofT c.length]))
    rw [hV] at hVl
    have hw : textS (m' ++ [eofT q]) = textS (m ++ [eofT c.length]) := by
      rw [textS_eof, textS_eof]
      unfold textS
      rw [wordsL_key, wordsL_key, h2]
    have hkk : (m ++ [eofT c.length]).map key = (m' ++ [eofT q]).map key := by rw [List.map_append, List.map_append, h2]; rfl
    dsimp only
    rw [text_eq (by omega) (by omega), bind_in, lex_eq, bind_in, hV, cond_true, eqZ_self, cond_true, like_true hkk (by unfold Mx; omega), bind_in, cond_true, text_eq (by have := hVl.1; dsimp only at this; omega) (by have := hVl.2; dsimp only at this; omega), bind_in, hw, decide_eq_true rfl]
  · rw [he, show toR (.inr ((a : Int), e)) = ([], (a : Int), e) from rfl]
    have hne : eqZ e 0 = false := by rw [eqZ_eq]; exact decide_eq_false (by omega)
    rw [hne]; rfl
end Go.Proofs.YtblcedjcialnhaaDoor
