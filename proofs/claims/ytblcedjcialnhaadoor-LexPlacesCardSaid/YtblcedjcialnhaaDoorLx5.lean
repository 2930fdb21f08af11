/-
  Layer 14 (lex): how the tokens of a text depend on the text.
-/
import Derived.Test.YtblcedjcialnhaaDoorLx4
namespace Go.Proofs.YtblcedjcialnhaaDoor
open Go.Lad
set_option linter.unusedVariables false
set_option linter.unusedSimpArgs false

/-! ### what follows a blank does not matter -/
def Sep (x : Bs) : Prop := headP (fun b => !isB b) x = false
theorem sep_nil : Sep [] := rfl
theorem sep_cons {b : UInt8} (y : Bs) (h : isB b = true) : Sep (b :: y) := by show (!isB b) = false; rw [h]; rfl
theorem isB_61 {b : UInt8} (h : isB b = true) : b ≠ 61 := by rintro rfl; exact absurd h (by decide)
theorem isB_A {b : UInt8} (h : isB b = true) : isA b = false := by
  have := of_decide_eq_true h
  unfold isA isL isD
  rw [decide_eq_false (by omega), decide_eq_false (by omega)]; rfl
theorem isB_D {b : UInt8} (h : isB b = true) : isD b = false := by
  have := of_decide_eq_true h
  exact decide_eq_false (by omega)
theorem tw_ext {q : UInt8 → Bool} (hq : ∀ b, isB b = true → q b = false) {x : Bs} (hx : Sep x) : ∀ r : Bs, (r ++ x).takeWhile q = r.takeWhile q
  | [] => by
    cases x with
    | nil => rfl
    | cons b y =>
      have : isB b = true := by have : (!isB b) = false := hx; simpa using this
      simp [hq b this]
  | c :: r => by
    rw [List.cons_append]
    cases h : q c with
    | true => rw [tw_head h, tw_head h, tw_ext hq hx r]
    | false => simp [h]
theorem signS_ext (c : UInt8) (q : Bs) {x : Bs} (hx : Sep x) : signS (c :: q ++ x) = signS (c :: q) := by
  rw [List.cons_append, signS_cons, signS_cons]
  have : headP (fun d => decide (d = 61)) (q ++ x) = headP (fun d => decide (d = 61)) q := by
    cases q with
    | cons d r => rfl
    | nil =>
      cases x with
      | nil => rfl
      | cons b y =>
        have : isB b = true := by have : (!isB b) = false := hx; simpa using this
        exact decide_eq_false (isB_61 this)
  rw [this]
theorem next_ext (c : UInt8) (q : Bs) {x : Bs} (hx : Sep x) : nextS (c :: q ++ x) = nextS (c :: q) := by
  unfold nextS signR
  rw [tw_ext (fun b => isB_A) hx, tw_ext (fun b => isB_D) hx, signS_ext c q hx]
  rfl
/-! ### a token is there when its text is there -/
theorem tw_cut {q : UInt8 → Bool} : ∀ (s : Bs) (k : Nat), (s.takeWhile q).length ≤ k → (s.take k).takeWhile q = s.takeWhile q
  | [], k, _ => by rw [List.take_nil]
  | c :: r, 0, h => by
    cases hc : q c with
    | true => rw [tw_head hc] at h; simp at h
    | false => simp [hc]
  | c :: r, k + 1, h => by
    rw [List.take_succ_cons]
    cases hc : q c with
    | true =>
      rw [tw_head hc] at h ⊢
      rw [tw_head hc, tw_cut r k (by simpa using h)]
    | false => simp [hc]
theorem headP_cut {q : UInt8 → Bool} (s : Bs) {k : Nat} (h : 0 < k) : headP q (s.take k) = headP q s := by
  cases s with
  | nil => rw [List.take_nil]
  | cons c r => cases k with
    | zero => cases h
    | succ k => rfl
theorem signS_cut {s : Bs} {k : Nat} (h : signS s ≠ []) (hk : (signS s).length ≤ k) : signS (s.take k) = signS s := by
  cases s with
  | nil => rw [List.take_nil]
  | cons c q =>
    cases k with
    | zero => exact absurd (List.length_eq_zero_iff.1 (Nat.le_zero.1 hk)) h
    | succ k =>
      rw [List.take_succ_cons, signS_cons, signS_cons]
      rw [signS_cons] at hk
      by_cases hc : c = 61 ∧ headP (fun d => decide (d = 61)) q = true
      · rw [if_pos hc] at hk ⊢
        have : 0 < k := by simp at hk; omega
        rw [if_pos ⟨hc.1, by rw [headP_cut q this]; exact hc.2⟩]
      · rw [if_neg hc, if_neg]
        rintro ⟨h1, h2⟩
        cases k with
        | zero => rw [List.take_zero] at h2; cases h2
        | succ k => rw [headP_cut q (Nat.succ_pos k)] at h2; exact hc ⟨h1, h2⟩
theorem next_cut {s : Bs} {k : Nat} (h : (nextS s).2 = 0) (hk : (nextS s).1.2.1.length ≤ k) : nextS (s.take k) = nextS s := by
  have hp := (next_pos h).1
  have hk0 : 0 < k := by omega
  unfold nextS signR at *
  rw [headP_cut s hk0, headP_cut s hk0]
  by_cases h1 : headP isL s = true
  · rw [if_pos h1] at h hk ⊢
    rw [if_pos h1]
    by_cases h2 : (s.takeWhile isA).length ≤ 20
    · rw [if_pos h2] at hk
      rw [tw_cut s k hk]
    · rw [if_neg h2] at h; cases h
  · rw [if_neg h1] at h hk ⊢
    rw [if_neg h1]
    by_cases h2 : headP isD s = true
    · rw [if_pos h2] at h hk ⊢
      rw [if_pos h2]
      by_cases h3 : numB (s.takeWhile isD) = true
      · rw [if_pos h3] at hk
        rw [tw_cut s k hk]
      · rw [if_neg h3] at h; cases h
    · rw [if_neg h2] at h hk ⊢
      rw [if_neg h2]
      by_cases h3 : signS s = []
      · rw [if_pos h3] at h; cases h
      · rw [if_neg h3] at hk
        rw [signS_cut h3 hk]
/-! ### what tokens look like -/
theorem next_kind {s : Bs} (h : (nextS s).2 = 0) : (nextS s).1.1 ≠ 3 ∧ (nextS s).1.2.2.2 = 0 ∧ ((nextS s).1.1 ≠ 1 → (nextS s).1.2.2.1 = 0) ∧ ((nextS s).1.1 = 0 → wordB (nextS s).1.2.1 = true) ∧ ((nextS s).1.1 = 1 → numB (nextS s).1.2.1 = true ∧ (nextS s).1.2.2.1 = val (nextS s).1.2.1) := by
  unfold nextS signR at *
  by_cases h1 : headP isL s = true
  · rw [if_pos h1] at h ⊢
    by_cases h2 : (s.takeWhile isA).length ≤ 20
    · rw [if_pos h2]
      refine ⟨by simp, rfl, fun _ => rfl, fun _ => ?_, fun e => (by cases e)⟩
      show wordB (s.takeWhile isA) = true
      unfold wordB
      rw [(head_tw h1 isL_isA).1, tw_allp, decide_eq_true h2]; rfl
    · rw [if_neg h2] at h; cases h
  · rw [if_neg h1] at h ⊢
    by_cases h2 : headP isD s = true
    · rw [if_pos h2] at h ⊢
      by_cases h3 : numB (s.takeWhile isD) = true
      · rw [if_pos h3]
        exact ⟨by simp, rfl, fun e => absurd rfl e, fun e => (by cases e), fun _ => ⟨h3, rfl⟩⟩
      · rw [if_neg h3] at h; cases h
    · rw [if_neg h2] at h ⊢
      by_cases h3 : signS s = []
      · rw [if_pos h3] at h; cases h
      · rw [if_neg h3]
        exact ⟨by simp, rfl, fun _ => rfl, fun e => (by cases e), fun e => (by cases e)⟩
theorem next_err {s : Bs} (h : (nextS s).2 ≠ 0) : (nextS s).2 = 10 ∨ (nextS s).2 = 12 ∨ (nextS s).2 = 3 := by
  unfold nextS signR at *
  split
  · split
    · rename_i h1 h2; rw [if_pos h1, if_pos h2] at h; exact absurd rfl h
    · exact .inr (.inl rfl)
  · split
    · split
      · rename_i h1 h2 h3; rw [if_neg h1, if_pos h2, if_pos h3] at h; exact absurd rfl h
      · exact .inr (.inr rfl)
    · split
      · exact .inl rfl
      · rename_i h1 h2 h3; rw [if_neg h1, if_neg h2, if_neg h3] at h; exact absurd rfl h
abbrev eofT (n : Nat) : GToken := (3, [], 0, (n : Int))
theorem lexR_end (r : Bs) (p : Nat) : ∀ l, lexR p r = .inl l → ∃ m, l = m ++ [eofT (p + r.length)] := by
  refine lex_all (P := fun p r => ∀ l, lexR p r = .inl l → ∃ m, l = m ++ [eofT (p + r.length)]) ?_ ?_ ?_ ?_ r p
  · intro p l h
    rw [lexR_nil] at h
    injection h with h
    exact ⟨[], h.symm⟩
  · intro p c q hb ih l h
    rw [lexR_blank p q hb] at h
    obtain ⟨m, hm⟩ := ih l h
    exact ⟨m, by rw [hm, List.length_cons, show p + 1 + q.length = p + (q.length + 1) by omega]⟩
  · intro p c q hb h2 ih l h
    rw [lexR_tok p hb h2] at h
    obtain ⟨l', hl, rfl⟩ := consR_inl h
    obtain ⟨m, hm⟩ := ih l' hl
    have := next_le h2
    exact ⟨_ :: m, by rw [hm, List.length_drop, show p + (nextS (c :: q)).1.2.1.length + ((c :: q).length - (nextS (c :: q)).1.2.1.length) = p + (c :: q).length by omega]; rfl⟩
  · intro p c q hb h2 l h
    rw [lexR_err p hb h2] at h; cases h
/-- the place of an error, and what lies ahead of it -/
theorem lexR_bad (r : Bs) (p : Nat) : ∀ e, lexR p r = .inr e → ∃ k : Nat, e.1 = ((p + k : Nat) : Int) ∧ k < r.length ∧ (e.2 = 10 ∨ e.2 = 12 ∨ e.2 = 3) ∧ (∀ p' : Nat, lexR p' (r.drop k) = .inr ((p' : Int), e.2)) ∧ ∃ l, lexR p (r.take k) = .inl l := by
  refine lex_all (P := fun p r => ∀ e, lexR p r = .inr e → ∃ k : Nat, e.1 = ((p + k : Nat) : Int) ∧ k < r.length ∧ (e.2 = 10 ∨ e.2 = 12 ∨ e.2 = 3) ∧ (∀ p' : Nat, lexR p' (r.drop k) = .inr ((p' : Int), e.2)) ∧ ∃ l, lexR p (r.take k) = .inl l) ?_ ?_ ?_ ?_ r p
  · intro p e h
    rw [lexR_nil] at h; cases h
  · intro p c q hb ih e h
    rw [lexR_blank p q hb] at h
    obtain ⟨k, h1, h2, h3, h4, l, h5⟩ := ih e h
    refine ⟨k + 1, by rw [h1]; congr 1; omega, by simpa using h2, h3, fun p' => by rw [List.drop_succ_cons]; exact h4 p', l, ?_⟩
    rw [List.take_succ_cons, lexR_blank p _ hb]
    exact h5
  · intro p c q hb h2 ih e h
    rw [lexR_tok p hb h2] at h
    obtain ⟨k, h1, h3, h4, h5, l, h6⟩ := ih e (consR_inr h)
    have hm := next_le h2
    have hm0 := (next_pos h2).1
    rw [List.length_drop] at h3
    refine ⟨(nextS (c :: q)).1.2.1.length + k, by rw [h1]; congr 1; omega, by omega, h4, fun p' => by rw [← List.drop_drop]; exact h5 p', ?_⟩
    obtain ⟨n, hn⟩ : ∃ n, (nextS (c :: q)).1.2.1.length + k = n + 1 := ⟨(nextS (c :: q)).1.2.1.length + k - 1, by omega⟩
    have hc := next_cut (k := (nextS (c :: q)).1.2.1.length + k) h2 (by omega)
    rw [hn, List.take_succ_cons] at hc
    rw [hn, List.take_succ_cons]
    refine ⟨atT p (nextS (c :: q)).1 :: l, ?_⟩
    have e1 : (c :: q.take n).drop (nextS (c :: q)).1.2.1.length = ((c :: q).drop (nextS (c :: q)).1.2.1.length).take k := by
      rw [← List.take_succ_cons, ← hn, List.drop_take, Nat.add_sub_cancel_left]
    rw [lexR_tok p hb (by rw [hc]; exact h2), hc, e1, h6]; rfl
  · intro p c q hb h2 e h
    have h' := h
    rw [lexR_err p hb h2] at h
    injection h with h
    subst h
    exact ⟨0, rfl, by simp, next_err h2, fun p' => by rw [List.drop_zero]; exact lexR_err p' hb h2, _, by rw [List.take_zero]; exact lexR_nil p⟩
/-- where tokens lie -/
theorem lexR_place (r : Bs) (p : Nat) : ∀ l, lexR p r = .inl l → ∀ t ∈ l, (p : Int) ≤ t.2.2.2 ∧ t.2.2.2 ≤ ((p + r.length : Nat) : Int) := by
  refine lex_all (P := fun p r => ∀ l, lexR p r = .inl l → ∀ t ∈ l, (p : Int) ≤ t.2.2.2 ∧ t.2.2.2 ≤ ((p + r.length : Nat) : Int)) ?_ ?_ ?_ ?_ r p
  · intro p l h t ht
    rw [lexR_nil] at h
    injection h with h
    subst h
    rw [List.mem_singleton] at ht
    subst ht
    exact ⟨Int.le_refl _, Int.le_refl _⟩
  · intro p c q hb ih l h t ht
    rw [lexR_blank p q hb] at h
    have := ih l h t ht
    simp only [List.length_cons]
    omega
  · intro p c q hb h2 ih l h t ht
    rw [lexR_tok p hb h2] at h
    obtain ⟨l', hl, rfl⟩ := consR_inl h
    have hm := next_le h2
    rcases List.mem_cons.1 ht with rfl | ht
    · exact ⟨Int.le_refl _, by show (p : Int) ≤ _; omega⟩
    · have := ih l' hl t ht
      rw [List.length_drop] at this
      omega
  · intro p c q hb h2 l h
    rw [lexR_err p hb h2] at h; cases h
/-! ### shifts and joins -/
def shT (k : Nat) (t : GToken) : GToken := (t.1, t.2.1, t.2.2.1, t.2.2.2 + (k : Int))
def shR (k : Nat) : LexR → LexR
  | .inl l => .inl (l.map (shT k))
  | .inr e => .inr (e.1 + (k : Int), e.2)
theorem shR_cons (k : Nat) (t : GToken) (x : LexR) : shR k (consR t x) = consR (shT k t) (shR k x) := by cases x <;> rfl
theorem lexR_shift (k : Nat) (r : Bs) (p : Nat) : lexR (p + k) r = shR k (lexR p r) := by
  refine lex_all (P := fun p r => lexR (p + k) r = shR k (lexR p r)) ?_ ?_ ?_ ?_ r p
  · intro p
    rw [lexR_nil, lexR_nil]
    show _ = Sum.inl [shT k (3, [], 0, (p : Int))]
    unfold shT
    rw [Int.natCast_add]
  · intro p c q hb ih
    rw [lexR_blank _ q hb, lexR_blank _ q hb, ← ih]
    congr 1; omega
  · intro p c q hb h2 ih
    rw [lexR_tok _ hb h2, lexR_tok _ hb h2, shR_cons, ← ih, show p + k + (nextS (c :: q)).1.2.1.length = p + (nextS (c :: q)).1.2.1.length + k by omega,
      show atT (p + k) (nextS (c :: q)).1 = shT k (atT p (nextS (c :: q)).1) by unfold shT atT; rw [Int.natCast_add]]
  · intro p c q hb h2
    rw [lexR_err _ hb h2, lexR_err _ hb h2]
    show _ = Sum.inr ((p : Int) + (k : Int), (nextS (c :: q)).2)
    rw [Int.natCast_add]
theorem lexR_join {b : UInt8} (y : Bs) (hbl : isB b = true) (r : Bs) (p : Nat) : (∀ e, lexR p r = .inr e → lexR p (r ++ b :: y) = .inr e) ∧ (∀ m, lexR p r = .inl (m ++ [eofT (p + r.length)]) → lexR p (r ++ b :: y) = appR m (lexR (p + r.length + 1) y)) := by
  refine lex_all (P := fun p r => (∀ e, lexR p r = .inr e → lexR p (r ++ b :: y) = .inr e) ∧ (∀ m, lexR p r = .inl (m ++ [eofT (p + r.length)]) → lexR p (r ++ b :: y) = appR m (lexR (p + r.length + 1) y))) ?_ ?_ ?_ ?_ r p
  · intro p
    refine ⟨fun e h => (by rw [lexR_nil] at h; cases h), fun m h => ?_⟩
    rw [lexR_nil] at h
    injection h with h
    have : m = [] := by
      have := congrArg List.length h
      simp at this
      exact this
    subst this
    rw [appR_nil, List.nil_append, lexR_blank p y hbl]; rfl
  · intro p c q hb ih
    rw [List.cons_append, lexR_blank p _ hb, lexR_blank p _ hb]
    refine ⟨ih.1, fun m h => ?_⟩
    rw [List.length_cons] at h ⊢
    rw [show p + (q.length + 1) + 1 = p + 1 + q.length + 1 by omega]
    exact ih.2 m (by rw [h, show p + (q.length + 1) = p + 1 + q.length by omega])
  · intro p c q hb h2 ih
    have hm := next_le h2
    have hx := next_ext c q (sep_cons y hbl)
    have e1 : lexR p (c :: q ++ b :: y) = consR (atT p (nextS (c :: q)).1) (lexR (p + (nextS (c :: q)).1.2.1.length) ((c :: q).drop (nextS (c :: q)).1.2.1.length ++ b :: y)) := by
      rw [← List.drop_append_of_le_length hm, ← hx]
      exact lexR_tok p hb ((congrArg Prod.snd hx).trans h2)
    rw [e1, lexR_tok p hb h2]
    refine ⟨fun e h => ?_, fun m h => ?_⟩
    · rw [ih.1 e (consR_inr h)]; rfl
    · obtain ⟨l', hl, hl2⟩ := consR_inl h
      obtain ⟨m', hm'⟩ := lexR_end _ _ l' hl
      have e2 : p + (nextS (c :: q)).1.2.1.length + ((c :: q).drop (nextS (c :: q)).1.2.1.length).length = p + (c :: q).length := by rw [List.length_drop]; omega
      have h3 := ih.2 m' (by rw [hl, hm'])
      rw [h3, e2]
      rw [hm', e2, ← List.cons_append] at hl2
      have : m = atT p (nextS (c :: q)).1 :: m' := List.append_cancel_right hl2
      rw [this]
      cases lexR (p + (c :: q).length + 1) y <;> rfl
  · intro p c q hb h2
    have hx := next_ext c q (sep_cons y hbl)
    refine ⟨fun e h => ?_, fun m h => (by rw [lexR_err p hb h2] at h; cases h)⟩
    rw [lexR_err p hb h2] at h
    rw [← h]
    rw [← hx]
    exact lexR_err p hb (fun e => h2 ((congrArg Prod.snd hx).symm.trans e))
end Go.Proofs.YtblcedjcialnhaaDoor
