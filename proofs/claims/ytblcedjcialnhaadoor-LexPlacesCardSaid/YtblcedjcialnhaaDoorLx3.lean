/-
  Layer 14 (lex): all the tokens of a text.
-/
import Derived.Test.YtblcedjcialnhaaDoorLx2
namespace Go.Proofs.YtblcedjcialnhaaDoor
open Go.Lad
set_option linter.unusedVariables false
set_option linter.unusedSimpArgs false

abbrev LexR := List GToken ⊕ (Int × Int)
def consR (t : GToken) : LexR → LexR
  | .inl l => .inl (t :: l)
  | .inr e => .inr e
def appR (o : List GToken) : LexR → LexR
  | .inl l => .inl (o ++ l)
  | .inr e => .inr e
theorem appR_cons (o : List GToken) (t : GToken) (x : LexR) : appR (o ++ [t]) x = appR o (consR t x) := by
  cases x with
  | inl l => simp [appR, consR]
  | inr e => rfl
def toR : LexR → List GToken × Int × Int
  | .inl l => (l, 0, 0)
  | .inr e => ([], e.1, e.2)
def atT (p : Nat) (t : GToken) : GToken := (t.1, t.2.1, t.2.2.1, (p : Int))
noncomputable def lexR (p : Nat) : Bs → LexR
  | [] => .inl [(3, [], 0, (p : Int))]
  | c :: q => if isB c = true then lexR (p + 1) q else
    if (nextS (c :: q)).2 = 0 then consR (atT p (nextS (c :: q)).1) (lexR (p + (nextS (c :: q)).1.2.1.length) (q.drop ((nextS (c :: q)).1.2.1.length - 1)))
    else .inr ((p : Int), (nextS (c :: q)).2)
termination_by r => r.length
decreasing_by all_goals simp <;> omega
theorem lexR_nil (p : Nat) : lexR p [] = .inl [(3, [], 0, (p : Int))] := by rw [lexR]
theorem lexR_blank (p : Nat) {c : UInt8} (q : Bs) (h : isB c = true) : lexR p (c :: q) = lexR (p + 1) q := by rw [lexR, if_pos h]
/-- what a token is -/
theorem next_pos {s : Bs} (h : (nextS s).2 = 0) : 0 < (nextS s).1.2.1.length ∧ s.take (nextS s).1.2.1.length = (nextS s).1.2.1 := by
  unfold nextS signR at *
  by_cases h1 : headP isL s = true
  · rw [if_pos h1] at h ⊢
    by_cases h2 : (s.takeWhile isA).length ≤ 20
    · rw [if_pos h2]
      exact ⟨(head_tw h1 isL_isA).2, tw_take _ _⟩
    · rw [if_neg h2] at h; cases h
  · rw [if_neg h1] at h ⊢
    by_cases h2 : headP isD s = true
    · rw [if_pos h2] at h ⊢
      by_cases h3 : numB (s.takeWhile isD) = true
      · rw [if_pos h3]
        exact ⟨(head_tw h2 (fun _ h => h)).2, tw_take _ _⟩
      · rw [if_neg h3] at h; cases h
    · rw [if_neg h2] at h ⊢
      by_cases h3 : signS s = []
      · rw [if_pos h3] at h; cases h
      · rw [if_neg h3]
        exact ⟨List.length_pos_iff.2 h3, (signS_pre s).2⟩
theorem next_le {s : Bs} (h : (nextS s).2 = 0) : (nextS s).1.2.1.length ≤ s.length := by
  have := congrArg List.length (next_pos h).2
  rw [List.length_take] at this
  omega
theorem next_text {s : Bs} (h : (nextS s).2 ≠ 0) : (nextS s).1.2.1 = [] ∧ (nextS s).1.2.2.1 = 0 ∧ (nextS s).1.1 = 0 := by
  unfold nextS signR at *
  split
  · rename_i h1
    rw [if_pos h1] at h
    split
    · rename_i h2; rw [if_pos h2] at h; exact absurd rfl h
    · exact ⟨rfl, rfl, rfl⟩
  · rename_i h1
    rw [if_neg h1] at h
    split
    · rename_i h2
      rw [if_pos h2] at h
      split
      · rename_i h3; rw [if_pos h3] at h; exact absurd rfl h
      · exact ⟨rfl, rfl, rfl⟩
    · rename_i h2
      rw [if_neg h2] at h
      split
      · exact ⟨rfl, rfl, rfl⟩
      · rename_i h3; rw [if_neg h3] at h; exact absurd rfl h
theorem lexR_tok (p : Nat) {c : UInt8} {q : Bs} (h : isB c = false) (h2 : (nextS (c :: q)).2 = 0) :
    lexR p (c :: q) = consR (atT p (nextS (c :: q)).1) (lexR (p + (nextS (c :: q)).1.2.1.length) ((c :: q).drop (nextS (c :: q)).1.2.1.length)) := by
  rw [lexR, if_neg (by rw [h]; simp), if_pos h2]
  congr 2
  have := (next_pos h2).1
  obtain ⟨n, hn⟩ : ∃ n, (nextS (c :: q)).1.2.1.length = n + 1 := ⟨_, (Nat.succ_pred_eq_of_pos this).symm⟩
  rw [hn]; rfl
theorem lexR_err (p : Nat) {c : UInt8} {q : Bs} (h : isB c = false) (h2 : (nextS (c :: q)).2 ≠ 0) : lexR p (c :: q) = .inr ((p : Int), (nextS (c :: q)).2) := by
  rw [lexR, if_neg (by rw [h]; simp), if_neg h2]
theorem lexR_skip : ∀ (r : Bs) (p : Nat), lexR p r = lexR (p + (r.takeWhile isB).length) (r.drop (r.takeWhile isB).length)
  | [], p => rfl
  | c :: q, p => by
    cases h : isB c with
    | true =>
      rw [lexR_blank p q h, lexR_skip q (p + 1), tw_head h, List.length_cons, List.drop_succ_cons]
      congr 1; omega
    | false =>
      have e : (c :: q).takeWhile isB = [] := by simp [h]
      rw [e]; rfl
theorem iter_next {α β : Type} {body : α → Option (α ⊕ β)} {n : Nat} {x y : α} (h : body x = some (.inl y)) : iterM body (n + 1) x = iterM body n y := by rw [iterM, h]
theorem iter_done {α β : Type} {body : α → Option (α ⊕ β)} {n : Nat} {x : α} {b : β} (h : body x = some (.inr b)) : iterM body (n + 1) x = some b := by rw [iterM, h]
noncomputable def lexV (s : Bs) : List GToken × Int × Int := if s.length ≤ 8000 then toR (lexR 0 s) else ([], 0, 6)
theorem lex_iter {s : Bs} (hs : s.length ≤ 8000) : ∀ (n p : Nat) (o : List GToken), p ≤ s.length → o.length ≤ p → s.length - p < n → iterM (fun x => lex_Lex.b1 s x.1 x.2) n ((p : Int), o) = some (toR (appR o (lexR p (s.drop p))))
  | 0, p, o, _, _, h => absurd h (Nat.not_lt_zero _)
  | n + 1, p, o, hp, ho, h => by
    have hle := tw_le isB (s.drop p)
    rw [List.length_drop] at hle
    rw [lexR_skip (s.drop p) p, List.drop_drop]
    obtain ⟨k, hk⟩ : ∃ k, k = ((s.drop p).takeWhile isB).length := ⟨_, rfl⟩
    have hst : p + k < s.length → ∃ hb : p + k < s.length, isB s[p + k] = false := fun hb => ⟨hb, by
      have := tw_stop isB (s.drop p) (by rw [List.length_drop]; omega)
      rw [List.getElem_drop] at this
      simpa only [← hk] using this⟩
    have hb : lex_Lex.b1 s (p : Int) o = (bif eqZ ((p + k : Nat) : Int) (s.length : Int) then
        ((app? o ([(3, ([] : Bs), 0, ((p + k : Nat) : Int))] : List GToken)).bind fun l7 => some (.inr (l7, 0, 0)))
      else ((cut s ((p + k : Nat) : Int) (s.length : Int)).bind fun s8 => (lex_next s8).bind fun n9 =>
        bif (!eqZ n9.2 0) then some (.inr ([], ((p + k : Nat) : Int), n9.2))
        else ((app? o ([(n9.1.1, n9.1.2.1, n9.1.2.2.1, ((p + k : Nat) : Int))] : List GToken)).bind fun l10 => (z64 (((p + k : Nat) : Int) + (n9.1.2.1.length : Int))).bind fun v11 => some (.inl (v11, l10))))) := by
      unfold lex_Lex.b1
      rw [cut_drop hp, bind_in, span_eq (by rw [List.length_drop]; unfold Mx; omega), bind_in, ← hk, z64_add (by omega), bind_in]
    rw [← hk] at hle ⊢
    by_cases he : p + k = s.length
    · rw [iter_done (b := (o ++ [(3, ([] : Bs), 0, ((p + k : Nat) : Int))], 0, 0)) (by
        show lex_Lex.b1 s (p : Int) o = _
        rw [hb, bif_eqZ, if_pos (by omega), app_in (by simp; omega)]; rfl), List.drop_eq_nil_of_le (by omega), lexR_nil]
      rfl
    · have hlt : p + k < s.length := by omega
      obtain ⟨_, hbl⟩ := hst hlt
      rw [bif_eqZ, if_neg (by omega), cut_drop (by omega), bind_in, next_eq (by rw [List.length_drop]; omega) (by rw [List.length_drop]; unfold Mx; omega), bind_in, bif_not, bif_eqZ] at hb
      by_cases h0 : (nextS (s.drop (p + k))).2 = 0
      · rw [if_pos h0, app_in (by simp; omega), bind_in] at hb
        have h1 := next_le h0
        have h2 := (next_pos h0).1
        rw [List.length_drop] at h1
        rw [z64_add (by omega), bind_in] at hb
        rw [iter_next (show (fun x : Int × List GToken => lex_Lex.b1 s x.1 x.2) ((p : Int), o) = _ from hb), lex_iter hs n _ _ (by omega) (by simp; omega) (by omega), appR_cons]
        rw [drop_cons hlt] at h0 ⊢
        rw [lexR_tok _ hbl h0]
        rw [← drop_cons hlt, List.drop_drop]; rfl
      · rw [if_neg h0] at hb
        rw [iter_done (show (fun x : Int × List GToken => lex_Lex.b1 s x.1 x.2) ((p : Int), o) = _ from hb)]
        rw [drop_cons hlt] at h0 ⊢
        rw [lexR_err _ hbl h0]; rfl
theorem appR_nil (x : LexR) : appR [] x = x := by cases x <;> rfl
theorem lex_eq {s : Bs} : lex_Lex s = some (lexV s) := by
  unfold lex_Lex lexV
  rw [bif_ltZ]
  by_cases h : s.length ≤ 8000
  · rw [if_neg (by omega), if_pos h]
    refine loopF_of (n := s.length + 1) ?_ (by omega)
    have := lex_iter h (s.length + 1) 0 [] (Nat.zero_le _) (Nat.le_refl _) (by omega)
    rw [appR_nil, List.drop_zero] at this
    exact this
  · rw [if_pos (by omega), if_neg h]
theorem posT_0 {p : Nat} {t : GToken × Int} (h : t.2 = 0) : posT p t = (atT p t.1, 0) := by unfold posT; rw [if_pos h]; rfl
theorem posT_1 {p : Nat} {t : GToken × Int} (h : t.2 ≠ 0) : posT p t = ((0, [], 0, 0), t.2) := by unfold posT; rw [if_neg h]
theorem rlex_iter {s : Bs} (hs : s.length ≤ 8000) : ∀ (n p : Nat) (o : List GToken), p ≤ s.length → o.length ≤ p → s.length - p < n → iterM (fun x => ladingref14_Lex.b1 s x.1 x.2) n ((p : Int), o) = some (toR (appR o (lexR p (s.drop p))))
  | 0, p, o, _, _, h => absurd h (Nat.not_lt_zero _)
  | n + 1, p, o, hp, ho, h => by
    by_cases he : p = s.length
    · rw [iter_done (b := (o ++ [(3, ([] : Bs), 0, (p : Int))], 0, 0)) (by
        show ladingref14_Lex.b1 s (p : Int) o = _
        unfold ladingref14_Lex.b1
        rw [bif_ltZ, if_neg (by omega), app_in (by simp; omega), he]; rfl), List.drop_eq_nil_of_le (by omega), lexR_nil]
      rfl
    · have hlt : p < s.length := by omega
      have hb : ladingref14_Lex.b1 s (p : Int) o = (bif isB s[p] then some (.inl (((p + 1 : Nat) : Int), o)) else
        bif (!eqZ (posT p (nextS (s.drop p))).2 0) then some (.inr ([], (p : Int), (posT p (nextS (s.drop p))).2))
        else ((app? o ([(posT p (nextS (s.drop p))).1] : List GToken)).bind fun l8 => (z64 ((p : Int) + ((posT p (nextS (s.drop p))).1.2.1.length : Int))).bind fun v9 => some (.inl (v9, l8)))) := by
        unfold ladingref14_Lex.b1
        rw [bif_ltZ, if_pos (by omega), bAt_nat hlt, bind_in, rblank_eq, bind_in, z64_succ (by omega), bind_in, token_eq hlt (by unfold Mx; omega), bind_in]
      cases hbl : isB s[p] with
      | true =>
        rw [hbl, cond_true] at hb
        rw [iter_next (show (fun x : Int × List GToken => ladingref14_Lex.b1 s x.1 x.2) ((p : Int), o) = _ from hb), rlex_iter hs n _ _ (by omega) (by omega) (by omega), drop_cons hlt, lexR_blank _ _ hbl]
      | false =>
        rw [hbl, cond_false, bif_not, bif_eqZ] at hb
        by_cases h0 : (nextS (s.drop p)).2 = 0
        · rw [posT_0 h0, if_pos rfl, app_in (by simp; omega), bind_in] at hb
          have h1 := next_le h0
          have h2 := (next_pos h0).1
          rw [List.length_drop] at h1
          have e : (atT p (nextS (s.drop p)).1).2.1.length = (nextS (s.drop p)).1.2.1.length := rfl
          rw [e, z64_add (by omega), bind_in] at hb
          rw [iter_next (show (fun x : Int × List GToken => ladingref14_Lex.b1 s x.1 x.2) ((p : Int), o) = _ from hb), rlex_iter hs n _ _ (by omega) (by simp; omega) (by omega), appR_cons]
          rw [drop_cons hlt] at h0 ⊢
          rw [lexR_tok _ hbl h0]
          rw [← drop_cons hlt, List.drop_drop]
        · rw [posT_1 h0, if_neg h0] at hb
          rw [iter_done (show (fun x : Int × List GToken => ladingref14_Lex.b1 s x.1 x.2) ((p : Int), o) = _ from hb)]
          rw [drop_cons hlt] at h0 ⊢
          rw [lexR_err _ hbl h0]; rfl
theorem rlex_eq {s : Bs} : ladingref14_Lex s = some (lexV s) := by
  unfold ladingref14_Lex lexV
  rw [bif_ltZ]
  by_cases h : s.length ≤ 8000
  · rw [if_neg (by omega), if_pos h]
    refine loopF_of (n := s.length + 1) ?_ (by omega)
    have := rlex_iter h (s.length + 1) 0 [] (Nat.zero_le _) (Nat.le_refl _) (by omega)
    rw [appR_nil, List.drop_zero] at this
    exact this
  · rw [if_pos (by omega), if_neg h]
end Go.Proofs.YtblcedjcialnhaaDoor
