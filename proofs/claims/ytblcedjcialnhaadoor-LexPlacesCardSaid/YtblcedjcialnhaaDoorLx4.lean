/-
  Layer 14 (lex): texts of tokens; LexTells.
-/
import Derived.Test.YtblcedjcialnhaaDoorLx3
namespace Go.Proofs.YtblcedjcialnhaaDoor
open Go.Lad
set_option linter.unusedVariables false
set_option linter.unusedSimpArgs false

theorem lex_ind {P : Nat → Bs → Prop} (h0 : ∀ p, P p []) (hb : ∀ p c q, isB c = true → P (p + 1) q → P p (c :: q))
    (ht : ∀ p c q, isB c = false → (nextS (c :: q)).2 = 0 → P (p + (nextS (c :: q)).1.2.1.length) ((c :: q).drop (nextS (c :: q)).1.2.1.length) → P p (c :: q))
    (he : ∀ p c q, isB c = false → (nextS (c :: q)).2 ≠ 0 → P p (c :: q)) : ∀ (n : Nat) (r : Bs) (p : Nat), r.length ≤ n → P p r
  | _, [], p, _ => h0 p
  | 0, c :: q, p, h => absurd h (by simp)
  | n + 1, c :: q, p, h => by
    have hq : q.length ≤ n := by simpa using h
    cases hbl : isB c with
    | true => exact hb p c q hbl (lex_ind h0 hb ht he n q (p + 1) hq)
    | false =>
      by_cases h2 : (nextS (c :: q)).2 = 0
      · have := (next_pos h2).1
        exact ht p c q hbl h2 (lex_ind h0 hb ht he n _ _ (by simp; omega))
      · exact he p c q hbl h2
theorem lex_all {P : Nat → Bs → Prop} (h0 : ∀ p, P p []) (hb : ∀ p c q, isB c = true → P (p + 1) q → P p (c :: q))
    (ht : ∀ p c q, isB c = false → (nextS (c :: q)).2 = 0 → P (p + (nextS (c :: q)).1.2.1.length) ((c :: q).drop (nextS (c :: q)).1.2.1.length) → P p (c :: q))
    (he : ∀ p c q, isB c = false → (nextS (c :: q)).2 ≠ 0 → P p (c :: q)) (r : Bs) (p : Nat) : P p r := lex_ind h0 hb ht he r.length r p (Nat.le_refl _)
theorem consR_inl {t : GToken} {x : LexR} {l : List GToken} (h : consR t x = .inl l) : ∃ m, x = .inl m ∧ l = t :: m := by
  cases x with
  | inl m => injection h with h; exact ⟨m, rfl, h.symm⟩
  | inr e => cases h
theorem consR_inr {t : GToken} {x : LexR} {e : Int × Int} (h : consR t x = .inr e) : x = .inr e := by
  cases x with
  | inl m => cases h
  | inr e' => injection h with h; rw [h]
def wid (l : List GToken) : Nat := (l.map fun t => t.2.1.length + 1).sum
theorem lexR_len (r : Bs) (p : Nat) : ∀ l, lexR p r = .inl l → l.length ≤ r.length + 1 ∧ wid l ≤ 2 * r.length + 1 := by
  refine lex_all (P := fun p r => ∀ l, lexR p r = .inl l → l.length ≤ r.length + 1 ∧ wid l ≤ 2 * r.length + 1) ?_ ?_ ?_ ?_ r p
  · intro p l h
    rw [lexR_nil] at h
    injection h with h
    subst h
    exact ⟨Nat.le_refl _, Nat.le_refl _⟩
  · intro p c q hb ih l h
    rw [lexR_blank p q hb] at h
    have := ih l h
    simp only [List.length_cons]
    omega
  · intro p c q hb h2 ih l h
    rw [lexR_tok p hb h2] at h
    obtain ⟨m, hm, rfl⟩ := consR_inl h
    have h3 := ih m hm
    have h4 := (next_pos h2).1
    have h5 := next_le h2
    rw [List.length_drop] at h3
    have e : wid (atT p (nextS (c :: q)).1 :: m) = ((nextS (c :: q)).1.2.1.length + 1) + wid m := by unfold wid; rw [List.map_cons, List.sum_cons]; rfl
    rw [e, List.length_cons]
    omega
  · intro p c q hb h2 l h
    rw [lexR_err p hb h2] at h; cases h
theorem lexV_len (s : Bs) : (lexV s).1.length ≤ 8001 ∧ wid (lexV s).1 ≤ 16001 := by
  unfold lexV
  split
  · cases h : lexR 0 s with
    | inl l => have := lexR_len s 0 l h; show l.length ≤ 8001 ∧ wid l ≤ 16001; omega
    | inr e => exact ⟨by show (0 : Nat) ≤ 8001; omega, by show (0 : Nat) ≤ 16001; omega⟩
  · exact ⟨by show (0 : Nat) ≤ 8001; omega, by show (0 : Nat) ≤ 16001; omega⟩
theorem small_true : ladinglaw14_small = some true := by kernel_rfl
theorem eqZ_self (n : Int) : eqZ n n = true := by rw [eqZ_eq]; exact decide_eq_true rfl
theorem same_self {a : List GToken} (h : a.length ≤ Mx) : ladingref14_Same a a = some true := by
  unfold ladingref14_Same Mx at *
  rw [eqZ_self, Bool.not_true, cond_false]
  refine loopF_at (fun k => (k : Int)) a.length rfl (fun k hk => ?_) ?_
  · simp only [ladingref14_Same.b1, bif_ltZ, lt_t hk, if_true, idx_nat hk, bind_in, eqZ_self, z64_succ (show k + 1 ≤ 9223372036854775807 by omega)]
    simp
  · simp only [ladingref14_Same.b1, bif_ltZ, lt_f, if_false]
/-! ### texts -/
def wordsL (l : List GToken) : List Bs := (l.filter fun t => !decide (t.1 = 3)).map (·.2.1)
def textS (l : List GToken) : Bs := Lib.join (wordsL l) [32]
theorem join_snoc (xs : List Bs) (x sep : Bs) : Lib.join (xs ++ [x]) sep = if xs = [] then x else Lib.join xs sep ++ (sep ++ x) := by
  cases xs with
  | nil => rw [if_pos rfl]; exact Lib.join_one x sep
  | cons y r =>
    rw [if_neg (by simp), List.cons_append, Lib.join_cons, Lib.join_cons]
    unfold Lib.joinTail
    simp
theorem wordsL_snoc (l : List GToken) (t : GToken) : wordsL (l ++ [t]) = if t.1 = 3 then wordsL l else wordsL l ++ [t.2.1] := by
  unfold wordsL
  rw [List.filter_append]
  by_cases h : t.1 = 3
  · simp [h]
  · simp [h]
theorem textS_snoc (l : List GToken) (t : GToken) : textS (l ++ [t]) = if t.1 = 3 then textS l else if wordsL l = [] then t.2.1 else textS l ++ ([32] ++ t.2.1) := by
  unfold textS
  rw [wordsL_snoc]
  by_cases h : t.1 = 3
  · rw [if_pos h, if_pos h]
  · rw [if_neg h, if_neg h, join_snoc]
theorem wid_snoc (l : List GToken) (t : GToken) : wid (l ++ [t]) = wid l + (t.2.1.length + 1) := by unfold wid; simp
theorem wid_take (l : List GToken) (k : Nat) : wid (l.take k) ≤ wid l := by
  have : l = l.take k ++ l.drop k := (List.take_append_drop k l).symm
  have e : wid l = wid (l.take k) + wid (l.drop k) := by
    unfold wid
    rw [← List.sum_append, ← List.map_append, List.take_append_drop]
  omega
theorem textS_len (l : List GToken) : (textS l).length ≤ wid l := by
  refine rev_ind (p := fun l => (textS l).length ≤ wid l) (Nat.le_refl _) (fun l t ih => ?_) l
  rw [textS_snoc, wid_snoc]
  split
  · omega
  · split
    · omega
    · simp only [List.length_append, List.length_cons, List.length_nil]; omega
theorem wordsL_len (l : List GToken) : (wordsL l).length ≤ l.length := by unfold wordsL; rw [List.length_map]; exact List.length_filter_le _ _
theorem wordsL_nil {l : List GToken} (h : wordsL l = []) : textS l = [] := by unfold textS; rw [h]; rfl
theorem text_eq {l : List GToken} (h1 : l.length ≤ 1000000) (h2 : wid l ≤ 1000000000) : lex_Text l = some (textS l) := by
  unfold lex_Text
  have hl : loopF (fun x => lex_Text.b1 l x.1 x.2) (0, []) = some (wordsL l) := by
    refine loopF_at (fun k => ((k : Int), wordsL (l.take k))) l.length rfl (fun k hk => ?_) ?_
    · have h3 := wordsL_len (l.take k)
      rw [List.length_take] at h3
      simp only [lex_Text.b1, bif_ltZ, lt_t hk, if_true, idx_nat hk, bind_in, bif_not, bif_eqZ, z64_succ (show k + 1 ≤ 9223372036854775807 by omega), take_snoc l k hk, wordsL_snoc, app_in (show (wordsL (l.take k)).length + ([l[k].2.1] : List Bs).length ≤ 2147483647 by simp; omega)]
      split <;> rfl
    · simp only [lex_Text.b1, bif_ltZ, lt_f, if_false, List.take_length]
  rw [hl, bind_in]
  unfold lex_Text.j1 strings_Join joinF
  have h3 := wordsL_len l
  have h4 := textS_len l
  unfold textS at h4
  have e1 : Nat.ble (wordsL l).length 140737488355328 = true := Nat.ble_eq_true_of_le (by omega)
  have e2 : Nat.ble (Lib.join (wordsL l) [32]).length 140737488355328 = true := Nat.ble_eq_true_of_le (by omega)
  rw [e1, e2]; rfl
theorem cat_in {a b : Bs} (h : a.length + b.length ≤ 9223372036854775807) : cat? a b = some (a ++ b) := if_pos h
theorem rtext_eq {l : List GToken} (h1 : l.length ≤ 1000000) (h2 : wid l ≤ 1000000000) : ladingref14_Text l = some (textS l) := by
  unfold ladingref14_Text
  refine loopF_at (fun k => (textS (l.take k), decide (wordsL (l.take k) = []), (k : Int))) l.length rfl (fun k hk => ?_) ?_
  · have h3 := textS_len (l.take k)
    have h4 := wid_take l k
    have h5 : l[k].2.1.length + 1 ≤ wid l := by
      have := wid_take l (k + 1)
      rw [take_snoc l k hk, wid_snoc] at this
      omega
    simp only [ladingref14_Text.b1, bif_ltZ, lt_t hk, if_true, idx_nat hk, bind_in, bif_not, bif_eqZ, bif_dec, z64_succ (show k + 1 ≤ 9223372036854775807 by omega), take_snoc l k hk, wordsL_snoc, textS_snoc]
    by_cases h6 : l[k].1 = 3
    · simp only [if_pos h6]
    · simp only [if_neg h6]
      by_cases h7 : wordsL (l.take k) = []
      · simp only [if_pos h7]
        rw [wordsL_nil h7, cat_in (by simp; omega), bind_in]
        simp
      · simp only [if_neg h7]
        rw [cat_in (by simp; omega), bind_in, cat_in (by simp; omega), bind_in]
        simp
  · simp only [ladingref14_Text.b1, bif_ltZ, lt_f, if_false, List.take_length]
theorem cut3_eq (s : Bs) : ∃ c : Bs, ladinglaw14_cut s = some c ∧ c.length ≤ 3000 := by
  unfold ladinglaw14_cut
  rw [cut_in (by omega) (by omega) (by omega), bind_in]
  exact ⟨_, rfl, by simp; omega⟩
theorem tells_true (s : Bs) (p : List GToken) : ladinglaw14_LexTells s p = some true := by
  unfold ladinglaw14_LexTells
  rw [small_true, bind_in, bif_ltZ]
  by_cases hp : p.length ≤ 100
  · rw [if_neg (by omega)]
    have key : ∃ b, loopF (fun x => ladinglaw14_LexTells.b1 p true x) 0 = some b ∧ (b = .inr true ∨ (b = .inl () ∧ wid p ≤ 101 * p.length)) := by
      refine loopF_inv (fun k x => x = (k : Int) ∧ k ≤ p.length ∧ wid (p.take k) ≤ 101 * k) p.length ⟨rfl, Nat.zero_le _, Nat.le_refl _⟩ (fun k hk x hx => ?_) (fun x hx => ?_) (by omega)
      · obtain ⟨rfl, h1, h2⟩ := hx
        simp only [ladinglaw14_LexTells.b1, bif_ltZ, lt_t hk, if_true, idx_nat hk, bind_in, z64_succ (show k + 1 ≤ 9223372036854775807 by omega)]
        by_cases h3 : p[k].2.1.length ≤ 100
        · rw [if_neg (by omega)]
          exact .inl ⟨_, rfl, rfl, by omega, by rw [take_snoc p k hk, wid_snoc]; omega⟩
        · rw [if_pos (by omega)]
          exact .inr ⟨_, rfl, .inl rfl⟩
      · obtain ⟨rfl, h1, h2⟩ := hx
        rw [List.take_length] at h2
        exact ⟨_, by simp only [ladinglaw14_LexTells.b1, bif_ltZ, lt_f, if_false], .inr ⟨rfl, h2⟩⟩
    obtain ⟨b, hb, hq⟩ := key
    rw [hb, bind_in]
    rcases hq with rfl | ⟨rfl, hw⟩
    · rfl
    · dsimp only
      unfold ladinglaw14_LexTells.j1
      obtain ⟨c, hc, hl⟩ := cut3_eq s
      have h1 := lexV_len c
      rw [hc, bind_in, lex_eq, bind_in, rlex_eq, bind_in, num_eq (by unfold Mx; omega), bind_in, rnum_eq (by unfold Mx; omega), bind_in, cond_true, same_self (by unfold Mx; omega), bind_in, cond_true, eqZ_self, cond_true, eqZ_self, cond_true, eqZ_self, cond_true, BEq.rfl, cond_true,
        word_eq (by unfold Mx; omega), bind_in, rword_eq (by unfold Mx; omega), bind_in, BEq.rfl, cond_true, text_eq (by omega) (by omega), bind_in, rtext_eq (by omega) (by omega), bind_in, decide_eq_true rfl]
  · rw [if_pos (by omega)]
end Go.Proofs.YtblcedjcialnhaaDoor
