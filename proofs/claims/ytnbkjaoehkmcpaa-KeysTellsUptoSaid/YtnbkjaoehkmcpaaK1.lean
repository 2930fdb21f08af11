/-
  Layer 11 (keys): what the functions compute, in plain words.
-/
import Derived.Test.YtnbkjaoehkmcpaaKModel
import Derived.Test.YtnbkjaoehkmcpaaLs
namespace Go.Proofs.Ytnbkjaoehkmcpaa
open Go.Lad
set_option linter.unusedVariables false
set_option linter.unusedSimpArgs false
abbrev fKeys (f : GFact) : List Int := f.2.2.2.2.2.1
abbrev fNeed (f : GFact) : Int := f.2.2.2.2.2.2.1
abbrev fUntil (f : GFact) : Int := f.2.2.2.2.2.2.2.1
def nameF (f : GFact) : Bs := if f.1 = 0 then f.2.2.2.1.1 else if f.1 = 3 then f.2.2.2.2.1.2.1 else f.2.1
def ownB (s : Bs) (f : GFact) : Bool := decide ((f.1 = 5 ∨ f.1 = 4) ∧ f.2.1 = s)
def trB (s : Bs) (f : GFact) : Bool := decide (f.1 = 5 ∧ f.2.1 = s)
def deB (s : Bs) (f : GFact) : Bool := decide (f.1 = 6 ∧ f.2.1 = s)
def tdB (s : Bs) (f : GFact) : Bool := decide ((f.1 = 5 ∨ f.1 = 6) ∧ f.2.1 = s)
def ownT (l : List GFact) (s : Bs) : List Int × Int × Bool := match lastOf (ownB s) l with | none => ([], 0, false) | some f => (fKeys f, fNeed f, true)
def delT (l : List GFact) (s : Bs) : List Int × Int × Int := match lastOf (tdB s) l with | none => ([], 0, 0) | some f => if f.1 = 6 then (fKeys f, fNeed f, fUntil f) else ([], 0, 0)
def uniq (K S : List Int) : List Int := S.foldl (fun g x => if x ∈ K ∧ x ∉ g then g ++ [x] else g) []
def cnt (K S : List Int) : Int := (uniq K S).length
theorem uniq_snoc (K S : List Int) (x : Int) : uniq K (S ++ [x]) = if x ∈ K ∧ x ∉ uniq K S then uniq K S ++ [x] else uniq K S := by
  unfold uniq; rw [List.foldl_append]; rfl
theorem mem_uniq {K : List Int} : ∀ {S : List Int} {x : Int}, x ∈ uniq K S ↔ x ∈ S ∧ x ∈ K := by
  intro S
  refine rev_ind (p := fun S => ∀ {x : Int}, x ∈ uniq K S ↔ x ∈ S ∧ x ∈ K) (fun {x} => by simp [uniq]) (fun S y ih {x} => ?_) S
  rw [uniq_snoc]
  by_cases h : y ∈ K ∧ y ∉ uniq K S
  · rw [if_pos h, List.mem_append, List.mem_append, ih, List.mem_singleton]
    constructor
    · rintro (⟨h1, h2⟩ | rfl)
      · exact ⟨.inl h1, h2⟩
      · exact ⟨.inr rfl, h.1⟩
    · rintro ⟨h1 | rfl, h2⟩
      · exact .inl ⟨h1, h2⟩
      · exact .inr rfl
  · rw [if_neg h, ih, List.mem_append, List.mem_singleton]
    constructor
    · rintro ⟨h1, h2⟩; exact ⟨.inl h1, h2⟩
    · rintro ⟨h1 | rfl, h2⟩
      · exact ⟨h1, h2⟩
      · by_cases h3 : x ∈ uniq K S
        · exact ih.1 h3
        · exact absurd ⟨h2, h3⟩ h
theorem uniq_nodup (K : List Int) : ∀ S, (uniq K S).Nodup := by
  intro S
  refine rev_ind (p := fun S => (uniq K S).Nodup) List.nodup_nil (fun S y ih => ?_) S
  rw [uniq_snoc]
  split
  · rename_i h
    rw [List.nodup_append]
    refine ⟨ih, by simp, fun a ha b hb => ?_⟩
    simp at hb
    subst hb
    exact fun e => h.2 (e ▸ ha)
  · exact ih
theorem uniq_len (K S : List Int) : (uniq K S).length ≤ S.length := by
  refine rev_ind (p := fun S => (uniq K S).length ≤ S.length) (Nat.le_refl _) (fun S y ih => ?_) S
  rw [uniq_snoc]
  split <;> simp <;> omega
theorem cnt_le {K S T : List Int} (h : ∀ x ∈ S, x ∈ K → x ∈ T) : cnt K S ≤ cnt K T := by
  unfold cnt
  have := nodup_le (uniq_nodup K S) (m := uniq K T) fun x hx => by
    obtain ⟨h1, h2⟩ := mem_uniq.1 hx
    exact mem_uniq.2 ⟨h x h1 h2, h2⟩
  omega
theorem cnt_eq {K S T : List Int} (h : ∀ x, x ∈ S ↔ x ∈ T) : cnt K S = cnt K T := Int.le_antisymm (cnt_le fun x hx _ => (h x).1 hx) (cnt_le fun x hx _ => (h x).2 hx)

/-! ### lists -/
theorem clone_eq {l : List Int} (h : l.length ≤ 1000000) : slices_Clone_int_int l = some l := by
  unfold slices_Clone_int_int
  refine bothN_same ?_ (fun h => by rw [h])
  rw [app_in (by simp; omega)]; rfl
theorem clone_eq2 {l : List Int} (h : l.length ≤ 1000000) : slices_Clone_int_int_v2 l = some l := by
  unfold slices_Clone_int_int_v2
  refine bothN_same ?_ (fun h => by rw [h])
  rw [app_in (by simp; omega)]; rfl
theorem index_eq {l : List Int} {p : Int} (h : l.length ≤ 1000000) : slices_Index_int_int l p = some ((scan (fun k x => if p = x then some (k : Int) else none) 0 l).getD (-1)) := by
  unfold slices_Index_int_int
  refine loop_scan l (fun k x => if p = x then some (k : Int) else none) (-1) (fun k hk => ?_) ?_ (by omega)
  · simp only [slices_Index_int_int.b1, bif_ltZ, lt_t hk, if_true, idx_nat hk, bind_in, bif_eqZ, z64_succ (show k + 1 ≤ 9223372036854775807 by omega)]
    split <;> rfl
  · simp only [slices_Index_int_int.b1, bif_ltZ, lt_f, if_false]
theorem contains_eq {l : List Int} {p : Int} (h : l.length ≤ 1000000) : slices_Contains_int_int l p = some (decide (p ∈ l)) := by
  unfold slices_Contains_int_int
  rw [index_eq h]
  simp only [bind_in, leZ_eq]
  congr 1
  rw [decide_eq_decide]
  cases hs : scan (fun k x => if p = x then some (k : Int) else none) 0 l with
  | none =>
    simp only [Option.getD_none]
    refine iff_of_false (by omega) fun hm => ?_
    obtain ⟨i, hi, he⟩ := List.mem_iff_getElem.1 hm
    have := scan_none.1 hs i hi
    rw [he, if_pos rfl] at this; cases this
  | some b =>
    obtain ⟨i, hi, h1, _⟩ := scan_some.1 hs
    split at h1
    · rename_i he
      injection h1 with h1
      simp only [Option.getD_some]
      exact iff_of_true (by omega) (he ▸ List.getElem_mem hi)
    · cases h1
theorem has_eq {l : List Int} {p : Int} (h : l.length ≤ 1000000) : ladingref11_Has l p = some (decide (p ∈ l)) := by
  unfold ladingref11_Has
  rw [loop_scan l (fun _ x => if (decide (x = p)) = true then some true else none) false (fun k hk => ?_) ?_ (by omega), scan_any (fun x => decide (x = p))]
  · by_cases hp : p ∈ l
    · rw [if_pos (List.any_eq_true.2 ⟨p, hp, by simp⟩), decide_eq_true hp]; rfl
    · rw [if_neg (fun ha => by
        obtain ⟨x, hx, he⟩ := List.any_eq_true.1 ha
        exact hp (of_decide_eq_true he ▸ hx)), decide_eq_false hp]; rfl
  · simp only [ladingref11_Has.b1, bif_ltZ, lt_f, if_false]
  · simp only [ladingref11_Has.b1, bif_ltZ, lt_t hk, if_true, idx_nat hk, bind_in, bif_eqZ, z64_succ (show k + 1 ≤ 9223372036854775807 by omega), decide_eq_true_eq]
    split <;> rfl
theorem ints_eq {a b : List Int} (h : a.length ≤ 1000000) : ladingref11_Ints a b = some (decide (a = b)) := by
  unfold ladingref11_Ints
  rw [bif_not, bif_eqZ]
  by_cases hl : a.length = b.length
  · rw [if_pos (by omega), loop_scan a (fun k x => if x = b.getD k 0 then none else some false) true (fun k hk => ?_) ?_ (by omega)]
    · congr 1
      cases hs : scan (fun k x => if x = b.getD k 0 then none else some false) 0 a with
      | none =>
        have : a = b := List.ext_getElem hl fun i h1 h2 => by
          have := scan_none.1 hs i h1
          rw [Nat.zero_add, List.getD_eq_getElem?_getD, List.getElem?_eq_getElem h2] at this
          split at this
          · assumption
          · cases this
        rw [decide_eq_true this]; rfl
      | some c =>
        obtain ⟨i, hi, h1, _⟩ := scan_some.1 hs
        rw [Nat.zero_add, List.getD_eq_getElem?_getD, List.getElem?_eq_getElem (by omega)] at h1
        split at h1
        · cases h1
        · rename_i hne
          injection h1 with h1
          subst h1
          rw [decide_eq_false fun e => hne (by subst e; rfl)]; rfl
    · simp only [ladingref11_Ints.b1, bif_ltZ, lt_f, if_false]
    · simp only [ladingref11_Ints.b1, bif_ltZ, lt_t hk, if_true, idx_nat hk, idx_nat (show k < b.length by omega), bind_in, bif_not, bif_eqZ, z64_succ (show k + 1 ≤ 9223372036854775807 by omega), List.getD_eq_getElem?_getD, List.getElem?_eq_getElem (show k < b.length by omega), Option.getD_some]
      split <;> rfl
  · rw [if_neg (by omega), decide_eq_false fun e => hl (by rw [e])]
theorem equal_eq {a b : List Int} (h : a.length ≤ 1000000) : slices_Equal_int_int a b = some (decide (a = b)) := by
  rw [← ints_eq h]; rfl
theorem only_eq {S L : List Int} (h : S.length ≤ 1000000) (h' : L.length ≤ 1000000) : ladinglaw11_only S L = some (decide (∀ x ∈ S, x ∈ L)) := by
  unfold ladinglaw11_only
  rw [loop_scan S (fun _ x => if (decide (x ∉ L)) = true then some false else none) true (fun k hk => ?_) ?_ (by omega), scan_any (fun x => decide (x ∉ L))]
  · by_cases hp : ∀ x ∈ S, x ∈ L
    · rw [if_neg (fun ha => by
        obtain ⟨x, hx, he⟩ := List.any_eq_true.1 ha
        exact of_decide_eq_true he (hp x hx)), decide_eq_true hp]; rfl
    · rw [if_pos (by
        rw [List.any_eq_true]
        apply Classical.byContradiction
        intro hc
        exact hp fun x hx => Classical.byContradiction fun hn => hc ⟨x, hx, decide_eq_true hn⟩), decide_eq_false hp]; rfl
  · simp only [ladinglaw11_only.b1, bif_ltZ, lt_f, if_false]
  · simp only [ladinglaw11_only.b1, bif_ltZ, lt_t hk, if_true, idx_nat hk, bind_in, has_eq h', bif_not, bif_dec, z64_succ (show k + 1 ≤ 9223372036854775807 by omega), decide_eq_true_eq, ite_not]
    split <;> rfl
theorem sign_eq {S K : List Int} {n : Int} (h : S.length ≤ 1000000) (h' : K.length ≤ 1000000) : keys_sign S K n = some (decide (n ≤ cnt K S)) := by
  unfold keys_sign
  refine loopF_at (fun k => ((k : Int), uniq K (S.take k))) S.length (by simp [uniq]) (fun k hk => ?_) ?_
  · have hu := uniq_len K (S.take k)
    rw [List.length_take] at hu
    simp only [keys_sign.b1, bif_ltZ, lt_t hk, if_true, idx_nat hk, bind_in, contains_eq h', contains_eq (l := uniq K (S.take k)) (p := S[k]) (by omega), take_snoc S k hk, uniq_snoc, keys_sign.j1, z64_succ (show k + 1 ≤ 9223372036854775807 by omega), app_in (show (uniq K (S.take k)).length + ([S[k]] : List Int).length ≤ 2147483647 by simp; omega)]
    by_cases h1 : S[k] ∈ K
    · by_cases h2 : S[k] ∈ uniq K (S.take k)
      · simp [h1, h2, bind_in]
      · simp [h1, h2, bind_in]
    · simp [h1, bind_in]
  · simp only [keys_sign.b1, bif_ltZ, lt_f, if_false, leZ_eq, List.take_length]; rfl
theorem count_eq {S K : List Int} (h : S.length ≤ 1000000) (h' : K.length ≤ 1000000) : ladingref11_Count S K = some (cnt K S) := by
  unfold ladingref11_Count
  refine loopF_at (fun k => (((uniq K (S.take k)).length : Int), (k : Int))) S.length (by simp [uniq]) (fun k hk => ?_) ?_
  · have hu := uniq_len K (S.take k)
    rw [List.length_take] at hu
    have hc : cut S 0 (k : Int) = some (S.take k) := by rw [cut_in (by omega) (by omega) (by omega)]; simp
    simp only [ladingref11_Count.b1, bif_ltZ, lt_t hk, if_true, idx_nat hk, bind_in, has_eq h', hc, has_eq (l := S.take k) (p := S[k]) (by rw [List.length_take]; omega), take_snoc S k hk, uniq_snoc, ladingref11_Count.j1, z64_succ (show k + 1 ≤ 9223372036854775807 by omega), z64_succ (show (uniq K (S.take k)).length + 1 ≤ 9223372036854775807 by omega), mem_uniq]
    by_cases h1 : S[k] ∈ K
    · by_cases h2 : S[k] ∈ S.take k
      · simp [h1, h2, bind_in]
      · simp [h1, h2, bind_in]
    · simp [h1, bind_in]
  · simp only [ladingref11_Count.b1, bif_ltZ, lt_f, if_false, List.take_length]; rfl
theorem name_eq (f : GFact) : keys_name f = some (nameF f) := by
  unfold keys_name nameF
  simp only [bif_eqZ]
  split
  · rfl
  · split <;> rfl
theorem rname_eq (f : GFact) : ladingref11_Name f = some (nameF f) := name_eq f
theorem owns_eq (f : GFact) (s : Bs) : keys_owns f s = some (ownB s f) := by
  unfold keys_owns ownB
  simp only [bif_eqZ]
  by_cases h5 : f.1 = 5
  · simp [h5]
  · by_cases h4 : f.1 = 4
    · simp [h4]
    · simp [h4, h5]
theorem tr_eq (f : GFact) (s : Bs) : keys_Delegates_1 f s = some (trB s f) := by
  unfold keys_Delegates_1 trB
  simp only [bif_eqZ]
  by_cases h5 : f.1 = 5 <;> simp [h5]
theorem de_eq (f : GFact) (s : Bs) : keys_Delegates_2 f s = some (deB s f) := by
  unfold keys_Delegates_2 deB
  simp only [bif_eqZ]
  by_cases h5 : f.1 = 6 <;> simp [h5]

/-! ### the last of its kind -/
/-- a is where the last one is for which p holds, or -1 -/
def LastP (p : GFact → Bool) (l : List GFact) (a : Int) : Prop := (a = -1 ∧ ∀ x ∈ l, p x = false) ∨ ∃ k, ∃ hk : k < l.length, a = (k : Int) ∧ p l[k] = true ∧ ∀ j (hj : j < l.length), k < j → p l[j] = false
theorem down_last {p : GFact → Bool} {l : List GFact} {body : Int → Option (Int ⊕ Int)} (hl : l.length ≤ 1000000)
    (h : ∀ k (hk : k < l.length), body (k : Int) = some (if p l[k] = true then .inr (k : Int) else .inl ((k : Int) - 1)))
    (hd : body (-1) = some (.inr (-1))) : ∃ a, loopF body ((l.length : Int) - 1) = some a ∧ LastP p l a := by
  have e := loop_down (body := body) l (fun k x => if p x = true then some (k : Int) else none) (-1) (fun k hk => by rw [h k hk]; split <;> rfl) hd (by omega)
  refine ⟨_, e, ?_⟩
  cases hs : scan (fun k x => (fun (k : Nat) x => if p x = true then some (k : Int) else none) (l.length - 1 - k) x) 0 l.reverse with
  | none =>
    refine .inl ⟨rfl, fun x hx => ?_⟩
    obtain ⟨i, hi, he⟩ := List.mem_iff_getElem.1 (List.mem_reverse.2 hx)
    have := scan_none.1 hs i hi
    dsimp only at this
    rw [he] at this
    cases hp : p x with
    | false => rfl
    | true => rw [hp] at this; cases this
  | some b =>
    obtain ⟨i, hi, h1, h2⟩ := scan_some.1 hs
    rw [List.length_reverse] at hi
    dsimp only at h1
    rw [List.getElem_reverse, Nat.zero_add] at h1
    refine .inr ⟨l.length - 1 - i, by omega, ?_, ?_, fun j hj hij => ?_⟩
    · split at h1
      · injection h1 with h1; exact h1.symm
      · cases h1
    · split at h1
      · assumption
      · cases h1
    · have := h2 (l.length - 1 - j) (by omega)
      dsimp only at this
      rw [List.getElem_reverse] at this
      simp only [show l.length - 1 - (l.length - 1 - j) = j by omega] at this
      split at this
      · cases this
      · rename_i hp; simpa using hp
theorem last1 {l : List GFact} {s : Bs} (h : l.length ≤ 1000000) : ∃ a, keys_last l s = some a ∧ LastP (ownB s) l a := by
  unfold keys_last
  rw [z64_i (by omega)]
  simp only [bind_in]
  refine down_last h (fun k hk => ?_) ?_
  · simp only [keys_last.b1, bif_leZ, eq_true (show (0 : Int) ≤ (k : Int) by omega), if_true, idx_nat hk, bind_in, keys_Owner_1, owns_eq, z64_i (show -9223372036854775808 ≤ (k : Int) - 1 ∧ (k : Int) - 1 ≤ 9223372036854775807 by omega)]
    cases ownB s l[k] <;> rfl
  · simp only [keys_last.b1, bif_leZ, eq_false (show ¬ (0 : Int) ≤ -1 by omega), if_false]
theorem last2 {l : List GFact} {s : Bs} (h : l.length ≤ 1000000) : ∃ a, keys_last_v2 l s = some a ∧ LastP (trB s) l a := by
  unfold keys_last_v2
  rw [z64_i (by omega)]
  simp only [bind_in]
  refine down_last h (fun k hk => ?_) ?_
  · simp only [keys_last_v2.b1, bif_leZ, eq_true (show (0 : Int) ≤ (k : Int) by omega), if_true, idx_nat hk, bind_in, tr_eq, z64_i (show -9223372036854775808 ≤ (k : Int) - 1 ∧ (k : Int) - 1 ≤ 9223372036854775807 by omega)]
    cases trB s l[k] <;> rfl
  · simp only [keys_last_v2.b1, bif_leZ, eq_false (show ¬ (0 : Int) ≤ -1 by omega), if_false]
theorem last3 {l : List GFact} {s : Bs} (h : l.length ≤ 1000000) : ∃ a, keys_last_v3 l s = some a ∧ LastP (deB s) l a := by
  unfold keys_last_v3
  rw [z64_i (by omega)]
  simp only [bind_in]
  refine down_last h (fun k hk => ?_) ?_
  · simp only [keys_last_v3.b1, bif_leZ, eq_true (show (0 : Int) ≤ (k : Int) by omega), if_true, idx_nat hk, bind_in, de_eq, z64_i (show -9223372036854775808 ≤ (k : Int) - 1 ∧ (k : Int) - 1 ≤ 9223372036854775807 by omega)]
    cases deB s l[k] <;> rfl
  · simp only [keys_last_v3.b1, bif_leZ, eq_false (show ¬ (0 : Int) ≤ -1 by omega), if_false]
/-- bounds -/
def Bd (l : List GFact) : Prop := l.length ≤ 1000 ∧ ∀ f ∈ l, (fKeys f).length ≤ 1000
theorem Bd.take {l : List GFact} (h : Bd l) (n : Nat) : Bd (l.take n) := ⟨by rw [List.length_take]; have := h.1; omega, fun f hf => h.2 f (List.mem_of_mem_take hf)⟩
theorem owner_eq {l : List GFact} {s : Bs} (h : Bd l) : keys_Owner l s = some (ownT l s) := by
  obtain ⟨a, h1, h2⟩ := last1 (l := l) (s := s) (by have := h.1; omega)
  unfold keys_Owner
  rw [h1]
  simp only [bind_in, bif_ltZ]
  rcases h2 with ⟨rfl, h3⟩ | ⟨k, hk, rfl, h3, h4⟩
  · rw [if_pos (by omega)]
    unfold ownT
    rw [lastOf_none.2 h3]
  · rw [if_neg (by omega), idx_nat hk]
    simp only [bind_in]
    rw [clone_eq (Nat.le_trans (h.2 _ (List.getElem_mem hk)) (by omega))]
    simp only [bind_in]
    unfold ownT
    rw [lastOf_at hk h3 h4]
theorem owner_eq2 {l : List GFact} {s : Bs} (h : Bd l) : keys_Owner_v2 l s = some ((ownT l s).2.1, (ownT l s).2.2, (ownT l s).1) := by
  obtain ⟨a, h1, h2⟩ := last1 (l := l) (s := s) (by have := h.1; omega)
  unfold keys_Owner_v2
  rw [h1]
  simp only [bind_in, bif_ltZ]
  rcases h2 with ⟨rfl, h3⟩ | ⟨k, hk, rfl, h3, h4⟩
  · rw [if_pos (by omega)]
    unfold ownT
    rw [lastOf_none.2 h3]
  · rw [if_neg (by omega), idx_nat hk]
    simp only [bind_in]
    rw [clone_eq2 (Nat.le_trans (h.2 _ (List.getElem_mem hk)) (by omega))]
    simp only [bind_in]
    unfold ownT
    rw [lastOf_at hk h3 h4]
theorem del_none {l : List GFact} {s : Bs} {a : Int} (h1 : LastP (trB s) l a) (h2 : ∀ x ∈ l.drop (a + 1).toNat, deB s x = false) : delT l s = ([], 0, 0) := by
  have key : ∀ j (hj : j < l.length), a < (j : Int) → tdB s l[j] = false := fun j hj haj => by
    have hd : deB s l[j] = false := by
      refine h2 _ ?_
      rw [List.mem_drop_iff_getElem]
      refine ⟨j - (a + 1).toNat, by omega, ?_⟩
      congr 1; omega
    have ht : trB s l[j] = false := by
      rcases h1 with ⟨_, h⟩ | ⟨k, hk, rfl, _, h⟩
      · exact h _ (List.getElem_mem hj)
      · exact h j hj (by omega)
    unfold deB at hd
    unfold trB at ht
    rw [decide_eq_false_iff_not] at hd ht
    unfold tdB
    rw [decide_eq_false_iff_not]
    rintro ⟨h5 | h6, hs⟩
    · exact ht ⟨h5, hs⟩
    · exact hd ⟨h6, hs⟩
  unfold delT
  rcases h1 with ⟨rfl, h⟩ | ⟨k, hk, rfl, h3, h⟩
  · rw [lastOf_none.2 fun x hx => by
      obtain ⟨j, hj, rfl⟩ := List.mem_iff_getElem.1 hx
      exact key j hj (by omega)]
  · have h5 : l[k].1 = 5 ∧ l[k].2.1 = s := by unfold trB at h3; exact of_decide_eq_true h3
    rw [lastOf_at hk (by unfold tdB; exact decide_eq_true ⟨.inl h5.1, h5.2⟩) fun j hj hkj => key j hj (by omega)]
    dsimp only
    rw [if_neg (by rw [h5.1]; decide)]
theorem del_some {l : List GFact} {s : Bs} {a : Int} (h1 : LastP (trB s) l a) {i : Nat} (hi : (a + 1).toNat + i < l.length) (h2 : deB s l[(a + 1).toNat + i] = true) (h3 : ∀ j (hj : j < l.length), (a + 1).toNat + i < j → deB s l[j] = false) : delT l s = (fKeys l[(a + 1).toNat + i], fNeed l[(a + 1).toNat + i], fUntil l[(a + 1).toNat + i]) := by
  have h6 : l[(a + 1).toNat + i].1 = 6 ∧ l[(a + 1).toNat + i].2.1 = s := by unfold deB at h2; exact of_decide_eq_true h2
  unfold delT
  have ha : -1 ≤ a := by rcases h1 with ⟨rfl, _⟩ | ⟨k, hk, rfl, _⟩ <;> omega
  rw [lastOf_at hi (by unfold tdB; exact decide_eq_true ⟨.inr h6.1, h6.2⟩) fun j hj hij => by
    have hd := h3 j hj hij
    have ht : trB s l[j] = false := by
      rcases h1 with ⟨_, h⟩ | ⟨k, hk, rfl, _, h⟩
      · exact h _ (List.getElem_mem hj)
      · exact h j hj (by omega)
    unfold deB at hd
    unfold trB at ht
    rw [decide_eq_false_iff_not] at hd ht
    unfold tdB
    rw [decide_eq_false_iff_not]
    rintro ⟨h5 | h6, hs⟩
    · exact ht ⟨h5, hs⟩
    · exact hd ⟨h6, hs⟩]
  dsimp only
  rw [if_pos h6.1]
theorem del_cases {l : List GFact} {s : Bs} (h : Bd l) : ∃ a b, keys_last_v2 l s = some a ∧ z64 (a + 1) = some (a + 1) ∧ cut l (a + 1) (l.length : Int) = some (l.drop (a + 1).toNat) ∧ keys_last_v3 (l.drop (a + 1).toNat) s = some b ∧
    ((b < 0 ∧ delT l s = ([], 0, 0)) ∨ (¬ b < 0 ∧ z64 (a + 1 + b) = some (a + 1 + b) ∧ ∃ f, idx l (a + 1 + b) = some f ∧ f ∈ l ∧ delT l s = (fKeys f, fNeed f, fUntil f))) := by
  have hl := h.1
  obtain ⟨a, h1, h2⟩ := last2 (l := l) (s := s) (by omega)
  have ha : -1 ≤ a ∧ a + 1 ≤ l.length := by
    rcases h2 with ⟨rfl, _⟩ | ⟨k, hk, rfl, _⟩ <;> omega
  obtain ⟨b, h3, h4⟩ := last3 (l := l.drop (a + 1).toNat) (s := s) (by rw [List.length_drop]; omega)
  refine ⟨a, b, h1, z64_i (by omega), ?_, h3, ?_⟩
  · rw [cut_in (by omega) (by omega) (by omega)]
    simp
  · rcases h4 with ⟨rfl, h5⟩ | ⟨k, hk, rfl, h5, h6⟩
    · exact .inl ⟨by omega, del_none h2 h5⟩
    · rw [List.length_drop] at hk
      rw [List.getElem_drop] at h5
      refine .inr ⟨by omega, z64_i (by omega), _, idx_eq (k := (a + 1).toNat + k) (by omega) (by omega), List.getElem_mem _, del_some h2 (by omega) h5 fun j hj hkj => ?_⟩
      have := h6 (j - (a + 1).toNat) (by rw [List.length_drop]; omega) (by omega)
      rw [List.getElem_drop] at this
      simp only [show (a + 1).toNat + (j - (a + 1).toNat) = j by omega] at this
      exact this
theorem delegates_eq {l : List GFact} {s : Bs} (h : Bd l) : keys_Delegates l s = some (delT l s) := by
  obtain ⟨a, b, h1, h2, h3, h4, h5⟩ := del_cases (s := s) h
  unfold keys_Delegates
  rw [h1]
  simp only [bind_in]
  rw [h2]
  simp only [bind_in]
  rw [h3]
  simp only [bind_in]
  rw [h4]
  simp only [bind_in, bif_ltZ]
  rcases h5 with ⟨hb, hd⟩ | ⟨hb, hz, f, hf, hm, hd⟩
  · rw [if_pos hb, hd]
  · rw [if_neg hb, hz]
    simp only [bind_in]
    rw [hf]
    simp only [bind_in]
    rw [hd]
    rw [clone_eq (Nat.le_trans (h.2 f hm) (by omega))]
    simp only [bind_in]
theorem delegates_eq2 {l : List GFact} {s : Bs} (h : Bd l) : keys_Delegates_v2 l s = some ((delT l s).2.1, (delT l s).2.2, (delT l s).1) := by
  obtain ⟨a, b, h1, h2, h3, h4, h5⟩ := del_cases (s := s) h
  unfold keys_Delegates_v2
  rw [h1]
  simp only [bind_in]
  rw [h2]
  simp only [bind_in]
  rw [h3]
  simp only [bind_in]
  rw [h4]
  simp only [bind_in, bif_ltZ]
  rcases h5 with ⟨hb, hd⟩ | ⟨hb, hz, f, hf, hm, hd⟩
  · rw [if_pos hb, hd]
  · rw [if_neg hb, hz]
    simp only [bind_in]
    rw [hf]
    simp only [bind_in]
    rw [hd]
    rw [clone_eq2 (Nat.le_trans (h.2 f hm) (by omega))]
    simp only [bind_in]
theorem ownT_len {l : List GFact} (h : Bd l) (s : Bs) : (ownT l s).1.length ≤ 1000 := by
  unfold ownT
  cases hl : lastOf (ownB s) l with
  | none => simp
  | some f => exact h.2 f (lastOf_some hl).1
theorem delT_len {l : List GFact} (h : Bd l) (s : Bs) : (delT l s).1.length ≤ 1000 := by
  unfold delT
  cases hl : lastOf (tdB s) l with
  | none => simp
  | some f =>
    dsimp only
    split
    · exact h.2 f (lastOf_some hl).1
    · simp

/-! ### what may be added -/
def badAt (l : List Int) (k : Nat) (x : Int) : Bool := decide (x < 0 ∨ 200 ≤ x ∨ (0 < k ∧ x ≤ l.getD (k - 1) 0))
def setB (l : List Int) (need : Int) : Bool := decide (l.length ≤ 12 ∧ 1 ≤ need ∧ need ≤ l.length) && (scan (fun k x => if badAt l k x = true then some false else none) 0 l).getD true
theorem set_eq {l : List Int} {n : Int} (h : l.length ≤ 1000000) : keys_set l n = some (setB l n) := by
  unfold keys_set setB
  simp only [bif_ltZ]
  have hs : loopF (fun x => keys_set.b1 l x) 0 = some ((scan (fun k x => if badAt l k x = true then some false else none) 0 l).getD true) := by
    refine loop_scan l _ true (fun k hk => ?_) ?_ (by omega)
    · simp only [keys_set.b1, bif_ltZ, lt_t hk, if_true, idx_nat hk, bind_in, bif_leZ, z64_succ (show k + 1 ≤ 9223372036854775807 by omega), keys_set.j1, badAt, decide_eq_true_eq]
      by_cases h1 : l[k] < 0
      · simp [h1, bind_in]
      · by_cases h2 : 200 ≤ l[k]
        · simp [h1, h2, bind_in]
        · by_cases h3 : 0 < k
          · have hg : l.getD (k - 1) 0 = l[k - 1] := by rw [List.getD_eq_getElem?_getD, List.getElem?_eq_getElem (by omega)]; rfl
            rw [if_neg h1, if_neg h2, if_pos (by omega), z64_pred h3 (by omega)]
            simp only [bind_in]
            rw [idx_nat (by omega)]
            simp only [bind_in, leZ_eq]
            rw [hg]
            by_cases h4 : l[k] ≤ l[k - 1]
            · simp [h1, h2, h3, h4]
            · simp [h1, h2, h3, h4]
          · rw [if_neg h1, if_neg h2, if_neg (by omega)]
            simp [h1, h2, h3, bind_in]
    · simp only [keys_set.b1, bif_ltZ, lt_f, if_false]
  by_cases h1 : 12 < (l.length : Int)
  · rw [if_pos h1, decide_eq_false (by omega)]
    simp only [bind_in, keys_set.j2, cond_true, Bool.false_and]
  · rw [if_neg h1]
    by_cases h2 : n < 1
    · rw [if_pos h2, decide_eq_false (by omega)]
      simp only [bind_in, keys_set.j2, cond_true, Bool.false_and]
    · rw [if_neg h2]
      simp only [bind_in, keys_set.j2, bif_ltZ]
      by_cases h3 : (l.length : Int) < n
      · rw [if_pos h3, decide_eq_false (by omega), Bool.false_and]
      · rw [if_neg h3, decide_eq_true (by omega), Bool.true_and, hs]
theorem right_eq {f : GFact} (h : (fKeys f).length ≤ 1000000) : ladingref11_right f = some (setB (fKeys f) (fNeed f)) := by
  unfold ladingref11_right setB
  have hs : loopF (fun x => ladingref11_right.b1 f x) 0 = some ((scan (fun k x => if badAt (fKeys f) k x = true then some (Sum.inr false : Unit ⊕ Bool) else none) 0 (fKeys f)).getD (.inl ())) := by
    refine loop_scan (fKeys f) _ (Sum.inl () : Unit ⊕ Bool) (fun k hk => ?_) ?_ (by omega)
    · simp only [ladingref11_right.b1, bif_ltZ, lt_t hk, if_true, idx_nat hk, bind_in, bif_leZ, z64_succ (show k + 1 ≤ 9223372036854775807 by omega), ladingref11_right.j1, badAt, decide_eq_true_eq]
      by_cases h1 : (fKeys f)[k] < 0
      · simp [h1, bind_in]
      · by_cases h2 : 200 ≤ (fKeys f)[k]
        · simp [h1, h2, bind_in]
        · by_cases h3 : 0 < k
          · have hg : (fKeys f).getD (k - 1) 0 = (fKeys f)[k - 1] := by rw [List.getD_eq_getElem?_getD, List.getElem?_eq_getElem (by omega)]; rfl
            rw [if_neg h1, if_neg h2, if_pos (by omega), z64_pred h3 (by omega)]
            simp only [bind_in]
            rw [idx_nat (show k - 1 < (fKeys f).length by omega)]
            simp only [bind_in, leZ_eq]
            rw [hg]
            by_cases h4 : (fKeys f)[k] ≤ (fKeys f)[k - 1]
            · simp [h1, h2, h3, h4]
            · simp [h1, h2, h3, h4]
          · rw [if_neg h1, if_neg h2, if_neg (by omega)]
            simp [h1, h2, h3, bind_in]
    · simp only [ladingref11_right.b1, bif_ltZ, lt_f, if_false]
  rw [hs]
  simp only [bind_in]
  cases hc : scan (fun k x => if badAt (fKeys f) k x = true then some (Sum.inr false : Unit ⊕ Bool) else none) 0 (fKeys f) with
  | none =>
    have : scan (fun k x => if badAt (fKeys f) k x = true then some false else none) 0 (fKeys f) = none := by
      rw [scan_none] at hc ⊢
      intro i hi
      have := hc i hi
      split at this
      · cases this
      · rename_i hb; rw [if_neg hb]
    rw [this]
    simp only [Option.getD_none, ladingref11_right.j2, bif_leZ, Bool.and_true, leZ_eq, bif_dec]
    by_cases h1 : ((fKeys f).length : Int) ≤ 12
    · rw [if_pos h1]
      by_cases h2 : 1 ≤ fNeed f
      · rw [if_pos h2]
        congr 1
        rw [decide_eq_decide]
        exact ⟨fun h => ⟨by omega, h2, h⟩, fun h => h.2.2⟩
      · rw [if_neg h2, decide_eq_false (by omega)]
    · rw [if_neg h1, decide_eq_false (by omega)]
  | some c =>
    obtain ⟨i, hi, h1, h2⟩ := scan_some.1 hc
    have hb : badAt (fKeys f) (0 + i) (fKeys f)[i] = true := by
      apply Classical.byContradiction
      intro hn
      rw [if_neg hn] at h1; cases h1
    rw [if_pos hb] at h1
    injection h1 with h1
    subst h1
    have : scan (fun k x => if badAt (fKeys f) k x = true then some false else none) 0 (fKeys f) = some false := by
      rw [scan_some]
      refine ⟨i, hi, by rw [if_pos hb], fun j hj => ?_⟩
      have := h2 j hj
      split at this
      · cases this
      · rename_i hb; rw [if_neg hb]
    rw [this]
    simp
def mayB (l : List GFact) (f : GFact) (S : List Int) : Int :=
  if (ownT l (nameF f)).2.2 = false ∧ f.1 ≠ 5 then 24
  else if (if (ownT l (nameF f)).2.2 = false then fNeed f else (ownT l (nameF f)).2.1) ≤ cnt (if (ownT l (nameF f)).2.2 = false then fKeys f else (ownT l (nameF f)).1) S then 0
  else if f.1 = 0 ∧ 1 ≤ (delT l (nameF f)).2.1 ∧ (l.length : Int) ≤ (delT l (nameF f)).2.2 ∧ (delT l (nameF f)).2.1 ≤ cnt (delT l (nameF f)).1 S then 0 else 23
def mayF (l : List GFact) (reg : List Int) (f : GFact) (S : List Int) : Int :=
  if f.1 = 4 ∨ f.1 = 5 ∨ f.1 = 6 then (if setB (fKeys f) (fNeed f) = true then mayB l f S else 1)
  else if f.1 = 3 ∨ f.1 = 7 then (if 1 ≤ cnt reg S then 0 else 22)
  else if f.1 = 0 ∨ f.1 = 1 ∨ f.1 = 2 then mayB l f S else 1
theorem may_b {l : List GFact} {f : GFact} {S : List Int} (h : Bd l) (hf : (fKeys f).length ≤ 1000) (hS : S.length ≤ 1000000) : keys_May.j7 l f S = some (mayB l f S) := by
  unfold keys_May.j7 mayB
  rw [name_eq]
  simp only [bind_in]
  rw [owner_eq h]
  have ho := ownT_len h (nameF f)
  have hd := delT_len h (nameF f)
  simp only [bind_in]
  have h6 : ∀ K n, K.length ≤ 1000 → keys_May.j6 l f S K n = some (if n ≤ cnt K S then 0 else if f.1 = 0 ∧ 1 ≤ (delT l (nameF f)).2.1 ∧ (l.length : Int) ≤ (delT l (nameF f)).2.2 ∧ (delT l (nameF f)).2.1 ≤ cnt (delT l (nameF f)).1 S then 0 else 23) := fun K n hK => by
    unfold keys_May.j6
    rw [sign_eq hS (by omega)]
    simp only [bind_in, bif_dec]
    by_cases h1 : n ≤ cnt K S
    · rw [if_pos h1, if_pos h1]
    · rw [if_neg h1, if_neg h1, bif_eqZ]
      by_cases h2 : f.1 = 0
      · rw [if_pos h2, name_eq]
        simp only [bind_in]
        rw [delegates_eq h]
        simp only [bind_in, bif_leZ]
        by_cases h3 : 1 ≤ (delT l (nameF f)).2.1
        · rw [if_pos h3]
          by_cases h4 : (l.length : Int) ≤ (delT l (nameF f)).2.2
          · rw [if_pos h4, sign_eq hS (by omega)]
            simp only [bind_in, keys_May.j5, bif_dec]
            by_cases h5 : (delT l (nameF f)).2.1 ≤ cnt (delT l (nameF f)).1 S
            · rw [if_pos h5, if_pos ⟨h2, h3, h4, h5⟩]
            · rw [if_neg h5, if_neg fun h => h5 h.2.2.2]
          · rw [if_neg h4, if_neg fun h => h4 h.2.2.1]
            rfl
        · rw [if_neg h3, if_neg fun h => h3 h.2.1]
          rfl
      · rw [if_neg h2, if_neg fun h => h2 h.1]
  cases hi : (ownT l (nameF f)).2.2 with
  | true =>
    simp only [hi, Bool.not_true, cond_false, bind_in, keys_May.j4, Bool.true_eq_false, false_and, if_false]
    exact h6 _ _ ho
  | false =>
    simp only [hi, Bool.not_false, cond_true, bind_in, keys_May.j4, true_and, if_true, bif_not, bif_eqZ]
    by_cases h5 : f.1 = 5
    · rw [if_pos h5, if_neg (fun h => h h5)]
      simp only [bind_in]
      exact h6 _ _ hf
    · rw [if_neg h5, if_pos h5]
      rfl
theorem may_eq {l : List GFact} {reg : List Int} {f : GFact} {S : List Int} (h : Bd l) (hf : (fKeys f).length ≤ 1000) (hS : S.length ≤ 1000000) (hr : reg.length ≤ 1000000) : keys_May l reg f S = some (mayF l reg f S) := by
  have h7 := may_b h hf hS
  have hset : keys_set f.2.2.2.2.2.1 f.2.2.2.2.2.2.1 = some (setB (fKeys f) (fNeed f)) := set_eq (Nat.le_trans hf (by omega))
  unfold keys_May mayF
  simp only [bif_eqZ]
  have j3t : keys_May.j3 reg f S true = some (if setB (fKeys f) (fNeed f) = true then .inl () else .inr 1) := by
    unfold keys_May.j3
    rw [hset]
    simp only [bind_in, cond_true, bif_not]
    cases setB (fKeys f) (fNeed f) <;> rfl
  have e4 : ∀ k : Int, f.1 = k → eqZ f.1 k = true := fun k hk => by rw [eqZ_eq]; exact decide_eq_true hk
  have n4 : ∀ k : Int, f.1 ≠ k → eqZ f.1 k = false := fun k hk => by rw [eqZ_eq]; exact decide_eq_false hk
  by_cases h1 : f.1 = 4 ∨ f.1 = 5 ∨ f.1 = 6
  · rw [if_pos h1]
    have : (if f.1 = 4 then some (eqZ f.1 4) else if f.1 = 5 then some (eqZ f.1 5) else some (eqZ f.1 6)) = some true := by
      by_cases a : f.1 = 4
      · rw [if_pos a, e4 _ a]
      · rw [if_neg a]
        by_cases b : f.1 = 5
        · rw [if_pos b, e4 _ b]
        · rw [if_neg b]
          rw [e4 6 (by omega)]
    rw [this]
    simp only [bind_in]
    rw [j3t]
    simp only [bind_in]
    cases setB (fKeys f) (fNeed f) with
    | true => exact h7
    | false => rfl
  · rw [if_neg h1]
    have : (if f.1 = 4 then some (eqZ f.1 4) else if f.1 = 5 then some (eqZ f.1 5) else some (eqZ f.1 6)) = some false := by
      rw [if_neg (by omega), if_neg (by omega), n4 6 (by omega)]
    rw [this]
    simp only [bind_in, keys_May.j3, cond_false, bif_eqZ]
    by_cases h2 : f.1 = 3 ∨ f.1 = 7
    · rw [if_pos h2]
      have : (if f.1 = 3 then some (eqZ f.1 3) else some (eqZ f.1 7)) = some true := by
        by_cases a : f.1 = 3
        · rw [if_pos a, e4 _ a]
        · rw [if_neg a, e4 7 (by omega)]
      rw [this]
      simp only [bind_in, keys_May.j2, cond_true]
      rw [sign_eq hS hr]
      simp only [bind_in, bif_not, bif_dec]
      by_cases h3 : 1 ≤ cnt reg S
      · rw [if_pos h3, if_pos h3]; rfl
      · rw [if_neg h3, if_neg h3]; rfl
    · rw [if_neg h2]
      have : (if f.1 = 3 then some (eqZ f.1 3) else some (eqZ f.1 7)) = some false := by
        rw [if_neg (by omega), n4 7 (by omega)]
      rw [this]
      simp only [bind_in, keys_May.j2, cond_false, bif_eqZ]
      by_cases h3 : f.1 = 0 ∨ f.1 = 1 ∨ f.1 = 2
      · rw [if_pos h3]
        have : (if f.1 = 0 then some (eqZ f.1 0) else if f.1 = 1 then some (eqZ f.1 1) else some (eqZ f.1 2)) = some true := by
          by_cases a : f.1 = 0
          · rw [if_pos a, e4 _ a]
          · rw [if_neg a]
            by_cases b : f.1 = 1
            · rw [if_pos b, e4 _ b]
            · rw [if_neg b, e4 2 (by omega)]
        rw [this]
        simp only [bind_in, keys_May.j1, cond_true]
        exact h7
      · rw [if_neg h3]
        have : (if f.1 = 0 then some (eqZ f.1 0) else if f.1 = 1 then some (eqZ f.1 1) else some (eqZ f.1 2)) = some false := by
          rw [if_neg (by omega), if_neg (by omega), n4 2 (by omega)]
        rw [this]
        simp only [bind_in, keys_May.j1, cond_false]
/-! ### who is let in -/
def admF (l : List GFact) (reg : List Int) (sg : List (List Int)) : Int × Int := (scan (fun k f => if mayF (l.take k) reg f (sg.getD k []) = 0 then none else some ((k : Int), mayF (l.take k) reg f (sg.getD k []))) 0 l).getD (l.length, 0)
theorem cut_take {α : Type} {l : List α} {k : Nat} (h : k ≤ l.length) : cut l 0 (k : Int) = some (l.take k) := by
  rw [cut_in (by omega) (by omega) (by omega)]; simp
theorem admit_eq {l : List GFact} {reg : List Int} {sg : List (List Int)} (h : Bd l) (hs : ∀ S ∈ sg, S.length ≤ 1000000) (hr : reg.length ≤ 1000000) : keys_Admit l reg sg = some (admF l reg sg) := by
  unfold keys_Admit admF
  have hl := h.1
  refine loop_scan l _ _ (fun k hk => ?_) ?_ (by omega)
  · simp only [keys_Admit.b1, bif_ltZ, lt_t hk, if_true, idx_nat hk, bind_in]
    have : (if (k : Int) < (sg.length : Int) then (idx sg (k : Int)).bind fun v6 => some v6 else some []) = some (sg.getD k []) := by
      by_cases hk2 : k < sg.length
      · rw [if_pos (by omega), idx_nat hk2, List.getD_eq_getElem?_getD, List.getElem?_eq_getElem hk2]; rfl
      · rw [if_neg (by omega), List.getD_eq_getElem?_getD, List.getElem?_eq_none (by omega)]; rfl
    rw [this]
    simp only [bind_in, keys_Admit.j1]
    rw [cut_take (by omega)]
    simp only [bind_in]
    rw [may_eq (h.take k) (h.2 _ (List.getElem_mem hk)) (by
      rw [List.getD_eq_getElem?_getD]
      cases hg : sg[k]? with
      | none => simp
      | some S => exact hs S (List.mem_of_getElem? hg)) hr]
    simp only [bind_in, bif_not, bif_eqZ, z64_succ (show k + 1 ≤ 9223372036854775807 by omega)]
    split <;> rfl
  · simp only [keys_Admit.b1, bif_ltZ, lt_f, if_false]
theorem adm_spec (l : List GFact) (reg : List Int) (sg : List (List Int)) : ∃ n : Nat, (admF l reg sg).1 = (n : Int) ∧ n ≤ l.length ∧ ∀ k (hk : k < l.length), k < n → mayF (l.take k) reg l[k] (sg.getD k []) = 0 := by
  unfold admF
  cases hs : scan (fun k f => if mayF (l.take k) reg f (sg.getD k []) = 0 then none else some ((k : Int), mayF (l.take k) reg f (sg.getD k []))) 0 l with
  | none =>
    refine ⟨l.length, rfl, Nat.le_refl _, fun k hk _ => ?_⟩
    have := scan_none.1 hs k hk
    rw [Nat.zero_add] at this
    split at this
    · assumption
    · cases this
  | some b =>
    obtain ⟨i, hi, h1, h2⟩ := scan_some.1 hs
    rw [Nat.zero_add] at h1
    split at h1
    · cases h1
    · injection h1 with h1
      refine ⟨i, by rw [Option.getD_some, ← h1], by omega, fun k hk hki => ?_⟩
      have := h2 k hki
      rw [Nat.zero_add] at this
      split at this
      · assumption
      · cases this
/-! ### few -/
theorem few_eq {l : List GFact} {sg : List (List Int)} {n : Int} (h1 : l.length ≤ 9223372036854775807) (h2 : sg.length ≤ 9223372036854775807) (hn : n ≤ 1000 := by decide) : ∃ b, ladingref11_Few l sg n = some b ∧ (b = true → (l.length : Int) ≤ n ∧ (sg.length : Int) ≤ n ∧ (∀ f ∈ l, (fKeys f).length ≤ 20) ∧ ∀ S ∈ sg, S.length ≤ 20) := by
  unfold ladingref11_Few
  have e1 : loopF (fun x => ladingref11_Few.b1 l n x) 0 = some ((scan (fun k f => if (k : Int) ≤ n then (if 20 < (fKeys f).length then some (Sum.inr false : Unit ⊕ Bool) else none) else some (.inl ())) 0 l).getD (.inl ())) := by
    refine loop_scan l _ _ (fun k hk => ?_) ?_ (by omega)
    · simp only [ladingref11_Few.b1, bif_ltZ, lt_t hk, if_true, bind_in, ladingref11_Few.j1, leZ_eq, bif_dec]
      by_cases hkn : (k : Int) ≤ n
      · rw [if_pos hkn, if_pos hkn, idx_nat hk]
        simp only [bind_in, z64_succ (show k + 1 ≤ 9223372036854775807 by omega)]
        by_cases hx : 20 < (fKeys l[k]).length
        · rw [if_pos hx, if_pos (show (20 : Int) < ((fKeys l[k]).length : Int) by omega)]
        · rw [if_neg hx, if_neg (show ¬ (20 : Int) < ((fKeys l[k]).length : Int) by omega)]
      · rw [if_neg hkn, if_neg hkn]
    · simp only [ladingref11_Few.b1, bif_ltZ, lt_f, if_false, bind_in, ladingref11_Few.j1, cond_false]
  have e2 : loopF (fun x => ladingref11_Few.b2 l sg n x) 0 = some ((scan (fun k S => if (k : Int) ≤ n then (if 20 < S.length then some false else none) else some (decide ((l.length : Int) ≤ n ∧ (sg.length : Int) ≤ n))) 0 sg).getD (decide ((l.length : Int) ≤ n ∧ (sg.length : Int) ≤ n))) := by
    have fin : (Option.map Sum.inr (if (l.length : Int) ≤ n then some (decide ((sg.length : Int) ≤ n)) else some false) : Option (Int ⊕ Bool)) = some (.inr (decide ((l.length : Int) ≤ n ∧ (sg.length : Int) ≤ n))) := by
      by_cases a : (l.length : Int) ≤ n
      · rw [if_pos a]
        by_cases b : (sg.length : Int) ≤ n <;> simp [a, b]
      · rw [if_neg a]; simp [a]
    refine loop_scan sg _ _ (fun k hk => ?_) ?_ (by omega)
    · simp only [ladingref11_Few.b2, bif_ltZ, lt_t hk, if_true, bind_in, ladingref11_Few.j2, leZ_eq, bif_dec, bif_leZ]
      by_cases hkn : (k : Int) ≤ n
      · rw [if_pos hkn, if_pos hkn, idx_nat hk]
        simp only [bind_in, z64_succ (show k + 1 ≤ 9223372036854775807 by omega)]
        by_cases hx : 20 < (sg[k]).length
        · rw [if_pos hx, if_pos (by omega)]
        · rw [if_neg hx, if_neg (by omega)]
      · rw [if_neg hkn, if_neg hkn]
        exact fin
    · simp only [ladingref11_Few.b2, bif_ltZ, lt_f, if_false, bind_in, ladingref11_Few.j2, cond_false, leZ_eq, bif_leZ, bif_dec]
      exact fin
  rw [e1]
  simp only [bind_in]
  cases hs : scan (fun k f => if (k : Int) ≤ n then (if 20 < (fKeys f).length then some (Sum.inr false : Unit ⊕ Bool) else none) else some (.inl ())) 0 l with
  | some c =>
    obtain ⟨i, hi, h3, _⟩ := scan_some.1 hs
    rw [Nat.zero_add] at h3
    split at h3
    · split at h3
      · injection h3 with h3; subst h3
        exact ⟨false, rfl, fun h => by cases h⟩
      · cases h3
    · rename_i hin
      injection h3 with h3; subst h3
      refine ⟨_, e2, fun hb => ?_⟩
      exfalso
      cases hs2 : scan (fun k S => if (k : Int) ≤ n then (if 20 < S.length then some false else none) else some (decide ((l.length : Int) ≤ n ∧ (sg.length : Int) ≤ n))) 0 sg with
      | none => rw [hs2, Option.getD_none, decide_eq_true_eq] at hb; omega
      | some d =>
        rw [hs2, Option.getD_some] at hb
        subst hb
        obtain ⟨j, hj, h4, _⟩ := scan_some.1 hs2
        split at h4
        · split at h4 <;> cases h4
        · injection h4 with h4; rw [decide_eq_true_eq] at h4; omega
  | none =>
    refine ⟨_, e2, fun hb => ?_⟩
    have hall : ∀ f ∈ l, (fKeys f).length ≤ 20 := fun f hf => by
      obtain ⟨i, hi, rfl⟩ := List.mem_iff_getElem.1 hf
      have := scan_none.1 hs i hi
      split at this
      · split at this
        · cases this
        · omega
      · cases this
    cases hs2 : scan (fun k S => if (k : Int) ≤ n then (if 20 < S.length then some false else none) else some (decide ((l.length : Int) ≤ n ∧ (sg.length : Int) ≤ n))) 0 sg with
    | none =>
      rw [hs2, Option.getD_none, decide_eq_true_eq] at hb
      refine ⟨hb.1, hb.2, hall, fun S hS => ?_⟩
      obtain ⟨i, hi, rfl⟩ := List.mem_iff_getElem.1 hS
      have := scan_none.1 hs2 i hi
      split at this
      · split at this
        · cases this
        · omega
      · cases this
    | some d =>
      rw [hs2, Option.getD_some] at hb
      subst hb
      obtain ⟨j, hj, h4, _⟩ := scan_some.1 hs2
      exfalso
      rw [Nat.zero_add] at h4
      split at h4
      · split at h4 <;> cases h4
      · injection h4 with h4; rw [decide_eq_true_eq] at h4; omega
theorem small_true : ladinglaw11_small = some true := by kernel_rfl
end Go.Proofs.Ytnbkjaoehkmcpaa
