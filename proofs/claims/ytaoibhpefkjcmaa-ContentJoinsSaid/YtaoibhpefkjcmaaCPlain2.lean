/-
  Layer 4 (content): the law ContentTells in plain words.
-/
import Derived.Test.YtaoibhpefkjcmaaCPlain
namespace Go.Proofs.Ytaoibhpefkjcmaa
set_option linter.unusedSimpArgs false
open Go.Lad
set_option linter.unusedVariables false

theorem sizeN_cons (s : Bs) (l : List Bs) : sizeN (s :: l) = s.length + sizeN l := by simp [sizeN]
theorem sizeN_small {l : List Bs} {n : Nat} (h : ∀ s ∈ l, s.length ≤ n) : sizeN l ≤ n * l.length := by
  induction l with
  | nil => simp [sizeN]
  | cons a l ih =>
    have := ih fun s hs => h s (by simp [hs])
    have h2 := h a (by simp)
    rw [sizeN_cons, List.length_cons, Nat.mul_succ]
    omega
/-- lists that the law looks at -/
def Few (l : List Bs) : Prop := l.length ≤ 24 ∧ ∀ s ∈ l, s.length ≤ 100
theorem Few.size {l : List Bs} (h : Few l) : sizeN l ≤ 2400 := by
  have := sizeN_small h.2
  have h1 := h.1
  have : 100 * l.length ≤ 2400 := by omega
  omega
theorem Few.fits {l : List Bs} (h : Few l) : Fits l := ⟨by have := h.1; omega, by have := h.size; omega⟩
theorem few_eq (l : List Bs) : ∃ b, ladinglaw04_few l = some b ∧ (b = true → Few l) := by
  unfold ladinglaw04_few
  rcases first_of (p := fun k => l.length ≤ k ∨ 25 ≤ k ∨ ∃ hk : k < l.length, 100 < l[k].length) 26 with ⟨m, hm, hp, hb⟩ | hall
  · have hbk : ∀ k (hk : k < m), ∃ h1 : k < l.length, k < 25 ∧ l[k].length ≤ 100 := fun k hk => by
      have := hb k hk
      have h1 : k < l.length := Nat.lt_of_not_le fun h => this (.inl h)
      exact ⟨h1, Nat.lt_of_not_le fun h => this (.inr (.inl h)), Nat.le_of_not_lt fun h => this (.inr (.inr ⟨h1, h⟩))⟩
    have step : ∀ k, k < m → ladinglaw04_few.b1 l (k : Int) = some (.inl ((k + 1 : Nat) : Int)) := fun k hk => by
      obtain ⟨h1, h2, h3⟩ := hbk k hk
      simp only [ladinglaw04_few.b1]
      rw [if_pos (by omega), if_pos (by omega), idx_nat h1]
      simp only [bind_in]
      rw [if_neg (by omega), i64_succ (by omega)]
      rfl
    have fin : ∀ r, ladinglaw04_few.b1 l (m : Int) = some (.inr r) → loopM (ladinglaw04_few.b1 l) 0 = some r := fun r hr => loop_to (fun k => (k : Int)) m step hr
    have all : l.length ≤ m → l.length ≤ 24 → Few l := fun h1 h2 => ⟨h2, fun s hs => by
      obtain ⟨k, hk, rfl⟩ := List.mem_iff_getElem.1 hs
      obtain ⟨_, _, h3⟩ := hbk k (by omega)
      exact h3⟩
    by_cases hml : l.length ≤ m
    · rw [fin (.inr ()) (by simp only [ladinglaw04_few.b1]; rw [if_neg (by omega)])]
      simp only [bind_in]
      exact ⟨_, rfl, fun h => all hml (by have := of_decide_eq_true h; omega)⟩
    · by_cases h25 : 25 ≤ m
      · rw [fin (.inr ()) (by simp only [ladinglaw04_few.b1]; rw [if_pos (by omega), if_neg (by omega)])]
        simp only [bind_in]
        exact ⟨_, rfl, fun h => by have := of_decide_eq_true h; omega⟩
      · obtain ⟨hk, h100⟩ := (hp.resolve_left hml).resolve_left h25
        rw [fin (.inl ()) (by simp only [ladinglaw04_few.b1]; rw [if_pos (by omega), if_pos (by omega), idx_nat hk]; simp only [bind_in]; rw [if_pos (by omega)])]
        simp only [bind_in]
        exact ⟨_, rfl, fun h => by cases h⟩
  · exact absurd (.inr (.inl (by omega))) (hall 25 (by omega))

/-! ### Same, Ints -/
theorem same_refl {l : List Bs} (h : l.length ≤ 1000000) : ladingref04_Same l l = some true := by
  unfold ladingref04_Same
  have : loopM (ladingref04_Same.b1 l l) 0 = some (.inr ()) := by
    refine loop_to (fun k => (k : Int)) l.length (fun k hk => ?_) ?_
    · simp only [ladingref04_Same.b1]
      rw [if_pos (by omega), idx_nat hk]
      simp only [bind_in, if_true]
      rw [i64_succ (by omega)]
      rfl
    · simp only [ladingref04_Same.b1]
      rw [if_neg (by omega)]
  rw [if_pos rfl, this]
  rfl
theorem ints_refl {l : List Int} (h : l.length ≤ 1000000) : ladingref04_Ints l l = some true := by
  unfold ladingref04_Ints
  have : loopM (ladingref04_Ints.b1 l l) 0 = some (.inr ()) := by
    refine loop_to (fun k => (k : Int)) l.length (fun k hk => ?_) ?_
    · simp only [ladingref04_Ints.b1]
      rw [if_pos (by omega), idx_nat hk]
      simp only [bind_in, if_true]
      rw [i64_succ (by omega)]
      rfl
    · simp only [ladingref04_Ints.b1]
      rw [if_neg (by omega)]
  rw [if_pos rfl, this]
  rfl

/-! ### Text, Texts -/
def textM (l : List Bs) (n : Int) : Bs × Bool := if n < 0 then ([], false) else if (l.length : Int) ≤ n then ([], false) else (l.getD n.toNat [], true)
theorem text_eq (l : List Bs) (n : Int) : content_Text l n = some (textM l n) := by
  unfold content_Text textM
  by_cases h1 : n < 0
  · rw [if_pos h1, if_pos h1]
  · rw [if_neg h1, if_neg h1]
    by_cases h2 : (l.length : Int) ≤ n
    · rw [if_pos h2, if_pos h2]
    · rw [if_neg h2, if_neg h2, idx_int (by omega) (by omega)]
      simp only [bind_in]
      rw [List.getD_eq_getElem?_getD, List.getElem?_eq_getElem (by omega)]
      rfl
theorem refText_eq (l : List Bs) (n : Int) : ladingref04_Text l n = some (textM l n) := by
  rw [← text_eq]
  unfold ladingref04_Text content_Text
  rfl
def textsM (l : List Bs) (ns : List Int) : List Bs × Int := if ∀ n ∈ ns, (textM l n).2 = true then (ns.map fun n => (textM l n).1, 0) else ([], 4)
theorem texts_eq {l : List Bs} {ns : List Int} (h : ns.length ≤ 1000000) : content_Texts l ns = some (textsM l ns) := by
  unfold content_Texts textsM
  have step : ∀ k, (∃ hk : k < ns.length, (textM l ns[k]).2 = true) → content_Texts.b1 l ns ((ns.take k).map fun n => (textM l n).1, (k : Int)) = some (.inl ((ns.take (k + 1)).map fun n => (textM l n).1, ((k + 1 : Nat) : Int))) := by
    rintro k ⟨hk, ht⟩
    simp only [content_Texts.b1]
    rw [if_pos (by omega), idx_nat hk]
    simp only [bind_in]
    rw [text_eq]
    simp only [bind_in]
    rw [if_pos ht, push_in (by simp; omega)]
    simp only [bind_in]
    rw [i64_succ (by omega)]
    simp only [bind_in]
    rw [take_snoc ns k hk, List.map_append]
    rfl
  rcases first_of (p := fun k => ∃ hk : k < ns.length, (textM l ns[k]).2 ≠ true) ns.length with ⟨m, hm, ⟨hk, hp⟩, hb⟩ | hall
  · have : loopM (content_Texts.b1 l ns) ([], 0) = some (.inl ()) := by
      refine loop_at (fun k => ((ns.take k).map fun n => (textM l n).1, (k : Int))) m (by simp) (fun k hk => step k ⟨by omega, Classical.byContradiction fun hc => hb k hk ⟨by omega, hc⟩⟩) ?_
      simp only [content_Texts.b1]
      rw [if_pos (by omega), idx_nat hk]
      simp only [bind_in]
      rw [text_eq]
      simp only [bind_in]
      rw [if_neg hp]
    rw [this, if_neg (fun hc => hp (hc _ (List.getElem_mem hk)))]
    rfl
  · have ha : ∀ k (hk : k < ns.length), (textM l ns[k]).2 = true := fun k hk => Classical.byContradiction fun hc => hall k hk ⟨hk, hc⟩
    have : loopM (content_Texts.b1 l ns) ([], 0) = some (.inr (ns.map fun n => (textM l n).1)) := by
      refine loop_at (fun k => ((ns.take k).map fun n => (textM l n).1, (k : Int))) ns.length (by simp) (fun k hk => step k ⟨hk, ha k hk⟩) ?_
      simp only [content_Texts.b1]
      rw [if_neg (by omega), take_all ns _ (Nat.le_refl _)]
    rw [this, if_pos (fun n hn => by obtain ⟨k, hk, rfl⟩ := List.mem_iff_getElem.1 hn; exact ha k hk)]
    rfl
theorem refTexts_is (l : List Bs) (ns : List Int) : ladingref04_Texts l ns = content_Texts l ns := by
  have : ladingref04_Texts.b1 l ns = content_Texts.b1 l ns := by
    funext ⟨a, b⟩
    simp only [ladingref04_Texts.b1, content_Texts.b1]
    have : ladingref04_Text l = content_Text l := by funext n; rw [text_eq, refText_eq]
    rw [this]
  unfold ladingref04_Texts content_Texts
  rw [this]

/-! ### Add -/
def addM (l : List Bs) (s : Bs) : List Bs × Int × Int :=
  if rightM l = true then (if s ∈ l then (l, printM l s, 0) else if 1048576 < ((sizeN l + s.length : Nat) : Int) then ([], 0, 6) else (l ++ [s], (l.length : Int), 0)) else ([], 0, 1)
theorem clone_eq {l : List Bs} (h : l.length ≤ 1000000) : slices_Clone_string_string l = some l := by
  unfold slices_Clone_string_string
  rw [need_in (by omega)]
  rfl
theorem add_eq {l : List Bs} {s : Bs} (h : Fits l) (hs : s.length ≤ 1000000000) : content_Add l s = some (addM l s) := by
  have h1 := h.1
  have h2 := h.2
  unfold content_Add addM
  rw [right_eq h]
  simp only [bind_in]
  by_cases hr : rightM l = true
  · rw [if_pos hr, if_pos hr, print_eq h1]
    simp only [bind_in]
    by_cases hm : s ∈ l
    · rw [if_pos hm, if_pos (printM_mem hm), clone_eq h1]
      rfl
    · rw [if_neg hm, if_neg (by rw [printM_not hm]; omega), size_eq h]
      simp only [bind_in]
      rw [i64_add (by omega)]
      simp only [bind_in]
      by_cases hb : 1048576 < ((sizeN l + s.length : Nat) : Int)
      · rw [if_pos hb, if_pos hb]
      · rw [if_neg hb, if_neg hb, clone_eq h1]
        simp only [bind_in]
        rw [push_in (by omega)]
        rfl
  · rw [if_neg hr, if_neg hr]
theorem refAdd_eq {l : List Bs} {s : Bs} (h : Fits l) (hs : s.length ≤ 1000000000) : ladingref04_Add l s = some (addM l s) := by
  have h1 := h.1
  have h2 := h.2
  unfold ladingref04_Add addM
  rw [refRight_eq h]
  simp only [bind_in]
  by_cases hr : rightM l = true
  · rw [if_pos hr, if_pos hr, need_in (by omega)]
    simp only [bind_in]
    rw [refPrint_eq h1]
    simp only [bind_in]
    by_cases hm : s ∈ l
    · rw [if_pos hm, if_pos (printM_mem hm)]
    · rw [if_neg hm, if_neg (by rw [printM_not hm]; omega), bytes_eq h]
      simp only [bind_in]
      rw [i64_add (by omega)]
      simp only [bind_in]
      by_cases hb : 1048576 < ((sizeN l + s.length : Nat) : Int)
      · rw [if_pos hb, if_pos hb]
      · rw [if_neg hb, if_neg hb, push_in (by omega)]
        rfl
  · rw [if_neg hr, if_neg hr]

/-! ### Join -/
theorem ddF_le (a b : List Bs) : (ddF a b).length ≤ a.length + b.length ∧ sizeN (ddF a b) ≤ sizeN a + sizeN b := by
  induction b using rev_ind with
  | h0 => simp [ddF, sizeN]
  | h1 b x ih =>
    rw [ddF_one, sizeN_app]
    split
    · simp; omega
    · rw [sizeN_app]; simp; omega
def joinF (a b : List Bs) : List Bs × List Int := b.foldl (fun st s => ((if s ∈ st.1 then st.1 else st.1 ++ [s]), st.2 ++ [printM (if s ∈ st.1 then st.1 else st.1 ++ [s]) s])) (a, [])
theorem joinF_one (a b : List Bs) (s : Bs) : joinF a (b ++ [s]) = ((if s ∈ (joinF a b).1 then (joinF a b).1 else (joinF a b).1 ++ [s]), (joinF a b).2 ++ [printM (if s ∈ (joinF a b).1 then (joinF a b).1 else (joinF a b).1 ++ [s]) s]) := by
  unfold joinF
  rw [List.foldl_append]
  rfl
theorem joinF_fst (a b : List Bs) : (joinF a b).1 = ddF a b := by
  induction b using rev_ind with
  | h0 => rfl
  | h1 b x ih => rw [joinF_one, ddF_one, ih]
def prF (a b : List Bs) : List Int := (joinF a b).2
theorem prF_nil (a : List Bs) : prF a [] = [] := rfl
theorem prF_one (a b : List Bs) (s : Bs) : prF a (b ++ [s]) = prF a b ++ [printM (ddF a (b ++ [s])) s] := by
  unfold prF
  rw [joinF_one, ddF_one, joinF_fst]
theorem prF_len (a b : List Bs) : (prF a b).length = b.length := by
  induction b using rev_ind with
  | h0 => rfl
  | h1 b x ih => rw [prF_one]; simp [ih]
def joinM (a b : List Bs) : List Bs × List Int × Int :=
  if rightM a = true then (if rightM b = true then (if 1048576 < (sizeN (ddF a b) : Int) then ([], [], 6) else (ddF a b, prF a b, 0)) else ([], [], 1)) else ([], [], 1)
/-- the map says where each text stands -/
def Says (m : List (Bs × Int)) (l : List Bs) : Prop := ∀ s, lookM m s = (pos l s).map fun i => (i : Int)
theorem Says.nil : Says [] [] := fun _ => rfl
theorem Says.add {m : List (Bs × Int)} {l : List Bs} {s : Bs} (h : Says m l) (hs : s ∉ l) {n : Int} (hn : n = l.length) : Says (putM m s n) (l ++ [s]) := by
  intro x
  rw [look_put, pos_append]
  by_cases hx : x = s
  · subst hx
    rw [if_pos rfl, pos_none.2 hs, hn]
    simp [pos]
  · rw [if_neg hx, h x]
    cases hp : pos l x with
    | some i => rfl
    | none =>
      have : pos [s] x = none := pos_none.2 (by simp [hx])
      rw [this]; rfl
theorem Says.hit {m : List (Bs × Int)} {l : List Bs} {s : Bs} (h : Says m l) (hs : s ∈ l) : lookM m s = some (printM l s) := by
  rw [h s]
  unfold printM
  cases hp : pos l s with
  | some i => rfl
  | none => exact absurd hs (pos_none.1 hp)
theorem Says.miss {m : List (Bs × Int)} {l : List Bs} {s : Bs} (h : Says m l) (hs : s ∉ l) : lookM m s = none := by rw [h s, pos_none.2 hs]; rfl
theorem right_nodup {l : List Bs} (h : rightM l = true) : l.Nodup := by
  simp [rightM] at h; exact h.1
theorem printM_last (l : List Bs) (s : Bs) (h : s ∉ l) : printM (l ++ [s]) s = l.length := by
  unfold printM
  rw [pos_append, pos_none.2 h]
  simp [pos]
theorem join_a {a : List Bs} (h : a.length ≤ 1000000) (hn : a.Nodup) : ∃ m, loopM (content_Join.b1 a) ([], 0) = some m ∧ Says m a := by
  refine loop_inv (fun k x => Says x.1 (a.take k) ∧ x.2 = (k : Int)) a.length ⟨Says.nil, rfl⟩ ?_ ?_
  · rintro k hk ⟨m, i⟩ ⟨hm, hi⟩
    have hi : i = (k : Int) := hi
    subst hi
    refine ⟨(putM m a[k] (k : Int), ((k + 1 : Nat) : Int)), ?_, ?_, rfl⟩
    · simp only [content_Join.b1]
      rw [if_pos (by omega), idx_nat hk]
      simp only [bind_in]
      rw [i64_succ (by omega)]
      rfl
    · show Says _ (a.take (k + 1))
      rw [take_snoc a k hk]
      refine hm.add (fun hc => ?_) (by simp; omega)
      obtain ⟨j, hj, he⟩ := List.mem_iff_getElem.1 hc
      rw [List.length_take] at hj
      rw [List.getElem_take] at he
      exact List.pairwise_iff_getElem.1 hn j k (by omega) hk (by omega) he
  · rintro ⟨m, i⟩ ⟨hm, hi⟩
    have hi : i = (a.length : Int) := hi
    subst hi
    refine ⟨m, ?_, by rw [take_all a _ (Nat.le_refl _)] at hm; exact hm⟩
    simp only [content_Join.b1]
    rw [if_neg (by omega)]
theorem join_b {a b : List Bs} {m : List (Bs × Int)} (ha : a.length ≤ 1000000) (hb : b.length ≤ 1000000) (hm : Says m a) : loopM (content_Join.b2 b) (a, m, [], 0) = some (ddF a b, prF a b) := by
  have : ∃ r, loopM (content_Join.b2 b) (a, m, [], 0) = some r ∧ r = (ddF a b, prF a b) := by
    refine loop_inv (fun k x => x.1 = ddF a (b.take k) ∧ Says x.2.1 (ddF a (b.take k)) ∧ x.2.2.1 = prF a (b.take k) ∧ x.2.2.2 = (k : Int)) b.length ⟨rfl, hm, rfl, rfl⟩ ?_ ?_
    · rintro k hk ⟨x1, x2, x3, x4⟩ ⟨p1, p2, p3, p4⟩
      have h1 : x1 = ddF a (b.take k) := p1
      have h3 : x3 = prF a (b.take k) := p3
      have h4 : x4 = (k : Int) := p4
      have hd := (ddF_le a (b.take k)).1
      have hp := prF_len a (b.take k)
      rw [List.length_take] at hd hp
      have hone := ddF_one a (b.take k) b[k]
      have hpr := prF_one a (b.take k) b[k]
      rw [← take_snoc b k hk] at hone hpr
      have h2 : Says x2 x1 := by rw [h1]; exact p2
      clear p1 p2 p3 p4
      rw [← h1] at hd hone
      rw [← h3] at hp hpr
      subst h4
      clear h1 h3 hm
      simp only [content_Join.b2]
      rw [if_pos (by omega), idx_nat hk]
      simp only [bind_in]
      by_cases hs : b[k] ∈ x1
      · rw [if_pos hs] at hone
        rw [hone] at hpr
        rw [h2.hit hs, if_pos (show (some (printM x1 b[k])).isSome = true from rfl)]
        simp only [Option.getD_some]
        rw [push_in (by omega)]
        simp only [bind_in]
        rw [i64_succ (by omega)]
        exact ⟨_, rfl, hone.symm, by rw [hone]; exact h2, hpr.symm, rfl⟩
      · rw [if_neg hs] at hone
        rw [hone, printM_last _ _ hs] at hpr
        rw [h2.miss hs, if_neg (by simp), push_in (by omega)]
        simp only [bind_in]
        rw [look_put, if_pos rfl]
        simp only [Option.getD_some]
        rw [push_in (by omega)]
        simp only [bind_in]
        rw [i64_succ (by omega)]
        exact ⟨_, rfl, hone.symm, by rw [hone]; exact h2.add hs rfl, hpr.symm, rfl⟩
    · rintro ⟨x1, x2, x3, x4⟩ ⟨h1, h2, h3, h4⟩
      have h1 : x1 = ddF a (b.take b.length) := h1
      have h3 : x3 = prF a (b.take b.length) := h3
      have h4 : x4 = (b.length : Int) := h4
      rw [take_all b _ (Nat.le_refl _)] at h1 h3
      refine ⟨(x1, x3), ?_, by rw [h1, h3]⟩
      simp only [content_Join.b2]
      rw [if_neg (by omega)]
  obtain ⟨r, h1, h2⟩ := this
  rw [h1, h2]
theorem refJoin_b {a b : List Bs} (ha : a.length ≤ 400000) (hb : b.length ≤ 400000) : loopM (ladingref04_Join.b1 b) (a, [], 0) = some (ddF a b, prF a b) := by
  refine loop_at (fun k => (ddF a (b.take k), prF a (b.take k), (k : Int))) b.length rfl (fun k hk => ?_) ?_
  · have hd := (ddF_le a (b.take k)).1
    have hp := prF_len a (b.take k)
    rw [List.length_take] at hd hp
    have hone := ddF_one a (b.take k) b[k]
    have hpr := prF_one a (b.take k) b[k]
    rw [← take_snoc b k hk] at hone hpr
    show ladingref04_Join.b1 b (ddF a (b.take k), prF a (b.take k), (k : Int)) = some (.inl (ddF a (b.take (k + 1)), prF a (b.take (k + 1)), ((k + 1 : Nat) : Int)))
    generalize ddF a (b.take k) = x1 at *
    generalize prF a (b.take k) = x3 at *
    simp only [ladingref04_Join.b1]
    rw [if_pos (by omega), idx_nat hk]
    simp only [bind_in]
    rw [refPrint_eq (by omega)]
    simp only [bind_in]
    by_cases hs : b[k] ∈ x1
    · rw [if_pos hs] at hone
      rw [hone] at hpr
      have := printM_mem hs
      rw [if_neg (by omega), push_in (by omega)]
      simp only [bind_in]
      rw [i64_succ (by omega), hone, hpr]
      rfl
    · rw [if_neg hs] at hone
      rw [hone, printM_last _ _ hs] at hpr
      rw [printM_not hs, if_pos (by omega), push_in (by omega)]
      simp only [bind_in]
      rw [push_in (by omega)]
      simp only [bind_in]
      rw [i64_succ (by omega), hone, hpr]
      rfl
  · simp only [ladingref04_Join.b1]
    rw [if_neg (by omega), take_all b _ (Nat.le_refl _)]
theorem join_eq {a b : List Bs} (ha : Fits a) (hb : Fits b) (hd : Fits (ddF a b)) : content_Join a b = some (joinM a b) := by
  unfold content_Join joinM
  rw [right_eq ha]
  simp only [bind_in]
  by_cases h1 : rightM a = true
  · rw [if_pos h1, if_pos h1, right_eq hb]
    simp only [bind_in]
    by_cases h2 : rightM b = true
    · obtain ⟨m, hm, hs⟩ := join_a ha.1 (right_nodup h1)
      rw [if_pos h2, if_pos h2, clone_eq ha.1]
      simp only [bind_in]
      rw [hm]
      simp only [bind_in]
      rw [join_b ha.1 hb.1 hs]
      simp only [bind_in]
      rw [size_eq hd]
      simp only [bind_in]
      split <;> rfl
    · rw [if_neg h2, if_neg h2]
  · rw [if_neg h1, if_neg h1]
theorem refJoin_eq {a b : List Bs} (ha : Fits a) (hb : Fits b) (ha' : a.length ≤ 400000) (hb' : b.length ≤ 400000) (hd : Fits (ddF a b)) : ladingref04_Join a b = some (joinM a b) := by
  unfold ladingref04_Join joinM
  rw [refRight_eq ha]
  simp only [bind_in]
  by_cases h1 : rightM a = true
  · rw [if_pos h1, if_pos h1, refRight_eq hb]
    simp only [bind_in]
    by_cases h2 : rightM b = true
    · rw [if_pos h2, if_pos h2, need_in (by omega)]
      simp only [bind_in]
      rw [refJoin_b ha' hb']
      simp only [bind_in]
      rw [bytes_eq hd]
      simp only [bind_in]
      split <;> rfl
    · rw [if_neg h2, if_neg h2]
  · rw [if_neg h1, if_neg h1]
theorem few_dd {a b : List Bs} (ha : Few a) (hb : Few b) : Fits (ddF a b) := by
  have := ddF_le a b
  have h1 := ha.size
  have h2 := hb.size
  have h3 := ha.1
  have h4 := hb.1
  exact ⟨by omega, by omega⟩

/-! ### the law's own example -/
theorem fits_lit {l : List Bs} (h : (decide (l.length ≤ 1000000) && decide (sizeN l ≤ 1000000000)) = true) : Fits l := by
  simpa [Fits] using h
theorem small_eq : ladinglaw04_small = some true := by
  have a1 : content_Add [] [97, 98] = some ([[97, 98]], 0, 0) := by rw [add_eq (fits_lit (by decide +kernel)) (by decide +kernel)]; exact congrArg some (by decide +kernel)
  have a2 : content_Add [[97, 98]] [] = some ([[97, 98], []], 1, 0) := by rw [add_eq (fits_lit (by decide +kernel)) (by decide +kernel)]; exact congrArg some (by decide +kernel)
  have a3 : content_Join [[97], [98]] [[99], [97]] = some ([[97], [98], [99]], [2, 0], 0) := by rw [join_eq (fits_lit (by decide +kernel)) (fits_lit (by decide +kernel)) (fits_lit (by decide +kernel))]; exact congrArg some (by decide +kernel)
  have a4 : content_Texts [[97], [98]] [1, 0, 1] = some ([[98], [97], [98]], 0) := by rw [texts_eq (by decide +kernel)]; exact congrArg some (by decide +kernel)
  have a5 : content_Texts [[97], [98]] [2] = some ([], 4) := by rw [texts_eq (by decide +kernel)]; exact congrArg some (by decide +kernel)
  have a6 : content_Print [[97, 98], []] [] = some 1 := by rw [print_eq (by decide +kernel)]; exact congrArg some (by decide +kernel)
  have a7 : content_Print [[97, 98], []] [120] = some (-1) := by rw [print_eq (by decide +kernel)]; exact congrArg some (by decide +kernel)
  have a8 : content_Right [[97, 98], []] = some true := by rw [right_eq (fits_lit (by decide +kernel))]; exact congrArg some (by decide +kernel)
  have a9 : content_Right [[97], [97]] = some false := by rw [right_eq (fits_lit (by decide +kernel))]; exact congrArg some (by decide +kernel)
  unfold ladinglaw04_small
  rw [a1]; simp only [bind_in]
  rw [a2]; simp only [bind_in]
  rw [a3]; simp only [bind_in]
  rw [a4]; simp only [bind_in]
  rw [a5]; simp only [bind_in]
  simp only [if_true]
  rw [same_refl (by decide), same_refl (by decide), ints_refl (by decide), same_refl (by decide), a6, a7, a8, a9]
  simp only [bind_in, if_true]
  rfl

/-! ### ContentTells -/
theorem tells_true (a b : List Bs) (s : Bs) (p : List Int) : ladinglaw04_ContentTells a b s p = some true := by
  unfold ladinglaw04_ContentTells
  obtain ⟨fa, hfa, ha⟩ := few_eq a
  obtain ⟨fb, hfb, hb⟩ := few_eq b
  rw [small_eq, hfa, hfb]
  simp only [bind_in]
  by_cases h1 : fa = true
  · by_cases h2 : fb = true
    · have ha := ha h1
      have hb := hb h2
      rw [if_pos h1, if_pos h2]
      by_cases h3 : 100 < (s.length : Int)
      · rw [if_pos h3]
      · by_cases h4 : 24 < (p.length : Int)
        · rw [if_neg h3, if_pos h4]
        · have hA := ha.fits
          have hB := hb.fits
          have hD := few_dd ha hb
          have h5 := ha.1
          have h6 := hb.1
          rw [if_neg h3, if_neg h4, add_eq hA (by omega), refAdd_eq hA (by omega)]
          simp only [bind_in, if_true]
          rw [same_refl (by
            unfold addM
            split
            · split
              · exact hA.1
              · split
                · simp
                · simp; omega
            · simp)]
          simp only [bind_in, if_true]
          have hT : ∀ v, ladinglaw04_ContentTells.b1 a p v = if v < (p.length : Int) then (idx p v).bind fun _ => (i64? (v + 1)).bind fun v7 => some (.inl v7) else some (.inr (.inr ())) := fun v => by
            simp only [ladinglaw04_ContentTells.b1, text_eq, refText_eq, bind_in, if_true, beq_self_eq_true]
          have hL : loopM (ladinglaw04_ContentTells.b1 a p) 0 = some (.inr ()) := by
            refine loop_to (fun k => (k : Int)) p.length (fun k hk => ?_) ?_
            · rw [hT, if_pos (by omega), idx_nat hk]
              simp only [bind_in, if_true]
              rw [i64_succ (by omega)]
              rfl
            · rw [hT, if_neg (by omega)]
          rw [join_eq hA hB hD]
          simp only [bind_in, if_true]
          rw [refJoin_eq hA hB (by omega) (by omega) hD]
          simp only [bind_in, if_true]
          rw [refTexts_is, texts_eq (by omega)]
          simp only [bind_in, if_true]
          have hj : (joinM a b).1.length ≤ 1000000 ∧ (joinM a b).2.1.length ≤ 1000000 := by
            have h7 := (ddF_le a b).1
            have h8 := prF_len a b
            unfold joinM
            split
            · split
              · split
                · simp
                · exact ⟨by show (ddF a b).length ≤ _; omega, by show (prF a b).length ≤ _; omega⟩
              · simp
            · simp
          have ht : (textsM a p).1.length ≤ 1000000 := by
            unfold textsM
            split
            · simp; omega
            · simp
          rw [same_refl hj.1, ints_refl hj.2]
          simp only [bind_in, if_true]
          rw [same_refl ht]
          simp only [bind_in, if_true]
          rw [hL]
          simp only [bind_in, if_true]
          rw [right_eq hA, refRight_eq hA]
          simp only [bind_in, if_true]
          rw [if_pos (by simp), print_eq hA.1, refPrint_eq hA.1]
          simp only [bind_in, if_true]
          simp
    · rw [if_pos h1, if_neg h2]
  · rw [if_neg h1]
end Go.Proofs.Ytaoibhpefkjcmaa
