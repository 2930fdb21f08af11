/-
  Layer 4 (content): what the functions return, in plain words.
-/
import Derived.Test.YtaoibhpefkjcmaaCModel
import Derived.Test.YtaoibhpefkjcmaaPlain
namespace Go.Proofs.Ytaoibhpefkjcmaa
set_option linter.unusedSimpArgs false
open Go.Lad
set_option linter.unusedVariables false

def sizeN (l : List Bs) : Nat := (l.map (·.length)).sum
def printM (l : List Bs) (s : Bs) : Int := match pos l s with | some i => i | none => -1
def rightM (l : List Bs) : Bool := decide l.Nodup && decide (sizeN l ≤ 1048576)
theorem sizeN_app (l m : List Bs) : sizeN (l ++ m) = sizeN l + sizeN m := by simp [sizeN]
theorem sizeN_one (s : Bs) : sizeN [s] = s.length := by simp [sizeN]
theorem sizeN_take (l : List Bs) (k : Nat) (h : k < l.length) : sizeN (l.take (k + 1)) = sizeN (l.take k) + l[k].length := by
  rw [take_snoc l k h, sizeN_app, sizeN_one]
theorem sizeN_le (l : List Bs) (k : Nat) : sizeN (l.take k) ≤ sizeN l := by
  conv => rhs; rw [← List.take_append_drop k l, sizeN_app]
  omega
/-- lists that are small enough to be reckoned with -/
def Fits (l : List Bs) : Prop := l.length ≤ 1000000 ∧ sizeN l ≤ 1000000000

theorem size_eq {l : List Bs} (h : Fits l) : content_size l = some (sizeN l : Int) := by
  unfold content_size
  have hS : loopM (content_size.b1 l) (0, 0) = some (sizeN l : Int) := by
    refine loop_at (fun k => ((sizeN (l.take k) : Int), (k : Int))) l.length (by simp [sizeN]) (fun k hk => ?_) ?_
    · have h1 := sizeN_take l k hk
      have h2 := sizeN_le l (k + 1)
      have h3 := h.1
      have h4 := h.2
      simp only [content_size.b1]
      rw [if_pos (by omega), idx_nat hk]
      simp only [bind_in]
      rw [i64_add (by omega), ← h1]
      simp only [bind_in]
      rw [i64_succ (by omega)]
      rfl
    · simp only [content_size.b1]
      rw [if_neg (by omega), take_all l _ (Nat.le_refl _)]
  rw [hS]
  simp only [bind_in]
theorem bytes_eq {l : List Bs} (h : Fits l) : ladingref04_bytes l = some (sizeN l : Int) := by
  unfold ladingref04_bytes
  have hS : loopM (ladingref04_bytes.b1 l) (0, 0) = some (sizeN l : Int) := by
    refine loop_at (fun k => ((sizeN (l.take k) : Int), (k : Int))) l.length (by simp [sizeN]) (fun k hk => ?_) ?_
    · have h1 := sizeN_take l k hk
      have h2 := sizeN_le l (k + 1)
      have h3 := h.1
      have h4 := h.2
      simp only [ladingref04_bytes.b1]
      rw [if_pos (by omega), idx_nat hk]
      simp only [bind_in]
      rw [i64_add (by omega), ← h1]
      simp only [bind_in]
      rw [i64_succ (by omega)]
      rfl
    · simp only [ladingref04_bytes.b1]
      rw [if_neg (by omega), take_all l _ (Nat.le_refl _)]
  rw [hS]
  simp only [bind_in]
theorem index_eq {l : List Bs} {s : Bs} (h : l.length ≤ 1000000) : slices_Index_string_string l s = some (printM l s) := by
  unfold slices_Index_string_string printM
  cases hp : pos l s with
  | some m =>
    obtain ⟨hm, he, hn⟩ := pos_hit hp
    have : loopM (slices_Index_string_string.b1 l s) 0 = some (.inl (m : Int)) := by
      refine loop_to (fun k => (k : Int)) m (fun k hk => ?_) ?_
      · simp only [slices_Index_string_string.b1]
        rw [if_pos (by omega), idx_nat (show k < l.length by omega)]
        simp only [bind_in]
        rw [if_neg (fun e => hn k hk e.symm), i64_succ (by omega)]
        rfl
      · simp only [slices_Index_string_string.b1]
        rw [if_pos (by omega), idx_nat hm]
        simp only [bind_in]
        rw [if_pos he.symm]
    rw [this]; rfl
  | none =>
    have hn := pos_miss hp
    have : loopM (slices_Index_string_string.b1 l s) 0 = some (.inr ()) := by
      refine loop_to (fun k => (k : Int)) l.length (fun k hk => ?_) ?_
      · simp only [slices_Index_string_string.b1]
        rw [if_pos (by omega), idx_nat hk]
        simp only [bind_in]
        rw [if_neg (fun e => hn k hk e.symm), i64_succ (by omega)]
        rfl
      · simp only [slices_Index_string_string.b1]
        rw [if_neg (by omega)]
    rw [this]; rfl
theorem print_eq {l : List Bs} {s : Bs} (h : l.length ≤ 1000000) : content_Print l s = some (printM l s) := by
  unfold content_Print
  rw [index_eq h]; rfl
theorem refPrint_eq {l : List Bs} {s : Bs} (h : l.length ≤ 1000000) : ladingref04_Print l s = some (printM l s) := by
  unfold ladingref04_Print printM
  cases hp : pos l s with
  | some m =>
    obtain ⟨hm, he, hn⟩ := pos_hit hp
    have : loopM (ladingref04_Print.b1 l s) 0 = some (.inl (m : Int)) := by
      refine loop_to (fun k => (k : Int)) m (fun k hk => ?_) ?_
      · simp only [ladingref04_Print.b1]
        rw [if_pos (by omega), idx_nat (show k < l.length by omega)]
        simp only [bind_in]
        rw [if_neg (fun e => hn k hk e), i64_succ (by omega)]
        rfl
      · simp only [ladingref04_Print.b1]
        rw [if_pos (by omega), idx_nat hm]
        simp only [bind_in]
        rw [if_pos he]
    rw [this]; rfl
  | none =>
    have hn := pos_miss hp
    have : loopM (ladingref04_Print.b1 l s) 0 = some (.inr ()) := by
      refine loop_to (fun k => (k : Int)) l.length (fun k hk => ?_) ?_
      · simp only [ladingref04_Print.b1]
        rw [if_pos (by omega), idx_nat hk]
        simp only [bind_in]
        rw [if_neg (fun e => hn k hk e), i64_succ (by omega)]
        rfl
      · simp only [ladingref04_Print.b1]
        rw [if_neg (by omega)]
    rw [this]; rfl
theorem printM_lt (l : List Bs) (s : Bs) : -1 ≤ printM l s ∧ printM l s < l.length ∨ l = [] := by
  unfold printM
  cases h : pos l s with
  | none =>
    cases l with
    | nil => exact .inr rfl
    | cons a l => refine .inl ⟨by simp, by simp; omega⟩
  | some i => have := pos_lt h; exact .inl ⟨by show -1 ≤ (i : Int); omega, by show (i : Int) < l.length; omega⟩
theorem printM_mem {l : List Bs} {s : Bs} (h : s ∈ l) : 0 ≤ printM l s := by
  unfold printM
  cases hp : pos l s with
  | none => exact absurd h (pos_none.1 hp)
  | some i => simp
theorem printM_not {l : List Bs} {s : Bs} (h : s ∉ l) : printM l s = -1 := by
  unfold printM
  rw [pos_none.2 h]

@[reducible] instance memDec (s : Bs) (l : List Bs) : Decidable (s ∈ l) := @List.instDecidableMemOfLawfulBEq _ instBEqOfDecidableEq inferInstance s l
/-- a list's texts, each once, behind a -/
def ddF (a b : List Bs) : List Bs := b.foldl (fun a s => if s ∈ a then a else a ++ [s]) a
theorem ddF_one (a b : List Bs) (s : Bs) : ddF a (b ++ [s]) = if s ∈ ddF a b then ddF a b else ddF a b ++ [s] := by
  unfold ddF
  rw [List.foldl_append]
  rfl
theorem ddF_mem (a b : List Bs) (s : Bs) : s ∈ ddF a b ↔ s ∈ a ∨ s ∈ b := by
  induction b using rev_ind with
  | h0 => simp [ddF]
  | h1 b x ih =>
    rw [ddF_one]
    split
    · rename_i h
      rw [ih, List.mem_append, List.mem_singleton]
      constructor
      · rintro (h | h) <;> simp [h]
      · rintro (h' | h' | h')
        · exact .inl h'
        · exact .inr h'
        · subst h'; exact ih.1 h
    · rw [List.mem_append, List.mem_append, ih, List.mem_singleton, or_assoc]
theorem ddF_len (b : List Bs) : (ddF [] b).length ≤ b.length ∧ ((ddF [] b).length = b.length ↔ b.Nodup) := by
  induction b using rev_ind with
  | h0 => simp [ddF]
  | h1 b x ih =>
    have hm := ddF_mem [] b x
    simp only [List.not_mem_nil, false_or] at hm
    rw [ddF_one, List.nodup_append]
    split
    · rename_i h
      have hb : x ∈ b := hm.1 h
      refine ⟨by simp; omega, ?_⟩
      constructor
      · intro h2; simp at h2; omega
      · rintro ⟨_, _, h3⟩
        exact absurd rfl (h3 x hb x (by simp))
    · rename_i h
      have hb : x ∉ b := fun h' => h (hm.2 h')
      refine ⟨by simp; omega, ?_⟩
      simp only [List.length_append, List.length_singleton, Nat.add_right_cancel_iff, ih.2]
      constructor
      · intro h2
        refine ⟨h2, by simp, ?_⟩
        intro y hy z hz e
        simp at hz
        subst hz e
        exact hb hy
      · exact fun h => h.1

def rm (l : List Bs) : List (Bs × Bool) := l.foldl (fun m s => putM m s true) []
theorem rm_one (l : List Bs) (s : Bs) : rm (l ++ [s]) = putM (rm l) s true := by simp [rm]
theorem rm_keys (l : List Bs) : (rm l).map (·.1) = ddF [] l := by
  induction l using rev_ind with
  | h0 => rfl
  | h1 l x ih => rw [rm_one, keys_put, ih, ddF_one]
theorem rm_len (l : List Bs) : (rm l).length = (ddF [] l).length := by rw [← rm_keys, List.length_map]
theorem right_eq {l : List Bs} (h : Fits l) : content_Right l = some (rightM l) := by
  unfold content_Right
  have hS : loopM (content_Right.b1 l) ([], 0) = some (rm l) := by
    refine loop_at (fun k => (rm (l.take k), (k : Int))) l.length (by simp [rm]) (fun k hk => ?_) ?_
    · have h3 := h.1
      simp only [content_Right.b1]
      rw [if_pos (by omega), idx_nat hk]
      simp only [bind_in]
      rw [i64_succ (by omega)]
      simp only [bind_in]
      rw [take_snoc l k hk, rm_one]
    · simp only [content_Right.b1]
      rw [if_neg (by omega), take_all l _ (Nat.le_refl _)]
  have hl := ddF_len l
  have h1 := rm_len l
  have h3 := h.1
  rw [hS]
  simp only [bind_in]
  rw [need_in (by omega)]
  simp only [bind_in]
  unfold rightM
  by_cases hn : l.Nodup
  · rw [if_pos (by rw [h1, hl.2.2 hn]), size_eq h]
    simp [hn]
    omega
  · rw [if_neg (fun e => hn (hl.2.1 (by omega)))]
    simp [hn]
theorem refRight_eq {l : List Bs} (h : Fits l) : ladingref04_Right l = some (rightM l) := by
  have h3 := h.1
  unfold ladingref04_Right
  have pm : ∀ k (hk : k < l.length), printM l l[k] = (k : Int) ↔ ∀ j (hj : j < k), l[j]'(by omega) ≠ l[k] := fun k hk => by
    unfold printM
    cases hp : pos l l[k] with
    | none => exact absurd rfl (pos_miss hp k hk)
    | some i =>
      obtain ⟨hi, he, hne⟩ := pos_hit hp
      constructor
      · intro e
        have e : (i : Int) = k := e
        have : i = k := by omega
        subst this
        exact hne
      · intro hh
        rcases Nat.lt_trichotomy i k with h | h | h
        · exact absurd he (hh i h)
        · show (i : Int) = k; omega
        · exact absurd rfl (hne k h)
  rcases first_of (p := fun k => ∃ hk : k < l.length, printM l l[k] ≠ (k : Int)) l.length with ⟨m, hm, ⟨hm', hpm⟩, hbefore⟩ | hall
  · have hnd : ¬ l.Nodup := fun hn => hpm ((pm m hm').2 fun j hj e => by
      have := List.pairwise_iff_getElem.1 hn j m (by omega) hm' hj
      exact this e)
    have : loopM (ladingref04_Right.b1 l) 0 = some (.inl ()) := by
      refine loop_to (fun k => (k : Int)) m (fun k hk => ?_) ?_
      · simp only [ladingref04_Right.b1]
        have hkl : k < l.length := by omega
        rw [if_pos (by omega), idx_nat hkl]
        simp only [bind_in]
        rw [refPrint_eq h.1]
        simp only [bind_in]
        have : printM l l[k] = (k : Int) := Classical.byContradiction fun hc => hbefore k hk ⟨hkl, hc⟩
        rw [if_pos this, i64_succ (by omega)]
        rfl
      · simp only [ladingref04_Right.b1]
        rw [if_pos (by omega), idx_nat hm']
        simp only [bind_in]
        rw [refPrint_eq h.1]
        simp only [bind_in]
        rw [if_neg hpm]
    rw [this]
    simp [rightM, hnd]
  · have hpk : ∀ k (hk : k < l.length), printM l l[k] = (k : Int) := fun k hk => Classical.byContradiction fun hc => hall k hk ⟨hk, hc⟩
    have hnd : l.Nodup := List.pairwise_iff_getElem.2 fun i j hi hj hij e => (pm j hj).1 (hpk j hj) i hij e
    have : loopM (ladingref04_Right.b1 l) 0 = some (.inr ()) := by
      refine loop_to (fun k => (k : Int)) l.length (fun k hk => ?_) ?_
      · simp only [ladingref04_Right.b1]
        rw [if_pos (by omega), idx_nat hk]
        simp only [bind_in]
        rw [refPrint_eq h.1]
        simp only [bind_in]
        rw [if_pos (hpk k hk), i64_succ (by omega)]
        rfl
      · simp only [ladingref04_Right.b1]
        rw [if_neg (by omega)]
    rw [this]
    simp only [bind_in]
    rw [bytes_eq h]
    simp [rightM, hnd]
    omega
end Go.Proofs.Ytaoibhpefkjcmaa
