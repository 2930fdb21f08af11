/-
  Layer 36 (chunk): what the functions of chunks and their reference reckon, in plain words.
-/
import Derived.Test.YtnjmhnogpgnbmaaK1
namespace Go.Proofs.Ytnjmhnogpgnbmaa
open Go.Lad
set_option linter.unusedVariables false
set_option linter.unusedSimpArgs false
set_option linter.unusedSectionVars false
/-! ### cutting -/
theorem cutN_get (n : Nat) (hn : 0 < n) : ∀ (f : Nat) (s : Bs), s.length ≤ f → ∀ k, (cutN n f s)[k]? = if k * n < s.length then some ((s.drop (k * n)).take n) else none
  | 0, s, h, k => by
    have : s = [] := List.eq_nil_of_length_eq_zero (by omega)
    subst this
    rw [if_neg (by simp)]; rfl
  | f + 1, [], h, k => by rw [if_neg (by simp)]; rfl
  | f + 1, c :: r, h, k => by
    show ((c :: r).take n :: cutN n f ((c :: r).drop n))[k]? = _
    cases k with
    | zero =>
      rw [Nat.zero_mul, if_pos (by simp)]; rfl
    | succ k =>
      rw [List.getElem?_cons_succ, cutN_get n hn f _ (by rw [List.length_drop]; omega), List.length_drop, List.drop_drop]
      have e : n + k * n = (k + 1) * n := by rw [Nat.add_mul]; omega
      rw [e]
      by_cases h1 : (k + 1) * n < (c :: r).length
      · rw [if_pos (by omega), if_pos h1]
      · rw [if_neg (by omega), if_neg h1]
theorem cutN_flat (n : Nat) (hn : 0 < n) : ∀ (f : Nat) (s : Bs), s.length ≤ f → (cutN n f s).flatten = s
  | 0, s, h => by
    have : s = [] := List.eq_nil_of_length_eq_zero (by omega)
    subst this; rfl
  | f + 1, [], h => rfl
  | f + 1, c :: r, h => by
    show ((c :: r).take n :: cutN n f ((c :: r).drop n)).flatten = _
    rw [List.flatten_cons, cutN_flat n hn f _ (by rw [List.length_drop]; simp at h ⊢; omega), List.take_append_drop]
section
variable {n f : Nat} {s : Bs} (hn : 0 < n) (hf : s.length ≤ f)
include hn hf
theorem cutN_lt (k : Nat) : k < (cutN n f s).length ↔ k * n < s.length := by
  have := cutN_get n hn f s hf k
  by_cases h : k * n < s.length
  · rw [if_pos h] at this
    exact ⟨fun _ => h, fun _ => (List.getElem?_eq_some_iff.1 this).1⟩
  · rw [if_neg h] at this
    have := List.getElem?_eq_none_iff.1 this
    exact ⟨fun h1 => by omega, fun h1 => absurd h1 h⟩
theorem cutN_at (k : Nat) (hk : k < (cutN n f s).length) : (cutN n f s)[k] = (s.drop (k * n)).take n := by
  have := cutN_get n hn f s hf k
  rw [if_pos ((cutN_lt hn hf k).1 hk), List.getElem?_eq_getElem hk] at this
  exact Option.some.inj this
theorem cutN_len : (cutN n f s).length ≤ s.length := by
  rcases Nat.lt_or_ge s.length (cutN n f s).length with h | h
  · have h1 := (cutN_lt hn hf s.length).1 h
    have : s.length * 1 ≤ s.length * n := Nat.mul_le_mul_left _ hn
    omega
  · exact h
theorem cutN_mem {x : Bs} (hx : x ∈ cutN n f s) : x ≠ [] ∧ x.length ≤ n ∧ x.length ≤ s.length := by
  obtain ⟨k, hk, rfl⟩ := List.mem_iff_getElem.1 hx
  rw [cutN_at hn hf k hk]
  have h1 := (cutN_lt hn hf k).1 hk
  have h2 : ((s.drop (k * n)).take n).length = min n (s.length - k * n) := by rw [List.length_take, List.length_drop]
  refine ⟨fun e => ?_, by omega, by omega⟩
  rw [e, List.length_nil] at h2
  omega
end
def chunksF (text : Bs) (size : Int) : List Bs := if 1 ≤ size ∧ size ≤ 4096 then cutN size.toNat text.length text else []
theorem foldR_app : ∀ (xs acc : List Bs) (k : Nat), acc.length + xs.length ≤ 2147483647 → foldR (fun _ r x => slices_AppendSeq_string_string.r1 r x) k xs acc = some (.inl (acc ++ xs))
  | [], acc, k, h => by unfold foldR; rw [List.append_nil]
  | x :: r, acc, k, h => by
    unfold foldR slices_AppendSeq_string_string.r1
    rw [List.length_cons] at h
    rw [app_in (by rw [List.length_singleton]; omega)]
    simp only [bind_in]
    have := foldR_app r (acc ++ [x]) (k + 1) (by rw [List.length_append, List.length_singleton]; omega)
    rw [List.append_assoc, List.singleton_append] at this
    exact this
theorem cut_eq {text : Bs} {size : Int} (h : text.length ≤ 1000000000) : chunk_Cut text size = some (chunksF text size) := by
  unfold chunk_Cut chunk_sized chunksF
  simp only [leZ_eq, bif_dec]
  by_cases h1 : 1 ≤ size
  · rw [if_pos h1]
    simp only [bind_in, bif_not, bif_dec]
    by_cases h2 : size ≤ 4096
    · rw [if_pos h2, if_pos ⟨h1, h2⟩]
      have hl := cutN_len (n := size.toNat) (f := text.length) (s := text) (by omega) (Nat.le_refl _)
      have e : partsF text size = some (cutN size.toNat text.length text) := by unfold partsF; rw [bif_leZ, if_pos h1]
      simp only [chunk_parts, bind_in, slices_Collect_string, slices_AppendSeq_string_string]
      rw [e]
      simp only [bind_in]
      rw [foldR_app _ _ _ (by simp only [List.length_nil]; omega)]
      simp only [bind_in, slices_AppendSeq_string_string.j1, List.nil_append]
    · rw [if_neg h2, if_neg (fun h => h2 h.2)]
  · rw [if_neg h1, if_neg (fun h => h1 h.1)]
    simp only [bind_in, Bool.not_false, cond_true]
theorem drop_cut {text : Bs} {a n : Nat} (ha : a ≤ text.length) : (text.take (min ((a : Int) + (n : Int)) (text.length : Int)).toNat).drop a = (text.drop a).take n := by
  rw [List.drop_take]
  by_cases h : a + n ≤ text.length
  · rw [show (min ((a : Int) + (n : Int)) (text.length : Int)).toNat - a = n by omega]
  · rw [List.take_of_length_le (by rw [List.length_drop]; omega), List.take_of_length_le (by rw [List.length_drop]; omega)]
theorem rcut_eq {text : Bs} {size : Int} (h : text.length ≤ 1000000000) : ladingref36_Cut text size = some (chunksF text size) := by
  unfold ladingref36_Cut chunksF
  simp only [ltZ_eq, bif_dec]
  by_cases h1 : size < 1
  · rw [if_pos h1, if_neg (by omega)]; rfl
  · rw [if_neg h1]
    simp only [bind_in, ladingref36_Cut.j1, bif_dec]
    by_cases h2 : 4096 < size
    · rw [if_pos h2, if_neg (by omega)]
    · rw [if_neg h2, if_pos (by omega)]
      obtain ⟨n, rfl⟩ : ∃ n : Nat, size = (n : Int) := ⟨size.toNat, by omega⟩
      have hn : 0 < n := by omega
      rw [Int.toNat_natCast]
      have hf := Nat.le_refl text.length
      have hl := cutN_len (n := n) (f := text.length) (s := text) hn hf
      refine loopF_at (fun k => (((k * n : Nat) : Int), (cutN n text.length text).take k)) (cutN n text.length text).length (by simp) (fun k hk => ?_) ?_
      · have hkn := (cutN_lt hn hf k).1 hk
        simp only [ladingref36_Cut.b1, bif_ltZ]
        rw [if_pos (by omega), z64_add (by omega)]
        simp only [bind_in]
        rw [cut_in (by omega) (by omega) (by omega), Int.toNat_natCast, show (((k * n + n : Nat) : Int)) = (((k * n : Nat) : Int) + (n : Int)) by omega, drop_cut (by omega)]
        simp only [bind_in]
        rw [app_in (by rw [List.length_take, List.length_singleton]; omega)]
        simp only [bind_in]
        rw [take_snoc _ k hk, cutN_at hn hf k hk, show (((k * n : Nat) : Int) + (n : Int)) = (((k + 1) * n : Nat) : Int) by rw [Nat.add_mul]; omega]
      · have := (cutN_lt hn hf (cutN n text.length text).length).2
        simp only [ladingref36_Cut.b1, bif_ltZ]
        rw [if_neg (fun h => by
          have := this (by omega)
          omega), List.take_length]
/-! ### right manifests -/
def good1 (c : List Bs) (s : Bs) (n : Int) : Bool := (textF c n).2 && (!decide ((textF c n).1 = []) && (decide ((textF c n).1.length ≤ 4096) && decide (s.take (textF c n).1.length = (textF c n).1)))
def fits (c : List Bs) : Bs → List Int → Bool
  | s, [] => decide (s = [])
  | s, n :: r => good1 c s n && fits c (s.drop (textF c n).1.length) r
def rightM (c : List Bs) (m : GManifest) : Bool := if (textF c m.1).2 = true ∧ RightP c ∧ m.2.1 = ((textF c m.1).1.length : Int) ∧ m.2.2.length ≤ 1000 then fits c (textF c m.1).1 m.2.2 else false
theorem cutp_eq (s p : Bs) : strings_CutPrefix s p = some (if s.take p.length = p then (s.drop p.length, true) else (s, false)) := by
  unfold strings_CutPrefix internal_stringslite_CutPrefix internal_stringslite_HasPrefix
  simp only [bif_leZ]
  by_cases h1 : (p.length : Int) ≤ (s.length : Int)
  · rw [if_pos h1, cut_in (by omega) (by omega) (by omega)]
    simp only [bind_in, bif_not, bif_dec, Int.toNat_natCast]
    rw [show (s.take p.length).drop (0 : Int).toNat = s.take p.length from rfl]
    by_cases h2 : s.take p.length = p
    · rw [if_pos h2, if_pos h2, cut_in (by omega) (by omega) (by omega)]
      simp only [bind_in, Int.toNat_natCast, List.take_length]
    · rw [if_neg h2, if_neg h2]
      simp only [bind_in]
  · rw [if_neg h1, if_neg (fun e => by
      have := congrArg List.length e
      rw [List.length_take] at this
      omega)]
    simp only [bind_in, Bool.not_false, cond_true]
theorem run_fits (c : List Bs) : ∀ (l : List Int) (k : Nat) (s : Bs), runI (fun _ s n => if good1 c s n = true then .inl (s.drop (textF c n).1.length) else .inr false) (fun s => decide (s = [])) k s l = fits c s l
  | [], _, _ => rfl
  | n :: r, k, s => by
    unfold runI fits
    cases good1 c s n with
    | true =>
      rw [if_pos rfl, Bool.true_and]
      exact run_fits c r (k + 1) _
    | false => rw [if_neg (by simp), Bool.false_and]
section
variable {c : List Bs} (hc : szF c ≤ 1000000000) (hl : c.length ≤ 1000000000)
include hc hl
theorem mright_eq (m : GManifest) : chunk_Right c m = some (rightM c m) := by
  unfold chunk_Right rightM
  rw [text_eq]
  simp only [bind_in, bif_not]
  cases ht : (textF c m.1).2 with
  | false => rw [cond_false, if_neg (by simp)]; rfl
  | true =>
    rw [cond_true, right_eq hc hl]
    simp only [bind_in, bif_not, bif_dec, bif_eqZ]
    by_cases hr : RightP c
    · rw [if_pos hr]
      by_cases hsz : m.2.1 = ((textF c m.1).1.length : Int)
      · rw [if_pos hsz, ltZ_eq]
        simp only [bind_in, chunk_Right.j2, bif_dec]
        by_cases h3 : (1000 : Int) < (m.2.2.length : Int)
        · rw [if_pos h3, if_neg (fun h => by omega)]
        · rw [if_neg h3, if_pos ⟨by trivial, hr, hsz, by omega⟩]
          rw [← run_fits c m.2.2 0]
          refine loop_run (body := fun x => chunk_Right.b1 c m x.1 x.2) (fun k (s : Bs) => (s, (k : Int))) m.2.2 _ _ (fun _ _ => True) (fun _ _ _ _ _ _ => trivial) (fun k hk s _ => ?_) (fun s _ => ?_) (by omega) trivial
          · simp only [chunk_Right.b1, bif_ltZ]
            rw [if_pos (by omega), idx_nat hk]
            simp only [bind_in]
            rw [text_eq]
            simp only [bind_in]
            rw [cutp_eq]
            simp only [bind_in, bif_not, bif_dec, bif_ltZ]
            unfold good1
            cases h5 : (textF c m.2.2[k]).2 with
            | false => rfl
            | true =>
              rw [cond_true]
              by_cases h6 : (textF c m.2.2[k]).1 = []
              · rw [if_pos h6, decide_eq_true h6]; rfl
              · rw [if_neg h6, decide_eq_false h6]
                by_cases h7 : (4096 : Int) < ((textF c m.2.2[k]).1.length : Int)
                · rw [if_pos h7, decide_eq_false (by omega : ¬ (textF c m.2.2[k]).1.length ≤ 4096)]; rfl
                · rw [if_neg h7, decide_eq_true (by omega : (textF c m.2.2[k]).1.length ≤ 4096)]
                  by_cases h8 : s.take (textF c m.2.2[k]).1.length = (textF c m.2.2[k]).1
                  · rw [if_pos h8, decide_eq_true h8]
                    simp only [bind_in, chunk_Right.j1, Bool.not_true, cond_false]
                    rw [z64_succ (by omega)]; rfl
                  · rw [if_neg h8, decide_eq_false h8]; rfl
          · simp only [chunk_Right.b1, bif_ltZ]
            rw [if_neg (by omega)]
      · rw [if_neg hsz, if_neg (fun h => hsz h.2.2.1)]; rfl
    · rw [if_neg hr, if_neg (fun h => hr h.2.1)]; rfl
theorem run_fits2 (text : Bs) : ∀ (l : List Int) (k a : Nat), a ≤ text.length → runI (fun _ (a : Nat) n => if good1 c (text.drop a) n = true then .inl (a + (textF c n).1.length) else .inr false) (fun a => decide (a = text.length)) k a l = fits c (text.drop a) l
  | [], k, a, ha => by
    unfold runI fits
    by_cases h : a = text.length
    · rw [decide_eq_true h, decide_eq_true (by rw [h]; simp)]
    · rw [decide_eq_false h, decide_eq_false (fun e => by
        have := congrArg List.length e
        rw [List.length_drop, List.length_nil] at this
        omega)]
  | n :: r, k, a, ha => by
    unfold runI fits
    cases h : good1 c (text.drop a) n with
    | true =>
      rw [if_pos rfl, Bool.true_and]
      have h2 := h
      unfold good1 at h2
      simp only [Bool.and_eq_true, decide_eq_true_eq] at h2
      have h3 := congrArg List.length h2.2.2.2
      rw [List.length_take, List.length_drop] at h3
      dsimp only
      rw [run_fits2 text r (k + 1) _ (by omega), List.drop_drop]
    | false => rw [if_neg (by simp), Bool.false_and]
theorem rmright_eq (m : GManifest) : ladingref36_Right c m = some (rightM c m) := by
  unfold ladingref36_Right rightM
  rw [rtext_eq, rright_eq hc hl]
  simp only [bind_in, bif_not, bif_dec, bif_eqZ, ltZ_eq]
  by_cases hr : RightP c
  · rw [if_pos hr]
    cases ht : (textF c m.1).2 with
    | false => rw [cond_false, if_neg (by simp)]; rfl
    | true =>
      rw [cond_true]
      by_cases hsz : m.2.1 = ((textF c m.1).1.length : Int)
      · rw [if_pos hsz]
        simp only [bind_in, ladingref36_Right.j2, bif_dec]
        by_cases h3 : (1000 : Int) < (m.2.2.length : Int)
        · rw [if_pos h3, if_neg (fun h => by omega)]
        · rw [if_neg h3, if_pos ⟨by trivial, hr, hsz, by omega⟩]
          have htl : (textF c m.1).1.length ≤ 1000000000 := Nat.le_trans (szF_mem (textF_ok ht).1) hc
          have key := run_fits2 hc hl (textF c m.1).1 m.2.2 0 0 (Nat.zero_le _)
          rw [List.drop_zero] at key
          rw [← key]
          refine loop_run (body := fun x => ladingref36_Right.b1 c m (textF c m.1) x.1 x.2) (fun k (a : Nat) => ((a : Int), (k : Int))) m.2.2 _ _ (fun _ a => a ≤ (textF c m.1).1.length) (fun k hk a a' ha he => ?_) (fun k hk a ha => ?_) (fun a ha => ?_) (by omega) (Nat.zero_le _)
          · split at he
            · rename_i h2
              injection he with he
              unfold good1 at h2
              simp only [Bool.and_eq_true, decide_eq_true_eq] at h2
              have h3 := congrArg List.length h2.2.2.2
              rw [List.length_take, List.length_drop] at h3
              omega
            · cases he
          · simp only [ladingref36_Right.b1, bif_ltZ]
            rw [if_pos (by omega), idx_nat hk]
            simp only [bind_in]
            rw [rtext_eq]
            simp only [bind_in, bif_not, bif_dec, bif_ltZ]
            unfold good1
            cases h5 : (textF c m.2.2[k]).2 with
            | false => rfl
            | true =>
              rw [cond_true]
              by_cases h6 : (textF c m.2.2[k]).1 = []
              · rw [if_pos h6, decide_eq_true h6]; rfl
              · rw [if_neg h6, decide_eq_false h6]
                by_cases h7 : (4096 : Int) < ((textF c m.2.2[k]).1.length : Int)
                · rw [if_pos h7, decide_eq_false (by omega : ¬ (textF c m.2.2[k]).1.length ≤ 4096)]; rfl
                · rw [if_neg h7, decide_eq_true (by omega : (textF c m.2.2[k]).1.length ≤ 4096), z64_add (by omega)]
                  simp only [bind_in]
                  by_cases h9 : ((textF c m.1).1.length : Int) < ((a + (textF c m.2.2[k]).1.length : Nat) : Int)
                  · rw [if_pos h9, decide_eq_false (fun e => by
                      have := congrArg List.length e
                      rw [List.length_take, List.length_drop] at this
                      omega)]
                    rfl
                  · rw [if_neg h9, cut_in (by omega) (by omega) (by omega), Int.toNat_natCast, Int.toNat_natCast, List.drop_take, show a + (textF c m.2.2[k]).1.length - a = (textF c m.2.2[k]).1.length by omega]
                    simp only [bind_in]
                    by_cases h8 : ((textF c m.1).1.drop a).take (textF c m.2.2[k]).1.length = (textF c m.2.2[k]).1
                    · rw [decide_eq_true h8]
                      simp only [bind_in, ladingref36_Right.j1, Bool.not_true, cond_false]
                      rw [z64_add (by omega)]
                      simp only [bind_in]
                      rw [z64_succ (by omega)]; rfl
                    · rw [decide_eq_false h8]; rfl
          · simp only [ladingref36_Right.b1, bif_ltZ, eqZ_eq]
            rw [if_neg (by omega)]
            by_cases h : a = (textF c m.1).1.length
            · rw [decide_eq_true h, decide_eq_true (by omega)]
            · rw [decide_eq_false h, decide_eq_false (by omega)]
      · rw [if_neg hsz, if_neg (fun h => hsz h.2.2.1)]; rfl
  · rw [if_neg hr, if_neg (fun h => hr h.2.1)]; rfl
end
/-! ### checking, joining -/
def checkF (c : List Bs) (ns : List Int) (i : Int) (text : Bs) : Bool := if 0 ≤ i ∧ i < ns.length then (textF c (ns.getD i.toNat 0)).2 && decide ((textF c (ns.getD i.toNat 0)).1 = text) else false
theorem check_eq (c : List Bs) (m : GManifest) (i : Int) (text : Bs) : chunk_Check c m i text = some (checkF c m.2.2 i text) := by
  unfold chunk_Check checkF
  simp only [bif_ltZ, leZ_eq]
  by_cases h1 : i < 0
  · rw [if_pos h1, if_neg (by omega)]; rfl
  · rw [if_neg h1]
    simp only [bind_in, chunk_Check.j1, bif_dec]
    by_cases h2 : (m.2.2.length : Int) ≤ i
    · rw [if_pos h2, if_neg (by omega)]
    · rw [if_neg h2, if_pos (by omega), idx_int (by omega) (by omega)]
      simp only [bind_in]
      rw [text_eq]
      simp only [bind_in]
      rw [List.getD_eq_getElem?_getD, List.getElem?_eq_getElem (by omega), Option.getD_some]
      cases (textF c m.2.2[i.toNat]).2 <;> rfl
theorem rcheck_eq (c : List Bs) (m : GManifest) (i : Int) (text : Bs) : ladingref36_Check c m i text = some (checkF c m.2.2 i text) := (show ladingref36_Check c m i text = chunk_Check c m i text from rfl).trans (check_eq c m i text)
def AllC (c : List Bs) (ns : List Int) (cs : List Bs) : Prop := ∀ k, (hk : k < cs.length) → checkF c ns (k : Int) cs[k] = true
instance (c : List Bs) (ns : List Int) (cs : List Bs) : Decidable (AllC c ns cs) := inferInstanceAs (Decidable (∀ k, (hk : k < cs.length) → checkF c ns (k : Int) cs[k] = true))
def joinM (c : List Bs) (m : GManifest) (cs : List Bs) : Bs × Int :=
  if rightM c m = true ∧ cs.length = m.2.2.length then (if AllC c m.2.2 cs then (cs.flatten, 0) else ([], 28)) else ([], 1)
theorem join_flat : ∀ (l : List Bs), Lib.join l [] = l.flatten
  | [] => rfl
  | [x] => by simp [Lib.join]
  | x :: y :: r => by
    have := join_flat (y :: r)
    simp only [Lib.join, List.flatten_cons, List.nil_append, List.append_assoc] at this ⊢
    first | rw [this] | simp [this]
theorem flat_len : ∀ (l : List Bs), l.flatten.length = szF l
  | [] => rfl
  | x :: r => by rw [List.flatten_cons, List.length_append, flat_len r, szF]
theorem sjoin_eq {l : List Bs} (h : szF l ≤ 1000000000) (hl : l.length ≤ 1000000000) : strings_Join l [] = some l.flatten := by
  unfold strings_Join joinF
  rw [join_flat]
  have h1 : Nat.ble l.length 140737488355328 = true := Nat.ble_eq_true_of_le (by omega)
  have h2 : Nat.ble l.flatten.length 140737488355328 = true := Nat.ble_eq_true_of_le (by rw [flat_len]; omega)
  rw [h1, h2]; rfl
section
variable {c : List Bs} (hc : szF c ≤ 1000000000) (hl : c.length ≤ 1000000000) {cs : List Bs} (hs : szF cs ≤ 1000000000) (hsl : cs.length ≤ 1000000000)
include hc hl hs hsl
theorem join_eq (m : GManifest) : chunk_Join c m cs = some (joinM c m cs) := by
  unfold chunk_Join joinM
  rw [mright_eq hc hl]
  simp only [bind_in, bif_not]
  cases hr : rightM c m with
  | false => rw [cond_false, if_neg (by simp)]; rfl
  | true =>
    rw [cond_true, eqZ_eq]
    simp only [bind_in, chunk_Join.j2, bif_not, bif_dec]
    by_cases h1 : cs.length = m.2.2.length
    · rw [if_pos (by omega), if_pos ⟨by trivial, h1⟩]
      have key : ∀ k, k < cs.length → ∀ x : Int, (x = (k : Int) ∧ ∀ j, (hj : j < cs.length) → j < k → checkF c m.2.2 (j : Int) cs[j] = true) →
          (∃ y, chunk_Join.b1 c m cs x = some (.inl y) ∧ (y = ((k + 1 : Nat) : Int) ∧ ∀ j, (hj : j < cs.length) → j < k + 1 → checkF c m.2.2 (j : Int) cs[j] = true)) ∨ ∃ b, chunk_Join.b1 c m cs x = some (.inr b) ∧ b = (if AllC c m.2.2 cs then (Sum.inl () : Unit ⊕ (Bs × Int)) else .inr ([], 28)) := by
        rintro k hk x ⟨rfl, hx⟩
        simp only [chunk_Join.b1, bif_ltZ]
        rw [if_pos (by omega), idx_nat hk]
        simp only [bind_in]
        rw [check_eq]
        simp only [bind_in, bif_not]
        cases hck : checkF c m.2.2 (k : Int) cs[k] with
        | true =>
          rw [cond_true, z64_succ (by omega)]
          simp only [bind_in]
          refine .inl ⟨_, rfl, rfl, fun j hj hjk => ?_⟩
          by_cases hjk' : j = k
          · subst hjk'; exact hck
          · exact hx j hj (by omega)
        | false =>
          refine .inr ⟨_, rfl, ?_⟩
          rw [if_neg (fun h => by have := h k hk; rw [hck] at this; cases this)]
      obtain ⟨b, hb, hq⟩ := loopF_inv (body := fun x => chunk_Join.b1 c m cs x) (fun k x => x = (k : Int) ∧ ∀ j, (hj : j < cs.length) → j < k → checkF c m.2.2 (j : Int) cs[j] = true) (Q := fun b => b = (if AllC c m.2.2 cs then (Sum.inl () : Unit ⊕ (Bs × Int)) else .inr ([], 28))) cs.length (x := 0) ⟨rfl, fun j _ h => absurd h (by omega)⟩ key (fun x hx => ⟨.inl (), by
        rw [hx.1]
        simp only [chunk_Join.b1, bif_ltZ]
        rw [if_neg (by omega)], by rw [if_pos (show AllC c m.2.2 cs from fun k hk => hx.2 k hk hk)]⟩)
      rw [hb, hq]
      simp only [bind_in]
      by_cases ha : AllC c m.2.2 cs
      · rw [if_pos ha, if_pos ha]
        simp only [chunk_Join.j1]
        rw [sjoin_eq hs hsl]; rfl
      · rw [if_neg ha, if_neg ha]
    · rw [if_neg (by omega), if_neg (fun h => h1 h.2)]
theorem rjoin_eq (m : GManifest) : ladingref36_Join c m cs = some (joinM c m cs) := by
  unfold ladingref36_Join joinM
  rw [rmright_eq hc hl]
  simp only [bind_in, bif_not]
  cases hr : rightM c m with
  | false => rw [cond_false, if_neg (by simp)]; rfl
  | true =>
    rw [cond_true, eqZ_eq]
    simp only [bind_in, ladingref36_Join.j1, bif_not, bif_dec]
    by_cases h1 : cs.length = m.2.2.length
    · rw [if_pos (by omega), if_pos ⟨by trivial, h1⟩]
      have key : ∀ k, k < cs.length → ∀ x : Bs × Int, (x = ((cs.take k).flatten, (k : Int)) ∧ ∀ j, (hj : j < cs.length) → j < k → checkF c m.2.2 (j : Int) cs[j] = true) →
          (∃ y, ladingref36_Join.b1 c m cs x.1 x.2 = some (.inl y) ∧ (y = ((cs.take (k + 1)).flatten, ((k + 1 : Nat) : Int)) ∧ ∀ j, (hj : j < cs.length) → j < k + 1 → checkF c m.2.2 (j : Int) cs[j] = true)) ∨ ∃ b, ladingref36_Join.b1 c m cs x.1 x.2 = some (.inr b) ∧ b = (if AllC c m.2.2 cs then (cs.flatten, (0 : Int)) else ([], 28)) := by
        rintro k hk x ⟨rfl, hx⟩
        simp only [ladingref36_Join.b1, bif_ltZ]
        rw [if_pos (by omega), idx_nat hk]
        simp only [bind_in]
        rw [rcheck_eq]
        simp only [bind_in, bif_not]
        cases hck : checkF c m.2.2 (k : Int) cs[k] with
        | true =>
          have hk1 := szF_take cs k
          have hk2 := szF_mem (List.getElem_mem hk)
          rw [cond_true]
          rw [show cat? (cs.take k).flatten cs[k] = some ((cs.take k).flatten ++ cs[k]) from if_pos (by rw [flat_len]; omega)]
          simp only [bind_in]
          rw [z64_succ (by omega)]
          simp only [bind_in]
          refine .inl ⟨_, rfl, by rw [take_snoc cs k hk, List.flatten_append]; simp, fun j hj hjk => ?_⟩
          by_cases hjk' : j = k
          · subst hjk'; exact hck
          · exact hx j hj (by omega)
        | false =>
          refine .inr ⟨_, rfl, ?_⟩
          rw [if_neg (fun h => by have := h k hk; rw [hck] at this; cases this)]
      obtain ⟨b, hb, hq⟩ := loopF_inv (body := fun x => ladingref36_Join.b1 c m cs x.1 x.2) (fun k x => x = ((cs.take k).flatten, (k : Int)) ∧ ∀ j, (hj : j < cs.length) → j < k → checkF c m.2.2 (j : Int) cs[j] = true) (Q := fun b => b = (if AllC c m.2.2 cs then (cs.flatten, (0 : Int)) else ([], 28))) cs.length (x := (([] : Bs), 0)) ⟨rfl, fun j _ h => absurd h (by omega)⟩ key (fun x hx => ⟨(cs.flatten, 0), by
        rw [hx.1]
        simp only [ladingref36_Join.b1, bif_ltZ]
        rw [if_neg (by omega), List.take_length], by rw [if_pos (show AllC c m.2.2 cs from fun k hk => hx.2 k hk hk)]⟩)
      rw [hb, hq]
    · rw [if_neg (by omega), if_neg (fun h => h1 h.2)]
end
end Go.Proofs.Ytnjmhnogpgnbmaa
