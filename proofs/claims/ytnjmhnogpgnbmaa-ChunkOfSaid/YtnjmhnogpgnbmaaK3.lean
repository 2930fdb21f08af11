/-
  Layer 36 (chunk): what is missing, and manifests that are made, in plain words.
-/
import Derived.Test.YtnjmhnogpgnbmaaK2
namespace Go.Proofs.Ytnjmhnogpgnbmaa
open Go.Lad
set_option linter.unusedVariables false
set_option linter.unusedSimpArgs false
set_option linter.unusedSectionVars false
/-! ### what is missing -/
theorem iindex_eq {l : List Int} {s : Int} (hl : l.length ≤ 1000000000) : slices_Index_int_int l s = some (posI l s) := by
  unfold slices_Index_int_int
  rw [← scan_posI]
  refine loop_scan l _ (-1) (fun k hk => ?_) ?_ (by omega)
  · simp only [slices_Index_int_int.b1, bif_ltZ, bif_eqZ]
    rw [if_pos (by omega), idx_nat hk]
    simp only [bind_in]
    by_cases h : s = l[k]
    · rw [if_pos h, if_pos h]
    · rw [if_neg h, if_neg h, z64_succ (by omega)]
      simp only [bind_in]
  · simp only [slices_Index_int_int.b1, bif_ltZ]
    rw [if_neg (by omega)]
theorem contains_eq {l : List Int} {s : Int} (hl : l.length ≤ 1000000000) : slices_Contains_int_int l s = some (decide (s ∈ l)) := by
  unfold slices_Contains_int_int
  rw [iindex_eq hl]
  simp only [bind_in, leZ_eq]
  have := posI_neg (l := l) (s := s)
  by_cases h : s ∈ l
  · rw [decide_eq_true h, decide_eq_true]
    rcases Int.lt_or_le (posI l s) 0 with h1 | h1
    · exact absurd h (this.1 h1)
    · exact h1
  · have h1 := this.2 h
    rw [decide_eq_false h, decide_eq_false (by omega)]
def missStep (hv : List Int) (k : Nat) (out : List Int) (x : Int) : List Int := if x ∈ hv then out else out ++ [(k : Int)]
def missF (ns hv : List Int) : List Int := foldI (missStep hv) 0 [] ns
section
variable {ns hv : List Int} (hn : ns.length ≤ 1000000000) (hh : hv.length ≤ 1000000000)
include hn hh
theorem miss_eq {m : GManifest} (hm : m.2.2 = ns) : chunk_Missing m hv = some (missF ns hv) := by
  unfold chunk_Missing missF
  subst hm
  refine loop_fold (body := fun x => chunk_Missing.b1 m hv x.1 x.2) (fun k out => ((k : Int), out)) m.2.2 (missStep hv) (fun out => out) (fun k out => out.length ≤ k) (fun k hk out ho => ?_) (fun k hk out ho => ?_) (fun out ho => ?_) (by omega) (by simp)
  · unfold missStep
    split
    · omega
    · rw [List.length_append, List.length_singleton]; omega
  · simp only [chunk_Missing.b1, bif_ltZ]
    rw [if_pos (by omega), idx_nat hk]
    simp only [bind_in]
    rw [contains_eq hh]
    simp only [bind_in, bif_not, bif_dec, missStep]
    by_cases h : m.2.2[k] ∈ hv
    · rw [if_pos h, if_pos h, z64_succ (by omega)]
      simp only [bind_in]
    · rw [if_neg h, if_neg h, app_in (by rw [List.length_singleton]; omega)]
      simp only [bind_in]
      rw [z64_succ (by omega)]
      simp only [bind_in]
  · simp only [chunk_Missing.b1, bif_ltZ]
    rw [if_neg (by omega)]
theorem miss2_eq {m : GManifest} (hm : m.2.2 = ns) : chunk_Missing_v2 m hv = some (missF ns hv) := (show chunk_Missing_v2 m hv = chunk_Missing m hv from rfl).trans (miss_eq hn hh hm)
theorem rmiss_eq {m : GManifest} (hm : m.2.2 = ns) : ladingref36_Missing m hv = some (missF ns hv) := by
  unfold ladingref36_Missing missF
  subst hm
  refine loop_fold (body := fun x => ladingref36_Missing.b2 m hv x.1 x.2) (fun k out => ((k : Int), out)) m.2.2 (missStep hv) (fun out => out) (fun k out => out.length ≤ k) (fun k hk out ho => ?_) (fun k hk out ho => ?_) (fun out ho => ?_) (by omega) (by simp)
  · unfold missStep
    split
    · omega
    · rw [List.length_append, List.length_singleton]; omega
  · simp only [ladingref36_Missing.b2, bif_ltZ]
    rw [if_pos (by omega)]
    have e : loopF (fun x => ladingref36_Missing.b1 m hv (k : Int) x.1 x.2) (false, 0) = some (decide (m.2.2[k] ∈ hv)) := by
      refine loopF_at (fun j => (decide (m.2.2[k] ∈ hv.take j), (j : Int))) hv.length (by simp) (fun j hj => ?_) ?_
      · simp only [ladingref36_Missing.b1, bif_ltZ, bif_dec]
        rw [if_pos (by omega), take_snoc hv j hj]
        by_cases h1 : m.2.2[k] ∈ hv.take j
        · rw [if_pos h1, z64_succ (by omega), decide_eq_true (List.mem_append_left _ h1)]
          simp only [bind_in]
        · rw [if_neg h1, idx_nat hj]
          simp only [bind_in]
          rw [idx_nat hk]
          simp only [bind_in]
          rw [z64_succ (by omega)]
          simp only [bind_in, eqZ_eq]
          by_cases h2 : hv[j] = m.2.2[k]
          · rw [decide_eq_true h2, decide_eq_true (by rw [h2]; simp)]
          · rw [decide_eq_false h2, decide_eq_false (fun h => by
              rw [List.mem_append, List.mem_singleton] at h
              rcases h with h | h
              · exact h1 h
              · exact h2 h.symm)]
      · simp only [ladingref36_Missing.b1, bif_ltZ]
        rw [if_neg (by omega), List.take_length]
    rw [e]
    simp only [bind_in, ladingref36_Missing.j1, bif_not, bif_dec, missStep]
    by_cases h : m.2.2[k] ∈ hv
    · rw [if_pos h, if_pos h, z64_succ (by omega)]
      simp only [bind_in]
    · rw [if_neg h, if_neg h, app_in (by rw [List.length_singleton]; omega)]
      simp only [bind_in]
      rw [z64_succ (by omega)]
      simp only [bind_in]
  · simp only [ladingref36_Missing.b2, bif_ltZ]
    rw [if_neg (by omega)]
end
/-! ### manifests that are made -/
theorem addF_ok {l : List Bs} {s : Bs} (h : (addF l s).2.2 = 0) : RightP l ∧ RightP (addF l s).1 ∧ ((addF l s).1 = l ∨ (addF l s).1 = l ++ [s]) ∧ (addF l s).2.1 = posI (addF l s).1 s ∧ s ∈ (addF l s).1 := by
  unfold addF at h ⊢
  split
  · rename_i hr
    rw [if_pos hr] at h
    split
    · rename_i hm
      exact ⟨hr, hr, .inl rfl, rfl, hm⟩
    · rename_i hm
      rw [if_neg hm] at h
      split
      · rename_i h6
        rw [if_pos h6] at h; cases h
      · rename_i h6
        have hn : (l ++ [s]).Nodup := nodup_snoc.2 ⟨hr.1, hm⟩
        refine ⟨hr, ⟨hn, by rw [szF_app]; simp only [szF]; omega⟩, .inr rfl, ?_, by simp⟩
        have := posI_at (l := l ++ [s]) (k := l.length) hn (by simp)
        dsimp only
        rw [show (l ++ [s])[l.length]'(by simp) = s by simp] at this
        exact this.symm
  · rename_i hr
    rw [if_neg hr] at h; cases h
def addsF : List Bs → List Bs → List Int → (List Bs × List Int) ⊕ Int
  | [], l, c => .inl (l, c)
  | s :: r, l, c => if (addF l s).2.2 = 0 then addsF r (addF l s).1 (c ++ [(addF l s).2.1]) else .inr (addF l s).2.2
def ofEnd (pr sz : Int) : (List Bs × List Int) ⊕ Int → List Bs × GManifest × Int
  | .inl (l, ks) => (l, (pr, sz, ks), 0)
  | .inr e => ([], (0, 0, []), e)
def ofF (c : List Bs) (text : Bs) (size : Int) : List Bs × GManifest × Int :=
  if (1 ≤ size ∧ size ≤ 4096) ∧ RightP c then
    (if (addF c text).2.2 = 0 then ofEnd (addF c text).2.1 (text.length : Int) (addsF (cutN size.toNat text.length text) (addF c text).1 []) else ([], (0, 0, []), (addF c text).2.2))
  else ([], (0, 0, []), 1)
theorem addF_len {l : List Bs} {s : Bs} (h : (addF l s).2.2 = 0) : (addF l s).1.length ≤ l.length + 1 ∧ szF (addF l s).1 ≤ 1048576 := by
  obtain ⟨_, h2, h3, _⟩ := addF_ok h
  refine ⟨?_, h2.2⟩
  rcases h3 with h3 | h3 <;> rw [h3]
  · omega
  · simp
noncomputable def ofX (x : (Int × Int × Int × Int × (List Bs) × List Int) ⊕ (Int × Int × Int × (List Bs) × List Int)) : Option (Int × Int × Int × (List Bs) × List Int) :=
  match x with
  | .inl x => chunk_Of.j1 x.1 x.2.1 x.2.2.1 x.2.2.2.1 x.2.2.2.2.1 x.2.2.2.2.2
  | .inr r => some r
noncomputable def ofR : Nat → Bs → (Int × Int × Int × Int × (List Bs) × List Int) → Option ((Int × Int × Int × Int × (List Bs) × List Int) ⊕ (Int × Int × Int × (List Bs) × List Int)) := fun _ r x => chunk_Of.r1 r x.1 x.2.1 x.2.2.1 x.2.2.2.1 x.2.2.2.2.1 x.2.2.2.2.2
theorem ofR_err {k : Nat} {x : Bs} {n e pr sz : Int} {l : List Bs} {ks : List Int} (he : e ≠ 0) : ofR k x (n, e, pr, sz, l, ks) = some (.inr (e, pr, sz, l, ks)) := by
  unfold ofR chunk_Of.r1
  simp only [bif_not, bif_eqZ]
  rw [if_neg he]
theorem ofR_ok {k : Nat} {x : Bs} {n pr sz : Int} {l : List Bs} {ks : List Int} (h : szF l ≤ 1000000000) (hl : l.length ≤ 1000000000) (hx : x.length ≤ 1000000000) (hk : ks.length ≤ 1000000000) : ofR k x (n, 0, pr, sz, l, ks) = some (.inl ((addF l x).2.1, (addF l x).2.2, pr, sz, (addF l x).1, ks ++ [(addF l x).2.1])) := by
  unfold ofR chunk_Of.r1
  simp only [bif_not, bif_eqZ]
  rw [if_pos (by trivial), add_eq h hl hx]
  simp only [bind_in]
  rw [app_in (by rw [List.length_singleton]; omega)]
  simp only [bind_in]
theorem foldR_of (pr sz : Int) : ∀ (xs : List Bs) (k : Nat) (n e : Int) (l : List Bs) (ks : List Int), (∀ x ∈ xs, x.length ≤ 1000000000) → (e = 0 → l.length + xs.length ≤ 1000000 ∧ szF l ≤ 1000000000 ∧ ks.length + xs.length ≤ 1000000) →
    ∃ e' l' ks', (foldR ofR k xs (n, e, pr, sz, l, ks)).bind ofX = some (e', pr, sz, l', ks') ∧ (e ≠ 0 → e' = e) ∧
      (e = 0 → match addsF xs l ks with | .inl (a, b) => e' = 0 ∧ l' = a ∧ ks' = b | .inr e2 => e' = e2 ∧ e2 ≠ 0)
  | [], k, n, e, l, ks, hx, hb => ⟨e, l, ks, rfl, fun _ => rfl, fun h => ⟨h, rfl, rfl⟩⟩
  | x :: r, k, n, e, l, ks, hx, hb => by
    unfold foldR
    by_cases he : e = 0
    · subst he
      obtain ⟨h1, h2, h3⟩ := hb rfl
      rw [List.length_cons] at h1 h3
      rw [ofR_ok h2 (by omega) (hx x List.mem_cons_self) (by omega)]
      simp only [bind_in]
      obtain ⟨e', l', ks', k1, k2, k3⟩ := foldR_of pr sz r (k + 1) (addF l x).2.1 (addF l x).2.2 (addF l x).1 (ks ++ [(addF l x).2.1]) (fun y hy => hx y (List.mem_cons_of_mem _ hy)) (fun h0 => by
        have := addF_len h0
        rw [List.length_append, List.length_singleton]
        omega)
      refine ⟨e', l', ks', k1, fun h => absurd rfl h, fun _ => ?_⟩
      unfold addsF
      by_cases h0 : (addF l x).2.2 = 0
      · rw [if_pos h0]; exact k3 h0
      · rw [if_neg h0]; exact ⟨k2 h0, h0⟩
    · rw [ofR_err he]
      exact ⟨e, l, ks, rfl, fun _ => rfl, fun h => absurd h he⟩
theorem run_adds (pr sz : Int) : ∀ (xs : List Bs) (k : Nat) (l : List Bs) (ks : List Int), runI (fun _ (st : List Bs × List Int) x => if (addF st.1 x).2.2 = 0 then .inl ((addF st.1 x).1, st.2 ++ [(addF st.1 x).2.1]) else .inr (([], (0, 0, []), (addF st.1 x).2.2) : List Bs × GManifest × Int)) (fun st => (st.1, (pr, sz, st.2), 0)) k (l, ks) xs = ofEnd pr sz (addsF xs l ks)
  | [], _, _, _ => rfl
  | x :: r, k, l, ks => by
    unfold runI addsF
    by_cases h : (addF l x).2.2 = 0
    · rw [if_pos h, if_pos h]
      exact run_adds pr sz r (k + 1) _ _
    · rw [if_neg h, if_neg h]; rfl
section
variable {c : List Bs} (hc : szF c ≤ 1000000000) (hl : c.length ≤ 100000) {text : Bs} (ht : text.length ≤ 600) {size : Int}
include hc hl ht
theorem of_eq : chunk_Of c text size = some (ofF c text size) := by
  unfold chunk_Of chunk_sized ofF
  simp only [leZ_eq, bif_dec]
  by_cases h1 : 1 ≤ size ∧ size ≤ 4096
  · rw [if_pos h1.1]
    simp only [bind_in, bif_not, bif_dec]
    rw [if_pos h1.2, right_eq hc (by omega)]
    simp only [bind_in, chunk_Of.j3, bif_not, bif_dec]
    by_cases hr : RightP c
    · rw [if_pos hr, if_pos ⟨h1, hr⟩, z64_i (by omega)]
      simp only [bind_in]
      rw [z64_i (by omega)]
      simp only [bind_in]
      have hq0 : 0 ≤ ((text.length : Int) + size - 1) := by omega
      have hq : quoZ .i64 ((text.length : Int) + size - 1) size = some (((text.length : Int) + size - 1) / size) ∧ ((text.length : Int) + size - 1) / size ≤ 1000 ∧ 0 ≤ ((text.length : Int) + size - 1) / size := by
        have h3 : ((text.length : Int) + size - 1) / size < 1001 := Int.ediv_lt_of_lt_mul (by omega) (by omega)
        have h4 : 0 ≤ ((text.length : Int) + size - 1) / size := Int.ediv_nonneg hq0 (by omega)
        refine ⟨?_, by omega, h4⟩
        unfold quoZ
        rw [eqZ_eq, decide_eq_false (by omega : ¬ size = 0), Int.tdiv_eq_ediv_of_nonneg hq0]
        have : inZ .i64 (((text.length : Int) + size - 1) / size) = true := by
          generalize ((text.length : Int) + size - 1) / size = q at h3 h4
          unfold inZ
          rw [leZ_eq, leZ_eq, Bool.and_eq_true]
          exact ⟨decide_eq_true (Int.le_trans (show IntKind.i64.min ≤ 0 by decide) h4), decide_eq_true (Int.le_trans (show q ≤ 1001 by omega) (show (1001 : Int) ≤ IntKind.i64.max by decide))⟩
        rw [this]; rfl
      rw [hq.1]
      simp only [bind_in, bif_ltZ]
      rw [if_neg (by omega), add_eq hc (by omega) (by omega)]
      simp only [bind_in, chunk_parts]
      have e : partsF text size = some (cutN size.toNat text.length text) := by unfold partsF; rw [bif_leZ, if_pos h1.1]
      rw [e]
      simp only [bind_in]
      have hcl := cutN_len (n := size.toNat) (f := text.length) (s := text) (by omega) (Nat.le_refl _)
      obtain ⟨e', l', ks', k1, k2, k3⟩ := foldR_of (addF c text).2.1 (text.length : Int) (cutN size.toNat text.length text) 0 (addF c text).2.1 (addF c text).2.2 (addF c text).1 [] (fun x hx => by
        have := (cutN_mem (by omega) (Nat.le_refl _) hx).2.2
        omega) (fun h0 => by
        have := addF_len h0
        rw [List.length_nil]
        omega)
      refine Eq.trans (congrArg (fun o => Option.bind o (fun x : Int × Int × Int × (List Bs) × List Int => chunk_Of.j2 x.1 x.2.1 x.2.2.1 x.2.2.2.1 x.2.2.2.2)) k1) ?_
      simp only [bind_in, chunk_Of.j2, bif_not, bif_eqZ]
      by_cases h0 : (addF c text).2.2 = 0
      · rw [if_pos h0]
        have k3 := k3 h0
        revert k3
        cases addsF (cutN size.toNat text.length text) (addF c text).1 [] with
        | inl p =>
          obtain ⟨a, b⟩ := p
          rintro ⟨rfl, rfl, rfl⟩
          rw [if_pos rfl]; rfl
        | inr e2 =>
          rintro ⟨rfl, h⟩
          rw [if_neg h]; rfl
      · rw [if_neg h0, k2 h0, if_neg h0]
    · rw [if_neg hr, if_neg (fun h => hr h.2)]
  · rw [if_neg (show ¬ ((1 ≤ size ∧ size ≤ 4096) ∧ RightP c) from fun h => h1 h.1)]
    by_cases h2 : 1 ≤ size
    · rw [if_pos h2]
      simp only [bind_in, bif_not, bif_dec]
      rw [if_neg (fun h => h1 ⟨h2, h⟩)]
      simp only [bind_in, chunk_Of.j3, cond_true]
    · rw [if_neg h2]
      simp only [bind_in, bif_not, cond_false, chunk_Of.j3, cond_true]
theorem rof_eq : ladingref36_Of c text size = some (ofF c text size) := by
  unfold ladingref36_Of ofF
  rw [rright_eq hc (by omega)]
  simp only [bind_in, ltZ_eq, bif_dec]
  by_cases h1 : 1 ≤ size ∧ size ≤ 4096
  · rw [if_neg (by omega), if_neg (by omega)]
    simp only [bind_in, ladingref36_Of.j1, bif_not, bif_dec]
    by_cases hr : RightP c
    · rw [if_pos hr, if_pos ⟨h1, hr⟩]
      rw [rcut_eq (by omega)]
      have hcl := cutN_len (n := size.toNat) (f := text.length) (s := text) (by omega) (Nat.le_refl _)
      have e : chunksF text size = cutN size.toNat text.length text := if_pos h1
      rw [e]
      simp only [bind_in, ltZ_eq, bif_dec]
      rw [if_neg (by omega), radd_eq hc (by omega) (by omega)]
      simp only [bind_in, bif_not, bif_eqZ]
      by_cases h0 : (addF c text).2.2 = 0
      · rw [if_pos h0, if_pos h0]
        have ha := addF_len h0
        rw [← run_adds (addF c text).2.1 (text.length : Int) (cutN size.toNat text.length text) 0]
        refine loop_run (body := fun x => ladingref36_Of.b1 (cutN size.toNat text.length text) x.1 x.2.1 x.2.2.1 x.2.2.2.1 x.2.2.2.2) (fun k (st : List Bs × List Int) => (st.1, (k : Int), (addF c text).2.1, (text.length : Int), st.2)) (cutN size.toNat text.length text) _ _ (fun k st => st.1.length ≤ 100001 + k ∧ szF st.1 ≤ 1000000000 ∧ st.2.length ≤ k) (fun k hk st st' hst he => ?_) (fun k hk st hst => ?_) (fun st hst => ?_) (by omega) (s0 := ((addF c text).1, [])) ⟨by dsimp only; omega, by dsimp only; omega, by simp⟩
        · split at he
          · rename_i h2
            injection he with he
            rw [← he]
            have := addF_len h2
            obtain ⟨i1, i2, i3⟩ := hst
            refine ⟨by dsimp only; omega, by dsimp only; omega, ?_⟩
            dsimp only
            rw [List.length_append, List.length_singleton]; omega
          · cases he
        · obtain ⟨i1, i2, i3⟩ := hst
          have hm := (cutN_mem (n := size.toNat) (by omega) (Nat.le_refl _) (List.getElem_mem hk)).2.2
          simp only [ladingref36_Of.b1, bif_ltZ]
          rw [if_pos (by omega), idx_nat hk]
          simp only [bind_in]
          rw [radd2_eq i2 (by omega) (by omega)]
          simp only [bind_in, bif_not, bif_eqZ]
          by_cases h2 : (addF st.1 (cutN size.toNat text.length text)[k]).2.2 = 0
          · rw [if_pos h2, if_pos h2, app_in (by rw [List.length_singleton]; omega)]
            simp only [bind_in]
            rw [z64_succ (by omega)]
            simp only [bind_in]
          · rw [if_neg h2, if_neg h2]
        · simp only [ladingref36_Of.b1, bif_ltZ]
          rw [if_neg (by omega)]
      · rw [if_neg h0, if_neg h0]
    · rw [if_neg hr, if_neg (fun h => hr h.2)]
  · rw [if_neg (show ¬ ((1 ≤ size ∧ size ≤ 4096) ∧ RightP c) from fun h => h1 h.1)]
    by_cases h2 : size < 1
    · rw [if_pos h2]
      simp only [bind_in, ladingref36_Of.j1, cond_true]
    · rw [if_neg h2, if_pos (by omega)]
      simp only [bind_in, ladingref36_Of.j1, cond_true]
end
/-! ### comparing -/
theorem same_self {l : List Bs} (hl : l.length ≤ 1000000000) : ladingref04_Same l l = some true := by
  unfold ladingref04_Same
  simp only [eqZ_eq, decide_true, Bool.not_true, cond_false]
  refine loopF_at (fun k => (k : Int)) l.length rfl (fun k hk => ?_) ?_
  · simp only [ladingref04_Same.b1, bif_ltZ, bif_not, bif_dec]
    rw [if_pos (by omega), idx_nat hk]
    simp only [bind_in]
    rw [if_pos (by trivial), z64_succ (by omega)]
    simp only [bind_in]
  · simp only [ladingref04_Same.b1, bif_ltZ]
    rw [if_neg (by omega)]
theorem ints_self {l : List Int} (hl : l.length ≤ 1000000000) : ladingref04_Ints l l = some true := by
  unfold ladingref04_Ints
  simp only [eqZ_eq, decide_true, Bool.not_true, cond_false]
  refine loopF_at (fun k => (k : Int)) l.length rfl (fun k hk => ?_) ?_
  · simp only [ladingref04_Ints.b1, bif_ltZ, bif_not, bif_eqZ]
    rw [if_pos (by omega), idx_nat hk]
    simp only [bind_in]
    rw [if_pos (by trivial), z64_succ (by omega)]
    simp only [bind_in]
  · simp only [ladingref04_Ints.b1, bif_ltZ]
    rw [if_neg (by omega)]
theorem msame_self {m : GManifest} (hl : m.2.2.length ≤ 1000000000) : ladingref36_Same m m = some true := by
  unfold ladingref36_Same
  simp only [eqZ_eq, decide_true, Bool.not_true, cond_false, bind_in, ladingref36_Same.j1]
  refine loopF_at (fun k => (k : Int)) m.2.2.length rfl (fun k hk => ?_) ?_
  · simp only [ladingref36_Same.b1, bif_ltZ, bif_not, bif_eqZ]
    rw [if_pos (by omega), idx_nat hk]
    simp only [bind_in]
    rw [if_pos (by trivial), z64_succ (by omega)]
    simp only [bind_in]
  · simp only [ladingref36_Same.b1, bif_ltZ]
    rw [if_neg (by omega)]
end Go.Proofs.Ytnjmhnogpgnbmaa
