/-
  Layer 4 (content): the law ContentJoins in plain words.
-/
import Derived.Test.YtaoibhpefkjcmaaCPlain3
namespace Go.Proofs.Ytaoibhpefkjcmaa
set_option linter.unusedSimpArgs false
open Go.Lad
set_option linter.unusedVariables false

theorem dd_pre (a b : List Bs) : ∃ r, ddF a b = a ++ r ∧ ∀ s ∈ r, s ∈ b := by
  induction b using rev_ind with
  | h0 => exact ⟨[], by simp [ddF], by simp⟩
  | h1 b x ih =>
    obtain ⟨r, h1, h2⟩ := ih
    rw [ddF_one]
    split
    · exact ⟨r, h1, fun s hs => List.mem_append.2 (.inl (h2 s hs))⟩
    · refine ⟨r ++ [x], by rw [h1, List.append_assoc], fun s hs => ?_⟩
      rcases List.mem_append.1 hs with h | h
      · exact List.mem_append.2 (.inl (h2 s h))
      · exact List.mem_append.2 (.inr h)
theorem dd_nodup {a : List Bs} (b : List Bs) (h : a.Nodup) : (ddF a b).Nodup := by
  induction b using rev_ind with
  | h0 => exact h
  | h1 b x ih =>
    rw [ddF_one]
    split
    · exact ih
    · rename_i hx
      refine List.nodup_append.2 ⟨ih, by simp, fun y hy z hz e => ?_⟩
      rw [List.mem_singleton] at hz
      subst hz e
      exact hx hy
theorem dd_same {a : List Bs} (b : List Bs) (h : ∀ s ∈ b, s ∈ a) : ddF a b = a := by
  induction b using rev_ind with
  | h0 => rfl
  | h1 b x ih =>
    rw [ddF_one, ih fun s hs => h s (List.mem_append.2 (.inl hs)), if_pos (h x (by simp))]
theorem printM_app {l : List Bs} (r : List Bs) {s : Bs} (h : s ∈ l) : printM (l ++ r) s = printM l s := by
  unfold printM
  rw [pos_append]
  cases hp : pos l s with
  | none => exact absurd h (pos_none.1 hp)
  | some i => rfl
theorem pr_map (a b : List Bs) : prF a b = b.map (printM (ddF a b)) := by
  induction b using rev_ind with
  | h0 => rfl
  | h1 b x ih =>
    rw [prF_one, List.map_append, ih]
    refine congrArg (· ++ _) (List.map_congr_left fun s hs => ?_)
    have hm : s ∈ ddF a b := (ddF_mem a b s).2 (.inr hs)
    rw [ddF_one]
    split
    · rfl
    · rw [printM_app _ hm]
theorem texts_print {l b : List Bs} (h : ∀ s ∈ b, s ∈ l) : textsM l (b.map (printM l)) = (b, 0) := by
  unfold textsM
  rw [if_pos]
  · rw [List.map_map]
    have : b.map ((fun n => (textM l n).1) ∘ printM l) = b.map id := List.map_congr_left fun s hs => by
      show (textM l (printM l s)).1 = s
      rw [text_print (h s hs)]
    rw [this, List.map_id]
  · intro n hn
    obtain ⟨s, hs, rfl⟩ := List.mem_map.1 hn
    rw [text_print (h s hs)]
theorem right_of {l : List Bs} (h : l.Nodup) (hs : sizeN l ≤ 1048576) : rightM l = true := by
  simp [rightM, h, hs]
theorem joins_true (a b : List Bs) : ladinglaw04_ContentJoins a b = some true := by
  unfold ladinglaw04_ContentJoins
  obtain ⟨fa, hfa, ha⟩ := few_eq a
  obtain ⟨fb, hfb, hb⟩ := few_eq b
  rw [small_eq, hfa, hfb]
  simp only [bind_in]
  by_cases h1 : fa = true
  · by_cases h2 : fb = true
    · have ha := ha h1
      have hb := hb h2
      have hA := ha.fits
      have hB := hb.fits
      rw [if_pos h1, if_pos h2, right_eq hA]
      simp only [bind_in]
      by_cases r1 : rightM a = true
      · rw [if_pos r1, right_eq hB]
        simp only [bind_in]
        by_cases r2 : rightM b = true
        · have hna := right_nodup r1
          have sa := ha.size
          have sb := hb.size
          have la := ha.1
          have lb := hb.1
          have hD := few_dd ha hb
          have hle := ddF_le a b
          have hpl := prF_len a b
          have hpm := pr_map a b
          have hDn := dd_nodup b hna
          obtain ⟨r, hr, hrb⟩ := dd_pre a b
          have hmb : ∀ s ∈ b, s ∈ ddF a b := fun s hs => (ddF_mem a b s).2 (.inr hs)
          have hma : ∀ s ∈ a, s ∈ ddF a b := fun s hs => (ddF_mem a b s).2 (.inl hs)
          have e1 : joinM a b = (ddF a b, prF a b, 0) := by
            unfold joinM
            rw [if_pos r1, if_pos r2, if_neg (by omega)]
          have hDr : rightM (ddF a b) = true := right_of hDn (by omega)
          have e2 : joinM (ddF a b) b = (ddF a b, prF (ddF a b) b, 0) := by
            unfold joinM
            rw [if_pos hDr, if_pos r2, dd_same b hmb, if_neg (by omega)]
          have e3 : joinM (ddF a b) a = (ddF a b, prF (ddF a b) a, 0) := by
            unfold joinM
            rw [if_pos hDr, if_pos r1, dd_same a hma, if_neg (by omega)]
          have q2 := prF_len (ddF a b) a
          have q3 := pr_map (ddF a b) a
          rw [dd_same a hma] at q3
          have j2 := join_eq hD hB (by rw [dd_same b hmb]; exact hD)
          have j3 := join_eq hD hA (by rw [dd_same a hma]; exact hD)
          rw [if_pos r2, join_eq hA hB hD, e1]
          simp only [bind_in, if_true]
          rw [hpl]
          simp only [if_true]
          rw [e2] at j2
          rw [e3] at j3
          rw [j2, j3]
          have hpm' := texts_print hmb
          rw [← hpm] at hpm'
          generalize prF (ddF a b) b = p2 at *
          generalize prF (ddF a b) a = p3 at *
          generalize prF a b = p1 at *
          generalize ddF a b = D at *
          have hlen : D.length = a.length + r.length := by rw [hr, List.length_append]
          have hat : ∀ k (hk : k < a.length), printM D a[k] = (k : Int) := fun k hk => by
            have : D[k]'(by omega) = a[k] := by simp only [hr]; rw [List.getElem_append_left hk]
            rw [← this]
            exact printM_at hDn (by omega)
          have l1 : loopM (ladinglaw04_ContentJoins.b1 b (D, p1, 0)) (a.length : Int) = some (.inr ()) := by
            refine loop_at (fun k => ((a.length + k : Nat) : Int)) r.length rfl (fun k hk => ?_) ?_
            · have hk' : a.length + k < D.length := by omega
              have hm : D[a.length + k] ∈ b := by
                have : D[a.length + k] = r[k] := by
                  simp only [hr]
                  rw [List.getElem_append_right (by omega)]
                  simp
                rw [this]
                exact hrb _ (List.getElem_mem hk)
              have := printM_mem hm
              simp only [ladinglaw04_ContentJoins.b1]
              rw [if_pos (by omega), idx_nat hk']
              simp only [bind_in]
              rw [print_eq hB.1]
              simp only [bind_in]
              rw [if_neg (by omega), i64_succ (by omega)]
              rfl
            · simp only [ladinglaw04_ContentJoins.b1]
              rw [if_neg (by omega)]
          have l2 : loopM (ladinglaw04_ContentJoins.b2 (D, p3, 0)) 0 = some (.inr ()) := by
            refine loop_to (fun k => (k : Int)) p3.length (fun k hk => ?_) ?_
            · simp only [ladinglaw04_ContentJoins.b2]
              rw [if_pos (by omega), idx_nat hk]
              simp only [bind_in]
              have : p3[k] = (k : Int) := by
                simp only [q3]
                rw [List.getElem_map]
                exact hat k (by omega)
              rw [if_pos this, i64_succ (by omega)]
              rfl
            · simp only [ladinglaw04_ContentJoins.b2]
              rw [if_neg (by omega)]
          rw [if_neg (by omega), right_eq hD]
          simp only [bind_in]
          rw [if_pos hDr, cut_in (by omega) (by omega) (by omega)]
          simp only [bind_in]
          have hc : (D.take (a.length : Int).toNat).drop (0 : Int).toNat = a := by
            rw [Int.toNat_natCast, hr]
            simp
          rw [hc, same_refl hA.1]
          simp only [bind_in, if_true]
          rw [texts_eq (by omega), hpm']
          simp only [bind_in]
          rw [l1]
          simp only [bind_in]
          rw [l2]
          simp only [bind_in, if_true]
          rw [same_refl hB.1]
          simp only [bind_in, if_true]
          rw [same_refl hD.1]
          simp only [bind_in, if_true]
          rw [q2]
          simp
        · rw [if_neg r2]
      · rw [if_neg r1]
    · rw [if_pos h1, if_neg h2]
  · rw [if_neg h1]
end Go.Proofs.Ytaoibhpefkjcmaa
