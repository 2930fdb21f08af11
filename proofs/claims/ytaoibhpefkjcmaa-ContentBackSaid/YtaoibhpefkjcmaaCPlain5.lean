/-
  Layer 4 (content): the law ContentBack in plain words.
-/
import Derived.Test.YtaoibhpefkjcmaaCPlain4
namespace Go.Proofs.Ytaoibhpefkjcmaa
set_option linter.unusedSimpArgs false
open Go.Lad
set_option linter.unusedVariables false

theorem printM_is {l : List Bs} {s : Bs} (h : s ∈ l) : ∃ k, ∃ hk : k < l.length, printM l s = (k : Int) ∧ l[k] = s := by
  unfold printM
  cases hp : pos l s with
  | none => exact absurd h (pos_none.1 hp)
  | some i =>
    obtain ⟨hi, he, _⟩ := pos_hit hp
    exact ⟨i, hi, rfl, he⟩
theorem printM_inj {l : List Bs} {s t : Bs} (h : s ∈ l) (k : t ∈ l) : printM l s = printM l t ↔ s = t := by
  constructor
  · intro e
    have h1 := text_print h
    have h2 := text_print k
    rw [e, h2] at h1
    exact (Prod.mk.inj h1).1.symm
  · intro e
    rw [e]
theorem add_one {v : List Bs} {s : Bs} (h : v.Nodup) (hs : sizeN v + s.length ≤ 1048576) : addM v s = (ddF v [s], printM (ddF v [s]) s, 0) := by
  unfold addM
  rw [if_pos (right_of h (by omega))]
  have hd : ddF v [s] = if s ∈ v then v else v ++ [s] := by
    have := ddF_one v [] s
    rw [List.nil_append] at this
    exact this
  rw [hd]
  by_cases hm : s ∈ v
  · rw [if_pos hm, if_pos hm]
  · rw [if_neg hm, if_neg hm, if_neg (by omega), printM_last _ _ hm]
theorem back_a {l : List Bs} (h : Few l) : loopM (ladinglaw04_ContentBack.b1 l) ([], [], 0) = some (.inr (ddF [] l, prF [] l)) := by
  refine loop_at (fun k => (ddF [] (l.take k), prF [] (l.take k), (k : Int))) l.length rfl (fun k hk => ?_) ?_
  · have hone := ddF_one [] (l.take k) l[k]
    have hpr := prF_one [] (l.take k) l[k]
    have hle := ddF_le [] (l.take k)
    have hnd := dd_nodup (l.take k) (List.nodup_nil (α := Bs))
    have hpl := prF_len [] (l.take k)
    have hz := h.size
    have hz2 := sizeN_le l k
    have hs := h.2 _ (List.getElem_mem hk)
    have h24 := h.1
    have e0 : sizeN ([] : List Bs) = 0 := rfl
    rw [List.length_take] at hpl hle
    rw [← take_snoc l k hk] at hone hpr
    rw [e0, List.length_nil] at hle
    show ladinglaw04_ContentBack.b1 l (ddF [] (l.take k), prF [] (l.take k), (k : Int)) = some (.inl (ddF [] (l.take (k + 1)), prF [] (l.take (k + 1)), ((k + 1 : Nat) : Int)))
    rw [hpr]
    have hone2 : ddF [] (l.take (k + 1)) = ddF (ddF [] (l.take k)) [l[k]] := by
      have := ddF_one (ddF [] (l.take k)) [] l[k]
      rw [List.nil_append] at this
      rw [this, hone]
      rfl
    rw [hone2]
    generalize ddF [] (l.take k) = v at *
    generalize prF [] (l.take k) = p at *
    have hdl := ddF_le v [l[k]]
    have hdn := dd_nodup [l[k]] hnd
    obtain ⟨r, hr, _⟩ := dd_pre v [l[k]]
    have hm : l[k] ∈ ddF v [l[k]] := (ddF_mem _ _ _).2 (.inr (by simp))
    have hadd := add_one hnd (show sizeN v + l[k].length ≤ 1048576 by omega)
    rw [sizeN_one, List.length_singleton] at hdl
    have hvF : Fits v := ⟨by omega, by omega⟩
    obtain ⟨j, hj, hpj, hej⟩ := printM_is hm
    rw [hpj] at hadd
    rw [hpj]
    generalize ddF v [l[k]] = D at *
    have hlen : D.length = v.length + r.length := by rw [hr, List.length_append]
    have hDF : Fits D := ⟨by omega, by omega⟩
    have hc : (D.take (v.length : Int).toNat).drop (0 : Int).toNat = v := by
      rw [Int.toNat_natCast, hr]
      simp
    simp only [ladinglaw04_ContentBack.b1]
    rw [if_pos (by omega), idx_nat hk]
    simp only [bind_in]
    rw [add_eq hvF (by omega), hadd]
    simp only [bind_in, if_true]
    rw [if_neg (by omega), if_neg (by omega), i64_succ (by omega)]
    simp only [bind_in]
    rw [if_neg (by omega), if_neg (by omega), right_eq hDF]
    simp only [bind_in]
    rw [if_pos (right_of hdn (by omega)), idx_nat hj]
    simp only [bind_in]
    rw [if_pos hej, cut_in (by omega) (by omega) (by omega)]
    simp only [bind_in]
    rw [hc, same_refl hvF.1]
    simp only [bind_in, if_true]
    rw [push_in (by omega)]
    simp only [bind_in]
    rw [i64_succ (by omega)]
    rfl
  · simp only [ladinglaw04_ContentBack.b1]
    rw [if_neg (by omega), take_all l _ (Nat.le_refl _)]
theorem back_true (l : List Bs) : ladinglaw04_ContentBack l = some true := by
  unfold ladinglaw04_ContentBack
  obtain ⟨fa, hfa, ha⟩ := few_eq l
  rw [small_eq, hfa]
  simp only [bind_in]
  by_cases h1 : fa = true
  · have h := ha h1
    rw [if_pos h1, back_a h]
    simp only [bind_in]
    have hle := ddF_le [] l
    have hnd := dd_nodup l (List.nodup_nil (α := Bs))
    have hpl := prF_len [] l
    have hpm := pr_map [] l
    have hmem : ∀ s ∈ l, s ∈ ddF [] l := fun s hs => (ddF_mem _ _ _).2 (.inr hs)
    have hz := h.size
    have h24 := h.1
    have e0 : sizeN ([] : List Bs) = 0 := rfl
    rw [e0, List.length_nil] at hle
    have htx := texts_print hmem
    rw [← hpm] at htx
    generalize ddF [] l = D at *
    generalize prF [] l = P at *
    have hDF : Fits D := ⟨by omega, by omega⟩
    have hat : ∀ k (hk : k < l.length), ∃ hp : k < P.length, P[k] = printM D l[k] := fun k hk => ⟨by omega, by simp only [hpm]; rw [List.getElem_map]⟩
    have l2 : loopM (ladinglaw04_ContentBack.b2 l (D, P)) 0 = some (.inr ()) := by
      refine loop_to (fun k => (k : Int)) l.length (fun k hk => ?_) ?_
      · obtain ⟨hp, he⟩ := hat k hk
        have hmk := hmem _ (List.getElem_mem hk)
        have hs := h.2 _ (List.getElem_mem hk)
        have hadd := add_one hnd (show sizeN D + l[k].length ≤ 1048576 by omega)
        rw [dd_same [l[k]] (by simpa using hmk)] at hadd
        have l3 : loopM (ladinglaw04_ContentBack.b3 l (D, P) (k : Int) l[k] P[k]) 0 = some (.inr ()) := by
          refine loop_to (fun k => (k : Int)) k (fun j hj => ?_) ?_
          · obtain ⟨hpj, hej⟩ := hat j (by omega)
            have hmj := hmem _ (List.getElem_mem (show j < l.length by omega))
            simp only [ladinglaw04_ContentBack.b3]
            rw [if_pos (by omega), idx_nat hpj]
            simp only [bind_in]
            rw [idx_nat (show j < l.length by omega)]
            simp only [bind_in]
            rw [if_pos, i64_succ (by omega)]
            · rfl
            · rw [hej, he, beq_iff_eq]
              exact decide_eq_decide.2 (printM_inj hmj hmk)
          · simp only [ladinglaw04_ContentBack.b3]
            rw [if_neg (by omega)]
        simp only [ladinglaw04_ContentBack.b2]
        rw [if_pos (by omega), idx_nat hk]
        simp only [bind_in]
        rw [add_eq hDF (by omega), hadd]
        simp only [bind_in]
        rw [idx_nat hp]
        simp only [bind_in]
        rw [l3, he, text_eq, text_print hmk]
        simp only [bind_in, if_true]
        rw [same_refl hDF.1]
        simp only [bind_in, if_true]
        rw [print_eq hDF.1]
        simp only [bind_in, if_true]
        rw [i64_succ (by omega)]
        rfl
      · simp only [ladinglaw04_ContentBack.b2]
        rw [if_neg (by omega)]
    rw [l2]
    simp only [bind_in]
    rw [texts_eq (by omega), htx]
    simp only [bind_in, if_true]
    rw [same_refl (by omega)]
    rfl
  · rw [if_neg h1]
end Go.Proofs.Ytaoibhpefkjcmaa
