/-
  Layer 11 (keys): the laws KeysMay and KeysChain in plain words.
-/
import Derived.Test.YtnbkjaoehkmcpaaKH
namespace Go.Proofs.Ytnbkjaoehkmcpaa
open Go.Lad
set_option linter.unusedVariables false
set_option linter.unusedSimpArgs false
/-! ### KeysMay -/
theorem mayB_congr {l : List GFact} {f : GFact} {S T : List Int} (h : ∀ x, x ∈ S ↔ x ∈ T) : mayB l f S = mayB l f T := by
  unfold mayB
  rw [cnt_eq h, cnt_eq (K := (delT l (nameF f)).1) h]
theorem mayF_congr {l : List GFact} {reg : List Int} {f : GFact} {S T : List Int} (h : ∀ x, x ∈ S ↔ x ∈ T) : mayF l reg f S = mayF l reg f T := by
  unfold mayF
  rw [cnt_eq h, mayB_congr h]
theorem mayB_form (l : List GFact) (f : GFact) : ∃ K n, ∀ S, mayB l f S = if (ownT l (nameF f)).2.2 = false ∧ f.1 ≠ 5 then 24 else if n ≤ cnt K S then 0 else if f.1 = 0 ∧ 1 ≤ (delT l (nameF f)).2.1 ∧ (l.length : Int) ≤ (delT l (nameF f)).2.2 ∧ (delT l (nameF f)).2.1 ≤ cnt (delT l (nameF f)).1 S then 0 else 23 := ⟨_, _, fun S => rfl⟩
theorem mayB_mono {l : List GFact} {f : GFact} {S T : List Int} (h : ∀ x ∈ S, x ∈ T) (h0 : mayB l f S = 0) : mayB l f T = 0 := by
  have c1 := fun K => cnt_le (K := K) fun x hx (_ : x ∈ K) => h x hx
  obtain ⟨K, n, e⟩ := mayB_form l f
  rw [e] at h0 ⊢
  split at h0
  · cases h0
  · rename_i hn
    rw [if_neg hn]
    split at h0
    · rename_i h1
      rw [if_pos (Int.le_trans h1 (c1 _))]
    · split at h0
      · rename_i h2
        split
        · rfl
        · rw [if_pos ⟨h2.1, h2.2.1, h2.2.2.1, Int.le_trans h2.2.2.2 (c1 _)⟩]
      · cases h0
theorem mayF_mono {l : List GFact} {reg : List Int} {f : GFact} {S T : List Int} (h : ∀ x ∈ S, x ∈ T) (h0 : mayF l reg f S = 0) : mayF l reg f T = 0 := by
  have c1 := cnt_le (K := reg) fun x hx (_ : x ∈ reg) => h x hx
  unfold mayF at h0 ⊢
  split at h0
  · rename_i h1
    rw [if_pos h1]
    split at h0
    · rename_i h2
      rw [if_pos h2]; exact mayB_mono h h0
    · cases h0
  · rename_i h1
    rw [if_neg h1]
    split at h0
    · rename_i h2
      rw [if_pos h2]
      split at h0
      · rw [if_pos (by omega)]
      · cases h0
    · rename_i h2
      rw [if_neg h2]
      split at h0
      · rename_i h3
        rw [if_pos h3]; exact mayB_mono h h0
      · cases h0
theorem mayB_vals (l : List GFact) (f : GFact) (S : List Int) : (mayB l f S = 24 ∧ (ownT l (nameF f)).2.2 = false ∧ f.1 ≠ 5) ∨ (¬((ownT l (nameF f)).2.2 = false ∧ f.1 ≠ 5) ∧ (mayB l f S = 0 ∨ mayB l f S = 23)) := by
  obtain ⟨K, n, e⟩ := mayB_form l f
  rw [e]
  split
  · rename_i h; exact .inl ⟨rfl, h⟩
  · rename_i h
    refine .inr ⟨h, ?_⟩
    split
    · exact .inl rfl
    · split
      · exact .inl rfl
      · exact .inr rfl
/-- an error of the fact itself does not depend on the signers -/
theorem mayF_err (l : List GFact) (reg : List Int) (f : GFact) (S T : List Int) : (mayF l reg f S = 1 ↔ mayF l reg f T = 1) ∧ (mayF l reg f S = 24 ↔ mayF l reg f T = 24) ∧ (mayF l reg f S = 24 → (ownT l (nameF f)).2.2 = false ∧ f.1 ≠ 5) ∧ (mayF l reg f S = 22 → f.1 = 3 ∨ f.1 = 7) := by
  have hS := mayB_vals l f S
  have hT := mayB_vals l f T
  have key : (mayB l f S = 1 ↔ mayB l f T = 1) ∧ (mayB l f S = 24 ↔ mayB l f T = 24) ∧ (mayB l f S = 24 → (ownT l (nameF f)).2.2 = false ∧ f.1 ≠ 5) ∧ (mayB l f S = 22 → f.1 = 3 ∨ f.1 = 7) := by
    rcases hS with ⟨h1, h2⟩ | ⟨h1, h2⟩ <;> rcases hT with ⟨h3, h4⟩ | ⟨h3, h4⟩
    · rw [h1, h3]; exact ⟨by simp, by simp, fun _ => h2, by simp⟩
    · exact absurd h2 h3
    · exact absurd h4 h1
    · refine ⟨?_, ?_, ?_, ?_⟩ <;> omega
  unfold mayF
  split
  · split
    · exact key
    · simp
  · split
    · rename_i h; refine ⟨?_, ?_, ?_, fun _ => h⟩ <;> (repeat' split) <;> simp
    · split
      · exact key
      · simp
theorem back_eq {S : List Int} (h : S.length ≤ 1000000) : loopF (fun x => ladinglaw11_KeysMay.b1 S x.1 x.2) (0, []) = some S.reverse := by
  refine loopF_at (fun k => ((k : Int), S.reverse.take k)) S.length (by simp) (fun k hk => ?_) ?_
  · have hk' : k < S.reverse.length := by rw [List.length_reverse]; exact hk
    simp only [ladinglaw11_KeysMay.b1, bif_ltZ, lt_t hk, if_true]
    rw [z64_i (by omega)]
    simp only [bind_in]
    rw [z64_i (by omega)]
    simp only [bind_in]
    rw [idx_eq (k := S.length - 1 - k) (by omega) (by omega)]
    simp only [bind_in]
    rw [app_in (by simp; omega), z64_succ (by omega), take_snoc _ k hk', List.getElem_reverse]
    rfl
  · simp only [ladinglaw11_KeysMay.b1, bif_ltZ, lt_f, if_false]
    rw [take_all _ _ (by rw [List.length_reverse]; exact Nat.le_refl _)]
theorem may_true (l : List GFact) (reg : List Int) (f : GFact) (S more : List Int) (hl : l.length ≤ 2000000) : ladinglaw11_KeysMay l reg f S more = some true := by
  unfold ladinglaw11_KeysMay
  rw [small_true]
  simp only [bind_in]
  rw [app_in (by simp; omega)]
  obtain ⟨b, hb, hfew⟩ := few_eq (l := [f] ++ l) (sg := [reg, S, more]) (n := 16) (by simp; omega) (by simp)
  simp only [bind_in]
  rw [hb]
  simp only [bind_in, ltZ_eq]
  cases b with
  | false => rfl
  | true =>
    obtain ⟨f1, f2, f3, f4⟩ := hfew rfl
    have f1 : l.length + 1 ≤ 16 := by simp at f1; omega
    simp only [Bool.not_true, cond_false, bind_in]
    by_cases h15 : 15 < (l.length : Int)
    · rw [decide_eq_true h15]; rfl
    · rw [decide_eq_false h15]
      have hBd : Bd l := ⟨by omega, fun g hg => Nat.le_trans (f3 g (by simp [hg])) (by omega)⟩
      have hf : (fKeys f).length ≤ 1000 := Nat.le_trans (f3 f (by simp)) (by omega)
      have hreg : reg.length ≤ 20 := f4 reg (by simp)
      have hS : S.length ≤ 20 := f4 S (by simp)
      have hm : more.length ≤ 20 := f4 more (by simp)
      simp only [ladinglaw11_KeysMay.j3, cond_false]
      rw [may_eq hBd hf (by omega) (by omega)]
      simp only [bind_in]
      rw [app_in (by simp; omega)]
      simp only [bind_in]
      rw [app_in (by simp; omega)]
      simp only [bind_in, List.nil_append]
      rw [may_eq hBd hf (by simp; omega) (by omega)]
      simp only [bind_in]
      rw [back_eq (by omega)]
      simp only [bind_in, ladinglaw11_KeysMay.j2]
      rw [app_in (by simp; omega)]
      simp only [bind_in]
      rw [may_eq hBd hf (by simp; omega) (by omega)]
      simp only [bind_in]
      rw [may_eq hBd hf (by simp) (by omega)]
      simp only [bind_in, ladinglaw11_KeysMay.j1]
      rw [rname_eq]
      simp only [bind_in]
      rw [owner_eq hBd]
      simp only [bind_in]
      have e1 : mayF l reg f (S.reverse ++ S) = mayF l reg f S := mayF_congr fun x => by simp
      rw [e1]
      have e2 : mayF l reg f S = 0 → mayF l reg f (S ++ more) = 0 := mayF_mono fun x hx => by simp [hx]
      obtain ⟨e3, e4, e5, e6⟩ := mayF_err l reg f S []
      generalize mayF l reg f S = e at *
      generalize mayF l reg f (S ++ more) = g at *
      generalize mayF l reg f [] = z at *
      generalize (ownT l (nameF f)).2.2 = o at *
      simp only [eqZ_eq, bif_dec, bif_not]
      have h1 : decide (z = 1) = decide (e = 1) := by rw [decide_eq_decide]; exact e3.symm
      have h2 : decide (z = 24) = decide (e = 24) := by rw [decide_eq_decide]; exact e4.symm
      rw [h1, h2]
      simp only [BEq.rfl, Bool.not_true, cond_true, cond_false, if_true]
      by_cases c0 : e = 0
      · have c1 := e2 c0
        subst c0
        subst c1
        simp [bind_in]
      · rw [if_neg c0]
        simp only [bind_in]
        by_cases c1 : e = 24
        · obtain ⟨h3, h4⟩ := e5 c1
          subst c1
          simp [bind_in, h3, h4]
        · by_cases c2 : e = 22
          · have h5 := e6 c2
            subst c2
            rcases h5 with h5 | h5 <;> simp [bind_in, h5]
          · simp [bind_in, c1, c2]
end Go.Proofs.Ytnbkjaoehkmcpaa
