/-
  Layer 36 (chunk): the laws ChunkTells, ChunkJoins, ChunkCuts in plain words.
-/
import Derived.Test.YtnjmhnogpgnbmaaK3
namespace Go.Proofs.Ytnjmhnogpgnbmaa
open Go.Lad
set_option linter.unusedVariables false
set_option linter.unusedSimpArgs false
set_option linter.unusedSectionVars false
theorem light_eq (m : GManifest) : ladinglaw36_light m = some (decide ((m.2.2.length : Int) ≤ 40)) := by unfold ladinglaw36_light; rw [leZ_eq]
theorem tells_true (c : List Bs) (text : Bs) (size : Int) (m : GManifest) (cs : List Bs) (hv : List Int) (i : Int) : ladinglaw36_ChunkTells c text size m cs hv i = some true := by
  unfold ladinglaw36_ChunkTells
  rw [small_true]
  simp only [bind_in]
  obtain ⟨b1, h1, h1'⟩ := few_eq (l := c) (n := 30) (by omega)
  rw [show (30 : Int) = ((30 : Nat) : Int) from rfl, h1]
  simp only [bind_in]
  cases b1 with
  | false => rfl
  | true =>
    obtain ⟨hcl, hcx⟩ := h1' rfl
    have hc := sz_few hcl hcx
    simp only [bif_not, cond_true, bif_ltZ]
    by_cases h2 : (600 : Int) < (text.length : Int)
    · rw [if_pos h2]; rfl
    · rw [if_neg h2, light_eq]
      simp only [bind_in, bif_not, bif_dec]
      by_cases h3 : (m.2.2.length : Int) ≤ 40
      · rw [if_pos h3]
        obtain ⟨b4, h4, h4'⟩ := few_eq (l := cs) (n := 40) (by omega)
        rw [show (40 : Int) = ((40 : Nat) : Int) from rfl] at h3 ⊢
        rw [h4]
        simp only [bind_in]
        cases b4 with
        | false => rfl
        | true =>
          obtain ⟨hsl, hsx⟩ := h4' rfl
          have hs := sz_few hsl hsx
          rw [ltZ_eq]
          simp only [cond_true, bind_in, ladinglaw36_ChunkTells.j2, bif_dec]
          by_cases h5 : ((40 : Nat) : Int) < (hv.length : Int)
          · rw [if_pos h5]
          · rw [if_neg h5, of_eq (by omega) (by omega) (by omega), rof_eq (by omega) (by omega) (by omega)]
            simp only [bind_in, bif_eqZ]
            have hol : (ofF c text size).1.length ≤ 1000000000 ∧ (ofF c text size).2.1.2.2.length ≤ 1000000000 := by
              unfold ofF
              split
              · rename_i hr
                split
                · rename_i h0
                  have hcl2 := cutN_len (n := size.toNat) (f := text.length) (s := text) (by omega) (Nat.le_refl _)
                  have ha := addF_len h0
                  have key : ∀ (xs l : List Bs) (ks : List Int), l.length + xs.length ≤ 1000000 → ks.length + xs.length ≤ 1000000 → (ofEnd (addF c text).2.1 (text.length : Int) (addsF xs l ks)).1.length ≤ 1000000000 ∧ (ofEnd (addF c text).2.1 (text.length : Int) (addsF xs l ks)).2.1.2.2.length ≤ 1000000000 := by
                    intro xs
                    induction xs with
                    | nil => intro l ks g1 g2; simp only [addsF, ofEnd, List.length_nil] at g1 g2 ⊢; omega
                    | cons x r ih =>
                      intro l ks g1 g2
                      rw [List.length_cons] at g1 g2
                      unfold addsF
                      split
                      · rename_i hx
                        have hx := addF_len hx
                        refine ih _ _ (by omega) (by rw [List.length_append, List.length_singleton]; omega)
                      · simp [ofEnd]
                  exact key _ _ _ (by omega) (by rw [List.length_nil]; omega)
                · simp
              · simp
            rw [if_pos (by trivial), same_self hol.1]
            simp only [bind_in, cond_true]
            rw [msame_self hol.2]
            simp only [bind_in, cond_true]
            rw [cut_eq (by omega), rcut_eq (by omega)]
            simp only [bind_in]
            have hch : (chunksF text size).length ≤ 1000000000 := by
              unfold chunksF
              split
              · rename_i h6
                have := cutN_len (n := size.toNat) (f := text.length) (s := text) (by omega) (Nat.le_refl _)
                omega
              · simp
            rw [same_self hch]
            simp only [bind_in, cond_true]
            rw [mright_eq (by omega) (by omega), rmright_eq (by omega) (by omega)]
            simp only [bind_in, beq_self_eq_true, ladinglaw36_ChunkTells.j1]
            rw [join_eq (by omega) (by omega) (by omega) (by omega), rjoin_eq (by omega) (by omega) (by omega) (by omega)]
            simp only [bind_in, cond_true, decide_true, eqZ_eq]
            rw [check_eq, rcheck_eq]
            simp only [bind_in, beq_self_eq_true, cond_true]
            rw [miss_eq (ns := m.2.2) (by omega) (by omega) rfl, rmiss_eq (ns := m.2.2) (by omega) (by omega) rfl]
            simp only [bind_in]
            have key : ∀ (l : List Int) (k : Nat) (s : List Int), (foldI (missStep hv) k s l).length ≤ s.length + l.length := by
              intro l
              induction l with
              | nil => intro k s; simp [foldI]
              | cons x r ih =>
                intro k s
                have := ih (k + 1) (missStep hv k s x)
                unfold foldI
                have h9 : (missStep hv k s x).length ≤ s.length + 1 := by
                  unfold missStep
                  split
                  · omega
                  · simp
                rw [List.length_cons]; omega
            rw [ints_self (by
              have := key m.2.2 0 []
              rw [List.length_nil] at this
              unfold missF; omega)]
            simp only [bind_in]
      · rw [if_neg h3]; rfl
/-! ### ChunkJoins -/
theorem fits_flat (c : List Bs) : ∀ (ns : List Int) (s : Bs), fits c s ns = true → (ns.map fun n => (textF c n).1).flatten = s
  | [], s, h => by
    have := of_decide_eq_true (show decide (s = []) = true from h)
    rw [this]; rfl
  | n :: r, s, h => by
    unfold fits at h
    rw [Bool.and_eq_true] at h
    have h2 := h.1
    unfold good1 at h2
    simp only [Bool.and_eq_true, decide_eq_true_eq] at h2
    rw [List.map_cons, List.flatten_cons, fits_flat c r _ h.2]
    have := List.take_append_drop (textF c n).1.length s
    rw [h2.2.2.2] at this
    exact this
theorem allC_map {c : List Bs} {ns : List Int} {cs : List Bs} (h : AllC c ns cs) (hl : cs.length = ns.length) : (ns.map fun n => (textF c n).1) = cs := by
  apply List.ext_getElem (by rw [List.length_map, hl])
  intro k h1 h2
  have := h k h2
  unfold checkF at this
  rw [List.length_map] at h1
  rw [if_pos (by omega), Int.toNat_natCast, List.getD_eq_getElem?_getD, List.getElem?_eq_getElem h1, Option.getD_some, Bool.and_eq_true, decide_eq_true_eq] at this
  rw [List.getElem_map]
  exact this.2
theorem rightM_ok {c : List Bs} {m : GManifest} (h : rightM c m = true) : (textF c m.1).2 = true ∧ RightP c ∧ m.2.1 = ((textF c m.1).1.length : Int) ∧ m.2.2.length ≤ 1000 ∧ fits c (textF c m.1).1 m.2.2 = true := by
  unfold rightM at h
  split at h
  · rename_i h1
    exact ⟨h1.1, h1.2.1, h1.2.2.1, h1.2.2.2, h⟩
  · cases h
theorem joins_true (c : List Bs) (m : GManifest) (cs : List Bs) : ladinglaw36_ChunkJoins c m cs = some true := by
  unfold ladinglaw36_ChunkJoins
  rw [small_true]
  simp only [bind_in]
  obtain ⟨b1, h1, h1'⟩ := few_eq (l := c) (n := 30) (by omega)
  rw [show (30 : Int) = ((30 : Nat) : Int) from rfl, h1]
  simp only [bind_in]
  cases b1 with
  | false => rfl
  | true =>
    obtain ⟨hcl, hcx⟩ := h1' rfl
    have hc := sz_few hcl hcx
    rw [light_eq]
    simp only [bif_not, cond_true, bind_in, bif_dec]
    by_cases h3 : (m.2.2.length : Int) ≤ 40
    · rw [if_pos h3]
      obtain ⟨b4, h4, h4'⟩ := few_eq (l := cs) (n := 40) (by omega)
      rw [show (40 : Int) = ((40 : Nat) : Int) from rfl, h4]
      simp only [bind_in]
      cases b4 with
      | false => rfl
      | true =>
        obtain ⟨hsl, hsx⟩ := h4' rfl
        have hs := sz_few hsl hsx
        simp only [Bool.not_true, ladinglaw36_ChunkJoins.j5, cond_false]
        rw [join_eq (by omega) (by omega) (by omega) (by omega), mright_eq (by omega) (by omega)]
        simp only [bind_in]
        have hloop : ∀ v : Bool, (v = true ↔ rightM c m = true ∧ cs.length = m.2.2.length) → ∃ b : Bool × Bs, loopF (fun x => ladinglaw36_ChunkJoins.b1 c m cs x.1 x.2.1 x.2.2) (v, ([] : Bs), 0) = some b ∧ (b.1 = true ↔ v = true ∧ AllC c m.2.2 cs) ∧ (b.1 = true → b.2 = cs.flatten) := by
          intro v hv
          cases v with
          | false =>
            refine ⟨(false, []), loopF_of (n := 1) ?_ (by omega), by simp, by simp⟩
            simp only [iterM, ladinglaw36_ChunkJoins.b1, bif_ltZ]
            by_cases hh : 0 < cs.length
            · rw [if_pos (by omega)]; rfl
            · rw [if_neg (by omega)]; rfl
          | true =>
            obtain ⟨hr, hlen⟩ := hv.1 rfl
            have key : ∀ k, k < cs.length → ∀ x : Bool × Bs × Int, ((x = (true, (cs.take k).flatten, (k : Int)) ∧ ∀ j, (hj : j < cs.length) → j < k → checkF c m.2.2 (j : Int) cs[j] = true) ∨ (∃ s, x = (false, s, (k : Int)) ∧ ¬ AllC c m.2.2 cs)) →
                (∃ y, ladinglaw36_ChunkJoins.b1 c m cs x.1 x.2.1 x.2.2 = some (.inl y) ∧ ((y = (true, (cs.take (k + 1)).flatten, ((k + 1 : Nat) : Int)) ∧ ∀ j, (hj : j < cs.length) → j < k + 1 → checkF c m.2.2 (j : Int) cs[j] = true) ∨ (∃ s, y = (false, s, ((k + 1 : Nat) : Int)) ∧ ¬ AllC c m.2.2 cs))) ∨
                ∃ b, ladinglaw36_ChunkJoins.b1 c m cs x.1 x.2.1 x.2.2 = some (.inr b) ∧ ((b.1 = true ↔ AllC c m.2.2 cs) ∧ (b.1 = true → b.2 = cs.flatten)) := by
              intro k hk x hx
              rcases hx with ⟨rfl, hx⟩ | ⟨s, rfl, hn⟩
              · have hk1 := szF_take cs k
                have hk2 := szF_mem (List.getElem_mem hk)
                have hcat : cat? (cs.take k).flatten cs[k] = some (cs.take (k + 1)).flatten := by
                  rw [take_snoc cs k hk, List.flatten_append]
                  unfold cat?
                  rw [if_pos (by rw [flat_len]; omega)]; simp
                simp only [ladinglaw36_ChunkJoins.b1, bif_ltZ]
                rw [if_pos (by omega)]
                simp only [bind_in, ladinglaw36_ChunkJoins.j1, cond_true]
                rw [idx_nat (l := m.2.2) (by omega)]
                simp only [bind_in]
                rw [text_eq, idx_nat hk]
                simp only [bind_in]
                rw [hcat, z64_succ (by omega), check_eq]
                simp only [bind_in, bif_dec]
                have hck : checkF c m.2.2 (k : Int) cs[k] = ((textF c m.2.2[k]).2 && decide ((textF c m.2.2[k]).1 = cs[k])) := by
                  unfold checkF
                  rw [if_pos (by omega), Int.toNat_natCast, List.getD_eq_getElem?_getD, List.getElem?_eq_getElem (by omega), Option.getD_some]
                cases ht : (textF c m.2.2[k]).2 with
                | false =>
                  refine .inl ⟨_, rfl, .inr ⟨_, rfl, fun h => ?_⟩⟩
                  have := h k hk
                  rw [hck, ht] at this; cases this
                | true =>
                  by_cases he : (textF c m.2.2[k]).1 = cs[k]
                  · rw [cond_true, if_pos he, hck, ht, decide_eq_true he]
                    refine .inl ⟨_, rfl, .inl ⟨rfl, fun j hj hjk => ?_⟩⟩
                    by_cases hjk' : j = k
                    · subst hjk'; rw [hck, ht, decide_eq_true he]; rfl
                    · exact hx j hj (by omega)
                  · rw [cond_true, if_neg he]
                    refine .inl ⟨_, rfl, .inr ⟨_, rfl, fun h => ?_⟩⟩
                    have := h k hk
                    rw [hck, decide_eq_false he, Bool.and_false] at this; cases this
              · simp only [ladinglaw36_ChunkJoins.b1, bif_ltZ]
                rw [if_pos (by omega)]
                exact .inr ⟨(false, s), rfl, ⟨fun h => (by cases h), fun h => absurd h hn⟩, fun h => (by cases h)⟩
            have hend : ∀ x : Bool × Bs × Int, ((x = (true, (cs.take cs.length).flatten, (cs.length : Int)) ∧ ∀ j, (hj : j < cs.length) → j < cs.length → checkF c m.2.2 (j : Int) cs[j] = true) ∨ (∃ s, x = (false, s, (cs.length : Int)) ∧ ¬ AllC c m.2.2 cs)) → ∃ b, ladinglaw36_ChunkJoins.b1 c m cs x.1 x.2.1 x.2.2 = some (.inr b) ∧ ((b.1 = true ↔ AllC c m.2.2 cs) ∧ (b.1 = true → b.2 = cs.flatten)) := by
              intro x hx
              rcases hx with ⟨rfl, hx⟩ | ⟨s, rfl, hn⟩
              · simp only [ladinglaw36_ChunkJoins.b1, bif_ltZ]
                rw [if_neg (by omega), List.take_length]
                exact ⟨(true, cs.flatten), rfl, ⟨fun _ j hj => hx j hj hj, fun _ => rfl⟩, fun _ => rfl⟩
              · simp only [ladinglaw36_ChunkJoins.b1, bif_ltZ]
                rw [if_neg (by omega)]
                exact ⟨(false, s), rfl, ⟨fun h => (by cases h), fun h => absurd h hn⟩, fun h => (by cases h)⟩
            obtain ⟨b, hb, hq1, hq2⟩ := loopF_inv (body := fun x => ladinglaw36_ChunkJoins.b1 c m cs x.1 x.2.1 x.2.2) (fun k x => (x = (true, (cs.take k).flatten, (k : Int)) ∧ ∀ j, (hj : j < cs.length) → j < k → checkF c m.2.2 (j : Int) cs[j] = true) ∨ (∃ s, x = (false, s, (k : Int)) ∧ ¬ AllC c m.2.2 cs)) (Q := fun b => (b.1 = true ↔ AllC c m.2.2 cs) ∧ (b.1 = true → b.2 = cs.flatten)) cs.length (x := (true, ([] : Bs), 0)) (.inl ⟨rfl, fun j _ h => absurd h (by omega)⟩) key hend
            exact ⟨b, hb, by rw [hq1]; simp, hq2⟩
        have hv : ∃ v : Bool, (bif rightM c m then some (eqZ (cs.length : Int) (m.2.2.length : Int)) else some false) = some v ∧ (v = true ↔ rightM c m = true ∧ cs.length = m.2.2.length) := by
          cases hr : rightM c m with
          | false => exact ⟨false, rfl, by simp⟩
          | true => exact ⟨_, rfl, by rw [eqZ_eq, decide_eq_true_eq]; constructor <;> intro h <;> simp at h ⊢ <;> omega⟩
        obtain ⟨v, hv1, hv2⟩ := hv
        rw [hv1]
        obtain ⟨b, hb1, hb2, hb3⟩ := hloop v hv2
        simp only [bind_in, ladinglaw36_ChunkJoins.j4]
        rw [hb1]
        simp only [bind_in, ladinglaw36_ChunkJoins.j3]
        rw [text_eq]
        simp only [bind_in]
        have hj : (joinM c m cs).2 = 0 ↔ b.1 = true := by
          unfold joinM
          rw [hb2, hv2]
          split
          · rename_i h5
            split
            · rename_i h6; simp [h5, h6]
            · rename_i h6; simp [h6]
          · rename_i h5; simp [h5]
        have heq : (eqZ (joinM c m cs).2 0 == b.1) = true := by
          rw [eqZ_eq]
          cases hb : b.1 with
          | true => rw [decide_eq_true (hj.2 hb)]; rfl
          | false => rw [decide_eq_false (fun h => by have := hj.1 h; rw [hb] at this; cases this)]; rfl
        rw [heq]
        have hbad : b.1 = false → (joinM c m cs).1 = [] := by
          intro h
          unfold joinM
          split
          · rename_i h5
            split
            · rename_i h6
              have := hb2.2 ⟨hv2.2 h5, h6⟩
              rw [h] at this; cases this
            · rfl
          · rfl
        have hgood : b.1 = true → (joinM c m cs).1 = (textF c m.1).1 ∧ (joinM c m cs).1 = b.2 := by
          intro h
          obtain ⟨k1, k2⟩ := hb2.1 h
          obtain ⟨k3, k4⟩ := hv2.1 k1
          have k5 := rightM_ok k3
          have k6 := fits_flat c m.2.2 _ k5.2.2.2.2
          rw [allC_map k2 k4] at k6
          unfold joinM
          rw [if_pos ⟨k3, k4⟩, if_pos k2]
          exact ⟨k6, (hb3 h).symm⟩
        cases hr : rightM c m with
        | true =>
          have k5 := rightM_ok hr
          rw [k5.1, k5.2.2.1]
          simp only [cond_true, bif_not, eqZ_eq, decide_true]
          cases hb : b.1 with
          | true =>
            simp only [cond_true, bind_in, ladinglaw36_ChunkJoins.j2, cond_false, bif_not, bif_dec]
            rw [if_pos (hgood hb).1, decide_eq_true (hgood hb).2]
          | false =>
            simp only [cond_false, bind_in, ladinglaw36_ChunkJoins.j2, cond_true]
            rw [hbad hb]; rfl
        | false =>
          simp only [cond_false, cond_true, bif_not]
          cases hb : b.1 with
          | true =>
            have := (hv2.1 (hb2.1 hb).1).1
            rw [hr] at this; cases this
          | false =>
            simp only [cond_false, bind_in, ladinglaw36_ChunkJoins.j2, cond_true]
            rw [hbad hb]; rfl
    · rw [if_neg h3]; rfl
/-! ### ChunkCuts -/
theorem quo2 {k : Nat} (h : k ≤ 1000000) : quoZ .i64 (k : Int) 2 = some ((k / 2 : Nat) : Int) := by
  unfold quoZ inZ
  rw [eqZ_eq, leZ_eq, leZ_eq]
  have e : ((k : Int).tdiv 2) = ((k / 2 : Nat) : Int) := rfl
  rw [e, decide_eq_false (by omega), decide_eq_true (by show (-9223372036854775808 : Int) ≤ _; omega), decide_eq_true (by show _ ≤ (9223372036854775807 : Int); omega)]
  rfl
theorem cuts_true (text : Bs) (size : Int) : ladinglaw36_ChunkCuts text size = some true := by
  unfold ladinglaw36_ChunkCuts
  rw [small_true]
  simp only [bind_in, bif_ltZ]
  by_cases h1 : (3000 : Int) < (text.length : Int)
  · rw [if_pos h1]
  · rw [if_neg h1, cut_eq (by omega)]
    simp only [bind_in, ltZ_eq]
    by_cases h2 : size < 1
    · rw [if_pos h2]
      simp only [bind_in, ladinglaw36_ChunkCuts.j4, cond_true]
      unfold chunksF
      rw [if_neg (by omega)]; rfl
    · rw [if_neg h2]
      by_cases h3 : 4096 < size
      · rw [decide_eq_true h3]
        simp only [bind_in, ladinglaw36_ChunkCuts.j4, cond_true]
        unfold chunksF
        rw [if_neg (by omega)]; rfl
      · rw [decide_eq_false h3]
        obtain ⟨n, rfl⟩ : ∃ n : Nat, size = (n : Int) := ⟨size.toNat, by omega⟩
        have hn : 0 < n := by omega
        have hf := Nat.le_refl text.length
        have e : chunksF text (n : Int) = cutN n text.length text := by
          unfold chunksF
          rw [if_pos (by omega), Int.toNat_natCast]
        rw [e]
        have hL := cutN_len (n := n) (f := text.length) (s := text) hn hf
        have hsz : szF (cutN n text.length text) ≤ 3000 := by rw [← flat_len, cutN_flat n hn _ _ hf]; omega
        have hlt := fun k => cutN_lt (n := n) (f := text.length) (s := text) hn hf k
        have hat := fun k hk => cutN_at (n := n) (f := text.length) (s := text) hn hf k hk
        have hmem := fun x hx => cutN_mem (n := n) (f := text.length) (s := text) hn hf (x := x) hx
        have hflat := cutN_flat n hn _ _ hf
        revert hL hsz hlt hat hmem hflat
        generalize cutN n text.length text = L
        intro hL hsz hlt hat hmem hflat
        simp only [bind_in, ladinglaw36_ChunkCuts.j4, cond_false]
        refine loopF_at (fun k => ((L.take k).flatten, (k : Int))) L.length rfl (fun k hk => ?_) ?_
        · have hm := hmem _ (List.getElem_mem hk)
          have hk1 := szF_take L k
          have hk2 := szF_mem (List.getElem_mem hk)
          have hcat : cat? (L.take k).flatten L[k] = some (L.take (k + 1)).flatten := by
            rw [take_snoc L k hk, List.flatten_append]
            unfold cat?
            rw [if_pos (by rw [flat_len]; omega)]; simp
          simp only [ladinglaw36_ChunkCuts.b2, bif_ltZ]
          rw [if_pos (by omega), idx_nat hk]
          simp only [bind_in, bif_dec]
          rw [if_neg hm.1, if_neg (by omega), z64_i (by omega)]
          simp only [bind_in]
          have hlast : (if (k : Int) < (L.length : Int) - 1 then some (!eqZ (L[k].length : Int) (n : Int)) else some false) = some false := by
            split
            · rename_i h5
              have h6 := (hlt (k + 1)).1 (by omega)
              have h7 : L[k].length = n := by
                rw [hat k hk, List.length_take, List.length_drop]
                rw [Nat.add_mul] at h6
                omega
              rw [h7, eqZ_eq]; simp
            · rfl
          rw [hlast]
          simp only [bind_in, ladinglaw36_ChunkCuts.j3, cond_false]
          rw [idx_nat hk]
          simp only [bind_in]
          rw [hcat]
          simp only [bind_in, bif_ltZ]
          by_cases h8 : (n : Int) < 2
          · rw [if_pos h8, z64_succ (by omega)]
            simp only [bind_in]
          · rw [if_neg h8, quo2 (by omega)]
            simp only [bind_in]
            rw [cut_eq (by omega)]
            have hh : 0 < n / 2 := by omega
            have hf2 := Nat.le_refl L[k].length
            have e2 : chunksF L[k] ((n / 2 : Nat) : Int) = cutN (n / 2) L[k].length L[k] := by
              unfold chunksF
              rw [if_pos (by omega), Int.toNat_natCast]
            rw [e2]
            have hL2 := cutN_len (n := n / 2) (f := L[k].length) (s := L[k]) hh hf2
            have hfl2 := cutN_flat (n / 2) hh _ _ hf2
            have hl3 : (cutN (n / 2) L[k].length L[k]).length ≤ 3 := by
              rcases Nat.lt_or_ge 3 (cutN (n / 2) L[k].length L[k]).length with h9 | h9
              · have := (cutN_lt hh hf2 3).1 h9
                omega
              · exact h9
            revert hL2 hfl2 hl3
            generalize cutN (n / 2) L[k].length L[k] = H
            intro hL2 hfl2 hl3
            have hszH : szF H = L[k].length := by rw [← flat_len, hfl2]
            simp only [bind_in]
            have hloop : loopF (fun x => ladinglaw36_ChunkCuts.b1 H x.1 x.2) (([] : Bs), 0) = some H.flatten := by
              refine loopF_at (fun k => ((H.take k).flatten, (k : Int))) H.length rfl (fun j hj => ?_) ?_
              · have hj1 := szF_take H j
                have hj2 := szF_mem (List.getElem_mem hj)
                simp only [ladinglaw36_ChunkCuts.b1, bif_ltZ]
                rw [if_pos (by omega), idx_nat hj]
                simp only [bind_in]
                rw [show cat? (H.take j).flatten H[j] = some ((H.take j).flatten ++ H[j]) from if_pos (by rw [flat_len]; omega)]
                simp only [bind_in]
                rw [z64_succ (by omega), take_snoc H j hj, List.flatten_append]
                simp only [bind_in]
                simp
              · simp only [ladinglaw36_ChunkCuts.b1, bif_ltZ]
                rw [if_neg (by omega), List.take_length]
            rw [hloop]
            simp only [bind_in, ladinglaw36_ChunkCuts.j2]
            rw [idx_nat hk, hfl2]
            simp only [bind_in, bif_not, bif_dec, ltZ_eq]
            rw [if_pos (by trivial), decide_eq_false (by omega)]
            simp only [bind_in, ladinglaw36_ChunkCuts.j1, cond_false]
            rw [z64_succ (by omega)]
            simp only [bind_in]
        · simp only [ladinglaw36_ChunkCuts.b2, bif_ltZ]
          rw [if_neg (by omega), List.take_length, hflat]
          simp
end Go.Proofs.Ytnjmhnogpgnbmaa
