/-
  Layer 10 (name): the law NameGuards in plain words.
-/
import Derived.Test.YtkhlbajdoaokeaaDoorN4
namespace Go.Proofs.YtkhlbajdoaokeaaDoor
open Go.Lad
set_option linter.unusedVariables false
set_option linter.unusedSimpArgs false

theorem at_eq (names : List Bs) (x : GAct) (hn : names.length ≤ 1000) : ∃ a : Int, loopF (fun y => ladinglaw10_NameGuards.b1 names x y.1 y.2) ((-1), 0) = some a ∧ (a = -1 ∨ ∃ n : Nat, ∃ hn : n < names.length, a = (n : Int) ∧ names[n] = x.2.1) := by
  refine loopF_inv (fun k y => y.2 = (k : Int) ∧ (y.1 = -1 ∨ ∃ n : Nat, ∃ hn : n < names.length, y.1 = (n : Int) ∧ names[n] = x.2.1)) names.length ⟨rfl, .inl rfl⟩ (fun k hk y hy => ?_) (fun y hy => ?_) (by omega)
  · obtain ⟨a, b⟩ := y
    obtain ⟨hb, ha⟩ := hy
    dsimp only at hb ha
    subst hb
    have e : ladinglaw10_NameGuards.b1 names x a (k : Int) = some (.inl (if names[k] = x.2.1 then (k : Int) else a, ((k + 1 : Nat) : Int))) := by
      unfold ladinglaw10_NameGuards.b1
      rw [bif_ltZ, if_pos (by omega), idx_nat hk, bind_in, bind_in, bif_dec, z64_succ (by omega), bind_in, bind_in]
      split <;> rfl
    refine .inl ⟨_, e, rfl, ?_⟩
    dsimp only
    by_cases h : names[k] = x.2.1
    · rw [if_pos h]; exact .inr ⟨k, hk, rfl, h⟩
    · rw [if_neg h]; exact ha
  · obtain ⟨a, b⟩ := y
    obtain ⟨hb, ha⟩ := hy
    dsimp only at hb ha
    subst hb
    exact ⟨a, by dsimp only [ladinglaw10_NameGuards.b1]; rw [bif_ltZ, if_neg (by omega)], ha⟩
/-- what holds between the acts -/
structure Inv (k : Nat) (holds : List GHold) (names : List Bs) : Prop where
  nl : names.length ≤ k
  hl : holds.length ≤ k
  nb : ∀ x ∈ names, x.length ≤ 30
  hb : ∀ h ∈ holds, h.1.length ≤ 30
  rt : ∀ x ∈ names, rightB x = true
theorem Inv.okN {k : Nat} {holds : List GHold} {names : List Bs} (h : Inv k holds names) (hk : k ≤ 100) : okN names := ⟨by have := h.nl; omega, fun x hx => by have := h.nb x hx; omega⟩
theorem Inv.okH {k : Nat} {holds : List GHold} {names : List Bs} (h : Inv k holds names) (hk : k ≤ 100) : okH holds := ⟨by have := h.hl; omega, fun x hx => by have := h.hb x hx; omega⟩
/-- the second half of an act: a name is taken -/
theorem take_ok (k : Nat) (hk : k ≤ 60) (x : GAct) (hx : x.2.1.length ≤ 30) (holds : List GHold) (names : List Bs) (h : Inv k holds names ∨ (holds.length ≤ k + 1 ∧ Inv (k + 1) holds names ∧ x.1 = true)) :
    ∃ holds' names', ladinglaw10_NameGuards.j7 (k : Int) x holds names = some (.inl (holds', ((k + 1 : Nat) : Int), names')) ∧ Inv (k + 1) holds' names' := by
  have hup : Inv (k + 1) holds names := by
    rcases h with h | h
    · exact ⟨by have := h.nl; omega, by have := h.hl; omega, h.nb, h.hb, h.rt⟩
    · exact h.2.1
  have hskip : ∃ holds' names', ladinglaw10_NameGuards.j6 (k : Int) x holds names true = some (.inl (holds', ((k + 1 : Nat) : Int), names')) ∧ Inv (k + 1) holds' names' := by
    refine ⟨holds, names, ?_, hup⟩
    unfold ladinglaw10_NameGuards.j6
    rw [cond_true, z64_succ (by omega), bind_in]
  unfold ladinglaw10_NameGuards.j7
  cases hdrop : x.1 with
  | true => rw [cond_true, bind_in]; exact hskip
  | false =>
    have hI : Inv k holds names := by
      rcases h with h | h
      · exact h
      · rw [hdrop] at h; exact absurd h.2.2 (by simp)
    have hn := hI.okN (by omega)
    have hh := hI.okH (by omega)
    have mx : x.2.1.length + 1 ≤ Mx := by unfold Mx; omega
    rw [cond_false, free_eq hn hh (by omega), bind_in, bind_in, eqZ_eq]
    by_cases hf : freeS names holds x.2.1 x.2.2.1 = 0
    · rw [decide_eq_true hf, Bool.not_true]
      have hfr : rightB x.2.1 = true ∧ names.any (fun y => conf y x.2.1) = false ∧ heldS holds x.2.1 x.2.2.1 = false := by
        unfold freeS at hf
        split at hf
        · simp at hf
        · rename_i h1
          split at hf
          · simp at hf
          · split at hf
            · simp at hf
            · rename_i h3
              split at hf
              · simp at hf
              · rename_i h4
                exact ⟨by simpa using h1, by simpa using h3, by simpa using h4⟩
      obtain ⟨f1, f2, f3⟩ := hfr
      refine ⟨holds, names ++ [x.2.1], ?_, ⟨by have := hI.nl; simp; omega, hup.hl, fun y hy => ?_, hup.hb, fun y hy => ?_⟩⟩
      · unfold ladinglaw10_NameGuards.j6
        rw [cond_false]
        have l2 : loopF (fun y => ladinglaw10_NameGuards.b2 x names y) 0 = some ((scan (fun k y => if conf y x.2.1 = true then some (.inr (.inr false)) else none) 0 names).getD (.inl ())) :=
          loop_if (body := fun y => ladinglaw10_NameGuards.b2 x names y) names (fun _ y => conf y x.2.1) (fun _ _ => (.inr (.inr false) : Unit ⊕ ((List GHold × Int × List Bs) ⊕ Bool))) (.inl ()) (fun j hj => by
            have := hn.1
            dsimp only [ladinglaw10_NameGuards.b2]
            rw [bif_ltZ, if_pos (by omega), idx_nat hj, bind_in, bind_in, conf_eq (okN_at hn hj) mx, bind_in, z64_succ (by omega), bind_in]
            cases conf names[j] x.2.1 <;> rfl) (by
            dsimp only [ladinglaw10_NameGuards.b2]
            rw [bif_ltZ, if_neg (by omega)]) (by have := hn.1; omega)
        rw [l2, scan_any (fun y => conf y x.2.1), f2, bind_in]
        show ladinglaw10_NameGuards.j5 (k : Int) x holds names = _
        unfold ladinglaw10_NameGuards.j5
        have l3 : loopF (fun y => ladinglaw10_NameGuards.b3 x holds y) 0 = some ((scan (fun k y => if heldP x.2.1 x.2.2.1 y = true then some (.inr (.inr false)) else none) 0 holds).getD (.inl ())) :=
          loop_if (body := fun y => ladinglaw10_NameGuards.b3 x holds y) holds (fun _ y => heldP x.2.1 x.2.2.1 y) (fun _ _ => (.inr (.inr false) : Unit ⊕ ((List GHold × Int × List Bs) ⊕ Bool))) (.inl ()) (fun j hj => by
            have := hh.1
            dsimp only [ladinglaw10_NameGuards.b3]
            rw [bif_ltZ, if_pos (by omega), idx_nat hj, bind_in, conf_eq (okH_at hh hj) mx, bind_in, bind_in, ltZ_eq]
            unfold ladinglaw10_NameGuards.j3 heldP
            rw [z64_succ (by omega), bind_in]
            cases conf holds[j].1 x.2.1 <;> cases hd : decide (x.2.2.1 < holds[j].2) <;> rfl) (by
            dsimp only [ladinglaw10_NameGuards.b3]
            rw [bif_ltZ, if_neg (by omega)]) (by have := hh.1; omega)
        rw [l3, scan_any (heldP x.2.1 x.2.2.1)]
        have f3' : holds.any (heldP x.2.1 x.2.2.1) = false := f3
        rw [f3', bind_in]
        show ladinglaw10_NameGuards.j4 (k : Int) x holds names = _
        unfold ladinglaw10_NameGuards.j4
        rw [right_eq, bind_in, f1, Bool.not_true, cond_false, app_in (by have := hn.1; simp; omega), bind_in, z64_succ (by omega), bind_in]
      · rcases List.mem_append.1 hy with h | h
        · exact hI.nb y h
        · rw [List.mem_singleton.1 h]; exact hx
      · rcases List.mem_append.1 hy with h | h
        · exact hI.rt y h
        · rw [List.mem_singleton.1 h]; exact f1
    · rw [decide_eq_false hf]; exact hskip
theorem act_ok (k : Nat) (hk : k ≤ 60) (x : GAct) (hx : x.2.1.length ≤ 30) (holds : List GHold) (names : List Bs) (h : Inv k holds names) (a : Int) (ha : a = -1 ∨ ∃ n : Nat, ∃ hn : n < names.length, a = (n : Int) ∧ names[n] = x.2.1) :
    ∃ holds' names', ladinglaw10_NameGuards.j8 holds (k : Int) names x a = some (.inl (holds', ((k + 1 : Nat) : Int), names')) ∧ Inv (k + 1) holds' names' := by
  unfold ladinglaw10_NameGuards.j8
  have hnone : ladinglaw10_NameGuards.j2 holds names x a false = some (.inl (holds, names)) := rfl
  have plain := take_ok k hk x hx holds names (.inl h)
  cases hdrop : x.1 with
  | false =>
    rw [cond_false, bind_in, hnone, bind_in]
    exact plain
  | true =>
    rw [cond_true, bind_in, leZ_eq]
    rcases ha with rfl | ⟨n, hn, rfl, he⟩
    · rw [decide_eq_false (by omega), hnone, bind_in]
      exact plain
    · rw [decide_eq_true (by omega)]
      have hr : rightB x.2.1 = true := h.rt _ (by rw [← he]; exact List.getElem_mem hn)
      have hcode := drop_code holds x.2.1 x.2.2.2
      unfold ladinglaw10_NameGuards.j2
      rw [cond_true, drop_eq (h.okH (by omega)), bind_in]
      have hfalse : (bif (leZ 0 x.2.2.2) then some (!((eqZ (dropS holds x.2.1 x.2.2.2).2 0) == (leZ x.2.2.2 1073741824))) else some (!((eqZ (dropS holds x.2.1 x.2.2.2).2 0) == false)) : Option Bool) = some false := by
        simp only [leZ_eq, eqZ_eq, bif_dec]
        by_cases h0 : 0 ≤ x.2.2.2
        · rw [if_pos h0]
          by_cases h1 : x.2.2.2 ≤ 1073741824
          · rw [decide_eq_true (hcode.2 ⟨hr, h0, h1⟩), decide_eq_true h1]; rfl
          · rw [decide_eq_false (fun e => h1 (hcode.1 e).2.2), decide_eq_false h1]; rfl
        · rw [if_neg h0, decide_eq_false (fun e => h0 (hcode.1 e).2.1)]; rfl
      rw [hfalse, bind_in]
      unfold ladinglaw10_NameGuards.j1
      rw [cond_false, bif_eqZ]
      by_cases h0 : (dropS holds x.2.1 x.2.2.2).2 = 0
      · have hnl := h.nl
        rw [if_pos h0, cut_in (by omega) (by omega) (by omega), bind_in, bind_in, app_in (by simp; omega), bind_in, z64_succ (by omega), bind_in, cut_in (by omega) (by omega) (by omega), bind_in, bind_in, app_in (by simp; omega), bind_in, bind_in]
        obtain ⟨⟨k1, k2⟩, k3, _, _⟩ := drop_ok h0
        have hhl := h.hl
        refine take_ok k hk x hx _ _ (.inr ⟨by dsimp only; omega, ⟨?_, by dsimp only; omega, fun y hy => ?_, fun y hy => ?_, fun y hy => ?_⟩, hdrop⟩)
        · simp; omega
        · have : y ∈ names := by
            simp only [List.nil_append, List.mem_append] at hy
            rcases hy with hy | hy
            · exact List.mem_of_mem_take (List.mem_of_mem_drop hy)
            · exact List.mem_of_mem_take (List.mem_of_mem_drop hy)
          exact h.nb y this
        · rcases k3 y hy with e | e
          · rw [e]; exact hx
          · exact h.hb y e
        · have : y ∈ names := by
            simp only [List.nil_append, List.mem_append] at hy
            rcases hy with hy | hy
            · exact List.mem_of_mem_take (List.mem_of_mem_drop hy)
            · exact List.mem_of_mem_take (List.mem_of_mem_drop hy)
          exact h.rt y this
      · rw [if_neg h0, bind_in]
        exact plain
theorem guards_true (l : List GAct) : ladinglaw10_NameGuards l = some true := by
  unfold ladinglaw10_NameGuards
  rw [small_eq, bind_in, bif_ltZ]
  by_cases hl : l.length ≤ 60
  · rw [if_neg (by omega)]
    have : ∃ b, loopF (fun x => ladinglaw10_NameGuards.b4 l true x.1 x.2.1 x.2.2) (([] : List GHold), (0 : Int), ([] : List Bs)) = some b ∧ b = true := by
      refine loopF_inv (fun k x => x.2.1 = (k : Int) ∧ Inv k x.1 x.2.2) l.length ⟨rfl, ⟨by simp, by simp, by simp, by simp, by simp⟩⟩ (fun k hk x hx => ?_) (fun x hx => ?_) (by omega)
      · obtain ⟨holds, n, names⟩ := x
        obtain ⟨hn, hI⟩ := hx
        dsimp only at hn hI
        subst hn
        have hnl := hI.nl
        by_cases h30 : l[k].2.1.length ≤ 30
        · obtain ⟨a, ha, hA⟩ := at_eq names l[k] (by omega)
          obtain ⟨holds', names', h1, h2⟩ := act_ok k (by omega) l[k] h30 holds names hI a hA
          refine .inl ⟨(holds', ((k + 1 : Nat) : Int), names'), ?_, rfl, h2⟩
          dsimp only [ladinglaw10_NameGuards.b4]
          rw [bif_ltZ, if_pos (by omega), idx_nat hk, bind_in, bif_ltZ, if_neg (by omega), ha, bind_in, h1]
        · refine .inr ⟨true, ?_, rfl⟩
          dsimp only [ladinglaw10_NameGuards.b4]
          rw [bif_ltZ, if_pos (by omega), idx_nat hk, bind_in, bif_ltZ, if_pos (by omega)]
      · obtain ⟨holds, n, names⟩ := x
        obtain ⟨hn, hI⟩ := hx
        dsimp only at hn hI
        subst hn
        refine ⟨true, ?_, rfl⟩
        dsimp only [ladinglaw10_NameGuards.b4]
        rw [bif_ltZ, if_neg (by omega)]
    obtain ⟨b, h1, rfl⟩ := this
    exact h1
  · rw [if_pos (by omega)]
end Go.Proofs.YtkhlbajdoaokeaaDoor
