/-
  Layer 11 (keys): the law KeysHolds in plain words.
-/
import Derived.Test.YtnbkjaoehkmcpaaK1
namespace Go.Proofs.Ytnbkjaoehkmcpaa
open Go.Lad
set_option linter.unusedVariables false
set_option linter.unusedSimpArgs false
theorem remZ_in {a : Int} {n : Nat} (h0 : 0 ≤ a) (h1 : a ≤ 9223372036854775807) (hn : 0 < n) : ∃ i : Nat, remZ .i64 a (n : Int) = some (i : Int) ∧ i < n := by
  have hm : 0 ≤ a.tmod n ∧ a.tmod n < n := ⟨Int.tmod_nonneg _ h0, Int.tmod_lt_of_pos _ (by omega)⟩
  refine ⟨(a.tmod n).toNat, ?_, by omega⟩
  have hle : a.tmod n ≤ a := by
    rw [Int.tmod_eq_emod_of_nonneg h0] at hm ⊢
    by_cases h : a < n
    · rw [Int.emod_eq_of_lt h0 h]; omega
    · omega
  unfold remZ
  have e1 : eqZ (n : Int) 0 = false := by rw [eqZ_eq]; exact decide_eq_false (by omega)
  have e2 : inZ .i64 (a.tmod n) = true := by
    unfold inZ
    rw [leZ_eq, leZ_eq]
    simp [IntKind.min, IntKind.max, IntKind.signed, IntKind.bits]
    omega
  rw [e1, e2]
  simp only [Bool.not_false, Bool.and_true, cond_true]
  congr 1
  omega
/-- a fact that is about a name and is neither an advice nor a verdict -/
def about (s : Bs) (f : GFact) : Bool := decide (nameF f = s ∧ f.1 ≠ 3 ∧ f.1 ≠ 7)
theorem own_about {s : Bs} {f : GFact} (h : about s f = false) : ownB s f = false ∧ tdB s f = false := by
  unfold about at h
  rw [decide_eq_false_iff_not] at h
  unfold ownB tdB
  rw [decide_eq_false_iff_not, decide_eq_false_iff_not]
  have key : ∀ k : Int, f.1 = k → k ≠ 0 → k ≠ 3 → k ≠ 7 → f.2.1 = s → False := fun k hk h0 h3 h7 hs => h ⟨by unfold nameF; rw [if_neg (by omega), if_neg (by omega)]; exact hs, by omega, by omega⟩
  constructor
  · rintro ⟨h5 | h4, hs⟩
    · exact key 5 h5 (by decide) (by decide) (by decide) hs
    · exact key 4 h4 (by decide) (by decide) (by decide) hs
  · rintro ⟨h5 | h4, hs⟩
    · exact key 5 h5 (by decide) (by decide) (by decide) hs
    · exact key 6 h4 (by decide) (by decide) (by decide) hs
theorem own_keep {l : List GFact} {s : Bs} {f : GFact} (h : about s f = false) : ownT (l ++ [f]) s = ownT l s ∧ delT (l ++ [f]) s = delT l s := by
  obtain ⟨h1, h2⟩ := own_about h
  unfold ownT delT
  rw [lastOf_snoc, lastOf_snoc, h1, h2]
  exact ⟨rfl, rfl⟩
/-- what fewer than needed may not do -/
theorem few_not {l : List GFact} {reg : List Int} {f : GFact} {S bad : List Int} (hf : about (nameF f) f = true) (ho : (ownT l (nameF f)).2.2 = true) (h1 : cnt (ownT l (nameF f)).1 bad < (ownT l (nameF f)).2.1)
    (h2 : ¬ (1 ≤ (delT l (nameF f)).2.1 ∧ (delT l (nameF f)).2.1 ≤ cnt (delT l (nameF f)).1 bad)) (hS : ∀ x ∈ S, x ∈ bad) : mayF l reg f S ≠ 0 := by
  unfold about at hf
  have hf := of_decide_eq_true hf
  have c1 := cnt_le (K := (ownT l (nameF f)).1) fun x hx _ => hS x hx
  have c2 := cnt_le (K := (delT l (nameF f)).1) fun x hx _ => hS x hx
  have hb : mayB l f S = 23 := by
    unfold mayB
    rw [ho]
    rw [if_neg (by simp), if_neg (by rw [if_neg (by simp), if_neg (by simp)]; omega), if_neg (by omega)]
  unfold mayF
  split
  · split
    · rw [hb]; decide
    · decide
  · rw [if_neg (by omega)]
    split
    · rw [hb]; decide
    · decide
theorem holds_true (l : List GFact) (reg : List Int) (sg : List (List Int)) (nm : Bs) (at_ : Int) (bad : List Int) (hl : l.length ≤ 2000000) (hsg : sg.length ≤ 2000000) (hat : 0 ≤ at_ ∧ at_ ≤ 255) : ladinglaw11_KeysHolds l reg sg nm at_ bad = some true := by
  unfold ladinglaw11_KeysHolds
  rw [small_true]
  simp only [bind_in]
  rw [app_in (by simp; omega)]
  obtain ⟨b, hb, hfew⟩ := few_eq (l := l) (sg := [reg, bad] ++ sg) (n := 17) (by omega) (by simp; omega)
  simp only [bind_in]
  rw [hb]
  simp only [bind_in, ltZ_eq]
  cases b with
  | false => rfl
  | true =>
    obtain ⟨f1, f2, f3, f4⟩ := hfew rfl
    simp only [Bool.not_true, cond_false, bind_in]
    by_cases h15 : 15 < (l.length : Int)
    · rw [decide_eq_true h15]; rfl
    · rw [decide_eq_false h15]
      have hBd : Bd l := ⟨by omega, fun f hf => Nat.le_trans (f3 f hf) (by omega)⟩
      have hreg : reg.length ≤ 20 := f4 reg (by simp)
      have hbad : bad.length ≤ 20 := f4 bad (by simp)
      have hS : ∀ S ∈ sg, S.length ≤ 20 := fun S hS => f4 S (by simp [hS])
      simp only [ladinglaw11_KeysHolds.j5, cond_false]
      rw [admit_eq hBd (fun S h => Nat.le_trans (hS S h) (by omega)) (by omega)]
      obtain ⟨n, hn, hnl, hadm⟩ := adm_spec l reg sg
      simp only [bind_in]
      rw [hn]
      simp only [ltZ_eq, bif_dec]
      rw [if_neg (by omega), decide_eq_false (by omega)]
      simp only [bind_in, ladinglaw11_KeysHolds.j4, cond_false]
      rw [hn, z64_succ (by omega)]
      simp only [bind_in]
      obtain ⟨i, hi, hin⟩ := remZ_in (a := at_) (n := n + 1) hat.1 (by omega) (by omega)
      rw [hi]
      simp only [bind_in]
      rw [cut_take (by omega)]
      simp only [bind_in]
      rw [owner_eq (hBd.take i)]
      simp only [bind_in]
      rw [delegates_eq (hBd.take i)]
      have ho := ownT_len (hBd.take i) nm
      have hd := delT_len (hBd.take i) nm
      simp only [bind_in]
      rw [count_eq (by omega) (by omega), count_eq (by omega) (by omega)]
      simp only [bind_in, bif_not, leZ_eq, bif_dec]
      cases hw : (ownT (l.take i) nm).2.2 with
      | false => rfl
      | true =>
        simp only [cond_true]
        by_cases c1 : (ownT (l.take i) nm).2.1 ≤ cnt (ownT (l.take i) nm).1 bad
        · rw [if_pos c1]; rfl
        · rw [if_neg c1]
          have fin : ¬ (1 ≤ (delT (l.take i) nm).2.1 ∧ (delT (l.take i) nm).2.1 ≤ cnt (delT (l.take i) nm).1 bad) → ladinglaw11_KeysHolds.j3 l sg nm bad true (admF l reg sg) (i : Int) (ownT (l.take i) nm) false = some true := by
            intro c2
            unfold ladinglaw11_KeysHolds.j3
            rw [cond_false]
            have := loopF_inv (body := fun x => ladinglaw11_KeysHolds.b1 l sg nm bad true (admF l reg sg) (ownT (l.take i) nm) x) (Q := fun b => b = true) (x := (i : Int))
              (fun k x => x = ((i + k : Nat) : Int) ∧ i + k ≤ n ∧ ownT (l.take (i + k)) nm = ownT (l.take i) nm ∧ delT (l.take (i + k)) nm = delT (l.take i) nm) (n - i) ⟨by simp, by omega, rfl, rfl⟩ ?_ ?_
            · obtain ⟨b, h1, h2⟩ := this
              rw [h1, h2]
            · rintro k hk x ⟨rfl, h1, h2, h3⟩
              have hkl : i + k < l.length := by omega
              simp only [ladinglaw11_KeysHolds.b1, hn, bif_ltZ, lt_t (show i + k < n by omega), if_true, idx_nat hkl, bind_in, rname_eq, bif_dec, bif_not, bif_eqZ]
              have hab : (if nameF l[i + k] = nm then (if l[i + k].1 = 3 then some false else some (!eqZ l[i + k].1 7)) else some false) = some (about nm l[i + k]) := by
                unfold about
                by_cases a : nameF l[i + k] = nm
                · rw [if_pos a]
                  by_cases b : l[i + k].1 = 3
                  · rw [if_pos b]; simp [b]
                  · rw [if_neg b, eqZ_eq]; simp [a, b]
                · rw [if_neg a]; simp [a]
              rw [hab]
              simp only [bind_in, ladinglaw11_KeysHolds.j2, bif_ltZ]
              cases hx : about nm l[i + k] with
              | true =>
                simp only [cond_true]
                have hnm : nameF l[i + k] = nm := (of_decide_eq_true hx).1
                subst hnm
                have hnot : ¬ ∀ x ∈ sg.getD (i + k) [], x ∈ bad := fun hS => by
                  refine few_not (l := l.take (i + k)) (reg := reg) (bad := bad) hx (by rw [h2]; exact hw) (by rw [h2]; omega) (by rw [h3]; exact c2) hS (hadm (i + k) hkl (by omega))
                have hlt : i + k < sg.length := by
                  apply Classical.byContradiction
                  intro hge
                  refine hnot ?_
                  rw [List.getD_eq_getElem?_getD, List.getElem?_eq_none (by omega)]
                  simp
                rw [if_pos (by omega), z64_i (by omega)]
                simp only [bind_in]
                rw [idx_eq (k := i + k) (by omega) hlt]
                simp only [bind_in]
                have hg : sg.getD (i + k) [] = sg[i + k] := by rw [List.getD_eq_getElem?_getD, List.getElem?_eq_getElem hlt]; rfl
                rw [only_eq (Nat.le_trans (hS _ (List.getElem_mem hlt)) (by omega)) (by omega)]
                rw [hg] at hnot
                simp only [bind_in]
                exact .inr ⟨_, rfl, by rw [decide_eq_false hnot]; rfl⟩
              | false =>
                simp only [cond_false]
                rw [z64_succ (by omega)]
                simp only [bind_in]
                rw [cut_take (by omega)]
                simp only [bind_in]
                rw [owner_eq (hBd.take _)]
                obtain ⟨k1, k2⟩ := own_keep (l := l.take (i + k)) hx
                rw [← take_snoc l (i + k) hkl] at k1 k2
                simp only [bind_in]
                rw [k1, h2, hw]
                simp only [Bool.not_true, cond_false, bif_not, bif_eqZ]
                rw [if_pos (by first | trivial | rfl), ints_eq (by omega)]
                simp only [bind_in, decide_true, Bool.not_true, ladinglaw11_KeysHolds.j1, cond_false]
                exact .inl ⟨_, by rw [z64_succ (by omega)]; rfl, by rw [Nat.add_assoc]; exact ⟨by rfl, by omega, by rw [← Nat.add_assoc, k1, h2], by rw [← Nat.add_assoc, k2, h3]⟩⟩
            · rintro x ⟨rfl, h1, h2, h3⟩
              refine ⟨true, ?_, rfl⟩
              simp only [ladinglaw11_KeysHolds.b1, hn, bif_ltZ]
              rw [if_neg (by omega)]
          by_cases c2 : 1 ≤ (delT (l.take i) nm).2.1
          · rw [if_pos c2]
            by_cases c3 : (delT (l.take i) nm).2.1 ≤ cnt (delT (l.take i) nm).1 bad
            · rw [decide_eq_true c3]; rfl
            · rw [decide_eq_false c3]
              exact fin fun h => c3 h.2
          · rw [if_neg c2]
            exact fin fun h => c2 h.1
end Go.Proofs.Ytnbkjaoehkmcpaa
